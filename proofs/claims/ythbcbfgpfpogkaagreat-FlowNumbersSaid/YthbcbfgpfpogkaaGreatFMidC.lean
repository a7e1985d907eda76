/- The relation between the small machine's heap and the model's world; what a new block, a store, a map's update do to it. -/
import Derived.Test.YthbcbfgpfpogkaaGreatFMidB
import Derived.Laws.CopyRow
import Derived.Laws.Tables
import Derived.Great.BuildSlice
import Derived.MapKept
set_option linter.all false
set_option warn.classDefReducibility false
namespace Go.Mid
open Go.RowKit
/-- blocks of the small heap that nothing of the world is told of yet. -/
class Res where
  res : Nat → Prop
  /-- objects of the world that nobody turns. -/
  pin : Nat → Obj → Prop
instance noRes : Res := ⟨fun _ => False, fun _ _ => False⟩
variable {P : Program} [Orc] [Z : Res]

structure CellsR (P : Program) (ρ : Rho) (w : World) (l : Lc) (t : Tr V) (n : Nat) (g : Bool) (e : TypeId) (arr : Array Value) : Prop where
  at_ : w.heap[l.blk]? = some (.cells arr e (0, 0))
  get : ∀ i v, t.get i = some v → i < n ∧ ∃ x, arr[l.base + i]? = some x ∧ Rel ρ v x
  fit : l.base + n ≤ arr.size
  top : g = true → n ≤ l.cap * P.cellsOf e ∧ l.base + l.cap * P.cellsOf e ≤ arr.size

/-- cells that are read alone. -/
structure RoR (ρ : Rho) (w : World) (l : Lc) (t : Tr V) (e : TypeId) (arr : Array Value) (fz : Nat × Nat) : Prop where
  at_ : w.heap[l.blk]? = some (.cells arr e fz)
  get : ∀ i v, t.get i = some v → ∃ x, arr[l.base + i]? = some x ∧ Rel ρ v x

structure MapR (ρ : Rho) (w : World) (l : Lc) (es : List (V × V)) (ents : List MapEntry) (clock : Nat) : Prop where
  at_ : w.heap[l.blk]? = some (.map ⟨ents⟩ clock)
  len : es.length = ents.length
  get : ∀ (i : Nat) k v e, es[i]? = some (k, v) → ents[i]? = some e → Rel ρ k e.key ∧ Rel ρ v e.val

def ObR (P : Program) (ρ : Rho) (w : World) (l : Lc) : Ob → Prop
  | .cells t n g e => ∃ arr, CellsR P ρ w l t n g e arr
  | .ro t _ => ∃ arr fz e', RoR ρ w l t e' arr fz
  | .map es => ∃ ents clock, MapR ρ w l es ents clock
  | .dead => True

theorem ObR.keep {ρ ρ' : Rho} {w w' : World} {l : Lc} {o : Ob} (he : Ext ρ ρ') (hw : w'.heap[l.blk]? = w.heap[l.blk]?) (h : ObR P ρ w l o) : ObR P ρ' w' l o := by
  cases o with
  | cells t n g e =>
    obtain ⟨arr, h⟩ := h
    exact ⟨arr, by rw [hw]; exact h.at_, fun i v hv => let ⟨a, x, b, c⟩ := h.get i v hv; ⟨a, x, b, c.ext he⟩, h.fit, h.top⟩
  | ro t e =>
    obtain ⟨arr, fz, e', h⟩ := h
    exact ⟨arr, fz, e', by rw [hw]; exact h.at_, fun i v hv => let ⟨x, b, c⟩ := h.get i v hv; ⟨x, b, c.ext he⟩⟩
  | map es =>
    obtain ⟨ents, clock, h⟩ := h
    exact ⟨ents, clock, by rw [hw]; exact h.at_, h.len, fun i k v e h1 h2 => let ⟨a, b⟩ := h.get i k v e h1 h2; ⟨a.ext he, b.ext he⟩⟩
  | dead => trivial

def Live (P : Program) (ρ : Rho) (w : World) (h : Hp) : Prop := ∀ b l o, ρ b = some l → h.t.get b = some o → ObR P ρ w l o
def Hp.alive (h : Hp) (b : Nat) : Prop := ∃ o, h.t.get b = some o ∧ o ≠ .dead
/-- a block that nobody writes. -/
def Hp.still (h : Hp) (b : Nat) : Prop := h.t.get b = none ∨ ∃ t e, h.t.get b = some (.ro t e)
theorem Hp.still_put {h : Hp} {b : Nat} (o : Ob) {x : Nat} (e : b ≠ x) : (h.put b o).still x ↔ h.still x := by
  simp only [Hp.still, Hp.put, Tr.get_set_ne _ _ e]
theorem Hp.still_new {h : Hp} (o : Ob) {x : Nat} (e : x ≠ h.n) : (h.new o).still x ↔ h.still x := by
  simp only [Hp.still, Hp.new, Tr.get_set_ne _ _ (Ne.symm e)]
theorem Hp.not_still {h : Hp} {b : Nat} {o : Ob} (hg : h.t.get b = some o) (ho : ∀ t e, o ≠ .ro t e) : ¬ h.still b := by
  rintro (h1 | ⟨t, e, h1⟩)
  · rw [hg] at h1; cases h1
  · rw [hg] at h1; cases h1; exact ho t e rfl

/-- each package variable lies in its block. -/
def Glob (ρ : Rho) : Prop := ∀ g, g < Orc.ng → ∃ c, ρ g = some ⟨g, 0, c⟩
theorem Glob.ext {ρ ρ' : Rho} (he : Ext ρ ρ') (h : Glob ρ) : Glob ρ' := fun g hg => let ⟨c, h⟩ := h g hg; ⟨c, he _ _ h⟩

structure R (P : Program) (w0 w : World) (h : Hp) (ρ : Rho) : Prop where
  below : Below w0.heap.size w0 w
  bnd : ∀ b l, ρ b = some l → b < h.n ∧ ((w0.heap.size ≤ l.blk ∧ l.base = 0) ∨ h.still b) ∧ ((l.base ≠ 0 ∧ l.blk = 0) ∨ l.blk < w.heap.size)
  live : Live P ρ w h
  inj : ∀ b b' l l', ρ b = some l → ρ b' = some l' → b ≠ b' → h.alive b → h.alive b' → l.blk ≠ l'.blk
  fresh : ∀ b, h.n ≤ b → h.t.get b = none
  glob : Glob ρ
  base : Orc.inv w0
  rs : ∀ b, Z.res b → ρ b = none ∧ b < h.n
  pn : ∀ r O, Z.pin r O → w.heap[r]? = some O ∧ w0.heap.size ≤ r ∧ ∀ b l, ρ b = some l → l.blk ≠ r

theorem R.own2 {w0 w : World} {h : Hp} {ρ : Rho} (H : R P w0 w h ρ) {b : Nat} {l : Lc} (hb : ρ b = some l) (hn : ¬ h.still b) : w0.heap.size ≤ l.blk ∧ l.base = 0 := (H.bnd b l hb).2.1.elim id fun h => (hn h).elim
theorem R.own {w0 w : World} {h : Hp} {ρ : Rho} (H : R P w0 w h ρ) {b : Nat} {l : Lc} (hb : ρ b = some l) (hn : ¬ h.still b) : w0.heap.size ≤ l.blk := (H.own2 hb hn).1
theorem R.lt {w0 w : World} {h : Hp} {ρ : Rho} (H : R P w0 w h ρ) {b : Nat} {l : Lc} (hb : ρ b = some l) (ha : h.alive b) : l.blk < w.heap.size := by
  obtain ⟨o, h1, h2⟩ := ha
  have hl := H.live b l o hb h1
  cases o with
  | cells t n g e => obtain ⟨arr, c⟩ := hl; exact (Array.getElem?_eq_some_iff.1 c.at_).1
  | ro t e => obtain ⟨arr, fz, e', c⟩ := hl; exact (Array.getElem?_eq_some_iff.1 c.at_).1
  | map es => obtain ⟨ents, clock, c⟩ := hl; exact (Array.getElem?_eq_some_iff.1 c.at_).1
  | dead => exact (h2 rfl).elim
theorem R.drew {w0 w : World} {h : Hp} {ρ : Rho} (H : R P w0 w h ρ) : R P w0 w.drew h ρ :=
  ⟨H.below.drew, H.bnd, fun b l o h1 h2 => ObR.keep (w := w) (Ext.refl _) rfl (H.live b l o h1 h2), H.inj, H.fresh, H.glob, H.base, H.rs, H.pn⟩

theorem R.mono {Z1 Z2 : Res} {w0 w : World} {h : Hp} {ρ : Rho} (hz : ∀ b, Z2.res b → Z1.res b) (hp : ∀ r O, Z2.pin r O → Z1.pin r O) (H : @R _ Z1 P w0 w h ρ) : @R _ Z2 P w0 w h ρ :=
  @R.mk _ Z2 P _ _ _ _ (@R.below _ Z1 P _ _ _ _ H) (@R.bnd _ Z1 P _ _ _ _ H) (@R.live _ Z1 P _ _ _ _ H) (@R.inj _ Z1 P _ _ _ _ H) (@R.fresh _ Z1 P _ _ _ _ H) (@R.glob _ Z1 P _ _ _ _ H) (@R.base _ Z1 P _ _ _ _ H) (fun b hb => @R.rs _ Z1 P _ _ _ _ H b (hz b hb)) (fun r O h => @R.pn _ Z1 P _ _ _ _ H r O (hp r O h))
/-- one is told no more than the other. -/
structure Res.le (Z Z' : Res) : Prop where
  res : ∀ b, Z.res b → Z'.res b
  pin : ∀ r O, Z.pin r O → Z'.pin r O
theorem Res.le.refl (Z : Res) : Res.le Z Z := ⟨fun _ h => h, fun _ _ h => h⟩
theorem Res.le.trans {A B C : Res} (x : Res.le A B) (y : Res.le B C) : Res.le A C := ⟨fun b h => y.res b (x.res b h), fun r O h => y.pin r O (x.pin r O h)⟩
theorem R.le {Z1 Z2 : Res} {w0 w : World} {h : Hp} {ρ : Rho} (hz : Res.le Z2 Z1) (H : @R _ Z1 P w0 w h ρ) : @R _ Z2 P w0 w h ρ := R.mono hz.res hz.pin H
/-- a pinned object turns, that is told of no more. -/
theorem R.shut {Z1 Z2 : Res} {w0 w w' : World} {h : Hp} {ρ : Rho} (H : @R _ Z1 P w0 w h ρ) {r : Nat} {O : Obj} (hr : Z1.pin r O) (hB : Below w0.heap.size w w') (hs : w'.heap.size = w.heap.size) (hw : ∀ j, j ≠ r → w'.heap[j]? = w.heap[j]?)
    (hres : ∀ b, Z2.res b → Z1.res b) (hpin : ∀ x O, Z2.pin x O → Z1.pin x O ∧ x ≠ r) : @R _ Z2 P w0 w' h ρ := by
  obtain ⟨_, _, hne⟩ := @R.pn _ Z1 P _ _ _ _ H r O hr
  refine @R.mk _ Z2 P _ _ _ _ ((@R.below _ Z1 P _ _ _ _ H).trans hB) (fun b l hb => ?_) (fun b l o hb ho => ?_) (@R.inj _ Z1 P _ _ _ _ H) (@R.fresh _ Z1 P _ _ _ _ H) (@R.glob _ Z1 P _ _ _ _ H) (@R.base _ Z1 P _ _ _ _ H) (fun b hb => @R.rs _ Z1 P _ _ _ _ H b (hres b hb)) (fun x O' hx => ?_)
  · obtain ⟨h1, h2, h3⟩ := @R.bnd _ Z1 P _ _ _ _ H b l hb
    exact ⟨h1, h2, by rw [hs]; exact h3⟩
  · exact (@R.live _ Z1 P _ _ _ _ H b l o hb ho).keep (Ext.refl _) (hw _ (hne b l hb))
  · obtain ⟨h1, h2⟩ := hpin x O' hx
    obtain ⟨h3, h4, h5⟩ := @R.pn _ Z1 P _ _ _ _ H x O' h1
    exact ⟨by rw [hw x h2]; exact h3, h4, h5⟩

/-- only the 'low' mark differs. -/
theorem R.low {w0 w : World} {h h' : Hp} {ρ : Rho} (H : R P w0 w h ρ) (ht : h'.t = h.t) (hn : h'.n = h.n) : R P w0 w h' ρ :=
  ⟨H.below, fun b l hb => by rw [hn]; simpa only [Hp.still, ht] using H.bnd b l hb, fun b l o h1 h2 => H.live b l o h1 (by rw [← ht]; exact h2), fun b b' l l' h1 h2 h3 h4 h5 =>
    H.inj b b' l l' h1 h2 h3 (by simpa [Hp.alive, ht] using h4) (by simpa [Hp.alive, ht] using h5), fun b hb => by rw [ht]; exact H.fresh b (by omega), H.glob, H.base, fun b hb => by rw [hn]; exact H.rs b hb, H.pn⟩

def upd (ρ : Rho) (b : Nat) (l : Lc) : Rho := fun x => if x = b then some l else ρ x
theorem upd_same (ρ : Rho) (b : Nat) (l : Lc) : upd ρ b l b = some l := by simp [upd]
theorem upd_ext {ρ : Rho} {b : Nat} {l : Lc} (h : ρ b = none) : Ext ρ (upd ρ b l) := fun x k hx => by
  unfold upd; rw [if_neg (fun e => by subst e; rw [h] at hx; cases hx)]; exact hx
theorem upd_inv {ρ : Rho} {b x : Nat} {l k : Lc} (h : upd ρ b l x = some k) : (x = b ∧ k = l) ∨ (x ≠ b ∧ ρ x = some k) := by
  unfold upd at h
  split at h
  · rename_i e; exact .inl ⟨e, by simpa using h.symm⟩
  · rename_i e; exact .inr ⟨e, h⟩

theorem R.pnNew {w0 w w' : World} {h : Hp} {ρ : Rho} (H : R P w0 w h ρ) (hk : ∀ j, j < w.heap.size → w'.heap[j]? = w.heap[j]?) {b : Nat} {k : Lc} (hl : w.heap.size ≤ k.blk) :
    ∀ r O, Z.pin r O → w'.heap[r]? = some O ∧ w0.heap.size ≤ r ∧ ∀ x l, Mid.upd ρ b k x = some l → l.blk ≠ r := by
  intro r O hp
  obtain ⟨h1, h2, h3⟩ := H.pn r O hp
  have hr : r < w.heap.size := (Array.getElem?_eq_some_iff.1 h1).1
  refine ⟨by rw [hk r hr]; exact h1, h2, fun x l hx => ?_⟩
  rcases upd_inv hx with ⟨_, rfl⟩ | ⟨_, hx⟩
  · omega
  · exact h3 x l hx
theorem R.pnUpd {w0 w w' : World} {h : Hp} {ρ : Rho} (H : R P w0 w h ρ) {b : Nat} {l : Lc} (hb : ρ b = some l) (hk : ∀ j, j ≠ l.blk → w'.heap[j]? = w.heap[j]?) :
    ∀ r O, Z.pin r O → w'.heap[r]? = some O ∧ w0.heap.size ≤ r ∧ ∀ x k, ρ x = some k → k.blk ≠ r := by
  intro r O hp
  obtain ⟨h1, h2, h3⟩ := H.pn r O hp
  exact ⟨by rw [hk r (Ne.symm (h3 b l hb))]; exact h1, h2, h3⟩

/-- an object that may be a new block of ours: no frozen cell. -/
def Obj.soft : Obj → Prop
  | .cells _ _ fz => fz = (0, 0)
  | _ => True
theorem R.new {w0 w : World} {h : Hp} {ρ : Rho} (H : R P w0 w h ρ) (o : Ob) (O : Obj) (cap : Nat) (hs : Obj.soft O)
    (ho : ObR P (upd ρ h.n ⟨w.heap.size, 0, cap⟩) (w.alloc O) ⟨w.heap.size, 0, cap⟩ o) :
    Ext ρ (upd ρ h.n ⟨w.heap.size, 0, cap⟩) ∧ R P w0 (w.alloc O) (h.new o) (upd ρ h.n ⟨w.heap.size, 0, cap⟩) := by
  have hnone : ρ h.n = none := by
    cases hr : ρ h.n with
    | none => rfl
    | some l => have := (H.bnd _ _ hr).1; omega
  have hext : Ext ρ (upd ρ h.n ⟨w.heap.size, 0, cap⟩) := upd_ext hnone
  refine ⟨hext, H.below.alloc H.below.size O, ?_, ?_, ?_, fun b hb => by
    simp only [Hp.new] at hb ⊢; rw [Tr.get_set_ne _ _ (by omega)]; exact H.fresh b (by omega), H.glob.ext hext, H.base, fun b hb => ⟨by unfold Mid.upd; rw [if_neg (Nat.ne_of_lt (H.rs b hb).2)]; exact (H.rs b hb).1, Nat.lt_succ_of_lt (H.rs b hb).2⟩, H.pnNew (fun j hj => heap_alloc_old w O j hj) (Nat.le_refl _)⟩
  · intro b l hb
    rcases upd_inv hb with ⟨rfl, rfl⟩ | ⟨hne, hb⟩
    · refine ⟨Nat.lt_succ_self _, .inl ⟨H.below.size, rfl⟩, .inr ?_⟩
      simp
    · have := H.bnd b l hb
      refine ⟨Nat.lt_succ_of_lt this.1, by rw [Hp.still_new _ hne]; exact this.2.1, this.2.2.imp id fun h => ?_⟩
      simp; omega
  · intro b l o' hb ho'
    rcases upd_inv hb with ⟨rfl, rfl⟩ | ⟨hne, hb⟩
    · simp only [Hp.new, Tr.get_set_same, Option.some.injEq] at ho'
      subst ho'; exact ho
    · simp only [Hp.new] at ho'
      rw [Tr.get_set_ne _ _ (Ne.symm hne)] at ho'
      cases o' with
      | dead => trivial
      | _ => exact (H.live b l _ hb ho').keep hext (heap_alloc_old w O _ (H.lt hb ⟨_, ho', by simp⟩))
  · intro b b' l l' hb hb' hne ha ha'
    have old : ∀ x : Nat, x ≠ h.n → (h.new o).alive x → h.alive x := by
      rintro x hx ⟨y, h1, h2⟩
      simp only [Hp.new] at h1
      rw [Tr.get_set_ne _ _ (Ne.symm hx)] at h1
      exact ⟨y, h1, h2⟩
    rcases upd_inv hb with ⟨rfl, rfl⟩ | ⟨h1, hb⟩
    · rcases upd_inv hb' with ⟨rfl, rfl⟩ | ⟨h2, hb'⟩
      · exact (hne rfl).elim
      · have := H.lt hb' (old b' h2 ha'); simp only; omega
    · rcases upd_inv hb' with ⟨rfl, rfl⟩ | ⟨h2, hb'⟩
      · have := H.lt hb (old b h1 ha); simp only; omega
      · exact H.inj b b' l l' hb hb' hne (old b h1 ha) (old b' h2 ha')

/-- the world turns at one block. -/
structure Upd (w w' : World) (k : Nat) (O : Obj) : Prop where
  os : w'.os = w.os
  tape : w'.tape = w.tape
  output : w'.output = w.output
  size : w'.heap.size = w.heap.size
  other : ∀ j, j ≠ k → w'.heap[j]? = w.heap[j]?
  at_ : w'.heap[k]? = some O

theorem Upd.below {B : Nat} {w0 w w' : World} {k : Nat} {O : Obj} (h : Upd w w' k O) (hb : Below B w0 w) (hk : B ≤ k) : Below B w0 w' :=
  ⟨h.os.trans hb.os, h.tape.trans hb.tape, h.output.trans hb.output, by rw [h.size]; exact hb.size, fun j hj => by rw [h.other j (by omega)]; exact hb.block j hj⟩

theorem R.upd' {w0 w w' : World} {h : Hp} {ρ : Rho} (H : R P w0 w h ρ) {b : Nat} {l : Lc} {O : Obj} (hb : ρ b = some l) (ha : h.alive b) (hns : ¬ h.still b) (o : Ob) (hw : Upd w w' l.blk O)
    (ho : ObR P ρ w' l o) : R P w0 w' (h.put b o) ρ := by
  refine ⟨hw.below H.below (H.own hb hns), ?_, ?_, ?_, fun x hx => by
    simp only [Hp.put] at hx ⊢
    have := (H.bnd b l hb).1
    rw [Tr.get_set_ne _ _ (by omega)]; exact H.fresh x hx, H.glob, H.base, fun b hb => H.rs b hb, H.pnUpd hb hw.other⟩
  · intro x k hx
    have := H.bnd x k hx
    refine ⟨this.1, ?_, by rw [hw.size]; exact this.2.2⟩
    by_cases e : b = x
    · subst e; exact .inl (H.own2 hx hns)
    · rw [Hp.still_put _ e]; exact this.2.1
  · intro x k y hx hy
    simp only [Hp.put] at hy
    by_cases e : b = x
    · subst e
      rw [Tr.get_set_same] at hy
      rw [hb] at hx
      simp only [Option.some.injEq] at hx hy
      subst hx hy
      exact ho
    · rw [Tr.get_set_ne _ _ e] at hy
      cases y with
      | dead => trivial
      | _ => exact (H.live x k _ hx hy).keep (Ext.refl _) (hw.other _ (H.inj x b k l hx hb (Ne.symm e) ⟨_, hy, by simp⟩ ha))
  · intro x x' k k' hx hx' hne a1 a2
    have old : ∀ y, (h.put b o).alive y → h.alive y := by
      rintro y ⟨z, h1, h2⟩
      simp only [Hp.put] at h1
      by_cases e : b = y
      · subst e; exact ha
      · rw [Tr.get_set_ne _ _ e] at h1
        exact ⟨z, h1, h2⟩
    exact H.inj x x' k k' hx hx' hne (old x a1) (old x' a2)

theorem R.upd {w0 w w' : World} {h : Hp} {ρ : Rho} (H : R P w0 w h ρ) {b : Nat} {l : Lc} {O : Obj} (hb : ρ b = some l) (ha : h.alive b) (hns : ¬ h.still b) (o : Ob) (hs : Obj.soft O) (hw : Upd w w' l.blk O)
    (ho : ObR P ρ w' l o) : R P w0 w' (h.put b o) ρ := H.upd' hb ha hns o hw ho

/-- a block is given up. -/
theorem R.kill {w0 w : World} {h : Hp} {ρ : Rho} (H : R P w0 w h ρ) (b : Nat) (hbn : b < h.n) (hns : ¬ h.still b) : R P w0 w (h.put b .dead) ρ := by
  refine ⟨H.below, fun x k hx => ⟨(H.bnd x k hx).1, by
    by_cases e : b = x
    · subst e; exact .inl (H.own2 hx hns)
    · rw [Hp.still_put _ e]; exact (H.bnd x k hx).2.1, (H.bnd x k hx).2.2⟩, ?_, ?_, fun x hx => by
    simp only [Hp.put] at hx ⊢
    rw [Tr.get_set_ne _ _ (by omega)]; exact H.fresh x hx, H.glob, H.base, fun b hb => H.rs b hb, H.pn⟩
  · intro x k y hx hy
    simp only [Hp.put] at hy
    by_cases e : b = x
    · subst e
      rw [Tr.get_set_same] at hy
      simp only [Option.some.injEq] at hy
      subst hy; trivial
    · rw [Tr.get_set_ne _ _ e] at hy
      exact H.live x k y hx hy
  · intro x x' k k' hx hx' hne a1 a2
    have old : ∀ y, (h.put b .dead).alive y → h.alive y := by
      rintro y ⟨z, h1, h2⟩
      simp only [Hp.put] at h1
      by_cases e : b = y
      · subst e; rw [Tr.get_set_same] at h1; simp only [Option.some.injEq] at h1; exact (h2 h1.symm).elim
      · rw [Tr.get_set_ne _ _ e] at h1
        exact ⟨z, h1, h2⟩
    exact H.inj x x' k k' hx hx' hne (old x a1) (old x' a2)

/-- a new name for a block that has been written in place: the elder name is given up. -/
theorem R.renew {w0 w w' : World} {h : Hp} {ρ : Rho} (H : R P w0 w h ρ) {b : Nat} {l : Lc} {O : Obj} (hb : ρ b = some l) (ha : h.alive b) (hns : ¬ h.still b) (o : Ob) (hs : Obj.soft O) (hw : Upd w w' l.blk O)
    (ho : ObR P (Mid.upd ρ h.n l) w' l o) : Ext ρ (Mid.upd ρ h.n l) ∧ R P w0 w' ((h.put b .dead).new o) (Mid.upd ρ h.n l) := by
  have hnone : ρ h.n = none := by
    cases hr : ρ h.n with
    | none => rfl
    | some l => have := (H.bnd _ _ hr).1; omega
  have hbn : b ≠ h.n := fun e => by rw [e, hnone] at hb; cases hb
  have hext : Ext ρ (Mid.upd ρ h.n l) := upd_ext hnone
  refine ⟨hext, hw.below H.below (H.own hb hns), ?_, ?_, ?_, fun x hx => by
    simp only [Hp.put, Hp.new] at hx ⊢
    have := (H.bnd b l hb).1
    rw [Tr.get_set_ne _ _ (by omega), Tr.get_set_ne _ _ (by omega)]; exact H.fresh x (by omega), H.glob.ext hext, H.base, fun b hb => ⟨by unfold Mid.upd; rw [if_neg (Nat.ne_of_lt (H.rs b hb).2)]; exact (H.rs b hb).1, Nat.lt_succ_of_lt (H.rs b hb).2⟩, fun r O hp => by
    obtain ⟨h1, h2, h3⟩ := H.pnUpd hb hw.other r O hp
    refine ⟨h1, h2, fun x k hx => ?_⟩
    rcases upd_inv hx with ⟨_, rfl⟩ | ⟨_, hx⟩
    · exact h3 b _ hb
    · exact h3 x k hx⟩
  · intro x k hx
    rcases upd_inv hx with ⟨rfl, rfl⟩ | ⟨hne, hx⟩
    · have := H.bnd b k hb
      exact ⟨Nat.lt_succ_self _, .inl (H.own2 hb hns), by rw [hw.size]; exact this.2.2⟩
    · have := H.bnd x k hx
      refine ⟨Nat.lt_succ_of_lt this.1, ?_, by rw [hw.size]; exact this.2.2⟩
      have e0 : x ≠ (h.put b .dead).n := hne
      rw [Hp.still_new _ e0]
      by_cases e : b = x
      · subst e; exact .inl (H.own2 hx hns)
      · rw [Hp.still_put _ e]; exact this.2.1
  · intro x k y hx hy
    simp only [Hp.put, Hp.new] at hy
    rcases upd_inv hx with ⟨rfl, rfl⟩ | ⟨hne, hx⟩
    · rw [Tr.get_set_same] at hy
      simp only [Option.some.injEq] at hy
      subst hy; exact ho
    · rw [Tr.get_set_ne _ _ (Ne.symm hne)] at hy
      by_cases e : b = x
      · subst e
        rw [Tr.get_set_same] at hy
        simp only [Option.some.injEq] at hy
        subst hy; trivial
      · rw [Tr.get_set_ne _ _ e] at hy
        cases y with
        | dead => trivial
        | _ => exact (H.live x k _ hx hy).keep hext (hw.other _ (H.inj x b k l hx hb (Ne.symm e) ⟨_, hy, by simp⟩ ha))
  · intro x x' k k' hx hx' hne a1 a2
    have old : ∀ y, y ≠ h.n → ((h.put b .dead).new o).alive y → h.alive y ∧ y ≠ b := by
      rintro y hy ⟨z, h1, h2⟩
      simp only [Hp.put, Hp.new] at h1
      rw [Tr.get_set_ne _ _ (Ne.symm hy)] at h1
      by_cases e : b = y
      · subst e; rw [Tr.get_set_same] at h1; simp only [Option.some.injEq] at h1; exact (h2 h1.symm).elim
      · rw [Tr.get_set_ne _ _ e] at h1
        exact ⟨⟨z, h1, h2⟩, Ne.symm e⟩
    rcases upd_inv hx with ⟨e1, rfl⟩ | ⟨h1, hx1⟩
    · rcases upd_inv hx' with ⟨e2, rfl⟩ | ⟨h2, hx2⟩
      · exact (hne (e1.trans e2.symm)).elim
      · have o2 := old x' h2 a2
        exact H.inj b x' _ k' hb hx2 (Ne.symm o2.2) ha o2.1
    · have o1 := old x h1 a1
      rcases upd_inv hx' with ⟨e2, rfl⟩ | ⟨h2, hx2⟩
      · exact H.inj x b k _ hx1 hb o1.2 o1.1 ha
      · exact H.inj x x' k k' hx1 hx2 hne o1.1 (old x' h2 a2).1

/-! the model's small operations, run -/
theorem cell_at {w : World} {k o : Nat} {arr : Array Value} {e : TypeId} {fz : Nat × Nat} (h : w.heap[k]? = some (.cells arr e fz)) : w.cell? ⟨k, o, none⟩ = arr[o]? := by
  simp [World.cell?, h]
theorem add_at (k o i : Nat) : (⟨k, o, none⟩ : Addr).add i = ⟨k, o + i, none⟩ := by
  unfold Addr.add; split
  · rename_i h; subst h; rfl
  · rfl
theorem info_of_sz {t : TypeId} {n : Nat} (h : sz P t = some n) : ∃ i, P.info? t = some i ∧ i.size = n := by
  unfold sz at h
  cases hi : P.info? t with
  | none => simp [hi] at h
  | some i => simp [hi] at h; exact ⟨i, rfl, h⟩
theorem run_sz {t : TypeId} {n : Nat} (h : sz P t = some n) (w : World) : (sizeOf t).run P w = .ok n w := by
  obtain ⟨i, hi, rfl⟩ := info_of_sz h
  simp [sizeOf, typeInfo, hi]
theorem cellsOf_sz {t : TypeId} {n : Nat} (h : sz P t = some n) : P.cellsOf t = n := by
  obtain ⟨i, hi, rfl⟩ := info_of_sz h
  simp [Program.cellsOf, hi]
theorem run_agg {t : TypeId} {b : Bool} (h : aggT P t = some b) (w : World) : (isAgg t).run P w = .ok b w := by
  unfold aggT at h
  cases hu : P.underlying t with
  | none => simp [hu] at h
  | some d =>
    simp only [isAgg, Sem.run_bind, run_underlying hu, Result.andThen_ok]
    cases d <;> simp_all
theorem info_of_zero {ρ : Rho} {t : TypeId} {z : V} (h : zero P t = some z) : ∃ i x, P.info? t = some i ∧ i.zero = some x ∧ Rel ρ z x := by
  unfold zero at h
  cases hi : P.info? t with
  | none => simp [hi] at h
  | some i =>
    simp only [hi] at h
    cases hz : i.zero with
    | none => simp [hz] at h
    | some x => simp only [hz] at h; exact ⟨i, x, rfl, hz, absV_rel ρ x z h⟩
theorem run_zero {t : TypeId} {i : TypeInfo} {x : Value} (hi : P.info? t = some i) (hz : i.zero = some x) (w : World) : (zeroValue t).run P w = .ok x w := by
  simp [zeroValue, typeInfo, hi, hz]

theorem Rel.cells {ρ : Rho} {v : V} {x : Value} (h : Rel ρ v x) : RelL ρ (vcells v) x.cells.toList := by
  cases h with
  | agg hl h => exact ⟨hl, h⟩
  | _ => exact RelL.cons (by constructor <;> assumption) (RelL.nil ρ)
theorem Rel.one {ρ : Rho} {v : V} {x : Value} (h : Rel ρ v x) (ho : oneCell v = true) : x.oneCell' = true := by
  cases h <;> simp_all [oneCell, Value.oneCell']
theorem allOne_mem {ρ : Rho} : ∀ {vs : List V} {xs : List Value}, RelL ρ vs xs → allOne vs = true → ∀ x ∈ xs, x.oneCell' = true
  | [], xs, h, _, x, hx => by rw [h.nil_inv] at hx; cases hx
  | v :: vs, xs, h, ho, x, hx => by
    obtain ⟨y, ys, rfl, h1, h2⟩ := h.cons_inv
    simp only [allOne, Bool.and_eq_true] at ho
    rcases List.mem_cons.1 hx with rfl | hx
    · exact h1.one ho.1
    · exact allOne_mem h2 ho.2 x hx

/-- what lies behind cells that can be read. -/
theorem Live.cellsT {ρ : Rho} {w : World} {h : Hp} (H : Live P ρ w h) {b : Nat} {l : Lc} (hb : ρ b = some l) {c : Tr V} (hc : Mid.cellsT (h.t.get b) = some c) :
    ∃ arr e fz, w.heap[l.blk]? = some (.cells arr e fz) ∧ ∀ i v, c.get i = some v → ∃ x, arr[l.base + i]? = some x ∧ Rel ρ v x := by
  cases hg : h.t.get b with
  | none => rw [hg] at hc; cases hc
  | some ob =>
    rw [hg] at hc
    cases ob with
    | cells t n g e =>
      simp only [Mid.cellsT, Option.some.injEq] at hc
      subst hc
      obtain ⟨arr, C⟩ := H b l _ hb hg
      exact ⟨arr, e, (0, 0), C.at_, fun i v hv => let ⟨_, x, h1, h2⟩ := C.get i v hv; ⟨x, h1, h2⟩⟩
    | ro t e =>
      simp only [Mid.cellsT, Option.some.injEq] at hc
      subst hc
      obtain ⟨arr, fz, e', C⟩ := H b l _ hb hg
      exact ⟨arr, e', fz, C.at_, C.get⟩
    | map es => cases hc
    | dead => cases hc
/-- a load. -/
theorem loadV_sim {ρ : Rho} {w : World} {h : Hp} (H : Live P ρ w h) {t : TypeId} {b o : Nat} {v : V} {l : Lc} (hb : ρ b = some l) (hv : loadV P h t b o = some v) :
    ∃ x, (loadVar t ⟨l.blk, l.base + o, none⟩).run P w = .ok x w ∧ Rel ρ v x := by
  unfold loadV at hv
  cases hcT : cellsT (h.t.get b) with
  | none => simp [hcT] at hv
  | some c =>
      simp only [hcT] at hv
      obtain ⟨arr, e, fz, hat, hget⟩ := H.cellsT hb hcT
      cases ha : aggT P t with
      | none => simp [ha] at hv
      | some q =>
        cases q with
        | false =>
          simp only [ha] at hv
          obtain ⟨x, h1, h2⟩ := hget o v hv
          refine ⟨x, ?_, h2⟩
          have hc : w.cell? ⟨l.blk, l.base + o, none⟩ = some x := by rw [cell_at hat]; exact h1
          simp [loadVar, run_agg ha, hc]
        | true =>
          simp only [ha] at hv
          cases hs : sz P t with
          | none => simp [hs] at hv
          | some s =>
            simp only [hs] at hv
            cases hl : c.getL o s with
            | none => simp [hl] at hv
            | some vs =>
              simp only [hl, Option.some.injEq] at hv
              subst hv
              obtain ⟨hlen, hgetL⟩ := Tr.getL_spec c s o vs hl
              have hx : ∀ j, j < s → ∃ x v, vs[j]? = some v ∧ arr[l.base + (o + j)]? = some x ∧ Rel ρ v x := by
                intro j hj
                have hj' : j < vs.length := by omega
                have e1 := hgetL j hj
                rw [List.getElem?_eq_getElem hj'] at e1
                obtain ⟨x, h1, h2⟩ := hget _ _ e1.symm
                exact ⟨x, _, List.getElem?_eq_getElem hj', h1, h2⟩
              have hfit : s = 0 ∨ l.base + (o + s) ≤ arr.size := by
                rcases Nat.eq_zero_or_pos s with h0 | h0
                · exact .inl h0
                · obtain ⟨x, _, _, h1, _⟩ := hx (s - 1) (by omega)
                  have := (Array.getElem?_eq_some_iff.1 h1).1
                  exact .inr (by omega)
              let cs : List Value := (arr.toList.drop (l.base + o)).take s
              have hcs : cs.length = s := by simp only [cs, List.length_take, List.length_drop, Array.length_toList]; omega
              have hcell : ∀ j x, cs[j]? = some x → arr[l.base + (o + j)]? = some x ∧ j < s := by
                intro j x hj
                have hlt : j < s := by
                  rcases Nat.lt_or_ge j cs.length with h1 | h1
                  · omega
                  · rw [List.getElem?_eq_none h1] at hj; cases hj
                refine ⟨?_, hlt⟩
                simp only [cs, List.getElem?_take, hlt, if_true, List.getElem?_drop] at hj
                rw [← hj, Nat.add_assoc]; simp
              have hrun : (loadCells ⟨l.blk, l.base + o, none⟩ s).run P w = .ok cs.toArray w := by
                rw [← hcs]
                exact run_loadCells_list w _ cs fun j x hj => by
                  rw [add_at, cell_at hat, Nat.add_assoc]; exact (hcell j x hj).1
              refine ⟨.agg ⟨cs⟩, ?_, .agg (by rw [hcs, hlen]) fun j v x h1 h2 => ?_⟩
              · simp only [loadVar, Sem.run_bind, run_agg ha, Result.andThen_ok, if_true, run_sz hs, hrun, Sem.run_pure]
              · obtain ⟨h3, hlt⟩ := hcell j x h2
                obtain ⟨y, u, h4, h5, h6⟩ := hx j hlt
                rw [h1] at h4; rw [h3] at h5
                simp only [Option.some.injEq] at h4 h5
                subst h4 h5; exact h6

/-- cells are written. -/
theorem put_cells {w : World} {k off : Nat} {arr : Array Value} {e : TypeId} (hk : w.heap[k]? = some (.cells arr e (0, 0))) (xs : List Value) (h1 : ∀ x ∈ xs, x.oneCell' = true) (hfit : off + xs.length ≤ arr.size) :
    ∃ w' arr', (storeCells ⟨k, off, none⟩ xs).run P w = .ok () w' ∧ Upd w w' k (.cells arr' e (0, 0)) ∧ arr'.size = arr.size ∧
      ∀ j, arr'[j]? = if off ≤ j ∧ j < off + xs.length then xs[j - off]? else arr[j]? := by
  have hr := run_storeCells_at (P := P) k off e xs 0 arr w hk (by omega) h1
  simp only [Nat.add_zero] at hr
  refine ⟨_, (arr.toList.take off ++ xs ++ arr.toList.drop (off + xs.length)).toArray, hr, ⟨rfl, rfl, rfl, size_setRow _ _ _, fun j hj => ?_, ?_⟩, ?_, ?_⟩
  · exact setRow_other w k j _ hj
  · exact setRow_heap w k arr _ e (0, 0) hk
  · simp; omega
  · intro j
    simp only [List.getElem?_toArray]
    have hmin : min off arr.size = off := by omega
    by_cases c1 : j < off
    · rw [if_neg (by omega), List.append_assoc, List.getElem?_append_left (by simp; omega), List.getElem?_take, if_pos c1]; simp
    · by_cases c2 : j < off + xs.length
      · rw [if_pos ⟨by omega, c2⟩, List.append_assoc, List.getElem?_append_right (by simp; omega), List.getElem?_append_left (by simp; omega)]
        simp [hmin]
      · rw [if_neg (by omega), List.getElem?_append_right (by simp; omega), List.getElem?_drop]
        simp only [List.length_append, List.length_take, Array.length_toList, hmin]
        have : off + xs.length + (j - (off + xs.length)) = j := by omega
        rw [this]; simp
end Go.Mid
