/- The relation between the small machine's heap and the model's world; what a new block, a store, a map's update do to it. -/
import Derived.Test.YtdiiilfokajddaaGreatDoorKMidA
import Derived.Laws.CopyRow
import Derived.Laws.Tables
import Derived.Great.BuildSlice
import Derived.MapKept
import Derived.Laws.Strings
import Derived.Laws.StructEq
set_option linter.all false
set_option warn.classDefReducibility false
noncomputable section
section
open Go.RowKit
namespace Go.Mid
section
class Res where
 res : Nat → Prop
 pin : Nat → Obj → Prop
instance noRes : Res:=⟨fun _ => False, fun _ _ => False⟩
variable {P : Program} [Orc] [Z : Res]
structure CellsR (P : Program) (ρ : Rho) (w : World) (l : Lc) (t : Tr V) (n : Nat) (g : Bool) (e : TypeId) (arr : Array Value) : Prop where
 at_ : w.heap[l.blk]? = some (.cells arr e (0, 0))
 get : ∀ i v, t.get i = some v → i < n ∧ ∃ x, arr[l.base + i]? = some x ∧ Rel ρ v x
 fit : l.base + n ≤ arr.size
 top : g = true → n ≤ l.cap * P.cellsOf e ∧ l.base + l.cap * P.cellsOf e ≤ arr.size
structure RoR (ρ : Rho) (w : World) (l : Lc) (t : Tr V) (e : TypeId) (arr : Array Value) (fz : Nat × Nat) : Prop where
 at_ : w.heap[l.blk]? = some (.cells arr e fz)
 get : ∀ i v, t.get i = some v → ∃ x, arr[l.base + i]? = some x ∧ Rel ρ v x
structure MapR (ρ : Rho) (w : World) (l : Lc) (es : List (V × V)) (ents : List MapEntry) (clock : Nat) : Prop where
 at_ : w.heap[l.blk]? = some (.map ⟨ents⟩ clock)
 len : es.length = ents.length
 get : ∀ (i : Nat) k v e, es[i]? = some (k, v) → ents[i]? = some e → Rel ρ k e.key ∧ Rel ρ v e.val
def ObR (P : Program) (ρ : Rho) (w : World) (l : Lc) : Ob → Prop
 | .cells t n g e => ∃ arr, CellsR P ρ w l t n g e arr
 | .ro t _ => ∃ arr fz e', RoR ρ w l t e' arr fz
 | .map es => ∃ ents clock, MapR ρ w l es ents clock
 | .dead => True
theorem ObR.keep {ρ ρ' : Rho} {w w' : World} {l : Lc} {o : Ob} (he : Ext ρ ρ') (hw : w'.heap[l.blk]? = w.heap[l.blk]?) (h : ObR P ρ w l o) : ObR P ρ' w' l o:=by
 cases o with
 | cells t n g e =>
  obtain ⟨arr, h⟩:=h
  exact ⟨arr, by rw [hw]; exact h.at_, fun i v hv => let ⟨a, x, b, c⟩:=h.get i v hv; ⟨a, x, b, c.ext he⟩, h.fit, h.top⟩
 | ro t e =>
  obtain ⟨arr, fz, e', h⟩:=h
  exact ⟨arr, fz, e', by rw [hw]; exact h.at_, fun i v hv => let ⟨x, b, c⟩:=h.get i v hv; ⟨x, b, c.ext he⟩⟩
 | map es =>
  obtain ⟨ents, clock, h⟩:=h
  exact ⟨ents, clock, by rw [hw]; exact h.at_, h.len, fun i k v e h1 h2 => let ⟨a, b⟩:=h.get i k v e h1 h2; ⟨a.ext he, b.ext he⟩⟩
 | dead => trivial
def Live (P : Program) (ρ : Rho) (w : World) (h : Hp) : Prop:=∀ b l o, ρ b = some l → h.t.get b = some o → ObR P ρ w l o
def Hp.alive (h : Hp) (b : Nat) : Prop:=∃ o, h.t.get b = some o ∧ o ≠ .dead
def Hp.still (h : Hp) (b : Nat) : Prop:=h.t.get b = none ∨ ∃ t e, h.t.get b = some (.ro t e)
theorem Hp.still_put {h : Hp} {b : Nat} (o : Ob) {x : Nat} (e : b ≠ x) : (h.put b o).still x ↔ h.still x:=by
 simp only [Hp.still, Hp.put, Tr.get_set_ne _ _ e]
theorem Hp.still_new {h : Hp} (o : Ob) {x : Nat} (e : x ≠ h.n) : (h.new o).still x ↔ h.still x:=by
 simp only [Hp.still, Hp.new, Tr.get_set_ne _ _ (Ne.symm e)]
theorem Hp.not_still {h : Hp} {b : Nat} {o : Ob} (hg : h.t.get b = some o) (ho : ∀ t e, o ≠ .ro t e) : ¬ h.still b:=by
 rintro (h1 | ⟨t, e, h1⟩)
 ·rw [hg] at h1; cases h1
 ·rw [hg] at h1; cases h1; exact ho t e rfl
def Glob (ρ : Rho) : Prop:=∀ g, g < Orc.ng → ∃ c, ρ g = some ⟨g, 0, c⟩
theorem Glob.ext {ρ ρ' : Rho} (he : Ext ρ ρ') (h : Glob ρ) : Glob ρ':=fun g hg => let ⟨c, h⟩:=h g hg; ⟨c, he _ _ h⟩
structure R (P : Program) (w0 w : World) (h : Hp) (ρ : Rho) : Prop where
 below : Below w0.heap.size w0 w
 bnd : ∀ b l, ρ b = some l → b < h.n ∧ ((w0.heap.size ≤ l.blk ∧ l.base = 0) ∨ h.still b) ∧ ((l.base ≠ 0 ∧ l.blk = 0) ∨ l.blk < w.heap.size)
 live : Live P ρ w h
 inj : ∀ b b' l l', ρ b = some l → ρ b' = some l' → b ≠ b' → h.alive b → h.alive b' → l.blk ≠ l'.blk
 fresh : ∀ b, h.n ≤ b → h.t.get b = none
 glob : Glob ρ
 base : Orc.inv w0
 rs : ∀ b, Z.res b → ρ b = none ∧ b < h.n
 pn : ∀ r O, Z.pin r O → w.heap[r]? = some O ∧ w0.heap.size ≤ r ∧ ∀ b l, ρ b = some l → l.blk ≠ r
theorem R.own2 {w0 w : World} {h : Hp} {ρ : Rho} (H : R P w0 w h ρ) {b : Nat} {l : Lc} (hb : ρ b = some l) (hn : ¬ h.still b) : w0.heap.size ≤ l.blk ∧ l.base = 0:=(H.bnd b l hb).2.1.elim id fun h => (hn h).elim
theorem R.own {w0 w : World} {h : Hp} {ρ : Rho} (H : R P w0 w h ρ) {b : Nat} {l : Lc} (hb : ρ b = some l) (hn : ¬ h.still b) : w0.heap.size ≤ l.blk:=(H.own2 hb hn).1
theorem R.lt {w0 w : World} {h : Hp} {ρ : Rho} (H : R P w0 w h ρ) {b : Nat} {l : Lc} (hb : ρ b = some l) (ha : h.alive b) : l.blk < w.heap.size:=by
 obtain ⟨o, h1, h2⟩:=ha
 have hl:=H.live b l o hb h1
 cases o with
 | cells t n g e => obtain ⟨arr, c⟩:=hl; exact (Array.getElem?_eq_some_iff.1 c.at_).1
 | ro t e => obtain ⟨arr, fz, e', c⟩:=hl; exact (Array.getElem?_eq_some_iff.1 c.at_).1
 | map es => obtain ⟨ents, clock, c⟩:=hl; exact (Array.getElem?_eq_some_iff.1 c.at_).1
 | dead => exact (h2 rfl).elim
theorem R.drew {w0 w : World} {h : Hp} {ρ : Rho} (H : R P w0 w h ρ) : R P w0 w.drew h ρ :=
 ⟨H.below.drew, H.bnd, fun b l o h1 h2 => ObR.keep (w:=w) (Ext.refl _) rfl (H.live b l o h1 h2), H.inj, H.fresh, H.glob, H.base, H.rs, H.pn⟩
theorem R.mono {Z1 Z2 : Res} {w0 w : World} {h : Hp} {ρ : Rho} (hz : ∀ b, Z2.res b → Z1.res b) (hp : ∀ r O, Z2.pin r O → Z1.pin r O) (H : @R _ Z1 P w0 w h ρ) : @R _ Z2 P w0 w h ρ :=
 @R.mk _ Z2 P _ _ _ _ (@R.below _ Z1 P _ _ _ _ H) (@R.bnd _ Z1 P _ _ _ _ H) (@R.live _ Z1 P _ _ _ _ H) (@R.inj _ Z1 P _ _ _ _ H) (@R.fresh _ Z1 P _ _ _ _ H) (@R.glob _ Z1 P _ _ _ _ H) (@R.base _ Z1 P _ _ _ _ H) (fun b hb => @R.rs _ Z1 P _ _ _ _ H b (hz b hb)) (fun r O h => @R.pn _ Z1 P _ _ _ _ H r O (hp r O h))
structure Res.le (Z Z' : Res) : Prop where
 res : ∀ b, Z.res b → Z'.res b
 pin : ∀ r O, Z.pin r O → Z'.pin r O
theorem Res.le.refl (Z : Res) : Res.le Z Z:=⟨fun _ h => h, fun _ _ h => h⟩
theorem Res.le.trans {A B C : Res} (x : Res.le A B) (y : Res.le B C) : Res.le A C:=⟨fun b h => y.res b (x.res b h), fun r O h => y.pin r O (x.pin r O h)⟩
theorem R.le {Z1 Z2 : Res} {w0 w : World} {h : Hp} {ρ : Rho} (hz : Res.le Z2 Z1) (H : @R _ Z1 P w0 w h ρ) : @R _ Z2 P w0 w h ρ:=R.mono hz.res hz.pin H
theorem R.shut {Z1 Z2 : Res} {w0 w w' : World} {h : Hp} {ρ : Rho} (H : @R _ Z1 P w0 w h ρ) {r : Nat} {O : Obj} (hr : Z1.pin r O) (hB : Below w0.heap.size w w') (hs : w'.heap.size = w.heap.size) (hw : ∀ j, j ≠ r → w'.heap[j]? = w.heap[j]?)
 (hres : ∀ b, Z2.res b → Z1.res b) (hpin : ∀ x O, Z2.pin x O → Z1.pin x O ∧ x ≠ r) : @R _ Z2 P w0 w' h ρ:=by
 obtain ⟨_, _, hne⟩:=@R.pn _ Z1 P _ _ _ _ H r O hr
 refine @R.mk _ Z2 P _ _ _ _ ((@R.below _ Z1 P _ _ _ _ H).trans hB) (fun b l hb => ?_) (fun b l o hb ho => ?_) (@R.inj _ Z1 P _ _ _ _ H) (@R.fresh _ Z1 P _ _ _ _ H) (@R.glob _ Z1 P _ _ _ _ H) (@R.base _ Z1 P _ _ _ _ H) (fun b hb => @R.rs _ Z1 P _ _ _ _ H b (hres b hb)) (fun x O' hx => ?_)
 ·obtain ⟨h1, h2, h3⟩ := @R.bnd _ Z1 P _ _ _ _ H b l hb
  exact ⟨h1, h2, by rw [hs]; exact h3⟩
 ·exact (@R.live _ Z1 P _ _ _ _ H b l o hb ho).keep (Ext.refl _) (hw _ (hne b l hb))
 ·obtain ⟨h1, h2⟩ := hpin x O' hx
  obtain ⟨h3, h4, h5⟩:=@R.pn _ Z1 P _ _ _ _ H x O' h1
  exact ⟨by rw [hw x h2]; exact h3, h4, h5⟩
def upd (ρ : Rho) (b : Nat) (l : Lc) : Rho:=fun x => if x = b then some l else ρ x
theorem upd_same (ρ : Rho) (b : Nat) (l : Lc) : upd ρ b l b = some l:=by simp [upd]
theorem upd_ext {ρ : Rho} {b : Nat} {l : Lc} (h : ρ b = none) : Ext ρ (upd ρ b l) := fun x k hx => by
 unfold upd; rw [if_neg (fun e => by subst e; rw [h] at hx; cases hx)]; exact hx
theorem upd_inv {ρ : Rho} {b x : Nat} {l k : Lc} (h : upd ρ b l x = some k) : (x = b ∧ k = l) ∨ (x ≠ b ∧ ρ x = some k):=by
 unfold upd at h
 split at h
 ·rename_i e; exact .inl ⟨e, by simpa using h.symm⟩
 ·rename_i e; exact .inr ⟨e, h⟩
theorem R.pnNew {w0 w w' : World} {h : Hp} {ρ : Rho} (H : R P w0 w h ρ) (hk : ∀ j, j < w.heap.size → w'.heap[j]? = w.heap[j]?) {b : Nat} {k : Lc} (hl : w.heap.size ≤ k.blk) :
 ∀ r O, Z.pin r O → w'.heap[r]? = some O ∧ w0.heap.size ≤ r ∧ ∀ x l, Mid.upd ρ b k x = some l → l.blk ≠ r:=by
 intro r O hp
 obtain ⟨h1, h2, h3⟩:=H.pn r O hp
 have hr : r < w.heap.size:=(Array.getElem?_eq_some_iff.1 h1).1
 refine ⟨by rw [hk r hr]; exact h1, h2, fun x l hx => ?_⟩
 rcases upd_inv hx with ⟨_, rfl⟩ | ⟨_, hx⟩
 ·omega
 ·exact h3 x l hx
theorem R.pnUpd {w0 w w' : World} {h : Hp} {ρ : Rho} (H : R P w0 w h ρ) {b : Nat} {l : Lc} (hb : ρ b = some l) (hk : ∀ j, j ≠ l.blk → w'.heap[j]? = w.heap[j]?) :
 ∀ r O, Z.pin r O → w'.heap[r]? = some O ∧ w0.heap.size ≤ r ∧ ∀ x k, ρ x = some k → k.blk ≠ r:=by
 intro r O hp
 obtain ⟨h1, h2, h3⟩:=H.pn r O hp
 exact ⟨by rw [hk r (Ne.symm (h3 b l hb))]; exact h1, h2, h3⟩
def Obj.soft : Obj → Prop
 | .cells _ _ fz => fz = (0, 0)
 | _ => True
theorem R.new {w0 w : World} {h : Hp} {ρ : Rho} (H : R P w0 w h ρ) (o : Ob) (O : Obj) (cap : Nat) (hs : Obj.soft O)
 (ho : ObR P (upd ρ h.n ⟨w.heap.size, 0, cap⟩) (w.alloc O) ⟨w.heap.size, 0, cap⟩ o) :
 Ext ρ (upd ρ h.n ⟨w.heap.size, 0, cap⟩) ∧ R P w0 (w.alloc O) (h.new o) (upd ρ h.n ⟨w.heap.size, 0, cap⟩):=by
 have hnone : ρ h.n = none:=by
  cases hr : ρ h.n with
  | none => rfl
  | some l => have:=(H.bnd _ _ hr).1; omega
 have hext : Ext ρ (upd ρ h.n ⟨w.heap.size, 0, cap⟩):=upd_ext hnone
 refine ⟨hext, H.below.alloc H.below.size O, ?_, ?_, ?_, fun b hb => by
  simp only [Hp.new] at hb ⊢; rw [Tr.get_set_ne _ _ (by omega)]; exact H.fresh b (by omega), H.glob.ext hext, H.base, fun b hb => ⟨by unfold Mid.upd; rw [if_neg (Nat.ne_of_lt (H.rs b hb).2)]; exact (H.rs b hb).1, Nat.lt_succ_of_lt (H.rs b hb).2⟩, H.pnNew (fun j hj => heap_alloc_old w O j hj) (Nat.le_refl _)⟩
 ·intro b l hb
  rcases upd_inv hb with ⟨rfl, rfl⟩ | ⟨hne, hb⟩
  ·refine ⟨Nat.lt_succ_self _, .inl ⟨H.below.size, rfl⟩, .inr ?_⟩
   simp
  ·have := H.bnd b l hb
   refine ⟨Nat.lt_succ_of_lt this.1, by rw [Hp.still_new _ hne]; exact this.2.1, this.2.2.imp id fun h => ?_⟩
   simp; omega
 ·intro b l o' hb ho'
  rcases upd_inv hb with ⟨rfl, rfl⟩ | ⟨hne, hb⟩
  ·simp only [Hp.new, Tr.get_set_same, Option.some.injEq] at ho'
   subst ho'; exact ho
  ·simp only [Hp.new] at ho'
   rw [Tr.get_set_ne _ _ (Ne.symm hne)] at ho'
   cases o' with
   | dead => trivial
   | _ => exact (H.live b l _ hb ho').keep hext (heap_alloc_old w O _ (H.lt hb ⟨_, ho', by simp⟩))
 ·intro b b' l l' hb hb' hne ha ha'
  have old : ∀ x : Nat, x ≠ h.n → (h.new o).alive x → h.alive x:=by
   rintro x hx ⟨y, h1, h2⟩
   simp only [Hp.new] at h1
   rw [Tr.get_set_ne _ _ (Ne.symm hx)] at h1
   exact ⟨y, h1, h2⟩
  rcases upd_inv hb with ⟨rfl, rfl⟩ | ⟨h1, hb⟩
  ·rcases upd_inv hb' with ⟨rfl, rfl⟩ | ⟨h2, hb'⟩
   ·exact (hne rfl).elim
   ·have := H.lt hb' (old b' h2 ha'); simp only; omega
  ·rcases upd_inv hb' with ⟨rfl, rfl⟩ | ⟨h2, hb'⟩
   ·have := H.lt hb (old b h1 ha); simp only; omega
   ·exact H.inj b b' l l' hb hb' hne (old b h1 ha) (old b' h2 ha')
structure Upd (w w' : World) (k : Nat) (O : Obj) : Prop where
 os : w'.os = w.os
 tape : w'.tape = w.tape
 output : w'.output = w.output
 size : w'.heap.size = w.heap.size
 other : ∀ j, j ≠ k → w'.heap[j]? = w.heap[j]?
 at_ : w'.heap[k]? = some O
theorem Upd.below {B : Nat} {w0 w w' : World} {k : Nat} {O : Obj} (h : Upd w w' k O) (hb : Below B w0 w) (hk : B ≤ k) : Below B w0 w' :=
 ⟨h.os.trans hb.os, h.tape.trans hb.tape, h.output.trans hb.output, by rw [h.size]; exact hb.size, fun j hj => by rw [h.other j (by omega)]; exact hb.block j hj⟩
theorem R.upd' {w0 w w' : World} {h : Hp} {ρ : Rho} (H : R P w0 w h ρ) {b : Nat} {l : Lc} {O : Obj} (hb : ρ b = some l) (ha : h.alive b) (hns : ¬ h.still b) (o : Ob) (hw : Upd w w' l.blk O)
 (ho : ObR P ρ w' l o) : R P w0 w' (h.put b o) ρ:=by
 refine ⟨hw.below H.below (H.own hb hns), ?_, ?_, ?_, fun x hx => by
  simp only [Hp.put] at hx ⊢
  have:=(H.bnd b l hb).1
  rw [Tr.get_set_ne _ _ (by omega)]; exact H.fresh x hx, H.glob, H.base, fun b hb => H.rs b hb, H.pnUpd hb hw.other⟩
 ·intro x k hx
  have:=H.bnd x k hx
  refine ⟨this.1, ?_, by rw [hw.size]; exact this.2.2⟩
  by_cases e : b = x
  ·subst e; exact .inl (H.own2 hx hns)
  ·rw [Hp.still_put _ e]; exact this.2.1
 ·intro x k y hx hy
  simp only [Hp.put] at hy
  by_cases e : b = x
  ·subst e
   rw [Tr.get_set_same] at hy
   rw [hb] at hx
   simp only [Option.some.injEq] at hx hy
   subst hx hy
   exact ho
  ·rw [Tr.get_set_ne _ _ e] at hy
   cases y with
   | dead => trivial
   | _ => exact (H.live x k _ hx hy).keep (Ext.refl _) (hw.other _ (H.inj x b k l hx hb (Ne.symm e) ⟨_, hy, by simp⟩ ha))
 ·intro x x' k k' hx hx' hne a1 a2
  have old : ∀ y, (h.put b o).alive y → h.alive y:=by
   rintro y ⟨z, h1, h2⟩
   simp only [Hp.put] at h1
   by_cases e : b = y
   ·subst e; exact ha
   ·rw [Tr.get_set_ne _ _ e] at h1
    exact ⟨z, h1, h2⟩
  exact H.inj x x' k k' hx hx' hne (old x a1) (old x' a2)
theorem R.upd {w0 w w' : World} {h : Hp} {ρ : Rho} (H : R P w0 w h ρ) {b : Nat} {l : Lc} {O : Obj} (hb : ρ b = some l) (ha : h.alive b) (hns : ¬ h.still b) (o : Ob) (hs : Obj.soft O) (hw : Upd w w' l.blk O)
 (ho : ObR P ρ w' l o) : R P w0 w' (h.put b o) ρ:=H.upd' hb ha hns o hw ho
theorem R.kill {w0 w : World} {h : Hp} {ρ : Rho} (H : R P w0 w h ρ) (b : Nat) (hbn : b < h.n) (hns : ¬ h.still b) : R P w0 w (h.put b .dead) ρ:=by
 refine ⟨H.below, fun x k hx => ⟨(H.bnd x k hx).1, by
  by_cases e : b = x
  ·subst e; exact .inl (H.own2 hx hns)
  ·rw [Hp.still_put _ e]; exact (H.bnd x k hx).2.1, (H.bnd x k hx).2.2⟩, ?_, ?_, fun x hx => by
  simp only [Hp.put] at hx ⊢
  rw [Tr.get_set_ne _ _ (by omega)]; exact H.fresh x hx, H.glob, H.base, fun b hb => H.rs b hb, H.pn⟩
 ·intro x k y hx hy
  simp only [Hp.put] at hy
  by_cases e : b = x
  ·subst e
   rw [Tr.get_set_same] at hy
   simp only [Option.some.injEq] at hy
   subst hy; trivial
  ·rw [Tr.get_set_ne _ _ e] at hy
   exact H.live x k y hx hy
 ·intro x x' k k' hx hx' hne a1 a2
  have old : ∀ y, (h.put b .dead).alive y → h.alive y:=by
   rintro y ⟨z, h1, h2⟩
   simp only [Hp.put] at h1
   by_cases e : b = y
   ·subst e; rw [Tr.get_set_same] at h1; simp only [Option.some.injEq] at h1; exact (h2 h1.symm).elim
   ·rw [Tr.get_set_ne _ _ e] at h1
    exact ⟨z, h1, h2⟩
  exact H.inj x x' k k' hx hx' hne (old x a1) (old x' a2)
theorem R.renew {w0 w w' : World} {h : Hp} {ρ : Rho} (H : R P w0 w h ρ) {b : Nat} {l : Lc} {O : Obj} (hb : ρ b = some l) (ha : h.alive b) (hns : ¬ h.still b) (o : Ob) (hs : Obj.soft O) (hw : Upd w w' l.blk O)
 (ho : ObR P (Mid.upd ρ h.n l) w' l o) : Ext ρ (Mid.upd ρ h.n l) ∧ R P w0 w' ((h.put b .dead).new o) (Mid.upd ρ h.n l):=by
 have hnone : ρ h.n = none:=by
  cases hr : ρ h.n with
  | none => rfl
  | some l => have:=(H.bnd _ _ hr).1; omega
 have hbn : b ≠ h.n:=fun e => by rw [e, hnone] at hb; cases hb
 have hext : Ext ρ (Mid.upd ρ h.n l):=upd_ext hnone
 refine ⟨hext, hw.below H.below (H.own hb hns), ?_, ?_, ?_, fun x hx => by
  simp only [Hp.put, Hp.new] at hx ⊢
  have:=(H.bnd b l hb).1
  rw [Tr.get_set_ne _ _ (by omega), Tr.get_set_ne _ _ (by omega)]; exact H.fresh x (by omega), H.glob.ext hext, H.base, fun b hb => ⟨by unfold Mid.upd; rw [if_neg (Nat.ne_of_lt (H.rs b hb).2)]; exact (H.rs b hb).1, Nat.lt_succ_of_lt (H.rs b hb).2⟩, fun r O hp => by
  obtain ⟨h1, h2, h3⟩:=H.pnUpd hb hw.other r O hp
  refine ⟨h1, h2, fun x k hx => ?_⟩
  rcases upd_inv hx with ⟨_, rfl⟩ | ⟨_, hx⟩
  ·exact h3 b _ hb
  ·exact h3 x k hx⟩
 ·intro x k hx
  rcases upd_inv hx with ⟨rfl, rfl⟩ | ⟨hne, hx⟩
  ·have := H.bnd b k hb
   exact ⟨Nat.lt_succ_self _, .inl (H.own2 hb hns), by rw [hw.size]; exact this.2.2⟩
  ·have := H.bnd x k hx
   refine ⟨Nat.lt_succ_of_lt this.1, ?_, by rw [hw.size]; exact this.2.2⟩
   have e0 : x ≠ (h.put b .dead).n:=hne
   rw [Hp.still_new _ e0]
   by_cases e : b = x
   ·subst e; exact .inl (H.own2 hx hns)
   ·rw [Hp.still_put _ e]; exact this.2.1
 ·intro x k y hx hy
  simp only [Hp.put, Hp.new] at hy
  rcases upd_inv hx with ⟨rfl, rfl⟩ | ⟨hne, hx⟩
  ·rw [Tr.get_set_same] at hy
   simp only [Option.some.injEq] at hy
   subst hy; exact ho
  ·rw [Tr.get_set_ne _ _ (Ne.symm hne)] at hy
   by_cases e : b = x
   ·subst e
    rw [Tr.get_set_same] at hy
    simp only [Option.some.injEq] at hy
    subst hy; trivial
   ·rw [Tr.get_set_ne _ _ e] at hy
    cases y with
    | dead => trivial
    | _ => exact (H.live x k _ hx hy).keep hext (hw.other _ (H.inj x b k l hx hb (Ne.symm e) ⟨_, hy, by simp⟩ ha))
 ·intro x x' k k' hx hx' hne a1 a2
  have old : ∀ y, y ≠ h.n → ((h.put b .dead).new o).alive y → h.alive y ∧ y ≠ b:=by
   rintro y hy ⟨z, h1, h2⟩
   simp only [Hp.put, Hp.new] at h1
   rw [Tr.get_set_ne _ _ (Ne.symm hy)] at h1
   by_cases e : b = y
   ·subst e; rw [Tr.get_set_same] at h1; simp only [Option.some.injEq] at h1; exact (h2 h1.symm).elim
   ·rw [Tr.get_set_ne _ _ e] at h1
    exact ⟨⟨z, h1, h2⟩, Ne.symm e⟩
  rcases upd_inv hx with ⟨e1, rfl⟩ | ⟨h1, hx1⟩
  ·rcases upd_inv hx' with ⟨e2, rfl⟩ | ⟨h2, hx2⟩
   ·exact (hne (e1.trans e2.symm)).elim
   ·have o2 := old x' h2 a2
    exact H.inj b x' _ k' hb hx2 (Ne.symm o2.2) ha o2.1
  ·have o1 := old x h1 a1
   rcases upd_inv hx' with ⟨e2, rfl⟩ | ⟨h2, hx2⟩
   ·exact H.inj x b k _ hx1 hb o1.2 o1.1 ha
   ·exact H.inj x x' k k' hx1 hx2 hne o1.1 (old x' h2 a2).1
theorem cell_at {w : World} {k o : Nat} {arr : Array Value} {e : TypeId} {fz : Nat × Nat} (h : w.heap[k]? = some (.cells arr e fz)) : w.cell? ⟨k, o, none⟩ = arr[o]?:=by
 simp [World.cell?, h]
theorem add_at (k o i : Nat) : (⟨k, o, none⟩ : Addr).add i = ⟨k, o + i, none⟩:=by
 unfold Addr.add; split
 ·rename_i h; subst h; rfl
 ·rfl
theorem info_of_sz {t : TypeId} {n : Nat} (h : sz P t = some n) : ∃ i, P.info? t = some i ∧ i.size = n:=by
 unfold sz at h
 cases hi : P.info? t with
 | none => simp [hi] at h
 | some i => simp [hi] at h; exact ⟨i, rfl, h⟩
theorem run_sz {t : TypeId} {n : Nat} (h : sz P t = some n) (w : World) : (sizeOf t).run P w = .ok n w:=by
 obtain ⟨i, hi, rfl⟩:=info_of_sz h
 simp [sizeOf, typeInfo, hi]
theorem cellsOf_sz {t : TypeId} {n : Nat} (h : sz P t = some n) : P.cellsOf t = n:=by
 obtain ⟨i, hi, rfl⟩:=info_of_sz h
 simp [Program.cellsOf, hi]
theorem run_agg {t : TypeId} {b : Bool} (h : aggT P t = some b) (w : World) : (isAgg t).run P w = .ok b w:=by
 unfold aggT at h
 cases hu : P.underlying t with
 | none => simp [hu] at h
 | some d =>
  simp only [isAgg, Sem.run_bind, run_underlying hu, Result.andThen_ok]
  cases d <;> simp_all
theorem info_of_zero {ρ : Rho} {t : TypeId} {z : V} (h : zero P t = some z) : ∃ i x, P.info? t = some i ∧ i.zero = some x ∧ Rel ρ z x:=by
 unfold zero at h
 cases hi : P.info? t with
 | none => simp [hi] at h
 | some i =>
  simp only [hi] at h
  cases hz : i.zero with
  | none => simp [hz] at h
  | some x => simp only [hz] at h; exact ⟨i, x, rfl, hz, absV_rel ρ x z h⟩
theorem run_zero {t : TypeId} {i : TypeInfo} {x : Value} (hi : P.info? t = some i) (hz : i.zero = some x) (w : World) : (zeroValue t).run P w = .ok x w:=by
 simp [zeroValue, typeInfo, hi, hz]
theorem Rel.cells {ρ : Rho} {v : V} {x : Value} (h : Rel ρ v x) : RelL ρ (vcells v) x.cells.toList:=by
 cases h with
 | agg hl h => exact ⟨hl, h⟩
 | _ => exact RelL.cons (by constructor <;> assumption) (RelL.nil ρ)
theorem Rel.one {ρ : Rho} {v : V} {x : Value} (h : Rel ρ v x) (ho : oneCell v = true) : x.oneCell' = true:=by
 cases h <;> simp_all [oneCell, Value.oneCell']
theorem allOne_mem {ρ : Rho} : ∀ {vs : List V} {xs : List Value}, RelL ρ vs xs → allOne vs = true → ∀ x ∈ xs, x.oneCell' = true
 | [], xs, h, _, x, hx => by rw [h.nil_inv] at hx; cases hx
 | v :: vs, xs, h, ho, x, hx => by
  obtain ⟨y, ys, rfl, h1, h2⟩:=h.cons_inv
  simp only [allOne, Bool.and_eq_true] at ho
  rcases List.mem_cons.1 hx with rfl | hx
  ·exact h1.one ho.1
  ·exact allOne_mem h2 ho.2 x hx
theorem Live.cellsT {ρ : Rho} {w : World} {h : Hp} (H : Live P ρ w h) {b : Nat} {l : Lc} (hb : ρ b = some l) {c : Tr V} (hc : Mid.cellsT (h.t.get b) = some c) :
 ∃ arr e fz, w.heap[l.blk]? = some (.cells arr e fz) ∧ ∀ i v, c.get i = some v → ∃ x, arr[l.base + i]? = some x ∧ Rel ρ v x:=by
 cases hg : h.t.get b with
 | none => rw [hg] at hc; cases hc
 | some ob =>
  rw [hg] at hc
  cases ob with
  | cells t n g e =>
   simp only [Mid.cellsT, Option.some.injEq] at hc
   subst hc
   obtain ⟨arr, C⟩:=H b l _ hb hg
   exact ⟨arr, e, (0, 0), C.at_, fun i v hv => let ⟨_, x, h1, h2⟩:=C.get i v hv; ⟨x, h1, h2⟩⟩
  | ro t e =>
   simp only [Mid.cellsT, Option.some.injEq] at hc
   subst hc
   obtain ⟨arr, fz, e', C⟩:=H b l _ hb hg
   exact ⟨arr, e', fz, C.at_, C.get⟩
  | map es => cases hc
  | dead => cases hc
theorem loadV_sim {ρ : Rho} {w : World} {h : Hp} (H : Live P ρ w h) {t : TypeId} {b o : Nat} {v : V} {l : Lc} (hb : ρ b = some l) (hv : loadV P h t b o = some v) :
 ∃ x, (loadVar t ⟨l.blk, l.base + o, none⟩).run P w = .ok x w ∧ Rel ρ v x:=by
 unfold loadV at hv
 cases hcT : cellsT (h.t.get b) with
 | none => simp [hcT] at hv
 | some c =>
  simp only [hcT] at hv
  obtain ⟨arr, e, fz, hat, hget⟩:=H.cellsT hb hcT
  cases ha : aggT P t with
  | none => simp [ha] at hv
  | some q =>
   cases q with
   | false =>
    simp only [ha] at hv
    obtain ⟨x, h1, h2⟩:=hget o v hv
    refine ⟨x, ?_, h2⟩
    have hc : w.cell? ⟨l.blk, l.base + o, none⟩ = some x:=by rw [cell_at hat]; exact h1
    simp [loadVar, run_agg ha, hc]
   | true =>
    simp only [ha] at hv
    cases hs : sz P t with
    | none => simp [hs] at hv
    | some s =>
     simp only [hs] at hv
     cases hl : c.getL o s with
     | none => simp [hl] at hv
     | some vs =>
      simp only [hl, Option.some.injEq] at hv
      subst hv
      obtain ⟨hlen, hgetL⟩:=Tr.getL_spec c s o vs hl
      have hx : ∀ j, j < s → ∃ x v, vs[j]? = some v ∧ arr[l.base + (o + j)]? = some x ∧ Rel ρ v x:=by
       intro j hj
       have hj' : j < vs.length:=by omega
       have e1:=hgetL j hj
       rw [List.getElem?_eq_getElem hj'] at e1
       obtain ⟨x, h1, h2⟩:=hget _ _ e1.symm
       exact ⟨x, _, List.getElem?_eq_getElem hj', h1, h2⟩
      have hfit : s = 0 ∨ l.base + (o + s) ≤ arr.size:=by
       rcases Nat.eq_zero_or_pos s with h0 | h0
       ·exact .inl h0
       ·obtain ⟨x, _, _, h1, _⟩ := hx (s - 1) (by omega)
        have:=(Array.getElem?_eq_some_iff.1 h1).1
        exact .inr (by omega)
      let cs : List Value:=(arr.toList.drop (l.base + o)).take s
      have hcs : cs.length = s:=by simp only [cs, List.length_take, List.length_drop, Array.length_toList]; omega
      have hcell : ∀ j x, cs[j]? = some x → arr[l.base + (o + j)]? = some x ∧ j < s:=by
       intro j x hj
       have hlt : j < s:=by
        rcases Nat.lt_or_ge j cs.length with h1 | h1
        ·omega
        ·rw [List.getElem?_eq_none h1] at hj; cases hj
       refine ⟨?_, hlt⟩
       simp only [cs, List.getElem?_take, hlt, if_true, List.getElem?_drop] at hj
       rw [← hj, Nat.add_assoc]; simp
      have hrun : (loadCells ⟨l.blk, l.base + o, none⟩ s).run P w = .ok cs.toArray w:=by
       rw [← hcs]
       exact run_loadCells_list w _ cs fun j x hj => by
        rw [add_at, cell_at hat, Nat.add_assoc]; exact (hcell j x hj).1
      refine ⟨.agg ⟨cs⟩, ?_, .agg (by rw [hcs, hlen]) fun j v x h1 h2 => ?_⟩
      ·simp only [loadVar, Sem.run_bind, run_agg ha, Result.andThen_ok, if_true, run_sz hs, hrun, Sem.run_pure]
      ·obtain ⟨h3, hlt⟩ := hcell j x h2
       obtain ⟨y, u, h4, h5, h6⟩:=hx j hlt
       rw [h1] at h4; rw [h3] at h5
       simp only [Option.some.injEq] at h4 h5
       subst h4 h5; exact h6
theorem put_cells {w : World} {k off : Nat} {arr : Array Value} {e : TypeId} (hk : w.heap[k]? = some (.cells arr e (0, 0))) (xs : List Value) (h1 : ∀ x ∈ xs, x.oneCell' = true) (hfit : off + xs.length ≤ arr.size) :
 ∃ w' arr', (storeCells ⟨k, off, none⟩ xs).run P w = .ok () w' ∧ Upd w w' k (.cells arr' e (0, 0)) ∧ arr'.size = arr.size ∧
  ∀ j, arr'[j]? = if off ≤ j ∧ j < off + xs.length then xs[j - off]? else arr[j]?:=by
 have hr:=run_storeCells_at (P:=P) k off e xs 0 arr w hk (by omega) h1
 simp only [Nat.add_zero] at hr
 refine ⟨_, (arr.toList.take off ++ xs ++ arr.toList.drop (off + xs.length)).toArray, hr, ⟨rfl, rfl, rfl, size_setRow _ _ _, fun j hj => ?_, ?_⟩, ?_, ?_⟩
 ·exact setRow_other w k j _ hj
 ·exact setRow_heap w k arr _ e (0, 0) hk
 ·simp; omega
 ·intro j
  simp only [List.getElem?_toArray]
  have hmin : min off arr.size = off:=by omega
  by_cases c1 : j < off
  ·rw [if_neg (by omega), List.append_assoc, List.getElem?_append_left (by simp; omega), List.getElem?_take, if_pos c1]; simp
  ·by_cases c2 : j < off + xs.length
   ·rw [if_pos ⟨by omega, c2⟩, List.append_assoc, List.getElem?_append_right (by simp; omega), List.getElem?_append_left (by simp; omega)]
    simp [hmin]
   ·rw [if_neg (by omega), List.getElem?_append_right (by simp; omega), List.getElem?_drop]
    simp only [List.length_append, List.length_take, Array.length_toList, hmin]
    have : off + xs.length + (j - (off + xs.length)) = j:=by omega
    rw [this]; simp
end
section
variable {P : Program}
theorem iEq_eq (a b : Int) : iEq a b = (a == b):=by
 cases a <;> cases b <;> first
  | (rename_i a b; show Nat.beq a b = _; rw [Bool.eq_iff_iff]; simp; done)
  | (rename_i a b; show Nat.beq a b = _; rw [Bool.eq_iff_iff]; simp; omega)
  | (show false = _; rw [Bool.eq_iff_iff]; simp; done)
  | (show false = _; rw [Bool.eq_iff_iff]; simp; omega)
theorem iLt_eq (a b : Int) : iLt a b = decide (a < b):=by
 cases a with
 | ofNat a => cases b with
  | ofNat b => show Nat.ble (a + 1) b = _; rw [Bool.eq_iff_iff]; simp; omega
  | negSucc b => show false = _; rw [Bool.eq_iff_iff]; simp; omega
 | negSucc a => cases b with
  | ofNat b => show true = _; rw [Bool.eq_iff_iff]; simp; omega
  | negSucc b => show Nat.ble (b + 1) a = _; rw [Bool.eq_iff_iff]; simp; omega
theorem not_iLt_le (a b : Int) : (!iLt b a) = decide (a ≤ b):=by
 rw [iLt_eq, Bool.eq_iff_iff]; simp
theorem fwrap_eq (k : IntKind) (n : Int) : fwrap k n = k.wrap n:=by
 cases n with
 | ofNat m =>
  show (Bool.rec (motive:=fun _ => Int) (k.wrap (.ofNat m)) (.ofNat m) (Nat.ble m (kTop k))) = _
  cases h : Nat.ble m (kTop k) with
  | false => rfl
  | true =>
   show Int.ofNat m = _
   have hle : m ≤ kTop k:=Nat.le_of_ble_eq_true h
   cases k <;> simp only [kTop] at hle <;> simp only [IntKind.wrap, IntKind.bits, IntKind.signed] <;> simp <;> omega
 | negSucc m =>
  show (Bool.rec (motive:=fun _ => Int) (k.wrap (.negSucc m)) (.negSucc m) (Bool.rec (motive:=fun _ => Bool) false (Nat.ble m (kTop k)) (kSigned k))) = _
  have e : (Bool.rec (motive:=fun _ => Bool) false (Nat.ble m (kTop k)) (kSigned k)) = (kSigned k && Nat.ble m (kTop k)):=by cases kSigned k <;> rfl
  rw [e]
  cases h : (kSigned k && Nat.ble m (kTop k)) with
  | false => rfl
  | true =>
   show Int.negSucc m = _
   simp only [Bool.and_eq_true] at h
   have hle : m ≤ kTop k:=Nat.le_of_ble_eq_true h.2
   have hs:=h.1
   cases k <;> simp only [kTop, kSigned] at hle hs <;> first | (cases hs; done) | (simp only [IntKind.wrap, IntKind.bits, IntKind.signed]; simp; omega)
theorem kEq_eq {a b : IntKind} (h : kEq a b = true) : a = b:=by
 cases a <;> cases b <;> first | rfl | (simp [kEq, kNum] at h; done)
theorem u8_eq (a b : UInt8) : Nat.beq a.toNat b.toNat = (a == b):=by
 rw [Bool.eq_iff_iff]; simp [UInt8.toNat_inj]
theorem sLt_eq : ∀ (a b : List UInt8), sLt a b = Op.bytesLess a b
 | _, [] => by cases ‹List UInt8› <;> rfl
 | [], _ :: _ => rfl
 | a :: x, b :: y => by
  have h1 : Nat.blt a.toNat b.toNat = decide (a < b):=by rw [Bool.eq_iff_iff]; simp [Nat.blt, UInt8.lt_iff_toNat_lt]; omega
  rw [sLt, sLt_eq x y, u8_eq, h1, Op.bytesLess]
  by_cases h : a < b
  ·simp [h]
  ·by_cases e : a = b
   ·subst e; simp
   ·simp [h]
theorem bytesLess_tri : ∀ (a b : List UInt8), (Op.bytesLess a b || a == b) = !(Op.bytesLess b a)
 | [], [] => rfl
 | [], _ :: _ => rfl
 | _ :: _, [] => rfl
 | a :: x, b :: y => by
  have ih:=bytesLess_tri x y
  have e1 : ((a :: x) == (b :: y)) = (a == b && x == y):=rfl
  rw [Op.bytesLess, Op.bytesLess, e1]
  rcases Nat.lt_trichotomy a.toNat b.toNat with h | h | h
  ·have h1 : a < b := UInt8.lt_iff_toNat_lt.2 h
   have h2 : ¬ b < a:=fun k => by have:=UInt8.lt_iff_toNat_lt.1 k; omega
   have h3 : ¬ a = b:=fun k => by subst k; omega
   have h4 : ¬ b = a:=fun k => h3 k.symm
   simp [h1, h2, h4]
  ·have h1 : a = b := UInt8.toNat_inj.1 h
   subst h1
   simpa using ih
  ·have h1 : b < a := UInt8.lt_iff_toNat_lt.2 h
   have h2 : ¬ a < b:=fun k => by have:=UInt8.lt_iff_toNat_lt.1 k; omega
   have h3 : ¬ a = b:=fun k => by subst k; omega
   simp [h1, h2, h3]
theorem intOp_sim {ρ : Rho} {op : BinOp} {k : IntKind} {x y : Int} {v : V} (h : intOp op k x y = some v) (hs : op ≠ .shl ∧ op ≠ .shr) (t : TypeId) (w : World) :
 ∃ r, (binOp op t (.int k x) (.int k y)).run P w = .ok r w ∧ Rel ρ v r:=by
 cases op <;> simp only [intOp, opAdd, opSub, opMul, opQuo, opRem, opAnd, opOr, opXor, opAndNot, opEql, opNeq, opLss, opLeq, opGtr, opGeq, opNo, Option.some.injEq, reduceCtorEq, addF_eq, subF_eq] at h
 case add => subst h; refine ⟨.int k (k.wrap (x + y)), ?_, by rw [fwrap_eq]; exact .int _ _⟩; simp [binOp, Op.intArith]
 case sub => subst h; refine ⟨.int k (k.wrap (x - y)), ?_, by rw [fwrap_eq]; exact .int _ _⟩; simp [binOp, Op.intArith]
 case mul => subst h; refine ⟨.int k (k.wrap (x * y)), ?_, by rw [fwrap_eq]; exact .int _ _⟩; simp [binOp, Op.intArith]
 case quo =>
  cases hy : iEq y 0 with
  | true => simp [hy] at h
  | false =>
   simp only [hy, cond_false, Option.some.injEq] at h
   subst h
   rw [iEq_eq] at hy
   have hy0 : ¬ y = 0:=by simpa using hy
   refine ⟨.int k (k.wrap (x.tdiv y)), ?_, by rw [fwrap_eq]; exact .int _ _⟩; simp [binOp, Op.intDiv, hy0]
 case rem =>
  cases hy : iEq y 0 with
  | true => simp [hy] at h
  | false =>
   simp only [hy, cond_false, Option.some.injEq] at h
   subst h
   rw [iEq_eq] at hy
   have hy0 : ¬ y = 0:=by simpa using hy
   refine ⟨.int k (x.tmod y), ?_, .int _ _⟩; simp [binOp, Op.intDiv, hy0]
 case and => subst h; exact ⟨_, by simp only [binOp, Op.intBits, ne_eq, not_true_eq_false, if_false]; rfl, .int _ _⟩
 case or => subst h; exact ⟨_, by simp only [binOp, Op.intBits, ne_eq, not_true_eq_false, if_false]; rfl, .int _ _⟩
 case xor => subst h; exact ⟨_, by simp only [binOp, Op.intBits, ne_eq, not_true_eq_false, if_false]; rfl, .int _ _⟩
 case andNot => subst h; exact ⟨_, by simp only [binOp, Op.intBits, ne_eq, not_true_eq_false, if_false]; rfl, .int _ _⟩
 case eql => subst h; refine ⟨.bool (x == y), ?_, by rw [iEq_eq]; exact .bool _⟩; simp [binOp, Op.intCmp]
 case neq => subst h; refine ⟨.bool (x != y), ?_, by rw [iEq_eq]; exact .bool _⟩; simp [binOp, Op.intCmp]
 case lss => subst h; refine ⟨.bool (decide (x < y)), ?_, by rw [iLt_eq]; exact .bool _⟩; simp [binOp, Op.intCmp]
 case leq => subst h; refine ⟨.bool (decide (x ≤ y)), ?_, by rw [not_iLt_le]; exact .bool _⟩; simp [binOp, Op.intCmp]
 case gtr => subst h; refine ⟨.bool (decide (y < x)), ?_, by rw [iLt_eq]; exact .bool _⟩; simp [binOp, Op.intCmp]
 case geq => subst h; refine ⟨.bool (decide (y ≤ x)), ?_, by rw [not_iLt_le]; exact .bool _⟩; simp [binOp, Op.intCmp]
theorem shOp_sim {ρ : Rho} {op : BinOp} {k k' : IntKind} {x y : Int} {v : V} (h : shOp op k x y = some v) (t : TypeId) (w : World) :
 ∃ r, (binOp op t (.int k x) (.int k' y)).run P w = .ok r w ∧ Rel ρ v r:=by
 unfold shOp at h
 cases hy : iLt y 0 with
 | true => simp [hy] at h
 | false =>
  simp only [hy, cond_false] at h
  rw [iLt_eq] at hy
  have hy0 : ¬ y < 0:=by simpa using hy
  cases op <;> simp only [Option.some.injEq, reduceCtorEq] at h <;> subst h
  ·refine ⟨_, ?_, .int _ _⟩; simp only [binOp, Op.shift, if_neg hy0]; rfl
  ·refine ⟨_, ?_, .int _ _⟩; simp only [binOp, Op.shift, if_neg hy0]; rfl
theorem strOp_sim {ρ : Rho} {op : BinOp} {X Y : Bs} {v : V} (h : strOp op X Y = some v) (t : TypeId) (w : World) :
 ∃ r, (binOp op t (.string ⟨⟨X.l⟩⟩) (.string ⟨⟨Y.l⟩⟩)).run P w = .ok r w ∧ Rel ρ v r:=by
 have hcat:=Bs.l_cat X Y
 have hln:=Bs.l_len X
 have hrn:=Bs.l_len Y
 obtain ⟨x, hX⟩ : ∃ x, X.l = x:=⟨_, rfl⟩
 obtain ⟨y, hY⟩ : ∃ y, Y.l = y:=⟨_, rfl⟩
 rw [hX, hY] at hcat
 rw [hX] at hln
 rw [hY] at hrn
 rw [hX, hY]
 have ex : (ByteArray.mk ⟨x⟩).toList = x:=ByteArray.toList_eq _
 have ey : (ByteArray.mk ⟨y⟩).toList = y:=ByteArray.toList_eq _
 have key : ∀ op, op ≠ .add → ∀ b, (op = .eql → b = (x == y)) → (op = .neq → b = !(x == y)) → (op = .lss → b = Op.bytesLess x y) → (op = .leq → b = (Op.bytesLess x y || x == y)) →
  (op = .gtr → b = !(Op.bytesLess x y || x == y)) → (op = .geq → b = !Op.bytesLess x y) → (op = .eql ∨ op = .neq ∨ op = .lss ∨ op = .leq ∨ op = .gtr ∨ op = .geq) →
  (binOp op t (.string ⟨⟨x⟩⟩) (.string ⟨⟨y⟩⟩)).run P w = .ok (.bool b) w:=by
  intro op _ b h1 h2 h3 h4 h5 h6 h7
  rcases h7 with rfl | rfl | rfl | rfl | rfl | rfl
  ·rw [h1 rfl]; simp only [binOp, Op.stringOp, ex, ey]; rfl
  ·rw [h2 rfl]; simp only [binOp, Op.stringOp, ex, ey]; rfl
  ·rw [h3 rfl]; simp only [binOp, Op.stringOp, ex, ey]; rfl
  ·rw [h4 rfl]; simp only [binOp, Op.stringOp, ex, ey]; rfl
  ·rw [h5 rfl]; simp only [binOp, Op.stringOp, ex, ey]; rfl
  ·rw [h6 rfl]; simp only [binOp, Op.stringOp, ex, ey]; rfl
 have tri1:=bytesLess_tri x y
 have tri2 : Op.bytesLess y x = !(Op.bytesLess x y || x == y):=by rw [tri1, Bool.not_not]
 cases op <;> simp only [strOp, stAdd, stEql, stNeq, stLss, stLeq, stGtr, stGeq, stNo, Bs.eq_eq, hX, hY, Option.some.injEq, reduceCtorEq] at h
 case eql => subst h; exact ⟨_, key .eql (by simp) _ (fun _ => rfl) (by simp) (by simp) (by simp) (by simp) (by simp) (by simp), .bool _⟩
 case neq => subst h; exact ⟨_, key .neq (by simp) _ (by simp) (fun _ => rfl) (by simp) (by simp) (by simp) (by simp) (by simp), .bool _⟩
 case lss => subst h; exact ⟨_, key .lss (by simp) _ (by simp) (by simp) (fun _ => rfl) (by simp) (by simp) (by simp) (by simp), by rw [sLt_eq]; exact .bool _⟩
 case leq => subst h; exact ⟨_, key .leq (by simp) _ (by simp) (by simp) (by simp) (fun _ => rfl) (by simp) (by simp) (by simp), by rw [sLt_eq, tri1]; exact .bool _⟩
 case gtr => subst h; exact ⟨_, key .gtr (by simp) _ (by simp) (by simp) (by simp) (by simp) (fun _ => rfl) (by simp) (by simp), by rw [sLt_eq, tri2]; exact .bool _⟩
 case geq => subst h; exact ⟨_, key .geq (by simp) _ (by simp) (by simp) (by simp) (by simp) (by simp) (fun _ => rfl) (by simp), by rw [sLt_eq]; exact .bool _⟩
 case add =>
  cases hb : Nat.ble (X.n + Y.n) 4611686018427387904 with
  | false => simp [hb] at h
  | true =>
   simp only [hb, cond_true, Option.some.injEq] at h
   subst h
   have hle:=Nat.le_of_ble_eq_true hb
   have hsz : ¬ (((ByteArray.mk ⟨x⟩).size + (ByteArray.mk ⟨y⟩).size : Nat) : Int) > IntKind.i64.max:=by
    have e1 : (ByteArray.mk ⟨x⟩).size = x.length:=rfl
    have e2 : (ByteArray.mk ⟨y⟩).size = y.length:=rfl
    have e3 : IntKind.i64.max = 9223372036854775807:=rfl
    rw [e1, e2, e3]
    omega
   have happ : (ByteArray.mk ⟨x⟩ ++ ByteArray.mk ⟨y⟩) = ByteArray.mk ⟨x ++ y⟩:=by
    apply ByteArray.ext
    simp
   refine ⟨.string (ByteArray.mk ⟨x⟩ ++ ByteArray.mk ⟨y⟩), ?_, by rw [happ, ← hcat]; exact .str _⟩
   simp only [binOp, Op.stringOp]
   rw [if_neg hsz]
   rfl
theorem run_guard {op : BinOp} (t : TypeId) (ox oy : Operand) (x y : Value) (w : World) (h1 : ¬ (x = .nilIface ∧ y = .nilIface)) (h2 : ∀ c d, ¬ (x = .agg c ∧ y = .agg d)) :
 (eqGuard op t ox oy x y).run P w = .ok () w:=by
 unfold eqGuard
 cases x <;> cases y <;> first
  | (exact absurd ⟨rfl, rfl⟩ h1)
  | (exact absurd ⟨rfl, rfl⟩ (h2 _ _))
  | (cases op <;> rfl)
theorem eqD_sim {ρ : Rho} {d : TypeDesc} {a b : V} {x y : Value} {r : Bool} (h : eqD d a b = some r) (ha : Rel ρ a x) (hb : Rel ρ b y) (t : TypeId) (hu : P.underlying t = some d) (w : World) :
 (Op.equal t x y).run P w = .ok r w ∧ ¬ (x = .nilIface ∧ y = .nilIface) ∧ (∀ c d, ¬ (x = .agg c ∧ y = .agg d)) ∧
   ((∃ p q, x = .bool p ∧ y = .bool q) ∨ (∃ p q, x = .pointer p ∧ y = .pointer q ∧ (p = none ∨ q = none)) ∨ (∃ p n c q m k, x = .slice p n c ∧ y = .slice q m k) ∨ (∃ p q, x = .map p ∧ y = .map q) ∨
     x = .nilFunc ∨ (y = .nilFunc ∧ ∃ f u v, x = .func f u v)):=by
 have key : ∀ q, (∀ n, (Op.equalIn (n + 1) t x y).run P w = .ok q w) → (Op.equal t x y).run P w = .ok q w:=fun q e => e 9999
 cases d <;> cases ha <;> simp only [eqD, reduceCtorEq] at h <;> cases hb <;> simp only [Option.some.injEq, reduceCtorEq] at h <;> subst h <;>
  refine ⟨key _ fun n => ?_, by simp, by simp, by simp⟩ <;> simp only [Op.equalIn, Sem.run_bind, run_underlying hu, Result.andThen_ok, Sem.run_pure, Option.isNone]
theorem binV_sim {ρ : Rho} {op : BinOp} {a b v : V} {x y : Value} (t : TypeId) (h : binV (P.underlying t) op a b = some v) (ha : Rel ρ a x) (hb : Rel ρ b y) (ox oy : Operand) (w : World) :
 ∃ r, (do eqGuard op t ox oy x y; binOp op t x y : Sem Value).run P w = .ok r w ∧ Rel ρ v r:=by
 have rest : ∀ d, P.underlying t = some d → eqOp op (eqD d a b) = some v → ∃ r, (do eqGuard op t ox oy x y; binOp op t x y : Sem Value).run P w = .ok r w ∧ Rel ρ v r:=by
  intro d hu h
  cases he : eqD d a b with
  | none => cases op <;> simp [he, eqOp] at h
  | some q =>
   obtain ⟨h1, h2, h3, h4⟩:=eqD_sim he ha hb t hu w
   rw [Sem.run_bind, run_guard t ox oy _ _ w h2 h3, Result.andThen_ok]
   rw [he] at h
   have e : ∀ op, (op = .eql → (binOp op t x y).run P w = ((Op.equal t x y).run P w).andThen fun b w => .ok (.bool b) w) ∧ (op = .neq → (binOp op t x y).run P w = ((Op.equal t x y).run P w).andThen fun b w => .ok (.bool (!b)) w):=by
    intro op
    rcases h4 with ⟨p, q, rfl, rfl⟩ | ⟨p, q, rfl, rfl, _⟩ | ⟨p, n, c, q, m, k, rfl, rfl⟩ | ⟨p, q, rfl, rfl⟩ | rfl | ⟨rfl, f, u, v, rfl⟩
    ·exact ⟨fun e => by subst e; simp only [binOp, Sem.run_bind, Sem.run_pure], fun e => by subst e; simp only [binOp, Sem.run_bind, Sem.run_pure]⟩
    ·exact ⟨fun e => by subst e; simp only [binOp, Sem.run_bind, Sem.run_pure], fun e => by subst e; simp only [binOp, Sem.run_bind, Sem.run_pure]⟩
    ·exact ⟨fun e => by subst e; simp only [binOp, Sem.run_bind, Sem.run_pure], fun e => by subst e; simp only [binOp, Sem.run_bind, Sem.run_pure]⟩
    ·exact ⟨fun e => by subst e; simp only [binOp, Sem.run_bind, Sem.run_pure], fun e => by subst e; simp only [binOp, Sem.run_bind, Sem.run_pure]⟩
    ·cases y <;> exact ⟨fun e => by subst e; simp only [binOp, Sem.run_bind, Sem.run_pure], fun e => by subst e; simp only [binOp, Sem.run_bind, Sem.run_pure]⟩
    ·exact ⟨fun e => by subst e; simp only [binOp, Sem.run_bind, Sem.run_pure], fun e => by subst e; simp only [binOp, Sem.run_bind, Sem.run_pure]⟩
   cases op <;> simp only [eqOp, Option.some.injEq, reduceCtorEq] at h <;> subst h
   ·refine ⟨.bool q, ?_, .bool _⟩
    rw [(e .eql).1 rfl, h1]; rfl
   ·refine ⟨.bool (!q), ?_, .bool _⟩
    rw [(e .neq).2 rfl, h1]; rfl
 have rest' : eqAny (P.underlying t) op a b = some v → ∃ r, (do eqGuard op t ox oy x y; binOp op t x y : Sem Value).run P w = .ok r w ∧ Rel ρ v r:=by
  intro h
  cases hu : P.underlying t with
  | none => simp [hu, eqAny] at h
  | some d => simp only [hu, eqAny] at h; exact rest d hu h
 cases ha with
 | int k n =>
  cases hb <;> simp only [binV, reduceCtorEq] at h
  rename_i k' m
  rw [Sem.run_bind, run_guard t ox oy _ _ w (by simp) (by simp), Result.andThen_ok]
  cases hs : shiftB op with
  | true =>
   simp only [hs, cond_true] at h
   exact shOp_sim h t w
  | false =>
   have hs' : op ≠ .shl ∧ op ≠ .shr:=⟨fun e => by subst e; simp [shiftB] at hs, fun e => by subst e; simp [shiftB] at hs⟩
   simp only [hs, cond_false] at h
   cases hk : kEq k k' with
   | false => simp [hk] at h
   | true =>
    have:=kEq_eq hk
    subst this
    simp only [hk, cond_true] at h
    exact intOp_sim h hs' t w
 | str a =>
  cases hb <;> simp only [binV, reduceCtorEq] at h
  rw [Sem.run_bind, run_guard t ox oy _ _ w (by simp) (by simp), Result.andThen_ok]
  exact strOp_sim h t w
 | _ => exact rest' h
theorem unV_sim {ρ : Rho} {op : UnOp} {a v : V} {x : Value} (h : unV op a = some v) (ha : Rel ρ a x) (w : World) : ∃ r, (Op.unary op x).run P w = .ok r w ∧ Rel ρ v r:=by
 cases ha <;> cases op <;> simp only [unV, Option.some.injEq, reduceCtorEq] at h <;> subst h
 ·exact ⟨_, rfl, .bool _⟩
 ·rename_i k n
  refine ⟨.int k (k.wrap (0 - n)), ?_, by rw [fwrap_eq]; exact .int _ _⟩
  rfl
end
section
variable {P : Program} [Orc]
def OpR (ρ : Rho) (a : Act) (t : Tr V) (xs : List Operand) : Prop:=∀ x ∈ xs, ∀ v, evalO t x = some v → Rel ρ v (a.eval x)
theorem evalL_sim {ρ : Rho} {a : Act} {t : Tr V} : ∀ {xs : List Operand} {vs : List V}, OpR ρ a t xs → evalL t xs = some vs → RelL ρ vs (xs.map a.eval)
 | [], vs, _, h => by simp only [evalL, Option.some.injEq] at h; subst h; exact RelL.nil ρ
 | x :: xs, vs, ho, h => by
  simp only [evalL] at h
  cases hx : evalO t x with
  | none => simp [hx] at h
  | some v =>
   simp only [hx] at h
   cases hl : evalL t xs with
   | none => simp [hl] at h
   | some l =>
    simp only [hl, Option.some.injEq] at h; subst h
    exact RelL.cons (ho x (by simp) v hx) (evalL_sim (fun y hy => ho y (by simp [hy])) hl)
inductive PartR (ρ : Rho) : List (Nat × V) → List (Nat × Value) → Prop
 | nil : PartR ρ [] []
 | cons {i : Nat} {v : V} {x : Value} {ps : List (Nat × V)} {qs : List (Nat × Value)} (h : Rel ρ v x) (t : PartR ρ ps qs) : PartR ρ ((i, v) :: ps) ((i, x) :: qs)
theorem evalP_sim {ρ : Rho} {a : Act} {t : Tr V} : ∀ {xs : List (Nat × Operand)} {vs : List (Nat × V)}, OpR ρ a t (xs.map (·.2)) → evalP t xs = some vs → PartR ρ vs (xs.map fun x => (x.1, a.eval x.2))
 | [], vs, _, h => by simp only [evalP, Option.some.injEq] at h; subst h; exact .nil
 | (i, x) :: xs, vs, ho, h => by
  simp only [evalP] at h
  cases hx : evalO t x with
  | none => simp [hx] at h
  | some v =>
   simp only [hx] at h
   cases hl : evalP t xs with
   | none => simp [hl] at h
   | some l =>
    simp only [hl, Option.some.injEq] at h; subst h
    exact .cons (ho x (by simp) v hx) (evalP_sim (fun y hy => ho y (by simp only [List.map_cons, List.mem_cons]; exact .inr hy)) hl)
theorem splice_spec : ∀ (cs : List V) (off : Nat) (xs r : List V), splice cs off xs = some r → r.length = cs.length ∧ off + xs.length ≤ cs.length ∧
 ∀ k, r[k]? = if off ≤ k ∧ k < off + xs.length then xs[k - off]? else cs[k]?
 | cs, 0, [], r, h => by
  have : r = cs:=by cases cs <;> simpa [splice] using h.symm
  subst this
  refine ⟨rfl, by simp, fun k => ?_⟩
  simp only [List.length_nil]
  rw [if_neg (by omega)]
 | c :: cs, 0, x :: xs, r, h => by
  simp only [splice] at h
  cases hr : splice cs 0 xs with
  | none => simp [hr] at h
  | some r' =>
   simp only [hr, Option.some.injEq] at h; subst h
   obtain ⟨h1, h2, h3⟩:=splice_spec cs 0 xs r' hr
   refine ⟨by simp [h1], by simp only [List.length_cons]; omega, fun k => ?_⟩
   cases k with
   | zero => simp
   | succ k =>
    simp only [List.getElem?_cons_succ, h3 k, List.length_cons]
    by_cases hk : k < xs.length
    ·rw [if_pos (by omega), if_pos (by omega)]; simp
    ·rw [if_neg (by omega), if_neg (by omega)]
 | [], 0, _ :: _, r, h => by simp [splice] at h
 | [], _ + 1, _, r, h => by simp [splice] at h
 | c :: cs, n + 1, xs, r, h => by
  simp only [splice] at h
  cases hr : splice cs n xs with
  | none => simp [hr] at h
  | some r' =>
   simp only [hr, Option.some.injEq] at h; subst h
   obtain ⟨h1, h2, h3⟩:=splice_spec cs n xs r' hr
   refine ⟨by simp [h1], by simp only [List.length_cons]; omega, fun k => ?_⟩
   cases k with
   | zero => rw [if_neg (by omega)]; simp
   | succ k =>
    simp only [List.getElem?_cons_succ, h3 k]
    by_cases hk : n ≤ k ∧ k < n + xs.length
    ·rw [if_pos hk, if_pos (by omega)]; congr 1; omega
    ·rw [if_neg hk, if_neg (by omega)]
theorem fill_sim {ρ : Rho} {pl : Nat → Option (Nat × Nat)} : ∀ {ps : List (Nat × V)} {qs : List (Nat × Value)} {cs r : List V} {arr : Array Value}, PartR ρ ps qs → RelL ρ cs arr.toList → fillV pl cs ps = some r →
 ∃ arr', Instr.fill pl arr qs = some arr' ∧ RelL ρ r arr'.toList
 | _, _, cs, r, arr, .nil, hc, h => by
  simp only [fillV, Option.some.injEq] at h; subst h
  exact ⟨arr, rfl, hc⟩
 | _, _, cs, r, arr, .cons (i := i) (v := v) (x := x) (ps := ps) (qs := qs) hv ht, hc, h => by
  simp only [fillV] at h
  cases hp : pl i with
  | none => simp [hp] at h
  | some q =>
   obtain ⟨off, s⟩:=q
   simp only [hp] at h
   cases hb : Nat.beq (vcells v).length s with
   | false => simp [hb] at h
   | true =>
    have hs : (vcells v).length = s:=Nat.eq_of_beq_eq_true hb
    simp only [hb, cond_true] at h
    cases hsp : splice cs off (vcells v) with
    | none => simp [hsp] at h
    | some cs' =>
     simp only [hsp] at h
     obtain ⟨h1, h2, h3⟩:=splice_spec cs off _ cs' hsp
     have hcl:=hv.cells
     have hxl : x.cells.size = s:=by rw [← hs, hcl.1]; simp
     have hal : cs.length = arr.size:=by rw [hc.1]; simp
     obtain ⟨g1, g2⟩:=Great.foldl_set off x.cells.toList 0 arr
     have key : RelL ρ cs' ((x.cells.toList.zipIdx 0).foldl (fun cs (x : Value × Nat) => cs.setIfInBounds (off + x.2) x.1) arr).toList:=by
      refine ⟨by rw [h1, hal, ← g1]; simp, fun k u y hu hy => ?_⟩
      rw [Array.getElem?_toList, g2 k] at hy
      rw [h3 k] at hu
      by_cases hk : off ≤ k ∧ k < off + (vcells v).length
      ·rw [if_pos hk] at hu
       rw [if_pos ⟨by omega, by rw [Array.length_toList]; omega, by omega⟩] at hy
       simp only [Nat.add_zero] at hy
       exact hcl.2 _ u y hu hy
      ·rw [if_neg hk] at hu
       rw [if_neg (by rw [Array.length_toList]; omega)] at hy
       exact hc.2 k u y hu (by rw [Array.getElem?_toList]; exact hy)
     obtain ⟨arr', e1, e2⟩:=fill_sim ht key h
     refine ⟨arr', ?_, e2⟩
     unfold Instr.fill
     simp only [hp]
     rw [if_neg (by simp [hxl]; omega)]
     rw [← e1]
     congr 1
     rw [← Array.foldl_toList]
     simp [Array.toList_zipIdx]
theorem placesL_eq : ∀ {fs : List Field} {l : List (Nat × Nat)}, placesL P fs = some l → fs.mapM (fun f => (P.info? f.type).map fun i => (f.offset, i.size)) = some l
 | [], l, h => by simp only [placesL, Option.some.injEq] at h; subst h; rfl
 | f :: fs, l, h => by
  simp only [placesL] at h
  cases hs : sz P f.type with
  | none => simp [hs] at h
  | some s =>
   simp only [hs] at h
   cases hl : placesL P fs with
   | none => simp [hl] at h
   | some l' =>
    simp only [hl, Option.some.injEq] at h; subst h
    obtain ⟨i, hi, rfl⟩:=info_of_sz hs
    simp [List.mapM_cons, hi, placesL_eq hl]
theorem bld_sim {ρ : Rho} {h : Hp} {t : TypeId} {ps : List (Nat × V)} {parts : Array (Nat × Value)} {z v : V} {d : TypeDesc} {h' : Hp} (hp : PartR ρ ps parts.toList) (hz : zero P t = some z)
 (hu : P.underlying t = some d) (hv : bld P h ps z d = some (v, h')) (w : World) : h' = h ∧ ∃ x, (Instr.build t parts).run P w = .ok x w ∧ Rel ρ v x:=by
 obtain ⟨i, x, hi, hx, hr⟩:=info_of_zero (ρ:=ρ) hz
 cases d <;> simp only [bld, reduceCtorEq] at hv
 case struct fields =>
  cases hl : placesL P fields.toList with
  | none => simp [hl, bldStruct] at hv
  | some pl =>
   simp only [hl, bldStruct] at hv
   cases hf : fillV (getN pl) (vcells z) ps with
   | none => simp [hf] at hv
   | some cs =>
    simp only [hf, Option.some.injEq, Prod.mk.injEq] at hv
    obtain ⟨rfl, rfl⟩:=hv
    have hfun : (getN pl) = fun i : Nat => pl.toArray[i]?:=by funext i; rw [getN_eq]; simp
    rw [hfun] at hf
    obtain ⟨arr', e1, e2⟩:=fill_sim hp hr.cells hf
    refine ⟨rfl, .agg arr', ?_, .agg e2.1 e2.2⟩
    refine run_build w t parts arr' ?_
    unfold Program.built
    simp only [hi, hu, hx, placesL_eq hl]
    exact e1
 case array n e =>
  cases hs : sz P e with
  | none => simp [hs] at hv
  | some s =>
   simp only [hs, bldArr] at hv
   cases hf : fillV (fun i => some (i * s, s)) (vcells z) ps with
   | none => simp [hf] at hv
   | some cs =>
    simp only [hf, Option.some.injEq, Prod.mk.injEq] at hv
    obtain ⟨rfl, rfl⟩:=hv
    obtain ⟨arr', e1, e2⟩:=fill_sim hp hr.cells hf
    obtain ⟨ie, hie, rfl⟩:=info_of_sz hs
    refine ⟨rfl, .agg arr', ?_, .agg e2.1 e2.2⟩
    refine run_build w t parts arr' ?_
    unfold Program.built
    simp only [hi, hu, hx, hie]
    exact e1
theorem partV_sim {ρ : Rho} {cs : List V} {xs : List Value} {t : TypeId} {off : Nat} {v : V} (hc : RelL ρ cs xs) (h : partV P cs t off = some v) (w : World) : ∃ x, (part t ⟨xs⟩ off).run P w = .ok x w ∧ Rel ρ v x:=by
 unfold partV at h
 cases ha : aggT P t with
 | none => simp [ha] at h
 | some q =>
  cases q with
  | true =>
   simp only [ha] at h
   cases hs : sz P t with
   | none => simp [hs] at h
   | some s =>
    simp only [hs, Option.some.injEq] at h; subst h
    have:=(hc.drop off).take s
    refine ⟨.agg ⟨(xs.drop off).take s⟩, ?_, .agg this.1 this.2⟩
    simp only [part, Sem.run_bind, run_agg ha, Result.andThen_ok, if_true, run_sz hs, Sem.run_pure]
    congr 2
    apply Array.ext'
    simp [List.extract_eq_take_drop]
  | false =>
   simp only [ha] at h
   rw [getN_eq] at h
   obtain ⟨x, h1, h2⟩:=hc.get h
   refine ⟨x, ?_, h2⟩
   have h1' : (⟨xs⟩ : Array Value)[off]? = some x:=by simpa using h1
   simp only [part, Sem.run_bind, run_agg ha, Result.andThen_ok, h1']
   simp
theorem natA_spec {v : Option V} {n : Nat} (h : natA v = some n) : ∃ k, v = some (.int k (n : Int)):=by
 unfold natA at h
 split at h
 ·rename_i k m; simp only [Option.some.injEq] at h; subst h; exact ⟨k, rfl⟩
 ·cases h
theorem bound_sim {ρ : Rho} {a : Act} {t : Tr V} {d n : Nat} {y : Option Operand} (ho : ∀ x, y = some x → ∀ v, evalO t x = some v → Rel ρ v (a.eval x)) (h : bound t d y = some n) :
 (y = none ∧ n = d) ∨ ∃ x k, y = some x ∧ a.eval x = .int k (n : Int):=by
 cases y with
 | none => simp only [bound, Option.some.injEq] at h; exact .inl ⟨rfl, h.symm⟩
 | some x =>
  simp only [bound] at h
  obtain ⟨k, hk⟩:=natA_spec h
  have:=ho x rfl _ hk
  cases he : a.eval x <;> rw [he] at this <;> cases this
  exact .inr ⟨x, _, rfl, by rw [he]⟩
theorem run_bound {x : Value} {k : IntKind} {n y : Nat} (hx : x = .int k (n : Int)) (hn : n ≤ y) (c : BoundsCode) (w : World) : (Instr.sliceBound x y c).run P w = .ok n w:=by
 subst hx
 simp only [Instr.sliceBound, asIntOf, pure_bind]
 rw [if_pos (by omega)]
 simp
theorem mapGet_sim {ρ : Rho} {d : TypeDesc} {k : V} {kx : Value} (hk : Rel ρ k kx) (hok : keyOk (some d) k = true) : ∀ {es : List (V × V)} {ents : List MapEntry} {r : Option V} (n : Nat), es.length = ents.length →
 (∀ (i : Nat) a b e, es[i]? = some (a, b) → ents[i]? = some e → Rel ρ a e.key ∧ Rel ρ b e.val) → mapGet k es = some r →
 (r = none ∧ Instr.findNow d kx ents n = some none) ∨ ∃ v x i, r = some v ∧ Instr.findNow d kx ents n = some (some (n + i, x)) ∧ Rel ρ v x ∧ i < ents.length
 | [], ents, r, n, hl, _, h => by
  have : ents = []:=List.eq_nil_of_length_eq_zero hl.symm
  subst this
  simp only [mapGet, Option.some.injEq] at h
  exact .inl ⟨h.symm, rfl⟩
 | (k', u) :: es, [], r, n, hl, _, h => by simp at hl
 | (k', u) :: es, e :: ents, r, n, hl, hr, h => by
  have hl' : es.length = ents.length:=by simpa using hl
  obtain ⟨h1, h2⟩:=hr 0 k' u e rfl rfl
  have hr' : ∀ (i : Nat) a b e, es[i]? = some (a, b) → ents[i]? = some e → Rel ρ a e.key ∧ Rel ρ b e.val:=fun i a b e x y => hr (i + 1) a b e (by simpa using x) (by simpa using y)
  have next : mapGet k es = some r → Instr.sameNow d kx e.key = some false →
   (r = none ∧ Instr.findNow d kx (e :: ents) n = some none) ∨ ∃ v x i, r = some v ∧ Instr.findNow d kx (e :: ents) n = some (some (n + i, x)) ∧ Rel ρ v x ∧ i < (e :: ents).length:=by
   intro hm hs
   have hf : Instr.findNow d kx (e :: ents) n = Instr.findNow d kx ents (n + 1):=by simp only [Instr.findNow, hs]
   rw [hf]
   rcases mapGet_sim hk hok (n + 1) hl' hr' hm with ⟨a, b⟩ | ⟨v, x, i, a, b, c, g⟩
   ·exact .inl ⟨a, b⟩
   ·exact .inr ⟨v, x, i + 1, a, by rw [b]; congr 3; omega, c, by simp; omega⟩
  have hit : r = some u → Instr.sameNow d kx e.key = some true →
   (r = none ∧ Instr.findNow d kx (e :: ents) n = some none) ∨ ∃ v x i, r = some v ∧ Instr.findNow d kx (e :: ents) n = some (some (n + i, x)) ∧ Rel ρ v x ∧ i < (e :: ents).length:=by
   intro hm hs
   exact .inr ⟨u, e.val, 0, hm, by simp only [Instr.findNow, hs, Nat.add_zero], h2, by simp⟩
  have hkey : ∃ ek, ek = e.key:=⟨_, rfl⟩
  obtain ⟨ek, hek⟩:=hkey
  rw [← hek] at h1 next hit
  cases hk with
  | int a x =>
   cases d <;> simp only [keyOk, Bool.false_eq_true] at hok
   cases h1 <;> simp only [mapGet, reduceCtorEq] at h
   rename_i b y
   cases hkk : kEq a b with
   | false => simp [hkk] at h
   | true =>
    have:=kEq_eq hkk; subst this
    simp only [hkk, cond_true] at h
    cases hi : iEq x y with
    | true =>
     simp only [hi, cond_true, Option.some.injEq] at h
     exact hit h.symm (by rw [iEq_eq] at hi; simp only [Instr.sameNow, if_true, hi])
    | false =>
     simp only [hi, cond_false] at h
     exact next h (by rw [iEq_eq] at hi; simp only [Instr.sameNow, if_true, hi])
  | str x =>
   cases d <;> simp only [keyOk, Bool.false_eq_true] at hok
   cases h1 <;> simp only [mapGet, reduceCtorEq] at h
   rename_i y
   have hb : (ByteArray.mk ⟨x.l⟩ == ByteArray.mk ⟨y.l⟩) = x.eq y:=by
    rw [beq_toListBytes, ByteArray.toList_eq, ByteArray.toList_eq, Bs.eq_eq]
   cases hi : x.eq y with
   | true =>
    simp only [hi, cond_true, Option.some.injEq] at h
    exact hit h.symm (by simp only [Instr.sameNow, hb, hi])
   | false =>
    simp only [hi, cond_false] at h
    exact next h (by simp only [Instr.sameNow, hb, hi])
  | bool x =>
   cases d <;> simp only [keyOk, Bool.false_eq_true] at hok
   cases h1 <;> simp only [mapGet, reduceCtorEq] at h
   rename_i y
   cases hi : (x == y) with
   | true =>
    simp only [hi, cond_true, Option.some.injEq] at h
    exact hit h.symm (by simp only [Instr.sameNow, hi])
   | false =>
    simp only [hi, cond_false] at h
    exact next h (by simp only [Instr.sameNow, hi])
  | _ => cases d <;> simp [keyOk] at hok
theorem run_checkKey {key : TypeId} {d : TypeDesc} {k : V} {kx : Value} {ρ : Rho} (hk : Rel ρ k kx) (hu : P.underlying key = some d) (hok : keyOk (some d) k = true) (b : Bool) (w : World) :
 (Instr.checkKey b 10000 key kx).run P w = .ok () w:=by
 have : ∀ n, (Instr.checkKey b (n + 1) key kx).run P w = .ok () w:=by
  intro n
  cases hk <;> cases d <;> simp only [keyOk, Bool.false_eq_true] at hok <;> simp only [Instr.checkKey, Sem.run_bind, run_underlying hu, Result.andThen_ok, Sem.run_pure]
 exact this 9999
end
end Go.Mid
end
