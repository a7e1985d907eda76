/- Known answers that bring some blocks of which nothing more is told. -/
import Derived.Test.YtdiiilfokajddaaGreatDoorKMidHH
set_option linter.all false
set_option warn.classDefReducibility false
noncomputable section
section
open Go.RowKit
namespace Go.Mid
section
variable {P : Program}
mutual
def renV (f : Nat → Nat) : V → V
 | .ptr b o => .ptr (f b) o
 | .slice b o n c g => .slice (f b) o n c g
 | .map b => .map (f b)
 | .func g a c => .func g (renL f a) (renL f c)
 | .iface t v => .iface t (renV f v)
 | .agg cs => .agg (renL f cs)
 | .tuple cs => .tuple (renL f cs)
 | .bool b => .bool b
 | .int k n => .int k n
 | .str s => .str s
 | .nilPtr => .nilPtr
 | .nilSlice => .nilSlice
 | .nilMap => .nilMap
 | .nilFunc => .nilFunc
 | .nilIface => .nilIface
def renL (f : Nat → Nat) : List V → List V
 | [] => []
 | v :: vs => renV f v :: renL f vs
end
mutual
def blksV : V → List Nat
 | .ptr b _ => [b]
 | .slice b _ _ _ _ => [b]
 | .map b => [b]
 | .func _ a c => blksL a ++ blksL c
 | .iface _ v => blksV v
 | .agg cs => blksL cs
 | .tuple cs => blksL cs
 | _ => []
def blksL : List V → List Nat
 | [] => []
 | v :: vs => blksV v ++ blksL vs
end
theorem renL_get (f : Nat → Nat) : ∀ (vs : List V) (i : Nat), (renL f vs)[i]? = (vs[i]?).map (renV f)
 | [], i => by simp [renL]
 | v :: vs, 0 => by simp [renL]
 | v :: vs, i + 1 => by simp only [renL, List.getElem?_cons_succ]; exact renL_get f vs i
theorem renL_len (f : Nat → Nat) : ∀ vs : List V, (renL f vs).length = vs.length
 | [] => by simp [renL]
 | v :: vs => by simp [renL, renL_len f vs]
theorem blksL_mem : ∀ {vs : List V} {i : Nat} {v : V}, vs[i]? = some v → ∀ b, b ∈ blksV v → b ∈ blksL vs
 | [], i, v, h, b, hb => by simp at h
 | u :: vs, 0, v, h, b, hb => by
  simp only [List.getElem?_cons_zero, Option.some.injEq] at h; subst h
  simp only [blksL, List.mem_append]; exact .inl hb
 | u :: vs, i + 1, v, h, b, hb => by
  simp only [List.getElem?_cons_succ] at h
  simp only [blksL, List.mem_append]; exact .inr (blksL_mem h b hb)
theorem renL_rel {ρ' : Rho} {f : Nat → Nat} {cs : List V} {xs : List Value} (hl : cs.length = xs.length) (h : ∀ (i : Nat) v x, cs[i]? = some v → xs[i]? = some x → Rel ρ' (renV f v) x) :
 (renL f cs).length = xs.length ∧ ∀ (i : Nat) v x, (renL f cs)[i]? = some v → xs[i]? = some x → Rel ρ' v x:=by
 refine ⟨by rw [renL_len]; exact hl, fun i v x h1 h2 => ?_⟩
 rw [renL_get] at h1
 cases hc : cs[i]? with
 | none => rw [hc] at h1; cases h1
 | some u => rw [hc] at h1; simp only [Option.map_some, Option.some.injEq] at h1; subst h1; exact h i u x hc h2
theorem ren_rel {ρ ρ' : Rho} {f : Nat → Nat} {v : V} {x : Value} (h : Rel ρ v x) : (∀ b, b ∈ blksV v → ρ' (f b) = ρ b) → Rel ρ' (renV f v) x:=by
 induction h with
 | bool | int | str | nilPtr | nilSlice | nilMap | nilFunc | nilIface => intro _; simp only [renV]; constructor
 | ptr o h => intro hf; simp only [renV]; exact .ptr o (by rw [hf _ (by simp [blksV])]; exact h)
 | sliceK o len cap h => intro hf; simp only [renV]; exact .sliceK o len cap (by rw [hf _ (by simp [blksV])]; exact h)
 | sliceZ o a h hz => intro hf; simp only [renV]; exact .sliceZ o a (by rw [hf _ (by simp [blksV])]; exact h) hz
 | sliceE k a c h hk => intro hf; simp only [renV]; exact .sliceE k a c (by rw [hf _ (by simp [blksV])]; exact h) hk
 | sliceG o len k h => intro hf; simp only [renV]; exact .sliceG o len k (by rw [hf _ (by simp [blksV])]; exact h)
 | map h => intro hf; simp only [renV]; exact .map (by rw [hf _ (by simp [blksV])]; exact h)
 | func g hl h kl k ih1 ih2 =>
  intro hf
  simp only [renV]
  have a:=renL_rel hl fun i v x h1 h2 => ih1 i v x h1 h2 fun b hb => hf b (by simp only [blksV, List.mem_append]; exact .inl (blksL_mem h1 b hb))
  have b:=renL_rel kl fun i v x h1 h2 => ih2 i v x h1 h2 fun b hb => hf b (by simp only [blksV, List.mem_append]; exact .inr (blksL_mem h1 b hb))
  exact .func g a.1 a.2 b.1 b.2
 | iface t h ih => intro hf; simp only [renV]; exact .iface t (ih fun b hb => hf b (by simp only [blksV]; exact hb))
 | agg hl h ih =>
  intro hf
  simp only [renV]
  have a:=renL_rel hl fun i v x h1 h2 => ih i v x h1 h2 fun b hb => hf b (by simp only [blksV]; exact blksL_mem h1 b hb)
  exact .agg a.1 a.2
 | tuple hl h ih =>
  intro hf
  simp only [renV]
  have a:=renL_rel hl fun i v x h1 h2 => ih i v x h1 h2 fun b hb => hf b (by simp only [blksV]; exact blksL_mem h1 b hb)
  exact .tuple a.1 a.2
theorem rel_blks {ρ : Rho} {v : V} {x : Value} (h : Rel ρ v x) : ∀ b, b ∈ blksV v → ∃ l, ρ b = some l:=by
 have key : ∀ {cs : List V} {xs : List Value}, cs.length = xs.length → (∀ (i : Nat) v x, cs[i]? = some v → xs[i]? = some x → ∀ b, b ∈ blksV v → ∃ l, ρ b = some l) → ∀ b, b ∈ blksL cs → ∃ l, ρ b = some l:=by
  intro cs
  induction cs with
  | nil => intro xs _ _ b hb; simp [blksL] at hb
  | cons c cs ih =>
   intro xs hl h b hb
   cases xs with
   | nil => simp at hl
   | cons x xs =>
    simp only [blksL, List.mem_append] at hb
    rcases hb with hb | hb
    ·exact h 0 c x rfl rfl b hb
    ·exact ih (xs := xs) (by simpa using hl) (fun i v y h1 h2 => h (i + 1) v y (by simpa using h1) (by simpa using h2)) b hb
 induction h with
 | bool | int | str | nilPtr | nilSlice | nilMap | nilFunc | nilIface => intro b hb; simp [blksV] at hb
 | ptr o h => intro b hb; simp only [blksV, List.mem_singleton] at hb; subst hb; exact ⟨_, h⟩
 | sliceK o len cap h => intro b hb; simp only [blksV, List.mem_singleton] at hb; subst hb; exact ⟨_, h⟩
 | sliceZ o a h hz => intro b hb; simp only [blksV, List.mem_singleton] at hb; subst hb; exact ⟨_, h⟩
 | sliceE k a c h hk => intro b hb; simp only [blksV, List.mem_singleton] at hb; subst hb; exact ⟨_, h⟩
 | sliceG o len k h => intro b hb; simp only [blksV, List.mem_singleton] at hb; subst hb; exact ⟨_, h⟩
 | map h => intro b hb; simp only [blksV, List.mem_singleton] at hb; subst hb; exact ⟨_, h⟩
 | func g hl h kl k ih1 ih2 => intro b hb; simp only [blksV, List.mem_append] at hb; exact hb.elim (fun hb => key hl ih1 b hb) (fun hb => key kl ih2 b hb)
 | iface t h ih => intro b hb; simp only [blksV] at hb; exact ih b hb
 | agg hl h ih => intro b hb; simp only [blksV] at hb; exact key hl ih b hb
 | tuple hl h ih => intro b hb; simp only [blksV] at hb; exact key hl ih b hb
structure GRow where
 cs : List V
 g : Bool
 e : Nat
def ren1 (f : Nat → Nat) (v : V) : V :=
 match v with
 | .slice b o n c g => .slice (f b) o n c g
 | .ptr b o => .ptr (f b) o
 | v => v
def flat1 (v : V) : Bool :=
 match v with
 | .slice .. => true
 | .ptr .. => true
 | v => plain v
theorem ren1_eq {v : V} (h : flat1 v = true) (f : Nat → Nat) : renV f v = ren1 f v:=by
 cases v <;> first | rfl | (simp [flat1, plain] at h; done)
def ren1L (f : Nat → Nat) (vs : List V) : List V:=List.rec (motive:=fun _ => List V) [] (fun v _ ih => ren1 f v :: ih) vs
theorem ren1L_get (f : Nat → Nat) : ∀ (vs : List V) (i : Nat), (ren1L f vs)[i]? = (vs[i]?).map (ren1 f)
 | [], i => by simp [ren1L]
 | v :: vs, 0 => by simp [ren1L]
 | v :: vs, i + 1 => by
  show (ren1 f v :: ren1L f vs)[i + 1]? = _
  simp only [List.getElem?_cons_succ]; exact ren1L_get f vs i
theorem ren1L_len (f : Nat → Nat) : ∀ vs : List V, (ren1L f vs).length = vs.length
 | [] => rfl
 | v :: vs => by show (ren1 f v :: ren1L f vs).length = _; simp [ren1L_len f vs]
mutual
theorem renV_comp {a b c : Nat → Nat} : ∀ v : V, (∀ x, x ∈ blksV v → a (b x) = c x) → renV a (renV b v) = renV c v
 | .ptr x o, h => by simp only [renV]; rw [h x (by simp [blksV])]
 | .slice x o n k g, h => by simp only [renV]; rw [h x (by simp [blksV])]
 | .map x, h => by simp only [renV]; rw [h x (by simp [blksV])]
 | .func g p q, h => by
  simp only [renV]
  rw [renL_comp p fun x hx => h x (by simp only [blksV, List.mem_append]; exact .inl hx), renL_comp q fun x hx => h x (by simp only [blksV, List.mem_append]; exact .inr hx)]
 | .iface t v, h => by simp only [renV]; rw [renV_comp v fun x hx => h x (by simp only [blksV]; exact hx)]
 | .agg cs, h => by simp only [renV]; rw [renL_comp cs fun x hx => h x (by simp only [blksV]; exact hx)]
 | .tuple cs, h => by simp only [renV]; rw [renL_comp cs fun x hx => h x (by simp only [blksV]; exact hx)]
 | .bool b, _ => by simp only [renV]
 | .int k n, _ => by simp only [renV]
 | .str s, _ => by simp only [renV]
 | .nilPtr, _ => by simp only [renV]
 | .nilSlice, _ => by simp only [renV]
 | .nilMap, _ => by simp only [renV]
 | .nilFunc, _ => by simp only [renV]
 | .nilIface, _ => by simp only [renV]
theorem renL_comp {a b c : Nat → Nat} : ∀ vs : List V, (∀ x, x ∈ blksL vs → a (b x) = c x) → renL a (renL b vs) = renL c vs
 | [], _ => by simp only [renL]
 | v :: vs, h => by
  simp only [renL]
  rw [renV_comp v fun x hx => h x (by simp only [blksL, List.mem_append]; exact .inl hx), renL_comp vs fun x hx => h x (by simp only [blksL, List.mem_append]; exact .inr hx)]
end
mutual
theorem blksV_ren (f : Nat → Nat) : ∀ v : V, blksV (renV f v) = (blksV v).map f
 | .ptr x o => by simp only [renV, blksV, List.map]
 | .slice x o n k g => by simp only [renV, blksV, List.map]
 | .map x => by simp only [renV, blksV, List.map]
 | .func g p q => by simp only [renV, blksV, List.map_append]; rw [blksL_ren f p, blksL_ren f q]
 | .iface t v => by simp only [renV, blksV]; exact blksV_ren f v
 | .agg cs => by simp only [renV, blksV]; exact blksL_ren f cs
 | .tuple cs => by simp only [renV, blksV]; exact blksL_ren f cs
 | .bool b => by simp only [renV, blksV, List.map]
 | .int k n => by simp only [renV, blksV, List.map]
 | .str s => by simp only [renV, blksV, List.map]
 | .nilPtr => by simp only [renV, blksV, List.map]
 | .nilSlice => by simp only [renV, blksV, List.map]
 | .nilMap => by simp only [renV, blksV, List.map]
 | .nilFunc => by simp only [renV, blksV, List.map]
 | .nilIface => by simp only [renV, blksV, List.map]
theorem blksL_ren (f : Nat → Nat) : ∀ vs : List V, blksL (renL f vs) = (blksL vs).map f
 | [] => by simp only [renL, blksL, List.map]
 | v :: vs => by simp only [renL, blksL, List.map_append]; rw [blksV_ren f v, blksL_ren f vs]
end
theorem blksL_in : ∀ {vs : List V} {b : Nat}, b ∈ blksL vs → ∃ (i : Nat) (v : V), vs[i]? = some v ∧ b ∈ blksV v
 | [], b, h => by simp [blksL] at h
 | v :: vs, b, h => by
  simp only [blksL, List.mem_append] at h
  rcases h with h | h
  ·exact ⟨0, v, rfl, h⟩
  ·obtain ⟨i, u, h1, h2⟩ := blksL_in h
   exact ⟨i + 1, u, by simpa using h1, h2⟩
def rowOb (f : Nat → Nat) (r : GRow) : Ob:=.cells (Tr.nil.setL 0 (ren1L f r.cs)) (ren1L f r.cs).length r.g r.e
def GRowR (P : Program) (ρ : Rho) (w : World) (l : Lc) (f : Nat → Nat) (r : GRow) : Prop := ∃ arr : Array Value, w.heap[l.blk]? = some (.cells arr r.e (0, 0)) ∧ (∀ (j : Nat) (u : V), r.cs[j]? = some u → ∃ x, arr[l.base + j]? = some x ∧ Rel ρ (ren1 f u) x) ∧
 l.base + r.cs.length ≤ arr.size ∧ (r.g = true → r.cs.length ≤ l.cap * P.cellsOf r.e ∧ l.base + l.cap * P.cellsOf r.e ≤ arr.size)
theorem GRowR.ob [Orc] [Res] {ρ : Rho} {w : World} {l : Lc} {f : Nat → Nat} {r : GRow} (h : GRowR P ρ w l f r) : ObR P ρ w l (rowOb f r):=by
 obtain ⟨arr, h1, h2, h3, h4⟩:=h
 refine ⟨arr, ⟨h1, fun j u hu => ?_, by rw [ren1L_len]; exact h3, by rw [ren1L_len]; exact h4⟩⟩
 rw [Tr.get_setL] at hu
 split at hu
 ·rename_i hj
  rw [ren1L_len] at hj ⊢
  rw [Nat.sub_zero, ren1L_get] at hu
  cases hq : r.cs[j]? with
  | none => rw [hq] at hu; cases hu
  | some q =>
   rw [hq, Option.map_some, Option.some.injEq] at hu
   subst hu
   obtain ⟨y, hy, hr⟩:=h2 j q hq
   exact ⟨by omega, y, hy, hr⟩
 ·rw [Tr.get_nil] at hu; cases hu
def KnownG (P : Program) (I : World → Prop) (f : FuncId) (vs : List V) (v : V) (rows : List GRow) : Prop := ∀ (ρ : Rho) (xs : List Value), RelL ρ vs xs → ∀ w : World, I w →
 CallR P f ⟨xs⟩ w fun e w' => ∃ (x : Value) (lc : Nat → Lc), e = .returned x ∧ Below w.heap.size w w' ∧ (∀ i, i < rows.length → (lc i).base = 0 ∧ w.heap.size ≤ (lc i).blk ∧ (lc i).blk < w'.heap.size) ∧
  (∀ i j, i < rows.length → j < rows.length → i ≠ j → (lc i).blk ≠ (lc j).blk) ∧
  ∀ (ρ : Rho) (f : Nat → Nat), (∀ i, i < rows.length → ρ (f i) = some (lc i)) → Rel ρ (renV f v) x ∧ ∀ i r, rows[i]? = some r → GRowR P ρ w' (lc i) f r
def rowIs (β : Nat → Nat) (r : GRow) (o : Option Ob) : Bool :=
 match o with
 | some (.cells t n g e) => Nat.beq n r.cs.length && (Bool.rec (Bool.not g) g r.g && (Nat.beq e r.e && vEqO (t.getL 0 n) (some (ren1L β r.cs))))
 | _ => false
theorem rowIs_at [Orc] [Res] {β : Nat → Nat} {r : GRow} {o : Option Ob} (h : rowIs β r o = true) : ∃ t, o = some (.cells t r.cs.length r.g r.e) ∧ t.getL 0 r.cs.length = some (ren1L β r.cs):=by
 unfold rowIs at h
 split at h
 ·rename_i t n g e
  simp only [Bool.and_eq_true] at h
  obtain ⟨h1, h2, h3, h4⟩:=h
  have h1:=Nat.eq_of_beq_eq_true h1
  have h3:=Nat.eq_of_beq_eq_true h3
  subst h1; subst h3
  have hg : g = r.g:=by
   revert h2
   cases g <;> cases r.g <;> intro h <;> first | rfl | cases h
  subst hg
  refine ⟨t, rfl, ?_⟩
  unfold vEqO at h4
  cases hl : t.getL 0 r.cs.length with
  | none => rw [hl] at h4; cases h4
  | some l => rw [hl] at h4; rw [vEqL_eq (x:=l) (y:=ren1L β r.cs) h4]
 ·cases h
def rowFit (k : Nat) (r : GRow) : Prop:=r.cs.all flat1 = true ∧ ∀ b, b ∈ blksL r.cs → b < k
theorem knownG_of [Orc] [OrcOk P] (hmix : P.follows .mixedOrders = true) (hN : Named P) {labs : Tr Lab} {f : FuncId} {vs : List V} {v : V} {h0 h' : Hp} {I : World → Prop} (hI : ∀ w, I w → Begins P h0 w)
 (hp : vs.all plain = true) {rows : List GRow} {β : Nat → Nat} (hv : ∀ b, b ∈ blksV v → b < rows.length) (hf : ∀ (i : Nat) (r : GRow), rows[i]? = some r → rowFit rows.length r)
 (hc : ∀ (i : Nat) (r : GRow), rows[i]? = some r → rowIs β r (h'.t.get (β i)) = true) (hβ : ∀ i j, i < rows.length → j < rows.length → β i = β j → i = j)
 {i0 : Nat} {r0 : GRow} (h0v : i0 ∈ blksV v) (h0r : rows[i0]? = some r0) (hr : ∀ i, i < rows.length → i = i0 ∨ i ∈ blksL r0.cs)
 (he : lim P labs (2 * f) vs h0 = some (renV β v, h')) : KnownG P I f vs v rows:=by
 intro ρ xs ha w hw
 obtain ⟨fuel, hrun⟩:=lim_F.1 he
 obtain ⟨ρ0, H⟩:=hI w hw
 refine (call_sim (run_sim hmix hN fuel).1 H (ha.plain (ρ':=ρ0) hp) hrun).mono ?_
 rintro e w' ⟨x, ρ', rfl, h2, _, h3⟩
 have h2b:=rel_blks h2
 rw [blksV_ren] at h2b
 obtain ⟨l0, hl0⟩:=h2b _ (List.mem_map.2 ⟨i0, h0v, rfl⟩)
 have cell : ∀ {i : Nat} {r : GRow} {l : Lc}, rows[i]? = some r → ρ' (β i) = some l → ∃ arr t, h'.t.get (β i) = some (.cells t r.cs.length r.g r.e) ∧ CellsR P ρ' w' l t r.cs.length r.g r.e arr ∧ ∀ (j : Nat) u, r.cs[j]? = some u → t.get j = some (renV β u):=by
  intro i r l hi hl
  obtain ⟨t, ht, hg⟩:=rowIs_at (hc i r hi)
  obtain ⟨arr, c⟩:=h3.live _ _ _ hl ht
  refine ⟨arr, t, ht, c, fun j u hu => ?_⟩
  obtain ⟨_, hs⟩:=Tr.getL_spec _ _ _ _ hg
  have:=hs j (List.getElem?_eq_some_iff.1 hu).1
  rw [Nat.zero_add, ren1L_get, hu] at this
  rw [← this, Option.map_some, ren1_eq (List.all_eq_true.1 (hf i r hi).1 u (List.mem_of_getElem? hu))]
 have hall : ∀ i, i < rows.length → ∃ l, ρ' (β i) = some l:=by
  intro i hi
  rcases hr i hi with rfl | hb
  ·exact ⟨l0, hl0⟩
  ·obtain ⟨arr, t, _, c, hcs⟩ := cell h0r hl0
   obtain ⟨j, u, hj, hu⟩:=blksL_in hb
   obtain ⟨_, y, _, hy⟩:=c.get j _ (hcs j u hj)
   refine rel_blks hy _ ?_
   rw [blksV_ren]; exact List.mem_map.2 ⟨i, hu, rfl⟩
 have hns : ∀ i, i < rows.length → ∃ t n g e, h'.t.get (β i) = some (.cells t n g e):=by
  intro i hi
  obtain ⟨t, ht, _⟩:=rowIs_at (hc i _ (List.getElem?_eq_getElem hi))
  exact ⟨t, _, _, _, ht⟩
 refine ⟨x, fun i => (ρ' (β i)).getD ⟨0, 0, 0⟩, rfl, h3.below, fun i hi => ?_, fun i j hi hj hne => ?_, fun ρ2 f2 hf2 => ?_⟩
 ·obtain ⟨l, hl⟩ := hall i hi
  obtain ⟨t, n, g, e, ht⟩:=hns i hi
  simp only [hl, Option.getD_some]
  have ho:=h3.own2 hl (Hp.not_still ht (fun t e => by simp))
  exact ⟨ho.2, ho.1, h3.lt hl ⟨_, ht, by simp⟩⟩
 ·obtain ⟨l, hl⟩ := hall i hi
  obtain ⟨m, hm⟩:=hall j hj
  obtain ⟨t, n, g, e, ht⟩:=hns i hi
  obtain ⟨t', n', g', e', ht'⟩:=hns j hj
  simp only [hl, hm, Option.getD_some]
  exact h3.inj _ _ _ _ hl hm (fun e => hne (hβ i j hi hj e)) ⟨_, ht, by simp⟩ ⟨_, ht', by simp⟩
 ·
  let inv : Nat → Nat:=fun b => open Classical in if h : ∃ i, i < rows.length ∧ β i = b then f2 h.choose else 0
  have hinv : ∀ i, i < rows.length → inv (β i) = f2 i:=by
   intro i hi
   have hx : ∃ j, j < rows.length ∧ β j = β i:=⟨i, hi, rfl⟩
   show (open Classical in if h : ∃ j, j < rows.length ∧ β j = β i then f2 h.choose else 0) = f2 i
   rw [dif_pos hx]
   rw [hβ _ _ hx.choose_spec.1 hi hx.choose_spec.2]
  have turn : ∀ {u : V} {y : Value}, (∀ b, b ∈ blksV u → b < rows.length) → Rel ρ' (renV β u) y → Rel ρ2 (renV f2 u) y:=by
   intro u y hu hy
   rw [← renV_comp (a:=inv) (b:=β) (c:=f2) u fun b hb => hinv b (hu b hb)]
   refine ren_rel hy fun b hb => ?_
   rw [blksV_ren] at hb
   obtain ⟨i, hi, rfl⟩:=List.mem_map.1 hb
   have hi:=hu i hi
   obtain ⟨l, hl⟩:=hall i hi
   rw [hinv i hi, hf2 i hi]
   simp only [hl, Option.getD_some]
  refine ⟨turn hv h2, fun i r hi => ?_⟩
  have hlt:=(List.getElem?_eq_some_iff.1 hi).1
  obtain ⟨l, hl⟩:=hall i hlt
  obtain ⟨arr, t, ht, c, hcs⟩:=cell hi hl
  simp only [hl, Option.getD_some]
  refine ⟨arr, c.at_, fun j q hq => ?_, c.fit, c.top⟩
  obtain ⟨_, y, hy, hr2⟩:=c.get j _ (hcs j q hq)
  refine ⟨y, hy, ?_⟩
  rw [← ren1_eq (List.all_eq_true.1 (hf i r hi).1 q (List.mem_of_getElem? hq))]
  exact turn (fun b hb => (hf i r hi).2 b (blksL_mem hq b hb)) hr2
def addG (f : Nat → Nat) (rows : List GRow) (h : Hp) : Hp:=List.rec (motive:=fun _ => Hp → Hp) (fun h => h) (fun r _ ih h => ih (h.new (rowOb f r))) rows h
theorem addG_cons (f : Nat → Nat) (r : GRow) (rows : List GRow) (h : Hp) : addG f (r :: rows) h = addG f rows (h.new (rowOb f r)):=rfl
theorem addG_n (f : Nat → Nat) : ∀ (rows : List GRow) (h : Hp), (addG f rows h).n = h.n + rows.length
 | [], h => rfl
 | r :: rows, h => by rw [addG_cons, addG_n f rows]; simp only [Hp.new, List.length_cons]; omega
theorem addG_get (f : Nat → Nat) : ∀ (rows : List GRow) (h : Hp) (b : Nat), (addG f rows h).t.get b = if h.n ≤ b ∧ b < h.n + rows.length then (rows[b - h.n]?).map (rowOb f) else h.t.get b
 | [], h, b => by simp only [List.length_nil]; rw [if_neg (by omega)]; rfl
 | r :: rows, h, b => by
  rw [addG_cons, addG_get f rows]
  have hn : (h.new (rowOb f r)).n = h.n + 1:=rfl
  have hg : (h.new (rowOb f r)).t = h.t.set h.n (rowOb f r):=rfl
  rw [hn, hg, List.length_cons]
  by_cases hb : b = h.n
  ·subst hb
   rw [if_neg (by omega), if_pos (by omega), Tr.get_set_same]; simp
  ·rw [Tr.get_set_ne _ _ (Ne.symm hb)]
   by_cases h2 : h.n ≤ b ∧ b < h.n + (rows.length + 1)
   ·rw [if_pos (by omega), if_pos h2]
    have : b - h.n = (b - (h.n + 1)) + 1:=by omega
    rw [this]; simp
   ·rw [if_neg (by omega), if_neg h2]
theorem KnownG.sound [Orc] [Z : Res] {I : World → Prop} {f : FuncId} {vs : List V} {v : V} {rows : List GRow} (hk : KnownG P I f vs v rows) {w0 w : World} {h : Hp} {ρ : Rho} {xs : List Value} (hI : I w) (H : R P w0 w h ρ) (ha : RelL ρ vs xs) :
 CallR P f ⟨xs⟩ w fun e w' => ∃ x ρ', e = .returned x ∧ Rel ρ' (renV (fun i => Nat.add h.n i) v) x ∧ Ext ρ ρ' ∧ R P w0 w' (addG (fun i => Nat.add h.n i) rows h) ρ':=by
 refine (hk ρ xs ha w hI).mono ?_
 rintro e w' ⟨x, lc, rfl, hB, h1, h2, h3⟩
 have H':=H.later (h2:=h) (ρ2:=ρ) hB
 let ρ' : Rho:=fun b => if b < h.n then ρ b else if b < h.n + rows.length then some (lc (b - h.n)) else none
 have old : ∀ {b : Nat}, b < h.n → ρ' b = ρ b:=fun hb => if_pos hb
 have new : ∀ {i : Nat}, i < rows.length → ρ' (h.n + i) = some (lc i):=by
  intro i hi
  show (if h.n + i < h.n then _ else if h.n + i < h.n + rows.length then some (lc (h.n + i - h.n)) else none) = _
  rw [if_neg (by omega), if_pos (by omega), Nat.add_sub_cancel_left]
 have inv : ∀ {b : Nat} {l : Lc}, ρ' b = some l → (b < h.n ∧ ρ b = some l) ∨ ∃ i, i < rows.length ∧ b = h.n + i ∧ l = lc i:=by
  intro b l hb
  rcases Nat.lt_or_ge b h.n with hl | hl
  ·exact .inl ⟨hl, by rw [← old hl]; exact hb⟩
  ·obtain ⟨i, rfl⟩ : ∃ i, b = h.n + i := ⟨b - h.n, by omega⟩
   rcases Nat.lt_or_ge i rows.length with hi | hi
   ·rw [new hi] at hb; exact .inr ⟨i, hi, rfl, (Option.some.inj hb).symm⟩
   ·have : ρ' (h.n + i) = none:=by
     show (if h.n + i < h.n then _ else if h.n + i < h.n + rows.length then some (lc (h.n + i - h.n)) else none) = _
     rw [if_neg (by omega), if_neg (by omega)]
    rw [this] at hb; cases hb
 have hext : Ext ρ ρ':=fun b l hb => by rw [old (H.bnd b l hb).1]; exact hb
 obtain ⟨k1, k2⟩:=h3 ρ' (fun i => Nat.add h.n i) fun i hi => new hi
 have gold : ∀ {b : Nat}, b < h.n → (addG (fun i => Nat.add h.n i) rows h).t.get b = h.t.get b:=fun hb => by rw [addG_get, if_neg (by omega)]
 have gnew : ∀ {i : Nat} (hi : i < rows.length), (addG (fun i => Nat.add h.n i) rows h).t.get (h.n + i) = some (rowOb (fun i => Nat.add h.n i) rows[i]) := fun {i} hi => by
  rw [addG_get, if_pos (by omega), Nat.add_sub_cancel_left, List.getElem?_eq_getElem hi]; rfl
 have aold : ∀ {b : Nat}, b < h.n → (addG (fun i => Nat.add h.n i) rows h).alive b → h.alive b:=fun hb ⟨o, h1, h2⟩ => ⟨o, by rw [← gold hb]; exact h1, h2⟩
 refine ⟨x, ρ', rfl, k1, hext, H'.below, ?_, ?_, ?_, fun b hb => ?_, H'.glob.ext hext, H'.base, fun b hb => ?_, fun r O hr => ?_⟩
 ·intro b l hb
  rw [addG_n]
  rcases inv hb with ⟨hl, hb⟩ | ⟨i, hi, rfl, rfl⟩
  ·obtain ⟨a1, a2, a3⟩ := H'.bnd b l hb
   refine ⟨by omega, a2.imp id fun hs => ?_, a3⟩
   unfold Hp.still at hs ⊢
   rw [gold hl]; exact hs
  ·obtain ⟨b0, b1, b2⟩ := h1 i hi
   exact ⟨by omega, .inl ⟨Nat.le_trans H.below.size b1, b0⟩, .inr b2⟩
 ·intro b l o hb ho
  rcases inv hb with ⟨hl, hb⟩ | ⟨i, hi, rfl, rfl⟩
  ·rw [gold hl] at ho
   exact (H'.live b l o hb ho).keep hext rfl
  ·rw [gnew hi, Option.some.injEq] at ho
   subst ho
   exact (k2 i _ (List.getElem?_eq_getElem hi)).ob
 ·intro b b' l l' hb hb' hne ha ha'
  rcases inv hb with ⟨hl, hb⟩ | ⟨i, hi, rfl, rfl⟩
  ·rcases inv hb' with ⟨hl', hb'⟩ | ⟨j, hj, rfl, rfl⟩
   ·exact H'.inj b b' l l' hb hb' hne (aold hl ha) (aold hl' ha')
   ·have := H.lt hb (aold hl ha)
    have:=(h1 j hj).2.1
    omega
  ·rcases inv hb' with ⟨hl', hb'⟩ | ⟨j, hj, rfl, rfl⟩
   ·have := H.lt hb' (aold hl' ha')
    have:=(h1 i hi).2.1
    omega
   ·exact h2 i j hi hj (fun e => hne (by rw [e]))
 ·rw [addG_n] at hb
  rw [addG_get, if_neg (by omega)]
  exact H'.fresh b (by omega)
 ·obtain ⟨a1, a2⟩ := H'.rs b hb
  exact ⟨by rw [old a2]; exact a1, by rw [addG_n]; omega⟩
 ·obtain ⟨a, b, c⟩ := H'.pn r O hr
  refine ⟨a, b, fun x l hx => ?_⟩
  rcases inv hx with ⟨_, hx⟩ | ⟨i, hi, rfl, rfl⟩
  ·exact c x l hx
  ·have := (Array.getElem?_eq_some_iff.1 (H.pn r O hr).1).1
   have:=(h1 i hi).2.1
   omega
def fitV (k : Nat) (v : V) : Bool :=
 match v with
 | .slice b _ _ _ _ => Nat.blt b k
 | .ptr b _ => Nat.blt b k
 | v => plain v
theorem fitV_at {k : Nat} {v : V} (h : fitV k v = true) : flat1 v = true ∧ ∀ b, b ∈ blksV v → b < k:=by
 cases v <;> first
  | (refine ⟨rfl, fun b hb => ?_⟩; simp only [blksV, List.mem_singleton] at hb; subst hb; exact Nat.le_of_ble_eq_true h)
  | (refine ⟨h, fun b hb => ?_⟩; simp [blksV] at hb; done)
  | (cases h; done)
def fitL (k : Nat) (vs : List V) : Bool:=List.rec (motive:=fun _ => Bool) true (fun v _ ih => Bool.rec (motive:=fun _ => Bool) false ih (fitV k v)) vs
theorem fitL_at {k : Nat} : ∀ {vs : List V}, fitL k vs = true → vs.all flat1 = true ∧ ∀ b, b ∈ blksL vs → b < k
 | [], _ => ⟨rfl, fun b hb => by simp [blksL] at hb⟩
 | v :: vs, h => by
  change Bool.rec (motive:=fun _ => Bool) false (fitL k vs) (fitV k v) = true at h
  cases hv : fitV k v with
  | false => rw [hv] at h; cases h
  | true =>
   rw [hv] at h
   obtain ⟨a1, a2⟩:=fitV_at hv
   obtain ⟨b1, b2⟩:=fitL_at (vs:=vs) h
   refine ⟨by rw [List.all_cons, a1, b1]; rfl, fun b hb => ?_⟩
   simp only [blksL, List.mem_append] at hb
   exact hb.elim (a2 b) (b2 b)
def rowsFit (k : Nat) (rows : List GRow) : Bool:=List.rec (motive:=fun _ => Bool) true (fun r _ ih => Bool.rec (motive:=fun _ => Bool) false ih (fitL k r.cs)) rows
theorem rowsFit_at {k : Nat} : ∀ {rows : List GRow}, rowsFit k rows = true → ∀ (i : Nat) (r : GRow), rows[i]? = some r → rowFit k r
 | [], _, i, r, hi => by simp at hi
 | q :: rows, h, i, r, hi => by
  change Bool.rec (motive:=fun _ => Bool) false (rowsFit k rows) (fitL k q.cs) = true at h
  cases hq : fitL k q.cs with
  | false => rw [hq] at h; cases h
  | true =>
   rw [hq] at h
   cases i with
   | zero => simp only [List.getElem?_cons_zero, Option.some.injEq] at hi; subst hi; exact fitL_at hq
   | succ i => exact rowsFit_at (rows:=rows) h i r (by simpa using hi)
def rowsIs (β : Nat → Nat) (t : Tr Ob) (rows : List GRow) : Nat → Bool:=List.rec (motive:=fun _ => Nat → Bool) (fun _ => true) (fun r _ ih i => Bool.rec (motive:=fun _ => Bool) false (ih (Nat.succ i)) (rowIs β r (t.get (β i)))) rows
theorem rowsIs_at {β : Nat → Nat} {t : Tr Ob} : ∀ {rows : List GRow} {j : Nat}, rowsIs β t rows j = true → ∀ (i : Nat) (r : GRow), rows[i]? = some r → rowIs β r (t.get (β (j + i))) = true
 | [], _, _, i, r, hi => by simp at hi
 | q :: rows, j, h, i, r, hi => by
  change Bool.rec (motive:=fun _ => Bool) false (rowsIs β t rows (Nat.succ j)) (rowIs β q (t.get (β j))) = true at h
  cases hq : rowIs β q (t.get (β j)) with
  | false => rw [hq] at h; cases h
  | true =>
   rw [hq] at h
   cases i with
   | zero => simp only [List.getElem?_cons_zero, Option.some.injEq] at hi; subst hi; exact hq
   | succ i =>
    have:=rowsIs_at (rows:=rows) h i r (by simpa using hi)
    rw [show j + (i + 1) = Nat.succ j + i by omega]; exact this
def mark1 (v : V) (m : Tr Nat) : Tr Nat :=
 match v with
 | .slice b _ _ _ _ => m.set b 0
 | .ptr b _ => m.set b 0
 | _ => m
def marks (vs : List V) : Tr Nat → Tr Nat:=List.rec (motive:=fun _ => Tr Nat → Tr Nat) (fun m => m) (fun v _ ih m => ih (mark1 v m)) vs
theorem mark1_at {v : V} {m : Tr Nat} {b x : Nat} (h : (mark1 v m).get b = some x) : (∃ y, m.get b = some y) ∨ b ∈ blksV v:=by
 unfold mark1 at h
 split at h
 ·rename_i a _ _ _ _
  by_cases hb : a = b
  ·subst hb; exact .inr (by simp [blksV])
  ·rw [Tr.get_set_ne _ _ hb] at h; exact .inl ⟨_, h⟩
 ·rename_i a _
  by_cases hb : a = b
  ·subst hb; exact .inr (by simp [blksV])
  ·rw [Tr.get_set_ne _ _ hb] at h; exact .inl ⟨_, h⟩
 ·exact .inl ⟨_, h⟩
theorem marks_at : ∀ {vs : List V} {m : Tr Nat} {b x : Nat}, (marks vs m).get b = some x → (∃ y, m.get b = some y) ∨ b ∈ blksL vs
 | [], m, b, x, h => .inl ⟨_, h⟩
 | v :: vs, m, b, x, h => by
  have h : (marks vs (mark1 v m)).get b = some x:=h
  simp only [blksL, List.mem_append]
  rcases marks_at h with ⟨y, hy⟩ | hb
  ·exact (mark1_at hy).imp id .inl
  ·exact .inr (.inr hb)
def reach (m : Tr Nat) (i0 : Nat) (k : Nat) : Bool:=Nat.rec (motive:=fun _ => Bool) true (fun i ih => Bool.rec (motive:=fun _ => Bool) (Option.rec (motive:=fun _ => Bool) false (fun _ => ih) (m.get i)) ih (Nat.beq i i0)) k
theorem reach_at {m : Tr Nat} {i0 : Nat} : ∀ {k : Nat}, reach m i0 k = true → ∀ i, i < k → i = i0 ∨ ∃ x, m.get i = some x
 | 0, _, i, hi => by omega
 | k + 1, h, i, hi => by
  change Bool.rec (motive:=fun _ => Bool) (Option.rec (motive:=fun _ => Bool) false (fun _ => reach m i0 k) (m.get k)) (reach m i0 k) (Nat.beq k i0) = true at h
  have key : (k = i0 ∨ ∃ x, m.get k = some x) ∧ reach m i0 k = true:=by
   cases hb : Nat.beq k i0 with
   | true => rw [hb] at h; exact ⟨.inl (Nat.eq_of_beq_eq_true hb), h⟩
   | false =>
    rw [hb] at h
    cases hg : m.get k with
    | none => rw [hg] at h; cases h
    | some x => rw [hg] at h; exact ⟨.inr ⟨x, rfl⟩, h⟩
  by_cases hik : i = k
  ·subst hik; exact key.1
  ·exact reach_at key.2 i (by omega)
theorem knownG_chk [Orc] [OrcOk P] (hmix : P.follows .mixedOrders = true) (hN : Named P) {labs : Tr Lab} {f : FuncId} {vs : List V} {v : V} {h0 h' : Hp} {I : World → Prop} (hI : ∀ w, I w → Begins P h0 w)
 (hp : vs.all plain = true) {rows : List GRow} {β : Nat → Nat} {k : Nat} (hk : rows.length = k) (hv : ∀ b, b ∈ blksV v → b < k) (hf : rowsFit k rows = true)
 (hc : rowsIs β h'.t rows 0 = true) (hβ : ∀ i j, i < k → j < k → β i = β j → i = j)
 {i0 : Nat} {r0 : GRow} (h0v : i0 ∈ blksV v) (h0r : rows[i0]? = some r0) (hr : reach (marks r0.cs Tr.nil) i0 k = true)
 (he : lim P labs (2 * f) vs h0 = some (renV β v, h')) : KnownG P I f vs v rows:=by
 subst hk
 refine knownG_of hmix hN hI hp hv (rowsFit_at hf) (fun i r hi => ?_) hβ h0v h0r (fun i hi => ?_) he
 ·have := rowsIs_at hc i r hi
  rw [Nat.zero_add] at this; exact this
 ·rcases reach_at hr i hi with h | ⟨x, hx⟩
  ·exact .inl h
  ·rcases marks_at hx with ⟨y, hy⟩ | hb
   ·rw [Tr.get_nil] at hy; cases hy
   ·exact .inr hb
def oneH (k : Nat) (L : List V) (e : Nat) : Hp:=⟨Tr.nil.set k (.cells (Tr.nil.setL 0 L) L.length false e), k + 1, k + 1⟩
theorem rel_turn {ρ ρ' : Rho} {b b' : Nat} (hb : ρ' b' = ρ b) {vs : List V} {xs : List Value} (hv : ∀ c, c ∈ blksL vs → c = b) (h : RelL ρ vs xs) : RelL ρ' (renL (fun _ => b') vs) xs:=by
 refine ⟨?_, fun i v x h1 h2 => ?_⟩
 ·rw [← h.1]
  have : ∀ l : List V, (renL (fun _ => b') l).length = l.length := fun l => by
   induction l with
   | nil => rfl
   | cons a l ih => simp only [renL, List.length_cons, ih]
  exact this vs
 ·rw [renL_get] at h1
  cases hq : vs[i]? with
  | none => rw [hq] at h1; cases h1
  | some q =>
   rw [hq, Option.map_some, Option.some.injEq] at h1
   subst h1
   exact ren_rel (h.2 i q x hq h2) fun c hc => by rw [hv c (blksL_mem hq c hc)]; exact hb
theorem knownM [O : Orc] [OrcOk P] [Z : Res] (hmix : P.follows .mixedOrders = true) (hN : Named P) {labs : Tr Lab} {f : FuncId} {vs : List V} {v : V} {L L' : List V} {e : Nat} {h1 : Hp} {t' : Tr V}
 (hpL : L.all plain = true) (hpL' : L'.all plain = true) (hlen : L'.length = L.length) (hv : ∀ (ρ ρ' : Rho) (x : Value), Rel ρ v x → Rel ρ' v x)
 (he : lim P labs (2 * f) (renL (fun _ => Orc.ng) vs) (oneH Orc.ng L e) = some (v, h1)) (hg : h1.t.get Orc.ng = some (.cells t' L.length false e)) (hL' : ∀ i, i < L.length → t'.get i = L'[i]?)
 {w0 w : World} {h : Hp} {ρ : Rho} {xs : List Value} {b : Nat} {t : Tr V} (hng : Orc.ng ≤ w0.heap.size) (H : R P w0 w h ρ) (ha : RelL ρ vs xs) (hvs : ∀ c, c ∈ blksL vs → c = b) (hin : b ∈ blksL vs)
 (hb : h.t.get b = some (.cells t L.length false e)) (hL : ∀ i, i < L.length → t.get i = L[i]?) :
 CallR P f ⟨xs⟩ w fun e' w' => ∃ x, e' = .returned x ∧ Rel ρ v x ∧ R P w0 w' (h.put b (.cells (Tr.nil.setL 0 L') L.length false e)) ρ:=by
 obtain ⟨fuel, hrun⟩:=lim_F.1 he
 obtain ⟨l, hl⟩ : ∃ l, ρ b = some l:=by
  obtain ⟨i, u, hu, hbu⟩:=blksL_in hin
  have hi : i < xs.length:=by rw [← ha.1]; exact (List.getElem?_eq_some_iff.1 hu).1
  exact rel_blks (ha.2 i u xs[i] hu (List.getElem?_eq_getElem hi)) b hbu
 have hns : ¬ h.still b:=Hp.not_still hb (fun t e => by simp)
 obtain ⟨hw0, hbase⟩:=H.own2 hl hns
 obtain ⟨arr, c⟩:=H.live b l _ hl hb
 have hlw : l.blk < w.heap.size:=(Array.getElem?_eq_some_iff.1 c.at_).1
 have hab : h.alive b:=⟨_, hb, by simp⟩
 let ρL : Rho:=fun x => if x < Orc.ng then ρ x else if x = Orc.ng then some l else none
 have hρn : ρL Orc.ng = some l:=by show (if _ then _ else _) = _; rw [if_neg (by omega), if_pos rfl]
 have hρo : ∀ {x : Nat}, x < Orc.ng → ρL x = ρ x:=fun hx => if_pos hx
 have hρi : ∀ {x : Nat} {k : Lc}, ρL x = some k → (x < Orc.ng ∧ ρ x = some k) ∨ (x = Orc.ng ∧ k = l):=by
  intro x k hx
  rcases Nat.lt_or_ge x Orc.ng with hlt | hge
  ·exact .inl ⟨hlt, by rw [← hρo hlt]; exact hx⟩
  ·by_cases hxe : x = Orc.ng
   ·subst hxe; rw [hρn] at hx; exact .inr ⟨rfl, (Option.some.inj hx).symm⟩
   ·have : ρL x = none := by show (if _ then _ else if _ then _ else _) = _; rw [if_neg (by omega), if_neg hxe]
    rw [this] at hx; cases hx
 have hgl : ∀ {x : Nat} {k : Lc}, x < Orc.ng → ρ x = some k → k.blk = x:=by
  intro x k hx hk
  obtain ⟨c, hc⟩:=H.glob x hx
  rw [hc, Option.some.injEq] at hk
  subst hk; rfl
 have Hbelow:=H.below; have Hbnd:=H.bnd; have Hlive:=H.live; have Hinj:=H.inj; have Hfresh:=H.fresh; have Hglob:=H.glob; have Hbase:=H.base; have Hrs:=H.rs; have Hpn:=H.pn
 have Hlt : ∀ {x : Nat} {k : Lc}, ρ x = some k → h.alive x → k.blk < w.heap.size:=fun h1 h2 => H.lt h1 h2
 let Z' : Res:=⟨fun _ => False, fun r O => w.heap[r]? = some O ∧ w0.heap.size ≤ r ∧ r ≠ l.blk⟩
 have hget : ∀ x, (oneH Orc.ng L e).t.get x = if x = Orc.ng then some (.cells (Tr.nil.setL 0 L) L.length false e) else none:=by
  intro x
  show (Tr.nil.set _ _).get x = _
  by_cases hx : x = Orc.ng
  ·subst hx; rw [Tr.get_set_same, if_pos rfl]
  ·rw [Tr.get_set_ne _ _ (Ne.symm hx), Tr.get_nil, if_neg hx]
 have HL : @R _ Z' P w0 w (oneH Orc.ng L e) ρL:=by
  refine @R.mk _ Z' P _ _ _ _ Hbelow (fun x k hx => ?_) (fun x k o hx ho => ?_) (fun x y k k' hx hy hne hax hay => ?_) (fun x hx => ?_) (fun g hg => ?_) Hbase (fun _ h => h.elim) (fun r O hr => ⟨hr.1, hr.2.1, fun x k hx => ?_⟩)
  ·rcases hρi hx with ⟨hlt, hk⟩ | ⟨rfl, rfl⟩
   ·exact ⟨by show x < Orc.ng + 1; omega, .inr (.inl (by rw [hget, if_neg (by omega)])), (Hbnd x k hk).2.2⟩
   ·exact ⟨Nat.lt_succ_self _, .inl ⟨hw0, hbase⟩, .inr hlw⟩
  ·rw [hget] at ho
   split at ho
   next hxe =>
    subst hxe
    rw [hρn, Option.some.injEq] at hx
    cases ho
    subst hx
    refine ⟨arr, c.at_, fun i u hu => ?_, c.fit, c.top⟩
    rw [Tr.get_setL, Nat.zero_add] at hu
    split at hu
    next hi =>
     rw [Nat.sub_zero] at hu
     obtain ⟨_, x, hx, hr⟩:=c.get i u (by rw [hL i hi.2]; exact hu)
     exact ⟨hi.2, x, hx, hr.plain (List.all_eq_true.1 hpL u (List.mem_of_getElem? hu))⟩
    next => rw [Tr.get_nil] at hu; cases hu
   next => cases ho
  ·obtain ⟨o, ho, _⟩ := hax
   obtain ⟨o', ho', _⟩:=hay
   rw [hget] at ho ho'
   split at ho
   next hxe =>
    split at ho'
    next hye => exact absurd (hxe.trans hye.symm) hne
    next => cases ho'
   next => cases ho
  ·rw [hget, if_neg (by have : Orc.ng + 1 ≤ x := hx; omega)]
  ·obtain ⟨k, hk⟩ := Hglob g hg
   exact ⟨k, by rw [hρo hg]; exact hk⟩
  ·rcases hρi hx with ⟨hlt, hk⟩ | ⟨rfl, rfl⟩
   ·rw [hgl hlt hk]; have := hr.2.1; omega
   ·exact Ne.symm hr.2.2
 refine (call_sim (run_sim hmix hN fuel).1 HL (rel_turn (by rw [hρn, hl]) hvs ha) hrun).mono ?_
 rintro e' w' ⟨x, ρ2, rfl, hx, hext, H2⟩
 have hbw : Below w0.heap.size w0 w':=@R.below _ Z' P _ _ _ _ H2
 have h2n : ρ2 Orc.ng = some l:=hext _ _ hρn
 obtain ⟨arr', c'⟩:=@R.live _ Z' P _ _ _ _ H2 Orc.ng l _ h2n hg
 have keep : ∀ {r : Nat} {O : Obj}, w.heap[r]? = some O → r ≠ l.blk → w'.heap[r]? = some O:=by
  intro r O hr hne
  rcases Nat.lt_or_ge r w0.heap.size with hlt | hge
  ·rw [hbw.block r hlt, ← Hbelow.block r hlt]; exact hr
  ·exact (@R.pn _ Z' P _ _ _ _ H2 r O ⟨hr, hge, hne⟩).1
 have hlt' : ∀ {r : Nat}, r < w.heap.size → r < w'.heap.size:=by
  intro r hr
  by_cases hre : r = l.blk
  ·subst hre; exact (Array.getElem?_eq_some_iff.1 c'.at_).1
  ·exact (Array.getElem?_eq_some_iff.1 (keep (Array.getElem?_eq_getElem hr) hre)).1
 let ob : Ob:=.cells (Tr.nil.setL 0 L') L.length false e
 have hput : ∀ {x : Nat}, x ≠ b → (h.put b ob).t.get x = h.t.get x:=fun hx => Tr.get_set_ne _ _ (Ne.symm hx)
 have hputb : (h.put b ob).t.get b = some ob:=Tr.get_set_same _ _ _
 have halive : ∀ {x : Nat}, (h.put b ob).alive x → h.alive x:=by
  intro x hx
  by_cases hxe : x = b
  ·subst hxe; exact hab
  ·obtain ⟨o, ho, hd⟩ := hx; exact ⟨o, by rw [← hput hxe]; exact ho, hd⟩
 refine ⟨x, rfl, hv _ _ _ hx, @R.mk _ Z P _ _ _ _ hbw (fun x k hk => ?_) (fun x k o hk ho => ?_) (fun x y k k' hk hk' hne hax hay => Hinj x y k k' hk hk' hne (halive hax) (halive hay)) (fun x hx => ?_) Hglob Hbase Hrs (fun r O hr => ?_)⟩
 ·obtain ⟨a1, a2, a3⟩ := Hbnd x k hk
  refine ⟨a1, ?_, a3.imp id hlt'⟩
  by_cases hxe : x = b
  ·subst hxe
   rw [hl, Option.some.injEq] at hk
   subst hk
   exact .inl ⟨hw0, hbase⟩
  ·exact a2.imp id fun hs => (Hp.still_put ob (Ne.symm hxe)).2 hs
 ·by_cases hxe : x = b
  ·subst hxe
   rw [hl, Option.some.injEq] at hk
   subst hk
   rw [hputb, Option.some.injEq] at ho
   subst ho
   refine ⟨arr', c'.at_, fun i u hu => ?_, c'.fit, c'.top⟩
   rw [Tr.get_setL, Nat.zero_add] at hu
   split at hu
   next hi =>
    rw [Nat.sub_zero] at hu
    rw [hlen] at hi
    obtain ⟨_, y, hy, hr⟩:=c'.get i u (by rw [hL' i hi.2]; exact hu)
    exact ⟨hi.2, y, hy, hr.plain (List.all_eq_true.1 hpL' u (List.mem_of_getElem? hu))⟩
   next => rw [Tr.get_nil] at hu; cases hu
  ·rw [hput hxe] at ho
   by_cases hd : o = .dead
   ·subst hd; exact trivial
   ·have hne := Hinj x b k l hk hl hxe ⟨o, ho, hd⟩ hab
    have hlive:=Hlive x k o hk ho
    have hkw : k.blk < w.heap.size:=Hlt hk ⟨o, ho, hd⟩
    exact ObR.keep (Ext.refl _) (by rw [keep (Array.getElem?_eq_getElem hkw) hne, Array.getElem?_eq_getElem hkw]) hlive
 ·by_cases hxe : x = b
  ·subst hxe; have := (Hbnd x l hl).1; have : h.n ≤ x := hx; omega
  ·rw [hput hxe]; exact Hfresh x hx
 ·obtain ⟨a1, a2, a3⟩ := Hpn r O hr
  exact ⟨keep a1 (Ne.symm (a3 b l hl)), a2, a3⟩
end
end Go.Mid
end
