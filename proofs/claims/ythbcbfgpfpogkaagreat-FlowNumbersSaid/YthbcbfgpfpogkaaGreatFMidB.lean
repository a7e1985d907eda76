/- The relation between the small machine's values and heap and the model's; small laws on it. -/
import Derived.Test.YthbcbfgpfpogkaaGreatFMidA
import Derived.Below
import Derived.Laws.Sem
import Derived.Laws.Rows
import Derived.Laws.Append
set_option linter.all false
set_option warn.classDefReducibility false
namespace Go.Mid

/-! tries -/
theorem Tr.getP_nil {α : Type} (p : List Dg) : Tr.getP p (Tr.nil : Tr α) = none := by cases p <;> rfl
theorem Tr.getP_setK {α : Type} (f : Tr α → Tr α) (q r : Dg) (p : List Dg) (v : Option α) (a b c d : Tr α) : Tr.getP (r :: p) (Tr.setK f q v a b c d) = if q = r then Tr.getP p (f (Tr.kid q a b c d)) else Tr.getP p (Tr.kid r a b c d) := by
  cases q <;> cases r <;> first | (rw [if_pos rfl]; rfl) | (rw [if_neg (by simp)]; rfl)
theorem Tr.kid_nil {α : Type} (q : Dg) : Tr.kid q (.nil : Tr α) .nil .nil .nil = .nil := by cases q <;> rfl
theorem Tr.getP_set {α : Type} (x : α) : ∀ (p q : List Dg) (t : Tr α), Tr.getP q (Tr.setP x p t) = if p = q then some x else Tr.getP q t
  | [], [], t => by cases t <;> rfl
  | [], r :: q, t => by
    rw [if_neg (by simp)]
    cases t with
    | nil => show Tr.getP q (Tr.kid r .nil .nil .nil .nil) = _; rw [Tr.kid_nil, Tr.getP_nil]; rfl
    | node v a b c d => rfl
  | s :: p, [], t => by
    rw [if_neg (by simp)]
    cases t <;> cases s <;> rfl
  | s :: p, r :: q, t => by
    have key : ∀ v (a b c d : Tr α), Tr.getP (r :: q) (Tr.setK (Tr.setP x p) s v a b c d) = if s :: p = r :: q then some x else Tr.getP q (Tr.kid r a b c d) := by
      intro v a b c d
      rw [Tr.getP_setK]
      by_cases hs : s = r
      · subst hs
        rw [if_pos rfl, Tr.getP_set x p q]
        by_cases hp : p = q
        · subst hp; rw [if_pos rfl, if_pos rfl]
        · rw [if_neg hp, if_neg (by simp [hp])]
      · rw [if_neg hs, if_neg (by simp [hs])]
    cases t with
    | nil =>
      show Tr.getP (r :: q) (Tr.setK (Tr.setP x p) s none .nil .nil .nil .nil) = _
      rw [key, Tr.kid_nil, Tr.getP_nil, Tr.getP_nil]
    | node v a b c d => exact key v a b c d
theorem Tr.get_nil {α : Type} (i : Nat) : (Tr.nil : Tr α).get i = none := by
  rw [Tr.get_eq, Tr.getP_nil]
theorem Tr.pathF_zero (n : Nat) : Tr.pathF (n + 1) 0 = [] := rfl
theorem Tr.pathF_succ (n m : Nat) : Tr.pathF (n + 1) (m + 1) = Tr.dig (m % 4) :: Tr.pathF n (m / 4) := rfl
theorem Tr.dig_inj {i j : Nat} (hi : i < 4) (hj : j < 4) (h : Tr.dig i = Tr.dig j) : i = j := by
  have h4 : ∀ k, k < 4 → k = 0 ∨ k = 1 ∨ k = 2 ∨ k = 3 := fun k hk => by omega
  rcases h4 i hi with rfl | rfl | rfl | rfl <;> rcases h4 j hj with rfl | rfl | rfl | rfl <;> first | rfl | cases h
theorem Tr.pathF_inj : ∀ (n m i j : Nat), i < n → j < m → Tr.pathF n i = Tr.pathF m j → i = j
  | 0, _, _, _, h, _, _ => by omega
  | _ + 1, 0, _, _, _, h, _ => by omega
  | n + 1, m + 1, 0, 0, _, _, _ => rfl
  | n + 1, m + 1, 0, j + 1, _, _, h => by rw [Tr.pathF_zero, Tr.pathF_succ] at h; cases h
  | n + 1, m + 1, i + 1, 0, _, _, h => by rw [Tr.pathF_zero, Tr.pathF_succ] at h; cases h
  | n + 1, m + 1, i + 1, j + 1, hi, hj, h => by
    rw [Tr.pathF_succ, Tr.pathF_succ] at h
    obtain ⟨h1, h2⟩ := List.cons.inj h
    have := Tr.dig_inj (Nat.mod_lt _ (by decide)) (Nat.mod_lt _ (by decide)) h1
    have := Tr.pathF_inj n m _ _ (by omega) (by omega) h2
    omega
theorem Tr.get_set {α : Type} (t : Tr α) (i j : Nat) (x : α) : (t.set i x).get j = if i = j then some x else t.get j := by
  rw [Tr.get_eq, Tr.get_eq, Tr.set_eq]
  rw [Tr.getP_set]
  by_cases h : i = j
  · subst h; rw [if_pos rfl, if_pos rfl]
  · have hp : ¬ Tr.path i = Tr.path j := fun e => h (Tr.pathF_inj _ _ _ _ (Nat.lt_succ_self i) (Nat.lt_succ_self j) e)
    rw [if_neg h, if_neg hp]
theorem Tr.get_set_same {α : Type} (t : Tr α) (i : Nat) (x : α) : (t.set i x).get i = some x := by rw [Tr.get_set, if_pos rfl]
theorem Tr.get_set_ne {α : Type} (t : Tr α) {i j : Nat} (x : α) (h : i ≠ j) : (t.set i x).get j = t.get j := by rw [Tr.get_set, if_neg h]
theorem Tr.get_setL {α : Type} : ∀ (l : List α) (t : Tr α) (i j : Nat), (t.setL i l).get j = if i ≤ j ∧ j < i + l.length then l[j - i]? else t.get j
  | [], t, i, j => by simp only [Tr.setL_nil, List.length_nil]; rw [if_neg (by omega)]
  | x :: xs, t, i, j => by
    simp only [Tr.setL_cons, List.length_cons]
    rw [Tr.get_setL xs, Tr.get_set]
    by_cases h : i = j
    · subst h
      rw [if_neg (by omega), if_pos rfl, if_pos (by omega)]
      simp
    · by_cases h2 : i ≤ j ∧ j < i + (xs.length + 1)
      · rw [if_pos (by omega), if_pos h2]
        have : j - i = (j - (i + 1)) + 1 := by omega
        rw [this]; simp
      · rw [if_neg (by omega), if_neg h, if_neg h2]
theorem Tr.getL_spec {α : Type} (t : Tr α) : ∀ (n i : Nat) (l : List α), t.getL i n = some l → l.length = n ∧ ∀ j, j < n → l[j]? = t.get (i + j)
  | 0, i, l, h => by simp only [Tr.getL_zero, Option.some.injEq] at h; subst h; exact ⟨rfl, fun j hj => by omega⟩
  | n + 1, i, l, h => by
    simp only [Tr.getL_succ] at h
    cases hx : t.get i with
    | none => simp [hx] at h
    | some x =>
      simp only [hx] at h
      cases hl : t.getL (i + 1) n with
      | none => simp [hl] at h
      | some l' =>
        simp only [hl, Option.some.injEq] at h
        subst h
        obtain ⟨h1, h2⟩ := Tr.getL_spec t n (i + 1) l' hl
        refine ⟨by simp [h1], fun j hj => ?_⟩
        cases j with
        | zero => simp [hx]
        | succ j => simp only [List.getElem?_cons_succ]; rw [h2 j (by omega)]; congr 1; omega

theorem getN_eq {α : Type} : ∀ (l : List α) (i : Nat), getN l i = l[i]?
  | [], i => by simp [getN]
  | x :: xs, 0 => by simp [getN]
  | x :: xs, i + 1 => by simp [getN, getN_eq xs i]

/-! the relation -/
structure Lc where
  blk : Nat
  base : Nat
  cap : Nat
abbrev Rho := Nat → Option Lc

inductive Rel (ρ : Rho) : V → Value → Prop
  | bool (b : Bool) : Rel ρ (.bool b) (.bool b)
  | int (k : IntKind) (n : Int) : Rel ρ (.int k n) (.int k n)
  | str (s : Bs) : Rel ρ (.str s) (.string ⟨⟨s.l⟩⟩)
  | ptr {b : Nat} {l : Lc} (o : Nat) (h : ρ b = some l) : Rel ρ (.ptr b o) (.pointer (some ⟨l.blk, l.base + o, none⟩))
  | nilPtr : Rel ρ .nilPtr (.pointer none)
  | sliceK {b : Nat} {l : Lc} (o len cap : Nat) (h : ρ b = some l) : Rel ρ (.slice b o len cap false) (.slice (some ⟨l.blk, l.base + o, none⟩) len cap)
  | sliceZ {b : Nat} {l : Lc} (o : Nat) (a : Addr) (h : ρ b = some l) (hz : l.base ≠ 0) : Rel ρ (.slice b o 0 0 false) (.slice (some a) 0 0)
  /-- an empty slice behind a growing one: where it lies is not known. -/
  | sliceE {b : Nat} {l : Lc} (k : Nat) (a : Addr) (c : Nat) (h : ρ b = some l) (hk : k ≠ 0) : Rel ρ (.slice b 0 0 k true) (.slice (some a) 0 c)
  | sliceG {b : Nat} {l : Lc} (o len k : Nat) (h : ρ b = some l) : Rel ρ (.slice b o len k true) (.slice (some ⟨l.blk, l.base + o, none⟩) len (l.cap - k))
  | nilSlice : Rel ρ .nilSlice (.slice none 0 0)
  | map {b : Nat} {l : Lc} (h : ρ b = some l) : Rel ρ (.map b) (.map (some l.blk))
  | nilMap : Rel ρ .nilMap (.map none)
  | func (f : FuncId) {a c : List V} {xs ys : List Value} (hl : a.length = xs.length) (h : ∀ (i : Nat) v x, a[i]? = some v → xs[i]? = some x → Rel ρ v x)
      (kl : c.length = ys.length) (k : ∀ (i : Nat) v x, c[i]? = some v → ys[i]? = some x → Rel ρ v x) : Rel ρ (.func f a c) (.func (.func f) ⟨xs⟩ ⟨ys⟩)
  | nilFunc : Rel ρ .nilFunc .nilFunc
  | iface (t : TypeId) {v : V} {x : Value} (h : Rel ρ v x) : Rel ρ (.iface t v) (.iface t x)
  | nilIface : Rel ρ .nilIface .nilIface
  | agg {cs : List V} {xs : List Value} (hl : cs.length = xs.length) (h : ∀ (i : Nat) v x, cs[i]? = some v → xs[i]? = some x → Rel ρ v x) : Rel ρ (.agg cs) (.agg ⟨xs⟩)
  | tuple {cs : List V} {xs : List Value} (hl : cs.length = xs.length) (h : ∀ (i : Nat) v x, cs[i]? = some v → xs[i]? = some x → Rel ρ v x) : Rel ρ (.tuple cs) (.tuple ⟨xs⟩)

def RelL (ρ : Rho) (cs : List V) (xs : List Value) : Prop := cs.length = xs.length ∧ ∀ (i : Nat) v x, cs[i]? = some v → xs[i]? = some x → Rel ρ v x

theorem RelL.nil (ρ : Rho) : RelL ρ [] [] := ⟨rfl, fun i v x h => by simp at h⟩
theorem RelL.cons {ρ : Rho} {v : V} {x : Value} {vs : List V} {xs : List Value} (h : Rel ρ v x) (hs : RelL ρ vs xs) : RelL ρ (v :: vs) (x :: xs) :=
  ⟨by simp [hs.1], fun i u y h1 h2 => by
    cases i with
    | zero => simp at h1 h2; subst h1 h2; exact h
    | succ i => simp at h1 h2; exact hs.2 i u y h1 h2⟩
theorem RelL.cons_inv {ρ : Rho} {v : V} {vs : List V} {xs : List Value} (h : RelL ρ (v :: vs) xs) : ∃ x xs', xs = x :: xs' ∧ Rel ρ v x ∧ RelL ρ vs xs' := by
  cases xs with
  | nil => have := h.1; simp at this
  | cons x xs => exact ⟨x, xs, rfl, h.2 0 v x rfl rfl, by have := h.1; simp at this; exact this, fun i u y h1 h2 => h.2 (i + 1) u y (by simpa using h1) (by simpa using h2)⟩
theorem RelL.nil_inv {ρ : Rho} {xs : List Value} (h : RelL ρ [] xs) : xs = [] := by
  have := h.1; simp at this; exact List.eq_nil_of_length_eq_zero this.symm
theorem RelL.append {ρ : Rho} {vs us : List V} {xs ys : List Value} (h : RelL ρ vs xs) (k : RelL ρ us ys) : RelL ρ (vs ++ us) (xs ++ ys) := by
  induction vs generalizing xs with
  | nil => rw [h.nil_inv]; simpa using k
  | cons v vs ih =>
    obtain ⟨x, xs', rfl, h1, h2⟩ := h.cons_inv
    exact RelL.cons h1 (ih h2)
theorem RelL.drop {ρ : Rho} {vs : List V} {xs : List Value} (h : RelL ρ vs xs) (n : Nat) : RelL ρ (vs.drop n) (xs.drop n) :=
  ⟨by simp [h.1], fun i u y h1 h2 => h.2 (n + i) u y (by simpa using h1) (by simpa using h2)⟩
theorem RelL.take {ρ : Rho} {vs : List V} {xs : List Value} (h : RelL ρ vs xs) (n : Nat) : RelL ρ (vs.take n) (xs.take n) :=
  ⟨by simp [h.1], fun i u y h1 h2 => by
    rw [List.getElem?_take] at h1 h2
    split at h1
    · rename_i hlt; rw [if_pos hlt] at h2; exact h.2 i u y h1 h2
    · simp at h1⟩
theorem RelL.get {ρ : Rho} {vs : List V} {xs : List Value} (h : RelL ρ vs xs) {i : Nat} {v : V} (hv : vs[i]? = some v) : ∃ x, xs[i]? = some x ∧ Rel ρ v x := by
  have hi : i < vs.length := by
    rcases Nat.lt_or_ge i vs.length with h1 | h1
    · exact h1
    · rw [List.getElem?_eq_none h1] at hv; cases hv
  have hx : i < xs.length := by rw [← h.1]; exact hi
  exact ⟨xs[i], List.getElem?_eq_getElem hx, h.2 i v _ hv (List.getElem?_eq_getElem hx)⟩

def Ext (ρ ρ' : Rho) : Prop := ∀ b l, ρ b = some l → ρ' b = some l
theorem Ext.refl (ρ : Rho) : Ext ρ ρ := fun _ _ h => h
theorem Ext.trans {a b c : Rho} (h : Ext a b) (k : Ext b c) : Ext a c := fun x l hx => k x l (h x l hx)
theorem Rel.ext {ρ ρ' : Rho} (he : Ext ρ ρ') {v : V} {x : Value} (h : Rel ρ v x) : Rel ρ' v x := by
  induction h with
  | bool b => exact .bool b
  | int k n => exact .int k n
  | str s => exact .str s
  | ptr o h => exact .ptr o (he _ _ h)
  | nilPtr => exact .nilPtr
  | sliceK o len cap h => exact .sliceK o len cap (he _ _ h)
  | sliceZ o a h hz => exact .sliceZ o a (he _ _ h) hz
  | sliceE k a c h hk => exact .sliceE k a c (he _ _ h) hk
  | sliceG o len k h => exact .sliceG o len k (he _ _ h)
  | nilSlice => exact .nilSlice
  | map h => exact .map (he _ _ h)
  | nilMap => exact .nilMap
  | func f hl _ kl _ ih1 ih2 => exact .func f hl ih1 kl ih2
  | nilFunc => exact .nilFunc
  | iface t _ ih => exact .iface t ih
  | nilIface => exact .nilIface
  | agg hl _ ih => exact .agg hl ih
  | tuple hl _ ih => exact .tuple hl ih
theorem RelL.ext {ρ ρ' : Rho} (he : Ext ρ ρ') {vs : List V} {xs : List Value} (h : RelL ρ vs xs) : RelL ρ' vs xs := ⟨h.1, fun i v x h1 h2 => (h.2 i v x h1 h2).ext he⟩

theorem Rel.packed {ρ : Rho} (l : List UInt8) : Rel ρ (.str (pack l)) (.string ⟨⟨l⟩⟩) := by
  have := Rel.str (ρ := ρ) (pack l)
  rw [pack_l] at this
  exact this
/-! constants -/
mutual
theorem absV_rel (ρ : Rho) : ∀ (x : Value) (v : V), absV x = some v → Rel ρ v x
  | .bool b, v, h => by simp only [absV, Option.some.injEq] at h; subst h; exact .bool b
  | .int k n, v, h => by simp only [absV, Option.some.injEq] at h; subst h; exact .int k n
  | .string s, v, h => by simp only [absV, Option.some.injEq] at h; subst h; exact .packed _
  | .pointer none, v, h => by simp only [absV, Option.some.injEq] at h; subst h; exact .nilPtr
  | .slice none 0 0, v, h => by simp only [absV, Option.some.injEq] at h; subst h; exact .nilSlice
  | .map none, v, h => by simp only [absV, Option.some.injEq] at h; subst h; exact .nilMap
  | .nilFunc, v, h => by simp only [absV, Option.some.injEq] at h; subst h; exact .nilFunc
  | .nilIface, v, h => by simp only [absV, Option.some.injEq] at h; subst h; exact .nilIface
  | .agg ⟨l⟩, v, h => by
    simp only [absV] at h
    cases hl : absL l with
    | none => simp [hl] at h
    | some cs =>
      simp only [hl, Option.some.injEq] at h; subst h
      have := absL_rel ρ l cs hl
      exact .agg this.1 this.2
  | .tuple ⟨l⟩, v, h => by
    simp only [absV] at h
    cases hl : absL l with
    | none => simp [hl] at h
    | some cs =>
      simp only [hl, Option.some.injEq] at h; subst h
      have := absL_rel ρ l cs hl
      exact .tuple this.1 this.2
  | .iface t x, v, h => by
    simp only [absV] at h
    cases hx : absV x with
    | none => simp [hx] at h
    | some y =>
      simp only [hx, Option.some.injEq] at h; subst h
      exact .iface t (absV_rel ρ x y hx)
  | .float _ _, v, h => by simp [absV] at h
  | .complex _ _ _, v, h => by simp [absV] at h
  | .pointer (some _), v, h => by simp [absV] at h
  | .slice (some _) _ _, v, h => by simp [absV] at h
  | .slice none (_ + 1) _, v, h => by simp [absV] at h
  | .slice none 0 (_ + 1), v, h => by simp [absV] at h
  | .map (some _), v, h => by simp [absV] at h
  | .chan _, v, h => by simp [absV] at h
  | .func _ _ _, v, h => by simp [absV] at h
theorem absL_rel (ρ : Rho) : ∀ (xs : List Value) (vs : List V), absL xs = some vs → RelL ρ vs xs
  | [], vs, h => by simp only [absL, Option.some.injEq] at h; subst h; exact RelL.nil ρ
  | x :: xs, vs, h => by
    simp only [absL] at h
    cases hx : absV x with
    | none => simp [hx] at h
    | some y =>
      simp only [hx] at h
      cases hl : absL xs with
      | none => simp [hl] at h
      | some ys =>
        simp only [hl, Option.some.injEq] at h; subst h
        exact RelL.cons (absV_rel ρ x y hx) (absL_rel ρ xs ys hl)
end
end Go.Mid
