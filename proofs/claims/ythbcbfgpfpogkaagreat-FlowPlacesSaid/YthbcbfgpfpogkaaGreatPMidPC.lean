/- strings.Contains: its answer, as its contract tells it. -/
import Derived.Test.YthbcbfgpfpogkaaGreatPMidBB
import Derived.Lib.IndexMore
set_option linter.all false
set_option warn.classDefReducibility false
noncomputable section
section
open Go.RowKit
namespace Go.Mid
section
variable {P : Program}
def preB : List UInt8 → List UInt8 → Bool
 | [], _ => true
 | _ :: _, [] => false
 | a :: x, b :: y => bif Nat.beq a.toNat b.toNat then preB x y else false
def hasB : List UInt8 → List UInt8 → Bool
 | [], sub => preB sub []
 | b :: l, sub => bif preB sub (b :: l) then true else hasB l sub
theorem preB_eq : ∀ x y, preB x y = List.isPrefixOf x y
 | [], y => by cases y <;> rfl
 | _ :: _, [] => rfl
 | a :: x, b :: y => by
  rw [preB, List.isPrefixOf, preB_eq x y]
  have : Nat.beq a.toNat b.toNat = (a == b) := by
   by_cases h : a = b
   ·subst h; simp [Nat.beq_refl]
   ·have h1 : (a == b) = false := beq_false_of_ne h
    rw [h1]
    cases hb : Nat.beq a.toNat b.toNat with
    | false => rfl
    | true => exact absurd (UInt8.toNat_inj.1 (Nat.eq_of_beq_eq_true hb)) h
  rw [this]
  cases (a == b) <;> rfl
theorem hasB_eq : ∀ s sub, hasB s sub = Lib.contains s sub
 | [], sub => by
  rw [hasB, preB_eq]
  unfold Lib.contains Lib.index
  cases sub <;> rfl
 | b :: l, sub => by
  rw [hasB, preB_eq, hasB_eq l sub]
  unfold Lib.contains
  rw [show Lib.index (b :: l) sub = if sub.isPrefixOf (b :: l) then 0 else if Lib.index l sub == -1 then -1 else Lib.index l sub + 1 from rfl]
  cases sub.isPrefixOf (b :: l) with
  | true => simp
  | false =>
   have := Lib.index_ge l sub
   by_cases h : Lib.index l sub = -1
   ·simp [h]
   ·have h0 : (Lib.index l sub == -1) = false := beq_false_of_ne h
    simp only [cond_false, Bool.false_eq_true, if_false, h0]
    rw [decide_eq_true (by omega), decide_eq_true (by omega)]
def containsF (vs : List V) (h : Hp) : Option (V × Hp) :=
 match vs with
 | [.str s, .str sub] => bif Nat.ble s.l.length 2147483648 then some (.bool (hasB s.l sub.l), h) else none
 | _ => none
def ContainsC (P : Program) (f : FuncId) (I : World → Prop) : Prop := ∀ (s sub : ByteArray) (w : World), I w → s.size < 4294967281 → Calls P f #[.string s, .string sub] w fun e w' => e = .returned (.bool (Lib.contains s.data.toList sub.data.toList)) ∧ w' = w
theorem containsF_sim [Orc] [Res] {f : FuncId} {fn : Func} (hf : P.funcs[f]? = some fn) (hb : fn.body.isNone = false) {I : World → Prop} (hc : ContainsC P f I) {w0 w : World} (hI : I w)
 {as : List V} {h h' : Hp} {v : V} (hs : containsF as h = some (v, h')) {ρ : Rho} {xs : List Value} (H : R P w0 w h ρ) (ha : RelL ρ as xs) : CallR P f ⟨xs⟩ w fun e w' => ∃ x ρ', e = .returned x ∧ Rel ρ' v x ∧ Ext ρ ρ' ∧ R P w0 w' h' ρ' := by
 unfold containsF at hs
 split at hs <;> try (cases hs; done)
 rename_i s sub
 cases hle : Nat.ble s.l.length 2147483648 with
 | false => rw [hle] at hs; cases hs
 | true =>
  rw [hle] at hs
  simp only [cond_true, Option.some.injEq, Prod.mk.injEq] at hs
  obtain ⟨rfl, rfl⟩ := hs
  obtain ⟨x, xs', rfl, h1, h2⟩ := ha.cons_inv
  obtain ⟨y, ys', rfl, h3, h4⟩ := h2.cons_inv
  have := h4.nil_inv
  subst this
  cases h1; cases h3
  refine .inl ⟨⟨fn, hf, hb⟩, (hc _ _ w hI ?_).mono ?_⟩
  ·have := Nat.le_of_ble_eq_true hle
   show s.l.length < _
   omega
  ·rintro e w' ⟨rfl, rfl⟩
   exact ⟨_, ρ, rfl, by rw [hasB_eq]; exact .bool _, Ext.refl _, H⟩
theorem containsF_heap {vs : List V} {h h' : Hp} {v : V} (e : containsF vs h = some (v, h')) : h' = h := by
 unfold containsF at e
 split at e <;> try (cases e; done)
 rename_i s sub
 cases hb : Nat.ble s.l.length 2147483648 <;> rw [hb] at e <;> simp only [cond_true, cond_false, Option.some.injEq, Prod.mk.injEq, reduceCtorEq] at e
 exact e.2.symm
end
end Go.Mid
end
