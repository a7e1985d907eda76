/- More functions of the library whose answers their contracts tell: strings.Index, IndexByte, ContainsAny. -/
import Derived.Test.YtdiiilfokajddaaGreatDoorLMidHH
import Derived.Lib.IndexAny
import Derived.Lib.Bytealg
set_option linter.all false
namespace Go.Mid
open Go.RowKit
variable {P : Program}

noncomputable def idxB : List UInt8 → List UInt8 → Nat → Option Nat
  | [], sub, k => bif preB sub [] then some k else none
  | b :: l, sub, k => bif preB sub (b :: l) then some k else idxB l sub (Nat.succ k)
noncomputable def idxV : Option Nat → Int
  | some k => .ofNat k
  | none => .negSucc 0
theorem idxB_eq : ∀ s sub k, idxV (idxB s sub k) = if Lib.index s sub = -1 then -1 else Lib.index s sub + k
  | [], sub, k => by
    rw [idxB, preB_eq]
    unfold Lib.index
    cases sub with
    | nil => simp [idxV]
    | cons a x => simp [idxV]
  | b :: l, sub, k => by
    rw [idxB, preB_eq]
    rw [show Lib.index (b :: l) sub = if sub.isPrefixOf (b :: l) then 0 else if Lib.index l sub == -1 then -1 else Lib.index l sub + 1 from rfl]
    cases sub.isPrefixOf (b :: l) with
    | true => simp [idxV]
    | false =>
      have hg := Lib.index_ge l sub
      simp only [cond_false, Bool.false_eq_true, if_false]
      rw [idxB_eq l sub (Nat.succ k)]
      by_cases h : Lib.index l sub = -1
      · simp [h]
      · have h0 : (Lib.index l sub == -1) = false := beq_false_of_ne h
        rw [if_neg h, h0]
        simp only [Bool.false_eq_true, if_false]
        rw [if_neg (by omega)]
        omega
noncomputable def indexF (vs : List V) (h : Hp) : Option (V × Hp) :=
  match vs with
  | [.str s, .str sub] => bif Nat.ble s.length 2147483648 then some (.int .i64 (idxV (idxB s sub 0)), h) else none
  | _ => none
def IndexC (P : Program) (f : FuncId) (I : World → Prop) : Prop := ∀ (s sub : ByteArray) (w : World), I w → s.size < 4294967281 → Calls P f #[.string s, .string sub] w fun e w' => e = .returned (.int .i64 (Lib.index s.data.toList sub.data.toList)) ∧ w' = w
theorem indexF_sim [Orc] [Res] {f : FuncId} {fn : Func} (hf : P.funcs[f]? = some fn) (hb : fn.body.isNone = false) {I : World → Prop} (hc : IndexC P f I) {w0 w : World} (hI : I w)
    {as : List V} {h h' : Hp} {v : V} (hs : indexF as h = some (v, h')) {ρ : Rho} {xs : List Value} (H : R P w0 w h ρ) (ha : RelL ρ as xs) : CallR P f ⟨xs⟩ w fun e w' => ∃ x ρ', e = .returned x ∧ Rel ρ' v x ∧ Ext ρ ρ' ∧ R P w0 w' h' ρ' := by
  unfold indexF at hs
  split at hs <;> try (cases hs; done)
  rename_i s sub
  cases hle : Nat.ble s.length 2147483648 with
  | false => rw [hle] at hs; cases hs
  | true =>
    rw [hle] at hs
    simp only [cond_true, Option.some.injEq, Prod.mk.injEq] at hs
    obtain ⟨rfl, rfl⟩ := hs
    obtain ⟨x, xs', rfl, h1, h2⟩ := ha.cons_inv
    obtain ⟨y, ys', rfl, h3, h4⟩ := h2.cons_inv
    have := h4.nil_inv
    subst this
    cases h1; cases h3
    refine .inl ⟨⟨fn, hf, hb⟩, (hc _ _ w hI ?_).mono ?_⟩
    · have := Nat.le_of_ble_eq_true hle
      show s.length < _
      omega
    · rintro e w' ⟨rfl, rfl⟩
      refine ⟨_, ρ, rfl, ?_, Ext.refl _, H⟩
      have : idxV (idxB s sub 0) = Lib.index s sub := by
        rw [idxB_eq]
        have := Lib.index_ge s sub
        split <;> omega
      rw [this]; exact .int _ _
noncomputable def ixB : List UInt8 → Nat → Nat → Option Nat
  | [], _, _ => none
  | b :: l, c, k => bif Nat.beq b.toNat c then some k else ixB l c (Nat.succ k)
theorem ixB_eq : ∀ s (c : UInt8) k, idxV (ixB s c.toNat k) = if Lib.indexByte s c = -1 then -1 else Lib.indexByte s c + k
  | [], c, k => by simp [ixB, Lib.indexByte, idxV]
  | b :: l, c, k => by
    have hb : Nat.beq b.toNat c.toNat = (b == c) := by
      by_cases h : b = c
      · subst h; simp [Nat.beq_refl]
      · rw [beq_false_of_ne h]
        cases hx : Nat.beq b.toNat c.toNat with
        | false => rfl
        | true => exact absurd (UInt8.toNat_inj.1 (Nat.eq_of_beq_eq_true hx)) h
    have hg : ∀ l : List UInt8, -1 ≤ Lib.indexByte l c := by
      intro l
      induction l with
      | nil => exact Int.le_refl _
      | cons a l ih => simp only [Lib.indexByte]; split; omega; split; omega; omega
    rw [ixB, hb, Lib.indexByte]
    cases b == c with
    | true => simp [idxV]
    | false =>
      have hg := hg l
      simp only [cond_false, Bool.false_eq_true, if_false]
      rw [ixB_eq l c (Nat.succ k)]
      by_cases h : Lib.indexByte l c = -1
      · simp [h]
      · have h0 : (Lib.indexByte l c == -1) = false := beq_false_of_ne h
        rw [if_neg h, h0]
        simp only [Bool.false_eq_true, if_false]
        rw [if_neg (by omega)]
        omega
noncomputable def indexByteF (vs : List V) (h : Hp) : Option (V × Hp) :=
  match vs with
  | [.str s, .int .u8 (.ofNat c)] => bif Nat.blt c 256 then some (.int .i64 (idxV (ixB s c 0)), h) else none
  | _ => none
def IndexByteC (P : Program) (f : FuncId) : Prop := ∀ (s : ByteArray) (c : Int) (w : World), Calls P f #[.string s, .int .u8 c] w fun e w' => e = .returned (.int .i64 (Lib.indexByte s.data.toList c.toNat.toUInt8)) ∧ w' = w
theorem indexByteF_sim [Orc] [Res] {f : FuncId} {fn : Func} (hf : P.funcs[f]? = some fn) (hb : fn.body.isNone = false) (hc : IndexByteC P f) {w0 w : World}
    {as : List V} {h h' : Hp} {v : V} (hs : indexByteF as h = some (v, h')) {ρ : Rho} {xs : List Value} (H : R P w0 w h ρ) (ha : RelL ρ as xs) : CallR P f ⟨xs⟩ w fun e w' => ∃ x ρ', e = .returned x ∧ Rel ρ' v x ∧ Ext ρ ρ' ∧ R P w0 w' h' ρ' := by
  unfold indexByteF at hs
  split at hs <;> try (cases hs; done)
  rename_i s c
  cases hle : Nat.blt c 256 with
  | false => rw [hle] at hs; cases hs
  | true =>
    rw [hle] at hs
    simp only [cond_true, Option.some.injEq, Prod.mk.injEq] at hs
    obtain ⟨rfl, rfl⟩ := hs
    obtain ⟨x, xs', rfl, h1, h2⟩ := ha.cons_inv
    obtain ⟨y, ys', rfl, h3, h4⟩ := h2.cons_inv
    have := h4.nil_inv
    subst this
    cases h1; cases h3
    refine .inl ⟨⟨fn, hf, hb⟩, (hc _ _ w).mono ?_⟩
    rintro e w' ⟨rfl, rfl⟩
    refine ⟨_, ρ, rfl, ?_, Ext.refl _, H⟩
    have hlt : c < 256 := Nat.le_of_ble_eq_true hle
    have : idxV (ixB s c 0) = Lib.indexByte s (UInt8.ofNat c) := by
      have h5 := ixB_eq s (UInt8.ofNat c) 0
      rw [show (UInt8.ofNat c).toNat = c by simpa using Nat.mod_eq_of_lt hlt] at h5
      rw [h5]
      split <;> omega
    rw [this]; exact .int _ _
noncomputable def memB : Nat → List UInt8 → Bool
  | _, [] => false
  | b, c :: l => bif Nat.beq b c.toNat then true else memB b l
noncomputable def anyB : List UInt8 → List UInt8 → Bool
  | [], _ => false
  | b :: l, chars => bif memB b.toNat chars then true else anyB l chars
theorem memB_eq (b : UInt8) : ∀ l : List UInt8, memB b.toNat l = l.contains b
  | [] => rfl
  | c :: l => by
    have hb : Nat.beq b.toNat c.toNat = (b == c) := by
      by_cases h : b = c
      · subst h; simp [Nat.beq_refl]
      · rw [beq_false_of_ne h]
        cases hx : Nat.beq b.toNat c.toNat with
        | false => rfl
        | true => exact absurd (UInt8.toNat_inj.1 (Nat.eq_of_beq_eq_true hx)) h
    rw [memB, hb, memB_eq b l, List.contains_cons]
    cases b == c <;> rfl
theorem anyB_eq : ∀ s chars, anyB s chars = Lib.containsAny s chars
  | [], chars => rfl
  | b :: l, chars => by
    rw [anyB, memB_eq, anyB_eq l chars]
    unfold Lib.containsAny
    rw [Lib.indexAny]
    cases chars.contains b with
    | true => simp
    | false =>
      have := Lib.indexAny_ge chars l
      by_cases h : Lib.indexAny l chars = -1
      · simp [h]
      · have h0 : (Lib.indexAny l chars == -1) = false := beq_false_of_ne h
        simp only [cond_false, Bool.false_eq_true, if_false, h0]
        rw [decide_eq_true (by omega), decide_eq_true (by omega)]
noncomputable def asciiB : List UInt8 → Bool
  | [] => true
  | b :: l => bif Nat.blt b.toNat 128 then asciiB l else false
theorem asciiB_spec : ∀ {l : List UInt8}, asciiB l = true → ∀ (j : Nat) b, l[j]? = some b → b.toNat < 128
  | [], _, j, b, h => by simp at h
  | a :: l, h, j, b, hj => by
    rw [asciiB] at h
    cases e : Nat.blt a.toNat 128 with
    | false => rw [e] at h; cases h
    | true =>
      rw [e] at h
      cases j with
      | zero => simp at hj; subst hj; exact Nat.le_of_ble_eq_true e
      | succ j => exact asciiB_spec h j b (by simpa using hj)
noncomputable def containsAnyF (vs : List V) (h : Hp) : Option (V × Hp) :=
  match vs with
  | [.str s, .str chars] => bif (Nat.ble s.length 2147483648 && Nat.ble chars.length 2147483648) && (asciiB s && asciiB chars) then some (.bool (anyB s chars), h) else none
  | _ => none
def ContainsAnyC (P : Program) (f : FuncId) : Prop := ∀ (s chars : ByteArray) (w : World), s.size < 4294967281 → chars.size < 4294967281 → (∀ (j : Nat) b, s.data.toList[j]? = some b → b.toNat < 128) → (∀ (j : Nat) b, chars.data.toList[j]? = some b → b.toNat < 128) →
  Calls P f #[.string s, .string chars] w fun e w' => e = .returned (.bool (Lib.containsAny s.data.toList chars.data.toList)) ∧ Below w.heap.size w w'
theorem containsAnyF_sim [Orc] [Res] {f : FuncId} {fn : Func} (hf : P.funcs[f]? = some fn) (hb : fn.body.isNone = false) (hc : ContainsAnyC P f) {w0 w : World}
    {as : List V} {h h' : Hp} {v : V} (hs : containsAnyF as h = some (v, h')) {ρ : Rho} {xs : List Value} (H : R P w0 w h ρ) (ha : RelL ρ as xs) : CallR P f ⟨xs⟩ w fun e w' => ∃ x ρ', e = .returned x ∧ Rel ρ' v x ∧ Ext ρ ρ' ∧ R P w0 w' h' ρ' := by
  unfold containsAnyF at hs
  split at hs <;> try (cases hs; done)
  rename_i s chars
  cases hle : ((Nat.ble s.length 2147483648 && Nat.ble chars.length 2147483648) && (asciiB s && asciiB chars)) with
  | false => rw [hle] at hs; cases hs
  | true =>
    rw [hle] at hs
    simp only [cond_true, Option.some.injEq, Prod.mk.injEq] at hs
    obtain ⟨rfl, rfl⟩ := hs
    simp only [Bool.and_eq_true] at hle
    obtain ⟨⟨l1, l2⟩, l3, l4⟩ := hle
    have l1 := Nat.le_of_ble_eq_true l1
    have l2 := Nat.le_of_ble_eq_true l2
    obtain ⟨x, xs', rfl, h1, h2⟩ := ha.cons_inv
    obtain ⟨y, ys', rfl, h3, h4⟩ := h2.cons_inv
    have := h4.nil_inv
    subst this
    cases h1; cases h3
    refine .inl ⟨⟨fn, hf, hb⟩, (hc _ _ w (show s.length < _ by omega) (show chars.length < _ by omega) (asciiB_spec l3) (asciiB_spec l4)).mono ?_⟩
    rintro e w' ⟨rfl, hB⟩
    exact ⟨_, ρ, rfl, by rw [anyB_eq]; exact .bool _, Ext.refl _, H.later (h2 := h) (ρ2 := ρ) hB⟩
/-! what they leave as it was -/
theorem indexF_heap {vs : List V} {h h' : Hp} {v : V} (e : indexF vs h = some (v, h')) : h' = h := by
  unfold indexF at e
  split at e <;> try (cases e; done)
  rename_i s sub
  cases hb : Nat.ble s.length 2147483648 <;> rw [hb] at e <;> simp only [cond_true, cond_false, Option.some.injEq, Prod.mk.injEq, reduceCtorEq] at e
  exact e.2.symm
theorem indexByteF_heap {vs : List V} {h h' : Hp} {v : V} (e : indexByteF vs h = some (v, h')) : h' = h := by
  unfold indexByteF at e
  split at e <;> try (cases e; done)
  rename_i s c
  cases hb : Nat.blt c 256 <;> rw [hb] at e <;> simp only [cond_true, cond_false, Option.some.injEq, Prod.mk.injEq, reduceCtorEq] at e
  exact e.2.symm
theorem containsAnyF_heap {vs : List V} {h h' : Hp} {v : V} (e : containsAnyF vs h = some (v, h')) : h' = h := by
  unfold containsAnyF at e
  split at e <;> try (cases e; done)
  rename_i s c
  cases hb : ((Nat.ble s.length 2147483648 && Nat.ble c.length 2147483648) && (asciiB s && asciiB c)) <;> rw [hb] at e <;> simp only [cond_true, cond_false, Option.some.injEq, Prod.mk.injEq, reduceCtorEq] at e
  exact e.2.symm
end Go.Mid
