/- Two functions of the library whose answers their contracts tell: strings.Contains, strings.Join. -/
import Derived.Test.YtdiiilfokajddaaGreatDoorKMidFF
import Derived.Lib.IndexMore
import Derived.Lib.Join
import Derived.Lib.IndexAny
import Derived.Lib.Bytealg
import Derived.Lib.ConvBytes
import Derived.Laws.Runes
set_option linter.all false
set_option warn.classDefReducibility false
noncomputable section
section
open Go.RowKit
namespace Go.Mid
section
variable {P : Program}
def preB : List UInt8 → List UInt8 → Bool
 | [], _ => true
 | _ :: _, [] => false
 | a :: x, b :: y => bif Nat.beq a.toNat b.toNat then preB x y else false
def hasB : List UInt8 → List UInt8 → Bool
 | [], sub => preB sub []
 | b :: l, sub => bif preB sub (b :: l) then true else hasB l sub
theorem preB_eq : ∀ x y, preB x y = List.isPrefixOf x y
 | [], y => by cases y <;> rfl
 | _ :: _, [] => rfl
 | a :: x, b :: y => by
  rw [preB, List.isPrefixOf, preB_eq x y]
  have : Nat.beq a.toNat b.toNat = (a == b):=by
   by_cases h : a = b
   ·subst h; simp [Nat.beq_refl]
   ·have h1 : (a == b) = false := beq_false_of_ne h
    rw [h1]
    cases hb : Nat.beq a.toNat b.toNat with
    | false => rfl
    | true => exact absurd (UInt8.toNat_inj.1 (Nat.eq_of_beq_eq_true hb)) h
  rw [this]
  cases (a == b) <;> rfl
theorem hasB_eq : ∀ s sub, hasB s sub = Lib.contains s sub
 | [], sub => by
  rw [hasB, preB_eq]
  unfold Lib.contains Lib.index
  cases sub <;> rfl
 | b :: l, sub => by
  rw [hasB, preB_eq, hasB_eq l sub]
  unfold Lib.contains
  rw [show Lib.index (b :: l) sub = if sub.isPrefixOf (b :: l) then 0 else if Lib.index l sub == -1 then -1 else Lib.index l sub + 1 from rfl]
  cases sub.isPrefixOf (b :: l) with
  | true => simp
  | false =>
   have:=Lib.index_ge l sub
   by_cases h : Lib.index l sub = -1
   ·simp [h]
   ·have h0 : (Lib.index l sub == -1) = false := beq_false_of_ne h
    simp only [cond_false, Bool.false_eq_true, if_false, h0]
    rw [decide_eq_true (by omega), decide_eq_true (by omega)]
def containsF (vs : List V) (h : Hp) : Option (V × Hp) :=
 match vs with
 | [.str s, .str sub] => bif Nat.ble s.l.length 2147483648 then some (.bool (hasB s.l sub.l), h) else none
 | _ => none
def ContainsC (P : Program) (f : FuncId) (I : World → Prop) : Prop:=∀ (s sub : ByteArray) (w : World), I w → s.size < 4294967281 → Calls P f #[.string s, .string sub] w fun e w' => e = .returned (.bool (Lib.contains s.data.toList sub.data.toList)) ∧ w' = w
theorem containsF_sim [Orc] [Res] {f : FuncId} {fn : Func} (hf : P.funcs[f]? = some fn) (hb : fn.body.isNone = false) {I : World → Prop} (hc : ContainsC P f I) {w0 w : World} (hI : I w)
 {as : List V} {h h' : Hp} {v : V} (hs : containsF as h = some (v, h')) {ρ : Rho} {xs : List Value} (H : R P w0 w h ρ) (ha : RelL ρ as xs) : CallR P f ⟨xs⟩ w fun e w' => ∃ x ρ', e = .returned x ∧ Rel ρ' v x ∧ Ext ρ ρ' ∧ R P w0 w' h' ρ':=by
 unfold containsF at hs
 split at hs <;> try (cases hs; done)
 rename_i s sub
 cases hle : Nat.ble s.l.length 2147483648 with
 | false => rw [hle] at hs; cases hs
 | true =>
  rw [hle] at hs
  simp only [cond_true, Option.some.injEq, Prod.mk.injEq] at hs
  obtain ⟨rfl, rfl⟩:=hs
  obtain ⟨x, xs', rfl, h1, h2⟩:=ha.cons_inv
  obtain ⟨y, ys', rfl, h3, h4⟩:=h2.cons_inv
  have:=h4.nil_inv
  subst this
  cases h1; cases h3
  refine .inl ⟨⟨fn, hf, hb⟩, (hc _ _ w hI ?_).mono ?_⟩
  ·have := Nat.le_of_ble_eq_true hle
   show s.l.length < _
   omega
  ·rintro e w' ⟨rfl, rfl⟩
   exact ⟨_, ρ, rfl, by rw [hasB_eq]; exact .bool _, Ext.refl _, H⟩
theorem containsF_heap {vs : List V} {h h' : Hp} {v : V} (e : containsF vs h = some (v, h')) : h' = h:=by
 unfold containsF at e
 split at e <;> try (cases e; done)
 rename_i s sub
 cases hb : Nat.ble s.l.length 2147483648 <;> rw [hb] at e <;> simp only [cond_true, cond_false, Option.some.injEq, Prod.mk.injEq, reduceCtorEq] at e
 exact e.2.symm
theorem sameF_heap {vs : List V} {h h' : Hp} {v : V} (e : sameF vs h = some (v, h')) : h' = h:=by
 unfold sameF at e
 split at e <;> first | (cases e; done) | (simp only [Option.some.injEq, Prod.mk.injEq] at e; exact e.2.symm)
def idxB : List UInt8 → List UInt8 → Nat → Option Nat
 | [], sub, k => bif preB sub [] then some k else none
 | b :: l, sub, k => bif preB sub (b :: l) then some k else idxB l sub (Nat.succ k)
def idxV : Option Nat → Int
 | some k => .ofNat k
 | none => .negSucc 0
theorem idxB_eq : ∀ s sub k, idxV (idxB s sub k) = if Lib.index s sub = -1 then -1 else Lib.index s sub + k
 | [], sub, k => by
  rw [idxB, preB_eq]
  unfold Lib.index
  cases sub with
  | nil => simp [idxV]
  | cons a x => simp [idxV]
 | b :: l, sub, k => by
  rw [idxB, preB_eq]
  rw [show Lib.index (b :: l) sub = if sub.isPrefixOf (b :: l) then 0 else if Lib.index l sub == -1 then -1 else Lib.index l sub + 1 from rfl]
  cases sub.isPrefixOf (b :: l) with
  | true => simp [idxV]
  | false =>
   have hg:=Lib.index_ge l sub
   simp only [cond_false, Bool.false_eq_true, if_false]
   rw [idxB_eq l sub (Nat.succ k)]
   by_cases h : Lib.index l sub = -1
   ·simp [h]
   ·have h0 : (Lib.index l sub == -1) = false := beq_false_of_ne h
    rw [if_neg h, h0]
    simp only [Bool.false_eq_true, if_false]
    rw [if_neg (by omega)]
    omega
def indexF (vs : List V) (h : Hp) : Option (V × Hp) :=
 match vs with
 | [.str s, .str sub] => bif Nat.ble s.l.length 2147483648 then some (.int .i64 (idxV (idxB s.l sub.l 0)), h) else none
 | _ => none
def IndexC (P : Program) (f : FuncId) (I : World → Prop) : Prop:=∀ (s sub : ByteArray) (w : World), I w → s.size < 4294967281 → Calls P f #[.string s, .string sub] w fun e w' => e = .returned (.int .i64 (Lib.index s.data.toList sub.data.toList)) ∧ w' = w
theorem indexF_sim [Orc] [Res] {f : FuncId} {fn : Func} (hf : P.funcs[f]? = some fn) (hb : fn.body.isNone = false) {I : World → Prop} (hc : IndexC P f I) {w0 w : World} (hI : I w)
 {as : List V} {h h' : Hp} {v : V} (hs : indexF as h = some (v, h')) {ρ : Rho} {xs : List Value} (H : R P w0 w h ρ) (ha : RelL ρ as xs) : CallR P f ⟨xs⟩ w fun e w' => ∃ x ρ', e = .returned x ∧ Rel ρ' v x ∧ Ext ρ ρ' ∧ R P w0 w' h' ρ':=by
 unfold indexF at hs
 split at hs <;> try (cases hs; done)
 rename_i s sub
 cases hle : Nat.ble s.l.length 2147483648 with
 | false => rw [hle] at hs; cases hs
 | true =>
  rw [hle] at hs
  simp only [cond_true, Option.some.injEq, Prod.mk.injEq] at hs
  obtain ⟨rfl, rfl⟩:=hs
  obtain ⟨x, xs', rfl, h1, h2⟩:=ha.cons_inv
  obtain ⟨y, ys', rfl, h3, h4⟩:=h2.cons_inv
  have:=h4.nil_inv
  subst this
  cases h1; cases h3
  refine .inl ⟨⟨fn, hf, hb⟩, (hc _ _ w hI ?_).mono ?_⟩
  ·have := Nat.le_of_ble_eq_true hle
   show s.l.length < _
   omega
  ·rintro e w' ⟨rfl, rfl⟩
   refine ⟨_, ρ, rfl, ?_, Ext.refl _, H⟩
   have : idxV (idxB s.l sub.l 0) = Lib.index s.l sub.l:=by
    rw [idxB_eq]
    have:=Lib.index_ge s.l sub.l
    split <;> omega
   rw [this]; exact .int _ _
def ixB : List UInt8 → Nat → Nat → Option Nat
 | [], _, _ => none
 | b :: l, c, k => bif Nat.beq b.toNat c then some k else ixB l c (Nat.succ k)
theorem ixB_eq : ∀ s (c : UInt8) k, idxV (ixB s c.toNat k) = if Lib.indexByte s c = -1 then -1 else Lib.indexByte s c + k
 | [], c, k => by simp [ixB, Lib.indexByte, idxV]
 | b :: l, c, k => by
  have hb : Nat.beq b.toNat c.toNat = (b == c):=by
   by_cases h : b = c
   ·subst h; simp [Nat.beq_refl]
   ·rw [beq_false_of_ne h]
    cases hx : Nat.beq b.toNat c.toNat with
    | false => rfl
    | true => exact absurd (UInt8.toNat_inj.1 (Nat.eq_of_beq_eq_true hx)) h
  have hg : ∀ l : List UInt8, -1 ≤ Lib.indexByte l c:=by
   intro l
   induction l with
   | nil => exact Int.le_refl _
   | cons a l ih => simp only [Lib.indexByte]; split; omega; split; omega; omega
  rw [ixB, hb, Lib.indexByte]
  cases b == c with
  | true => simp [idxV]
  | false =>
   have hg:=hg l
   simp only [cond_false, Bool.false_eq_true, if_false]
   rw [ixB_eq l c (Nat.succ k)]
   by_cases h : Lib.indexByte l c = -1
   ·simp [h]
   ·have h0 : (Lib.indexByte l c == -1) = false := beq_false_of_ne h
    rw [if_neg h, h0]
    simp only [Bool.false_eq_true, if_false]
    rw [if_neg (by omega)]
    omega
def indexByteF (vs : List V) (h : Hp) : Option (V × Hp) :=
 match vs with
 | [.str s, .int .u8 (.ofNat c)] => bif Nat.blt c 256 then some (.int .i64 (idxV (ixB s.l c 0)), h) else none
 | _ => none
def IndexByteC (P : Program) (f : FuncId) : Prop:=∀ (s : ByteArray) (c : Int) (w : World), Calls P f #[.string s, .int .u8 c] w fun e w' => e = .returned (.int .i64 (Lib.indexByte s.data.toList c.toNat.toUInt8)) ∧ w' = w
theorem indexByteF_sim [Orc] [Res] {f : FuncId} {fn : Func} (hf : P.funcs[f]? = some fn) (hb : fn.body.isNone = false) (hc : IndexByteC P f) {w0 w : World}
 {as : List V} {h h' : Hp} {v : V} (hs : indexByteF as h = some (v, h')) {ρ : Rho} {xs : List Value} (H : R P w0 w h ρ) (ha : RelL ρ as xs) : CallR P f ⟨xs⟩ w fun e w' => ∃ x ρ', e = .returned x ∧ Rel ρ' v x ∧ Ext ρ ρ' ∧ R P w0 w' h' ρ':=by
 unfold indexByteF at hs
 split at hs <;> try (cases hs; done)
 rename_i s c
 cases hle : Nat.blt c 256 with
 | false => rw [hle] at hs; cases hs
 | true =>
  rw [hle] at hs
  simp only [cond_true, Option.some.injEq, Prod.mk.injEq] at hs
  obtain ⟨rfl, rfl⟩:=hs
  obtain ⟨x, xs', rfl, h1, h2⟩:=ha.cons_inv
  obtain ⟨y, ys', rfl, h3, h4⟩:=h2.cons_inv
  have:=h4.nil_inv
  subst this
  cases h1; cases h3
  refine .inl ⟨⟨fn, hf, hb⟩, (hc _ _ w).mono ?_⟩
  rintro e w' ⟨rfl, rfl⟩
  refine ⟨_, ρ, rfl, ?_, Ext.refl _, H⟩
  have hlt : c < 256:=Nat.le_of_ble_eq_true hle
  have : idxV (ixB s.l c 0) = Lib.indexByte s.l (UInt8.ofNat c):=by
   have h5:=ixB_eq s.l (UInt8.ofNat c) 0
   rw [show (UInt8.ofNat c).toNat = c by simpa using Nat.mod_eq_of_lt hlt] at h5
   rw [h5]
   split <;> omega
  rw [this]; exact .int _ _
def memB : Nat → List UInt8 → Bool
 | _, [] => false
 | b, c :: l => bif Nat.beq b c.toNat then true else memB b l
def anyB : List UInt8 → List UInt8 → Bool
 | [], _ => false
 | b :: l, chars => bif memB b.toNat chars then true else anyB l chars
theorem memB_eq (b : UInt8) : ∀ l : List UInt8, memB b.toNat l = l.contains b
 | [] => rfl
 | c :: l => by
  have hb : Nat.beq b.toNat c.toNat = (b == c):=by
   by_cases h : b = c
   ·subst h; simp [Nat.beq_refl]
   ·rw [beq_false_of_ne h]
    cases hx : Nat.beq b.toNat c.toNat with
    | false => rfl
    | true => exact absurd (UInt8.toNat_inj.1 (Nat.eq_of_beq_eq_true hx)) h
  rw [memB, hb, memB_eq b l, List.contains_cons]
  cases b == c <;> rfl
theorem anyB_eq : ∀ s chars, anyB s chars = Lib.containsAny s chars
 | [], chars => rfl
 | b :: l, chars => by
  rw [anyB, memB_eq, anyB_eq l chars]
  unfold Lib.containsAny
  rw [Lib.indexAny]
  cases chars.contains b with
  | true => simp
  | false =>
   have:=Lib.indexAny_ge chars l
   by_cases h : Lib.indexAny l chars = -1
   ·simp [h]
   ·have h0 : (Lib.indexAny l chars == -1) = false := beq_false_of_ne h
    simp only [cond_false, Bool.false_eq_true, if_false, h0]
    rw [decide_eq_true (by omega), decide_eq_true (by omega)]
def asciiB : List UInt8 → Bool
 | [] => true
 | b :: l => bif Nat.blt b.toNat 128 then asciiB l else false
theorem asciiB_spec : ∀ {l : List UInt8}, asciiB l = true → ∀ (j : Nat) b, l[j]? = some b → b.toNat < 128
 | [], _, j, b, h => by simp at h
 | a :: l, h, j, b, hj => by
  rw [asciiB] at h
  cases e : Nat.blt a.toNat 128 with
  | false => rw [e] at h; cases h
  | true =>
   rw [e] at h
   cases j with
   | zero => simp at hj; subst hj; exact Nat.le_of_ble_eq_true e
   | succ j => exact asciiB_spec h j b (by simpa using hj)
def containsAnyF (vs : List V) (h : Hp) : Option (V × Hp) :=
 match vs with
 | [.str s, .str chars] => bif (Nat.ble s.l.length 2147483648 && Nat.ble chars.l.length 2147483648) && (asciiB s.l && asciiB chars.l) then some (.bool (anyB s.l chars.l), h) else none
 | _ => none
def ContainsAnyC (P : Program) (f : FuncId) : Prop := ∀ (s chars : ByteArray) (w : World), s.size < 4294967281 → chars.size < 4294967281 → (∀ (j : Nat) b, s.data.toList[j]? = some b → b.toNat < 128) → (∀ (j : Nat) b, chars.data.toList[j]? = some b → b.toNat < 128) →
 Calls P f #[.string s, .string chars] w fun e w' => e = .returned (.bool (Lib.containsAny s.data.toList chars.data.toList)) ∧ Below w.heap.size w w'
theorem containsAnyF_sim [Orc] [Res] {f : FuncId} {fn : Func} (hf : P.funcs[f]? = some fn) (hb : fn.body.isNone = false) (hc : ContainsAnyC P f) {w0 w : World}
 {as : List V} {h h' : Hp} {v : V} (hs : containsAnyF as h = some (v, h')) {ρ : Rho} {xs : List Value} (H : R P w0 w h ρ) (ha : RelL ρ as xs) : CallR P f ⟨xs⟩ w fun e w' => ∃ x ρ', e = .returned x ∧ Rel ρ' v x ∧ Ext ρ ρ' ∧ R P w0 w' h' ρ':=by
 unfold containsAnyF at hs
 split at hs <;> try (cases hs; done)
 rename_i s chars
 cases hle : ((Nat.ble s.l.length 2147483648 && Nat.ble chars.l.length 2147483648) && (asciiB s.l && asciiB chars.l)) with
 | false => rw [hle] at hs; cases hs
 | true =>
  rw [hle] at hs
  simp only [cond_true, Option.some.injEq, Prod.mk.injEq] at hs
  obtain ⟨rfl, rfl⟩:=hs
  simp only [Bool.and_eq_true] at hle
  obtain ⟨⟨l1, l2⟩, l3, l4⟩:=hle
  have l1:=Nat.le_of_ble_eq_true l1
  have l2:=Nat.le_of_ble_eq_true l2
  obtain ⟨x, xs', rfl, h1, h2⟩:=ha.cons_inv
  obtain ⟨y, ys', rfl, h3, h4⟩:=h2.cons_inv
  have:=h4.nil_inv
  subst this
  cases h1; cases h3
  refine .inl ⟨⟨fn, hf, hb⟩, (hc _ _ w (show s.l.length < _ by omega) (show chars.l.length < _ by omega) (asciiB_spec l3) (asciiB_spec l4)).mono ?_⟩
  rintro e w' ⟨rfl, hB⟩
  exact ⟨_, ρ, rfl, by rw [anyB_eq]; exact .bool _, Ext.refl _, H.later (h2:=h) (ρ2:=ρ) hB⟩
theorem indexF_heap {vs : List V} {h h' : Hp} {v : V} (e : indexF vs h = some (v, h')) : h' = h:=by
 unfold indexF at e
 split at e <;> try (cases e; done)
 rename_i s sub
 cases hb : Nat.ble s.l.length 2147483648 <;> rw [hb] at e <;> simp only [cond_true, cond_false, Option.some.injEq, Prod.mk.injEq, reduceCtorEq] at e
 exact e.2.symm
theorem indexByteF_heap {vs : List V} {h h' : Hp} {v : V} (e : indexByteF vs h = some (v, h')) : h' = h:=by
 unfold indexByteF at e
 split at e <;> try (cases e; done)
 rename_i s c
 cases hb : Nat.blt c 256 <;> rw [hb] at e <;> simp only [cond_true, cond_false, Option.some.injEq, Prod.mk.injEq, reduceCtorEq] at e
 exact e.2.symm
theorem containsAnyF_heap {vs : List V} {h h' : Hp} {v : V} (e : containsAnyF vs h = some (v, h')) : h' = h:=by
 unfold containsAnyF at e
 split at e <;> try (cases e; done)
 rename_i s c
 cases hb : ((Nat.ble s.l.length 2147483648 && Nat.ble c.l.length 2147483648) && (asciiB s.l && asciiB c.l)) <;> rw [hb] at e <;> simp only [cond_true, cond_false, Option.some.injEq, Prod.mk.injEq, reduceCtorEq] at e
 exact e.2.symm
end
section
def OpsOk (P : Program) (kd : Op → Nat) (op : Op → List V → Hp → Option (V × Hp)) : Prop:=∀ ng fn inv itr, @OpOk P ⟨ng, fn, kd, op, inv, itr⟩
def kdOr (k1 k2 : Op → Nat) (o : Op) : Nat := match k1 o with
 | 0 => k2 o
 | k + 1 => k + 1
def opLay (k1 : Op → Nat) (o1 o2 : Op → List V → Hp → Option (V × Hp)) (o : Op) (as : List V) (h : Hp) : Option (V × Hp) := match k1 o with
 | 0 => o2 o as h
 | _ + 1 => o1 o as h
theorem R.swap {P : Program} {ng : Nat} {fn fn' : FuncId → List V → Hp → Option (V × Hp)} {kd kd' : Op → Nat} {op op' : Op → List V → Hp → Option (V × Hp)} {I : World → Prop} {it it' : FuncId → Option It} {Z : Res} {w0 w : World} {h : Hp} {ρ : Rho}
 (H : @R ⟨ng, fn, kd, op, I, it⟩ Z P w0 w h ρ) : @R ⟨ng, fn', kd', op', I, it'⟩ Z P w0 w h ρ :=
 @R.mk ⟨ng, fn', kd', op', I, it'⟩ Z P _ _ _ _ (@R.below ⟨ng, fn, kd, op, I, it⟩ Z P w0 w h ρ H) (@R.bnd ⟨ng, fn, kd, op, I, it⟩ Z P w0 w h ρ H) (@R.live ⟨ng, fn, kd, op, I, it⟩ Z P w0 w h ρ H) (@R.inj ⟨ng, fn, kd, op, I, it⟩ Z P w0 w h ρ H)
  (@R.fresh ⟨ng, fn, kd, op, I, it⟩ Z P w0 w h ρ H) (@R.glob ⟨ng, fn, kd, op, I, it⟩ Z P w0 w h ρ H) (@R.base ⟨ng, fn, kd, op, I, it⟩ Z P w0 w h ρ H) (@R.rs ⟨ng, fn, kd, op, I, it⟩ Z P w0 w h ρ H) (@R.pn ⟨ng, fn, kd, op, I, it⟩ Z P w0 w h ρ H)
theorem OpsOk.or {P : Program} {k1 k2 : Op → Nat} {o1 o2 : Op → List V → Hp → Option (V × Hp)} (h1 : OpsOk P k1 o1) (h2 : OpsOk P k2 o2) : OpsOk P (kdOr k1 k2) (opLay k1 o1 o2):=by
 intro ng fn inv itr
 have a:=h1 ng fn inv itr
 have b:=h2 ng fn inv itr
 have z : ∀ o, k1 o = 0 → kdOr k1 k2 o = k2 o ∧ ∀ as h, opLay k1 o1 o2 o as h = o2 o as h:=fun o h => by unfold kdOr opLay; rw [h]; exact ⟨rfl, fun _ _ => rfl⟩
 have s : ∀ o, k1 o ≠ 0 → kdOr k1 k2 o = k1 o ∧ ∀ as h, opLay k1 o1 o2 o as h = o1 o as h := fun o h => by
  unfold kdOr opLay
  cases e : k1 o with
  | zero => exact (h e).elim
  | succ k => exact ⟨rfl, fun _ _ => rfl⟩
 refine @OpOk.mk P ⟨ng, fn, kdOr k1 k2, opLay k1 o1 o2, inv, itr⟩ (fun o hk as h h2 => ?_) (fun o as h v h' hk he => ?_) (fun o as h v h' he hn => ?_)
 ·change kdOr k1 k2 o = 1 at hk
  change opLay k1 o1 o2 o as h2 = (opLay k1 o1 o2 o as h).map _
  by_cases h0 : k1 o = 0
  ·rw [(z o h0).2, (z o h0).2]; exact @OpOk.pure P ⟨ng, fn, k2, o2, inv, itr⟩ b o ((z o h0).1.symm.trans hk) as h h2
  ·rw [(s o h0).2, (s o h0).2]; exact @OpOk.pure P ⟨ng, fn, k1, o1, inv, itr⟩ a o ((s o h0).1.symm.trans hk) as h h2
 ·change kdOr k1 k2 o = 1 ∨ kdOr k1 k2 o = 2 at hk
  change opLay k1 o1 o2 o as h = some (v, h') at he
  by_cases h0 : k1 o = 0
  ·rw [(z o h0).2] at he; rw [(z o h0).1] at hk; exact @OpOk.reads P ⟨ng, fn, k2, o2, inv, itr⟩ b o as h v h' hk he
  ·rw [(s o h0).2] at he; rw [(s o h0).1] at hk; exact @OpOk.reads P ⟨ng, fn, k1, o1, inv, itr⟩ a o as h v h' hk he
 ·change opLay k1 o1 o2 o as h = some (v, h') at he
  change kdOr k1 k2 o ≠ 0 at hn
  by_cases h0 : k1 o = 0
  ·rw [(z o h0).2] at he; rw [(z o h0).1] at hn
   obtain ⟨x, y⟩:=@OpOk.make P ⟨ng, fn, k2, o2, inv, itr⟩ b o as h v h' he hn
   refine ⟨x, fun Z w0 w ρ a oo hoo H hr => ?_⟩
   obtain ⟨x, w', ρ', k1, k2, k3, k4⟩:=y Z w0 w ρ a oo hoo (R.swap H) hr
   exact ⟨x, w', ρ', k1, k2, k3, R.swap k4⟩
  ·rw [(s o h0).2] at he; rw [(s o h0).1] at hn
   obtain ⟨x, y⟩:=@OpOk.make P ⟨ng, fn, k1, o1, inv, itr⟩ a o as h v h' he hn
   refine ⟨x, fun Z w0 w ρ a oo hoo H hr => ?_⟩
   obtain ⟨x, w', ρ', k1, k2, k3, k4⟩:=y Z w0 w ρ a oo hoo (R.swap H) hr
   exact ⟨x, w', ρ', k1, k2, k3, R.swap k4⟩
def s2b (e : TypeId) (h : Hp) (x : V) : Option (V × Hp) :=
 match x with
 | .str s => some (.slice h.n 0 s.l.length 0 true, h.new (.ro (Tr.nil.setL 0 (s.l.map fun b => V.int .u8 (Int.ofNat b.toNat))) e))
 | _ => none
def i2s (x : V) : Option V :=
 match x with
 | .int _ n => some (.str (pack (Utf8.encode n).data.toList))
 | _ => none
section
variable (P : Program)
def kdJ (o : Op) : Nat :=
 match o with
 | .convert s d _ => (match P.underlying s with
  | some .string => (match P.underlying d with
   | some (.slice _) => 3
   | _ => 0)
  | some (.int _) => (match P.underlying d with
   | some .string => 1
   | _ => 0)
  | _ => 0)
 | _ => 0
def convW (s d : TypeId) (h : Hp) (x : V) : Option (V × Hp) :=
 match P.underlying s with
 | some .string => (match P.underlying d with
  | some (.slice e) => (match P.underlying e with
   | some (.int .u8) => s2b e h x
   | _ => none)
  | _ => none)
 | some (.int _) => (match P.underlying d with
  | some .string => vh h (i2s x)
  | _ => none)
 | _ => none
def opJ (o : Op) (as : List V) (h : Hp) : Option (V × Hp) :=
 match o with
 | .convert s d _ => (match as with
  | [a] => convW P s d h a
  | _ => none)
 | _ => none
def kdW : Op → Nat:=kdOr (kdQ P) (kdJ P)
def opW : Op → List V → Hp → Option (V × Hp):=opLay (kdQ P) (opQ P) (opJ P)
end
variable {P : Program}
theorem newRo_R [Orc] [Res] {w0 w w' : World} {h : Hp} {ρ : Rho} (H : R P w0 w h ρ) (hB : Below w.heap.size w w') (hlt : w.heap.size < w'.heap.size) (t : Tr V) (e : TypeId) (cap : Nat)
 (ho : ∃ arr fz e', RoR (upd ρ h.n ⟨w.heap.size, 0, cap⟩) w' ⟨w.heap.size, 0, cap⟩ t e' arr fz) :
 Ext ρ (upd ρ h.n ⟨w.heap.size, 0, cap⟩) ∧ R P w0 w' (h.new (.ro t e)) (upd ρ h.n ⟨w.heap.size, 0, cap⟩):=by
 have H':=H.later (h2:=h) (ρ2:=ρ) hB
 have hnone : ρ h.n = none:=by
  cases hr : ρ h.n with
  | none => rfl
  | some l => have:=(H.bnd _ _ hr).1; omega
 have hext : Ext ρ (upd ρ h.n ⟨w.heap.size, 0, cap⟩):=upd_ext hnone
 have old : ∀ x : Nat, x ≠ h.n → (h.new (.ro t e)).alive x → h.alive x:=by
  rintro x hx ⟨y, h1, h2⟩
  simp only [Hp.new] at h1
  rw [Tr.get_set_ne _ _ (Ne.symm hx)] at h1
  exact ⟨y, h1, h2⟩
 refine ⟨hext, H'.below, ?_, ?_, ?_, fun b hb => by
  simp only [Hp.new] at hb ⊢; rw [Tr.get_set_ne _ _ (by omega)]; exact H.fresh b (by omega), H.glob.ext hext, H.base, fun b hb => ⟨by unfold Mid.upd; rw [if_neg (Nat.ne_of_lt (H.rs b hb).2)]; exact (H.rs b hb).1, Nat.lt_succ_of_lt (H.rs b hb).2⟩, H.pnNew (fun j hj => hB.block j hj) (Nat.le_refl _)⟩
 ·intro b l hb
  rcases upd_inv hb with ⟨rfl, rfl⟩ | ⟨hne, hb⟩
  ·exact ⟨Nat.lt_succ_self _, .inl ⟨H.below.size, rfl⟩, .inr hlt⟩
  ·have := H'.bnd b l hb
   exact ⟨Nat.lt_succ_of_lt this.1, by rw [Hp.still_new _ hne]; exact this.2.1, this.2.2⟩
 ·intro b l o' hb ho'
  rcases upd_inv hb with ⟨rfl, rfl⟩ | ⟨hne, hb⟩
  ·simp only [Hp.new, Tr.get_set_same, Option.some.injEq] at ho'
   subst ho'; exact ho
  ·simp only [Hp.new] at ho'
   rw [Tr.get_set_ne _ _ (Ne.symm hne)] at ho'
   exact (H'.live b l _ hb ho').keep hext rfl
 ·intro b b' l l' hb hb' hne ha ha'
  rcases upd_inv hb with ⟨rfl, rfl⟩ | ⟨h1, hb⟩
  ·rcases upd_inv hb' with ⟨rfl, rfl⟩ | ⟨h2, hb'⟩
   ·exact (hne rfl).elim
   ·have := H.lt hb' (old b' h2 ha'); simp only; omega
  ·rcases upd_inv hb' with ⟨rfl, rfl⟩ | ⟨h2, hb'⟩
   ·have := H.lt hb (old b h1 ha); simp only; omega
   ·exact H.inj b b' l l' hb hb' hne (old b h1 ha) (old b' h2 ha')
theorem s2b_sim [Orc] [Res] {w0 w : World} {h h' : Hp} {ρ : Rho} (H : R P w0 w h ρ) {s d e : TypeId} {u : TypeDesc} (hs : P.underlying s = some u) (hd : P.underlying d = some (.slice e)) (he : P.underlying e = some (.int .u8))
 {a v : V} {x : Value} (hr : Rel ρ a x) (hq : s2b e h a = some (v, h')) : ∃ r w' ρ', (convert s d x).run P w = .ok r w' ∧ Rel ρ' v r ∧ Ext ρ ρ' ∧ R P w0 w' h' ρ':=by
 cases hr <;> simp only [s2b, reduceCtorEq, Option.some.injEq, Prod.mk.injEq] at hq
 rename_i l
 obtain ⟨rfl, rfl⟩:=hq
 generalize l.l = l
 have hB : Below w.heap.size w (Lib.bytesWorld w e ⟨⟨l⟩⟩):=by
  refine ⟨rfl, rfl, rfl, by rw [Lib.bytesWorld_size]; omega, fun k hk => Lib.bytesWorld_at_old _ _ _ _ hk⟩
 have hN := newRo_R H hB (by rw [Lib.bytesWorld_size]; omega) (Tr.nil.setL 0 (l.map fun b => V.int .u8 (Int.ofNat b.toNat))) e (grownCap w l.length 0 e)
  ⟨_, _, _, Lib.bytesWorld_at_new w e ⟨⟨l⟩⟩, fun i v hv => by
   rw [Tr.get_setL, Tr.get_nil] at hv
   split at hv
   ·rename_i hi
    rw [Nat.sub_zero, List.getElem?_map] at hv
    cases hl : l[i]? with
    | none => rw [hl] at hv; cases hv
    | some b =>
     rw [hl] at hv
     simp only [Option.map_some, Option.some.injEq] at hv
     subst hv
     refine ⟨.int .u8 (Int.ofNat b.toNat), ?_, .int _ _⟩
     have hlt : i < l.length:=(List.getElem?_eq_some_iff.1 hl).1
     show (Lib.bytesCells w e ⟨⟨l⟩⟩)[0 + i]? = _
     rw [Nat.zero_add]
     unfold Lib.bytesCells
     rw [Array.getElem?_append_left (by simpa using hlt)]
     simp [hl]
   ·cases hv⟩
 refine ⟨_, _, _, Lib.run_convert_string_bytes w s d e _ hs hd he, ?_, hN.1, hN.2⟩
 have:=Rel.sliceG (ρ:=upd ρ h.n ⟨w.heap.size, 0, grownCap w l.length 0 e⟩) (b:=h.n) 0 l.length 0 (upd_same _ _ _)
 exact this
theorem i2s_sim {ρ : Rho} {s d : TypeId} {u : TypeDesc} (hs : P.underlying s = some u) (hd : P.underlying d = some .string) {a v : V} {x : Value} (hr : Rel ρ a x) (hq : i2s a = some v) (w : World) : ∃ r, (convert s d x).run P w = .ok r w ∧ Rel ρ v r:=by
 cases hr <;> simp only [i2s, reduceCtorEq, Option.some.injEq] at hq
 subst hq
 refine ⟨_, run_convert_int_string w s d _ _ (by rw [hs]; rfl) hd, ?_⟩
 exact .packed _
theorem vops : OpsOk P (kdJ P) (opJ P):=by
 intro ng fn inv itr
 letI : Orc:=⟨ng, fn, kdJ P, opJ P, inv, itr⟩
 have one : ∀ {o : Op} {as : List V} {h h' : Hp} {v : V}, (kdJ P o = 1 ∨ kdJ P o = 2) → opJ P o as h = some (v, h') → h' = h ∧ ∀ ρ w (a : Act) (oo : Oper), oo.op = o → RelL ρ as (o.operands.toList.map a.eval) →
  ∃ x, (execOp a.eval oo).run P w = .ok (.value x) w ∧ Rel ρ v x:=by
  intro o as h h' v hk he
  cases o <;> try (simp [kdJ] at hk; done)
  case convert s d x =>
   simp only [kdJ] at hk
   simp only [opJ] at he
   split at he <;> try (cases he; done)
   unfold convW at he
   cases hu : P.underlying s with
   | none => rw [hu] at hk; simp at hk
   | some us =>
    rw [hu] at hk he
    cases us <;> simp at hk he
    ·cases hv : P.underlying d with
     | none => rw [hv] at hk; simp at hk
     | some ud =>
      rw [hv] at hk he
      cases ud <;> simp at hk he
      obtain ⟨rfl, h1⟩:=vh_some he
      refine ⟨rfl, fun ρ w act oo ho hr => ?_⟩
      obtain ⟨u, hu1, r1⟩:=rel_one (xs:=[act.eval x]) (by simpa [Op.operands] using hr)
      simp only [List.cons.injEq, and_true] at hu1
      subst hu1
      obtain ⟨r, h2, h3⟩:=i2s_sim hu hv r1 h1 w
      refine ⟨r, ?_, h3⟩
      unfold execOp; rw [ho]
      exact run_v h2
    ·cases hv : P.underlying d with
     | none => rw [hv] at hk; simp at hk
     | some ud =>
      rw [hv] at hk
      cases ud <;> simp at hk
 refine @OpOk.mk P ⟨ng, fn, kdJ P, opJ P, inv, itr⟩ (fun o hk as h h2 => ?_) (fun o as h v h' hk he => ?_) (fun o as h v h' he hn => ?_)
 ·change kdJ P o = 1 at hk
  change opJ P o as h2 = (opJ P o as h).map _
  cases o <;> try (simp [kdJ] at hk; done)
  case convert s d x =>
   simp only [kdJ] at hk
   simp only [opJ]
   split
   ·unfold convW
    cases hu : P.underlying s with
    | none => rfl
    | some us =>
     rw [hu] at hk
     cases us <;> simp at hk ⊢
     ·cases hv : P.underlying d with
      | none => rfl
      | some ud => cases ud <;> first | rfl | exact vh_map' _ _ _
     ·cases hv : P.underlying d with
      | none => rfl
      | some ud =>
       rw [hv] at hk
       cases ud <;> first | rfl | (simp at hk; done)
   ·rfl
 ·obtain ⟨h1, h2⟩ := one hk he
  exact ⟨h1, fun ρ w a oo hoo _ hr => h2 ρ w a oo hoo hr⟩
 ·change opJ P o as h = some (v, h') at he
  change kdJ P o ≠ 0 at hn
  by_cases h12 : kdJ P o = 1 ∨ kdJ P o = 2
  ·obtain ⟨rfl, h1⟩ := one h12 he
   refine ⟨Fr.refl _, fun Z w0 w ρ a oo hoo H hr => ?_⟩
   obtain ⟨x, h2, h3⟩:=h1 ρ w a oo hoo hr
   exact ⟨x, w, ρ, .inl h2, h3, Ext.refl _, H⟩
  ·cases o <;> try (simp [kdJ] at hn; done)
   case convert s d x =>
    simp only [opJ] at he
    split at he <;> try (cases he; done)
    rename_i a
    unfold convW at he
    cases hu : P.underlying s with
    | none => rw [hu] at he; cases he
    | some us =>
     rw [hu] at he
     cases us <;> simp at he
     ·cases hv : P.underlying d with
      | none => rw [hv] at he; simp at he
      | some ud =>
       rw [hv] at he
       cases ud <;> simp at he
       exact (h12 (.inl (by simp [kdJ, hu, hv]))).elim
     ·cases hv : P.underlying d with
      | none => rw [hv] at he; simp at he
      | some ud =>
       rw [hv] at he
       cases ud <;> simp at he
       rename_i e
       cases hw : P.underlying e with
       | none => rw [hw] at he; simp at he
       | some ue =>
        rw [hw] at he
        cases ue <;> first | (simp at he; done) | skip
        rename_i k
        cases k <;> first | (simp at he; done) | skip
        change s2b e h a = some (v, h') at he
        refine ⟨?_, fun Z w0 w ρ act oo hoo H hr => ?_⟩
        ·unfold s2b at he
         split at he <;> try (cases he; done)
         simp only [Option.some.injEq, Prod.mk.injEq] at he
         rw [← he.2]; exact Fr.new _ _
        ·obtain ⟨u, hu1, r1⟩ := rel_one (xs := [act.eval x]) (by simpa [Op.operands] using hr)
         simp only [List.cons.injEq, and_true] at hu1
         subst hu1
         obtain ⟨r, w', ρ', h1, h2, h3, h4⟩:=s2b_sim H hu hv hw r1 he
         refine ⟨r, w', ρ', .inl ?_, h2, h3, h4⟩
         unfold execOp; rw [hoo]
         exact run_v h1
theorem qops' : OpsOk P (kdQ P) (opQ P):=fun ng fn inv itr => @qops P ⟨ng, fn, kdQ P, opQ P, inv, itr⟩ (fun _ => rfl) (fun _ _ _ => rfl)
theorem wops : OpsOk P (kdW P) (opW P):=qops'.or vops
end
section
variable {P : Program}
theorem newDead_R [Orc] [Res] {w0 w w' : World} {h : Hp} {ρ : Rho} (H : R P w0 w h ρ) (hB : Below w.heap.size w w') {lc : Lc} (h0 : lc.base = 0) (h1 : w.heap.size ≤ lc.blk) (h2 : lc.blk < w'.heap.size) :
 Ext ρ (upd ρ h.n lc) ∧ R P w0 w' (h.new .dead) (upd ρ h.n lc):=by
 have H':=H.later (h2:=h) (ρ2:=ρ) hB
 have hnone : ρ h.n = none:=by
  cases hr : ρ h.n with
  | none => rfl
  | some l => have:=(H.bnd _ _ hr).1; omega
 have hext : Ext ρ (upd ρ h.n lc):=upd_ext hnone
 have old : ∀ x : Nat, (h.new .dead).alive x → x ≠ h.n ∧ h.alive x:=by
  rintro x ⟨y, h1, h2⟩
  simp only [Hp.new] at h1
  by_cases hx : x = h.n
  ·subst hx
   rw [Tr.get_set_same] at h1
   simp only [Option.some.injEq] at h1
   exact (h2 h1.symm).elim
  ·rw [Tr.get_set_ne _ _ (Ne.symm hx)] at h1
   exact ⟨hx, y, h1, h2⟩
 refine ⟨hext, H'.below, ?_, ?_, ?_, fun b hb => by
  simp only [Hp.new] at hb ⊢; rw [Tr.get_set_ne _ _ (by omega)]; exact H.fresh b (by omega), H.glob.ext hext, H.base, fun b hb => ⟨by unfold Mid.upd; rw [if_neg (Nat.ne_of_lt (H.rs b hb).2)]; exact (H.rs b hb).1, Nat.lt_succ_of_lt (H.rs b hb).2⟩, H.pnNew (fun j hj => hB.block j hj) h1⟩
 ·intro b l hb
  rcases upd_inv hb with ⟨rfl, rfl⟩ | ⟨hne, hb⟩
  ·exact ⟨Nat.lt_succ_self _, .inl ⟨Nat.le_trans H.below.size h1, h0⟩, .inr h2⟩
  ·have := H'.bnd b l hb
   exact ⟨Nat.lt_succ_of_lt this.1, by rw [Hp.still_new _ hne]; exact this.2.1, this.2.2⟩
 ·intro b l o' hb ho'
  rcases upd_inv hb with ⟨rfl, rfl⟩ | ⟨hne, hb⟩
  ·simp only [Hp.new, Tr.get_set_same, Option.some.injEq] at ho'
   subst ho'; trivial
  ·simp only [Hp.new] at ho'
   rw [Tr.get_set_ne _ _ (Ne.symm hne)] at ho'
   exact (H'.live b l _ hb ho').keep hext rfl
 ·intro b b' l l' hb hb' hne ha ha'
  obtain ⟨n1, a1⟩:=old b ha
  obtain ⟨n2, a2⟩:=old b' ha'
  rcases upd_inv hb with ⟨rfl, rfl⟩ | ⟨_, hb⟩
  ·exact (n1 rfl).elim
  ·rcases upd_inv hb' with ⟨rfl, rfl⟩ | ⟨_, hb'⟩
   ·exact (n2 rfl).elim
   ·exact H.inj b b' l l' hb hb' hne a1 a2
end
end Go.Mid
end
