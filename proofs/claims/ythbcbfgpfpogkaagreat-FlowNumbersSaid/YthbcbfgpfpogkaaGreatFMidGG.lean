import Derived.Test.YthbcbfgpfpogkaaGreatFMidDD
import Derived.Lib.IndexMore
import Derived.Lib.Join
import Derived.Lib.IndexAny
import Derived.Lib.Bytealg
set_option linter.all false
set_option warn.classDefReducibility false
/- What a machine takes from outside, whole: the operations of MidBB and MidFF; functions that the model answers at once. -/
section
namespace Go.Mid
open Go.RowKit
variable {P : Program}

theorem opU_reads [Orc] {o : Op} (hk : kdU P o = 1 ∨ kdU P o = 2) {as : List V} {h h' : Hp} {v : V} (he : opU P o as h = some (v, h')) : h' = h ∧ ∀ ρ w (a : Act) (oo : Oper), oo.op = o → Live P ρ w h → RelL ρ as (o.operands.toList.map a.eval) →
    ∃ x, (execOp a.eval oo).run P w = .ok (.value x) w ∧ Rel ρ v x := by
  have take : ∀ {w : World} {ρ : Rho} {s : Sem Value}, (∃ x, s.run P w = .ok x w ∧ Rel ρ v x) → ∃ x, (do let r ← s; pure (Go.Next.value r) : Sem Go.Next).run P w = .ok (.value x) w ∧ Rel ρ v x :=
    fun ⟨x, h1, h2⟩ => ⟨x, run_v h1, h2⟩
  cases o <;> try (simp [kdU] at hk; done)
  case binOp op ty x y pre =>
    simp only [opU] at he
    split at he <;> try (cases he; done)
    split at he <;> try (cases he; done)
    rename_i a b _ t hu
    obtain ⟨rfl, h1⟩ := vh_some he
    refine ⟨rfl, fun ρ w act oo ho _ hr => ?_⟩
    obtain ⟨u, v', huv, r1, r2⟩ := rel_two (xs := [act.eval x, act.eval y]) (by simpa [Op.operands] using hr)
    simp only [List.cons.injEq, and_true] at huv
    obtain ⟨rfl, rfl⟩ := huv
    unfold execOp; rw [ho]
    exact take (cmpP_sim hu h1 r1 r2 x y w)
  case convert s d x =>
    exfalso
    simp only [kdU] at hk
    split at hk
    · split at hk <;> simp at hk
    · split at hk <;> simp at hk
    · simp at hk
  case call c =>
    obtain ⟨callee, args, tys⟩ := c
    cases callee <;> try (simp [kdU] at hk; done)
    rename_i b
    simp only [opU] at he
    cases b <;> try (simp [kdU] at hk; done)
    simp only at he
    split at he <;> try (cases he; done)
    obtain ⟨rfl, h1⟩ := vh_some he
    refine ⟨rfl, fun ρ w act oo ho H hr => ?_⟩
    obtain ⟨u, hu1, r1⟩ := rel_one (xs := args.toList.map act.eval) (by simpa [Op.operands, Call.operands] using hr)
    unfold execOp; rw [ho]
    simp only [resolve, pure_bind, invoke, builtin]
    have ha0 : args.map act.eval = #[u] := by
      apply Array.ext'; simpa using hu1
    rw [ha0]
    exact take (headV_sim H h1 r1 _ _)
theorem opU_pure {o : Op} (hk : kdU P o = 1) (as : List V) (h h2 : Hp) : opU P o as h2 = (opU P o as h).map fun p => (p.1, h2) := by
  cases o <;> try (simp [kdU] at hk; done)
  case binOp op ty x y pre =>
    simp only [opU]
    split
    · split
      · exact vh_map' _ _ _
      · rfl
    · rfl
  case convert s d x =>
    exfalso
    simp only [kdU] at hk
    split at hk
    · split at hk <;> simp at hk
    · split at hk <;> simp at hk
    · simp at hk
  case call c =>
    exfalso
    obtain ⟨callee, args, tys⟩ := c
    cases callee <;> try (simp [kdU] at hk; done)
    rename_i b
    cases b <;> simp [kdU] at hk
theorem opU_make [Orc] {o : Op} (hn : kdU P o ≠ 0) {as : List V} {h h' : Hp} {v : V} (he : opU P o as h = some (v, h')) : Fr h h' ∧ ∀ (Z : Res) w0 w ρ (a : Act) (oo : Oper), oo.op = o → R P w0 w h ρ → RelL ρ as (o.operands.toList.map a.eval) →
    Made P w0 ((execOp a.eval oo).run P w) v h' ρ := by
  by_cases h12 : kdU P o = 1 ∨ kdU P o = 2
  · obtain ⟨rfl, h1⟩ := opU_reads h12 he
    refine ⟨Fr.refl _, fun Z w0 w ρ a oo hoo H hr => ?_⟩
    obtain ⟨x, h2, h3⟩ := h1 ρ w a oo hoo H.live hr
    exact ⟨x, w, ρ, .inl h2, h3, Ext.refl _, H⟩
  · cases o <;> try (simp [kdU] at hn; done)
    case binOp op ty x y pre =>
      exfalso
      simp only [kdU] at hn h12
      cases hb : (isK x || isK y) <;> rw [hb] at hn h12
      · simp only [cond_false] at hn h12
        split at hn <;> first | (split at hn <;> simp_all) | simp_all
      · simp at hn
    case convert s d x =>
      simp only [opU] at he
      split at he <;> try (cases he; done)
      obtain ⟨rfl, h1⟩ := vh_some he
      refine ⟨Fr.refl _, fun Z w0 w ρ a oo hoo H hr => ?_⟩
      obtain ⟨u, hu, r1⟩ := rel_one (xs := [a.eval x]) (by simpa [Op.operands] using hr)
      simp only [List.cons.injEq, and_true] at hu
      subst hu
      obtain ⟨r, h2, h3⟩ := convU_sim H h1 r1
      refine ⟨r, w, ρ, .inl ?_, h3, Ext.refl _, H⟩
      unfold execOp; rw [hoo]
      exact run_v h2
    case call c =>
      obtain ⟨callee, args, tys⟩ := c
      cases callee <;> try (simp [kdU] at hn; done)
      rename_i b
      cases b <;> try (simp [kdU] at hn h12; done)
      simp only [opU] at he
      split at he <;> try (cases he; done)
      rename_i a n ty it hty
      split at he <;> try (cases he; done)
      rename_i u hu
      cases hc : Nat.beq (P.cellsOf u) 1 with
      | false => rw [hc] at he; cases he
      | true =>
        rw [hc] at he
        simp only [cond_true] at he
        have hc' := Nat.eq_of_beq_eq_true hc
        refine ⟨?_, fun Z w0 w ρ act oo hoo H hr => ?_⟩
        · unfold seeV at he
          simp only [Bool.cond_eq_ite] at he
          (repeat' split at he) <;> first | (cases he; done) | (simp only [Option.some.injEq, Prod.mk.injEq] at he; obtain ⟨_, rfl⟩ := he; first | exact Fr.refl _ | exact Fr.put _ _ _)
        · obtain ⟨x, y, hxy, r1, r2⟩ := rel_two (xs := args.toList.map act.eval) (by simpa [Op.operands, Call.operands] using hr)
          have ht : tys = #[ty, it] := by apply Array.ext'; simpa using hty
          subst ht
          obtain ⟨r, w', h1, h2, h3⟩ := seeV_sim H he r1 r2 hu hc' oo.type
          refine ⟨r, w', ρ, .inl ?_, h2, Ext.refl _, h3⟩
          unfold execOp; rw [hoo]
          simp only [resolve, pure_bind, invoke, builtin]
          have ha0 : args.map act.eval = #[x, y] := by
            apply Array.ext'; simpa using hxy
          rw [ha0]
          exact run_v h1
theorem qops [O : Orc] (hk : ∀ o, Orc.kd o = kdQ P o) (ho : ∀ o as h, Orc.op o as h = opQ P o as h) : OpOk P := by
  have z : ∀ o, kdP P o = 0 → kdQ P o = kdU P o ∧ ∀ as h, opQ P o as h = opU P o as h := fun o h => by unfold kdQ opQ; rw [h]; exact ⟨rfl, fun _ _ => rfl⟩
  have s : ∀ o, kdP P o ≠ 0 → kdQ P o = kdP P o ∧ ∀ as h, opQ P o as h = opP P o as h := fun o h => by
    unfold kdQ opQ
    cases e : kdP P o with
    | zero => exact (h e).elim
    | succ k => exact ⟨rfl, fun _ _ => rfl⟩
  have low : @OpOk P ⟨O.ng, O.fn, kdP P, opP P, O.inv, O.itr⟩ := @xops P ⟨O.ng, O.fn, kdP P, opP P, O.inv, O.itr⟩ (fun _ => rfl) (fun _ _ _ => rfl)
  have up : ∀ {Z : Res} {w0 w h ρ}, R P w0 w h ρ → @R ⟨O.ng, O.fn, kdP P, opP P, O.inv, O.itr⟩ Z P w0 w h ρ := fun {Z w0 w h ρ} H => @R.mk ⟨O.ng, O.fn, kdP P, opP P, O.inv, O.itr⟩ Z P _ _ _ _ H.below H.bnd H.live H.inj H.fresh H.glob H.base H.rs H.pn
  have down : ∀ {Z : Res} {w0 w h ρ}, @R ⟨O.ng, O.fn, kdP P, opP P, O.inv, O.itr⟩ Z P w0 w h ρ → R P w0 w h ρ := fun {Z w0 w h ρ} H =>
    @R.mk O Z P _ _ _ _ (@R.below ⟨O.ng, O.fn, kdP P, opP P, O.inv, O.itr⟩ Z P w0 w h ρ H) (@R.bnd ⟨O.ng, O.fn, kdP P, opP P, O.inv, O.itr⟩ Z P w0 w h ρ H) (@R.live ⟨O.ng, O.fn, kdP P, opP P, O.inv, O.itr⟩ Z P w0 w h ρ H) (@R.inj ⟨O.ng, O.fn, kdP P, opP P, O.inv, O.itr⟩ Z P w0 w h ρ H) (@R.fresh ⟨O.ng, O.fn, kdP P, opP P, O.inv, O.itr⟩ Z P w0 w h ρ H) (@R.glob ⟨O.ng, O.fn, kdP P, opP P, O.inv, O.itr⟩ Z P w0 w h ρ H) (@R.base ⟨O.ng, O.fn, kdP P, opP P, O.inv, O.itr⟩ Z P w0 w h ρ H) (@R.rs ⟨O.ng, O.fn, kdP P, opP P, O.inv, O.itr⟩ Z P w0 w h ρ H) (@R.pn ⟨O.ng, O.fn, kdP P, opP P, O.inv, O.itr⟩ Z P w0 w h ρ H)
  refine ⟨fun o h1 as h h2 => ?_, fun o as h v h' h1 he => ?_, fun o as h v h' he hn => ?_⟩
  · rw [ho, ho]
    rw [hk] at h1
    by_cases h0 : kdP P o = 0
    · rw [(z o h0).2, (z o h0).2]; exact opU_pure (by rw [← (z o h0).1]; exact h1) as h h2
    · rw [(s o h0).2, (s o h0).2]; exact opP_pure (by rw [← (s o h0).1]; exact h1) as h h2
  · rw [ho] at he
    rw [hk] at h1
    by_cases h0 : kdP P o = 0
    · rw [(z o h0).2] at he; exact opU_reads (by rw [← (z o h0).1]; exact h1) he
    · rw [(s o h0).2] at he; exact opP_reads (by rw [← (s o h0).1]; exact h1) he
  · rw [ho] at he
    rw [hk] at hn
    by_cases h0 : kdP P o = 0
    · rw [(z o h0).2] at he; exact opU_make (by rw [← (z o h0).1]; exact hn) he
    · rw [(s o h0).2] at he
      obtain ⟨h1, h2⟩ := @OpOk.make P ⟨O.ng, O.fn, kdP P, opP P, O.inv, O.itr⟩ low o as h v h' he h0
      refine ⟨h1, fun Z w0 w ρ a oo hoo H hr => ?_⟩
      obtain ⟨x, w', ρ', k1, k2, k3, k4⟩ := h2 Z w0 w ρ a oo hoo (up H) hr
      exact ⟨x, w', ρ', k1, k2, k3, down k4⟩

/-! functions that the model answers at once -/
/-- the same pointer. -/
noncomputable def sameF (as : List V) (h : Hp) : Option (V × Hp) :=
  match as with
  | [.ptr b o] => some (.ptr b o, h)
  | [.nilPtr] => some (.nilPtr, h)
  | _ => none
/-- a row of so many bytes, of which nothing is known. -/
noncomputable def makeF (e : TypeId) (as : List V) (h : Hp) : Option (V × Hp) :=
  match as with
  | [.int .i64 (.ofNat n)] => bif Nat.ble n 281474976710656 then some (.slice h.n 0 n 0 true, h.new (.cells .nil n true e)) else none
  | _ => none
end Go.Mid

end
/- Two functions of the library whose answers their contracts tell: strings.Contains, strings.Join. -/
section
namespace Go.Mid
open Go.RowKit
variable {P : Program}

/-! strings.Contains -/
noncomputable def preB : List UInt8 → List UInt8 → Bool
  | [], _ => true
  | _ :: _, [] => false
  | a :: x, b :: y => bif Nat.beq a.toNat b.toNat then preB x y else false
noncomputable def hasB : List UInt8 → List UInt8 → Bool
  | [], sub => preB sub []
  | b :: l, sub => bif preB sub (b :: l) then true else hasB l sub
theorem preB_eq : ∀ x y, preB x y = List.isPrefixOf x y
  | [], y => by cases y <;> rfl
  | _ :: _, [] => rfl
  | a :: x, b :: y => by
    rw [preB, List.isPrefixOf, preB_eq x y]
    have : Nat.beq a.toNat b.toNat = (a == b) := by
      by_cases h : a = b
      · subst h; simp [Nat.beq_refl]
      · have h1 : (a == b) = false := beq_false_of_ne h
        rw [h1]
        cases hb : Nat.beq a.toNat b.toNat with
        | false => rfl
        | true => exact absurd (UInt8.toNat_inj.1 (Nat.eq_of_beq_eq_true hb)) h
    rw [this]
    cases (a == b) <;> rfl
theorem hasB_eq : ∀ s sub, hasB s sub = Lib.contains s sub
  | [], sub => by
    rw [hasB, preB_eq]
    unfold Lib.contains Lib.index
    cases sub <;> rfl
  | b :: l, sub => by
    rw [hasB, preB_eq, hasB_eq l sub]
    unfold Lib.contains
    rw [show Lib.index (b :: l) sub = if sub.isPrefixOf (b :: l) then 0 else if Lib.index l sub == -1 then -1 else Lib.index l sub + 1 from rfl]
    cases sub.isPrefixOf (b :: l) with
    | true => simp
    | false =>
      have := Lib.index_ge l sub
      by_cases h : Lib.index l sub = -1
      · simp [h]
      · have h0 : (Lib.index l sub == -1) = false := beq_false_of_ne h
        simp only [cond_false, Bool.false_eq_true, if_false, h0]
        rw [decide_eq_true (by omega), decide_eq_true (by omega)]
noncomputable def containsF (vs : List V) (h : Hp) : Option (V × Hp) :=
  match vs with
  | [.str s, .str sub] => bif Nat.ble s.l.length 2147483648 then some (.bool (hasB s.l sub.l), h) else none
  | _ => none
def ContainsC (P : Program) (f : FuncId) (I : World → Prop) : Prop := ∀ (s sub : ByteArray) (w : World), I w → s.size < 4294967281 → Calls P f #[.string s, .string sub] w fun e w' => e = .returned (.bool (Lib.contains s.data.toList sub.data.toList)) ∧ w' = w
theorem containsF_sim [Orc] [Res] {f : FuncId} {fn : Func} (hf : P.funcs[f]? = some fn) (hb : fn.body.isNone = false) {I : World → Prop} (hc : ContainsC P f I) {w0 w : World} (hI : I w)
    {as : List V} {h h' : Hp} {v : V} (hs : containsF as h = some (v, h')) {ρ : Rho} {xs : List Value} (H : R P w0 w h ρ) (ha : RelL ρ as xs) : CallR P f ⟨xs⟩ w fun e w' => ∃ x ρ', e = .returned x ∧ Rel ρ' v x ∧ Ext ρ ρ' ∧ R P w0 w' h' ρ' := by
  unfold containsF at hs
  split at hs <;> try (cases hs; done)
  rename_i s sub
  cases hle : Nat.ble s.l.length 2147483648 with
  | false => rw [hle] at hs; cases hs
  | true =>
    rw [hle] at hs
    simp only [cond_true, Option.some.injEq, Prod.mk.injEq] at hs
    obtain ⟨rfl, rfl⟩ := hs
    obtain ⟨x, xs', rfl, h1, h2⟩ := ha.cons_inv
    obtain ⟨y, ys', rfl, h3, h4⟩ := h2.cons_inv
    have := h4.nil_inv
    subst this
    cases h1; cases h3
    refine .inl ⟨⟨fn, hf, hb⟩, (hc _ _ w hI ?_).mono ?_⟩
    · have := Nat.le_of_ble_eq_true hle
      show s.l.length < _
      omega
    · rintro e w' ⟨rfl, rfl⟩
      exact ⟨_, ρ, rfl, by rw [hasB_eq]; exact .bool _, Ext.refl _, H⟩

/-! strings.Join -/
noncomputable def strsV : List V → Option (List (List UInt8))
  | [] => some []
  | .str s :: l => (match strsV l with
    | some r => some (s.l :: r)
    | none => none)
  | _ => none
noncomputable def joinGo (sep : List UInt8) (n : Nat) (h : Hp) : Option (List V) → Option (V × Hp)
  | none => none
  | some l => (match strsV l with
    | some r => bif Nat.ble n 65536 && Nat.ble (Lib.join r sep).length 1048576 then some (.str (pack (Lib.join r sep)), h) else none
    | none => none)
noncomputable def joinF (eS : TypeId) (vs : List V) (h : Hp) : Option (V × Hp) :=
  match vs with
  | [.nilSlice, .str _] => some (.str (pack []), h)
  | [.slice b o n k g, .str sep] => (match h.t.get b with
    | some (.cells c _ gr e) => bif Nat.beq e eS && (bif g then gr && Nat.beq k 0 else Nat.ble n k) then joinGo sep.l n h (c.getL o n) else none
    | _ => none)
  | _ => none
def JoinC (P : Program) (f : FuncId) : Prop := (∀ (a : Option Addr) (c : Nat) (sep : ByteArray) (w : World), Calls P f #[.slice a 0 c, .string sep] w fun e w' => e = .returned (.string ⟨#[]⟩) ∧ w' = w) ∧
  ∀ (bk o c : Nat) (xs : List ByteArray) (sep : ByteArray) (w : World), (∀ (j : Nat) x, xs[j]? = some x → w.cell? ⟨bk, o + j, none⟩ = some (.string x)) → bk < w.heap.size → xs.length ≤ 140737488355328 → xs.length ≤ c →
    (Lib.join (xs.map (·.data.toList)) sep.data.toList).length ≤ 140737488355328 →
    Calls P f #[.slice (some ⟨bk, o, none⟩) xs.length c, .string sep] w fun e w' => e = .returned (.string ⟨(Lib.join (xs.map (·.data.toList)) sep.data.toList).toArray⟩) ∧ Below w.heap.size w w'
/-! what they leave as it was -/
theorem containsF_heap {vs : List V} {h h' : Hp} {v : V} (e : containsF vs h = some (v, h')) : h' = h := by
  unfold containsF at e
  split at e <;> try (cases e; done)
  rename_i s sub
  cases hb : Nat.ble s.l.length 2147483648 <;> rw [hb] at e <;> simp only [cond_true, cond_false, Option.some.injEq, Prod.mk.injEq, reduceCtorEq] at e
  exact e.2.symm
end Go.Mid

end
/- More functions of the library whose answers their contracts tell: strings.Index, IndexByte, ContainsAny. -/
section
namespace Go.Mid
open Go.RowKit
variable {P : Program}

noncomputable def idxB : List UInt8 → List UInt8 → Nat → Option Nat
  | [], sub, k => bif preB sub [] then some k else none
  | b :: l, sub, k => bif preB sub (b :: l) then some k else idxB l sub (Nat.succ k)
noncomputable def idxV : Option Nat → Int
  | some k => .ofNat k
  | none => .negSucc 0
noncomputable def indexF (vs : List V) (h : Hp) : Option (V × Hp) :=
  match vs with
  | [.str s, .str sub] => bif Nat.ble s.l.length 2147483648 then some (.int .i64 (idxV (idxB s.l sub.l 0)), h) else none
  | _ => none
def IndexC (P : Program) (f : FuncId) (I : World → Prop) : Prop := ∀ (s sub : ByteArray) (w : World), I w → s.size < 4294967281 → Calls P f #[.string s, .string sub] w fun e w' => e = .returned (.int .i64 (Lib.index s.data.toList sub.data.toList)) ∧ w' = w
noncomputable def ixB : List UInt8 → Nat → Nat → Option Nat
  | [], _, _ => none
  | b :: l, c, k => bif Nat.beq b.toNat c then some k else ixB l c (Nat.succ k)
noncomputable def indexByteF (vs : List V) (h : Hp) : Option (V × Hp) :=
  match vs with
  | [.str s, .int .u8 (.ofNat c)] => bif Nat.blt c 256 then some (.int .i64 (idxV (ixB s.l c 0)), h) else none
  | _ => none
def IndexByteC (P : Program) (f : FuncId) : Prop := ∀ (s : ByteArray) (c : Int) (w : World), Calls P f #[.string s, .int .u8 c] w fun e w' => e = .returned (.int .i64 (Lib.indexByte s.data.toList c.toNat.toUInt8)) ∧ w' = w
noncomputable def memB : Nat → List UInt8 → Bool
  | _, [] => false
  | b, c :: l => bif Nat.beq b c.toNat then true else memB b l
noncomputable def anyB : List UInt8 → List UInt8 → Bool
  | [], _ => false
  | b :: l, chars => bif memB b.toNat chars then true else anyB l chars
noncomputable def asciiB : List UInt8 → Bool
  | [] => true
  | b :: l => bif Nat.blt b.toNat 128 then asciiB l else false
noncomputable def containsAnyF (vs : List V) (h : Hp) : Option (V × Hp) :=
  match vs with
  | [.str s, .str chars] => bif (Nat.ble s.l.length 2147483648 && Nat.ble chars.l.length 2147483648) && (asciiB s.l && asciiB chars.l) then some (.bool (anyB s.l chars.l), h) else none
  | _ => none
def ContainsAnyC (P : Program) (f : FuncId) : Prop := ∀ (s chars : ByteArray) (w : World), s.size < 4294967281 → chars.size < 4294967281 → (∀ (j : Nat) b, s.data.toList[j]? = some b → b.toNat < 128) → (∀ (j : Nat) b, chars.data.toList[j]? = some b → b.toNat < 128) →
  Calls P f #[.string s, .string chars] w fun e w' => e = .returned (.bool (Lib.containsAny s.data.toList chars.data.toList)) ∧ Below w.heap.size w w'
/-! what they leave as it was -/
end Go.Mid

end
