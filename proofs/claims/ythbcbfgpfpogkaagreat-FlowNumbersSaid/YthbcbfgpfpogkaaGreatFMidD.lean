/- Operations that only read: what the small machine answers, the model's run answers. -/
import Derived.Test.YthbcbfgpfpogkaaGreatFMidC
import Derived.Laws.Strings
import Derived.Laws.StructEq
set_option linter.all false
set_option warn.classDefReducibility false
namespace Go.Mid
open Go.RowKit
variable {P : Program}

theorem iEq_eq (a b : Int) : iEq a b = (a == b) := by
  cases a <;> cases b <;> first
    | (rename_i a b; show Nat.beq a b = _; rw [Bool.eq_iff_iff]; simp; done)
    | (rename_i a b; show Nat.beq a b = _; rw [Bool.eq_iff_iff]; simp; omega)
    | (show false = _; rw [Bool.eq_iff_iff]; simp; done)
    | (show false = _; rw [Bool.eq_iff_iff]; simp; omega)
theorem iLt_eq (a b : Int) : iLt a b = decide (a < b) := by
  cases a with
  | ofNat a => cases b with
    | ofNat b => show Nat.ble (a + 1) b = _; rw [Bool.eq_iff_iff]; simp; omega
    | negSucc b => show false = _; rw [Bool.eq_iff_iff]; simp; omega
  | negSucc a => cases b with
    | ofNat b => show true = _; rw [Bool.eq_iff_iff]; simp; omega
    | negSucc b => show Nat.ble (b + 1) a = _; rw [Bool.eq_iff_iff]; simp; omega
theorem not_iLt_le (a b : Int) : (!iLt b a) = decide (a ≤ b) := by
  rw [iLt_eq, Bool.eq_iff_iff]; simp
theorem fwrap_eq (k : IntKind) (n : Int) : fwrap k n = k.wrap n := by
  cases n with
  | ofNat m =>
    show (Bool.rec (motive := fun _ => Int) (k.wrap (.ofNat m)) (.ofNat m) (Nat.ble m (kTop k))) = _
    cases h : Nat.ble m (kTop k) with
    | false => rfl
    | true =>
      show Int.ofNat m = _
      have hle : m ≤ kTop k := Nat.le_of_ble_eq_true h
      cases k <;> simp only [kTop] at hle <;> simp only [IntKind.wrap, IntKind.bits, IntKind.signed] <;> simp <;> omega
  | negSucc m =>
    show (Bool.rec (motive := fun _ => Int) (k.wrap (.negSucc m)) (.negSucc m) (Bool.rec (motive := fun _ => Bool) false (Nat.ble m (kTop k)) (kSigned k))) = _
    have e : (Bool.rec (motive := fun _ => Bool) false (Nat.ble m (kTop k)) (kSigned k)) = (kSigned k && Nat.ble m (kTop k)) := by cases kSigned k <;> rfl
    rw [e]
    cases h : (kSigned k && Nat.ble m (kTop k)) with
    | false => rfl
    | true =>
      show Int.negSucc m = _
      simp only [Bool.and_eq_true] at h
      have hle : m ≤ kTop k := Nat.le_of_ble_eq_true h.2
      have hs := h.1
      cases k <;> simp only [kTop, kSigned] at hle hs <;> first | (cases hs; done) | (simp only [IntKind.wrap, IntKind.bits, IntKind.signed]; simp; omega)
theorem kEq_eq {a b : IntKind} (h : kEq a b = true) : a = b := by
  cases a <;> cases b <;> first | rfl | (simp [kEq, kNum] at h; done)
theorem u8_eq (a b : UInt8) : Nat.beq a.toNat b.toNat = (a == b) := by
  rw [Bool.eq_iff_iff]; simp [UInt8.toNat_inj]
theorem sLt_eq : ∀ (a b : List UInt8), sLt a b = Op.bytesLess a b
  | _, [] => by cases ‹List UInt8› <;> rfl
  | [], _ :: _ => rfl
  | a :: x, b :: y => by
    have h1 : Nat.blt a.toNat b.toNat = decide (a < b) := by rw [Bool.eq_iff_iff]; simp [Nat.blt, UInt8.lt_iff_toNat_lt]; omega
    rw [sLt, sLt_eq x y, u8_eq, h1, Op.bytesLess]
    by_cases h : a < b
    · simp [h]
    · by_cases e : a = b
      · subst e; simp
      · simp [h]
theorem bytesLess_tri : ∀ (a b : List UInt8), (Op.bytesLess a b || a == b) = !(Op.bytesLess b a)
  | [], [] => rfl
  | [], _ :: _ => rfl
  | _ :: _, [] => rfl
  | a :: x, b :: y => by
    have ih := bytesLess_tri x y
    have e1 : ((a :: x) == (b :: y)) = (a == b && x == y) := rfl
    rw [Op.bytesLess, Op.bytesLess, e1]
    rcases Nat.lt_trichotomy a.toNat b.toNat with h | h | h
    · have h1 : a < b := UInt8.lt_iff_toNat_lt.2 h
      have h2 : ¬ b < a := fun k => by have := UInt8.lt_iff_toNat_lt.1 k; omega
      have h3 : ¬ a = b := fun k => by subst k; omega
      have h4 : ¬ b = a := fun k => h3 k.symm
      simp [h1, h2, h4]
    · have h1 : a = b := UInt8.toNat_inj.1 h
      subst h1
      simpa using ih
    · have h1 : b < a := UInt8.lt_iff_toNat_lt.2 h
      have h2 : ¬ a < b := fun k => by have := UInt8.lt_iff_toNat_lt.1 k; omega
      have h3 : ¬ a = b := fun k => by subst k; omega
      simp [h1, h2, h3]

theorem intOp_sim {ρ : Rho} {op : BinOp} {k : IntKind} {x y : Int} {v : V} (h : intOp op k x y = some v) (hs : op ≠ .shl ∧ op ≠ .shr) (t : TypeId) (w : World) :
    ∃ r, (binOp op t (.int k x) (.int k y)).run P w = .ok r w ∧ Rel ρ v r := by
  cases op <;> simp only [intOp, opAdd, opSub, opMul, opQuo, opRem, opAnd, opOr, opXor, opAndNot, opEql, opNeq, opLss, opLeq, opGtr, opGeq, opNo, Option.some.injEq, reduceCtorEq, addF_eq, subF_eq] at h
  case add => subst h; refine ⟨.int k (k.wrap (x + y)), ?_, by rw [fwrap_eq]; exact .int _ _⟩; simp [binOp, Op.intArith]
  case sub => subst h; refine ⟨.int k (k.wrap (x - y)), ?_, by rw [fwrap_eq]; exact .int _ _⟩; simp [binOp, Op.intArith]
  case mul => subst h; refine ⟨.int k (k.wrap (x * y)), ?_, by rw [fwrap_eq]; exact .int _ _⟩; simp [binOp, Op.intArith]
  case quo =>
    cases hy : iEq y 0 with
    | true => simp [hy] at h
    | false =>
      simp only [hy, cond_false, Option.some.injEq] at h
      subst h
      rw [iEq_eq] at hy
      have hy0 : ¬ y = 0 := by simpa using hy
      refine ⟨.int k (k.wrap (x.tdiv y)), ?_, by rw [fwrap_eq]; exact .int _ _⟩; simp [binOp, Op.intDiv, hy0]
  case rem =>
    cases hy : iEq y 0 with
    | true => simp [hy] at h
    | false =>
      simp only [hy, cond_false, Option.some.injEq] at h
      subst h
      rw [iEq_eq] at hy
      have hy0 : ¬ y = 0 := by simpa using hy
      refine ⟨.int k (x.tmod y), ?_, .int _ _⟩; simp [binOp, Op.intDiv, hy0]
  case and => subst h; exact ⟨_, by simp only [binOp, Op.intBits, ne_eq, not_true_eq_false, if_false]; rfl, .int _ _⟩
  case or => subst h; exact ⟨_, by simp only [binOp, Op.intBits, ne_eq, not_true_eq_false, if_false]; rfl, .int _ _⟩
  case xor => subst h; exact ⟨_, by simp only [binOp, Op.intBits, ne_eq, not_true_eq_false, if_false]; rfl, .int _ _⟩
  case andNot => subst h; exact ⟨_, by simp only [binOp, Op.intBits, ne_eq, not_true_eq_false, if_false]; rfl, .int _ _⟩
  case eql => subst h; refine ⟨.bool (x == y), ?_, by rw [iEq_eq]; exact .bool _⟩; simp [binOp, Op.intCmp]
  case neq => subst h; refine ⟨.bool (x != y), ?_, by rw [iEq_eq]; exact .bool _⟩; simp [binOp, Op.intCmp]
  case lss => subst h; refine ⟨.bool (decide (x < y)), ?_, by rw [iLt_eq]; exact .bool _⟩; simp [binOp, Op.intCmp]
  case leq => subst h; refine ⟨.bool (decide (x ≤ y)), ?_, by rw [not_iLt_le]; exact .bool _⟩; simp [binOp, Op.intCmp]
  case gtr => subst h; refine ⟨.bool (decide (y < x)), ?_, by rw [iLt_eq]; exact .bool _⟩; simp [binOp, Op.intCmp]
  case geq => subst h; refine ⟨.bool (decide (y ≤ x)), ?_, by rw [not_iLt_le]; exact .bool _⟩; simp [binOp, Op.intCmp]
theorem shOp_sim {ρ : Rho} {op : BinOp} {k k' : IntKind} {x y : Int} {v : V} (h : shOp op k x y = some v) (t : TypeId) (w : World) :
    ∃ r, (binOp op t (.int k x) (.int k' y)).run P w = .ok r w ∧ Rel ρ v r := by
  unfold shOp at h
  cases hy : iLt y 0 with
  | true => simp [hy] at h
  | false =>
    simp only [hy, cond_false] at h
    rw [iLt_eq] at hy
    have hy0 : ¬ y < 0 := by simpa using hy
    cases op <;> simp only [Option.some.injEq, reduceCtorEq] at h <;> subst h
    · refine ⟨_, ?_, .int _ _⟩; simp only [binOp, Op.shift, if_neg hy0]; rfl
    · refine ⟨_, ?_, .int _ _⟩; simp only [binOp, Op.shift, if_neg hy0]; rfl
theorem strOp_sim {ρ : Rho} {op : BinOp} {X Y : Bs} {v : V} (h : strOp op X Y = some v) (t : TypeId) (w : World) :
    ∃ r, (binOp op t (.string ⟨⟨X.l⟩⟩) (.string ⟨⟨Y.l⟩⟩)).run P w = .ok r w ∧ Rel ρ v r := by
  have hcat := Bs.l_cat X Y
  have hln := Bs.l_len X
  have hrn := Bs.l_len Y
  obtain ⟨x, hX⟩ : ∃ x, X.l = x := ⟨_, rfl⟩
  obtain ⟨y, hY⟩ : ∃ y, Y.l = y := ⟨_, rfl⟩
  rw [hX, hY] at hcat
  rw [hX] at hln
  rw [hY] at hrn
  rw [hX, hY]
  have ex : (ByteArray.mk ⟨x⟩).toList = x := ByteArray.toList_eq _
  have ey : (ByteArray.mk ⟨y⟩).toList = y := ByteArray.toList_eq _
  have key : ∀ op, op ≠ .add → ∀ b, (op = .eql → b = (x == y)) → (op = .neq → b = !(x == y)) → (op = .lss → b = Op.bytesLess x y) → (op = .leq → b = (Op.bytesLess x y || x == y)) →
      (op = .gtr → b = !(Op.bytesLess x y || x == y)) → (op = .geq → b = !Op.bytesLess x y) → (op = .eql ∨ op = .neq ∨ op = .lss ∨ op = .leq ∨ op = .gtr ∨ op = .geq) →
      (binOp op t (.string ⟨⟨x⟩⟩) (.string ⟨⟨y⟩⟩)).run P w = .ok (.bool b) w := by
    intro op _ b h1 h2 h3 h4 h5 h6 h7
    rcases h7 with rfl | rfl | rfl | rfl | rfl | rfl
    · rw [h1 rfl]; simp only [binOp, Op.stringOp, ex, ey]; rfl
    · rw [h2 rfl]; simp only [binOp, Op.stringOp, ex, ey]; rfl
    · rw [h3 rfl]; simp only [binOp, Op.stringOp, ex, ey]; rfl
    · rw [h4 rfl]; simp only [binOp, Op.stringOp, ex, ey]; rfl
    · rw [h5 rfl]; simp only [binOp, Op.stringOp, ex, ey]; rfl
    · rw [h6 rfl]; simp only [binOp, Op.stringOp, ex, ey]; rfl
  have tri1 := bytesLess_tri x y
  have tri2 : Op.bytesLess y x = !(Op.bytesLess x y || x == y) := by rw [tri1, Bool.not_not]
  cases op <;> simp only [strOp, stAdd, stEql, stNeq, stLss, stLeq, stGtr, stGeq, stNo, Bs.eq_eq, hX, hY, Option.some.injEq, reduceCtorEq] at h
  case eql => subst h; exact ⟨_, key .eql (by simp) _ (fun _ => rfl) (by simp) (by simp) (by simp) (by simp) (by simp) (by simp), .bool _⟩
  case neq => subst h; exact ⟨_, key .neq (by simp) _ (by simp) (fun _ => rfl) (by simp) (by simp) (by simp) (by simp) (by simp), .bool _⟩
  case lss => subst h; exact ⟨_, key .lss (by simp) _ (by simp) (by simp) (fun _ => rfl) (by simp) (by simp) (by simp) (by simp), by rw [sLt_eq]; exact .bool _⟩
  case leq => subst h; exact ⟨_, key .leq (by simp) _ (by simp) (by simp) (by simp) (fun _ => rfl) (by simp) (by simp) (by simp), by rw [sLt_eq, tri1]; exact .bool _⟩
  case gtr => subst h; exact ⟨_, key .gtr (by simp) _ (by simp) (by simp) (by simp) (by simp) (fun _ => rfl) (by simp) (by simp), by rw [sLt_eq, tri2]; exact .bool _⟩
  case geq => subst h; exact ⟨_, key .geq (by simp) _ (by simp) (by simp) (by simp) (by simp) (by simp) (fun _ => rfl) (by simp), by rw [sLt_eq]; exact .bool _⟩
  case add =>
    cases hb : Nat.ble (X.n + Y.n) 4611686018427387904 with
    | false => simp [hb] at h
    | true =>
      simp only [hb, cond_true, Option.some.injEq] at h
      subst h
      have hle := Nat.le_of_ble_eq_true hb
      have hsz : ¬ (((ByteArray.mk ⟨x⟩).size + (ByteArray.mk ⟨y⟩).size : Nat) : Int) > IntKind.i64.max := by
        have e1 : (ByteArray.mk ⟨x⟩).size = x.length := rfl
        have e2 : (ByteArray.mk ⟨y⟩).size = y.length := rfl
        have e3 : IntKind.i64.max = 9223372036854775807 := rfl
        rw [e1, e2, e3]
        omega
      have happ : (ByteArray.mk ⟨x⟩ ++ ByteArray.mk ⟨y⟩) = ByteArray.mk ⟨x ++ y⟩ := by
        apply ByteArray.ext
        simp
      refine ⟨.string (ByteArray.mk ⟨x⟩ ++ ByteArray.mk ⟨y⟩), ?_, by rw [happ, ← hcat]; exact .str _⟩
      simp only [binOp, Op.stringOp]
      rw [if_neg hsz]
      rfl
theorem run_guard {op : BinOp} (t : TypeId) (ox oy : Operand) (x y : Value) (w : World) (h1 : ¬ (x = .nilIface ∧ y = .nilIface)) (h2 : ∀ c d, ¬ (x = .agg c ∧ y = .agg d)) :
    (eqGuard op t ox oy x y).run P w = .ok () w := by
  unfold eqGuard
  cases x <;> cases y <;> first
    | (exact absurd ⟨rfl, rfl⟩ h1)
    | (exact absurd ⟨rfl, rfl⟩ (h2 _ _))
    | (cases op <;> rfl)
theorem eqD_sim {ρ : Rho} {d : TypeDesc} {a b : V} {x y : Value} {r : Bool} (h : eqD d a b = some r) (ha : Rel ρ a x) (hb : Rel ρ b y) (t : TypeId) (hu : P.underlying t = some d) (w : World) :
    (Op.equal t x y).run P w = .ok r w ∧ ¬ (x = .nilIface ∧ y = .nilIface) ∧ (∀ c d, ¬ (x = .agg c ∧ y = .agg d)) ∧
      ((∃ p q, x = .bool p ∧ y = .bool q) ∨ (∃ p q, x = .pointer p ∧ y = .pointer q ∧ (p = none ∨ q = none)) ∨ (∃ p n c q m k, x = .slice p n c ∧ y = .slice q m k) ∨ (∃ p q, x = .map p ∧ y = .map q) ∨
        x = .nilFunc ∨ (y = .nilFunc ∧ ∃ f u v, x = .func f u v)) := by
  have key : ∀ q, (∀ n, (Op.equalIn (n + 1) t x y).run P w = .ok q w) → (Op.equal t x y).run P w = .ok q w := fun q e => e 9999
  cases d <;> cases ha <;> simp only [eqD, reduceCtorEq] at h <;> cases hb <;> simp only [Option.some.injEq, reduceCtorEq] at h <;> subst h <;>
    refine ⟨key _ fun n => ?_, by simp, by simp, by simp⟩ <;> simp only [Op.equalIn, Sem.run_bind, run_underlying hu, Result.andThen_ok, Sem.run_pure, Option.isNone]
theorem binV_sim {ρ : Rho} {op : BinOp} {a b v : V} {x y : Value} (t : TypeId) (h : binV (P.underlying t) op a b = some v) (ha : Rel ρ a x) (hb : Rel ρ b y) (ox oy : Operand) (w : World) :
    ∃ r, (do eqGuard op t ox oy x y; binOp op t x y : Sem Value).run P w = .ok r w ∧ Rel ρ v r := by
  have rest : ∀ d, P.underlying t = some d → eqOp op (eqD d a b) = some v → ∃ r, (do eqGuard op t ox oy x y; binOp op t x y : Sem Value).run P w = .ok r w ∧ Rel ρ v r := by
    intro d hu h
    cases he : eqD d a b with
    | none => cases op <;> simp [he, eqOp] at h
    | some q =>
      obtain ⟨h1, h2, h3, h4⟩ := eqD_sim he ha hb t hu w
      rw [Sem.run_bind, run_guard t ox oy _ _ w h2 h3, Result.andThen_ok]
      rw [he] at h
      have e : ∀ op, (op = .eql → (binOp op t x y).run P w = ((Op.equal t x y).run P w).andThen fun b w => .ok (.bool b) w) ∧ (op = .neq → (binOp op t x y).run P w = ((Op.equal t x y).run P w).andThen fun b w => .ok (.bool (!b)) w) := by
        intro op
        rcases h4 with ⟨p, q, rfl, rfl⟩ | ⟨p, q, rfl, rfl, _⟩ | ⟨p, n, c, q, m, k, rfl, rfl⟩ | ⟨p, q, rfl, rfl⟩ | rfl | ⟨rfl, f, u, v, rfl⟩
        · exact ⟨fun e => by subst e; simp only [binOp, Sem.run_bind, Sem.run_pure], fun e => by subst e; simp only [binOp, Sem.run_bind, Sem.run_pure]⟩
        · exact ⟨fun e => by subst e; simp only [binOp, Sem.run_bind, Sem.run_pure], fun e => by subst e; simp only [binOp, Sem.run_bind, Sem.run_pure]⟩
        · exact ⟨fun e => by subst e; simp only [binOp, Sem.run_bind, Sem.run_pure], fun e => by subst e; simp only [binOp, Sem.run_bind, Sem.run_pure]⟩
        · exact ⟨fun e => by subst e; simp only [binOp, Sem.run_bind, Sem.run_pure], fun e => by subst e; simp only [binOp, Sem.run_bind, Sem.run_pure]⟩
        · cases y <;> exact ⟨fun e => by subst e; simp only [binOp, Sem.run_bind, Sem.run_pure], fun e => by subst e; simp only [binOp, Sem.run_bind, Sem.run_pure]⟩
        · exact ⟨fun e => by subst e; simp only [binOp, Sem.run_bind, Sem.run_pure], fun e => by subst e; simp only [binOp, Sem.run_bind, Sem.run_pure]⟩
      cases op <;> simp only [eqOp, Option.some.injEq, reduceCtorEq] at h <;> subst h
      · refine ⟨.bool q, ?_, .bool _⟩
        rw [(e .eql).1 rfl, h1]; rfl
      · refine ⟨.bool (!q), ?_, .bool _⟩
        rw [(e .neq).2 rfl, h1]; rfl
  have rest' : eqAny (P.underlying t) op a b = some v → ∃ r, (do eqGuard op t ox oy x y; binOp op t x y : Sem Value).run P w = .ok r w ∧ Rel ρ v r := by
    intro h
    cases hu : P.underlying t with
    | none => simp [hu, eqAny] at h
    | some d => simp only [hu, eqAny] at h; exact rest d hu h
  cases ha with
  | int k n =>
    cases hb <;> simp only [binV, reduceCtorEq] at h
    rename_i k' m
    rw [Sem.run_bind, run_guard t ox oy _ _ w (by simp) (by simp), Result.andThen_ok]
    cases hs : shiftB op with
    | true =>
      simp only [hs, cond_true] at h
      exact shOp_sim h t w
    | false =>
      have hs' : op ≠ .shl ∧ op ≠ .shr := ⟨fun e => by subst e; simp [shiftB] at hs, fun e => by subst e; simp [shiftB] at hs⟩
      simp only [hs, cond_false] at h
      cases hk : kEq k k' with
      | false => simp [hk] at h
      | true =>
        have := kEq_eq hk
        subst this
        simp only [hk, cond_true] at h
        exact intOp_sim h hs' t w
  | str a =>
    cases hb <;> simp only [binV, reduceCtorEq] at h
    rw [Sem.run_bind, run_guard t ox oy _ _ w (by simp) (by simp), Result.andThen_ok]
    exact strOp_sim h t w
  | _ => exact rest' h
theorem unV_sim {ρ : Rho} {op : UnOp} {a v : V} {x : Value} (h : unV op a = some v) (ha : Rel ρ a x) (w : World) : ∃ r, (Op.unary op x).run P w = .ok r w ∧ Rel ρ v r := by
  cases ha <;> cases op <;> simp only [unV, Option.some.injEq, reduceCtorEq] at h <;> subst h
  · exact ⟨_, rfl, .bool _⟩
  · rename_i k n
    refine ⟨.int k (k.wrap (0 - n)), ?_, by rw [fwrap_eq]; exact .int _ _⟩
    rfl
end Go.Mid
