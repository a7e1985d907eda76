import Derived.Test.YtgajpiaajkbilaaWRW6
set_option linter.all false
open Go Go.Mid Go.Proofs
set_option maxRecDepth 100000
set_option linter.unusedVariables false
namespace Go.RW
def RightOk (h0 : Hp) (l : Lk) (boxes : V) (start : Int) : Prop := (start = -1 ∨ (0 ≤ start ∧ start < (slLen l.stmts : Int))) ∧ (slLen boxes : Int) = l.slots ∧ StsOk h0 l.stmts ∧ ExsOk h0 (slLen l.protos) l.exprs
theorem right_ret {h0 h : Hp} (w : h0.Wf) (k : Kp no h0 h) {lb ub : Nat} {l : Lk} (hl : LK h0 h lb l) (us : US h lb ub (slLen l.exprs)) (hnew : h0.n ≤ ub) {params start : Int} {boxes : V}
    (c2 : h.cell lb 2 = some (.int .i64 params)) (c5 : h.cell lb 5 = some boxes) (hb : SlV 1 (BoolAt h0) boxes) (c9 : h.cell lb 9 = some (.int .i64 start)) :
    Ret h (· = ub) (isBP fun r => r = true → RightOk h0 l boxes start) (M 32 [.ptr lb 0] h) := by
  obtain ⟨u, h', e, q, k'⟩ : Ret h (· = ub) (isBP fun r => r = true → RightOk h0 l boxes start) (B32 M (.ptr lb 0) h) := by
    unfold B32
    rw [nil_ptr, addr_at]
    refine Ret.loadN (by decide) (cells_cons c2 (cells_cons hl.c3 (cells_cons hl.c4 (cells_cons c5 (cells_cons hl.c6 (cells_cons hl.c7 (cells_cons hl.c8 (cells_cons c9 rfl)))))))) ?_
    refine Ret.box (by decide) rfl rfl (by simp only [allOne, slV_one hb, slV_one hl.s6, slV_one hl.s7, slV_one hl.s8]; rfl) fun H hHn hHc kH => ?_
    have hw : H.n = h.n + 1 := hHn
    have g : ∀ z, H.cell h.n z = [V.int .i64 params, .bool l.more, .int .i64 l.slots, boxes, l.ups, l.stmts, l.exprs, .int .i64 start][z]? := fun z => by rw [hHc, if_pos rfl]
    have g0 : H.cell h.n (0 + 0) = some (.int .i64 params) := g 0
    have g2 : H.cell h.n (0 + 2) = some (.int .i64 l.slots) := g 2
    have g3 : H.cell h.n (0 + 3) = some (boxes) := g 3
    have g4 : H.cell h.n (0 + 4) = some (l.ups) := g 4
    have g5 : H.cell h.n (0 + 5) = some (l.stmts) := g 5
    have g6 : H.cell h.n (0 + 6) = some (l.exprs) := g 6
    have g7 : H.cell h.n (0 + 7) = some (.int .i64 start) := g 7
    have x : RS h0 H lb h.n ub l := ⟨w, k.then kH, hl.kp kH, us.kp hl.lt kH, by omega, by have := us.lt; omega, hnew, g 5, g 6⟩
    have fin : (start = -1 ∨ (0 ≤ start ∧ start < (slLen l.stmts : Int))) ∧ (slLen boxes : Int) = l.slots → Ret H (· = ub) (isBP fun r => r = true → RightOk h0 l boxes start) (M 17 [V.ptr lb 0, V.ptr h.n 0, l.exprs, V.int IntKind.i64 (slLen l.exprs : Nat), V.int IntKind.i64 (Int.ofNat 0)] H) := fun hs => by
      refine Ret.mono (run17 x) ?_
      rintro v h' ⟨r, rfl, hr⟩
      exact ⟨r, rfl, fun h => ⟨hs.1, hs.2, hr h⟩⟩
    clear hHc kH g x
    repeat' (first
      | exact Ret.boolP (fun h => (Bool.false_ne_true h).elim) (Kp.refl _ _)
      | simp only [ifS_true, ifS_false, guard_tt, guard_ft, guard_tf, guard_ff, guard_u, bind_bind, bind_addr, bind_load1, bind_loadN, bind_intS, bind_nilS, bind_lenSl, bind_idxS, bind_idxP, bind_notS, bind_optS, bindS_at, addr_at, nil_ptr, not_at, pick_t, pick_f, Bool.not_true, Bool.not_false]
      | refine Ret.load1 g0 ?_
      | refine Ret.load1 g2 ?_
      | refine Ret.load1 g3 ?_
      | refine Ret.load1 g4 ?_
      | refine Ret.load1 g5 ?_
      | refine Ret.load1 g6 ?_
      | refine Ret.load1 g7 ?_
      | rw [slV_len hb]
      | rw [slV_len hl.s6]
      | rw [slV_len hl.s7]
      | rw [slV_len hl.s8]
      | (with_reducible refine Ret.within (fun _ => ?_) fun _ => ?_)
      | (with_reducible refine Ret.eql (fun _ => ?_) fun _ => ?_)
      | (with_reducible refine Ret.neq (fun _ => ?_) fun _ => ?_)
      | (with_reducible refine Ret.gtr (fun _ => ?_) fun _ => ?_)
      | (rw [intS_at, int_add, optS_at]))
    all_goals exact fin (by have e1 : Int.negSucc 0 = -1 := rfl; simp only [e1, Int.ofNat_eq_natCast] at *; omega)
  exact ⟨u, h', F32 fnA (fun _ _ => rfl) e, q, k'⟩
end Go.RW
