import Derived.Test.YtgajpiaajkbilaaWRW7
set_option linter.all false
open Go Go.Mid Go.Proofs
set_option maxRecDepth 100000
set_option linter.unusedVariables false
namespace Go.RW
structure Pr where
  params : Int
  more : Bool
  slots : Int
  boxes : V
  ups : V
  stmts : V
  exprs : V
  start : Int
def Pr.cells (p : Pr) : List V := [.int .i64 p.params, .bool p.more, .int .i64 p.slots, p.boxes, p.ups, p.stmts, p.exprs, .int .i64 p.start]
structure Pr.Ok (h0 : Hp) (p : Pr) : Prop where
  boxes : SlV 1 (BoolAt h0) p.boxes
  ups : SlV 2 (UpAt h0) p.ups
  stmts : SlV 7 (StmtAt h0) p.stmts
  exprs : SlV 3 (ExprAt h0) p.exprs
theorem ProtoAt.get {h0 : Hp} {b o : Nat} (h : ProtoAt h0 b o) : ∃ p : Pr, h0.cells b o 8 = some p.cells ∧ p.Ok h0 := by
  obtain ⟨⟨a, c0⟩, ⟨m, c1⟩, ⟨s, c2⟩, ⟨bx, c3, v3⟩, ⟨up, c4, v4⟩, ⟨st, c5, v5⟩, ⟨ex, c6, v6⟩, ⟨x, c7⟩⟩ := h
  exact ⟨⟨a, m, s, bx, up, st, ex, x⟩, cells_cons c0 (cells_cons c1 (cells_cons c2 (cells_cons c3 (cells_cons c4 (cells_cons c5 (cells_cons c6 (cells_cons c7 rfl))))))), ⟨v3, v4, v5, v6⟩⟩
theorem Pr.one {h0 : Hp} {p : Pr} (h : p.Ok h0) : allOne p.cells = true := by
  simp only [Pr.cells, allOne, slV_one h.boxes, slV_one h.ups, slV_one h.stmts, slV_one h.exprs]; rfl
structure PB (h0 h : Hp) (pb : Nat) (strs protos : V) : Prop where
  w : h0.Wf
  k : Kp no h0 h
  lt : pb < h.n
  c0 : h.cell pb (0 + 0) = some strs
  c1 : h.cell pb (0 + 1) = some protos
  s0 : SlV 1 (StrAt h0) strs
  s1 : SlV 8 (ProtoAt h0) protos
theorem PB.kp {h0 h h' : Hp} {pb : Nat} {strs protos : V} (x : PB h0 h pb strs protos) (k : Kp no h h') : PB h0 h' pb strs protos :=
  ⟨x.w, x.k.then k, Nat.lt_of_lt_of_le x.lt k.n, by rw [k.cell0 x.lt]; exact x.c0, by rw [k.cell0 x.lt]; exact x.c1, x.s0, x.s1⟩
theorem PB.mk' {h0 h : Hp} (w : h0.Wf) (k : Kp no h0 h) {strs protos : V} (s0 : SlV 1 (StrAt h0) strs) (s1 : SlV 8 (ProtoAt h0) protos) (e : Nat) : PB h0 (h.newRow e (vcells (.agg [strs, protos])) false) h.n strs protos :=
  ⟨w, k.newRow _ _ _, by rw [newRow_n]; omega, by rw [newRow_cell, if_pos rfl]; rfl, by rw [newRow_cell, if_pos rfl]; rfl, s0, s1⟩
def SmallP (p : Pr) : Prop := slLen p.stmts ≤ 6000 ∧ slLen p.exprs ≤ 6000 ∧ slLen p.ups ≤ 6000
def SmallAt (h0 : Hp) (b o : Nat) : Prop := ∀ p : Pr, h0.cells b o 8 = some p.cells → SmallP p
theorem Pr.cells_inj {p q : Pr} (h : p.cells = q.cells) : p = q := by
  cases p; cases q; simp only [Pr.cells] at h; simp at h; simp [h]
def QSz (P : Prop) (v : V) (_ : Hp) : Prop := ∃ r, v = .int .i64 r ∧ (r ≤ 6000 → P)
theorem loop15 {h0 : Hp} {strs : V} {b o n c : Nat} (hn : n ≤ 9223372036854775807) (hE : ∀ i, i < n → ProtoAt h0 b (o + i * 8)) :
    ∀ m i : Nat, i + m = n → (∀ j, j < i → SmallAt h0 b (o + j * 8)) → ∀ (acc : Int) (h : Hp) (pb : Nat), PB h0 h pb strs (.slice b o n c false) →
      Ret h no (QSz (∀ j, j < n → SmallAt h0 b (o + j * 8))) (M 15 [.ptr pb 0, .int .i64 acc, .int .i64 (i : Nat)] h)
  | 0, i, hi, hlo, acc, h, pb, x => by
    obtain ⟨u, h', e, q, k'⟩ : Ret h no (QSz (∀ j, j < n → SmallAt h0 b (o + j * 8))) (B15 M (.ptr pb 0) (.int .i64 acc) (.int .i64 (i : Nat)) h) := by
      unfold B15
      rw [addr_at]
      refine Ret.load1 x.c1 ?_
      rw [slV_len x.s1]
      refine Ret.lss (fun hlt => by simp only [slLen] at hlt; omega) (fun _ => ?_)
      simp only [guard_ft, pick_f, ifS_false]
      exact Ret.done ⟨acc, rfl, fun _ j hj => hlo j (by omega)⟩ (Kp.refl _ _)
    exact ⟨u, h', F15 fnA e, q, k'⟩
  | m + 1, i, hi, hlo, acc, h, pb, x => by
    obtain ⟨u, h', e, q, k'⟩ : Ret h no (QSz (∀ j, j < n → SmallAt h0 b (o + j * 8))) (B15 M (.ptr pb 0) (.int .i64 acc) (.int .i64 (i : Nat)) h) := by
      unfold B15
      rw [addr_at]
      refine Ret.load1 x.c1 ?_
      rw [slV_len x.s1]
      refine Ret.lss (fun hlt => ?_) (fun hge => by simp only [slLen] at hge; omega)
      simp only [guard_tt, bindS_at, bind_intS]
      refine Ret.leq (fun h6 => ?_) fun h6 => ?h2
      case h2 =>
        simp only [bindS_at, pick_t, ifS_false]
        exact Ret.done ⟨acc, rfl, fun h => by simp only [Int.ofNat_eq_natCast] at *; omega⟩ (Kp.refl _ _)
      simp only [bindS_at, pick_t, ifS_true]
      rw [addr_at]
      refine Ret.load1 x.c1 ?_
      refine Ret.idx (by omega) ?_
      obtain ⟨p, hp, ok⟩ := (hE i (by omega)).get
      refine Ret.loadN (by decide) (cells_old x.w x.k hp) ?_
      refine Ret.box (by decide) rfl rfl (Pr.one ok) fun H hHn hHc kH => ?_
      have g : ∀ z, H.cell h.n z = p.cells[z]? := fun z => by rw [hHc, if_pos rfl]
      have g4 : H.cell h.n (0 + 4) = some p.ups := g 4
      have g5 : H.cell h.n (0 + 5) = some p.stmts := g 5
      have g6 : H.cell h.n (0 + 6) = some p.exprs := g 6
      have y := x.kp kH
      have fin : SmallP p → ∀ a, Ret H no (QSz (∀ j, j < n → SmallAt h0 b (o + j * 8))) (M 15 [.ptr pb 0, .int .i64 a, .int .i64 ((i + 1 : Nat) : Int)] H) := fun hs a =>
        loop15 hn hE m (i + 1) (by omega) (fun j hj => by
          by_cases e : j = i
          · subst e
            intro q hq
            rw [hp] at hq
            cases Pr.cells_inj (Option.some.inj hq)
            exact hs
          · exact hlo j (by omega)) a H pb y
      clear hHc kH g y
      repeat' (first
        | exact Ret.done ⟨_, rfl, fun h => by simp only [Int.ofNat_eq_natCast] at *; omega⟩ (Kp.refl _ _)
        | simp only [ifS_true, ifS_false, guard_tt, guard_ft, guard_tf, guard_ff, guard_u, bind_bind, bind_addr, bind_load1, bind_loadN, bind_intS, bind_nilS, bind_lenSl, bind_idxS, bind_idxP, bind_notS, bind_optS, bindS_at, addr_at, nil_ptr, not_at, pick_t, pick_f, Bool.not_true, Bool.not_false]
        | refine Ret.load1 g4 ?_
        | refine Ret.load1 g5 ?_
        | refine Ret.load1 g6 ?_
        | rw [slV_len ok.ups]
        | rw [slV_len ok.stmts]
        | rw [slV_len ok.exprs]
        | (with_reducible refine Ret.gtr (fun _ => ?_) fun _ => ?_))
      simp only [intS_at, int_add, optS_at]
      rw [wrap64 (n := (i : Int) + Int.ofNat 1) (by simp; omega) (by simp; omega)]
      exact fin ⟨by simp only [Int.ofNat_eq_natCast] at *; omega, by simp only [Int.ofNat_eq_natCast] at *; omega, by simp only [Int.ofNat_eq_natCast] at *; omega⟩ _
    exact ⟨u, h', F15 fnA e, q, k'⟩
def Small (h0 : Hp) (protos : V) : Prop := slLen protos ≤ 300 ∧ ∀ b o n c, protos = .slice b o n c false → ∀ j, j < n → SmallAt h0 b (o + j * 8)
theorem size_ret {h0 h : Hp} (w : h0.Wf) (k : Kp no h0 h) {strs protos : V} (s0 : SlV 1 (StrAt h0) strs) (s1 : SlV 8 (ProtoAt h0) protos) :
    Ret h no (QSz (Small h0 protos)) (M 20 [.agg [strs, protos]] h) := by
  obtain ⟨u, h', e, q, k'⟩ : Ret h no (QSz (Small h0 protos)) (B20 M (.agg [strs, protos]) h) := by
    unfold B20
    refine Ret.row ?_
    have x := PB.mk' w k s0 s1 26
    generalize h.newRow 26 (vcells (.agg [strs, protos])) false = H at x
    have fin : slLen protos ≤ 300 → ∀ a, Ret H no (QSz (Small h0 protos)) (M 15 [.ptr h.n 0, .int .i64 a, .int .i64 ((0 : Nat) : Int)] H) := fun hs a => by
      rcases s1 with e | ⟨b, o, n, c, e, hn, hE⟩
      · subst e
        obtain ⟨u, h', e, q, k'⟩ : Ret H no (QSz (Small h0 .nilSlice)) (B15 M (.ptr h.n 0) (.int .i64 a) (.int .i64 ((0 : Nat) : Int)) H) := by
          unfold B15
          rw [addr_at]
          refine Ret.load1 x.c1 ?_
          rw [slV_len x.s1]
          refine Ret.lss (fun hlt => by simp only [slLen] at hlt; omega) (fun _ => ?_)
          simp only [guard_ft, pick_f, ifS_false]
          exact Ret.done ⟨a, rfl, fun _ => ⟨Nat.zero_le _, fun _ _ _ _ h => by cases h⟩⟩ (Kp.refl _ _)
        exact ⟨u, h', F15 fnA e, q, k'⟩
      · subst e
        refine Ret.mono (loop15 hn hE n 0 (by omega) (fun j hj => by omega) a H h.n x) ?_
        rintro v h' ⟨r, rfl, hr⟩
        exact ⟨r, rfl, fun h => ⟨hs, fun _ _ _ _ e j hj => by cases e; exact hr h j hj⟩⟩
    repeat' (first
      | exact Ret.done ⟨_, rfl, fun h => by simp only [Int.ofNat_eq_natCast] at *; omega⟩ (Kp.refl _ _)
      | simp only [ifS_true, ifS_false, guard_tt, guard_ft, guard_tf, guard_ff, guard_u, bind_bind, bind_addr, bind_load1, bind_loadN, bind_intS, bind_nilS, bind_lenSl, bind_idxS, bind_idxP, bind_notS, bind_optS, bindS_at, addr_at, nil_ptr, not_at, pick_t, pick_f, Bool.not_true, Bool.not_false]
      | refine Ret.load1 x.c0 ?_
      | refine Ret.load1 x.c1 ?_
      | rw [slV_len s0]
      | rw [slV_len s1]
      | (with_reducible refine Ret.gtr (fun _ => ?_) fun _ => ?_))
    simp only [intS_at, int_add, int_mul, optS_at]
    exact fin (by simp only [Int.ofNat_eq_natCast] at *; omega) _
  exact ⟨u, h', F20 fnA (fun _ _ => rfl) e, q, k'⟩
end Go.RW
