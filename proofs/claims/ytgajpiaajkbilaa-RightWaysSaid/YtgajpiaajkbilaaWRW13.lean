import Derived.Test.YtgajpiaajkbilaaWRW12
set_option linter.all false
open Go Go.Mid Go.Proofs
set_option maxRecDepth 100000
set_option linter.unusedVariables false
namespace Go.RW
theorem awake_at (h : Hp) : M 18 [] h = some (.bool true, h) :=
  @lim_ent Try.prog (orc fnA) labs 18 (fun _ vs h => fnA 9 vs h) (@entO Try.prog (orc fnA) labs 9 _ fun _ vs h p e => e) [] h _ rfl
def isT (v : V) (_ : Hp) : Prop := v = .bool true
theorem true_ret (h : Hp) : Ret h no isT (bindS (M 18 [] h) fun v h => some (v, h)) := by
  rw [awake_at, bindS_at]
  exact Ret.done rfl (Kp.refl _ _)
theorem loop1 {h0 : Hp} (w : h0.Wf) {cs : V} (hcs : SlV 1 (BoolAt h0) cs) {p : Pr} (okp : p.Ok h0) (hst : StsOk h0 p.stmts) :
    ∀ m i : Nat, i + m = 300 → ∀ (nx : Int) (h : Hp) (fb : Nat), Kp no h0 h → fb < h.n → h.cell fb (0 + 5) = some p.stmts → (nx = -1 ∨ (0 ≤ nx ∧ nx < (slLen p.stmts : Int))) →
      Ret h no isT (M 1 [cs, .ptr fb 0, .int .i64 nx, .int .i64 (i : Nat)] h)
  | 0, i, hi, nx, h, fb, k, hfb, hc, hx => by
    obtain ⟨u, h', e, q, k'⟩ : Ret h no isT (B1 M cs (.ptr fb 0) (.int .i64 nx) (.int .i64 (i : Nat)) h) := by
      unfold B1
      refine Ret.lss (fun hlt => by simp only [Int.ofNat_eq_natCast] at hlt; omega) (fun _ => ?_)
      simp only [guard_ft, pick_f, ifS_false]
      exact true_ret h
    exact ⟨u, h', F1 fnA e, q, k'⟩
  | m + 1, i, hi, nx, h, fb, k, hfb, hc, hx => by
    obtain ⟨u, h', e, q, k'⟩ : Ret h no isT (B1 M cs (.ptr fb 0) (.int .i64 nx) (.int .i64 (i : Nat)) h) := by
      unfold B1
      refine Ret.lss (fun hlt => ?_) (fun hge => by simp only [Int.ofNat_eq_natCast] at hge; omega)
      simp only [guard_tt, bindS_at, bind_intS]
      refine Ret.neq (fun hne => ?_) fun _ => ?h2
      case h2 =>
        simp only [bindS_at, pick_t, ifS_false]
        exact true_ret h
      have hr : 0 ≤ nx ∧ nx < (slLen p.stmts : Int) := by
        rcases hx with e | e
        · exact absurd e hne
        · exact e
      simp only [bindS_at, pick_t, ifS_true]
      refine Ret.lss (fun hlt => by simp only [Int.ofNat_eq_natCast] at hlt; omega) (fun _ => ?_)
      simp only [guard_ff, bindS_at, bind_intS, bind_addr, bind_load1, bind_lenSl, addr_at]
      refine Ret.load1 hc ?_
      rw [slV_len okp.stmts]
      refine Ret.geq (fun hge => by omega) fun _ => ?_
      simp only [bindS_at, pick_f, ifS_false]
      refine Ret.load1 hc ?_
      obtain ⟨b, o, n, c, es, hj, ⟨⟨kd, c0⟩, ⟨slots, c1, v1⟩, ⟨targets, c2, v2⟩, ⟨exprs, c3, v3⟩, ⟨next, c4⟩, ⟨els, c5⟩, ⟨line, c6⟩⟩⟩ := slV_at okp.stmts hr.1 hr.2
      have hok := hst b o n c es _ hj
      have hsl : slLen p.stmts = n := by rw [es]; rfl
      rw [hsl] at hr
      have hnx := hok.1 next c4
      have hel := hok.2 kd els c0 c5
      have stp : ∀ (z : Int) (H : Hp), Kp no h H → (z = -1 ∨ (0 ≤ z ∧ z < (n : Int))) → Ret H no isT (M 3 [cs, .ptr fb 0, .int .i64 z, .int .i64 (i : Nat)] H) := fun z H kH hz => by
        obtain ⟨u, h', e, q, k'⟩ : Ret H no isT (B3 M cs (.ptr fb 0) (.int .i64 z) (.int .i64 (i : Nat)) H) := by
          unfold B3
          rw [intS_at, int_add, optS_at, wrap64 (n := (i : Int) + Int.ofNat 1) (by simp; omega) (by simp; omega)]
          exact loop1 w hcs okp hst m (i + 1) (by omega) z H fb (k.then kH) (Nat.lt_of_lt_of_le hfb kH.n) (by rw [kH.cell0 hfb]; exact hc) (by rw [hsl]; exact hz)
        exact ⟨u, h', F3 fnA e, q, k'⟩
      rw [es]
      refine Ret.idxI hr.1 hr.2 ?_
      refine Ret.loadN (by decide) (cells_old w k (cells_cons c0 (cells_cons c1 (cells_cons c2 (cells_cons c3 (cells_cons c4 (cells_cons c5 (cells_cons c6 rfl)))))))) ?_
      refine Ret.box (by decide) rfl rfl (by simp only [allOne, slV_one v1, slV_one v2, slV_one v3]; rfl) fun H hHn hHc kH => ?_
      have g0 : H.cell h.n (0 + 0) = some (.int .u8 kd) := by rw [hHc, if_pos rfl]; rfl
      have g4 : H.cell h.n (0 + 4) = some (.int .i64 next) := by rw [hHc, if_pos rfl]; rfl
      have g5 : H.cell h.n (0 + 5) = some (.int .i64 els) := by rw [hHc, if_pos rfl]; rfl
      have kk := k.then kH
      have s1 := stp next H kH hnx
      have s2 : (kd = 4 ∨ kd = 6 ∨ kd = 8) → Ret H no isT (M 3 [cs, .ptr fb 0, .int .i64 els, .int .i64 (i : Nat)] H) := fun h => stp els H kH (hel h)
      have end1 : (kd = 4 ∨ kd = 6 ∨ kd = 8) → Ret H no isT
          (lenSl cs fun v110 => intS .gtr v110 (.int .i64 (.ofNat 0)) fun v113 => bindS (some (v113, H)) fun v114 h115 =>
            optS (pickV (.bool true) v114 (.bool false)) fun v116 =>
            guardS v116 true (some (cs, h115)) h115 fun v117 h118 =>
            guardS v116 true (some (.int .i64 (i : Nat), h118)) h118 fun v119 h120 =>
            guardS v116 true (some (cs, h120)) h120 fun v121 h122 =>
            guardS v116 true (lenSl v121 fun v123 => some (v123, h122)) h122 fun v124 h125 =>
            guardS v116 true (intS .rem v119 v124 fun v126 => some (v126, h125)) h125 fun v127 h128 =>
            guardS v116 true (idxS 1 v117 v127 fun v129 => some (v129, h128)) h128 fun v130 h131 =>
            guardS v116 true (load1 v130 h131 fun v132 => some (v132, h131)) h131 fun v133 h134 =>
            optS (pickV v116 v133 (.bool false)) fun v135 =>
            ifS v135 (load1 (.ptr h.n (0 + 5)) h134 fun v137 => M 3 [cs, .ptr fb 0, v137, .int .i64 (i : Nat)] h134) (M 3 [cs, .ptr fb 0, .int .i64 next, .int .i64 (i : Nat)] h134)) := fun hkd => by
        rw [slV_len hcs]
        refine Ret.gtr (fun hp => ?_) fun _ => ?_
        · simp only [bindS_at, pick_t, guard_tt]
          rw [slV_len hcs, bindS_at]
          have hm0 : ((i : Int).tmod (slLen cs : Int)) = ((i % slLen cs : Nat) : Int) := rfl
          have hlt : i % slLen cs < slLen cs := Nat.mod_lt _ (by simp only [Int.ofNat_eq_natCast] at hp; omega)
          rw [intS_at, int_rem _ _ _ (by simp only [Int.ofNat_eq_natCast] at hp; omega), optS_at, bindS_at, hm0]
          obtain ⟨cb, co, cn, cc, ec, hcj, ⟨bv, hbv⟩⟩ := slV_at hcs (i := ((i % slLen cs : Nat) : Int)) (by omega) (by omega)
          rw [Int.toNat_natCast] at hcj hbv
          generalize i % slLen cs = j at hcj hbv
          rw [ec]
          simp only [bind_idxS]
          refine Ret.idx hcj ?_
          simp only [bindS_at, bind_load1]
          refine Ret.load1 (kk.old w hbv) ?_
          rw [← ec]
          cases bv
          · rw [ifS_false]; exact s1
          · rw [ifS_true]
            exact Ret.load1 g5 (s2 hkd)
        · simp only [bindS_at, pick_t, guard_ft, pick_f, ifS_false]
          exact s1
      clear stp hHc kH kk s2
      rw [addr_at]
      refine Ret.load1 g0 ?_
      refine Ret.eql (fun hk => ?_) fun _ => ?_
      · simp only [guard_tf, guard_tt, pick_t, addr_at]
        refine Ret.load1 g4 ?_
        simp only [bindS_at, bind_lenSl, bind_intS]
        exact end1 (.inl hk)
      simp only [guard_ff, bindS_at, bind_addr, bind_load1, bind_intS, addr_at]
      refine Ret.load1 g0 ?_
      refine Ret.eql (fun hk => ?_) fun _ => ?_
      · simp only [bindS_at, pick_f, guard_tf, guard_tt, pick_t, addr_at]
        refine Ret.load1 g4 ?_
        simp only [bindS_at, bind_lenSl, bind_intS]
        exact end1 (.inr (.inl hk))
      simp only [bindS_at, pick_f, guard_ff, bind_addr, bind_load1, bind_intS, addr_at]
      refine Ret.load1 g0 ?_
      refine Ret.eql (fun hk => ?_) fun _ => ?_
      · simp only [bindS_at, pick_f, guard_tf, guard_tt, pick_t, addr_at]
        refine Ret.load1 g4 ?_
        simp only [bindS_at, bind_lenSl, bind_intS]
        exact end1 (.inr (.inr hk))
      · simp only [bindS_at, pick_f, guard_ft, addr_at]
        refine Ret.load1 g4 ?_
        simp only [ifS_false]
        exact s1
    exact ⟨u, h', F1 fnA e, q, k'⟩
/-- the law itself. -/
theorem ways_ret {h0 h : Hp} (w : h0.Wf) (k : Kp no h0 h) {strs protos cs : V} (s0 : SlV 1 (StrAt h0) strs) (s1 : SlV 8 (ProtoAt h0) protos) (hcs : SlV 1 (BoolAt h0) cs) (at' : Int) :
    Ret h no isT (M 8 [.agg [strs, protos], .int .i64 at', cs] h) := by
  obtain ⟨u, h', e, q, k'⟩ : Ret h no isT (B8 M (.agg [strs, protos]) (.int .i64 at') cs h) := by
    unfold B8
    refine Ret.row ?_
    have x := PB.mk' w k s0 s1 26
    generalize h.newRow 26 (vcells (.agg [strs, protos])) false = H at x
    refine Ret.loadN (by decide) (cells2 x.c0 x.c1) ?_
    refine Ret.step (size_ret x.w x.k x.s0 x.s1) fun v H2 hv k2 => ?_
    obtain ⟨r, rfl, hr⟩ := hv
    replace x := x.kp k2
    refine Ret.gtr (fun _ => ?_) fun h6 => ?_
    · simp only [guard_tf, pick_t, ifS_true]
      exact true_ret H2
    have sm : Small h0 protos := hr (by simp only [Int.ofNat_eq_natCast] at h6; omega)
    simp only [guard_ff, bindS_at, bind_loadN, bind_bind, bind_notS]
    refine Ret.loadN (by decide) (cells2 x.c0 x.c1) ?_
    refine Ret.stepP (prog_ret x.w x.k x.s0 x.s1 sm) fun r3 H3 hr3 k3 => ?_
    replace x := x.kp k3
    simp only [bindS_at, not_at, pick_f]
    cases r3
    · simp only [Bool.not_false, ifS_true]
      exact true_ret H3
    obtain ⟨hpos, hall⟩ := hr3 rfl
    simp only [Bool.not_true, ifS_false]
    have out : ¬ (0 ≤ at' ∧ at' < (slLen protos : Int)) → Ret H3 no isT (loadN 2 (.ptr h.n 0) H3 fun v35 =>
        bindS (M 22 [v35, .int .i64 at'] H3) fun v36 h37 =>
        notS v36 fun v38 =>
        guardS v38 true (bindS (M 18 [] h37) fun v39 h40 =>
        some (v39, h40)) h37 fun v41 h42 =>
        optS (pickV v38 v41 (.bool false)) fun v43 =>
        some (v43, h42)) := fun hno => by
      refine Ret.loadN (by decide) (cells2 x.c0 x.c1) ?_
      refine Ret.stepP (proto_ret x.w x.k x.s0 x.s1 sm at') fun r4 H4 hr4 k4 => ?_
      rw [not_at]
      cases r4
      · simp only [Bool.not_false, guard_tt, awake_at, bindS_at, pick_t]
        exact Ret.done rfl (Kp.refl _ _)
      · exact absurd (hr4 rfl).1 hno
    refine Ret.lss (fun hlt => ?_) fun hge0 => ?_
    · simp only [guard_tf, pick_t, ifS_true]
      exact out (by simp only [Int.ofNat_eq_natCast] at hlt; omega)
    simp only [guard_ff, bindS_at, bind_addr, bind_load1, bind_lenSl, bind_intS, addr_at, pick_f]
    refine Ret.load1 x.c1 ?_
    rw [slV_len x.s1]
    refine Ret.geq (fun hge => ?_) fun hlt => ?_
    · simp only [bindS_at, pick_f, ifS_true]
      exact out (by omega)
    simp only [bindS_at, pick_f, ifS_false]
    refine Ret.load1 x.c1 ?_
    obtain ⟨b, o, n, c, e, hj, hP⟩ := slV_at x.s1 (i := at') (by simp only [Int.ofNat_eq_natCast] at hge0; omega) hlt
    obtain ⟨p, hp, okp⟩ := hP.get
    have hok : POk h0 n p := hall b o n c e _ hj p hp
    rw [e]
    refine Ret.idxI (by simp only [Int.ofNat_eq_natCast] at hge0; omega) (by omega) ?_
    refine Ret.loadN (by decide) (cells_old x.w x.k hp) ?_
    refine Ret.box (by decide) rfl rfl (Pr.one okp) fun H4 hHn hHc kH => ?_
    have g5 : H4.cell H3.n (0 + 5) = some p.stmts := by rw [hHc, if_pos rfl]; rfl
    have g7 : H4.cell H3.n (0 + 7) = some (.int .i64 p.start) := by rw [hHc, if_pos rfl]; rfl
    rw [addr_at]
    refine Ret.load1 g7 ?_
    exact loop1 w hcs okp hok.2.2.1 300 0 rfl p.start H4 H3.n (x.k.then kH) (by omega) g5 hok.1
  exact ⟨u, h', F8 fnA (fun _ _ => rfl) e, q, k'⟩
end Go.RW
