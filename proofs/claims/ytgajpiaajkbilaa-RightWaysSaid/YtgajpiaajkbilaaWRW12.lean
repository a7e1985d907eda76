import Derived.Test.YtgajpiaajkbilaaWRW11
set_option linter.all false
open Go Go.Mid Go.Proofs
set_option maxRecDepth 100000
set_option linter.unusedVariables false
namespace Go.RW
theorem PB.ku {h0 h h' : Hp} {pb mb : Nat} {strs protos : V} (x : PB h0 h pb strs protos) (k : Kp (· = mb) h h') (hn : pb ≠ mb) (hm : h0.n ≤ mb) : PB h0 h' pb strs protos :=
  ⟨x.w, x.k.call k fun b hb => .inr (by subst hb; exact hm), Nat.lt_of_lt_of_le x.lt k.n, by rw [k.cell x.lt hn]; exact x.c0, by rw [k.cell x.lt hn]; exact x.c1, x.s0, x.s1⟩
theorem tail5 {h0 : Hp} {pb : Nat} {strs : V} {b o n c : Nat} (sm : Small h0 (.slice b o n c false)) (hn : 0 < n) (hn2 : n ≤ 200) (a4 : V) {i l : Nat} (hi : l ≤ i) {h : Hp} (x : PB h0 h pb strs (.slice b o n c false)) {sv : V} :
    Ret h no (isBP fun r => r = true → AllOk h0 b o n) (M 5 [.ptr pb 0, .int .i64 (n : Nat), a4, sv, .int .i64 (l : Nat), .int .i64 (i : Nat)] h) := by
  obtain ⟨u, h', e, q, k'⟩ : Ret h no (isBP fun r => r = true → AllOk h0 b o n) (B5 M (.ptr pb 0) (.int .i64 (n : Nat)) a4 sv (.int .i64 (l : Nat)) (.int .i64 (i : Nat)) h) := by
    unfold B5
    refine Ret.lss (fun hlt => by omega) (fun _ => ?_)
    rw [ifS_false, addr_at]
    refine Ret.load1 x.c1 ?_
    refine Ret.idx (i := 0) hn ?_
    obtain ⟨p, hp, okp⟩ := get_at x.s1 rfl (i := 0) hn
    refine Ret.loadN (by decide) (cells_old x.w x.k hp) ?_
    refine Ret.box (by decide) rfl rfl (Pr.one okp) fun H hHn hHc kH => ?_
    have y := x.kp kH
    have g0 : H.cell h.n (0 + 0) = some (.int .i64 p.params) := by rw [hHc, if_pos rfl]; rfl
    have g1 : H.cell h.n (0 + 1) = some (.bool p.more) := by rw [hHc, if_pos rfl]; rfl
    have g4 : H.cell h.n (0 + 4) = some p.ups := by rw [hHc, if_pos rfl]; rfl
    have fin : Ret H no (isBP fun r => r = true → AllOk h0 b o n) (bindS (mkS 3 8 1 (.int .i64 (.ofNat 0)) (.int .i64 (n : Nat)) (.int .i64 (n : Nat)) H) fun v84 h85 =>
        load1 (.ptr pb (0 + 1)) h85 fun v87 => lenSl v87 fun v88 => M 7 [.ptr pb 0, v84, v87, v88, (.int .i64 (.ofNat 0))] h85) := by
      obtain ⟨cs, hcl, hci, hmk⟩ := mk1_at (e := 3) (bytes := 8) (z := .int .i64 (.ofNat 0)) (n := n) (h := H) rfl (by omega) (by omega)
      rw [hmk, bindS_at]
      have kr : Kp no H (H.newRow 3 cs false) := (Kp.refl _ _).newRow _ _ _
      have z : RT h0 (H.newRow 3 cs false) pb H.n strs b o n c := ⟨y.kp kr, by rw [newRow_n]; omega, by have := y.lt; omega, y.k.n, by rw [newRow_wide, if_pos rfl, hcl],
        fun j hj => ⟨0, by rw [newRow_cell, if_pos rfl, hci j hj]; rfl, by omega, by omega⟩⟩
      refine Ret.of (S' := (· = H.n)) kr ?_ fun b hb => .inr (by subst hb; exact Nat.le_refl _)
      refine Ret.load1 z.ib.c1 ?_
      rw [slV_len z.ib.s1]
      exact loop7 sm hn n 0 (by omega) (fun j hj => by omega) _ z
    clear hHc kH y
    have no1 : Ret H no (isBP fun r => r = true → AllOk h0 b o n) (some (.bool false, H)) := Ret.boolP (fun h => (Bool.false_ne_true h).elim) (Kp.refl _ _)
    rw [addr_at]
    refine Ret.load1 g0 ?_
    refine Ret.neq (fun _ => ?_) fun _ => ?_
    · simp only [guard_tf, pick_t, ifS_true]
      exact no1
    simp only [guard_ff, bindS_at, bind_addr, bind_load1, bind_notS, addr_at, pick_f]
    refine Ret.load1 g1 ?_
    rw [not_at]
    generalize (!p.more) = bm
    cases bm
    case true =>
      simp only [guard_tf, pick_t, ifS_true]
      exact no1
    simp only [guard_ff, bindS_at, bind_addr, bind_load1, bind_lenSl, bind_intS, addr_at, pick_f]
    refine Ret.load1 g4 ?_
    rw [slV_len okp.ups]
    refine Ret.neq (fun _ => ?_) fun _ => ?_
    · simp only [bindS_at, pick_f, ifS_true]
      exact no1
    simp only [bindS_at, pick_f, ifS_false]
    exact fin
  exact ⟨u, h', F5 fnA e, q, k'⟩
theorem loop5 {h0 : Hp} {pb mb : Nat} {sb so sn sc : Nat} {b o n c : Nat} (sm : Small h0 (.slice b o n c false)) (hn : 0 < n) (hn2 : n ≤ 200) (hne : pb ≠ mb) (hm : h0.n ≤ mb) :
    ∀ m i : Nat, i + m = sn → ∀ h, PB h0 h pb (.slice sb so sn sc false) (.slice b o n c false) → IM h mb →
      Ret h (· = mb) (isBP fun r => r = true → AllOk h0 b o n) (M 5 [.ptr pb 0, .int .i64 (n : Nat), .map mb, .slice sb so sn sc false, .int .i64 (sn : Nat), .int .i64 (i : Nat)] h)
  | 0, i, hi, h, x, im => Ret.of (S' := no) (Kp.refl _ _) (tail5 sm hn hn2 _ (by omega) x) fun _ h => h.elim
  | m + 1, i, hi, h, x, im => by
    obtain ⟨u, h', e, q, k'⟩ : Ret h (· = mb) (isBP fun r => r = true → AllOk h0 b o n) (B5 M (.ptr pb 0) (.int .i64 (n : Nat)) (.map mb) (.slice sb so sn sc false) (.int .i64 (sn : Nat)) (.int .i64 (i : Nat)) h) := by
      have hnn := slV_n x.s0 (h0 := h0)
      unfold B5
      refine Ret.lss (fun hlt => ?_) (fun _ => by omega)
      rw [ifS_true]
      refine Ret.idx (by omega) ?_
      obtain ⟨s, hs⟩ : StrAt h0 sb (so + i * 1) := by
        rcases x.s0 with e | ⟨b', o', n', c', e, _, hE⟩
        · cases e
        · cases e; exact hE i (by omega)
      refine Ret.load1 (x.k.old x.w hs) ?_
      refine Ret.look1 im fun v => ?_
      rw [intS_at, int_add, optS_at]
      refine Ret.upd1 im rfl fun w h1 hn1 k1 im1 => ?_
      have y := x.ku k1 hne hm
      have fin : Ret h1 (· = mb) (isBP fun r => r = true → AllOk h0 b o n) (intS .add (.int .i64 (i : Nat)) (.int .i64 (.ofNat 1)) fun v50 => M 5 [.ptr pb 0, .int .i64 (n : Nat), .map mb, .slice sb so sn sc false, .int .i64 (sn : Nat), v50] h1) := by
        rw [intS_at, int_add, optS_at, wrap64 (n := (i : Int) + Int.ofNat 1) (by simp; omega) (by simp; omega)]
        exact loop5 sm hn hn2 hne hm m (i + 1) (by omega) h1 y im1
      clear k1 x im y
      rw [lenStr_at]
      refine Ret.gtr (fun _ => ?_) fun _ => ?_
      · simp only [guard_tf, pick_t, ifS_true]
        exact Ret.boolP (fun h => (Bool.false_ne_true h).elim) (Kp.refl _ _)
      · simp only [guard_ff, bindS_at, bind_bind]
        refine Ret.look1 im1 fun v2 => ?_
        simp only [bindS_at, bind_intS]
        refine Ret.gtr (fun _ => ?_) fun _ => ?_
        · simp only [bindS_at, pick_f, ifS_true]
          exact Ret.boolP (fun h => (Bool.false_ne_true h).elim) (Kp.refl _ _)
        · simp only [bindS_at, pick_f, ifS_false]
          exact fin
    exact ⟨u, h', F5 fnA e, q, k'⟩
/-- Right: all of the program's parts lie where they must. -/
theorem prog_ret {h0 h : Hp} (w : h0.Wf) (k : Kp no h0 h) {strs protos : V} (s0 : SlV 1 (StrAt h0) strs) (s1 : SlV 8 (ProtoAt h0) protos) (sm : Small h0 protos) :
    Ret h no (isBP fun r => r = true → 0 < slLen protos ∧ ∀ b o n c, protos = .slice b o n c false → AllOk h0 b o n) (M 10 [.agg [strs, protos]] h) := by
  obtain ⟨u, h', e, q, k'⟩ : Ret h no (isBP fun r => r = true → 0 < slLen protos ∧ ∀ b o n c, protos = .slice b o n c false → AllOk h0 b o n) (B10 M (.agg [strs, protos]) h) := by
    unfold B10
    refine Ret.row ?_
    have x := PB.mk' w k s0 s1 26
    have hpb : h.n + 1 = (h.newRow 26 (vcells (.agg [strs, protos])) false).n := rfl
    generalize h.newRow 26 (vcells (.agg [strs, protos])) false = H at x hpb
    have fin : slLen protos ≠ 0 → slLen protos ≤ 200 → Ret H no (isBP fun r => r = true → 0 < slLen protos ∧ ∀ b o n c, protos = .slice b o n c false → AllOk h0 b o n) (M 5 [.ptr h.n 0, .int .i64 (slLen protos : Nat), .map H.n, strs, .int .i64 (slLen strs : Nat), .int .i64 (.ofNat 0)] (H.new (.map []))) := fun h1 h2 => by
      have hg : ∀ b, (H.new (.map [])).t.get b = if H.n = b then some (.map []) else H.t.get b := fun b => by simp only [Hp.new, Tr.get_set]
      have kn : Kp no H (H.new (.map [])) := ⟨fun w b hb => by
        rw [hg, if_neg (by have : (H.new (.map [])).n = H.n + 1 := rfl; omega)]; exact w b (by have : (H.new (.map [])).n = H.n + 1 := rfl; omega), Nat.le_succ _, fun b hb _ => by rw [hg, if_neg (by omega)], fun _ _ h _ => h⟩
      have im : IM (H.new (.map [])) H.n := ⟨Nat.lt_succ_self _, [], by rw [hg, if_pos rfl], fun _ h => by cases h⟩
      obtain ⟨b, o, n, c, rfl, hn, hE⟩ : ∃ b o n c, protos = .slice b o n c false ∧ n ≤ 9223372036854775807 ∧ ∀ i, i < n → ProtoAt h0 b (o + i * 8) := by
        rcases s1 with rfl | h
        · exact absurd rfl h1
        · exact h
      have hn0 : 0 < n := Nat.pos_of_ne_zero h1
      have fix : ∀ {S : Nat → Prop} {v : VH} {H' : Hp}, Ret H' S (isBP fun r => r = true → AllOk h0 b o n) v → Ret H' S (isBP fun r => r = true → 0 < slLen (.slice b o n c false) ∧ ∀ b' o' n' c', V.slice b o n c false = .slice b' o' n' c' false → AllOk h0 b' o' n') v := fun hv =>
        Ret.mono hv fun _ _ ⟨r, e, hr⟩ => ⟨r, e, fun h => ⟨hn0, fun _ _ _ _ e => by cases e; exact hr h⟩⟩
      rcases s0 with rfl | ⟨sb, so, sn, sc, rfl, _, _⟩
      · exact Ret.of kn (fix (tail5 (i := 0) (l := 0) sm hn0 h2 _ (Nat.le_refl _) (x.kp kn))) fun _ h => h.elim
      · exact Ret.of (S' := (· = H.n)) kn (fix (loop5 (mb := H.n) sm hn0 h2 (by omega) x.k.n sn 0 (by omega) _ (x.kp kn) im)) fun b hb => .inr (by subst hb; exact Nat.le_refl _)
    rw [addr_at]
    refine Ret.load1 x.c1 ?_
    rw [slV_len s1]
    have no1 : Ret H no (isBP fun r => r = true → 0 < slLen protos ∧ ∀ b o n c, protos = .slice b o n c false → AllOk h0 b o n) (some (.bool false, H)) := Ret.boolP (fun h => (Bool.false_ne_true h).elim) (Kp.refl _ _)
    refine Ret.lss (fun _ => ?_) fun h1 => ?_
    · simp only [guard_tf, pick_t, ifS_true]
      exact no1
    simp only [guard_ff, bindS_at, bind_intS]
    refine Ret.gtr (fun _ => ?_) fun h2 => ?_
    · simp only [guard_tf, bindS_at, pick_f, pick_t, ifS_true]
      exact no1
    simp only [guard_ff, bindS_at, bind_intS, bind_addr, bind_load1, bind_lenSl, addr_at, pick_f]
    refine Ret.load1 x.c0 ?_
    rw [slV_len s0]
    refine Ret.gtr (fun _ => ?_) fun h3 => ?_
    · simp only [bindS_at, pick_f, pick_t, ifS_true]
      exact no1
    simp only [bindS_at, pick_f, ifS_false]
    have hc : (H.new (.map [])).cell h.n (0 + 0) = some strs := by
      have : (H.new (.map [])).t.get h.n = H.t.get h.n := by simp only [Hp.new, Tr.get_set]; rw [if_neg (by omega)]
      have hx := x.c0
      unfold Hp.cell at hx ⊢
      rw [this]; exact hx
    rw [load1_at, hc, optS_at, slV_len s0]
    exact fin (by simp only [Int.ofNat_eq_natCast] at *; omega) (by simp only [Int.ofNat_eq_natCast] at *; omega)
  exact ⟨u, h', F10 fnA (fun _ _ => rfl) e, q, k'⟩
end Go.RW
