import Derived.Test.YtgajpiaajkbilaaWRW4
set_option linter.all false
open Go Go.Mid Go.Proofs
set_option maxRecDepth 100000
set_option linter.unusedVariables false
namespace Go.RW
theorem stmt_ret {h0 h : Hp} (w : h0.Wf) (k : Kp no h0 h) {lb : Nat} {l : Lk} (hl : LK h0 h lb l) {kd : Int} {slots targets exprs : V} {next els line : Int} (v1 : SlV 1 (IntAt h0) slots) (v2 : inR h0 (slLen l.exprs) targets) (v3 : inR h0 (slLen l.exprs) exprs) :
    Ret h no (isBP fun r => r = true → (next = -1 ∨ (0 ≤ next ∧ next < slLen l.stmts)) ∧ ((kd = 4 ∨ kd = 6 ∨ kd = 8) → els = -1 ∨ (0 ≤ els ∧ els < slLen l.stmts)))
      (M 42 [.ptr lb 0, .agg [.int .u8 kd, slots, targets, exprs, .int .i64 next, .int .i64 els, .int .i64 line]] h) := by
  obtain ⟨u, h', e, q, k'⟩ : Ret h no (isBP fun r => r = true → (next = -1 ∨ (0 ≤ next ∧ next < slLen l.stmts)) ∧ ((kd = 4 ∨ kd = 6 ∨ kd = 8) → els = -1 ∨ (0 ≤ els ∧ els < slLen l.stmts)))
      (B42 M (.ptr lb 0) (.agg [.int .u8 kd, slots, targets, exprs, .int .i64 next, .int .i64 els, .int .i64 line]) h) := by
    unfold B42
    rw [newS_at, newS_at]
    generalize hH2 : ((h.newRow 55 (vcells (.ptr lb 0)) false).newRow 44 (vcells (.agg [.int .u8 kd, slots, targets, exprs, .int .i64 next, .int .i64 els, .int .i64 line])) false) = H2
    have k2 : Kp no h H2 := by rw [← hH2]; exact ((Kp.refl _ _).newRow _ _ _).newRow _ _ _
    have n2 : H2.n = h.n + 2 := by rw [← hH2]; rfl
    have c2 : ∀ x y, H2.cell x y = if h.n + 1 = x then [.int .u8 kd, slots, targets, exprs, .int .i64 next, .int .i64 els, .int .i64 line][y]? else if h.n = x then [V.ptr lb 0][y]? else h.cell x y := by
      intro x y; rw [← hH2, newRow_cell, newRow_cell, newRow_n]; rfl
    clear hH2
    rw [arr0, bindS_at, arr2, bindS_at, arr2, bindS_at, arr2, bindS_at, newS_at, newS_at, newS_at, newS_at]
    simp only [newRow_n, n2]
    generalize hH3 : ((((H2.newRow 66 [.int .i64 (.ofNat 0), .int .i64 (.ofNat 0)] false).newRow 66 [.int .i64 (.ofNat 0), .int .i64 (.ofNat 0)] false).newRow 66 [.int .i64 (.ofNat 0), .int .i64 (.ofNat 0)] false).newRow 66 [.int .i64 (.ofNat 0), .int .i64 (.ofNat 0)] false) = H3
    have k3 : Kp no h H3 := by rw [← hH3]; exact (((k2.newRow _ _ _).newRow _ _ _).newRow _ _ _).newRow _ _ _
    have n3 : H3.n = h.n + 6 := by rw [← hH3]; simp [newRow_n, n2]
    have w3 : ∀ x, h.n + 2 ≤ x → x < h.n + 6 → H3.wide x = 2 := by
      intro x h1 h2
      rw [← hH3]
      simp only [newRow_wide, newRow_n, n2]
      split
      · rfl
      split
      · rfl
      split
      · rfl
      split
      · rfl
      · omega
    have c3 : ∀ x y, x < h.n + 2 → H3.cell x y = H2.cell x y := by
      intro x y hx
      rw [← hH3]
      simp only [newRow_cell, newRow_n, n2]
      rw [if_neg (by omega), if_neg (by omega), if_neg (by omega), if_neg (by omega)]
    clear hH3
    refine Ret.storeN (by decide) rfl rfl (by rw [w3 _ (by omega) (by omega)]; omega) ?_
    refine Ret.storeN (by decide) rfl rfl (by rw [wrL_wide, w3 _ (by omega) (by omega)]; omega) ?_
    refine Ret.storeN (by decide) rfl rfl (by rw [wrL_wide, wrL_wide, w3 _ (by omega) (by omega)]; omega) ?_
    refine Ret.storeN (by decide) rfl rfl (by rw [wrL_wide, wrL_wide, wrL_wide, w3 _ (by omega) (by omega)]; omega) ?_
    generalize hH4 : ((((H3.wrL (h.n + 2) 0 [.int .i64 (.ofNat 0), .int .i64 (.ofNat 0)]).wrL (h.n + 2 + 1) 0 [.int .i64 (.ofNat 1), .int .i64 (.ofNat 1)]).wrL (h.n + 2 + 1 + 1) 0 [.int .i64 (.ofNat 1), .int .i64 (.ofNat 200)]).wrL (h.n + 2 + 1 + 1 + 1) 0 [.int .i64 (.ofNat 0), .int .i64 (.ofNat 200)]) = H4
    have k4 : Kp no h H4 := by rw [← hH4]; exact (((k3.wrL _ _ (.inr (by omega))).wrL _ _ (.inr (by omega))).wrL _ _ (.inr (by omega))).wrL _ _ (.inr (by omega))
    have n4 : H4.n = h.n + 6 := by rw [← hH4, wrL_n, wrL_n, wrL_n, wrL_n, n3]
    have c4 : ∀ x y, y < 2 → H4.cell x y = if h.n + 5 = x then [V.int .i64 0, V.int .i64 200][y]? else if h.n + 4 = x then [V.int .i64 1, V.int .i64 200][y]? else if h.n + 3 = x then [V.int .i64 1, V.int .i64 1][y]? else if h.n + 2 = x then [V.int .i64 0, V.int .i64 0][y]? else H3.cell x y := by
      intro x y hy
      rw [← hH4]
      rw [wrL_cell (by rw [wrL_wide, wrL_wide, wrL_wide, w3 _ (by omega) (by omega)]; exact Nat.le_refl _) (by rw [wrL_wide, wrL_wide, wrL_wide, w3 _ (by omega) (by omega)]; omega)]
      rw [wrL_cell (by rw [wrL_wide, wrL_wide, w3 _ (by omega) (by omega)]; exact Nat.le_refl _) (by rw [wrL_wide, wrL_wide, w3 _ (by omega) (by omega)]; omega)]
      rw [wrL_cell (by rw [wrL_wide, w3 _ (by omega) (by omega)]; exact Nat.le_refl _) (by rw [wrL_wide, w3 _ (by omega) (by omega)]; omega)]
      rw [wrL_cell (by rw [w3 _ (by omega) (by omega)]; exact Nat.le_refl _) (by rw [w3 _ (by omega) (by omega)]; omega)]
      simp [hy]
    have c4' : ∀ x y, x < h.n + 2 → H4.cell x y = H3.cell x y := by
      intro x y hx
      rw [← hH4]
      rw [wrL_cell (by rw [wrL_wide, wrL_wide, wrL_wide, w3 _ (by omega) (by omega)]; exact Nat.le_refl _) (by rw [wrL_wide, wrL_wide, wrL_wide, w3 _ (by omega) (by omega)]; omega)]
      rw [wrL_cell (by rw [wrL_wide, wrL_wide, w3 _ (by omega) (by omega)]; exact Nat.le_refl _) (by rw [wrL_wide, wrL_wide, w3 _ (by omega) (by omega)]; omega)]
      rw [wrL_cell (by rw [wrL_wide, w3 _ (by omega) (by omega)]; exact Nat.le_refl _) (by rw [wrL_wide, w3 _ (by omega) (by omega)]; omega)]
      rw [wrL_cell (by rw [w3 _ (by omega) (by omega)]; exact Nat.le_refl _) (by rw [w3 _ (by omega) (by omega)]; omega)]
      rw [if_neg (by omega), if_neg (by omega), if_neg (by omega), if_neg (by omega)]
    clear hH4
    have cs : ∀ y, H4.cell (h.n + 1) y = [.int .u8 kd, slots, targets, exprs, .int .i64 next, .int .i64 els, .int .i64 line][y]? := by
      intro y; rw [c4' _ _ (by omega), c3 _ _ (by omega), c2, if_pos rfl]
    have x : ST h0 H4 lb h.n (h.n + 1) (h.n + 2) (h.n + 2 + 1) (h.n + 2 + 1 + 1) (h.n + 2 + 1 + 1 + 1) l kd slots targets exprs next els line :=
      ⟨w, k.then k4, hl.kp k4, by omega, by omega, by omega, by omega, by omega, by omega, by rw [c4' _ _ (by omega), c3 _ _ (by omega), c2, if_neg (by omega), if_pos rfl]; rfl,
        cs 0, cs 1, cs 2, cs 3, cs 4, cs 5, cs 6, by rw [c4 _ _ (by omega)]; simp, by rw [c4 _ _ (by omega)]; simp, by rw [c4 _ _ (by omega)]; simp, by rw [c4 _ _ (by omega)]; simp,
        by rw [c4 _ _ (by omega)]; simp, by rw [c4 _ _ (by omega)]; simp, by rw [c4 _ _ (by omega)]; simp, by rw [c4 _ _ (by omega)]; simp, v1, v2, v3⟩
    exact Ret.of k4 (b42_rest x rfl) fun _ h => h.elim
  exact ⟨u, h', F42 fnA (fun _ _ => rfl) e, q, k'⟩
end Go.RW
