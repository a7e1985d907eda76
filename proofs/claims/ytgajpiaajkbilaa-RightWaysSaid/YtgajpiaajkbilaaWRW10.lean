import Derived.Test.YtgajpiaajkbilaaWRW9
set_option linter.all false
open Go Go.Mid Go.Proofs
set_option maxRecDepth 100000
set_option linter.unusedVariables false
namespace Go.RW
theorem up_ret {h : Hp} {fb : Nat} {p : Pr} {h0 : Hp} (w : h0.Wf) (k : Kp no h0 h) (ok : p.Ok h0) (hs : (slLen p.boxes : Int) = p.slots) (g : ∀ z, h.cell fb (0 + z) = p.cells[z]?) (bv : Bool) (n : Int) :
    Ret h no isB (M 36 [.agg [.bool bv, .int .i64 n], .ptr fb 0] h) := by
  obtain ⟨u, h', e, q, k'⟩ : Ret h no isB (B36 M (.agg [.bool bv, .int .i64 n]) (.ptr fb 0) h) := by
    unfold B36
    refine Ret.of (h := h) (S' := no) (Kp.refl _ _) ?_ fun _ h => h.elim
    refine Ret.row ?_
    have kH : Kp no h (h.newRow 37 (vcells (.agg [.bool bv, .int .i64 n])) false) := (Kp.refl _ _).newRow _ _ _
    have u0 : (h.newRow 37 (vcells (.agg [.bool bv, .int .i64 n])) false).cell h.n (0 + 0) = some (.bool bv) := by rw [newRow_cell, if_pos rfl]; rfl
    have u1 : (h.newRow 37 (vcells (.agg [.bool bv, .int .i64 n])) false).cell h.n (0 + 1) = some (.int .i64 n) := by rw [newRow_cell, if_pos rfl]; rfl
    have hf : fb < h.n := (k.wf w).cell (g 0)
    have f2 : (h.newRow 37 (vcells (.agg [.bool bv, .int .i64 n])) false).cell fb (0 + 2) = some (.int .i64 p.slots) := by rw [kH.cell0 hf, g]; rfl
    have f3 : (h.newRow 37 (vcells (.agg [.bool bv, .int .i64 n])) false).cell fb (0 + 3) = some p.boxes := by rw [kH.cell0 hf, g]; rfl
    have f4 : (h.newRow 37 (vcells (.agg [.bool bv, .int .i64 n])) false).cell fb (0 + 4) = some p.ups := by rw [kH.cell0 hf, g]; rfl
    have kk := k.then kH
    generalize h.newRow 37 (vcells (.agg [.bool bv, .int .i64 n])) false = H at u0 u1 f2 f3 f4 kk
    rw [addr_at]
    refine Ret.load1 u0 ?_
    cases bv
    · simp only [ifS_false, addr_at]
      refine Ret.load1 u1 ?_
      refine Ret.load1 f4 ?_
      rw [slV_len ok.ups]
      exact Ret.within (fun _ => Ret.bool (Kp.refl _ _)) fun _ => Ret.bool (Kp.refl _ _)
    · simp only [ifS_true, addr_at]
      refine Ret.load1 u1 ?_
      refine Ret.load1 f2 ?_
      refine Ret.within (fun hr => ?_) fun _ => ?_
      · simp only [guard_tt, bindS_at, bind_load1, bind_idxS]
        refine Ret.load1 f3 ?_
        refine Ret.load1 u1 ?_
        obtain ⟨b, o, n', c, e, hm, ⟨bv, hb⟩⟩ := slV_at ok.boxes hr.1 (by omega)
        rw [e]
        refine Ret.idxI hr.1 (by omega) ?_
        refine Ret.load1 (kk.old w hb) ?_
        simp only [bindS_at, pick_t]
        exact Ret.bool (Kp.refl _ _)
      · simp only [guard_ft, bindS_at, pick_f]
        exact Ret.bool (Kp.refl _ _)
  exact ⟨u, h', F36 fnA (fun _ _ => rfl) e, q, k'⟩
def GoodU (h1 : Hp) (fv : V) : Prop := ∀ (bv : Bool) (n : Int) h, Kp no h1 h → Ret h no isB (dynE M fv [.agg [.bool bv, .int .i64 n]] h)
theorem idxU {h0 h1 : Hp} (w : h0.Wf) (k1 : Kp no h0 h1) {fv : V} (hf : GoodU h1 fv) {b o n c : Nat} (hn : n ≤ 9223372036854775807)
    (hE : ∀ i, i < n → UpAt h0 b (o + i * 2)) : ∀ m i : Nat, i + m = n → ∀ h, Kp no h1 h → Ret h no isI (M 33 [.slice b o n c false, fv, .int .i64 (n : Nat), .int .i64 (i : Nat)] h)
  | 0, i, hi, h, k => by
    obtain ⟨v, h', e, q, k'⟩ : Ret h no isI (B33 M (.slice b o n c false) fv (.int .i64 (n : Nat)) (.int .i64 (i : Nat)) h) := by
      unfold B33
      refine Ret.lss (fun hlt => by omega) (fun _ => ?_)
      rw [ifS_false]
      exact Ret.done ⟨_, rfl⟩ (Kp.refl _ _)
    exact ⟨v, h', F33 fnA e, q, k'⟩
  | m + 1, i, hi, h, k => by
    obtain ⟨v, h', e, q, k'⟩ : Ret h no isI (B33 M (.slice b o n c false) fv (.int .i64 (n : Nat)) (.int .i64 (i : Nat)) h) := by
      unfold B33
      refine Ret.lss (fun hlt => ?_) (fun _ => by omega)
      rw [ifS_true]
      refine Ret.idx (by omega) ?_
      obtain ⟨⟨x, hx⟩, ⟨y, hy⟩⟩ := hE i (by omega)
      refine Ret.loadN (by decide) (cells_old w (k1.then k) (cells2 hx hy)) ?_
      refine Ret.bindB (hf x y h k) fun y h2 k2 => ?_
      cases y
      · rw [ifS_false]
        rw [intS_at, int_add, optS_at, wrap64 (by simp; omega) (by simp; omega)]
        have := idxU w k1 hf (c := c) hn hE m (i + 1) (by omega) h2 (k.then k2)
        exact Ret.of k2 this fun _ h => h.elim
      · rw [ifS_true]
        exact Ret.done ⟨_, rfl⟩ k2
    exact ⟨v, h', F33 fnA e, q, k'⟩
theorem idxFU {h0 h1 : Hp} (w : h0.Wf) (k1 : Kp no h0 h1) {fv v : V} (hf : GoodU h1 fv) (hv : SlV 2 (UpAt h0) v) : Ret h1 no isI (M 78 [v, fv] h1) := by
  obtain ⟨u, h', e, q, k'⟩ : Ret h1 no isI (B78 M v fv h1) := by
    unfold B78
    rw [slV_len hv]
    rcases hv with rfl | ⟨b, o, n, c, rfl, hn, hE⟩
    · obtain ⟨u, h', e, q, k'⟩ : Ret h1 no isI (B33 M .nilSlice fv (.int .i64 ((0 : Nat) : Int)) (.int .i64 ((0 : Nat) : Int)) h1) := by
        unfold B33
        refine Ret.lss (fun hlt => by omega) (fun _ => ?_)
        rw [ifS_false]
        exact Ret.done ⟨_, rfl⟩ (Kp.refl _ _)
      exact ⟨u, h', F33 fnA e, q, k'⟩
    · exact idxU w k1 hf hn hE n 0 (by omega) h1 (Kp.refl _ _)
  exact ⟨u, h', F78 fnA (fun _ _ => rfl) e, q, k'⟩
theorem contFU {h0 h1 : Hp} (w : h0.Wf) (k1 : Kp no h0 h1) {fv v : V} (hf : GoodU h1 fv) (hv : SlV 2 (UpAt h0) v) : Ret h1 no isB (M 48 [v, fv] h1) := by
  obtain ⟨u, h', e, q, k'⟩ : Ret h1 no isB (B48 M v fv h1) := by
    unfold B48
    refine Ret.bindI (idxFU w k1 hf hv) fun n h2 k2 => ?_
    exact Ret.geq (fun _ => Ret.bool k2) fun _ => Ret.bool k2
  exact ⟨u, h', F48 fnA (fun _ _ => rfl) e, q, k'⟩
theorem allU {h0 h1 : Hp} (w : h0.Wf) (k1 : Kp no h0 h1) {f : FuncId} {a c : List V} {v : V} (hf : GoodU h1 (.func f a c)) (hv : SlV 2 (UpAt h0) v) : Ret h1 no isB (M 34 [v, .func f a c] h1) := by
  obtain ⟨u, h', e, q, k'⟩ : Ret h1 no isB (B34 M v (.func f a c) h1) := by
    unfold B34
    rw [newS_at]
    have kn : Kp no h1 (h1.newRow 59 (vcells (.func f a c)) false) := (Kp.refl _ _).newRow _ _ _
    have hg : GoodU (h1.newRow 59 (vcells (.func f a c)) false) (.func 25 [] [.ptr h1.n 0]) := by
      intro bv n h k
      rw [dyn_at]
      obtain ⟨u, h', e, q, k'⟩ : Ret h no isB (B50 M (.agg [.bool bv, .int .i64 n]) (.ptr h1.n 0) h) := by
        unfold B50
        refine Ret.row ?_
        have kr : Kp no h (h.newRow 37 (vcells (.agg [.bool bv, .int .i64 n])) false) := (Kp.refl _ _).newRow _ _ _
        refine Ret.load1 (v := .func f a c) ?_ ?_
        · rw [(k.then kr).cell0 (by rw [newRow_n]; omega), newRow_cell, if_pos rfl]; rfl
        · refine Ret.loadN (by decide) (cells2 (x := .bool bv) (y := .int .i64 n) (by rw [newRow_cell, if_pos rfl]; rfl) (by rw [newRow_cell, if_pos rfl]; rfl)) ?_
          refine Ret.bindB (hf bv n _ ((kn.then k).then kr)) fun b h2 k2 => ?_
          rw [not_at]
          exact Ret.bool k2
      exact ⟨u, h', F50 fnA (fun _ _ => rfl) e, q, k'⟩
    refine Ret.bindB (Ret.of kn (contFU w (k1.then kn) hg hv) fun _ h => h.elim) fun b h2 k2 => ?_
    rw [not_at]
    exact Ret.bool k2
  exact ⟨u, h', F34 fnA (fun _ _ => rfl) e, q, k'⟩
/-- the inner's boxes from around lie in the outer. -/
theorem ups_ret {h0 h : Hp} (w : h0.Wf) (k : Kp no h0 h) {q p : Pr} (okq : q.Ok h0) (okp : p.Ok h0) (hs : (slLen p.boxes : Int) = p.slots) : Ret h no isB (M 24 [.agg q.cells, .agg p.cells] h) := by
  obtain ⟨u, h', e, qq, k'⟩ : Ret h no isB (B24 M (.agg q.cells) (.agg p.cells) h) := by
    unfold B24
    rw [newS_at, newS_at, addr_at]
    have k1 : Kp no h ((h.newRow 35 (vcells (.agg q.cells)) false).newRow 35 (vcells (.agg p.cells)) false) := ((Kp.refl _ _).newRow _ _ _).newRow _ _ _
    have gq : ((h.newRow 35 (vcells (.agg q.cells)) false).newRow 35 (vcells (.agg p.cells)) false).cell h.n (0 + 4) = some q.ups := by
      rw [newRow_cell, newRow_n, if_neg (by omega), newRow_cell, if_pos rfl]; rfl
    have gp : ∀ z, ((h.newRow 35 (vcells (.agg q.cells)) false).newRow 35 (vcells (.agg p.cells)) false).cell (h.n + 1) (0 + z) = p.cells[z]? := fun z => by
      rw [newRow_cell, newRow_n, if_pos rfl, Nat.zero_add]; rfl
    have hn : (h.newRow 35 (vcells (.agg q.cells)) false).n = h.n + 1 := rfl
    have hn2 : h.n + 1 < ((h.newRow 35 (vcells (.agg q.cells)) false).newRow 35 (vcells (.agg p.cells)) false).n := by rw [newRow_n, newRow_n]; omega
    rw [hn]
    generalize (h.newRow 35 (vcells (.agg q.cells)) false).newRow 35 (vcells (.agg p.cells)) false = H at k1 gq gp hn2
    refine Ret.load1 gq ?_
    refine Ret.bindB (Ret.of k1 (allU w (k.then k1) (fun bv n h' kk => ?_) okq.ups) fun _ h => h.elim) fun b h2 k2 => Ret.bool k2
    rw [dyn_at]
    exact up_ret w ((k.then k1).then kk) okp hs (fun z => by rw [kk.cell0 hn2]; exact gp z) bv n
  exact ⟨u, h', F24 fnA (fun _ _ => rfl) e, qq, k'⟩
end Go.RW
