import Derived.Test.YtgajpiaajkbilaaWRW5
set_option linter.all false
open Go Go.Mid Go.Proofs
set_option maxRecDepth 100000
set_option linter.unusedVariables false
namespace Go.RW
theorem slV_one {s : Nat} {E : Nat → Nat → Prop} {v : V} (hv : SlV s E v) : oneCell v = true := by
  rcases hv with rfl | ⟨b, o, n, c, rfl, _, _⟩ <;> rfl
theorem slV_any {s : Nat} {E : Nat → Nat → Prop} {v : V} (hv : SlV s E v) : SlV s (fun _ _ => True) v := by
  rcases hv with rfl | ⟨b, o, n, c, rfl, h, _⟩
  · exact .inl rfl
  · exact .inr ⟨b, o, n, c, rfl, h, fun _ _ => trivial⟩
/-- a function of integers, over a list that lies in the heap now. -/
theorem all_now {h : Hp} (w : h.Wf) {f : FuncId} {a c : List V} {b n cp : Nat} (hf : Good h (fun _ => True) (.func f a c)) (hn : n ≤ 9223372036854775807) (hE : ∀ i, i < n → ∃ x, h.cell b (0 + i * 1) = some (.int .i64 x)) :
    Ret h no isB (M 44 [.slice b 0 n cp false, .func f a c] h) :=
  all_int w (Kp.refl _ _) hf (.inr ⟨b, 0, n, cp, rfl, hn, fun i hi => let ⟨x, hx⟩ := hE i hi; ⟨x, hx, trivial⟩⟩)
theorem one_good (h : Hp) : Good h (fun _ => True) (.func 23 [] []) := by
  intro x _ h' k
  rw [dyn_at]
  obtain ⟨u, h2, e, q, k'⟩ : Ret h' no isB (B46 M (.int .i64 x) h') := by
    unfold B46
    exact Ret.eql (fun _ => Ret.bool (Kp.refl _ _)) fun _ => Ret.bool (Kp.refl _ _)
  exact ⟨u, h2, F46 fnA (fun _ _ => rfl) e, q, k'⟩
/-- what stands at a statement's place leads to a statement, or to the end. -/
def StOk (h0 : Hp) (b o : Nat) (n : Nat) : Prop :=
  (∀ nx, h0.cell b (o + 4) = some (.int .i64 nx) → nx = -1 ∨ (0 ≤ nx ∧ nx < (n : Int))) ∧
  (∀ kd el, h0.cell b o = some (.int .u8 kd) → h0.cell b (o + 5) = some (.int .i64 el) → (kd = 4 ∨ kd = 6 ∨ kd = 8) → el = -1 ∨ (0 ≤ el ∧ el < (n : Int)))
structure RS (h0 h : Hp) (lb bf ub : Nat) (l : Lk) : Prop where
  w : h0.Wf
  k : Kp no h0 h
  lk : LK h0 h lb l
  us : US h lb ub (slLen l.exprs)
  lf : bf < h.n
  nf : bf ≠ ub
  new : h0.n ≤ ub
  f5 : h.cell bf 5 = some l.stmts
  f6 : h.cell bf 6 = some l.exprs
theorem RS.kp {h0 h h' : Hp} {lb bf ub : Nat} {l : Lk} (x : RS h0 h lb bf ub l) (k : Kp no h h') : RS h0 h' lb bf ub l :=
  ⟨x.w, x.k.then k, x.lk.kp k, x.us.kp x.lk.lt k, Nat.lt_of_lt_of_le x.lf k.n, x.nf, x.new, by rw [k.cell0 x.lf]; exact x.f5, by rw [k.cell0 x.lf]; exact x.f6⟩
theorem RS.ku {h0 h h' : Hp} {lb bf ub : Nat} {l : Lk} (x : RS h0 h lb bf ub l) (k : Kp (· = ub) h h') (u : US h' lb ub (slLen l.exprs)) : RS h0 h' lb bf ub l :=
  ⟨x.w, x.k.call k fun b hb => .inr (by subst hb; exact x.new), x.lk.keep k (fun e => x.us.ne e.symm), u, Nat.lt_of_lt_of_le x.lf k.n, x.nf, x.new,
    by rw [k.cell x.lf x.nf]; exact x.f5, by rw [k.cell x.lf x.nf]; exact x.f6⟩
def QU (h0 : Hp) (lb ub en below : Nat) (v : V) (u : V) (h' : Hp) : Prop := ∃ r, u = .bool r ∧ US h' lb ub en ∧ (r = true → inR h0 below v)
theorem loop19 {h0 : Hp} {lb bf ub : Nat} {l : Lk} {b o n c : Nat} (hst : l.stmts = .slice b o n c false) (hn : n ≤ 9223372036854775807) :
    ∀ m i : Nat, i + m = n → (∀ j, j < i → StOk h0 b (o + j * 7) n) → ∀ h, RS h0 h lb bf ub l →
      Ret h (· = ub) (isBP fun r => r = true → ∀ j, j < n → StOk h0 b (o + j * 7) n) (M 19 [.ptr lb 0, .ptr bf 0, .slice b o n c false, .int .i64 (n : Nat), .int .i64 (i : Nat)] h)
  | 0, i, hi, hlo, h, x => by
    obtain ⟨u, h', e, q, k'⟩ : Ret h (· = ub) (isBP fun r => r = true → ∀ j, j < n → StOk h0 b (o + j * 7) n) (B19 M (.ptr lb 0) (.ptr bf 0) (.slice b o n c false) (.int .i64 (n : Nat)) (.int .i64 (i : Nat)) h) := by
      unfold B19
      refine Ret.lss (fun hlt => by omega) (fun _ => ?_)
      rw [ifS_false, nil_ptr, addr_at]
      refine Ret.load1 x.us.c10 ?_
      refine Ret.stepB (all_now (x.k.wf x.w) (one_good _) (slV_le x.lk.s8) fun i hi => ?_) fun r h2 k2 => ?_
      · obtain ⟨y, hy⟩ := x.us.ints i hi
        exact ⟨y, by simpa using hy⟩
      · exact Ret.boolP (fun _ j hj => hlo j (by omega)) (Kp.refl _ _)
    exact ⟨u, h', F19 fnA e, q, k'⟩
  | m + 1, i, hi, hlo, h, x => by
    obtain ⟨u, h', e, q, k'⟩ : Ret h (· = ub) (isBP fun r => r = true → ∀ j, j < n → StOk h0 b (o + j * 7) n) (B19 M (.ptr lb 0) (.ptr bf 0) (.slice b o n c false) (.int .i64 (n : Nat)) (.int .i64 (i : Nat)) h) := by
      unfold B19
      refine Ret.lss (fun hlt => ?_) (fun _ => by omega)
      rw [ifS_true]
      refine Ret.idx (by omega) ?_
      have hS : StmtAt h0 b (o + i * 7) := by
        rcases x.lk.s7 with e | ⟨b', o', n', c', e, _, hE⟩
        · rw [hst] at e; cases e
        · rw [hst] at e; cases e; exact hE i (by omega)
      obtain ⟨⟨kd, c0⟩, ⟨slots, c1, v1⟩, ⟨targets, c2, v2⟩, ⟨exprs, c3, v3⟩, ⟨next, c4⟩, ⟨els, c5⟩, ⟨line, c6⟩⟩ := hS
      refine Ret.loadN (by decide) (cells_old x.w x.k (cells_cons c0 (cells_cons c1 (cells_cons c2 (cells_cons c3 (cells_cons c4 (cells_cons c5 (cells_cons c6 rfl)))))))) ?_
      refine Ret.box (by decide) rfl rfl (by simp only [allOne, slV_one v1, slV_one v2, slV_one v3]; rfl) fun H hHn hHc kH => ?_
      have y := x.kp kH
      rw [addr_at]
      refine Ret.load1 (v := targets) (by rw [hHc, if_pos rfl]; rfl) ?_
      rw [addr_at]
      refine Ret.load1 y.f6 ?_
      rw [slV_len y.lk.s8]
      have hb0 : h.n ≠ ub := by have := x.us.lt; omega
      have hcell : ∀ H', Kp (· = ub) H H' → ∀ z, H'.cell h.n z = [V.int .u8 kd, slots, targets, exprs, .int .i64 next, .int .i64 els, .int .i64 line][z]? := fun H' kk z => by
        rw [kk.cell (by omega) hb0, hHc, if_pos rfl]
      refine Ret.step (use_ret y.w (Nat.le_refl _) y.new v2 y.k y.lk y.us) fun u1 H1 hu1 k1 => ?_
      obtain ⟨r1, rfl, us1, hr1⟩ := hu1
      have y1 := y.ku k1 us1
      rw [not_at]
      cases r1
      · simp only [Bool.not_false, guard_tf, guard_u, pick_t, ifS_true]
        exact Ret.boolP (fun h => (Bool.false_ne_true h).elim) (Kp.refl _ _)
      · simp only [Bool.not_true, guard_ff, bindS_at, bind_bind, bind_addr, addr_at, bind_load1, bind_lenSl, pick_f]
        refine Ret.load1 (v := exprs) (by rw [hcell _ k1]; rfl) ?_
        refine Ret.load1 y1.f6 ?_
        rw [slV_len y1.lk.s8]
        refine Ret.step (use_ret y1.w (Nat.le_refl _) y1.new v3 y1.k y1.lk y1.us) fun u2 H2 hu2 k2 => ?_
        obtain ⟨r2, rfl, us2, hr2⟩ := hu2
        have y2 := y1.ku k2 us2
        have k12 : Kp (· = ub) H H2 := k1.call k2 fun _ h => .inl h
        simp only [bindS_at, not_at]
        cases r2
        · simp only [Bool.not_false, guard_tf, guard_u, pick_t, ifS_true, bind_notS, not_at, bindS_at, bind_bind]
          exact Ret.boolP (fun h => (Bool.false_ne_true h).elim) (Kp.refl _ _)
        · simp only [Bool.not_true, guard_ff, bindS_at, bind_bind, bind_loadN, bind_notS, not_at, pick_f]
          have hc7 : H2.cells h.n 0 7 = some [V.int .u8 kd, slots, targets, exprs, .int .i64 next, .int .i64 els, .int .i64 line] :=
            cells_cons (hcell _ k12 0) (cells_cons (hcell _ k12 1) (cells_cons (hcell _ k12 2) (cells_cons (hcell _ k12 3) (cells_cons (hcell _ k12 4) (cells_cons (hcell _ k12 5) (cells_cons (hcell _ k12 6) rfl))))))
          refine Ret.loadN (by decide) hc7 ?_
          refine Ret.stepP (stmt_ret y2.w y2.k y2.lk v1 (hr1 rfl) (hr2 rfl)) fun r3 H3 hr3 k3 => ?_
          have y3 := y2.kp k3
          rw [not_at]
          cases r3
          · simp only [Bool.not_false, bindS_at, pick_t, pick_f, ifS_true]
            exact Ret.boolP (fun h => (Bool.false_ne_true h).elim) (Kp.refl _ _)
          · simp only [Bool.not_true, bindS_at, pick_t, pick_f, ifS_false]
            rw [intS_at, int_add, optS_at, wrap64 (n := (i : Int) + Int.ofNat 1) (by simp; omega) (by simp; omega)]
            have hl : slLen l.stmts = n := by rw [hst]; rfl
            rw [hl] at hr3
            exact loop19 hst hn m (i + 1) (by omega) (fun j hj => by
              by_cases e : j = i
              · subst e
                refine ⟨fun nx hx => ?_, fun kd' el h1 h2 h3 => ?_⟩
                · rw [c4] at hx; cases hx; exact (hr3 rfl).1
                · rw [c0] at h1; rw [c5] at h2; cases h1; cases h2; exact (hr3 rfl).2 h3
              · exact hlo j (by omega)) H3 y3
    exact ⟨u, h', F19 fnA e, q, k'⟩
def StsOk (h0 : Hp) (v : V) : Prop := ∀ b o n c, v = .slice b o n c false → ∀ j, j < n → StOk h0 b (o + j * 7) n
theorem run19 {h0 h : Hp} {lb bf ub : Nat} {l : Lk} (x : RS h0 h lb bf ub l) :
    Ret h (· = ub) (isBP fun r => r = true → StsOk h0 l.stmts) (M 19 [.ptr lb 0, .ptr bf 0, l.stmts, .int .i64 (slLen l.stmts : Nat), .int .i64 ((0 : Nat) : Int)] h) := by
  rcases x.lk.s7 with e | ⟨b, o, n, c, e, hn, _⟩
  · obtain ⟨u, h', e', q, k'⟩ : Ret h (· = ub) (isBP fun r => r = true → StsOk h0 l.stmts) (B19 M (.ptr lb 0) (.ptr bf 0) l.stmts (.int .i64 (slLen l.stmts : Nat)) (.int .i64 ((0 : Nat) : Int)) h) := by
      unfold B19
      have e0 : slLen l.stmts = 0 := by rw [e]; rfl
      rw [e0]
      refine Ret.lss (fun hlt => by omega) (fun _ => ?_)
      rw [ifS_false, nil_ptr, addr_at]
      refine Ret.load1 x.us.c10 ?_
      refine Ret.stepB (all_now (x.k.wf x.w) (one_good _) (slV_le x.lk.s8) fun i hi => ?_) fun r h2 k2 => ?_
      · obtain ⟨y, hy⟩ := x.us.ints i hi
        exact ⟨y, by simpa using hy⟩
      · exact Ret.boolP (fun _ b o n c hs => by rw [e] at hs; cases hs) (Kp.refl _ _)
    exact ⟨u, h', F19 fnA e', q, k'⟩
  · have := loop19 e hn n 0 (by omega) (fun j hj => by omega) h x
    rw [e]
    refine Ret.mono this ?_
    rintro v h' ⟨r, rfl, hr⟩
    exact ⟨r, rfl, fun h b' o' n' c' hs => by cases hs; exact hr h⟩
def ExOk (h0 : Hp) (b o : Nat) (np : Nat) : Prop := ∀ kd n, h0.cell b o = some (.int .u8 kd) → h0.cell b (o + 1) = some (.int .i64 n) → kd = 7 → 0 ≤ n ∧ n < (np : Int)
def ExsOk (h0 : Hp) (np : Nat) (v : V) : Prop := ∀ b o n c, v = .slice b o n c false → ∀ j, j < n → ExOk h0 b (o + j * 3) np
theorem loop17 {h0 : Hp} {lb bf ub : Nat} {l : Lk} {b o n c : Nat} (hst : l.exprs = .slice b o n c false) (hn : n ≤ 9223372036854775807) :
    ∀ m i : Nat, i + m = n → (∀ j, j < i → ExOk h0 b (o + j * 3) (slLen l.protos)) → ∀ h, RS h0 h lb bf ub l →
      Ret h (· = ub) (isBP fun r => r = true → StsOk h0 l.stmts ∧ ExsOk h0 (slLen l.protos) l.exprs) (M 17 [.ptr lb 0, .ptr bf 0, .slice b o n c false, .int .i64 (n : Nat), .int .i64 (i : Nat)] h)
  | 0, i, hi, hlo, h, x => by
    obtain ⟨u, h', e, q, k'⟩ : Ret h (· = ub) (isBP fun r => r = true → StsOk h0 l.stmts ∧ ExsOk h0 (slLen l.protos) l.exprs) (B17 M (.ptr lb 0) (.ptr bf 0) (.slice b o n c false) (.int .i64 (n : Nat)) (.int .i64 (i : Nat)) h) := by
      unfold B17
      refine Ret.lss (fun hlt => by omega) (fun _ => ?_)
      rw [ifS_false, addr_at]
      refine Ret.load1 x.f5 ?_
      rw [slV_len x.lk.s7]
      refine Ret.mono (run19 x) ?_
      rintro v h' ⟨r, rfl, hr⟩
      exact ⟨r, rfl, fun h => ⟨hr h, fun b' o' n' c' e j hj => by rw [hst] at e; cases e; exact hlo j (by omega)⟩⟩
    exact ⟨u, h', F17 fnA e, q, k'⟩
  | m + 1, i, hi, hlo, h, x => by
    obtain ⟨u, h', e, q, k'⟩ : Ret h (· = ub) (isBP fun r => r = true → StsOk h0 l.stmts ∧ ExsOk h0 (slLen l.protos) l.exprs) (B17 M (.ptr lb 0) (.ptr bf 0) (.slice b o n c false) (.int .i64 (n : Nat)) (.int .i64 (i : Nat)) h) := by
      unfold B17
      refine Ret.lss (fun hlt => ?_) (fun _ => by omega)
      rw [ifS_true]
      refine Ret.idx (by omega) ?_
      have hS : ExprAt h0 b (o + i * 3) := by
        rcases x.lk.s8 with e | ⟨b', o', n', c', e, _, hE⟩
        · rw [hst] at e; cases e
        · rw [hst] at e; cases e; exact hE i (by omega)
      obtain ⟨⟨kd, c0⟩, ⟨nv, c1⟩, ⟨kids, c2, v2⟩⟩ := hS
      refine Ret.loadN (by decide) (cells_old x.w x.k (cells_cons c0 (cells_cons c1 (cells_cons c2 rfl)))) ?_
      refine Ret.box (by decide) rfl rfl (by simp only [allOne, slV_one v2]; rfl) fun H hHn hHc kH => ?_
      have y := x.kp kH
      rw [addr_at]
      refine Ret.load1 (v := kids) (by rw [hHc, if_pos rfl]; rfl) ?_
      have hl : slLen l.exprs = n := by rw [hst]; rfl
      have hb0 : h.n ≠ ub := by have := x.us.lt; omega
      have hcell : ∀ H', Kp (· = ub) H H' → ∀ z, H'.cell h.n z = [V.int .u8 kd, .int .i64 nv, kids][z]? := fun H' kk z => by
        rw [kk.cell (by omega) hb0, hHc, if_pos rfl]
      refine Ret.step (use_ret y.w (below := i) (en := slLen l.exprs) (by omega) y.new v2 y.k y.lk y.us) fun u1 H1 hu1 k1 => ?_
      obtain ⟨r1, rfl, us1, hr1⟩ := hu1
      have y1 := y.ku k1 us1
      rw [not_at]
      cases r1
      · simp only [Bool.not_false, guard_tf, guard_u, pick_t, ifS_true]
        exact Ret.boolP (fun h => (Bool.false_ne_true h).elim) (Kp.refl _ _)
      · simp only [Bool.not_true, guard_ff, bindS_at, bind_bind, bind_loadN, bind_notS, pick_f]
        refine Ret.loadN (by decide) (cells_cons (hcell _ k1 0) (cells_cons (hcell _ k1 1) (cells_cons (hcell _ k1 2) rfl))) ?_
        have hk : SlV 1 (fun b o => ∃ x, h0.cell b o = some (.int .i64 x) ∧ (0 ≤ x ∧ x < slLen l.exprs)) kids := by
          rcases hr1 rfl with e | ⟨b', o', n', c', e, hn', hE⟩
          · exact .inl e
          · exact .inr ⟨b', o', n', c', e, hn', fun j hj => let ⟨z, hz, h1, h2⟩ := hE j hj; ⟨z, hz, h1, by omega⟩⟩
        refine Ret.stepP (expr_ret y1.w y1.k y1.lk hk) fun r2 H2 hr2 k2 => ?_
        have y2 := y1.kp k2
        rw [not_at]
        cases r2
        · simp only [Bool.not_false, bindS_at, pick_t, pick_f, ifS_true]
          exact Ret.boolP (fun h => (Bool.false_ne_true h).elim) (Kp.refl _ _)
        · simp only [Bool.not_true, bindS_at, pick_t, pick_f, ifS_false]
          rw [intS_at, int_add, optS_at, wrap64 (n := (i : Int) + Int.ofNat 1) (by simp; omega) (by simp; omega)]
          exact loop17 hst hn m (i + 1) (by omega) (fun j hj => by
            by_cases e : j = i
            · subst e
              intro kd' n' h1 h2 h3
              rw [c0] at h1; rw [c1] at h2; cases h1; cases h2; exact hr2 rfl h3
            · exact hlo j (by omega)) H2 y2
    exact ⟨u, h', F17 fnA e, q, k'⟩
theorem run17 {h0 h : Hp} {lb bf ub : Nat} {l : Lk} (x : RS h0 h lb bf ub l) :
    Ret h (· = ub) (isBP fun r => r = true → StsOk h0 l.stmts ∧ ExsOk h0 (slLen l.protos) l.exprs) (M 17 [.ptr lb 0, .ptr bf 0, l.exprs, .int .i64 (slLen l.exprs : Nat), .int .i64 ((0 : Nat) : Int)] h) := by
  rcases x.lk.s8 with e | ⟨b, o, n, c, e, hn, _⟩
  · obtain ⟨u, h', e', q, k'⟩ : Ret h (· = ub) (isBP fun r => r = true → StsOk h0 l.stmts ∧ ExsOk h0 (slLen l.protos) l.exprs) (B17 M (.ptr lb 0) (.ptr bf 0) l.exprs (.int .i64 (slLen l.exprs : Nat)) (.int .i64 ((0 : Nat) : Int)) h) := by
      unfold B17
      have e0 : slLen l.exprs = 0 := by rw [e]; rfl
      rw [e0]
      refine Ret.lss (fun hlt => by omega) (fun _ => ?_)
      rw [ifS_false, addr_at]
      refine Ret.load1 x.f5 ?_
      rw [slV_len x.lk.s7]
      refine Ret.mono (run19 x) ?_
      rintro v h' ⟨r, rfl, hr⟩
      exact ⟨r, rfl, fun h => ⟨hr h, fun b' o' n' c' e2 j hj => by rw [e] at e2; cases e2⟩⟩
    exact ⟨u, h', F17 fnA e', q, k'⟩
  · have := loop17 e hn n 0 (by omega) (fun j hj => by omega) h x
    rw [e] at this ⊢
    exact this
end Go.RW
