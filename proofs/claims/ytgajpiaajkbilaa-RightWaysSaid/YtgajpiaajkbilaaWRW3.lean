import Derived.Test.YtgajpiaajkbilaaWRW1
import Derived.IntWalk
set_option linter.all false
open Go Go.Mid Go.Proofs
set_option maxRecDepth 100000
set_option linter.unusedVariables false
namespace Go.RW
/-- outside: the examples come out. -/
noncomputable def fnA : FuncId → List V → Hp → Option (V × Hp) := fun f as' h => match f, as' with
  | 9, [] => some (.bool true, h)
  | _, _ => none
noncomputable abbrev M := L fnA

theorem within_at (n m : Int) (h : Hp) : M 30 [.int .i64 n, .int .i64 m] h = some (.bool (decide (0 ≤ n ∧ n < m)), h) := by
  refine F30 fnA (fun _ _ => rfl) ?_
  unfold B30
  by_cases h1 : 0 ≤ n
  · simp only [intS_at, int_geq, optS_at, Int.ofNat_eq_natCast, Int.natCast_zero, h1, decide_true, guard_tt, bindS_at, int_lss, pick_t, true_and]
  · simp only [intS_at, int_geq, optS_at, Int.ofNat_eq_natCast, Int.natCast_zero, h1, decide_false, guard_ft, bindS_at, int_lss, pick_f, false_and]
theorem number_at (n m : Int) (h : Hp) : M 56 [.int .i64 n, .int .i64 m] h = some (.bool (decide (0 ≤ n ∧ n < m)), h) := by
  refine F56 fnA (fun _ _ => rfl) ?_
  unfold B56
  by_cases h1 : 0 ≤ n
  · simp only [intS_at, int_geq, optS_at, Int.ofNat_eq_natCast, Int.natCast_zero, h1, decide_true, guard_tt, bindS_at, int_lss, pick_t, true_and]
  · simp only [intS_at, int_geq, optS_at, Int.ofNat_eq_natCast, Int.natCast_zero, h1, decide_false, guard_ft, bindS_at, int_lss, pick_f, false_and]

theorem Ret.within {h0 h : Hp} {S : Nat → Prop} {Q : V → Hp → Prop} {n m : Int} {K : V → Hp → VH} (h1 : (0 ≤ n ∧ n < m) → Ret h0 S Q (K (.bool true) h)) (h2 : ¬ (0 ≤ n ∧ n < m) → Ret h0 S Q (K (.bool false) h)) : Ret h0 S Q (bindS (M 30 [.int .i64 n, .int .i64 m] h) K) := by
  rw [within_at, bindS_at]
  by_cases e : 0 ≤ n ∧ n < m
  · rw [decide_eq_true e]; exact h1 e
  · rw [decide_eq_false e]; exact h2 e
theorem Ret.number {h0 h : Hp} {S : Nat → Prop} {Q : V → Hp → Prop} {n m : Int} {K : V → Hp → VH} (h1 : (0 ≤ n ∧ n < m) → Ret h0 S Q (K (.bool true) h)) (h2 : ¬ (0 ≤ n ∧ n < m) → Ret h0 S Q (K (.bool false) h)) : Ret h0 S Q (bindS (M 56 [.int .i64 n, .int .i64 m] h) K) := by
  rw [number_at, bindS_at]
  by_cases e : 0 ≤ n ∧ n < m
  · rw [decide_eq_true e]; exact h1 e
  · rw [decide_eq_false e]; exact h2 e

/-! what comes in, read in the heap at the beginning -/
section
variable (h0 : Hp)
def IntAt (b o : Nat) : Prop := ∃ n, h0.cell b o = some (.int .i64 n)
def BoolAt (b o : Nat) : Prop := ∃ n, h0.cell b o = some (.bool n)
def StrAt (b o : Nat) : Prop := ∃ l, h0.cell b o = some (.str l)
def SlV (s : Nat) (E : Nat → Nat → Prop) (v : V) : Prop := v = .nilSlice ∨ ∃ b o n c, v = .slice b o n c false ∧ n ≤ 9223372036854775807 ∧ ∀ i, i < n → E b (o + i * s)
def SlAt (s : Nat) (E : Nat → Nat → Prop) (b o : Nat) : Prop := ∃ v, h0.cell b o = some v ∧ SlV s E v
def ExprAt (b o : Nat) : Prop := (∃ k, h0.cell b o = some (.int .u8 k)) ∧ IntAt h0 b (o + 1) ∧ SlAt h0 1 (IntAt h0) b (o + 2)
def StmtAt (b o : Nat) : Prop := (∃ k, h0.cell b o = some (.int .u8 k)) ∧ SlAt h0 1 (IntAt h0) b (o + 1) ∧ SlAt h0 1 (IntAt h0) b (o + 2) ∧ SlAt h0 1 (IntAt h0) b (o + 3) ∧ IntAt h0 b (o + 4) ∧ IntAt h0 b (o + 5) ∧ IntAt h0 b (o + 6)
def UpAt (b o : Nat) : Prop := BoolAt h0 b o ∧ IntAt h0 b (o + 1)
def ProtoAt (b o : Nat) : Prop := IntAt h0 b o ∧ BoolAt h0 b (o + 1) ∧ IntAt h0 b (o + 2) ∧ SlAt h0 1 (BoolAt h0) b (o + 3) ∧ SlAt h0 2 (UpAt h0) b (o + 4) ∧ SlAt h0 7 (StmtAt h0) b (o + 5) ∧ SlAt h0 3 (ExprAt h0) b (o + 6) ∧ IntAt h0 b (o + 7)
end
noncomputable def slLen : V → Nat
  | .slice _ _ n _ _ => n
  | _ => 0
theorem slV_len {s : Nat} {E : Nat → Nat → Prop} {v : V} (hv : SlV s E v) (k : V → VH) : lenSl v k = k (.int .i64 (slLen v : Nat)) := by
  rcases hv with rfl | ⟨b, o, n, c, rfl, _, _⟩ <;> rfl
theorem slV_le {s : Nat} {E : Nat → Nat → Prop} {v : V} (hv : SlV s E v) : slLen v ≤ 9223372036854775807 := by
  rcases hv with rfl | ⟨b, o, n, c, rfl, h, _⟩
  · exact Nat.zero_le _
  · exact h
theorem slV_idx {s : Nat} {E : Nat → Nat → Prop} {v : V} (hv : SlV s E v) {d : IntKind} {i : Int} (h1 : 0 ≤ i) (h2 : i < slLen v) (k : V → VH) : ∃ b o, idxS s v (.int d i) k = k (.ptr b o) ∧ E b o := by
  rcases hv with rfl | ⟨b, o, n, c, rfl, _, hE⟩
  · simp [slLen] at h2; omega
  · obtain ⟨j, rfl⟩ : ∃ j : Nat, i = j := ⟨i.toNat, by omega⟩
    have hj : j < n := by simp only [slLen] at h2; omega
    exact ⟨b, o + j * s, idx_at _ _ _ _ _ _ _ _ _ hj, hE j hj⟩

/-! slices.IndexFunc over integers -/
def Good (h1 : Hp) (P : Int → Prop) (fv : V) : Prop := ∀ x, P x → ∀ h, Kp no h1 h → Ret h no isB (dynE M fv [.int .i64 x] h)
theorem wrap64 {n : Int} (h1 : -9223372036854775808 ≤ n) (h2 : n ≤ 9223372036854775807) : IntKind.i64.wrap n = n := IntWalk.i64_in n ⟨h1, h2⟩
theorem idxFunc {h0 h1 : Hp} (w : h0.Wf) (k1 : Kp no h0 h1) {P : Int → Prop} {fv : V} (hf : Good h1 P fv) {b o n c : Nat} (hn : n ≤ 9223372036854775807)
    (hE : ∀ i, i < n → ∃ x, h0.cell b (o + i * 1) = some (.int .i64 x) ∧ P x) : ∀ m i : Nat, i + m = n → ∀ h, Kp no h1 h → Ret h no isI (M 31 [.slice b o n c false, fv, .int .i64 (n : Nat), .int .i64 (i : Nat)] h)
  | 0, i, hi, h, k => by
    obtain ⟨v, h', e, q, k'⟩ : Ret h no isI (B31 M (.slice b o n c false) fv (.int .i64 (n : Nat)) (.int .i64 (i : Nat)) h) := by
      unfold B31
      refine Ret.lss (fun hlt => by omega) (fun _ => ?_)
      rw [ifS_false]
      exact Ret.done ⟨_, rfl⟩ (Kp.refl _ _)
    exact ⟨v, h', F31 fnA e, q, k'⟩
  | m + 1, i, hi, h, k => by
    obtain ⟨v, h', e, q, k'⟩ : Ret h no isI (B31 M (.slice b o n c false) fv (.int .i64 (n : Nat)) (.int .i64 (i : Nat)) h) := by
      unfold B31
      refine Ret.lss (fun hlt => ?_) (fun _ => by omega)
      rw [ifS_true]
      refine Ret.idx (by omega) ?_
      obtain ⟨x, hx, hP⟩ := hE i (by omega)
      refine Ret.load1 ((k1.then k).old w hx) ?_
      refine Ret.bindB (hf x hP h k) fun y h2 k2 => ?_
      cases y
      · rw [ifS_false]
        rw [intS_at, int_add, optS_at, wrap64 (by simp; omega) (by simp; omega)]
        have := idxFunc w k1 hf (c := c) hn hE m (i + 1) (by omega) h2 (k.then k2)
        exact Ret.of k2 this fun _ h => h.elim
      · rw [ifS_true]
        exact Ret.done ⟨_, rfl⟩ k2
    exact ⟨v, h', F31 fnA e, q, k'⟩
theorem idxF {h0 h1 : Hp} (w : h0.Wf) (k1 : Kp no h0 h1) {P : Int → Prop} {fv v : V} (hf : Good h1 P fv) (hv : SlV 1 (fun b o => ∃ x, h0.cell b o = some (.int .i64 x) ∧ P x) v) : Ret h1 no isI (M 82 [v, fv] h1) := by
  obtain ⟨u, h', e, q, k'⟩ : Ret h1 no isI (B82 M v fv h1) := by
    unfold B82
    rw [slV_len hv]
    rcases hv with rfl | ⟨b, o, n, c, rfl, hn, hE⟩
    · obtain ⟨u, h', e, q, k'⟩ : Ret h1 no isI (B31 M .nilSlice fv (.int .i64 ((0 : Nat) : Int)) (.int .i64 ((0 : Nat) : Int)) h1) := by
        unfold B31
        refine Ret.lss (fun hlt => by omega) (fun _ => ?_)
        rw [ifS_false]
        exact Ret.done ⟨_, rfl⟩ (Kp.refl _ _)
      exact ⟨u, h', F31 fnA e, q, k'⟩
    · exact idxFunc w k1 hf hn hE n 0 (by omega) h1 (Kp.refl _ _)
  exact ⟨u, h', F82 fnA (fun _ _ => rfl) e, q, k'⟩
theorem contF {h0 h1 : Hp} (w : h0.Wf) (k1 : Kp no h0 h1) {P : Int → Prop} {fv v : V} (hf : Good h1 P fv) (hv : SlV 1 (fun b o => ∃ x, h0.cell b o = some (.int .i64 x) ∧ P x) v) : Ret h1 no isB (M 74 [v, fv] h1) := by
  obtain ⟨u, h', e, q, k'⟩ : Ret h1 no isB (B74 M v fv h1) := by
    unfold B74
    refine Ret.bindI (idxF w k1 hf hv) fun n h2 k2 => ?_
    exact Ret.geq (fun _ => Ret.bool k2) fun _ => Ret.bool k2
  exact ⟨u, h', F74 fnA (fun _ _ => rfl) e, q, k'⟩
theorem all_int {h0 h1 : Hp} (w : h0.Wf) (k1 : Kp no h0 h1) {P : Int → Prop} {f : FuncId} {a c : List V} {v : V} (hf : Good h1 P (.func f a c)) (hv : SlV 1 (fun b o => ∃ x, h0.cell b o = some (.int .i64 x) ∧ P x) v) : Ret h1 no isB (M 44 [v, .func f a c] h1) := by
  obtain ⟨u, h', e, q, k'⟩ : Ret h1 no isB (B44 M v (.func f a c) h1) := by
    unfold B44
    rw [newS_at]
    have kn : Kp no h1 (h1.newRow 64 (vcells (.func f a c)) false) := (Kp.refl _ _).newRow _ _ _
    have hg : Good (h1.newRow 64 (vcells (.func f a c)) false) P (.func 38 [] [.ptr h1.n 0]) := by
      intro x hx h k
      rw [dyn_at]
      obtain ⟨u, h', e, q, k'⟩ : Ret h no isB (B76 M (.int .i64 x) (.ptr h1.n 0) h) := by
        unfold B76
        refine Ret.load1 (v := .func f a c) ?_ ?_
        · rw [k.cell0 (by rw [newRow_n]; omega), newRow_cell, if_pos rfl]; rfl
        · refine Ret.bindB (hf x hx h (kn.then k)) fun b h2 k2 => ?_
          rw [not_at]
          exact Ret.bool k2
      exact ⟨u, h', F76 fnA (fun _ _ => rfl) e, q, k'⟩
    refine Ret.bindB (Ret.of kn (contF w (k1.then kn) hg hv) fun _ h => h.elim) fun b h2 k2 => ?_
    rw [not_at]
    exact Ret.bool k2
  exact ⟨u, h', F44 fnA (fun _ _ => rfl) e, q, k'⟩

/-! a looker -/
structure Lk where
  strs : V
  protos : V
  ups : V
  stmts : V
  exprs : V
  slots : Int
  more : Bool
structure LK (h0 h : Hp) (lb : Nat) (l : Lk) : Prop where
  lt : lb < h.n
  c0 : h.cell lb 0 = some l.strs
  c1 : h.cell lb 1 = some l.protos
  c3 : h.cell lb 3 = some (.bool l.more)
  c4 : h.cell lb 4 = some (.int .i64 l.slots)
  c6 : h.cell lb 6 = some l.ups
  c7 : h.cell lb 7 = some l.stmts
  c8 : h.cell lb 8 = some l.exprs
  s0 : SlV 1 (fun _ _ => True) l.strs
  s1 : SlV 8 (fun _ _ => True) l.protos
  s6 : SlV 2 (UpAt h0) l.ups
  s7 : SlV 7 (StmtAt h0) l.stmts
  s8 : SlV 3 (ExprAt h0) l.exprs
theorem LK.keep {S : Nat → Prop} {h0 h h' : Hp} {lb : Nat} {l : Lk} (hl : LK h0 h lb l) (k : Kp S h h') (hs : ¬ S lb) : LK h0 h' lb l :=
  have e : ∀ o v, h.cell lb o = some v → h'.cell lb o = some v := fun o v hc => by rw [k.cell hl.lt hs]; exact hc
  ⟨Nat.lt_of_lt_of_le hl.lt k.n, e _ _ hl.c0, e _ _ hl.c1, e _ _ hl.c3, e _ _ hl.c4, e _ _ hl.c6, e _ _ hl.c7, e _ _ hl.c8, hl.s0, hl.s1, hl.s6, hl.s7, hl.s8⟩
theorem LK.kp {h0 h h' : Hp} {lb : Nat} {l : Lk} (hl : LK h0 h lb l) (k : Kp no h h') : LK h0 h' lb l := hl.keep k fun h => h
def isU8 (v : V) (_ : Hp) : Prop := ∃ n, v = .int .u8 n
theorem Ret.bindU {h0 h : Hp} {S S' : Nat → Prop} {Q : V → Hp → Prop} {K : V → Hp → VH} {x : VH} (hx : Ret h S' isU8 x) (hK : ∀ n h', Kp S' h h' → Ret h0 S Q (K (.int .u8 n) h')) : Ret h0 S Q (bindS x K) :=
  Ret.bind hx fun _ h' ⟨b, e⟩ hk => by subst e; exact hK b h' hk
theorem kind_ret {h0 h : Hp} (w : h0.Wf) (k : Kp no h0 h) {lb : Nat} {l : Lk} (hl : LK h0 h lb l) {i : Int} (h1 : 0 ≤ i) (h2 : i < slLen l.exprs) : Ret h no isU8 (M 72 [.ptr lb 0, .int .i64 i] h) := by
  obtain ⟨u, h', e, q, k'⟩ : Ret h no isU8 (B72 M (.ptr lb 0) (.int .i64 i) h) := by
    unfold B72
    rw [nil_ptr, addr_at, addr_at]
    refine Ret.load1 hl.c8 ?_
    obtain ⟨b, o, e, hE⟩ := slV_idx hl.s8 h1 h2 (d := .i64) (fun v4 => addrS 0 v4 fun v5 => load1 v5 h fun v6 => some (v6, h))
    rw [e, addr_at]
    obtain ⟨⟨kd, hk⟩, _⟩ := hE
    exact Ret.load1 (k.old w hk) (Ret.done ⟨kd, rfl⟩ (Kp.refl _ _))
  exact ⟨u, h', F72 fnA (fun _ _ => rfl) e, q, k'⟩
theorem value_ret {h0 h : Hp} (w : h0.Wf) (k : Kp no h0 h) {lb : Nat} {l : Lk} (hl : LK h0 h lb l) {i : Int} (h1 : 0 ≤ i) (h2 : i < slLen l.exprs) : Ret h no isB (M 54 [.ptr lb 0, .int .i64 i] h) := by
  obtain ⟨u, h', e, q, k'⟩ : Ret h no isB (B54 M (.ptr lb 0) (.int .i64 i) h) := by
    unfold B54
    refine Ret.bindU (kind_ret w k hl h1 h2) fun n h3 k3 => ?_
    refine Ret.neq (fun _ => ?_) fun _ => ?_
    · simp only [guard_tt, bindS_at]
      refine Ret.bindU (x := bindS _ _) (S' := no) (Ret.bindU (kind_ret w (k.then k3) (hl.kp k3) h1 h2) fun n h4 k4 => Ret.done ⟨n, rfl⟩ k4) fun n h4 k4 => ?_
      refine Ret.bindB (S' := no) (x := intS _ _ _ _) (Ret.neq (fun _ => Ret.bool (Kp.refl _ _)) fun _ => Ret.bool (Kp.refl _ _)) fun b h5 k5 => ?_
      rw [pick_t]
      exact Ret.bool ((k3.then k4).then k5)
    · simp only [guard_ft, pick_f]
      exact Ret.bool k3
  exact ⟨u, h', F54 fnA (fun _ _ => rfl) e, q, k'⟩
theorem item_ret {h0 h : Hp} (w : h0.Wf) (k : Kp no h0 h) {lb : Nat} {l : Lk} (hl : LK h0 h lb l) {i : Int} (h1 : 0 ≤ i) (h2 : i < slLen l.exprs) : Ret h no isB (M 58 [.ptr lb 0, .int .i64 i] h) := by
  obtain ⟨u, h', e, q, k'⟩ : Ret h no isB (B58 M (.ptr lb 0) (.int .i64 i) h) := by
    unfold B58
    refine Ret.bindB (value_ret w k hl h1 h2) fun b h3 k3 => ?_
    rw [not_at]
    exact Ret.bool k3
  exact ⟨u, h', F58 fnA (fun _ _ => rfl) e, q, k'⟩
theorem number_ret (n m : Int) (h : Hp) : Ret h no isB (M 56 [.int .i64 n, .int .i64 m] h) := ⟨_, h, number_at n m h, ⟨_, rfl⟩, Kp.refl _ _⟩
theorem within_ret (n m : Int) (h : Hp) : Ret h no isB (M 30 [.int .i64 n, .int .i64 m] h) := ⟨_, h, within_at n m h, ⟨_, rfl⟩, Kp.refl _ _⟩
/-- what expr works with: boxes of the looker, the expression, the number of its kids. -/
structure EX (h0 h : Hp) (lb bl be bk : Nat) (l : Lk) (kd n : Int) (kids : V) : Prop where
  w : h0.Wf
  k : Kp no h0 h
  lk : LK h0 h lb l
  ll : bl < h.n
  le : be < h.n
  lbk : bk < h.n
  cl : h.cell bl 0 = some (.ptr lb 0)
  e0 : h.cell be 0 = some (.int .u8 kd)
  e1 : h.cell be 1 = some (.int .i64 n)
  e2 : h.cell be 2 = some kids
  ck : h.cell bk 0 = some (.int .i64 (slLen kids : Nat))
  kv : SlV 1 (fun b o => ∃ x, h0.cell b o = some (.int .i64 x) ∧ (0 ≤ x ∧ x < slLen l.exprs)) kids
theorem EX.kp {h0 h h' : Hp} {lb bl be bk : Nat} {l : Lk} {kd n : Int} {kids : V} (x : EX h0 h lb bl be bk l kd n kids) (k : Kp no h h') : EX h0 h' lb bl be bk l kd n kids :=
  ⟨x.w, x.k.then k, x.lk.kp k, Nat.lt_of_lt_of_le x.ll k.n, Nat.lt_of_lt_of_le x.le k.n, Nat.lt_of_lt_of_le x.lbk k.n, by rw [k.cell0 x.ll]; exact x.cl, by rw [k.cell0 x.le]; exact x.e0,
    by rw [k.cell0 x.le]; exact x.e1, by rw [k.cell0 x.le]; exact x.e2, by rw [k.cell0 x.lbk]; exact x.ck, x.kv⟩
theorem EX.good_value {h0 h : Hp} {lb bl be bk : Nat} {l : Lk} {kd n : Int} {kids : V} (x : EX h0 h lb bl be bk l kd n kids) : Good h (fun i => 0 ≤ i ∧ i < slLen l.exprs) (.func 27 [.ptr lb 0] []) := by
  intro i hi h' k
  rw [dyn_at]
  exact value_ret x.w (x.k.then k) (x.lk.kp k) hi.1 hi.2
theorem EX.good_item {h0 h : Hp} {lb bl be bk : Nat} {l : Lk} {kd n : Int} {kids : V} (x : EX h0 h lb bl be bk l kd n kids) : Good h (fun i => 0 ≤ i ∧ i < slLen l.exprs) (.func 29 [.ptr lb 0] []) := by
  intro i hi h' k
  rw [dyn_at]
  exact item_ret x.w (x.k.then k) (x.lk.kp k) hi.1 hi.2
theorem lists_ret {h0 h : Hp} {lb bl be bk : Nat} {l : Lk} {kd n : Int} {kids : V} (x : EX h0 h lb bl be bk l kd n kids) (a b : Int) : Ret h no isB (dynE M (.func 26 [] [.ptr bk 0, .ptr be 0, .ptr bl 0]) [.int .i64 a, .int .i64 b] h) := by
  rw [dyn_at]
  obtain ⟨u, h', e, q, k'⟩ : Ret h no isB (B52 M (.int .i64 a) (.int .i64 b) (.ptr bk 0) (.ptr be 0) (.ptr bl 0) h) := by
    unfold B52
    refine Ret.load1 x.ck (Ret.geq (fun _ => ?_) fun _ => ?_)
    · simp only [guard_tt, bind_load1, bind_bind, bindS_at, bind_intS]
      refine Ret.load1 x.ck (Ret.leq (fun _ => ?_) fun _ => ?_)
      · simp only [bindS_at, pick_t, guard_tt, bind_addr, bind_load1, bind_bind, addr_at]
        refine Ret.load1 x.e2 (Ret.load1 x.cl ?_)
        exact Ret.callB (all_int x.w x.k x.good_value x.kv) fun b h' k' => Ret.bool (Kp.refl _ _)
      · simp only [bindS_at, pick_t, pick_f, guard_ft]
        exact Ret.bool (Kp.refl _ _)
    · simp only [bindS_at, pick_f, guard_ft]
      exact Ret.bool (Kp.refl _ _)
  exact ⟨u, h', F52 fnA (fun _ _ => rfl) e, q, k'⟩
theorem b29_ret {h0 h : Hp} {lb bl be bk : Nat} {l : Lk} {kd n : Int} {kids : V} (x : EX h0 h lb bl be bk l kd n kids) (b : Bool) : Ret h no isB (M 29 [.ptr be 0, .func 26 [] [.ptr bk 0, .ptr be 0, .ptr bl 0], .bool b] h) := by
  obtain ⟨u, h', e, q, k'⟩ : Ret h no isB (B29 M (.ptr be 0) (.func 26 [] [.ptr bk 0, .ptr be 0, .ptr bl 0]) (.bool b) h) := by
    unfold B29
    cases b
    all_goals repeat' (first
      | exact Ret.bool (Kp.refl _ _)
      | (simp only [ifS_true, ifS_false, guard_tt, guard_ft, guard_tf, guard_ff, guard_u, bind_bind, bind_addr, bind_load1, bind_intS, bind_nilS, bind_lenSl, bindS_at, addr_at, nil_ptr, pick_t, pick_f])
      | refine Ret.load1 x.e1 ?_
      | refine Ret.eql (fun _ => ?_) fun _ => ?_
      | refine Ret.callB (lists_ret x _ _) fun b h' k' => ?_)
  exact ⟨u, h', F29 fnA e, q, k'⟩
theorem b27_ret {h0 h : Hp} {lb bl be bk : Nat} {l : Lk} {kd n : Int} {kids : V} (x : EX h0 h lb bl be bk l kd n kids) (b : Bool) : Ret h no isB (M 27 [.ptr bl 0, .ptr be 0, .ptr bk 0, .func 26 [] [.ptr bk 0, .ptr be 0, .ptr bl 0], .int .u8 kd, .bool b] h) := by
  obtain ⟨u, h', e, q, k'⟩ : Ret h no isB (B27 M (.ptr bl 0) (.ptr be 0) (.ptr bk 0) (.func 26 [] [.ptr bk 0, .ptr be 0, .ptr bl 0]) (.int .u8 kd) (.bool b) h) := by
    unfold B27
    cases b
    all_goals repeat' (first
      | exact Ret.bool (Kp.refl _ _)
      | exact b29_ret x _
      | simp only [ifS_true, ifS_false, guard_tt, guard_ft, guard_tf, guard_ff, guard_u, bind_bind, bind_addr, bind_load1, bind_loadN, bind_intS, bind_nilS, bind_lenSl, bind_idxS, bind_idxP, bind_notS, bind_optS, bindS_at, addr_at, nil_ptr, not_at, pick_t, pick_f, Bool.not_true, Bool.not_false]
      | refine Ret.load1 x.e1 ?_
      | refine Ret.load1 x.e2 ?_
      | refine Ret.load1 x.ck ?_
      | refine Ret.load1 x.cl ?_
      | refine Ret.load1 x.lk.c0 ?_
      | refine Ret.load1 x.lk.c1 ?_
      | refine Ret.load1 x.lk.c3 ?_
      | refine Ret.load1 x.lk.c4 ?_
      | refine Ret.load1 x.lk.c6 ?_
      | rw [slV_len x.lk.s0]
      | rw [slV_len x.lk.s1]
      | rw [slV_len x.lk.s6]
      | rw [slV_len x.lk.s7]
      | rw [slV_len x.lk.s8]
      | (refine Ret.callB (lists_ret x _ _) fun b h' k' => ?_; replace x := x.kp k'; clear k'; cases b)
      | (refine Ret.callB (number_ret _ _ _) fun b h' k' => ?_; replace x := x.kp k'; clear k'; cases b)
      | (refine Ret.callB (all_int x.w x.k x.good_item x.kv) fun b h' k' => ?_; replace x := x.kp k'; clear k'; cases b)
      | refine Ret.eql (fun _ => ?_) fun _ => ?_
      | refine Ret.neq (fun _ => ?_) fun _ => ?_
      | refine Ret.lss (fun _ => ?_) fun _ => ?_
      | refine Ret.leq (fun _ => ?_) fun _ => ?_
      | refine Ret.gtr (fun _ => ?_) fun _ => ?_
      | refine Ret.geq (fun _ => ?_) fun _ => ?_)
  exact ⟨u, h', F27 fnA e, q, k'⟩
theorem b25_ret {h0 h : Hp} {lb bl be bk : Nat} {l : Lk} {kd n : Int} {kids : V} (x : EX h0 h lb bl be bk l kd n kids) (b : Bool) (hb : b = true → kd ≠ 7) : Ret h no (isBP fun r => r = true → kd = 7 → 0 ≤ n ∧ n < (slLen l.protos : Int)) (M 25 [.ptr bl 0, .ptr be 0, .ptr bk 0, .func 26 [] [.ptr bk 0, .ptr be 0, .ptr bl 0], .int .u8 kd, .bool b] h) := by
  obtain ⟨u, h', e, q, k'⟩ : Ret h no (isBP fun r => r = true → kd = 7 → 0 ≤ n ∧ n < (slLen l.protos : Int)) (B25 M (.ptr bl 0) (.ptr be 0) (.ptr bk 0) (.func 26 [] [.ptr bk 0, .ptr be 0, .ptr bl 0]) (.int .u8 kd) (.bool b) h) := by
    unfold B25
    cases b
    all_goals (try replace hb := hb rfl)
    all_goals repeat' (first
      | exact Ret.boolP (fun h => (Bool.false_ne_true h).elim) (Kp.refl _ _)
      | exact Ret.boolP (fun _ h7 => by simp only [Int.ofNat_eq_natCast] at *; omega) (Kp.refl _ _)
      | exact Ret.mono (b27_ret x _) fun _ _ ⟨r, e⟩ => ⟨r, e, fun _ h7 => by simp only [Int.ofNat_eq_natCast] at *; omega⟩
      | simp only [ifS_true, ifS_false, guard_tt, guard_ft, guard_tf, guard_ff, guard_u, bind_bind, bind_addr, bind_load1, bind_loadN, bind_intS, bind_nilS, bind_lenSl, bind_idxS, bind_idxP, bind_notS, bind_optS, bindS_at, addr_at, nil_ptr, not_at, pick_t, pick_f, Bool.not_true, Bool.not_false]
      | refine Ret.load1 x.e1 ?_
      | refine Ret.load1 x.e2 ?_
      | refine Ret.load1 x.ck ?_
      | refine Ret.load1 x.cl ?_
      | refine Ret.load1 x.lk.c0 ?_
      | refine Ret.load1 x.lk.c1 ?_
      | refine Ret.load1 x.lk.c3 ?_
      | refine Ret.load1 x.lk.c4 ?_
      | refine Ret.load1 x.lk.c6 ?_
      | rw [slV_len x.lk.s0]
      | rw [slV_len x.lk.s1]
      | rw [slV_len x.lk.s6]
      | rw [slV_len x.lk.s7]
      | rw [slV_len x.lk.s8]
      | (refine Ret.callB (lists_ret x _ _) fun b h' k' => ?_; replace x := x.kp k'; clear k'; cases b)
      | (with_reducible refine Ret.number (fun _ => ?_) fun _ => ?_)
      | (refine Ret.callB (all_int x.w x.k x.good_item x.kv) fun b h' k' => ?_; replace x := x.kp k'; clear k'; cases b)
      | refine Ret.eql (fun _ => ?_) fun _ => ?_
      | refine Ret.neq (fun _ => ?_) fun _ => ?_
      | refine Ret.lss (fun _ => ?_) fun _ => ?_
      | refine Ret.leq (fun _ => ?_) fun _ => ?_
      | refine Ret.gtr (fun _ => ?_) fun _ => ?_
      | refine Ret.geq (fun _ => ?_) fun _ => ?_)
  exact ⟨u, h', F25 fnA e, q, k'⟩
theorem b23_ret {h0 h : Hp} {lb bl be bk : Nat} {l : Lk} {kd n : Int} {kids : V} (x : EX h0 h lb bl be bk l kd n kids) (b : Bool) (hb : b = true → kd ≠ 7) : Ret h no (isBP fun r => r = true → kd = 7 → 0 ≤ n ∧ n < (slLen l.protos : Int)) (M 23 [.ptr bl 0, .ptr be 0, .ptr bk 0, .func 26 [] [.ptr bk 0, .ptr be 0, .ptr bl 0], .int .u8 kd, .bool b] h) := by
  obtain ⟨u, h', e, q, k'⟩ : Ret h no (isBP fun r => r = true → kd = 7 → 0 ≤ n ∧ n < (slLen l.protos : Int)) (B23 M (.ptr bl 0) (.ptr be 0) (.ptr bk 0) (.func 26 [] [.ptr bk 0, .ptr be 0, .ptr bl 0]) (.int .u8 kd) (.bool b) h) := by
    unfold B23
    cases b
    all_goals (try replace hb := hb rfl)
    all_goals repeat' (first
      | exact Ret.boolP (fun h => (Bool.false_ne_true h).elim) (Kp.refl _ _)
      | exact Ret.boolP (fun _ h7 => by simp only [Int.ofNat_eq_natCast] at *; omega) (Kp.refl _ _)
      | exact b25_ret x _ (fun h => (Bool.false_ne_true h).elim)
      | exact b25_ret x _ (fun _ => by simp only [Int.ofNat_eq_natCast] at *; omega)
      | simp only [ifS_true, ifS_false, guard_tt, guard_ft, guard_tf, guard_ff, guard_u, bind_bind, bind_addr, bind_load1, bind_loadN, bind_intS, bind_nilS, bind_lenSl, bind_idxS, bind_idxP, bind_notS, bind_optS, bindS_at, addr_at, nil_ptr, not_at, pick_t, pick_f, Bool.not_true, Bool.not_false]
      | refine Ret.load1 x.e1 ?_
      | refine Ret.load1 x.e2 ?_
      | refine Ret.load1 x.ck ?_
      | refine Ret.load1 x.cl ?_
      | refine Ret.load1 x.lk.c0 ?_
      | refine Ret.load1 x.lk.c1 ?_
      | refine Ret.load1 x.lk.c3 ?_
      | refine Ret.load1 x.lk.c4 ?_
      | refine Ret.load1 x.lk.c6 ?_
      | rw [slV_len x.lk.s0]
      | rw [slV_len x.lk.s1]
      | rw [slV_len x.lk.s6]
      | rw [slV_len x.lk.s7]
      | rw [slV_len x.lk.s8]
      | (refine Ret.callB (lists_ret x _ _) fun b h' k' => ?_; replace x := x.kp k'; clear k'; cases b)
      | (with_reducible refine Ret.number (fun _ => ?_) fun _ => ?_)
      | (refine Ret.callB (all_int x.w x.k x.good_item x.kv) fun b h' k' => ?_; replace x := x.kp k'; clear k'; cases b)
      | refine Ret.eql (fun _ => ?_) fun _ => ?_
      | refine Ret.neq (fun _ => ?_) fun _ => ?_
      | refine Ret.lss (fun _ => ?_) fun _ => ?_
      | refine Ret.leq (fun _ => ?_) fun _ => ?_
      | refine Ret.gtr (fun _ => ?_) fun _ => ?_
      | refine Ret.geq (fun _ => ?_) fun _ => ?_)
  exact ⟨u, h', F23 fnA e, q, k'⟩

theorem expr_ret {h0 h : Hp} (w : h0.Wf) (k : Kp no h0 h) {lb : Nat} {l : Lk} (hl : LK h0 h lb l) {kd n : Int} {kids : V}
    (kv : SlV 1 (fun b o => ∃ x, h0.cell b o = some (.int .i64 x) ∧ (0 ≤ x ∧ x < slLen l.exprs)) kids) : Ret h no (isBP fun r => r = true → kd = 7 → 0 ≤ n ∧ n < (slLen l.protos : Int)) (M 40 [.ptr lb 0, .agg [.int .u8 kd, .int .i64 n, kids]] h) := by
  obtain ⟨u, h', e, q, k'⟩ : Ret h no (isBP fun r => r = true → kd = 7 → 0 ≤ n ∧ n < (slLen l.protos : Int)) (B40 M (.ptr lb 0) (.agg [.int .u8 kd, .int .i64 n, kids]) h) := by
    unfold B40
    simp only [newS_at, vcells, addr_at]
    have k1 : Kp no h (h.newRow 55 [.ptr lb 0] false) := (Kp.refl _ _).newRow _ _ _
    have k2 : Kp no h ((h.newRow 55 [.ptr lb 0] false).newRow 41 [.int .u8 kd, .int .i64 n, kids] false) := k1.newRow _ _ _
    refine Ret.load1 (v := kids) (by simp [newRow_cell, newRow_n]) ?_
    rw [slV_len kv]
    have k3 := k2.newRow 3 [.int .i64 (.ofNat 0)] false
    have k4 := k3.wr (b := h.n + 2) 0 (.int .i64 (slLen kids : Nat)) (.inr (by omega))
    have hw : 0 < (((h.newRow 55 [.ptr lb 0] false).newRow 41 [.int .u8 kd, .int .i64 n, kids] false).newRow 3 [.int .i64 (.ofNat 0)] false).wide (h.n + 2) := by simp [newRow_wide, newRow_n]
    simp only [newRow_n]
    refine Ret.storeC rfl (by simp [newRow_wide, newRow_n]) ?_
    generalize hH : ((((h.newRow 55 [.ptr lb 0] false).newRow 41 [.int .u8 kd, .int .i64 n, kids] false).newRow 3 [.int .i64 (.ofNat 0)] false).wr (h.n + 2) 0 (.int .i64 (slLen kids : Nat))) = H at k4 ⊢
    have hc : ∀ x y, H.cell x y = if h.n + 2 = x ∧ 0 = y then some (.int .i64 (slLen kids : Nat)) else (((h.newRow 55 [.ptr lb 0] false).newRow 41 [.int .u8 kd, .int .i64 n, kids] false).newRow 3 [.int .i64 (.ofNat 0)] false).cell x y := by
      intro x y; rw [← hH, wr_cell _ hw]
    have hn : H.n = h.n + 3 := by rw [← hH, wr_n]; rfl
    have x : EX h0 H lb h.n (h.n + 1) (h.n + 2) l kd n kids := ⟨w, k.then k4, hl.kp k4, by omega, by omega, by omega, by rw [hc]; simp [newRow_cell, newRow_n] <;> omega, by rw [hc]; simp [newRow_cell, newRow_n] <;> omega,
      by rw [hc]; simp [newRow_cell, newRow_n] <;> omega, by rw [hc]; simp [newRow_cell, newRow_n] <;> omega, by rw [hc]; simp, kv⟩
    clear hc hH hw
    refine Ret.load1 x.e0 ?_
    refine Ret.eql (fun _ => ?_) fun _ => ?_
    · rw [ifS_true]; exact Ret.of k4 (b23_ret x _ (fun _ => by simp only [Int.ofNat_eq_natCast] at *; omega)) fun _ h => h.elim
    rw [ifS_false]
    refine Ret.eql (fun _ => ?_) fun _ => ?_
    · rw [ifS_true]; exact Ret.of k4 (b23_ret x _ (fun _ => by simp only [Int.ofNat_eq_natCast] at *; omega)) fun _ h => h.elim
    rw [ifS_false]
    exact Ret.eql (fun _ => Ret.of k4 (b23_ret x _ (fun _ => by simp only [Int.ofNat_eq_natCast] at *; omega)) fun _ h => h.elim) fun _ => Ret.of k4 (b23_ret x _ (fun h => (Bool.false_ne_true h).elim)) fun _ h => h.elim
  exact ⟨u, h', F40 fnA (fun _ _ => rfl) e, q, k'⟩

/-! use: expressions are counted -/
structure US (h : Hp) (lb ub en : Nat) : Prop where
  lt : ub < h.n
  ne : ub ≠ lb
  c10 : h.cell lb 10 = some (.slice ub 0 en en false)
  wide : en ≤ h.wide ub
  ints : ∀ j, j < en → ∃ x, h.cell ub j = some (.int .i64 x)
theorem US.kp {h h' : Hp} {lb ub en : Nat} (x : US h lb ub en) (hl : lb < h.n) (k : Kp no h h') : US h' lb ub en :=
  ⟨Nat.lt_of_lt_of_le x.lt k.n, x.ne, by rw [k.cell0 hl]; exact x.c10, by rw [k.wide0 x.lt]; exact x.wide, fun j hj => by rw [k.cell0 x.lt]; exact x.ints j hj⟩
abbrev inR (h0 : Hp) (en : Nat) (v : V) : Prop := SlV 1 (fun b o => ∃ x, h0.cell b o = some (.int .i64 x) ∧ (0 ≤ x ∧ x < (en : Int))) v
theorem use_loop {h0 : Hp} (w : h0.Wf) {lb ub en below : Nat} (hbe : below ≤ en) (hnew : h0.n ≤ ub) {l : Lk} {b o n c : Nat} (hn : n ≤ 9223372036854775807) (hE : ∀ i, i < n → IntAt h0 b (o + i * 1)) :
    ∀ m i : Nat, i + m = n → (∀ j, j < i → ∃ x, h0.cell b (o + j * 1) = some (.int .i64 x) ∧ (0 ≤ x ∧ x < (below : Int))) → ∀ h, Kp no h0 h → LK h0 h lb l → US h lb ub en →
      Ret h (· = ub) (fun v h' => ∃ r, v = .bool r ∧ US h' lb ub en ∧ (r = true → ∀ j, j < n → ∃ x, h0.cell b (o + j * 1) = some (.int .i64 x) ∧ (0 ≤ x ∧ x < (below : Int))))
        (M 21 [.ptr lb 0, .int .i64 (below : Nat), .slice b o n c false, .int .i64 (n : Nat), .int .i64 (i : Nat)] h)
  | 0, i, hi, hlo, h, k, hl, hu => by
    refine (?_ : Ret h _ _ (M 21 _ h))
    obtain ⟨v, h', e, q, k'⟩ : Ret h (· = ub) (fun v h' => ∃ r, v = .bool r ∧ US h' lb ub en ∧ (r = true → ∀ j, j < n → ∃ x, h0.cell b (o + j * 1) = some (.int .i64 x) ∧ (0 ≤ x ∧ x < (below : Int))))
        (B21 M (.ptr lb 0) (.int .i64 (below : Nat)) (.slice b o n c false) (.int .i64 (n : Nat)) (.int .i64 (i : Nat)) h) := by
      unfold B21
      refine Ret.lss (fun hlt => by omega) (fun _ => ?_)
      rw [ifS_false]
      exact Ret.done ⟨true, rfl, hu, fun _ j hj => hlo j (by omega)⟩ (Kp.refl _ _)
    exact ⟨v, h', F21 fnA e, q, k'⟩
  | m + 1, i, hi, hlo, h, k, hl, hu => by
    obtain ⟨v, h', e, q, k'⟩ : Ret h (· = ub) (fun v h' => ∃ r, v = .bool r ∧ US h' lb ub en ∧ (r = true → ∀ j, j < n → ∃ x, h0.cell b (o + j * 1) = some (.int .i64 x) ∧ (0 ≤ x ∧ x < (below : Int))))
        (B21 M (.ptr lb 0) (.int .i64 (below : Nat)) (.slice b o n c false) (.int .i64 (n : Nat)) (.int .i64 (i : Nat)) h) := by
      unfold B21
      refine Ret.lss (fun hlt => ?_) (fun _ => by omega)
      rw [ifS_true]
      refine Ret.idx (by omega) ?_
      obtain ⟨x, hx⟩ := hE i (by omega)
      refine Ret.load1 (k.old w hx) ?_
      rw [within_at, bindS_at, not_at]
      by_cases hr : 0 ≤ x ∧ x < (below : Int)
      · rw [decide_eq_true hr, Bool.not_true, ifS_false, nil_ptr, addr_at]
        refine Ret.load1 hu.c10 ?_
        refine Ret.idxI hr.1 (by omega) ?_
        obtain ⟨y, hy⟩ := hu.ints x.toNat (by omega)
        refine Ret.load1 (v := .int .i64 y) (by simpa using hy) ?_
        rw [intS_at, int_add, optS_at]
        refine Ret.idxI hr.1 (by omega) ?_
        have hw : 0 + x.toNat * 1 < h.wide ub := by have := hu.wide; omega
        refine Ret.storeC rfl hw ?_
        rw [intS_at, int_add, optS_at, wrap64 (n := (i : Int) + Int.ofNat 1) (by simp; omega) (by simp; omega)]
        have kw : Kp (· = ub) h (h.wr ub (0 + x.toNat * 1) (.int .i64 (IntKind.i64.wrap (y + Int.ofNat 1)))) := (Kp.refl _ _).wr _ _ (.inl rfl)
        have k0 : Kp no h0 (h.wr ub (0 + x.toNat * 1) (.int .i64 (IntKind.i64.wrap (y + Int.ofNat 1)))) := k.wr _ _ (.inr hnew)
        have hu' : US (h.wr ub (0 + x.toNat * 1) (.int .i64 (IntKind.i64.wrap (y + Int.ofNat 1)))) lb ub en := by
          refine ⟨by rw [wr_n]; exact hu.lt, hu.ne, by rw [wr_cell _ hw, if_neg (fun e => hu.ne e.1)]; exact hu.c10, by rw [wr_wide]; exact hu.wide, fun j hj => ?_⟩
          rw [wr_cell _ hw]
          split
          · exact ⟨_, rfl⟩
          · exact hu.ints j hj
        have := use_loop w hbe hnew (c := c) hn hE m (i + 1) (by omega) (fun j hj => by
          by_cases e : j = i
          · subst e; exact ⟨x, hx, hr⟩
          · exact hlo j (by omega)) _ k0 (hl.keep kw (fun e => hu.ne e.symm)) hu'
        exact Ret.of kw this fun b hb => .inl hb
      · rw [decide_eq_false hr, Bool.not_false, ifS_true]
        exact Ret.done ⟨false, rfl, hu, fun h => by cases h⟩ (Kp.refl _ _)
    exact ⟨v, h', F21 fnA e, q, k'⟩
theorem use_ret {h0 : Hp} (w : h0.Wf) {lb ub en below : Nat} (hbe : below ≤ en) (hnew : h0.n ≤ ub) {l : Lk} {v : V} (hv : SlV 1 (IntAt h0) v) {h : Hp} (k : Kp no h0 h) (hl : LK h0 h lb l) (hu : US h lb ub en) :
    Ret h (· = ub) (fun u h' => ∃ r, u = .bool r ∧ US h' lb ub en ∧ (r = true → inR h0 below v)) (M 38 [.ptr lb 0, v, .int .i64 (below : Nat)] h) := by
  obtain ⟨u, h', e, q, k'⟩ : Ret h (· = ub) (fun u h' => ∃ r, u = .bool r ∧ US h' lb ub en ∧ (r = true → inR h0 below v)) (B38 M (.ptr lb 0) v (.int .i64 (below : Nat)) h) := by
    unfold B38
    rw [slV_len hv]
    rcases hv with rfl | ⟨b, o, n, c, rfl, hn, hE⟩
    · obtain ⟨u, h', e, q, k'⟩ : Ret h (· = ub) (fun u h' => ∃ r, u = .bool r ∧ US h' lb ub en ∧ (r = true → inR h0 below .nilSlice)) (B21 M (.ptr lb 0) (.int .i64 (below : Nat)) .nilSlice (.int .i64 ((0 : Nat) : Int)) (.int .i64 ((0 : Nat) : Int)) h) := by
        unfold B21
        refine Ret.lss (fun hlt => by omega) (fun _ => ?_)
        rw [ifS_false]
        exact Ret.done ⟨true, rfl, hu, fun _ => .inl rfl⟩ (Kp.refl _ _)
      exact ⟨u, h', F21 fnA e, q, k'⟩
    · refine Ret.mono (use_loop w hbe hnew (c := c) hn hE n 0 (by omega) (fun j hj => by omega) h k hl hu) ?_
      rintro u h' ⟨r, rfl, a, b'⟩
      exact ⟨r, rfl, a, fun hr => .inr ⟨b, o, n, c, rfl, hn, b' hr⟩⟩
  exact ⟨u, h', F38 fnA (fun _ _ => rfl) e, q, k'⟩

/-! a statement -/
theorem in_ret (n a b : Int) (h : Hp) : Ret h no (isBP fun r => r = true → a ≤ n ∧ n ≤ b) (M 64 [.int .i64 n, .agg [.int .i64 a, .int .i64 b]] h) := by
  obtain ⟨u, h', e, q, k'⟩ : Ret h no (isBP fun r => r = true → a ≤ n ∧ n ≤ b) (B64 M (.int .i64 n) (.agg [.int .i64 a, .int .i64 b]) h) := by
    unfold B64
    refine Ret.row ?_
    refine (?_ : Ret _ _ _ (idxP 1 2 (.ptr h.n 0) (.int .i64 ((0 : Nat) : Int)) _))
    rw [idxP_at _ _ _ _ _ _ _ (by omega)]
    refine Ret.load1 (v := .int .i64 a) (by simp [newRow_cell, vcells]) ?_
    refine Ret.geq (fun h1 => ?_) fun h1 => ?_
    · simp only [guard_tt, bindS_at, bind_bind, bind_idxP, bind_load1, bind_intS]
      refine (?_ : Ret _ _ _ (idxP 1 2 (.ptr h.n 0) (.int .i64 ((1 : Nat) : Int)) _))
      rw [idxP_at _ _ _ _ _ _ _ (by omega)]
      refine Ret.load1 (v := .int .i64 b) (by simp [newRow_cell, vcells]) ?_
      simp only [pick_t, bindS_at]
      exact Ret.leq (fun h2 => Ret.boolP (fun _ => ⟨h1, h2⟩) (Kp.refl _ _)) fun h2 => Ret.boolP (fun h => by cases h) (Kp.refl _ _)
    · simp only [guard_ft, pick_f]
      exact Ret.boolP (fun h => by cases h) (Kp.refl _ _)
  exact ⟨u, h', F64 fnA (fun _ _ => rfl) e, q, k'⟩
structure ST (h0 h : Hp) (lb bl bs b1 b2 b3 b4 : Nat) (l : Lk) (kd : Int) (slots targets exprs : V) (next els line : Int) : Prop where
  w : h0.Wf
  k : Kp no h0 h
  lk : LK h0 h lb l
  ll : bl < h.n
  ls : bs < h.n
  l1 : b1 < h.n
  l2 : b2 < h.n
  l3 : b3 < h.n
  l4 : b4 < h.n
  cl : h.cell bl 0 = some (.ptr lb 0)
  s0 : h.cell bs 0 = some (.int .u8 kd)
  s1 : h.cell bs 1 = some slots
  s2 : h.cell bs 2 = some targets
  s3 : h.cell bs 3 = some exprs
  s4 : h.cell bs 4 = some (.int .i64 next)
  s5 : h.cell bs 5 = some (.int .i64 els)
  s6 : h.cell bs 6 = some (.int .i64 line)
  a10 : h.cell b1 0 = some (.int .i64 0)
  a11 : h.cell b1 (0 + 1) = some (.int .i64 0)
  a20 : h.cell b2 0 = some (.int .i64 1)
  a21 : h.cell b2 (0 + 1) = some (.int .i64 1)
  a30 : h.cell b3 0 = some (.int .i64 1)
  a31 : h.cell b3 (0 + 1) = some (.int .i64 200)
  a40 : h.cell b4 0 = some (.int .i64 0)
  a41 : h.cell b4 (0 + 1) = some (.int .i64 200)
  v1 : SlV 1 (IntAt h0) slots
  v2 : inR h0 (slLen l.exprs) targets
  v3 : inR h0 (slLen l.exprs) exprs
theorem ST.kp {h0 h h' : Hp} {lb bl bs b1 b2 b3 b4 : Nat} {l : Lk} {kd : Int} {slots targets exprs : V} {next els line : Int} (x : ST h0 h lb bl bs b1 b2 b3 b4 l kd slots targets exprs next els line) (k : Kp no h h') :
    ST h0 h' lb bl bs b1 b2 b3 b4 l kd slots targets exprs next els line :=
  have e : ∀ {b o v}, b < h.n → h.cell b o = some v → h'.cell b o = some v := fun hb hc => by rw [k.cell0 hb]; exact hc
  have lt : ∀ {b}, b < h.n → b < h'.n := fun hb => Nat.lt_of_lt_of_le hb k.n
  ⟨x.w, x.k.then k, x.lk.kp k, lt x.ll, lt x.ls, lt x.l1, lt x.l2, lt x.l3, lt x.l4, e x.ll x.cl, e x.ls x.s0, e x.ls x.s1, e x.ls x.s2, e x.ls x.s3, e x.ls x.s4, e x.ls x.s5, e x.ls x.s6,
    e x.l1 x.a10, e x.l1 x.a11, e x.l2 x.a20, e x.l2 x.a21, e x.l3 x.a30, e x.l3 x.a31, e x.l4 x.a40, e x.l4 x.a41, x.v1, x.v2, x.v3⟩
theorem slists_ret {h0 h : Hp} {lb bl bs b1 b2 b3 b4 : Nat} {l : Lk} {kd : Int} {slots targets exprs : V} {next els line : Int} (x : ST h0 h lb bl bs b1 b2 b3 b4 l kd slots targets exprs next els line) (a b c d e f : Int) :
    Ret h no (isBP fun r => r = true → (a ≤ slLen slots ∧ slLen slots ≤ b) ∧ (e ≤ slLen exprs ∧ slLen exprs ≤ f))
      (dynE M (.func 31 [] [.ptr bs 0]) [.agg [.int .i64 a, .int .i64 b], .agg [.int .i64 c, .int .i64 d], .agg [.int .i64 e, .int .i64 f]] h) := by
  rw [dyn_at]
  obtain ⟨u, h', e', q, k'⟩ : Ret h no (isBP fun r => r = true → (a ≤ slLen slots ∧ slLen slots ≤ b) ∧ (e ≤ slLen exprs ∧ slLen exprs ≤ f))
      (B62 M (.agg [.int .i64 a, .int .i64 b]) (.agg [.int .i64 c, .int .i64 d]) (.agg [.int .i64 e, .int .i64 f]) (.ptr bs 0) h) := by
    unfold B62
    simp only [newS_at, vcells, addr_at]
    have k3 : Kp no h (((h.newRow 66 [.int .i64 a, .int .i64 b] false).newRow 66 [.int .i64 c, .int .i64 d] false).newRow 66 [.int .i64 e, .int .i64 f] false) := (((Kp.refl _ _).newRow _ _ _).newRow _ _ _).newRow _ _ _
    simp only [newRow_n]
    have c0 : (((h.newRow 66 [.int .i64 a, .int .i64 b] false).newRow 66 [.int .i64 c, .int .i64 d] false).newRow 66 [.int .i64 e, .int .i64 f] false).cells h.n 0 2 = some [.int .i64 a, .int .i64 b] := cells2 (by simp [newRow_cell, newRow_n] <;> omega) (by simp [newRow_cell, newRow_n] <;> omega)
    have c1 : (((h.newRow 66 [.int .i64 a, .int .i64 b] false).newRow 66 [.int .i64 c, .int .i64 d] false).newRow 66 [.int .i64 e, .int .i64 f] false).cells (h.n + 1) 0 2 = some [.int .i64 c, .int .i64 d] := cells2 (by simp [newRow_cell, newRow_n] <;> omega) (by simp [newRow_cell, newRow_n] <;> omega)
    have c2 : (((h.newRow 66 [.int .i64 a, .int .i64 b] false).newRow 66 [.int .i64 c, .int .i64 d] false).newRow 66 [.int .i64 e, .int .i64 f] false).cells (h.n + 1 + 1) 0 2 = some [.int .i64 e, .int .i64 f] := cells2 (by simp [newRow_cell, newRow_n] <;> omega) (by simp [newRow_cell, newRow_n] <;> omega)
    have hn : (((h.newRow 66 [.int .i64 a, .int .i64 b] false).newRow 66 [.int .i64 c, .int .i64 d] false).newRow 66 [.int .i64 e, .int .i64 f] false).n = h.n + 3 := rfl
    generalize (((h.newRow 66 [.int .i64 a, .int .i64 b] false).newRow 66 [.int .i64 c, .int .i64 d] false).newRow 66 [.int .i64 e, .int .i64 f] false) = H at k3 c0 c1 c2 hn ⊢
    have y := x.kp k3
    refine Ret.of k3 (?_ : Ret H no _ _) fun _ h => h.elim
    refine Ret.load1 y.s1 ?_
    rw [slV_len y.v1]
    refine Ret.loadN (by decide) c0 ?_
    refine Ret.callP (in_ret _ _ _ _) fun r H1 hr k1 => ?_
    have c1' : H1.cells (h.n + 1) 0 2 = some [.int .i64 c, .int .i64 d] := by rw [← c1]; simp only [Hp.cells, k1.cell0 (b := h.n + 1) (by omega)]
    have c2' : H1.cells (h.n + 1 + 1) 0 2 = some [.int .i64 e, .int .i64 f] := by rw [← c2]; simp only [Hp.cells, k1.cell0 (b := h.n + 1 + 1) (by omega)]
    have hn1 := k1.n
    replace y := y.kp k1
    clear c1 c2 c0 k1
    cases r
    · simp only [guard_ft, pick_f, ifS_false]
      exact Ret.boolP (fun h => by cases h) (Kp.refl _ _)
    · simp only [guard_tt, bindS_at, bind_bind, bind_addr, addr_at, bind_load1, bind_lenSl, bind_loadN, pick_t]
      refine Ret.load1 y.s2 ?_
      rw [slV_len y.v2]
      refine Ret.loadN (by decide) c1' ?_
      refine Ret.callP (in_ret _ _ _ _) fun r2 H2 hr2 k2 => ?_
      have c2'' : H2.cells (h.n + 1 + 1) 0 2 = some [.int .i64 e, .int .i64 f] := by rw [← c2']; simp only [Hp.cells, k2.cell0 (b := h.n + 1 + 1) (by omega)]
      replace y := y.kp k2
      cases r2
      · simp only [guard_ft, pick_f, ifS_false]
        exact Ret.boolP (fun h => by cases h) (Kp.refl _ _)
      · simp only [guard_tt, bindS_at, bind_bind, bind_addr, addr_at, bind_load1, bind_lenSl, bind_loadN, pick_t]
        refine Ret.load1 y.s3 ?_
        rw [slV_len y.v3]
        refine Ret.loadN (by decide) c2'' ?_
        refine Ret.callP (in_ret _ _ _ _) fun r3 H3 hr3 k3 => ?_
        exact Ret.boolP (fun h => ⟨hr rfl, hr3 h⟩) (Kp.refl _ _)
  exact ⟨u, h', F62 fnA (fun _ _ => rfl) e', q, k'⟩
theorem to_ret {h0 h : Hp} {lb bl bs b1 b2 b3 b4 : Nat} {l : Lk} {kd : Int} {slots targets exprs : V} {next els line : Int} (x : ST h0 h lb bl bs b1 b2 b3 b4 l kd slots targets exprs next els line) (n : Int) :
    Ret h no (isBP fun r => r = true → n = -1 ∨ (0 ≤ n ∧ n < slLen l.stmts)) (dynE M (.func 30 [] [.ptr bl 0]) [.int .i64 n] h) := by
  rw [dyn_at]
  obtain ⟨u, h', e', q, k'⟩ : Ret h no (isBP fun r => r = true → n = -1 ∨ (0 ≤ n ∧ n < slLen l.stmts)) (B60 M (.int .i64 n) (.ptr bl 0) h) := by
    unfold B60
    refine Ret.eql (fun h1 => ?_) fun h1 => ?_
    · simp only [guard_tf, guard_u, pick_t]
      exact Ret.boolP (fun _ => .inl h1) (Kp.refl _ _)
    · simp only [guard_ff, bindS_at, bind_bind, bind_load1]
      refine Ret.load1 x.cl ?_
      simp only [bind_nilS, bind_addr, nil_ptr, addr_at, bind_load1, bindS_at]
      refine Ret.load1 x.lk.c7 ?_
      simp only [bindS_at, bind_lenSl]
      rw [slV_len x.lk.s7]
      simp only [bindS_at, within_at, pick_f]
      exact Ret.boolP (fun h => .inr (of_decide_eq_true h)) (Kp.refl _ _)
  exact ⟨u, h', F60 fnA (fun _ _ => rfl) e', q, k'⟩
theorem hidden_ret {h0 h : Hp} {lb bl bs b1 b2 b3 b4 : Nat} {l : Lk} {kd : Int} {slots targets exprs : V} {next els line : Int} (x : ST h0 h lb bl bs b1 b2 b3 b4 l kd slots targets exprs next els line) (hs : 1 ≤ slLen slots) :
    Ret h no isB (dynE M (.func 33 [] [.ptr bs 0, .ptr bl 0]) [] h) := by
  rw [dyn_at]
  obtain ⟨u, h', e', q, k'⟩ : Ret h no isB (B66 M (.ptr bs 0) (.ptr bl 0) h) := by
    unfold B66
    rw [addr_at]
    refine Ret.load1 x.s1 ?_
    obtain ⟨b, o, e, ⟨n, hE⟩⟩ := slV_idx x.v1 (i := Int.ofNat 0) (by simp) (by simp; omega) (d := .i64) (fun v2 => load1 v2 h fun v3 => intS .add v3 (.int .i64 (.ofNat 2)) fun v4 => load1 (.ptr bl 0) h fun v5 => nilS v5 fun v6 => addrS 2 v6 fun v7 => addrS 2 v7 fun v8 => load1 v8 h fun v9 => bindS (M 30 [v4, v9] h) fun v10 h11 => some (v10, h11))
    rw [e]
    refine Ret.load1 (x.k.old x.w hE) ?_
    rw [intS_at, int_add, optS_at]
    refine Ret.load1 x.cl ?_
    rw [nil_ptr, addr_at, addr_at]
    refine Ret.load1 x.lk.c4 ?_
    rw [within_at, bindS_at]
    exact Ret.bool (Kp.refl _ _)
  exact ⟨u, h', F66 fnA (fun _ _ => rfl) e', q, k'⟩
theorem slot_good {h0 h : Hp} {lb bl bs b1 b2 b3 b4 : Nat} {l : Lk} {kd : Int} {slots targets exprs : V} {next els line : Int} (x : ST h0 h lb bl bs b1 b2 b3 b4 l kd slots targets exprs next els line) :
    Good h (fun _ => True) (.func 34 [] [.ptr bl 0]) := by
  intro n _ h1 k1
  rw [dyn_at]
  have y := x.kp k1
  obtain ⟨u, h', e', q, k'⟩ : Ret h1 no isB (B68 M (.int .i64 n) (.ptr bl 0) h1) := by
    unfold B68
    refine Ret.load1 y.cl ?_
    rw [nil_ptr, addr_at, addr_at]
    refine Ret.load1 y.lk.c4 ?_
    rw [within_at, bindS_at]
    exact Ret.bool (Kp.refl _ _)
  exact ⟨u, h', F68 fnA (fun _ _ => rfl) e', q, k'⟩
theorem contains_loop {b n c : Nat} (kd : Int) : ∀ m i : Nat, i + m = n → ∀ h, n ≤ 1000 → (∀ j, j < n → ∃ x, h.cell b (0 + j * 1) = some (.int .u8 x)) → Ret h no isI (M 35 [.slice b 0 n c false, .int .u8 kd, .int .i64 (n : Nat), .int .i64 (i : Nat)] h)
  | 0, i, hi, h, hn, hc => by
    obtain ⟨u, h', e', q, k'⟩ : Ret h no isI (B35 M (.slice b 0 n c false) (.int .u8 kd) (.int .i64 (n : Nat)) (.int .i64 (i : Nat)) h) := by
      unfold B35
      refine Ret.lss (fun hlt => by omega) (fun _ => ?_)
      rw [ifS_false]
      exact Ret.done ⟨_, rfl⟩ (Kp.refl _ _)
    exact ⟨u, h', F35 fnA e', q, k'⟩
  | m + 1, i, hi, h, hn, hc => by
    obtain ⟨u, h', e', q, k'⟩ : Ret h no isI (B35 M (.slice b 0 n c false) (.int .u8 kd) (.int .i64 (n : Nat)) (.int .i64 (i : Nat)) h) := by
      unfold B35
      refine Ret.lss (fun hlt => ?_) (fun _ => by omega)
      rw [ifS_true]
      refine Ret.idx (by omega) ?_
      obtain ⟨x, hx⟩ := hc i (by omega)
      refine Ret.load1 hx (Ret.eql (fun _ => ?_) fun _ => ?_)
      · rw [ifS_true]; exact Ret.done ⟨_, rfl⟩ (Kp.refl _ _)
      · rw [ifS_false, intS_at, int_add, optS_at, wrap64 (by simp; omega) (by simp; omega)]
        exact contains_loop kd m (i + 1) (by omega) h hn hc
    exact ⟨u, h', F35 fnA e', q, k'⟩
theorem target_ret {h0 h : Hp} (w : h0.Wf) (k : Kp no h0 h) {lb : Nat} {l : Lk} (hl : LK h0 h lb l) {i : Int} (h1 : 0 ≤ i) (h2 : i < slLen l.exprs) : Ret h no isB (M 70 [.ptr lb 0, .int .i64 i] h) := by
  obtain ⟨u, h', e, q, k'⟩ : Ret h no isB (B70 M (.ptr lb 0) (.int .i64 i) h) := by
    unfold B70
    have e1 : bldSl h [(0, (.int .u8 (.ofNat 8))), (1, (.int .u8 (.ofNat 9))), (2, (.int .u8 (.ofNat 10))), (3, (.int .u8 (.ofNat 11)))] 38 4 1 (.int .u8 (.ofNat 0)) = some (.slice h.n 0 4 4 false, h.newRow 38 [.int .u8 (.ofNat 8), .int .u8 (.ofNat 9), .int .u8 (.ofNat 10), .int .u8 (.ofNat 11)] false) := rfl
    rw [e1, bindS_at]
    have kn : Kp no h (h.newRow 38 [.int .u8 (.ofNat 8), .int .u8 (.ofNat 9), .int .u8 (.ofNat 10), .int .u8 (.ofNat 11)] false) := (Kp.refl _ _).newRow _ _ _
    refine Ret.of kn (S' := no) ?_ fun _ h => h.elim
    refine Ret.bindU (kind_ret w (k.then kn) (hl.kp kn) h1 h2) fun n h3 k3 => ?_
    have hx : Ret h3 no isB (M 80 [.slice h.n 0 4 4 false, .int .u8 n] h3) := by
      obtain ⟨u, h', e, q, k'⟩ : Ret h3 no isB (B80 M (.slice h.n 0 4 4 false) (.int .u8 n) h3) := by
        unfold B80
        have hy : Ret h3 no isI (M 84 [.slice h.n 0 4 4 false, .int .u8 n] h3) := by
          obtain ⟨u, h', e, q, k'⟩ : Ret h3 no isI (B84 M (.slice h.n 0 4 4 false) (.int .u8 n) h3) := by
            unfold B84
            rw [lenSl_at]
            refine contains_loop n 4 0 (by omega) h3 (by omega) fun j hj => ?_
            rw [k3.cell0 (by rw [newRow_n]; omega), newRow_cell, if_pos rfl]
            match j, hj with
            | 0, _ => exact ⟨_, rfl⟩
            | 1, _ => exact ⟨_, rfl⟩
            | 2, _ => exact ⟨_, rfl⟩
            | 3, _ => exact ⟨_, rfl⟩
          exact ⟨u, h', F84 fnA (fun _ _ => rfl) e, q, k'⟩
        refine Ret.callI hy fun n h4 k4 => ?_
        exact Ret.geq (fun _ => Ret.bool (Kp.refl _ _)) fun _ => Ret.bool (Kp.refl _ _)
      exact ⟨u, h', F80 fnA (fun _ _ => rfl) e, q, k'⟩
    refine Ret.bindB hx fun b h4 k4 => ?_
    exact Ret.bool (k3.then k4)
  exact ⟨u, h', F70 fnA (fun _ _ => rfl) e, q, k'⟩
theorem target_good {h0 h : Hp} {lb bl bs b1 b2 b3 b4 : Nat} {l : Lk} {kd : Int} {slots targets exprs : V} {next els line : Int} (x : ST h0 h lb bl bs b1 b2 b3 b4 l kd slots targets exprs next els line) :
    Good h (fun i => 0 ≤ i ∧ i < slLen l.exprs) (.func 35 [.ptr lb 0] []) := by
  intro i hi h' k
  rw [dyn_at]
  exact target_ret x.w (x.k.then k) (x.lk.kp k) hi.1 hi.2
theorem value_good {h0 h : Hp} {lb bl bs b1 b2 b3 b4 : Nat} {l : Lk} {kd : Int} {slots targets exprs : V} {next els line : Int} (x : ST h0 h lb bl bs b1 b2 b3 b4 l kd slots targets exprs next els line) :
    Good h (fun i => 0 ≤ i ∧ i < slLen l.exprs) (.func 27 [.ptr lb 0] []) := by
  intro i hi h' k
  rw [dyn_at]
  exact value_ret x.w (x.k.then k) (x.lk.kp k) hi.1 hi.2
end Go.RW
