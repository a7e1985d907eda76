import Derived.Test.YtgajpiaajkbilaaWRW10
set_option linter.all false
open Go Go.Mid Go.Proofs
set_option maxRecDepth 100000
set_option linter.unusedVariables false
namespace Go.RW
/-! a map from strings to numbers -/
def IntMap (es : List (V × V)) : Prop := ∀ p, p ∈ es → (∃ s, p.1 = .str s) ∧ ∃ n, p.2 = .int .i64 n
theorem mapGet_int (s : List UInt8) : ∀ {es : List (V × V)}, IntMap es → mapGet (.str s) es = some none ∨ ∃ n, mapGet (.str s) es = some (some (.int .i64 n))
  | [], _ => .inl rfl
  | (k, v) :: es, h => by
    obtain ⟨⟨s', rfl⟩, ⟨n, rfl⟩⟩ : (∃ s, k = .str s) ∧ ∃ n, v = .int .i64 n := h (k, v) (List.mem_cons_self ..)
    simp only [mapGet]
    cases sEq s s' with
    | true => exact .inr ⟨n, rfl⟩
    | false => exact mapGet_int s fun p hp => h p (List.mem_cons_of_mem _ hp)
theorem mapSet_int (s : List UInt8) (n : Int) : ∀ {es : List (V × V)}, IntMap es → IntMap (mapSet (.str s) (.int .i64 n) es)
  | [], _ => by
    intro p hp
    simp only [mapSet, List.mem_singleton] at hp
    subst hp; exact ⟨⟨s, rfl⟩, ⟨n, rfl⟩⟩
  | (k, v) :: es, h => by
    obtain ⟨⟨s', rfl⟩, ⟨m, rfl⟩⟩ : (∃ s, k = .str s) ∧ ∃ n, v = .int .i64 n := h (k, v) (List.mem_cons_self ..)
    have ih := mapSet_int s n (es := es) fun p hp => h p (List.mem_cons_of_mem _ hp)
    simp only [mapSet]
    cases sEq s s' with
    | true =>
      intro p hp
      simp only [cond_true, List.mem_cons] at hp
      rcases hp with rfl | hp
      · exact ⟨⟨s, rfl⟩, ⟨n, rfl⟩⟩
      · exact h p (List.mem_cons_of_mem _ hp)
    | false =>
      intro p hp
      simp only [cond_false, List.mem_cons] at hp
      rcases hp with rfl | hp
      · exact ⟨⟨s', rfl⟩, ⟨m, rfl⟩⟩
      · exact ih p hp
def IM (h : Hp) (mb : Nat) : Prop := mb < h.n ∧ ∃ es, h.t.get mb = some (.map es) ∧ IntMap es
theorem IM.kp {h h' : Hp} {mb : Nat} (x : IM h mb) (k : Kp no h h') : IM h' mb := ⟨Nat.lt_of_lt_of_le x.1 k.n, by rw [k.get mb x.1 (fun h => h)]; exact x.2⟩
theorem Ret.look1 {h0 h : Hp} {S : Nat → Prop} {Q : V → Hp → Prop} {K : V → Hp → VH} {mb : Nat} {s : List UInt8} (x : IM h mb) (hK : ∀ n, Ret h0 S Q (K (.int .i64 n) h)) :
    Ret h0 S Q (bindS (lookS .string (some (.int .i64 (.ofNat 0))) false (.map mb) (.str s) h) K) := by
  obtain ⟨_, es, he, hm⟩ := x
  have e : lookS .string (some (.int .i64 (.ofNat 0))) false (.map mb) (.str s) h = lookZ h (some (.int .i64 (.ofNat 0))) false (mapGet (.str s) es) := by
    show (match mapOf h (some (.map mb)) with
      | some es => lookZ h (some (.int .i64 (.ofNat 0))) false (mapGet (.str s) es)
      | none => none) = _
    simp only [mapOf, he]
  rw [e]
  rcases mapGet_int s hm with h1 | ⟨n, h1⟩
  · rw [h1]; exact hK _
  · rw [h1]; exact hK _
theorem Ret.upd1 {h : Hp} {S : Nat → Prop} {Q : V → Hp → Prop} {K : V → Hp → VH} {mb : Nat} {s : List UInt8} {n : Int} (x : IM h mb) (hS : S mb)
    (hK : ∀ v h', h'.n = h.n → Kp (· = mb) h h' → IM h' mb → Ret h' S Q (K v h')) : Ret h S Q (bindS (updS .string (.map mb) (.str s) (.int .i64 n) h) K) := by
  obtain ⟨hl, es, he, hm⟩ := x
  obtain ⟨r, hr⟩ : ∃ r, mapGet (.str s) es = some r := by rcases mapGet_int s hm with h | ⟨n, h⟩ <;> exact ⟨_, h⟩
  have e : updS .string (.map mb) (.str s) (.int .i64 n) h = some (unitV, h.put mb (.map (mapSet (.str s) (.int .i64 n) es))) := by
    show mapPut h mb (.str s) (.int .i64 n) = _
    simp only [mapPut, he, hr]
  rw [e, bindS_at]
  have hg : ∀ b, (h.put mb (.map (mapSet (.str s) (.int .i64 n) es))).t.get b = if mb = b then some (.map (mapSet (.str s) (.int .i64 n) es)) else h.t.get b := fun b => by
    simp only [Hp.put, Tr.get_set]
  have k : Kp (· = mb) h (h.put mb (.map (mapSet (.str s) (.int .i64 n) es))) := ⟨fun w b hb => by
      rw [hg, if_neg (by intro e; subst e; exact absurd hl (Nat.not_lt.mpr hb))]; exact w b hb, Nat.le_refl _, fun b hb hn => by rw [hg, if_neg (fun e => hn e.symm)],
    fun m h1 h2 h3 => Nat.le_min.mpr ⟨h3 mb rfl, h2⟩⟩
  refine Ret.of (S' := S) (k.mono fun b e => by subst e; exact hS) (hK _ _ rfl k ⟨hl, _, by rw [hg, if_pos rfl], mapSet_int s n hm⟩) fun _ hb => .inl hb

/-! around -/
structure RT (h0 h : Hp) (pb ab : Nat) (strs : V) (b o n c : Nat) : Prop where
  ib : PB h0 h pb strs (.slice b o n c false)
  lt : ab < h.n
  ne : ab ≠ pb
  new : h0.n ≤ ab
  wide : h.wide ab = n
  ints : ∀ j, j < n → ∃ x : Int, h.cell ab j = some (.int .i64 x) ∧ 0 ≤ x ∧ x ≤ (n : Int)
theorem RT.kp {h0 h h' : Hp} {pb ab : Nat} {strs : V} {b o n c : Nat} (x : RT h0 h pb ab strs b o n c) (k : Kp no h h') : RT h0 h' pb ab strs b o n c :=
  ⟨x.ib.kp k, Nat.lt_of_lt_of_le x.lt k.n, x.ne, x.new, by rw [k.wide0 x.lt]; exact x.wide, fun j hj => by rw [k.cell0 x.lt]; exact x.ints j hj⟩
theorem RT.store {h0 h : Hp} {pb ab : Nat} {strs : V} {b o n c : Nat} (x : RT h0 h pb ab strs b o n c) {j : Nat} (hj : j < n) {v : Int} (h1 : 0 ≤ v) (h2 : v ≤ (n : Int)) : RT h0 (h.wr ab j (.int .i64 v)) pb ab strs b o n c := by
  have hw : j < h.wide ab := by rw [x.wide]; exact hj
  refine ⟨⟨x.ib.w, x.ib.k.wr _ _ (.inr x.new), by rw [wr_n]; exact x.ib.lt, ?_, ?_, x.ib.s0, x.ib.s1⟩, by rw [wr_n]; exact x.lt, x.ne, x.new, by rw [wr_wide]; exact x.wide, fun i hi => ?_⟩
  · rw [wr_cell _ hw, if_neg (fun e => x.ne e.1)]; exact x.ib.c0
  · rw [wr_cell _ hw, if_neg (fun e => x.ne e.1)]; exact x.ib.c1
  · rw [wr_cell _ hw]
    split
    · exact ⟨v, rfl, h1, h2⟩
    · exact x.ints i hi
def AllOk (h0 : Hp) (b o n : Nat) : Prop := ∀ j, j < n → POkAt h0 n b (o + j * 8)
theorem get_at {h0 : Hp} {b o n c : Nat} {protos : V} (hv : SlV 8 (ProtoAt h0) protos) (e : protos = .slice b o n c false) {i : Nat} (hi : i < n) : ∃ p : Pr, h0.cells b (o + i * 8) 8 = some p.cells ∧ p.Ok h0 := by
  subst e
  rcases hv with e | ⟨b', o', n', c', e, _, hE⟩
  · cases e
  · cases e; exact (hE i hi).get
theorem slV_n {h0 : Hp} {s : Nat} {E : Nat → Nat → Prop} {b o n c : Nat} (hv : SlV s E (.slice b o n c false)) : n ≤ 9223372036854775807 := slV_le hv
theorem loop9 {h0 : Hp} {pb ab : Nat} {strs : V} {b o n c oo cc : Nat} (hall : AllOk h0 b o n) (ho : 1 < n → oo = 1) :
    ∀ m i : Nat, i + m = n - 1 → ∀ h, RT h0 h pb ab strs b o n c →
      Ret h no (isBP fun r => r = true → AllOk h0 b o n) (M 9 [.ptr pb 0, .slice ab oo (n - 1) cc false, .int .i64 (n - 1 : Nat), .int .i64 (i : Nat)] h)
  | 0, i, hi, h, x => by
    obtain ⟨u, h', e, q, k'⟩ : Ret h no (isBP fun r => r = true → AllOk h0 b o n) (B9 M (.ptr pb 0) (.slice ab oo (n - 1) cc false) (.int .i64 (n - 1 : Nat)) (.int .i64 (i : Nat)) h) := by
      unfold B9
      refine Ret.lss (fun hlt => by omega) (fun _ => ?_)
      rw [ifS_false]
      exact Ret.boolP (fun _ => hall) (Kp.refl _ _)
    exact ⟨u, h', F9 fnA e, q, k'⟩
  | m + 1, i, hi, h, x => by
    obtain ⟨u, h', e, q, k'⟩ : Ret h no (isBP fun r => r = true → AllOk h0 b o n) (B9 M (.ptr pb 0) (.slice ab oo (n - 1) cc false) (.int .i64 (n - 1 : Nat)) (.int .i64 (i : Nat)) h) := by
      have hnn := slV_n x.ib.s1 (h0 := h0)
      unfold B9
      refine Ret.lss (fun hlt => ?_) (fun _ => by omega)
      rw [ifS_true]
      refine Ret.idx (by omega) ?_
      obtain ⟨a, ha, ha0, han⟩ := x.ints (1 + i * 1) (by omega)
      have hoo : oo = 1 := ho (by omega)
      subst hoo
      refine Ret.load1 ha ?_
      refine Ret.eql (fun _ => ?_) fun hne => ?_
      · simp only [guard_tf, pick_t, ifS_true]
        exact Ret.boolP (fun h => (Bool.false_ne_true h).elim) (Kp.refl _ _)
      · simp only [guard_ff, bindS_at, bind_addr, bind_load1, bind_bind, bind_intS, bind_idxS, bind_loadN, addr_at]
        refine Ret.load1 x.ib.c1 ?_
        rw [intS_at, int_add, optS_at, wrap64 (n := (i : Int) + Int.ofNat 1) (by simp; omega) (by simp; omega)]
        obtain ⟨q, hq, okq⟩ := get_at x.ib.s1 rfl (i := i + 1) (by omega)
        refine Ret.idx (i := i + 1) (by omega) ?_
        refine Ret.loadN (by decide) (cells_old x.ib.w x.ib.k hq) ?_
        refine Ret.load1 x.ib.c1 ?_
        rw [intS_at, int_sub, optS_at, wrap64 (n := a - Int.ofNat 1) (by simp only [Int.ofNat_eq_natCast] at *; omega) (by simp only [Int.ofNat_eq_natCast] at *; omega)]
        obtain ⟨p, hp, okp⟩ := get_at x.ib.s1 rfl (i := (a - Int.ofNat 1).toNat) (by simp only [Int.ofNat_eq_natCast] at *; omega)
        refine Ret.idxI (by simp only [Int.ofNat_eq_natCast] at *; omega) (by simp only [Int.ofNat_eq_natCast] at *; omega) ?_
        refine Ret.loadN (by decide) (cells_old x.ib.w x.ib.k hp) ?_
        refine Ret.callB (ups_ret x.ib.w x.ib.k okq okp (hall _ (by simp only [Int.ofNat_eq_natCast] at *; omega) p hp).2.1) fun r h2 k2 => ?_
        simp only [bindS_at, not_at, pick_f]
        cases r
        · simp only [Bool.not_false, ifS_true]
          exact Ret.boolP (fun h => (Bool.false_ne_true h).elim) (Kp.refl _ _)
        · simp only [Bool.not_true, ifS_false]
          rw [intS_at, int_add, optS_at, wrap64 (n := (i : Int) + Int.ofNat 1) (by simp; omega) (by simp; omega)]
          exact loop9 hall ho m (i + 1) (by omega) h2 (x.kp k2)
    exact ⟨u, h', F9 fnA e, q, k'⟩
theorem loop11 {h0 : Hp} {pb ab : Nat} {strs : V} {b o n c cc : Nat} {i : Nat} (hi : i < n) {p : Pr} (okp : p.Ok h0) (hP : POk h0 n p)
    (hK : ∀ H, RT h0 H pb ab strs b o n c → Ret H (· = ab) (isBP fun r => r = true → AllOk h0 b o n) (M 7 [.ptr pb 0, .slice ab 0 n cc false, .slice b o n c false, .int .i64 (n : Nat), .int .i64 ((i + 1 : Nat) : Int)] H)) :
    ∀ m k : Nat, k + m = slLen p.exprs → ∀ h, RT h0 h pb ab strs b o n c →
      Ret h (· = ab) (isBP fun r => r = true → AllOk h0 b o n) (M 11 [.ptr pb 0, .slice ab 0 n cc false, .int .i64 (i : Nat), .slice b o n c false, .int .i64 (n : Nat), .int .i64 (i : Nat), p.exprs, .int .i64 (slLen p.exprs : Nat), .int .i64 (k : Nat)] h)
  | 0, k, hk, h, x => by
    obtain ⟨u, h', e, q, k'⟩ : Ret h (· = ab) (isBP fun r => r = true → AllOk h0 b o n) (B11 M (.ptr pb 0) (.slice ab 0 n cc false) (.int .i64 (i : Nat)) (.slice b o n c false) (.int .i64 (n : Nat)) (.int .i64 (i : Nat)) p.exprs (.int .i64 (slLen p.exprs : Nat)) (.int .i64 (k : Nat)) h) := by
      have hnn := slV_n x.ib.s1 (h0 := h0)
      unfold B11
      refine Ret.lss (fun hlt => by omega) (fun _ => ?_)
      rw [ifS_false, intS_at, int_add, optS_at, wrap64 (n := (i : Int) + Int.ofNat 1) (by simp; omega) (by simp; omega)]
      exact hK h x
    exact ⟨u, h', F11 fnA e, q, k'⟩
  | m + 1, k, hk, h, x => by
    obtain ⟨u, h', e, q, k'⟩ : Ret h (· = ab) (isBP fun r => r = true → AllOk h0 b o n) (B11 M (.ptr pb 0) (.slice ab 0 n cc false) (.int .i64 (i : Nat)) (.slice b o n c false) (.int .i64 (n : Nat)) (.int .i64 (i : Nat)) p.exprs (.int .i64 (slLen p.exprs : Nat)) (.int .i64 (k : Nat)) h) := by
      have hnn := slV_n x.ib.s1 (h0 := h0)
      have hle := slV_le okp.exprs
      unfold B11
      refine Ret.lss (fun hlt => ?_) (fun _ => by omega)
      rw [ifS_true]
      obtain ⟨eb, eo, en, ec, he, hkn, ⟨kd, c0⟩, ⟨ev, c1⟩, ⟨kids, c2, v2⟩⟩ := slV_at okp.exprs (i := (k : Int)) (by omega) hlt
      rw [Int.toNat_natCast] at hkn c0 c1 c2
      have step : ∀ H, RT h0 H pb ab strs b o n c → Ret H (· = ab) (isBP fun r => r = true → AllOk h0 b o n) (M 13 [.ptr pb 0, .slice ab 0 n cc false, .int .i64 (i : Nat), .slice b o n c false, .int .i64 (n : Nat), .int .i64 (i : Nat), p.exprs, .int .i64 (slLen p.exprs : Nat), .int .i64 (k : Nat)] H) := fun H y => by
        obtain ⟨u, h', e, q, k'⟩ : Ret H (· = ab) (isBP fun r => r = true → AllOk h0 b o n) (B13 M (.ptr pb 0) (.slice ab 0 n cc false) (.int .i64 (i : Nat)) (.slice b o n c false) (.int .i64 (n : Nat)) (.int .i64 (i : Nat)) p.exprs (.int .i64 (slLen p.exprs : Nat)) (.int .i64 (k : Nat)) H) := by
          unfold B13
          rw [intS_at, int_add, optS_at, wrap64 (n := (k : Int) + Int.ofNat 1) (by simp; omega) (by simp; omega)]
          exact loop11 hi okp hP hK m (k + 1) (by omega) H y
        exact ⟨u, h', F13 fnA e, q, k'⟩
      have hex := hP.2.2.2 eb eo en ec he k hkn kd ev c0 c1
      rw [he] at step ⊢
      refine Ret.idx hkn ?_
      refine Ret.loadN (by decide) (cells_old x.ib.w x.ib.k (cells_cons c0 (cells_cons c1 (cells_cons c2 rfl)))) ?_
      refine Ret.box (by decide) rfl rfl (by simp only [allOne, slV_one v2]; rfl) fun H hHn hHc kH => ?_
      have y := x.kp kH
      have g0 : H.cell h.n (0 + 0) = some (.int .u8 kd) := by rw [hHc, if_pos rfl]; rfl
      have g1 : H.cell h.n (0 + 1) = some (.int .i64 ev) := by rw [hHc, if_pos rfl]; rfl
      rw [addr_at]
      refine Ret.load1 g0 ?_
      refine Ret.neq (fun _ => ?_) fun h7 => ?_
      · rw [ifS_true]; exact step H y
      · obtain ⟨e0, e1⟩ := hex h7
        rw [ifS_false, addr_at]
        refine Ret.load1 g1 ?_
        refine Ret.leq (fun _ => ?_) fun _ => ?_
        · simp only [guard_tf, pick_t, ifS_true]
          exact Ret.boolP (fun h => (Bool.false_ne_true h).elim) (Kp.refl _ _)
        · simp only [guard_ff, bindS_at, bind_addr, bind_load1, bind_bind, bind_intS, bind_idxS, addr_at]
          refine Ret.load1 g1 ?_
          refine Ret.idxI e0 (by omega) ?_
          obtain ⟨a, ha, ha0, han⟩ := y.ints ev.toNat (by omega)
          refine Ret.load1 (v := .int .i64 a) (by simpa using ha) ?_
          refine Ret.gtr (fun _ => ?_) fun _ => ?_
          · simp only [bindS_at, pick_f, ifS_true]
            exact Ret.boolP (fun h => (Bool.false_ne_true h).elim) (Kp.refl _ _)
          · simp only [bindS_at, pick_f, ifS_false]
            refine Ret.load1 g1 ?_
            rw [intS_at, int_add, optS_at, wrap64 (n := (i : Int) + Int.ofNat 1) (by simp; omega) (by simp; omega)]
            refine Ret.idxI e0 (by omega) ?_
            refine Ret.storeC rfl (by rw [y.wide]; omega) ?_
            have z := y.store (j := 0 + ev.toNat * 1) (v := (i : Int) + Int.ofNat 1) (by omega) (by simp only [Int.ofNat_eq_natCast]; omega) (by simp only [Int.ofNat_eq_natCast]; omega)
            exact Ret.of ((Kp.refl _ _).wr _ _ (.inl rfl)) (step _ z) fun _ hb => .inl hb
    exact ⟨u, h', F11 fnA e, q, k'⟩
theorem loop7 {h0 : Hp} {pb ab : Nat} {strs : V} {b o n c : Nat} (sm : Small h0 (.slice b o n c false)) (hn : 0 < n) :
    ∀ m i : Nat, i + m = n → (∀ j, j < i → POkAt h0 n b (o + j * 8)) → ∀ h, RT h0 h pb ab strs b o n c →
      Ret h (· = ab) (isBP fun r => r = true → AllOk h0 b o n) (M 7 [.ptr pb 0, .slice ab 0 n n false, .slice b o n c false, .int .i64 (n : Nat), .int .i64 (i : Nat)] h)
  | 0, i, hi, hlo, h, x => by
    obtain ⟨u, h', e, q, k'⟩ : Ret h (· = ab) (isBP fun r => r = true → AllOk h0 b o n) (B7 M (.ptr pb 0) (.slice ab 0 n n false) (.slice b o n c false) (.int .i64 (n : Nat)) (.int .i64 (i : Nat)) h) := by
      unfold B7
      refine Ret.lss (fun hlt => by omega) (fun _ => ?_)
      rw [ifS_false]
      have hall : AllOk h0 b o n := fun j hj => hlo j (by omega)
      have e1 : slSlK 3 1 (some (.int .i64 (.ofNat 1))) none h (.slice ab 0 n n false) = some (.slice ab (bif Nat.beq 1 n then 0 else 0 + 1 * 1) (n - 1) (n - 1) false, h) := by
        show (bif Nat.ble 1 n then (bif Nat.ble n n then some (V.slice ab (bif Nat.beq 1 n then 0 else 0 + 1 * 1) (n - 1) (n - 1) false, h) else none) else none) = _
        rw [Nat.ble_eq_true_of_le hn, Nat.ble_eq_true_of_le (Nat.le_refl n)]; rfl
      rw [e1, bindS_at]
      exact Ret.of (S' := no) (Kp.refl _ _) (loop9 hall (fun h1 => by
        have : Nat.beq 1 n = false := by
          cases hb : Nat.beq 1 n with
          | false => rfl
          | true => exact absurd (Nat.eq_of_beq_eq_true hb) (by omega)
        rw [this]; rfl) (n - 1) 0 (by omega) h x) fun _ h => h.elim
    exact ⟨u, h', F7 fnA e, q, k'⟩
  | m + 1, i, hi, hlo, h, x => by
    obtain ⟨u, h', e, q, k'⟩ : Ret h (· = ab) (isBP fun r => r = true → AllOk h0 b o n) (B7 M (.ptr pb 0) (.slice ab 0 n n false) (.slice b o n c false) (.int .i64 (n : Nat)) (.int .i64 (i : Nat)) h) := by
      unfold B7
      refine Ret.lss (fun hlt => ?_) (fun _ => by omega)
      rw [ifS_true]
      refine Ret.idx (by omega) ?_
      obtain ⟨p, hp, okp⟩ := get_at x.ib.s1 rfl (i := i) (by omega)
      refine Ret.loadN (by decide) (cells_old x.ib.w x.ib.k hp) ?_
      refine Ret.box (by decide) rfl rfl (Pr.one okp) fun H hHn hHc kH => ?_
      have y := x.kp kH
      have g6 : H.cell h.n (0 + 6) = some p.exprs := by rw [hHc, if_pos rfl]; rfl
      have hlt : h.n < H.n := by omega
      refine Ret.loadN (by decide) (cells2 y.ib.c0 y.ib.c1) ?_
      refine Ret.stepP (proto_ret y.ib.w y.ib.k y.ib.s0 y.ib.s1 sm (i : Nat)) fun r H2 hr k2 => ?_
      have z := y.kp k2
      rw [not_at]
      cases r
      · simp only [Bool.not_false, ifS_true]
        exact Ret.boolP (fun h => (Bool.false_ne_true h).elim) (Kp.refl _ _)
      · simp only [Bool.not_true, ifS_false, addr_at]
        refine Ret.load1 (v := p.exprs) (by rw [k2.cell0 hlt]; exact g6) ?_
        rw [slV_len okp.exprs]
        have hat : POkAt h0 n b (o + i * 8) := (hr rfl).2 b o n c rfl
        exact loop11 (i := i) (by omega) okp (hat p hp) (fun H' z' => loop7 sm hn m (i + 1) (by omega) (fun j hj => by
          by_cases e : j = i
          · subst e; exact hat
          · exact hlo j (by omega)) H' z') (slLen p.exprs) 0 (by omega) H2 z
    exact ⟨u, h', F7 fnA e, q, k'⟩
end Go.RW
