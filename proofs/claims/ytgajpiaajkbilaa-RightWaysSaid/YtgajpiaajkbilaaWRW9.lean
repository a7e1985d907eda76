import Derived.Test.YtgajpiaajkbilaaWRW8
set_option linter.all false
open Go Go.Mid Go.Proofs
set_option maxRecDepth 100000
set_option linter.unusedVariables false
namespace Go.RW
theorem cells_get {h : Hp} {b : Nat} : ∀ {n o : Nat} {l : List V}, h.cells b o n = some l → ∀ i, i < n → h.cell b (o + i) = l[i]?
  | 0, _, _, _, i, hi => by omega
  | n + 1, o, l, hc, i, hi => by
    simp only [Hp.cells] at hc
    cases hv : h.cell b o with
    | none => rw [hv] at hc; cases hc
    | some v =>
      rw [hv] at hc
      cases hl : h.cells b (o + 1) n with
      | none => rw [hl] at hc; cases hc
      | some l' =>
        rw [hl] at hc
        cases hc
        cases i with
        | zero => simpa using hv
        | succ i =>
          have := cells_get hl i (by omega)
          rw [show o + (i + 1) = o + 1 + i from by omega, this]; simp
theorem _root_.Go.Mid.Ret.rowS {h : Hp} {S : Nat → Prop} {Q : V → Hp → Prop} {K : V → Hp → VH} {e : Nat} {cs : List V} (hK : Ret (h.newRow e cs false) S Q (K (.ptr h.n 0) (h.newRow e cs false))) : Ret h S Q (Mid.newS e cs h K) :=
  Ret.of ((Kp.refl _ _).newRow _ _ _) hK fun _ hb => .inl hb
theorem _root_.Go.Mid.Ret.drawS {h : Hp} {S : Nat → Prop} {Q Q' : V → Hp → Prop} {K : V → Hp → VH} {x : VH} (hx : Ret ⟨h.t, h.n, h.n⟩ no Q' x) (hK : ∀ v h', Q' v h' → Kp no h ⟨h'.t, h'.n, h.low⟩ → Ret ⟨h'.t, h'.n, h.low⟩ S Q (K v ⟨h'.t, h'.n, h.low⟩)) : Ret h S Q (bindS x fun v h2 => madeS h.n h.low h2 fun h3 => K v h3) := by
  obtain ⟨v, h', rfl, hq, hk⟩ := hx
  have hl : h.n ≤ h'.low := hk.low h.n (Nat.le_refl _) (Nat.le_refl _) fun _ h => h.elim
  have k : Kp no h ⟨h'.t, h'.n, h.low⟩ := ⟨fun w => hk.wf w, hk.n, fun b hb hn => hk.get b hb hn, fun _ _ h2 _ => h2⟩
  rw [bindS_at, made_at _ _ _ _ hl]
  exact Ret.of (k.mono fun _ h => h.elim) (hK v h' hq k) fun _ hb => .inl hb
theorem mk1_at {e bytes : Nat} {z : V} (hz : vcells z = [z]) {n : Nat} {h : Hp} (h1 : n ≤ 1073741824) (h2 : n * bytes ≤ 1073741824) :
    ∃ cs : List V, cs.length = n ∧ (∀ i, i < n → cs[i]? = some z) ∧ mkS e bytes 1 z (.int .i64 (n : Nat)) (.int .i64 (n : Nat)) h = some (.slice h.n 0 n n false, h.newRow e cs false) := by
  haveI : Orc := orc fnA
  refine ⟨mulz (vcells z) n, ?_, ?_, ?_⟩
  · have := (rep_spec n [z] ([] : List V)).1
    rw [hz]; simpa [mulz] using this
  · intro i hi
    have := (rep_spec n [z] ([] : List V)).2 i (by simpa using hi)
    rw [hz]; simpa [mulz, Nat.mod_one] using this
  · show mkSl h e bytes 1 z n n = _
    have b1 : Nat.ble n n = true := Nat.ble_eq_true_of_le (Nat.le_refl _)
    have b2 : Nat.ble n 1073741824 = true := Nat.ble_eq_true_of_le h1
    have b3 : Nat.ble (n * bytes) 1073741824 = true := Nat.ble_eq_true_of_le h2
    have b4 : Nat.beq (vcells z).length 1 = true := by rw [hz]; rfl
    simp only [mkSl, roomB, b1, b2, b3, b4, Bool.and_self, cond_true]
def POk (h0 : Hp) (np : Nat) (p : Pr) : Prop := (p.start = -1 ∨ (0 ≤ p.start ∧ p.start < (slLen p.stmts : Int))) ∧ (slLen p.boxes : Int) = p.slots ∧ StsOk h0 p.stmts ∧ ExsOk h0 np p.exprs
def POkAt (h0 : Hp) (np b o : Nat) : Prop := ∀ p : Pr, h0.cells b o 8 = some p.cells → POk h0 np p
theorem slV_at {s : Nat} {E : Nat → Nat → Prop} {v : V} (hv : SlV s E v) {i : Int} (h1 : 0 ≤ i) (h2 : i < slLen v) : ∃ b o n c, v = .slice b o n c false ∧ i.toNat < n ∧ E b (o + i.toNat * s) := by
  rcases hv with rfl | ⟨b, o, n, c, rfl, _, hE⟩
  · simp [slLen] at h2; omega
  · have hj : i.toNat < n := by simp only [slLen] at h2; omega
    exact ⟨b, o, n, c, rfl, hj, hE _ hj⟩
theorem proto_ret {h0 h : Hp} (w : h0.Wf) (k : Kp no h0 h) {strs protos : V} (s0 : SlV 1 (StrAt h0) strs) (s1 : SlV 8 (ProtoAt h0) protos) (sm : Small h0 protos) (n : Int) :
    Ret h no (isBP fun r => r = true → (0 ≤ n ∧ n < (slLen protos : Int)) ∧ ∀ b o m c, protos = .slice b o m c false → POkAt h0 m b (o + n.toNat * 8)) (M 22 [.agg [strs, protos], .int .i64 n] h) := by
  obtain ⟨u, h', e, q, k'⟩ : Ret h no (isBP fun r => r = true → (0 ≤ n ∧ n < (slLen protos : Int)) ∧ ∀ b o m c, protos = .slice b o m c false → POkAt h0 m b (o + n.toNat * 8)) (B22 M (.agg [strs, protos]) (.int .i64 n) h) := by
    unfold B22
    refine Ret.row ?_
    have x := PB.mk' w k s0 s1 26
    generalize h.newRow 26 (vcells (.agg [strs, protos])) false = H at x
    rw [addr_at]
    refine Ret.load1 x.c1 ?_
    rw [slV_len s1]
    refine Ret.within (fun hr0 => ?_) fun hr => ?_
    · simp only [not_at, Bool.not_true, ifS_false]
      refine Ret.loadN (by decide) (cells2 x.c0 x.c1) ?_
      simp only [addr_at]
      refine Ret.load1 x.c1 ?_
      obtain ⟨b, o, m, c, rfl, hm, hP⟩ := slV_at s1 hr0.1 hr0.2
      refine Ret.idxI hr0.1 (by omega) ?_
      obtain ⟨p, hp, ok⟩ := hP.get
      have hsm : SmallP p := sm.2 b o m c rfl _ hm p hp
      refine Ret.loadN (by decide) (cells_old x.w x.k hp) ?_
      refine Ret.load1 x.c1 ?_
      refine Ret.idxI hr0.1 (by omega) ?_
      rw [addr_at]
      have c6 : h0.cell b (o + n.toNat * 8 + 6) = some p.exprs := cells_get hp 6 (by decide)
      refine Ret.load1 (x.k.old x.w c6) ?_
      rw [slV_len ok.exprs]
      obtain ⟨cs, hcl, hci, hmk⟩ := mk1_at (e := 3) (bytes := 8) (z := .int .i64 (.ofNat 0)) (n := slLen p.exprs) (h := ⟨H.t, H.n, H.n⟩) rfl (by have := hsm.2.1; omega) (by have := hsm.2.1; omega)
      refine Ret.of (h := H) (S' := (· = H.n)) (Kp.refl _ _) ?_ fun b hb => .inr (by subst hb; exact Nat.le_refl _)
      refine Ret.drawS (Q' := fun v h' => v = .slice H.n 0 (slLen p.exprs) (slLen p.exprs) false ∧ h'.n = H.n + 1 ∧ H.n + 1 ≤ h'.n ∧ h'.wide H.n = slLen p.exprs ∧ ∀ j, j < slLen p.exprs → h'.cell H.n j = some (.int .i64 0)) ?_ ?_
      · rw [hmk]
        exact Ret.done ⟨rfl, rfl, Nat.le_refl _, by rw [newRow_wide, if_pos rfl, hcl], fun j hj => by rw [newRow_cell, if_pos rfl, hci j hj]; rfl⟩ ((Kp.refl _ _).newRow _ _ _)
      · rintro v h' ⟨rfl, hn', _, hw', hc'⟩ k'
        have k2 : Kp no h0 ⟨h'.t, h'.n, H.low⟩ := x.k.then k'
        have hn2 : (⟨h'.t, h'.n, H.low⟩ : Hp).n = H.n + 1 := hn'
        have hw2 : (⟨h'.t, h'.n, H.low⟩ : Hp).wide H.n = slLen p.exprs := hw'
        have hc2 : ∀ j, j < slLen p.exprs → (⟨h'.t, h'.n, H.low⟩ : Hp).cell H.n j = some (.int .i64 0) := hc'
        generalize (⟨h'.t, h'.n, H.low⟩ : Hp) = H2 at k2 hn2 hw2 hc2
        have eb : bldStruct H2 [(0, .agg [strs, .slice b o m c false]), (1, .agg p.cells), (2, .slice H.n 0 (slLen p.exprs) (slLen p.exprs) false)] (.agg [.nilSlice, .nilSlice, (.int .i64 (.ofNat 0)), (.bool false), (.int .i64 (.ofNat 0)), .nilSlice, .nilSlice, .nilSlice, .nilSlice, (.int .i64 (.ofNat 0)), .nilSlice]) (some [(0, 2), (2, 8), (10, 1)])
            = some (.agg [strs, .slice b o m c false, .int .i64 p.params, .bool p.more, .int .i64 p.slots, p.boxes, p.ups, p.stmts, p.exprs, .int .i64 p.start, .slice H.n 0 (slLen p.exprs) (slLen p.exprs) false], H2) := rfl
        rw [eb, bindS_at]
        refine Ret.rowS ?_
        generalize hH3 : H2.newRow 57 (vcells (.agg [strs, .slice b o m c false, .int .i64 p.params, .bool p.more, .int .i64 p.slots, p.boxes, p.ups, p.stmts, p.exprs, .int .i64 p.start, .slice H.n 0 (slLen p.exprs) (slLen p.exprs) false])) false = H3
        have k23 : Kp no H2 H3 := by rw [← hH3]; exact (Kp.refl _ _).newRow _ _ _
        have g : ∀ z, H3.cell H2.n z = [strs, .slice b o m c false, .int .i64 p.params, .bool p.more, .int .i64 p.slots, p.boxes, p.ups, p.stmts, p.exprs, .int .i64 p.start, .slice H.n 0 (slLen p.exprs) (slLen p.exprs) false][z]? := fun z => by rw [← hH3, newRow_cell, if_pos rfl]; rfl
        have n3 : H3.n = H2.n + 1 := by rw [← hH3]; rfl
        clear hH3
        let l : Lk := ⟨strs, .slice b o m c false, p.ups, p.stmts, p.exprs, p.slots, p.more⟩
        have hl : LK h0 H3 H2.n l := ⟨by omega, g 0, g 1, g 3, g 4, g 6, g 7, g 8, slV_any s0, slV_any s1, ok.ups, ok.stmts, ok.exprs⟩
        have us : US H3 H2.n H.n (slLen p.exprs) := ⟨by omega, by omega, g 10, by rw [k23.wide0 (by omega), hw2]; exact Nat.le_refl _, fun j hj => ⟨0, by rw [k23.cell0 (by omega)]; exact hc2 j hj⟩⟩
        have := right_ret w (k2.then k23) hl us x.k.n (g 2) (g 5) ok.boxes (g 9)
        refine Ret.step this ?_
        rintro v h' ⟨r, rfl, hr⟩ _
        refine Ret.boolP (fun e => ⟨hr0, fun b' o' m' c' e' q hq => ?_⟩) (Kp.refl _ _)
        cases e'
        rw [hp] at hq
        cases Pr.cells_inj (Option.some.inj hq)
        exact hr e
    · simp only [not_at, Bool.not_false, ifS_true]
      exact Ret.boolP (fun h => (Bool.false_ne_true h).elim) (Kp.refl _ _)
  exact ⟨u, h', F22 fnA (fun _ _ => rfl) e, q, k'⟩
end Go.RW
