/- Rounds of a range over a function, read shallow. -/
import Derived.Test.YthbcbfgpfpogkaaGreatFMidW
set_option linter.all false
set_option warn.classDefReducibility false
namespace Go.Mid
variable {P : Program} [Orc] {g : Nat → List V → Hp → VH}

/-- a run comes to an end of which something is told. -/
def Ends (P : Program) [Orc] (k : Tk) (t : Tr V) (h : Hp) (K : Ex → Tr V → Hp → Prop) : Prop := ∃ n e t' h', run P n k t h = .ok e t' h' ∧ K e t' h'
def SubK (K : Ex → Tr V → Hp → Prop) : Prop := ∀ e t t' h, Sub t t' → K e t h → K e t' h
variable {K : Ex → Tr V → Hp → Prop} {t t' : Tr V} {h : Hp}
theorem run_lift {n m : Nat} (hn : n ≤ m) (hs : Sub t t') {k : Tk} {e : Ex} {t1 : Tr V} {h1 : Hp} (hr : run P n k t h = .ok e t1 h1) : ∃ t2, run P m k t' h = .ok e t2 h1 ∧ Sub t1 t2 := by
  have := run_le' (P := P) hn k t t' h hs
  rw [hr] at this
  cases h2 : run P m k t' h with
  | no => rw [h2] at this; exact this.elim
  | ok e2 t2 k2 =>
    rw [h2] at this
    obtain ⟨rfl, rfl, h3⟩ := this
    exact ⟨t2, rfl, h3⟩
theorem Ends.lift (hK : SubK K) {k : Tk} (hs : Sub t t') (he : Ends P k t h K) : ∃ n, ∀ m, n ≤ m → ∃ e t1 h1, run P m k t' h = .ok e t1 h1 ∧ K e t1 h1 := by
  obtain ⟨n, e, t1, h1, hr, hk⟩ := he
  refine ⟨n, fun m hm => ?_⟩
  obtain ⟨t2, h2, h3⟩ := run_lift hm hs hr
  exact ⟨e, t2, h1, h2, hK _ _ _ _ h3 hk⟩
theorem Ends.sub (hK : SubK K) {k : Tk} (hs : Sub t t') (he : Ends P k t h K) : Ends P k t' h K := by
  obtain ⟨n, hn⟩ := he.lift hK hs
  exact ⟨n, hn n (Nat.le_refl n)⟩
theorem Ends.of_step {k : Tk} (he : ∃ n e t' h', step P (run P n) k t h = .ok e t' h' ∧ K e t' h') : Ends P k t h K := by
  obtain ⟨n, he⟩ := he
  exact ⟨n + 1, he⟩
theorem Ends.op (hK : SubK K) {all : Array Oper} {o : Oper} {l : List Oper} (hw : wantO all t o = some true) {v : V} {h' : Hp} (ho : ∃ n, opV P (run P n) t h o = some (v, h')) (hm : Ends P (.ops all l) (putO t o.dst v) h' K) : Ends P (.ops all (o :: l)) t h K := by
  obtain ⟨n, hn⟩ := ho
  obtain ⟨m, hm⟩ := hm.lift hK (Sub.refl _)
  refine Ends.of_step ⟨n + m, ?_⟩
  have h1 := opV_le (P := P) (run_le' (Nat.le_add_right n m)) (Sub.refl t) h o _ hn
  obtain ⟨e, t1, k1, h2, h3⟩ := hm (n + m) (Nat.le_add_left m n)
  refine ⟨e, t1, k1, ?_, h3⟩
  show stepOps P (run P (n + m)) all o l t h (wantO all t o) = _
  rw [hw]
  simp only [stepOps, h1, goOps]
  exact h2
theorem Ends.skipOp {all : Array Oper} {o : Oper} {l : List Oper} (hw : wantO all t o = some false) (hm : Ends P (.ops all l) (putO t o.dst undefV) h K) : Ends P (.ops all (o :: l)) t h K := by
  obtain ⟨m, e, t1, k1, h2, h3⟩ := hm
  refine Ends.of_step ⟨m, e, t1, k1, ?_, h3⟩
  show stepOps P (run P m) all o l t h (wantO all t o) = _
  rw [hw]
  exact h2
variable {p : V × Hp}
theorem endsLaw (hK : SubK K) (all : Array Oper) : OpsLaw P all fun l t h => Ends P (.ops all l) t h K :=
  ⟨fun hw _ _ ho hm => Ends.op hK hw ho hm, fun hw hm => Ends.skipOp hw hm, fun hs hm => hm.sub hK hs⟩
theorem denOps_ends (hg : CallsOk P g) (hK : SubK K) (all : Array Oper) {k : Tr V → Hp → VH} (hk : ∀ t h, k t h = some p → K .normal t h)
    (l : List Oper) (t : Tr V) (h : Hp) (hd : denOps P g all l t h k = some p) : Ends P (.ops all l) t h K :=
  denOpsS_law hg (endsLaw hK all) (fun t h e => ⟨1, .normal, t, h, rfl, hk t h e⟩) l 0 t h hd
theorem denReg_ends (hg : CallsOk P g) (hK : SubK K) {id : Nat} {ops : Array Oper} {k : Tr V → Hp → VH} (hk : ∀ t h, k t h = some p → K .normal t h) : ∀ {d : Bool}, denReg P g ops t h k d = some p → Ends P (.code (.region id ops d)) t h K
  | false, hd => by
    obtain ⟨n, e, t1, h1, h2, h3⟩ := denOps_ends hg hK ops hk _ _ _ hd
    exact Ends.of_step ⟨n, e, t1, h1, h2, h3⟩
  | true, hd => by
    unfold denReg at hd
    simp only [cD_eq] at hd
    cases ho : okDraw ops <;> rw [ho] at hd
    · cases hd
    · simp only [cond_true] at hd
      obtain ⟨h0, n0, hfl, hd⟩ := denFlo_some hd
      unfold denHd at hd
      obtain ⟨n, s, s2, h1, hnb, h2⟩ := denHead_sound hg _ _ _ _ _ hd
      unfold denTail at h2
      rw [hnb.1, hnb.2.1, hnb.2.2.2.1, hnb.2.2.2.2.1] at h2
      cases hX : s.hs.get s.c with
      | none => rw [hX] at h2; cases h2
      | some X =>
        rw [hX] at h2
        obtain ⟨m, hm⟩ := (denOps_ends hg hK ops hk _ _ _ h2).lift hK (Sub.refl _)
        obtain ⟨e, t1, k1, h3, h4⟩ := hm (n + m) (Nat.le_add_left m n)
        refine Ends.of_step ⟨n + m, e, t1, k1, ?_, h4⟩
        show drawCode P (run P (n + m)) ops t h = _
        unfold drawCode
        rw [ho, hfl]
        simp only [cond_true, drawHd]
        rw [hdAll_eq (P := P) _ (run_le' (Nat.le_add_right n m)) ops _ 0 _ _ h1]
        simp only [tailCode, hX]
        exact h3
/-- what is told of the end of a round's code. -/
theorem denB_ends (hg : CallsOk P g) {kr : Hp → VH} : ∀ (m : Nat) (c : Code) (t : Tr V) (h : Hp) (kn : Tr V → Hp → VH) (kx : Nat → Tr V → Hp → VH) (K : Ex → Tr V → Hp → Prop), SubK K → (∀ t h, kn t h = some p → K .normal t h) → (∀ j t h, kx j t h = some p → K (.exit j) t h) →
    (∀ t h, kr h = some p → K .ret t h) → denB P g m c t h kn kx kr = some p → Ends P (.code c) t h K
  | 0, _, _, _, _, _, _, _, _, _, _, hd => by cases hd
  | m + 1, c, t, h, kn, kx, K, hK, hn, hx, hr, hd => by
    cases c <;> simp only [denB, reduceCtorEq] at hd
    case skip => exact Ends.of_step ⟨0, .normal, t, h, rfl, hn _ _ hd⟩
    case region id ops d => exact denReg_ends hg hK hn hd
    case seq a b =>
      have := denB_ends hg m a t h _ kx (fun e t h => match e with
        | .normal => Ends P (.code b) t h K
        | e => K e t h) (fun e t t' h hs hk => by
          cases e with
          | normal => exact Ends.sub hK hs hk
          | exit j => exact hK _ _ _ _ hs hk
          | ret => exact hK _ _ _ _ hs hk) (fun t h hk => denB_ends hg m b t h kn kx K hK hn hx hr hk) hx hr hd
      obtain ⟨n, e, t1, h1, h2, h3⟩ := this
      cases e with
      | normal =>
        obtain ⟨n2, e2, t2, h4, h5, h6⟩ := h3
        obtain ⟨t3, h7, hs⟩ := run_lift (P := P) (Nat.le_add_right n n2) (Sub.refl t) h2
        obtain ⟨t4, h8, hs2⟩ := run_lift (P := P) (Nat.le_add_left n2 n) hs h5
        refine Ends.of_step ⟨n + n2, e2, t4, h4, ?_, hK _ _ _ _ hs2 h6⟩
        show thenCode (run P (n + n2)) b (run P (n + n2) (.code a) t h) = _
        rw [h7]; exact h8
      | exit j => exact Ends.of_step ⟨n, .exit j, t1, h1, by show thenCode (run P n) b (run P n (.code a) t h) = _; rw [h2]; rfl, h3⟩
      | ret => exact Ends.of_step ⟨n, .ret, t1, h1, by show thenCode (run P n) b (run P n (.code a) t h) = _; rw [h2]; rfl, h3⟩
    case cond x a b =>
      obtain ⟨v, hv, hd⟩ := optS_some hd
      rcases ifS_some hd with ⟨rfl, hd⟩ | ⟨rfl, hd⟩
      · obtain ⟨n, e, t1, h1, h2, h3⟩ := denB_ends hg m a t h kn kx K hK hn hx hr hd
        exact Ends.of_step ⟨n, e, t1, h1, by show ifCode (run P n) a b t h (evalO t x) = _; rw [hv]; exact h2, h3⟩
      · obtain ⟨n, e, t1, h1, h2, h3⟩ := denB_ends hg m b t h kn kx K hK hn hx hr hd
        exact Ends.of_step ⟨n, e, t1, h1, by show ifCode (run P n) a b t h (evalO t x) = _; rw [hv]; exact h2, h3⟩
    case block id c =>
      have := denB_ends hg m c t h kn _ (fun e t h => match e with
        | .exit j => bif Nat.beq j id then K .normal t h else K (.exit j) t h
        | e => K e t h) (fun e t t' h hs hk => by
          cases e with
          | normal => exact hK _ _ _ _ hs hk
          | exit j =>
            simp only at hk ⊢
            cases hj : Nat.beq j id <;> rw [hj] at hk <;> exact hK _ _ _ _ hs hk
          | ret => exact hK _ _ _ _ hs hk) hn (fun j t h hk => by
          simp only [cD_eq] at hk
          simp only
          cases hj : Nat.beq j id <;> rw [hj] at hk
          · exact hx _ _ _ hk
          · exact hn _ _ hk) hr hd
      obtain ⟨n, e, t1, h1, h2, h3⟩ := this
      cases e with
      | normal => exact Ends.of_step ⟨n, .normal, t1, h1, by show inBlk id (run P n (.code c) t h) = _; rw [h2]; rfl, h3⟩
      | ret => exact Ends.of_step ⟨n, .ret, t1, h1, by show inBlk id (run P n (.code c) t h) = _; rw [h2]; rfl, h3⟩
      | exit j =>
        simp only at h3
        cases hj : Nat.beq j id <;> rw [hj] at h3
        · exact Ends.of_step ⟨n, .exit j, t1, h1, by show inBlk id (run P n (.code c) t h) = _; rw [h2]; simp only [inBlk, hj, cond_false], h3⟩
        · exact Ends.of_step ⟨n, .normal, t1, h1, by show inBlk id (run P n (.code c) t h) = _; rw [h2]; simp only [inBlk, hj, cond_true], h3⟩
    case exit id => exact Ends.of_step ⟨0, .exit id, t, h, rfl, hx _ _ _ hd⟩
    case ret => exact Ends.of_step ⟨0, .ret, t, h, rfl, hr _ _ hd⟩
    case scope c =>
      obtain ⟨n, e, t1, h1, h2, h3⟩ := denB_ends hg m c t h kn kx K hK hn hx hr hd
      exact Ends.of_step ⟨n, e, t1, h1, h2, h3⟩
    case label l => exact Ends.of_step ⟨0, .normal, t, h, rfl, hn _ _ hd⟩

variable {rs : List ResultVar} {κ : List Fk} {kn kr : Hp → VH} {kx : Nat → Hp → VH}
theorem rngE_sound (hg : CallsOk P g) {m : Nat} {x y : Tmp} {a b : Code} {it : It} {q : V} {t : Tr V} (hn : ∀ h, kn h = some p → MeansE P rs κ (.ok .normal t h) p) (hx : ∀ j h, kx j h = some p → MeansE P rs κ (.ok (.exit j) t h) p) (hr : ∀ h, kr h = some p → MeansE P rs κ (.ok .ret t h) p) :
    ∀ (n : Nat) (h : Hp), rngE it q kn (fun i v h next => denB P g m a ((t.set x i).set y v) h (fun t h => denB P g m b t h (fun _ h => next h) (fun j _ h => kx j h) kr) (fun _ _ _ => none) (fun _ => none)) n h = some p →
      ∃ N e h', roundsR it (run P N) x y a b t q n h = .ok e t h' ∧ MeansE P rs κ (.ok e t h') p
  | 0, h, hd => ⟨0, .normal, h, rfl, hn h hd⟩
  | i + 1, h, hd => by
    obtain ⟨v, hv, hd⟩ := optS_some (x := rowEl it h q i) hd
    have IH := rngE_sound hg (m := m) (a := a) (b := b) (x := x) (y := y) (it := it) (q := q) hn hx hr i
    let KB : Ex → Tr V → Hp → Prop := fun e _ h2 => match e with
      | .normal => ∃ N e h', roundsR it (run P N) x y a b t q i h2 = .ok e t h' ∧ MeansE P rs κ (.ok e t h') p
      | e => MeansE P rs κ (.ok e t h2) p
    have hKB : SubK KB := fun e t1 t2 h2 _ hk => hk
    let KA : Ex → Tr V → Hp → Prop := fun e t1 h1 => e = .normal ∧ Ends P (.code b) t1 h1 KB
    have hKA : SubK KA := fun e t1 t2 h1 hs hk => ⟨hk.1, hk.2.sub hKB hs⟩
    obtain ⟨nA, e1, t1, h1, hA, he1, hB⟩ := denB_ends (p := p) hg m a _ h _ _ KA hKA (fun t1 h1 hk => ⟨rfl, denB_ends (p := p) hg m b t1 h1 _ _ KB hKB (fun _ h2 hk => IH h2 hk) (fun j _ h2 hk => hx j h2 hk) (fun _ h2 hk => hr h2 hk) hk⟩) (fun _ _ _ hk => by cases hk) (fun _ _ hk => by cases hk) hd
    subst he1
    obtain ⟨nB, e2, t2, h2, hB1, hB2⟩ := hB
    have fin : ∀ N, nA ≤ N → nB ≤ N → ∃ t4, bodyRng (run P N) b (run P N (.code a) ((t.set x (.int .i64 (.ofNat i))).set y v) h) = .ok e2 t4 h2 := by
      intro N ha hb
      obtain ⟨t3, h7, hs⟩ := run_lift (P := P) ha (Sub.refl _) hA
      obtain ⟨t4, h8, _⟩ := run_lift (P := P) hb hs hB1
      exact ⟨t4, by rw [h7]; exact h8⟩
    cases e2 with
    | normal =>
      obtain ⟨N0, e, h', h5, h6⟩ := hB2
      obtain ⟨t4, h7⟩ := fin (nA + nB + N0) (by omega) (by omega)
      refine ⟨nA + nB + N0, e, h', ?_, h6⟩
      simp only [roundsR, hv, roundR, h7, endRng]
      have := roundsR_le (run_le' (P := P) (show N0 ≤ nA + nB + N0 by omega)) (Sub.refl t) (it := it) (x := x) (y := y) (a := a) (b := b) (p := q) i h2
      rw [h5] at this
      cases h9 : roundsR it (run P (nA + nB + N0)) x y a b t q i h2 with
      | no => rw [h9] at this; exact this.elim
      | ok e9 t9 h10 =>
        have ht9 := roundsR_tree h9
        rw [h9] at this
        obtain ⟨rfl, rfl, _⟩ := this
        rw [ht9]
    | exit j =>
      obtain ⟨t4, h7⟩ := fin (nA + nB) (by omega) (by omega)
      exact ⟨nA + nB, .exit j, h2, by simp only [roundsR, hv, roundR, h7, endRng], hB2⟩
    | ret =>
      obtain ⟨t4, h7⟩ := fin (nA + nB) (by omega) (by omega)
      exact ⟨nA + nB, .ret, h2, by simp only [roundsR, hv, roundR, h7, endRng], hB2⟩
theorem rngD_sound (hg : CallsOk P g) {m : Nat} {f : Operand} {ps : Array Tmp} {a b : Code} {t : Tr V} {h : Hp} {v : V} (hf : evalO t f = some v) (hn : ∀ h, kn h = some p → MeansE P rs κ (.ok .normal t h) p) (hx : ∀ j h, kx j h = some p → MeansE P rs κ (.ok (.exit j) t h) p) (hr : ∀ h, kr h = some p → MeansE P rs κ (.ok .ret t h) p)
    (hd : rngD P g m ps.toList a b t h v kn kx kr = some p) : Means P rs κ (.rangeFunc f ps a b) t h p := by
  unfold rngD at hd
  split at hd
  · rename_i x y hps
    unfold rngV rngT at hd
    split at hd
    · rename_i fn q
      unfold rngI at hd
      split at hd
      · rename_i it hit
        cases hl : rowLen h q with
        | none => rw [hl] at hd; cases hd
        | some n =>
          rw [hl] at hd
          cases hb : Nat.ble n big with
          | false => change whenE (Nat.ble n big) _ = _ at hd; rw [hb] at hd; cases hd
          | true =>
            change whenE (Nat.ble n big) _ = _ at hd; rw [hb] at hd
            obtain ⟨N, e, h', h1, n2, h2⟩ := rngE_sound hg hn hx hr n h hd
            refine MeansK.of_step ⟨N + n2, ?_⟩
            show kOut P (run P (N + n2)) rs κ (rngR (run P (N + n2)) ps.toList a b t h (evalO t f)) = some p
            have e1 : rngR (run P (N + n2)) ps.toList a b t h (evalO t f) = roundsR it (run P (N + n2)) x y a b t q n h := by
              rw [hf, hps]
              simp only [rngR, hit, rngF, hl, rowsR, hb, cond_true]
            rw [e1]
            have := roundsR_le (run_le' (P := P) (Nat.le_add_right N n2)) (Sub.refl t) (it := it) (x := x) (y := y) (a := a) (b := b) (p := q) n h
            rw [h1] at this
            exact kOut_lift (Nat.le_add_left n2 N) this h2
      · cases hd
    · cases hd
  · cases hd
end Go.Mid
