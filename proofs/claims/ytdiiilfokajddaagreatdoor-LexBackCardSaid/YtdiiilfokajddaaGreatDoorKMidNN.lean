/- Rounds of a range over a function, read shallow. -/
import Derived.Test.YtdiiilfokajddaaGreatDoorKMidW
set_option linter.all false
set_option warn.classDefReducibility false
noncomputable section
section
namespace Go.Mid
section
variable {P : Program} [Orc] {g : Nat → List V → Hp → VH}
def Ends (P : Program) [Orc] (k : Tk) (t : Tr V) (h : Hp) (K : Ex → Tr V → Hp → Prop) : Prop:=∃ n e t' h', run P n k t h = .ok e t' h' ∧ K e t' h'
def SubK (K : Ex → Tr V → Hp → Prop) : Prop:=∀ e t t' h, Sub t t' → K e t h → K e t' h
variable {K : Ex → Tr V → Hp → Prop} {t t' : Tr V} {h : Hp}
theorem run_lift {n m : Nat} (hn : n ≤ m) (hs : Sub t t') {k : Tk} {e : Ex} {t1 : Tr V} {h1 : Hp} (hr : run P n k t h = .ok e t1 h1) : ∃ t2, run P m k t' h = .ok e t2 h1 ∧ Sub t1 t2:=by
 have:=run_le' (P:=P) hn k t t' h hs
 rw [hr] at this
 cases h2 : run P m k t' h with
 | no => rw [h2] at this; exact this.elim
 | ok e2 t2 k2 =>
  rw [h2] at this
  obtain ⟨rfl, rfl, h3⟩:=this
  exact ⟨t2, rfl, h3⟩
theorem Ends.lift (hK : SubK K) {k : Tk} (hs : Sub t t') (he : Ends P k t h K) : ∃ n, ∀ m, n ≤ m → ∃ e t1 h1, run P m k t' h = .ok e t1 h1 ∧ K e t1 h1:=by
 obtain ⟨n, e, t1, h1, hr, hk⟩:=he
 refine ⟨n, fun m hm => ?_⟩
 obtain ⟨t2, h2, h3⟩:=run_lift hm hs hr
 exact ⟨e, t2, h1, h2, hK _ _ _ _ h3 hk⟩
theorem Ends.sub (hK : SubK K) {k : Tk} (hs : Sub t t') (he : Ends P k t h K) : Ends P k t' h K:=by
 obtain ⟨n, hn⟩:=he.lift hK hs
 exact ⟨n, hn n (Nat.le_refl n)⟩
theorem Ends.of_step {k : Tk} (he : ∃ n e t' h', step P (run P n) k t h = .ok e t' h' ∧ K e t' h') : Ends P k t h K:=by
 obtain ⟨n, he⟩:=he
 exact ⟨n + 1, he⟩
theorem Ends.op (hK : SubK K) {all : Array Oper} {o : Oper} {l : List Oper} (hw : wantO all t o = some true) {v : V} {h' : Hp} (ho : ∃ n, opV P (run P n) t h o = some (v, h')) (hm : Ends P (.ops all l) (putO t o.dst v) h' K) : Ends P (.ops all (o :: l)) t h K:=by
 obtain ⟨n, hn⟩:=ho
 obtain ⟨m, hm⟩:=hm.lift hK (Sub.refl _)
 refine Ends.of_step ⟨n + m, ?_⟩
 have h1:=opV_le (P:=P) (run_le' (Nat.le_add_right n m)) (Sub.refl t) h o _ hn
 obtain ⟨e, t1, k1, h2, h3⟩:=hm (n + m) (Nat.le_add_left m n)
 refine ⟨e, t1, k1, ?_, h3⟩
 show stepOps P (run P (n + m)) all o l t h (wantO all t o) = _
 rw [hw]
 simp only [stepOps, h1, goOps]
 exact h2
theorem Ends.skipOp {all : Array Oper} {o : Oper} {l : List Oper} (hw : wantO all t o = some false) (hm : Ends P (.ops all l) (putO t o.dst undefV) h K) : Ends P (.ops all (o :: l)) t h K:=by
 obtain ⟨m, e, t1, k1, h2, h3⟩:=hm
 refine Ends.of_step ⟨m, e, t1, k1, ?_, h3⟩
 show stepOps P (run P m) all o l t h (wantO all t o) = _
 rw [hw]
 exact h2
variable {p : V × Hp}
theorem endsLaw (hK : SubK K) (all : Array Oper) : OpsLaw P all fun l t h => Ends P (.ops all l) t h K :=
 ⟨fun hw _ _ ho hm => Ends.op hK hw ho hm, fun hw hm => Ends.skipOp hw hm, fun hs hm => hm.sub hK hs⟩
theorem denOps_ends (hg : CallsOk P g) (hK : SubK K) (all : Array Oper) {k : Tr V → Hp → VH} (hk : ∀ t h, k t h = some p → K .normal t h)
 (l : List Oper) (t : Tr V) (h : Hp) (hd : denOps P g all l t h k = some p) : Ends P (.ops all l) t h K :=
 denOpsS_law hg (endsLaw hK all) (fun t h e => ⟨1, .normal, t, h, rfl, hk t h e⟩) l 0 t h hd
theorem denReg_ends (hg : CallsOk P g) (hK : SubK K) {id : Nat} {ops : Array Oper} {k : Tr V → Hp → VH} (hk : ∀ t h, k t h = some p → K .normal t h) : ∀ {d : Bool}, denReg P g ops t h k d = some p → Ends P (.code (.region id ops d)) t h K
 | false, hd => by
  obtain ⟨n, e, t1, h1, h2, h3⟩:=denOps_ends hg hK ops hk _ _ _ hd
  exact Ends.of_step ⟨n, e, t1, h1, h2, h3⟩
 | true, hd => by
  unfold denReg at hd
  simp only [cD_eq] at hd
  cases ho : okDraw ops <;> rw [ho] at hd
  ·cases hd
  ·simp only [cond_true] at hd
   obtain ⟨h0, n0, hfl, hd⟩:=denFlo_some hd
   unfold denHd at hd
   obtain ⟨n, s, s2, h1, hnb, h2⟩:=denHead_sound hg _ _ _ _ _ hd
   unfold denTail at h2
   rw [hnb.1, hnb.2.1, hnb.2.2.2.1, hnb.2.2.2.2.1] at h2
   cases hX : s.hs.get s.c with
   | none => rw [hX] at h2; cases h2
   | some X =>
    rw [hX] at h2
    obtain ⟨m, hm⟩:=(denOps_ends hg hK ops hk _ _ _ h2).lift hK (Sub.refl _)
    obtain ⟨e, t1, k1, h3, h4⟩:=hm (n + m) (Nat.le_add_left m n)
    refine Ends.of_step ⟨n + m, e, t1, k1, ?_, h4⟩
    show drawCode P (run P (n + m)) ops t h = _
    unfold drawCode
    rw [ho, hfl]
    simp only [cond_true, drawHd]
    rw [hdAll_eq (P:=P) _ (run_le' (Nat.le_add_right n m)) ops _ 0 _ _ h1]
    simp only [tailCode, hX]
    exact h3
theorem denB_ends (hg : CallsOk P g) {kr : Hp → VH} : ∀ (m : Nat) (c : Code) (t : Tr V) (h : Hp) (kn : Tr V → Hp → VH) (kx : Nat → Tr V → Hp → VH) (K : Ex → Tr V → Hp → Prop), SubK K → (∀ t h, kn t h = some p → K .normal t h) → (∀ j t h, kx j t h = some p → K (.exit j) t h) →
 (∀ t h, kr h = some p → K .ret t h) → denB P g m c t h kn kx kr = some p → Ends P (.code c) t h K
 | 0, _, _, _, _, _, _, _, _, _, _, hd => by cases hd
 | m + 1, c, t, h, kn, kx, K, hK, hn, hx, hr, hd => by
  cases c <;> simp only [denB, reduceCtorEq] at hd
  case skip => exact Ends.of_step ⟨0, .normal, t, h, rfl, hn _ _ hd⟩
  case region id ops d => exact denReg_ends hg hK hn hd
  case seq a b =>
   have := denB_ends hg m a t h _ kx (fun e t h => match e with
    | .normal => Ends P (.code b) t h K
    | e => K e t h) (fun e t t' h hs hk => by
     cases e with
     | normal => exact Ends.sub hK hs hk
     | exit j => exact hK _ _ _ _ hs hk
     | ret => exact hK _ _ _ _ hs hk) (fun t h hk => denB_ends hg m b t h kn kx K hK hn hx hr hk) hx hr hd
   obtain ⟨n, e, t1, h1, h2, h3⟩:=this
   cases e with
   | normal =>
    obtain ⟨n2, e2, t2, h4, h5, h6⟩:=h3
    obtain ⟨t3, h7, hs⟩:=run_lift (P:=P) (Nat.le_add_right n n2) (Sub.refl t) h2
    obtain ⟨t4, h8, hs2⟩:=run_lift (P:=P) (Nat.le_add_left n2 n) hs h5
    refine Ends.of_step ⟨n + n2, e2, t4, h4, ?_, hK _ _ _ _ hs2 h6⟩
    show thenCode (run P (n + n2)) b (run P (n + n2) (.code a) t h) = _
    rw [h7]; exact h8
   | exit j => exact Ends.of_step ⟨n, .exit j, t1, h1, by show thenCode (run P n) b (run P n (.code a) t h) = _; rw [h2]; rfl, h3⟩
   | ret => exact Ends.of_step ⟨n, .ret, t1, h1, by show thenCode (run P n) b (run P n (.code a) t h) = _; rw [h2]; rfl, h3⟩
  case cond x a b =>
   obtain ⟨v, hv, hd⟩:=optS_some hd
   rcases ifS_some hd with ⟨rfl, hd⟩ | ⟨rfl, hd⟩
   ·obtain ⟨n, e, t1, h1, h2, h3⟩ := denB_ends hg m a t h kn kx K hK hn hx hr hd
    exact Ends.of_step ⟨n, e, t1, h1, by show ifCode (run P n) a b t h (evalO t x) = _; rw [hv]; exact h2, h3⟩
   ·obtain ⟨n, e, t1, h1, h2, h3⟩ := denB_ends hg m b t h kn kx K hK hn hx hr hd
    exact Ends.of_step ⟨n, e, t1, h1, by show ifCode (run P n) a b t h (evalO t x) = _; rw [hv]; exact h2, h3⟩
  case block id c =>
   have := denB_ends hg m c t h kn _ (fun e t h => match e with
    | .exit j => bif Nat.beq j id then K .normal t h else K (.exit j) t h
    | e => K e t h) (fun e t t' h hs hk => by
     cases e with
     | normal => exact hK _ _ _ _ hs hk
     | exit j =>
      simp only at hk ⊢
      cases hj : Nat.beq j id <;> rw [hj] at hk <;> exact hK _ _ _ _ hs hk
     | ret => exact hK _ _ _ _ hs hk) hn (fun j t h hk => by
     simp only [cD_eq] at hk
     simp only
     cases hj : Nat.beq j id <;> rw [hj] at hk
     ·exact hx _ _ _ hk
     ·exact hn _ _ hk) hr hd
   obtain ⟨n, e, t1, h1, h2, h3⟩:=this
   cases e with
   | normal => exact Ends.of_step ⟨n, .normal, t1, h1, by show inBlk id (run P n (.code c) t h) = _; rw [h2]; rfl, h3⟩
   | ret => exact Ends.of_step ⟨n, .ret, t1, h1, by show inBlk id (run P n (.code c) t h) = _; rw [h2]; rfl, h3⟩
   | exit j =>
    simp only at h3
    cases hj : Nat.beq j id <;> rw [hj] at h3
    ·exact Ends.of_step ⟨n, .exit j, t1, h1, by show inBlk id (run P n (.code c) t h) = _; rw [h2]; simp only [inBlk, hj, cond_false], h3⟩
    ·exact Ends.of_step ⟨n, .normal, t1, h1, by show inBlk id (run P n (.code c) t h) = _; rw [h2]; simp only [inBlk, hj, cond_true], h3⟩
  case exit id => exact Ends.of_step ⟨0, .exit id, t, h, rfl, hx _ _ _ hd⟩
  case ret => exact Ends.of_step ⟨0, .ret, t, h, rfl, hr _ _ hd⟩
  case scope c =>
   obtain ⟨n, e, t1, h1, h2, h3⟩:=denB_ends hg m c t h kn kx K hK hn hx hr hd
   exact Ends.of_step ⟨n, e, t1, h1, h2, h3⟩
  case label l => exact Ends.of_step ⟨0, .normal, t, h, rfl, hn _ _ hd⟩
variable {rs : List ResultVar} {κ : List Fk} {kn kr : Hp → VH} {kx : Nat → Hp → VH}
theorem rngE_sound (hg : CallsOk P g) {m : Nat} {x y : Tmp} {a b : Code} {it : It} {q : V} {t : Tr V} (hn : ∀ h, kn h = some p → MeansE P rs κ (.ok .normal t h) p) (hx : ∀ j h, kx j h = some p → MeansE P rs κ (.ok (.exit j) t h) p) (hr : ∀ h, kr h = some p → MeansE P rs κ (.ok .ret t h) p) :
 ∀ (n : Nat) (h : Hp), rngE it q kn (fun i v h next => denB P g m a ((t.set x i).set y v) h (fun t h => denB P g m b t h (fun _ h => next h) (fun j _ h => kx j h) kr) (fun _ _ _ => none) (fun _ => none)) n h = some p →
  ∃ N e h', roundsR it (run P N) x y a b t q n h = .ok e t h' ∧ MeansE P rs κ (.ok e t h') p
 | 0, h, hd => ⟨0, .normal, h, rfl, hn h hd⟩
 | i + 1, h, hd => by
  obtain ⟨v, hv, hd⟩:=optS_some (x:=rowEl it h q i) hd
  have IH:=rngE_sound hg (m:=m) (a:=a) (b:=b) (x:=x) (y:=y) (it:=it) (q:=q) hn hx hr i
  let KB : Ex → Tr V → Hp → Prop := fun e _ h2 => match e with
   | .normal => ∃ N e h', roundsR it (run P N) x y a b t q i h2 = .ok e t h' ∧ MeansE P rs κ (.ok e t h') p
   | e => MeansE P rs κ (.ok e t h2) p
  have hKB : SubK KB:=fun e t1 t2 h2 _ hk => hk
  let KA : Ex → Tr V → Hp → Prop:=fun e t1 h1 => e = .normal ∧ Ends P (.code b) t1 h1 KB
  have hKA : SubK KA:=fun e t1 t2 h1 hs hk => ⟨hk.1, hk.2.sub hKB hs⟩
  obtain ⟨nA, e1, t1, h1, hA, he1, hB⟩:=denB_ends (p:=p) hg m a _ h _ _ KA hKA (fun t1 h1 hk => ⟨rfl, denB_ends (p:=p) hg m b t1 h1 _ _ KB hKB (fun _ h2 hk => IH h2 hk) (fun j _ h2 hk => hx j h2 hk) (fun _ h2 hk => hr h2 hk) hk⟩) (fun _ _ _ hk => by cases hk) (fun _ _ hk => by cases hk) hd
  subst he1
  obtain ⟨nB, e2, t2, h2, hB1, hB2⟩:=hB
  have fin : ∀ N, nA ≤ N → nB ≤ N → ∃ t4, bodyRng (run P N) b (run P N (.code a) ((t.set x (.int .i64 (.ofNat i))).set y v) h) = .ok e2 t4 h2:=by
   intro N ha hb
   obtain ⟨t3, h7, hs⟩:=run_lift (P:=P) ha (Sub.refl _) hA
   obtain ⟨t4, h8, _⟩:=run_lift (P:=P) hb hs hB1
   exact ⟨t4, by rw [h7]; exact h8⟩
  cases e2 with
  | normal =>
   obtain ⟨N0, e, h', h5, h6⟩:=hB2
   obtain ⟨t4, h7⟩:=fin (nA + nB + N0) (by omega) (by omega)
   refine ⟨nA + nB + N0, e, h', ?_, h6⟩
   simp only [roundsR, hv, roundR, h7, endRng]
   have:=roundsR_le (run_le' (P:=P) (show N0 ≤ nA + nB + N0 by omega)) (Sub.refl t) (it:=it) (x:=x) (y:=y) (a:=a) (b:=b) (p:=q) i h2
   rw [h5] at this
   cases h9 : roundsR it (run P (nA + nB + N0)) x y a b t q i h2 with
   | no => rw [h9] at this; exact this.elim
   | ok e9 t9 h10 =>
    have ht9:=roundsR_tree h9
    rw [h9] at this
    obtain ⟨rfl, rfl, _⟩:=this
    rw [ht9]
  | exit j =>
   obtain ⟨t4, h7⟩:=fin (nA + nB) (by omega) (by omega)
   exact ⟨nA + nB, .exit j, h2, by simp only [roundsR, hv, roundR, h7, endRng], hB2⟩
  | ret =>
   obtain ⟨t4, h7⟩:=fin (nA + nB) (by omega) (by omega)
   exact ⟨nA + nB, .ret, h2, by simp only [roundsR, hv, roundR, h7, endRng], hB2⟩
theorem rngD_sound (hg : CallsOk P g) {m : Nat} {f : Operand} {ps : Array Tmp} {a b : Code} {t : Tr V} {h : Hp} {v : V} (hf : evalO t f = some v) (hn : ∀ h, kn h = some p → MeansE P rs κ (.ok .normal t h) p) (hx : ∀ j h, kx j h = some p → MeansE P rs κ (.ok (.exit j) t h) p) (hr : ∀ h, kr h = some p → MeansE P rs κ (.ok .ret t h) p)
 (hd : rngD P g m ps.toList a b t h v kn kx kr = some p) : Means P rs κ (.rangeFunc f ps a b) t h p:=by
 unfold rngD at hd
 split at hd
 ·rename_i x y hps
  unfold rngV rngT at hd
  split at hd
  ·rename_i fn q
   unfold rngI at hd
   split at hd
   ·rename_i it hit
    cases hl : rowLen h q with
    | none => rw [hl] at hd; cases hd
    | some n =>
     rw [hl] at hd
     cases hb : Nat.ble n big with
     | false => change whenE (Nat.ble n big) _ = _ at hd; rw [hb] at hd; cases hd
     | true =>
      change whenE (Nat.ble n big) _ = _ at hd; rw [hb] at hd
      obtain ⟨N, e, h', h1, n2, h2⟩:=rngE_sound hg hn hx hr n h hd
      refine MeansK.of_step ⟨N + n2, ?_⟩
      show kOut P (run P (N + n2)) rs κ (rngR (run P (N + n2)) ps.toList a b t h (evalO t f)) = some p
      have e1 : rngR (run P (N + n2)) ps.toList a b t h (evalO t f) = roundsR it (run P (N + n2)) x y a b t q n h:=by
       rw [hf, hps]
       simp only [rngR, hit, rngF, hl, rowsR, hb, cond_true]
      rw [e1]
      have:=roundsR_le (run_le' (P:=P) (Nat.le_add_right N n2)) (Sub.refl t) (it:=it) (x:=x) (y:=y) (a:=a) (b:=b) (p:=q) n h
      rw [h1] at this
      exact kOut_lift (Nat.le_add_left n2 N) this h2
   ·cases hd
  ·cases hd
 ·cases hd
end
section
variable {P : Program} [Orc] {g : Nat → List V → Hp → VH}
def At (body : Code) (q : Nat) (c : Code) (κ : List Fk) : Prop:=∃ n, atN body n q = some (c, κ)
theorem atN_succ {body : Code} : ∀ {n q : Nat} {x : Code × List Fk}, atN body n q = some x → atN body (n + 1) q = some x
 | 0, _, _, h => by cases h
 | n + 1, q, x, h => by
  rw [atN] at h ⊢
  cases hq : Nat.beq q 1 <;> rw [hq] at h
  ·simp only [cond_false] at h ⊢
   cases hp : atN body n (q / 2) with
   | none => rw [hp] at h; cases h
   | some y => rw [atN_succ hp]; rw [hp] at h; exact h
  ·exact h
theorem atN_le {body : Code} {n m q : Nat} {x : Code × List Fk} (h : atN body n q = some x) (hm : n ≤ m) : atN body m q = some x:=by
 induction hm with
 | refl => exact h
 | step _ ih => exact atN_succ ih
theorem At.unique {body : Code} {q : Nat} {c c' : Code} {κ κ' : List Fk} (h : At body q c κ) (h' : At body q c' κ') : c = c' ∧ κ = κ':=by
 obtain ⟨n, hn⟩:=h
 obtain ⟨m, hm⟩:=h'
 have h1:=atN_le hn (Nat.le_add_right n m)
 rw [atN_le hm (Nat.le_add_left m n)] at h1
 simp only [Option.some.injEq, Prod.mk.injEq] at h1
 exact ⟨h1.1.symm, h1.2.symm⟩
theorem at_root (body : Code) : At body 1 body []:=⟨1, rfl⟩
theorem at_left {body : Code} {q : Nat} {c c' : Code} {κ κ' : List Fk} (h : At body q c κ) (hc : childL q κ c = some (c', κ')) : At body (2 * q) c' κ':=by
 obtain ⟨n, hn⟩:=h
 refine ⟨n + 1, ?_⟩
 rw [atN]
 have h1 : Nat.beq (2 * q) 1 = false:=by
  cases hb : Nat.beq (2 * q) 1 with
  | false => rfl
  | true => have:=Nat.eq_of_beq_eq_true hb; omega
 have h2 : 2 * q / 2 = q:=by omega
 have h3 : 2 * q % 2 = 0:=by omega
 rw [h1, h2, h3, hn]
 exact hc
theorem at_pos {body : Code} : ∀ {n q : Nat} {x : Code × List Fk}, atN body n q = some x → q ≠ 0
 | 0, _, _, h => by cases h
 | n + 1, q, x, h => by
  rintro rfl
  rw [atN] at h
  have h1 : Nat.beq 0 1 = false:=rfl
  rw [h1] at h
  simp only [cond_false] at h
  cases hp : atN body n (0 / 2) with
  | none => rw [hp] at h; cases h
  | some y => exact at_pos hp rfl
theorem at_right {body : Code} {q : Nat} {c c' : Code} {κ κ' : List Fk} (h : At body q c κ) (hc : childR κ c = some (c', κ')) : At body (2 * q + 1) c' κ':=by
 obtain ⟨n, hn⟩:=h
 have hq:=at_pos hn
 refine ⟨n + 1, ?_⟩
 rw [atN]
 have h1 : Nat.beq (2 * q + 1) 1 = false:=by
  cases hb : Nat.beq (2 * q + 1) 1 with
  | false => rfl
  | true => have:=Nat.eq_of_beq_eq_true hb; omega
 have h2 : (2 * q + 1) / 2 = q:=by omega
 have h3 : (2 * q + 1) % 2 = 1:=by omega
 rw [h1, h2, h3, hn]
 exact hc
def WfK (body : Code) : List Fk → Prop
 | [] => True
 | .seq b q :: κ => At body q b κ ∧ WfK body κ
 | .blk _ :: κ => WfK body κ
 | .loop c q :: κ => At body q (.loop c) κ ∧ WfK body κ
theorem wf_left {body : Code} {q : Nat} {c c' : Code} {κ κ' : List Fk} (h : At body q c κ) (hw : WfK body κ) (hc : childL q κ c = some (c', κ')) : WfK body κ':=by
 cases c <;> simp only [childL, Option.some.injEq, Prod.mk.injEq, reduceCtorEq] at hc
 ·obtain ⟨_, rfl⟩ := hc; exact ⟨at_right h rfl, hw⟩
 ·obtain ⟨_, rfl⟩ := hc; exact hw
 ·obtain ⟨_, rfl⟩ := hc; exact hw
 ·obtain ⟨_, rfl⟩ := hc; exact ⟨h, hw⟩
 ·obtain ⟨_, rfl⟩ := hc; exact hw
theorem wf_right {body : Code} {c c' : Code} {κ κ' : List Fk} (hw : WfK body κ) (hc : childR κ c = some (c', κ')) : WfK body κ':=by
 cases c <;> simp only [childR, Option.some.injEq, Prod.mk.injEq, reduceCtorEq] at hc
 ·obtain ⟨_, rfl⟩ := hc; exact hw
 ·obtain ⟨_, rfl⟩ := hc; exact hw
theorem wf_at {body : Code} : ∀ {n q : Nat} {c : Code} {κ : List Fk}, atN body n q = some (c, κ) → WfK body κ
 | 0, _, _, _, h => by cases h
 | n + 1, q, c, κ, h => by
  rw [atN] at h
  cases hq : Nat.beq q 1 <;> rw [hq] at h
  ·simp only [cond_false] at h
   cases hp : atN body n (q / 2) with
   | none => rw [hp] at h; cases h
   | some y =>
    obtain ⟨c0, κ0⟩:=y
    rw [hp] at h
    simp only [childOf] at h
    cases ho : Nat.beq (q % 2) 1 <;> rw [ho] at h
    ·exact wf_left ⟨n, hp⟩ (wf_at hp) h
    ·exact wf_right (wf_at hp) h
  ·simp only [cond_true, Option.some.injEq, Prod.mk.injEq] at h
   obtain ⟨_, rfl⟩:=h
   exact trivial
theorem At.wf {body : Code} {q : Nat} {c : Code} {κ : List Fk} (h : At body q c κ) : WfK body κ:=by
 obtain ⟨n, hn⟩:=h
 exact wf_at hn
theorem getAll_sub {t : Tr V} : ∀ {live : List Tmp} {vs : List V}, getAll t live = some vs → Sub (setAll live vs .nil) t
 | [], vs, h => by
  simp only [getAll, Option.some.injEq] at h; subst h
  intro i v hv
  simp only [setAll, Tr.get_nil] at hv; cases hv
 | j :: live, vs, h => by
  simp only [getAll] at h
  cases hj : t.get j with
  | none => rw [hj] at h; cases h
  | some x =>
   rw [hj] at h
   simp only at h
   cases hl : getAll t live with
   | none => rw [hl] at h; cases h
   | some xs =>
    rw [hl] at h
    simp only [Option.some.injEq] at h
    subst h
    intro i v hv
    simp only [setAll] at hv
    rw [Tr.get_set] at hv
    by_cases hd : j = i
    ·subst hd
     rw [if_pos rfl] at hv
     simp only [Option.some.injEq] at hv; subst hv
     exact hj
    ·rw [if_neg hd] at hv
     exact getAll_sub hl i v hv
def CutsOk (P : Program) (g : Nat → List V → Hp → VH) (rs : List ResultVar) (body : Code) (cuts : Cuts) : Prop :=
 ∀ q l live, cutAt q cuts = some (l, live) → ∀ c κ, At body q c κ → ∀ vs h p, g (2 * l + 1) vs h = some p → Means P rs κ c (setAll live vs .nil) h p
variable {rs : List ResultVar} {body : Code} {cuts : Cuts} {t : Tr V} {h : Hp} {p : V × Hp}
theorem jump_sound (hc : CutsOk P g rs body cuts) {q : Nat} {c : Code} {κ : List Fk} (ha : At body q c κ) (hj : jumpTo g t h (cutAt q cuts) = some p) : Means P rs κ c t h p:=by
 unfold jumpTo at hj
 split at hj
 ·rename_i l live heq
  split at hj
  ·rename_i vs hvs
   exact (hc q l live heq c κ ha vs h p hj).sub (getAll_sub hvs)
  ·cases hj
 ·cases hj
theorem denRes_some : ∀ {rs : List ResultVar} {k : List V → VH}, denRes P h t rs k = some p → ∃ vs, resV P h t rs = some vs ∧ k vs = some p
 | [], k, hd => ⟨[], rfl, hd⟩
 | .tmp i :: rs, k, hd => by
  simp only [denRes] at hd
  obtain ⟨v, hv, hd⟩:=optS_some hd
  obtain ⟨vs, h1, h2⟩:=denRes_some hd
  exact ⟨v :: vs, by simp only [resV, resOne, hv, h1], h2⟩
 | .cell a ty :: rs, k, hd => by
  simp only [denRes] at hd
  obtain ⟨a', ha, hd⟩:=optS_some hd
  have key : ∃ v, resOne P h t (.cell a ty) = some v ∧ denRes P h t rs (fun vs => k (v :: vs)) = some p:=by
   obtain ⟨v, h', h1, h2⟩:=loadD_some hd
   refine ⟨v, ?_, h2⟩
   unfold exLoad at h1
   split at h1
   ·rename_i b off heq
    simp only [Option.some.injEq] at heq
    subst heq
    simp only [resOne, ha]
    cases hl : loadV P h ty b off with
    | none => rw [hl] at h1; cases h1
    | some x => rw [hl] at h1; simp only [vh, Option.some.injEq, Prod.mk.injEq] at h1; rw [h1.1]
   ·cases h1
  obtain ⟨v, hv, hd⟩:=key
  obtain ⟨vs, h1, h2⟩:=denRes_some hd
  exact ⟨v :: vs, by simp only [resV, hv, h1], h2⟩
theorem retS_some (hr : retS P rs t h = some p) : ∃ vs, resV P h t rs = some vs ∧ p = (one vs, h):=by
 obtain ⟨vs, h1, h2⟩:=denRes_some hr
 simp only [Option.some.injEq] at h2
 exact ⟨vs, h1, h2.symm⟩
theorem ret_sound (hr : retS P rs t h = some p) : ∀ κ, MeansE P rs κ (.ok .ret t h) p
 | [] => by
  obtain ⟨vs, h1, rfl⟩:=retS_some hr
  exact ⟨0, by simp only [kOut, backV, h1]⟩
 | .seq _ _ :: κ => ret_sound hr κ
 | .blk _ :: κ => ret_sound hr κ
 | .loop _ _ :: κ => ret_sound hr κ
variable {d : Code → Nat → List Fk → Tr V → Hp → VH}
theorem popN_sound (hc : CutsOk P g rs body cuts) (hd : ∀ c q κ t h p, At body q c κ → WfK body κ → d c q κ t h = some p → Means P rs κ c t h p) : ∀ κ, WfK body κ → popN P g cuts rs d t h κ = some p → MeansE P rs κ (.ok .normal t h) p
 | [], _, hp => by
  obtain ⟨vs, h1, rfl⟩:=retS_some hp
  exact ⟨0, by simp only [kOut, backV, h1]⟩
 | .seq b q :: κ, hw, hp => by
  simp only [popN] at hp
  split at hp
  ·rename_i c heq
   rw [← heq] at hp
   exact meansE_seq (jump_sound hc hw.1 hp)
  ·exact meansE_seq (hd b q κ t h p hw.1 hw.2 hp)
 | .blk _ :: κ, hw, hp => popN_sound hc hd κ hw hp
 | .loop c q :: κ, hw, hp => meansE_loop (jump_sound hc hw.1 hp)
theorem popX_sound (hc : CutsOk P g rs body cuts) (hd : ∀ c q κ t h p, At body q c κ → WfK body κ → d c q κ t h = some p → Means P rs κ c t h p) {id : Nat} : ∀ κ, WfK body κ → popX P g cuts rs d id t h κ = some p → MeansE P rs κ (.ok (.exit id) t h) p
 | [], _, hp => by cases hp
 | .seq _ _ :: κ, hw, hp => popX_sound hc hd κ hw.2 hp
 | .blk j :: κ, hw, hp => by
  simp only [popX] at hp
  simp only [cD_eq] at hp
  cases hj : Nat.beq id j <;> rw [hj] at hp
  ·obtain ⟨n, hn⟩ := popX_sound hc hd κ hw hp
   exact ⟨n, by simp only [kOut, inBlk, hj, cond_false]; exact hn⟩
  ·obtain ⟨n, hn⟩ := popN_sound hc hd κ hw hp
   exact ⟨n, by simp only [kOut, inBlk, hj, cond_true]; exact hn⟩
 | .loop _ _ :: κ, hw, hp => popX_sound hc hd κ hw.2 hp
theorem den_sound (hg : CallsOk P g) (hc : CutsOk P g rs body cuts) : ∀ m c q κ t h p, At body q c κ → WfK body κ → den P g cuts rs m c q κ t h = some p → Means P rs κ c t h p
 | 0, _, _, _, _, _, _, _, _, hd => by cases hd
 | m + 1, c, q, κ, t, h, p, ha, hw, hd => by
  have IH:=den_sound hg hc m
  cases c <;> simp only [den, reduceCtorEq] at hd
  case skip => exact means_skip (popN_sound hc IH κ hw hd)
  case region id ops dr => exact denReg_sound hg (fun t h p hk => popN_sound hc IH κ hw hk) hd
  case seq a b => exact means_seq (IH _ _ _ _ _ _ (at_left ha rfl) (wf_left ha hw rfl) hd)
  case cond x a b =>
   obtain ⟨v, hv, hd⟩:=optS_some hd
   rcases ifS_some hd with ⟨rfl, hd⟩ | ⟨rfl, hd⟩
   ·exact means_cond hv (IH _ _ _ _ _ _ (at_left ha rfl) (wf_left ha hw rfl) hd)
   ·exact means_cond hv (IH _ _ _ _ _ _ (at_right ha rfl) (wf_right (c := .cond x a b) hw rfl) hd)
  case block id c => exact means_block (IH _ _ _ _ _ _ (at_left ha rfl) (wf_left ha hw rfl) hd)
  case loop c => exact jump_sound hc ha hd
  case exit id => exact means_exit (popX_sound hc IH κ hw hd)
  case ret => exact means_ret (ret_sound hd κ)
  case scope c => exact means_scope (IH _ _ _ _ _ _ (at_left ha rfl) (wf_left ha hw rfl) hd)
  case label l => exact means_label (popN_sound hc IH κ hw hd)
  case rangeFunc f ps a b =>
   obtain ⟨v, hv, hd⟩:=optS_some hd
   exact rngD_sound hg hv (fun h hk => popN_sound hc IH κ hw hk) (fun j h hk => popX_sound hc IH κ hw hk) (fun h hk => ret_sound hk κ) hd
theorem denIn_sound (hg : CallsOk P g) (hc : CutsOk P g rs body cuts) {m q : Nat} {c : Code} {κ : List Fk} (ha : At body q c κ) (hd : denIn P g cuts rs m q t h (some (c, κ)) = some p) : Means P rs κ c t h p:=by
 unfold denIn at hd
 split at hd
 ·rename_i c' κ' heq
  simp only [Option.some.injEq, Prod.mk.injEq] at heq
  obtain ⟨rfl, rfl⟩:=heq
  exact means_loop (q:=q) (den_sound hg hc m _ _ _ _ _ _ (at_left ha rfl) (wf_left ha ha.wf rfl) hd)
 ·rename_i c' κ' _ heq
  simp only [Option.some.injEq, Prod.mk.injEq] at heq
  obtain ⟨rfl, rfl⟩:=heq
  exact den_sound hg hc m _ _ _ _ _ _ ha ha.wf hd
 ·rename_i heq; cases heq
abbrev Lab:=FuncId × Nat × List Tmp
def tmpsEq : List Tmp → List Tmp → Bool
 | [], [] => true
 | a :: x, b :: y => Nat.beq a b && tmpsEq x y
 | _, _ => false
theorem tmpsEq_eq : ∀ {a b : List Tmp}, tmpsEq a b = true → a = b
 | [], [], _ => rfl
 | a :: x, b :: y, h => by
  simp only [tmpsEq, Bool.and_eq_true] at h
  rw [Nat.eq_of_beq_eq_true h.1, tmpsEq_eq h.2]
 | [], _ :: _, h => by cases h
 | _ :: _, [], h => by cases h
def cutsFit (labs : Tr Lab) (f : FuncId) : Cuts → Bool
 | [] => true
 | (q, l, live) :: cs => (match labs.get l with
  | some (f', q', live') => Nat.beq f' f && (Nat.beq q' q && tmpsEq live' live)
  | none => false) && cutsFit labs f cs
theorem cutsFit_spec {labs : Tr Lab} {f : FuncId} {q l : Nat} {live : List Tmp} : ∀ {cs : Cuts}, cutsFit labs f cs = true → cutAt q cs = some (l, live) → labs.get l = some (f, q, live)
 | [], _, h => by cases h
 | (q0, l0, live0) :: cs, hf, h => by
  simp only [cutsFit, Bool.and_eq_true] at hf
  simp only [cutAt] at h
  cases hb : Nat.beq q0 q <;> rw [hb] at h
  ·exact cutsFit_spec hf.2 h
  ·simp only [cond_true, Option.some.injEq, Prod.mk.injEq] at h
   obtain ⟨rfl, rfl⟩:=h
   have hq:=Nat.eq_of_beq_eq_true hb
   subst hq
   have h1:=hf.1
   split at h1
   ·rename_i f' q' live' heq
    simp only [Bool.and_eq_true] at h1
    obtain ⟨h2, h3, h4⟩:=h1
    rw [heq, Nat.eq_of_beq_eq_true h2, Nat.eq_of_beq_eq_true h3, tmpsEq_eq h4]
   ·cases h1
abbrev Sh:=(Nat → List V → Hp → VH) → List V → Hp → VH
def LabsOk (P : Program) (labs : Tr Lab) (g : Nat → List V → Hp → VH) : Prop :=
 ∀ l f q live, labs.get l = some (f, q, live) → ∀ fn body, P.funcs[f]? = some fn → fn.body = some body → ∀ c κ, At body q c κ → ∀ vs h p, g (2 * l + 1) vs h = some p → Means P fn.results.toList κ c (setAll live vs .nil) h p
theorem labs_cuts {labs : Tr Lab} (hl : LabsOk P labs g) {f : FuncId} {cs : Cuts} (hf : cutsFit labs f cs = true) {fn : Func} {body : Code} (h1 : P.funcs[f]? = some fn) (h2 : fn.body = some body) : CutsOk P g fn.results.toList body cs :=
 fun q l live hc c κ ha vs h p hp => hl l f q live (cutsFit_spec hf hc) fn body h1 h2 c κ ha vs h p hp
def EntOk (P : Program) (labs : Tr Lab) (key : Nat) (G : Sh) : Prop :=
 (∀ f, key = 2 * f → (∀ ih as h p, G ih as h = some p → Orc.fn f as h = some p) ∨ (∀ as h, Orc.fn f as h = none) ∧ ∃ m cs, cutsFit labs f cs = true ∧ ∀ ih as h, OLe (G ih as h) (denF P ih m cs as h (P.funcs[f]?))) ∧
 (∀ l, key = 2 * l + 1 → ∃ f q live m cs, labs.get l = some (f, q, live) ∧ cutsFit labs f cs = true ∧ ∀ ih vs h, OLe (G ih vs h) (denL P ih m cs q live vs h (P.funcs[f]?)))
def consE (k : V → List V → VH) (vs : List V) : VH:=(fun _ : Nat => List.rec (motive:=fun _ => VH) none (fun v r _ => k v r) vs) tlTop
def nilE (x : VH) (vs : List V) : VH:=(fun _ : Nat => List.rec (motive:=fun _ => VH) x (fun _ _ _ => none) vs) tlTop
omit [Orc] in
theorem consE_le {k : V → List V → VH} {X : List V → VH} (h : ∀ v r, OLe (k v r) (X (v :: r))) : ∀ vs, OLe (consE k vs) (X vs)
 | [] => OLe.none _
 | v :: r => h v r
omit [Orc] in
theorem nilE_le {x : VH} {X : List V → VH} (h : x = X []) : ∀ vs, OLe (nilE x vs) (X vs)
 | [] => by intro a ha; rw [← h]; exact ha
 | _ :: _ => OLe.none _
theorem entF {labs : Tr Lab} {f : FuncId} {G : Sh} (ho : ∀ as h, Orc.fn f as h = none) (m : Nat) (cs : Cuts) (hf : cutsFit labs f cs = true) (h : ∀ ih as h, OLe (G ih as h) (denF P ih m cs as h (P.funcs[f]?))) : EntOk P labs (2 * f) G :=
 ⟨fun f' hf' => by have : f' = f := by omega
                   subst this; exact .inr ⟨ho, m, cs, hf, h⟩, fun l hl => by omega⟩
theorem entL {labs : Tr Lab} {l : Nat} {G : Sh} (f : FuncId) (q : Nat) (live : List Tmp) (m : Nat) (cs : Cuts) (hl : labs.get l = some (f, q, live)) (hf : cutsFit labs f cs = true) (h : ∀ ih vs h, OLe (G ih vs h) (denL P ih m cs q live vs h (P.funcs[f]?))) : EntOk P labs (2 * l + 1) G :=
 ⟨fun f' hf' => by omega, fun l' hl' => by have : l' = l := by omega
                                           subst this; exact ⟨f, q, live, m, cs, hl, hf, h⟩⟩
end
section
variable {P : Program} [Orc]
def RunsF (P : Program) [Orc] (f : FuncId) (as : List V) (h : Hp) (p : V × Hp) : Prop:=∃ n, enterV P (run P n) h (some (f, as)) = some p
theorem RunsF.det {f : FuncId} {as : List V} {h : Hp} {p q : V × Hp} (h1 : RunsF P f as h p) (h2 : RunsF P f as h q) : p = q:=by
 obtain ⟨n, hn⟩:=h1
 obtain ⟨m, hm⟩:=h2
 have e1:=enterV_le (P:=P) (run_le' (Nat.le_add_right n m)) h (OLe.refl (some (f, as))) _ hn
 have e2:=enterV_le (P:=P) (run_le' (Nat.le_add_left m n)) h (OLe.refl (some (f, as))) _ hm
 rw [e1] at e2
 exact Option.some.inj e2
theorem Means.det {rs : List ResultVar} {κ : List Fk} {c : Code} {t : Tr V} {h : Hp} {p q : V × Hp} (h1 : Means P rs κ c t h p) (h2 : Means P rs κ c t h q) : p = q:=by
 obtain ⟨n, hn⟩:=h1
 obtain ⟨m, hm⟩:=h2
 have e1:=kOut_lift (P:=P) (Nat.le_add_right n m) (run_le' (Nat.le_add_right n m) _ _ _ _ (Sub.refl _)) hn
 have e2:=kOut_lift (P:=P) (Nat.le_add_left m n) (run_le' (Nat.le_add_left m n) _ _ _ _ (Sub.refl _)) hm
 rw [e1] at e2
 exact Option.some.inj e2
def RunsL (P : Program) [Orc] (labs : Tr Lab) (l : Nat) (vs : List V) (h : Hp) (p : V × Hp) : Prop :=
 ∃ f q live fn body c κ, labs.get l = some (f, q, live) ∧ P.funcs[f]? = some fn ∧ fn.body = some body ∧ At body q c κ ∧ Means P fn.results.toList κ c (setAll live vs .nil) h p
theorem RunsL.det {labs : Tr Lab} {l : Nat} {vs : List V} {h : Hp} {p q : V × Hp} (h1 : RunsL P labs l vs h p) (h2 : RunsL P labs l vs h q) : p = q:=by
 obtain ⟨f, q1, live, fn, body, c, κ, a1, a2, a3, a4, a5⟩:=h1
 obtain ⟨f', q1', live', fn', body', c', κ', b1, b2, b3, b4, b5⟩:=h2
 rw [a1] at b1
 simp only [Option.some.injEq, Prod.mk.injEq] at b1
 obtain ⟨rfl, rfl, rfl⟩:=b1
 rw [a2] at b2
 simp only [Option.some.injEq] at b2
 subst b2
 rw [a3] at b3
 simp only [Option.some.injEq] at b3
 subst b3
 obtain ⟨rfl, rfl⟩:=a4.unique b4
 exact a5.det b5
open Classical in
def lim (P : Program) [Orc] (labs : Tr Lab) (key : Nat) (vs : List V) (h : Hp) : VH :=
 if key % 2 = 0 then (if hx : ∃ p, RunsF P (key / 2) vs h p then some hx.choose else none)
 else (if hx : ∃ p, RunsL P labs (key / 2) vs h p then some hx.choose else none)
theorem lim_F {labs : Tr Lab} {f : FuncId} {as : List V} {h : Hp} {p : V × Hp} : lim P labs (2 * f) as h = some p ↔ RunsF P f as h p:=by
 unfold lim
 rw [if_pos (Nat.mul_mod_right 2 f), Nat.mul_div_cancel_left f (by decide)]
 by_cases hx : ∃ p, RunsF P f as h p
 ·rw [dif_pos hx]
  exact ⟨fun e => by rw [← Option.some.inj e]; exact hx.choose_spec, fun hp => by rw [hx.choose_spec.det hp]⟩
 ·rw [dif_neg hx]
  exact ⟨fun e => by (cases e), fun hp => (hx ⟨p, hp⟩).elim⟩
theorem lim_L {labs : Tr Lab} {l : Nat} {vs : List V} {h : Hp} {p : V × Hp} : lim P labs (2 * l + 1) vs h = some p ↔ RunsL P labs l vs h p:=by
 unfold lim
 rw [if_neg (by omega), show (2 * l + 1) / 2 = l by omega]
 by_cases hx : ∃ p, RunsL P labs l vs h p
 ·rw [dif_pos hx]
  exact ⟨fun e => by rw [← Option.some.inj e]; exact hx.choose_spec, fun hp => by rw [hx.choose_spec.det hp]⟩
 ·rw [dif_neg hx]
  exact ⟨fun e => by (cases e), fun hp => (hx ⟨p, hp⟩).elim⟩
theorem lim_calls {labs : Tr Lab} : CallsOk P (lim P labs):=fun _ _ _ _ hp => lim_F.1 hp
theorem lim_labs {labs : Tr Lab} : LabsOk P labs (lim P labs):=by
 intro l f q live hl fn body hfn hb c κ ha vs h p hp
 obtain ⟨f', q', live', fn', body', c', κ', a1, a2, a3, a4, a5⟩:=lim_L.1 hp
 rw [a1] at hl
 simp only [Option.some.injEq, Prod.mk.injEq] at hl
 obtain ⟨rfl, rfl, rfl⟩:=hl
 rw [a2] at hfn
 simp only [Option.some.injEq] at hfn
 subst hfn
 rw [a3] at hb
 simp only [Option.some.injEq] at hb
 subst hb
 obtain ⟨rfl, rfl⟩:=a4.unique ha
 exact a5
theorem ent_F {g : Nat → List V → Hp → VH} {labs : Tr Lab} (h1 : CallsOk P g) (h2 : LabsOk P labs g) {f : FuncId} {G : Sh} (he : EntOk P labs (2 * f) G) {vs : List V} {h : Hp} {p : V × Hp} (hp : G g vs h = some p) : RunsF P f vs h p:=by
 rcases he.1 f rfl with hor | ⟨hor, m, cs, hcs, hle⟩
 ·exact ⟨0, by simp only [enterV, hor _ _ _ _ hp, enterO]⟩
 have hd:=hle _ _ _ _ hp
 unfold denF at hd
 cases hfn : P.funcs[f]? with
 | none => rw [hfn] at hd; cases hd
 | some fn =>
  rw [hfn] at hd
  simp only at hd
  cases hb : fn.body with
  | none => rw [hb] at hd; cases hd
  | some c =>
   rw [hb] at hd
   simp only [cD_eq] at hd
   cases hok : (Nat.ble vs.length fn.ntmps && okCode fn.ntmps c) <;> rw [hok] at hd
   ·cases hd
   ·obtain ⟨k, hk⟩ := denIn_sound h1 (labs_cuts h2 hcs hfn hb) (at_root c) hd
    refine ⟨k, ?_⟩
    simp only [enterV, hor, enterO, enterB, hfn, bodyV, hb, hok, cond_true]
    exact hk
theorem ent_L {g : Nat → List V → Hp → VH} {labs : Tr Lab} (h1 : CallsOk P g) (h2 : LabsOk P labs g) {l : Nat} {G : Sh} (he : EntOk P labs (2 * l + 1) G) {vs : List V} {h : Hp} {p : V × Hp} (hp : G g vs h = some p) : RunsL P labs l vs h p:=by
 obtain ⟨f, q, live, m, cs, hl, hcs, hle⟩:=he.2 l rfl
 have hd:=hle _ _ _ _ hp
 unfold denL at hd
 cases hfn : P.funcs[f]? with
 | none => rw [hfn] at hd; cases hd
 | some fn =>
  rw [hfn] at hd
  simp only at hd
  cases hb : fn.body with
  | none => rw [hb] at hd; cases hd
  | some body =>
   rw [hb] at hd
   simp only at hd
   cases hat : atN body (q + 1) q with
   | none => rw [hat] at hd; cases hd
   | some x =>
    obtain ⟨c, κ⟩:=x
    rw [hat] at hd
    exact ⟨f, q, live, fn, body, c, κ, hl, hfn, hb, ⟨_, hat⟩, denIn_sound h1 (labs_cuts h2 hcs hfn hb) ⟨_, hat⟩ hd⟩
theorem lim_ent {labs : Tr Lab} {key : Nat} {G : Sh} (he : EntOk P labs key G) {vs : List V} {h : Hp} {p : V × Hp} (hp : G (lim P labs) vs h = some p) : lim P labs key vs h = some p:=by
 rcases Nat.mod_two_eq_zero_or_one key with hk | hk
 ·obtain ⟨f, rfl⟩ : ∃ f, key = 2 * f := ⟨key / 2, by omega⟩
  exact lim_F.2 (ent_F lim_calls lim_labs he hp)
 ·obtain ⟨l, rfl⟩ : ∃ l, key = 2 * l + 1 := ⟨key / 2, by omega⟩
  exact lim_L.2 (ent_L lim_calls lim_labs he hp)
end
end Go.Mid
end
