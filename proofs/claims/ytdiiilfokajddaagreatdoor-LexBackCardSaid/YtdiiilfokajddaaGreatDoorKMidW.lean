/- The shallow reading is sound: rows of operations and regions that draw. -/
import Derived.Test.YtdiiilfokajddaaGreatDoorKMidV
set_option linter.all false
set_option warn.classDefReducibility false
noncomputable section
section
namespace Go.Mid
section
variable {P : Program} [Orc] {g : Nat → List V → Hp → VH}
def kOut (P : Program) (r : Rn) (rs : List ResultVar) : List Fk → Out → VH
 | [], o => backV P rs o
 | .seq b _ :: κ, o => kOut P r rs κ (thenCode r b o)
 | .blk id :: κ, o => kOut P r rs κ (inBlk id o)
 | .loop c _ :: κ, o => kOut P r rs κ (thenCode r (.loop c) o)
theorem kOut_le {r r' : Rn} (hr : RLe r r') (rs : List ResultVar) : ∀ (κ : List Fk) {o o' : Out}, ULe o o' → OLe (kOut P r rs κ o) (kOut P r' rs κ o')
 | [], _, _, h => backV_le h rs
 | .seq b _ :: κ, _, _, h => kOut_le hr rs κ (thenCode_le hr b h)
 | .blk id :: κ, _, _, h => kOut_le hr rs κ (inBlk_le id h)
 | .loop c _ :: κ, _, _, h => kOut_le hr rs κ (thenCode_le hr (.loop c) h)
def MeansE (P : Program) (rs : List ResultVar) (κ : List Fk) (o : Out) (p : V × Hp) : Prop:=∃ n, kOut P (run P n) rs κ o = some p
def MeansK (P : Program) (rs : List ResultVar) (κ : List Fk) (k : Tk) (t : Tr V) (h : Hp) (p : V × Hp) : Prop:=∃ n, kOut P (run P n) rs κ (run P n k t h) = some p
abbrev Means (P : Program) (rs : List ResultVar) (κ : List Fk) (c : Code) (t : Tr V) (h : Hp) (p : V × Hp) : Prop:=MeansK P rs κ (.code c) t h p
variable {rs : List ResultVar} {κ : List Fk} {t t' : Tr V} {h : Hp} {p : V × Hp}
theorem kOut_lift {n m : Nat} (hn : n ≤ m) {o o' : Out} (ho : ULe o o') (hk : kOut P (run P n) rs κ o = some p) : kOut P (run P m) rs κ o' = some p :=
 kOut_le (run_le' hn) rs κ ho _ hk
theorem MeansK.sub {k : Tk} (hs : Sub t t') (hm : MeansK P rs κ k t h p) : MeansK P rs κ k t' h p:=by
 obtain ⟨n, hn⟩:=hm
 exact ⟨n, kOut_lift (Nat.le_refl n) (run_le' (Nat.le_refl n) k t t' h hs) hn⟩
theorem MeansK.of_step {k : Tk} (hm : ∃ n, kOut P (run P n) rs κ (step P (run P n) k t h) = some p) : MeansK P rs κ k t h p:=by
 obtain ⟨n, hn⟩:=hm
 exact ⟨n + 1, kOut_lift (Nat.le_succ n) (ULe.refl _) hn⟩
theorem means_skip (hm : MeansE P rs κ (.ok .normal t h) p) : Means P rs κ .skip t h p:=MeansK.of_step hm
theorem means_exit {id : Nat} (hm : MeansE P rs κ (.ok (.exit id) t h) p) : Means P rs κ (.exit id) t h p:=MeansK.of_step hm
theorem means_ret (hm : MeansE P rs κ (.ok .ret t h) p) : Means P rs κ .ret t h p:=MeansK.of_step hm
theorem means_seq {a b : Code} {q : Nat} (hm : Means P rs (.seq b q :: κ) a t h p) : Means P rs κ (.seq a b) t h p:=MeansK.of_step hm
theorem means_block {id : Nat} {c : Code} (hm : Means P rs (.blk id :: κ) c t h p) : Means P rs κ (.block id c) t h p:=MeansK.of_step hm
theorem means_scope {c : Code} (hm : Means P rs κ c t h p) : Means P rs κ (.scope c) t h p:=MeansK.of_step hm
theorem means_label {l : Nat} (hm : MeansE P rs κ (.ok .normal t h) p) : Means P rs κ (.label l) t h p:=MeansK.of_step hm
theorem means_loop {c : Code} {q : Nat} (hm : Means P rs (.loop c q :: κ) c t h p) : Means P rs κ (.loop c) t h p:=MeansK.of_step hm
theorem means_cond {x : Operand} {a b : Code} {v : Bool} (hv : evalO t x = some (.bool v)) (hm : Means P rs κ (bif v then a else b) t h p) : Means P rs κ (.cond x a b) t h p:=by
 obtain ⟨n, hn⟩:=hm
 refine MeansK.of_step ⟨n, ?_⟩
 show kOut P (run P n) rs κ (ifCode (run P n) a b t h (evalO t x)) = some p
 rw [hv]
 cases v <;> exact hn
theorem means_region {id : Nat} {ops : Array Oper} (hm : MeansK P rs κ (.ops ops ops.toList) t h p) : Means P rs κ (.region id ops false) t h p:=MeansK.of_step hm
theorem meansE_seq {b : Code} {q : Nat} (hm : Means P rs κ b t h p) : MeansE P rs (.seq b q :: κ) (.ok .normal t h) p:=hm
theorem meansE_loop {b : Code} {q : Nat} (hm : Means P rs κ (.loop b) t h p) : MeansE P rs (.loop b q :: κ) (.ok .normal t h) p:=hm
theorem means_nil {all : Array Oper} (hm : MeansE P rs κ (.ok .normal t h) p) : MeansK P rs κ (.ops all []) t h p:=MeansK.of_step hm
theorem means_op {all : Array Oper} {o : Oper} {l : List Oper} (hw : wantO all t o = some true) {v : V} {h' : Hp} (ho : ∃ n, opV P (run P n) t h o = some (v, h')) (hm : MeansK P rs κ (.ops all l) (putO t o.dst v) h' p) : MeansK P rs κ (.ops all (o :: l)) t h p:=by
 obtain ⟨n, hn⟩:=ho
 obtain ⟨m, hm⟩:=hm
 refine MeansK.of_step ⟨n + m, ?_⟩
 have h1:=opV_le (P:=P) (run_le' (Nat.le_add_right n m)) (Sub.refl t) h o _ hn
 show kOut P (run P (n + m)) rs κ (stepOps P (run P (n + m)) all o l t h (wantO all t o)) = some p
 rw [hw]
 simp only [stepOps, h1, goOps]
 exact kOut_lift (Nat.le_add_left m n) (run_le' (Nat.le_add_left m n) _ _ _ _ (Sub.refl _)) hm
theorem means_skipOp {all : Array Oper} {o : Oper} {l : List Oper} (hw : wantO all t o = some false) (hm : MeansK P rs κ (.ops all l) (putO t o.dst undefV) h p) : MeansK P rs κ (.ops all (o :: l)) t h p:=by
 obtain ⟨m, hm⟩:=hm
 refine MeansK.of_step ⟨m, ?_⟩
 show kOut P (run P m) rs κ (stepOps P (run P m) all o l t h (wantO all t o)) = some p
 rw [hw]
 exact hm
structure OpsLaw (P : Program) [Orc] (all : Array Oper) (M : List Oper → Tr V → Hp → Prop) : Prop where
 op : ∀ {t : Tr V} {h : Hp} {o : Oper} {l : List Oper}, wantO all t o = some true → ∀ {v : V} {h' : Hp}, (∃ n, opV P (run P n) t h o = some (v, h')) → M l (putO t o.dst v) h' → M (o :: l) t h
 skip : ∀ {t : Tr V} {h : Hp} {o : Oper} {l : List Oper}, wantO all t o = some false → M l (putO t o.dst undefV) h → M (o :: l) t h
 sub : ∀ {t t' : Tr V} {h : Hp} {l : List Oper}, Sub t t' → M l t h → M l t' h
theorem guardAt_sub {all : Array Oper} {t t' : Tr V} (hs : Sub t t') {j : Nat} {x : V} (h : guardAt all t j = some x) : guardAt all t' j = some x:=by
 unfold guardAt at h ⊢
 split at h
 ·split at h
  ·exact hs _ _ h
  ·cases h
 ·cases h
theorem sub_drop {t t' : Tr V} (hs : Sub t t') {d : Option Tmp} (hf : ∀ i, d = some i → t.get i = none) (v : V) : Sub t (putO t' d v):=by
 intro i u hi
 cases d with
 | none => exact hs i u hi
 | some e =>
  show (t'.set e v).get i = some u
  rw [Tr.get_set]
  by_cases he : e = i
  ·subst he; rw [hf e rfl] at hi; cases hi
  ·rw [if_neg he]; exact hs i u hi
theorem okG_fresh {all : Array Oper} {t : Tr V} {after : List Oper} {o : Oper} (h : okG all t after o = true) : ∀ i, o.dst = some i → t.get i = none:=by
 intro i hi
 unfold okG at h
 rw [hi] at h
 simp only [Bool.and_eq_true] at h
 have h1:=h.1
 cases hg : t.get i with
 | none => rfl
 | some v => rw [hg] at h1; cases h1
theorem grp_true (hg : CallsOk P g) {all : Array Oper} {M : List Oper → Tr V → Hp → Prop} (L : OpsLaw P all M) {j : Nat} {w : Bool} {x : V} (hw : wantV x w = some true) {t0 : Tr V} (hx : guardAt all t0 j = some x) {v : V} {h' : Hp} :
 ∀ (n : Nat) (o : Oper) (l : List Oper) (t : Tr V) (h : Hp), Sub t0 t → o.guard = some (j, w) → n ≤ runG j w l → (∀ y ∈ o :: l.take (n - 1), n ≠ 0 → ∀ i, y.dst = some i → t0.get i = none) →
  denG P g n o l t h = some (v, h') → M (l.drop n) (putO t0 (lastD n o l) v) h' → M (o :: l) t h
 | 0, o, l, t, h, hs, hgd, _, _, hd, hm => by
  simp only [denG] at hd
  obtain ⟨n, v', h'', h3, h4⟩:=denOp_sound hg hd
  simp only [Option.some.injEq, Prod.mk.injEq] at h4
  obtain ⟨rfl, rfl⟩:=h4
  exact L.op (by rw [wantO_some hgd (guardAt_sub hs hx), hw]) ⟨n, h3⟩ (L.sub (hs.put _ _) hm)
 | n + 1, o, [], t, h, hs, hgd, hn, hf, hd, hm => by simp only [denG] at hd; cases hd
 | n + 1, o, o' :: l, t, h, hs, hgd, hn, hf, hd, hm => by
  simp only [denG] at hd
  obtain ⟨m, v', h'', h3, h4⟩:=denOp_sound hg hd
  have hg' : sameG j w o' = true:=by
   cases hb : sameG j w o' with
   | true => rfl
   | false => rw [runG, hb] at hn; simp at hn
  have hn' : n ≤ runG j w l:=by rw [runG, hg'] at hn; simp only [cond_true] at hn; omega
  have hgd' : o'.guard = some (j, w):=by
   unfold sameG at hg'
   split at hg'
   ·rename_i i u he
    simp only [Bool.and_eq_true] at hg'
    rw [he, Nat.eq_of_beq_eq_true hg'.1, eq_of_beq hg'.2]
   ·cases hg'
  refine L.op (by rw [wantO_some hgd (guardAt_sub hs hx), hw]) ⟨m, h3⟩ ?_
  refine grp_true hg L hw hx n o' l _ _ (sub_drop hs (hf o (by simp) (by omega)) _) hgd' hn' (fun y hy hne i hi => hf y ?_ (by omega) i hi) h4 hm
  cases n with
  | zero => exact (hne rfl).elim
  | succ n =>
   simp only [Nat.add_sub_cancel, List.mem_cons, List.take_succ_cons] at hy ⊢
   exact .inr hy
theorem grp_false {all : Array Oper} {M : List Oper → Tr V → Hp → Prop} (L : OpsLaw P all M) {j : Nat} {w : Bool} {x : V} (hw : wantV x w = some false) {t0 : Tr V} (hx : guardAt all t0 j = some x) {h : Hp} :
 ∀ (n : Nat) (o : Oper) (l : List Oper) (t : Tr V), Sub t0 t → o.guard = some (j, w) → n ≤ runG j w l → (∀ y ∈ o :: l.take (n - 1), n ≠ 0 → ∀ i, y.dst = some i → t0.get i = none) →
  M (l.drop n) (putO t0 (lastD n o l) undefV) h → M (o :: l) t h
 | 0, o, l, t, hs, hgd, _, _, hm => L.skip (by rw [wantO_some hgd (guardAt_sub hs hx), hw]) (L.sub (hs.put _ _) hm)
 | n + 1, o, [], t, hs, hgd, hn, hf, hm => by rw [runG] at hn; omega
 | n + 1, o, o' :: l, t, hs, hgd, hn, hf, hm => by
  have hg' : sameG j w o' = true:=by
   cases hb : sameG j w o' with
   | true => rfl
   | false => rw [runG, hb] at hn; simp at hn
  have hn' : n ≤ runG j w l:=by rw [runG, hg'] at hn; simp only [cond_true] at hn; omega
  have hgd' : o'.guard = some (j, w):=by
   unfold sameG at hg'
   split at hg'
   ·rename_i i u he
    simp only [Bool.and_eq_true] at hg'
    rw [he, Nat.eq_of_beq_eq_true hg'.1, eq_of_beq hg'.2]
   ·cases hg'
  refine L.skip (by rw [wantO_some hgd (guardAt_sub hs hx), hw]) ?_
  refine grp_false L hw hx n o' l _ (sub_drop hs (hf o (by simp) (by omega)) _) hgd' hn' (fun y hy hne i hi => hf y ?_ (by omega) i hi) hm
  cases n with
  | zero => exact (hne rfl).elim
  | succ n =>
   simp only [Nat.add_sub_cancel, List.mem_cons, List.take_succ_cons] at hy ⊢
   exact .inr hy
theorem grpN_le {all : Array Oper} {t : Tr V} {o : Oper} {l : List Oper} : ∀ m, grpN all t o l m ≤ m
 | 0 => Nat.le_refl 0
 | m + 1 => by
  rw [grpN]
  cases (o :: l.take m).all (okG all t (l.drop (m + 1))) with
  | true => exact Nat.le_refl _
  | false => exact Nat.le_succ_of_le (grpN_le m)
theorem grpN_fresh {all : Array Oper} {t : Tr V} {o : Oper} {l : List Oper} : ∀ m, ∀ y ∈ o :: l.take (grpN all t o l m - 1), grpN all t o l m ≠ 0 → ∀ i, y.dst = some i → t.get i = none
 | 0, y, _, hne, _, _ => (hne rfl).elim
 | m + 1, y, hy, hne, i, hi => by
  rw [grpN] at hy hne
  cases hc : (o :: l.take m).all (okG all t (l.drop (m + 1))) with
  | true =>
   rw [hc] at hy
   simp only [cond_true, Nat.add_sub_cancel] at hy
   exact okG_fresh (List.all_eq_true.1 hc y hy) i hi
  | false =>
   rw [hc] at hy hne
   exact grpN_fresh m y hy hne i hi
theorem denOpsS_law (hg : CallsOk P g) {all : Array Oper} {M : List Oper → Tr V → Hp → Prop} (L : OpsLaw P all M) {k : Tr V → Hp → VH} (hk : ∀ t h, k t h = some p → M [] t h) :
 ∀ (l : List Oper) (s : Nat) (t : Tr V) (h : Hp), denOpsS P g all l s t h k = some p → M (l.drop s) t h
 | [], s, t, h, hd => by
  rw [List.drop_nil]
  cases s <;> exact hk t h hd
 | o :: l, s + 1, t, h, hd => denOpsS_law hg L hk l s t h hd
 | o :: l, 0, t, h, hd => by
  simp only [denOpsS] at hd
  show M (o :: l) t h
  cases hgd : o.guard with
  | none =>
   rw [hgd] at hd
   obtain ⟨n, v, h', h1, h2⟩:=denOp_sound hg hd
   exact L.op (wantO_none hgd) ⟨n, h1⟩ (denOpsS_law hg L hk l 0 _ _ h2)
  | some jw =>
   obtain ⟨j, w⟩:=jw
   rw [hgd] at hd
   obtain ⟨x, hx, hd⟩:=optS_some hd
   rcases guardS_some hd with ⟨hw, v, h', h1, h2⟩ | ⟨hw, h2⟩
   ·exact grp_true hg L hw hx _ o l t h (Sub.refl t) hgd (grpN_le _) (grpN_fresh _) h1 (denOpsS_law hg L hk l _ _ _ h2)
   ·exact grp_false L hw hx _ o l t (Sub.refl t) hgd (grpN_le _) (grpN_fresh _) (denOpsS_law hg L hk l _ _ _ h2)
theorem meansLaw (all : Array Oper) (p : V × Hp) : OpsLaw P all fun l t h => MeansK P rs κ (.ops all l) t h p :=
 ⟨fun hw _ _ ho hm => means_op hw ho hm, fun hw hm => means_skipOp hw hm, fun hs hm => hm.sub hs⟩
theorem denOps_sound (hg : CallsOk P g) (all : Array Oper) {k : Tr V → Hp → VH} (hk : ∀ t h p, k t h = some p → MeansE P rs κ (.ok .normal t h) p)
 (l : List Oper) (t : Tr V) (h : Hp) (p : V × Hp) (hd : denOps P g all l t h k = some p) : MeansK P rs κ (.ops all l) t h p :=
 denOpsS_law hg (meansLaw all p) (fun t h e => means_nil (hk t h p e)) l 0 t h hd
variable {r r' : Rn}
theorem hdPlain_eq (ms : Tr Nat) (hr : RLe r r') (s : Hd) (o : Oper) (i m : Nat) (h : Hp) : OLe (hdPlain P ms r s o i m h) (hdPlain P ms r' s o i m h):=by
 unfold hdPlain
 cases (obliv o.op || freeM ms i s o) with
 | false => exact OLe.none _
 | true =>
  cases makes o with
  | false => exact OLe.refl _
  | true =>
   cases Nat.beq m s.c with
   | false => exact OLe.none _
   | true =>
    unfold hdMk
    cases obliv o.op with
    | false => exact ole1 (hdWrote ms s o i h) rfl (opV_le hr (Sub.refl _) _ o)
    | true => exact ole1 (hdMade s o i h) rfl (opV_le hr (Sub.refl _) _ o)
theorem hdDo_eq (ms : Tr Nat) (hr : RLe r r') (s : Hd) (o : Oper) (i m : Nat) : ∀ x, OLe (hdDo P ms r s o i m x) (hdDo P ms r' s o i m x)
 | none => OLe.none _
 | some h => by
  unfold hdDo
  simp only
  split
  ·exact OLe.refl _
  ·cases floOf s.nob i with
   | none => exact hdPlain_eq ms hr s o i m h
   | some p => cases p <;> exact OLe.refl _
  ·unfold hdFloS
   split
   ·exact hdPlain_eq ms hr s o i m h
   ·exact OLe.refl _
   ·exact OLe.refl _
  ·exact hdPlain_eq ms hr s o i m h
theorem hdOne_eq (ms : Tr Nat) (hr : RLe r r') (s : Hd) (o : Oper) (i : Nat) : ∀ w, OLe (hdOne P ms r s o i w) (hdOne P ms r' s o i w)
 | none => OLe.none _
 | some false => OLe.refl _
 | some true => hdDo_eq ms hr s o i _ _
theorem hdAll_eq (ms : Tr Nat) (hr : RLe r r') (all : Array Oper) : ∀ (l : List Oper) (i : Nat) (x : Option Hd), OLe (hdAll P ms r all l i x) (hdAll P ms r' all l i x)
 | l, i, none => by rw [hdAll_none]; exact OLe.none _
 | [], _, some s => OLe.refl _
 | o :: l, i, some s => by
  intro a ha
  simp only [hdAll] at ha ⊢
  rcases (hdOne_eq (P:=P) ms hr s o i (wantO all s.t o)).or with e | e
  ·rw [e, hdAll_none] at ha; cases ha
  ·rw [e] at ha; exact hdAll_eq ms hr all l (i + 1) _ a ha
def Nb (s s' : Hd) : Prop:=s.c = s'.c ∧ s.hs = s'.hs ∧ s.need = s'.need ∧ s.t = s'.t ∧ s.st = s'.st ∧ (∀ f : Nat × V → Bool, s.nob.all f = true → s'.nob.all f = true) ∧ ∀ i, floOf s.nob i = floOf s'.nob i
theorem Nb.refl (s : Hd) : Nb s s:=⟨rfl, rfl, rfl, rfl, rfl, fun _ h => h, fun _ => rfl⟩
theorem flo_cons {l : List (Nat × V)} {j : Nat} {x : V} (hx : ∀ m, x ≠ .agg m) (i : Nat) : floOf ((j, x) :: l) i = floOf l i:=by
 cases x <;> first | rfl | exact (hx _ rfl).elim
theorem flo_ld {l : List (Nat × V)} {t : Tr V} {o : Op} {v : V} {j : Nat} (i : Nat) : floOf ((j, ldV t o v) :: l) i = floOf l i:=flo_cons (fun m h => by rcases ldV_cases t o v with e | ⟨_, _, _, _, _, _, e⟩ <;> rw [e] at h <;> cases h) i
theorem flo_u {l : List (Nat × V)} {j : Nat} (i : Nat) : floOf ((j, undefV) :: l) i = floOf l i:=flo_cons (fun m h => by cases h) i
theorem flo_nob {s : Hd} {o : Oper} {j : Nat} {v : V} (i : Nat) : floOf (hdNob s o j v) i = floOf s.nob i:=by
 unfold hdNob
 cases obliv o.op with
 | true => rfl
 | false => exact flo_ld i
theorem nb_cons {a b : List (Nat × V)} (i : Nat × V) (h : ∀ f : Nat × V → Bool, a.all f = true → b.all f = true) (f : Nat × V → Bool) (hf : (i :: a).all f = true) : (i :: b).all f = true:=by
 simp only [List.all_cons, Bool.and_eq_true] at hf ⊢
 exact ⟨hf.1, h f hf.2⟩
theorem nb_nob {s s' : Hd} (e : Nb s s') (o : Oper) (i : Nat) (v : V) (f : Nat × V → Bool) (hf : (hdNob s o i v).all f = true) : (hdNob s' o i v).all f = true:=by
 unfold hdNob at hf ⊢
 cases ho : obliv o.op <;> rw [ho] at hf
 ·rw [← e.2.2.2.1]; exact nb_cons _ e.2.2.2.2.2.1 f hf
 ·exact e.2.2.2.2.2.1 f hf
theorem hdPlain_nb {ms : Tr Nat} {c : Nat} {hs : Tr Hp} {need : Tr Nat} {t : Tr V} {st : List (Nat × Ob)} {nob nob' : List (Nat × V)} (h6 : ∀ f : Nat × V → Bool, nob.all f = true → nob'.all f = true) (h7 : ∀ i, floOf nob i = floOf nob' i) (e0 : Nb ⟨c, hs, need, t, st, nob⟩ ⟨c, hs, need, t, st, nob'⟩) {o : Oper} {i : Nat} {X : Hp} {a : Hd}
 (h : hdPlain P ms r ⟨c, hs, need, t, st, nob⟩ o i (maxNeed need o.after.toList) X = some a) : ∃ a', hdPlain P ms r ⟨c, hs, need, t, st, nob'⟩ o i (maxNeed need o.after.toList) X = some a' ∧ Nb a a':=by
 simp only [hdPlain] at h ⊢
 cases hob : (obliv o.op || (isNil st && (!makes o || behindW ms i nob))) with
 | false => simp only [freeM, hob, cond_false] at h; cases h
 | true =>
  have hob2 : ∀ nob' : List (Nat × V), (behindW ms i nob = true → behindW ms i nob' = true) → (obliv o.op || (isNil st && (!makes o || behindW ms i nob'))) = true:=by
   intro nob' hn
   cases ho : obliv o.op with
   | true => rfl
   | false =>
    rw [ho, Bool.false_or, Bool.and_eq_true, Bool.or_eq_true] at hob
    rw [Bool.false_or, Bool.and_eq_true, Bool.or_eq_true]
    exact ⟨hob.1, hob.2.imp id hn⟩
  simp only [freeM] at h ⊢
  rw [hob] at h
  rw [hob2 _ (h6 _)]
  simp only [cond_true] at h ⊢
  cases hm : makes o with
  | false =>
   rw [hm] at h
   simp only [cond_false] at h ⊢
   cases hx : execV P t X o.op with
   | none => rw [hx] at h; cases h
   | some q =>
    obtain ⟨v, hq⟩:=q
    rw [hx] at h
    simp only [hdRead] at h ⊢
    cases hbr : (obliv o.op || behindR ms i ⟨c, hs, need, t, st, nob⟩ (ldV t o.op v)) with
    | false => rw [hbr] at h; cases h
    | true =>
     have hbr2 : (obliv o.op || behindR ms i ⟨c, hs, need, t, st, nob'⟩ (ldV t o.op v)) = true:=by
      rw [Bool.or_eq_true] at hbr ⊢
      exact hbr.imp id (h6 _)
     rw [hbr] at h
     rw [hbr2]
     simp only [cond_true, Option.some.injEq] at h ⊢
     subst h
     exact ⟨_, rfl, rfl, rfl, rfl, rfl, rfl, nb_nob e0 o i _, fun i => by simp only; rw [flo_nob, flo_nob]; exact h7 i⟩
  | true =>
   rw [hm] at h
   simp only [cond_true] at h ⊢
   cases hb : Nat.beq (maxNeed need o.after.toList) c with
   | false => rw [hb] at h; cases h
   | true =>
    rw [hb] at h
    simp only [cond_true] at h ⊢
    unfold hdMk at h ⊢
    cases hwr : obliv o.op with
    | false =>
     rw [hwr] at h
     simp only [cond_false] at h ⊢
     cases hx : opV P r t ⟨X.t, X.n, X.n⟩ o with
     | none => rw [hx] at h; cases h
     | some q =>
      obtain ⟨v, hq⟩:=q
      rw [hx] at h
      simp only [hdWrote] at h ⊢
      cases hn : nob.all (fun x => (anc ms i x.1 || markV x.2) || (pureB X hq || sameLd X hq x.2)) with
      | false => rw [hn] at h; cases h
      | true =>
       rw [hn] at h
       rw [h6 _ hn]
       simp only [cond_true, Option.some.injEq] at h ⊢
       subst h
       exact ⟨_, rfl, rfl, rfl, rfl, rfl, rfl, nb_cons _ (nb_cons _ h6), fun i => by simp only; rw [flo_cons (fun m h => by cases h), flo_u, flo_cons (fun m h => by cases h), flo_u]; exact h7 i⟩
    | true =>
     rw [hwr] at h
     simp only [cond_true] at h ⊢
     cases hx : opV P r t ⟨X.t, X.n, X.n⟩ o with
     | none => rw [hx] at h; cases h
     | some q =>
      obtain ⟨v, hq⟩:=q
      rw [hx] at h
      simp only [hdMade] at h ⊢
      cases hle : Nat.ble X.n hq.low with
      | false => rw [hle] at h; cases h
      | true =>
       rw [hle] at h
       simp only [cond_true, Option.some.injEq] at h ⊢
       subst h
       exact ⟨_, rfl, rfl, rfl, rfl, rfl, rfl, nb_nob e0 o i _, fun i => by simp only; rw [flo_nob, flo_nob]; exact h7 i⟩
theorem hdOne_nb {ms : Tr Nat} {s s' : Hd} (e : Nb s s') (o : Oper) (i : Nat) {w : Option Bool} {a : Hd} (h : hdOne P ms r s o i w = some a) : ∃ a', hdOne P ms r s' o i w = some a' ∧ Nb a a':=by
 have e0:=e
 obtain ⟨c, hs, need, t, st, nob⟩:=s
 obtain ⟨c', hs', need', t', st', nob'⟩:=s'
 obtain ⟨h1, h2, h3, h4, h5, h6, h7⟩:=e
 simp only at h1 h2 h3 h4 h5 h6 h7
 subst h1; subst h2; subst h3; subst h4; subst h5
 cases w with
 | none => cases h
 | some b =>
  cases b with
  | false =>
   simp only [hdOne, hdSkip, Option.some.injEq] at h ⊢
   subst h
   exact ⟨_, rfl, rfl, rfl, rfl, rfl, rfl, h6, h7⟩
  | true =>
   simp only [hdOne] at h ⊢
   cases hg : hs.get (maxNeed need o.after.toList) with
   | none => rw [hg] at h; cases h
   | some X =>
    rw [hg] at h
    simp only [hdDo] at h ⊢
    split at h
    ·rename_i ty aa xx heq
     simp only [hdStore] at h ⊢
     split at h
     ·rename_i bb off heq2
      split at h
      ·rename_i v heq3
       cases hob : storeO P (stores st X) ty bb off v with
       | none => rw [hob] at h; cases h
       | some ob =>
        rw [hob] at h
        simp only [hdPut] at h ⊢
        cases hn : nob.all (fun x => anc ms i x.1 || okV bb x.2) with
        | false => rw [hn] at h; cases h
        | true =>
         rw [hn] at h
         rw [h6 _ hn]
         simp only [cond_true, Option.some.injEq] at h ⊢
         subst h
         exact ⟨_, rfl, rfl, rfl, rfl, rfl, rfl, nb_cons _ h6, fun i => by simp only; rw [flo_u, flo_u]; exact h7 i⟩
      ·cases h
     ·cases h
    ·unfold hdFlo at h ⊢
     rw [← h7 i]
     cases hfl : floOf nob i with
     | none =>
      rw [hfl] at h
      exact hdPlain_nb h6 h7 e0 h
     | some p =>
      rw [hfl] at h
      cases p with
      | nil => cases h
      | cons p _ =>
      simp only [Option.some.injEq] at h ⊢
      subst h
      exact ⟨_, rfl, rfl, rfl, rfl, rfl, rfl, h6, h7⟩
    ·rw [← h7 i]
     unfold hdFloS at h ⊢
     split at h
     ·rename_i hfl
      exact hdPlain_nb h6 h7 e0 h
     ·rename_i p ty cs hfl
      simp only [hdFloC] at h ⊢
      split at h
      ·rename_i v hq hex
       simp only [Bool.cond_eq_ite] at h ⊢
       split at h
       ·rename_i hfi
        simp only [Option.some.injEq] at h
        subst h
        exact ⟨⟨c, hs, need.set i (maxNeed need o.after.toList), putO t o.dst p, st, nob'⟩, by simp only [if_pos hfi], rfl, rfl, rfl, rfl, rfl, h6, h7⟩
       ·cases h
      ·cases h
     ·cases h
    ·exact hdPlain_nb h6 h7 e0 h
theorem hdAll_nb (ms : Tr Nat) (all : Array Oper) : ∀ (l : List Oper) (i : Nat) {s s' a : Hd}, Nb s s' → hdAll P ms r all l i (some s) = some a → ∃ a', hdAll P ms r all l i (some s') = some a' ∧ Nb a a'
 | [], _, s, s', a, e, h => by
  simp only [hdAll, Option.some.injEq] at h
  subst h
  exact ⟨s', rfl, e⟩
 | o :: l, i, s, s', a, e, h => by
  simp only [hdAll] at h ⊢
  cases h1 : hdOne P ms r s o i (wantO all s.t o) with
  | none => rw [h1, hdAll_none] at h; cases h
  | some b =>
   rw [h1] at h
   obtain ⟨b', h2, e2⟩:=hdOne_nb e o i h1
   rw [← e.2.2.2.1, h2]
   exact hdAll_nb ms all l (i + 1) e2 h
theorem Nb.trans {a b c : Hd} (h : Nb a b) (h' : Nb b c) : Nb a c:=⟨h.1.trans h'.1, h.2.1.trans h'.2.1, h.2.2.1.trans h'.2.2.1, h.2.2.2.1.trans h'.2.2.2.1, h.2.2.2.2.1.trans h'.2.2.2.2.1, fun f hf => h'.2.2.2.2.2.1 f (h.2.2.2.2.2.1 f hf), fun i => (h.2.2.2.2.2.2 i).trans (h'.2.2.2.2.2.2 i)⟩
theorem makes_call {o : Oper} (h : makes o = false) : isCall o = false:=by
 cases hc : isCall o with
 | false => rfl
 | true =>
  rw [makes_zero (xk_call hc)] at h
  unfold isCall callOp at hc
  split at hc
  ·rename_i c heq
   rw [heq] at h
   cases h
  ·cases hc
theorem hdStoreD_sound {ms : Tr Nat} {s : Hd} {o : Oper} {i m : Nat} {ty : TypeId} {a x : V} {k : Hd → VH} (hd : hdStoreD P ms s o i m h ty a x k = some p) : ∃ s', hdStore P ms s o i m h ty (some a) (some x) = some s' ∧ k s' = some p:=by
 unfold hdStoreD at hd
 obtain ⟨b, off, rfl, hd⟩:=ptrE_some hd
 obtain ⟨ob, hob, hd⟩:=storeB_some hd
 simp only [cD_eq] at hd
 cases ha : s.nob.all (fun x => anc ms i x.1 || okV b x.2) <;> rw [ha] at hd
 ·cases hd
 ·exact ⟨_, by simp only [hdStore, hob, hdPut, ha, cond_true], hd⟩
theorem hdPlainD_sound (hg : CallsOk P g) {s : Hd} {o : Oper} {i m : Nat} {k : Hd → VH} {ms : Tr Nat} (hd : hdPlainD P g ms s o i m h k = some p) : ∃ n s', hdPlain P ms (run P n) s o i m h = some s' ∧ k s' = some p:=by
 unfold hdPlainD at hd
 simp only [cD_eq] at hd
 unfold hdPlain
 cases hob : (obliv o.op || freeM ms i s o) <;> rw [hob] at hd
 ·cases hd
 ·cases hmk : makes o <;> rw [hmk] at hd
  ·simp only [cond_true, cond_false] at hd ⊢
   obtain ⟨n, v, h', h1, h2⟩:=denOp_sound hg hd
   rw [opV_exec (makes_call hmk)] at h1
   cases hbr : (obliv o.op || behindR ms i s (ldV s.t o.op v)) <;> rw [hbr] at h2
   ·cases h2
   ·exact ⟨n, _, by rw [h1]; simp only [hdRead, hbr, cond_true], h2⟩
  ·simp only [cond_true] at hd ⊢
   cases hb : Nat.beq m s.c <;> rw [hb] at hd
   ·cases hd
   ·simp only [cond_true] at hd ⊢
    unfold hdMkD at hd
    unfold hdMk
    simp only [cD_eq] at hd
    cases hwr : obliv o.op <;> rw [hwr] at hd
    ·simp only [cond_false] at hd ⊢
     obtain ⟨n, v, h', h1, h2⟩:=denOp_sound hg hd
     cases hn : s.nob.all (fun x => (anc ms i x.1 || markV x.2) || (pureB h h' || sameLd h h' x.2)) <;> rw [hn] at h2
     ·cases h2
     ·exact ⟨n, _, by rw [h1]; simp only [hdWrote, hn, cond_true], h2⟩
    ·simp only [cond_true] at hd ⊢
     obtain ⟨n, v, h', h1, h2⟩:=denOp_sound hg hd
     obtain ⟨h3, h4⟩:=madeS_some h2
     exact ⟨n, _, by rw [h1]; simp only [hdMade, h3, cond_true], h4⟩
theorem hdDoD_sound (hg : CallsOk P g) {ms : Tr Nat} {s : Hd} {o : Oper} {i m : Nat} {k : Hd → VH} : ∀ {x : Option Hp}, hdDoD P g ms s o i m k x = some p → ∃ n s', hdDo P ms (run P n) s o i m x = some s' ∧ k s' = some p
 | none, hd => by cases hd
 | some h, hd => by
  unfold hdDoD at hd
  unfold hdDo
  simp only at hd ⊢
  split at hd
  ·rename_i ty a x heq
   obtain ⟨a, x, ha, hx, hd⟩:=opt2_some hd
   obtain ⟨s', h1, h2⟩:=hdStoreD_sound hd
   refine ⟨0, s', ?_, h2⟩
   rw [heq]; simp only
   rw [ha, hx]; exact h1
  ·rename_i ty heq
   rw [heq]
   simp only
   cases hfl : floOf s.nob i with
   | none =>
    rw [hfl] at hd
    obtain ⟨n, s', h1, h2⟩:=hdPlainD_sound hg hd
    exact ⟨n, s', h1, h2⟩
   | some p =>
    rw [hfl] at hd
    cases p with
    | nil => cases hd
    | cons p _ => exact ⟨0, _, rfl, hd⟩
  ·rename_i ty len parts heq
   rw [heq]
   simp only
   unfold hdFloSD at hd
   split at hd
   ·rename_i hfl
    rw [hfl]
    obtain ⟨n, s', h1, h2⟩:=hdPlainD_sound hg hd
    exact ⟨n, s', h1, h2⟩
   ·rename_i q ty2 cs hfl
    rw [hfl]
    simp only [cD_eq] at hd
    cases hx0 : Nat.beq (xk o.op) 0 <;> rw [hx0] at hd
    ·cases hd
    ·simp only [cond_true] at hd
     have hx:=Nat.eq_of_beq_eq_true hx0
     obtain ⟨n, v, h', h1, h2⟩:=denOpC_sound hg hx hd
     have hc : isCall o = false:=by unfold isCall; rw [heq]; rfl
     rw [opV_exec hc, execV_zero hx] at h1
     cases hfi : floIs q ty2 cs v h' with
     | false => rw [hfi] at h2; cases h2
     | true =>
      rw [hfi] at h2
      refine ⟨0, _, ?_, h2⟩
      simp only [hdFloS]
      rw [h1]
      simp only [hdFloC, hfi, cond_true]
   ·cases hd
  ·rename_i hne hne2 hne3
   obtain ⟨n, s', h1, h2⟩:=hdPlainD_sound hg hd
   refine ⟨n, s', ?_, h2⟩
   split
   ·rename_i heq
    exact (hne _ _ _ heq).elim
   ·rename_i heq
    exact (hne2 _ heq).elim
   ·rename_i heq
    exact (hne3 _ _ _ heq).elim
   ·exact h1
theorem stFree_free {ms : Tr Nat} {i : Nat} {s : Hd} {o : Oper} (hm : makes o = false) (h : stFree ms i s = true) : freeM ms i s o = true:=by
 unfold stFree at h
 unfold freeM
 rw [hm]
 rw [Bool.and_eq_true] at h ⊢
 exact ⟨h.1, rfl⟩
theorem stFree_behind {ms : Tr Nat} {i : Nat} {s : Hd} (h : stFree ms i s = true) (l : V) : behindR ms i s l = true:=by
 unfold stFree at h
 unfold behindR
 rw [Bool.and_eq_true, List.all_eq_true] at h
 rw [List.all_eq_true]
 intro x hx
 have:=h.2 x hx
 rw [Bool.or_eq_true] at this ⊢
 refine this.imp id fun hm => ?_
 rw [Bool.or_eq_true]
 left
 cases hv : x.2 <;> rw [hv] at hm <;> first | rfl | (simp [markV] at hm)
theorem denHead_sound (hg : CallsOk P g) (ms : Tr Nat) (all : Array Oper) {k : Hd → VH} : ∀ (l : List Oper) (i : Nat) (s : Hd), denHead P g ms all l i s k = some p → ∃ n s' s'', hdAll P ms (run P n) all l i (some s) = some s' ∧ Nb s'' s' ∧ k s'' = some p
 | [], _, s, hd => ⟨0, s, s, rfl, Nb.refl s, hd⟩
 | o :: l, i, s, hd => by
  simp only [denHead] at hd
  have fin : ∀ n s1 s2, hdOne P ms (run P n) s o i (wantO all s.t o) = some s1 → Nb s2 s1 → denHead P g ms all l (i + 1) s2 k = some p → ∃ n s' s'', hdAll P ms (run P n) all (o :: l) i (some s) = some s' ∧ Nb s'' s' ∧ k s'' = some p:=by
   intro n s1 s2 h1 hnb h2
   obtain ⟨m, s', s'', h3, h4, h5⟩:=denHead_sound hg ms all l (i + 1) s2 h2
   obtain ⟨s3, h6, h7⟩:=hdAll_nb ms all l (i + 1) hnb h3
   refine ⟨n + m, s3, s'', ?_, h4.trans h7, h5⟩
   simp only [hdAll]
   rw [hdOne_eq (P:=P) ms (run_le' (Nat.le_add_right n m)) s o i _ _ h1]
   exact hdAll_eq (P:=P) ms (run_le' (Nat.le_add_left m n)) all l (i + 1) _ _ h6
  cases hgd : o.guard with
  | none =>
   rw [hgd] at hd
   obtain ⟨n, s1, h1, h2⟩:=hdDoD_sound hg hd
   exact fin n s1 s1 (by rw [wantO_none hgd]; exact h1) (Nb.refl _) h2
  | some jw =>
   obtain ⟨j, w⟩:=jw
   rw [hgd] at hd
   obtain ⟨x, hx, hd⟩:=optS_some hd
   simp only [cD_eq] at hd
   cases hmo : mergeOk ms i s o with
   | false =>
    rw [hmo] at hd
    rcases guardB_some hd with ⟨hw, hd⟩ | ⟨hw, hd⟩
    ·obtain ⟨n, s1, h1, h2⟩ := hdDoD_sound hg hd
     exact fin n s1 s1 (by rw [wantO_some hgd hx, hw]; exact h1) (Nb.refl _) h2
    ·exact fin 0 _ _ (by rw [wantO_some hgd hx, hw]; rfl) (Nb.refl _) hd
   | true =>
    rw [hmo] at hd
    simp only [cond_true] at hd
    unfold mergeOk at hmo
    simp only [Bool.and_eq_true, Bool.not_eq_true'] at hmo
    obtain ⟨hmk, hob0, hfn⟩:=hmo
    have hob : (obliv o.op || freeM ms i s o) = true:=by
     rw [Bool.or_eq_true] at hob0 ⊢
     exact hob0.imp id (stFree_free hmk)
    have hbr : ∀ l, (obliv o.op || behindR ms i s l) = true:=by
     intro l
     rw [Bool.or_eq_true] at hob0 ⊢
     exact hob0.imp id fun h => stFree_behind h l
    cases hX : s.hs.get (maxNeed s.need o.after.toList) with
    | none => rw [hX] at hd; cases hd
    | some X =>
     rw [hX] at hd
     simp only [guardM] at hd
     rcases guardS_some hd with ⟨hw, v, h', h1, h2⟩ | ⟨hw, h2⟩
     ·obtain ⟨n, v', h'', h3, h4⟩ := denOp_sound hg h1
      simp only [Option.some.injEq, Prod.mk.injEq] at h4
      obtain ⟨rfl, rfl⟩:=h4
      rw [opV_exec (makes_call hmk)] at h3
      refine fin n _ _ ?_ (Nb.refl _) h2
      rw [wantO_some hgd hx, hw]
      simp only [hdOne, hX, hdDo]
      split
      ·rename_i heq
       rw [makes_zero (xk_store heq)] at hmk
       rw [heq] at hmk
       cases hmk
      ·rename_i ty heq
       cases hfl : floOf s.nob i with
       | none => simp only [hdFlo, hdPlain, hob, hmk, cond_true, cond_false, h3, hdRead, hbr]
       | some p => rw [hfl] at hfn; cases hfn
      ·cases hfl : floOf s.nob i with
       | none => simp only [hdFloS, hdPlain, hob, hmk, cond_true, cond_false, h3, hdRead, hbr]
       | some p => rw [hfl] at hfn; cases hfn
      ·simp only [hdPlain, hob, hmk, cond_true, cond_false, h3, hdRead, hbr]
     ·refine fin 0 (hdSkip s o i (maxNeed s.need o.after.toList)) ⟨s.c, s.hs, s.need.set i (maxNeed s.need o.after.toList), putO s.t o.dst undefV, s.st, hdNob s o i undefV⟩ (by rw [wantO_some hgd hx, hw]; rfl) ⟨rfl, rfl, rfl, rfl, rfl, fun f hf => ?_, fun i => flo_nob i⟩ h2
      simp only at hf
      unfold hdNob at hf
      cases ho : obliv o.op <;> rw [ho] at hf
      ·simp only [cond_false, List.all_cons, Bool.and_eq_true] at hf
       exact hf.2
      ·exact hf
theorem denPd_some {t : Tr V} {h : Hp} {x : Pd} {k : V → VH} {p : V × Hp} (hd : denPd P t h x k = some p) : ∃ v, evalPd P t h x = some v ∧ k v = some p:=by
 cases x with
 | op x =>
  obtain ⟨v, h1, h2⟩:=optS_some (show optS (evalO t x) k = some p from hd)
  exact ⟨v, h1, h2⟩
 | ld ty a =>
  obtain ⟨q, h1, h2⟩:=optS_some (show optS (evalO t a) (fun p => loadD P ty p h fun v _ => k v) = some p from hd)
  obtain ⟨v, h', h3, h4⟩:=loadD_some h2
  refine ⟨v, ?_, h4⟩
  show ldPd P h ty (evalO t a) = some v
  rw [h1]
  unfold exLoad at h3
  split at h3
  ·rename_i b off heq
   simp only [Option.some.injEq] at heq
   subst heq
   exact (vh_some h3).2
  ·cases h3
theorem denPds_some {t : Tr V} {h : Hp} {p : V × Hp} : ∀ {l : List Pd} {k : List V → VH}, denPds P t h l k = some p → ∃ vs, evalPds P t h l = some vs ∧ k vs = some p
 | [], k, hd => ⟨[], rfl, hd⟩
 | x :: xs, k, hd => by
  obtain ⟨v, h1, h2⟩:=denPd_some hd
  obtain ⟨vs, h3, h4⟩:=denPds_some h2
  exact ⟨v :: vs, by rw [evalPds, h1, h3], h4⟩
theorem denFlo_some {ms : Tr Nat} {all : List Oper} {t : Tr V} {p : V × Hp} : ∀ {l : List Oper} {i : Nat} {h : Hp} {k : Hp → List (Nat × V) → VH}, denFlo P ms all t l i h k = some p → ∃ h' n, flo0 P ms all t l i h = some (h', n) ∧ k h' n = some p
 | [], i, h, k, hd => ⟨h, [], rfl, hd⟩
 | o :: l, i, h, k, hd => by
  rw [denFlo] at hd
  rw [flo0]
  split at hd
  ·rename_i ty cs heq
   obtain ⟨h', n, h1, h2⟩:=denFlo_some hd
   refine ⟨h', (i, fent (.ptr h.n 0) ty cs) :: n, ?_, h2⟩
   split
   ·rename_i ty2 cs2 heq2
    have heq3:=heq.symm.trans heq2
    simp only [Option.some.injEq, Prod.mk.injEq] at heq3
    obtain ⟨rfl, rfl⟩:=heq3
    rw [h1]; rfl
   ·rename_i heq2
    have heq3:=heq.symm.trans heq2
    cases heq3
  ·rename_i heq
   split
   ·rename_i ty2 cs2 heq2
    have heq3:=heq.symm.trans heq2
    cases heq3
   split at hd
   ·rename_i e len ys hS
    obtain ⟨vs, h1, h2⟩:=denPds_some hd
    obtain ⟨h', n, h3, h4⟩:=denFlo_some h2
    exact ⟨h', (i, fent (.slice h.n 0 len len false) e (flat vs)) :: n, by simp only [hS, h1, h3, consF], h4⟩
   ·rename_i hS
    simp only [hS]
    exact denFlo_some hd
theorem denReg_sound (hg : CallsOk P g) {id : Nat} {ops : Array Oper} {k : Tr V → Hp → VH} (hk : ∀ t h p, k t h = some p → MeansE P rs κ (.ok .normal t h) p) : ∀ {d : Bool}, denReg P g ops t h k d = some p → Means P rs κ (.region id ops d) t h p
 | false, hd => means_region (denOps_sound hg ops hk _ _ _ _ hd)
 | true, hd => by
  unfold denReg at hd
  simp only [cD_eq] at hd
  cases ho : okDraw ops <;> rw [ho] at hd
  ·cases hd
  ·simp only [cond_true] at hd
   obtain ⟨h0, n0, hfl, hd⟩:=denFlo_some hd
   unfold denHd at hd
   obtain ⟨n, s, s2, h1, hnb, h2⟩:=denHead_sound hg _ _ _ _ _ hd
   unfold denTail at h2
   rw [hnb.1, hnb.2.1, hnb.2.2.2.1, hnb.2.2.2.2.1] at h2
   cases hX : s.hs.get s.c with
   | none => rw [hX] at h2; cases h2
   | some X =>
    rw [hX] at h2
    obtain ⟨m, hm⟩:=denOps_sound (rs:=rs) (κ:=κ) hg ops hk _ _ _ _ h2
    refine MeansK.of_step ⟨n + m, ?_⟩
    show kOut P (run P (n + m)) rs κ (drawCode P (run P (n + m)) ops t h) = some p
    unfold drawCode
    rw [ho, hfl]
    simp only [cond_true, drawHd]
    rw [hdAll_eq (P:=P) _ (run_le' (Nat.le_add_right n m)) ops _ 0 _ _ h1]
    simp only [tailCode, hX]
    exact kOut_lift (Nat.le_add_left m n) (run_le' (Nat.le_add_left m n) _ _ _ _ (Sub.refl _)) hm
end
end Go.Mid
end
