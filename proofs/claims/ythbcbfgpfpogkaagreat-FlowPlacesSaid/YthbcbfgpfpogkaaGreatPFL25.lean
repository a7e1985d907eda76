/- A part of the proof. -/
import Derived.Test.YthbcbfgpfpogkaaGreatPFL21
set_option linter.all false
set_option warn.classDefReducibility false
noncomputable section
section
open Go Go.Mid Go.Proofs
set_option maxRecDepth 100000
namespace Go.FP
section
variable {S S' S'' : Mem} {l F : List Asn} {h h0 : Hp} {ro : Bool} {Q : V → List Asn → Prop} {k : V → VH} {K : V → Hp → VH} {nds : List Nd} {n : Nd} {v nv : V} {X X' X'' : MS} {f f' : Fn} {i : Nat} {w : Nat → Nat} {b b' : Bk} {c c' : Cl} {wi : Wi}
theorem go_here {p : Nat × Nat} {j : Int} {kk : Hp → VH} (I : Inv1 S X) (hp : ∃ fu, X.fu = fu ++ [p]) (hj : ∀ f, X.fns[p.1]? = some f → 0 ≤ j ∧ j < (f.ss.length : Int)) (H : St (frz S :: MK X :: l) h) (L : Lo false h0 h)
 (hK : ∀ h' X', Inv1 S X' → Ext1 S X S X' → X'.u = X.u → X'.cls = X.cls → St (frz S :: MK X' :: l) h' → Lo false h0 h' → Tri h0 false F Q (kk h')) :
 Tri h0 false F Q (bindS (M 190 [.ptr X.mb 0, .int .i64 j] h) fun v h1 => bindS (M 180 [.ptr X.mb 0] h1) fun v2 h2 => nilS v fun v3 => addrS 4 v3 fun v4 => storeC v4 v2 h2 kk) := by
 obtain ⟨f, T⟩ := I.top_ hp
 have hpm : p ∈ X.fu := by obtain ⟨fu, hfu⟩ := hp; rw [hfu]; simp
 have hj' := hj f T.at_
 refine tb1 (sp190 T H hj'.1 hj'.2) L fun v h B hq H L => ?_
 obtain ⟨b, nn, cc, g, hv, rfl, rfl⟩ := hq
 refine tb1 (sp180 T H) L fun v h B hq H L => ?_
 obtain ⟨rfl, rfl⟩ := hq
 apply Tri.nil
 apply Tri.addr
 exact setNx I T.at_ hv (by omega) (by omega) (fun hn => (hn p hpm rfl).elim) H L fun h X' I' E' u' o' H L => hK h X' I' E' u' o'.2.2.2.1 H L
theorem el_here {p : Nat × Nat} {j : Int} {kk : Hp → VH} (I : Inv1 S X) (hp : ∃ fu, X.fu = fu ++ [p]) (hj : ∀ f, X.fns[p.1]? = some f → 0 ≤ j ∧ j < (f.ss.length : Int)) (H : St (frz S :: MK X :: l) h) (L : Lo false h0 h)
 (hK : ∀ h' X', Inv1 S X' → Ext1 S X S X' → X'.u = X.u → X'.cls = X.cls → St (frz S :: MK X' :: l) h' → Lo false h0 h' → Tri h0 false F Q (kk h')) :
 Tri h0 false F Q (bindS (M 190 [.ptr X.mb 0, .int .i64 j] h) fun v h1 => bindS (M 180 [.ptr X.mb 0] h1) fun v2 h2 => nilS v fun v3 => addrS 5 v3 fun v4 => storeC v4 v2 h2 kk) := by
 obtain ⟨f, T⟩ := I.top_ hp
 have hpm : p ∈ X.fu := by obtain ⟨fu, hfu⟩ := hp; rw [hfu]; simp
 have hj' := hj f T.at_
 refine tb1 (sp190 T H hj'.1 hj'.2) L fun v h B hq H L => ?_
 obtain ⟨b, nn, cc, g, hv, rfl, rfl⟩ := hq
 refine tb1 (sp180 T H) L fun v h B hq H L => ?_
 obtain ⟨rfl, rfl⟩ := hq
 apply Tri.nil
 apply Tri.addr
 exact setEl I T.at_ hv (by omega) (by omega) (fun hn => (hn p hpm rfl).elim) H L fun h X' I' E' u' o' H L => hK h X' I' E' u' o'.2.2.2.1 H L
theorem sub_ext {p : Nat × Nat} {outs : List Int} (E : Ext1 S X S' X') (hp : ∃ fu, X.fu = fu ++ [p]) (I : Inv1 S X) (h : ∀ f, X.fns[p.1]? = some f → In f.ss.length outs) : ∀ f, X'.fns[p.1]? = some f → In f.ss.length outs := fun g hg => by
 obtain ⟨f, T⟩ := I.top_ hp
 obtain ⟨f2, g1, g2⟩ := E.fns _ f T.at_
 rw [hg] at g1; cases g1
 exact (h f T.at_).mono (by have := g2.ss; omega)
theorem loop85 {p : Nat × Nat} {outs : List Int} {ov : V} (r : Nat) : ∀ {X : MS} {h : Hp} {l : List Asn} {j : Int} (I : Inv1 S X) (hp : ∃ fu, X.fu = fu ++ [p]) (ho : ∀ f, X.fns[p.1]? = some f → In f.ss.length outs) (h1 : 0 ≤ j) (hol : outs.length ≤ 100000) (hm : (outs.length : Int) - j ≤ (r : Int)) (H : St (frz S :: MK X :: vc true ov 3 1 (outs.map (V.int .i64)) :: l) h),
 Tri h false l (rX S X 0 PU) (M 85 [.ptr X.mb 0, ov, .int .i64 (outs.length : Nat), .int .i64 j] h) := by
 induction r with
 | zero =>
  intro X h l j I hp ho h1 hol hm H
  refine t4 e85 fun L => ?_
  unfold B85
  refine Tri.lss (fun e => by omega) (fun e => ?_)
  apply Tri.iff
  exact Tri.done (B := [frz S, MK X]) ⟨S, X, rfl, I, Ext1.refl S X, Nat.le_refl _, rfl⟩ H.x2 L
 | succ r ih =>
  intro X h l j I hp ho h1 hol hm H
  refine t4 e85 fun L => ?_
  unfold B85
  refine Tri.lss (fun e => ?_) (fun e => ?_)
  ·apply Tri.ift
   refine Tri.idxV 2 H rfl h1 (by simp; omega) (by decide) fun b nn cc g hv _ => ?_
   refine Tri.loadV 2 (hv ▸ H) rfl (w := .int .i64 (outs[j.toNat]'(by omega))) (by simp) ?_
   refine go_here I hp (fun f hf => ho f hf _ (List.getElem_mem _)) H L fun h X1 I1 E1 u1 _ H L => ?_
   refine Tri.addN (by omega) (by omega) ?_
   rw [← E1.mb]
   exact Tri.tail (ih (j := j + 1) I1 (by rw [E1.fu]; exact hp) (sub_ext E1 hp I ho) (by omega) hol (by omega) H) L (fun e => e) fun v h B hq H L => ⟨B, rX_mono E1 (by omega) (fun _ _ _ h => h) hq, H⟩
  ·apply Tri.iff
   exact Tri.done (B := [frz S, MK X]) ⟨S, X, rfl, I, Ext1.refl S X, Nat.le_refl _, rfl⟩ H.x2 L
theorem c83 {p : Nat × Nat} {outs : List Int} {ov : V} (I : Inv1 S X) (hp : ∃ fu, X.fu = fu ++ [p]) (ho : ∀ f, X.fns[p.1]? = some f → In f.ss.length outs) (hol : outs.length ≤ 100000) (H : St (frz S :: MK X :: vc true ov 3 1 (outs.map (V.int .i64)) :: l) h) :
 Tri h false l (rX S X 0 PU) (M 83 [.ptr X.mb 0, ov] h) := by
 refine t2 e83 fun L => ?_
 unfold B83
 apply bL
 refine Tri.lenV 2 outs.length H rfl (by decide) (by simp) ?_
 apply Tri.bs
 exact te (loop85 outs.length I hp ho (by omega) hol (by omega) H) L
theorem one_in {p : Nat × Nat} {X1 : MS} {f1 : Fn} {j : Int} (t1 : X1.fns[p.1]? = some f1) (j1 : 0 ≤ j) (j2 : j < (f1.ss.length : Int)) : ∀ f, X1.fns[p.1]? = some f → In f.ss.length [j] := fun f hf => by
 rw [t1] at hf; cases hf
 intro k hk; rw [List.mem_singleton] at hk; subst hk; exact ⟨j1, j2⟩
theorem loop81 {p : Nat × Nat} {nb : Nat} (gln : 1 ≤ n.ln) (hE : ∀ k ∈ n.ks, ESpec nds w k) (hB : ∀ k ∈ n.ks, BSpec nds w k) (hw : ∀ k ∈ n.ks, 1 ≤ w k.toNat) (r : Nat) : ∀ {S : Mem} {X : MS} {h : Hp} {l : List Asn} {outs ks : List Int} {ov v : V} (I : Inv1 S X) (hp : ∃ fu, X.fu = fu ++ [p]) (hn : NdsIn S X.nv nds) (hks : ∀ k ∈ ks, k ∈ n.ks) (hv : FSl 1 (IntAt S) v ks)
 (ho : ∀ f, X.fns[p.1]? = some f → In f.ss.length outs) (hol : outs.length + ks.length ≤ 100000) (hu : X.u + 8 * sumW w ks ≤ 100000) (hm : ks.length ≤ r) (H : St (frz S :: MK X :: vc true ov 3 1 (outs.map (V.int .i64)) :: ndr nb n :: l) h),
 Tri h false l (rX S X (8 * sumW w ks) PU) (M 81 [.ptr X.mb 0, .ptr nb 0, ov, v] h) := by
 have fin : ∀ {S : Mem} {X : MS} {h : Hp} {l : List Asn} {outs ks : List Int} {ov v : V} (I : Inv1 S X) (hp : ∃ fu, X.fu = fu ++ [p]) (hn : NdsIn S X.nv nds) (hks : ∀ k ∈ ks, k ∈ n.ks) (hv : FSl 1 (IntAt S) v ks)
  (ho : ∀ f, X.fns[p.1]? = some f → In f.ss.length outs) (hol : outs.length + ks.length ≤ 100000) (hu : X.u + 8 * sumW w ks ≤ 100000) (hm : ks.length ≤ 1) (H : St (frz S :: MK X :: vc true ov 3 1 (outs.map (V.int .i64)) :: ndr nb n :: l) h),
  Tri h false l (rX S X (8 * sumW w ks) PU) (M 81 [.ptr X.mb 0, .ptr nb 0, ov, v] h) := by
  intro S X h l outs ks ov v I hp hn hks hv ho hol hu hm H
  unfold ndr at H
  refine t4 e81 fun L => ?_
  unfold B81
  apply bL
  refine FSl.len hv ?_
  apply Tri.bs
  refine Tri.gtr (fun e => by omega) (fun e => ?_)
  apply Tri.iff
  apply bL
  refine FSl.len hv ?_
  apply Tri.bs
  refine Tri.gtr (fun e2 => ?_) (fun e2 => ?_)
  ·apply Tri.ift
   refine FSl.idx (by assumption) (by omega) (by omega) fun b0 o0 hb0 => ?_
   have hc0 := hb0
   clear hc0
   refine Tri.loadF 0 H rfl (by assumption) ?_
   have hmem := List.getElem_mem (l := ks) (n := 0) (by omega)
   have hle := le_sumW w hmem
   refine tb (hB _ (hks _ hmem) (lp := none) I hp hn (by omega) (fun c e => nomatch e) H) L fun v h B hq H L => ?_
   obtain ⟨S1, X1, rfl, I1, E1, u1, rfl⟩ := hq
   rw [← E1.mb]
   exact Tri.tail (c83 I1 (by rw [E1.fu]; exact hp) (sub_ext E1 hp I ho) (by omega) H) L (fun e => e) fun v h B hq H L => ⟨B, rX_mono E1 (by omega) (fun _ _ _ h => h) hq, by
    obtain ⟨S2, X2, rfl, _⟩ := hq
    exact H.x2⟩
  ·apply Tri.iff
   exact Tri.tail (c83 I hp ho (by omega) H) L (fun e => e) fun v h B hq H L => ⟨B, rX_mono (Ext1.refl S X) (by omega) (fun _ _ _ h => h) hq, by
    obtain ⟨S2, X2, rfl, _⟩ := hq
    exact H.x2⟩
 induction r with
 | zero =>
  intro S X h l outs ks ov v I hp hn hks hv ho hol hu hm H
  exact fin I hp hn hks hv ho hol hu (by omega) H
 | succ r ih =>
  intro S X h l outs ks ov v I hp hn hks hv ho hol hu hm H
  by_cases h2 : 2 ≤ ks.length
  ·obtain ⟨a, b, ks', rfl⟩ : ∃ a b ks', ks = a :: b :: ks' := by
    match ks, h2 with
    | a :: b :: ks', _ => exact ⟨a, b, ks', rfl⟩
   have hsum : sumW w (a :: b :: ks') = w a.toNat + (w b.toNat + sumW w ks') := by unfold sumW; simp only [List.map_cons, List.sum_cons]
   have hwa := hw a (hks a (by simp))
   have hwb := hw b (hks b (by simp))
   have hl3 : (a :: b :: ks').length = ks'.length + 2 := rfl
   unfold ndr at H
   refine t4 e81 fun L => ?_
   unfold B81
   apply bL
   refine FSl.len hv ?_
   apply Tri.bs
   refine Tri.gtr (fun e => ?_) (fun e => by omega)
   apply Tri.ift
   refine FSl.idx (by assumption) (by omega) (by omega) fun b0 o0 hb0 => ?_
   have hc0 := hb0
   clear hc0
   refine Tri.loadF 0 H rfl (by assumption) ?_
   refine tb (hE a (hks a (by simp)) I hp hn (by omega) H) L fun v h B hq H L => ?_
   obtain ⟨S1, X1, rfl, I1, E1, u1, x, f1, rfl, t1, x1, x2⟩ := hq
   rw [← E1.mb]
   refine Tri.bld (e := _) (s := _) H L rfl rfl fun b10 h hb10 H L => ?_
   replace H := H.d2
   apply Tri.addr
   refine Tri.load 4 H rfl rfl ?_
   refine Tri.bldS rfl ?_
   obtain ⟨S2, g1, H, g3⟩ := freezeI (ks := [x]) H.u2
   refine tb (stmt_ok (s := ⟨4, .nilSlice, .nilSlice, _, 0, 0, n.ln, [], [], [x]⟩) (I1.leS g1) (by rw [E1.fu]; exact hp) (fun f hf => ⟨gln, by show (-1 : Int) ≤ 0; decide, by show (-1 : Int) ≤ 0; decide, .inl ⟨rfl, rfl⟩, .inl ⟨rfl, rfl⟩, g3, in_nil _, in_nil _, fun k hk => by rw [t1] at hf; cases hf; rw [List.mem_singleton] at hk; subst hk; exact ⟨x1, x2⟩⟩) (by omega) H) L fun v h B hq H L => ?_
   obtain ⟨S4, X4, rfl, I4, E4, u4, j4, f4, rfl, t4, j5, j6⟩ := hq
   rw [← E4.mb]
   have E14 := E1.trans ((Ext1.leS g1).trans E4)
   have hv4 := FSl.mono hv fun b o a h => E14.le _ _ _ h
   have hp4 : ∃ fu, X4.fu = fu ++ [p] := by rw [E14.fu]; exact hp
   have hn4 : NdsIn S4 X4.nv nds := by rw [E14.nv]; exact ndsIn_le hn E14.le
   clear hv
   refine FSl.idx (by assumption) (by omega) (by omega) fun b20 o20 hb20 => ?_
   have hc20 := hb20
   clear hc20
   refine Tri.loadF 0 H rfl (by assumption) ?_
   refine tb (hB b (hks b (by simp)) (lp := none) I4 hp4 hn4 (by omega) (fun c e => nomatch e) H) L fun v h B hq H L => ?_
   obtain ⟨S5, X5, rfl, I5, E5, u5, rfl⟩ := hq
   rw [← E5.mb]
   have E15 := E14.trans E5
   have hv5 := FSl.mono hv4 fun b o a h => E5.le _ _ _ h
   have hp5 : ∃ fu, X5.fu = fu ++ [p] := by rw [E15.fu]; exact hp
   have hn5 : NdsIn S5 X5.nv nds := by rw [E15.nv]; exact ndsIn_le hn E15.le
   have hj5 := sub_ext E5 hp4 I4 (one_in t4 j5 j6)
   have ho5 := sub_ext E15 hp I ho
   clear hv4
   apply bL
   refine FSl.len hv5 ?_
   apply Tri.bs
   have next : ∀ {S6 : Mem} {X6 : MS} {h : Hp} {l : List Asn} {outs : List Int} {ov : V}, Inv1 S6 X6 → Ext1 S5 X5 S6 X6 → X6.u ≤ X5.u + 1 → (∀ f, X6.fns[p.1]? = some f → In f.ss.length outs) → outs.length + ks'.length ≤ 100000 → St (frz S6 :: MK X6 :: vc true ov 3 1 (outs.map (V.int .i64)) :: ndr nb n :: l) h →
    Tri h false l (rX S X (8 * sumW w (a :: b :: ks')) PU) (M 87 [.ptr X6.mb 0, .ptr nb 0, ov, v, .int .i64 j4] h) := by
    intro S6 X6 h l outs ov I6 E6 u6 ho6 hol6 H
    have hj6 := sub_ext E6 hp5 I5 hj5
    have E16 := E15.trans E6
    refine t5 e87 fun L => ?_
    unfold B87
    refine el_here I6 (by rw [E16.fu]; exact hp) (fun f hf => hj6 f hf j4 (by simp)) H L fun h X7 I7 E7 u7 _ H L => ?_
    rw [← E7.mb]
    refine FSl.cutLo (FSl.mono hv5 fun b o a h => E6.le _ _ _ h) (by omega) (by omega) fun v2 hv2 => ?_
    have E17 := E16.trans E7
    refine Tri.tail (ih (outs := outs) (ks := ks') I7 (by rw [E17.fu]; exact hp) (by rw [E17.nv]; exact ndsIn_le hn E17.le) (fun k hk => hks k (by simp [hk])) (FSl.mono hv2 fun b o a h => E7.le _ _ _ h) (sub_ext E7 (by rw [E16.fu]; exact hp) I6 ho6) hol6 (by omega) (by omega) H) L (fun e => e) fun v h B hq H L => ⟨B, rX_mono E17 (by omega) (fun _ _ _ h => h) hq, H⟩
   refine Tri.gtr (fun e2 => ?_) (fun e2 => ?_)
   ·apply Tri.ift
    apply Tri.addr
    refine Tri.load 3 H rfl rfl ?_
    refine Tri.bldS rfl ?_
    refine tb (stmt_ok (s := ⟨11, .nilSlice, .nilSlice, .nilSlice, 0, 0, n.ln, [], [], []⟩) I5 hp5 (fun f hf => ⟨gln, by show (-1 : Int) ≤ 0; decide, by show (-1 : Int) ≤ 0; decide, .inl ⟨rfl, rfl⟩, .inl ⟨rfl, rfl⟩, .inl ⟨rfl, rfl⟩, in_nil _, in_nil _, in_nil _⟩) (by omega) H) L fun v h B hq H L => ?_
    obtain ⟨S6, X6, rfl, I6, E6, u6, j7, f6, rfl, t6, j8, j9⟩ := hq
    rw [← E6.mb]
    refine Tri.bld (e := _) (s := _) H L rfl rfl fun b40 h hb40 H L => ?_
    replace H := H.d2
    refine Tri.app 3 outs.length 1 H rfl (H.newCells (i := 2) rfl rfl) (by decide) (by simp) rfl (by omega) (by omega) rfl L (Own.off _ _) fun v' h H L O o1 => ?_
    replace H := H.x2
    have e1 : outs.map (V.int .i64) ++ (V.int .i64 j7 :: [].append []) = (outs ++ [j7]).map (V.int .i64) := by rw [List.map_append]; rfl
    replace H : St (_ :: _ :: vc true v' 3 1 (outs.map (V.int .i64) ++ (V.int .i64 j7 :: [].append [])) :: _) _ := H
    rw [e1] at H
    refine te (next (outs := outs ++ [j7]) I6 E6 u6 (fun f hf k hk => ?_) (by simp; omega) H) L
    rcases List.mem_append.1 hk with hk | hk
    ·exact sub_ext E6 hp5 I5 ho5 f hf k hk
    ·exact one_in t6 j8 j9 f hf k hk
   ·apply Tri.iff
    refine te (next I5 (Ext1.refl S5 X5) (by omega) ho5 (by omega) H) L
  ·exact fin I hp hn hks hv ho hol hu (by omega) H
theorem branches_ok (gln : 1 ≤ n.ln) (hE : ∀ k ∈ n.ks, ESpec nds w k) (hB : ∀ k ∈ n.ks, BSpec nds w k) (hw : ∀ k ∈ n.ks, 1 ≤ w k.toNat) (hkl : n.ks.length ≤ 100000) : TN nds (1 + sumW w n.ks) 188 n := by
 intro S X p h l I hp hn x hu H
 have hone := x.one
 refine t2 e188 fun L => ?_
 unfold B188
 refine Tri.newS H L fun b0 h hb0 H L => ?_
 replace H := H.d2
 apply Tri.addr
 refine Tri.load 2 H rfl rfl ?_
 have H2 : St (_ :: _ :: vc true .nilSlice 3 1 (([] : List Int).map (V.int .i64)) :: ndr b0 n :: _) _ := (H.vc_new true 3 1).ins 2
 exact Tri.tail (loop81 gln hE hB hw n.ks.length (outs := []) I hp hn (fun k h => h) x.ks (fun f hf => in_nil _) (by simpa using hkl) (by omega) (Nat.le_refl _) H2) L (fun e => e) fun v h B hq H L => ⟨B, rX_mono (Ext1.refl S X) (by omega) (fun _ _ _ h => h) hq, H⟩
theorem Inv1.addCl {p : Nat × Nat} {cb : Nat} (I : Inv1 S X) (hpl : p.1 < X.fns.length) (ht : X.u + 1 ≤ 100000) :
 Inv1 S { X with cls := X.cls ++ [⟨cb, .nilSlice, p.1, []⟩], u := X.u + 1 } ∧ Ext1 S X S { X with cls := X.cls ++ [⟨cb, .nilSlice, p.1, []⟩], u := X.u + 1 } := by
 have E : Ext1 S X S { X with cls := X.cls ++ [⟨cb, .nilSlice, p.1, []⟩], u := X.u + 1 } := ⟨Le.refl _, fun e => e, rfl, rfl, rfl, fun i f h => ⟨f, h, FExt.refl f⟩, Nat.le_refl _, fun i b h => ⟨b, h, rfl, rfl, rfl⟩, fun i c h => ⟨c, by
  show (X.cls ++ [_])[i]? = some c
  rw [List.getElem?_append_left (List.getElem?_eq_some_iff.1 h).1]; exact h, rfl, rfl⟩, Nat.le_succ _⟩
 refine ⟨⟨I.fns, I.fu, fun p hp g hg => (I.opn p hp g hg).ext E (FExt.refl g), I.fin, fun w hw => (I.go w hw).ext E, I.lbs, fun d hd => ?_, I.map, I.fault, ?_, fun g hg => Nat.le_succ_of_le (I.us g hg), fun d hd => Nat.le_succ_of_le (I.ub d hd), fun d hd => ?_, Nat.le_succ_of_le I.uf, ht⟩, E⟩
 ·rcases List.mem_append.1 hd with h | h
  ·exact I.cls d h
  ·rw [List.mem_singleton] at h; subst h; exact ⟨hpl, fun f _ => in_nil _⟩
 ·have := I.u
  show X.strs.length + X.fns.length + X.go.length + X.bks.length + (X.cls ++ [_]).length ≤ X.u + 1
  rw [List.length_append, List.length_singleton]; omega
 ·rcases List.mem_append.1 hd with h | h
  ·exact Nat.le_succ_of_le (I.uc d h)
  ·rw [List.mem_singleton] at h; subst h; exact Nat.zero_le _
theorem cl_view {j : Nat} (H : St l h) (hi : l[i]? = some (MK X)) (hj : X.cls[j]? = some c) : (c.cv = .nilSlice ∧ c.l = []) ∨ ∃ b0 cc g, c.cv = .slice b0 0 c.l.length cc g ∧ ∀ (k : Nat) (hk : k < c.l.length), h.cell b0 k = some (.int .i64 c.l[k]) := by
 obtain ⟨g2, b1, b2⟩ := mk_get H hi (j := 8) rfl
 obtain ⟨g3, c1, c2⟩ := Sat.get (l := X.cls.map Cl.A) (i := j) (A := c.A) b2 (by rw [List.getElem?_map, hj]; rfl)
 obtain ⟨g4, d1, d2⟩ := Sat.get (l := [row c.cb [c.cv], vc true c.cv 3 1 (c.l.map (V.int .i64))]) (i := 1) c2 rfl
 rcases vc_view ((d1.trans c1).trans b1) d2 with ⟨h1, h2⟩ | ⟨b0, n, cc, gg, h1, h2, h3⟩
 ·exact .inl ⟨h1, by simpa using h2⟩
 ·rw [List.length_map] at h2
  have : n = c.l.length := by omega
  subst this
  refine .inr ⟨b0, cc, gg, h1, fun k hk => ?_⟩
  rw [h3 _ (by rw [List.length_map]; omega), List.getElem?_map, List.getElem?_eq_getElem hk]; rfl
theorem loop93 {p : Nat × Nat} {ci mc : Nat} (r : Nat) : ∀ {X : MS} {h : Hp} {j : Int} (I : Inv1 S X) (hp : ∃ fu, X.fu = fu ++ [p]) (hc : X.cls[ci]? = some c) (hown : c.own = p.1) (h1 : 0 ≤ j) (hm : (c.l.length : Int) - j ≤ (r : Int)) (H : St (frz S :: MK X :: row mc [.ptr X.mb 0] :: l) h),
 Tri h false l (rX S X 0 PU) (M 93 [.ptr mc 0, c.cv, .int .i64 (c.l.length : Nat), .int .i64 j] h) := by
 induction r with
 | zero =>
  intro X h j I hp hc hown h1 hm H
  refine t4 e93 fun L => ?_
  unfold B93
  refine Tri.lss (fun e => by omega) (fun e => ?_)
  apply Tri.iff
  exact Tri.done (B := [frz S, MK X]) ⟨S, X, rfl, I, Ext1.refl S X, Nat.le_refl _, rfl⟩ H.x2 L
 | succ r ih =>
  intro X h j I hp hc hown h1 hm H
  have hul := I.uc c (List.mem_of_getElem? hc)
  have htop := I.top
  refine t4 e93 fun L => ?_
  unfold B93
  refine Tri.lss (fun e => ?_) (fun e => ?_)
  ·apply Tri.ift
   rcases cl_view H (i := 1) rfl hc with ⟨_, h2⟩ | ⟨b0, cc, g, h2, h3⟩
   ·rw [h2] at e; simp at e; omega
   rw [h2]
   refine Tri.idx h1 (by omega) ?_
   refine Tri.loadC (w := .int .i64 (c.l[j.toNat]'(by omega))) (by rw [Nat.zero_add, Nat.mul_one]; exact h3 _ (by omega)) ?_
   rw [← h2]
   obtain ⟨f, T⟩ := I.top_ hp
   have hpm : p ∈ X.fu := by obtain ⟨fu, hfu⟩ := hp; rw [hfu]; simp
   have hj' := (I.cls c (List.mem_of_getElem? hc)).2 f (by rw [hown]; exact T.at_) _ (List.getElem_mem (l := c.l) (n := j.toNat) (by omega))
   refine Tri.load 2 H rfl rfl ?_
   have Ho := H
   refine Tri.wrote (sp190 T (H.draw _) hj'.1 hj'.2) L (fun _ => rfl) fun v h2 h B hq H2 hn20 hl20 eh H L => ?_
   obtain ⟨b, nn, cc, g, hv, rfl, rfl⟩ := hq
   refine Tri.load 2 Ho rfl rfl ?_
   refine Tri.cd (by rw [show pureB _ _ = true from Nat.ble_eq_true_of_le (hl20 rfl)]; rfl) ?_
   refine tb1 (sp180 T H) L fun v h B hq H L => ?_
   obtain ⟨rfl, rfl⟩ := hq
   apply Tri.nil
   apply Tri.addr
   refine setNx I T.at_ hv (by omega) (by omega) (fun hn => (hn p hpm rfl).elim) H L fun h X1 I1 E1 u1 o1 H L => ?_
   refine Tri.addN (by omega) (by omega) ?_
   rw [← E1.mb] at H
   exact Tri.tail (ih (j := j + 1) I1 (by rw [E1.fu]; exact hp) (by rw [o1.2.2.2.1]; exact hc) hown (by omega) (by omega) H) L (fun e => e) fun v h B hq H L => ⟨B, rX_mono E1 (by omega) (fun _ _ _ h => h) hq, H⟩
  ·apply Tri.iff
   exact Tri.done (B := [frz S, MK X]) ⟨S, X, rfl, I, Ext1.refl S X, Nat.le_refl _, rfl⟩ H.x2 L
theorem c91 {p : Nat × Nat} {ci mc : Nat} (I : Inv1 S X) (hp : ∃ fu, X.fu = fu ++ [p]) (hc : X.cls[ci]? = some c) (hown : c.own = p.1) (H : St (frz S :: MK X :: row mc [.ptr X.mb 0] :: l) h) :
 Tri h false l (rX S X 0 PU) (M 91 [.ptr mc 0, .ptr c.cb 0] h) := by
 refine t2 e91 fun L => ?_
 unfold B91
 refine Tri.loadC (cl_cell H (i := 1) rfl hc) ?_
 apply bL
 have t := loop93 c.l.length I hp hc hown (j := 0) (by omega) (by omega) H
 rcases cl_view H (i := 1) rfl hc with ⟨h1, h2⟩ | ⟨b0, cc, g, h2, h3⟩
 ·rw [h1, h2] at t; rw [h1]
  refine Tri.lenNil ?_
  apply Tri.bs
  exact Tri.tail t L (fun e => e) fun v h B hq H L => ⟨B, hq, H⟩
 ·rw [h2] at t; rw [h2]
  refine Tri.lenSl ?_
  apply Tri.bs
  exact Tri.tail t L (fun e => e) fun v h B hq H L => ⟨B, hq, H⟩
theorem c89 {p : Nat × Nat} {ci mc nb : Nat} {st j : Int} (gln : 1 ≤ n.ln) (I : Inv1 S X) (hp : ∃ fu, X.fu = fu ++ [p]) (hc : X.cls[ci]? = some c) (hown : c.own = p.1) (hst : -1 ≤ st) (hj : 0 ≤ j → ∀ f, X.fns[p.1]? = some f → j < (f.ss.length : Int)) (hu : X.u + 1 ≤ 100000) (H : St (frz S :: MK X :: ndr nb n :: row mc [.ptr X.mb 0] :: l) h) :
 Tri h false l (rX S X 1 PU) (M 89 [.ptr mc 0, .ptr nb 0, .ptr c.cb 0, .int .i64 st, .int .i64 j] h) := by
 unfold ndr at H
 refine t5 e89 fun L => ?_
 unfold B89
 refine Tri.load 3 H rfl rfl ?_
 apply Tri.addr
 refine Tri.load 2 H rfl rfl ?_
 refine Tri.bldS rfl ?_
 refine tb (stmt_ok (s := ⟨11, .nilSlice, .nilSlice, .nilSlice, 0, 0, n.ln, [], [], []⟩) I hp (fun f hf => ⟨gln, by show (-1 : Int) ≤ 0; decide, by show (-1 : Int) ≤ 0; decide, .inl ⟨rfl, rfl⟩, .inl ⟨rfl, rfl⟩, .inl ⟨rfl, rfl⟩, in_nil _, in_nil _, in_nil _⟩) hu H) L fun v h B hq H L => ?_
 obtain ⟨S1, X1, rfl, I1, E1, u1, j1, f1, rfl, t1, q1, q2⟩ := hq
 rw [← E1.mb] at H
 obtain ⟨c1, hc1, hcb1, how1⟩ := E1.cls ci c hc
 have hp1 : ∃ fu, X1.fu = fu ++ [p] := by rw [E1.fu]; exact hp
 obtain ⟨f2, T⟩ := I1.top_ hp1
 have ef := T.at_
 rw [t1] at ef; cases ef
 have hpm : p ∈ X1.fu := by obtain ⟨fu, hfu⟩ := hp1; rw [hfu]; simp
 refine Tri.load 3 H rfl rfl ?_
 refine tb1 (sp190 T H q1 q2) L fun v h B hq H L => ?_
 obtain ⟨b, nn, cc, g, hv, rfl, rfl⟩ := hq
 apply Tri.nil
 apply Tri.addr
 refine setNx I1 t1 hv (by omega) hst (fun hn => (hn p hpm rfl).elim) H L fun h X2 I2 E2 u2 o2 H L => ?_
 rw [← E2.mb] at H
 have hp2 : ∃ fu, X2.fu = fu ++ [p] := by rw [E2.fu]; exact hp1
 have hc2 : X2.cls[ci]? = some c1 := by rw [o2.2.2.2.1]; exact hc1
 replace H : St (frz S1 :: MK X2 :: row mc [.ptr X2.mb 0] :: row nb _ :: l) h := H.out 3 |>.ins 2
 refine Tri.geq (fun e => ?_) (fun e => ?_)
 ·apply Tri.ift
  obtain ⟨f3, T3⟩ := I2.top_ hp2
  have hlt : j < (f3.ss.length : Int) := by
   obtain ⟨f0, T0⟩ := I.top_ hp
   obtain ⟨f4, g1, g2⟩ := (E1.trans E2).fns _ f0 T0.at_
   rw [T3.at_] at g1; cases g1
   have := hj e f0 T0.at_
   have := g2.ss; omega
  have hpm2 : p ∈ X2.fu := by obtain ⟨fu, hfu⟩ := hp2; rw [hfu]; simp
  refine Tri.load 2 H rfl rfl ?_
  have Ho := H
  refine Tri.wrote (sp190 T3 (H.draw _) e hlt) L (fun _ => rfl) fun v h2 h B hq H2 hn20 hl20 eh H L => ?_
  obtain ⟨b, nn, cc, g, hv, rfl, rfl⟩ := hq
  refine Tri.load 2 Ho rfl rfl ?_
  refine Tri.cd (by rw [show pureB _ _ = true from Nat.ble_eq_true_of_le (hl20 rfl)]; rfl) ?_
  refine tb1 (sp180 T3 H) L fun v h B hq H L => ?_
  obtain ⟨rfl, rfl⟩ := hq
  apply Tri.nil
  apply Tri.addr
  refine setEl I2 T3.at_ hv (by omega) (by omega) (fun hn => (hn p hpm2 rfl).elim) H L fun h X3 I3 E3 u3 o3 H L => ?_
  rw [← E3.mb] at H
  rw [← hcb1]
  have E13 := E1.trans (E2.trans E3)
  exact Tri.tail (c91 I3 (by rw [E3.fu]; exact hp2) (by rw [o3.2.2.2.1]; exact hc2) (by rw [how1]; exact hown) H) L (fun e => e) fun v h B hq H L => ⟨B, rX_mono E13 (by omega) (fun _ _ _ h => h) hq, by
   obtain ⟨S2, X2, rfl, _⟩ := hq
   exact H.x2⟩
 ·apply Tri.iff
  rw [← hcb1]
  have E12 := E1.trans E2
  exact Tri.tail (c91 I2 hp2 hc2 (by rw [how1]; exact hown) H) L (fun e => e) fun v h B hq H L => ⟨B, rX_mono E12 (by omega) (fun _ _ _ h => h) hq, by
   obtain ⟨S2, X2, rfl, _⟩ := hq
   exact H.x2⟩
theorem cl_ext {S1 : Mem} {X1 : MS} {ci cb own : Nat} (E : Ext1 S X S1 X1) (h : ∃ c, X.cls[ci]? = some c ∧ c.cb = cb ∧ c.own = own) : ∃ c, X1.cls[ci]? = some c ∧ c.cb = cb ∧ c.own = own := by
 obtain ⟨c, h1, h2, h3⟩ := h
 obtain ⟨c1, g1, g2, g3⟩ := E.cls ci c h1
 exact ⟨c1, g1, by rw [g2, h2], by rw [g3, h3]⟩
theorem lp_ext {X1 : MS} {ci cb : Nat} {p : Nat × Nat} (h : ∃ c, X1.cls[ci]? = some c ∧ c.cb = cb ∧ c.own = p.1) : LpOk X1 p (some (ci, cb)) := fun c e => by cases e; exact h
theorem sumW_two (w : Nat → Nat) : ∀ (ks : List Int) (h : 2 ≤ ks.length), w (ks[0]).toNat + w (ks[1]).toNat ≤ sumW w ks
 | a :: b :: ks, _ => by
  have : sumW w (a :: b :: ks) = w a.toNat + (w b.toNat + sumW w ks) := by unfold sumW; simp only [List.map_cons, List.sum_cons]
  rw [this]; simp only [List.getElem_cons_zero, List.getElem_cons_succ]; omega
theorem c118 {S1 : Mem} {X1 : MS} {p : Nat × Nat} {bb : Nat} {lp : Option (Nat × Nat)} {blV : V} (I1 : Inv1 S1 X1) (E1 : Ext1 S (X.opened p.1 f bb lp blV) S1 X1) (T : Top X p f) (H : St (frz S1 :: MK X1 :: l) h) :
 Tri h false l (fun v B => v = .tuple [] ∧ ∃ X2, B = [frz S1, MK X2] ∧ Inv1 S1 X2 ∧ Ext1 S X S1 X2 ∧ X2.u = X1.u ∧ ∀ g, X1.fns[p.1]? = some g → ∀ g2, X2.fns[p.1]? = some g2 → g2.ss = g.ss) (M 118 [.ptr X1.mb 0] h) := by
 obtain ⟨hlt, _⟩ := List.getElem?_eq_some_iff.1 T.at_
 obtain ⟨f2, g1, g2⟩ := E1.fns p.1 _ (List.getElem?_set_self hlt)
 obtain ⟨b, hb, b1, b2, b3⟩ := E1.bks X.bks.length ⟨bb, .nilSlice, f.va.length, lp, []⟩ (by
  show (X.bks ++ [_])[X.bks.length]? = _
  rw [List.getElem?_append_right (Nat.le_refl _), Nat.sub_self]; rfl)
 obtain ⟨f3, T2⟩ := I1.top_ (p := p) (by rw [E1.fu]; exact T.fu)
 have ef := T2.at_
 rw [g1] at ef; cases ef
 have hva : f.va.length ≤ f2.va.length := g2.va
 have hv0 : b.vars = (f.va.length : Int) := b2
 have hbl : f2.bl = f.bl ++ [(X.bks.length, bb)] := g2.bl
 refine Tri.tail (sp118 T2 H hbl hb b1 (by omega) (by omega)) (Lo.refl _ _) (fun e => e) fun v h B hq H L => ?_
 obtain ⟨vaV, blV', rfl, rfl⟩ := hq
 have I2 := I1.closed (vaV := vaV) (blV := blV') T2 hbl hb
 have e1 : b.vars.toNat = f.va.length := by omega
 rw [e1] at I2 H
 refine ⟨_, ⟨rfl, _, rfl, I2, closed_ext T E1 g1, rfl, fun g hg g3 hg3 => ?_⟩, H⟩
 rw [g1] at hg; cases hg
 have : (X1.closed p.1 f2 vaV blV' f.va.length f.bl).fns[p.1]? = some _ := List.getElem?_set_self (List.getElem?_eq_some_iff.1 g1).1
 rw [this] at hg3; cases hg3; rfl
theorem loop97 {p : Nat × Nat} {b0 b1 b5 cb : Nat} {ksV : V} {last kB : Int} {S0 : Mem} {X0 : MS} (hp : ∃ fu, X0.fu = fu ++ [p]) (hnv : FSl 1 (StrAt S0) n.nsV n.ns) (hns : n.ns.length ≤ 200)
 (hend : ∀ {S1 : Mem} {X1 : MS} {h1 : Hp} {acc : List Int} {accV : V}, Inv1 S1 X1 → Ext1 S0 X0 S1 X1 → X1.u ≤ X0.u → acc.length ≤ 1000000 → (∀ f, X1.fns[p.1]? = some f → In f.sl acc) → St (frz S1 :: MK X1 :: vc false accV 3 1 (acc.map (V.int .i64)) :: row b5 [ksV] :: ndr b1 n :: row b0 [.ptr X1.mb 0] :: l) h1 →
   Tri h1 false F Q (M 97 [.ptr b0 0, .ptr b1 0, .ptr cb 0, .ptr b5 0, .int .i64 last, .int .u8 kB, accV, n.nsV, .int .i64 (n.ns.length : Nat), .int .i64 (n.ns.length : Nat)] h1))
 (r : Nat) : ∀ {S : Mem} {X : MS} {h : Hp} {acc : List Int} {accV : V} {j : Int} (I : Inv1 S X) (E : Ext1 S0 X0 S X) (hu : X.u ≤ X0.u) (hes : ∀ f, X.fns[p.1]? = some f → In f.sl acc) (hacc : acc.length ≤ 1 + j) (h1 : 0 ≤ j) (h2 : j ≤ n.ns.length) (hm : (n.ns.length : Int) - j ≤ (r : Int)) (H : St (frz S :: MK X :: vc false accV 3 1 (acc.map (V.int .i64)) :: row b5 [ksV] :: ndr b1 n :: row b0 [.ptr X.mb 0] :: l) h),
 Tri h false F Q (M 97 [.ptr b0 0, .ptr b1 0, .ptr cb 0, .ptr b5 0, .int .i64 last, .int .u8 kB, accV, n.nsV, .int .i64 (n.ns.length : Nat), .int .i64 j] h) := by
 induction r with
 | zero =>
  intro S X h acc accV j I E hu hes hacc h1 h2 hm H
  obtain rfl : j = (n.ns.length : Nat) := by omega
  exact hend I E hu (by omega) hes H
 | succ r ih =>
  intro S X h acc accV j I E hu hes hacc h1 h2 hm H
  by_cases hlt : j < (n.ns.length : Int)
  ·have hnv' : FSl 1 (StrAt S) n.nsV n.ns := FSl.mono hnv fun b o a h => E.le _ _ _ h
   have hp' : ∃ fu, X.fu = fu ++ [p] := by rw [E.fu]; exact hp
   clear hnv
   unfold ndr at H
   refine t10 e97 fun L => ?_
   unfold B97
   refine Tri.lss (fun e => ?_) (fun e => by omega)
   apply Tri.ift
   refine FSl.idx (by assumption) (by omega) (by omega) fun b1 o1 hb1 => ?_
   have hc1 := hb1
   clear hc1
   refine Tri.loadF 0 H rfl (by assumption) ?_
   refine Tri.load 5 H rfl rfl ?_
   apply Tri.addr
   refine Tri.load 4 H rfl rfl ?_
   refine tb (add0 I hp' H) L fun v h B hq H L => ?_
   obtain ⟨S1, X1, rfl, I1, E1, u1, q, f1, rfl, t1, q1, q2⟩ := hq
   rw [← E1.mb] at H
   refine Tri.bld (e := _) (s := _) H L rfl rfl fun b10 h hb10 H L => ?_
   replace H := H.d2
   refine Tri.app 3 acc.length 1 H rfl (H.newCells (i := 2) rfl rfl) (by decide) (by simp) rfl (by omega) (by omega) rfl L (Own.off _ _) fun v' h H L O o1 => ?_
   replace H := H.x2
   have e1 : acc.map (V.int .i64) ++ (V.int .i64 q :: [].append []) = (acc ++ [q]).map (V.int .i64) := by rw [List.map_append]; rfl
   replace H : St (_ :: _ :: vc false v' 3 1 (acc.map (V.int .i64) ++ (V.int .i64 q :: [].append [])) :: _) _ := H
   rw [e1] at H
   refine Tri.addN (by omega) (by omega) ?_
   obtain ⟨f0, T0⟩ := I.top_ hp'
   refine te (ih (acc := acc ++ [q]) (j := j + 1) I1 (E.trans E1) (by omega) (fun g hg => ?_) (by simp; omega) (by omega) (by omega) (by omega) H) L
   rw [t1] at hg; cases hg
   obtain ⟨f2, g1, g2⟩ := E1.fns _ f0 T0.at_
   rw [t1] at g1; cases g1
   have := hes f0 T0.at_
   intro y hy
   rcases List.mem_append.1 hy with hy | hy
   ·exact (this.mono g2.sl) y hy
   ·rw [List.mem_singleton] at hy; subst hy; exact ⟨q1, q2⟩
  ·obtain rfl : j = (n.ns.length : Nat) := by omega
   exact hend I E hu (by omega) hes H
theorem ext_top {p : Nat × Nat} {P : Fn → Prop} (E : Ext1 S X S' X') (hp : ∃ fu, X.fu = fu ++ [p]) (I : Inv1 S X) (hP : ∀ f f', FExt f f' → P f → P f') (h : ∀ f, X.fns[p.1]? = some f → P f) : ∀ f, X'.fns[p.1]? = some f → P f := fun g hg => by
 obtain ⟨f, T⟩ := I.top_ hp
 obtain ⟨f2, g1, g2⟩ := E.fns _ f T.at_
 rw [hg] at g1; cases g1
 exact hP f g g2 (h f T.at_)
theorem fe_sl {a : List Int} : ∀ f f' : Fn, FExt f f' → In f.sl a → In f'.sl a := fun f f' e h => h.mono e.sl
theorem fe_es {a : List Int} : ∀ f f' : Fn, FExt f f' → In f.es.length a → In f'.es.length a := fun f f' e h => h.mono (by have := e.es; omega)
theorem c95 {p : Nat × Nat} {ci b0 b1 b2 b5 : Nat} {kA kB : Int} (gln : 1 ≤ n.ln) (hE : ∀ k ∈ n.ks, ESpec nds w k) (hB : ∀ k ∈ n.ks, BSpec nds w k) (hw : ∀ k ∈ n.ks, 1 ≤ w k.toNat) (hkl : n.ks.length ≤ 100000) (hl1 : 1 ≤ n.ks.length) (hns : n.ns.length ≤ 200)
 (I : Inv1 S X) (hp : ∃ fu, X.fu = fu ++ [p]) (hn : NdsIn S X.nv nds) (x : NdIn S n) (hcl : ∃ c, X.cls[ci]? = some c ∧ c.cb = b2 ∧ c.own = p.1) (hu : X.u + 8 * sumW w n.ks ≤ 100000) (H : St (frz S :: MK X :: row b5 [n.ksV] :: ndr b1 n :: row b0 [.ptr X.mb 0] :: l) h) :
 Tri h false l (rX S X (8 * sumW w n.ks) PU) (M 95 [.ptr b0 0, .ptr b1 0, .ptr b2 0, .ptr b5 0, .int .i64 ((n.ks.length : Int) - 1), .int .u8 kA, .int .u8 kB] h) := by
 unfold ndr at H
 have hks := x.ks
 have hsp := sumW_split w n.ks ((n.ks.length : Int) - 1).toNat
 have ml := List.getElem_mem (l := n.ks) (n := ((n.ks.length : Int) - 1).toNat) (by omega)
 have hwl := hw _ ml
 have hdr : sumW w (n.ks.drop ((n.ks.length : Int) - 1).toNat) = w (n.ks[((n.ks.length : Int) - 1).toNat]'(by omega)).toNat := by
  rw [List.drop_eq_getElem_cons (by omega), List.drop_eq_nil_of_le (by omega)]; unfold sumW; simp
 refine t7 e95 fun L => ?_
 unfold B95
 refine Tri.load 4 H rfl rfl ?_
 refine Tri.load 2 H rfl rfl ?_
 refine FSl.cutHi hks (by omega) (by omega) fun v1 hv1 => ?_
 refine tb (exprs_ok (fun k hk => hE k (List.mem_of_mem_take hk)) I hp hn hv1 (by omega) (by rw [List.length_take]; omega) H) L fun v h B hq H L => ?_
 obtain ⟨S1, X1, rfl, I1, E1, u1, es, f1, i1, t1, y1⟩ := hq
 rw [← E1.mb] at H
 have hp1 : ∃ fu, X1.fu = fu ++ [p] := by rw [E1.fu]; exact hp
 obtain ⟨f2, T⟩ := I1.top_ hp1
 have ef := T.at_
 rw [t1] at ef; cases ef
 have hltf := (List.getElem?_eq_some_iff.1 T.at_).1
 have hcl1 := cl_ext E1 hcl
 refine Tri.load 4 H rfl rfl ?_
 refine tb (sp108 (lp := some (ci, b2)) T H) L fun v0 h B hq H L => ?_
 obtain ⟨bb, blV, rfl, rfl⟩ := hq
 have IO := I1.opened (bb := bb) (blV := blV) (lp := some (ci, b2)) T (by omega) (lp_ext hcl1)
 obtain ⟨O, hO⟩ : ∃ O, O = X1.opened p.1 f1 bb (some (ci, b2)) blV := ⟨_, rfl⟩
 rw [← hO] at IO H
 have omb : O.mb = X1.mb := by rw [hO]; rfl
 have onv : O.nv = X1.nv := by rw [hO]; rfl
 have ou : O.u = X1.u + 1 := by rw [hO]; rfl
 have ocl : O.cls = X1.cls := by rw [hO]; rfl
 have ofu : ∃ fu, O.fu = fu ++ [p] := by rw [hO]; exact hp1
 have oes : ∀ f, O.fns[p.1]? = some f → In f.es.length es := fun f hf => by
  rw [hO] at hf
  have : (X1.opened p.1 f1 bb (some (ci, b2)) blV).fns[p.1]? = some _ := List.getElem?_set_self hltf
  rw [this] at hf; cases hf; exact y1
 rw [← omb] at H
 refine Tri.load 4 H rfl rfl ?_
 apply Tri.addr
 refine Tri.load 3 H rfl rfl ?_
 refine tb (add0 IO ofu H) L fun v2 h B hq H L => ?_
 obtain ⟨S2, X2, rfl, I2, E2, u2, q, f2, rfl, t2, q1, q2⟩ := hq
 rw [← E2.mb] at H
 have hsl2 : ∀ f, X2.fns[p.1]? = some f → In f.sl [q] := fun f hf => by
  rw [t2] at hf; cases hf
  intro k hk; rw [List.mem_singleton] at hk; subst hk; exact ⟨q1, q2⟩
 have hp2 : ∃ fu, X2.fu = fu ++ [p] := by rw [E2.fu]; exact ofu
 refine Tri.load 4 H rfl rfl ?_
 apply Tri.addr
 refine Tri.load 3 H rfl rfl ?_
 refine tb (add0 I2 hp2 H) L fun v3 h B hq H L => ?_
 obtain ⟨S3, X3, rfl, I3, E3, u3, q', f3, rfl, t3, _, _⟩ := hq
 rw [← E3.mb] at H
 have hp3 : ∃ fu, X3.fu = fu ++ [p] := by rw [E3.fu]; exact hp2
 refine Tri.load 4 H rfl rfl ?_
 apply Tri.addr
 refine Tri.load 3 H rfl rfl ?_
 refine tb (add0 I3 hp3 H) L fun v4 h B hq H L => ?_
 obtain ⟨S4, X4, rfl, I4, E4, u4, q'', f4, rfl, t4, _, _⟩ := hq
 rw [← E4.mb] at H
 have hp4 : ∃ fu, X4.fu = fu ++ [p] := by rw [E4.fu]; exact hp3
 have E24 := E3.trans E4
 have E04 := E2.trans E24
 have hsl4 := ext_top E24 hp2 I2 fe_sl hsl2
 have hes4 := ext_top E04 ofu IO fe_es oes
 have i4 := i1.le E04.le
 refine Tri.load 4 H rfl rfl ?_
 refine Tri.bld (e := _) (s := _) H L rfl rfl fun b41 h hb41 H L => ?_
 replace H := H.d2
 apply Tri.addr
 refine Tri.load 4 H rfl rfl ?_
 refine Tri.bldS (w := .agg [.int .u8 kA, .slice b41 0 1 1 false, .nilSlice, v, .int .i64 0, .int .i64 0, .int .i64 n.ln]) (by rcases i1 with ⟨rfl, _⟩ | ⟨b, c, g, rfl, _⟩ <;> rfl) ?_
 obtain ⟨S5, g1, H, g3⟩ := freezeI (ks := [q]) H.u2
 refine tb (stmt_ok (s := ⟨kA, .slice b41 0 1 1 false, .nilSlice, v, 0, 0, n.ln, [q], [], es⟩) (I4.leS g1) hp4 (fun f hf => ⟨gln, by show (-1 : Int) ≤ 0; decide, by show (-1 : Int) ≤ 0; decide, g3, .inl ⟨rfl, rfl⟩, i4.le g1, hsl4 f hf, in_nil _, hes4 f hf⟩) (by omega) H) L fun v6 h B hq H L => ?_
 obtain ⟨S6, X6, rfl, I6, E6, u6, j6, f6, rfl, t6, j7, j8⟩ := hq
 rw [← E6.mb] at H
 have E46 := (Ext1.leS g1).trans E6
 have E06 := E04.trans E46
 have hsl6 := ext_top E46 hp4 I4 fe_sl hsl4
 have hp6 : ∃ fu, X6.fu = fu ++ [p] := by rw [E6.fu]; exact hp4
 have E16 : Ext1 S (X1.opened p.1 f1 bb (some (ci, b2)) blV) S6 X6 ∨ True := .inr trivial
 have hnv6 : FSl 1 (StrAt S6) n.nsV n.ns := FSl.mono x.ns fun b o a h => (E1.le.trans E06.le) _ _ _ h
 refine Tri.bld (e := _) (s := _) H L rfl rfl fun b50 h hb50 H L => ?_
 replace H := H.d2
 apply Tri.addr
 refine Tri.load 4 H rfl rfl ?_
 apply bL
 refine FSl.len (by assumption) ?_
 apply Tri.bs
 refine te (loop97 hp6 hnv6 hns (fun {S7 X7 h acc accV} I7 E7 u7 hal7 hes7 H => ?_) n.ns.length (acc := [q]) (j := 0) I6 (Ext1.refl S6 X6) (Nat.le_refl _) hsl6 (by simp) (by omega) (by omega) (by omega) H) L
 unfold ndr at H
 refine t10 e97 fun L => ?_
 unfold B97
 refine Tri.lss (fun e => by omega) (fun e => ?_)
 apply Tri.iff
 refine Tri.load 5 H rfl rfl ?_
 have hp7 : ∃ fu, X7.fu = fu ++ [p] := by rw [E7.fu]; exact hp6
 obtain ⟨f7, T7⟩ := I7.top_ hp7
 have hst : -1 ≤ ((f7.ss.length : Nat) : Int) := by omega
 refine tb1 (sp180 T7 H) L fun v h B hq H L => ?_
 obtain ⟨rfl, rfl⟩ := hq
 generalize ((f7.ss.length : Nat) : Int) = st at *
 refine Tri.load 5 H rfl rfl ?_
 apply Tri.addr
 refine Tri.load 4 H rfl rfl ?_
 obtain ⟨S8, g4, H, g6⟩ := freezeI H.u2 hal7
 refine Tri.bldS (w := .agg [.int .u8 kB, accV, .nilSlice, .nilSlice, .int .i64 0, .int .i64 0, .int .i64 n.ln]) (by rcases g6 with ⟨rfl, _⟩ | ⟨b, c, g, rfl, _⟩ <;> rfl) ?_
 refine tb (stmt_ok (s := ⟨kB, accV, .nilSlice, .nilSlice, 0, 0, n.ln, acc, [], []⟩) (I7.leS g4) hp7 (fun f hf => ⟨gln, by show (-1 : Int) ≤ 0; decide, by show (-1 : Int) ≤ 0; decide, g6, .inl ⟨rfl, rfl⟩, .inl ⟨rfl, rfl⟩, hes7 f hf, in_nil _, in_nil _⟩) (by omega) H) L fun v6 h B hq H L => ?_
 obtain ⟨S9, X9, rfl, I9, E9, u9, j9, f9, rfl, t9, j10, j11⟩ := hq
 rw [← E9.mb] at H
 have E09 := E06.trans (E7.trans ((Ext1.leS g4).trans E9))
 have hp9 : ∃ fu, X9.fu = fu ++ [p] := by rw [E9.fu]; exact hp7
 have hks9 := FSl.mono hks fun b o a h => (E1.le.trans E09.le) _ _ _ h
 have hn9 : NdsIn S9 X9.nv nds := by rw [E09.nv, onv, E1.nv]; exact ndsIn_le hn (E1.le.trans E09.le)
 clear hks
 refine Tri.load 4 H rfl rfl ?_
 refine Tri.load 2 H rfl rfl ?_
 refine FSl.idx (by assumption) (by omega) (by omega) fun b72 o72 hb72 => ?_
 have hc72 := hb72
 clear hc72
 refine Tri.loadF 0 H rfl (by assumption) ?_
 refine tb (hB _ ml (lp := none) I9 hp9 hn9 (by omega) (fun c e => nomatch e) H) L fun v h B hq H L => ?_
 obtain ⟨Sa, Xa, rfl, Ia, Ea, ua, rfl⟩ := hq
 rw [← Ea.mb] at H
 have hja := sub_ext Ea hp9 I9 (one_in t9 j10 j11)
 have E0a := E09.trans Ea
 rw [hO] at E0a
 refine Tri.load 4 H rfl rfl ?_
 refine tb (c118 Ia E0a T H) L fun v h B hq H L => ?_
 obtain ⟨rfl, Xb, rfl, Ib, Eb, ub, hss⟩ := hq
 have emb : Xa.mb = Xb.mb := by rw [E0a.mb, Eb.mb]; rfl
 rw [emb] at H
 have hpb : ∃ fu, Xb.fu = fu ++ [p] := by rw [Eb.fu]; exact hp1
 obtain ⟨cb, hcb, hcb1, hcb2⟩ := cl_ext Eb hcl1
 rw [← hcb1]
 refine Tri.tail (c89 gln Ib hpb hcb hcb2 hst (fun _ f hf => ?_) (by omega) H.x2) L (fun e => e) fun v h B hq H L => ⟨B, rX_mono (E1.trans Eb) (by omega) (fun _ _ _ h => h) hq, H⟩
 obtain ⟨fa, Ta⟩ := Ia.top_ (p := p) (by rw [Ea.fu]; exact hp9)
 rw [hss fa Ta.at_ f hf]
 exact (hja fa Ta.at_ j9 (by simp)).2
theorem t254 {p : Nat × Nat} {b0 b1 b5 b43 : Nat} {z : V} (gln : 1 ≤ n.ln) (hE : ∀ k ∈ n.ks, ESpec nds w k) (h2 : 2 ≤ n.ks.length) (I : Inv1 S X) (hp : ∃ fu, X.fu = fu ++ [p]) (hn : NdsIn S X.nv nds) (x : NdIn S n) (hu : X.u + 8 * w (n.ks[1]).toNat + 1 ≤ 100000)
 (H : St (frz S :: MK X :: row b43 [z] :: row b5 [n.ksV] :: ndr b1 n :: row b0 [.ptr X.mb 0] :: l) h) :
 Tri h false l (fun v B => v = .tuple [] ∧ ∃ S' X' j, B = [frz S', MK X', row b43 [.int .i64 j], row b5 [n.ksV], ndr b1 n, row b0 [.ptr X'.mb 0]] ∧ Inv1 S' X' ∧ Ext1 S X S' X' ∧ X'.u ≤ X.u + 8 * w (n.ks[1]).toNat + 1 ∧ ∀ f, X'.fns[p.1]? = some f → In f.ss.length [j]) (M 254 [.ptr b0 0, .ptr b5 0, .ptr b1 0, .ptr b43 0] h) := by
 have hks := x.ks
 have mb := List.getElem_mem (l := n.ks) (n := 1) (by omega)
 unfold ndr at H
 refine t4 e254 fun L => ?_
 unfold B254
 refine Tri.load 5 H rfl rfl ?_
 refine Tri.load 3 H rfl rfl ?_
 refine FSl.idx (by assumption) (by omega) (by omega) fun b2 o2 hb2 => ?_
 have hc2 := hb2
 clear hc2
 refine Tri.loadF 0 H rfl (by assumption) ?_
 refine tb (hE _ mb I hp hn (by omega) H) L fun v h B hq H L => ?_
 obtain ⟨S2, X2, rfl, I2, E2, u2, x2, f2, rfl, t2, y1, y2⟩ := hq
 rw [← E2.mb] at H
 refine Tri.load 5 H rfl rfl ?_
 refine Tri.bld (e := _) (s := _) H L rfl rfl fun b11 h hb11 H L => ?_
 replace H := H.d2
 apply Tri.addr
 refine Tri.load 5 H rfl rfl ?_
 refine Tri.bldS rfl ?_
 obtain ⟨S3, g1, H, g3⟩ := freezeI (ks := [x2]) H.u2
 refine tb (stmt_ok (s := ⟨4, .nilSlice, .nilSlice, _, 0, 0, n.ln, [], [], [x2]⟩) (I2.leS g1) (by rw [E2.fu]; exact hp) (fun f hf => ⟨gln, by show (-1 : Int) ≤ 0; decide, by show (-1 : Int) ≤ 0; decide, .inl ⟨rfl, rfl⟩, .inl ⟨rfl, rfl⟩, g3, in_nil _, in_nil _, fun k hk => by rw [t2] at hf; cases hf; rw [List.mem_singleton] at hk; subst hk; exact ⟨y1, y2⟩⟩) (by omega) H) L fun v h B hq H L => ?_
 obtain ⟨S4, X4, rfl, I4, E4, u4, j4, f4, rfl, t4, j5, j6⟩ := hq
 rw [← E4.mb] at H
 have E14 := E2.trans ((Ext1.leS g1).trans E4)
 refine sto 2 H rfl rfl L (by first | rfl | assumption) fun h H L => ?_
 exact Tri.done (B := [frz S4, MK X4, row b43 [.int .i64 j4], row b5 [n.ksV], ndr b1 n, row b0 [.ptr X4.mb 0]]) ⟨rfl, S4, X4, j4, rfl, I4, E14, by omega, one_in t4 j5 j6⟩ H L
theorem c47x {S1 : Mem} {X1 : MS} {p : Nat × Nat} {bb mc : Nat} {lp : Option (Nat × Nat)} {blV : V} (I1 : Inv1 S1 X1) (E1 : Ext1 S (X.opened p.1 f bb lp blV) S1 X1) (T : Top X p f) (H : St (frz S1 :: MK X1 :: row mc [.ptr X1.mb 0] :: l) h) :
 Tri h false l (fun v B => v = .tuple [] ∧ ∃ X2, B = [frz S1, MK X2] ∧ Inv1 S1 X2 ∧ Ext1 S X S1 X2 ∧ X2.u = X1.u ∧ ∀ g, X1.fns[p.1]? = some g → ∀ g2, X2.fns[p.1]? = some g2 → g2.ss = g.ss) (M 47 [.ptr mc 0] h) := by
 refine t1 e47 fun L => ?_
 unfold B47
 refine Tri.load 2 H rfl rfl ?_
 refine tb (c118 I1 E1 T H) L fun v h B hq H L => ?_
 obtain ⟨rfl, X2, rfl, h2⟩ := hq
 exact Tri.done (B := [frz S1, MK X2]) ⟨rfl, X2, rfl, h2⟩ H.x2 L
def BInfo (nds : List Nd) (w : Nat → Nat) (k : Int) : Prop := ∃ m, nds[k.toNat]? = some m ∧ 0 ≤ k ∧ (∀ q ∈ m.ks, 0 ≤ q ∧ q < (nds.length : Int)) ∧ (∀ q ∈ m.ks, KSpec nds w q) ∧ 1 + sumW w m.ks ≤ w k.toNat
theorem BInfo.spec {k : Int} (h : BInfo nds w k) : BSpec nds w k := by
 obtain ⟨m, h1, h2, h3, h4, h5⟩ := h
 exact block_ok h1 h2 h3 h4 h5
theorem rep_block {kx : Int} {p : Nat × Nat} {ci b0 b1 b2 b5 b43 : Nat} {z : V} (hB : BInfo nds w kx) (gln : 1 ≤ n.ln) (hE : ∀ k ∈ n.ks, ESpec nds w k) (hks2 : 2 ≤ n.ks.length) (I : Inv1 S X) (hp : ∃ fu, X.fu = fu ++ [p]) (hn : NdsIn S X.nv nds) (x : NdIn S n) (hlp : LpOk X p (some (ci, b2))) (hu : X.u + (8 * w kx.toNat - 7) + 8 * w (n.ks[1]).toNat + 1 ≤ 100000)
 (H : St (frz S :: MK X :: row b43 [z] :: row b5 [n.ksV] :: ndr b1 n :: row b0 [.ptr X.mb 0] :: l) h) :
 Tri h false l (fun v B => ∃ S' X' j, B = [frz S', MK X', row b43 [.int .i64 j], row b5 [n.ksV], ndr b1 n, row b0 [.ptr X'.mb 0]] ∧ Inv1 S' X' ∧ Ext1 S X S' X' ∧ X'.u ≤ X.u + (8 * w kx.toNat - 7) + 8 * w (n.ks[1]).toNat + 1 ∧ ∀ f, X'.fns[p.1]? = some f → In f.ss.length [j]) (M 58 [.ptr X.mb 0, .int .i64 kx, .ptr b2 0, .func 127 [] [.ptr b0 0, .ptr b5 0, .ptr b1 0, .ptr b43 0]] h) := by
 obtain ⟨f, T⟩ := I.top_ hp
 obtain ⟨m, h1, h2, h3, h4, h5⟩ := hB
 refine block_gen (lp := some (ci, b2)) (.inr ⟨_, _, rfl⟩) h1 h2 h3 h4 h5 I T hn (by omega) hlp (fun {S1 X1 h mc bb blV} I1 E1 u1 H => ?_) H
 have hp1 : ∃ fu, X1.fu = fu ++ [p] := by rw [E1.fu]; exact T.fu
 refine t6 e49 fun L => ?_
 unfold B49
 refine Tri.lss (fun e => by omega) (fun e => ?_)
 apply Tri.iff
 refine Tri.neFn rfl (Tri.ift ?_)
 refine Tri.eqv (congrArg (fun x => bindS x _) (dyn_at _ _ _ _ _ _)) ?_
 have emb : X1.mb = X.mb := E1.mb
 rw [← emb] at H
 refine tb (t254 gln hE hks2 I1 hp1 (by rw [E1.nv]; exact ndsIn_le hn E1.le) (x.le E1.le) (by omega) ((H.out 2).ins 6)) L fun v h B hq H L => ?_
 obtain ⟨rfl, S2, X2, j, rfl, I2, E2, u2, hj⟩ := hq
 rw [← E2.mb] at H
 refine Tri.tail (c47x I2 (E1.trans E2) T ((H.out 6).ins 2)) L (fun e => e) fun v h B hq H L => ?_
 obtain ⟨rfl, X3, rfl, I3, E3, u3, hss⟩ := hq
 have emb3 : X2.mb = X3.mb := by rw [E2.mb, emb, E3.mb]
 rw [emb3] at H
 refine ⟨_, ⟨S2, X3, j, rfl, I3, E3, by omega, fun g hg => ?_⟩, H⟩
 obtain ⟨fa, Ta⟩ := I2.top_ (p := p) (by rw [E2.fu]; exact hp1)
 rw [hss fa Ta.at_ g hg]
 exact hj fa Ta.at_
theorem storeO_law {b o : Nat} {d : IntKind} {m : Int} {kk : Hp → VH} : storeB (storeO Tryz.prog h 3 b o (.int d m)) (fun ob => kk (h.put b ob)) = storeC (.ptr b o) (.int d m) h kk := by
 have hsz : sz Tryz.prog 3 = some 1 := rfl
 show _ = store1 (.ptr b o) (.int d m) h kk
 show _ = cellE (h.t.get b) fun c n g e => Bool.rec (motive := fun _ => VH) none (kk (h.put b (.cells (c.set o (.int d m)) n g e))) (Nat.ble (Nat.succ o) n)
 unfold storeO
 rw [hsz]
 cases hb : h.t.get b with
 | none => rfl
 | some ob =>
  cases ob with
  | cells c n g e =>
   show storeB (bif (true && Nat.ble (o + 1) n && true) then some (.cells (c.setL o [.int d m]) n g e) else none) _ = Bool.rec (motive := fun _ => VH) none (kk (h.put b (.cells (c.set o (.int d m)) n g e))) (Nat.ble (Nat.succ o) n)
   rw [Bool.true_and, Bool.and_true, show Nat.succ o = o + 1 from rfl]
   cases Nat.ble (o + 1) n <;> rfl
  | map es => rfl
  | ro _ _ => rfl
  | dead => rfl
theorem ne_of {A B : Asn} {b b' : Nat} (H : St (A :: B :: l) h) (hA : ∀ f, A f → f b ≠ none) (hB : ∀ f, B f → f b' ≠ none) : b ≠ b' := by
 obtain ⟨f, k, a1, a2, a3, a4, f2, k2, b1, b2, b3, b4, b5⟩ := H.sat
 rintro rfl
 have h1 := hA f a4
 have h2 := hB f2 b4
 cases hb : f2 b with
 | none => exact h2 hb
 | some ob => exact (a1 b).elim h1 (by rw [b2 b _ hb]; exact fun h => nomatch h)
theorem vc_own {gr : Bool} {e s b n c : Nat} {g : Bool} {cs : List V} : ∀ f, vc gr (.slice b 0 n c g) e s cs f → f b ≠ none := fun f hf => by
 cases hf with
 | grown b n m t a1 a2 a3 a4 => rw [a1]; exact fun h => nomatch h
 | full b n c t a0 a1 a2 a5 a3 => rw [a1]; exact fun h => nomatch h
end
end Go.FP
end
