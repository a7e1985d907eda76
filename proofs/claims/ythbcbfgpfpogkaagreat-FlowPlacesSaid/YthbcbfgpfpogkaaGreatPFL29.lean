/- A part of the proof. -/
import Derived.Test.YthbcbfgpfpogkaaGreatPFL25
set_option linter.all false
set_option warn.classDefReducibility false
noncomputable section
section
open Go Go.Mid Go.Proofs
set_option maxRecDepth 100000
namespace Go.FP
section
variable {S S' S'' : Mem} {l F : List Asn} {h h0 : Hp} {ro : Bool} {Q : V → List Asn → Prop} {k : V → VH} {K : V → Hp → VH} {nds : List Nd} {n : Nd} {v nv : V} {X X' X'' : MS} {f f' : Fn} {i : Nat} {w : Nat → Nat} {b b' : Bk} {c c' : Cl} {wi : Wi}
theorem loop_ok (hs : Shape n) (hkd : n.kd = 6 ∨ n.kd = 7 ∨ n.kd = 9 ∨ n.kd = 10) (hE : ∀ k ∈ n.ks, ESpec nds w k) (hBI : ∀ k ∈ n.ks, BInfo nds w k) (hw : ∀ k ∈ n.ks, 1 ≤ w k.toNat) (hkl : n.ks.length ≤ 100000) : TN nds (1 + sumW w n.ks) 186 n := by
 intro S X p h l I hp hn x hu H
 have gln := hs.ln
 have hB : ∀ k ∈ n.ks, BSpec nds w k := fun k hk => (hBI k hk).spec
 have hone := x.one
 have hks := x.ks
 have hone2 := hks.one
 obtain ⟨f, T⟩ := I.top_ hp
 refine t2 e186 fun L => ?_
 unfold B186
 refine Tri.newS H L fun b0 h hb0 H L => ?_
 replace H := H.d2
 refine Tri.newS H L fun b1 h hb1 H L => ?_
 replace H := H.d2
 refine Tri.newS H L fun b2 h hb2 H L => ?_
 replace H := H.d2
 apply Tri.addr
 refine Tri.load 3 H rfl rfl ?_
 refine Tri.newS H L fun b5 h hb5 H L => ?_
 replace H := H.d2
 refine sto 2 H rfl rfl L hone2 fun h H L => ?_
 refine Tri.load 2 H rfl rfl ?_
 apply bL
 refine FSl.len hks ?_
 apply Tri.bs
 refine Tri.subN (by omega) (by omega) ?_
 refine Tri.load 5 H rfl rfl ?_
 refine tb1 (sp180 T H) L fun v h B hq H L => ?_
 obtain ⟨rfl, rfl⟩ := hq
 replace H : St (frz S :: MK X :: row b2 [.nilSlice] :: row b5 [n.ksV] :: ndr b1 n :: row b0 [.ptr X.mb 0] :: l) h := (H.out 3).ins 2
 obtain ⟨I1, E1⟩ := I.addCl (p := p) (cb := b2) (List.getElem?_eq_some_iff.1 T.at_).1 (by omega)
 replace H := FP.addCl (own := p.1) H
 have hcl : ∃ c, (X.cls ++ [(⟨b2, .nilSlice, p.1, []⟩ : Cl)])[X.cls.length]? = some c ∧ c.cb = b2 ∧ c.own = p.1 := ⟨_, by rw [List.getElem?_append_right (Nat.le_refl _), Nat.sub_self]; rfl, rfl, rfl⟩
 obtain ⟨X1, hX1⟩ : ∃ X1 : MS, X1 = { X with cls := X.cls ++ [⟨b2, .nilSlice, p.1, []⟩], u := X.u + 1 } := ⟨_, rfl⟩
 have hcl1 : ∃ c, X1.cls[X.cls.length]? = some c ∧ c.cb = b2 ∧ c.own = p.1 := by rw [hX1]; exact hcl
 have u1 : X1.u = X.u + 1 := by rw [hX1]
 have hst : -1 ≤ ((f.ss.length : Nat) : Int) := by omega
 replace H : St (frz S :: MK X1 :: row b5 [n.ksV] :: ndr b1 n :: row b0 [.ptr X.mb 0] :: l) h := by rw [hX1]; exact H
 rw [← hX1] at I1 E1
 clear hcl
 generalize X.cls.length = ci at *
 generalize ((f.ss.length : Nat) : Int) = st at *
 rw [← E1.mb] at H
 have hp1 : ∃ fu, X1.fu = fu ++ [p] := by rw [E1.fu]; exact hp
 have hn1 : NdsIn S X1.nv nds := by rw [E1.nv]; exact hn
 unfold ndr at H
 apply Tri.addr
 refine Tri.load 3 H rfl rfl ?_
 refine Tri.eql (fun k6 => ?_) (fun k6 => ?_)
 ·have hk6 := hs.s.2.2.1 k6
  have hsum := sumW_two w n.ks hk6
  have ma := List.getElem_mem (l := n.ks) (n := 0) (by omega)
  have mb := List.getElem_mem (l := n.ks) (n := 1) (by omega)
  have hwa := hw _ ma
  have hwb := hw _ mb
  apply Tri.ift
  refine Tri.load 4 H rfl rfl ?_
  refine Tri.load 2 H rfl rfl ?_
  refine FSl.idx (by assumption) (by omega) (by omega) fun b3 o3 hb3 => ?_
  have hc3 := hb3
  clear hc3
  refine Tri.loadF 0 H rfl (by assumption) ?_
  refine tb (hE _ ma I1 hp1 hn1 (by omega) H) L fun v h B hq H L => ?_
  obtain ⟨S2, X2, rfl, I2, E2, u2, x2, f2, rfl, t2, y1, y2⟩ := hq
  rw [← E2.mb] at H
  refine Tri.load 4 H rfl rfl ?_
  refine Tri.bld (e := _) (s := _) H L rfl rfl fun b11 h hb11 H L => ?_
  replace H := H.d2
  apply Tri.addr
  refine Tri.load 4 H rfl rfl ?_
  refine Tri.bldS rfl ?_
  obtain ⟨S3, g1, H, g3⟩ := freezeI (ks := [x2]) H.u2
  refine tb (stmt_ok (s := ⟨4, .nilSlice, .nilSlice, _, 0, 0, n.ln, [], [], [x2]⟩) (I2.leS g1) (by rw [E2.fu]; exact hp1) (fun f hf => ⟨gln, by show (-1 : Int) ≤ 0; decide, by show (-1 : Int) ≤ 0; decide, .inl ⟨rfl, rfl⟩, .inl ⟨rfl, rfl⟩, g3, in_nil _, in_nil _, fun k hk => by rw [t2] at hf; cases hf; rw [List.mem_singleton] at hk; subst hk; exact ⟨y1, y2⟩⟩) (by omega) H) L fun v h B hq H L => ?_
  obtain ⟨S4, X4, rfl, I4, E4, u4, j4, f4, rfl, t4, j5, j6⟩ := hq
  rw [← E4.mb] at H
  have E14 := E2.trans ((Ext1.leS g1).trans E4)
  have hks4 := FSl.mono hks fun b o a h => (E1.trans E14).le _ _ _ h
  have hp4 : ∃ fu, X4.fu = fu ++ [p] := by rw [E14.fu]; exact hp1
  have hn4 : NdsIn S4 X4.nv nds := by rw [E14.nv]; exact ndsIn_le hn1 E14.le
  have hcl4 := cl_ext E14 hcl1
  clear hks
  refine Tri.load 4 H rfl rfl ?_
  refine Tri.load 2 H rfl rfl ?_
  refine FSl.idx (by assumption) (by omega) (by omega) fun b22 o22 hb22 => ?_
  have hc22 := hb22
  clear hc22
  refine Tri.loadF 0 H rfl (by assumption) ?_
  refine tb (hB _ mb (lp := some (ci, b2)) I4 hp4 hn4 (by omega) (lp_ext hcl4) H) L fun v h B hq H L => ?_
  obtain ⟨S5, X5, rfl, I5, E5, u5, rfl⟩ := hq
  rw [← E5.mb] at H
  have E15 := E14.trans E5
  have hp5 : ∃ fu, X5.fu = fu ++ [p] := by rw [E15.fu]; exact hp1
  have hj5 := sub_ext E5 hp4 I4 (one_in t4 j5 j6)
  obtain ⟨c5, hc5, hcb5, how5⟩ := cl_ext E5 hcl4
  rw [← hcb5]
  have E05 := E1.trans E15
  exact Tri.tail (c89 gln I5 hp5 hc5 how5 hst (fun _ f hf => (hj5 f hf j4 (by simp)).2) (by omega) H.x2) L (fun e => e) fun v h B hq H L => ⟨B, rX_mono E05 (by omega) (fun _ _ _ h => h) hq, H⟩
 apply Tri.iff
 refine Tri.eql (fun k7 => ?_) (fun k7 => ?_)
 ·have hs7 := hs.s.2.2.2.1 k7
  have hsum := sumW_two w n.ks hs7
  have ma := List.getElem_mem (l := n.ks) (n := 0) (by omega)
  have mb := List.getElem_mem (l := n.ks) (n := 1) (by omega)
  have hwa := hw _ ma
  have hwb := hw _ mb
  apply Tri.ift
  refine Tri.newS H L fun b43 h hb43 H L => ?_
  replace H := H.d2
  refine sto 2 H rfl rfl L rfl fun h H L => ?_
  refine Tri.load 5 H rfl rfl ?_
  refine Tri.load 3 H rfl rfl ?_
  refine FSl.idx (by assumption) (by omega) (by omega) fun b2 o2 hb2 => ?_
  have hc2 := hb2
  clear hc2
  refine Tri.loadF 0 H rfl (by assumption) ?_
  refine tb (rep_block (hBI _ ma) gln hE hs7 I1 hp1 hn1 x (lp_ext hcl1) (by omega) H) L fun v h B hq H L => ?_
  obtain ⟨S2, X2, j, rfl, I2, E2, u2, hj⟩ := hq
  unfold ndr at H
  have hp2 : ∃ fu, X2.fu = fu ++ [p] := by rw [E2.fu]; exact hp1
  have hpm : p ∈ X2.fu := by obtain ⟨fu, hfu⟩ := hp2; rw [hfu]; simp
  obtain ⟨f2, T2⟩ := I2.top_ hp2
  have hj2 := hj f2 T2.at_ j (by simp)
  have hus := I2.us f2 (List.mem_of_getElem? T2.at_)
  have htop := I2.top
  refine Tri.load 5 H rfl rfl ?_
  refine Tri.load 2 H rfl rfl ?_
  have Ho := H
  refine Tri.wrote (sp190 T2 (H.draw _) hj2.1 hj2.2) L (fun _ => rfl) fun v h2 h B hq H2 hn20 hl20 eh H L => ?_
  obtain ⟨bs, nn, cc, g, hv, rfl, rfl⟩ := hq
  refine Tri.load 5 Ho rfl rfl ?_
  refine Tri.cd (by rw [show pureB _ _ = true from Nat.ble_eq_true_of_le (hl20 rfl)]; rfl) ?_
  refine Tri.load 2 Ho rfl rfl ?_
  refine Tri.cd (by rw [show pureB _ _ = true from Nat.ble_eq_true_of_le (hl20 rfl)]; rfl) ?_
  refine Tri.wrote (sp190 T2 (H.draw _) hj2.1 hj2.2) L (fun _ => rfl) fun v h3 h B hq H3 hn30 hl30 eh3 H L => ?_
  obtain ⟨bs', nn', cc', g', hv', rfl, rfl⟩ := hq
  refine Tri.load 2 Ho rfl rfl ?_
  refine Tri.cd (by rw [show pureB _ _ = true from Nat.ble_eq_true_of_le (hl20 rfl), show pureB _ _ = true from Nat.ble_eq_true_of_le (hl30 rfl)]; rfl) ?_
  refine Tri.addN (by omega) (by omega) ?_
  refine Tri.load 2 Ho rfl rfl ?_
  refine Tri.cd (by rw [show pureB _ _ = true from Nat.ble_eq_true_of_le (hl20 rfl), show pureB _ _ = true from Nat.ble_eq_true_of_le (hl30 rfl)]; rfl) ?_
  refine Tri.addN (by omega) (by omega) ?_
  apply Tri.nil
  apply Tri.addr
  have hne : b43 ≠ bs := by
   have H1 := openF H T2.at_
   rw [hv] at H1
   have H2 : St (row b43 [.int .i64 j] :: vc true (.slice bs 0 nn cc g) 50 7 (f2.ss.flatMap Sm.cs) :: _) h := (H1.out 3).out 17
   exact ne_of H2 row_own vc_own
  have hoff : (offP (.ptr b43 0) bs && true) = true := by
   show (!(Nat.beq b43 bs) && true) = true
   rw [show Nat.beq b43 bs = false from by
    rcases Bool.eq_false_or_eq_true (Nat.beq b43 bs) with h | h
    ·exact (hne (Nat.eq_of_beq_eq_true h)).elim
    ·exact h]; rfl
  have hgoal : ∀ {h0 : Hp} {ro : Bool} {F : List Asn} {Q : V → List Asn → Prop} {kk : Hp → VH} {o : Nat} {m : Int}, Tri h0 ro F Q (storeC (.ptr bs o) (.int .i64 m) h kk) → Tri h0 ro F Q (storeB (storeO Tryz.prog h 3 bs o (.int .i64 m)) fun c => cD (offP (.ptr b43 0) bs && true) (kk (h.put bs c)) none) := fun {h0 ro F Q kk o m} t => by
   rw [hoff]
   exact Tri.eqv storeO_law t
  refine hgoal (kk := fun h' => nilS _ fun v71 => addrS 5 v71 fun v72 => storeC v72 _ h' fun h73 => M 89 _ h73) ?_
  refine setNx I2 T2.at_ hv (by omega) (by omega) (fun hn => (hn p hpm rfl).elim) H L fun h X3 I3 E3 u3 o3 H L => ?_
  obtain ⟨f3, g1, g2, g4⟩ := o3.2.2.2.2
  apply Tri.nil
  apply Tri.addr
  have hp3 : ∃ fu, X3.fu = fu ++ [p] := by rw [E3.fu]; exact hp2
  have hpm3 : p ∈ X3.fu := by rw [E3.fu]; exact hpm
  refine setEl I3 g1 (g2.trans hv') (by omega) (by omega) (fun hn => (hn p hpm3 rfl).elim) H L fun h X4 I4 E4 u4 o4 H L => ?_
  have hp4 : ∃ fu, X4.fu = fu ++ [p] := by rw [E4.fu]; exact hp3
  have E24 := E2.trans (E3.trans E4)
  have emb : X2.mb = X4.mb := by rw [E4.mb, E3.mb]
  rw [emb] at H
  obtain ⟨c5, hc5, hcb5, how5⟩ := cl_ext E24 hcl1
  rw [← hcb5]
  refine Tri.tail (c89 gln I4 hp4 hc5 how5 hst (fun e => by omega) (by omega) H.x2.x2) L (fun e => e) fun v h B hq H L => ⟨B, rX_mono (E1.trans E24) (by omega) (fun _ _ _ h => h) hq, H⟩
 apply Tri.iff
 apply Tri.addr
 refine Tri.load 3 H rfl rfl ?_
 refine Tri.eql (fun k10 => ?_) (fun k10 => ?_)
 ·apply Tri.ift
  have hl1 := hs.s.2.2.2.2.2.1 k10
  exact Tri.tail (c95 gln hE hB hw hkl hl1 (hs.s.2.2.2.2.2.2.2 (.inr (.inr k10))) I1 hp1 hn1 x hcl1 (by omega) H) L (fun e => e) fun v h B hq H L => ⟨B, rX_mono E1 (by omega) (fun _ _ _ h => h) hq, H⟩
 ·apply Tri.iff
  have k9 : n.kd = 9 := by omega
  have hl1 := hs.s.2.2.2.2.1 k9
  exact Tri.tail (c95 gln hE hB hw hkl hl1 (hs.s.2.2.2.2.2.2.2 (.inr (.inl k9))) I1 hp1 hn1 x hcl1 (by omega) H) L (fun e => e) fun v h B hq H L => ⟨B, rX_mono E1 (by omega) (fun _ _ _ h => h) hq, H⟩
def fn0 (fb : Nat) (pa : Int) (more : Bool) : Fn := ⟨fb, pa, more, 0, 0, .nilSlice, .nilSlice, .nilSlice, .nilSlice, .nilSlice, .nilSlice, [], [], [], [], [], []⟩
def MS.newF (X : MS) (fb : Nat) (pa : Int) (more : Bool) (fuV dnV : V) : MS := { X with fuV := fuV, dnV := dnV, fu := X.fu ++ [(X.fns.length, fb)], fns := X.fns ++ [fn0 fb pa more], u := X.u + 1 }
theorem Inv1.newF {fb : Nat} {pa : Int} {more : Bool} {fuV dnV : V} (I : Inv1 S X) (ht : X.u + 1 ≤ 100000) : Inv1 S (X.newF fb pa more fuV dnV) := by
 have hlen : (X.newF fb pa more fuV dnV).fns.length = X.fns.length + 1 := by show (X.fns ++ [_]).length = _; simp
 have hat : ∀ (j : Nat) (g : Fn), X.fns[j]? = some g → (X.newF fb pa more fuV dnV).fns[j]? = some g := fun j g h => by
  show (X.fns ++ [_])[j]? = _
  rw [List.getElem?_append_left (List.getElem?_eq_some_iff.1 h).1]; exact h
 have hnew : (X.newF fb pa more fuV dnV).fns[X.fns.length]? = some (fn0 fb pa more) := by
  show (X.fns ++ [_])[X.fns.length]? = _
  rw [List.getElem?_append_right (Nat.le_refl _), Nat.sub_self]; rfl
 have hof : ∀ (j : Nat) (g : Fn), (X.newF fb pa more fuV dnV).fns[j]? = some g → X.fns[j]? = some g ∨ (j = X.fns.length ∧ g = fn0 fb pa more) := fun j g h => by
  rcases Nat.lt_or_ge j X.fns.length with h1 | h1
  ·left
   have h : (X.fns ++ [_])[j]? = some g := h
   rw [List.getElem?_append_left h1] at h; exact h
  ·right
   have h2 := (List.getElem?_eq_some_iff.1 h).1
   rw [hlen] at h2
   have : j = X.fns.length := by omega
   subst this
   rw [hnew] at h; cases h; exact ⟨rfl, rfl⟩
 refine ⟨fun g hg => ?_, fun p hp => ?_, fun p hp g hg => ?_, fun j g hg hj => ?_, fun w hw => ?_, I.lbs, fun d hd => ⟨by rw [hlen]; have := (I.cls d hd).1; omega, fun g hg => ?_⟩, I.map, I.fault, ?_, fun g hg => ?_, fun d hd => Nat.le_succ_of_le (I.ub d hd), fun d hd => Nat.le_succ_of_le (I.uc d hd), ?_, ht⟩
 ·rw [hlen]
  rcases List.mem_append.1 hg with h | h
  ·exact (I.fns g h).mono (Le.refl _) (Nat.le_refl _) (Nat.le_succ _)
  ·rw [List.mem_singleton] at h; subst h
   exact ⟨rfl, Nat.le_refl _, Nat.zero_le _, Nat.zero_le _, fun s hs => (nomatch hs), fun i e he => by cases he⟩
 ·rcases List.mem_append.1 hp with h | h
  ·obtain ⟨g, h1, h2⟩ := I.fu p h
   exact ⟨g, hat _ g h1, h2⟩
  ·rw [List.mem_singleton] at h; subst h
   exact ⟨_, hnew, rfl⟩
 ·rcases List.mem_append.1 hp with h | h
  ·obtain ⟨g0, h1, h2⟩ := I.fu p h
   have := hat _ _ h1
   rw [this] at hg; cases hg
   exact ⟨(I.opn p h g h1).all, (I.opn p h g h1).ord⟩
  ·rw [List.mem_singleton] at h; subst h
   rw [hnew] at hg; cases hg
   exact ⟨fun q hq => (nomatch hq), List.Pairwise.nil⟩
 ·rcases hof j g hg with h | ⟨h, _⟩
  ·exact I.fin j g h fun p hp => hj p (List.mem_append_left _ hp)
  ·exact (hj (X.fns.length, fb) (List.mem_append_right _ (List.mem_singleton.2 rfl)) h.symm).elim
 ·obtain ⟨g, h1, h2⟩ := (I.go w hw).f
  exact ⟨⟨g, hat _ g h1, h2⟩, (I.go w hw).inn, (I.go w hw).v⟩
 ·rcases hof _ g hg with h | ⟨h, _⟩
  ·exact (I.cls d hd).2 g h
  ·have := (I.cls d hd).1; omega
 ·have := I.u
  show X.strs.length + (X.fns ++ [_]).length + X.go.length + X.bks.length + X.cls.length ≤ X.u + 1
  rw [List.length_append, List.length_singleton]; omega
 ·rcases List.mem_append.1 hg with h | h
  ·exact Nat.le_succ_of_le (I.us g h)
  ·rw [List.mem_singleton] at h; subst h; exact Nat.zero_le _
 ·show (X.fu ++ [_]).length ≤ X.u + 1
  rw [List.length_append, List.length_singleton]; have := I.uf; omega
def MS.pop (X : MS) (fuV : V) (fu : List (Nat × Nat)) : MS := { X with fuV := fuV, fu := fu }
theorem Inv1.pop {fuV : V} {fu : List (Nat × Nat)} {q : Nat × Nat} {g : Fn} (I : Inv1 S X) (hfu : X.fu = fu ++ [q]) (hg : X.fns[q.1]? = some g) (hD : FnDone g ∧ (X.fe = 0 → g.pa ≤ g.sl)) : Inv1 S (X.pop fuV fu) := by
 refine ⟨I.fns, fun p hp => I.fu p (by rw [hfu]; exact List.mem_append_left _ hp), fun p hp f hf => ?_, fun j f hf hj => ?_, fun w hw => ⟨(I.go w hw).f, (I.go w hw).inn, (I.go w hw).v⟩, I.lbs, I.cls, I.map, I.fault, I.u, I.us, I.ub, I.uc, ?_, I.top⟩
 ·have := I.opn p (by rw [hfu]; exact List.mem_append_left _ hp) f hf
  exact ⟨this.all, this.ord⟩
 ·by_cases e : j = q.1
  ·subst e
   rw [show X.fns[q.1]? = some f from hf] at hg; cases hg; exact hD
  ·refine I.fin j f hf fun p hp => ?_
   rw [hfu] at hp
   rcases List.mem_append.1 hp with h | h
   ·exact hj p h
   ·rw [List.mem_singleton] at h; subst h; exact Ne.symm e
 ·have := I.uf
  rw [hfu, List.length_append] at this
  show fu.length ≤ X.u
  omega
theorem pop_ext {S2 : Mem} {X2 : MS} {fb : Nat} {pa : Int} {more : Bool} {fuV dnV fuV' : V} (E : Ext1 S (X.newF fb pa more fuV dnV) S2 X2) : Ext1 S X S2 (X2.pop fuV' X.fu) := by
 refine ⟨E.le, E.fe, E.mb, E.nv, rfl, fun j g hg => E.fns j g ?_, E.nst, fun j b hb => E.bks j b hb, fun j c hc => E.cls j c hc, Nat.le_trans (Nat.le_succ _) E.u⟩
 show (X.fns ++ [_])[j]? = _
 rw [List.getElem?_append_left (List.getElem?_eq_some_iff.1 hg).1]; exact hg
theorem addFn {fb : Nat} {pa : Int} {more : Bool} {fuV dnV : V} (H : St (frz S :: Mid.row X.mb (X.newF fb pa more fuV dnV).row :: vc true X.strsV 9 1 (X.strs.map V.str) :: dict X.mapb X.es :: vc true fuV 65 1 (ptrs (X.fu ++ [(X.fns.length, fb)])) :: vc true dnV 65 1 ((X.fns ++ [fn0 fb pa more]).map fun f => .ptr f.fb 0) :: vc true X.goV 68 6 (X.go.flatMap Wi.cs) ::
 ands (X.fns.map Fn.A) :: ands (X.bks.map Bk.A) :: ands (X.cls.map Cl.A) :: row fb (fn0 fb pa more).row :: l) h) : St (frz S :: MK (X.newF fb pa more fuV dnV) :: l) h := by
 have H1 := H.out 10
 have H2 := ((((((H1.vc_new true 101 1).u1.vc_new true 136 1).u1.vc_new true 53 3).u1.vc_new true 50 7).u1.vc_new true 75 2).u1.vc_new true 4 1).u1
 have H4 : St (FnL (fn0 fb pa more) ++ _) h := H2
 have H6 : St ((fn0 fb pa more).A :: _) h := H4.pack
 have H7 := (H6.out 8).u1
 have H8 : St (_ :: ands (X.fns.map Fn.A) :: _) h := H7
 have H9 := H8.snoc.ins 7
 refine closeM (X := X.newF fb pa more fuV dnV) ?_
 show St (frz S :: _ :: _ :: _ :: _ :: _ :: _ :: ands ((X.fns ++ [fn0 fb pa more]).map Fn.A) :: _) h
 rw [List.map_append]
 exact H9
theorem ss_at (l : List Sm) (j : Nat) (hj : j < l.length) (o : Nat) (ho : o < 7) : (l.flatMap Sm.cs)[j * 7 + o]? = (Sm.cs l[j])[o]? := by
 induction l generalizing j with
 | nil => simp at hj
 | cons a l ih =>
  cases j with
  | zero => rw [List.flatMap_cons, List.getElem?_append_left (by simp [Sm.cs]; omega)]; simp
  | succ j =>
   rw [List.flatMap_cons, List.getElem?_append_right (by simp [Sm.cs]; omega), show (j + 1) * 7 + o - (Sm.cs a).length = j * 7 + o by simp [Sm.cs]; omega]
   exact ih j (by simpa using hj)
theorem ss_view {j : Nat} (H : St l h) (hi : l[i]? = some (MK X)) (hj : X.fns[j]? = some f) : (f.stV = .nilSlice ∧ f.ss = []) ∨ ∃ b0 c g, f.stV = .slice b0 0 f.ss.length c g ∧ ∀ (k : Nat) (hk : k < f.ss.length) (o : Nat), o < 7 → h.cell b0 (k * 7 + o) = (Sm.cs f.ss[k])[o]? := by
 obtain ⟨g, a1, a2⟩ := fn_get H hi hj (o := 3) rfl
 rcases vc_view a1 a2 with ⟨h1, h2⟩ | ⟨b0, n, c, gg, h1, h2, h3⟩
 ·refine .inl ⟨h1, ?_⟩
  have := ss_len f.ss
  rw [h2] at this
  exact List.eq_nil_of_length_eq_zero (by simp at this; omega)
 ·rw [ss_len] at h2
  have : n = f.ss.length := by omega
  subst this
  refine .inr ⟨b0, c, gg, h1, fun k hk o ho => ?_⟩
  rw [h3 _ (by rw [ss_len]; omega)]
  exact ss_at _ _ hk o ho
theorem lenSS {i j : Nat} (H : St l h) (hi : l[i]? = some (MK X)) (hj : X.fns[j]? = some f) (hk : Tri h0 ro F Q (k (.int .i64 (f.ss.length : Nat)))) : Tri h0 ro F Q (Mid.lenSl f.stV k) := by
 rcases ss_view H hi hj with ⟨h1, h2⟩ | ⟨b, c, g, h1, _⟩
 ·rw [h1]; rw [h2] at hk; exact hk
 ·rw [h1]; exact hk
structure Cl0 (S0 : Mem) (X0 : MS) (p : Nat × Nat) (m : Nat) (S : Mem) (X : MS) (f : Fn) : Prop where
 I : Inv1 S X
 E : Ext1 S0 X0 S X
 u : X.u ≤ X0.u
 hp : ∃ fu, X.fu = fu ++ [p]
 at_ : X.fns[p.1]? = some f
 fb : f.fb = p.2
 len : f.ss.length = m
 sm : m ≤ 100000
 st : f.st = 0 ∨ f.st = -1 ∧ f.ss = []
 sl : X.fe = 0 → f.pa ≤ f.sl
variable {S0 : Mem} {X0 : MS} {p : Nat × Nat} {m : Nat}
theorem Cl0.setNx {bb nn cc : Nat} {g : Bool} {j : Nat} {kk : Hp → VH} (C : Cl0 S0 X0 p m S X f) (hv : f.stV = .slice bb 0 nn cc g) (hj : j < f.ss.length) (H : St (frz S :: MK X :: l) h) (L : Lo false h0 h)
 (hK : ∀ h', Cl0 S0 X0 p m S { X with fns := X.fns.set p.1 { f with ss := f.ss.set j { f.ss[j] with nx := -1 } }, u := X.u } { f with ss := f.ss.set j { f.ss[j] with nx := -1 } } → St (frz S :: MK { X with fns := X.fns.set p.1 { f with ss := f.ss.set j { f.ss[j] with nx := -1 } }, u := X.u } :: l) h' → Lo false h0 h' → Tri h0 false F Q (kk h')) :
 Tri h0 false F Q (storeC (.ptr bb (0 + j * 7 + 4)) (.int .i64 (-1)) h kk) := by
 have I := C.I
 have hi := C.at_
 have hpm : p ∈ X.fu := by obtain ⟨fu, hfu⟩ := C.hp; rw [hfu]; simp
 have hs : f.ss[j]? = some f.ss[j] := List.getElem?_eq_getElem hj
 have hm := I.fns f (List.mem_of_getElem? hi)
 replace H := openF H hi
 rw [hv] at H
 refine Tri.storeV 3 H rfl (by rw [ss_len]; omega) L (fun e => nomatch e) rfl fun h H L => ?_
 rw [← hv] at H
 replace H : St (_ :: _ :: _ :: vc true f.stV 50 7 ((f.ss.flatMap Sm.cs).set (0 + j * 7 + 4) (.int .i64 (-1))) :: _) _ := H
 rw [ss_set4 (-1) _ _ _ hs] at H
 have hsm := hm.ss _ (List.getElem_mem hj)
 obtain ⟨I2, E2⟩ := upd_sm (s' := { f.ss[j] with nx := -1 }) I hi hs ⟨hsm.ln, by show (-1 : Int) ≤ -1; omega, hsm.el, hsm.vs, hsm.vt, hsm.ve, hsm.is, hsm.it, hsm.ie⟩ (fun hn => (hn p hpm rfl).elim)
 refine hK _ ⟨I2, C.E.trans E2, C.u, C.hp, List.getElem?_set_self (List.getElem?_eq_some_iff.1 hi).1, C.fb, by simpa using C.len, C.sm, ?_, C.sl⟩ (closeF (f' := { f with ss := f.ss.set j { f.ss[j] with nx := -1 } }) hi rfl H X.u) L
 rcases C.st with e | ⟨e, e2⟩
 ·exact .inl e
 ·rw [e2] at hj; exact absurd hj (Nat.not_lt_zero _)
theorem Cl0.setEl {bb nn cc : Nat} {g : Bool} {j : Nat} {kk : Hp → VH} (C : Cl0 S0 X0 p m S X f) (hv : f.stV = .slice bb 0 nn cc g) (hj : j < f.ss.length) (H : St (frz S :: MK X :: l) h) (L : Lo false h0 h)
 (hK : ∀ h', Cl0 S0 X0 p m S { X with fns := X.fns.set p.1 { f with ss := f.ss.set j { f.ss[j] with el := -1 } }, u := X.u } { f with ss := f.ss.set j { f.ss[j] with el := -1 } } → St (frz S :: MK { X with fns := X.fns.set p.1 { f with ss := f.ss.set j { f.ss[j] with el := -1 } }, u := X.u } :: l) h' → Lo false h0 h' → Tri h0 false F Q (kk h')) :
 Tri h0 false F Q (storeC (.ptr bb (0 + j * 7 + 5)) (.int .i64 (-1)) h kk) := by
 have I := C.I
 have hi := C.at_
 have hpm : p ∈ X.fu := by obtain ⟨fu, hfu⟩ := C.hp; rw [hfu]; simp
 have hs : f.ss[j]? = some f.ss[j] := List.getElem?_eq_getElem hj
 have hm := I.fns f (List.mem_of_getElem? hi)
 replace H := openF H hi
 rw [hv] at H
 refine Tri.storeV 3 H rfl (by rw [ss_len]; omega) L (fun e => nomatch e) rfl fun h H L => ?_
 rw [← hv] at H
 replace H : St (_ :: _ :: _ :: vc true f.stV 50 7 ((f.ss.flatMap Sm.cs).set (0 + j * 7 + 5) (.int .i64 (-1))) :: _) _ := H
 rw [ss_set5 (-1) _ _ _ hs] at H
 have hsm := hm.ss _ (List.getElem_mem hj)
 obtain ⟨I2, E2⟩ := upd_sm (s' := { f.ss[j] with el := -1 }) I hi hs ⟨hsm.ln, hsm.nx, by show (-1 : Int) ≤ -1; omega, hsm.vs, hsm.vt, hsm.ve, hsm.is, hsm.it, hsm.ie⟩ (fun hn => (hn p hpm rfl).elim)
 refine hK _ ⟨I2, C.E.trans E2, C.u, C.hp, List.getElem?_set_self (List.getElem?_eq_some_iff.1 hi).1, C.fb, by simpa using C.len, C.sm, ?_, C.sl⟩ (closeF (f' := { f with ss := f.ss.set j { f.ss[j] with el := -1 } }) hi rfl H X.u) L
 rcases C.st with e | ⟨e, e2⟩
 ·exact .inl e
 ·rw [e2] at hj; exact absurd hj (Nat.not_lt_zero _)
def Cut (m : Nat) (f : Fn) (d : Nat) : Prop := ∀ (i : Nat) (s : Sm), f.ss[i]? = some s → i < d → s.nx < (m : Int) ∧ s.el < (m : Int)
theorem set_get {α : Type} {l : List α} {i j : Nat} {a b : α} (h : (l.set i a)[j]? = some b) : (j = i ∧ b = a) ∨ (j ≠ i ∧ l[j]? = some b) := by
 rw [List.getElem?_set] at h
 by_cases e : i = j
 ·subst e
  rw [if_pos rfl] at h
  by_cases e2 : i < l.length
  ·rw [if_pos e2] at h; cases h; exact .inl ⟨rfl, rfl⟩
  ·rw [if_neg e2] at h; cases h
 ·rw [if_neg e] at h; exact .inr ⟨Ne.symm e, h⟩
abbrev toP (pb bb j : Nat) : Asn := vc false (.slice pb 0 2 2 false) 95 1 [.ptr bb (0 + j * 7 + 4), .ptr bb (0 + j * 7 + 5)]
theorem k39_1 {pb bb cc j : Nat} {g : Bool} {a6 : V} (C : Cl0 S0 X0 p m S X f) (hv : f.stV = .slice bb 0 f.ss.length cc g) (hj : j < m) (hc : Cut m f j) (hnx : ∀ s, f.ss[j]? = some s → s.nx < (m : Int))
 (hend : ∀ {X : MS} {f : Fn} {h : Hp}, Cl0 S0 X0 p m S X f → Cut m f (j + 1) → St (frz S :: MK X :: l) h → Tri h false F Q (M 37 [.ptr X0.mb 0, .ptr p.2 0, a6, .int .i64 (m : Nat), .int .i64 ((j : Int) + 1)] h))
 (H : St (frz S :: MK X :: toP pb bb j :: l) h) :
 Tri h false F Q (M 39 [.ptr X0.mb 0, .ptr p.2 0, a6, .int .i64 (m : Nat), .int .i64 (j : Nat), .slice pb 0 2 2 false, .int .i64 2, .int .i64 1] h) := by
 have hjl : j < f.ss.length := by rw [C.len]; exact hj
 have hsj : f.ss[j]? = some f.ss[j] := List.getElem?_eq_getElem hjl
 have hsm := C.sm
 have next : ∀ {X : MS} {f : Fn} {h : Hp}, Cl0 S0 X0 p m S X f → Cut m f (j + 1) → St (frz S :: MK X :: toP pb bb j :: l) h → Tri h false F Q (M 41 [.ptr X0.mb 0, .ptr p.2 0, a6, .int .i64 (m : Nat), .int .i64 (j : Nat), .slice pb 0 2 2 false, .int .i64 2, .int .i64 1] h) := by
  intro X f h C hc H
  have k39_2 : Tri h false F Q (M 39 [.ptr X0.mb 0, .ptr p.2 0, a6, .int .i64 (m : Nat), .int .i64 (j : Nat), .slice pb 0 2 2 false, .int .i64 2, .int .i64 2] h) := by
   refine t8 e39 fun L => ?_
   unfold B39
   refine Tri.lss (fun e => by omega) (fun e => ?_)
   apply Tri.iff
   refine Tri.addN (by omega) (by omega) ?_
   exact hend C hc H.x2
  refine t8 e41 fun L => ?_
  unfold B41
  refine Tri.addN (by omega) (by omega) ?_
  exact k39_2
 refine t8 e39 fun L => ?_
 unfold B39
 refine Tri.lss (fun e => ?_) (fun e => by omega)
 apply Tri.ift
 refine Tri.idxV 2 H rfl (by omega) (by show ((1 : Int).toNat + 1) * 1 ≤ 2; decide) (by decide) fun b0 nn c0 g0 he _ => ?_
 cases he
 refine Tri.loadV 2 H rfl (w := .ptr bb (0 + j * 7 + 5)) rfl ?_
 apply Tri.nil
 have hcell : h.cell bb (0 + j * 7 + 5) = some (.int .i64 (f.ss[j]).el) := by
  rcases ss_view H (i := 1) rfl C.at_ with ⟨h1, _⟩ | ⟨b0, c, g, h1, h2⟩
  ·rw [h1] at hv; cases hv
  ·rw [h1] at hv; cases hv
   rw [Nat.zero_add, h2 j hjl 5 (by decide)]; rfl
 refine Tri.loadC hcell ?_
 rw [← C.fb]
 apply Tri.nil
 apply Tri.addr
 apply Tri.addr
 refine Tri.loadC (fn_cell H (i := 1) (o := 5) rfl C.at_ rfl) ?_
 apply bL
 refine lenSS H (i := 1) rfl C.at_ ?_
 apply Tri.bs
 rw [C.fb, C.len]
 refine Tri.geq (fun e => ?_) (fun e => ?_)
 ·apply Tri.ift
  apply Tri.nil
  refine C.setEl hv hjl H L fun h C H L => ?_
  refine te (next C (fun q s hq hd => ?_) H) L
  rcases set_get hq with ⟨rfl, rfl⟩ | ⟨hne, hq⟩
  ·have h7 := hnx _ hsj
   exact ⟨h7, by show (-1 : Int) < m; omega⟩
  ·exact hc q s hq (by omega)
 ·apply Tri.iff
  refine te (next C (fun q s hq hd => ?_) H) L
  by_cases hne : q = j
  ·subst hne
   rw [hsj] at hq; cases hq
   exact ⟨hnx _ hsj, e⟩
  ·exact hc q s hq (by omega)
theorem k39_0 {pb bb cc j : Nat} {g : Bool} {a6 : V} (C : Cl0 S0 X0 p m S X f) (hv : f.stV = .slice bb 0 f.ss.length cc g) (hj : j < m) (hc : Cut m f j)
 (hend : ∀ {X : MS} {f : Fn} {h : Hp}, Cl0 S0 X0 p m S X f → Cut m f (j + 1) → St (frz S :: MK X :: l) h → Tri h false F Q (M 37 [.ptr X0.mb 0, .ptr p.2 0, a6, .int .i64 (m : Nat), .int .i64 ((j : Int) + 1)] h))
 (H : St (frz S :: MK X :: toP pb bb j :: l) h) :
 Tri h false F Q (M 39 [.ptr X0.mb 0, .ptr p.2 0, a6, .int .i64 (m : Nat), .int .i64 (j : Nat), .slice pb 0 2 2 false, .int .i64 2, .int .i64 0] h) := by
 have hjl : j < f.ss.length := by rw [C.len]; exact hj
 have hsj : f.ss[j]? = some f.ss[j] := List.getElem?_eq_getElem hjl
 have hsm := C.sm
 have next : ∀ {X : MS} {f : Fn} {h : Hp}, Cl0 S0 X0 p m S X f → f.stV = .slice bb 0 f.ss.length cc g → Cut m f j → (∀ s, f.ss[j]? = some s → s.nx < (m : Int)) → St (frz S :: MK X :: toP pb bb j :: l) h → Tri h false F Q (M 41 [.ptr X0.mb 0, .ptr p.2 0, a6, .int .i64 (m : Nat), .int .i64 (j : Nat), .slice pb 0 2 2 false, .int .i64 2, .int .i64 0] h) := by
  intro X f h C hv hc hnx H
  refine t8 e41 fun L => ?_
  unfold B41
  refine Tri.addN (by omega) (by omega) ?_
  exact k39_1 C hv hj hc hnx (fun C hc H => hend C hc H) H
 refine t8 e39 fun L => ?_
 unfold B39
 refine Tri.lss (fun e => ?_) (fun e => by omega)
 apply Tri.ift
 refine Tri.idxV 2 H rfl (by omega) (by show ((0 : Int).toNat + 1) * 1 ≤ 2; decide) (by decide) fun b0 nn c0 g0 he _ => ?_
 cases he
 refine Tri.loadV 2 H rfl (w := .ptr bb (0 + j * 7 + 4)) rfl ?_
 apply Tri.nil
 have hcell : h.cell bb (0 + j * 7 + 4) = some (.int .i64 (f.ss[j]).nx) := by
  rcases ss_view H (i := 1) rfl C.at_ with ⟨h1, _⟩ | ⟨b0, c, g, h1, h2⟩
  ·rw [h1] at hv; cases hv
  ·rw [h1] at hv; cases hv
   rw [Nat.zero_add, h2 j hjl 4 (by decide)]; rfl
 refine Tri.loadC hcell ?_
 rw [← C.fb]
 apply Tri.nil
 apply Tri.addr
 apply Tri.addr
 refine Tri.loadC (fn_cell H (i := 1) (o := 5) rfl C.at_ rfl) ?_
 apply bL
 refine lenSS H (i := 1) rfl C.at_ ?_
 apply Tri.bs
 rw [C.fb, C.len]
 refine Tri.geq (fun e => ?_) (fun e => ?_)
 ·apply Tri.ift
  apply Tri.nil
  refine C.setNx hv hjl H L fun h C H L => ?_
  refine te (next C (by show f.stV = _; rw [hv]; simp) (fun q s hq hd => ?_) (fun s hs => ?_) H) L
  ·rcases set_get hq with ⟨rfl, rfl⟩ | ⟨hne, hq⟩
   ·omega
   ·exact hc q s hq (by omega)
  ·rcases set_get hs with ⟨_, rfl⟩ | ⟨hne, _⟩
   ·show (-1 : Int) < m; omega
   ·exact (hne rfl).elim
 ·apply Tri.iff
  refine te (next C hv hc (fun s hs => ?_) H) L
  rw [hsj] at hs; cases hs
  exact e
end
section
variable {S S' S'' : Mem} {l F : List Asn} {h h0 : Hp} {ro : Bool} {Q : V → List Asn → Prop} {k : V → VH} {K : V → Hp → VH} {nds : List Nd} {n : Nd} {v nv : V} {X X' X'' : MS} {f f' : Fn} {i : Nat} {w : Nat → Nat} {b b' : Bk} {c c' : Cl} {wi : Wi}
theorem _root_.Go.Mid.Tri.eqlB {d : IntKind} {m n : Int} (hk : ∀ c : Bool, Tri h0 ro F Q (k (.bool c))) : Tri h0 ro F Q (intS .eql (.int d m) (.int d n) k) := Tri.eql (fun _ => hk true) (fun _ => hk false)
theorem add1 {p : Nat × Nat} {nm : Bs} {ln : Int} (I : Inv1 S X) (hp : ∃ fu, X.fu = fu ++ [p]) (H : St (frz S :: MK X :: l) h) :
 Tri h false l (rX S X 0 fun _ X' v => ∃ j f, v = .int .i64 j ∧ X'.fns[p.1]? = some f ∧ 0 ≤ j ∧ j < f.sl ∧ (X'.fe = 0 → X.fe = 0 ∧ ∀ f0, X.fns[p.1]? = some f0 → f.va.length = f0.va.length + 1)) (M 56 [.ptr X.mb 0, .str nm, .int .i64 ln] h) := by
 obtain ⟨f, T⟩ := I.top_ hp
 have hf := I.fns f (List.mem_of_getElem? T.at_)
 have hus := I.us f (List.mem_of_getElem? T.at_)
 have hpm : p ∈ X.fu := by obtain ⟨fu, hfu⟩ := hp; rw [hfu]; simp
 refine Tri.tail (sp56 T hf I.fault H) (Lo.refl _ _) (fun e => e) fun v h B hq H L => ?_
 rcases hq with ⟨fe, fl, rfl, rfl, hfe, h120⟩ | ⟨vaV, boV, bo, sl, rfl, rfl, b1, b2, b3, b4⟩
 ·obtain ⟨I1, E1⟩ := I.flt (fl := fl) hfe
  have h1 := hf.bo
  have h2 := hf.va
  exact ⟨_, ⟨S, _, rfl, I1, E1, Nat.le_refl _, 0, f, rfl, T.at_, by omega, by omega, fun e => absurd e hfe⟩, H⟩
 ·obtain ⟨I2, E2⟩ := I.putU (f' := { f with vaV := vaV, va := f.va ++ [nm], boV := boV, bo := bo, sl := sl }) X.u (Nat.le_refl _) T.at_
   ⟨b1, by simp; omega, by simp; omega, hf.um, fun t ht => (hf.ss t ht).mono (Le.refl _) b2 (Nat.le_refl _), fun j e he => ⟨(hf.es j e he).1, (hf.es j e he).2.1, (hf.es j e he).2.2.mono (Nat.le_refl _) (Nat.le_refl _) b2 (Nat.le_refl _)⟩⟩
   ⟨rfl, rfl, rfl, Nat.le_refl _, Nat.le_refl _, b2, Nat.le_refl _, by simp⟩ (fun hn => (hn p hpm rfl).elim) hus I.top
  exact ⟨_, ⟨S, { X with fns := X.fns.set p.1 { f with vaV := vaV, va := f.va ++ [nm], boV := boV, bo := bo, sl := sl }, u := X.u }, rfl, I2, E2, Nat.le_refl _, _, _, rfl, List.getElem?_set_self (List.getElem?_eq_some_iff.1 T.at_).1, by omega, by show (f.va.length : Int) < sl; omega, fun e => ⟨e, fun f0 h0 => by rw [T.at_] at h0; cases h0; simp⟩⟩, H⟩
theorem loop33 {p : Nat × Nat} {nb : Nat} {fv nf : V} {S0 : Mem} {X0 : MS} (hp : ∃ fu, X0.fu = fu ++ [p]) (hnv : FSl 1 (StrAt S0) n.nsV n.ns) (hns : n.ns.length ≤ 200)
 (hend : ∀ {S1 : Mem} {X1 : MS} {h1 : Hp}, Inv1 S1 X1 → Ext1 S0 X0 S1 X1 → X1.u ≤ X0.u → (X1.fe = 0 → ∀ f, X1.fns[p.1]? = some f → (n.ns.length : Int) ≤ f.va.length) → St (frz S1 :: MK X1 :: ndr nb n :: l) h1 →
   Tri h1 false F Q (M 33 [.ptr X1.mb 0, .ptr nb 0, fv, nf, n.nsV, .int .i64 (n.ns.length : Nat), .int .i64 (n.ns.length : Nat)] h1))
 (r : Nat) : ∀ {S : Mem} {X : MS} {h : Hp} {j : Int} (I : Inv1 S X) (E : Ext1 S0 X0 S X) (hu : X.u ≤ X0.u) (hva : X.fe = 0 → ∀ f, X.fns[p.1]? = some f → j ≤ (f.va.length : Int)) (h1 : 0 ≤ j) (h2 : j ≤ n.ns.length) (hm : (n.ns.length : Int) - j ≤ (r : Int)) (H : St (frz S :: MK X :: ndr nb n :: l) h),
 Tri h false F Q (M 33 [.ptr X.mb 0, .ptr nb 0, fv, nf, n.nsV, .int .i64 (n.ns.length : Nat), .int .i64 j] h) := by
 induction r with
 | zero =>
  intro S X h j I E hu hva h1 h2 hm H
  obtain rfl : j = (n.ns.length : Nat) := by omega
  exact hend I E hu hva H
 | succ r ih =>
  intro S X h j I E hu hva h1 h2 hm H
  by_cases hlt : j < (n.ns.length : Int)
  ·have hnv' : FSl 1 (StrAt S) n.nsV n.ns := FSl.mono hnv fun b o a h => E.le _ _ _ h
   have hp' : ∃ fu, X.fu = fu ++ [p] := by rw [E.fu]; exact hp
   clear hnv
   unfold ndr at H
   refine t7 e33 fun L => ?_
   unfold B33
   refine Tri.lss (fun e => ?_) (fun e => by omega)
   apply Tri.ift
   refine FSl.idx (by assumption) (by omega) (by omega) fun b1 o1 hb1 => ?_
   have hc1 := hb1
   clear hc1
   refine Tri.loadF 0 H rfl (by assumption) ?_
   apply Tri.addr
   refine Tri.load 2 H rfl rfl ?_
   refine tb (add1 I hp' H) L fun v h B hq H L => ?_
   obtain ⟨S1, X1, rfl, I1, E1, u1, q, f1, rfl, t1, q1, q2, q3⟩ := hq
   rw [← E1.mb]
   refine Tri.addN (by omega) (by omega) ?_
   obtain ⟨f0, T0⟩ := I.top_ hp'
   refine te (ih (j := j + 1) I1 (E.trans E1) (by omega) (fun e g hg => ?_) (by omega) (by omega) (by omega) H) L
   rw [t1] at hg; cases hg
   have h5 := (q3 e).2 f0 T0.at_
   have h6 := hva (q3 e).1 f0 T0.at_
   omega
  ·obtain rfl : j = (n.ns.length : Nat) := by omega
   exact hend I E hu hva H
theorem k37 {S0 : Mem} {X0 : MS} {p : Nat × Nat} {m : Nat} {fu : List (Nat × Nat)} {a6 : V} (hfu : X0.fu = fu ++ [p]) (r : Nat) : ∀ {X : MS} {f : Fn} {h : Hp} {j : Nat} (C : Cl0 S0 X0 p m S X f) (hc : Cut m f j) (hj : j ≤ m) (hr : m - j ≤ r) (H : St (frz S :: MK X :: l) h),
 Tri h false l (fun v B => v = a6 ∧ ∃ X2 f fuV, B = [frz S, MK (X2.pop fuV fu)] ∧ Cl0 S0 X0 p m S X2 f ∧ Cut m f m) (M 37 [.ptr X0.mb 0, .ptr p.2 0, a6, .int .i64 (m : Nat), .int .i64 (j : Nat)] h) := by
 induction r with
 | zero =>
  intro X f h j C hc hj hr H
  obtain rfl : j = m := by omega
  have hX : X.fu = fu ++ [p] := by rw [C.E.fu]; exact hfu
  have hl : X.fu.length = fu.length + 1 := by rw [hX]; simp
  have huf := C.I.uf
  have htop := C.I.top
  refine t5 e37 fun L => ?_
  unfold B37
  refine Tri.lss (fun e => by omega) (fun e => ?_)
  apply Tri.iff
  rw [← C.E.mb]
  replace H := openM H
  apply Tri.nil
  apply Tri.addr
  refine Tri.load 1 H rfl rfl ?_
  apply Tri.nil
  apply Tri.addr
  refine Tri.load 1 H rfl rfl ?_
  apply bL
  refine Tri.lenV 4 X.fu.length H rfl (by decide) (ptrs_len _) ?_
  apply Tri.bs
  refine Tri.subN (by omega) (by omega) ?_
  rw [show ((X.fu.length : Nat) : Int) - 1 = (fu.length : Nat) by omega]
  refine Tri.cutV 4 X.fu.length fu.length H rfl (by decide) (ptrs_len _) (by omega) fun v' H hO o1 => ?_
  have e1 : (ptrs X.fu).take (fu.length * 1) = ptrs fu := by rw [hX]; simp [ptrs]
  replace H : St (_ :: _ :: _ :: _ :: vc true v' 65 1 ((ptrs X.fu).take (fu.length * 1)) :: _) _ := H
  rw [e1] at H
  apply Tri.nil
  apply Tri.addr
  refine sto 1 H rfl rfl L (by first | rfl | assumption) fun h H L => ?_
  exact Tri.done (B := [frz S, MK (X.pop v' fu)]) ⟨rfl, X, f, v', rfl, C, hc⟩ (closeM (X := X.pop v' fu) H) L
 | succ r ih =>
  intro X f h j C hc hj hr H
  by_cases hlt : j < m
  ·have hsm := C.sm
   rcases ss_view H (i := 1) rfl C.at_ with ⟨_, h2⟩ | ⟨bb, cc, g, hv, _⟩
   ·have := C.len; rw [h2] at this; simp at this; omega
   refine t5 e37 fun L => ?_
   unfold B37
   refine Tri.lss (fun e => ?_) (fun e => by omega)
   apply Tri.ift
   rw [← C.fb]
   apply Tri.nil
   apply Tri.addr
   apply Tri.addr
   refine Tri.loadC (fn_cell H (i := 1) (o := 5) rfl C.at_ rfl) ?_
   rw [hv]
   refine Tri.idx (by omega) (by rw [C.len]; omega) ?_
   rw [Int.toNat_natCast]
   apply Tri.nil
   apply Tri.addr
   apply Tri.nil
   apply Tri.addr
   refine Tri.drawBld H L (fun _ => rfl) rfl fun b34 h hb34 H L => ?_
   replace H := H.d2
   apply bL
   refine Tri.lenSl ?_
   apply Tri.bs
   rw [C.fb]
   exact te (k39_0 (F := l) (Q := fun v B => v = a6 ∧ ∃ X2 f fuV, B = [frz S, MK (X2.pop fuV fu)] ∧ Cl0 S0 X0 p m S X2 f ∧ Cut m f m) C hv hlt hc (fun {X f h} C hc H => ih (j := j + 1) C hc (by omega) (by omega) H) H) L
  ·obtain rfl : j = m := by omega
   exact ih C hc hj (by omega) H
theorem Inv1.st {p : Nat × Nat} (I : Inv1 S X) (hp : p ∈ X.fu) (hi : X.fns[p.1]? = some f) : Inv1 S { X with fns := X.fns.set p.1 { f with st := -1 }, u := X.u } := by
 obtain ⟨hlt, _⟩ := List.getElem?_eq_some_iff.1 hi
 have hlen : ({ X with fns := X.fns.set p.1 { f with st := -1 }, u := X.u } : MS).fns.length = X.fns.length := List.length_set
 have hof : ∀ (j : Nat) (g : Fn), (X.fns.set p.1 { f with st := -1 })[j]? = some g → (j = p.1 ∧ g = { f with st := -1 }) ∨ (j ≠ p.1 ∧ X.fns[j]? = some g) := fun j g h => set_get h
 have hto : ∀ (j : Nat) (g : Fn), X.fns[j]? = some g → ∃ g', (X.fns.set p.1 { f with st := -1 })[j]? = some g' ∧ g'.fb = g.fb ∧ g'.ss = g.ss := fun j g h => by
  by_cases e : j = p.1
  ·subst e; rw [hi] at h; cases h; exact ⟨_, List.getElem?_set_self hlt, rfl, rfl⟩
  ·exact ⟨g, by rw [List.getElem?_set_ne (Ne.symm e)]; exact h, rfl, rfl⟩
 refine ⟨fun g hg => ?_, fun q hq => ?_, fun q hq g hg => ?_, fun j g hg hj => ?_, fun w hw => ?_, I.lbs, fun c hc => ⟨by rw [hlen]; exact (I.cls c hc).1, fun g hg => ?_⟩, I.map, I.fault, by rw [hlen]; exact I.u, fun g hg => ?_, I.ub, I.uc, I.uf, I.top⟩
 ·rw [hlen]
  rcases mem_set hg with h | h
  ·subst h
   have := I.fns f (List.mem_of_getElem? hi)
   exact ⟨this.bo, this.va, this.vm, this.um, this.ss, this.es⟩
  ·exact I.fns g h
 ·obtain ⟨g, h1, h2⟩ := I.fu q hq
  obtain ⟨g', h3, h4, _⟩ := hto _ g h1
  exact ⟨g', h3, by rw [h4, h2]⟩
 ·rcases hof _ g hg with ⟨h1, h2⟩ | ⟨_, h2⟩
  ·have := I.opn q hq f (by rw [h1]; exact hi)
   subst h2
   exact ⟨this.all, this.ord⟩
  ·have := I.opn q hq g h2
   exact ⟨this.all, this.ord⟩
 ·rcases hof _ g hg with ⟨h1, h2⟩ | ⟨_, h2⟩
  ·exact (hj p hp h1.symm).elim
  ·exact I.fin j g h2 hj
 ·obtain ⟨g, h1, h2, h3⟩ := (I.go w hw).f
  obtain ⟨g', h4, h5, h6⟩ := hto _ g h1
  exact ⟨⟨g', h4, by rw [h5, h2], by rw [h6]; exact h3⟩, (I.go w hw).inn, (I.go w hw).v⟩
 ·rcases hof _ g hg with ⟨h1, h2⟩ | ⟨_, h2⟩
  ·subst h2
   exact (I.cls c hc).2 f (by rw [h1]; exact hi)
  ·exact (I.cls c hc).2 g h2
 ·rcases mem_set hg with h | h
  ·subst h; exact I.us f (List.mem_of_getElem? hi)
  ·exact I.us g h
theorem pop_pop {S2 : Mem} {Y X4 : MS} {a b : V} {fu : List (Nat × Nat)} (E : Ext1 S Y S2 X4) : Ext1 S (Y.pop a fu) S2 (X4.pop b fu) := ⟨E.le, E.fe, E.mb, E.nv, rfl, E.fns, E.nst, E.bks, E.cls, E.u⟩
abbrev PEnd (S : Mem) (X : MS) (p : Nat × Nat) (u : Nat) (a6 : V) : V → List Asn → Prop := fun v B => v = a6 ∧ ∃ S2 X2 fuV f, B = [frz S2, MK (X2.pop fuV X.fu)] ∧ Ext1 S X S2 (X2.pop fuV X.fu) ∧ X2.u ≤ u ∧ X2.fns[p.1]? = some f ∧ X2.fu = X.fu ++ [p] ∧ Inv1 S2 X2 ∧ FnDone f ∧ (X2.fe = 0 → f.pa ≤ f.sl)
theorem k33_end {fb nb : Nat} {pa k0 : Int} {more : Bool} {fuV0 dnV0 : V} {a6 : V} {X0 : MS} (hX0 : X0 = X.newF fb pa more fuV0 dnV0) (hs : Shape n) (hB : ∀ k ∈ n.ks, BSpec nds w k) (hk0 : n.ks[0]? = some k0) (hpa : pa = n.ns.length)
 {S1 : Mem} {X1 : MS} {h : Hp} (I : Inv1 S1 X1) (E : Ext1 S X0 S1 X1) (x : NdIn S1 n) (hn : NdsIn S1 X1.nv nds) (hva : X1.fe = 0 → ∀ f, X1.fns[X.fns.length]? = some f → (n.ns.length : Int) ≤ f.va.length) (hu : X1.u + (8 * w k0.toNat - 7) ≤ 100000) (H : St (frz S1 :: MK X1 :: ndr nb n :: l) h) :
 Tri h false l (PEnd S X (X.fns.length, fb) (X1.u + (8 * w k0.toNat - 7)) a6) (M 33 [.ptr X1.mb 0, .ptr nb 0, .ptr fb 0, a6, n.nsV, .int .i64 (n.ns.length : Nat), .int .i64 (n.ns.length : Nat)] h) := by
 have hmem : k0 ∈ n.ks := List.mem_of_getElem? hk0
 have hfu : X0.fu = X.fu ++ [(X.fns.length, fb)] := by rw [hX0]; rfl
 have hat0 : X0.fns[X.fns.length]? = some (fn0 fb pa more) := by
  rw [hX0]
  show (X.fns ++ [_])[X.fns.length]? = _
  rw [List.getElem?_append_right (Nat.le_refl _), Nat.sub_self]; rfl
 have hpop : ∀ {S2 : Mem} {X2 : MS} {fuV : V}, Ext1 S X0 S2 X2 → Ext1 S X S2 (X2.pop fuV X.fu) := fun {S2 X2 fuV} e => pop_ext (by rw [hX0] at e; exact e)
 obtain ⟨p, hp⟩ : ∃ p : Nat × Nat, p = (X.fns.length, fb) := ⟨_, rfl⟩
 have hp1' : X.fns.length = p.1 := by rw [hp]
 have hfbp : fb = p.2 := by rw [hp]
 rw [hp1'] at hat0 hva
 rw [← hp] at hfu ⊢
 have hp1 : ∃ fu, X1.fu = fu ++ [p] := ⟨X.fu, by rw [E.fu]; exact hfu⟩
 have hkl := (List.getElem?_eq_some_iff.1 hk0).1
 have hk0' : n.ks[(0 : Int).toNat]'(by show 0 < _; omega) = k0 := (List.getElem?_eq_some_iff.1 hk0).2
 have hks := x.ks
 clear hX0
 unfold ndr at H
 refine t7 e33 fun L => ?_
 unfold B33
 refine Tri.lss (fun e => by omega) (fun e => ?_)
 apply Tri.iff
 apply Tri.addr
 refine Tri.load 2 H rfl rfl ?_
 refine FSl.idx hks (by decide) (by omega) fun b0 o0 hb0 => ?_
 rw [hk0'] at hb0
 refine Tri.loadF 0 H rfl hb0 ?_
 refine tb (hB k0 hmem (lp := none) I hp1 hn hu (fun c e => nomatch e) H) L fun v h B hq H L => ?_
 obtain ⟨S2, X2, rfl, I2, E2, u2, rfl⟩ := hq
 have E02 := E.trans E2
 have hfu2 : X2.fu = X.fu ++ [p] := by rw [E02.fu]; exact hfu
 have hp2 : ∃ fu, X2.fu = fu ++ [p] := ⟨X.fu, hfu2⟩
 obtain ⟨f1, T1⟩ := I.top_ hp1
 obtain ⟨f2, T2⟩ := I2.top_ hp2
 obtain ⟨g2, ga, gb⟩ := E02.fns _ _ hat0
 rw [T2.at_] at ga; cases ga
 obtain ⟨g3, gc, gd⟩ := E2.fns _ f1 T1.at_
 rw [T2.at_] at gc; cases gc
 have hst2 : f2.st = 0 := gb.st
 have hpa2 : f2.pa = n.ns.length := by rw [gb.pa]; exact hpa
 have hm1 := I.fns f1 (List.mem_of_getElem? T1.at_)
 have hsl2 : X2.fe = 0 → f2.pa ≤ f2.sl := fun e => by
  have h1 := hva (E2.fe e) f1 T1.at_
  have h2 := hm1.bo
  have h3 := hm1.va
  have h4 := gd.sl
  omega
 have hus2 := T2.us
 have hpm : p ∈ X2.fu := by rw [hfu2]; simp
 replace H := H.x2
 have hfb2 : fb = f2.fb := by rw [T2.fb, hfbp]
 rw [hfb2]
 apply Tri.nil
 apply Tri.addr
 apply Tri.addr
 refine Tri.loadC (fn_cell H (i := 1) (o := 5) rfl T2.at_ rfl) ?_
 apply bL
 refine lenSS H (i := 1) rfl T2.at_ ?_
 apply Tri.bs
 have k35 : ∀ {Y X3 : MS} {f : Fn} {h : Hp}, (∀ fuV, Ext1 S X S2 (Y.pop fuV X.fu)) → Y.mb = X2.mb → Y.fu = X2.fu → Y.u = X2.u → Cl0 S2 Y p f2.ss.length S2 X3 f → St (frz S2 :: MK X3 :: l) h → Tri h false l (PEnd S X p (X1.u + (8 * w k0.toNat - 7)) a6) (M 35 [.ptr X2.mb 0, .ptr p.2 0, a6] h) := by
  intro Y X3 f h EY hmbY hfuY huY C H
  refine t3 e35 fun L => ?_
  unfold B35
  rw [← C.fb]
  apply Tri.nil
  apply Tri.addr
  apply Tri.addr
  refine Tri.loadC (fn_cell H (i := 1) (o := 5) rfl C.at_ rfl) ?_
  apply bL
  refine lenSS H (i := 1) rfl C.at_ ?_
  apply Tri.bs
  rw [C.fb, C.len, ← hmbY]
  refine Tri.tail (k37 (a6 := a6) (fu := X.fu) (by rw [hfuY]; exact hfu2) f2.ss.length (j := 0) C (fun i s _ hi => absurd hi (Nat.not_lt_zero _)) (Nat.zero_le _) (by omega) H) L (fun e => e) fun v h B hq H L => ?_
  obtain ⟨rfl, X4, f4, fuV, rfl, C4, hc4⟩ := hq
  refine ⟨_, ⟨rfl, S2, X4, fuV, f4, rfl, (EY fuV).trans (pop_pop C4.E), by have := C4.u; omega, C4.at_, by rw [C4.E.fu, hfuY]; exact hfu2, C4.I, ⟨fun s hs => ?_, C4.st⟩, C4.sl⟩, H⟩
  obtain ⟨q, hq⟩ := List.mem_iff_getElem?.1 hs
  have hq2 := (List.getElem?_eq_some_iff.1 hq).1
  rw [C4.len] at hq2 ⊢
  exact hc4 q s hq hq2
 have emb : X1.mb = X2.mb := E2.mb.symm
 refine Tri.eql (fun e => ?_) (fun e => ?_)
 ·apply Tri.ift
  have hnil : f2.ss = [] := List.eq_nil_of_length_eq_zero (by omega)
  replace H := openF H T2.at_
  apply Tri.nil
  apply Tri.addr
  apply Tri.addr
  refine sto 0 H rfl rfl L (by first | rfl | assumption) fun h H L => ?_
  have H3 := closeF (f' := { f2 with st := -1 }) T2.at_ rfl H X2.u
  have I3 := I2.st hpm T2.at_
  have C3 : Cl0 S2 { X2 with fns := X2.fns.set p.1 { f2 with st := -1 }, u := X2.u } p f2.ss.length S2 { X2 with fns := X2.fns.set p.1 { f2 with st := -1 }, u := X2.u } { f2 with st := -1 } := ⟨I3, Ext1.refl _ _, Nat.le_refl _, hp2, List.getElem?_set_self (List.getElem?_eq_some_iff.1 T2.at_).1, T2.fb, rfl, hus2.1, .inr ⟨rfl, hnil⟩, hsl2⟩
  rw [T2.fb, emb]
  refine te (k35 (Y := { X2 with fns := X2.fns.set p.1 { f2 with st := -1 }, u := X2.u }) (fun fuV => ?_) rfl rfl rfl C3 H3) L
  have E5 := hpop (fuV := fuV) E02
  refine ⟨E5.le, E5.fe, E5.mb, E5.nv, rfl, fun j g hg => ?_, E5.nst, E5.bks, E5.cls, E5.u⟩
  obtain ⟨g', h1, h2⟩ := E5.fns j g hg
  have hne : p.1 ≠ j := fun e => by
   have := (List.getElem?_eq_some_iff.1 hg).1
   omega
  exact ⟨g', (List.getElem?_set_ne hne).trans h1, h2⟩
 ·apply Tri.iff
  rw [T2.fb, emb]
  exact te (k35 (fun fuV => hpop E02) rfl rfl rfl ⟨I2, Ext1.refl S2 X2, Nat.le_refl _, hp2, T2.at_, T2.fb, rfl, hus2.1, .inl hst2, hsl2⟩ H) L
theorem fun_ok (hs : Shape n) (hkd : n.kd = 26) (hB : ∀ k ∈ n.ks, BSpec nds w k) : FSpec nds w n := by
 intro S X h l I hn x hu H
 have hone := x.one
 have hus := I.u
 have huf := I.uf
 refine t2 e30 fun L => ?_
 unfold B30
 refine Tri.newS H L fun b0 h hb0 H L => ?_
 replace H := H.d2
 apply Tri.nil
 apply Tri.addr
 replace H := openM H
 refine Tri.load 1 H rfl rfl ?_
 apply bL
 refine Tri.lenV 5 X.fns.length H rfl (by decide) (by simp) ?_
 apply Tri.bs
 refine Tri.eql (fun e => ?_) (fun e => ?_)
 ·replace H := closeM (X := X) H
  apply Tri.ift
  apply Tri.addr
  refine Tri.load 2 H rfl rfl ?_
  refine tb (sp54 H (by decide) I.fault) L fun v h B hq H L => ?_
  obtain ⟨rfl, fe, fl, rfl, hfe⟩ := hq
  obtain ⟨I2, E2⟩ := I.flt (fl := fl) hfe
  exact Tri.done (B := [frz S, MK _]) ⟨S, _, rfl, I2, E2, by show X.u ≤ _; omega, 0, rfl, by omega, by show (0 : Int) < (X.fns.length : Nat); omega⟩ H.x2 L
 ·have hnv := x.ns
  apply Tri.iff
  apply Tri.addr
  refine Tri.load 10 H rfl rfl ?_
  apply bL
  refine FSl.len (by assumption) ?_
  apply Tri.bs
  apply Tri.addr
  refine Tri.load 10 H rfl rfl ?_
  refine Tri.eqlB fun more => ?_
  refine Tri.bldS rfl ?_
  refine Tri.bldS rfl ?_
  refine Tri.newS H L fun b42 h hb42 H L => ?_
  replace H := H.d1
  apply Tri.nil
  apply Tri.addr
  refine Tri.load 2 H rfl rfl ?_
  apply bL
  refine Tri.lenV 6 X.fns.length H rfl (by decide) (by simp) ?_
  apply Tri.bs
  apply Tri.nil
  apply Tri.addr
  refine Tri.load 2 H rfl rfl ?_
  refine Tri.bld (e := _) (s := _) H L rfl rfl fun b54 h hb54 H L => ?_
  replace H := H.d1
  have htop := I.top
  refine Tri.app 7 X.fns.length 1 H rfl (H.newCells (i := 1) rfl rfl) (by decide) (by simp) rfl (by omega) (by omega) rfl L (Own.off _ _) fun v' h H L O o1 => ?_
  replace H := H.x1
  apply Tri.nil
  apply Tri.addr
  refine sto 2 H rfl rfl L (by first | rfl | assumption) fun h H L => ?_
  apply Tri.nil
  apply Tri.addr
  refine Tri.load 2 H rfl rfl ?_
  refine Tri.bld (e := _) (s := _) H L rfl rfl fun b66 h hb66 H L => ?_
  replace H := H.d1
  refine Tri.app 6 X.fu.length 1 H rfl (H.newCells (i := 1) rfl rfl) (by decide) (by rw [ptrs_len, Nat.mul_one]) rfl (by omega) (by omega) rfl L (Own.off _ _) fun v2 h H L O o2 => ?_
  replace H := H.x1
  apply Tri.nil
  apply Tri.addr
  refine sto 2 H rfl rfl L (by first | rfl | assumption) fun h H L => ?_
  apply Tri.addr
  refine Tri.load 11 H rfl rfl ?_
  apply bL
  refine FSl.len (by assumption) ?_
  apply Tri.bs
  have e1 : X.fns.map (fun f => V.ptr f.fb 0) ++ (V.ptr b42 0 :: [].append []) = (X.fns ++ [fn0 b42 n.ns.length more]).map fun f => .ptr f.fb 0 := by rw [List.map_append]; rfl
  have e2 : ptrs X.fu ++ (V.ptr b42 0 :: [].append []) = ptrs (X.fu ++ [(X.fns.length, b42)]) := by unfold ptrs; rw [List.map_append]; rfl
  replace H : St (_ :: _ :: _ :: _ :: _ :: vc true v2 65 1 (ptrs X.fu ++ (V.ptr b42 0 :: [].append [])) :: vc true v' 65 1 (X.fns.map (fun f => V.ptr f.fb 0) ++ (V.ptr b42 0 :: [].append [])) :: _) _ := H
  rw [e1, e2] at H
  replace H := addFn (X := X) (fb := b42) (pa := n.ns.length) (more := more) (fuV := v2) (dnV := v') ((H.out 1).ins 10)
  have I1 := I.newF (fb := b42) (pa := n.ns.length) (more := more) (fuV := v2) (dnV := v') (by omega)
  have hk1 : 0 < n.ks.length := hs.e.1 hkd
  have hk0 : n.ks[0]? = some n.ks[0] := List.getElem?_eq_getElem hk1
  have hw0 := le_sumW w (List.getElem_mem hk1)
  have hX0 : ∃ X0 : MS, X0 = X.newF b42 n.ns.length more v2 v' := ⟨_, rfl⟩
  obtain ⟨X0, hX0⟩ := hX0
  have e0 : X0.u = X.u + 1 := by rw [hX0]; rfl
  have emb : X0.mb = X.mb := by rw [hX0]; rfl
  have env : X0.nv = X.nv := by rw [hX0]; rfl
  have efu : X0.fu = X.fu ++ [(X.fns.length, b42)] := by rw [hX0]; rfl
  rw [← hX0] at H I1
  rw [← emb]
  refine Tri.tail (loop33 (p := (X.fns.length, b42)) (S0 := S) (X0 := X0) (F := l) (Q := PEnd S X (X.fns.length, b42) (X0.u + (8 * w (n.ks[0]).toNat - 7)) (.int .i64 (X.fns.length : Nat))) ⟨X.fu, efu⟩ hnv (hs.e.2.2.2.2.2 hkd) (fun {S1 X1 h1} I2 E2 u2 hva H => ?_) n.ns.length (j := 0) I1 (Ext1.refl S X0) (Nat.le_refl _) (fun _ f _ => by omega) (by omega) (by omega) (by omega) H) L (fun e => e) fun v h B hq H L => ?_
  ·have := k33_end (a6 := .int .i64 (X.fns.length : Nat)) (fb := b42) hX0 hs hB hk0 rfl I2 E2 (x.le E2.le) (by rw [E2.nv, env]; exact ndsIn_le hn E2.le) hva (by omega) H
   exact this.mono fun v B ⟨hv, S2, X2, fuV, f, q1, q2, q3, q4⟩ => ⟨hv, S2, X2, fuV, f, q1, q2, by omega, q4⟩
  ·obtain ⟨rfl, S2, X2, fuV, f, rfl, E2, u2, at2, fu2, I2, hD, hsl⟩ := hq
   have I3 := I2.pop (fuV := fuV) fu2 at2 ⟨hD, hsl⟩
   have hlt := (List.getElem?_eq_some_iff.1 at2).1
   exact ⟨_, ⟨S2, _, rfl, I3, E2, by show X2.u ≤ _; omega, _, rfl, by omega, by show (X.fns.length : Int) < (X2.fns.length : Nat); have : X.fns.length < X2.fns.length := hlt; omega⟩, H⟩
end
section
variable {nds : List Nd} {n : Nd} {w : Nat → Nat}
def wF (nds : List Nd) : Nat → Nat → Nat
 | 0, _ => 0
 | m + 1, i => match nds[i]? with
  | some n => 1 + sumW (wF nds m) n.ks
  | none => 0
theorem sumW_congr {w w' : Nat → Nat} : ∀ {ks : List Int}, (∀ k ∈ ks, w k.toNat = w' k.toNat) → sumW w ks = sumW w' ks
 | [], _ => rfl
 | k :: ks, h => by
  have h1 := h k (List.mem_cons_self ..)
  have h2 := sumW_congr (ks := ks) fun q hq => h q (List.mem_cons_of_mem _ hq)
  unfold sumW at h2 ⊢
  rw [List.map_cons, List.sum_cons, List.map_cons, List.sum_cons, h1, h2]
theorem wF_same {t : Nat → Nat} (g : GoodN nds t) : ∀ (m m' i : Nat), t i < m → t i < m' → wF nds m i = wF nds m' i
 | 0, _, _, h, _ => absurd h (Nat.not_lt_zero _)
 | _, 0, _, _, h => absurd h (Nat.not_lt_zero _)
 | m + 1, m' + 1, i, h, h' => by
  simp only [wF]
  cases hn : nds[i]? with
  | none => rfl
  | some n =>
   simp only
   rw [sumW_congr fun k hk => ?_]
   have := (g.kids i n hn k hk).2.2
   exact wF_same g m m' k.toNat (by omega) (by omega)
theorem exists_w {t : Nat → Nat} (g : GoodN nds t) : ∃ w, IsW nds w := by
 refine ⟨fun i => wF nds (t i + 1) i, fun i n hn => ?_⟩
 have e : wF nds (t i + 1) i = 1 + sumW (wF nds (t i)) n.ks := by simp only [wF, hn]
 show wF nds (t i + 1) i = 1 + sumW (fun i => wF nds (t i + 1) i) n.ks
 rw [e, sumW_congr (w := wF nds (t i)) (w' := fun i => wF nds (t i + 1) i) fun k hk => ?_]
 have := (g.kids i n hn k hk).2.2
 exact wF_same g _ _ _ (by omega) (by omega)
theorem len_sumW : ∀ {ks : List Int}, (∀ k ∈ ks, 1 ≤ w k.toNat) → ks.length ≤ sumW w ks
 | [], _ => Nat.zero_le _
 | k :: ks, h => by
  have h1 := h k (List.mem_cons_self ..)
  have h2 := len_sumW (ks := ks) fun q hq => h q (List.mem_cons_of_mem _ hq)
  have e : sumW w (k :: ks) = w k.toNat + sumW w ks := by unfold sumW; rw [List.map_cons, List.sum_cons]
  rw [e, List.length_cons]; omega
structure AllOk (nds : List Nd) (w : Nat → Nat) (q : Int) : Prop where
 e : ESpec nds w q
 k : KSpec nds w q
 b : BInfo nds w q
 w1 : 1 ≤ w q.toNat
theorem all_ok {t : Nat → Nat} (g : GoodN nds t) (hw : IsW nds w) (m : Nat) : ∀ (k : Int) (n : Nd), 0 ≤ k → nds[k.toNat]? = some n → t k.toNat < m → AllOk nds w k ∧ (n.kd = 26 → FSpec nds w n) := by
 induction m with
 | zero => intro k n _ _ h; exact absurd h (Nat.not_lt_zero _)
 | succ m ih =>
  intro k n h0 hn hm
  have hkids : ∀ q ∈ n.ks, AllOk nds w q := fun q hq => by
   obtain ⟨q0, q1, q2⟩ := g.kids _ n hn q hq
   exact (ih q (nds[q.toNat]'(by omega)) q0 (List.getElem?_eq_getElem _) (by omega)).1
  have hs := g.shape _ n hn
  have hwk := hw _ n hn
  have hw1 : ∀ q ∈ n.ks, 1 ≤ w q.toNat := fun q hq => (hkids q hq).w1
  have hlen := len_sumW hw1
  have hB : ∀ q ∈ n.ks, BSpec nds w q := fun q hq => (hkids q hq).b.spec
  have hE : ∀ q ∈ n.ks, ESpec nds w q := fun q hq => (hkids q hq).e
  have hF : n.kd = 26 → FSpec nds w n := fun h26 => fun_ok hs h26 hB
  refine ⟨⟨?_, ?_, ⟨n, hn, h0, fun q hq => ⟨(g.kids _ n hn q hq).1, (g.kids _ n hn q hq).2.1⟩, fun q hq => (hkids q hq).k, by omega⟩, by omega⟩, hF⟩
  ·rcases Nat.lt_or_ge 100000 n.ks.length with hl | hl
   ·intro S X p h l I hp hn hu H
    omega
   ·exact expr_ok hn h0 hE hF (by omega) hl
  ·intro n' hn'
   rw [hn] at hn'; cases hn'
   refine ⟨by omega, fun h15 => ?_⟩
   rcases Nat.lt_or_ge 100000 n.ks.length with hl | hl
   ·intro S X p h l I hp hn x hu H
    omega
   ·rw [hwk]
    exact stat_ok hs h15 hE hB (fun hk => loop_ok hs hk hE (fun q hq => (hkids q hq).b) hw1 hl) (fun hk => branches_ok hs.ln hE hB hw1 hl) hl
theorem root_ok {root : Int} (R : RightS nds root) : ∃ w n, nds[root.toNat]? = some n ∧ FSpec nds w n ∧ 1 + sumW w n.ks ≤ 4096 := by
 obtain ⟨⟨t, g⟩, hr⟩ := R.good
 obtain ⟨w, hw⟩ := exists_w g
 have h0 := R.r0
 have h1 := R.r1
 have hn : nds[root.toNat]? = some (nds[root.toNat]'(by omega)) := List.getElem?_eq_getElem _
 have h2 := hr w hw
 have h3 := hw _ _ hn
 have h4 := R.len
 exact ⟨w, _, hn, (all_ok g hw _ root _ h0 hn (Nat.lt_succ_self _)).2 (R.kd _ hn), by omega⟩
end
end Go.FP
end
