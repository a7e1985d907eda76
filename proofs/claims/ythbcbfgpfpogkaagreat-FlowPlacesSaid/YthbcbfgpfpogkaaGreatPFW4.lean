/- A part of the proof. -/
import Derived.Test.YthbcbfgpfpogkaaGreatPFW3
set_option linter.all false
set_option warn.classDefReducibility false
noncomputable section
section
open Go Go.Mid Go.Proofs
set_option maxRecDepth 100000
namespace Go.FP
section
variable {S : Mem} {l F : List Asn} {h h0 : Hp} {ro : Bool} {Q : V → List Asn → Prop} {k : V → VH} {nds : List Nd} {n : Nd} {v nv : V}
theorem sp100 {root : Int} (H : St (frz S :: l) h) (hn : NdsIn S nv nds) (x : NdIn S n) (hk : KidsIn nds n) (h3 : (n.ks.length : Int) ≤ 4611686018427387904) : Tri h true l (rP S fun b => b = true → ShE n) (M 100 [.agg [nv, .int .i64 root], n.V] h) := by
 refine t2 e100 fun L => ?_
 unfold B100
 have hks := x.ks
 refine Tri.newS H L fun b0 h hb0 H L => ?_
 replace H := H.d1
 refine Tri.newS H L fun b1 h hb1 H L => ?_
 replace H := H.d1
 apply Tri.addr
 refine Tri.load 1 H rfl rfl ?_
 apply bL
 refine FSl.len (by assumption) ?_
 apply Tri.bs
 apply Tri.addr
 refine Tri.load 1 H rfl rfl ?_
 refine Tri.eql (fun e9 => ?_) (fun e9 => ?_)
 ·apply Tri.ift
  refine te1 (sp71 H (by first|omega|assumption|rfl|decide) (by first|omega|assumption|rfl|decide) (by first|omega|assumption|rfl|decide) (by first|omega|assumption|rfl|decide) (by first|omega|assumption|rfl|decide)) L
 ·apply Tri.iff
  refine Tri.eql (fun e11 => ?_) (fun e11 => ?_)
  ·apply Tri.ift
   refine te1 (sp71 H (by first|omega|assumption|rfl|decide) (by first|omega|assumption|rfl|decide) (by first|omega|assumption|rfl|decide) (by first|omega|assumption|rfl|decide) (by first|omega|assumption|rfl|decide)) L
  ·apply Tri.iff
   refine Tri.eql (fun e13 => ?_) (fun e13 => ?_)
   ·apply Tri.ift
    refine te1 (sp71 H (by first|omega|assumption|rfl|decide) (by first|omega|assumption|rfl|decide) (by first|omega|assumption|rfl|decide) (by first|omega|assumption|rfl|decide) (by first|omega|assumption|rfl|decide)) L
   ·apply Tri.iff
    refine Tri.eql (fun e15 => ?_) (fun e15 => ?_)
    ·refine te1 (sp71 H (by first|omega|assumption|rfl|decide) (by first|omega|assumption|rfl|decide) (by first|omega|assumption|rfl|decide) (by first|omega|assumption|rfl|decide) (by first|omega|assumption|rfl|decide)) L
    ·exact te (sp71 H hn x hk h3 (by simp; try omega)) L
theorem sp48 {i lev : Int} (H : St (frz S :: l) h) (x : NdIn S n) : Tri h true l (rI S) (M 48 [n.V, .int .i64 i, .int .i64 lev] h) := by
 have sp55 : ∀ {h : Hp} {l : List Asn} (H : St (frz S :: l) h), Tri h true l (rI S) (M 55 [.int .i64 lev] h) := by
  intro h l H
  refine t1 e55 fun L => ?_
  unfold B55
  refine Tri.add ?_
  exact dI H L
 have sp59 : ∀ {b : Bool} {h : Hp} {l : List Asn} (H : St (frz S :: l) h), Tri h true l (rI S) (M 59 [.int .i64 lev, .bool b] h) := by
  intro b h l H
  refine t2 e59 fun L => ?_
  unfold B59
  cases b
  ·apply Tri.iff
   exact te (sp55 H) L
  ·apply Tri.ift
   exact dI H L
 have sp57 : ∀ {b : Bool} {h : Hp} {l : List Asn} (H : St (frz S :: l) h), Tri h true l (rI S) (M 57 [.int .i64 i, .int .i64 lev, .int .u8 n.kd, .bool b] h) := by
  intro b h l H
  refine t4 e57 fun L => ?_
  unfold B57
  cases b
  ·apply Tri.iff
   refine Tri.eql (fun e1 => ?_) (fun e1 => ?_)
   ·apply Tri.ift
    exact te (sp59 H) L
   ·apply Tri.iff
    exact te (sp59 H) L
  ·apply Tri.ift
   refine Tri.eql (fun e1 => ?_) (fun e1 => ?_)
   ·apply Tri.ift
    exact dI H L
   ·apply Tri.iff
    exact te (sp55 H) L
 refine t3 e48 fun L => ?_
 unfold B48
 refine Tri.newS H L fun b0 h hb0 H L => ?_
 replace H := H.d1
 apply Tri.addr
 refine Tri.load 1 H rfl rfl ?_
 refine Tri.eql (fun e3 => ?_) (fun e3 => ?_)
 ·apply Tri.ift
  exact te (sp57 (H.x1)) L
 ·apply Tri.iff
  refine Tri.eql (fun e5 => ?_) (fun e5 => ?_)
  ·apply Tri.ift
   exact te (sp57 (H.x1)) L
  ·apply Tri.iff
   refine Tri.eql (fun e7 => ?_) (fun e7 => ?_)
   ·apply Tri.ift
    exact te (sp57 (H.x1)) L
   ·apply Tri.iff
    refine Tri.eql (fun e9 => ?_) (fun e9 => ?_)
    ·apply Tri.ift
     exact te (sp57 (H.x1)) L
    ·apply Tri.iff
     refine Tri.eql (fun e11 => ?_) (fun e11 => ?_)
     ·apply Tri.ift
      exact te (sp57 (H.x1)) L
     ·apply Tri.iff
      exact te (sp57 (H.x1)) L
theorem sp170 {root i : Int} {lb nb : Nat} (H : St (frz S :: row nb [.int .u8 n.kd, .int .i64 n.num, .str n.nm, n.nsV, n.ksV, .int .i64 n.ln] :: row lb [nv, .int .i64 root] :: l) h) (hn : NdsIn S nv nds) (x : NdIn S n) (hk : KidsIn nds n) (h1 : 0 ≤ i) (h2 : i < (n.ks.length : Int)) :
 Tri h true (row nb [.int .u8 n.kd, .int .i64 n.num, .str n.nm, n.nsV, n.ksV, .int .i64 n.ln] :: row lb [nv, .int .i64 root] :: l) (rI S) (M 170 [.int .i64 i, .ptr lb 0, .ptr nb 0] h) := by
 refine t3 e170 fun L => ?_
 unfold B170
 obtain ⟨h3, h4⟩ := hk (n.ks[i.toNat]'(by omega)) (List.getElem_mem _)
 have hks := x.ks
 apply Tri.addr
 apply Tri.addr
 refine Tri.load 2 H rfl rfl ?_
 apply Tri.addr
 refine Tri.load 1 H rfl rfl ?_
 refine FSl.idx (by assumption) (by omega) (by omega) fun b5 o5 hb5 => ?_
 have hc5 := hb5
 clear hc5
 refine Tri.loadF 0 H rfl (by assumption) ?_
 refine FSl.idx (by assumption) (by omega) (by omega) fun b7 o7 hb7 => ?_
 have hc7 := hb7
 obtain ⟨c7_0, c7_1, c7_2, c7_3, c7_4, c7_5, c7_6⟩ := hc7
 obtain ⟨c7_7, c7_8, c7_9⟩ := NdIn.three c7_6
 refine Tri.loadsF 0 (by decide) H rfl rfl (NdAt.cells (by assumption)) ?_
 refine tb1 (sp172 H (by first|omega|assumption|rfl|decide)) L fun v h B hq9 H L => ?_
 obtain ⟨⟨r9, rfl⟩, rfl⟩ := hq9
 exact dI H L
theorem sp102 {root : Int} (H : St (frz S :: l) h) (hn : NdsIn S nv nds) (x : NdIn S n) (hk : KidsIn nds n) (hs : ShE n) : Tri h true l (rB S) (M 102 [.agg [nv, .int .i64 root], n.V] h) := by
 refine t2 e102 fun L => ?_
 unfold B102
 obtain ⟨_, s2, s3, s4, s5⟩ := hs
 refine Tri.newS H L fun b0 h hb0 H L => ?_
 replace H := H.d1
 refine Tri.newS H L fun b1 h hb1 H L => ?_
 replace H := H.d1
 apply Tri.addr
 refine Tri.load 1 H rfl rfl ?_
 refine Tri.eql (fun e4 => ?_) (fun e4 => ?_)
 ·apply Tri.ift
  refine Tri.eqv (congrArg (fun x => bindS x _) (dyn_at _ _ _ _ _ _)) ?_
  refine tb1 (sp170 H (by first|omega|assumption|rfl|decide) (by first|omega|assumption|rfl|decide) (by first|omega|assumption|rfl|decide) (by first|omega|assumption|rfl|decide) (by first|omega|assumption|rfl|decide)) L fun v h B hq7 H L => ?_
  obtain ⟨⟨r7, rfl⟩, rfl⟩ := hq7
  exact dB H.x1.x1 L
 ·apply Tri.iff
  apply Tri.addr
  refine Tri.load 1 H rfl rfl ?_
  refine Tri.eql (fun e8 => ?_) (fun e8 => ?_)
  ·apply gtt
   apply bA
   apply Tri.addr
   apply bW
   refine Tri.load 1 H rfl rfl ?_
   refine Tri.eqv (bind_convI _ _) ?_
   refine Tri.conv ?_
   apply bI
   refine Tri.eql (fun e17 => ?_) (fun e17 => ?_)
   ·apply Tri.bs
    apply pT
    apply Tri.ift
    refine Tri.eqv (congrArg (fun x => bindS x _) (dyn_at _ _ _ _ _ _)) ?_
    refine tb1 (sp170 H (by first|omega|assumption|rfl|decide) (by first|omega|assumption|rfl|decide) (by first|omega|assumption|rfl|decide) (by first|omega|assumption|rfl|decide) (by first|omega|assumption|rfl|decide)) L fun v h B hq22 H L => ?_
    obtain ⟨⟨r22, rfl⟩, rfl⟩ := hq22
    refine Tri.gtr (fun e23 => ?_) (fun e23 => ?_)
    ·apply gtt
     apply bB
     refine Tri.eqv (congrArg (fun x => bindS x _) (dyn_at _ _ _ _ _ _)) ?_
     refine tb1 (sp170 H (by first|omega|assumption|rfl|decide) (by first|omega|assumption|rfl|decide) (by first|omega|assumption|rfl|decide) (by first|omega|assumption|rfl|decide) (by first|omega|assumption|rfl|decide)) L fun v h B hq27 H L => ?_
     obtain ⟨⟨r27, rfl⟩, rfl⟩ := hq27
     apply bI
     exact dB H.x1.x1 L
    ·apply gft
     apply pF
     exact dB H.x1.x1 L
   ·apply Tri.bs
    apply pT
    apply Tri.iff
    apply Tri.addr
    refine Tri.load 1 H rfl rfl ?_
    refine Tri.eql (fun e23 => ?_) (fun e23 => ?_)
    ·apply gtf
     apply pT
     apply gtf
     apply pT
     apply Tri.ift
     refine Tri.eqv (congrArg (fun x => bindS x _) (dyn_at _ _ _ _ _ _)) ?_
     have Ho30 := H
     refine Tri.wrote (sp170 (H.draw _) (by first|omega|assumption|rfl|decide) (by first|omega|assumption|rfl|decide) (by first|omega|assumption|rfl|decide) (by first|omega|assumption|rfl|decide) (by first|omega|assumption|rfl|decide)) L (fun _ => rfl) fun v h2 h B hq30 H2 hn30 hl30 eh30 H L => ?_
     obtain ⟨⟨r30, rfl⟩, rfl⟩ := hq30
     refine Tri.loads 1 (by decide) Ho30 rfl (Nat.le_of_ble_eq_true rfl) ?_
     refine Tri.cd (by rw [show pureB _ _ = true from Nat.ble_eq_true_of_le (hl30 rfl)]; rfl) ?_
     have Ho33 := H
     refine Tri.wrote (sp172 (H.draw _) (by first|omega|assumption|rfl|decide)) L (fun _ => rfl) fun v h2 h B hq33 H2 hn33 hl33 eh33 H L => ?_
     obtain ⟨⟨r33, rfl⟩, rfl⟩ := hq33
     refine Tri.geq (fun e34 => ?_) (fun e34 => ?_)
     ·apply gtt
      apply Tri.bs
      refine Tri.eqv (guardB_tt _ _) ?_
      refine Tri.eqv (congrArg (fun x => bindS x _) (dyn_at _ _ _ _ _ _)) ?_
      have Ho39 := H
      refine Tri.wrote (sp170 (H.draw _) (by first|omega|assumption|rfl|decide) (by first|omega|assumption|rfl|decide) (by first|omega|assumption|rfl|decide) (by first|omega|assumption|rfl|decide) (by first|omega|assumption|rfl|decide)) L (fun _ => rfl) fun v h2 h B hq39 H2 hn39 hl39 eh39 H L => ?_
      obtain ⟨⟨r39, rfl⟩, rfl⟩ := hq39
      refine Tri.eqv (guardB_tt _ _) ?_
      refine Tri.loads 1 (by decide) Ho39 rfl (Nat.le_of_ble_eq_true rfl) ?_
      refine Tri.cd (by rw [show pureB _ _ = true from Nat.ble_eq_true_of_le (hl39 rfl)]; rfl) ?_
      apply gtt
      apply bB
      refine tb1 (sp172 H (by first|omega|assumption|rfl|decide)) L fun v h B hq45 H L => ?_
      obtain ⟨⟨r45, rfl⟩, rfl⟩ := hq45
      apply bI
      exact dB H.x1.x1 L
     ·apply gft
      refine Tri.eqv (guardB_ft _ _) ?_
      apply gft
      apply gft
      apply pF
      exact dB H.x1.x1 L
    ·apply gff
     apply bA
     apply Tri.addr
     apply bW
     refine Tri.load 1 H rfl rfl ?_
     apply bI
     contradiction
  ·apply gft
   apply pF
   apply Tri.iff
   apply Tri.addr
   refine Tri.load 1 H rfl rfl ?_
   refine Tri.eql (fun e14 => ?_) (fun e14 => ?_)
   ·apply gtf
    apply pT
    apply gtf
    apply pT
    apply Tri.ift
    refine Tri.eqv (congrArg (fun x => bindS x _) (dyn_at _ _ _ _ _ _)) ?_
    have Ho21 := H
    refine Tri.wrote (sp170 (H.draw _) (by first|omega|assumption|rfl|decide) (by first|omega|assumption|rfl|decide) (by first|omega|assumption|rfl|decide) (by first|omega|assumption|rfl|decide) (by first|omega|assumption|rfl|decide)) L (fun _ => rfl) fun v h2 h B hq21 H2 hn21 hl21 eh21 H L => ?_
    obtain ⟨⟨r21, rfl⟩, rfl⟩ := hq21
    refine Tri.loads 1 (by decide) Ho21 rfl (Nat.le_of_ble_eq_true rfl) ?_
    refine Tri.cd (by rw [show pureB _ _ = true from Nat.ble_eq_true_of_le (hl21 rfl)]; rfl) ?_
    have Ho24 := H
    refine Tri.wrote (sp172 (H.draw _) (by first|omega|assumption|rfl|decide)) L (fun _ => rfl) fun v h2 h B hq24 H2 hn24 hl24 eh24 H L => ?_
    obtain ⟨⟨r24, rfl⟩, rfl⟩ := hq24
    contradiction
   ·apply gff
    apply bA
    apply Tri.addr
    apply bW
    refine Tri.load 1 H rfl rfl ?_
    apply bI
    refine Tri.eql (fun e21 => ?_) (fun e21 => ?_)
    ·apply Tri.bs
     apply pF
     apply gtf
     apply pT
     apply Tri.ift
     refine Tri.eqv (congrArg (fun x => bindS x _) (dyn_at _ _ _ _ _ _)) ?_
     have Ho28 := H
     refine Tri.wrote (sp170 (H.draw _) (by first|omega|assumption|rfl|decide) (by first|omega|assumption|rfl|decide) (by first|omega|assumption|rfl|decide) (by first|omega|assumption|rfl|decide) (by first|omega|assumption|rfl|decide)) L (fun _ => rfl) fun v h2 h B hq28 H2 hn28 hl28 eh28 H L => ?_
     obtain ⟨⟨r28, rfl⟩, rfl⟩ := hq28
     refine Tri.loads 1 (by decide) Ho28 rfl (Nat.le_of_ble_eq_true rfl) ?_
     refine Tri.cd (by rw [show pureB _ _ = true from Nat.ble_eq_true_of_le (hl28 rfl)]; rfl) ?_
     have Ho31 := H
     refine Tri.wrote (sp172 (H.draw _) (by first|omega|assumption|rfl|decide)) L (fun _ => rfl) fun v h2 h B hq31 H2 hn31 hl31 eh31 H L => ?_
     obtain ⟨⟨r31, rfl⟩, rfl⟩ := hq31
     refine Tri.geq (fun e32 => ?_) (fun e32 => ?_)
     ·apply gtt
      apply Tri.bs
      refine Tri.eqv (guardB_tt _ _) ?_
      refine Tri.eqv (congrArg (fun x => bindS x _) (dyn_at _ _ _ _ _ _)) ?_
      have Ho37 := H
      refine Tri.wrote (sp170 (H.draw _) (by first|omega|assumption|rfl|decide) (by first|omega|assumption|rfl|decide) (by first|omega|assumption|rfl|decide) (by first|omega|assumption|rfl|decide) (by first|omega|assumption|rfl|decide)) L (fun _ => rfl) fun v h2 h B hq37 H2 hn37 hl37 eh37 H L => ?_
      obtain ⟨⟨r37, rfl⟩, rfl⟩ := hq37
      refine Tri.eqv (guardB_tt _ _) ?_
      refine Tri.loads 1 (by decide) Ho37 rfl (Nat.le_of_ble_eq_true rfl) ?_
      refine Tri.cd (by rw [show pureB _ _ = true from Nat.ble_eq_true_of_le (hl37 rfl)]; rfl) ?_
      apply gtt
      apply bB
      refine tb1 (sp172 H (by first|omega|assumption|rfl|decide)) L fun v h B hq43 H L => ?_
      obtain ⟨⟨r43, rfl⟩, rfl⟩ := hq43
      apply bI
      exact dB H.x1.x1 L
     ·apply gft
      refine Tri.eqv (guardB_ft _ _) ?_
      apply gft
      apply gft
      apply pF
      exact dB H.x1.x1 L
    ·apply Tri.bs
     apply pF
     apply gff
     apply bA
     apply Tri.addr
     apply bW
     refine Tri.load 1 H rfl rfl ?_
     apply bI
     refine Tri.eql (fun e30 => ?_) (fun e30 => ?_)
     ·apply Tri.bs
      apply pF
      apply Tri.ift
      refine Tri.eqv (congrArg (fun x => bindS x _) (dyn_at _ _ _ _ _ _)) ?_
      have Ho35 := H
      refine Tri.wrote (sp170 (H.draw _) (by first|omega|assumption|rfl|decide) (by first|omega|assumption|rfl|decide) (by first|omega|assumption|rfl|decide) (by first|omega|assumption|rfl|decide) (by first|omega|assumption|rfl|decide)) L (fun _ => rfl) fun v h2 h B hq35 H2 hn35 hl35 eh35 H L => ?_
      obtain ⟨⟨r35, rfl⟩, rfl⟩ := hq35
      refine Tri.loads 1 (by decide) Ho35 rfl (Nat.le_of_ble_eq_true rfl) ?_
      refine Tri.cd (by rw [show pureB _ _ = true from Nat.ble_eq_true_of_le (hl35 rfl)]; rfl) ?_
      have Ho38 := H
      refine Tri.wrote (sp172 (H.draw _) (by first|omega|assumption|rfl|decide)) L (fun _ => rfl) fun v h2 h B hq38 H2 hn38 hl38 eh38 H L => ?_
      obtain ⟨⟨r38, rfl⟩, rfl⟩ := hq38
      refine Tri.geq (fun e39 => ?_) (fun e39 => ?_)
      ·apply gtt
       apply Tri.bs
       refine Tri.eqv (guardB_tt _ _) ?_
       refine Tri.eqv (congrArg (fun x => bindS x _) (dyn_at _ _ _ _ _ _)) ?_
       have Ho44 := H
       refine Tri.wrote (sp170 (H.draw _) (by first|omega|assumption|rfl|decide) (by first|omega|assumption|rfl|decide) (by first|omega|assumption|rfl|decide) (by first|omega|assumption|rfl|decide) (by first|omega|assumption|rfl|decide)) L (fun _ => rfl) fun v h2 h B hq44 H2 hn44 hl44 eh44 H L => ?_
       obtain ⟨⟨r44, rfl⟩, rfl⟩ := hq44
       refine Tri.eqv (guardB_tt _ _) ?_
       refine Tri.loads 1 (by decide) Ho44 rfl (Nat.le_of_ble_eq_true rfl) ?_
       refine Tri.cd (by rw [show pureB _ _ = true from Nat.ble_eq_true_of_le (hl44 rfl)]; rfl) ?_
       apply gtt
       apply bB
       refine tb1 (sp172 H (by first|omega|assumption|rfl|decide)) L fun v h B hq50 H L => ?_
       obtain ⟨⟨r50, rfl⟩, rfl⟩ := hq50
       apply bI
       exact dB H.x1.x1 L
      ·apply gft
       refine Tri.eqv (guardB_ft _ _) ?_
       apply gft
       apply gft
       apply pF
       exact dB H.x1.x1 L
     ·apply Tri.bs
      apply pF
      apply Tri.iff
      exact dB H.x1.x1 L
structure Shape (n : Nd) : Prop where
 ln : 1 ≤ n.ln
 s : ShS n
 e : ShE n
theorem sp50 {root : Int} (H : St (frz S :: l) h) (hn : NdsIn S nv nds) (x : NdIn S n) (hk : KidsIn nds n) (h3 : (n.ks.length : Int) ≤ 4611686018427387904) : Tri h true l (rP S fun b => b = true → Shape n) (M 50 [.agg [nv, .int .i64 root], n.V] h) := by
 refine t2 e50 fun L => ?_
 unfold B50
 have hks := x.ks
 have g1 := g46 (S := S)
 have g2 := g47 (S := S)
 have no1 : n.kd = 1 → ShS n ∧ ShE n := fun e => ⟨⟨fun _ => by omega, fun _ => by omega, fun _ => by omega, fun _ => by omega, fun _ => by omega, fun _ => by omega, fun _ => by omega, fun _ => by omega⟩, ⟨fun _ => by omega, fun _ => by omega, fun _ => by omega, fun _ => by omega, fun _ => by omega, fun _ => by omega⟩⟩
 have no2 : 2 ≤ n.kd ∧ n.kd ≤ 15 → ShE n := fun e => ⟨fun _ => by omega, fun _ => by omega, fun _ => by omega, fun _ => by omega, fun _ => by omega, fun _ => by omega⟩
 have no3 : ¬ (2 ≤ n.kd ∧ n.kd ≤ 15) → ShS n := fun e => ⟨fun _ => by omega, fun _ => by omega, fun _ => by omega, fun _ => by omega, fun _ => by omega, fun _ => by omega, fun _ => by omega, fun _ => by omega⟩
 refine Tri.newS H L fun b0 h hb0 H L => ?_
 replace H := H.d1
 refine Tri.newS H L fun b1 h hb1 H L => ?_
 replace H := H.d1
 apply Tri.addr
 refine Tri.load 1 H rfl rfl ?_
 refine Tri.lss (fun e => ?_) (fun e => ?_)
 ·apply Tri.ift
  exact dn (fun e => nomatch e) H.x1.x1 L
 ·apply Tri.iff
  apply Tri.addr
  refine Tri.load 1 H rfl rfl ?_
  refine Tri.eql (fun e1 => ?_) (fun e1 => ?_)
  ·apply Tri.ift
   apply Tri.addr
   refine Tri.load 1 H rfl rfl ?_
   apply bL
   refine FSl.len (by assumption) ?_
   apply Tri.bs
   refine Tri.subN (by omega) (by omega) ?_
   refine ls 1 H rfl rfl ?_
   refine tb1 (sp88 H (by first|omega|assumption|rfl|decide)) L fun v h B hq13 H L => ?_
   obtain ⟨⟨r13, rfl⟩, rfl⟩ := hq13
   cases r13
   ·apply gft
    apply pF
    apply gft
    apply pF
    exact dn (fun e => nomatch e) H.x1.x1 L
   ·apply gtt
    apply bN
    refine ls 2 H rfl rfl ?_
    apply bN
    refine ls 1 H rfl rfl ?_
    apply bI
    refine Tri.addN (by omega) (by omega) ?_
    apply bB
    refine tb1 (sp90 H (by first|omega|assumption|rfl|decide) (by first|omega|assumption|rfl|decide) (by first|omega|assumption|rfl|decide) (by first|omega|assumption|rfl|decide) (by first|omega|assumption|rfl|decide) (by first|omega|assumption|rfl|decide)) L fun v h B hq23 H L => ?_
    obtain ⟨⟨r23, rfl⟩, rfl⟩ := hq23
    apply Tri.bs
    apply pT
    cases r23
    ·apply gft
     apply pF
     exact dn (fun e => nomatch e) H.x1.x1 L
    ·apply gtt
     apply bN
     refine ls 2 H rfl rfl ?_
     apply bN
     refine ls 1 H rfl rfl ?_
     apply bB
     refine tb1 (sp90 H (by first|omega|assumption|rfl|decide) (by first|omega|assumption|rfl|decide) (by first|omega|assumption|rfl|decide) (by first|omega|assumption|rfl|decide) (by first|omega|assumption|rfl|decide) (by first|omega|assumption|rfl|decide)) L fun v h B hq33 H L => ?_
     obtain ⟨⟨r33, rfl⟩, rfl⟩ := hq33
     apply Tri.bs
     apply pT
     exact dn (fun _ => ⟨e, (no1 e1).1, (no1 e1).2⟩) H.x1.x1 L
  ·apply Tri.iff
   apply Tri.addr
   refine Tri.load 1 H rfl rfl ?_
   refine tb1 (sp92 H) L fun v h B hq3 H L => ?_
   obtain ⟨⟨r3, rfl, hp3⟩, rfl⟩ := hq3
   cases r3
   ·have hno := no3 (fun e => by have := hp3.2 e; cases this)
    apply Tri.iff
    apply Tri.addr
    refine Tri.load 1 H rfl rfl ?_
    refine tb1 (sp98 H) L fun v h B hq53 H L => ?_
    obtain ⟨⟨r53, rfl⟩, rfl⟩ := hq53
    cases r53
    ·apply gff
     apply bA
     apply Tri.addr
     apply bW
     refine Tri.load 1 H rfl rfl ?_
     apply bI
     refine Tri.eql (fun e61 => ?_) (fun e61 => ?_)
     ·apply Tri.bs
      apply pF
      apply gtf
      apply pT
      apply Tri.ift
      refine ls 2 H rfl rfl ?_
      refine ls 1 H rfl rfl ?_
      refine tb1 (sp100 H (by first|omega|assumption|rfl|decide) (by first|omega|assumption|rfl|decide) (by first|omega|assumption|rfl|decide) (by first|omega|assumption|rfl|decide)) L fun v h B hq69 H L => ?_
      obtain ⟨⟨r69, rfl, hp69⟩, rfl⟩ := hq69
      cases r69
      ·apply gft
       apply pF
       exact dn (fun e => nomatch e) H.x1.x1 L
      ·replace hp69 := hp69 rfl
       apply gtt
       apply bN
       refine ls 2 H rfl rfl ?_
       apply bN
       refine ls 1 H rfl rfl ?_
       apply bB
       refine tb1 (sp102 H (by first|omega|assumption|rfl|decide) (by first|omega|assumption|rfl|decide) (by first|omega|assumption|rfl|decide) (by first|omega|assumption|rfl|decide)) L fun v h B hq77 H L => ?_
       obtain ⟨⟨r77, rfl⟩, rfl⟩ := hq77
       apply Tri.bs
       apply pT
       exact dn (fun e' => ⟨e, hno, ‹ShE n›⟩) H.x1.x1 L
     ·apply Tri.bs
      apply pF
      apply gff
      apply bA
      apply Tri.addr
      apply bW
      refine Tri.load 1 H rfl rfl ?_
      apply bI
      refine Tri.eql (fun e70 => ?_) (fun e70 => ?_)
      ·apply Tri.bs
       apply pF
       apply Tri.ift
       refine ls 2 H rfl rfl ?_
       refine ls 1 H rfl rfl ?_
       refine tb1 (sp100 H (by first|omega|assumption|rfl|decide) (by first|omega|assumption|rfl|decide) (by first|omega|assumption|rfl|decide) (by first|omega|assumption|rfl|decide)) L fun v h B hq76 H L => ?_
       obtain ⟨⟨r76, rfl, hp76⟩, rfl⟩ := hq76
       cases r76
       ·apply gft
        apply pF
        exact dn (fun e => nomatch e) H.x1.x1 L
       ·replace hp76 := hp76 rfl
        apply gtt
        apply bN
        refine ls 2 H rfl rfl ?_
        apply bN
        refine ls 1 H rfl rfl ?_
        apply bB
        refine tb1 (sp102 H (by first|omega|assumption|rfl|decide) (by first|omega|assumption|rfl|decide) (by first|omega|assumption|rfl|decide) (by first|omega|assumption|rfl|decide)) L fun v h B hq84 H L => ?_
        obtain ⟨⟨r84, rfl⟩, rfl⟩ := hq84
        apply Tri.bs
        apply pT
        exact dn (fun e' => ⟨e, hno, ‹ShE n›⟩) H.x1.x1 L
      ·apply Tri.bs
       apply pF
       apply Tri.iff
       exact dn (fun e => nomatch e) H.x1.x1 L
    ·apply gtf
     apply pT
     apply gtf
     apply pT
     apply Tri.ift
     refine ls 2 H rfl rfl ?_
     refine ls 1 H rfl rfl ?_
     refine tb1 (sp100 H (by first|omega|assumption|rfl|decide) (by first|omega|assumption|rfl|decide) (by first|omega|assumption|rfl|decide) (by first|omega|assumption|rfl|decide)) L fun v h B hq62 H L => ?_
     obtain ⟨⟨r62, rfl, hp62⟩, rfl⟩ := hq62
     cases r62
     ·apply gft
      apply pF
      exact dn (fun e => nomatch e) H.x1.x1 L
     ·replace hp62 := hp62 rfl
      apply gtt
      apply bN
      refine ls 2 H rfl rfl ?_
      apply bN
      refine ls 1 H rfl rfl ?_
      apply bB
      refine tb1 (sp102 H (by first|omega|assumption|rfl|decide) (by first|omega|assumption|rfl|decide) (by first|omega|assumption|rfl|decide) (by first|omega|assumption|rfl|decide)) L fun v h B hq70 H L => ?_
      obtain ⟨⟨r70, rfl⟩, rfl⟩ := hq70
      apply Tri.bs
      apply pT
      exact dn (fun e' => ⟨e, hno, ‹ShE n›⟩) H.x1.x1 L
   ·have hno := no2 (hp3.1 rfl)
    apply Tri.ift
    refine ls 2 H rfl rfl ?_
    refine ls 1 H rfl rfl ?_
    refine tb1 (sp96 H (by first|omega|assumption|rfl|decide) (by first|omega|assumption|rfl|decide) (by first|omega|assumption|rfl|decide) (by first|omega|assumption|rfl|decide)) L fun v h B hq53 H L => ?_
    obtain ⟨⟨r53, rfl, hp53⟩, rfl⟩ := hq53
    exact dn (fun e' => ⟨e, hp53 e', hno⟩) H.x1.x1 L
theorem sp77 {e : Nat} {v : V} {bs : List Bool} (m : Nat) : ∀ {i : Int} {h : Hp} {l : List Asn} (H : St (frz S :: vc false v e 1 (bs.map V.bool) :: l) h) (h1 : 0 ≤ i) (hb : (bs.length : Int) ≤ 4611686018427387904) (hm : (bs.length : Int) - i ≤ (m : Int)) (ha : ∀ j : Nat, (j : Int) < i → bs[j]? ≠ some false),
 Tri h true (vc false v e 1 (bs.map V.bool) :: l) (fun v B => (∃ n, v = .int .i64 n ∧ (n < 0 → ∀ j : Nat, bs[j]? ≠ some false)) ∧ B = [frz S]) (M 77 [v, .bool false, .int .i64 (bs.length : Nat), .int .i64 i] h) := by
 induction m with
 | zero =>
  intro i h l H h1 hb hm ha
  refine t4 e77 fun L => ?_
  unfold B77
  refine Tri.lss (fun e => by omega) (fun e => ?_)
  apply Tri.iff
  refine Tri.done (B := [frz S]) ⟨⟨_, rfl, fun _ j hj => ?_⟩, rfl⟩ H L
  obtain ⟨hj1, _⟩ := List.getElem?_eq_some_iff.1 hj
  exact ha j (by omega) hj
 | succ m ih =>
  intro i h l H h1 hb hm ha
  refine t4 e77 fun L => ?_
  unfold B77
  refine Tri.lss (fun e => ?_) (fun e => ?_)
  ·apply Tri.ift
   refine Tri.idxV 1 H rfl h1 (by rw [List.length_map]; omega) (by decide) fun b n c g hv _ => ?_
   subst hv
   have hi : bs[i.toNat]? = some (bs[i.toNat]'(by omega)) := List.getElem?_eq_getElem _
   generalize bs[i.toNat]'(by omega) = y at hi
   refine Tri.loadV 1 H rfl (w := .bool y) (by rw [Nat.zero_add, Nat.mul_one, List.getElem?_map, hi]; rfl) ?_
   refine Tri.eqBool fun s0 es0 => ?_
   cases y
   ·subst es0
    apply Tri.ift
    refine Tri.done (B := [frz S]) ⟨⟨_, rfl, fun hn => by omega⟩, rfl⟩ H L
   ·subst es0
    apply Tri.iff
    refine Tri.addN (by omega) (by omega) ?_
    refine te (ih H (by omega) hb (by omega) fun j hj => ?_) L
    by_cases ej : (j : Int) < i
    ·exact ha j ej
    ·have : j = i.toNat := by omega
     subst this; rw [hi]; exact fun h => nomatch h
  ·apply Tri.iff
   refine Tri.done (B := [frz S]) ⟨⟨_, rfl, fun _ j hj => ?_⟩, rfl⟩ H L
   obtain ⟨hj1, _⟩ := List.getElem?_eq_some_iff.1 hj
   exact ha j (by omega) hj
theorem sp52 {e : Nat} {v : V} {bs : List Bool} (H : St (frz S :: vc false v e 1 (bs.map V.bool) :: l) h) (hb : (bs.length : Int) ≤ 4611686018427387904) :
 Tri h true (vc false v e 1 (bs.map V.bool) :: l) (rP S fun r => r = false → ∀ j : Nat, bs[j]? ≠ some false) (M 52 [v, .bool false] h) := by
 have sp104 : Tri h true (vc false v e 1 (bs.map V.bool) :: l) (fun v B => (∃ n, v = .int .i64 n ∧ (n < 0 → ∀ j : Nat, bs[j]? ≠ some false)) ∧ B = [frz S]) (M 104 [v, .bool false] h) := by
  refine t2 e104 fun L => ?_
  unfold B104
  apply bL
  refine Tri.lenV 1 bs.length H rfl (by decide) (by simp) ?_
  refine te (sp77 bs.length H (by omega) hb (by omega) fun j hj => by omega) L
 refine t2 e52 fun L => ?_
 unfold B52
 refine Tri.bind sp104 L (fun e => e) fun v h B hq H L => ?_
 obtain ⟨⟨n, rfl, hn⟩, rfl⟩ := hq
 skip
 refine Tri.geq (fun e => ?_) (fun e => ?_)
 ·skip
  exact dn (fun e => nomatch e) H L
 ·skip
  exact dn (fun _ => hn e) H L
def unseen : List Bool → Nat
 | [] => 0
 | b :: bs => (if b then 0 else 1) + unseen bs
theorem unseen_set : ∀ {bs : List Bool} {i : Nat}, bs[i]? = some false → unseen (bs.set i true) + 1 = unseen bs
 | b :: bs, 0, h => by
  simp only [List.getElem?_cons_zero, Option.some.injEq] at h
  subst h; simp only [List.set, unseen]; simp; omega
 | b :: bs, i + 1, h => by
  simp only [List.getElem?_cons_succ] at h
  have := unseen_set h
  simp only [List.set, unseen]; omega
theorem unseen_le : ∀ bs : List Bool, unseen bs ≤ bs.length
 | [] => Nat.le_refl _
 | b :: bs => by have := unseen_le bs; simp only [unseen, List.length_cons]; split <;> omega
def pl (p : Int × Int) : List V := [.int .i64 p.1, .int .i64 p.2]
def pls (todo : List (Int × Int)) : List V := todo.flatMap pl
theorem pls_len (todo : List (Int × Int)) : (pls todo).length = todo.length * 2 := by
 unfold pls; induction todo with
 | nil => rfl
 | cons p ps ih => rw [List.flatMap_cons, List.length_append, ih, List.length_cons]; simp [pl]; omega
theorem pls_app (a : List (Int × Int)) (p : Int × Int) : pls (a ++ [p]) = pls a ++ pl p := by simp [pls]
structure Seen (nds : List Nd) (bs : List Bool) (todo : List (Int × Int)) (D C : Nat → Prop) (pt : Nat → Nat) (c : Nat) : Prop where
 len : bs.length = nds.length
 all : ∀ i : Nat, bs[i]? = some true → pt i < c ∧ (D i ∨ C i ∨ ∃ p ∈ todo, p.1 = (i : Int))
 todo : ∀ p ∈ todo, 0 ≤ p.1 ∧ p.1 < (nds.length : Int) ∧ bs[p.1.toNat]? = some true
 seen : ∀ i : Nat, D i ∨ C i → bs[i]? = some true
 done : ∀ i : Nat, D i → ∃ n, nds[i]? = some n ∧ Shape n ∧ ∀ k ∈ n.ks, 0 ≤ k ∧ k < (nds.length : Int) ∧ bs[k.toNat]? = some true ∧ pt i < pt k.toNat
structure GoodN (nds : List Nd) (t : Nat → Nat) : Prop where
 shape : ∀ (i : Nat) (n : Nd), nds[i]? = some n → Shape n
 kids : ∀ (i : Nat) (n : Nd), nds[i]? = some n → ∀ k ∈ n.ks, 0 ≤ k ∧ k < (nds.length : Int) ∧ t k.toNat < t i
theorem Seen.good {bs : List Bool} {D : Nat → Prop} {pt : Nat → Nat} {c : Nat} (x : Seen nds bs [] D (fun _ => False) pt c) (ha : ∀ j : Nat, bs[j]? ≠ some false) : GoodN nds fun i => c - pt i := by
 have hD : ∀ (i : Nat) (n : Nd), nds[i]? = some n → bs[i]? = some true ∧ D i := fun i n hn => by
  obtain ⟨hi, _⟩ := List.getElem?_eq_some_iff.1 hn
  have h1 : bs[i]? = some (bs[i]'(by rw [x.len]; exact hi)) := List.getElem?_eq_getElem _
  have h2 : bs[i]? = some true := by
   generalize bs[i]'(by rw [x.len]; exact hi) = y at h1
   cases y
   ·exact (ha i h1).elim
   ·exact h1
  refine ⟨h2, (x.all i h2).2.elim id fun h => h.elim (fun h => h.elim) fun ⟨p, hp, _⟩ => by cases hp⟩
 refine ⟨fun i n hn => ?_, fun i n hn k hk => ?_⟩
 ·obtain ⟨n', h1, h2, _⟩ := x.done i (hD i n hn).2
  rw [hn] at h1; cases h1; exact h2
 ·obtain ⟨n', h1, _, h3⟩ := x.done i (hD i n hn).2
  rw [hn] at h1; cases h1
  obtain ⟨a, b, c1, d⟩ := h3 k hk
  have := (x.all _ c1).1
  exact ⟨a, b, by omega⟩
theorem Seen.push {bs : List Bool} {todo : List (Int × Int)} {D C : Nat → Prop} {pt : Nat → Nat} {c : Nat} {k lev : Int} (x : Seen nds bs todo D C pt c) (h1 : 0 ≤ k) (h2 : k < (nds.length : Int)) (h3 : bs[k.toNat]? = some false) :
 Seen nds (bs.set k.toNat true) (todo ++ [(k, lev)]) D C (fun i => if i = k.toNat then c else pt i) (c + 1) := by
 have hlt : k.toNat < bs.length := by rw [x.len]; omega
 have keep : ∀ i : Nat, bs[i]? = some true → (bs.set k.toNat true)[i]? = some true ∧ i ≠ k.toNat := fun i hi => by
  have : i ≠ k.toNat := fun e => by subst e; rw [h3] at hi; cases hi
  exact ⟨by rw [List.getElem?_set_ne (Ne.symm this)]; exact hi, this⟩
 refine ⟨by rw [List.length_set]; exact x.len, fun i hi => ?_, fun p hp => ?_, fun i hi => (keep i (x.seen i hi)).1, fun i hi => ?_⟩
 ·by_cases e : i = k.toNat
  ·subst e
   exact ⟨by simp, .inr (.inr ⟨(k, lev), by simp, by simp; omega⟩)⟩
  ·rw [List.getElem?_set_ne (Ne.symm e)] at hi
   obtain ⟨a, b⟩ := x.all i hi
   refine ⟨by simp only [if_neg e]; omega, b.imp id (Or.imp id fun ⟨p, hp, he⟩ => ⟨p, List.mem_append_left _ hp, he⟩)⟩
 ·rcases List.mem_append.1 hp with hp | hp
  ·obtain ⟨a, b, d⟩ := x.todo p hp
   exact ⟨a, b, (keep _ d).1⟩
  ·rw [List.mem_singleton] at hp; subst hp
   exact ⟨h1, h2, by simp only; rw [List.getElem?_set_self hlt]⟩
 ·obtain ⟨n, a, b, d⟩ := x.done i hi
  refine ⟨n, a, b, fun q hq => ?_⟩
  obtain ⟨q1, q2, q3, q4⟩ := d q hq
  obtain ⟨q5, q6⟩ := keep _ q3
  have hi' := (keep _ (x.seen i (.inl hi))).2
  exact ⟨q1, q2, q5, by simp only [if_neg q6, if_neg hi']; exact q4⟩
theorem Seen.pop {bs : List Bool} {todo : List (Int × Int)} {D : Nat → Prop} {pt : Nat → Nat} {c : Nat} {a lev : Int} (x : Seen nds bs (todo ++ [(a, lev)]) D (fun _ => False) pt c) : Seen nds bs todo D (· = a.toNat) pt c := by
 obtain ⟨a1, a2, a3⟩ := x.todo (a, lev) (by simp)
 refine ⟨x.len, fun i hi => ?_, fun p hp => x.todo p (List.mem_append_left _ hp), fun i hi => ?_, x.done⟩
 ·obtain ⟨h1, h2⟩ := x.all i hi
  refine ⟨h1, h2.imp id fun h => ?_⟩
  rcases h with h | ⟨p, hp, he⟩
  ·exact h.elim
  ·rcases List.mem_append.1 hp with hp | hp
   ·exact .inr ⟨p, hp, he⟩
   ·rw [List.mem_singleton] at hp; subst hp
    exact .inl (by simp only at he; omega)
 ·rcases hi with hi | hi
  ·exact x.seen i (.inl hi)
  ·subst hi; exact a3
theorem Seen.fin {bs : List Bool} {todo : List (Int × Int)} {D : Nat → Prop} {pt : Nat → Nat} {c p : Nat} {n : Nd} (x : Seen nds bs todo D (· = p) pt c) (hn : nds[p]? = some n) (hs : Shape n)
 (hk : ∀ k ∈ n.ks, 0 ≤ k ∧ k < (nds.length : Int) ∧ bs[k.toNat]? = some true ∧ pt p < pt k.toNat) : Seen nds bs todo (fun i => D i ∨ i = p) (fun _ => False) pt c := by
 refine ⟨x.len, fun i hi => ?_, x.todo, fun i hi => x.seen i (by rcases hi with (h | h) | h; exact .inl h; exact .inr h; exact h.elim), fun i hi => ?_⟩
 ·obtain ⟨h1, h2⟩ := x.all i hi
  refine ⟨h1, ?_⟩
  rcases h2 with h | h | h
  ·exact .inl (.inl h)
  ·exact .inl (.inr h)
  ·exact .inr (.inr h)
 ·rcases hi with hi | hi
  ·exact x.done i hi
  ·subst hi; exact ⟨n, hn, hs, hk⟩
def sumW (w : Nat → Nat) (ks : List Int) : Nat := (ks.map fun k => w k.toNat).sum
def IsW (nds : List Nd) (w : Nat → Nat) : Prop := ∀ (i : Nat) (n : Nd), nds[i]? = some n → w i = 1 + sumW w n.ks
def Wt (nds : List Nd) (r : Nat) (bs : List Bool) (todo : List (Int × Int)) (rest : List Int) : Prop :=
 ∃ d, d + todo.length + unseen bs ≤ nds.length ∧ ∀ w, IsW nds w → w r = d + (todo.map fun p => w p.1.toNat).sum + sumW w rest
theorem Wt.push {r : Nat} {bs : List Bool} {todo : List (Int × Int)} {k lev : Int} {rest : List Int} (x : Wt nds r bs todo (k :: rest)) (hk : bs[k.toNat]? = some false) : Wt nds r (bs.set k.toNat true) (todo ++ [(k, lev)]) rest := by
 obtain ⟨d, h1, h2⟩ := x
 have h3 := unseen_set hk
 refine ⟨d, by rw [List.length_append, List.length_singleton]; omega, fun w hw => ?_⟩
 have h4 := h2 w hw
 rw [List.map_append, List.sum_append, List.map_singleton, List.sum_singleton]
 have h5 : sumW w (k :: rest) = w k.toNat + sumW w rest := by unfold sumW; rw [List.map_cons, List.sum_cons]
 simp only
 omega
theorem Wt.pop {r : Nat} {bs : List Bool} {todo : List (Int × Int)} {a lev : Int} {n : Nd} (x : Wt nds r bs (todo ++ [(a, lev)]) []) (hn : nds[a.toNat]? = some n) : Wt nds r bs todo n.ks := by
 obtain ⟨d, h1, h2⟩ := x
 rw [List.length_append, List.length_singleton] at h1
 refine ⟨d + 1, by omega, fun w hw => ?_⟩
 have h4 := h2 w hw
 have h5 := hw _ n hn
 rw [List.map_append, List.sum_append, List.map_singleton, List.sum_singleton] at h4
 have h6 : sumW w [] = 0 := rfl
 simp only at h4
 omega
theorem Wt.fin {r : Nat} {bs : List Bool} (x : Wt nds r bs [] []) (w : Nat → Nat) (hw : IsW nds w) : w r ≤ nds.length := by
 obtain ⟨d, h1, h2⟩ := x
 have h4 := h2 w hw
 have h6 : sumW w [] = 0 := rfl
 simp only [List.map_nil, List.sum_nil] at h4
 omega
abbrev rG (S : Mem) (nds : List Nd) (r : Nat) := rP S fun b => b = true → (∃ t, GoodN nds t) ∧ ∀ w, IsW nds w → w r ≤ nds.length
theorem pls_drop (todo : List (Int × Int)) (p : Int × Int) : ((pls (todo ++ [p])).drop (0 + ((todo.length : Int)).toNat * 2)).take 2 = pl p := by
 have := pls_len todo
 rw [pls_app, Nat.zero_add, show ((todo.length : Int)).toNat * 2 = (pls todo).length by omega, List.drop_left]
 rfl
theorem pls_take (todo : List (Int × Int)) (p : Int × Int) : (pls (todo ++ [p])).take (todo.length * 2) = pls todo := by
 rw [pls_app, ← pls_len, List.take_left]
theorem loop45 {r0 : Nat} (hN : nds.length ≤ 4096) (hn : NdsIn S nv nds) {m : Nat}
 (ih : ∀ {bs : List Bool} {todo : List (Int × Int)} {D : Nat → Prop} {pt : Nat → Nat} {c : Nat} {sv tv : V} {h : Hp} {l : List Asn} {lb kb : Nat} {root root' : Int},
   Seen nds bs todo D (fun _ => False) pt c → Wt nds r0 bs todo [] → unseen bs * 2 + todo.length ≤ m → m ≤ 8193 → St (frz S :: vc false sv 4 1 (bs.map V.bool) :: vc false tv 86 2 (pls todo) :: row lb [nv, .int .i64 root] :: row kb [nv, .int .i64 root'] :: l) h →
   Tri h false l (rG S nds r0) (M 43 [.ptr lb 0, sv, .ptr kb 0, tv] h))
 {p : Nat} {n : Nd} (hp : nds[p]? = some n) (x : NdIn S n) (hm2 : m ≤ 8193) (r : Nat) :
 ∀ {bs : List Bool} {todo : List (Int × Int)} {D : Nat → Prop} {pt : Nat → Nat} {c : Nat} {sv tv : V} {h : Hp} {l : List Asn} {lb kb pb nb : Nat} {root root' at0 lev j : Int},
  Seen nds bs todo D (· = p) pt c → Wt nds r0 bs todo (n.ks.drop j.toNat) → (∀ i : Nat, (i : Int) < j → ∀ k, n.ks[i]? = some k → 0 ≤ k ∧ k < (nds.length : Int) ∧ bs[k.toNat]? = some true ∧ pt p < pt k.toNat) →
  unseen bs * 2 + todo.length ≤ m → 0 ≤ j → (n.ks.length : Int) - j ≤ (r : Int) → j + (unseen bs : Int) ≤ (nds.length : Int) →
  St (frz S :: row nb [.int .u8 n.kd, .int .i64 n.num, .str n.nm, n.nsV, n.ksV, .int .i64 n.ln] :: row pb [.int .i64 at0, .int .i64 lev] :: vc false sv 4 1 (bs.map V.bool) :: vc false tv 86 2 (pls todo) :: row lb [nv, .int .i64 root] :: row kb [nv, .int .i64 root'] :: l) h →
  Tri h false l (rG S nds r0) (M 45 [.ptr lb 0, sv, .ptr kb 0, tv, .ptr pb 0, .ptr nb 0, n.ksV, .int .i64 (n.ks.length : Nat), .int .i64 j] h) := by
 have hks := x.ks
 induction r with
 | zero =>
  intro bs todo D pt c sv tv h l lb kb pb nb root root' at0 lev j y yw hk hm hj hr h3 H
  have hK : ∀ k ∈ n.ks, 0 ≤ k ∧ k < (nds.length : Int) ∧ bs[k.toNat]? = some true ∧ pt p < pt k.toNat := fun k hk' => by
   obtain ⟨i, hi⟩ := List.mem_iff_getElem?.1 hk'
   obtain ⟨hi2, _⟩ := List.getElem?_eq_some_iff.1 hi
   exact hk i (by omega) k hi
  have hk2 : KidsIn nds n := fun k h => ⟨(hK k h).1, (hK k h).2.1⟩
  have h3' : (n.ks.length : Int) ≤ 4611686018427387904 := by omega
  refine t9 e45 fun L => ?_
  unfold B45
  refine Tri.lss (fun e => by omega) (fun e => ?_)
  apply Tri.iff
  apply Tri.addr
  refine Tri.load 2 H rfl rfl ?_
  refine Tri.gtr (fun e => ?_) (fun e => ?_)
  ·apply gtf
   apply pT
   apply Tri.ift
   exact dn (fun e => nomatch e) H.x1.x1.x1.x1.x1.x1 L
  ·apply gff
   apply bN
   refine ls 6 H rfl rfl ?_
   apply bN
   refine ls 1 H rfl rfl ?_
   apply bB
   refine tb1 (sp50 H (by first|omega|assumption|rfl|decide) (by first|omega|assumption|rfl|decide) (by first|omega|assumption|rfl|decide) (by first|omega|assumption|rfl|decide)) L fun v h B hq6 H L => ?_
   obtain ⟨⟨r6, rfl, hp6⟩, rfl⟩ := hq6
   refine Tri.eqv (bind_notS _ _) ?_
   apply Tri.not
   apply Tri.bs
   apply pF
   cases r6
   ·apply Tri.ift
    exact dn (fun e => nomatch e) H.x1.x1.x1.x1.x1.x1 L
   ·apply Tri.iff
    exact te (ih (y.fin hp (hp6 rfl) hK) (by rw [List.drop_of_length_le (by omega)] at yw; exact yw) hm hm2 H.x1.x1) L
 | succ r ihr =>
  intro bs todo D pt c sv tv h l lb kb pb nb root root' at0 lev j y yw hk hm hj hr h3 H
  by_cases hjl : j < (n.ks.length : Int)
  ·refine t9 e45 fun L => ?_
   unfold B45
   refine Tri.lss (fun e => ?_) (fun e => by omega)
   apply Tri.ift
   refine FSl.idx (by assumption) (by omega) (by omega) fun b1 o1 hb1 => ?_
   have hc1 := hb1
   clear hc1
   refine Tri.loadF 0 H rfl (by assumption) ?_
   have hkj : n.ks[j.toNat]? = some (n.ks[j.toNat]'(by omega)) := List.getElem?_eq_getElem _
   have hdr : n.ks.drop j.toNat = n.ks[j.toNat]'(by omega) :: n.ks.drop (j.toNat + 1) := List.drop_eq_getElem_cons _
   generalize n.ks[j.toNat]'(by omega) = k0 at *
   have hlen : (bs.map V.bool).length = bs.length * 1 := by rw [List.length_map, Nat.mul_one]
   have hbl := y.len
   have hul := unseen_le bs
   refine Tri.lss (fun e1 => ?_) (fun e1 => ?_)
   ·apply gtf
    apply pT
    apply gtf
    apply pT
    apply Tri.ift
    exact dn (fun e => nomatch e) H.x1.x1.x1.x1.x1.x1 L
   ·apply gff
    apply bB
    apply bL
    refine Tri.lenV 3 bs.length H rfl (by decide) hlen ?_
    apply Tri.bs
    apply bI
    refine Tri.geq (fun e2 => ?_) (fun e2 => ?_)
    ·apply Tri.bs
     apply pF
     apply gtf
     apply pT
     apply Tri.ift
     exact dn (fun e => nomatch e) H.x1.x1.x1.x1.x1.x1 L
    ·apply Tri.bs
     apply pF
     apply gff
     refine Tri.eqv (bind_idxS _ _) ?_
     refine Tri.idxV 3 H rfl e1 (by rw [hlen]; omega) (by decide) fun b nn cc g hv _ => ?_
     subst hv
     have hi : bs[k0.toNat]? = some (bs[k0.toNat]'(by omega)) := List.getElem?_eq_getElem _
     generalize bs[k0.toNat]'(by omega) = yb at hi
     apply bW
     refine Tri.loadV 3 H rfl (w := .bool yb) (by rw [Nat.zero_add, Nat.mul_one, List.getElem?_map, hi]; rfl) ?_
     apply Tri.bs
     apply pF
     cases yb
     ·apply Tri.iff
      refine Tri.idxV 3 H rfl e1 (by rw [hlen]; omega) (by decide) fun b' nn' cc' g' hv' _ => ?_
      cases hv'
      refine Tri.storeV 3 H rfl (by rw [hlen]; omega) L (fun e => nomatch e) rfl fun h H L => ?_
      refine ls 1 H rfl rfl ?_
      apply Tri.addr
      refine Tri.load 2 H rfl rfl ?_
      refine tb1 (sp48 H (by first|omega|assumption|rfl|decide)) L fun v h B hq53 H L => ?_
      obtain ⟨⟨r53, rfl⟩, rfl⟩ := hq53
      refine Tri.bldS rfl ?_
      refine Tri.bld (e := _) (s := _) H L rfl rfl fun b55 h hb55 H L => ?_
      replace H := H.d1
      refine Tri.app 5 todo.length 1 H rfl (H.newCells (i := 1) rfl rfl) (by decide) (pls_len _) rfl (by omega) (by omega) rfl L (Own.off _ _) fun v' h H L O _ => ?_
      refine Tri.addN (by omega) (by omega) ?_
      have hs1 : (bs.map V.bool).set (0 + k0.toNat * 1) (.bool true) = (bs.set k0.toNat true).map V.bool := by rw [Nat.zero_add, Nat.mul_one, List.map_set]
      have hs2 : pls todo ++ (V.int .i64 k0 :: V.int .i64 r53 :: [].append []) = pls (todo ++ [(k0, r53)]) := (pls_app todo (k0, r53)).symm
      rw [hs1, hs2] at H
      have hps := y.seen p (.inr rfl)
      have hpk : p ≠ k0.toNat := fun e => by rw [e, hi] at hps; cases hps
      have hun := unseen_set hi
      refine te (ihr (y.push (lev := r53) e1 (by omega) hi) (by rw [show (j + 1).toNat = j.toNat + 1 by omega]; exact Wt.push (by rw [← hdr]; exact yw) hi) (fun i hi' k hk' => ?_) (by rw [List.length_append, List.length_singleton]; omega) (by omega) (by omega) (by omega) H.x1) L
      by_cases ei : (i : Int) < j
      ·obtain ⟨q1, q2, q3, q4⟩ := hk i ei k hk'
       have hne : k.toNat ≠ k0.toNat := fun e => by rw [e, hi] at q3; cases q3
       exact ⟨q1, q2, by rw [List.getElem?_set_ne (Ne.symm hne)]; exact q3, by simp only [if_neg hpk, if_neg hne]; exact q4⟩
      ·have : i = j.toNat := by omega
       subst this
       rw [hkj] at hk'; cases hk'
       exact ⟨e1, by omega, by rw [List.getElem?_set_self (by omega)], by simp only [if_neg hpk, if_true]; exact (y.all p hps).1⟩
     ·apply Tri.ift
      exact dn (fun e => nomatch e) H.x1.x1.x1.x1.x1.x1 L
  ·exact ihr y yw hk hm hj (by omega) h3 H
theorem loop43 {r0 : Nat} (hN : nds.length ≤ 4096) (hn : NdsIn S nv nds) (m : Nat) : ∀ {bs : List Bool} {todo : List (Int × Int)} {D : Nat → Prop} {pt : Nat → Nat} {c : Nat} {sv tv : V} {h : Hp} {l : List Asn} {lb kb : Nat} {root root' : Int},
 Seen nds bs todo D (fun _ => False) pt c → Wt nds r0 bs todo [] → unseen bs * 2 + todo.length ≤ m → m ≤ 8193 → St (frz S :: vc false sv 4 1 (bs.map V.bool) :: vc false tv 86 2 (pls todo) :: row lb [nv, .int .i64 root] :: row kb [nv, .int .i64 root'] :: l) h →
 Tri h false l (rG S nds r0) (M 43 [.ptr lb 0, sv, .ptr kb 0, tv] h) := by
 induction m with
 | zero =>
  intro bs todo D pt c sv tv h l lb kb root root' x xw hm hm2 H
  have e0 : todo = [] := List.eq_nil_of_length_eq_zero (by omega)
  subst e0
  refine t4 e43 fun L => ?_
  unfold B43
  apply bL
  refine Tri.lenV 2 0 H rfl (by decide) (by simp [pls]) ?_
  apply Tri.bs
  refine Tri.gtr (fun e => absurd e (by decide)) (fun _ => ?_)
  apply Tri.iff
  refine tb0 (sp52 H (by rw [x.len]; omega)) L fun v h B hq H L => ?_
  obtain ⟨⟨r, rfl, hr⟩, rfl⟩ := hq
  apply Tri.not
  exact dn (fun e => ⟨⟨_, x.good (hr (by cases r; rfl; cases e))⟩, xw.fin⟩) H.x1.x1.x1.x1 L
 | succ m ih =>
  intro bs todo D pt c sv tv h l lb kb root root' x xw hm hm2 H
  rcases List.eq_nil_or_concat todo with e0 | ⟨todo', ⟨at0, lev⟩, e0⟩
  ·subst e0
   refine t4 e43 fun L => ?_
   unfold B43
   apply bL
   refine Tri.lenV 2 0 H rfl (by decide) (by simp [pls]) ?_
   apply Tri.bs
   refine Tri.gtr (fun e => absurd e (by decide)) (fun _ => ?_)
   apply Tri.iff
   refine tb0 (sp52 H (by rw [x.len]; omega)) L fun v h B hq H L => ?_
   obtain ⟨⟨r, rfl, hr⟩, rfl⟩ := hq
   apply Tri.not
   exact dn (fun e => ⟨⟨_, x.good (hr (by cases r; rfl; cases e))⟩, xw.fin⟩) H.x1.x1.x1.x1 L
  ·rw [List.concat_eq_append] at e0
   subst e0
   obtain ⟨a1, a2, a3⟩ := x.todo (at0, lev) (by simp)
   simp only at a1 a2 a3
   rw [List.length_append, List.length_singleton] at hm
   have hlen : (pls (todo' ++ [(at0, lev)])).length = (todo'.length + 1) * 2 := by rw [pls_len, List.length_append, List.length_singleton]
   refine t4 e43 fun L => ?_
   unfold B43
   apply bL
   refine Tri.lenV 2 (todo'.length + 1) H rfl (by decide) hlen ?_
   apply Tri.bs
   refine Tri.gtr (fun e1 => ?_) (fun e1 => by omega)
   apply Tri.ift
   apply bL
   refine Tri.lenV 2 (todo'.length + 1) H rfl (by decide) hlen ?_
   apply Tri.bs
   refine Tri.subN (by omega) (by omega) ?_
   rw [show ((todo'.length + 1 : Nat) : Int) - 1 = (todo'.length : Int) by omega]
   refine Tri.idxV 2 H rfl (by omega) (by rw [hlen]; omega) (by decide) fun b nn cc g hv _ => ?_
   subst hv
   refine Tri.loadsV 2 (by decide) H rfl (by rw [hlen]; omega) (pls_drop _ _) ?_
   refine Tri.newS H L fun b0 h hb0 H L => ?_
   replace H := H.d1
   refine Tri.stores 1 (by decide) H rfl rfl (Nat.le_of_ble_eq_true rfl) L (fun e => nomatch e) (by first | rfl | assumption) fun h H L => ?_
   apply bL
   refine Tri.lenV 3 (todo'.length + 1) H rfl (by decide) hlen ?_
   apply Tri.bs
   refine Tri.subN (by omega) (by omega) ?_
   rw [show ((todo'.length + 1 : Nat) : Int) - 1 = (todo'.length : Int) by omega]
   refine Tri.cutV 3 (todo'.length + 1) todo'.length H rfl (by decide) hlen (by omega) fun tv' H hO _ => ?_
   rw [pls_take] at H
   apply Tri.addr
   refine Tri.load 4 H rfl rfl ?_
   apply Tri.addr
   refine Tri.load 1 H rfl rfl ?_
   refine FSl.idx (by assumption) (by omega) (by omega) fun b34 o34 hb34 => ?_
   have hc34 := hb34
   obtain ⟨c34_0, c34_1, c34_2, c34_3, c34_4, c34_5, c34_6⟩ := hc34
   obtain ⟨c34_7, c34_8, c34_9⟩ := NdIn.three c34_6
   refine Tri.loadsF 0 (by decide) H rfl rfl (NdAt.cells (by assumption)) ?_
   refine Tri.newS H L fun b36 h hb36 H L => ?_
   replace H := H.d1
   refine Tri.stores 1 (by decide) H rfl rfl (Nat.le_of_ble_eq_true rfl) L (fun e => nomatch e) (by first | rfl | assumption) fun h H L => ?_
   apply Tri.addr
   refine Tri.load 1 H rfl rfl ?_
   apply bL
   refine FSl.len (by assumption) ?_
   apply Tri.bs
   have hnd : nds[at0.toNat]? = some (nds[at0.toNat]'(by omega)) := List.getElem?_eq_getElem _
   refine te (loop45 hN hn ih hnd c34_6 (by omega) (nds[at0.toNat]'(by omega)).ks.length x.pop (by rw [show (0 : Int).toNat = 0 from rfl, List.drop_zero]; exact xw.pop hnd) (fun i hi => by omega) (by omega) (by omega) (by omega) (by have := unseen_le bs; have := x.len; omega) H) L
theorem unseen_rep : ∀ n, unseen (List.replicate n false) = n
 | 0 => rfl
 | n + 1 => by rw [List.replicate_succ]; simp [unseen, unseen_rep n]; omega
theorem Wt.start {r : Nat} (hr : r < nds.length) : Wt nds r ((List.replicate nds.length false).set r true) [((r : Int), 0)] [] := by
 have hu := unseen_set (bs := List.replicate nds.length false) (i := r) (by rw [List.getElem?_replicate, if_pos hr])
 have hur := unseen_rep nds.length
 refine ⟨0, by rw [List.length_singleton]; omega, fun w hw => ?_⟩
 have h6 : sumW w [] = 0 := rfl
 rw [h6, List.map_singleton, List.sum_singleton]; simp
theorem Seen.start {r : Nat} (hr : r < nds.length) : Seen nds ((List.replicate nds.length false).set r true) [((r : Int), 0)] (fun _ => False) (fun _ => False) (fun _ => 0) 1 := by
 refine ⟨by simp, fun i hi => ⟨by omega, .inr (.inr ⟨_, List.mem_singleton.2 rfl, ?_⟩)⟩, fun p hp => ?_, fun i hi => (hi.elim id id).elim, fun i hi => hi.elim⟩
 ·by_cases e : r = i
  ·subst e; rfl
  ·rw [List.getElem?_set_ne e, List.getElem?_replicate] at hi
   split at hi <;> cases hi
 ·rw [List.mem_singleton] at hp; subst hp
  exact ⟨by simp, by simpa using hr, by simp; rw [List.getElem?_set_self (by simpa using hr)]⟩
structure RightS (nds : List Nd) (root : Int) : Prop where
 good : (∃ t, GoodN nds t) ∧ ∀ w, IsW nds w → w root.toNat ≤ nds.length
 r0 : 0 ≤ root
 r1 : root < (nds.length : Int)
 len : nds.length ≤ 4096
 kd : ∀ n, nds[root.toNat]? = some n → n.kd = 26
theorem sp28 {root : Int} (H : St (frz S :: l) h) (hn : NdsIn S nv nds) : Tri h false l (rP S fun b => b = true → RightS nds root) (M 28 [.agg [nv, .int .i64 root]] h) := by
 refine t1 e28 fun L => ?_
 unfold B28
 refine Tri.newS H L fun b0 h hb0 H L => ?_
 replace H := H.d1
 apply Tri.addr
 refine Tri.load 1 H rfl rfl ?_
 apply bL
 refine FSl.len (by assumption) ?_
 apply Tri.bs
 refine Tri.lss (fun e1 => ?_) (fun e1 => ?_)
 ·apply gtf
  apply pT
  apply gtf
  apply pT
  apply gtf
  apply pT
  apply Tri.ift
  exact dn (fun e => nomatch e) H.x1 L
 apply gff
 apply bA
 apply Tri.addr
 apply bW
 refine Tri.load 1 H rfl rfl ?_
 apply bB
 apply bL
 refine FSl.len (by assumption) ?_
 apply Tri.bs
 apply bI
 refine Tri.gtr (fun e2 => ?_) (fun e2 => ?_)
 ·apply Tri.bs
  apply pF
  apply gtf
  apply pT
  apply gtf
  apply pT
  apply Tri.ift
  exact dn (fun e => nomatch e) H.x1 L
 apply Tri.bs
 apply pF
 apply gff
 apply bA
 apply Tri.addr
 apply bW
 refine Tri.load 1 H rfl rfl ?_
 apply bI
 refine Tri.lss (fun e3 => ?_) (fun e3 => ?_)
 ·apply Tri.bs
  apply pF
  apply gtf
  apply pT
  apply Tri.ift
  exact dn (fun e => nomatch e) H.x1 L
 apply Tri.bs
 apply pF
 apply gff
 apply bA
 apply Tri.addr
 apply bW
 refine Tri.load 1 H rfl rfl ?_
 apply bA
 apply Tri.addr
 apply bW
 refine Tri.load 1 H rfl rfl ?_
 apply bB
 apply bL
 refine FSl.len (by assumption) ?_
 apply Tri.bs
 apply bI
 refine Tri.geq (fun e4 => ?_) (fun e4 => ?_)
 ·apply Tri.bs
  apply pF
  apply Tri.ift
  exact dn (fun e => nomatch e) H.x1 L
 apply Tri.bs
 apply pF
 apply Tri.iff
 apply Tri.addr
 refine Tri.load 1 H rfl rfl ?_
 apply Tri.addr
 refine Tri.load 1 H rfl rfl ?_
 refine FSl.idx (by assumption) (by omega) (by omega) fun b47 o47 hb47 => ?_
 have hc47 := hb47
 obtain ⟨c47_0, c47_1, c47_2, c47_3, c47_4, c47_5, c47_6⟩ := hc47
 obtain ⟨c47_7, c47_8, c47_9⟩ := NdIn.three c47_6
 refine Tri.loadsF 0 (by decide) H rfl rfl (NdAt.cells (by assumption)) ?_
 refine Tri.newS H L fun b49 h hb49 H L => ?_
 replace H := H.d1
 refine Tri.stores 1 (by decide) H rfl rfl (Nat.le_of_ble_eq_true rfl) L (fun e => nomatch e) (by first | rfl | assumption) fun h H L => ?_
 apply Tri.addr
 refine Tri.load 1 H rfl rfl ?_
 have hnd : nds[root.toNat]? = some (nds[root.toNat]'(by omega)) := List.getElem?_eq_getElem _
 refine Tri.neq (fun e5 => ?_) (fun e5 => ?_)
 ·apply gtf
  apply pT
  apply gtf
  apply pT
  apply Tri.ift
  exact dn (fun e => nomatch e) H.x1.x1 L
 apply gff
 apply bA
 apply Tri.addr
 apply bW
 refine Tri.load 1 H rfl rfl ?_
 apply bI
 refine Tri.neq (fun e6 => ?_) (fun e6 => ?_)
 ·apply Tri.bs
  apply pF
  apply gtf
  apply pT
  apply Tri.ift
  exact dn (fun e => nomatch e) H.x1.x1 L
 apply Tri.bs
 apply pF
 apply gff
 apply bA
 apply Tri.addr
 apply bW
 refine Tri.load 1 H rfl rfl ?_
 apply bB
 apply bL
 refine FSl.len (by assumption) ?_
 apply Tri.bs
 apply bI
 refine Tri.neq (fun e7 => ?_) (fun e7 => ?_)
 ·apply Tri.bs
  apply pF
  apply Tri.ift
  exact dn (fun e => nomatch e) H.x1.x1 L
 apply Tri.bs
 apply pF
 apply Tri.iff
 apply Tri.addr
 refine Tri.load 2 H rfl rfl ?_
 apply bL
 refine FSl.len (by assumption) ?_
 apply Tri.bs
 refine Tri.mk1 H L nds.length rfl (by omega) (by omega) fun bs h hbs H L => ?_
 replace H := H.d1
 apply Tri.addr
 refine Tri.load 3 H rfl rfl ?_
 refine Tri.idxV 1 H rfl e3 (by rw [List.length_replicate]; omega) (by decide) fun b nn cc g hv _ => ?_
 cases hv
 refine Tri.storeV 1 H rfl (by rw [List.length_replicate]; omega) L (fun e => nomatch e) rfl fun h H L => ?_
 have hs1 : (List.replicate nds.length (V.bool false)).set (0 + root.toNat * 1) (.bool true) = ((List.replicate nds.length false).set root.toNat true).map V.bool := by rw [Nat.zero_add, Nat.mul_one, List.map_set, List.map_replicate]
 rw [hs1] at H
 have hnv : allOne [nv, .int .i64 root] = true := by simp only [allOne, hn.one]; rfl
 refine ls 3 H rfl rfl ?_
 refine Tri.bldS rfl ?_
 refine Tri.newS H L fun b112 h hb112 H L => ?_
 replace H := H.d1
 refine Tri.stores 1 (by decide) H rfl rfl (Nat.le_of_ble_eq_true rfl) L (fun e => nomatch e) (by first | rfl | assumption) fun h H L => ?_
 apply Tri.addr
 refine Tri.load 4 H rfl rfl ?_
 refine Tri.bldS rfl ?_
 refine Tri.bld (e := _) (s := _) H L rfl rfl fun b117 h hb117 H L => ?_
 replace H := H.d1
 have hst := Seen.start (nds := nds) (r := root.toNat) (by omega)
 have hwt := Wt.start (nds := nds) (r := root.toNat) (by omega)
 rw [show ((root.toNat : Nat) : Int) = root by omega] at hst hwt
 have hu := unseen_set (bs := List.replicate nds.length false) (i := root.toNat) (by rw [List.getElem?_replicate, if_pos (by omega)])
 have hur := unseen_rep nds.length
 refine Tri.tail (loop43 (by omega) hn (nds.length * 2 + 1) hst hwt (by simp; omega) (by omega) H.u2.u5.u3.u4.u4) L (fun e => e) fun v h B hq H L => ?_
 obtain ⟨⟨b, rfl, hb⟩, rfl⟩ := hq
 exact ⟨_, ⟨⟨b, rfl, fun e => ⟨hb e, e3, by omega, by omega, fun n hn' => by rw [hnd] at hn'; cases hn'; exact e5⟩⟩, rfl⟩, H.x1⟩
end
end Go.FP
end
