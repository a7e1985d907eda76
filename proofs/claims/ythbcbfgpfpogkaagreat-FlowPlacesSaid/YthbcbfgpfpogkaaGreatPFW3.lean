/- A part of the proof. -/
import Derived.Test.YthbcbfgpfpogkaaGreatPMidWE
set_option linter.all false
set_option warn.classDefReducibility false
noncomputable section
section
open Go Go.Mid Go.Proofs
set_option maxRecDepth 100000
namespace Go.FP
section
variable {S : Mem} {l F : List Asn} {h h0 : Hp} {ro : Bool} {Q : V → List Asn → Prop} {k : V → VH} {nds : List Nd} {n : Nd} {v nv : V}
theorem sp242 {a : Bs} (H : St (frz S :: l) h) : Tri h true l (rB S) (M 242 [.str a] h) := by
 refine t1 e242 fun L => ?_
 unfold B242
 refine tb1 (sp162 H) L fun v h B hq0 H L => ?_
 obtain ⟨⟨r0, rfl⟩, rfl⟩ := hq0
 apply Tri.not
 exact dB H L
theorem sp117 {xs : List Bs} {v : V} (hv : FSl 1 (StrAt S) v xs) (m : Nat) : ∀ {i : Int} {h : Hp} {l : List Asn} (H : St (frz S :: l) h) (h1 : 0 ≤ i) (hm : (xs.length : Int) - i ≤ (m : Int)), Tri h true l (rI S) (M 117 [v, .func 121 [] [], .int .i64 (xs.length : Nat), .int .i64 i] h) := by
 have hs := hv.small
 induction m with
 | zero =>
  intro i h l H h1 hm
  refine t4 e117 fun L => ?_
  unfold B117
  refine Tri.lss (fun e => by omega) (fun e => ?_)
  apply Tri.iff
  exact dI H L
 | succ m ih117 =>
  intro i h l H h1 hm
  refine t4 e117 fun L => ?_
  unfold B117
  refine Tri.lss (fun e0 => ?_) (fun e0 => ?_)
  ·apply Tri.ift
   refine FSl.idx (by assumption) (by omega) (by omega) fun b2 o2 hb2 => ?_
   have hc2 := hb2
   clear hc2
   refine Tri.loadF 0 H rfl (by assumption) ?_
   refine Tri.eqv (congrArg (fun x => bindS x _) (dyn_at _ _ _ _ _ _)) ?_
   refine tb1 (sp242 H) L fun v h B hq5 H L => ?_
   obtain ⟨⟨r5, rfl⟩, rfl⟩ := hq5
   cases r5
   ·apply Tri.iff
    refine Tri.addN (by omega) (by omega) ?_
    refine te1 (ih117 H (by first|omega|assumption|rfl|decide) (by first|omega|assumption|rfl|decide)) L
   ·apply Tri.ift
    exact dI H L
  ·apply Tri.iff
   exact dI H L
theorem sp284 {xs : List Bs} {v : V} (H : St (frz S :: l) h) (hv : FSl 1 (StrAt S) v xs) : Tri h true l (rI S) (M 284 [v, .func 121 [] []] h) := by
 refine t2 e284 fun L => ?_
 unfold B284
 apply bL
 refine FSl.len (by assumption) ?_
 apply Tri.bs
 refine te (sp117 hv xs.length H (by omega) (by omega)) L
theorem sp240 {xs : List Bs} {v : V} (H : St (frz S :: l) h) (hv : FSl 1 (StrAt S) v xs) : Tri h true l (rB S) (M 240 [v, .func 121 [] []] h) := by
 refine t2 e240 fun L => ?_
 unfold B240
 refine tb1 (sp284 H (by first|omega|assumption|rfl|decide)) L fun v h B hq0 H L => ?_
 obtain ⟨⟨r0, rfl⟩, rfl⟩ := hq0
 exact dB H L
theorem sp152 {xs : List Bs} {v : V} {least : Int} (H : St (frz S :: l) h) (hv : FSl 1 (StrAt S) v xs) : Tri h true l (rP S fun b => b = true → least ≤ (xs.length : Int) ∧ (xs.length : Int) ≤ 200) (M 152 [v, .int .i64 least] h) := by
 refine t2 e152 fun L => ?_
 unfold B152
 apply bL
 refine FSl.len (by assumption) ?_
 apply Tri.bs
 refine Tri.geq (fun e3 => ?_) (fun e3 => ?_)
 ·apply gtt
  apply bB
  apply bL
  refine FSl.len (by assumption) ?_
  apply Tri.bs
  apply bI
  refine Tri.leq (fun e10 => ?_) (fun e10 => ?_)
  ·apply Tri.bs
   apply pT
   apply gtt
   apply bB
   refine tb1 (sp240 H (by first|omega|assumption|rfl|decide)) L fun v h B hq15 H L => ?_
   obtain ⟨⟨r15, rfl⟩, rfl⟩ := hq15
   refine Tri.eqv (bind_notS _ _) ?_
   apply Tri.not
   apply Tri.bs
   apply pT
   exact dn (fun _ => by omega) H L
  ·apply Tri.bs
   apply pT
   apply gft
   apply pF
   exact dn (fun e => nomatch e) H L
 ·apply gft
  apply pF
  apply gft
  apply pF
  exact dn (fun e => nomatch e) H L
theorem sp103 {root : Int} {lb nb : Nat} (hn : NdsIn S nv nds) (x : NdIn S n) (hk : KidsIn nds n) (m : Nat) :
 ∀ {i : Int} {h : Hp} {l : List Asn} (H : St (frz S :: row nb [.int .u8 n.kd, .int .i64 n.num, .str n.nm, n.nsV, n.ksV, .int .i64 n.ln] :: row lb [nv, .int .i64 root] :: l) h) (h1 : 0 ≤ i) (h2 : i ≤ (n.ks.length : Int)) (h3 : (n.ks.length : Int) ≤ 4611686018427387904) (hm : (n.ks.length : Int) - i ≤ (m : Int)),
 Tri h true l (rB S) (M 103 [.ptr lb 0, .ptr nb 0, .int .i64 (n.ks.length : Nat), .int .i64 i] h) := by
 have hks := x.ks.small
 induction m with
 | zero =>
  intro i h l H h1 h2 h3 hm
  refine t4 e103 fun L => ?_
  unfold B103
  refine Tri.addN (by omega) (by omega) ?_
  refine Tri.lss (fun e => by omega) (fun e => ?_)
  apply Tri.iff
  refine Tri.geq (fun e1 => ?_) (fun e1 => ?_)
  ·apply gtt
   apply bI
   refine Tri.rem (by decide) ?_
   apply bI
   refine Tri.eql (fun e6 => ?_) (fun e6 => ?_)
   ·apply Tri.bs
    apply gtf
    apply gtt
    apply bO
    apply pT
    apply Tri.bs
    apply pT
    exact dB H.x1.x1 L
   ·apply Tri.bs
    apply gff
    apply bN
    refine ls 2 H rfl rfl ?_
    apply bN
    refine ls 1 H rfl rfl ?_
    apply bI
    refine Tri.subN (by omega) (by omega) ?_
    apply bB
    refine tb1 (sp158 H (by first|omega|assumption|rfl|decide) (by first|omega|assumption|rfl|decide) (by first|omega|assumption|rfl|decide) (by first|omega|assumption|rfl|decide) (by first|omega|assumption|rfl|decide)) L fun v h B hq16 H L => ?_
    obtain ⟨⟨r16, rfl⟩, rfl⟩ := hq16
    apply Tri.bs
    apply gtt
    apply bO
    apply pF
    apply Tri.bs
    apply pT
    exact dB H.x1.x1 L
  ·apply gft
   refine Tri.eqv (guard_u _ _ _ _) ?_
   apply gft
   apply pF
   exact dB H.x1.x1 L
 | succ m ih103 =>
  intro i h l H h1 h2 h3 hm
  refine t4 e103 fun L => ?_
  unfold B103
  refine Tri.addN (by omega) (by omega) ?_
  refine Tri.lss (fun e1 => ?_) (fun e1 => ?_)
  ·apply Tri.ift
   refine ls 2 H rfl rfl ?_
   refine ls 1 H rfl rfl ?_
   refine tb1 (sp150 H (by first|omega|assumption|rfl|decide) (by first|omega|assumption|rfl|decide) (by first|omega|assumption|rfl|decide) (by first|omega|assumption|rfl|decide) (by first|omega|assumption|rfl|decide)) L fun v h B hq5 H L => ?_
   obtain ⟨⟨r5, rfl⟩, rfl⟩ := hq5
   refine tb1 (sp98 H) L fun v h B hq6 H L => ?_
   obtain ⟨⟨r6, rfl⟩, rfl⟩ := hq6
   apply Tri.not
   cases r6
   ·apply gtf
    apply pT
    apply Tri.ift
    exact dB H.x1.x1 L
   ·apply gff
    apply bN
    refine ls 2 H rfl rfl ?_
    apply bN
    refine ls 1 H rfl rfl ?_
    apply bI
    refine Tri.addN (by omega) (by omega) ?_
    apply bB
    refine tb1 (sp158 H (by first|omega|assumption|rfl|decide) (by first|omega|assumption|rfl|decide) (by first|omega|assumption|rfl|decide) (by first|omega|assumption|rfl|decide) (by first|omega|assumption|rfl|decide)) L fun v h B hq17 H L => ?_
    obtain ⟨⟨r17, rfl⟩, rfl⟩ := hq17
    refine Tri.eqv (bind_notS _ _) ?_
    apply Tri.not
    apply Tri.bs
    apply pF
    cases r17
    ·apply Tri.ift
     exact dB H.x1.x1 L
    ·apply Tri.iff
     refine Tri.addN (by omega) (by omega) ?_
     refine te1 (ih103 H (by first|omega|assumption|rfl|decide) (by first|omega|assumption|rfl|decide) (by first|omega|assumption|rfl|decide) (by first|omega|assumption|rfl|decide)) L
  ·apply Tri.iff
   refine Tri.geq (fun e3 => ?_) (fun e3 => ?_)
   ·apply gtt
    apply bI
    refine Tri.rem (by decide) ?_
    apply bI
    refine Tri.eql (fun e8 => ?_) (fun e8 => ?_)
    ·apply Tri.bs
     apply gtf
     apply gtt
     apply bO
     apply pT
     apply Tri.bs
     apply pT
     exact dB H.x1.x1 L
    ·apply Tri.bs
     apply gff
     apply bN
     refine ls 2 H rfl rfl ?_
     apply bN
     refine ls 1 H rfl rfl ?_
     apply bI
     refine Tri.subN (by omega) (by omega) ?_
     apply bB
     refine tb1 (sp158 H (by first|omega|assumption|rfl|decide) (by first|omega|assumption|rfl|decide) (by first|omega|assumption|rfl|decide) (by first|omega|assumption|rfl|decide) (by first|omega|assumption|rfl|decide)) L fun v h B hq18 H L => ?_
     obtain ⟨⟨r18, rfl⟩, rfl⟩ := hq18
     apply Tri.bs
     apply gtt
     apply bO
     apply pF
     apply Tri.bs
     apply pT
     exact dB H.x1.x1 L
   ·apply gft
    refine Tri.eqv (guard_u _ _ _ _) ?_
    apply gft
    apply pF
    exact dB H.x1.x1 L
theorem sp160 {root : Int} (H : St (frz S :: l) h) (hn : NdsIn S nv nds) (x : NdIn S n) (hk : KidsIn nds n) (h3 : (n.ks.length : Int) ≤ 4611686018427387904) : Tri h true l (rB S) (M 160 [.agg [nv, .int .i64 root], n.V] h) := by
 refine t2 e160 fun L => ?_
 unfold B160
 have hks := x.ks
 refine Tri.newS H L fun b0 h hb0 H L => ?_
 replace H := H.d1
 refine Tri.newS H L fun b1 h hb1 H L => ?_
 replace H := H.d1
 apply Tri.addr
 refine Tri.load 1 H rfl rfl ?_
 apply bL
 refine FSl.len (by assumption) ?_
 apply Tri.bs
 refine te1 (sp103 (by first|omega|assumption|rfl|decide) (by first|omega|assumption|rfl|decide) (by first|omega|assumption|rfl|decide) _ H (by first|omega|assumption|rfl|decide) (by first|omega|assumption|rfl|decide) (by first|omega|assumption|rfl|decide) (by first|omega|assumption|rfl|decide)) L
def ShS (n : Nd) : Prop := (n.kd = 3 → 1 ≤ n.num ∧ n.num ≤ (n.ks.length : Int)) ∧ (n.kd = 5 → 1 ≤ n.ks.length) ∧ (n.kd = 6 → 2 ≤ n.ks.length) ∧ (n.kd = 7 → 2 ≤ n.ks.length) ∧ (n.kd = 9 → 1 ≤ n.ks.length) ∧ (n.kd = 10 → 1 ≤ n.ks.length) ∧ (n.kd = 11 → 1 ≤ n.ns.length) ∧ (n.kd = 2 ∨ n.kd = 9 ∨ n.kd = 10 → n.ns.length ≤ 200)
theorem sp96 {root : Int} (H : St (frz S :: l) h) (hn : NdsIn S nv nds) (x : NdIn S n) (hk : KidsIn nds n) (h3 : (n.ks.length : Int) ≤ 4611686018427387904) : Tri h true l (rP S fun b => b = true → ShS n) (M 96 [.agg [nv, .int .i64 root], n.V] h) := by
 refine t2 e96 fun L => ?_
 unfold B96
 have hks := x.ks
 have hns := x.ns
 have g1 := g49 (S := S)
 have g2 := g78 (S := S)
 refine Tri.newS H L fun b0 h hb0 H L => ?_
 replace H := H.d1
 refine Tri.newS H L fun b1 h hb1 H L => ?_
 replace H := H.d1
 apply Tri.addr
 refine Tri.load 1 H rfl rfl ?_
 apply bL
 refine FSl.len (by assumption) ?_
 apply Tri.bs
 apply Tri.addr
 refine Tri.load 1 H rfl rfl ?_
 refine Tri.eql (fun e9 => ?_) (fun e9 => ?_)
 ·apply Tri.ift
  refine ls 1 H rfl rfl ?_
  refine tb1 (sp88 H (by first|omega|assumption|rfl|decide)) L fun v h B hq12 H L => ?_
  obtain ⟨⟨r12, rfl⟩, rfl⟩ := hq12
  cases r12
  ·apply gft
   apply pF
   apply gft
   apply pF
   exact dn (fun e => nomatch e) H.x1.x1 L
  ·apply gtt
   apply bA
   apply Tri.addr
   apply bW
   refine Tri.load 1 H rfl rfl ?_
   apply bB
   refine tb1 (sp152 H (by first|omega|assumption|rfl|decide)) L fun v h B hq20 H L => ?_
   obtain ⟨⟨r20, rfl, hp20⟩, rfl⟩ := hq20
   apply Tri.bs
   apply pT
   cases r20
   ·apply gft
    apply pF
    exact dn (fun e => nomatch e) H.x1.x1 L
   ·replace hp20 := hp20 rfl
    apply gtt
    apply bN
    refine ls 2 H rfl rfl ?_
    apply bN
    refine ls 1 H rfl rfl ?_
    apply bB
    refine tb1 (sp154 H (by first|omega|assumption|rfl|decide) (by first|omega|assumption|rfl|decide) (by first|omega|assumption|rfl|decide) (by first|omega|assumption|rfl|decide) (by first|omega|assumption|rfl|decide) (by first|omega|assumption|rfl|decide) (by first|omega|assumption|rfl|decide)) L fun v h B hq30 H L => ?_
    obtain ⟨⟨r30, rfl⟩, rfl⟩ := hq30
    apply Tri.bs
    apply pT
    exact dn (fun _ => by refine ⟨fun _ => ⟨?_, ?_⟩, fun _ => ?_, fun _ => ?_, fun _ => ?_, fun _ => ?_, fun _ => ?_, fun _ => ?_, fun _ => ?_⟩ <;> first | omega | (have hq := ‹true = true → (1 : Int) ≤ (n.ns.length : Int) ∧ (n.ns.length : Int) ≤ 200› rfl; omega)) H.x1.x1 L
 ·apply Tri.iff
  refine Tri.eql (fun e11 => ?_) (fun e11 => ?_)
  ·apply Tri.ift
   apply Tri.addr
   refine Tri.load 1 H rfl rfl ?_
   refine ls 1 H rfl rfl ?_
   refine tb1 (sp88 H (by first|omega|assumption|rfl|decide)) L fun v h B hq16 H L => ?_
   obtain ⟨⟨r16, rfl⟩, rfl⟩ := hq16
   cases r16
   ·apply gft
    apply pF
    apply gft
    apply pF
    apply gft
    apply pF
    apply gft
    apply pF
    apply gft
    apply pF
    exact dn (fun e => nomatch e) H.x1.x1 L
   ·apply gtt
    apply bA
    apply Tri.addr
    apply bW
    refine Tri.load 1 H rfl rfl ?_
    apply bI
    refine Tri.geq (fun e24 => ?_) (fun e24 => ?_)
    ·apply Tri.bs
     apply pT
     apply gtt
     apply bA
     apply Tri.addr
     apply bW
     refine Tri.load 1 H rfl rfl ?_
     apply bI
     refine Tri.leq (fun e33 => ?_) (fun e33 => ?_)
     ·apply Tri.bs
      apply pT
      apply gtt
      apply bI
      refine Tri.leq (fun e38 => ?_) (fun e38 => ?_)
      ·apply Tri.bs
       apply pT
       apply gtt
       apply bN
       refine ls 2 H rfl rfl ?_
       apply bN
       refine ls 1 H rfl rfl ?_
       apply bB
       refine tb1 (sp90 H (by first|omega|assumption|rfl|decide) (by first|omega|assumption|rfl|decide) (by first|omega|assumption|rfl|decide) (by first|omega|assumption|rfl|decide) (by first|omega|assumption|rfl|decide) (by first|omega|assumption|rfl|decide)) L fun v h B hq47 H L => ?_
       obtain ⟨⟨r47, rfl⟩, rfl⟩ := hq47
       apply Tri.bs
       apply pT
       cases r47
       ·apply gft
        apply pF
        exact dn (fun e => nomatch e) H.x1.x1 L
       ·apply gtt
        apply bN
        refine ls 2 H rfl rfl ?_
        apply bN
        refine ls 1 H rfl rfl ?_
        apply bB
        refine tb1 (sp154 H (by first|omega|assumption|rfl|decide) (by first|omega|assumption|rfl|decide) (by first|omega|assumption|rfl|decide) (by first|omega|assumption|rfl|decide) (by first|omega|assumption|rfl|decide) (by first|omega|assumption|rfl|decide) (by first|omega|assumption|rfl|decide)) L fun v h B hq57 H L => ?_
        obtain ⟨⟨r57, rfl⟩, rfl⟩ := hq57
        apply Tri.bs
        apply pT
        exact dn (fun _ => by refine ⟨fun _ => ⟨?_, ?_⟩, fun _ => ?_, fun _ => ?_, fun _ => ?_, fun _ => ?_, fun _ => ?_, fun _ => ?_, fun _ => ?_⟩ <;> first | omega | (have hq := ‹true = true → (1 : Int) ≤ (n.ns.length : Int) ∧ (n.ns.length : Int) ≤ 200› rfl; omega)) H.x1.x1 L
      ·apply Tri.bs
       apply pT
       apply gft
       apply pF
       apply gft
       apply pF
       exact dn (fun e => nomatch e) H.x1.x1 L
     ·apply Tri.bs
      apply pT
      apply gft
      apply pF
      apply gft
      apply pF
      apply gft
      apply pF
      exact dn (fun e => nomatch e) H.x1.x1 L
    ·apply Tri.bs
     apply pT
     apply gft
     apply pF
     apply gft
     apply pF
     apply gft
     apply pF
     apply gft
     apply pF
     exact dn (fun e => nomatch e) H.x1.x1 L
  ·apply Tri.iff
   refine Tri.eql (fun e13 => ?_) (fun e13 => ?_)
   ·apply Tri.ift
    refine ls 1 H rfl rfl ?_
    refine tb1 (sp88 H (by first|omega|assumption|rfl|decide)) L fun v h B hq16 H L => ?_
    obtain ⟨⟨r16, rfl⟩, rfl⟩ := hq16
    cases r16
    ·apply gft
     apply pF
     apply gft
     refine Tri.eqv (guard_u _ _ _ _) ?_
     apply gft
     apply pF
     exact dn (fun e => nomatch e) H.x1.x1 L
    ·apply gtt
     apply bI
     refine Tri.eql (fun e20 => ?_) (fun e20 => ?_)
     ·apply Tri.bs
      apply pT
      apply gtt
      apply bN
      refine ls 2 H rfl rfl ?_
      apply bN
      refine ls 1 H rfl rfl ?_
      apply bB
      refine tb1 (sp150 H (by first|omega|assumption|rfl|decide) (by first|omega|assumption|rfl|decide) (by first|omega|assumption|rfl|decide) (by first|omega|assumption|rfl|decide) (by first|omega|assumption|rfl|decide)) L fun v h B hq29 H L => ?_
      obtain ⟨⟨r29, rfl⟩, rfl⟩ := hq29
      apply bI
      refine Tri.eql (fun e31 => ?_) (fun e31 => ?_)
      ·apply Tri.bs
       apply gtf
       apply gtt
       apply bO
       apply pT
       apply Tri.bs
       apply pT
       exact dn (fun _ => by refine ⟨fun _ => ⟨?_, ?_⟩, fun _ => ?_, fun _ => ?_, fun _ => ?_, fun _ => ?_, fun _ => ?_, fun _ => ?_, fun _ => ?_⟩ <;> first | omega | (have hq := ‹true = true → (1 : Int) ≤ (n.ns.length : Int) ∧ (n.ns.length : Int) ≤ 200› rfl; omega)) H.x1.x1 L
      ·apply Tri.bs
       apply gff
       apply bN
       refine ls 2 H rfl rfl ?_
       apply bN
       refine ls 1 H rfl rfl ?_
       apply bB
       refine tb1 (sp150 H (by first|omega|assumption|rfl|decide) (by first|omega|assumption|rfl|decide) (by first|omega|assumption|rfl|decide) (by first|omega|assumption|rfl|decide) (by first|omega|assumption|rfl|decide)) L fun v h B hq39 H L => ?_
       obtain ⟨⟨r39, rfl⟩, rfl⟩ := hq39
       apply bI
       exact dn (fun _ => by refine ⟨fun _ => ⟨?_, ?_⟩, fun _ => ?_, fun _ => ?_, fun _ => ?_, fun _ => ?_, fun _ => ?_, fun _ => ?_, fun _ => ?_⟩ <;> first | omega | (have hq := ‹true = true → (1 : Int) ≤ (n.ns.length : Int) ∧ (n.ns.length : Int) ≤ 200› rfl; omega)) H.x1.x1 L
     ·apply Tri.bs
      apply pT
      apply gft
      refine Tri.eqv (guard_u _ _ _ _) ?_
      apply gft
      apply pF
      exact dn (fun e => nomatch e) H.x1.x1 L
   ·apply Tri.iff
    refine Tri.eql (fun e15 => ?_) (fun e15 => ?_)
    ·apply Tri.ift
     refine ls 1 H rfl rfl ?_
     refine tb1 (sp88 H (by first|omega|assumption|rfl|decide)) L fun v h B hq18 H L => ?_
     obtain ⟨⟨r18, rfl⟩, rfl⟩ := hq18
     cases r18
     ·apply gft
      apply pF
      apply gft
      apply pF
      exact dn (fun e => nomatch e) H.x1.x1 L
     ·apply gtt
      apply bI
      refine Tri.eql (fun e22 => ?_) (fun e22 => ?_)
      ·apply Tri.bs
       apply pT
       apply gtt
       apply bN
       refine ls 2 H rfl rfl ?_
       apply bN
       refine ls 1 H rfl rfl ?_
       apply bB
       refine tb1 (sp158 H (by first|omega|assumption|rfl|decide) (by first|omega|assumption|rfl|decide) (by first|omega|assumption|rfl|decide) (by first|omega|assumption|rfl|decide) (by first|omega|assumption|rfl|decide)) L fun v h B hq31 H L => ?_
       obtain ⟨⟨r31, rfl⟩, rfl⟩ := hq31
       apply Tri.bs
       apply pT
       exact dn (fun _ => by refine ⟨fun _ => ⟨?_, ?_⟩, fun _ => ?_, fun _ => ?_, fun _ => ?_, fun _ => ?_, fun _ => ?_, fun _ => ?_, fun _ => ?_⟩ <;> first | omega | (have hq := ‹true = true → (1 : Int) ≤ (n.ns.length : Int) ∧ (n.ns.length : Int) ≤ 200› rfl; omega)) H.x1.x1 L
      ·apply Tri.bs
       apply pT
       apply gft
       apply pF
       exact dn (fun e => nomatch e) H.x1.x1 L
    ·apply Tri.iff
     refine Tri.eql (fun e17 => ?_) (fun e17 => ?_)
     ·apply Tri.ift
      refine ls 1 H rfl rfl ?_
      refine tb1 (sp88 H (by first|omega|assumption|rfl|decide)) L fun v h B hq20 H L => ?_
      obtain ⟨⟨r20, rfl⟩, rfl⟩ := hq20
      cases r20
      ·apply gft
       apply pF
       apply gft
       apply pF
       apply gft
       apply pF
       exact dn (fun e => nomatch e) H.x1.x1 L
      ·apply gtt
       apply bI
       refine Tri.eql (fun e24 => ?_) (fun e24 => ?_)
       ·apply Tri.bs
        apply pT
        apply gtt
        apply bN
        refine ls 2 H rfl rfl ?_
        apply bN
        refine ls 1 H rfl rfl ?_
        apply bB
        refine tb1 (sp90 H (by first|omega|assumption|rfl|decide) (by first|omega|assumption|rfl|decide) (by first|omega|assumption|rfl|decide) (by first|omega|assumption|rfl|decide) (by first|omega|assumption|rfl|decide) (by first|omega|assumption|rfl|decide)) L fun v h B hq33 H L => ?_
        obtain ⟨⟨r33, rfl⟩, rfl⟩ := hq33
        apply Tri.bs
        apply pT
        cases r33
        ·apply gft
         apply pF
         exact dn (fun e => nomatch e) H.x1.x1 L
        ·apply gtt
         apply bN
         refine ls 2 H rfl rfl ?_
         apply bN
         refine ls 1 H rfl rfl ?_
         apply bB
         refine tb1 (sp158 H (by first|omega|assumption|rfl|decide) (by first|omega|assumption|rfl|decide) (by first|omega|assumption|rfl|decide) (by first|omega|assumption|rfl|decide) (by first|omega|assumption|rfl|decide)) L fun v h B hq43 H L => ?_
         obtain ⟨⟨r43, rfl⟩, rfl⟩ := hq43
         apply Tri.bs
         apply pT
         exact dn (fun _ => by refine ⟨fun _ => ⟨?_, ?_⟩, fun _ => ?_, fun _ => ?_, fun _ => ?_, fun _ => ?_, fun _ => ?_, fun _ => ?_, fun _ => ?_⟩ <;> first | omega | (have hq := ‹true = true → (1 : Int) ≤ (n.ns.length : Int) ∧ (n.ns.length : Int) ≤ 200› rfl; omega)) H.x1.x1 L
       ·apply Tri.bs
        apply pT
        apply gft
        apply pF
        apply gft
        apply pF
        exact dn (fun e => nomatch e) H.x1.x1 L
     ·apply Tri.iff
      refine Tri.eql (fun e19 => ?_) (fun e19 => ?_)
      ·apply Tri.ift
       refine ls 1 H rfl rfl ?_
       refine tb1 (sp88 H (by first|omega|assumption|rfl|decide)) L fun v h B hq22 H L => ?_
       obtain ⟨⟨r22, rfl⟩, rfl⟩ := hq22
       cases r22
       ·apply gft
        apply pF
        apply gft
        apply pF
        apply gft
        apply pF
        exact dn (fun e => nomatch e) H.x1.x1 L
       ·apply gtt
        apply bI
        refine Tri.eql (fun e26 => ?_) (fun e26 => ?_)
        ·apply Tri.bs
         apply pT
         apply gtt
         apply bN
         refine ls 2 H rfl rfl ?_
         apply bN
         refine ls 1 H rfl rfl ?_
         apply bB
         refine tb1 (sp158 H (by first|omega|assumption|rfl|decide) (by first|omega|assumption|rfl|decide) (by first|omega|assumption|rfl|decide) (by first|omega|assumption|rfl|decide) (by first|omega|assumption|rfl|decide)) L fun v h B hq35 H L => ?_
         obtain ⟨⟨r35, rfl⟩, rfl⟩ := hq35
         apply Tri.bs
         apply pT
         cases r35
         ·apply gft
          apply pF
          exact dn (fun e => nomatch e) H.x1.x1 L
         ·apply gtt
          apply bN
          refine ls 2 H rfl rfl ?_
          apply bN
          refine ls 1 H rfl rfl ?_
          apply bB
          refine tb1 (sp90 H (by first|omega|assumption|rfl|decide) (by first|omega|assumption|rfl|decide) (by first|omega|assumption|rfl|decide) (by first|omega|assumption|rfl|decide) (by first|omega|assumption|rfl|decide) (by first|omega|assumption|rfl|decide)) L fun v h B hq45 H L => ?_
          obtain ⟨⟨r45, rfl⟩, rfl⟩ := hq45
          apply Tri.bs
          apply pT
          exact dn (fun _ => by refine ⟨fun _ => ⟨?_, ?_⟩, fun _ => ?_, fun _ => ?_, fun _ => ?_, fun _ => ?_, fun _ => ?_, fun _ => ?_, fun _ => ?_⟩ <;> first | omega | (have hq := ‹true = true → (1 : Int) ≤ (n.ns.length : Int) ∧ (n.ns.length : Int) ≤ 200› rfl; omega)) H.x1.x1 L
        ·apply Tri.bs
         apply pT
         apply gft
         apply pF
         apply gft
         apply pF
         exact dn (fun e => nomatch e) H.x1.x1 L
      ·apply Tri.iff
       refine Tri.eql (fun e21 => ?_) (fun e21 => ?_)
       ·apply Tri.ift
        refine ls 1 H rfl rfl ?_
        refine tb1 (sp88 H (by first|omega|assumption|rfl|decide)) L fun v h B hq24 H L => ?_
        obtain ⟨⟨r24, rfl⟩, rfl⟩ := hq24
        cases r24
        ·apply gft
         apply pF
         exact dn (fun e => nomatch e) H.x1.x1 L
        ·apply gtt
         apply bN
         refine ls 2 H rfl rfl ?_
         apply bN
         refine ls 1 H rfl rfl ?_
         apply bB
         refine tb1 (sp160 H (by first|omega|assumption|rfl|decide) (by first|omega|assumption|rfl|decide) (by first|omega|assumption|rfl|decide) (by first|omega|assumption|rfl|decide)) L fun v h B hq32 H L => ?_
         obtain ⟨⟨r32, rfl⟩, rfl⟩ := hq32
         apply Tri.bs
         apply pT
         exact dn (fun _ => by refine ⟨fun _ => ⟨?_, ?_⟩, fun _ => ?_, fun _ => ?_, fun _ => ?_, fun _ => ?_, fun _ => ?_, fun _ => ?_, fun _ => ?_⟩ <;> first | omega | (have hq := ‹true = true → (1 : Int) ≤ (n.ns.length : Int) ∧ (n.ns.length : Int) ≤ 200› rfl; omega)) H.x1.x1 L
       ·apply Tri.iff
        refine Tri.eql (fun e23 => ?_) (fun e23 => ?_)
        ·apply Tri.ift
         refine ls 1 H rfl rfl ?_
         refine tb1 (sp88 H (by first|omega|assumption|rfl|decide)) L fun v h B hq26 H L => ?_
         obtain ⟨⟨r26, rfl⟩, rfl⟩ := hq26
         cases r26
         ·apply gft
          apply pF
          apply gft
          apply pF
          apply gft
          refine Tri.eqv (guard_u _ _ _ _) ?_
          apply gft
          apply pF
          apply gft
          apply pF
          apply gft
          apply pF
          exact dn (fun e => nomatch e) H.x1.x1 L
         ·apply gtt
          apply bA
          apply Tri.addr
          apply bW
          refine Tri.load 1 H rfl rfl ?_
          apply bB
          apply bL
          refine FSl.len (by assumption) ?_
          apply Tri.bs
          apply bI
          refine Tri.eql (fun e38 => ?_) (fun e38 => ?_)
          ·apply Tri.bs
           apply pT
           apply gtt
           apply bA
           apply Tri.addr
           apply bW
           refine Tri.load 1 H rfl rfl ?_
           refine Tri.eqv (bind_idxS _ _) ?_
           refine FSl.idx (by assumption) (by omega) (by omega) fun b47 o47 hb47 => ?_
           have hc47 := hb47
           clear hc47
           apply bW
           refine Tri.loadF 0 H rfl (by assumption) ?_
           apply bB
           refine tb1 (sp162 H) L fun v h B hq51 H L => ?_
           obtain ⟨⟨r51, rfl⟩, rfl⟩ := hq51
           apply Tri.bs
           apply pT
           cases r51
           ·apply gft
            refine Tri.eqv (guard_u _ _ _ _) ?_
            apply gft
            apply pF
            apply gft
            apply pF
            apply gft
            apply pF
            exact dn (fun e => nomatch e) H.x1.x1 L
           ·apply gtt
            apply bI
            refine Tri.eql (fun e57 => ?_) (fun e57 => ?_)
            ·apply Tri.bs
             apply gtf
             apply gtt
             apply bO
             apply pT
             apply Tri.bs
             apply pT
             apply gtt
             apply bN
             refine ls 2 H rfl rfl ?_
             apply bN
             refine ls 1 H rfl rfl ?_
             apply bI
             refine Tri.subN (by omega) (by omega) ?_
             apply bB
             refine tb1 (sp90 H (by first|omega|assumption|rfl|decide) (by first|omega|assumption|rfl|decide) (by first|omega|assumption|rfl|decide) (by first|omega|assumption|rfl|decide) (by first|omega|assumption|rfl|decide) (by first|omega|assumption|rfl|decide)) L fun v h B hq73 H L => ?_
             obtain ⟨⟨r73, rfl⟩, rfl⟩ := hq73
             apply Tri.bs
             apply pT
             cases r73
             ·apply gft
              apply pF
              exact dn (fun e => nomatch e) H.x1.x1 L
             ·apply gtt
              apply bN
              refine ls 2 H rfl rfl ?_
              apply bN
              refine ls 1 H rfl rfl ?_
              apply bI
              refine Tri.subN (by omega) (by omega) ?_
              apply bB
              refine tb1 (sp158 H (by first|omega|assumption|rfl|decide) (by first|omega|assumption|rfl|decide) (by first|omega|assumption|rfl|decide) (by first|omega|assumption|rfl|decide) (by first|omega|assumption|rfl|decide)) L fun v h B hq85 H L => ?_
              obtain ⟨⟨r85, rfl⟩, rfl⟩ := hq85
              apply Tri.bs
              apply pT
              exact dn (fun _ => by refine ⟨fun _ => ⟨?_, ?_⟩, fun _ => ?_, fun _ => ?_, fun _ => ?_, fun _ => ?_, fun _ => ?_, fun _ => ?_, fun _ => ?_⟩ <;> first | omega | (have hq := ‹true = true → (1 : Int) ≤ (n.ns.length : Int) ∧ (n.ns.length : Int) ≤ 200› rfl; omega)) H.x1.x1 L
            ·apply Tri.bs
             apply gff
             apply bI
             refine Tri.eql (fun e61 => ?_) (fun e61 => ?_)
             ·apply Tri.bs
              apply gtt
              apply bO
              apply pF
              apply Tri.bs
              apply pT
              apply gtt
              apply bN
              refine ls 2 H rfl rfl ?_
              apply bN
              refine ls 1 H rfl rfl ?_
              apply bI
              refine Tri.subN (by omega) (by omega) ?_
              apply bB
              refine tb1 (sp90 H (by first|omega|assumption|rfl|decide) (by first|omega|assumption|rfl|decide) (by first|omega|assumption|rfl|decide) (by first|omega|assumption|rfl|decide) (by first|omega|assumption|rfl|decide) (by first|omega|assumption|rfl|decide)) L fun v h B hq76 H L => ?_
              obtain ⟨⟨r76, rfl⟩, rfl⟩ := hq76
              apply Tri.bs
              apply pT
              cases r76
              ·apply gft
               apply pF
               exact dn (fun e => nomatch e) H.x1.x1 L
              ·apply gtt
               apply bN
               refine ls 2 H rfl rfl ?_
               apply bN
               refine ls 1 H rfl rfl ?_
               apply bI
               refine Tri.subN (by omega) (by omega) ?_
               apply bB
               refine tb1 (sp158 H (by first|omega|assumption|rfl|decide) (by first|omega|assumption|rfl|decide) (by first|omega|assumption|rfl|decide) (by first|omega|assumption|rfl|decide) (by first|omega|assumption|rfl|decide)) L fun v h B hq88 H L => ?_
               obtain ⟨⟨r88, rfl⟩, rfl⟩ := hq88
               apply Tri.bs
               apply pT
               exact dn (fun _ => by refine ⟨fun _ => ⟨?_, ?_⟩, fun _ => ?_, fun _ => ?_, fun _ => ?_, fun _ => ?_, fun _ => ?_, fun _ => ?_, fun _ => ?_⟩ <;> first | omega | (have hq := ‹true = true → (1 : Int) ≤ (n.ns.length : Int) ∧ (n.ns.length : Int) ≤ 200› rfl; omega)) H.x1.x1 L
             ·apply Tri.bs
              apply gtt
              apply bO
              apply pF
              apply Tri.bs
              apply pT
              apply gft
              apply pF
              apply gft
              apply pF
              exact dn (fun e => nomatch e) H.x1.x1 L
          ·apply Tri.bs
           apply pT
           apply gft
           apply pF
           apply gft
           refine Tri.eqv (guard_u _ _ _ _) ?_
           apply gft
           apply pF
           apply gft
           apply pF
           apply gft
           apply pF
           exact dn (fun e => nomatch e) H.x1.x1 L
        ·apply Tri.iff
         refine Tri.eql (fun e25 => ?_) (fun e25 => ?_)
         ·apply Tri.ift
          refine ls 1 H rfl rfl ?_
          refine tb1 (sp88 H (by first|omega|assumption|rfl|decide)) L fun v h B hq28 H L => ?_
          obtain ⟨⟨r28, rfl⟩, rfl⟩ := hq28
          cases r28
          ·apply gft
           apply pF
           apply gft
           apply pF
           apply gft
           apply pF
           apply gft
           apply pF
           exact dn (fun e => nomatch e) H.x1.x1 L
          ·apply gtt
           apply bA
           apply Tri.addr
           apply bW
           refine Tri.load 1 H rfl rfl ?_
           apply bB
           refine tb1 (sp152 H (by first|omega|assumption|rfl|decide)) L fun v h B hq36 H L => ?_
           obtain ⟨⟨r36, rfl, hp36⟩, rfl⟩ := hq36
           apply Tri.bs
           apply pT
           cases r36
           ·apply gft
            apply pF
            apply gft
            apply pF
            apply gft
            apply pF
            exact dn (fun e => nomatch e) H.x1.x1 L
           ·replace hp36 := hp36 rfl
            apply gtt
            apply bI
            refine Tri.gtr (fun e42 => ?_) (fun e42 => ?_)
            ·apply Tri.bs
             apply pT
             apply gtt
             apply bN
             refine ls 2 H rfl rfl ?_
             apply bN
             refine ls 1 H rfl rfl ?_
             apply bI
             refine Tri.subN (by omega) (by omega) ?_
             apply bB
             refine tb1 (sp154 H (by first|omega|assumption|rfl|decide) (by first|omega|assumption|rfl|decide) (by first|omega|assumption|rfl|decide) (by first|omega|assumption|rfl|decide) (by first|omega|assumption|rfl|decide) (by first|omega|assumption|rfl|decide) (by first|omega|assumption|rfl|decide)) L fun v h B hq53 H L => ?_
             obtain ⟨⟨r53, rfl⟩, rfl⟩ := hq53
             apply Tri.bs
             apply pT
             cases r53
             ·apply gft
              apply pF
              exact dn (fun e => nomatch e) H.x1.x1 L
             ·apply gtt
              apply bN
              refine ls 2 H rfl rfl ?_
              apply bN
              refine ls 1 H rfl rfl ?_
              apply bI
              refine Tri.subN (by omega) (by omega) ?_
              apply bB
              refine tb1 (sp158 H (by first|omega|assumption|rfl|decide) (by first|omega|assumption|rfl|decide) (by first|omega|assumption|rfl|decide) (by first|omega|assumption|rfl|decide) (by first|omega|assumption|rfl|decide)) L fun v h B hq65 H L => ?_
              obtain ⟨⟨r65, rfl⟩, rfl⟩ := hq65
              apply Tri.bs
              apply pT
              exact dn (fun _ => by refine ⟨fun _ => ⟨?_, ?_⟩, fun _ => ?_, fun _ => ?_, fun _ => ?_, fun _ => ?_, fun _ => ?_, fun _ => ?_, fun _ => ?_⟩ <;> first | omega | (have hq := ‹true = true → (1 : Int) ≤ (n.ns.length : Int) ∧ (n.ns.length : Int) ≤ 200› rfl; omega)) H.x1.x1 L
            ·apply Tri.bs
             apply pT
             apply gft
             apply pF
             apply gft
             apply pF
             exact dn (fun e => nomatch e) H.x1.x1 L
         ·apply Tri.iff
          refine Tri.eql (fun e27 => ?_) (fun e27 => ?_)
          ·apply Tri.ift
           refine ls 1 H rfl rfl ?_
           refine tb1 (sp88 H (by first|omega|assumption|rfl|decide)) L fun v h B hq30 H L => ?_
           obtain ⟨⟨r30, rfl⟩, rfl⟩ := hq30
           cases r30
           ·apply gft
            apply pF
            apply gft
            apply pF
            apply gft
            apply pF
            apply gft
            apply pF
            exact dn (fun e => nomatch e) H.x1.x1 L
           ·apply gtt
            apply bA
            apply Tri.addr
            apply bW
            refine Tri.load 1 H rfl rfl ?_
            apply bB
            apply bL
            refine FSl.len (by assumption) ?_
            apply Tri.bs
            apply bI
            refine Tri.eql (fun e42 => ?_) (fun e42 => ?_)
            ·apply Tri.bs
             apply pT
             apply gtt
             apply bA
             apply Tri.addr
             apply bW
             refine Tri.load 1 H rfl rfl ?_
             refine Tri.eqv (bind_idxS _ _) ?_
             refine FSl.idx (by assumption) (by omega) (by omega) fun b51 o51 hb51 => ?_
             have hc51 := hb51
             clear hc51
             apply bW
             refine Tri.loadF 0 H rfl (by assumption) ?_
             apply bB
             refine tb1 (sp162 H) L fun v h B hq55 H L => ?_
             obtain ⟨⟨r55, rfl⟩, rfl⟩ := hq55
             apply Tri.bs
             apply pT
             cases r55
             ·apply gft
              apply pF
              apply gft
              apply pF
              exact dn (fun e => nomatch e) H.x1.x1 L
             ·apply gtt
              apply bI
              refine Tri.eql (fun e61 => ?_) (fun e61 => ?_)
              ·apply Tri.bs
               apply pT
               apply gtt
               apply bN
               refine ls 2 H rfl rfl ?_
               apply bN
               refine ls 1 H rfl rfl ?_
               apply bB
               refine tb1 (sp150 H (by first|omega|assumption|rfl|decide) (by first|omega|assumption|rfl|decide) (by first|omega|assumption|rfl|decide) (by first|omega|assumption|rfl|decide) (by first|omega|assumption|rfl|decide)) L fun v h B hq70 H L => ?_
               obtain ⟨⟨r70, rfl⟩, rfl⟩ := hq70
               apply bI
               exact dn (fun _ => by refine ⟨fun _ => ⟨?_, ?_⟩, fun _ => ?_, fun _ => ?_, fun _ => ?_, fun _ => ?_, fun _ => ?_, fun _ => ?_, fun _ => ?_⟩ <;> first | omega | (have hq := ‹true = true → (1 : Int) ≤ (n.ns.length : Int) ∧ (n.ns.length : Int) ≤ 200› rfl; omega)) H.x1.x1 L
              ·apply Tri.bs
               apply pT
               apply gft
               apply pF
               exact dn (fun e => nomatch e) H.x1.x1 L
            ·apply Tri.bs
             apply pT
             apply gft
             apply pF
             apply gft
             apply pF
             apply gft
             apply pF
             exact dn (fun e => nomatch e) H.x1.x1 L
          ·apply Tri.iff
           refine Tri.eql (fun e29 => ?_) (fun e29 => ?_)
           ·apply Tri.ift
            refine ls 1 H rfl rfl ?_
            refine tb1 (sp88 H (by first|omega|assumption|rfl|decide)) L fun v h B hq32 H L => ?_
            obtain ⟨⟨r32, rfl⟩, rfl⟩ := hq32
            cases r32
            ·apply gft
             apply pF
             exact dn (fun e => nomatch e) H.x1.x1 L
            ·apply gtt
             apply bN
             refine ls 2 H rfl rfl ?_
             apply bN
             refine ls 1 H rfl rfl ?_
             apply bB
             refine tb1 (sp154 H (by first|omega|assumption|rfl|decide) (by first|omega|assumption|rfl|decide) (by first|omega|assumption|rfl|decide) (by first|omega|assumption|rfl|decide) (by first|omega|assumption|rfl|decide) (by first|omega|assumption|rfl|decide) (by first|omega|assumption|rfl|decide)) L fun v h B hq40 H L => ?_
             obtain ⟨⟨r40, rfl⟩, rfl⟩ := hq40
             apply Tri.bs
             apply pT
             exact dn (fun _ => by refine ⟨fun _ => ⟨?_, ?_⟩, fun _ => ?_, fun _ => ?_, fun _ => ?_, fun _ => ?_, fun _ => ?_, fun _ => ?_, fun _ => ?_⟩ <;> first | omega | (have hq := ‹true = true → (1 : Int) ≤ (n.ns.length : Int) ∧ (n.ns.length : Int) ≤ 200› rfl; omega)) H.x1.x1 L
           ·apply Tri.iff
            refine Tri.eql (fun e31 => ?_) (fun e31 => ?_)
            ·apply Tri.ift
             refine ls 1 H rfl rfl ?_
             refine tb1 (sp88 H (by first|omega|assumption|rfl|decide)) L fun v h B hq34 H L => ?_
             obtain ⟨⟨r34, rfl⟩, rfl⟩ := hq34
             cases r34
             ·apply gft
              apply pF
              exact dn (fun e => nomatch e) H.x1.x1 L
             ·apply gtt
              apply bI
              exact dn (fun _ => by refine ⟨fun _ => ⟨?_, ?_⟩, fun _ => ?_, fun _ => ?_, fun _ => ?_, fun _ => ?_, fun _ => ?_, fun _ => ?_, fun _ => ?_⟩ <;> first | omega | (have hq := ‹true = true → (1 : Int) ≤ (n.ns.length : Int) ∧ (n.ns.length : Int) ≤ 200› rfl; omega)) H.x1.x1 L
            ·apply Tri.iff
             refine ls 1 H rfl rfl ?_
             refine tb1 (sp88 H (by first|omega|assumption|rfl|decide)) L fun v h B hq34 H L => ?_
             obtain ⟨⟨r34, rfl⟩, rfl⟩ := hq34
             cases r34
             ·apply gft
              apply pF
              apply gft
              apply pF
              exact dn (fun e => nomatch e) H.x1.x1 L
             ·apply gtt
              apply bI
              refine Tri.eql (fun e38 => ?_) (fun e38 => ?_)
              ·apply Tri.bs
               apply pT
               apply gtt
               apply bA
               apply Tri.addr
               apply bW
               refine Tri.load 1 H rfl rfl ?_
               apply bB
               refine tb1 (sp162 H) L fun v h B hq47 H L => ?_
               obtain ⟨⟨r47, rfl⟩, rfl⟩ := hq47
               apply Tri.bs
               apply pT
               exact dn (fun _ => by refine ⟨fun _ => ⟨?_, ?_⟩, fun _ => ?_, fun _ => ?_, fun _ => ?_, fun _ => ?_, fun _ => ?_, fun _ => ?_, fun _ => ?_⟩ <;> first | omega | (have hq := ‹true = true → (1 : Int) ≤ (n.ns.length : Int) ∧ (n.ns.length : Int) ≤ 200› rfl; omega)) H.x1.x1 L
              ·apply Tri.bs
               apply pT
               apply gft
               apply pF
               exact dn (fun e => nomatch e) H.x1.x1 L
def ShE (n : Nd) : Prop := (n.kd = 26 → 1 ≤ n.ks.length) ∧ (n.kd = 34 → 1 ≤ n.ks.length) ∧ (n.kd = 31 → 2 ≤ n.ks.length) ∧ (n.kd = 32 → 2 ≤ n.ks.length) ∧ (n.kd = 33 → 2 ≤ n.ks.length) ∧ (n.kd = 26 → n.ns.length ≤ 200)
theorem sp73 {root : Int} {lb nb : Nat} {b : Bool} (H : St (frz S :: row nb [.int .u8 n.kd, .int .i64 n.num, .str n.nm, n.nsV, n.ksV, .int .i64 n.ln] :: row lb [nv, .int .i64 root] :: l) h) (hn : NdsIn S nv nds) (x : NdIn S n) (hk : KidsIn nds n) (h3 : (n.ks.length : Int) ≤ 4611686018427387904)
 (hb : b = true → n.kd = 32 ∨ n.kd = 33 ∨ n.kd = 37) (hd : n.kd ≠ 26 ∧ n.kd ≠ 31) (hc : b = false → n.kd ≠ 32 ∧ n.kd ≠ 33) :
 Tri h true l (rP S fun b => b = true → ShE n) (M 73 [.ptr lb 0, .ptr nb 0, .int .i64 (n.ks.length : Nat), .int .u8 n.kd, .bool b] h) := by
 refine t5 e73 fun L => ?_
 unfold B73
 have hks := x.ks
 have g1 := g84 (S := S)
 cases b
 ·have hc := hc rfl
  apply Tri.iff
  refine Tri.eql (fun e1 => ?_) (fun e1 => ?_)
  ·apply Tri.ift
   refine ls 1 H rfl rfl ?_
   refine tb1 (sp88 H (by first|omega|assumption|rfl|decide)) L fun v h B hq4 H L => ?_
   obtain ⟨⟨r4, rfl⟩, rfl⟩ := hq4
   cases r4
   ·apply gft
    apply pF
    apply gft
    apply pF
    apply gft
    apply pF
    exact dn (fun e => nomatch e) H.x1.x1 L
   ·apply gtt
    apply bA
    apply Tri.addr
    apply bW
    refine Tri.load 1 H rfl rfl ?_
    apply bI
    refine Tri.geq (fun e12 => ?_) (fun e12 => ?_)
    ·apply Tri.bs
     apply pT
     apply gtt
     apply bA
     apply Tri.addr
     apply bW
     refine Tri.load 1 H rfl rfl ?_
     apply bI
     refine Tri.leq (fun e21 => ?_) (fun e21 => ?_)
     ·apply Tri.bs
      apply pT
      apply gtt
      apply bN
      refine ls 2 H rfl rfl ?_
      apply bN
      refine ls 1 H rfl rfl ?_
      apply bB
      refine tb1 (sp164 H (by first|omega|assumption|rfl|decide) (by first|omega|assumption|rfl|decide) (by first|omega|assumption|rfl|decide)) L fun v h B hq30 H L => ?_
      obtain ⟨⟨r30, rfl, hp30⟩, rfl⟩ := hq30
      apply Tri.bs
      apply pT
      exact dn (fun e => by have hp30 := hp30 e; refine ⟨fun _ => ?_, fun _ => ?_, fun _ => ?_, fun _ => ?_, fun _ => ?_, fun _ => ?_⟩ <;> first | omega | (have hq := ‹true = true → (0 : Int) ≤ (n.ns.length : Int) ∧ (n.ns.length : Int) ≤ 200› rfl; omega)) H.x1.x1 L
     ·apply Tri.bs
      apply pT
      apply gft
      apply pF
      exact dn (fun e => nomatch e) H.x1.x1 L
    ·apply Tri.bs
     apply pT
     apply gft
     apply pF
     apply gft
     apply pF
     exact dn (fun e => nomatch e) H.x1.x1 L
  ·apply Tri.iff
   refine Tri.eql (fun e3 => ?_) (fun e3 => ?_)
   ·apply Tri.ift
    refine ls 1 H rfl rfl ?_
    refine tb1 (sp88 H (by first|omega|assumption|rfl|decide)) L fun v h B hq6 H L => ?_
    obtain ⟨⟨r6, rfl⟩, rfl⟩ := hq6
    cases r6
    ·apply gft
     apply pF
     exact dn (fun e => nomatch e) H.x1.x1 L
    ·apply gtt
     apply bN
     refine ls 2 H rfl rfl ?_
     apply bN
     refine ls 1 H rfl rfl ?_
     apply bB
     refine tb1 (sp90 H (by first|omega|assumption|rfl|decide) (by first|omega|assumption|rfl|decide) (by first|omega|assumption|rfl|decide) (by first|omega|assumption|rfl|decide) (by first|omega|assumption|rfl|decide) (by first|omega|assumption|rfl|decide)) L fun v h B hq14 H L => ?_
     obtain ⟨⟨r14, rfl⟩, rfl⟩ := hq14
     apply Tri.bs
     apply pT
     exact dn (fun _ => by refine ⟨fun _ => ?_, fun _ => ?_, fun _ => ?_, fun _ => ?_, fun _ => ?_, fun _ => ?_⟩ <;> first | omega | (have hq := ‹true = true → (0 : Int) ≤ (n.ns.length : Int) ∧ (n.ns.length : Int) ≤ 200› rfl; omega)) H.x1.x1 L
   ·apply Tri.iff
    refine ls 1 H rfl rfl ?_
    refine tb1 (sp88 H (by first|omega|assumption|rfl|decide)) L fun v h B hq6 H L => ?_
    obtain ⟨⟨r6, rfl⟩, rfl⟩ := hq6
    cases r6
    ·apply gft
     apply pF
     exact dn (fun e => nomatch e) H.x1.x1 L
    ·apply gtt
     apply bN
     refine ls 2 H rfl rfl ?_
     apply bN
     refine ls 1 H rfl rfl ?_
     apply bB
     refine tb1 (sp164 H (by first|omega|assumption|rfl|decide) (by first|omega|assumption|rfl|decide) (by first|omega|assumption|rfl|decide)) L fun v h B hq14 H L => ?_
     obtain ⟨⟨r14, rfl, hp14⟩, rfl⟩ := hq14
     apply Tri.bs
     apply pT
     exact dn (fun e => by have hp14 := hp14 e; refine ⟨fun _ => ?_, fun _ => ?_, fun _ => ?_, fun _ => ?_, fun _ => ?_, fun _ => ?_⟩ <;> first | omega | (have hq := ‹true = true → (0 : Int) ≤ (n.ns.length : Int) ∧ (n.ns.length : Int) ≤ 200› rfl; omega)) H.x1.x1 L
 ·have hb := hb rfl
  apply Tri.ift
  refine ls 1 H rfl rfl ?_
  refine tb1 (sp88 H (by first|omega|assumption|rfl|decide)) L fun v h B hq2 H L => ?_
  obtain ⟨⟨r2, rfl⟩, rfl⟩ := hq2
  cases r2
  ·apply gft
   apply pF
   exact dn (fun e => nomatch e) H.x1.x1 L
  ·apply gtt
   apply bN
   refine ls 2 H rfl rfl ?_
   apply bN
   refine ls 1 H rfl rfl ?_
   apply bB
   refine tb1 (sp164 H (by first|omega|assumption|rfl|decide) (by first|omega|assumption|rfl|decide) (by first|omega|assumption|rfl|decide)) L fun v h B hq10 H L => ?_
   obtain ⟨⟨r10, rfl, hp10⟩, rfl⟩ := hq10
   apply Tri.bs
   apply pT
   exact dn (fun e => by have hp10 := hp10 e; refine ⟨fun _ => ?_, fun _ => ?_, fun _ => ?_, fun _ => ?_, fun _ => ?_, fun _ => ?_⟩ <;> first | omega | (have hq := ‹true = true → (0 : Int) ≤ (n.ns.length : Int) ∧ (n.ns.length : Int) ≤ 200› rfl; omega)) H.x1.x1 L
theorem sp71 {root : Int} {lb nb : Nat} {b : Bool} (H : St (frz S :: row nb [.int .u8 n.kd, .int .i64 n.num, .str n.nm, n.nsV, n.ksV, .int .i64 n.ln] :: row lb [nv, .int .i64 root] :: l) h) (hn : NdsIn S nv nds) (x : NdIn S n) (hk : KidsIn nds n) (h3 : (n.ks.length : Int) ≤ 4611686018427387904)
 (hb : b = true → n.kd ≠ 26 ∧ n.kd ≠ 31 ∧ n.kd ≠ 32 ∧ n.kd ≠ 33 ∧ n.kd ≠ 34) :
 Tri h true l (rP S fun b => b = true → ShE n) (M 71 [.ptr lb 0, .ptr nb 0, .int .i64 (n.ks.length : Nat), .int .u8 n.kd, .bool b] h) := by
 refine t5 e71 fun L => ?_
 unfold B71
 have hks := x.ks
 have hns := x.ns
 have g1 := g84 (S := S)
 cases b
 ·apply Tri.iff
  refine Tri.eql (fun e1 => ?_) (fun e1 => ?_)
  ·apply Tri.ift
   refine ls 1 H rfl rfl ?_
   refine tb1 (sp88 H (by first|omega|assumption|rfl|decide)) L fun v h B hq4 H L => ?_
   obtain ⟨⟨r4, rfl⟩, rfl⟩ := hq4
   cases r4
   ·apply gft
    apply pF
    exact dn (fun e => nomatch e) H.x1.x1 L
   ·apply gtt
    apply bI
    exact dn (fun _ => by refine ⟨fun _ => ?_, fun _ => ?_, fun _ => ?_, fun _ => ?_, fun _ => ?_, fun _ => ?_⟩ <;> first | omega | (have hq := ‹true = true → (0 : Int) ≤ (n.ns.length : Int) ∧ (n.ns.length : Int) ≤ 200› rfl; omega)) H.x1.x1 L
  ·apply Tri.iff
   refine Tri.eql (fun e3 => ?_) (fun e3 => ?_)
   ·apply Tri.ift
    refine ls 1 H rfl rfl ?_
    refine tb1 (sp88 H (by first|omega|assumption|rfl|decide)) L fun v h B hq6 H L => ?_
    obtain ⟨⟨r6, rfl⟩, rfl⟩ := hq6
    cases r6
    ·apply gft
     apply pF
     apply gft
     apply pF
     exact dn (fun e => nomatch e) H.x1.x1 L
    ·apply gtt
     apply bI
     refine Tri.eql (fun e10 => ?_) (fun e10 => ?_)
     ·apply Tri.bs
      apply pT
      apply gtt
      apply bA
      apply Tri.addr
      apply bW
      refine Tri.load 1 H rfl rfl ?_
      apply bB
      refine Tri.eqv (bind_lenStr _ _) ?_
      refine Tri.lenStr ?_
      apply Tri.bs
      apply bI
      exact dn (fun _ => by refine ⟨fun _ => ?_, fun _ => ?_, fun _ => ?_, fun _ => ?_, fun _ => ?_, fun _ => ?_⟩ <;> first | omega | (have hq := ‹true = true → (0 : Int) ≤ (n.ns.length : Int) ∧ (n.ns.length : Int) ≤ 200› rfl; omega)) H.x1.x1 L
     ·apply Tri.bs
      apply pT
      apply gft
      apply pF
      exact dn (fun e => nomatch e) H.x1.x1 L
   ·apply Tri.iff
    refine Tri.eql (fun e5 => ?_) (fun e5 => ?_)
    ·apply Tri.ift
     refine ls 1 H rfl rfl ?_
     refine tb1 (sp88 H (by first|omega|assumption|rfl|decide)) L fun v h B hq8 H L => ?_
     obtain ⟨⟨r8, rfl⟩, rfl⟩ := hq8
     cases r8
     ·apply gft
      apply pF
      apply gft
      apply pF
      exact dn (fun e => nomatch e) H.x1.x1 L
     ·apply gtt
      apply bI
      refine Tri.eql (fun e12 => ?_) (fun e12 => ?_)
      ·apply Tri.bs
       apply pT
       apply gtt
       apply bA
       apply Tri.addr
       apply bW
       refine Tri.load 1 H rfl rfl ?_
       apply bB
       refine tb1 (sp162 H) L fun v h B hq21 H L => ?_
       obtain ⟨⟨r21, rfl⟩, rfl⟩ := hq21
       apply Tri.bs
       apply pT
       exact dn (fun _ => by refine ⟨fun _ => ?_, fun _ => ?_, fun _ => ?_, fun _ => ?_, fun _ => ?_, fun _ => ?_⟩ <;> first | omega | (have hq := ‹true = true → (0 : Int) ≤ (n.ns.length : Int) ∧ (n.ns.length : Int) ≤ 200› rfl; omega)) H.x1.x1 L
      ·apply Tri.bs
       apply pT
       apply gft
       apply pF
       exact dn (fun e => nomatch e) H.x1.x1 L
    ·apply Tri.iff
     refine Tri.eql (fun e7 => ?_) (fun e7 => ?_)
     ·apply Tri.ift
      refine ls 1 H rfl rfl ?_
      refine tb1 (sp88 H (by first|omega|assumption|rfl|decide)) L fun v h B hq10 H L => ?_
      obtain ⟨⟨r10, rfl⟩, rfl⟩ := hq10
      cases r10
      ·apply gft
       refine Tri.eqv (guard_u _ _ _ _) ?_
       apply gft
       apply pF
       apply gft
       apply pF
       apply gft
       apply pF
       apply gft
       apply pF
       exact dn (fun e => nomatch e) H.x1.x1 L
      ·apply gtt
       apply bA
       apply Tri.addr
       apply bW
       refine Tri.load 1 H rfl rfl ?_
       apply bI
       refine Tri.eql (fun e18 => ?_) (fun e18 => ?_)
       ·apply Tri.bs
        apply gtf
        apply gtt
        apply bO
        apply pT
        apply Tri.bs
        apply pT
        apply gtt
        apply bA
        apply Tri.addr
        apply bW
        refine Tri.load 1 H rfl rfl ?_
        apply bB
        refine tb1 (sp152 H (by first|omega|assumption|rfl|decide)) L fun v h B hq32 H L => ?_
        obtain ⟨⟨r32, rfl, hp32⟩, rfl⟩ := hq32
        apply Tri.bs
        apply pT
        cases r32
        ·apply gft
         apply pF
         apply gft
         apply pF
         exact dn (fun e => nomatch e) H.x1.x1 L
        ·replace hp32 := hp32 rfl
         apply gtt
         apply bI
         refine Tri.eql (fun e38 => ?_) (fun e38 => ?_)
         ·apply Tri.bs
          apply pT
          apply gtt
          apply bN
          refine ls 2 H rfl rfl ?_
          apply bN
          refine ls 1 H rfl rfl ?_
          apply bB
          refine tb1 (sp158 H (by first|omega|assumption|rfl|decide) (by first|omega|assumption|rfl|decide) (by first|omega|assumption|rfl|decide) (by first|omega|assumption|rfl|decide) (by first|omega|assumption|rfl|decide)) L fun v h B hq47 H L => ?_
          obtain ⟨⟨r47, rfl⟩, rfl⟩ := hq47
          apply Tri.bs
          apply pT
          exact dn (fun _ => by refine ⟨fun _ => ?_, fun _ => ?_, fun _ => ?_, fun _ => ?_, fun _ => ?_, fun _ => ?_⟩ <;> first | omega | (have hq := ‹true = true → (0 : Int) ≤ (n.ns.length : Int) ∧ (n.ns.length : Int) ≤ 200› rfl; omega)) H.x1.x1 L
         ·apply Tri.bs
          apply pT
          apply gft
          apply pF
          exact dn (fun e => nomatch e) H.x1.x1 L
       ·apply Tri.bs
        apply gff
        apply bA
        apply Tri.addr
        apply bW
        refine Tri.load 1 H rfl rfl ?_
        apply bI
        refine Tri.eql (fun e26 => ?_) (fun e26 => ?_)
        ·apply Tri.bs
         apply gtt
         apply bO
         apply pF
         apply Tri.bs
         apply pT
         apply gtt
         apply bA
         apply Tri.addr
         apply bW
         refine Tri.load 1 H rfl rfl ?_
         apply bB
         refine tb1 (sp152 H (by first|omega|assumption|rfl|decide)) L fun v h B hq39 H L => ?_
         obtain ⟨⟨r39, rfl, hp39⟩, rfl⟩ := hq39
         apply Tri.bs
         apply pT
         cases r39
         ·apply gft
          apply pF
          apply gft
          apply pF
          exact dn (fun e => nomatch e) H.x1.x1 L
         ·replace hp39 := hp39 rfl
          apply gtt
          apply bI
          refine Tri.eql (fun e45 => ?_) (fun e45 => ?_)
          ·apply Tri.bs
           apply pT
           apply gtt
           apply bN
           refine ls 2 H rfl rfl ?_
           apply bN
           refine ls 1 H rfl rfl ?_
           apply bB
           refine tb1 (sp158 H (by first|omega|assumption|rfl|decide) (by first|omega|assumption|rfl|decide) (by first|omega|assumption|rfl|decide) (by first|omega|assumption|rfl|decide) (by first|omega|assumption|rfl|decide)) L fun v h B hq54 H L => ?_
           obtain ⟨⟨r54, rfl⟩, rfl⟩ := hq54
           apply Tri.bs
           apply pT
           exact dn (fun _ => by refine ⟨fun _ => ?_, fun _ => ?_, fun _ => ?_, fun _ => ?_, fun _ => ?_, fun _ => ?_⟩ <;> first | omega | (have hq := ‹true = true → (0 : Int) ≤ (n.ns.length : Int) ∧ (n.ns.length : Int) ≤ 200› rfl; omega)) H.x1.x1 L
          ·apply Tri.bs
           apply pT
           apply gft
           apply pF
           exact dn (fun e => nomatch e) H.x1.x1 L
        ·apply Tri.bs
         apply gtt
         apply bO
         apply pF
         apply Tri.bs
         apply pT
         apply gft
         apply pF
         apply gft
         apply pF
         apply gft
         apply pF
         exact dn (fun e => nomatch e) H.x1.x1 L
     ·apply Tri.iff
      refine Tri.eql (fun e9 => ?_) (fun e9 => ?_)
      ·apply Tri.ift
       refine ls 1 H rfl rfl ?_
       refine tb1 (sp88 H (by first|omega|assumption|rfl|decide)) L fun v h B hq12 H L => ?_
       obtain ⟨⟨r12, rfl⟩, rfl⟩ := hq12
       cases r12
       ·apply gft
        apply pF
        apply gft
        apply pF
        exact dn (fun e => nomatch e) H.x1.x1 L
       ·apply gtt
        apply bN
        refine ls 2 H rfl rfl ?_
        apply bN
        refine ls 1 H rfl rfl ?_
        apply bB
        refine tb1 (sp164 H (by first|omega|assumption|rfl|decide) (by first|omega|assumption|rfl|decide) (by first|omega|assumption|rfl|decide)) L fun v h B hq20 H L => ?_
        obtain ⟨⟨r20, rfl, hp20⟩, rfl⟩ := hq20
        apply Tri.bs
        apply pT
        cases r20
        ·apply gft
         apply pF
         exact dn (fun e => nomatch e) H.x1.x1 L
        ·replace hp20 := hp20 rfl
         apply gtt
         apply bN
         refine ls 2 H rfl rfl ?_
         apply bN
         refine ls 1 H rfl rfl ?_
         apply bB
         refine tb1 (sp150 H (by first|omega|assumption|rfl|decide) (by first|omega|assumption|rfl|decide) (by first|omega|assumption|rfl|decide) (by first|omega|assumption|rfl|decide) (by first|omega|assumption|rfl|decide)) L fun v h B hq30 H L => ?_
         obtain ⟨⟨r30, rfl⟩, rfl⟩ := hq30
         apply bB
         refine tb1 (sp166 H) L fun v h B hq32 H L => ?_
         obtain ⟨⟨r32, rfl⟩, rfl⟩ := hq32
         apply Tri.bs
         apply pT
         exact dn (fun _ => by refine ⟨fun _ => ?_, fun _ => ?_, fun _ => ?_, fun _ => ?_, fun _ => ?_, fun _ => ?_⟩ <;> first | omega | (have hq := ‹true = true → (0 : Int) ≤ (n.ns.length : Int) ∧ (n.ns.length : Int) ≤ 200› rfl; omega)) H.x1.x1 L
      ·apply Tri.iff
       refine Tri.eql (fun e11 => ?_) (fun e11 => ?_)
       ·apply Tri.ift
        refine ls 1 H rfl rfl ?_
        refine tb1 (sp88 H (by first|omega|assumption|rfl|decide)) L fun v h B hq14 H L => ?_
        obtain ⟨⟨r14, rfl⟩, rfl⟩ := hq14
        cases r14
        ·apply gft
         apply pF
         apply gft
         apply pF
         apply gft
         apply pF
         exact dn (fun e => nomatch e) H.x1.x1 L
        ·apply gtt
         apply bI
         refine Tri.geq (fun e18 => ?_) (fun e18 => ?_)
         ·apply Tri.bs
          apply pT
          apply gtt
          apply bN
          refine ls 2 H rfl rfl ?_
          apply bN
          refine ls 1 H rfl rfl ?_
          apply bB
          refine tb1 (sp150 H (by first|omega|assumption|rfl|decide) (by first|omega|assumption|rfl|decide) (by first|omega|assumption|rfl|decide) (by first|omega|assumption|rfl|decide) (by first|omega|assumption|rfl|decide)) L fun v h B hq27 H L => ?_
          obtain ⟨⟨r27, rfl⟩, rfl⟩ := hq27
          apply bB
          refine tb1 (sp166 H) L fun v h B hq29 H L => ?_
          obtain ⟨⟨r29, rfl⟩, rfl⟩ := hq29
          apply Tri.bs
          apply pT
          cases r29
          ·apply gft
           apply pF
           exact dn (fun e => nomatch e) H.x1.x1 L
          ·apply gtt
           apply bN
           refine ls 2 H rfl rfl ?_
           apply bN
           refine ls 1 H rfl rfl ?_
           apply bB
           refine tb1 (sp154 H (by first|omega|assumption|rfl|decide) (by first|omega|assumption|rfl|decide) (by first|omega|assumption|rfl|decide) (by first|omega|assumption|rfl|decide) (by first|omega|assumption|rfl|decide) (by first|omega|assumption|rfl|decide) (by first|omega|assumption|rfl|decide)) L fun v h B hq39 H L => ?_
           obtain ⟨⟨r39, rfl⟩, rfl⟩ := hq39
           apply Tri.bs
           apply pT
           exact dn (fun _ => by refine ⟨fun _ => ?_, fun _ => ?_, fun _ => ?_, fun _ => ?_, fun _ => ?_, fun _ => ?_⟩ <;> first | omega | (have hq := ‹true = true → (0 : Int) ≤ (n.ns.length : Int) ∧ (n.ns.length : Int) ≤ 200› rfl; omega)) H.x1.x1 L
         ·apply Tri.bs
          apply pT
          apply gft
          apply pF
          apply gft
          apply pF
          exact dn (fun e => nomatch e) H.x1.x1 L
       ·apply Tri.iff
        refine Tri.eql (fun e13 => ?_) (fun e13 => ?_)
        ·apply Tri.ift
         refine ls 1 H rfl rfl ?_
         refine tb1 (sp88 H (by first|omega|assumption|rfl|decide)) L fun v h B hq16 H L => ?_
         obtain ⟨⟨r16, rfl⟩, rfl⟩ := hq16
         cases r16
         ·apply gft
          apply pF
          apply gft
          apply pF
          apply gft
          apply pF
          apply gft
          apply pF
          exact dn (fun e => nomatch e) H.x1.x1 L
         ·apply gtt
          apply bA
          apply Tri.addr
          apply bW
          refine Tri.load 1 H rfl rfl ?_
          apply bB
          refine tb1 (sp162 H) L fun v h B hq24 H L => ?_
          obtain ⟨⟨r24, rfl⟩, rfl⟩ := hq24
          apply Tri.bs
          apply pT
          cases r24
          ·apply gft
           apply pF
           apply gft
           apply pF
           apply gft
           apply pF
           exact dn (fun e => nomatch e) H.x1.x1 L
          ·apply gtt
           apply bI
           refine Tri.geq (fun e30 => ?_) (fun e30 => ?_)
           ·apply Tri.bs
            apply pT
            apply gtt
            apply bN
            refine ls 2 H rfl rfl ?_
            apply bN
            refine ls 1 H rfl rfl ?_
            apply bB
            refine tb1 (sp150 H (by first|omega|assumption|rfl|decide) (by first|omega|assumption|rfl|decide) (by first|omega|assumption|rfl|decide) (by first|omega|assumption|rfl|decide) (by first|omega|assumption|rfl|decide)) L fun v h B hq39 H L => ?_
            obtain ⟨⟨r39, rfl⟩, rfl⟩ := hq39
            apply bB
            refine tb1 (sp166 H) L fun v h B hq41 H L => ?_
            obtain ⟨⟨r41, rfl⟩, rfl⟩ := hq41
            apply Tri.bs
            apply pT
            cases r41
            ·apply gft
             apply pF
             exact dn (fun e => nomatch e) H.x1.x1 L
            ·apply gtt
             apply bN
             refine ls 2 H rfl rfl ?_
             apply bN
             refine ls 1 H rfl rfl ?_
             apply bB
             refine tb1 (sp154 H (by first|omega|assumption|rfl|decide) (by first|omega|assumption|rfl|decide) (by first|omega|assumption|rfl|decide) (by first|omega|assumption|rfl|decide) (by first|omega|assumption|rfl|decide) (by first|omega|assumption|rfl|decide) (by first|omega|assumption|rfl|decide)) L fun v h B hq51 H L => ?_
             obtain ⟨⟨r51, rfl⟩, rfl⟩ := hq51
             apply Tri.bs
             apply pT
             exact dn (fun _ => by refine ⟨fun _ => ?_, fun _ => ?_, fun _ => ?_, fun _ => ?_, fun _ => ?_, fun _ => ?_⟩ <;> first | omega | (have hq := ‹true = true → (0 : Int) ≤ (n.ns.length : Int) ∧ (n.ns.length : Int) ≤ 200› rfl; omega)) H.x1.x1 L
           ·apply Tri.bs
            apply pT
            apply gft
            apply pF
            apply gft
            apply pF
            exact dn (fun e => nomatch e) H.x1.x1 L
        ·apply Tri.iff
         refine Tri.eql (fun e15 => ?_) (fun e15 => ?_)
         ·apply Tri.ift
          refine ls 1 H rfl rfl ?_
          refine tb1 (sp88 H (by first|omega|assumption|rfl|decide)) L fun v h B hq18 H L => ?_
          obtain ⟨⟨r18, rfl⟩, rfl⟩ := hq18
          cases r18
          ·apply gft
           apply pF
           apply gft
           apply pF
           apply gft
           apply pF
           exact dn (fun e => nomatch e) H.x1.x1 L
          ·apply gtt
           apply bA
           apply Tri.addr
           apply bW
           refine Tri.load 1 H rfl rfl ?_
           apply bI
           refine Tri.geq (fun e26 => ?_) (fun e26 => ?_)
           ·apply Tri.bs
            apply pT
            apply gtt
            apply bA
            apply Tri.addr
            apply bW
            refine Tri.load 1 H rfl rfl ?_
            apply bI
            refine Tri.leq (fun e35 => ?_) (fun e35 => ?_)
            ·apply Tri.bs
             apply pT
             apply gtt
             apply bN
             refine ls 2 H rfl rfl ?_
             apply bN
             refine ls 1 H rfl rfl ?_
             apply bB
             refine tb1 (sp164 H (by first|omega|assumption|rfl|decide) (by first|omega|assumption|rfl|decide) (by first|omega|assumption|rfl|decide)) L fun v h B hq44 H L => ?_
             obtain ⟨⟨r44, rfl, hp44⟩, rfl⟩ := hq44
             apply Tri.bs
             apply pT
             exact dn (fun e => by have hp44 := hp44 e; refine ⟨fun _ => ?_, fun _ => ?_, fun _ => ?_, fun _ => ?_, fun _ => ?_, fun _ => ?_⟩ <;> first | omega | (have hq := ‹true = true → (0 : Int) ≤ (n.ns.length : Int) ∧ (n.ns.length : Int) ≤ 200› rfl; omega)) H.x1.x1 L
            ·apply Tri.bs
             apply pT
             apply gft
             apply pF
             exact dn (fun e => nomatch e) H.x1.x1 L
           ·apply Tri.bs
            apply pT
            apply gft
            apply pF
            apply gft
            apply pF
            exact dn (fun e => nomatch e) H.x1.x1 L
         ·apply Tri.iff
          refine Tri.eql (fun e17 => ?_) (fun e17 => ?_)
          ·apply Tri.ift
           exact te (sp73 H hn x hk h3 (by simp; try omega) (by omega) (by simp; try omega)) L
          ·apply Tri.iff
           refine Tri.eql (fun e19 => ?_) (fun e19 => ?_)
           ·apply Tri.ift
            exact te (sp73 H hn x hk h3 (by simp; try omega) (by omega) (by simp; try omega)) L
           ·apply Tri.iff
            refine Tri.eql (fun e21 => ?_) (fun e21 => ?_)
            ·refine te1 (sp73 H (by first|omega|assumption|rfl|decide) (by first|omega|assumption|rfl|decide) (by first|omega|assumption|rfl|decide) (by first|omega|assumption|rfl|decide) (by first|omega|assumption|rfl|decide) (by first|omega|assumption|rfl|decide) (by first|omega|assumption|rfl|decide)) L
            ·exact te (sp73 H hn x hk h3 (by simp; try omega) (by omega) (by simp; try omega)) L
 ·have hb := hb rfl
  apply Tri.ift
  refine ls 1 H rfl rfl ?_
  refine tb1 (sp88 H (by first|omega|assumption|rfl|decide)) L fun v h B hq2 H L => ?_
  obtain ⟨⟨r2, rfl⟩, rfl⟩ := hq2
  cases r2
  ·apply gft
   apply pF
   exact dn (fun e => nomatch e) H.x1.x1 L
  ·apply gtt
   apply bI
   exact dn (fun _ => by refine ⟨fun _ => ?_, fun _ => ?_, fun _ => ?_, fun _ => ?_, fun _ => ?_, fun _ => ?_⟩ <;> first | omega | (have hq := ‹true = true → (0 : Int) ≤ (n.ns.length : Int) ∧ (n.ns.length : Int) ≤ 200› rfl; omega)) H.x1.x1 L
end
end Go.FP
end
