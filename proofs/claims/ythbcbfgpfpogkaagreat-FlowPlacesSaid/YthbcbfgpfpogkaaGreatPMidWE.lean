/- Laws told shortly. -/
import Derived.Test.YthbcbfgpfpogkaaGreatPMidWA
import Derived.Test.YthbcbfgpfpogkaaGreatPMidNN
import Derived.Test.YthbcbfgpfpogkaaGreatPFPb
import Derived.IntWalk
set_option linter.all false
set_option warn.classDefReducibility false
noncomputable section
section
namespace Go.Mid
section
variable {l : List Asn} {h h0 h' : Hp} {b o i : Nat} {cs : List V} {ro ro' : Bool} {F F' : List Asn} {Q Q' : V → List Asn → Prop} {K : V → Hp → VH} {k : V → VH} {x y v a c : V} {X : VH}
theorem pF (hk : Tri h0 ro F Q (k c)) : Tri h0 ro F Q (optS (pickV (.bool false) a c) k) := hk
theorem pT (hk : Tri h0 ro F Q (k a)) : Tri h0 ro F Q (optS (pickV (.bool true) a c) k) := hk
theorem gft (hk : Tri h0 ro F Q (K undefV h)) : Tri h0 ro F Q (guardS (.bool false) true X h K) := hk
theorem gtf (hk : Tri h0 ro F Q (K undefV h)) : Tri h0 ro F Q (guardS (.bool true) false X h K) := hk
theorem gtt (hk : Tri h0 ro F Q (bindS X K)) : Tri h0 ro F Q (guardS (.bool true) true X h K) := hk
theorem gff (hk : Tri h0 ro F Q (bindS X K)) : Tri h0 ro F Q (guardS (.bool false) false X h K) := hk
theorem bL (hk : Tri h0 ro F Q (lenSl a fun v => bindS (k v) K)) : Tri h0 ro F Q (bindS (lenSl a k) K) := Tri.eqv (bind_lenSl _ _) hk
theorem bI {op : BinOp} (hk : Tri h0 ro F Q (intS op a c fun v => bindS (k v) K)) : Tri h0 ro F Q (bindS (intS op a c k) K) := Tri.eqv (bind_intS _ _) hk
theorem bB {J : V → Hp → VH} (hk : Tri h0 ro F Q (bindS X fun v h => bindS (J v h) K)) : Tri h0 ro F Q (bindS (bindS X J) K) := Tri.eqv (bind_bind _ _ _) hk
theorem bN {s : Nat} (hk : Tri h0 ro F Q (loadN s a h fun v => bindS (k v) K)) : Tri h0 ro F Q (bindS (loadN s a h k) K) := Tri.eqv (bind_loadN _ _) hk
theorem bW (hk : Tri h0 ro F Q (load1 a h fun v => bindS (k v) K)) : Tri h0 ro F Q (bindS (load1 a h k) K) := Tri.eqv (bind_load1 _ _) hk
theorem bA {off : Nat} (hk : Tri h0 ro F Q (addrS off a fun v => bindS (k v) K)) : Tri h0 ro F Q (bindS (addrS off a k) K) := Tri.eqv (bind_addr _ _) hk
theorem bO {x : Option V} (hk : Tri h0 ro F Q (optS x fun v => bindS (k v) K)) : Tri h0 ro F Q (bindS (optS x k) K) := Tri.eqv (bind_optS _ _) hk
theorem ls (i : Nat) {s : Nat} (H : St l h) (hi : l[i]? = some (row b cs)) (e : (Nat.ble 1 s && Nat.ble (o + s) cs.length) = true) (hk : Tri h0 ro F Q (k (.agg ((cs.drop o).take s)))) : Tri h0 ro F Q (loadN s (.ptr b o) h k) := by
 rw [Bool.and_eq_true] at e
 have h1 := Nat.le_of_ble_eq_true e.1
 exact Tri.loads i (by omega) H hi (Nat.le_of_ble_eq_true e.2) hk
theorem te (hx : Tri h ro F Q X) (L : Lo ro h0 h) : Tri h0 ro F Q X := Tri.tail hx L (fun e => e) fun v h B hq H L => ⟨B, hq, H⟩
theorem te1 (hx : Tri h true F Q X) (L : Lo ro h0 h) : Tri h0 ro F Q X := Tri.tail hx L (fun _ => rfl) fun v h B hq H L => ⟨B, hq, H⟩
theorem te0 (hx : Tri h ro F Q X) (L : Lo false h0 h) : Tri h0 false F Q X := Tri.tail hx L (fun e => nomatch e) fun v h B hq H L => ⟨B, hq, H⟩
theorem tb (hx : Tri h ro F' Q' X) (L : Lo ro h0 h) (hK : ∀ v h' B, Q' v B → St (B ++ F') h' → Lo ro h0 h' → Tri h0 ro F Q (K v h')) : Tri h0 ro F Q (bindS X K) := Tri.bind hx L (fun e => e) hK
theorem tb1 (hx : Tri h true F' Q' X) (L : Lo ro h0 h) (hK : ∀ v h' B, Q' v B → St (B ++ F') h' → Lo ro h0 h' → Tri h0 ro F Q (K v h')) : Tri h0 ro F Q (bindS X K) := Tri.bind hx L (fun _ => rfl) hK
theorem tb0 (hx : Tri h ro F' Q' X) (L : Lo false h0 h) (hK : ∀ v h' B, Q' v B → St (B ++ F') h' → Lo false h0 h' → Tri h0 false F Q (K v h')) : Tri h0 false F Q (bindS X K) := Tri.bind hx L (fun e => nomatch e) hK
theorem sto (i : Nat) {x : V} {k : Hp → VH} (H : St l h) (hi : l[i]? = some (row b cs)) (e : Nat.ble (o + 1) cs.length = true) (L : Lo false h0 h) (h1 : oneCell x = true)
 (hk : ∀ h', St (l.set i (row b (cs.set o x))) h' → Lo false h0 h' → Tri h0 false F Q (k h')) : Tri h0 false F Q (storeC (.ptr b o) x h k) := Tri.store i H hi (Nat.le_of_ble_eq_true e) L (fun e => nomatch e) h1 hk
end
end Go.Mid
end
section
open Go Go.Mid Go.Proofs
set_option maxRecDepth 100000
namespace Go.FP
section
abbrev Mem := Nat → Nat → Option V
def FSl {α : Type} (s : Nat) (P : Nat → Nat → α → Prop) (v : V) (l : List α) : Prop :=
 (v = .nilSlice ∧ l = []) ∨ ∃ b o c, v = .slice b o l.length c false ∧ l.length ≤ c ∧ l.length ≤ 9223372036854775807 ∧ ∀ i (hi : i < l.length), P b (o + i * s) l[i]
def IntAt (S : Mem) (b o : Nat) (n : Int) : Prop := S b o = some (.int .i64 n)
def StrAt (S : Mem) (b o : Nat) (n : Bs) : Prop := S b o = some (.str n)
structure Nd where
 kd : Int
 num : Int
 nm : Bs
 nsV : V
 ksV : V
 ln : Int
 ns : List Bs
 ks : List Int
abbrev Nd.V (n : Nd) : V := .agg [.int .u8 n.kd, .int .i64 n.num, .str n.nm, n.nsV, n.ksV, .int .i64 n.ln]
structure NdIn (S : Mem) (n : Nd) : Prop where
 ns : FSl 1 (StrAt S) n.nsV n.ns
 ks : FSl 1 (IntAt S) n.ksV n.ks
structure NdAt (S : Mem) (b o : Nat) (n : Nd) : Prop where
 c0 : S b o = some (.int .u8 n.kd)
 c1 : S b (o + 1) = some (.int .i64 n.num)
 c2 : S b (o + 2) = some (.str n.nm)
 c3 : S b (o + 3) = some n.nsV
 c4 : S b (o + 4) = some n.ksV
 c5 : S b (o + 5) = some (.int .i64 n.ln)
 inn : NdIn S n
abbrev NdsIn (S : Mem) (v : V) (nds : List Nd) : Prop := FSl 6 (NdAt S) v nds
def KidsIn (nds : List Nd) (n : Nd) : Prop := ∀ k ∈ n.ks, 0 ≤ k ∧ k < (nds.length : Int)
def rB (S : Mem) : V → List Asn → Prop := fun v B => (∃ b, v = .bool b) ∧ B = [frz S]
def rU (S : Mem) : V → List Asn → Prop := fun v B => (∃ n, v = .int .u8 n) ∧ B = [frz S]
def rI (S : Mem) : V → List Asn → Prop := fun v B => (∃ n, v = .int .i64 n) ∧ B = [frz S]
def rP (S : Mem) (p : Bool → Prop) : V → List Asn → Prop := fun v B => (∃ b, v = .bool b ∧ p b) ∧ B = [frz S]
variable {S : Mem} {l F : List Asn} {h h0 : Hp} {ro : Bool} {Q : V → List Asn → Prop} {k : V → VH} {nds : List Nd} {n : Nd} {v nv : V}
theorem dB {b : Bool} (H : St (frz S :: l) h) (L : Lo ro h0 h) : Tri h0 ro l (rB S) (some (.bool b, h)) := Tri.done (B := [frz S]) ⟨⟨_, rfl⟩, rfl⟩ H L
theorem dI {n : Int} (H : St (frz S :: l) h) (L : Lo ro h0 h) : Tri h0 ro l (rI S) (some (.int .i64 n, h)) := Tri.done (B := [frz S]) ⟨⟨_, rfl⟩, rfl⟩ H L
theorem dU {n : Int} (H : St (frz S :: l) h) (L : Lo ro h0 h) : Tri h0 ro l (rU S) (some (.int .u8 n, h)) := Tri.done (B := [frz S]) ⟨⟨_, rfl⟩, rfl⟩ H L
theorem dn {b : Bool} {p : Bool → Prop} (hp : p b) (H : St (frz S :: l) h) (L : Lo ro h0 h) : Tri h0 ro l (rP S p) (some (.bool b, h)) := Tri.done (B := [frz S]) ⟨⟨_, rfl, hp⟩, rfl⟩ H L
section
variable {α : Type} {s : Nat} {P : Nat → Nat → α → Prop} {L : List α} {v : V}
theorem FSl.len (hv : FSl s P v L) (hk : Tri h0 ro F Q (k (.int .i64 (L.length : Nat)))) : Tri h0 ro F Q (Mid.lenSl v k) := by
 rcases hv with ⟨rfl, rfl⟩ | ⟨b, o, c, rfl, _⟩ <;> exact hk
theorem FSl.idx {d : IntKind} {i : Int} (hv : FSl s P v L) (h1 : 0 ≤ i) (h2 : i < (L.length : Int)) (hk : ∀ b o, P b o (L[i.toNat]'(by omega)) → Tri h0 ro F Q (k (.ptr b o))) : Tri h0 ro F Q (idxS s v (.int d i) k) := by
 rcases hv with ⟨rfl, rfl⟩ | ⟨b, o, c, rfl, _, _, hP⟩
 ·simp only [List.length_nil] at h2; omega
 ·exact Tri.idx h1 (by omega) (hk b _ (hP i.toNat (by omega)))
theorem FSl.one (hv : FSl s P v L) : oneCell v = true := by
 rcases hv with ⟨rfl, rfl⟩ | ⟨b, o, c, rfl, _⟩ <;> rfl
theorem FSl.small (hv : FSl s P v L) : L.length ≤ 9223372036854775807 := by
 rcases hv with ⟨rfl, rfl⟩ | ⟨b, o, c, rfl, _, h, _⟩
 ·simp
 ·exact h
end
theorem NdIn.one (x : NdIn S n) : allOne [.int .u8 n.kd, .int .i64 n.num, .str n.nm, n.nsV, n.ksV, .int .i64 n.ln] = true := by
 simp only [allOne, x.ns.one, x.ks.one]; rfl
theorem NdIn.three (x : NdIn S n) : allOne [.int .u8 n.kd, .int .i64 n.num, .str n.nm, n.nsV, n.ksV, .int .i64 n.ln] = true ∧ FSl 1 (StrAt S) n.nsV n.ns ∧ FSl 1 (IntAt S) n.ksV n.ks := ⟨x.one, x.ns, x.ks⟩
theorem NdAt.cells {b o : Nat} (x : NdAt S b o n) : ∀ i, i < 6 → S b (o + i) = [V.int .u8 n.kd, .int .i64 n.num, .str n.nm, n.nsV, n.ksV, .int .i64 n.ln][i]? := fun i hi => by
 match i, hi with
 | 0, _ => exact x.c0
 | 1, _ => exact x.c1
 | 2, _ => exact x.c2
 | 3, _ => exact x.c3
 | 4, _ => exact x.c4
 | 5, _ => exact x.c5
end
section
variable {S : Mem} {l F : List Asn} {h h0 : Hp} {ro : Bool} {Q : V → List Asn → Prop} {k : V → VH} {nds : List Nd} {n : Nd} {v nv : V}
theorem sp150 {root i : Int} (H : St (frz S :: l) h) (hn : NdsIn S nv nds) (x : NdIn S n) (hk : KidsIn nds n) (h1 : 0 ≤ i) (h2 : i < (n.ks.length : Int)) : Tri h true l (rU S) (M 150 [.agg [nv, .int .i64 root], n.V, .int .i64 i] h) := by
 refine t3 e150 fun L => ?_
 unfold B150
 obtain ⟨h3, h4⟩ := hk (n.ks[i.toNat]'(by omega)) (List.getElem_mem _)
 have hks := x.ks
 refine Tri.newS H L fun b0 h hb0 H L => ?_
 replace H := H.d1
 refine Tri.newS H L fun b1 h hb1 H L => ?_
 replace H := H.d1
 apply Tri.addr
 apply Tri.addr
 refine Tri.load 2 H rfl rfl ?_
 apply Tri.addr
 refine Tri.load 1 H rfl rfl ?_
 refine FSl.idx (by assumption) (by omega) (by omega) fun b7 o7 hb7 => ?_
 have hc7 := hb7
 clear hc7
 refine Tri.loadF 0 H rfl (by assumption) ?_
 refine FSl.idx (by assumption) (by omega) (by omega) fun b9 o9 hb9 => ?_
 have hc9 := hb9
 obtain ⟨c9_0, c9_1, c9_2, c9_3, c9_4, c9_5, c9_6⟩ := hc9
 obtain ⟨c9_7, c9_8, c9_9⟩ := NdIn.three c9_6
 apply Tri.addr
 refine Tri.loadF 0 H rfl (by assumption) ?_
 exact dU H.x1.x1 L
theorem sp92 {kd : Int} (H : St (frz S :: l) h) : Tri h true l (rP S fun b => b = true ↔ 2 ≤ kd ∧ kd ≤ 15) (M 92 [.int .u8 kd] h) := by
 refine t1 e92 fun L => ?_
 unfold B92
 refine Tri.geq (fun e0 => ?_) (fun e0 => ?_)
 ·apply gtt
  apply bI
  refine Tri.leq (fun e3 => ?_) (fun e3 => ?_)
  ·apply Tri.bs
   apply pT
   exact dn (by simp; omega) H L
  ·apply Tri.bs
   apply pT
   exact dn (by simp; omega) H L
 ·apply gft
  apply pF
  exact dn (by simp; omega) H L
theorem sp98 {kd : Int} (H : St (frz S :: l) h) : Tri h true l (rB S) (M 98 [.int .u8 kd] h) := by
 refine t1 e98 fun L => ?_
 unfold B98
 refine Tri.geq (fun e0 => ?_) (fun e0 => ?_)
 ·apply gtt
  apply bI
  refine Tri.leq (fun e3 => ?_) (fun e3 => ?_)
  ·apply Tri.bs
   apply pT
   apply gtf
   apply pT
   exact dB H L
  ·apply Tri.bs
   apply pT
   apply gff
   apply bI
   exact dB H L
 ·apply gft
  apply pF
  apply gff
  apply bI
  exact dB H L
theorem sp166 {kd : Int} (H : St (frz S :: l) h) : Tri h true l (rB S) (M 166 [.int .u8 kd] h) := by
 refine t1 e166 fun L => ?_
 unfold B166
 refine Tri.geq (fun e0 => ?_) (fun e0 => ?_)
 ·apply gtt
  apply bI
  refine Tri.leq (fun e3 => ?_) (fun e3 => ?_)
  ·apply Tri.bs
   apply pT
   apply gtf
   apply pT
   exact dB H L
  ·apply Tri.bs
   apply pT
   apply gff
   apply bI
   exact dB H L
 ·apply gft
  apply pF
  apply gff
  apply bI
  exact dB H L
theorem sp156 {kd : Int} (H : St (frz S :: l) h) : Tri h true l (rB S) (M 156 [.int .u8 kd] h) := by
 refine t1 e156 fun L => ?_
 unfold B156
 refine Tri.eql (fun e0 => ?_) (fun e0 => ?_)
 ·apply gtf
  apply pT
  exact dB H L
 ·apply gff
  apply bI
  exact dB H L
theorem sp168 {kd : Int} (H : St (frz S :: l) h) : Tri h true l (rB S) (M 168 [.int .u8 kd] h) := by
 refine t1 e168 fun L => ?_
 unfold B168
 refine Tri.eql (fun e0 => ?_) (fun e0 => ?_)
 ·apply gtf
  apply pT
  exact dB H L
 ·apply gff
  apply bI
  exact dB H L
theorem sp94 {kd : Int} (H : St (frz S :: l) h) : Tri h true l (rB S) (M 94 [.int .u8 kd] h) := by
 refine t1 e94 fun L => ?_
 unfold B94
 exact dB H L
theorem sp172 (H : St (frz S :: l) h) (x : NdIn S n) : Tri h true l (rI S) (M 172 [n.V] h) := by
 refine t1 e172 fun L => ?_
 unfold B172
 refine Tri.newS H L fun b0 h hb0 H L => ?_
 replace H := H.d1
 apply Tri.addr
 refine Tri.load 1 H rfl rfl ?_
 refine Tri.eql (fun e3 => ?_) (fun e3 => ?_)
 ·apply Tri.ift
  exact dI H.x1 L
 ·apply Tri.iff
  refine Tri.eql (fun e5 => ?_) (fun e5 => ?_)
  ·apply Tri.ift
   exact dI H.x1 L
  ·apply Tri.iff
   refine Tri.eql (fun e7 => ?_) (fun e7 => ?_)
   ·apply Tri.ift
    exact dI H.x1 L
   ·apply Tri.iff
    refine Tri.eql (fun e9 => ?_) (fun e9 => ?_)
    ·apply Tri.ift
     apply Tri.addr
     refine Tri.load 1 H rfl rfl ?_
     refine Tri.conv ?_
     refine Tri.geq (fun e14 => ?_) (fun e14 => ?_)
     ·apply Tri.ift
      exact dI H.x1 L
     ·apply Tri.iff
      refine Tri.eql (fun e16 => ?_) (fun e16 => ?_)
      ·apply Tri.ift
       exact dI H.x1 L
      ·apply Tri.iff
       refine Tri.eql (fun e18 => ?_) (fun e18 => ?_)
       ·apply Tri.ift
        exact dI H.x1 L
       ·apply Tri.iff
        refine Tri.eql (fun e20 => ?_) (fun e20 => ?_)
        ·apply Tri.ift
         exact dI H.x1 L
        ·apply Tri.iff
         refine Tri.eql (fun e22 => ?_) (fun e22 => ?_)
         ·apply gtf
          apply pT
          apply Tri.ift
          exact dI H.x1 L
         ·apply gff
          apply bI
          refine Tri.eql (fun e25 => ?_) (fun e25 => ?_)
          ·apply Tri.bs
           apply pF
           apply Tri.ift
           exact dI H.x1 L
          ·apply Tri.bs
           apply pF
           apply Tri.iff
           refine Tri.eql (fun e29 => ?_) (fun e29 => ?_)
           ·apply Tri.ift
            exact dI H.x1 L
           ·apply Tri.iff
            refine Tri.eql (fun e31 => ?_) (fun e31 => ?_)
            ·apply gtf
             apply pT
             apply Tri.ift
             exact dI H.x1 L
            ·apply gff
             apply bI
             refine Tri.eql (fun e34 => ?_) (fun e34 => ?_)
             ·apply Tri.bs
              apply pF
              apply Tri.ift
              exact dI H.x1 L
             ·apply Tri.bs
              apply pF
              apply Tri.iff
              exact dI H.x1 L
    ·apply Tri.iff
     exact dI H.x1 L
theorem sp158 {root i : Int} (H : St (frz S :: l) h) (hn : NdsIn S nv nds) (x : NdIn S n) (hk : KidsIn nds n) (h1 : 0 ≤ i) (h2 : i < (n.ks.length : Int)) : Tri h true l (rB S) (M 158 [.agg [nv, .int .i64 root], n.V, .int .i64 i] h) := by
 refine t3 e158 fun L => ?_
 unfold B158
 refine Tri.newS H L fun b0 h hb0 H L => ?_
 replace H := H.d1
 refine Tri.newS H L fun b1 h hb1 H L => ?_
 replace H := H.d1
 refine ls 2 H rfl rfl ?_
 refine ls 1 H rfl rfl ?_
 refine tb1 (sp150 H (by first|omega|assumption|rfl|decide) (by first|omega|assumption|rfl|decide) (by first|omega|assumption|rfl|decide) (by first|omega|assumption|rfl|decide) (by first|omega|assumption|rfl|decide)) L fun v h B hq4 H L => ?_
 obtain ⟨⟨r4, rfl⟩, rfl⟩ := hq4
 exact dB H.x1.x1 L
theorem sp88 {a b c : Bool} (H : St (frz S :: l) h) (x : NdIn S n) : Tri h true l (rB S) (M 88 [n.V, .bool a, .bool b, .bool c] h) := by
 refine t4 e88 fun L => ?_
 unfold B88
 have hns := x.ns
 refine Tri.newS H L fun b0 h hb0 H L => ?_
 replace H := H.d1
 cases a
 ·apply gff
  apply bA
  apply Tri.addr
  apply bW
  refine Tri.load 1 H rfl rfl ?_
  apply bI
  refine Tri.eql (fun e8 => ?_) (fun e8 => ?_)
  ·apply Tri.bs
   apply pF
   apply gtt
   apply Tri.bs
   cases b
   ·apply gff
    apply bA
    apply Tri.addr
    apply bW
    refine Tri.load 1 H rfl rfl ?_
    refine Tri.eqv (bind_strS _ _) ?_
    refine Tri.strEq fun s20 es20 => ?_
    apply Tri.bs
    apply gtt
    apply bO
    apply pF
    apply Tri.bs
    apply pT
    cases s20
    ·apply gft
     refine Tri.eqv (guard_u _ _ _ _) ?_
     apply gft
     apply pF
     exact dB H.x1 L
    ·apply gtt
     apply Tri.bs
     cases c
     ·apply gff
      apply bA
      apply Tri.addr
      apply bW
      refine Tri.load 1 H rfl rfl ?_
      apply bB
      apply bL
      refine FSl.len (by assumption) ?_
      apply Tri.bs
      apply bI
      exact dB H.x1 L
     ·apply gtf
      apply gtt
      apply bO
      apply pT
      apply Tri.bs
      apply pT
      exact dB H.x1 L
   ·apply gtf
    apply gtt
    apply bO
    apply pT
    apply Tri.bs
    apply pT
    apply gtt
    apply Tri.bs
    cases c
    ·apply gff
     apply bA
     apply Tri.addr
     apply bW
     refine Tri.load 1 H rfl rfl ?_
     apply bB
     apply bL
     refine FSl.len (by assumption) ?_
     apply Tri.bs
     apply bI
     exact dB H.x1 L
    ·apply gtf
     apply gtt
     apply bO
     apply pT
     apply Tri.bs
     apply pT
     exact dB H.x1 L
  ·apply Tri.bs
   apply pF
   apply gft
   refine Tri.eqv (guard_u _ _ _ _) ?_
   apply gft
   apply pF
   apply gft
   refine Tri.eqv (guard_u _ _ _ _) ?_
   apply gft
   apply pF
   exact dB H.x1 L
 ·apply gtf
  apply pT
  apply gtt
  apply Tri.bs
  cases b
  ·apply gff
   apply bA
   apply Tri.addr
   apply bW
   refine Tri.load 1 H rfl rfl ?_
   refine Tri.eqv (bind_strS _ _) ?_
   refine Tri.strEq fun s13 es13 => ?_
   apply Tri.bs
   apply gtt
   apply bO
   apply pF
   apply Tri.bs
   apply pT
   cases s13
   ·apply gft
    refine Tri.eqv (guard_u _ _ _ _) ?_
    apply gft
    apply pF
    exact dB H.x1 L
   ·apply gtt
    apply Tri.bs
    cases c
    ·apply gff
     apply bA
     apply Tri.addr
     apply bW
     refine Tri.load 1 H rfl rfl ?_
     apply bB
     apply bL
     refine FSl.len (by assumption) ?_
     apply Tri.bs
     apply bI
     exact dB H.x1 L
    ·apply gtf
     apply gtt
     apply bO
     apply pT
     apply Tri.bs
     apply pT
     exact dB H.x1 L
  ·apply gtf
   apply gtt
   apply bO
   apply pT
   apply Tri.bs
   apply pT
   apply gtt
   apply Tri.bs
   cases c
   ·apply gff
    apply bA
    apply Tri.addr
    apply bW
    refine Tri.load 1 H rfl rfl ?_
    apply bB
    apply bL
    refine FSl.len (by assumption) ?_
    apply Tri.bs
    apply bI
    exact dB H.x1 L
   ·apply gtf
    apply gtt
    apply bO
    apply pT
    apply Tri.bs
    apply pT
    exact dB H.x1 L
structure Gd (S : Mem) (fv : V) : Prop where
 go : ∀ {l : List Asn} {h : Hp} (kd : Int), St (frz S :: l) h → Tri h true l (rB S) (dynE M fv [.int .u8 kd] h)
theorem gd_of {f : Nat} (hf : ∀ {l : List Asn} {h : Hp} (kd : Int), St (frz S :: l) h → Tri h true l (rB S) (M (2 * f) [.int .u8 kd] h)) : Gd S (.func f [] []) := ⟨fun {l h} kd H => by
 rw [dyn_at]; exact hf kd H⟩
theorem sp75 {root to : Int} {fv : V} {lb nb : Nat} (g : Gd S fv) (hn : NdsIn S nv nds) (x : NdIn S n) (hk : KidsIn nds n) (hto : to ≤ (n.ks.length : Int)) (m : Nat) :
 ∀ {i : Int} {h : Hp} {l : List Asn} (H : St (frz S :: row nb [.int .u8 n.kd, .int .i64 n.num, .str n.nm, n.nsV, n.ksV, .int .i64 n.ln] :: row lb [nv, .int .i64 root] :: l) h) (h1 : 0 ≤ i) (hm : to - i ≤ (m : Int)),
 Tri h true l (rB S) (M 75 [.int .i64 to, fv, .ptr lb 0, .ptr nb 0, .int .i64 i] h) := by
 have hks := x.ks.small
 induction m with
 | zero =>
  intro i h l H h1 hm
  refine t5 e75 fun L => ?_
  unfold B75
  refine Tri.lss (fun e => by omega) (fun e => ?_)
  apply Tri.iff
  exact Tri.done (B := [frz S]) ⟨⟨_, rfl⟩, rfl⟩ H.x1.x1 L
 | succ m ih75 =>
  intro i h l H h1 hm
  refine t5 e75 fun L => ?_
  unfold B75
  refine Tri.lss (fun e => ?_) (fun e => ?_)
  ·apply Tri.ift
   refine ls 2 H rfl rfl ?_
   refine ls 1 H rfl rfl ?_
   refine tb1 (sp150 H (by first|omega|assumption|rfl|decide) (by first|omega|assumption|rfl|decide) (by first|omega|assumption|rfl|decide) (by first|omega|assumption|rfl|decide) (by first|omega|assumption|rfl|decide)) L fun v h B hq3 H L => ?_
   obtain ⟨⟨r3, rfl⟩, rfl⟩ := hq3
   refine tb (g.go _ H) L fun v h B hq H L => ?_
   obtain ⟨⟨r, rfl⟩, rfl⟩ := hq
   apply Tri.not
   cases r
   ·apply Tri.ift
    exact Tri.done (B := [frz S]) ⟨⟨_, rfl⟩, rfl⟩ H.x1.x1 L
   ·apply Tri.iff
    refine Tri.addN (by omega) (by omega) ?_
    refine te1 (ih75 H (by first|omega|assumption|rfl|decide) (by first|omega|assumption|rfl|decide)) L
  ·apply Tri.iff
   exact Tri.done (B := [frz S]) ⟨⟨_, rfl⟩, rfl⟩ H.x1.x1 L
theorem sp90 {root fr to : Int} {fv : V} (H : St (frz S :: l) h) (g : Gd S fv) (hn : NdsIn S nv nds) (x : NdIn S n) (hk : KidsIn nds n) (h1 : 0 ≤ fr) (h2 : to ≤ (n.ks.length : Int)) : Tri h true l (rB S) (M 90 [.agg [nv, .int .i64 root], n.V, .int .i64 fr, .int .i64 to, fv] h) := by
 refine t5 e90 fun L => ?_
 unfold B90
 refine Tri.newS H L fun b0 h hb0 H L => ?_
 replace H := H.d1
 refine Tri.newS H L fun b1 h hb1 H L => ?_
 replace H := H.d1
 refine te (sp75 g hn x hk h2 to.toNat H h1 (by omega)) L
theorem g49 : Gd S (.func 49 [] []) := gd_of fun kd H => sp98 H
theorem g46 : Gd S (.func 46 [] []) := gd_of fun kd H => (sp92 H).mono fun v B ⟨⟨b, e, _⟩, e2⟩ => ⟨⟨b, e⟩, e2⟩
theorem g47 : Gd S (.func 47 [] []) := gd_of fun kd H => sp94 H
theorem g78 : Gd S (.func 78 [] []) := gd_of fun kd H => sp156 H
theorem g84 : Gd S (.func 84 [] []) := gd_of fun kd H => sp168 H
theorem sp154 {root fr to least : Int} (H : St (frz S :: l) h) (hn : NdsIn S nv nds) (x : NdIn S n) (hk : KidsIn nds n) (h1 : 0 ≤ fr) (h1' : fr ≤ 9223372036854775807) (h3 : 0 ≤ to) (h2 : to ≤ (n.ks.length : Int)) : Tri h true l (rB S) (M 154 [.agg [nv, .int .i64 root], n.V, .int .i64 fr, .int .i64 to, .int .i64 least] h) := by
 refine t5 e154 fun L => ?_
 unfold B154
 have hks := x.ks.small
 have g := g49 (S := S)
 refine Tri.newS H L fun b0 h hb0 H L => ?_
 replace H := H.d1
 refine Tri.newS H L fun b1 h hb1 H L => ?_
 replace H := H.d1
 refine Tri.subN (by omega) (by omega) ?_
 refine Tri.geq (fun e3 => ?_) (fun e3 => ?_)
 ·apply gtt
  apply bI
  refine Tri.subN (by omega) (by omega) ?_
  apply bI
  refine Tri.leq (fun e8 => ?_) (fun e8 => ?_)
  ·apply Tri.bs
   apply pT
   apply gtt
   apply bN
   refine ls 2 H rfl rfl ?_
   apply bN
   refine ls 1 H rfl rfl ?_
   apply bB
   refine tb1 (sp90 H (by first|omega|assumption|rfl|decide) (by first|omega|assumption|rfl|decide) (by first|omega|assumption|rfl|decide) (by first|omega|assumption|rfl|decide) (by first|omega|assumption|rfl|decide) (by first|omega|assumption|rfl|decide)) L fun v h B hq17 H L => ?_
   obtain ⟨⟨r17, rfl⟩, rfl⟩ := hq17
   apply Tri.bs
   apply pT
   exact dB H.x1.x1 L
  ·apply Tri.bs
   apply pT
   apply gft
   apply pF
   exact dB H.x1.x1 L
 ·apply gft
  apply pF
  apply gft
  apply pF
  exact dB H.x1.x1 L
theorem sp164 {root c : Int} (H : St (frz S :: l) h) (hn : NdsIn S nv nds) (x : NdIn S n) (hk : KidsIn nds n) : Tri h true l (rP S fun b => b = true → (n.ks.length : Int) = c) (M 164 [.agg [nv, .int .i64 root], n.V, .int .i64 c] h) := by
 refine t3 e164 fun L => ?_
 unfold B164
 have hks := x.ks
 have g := g49 (S := S)
 refine Tri.newS H L fun b0 h hb0 H L => ?_
 replace H := H.d1
 refine Tri.newS H L fun b1 h hb1 H L => ?_
 replace H := H.d1
 apply Tri.addr
 refine Tri.load 1 H rfl rfl ?_
 apply bL
 refine FSl.len (by assumption) ?_
 apply Tri.bs
 refine Tri.eql (fun e7 => ?_) (fun e7 => ?_)
 ·apply gtt
  apply bN
  refine ls 2 H rfl rfl ?_
  apply bN
  refine ls 1 H rfl rfl ?_
  apply bB
  refine tb1 (sp90 H (by first|omega|assumption|rfl|decide) (by first|omega|assumption|rfl|decide) (by first|omega|assumption|rfl|decide) (by first|omega|assumption|rfl|decide) (by first|omega|assumption|rfl|decide) (by first|omega|assumption|rfl|decide)) L fun v h B hq14 H L => ?_
  obtain ⟨⟨r14, rfl⟩, rfl⟩ := hq14
  apply Tri.bs
  apply pT
  exact dn (fun _ => by omega) H.x1.x1 L
 ·apply gft
  apply pF
  exact dn (fun e => nomatch e) H.x1.x1 L
theorem sp286 {a b c : Int} (H : St (frz S :: l) h) : Tri h true l (rB S) (M 286 [.int .u8 a, .int .u8 b, .int .u8 c] h) := by
 refine t3 e286 fun L => ?_
 unfold B286
 refine Tri.geq (fun e0 => ?_) (fun e0 => ?_)
 ·apply gtt
  apply bI
  exact dB H L
 ·apply gft
  apply pF
  exact dB H L
theorem sp244 {a : Int} (H : St (frz S :: l) h) : Tri h true l (rB S) (M 244 [.int .u8 a] h) := by
 refine t1 e244 fun L => ?_
 unfold B244
 refine tb1 (sp286 H) L fun v h B hq0 H L => ?_
 obtain ⟨⟨r0, rfl⟩, rfl⟩ := hq0
 exact dB H L
theorem sp248 {a : Int} (H : St (frz S :: l) h) : Tri h true l (rB S) (M 248 [.int .u8 a] h) := by
 refine t1 e248 fun L => ?_
 unfold B248
 refine tb1 (sp286 H) L fun v h B hq0 H L => ?_
 obtain ⟨⟨r0, rfl⟩, rfl⟩ := hq0
 cases r0
 ·apply gff
  apply bB
  refine tb1 (sp286 H) L fun v h B hq4 H L => ?_
  obtain ⟨⟨r4, rfl⟩, rfl⟩ := hq4
  apply Tri.bs
  apply pF
  cases r4
  ·apply gff
   apply bI
   exact dB H L
  ·apply gtf
   apply pT
   exact dB H L
 ·apply gtf
  apply pT
  apply gtf
  apply pT
  exact dB H L
theorem sp288 {a b : Bs} (H : St (frz S :: l) h) (ha : a.n ≤ 2147483648) : Tri h true l (rB S) (M 288 [.str a, .str b] h) := by
 have e : M 288 [.str a, .str b] h = some (.bool (hasB a.l b.l), h) := by
  refine (@lim_F Tryz.prog (orc fnA Inv) labs 144 _ _ _).2 ⟨0, ?_⟩
  show (match fnA 144 [.str a, .str b] h with
   | some p => some p
   | none => _) = _
  have : fnA 144 [.str a, .str b] h = some (.bool (hasB a.l b.l), h) := by
   show (bif Nat.ble a.l.length 2147483648 then some (V.bool (hasB a.l b.l), h) else none) = _
   rw [Bs.l_len, Nat.ble_eq_true_of_le ha]; rfl
  rw [this]
 rw [e]
 exact Tri.done (B := [frz S]) ⟨⟨_, rfl⟩, rfl⟩ H (Lo.refl _ _)
theorem sp246 {a : Bs} (H : St (frz S :: l) h) (ha : a.n ≤ 60) : Tri h true l (rB S) (M 246 [.str a] h) := by
 refine t1 e246 fun L => ?_
 unfold B246
 refine Tri.strNe fun s0 es0 => ?_
 cases s0
 ·apply gft
  apply pF
  apply gft
  apply pF
  exact dB H L
 ·apply gtt
  apply bB
  refine tb1 (sp288 H (by first|omega|assumption|rfl|decide)) L fun v h B hq4 H L => ?_
  obtain ⟨⟨r4, rfl⟩, rfl⟩ := hq4
  refine Tri.eqv (bind_notS _ _) ?_
  apply Tri.not
  apply Tri.bs
  apply pT
  cases r4
  ·apply gtt
   refine Tri.eqv (bind_strS _ _) ?_
   refine Tri.strAdd (by simp only [*]; omega) fun z12 ez12 => ?_
   refine Tri.eqv (bind_strS _ _) ?_
   refine Tri.strAdd (by simp only [*]; omega) fun z14 ez14 => ?_
   apply bB
   refine tb1 (sp288 H (by first|omega|assumption|rfl|decide)) L fun v h B hq16 H L => ?_
   obtain ⟨⟨r16, rfl⟩, rfl⟩ := hq16
   apply Tri.bs
   apply pT
   exact dB H L
  ·apply gft
   apply pF
   exact dB H L
theorem sp101 {a : Bs} (ha : a.n ≤ 60) (m : Nat) : ∀ {i : Int} {h : Hp} {l : List Asn} (H : St (frz S :: l) h) (h1 : 0 ≤ i) (hm : (a.n : Int) - i ≤ (m : Int)), Tri h true l (rB S) (M 101 [.str a, .int .i64 (a.n : Nat), .int .i64 i] h) := by
 induction m with
 | zero =>
  intro i h l H h1 hm
  refine t3 e101 fun L => ?_
  unfold B101
  refine Tri.lss (fun e => by omega) (fun e => ?_)
  apply Tri.iff
  exact dB H L
 | succ m ih101 =>
  intro i h l H h1 hm
  refine t3 e101 fun L => ?_
  unfold B101
  refine Tri.lss (fun e0 => ?_) (fun e0 => ?_)
  ·apply Tri.ift
   refine Tri.idxStr (by omega) (by omega) ?_
   refine tb1 (sp248 H) L fun v h B hq3 H L => ?_
   obtain ⟨⟨r3, rfl⟩, rfl⟩ := hq3
   apply Tri.not
   cases r3
   ·apply gtt
    refine Tri.eqv (bind_idxStr _ _) ?_
    refine Tri.idxStr (by omega) (by omega) ?_
    apply bB
    refine tb1 (sp244 H) L fun v h B hq10 H L => ?_
    obtain ⟨⟨r10, rfl⟩, rfl⟩ := hq10
    refine Tri.eqv (bind_notS _ _) ?_
    apply Tri.not
    apply Tri.bs
    apply pT
    cases r10
    ·apply Tri.ift
     exact dB H L
    ·apply Tri.iff
     refine Tri.addN (by omega) (by omega) ?_
     refine te1 (ih101 H (by first|omega|assumption|rfl|decide) (by first|omega|assumption|rfl|decide)) L
   ·apply gft
    apply pF
    apply Tri.iff
    refine Tri.addN (by omega) (by omega) ?_
    refine te1 (ih101 H (by first|omega|assumption|rfl|decide) (by first|omega|assumption|rfl|decide)) L
  ·apply Tri.iff
   exact dB H L
theorem sp162 {a : Bs} (H : St (frz S :: l) h) : Tri h true l (rB S) (M 162 [.str a] h) := by
 refine t1 e162 fun L => ?_
 unfold B162
 refine Tri.strEq fun s es => ?_
 have hpos : s = false → 0 < a.n := fun e => Bs.eq_none (by rw [← e]; exact es)
 cases s
 ·have hpos := hpos rfl
  apply gff
  apply bB
  refine Tri.eqv (bind_lenStr _ _) ?_
  refine Tri.lenStr ?_
  apply Tri.bs
  apply bI
  refine Tri.gtr (fun e7 => ?_) (fun e7 => ?_)
  ·apply Tri.bs
   apply pF
   apply gtf
   apply pT
   apply gtf
   apply pT
   apply Tri.ift
   exact dB H L
  ·apply Tri.bs
   apply pF
   apply gff
   refine Tri.eqv (bind_idxStr _ _) ?_
   refine Tri.idxStr (by omega) (by omega) ?_
   apply bB
   refine tb1 (sp244 H) L fun v h B hq14 H L => ?_
   obtain ⟨⟨r14, rfl⟩, rfl⟩ := hq14
   apply Tri.bs
   apply pF
   cases r14
   ·apply gff
    apply bB
    refine tb1 (sp246 H (by first|omega|assumption|rfl|decide)) L fun v h B hq20 H L => ?_
    obtain ⟨⟨r20, rfl⟩, rfl⟩ := hq20
    apply Tri.bs
    apply pF
    cases r20
    ·apply Tri.iff
     refine Tri.eqv (bind_lenStr _ _) ?_
     refine Tri.lenStr ?_
     apply Tri.bs
     refine te1 (sp101 (by first|omega|assumption|rfl|decide) _ H (by first|omega|assumption|rfl|decide) (by first|omega|assumption|rfl|decide)) L
    ·apply Tri.ift
     exact dB H L
   ·apply gtf
    apply pT
    apply Tri.ift
    exact dB H L
 apply gtf
 apply pT
 apply gtf
 apply pT
 apply gtf
 apply pT
 apply Tri.ift
 exact dB H L
end
end Go.FP
end
