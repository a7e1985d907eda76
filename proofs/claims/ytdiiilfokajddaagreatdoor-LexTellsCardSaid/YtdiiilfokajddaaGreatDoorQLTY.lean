/- A part of the proof. -/
import Derived.Test.YtdiiilfokajddaaGreatDoorQLTJ
set_option linter.all false
set_option warn.classDefReducibility false
noncomputable section
section
open Go Go.Mid Go.Proofs
set_option maxRecDepth 100000
namespace Go.LT
section
variable {l F : List Asn} {h h0 : Hp} {ro : Bool} {Q : V → List Asn → Prop} {k : V → VH} {K : V → Hp → VH} {v lV : V} {i j n : Nat}
theorem sp126m {s : Bs} {k : Nat} (hs : s.n ≤ 70000) (hk : k ≤ 70000) (H : St l h) : Tri h true l (rNo (.int .u8 ((if k = 0 then 0 else at0 (bts s) (k - 1) : Nat)))) (M 126 [.str s, .int .i64 ((k : Int) - 1)] h):=by
 cases k with
 | zero =>
  refine t2 e126 fun L => ?_
  unfold B126
  refine Tri.lss (fun e => ?_) (fun e => absurd e (by decide))
  apply gtf
  apply pT
  apply nT
  exact dn H L
 | succ k =>
  rw [show ((k + 1 : Nat) : Int) - 1 = (k : Int) by omega, if_neg (Nat.succ_ne_zero k), Nat.add_sub_cancel]
  exact sp126 hs (by omega) H
def ngo (b : Nat) (p : Bool) : Bool:=isDg b || isLt b || b == 46 || ((b == 43 || b == 45) && p)
def PN (s : Bs) (i k b : Nat) (hex p : Bool) (h : Hp) : VH :=
 guardS (V.bool !isDg b) true (bindS (M 124 [(.int .u8 (b : Int))] h) fun v74 h75 =>
 notS v74 fun v76 =>
 some (v76, h75)) h fun v77 h78 =>
 optS (pickV (V.bool !isDg b) v77 (.bool false)) fun v79 =>
 guardS v79 true (intS .neq (.int .u8 (b : Int)) (.int .u8 46) fun v80 =>
 some (v80, h78)) h78 fun v81 h82 =>
 optS (pickV v79 v81 (.bool false)) fun v83 =>
 guardS v83 true (some (V.bool p, h82)) h82 fun v84 h85 =>
 guardS v84 true (intS .eql (.int .u8 (b : Int)) (.int .u8 43) fun v86 =>
 some (v86, h85)) h85 fun v87 h88 =>
 guardS v87 false (intS .eql (.int .u8 (b : Int)) (.int .u8 45) fun v89 =>
 some (v89, h88)) h88 fun v90 h91 =>
 guardS v84 true (optS (pickV v87 (.bool true) v90) fun v92 =>
 some (v92, h91)) h91 fun v93 h94 =>
 guardS v83 true (optS (pickV v84 v93 (.bool false)) fun v95 =>
 notS v95 fun v96 =>
 some (v96, h94)) h94 fun v97 h98 =>
 optS (pickV v83 v97 (.bool false)) fun v99 =>
 ifS v99 (
 M 59 [(.int .i64 (i : Int)), (.int .i64 (k : Int))] h98) (
 intS .add (.int .i64 (k : Int)) (.int .i64 1) fun v100 =>
 M 61 [(.str s), (.int .i64 (i : Int)), (.bool hex), v100] h98)
theorem pn_ok {s : Bs} {i k b X : Nat} {hex p : Bool} (hb : b < 256) (hik : i ≤ k) (hk : k ≤ 70000) (hY : ngo b p = true → ∀ h, St l h → Tri h true l (rNo (.int .i64 (X : Int))) (M 61 [.str s, .int .i64 (i : Int), .bool hex, .int .i64 ((k + 1 : Nat) : Int)] h)) (hN : ngo b p = false → X = k - i) (H : St l h) (L : Lo ro h0 h) :
 Tri h0 ro l (rNo (.int .i64 (X : Int))) (PN s i k b hex p h):=by
 have stop : ∀ {h0 h : Hp} {ro : Bool}, ngo b p = false → St l h → Lo ro h0 h → Tri h0 ro l (rNo (.int .i64 (X : Int))) (M 59 [.int .i64 (i : Int), .int .i64 (k : Int)] h):=by
  intro h0' h ro' hg H L'
  have h59 : Tri h true l (rNo (.int .i64 (X : Int))) (M 59 [.int .i64 (i : Int), .int .i64 (k : Int)] h):=by
   refine t2 e59 fun L => ?_
   unfold B59
   refine Tri.subN (by omega) (by omega) ?_
   rw [show (k : Int) - (i : Int) = (X : Int) by rw [hN hg]; omega]
   exact dn H L
  exact Tri.tail h59 L' (fun _ => rfl) fun v h B hq H L => ⟨B, hq, H⟩
 have go : ∀ {h0 h : Hp} {ro : Bool}, ngo b p = true → St l h → Lo ro h0 h → Tri h0 ro l (rNo (.int .i64 (X : Int))) (M 61 [.str s, .int .i64 (i : Int), .bool hex, .int .i64 ((k + 1 : Nat) : Int)] h):=fun hg H L' => Tri.tail (hY hg _ H) L' (fun _ => rfl) fun v h B hq H L => ⟨B, hq, H⟩
 unfold PN
 unfold ngo at stop go
 cases h1 : isDg b with
 | true =>
  rw [h1] at go
  apply gft
  apply pF
  apply gft
  apply pF
  apply gft
  apply gu
  apply gu
  apply gu
  apply gft
  apply pF
  apply nF
  refine aD (by omega) ?_
  exact go rfl H L
 | false =>
  apply gtt
  apply Mid.bB
  refine tbe1 (sp124 (by first|assumption|omega|rfl|(dsimp;omega)) H) L fun h H L => ?_
  refine Tri.eqv (bind_notS _ _) ?_
  refine Tri.not ?_
  apply bS
  apply pT
  cases h2 : isLt b with
  | true =>
   rw [h1, h2] at go
   apply gft
   apply pF
   apply gft
   apply gu
   apply gu
   apply gu
   apply gft
   apply pF
   apply nF
   refine aD (by omega) ?_
   exact go rfl H L
  | false =>
   apply gtt
   apply bI
   rw [h1, h2] at go stop
   refine Tri.neq ?_ ?_<;>intro e
   ·rw [show (b == 46) = false by simp; exact fun c => e (congrArg Int.ofNat c)] at go stop
    cases p with
    | false =>
     apply bS
     apply pT
     apply gtt
     apply bS
     apply gft
     apply gu
     apply gft
     apply gtt
     apply bO
     apply pF
     refine Tri.eqv (bind_notS _ _) ?_
     refine Tri.not ?_
     apply bS
     apply pT
     apply nT
     exact stop (by simp) H L
    | true =>
     apply bS
     apply pT
     apply gtt
     apply bS
     apply gtt
     apply bI
     refine Tri.eql ?_ ?_<;>intro e2
     ·apply bS
      apply gtf
      apply gtt
      apply bO
      apply pT
      apply bS
      apply gtt
      apply bO
      apply pT
      refine Tri.eqv (bind_notS _ _) ?_
      refine Tri.not ?_
      apply bS
      apply pT
      apply nF
      refine aD (by omega) ?_
      exact go (by rw [show b = 43 from Int.ofNat.inj e2]; rfl) H L
     ·apply bS
      apply gff
      apply bI
      refine Tri.eql ?_ ?_<;>intro e3
      ·apply bS
       apply gtt
       apply bO
       apply pF
       apply bS
       apply gtt
       apply bO
       apply pT
       refine Tri.eqv (bind_notS _ _) ?_
       refine Tri.not ?_
       apply bS
       apply pT
       apply nF
       refine aD (by omega) ?_
       exact go (by rw [show b = 45 from Int.ofNat.inj e3]; rfl) H L
      ·apply bS
       apply gtt
       apply bO
       apply pF
       apply bS
       apply gtt
       apply bO
       apply pT
       refine Tri.eqv (bind_notS _ _) ?_
       refine Tri.not ?_
       apply bS
       apply pT
       apply nT
       exact stop (by rw [show (b == 43) = false by simp; exact fun c => e2 (congrArg Int.ofNat c), show (b == 45) = false by simp; exact fun c => e3 (congrArg Int.ofNat c)]; rfl) H L
   ·apply bS
    apply pT
    apply gft
    apply gu
    apply gu
    apply gu
    apply gft
    apply pF
    apply nF
    refine aD (by omega) ?_
    exact go (by rw [show b = 46 from Int.ofNat.inj e]; rfl) H L
theorem hasc_ok (hex : Bool) {c : Nat} (hc : c < 256) : hasc (if hex then ⟨2, 20592⟩ else ⟨2, 17765⟩) c = (if hex then c == 112 || c == 80 else c == 101 || c == 69):=by
 cases hex with
 | true => exact all256 (p:=hasc ⟨2, 20592⟩) (q:=fun c => c == 112 || c == 80) (by kernel_rfl) hc
 | false => exact all256 (p:=hasc ⟨2, 17765⟩) (q:=fun c => c == 101 || c == 69) (by kernel_rfl) hc
def pwr (hex : Bool) (c : Nat) : Bool:=if hex then c == 112 || c == 80 else c == 101 || c == 69
theorem num_from {s : Bs} {i : Nat} {hex : Bool} (hs : s.n ≤ 60000) : ∀ (m k : Nat) (h : Hp) (l : List Asn), s.n - k < m → k ≤ s.n → i ≤ k → St l h →
 Tri h true l (rNo (.int .i64 ((k - i + wh (nstep (if hex then ⟨2, 20592⟩ else ⟨2, 17765⟩)) (if k ≤ i then 0 else at0 (bts s) (k - 1)) ((bts s).drop k) : Nat) : Int))) (M 61 [.str s, .int .i64 (i : Int), .bool hex, .int .i64 (k : Int)] h):=by
 intro m
 induction m with
 | zero => intro k h l hm; omega
 | succ m ih =>
  intro k h l hm hk hik H
  have ih61 : ∀ h, St l h → Tri h true l (rNo (.int .i64 ((k + 1 - i + wh (nstep (if hex then ⟨2, 20592⟩ else ⟨2, 17765⟩)) (at0 (bts s) k) ((bts s).drop (k + 1)) : Nat) : Int))) (M 61 [.str s, .int .i64 (i : Int), .bool hex, .int .i64 ((k + 1 : Nat) : Int)] h):=by
   intro h H
   by_cases hk2 : k + 1 ≤ s.n
   ·have := ih (k + 1) h l (by omega) hk2 (by omega) H
    rw [if_neg (show ¬ k + 1 ≤ i by omega), Nat.add_sub_cancel] at this
    exact this
   ·refine t4 e61 fun L => ?_
    unfold B61
    apply lS
    refine Tri.lss (fun e => by omega) (fun e => ?_)
    refine t2 e59 fun L => ?_
    unfold B59
    refine Tri.subN (by omega) (by omega) ?_
    rw [bts_end (by omega), wh, show ((k + 1 : Nat) : Int) - (i : Int) = ((k + 1 - i + 0 : Nat) : Int) by omega]
    exact dn H L
  have hc0 : (if k ≤ i then 0 else at0 (bts s) (k - 1)) < 256:=by split; decide; exact at0_lt s _
  generalize hc : (if k ≤ i then 0 else at0 (bts s) (k - 1)) = c at hc0 ⊢
  generalize hX : k - i + wh (nstep (if hex then ⟨2, 20592⟩ else ⟨2, 17765⟩)) c ((bts s).drop k) = X
  have ih126:=fun (h : Hp) (l : List Asn) (H : St l h) => sp126m (s:=s) (k:=k) (by omega) (by omega) H
  refine t4 e61 fun L => ?_
  unfold B61
  apply lS
  refine Tri.lss ?_ ?_<;>intro e
  ·have hlt : k < s.n := by omega
   have hd:=bts_drop hlt
   have hb:=bts_mem (s:=s) (b:=s.byte k) (List.mem_of_mem_drop (by rw [hd]; exact List.mem_cons_self))
   have hat : at0 (bts s) k = s.byte k:=by rw [at0_head, hd]; rfl
   rw [hat] at ih61
   rw [hd, wh] at hX
   have hgo : ∀ p, p = (decide (i < k) && pwr hex (if k = 0 then 0 else at0 (bts s) (k - 1))) → ∀ {h0 h : Hp} {ro : Bool}, St l h → Lo ro h0 h → Tri h0 ro l (rNo (.int .i64 (X : Int))) (PN s i k (s.byte k) hex p h):=by
    intro p hp h0 h ro H L
    have hpc : p = hasc (if hex then ⟨2, 20592⟩ else ⟨2, 17765⟩) c:=by
     rw [hasc_ok hex hc0, hp]
     by_cases hki : k ≤ i
     ·rw [decide_eq_false (by omega), ← hc, if_pos hki]
      cases hex <;> rfl
     ·rw [decide_eq_true (by omega), ← hc, if_neg hki, if_neg (by omega)]
      rfl
    have e1 : (nstep (if hex then ⟨2, 20592⟩ else ⟨2, 17765⟩) c (s.byte k)).1 = ngo (s.byte k) p:=by rw [hpc]; rfl
    rw [e1] at hX
    refine pn_ok hb hik (by omega) (fun hg h H => ?_) (fun hg => ?_) H L
    ·rw [if_pos hg] at hX
     have:=ih61 h H
     rw [show k + 1 - i + wh (nstep (if hex then ⟨2, 20592⟩ else ⟨2, 17765⟩)) (s.byte k) ((bts s).drop (k + 1)) = X by rw [← hX]; show _ = k - i + (wh _ (s.byte k) _ + 1); omega] at this
     exact this
    ·rw [if_neg (by rw [hg]; decide)] at hX
     omega
   generalize (if k = 0 then 0 else at0 (bts s) (k - 1)) = q at hgo ih126
   apply nT
   refine iS (by omega) ?_
   refine Tri.subN (by omega) (by omega) ?_
   refine tbe1 (ih126 _ _ H) L fun h H L => ?_
   refine Tri.gtr ?_ ?_<;>intro e1
   ·rw [decide_eq_true (show i < k by omega), Bool.true_and] at hgo
    cases hex with
    | true =>
     apply gtt
     refine Tri.eqv (bind_notS _ _) ?_
     refine Tri.not ?_
     apply bS
     apply gft
     apply gu
     apply gft
     apply gtt
     apply bO
     apply pF
     apply bS
     apply gff
     apply bS
     apply gtt
     apply bI
     refine Tri.eql ?_ ?_<;>intro e2
     ·apply bS
      apply gtf
      apply gtt
      apply bO
      apply pT
      apply bS
      apply gff
      apply bO
      apply pT
      apply bS
      apply gtt
      apply bO
      apply pF
      apply bS
      apply pT
      refine tbe1 (sp128 (by first|assumption|omega|rfl|(dsimp;omega)) H) L fun h H L => ?_
      refine Tri.not ?_
      exact hgo true (by rw [show q = 112 from Int.ofNat.inj e2]; rfl) H L
     ·apply bS
      apply gff
      apply bI
      refine Tri.eql ?_ ?_<;>intro e3
      ·apply bS
       apply gtt
       apply bO
       apply pF
       apply bS
       apply gff
       apply bO
       apply pT
       apply bS
       apply gtt
       apply bO
       apply pF
       apply bS
       apply pT
       refine tbe1 (sp128 (by first|assumption|omega|rfl|(dsimp;omega)) H) L fun h H L => ?_
       refine Tri.not ?_
       exact hgo true (by rw [show q = 80 from Int.ofNat.inj e3]; rfl) H L
      ·apply bS
       apply gtt
       apply bO
       apply pF
       apply bS
       apply gff
       apply bO
       apply pT
       apply bS
       apply gtt
       apply bO
       apply pF
       apply bS
       apply pT
       refine tbe1 (sp128 (by first|assumption|omega|rfl|(dsimp;omega)) H) L fun h H L => ?_
       refine Tri.not ?_
       exact hgo false (by show _ = (q == 112 || q == 80); rw [beq_eq_false_iff_ne.2 (fun c => e2 (congrArg Int.ofNat c)), beq_eq_false_iff_ne.2 (fun c => e3 (congrArg Int.ofNat c))]; rfl) H L
    | false =>
     apply gtt
     refine Tri.eqv (bind_notS _ _) ?_
     refine Tri.not ?_
     apply bS
     apply gtt
     apply bI
     refine Tri.eql ?_ ?_<;>intro e2
     ·apply bS
      apply gtf
      apply gtt
      apply bO
      apply pT
      apply bS
      apply gtt
      apply bO
      apply pT
      apply bS
      apply gtf
      apply gu
      apply gu
      apply gu
      apply gtf
      apply gtt
      apply bO
      apply pT
      apply bS
      apply pT
      refine tbe1 (sp128 (by first|assumption|omega|rfl|(dsimp;omega)) H) L fun h H L => ?_
      refine Tri.not ?_
      exact hgo true (by rw [show q = 101 from Int.ofNat.inj e2]; rfl) H L
     ·apply bS
      apply gff
      apply bI
      refine Tri.eql ?_ ?_<;>intro e3
      ·apply bS
       apply gtt
       apply bO
       apply pF
       apply bS
       apply gtt
       apply bO
       apply pT
       apply bS
       apply gtf
       apply gu
       apply gu
       apply gu
       apply gtf
       apply gtt
       apply bO
       apply pT
       apply bS
       apply pT
       refine tbe1 (sp128 (by first|assumption|omega|rfl|(dsimp;omega)) H) L fun h H L => ?_
       refine Tri.not ?_
       exact hgo true (by rw [show q = 69 from Int.ofNat.inj e3]; rfl) H L
      ·apply bS
       apply gtt
       apply bO
       apply pF
       apply bS
       apply gtt
       apply bO
       apply pT
       apply bS
       apply gff
       apply bS
       apply gft
       apply gu
       apply gft
       apply gff
       apply bO
       apply pF
       apply bS
       apply gtt
       apply bO
       apply pF
       apply bS
       apply pT
       refine tbe1 (sp128 (by first|assumption|omega|rfl|(dsimp;omega)) H) L fun h H L => ?_
       refine Tri.not ?_
       exact hgo false (by show _ = (q == 101 || q == 69); rw [beq_eq_false_iff_ne.2 (fun c => e2 (congrArg Int.ofNat c)), beq_eq_false_iff_ne.2 (fun c => e3 (congrArg Int.ofNat c))]; rfl) H L
   ·apply gft
    apply gu
    apply gu
    apply gu
    apply gft
    apply gu
    apply gu
    apply gu
    apply gu
    apply gu
    apply gft
    apply pF
    refine tbe1 (sp128 (by first|assumption|omega|rfl|(dsimp;omega)) H) L fun h H L => ?_
    refine Tri.not ?_
    exact hgo false (by rw [decide_eq_false (by omega)]; rfl) H L
  ·rw [bts_end (by omega), wh] at hX
   refine t2 e59 fun L => ?_
   unfold B59
   refine Tri.subN (by omega) (by omega) ?_
   rw [show (k : Int) - (i : Int) = (X : Int) by omega]
   exact dn H L
theorem dig_at {L : List Nat} : dig L = (isDg (at0 L 0) || (at0 L 0 == 46 && isDg (at0 L 1))):=by
 have hc : ∀ L : List Nat, decide (0 < cnt isDg L) = isDg (at0 L 0):=by
  intro L
  cases L with
  | nil => rfl
  | cons b r =>
   show decide (0 < cnt isDg (b :: r)) = isDg b
   rw [show cnt isDg (b :: r) = if isDg b then cnt isDg r + 1 else 0 from rfl]
   cases isDg b <;> simp
 have h1 : at0 L 1 = at0 (L.drop 1) 0:=by rw [at0_drop]
 rw [h1]
 unfold dig
 rw [hc, hc]
 cases L <;> rfl
theorem sp130 {s : Bs} {i : Nat} (hs : s.n ≤ 60000) (hi : i ≤ s.n) (H : St l h) : Tri h true l (rNo (.int .i64 (if dig ((bts s).drop i) then nml ((bts s).drop i) else 0 : Nat))) (M 130 [.str s, .int .i64 (i : Int)] h):=by
 have ih126:=fun (i : Nat) (h : Hp) (l : List Asn) (hi : i ≤ 80000) (H : St l h) => sp126 (s:=s) (by omega) hi H
 have ih61 : ∀ (hex : Bool) (h : Hp) (l : List Asn), hex = hx ((bts s).drop i) → St l h → Tri h true l (rNo (.int .i64 (nml ((bts s).drop i) : Nat))) (M 61 [.str s, .int .i64 (i : Int), .bool hex, .int .i64 (i : Int)] h):=by
  intro hex h l he H
  have:=num_from (hex:=hex) hs (s.n + 1) i h l (by omega) hi (Nat.le_refl _) H
  rw [if_pos (Nat.le_refl i), Nat.sub_self, Nat.zero_add] at this
  rw [he] at this ⊢
  exact this
 rw [dig_at, at0_drop, at0_drop, Nat.add_zero]
 have hb0:=at0_lt s i
 have hb1:=at0_lt s (i + 1)
 generalize hX : (if (isDg (at0 (bts s) i) || (at0 (bts s) i == 46 && isDg (at0 (bts s) (i + 1)))) = true then nml ((bts s).drop i) else 0) = X
 have fin : ∀ {h0 h : Hp} {ro : Bool}, nml ((bts s).drop i) = X → St l h → Lo ro h0 h → Tri h0 ro l (rNo (.int .i64 (X : Nat))) (guardS (.bool ((bts ⟨2, 30768⟩).isPrefixOf ((bts s).drop i))) false (bindS (M 120 [.str s, .int .i64 (i : Int), .str ⟨2, 22576⟩] h) fun v24 h25 => some (v24, h25)) h fun v26 h27 =>
  optS (pickV (.bool ((bts ⟨2, 30768⟩).isPrefixOf ((bts s).drop i))) (.bool true) v26) fun v28 => M 61 [.str s, .int .i64 (i : Int), v28, .int .i64 (i : Int)] h27):=by
  intro h0 h ro hX H L
  subst hX
  rw [show bts ⟨2, 30768⟩ = [48, 120] from rfl]
  cases h1 : [48, 120].isPrefixOf ((bts s).drop i) with
  | true =>
   apply gtf
   apply pT
   exact te1 (ih61 true h l (by unfold hx; rw [h1]; rfl) H) L
  | false =>
   apply gff
   apply Mid.bB
   refine tbe1 (sp120 (by first|assumption|omega|rfl|(dsimp;omega)) (by first|assumption|omega|rfl|(dsimp;omega)) (by first|assumption|omega|rfl|(dsimp;omega)) H) L fun h H L => ?_
   apply bS
   apply pF
   rw [show bts ⟨2, 22576⟩ = [48, 88] from rfl]
   exact te1 (ih61 _ h l (by unfold hx; rw [h1]; rfl) H) L
 refine t2 e130 fun L => ?_
 unfold B130
 refine tbe1 (ih126 _ _ _ (by first|assumption|omega|rfl|(dsimp;omega)) H) L fun h H L => ?_
 refine tbe1 (sp128 (by first|assumption|omega|rfl|(dsimp;omega)) H) L fun h H L => ?_
 refine Tri.not ?_
 cases h1 : isDg (at0 (bts s) i) with
 | true =>
  rw [h1, Bool.true_or, if_pos rfl] at hX
  apply gft
  apply gu
  apply gft
  apply pF
  apply nF
  refine tbe1 (sp120 (by first|assumption|omega|rfl|(dsimp;omega)) (by first|assumption|omega|rfl|(dsimp;omega)) (by first|assumption|omega|rfl|(dsimp;omega)) H) L fun h H L => ?_
  exact fin hX H L
 | false =>
  rw [h1, Bool.false_or] at hX
  apply gtt
  apply Mid.bB
  refine tbe1 (ih126 _ _ _ (by first|assumption|omega|rfl|(dsimp;omega)) H) L fun h H L => ?_
  apply bI
  refine Tri.eql ?_ ?_<;>intro e
  ·rw [show (at0 (bts s) i == 46) = true from beq_iff_eq.2 (Int.ofNat.inj e), Bool.true_and] at hX
   apply bS
   apply gtt
   apply bI
   refine aD (by omega) ?_
   apply Mid.bB
   refine tbe1 (ih126 _ _ _ (by first|assumption|omega|rfl|(dsimp;omega)) H) L fun h H L => ?_
   apply Mid.bB
   refine tbe1 (sp128 (by first|assumption|omega|rfl|(dsimp;omega)) H) L fun h H L => ?_
   apply bS
   apply gtt
   apply bO
   apply pT
   refine Tri.eqv (bind_notS _ _) ?_
   refine Tri.not ?_
   apply bS
   apply pT
   cases h2 : isDg (at0 (bts s) (i + 1)) with
   | true =>
    rw [h2, if_pos rfl] at hX
    apply nF
    refine tbe1 (sp120 (by first|assumption|omega|rfl|(dsimp;omega)) (by first|assumption|omega|rfl|(dsimp;omega)) (by first|assumption|omega|rfl|(dsimp;omega)) H) L fun h H L => ?_
    exact fin hX H L
   | false =>
    rw [h2, if_neg (by decide)] at hX
    subst hX
    apply nT
    exact dn H L
  ·rw [show (at0 (bts s) i == 46) = false from beq_eq_false_iff_ne.2 (fun c => e (congrArg Int.ofNat c)), Bool.false_and, if_neg (by decide)] at hX
   subst hX
   apply bS
   apply gft
   apply gtt
   apply bO
   apply pF
   refine Tri.eqv (bind_notS _ _) ?_
   refine Tri.not ?_
   apply bS
   apply pT
   apply nT
   exact dn H L
theorem Tri.mul {d : IntKind} {m n : Int} (hk : Tri h0 ro F Q (k (.int d (d.wrap (m * n))))) : Tri h0 ro F Q (intS .mul (.int d m) (.int d n) k):=by rw [intS_at, int_mul]; exact hk
theorem hst_eq (n : Int) {d : Nat} (hd : d < 16) : hst n d = (16 * n + d) % 18446744073709551616:=by
 unfold hst
 simp only [IntKind.wrap_u64]
 rw [BitVec.toNat_or, BitVec.toNat_ofInt, BitVec.toNat_ofInt]
 have e1 : ((n * 2 ^ 4) % 18446744073709551616 % ((2 ^ 64 : Nat) : Int)).toNat = 2 ^ 4 * ((n % 1152921504606846976).toNat):=by omega
 have e2 : (((d : Int) % 18446744073709551616) % ((2 ^ 64 : Nat) : Int)).toNat = d:=by omega
 rw [e1, e2, ← Nat.two_pow_add_eq_or_of_lt (show d < 2 ^ 4 from hd)]
 omega
theorem wrap_hst {n : Int} {d : Nat} (hd : d < 16) : IntKind.i64.wrap (IntKind.i64.wrap (16 * IntKind.i64.wrap n) + d) = IntKind.i64.wrap (hst n d):=by
 rw [hst_eq n hd]
 simp only [IntKind.wrap_i64]
 omega
theorem hx_from {s : Bs} (hs : s.n ≤ 70000) : ∀ (m i : Nat) (n r : Int) (h : Hp) (l : List Asn), s.n - i < m → i ≤ s.n → r = IntKind.i64.wrap n → St l h →
 Tri h true l (rNo (.tuple [.int .i64 (if (hexn ((bts s).drop i) n).2 then IntKind.i64.wrap (hexn ((bts s).drop i) n).1 else 0), .bool ((hexn ((bts s).drop i) n).2 && decide (0 < s.n))])) (M 121 [.str s, .bool false, .int .i64 r, .int .i64 (i : Int)] h):=by
 intro m
 induction m with
 | zero => intro i n r h l hm; omega
 | succ m ih =>
  intro i n r h l hm hi hr H
  generalize hX : hexn ((bts s).drop i) n = X
  refine t4 e121 fun L => ?_
  unfold B121
  apply lS
  refine Tri.lss ?_ ?_<;>intro e
  ·have hlt : i < s.n := by omega
   have hd:=bts_drop hlt
   have hb:=bts_mem (s:=s) (b:=s.byte i) (List.mem_of_mem_drop (by rw [hd]; exact List.mem_cons_self))
   have hl:=hexv_lt (s.byte i)
   rw [hd, hexn] at hX
   apply nT
   refine iS (by omega) ?_
   refine tbe1 (sp264 (by first|assumption|omega|rfl|(dsimp;omega)) H) L fun h H L => ?_
   refine Tri.ext rfl ?_
   refine Tri.ext rfl ?_
   refine Tri.not ?_
   rw [show ((i : Int)).toNat = i from rfl]
   cases h1 : (hexv (s.byte i)).2 with
   | false =>
    rw [h1, if_neg (by decide)] at hX
    subst hX
    apply nT
    exact dn H L
   | true =>
    rw [h1, if_pos rfl] at hX
    subst hX
    apply nF
    refine Tri.mul (Tri.add ?_)
    rw [hr, wrap_hst hl]
    refine aD (by omega) ?_
    exact te1 (ih (i + 1) _ _ h l (by omega) (by omega) rfl H) L
  ·rw [bts_end (by omega), hexn] at hX
   subst hX
   apply nF
   apply nF
   refine t2 e119 fun L => ?_
   unfold B119
   apply lS
   rw [hr]
   refine Tri.gtr ?_ ?_<;>intro e
   ·rw [decide_eq_true (show 0 < s.n by omega)]
    exact dn H L
   ·rw [decide_eq_false (show ¬ 0 < s.n by omega)]
    exact dn H L
theorem sp262 {s : Bs} (hs : s.n ≤ 70000) (H : St l h) : Tri h true l (rNo (.tuple [.int .i64 (if (hexn (bts s) 0).2 then IntKind.i64.wrap (hexn (bts s) 0).1 else 0), .bool ((hexn (bts s) 0).2 && decide (0 < s.n))])) (M 262 [.str s, .bool false] h):=by
 refine t2 e262 fun L => ?_
 unfold B262
 exact te1 (hx_from hs (s.n + 1) 0 0 0 h l (by omega) (by omega) rfl H) L
def vl (a : Nat) (L : List Nat) : Nat:=L.foldl (fun a b => a * 10 + (b - 48)) a
theorem vl_cons (a b : Nat) (r : List Nat) : vl a (b :: r) = vl (a * 10 + (b - 48)) r:=by unfold vl; rw [List.foldl_cons]
theorem vl_le (a : Nat) : ∀ L : List Nat, a ≤ vl a L:=by
 intro L
 induction L generalizing a with
 | nil => exact Nat.le_refl _
 | cons b r ih => rw [vl_cons]; exact Nat.le_trans (by omega) (ih (a * 10 + (b - 48)))
theorem pU_cons (M a : Nat) (c : UInt8) (r : List UInt8) : Lib.parseUintM M a (c :: r) = if 48 ≤ c.toNat ∧ c.toNat ≤ 57 then (if 1844674407370955162 ≤ a then .range else if M < a * 10 + (c.toNat - 48) then .range else Lib.parseUintM M (a * 10 + (c.toNat - 48)) r) else Lib.parseUintM M a (c :: r):=by
 by_cases h : 48 ≤ c.toNat ∧ c.toNat ≤ 57
 ·rw [if_pos h]
  conv => lhs; rw [Lib.parseUintM, if_pos h]
 ·rw [if_neg h]
theorem pU_nil (M a : Nat) : Lib.parseUintM M a [] = .ok a:=by rw [Lib.parseUintM]
theorem pU_ok {M : Nat} (hM : M = 18446744073709551615) : ∀ (L : List Nat) (a : Nat), (∀ b ∈ L, isDg b = true) →
 (Lib.parseUintM M a (L.map UInt8.ofNat) = .ok (vl a L)) ∨ (Lib.parseUintM M a (L.map UInt8.ofNat) = .range ∧ 9223372036854775808 ≤ vl a L):=by
 intro L
 induction L with
 | nil =>
  intro a _
  exact .inl (pU_nil M a)
 | cons b r ih =>
  intro a h
  have hb:=in_of (show isIn 48 b 57 = true from h b List.mem_cons_self)
  have e : (UInt8.ofNat b).toNat = b:=by rw [UInt8.toNat_ofNat']; omega
  rw [List.map_cons, pU_cons, e, if_pos hb, vl_cons]
  by_cases h1 : 1844674407370955162 ≤ a
  ·rw [if_pos h1]
   have:=vl_le (a * 10 + (b - 48)) r
   exact .inr ⟨rfl, by omega⟩
  ·rw [if_neg h1]
   by_cases h2 : M < a * 10 + (b - 48)
   ·rw [if_pos h2]
    have:=vl_le (a * 10 + (b - 48)) r
    exact .inr ⟨rfl, by omega⟩
   ·rw [if_neg h2]
    exact ih _ fun c hc => h c (List.mem_cons_of_mem _ hc)
theorem pI_eq {L : List Nat} (h : ∀ b ∈ L, isDg b = true) : pI L = if L ≠ [] ∧ vl 0 L < 9223372036854775808 then (((vl 0 L : Nat) : Int), true) else (0, false):=by
 cases L with
 | nil => rfl
 | cons b r =>
  have hb:=in_of (show isIn 48 b 57 = true from h b List.mem_cons_self)
  have e : (UInt8.ofNat b).toNat = b:=by rw [UInt8.toNat_ofNat']; omega
  unfold pI
  rw [List.map_cons, Lib.parseIntB, e, if_neg (by omega), Lib.parseUintB, if_neg (List.cons_ne_nil _ _), ← List.map_cons (f:=UInt8.ofNat)]
  rcases pU_ok (M:=2 ^ 64 - 1) (by decide) (b :: r) 0 h with h1 | ⟨h1, h2⟩
  ·rw [h1]
   dsimp only
   by_cases h3 : 9223372036854775808 ≤ vl 0 (b :: r)
   ·rw [if_pos ⟨by omega, h3⟩, if_neg (fun c => by omega)]
   ·rw [if_neg (fun c => h3 c.2), if_neg (fun c => by omega), if_neg (by omega), if_pos ⟨List.cons_ne_nil _ _, by omega⟩]
  ·rw [h1, if_neg (fun c => by omega)]
theorem hexv_dg {b : Nat} (h : isDg b = true) : hexv b = (b - 48, true):=by unfold hexv; rw [if_pos h]
theorem hexv_no {b : Nat} (h : isDg b = false) : (hexv b).2 = false ∨ 9 < (hexv b).1:=by
 unfold hexv
 rw [if_neg (by rw [h]; decide)]
 split
 ·exact .inr (by show 9 < b - 97 + 10; omega)
 ·split
  ·exact .inr (by show 9 < b - 65 + 10; omega)
  ·exact .inl rfl
def dcl (a : Nat) (L : List Nat) (ne : Bool) : Int × Bool:=if L.all isDg && decide (vl a L < 9223372036854775808) && ne then ((vl a L : Nat), true) else (0, false)
theorem dcl_big {a : Nat} {L : List Nat} {ne : Bool} (h : 9223372036854775808 ≤ vl a L) : dcl a L ne = (0, false):=by
 unfold dcl
 rw [decide_eq_false (by omega), Bool.and_false, Bool.false_and, if_neg (by decide)]
theorem dec_from {s : Bs} (hs : s.n ≤ 70000) : ∀ (m i a : Nat) (h : Hp) (l : List Asn), s.n - i < m → i ≤ s.n → a ≤ 9223372036854775808 → St l h →
 Tri h true l (rNo (.tuple [.int .i64 (dcl a ((bts s).drop i) (decide (0 < s.n))).1, .bool (dcl a ((bts s).drop i) (decide (0 < s.n))).2])) (M 83 [.str s, .bool false, .int .i64 (-(a : Int)), .int .i64 (i : Int)] h):=by
 intro m
 induction m with
 | zero => intro i a h l hm; omega
 | succ m ih =>
  intro i a h l hm hi ha H
  generalize hX : dcl a ((bts s).drop i) (decide (0 < s.n)) = X
  have no : ∀ {h0 h : Hp} {ro : Bool}, (0, false) = X → St l h → Lo ro h0 h → Tri h0 ro l (rNo (.tuple [.int .i64 X.1, .bool X.2])) (some (.tuple [.int .i64 0, .bool false], h)):=by
   intro h0 h ro hX H L
   subst hX
   exact dn H L
  refine t4 e83 fun L => ?_
  unfold B83
  apply lS
  refine Tri.lss ?_ ?_<;>intro e
  ·have hlt : i < s.n := by omega
   have hd:=bts_drop hlt
   have hb:=bts_mem (s:=s) (b:=s.byte i) (List.mem_of_mem_drop (by rw [hd]; exact List.mem_cons_self))
   apply nT
   refine iS (by omega) ?_
   refine tbe1 (sp264 (by first|assumption|omega|rfl|(dsimp;omega)) H) L fun h H L => ?_
   refine Tri.ext rfl ?_
   refine Tri.ext rfl ?_
   refine Tri.not ?_
   rw [show ((i : Int)).toNat = i from rfl]
   cases h1 : isDg (s.byte i) with
   | false =>
    have hX2 : (0, false) = X:=by
     rw [← hX, hd]
     unfold dcl
     rw [List.all_cons, h1]; rfl
    have hh:=hexv_no h1
    cases h2 : (hexv (s.byte i)).2 with
    | false =>
     apply gtf
     apply pT
     apply gtf
     apply pT
     apply gtf
     apply gu
     apply gtf
     apply pT
     apply nT
     exact no hX2 H L
    | true =>
     rw [h2] at hh
     have h3:=hh.resolve_left (by decide)
     apply gff
     apply bI
     refine Tri.gtr (fun e2 => ?_) (fun e2 => by omega)
     apply bS
     apply pF
     apply gtf
     apply pT
     apply gtf
     apply gu
     apply gtf
     apply pT
     apply nT
     exact no hX2 H L
   | true =>
    have h2:=in_of (show isIn 48 (s.byte i) 57 = true from h1)
    rw [hexv_dg h1]
    have hX2 : dcl (a * 10 + (s.byte i - 48)) ((bts s).drop (i + 1)) (decide (0 < s.n)) = X:=by
     rw [← hX, hd]
     unfold dcl
     rw [List.all_cons, h1, vl_cons]; rfl
    have big:=fun hge : 9223372036854775808 < a * 10 + (s.byte i - 48) => (dcl_big (L:=(bts s).drop (i + 1)) (ne:=decide (0 < s.n)) (Nat.le_trans (Nat.le_of_lt hge) (vl_le _ _))).symm.trans hX2
    have go : a * 10 + (s.byte i - 48) ≤ 9223372036854775808 → ∀ {h0 h : Hp} {ro : Bool}, St l h → Lo ro h0 h → Tri h0 ro l (rNo (.tuple [.int .i64 X.1, .bool X.2])) (M 83 [.str s, .bool false, .int .i64 (10 * -(a : Int) - ((s.byte i - 48 : Nat) : Int)), .int .i64 ((i + 1 : Nat) : Int)] h):=by
     intro hle h0 h ro H L
     subst hX2
     have:=ih (i + 1) (a * 10 + (s.byte i - 48)) h l (by omega) (by omega) hle H
     rw [show (-((a * 10 + (s.byte i - 48) : Nat) : Int)) = 10 * -(a : Int) - ((s.byte i - 48 : Nat) : Int) by omega] at this
     exact Tri.tail this L (fun _ => rfl) fun v h B hq H L => ⟨B, hq, H⟩
    apply gff
    apply bI
    refine Tri.gtr (fun e2 => absurd (show 9 < s.byte i - 48 from Int.ofNat_lt.1 e2) (by omega)) (fun _ => ?_)
    apply bS
    apply pF
    apply gff
    apply bI
    have fin : 10 * a + (s.byte i - 48) ≤ 9223372036854775808 → ∀ {h0 h : Hp} {ro : Bool}, St l h → Lo ro h0 h → Tri h0 ro l (rNo (.tuple [.int .i64 X.1, .bool X.2])) (intS .mul (.int .i64 10) (.int .i64 (-(a : Int))) fun v100 => intS .sub v100 (.int .i64 ((s.byte i - 48 : Nat) : Int)) fun v101 =>
     intS .add (.int .i64 (i : Int)) (.int .i64 1) fun v102 => M 83 [.str s, .bool false, v101, v102] h):=by
     intro hle h0 h ro H L
     refine Tri.mul ?_
     rw [i64_of (by omega) (by omega)]
     refine Tri.sub ?_
     rw [i64_of (by omega) (by omega)]
     refine aD (by omega) ?_
     exact go (by omega) H L
    refine Tri.lss ?_ ?_<;>intro e3
    ·apply bS
     apply pF
     apply gtf
     apply gu
     apply gtf
     apply pT
     apply nT
     exact no (big (by omega)) H L
    ·apply bS
     apply pF
     apply gff
     apply bI
     refine Tri.eql ?_ ?_<;>intro e4
     ·apply bS
      apply gtt
      apply bI
      refine Tri.gtr ?_ ?_<;>intro e5
      ·replace e5 : 8 < s.byte i - 48 := Int.ofNat_lt.1 e5
       apply bS
       apply gff
       apply bO
       apply pT
       apply bS
       apply pF
       apply nT
       exact no (big (by omega)) H L
      ·replace e5 : s.byte i - 48 ≤ 8 := Int.ofNat_le.1 e5
       apply bS
       apply gff
       apply bO
       apply pT
       apply bS
       apply pF
       apply nF
       exact fin (by omega) H L
     ·apply bS
      apply gft
      apply gff
      apply bO
      apply pF
      apply bS
      apply pF
      apply nF
      exact fin (by omega) H L
  ·rw [bts_end (by omega)] at hX
   apply nF
   apply lS
   refine Tri.eql ?_ ?_<;>intro e2
   ·apply gtf
    apply gu
    apply gtf
    apply pT
    apply nT
    refine no (hX ▸ ?_) H L
    unfold dcl
    rw [decide_eq_false (show ¬ 0 < s.n by omega)]
    simp
   ·apply gff
    refine Tri.eqv (bind_notS _ _) ?_
    refine Tri.not ?_
    apply bS
    apply gtt
    apply bI
    refine Tri.eql ?_ ?_<;>intro e3
    ·apply bS
     apply gff
     apply bO
     apply pT
     apply bS
     apply pF
     apply nT
     exact no (hX ▸ (dcl_big (by show 9223372036854775808 ≤ a; omega)).symm) H L
    ·apply bS
     apply gff
     apply bO
     apply pT
     apply bS
     apply pF
     apply nF
     refine Tri.not ?_
     apply nT
     refine Tri.subN (by omega) (by omega) ?_
     rw [show (0 : Int) - -(a : Int) = (a : Int) by omega]
     have e4 : X = ((a : Int), true):=by
      rw [← hX]
      unfold dcl
      rw [decide_eq_true (show 0 < s.n by omega), decide_eq_true (show vl a [] < 9223372036854775808 by show a < _; omega)]; rfl
     subst e4
     refine t1 e85 fun L => ?_
     unfold B85
     exact dn H L
theorem sp200 {s : Bs} (hz : s.n ≤ 70000) (hs : ∀ b ∈ bts s, isSp b = false) (hd : ∀ b, (bts s).head? = some b → b ≠ 43 ∧ b ≠ 45) (H : St l h) :
 Tri h true l (rNo (.tuple [.int .i64 (prs (bts s)).1, .bool (prs (bts s)).2])) (M 200 [.str s] h):=by
 have ih83 : ∀ (h : Hp) (l : List Asn), St l h → ∀ X, X = (if (bts s).all isDg then pI (bts s) else (0, false)) → Tri h true l (rNo (.tuple [.int .i64 X.1, .bool X.2])) (M 83 [.str s, .bool false, .int .i64 0, .int .i64 0] h):=by
  intro h l H X hX
  have:=dec_from hz (s.n + 1) 0 0 h l (by omega) (by omega) (by omega) H
  rw [List.drop_zero] at this
  have e : dcl 0 (bts s) (decide (0 < s.n)) = X:=by
   rw [hX]
   unfold dcl
   cases ha : (bts s).all isDg with
   | false => rw [Bool.false_and, Bool.false_and]; rfl
   | true =>
    rw [if_pos rfl, pI_eq (List.all_eq_true.1 ha), Bool.true_and]
    by_cases h1 : bts s = []
    ·rw [decide_eq_false (show ¬ 0 < s.n by rw [← bts_len, h1]; decide), Bool.and_false, if_neg (by decide), if_neg (fun c => c.1 h1)]
    ·have hn : 0 < s.n := by rw [← bts_len]; exact List.length_pos_iff.2 h1
     rw [decide_eq_true hn, Bool.and_true]
     by_cases h2 : vl 0 (bts s) < 9223372036854775808
     ·rw [if_pos (decide_eq_true h2), if_pos ⟨h1, h2⟩]
     ·rw [if_neg (fun c => h2 (of_decide_eq_true c)), if_neg (fun c => h2 c.2)]
  rw [e] at this
  exact this
 have ih81 : ∀ (h : Hp) (l : List Asn), St l h → Tri h true l (rNo (.tuple [.int .i64 (prs (bts s)).1, .bool (prs (bts s)).2])) (M 81 [.str s, .bool false] h):=by
  intro h l H
  refine t2 e81 fun L => ?_
  unfold B81
  generalize hX : prs (bts s) = X
  unfold prs at hX
  rw [bts_len] at hX
  have dec : ∀ {h0 h : Hp} {ro : Bool}, (if (bts s).all isDg then pI (bts s) else (0, false)) = X → St l h → Lo ro h0 h → Tri h0 ro l (rNo (.tuple [.int .i64 X.1, .bool X.2])) (M 83 [.str s, .bool false, .int .i64 0, .int .i64 0] h):=fun hX H L => te1 (ih83 _ _ H X hX.symm) L
  have hexf : ∀ {z : Bs} {h0 h : Hp} {ro : Bool}, bts z = (bts s).drop 2 → (if ((hexn (List.drop 2 (bts s)) 0).2 && !decide (List.drop 2 (bts s) = [])) = true then (IntKind.i64.wrap (hexn (List.drop 2 (bts s)) 0).1, true) else (0, false)) = X → St l h → Lo ro h0 h →
   Tri h0 ro l (rNo (.tuple [.int .i64 X.1, .bool X.2])) (some (.tuple [.int .i64 (if (hexn (bts z) 0).2 = true then IntKind.i64.wrap (hexn (bts z) 0).1 else 0), .bool ((hexn (bts z) 0).2 && decide (0 < z.n))], h)):=by
   intro z h0 h ro hz hX H L
   have hn : decide (0 < z.n) = !decide ((bts s).drop 2 = []):=by
    rw [← bts_len, hz]
    cases (bts s).drop 2 <;> simp
   rw [hn, hz]
   refine Tri.done (B:=[]) ⟨?_, rfl⟩ H L
   rw [← hX]
   cases hd : (bts s).drop 2 with
   | nil => rfl
   | cons b r =>
    cases hc : (hexn (b :: r) 0).2 with
    | false => rfl
    | true => rfl
  apply lS
  refine Tri.gtr ?_ ?_<;>intro e
  ·have hh := bts_head (z := s) (by omega)
   have ht : ((bts s).drop 1).head? = some (s.byte 1):=by rw [bts_drop (show 1 < s.n by omega)]; rfl
   rw [hh, ht] at hX
   apply gtt
   refine jS (by omega) ?_
   apply bI
   refine Tri.eql ?_ ?_<;>intro e1
   ·have e1' : s.byte 0 = 48 := Int.ofNat.inj e1
    apply bS
    apply pT
    apply gtt
    refine jS (by omega) ?_
    apply bI
    refine Tri.eql ?_ ?_<;>intro e2
    ·have e2' : s.byte 1 = 120 := Int.ofNat.inj e2
     rw [if_pos ⟨by omega, by rw [e1'], .inl (by rw [e2'])⟩] at hX
     apply bS
     apply gtf
     apply gtt
     apply bO
     apply pT
     apply bS
     apply pT
     apply nT
     refine Tri.cutLo (by omega) (by omega) fun z68 nz68 ez68 => ?_
     refine tbe1 (sp262 (by first|assumption|omega|rfl|(dsimp;omega)) H) L fun h H L => ?_
     refine Tri.ext rfl ?_
     refine Tri.ext rfl ?_
     exact hexf ez68 hX H L
    ·have e2' : s.byte 1 ≠ 120 := fun c => e2 (congrArg Int.ofNat c)
     apply bS
     apply gff
     refine jS (by omega) ?_
     apply bI
     refine Tri.eql ?_ ?_<;>intro e3
     ·have e3' : s.byte 1 = 88 := Int.ofNat.inj e3
      rw [if_pos ⟨by omega, by rw [e1'], .inr (by rw [e3'])⟩] at hX
      apply bS
      apply gtt
      apply bO
      apply pF
      apply bS
      apply pT
      apply nT
      refine Tri.cutLo (by omega) (by omega) fun z107 nz107 ez107 => ?_
      refine tbe1 (sp262 (by first|assumption|omega|rfl|(dsimp;omega)) H) L fun h H L => ?_
      refine Tri.ext rfl ?_
      refine Tri.ext rfl ?_
      exact hexf ez107 hX H L
     ·have e3' : s.byte 1 ≠ 88 := fun c => e3 (congrArg Int.ofNat c)
      rw [if_neg (fun c => c.2.2.elim (fun c => e2' (Option.some.inj c)) (fun c => e3' (Option.some.inj c)))] at hX
      apply bS
      apply gtt
      apply bO
      apply pF
      apply bS
      apply pT
      apply nF
      exact dec hX H L
   ·have e1' : s.byte 0 ≠ 48 := fun c => e1 (congrArg Int.ofNat c)
    rw [if_neg (fun c => e1' (Option.some.inj c.2.1))] at hX
    apply bS
    apply pT
    apply gft
    apply gu
    apply gft
    apply pF
    apply nF
    exact dec hX H L
  ·rw [if_neg (fun c => by omega)] at hX
   apply gft
   apply pF
   apply gft
   apply gu
   apply gft
   apply pF
   apply nF
   exact dec hX H L
 have ih79 : ∀ (h : Hp) (l : List Asn), St l h → Tri h true l (rNo (.tuple [.int .i64 (prs (bts s)).1, .bool (prs (bts s)).2])) (M 79 [.str s] h):=by
  intro h l H
  refine t1 e79 fun L => ?_
  unfold B79
  apply lS
  refine Tri.gtr ?_ ?_<;>intro e
  ·have hm := bts_in (z := s) (i := ((s.n : Int) - 1).toNat) (by omega)
   have hb:=bts_mem hm
   apply gtt
   apply Mid.bB
   apply lS
   apply bI
   refine Tri.subN (by omega) (by omega) ?_
   refine jS (by omega) ?_
   apply Mid.bB
   refine tbe1 (sp64 (by first|assumption|omega|rfl|(dsimp;omega)) H) L fun h H L => ?_
   apply bS
   apply pT
   rw [hs _ hm]
   have h9:=hd _ (bts_head (z:=s) (by omega))
   apply nF
   apply lS
   refine Tri.gtr (fun e2 => ?_) (fun e2 => by omega)
   apply gtt
   refine jS (by omega) ?_
   apply bI
   refine Tri.eql (fun e => absurd (Int.ofNat.inj e) h9.2) (fun _ => ?_)
   apply bS
   apply pT
   apply gff
   apply Mid.bB
   apply lS
   apply bI
   refine Tri.gtr (fun e2 => ?_) (fun e2 => by omega)
   apply bS
   apply gtt
   refine jS (by omega) ?_
   apply bI
   refine Tri.eql (fun e => absurd (Int.ofNat.inj e) h9.1) (fun _ => ?_)
   apply bS
   apply gff
   apply bO
   apply pT
   apply bS
   apply pF
   apply nF
   refine te1 (ih81 _ _ H) L
  ·apply gft
   apply pF
   apply nF
   apply lS
   refine Tri.gtr (fun e2 => by omega) (fun e2 => ?_)
   apply gft
   apply pF
   apply gff
   apply Mid.bB
   apply lS
   apply bI
   refine Tri.gtr (fun e2 => by omega) (fun e2 => ?_)
   apply bS
   apply gft
   apply gff
   apply bO
   apply pF
   apply bS
   apply pF
   apply nF
   refine te1 (ih81 _ _ H) L
 have ih77 : ∀ (h : Hp) (l : List Asn), St l h → Tri h true l (rNo (.tuple [.int .i64 (prs (bts s)).1, .bool (prs (bts s)).2])) (M 77 [.str s] h):=by
  intro h l H
  refine t1 e77 fun L => ?_
  unfold B77
  apply lS
  refine Tri.gtr ?_ ?_<;>intro e
  ·have hm := bts_in (z := s) (i := Int.toNat 0) (by show 0 < s.n; omega)
   have hb:=bts_mem hm
   apply gtt
   refine jS (by omega) ?_
   apply Mid.bB
   refine tbe1 (sp64 (by first|assumption|omega|rfl|(dsimp;omega)) H) L fun h H L => ?_
   apply bS
   apply pT
   rw [hs _ hm]
   apply nF
   refine te1 (ih79 _ _ H) L
  ·apply gft
   apply pF
   apply nF
   refine te1 (ih79 _ _ H) L
 refine t1 e200 fun L => ?_
 unfold B200
 exact te1 (ih77 _ _ H) L
theorem hasB_one (c : UInt8) : ∀ L : List UInt8, hasB L [c] = L.any (· == c)
 | [] => rfl
 | b :: L => by
  rw [hasB, preB_eq, hasB_one c L, List.any_cons]
  show (bif ((c == b) && List.isPrefixOf [] L) then true else _) = _
  rw [List.isPrefixOf_nil_left, Bool.and_true, show (c == b) = (b == c) from Bool.beq_comm]
  cases (b == c) <;> rfl
theorem anyB_eq (cs : List UInt8) : ∀ L : List UInt8, anyB L cs = L.any (fun b => cs.contains b)
 | [] => rfl
 | b :: L => by
  rw [anyB, memB_eq, anyB_eq cs L, List.any_cons]
  cases cs.contains b <;> rfl
theorem any_map (p : UInt8 → Bool) (L : List Nat) : (L.map UInt8.ofNat).any p = L.any (fun b => p (UInt8.ofNat b)):=by
 rw [List.any_map]; rfl
theorem any_congr {p q : Nat → Bool} : ∀ {L : List Nat}, (∀ b ∈ L, p b = q b) → L.any p = L.any q
 | [], _ => rfl
 | b :: L, h => by rw [List.any_cons, List.any_cons, h b List.mem_cons_self, any_congr fun c hc => h c (List.mem_cons_of_mem _ hc)]
theorem all_congr {p q : Nat → Bool} : ∀ {L : List Nat}, (∀ b ∈ L, p b = q b) → L.all p = L.all q
 | [], _ => rfl
 | b :: L, h => by rw [List.all_cons, List.all_cons, h b List.mem_cons_self, all_congr fun c hc => h c (List.mem_cons_of_mem _ hc)]
def fl (hex : Bool) (b : Nat) : Bool:=b == 46 || (!hex && (b == 101 || b == 69)) || (hex && (b == 112 || b == 80))
theorem dw_nil {α : Type} {p : α → Bool} : ∀ {L : List α}, L.dropWhile p = [] ↔ L.all p = true
 | [] => ⟨fun _ => rfl, fun _ => rfl⟩
 | a :: L => by
  rw [List.dropWhile_cons, List.all_cons]
  cases h : p a with
  | true => rw [if_pos rfl, Bool.true_and]; exact dw_nil
  | false => simp
theorem dw_head {α : Type} {p : α → Bool} : ∀ {L : List α} {a : α} {r : List α}, L.dropWhile p = a :: r → p a = false
 | [], _, _, h => nomatch h
 | b :: L, a, r, h => by
  rw [List.dropWhile_cons] at h
  cases hb : p b with
  | true => rw [hb, if_pos rfl] at h; exact dw_head h
  | false => rw [hb, if_neg (by decide)] at h; rw [← (List.cons.inj h).1]; exact hb
theorem trim_nil {α : Type} {p : α → Bool} (L : List α) : ((L.reverse.dropWhile p).reverse.dropWhile p = []) ↔ L.all p = true:=by
 rw [dw_nil]
 constructor
 ·intro h
  cases hE : L.reverse.dropWhile p with
  | nil =>
   have:=dw_nil.1 hE
   rw [List.all_reverse] at this
   exact this
  | cons a r =>
   have h1:=dw_head hE
   rw [List.all_reverse, hE, List.all_cons, h1] at h
   cases h
 ·intro h
  rw [List.all_reverse] at *
  rw [dw_nil.2 (by rw [List.all_reverse]; exact h)]; rfl
theorem pln_eq {L : List Nat} (h : ∀ b ∈ L, b < 256) : pln L = L.all isDg:=by
 have e : ∀ b ∈ L, (Bs.l ⟨10, 270211885617516653982000⟩).contains (UInt8.ofNat b) = isDg b:=fun b hb => all256 (p:=fun b => (Bs.l ⟨10, 270211885617516653982000⟩).contains (UInt8.ofNat b)) (by kernel_rfl) (h b hb)
 have h2:=trim_nil (p:=fun x => (Bs.l ⟨10, 270211885617516653982000⟩).contains x) (L.map UInt8.ofNat)
 rw [List.all_map] at h2
 rw [← all_congr e]
 unfold pln trm Lib.trimS Lib.trimLeftS Lib.trimRightS
 rw [Bool.eq_iff_iff, decide_eq_true_iff, List.map_eq_nil_iff, h2]
 exact Iff.rfl
theorem any_or {p q : Nat → Bool} : ∀ L : List Nat, L.any (fun b => p b || q b) = (L.any p || L.any q)
 | [] => rfl
 | b :: L => by
  rw [List.any_cons, List.any_cons, List.any_cons, any_or L]
  cases p b <;> cases q b <;> cases L.any p <;> rfl
theorem flt_eq {L : List Nat} (h : ∀ b ∈ L, b < 256) : flt L = (L.all isDg || L.any (fl (hx L))):=by
 unfold flt
 rw [pln_eq h, show Bs.l ⟨1, 46⟩ = [46] from rfl, hasB_one, anyB_eq, anyB_eq, any_map, any_map, any_map]
 rw [any_congr (q := fun b => b == 46) fun b hb => all256 (p := fun b => UInt8.ofNat b == 46) (q := fun b => b == 46) (by kernel_rfl) (h b hb),
  any_congr (q:=fun b => b == 101 || b == 69) fun b hb => all256 (p:=fun b => (Bs.l ⟨2, 17765⟩).contains (UInt8.ofNat b)) (q:=fun b => b == 101 || b == 69) (by kernel_rfl) (h b hb),
  any_congr (q:=fun b => b == 112 || b == 80) fun b hb => all256 (p:=fun b => (Bs.l ⟨2, 20592⟩).contains (UInt8.ofNat b)) (q:=fun b => b == 112 || b == 80) (by kernel_rfl) (h b hb)]
 cases hx L with
 | true =>
  rw [any_congr (L:=L) (p:=fl true) (q:=fun b => b == 46 || (b == 112 || b == 80)) (fun b _ => by unfold fl; simp), any_or (p:=fun b => b == 46) (q:=fun b => b == 112 || b == 80)]
  generalize L.any (fun b => b == 112 || b == 80) = x
  generalize L.any (fun b => b == 46) = y
  generalize L.any (fun b => b == 101 || b == 69) = z
  cases L.all isDg <;> cases x <;> cases y <;> cases z <;> rfl
 | false =>
  rw [any_congr (L:=L) (p:=fl false) (q:=fun b => b == 46 || (b == 101 || b == 69)) (fun b _ => by unfold fl; simp), any_or (p:=fun b => b == 46) (q:=fun b => b == 101 || b == 69)]
  generalize L.any (fun b => b == 112 || b == 80) = x
  generalize L.any (fun b => b == 46) = y
  generalize L.any (fun b => b == 101 || b == 69) = z
  cases L.all isDg <;> cases x <;> cases y <;> cases z <;> rfl
def nb3 (P : Int × Bool) (hex d f : Bool) : Int × Int:=if P.2 && (hex || d) then (P.1, 0) else if d || f then (0, 31) else (0, 30)
theorem nb3_eq {L : List Nat} (h : ∀ b ∈ L, b < 256) : nb3 (prs L) (hx L) (L.all isDg) (L.any (fl (hx L))) = ((numb L).2.1, (numb L).2.2):=by
 unfold nb3 numb
 rw [pln_eq h, flt_eq h]
 cases ((prs L).2 && (hx L || L.all isDg)) <;> cases (L.all isDg || L.any (fl (hx L))) <;> rfl
def PF (s : Bs) (i b : Nat) (hex d f : Bool) (h : Hp) : VH :=
 guardS (.bool f) false (intS .eql (.int .u8 (b : Int)) (.int .u8 46) fun v16 =>
 some (v16, h)) h fun v17 h18 =>
 optS (pickV (.bool f) (.bool true) v17) fun v19 =>
 guardS v19 false (notS (V.bool hex) fun v20 =>
 some (v20, h18)) h18 fun v21 h22 =>
 guardS v21 true (intS .eql (.int .u8 (b : Int)) (.int .u8 101) fun v23 =>
 some (v23, h22)) h22 fun v24 h25 =>
 guardS v24 false (intS .eql (.int .u8 (b : Int)) (.int .u8 69) fun v26 =>
 some (v26, h25)) h25 fun v27 h28 =>
 guardS v21 true (optS (pickV v24 (.bool true) v27) fun v29 =>
 some (v29, h28)) h28 fun v30 h31 =>
 guardS v19 false (optS (pickV v21 v30 (.bool false)) fun v32 =>
 some (v32, h31)) h31 fun v33 h34 =>
 optS (pickV v19 (.bool true) v33) fun v35 =>
 guardS v35 false (some ((V.bool hex), h34)) h34 fun v36 h37 =>
 guardS v36 true (intS .eql (.int .u8 (b : Int)) (.int .u8 112) fun v38 =>
 some (v38, h37)) h37 fun v39 h40 =>
 guardS v39 false (intS .eql (.int .u8 (b : Int)) (.int .u8 80) fun v41 =>
 some (v41, h40)) h40 fun v42 h43 =>
 guardS v36 true (optS (pickV v39 (.bool true) v42) fun v44 =>
 some (v44, h43)) h43 fun v45 h46 =>
 guardS v35 false (optS (pickV v36 v45 (.bool false)) fun v47 =>
 some (v47, h46)) h46 fun v48 h49 =>
 optS (pickV v35 (.bool true) v48) fun v50 =>
 intS .add (.int .i64 (i : Int)) (.int .i64 1) fun v51 =>
 M 57 [(.str s), (V.bool hex), (.bool d), v50, v51] h49
theorem pf_ok {X : Int × Int} {s : Bs} {i b : Nat} {hex d f : Bool} (hi : i ≤ 70000) (go : ∀ {h0 h : Hp} {ro : Bool} (f' : Bool), f' = (f || fl hex b) → St l h → Lo ro h0 h → Tri h0 ro l (rNo (.tuple [.int .i64 X.1, .int .i64 X.2])) (M 57 [.str s, .bool hex, .bool d, .bool f', .int .i64 ((i + 1 : Nat) : Int)] h)) (H : St l h) (L : Lo ro h0 h) :
 Tri h0 ro l (rNo (.tuple [.int .i64 X.1, .int .i64 X.2])) (PF s i b hex d f h):=by
 unfold PF
 cases f with
 | true =>
  apply gtf
  apply pT
  apply gtf
  apply gu
  apply gu
  apply gu
  apply gtf
  apply pT
  apply gtf
  apply gu
  apply gu
  apply gu
  apply gtf
  apply pT
  refine aD (by omega) ?_
  exact go true rfl H L
 | false =>
  rw [Bool.false_or] at go
  apply gff
  apply bI
  refine Tri.eql ?_ ?_<;>intro e
  ·rw [show b = 46 from Int.ofNat.inj e] at go ⊢
   apply bS
   apply pF
   apply gtf
   apply gu
   apply gu
   apply gu
   apply gtf
   apply pT
   apply gtf
   apply gu
   apply gu
   apply gu
   apply gtf
   apply pT
   refine aD (by omega) ?_
   exact go true rfl H L
  ·have e' : (b == 46) = false := beq_eq_false_iff_ne.2 (fun c => e (congrArg Int.ofNat c))
   unfold fl at go
   rw [e', Bool.false_or] at go
   cases hex with
   | true =>
    apply bS
    apply pF
    apply gff
    refine Tri.eqv (bind_notS _ _) ?_
    refine Tri.not ?_
    apply bS
    apply gft
    apply gu
    apply gft
    apply gff
    apply bO
    apply pF
    apply bS
    apply pF
    apply gff
    apply bS
    apply gtt
    apply bI
    refine Tri.eql ?_ ?_<;>intro e2
    ·rw [show b = 112 from Int.ofNat.inj e2] at go ⊢
     apply bS
     apply gtf
     apply gtt
     apply bO
     apply pT
     apply bS
     apply gff
     apply bO
     apply pT
     apply bS
     apply pF
     refine aD (by omega) ?_
     exact go true rfl H L
    ·apply bS
     apply gff
     apply bI
     refine Tri.eql ?_ ?_<;>intro e3
     ·rw [show b = 80 from Int.ofNat.inj e3] at go
      apply bS
      apply gtt
      apply bO
      apply pF
      apply bS
      apply gff
      apply bO
      apply pT
      apply bS
      apply pF
      refine aD (by omega) ?_
      exact go true rfl H L
     ·rw [beq_eq_false_iff_ne.2 (fun c => e2 (congrArg Int.ofNat c)), beq_eq_false_iff_ne.2 (fun c => e3 (congrArg Int.ofNat c))] at go
      apply bS
      apply gtt
      apply bO
      apply pF
      apply bS
      apply gff
      apply bO
      apply pT
      apply bS
      apply pF
      refine aD (by omega) ?_
      exact go false rfl H L
   | false =>
    apply bS
    apply pF
    apply gff
    refine Tri.eqv (bind_notS _ _) ?_
    refine Tri.not ?_
    apply bS
    apply gtt
    apply bI
    refine Tri.eql ?_ ?_<;>intro e2
    ·rw [show b = 101 from Int.ofNat.inj e2] at go ⊢
     apply bS
     apply gtf
     apply gtt
     apply bO
     apply pT
     apply bS
     apply gff
     apply bO
     apply pT
     apply bS
     apply pF
     apply gtf
     apply gu
     apply gu
     apply gu
     apply gtf
     apply pT
     refine aD (by omega) ?_
     exact go true rfl H L
    ·apply bS
     apply gff
     apply bI
     refine Tri.eql ?_ ?_<;>intro e3
     ·rw [show b = 69 from Int.ofNat.inj e3] at go
      apply bS
      apply gtt
      apply bO
      apply pF
      apply bS
      apply gff
      apply bO
      apply pT
      apply bS
      apply pF
      apply gtf
      apply gu
      apply gu
      apply gu
      apply gtf
      apply pT
      refine aD (by omega) ?_
      exact go true rfl H L
     ·rw [show (b == 101) = false from beq_eq_false_iff_ne.2 (fun c => e2 (congrArg Int.ofNat c)), show (b == 69) = false from beq_eq_false_iff_ne.2 (fun c => e3 (congrArg Int.ofNat c))] at go
      apply bS
      apply gtt
      apply bO
      apply pF
      apply bS
      apply gff
      apply bO
      apply pT
      apply bS
      apply pF
      apply gff
      apply bS
      apply gft
      apply gu
      apply gft
      apply gff
      apply bO
      apply pF
      apply bS
      apply pF
      refine aD (by omega) ?_
      exact go false rfl H L
theorem number_from {s : Bs} {hex : Bool} (hs : s.n ≤ 60000) (hP : ∀ h, St l h → Tri h true l (rNo (.tuple [.int .i64 (prs (bts s)).1, .bool (prs (bts s)).2])) (M 200 [.str s] h)) : ∀ (m i : Nat) (d f : Bool) (h : Hp), s.n - i < m → i ≤ s.n → St l h →
 ∀ X, nb3 (prs (bts s)) hex (d && ((bts s).drop i).all isDg) (f || ((bts s).drop i).any (fl hex)) = X → Tri h true l (rNo (.tuple [.int .i64 X.1, .int .i64 X.2])) (M 57 [.str s, .bool hex, .bool d, .bool f, .int .i64 (i : Int)] h):=by
 intro m
 induction m with
 | zero => intro i d f h hm; omega
 | succ m ih =>
  intro i d f h hm hi H X hX
  have ih200:=hP
  refine t5 e57 fun L => ?_
  unfold B57
  apply lS
  refine Tri.lss ?_ ?_<;>intro e
  ·have hlt : i < s.n := by omega
   have hd:=bts_drop hlt
   have hb:=bts_mem (s:=s) (b:=s.byte i) (List.mem_of_mem_drop (by rw [hd]; exact List.mem_cons_self))
   rw [hd, List.all_cons, List.any_cons, ← Bool.and_assoc, ← Bool.or_assoc] at hX
   have go : ∀ {h0 h : Hp} {ro : Bool} (d' f' : Bool), d' = (d && isDg (s.byte i)) → f' = (f || fl hex (s.byte i)) → St l h → Lo ro h0 h → Tri h0 ro l (rNo (.tuple [.int .i64 X.1, .int .i64 X.2])) (M 57 [.str s, .bool hex, .bool d', .bool f', .int .i64 ((i + 1 : Nat) : Int)] h):=by
    intro h0 h ro d' f' h1 h2 H L
    rw [← h1, ← h2] at hX
    exact te1 (ih (i + 1) d' f' h (by omega) (by omega) H X hX) L
   generalize hy : s.byte i = b at hb go
   have fin : ∀ {h0 h : Hp} {ro : Bool} (d' : Bool), d' = (d && isDg b) → St l h → Lo ro h0 h → Tri h0 ro l (rNo (.tuple [.int .i64 X.1, .int .i64 X.2])) (PF s i b hex d' f h):=fun d' hd' H L => pf_ok (by omega) (fun f' hf H L => go d' f' hd' hf H L) H L
   apply nT
   refine iS (by omega) ?_
   rw [show ((i : Int)).toNat = i from rfl, hy]
   cases d with
   | true =>
    apply gtt
    apply Mid.bB
    refine tbe1 (sp128 (by first|assumption|omega|rfl|(dsimp;omega)) H) L fun h H L => ?_
    apply bS
    apply pT
    exact fin _ rfl H L
   | false =>
    apply gft
    apply pF
    exact fin false rfl H L
  ·rw [bts_end (by omega), List.all_nil, List.any_nil, Bool.and_true, Bool.or_false] at hX
   apply nF
   refine tbe1 (ih200 _ H) L fun h H L => ?_
   refine Tri.ext rfl ?_
   refine Tri.ext rfl ?_
   unfold nb3 at hX
   generalize prs (bts s) = P at hX
   obtain ⟨P1, P2⟩:=P
   dsimp only at hX ⊢
   have fin : ∀ {h0 h : Hp} {ro : Bool}, (if d || f then ((0 : Int), (31 : Int)) else (0, 30)) = X → St l h → Lo ro h0 h → Tri h0 ro l (rNo (.tuple [.int .i64 X.1, .int .i64 X.2])) (guardS (.bool d) false (some (V.bool f, h)) h fun v64 h65 => optS (pickV (.bool d) (.bool true) v64) fun v66 =>
    ifS v66 (some (.tuple [.int .i64 0, .int .i64 31], h65)) (some (.tuple [.int .i64 0, .int .i64 30], h65))):=by
    intro h0 h ro hX H L
    subst hX
    cases d <;> cases f <;> exact dn H L
   cases P2 with
   | false =>
    apply gft
    apply gu
    apply gft
    apply pF
    apply nF
    exact fin hX H L
   | true =>
    cases hex with
    | true =>
     apply gtt
     apply bS
     apply gtf
     apply gtt
     apply bO
     apply pT
     apply bS
     apply pT
     apply nT
     subst hX
     exact dn H L
    | false =>
     cases d with
     | true =>
      apply gtt
      apply bS
      apply gff
      apply bS
      apply gtt
      apply bO
      apply pF
      apply bS
      apply pT
      apply nT
      subst hX
      exact dn H L
     | false =>
      apply gtt
      apply bS
      apply gff
      apply bS
      apply gtt
      apply bO
      apply pF
      apply bS
      apply pT
      apply nF
      apply gff
      apply bS
      apply pF
      exact fin hX H L
theorem sp132 {s : Bs} (hz : s.n ≤ 60000) (hs : ∀ b ∈ bts s, numC b = true) (hd : ∀ b, (bts s).head? = some b → b ≠ 43 ∧ b ≠ 45) (H : St l h) :
 Tri h true l (rNo (.tuple [.int .i64 (numb (bts s)).2.1, .int .i64 (numb (bts s)).2.2])) (M 132 [.str s] h):=by
 have ih57 : ∀ (hex : Bool) (h : Hp), hex = hx (bts s) → St l h → Tri h true l (rNo (.tuple [.int .i64 (numb (bts s)).2.1, .int .i64 (numb (bts s)).2.2])) (M 57 [.str s, .bool hex, .bool true, .bool false, .int .i64 0] h):=by
  intro hex h he H
  refine number_from hz (fun h H => sp200 (by omega) (fun b hb => numC_sp (hs b hb)) hd H) (s.n + 1) 0 true false h (by omega) (by omega) H _ ?_
  rw [he, List.drop_zero, Bool.true_and, Bool.false_or]
  exact nb3_eq fun b hb => bts_mem hb
 refine t1 e132 fun L => ?_
 unfold B132
 refine tbe1 (sp120 (by first|assumption|omega|rfl|(dsimp;omega)) (by first|assumption|omega|rfl|(dsimp;omega)) (by first|assumption|omega|rfl|(dsimp;omega)) H) L fun h H L => ?_
 rw [show bts ⟨2, 30768⟩ = [48, 120] from rfl, List.drop_zero]
 cases h1 : [48, 120].isPrefixOf (bts s) with
 | true =>
  apply gtf
  apply pT
  exact te1 (ih57 true h (by unfold hx; rw [h1]; rfl) H) L
 | false =>
  apply gff
  apply Mid.bB
  refine tbe1 (sp120 (by first|assumption|omega|rfl|(dsimp;omega)) (by first|assumption|omega|rfl|(dsimp;omega)) (by first|assumption|omega|rfl|(dsimp;omega)) H) L fun h H L => ?_
  apply bS
  apply pF
  rw [show bts ⟨2, 22576⟩ = [48, 88] from rfl]
  exact te1 (ih57 _ h (by unfold hx; rw [h1]; rfl) H) L
end
end Go.LT
end
