/- A part of the proof. -/
import Derived.Test.YtdiiilfokajddaaGreatDoorQLTY
set_option linter.all false
set_option warn.classDefReducibility false
noncomputable section
section
open Go Go.Mid Go.Proofs
set_option maxRecDepth 100000
namespace Go.LT
section
variable {l F : List Asn} {h h0 : Hp} {ro : Bool} {Q : V → List Asn → Prop} {k : V → VH} {K : V → Hp → VH} {v lV : V} {i j n : Nat}
theorem esc_z (r : List Nat) : esc (122 :: r) = 1 + cnt isSp r:=by unfold esc; rw [List.head?_cons, if_pos rfl]; rfl
theorem esc_edg {b : Nat} {r : List Nat} (h : b ≠ 122) : esc (b :: r) = if edg (b :: r) = 0 then 1 else edg (b :: r):=by
 unfold esc
 rw [List.head?_cons, if_neg (fun c => h (Option.some.inj c))]
 rcases edg_cases b r with ⟨h1, h2⟩ | ⟨h1, h2, h3⟩ | ⟨h1, h2, c, t, rfl, h4, h5⟩
 ·rw [h2, if_pos rfl, show (some b).any isEnd = false from h1, Bool.false_and, Bool.false_and, if_neg (show ¬ false = true by decide)]
 ·rw [h2, if_neg (show ¬ (1 : Nat) = 0 by decide), show (some b).any isEnd = true from h1, Bool.true_and]
  rw [if_neg]
  intro hc
  cases r with
  | nil => cases hc
  | cons c t =>
   rw [List.drop_succ_cons, List.drop_zero, List.head?_cons, Bool.and_eq_true, bne_iff_ne] at hc
   rcases h3 c t rfl with h3 | h3
   ·rw [show (some c).any isEnd = isEnd c from rfl, h3] at hc; exact absurd hc.1 (by decide)
   ·exact hc.2 (by rw [h3])
 ·rw [h2, if_neg (show ¬ (2 : Nat) = 0 by decide), show (some b).any isEnd = true from h1, Bool.true_and, List.drop_succ_cons, List.drop_zero, List.head?_cons, show (some c).any isEnd = true from h4, Bool.true_and, if_pos]
  rw [bne_iff_ne]
  exact fun hc => h5 (Option.some.inj hc)
theorem spc_from {s : Bs} {i k : Nat} {X : V} (hs : s.n ≤ 60000) (hi : i ≤ 60000) : ∀ (m n : Nat) (h : Hp) (l : List Asn), s.n - (k + n) < m → k + n ≤ s.n →
 (∀ h, St l h → Tri h true l (rNo X) (M 43 [.str s, .int .i64 (i : Int), .int .i64 ((k + (n + cnt isSp ((bts s).drop (k + n))) : Nat) : Int)] h)) → St l h →
 Tri h true l (rNo X) (M 49 [.str s, .int .i64 (i : Int), .int .i64 (k : Int), .int .i64 (n : Int)] h):=by
 intro m
 induction m with
 | zero => intro n h l hm; omega
 | succ m ih =>
  intro n h l hm hn hg H
  have out : cnt isSp ((bts s).drop (k + n)) = 0 → ∀ {h0 h : Hp} {ro : Bool}, St l h → Lo ro h0 h → Tri h0 ro l (rNo X) (M 47 [.str s, .int .i64 (i : Int), .int .i64 (k : Int), .int .i64 (n : Int)] h):=by
   intro hc h0 h ro H L
   rw [hc, Nat.add_zero] at hg
   have h47 : Tri h true l (rNo X) (M 47 [.str s, .int .i64 (i : Int), .int .i64 (k : Int), .int .i64 (n : Int)] h):=by
    refine t4 e47 fun L => ?_
    unfold B47
    refine aD (by omega) ?_
    exact te1 (hg _ H) L
   exact Tri.tail h47 L (fun _ => rfl) fun v h B hq H L => ⟨B, hq, H⟩
  refine t4 e49 fun L => ?_
  unfold B49
  refine aD (by omega) ?_
  apply lS
  refine Tri.lss ?_ ?_<;>intro e
  ·have hlt : k + n < s.n := by omega
   have hd:=bts_drop hlt
   have hb:=bts_mem (bts_in (z:=s) (i:=((k : Int) + (n : Int)).toNat) hlt)
   rw [hd, cnt_cons] at hg out
   apply gtt
   apply bI
   refine aD (by omega) ?_
   refine jS (by omega) ?_
   apply Mid.bB
   refine tbe1 (sp64 (by first|assumption|omega|rfl|(dsimp;omega)) H) L fun h H L => ?_
   apply bS
   apply pT
   rw [show ((k : Int) + (n : Int)).toNat = k + n from rfl]
   cases h1 : isSp (s.byte (k + n)) with
   | true =>
    rw [h1, if_pos rfl] at hg
    apply nT
    refine aD (by omega) ?_
    refine te1 (ih (n + 1) h l (by omega) (by omega) (fun h H => ?_) H) L
    have:=hg h H
    rw [show n + (cnt isSp ((bts s).drop (k + n + 1)) + 1) = n + 1 + cnt isSp ((bts s).drop (k + n + 1)) by omega] at this
    exact this
   | false =>
    rw [h1, if_neg (by decide)] at out
    apply nF
    exact out rfl H L
  ·apply gft
   apply pF
   apply nF
   exact out (by rw [bts_end (by omega)]; rfl) H L
theorem quo_from {s : Bs} {i : Nat} (hs : s.n ≤ 60000) (hi : i < s.n) : ∀ (f k : Nat) (h : Hp) (l : List Asn), s.n - k < f → k ≤ s.n → i ≤ k → St l h →
 Tri h true l (rNo (.int .i64 (qtd f (s.byte i) ((bts s).drop k) (k - i) : Nat))) (M 43 [.str s, .int .i64 (i : Int), .int .i64 (k : Int)] h):=by
 intro f
 induction f with
 | zero => intro k h l hm; omega
 | succ f ih =>
  intro k h l hm hk hik H
  have ih118:=fun (i : Nat) (h : Hp) (l : List Asn) (hi : i ≤ 70000) (H : St l h) => sp118 (s:=s) (by omega) hi H
  generalize hX : qtd (f + 1) (s.byte i) ((bts s).drop k) (k - i) = X
  refine t3 e43 fun L => ?_
  unfold B43
  apply lS
  refine Tri.lss ?_ ?_<;>intro e
  ·have hlt : k < s.n := by omega
   have hd:=bts_drop hlt
   rw [hd, qtd] at hX
   apply nT
   refine iS (by omega) ?_
   refine iS (by omega) ?_
   rw [show ((k : Int)).toNat = k from rfl, show ((i : Int)).toNat = i from rfl]
   refine Tri.eql ?_ ?_<;>intro e
   ·rw [if_pos (Int.ofNat.inj e)] at hX
    apply nT
    refine aD (by omega) ?_
    refine Tri.subN (by omega) (by omega) ?_
    rw [show (k : Int) + 1 - (i : Int) = (X : Int) by omega]
    exact dn H L
   ·rw [if_neg (fun c => e (congrArg Int.ofNat c))] at hX
    have hEnd : isEnd (s.byte k) = true → 0 = X:=fun hE => by rw [if_pos hE] at hX; exact hX
    apply nF
    refine iS (by omega) ?_
    refine Tri.eql ?_ ?_<;>intro e2
    ·have := hEnd (isEnd_iff.2 (.inl (Int.ofNat.inj e2)))
     subst this
     apply gtf
     apply pT
     apply nT
     exact dn H L
    ·apply gff
     refine jS (by omega) ?_
     apply bI
     refine Tri.eql ?_ ?_<;>intro e3
     ·have := hEnd (isEnd_iff.2 (.inr (Int.ofNat.inj e3)))
      subst this
      apply bS
      apply pF
      apply nT
      exact dn H L
     ·rw [if_neg (show ¬ isEnd (s.byte k) = true by rw [isEnd_no (b := s.byte k) (fun c => e2 (congrArg Int.ofNat c)) (fun c => e3 (congrArg Int.ofNat c))]; decide)] at hX
      clear hEnd
      apply bS
      apply pF
      apply nF
      refine iS (by omega) ?_
      refine Tri.neq ?_ ?_<;>intro e4
      ·rw [if_neg (fun c => e4 (congrArg Int.ofNat c.1))] at hX
       apply nT
       refine aD (by omega) ?_
       have:=ih (k + 1) h l (by omega) (by omega) (by omega) H
       rw [show k + 1 - i = k - i + 1 by omega, hX] at this
       exact Tri.tail this L (fun _ => rfl) fun v h B hq H L => ⟨B, hq, H⟩
      ·replace e4 : s.byte k = 92 := Int.ofNat.inj e4
       have h45 : ∀ n h, n = (if edg ((bts s).drop (k + 1)) = 0 then 1 else edg ((bts s).drop (k + 1))) → St l h → Tri h true l (rNo (.int .i64 (X : Nat))) (M 45 [.str s, .int .i64 (i : Int), .int .i64 ((k + 1 : Nat) : Int), .int .i64 (n : Int)] h):=by
        intro n h hn H
        have hn2 : n ≤ 2:=by have:=edg_le ((bts s).drop (k + 1)); split at hn <;> omega
        have ih126:=fun (h : Hp) (l : List Asn) (H : St l h) => sp126 (s:=s) (i:=k + 1) (by omega) (by omega) H
        have out : ∀ n, (k + 1 + n ≤ s.n → qtd f (s.byte i) ((bts s).drop (k + 1 + n)) (k + 1 + n - i) = X) → (s.n < k + 1 + n → 0 = X) → n ≤ 60000 → ∀ h, St l h → Tri h true l (rNo (.int .i64 (X : Nat))) (M 43 [.str s, .int .i64 (i : Int), .int .i64 ((k + 1 + n : Nat) : Int)] h):=by
         intro n h1 h2 h3 h H
         by_cases hk2 : k + 1 + n ≤ s.n
         ·rw [← h1 hk2]
          exact ih (k + 1 + n) h l (by omega) hk2 (by omega) H
         ·have := h2 (by omega)
          subst this
          refine t3 e43 fun L => ?_
          unfold B43
          apply lS
          refine Tri.lss (fun e => by omega) (fun e => ?_)
          apply nF
          exact dn H L
        have h47 : ∀ n h, n ≤ 60000 → (∀ h, St l h → Tri h true l (rNo (.int .i64 (X : Nat))) (M 43 [.str s, .int .i64 (i : Int), .int .i64 ((k + 1 + n : Nat) : Int)] h)) → St l h → Tri h true l (rNo (.int .i64 (X : Nat))) (M 47 [.str s, .int .i64 (i : Int), .int .i64 ((k + 1 : Nat) : Int), .int .i64 (n : Int)] h):=by
         intro n h hn ho H
         refine t4 e47 fun L => ?_
         unfold B47
         refine aD (by omega) ?_
         exact te1 (ho _ H) L
        refine t4 e45 fun L => ?_
        unfold B45
        refine tbe1 (ih126 _ _ H) L fun h H L => ?_
        by_cases hr : k + 1 < s.n
        ·have hd2 := bts_drop hr
         rw [if_pos ⟨e4, by rw [hd2]; exact List.cons_ne_nil _ _⟩, List.drop_drop] at hX
         rw [hd2] at hn
         have hE:=esc_le (R:=(bts s).drop (k + 1)) (by rw [hd2]; exact List.cons_ne_nil _ _)
         rw [List.length_drop, bts_len] at hE
         rw [show at0 (bts s) (k + 1) = s.byte (k + 1) by rw [at0_head, hd2]; rfl]
         refine Tri.eql ?_ ?_<;>intro e5
         ·replace e5 : s.byte (k + 1) = 122 := Int.ofNat.inj e5
          have hed : edg (s.byte (k + 1) :: (bts s).drop (k + 1 + 1)) = 0:=edg_zero.2 (by rw [e5]; rfl)
          rw [hed, if_pos rfl] at hn
          subst hn
          have hez : esc ((bts s).drop (k + 1)) = 1 + cnt isSp ((bts s).drop (k + 1 + 1)):=by rw [hd2, e5]; exact esc_z _
          rw [hez] at hX hE
          apply nT
          refine te1 (spc_from (X:=.int .i64 (X : Nat)) (k:=k + 1) hs (by omega) (s.n + 1) 1 h l (by omega) (by omega) (fun h H => ?_) H) L
          refine out _ (fun hk2 => ?_) (fun hk2 => by omega) (by omega) h H
          rw [← hX]
          congr 1
          omega
         ·have hez : esc ((bts s).drop (k + 1)) = n := by rw [hd2, hn]; exact esc_edg fun c => e5 (congrArg Int.ofNat c)
          rw [hez] at hX hE
          apply nF
          refine te1 (h47 n h (by omega) (fun h H => out n (fun hk2 => ?_) (fun hk2 => by omega) (by omega) h H) H) L
          rw [← hX]
          congr 1
          omega
        ·have hd2 : (bts s).drop (k + 1) = [] := bts_end (by omega)
         rw [if_neg (fun c => c.2 hd2), hd2] at hX
         rw [hd2, show edg [] = 0 from rfl, if_pos rfl] at hn
         subst hn
         rw [show at0 (bts s) (k + 1) = 0 by rw [at0_head, hd2]; rfl]
         have h0X : 0 = X:=by rw [← hX]; cases f <;> rfl
         refine eFi (by decide) ?_
         exact te1 (h47 1 h (by omega) (fun h H => out 1 (fun hk2 => by omega) (fun hk2 => h0X) (by omega) h H) H) L
       apply nF
       refine aD (by omega) ?_
       refine tbe1 (ih118 _ _ _ (by first|assumption|omega|rfl|(dsimp;omega)) H) L fun h H L => ?_
       refine Tri.eql ?_ ?_<;>intro e5
       ·apply nT
        exact te1 (h45 1 h (by rw [if_pos (Int.ofNat.inj e5)]) H) L
       ·apply nF
        exact te1 (h45 _ h (by rw [if_neg (fun c => e5 (congrArg Int.ofNat c))]) H) L
  ·rw [bts_end (by omega), qtd] at hX
   subst hX
   apply nF
   exact dn H L
theorem sp134 {s : Bs} {i : Nat} (hs : s.n ≤ 60000) (hi : i < s.n) (H : St l h) : Tri h true l (rNo (.int .i64 (quo ((bts s).drop i) : Nat))) (M 134 [.str s, .int .i64 (i : Int)] h):=by
 have:=quo_from hs hi (s.n - i) (i + 1) h l (by omega) (by omega) (by omega) H
 rw [show i + 1 - i = 1 by omega] at this
 refine t2 e134 fun L => ?_
 unfold B134
 refine aD (by omega) ?_
 unfold quo
 rw [List.length_drop, bts_len, List.drop_drop, show ((bts s).drop i).headD 0 = s.byte i by rw [bts_drop hi]; rfl]
 exact Tri.tail this L (fun _ => rfl) fun v h B hq H L => ⟨B, hq, H⟩
theorem dig_from {s : Bs} {a most base : Nat} (hs : s.n ≤ 60000) (ha : a ≤ 70000) (hm : most ≤ 70000) (hb : base ≤ 16) : ∀ (m k n : Nat) (h : Hp) (l : List Asn), s.n - (a + k) < m → k ≤ 70000 → n ≤ 34359738384 → St l h →
 Tri h true l (rNo (.tuple [.int .i64 ((dgt most base ((bts s).drop (a + k)) n k).1 : Nat), .int .i64 ((dgt most base ((bts s).drop (a + k)) n k).2 : Nat)])) (M 105 [.str s, .int .i64 (a : Int), .int .i64 (base : Int), .int .i64 (most : Int), .int .i64 (n : Int), .int .i64 (k : Int)] h):=by
 have ih103 : ∀ (n k : Nat) (h : Hp) (l : List Asn), St l h → Tri h true l (rNo (.tuple [.int .i64 (n : Int), .int .i64 (k : Int)])) (M 103 [.int .i64 (n : Int), .int .i64 (k : Int)] h):=by
  intro n k h l H
  refine t2 e103 fun L => ?_
  unfold B103
  exact dn H L
 intro m
 induction m with
 | zero => intro k n h l hm; omega
 | succ m ih =>
  intro k n h l hm hk hn H
  generalize hX : dgt most base ((bts s).drop (a + k)) n k = X
  have stop : ∀ {h0 h : Hp} {ro : Bool}, (n, k) = X → St l h → Lo ro h0 h → Tri h0 ro l (rNo (.tuple [.int .i64 (X.1 : Int), .int .i64 (X.2 : Int)])) (M 103 [.int .i64 (n : Int), .int .i64 (k : Int)] h):=by
   intro h0 h ro hX H L
   subst hX
   exact te1 (ih103 n k _ _ H) L
  refine t6 e105 fun L => ?_
  unfold B105
  skip
  refine Tri.lss ?_ ?_<;>intro e
  ·apply gtt
   apply bI
   refine aD (by omega) ?_
   apply Mid.bB
   apply lS
   apply bI
   refine Tri.lss ?_ ?_<;>intro e2
   ·have hlt : a + k < s.n := by omega
    have hb:=bts_mem (bts_in (z:=s) (i:=((a : Int) + (k : Int)).toNat) hlt)
    rw [bts_drop hlt, dgt] at hX
    apply bS
    apply pT
    apply gtt
    apply bI
    refine Tri.lss ?_ ?_<;>intro e3
    ·rw [if_pos ⟨by omega, by omega⟩] at hX
     apply bS
     apply pT
     apply nT
     refine aD (by omega) ?_
     refine iS (by omega) ?_
     refine tbe1 (sp264 (by first|assumption|omega|rfl|(dsimp;omega)) H) L fun h H L => ?_
     refine Tri.ext rfl ?_
     refine Tri.ext rfl ?_
     refine Tri.not ?_
     rw [show ((a : Int) + (k : Int)).toNat = a + k from rfl]
     cases h1 : (hexv (s.byte (a + k))).2 with
     | false =>
      rw [h1, if_neg (fun c => nomatch c.1)] at hX
      apply gtf
      apply pT
      apply nT
      exact stop hX H L
     | true =>
      apply gff
      apply bI
      refine Tri.geq ?_ ?_<;>intro e4
      ·rw [if_neg (fun c => by have := c.2; omega)] at hX
       apply bS
       apply pF
       apply nT
       exact stop hX H L
      ·rw [if_pos ⟨h1, by omega⟩] at hX
       have hl:=hexv_lt (s.byte (a + k))
       have hmul : n * base ≤ 2147483648 * 16:=Nat.mul_le_mul (by omega) (by assumption)
       have hmi : ((n : Int) * (base : Int)) = ((n * base : Nat) : Int):=rfl
       apply bS
       apply pF
       apply nF
       refine Tri.mulN (by rw [hmi]; omega) (by rw [hmi]; omega) ?_
       rw [hmi]
       generalize n * base = W at hX hmul
       refine aD (by omega) ?_
       refine aD (by omega) ?_
       subst hX
       exact te (ih (k + 1) (W + (hexv (s.byte (a + k))).1) h l (by omega) (by omega) (by omega) H) L
    ·rw [if_neg (fun c => by omega)] at hX
     apply bS
     apply pT
     apply nF
     exact stop hX H L
   ·rw [bts_end (by omega), dgt] at hX
    apply bS
    apply pT
    apply gft
    apply pF
    apply nF
    exact stop hX H L
  ·have : X = (n, k):=by
    rw [← hX]
    cases hd : (bts s).drop (a + k) with
    | nil => rfl
    | cons b r => rw [dgt, if_neg (fun c => by omega)]
   apply gft
   apply pF
   apply gft
   apply pF
   apply nF
   exact stop this.symm H L
theorem sp270 {s : Bs} {a most base : Nat} (hs : s.n ≤ 60000) (ha : a ≤ 70000) (hm : most ≤ 70000) (hb : base ≤ 16) (H : St l h) :
 Tri h true l (rNo (.tuple [.int .i64 ((dgt most base ((bts s).drop a) 0 0).1 : Nat), .int .i64 ((dgt most base ((bts s).drop a) 0 0).2 : Nat)])) (M 270 [.str s, .int .i64 (a : Int), .int .i64 (base : Int), .int .i64 (most : Int)] h):=by
 refine t4 e270 fun L => ?_
 unfold B270
 exact te (dig_from hs ha hm hb (s.n + 1) 0 0 h l (by omega) (by omega) (by omega) H) L
theorem sp266 {s : Bs} {i b : Nat} (hs : s.n ≤ 60000) (hi : i ≤ 70000) (H : St l h) : Tri h true l (rNo (.bool (decide (((bts s).drop i).head? = some b)))) (M 266 [.str s, .int .i64 (i : Int), .int .u8 (b : Int)] h):=by
 refine t3 e266 fun L => ?_
 unfold B266
 apply lS
 refine Tri.lss ?_ ?_<;>intro e
 ·have hlt : i < s.n := by omega
  rw [bts_drop hlt, List.head?_cons]
  apply gtt
  refine jS (by omega) ?_
  apply bI
  rw [show ((i : Int)).toNat = i from rfl]
  refine Tri.eql ?_ ?_<;>intro e2
  ·rw [decide_eq_true (by rw [Int.ofNat.inj e2])]
   apply bS
   apply pT
   exact dn H L
  ·rw [decide_eq_false (fun c => e2 (congrArg Int.ofNat (Option.some.inj c)))]
   apply bS
   apply pT
   exact dn H L
 ·rw [bts_end (by omega), decide_eq_false (fun c => nomatch c)]
  apply gft
  apply pF
  exact dn H L
def PR : List (Nat × Nat):=[(97, 7), (98, 8), (102, 12), (110, 10), (114, 13), (116, 9), (118, 11), (92, 92), (39, 39), (34, 34)]
def lk (b : Nat) : List (Nat × Nat) → Int
 | [] => -1
 | p :: r => if p.1 = b then (p.2 : Int) else lk b r
theorem lk_plk {b : Nat} (hb : b < 256) : plk b 10 0 = (if 0 ≤ lk b PR then [(lk b PR).toNat] else [], if 0 ≤ lk b PR then 1 else 0):=beq_iff_eq.1 (all256 (p:=fun b => plk b 10 0 == (if 0 ≤ lk b PR then [(lk b PR).toNat] else [], if 0 ≤ lk b PR then 1 else 0)) (q:=fun _ => true) (by kernel_rfl) hb)
theorem let_from {b sb : Nat} {z : Bs} (hz : z = ⟨10, 161286546077176178303585⟩) : ∀ (m i : Nat) (h : Hp) (l : List Asn), i + m = 10 → St (vc false (.slice sb 0 10 10 false) 3 1 (PR.map fun p => .int .i64 (p.2 : Int)) :: l) h →
 Tri h true l (rNo (.int .i64 (lk b (PR.drop i)))) (M 115 [.int .u8 (b : Int), .str z, .slice sb 0 10 10 false, .int .i64 (i : Int)] h):=by
 have hzn : z.n = 10:=by rw [hz]
 intro m
 induction m with
 | zero =>
  intro i h l hi H
  obtain rfl : i = 10:=hi
  refine t4 e115 fun L => ?_
  unfold B115
  apply lS
  refine Tri.lss (fun e => by omega) (fun e => ?_)
  apply nF
  exact Tri.done (B:=[]) ⟨rfl, rfl⟩ H.tl L
 | succ m ih =>
  intro i h l hi H
  have hlt : i < PR.length:=by show i < 10; omega
  have hbz : z.byte i = PR[i].1:=by
   have h2 : ((List.range 10).all fun i => (PR[i]?.map (·.1)) == some (Bs.byte ⟨10, 161286546077176178303585⟩ i)) = true:=by kernel_rfl
   have h3:=beq_iff_eq.1 (List.all_eq_true.1 h2 i (List.mem_range.2 hlt))
   rw [List.getElem?_eq_getElem hlt, ← hz] at h3
   exact (Option.some.inj h3).symm
  have hc : (PR.map fun p => V.int .i64 (p.2 : Int))[i]? = some (.int .i64 (PR[i].2 : Int)):=by rw [List.getElem?_map, List.getElem?_eq_getElem hlt]; rfl
  rw [List.drop_eq_getElem_cons hlt, lk]
  generalize PR[i] = p at hbz hc
  refine t4 e115 fun L => ?_
  unfold B115
  apply lS
  refine Tri.lss (fun e => ?_) (fun e => by omega)
  apply nT
  refine iS (by omega) ?_
  rw [show ((i : Int)).toNat = i from rfl, hbz]
  refine Tri.eql ?_ ?_<;>intro e1
  ·rw [if_pos (Int.ofNat.inj e1)]
   refine Tri.ift (Tri.idx (by omega) (by omega) ?_)
   refine Tri.loadV (i:=0) H rfl (w:=.int .i64 (p.2 : Int)) (by rw [show 0 + ((i : Int)).toNat * 1 = i by rw [Int.toNat_natCast]; omega]; exact hc) ?_
   exact Tri.done (B:=[]) ⟨rfl, rfl⟩ H.tl L
  ·rw [if_neg (fun c => e1 (congrArg Int.ofNat c))]
   apply nF
   refine aD (by omega) ?_
   exact te (ih (i + 1) h l (by omega) H) L
theorem sp268 {b : Nat} (hb : b < 256) (H : St l h) : Tri h true l (rNo (.int .i64 (lk b PR))) (M 268 [.int .u8 (b : Int)] h):=by
 refine t1 e268 fun L => ?_
 unfold B268
 generalize hz : (⟨10, 161286546077176178303585⟩ : Bs) = z
 refine Tri.bld (e:=_) (s:=_) H L rfl rfl fun b0 h hb0 H L => ?_
 exact te (let_from hz.symm 10 0 h l rfl H) L
theorem Tri.quo {d : IntKind} {m n : Int} (hn : n ≠ 0) (hk : Tri h0 ro F Q (k (.int d (d.wrap (m.tdiv n))))) : Tri h0 ro F Q (intS .quo (.int d m) (.int d n) k):=by rw [intS_at, int_quo _ _ _ hn]; exact hk
def rst : Nat → Nat → List Nat
 | 0, _ => []
 | j + 1, n => (128 + n % 64) :: rst j (n / 64)
def lft : Nat → Nat → Nat
 | 0, n => n
 | j + 1, n => lft j (n / 64)
theorem u8s_app (A B : List Nat) : u8s (A ++ B) = u8s A ++ u8s B:=List.map_append
theorem u8s_len (A : List Nat) : (u8s A).length = A.length:=List.length_map _
theorem eb_eq (n : Nat) : eb (n : Int) = 128 + n % 64:=by
 have e : (BitVec.ofInt 64 (n : Int) &&& BitVec.ofInt 64 63).toNat = n % 64:=by
  have e1 : BitVec.ofInt 64 (n : Int) = BitVec.ofNat 64 n:=BitVec.ofInt_natCast 64 n
  rw [e1, BitVec.toNat_and, BitVec.toNat_ofNat]
  rw [show (BitVec.ofInt 64 63).toNat = 2 ^ 6 - 1 from rfl, Nat.and_two_pow_sub_one_eq_mod]
  omega
 have h64 : ((List.range 64).all fun r => (IntKind.u8.wrap (BitVec.ofInt 8 128 ||| BitVec.ofInt 8 (IntKind.u8.wrap (IntKind.i64.wrap ((r : Nat) : Int)))).toNat).toNat == 128 + r) = true:=by kernel_rfl
 have h:=beq_iff_eq.1 (List.all_eq_true.1 h64 (n % 64) (List.mem_range.2 (by omega)))
 unfold eb
 rw [e]; exact h
theorem ef_eq {k q : Nat} (h2 : 2 ≤ k) (h6 : k ≤ 6) (hq : q < 32) (hb : q < 2 ^ (7 - k)) : ef k (q : Int) = 256 - 2 ^ (8 - k) + q:=by
 have hA : ((List.range 5).all fun a => (List.range 32).all fun q => !(decide (q < 2 ^ (7 - (a + 2)))) || (ef (a + 2) (q : Int) == 256 - 2 ^ (8 - (a + 2)) + q)) = true:=by kernel_rfl
 have h:=List.all_eq_true.1 (List.all_eq_true.1 hA (k - 2) (List.mem_range.2 (by omega))) q (List.mem_range.2 hq)
 rw [show k - 2 + 2 = k by omega, decide_eq_true hb, Bool.not_true, Bool.false_or] at h
 exact beq_iff_eq.1 h
theorem encF_eq (k : Nat) : ∀ (i n : Nat) (cs : List Nat), i < cs.length → encF k i (n : Int) cs = ef k ((lft i n : Nat) : Int) :: ((rst i n).reverse ++ cs.drop (i + 1))
 | 0, n, [], h => absurd h (by decide)
 | 0, n, c :: cs, _ => rfl
 | i + 1, n, cs, h => by
  rw [encF, show ((n : Int).fdiv (2 ^ 6)) = ((n / 64 : Nat) : Int) by rw [Int.fdiv_eq_ediv_of_nonneg _ (by decide)]; rfl]
  rw [encF_eq k i (n / 64) _ (by rw [List.length_set]; omega), lft, rst, List.reverse_cons, List.append_assoc]
  rw [List.drop_eq_getElem_cons (by rw [List.length_set]; exact h), List.getElem_set_self, List.drop_set_of_lt (by omega), eb_eq]
  rfl
theorem encK_hi {n : Int} (hn : n < 2147483648) : ∀ f k, k + f = 6 → n < ((2 ^ (5 * encK f k n + 1) : Nat) : Int)
 | 0, k, h => by
  obtain rfl : k = 6:=h
  rw [encK]; exact hn
 | f + 1, k, h => by
  rw [encK]
  by_cases c : ((2 ^ (5 * k + 1) : Nat) : Int) ≤ n
  ·rw [if_pos c]; exact encK_hi hn f (k + 1) (by omega)
  ·rw [if_neg c]; exact Int.not_le.1 c
theorem enc_big {n : Nat} (h1 : 128 ≤ n) (h2 : n < 2147483648) {K : Nat} (hK : encK 4 2 (n : Int) = K) :
 2 ≤ K ∧ K ≤ 6 ∧ enc (n : Int) = ((256 - 2 ^ (8 - K) + lft (K - 1) n) :: (rst (K - 1) n).reverse, 0) ∧ lft (K - 1) n < 32 ∧ 256 - 2 ^ (8 - K) + lft (K - 1) n < 256:=by
 have hhi:=encK_hi (n:=(n : Int)) (by omega) 4 2 rfl
 have hle:=encK_le 4 2 (n : Int)
 have hge:=encK_ge 4 2 (n : Int)
 rw [hK] at hhi hle hge
 have hq : lft (K - 1) n < 32 ∧ lft (K - 1) n < 2 ^ (7 - K):=by
  have hc : K = 2 ∨ K = 3 ∨ K = 4 ∨ K = 5 ∨ K = 6:=by omega
  rcases hc with rfl | rfl | rfl | rfl | rfl
  ·have : n < 2048 := by have e : ((2 ^ (5 * 2 + 1) : Nat) : Int) = 2048 := rfl; omega
   have e : lft (2 - 1) n = n / 64:=rfl
   rw [e]; show _ ∧ _ < 32; omega
  ·have : n < 65536 := by have e : ((2 ^ (5 * 3 + 1) : Nat) : Int) = 65536 := rfl; omega
   have e : lft (3 - 1) n = n / 64 / 64:=rfl
   rw [e]; show _ ∧ _ < 16; omega
  ·have : n < 2097152 := by have e : ((2 ^ (5 * 4 + 1) : Nat) : Int) = 2097152 := rfl; omega
   have e : lft (4 - 1) n = n / 64 / 64 / 64:=rfl
   rw [e]; show _ ∧ _ < 8; omega
  ·have : n < 67108864 := by have e : ((2 ^ (5 * 5 + 1) : Nat) : Int) = 67108864 := rfl; omega
   have e : lft (5 - 1) n = n / 64 / 64 / 64 / 64:=rfl
   rw [e]; show _ ∧ _ < 4; omega
  ·have e : lft (6 - 1) n = n / 64 / 64 / 64 / 64 / 64 := rfl
   rw [e]; show _ ∧ _ < 2; omega
 have h256 : 256 - 2 ^ (8 - K) + lft (K - 1) n < 256:=by
  have hp : 2 ^ (7 - K) < 2 ^ (8 - K):=Nat.pow_lt_pow_right (by decide) (by omega)
  have hp2 : 2 ^ (8 - K) ≤ 2 ^ 6:=Nat.pow_le_pow_right (by decide) (by omega)
  omega
 refine ⟨hge, by omega, ?_, hq.1, h256⟩
 unfold enc
 rw [if_neg (by omega), if_neg (by omega), hK, encF_eq K (K - 1) n _ (by rw [List.length_replicate]; omega), ef_eq hge (by omega) hq.1 hq.2]
 rw [List.drop_eq_nil_of_le (by rw [List.length_replicate]; omega), List.append_nil]
theorem turn_ok {gr : Bool} {rv : V} {R : List Nat} (hR : R.length ≤ 100) (hr : ∀ c ∈ R, c < 256) : ∀ (m : Nat) (O : List Nat) (ov : V) (h : Hp) (l : List Asn), m ≤ R.length → O.length + m ≤ 100 → (∀ c ∈ O, c < 256) → St (vc false ov 5 1 (u8s O) :: vc gr rv 5 1 (u8s R) :: l) h →
 Tri h false l (rTI (O ++ (R.take m).reverse, 0)) (M 113 [rv, ov, .int .i64 ((m : Int) - 1)] h):=by
 intro m
 induction m with
 | zero =>
  intro O ov h l hm hO ho H
  refine t3 e113 fun L => ?_
  unfold B113
  refine Tri.geq (fun e => absurd e (by decide)) (fun _ => ?_)
  apply nF
  rw [H.vc_bytes (i:=0) rfl ho]
  rw [List.take_zero, List.reverse_nil, List.append_nil]
  exact Tri.done (B:=[]) ⟨_, by rw [pack_n, List.length_map], bts_of ho, rfl, rfl⟩ H.tl.tl L
 | succ m ih =>
  intro O ov h l hm hO ho H
  rw [show ((m + 1 : Nat) : Int) - 1 = (m : Int) by omega]
  refine t3 e113 fun L => ?_
  unfold B113
  refine Tri.geq (fun _ => ?_) (fun e => by omega)
  apply nT
  have hlt : m < R.length:=by omega
  have hc : (u8s R)[m]? = some (u8 R[m]):=by unfold u8s; rw [List.getElem?_map, List.getElem?_eq_getElem hlt]; rfl
  have hx:=hr _ (List.getElem_mem hlt)
  rw [List.take_succ, List.getElem?_eq_getElem hlt, Option.toList_some, List.reverse_append, List.reverse_singleton]
  generalize R[m] = x at hc hx
  have hRl : (u8s R).length = R.length:=u8s_len R
  rcases H.vc_shape (i:=1) rfl with ⟨rfl, h2⟩ | ⟨b, n, c, g, rfl, h2, h3, h4⟩
  ·rw [h2] at hc; cases hc
  ·rw [hRl] at h2
   refine Tri.idx (by omega) (by omega) ?_
   refine Tri.loadV (i:=1) H rfl (w:=u8 x) (by rw [show 0 + ((m : Int)).toNat * 1 = m by rw [Int.toNat_natCast]; omega]; exact hc) ?_
   refine Tri.bld (e:=_) (s:=_) H L rfl rfl fun b9 h hb9 H L => ?_
   refine Tri.app 1 O.length 1 (new:=u8s [x]) H rfl (H.newCells (i:=0) rfl rfl) (by decide) (by rw [u8s_len]; omega) rfl (by omega) (by omega) rfl L (Own.off _ _) fun v' h H L hO1 h1 => ?_
   refine Tri.subN (by omega) (by omega) ?_
   have e : O ++ ([x] ++ (R.take m).reverse) = (O ++ [x]) ++ (R.take m).reverse:=by rw [List.append_assoc]
   rw [e]
   refine te (ih (O ++ [x]) v' h l (by omega) (by rw [List.length_append, List.length_singleton]; omega) (fun c hc => (List.mem_append.1 hc).elim (ho c) (fun hc => by rw [List.mem_singleton.1 hc]; exact hx)) ?_) L
   rw [u8s_app]
   exact H.tl
def fst8 : Nat → Nat → Nat
 | 0, _ => 0
 | j + 1, i => 128 / 2 ^ i + fst8 j (i + 1)
theorem u64_of {n : Int} (h1 : 0 ≤ n) (h2 : n ≤ 1000000) : IntKind.u64.wrap n = n:=by rw [IntKind.wrap_u64]; omega
theorem Tri.shr128 {i : Nat} (hi : i < 8) (hk : Tri h0 ro F Q (k (.int .i64 ((128 / 2 ^ i : Nat) : Int)))) : Tri h0 ro F Q (shS .shr (.int .i64 128) (.int .u64 (i : Int)) k):=by
 have hc : i = 0 ∨ i = 1 ∨ i = 2 ∨ i = 3 ∨ i = 4 ∨ i = 5 ∨ i = 6 ∨ i = 7:=by omega
 rcases hc with rfl | rfl | rfl | rfl | rfl | rfl | rfl | rfl <;> exact hk
theorem head_ok {gr : Bool} {rv : V} {R : List Nat} {K q : Nat} (h2 : 2 ≤ K) (h6 : K ≤ 6) (h256 : 256 - 2 ^ (8 - K) + q < 256) (hR : R.length = K - 1) (hr : ∀ c ∈ R, c < 256) : ∀ (m i S : Nat) (h : Hp) (l : List Asn), i + m = K → S + fst8 m i = 256 - 2 ^ (8 - K) → St (vc gr rv 5 1 (u8s R) :: l) h →
 Tri h false l (rTI ((256 - 2 ^ (8 - K) + q) :: R.reverse, 0)) (M 111 [.int .i64 (q : Int), .int .i64 (K : Int), rv, .int .i64 (S : Int), .int .i64 (i : Int)] h):=by
 intro m
 induction m with
 | zero =>
  intro i S h l hi hS H
  obtain rfl : i = K:=hi
  obtain rfl : S = 256 - 2 ^ (8 - i):=hS
  generalize 256 - 2 ^ (8 - i) = S at *
  refine t5 e111 fun L => ?_
  unfold B111
  refine Tri.lss (fun e => by omega) (fun e => ?_)
  apply nF
  refine aD (by omega) ?_
  refine Tri.conv ?_
  refine Tri.bld (e:=_) (s:=_) H L rfl rfl fun b3 h hb3 H L => ?_
  apply bL
  rw [show IntKind.u8.wrap ((S : Int) + (q : Int)) = ((S + q : Nat) : Int) by rw [IntKind.wrap_u8]; omega] at H
  refine Tri.lenV 1 (i - 1) H rfl (by decide) (by rw [u8s_len, hR]; omega) ?_
  apply bS
  refine Tri.subN (by omega) (by omega) ?_
  refine Tri.tail (turn_ok (by omega) hr (i - 1) [S + q] _ h l (by omega) (by rw [List.length_singleton]; omega) (fun c hc => by rw [List.mem_singleton.1 hc]; exact h256) H) L (fun e => e) fun v h B hq H L => ⟨B, ?_, H⟩
  rw [← hR, List.take_length] at hq
  exact hq
 | succ m ih =>
  intro i S h l hi hS H
  have h128 : 128 / 2 ^ i ≤ 128:=Nat.div_le_self _ _
  have hSle : S ≤ 256:=by omega
  refine t5 e111 fun L => ?_
  unfold B111
  refine Tri.lss (fun e => ?_) (fun e => by omega)
  apply nT
  refine Tri.conv ?_
  rw [u64_of (by omega) (by omega)]
  refine Tri.shr128 (by omega) ?_
  rw [fst8] at hS
  generalize 128 / 2 ^ i = W at hS h128
  refine aD (by omega) ?_
  refine aD (by omega) ?_
  exact te (ih (i + 1) (S + W) h l (by omega) (by omega) H) L
theorem tail_ok {n K : Nat} (hn : n < 2147483648) (h2 : 2 ≤ K) (h6 : K ≤ 6) (h256 : 256 - 2 ^ (8 - K) + lft (K - 1) n < 256) : ∀ (m i x : Nat) (R : List Nat) (rv : V) (h : Hp) (l : List Asn), i + m = K → 1 ≤ i → x ≤ n → R.length = i - 1 → (∀ c ∈ R, c < 256) → R ++ rst m x = rst (K - 1) n → lft m x = lft (K - 1) n → St (vc true rv 5 1 (u8s R) :: l) h →
 Tri h false l (rTI ((256 - 2 ^ (8 - K) + lft (K - 1) n) :: (rst (K - 1) n).reverse, 0)) (M 109 [.int .i64 (x : Int), .int .i64 (K : Int), rv, .int .i64 (i : Int)] h):=by
 intro m
 induction m with
 | zero =>
  intro i x R rv h l hi h1 hx hR hr e1 e2 H
  obtain rfl : i = K:=hi
  refine t4 e109 fun L => ?_
  unfold B109
  refine Tri.lss (fun e => by omega) (fun e => ?_)
  apply nF
  rw [rst, List.append_nil] at e1
  rw [← e1]
  rw [lft] at e2
  rw [← e2] at h256 ⊢
  have hf : 0 + fst8 i 0 = 256 - 2 ^ (8 - i):=by
   have hc : i = 2 ∨ i = 3 ∨ i = 4 ∨ i = 5 ∨ i = 6:=by omega
   rcases hc with rfl | rfl | rfl | rfl | rfl <;> rfl
  exact te (head_ok h2 h6 h256 hR hr i 0 0 h l (by omega) hf H) L
 | succ m ih =>
  intro i x R rv h l hi h1 hx hR hr e1 e2 H
  refine t4 e109 fun L => ?_
  unfold B109
  refine Tri.lss (fun e => ?_) (fun e => by omega)
  apply nT
  refine Tri.rem (by decide) ?_
  refine Tri.add ?_
  refine Tri.conv ?_
  refine Tri.bld (e:=_) (s:=_) H L rfl rfl fun b4 h hb4 H L => ?_
  have ew : IntKind.u8.wrap (IntKind.i64.wrap (128 + (x : Int).tmod 64)) = ((128 + x % 64 : Nat) : Int):=by
   rw [show (x : Int).tmod 64 = ((x % 64 : Nat) : Int) from rfl, i64_of (by omega) (by omega), IntKind.wrap_u8]; omega
  rw [ew] at H
  refine Tri.app 1 R.length 1 (new:=u8s [128 + x % 64]) H rfl (H.newCells (i:=0) rfl rfl) (by decide) (by rw [u8s_len]; omega) rfl (by omega) (by omega) rfl L (Own.off _ _) fun v' h H L hO1 h1 => ?_
  refine Tri.quo (by decide) ?_
  rw [show (x : Int).tdiv 64 = ((x / 64 : Nat) : Int) from rfl, i64_of (by omega) (by omega)]
  refine aD (by omega) ?_
  rw [rst] at e1
  rw [lft] at e2
  refine te (ih (i + 1) (x / 64) (R ++ [128 + x % 64]) v' h l (by omega) (by omega) (by omega) (by rw [List.length_append, List.length_singleton]; omega) (lt_app hr fun c hc => by rw [List.mem_singleton.1 hc]; omega) (by rw [List.append_assoc]; exact e1) e2 ?_) L
  rw [u8s_app]
  exact H.tl
theorem size_ok {n : Nat} (h128 : 128 ≤ n) (hn : n < 2147483648) : ∀ (f k : Nat) (h : Hp) (l : List Asn), k + f = 6 → 2 ≤ k → encK f k (n : Int) = encK 4 2 (n : Int) → St l h →
 Tri h false l (rTI (enc (n : Int))) (M 107 [.int .i64 (n : Int), .int .i64 (k : Int), .int .i64 ((2 ^ (5 * k + 1) : Nat) : Int)] h):=by
 have fin : ∀ (k : Nat) (h h0 : Hp) (l : List Asn), encK 4 2 (n : Int) = k → St l h → Lo false h0 h → Tri h0 false l (rTI (enc (n : Int))) (M 109 [.int .i64 (n : Int), .int .i64 (k : Int), .nilSlice, .int .i64 1] h):=by
  intro k h h0 l hk H L
  obtain ⟨h2, h6, e, hq, hb⟩:=enc_big h128 hn hk
  rw [e]
  refine te (tail_ok hn h2 h6 hb (k - 1) 1 n [] .nilSlice h l (by omega) (by omega) (by omega) rfl (fun c hc => nomatch hc) rfl rfl (H.vc_new true 5 1)) L
 intro f
 induction f with
 | zero =>
  intro k h l hk h2 he H
  obtain rfl : k = 6:=hk
  rw [encK] at he
  refine t3 e107 fun L => ?_
  unfold B107
  refine Tri.geq (fun e => absurd e (by have : ((2 ^ (5 * 6 + 1) : Nat) : Int) = 2147483648:=rfl; omega)) (fun e => ?_)
  exact Tri.iff (fin 6 h _ l he.symm H L)
 | succ f ih =>
  intro k h l hk h2 he H
  rw [encK] at he
  have hp : (2 ^ (5 * k + 1) : Nat) * 32 = 2 ^ (5 * (k + 1) + 1):=by
   rw [show 5 * (k + 1) + 1 = (5 * k + 1) + 5 by omega, Nat.pow_add _ (5 * k + 1) 5]
  have ih':=ih (k + 1)
  rw [← hp] at ih'
  generalize (2 ^ (5 * k + 1) : Nat) = P at he ih' ⊢
  refine t3 e107 fun L => ?_
  unfold B107
  refine Tri.geq (fun e => Tri.ift ?_) (fun e => Tri.iff ?_)
  ·rw [if_pos e] at he
   refine aD (by omega) ?_
   refine Tri.mulN (by omega) (by omega) ?_
   exact te (ih' h l (by omega) (by omega) he H) L
  ·rw [if_neg (Int.not_le.2 e)] at he
   exact fin k h _ l he.symm H L
theorem sp272 {n : Nat} (H : St l h) : Tri h false l (rTI (enc (n : Int))) (M 272 [.int .i64 (n : Int)] h):=by
 refine t1 e272 fun L => ?_
 unfold B272
 generalize hX : enc (n : Int) = X
 skip
 refine Tri.lss (fun e1 => by omega) (fun e1 => ?_)
 apply gff
 apply bI
 refine Tri.gtr ?_ ?_<;>intro e2
 ·have : enc (n : Int) = ([], 10) := by unfold enc; rw [if_pos (.inr (by omega))]
  rw [this] at hX
  subst hX
  apply bS
  apply pF
  apply nT
  exact Tri.done (B:=[]) ⟨_, rfl, rfl, rfl, rfl⟩ H L
 ·apply bS
  apply pF
  apply nF
  refine Tri.lss ?_ ?_<;>intro e3
  ·have : enc (n : Int) = ([n], 0):=by
    unfold enc
    rw [if_neg (by omega), if_pos e3, show (IntKind.u8.wrap (n : Int)).toNat = n by rw [IntKind.wrap_u8]; omega]
   rw [this] at hX
   subst hX
   apply nT
   refine Tri.conv ?_
   refine Tri.bld (e:=_) (s:=_) H L rfl rfl fun b62 h hb62 H L => ?_
   rw [show IntKind.u8.wrap (n : Int) = (n : Int) by rw [IntKind.wrap_u8]; omega] at H
   have hc : ∀ x ∈ [n], x < 256:=fun x hx => by rw [List.mem_singleton.1 hx]; omega
   rw [St.vc_bytes (L:=[n]) (i:=0) H rfl hc]
   exact Tri.done (B:=[]) ⟨_, by rw [pack_n, List.length_map], bts_of hc, rfl, rfl⟩ H.tl L
  ·subst hX
   apply nF
   exact te (size_ok (by omega) (by omega) 4 2 h l rfl (by decide) rfl H) L
def prt (q : Nat) : List Nat → List Nat × Nat
 | [] => ([], 0)
 | b :: r => if b = q ∨ isEnd b = true then ([], 0) else if b = 92 then (if (eso r).2 = 0 then ([], 0) else ((eso r).1, (eso r).2 + 1)) else ([b], 1)
theorem prt_le (q : Nat) (L : List Nat) : (prt q L).2 ≤ L.length ∧ (prt q L).1.length ≤ 6 ∧ ∀ c ∈ (prt q L).1, c ∈ L ∨ c < 256:=by
 cases L with
 | nil => exact ⟨Nat.le_refl _, Nat.zero_le _, fun c hc => nomatch hc⟩
 | cons b r =>
  have hE:=eso_ok r
  rw [prt, List.length_cons]
  split
  ·exact ⟨Nat.zero_le _, Nat.zero_le _, fun c hc => nomatch hc⟩
  ·split
   ·split
    ·exact ⟨Nat.zero_le _, Nat.zero_le _, fun c hc => nomatch hc⟩
    ·exact ⟨by show (eso r).2 + 1 ≤ _; omega, hE.2.1, fun c hc => .inr (hE.2.2 c hc)⟩
   ·exact ⟨by show 1 ≤ _; omega, by simp, fun c hc => .inl (by rw [List.mem_singleton.1 hc]; exact List.mem_cons_self)⟩
theorem unl_prt {q : Nat} (hq : isEnd q = false) (h92 : q ≠ 92) (f : Nat) (R acc : List Nat) :
 unl (f + 1) q R acc = if (prt q R).2 = 0 then (if R = [q] then some acc else none) else unl f q (R.drop (prt q R).2) (acc ++ (prt q R).1):=by
 cases R with
 | nil => rw [unl, prt, if_pos rfl, if_neg (show ¬ ([] = [q]) from fun c => nomatch c)]
 | cons b r =>
  by_cases hb : b = q
  ·subst hb
   have e : prt b (b :: r) = ([], 0):=by rw [prt, if_pos (Or.inl rfl)]
   rw [e, if_pos rfl, unl, if_pos rfl]
   by_cases hr : r = []
   ·rw [if_pos hr, if_pos (by rw [hr])]
   ·rw [if_neg hr, if_neg (fun c => hr (List.cons.inj c).2)]
  ·have hne : ¬ (b :: r = [q]) := fun c => hb (List.cons.inj c).1
   cases he : isEnd b with
   | true =>
    have e : prt q (b :: r) = ([], 0):=by rw [prt, if_pos (Or.inr he)]
    rw [e, if_pos rfl, if_neg hne, unl, if_neg hb, he, if_pos rfl]
   | false =>
    have h1 : ¬ (b = q ∨ isEnd b = true):=fun c => c.elim hb (fun c => by rw [he] at c; exact nomatch c)
    by_cases h9 : b = 92
    ·by_cases h0 : (eso r).2 = 0
     ·have e : prt q (b :: r) = ([], 0) := by rw [prt, if_neg h1, if_pos h9, if_pos h0]
      rw [e, if_pos rfl, if_neg hne, unl, if_neg hb, he, if_neg (by decide), if_pos h9, if_pos h0]
     ·have e : prt q (b :: r) = ((eso r).1, (eso r).2 + 1) := by rw [prt, if_neg h1, if_pos h9, if_neg h0]
      rw [e, if_neg (show ¬ ((eso r).1, (eso r).2 + 1).2 = 0 from Nat.succ_ne_zero _), unl, if_neg hb, he, if_neg (by decide), if_pos h9, if_neg h0]; rfl
    ·have e : prt q (b :: r) = ([b], 1) := by rw [prt, if_neg h1, if_neg h9]
     rw [e, if_neg (show ¬ ([b], 1).2 = 0 from Nat.succ_ne_zero _), unl, if_neg hb, he, if_neg (by decide), if_neg h9]; rfl
theorem dgt_most {base m1 m2 : Nat} : ∀ (L : List Nat) (n k : Nat), k + L.length ≤ m1 → k + L.length ≤ m2 → dgt m1 base L n k = dgt m2 base L n k
 | [], n, k, _, _ => rfl
 | b :: r, n, k, h1, h2 => by
  rw [List.length_cons] at h1 h2
  have ih:=dgt_most (base:=base) r (n * base + (hexv b).1) (k + 1) (m1:=m1) (m2:=m2) (by omega) (by omega)
  simp only [dgt]
  rw [ih]
  by_cases hn : n < 2147483648
  ·rw [if_pos (show k < m1 ∧ n < 2147483648 from ⟨by omega, hn⟩), if_pos (show k < m2 ∧ n < 2147483648 from ⟨by omega, hn⟩)]
  ·rw [if_neg (show ¬ (k < m1 ∧ n < 2147483648) from fun c => hn c.2), if_neg (show ¬ (k < m2 ∧ n < 2147483648) from fun c => hn c.2)]
def wj : List (List Nat) → List UInt8
 | [] => [32]
 | w :: r => 32 :: (w.map UInt8.ofNat ++ wj r)
def WL : List (List Nat):=[[97, 110, 100], [98, 114, 101, 97, 107], [100, 111], [101, 108, 115, 101], [101, 108, 115, 101, 105, 102], [101, 110, 100], [102, 97, 108, 115, 101], [102, 111, 114], [102, 117, 110, 99, 116, 105, 111, 110], [103, 111, 116, 111], [105, 102], [105, 110], [108, 111, 99, 97, 108], [110, 105, 108], [110, 111, 116], [111, 114], [114, 101, 112, 101, 97, 116], [114, 101, 116, 117, 114, 110], [116, 104, 101, 110], [116, 114, 117, 101], [117, 110, 116, 105, 108], [119, 104, 105, 108, 101]]
theorem WD_eq : WD.l = wj WL:=by kernel_rfl
theorem wj_head (ws : List (List Nat)) : ∃ T, wj ws = 32 :: T:=by cases ws <;> exact ⟨_, rfl⟩
theorem preB_word : ∀ (a w R : List UInt8), 32 ∉ a → 32 ∉ w → preB (a ++ [32]) (w ++ 32 :: R) = decide (a = w)
 | [], [], R, _, _ => by cases R <;> rfl
 | [], c :: w, R, _, h => by
  have : c ≠ 32:=fun e => h (by rw [e]; exact List.mem_cons_self)
  rw [preB_eq, decide_eq_false (fun e => nomatch e)]
  show (32 == c && _) = false
  rw [beq_eq_false_iff_ne.2 this.symm]; rfl
 | c :: a, [], R, h, _ => by
  have : c ≠ 32:=fun e => h (by rw [e]; exact List.mem_cons_self)
  rw [preB_eq, decide_eq_false (fun e => nomatch e)]
  show (c == 32 && _) = false
  rw [beq_eq_false_iff_ne.2 this]; rfl
 | c :: a, d :: w, R, h1, h2 => by
  have ih:=preB_word a w R (fun e => h1 (List.mem_cons_of_mem _ e)) (fun e => h2 (List.mem_cons_of_mem _ e))
  rw [preB_eq] at ih ⊢
  show (c == d && (a ++ [32]).isPrefixOf (w ++ 32 :: R)) = _
  rw [ih]
  by_cases e : c = d
  ·subst e; simp
  ·rw [beq_eq_false_iff_ne.2 e, decide_eq_false (fun c => e (List.cons.inj c).1)]; rfl
theorem hasB_skip (Y T : List UInt8) : ∀ w : List UInt8, 32 ∉ w → hasB (w ++ T) (32 :: Y) = hasB T (32 :: Y)
 | [], _ => rfl
 | c :: w, h => by
  have : c ≠ 32:=fun e => h (by rw [e]; exact List.mem_cons_self)
  rw [List.cons_append, hasB, preB_eq]
  show (bif (32 == c && _) then true else _) = _
  rw [beq_eq_false_iff_ne.2 this.symm]
  exact hasB_skip Y T w fun e => h (List.mem_cons_of_mem _ e)
theorem hasB_wj (a : List UInt8) (ha : 32 ∉ a) : ∀ ws : List (List Nat), (∀ w ∈ ws, (32 : UInt8) ∉ w.map UInt8.ofNat) → hasB (wj ws) (32 :: (a ++ [32])) = ws.any fun w => decide (a = w.map UInt8.ofNat)
 | [], _ => by
  show (bif preB (32 :: (a ++ [32])) [32] then true else hasB [] _) = false
  rw [preB_eq]
  cases a <;> rfl
 | w :: r, h => by
  obtain ⟨T, hT⟩:=wj_head r
  have hw:=h w List.mem_cons_self
  rw [wj, hasB, hasB_skip _ _ _ hw, hasB_wj a ha r fun w hw => h w (List.mem_cons_of_mem _ hw), List.any_cons, hT]
  have e : preB (32 :: (a ++ [32])) (32 :: (w.map UInt8.ofNat ++ 32 :: T)) = decide (a = w.map UInt8.ofNat):=preB_word a _ T ha hw
  rw [e]
  cases decide (a = w.map UInt8.ofNat) <;> rfl
theorem of_inj {a b : List Nat} (ha : ∀ x ∈ a, x < 256) (hb : ∀ x ∈ b, x < 256) (h : a.map UInt8.ofNat = b.map UInt8.ofNat) : a = b:=by
 have e : ∀ {a : List Nat}, (∀ x ∈ a, x < 256) → (a.map UInt8.ofNat).map UInt8.toNat = a := fun {a} ha => by
  rw [List.map_map]
  conv => rhs; rw [← List.map_id a]
  exact List.map_congr_left fun x hx => by
   show (UInt8.ofNat x).toNat = x
   rw [UInt8.toNat_ofNat']; have:=ha x hx; omega
 rw [← e ha, h, e hb]
theorem wrd_eq {L : List Nat} (hL : ∀ b ∈ L, b < 256) : wrd L = WL.any fun w => decide (L = w):=by
 have hW : ∀ w ∈ WL, (∀ b ∈ w, b < 256) ∧ (32 : UInt8) ∉ w.map UInt8.ofNat ∧ w ≠ []:=by
  have h1 : (WL.all fun w => w.all (fun b => decide (b < 256)) && !(w.map UInt8.ofNat).contains 32 && !w.isEmpty) = true:=by kernel_rfl
  intro w hw
  have h2:=List.all_eq_true.1 h1 w hw
  rw [Bool.and_eq_true, Bool.and_eq_true, List.all_eq_true] at h2
  refine ⟨fun b hb => of_decide_eq_true (h2.1.1 b hb), ?_, ?_⟩
  ·intro c; rw [List.contains_iff_mem.2 c] at h2; exact nomatch h2.1.2
  ·intro c; rw [c] at h2; exact nomatch h2.2
 unfold wrd
 by_cases h0 : L = []
 ·subst h0
  have e : (WL.any fun w => decide ([] = w)) = false:=by
   rw [List.any_eq_false]
   intro w hw c
   exact (hW w hw).2.2 (of_decide_eq_true c).symm
  rw [decide_eq_true rfl, e]; rfl
 ·rw [decide_eq_false h0, show Bs.l ⟨1, 32⟩ = [32] from rfl, hasB_one]
  by_cases h32 : (32 : UInt8) ∈ L.map UInt8.ofNat
  ·have e : (WL.any fun w => decide (L = w)) = false:=by
    rw [List.any_eq_false]
    intro w hw c
    rw [of_decide_eq_true c] at h32
    exact (hW w hw).2.1 h32
   rw [show (L.map UInt8.ofNat).any (· == 32) = true from List.any_eq_true.2 ⟨32, h32, rfl⟩, e]; rfl
  ·have e : (L.map UInt8.ofNat).any (· == 32) = false:=by
    rw [List.any_eq_false]
    intro x hx c
    rw [beq_iff_eq.1 c] at hx
    exact h32 hx
   rw [e, WD_eq]
   show hasB (wj WL) (([32] ++ L ++ [32]).map UInt8.ofNat) = _
   rw [List.map_append, List.map_append, List.append_assoc]
   show hasB (wj WL) (32 :: (L.map UInt8.ofNat ++ [32])) = _
   rw [hasB_wj _ h32 WL fun w hw => (hW w hw).2.1]
   have : ∀ w ∈ WL, decide (L.map UInt8.ofNat = w.map UInt8.ofNat) = decide (L = w):=fun w hw => decide_eq_decide.2 ⟨fun c => of_inj hL (hW w hw).1 c, fun c => by rw [c]⟩
   rw [Bool.eq_iff_iff, List.any_eq_true, List.any_eq_true]
   exact ⟨fun ⟨w, hw, c⟩ => ⟨w, hw, by rw [← this w hw]; exact c⟩, fun ⟨w, hw, c⟩ => ⟨w, hw, by rw [this w hw]; exact c⟩⟩
def bst (L : List Nat) : List Bs → Bs → Bs
 | [], b => b
 | z :: r, b => bst L r (if (bts z).isPrefixOf L = true ∧ b.n < z.n then z else b)
theorem bst_ok (L : List Nat) : ∀ (Z : List Bs) (b : Bs), (bst L Z b = b ∨ (bst L Z b ∈ Z ∧ (bts (bst L Z b)).isPrefixOf L = true)) ∧ b.n ≤ (bst L Z b).n ∧ ∀ z ∈ Z, (bts z).isPrefixOf L = true → z.n ≤ (bst L Z b).n
 | [], b => ⟨.inl rfl, Nat.le_refl _, fun z hz => nomatch hz⟩
 | z :: Z, b => by
  rw [bst]
  by_cases c : (bts z).isPrefixOf L = true ∧ b.n < z.n
  ·rw [if_pos c]
   obtain ⟨h1, h2, h3⟩:=bst_ok L Z z
   refine ⟨.inr ?_, by omega, fun y hy hp => ?_⟩
   ·rcases h1 with h1 | h1
    ·rw [h1]; exact ⟨List.mem_cons_self, c.1⟩
    ·exact ⟨List.mem_cons_of_mem _ h1.1, h1.2⟩
   ·rcases List.mem_cons.1 hy with rfl | hy
    ·exact h2
    ·exact h3 y hy hp
  ·rw [if_neg c]
   obtain ⟨h1, h2, h3⟩:=bst_ok L Z b
   refine ⟨h1.imp id fun h => ⟨List.mem_cons_of_mem _ h.1, h.2⟩, h2, fun y hy hp => ?_⟩
   rcases List.mem_cons.1 hy with rfl | hy
   ·have : ¬ b.n < y.n := fun d => c ⟨hp, d⟩
    omega
   ·exact h3 y hy hp
def sgE (L : List Nat) : Tk:=⟨0, [], 0, 0, if L.headD 0 = 47 ∨ L.headD 0 = 94 then 31 else 30⟩
theorem sgn_find (L : List Nat) : ∀ Z : List Bs, Z.Pairwise (fun a b => b.n ≤ a.n) → ((∀ z ∈ Z, (bts z).isPrefixOf L = false) ∧ sgn L Z = sgE L) ∨ ∃ z ∈ Z, (bts z).isPrefixOf L = true ∧ sgn L Z = ⟨3, bts z, 0, z.n, 0⟩ ∧ ∀ y ∈ Z, (bts y).isPrefixOf L = true → y.n ≤ z.n
 | [], _ => .inl ⟨fun z hz => (nomatch hz), rfl⟩
 | z :: Z, h => by
  rw [sgn]
  cases hp : (bts z).isPrefixOf L with
  | true =>
   rw [if_pos rfl]
   exact .inr ⟨z, List.mem_cons_self, hp, rfl, fun y hy _ => (List.mem_cons.1 hy).elim (fun e => by rw [e]; exact Nat.le_refl _) (fun hy => (List.pairwise_cons.1 h).1 y hy)⟩
  | false =>
   rw [if_neg (by decide)]
   rcases sgn_find L Z (List.pairwise_cons.1 h).2 with ⟨h1, h2⟩ | ⟨y, h1, h2, h3, h4⟩
   ·exact .inl ⟨fun y hy => (List.mem_cons.1 hy).elim (fun e => by rw [e]; exact hp) (h1 y), h2⟩
   ·exact .inr ⟨y, List.mem_cons_of_mem _ h1, h2, h3, fun x hx hpx => (List.mem_cons.1 hx).elim (fun e => by rw [e, hp] at hpx; exact nomatch hpx) (fun hx => h4 x hx hpx)⟩
def sgR : List Bs:=sgA.filterMap fun v => match v with | .str z => some z | _ => none
def samB (a b : Bs) : Bool:=Nat.beq a.n b.n && Nat.beq a.b b.b
theorem samB_eq {a b : Bs} (h : samB a b = true) : a = b:=by
 unfold samB at h
 rw [Bool.and_eq_true] at h
 obtain ⟨an, ab⟩:=a
 obtain ⟨bn, bb⟩:=b
 rw [show an = bn from Nat.eq_of_beq_eq_true h.1, show ab = bb from Nat.eq_of_beq_eq_true h.2]
theorem sg_perm : ∀ z, z ∈ sgL ↔ z ∈ sgR:=by
 have h1 : (sgL.all fun z => sgR.any fun y => samB y z) = true:=by kernel_rfl
 have h2 : (sgR.all fun z => sgL.any fun y => samB y z) = true:=by kernel_rfl
 intro z
 constructor
 ·intro hz
  obtain ⟨y, hy, e⟩:=List.any_eq_true.1 (List.all_eq_true.1 h1 z hz)
  rw [← samB_eq e]; exact hy
 ·intro hz
  obtain ⟨y, hy, e⟩:=List.any_eq_true.1 (List.all_eq_true.1 h2 z hz)
  rw [← samB_eq e]; exact hy
def decr : List Bs → Bool
 | a :: b :: r => Nat.ble b.n a.n && decr (b :: r)
 | _ => true
theorem decr_ok : ∀ (r : List Bs) (a : Bs), decr (a :: r) = true → (a :: r).Pairwise (fun a b => b.n ≤ a.n)
 | [], a, _ => List.pairwise_singleton _ _
 | b :: r, a, h => by
  rw [decr, Bool.and_eq_true] at h
  have ih:=decr_ok r b h.2
  have hba:=Nat.le_of_ble_eq_true h.1
  rw [List.pairwise_cons]
  refine ⟨fun y hy => ?_, ih⟩
  rcases List.mem_cons.1 hy with rfl | hy
  ·exact hba
  ·exact Nat.le_trans ((List.pairwise_cons.1 ih).1 y hy) hba
theorem sgL_down : sgL.Pairwise (fun a b => b.n ≤ a.n):=by
 have h : decr sgL = true:=by kernel_rfl
 have hne : sgL ≠ []:=fun c => by have:=sg_len; rw [c] at this; exact absurd this (by decide)
 obtain ⟨a, r, e⟩:=List.exists_cons_of_ne_nil hne
 rw [e] at h ⊢
 exact decr_ok r a h
theorem sgn_bst (L : List Nat) : sgn L sgL = if (bst L sgR ⟨0, 0⟩).n = 0 then sgE L else ⟨3, bts (bst L sgR ⟨0, 0⟩), 0, (bst L sgR ⟨0, 0⟩).n, 0⟩:=by
 obtain ⟨h1, _, h3⟩:=bst_ok L sgR ⟨0, 0⟩
 generalize bst L sgR ⟨0, 0⟩ = x at h1 h3 ⊢
 rcases sgn_find L sgL sgL_down with ⟨a1, a2⟩ | ⟨z, a1, a2, a3, a4⟩
 ·rw [a2]
  rcases h1 with h1 | h1
  ·rw [h1, if_pos rfl]
  ·have := a1 x ((sg_perm x).2 h1.1)
   rw [h1.2] at this; cases this
 ·have hz := sg_max z a1
  have hzx:=h3 z ((sg_perm z).1 a1) a2
  rw [if_neg (by omega), a3]
  rcases h1 with h1 | h1
  ·rw [h1] at hzx; dsimp only at hzx; omega
  ·have hxz := a4 x ((sg_perm x).2 h1.1) h1.2
   have e : x.n = z.n:=by omega
   have p1:=a2
   have p2:=h1.2
   rw [pfx_take, decide_eq_true_iff, bts_len] at p1 p2
   rw [← p1.2, ← p2.2, e]
theorem zed_from {s : Bs} {a : Nat} (hs : s.n ≤ 60000) (ha : a ≤ s.n) : ∀ (m k : Nat) (h : Hp) (l : List Asn), s.n - (a + k) < m → k ≤ 60000 → St l h →
 Tri h false l (rTI ([], ((k + cnt isSp ((bts s).drop (a + k)) + 1 : Nat) : Int))) (M 75 [.str s, .int .i64 (a : Int), .int .i64 (k : Int)] h):=by
 intro m
 induction m with
 | zero => intro k h l hm; omega
 | succ m ih =>
  intro k h l hm hk H
  have hb:=bts_lt s (a + k)
  have hb : s.byte (((a : Int) + (k : Int)).toNat) < 256:=hb
  refine t3 e75 fun L => ?_
  unfold B75
  generalize hX : cnt isSp ((bts s).drop (a + k)) = X
  refine aD (by omega) ?_
  apply lS
  refine Tri.lss ?_ ?_<;>intro e
  ·have hlt : a + k < s.n := by omega
   rw [bts_drop hlt, cnt_cons] at hX
   apply gtt
   apply bI
   refine aD (by omega) ?_
   refine jS (by omega) ?_
   apply Mid.bB
   refine tbe1 (sp64 (by first|assumption|omega|rfl|(dsimp;omega)) H) L fun h H L => ?_
   apply bS
   apply pT
   rw [show ((a : Int) + (k : Int)).toNat = a + k from rfl]
   cases h1 : isSp (s.byte (a + k)) with
   | true =>
    rw [h1, if_pos rfl] at hX
    subst hX
    apply nT
    refine aD (by omega) ?_
    rw [show k + (cnt isSp ((bts s).drop (a + k + 1)) + 1) + 1 = (k + 1) + cnt isSp ((bts s).drop (a + (k + 1))) + 1 by rw [Nat.add_assoc a k 1]; omega]
    exact te (ih (k + 1) h l (by omega) (by omega) H) L
   | false =>
    rw [h1, if_neg (by decide)] at hX
    subst hX
    apply nF
    refine aD (by omega) ?_
    exact Tri.done (B:=[]) ⟨_, rfl, rfl, rfl, rfl⟩ H L
  ·rw [bts_end (by omega)] at hX
   subst hX
   apply gft
   apply pF
   apply nF
   refine aD (by omega) ?_
   exact Tri.done (B:=[]) ⟨_, rfl, rfl, rfl, rfl⟩ H L
theorem dgt_ge (most base : Nat) : ∀ (L : List Nat) (n k : Nat), k ≤ (dgt most base L n k).2
 | [], n, k => Nat.le_refl _
 | b :: r, n, k => by
  rw [dgt]
  have:=dgt_ge most base r (n * base + (hexv b).1) (k + 1)
  split
  ·split
   ·omega
   ·exact Nat.le_refl _
  ·exact Nat.le_refl _
theorem dgt_ten {b : Nat} (hb : b < 256) (r : List Nat) : 0 < (dgt 3 10 (b :: r) 0 0).2 ↔ isDg b = true:=by
 have h:=all256 (p:=fun b => (hexv b).2 && decide ((hexv b).1 < 10)) (q:=isDg) (by kernel_rfl) hb
 rw [dgt, if_pos (by decide), ← h, Bool.and_eq_true, decide_eq_true_iff]
 by_cases c : (hexv b).2 = true ∧ (hexv b).1 < 10
 ·rw [if_pos c]
  have:=dgt_ge 3 10 r (0 * 10 + (hexv b).1) (0 + 1)
  exact ⟨fun _ => c, fun _ => by omega⟩
 ·rw [if_neg c]
  exact ⟨fun d => absurd d (by decide), fun d => absurd d c⟩
theorem lk_far {b : Nat} (hb : b < 256) : lk b PR ≤ 255 ∧ (0 ≤ lk b PR → b ≠ 120 ∧ b ≠ 122 ∧ b ≠ 117 ∧ isDg b = false ∧ isEnd b = false):=by
 have h:=all256 (p:=fun b => decide (lk b PR ≤ 255) && (decide (lk b PR < 0) || (!(b == 120) && !(b == 122) && !(b == 117) && !isDg b && !isEnd b))) (q:=fun _ => true) (by kernel_rfl) hb
 rw [Bool.and_eq_true, decide_eq_true_iff, Bool.or_eq_true, decide_eq_true_iff] at h
 refine ⟨h.1, fun c => ?_⟩
 rcases h.2 with h | h
 ·omega
 ·simp only [Bool.and_eq_true, Bool.not_eq_true', beq_eq_false_iff_ne] at h
  exact ⟨h.1.1.1.1, h.1.1.1.2, h.1.1.2, h.1.2, h.2⟩
theorem two_end {b c : Nat} (h : (b = 10 ∧ c = 13) ∨ (b = 13 ∧ c = 10)) (o : Option Nat) : (o.any isEnd && o != some b) = decide (o = some c):=by
 cases o with
 | none => exact (decide_eq_false (fun c => nomatch c)).symm
 | some x =>
  rw [Option.any_some, Bool.eq_iff_iff, Bool.and_eq_true, decide_eq_true_iff, isEnd_iff, bne_iff_ne, Option.some.injEq, Ne, Option.some.injEq]
  omega
theorem sp202 {s : Bs} {q i : Nat} (hs : s.n ≤ 60000) (hi : i ≤ s.n) (H : St l h) : Tri h false l (rTI ((prt q ((bts s).drop i)).1, ((prt q ((bts s).drop i)).2 : Int))) (M 202 [.str s, .int .i64 (i : Int), .int .u8 (q : Int)] h):=by
 generalize hX : prt q ((bts s).drop i) = X
 refine t3 e202 fun L => ?_
 unfold B202
 have none_ : ∀ {h0 h : Hp}, X = ([], 0) → St l h → Lo false h0 h → Tri h0 false l (rTI (X.1, (X.2 : Int))) (some (.tuple [.str ⟨0, 0⟩, .int .i64 0], h)) := fun e H L => by
  subst e; exact Tri.done (B:=[]) ⟨_, rfl, rfl, rfl, rfl⟩ H L
 apply lS
 refine Tri.geq ?_ ?_<;>intro e
 ·rw [bts_end (by omega), prt] at hX
  apply gtf
  apply pT
  apply gtf
  apply pT
  apply gtf
  apply pT
  apply nT
  exact none_ hX.symm H L
 ·have hlt : i < s.n := by omega
  rw [bts_drop hlt, prt] at hX
  apply gff
  refine jS (by omega) ?_
  apply bI
  rw [show ((i : Int)).toNat = i from rfl]
  refine Tri.eql ?_ ?_<;>intro e1
  ·rw [if_pos (.inl (Int.ofNat.inj e1))] at hX
   apply bS
   apply pF
   apply gtf
   apply pT
   apply gtf
   apply pT
   apply nT
   exact none_ hX.symm H L
  ·apply bS
   apply pF
   apply gff
   refine jS (by omega) ?_
   apply bI
   rw [show ((i : Int)).toNat = i from rfl]
   have stop : isEnd (s.byte i) = true → X = ([], 0):=fun c => by rw [← hX, if_pos (.inr c)]
   refine Tri.eql ?_ ?_<;>intro e2
   ·apply bS
    apply pF
    apply gtf
    apply pT
    apply nT
    exact none_ (stop (isEnd_iff.2 (.inl (Int.ofNat.inj e2)))) H L
   ·apply bS
    apply pF
    apply gff
    refine jS (by omega) ?_
    apply bI
    rw [show ((i : Int)).toNat = i from rfl]
    refine Tri.eql ?_ ?_<;>intro e3
    ·apply bS
     apply pF
     apply nT
     exact none_ (stop (isEnd_iff.2 (.inr (Int.ofNat.inj e3)))) H L
    ·have hne : isEnd (s.byte i) = false := isEnd_no (fun c => e2 (congrArg Int.ofNat c)) (fun c => e3 (congrArg Int.ofNat c))
     rw [if_neg (fun c => c.elim (fun c => e1 (congrArg Int.ofNat c)) (fun c => by rw [hne] at c; exact nomatch c))] at hX
     clear stop
     apply bS
     apply pF
     apply nF
     refine iS (by omega) ?_
     rw [show ((i : Int)).toNat = i from rfl]
     refine Tri.neq ?_ ?_<;>intro e4
     ·rw [if_neg (fun c => e4 (congrArg Int.ofNat c))] at hX
      subst hX
      apply nT
      refine aD (by omega) ?_
      refine cB (by omega) fun z92 nz92 ez92 => ?_
      have e92 : bts z92 = [s.byte i]:=by rw [ez92, show ((i : Int) + 1).toNat - ((i : Int)).toNat = 1 by omega, Int.toNat_natCast, bts_drop hlt]; rfl
      exact Tri.done (B:=[]) ⟨z92, by rw [← bts_len, e92], e92, rfl, rfl⟩ H L
     ·rw [if_pos (Int.ofNat.inj e4)] at hX
      apply nF
      refine aD (by omega) ?_
      apply lS
      refine Tri.geq ?_ ?_<;>intro e5
      ·rw [bts_end (show s.n ≤ i + 1 by omega), show eso [] = ([], 0) from rfl, if_pos rfl] at hX
       apply nT
       exact none_ hX.symm H L
      ·have hlt1 : i + 1 < s.n := by omega
       apply nF
       refine iS (by omega) ?_
       rw [show ((i : Int) + 1).toNat = i + 1 from rfl]
       have hb:=bts_lt s (i + 1)
       have hlk:=lk_far hb
       have hten:=dgt_ten hb ((bts s).drop (i + 1 + 1))
       have hplk:=lk_plk hb
       have hd:=bts_drop hlt1
       generalize hE : eso ((bts s).drop (i + 1)) = E at hX
       rw [hd] at hE
       unfold eso at hE
       dsimp only at hE
       rw [← hd] at hE hten
       refine Tri.endI ?_
       cases h1 : isEnd (s.byte (i + 1)) with
       | true =>
        rw [h1, if_pos rfl] at hE
        apply nT
        refine aD (by omega) ?_
        refine Tri.sub ?_
        have hc : ∃ c : Nat, ((s.byte (i + 1) = 10 ∧ c = 13) ∨ (s.byte (i + 1) = 13 ∧ c = 10)) ∧ IntKind.u8.wrap (23 - (s.byte (i + 1) : Int)) = (c : Int):=by
         rcases isEnd_iff.1 h1 with c | c
         ·exact ⟨13, .inl ⟨c, rfl⟩, by rw [c]; rfl⟩
         ·exact ⟨10, .inr ⟨c, rfl⟩, by rw [c]; rfl⟩
        obtain ⟨c, hc1, hc2⟩:=hc
        rw [two_end hc1] at hE
        rw [hc2, show (i : Int) + 1 + 1 = ((i + 1 + 1 : Nat) : Int) from rfl]
        refine tbe1 (sp266 (i:=i + 1 + 1) (b:=c) hs (by omega) H) L fun h H L => ?_
        cases h3 : decide (((bts s).drop (i + 1 + 1)).head? = some c) with
        | true =>
         rw [h3, if_pos rfl] at hE
         subst hE
         rw [if_neg (by decide)] at hX
         subst hX
         apply nT
         exact Tri.done (B:=[]) ⟨_, rfl, rfl, rfl, rfl⟩ H L
        | false =>
         rw [h3, if_neg (by decide)] at hE
         subst hE
         rw [if_neg (by decide)] at hX
         subst hX
         apply nF
         exact Tri.done (B:=[]) ⟨_, rfl, rfl, rfl, rfl⟩ H L
       | false =>
        rw [h1, if_neg (by decide)] at hE
        apply nF
        refine tbe1 (sp268 (by first|assumption|omega|rfl|(dsimp;omega)) H) L fun h H L => ?_
        refine Tri.geq ?_ ?_<;>intro e6
        ·obtain ⟨f1, f2, f3, f4, f5⟩ := hlk.2 e6
         rw [if_neg f1, if_neg f2, if_neg f3, f4, if_neg (by decide), hplk, if_pos e6, if_pos e6] at hE
         subst hE
         rw [if_neg (Nat.succ_ne_zero _)] at hX
         subst hX
         refine Tri.ift (Tri.byteS H L fun z h hz e H L => ?_)
         have ew : (IntKind.u8.wrap (lk (s.byte (i + 1)) PR)).toNat = (lk (s.byte (i + 1)) PR).toNat:=by rw [IntKind.wrap_u8]; have:=hlk.1; omega
         exact Tri.done (B:=[]) ⟨z, hz, by rw [e, ew], rfl, rfl⟩ H L
        ·rw [if_neg (by omega), if_neg (by omega)] at hplk
         rw [hplk] at hE
         apply nF
         refine Tri.eql ?_ ?_<;>intro e7
         ·rw [if_pos (Int.ofNat.inj e7)] at hE
          apply nT
          refine aD (by omega) ?_
          refine tbe1 (sp270 (by first|assumption|omega|rfl|(dsimp;omega)) (by first|assumption|omega|rfl|(dsimp;omega)) (by first|assumption|omega|rfl|(dsimp;omega)) (by first|assumption|omega|rfl|(dsimp;omega)) H) L fun h H L => ?_
          refine Tri.ext rfl ?_
          refine Tri.ext rfl ?_
          generalize dgt 2 16 ((bts s).drop (i + 1 + 1)) 0 0 = D at hE ⊢
          refine Tri.eql ?_ ?_<;>intro e8
          ·rw [if_pos (Int.ofNat.inj e8)] at hE
           subst hE
           rw [if_neg (Nat.succ_ne_zero _)] at hX
           subst hX
           refine Tri.ift (Tri.byteS H L fun z h hz e H L => ?_)
           exact Tri.done (B:=[]) ⟨z, hz, e, rfl, rfl⟩ H L
          ·rw [if_neg (fun c => e8 (congrArg Int.ofNat c))] at hE
           subst hE
           apply nF
           exact none_ hX.symm H L
         ·rw [if_neg (fun c => e7 (congrArg Int.ofNat c))] at hE
          apply nF
          refine Tri.eql ?_ ?_<;>intro e8
          ·rw [if_pos (Int.ofNat.inj e8)] at hE
           apply nT
           subst hE
           rw [if_neg (by rw [Nat.add_comm]; exact Nat.succ_ne_zero _)] at hX
           subst hX
           exact te (zed_from (a:=i + 1) hs (by omega) (s.n + 1) 1 h l (by omega) (by omega) H) L
          ·rw [if_neg (fun c => e8 (congrArg Int.ofNat c))] at hE
           have rest : ∀ {h0 h : Hp}, (if isDg (s.byte (i + 1)) = true then (if (dgt 3 10 ((bts s).drop (i + 1)) 0 0).1 ≤ 255 then ([(IntKind.u8.wrap ((dgt 3 10 ((bts s).drop (i + 1)) 0 0).1 : Nat)).toNat], (dgt 3 10 ((bts s).drop (i + 1)) 0 0).2) else ([], 0)) else ([], 0)) = E → St l h → Lo false h0 h → Tri h0 false l (rTI (X.1, (X.2 : Int)))
            (intS .gtr (.int .i64 ((dgt 3 10 ((bts s).drop (i + 1)) 0 0).2 : Nat)) (.int .i64 0) fun v92 => guardS v92 true (intS .leq (.int .i64 ((dgt 3 10 ((bts s).drop (i + 1)) 0 0).1 : Nat)) (.int .i64 255) fun v93 => some (v93, h)) h fun v94 h95 => optS (pickV v92 v94 (.bool false)) fun v96 =>
            ifS v96 (convI .u8 (.int .i64 ((dgt 3 10 ((bts s).drop (i + 1)) 0 0).1 : Nat)) fun v97 => bindS (bldSl h95 [(0, v97)] 5 1 1 (.int .u8 0)) fun v98 h99 => bindS (vh h99 (b2s h99 v98)) fun v100 h101 => intS .add (.int .i64 ((dgt 3 10 ((bts s).drop (i + 1)) 0 0).2 : Nat)) (.int .i64 1) fun v102 => some (.tuple [v100, v102], h101)) (some (.tuple [.str ⟨0, 0⟩, .int .i64 0], h95))):=by
            intro h0 h hE H L
            have hD:=dgt_le 3 10 ((bts s).drop (i + 1)) 0 0
            rw [List.length_drop, bts_len] at hD
            generalize dgt 3 10 ((bts s).drop (i + 1)) 0 0 = D at hE hten hD ⊢
            refine Tri.gtr ?_ ?_<;>intro e9
            ·rw [if_pos (hten.1 (Int.ofNat_lt.1 e9))] at hE
             apply gtt
             apply bI
             refine Tri.leq ?_ ?_<;>intro e10
             ·rw [if_pos (Int.ofNat_le.1 e10)] at hE
              subst hE
              have:=Int.ofNat_lt.1 e9
              rw [if_neg (show ¬ D.2 = 0 by omega)] at hX
              subst hX
              refine Tri.eqv rfl (Tri.byteS (n:=(D.1 : Int)) (R:=fun v h => intS .add (.int .i64 (D.2 : Int)) (.int .i64 1) fun v102 => some (.tuple [v, v102], h)) H L fun z h hz e H L => ?_)
              refine aD (by omega) ?_
              exact Tri.done (B:=[]) ⟨z, hz, e, rfl, rfl⟩ H L
             ·rw [if_neg (fun c => absurd e10 (Int.not_lt.2 (Int.ofNat_le.2 c)))] at hE
              subst hE
              apply bS
              apply pT
              apply nF
              exact none_ hX.symm H L
            ·rw [if_neg (fun c => absurd e9 (Int.not_le.2 (Int.ofNat_lt.2 (hten.2 c))))] at hE
             subst hE
             apply gft
             apply pF
             apply nF
             exact none_ hX.symm H L
           apply nF
           refine Tri.eql ?_ ?_<;>intro e9
           ·have h117 : s.byte (i + 1) = 117 := Int.ofNat.inj e9
            have hp : [117, 123].isPrefixOf ((bts s).drop (i + 1)) = decide (((bts s).drop (i + 1 + 1)).head? = some 123):=by
             rw [hd, h117, ← pfx_one]; rfl
            have hm : dgt ((bts s).drop (i + 1)).length 16 (((bts s).drop (i + 1 + 1)).drop 1) 0 0 = dgt s.n 16 ((bts s).drop (i + 1 + 2)) 0 0:=by
             rw [List.drop_drop]
             exact dgt_most _ 0 0 (by simp only [List.length_drop, bts_len]; omega) (by simp only [List.length_drop, bts_len]; omega)
            rw [if_pos h117, hp, hm, pfx_one, List.drop_drop] at hE
            apply gtt
            apply bI
            refine aD (by omega) ?_
            apply Mid.bB
            refine tbe1 (sp266 (by first|assumption|omega|rfl|(dsimp;omega)) (by first|assumption|omega|rfl|(dsimp;omega)) H) L fun h H L => ?_
            apply bS
            apply pT
            cases h2 : decide (((bts s).drop (i + 1 + 1)).head? = some 123) with
            | false =>
             rw [h2, if_neg (fun c => nomatch c.1)] at hE
             apply nF
             refine tbe1 (sp270 (by first|assumption|omega|rfl|(dsimp;omega)) (by first|assumption|omega|rfl|(dsimp;omega)) (by first|assumption|omega|rfl|(dsimp;omega)) (by first|assumption|omega|rfl|(dsimp;omega)) H) L fun h H L => ?_
             refine Tri.ext rfl ?_
             refine Tri.ext rfl ?_
             refine rest ?_ H L
             rw [h117]
             exact hE
            | true =>
             rw [h2] at hE
             have hD:=dgt_le s.n 16 ((bts s).drop (i + 1 + 2)) 0 0
             rw [List.length_drop, bts_len] at hD
             apply nT
             refine aD (by omega) ?_
             apply lS
             refine tbe1 (sp270 (by first|assumption|omega|rfl|(dsimp;omega)) (by first|assumption|omega|rfl|(dsimp;omega)) (by first|assumption|omega|rfl|(dsimp;omega)) (by first|assumption|omega|rfl|(dsimp;omega)) H) L fun h H L => ?_
             refine Tri.ext rfl ?_
             refine Tri.ext rfl ?_
             refine Mid.tb (sp272 H) L fun v h B hq338 H L => ?_
             obtain ⟨z338, nz338, ez338, rfl, rfl⟩:=hq338
             refine Tri.ext rfl ?_
             refine Tri.ext rfl ?_
             generalize dgt s.n 16 ((bts s).drop (i + 1 + 2)) 0 0 = D at hE hD nz338 ez338 ⊢
             generalize enc (D.1 : Int) = N at hE nz338 ez338 ⊢
             have ecl : i + 1 + 1 + (1 + D.2) = i + 1 + 2 + D.2:=by omega
             rw [ecl] at hE
             refine Tri.gtr ?_ ?_<;>intro e10
             ·apply gtt
              apply bI
              refine Tri.eql ?_ ?_<;>intro e11
              ·apply bS
               apply pT
               apply gtt
               apply bI
               refine aD (by omega) ?_
               apply bI
               refine aD (by omega) ?_
               apply Mid.bB
               refine tbe1 (sp266 (by first|assumption|omega|rfl|(dsimp;omega)) (by first|assumption|omega|rfl|(dsimp;omega)) H) L fun h H L => ?_
               apply bS
               apply pT
               cases h3 : decide (((bts s).drop (i + 1 + 2 + D.2)).head? = some 125) with
               | true =>
                rw [h3, if_pos ⟨rfl, Int.ofNat_lt.1 e10, e11, rfl⟩] at hE
                subst hE
                rw [if_neg (Nat.succ_ne_zero _)] at hX
                subst hX
                apply nT
                refine aD (by omega) ?_
                exact Tri.done (B:=[]) ⟨z338, nz338, ez338, rfl, rfl⟩ H L
               | false =>
                rw [h3, if_neg (fun c => nomatch c.2.2.2)] at hE
                subst hE
                apply nF
                exact none_ hX.symm H L
              ·rw [if_neg (fun c => e11 c.2.2.1)] at hE
               subst hE
               apply bS
               apply pT
               apply gft
               apply pF
               apply nF
               exact none_ hX.symm H L
             ·rw [if_neg (fun c => absurd e10 (Int.not_le.2 (Int.ofNat_lt.2 c.2.1)))] at hE
              subst hE
              apply gft
              apply pF
              apply gft
              apply pF
              apply nF
              exact none_ hX.symm H L
           ·rw [if_neg (fun c => e9 (congrArg Int.ofNat c))] at hE
            apply gft
            apply pF
            apply nF
            refine tbe1 (sp270 (by first|assumption|omega|rfl|(dsimp;omega)) (by first|assumption|omega|rfl|(dsimp;omega)) (by first|assumption|omega|rfl|(dsimp;omega)) (by first|assumption|omega|rfl|(dsimp;omega)) H) L fun h H L => ?_
            refine Tri.ext rfl ?_
            refine Tri.ext rfl ?_
            exact rest hE H L
theorem unq_from {s : Bs} (hs : s.n ≤ 60000) (h0n : 0 < s.n) (hqe : isEnd (s.byte 0) = false) (hq9 : s.byte 0 ≠ 92) : ∀ (f i : Nat) (out : Bs) (h : Hp) (l : List Asn), s.n - i < f → 1 ≤ i → i ≤ s.n → out.n ≤ 6 * i → St l h →
 ∀ X, unl f (s.byte 0) ((bts s).drop i) (bts out) = X → Tri h false l (rTI (resU X)) (M 41 [.str s, .str out, .int .i64 (i : Int)] h):=by
 intro f
 induction f with
 | zero => intro i out h l hf; omega
 | succ f ih =>
  intro i out h l hf h1 hi ho H X hX
  rw [unl_prt hqe hq9] at hX
  have hP:=prt_le (s.byte 0) ((bts s).drop i)
  rw [List.length_drop, bts_len] at hP
  refine t3 e41 fun L => ?_
  unfold B41
  refine iS (by omega) ?_
  refine Mid.tb (sp202 (by first|assumption|omega|rfl|(dsimp;omega)) (by first|assumption|omega|rfl|(dsimp;omega)) H) L fun v h B hq1 H L => ?_
  obtain ⟨z1, nz1, ez1, rfl, rfl⟩:=hq1
  refine Tri.ext rfl ?_
  refine Tri.ext rfl ?_
  rw [show Int.toNat 0 = 0 from rfl] at nz1 ez1 ⊢
  generalize prt (s.byte 0) ((bts s).drop i) = P at hX hP nz1 ez1 ⊢
  obtain ⟨P1, P2⟩:=P
  dsimp only at hX hP nz1 ez1 ⊢
  refine Tri.eql ?_ ?_<;>intro e
  ·rw [if_pos (Int.ofNat.inj e)] at hX
   apply nT
   apply lS
   refine Tri.subN (by omega) (by omega) ?_
   refine Tri.neq ?_ ?_<;>intro e2
   ·have hne : ¬ (bts s).drop i = [s.byte 0] := fun c => by
     have:=congrArg List.length c
     rw [List.length_drop, bts_len, List.length_singleton] at this; omega
    rw [if_neg hne] at hX
    subst hX
    apply gtf
    apply gtf
    apply gtf
    apply gtf
    apply gtf
    apply gtf
    apply pT
    apply nT
    exact Tri.done (B:=[]) ⟨_, rfl, rfl, rfl, rfl⟩ H L
   ·have hlt : i < s.n := by omega
    have hd : (bts s).drop i = [s.byte i]:=by rw [bts_drop hlt, bts_end (by omega)]
    rw [hd] at hX
    apply gff
    apply bS
    apply gff
    apply bS
    apply gff
    refine jS (by omega) ?_
    apply bS
    apply gff
    apply bS
    apply gff
    refine jS (by omega) ?_
    apply bS
    apply gff
    apply bI
    rw [show Int.toNat 0 = 0 from rfl]
    refine Tri.eqv rfl (Tri.neq (fun e3 => ?_) (fun e3 => ?_))
    ·rw [if_neg (show ¬ [s.byte i] = [s.byte 0] from fun c => e3 (congrArg Int.ofNat (List.cons.inj c).1))] at hX
     subst hX
     apply bS
     apply pF
     apply nT
     exact Tri.done (B:=[]) ⟨_, rfl, rfl, rfl, rfl⟩ H L
    ·rw [if_pos (show [s.byte i] = [s.byte 0] from congrArg (fun x => [x]) (show s.byte i = s.byte 0 from Int.ofNat.inj e3))] at hX
     subst hX
     apply bS
     apply pF
     apply nF
     exact Tri.done (B:=[]) ⟨out, (bts_len out).symm, rfl, rfl, rfl⟩ H L
  ·rw [if_neg (fun c => e (congrArg Int.ofNat c)), List.drop_drop] at hX
   apply nF
   refine Tri.strCat (by simp only [*]; omega) fun z101 nz101 ez101 => ?_
   refine aD (by omega) ?_
   obtain ⟨hP1, hP2, _⟩:=hP
   exact te (ih (i + P2) z101 h l (by omega) (by omega) (by omega) (by omega) H X (by rw [ez101, ez1]; exact hX)) L
theorem sp136 {s : Bs} (hs : s.n ≤ 60000) (H : St l h) : Tri h false l (rTI (resU (unq (bts s)))) (M 136 [.str s] h):=by
 refine t1 e136 fun L => ?_
 unfold B136
 generalize hX : unq (bts s) = X
 unfold unq at hX
 rw [bts_len] at hX
 apply lS
 refine Tri.lss ?_ ?_<;>intro e
 ·rw [if_pos (.inl (by omega))] at hX
  subst hX
  apply gtf
  apply gu
  apply gtf
  apply pT
  apply nT
  exact Tri.done (B:=[]) ⟨_, rfl, rfl, rfl, rfl⟩ H L
 ·have hh : (bts s).headD 0 = s.byte 0 := by rw [← List.drop_zero (l := bts s), bts_drop (by omega)]; rfl
  rw [hh] at hX
  have go : ∀ {h h0 : Hp}, s.byte 0 = 34 ∨ s.byte 0 = 39 → St l h → Lo false h0 h → Tri h0 false l (rTI (resU X)) (M 41 [.str s, .str ⟨0, 0⟩, .int .i64 1] h):=by
   intro h h0 hq H L
   rw [if_neg (fun c => by omega)] at hX
   refine te (unq_from hs (by omega) (by rcases hq with c | c <;> rw [c] <;> rfl) (by omega) s.n 1 ⟨0, 0⟩ h l (by omega) (by omega) (by omega) (Nat.zero_le _) H X hX) L
  apply gff
  refine jS (by omega) ?_
  apply bI
  rw [show Int.toNat 0 = 0 from rfl]
  refine Tri.neq ?_ ?_<;>intro e1
  ·apply bS
   apply gtt
   refine jS (by omega) ?_
   apply bI
   rw [show Int.toNat 0 = 0 from rfl]
   refine Tri.neq ?_ ?_<;>intro e2
   ·rw [if_pos (.inr ⟨fun c => e1 (congrArg Int.ofNat c), fun c => e2 (congrArg Int.ofNat c)⟩)] at hX
    subst hX
    apply bS
    apply gff
    apply bO
    apply pT
    apply bS
    apply pF
    apply nT
    exact Tri.done (B:=[]) ⟨_, rfl, rfl, rfl, rfl⟩ H L
   ·refine Tri.eqv rfl (go (.inr (Int.ofNat.inj e2)) H L)
  ·refine Tri.eqv rfl (go (.inl (Int.ofNat.inj e1)) H L)
end
end Go.LT
end
