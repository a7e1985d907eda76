/- A part of the proof. -/
import Derived.Test.YtdiiilfokajddaaGreatDoorKLB7
set_option linter.all false
set_option warn.classDefReducibility false
noncomputable section
section
open Go Go.Mid Go.Proofs
set_option maxRecDepth 100000
namespace Go.LB
section
variable {l F : List Asn} {h h0 : Hp} {ro : Bool} {Q : V → List Asn → Prop} {k : V → VH} {K : V → Hp → VH} {v lV : V} {i j n : Nat}
def dgt (most base : Nat) : List Nat → Nat → Nat → Nat × Nat
 | [], n, k => (n, k)
 | b :: r, n, k => if k < most ∧ n < 2147483648 then (if (hexv b).2 = true ∧ (hexv b).1 < base then dgt most base r (n * base + (hexv b).1) (k + 1) else (n, k)) else (n, k)
theorem dgt_le (most base : Nat) : ∀ (L : List Nat) (n k : Nat), (dgt most base L n k).2 ≤ k + L.length
 | [], n, k => Nat.le_refl _
 | b :: r, n, k => by
  rw [dgt, List.length_cons]
  have:=dgt_le most base r (n * base + (hexv b).1) (k + 1)
  split
  ·split
   ·omega
   ·show k ≤ _; omega
  ·show k ≤ _; omega
theorem digits2_ok {s : Bs} {most base : Nat} (hs : s.n ≤ 70000) (hm : most ≤ 70000) (hb : base ≤ 16) : ∀ (m k n : Nat) (h : Hp) (l : List Asn), s.n - k ≤ m → k ≤ s.n → n ≤ 34359738384 → St l h →
 Tri h true l (rNo (.tuple [.int .i64 ((dgt most base ((bts s).drop k) n k).1 : Nat), .int .i64 ((dgt most base ((bts s).drop k) n k).2 : Nat)])) (M 59 [.str s, .int .i64 (most : Int), .int .i64 (base : Int), .int .i64 (n : Int), .int .i64 (k : Int)] h):=by
 have ih57 : ∀ (n k : Nat) (h : Hp) (l : List Asn), St l h → Tri h true l (rNo (.tuple [.int .i64 (n : Int), .int .i64 (k : Int)])) (M 57 [.int .i64 (n : Int), .int .i64 (k : Int)] h):=by
  intro n k h l H
  refine t2 e57 fun L => ?_
  unfold B57
  exact dn H L
 intro m
 induction m with
 | zero =>
  intro k n h l hm hk hn H
  refine t5 e59 fun L => ?_
  unfold B59
  rw [bts_end (by omega), dgt]
  apply lS
  refine Tri.lss (fun e => by omega) (fun e => ?_)
  apply gft
  apply pF
  apply gft
  apply pF
  apply nF
  refine te1 (ih57 _ _ _ _ H) L
 | succ m ih =>
  intro k n h l hm hk hn H
  refine t5 e59 fun L => ?_
  unfold B59
  generalize hX : dgt most base ((bts s).drop k) n k = X
  apply lS
  refine Tri.lss ?_ ?_<;>intro e
  ·have hlt : k < s.n := by omega
   have ih296:=fun (h : Hp) (l : List Asn) (H : St l h) => sp296 (bts_lt s k) H
   rw [bts_drop hlt, dgt] at hX
   apply gtt
   apply bI
   refine Tri.lss ?_ ?_<;>intro e2
   ·apply bS
    apply pT
    apply gtt
    apply bI
    refine Tri.lss ?_ ?_<;>intro e3
    ·rw [if_pos ⟨by omega, by omega⟩] at hX
     apply bS
     apply pT
     apply nT
     refine iS (by omega) ?_
     refine tbe1 (ih296 _ _ H) L fun h H L => ?_
     refine Tri.ext rfl ?_
     refine Tri.ext rfl ?_
     refine Tri.not ?_
     cases h1 : (hexv (s.byte k)).2 with
     | false =>
      rw [h1, if_neg (fun c => nomatch c.1)] at hX
      subst hX
      apply gtf
      apply pT
      apply nT
      refine te1 (ih57 _ _ _ _ H) L
     | true =>
      apply gff
      apply bI
      refine Tri.geq ?_ ?_<;>intro e4
      ·rw [if_neg (fun c => by have := c.2; omega)] at hX
       subst hX
       apply bS
       apply pF
       apply nT
       refine te1 (ih57 _ _ _ _ H) L
      ·rw [if_pos ⟨h1, by omega⟩] at hX
       have hl:=hexv_lt (s.byte k)
       have hmul : n * base ≤ 2147483648 * 16:=Nat.mul_le_mul (by omega) hb
       have hmi : ((n : Int) * (base : Int)) = ((n * base : Nat) : Int):=rfl
       apply bS
       apply pF
       apply nF
       refine Tri.mulN (by rw [hmi]; omega) (by rw [hmi]; omega) ?_
       rw [hmi]
       generalize n * base = W at hX hmul
       refine aD (by omega) ?_
       refine aD (by omega) ?_
       subst hX
       exact te (ih (k + 1) (W + (hexv (s.byte k)).1) h l (by omega) (by omega) (by omega) H) L
    ·rw [if_neg (fun c => by omega)] at hX
     subst hX
     apply bS
     apply pT
     apply nF
     refine te1 (ih57 _ _ _ _ H) L
   ·rw [if_neg (fun c => by omega)] at hX
    subst hX
    apply bS
    apply pT
    apply gft
    apply pF
    apply nF
    refine te1 (ih57 _ _ _ _ H) L
  ·rw [bts_end (by omega), dgt] at hX
   subst hX
   apply gft
   apply pF
   apply gft
   apply pF
   apply nF
   refine te1 (ih57 _ _ _ _ H) L
theorem sp236 {s : Bs} {most base : Nat} (hs : s.n ≤ 70000) (hm : most ≤ 70000) (hb : base ≤ 16) (H : St l h) :
 Tri h true l (rNo (.tuple [.int .i64 ((dgt most base (bts s) 0 0).1 : Nat), .int .i64 ((dgt most base (bts s) 0 0).2 : Nat)])) (M 236 [.str s, .int .i64 (most : Int), .int .i64 (base : Int)] h):=by
 refine t3 e236 fun L => ?_
 unfold B236
 exact te (digits2_ok hs hm hb s.n 0 0 h l (by omega) (by omega) (by omega) H) L
theorem Tri.shl1 {x : Nat} (hx : x ≤ 40) (hk : Tri h0 ro F Q (k (.int .i64 ((2 ^ x : Nat) : Int)))) : Tri h0 ro F Q (shS .shl (.int .i64 1) (.int .i64 (x : Int)) k):=by
 have e : shOp .shl .i64 1 (x : Int) = some (.int .i64 ((2 ^ x : Nat) : Int)):=by
  show some (V.int .i64 (IntKind.i64.wrap (1 * 2 ^ (min ((x : Int)).toNat 64)))) = _
  rw [show min ((x : Int)).toNat 64 = x by rw [Int.toNat_natCast]; omega, Int.one_mul]
  have : (2 : Nat) ^ x ≤ 2 ^ 40:=Nat.pow_le_pow_right (by decide) hx
  have e2 : ((2 : Int) ^ x) = ((2 ^ x : Nat) : Int):=by simp
  rw [e2]
  generalize 2 ^ x = W at this ⊢
  rw [Mid.i64_of (by omega) (by omega)]
 show Tri h0 ro F Q (optS (shOp .shl .i64 1 (x : Int)) k)
 rw [e]; exact hk
theorem Tri.and6 {m : Int} (hk : Tri h0 ro F Q (k (.int .i64 (IntKind.i64.wrap (BitVec.ofInt 64 m &&& BitVec.ofInt 64 63).toNat)))) : Tri h0 ro F Q (intS .and (.int .i64 m) (.int .i64 63) k):=by rw [intS_at]; exact hk
theorem Tri.or8 {m n : Int} (hk : Tri h0 ro F Q (k (.int .u8 (IntKind.u8.wrap (BitVec.ofInt 8 m ||| BitVec.ofInt 8 n).toNat)))) : Tri h0 ro F Q (intS .or (.int .u8 m) (.int .u8 n) k):=by rw [intS_at]; exact hk
theorem Tri.shr6 {m : Int} (hk : Tri h0 ro F Q (k (.int .i64 (m.fdiv (2 ^ 6))))) : Tri h0 ro F Q (shS .shr (.int .i64 m) (.int .u64 6) k):=hk
theorem Tri.shl8 {x : Nat} (hk : Tri h0 ro F Q (k (.int .u8 (IntKind.u8.wrap (255 * 2 ^ (min ((x : Int)).toNat 8)))))) : Tri h0 ro F Q (shS .shl (.int .u8 255) (.int .i64 (x : Int)) k):=hk
theorem u8_wrap (n : Int) : ∃ b : Nat, b = (IntKind.u8.wrap n).toNat ∧ b < 256 ∧ IntKind.u8.wrap n = (b : Int):=by
 have h : 0 ≤ IntKind.u8.wrap n ∧ IntKind.u8.wrap n < 256:=by rw [IntKind.wrap_u8]; omega
 exact ⟨_, rfl, by omega, by omega⟩
def eb (n : Int) : Nat:=(IntKind.u8.wrap (BitVec.ofInt 8 128 ||| BitVec.ofInt 8 (IntKind.u8.wrap (IntKind.i64.wrap (BitVec.ofInt 64 n &&& BitVec.ofInt 64 63).toNat))).toNat).toNat
def ef (k : Nat) (n : Int) : Nat:=(IntKind.u8.wrap (BitVec.ofInt 8 (IntKind.u8.wrap (255 * 2 ^ (min ((((8 - k : Nat)) : Int)).toNat 8))) ||| BitVec.ofInt 8 (IntKind.u8.wrap n)).toNat).toNat
theorem eb_lt (n : Int) : eb n < 256:=by unfold eb; obtain ⟨b, h1, h2, _⟩:=u8_wrap (BitVec.ofInt 8 128 ||| BitVec.ofInt 8 (IntKind.u8.wrap (IntKind.i64.wrap (BitVec.ofInt 64 n &&& BitVec.ofInt 64 63).toNat))).toNat; rw [← h1]; exact h2
theorem ef_lt (k : Nat) (n : Int) : ef k n < 256:=by unfold ef; obtain ⟨b, h1, h2, _⟩:=u8_wrap (BitVec.ofInt 8 (IntKind.u8.wrap (255 * 2 ^ (min ((((8 - k : Nat)) : Int)).toNat 8))) ||| BitVec.ofInt 8 (IntKind.u8.wrap n)).toNat; rw [← h1]; exact h2
def encF (k : Nat) : Nat → Int → List Nat → List Nat
 | 0, n, cs => cs.set 0 (ef k n)
 | i + 1, n, cs => encF k i (n.fdiv (2 ^ 6)) (cs.set (i + 1) (eb n))
theorem encF_len (k : Nat) : ∀ (i : Nat) (n : Int) (cs : List Nat), (encF k i n cs).length = cs.length
 | 0, n, cs => List.length_set
 | i + 1, n, cs => by rw [encF, encF_len k i, List.length_set]
def encK : Nat → Nat → Int → Nat
 | 0, k, _ => k
 | f + 1, k, n => if ((2 ^ (5 * k + 1) : Nat) : Int) ≤ n then encK f (k + 1) n else k
def enc (n : Int) : List Nat × Int :=
 if n < 0 ∨ 2147483648 ≤ n then ([], 10) else if n < 128 then ([(IntKind.u8.wrap n).toNat], 0)
 else (encF (encK 4 2 n) (encK 4 2 n - 1) n (List.replicate (encK 4 2 n) 0), 0)
def rTI (x : List Nat × Int) : V → List Asn → Prop:=fun w B => ∃ z : Bs, z.n = x.1.length ∧ bts z = x.1 ∧ w = .tuple [.str z, .int .i64 x.2] ∧ B = []
theorem u8s_set (cs : List Nat) (i x : Nat) : (u8s cs).set i (u8 x) = u8s (cs.set i x):=List.map_set.symm
theorem set_lt {cs : List Nat} {i x : Nat} (h : ∀ c ∈ cs, c < 256) (hx : x < 256) : ∀ c ∈ cs.set i x, c < 256 := fun c hc => by
 rcases List.mem_or_eq_of_mem_set hc with h1 | h1
 ·exact h c h1
 ·rw [h1]; exact hx
theorem enc_cells {b k : Nat} : ∀ (i : Nat) (n : Int) (cs : List Nat) (h : Hp) (l : List Asn), i < cs.length → cs.length ≤ 8 → k = cs.length → (∀ c ∈ cs, c < 256) → St (vc false (.slice b 0 k k false) 5 1 (u8s cs) :: l) h →
 Tri h false l (rTI (encF k i n cs, 0)) (M 63 [.int .i64 n, .int .i64 (k : Int), .slice b 0 k k false, .int .i64 (i : Int)] h):=by
 intro i
 induction i with
 | zero =>
  intro n cs h l hi hl hk hc H
  refine t4 e63 fun L => ?_
  unfold B63
  refine Tri.gtr (fun e => absurd e (by decide)) (fun _ => ?_)
  apply nF
  refine Tri.subN (by omega) (by omega) ?_
  rw [show (8 : Int) - (k : Int) = ((8 - k : Nat) : Int) by omega]
  refine Tri.shl8 (Tri.conv (Tri.or8 ?_))
  have e1:=ef_lt k n
  have e2 : V.int .u8 (IntKind.u8.wrap (BitVec.ofInt 8 (IntKind.u8.wrap (255 * 2 ^ (min ((((8 - k : Nat)) : Int)).toNat 8))) ||| BitVec.ofInt 8 (IntKind.u8.wrap n)).toNat) = u8 (ef k n):=by
   obtain ⟨b, h1, h2, h3⟩:=u8_wrap (BitVec.ofInt 8 (IntKind.u8.wrap (255 * 2 ^ (min ((((8 - k : Nat)) : Int)).toNat 8))) ||| BitVec.ofInt 8 (IntKind.u8.wrap n)).toNat
   rw [h3, h1]; rfl
  rw [e2]
  rw [encF]
  generalize ef k n = x at e1 ⊢
  refine Tri.idx (by decide) (by omega) ?_
  refine Tri.storeV 0 H rfl (by simp; omega) L (fun e => nomatch e) rfl fun h H L => ?_
  replace H : St (vc false (.slice b 0 k k false) 5 1 (u8s (cs.set 0 x)) :: l) h:=by rw [← u8s_set]; exact H
  have hc2:=set_lt (i:=0) hc e1
  rw [H.vc_bytes (i:=0) rfl hc2]
  exact Tri.done (B:=[]) ⟨_, by rw [pack_n, List.length_map], bts_of hc2, rfl, rfl⟩ H.tl L
 | succ i ih =>
  intro n cs h l hi hl hk hc H
  refine t4 e63 fun L => ?_
  unfold B63
  skip
  refine Tri.gtr (fun _ => ?_) (fun e => by omega)
  refine Tri.ift (Tri.and6 (Tri.conv (Tri.or8 ?_)))
  have e1:=eb_lt n
  have e2 : V.int .u8 (IntKind.u8.wrap (BitVec.ofInt 8 128 ||| BitVec.ofInt 8 (IntKind.u8.wrap (IntKind.i64.wrap (BitVec.ofInt 64 n &&& BitVec.ofInt 64 63).toNat))).toNat) = u8 (eb n):=by
   obtain ⟨b, h1, h2, h3⟩:=u8_wrap (BitVec.ofInt 8 128 ||| BitVec.ofInt 8 (IntKind.u8.wrap (IntKind.i64.wrap (BitVec.ofInt 64 n &&& BitVec.ofInt 64 63).toNat))).toNat
   rw [h3, h1]; rfl
  rw [e2]
  refine Tri.idx (by omega) (by omega) ?_
  refine Tri.storeV 0 H rfl (by simp; omega) L (fun e => nomatch e) rfl fun h H L => ?_
  refine Tri.shr6 ?_
  rw [show 0 + ((i + 1 : Nat) : Int).toNat * 1 = i + 1 by rw [Int.toNat_natCast]; omega, u8s_set] at H
  refine Tri.subN (by omega) (by omega) ?_
  rw [encF, show ((i + 1 : Nat) : Int) - 1 = (i : Int) by omega]
  exact te (ih _ (cs.set (i + 1) (eb n)) h l (by rw [List.length_set]; omega) (by rw [List.length_set]; omega) (by rw [List.length_set]; exact hk) (set_lt hc e1) H) L
theorem encK_le : ∀ (f k : Nat) (n : Int), encK f k n ≤ k + f
 | 0, k, _ => Nat.le_refl _
 | f + 1, k, n => by
  rw [encK]
  have:=encK_le f (k + 1) n
  split <;> omega
theorem enc_size {n : Int} (hn : n < 2147483648) : ∀ (f k : Nat) (h : Hp) (l : List Asn), k + f = 6 → 2 ≤ k → St l h →
 Tri h false l (rTI (encF (encK f k n) (encK f k n - 1) n (List.replicate (encK f k n) 0), 0)) (M 61 [.int .i64 n, .int .i64 (k : Int)] h):=by
 have fin : ∀ (k : Nat) (h h0 : Hp) (l : List Asn), 2 ≤ k → k ≤ 6 → St l h → Lo false h0 h → Tri h0 false l (rTI (encF k (k - 1) n (List.replicate k 0), 0)) (bindS (mkS 5 1 1 (.int .u8 0) (.int .i64 (k : Int)) (.int .i64 (k : Int)) h) fun v16 h17 =>
  intS .sub (.int .i64 (k : Int)) (.int .i64 1) fun v18 => M 63 [.int .i64 n, .int .i64 (k : Int), v16, v18] h17):=by
  intro k h h0 l h2 h6 H L
  refine Tri.mk1 H L k rfl (by omega) (by omega) fun b h hb H L => ?_
  have er : List.replicate k (V.int .u8 0) = u8s (List.replicate k 0):=by rw [u8s, List.map_replicate]; rfl
  rw [er] at H
  refine Tri.subN (by omega) (by omega) ?_
  rw [show (k : Int) - 1 = ((k - 1 : Nat) : Int) by omega]
  exact te (enc_cells (k - 1) n (List.replicate k 0) h l (by rw [List.length_replicate]; omega) (by rw [List.length_replicate]; omega) (by rw [List.length_replicate]) (fun c hc => by rw [List.eq_of_mem_replicate hc]; decide) H) L
 intro f
 induction f with
 | zero =>
  intro k h l hf hk H
  obtain rfl : k = 6:=by omega
  refine t2 e61 fun L => ?_
  unfold B61
  refine Tri.mulN (by decide) (by decide) (Tri.addN (by decide) (by decide) ?_)
  refine Tri.shl1 (x:=31) (by decide) ?_
  refine Tri.geq (fun e => absurd e (by have : ((2 ^ 31 : Nat) : Int) = 2147483648:=rfl; omega)) (fun _ => Tri.iff ?_)
  exact fin 6 h _ l (by decide) (by decide) H L
 | succ f ih =>
  intro k h l hf hk H
  refine t2 e61 fun L => ?_
  unfold B61
  refine Tri.mulN (by omega) (by omega) (Tri.addN (by omega) (by omega) ?_)
  rw [show 5 * (k : Int) + 1 = ((5 * k + 1 : Nat) : Int) by omega]
  refine Tri.shl1 (by omega) ?_
  rw [encK]
  refine Tri.geq (fun e => Tri.ift ?_) (fun e => Tri.iff ?_)
  ·rw [if_pos e]
   refine aD (by omega) ?_
   exact te (ih (k + 1) h l (by omega) (by omega) H) L
  ·rw [if_neg (fun c => by omega)]
   exact fin k h _ l hk (by omega) H L
theorem sp238 {n : Int} (H : St l h) : Tri h false l (rTI (enc n)) (M 238 [.int .i64 n] h):=by
 refine t1 e238 fun L => ?_
 unfold B238
 generalize hX : enc n = X
 unfold enc at hX
 refine Tri.lss ?_ ?_<;>intro e1
 ·rw [if_pos (.inl e1)] at hX
  subst hX
  apply gtf
  apply pT
  apply nT
  exact Tri.done (B:=[]) ⟨_, rfl, rfl, rfl, rfl⟩ H L
 ·apply gff
  apply bI
  refine Tri.geq ?_ ?_<;>intro e2
  ·rw [if_pos (.inr e2)] at hX
   subst hX
   apply bS
   apply pF
   apply nT
   exact Tri.done (B:=[]) ⟨_, rfl, rfl, rfl, rfl⟩ H L
  ·rw [if_neg (by omega)] at hX
   apply bS
   apply pF
   apply nF
   refine Tri.lss ?_ ?_<;>intro e3
   ·rw [if_pos e3] at hX
    subst hX
    apply nT
    refine Tri.conv ?_
    refine Tri.bld (e:=_) (s:=_) H L rfl rfl fun b82 h hb82 H L => ?_
    obtain ⟨c, h1, h2, h3⟩:=u8_wrap n
    rw [h3] at H
    rw [← h1]
    have hc : ∀ x ∈ [c], x < 256:=fun x hx => by rw [List.mem_singleton.1 hx]; exact h2
    rw [St.vc_bytes (L:=[c]) (i:=0) H rfl hc]
    exact Tri.done (B:=[]) ⟨_, by rw [pack_n, List.length_map], bts_of hc, rfl, rfl⟩ H.tl L
   ·rw [if_neg (by omega)] at hX
    subst hX
    apply nF
    exact te (enc_size (by omega) 4 2 h l rfl (by decide) H) L
theorem encF_lt (k : Nat) : ∀ (i : Nat) (n : Int) (cs : List Nat), (∀ c ∈ cs, c < 256) → ∀ c ∈ encF k i n cs, c < 256
 | 0, n, cs, h => set_lt h (ef_lt k n)
 | i + 1, n, cs, h => encF_lt k i _ _ (set_lt h (eb_lt n))
theorem enc_lt (n : Int) : ∀ c ∈ (enc n).1, c < 256:=by
 unfold enc
 split
 ·exact fun c hc => nomatch hc
 ·split
  ·intro c hc
   obtain ⟨b, h1, h2, _⟩:=u8_wrap n
   rw [List.mem_singleton.1 hc, ← h1]; exact h2
  ·exact encF_lt _ _ _ _ fun c hc => by rw [List.eq_of_mem_replicate hc]; decide
theorem enc_out (n : Int) : (enc n).1.length ≤ 6:=by
 unfold enc
 split
 ·decide
 ·split
  ·simp
  ·rw [encF_len, List.length_replicate]; exact encK_le 4 2 n
def PL : Bs:=⟨20, 194867322317691132958510344948545282249320433505⟩
def plk (b : Nat) : Nat → Nat → List Nat × Nat
 | 0, _ => ([], 0)
 | f + 1, j => if PL.byte (2 * j) = b then ([PL.byte (2 * j + 1)], 1) else plk b f (j + 1)
theorem plk_le (b : Nat) : ∀ f j, (plk b f j).2 ≤ 1 ∧ (plk b f j).1.length ≤ 1 ∧ ∀ c ∈ (plk b f j).1, c < 256
 | 0, _ => ⟨Nat.zero_le _, Nat.zero_le _, fun c hc => nomatch hc⟩
 | f + 1, j => by
  rw [plk]
  split
  ·exact ⟨Nat.le_refl _, Nat.le_refl _, fun c hc => by rw [List.mem_singleton.1 hc]; exact bts_lt _ _⟩
  ·exact plk_le b f (j + 1)
def eso (L : List Nat) : List Nat × Nat :=
 match L with
 | [] => ([], 0)
 | b :: r =>
  if isEnd b then (if r.head?.any isEnd && r.head? != some b then ([10], 2) else ([10], 1))
  else if b = 120 then (if (dgt 2 16 r 0 0).2 = 2 then ([(IntKind.u8.wrap ((dgt 2 16 r 0 0).1 : Nat)).toNat], 3) else ([], 0))
  else if b = 122 then ([], 1 + cnt isSp r)
  else if b = 117 then (if [117, 123].isPrefixOf (b :: r) = true ∧ 0 < (dgt (b :: r).length 16 (r.drop 1) 0 0).2 ∧ (enc ((dgt (b :: r).length 16 (r.drop 1) 0 0).1 : Nat)).2 = 0 ∧ [125].isPrefixOf (r.drop (1 + (dgt (b :: r).length 16 (r.drop 1) 0 0).2)) = true then
   ((enc ((dgt (b :: r).length 16 (r.drop 1) 0 0).1 : Nat)).1, (dgt (b :: r).length 16 (r.drop 1) 0 0).2 + 3) else ([], 0))
  else if isDg b then (if (dgt 3 10 (b :: r) 0 0).1 ≤ 255 then ([(IntKind.u8.wrap ((dgt 3 10 (b :: r) 0 0).1 : Nat)).toNat], (dgt 3 10 (b :: r) 0 0).2) else ([], 0))
  else plk b 10 0
theorem eso_ok (L : List Nat) : (eso L).2 ≤ L.length ∧ (eso L).1.length ≤ 6 ∧ ∀ c ∈ (eso L).1, c < 256:=by
 have u8lt : ∀ n : Int, ∀ c ∈ [(IntKind.u8.wrap n).toNat], c < 256 := fun n c hc => by
  obtain ⟨b, h1, h2, _⟩:=u8_wrap n
  rw [List.mem_singleton.1 hc, ← h1]; exact h2
 have ten : ∀ c ∈ [10], c < 256:=fun c hc => by rw [List.mem_singleton.1 hc]; decide
 have none : ∀ c ∈ ([] : List Nat), c < 256:=fun c hc => nomatch hc
 cases L with
 | nil => exact ⟨Nat.le_refl _, by decide, none⟩
 | cons b r =>
  unfold eso
  dsimp only
  rw [List.length_cons]
  split
  ·split
   ·rename_i h
    refine ⟨?_, by decide, ten⟩
    cases r with
    | nil => simp at h
    | cons c r => simp
   ·exact ⟨by simp, by decide, ten⟩
  ·split
   ·split
    ·rename_i h
     have:=dgt_le 2 16 r 0 0
     exact ⟨by show 3 ≤ _; omega, by simp, u8lt _⟩
    ·exact ⟨Nat.zero_le _, by decide, none⟩
   ·split
    ·have := cnt_le isSp r
     exact ⟨by show 1 + _ ≤ _; omega, by simp, none⟩
    ·split
     ·split
      ·rename_i h
       have h4:=h.2.2.2
       rw [pfx_take, decide_eq_true_iff, List.length_drop] at h4
       have:=h4.1
       simp only [List.length_singleton] at this
       exact ⟨by show _ + 3 ≤ _; omega, enc_out _, enc_lt _⟩
      ·exact ⟨Nat.zero_le _, by decide, none⟩
     ·split
      ·split
       ·have := dgt_le 3 10 (b :: r) 0 0
        rw [List.length_cons] at this
        exact ⟨by show (dgt 3 10 (b :: r) 0 0).2 ≤ _; omega, by simp, u8lt _⟩
       ·exact ⟨Nat.zero_le _, by decide, none⟩
      ·have := plk_le b 10 0
       exact ⟨by omega, by omega, this.2.2⟩
theorem none_ok (H : St l h) : Tri h false l (rTI ([], 0)) (M 41 [] h):=by
 refine t0 e41 fun L => ?_
 unfold B41
 exact Tri.done (B:=[]) ⟨_, rfl, rfl, rfl, rfl⟩ H L
theorem zee_ok {s : Bs} (hs : s.n ≤ 70000) : ∀ (m k : Nat) (h : Hp) (l : List Asn), s.n - k ≤ m → k ≤ s.n → St l h →
 Tri h false l (rTI ([], ((k + cnt isSp ((bts s).drop k) : Nat) : Int))) (M 43 [.str s, .int .i64 (k : Int)] h):=by
 intro m
 induction m with
 | zero =>
  intro k h l hm hk H
  refine t2 e43 fun L => ?_
  unfold B43
  apply lS
  refine Tri.lss (fun e => by omega) (fun e => ?_)
  apply gft
  apply pF
  apply nF
  rw [bts_end (by omega)]
  exact Tri.done (B:=[]) ⟨_, rfl, rfl, rfl, rfl⟩ H L
 | succ m ih =>
  intro k h l hm hk H
  refine t2 e43 fun L => ?_
  unfold B43
  apply lS
  refine Tri.lss ?_ ?_<;>intro e
  ·have hlt : k < s.n := by omega
   rw [bts_drop hlt, cnt, wh]
   apply gtt
   refine jS (by omega) ?_
   apply Mid.bB
   refine tbe1 (sp52 H) L fun h H L => ?_
   apply bS
   apply pT
   rw [show ((k : Int)).toNat = k from rfl]
   cases h1 : isSp (s.byte k) with
   | true =>
    apply nT
    refine aD (by omega) ?_
    show Tri _ false l (rTI ([], ((k + (cnt isSp ((bts s).drop (k + 1)) + 1) : Nat) : Int))) _
    rw [show k + (cnt isSp ((bts s).drop (k + 1)) + 1) = k + 1 + cnt isSp ((bts s).drop (k + 1)) by omega]
    exact te (ih (k + 1) h l (by omega) (by omega) H) L
   | false =>
    apply nF
    exact Tri.done (B:=[]) ⟨_, rfl, rfl, rfl, rfl⟩ H L
  ·apply gft
   apply pF
   apply nF
   rw [bts_end (by omega)]
   exact Tri.done (B:=[]) ⟨_, rfl, rfl, rfl, rfl⟩ H L
theorem plk_ok {s : Bs} (hn : 0 < s.n) : ∀ (f j : Nat) (h : Hp) (l : List Asn), j + f = 10 → St l h → ∀ X, X = plk (s.byte 0) f j →
 Tri h false l (rTI (X.1, (X.2 : Int))) (M 45 [.str s, .int .i64 ((2 * j : Nat) : Int)] h):=by
 intro f
 induction f with
 | zero =>
  intro j h l hj H X hX
  refine t2 e45 fun L => ?_
  unfold B45
  refine Tri.lss (fun e => by omega) (fun e => ?_)
  apply nF
  subst hX
  exact te (none_ok H) L
 | succ f ih =>
  intro j h l hj H X hX
  refine t2 e45 fun L => ?_
  unfold B45
  rw [plk] at hX
  refine Tri.lss (fun e => ?_) (fun e => by omega)
  have hPL : PL.n = 20:=rfl
  rw [show (⟨20, 194867322317691132958510344948545282249320433505⟩ : Bs) = PL from rfl]
  generalize PL = P at hX hPL
  apply nT
  refine iS (by omega) ?_
  refine iS (by omega) ?_
  refine Tri.eql ?_ ?_<;>intro e2
  ·rw [if_pos (by exact Int.ofNat.inj e2)] at hX
   subst hX
   apply nT
   refine aD (by omega) ?_
   refine aD (by omega) ?_
   refine cB (by omega) fun z23 nz23 ez23 => ?_
   have e23 : bts z23 = [P.byte (2 * j + 1)]:=by
    rw [ez23, show (((2 * j : Nat) : Int) + 2).toNat - (((2 * j : Nat) : Int) + 1).toNat = 1 by omega, show (((2 * j : Nat) : Int) + 1).toNat = 2 * j + 1 by omega, bts_drop (by omega)]; rfl
   exact Tri.done (B:=[]) ⟨z23, by rw [← bts_len, e23], e23, rfl, rfl⟩ H L
  ·rw [if_neg (show ¬ P.byte (2 * j) = s.byte 0 from fun c => e2 (congrArg Int.ofNat c))] at hX
   apply nF
   refine aD (by omega) ?_
   rw [show ((2 * j : Nat) : Int) + 2 = ((2 * (j + 1) : Nat) : Int) by omega]
   exact te (ih (j + 1) h l (by omega) H X hX) L
theorem isEnd_iff {b : Nat} : isEnd b = true ↔ b = 10 ∨ b = 13:=by unfold isEnd; rw [Bool.or_eq_true, beq_iff_eq, beq_iff_eq]
theorem Tri.endS {s : Bs} {R : V → Hp → VH} (hn : 0 < s.n) (hk : Tri h0 ro F Q (R (.bool (isEnd (s.byte 0))) h)) : Tri h0 ro F Q (intS .eql (.int .u8 (s.byte 0 : Nat)) (.int .u8 10) fun v2 =>
 guardS v2 false (idxStr (.str s) (.int .i64 0) fun v3 => intS .eql v3 (.int .u8 13) fun v4 => some (v4, h)) h fun v5 h6 => optS (pickV v2 (.bool true) v5) fun v7 => R v7 h6):=by
 unfold isEnd at hk
 refine Tri.eql ?_ ?_<;>intro e
 ·rw [show s.byte 0 = 10 from Int.ofNat.inj e] at hk
  exact hk
 ·rw [show (s.byte 0 == 10) = false by simp; exact fun c => e (congrArg Int.ofNat c)] at hk
  refine Tri.eqv (bind_idxStr _ _) (Tri.idxStr (by decide) (by omega) (Tri.eqv (bind_intS _ _) (Tri.eql (fun e2 => ?_) (fun e2 => ?_))))
  ·rw [show s.byte 0 = 13 from Int.ofNat.inj e2] at hk
   exact hk
  ·rw [show (s.byte 0 == 13) = false by simp; exact fun c => e2 (congrArg Int.ofNat c)] at hk
   exact hk
theorem Tri.byteS {n : Int} {R : V → Hp → VH} (H : St l h) (L : Lo ro h0 h) (hk : ∀ z h', z.n = 1 → bts z = [(IntKind.u8.wrap n).toNat] → St l h' → Lo ro h0 h' → Tri h0 ro F Q (R (.str z) h')) :
 Tri h0 ro F Q (convI .u8 (.int .i64 n) fun v43 => bindS (bldSl h [(0, v43)] 5 1 1 (.int .u8 0)) fun v44 h45 => bindS (vh h45 (b2s h45 v44)) fun v46 h47 => R v46 h47):=by
 refine Tri.conv (Tri.bld (e:=_) (s:=_) H L rfl rfl fun b h hb H L => ?_)
 obtain ⟨c, h1, h2, h3⟩:=u8_wrap n
 rw [h3] at H
 have hc : ∀ x ∈ [c], x < 256:=fun x hx => by rw [List.mem_singleton.1 hx]; exact h2
 rw [St.vc_bytes (L:=[c]) (i:=0) H rfl hc]
 exact Tri.bs (hk _ h (by rw [pack_n]; rfl) (by rw [← h1]; exact bts_of hc) H.tl L)
theorem sp170 {s : Bs} (hs : s.n ≤ 70000) (H : St l h) : Tri h false l (rTI ((eso (bts s)).1, ((eso (bts s)).2 : Int))) (M 170 [.str s] h):=by
 generalize hX : eso (bts s) = X
 have ih41:=@none_ok
 have ih104:=@sp104
 have ih238:=@sp238
 refine t1 e170 fun L => ?_
 unfold B170
 refine Tri.strEqL ?_
 cases he : decide (bts s = bts ⟨0, 0⟩) with
 | true =>
  have h0 : bts s = []:=of_decide_eq_true he
  rw [h0] at hX
  subst hX
  apply nT
  exact Tri.done (B:=[]) ⟨_, rfl, rfl, rfl, rfl⟩ H L
 | false =>
  have hn:=nz he
  have hb : bts s = s.byte 0 :: (bts s).drop 1:=by rw [← bts_drop hn]; rfl
  rw [hb] at hX
  unfold eso at hX
  dsimp only at hX
  rw [← hb] at hX
  apply nF
  refine iS (by omega) ?_
  rw [show Int.toNat 0 = 0 from rfl]
  refine Tri.endS hn ?_
  cases h1 : isEnd (s.byte 0) with
  | true =>
   rw [h1, if_pos rfl] at hX
   have one : ∀ {h0 h : Hp}, X = ([10], 1) → St l h → Lo false h0 h → Tri h0 false l (rTI (X.1, (X.2 : Int))) (some (.tuple [.str ⟨1, 10⟩, .int .i64 1], h)) := fun e H L => by
    subst e; exact Tri.done (B:=[]) ⟨_, rfl, rfl, rfl, rfl⟩ H L
   apply nT
   apply lS
   refine Tri.gtr ?_ ?_<;>intro e2
   ·have hd : ((bts s).drop 1).head? = some (s.byte 1) := by rw [bts_drop (show 1 < s.n by omega)]; rfl
    rw [hd, Option.any_some] at hX
    apply gtt
    apply bS
    apply gtt
    refine jS (by omega) ?_
    apply bS
    apply gtt
    apply bI
    rw [show Int.toNat 1 = 1 from rfl]
    have two : isEnd (s.byte 1) = true → s.byte 1 ≠ s.byte 0 → X = ([10], 2) := fun a b => by
     rw [← hX, a, if_pos (by simpa using b)]
    have two' : isEnd (s.byte 1) = false ∨ s.byte 1 = s.byte 0 → X = ([10], 1) := fun a => by
     rw [← hX, if_neg (by rcases a with a | a <;> simp [a])]
    refine Tri.eql ?_ ?_<;>intro e5
    ·have e5' : isEnd (s.byte 1) = true := isEnd_iff.2 (.inl (Int.ofNat.inj e5))
     apply bS
     apply gtt
     apply bS
     apply gtf
     apply gtf
     apply gtf
     apply gtt
     apply bO
     apply pT
     apply bS
     apply pT
     apply gtt
     apply bS
     apply gtt
     refine jS (by omega) ?_
     apply bS
     apply gtt
     apply bS
     apply gtt
     refine jS (by omega) ?_
     apply bS
     apply gtt
     apply bI
     rw [show Int.toNat 1 = 1 from rfl, show Int.toNat 0 = 0 from rfl]
     refine Tri.neq ?_ ?_<;>intro e6
     ·apply bS
      apply pT
      apply nT
      obtain rfl:=two e5' (fun c => e6 (congrArg Int.ofNat c))
      exact Tri.done (B:=[]) ⟨_, rfl, rfl, rfl, rfl⟩ H L
     ·apply bS
      apply pT
      apply nF
      exact one (two' (.inr (Int.ofNat.inj e6))) H L
    ·apply bS
     apply gtt
     apply bS
     apply gff
     apply bS
     apply gff
     refine jS (by omega) ?_
     apply bS
     apply gff
     apply bI
     rw [show Int.toNat 1 = 1 from rfl]
     refine Tri.eql ?_ ?_<;>intro e6
     ·have e6' : isEnd (s.byte 1) = true := isEnd_iff.2 (.inr (Int.ofNat.inj e6))
      apply bS
      apply gtt
      apply bO
      apply pF
      apply bS
      apply pT
      apply gtt
      apply bS
      apply gtt
      refine jS (by omega) ?_
      apply bS
      apply gtt
      apply bS
      apply gtt
      refine jS (by omega) ?_
      apply bS
      apply gtt
      apply bI
      rw [show Int.toNat 1 = 1 from rfl, show Int.toNat 0 = 0 from rfl]
      refine Tri.neq ?_ ?_<;>intro e7
      ·apply bS
       apply pT
       apply nT
       obtain rfl:=two e6' (fun c => e7 (congrArg Int.ofNat c))
       exact Tri.done (B:=[]) ⟨_, rfl, rfl, rfl, rfl⟩ H L
      ·apply bS
       apply pT
       apply nF
       exact one (two' (.inr (Int.ofNat.inj e7))) H L
     ·apply bS
      apply gtt
      apply bO
      apply pF
      apply bS
      apply pT
      iterate 5 apply gft
      apply pF
      apply nF
      refine one (two' (.inl ?_)) H L
      rw [Bool.eq_false_iff]
      exact fun c => (isEnd_iff.1 c).elim (fun c => e5 (congrArg Int.ofNat c)) (fun c => e6 (congrArg Int.ofNat c))
   ·rw [bts_end (show s.n ≤ 1 by omega)] at hX
    iterate 4 apply gft
    apply gu
    apply gu
    apply gu
    apply gft
    apply pF
    iterate 5 apply gft
    apply pF
    apply nF
    exact one (by rw [← hX]; rfl) H L
  | false =>
   rw [h1, if_neg (by decide)] at hX
   apply nF
   refine iS (by omega) ?_
   rw [show Int.toNat 0 = 0 from rfl]
   refine Tri.eql ?_ ?_<;>intro e2
   ·rw [if_pos (Int.ofNat.inj e2)] at hX
    apply nT
    refine Tri.cutLo (by omega) (by omega) fun z121 nz121 ez121 => ?_
    refine tbe1 (sp236 (by first|assumption|omega|rfl|(dsimp;omega)) (by first|assumption|omega|rfl|(dsimp;omega)) (by first|assumption|omega|rfl|(dsimp;omega)) H) L fun h H L => ?_
    refine Tri.ext rfl ?_
    refine Tri.ext rfl ?_
    have ez : bts z121 = (bts s).drop 1:=ez121
    rw [ez]
    refine Tri.eql ?_ ?_<;>intro e3
    ·have e3' : (dgt 2 16 ((bts s).drop 1) 0 0).2 = 2 := Int.ofNat.inj e3
     rw [if_pos e3'] at hX
     subst hX
     refine Tri.ift (Tri.byteS H L fun z h hz e H L => ?_)
     exact Tri.done (B:=[]) ⟨z, hz, e, rfl, rfl⟩ H L
    ·have e3' : ¬ (dgt 2 16 ((bts s).drop 1) 0 0).2 = 2 := fun c => e3 (congrArg Int.ofNat c)
     rw [if_neg e3'] at hX
     subst hX
     apply nF
     refine te (ih41 H) L
   ·rw [if_neg (show ¬ s.byte 0 = 120 from fun c => e2 (congrArg Int.ofNat c))] at hX
    apply nF
    refine iS (by omega) ?_
    rw [show Int.toNat 0 = 0 from rfl]
    refine Tri.eql ?_ ?_<;>intro e3
    ·rw [if_pos (Int.ofNat.inj e3)] at hX
     apply nT
     subst hX
     exact te (zee_ok hs s.n 1 h l (by omega) (by omega) H) L
    ·rw [if_neg (show ¬ s.byte 0 = 122 from fun c => e3 (congrArg Int.ofNat c))] at hX
     apply nF
     refine iS (by omega) ?_
     rw [show Int.toNat 0 = 0 from rfl]
     refine Tri.eql ?_ ?_<;>intro e4
     ·rw [if_pos (show s.byte 0 = 117 from Int.ofNat.inj e4)] at hX
      apply nT
      refine tbe1 (ih104 (by first|assumption|omega|rfl|(dsimp;omega)) (by first|assumption|omega|rfl|(dsimp;omega)) H) L fun h H L => ?_
      refine Tri.not ?_
      rw [show bts ⟨2, 31605⟩ = [117, 123] from rfl]
      cases h2 : [117, 123].isPrefixOf (bts s) with
      | false =>
       rw [if_neg (fun c => by rw [h2] at c; exact nomatch c.1)] at hX
       subst hX
       apply nT
       refine te (ih41 H) L
      | true =>
       have hn2 : 2 ≤ s.n:=by rw [pfx_take, decide_eq_true_iff, bts_len] at h2; exact h2.1
       apply nF
       refine Tri.cutLo (by omega) (by omega) fun z211 nz211 ez211 => ?_
       apply lS
       refine tbe1 (sp236 (by first|assumption|omega|rfl|(dsimp;omega)) (by first|assumption|omega|rfl|(dsimp;omega)) (by first|assumption|omega|rfl|(dsimp;omega)) H) L fun h H L => ?_
       refine Tri.ext rfl ?_
       refine Tri.ext rfl ?_
       refine Mid.tb (ih238 H) L fun v h B hq218 H L => ?_
       obtain ⟨z218, nz218, ez218, rfl, rfl⟩:=hq218
       refine Tri.ext rfl ?_
       refine Tri.ext rfl ?_
       have ez : bts z211 = (bts s).drop 2:=ez211
       rw [ez] at nz218 ez218 ⊢
       rw [bts_len] at hX
       simp only [List.drop_drop] at hX
       rw [show 1 + 1 = 2 from rfl] at hX
       obtain ⟨D, hD⟩ : ∃ D, dgt s.n 16 ((bts s).drop 2) 0 0 = D:=⟨_, rfl⟩
       have hD2:=dgt_le s.n 16 ((bts s).drop 2) 0 0
       rw [hD] at hX nz218 ez218 hD2 ⊢
       rw [List.length_drop, bts_len] at hD2
       obtain ⟨D1, D2⟩:=D
       dsimp only at hX nz218 ez218 hD2 ⊢
       refine Tri.gtr ?_ ?_<;>intro e5
       ·apply gtt
        apply bI
        refine Tri.eql ?_ ?_<;>intro e6
        ·apply bS
         apply pT
         apply gtt
         apply bI
         refine aD (by omega) ?_
         refine Tri.eqv (bind_slStrK _ _ _ _ _) ?_
         refine Tri.cutLo (by omega) (by omega) fun z236 nz236 ez236 => ?_
         apply Mid.bB
         refine tbe1 (ih104 (by first|assumption|omega|rfl|(dsimp;omega)) (by first|assumption|omega|rfl|(dsimp;omega)) H) L fun h H L => ?_
         apply bS
         apply pT
         have e236 : bts z236 = (bts s).drop (1 + (1 + D2)):=by rw [ez236, show ((2 : Int) + (D2 : Int)).toNat = 1 + (1 + D2) by omega]
         rw [e236, show bts ⟨1, 125⟩ = [125] from rfl]
         cases h3 : [125].isPrefixOf ((bts s).drop (1 + (1 + D2))) with
         | true =>
          rw [if_pos ⟨h2, by omega, e6, h3⟩] at hX
          subst hX
          apply nT
          refine aD (by omega) ?_
          exact Tri.done (B:=[]) ⟨z218, nz218, ez218, rfl, rfl⟩ H L
         | false =>
          rw [if_neg (fun c => by rw [h3] at c; exact nomatch c.2.2.2)] at hX
          subst hX
          apply nF
          refine te (ih41 H) L
        ·rw [if_neg (fun c => e6 c.2.2.1)] at hX
         subst hX
         apply bS
         apply pT
         apply gft
         apply pF
         apply nF
         refine te (ih41 H) L
       ·rw [if_neg (fun c => by have := c.2.1; omega)] at hX
        subst hX
        apply gft
        apply pF
        apply gft
        apply pF
        apply nF
        refine te (ih41 H) L
     ·rw [if_neg (show ¬ s.byte 0 = 117 from fun c => e4 (congrArg Int.ofNat c))] at hX
      apply nF
      refine iS (by omega) ?_
      refine tbe1 (sp90 H) L fun h H L => ?_
      rw [show Int.toNat 0 = 0 from rfl]
      cases h2 : isDg (s.byte 0) with
      | true =>
       rw [h2, if_pos rfl] at hX
       apply nT
       refine tbe1 (sp236 (by first|assumption|omega|rfl|(dsimp;omega)) (by first|assumption|omega|rfl|(dsimp;omega)) (by first|assumption|omega|rfl|(dsimp;omega)) H) L fun h H L => ?_
       refine Tri.ext rfl ?_
       refine Tri.ext rfl ?_
       refine Tri.leq ?_ ?_<;>intro e5
       ·have e5' : (dgt 3 10 (bts s) 0 0).1 ≤ 255 := Int.ofNat_le.1 e5
        rw [if_pos e5'] at hX
        subst hX
        refine Tri.ift (Tri.byteS H L fun z h hz e H L => ?_)
        exact Tri.done (B:=[]) ⟨z, hz, e, rfl, rfl⟩ H L
       ·have e5' : ¬ (dgt 3 10 (bts s) 0 0).1 ≤ 255 := fun c => absurd e5 (Int.not_lt.2 (Int.ofNat_le.2 c))
        rw [if_neg e5'] at hX
        subst hX
        apply nF
        refine te (ih41 H) L
      | false =>
       rw [h2, if_neg (by decide)] at hX
       apply nF
       exact te (plk_ok hn 10 0 h l rfl H X hX.symm) L
def unl : Nat → Nat → List Nat → List Nat → Option (List Nat)
 | 0, _, _, _ => none
 | _ + 1, _, [], _ => none
 | f + 1, q, b :: r, acc => if b = q then (if r = [] then some acc else none) else if isEnd b then none
  else if b = 92 then (if (eso r).2 = 0 then none else unl f q (r.drop (eso r).2) (acc ++ (eso r).1)) else unl f q r (acc ++ [b])
def resU : Option (List Nat) → List Nat × Int
 | some Y => (Y, 0)
 | none => ([], 30)
def unq (L : List Nat) : Option (List Nat):=if L.length < 2 ∨ (L.headD 0 ≠ 34 ∧ L.headD 0 ≠ 39) then none else unl L.length (L.headD 0) (L.drop 1) []
theorem unq_len {L : List Nat} (h : (resU (unq L)).2 = 0) : 2 ≤ L.length:=by
 unfold unq at h
 split at h
 ·cases h
 ·omega
theorem lt_app {A B : List Nat} (h1 : ∀ b ∈ A, b < 256) (h2 : ∀ b ∈ B, b < 256) : ∀ b ∈ A ++ B, b < 256:=fun b hb => (List.mem_append.1 hb).elim (h1 b) (h2 b)
theorem Tri.endI {b : Nat} {R : V → Hp → VH} (hk : Tri h0 ro F Q (R (.bool (isEnd b)) h)) : Tri h0 ro F Q (intS .eql (.int .u8 (b : Int)) (.int .u8 10) fun v2 =>
 guardS v2 false (intS .eql (.int .u8 (b : Int)) (.int .u8 13) fun v4 => some (v4, h)) h fun v5 h6 => optS (pickV v2 (.bool true) v5) fun v7 => R v7 h6):=by
 unfold isEnd at hk
 refine Tri.eql ?_ ?_<;>intro e
 ·rw [show b = 10 from Int.ofNat.inj e] at hk
  exact hk
 ·rw [show (b == 10) = false by simp; exact fun c => e (congrArg Int.ofNat c)] at hk
  change Tri h0 ro F Q (bindS (intS .eql (.int .u8 (b : Int)) (.int .u8 13) fun v4 => some (v4, h)) fun v5 h6 => optS (pickV (.bool false) (.bool true) v5) fun v7 => R v7 h6)
  refine Tri.eqv (bind_intS _ _) (Tri.eql (fun e2 => ?_) (fun e2 => ?_))
  ·rw [show b = 13 from Int.ofNat.inj e2] at hk
   exact hk
  ·rw [show (b == 13) = false by simp; exact fun c => e2 (congrArg Int.ofNat c)] at hk
   exact hk
theorem unl_ok {s : Bs} {bb : Nat} (hs : s.n ≤ 70000) : ∀ (f i : Nat) (Y : List Nat) (h : Hp) (l : List Asn), s.n - i < f → 1 ≤ i → i ≤ s.n → Y.length ≤ 6 * i → (∀ b ∈ Y, b < 256) → St (BD bb Y :: l) h →
 ∀ X, unl f (s.byte 0) ((bts s).drop i) Y = X → Tri h false l (rTI (resU X)) (M 33 [.str s, .ptr bb 0, .int .i64 (i : Int)] h):=by
 have ih31 : ∀ (i : Nat) (Y : List Nat) (h : Hp) (l : List Asn), 1 ≤ i → i ≤ s.n → Y.length ≤ 6 * i → (∀ b ∈ Y, b < 256) → St (BD bb Y :: l) h →
  ∀ X, (if i + 1 = s.n then some Y else none) = X → Tri h false l (rTI (resU X)) (M 31 [.str s, .ptr bb 0, .int .i64 (i : Int)] h):=by
  intro i Y h l h1 hi hY hb H X hX
  refine t3 e31 fun L => ?_
  unfold B31
  apply lS
  refine Tri.subN (by omega) (by omega) ?_
  refine Tri.neq ?_ ?_<;>intro e
  ·rw [if_neg (by omega)] at hX
   subst hX
   apply nT
   exact Tri.done (B:=[]) ⟨_, rfl, rfl, rfl, rfl⟩ H.tl L
  ·rw [if_pos (by omega)] at hX
   subst hX
   apply nF
   refine Mid.tb (sp146 (by first|assumption|omega|rfl|(dsimp;omega)) (by first|assumption|omega|rfl|(dsimp;omega)) H) L fun v h B hq41 H L => ?_
   obtain ⟨z41, nz41, ez41, rfl, rfl⟩:=hq41
   exact Tri.done (B:=[]) ⟨z41, nz41, ez41, rfl, rfl⟩ H L
 intro f
 induction f with
 | zero => intro i Y h l hf; omega
 | succ f ih =>
  intro i Y h l hf h1 hi hY hb H X hX
  refine t3 e33 fun L => ?_
  unfold B33
  apply lS
  refine Tri.lss ?_ ?_<;>intro e
  ·have hlt : i < s.n := by omega
   rw [bts_drop hlt, unl] at hX
   apply nT
   refine iS (by omega) ?_
   refine iS (by omega) ?_
   rw [show ((i : Int)).toNat = i from rfl, show Int.toNat 0 = 0 from rfl]
   refine Tri.eql ?_ ?_<;>intro e1
   ·rw [if_pos (Int.ofNat.inj e1)] at hX
    apply nT
    refine te (ih31 i Y h l h1 hi hY hb H X ?_) L
    rw [← hX]
    by_cases c : i + 1 = s.n
    ·rw [if_pos c, if_pos (bts_end (by omega))]
    ·rw [if_neg c, if_neg (by rw [bts_drop (show i + 1 < s.n by omega)]; exact List.cons_ne_nil _ _)]
   ·rw [if_neg (show ¬ s.byte i = s.byte 0 from fun c => e1 (congrArg Int.ofNat c))] at hX
    apply nF
    refine Tri.endI ?_
    cases h2 : isEnd (s.byte i) with
    | true =>
     rw [h2, if_pos rfl] at hX
     subst hX
     apply nT
     exact Tri.done (B:=[]) ⟨_, rfl, rfl, rfl, rfl⟩ H.tl L
    | false =>
     rw [h2, if_neg (by decide)] at hX
     apply nF
     refine Tri.eql ?_ ?_<;>intro e2
     ·rw [if_pos (show s.byte i = 92 from Int.ofNat.inj e2)] at hX
      apply nT
      refine aD (by omega) ?_
      refine Tri.cutLo (by omega) (by omega) fun z122 nz122 ez122 => ?_
      refine Mid.tb (sp170 (by first|assumption|omega|rfl|(dsimp;omega)) H) L fun v h B hq123 H L => ?_
      obtain ⟨z123, nz123, ez123, rfl, rfl⟩:=hq123
      refine Tri.ext rfl ?_
      refine Tri.ext rfl ?_
      have e122 : bts z122 = (bts s).drop (i + 1):=by rw [ez122]; rfl
      have hE:=eso_ok ((bts s).drop (i + 1))
      rw [e122] at nz123 ez123 ⊢
      rw [List.length_drop, bts_len] at hE
      generalize eso ((bts s).drop (i + 1)) = E at hE hX nz123 ez123 ⊢
      obtain ⟨E1, E2⟩:=E
      dsimp only at hE hX nz123 ez123 ⊢
      obtain ⟨hE1, hE2, hE3⟩:=hE
      refine Tri.eql ?_ ?_<;>intro e3
      ·rw [if_pos (show E2 = 0 from Int.ofNat.inj e3)] at hX
       subst hX
       apply nT
       exact Tri.done (B:=[]) ⟨_, rfl, rfl, rfl, rfl⟩ H.tl L
      ·rw [if_neg (show ¬ E2 = 0 from fun c => e3 (congrArg Int.ofNat c)), List.drop_drop] at hX
       apply nF
       refine tbe (sp144 (by omega) (by omega) H) L fun h H L => ?_
       rw [ez123] at H
       refine aD (by omega) ?_
       refine aD (by omega) ?_
       rw [show (i : Int) + ((E2 : Int) + 1) = ((i + 1 + E2 : Nat) : Int) by omega]
       exact te (ih (i + 1 + E2) (Y ++ E1) h l (by omega) (by omega) (by omega) (by rw [List.length_append]; omega) (lt_app hb hE3) H X hX) L
     ·rw [if_neg (show ¬ s.byte i = 92 from fun c => e2 (congrArg Int.ofNat c))] at hX
      apply nF
      refine tbe (sp142 (by first|assumption|omega|rfl|(dsimp;omega)) H) L fun h H L => ?_
      refine aD (by omega) ?_
      exact te (ih (i + 1) (Y ++ [s.byte i]) h l (by omega) (by omega) (by omega) (by rw [List.length_append, List.length_singleton]; omega) (lt_app hb (fun b hb => by rw [List.mem_singleton.1 hb]; exact bts_lt _ _)) H X hX) L
  ·rw [bts_end (by omega), unl] at hX
   apply nF
   refine te (ih31 i Y h l h1 hi hY hb H X ?_) L
   rw [← hX, if_neg (by omega)]
theorem sp102 {s : Bs} (hs : s.n ≤ 70000) (H : St l h) : Tri h false l (rTI (resU (unq (bts s)))) (M 102 [.str s] h):=by
 refine t1 e102 fun L => ?_
 unfold B102
 generalize hX : unq (bts s) = X
 unfold unq at hX
 rw [bts_len] at hX
 apply lS
 refine Tri.lss ?_ ?_<;>intro e
 ·rw [if_pos (.inl (by omega))] at hX
  subst hX
  apply gtf
  apply gu
  apply gtf
  apply pT
  apply nT
  exact Tri.done (B:=[]) ⟨_, rfl, rfl, rfl, rfl⟩ H L
 ·have hh : (bts s).headD 0 = s.byte 0 := by rw [← List.drop_zero (l := bts s), bts_drop (by omega)]; rfl
  rw [hh] at hX
  have go : ∀ {h h0 : Hp}, s.byte 0 = 34 ∨ s.byte 0 = 39 → St l h → Lo false h0 h → Tri h0 false l (rTI (resU X)) (newS 91 [.nilPtr, .nilSlice] h fun v15 h16 => M 33 [.str s, v15, .int .i64 1] h16):=by
   intro h h0 hq H L
   rw [if_neg (fun c => by omega)] at hX
   refine newB H L fun b h hb H L => ?_
   exact te (unl_ok hs s.n 1 [] h l (by omega) (by omega) (by omega) (by simp) (fun b hb => nomatch hb) H X hX) L
  apply gff
  refine jS (by omega) ?_
  apply bI
  rw [show Int.toNat 0 = 0 from rfl]
  refine Tri.neq ?_ ?_<;>intro e1
  ·apply bS
   apply gtt
   refine jS (by omega) ?_
   apply bI
   rw [show Int.toNat 0 = 0 from rfl]
   refine Tri.neq ?_ ?_<;>intro e2
   ·rw [if_pos (.inr ⟨fun c => e1 (congrArg Int.ofNat c), fun c => e2 (congrArg Int.ofNat c)⟩)] at hX
    subst hX
    apply bS
    apply gff
    apply bO
    apply pT
    apply bS
    apply pF
    apply nT
    exact Tri.done (B:=[]) ⟨_, rfl, rfl, rfl, rfl⟩ H L
   ·refine Tri.eqv rfl (go (.inr (Int.ofNat.inj e2)) H L)
  ·refine Tri.eqv rfl (go (.inl (Int.ofNat.inj e1)) H L)
def WD : Bs:=⟨113, 17114727619812652865831592289240362729846247184396431686340976947246213244203127547449191376236204538493561187876213366597712742219312077217799013184980281018523815296416470444940759774119422513229535319500938016196420794042916494387837719131367459550913945883633037238560⟩
def wrd (L : List Nat) : Bool:=!decide (L = []) && (!hasB (L.map UInt8.ofNat) (Bs.l ⟨1, 32⟩) && hasB WD.l (([32] ++ L ++ [32]).map UInt8.ofNat))
theorem sp24 {s : Bs} (hs : s.n ≤ 70000) (H : St l h) : Tri h true l (rNo (.bool (wrd (bts s)))) (M 24 [.str s] h):=by
 refine t1 e24 fun L => ?_
 unfold B24
 rw [show (⟨113, 17114727619812652865831592289240362729846247184396431686340976947246213244203127547449191376236204538493561187876213366597712742219312077217799013184980281018523815296416470444940759774119422513229535319500938016196420794042916494387837719131367459550913945883633037238560⟩ : Bs) = WD from rfl]
 have hWD : WD.n = 113:=rfl
 have eWD : (bts WD).map UInt8.ofNat = WD.l:=(l_bts WD).symm
 unfold wrd
 generalize WD = W at hWD eWD ⊢
 refine Tri.strNeL ?_
 rw [show bts ⟨0, 0⟩ = [] from rfl]
 cases h1 : decide (bts s = []) with
 | true =>
  apply gft
  apply pF
  apply gft
  apply pF
  exact dn H L
 | false =>
  apply gtt
  apply Mid.bB
  refine tbe1 (sp58 (by first|assumption|omega|rfl|(dsimp;omega)) H) L fun h H L => ?_
  refine Tri.eqv (bind_notS _ _) ?_
  refine Tri.not ?_
  apply bS
  apply pT
  cases h2 : hasB ((bts s).map UInt8.ofNat) (Bs.l ⟨1, 32⟩) with
  | true =>
   apply gft
   apply pF
   exact dn H L
  | false =>
   apply gtt
   refine Tri.eqv (bind_strS _ _) ?_
   refine Tri.strCat (by simp only [*]; omega) fun z82 nz82 ez82 => ?_
   refine Tri.eqv (bind_strS _ _) ?_
   refine Tri.strCat (by simp only [*]; omega) fun z84 nz84 ez84 => ?_
   apply Mid.bB
   refine tbe1 (sp58 (by first|assumption|omega|rfl|(dsimp;omega)) H) L fun h H L => ?_
   apply bS
   apply pT
   rw [eWD, l_bts z84, ez84, ez82]
   exact dn H L
structure Tk where
 k : Int
 z : List Nat
 N : Int
 n : Nat
 e : Int
def sgL : List Bs:=sgB.filterMap fun v => match v with | .str z => some z | _ => none
theorem sg_eq : sgB = sgL.map V.str:=rfl
theorem sg_len : sgL.length = 31:=rfl
theorem sg_max : ∀ z ∈ sgL, 1 ≤ z.n ∧ z.n ≤ 3:=by
 have h : sgL.all (fun z => Nat.ble 1 z.n && Nat.ble z.n 3) = true:=by kernel_rfl
 intro z hz
 have:=List.all_eq_true.1 h z hz
 rw [Bool.and_eq_true] at this
 exact ⟨Nat.le_of_ble_eq_true this.1, Nat.le_of_ble_eq_true this.2⟩
def sgn (L : List Nat) : List Bs → Tk
 | [] => ⟨0, [], 0, 0, if L.headD 0 = 47 ∨ L.headD 0 = 94 then 31 else 30⟩
 | z :: r => if (bts z).isPrefixOf L then ⟨3, bts z, 0, z.n, 0⟩ else sgn L r
abbrev SG (sb : Nat) : Asn:=vc false (.slice sb 0 31 31 false) 9 1 sgB
abbrev sgV (sb : Nat) : V:=.slice sb 0 31 31 false
def rTk (rb : Nat) (c : List V) (sb : Nat) (t : Tk) : V → List Asn → Prop:=fun w B => ∃ z : Bs, z.n = t.z.length ∧ bts z = t.z ∧ w = .tuple [tokV t.k z t.N 0, .int .i64 (t.n : Nat), .int .i64 t.e] ∧ B = [Mid.row rb c, SG sb]
theorem sgn_ok {rb b0 sb a ln : Nat} {s : Bs} (hs : s.n ≤ 70000) (ha : a < s.n) : ∀ (m i : Nat) (h : Hp) (l : List Asn), i + m = 31 → St (Mid.row rb (rc s a ln (sgV sb)) :: Mid.row b0 [.int .u8 0, .str ⟨0, 0⟩, .int .i64 0, .int .i64 0] :: SG sb :: l) h →
 ∀ X, sgn ((bts s).drop a) (sgL.drop i) = X → Tri h false l (rTk rb (rc s a ln (sgV sb)) sb X) (M 23 [.ptr rb 0, .ptr b0 0, .int .u8 (s.byte a : Nat), sgV sb, .int .i64 31, .int .i64 (i : Int)] h):=by
 intro m
 induction m with
 | zero =>
  intro i h l hi H X hX
  refine t6 e23 fun L => ?_
  unfold B23
  skip
  refine Tri.lss (fun e => by omega) (fun e => ?_)
  rw [show sgL.drop i = [] from List.drop_eq_nil_of_le (by rw [sg_len]; omega), sgn, bts_drop ha, List.headD_cons] at hX
  apply nF
  refine Tri.eql ?_ ?_<;>intro e1
  ·rw [if_pos (.inl (Int.ofNat.inj e1))] at hX
   subst hX
   apply gtf
   apply pT
   apply nT
   refine Tri.bldS rfl ?_
   refine wl0 1 H rfl rfl rfl L (by first|rfl|assumption) fun h H L => ?_
   exact Tri.done (B:=[_, _]) ⟨⟨0, 0⟩, rfl, rfl, rfl, rfl⟩ H.x1 L
  ·apply gff
   apply bI
   refine Tri.eql ?_ ?_<;>intro e2
   ·rw [if_pos (.inr (Int.ofNat.inj e2))] at hX
    subst hX
    apply bS
    apply pF
    apply nT
    refine Tri.bldS rfl ?_
    refine wl0 1 H rfl rfl rfl L (by first|rfl|assumption) fun h H L => ?_
    exact Tri.done (B:=[_, _]) ⟨⟨0, 0⟩, rfl, rfl, rfl, rfl⟩ H.x1 L
   ·rw [if_neg (fun c => c.elim (fun c => e1 (congrArg Int.ofNat c)) (fun c => e2 (congrArg Int.ofNat c)))] at hX
    subst hX
    apply bS
    apply pF
    apply nF
    refine Tri.bldS rfl ?_
    refine wl0 1 H rfl rfl rfl L (by first|rfl|assumption) fun h H L => ?_
    exact Tri.done (B:=[_, _]) ⟨⟨0, 0⟩, rfl, rfl, rfl, rfl⟩ H.x1 L
 | succ m ih =>
  intro i h l hi H X hX
  refine t6 e23 fun L => ?_
  unfold B23
  refine Tri.lss (fun e => ?_) (fun e => by omega)
  have hlt : i < sgL.length:=by rw [sg_len]; omega
  rw [List.drop_eq_getElem_cons hlt, sgn] at hX
  have hz:=sg_max _ (List.getElem_mem hlt)
  have hc : sgB[i]? = some (.str sgL[i]):=by rw [sg_eq, List.getElem?_map, List.getElem?_eq_getElem hlt]; rfl
  generalize sgL[i] = z at hX hz hc
  refine Tri.ift (Tri.idx (by omega) (by omega) ?_)
  refine Tri.loadV (i:=2) H rfl (w:=.str z) (by rw [show 0 + ((i : Int)).toNat * 1 = i by rw [Int.toNat_natCast]; omega]; exact hc) ?_
  refine tbe1 (sp84 (by first|assumption|omega|rfl|(dsimp;omega)) (by first|assumption|omega|rfl|(dsimp;omega)) (by first|assumption|omega|rfl|(dsimp;omega)) H) L fun h H L => ?_
  cases hp : (bts z).isPrefixOf ((bts s).drop a) with
  | true =>
   rw [hp, if_pos rfl] at hX
   subst hX
   apply nT
   refine Tri.bldS rfl ?_
   apply lS
   refine wl0 1 H rfl rfl rfl L (by first|rfl|assumption) fun h H L => ?_
   exact Tri.done (B:=[_, _]) ⟨z, (bts_len z).symm, rfl, rfl, rfl⟩ H.x1 L
  | false =>
   rw [hp, if_neg (by decide)] at hX
   apply nF
   refine aD (by omega) ?_
   exact te (ih (i + 1) h l (by omega) H X hX) L
end
end Go.LB
end
