/- A part of the proof. -/
import Derived.Test.YtdiiilfokajddaaGreatDoorVLXA
set_option linter.all false
set_option warn.classDefReducibility false
noncomputable section
section
open Go Go.Mid Go.Proofs
set_option maxRecDepth 100000
namespace Go.LX
section
variable {l F : List Asn} {h h0 : Hp} {ro : Bool} {Q : V → List Asn → Prop} {k : V → VH} {K : V → Hp → VH} {v lV : V} {i j n : Nat}
def dgt (most base : Nat) : List Nat → Nat → Nat → Nat × Nat
 | [], n, k => (n, k)
 | b :: r, n, k => if k < most ∧ n < 2147483648 then (if (hexv b).2 = true ∧ (hexv b).1 < base then dgt most base r (n * base + (hexv b).1) (k + 1) else (n, k)) else (n, k)
theorem dgt_le (most base : Nat) : ∀ (L : List Nat) (n k : Nat), (dgt most base L n k).2 ≤ k + L.length
 | [], n, k => Nat.le_refl _
 | b :: r, n, k => by
  rw [dgt, List.length_cons]
  have:=dgt_le most base r (n * base + (hexv b).1) (k + 1)
  split
  ·split
   ·omega
   ·show k ≤ _; omega
  ·show k ≤ _; omega
theorem digits2_ok {s : Bs} {most base : Nat} (hs : s.n ≤ 70000) (hm : most ≤ 70000) (hb : base ≤ 16) : ∀ (m k n : Nat) (h : Hp) (l : List Asn), s.n - k ≤ m → k ≤ s.n → n ≤ 34359738384 → St l h →
 Tri h true l (rNo (.tuple [.int .i64 ((dgt most base ((bts s).drop k) n k).1 : Nat), .int .i64 ((dgt most base ((bts s).drop k) n k).2 : Nat)])) (M 53 [.str s, .int .i64 (most : Int), .int .i64 (base : Int), .int .i64 (n : Int), .int .i64 (k : Int)] h):=by
 have ih51 : ∀ (n k : Nat) (h : Hp) (l : List Asn), St l h → Tri h true l (rNo (.tuple [.int .i64 (n : Int), .int .i64 (k : Int)])) (M 51 [.int .i64 (n : Int), .int .i64 (k : Int)] h):=by
  intro n k h l H
  refine t2 e51 fun L => ?_
  unfold B51
  exact Tri.done (B:=[]) ⟨rfl, rfl⟩ H L
 intro m
 induction m with
 | zero =>
  intro k n h l hm hk hn H
  refine t5 e53 fun L => ?_
  unfold B53
  rw [bts_end (by omega), dgt]
  refine Tri.eqv (bind_lenStr _ _) ?_
  refine Tri.lenStr ?_
  refine Tri.bs ?_
  refine Tri.lss (fun e => by omega) (fun e => ?_)
  refine Tri.eqv (guard_ft _ _ _) ?_
  refine Tri.eqv (pick_f _ _ _) ?_
  refine Tri.eqv (guard_ft _ _ _) ?_
  refine Tri.eqv (pick_f _ _ _) ?_
  refine Tri.iff ?_
  refine Tri.tail (ih51 _ _ _ _ H) L (fun _ => rfl) fun v h B hq H L => ⟨B, hq, H⟩
 | succ m ih =>
  intro k n h l hm hk hn H
  refine t5 e53 fun L => ?_
  unfold B53
  generalize hX : dgt most base ((bts s).drop k) n k = X
  refine Tri.eqv (bind_lenStr _ _) ?_
  refine Tri.lenStr ?_
  refine Tri.bs ?_
  refine Tri.lss (fun e => ?_) (fun e => ?_)
  ·have hlt : k < s.n := by omega
   have ih296:=fun (h : Hp) (l : List Asn) (H : St l h) => sp296 (bts_lt s k) H
   rw [bts_drop hlt, dgt] at hX
   refine Tri.eqv (guard_tt _ _ _) ?_
   refine Tri.eqv (bind_intS _ _) ?_
   refine Tri.lss (fun e2 => ?_) (fun e2 => ?_)
   ·refine Tri.bs ?_
    refine Tri.eqv (pick_t _ _ _) ?_
    refine Tri.eqv (guard_tt _ _ _) ?_
    refine Tri.eqv (bind_intS _ _) ?_
    refine Tri.lss (fun e3 => ?_) (fun e3 => ?_)
    ·rw [if_pos ⟨by omega, by omega⟩] at hX
     refine Tri.bs ?_
     refine Tri.eqv (pick_t _ _ _) ?_
     refine Tri.ift ?_
     refine Tri.idxStr (by omega) (by omega) ?_
     refine Tri.bind (ih296 _ _ H) L (fun _ => rfl) fun v h B hq64 H L => ?_
     obtain ⟨rfl, rfl⟩:=hq64
     refine Tri.ext rfl ?_
     refine Tri.ext rfl ?_
     refine Tri.not ?_
     cases h1 : (hexv (s.byte k)).2 with
     | false =>
      rw [h1, if_neg (fun c => nomatch c.1)] at hX
      subst hX
      refine Tri.eqv (guard_tf _ _ _) ?_
      refine Tri.eqv (pick_t _ _ _) ?_
      refine Tri.ift ?_
      refine Tri.tail (ih51 _ _ _ _ H) L (fun _ => rfl) fun v h B hq H L => ⟨B, hq, H⟩
     | true =>
      refine Tri.eqv (guard_ff _ _ _) ?_
      refine Tri.eqv (bind_intS _ _) ?_
      refine Tri.geq (fun e4 => ?_) (fun e4 => ?_)
      ·rw [if_neg (fun c => by have := c.2; omega)] at hX
       subst hX
       refine Tri.bs ?_
       refine Tri.eqv (pick_f _ _ _) ?_
       refine Tri.ift ?_
       refine Tri.tail (ih51 _ _ _ _ H) L (fun _ => rfl) fun v h B hq H L => ⟨B, hq, H⟩
      ·rw [if_pos ⟨h1, by omega⟩] at hX
       have hl:=hexv_lt (s.byte k)
       have hmul : n * base ≤ 2147483648 * 16:=Nat.mul_le_mul (by omega) hb
       have hmi : ((n : Int) * (base : Int)) = ((n * base : Nat) : Int):=rfl
       refine Tri.bs ?_
       refine Tri.eqv (pick_f _ _ _) ?_
       refine Tri.iff ?_
       refine Tri.mulN (by rw [hmi]; omega) (by rw [hmi]; omega) ?_
       rw [hmi]
       generalize n * base = W at hX hmul
       refine Tri.addN (by omega) (by omega) ?_
       refine Tri.addN (by omega) (by omega) ?_
       subst hX
       exact Tri.tail (ih (k + 1) (W + (hexv (s.byte k)).1) h l (by omega) (by omega) (by omega) H) L (fun e => e) fun v h B hq H L => ⟨B, hq, H⟩
    ·rw [if_neg (fun c => by omega)] at hX
     subst hX
     refine Tri.bs ?_
     refine Tri.eqv (pick_t _ _ _) ?_
     refine Tri.iff ?_
     refine Tri.tail (ih51 _ _ _ _ H) L (fun _ => rfl) fun v h B hq H L => ⟨B, hq, H⟩
   ·rw [if_neg (fun c => by omega)] at hX
    subst hX
    refine Tri.bs ?_
    refine Tri.eqv (pick_t _ _ _) ?_
    refine Tri.eqv (guard_ft _ _ _) ?_
    refine Tri.eqv (pick_f _ _ _) ?_
    refine Tri.iff ?_
    refine Tri.tail (ih51 _ _ _ _ H) L (fun _ => rfl) fun v h B hq H L => ⟨B, hq, H⟩
  ·rw [bts_end (by omega), dgt] at hX
   subst hX
   refine Tri.eqv (guard_ft _ _ _) ?_
   refine Tri.eqv (pick_f _ _ _) ?_
   refine Tri.eqv (guard_ft _ _ _) ?_
   refine Tri.eqv (pick_f _ _ _) ?_
   refine Tri.iff ?_
   refine Tri.tail (ih51 _ _ _ _ H) L (fun _ => rfl) fun v h B hq H L => ⟨B, hq, H⟩
theorem sp236 {s : Bs} {most base : Nat} (hs : s.n ≤ 70000) (hm : most ≤ 70000) (hb : base ≤ 16) (H : St l h) :
 Tri h true l (rNo (.tuple [.int .i64 ((dgt most base (bts s) 0 0).1 : Nat), .int .i64 ((dgt most base (bts s) 0 0).2 : Nat)])) (M 236 [.str s, .int .i64 (most : Int), .int .i64 (base : Int)] h):=by
 refine t3 e236 fun L => ?_
 unfold B236
 exact Tri.tail (digits2_ok hs hm hb s.n 0 0 h l (by omega) (by omega) (by omega) H) L (fun e => e) fun v h B hq H L => ⟨B, hq, H⟩
theorem Tri.shl1 {x : Nat} (hx : x ≤ 40) (hk : Tri h0 ro F Q (k (.int .i64 ((2 ^ x : Nat) : Int)))) : Tri h0 ro F Q (shS .shl (.int .i64 1) (.int .i64 (x : Int)) k):=by
 have e : shOp .shl .i64 1 (x : Int) = some (.int .i64 ((2 ^ x : Nat) : Int)):=by
  show some (V.int .i64 (IntKind.i64.wrap (1 * 2 ^ (min ((x : Int)).toNat 64)))) = _
  rw [show min ((x : Int)).toNat 64 = x by rw [Int.toNat_natCast]; omega, Int.one_mul]
  have : (2 : Nat) ^ x ≤ 2 ^ 40:=Nat.pow_le_pow_right (by decide) hx
  have e2 : ((2 : Int) ^ x) = ((2 ^ x : Nat) : Int):=by simp
  rw [e2]
  generalize 2 ^ x = W at this ⊢
  rw [Mid.i64_of (by omega) (by omega)]
 show Tri h0 ro F Q (optS (shOp .shl .i64 1 (x : Int)) k)
 rw [e]; exact hk
theorem Tri.and6 {m : Int} (hk : Tri h0 ro F Q (k (.int .i64 (IntKind.i64.wrap (BitVec.ofInt 64 m &&& BitVec.ofInt 64 63).toNat)))) : Tri h0 ro F Q (intS .and (.int .i64 m) (.int .i64 63) k):=by rw [intS_at]; exact hk
theorem Tri.or8 {m n : Int} (hk : Tri h0 ro F Q (k (.int .u8 (IntKind.u8.wrap (BitVec.ofInt 8 m ||| BitVec.ofInt 8 n).toNat)))) : Tri h0 ro F Q (intS .or (.int .u8 m) (.int .u8 n) k):=by rw [intS_at]; exact hk
theorem Tri.shr6 {m : Int} (hk : Tri h0 ro F Q (k (.int .i64 (m.fdiv (2 ^ 6))))) : Tri h0 ro F Q (shS .shr (.int .i64 m) (.int .u64 6) k):=hk
theorem Tri.shl8 {x : Nat} (hk : Tri h0 ro F Q (k (.int .u8 (IntKind.u8.wrap (255 * 2 ^ (min ((x : Int)).toNat 8)))))) : Tri h0 ro F Q (shS .shl (.int .u8 255) (.int .i64 (x : Int)) k):=hk
theorem u8_wrap (n : Int) : ∃ b : Nat, b = (IntKind.u8.wrap n).toNat ∧ b < 256 ∧ IntKind.u8.wrap n = (b : Int):=by
 have h : 0 ≤ IntKind.u8.wrap n ∧ IntKind.u8.wrap n < 256:=by rw [IntKind.wrap_u8]; omega
 exact ⟨_, rfl, by omega, by omega⟩
def eb (n : Int) : Nat:=(IntKind.u8.wrap (BitVec.ofInt 8 128 ||| BitVec.ofInt 8 (IntKind.u8.wrap (IntKind.i64.wrap (BitVec.ofInt 64 n &&& BitVec.ofInt 64 63).toNat))).toNat).toNat
def ef (k : Nat) (n : Int) : Nat:=(IntKind.u8.wrap (BitVec.ofInt 8 (IntKind.u8.wrap (255 * 2 ^ (min ((((8 - k : Nat)) : Int)).toNat 8))) ||| BitVec.ofInt 8 (IntKind.u8.wrap n)).toNat).toNat
theorem eb_lt (n : Int) : eb n < 256:=by unfold eb; obtain ⟨b, h1, h2, _⟩:=u8_wrap (BitVec.ofInt 8 128 ||| BitVec.ofInt 8 (IntKind.u8.wrap (IntKind.i64.wrap (BitVec.ofInt 64 n &&& BitVec.ofInt 64 63).toNat))).toNat; rw [← h1]; exact h2
theorem ef_lt (k : Nat) (n : Int) : ef k n < 256:=by unfold ef; obtain ⟨b, h1, h2, _⟩:=u8_wrap (BitVec.ofInt 8 (IntKind.u8.wrap (255 * 2 ^ (min ((((8 - k : Nat)) : Int)).toNat 8))) ||| BitVec.ofInt 8 (IntKind.u8.wrap n)).toNat; rw [← h1]; exact h2
def encF (k : Nat) : Nat → Int → List Nat → List Nat
 | 0, n, cs => cs.set 0 (ef k n)
 | i + 1, n, cs => encF k i (n.fdiv (2 ^ 6)) (cs.set (i + 1) (eb n))
theorem encF_len (k : Nat) : ∀ (i : Nat) (n : Int) (cs : List Nat), (encF k i n cs).length = cs.length
 | 0, n, cs => List.length_set
 | i + 1, n, cs => by rw [encF, encF_len k i, List.length_set]
def encK : Nat → Nat → Int → Nat
 | 0, k, _ => k
 | f + 1, k, n => if ((2 ^ (5 * k + 1) : Nat) : Int) ≤ n then encK f (k + 1) n else k
def enc (n : Int) : List Nat × Int :=
 if n < 0 ∨ 2147483648 ≤ n then ([], 10) else if n < 128 then ([(IntKind.u8.wrap n).toNat], 0)
 else (encF (encK 4 2 n) (encK 4 2 n - 1) n (List.replicate (encK 4 2 n) 0), 0)
def rTI (x : List Nat × Int) : V → List Asn → Prop:=fun w B => ∃ z : Bs, z.n = x.1.length ∧ bts z = x.1 ∧ w = .tuple [.str z, .int .i64 x.2] ∧ B = []
theorem u8s_set (cs : List Nat) (i x : Nat) : (u8s cs).set i (u8 x) = u8s (cs.set i x):=List.map_set.symm
theorem set_lt {cs : List Nat} {i x : Nat} (h : ∀ c ∈ cs, c < 256) (hx : x < 256) : ∀ c ∈ cs.set i x, c < 256 := fun c hc => by
 rcases List.mem_or_eq_of_mem_set hc with h1 | h1
 ·exact h c h1
 ·rw [h1]; exact hx
theorem enc_cells {b k : Nat} : ∀ (i : Nat) (n : Int) (cs : List Nat) (h : Hp) (l : List Asn), i < cs.length → cs.length ≤ 8 → k = cs.length → (∀ c ∈ cs, c < 256) → St (vc false (.slice b 0 k k false) 5 1 (u8s cs) :: l) h →
 Tri h false l (rTI (encF k i n cs, 0)) (M 57 [.int .i64 n, .int .i64 (k : Int), .slice b 0 k k false, .int .i64 (i : Int)] h):=by
 intro i
 induction i with
 | zero =>
  intro n cs h l hi hl hk hc H
  refine t4 e57 fun L => ?_
  unfold B57
  refine Tri.gtr (fun e => absurd e (by decide)) (fun _ => ?_)
  refine Tri.iff ?_
  refine Tri.subN (by omega) (by omega) ?_
  rw [show (8 : Int) - (k : Int) = ((8 - k : Nat) : Int) by omega]
  refine Tri.shl8 (Tri.conv (Tri.or8 ?_))
  have e1:=ef_lt k n
  have e2 : V.int .u8 (IntKind.u8.wrap (BitVec.ofInt 8 (IntKind.u8.wrap (255 * 2 ^ (min ((((8 - k : Nat)) : Int)).toNat 8))) ||| BitVec.ofInt 8 (IntKind.u8.wrap n)).toNat) = u8 (ef k n):=by
   obtain ⟨b, h1, h2, h3⟩:=u8_wrap (BitVec.ofInt 8 (IntKind.u8.wrap (255 * 2 ^ (min ((((8 - k : Nat)) : Int)).toNat 8))) ||| BitVec.ofInt 8 (IntKind.u8.wrap n)).toNat
   rw [h3, h1]; rfl
  rw [e2]
  rw [encF]
  generalize ef k n = x at e1 ⊢
  refine Tri.idx (by decide) (by omega) ?_
  refine Tri.storeV 0 H rfl (by simp; omega) L (fun e => nomatch e) rfl fun h H L => ?_
  replace H : St (vc false (.slice b 0 k k false) 5 1 (u8s (cs.set 0 x)) :: l) h:=by rw [← u8s_set]; exact H
  have hc2:=set_lt (i:=0) hc e1
  rw [H.vc_bytes (i:=0) rfl hc2]
  exact Tri.done (B:=[]) ⟨_, by rw [pack_n, List.length_map], bts_of hc2, rfl, rfl⟩ H.tl L
 | succ i ih =>
  intro n cs h l hi hl hk hc H
  refine t4 e57 fun L => ?_
  unfold B57
  skip
  refine Tri.gtr (fun _ => ?_) (fun e => by omega)
  refine Tri.ift (Tri.and6 (Tri.conv (Tri.or8 ?_)))
  have e1:=eb_lt n
  have e2 : V.int .u8 (IntKind.u8.wrap (BitVec.ofInt 8 128 ||| BitVec.ofInt 8 (IntKind.u8.wrap (IntKind.i64.wrap (BitVec.ofInt 64 n &&& BitVec.ofInt 64 63).toNat))).toNat) = u8 (eb n):=by
   obtain ⟨b, h1, h2, h3⟩:=u8_wrap (BitVec.ofInt 8 128 ||| BitVec.ofInt 8 (IntKind.u8.wrap (IntKind.i64.wrap (BitVec.ofInt 64 n &&& BitVec.ofInt 64 63).toNat))).toNat
   rw [h3, h1]; rfl
  rw [e2]
  refine Tri.idx (by omega) (by omega) ?_
  refine Tri.storeV 0 H rfl (by simp; omega) L (fun e => nomatch e) rfl fun h H L => ?_
  refine Tri.shr6 ?_
  rw [show 0 + ((i + 1 : Nat) : Int).toNat * 1 = i + 1 by rw [Int.toNat_natCast]; omega, u8s_set] at H
  refine Tri.subN (by omega) (by omega) ?_
  rw [encF, show ((i + 1 : Nat) : Int) - 1 = (i : Int) by omega]
  exact Tri.tail (ih _ (cs.set (i + 1) (eb n)) h l (by rw [List.length_set]; omega) (by rw [List.length_set]; omega) (by rw [List.length_set]; exact hk) (set_lt hc e1) H) L (fun e => e) fun v h B hq H L => ⟨B, hq, H⟩
theorem encK_le : ∀ (f k : Nat) (n : Int), encK f k n ≤ k + f
 | 0, k, _ => Nat.le_refl _
 | f + 1, k, n => by
  rw [encK]
  have:=encK_le f (k + 1) n
  split <;> omega
theorem enc_size {n : Int} (hn : n < 2147483648) : ∀ (f k : Nat) (h : Hp) (l : List Asn), k + f = 6 → 2 ≤ k → St l h →
 Tri h false l (rTI (encF (encK f k n) (encK f k n - 1) n (List.replicate (encK f k n) 0), 0)) (M 55 [.int .i64 n, .int .i64 (k : Int)] h):=by
 have fin : ∀ (k : Nat) (h h0 : Hp) (l : List Asn), 2 ≤ k → k ≤ 6 → St l h → Lo false h0 h → Tri h0 false l (rTI (encF k (k - 1) n (List.replicate k 0), 0)) (bindS (mkS 5 1 1 (.int .u8 0) (.int .i64 (k : Int)) (.int .i64 (k : Int)) h) fun v16 h17 =>
  intS .sub (.int .i64 (k : Int)) (.int .i64 1) fun v18 => M 57 [.int .i64 n, .int .i64 (k : Int), v16, v18] h17):=by
  intro k h h0 l h2 h6 H L
  refine Tri.mk1 H L k rfl (by omega) (by omega) fun b h hb H L => ?_
  have er : List.replicate k (V.int .u8 0) = u8s (List.replicate k 0):=by rw [u8s, List.map_replicate]; rfl
  rw [er] at H
  refine Tri.subN (by omega) (by omega) ?_
  rw [show (k : Int) - 1 = ((k - 1 : Nat) : Int) by omega]
  exact Tri.tail (enc_cells (k - 1) n (List.replicate k 0) h l (by rw [List.length_replicate]; omega) (by rw [List.length_replicate]; omega) (by rw [List.length_replicate]) (fun c hc => by rw [List.eq_of_mem_replicate hc]; decide) H) L (fun e => e) fun v h B hq H L => ⟨B, hq, H⟩
 intro f
 induction f with
 | zero =>
  intro k h l hf hk H
  obtain rfl : k = 6:=by omega
  refine t2 e55 fun L => ?_
  unfold B55
  refine Tri.mulN (by decide) (by decide) (Tri.addN (by decide) (by decide) ?_)
  refine Tri.shl1 (x:=31) (by decide) ?_
  refine Tri.geq (fun e => absurd e (by have : ((2 ^ 31 : Nat) : Int) = 2147483648:=rfl; omega)) (fun _ => Tri.iff ?_)
  exact fin 6 h _ l (by decide) (by decide) H L
 | succ f ih =>
  intro k h l hf hk H
  refine t2 e55 fun L => ?_
  unfold B55
  refine Tri.mulN (by omega) (by omega) (Tri.addN (by omega) (by omega) ?_)
  rw [show 5 * (k : Int) + 1 = ((5 * k + 1 : Nat) : Int) by omega]
  refine Tri.shl1 (by omega) ?_
  rw [encK]
  refine Tri.geq (fun e => Tri.ift ?_) (fun e => Tri.iff ?_)
  ·rw [if_pos e]
   refine Tri.addN (by omega) (by omega) ?_
   exact Tri.tail (ih (k + 1) h l (by omega) (by omega) H) L (fun e => e) fun v h B hq H L => ⟨B, hq, H⟩
  ·rw [if_neg (fun c => by omega)]
   exact fin k h _ l hk (by omega) H L
theorem sp238 {n : Int} (H : St l h) : Tri h false l (rTI (enc n)) (M 238 [.int .i64 n] h):=by
 refine t1 e238 fun L => ?_
 unfold B238
 generalize hX : enc n = X
 unfold enc at hX
 refine Tri.lss (fun e1 => ?_) (fun e1 => ?_)
 ·rw [if_pos (.inl e1)] at hX
  subst hX
  refine Tri.eqv (guard_tf _ _ _) ?_
  refine Tri.eqv (pick_t _ _ _) ?_
  refine Tri.ift ?_
  exact Tri.done (B:=[]) ⟨_, rfl, rfl, rfl, rfl⟩ H L
 ·refine Tri.eqv (guard_ff _ _ _) ?_
  refine Tri.eqv (bind_intS _ _) ?_
  refine Tri.geq (fun e2 => ?_) (fun e2 => ?_)
  ·rw [if_pos (.inr e2)] at hX
   subst hX
   refine Tri.bs ?_
   refine Tri.eqv (pick_f _ _ _) ?_
   refine Tri.ift ?_
   exact Tri.done (B:=[]) ⟨_, rfl, rfl, rfl, rfl⟩ H L
  ·rw [if_neg (by omega)] at hX
   refine Tri.bs ?_
   refine Tri.eqv (pick_f _ _ _) ?_
   refine Tri.iff ?_
   refine Tri.lss (fun e3 => ?_) (fun e3 => ?_)
   ·rw [if_pos e3] at hX
    subst hX
    refine Tri.ift ?_
    refine Tri.conv ?_
    refine Tri.bld (e:=_) (s:=_) H L rfl rfl fun b82 h hb82 H L => ?_
    obtain ⟨c, h1, h2, h3⟩:=u8_wrap n
    rw [h3] at H
    rw [← h1]
    have hc : ∀ x ∈ [c], x < 256:=fun x hx => by rw [List.mem_singleton.1 hx]; exact h2
    rw [St.vc_bytes (L:=[c]) (i:=0) H rfl hc]
    exact Tri.done (B:=[]) ⟨_, by rw [pack_n, List.length_map], bts_of hc, rfl, rfl⟩ H.tl L
   ·rw [if_neg (by omega)] at hX
    subst hX
    refine Tri.iff ?_
    exact Tri.tail (enc_size (by omega) 4 2 h l rfl (by decide) H) L (fun e => e) fun v h B hq H L => ⟨B, hq, H⟩
theorem encF_lt (k : Nat) : ∀ (i : Nat) (n : Int) (cs : List Nat), (∀ c ∈ cs, c < 256) → ∀ c ∈ encF k i n cs, c < 256
 | 0, n, cs, h => set_lt h (ef_lt k n)
 | i + 1, n, cs, h => encF_lt k i _ _ (set_lt h (eb_lt n))
theorem enc_lt (n : Int) : ∀ c ∈ (enc n).1, c < 256:=by
 unfold enc
 split
 ·exact fun c hc => nomatch hc
 ·split
  ·intro c hc
   obtain ⟨b, h1, h2, _⟩:=u8_wrap n
   rw [List.mem_singleton.1 hc, ← h1]; exact h2
  ·exact encF_lt _ _ _ _ fun c hc => by rw [List.eq_of_mem_replicate hc]; decide
theorem enc_out (n : Int) : (enc n).1.length ≤ 6:=by
 unfold enc
 split
 ·decide
 ·split
  ·simp
  ·rw [encF_len, List.length_replicate]; exact encK_le 4 2 n
def PL : Bs:=⟨20, 194867322317691132958510344948545282249320433505⟩
def plk (b : Nat) : Nat → Nat → List Nat × Nat
 | 0, _ => ([], 0)
 | f + 1, j => if PL.byte (2 * j) = b then ([PL.byte (2 * j + 1)], 1) else plk b f (j + 1)
theorem plk_le (b : Nat) : ∀ f j, (plk b f j).2 ≤ 1 ∧ (plk b f j).1.length ≤ 1 ∧ ∀ c ∈ (plk b f j).1, c < 256
 | 0, _ => ⟨Nat.zero_le _, Nat.zero_le _, fun c hc => nomatch hc⟩
 | f + 1, j => by
  rw [plk]
  split
  ·exact ⟨Nat.le_refl _, Nat.le_refl _, fun c hc => by rw [List.mem_singleton.1 hc]; exact bts_lt _ _⟩
  ·exact plk_le b f (j + 1)
def eso (L : List Nat) : List Nat × Nat :=
 match L with
 | [] => ([], 0)
 | b :: r =>
  if isEnd b then (if r.head?.any isEnd && r.head? != some b then ([10], 2) else ([10], 1))
  else if b = 120 then (if (dgt 2 16 r 0 0).2 = 2 then ([(IntKind.u8.wrap ((dgt 2 16 r 0 0).1 : Nat)).toNat], 3) else ([], 0))
  else if b = 122 then ([], 1 + cnt isSp r)
  else if b = 117 then (if [117, 123].isPrefixOf (b :: r) = true ∧ 0 < (dgt (b :: r).length 16 (r.drop 1) 0 0).2 ∧ (enc ((dgt (b :: r).length 16 (r.drop 1) 0 0).1 : Nat)).2 = 0 ∧ [125].isPrefixOf (r.drop (1 + (dgt (b :: r).length 16 (r.drop 1) 0 0).2)) = true then
   ((enc ((dgt (b :: r).length 16 (r.drop 1) 0 0).1 : Nat)).1, (dgt (b :: r).length 16 (r.drop 1) 0 0).2 + 3) else ([], 0))
  else if isDg b then (if (dgt 3 10 (b :: r) 0 0).1 ≤ 255 then ([(IntKind.u8.wrap ((dgt 3 10 (b :: r) 0 0).1 : Nat)).toNat], (dgt 3 10 (b :: r) 0 0).2) else ([], 0))
  else plk b 10 0
theorem eso_ok (L : List Nat) : (eso L).2 ≤ L.length ∧ (eso L).1.length ≤ 6 ∧ ∀ c ∈ (eso L).1, c < 256:=by
 have u8lt : ∀ n : Int, ∀ c ∈ [(IntKind.u8.wrap n).toNat], c < 256 := fun n c hc => by
  obtain ⟨b, h1, h2, _⟩:=u8_wrap n
  rw [List.mem_singleton.1 hc, ← h1]; exact h2
 have ten : ∀ c ∈ [10], c < 256:=fun c hc => by rw [List.mem_singleton.1 hc]; decide
 have none : ∀ c ∈ ([] : List Nat), c < 256:=fun c hc => nomatch hc
 cases L with
 | nil => exact ⟨Nat.le_refl _, by decide, none⟩
 | cons b r =>
  unfold eso
  dsimp only
  rw [List.length_cons]
  split
  ·split
   ·rename_i h
    refine ⟨?_, by decide, ten⟩
    cases r with
    | nil => simp at h
    | cons c r => simp
   ·exact ⟨by simp, by decide, ten⟩
  ·split
   ·split
    ·rename_i h
     have:=dgt_le 2 16 r 0 0
     exact ⟨by show 3 ≤ _; omega, by simp, u8lt _⟩
    ·exact ⟨Nat.zero_le _, by decide, none⟩
   ·split
    ·have := cnt_le isSp r
     exact ⟨by show 1 + _ ≤ _; omega, by simp, none⟩
    ·split
     ·split
      ·rename_i h
       have h4:=h.2.2.2
       rw [pfx_take, decide_eq_true_iff, List.length_drop] at h4
       have:=h4.1
       simp only [List.length_singleton] at this
       exact ⟨by show _ + 3 ≤ _; omega, enc_out _, enc_lt _⟩
      ·exact ⟨Nat.zero_le _, by decide, none⟩
     ·split
      ·split
       ·have := dgt_le 3 10 (b :: r) 0 0
        rw [List.length_cons] at this
        exact ⟨by show (dgt 3 10 (b :: r) 0 0).2 ≤ _; omega, by simp, u8lt _⟩
       ·exact ⟨Nat.zero_le _, by decide, none⟩
      ·have := plk_le b 10 0
       exact ⟨by omega, by omega, this.2.2⟩
theorem none_ok (H : St l h) : Tri h false l (rTI ([], 0)) (M 35 [] h):=by
 refine t0 e35 fun L => ?_
 unfold B35
 exact Tri.done (B:=[]) ⟨_, rfl, rfl, rfl, rfl⟩ H L
theorem zee_ok {s : Bs} (hs : s.n ≤ 70000) : ∀ (m k : Nat) (h : Hp) (l : List Asn), s.n - k ≤ m → k ≤ s.n → St l h →
 Tri h false l (rTI ([], ((k + cnt isSp ((bts s).drop k) : Nat) : Int))) (M 37 [.str s, .int .i64 (k : Int)] h):=by
 intro m
 induction m with
 | zero =>
  intro k h l hm hk H
  refine t2 e37 fun L => ?_
  unfold B37
  refine Tri.eqv (bind_lenStr _ _) ?_
  refine Tri.lenStr ?_
  refine Tri.bs ?_
  refine Tri.lss (fun e => by omega) (fun e => ?_)
  refine Tri.eqv (guard_ft _ _ _) ?_
  refine Tri.eqv (pick_f _ _ _) ?_
  refine Tri.iff ?_
  rw [bts_end (by omega)]
  exact Tri.done (B:=[]) ⟨_, rfl, rfl, rfl, rfl⟩ H L
 | succ m ih =>
  intro k h l hm hk H
  refine t2 e37 fun L => ?_
  unfold B37
  refine Tri.eqv (bind_lenStr _ _) ?_
  refine Tri.lenStr ?_
  refine Tri.bs ?_
  refine Tri.lss (fun e => ?_) (fun e => ?_)
  ·have hlt : k < s.n := by omega
   rw [bts_drop hlt, cnt, wh]
   refine Tri.eqv (guard_tt _ _ _) ?_
   refine Tri.eqv (bind_idxStr _ _) ?_
   refine Tri.idxStr (by omega) (by omega) ?_
   refine Tri.eqv (bind_bind _ _ _) ?_
   refine Tri.bind (sp52 H) L (fun _ => rfl) fun v h B hq24 H L => ?_
   obtain ⟨rfl, rfl⟩:=hq24
   refine Tri.bs ?_
   refine Tri.eqv (pick_t _ _ _) ?_
   rw [show ((k : Int)).toNat = k from rfl]
   cases h1 : isSp (s.byte k) with
   | true =>
    refine Tri.ift ?_
    refine Tri.addN (by omega) (by omega) ?_
    show Tri _ false l (rTI ([], ((k + (cnt isSp ((bts s).drop (k + 1)) + 1) : Nat) : Int))) _
    rw [show k + (cnt isSp ((bts s).drop (k + 1)) + 1) = k + 1 + cnt isSp ((bts s).drop (k + 1)) by omega]
    exact Tri.tail (ih (k + 1) h l (by omega) (by omega) H) L (fun e => e) fun v h B hq H L => ⟨B, hq, H⟩
   | false =>
    refine Tri.iff ?_
    exact Tri.done (B:=[]) ⟨_, rfl, rfl, rfl, rfl⟩ H L
  ·refine Tri.eqv (guard_ft _ _ _) ?_
   refine Tri.eqv (pick_f _ _ _) ?_
   refine Tri.iff ?_
   rw [bts_end (by omega)]
   exact Tri.done (B:=[]) ⟨_, rfl, rfl, rfl, rfl⟩ H L
theorem plk_ok {s : Bs} (hn : 0 < s.n) : ∀ (f j : Nat) (h : Hp) (l : List Asn), j + f = 10 → St l h → ∀ X, X = plk (s.byte 0) f j →
 Tri h false l (rTI (X.1, (X.2 : Int))) (M 39 [.str s, .int .i64 ((2 * j : Nat) : Int)] h):=by
 intro f
 induction f with
 | zero =>
  intro j h l hj H X hX
  refine t2 e39 fun L => ?_
  unfold B39
  refine Tri.lss (fun e => by omega) (fun e => ?_)
  refine Tri.iff ?_
  subst hX
  exact Tri.tail (none_ok H) L (fun e => e) fun v h B hq H L => ⟨B, hq, H⟩
 | succ f ih =>
  intro j h l hj H X hX
  refine t2 e39 fun L => ?_
  unfold B39
  rw [plk] at hX
  refine Tri.lss (fun e => ?_) (fun e => by omega)
  have hPL : PL.n = 20:=rfl
  rw [show (⟨20, 194867322317691132958510344948545282249320433505⟩ : Bs) = PL from rfl]
  generalize PL = P at hX hPL
  refine Tri.ift ?_
  refine Tri.idxStr (by omega) (by omega) ?_
  refine Tri.idxStr (by omega) (by omega) ?_
  refine Tri.eql (fun e2 => ?_) (fun e2 => ?_)
  ·rw [if_pos (by exact Int.ofNat.inj e2)] at hX
   subst hX
   refine Tri.ift ?_
   refine Tri.addN (by omega) (by omega) ?_
   refine Tri.addN (by omega) (by omega) ?_
   refine Tri.cutB (by omega) (by omega) (by omega) fun z23 nz23 ez23 => ?_
   have e23 : bts z23 = [P.byte (2 * j + 1)]:=by
    rw [ez23, show (((2 * j : Nat) : Int) + 2).toNat - (((2 * j : Nat) : Int) + 1).toNat = 1 by omega, show (((2 * j : Nat) : Int) + 1).toNat = 2 * j + 1 by omega, bts_drop (by omega)]; rfl
   exact Tri.done (B:=[]) ⟨z23, by rw [← bts_len, e23], e23, rfl, rfl⟩ H L
  ·rw [if_neg (show ¬ P.byte (2 * j) = s.byte 0 from fun c => e2 (congrArg Int.ofNat c))] at hX
   refine Tri.iff ?_
   refine Tri.addN (by omega) (by omega) ?_
   rw [show ((2 * j : Nat) : Int) + 2 = ((2 * (j + 1) : Nat) : Int) by omega]
   exact Tri.tail (ih (j + 1) h l (by omega) H X hX) L (fun e => e) fun v h B hq H L => ⟨B, hq, H⟩
end
end Go.LX
end
