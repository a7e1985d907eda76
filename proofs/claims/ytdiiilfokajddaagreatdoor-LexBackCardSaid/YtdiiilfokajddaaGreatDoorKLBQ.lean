/- A part of the proof. -/
import Derived.Test.YtdiiilfokajddaaGreatDoorKLBV1
import Derived.Lib.ItoaLen
set_option linter.all false
set_option warn.classDefReducibility false
noncomputable section
section
open Go Go.Mid Go.Proofs
set_option maxRecDepth 100000
namespace Go.LB
section
variable {l F : List Asn} {h h0 : Hp} {ro : Bool} {Q : V → List Asn → Prop} {k : V → VH} {K : V → Hp → VH} {v lV : V} {i j n : Nat}
theorem sp140 {n : Nat} (hn : n < 9223372036854775808) (H : St l h) : Tri h true l (rText (decw n)) (M 140 [.int .i64 (n : Int), .int .i64 10] h):=by
 have e0 : textF [.int .i64 (n : Int), .int .i64 10] h = some (.str (pack (Lib.itoa (n : Int))), h):=by
  show (bif decide (-9223372036854775808 ≤ (n : Int)) && decide ((n : Int) ≤ 9223372036854775807) then _ else none) = _
  rw [decide_eq_true (by omega), decide_eq_true (by omega)]; rfl
 have e : M 140 [.int .i64 (n : Int), .int .i64 10] h = some (.str (pack (Lib.itoa (n : Int))), h):=by
  refine (@lim_F Tryz.prog (orc fnA Inv) labs 70 _ _ _).2 ⟨0, ?_⟩
  show enterO Tryz.prog _ h 70 _ (textF [.int .i64 (n : Int), .int .i64 10] h) = _
  rw [e0]
  rfl
 rw [e, Lib.itoa_nonneg]
 exact Tri.done (B:=[]) ⟨_, by rw [pack_n]; unfold decw; rw [List.length_map], by rw [bts_pack]; rfl, rfl, rfl⟩ H (Lo.refl _ _)
theorem sp74 {n : Nat} (hn : n < 9223372036854775808) (H : St l h) : Tri h true l (rText (decw n)) (M 74 [.int .i64 (n : Int)] h):=by
 refine t1 e74 fun L => ?_
 unfold B74
 refine Mid.tb (sp140 hn H) L fun v h B hq H L => ?_
 obtain ⟨z, nz, ez, rfl, rfl⟩:=hq
 exact Tri.done (B:=[]) ⟨z, nz, ez, rfl, rfl⟩ H L
theorem and_low {n : Int} {m : Nat} (hm : m = 15 ∨ m = 7) : (BitVec.ofInt 64 n &&& BitVec.ofInt 64 (m : Int)).toNat = (n % ((m + 1 : Nat) : Int)).toNat:=by
 rw [BitVec.toNat_and, BitVec.toNat_ofInt, BitVec.toNat_ofInt]
 rcases hm with rfl | rfl
 ·rw [show ((((15 : Nat) : Int) % ((2 ^ 64 : Nat) : Int)).toNat) = 2 ^ 4 - 1 from rfl, Nat.and_two_pow_sub_one_eq_mod]
  omega
 ·rw [show ((((7 : Nat) : Int) % ((2 ^ 64 : Nat) : Int)).toNat) = 2 ^ 3 - 1 from rfl, Nat.and_two_pow_sub_one_eq_mod]
  omega
theorem Tri.andL {n : Int} {m : Nat} (hm : m = 15 ∨ m = 7) (hk : Tri h0 ro F Q (k (.int .i64 (n % ((m + 1 : Nat) : Int))))) : Tri h0 ro F Q (intS .and (.int .i64 n) (.int .i64 (m : Int)) k):=by
 rw [intS_at]
 have e:=and_low (n:=n) hm
 have : (0 : Int) ≤ n % ((m + 1 : Nat) : Int) ∧ n % ((m + 1 : Nat) : Int) < 16:=by rcases hm with rfl | rfl <;> omega
 show Tri h0 ro F Q (k (.int .i64 (IntKind.i64.wrap (BitVec.ofInt 64 n &&& BitVec.ofInt 64 (m : Int)).toNat)))
 rw [e, show (((n % ((m + 1 : Nat) : Int)).toNat : Nat) : Int) = n % ((m + 1 : Nat) : Int) by omega, i64_of (by omega) (by omega)]
 exact hk
theorem Tri.shr4 {m : Int} (hk : Tri h0 ro F Q (k (.int .i64 (m / 16)))) : Tri h0 ro F Q (shS .shr (.int .i64 m) (.int .u64 4) k):=by
 have e : m.fdiv (2 ^ 4) = m / 16:=Int.fdiv_eq_ediv_of_nonneg m (by decide)
 rw [← e] at hk
 exact hk
theorem hx_cut {d : Nat} (hd : d < 16) : ((bts ⟨16, 136107713667768957684761770045455085872⟩).drop d).take 1 = [hxd d]:=by
 have h : ((List.range 16).all fun d => ((bts ⟨16, 136107713667768957684761770045455085872⟩).drop d).take 1 == [hxd d]) = true:=by kernel_rfl
 exact beq_iff_eq.1 (List.all_eq_true.1 h d (List.mem_range.2 hd))
theorem hex_from : ∀ (m i : Nat) (n : Int) (z : Bs) (h : Hp) (l : List Asn), i + m = 16 → z.n ≤ i → St l h →
 Tri h true l (rText (48 :: 120 :: hexd m n (bts z))) (M 17 [.int .i64 n, .str z, .int .i64 (i : Int)] h):=by
 intro m
 induction m with
 | zero =>
  intro i n z h l hi hz H
  refine t3 e17 fun L => ?_
  unfold B17
  refine Tri.lss (fun e => by omega) (fun e => ?_)
  apply nF
  refine Tri.strCat (by simp only [*]; omega) fun z1 nz1 ez1 => ?_
  have e1 : bts z1 = 48 :: 120 :: hexd 0 n (bts z):=by rw [ez1]; rfl
  exact Tri.done (B:=[]) ⟨z1, by rw [← bts_len, e1], e1, rfl, rfl⟩ H L
 | succ m ih =>
  intro i n z h l hi hz H
  refine t3 e17 fun L => ?_
  unfold B17
  refine Tri.lss (fun e => ?_) (fun e => by omega)
  refine Tri.ift (Tri.andL (m:=15) (.inl rfl) ?_)
  rw [show ((15 + 1 : Nat) : Int) = 16 from rfl]
  refine aD (by omega) ?_
  have hx:=hx_cut (d:=(n % 16).toNat) (by omega)
  refine Tri.cutB (by omega) (by omega) (show n % 16 + 1 ≤ ((16 : Nat) : Int) by omega) fun z3 nz3 ez3 => ?_
  rw [show (n % 16 + 1).toNat - (n % 16).toNat = 1 by omega] at nz3 ez3
  rw [hx] at ez3
  refine Tri.strCat (by simp only [*]; omega) fun z10 nz10 ez10 => ?_
  refine Tri.shr4 ?_
  refine aD (by omega) ?_
  rw [hexd]
  have e11 : bts z10 = hxd (n % 16).toNat :: bts z:=by rw [ez10, ez3]; rfl
  rw [← e11]
  exact te (ih (i + 1) (n / 16) z10 h l (by omega) (by omega) H) L
theorem sp72 {n : Int} (H : St l h) : Tri h true l (rText (hexw n)) (M 72 [.int .i64 n] h):=by
 refine t1 e72 fun L => ?_
 unfold B72
 exact te (hex_from 16 0 n ⟨0, 0⟩ h l rfl (Nat.le_refl _) H) L
theorem three {b : Nat} (hb : b < 256) : ([48, 48] ++ decw b).length ≤ 5 ∧ 3 ≤ ([48, 48] ++ decw b).length ∧ ([48, 48] ++ decw b).drop (([48, 48] ++ decw b).length - 3) = [48 + b / 100, 48 + b / 10 % 10, 48 + b % 10]:=by
 have e : ∀ d, d < 100 → (UInt8.ofNat (48 + d)).toNat = 48 + d:=fun d hd => by rw [UInt8.toNat_ofNat']; omega
 unfold decw
 by_cases h1 : b < 10
 ·rw [Lib.decDigits_one h1, List.map_singleton, e _ (by omega)]
  refine ⟨by simp, by simp, ?_⟩
  show [48, 48, 48 + b] = _
  rw [show b / 100 = 0 by omega, show b / 10 % 10 = 0 by omega, show b % 10 = b by omega]
 ·by_cases h2 : b < 100
  ·rw [Lib.decDigits_two h1 h2]
   simp only [List.map_cons, List.map_nil]
   rw [e _ (by omega), e _ (by omega)]
   refine ⟨by simp, by simp, ?_⟩
   show [48, 48 + b / 10, 48 + b % 10] = _
   rw [show b / 100 = 0 by omega, show b / 10 % 10 = b / 10 by omega]
  ·rw [Lib.decDigits, dif_neg h1, Lib.decDigits_two (i := b / 10) (by omega) (by omega)]
   simp only [List.map_append, List.map_cons, List.map_nil]
   rw [e _ (by omega), e _ (by omega), e _ (by omega)]
   refine ⟨by simp, by simp, ?_⟩
   show [48 + b / 10 / 10, 48 + b / 10 % 10, 48 + b % 10] = _
   rw [show b / 10 / 10 = b / 100 by omega]
theorem q1_len (b : Nat) : (q1 b).length ≤ 4:=by
 unfold q1
 split
 ·decide
 ·split
  ·exact Nat.le_of_ble_eq_true rfl
  ·split <;> exact Nat.le_of_ble_eq_true rfl
theorem q1_lt {b : Nat} (hb : b < 256) : ∀ c ∈ q1 b, c < 256:=by
 unfold q1
 split
 ·decide
 ·split
  ·intro c hc; simp at hc; omega
  ·split
   ·intro c hc; simp at hc; omega
   ·intro c hc; simp at hc; omega
theorem quote_from {s : Bs} {bb : Nat} (hs : s.n ≤ 70000) : ∀ (m i : Nat) (Y : List Nat) (h : Hp) (l : List Asn), s.n - i < m → i ≤ s.n → Y.length ≤ 4 * i + 1 → (∀ b ∈ Y, b < 256) → Y ++ ((bts s).drop i).flatMap q1 ++ [34] = quoW (bts s) → St (BD bb Y :: l) h →
 Tri h false l (rText (quoW (bts s))) (M 13 [.str s, .ptr bb 0, .int .i64 (s.n : Nat), .int .i64 (i : Int)] h):=by
 intro m
 induction m with
 | zero => intro i Y h l hm; omega
 | succ m ih =>
  intro i Y h l hm hi hY hb hW H
  have k15 : ∀ (Z : List Nat) (h : Hp) (l : List Asn), i < s.n → Z = Y ++ q1 (s.byte i) → St (BD bb Z :: l) h → Tri h false l (rText (quoW (bts s))) (M 15 [.str s, .ptr bb 0, .int .i64 (s.n : Nat), .int .i64 (i : Int)] h):=by
   intro Z h l hlt hZ H
   have hq:=q1_len (s.byte i)
   refine t4 e15 fun L => ?_
   unfold B15
   refine aD (by omega) ?_
   refine te (ih (i + 1) Z h l (by omega) (by omega) (by rw [hZ, List.length_append]; omega) (by rw [hZ]; exact lt_app hb (q1_lt (bts_lt _ _))) ?_ H) L
   rw [← hW, hZ, bts_drop hlt, List.flatMap_cons, List.append_assoc Y]
  refine t4 e13 fun L => ?_
  unfold B13
  refine Tri.lss ?_ ?_<;>intro e
  ·have hlt : i < s.n := by omega
   have hbi:=bts_lt s i
   apply nT
   refine iS (by omega) ?_
   rw [show ((i : Int)).toNat = i from rfl]
   generalize hc : s.byte i = c at k15 hbi ⊢
   have done : ∀ {Z : List Nat} {h h0 : Hp}, Z = Y ++ q1 c → St (BD bb Z :: l) h → Lo false h0 h → Tri h0 false l (rText (quoW (bts s))) (M 15 [.str s, .ptr bb 0, .int .i64 (s.n : Nat), .int .i64 (i : Int)] h) := fun hZ H L =>
    te (k15 _ _ _ hlt hZ H) L
   refine Tri.eql ?_ ?_<;>intro e1
   ·have hq : q1 c = [92, 110] := by unfold q1; rw [if_pos (Int.ofNat.inj e1)]
    refine Tri.ift (Mid.tb (sp144 (by omega) (by decide) H) L fun v h B hq2 H L => ?_)
    obtain ⟨rfl, rfl⟩:=hq2
    exact done (by rw [hq]; rfl) H L
   ·have n1 : c ≠ 10 := fun e => e1 (congrArg Int.ofNat e)
    apply nF
    have two : c = 34 ∨ c = 92 → q1 c = [92, c]:=fun e => by unfold q1; rw [if_neg n1, if_pos e]
    refine Tri.eql ?_ ?_<;>intro e2
    ·have n2 : c = 34 := Int.ofNat.inj e2
     apply gtf
     apply pT
     apply nT
     refine tbe (sp142 (by first|assumption|omega|rfl|(dsimp;omega)) H) L fun h H L => ?_
     refine tbe (sp142 (Y:=Y ++ [92]) (by rw [List.length_append, List.length_singleton]; omega) H) L fun h H L => ?_
     exact done (by rw [two (.inl n2), List.append_assoc]; rfl) H L
    ·have n2 : c ≠ 34 := fun e => e2 (congrArg Int.ofNat e)
     apply gff
     apply bI
     refine Tri.eql ?_ ?_<;>intro e3
     ·have n3 : c = 92 := Int.ofNat.inj e3
      apply bS
      apply pF
      apply nT
      refine tbe (sp142 (by first|assumption|omega|rfl|(dsimp;omega)) H) L fun h H L => ?_
      refine tbe (sp142 (Y:=Y ++ [92]) (by rw [List.length_append, List.length_singleton]; omega) H) L fun h H L => ?_
      exact done (by rw [two (.inr n3), List.append_assoc]; rfl) H L
     ·have n3 : c ≠ 92 := fun e => e3 (congrArg Int.ofNat e)
      have num : ∀ {h h0 : Hp}, (c < 32 ∨ 126 < c) → St (BD bb Y :: l) h → Lo false h0 h → Tri h0 false l (rText (quoW (bts s))) (convI .i64 (.int .u8 (c : Int)) fun v25 => bindS (M 74 [v25] h) fun v26 h27 => strS .add (.str ⟨2, 12336⟩) v26 fun v28 => bindS (lenStr v28 fun v => some (v, h27)) fun v29 h30 => intS .sub v29 (.int .i64 3) fun v31 =>
       slStrK (some v31) none v28 fun v32 => strS .add (.str ⟨1, 92⟩) v32 fun v33 => bindS (M 144 [.ptr bb 0, v33] h30) fun v34 h35 => M 15 [.str s, .ptr bb 0, .int .i64 (s.n : Nat), .int .i64 (i : Int)] h35):=by
       intro h h0 hr H L
       have hq : q1 c = [92, 48 + c / 100, 48 + c / 10 % 10, 48 + c % 10]:=by unfold q1; rw [if_neg n1, if_neg (fun e => e.elim n2 n3), if_pos hr]
       obtain ⟨t1, t2, t3⟩:=three hbi
       refine Tri.conv ?_
       rw [i64_of (by omega) (by omega)]
       have ht : (decw c).length + 2 ≤ 5 ∧ 3 ≤ (decw c).length + 2:=by
        rw [List.length_append] at t1 t2
        exact ⟨by rw [Nat.add_comm]; exact t1, by rw [Nat.add_comm]; exact t2⟩
       refine tb1 (sp74 (n:=c) (by omega) H) L fun v h B hq2 H L => ?_
       obtain ⟨z200, nz200, ez200, rfl, rfl⟩:=hq2
       generalize h2 : (⟨2, 12336⟩ : Bs) = z2
       have n2' : z2.n = 2:=by rw [← h2]
       have e2' : bts z2 = [48, 48]:=by rw [← h2]; rfl
       generalize h3 : (⟨1, 92⟩ : Bs) = z3
       have n3' : z3.n = 1:=by rw [← h3]
       have e3' : bts z3 = [92]:=by rw [← h3]; rfl
       refine Tri.strCat (by simp only [*]; omega) fun z210 nz210 ez210 => ?_
       apply lS
       refine Tri.subN (by omega) (by omega) ?_
       refine Tri.cutLo (by omega) (by omega) fun z215 nz215 ez215 => ?_
       refine Tri.strCat (by simp only [*]; omega) fun z216 nz216 ez216 => ?_
       refine tbe (sp144 (by first|assumption|omega|rfl|(dsimp;omega)) (by first|assumption|omega|rfl|(dsimp;omega)) H) L fun h H L => ?_
       refine done ?_ H L
       have el : z210.n = ([48, 48] ++ decw c).length:=by rw [List.length_append, nz210, nz200, n2']; rfl
       rw [ez216, e3', ez215, ez210, e2', ez200, show ((z210.n : Int) - 3).toNat = z210.n - 3 by omega, el, t3, hq]; rfl
      apply bS
      apply pF
      apply nF
      refine Tri.lss ?_ ?_<;>intro e4
      ·exact Tri.eqv rfl (num (.inl (by omega)) H L)
      ·apply gff
       apply bI
       refine Tri.gtr ?_ ?_<;>intro e5
       ·exact Tri.eqv rfl (num (.inr (by omega)) H L)
       ·have hq : q1 c = [c] := by unfold q1; rw [if_neg n1, if_neg (fun e => e.elim n2 n3), if_neg (by omega)]
        apply bS
        apply pF
        apply nF
        refine tbe (sp142 (by first|assumption|omega|rfl|(dsimp;omega)) H) L fun h H L => ?_
        exact done (by rw [hq]) H L
  ·rw [bts_end (by omega)] at hW
   apply nF
   refine tbe (sp142 (by first|assumption|omega|rfl|(dsimp;omega)) H) L fun h H L => ?_
   refine Mid.tb (sp146 (by rw [List.length_append, List.length_singleton]; omega) (lt_app hb fun c hc => by rw [List.mem_singleton.1 hc]; decide) H) L fun v h B hq H L => ?_
   obtain ⟨z, nz, ez, rfl, rfl⟩:=hq
   have e34 : Y ++ [34] = quoW (bts s):=by rw [← hW]; simp
   rw [e34] at nz ez
   exact Tri.done (B:=[]) ⟨z, nz, ez, rfl, rfl⟩ H L
theorem sp76 {s : Bs} (hs : s.n ≤ 70000) (H : St l h) : Tri h false l (rText (quoW (bts s))) (M 76 [.str s] h):=by
 refine t1 e76 fun L => ?_
 unfold B76
 refine newB H L fun bb h hb H L => ?_
 refine tbe (sp142 (Y:=[]) (Nat.zero_le _) H) L fun h H L => ?_
 apply lS
 exact te (quote_from (bb:=bb) hs (s.n + 1) 0 [34] h l (by omega) (by omega) (by decide) (by decide) (by rw [List.drop_zero]; unfold quoW; rfl) H) L
structure Wr (x : Ti) : Prop where
 ok : x.ok
 z : x.z.n ≤ 70000
 N : x.t.k = 4 → -9223372036854775808 ≤ x.t.N ∧ x.t.N < 9223372036854775808
theorem sp40 {x : Ti} (hx : Wr x) (H : St l h) : Tri h false l (rText (wrt x.t)) (M 40 [.agg x.c] h):=by
 obtain ⟨⟨nz, ez⟩, hz, hN⟩:=hx
 generalize hW : wrt x.t = W
 unfold wrt at hW
 refine t1 e40 fun L => ?_
 unfold B40
 refine nw H L fun b0 h hb0 H L => ?_
 replace H : St (Mid.row b0 [.int .u8 x.t.k, .str x.z, .int .i64 x.t.N, .int .i64 (x.ln : Int)] :: l) h:=H
 refine al 0 H rfl rfl ?_
 refine Tri.eql ?_ ?_<;>intro e1
 ·rw [if_pos e1] at hW
  obtain ⟨N1, N2⟩:=hN e1
  apply nT
  refine al 0 H rfl rfl ?_
  refine Tri.lss ?_ ?_<;>intro e2
  ·rw [if_pos e2] at hW
   apply nT
   refine al 0 H rfl rfl ?_
   refine tb1 (sp72 H) L fun v h B hq23 H L => ?_
   obtain ⟨z23, nz23, ez23, rfl, rfl⟩:=hq23
   subst hW
   exact Tri.done (B:=[]) ⟨z23, nz23, ez23, rfl, rfl⟩ H.tl L
  ·rw [if_neg (by omega)] at hW
   apply nF
   refine al 0 H rfl rfl ?_
   subst hW
   have sp74':=@sp74 l h x.t.N.toNat
   rw [show ((x.t.N.toNat : Nat) : Int) = x.t.N by omega] at sp74'
   refine tb1 (sp74' (by omega) H.tl) L fun v h B hq2 H L => ?_
   obtain ⟨z, nz, ez, rfl, rfl⟩:=hq2
   exact Tri.done (B:=[]) ⟨z, nz, ez, rfl, rfl⟩ H L
 ·rw [if_neg e1] at hW
  apply nF
  refine Tri.eql ?_ ?_<;>intro e2
  ·rw [if_pos e2] at hW
   apply nT
   refine al 0 H rfl rfl ?_
   refine Mid.tb (sp76 (by first|assumption|omega|rfl|(dsimp;omega)) H) L fun v h B hq73 H L => ?_
   obtain ⟨z73, nz73, ez73, rfl, rfl⟩:=hq73
   rw [ez] at nz73 ez73
   subst hW
   exact Tri.done (B:=[]) ⟨z73, nz73, ez73, rfl, rfl⟩ H.tl L
  ·rw [if_neg e2] at hW
   apply nF
   refine al 0 H rfl rfl ?_
   subst hW
   exact Tri.done (B:=[]) ⟨x.z, nz, ez, rfl, rfl⟩ H.tl L
theorem tcs_take (O : List Ti) (i : Nat) (x : Ti) (h : O[i]? = some x) : ((tcs O).drop (i * 4)).take 4 = x.c:=by
 induction O generalizing i with
 | nil => simp at h
 | cons y O ih =>
  cases i with
  | zero =>
   rw [List.getElem?_cons_zero, Option.some.injEq] at h
   subst h
   rfl
  | succ i =>
   rw [List.getElem?_cons_succ] at h
   rw [tcs, List.flatMap_cons, show (i + 1) * 4 = y.c.length + i * 4 by show _ = 4 + _; omega, List.drop_length_add_append]
   exact ih i h
theorem tcs_app (A B : List Ti) : tcs (A ++ B) = tcs A ++ tcs B:=List.flatMap_append
def z0 (x : Ti) : Ti:=⟨x.z, x.t, 0⟩
def rPl (O : List Ti) : V → List Asn → Prop:=fun w B => ∃ pv, w = pv ∧ B = [vc true pv 25 4 (tcs (O.map z0))]
theorem plain_from {ov : V} {O : List Ti} (hlen : O.length ≤ 100000) : ∀ (m i : Nat) (pv : V) (h : Hp) (l : List Asn), i + m = O.length → St (vc true ov 25 4 (tcs O) :: vc true pv 25 4 (tcs ((O.take i).map z0)) :: l) h →
 Tri h false l (rPl O) (M 7 [ov, pv, .int .i64 (i : Int)] h):=by
 intro m
 induction m with
 | zero =>
  intro i pv h l hi H
  rw [List.take_of_length_le (show O.length ≤ i by omega)] at H
  refine t3 e7 fun L => ?_
  unfold B7
  apply bL
  refine Tri.lenV 0 O.length H rfl (by decide) (tcs_len O) ?_
  apply bS
  refine Tri.lss (fun e => by omega) (fun e => ?_)
  apply nF
  exact Tri.done (B:=[_]) ⟨_, rfl, rfl⟩ H.tl L
 | succ m ih =>
  intro i pv h l hi H
  have hlt : i < O.length:=by omega
  have hx : O[i]? = some O[i]:=List.getElem?_eq_getElem hlt
  have ht : O.take (i + 1) = O.take i ++ [O[i]]:=by rw [List.take_succ, hx]; rfl
  have ihx:=ih (i + 1)
  rw [ht] at ihx
  generalize O[i] = x at hx ihx
  refine t3 e7 fun L => ?_
  unfold B7
  apply bL
  refine Tri.lenV 0 O.length H rfl (by decide) (tcs_len O) ?_
  apply bS
  refine Tri.lss (fun e => ?_) (fun e => by omega)
  apply nT
  refine Tri.idxV 0 H rfl (by omega) (by rw [tcs_len]; omega) (by decide) fun b n c g ev hg => ?_
  subst ev
  refine Tri.loadsV 0 (X:=x.c) (by decide) H rfl (by rw [tcs_len]; omega) (by rw [show 0 + ((i : Int)).toNat * 4 = i * 4 by omega]; exact tcs_take O i x hx) ?_
  refine nw H L fun b20 h hb20 H L => ?_
  refine w0 0 H rfl rfl rfl L (by first|rfl|assumption) fun h H L => ?_
  apply ad
  refine sto 0 H rfl rfl L (by first|rfl|assumption) fun h H L => ?_
  refine ls 0 H rfl rfl ?_
  refine Tri.bld (e:=_) (s:=_) H L rfl rfl fun b25 h hb25 H L => ?_
  have hlen2 : ((O.take i).map z0).length ≤ 100000:=by rw [List.length_map, List.length_take]; omega
  refine Tri.app 3 ((O.take i).map z0).length 1 (new:=(z0 x).c) H rfl (H.newCells (i:=0) rfl rfl) (by decide) (tcs_len _) rfl (by omega) (by omega) rfl L (Own.off _ _) fun v' h H L hO h1 => ?_
  refine aD (by omega) ?_
  refine te (ihx v' h l (by omega) ?_) L
  rw [List.map_append, tcs_app]
  exact H.tl.tl
theorem sp42 {ov : V} {O : List Ti} (hlen : O.length ≤ 100000) (H : St (vc true ov 25 4 (tcs O) :: l) h) : Tri h false l (rPl O) (M 42 [ov] h):=by
 refine t1 e42 fun L => ?_
 unfold B42
 exact te (plain_from hlen O.length 0 .nilSlice h l (by omega) (St.vc_new true 25 4 H).u1) L
theorem sp32 (H : St l h) : Tri h true l (rNo (.bool true)) (M 32 [] h):=by
 have e : M 32 [] h = some (.bool true, h):=by
  refine (@lim_F Tryz.prog (orc fnA Inv) labs 16 _ _ _).2 ⟨0, ?_⟩
  rfl
 rw [e]
 exact Tri.done (B:=[]) ⟨rfl, rfl⟩ H (Lo.refl _ _)
theorem cmp_ti {x y : Ti} (h1 : x.t.k = y.t.k) (h2 : bts x.z = bts y.z) (h3 : x.t.N = y.t.N) (h4 : x.ln = y.ln) : cmpV [(0, .int .u8), (1, .string), (2, .int .i64), (3, .int .i64)] (.agg x.c) (.agg y.c) = some true:=by
 have hz : x.z.eq y.z = true:=by rw [bts_eq, h2]; exact decide_eq_true rfl
 unfold Ti.c
 rw [h1, h3, h4]
 simp only [cmpV, cmpL, getN, eqLeaf, kEq_self, iEq_eq, cond_true, hz, beq_self_eq_true]
def Bo (O P : List Ti) : Prop:=O.length = P.length ∧ ∀ (i : Nat) x y, O[i]? = some x → P[i]? = some y → x.t.k = y.t.k ∧ bts x.z = bts y.z ∧ x.t.N = y.t.N
theorem same_from {ov pv : V} {O P : List Ti} (hB : Bo O P) (hlen : O.length ≤ 100000) : ∀ (m i : Nat) (h : Hp) (l : List Asn), i + m = O.length → St (vc true ov 25 4 (tcs (O.map z0)) :: vc true pv 25 4 (tcs (P.map z0)) :: l) h →
 Tri h true l (rNo (.bool true)) (M 3 [ov, pv, .int .i64 (i : Int)] h):=by
 obtain ⟨hl, hB⟩:=hB
 have hOl : (O.map z0).length = O.length:=List.length_map _
 have hPl : (P.map z0).length = P.length:=List.length_map _
 intro m
 induction m with
 | zero =>
  intro i h l hi H
  refine t3 e3 fun L => ?_
  unfold B3
  apply bL
  refine Tri.lenV 0 (O.map z0).length H rfl (by decide) (tcs_len _) ?_
  apply bS
  refine Tri.lss (fun e => by omega) (fun e => ?_)
  apply nF
  refine tbe1 (sp32 H) L fun h H L => ?_
  exact Tri.done (B:=[]) ⟨rfl, rfl⟩ H.tl.tl L
 | succ m ih =>
  intro i h l hi H
  have hlt : i < O.length:=by omega
  have hx : O[i]? = some O[i]:=List.getElem?_eq_getElem hlt
  have hy : P[i]? = some (P[i]'(by omega)):=List.getElem?_eq_getElem (by omega)
  obtain ⟨c1, c2, c3⟩:=hB i _ _ hx hy
  have hx' : (O.map z0)[i]? = some (z0 O[i]):=by rw [List.getElem?_map, hx]; rfl
  have hy' : (P.map z0)[i]? = some (z0 (P[i]'(by omega))):=by rw [List.getElem?_map, hy]; rfl
  generalize O[i] = x at hx' c1 c2 c3
  generalize (P[i]'(by omega)) = y at hy' c1 c2 c3
  have hc:=cmp_ti (x:=z0 x) (y:=z0 y) c1 c2 c3 rfl
  refine t3 e3 fun L => ?_
  unfold B3
  apply bL
  refine Tri.lenV 0 (O.map z0).length H rfl (by decide) (tcs_len _) ?_
  apply bS
  refine Tri.lss (fun e => ?_) (fun e => by omega)
  apply nT
  refine Tri.idxV 0 H rfl (by omega) (by rw [tcs_len]; omega) (by decide) fun b n c g ev hg => ?_
  subst ev
  refine Tri.loadsV 0 (X:=(z0 x).c) (by decide) H rfl (by rw [tcs_len]; omega) (by rw [show 0 + ((i : Int)).toNat * 4 = i * 4 by omega]; exact tcs_take _ i _ hx') ?_
  refine Tri.idxV 1 H rfl (by omega) (by rw [tcs_len]; omega) (by decide) fun b2 n2 c2 g2 ev2 hg2 => ?_
  subst ev2
  refine Tri.loadsV 1 (X:=(z0 y).c) (by decide) H rfl (by rw [tcs_len]; omega) (by rw [show 0 + ((i : Int)).toNat * 4 = i * 4 by omega]; exact tcs_take _ i _ hy') ?_
  rw [hc]
  change Tri _ true _ _ (bindS (some (V.bool false, h)) _)
  apply bS
  apply nF
  refine aD (by omega) ?_
  exact te (ih (i + 1) h l (by omega) H) L
theorem unl_len {q : Nat} : ∀ (f : Nat) (R acc Y : List Nat), unl f q R acc = some Y → Y.length ≤ acc.length + 6 * R.length
 | 0, _, _, _, h => by rw [unl] at h; cases h
 | f + 1, [], _, _, h => by rw [unl] at h; cases h
 | f + 1, b :: r, acc, Y, h => by
  rw [unl] at h
  rw [List.length_cons]
  split at h
  ·split at h
   ·rw [← Option.some.inj h]; omega
   ·cases h
  ·split at h
   ·cases h
   ·split at h
    ·split at h
     ·cases h
     ·have := unl_len f _ _ Y h
      have he:=eso_ok r
      rw [List.length_append, List.length_drop] at this
      omega
    ·have := unl_len f _ _ Y h
     rw [List.length_append, List.length_singleton] at this
     omega
theorem tk_zlen (L : List Nat) : (tk L).z.length ≤ 6 * L.length + 3:=by
 unfold tk
 split
 ·show (L.take _).length ≤ _
  rw [List.length_take]; omega
 ·split
  ·exact Nat.zero_le _
  ·split
   ·split
    ·exact Nat.zero_le _
    ·show (lng L).1.length ≤ _
     unfold lng
     split
     ·exact Nat.zero_le _
     ·split
      ·exact Nat.zero_le _
      ·split
       ·exact Nat.zero_le _
       ·rename_i kk _
        have h1:=trp_le [10] (lns ((L.drop (eqn (L.drop 1) + 2)).take kk))
        have h2:=lns_le _ ((L.drop (eqn (L.drop 1) + 2)).take kk) (Nat.le_refl _)
        rw [List.length_take, List.length_drop] at h2
        show (trp _ _).length ≤ _
        omega
   ·split
    ·show (resU (unq (L.take (quo L)))).1.length ≤ _
     cases hu : unq (L.take (quo L)) with
     | none => exact Nat.zero_le _
     | some Y =>
      show Y.length ≤ _
      unfold unq at hu
      split at hu
      ·cases hu
      ·have := unl_len _ _ _ _ hu
       rw [List.length_drop, List.length_take, List.length_nil] at this
       omega
    ·split
     ·exact Nat.zero_le _
     ·rcases sgn_find L sgL sgL_down with ⟨_, a2⟩ | ⟨z, a1, _, a3, _⟩
      ·rw [a2]; exact Nat.zero_le _
      ·rw [a3]
       show (bts z).length ≤ _
       rw [bts_len]
       have:=(sg_max z a1).2
       omega
theorem lexL_zlen {N : Nat} : ∀ (f : Nat) (R : List Nat) (ln : Nat) (acc : List (Tk × Nat)), R.length ≤ N → (∀ x ∈ acc, x.1.z.length ≤ 6 * N + 3) → ∀ x ∈ (lexL f R ln acc).1, x.1.z.length ≤ 6 * N + 3
 | 0, _, _, _, _, _, x, hx => nomatch hx
 | f + 1, R, ln, acc, hR, hA, x, hx => by
  rw [lexL_B] at hx
  have hl : (R.drop (cnt isSp R)).length ≤ N:=by rw [List.length_drop]; omega
  generalize R.drop (cnt isSp R) = D at hx hl
  unfold lexB at hx
  split at hx
  ·rcases List.mem_append.1 hx with hx | hx
   ·exact hA x hx
   ·rw [List.mem_singleton.1 hx]; exact Nat.zero_le _
  ·split at hx
   ·exact lexL_zlen f _ _ _ (by rw [List.length_drop]; omega) hA x hx
   ·split at hx
    ·exact nomatch hx
    ·split at hx
     ·exact nomatch hx
     ·refine lexL_zlen f _ _ _ (by rw [List.length_drop]; omega) (fun y hy => ?_) x hx
      rcases List.mem_append.1 hy with hy | hy
      ·exact hA y hy
      ·rw [List.mem_singleton.1 hy]
       have:=tk_zlen D
       show (tk D).z.length ≤ _
       omega
theorem lexL_len : ∀ (f : Nat) (R : List Nat) (ln : Nat) (acc : List (Tk × Nat)), (lexL f R ln acc).1.length ≤ acc.length + f
 | 0, _, _, _ => Nat.zero_le _
 | f + 1, R, ln, acc => by
  rw [lexL]
  split
  ·show (acc ++ [_]).length ≤ _
   rw [List.length_append, List.length_singleton]; omega
  ·split
   ·exact Nat.le_trans (lexL_len f _ _ acc) (by omega)
   ·split
    ·exact Nat.zero_le _
    ·split
     ·exact Nat.zero_le _
     ·refine Nat.le_trans (lexL_len f _ _ _) ?_
      rw [List.length_append, List.length_singleton]; omega
theorem flat_q1 (S : List Nat) : (S.flatMap q1).length ≤ 4 * S.length:=by
 induction S with
 | nil => exact Nat.le_refl _
 | cons b S ih =>
  have:=q1_len b
  rw [List.flatMap_cons, List.length_append, List.length_cons]; omega
theorem wrt_len {x : Ti} (hx : Wr x) : (wrt x.t).length ≤ 300000:=by
 obtain ⟨⟨nz, ez⟩, hz, hN⟩:=hx
 unfold wrt
 split
 ·rename_i h4
  obtain ⟨N1, N2⟩:=hN h4
  split
  ·unfold hexw
   rw [List.length_cons, List.length_cons, hexd_len]; decide
  ·have := Lib.itoa_length_le ((x.t.N.toNat : Nat) : Int) (by omega) (by omega)
   rw [Lib.itoa_nonneg] at this
   unfold decw
   rw [List.length_map]; omega
 ·split
  ·have := flat_q1 x.t.z
   unfold quoW
   rw [List.length_cons, List.length_append, List.length_singleton]; omega
  ·omega
abbrev Mem:=Nat → Nat → Option V
def FSl {α : Type} (s : Nat) (P : Nat → Nat → α → Prop) (v : V) (l : List α) : Prop :=
 (v = .nilSlice ∧ l = []) ∨ ∃ b o c, v = .slice b o l.length c false ∧ l.length ≤ c ∧ l.length ≤ 9223372036854775807 ∧ ∀ i (hi : i < l.length), P b (o + i * s) l[i]
def IntAt (S : Mem) (b o : Nat) (n : Int) : Prop:=S b o = some (.int .i64 n)
section
variable {α : Type} {s : Nat} {P : Nat → Nat → α → Prop} {L : List α} {v : V}
theorem FSl.len (hv : FSl s P v L) (hk : Tri h0 ro F Q (k (.int .i64 (L.length : Nat)))) : Tri h0 ro F Q (Mid.lenSl v k):=by
 rcases hv with ⟨rfl, rfl⟩ | ⟨b, o, c, rfl, _⟩ <;> exact hk
theorem FSl.idx {d : IntKind} {i : Int} (hv : FSl s P v L) (h1 : 0 ≤ i) (h2 : i < (L.length : Int)) (hk : ∀ b o, P b o (L[i.toNat]'(by omega)) → Tri h0 ro F Q (k (.ptr b o))) : Tri h0 ro F Q (idxS s v (.int d i) k):=by
 rcases hv with ⟨rfl, rfl⟩ | ⟨b, o, c, rfl, _, _, hP⟩
 ·simp only [List.length_nil] at h2; omega
 ·exact Tri.idx h1 (by omega) (hk b _ (hP i.toNat (by omega)))
theorem FSl.small (hv : FSl s P v L) : L.length ≤ 9223372036854775807:=by
 rcases hv with ⟨rfl, rfl⟩ | ⟨b, o, c, rfl, _, h, _⟩
 ·simp
 ·exact h
end
def gzB : List Bs:=[⟨1, 32⟩, ⟨1, 10⟩, ⟨3, 598025⟩, ⟨5, 44965899552⟩, ⟨9, 597023379353810840864⟩, ⟨2, 2573⟩, ⟨12, 28856291290715960817430113568⟩, ⟨2, 3083⟩]
theorem gz_all : ((List.range 8).all fun k => match gzB[k]? with | some z => decide (bts z = gapL k) && Nat.ble z.n 12 | none => false) = true:=by kernel_rfl
theorem gz_at {k : Nat} (hk : k < 8) : ∃ z, gzB[k]? = some z ∧ bts z = gapL k ∧ z.n ≤ 12:=by
 have h:=List.all_eq_true.1 gz_all k (List.mem_range.2 hk)
 cases hz : gzB[k]? with
 | none => rw [hz] at h; cases h
 | some z =>
  rw [hz] at h
  rw [Bool.and_eq_true, decide_eq_true_iff] at h
  exact ⟨z, rfl, h.1, Nat.le_of_ble_eq_true h.2⟩
def gi (ks : List Int) (i : Nat) : Nat:=if ks = [] then 0 else ((ks.getD (i % ks.length) 0) % 8).toNat
theorem gi_lt (ks : List Int) (i : Nat) : gi ks i < 8:=by unfold gi; split <;> omega
def wr1 (ks : List Int) : Nat → List Ti → List Nat
 | _, [] => []
 | i, x :: r => wrt x.t ++ gapL (gi ks i) ++ wr1 ks (i + 1) r
def WSpec (ks : List Int) (S : Mem) (bv ov : V) (O : List Ti) (W : List Nat) (m : Nat) : Prop := ∀ (i : Nat) (s : Bs) (h : Hp) (l : List Asn), i + m = O.length → s.n ≤ 300012 * i → bts s ++ wr1 ks i (O.drop i) = W → St (vc true ov 25 4 (tcs O) :: frz S :: l) h →
 Tri h false l (rNo (.bool true)) (M 1 [bv, ov, .str s, .int .i64 (i : Int)] h)
theorem k5_ok {ks : List Int} {S : Mem} {bv ov : V} {O : List Ti} {W : List Nat} {m i : Nat} (ih : WSpec ks S bv ov O W m) (hW : ∀ x ∈ O, Wr x) (hlen : O.length ≤ 100000) {s : Bs} (hi : i + (m + 1) = O.length) (hs : s.n ≤ 300012 * i) (he : bts s ++ wr1 ks i (O.drop i) = W)
 (H : St (vc true ov 25 4 (tcs O) :: frz S :: l) h) : Tri h false l (rNo (.bool true)) (M 5 [bv, ov, .str s, .int .i64 (i : Int), .int .i64 (gi ks i : Nat)] h):=by
 have hlt : i < O.length:=by omega
 have hx : O[i]? = some O[i]:=List.getElem?_eq_getElem hlt
 rw [List.drop_eq_getElem_cons hlt, wr1] at he
 have hwx:=hW _ (List.getElem_mem hlt)
 obtain ⟨z, hz1, hz2, hz3⟩:=gz_at (gi_lt ks i)
 have hk8:=gi_lt ks i
 have hc : (gzB.map V.str)[gi ks i]? = some (.str z):=by rw [List.getElem?_map, hz1]; rfl
 rw [← hz2] at he
 generalize gi ks i = g at hk8 hc
 generalize O[i] = x at hx he hwx
 have hwl:=wrt_len hwx
 refine t5 e5 fun L => ?_
 unfold B5
 refine Tri.bld (e:=_) (s:=_) H L rfl rfl fun b0 h hb0 H L => ?_
 replace H : St (vc false (.slice b0 0 8 8 false) 9 1 (gzB.map V.str) :: vc true ov 25 4 (tcs O) :: frz S :: l) h:=H
 refine Tri.idx (by omega) (by omega) ?_
 refine Tri.loadV 0 (w:=.str z) H rfl (by rw [show 0 + ((g : Int)).toNat * 1 = g by rw [Int.toNat_natCast]; omega]; exact hc) ?_
 replace H:=H.tl
 refine Tri.idxV 0 H rfl (by omega) (by rw [tcs_len]; omega) (by decide) fun b n c g ev hg => ?_
 subst ev
 refine Tri.loadsV 0 (X:=x.c) (by decide) H rfl (by rw [tcs_len]; omega) (by rw [show 0 + ((i : Int)).toNat * 4 = i * 4 by omega]; exact tcs_take O i x hx) ?_
 refine Mid.tb (sp40 hwx H) L fun v h B hq H L => ?_
 obtain ⟨y, ny, ey, rfl, rfl⟩:=hq
 refine Tri.strCat (by simp only [*]; omega) fun z20 nz20 ez20 => ?_
 refine Tri.strCat (by simp only [*]; omega) fun z21 nz21 ez21 => ?_
 refine aD (by omega) ?_
 refine te (ih (i + 1) z21 h l (by omega) (by omega) ?_ H) L
 rw [ez21, ez20, ey, ← he]
 simp only [List.append_assoc]
theorem loop1 {ks : List Int} {S : Mem} {bv ov : V} {O : List Ti} {W : List Nat} (hk : FSl 1 (IntAt S) bv ks) (hW : ∀ x ∈ O, Wr x) (hlen : O.length ≤ 100000)
 (fin : ∀ (s : Bs) (h : Hp) (l : List Asn), bts s = W → St (vc true ov 25 4 (tcs O) :: frz S :: l) h → Tri h false l (rNo (.bool true)) (M 1 [bv, ov, .str s, .int .i64 (O.length : Nat)] h)) : ∀ m, WSpec ks S bv ov O W m:=by
 intro m
 induction m with
 | zero =>
  intro i s h l hi hs he H
  obtain rfl : i = O.length:=hi
  rw [List.drop_eq_nil_of_le (Nat.le_refl _), wr1, List.append_nil] at he
  exact fin s h l he H
 | succ m ih =>
  intro i s h l hi hs he H
  have k5:=fun {h : Hp} {l : List Asn} (H : St (vc true ov 25 4 (tcs O) :: frz S :: l) h) => k5_ok (ks:=ks) (bv:=bv) ih hW hlen hi hs he H
  have hsm:=hk.small
  refine t4 e1 fun L => ?_
  unfold B1
  apply bL
  refine Tri.lenV 0 O.length H rfl (by decide) (tcs_len O) ?_
  apply bS
  refine Tri.lss (fun e => ?_) (fun e => by omega)
  apply nT
  refine Tri.eqv (bind_lenSl _ _) (FSl.len hk ?_)
  apply bS
  have stop : ∀ {g : Int} {h h0 : Hp}, g = (gi ks i : Nat) → St (vc true ov 25 4 (tcs O) :: frz S :: l) h → Lo false h0 h → Tri h0 false l (rNo (.bool true)) (M 5 [bv, ov, .str s, .int .i64 (i : Int), .int .i64 g] h) := fun e H L => by
   subst e
   exact te (k5 H) L
  refine Tri.gtr ?_ ?_<;>intro e2
  ·have hk0 : 0 < ks.length := by omega
   refine Tri.ift (Tri.eqv (bind_lenSl _ _) (FSl.len hk (Tri.bs ?_)))
   refine Tri.rem (by omega) ?_
   have er : ((i : Int).tmod (ks.length : Int)) = ((i % ks.length : Nat) : Int):=rfl
   rw [er]
   have hm : i % ks.length < ks.length:=Nat.mod_lt _ hk0
   refine FSl.idx hk (by omega) (by omega) fun b o hb => ?_
   refine Tri.loadF 1 H rfl hb ?_
   refine Tri.andL (m:=7) (.inr rfl) ?_
   refine stop ?_ H L
   have hne : ks ≠ []:=fun c => by rw [c] at hk0; exact absurd hk0 (by decide)
   unfold gi
   rw [if_neg hne]
   have eg : ks.getD (i % ks.length) 0 = ks[i % ks.length]:=by rw [List.getD_eq_getElem?_getD, List.getElem?_eq_getElem hm]; rfl
   rw [eg]
   show ks[((i % ks.length : Nat) : Int).toNat] % 8 = _
   simp only [Int.toNat_natCast]
   omega
  ·refine Tri.iff (stop ?_ H L)
   have : ks = []:=List.eq_nil_of_length_eq_zero (by omega)
   unfold gi
   rw [if_pos this]; rfl
end
section
variable {l F : List Asn} {h h0 : Hp} {ro : Bool} {Q : V → List Asn → Prop} {k : V → VH} {K : V → Hp → VH} {v lV : V} {i j n : Nat}
def lexA (L : List Nat) : List (Tk × Nat) × Int × Int:=lexL (L.length + 1) L 1 []
theorem sp20 {s : Bs} (hs : s.n ≤ 65535) (H : St l h) : Tri h false l (rTs (lexA (bts s))) (M 20 [.str s] h):=by
 refine t1 e20 fun L => ?_
 unfold B20
 refine nw H L fun b0 h hb0 H L => ?_
 apply lS
 refine Tri.gtr (fun e => by omega) (fun _ => ?_)
 apply nF
 refine tb1 (sp28 H) L fun v h B hq21 H L => ?_
 obtain ⟨sb21, rfl, rfl⟩:=hq21
 refine Tri.bldS rfl ?_
 refine nw H L fun b23 h hb23 H L => ?_
 refine nal 0 H rfl rfl ?_
 refine tbe (sp44 H.u1) L fun h H L => ?_
 exact te (toks_ok hs (s.n + 1) 0 1 .nilSlice [] h l (by omega) (by omega) (by omega) (Nat.le_refl _) (fun x hx => nomatch hx) (St.vc_new true 25 4 H.u1).d3 (lexA (bts s)) (by unfold lexA; rw [bts_len]; rfl)) L
theorem cmp_ne {a b : Int} (h : a ≠ 0) : cmpV [(0, .int .i64), (1, .int .i64)] (.agg [.int .i64 a, .int .i64 b]) (.agg [.int .i64 0, .int .i64 0]) = some false:=by
 simp only [cmpV, cmpL, getN, eqLeaf, kEq_self, iEq_eq, cond_true, beq_eq_false_iff_ne.2 h]
theorem cmp_zero : cmpV [(0, .int .i64), (1, .int .i64)] (.agg [.int .i64 0, .int .i64 0]) (.agg [.int .i64 0, .int .i64 0]) = some true:=by
 simp only [cmpV, cmpL, getN, eqLeaf, kEq_self, iEq_eq, cond_true, beq_self_eq_true]
def zg (ks : List Int) : Nat → List Ti → List (Tk × Nat)
 | _, [] => []
 | i, x :: r => (x.t, gi ks i) :: zg ks (i + 1) r
theorem wr1_zg {ks : List Int} {x : Ti} (hx : x.t = endT) : ∀ (O : List Ti) (i : Nat), wr1 ks i (O ++ [x]) = wrs (zg ks i O) (gi ks (i + O.length))
 | [], i => by
  show wrt x.t ++ gapL (gi ks i) ++ [] = [] ++ gapL (gi ks (i + 0))
  rw [hx, List.append_nil]; rfl
 | y :: O, i => by
  have ih:=wr1_zg (ks:=ks) hx O (i + 1)
  rw [List.cons_append, wr1, ih]
  show wrt y.t ++ gapL (gi ks i) ++ ((zg ks (i + 1) O).flatMap (fun p => wrt p.1 ++ gapL p.2) ++ gapL _) = ((y.t, gi ks i) :: zg ks (i + 1) O).flatMap _ ++ gapL _
  rw [List.flatMap_cons, List.length_cons, show i + 1 + O.length = i + (O.length + 1) by omega]
  simp only [List.append_assoc]
theorem zg_mem {ks : List Int} : ∀ (O : List Ti) (i : Nat), ∀ p ∈ zg ks i O, ∃ x ∈ O, p.1 = x.t
 | [], _, p, hp => nomatch hp
 | y :: O, i, p, hp => by
  rcases List.mem_cons.1 hp with rfl | hp
  ·exact ⟨y, List.mem_cons_self, rfl⟩
  ·obtain ⟨x, h1, h2⟩ := zg_mem O (i + 1) p hp
   exact ⟨x, List.mem_cons_of_mem _ h1, h2⟩
theorem al_zg {ks : List Int} {x : Ti} (hx : x.t = endT) : ∀ (O : List Ti) (i : Nat) (B : List Tk), Al (zg ks i O) B → (O ++ [x]).length = (B ++ [endT]).length ∧ ∀ (j : Nat) y u, (O ++ [x])[j]? = some y → (B ++ [endT])[j]? = some u → Sm y.t u
 | [], _, [], _ => ⟨rfl, fun j y u h1 h2 => by
  cases j with
  | zero =>
   have e1 : x = y:=Option.some.inj h1
   have e2 : endT = u:=Option.some.inj h2
   rw [← e1, ← e2, hx]; exact ⟨rfl, rfl, rfl⟩
  | succ j => cases h1⟩
 | [], _, _ :: _, h => h.elim
 | _ :: _, _, [], h => h.elim
 | y0 :: O, i, u0 :: B, h => by
  obtain ⟨h1, h2⟩:=al_zg hx O (i + 1) B h.2
  refine ⟨by rw [List.cons_append, List.cons_append, List.length_cons, List.length_cons, h1], fun j y u e1 e2 => ?_⟩
  cases j with
  | zero =>
   have e1 : y0 = y:=Option.some.inj e1
   have e2 : u0 = u:=Option.some.inj e2
   rw [← e1, ← e2]; exact h.1
  | succ j => exact h2 j y u e1 e2
theorem back {ks : List Int} {O P : List Ti} (hO : ∀ x ∈ O, x.ok) (hP : ∀ x ∈ P, x.ok) {A : List (Tk × Nat)} {ln' : Nat} (eO : (O.map fun x => (x.t, x.ln)) = A ++ [(endT, ln')]) (hA : ∀ x ∈ A, Fm x.1) :
 (lexA (wr1 ks 0 O)).2 = (0, 0) ∧ ((P.map fun x => (x.t, x.ln)) = (lexA (wr1 ks 0 O)).1 → Bo O P):=by
 obtain ⟨O1, O2, rfl, e1, e2⟩:=List.map_eq_append_iff.1 eO
 obtain ⟨x, rfl, e4⟩:=List.map_eq_singleton_iff.1 e2
 have e3 : x.t = endT:=congrArg Prod.fst e4
 have hF : ∀ p ∈ zg ks 0 O1, Fm p.1 := fun p hp => by
  obtain ⟨y, h1, h2⟩:=zg_mem O1 0 p hp
  have : (y.t, y.ln) ∈ A:=by rw [← e1]; exact List.mem_map.2 ⟨y, h1, rfl⟩
  rw [h2]; exact hA _ this
 have hW:=wr1_zg (ks:=ks) e3 O1 0
 rw [hW]
 obtain ⟨B, b1, b2⟩:=wrs_read (gi ks (0 + O1.length)) (zg ks 0 O1) hF ((wrs (zg ks 0 O1) (gi ks (0 + O1.length))).length + 1) 1 [] (Nat.lt_succ_self _)
 change nln (lexA (wrs (zg ks 0 O1) (gi ks (0 + O1.length)))) = _ at b1
 have herr:=lexL_err ((wrs (zg ks 0 O1) (gi ks (0 + O1.length))).length + 1) (wrs (zg ks 0 O1) (gi ks (0 + O1.length))) 1 []
 change ((lexA (wrs (zg ks 0 O1) (gi ks (0 + O1.length)))).2.1 = 0 → (lexA (wrs (zg ks 0 O1) (gi ks (0 + O1.length)))).2.2 = 0) ∧ _ at herr
 generalize lexA (wrs (zg ks 0 O1) (gi ks (0 + O1.length))) = X at b1 herr
 obtain ⟨X1, X2, X3⟩:=X
 unfold nln at b1
 obtain ⟨b3, b4⟩:=Prod.mk.inj b1
 dsimp only at b3 b4 herr ⊢
 have h3:=herr.1 b4
 refine ⟨by rw [b4, h3], fun eP => ?_⟩
 obtain ⟨c1, c2⟩:=al_zg e3 O1 0 B b2
 have eP2 : P.map (·.t) = B ++ [endT]:=by
  have:=congrArg (List.map Prod.fst) eP
  rw [List.map_map, b3] at this
  exact this
 refine ⟨by rw [c1, ← eP2, List.length_map], fun j y z h1 h2 => ?_⟩
 have h4 : (B ++ [endT])[j]? = some z.t:=by rw [← eP2, List.getElem?_map, h2]; rfl
 obtain ⟨s1, s2, s3⟩:=c2 j y z.t h1 h4
 refine ⟨s1.symm, ?_, s3.symm⟩
 rw [(hO y (List.mem_of_getElem? h1)).2, (hP z (List.mem_of_getElem? h2)).2, s2]
theorem fin_ok {ks : List Int} {S : Mem} {bv ov : V} {O : List Ti} (hO : ∀ x ∈ O, x.ok) {A : List (Tk × Nat)} {ln' : Nat} (eO : (O.map fun x => (x.t, x.ln)) = A ++ [(endT, ln')]) (hA : ∀ x ∈ A, Fm x.1) (hlen : O.length ≤ 100000)
 (s : Bs) (h : Hp) (l : List Asn) (he : bts s = wr1 ks 0 O) (H : St (vc true ov 25 4 (tcs O) :: frz S :: l) h) : Tri h false l (rNo (.bool true)) (M 1 [bv, ov, .str s, .int .i64 (O.length : Nat)] h):=by
 refine t4 e1 fun L => ?_
 unfold B1
 apply bL
 refine Tri.lenV 0 O.length H rfl (by decide) (tcs_len O) ?_
 apply bS
 refine Tri.lss (fun e => by omega) (fun _ => ?_)
 apply nF
 apply lS
 refine Tri.gtr ?_ ?_<;>intro e
 ·apply nT
  refine tbe1 (sp32 H) L fun h H L => ?_
  exact Tri.done (B:=[]) ⟨rfl, rfl⟩ H.tl.tl L
 ·refine Tri.iff (Mid.tb (sp20 (by omega) H) L fun v h B hq H L => ?_)
  obtain ⟨pv, P, hP, eP, rfl, rfl⟩:=hq
  obtain ⟨q1, q2⟩:=back (ks:=ks) hO hP eO hA
  rw [he] at eP ⊢
  generalize lexA (wr1 ks 0 O) = X at eP q1 q2 ⊢
  obtain ⟨X1, X2⟩:=X
  dsimp only at eP q1 q2
  subst q1
  have hBo:=q2 eP
  refine Tri.ext rfl ?_
  refine Tri.ext rfl ?_
  refine nw H L fun b42 h hb42 H L => ?_
  refine wl0 0 H rfl rfl rfl L (by first|rfl|assumption) fun h H L => ?_
  refine Tri.bldS rfl ?_
  change Tri _ false _ _ (bindS (vh h (eqOp .neq (cmpV [(0, .int .i64), (1, .int .i64)] (.agg [.int .i64 0, .int .i64 0]) (.agg [.int .i64 0, .int .i64 0])))) _)
  rw [cmp_zero]
  change Tri _ false _ _ (bindS (some (V.bool false, h)) _)
  replace H:=H.tl
  apply bS
  apply gff
  apply Mid.bB
  apply bL
  refine Tri.lenV 0 P.length H rfl (by decide) (tcs_len P) ?_
  apply bS
  apply Mid.bB
  apply bL
  refine Tri.lenV 1 O.length H rfl (by decide) (tcs_len O) ?_
  apply bS
  apply bI
  refine Tri.neq (fun e => absurd (by rw [hBo.1]) e) (fun e => ?_)
  apply bS
  apply pF
  apply nF
  have hPl : P.length ≤ 100000:=by have:=hBo.1; omega
  refine Mid.tb (sp42 hlen H.u1) L fun v h B hq H L => ?_
  obtain ⟨ov', rfl, rfl⟩:=hq
  replace H : St (vc true pv 25 4 (tcs P) :: vc true v 25 4 (tcs (O.map z0)) :: frz S :: l) h:=St.u1 H
  refine Mid.tb (sp42 hPl H) L fun v2 h B hq H L => ?_
  obtain ⟨pv', rfl, rfl⟩:=hq
  replace H : St (vc true v 25 4 (tcs (O.map z0)) :: vc true v2 25 4 (tcs (P.map z0)) :: frz S :: l) h:=St.u1 H
  exact Tri.tail (same_from hBo hlen O.length 0 h _ (by omega) H) L (fun _ => rfl) fun v h B hq H L => ⟨[], ⟨hq.1, rfl⟩, by obtain ⟨_, rfl⟩:=hq; exact St.tl H⟩
theorem sp12 {ks : List Int} {S : Mem} {bv : V} {s : Bs} (hk : FSl 1 (IntAt S) bv ks) (H : St (frz S :: l) h) : Tri h false l (rNo (.bool true)) (M 12 [.str s, bv] h):=by
 refine t2 e12 fun L => ?_
 unfold B12
 apply lS
 refine Tri.gtr ?_ ?_<;>intro e
 ·apply nT
  refine tbe1 (sp32 H) L fun h H L => ?_
  exact Tri.done (B:=[]) ⟨rfl, rfl⟩ H.tl L
 ·have hs : s.n ≤ 3000 := by omega
  have hlen:=lexL_len ((bts s).length + 1) (bts s) 1 []
  have hzl:=lexL_zlen (N:=3000) ((bts s).length + 1) (bts s) 1 [] (by rw [bts_len]; exact hs) (fun x hx => nomatch hx)
  have herr:=lexL_err ((bts s).length + 1) (bts s) 1 []
  have hform:=lexL_form ((bts s).length + 1) (bts s) 1 [] (Nat.lt_succ_self _) (fun b hb => bts_mem hb)
  rw [show lexL ((bts s).length + 1) (bts s) 1 [] = lexA (bts s) from rfl] at hlen hzl herr hform
  rw [bts_len, List.length_nil] at hlen
  refine Tri.iff (Mid.tb (sp20 (by omega) H) L fun v h B hq H L => ?_)
  obtain ⟨ov, O, hO, eO, rfl, rfl⟩:=hq
  generalize lexA (bts s) = X at eO hlen hzl herr hform ⊢
  obtain ⟨X1, X2, X3⟩:=X
  dsimp only at eO hlen hzl herr hform
  refine Tri.ext rfl ?_
  refine Tri.ext rfl ?_
  refine nw H L fun b22 h hb22 H L => ?_
  refine wl0 0 H rfl rfl rfl L (by first|rfl|assumption) fun h H L => ?_
  refine Tri.bldS rfl ?_
  change Tri _ false _ _ (bindS (vh h (eqOp .neq (cmpV [(0, .int .i64), (1, .int .i64)] (.agg [.int .i64 X2, .int .i64 X3]) (.agg [.int .i64 0, .int .i64 0])))) _)
  replace H:=H.tl
  by_cases h2 : X2 = 0
  ·obtain rfl := h2
   obtain rfl:=herr.1 rfl
   obtain ⟨A, ln', e1, hA⟩:=hform rfl
   rw [cmp_zero]
   change Tri _ false _ _ (bindS (some (V.bool false, h)) _)
   apply bS
   apply nF
   have hOl : O.length = X1.length:=by rw [← eO, List.length_map]
   have hWr : ∀ x ∈ O, Wr x := fun x hx => by
    have hm : (x.t, x.ln) ∈ X1:=by rw [← eO]; exact List.mem_map.2 ⟨x, hx, rfl⟩
    have hz:=hzl _ hm
    have hok:=hO x hx
    refine ⟨hok, by have:=hok.1; dsimp only at hz; omega, fun h4 => ?_⟩
    rw [e1, List.nil_append] at hm
    rcases List.mem_append.1 hm with hm | hm
    ·have hf := hA _ hm
     dsimp only at hf
     rcases hf with ⟨b, z, n, _, _, e⟩ | ⟨N, n, a1, a2, e⟩ | ⟨z, n, _, e⟩ | ⟨z, n, _, e⟩
     ·rw [e] at h4; exact absurd h4 (wrd_k _).1
     ·rw [e]; exact ⟨a1, a2⟩
     ·rw [e] at h4; exact absurd (show (5 : Int) = 4 from h4) (by decide)
     ·rw [e] at h4; exact absurd (show (3 : Int) = 4 from h4) (by decide)
    ·have e := congrArg Prod.fst (List.mem_singleton.1 hm)
     have e : x.t = endT:=e
     rw [e] at h4; exact absurd h4 (by decide)
   have hl:=loop1 (W:=wr1 ks 0 O) hk hWr (by omega) (fin_ok (ks:=ks) hO (by rw [eO, e1]; rfl) hA (by omega)) O.length 0 ⟨0, 0⟩ h l (by omega) (Nat.zero_le _) rfl H
   exact Tri.tail hl L (fun e => e) fun v h B hq H L => ⟨B, hq, H⟩
  ·have hn := herr.2 h2
   rw [hn] at eO
   obtain rfl : O = []:=List.map_eq_nil_iff.1 eO
   rw [cmp_ne h2]
   change Tri _ false _ _ (bindS (some (V.bool true, h)) _)
   apply bS
   apply nT
   apply bL
   refine Tri.lenV 0 0 H rfl (by decide) rfl ?_
   apply bS
   refine eT (by decide) ?_
   apply gtt
   apply Mid.bB
   refine tbe1 (sp32 H) L fun h H L => ?_
   apply bS
   apply pT
   exact Tri.done (B:=[]) ⟨rfl, rfl⟩ H.tl.tl L
end
end Go.LB
end
