/- A part of the proof. -/
import Derived.Test.YtdiiilfokajddaaGreatDoorVLX3
set_option linter.all false
set_option warn.classDefReducibility false
noncomputable section
section
open Go Go.Mid Go.Proofs
set_option maxRecDepth 100000
namespace Go.LX
section
variable {l F : List Asn} {h h0 : Hp} {ro : Bool} {Q : V → List Asn → Prop} {k : V → VH} {K : V → Hp → VH} {v lV : V} {i j n : Nat}
def eqn (L : List Nat) : Nat:=L.length - (L.dropWhile (· == 61)).length
theorem eqn_le (L : List Nat) : eqn L ≤ L.length:=Nat.sub_le _ _
theorem map_dropWhile (l : List UInt8) : (l.dropWhile (· == 61)).map UInt8.toNat = (l.map UInt8.toNat).dropWhile (· == 61):=by
 induction l with
 | nil => rfl
 | cons a l ih =>
  rw [List.map_cons, List.dropWhile_cons, List.dropWhile_cons]
  have : ((a == 61) : Bool) = (a.toNat == 61):=by
   rw [Bool.eq_iff_iff, beq_iff_eq, beq_iff_eq]
   exact ⟨fun h => by rw [h]; rfl, fun h => UInt8.toNat_inj.1 h⟩
  rw [this]
  split
  ·exact ih
  ·rw [List.map_cons]
theorem sp152 {s : Bs} (H : St l h) : Tri h true l (rText ((bts s).dropWhile (· == 61))) (M 152 [.str s, .str ⟨1, 61⟩] h):=by
 have e : M 152 [.str s, .str ⟨1, 61⟩] h = some (.str (pack (Lib.trimLeftB s.l 61)), h):=by
  refine (@lim_F Tryz.prog (orc fnA Inv) labs 76 _ _ _).2 ⟨0, ?_⟩
  rfl
 rw [e]
 have e2 : bts (pack (Lib.trimLeftB s.l 61)) = (bts s).dropWhile (· == 61):=by rw [bts_pack]; exact map_dropWhile _
 exact Tri.done (B:=[]) ⟨_, by rw [← e2, bts_len], e2, rfl, rfl⟩ H (Lo.refl _ _)
def ixo (x y : List Nat) : Option Nat:=idxB (x.map UInt8.ofNat) (y.map UInt8.ofNat) 0
theorem preB_le : ∀ (y x : List UInt8), preB y x = true → y.length ≤ x.length
 | [], _, _ => Nat.zero_le _
 | _ :: _, [], h => nomatch h
 | a :: y, b :: x, h => by
  unfold preB at h
  cases hb : Nat.beq a.toNat b.toNat with
  | false => rw [hb] at h; cases h
  | true =>
   rw [hb] at h
   have:=preB_le y x h
   simp only [List.length_cons]; omega
theorem idxB_le : ∀ (x y : List UInt8) (k j : Nat), idxB x y k = some j → k ≤ j ∧ (j - k) + y.length ≤ x.length
 | [], y, k, j, h => by
  unfold idxB at h
  cases hp : preB y [] with
  | false => rw [hp] at h; cases h
  | true =>
   rw [hp] at h
   cases h
   have:=preB_le _ _ hp
   exact ⟨Nat.le_refl _, by rw [Nat.sub_self, Nat.zero_add]; exact this⟩
 | a :: x, y, k, j, h => by
  unfold idxB at h
  cases hp : preB y (a :: x) with
  | true =>
   rw [hp] at h
   cases h
   have:=preB_le _ _ hp
   exact ⟨Nat.le_refl _, by rw [Nat.sub_self, Nat.zero_add]; exact this⟩
  | false =>
   rw [hp] at h
   have:=idxB_le x y (k + 1) j h
   simp only [List.length_cons]; omega
theorem ixo_le {x y : List Nat} {j : Nat} (h : ixo x y = some j) : j + y.length ≤ x.length:=by
 have:=idxB_le _ _ _ _ h
 simp only [List.length_map] at this; omega
theorem sp106 {s t : Bs} (hs : s.n ≤ 70000) (H : St l h) : Tri h true l (rNo (.int .i64 (idxV (ixo (bts s) (bts t))))) (M 106 [.str s, .str t] h):=by
 have e : M 106 [.str s, .str t] h = some (.int .i64 (idxV (ixo (bts s) (bts t))), h):=by
  refine (@lim_F Tryz.prog (orc fnA Inv) labs 53 _ _ _).2 ⟨0, ?_⟩
  have hd : indexF [.str s, .str t] h = some (.int .i64 (idxV (ixo (bts s) (bts t))), h):=by
   show (bif Nat.ble s.l.length 2147483648 then some (V.int .i64 (idxV (idxB s.l t.l 0)), h) else none) = _
   rw [show Nat.ble s.l.length 2147483648 = true from Nat.ble_eq_true_of_le (by rw [Bs.l_len]; omega), ixo, ← l_bts, ← l_bts]; rfl
  show enterO Tryz.prog _ h 53 _ (indexF [.str s, .str t] h) = _
  rw [hd]
  rfl
 rw [e]
 exact Tri.done (B:=[]) ⟨rfl, rfl⟩ H (Lo.refl _ _)
theorem Tri.mulN {m n : Int} (h1 : -9223372036854775808 ≤ m * n) (h2 : m * n ≤ 9223372036854775807) (hk : Tri h0 ro F Q (k (.int .i64 (m * n)))) : Tri h0 ro F Q (intS .mul (.int .i64 m) (.int .i64 n) k):=by
 rw [intS_at, int_mul, Mid.i64_of h1 h2]; exact hk
def lng (L : List Nat) : List Nat × Nat × Bool :=
 if [91].isPrefixOf L = false then ([], 0, false)
 else if [91].isPrefixOf (L.drop (1 + eqn (L.drop 1))) = false then ([], 0, false)
 else match ixo (L.drop (eqn (L.drop 1) + 2)) (93 :: ((L.drop 1).take (eqn (L.drop 1)) ++ [93])) with
  | none => ([], 0, true)
  | some k => (trp [10] (lns ((L.drop (eqn (L.drop 1) + 2)).take k)), k + 2 * (eqn (L.drop 1) + 2), true)
def rLng (rb : Nat) (c : List V) (x : List Nat × Nat × Bool) : V → List Asn → Prop:=fun w B => ∃ z : Bs, z.n = x.1.length ∧ bts z = x.1 ∧ w = .tuple [.str z, .int .i64 (x.2.1 : Nat), .bool x.2.2] ∧ B = [Mid.row rb c]
theorem sp86 {rb : Nat} {s : Bs} {a ln fr : Nat} {sv : V} (hs : s.n ≤ 70000) (ha : a + fr ≤ s.n) (H : St (Mid.row rb (rc s a ln sv) :: l) h) :
 Tri h false l (rLng rb (rc s a ln sv) (lng ((bts s).drop (a + fr)))) (M 86 [.ptr rb 0, .int .i64 (fr : Int)] h):=by
 refine t2 e86 fun L => ?_
 unfold B86
 refine Tri.nil ?_
 refine Tri.addr ?_
 refine Tri.load 0 H rfl rfl ?_
 refine Tri.nil ?_
 refine Tri.addr ?_
 refine Tri.load 0 H rfl rfl ?_
 refine Tri.addN (by omega) (by omega) ?_
 refine Tri.cutLo (by omega) (by omega) fun z7 nz7 ez7 => ?_
 refine Tri.bind (sp104 (by first | rfl | assumption | omega | (dsimp only; omega)) (by first | rfl | assumption | omega | (dsimp only; omega)) H) L (fun _ => rfl) fun v h B hq8 H L => ?_
 obtain ⟨rfl, rfl⟩:=hq8
 refine Tri.not ?_
 have eL : bts z7 = (bts s).drop (a + fr):=ez7
 have nL : z7.n = s.n - (a + fr):=nz7
 rw [eL, show bts ⟨1, 91⟩ = [91] from rfl]
 generalize hG : (bts s).drop (a + fr) = G
 rw [hG] at eL
 have lG : G.length = z7.n:=by rw [← eL, bts_len]
 unfold lng
 cases hp : [91].isPrefixOf G with
 | false =>
  refine Tri.ift ?_
  exact Tri.done (B:=[_]) ⟨_, rfl, rfl, rfl, rfl⟩ H L
 | true =>
  have hG0 : 1 ≤ G.length:=by rw [pfx_take, decide_eq_true_iff] at hp; exact hp.1
  refine Tri.iff ?_
  refine Tri.cutLo (by omega) (by omega) fun z41 nz41 ez41 => ?_
  refine Tri.eqv (bind_lenStr _ _) ?_
  refine Tri.lenStr ?_
  refine Tri.bs ?_
  refine Tri.cutLo (by omega) (by omega) fun z45 nz45 ez45 => ?_
  have Ho46:=H
  refine Tri.wroteC (sp152 (H.draw _)) L (fun v h2 e => by rw [e]; rfl) fun v h2 h B hq46 H2 hn46 hl46 eh46 H L => ?_
  obtain ⟨z46, nz46, ez46, rfl, rfl⟩:=hq46
  refine Tri.eqv (bind_lenStr _ _) ?_
  refine Tri.lenStr ?_
  refine Tri.bs ?_
  refine Tri.sub ?_
  refine Tri.add ?_
  have e1 : (Int.toNat 1) = 1:=rfl
  rw [e1, eL] at ez41 ez45
  rw [ez45] at nz46
  have n41 : z41.n = (G.drop 1).length:=by rw [← ez41, bts_len]
  have eE : IntKind.i64.wrap ((z41.n : Int) - (z46.n : Int)) = ((eqn (G.drop 1) : Nat) : Int):=by
   have : eqn (G.drop 1) = (G.drop 1).length - ((G.drop 1).dropWhile (· == 61)).length:=rfl
   have hle : ((G.drop 1).dropWhile (· == 61)).length ≤ (G.drop 1).length:=(List.dropWhile_sublist _).length_le
   have h9 : (G.drop 1).length ≤ 70000:=by rw [List.length_drop]; omega
   rw [Mid.i64_of (by omega) (by omega)]; omega
  rw [eE]
  have hE : 1 + eqn (G.drop 1) ≤ G.length:=by have:=eqn_le (G.drop 1); rw [List.length_drop] at this; omega
  generalize eqn (G.drop 1) = E at hE
  have eW : IntKind.i64.wrap (1 + (E : Int)) = ((1 + E : Nat) : Int):=Mid.i64_of (by omega) (by omega)
  rw [eW]
  refine Tri.cutLo (by omega) (by omega) fun z60 nz60 ez60 => ?_
  refine Tri.bind (sp104 (by first | rfl | assumption | omega | (dsimp only; omega)) (by first | rfl | assumption | omega | (dsimp only; omega)) H) L (fun _ => rfl) fun v h B hq61 H L => ?_
  obtain ⟨rfl, rfl⟩:=hq61
  refine Tri.not ?_
  have e62 : bts z60 = G.drop (1 + E):=by rw [ez60, eL]; rfl
  rw [e62, show bts ⟨1, 91⟩ = [91] from rfl]
  cases hp2 : [91].isPrefixOf (G.drop (1 + E)) with
  | false =>
   refine Tri.ift ?_
   exact Tri.done (B:=[_]) ⟨_, rfl, rfl, rfl, rfl⟩ H L
  | true =>
   have hG1 : 2 + E ≤ G.length:=by rw [pfx_take, decide_eq_true_iff, List.length_drop] at hp2; have:=hp2.1; simp only [List.length_singleton] at this; omega
   refine Tri.iff ?_
   refine Tri.addN (by omega) (by omega) ?_
   refine Tri.cutLo (by omega) (by omega) fun z102 nz102 ez102 => ?_
   refine Tri.addN (by omega) (by omega) ?_
   refine Tri.cutB (by omega) (by omega) (by omega) fun z104 nz104 ez104 => ?_
   refine Tri.strCat (by simp only [*]; omega) fun z105 nz105 ez105 => ?_
   refine Tri.strCat (by simp only [*]; omega) fun z106 nz106 ez106 => ?_
   refine Tri.bind (sp106 (by first | rfl | assumption | omega | (dsimp only; omega)) H) L (fun _ => rfl) fun v h B hq107 H L => ?_
   obtain ⟨rfl, rfl⟩:=hq107
   have e102 : bts z102 = G.drop (E + 2):=by rw [ez102, eL]; rfl
   have e106 : bts z106 = 93 :: ((G.drop 1).take E ++ [93]):=by
    rw [ez106, ez105, ez104, eL, show bts ⟨1, 93⟩ = [93] from rfl, show ((1 : Int) + (E : Int)).toNat - Int.toNat 1 = E by omega]; rfl
   rw [e102, e106]
   cases hx : ixo (G.drop (E + 2)) (93 :: ((G.drop 1).take E ++ [93])) with
   | none =>
    refine Tri.lss (fun _ => ?_) (fun e => absurd e (by decide))
    refine Tri.ift ?_
    exact Tri.done (B:=[_]) ⟨_, rfl, rfl, rfl, rfl⟩ H L
   | some j =>
    have hj:=ixo_le hx
    rw [List.length_drop] at hj
    simp only [List.length_cons, List.length_append, List.length_take, List.length_drop] at hj
    rw [show idxV (some j) = (j : Int) from rfl]
    refine Tri.lss (fun e => by omega) (fun _ => ?_)
    refine Tri.iff ?_
    refine Tri.cutHi (by omega) (by omega) fun z141 nz141 ez141 => ?_
    refine Tri.bind (sp156 (by first | rfl | assumption | omega | (dsimp only; omega)) H) L (fun e => e) fun v h B hq142 H L => ?_
    obtain ⟨z142, nz142, ez142, rfl, rfl⟩:=hq142
    have e141 : bts z141 = (G.drop (E + 2)).take j:=by rw [ez141, e102]; rfl
    have l142:=lns_le _ (bts z141) (Nat.le_refl _)
    rw [bts_len] at l142
    have l141 : z141.n = j:=nz141
    refine Tri.bind (sp154 (by first | rfl | assumption | omega | (dsimp only; omega)) (by first | rfl | assumption | omega | (dsimp only; omega)) H) L (fun _ => rfl) fun v h B hq160 H L => ?_
    obtain ⟨z160, nz160, ez160, rfl, rfl⟩:=hq160
    refine Tri.addN (by omega) (by omega) ?_
    refine Tri.mulN (by omega) (by omega) ?_
    refine Tri.addN (by omega) (by omega) ?_
    refine Tri.done (B:=[_]) ⟨_, ?_, ?_, rfl, rfl⟩ H L
    ·rw [nz160, ez142, e141]; rfl
    ·rw [ez160, ez142, e141]; rfl
theorem lng_le (L : List Nat) (h : (lng L).2.2 = true) : (lng L).2.1 ≤ L.length:=by
 unfold lng at h ⊢
 split
 ·exact Nat.zero_le _
 ·split
  ·exact Nat.zero_le _
  ·cases hx : ixo (L.drop (eqn (L.drop 1) + 2)) (93 :: ((L.drop 1).take (eqn (L.drop 1)) ++ [93])) with
   | none => exact Nat.zero_le _
   | some k =>
    have hj:=ixo_le hx
    have h2:=eqn_le (L.drop 1)
    simp only [List.length_cons, List.length_append, List.length_take, List.length_drop] at hj h2
    show k + 2 * (eqn (L.drop 1) + 2) ≤ _
    omega
theorem lnc_le : ∀ (m : Nat) (L : List Nat), L.length ≤ m → lnc L ≤ L.length
 | _, [], _ => Nat.le_refl 0
 | _, [b], _ => by simp only [lnc, List.length_singleton]; split <;> omega
 | 0, b :: c :: r, h => by simp at h
 | m + 1, b :: c :: r, h => by
  simp only [List.length_cons] at h
  have h1:=lnc_le m (c :: r) (by simp only [List.length_cons]; omega)
  have h2:=lnc_le m r (by omega)
  simp only [List.length_cons] at h1
  simp only [lnc]
  split
  ·split <;> simp only [List.length_cons] <;> omega
  ·simp only [List.length_cons]; omega
theorem seg_len {s : Bs} {a b : Nat} (hb : b ≤ s.n) : (seg s a b).length = b - a:=by rw [seg, List.length_take, List.length_drop, bts_len]; omega
def nt (L : List Nat) : Bool × Int × Nat :=
 if [45, 45].isPrefixOf L then
  (if (lng (L.drop 2)).2.2 then (if (lng (L.drop 2)).2.1 = 0 then (true, 30, 0) else (true, 0, (lng (L.drop 2)).2.1 + 2))
  else (true, 0, cnt (fun b => !isEnd b) L))
 else (false, 0, 0)
theorem nt_le (L : List Nat) : (nt L).2.2 ≤ L.length:=by
 unfold nt
 cases hp : [45, 45].isPrefixOf L with
 | false => exact Nat.zero_le _
 | true =>
  have h2 : 2 ≤ L.length:=by rw [pfx_take, decide_eq_true_iff] at hp; exact hp.1
  rw [if_pos rfl]
  split
  ·rename_i hx
   split
   ·exact Nat.zero_le _
   ·have := lng_le _ hx
    rw [List.length_drop] at this
    show _ + 2 ≤ _
    omega
  ·exact cnt_le _ _
def rNt (rb : Nat) (c : List V) (x : Bool × Int × Nat) : V → List Asn → Prop:=fun w B => w = .tuple [.bool x.1, .int .i64 x.2.1] ∧ B = [Mid.row rb c]
theorem sp54 {rb : Nat} {s : Bs} {a ln : Nat} {sv : V} (hs : s.n ≤ 70000) (ha : a ≤ s.n) (hln : ln ≤ 1000000 + a) (H : St (Mid.row rb (rc s a ln sv) :: l) h) :
 Tri h false l (rNt rb (rc s (a + (nt ((bts s).drop a)).2.2) (ln + lnc (seg s a (a + (nt ((bts s).drop a)).2.2))) sv) (nt ((bts s).drop a))) (M 54 [.ptr rb 0] h):=by
 refine t1 e54 fun L => ?_
 unfold B54
 have hle:=nt_le ((bts s).drop a)
 rw [List.length_drop, bts_len] at hle
 have ih21 : ∀ (c : List V) (h : Hp), St (Mid.row rb c :: l) h → Tri h false l (rNt rb c (true, 0, 0)) (M 21 [] h):=by
  intro c h H
  refine t0 e21 fun L => ?_
  unfold B21
  exact Tri.done (B:=[_]) ⟨rfl, rfl⟩ H L
 have ih50:=fun (h : Hp) (l : List Asn) (H : St (Mid.row rb (rc s a ln sv) :: l) h) => f50 (rb:=rb) (fr:=0) (g:=.func 44 [] []) (p:=fun b => !isEnd b) (fun b h l _ H => sp88 H) hs (by omega) (by omega) H
 rw [Nat.add_zero] at ih50
 generalize hX : nt ((bts s).drop a) = X at hle ⊢
 have e2 : ((bts s).drop a).drop 2 = (bts s).drop (a + 2):=List.drop_drop
 unfold nt at hX
 rw [e2] at hX
 have hz : seg s a (a + 0) = []:=seg_nil s a
 refine Tri.bind (sp84 (by first | rfl | assumption | omega | (dsimp only; omega)) (by first | rfl | assumption | omega | (dsimp only; omega)) (by first | rfl | assumption | omega | (dsimp only; omega)) H) L (fun _ => rfl) fun v h B hq0 H L => ?_
 obtain ⟨rfl, rfl⟩:=hq0
 refine Tri.not ?_
 rw [show bts ⟨2, 11565⟩ = [45, 45] from rfl]
 cases hp : [45, 45].isPrefixOf ((bts s).drop a) with
 | false =>
  rw [hp] at hX
  obtain rfl : (false, 0, 0) = X:=hX
  refine Tri.ift ?_
  rw [show ln + lnc (seg s a (a + 0)) = ln by rw [hz]; rfl]
  exact Tri.done (B:=[_]) ⟨rfl, rfl⟩ H L
 | true =>
  have h2 : a + 2 ≤ s.n:=by rw [pfx_take, decide_eq_true_iff, List.length_drop, bts_len] at hp; have:=hp.1; simp only [List.length_cons, List.length_nil] at this; omega
  rw [hp, if_pos rfl] at hX
  refine Tri.iff ?_
  refine Tri.bind (sp86 (by first | rfl | assumption | omega | (dsimp only; omega)) (by first | rfl | assumption | omega | (dsimp only; omega)) H) L (fun e => e) fun v h B hq41 H L => ?_
  obtain ⟨z41, nz41, ez41, rfl, rfl⟩:=hq41
  refine Tri.ext rfl ?_
  refine Tri.ext rfl ?_
  refine Tri.ext rfl ?_
  generalize hy : lng ((bts s).drop (a + 2)) = y at hX
  obtain ⟨y1, y2, y3⟩:=y
  have y2n:=lng_le ((bts s).drop (a + 2))
  rw [hy, List.length_drop, bts_len] at y2n
  dsimp only at hX y2n ⊢
  cases y3 with
  | true =>
   have:=y2n rfl
   rw [if_pos rfl] at hX
   refine Tri.eqv (guard_tt _ _ _) ?_
   refine Tri.eqv (bind_intS _ _) ?_
   refine Tri.eql (fun e => ?_) (fun e => ?_)
   ·rw [if_pos (show y2 = 0 by omega)] at hX
    obtain rfl : (true, 30, 0) = X:=hX
    refine Tri.bs ?_
    refine Tri.eqv (pick_t _ _ _) ?_
    refine Tri.ift ?_
    rw [show ln + lnc (seg s a (a + 0)) = ln by rw [hz]; rfl]
    exact Tri.done (B:=[_]) ⟨rfl, rfl⟩ H L
   ·rw [if_neg (show ¬ y2 = 0 by omega)] at hX
    obtain rfl : (true, 0, y2 + 2) = X:=hX
    refine Tri.bs ?_
    refine Tri.eqv (pick_t _ _ _) ?_
    refine Tri.iff ?_
    refine Tri.ift ?_
    refine Tri.addN (by omega) (by omega) ?_
    refine Tri.bind (sp48 (by first | rfl | assumption | omega | (dsimp only; omega)) (by first | rfl | assumption | omega | (dsimp only; omega)) (by first | rfl | assumption | omega | (dsimp only; omega)) H) L (fun e => e) fun v h B hq105 H L => ?_
    obtain ⟨rfl, rfl⟩:=hq105
    refine Tri.tail (ih21 _ _ H) L (fun e => e) fun v h B hq H L => ⟨B, hq, H⟩
  | false =>
   rw [if_neg (by decide)] at hX
   subst hX
   dsimp only at hle ⊢
   refine Tri.eqv (guard_ft _ _ _) ?_
   refine Tri.eqv (pick_f _ _ _) ?_
   refine Tri.iff ?_
   refine Tri.iff ?_
   refine Tri.bind (ih50 _ _ H) L (fun _ => rfl) fun v h B hq124 H L => ?_
   obtain ⟨rfl, rfl⟩:=hq124
   refine Tri.bind (sp48 (by first | rfl | assumption | omega | (dsimp only; omega)) (by first | rfl | assumption | omega | (dsimp only; omega)) (by first | rfl | assumption | omega | (dsimp only; omega)) H) L (fun e => e) fun v h B hq125 H L => ?_
   obtain ⟨rfl, rfl⟩:=hq125
   refine Tri.tail (ih21 _ _ H) L (fun e => e) fun v h B hq H L => ⟨B, hq, H⟩
end
end Go.LX
end
