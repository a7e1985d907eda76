/- A part of the proof. -/
import Derived.Test.YtdiiilfokajddaaGreatDoorVLXI
set_option linter.all false
set_option warn.classDefReducibility false
noncomputable section
section
open Go Go.Mid Go.Proofs
set_option maxRecDepth 100000
namespace Go.LX
section
variable {l F : List Asn} {h h0 : Hp} {ro : Bool} {Q : V → List Asn → Prop} {k : V → VH} {K : V → Hp → VH} {v lV : V} {i j n : Nat}
def rSg : V → List Asn → Prop:=fun w B => ∃ sb, w = sgV sb ∧ B = [vc false (sgV sb) 9 1 sgA]
theorem row_nil (cs : List V) : ∀ i, i < cs.length → (Tr.nil.setL 0 cs).get i = cs[i]?:=setL_row cs
theorem sp28 (H : St l h) : Tri h true l rSg (M 28 [] h):=by
 have e : M 28 [] h = some (sgV h.n, h.new (.cells (Tr.nil.setL 0 sgA) 31 false 9)):=by
  refine (@lim_F Tryz.prog (orc fnA Inv) labs 14 _ _ _).2 ⟨0, ?_⟩
  rfl
 rw [e]
 have hl : sgA.length = 31:=rfl
 refine Tri.done (B:=[vc false (sgV h.n) 9 1 sgA]) ⟨_, rfl, rfl⟩ (H.new ?_) ⟨Nat.le_succ _, (Lo.refl true h).low⟩
 exact .full _ _ _ _ rfl (up_eq _ _ _) hl (Nat.le_refl _) (row_nil sgA)
theorem sp78 {sb : Nat} (H : St (vc false (sgV sb) 9 1 sgA :: l) h) : Tri h false l (fun w B => w = .tuple [] ∧ B = [SG sb]) (M 78 [sgV sb, .int .i64 31, .func 23 [] []] h):=by
 obtain ⟨f, f1, f2⟩:=H.sat.hd
 have hl : sgA.length = 31:=rfl
 have hl2 : sgB.length = 31:=rfl
 have key : ∃ t, f sb = some (.cells t 31 false 9) ∧ ∀ i, i < sgA.length → t.get i = sgA[i]?:=by
  cases f2 with
  | full b n c t a0 a1 a2 a5 a3 => exact ⟨t, a1, a3⟩
 obtain ⟨t, a1, a3⟩:=key
 have hg : h.t.get sb = some (.cells t 31 false 9):=f1 _ _ a1
 have e1 : t.getL 0 31 = some sgA:=by rw [← hl]; exact getL_of fun i hi => by rw [Nat.zero_add]; exact a3 i hi
 have e2 : vEqO (some sgA) (some sgA) = true:=by kernel_rfl
 have hd : sortF 23 [sgV sb, .int .i64 31, .func 23 [] []] h = some (.tuple [], h.put sb (.cells (Tr.nil.setL 0 sgB) 31 false 9)):=by
  show (bif Nat.beq 23 23 then (match h.t.get sb with
   | some (.cells t 31 false 9) => bif vEqO (t.getL 0 31) (some sgA) then some (V.tuple [], h.put sb (.cells (Tr.nil.setL 0 sgB) 31 false 9)) else none
   | _ => none) else none) = _
  rw [hg]
  simp only [e1, e2]
  rfl
 have e : M 78 [sgV sb, .int .i64 31, .func 23 [] []] h = some (.tuple [], h.put sb (.cells (Tr.nil.setL 0 sgB) 31 false 9)):=by
  refine (@lim_F Tryz.prog (orc fnA Inv) labs 39 _ _ _).2 ⟨0, ?_⟩
  show enterO Tryz.prog _ h 39 _ (sortF 23 [sgV sb, .int .i64 31, .func 23 [] []] h) = _
  rw [hd]
  rfl
 rw [e]
 refine Tri.done (B:=[SG sb]) ⟨rfl, rfl⟩ ?_ ((Lo.refl false h).put sb _ fun e => nomatch e)
 refine H.put (i:=0) (A':=SG sb) rfl fun f hf => ⟨?_, .full _ _ _ _ rfl (up_eq _ _ _) hl2 (Nat.le_refl _) (row_nil sgB)⟩
 cases hf with
 | full b n c t a0 a1 a2 a5 a3 => rw [a1]; exact fun h => nomatch h
theorem sp44 {sb : Nat} (H : St (vc false (sgV sb) 9 1 sgA :: l) h) : Tri h false l (fun w B => w = .tuple [] ∧ B = [SG sb]) (M 44 [sgV sb, .func 23 [] []] h):=by
 refine t2 e44 fun L => ?_
 unfold B44
 refine Tri.eqv (bind_lenSl _ _) ?_
 refine Tri.bind (sp78 H) L (fun e => e) fun v h B hq H L => ?_
 obtain ⟨rfl, rfl⟩:=hq
 skip
 exact Tri.done (B:=[_]) ⟨rfl, rfl⟩ H L
theorem nt_pos {L : List Nat} (h1 : (nt L).1 = true) (h2 : (nt L).2.1 = 0) : 1 ≤ (nt L).2.2:=by
 unfold nt at h1 h2 ⊢
 cases hp : [45, 45].isPrefixOf L with
 | false => rw [hp] at h1; cases h1
 | true =>
  rw [hp] at h2
  rw [if_pos rfl] at h2 ⊢
  split at h2 <;> rename_i hx
  ·split at h2
   ·cases h2
   ·rename_i hy; rw [if_pos hx, if_neg hy]; show 1 ≤ _ + 2; omega
  ·rw [if_neg hx]
   show 1 ≤ cnt _ L
   rw [pfx_take, decide_eq_true_iff] at hp
   cases L with
   | nil => exact absurd hp.1 (by simp)
   | cons b r =>
    have hb : b = 45:=by have:=hp.2; simp at this; exact this.1
    subst hb
    show 1 ≤ wh _ _ _
    rw [wh, if_pos (show (!isEnd 45) = true from rfl)]; omega
theorem sgn_le (L : List Nat) : ∀ Z : List Bs, (∀ z ∈ Z, 1 ≤ z.n) → (sgn L Z).n ≤ L.length ∧ ((sgn L Z).e = 0 → 1 ≤ (sgn L Z).n)
 | [], _ => ⟨Nat.zero_le _, fun h => by unfold sgn at h; dsimp only at h; split at h <;> cases h⟩
 | z :: Z, hz => by
  rw [sgn]
  cases hp : (bts z).isPrefixOf L with
  | true =>
   rw [if_pos rfl]
   rw [pfx_take, decide_eq_true_iff, bts_len] at hp
   exact ⟨hp.1, fun _ => hz z List.mem_cons_self⟩
  | false => rw [if_neg (by decide)]; exact sgn_le L Z fun z h => hz z (List.mem_cons_of_mem _ h)
theorem tk_le (L : List Nat) (hL : L ≠ []) : (tk L).n ≤ L.length:=by
 unfold tk
 split
 ·exact cnt_le _ _
 ·split
  ·exact nml_le _
  ·split
   ·rename_i h
    split
    ·exact Nat.zero_le _
    ·exact lng_le _ h
   ·split
    ·exact quo_le _ hL
    ·split
     ·exact Nat.zero_le _
     ·exact (sgn_le L sgL fun z h => (sg_max z h).1).1
theorem tk_pos {L : List Nat} (hL : L ≠ []) (h : (tk L).e = 0) : 1 ≤ (tk L).n:=by
 obtain ⟨b, r, rfl⟩:=List.exists_cons_of_ne_nil hL
 unfold tk at h ⊢
 rw [List.headD_cons] at h ⊢
 split
 ·rename_i h1
  show 1 ≤ wh _ _ _
  rw [wh, if_pos (show (isLt b || isDg b) = true by rw [h1]; rfl)]; omega
 ·rename_i h1
  rw [if_neg h1] at h
  split
  ·rename_i h2
   show 1 ≤ wh _ _ _
   have : (nstep (pwz (b :: r)) 0 b).1 = true:=by
    unfold dig at h2
    rw [List.headD_cons, Bool.or_eq_true, Bool.and_eq_true, decide_eq_true_iff, beq_iff_eq] at h2
    unfold nstep
    rcases h2 with h2 | h2
    ·have h3 : isDg b = true := cnt_head h2
     rw [h3]; rfl
    ·rw [h2.1]; simp
   rw [wh, if_pos this]; omega
  ·rename_i h2
   rw [if_neg h2] at h
   split
   ·rename_i h3
    rw [if_pos h3] at h
    split
    ·rename_i h4
     rw [if_pos h4] at h; cases h
    ·rename_i h4; show 1 ≤ (lng (b :: r)).2.1; omega
   ·rename_i h3
    rw [if_neg h3] at h
    split
    ·rename_i h4
     rw [if_pos h4] at h
     have:=unq_len h
     rw [List.length_take] at this
     show 1 ≤ quo (b :: r); omega
    ·rename_i h4
     rw [if_neg h4] at h
     split
     ·rename_i h5
      rw [if_pos h5] at h; cases h
     ·rename_i h5
      rw [if_neg h5] at h
      exact (sgn_le _ sgL fun z h => (sg_max z h).1).2 h
theorem nt_none {L : List Nat} (h : (nt L).1 = false) : (nt L).2.2 = 0:=by
 unfold nt at h ⊢
 cases hp : [45, 45].isPrefixOf L with
 | false => rfl
 | true =>
  rw [hp, if_pos rfl] at h
  split at h
  ·split at h <;> cases h
  ·cases h
def lexL : Nat → List Nat → Nat → List (Tk × Nat) → List (Tk × Nat) × Int × Int
 | 0, _, _, _ => ([], 0, 0)
 | f + 1, R, ln, acc =>
  if R.drop (cnt isSp R) = [] then (acc ++ [(⟨6, [], 0, 0, 0⟩, ln + lnc (R.take (cnt isSp R)))], 0, 0)
  else if (nt (R.drop (cnt isSp R))).2.1 = 0 ∧ (nt (R.drop (cnt isSp R))).1 = true then
   lexL f ((R.drop (cnt isSp R)).drop (nt (R.drop (cnt isSp R))).2.2) (ln + lnc (R.take (cnt isSp R)) + lnc ((R.drop (cnt isSp R)).take (nt (R.drop (cnt isSp R))).2.2)) acc
  else if (nt (R.drop (cnt isSp R))).2.1 ≠ 0 then ([], (nt (R.drop (cnt isSp R))).2.1, ((ln + lnc (R.take (cnt isSp R)) + lnc ((R.drop (cnt isSp R)).take (nt (R.drop (cnt isSp R))).2.2) : Nat) : Int))
  else if (tk (R.drop (cnt isSp R))).e ≠ 0 then ([], (tk (R.drop (cnt isSp R))).e, ((ln + lnc (R.take (cnt isSp R)) : Nat) : Int))
  else lexL f ((R.drop (cnt isSp R)).drop (tk (R.drop (cnt isSp R))).n) (ln + lnc (R.take (cnt isSp R)) + lnc ((R.drop (cnt isSp R)).take (tk (R.drop (cnt isSp R))).n)) (acc ++ [(tk (R.drop (cnt isSp R)), ln + lnc (R.take (cnt isSp R)))])
structure Ti where
 z : Bs
 t : Tk
 ln : Nat
def Ti.c (x : Ti) : List V:=[.int .u8 x.t.k, .str x.z, .int .i64 x.t.N, .int .i64 (x.ln : Int)]
def Ti.ok (x : Ti) : Prop:=x.z.n = x.t.z.length ∧ bts x.z = x.t.z
abbrev tcs (O : List Ti) : List V:=O.flatMap Ti.c
theorem tcs_len (O : List Ti) : (tcs O).length = O.length * 4:=by
 induction O with
 | nil => rfl
 | cons x O ih => rw [tcs, List.flatMap_cons, List.length_append, ih, List.length_cons]; show 4 + _ = _; omega
def rTs (X : List (Tk × Nat) × Int × Int) : V → List Asn → Prop:=fun w B => ∃ (ov : V) (O : List Ti), (∀ x ∈ O, x.ok) ∧ O.map (fun x => (x.t, x.ln)) = X.1 ∧ w = .tuple [ov, .agg [.int .i64 X.2.1, .int .i64 X.2.2]] ∧ B = [vc true ov 25 4 (tcs O)]
theorem seg_take (s : Bs) (a n : Nat) : seg s a (a + n) = ((bts s).drop a).take n:=by rw [seg, Nat.add_sub_cancel_left]
theorem toks_ok {s : Bs} {rb sb fb : Nat} (hs : s.n ≤ 65535) : ∀ (f a ln : Nat) (ov : V) (O : List Ti) (h : Hp) (l : List Asn), s.n - a < f → a ≤ s.n → ln ≤ 1 + a → O.length ≤ a → (∀ x ∈ O, x.ok) →
 St (Mid.row rb (rc s a ln (sgV sb)) :: SG sb :: Mid.row fb [.int .i64 0, .int .i64 0] :: vc true ov 25 4 (tcs O) :: l) h →
 ∀ X, lexL f ((bts s).drop a) ln (O.map fun x => (x.t, x.ln)) = X → Tri h false l (rTs X) (M 9 [.ptr fb 0, .ptr rb 0, ov] h):=by
 intro f
 induction f with
 | zero => intro a ln ov O h l hf; omega
 | succ f ih =>
  intro a ln ov O h l hf ha hln hO hok H X hX
  have okc : ∀ (O : List Ti) (x : Ti), (∀ y ∈ O, y.ok) → x.ok → ∀ y ∈ O ++ [x], y.ok:=fun O x h1 h2 y hy => (List.mem_append.1 hy).elim (h1 y) fun h => by rw [List.mem_singleton.1 h]; exact h2
  have e1 : ∀ (O : List Ti) (x : Ti), (O.map fun x => (x.t, x.ln)) ++ [(x.t, x.ln)] = (O ++ [x]).map fun x => (x.t, x.ln):=fun O x => by rw [List.map_append]; rfl
  have e2 : ∀ (O : List Ti) (x : Ti), tcs O ++ x.c = tcs (O ++ [x]):=fun O x => by rw [tcs, tcs, List.flatMap_append, List.flatMap_singleton]
  have ih11e : ∀ (a ln n tb : Nat) (ov : V) (O : List Ti) (T : List V) (e : Int) (h : Hp) (l : List Asn), e ≠ 0 → St (Mid.row tb T :: Mid.row rb (rc s a ln (sgV sb)) :: SG sb :: Mid.row fb [.int .i64 0, .int .i64 0] :: vc true ov 25 4 (tcs O) :: l) h →
   ∀ X, ([], e, (ln : Int)) = X → Tri h false l (rTs X) (M 11 [.ptr fb 0, .ptr rb 0, ov, .ptr tb 0, .int .i64 (n : Int), .int .i64 e] h):=by
   intro a ln n tb ov O T e h l he H X hX
   refine t6 e11 fun L => ?_
   unfold B11
   refine Tri.neq (fun _ => ?_) (fun c => absurd c he)
   subst hX
   refine Tri.ift ?_
   refine Tri.nil ?_
   refine Tri.addr ?_
   refine Tri.load 1 H rfl rfl ?_
   refine Tri.bldS rfl ?_
   refine Tri.stores 3 (by decide) H rfl rfl (Nat.le_of_ble_eq_true rfl) L (fun e => nomatch e) (by first | rfl | assumption) fun h H L => ?_
   refine Tri.loads 3 (by decide) H rfl (Nat.le_of_ble_eq_true rfl) ?_
   exact Tri.done (B:=[_]) ⟨.nilSlice, [], (fun x hx => nomatch hx), rfl, rfl, rfl⟩ (St.vc_new true 25 4 H.tl.tl.tl.tl.tl) L
  have ih11k : ∀ (a ln tb : Nat) (ov : V) (O : List Ti) (x : Ti) (h : Hp) (l : List Asn), x.ok → x.ln = ln → x.t.e = 0 → a + x.t.n ≤ s.n → 1 ≤ x.t.n → s.n - (a + x.t.n) < f → ln ≤ 1 + a → O.length ≤ a → (∀ x ∈ O, x.ok) →
   St (Mid.row tb [.int .u8 x.t.k, .str x.z, .int .i64 x.t.N, .int .i64 0] :: Mid.row rb (rc s a ln (sgV sb)) :: SG sb :: Mid.row fb [.int .i64 0, .int .i64 0] :: vc true ov 25 4 (tcs O) :: l) h →
   ∀ X, lexL f ((bts s).drop (a + x.t.n)) (ln + lnc (seg s a (a + x.t.n))) ((O ++ [x]).map fun x => (x.t, x.ln)) = X → Tri h false l (rTs X) (M 11 [.ptr fb 0, .ptr rb 0, ov, .ptr tb 0, .int .i64 (x.t.n : Int), .int .i64 0] h):=by
   intro a ln tb ov O x h l hx hxl hxe han hpos hf1 hln hO hok H X hX
   have hlw:=lnc_le _ (seg s a (a + x.t.n)) (Nat.le_refl _)
   rw [seg_len (by omega)] at hlw
   refine t6 e11 fun L => ?_
   unfold B11
   refine Tri.neq (fun e => absurd e (by decide)) (fun _ => ?_)
   refine Tri.iff ?_
   refine Tri.nil ?_
   refine Tri.addr ?_
   refine Tri.load 1 H rfl rfl ?_
   refine Tri.addr ?_
   refine Tri.store 0 H rfl (Nat.le_of_ble_eq_true rfl) L (fun e => nomatch e) (by first | rfl | assumption) fun h H L => ?_
   replace H:=H.u1
   refine Tri.bind (sp48 (by first | rfl | assumption | omega | (dsimp only; omega)) (by first | rfl | assumption | omega | (dsimp only; omega)) (by first | rfl | assumption | omega | (dsimp only; omega)) H) L (fun e => e) fun v h B hq20 H L => ?_
   obtain ⟨rfl, rfl⟩:=hq20
   refine Tri.loads 1 (by decide) H rfl (Nat.le_of_ble_eq_true rfl) ?_
   refine Tri.bld (e:=_) (s:=_) H L rfl rfl fun b22 h hb22 H L => ?_
   refine Tri.app 5 O.length 1 (new:=[.int .u8 x.t.k, .str x.z, .int .i64 x.t.N, .int .i64 (ln : Int)]) H rfl (H.newCells (i:=0) rfl rfl) (by decide) (tcs_len O) rfl (by omega) (by omega) rfl L (Own.off _ _) fun v' h H L hO1 h1 => ?_
   refine Tri.tail (ih (a + x.t.n) _ v' (O ++ [x]) h l (by omega) (by omega) (by omega) (by rw [List.length_append, List.length_singleton]; omega) (okc O x hok hx) ?_ X hX) L (fun e => e) fun v h B hq H L => ⟨B, hq, H⟩
   rw [← e2]
   subst hxl
   exact H.tl.x1
  have ih50:=fun (h : Hp) (l : List Asn) (H : St (Mid.row rb (rc s a ln (sgV sb)) :: l) h) => f50 (fr:=0) (p:=isSp) (g:=.func 26 [] []) (fun b h l _ H => sp52 H) (show s.n ≤ 70000 by omega) (by omega) (by omega) H
  rw [Nat.add_zero] at ih50
  have hw:=cnt_le isSp ((bts s).drop a)
  rw [List.length_drop, bts_len] at hw
  rw [lexL, List.drop_drop, ← seg_take] at hX
  generalize cnt isSp ((bts s).drop a) = w at hX hw ih50
  have hlw:=lnc_le _ (seg s a (a + w)) (Nat.le_refl _)
  rw [seg_len (by omega)] at hlw
  refine t3 e9 fun L => ?_
  unfold B9
  refine Tri.bind (ih50 _ _ H) L (fun _ => rfl) fun v h B hq0 H L => ?_
  obtain ⟨rfl, rfl⟩:=hq0
  refine Tri.bind (sp48 (by first | rfl | assumption | omega | (dsimp only; omega)) (by first | rfl | assumption | omega | (dsimp only; omega)) (by first | rfl | assumption | omega | (dsimp only; omega)) H) L (fun e => e) fun v h B hq1 H L => ?_
  obtain ⟨rfl, rfl⟩:=hq1
  refine Tri.nil ?_
  refine Tri.addr ?_
  refine Tri.load 0 H rfl rfl ?_
  refine Tri.nil ?_
  refine Tri.addr ?_
  refine Tri.load 0 H rfl rfl ?_
  refine Tri.eqv (bind_lenStr _ _) ?_
  refine Tri.lenStr ?_
  refine Tri.bs ?_
  have hln1 : ln + lnc (seg s a (a + w)) ≤ 1 + (a + w):=by omega
  have hf1 : s.n - (a + w) < f + 1:=by omega
  have haw : a + w ≤ s.n:=by omega
  have hO1 : O.length ≤ a + w:=by omega
  clear hlw hw hO hln ha hf
  generalize ln + lnc (seg s a (a + w)) = ln at hX hln1 H
  generalize a + w = a at hX hf1 haw hO1 hln1 H
  refine Tri.eql (fun e => ?_) (fun e => ?_)
  ·have ea : a = s.n := Int.ofNat.inj e
   rw [if_pos (bts_end (by omega)), e1 O ⟨⟨0, 0⟩, ⟨6, [], 0, 0, 0⟩, ln⟩] at hX
   subst hX
   refine Tri.ift ?_
   refine Tri.nil ?_
   refine Tri.addr ?_
   refine Tri.load 0 H rfl rfl ?_
   refine Tri.bldS rfl ?_
   refine Tri.bld (e:=_) (s:=_) H L rfl rfl fun b25 h hb25 H L => ?_
   refine Tri.app 4 O.length 1 (new:=Ti.c ⟨⟨0, 0⟩, ⟨6, [], 0, 0, 0⟩, ln⟩) H rfl (H.newCells (i:=0) rfl rfl) (by decide) (tcs_len O) rfl (by omega) (by omega) rfl L (Own.off _ _) fun v' h H L hO h1 => ?_
   refine Tri.bldS rfl ?_
   refine Tri.stores 3 (by decide) H rfl rfl (Nat.le_of_ble_eq_true rfl) L (fun e => nomatch e) (by first | rfl | assumption) fun h H L => ?_
   refine Tri.loads 3 (by decide) H rfl (Nat.le_of_ble_eq_true rfl) ?_
   refine Tri.done (B:=[_]) ⟨v', O ++ [⟨⟨0, 0⟩, ⟨6, [], 0, 0, 0⟩, ln⟩], okc O _ hok ⟨rfl, rfl⟩, rfl, rfl, rfl⟩ ?_ L
   rw [← e2]
   exact H.tl.tl.tl.tl
  ·have hlt : a < s.n := by have : a ≠ s.n := fun c => e (congrArg Int.ofNat c); omega
   rw [if_neg (by rw [bts_drop hlt]; exact List.cons_ne_nil _ _)] at hX
   have hle:=nt_le ((bts s).drop a)
   have hpos:=@nt_pos ((bts s).drop a)
   have hno:=@nt_none ((bts s).drop a)
   rw [List.length_drop, bts_len] at hle
   refine Tri.iff ?_
   refine Tri.bind (sp54 (by first | rfl | assumption | omega | (dsimp only; omega)) (by first | rfl | assumption | omega | (dsimp only; omega)) (by first | rfl | assumption | omega | (dsimp only; omega)) H) L (fun e => e) fun v h B hq61 H L => ?_
   obtain ⟨rfl, rfl⟩:=hq61
   refine Tri.ext rfl ?_
   refine Tri.ext rfl ?_
   generalize nt ((bts s).drop a) = N at hX hle hpos hno H ⊢
   obtain ⟨N1, N2, N3⟩:=N
   dsimp only at hX hle hpos hno H ⊢
   have hlw:=lnc_le _ (seg s a (a + N3)) (Nat.le_refl _)
   rw [seg_len (by omega)] at hlw
   refine Tri.eql (fun e3 => ?_) (fun e3 => ?_)
   ·subst e3
    cases N1 with
    | true =>
     have:=hpos rfl rfl
     rw [if_pos ⟨rfl, rfl⟩, List.drop_drop, ← seg_take] at hX
     refine Tri.eqv (guard_tt _ _ _) ?_
     refine Tri.bs ?_
     refine Tri.eqv (pick_t _ _ _) ?_
     refine Tri.ift ?_
     exact Tri.tail (ih (a + N3) _ ov O h l (by omega) (by omega) (by omega) (by omega) hok H X hX) L (fun e => e) fun v h B hq H L => ⟨B, hq, H⟩
    | false =>
     obtain rfl:=hno rfl
     rw [if_neg (fun c => nomatch c.2), if_neg (fun c => c rfl)] at hX
     replace H : St (Mid.row rb (rc s a ln (sgV sb)) :: SG sb :: Mid.row fb [.int .i64 0, .int .i64 0] :: vc true ov 25 4 (tcs O) :: l) h:=by
      rw [show seg s a (a + 0) = [] from seg_nil s a] at H; exact H
     refine Tri.eqv (guard_tt _ _ _) ?_
     refine Tri.bs ?_
     refine Tri.eqv (pick_t _ _ _) ?_
     refine Tri.iff ?_
     refine Tri.bldS rfl ?_
     refine Tri.newS H L fun b105 h hb105 H L => ?_
     refine Tri.stores 0 (by decide) H rfl rfl (Nat.le_of_ble_eq_true rfl) L (fun e => nomatch e) (by first | rfl | assumption) fun h H L => ?_
     refine Tri.eql (fun _ => ?_) (fun e => absurd e (by decide))
     refine Tri.ift ?_
     replace H:=H.d2
     refine Tri.bind (sp56 (show s.n ≤ 70000 by omega) hlt H) L (fun e => e) fun v h B hq H L => ?_
     obtain ⟨z, nz, ez, rfl, rfl⟩:=hq
     have htl:=tk_le ((bts s).drop a) (by rw [bts_drop hlt]; exact List.cons_ne_nil _ _)
     have htp:=@tk_pos ((bts s).drop a) (by rw [bts_drop hlt]; exact List.cons_ne_nil _ _)
     rw [List.length_drop, bts_len] at htl
     generalize tk ((bts s).drop a) = t at hX htl htp nz ez ⊢
     refine Tri.ext rfl ?_
     refine Tri.ext rfl ?_
     refine Tri.ext rfl ?_
     refine Tri.stores 2 (by decide) H rfl rfl (Nat.le_of_ble_eq_true rfl) L (fun e => nomatch e) (by first | rfl | assumption) fun h H L => ?_
     replace H:=H.u2
     by_cases he : t.e = 0
     ·rw [if_neg (fun c => c he), List.drop_drop, ← seg_take, e1 O ⟨z, t, ln⟩] at hX
      rw [he]
      exact Tri.tail (ih11k a ln b105 ov O ⟨z, t, ln⟩ h l ⟨nz, ez⟩ rfl he (by dsimp only; omega) (htp he) (by have:=htp he; dsimp only; omega) hln1 hO1 hok H X hX) L (fun e => e) fun v h B hq H L => ⟨B, hq, H⟩
     ·rw [if_pos he] at hX
      exact Tri.tail (ih11e a ln t.n b105 ov O _ t.e h l he H X hX) L (fun e => e) fun v h B hq H L => ⟨B, hq, H⟩
   ·rw [if_neg (fun c => e3 c.1), if_pos e3, ← seg_take] at hX
    refine Tri.eqv (guard_ft _ _ _) ?_
    refine Tri.eqv (pick_f _ _ _) ?_
    refine Tri.iff ?_
    refine Tri.bldS rfl ?_
    refine Tri.newS H L fun b144 h hb144 H L => ?_
    refine Tri.stores 0 (by decide) H rfl rfl (Nat.le_of_ble_eq_true rfl) L (fun e => nomatch e) (by first | rfl | assumption) fun h H L => ?_
    refine Tri.eql (fun c => absurd c e3) (fun _ => ?_)
    refine Tri.iff ?_
    exact Tri.tail (ih11e (a + N3) _ 0 b144 ov O _ N2 h l e3 H X hX) L (fun e => e) fun v h B hq H L => ⟨B, hq, H⟩
def lexA (L : List Nat) : List (Tk × Nat) × Int × Int:=lexL (L.length + 1) L 1 []
theorem sp20 {s : Bs} (hs : s.n ≤ 65535) (H : St l h) : Tri h false l (rTs (lexA (bts s))) (M 20 [.str s] h):=by
 refine t1 e20 fun L => ?_
 unfold B20
 refine Tri.newS H L fun b0 h hb0 H L => ?_
 refine Tri.eqv (bind_lenStr _ _) ?_
 refine Tri.lenStr ?_
 refine Tri.bs ?_
 refine Tri.gtr (fun e => by omega) (fun _ => ?_)
 refine Tri.iff ?_
 refine Tri.bind (sp28 H) L (fun _ => rfl) fun v h B hq21 H L => ?_
 obtain ⟨sb21, rfl, rfl⟩:=hq21
 refine Tri.bldS rfl ?_
 refine Tri.newS H L fun b23 h hb23 H L => ?_
 refine Tri.nil ?_
 refine Tri.addr ?_
 refine Tri.load 0 H rfl rfl ?_
 refine Tri.bind (sp44 H.u1) L (fun e => e) fun v h B hq H L => ?_
 obtain ⟨rfl, rfl⟩:=hq
 exact Tri.tail (toks_ok hs (s.n + 1) 0 1 .nilSlice [] h l (by omega) (by omega) (by omega) (Nat.le_refl _) (fun x hx => nomatch hx) (St.vc_new true 25 4 H.u1).d3 (lexA (bts s)) (by unfold lexA; rw [bts_len]; rfl)) L (fun e => e) fun v h B hq H L => ⟨B, hq, H⟩
theorem sp32 (H : St l h) : Tri h true l (rNo (.bool true)) (M 32 [] h):=by
 have e : M 32 [] h = some (.bool true, h):=by
  refine (@lim_F Tryz.prog (orc fnA Inv) labs 16 _ _ _).2 ⟨0, ?_⟩
  rfl
 rw [e]
 exact Tri.done (B:=[]) ⟨rfl, rfl⟩ H (Lo.refl _ _)
structure Good (L : List Nat) (X Y : List (Tk × Nat) × Int × Int) : Prop where
 err : X.2.1 = Y.2.1
 flt : X.2.1 ≠ 0 → X.2.2 + 1 = Y.2.2
 rng : -1000000 ≤ X.2.2 ∧ X.2.2 ≤ 1000000
 len : X.1.length = Y.1.length
 few : X.1.length ≤ 100000
 mono : ∀ (i p : Nat) x, X.1[i]? = some x → (i = 0 → p = 1) → (∀ y, 0 < i → X.1[i - 1]? = some y → p = y.2) → p ≤ x.2
 shift : ∀ (i : Nat) x y, X.1[i]? = some x → Y.1[i]? = some y → y.2 = x.2 + 1
 last : X.2.1 = 0 → ∃ A t ln, X.1 = A ++ [(t, ln)] ∧ t.k = 6 ∧ ln = 1 + L.count 10
 small : ∀ x ∈ X.1, x.2 ≤ 100000
theorem tcs_get : ∀ (O : List Ti) (i j : Nat) (x : Ti), O[i]? = some x → j < 4 → (tcs O)[i * 4 + j]? = x.c[j]?
 | [], i, j, x, h, _ => by simp at h
 | y :: O, 0, j, x, h, hj => by
  rw [List.getElem?_cons_zero, Option.some.injEq] at h
  subst h
  rw [tcs, List.flatMap_cons, Nat.zero_mul, Nat.zero_add, List.getElem?_append_left (show j < y.c.length from hj)]
 | y :: O, i + 1, j, x, h, hj => by
  rw [List.getElem?_cons_succ] at h
  have:=tcs_get O i j x h hj
  rw [tcs, List.flatMap_cons, List.getElem?_append_right (show y.c.length ≤ (i + 1) * 4 + j by show 4 ≤ _; omega)]
  rw [show (i + 1) * 4 + j - y.c.length = i * 4 + j by show (i + 1) * 4 + j - 4 = _; omega]
  exact this
theorem ends_ok {s : Bs} {W : List Nat} {X Y : List (Tk × Nat) × Int × Int} (hs : s.n ≤ 3000) (hW : bts s = W) (G : Good W X Y) {ov : V} {O : List Ti} {fb last : Nat} (hO : O.map (fun x => (x.t, x.ln)) = X.1) (hlast : ∀ x, 0 < X.1.length → X.1[X.1.length - 1]? = some x → last = x.2) :
 ∀ (m i : Nat) (h : Hp) (l : List Asn), s.n - i < m → i ≤ s.n → St (Mid.row fb [.int .i64 X.2.1, .int .i64 X.2.2] :: vc true ov 25 4 (tcs O) :: l) h →
  Tri h false l (rNo (.bool true)) (M 5 [.str s, ov, .ptr fb 0, .int .i64 (last : Int), .int .i64 ((1 + (W.take i).count 10 : Nat) : Int), .int .i64 (i : Int)] h):=by
 intro m
 induction m with
 | zero => intro i h l hm; omega
 | succ m ih =>
  intro i h l hm hi H
  have hcnt:=List.count_le_length (a:=10) (l:=W.take i)
  rw [List.length_take] at hcnt
  refine t6 e5 fun L => ?_
  unfold B5
  refine Tri.eqv (bind_lenStr _ _) ?_
  refine Tri.lenStr ?_
  refine Tri.bs ?_
  refine Tri.lss (fun e => ?_) (fun e => ?_)
  ·have hlt : i < s.n := by omega
   have ht : W.take (i + 1) = W.take i ++ [s.byte i]:=by
    rw [← hW, List.take_add_one, bts_get hlt]; rfl
   have ih7 : ∀ (c : Nat) (h : Hp) (l : List Asn), c = 1 + (W.take (i + 1)).count 10 → St (Mid.row fb [.int .i64 X.2.1, .int .i64 X.2.2] :: vc true ov 25 4 (tcs O) :: l) h →
    Tri h false l (rNo (.bool true)) (M 7 [.str s, ov, .ptr fb 0, .int .i64 (last : Int), .int .i64 (c : Int), .int .i64 (i : Int)] h):=by
    intro c h l hc H
    subst hc
    refine t6 e7 fun L => ?_
    unfold B7
    refine Tri.addN (by omega) (by omega) ?_
    exact Tri.tail (ih (i + 1) h l (by omega) (by omega) H) L (fun e => e) fun v h B hq H L => ⟨B, hq, H⟩
   refine Tri.ift ?_
   refine Tri.idxStr (by omega) (by omega) ?_
   rw [show ((i : Int)).toNat = i from rfl]
   refine Tri.eql (fun e1 => ?_) (fun e1 => ?_)
   ·have e1' : s.byte i = 10 := Int.ofNat.inj e1
    refine Tri.ift ?_
    refine Tri.addN (by omega) (by omega) ?_
    exact Tri.tail (ih7 (1 + (W.take i).count 10 + 1) h l (by rw [ht, List.count_append, e1']; simp; omega) H) L (fun e => e) fun v h B hq H L => ⟨B, hq, H⟩
   ·have e1' : s.byte i ≠ 10 := fun c => e1 (congrArg Int.ofNat c)
    refine Tri.iff ?_
    exact Tri.tail (ih7 (1 + (W.take i).count 10) h l (by rw [ht, List.count_append, List.count_singleton, if_neg (by simpa using e1')]; rfl) H) L (fun e => e) fun v h B hq H L => ⟨B, hq, H⟩
  ·rw [List.take_of_length_le (show W.length ≤ i by rw [← hW, bts_len]; omega)]
   refine Tri.iff ?_
   refine Tri.addr ?_
   refine Tri.load 0 H rfl rfl ?_
   refine Tri.neq (fun e1 => ?_) (fun e1 => ?_)
   ·refine Tri.eqv (guard_tf _ _ _) ?_
    refine Tri.eqv (guard_u _ _ _ _) ?_
    refine Tri.eqv (guard_tf _ _ _) ?_
    refine Tri.eqv (guard_u _ _ _ _) ?_
    refine Tri.eqv (guard_tf _ _ _) ?_
    refine Tri.eqv (pick_t _ _ _) ?_
    refine Tri.eqv (guard_tt _ _ _) ?_
    refine Tri.eqv (bind_bind _ _ _) ?_
    refine Tri.bind (sp32 H) L (fun _ => rfl) fun v h B hq58 H L => ?_
    obtain ⟨rfl, rfl⟩:=hq58
    refine Tri.bs ?_
    refine Tri.eqv (pick_t _ _ _) ?_
    exact Tri.done (B:=[]) ⟨rfl, rfl⟩ H.tl.tl L
   ·obtain ⟨A, t, ln, hA, hk, hln⟩ := G.last e1
    have hlen : O.length = A.length + 1:=by
     have:=congrArg List.length hO
     rw [List.length_map, hA, List.length_append, List.length_singleton] at this; exact this
    have hget : X.1[A.length]? = some (t, ln):=by rw [hA, List.getElem?_append_right (Nat.le_refl _), Nat.sub_self]; rfl
    have hla : last = ln:=by
     refine hlast (t, ln) (by rw [hA, List.length_append, List.length_singleton]; omega) ?_
     rw [show X.1.length - 1 = A.length by rw [hA, List.length_append, List.length_singleton]; omega]; exact hget
    have hfew:=G.few
    rw [hA, List.length_append, List.length_singleton] at hfew
    refine Tri.eqv (guard_ff _ _ _) ?_
    refine Tri.eqv (bind_bind _ _ _) ?_
    refine Tri.eqv (bind_lenSl _ _) ?_
    refine Tri.lenV 1 O.length H rfl (by decide) (tcs_len O) ?_
    refine Tri.bs ?_
    refine Tri.eqv (bind_intS _ _) ?_
    refine Tri.gtr (fun _ => ?_) (fun e => by omega)
    refine Tri.bs ?_
    refine Tri.eqv (guard_tt _ _ _) ?_
    refine Tri.eqv (bind_intS _ _) ?_
    refine Tri.eql (fun _ => ?_) (fun e => absurd (by rw [hla, hln]) e)
    refine Tri.bs ?_
    refine Tri.eqv (guard_ff _ _ _) ?_
    refine Tri.eqv (bind_optS _ _) ?_
    refine Tri.eqv (pick_t _ _ _) ?_
    refine Tri.bs ?_
    refine Tri.eqv (guard_tt _ _ _) ?_
    refine Tri.eqv (bind_bind _ _ _) ?_
    refine Tri.eqv (bind_lenSl _ _) ?_
    refine Tri.lenV 1 O.length H rfl (by decide) (tcs_len O) ?_
    refine Tri.bs ?_
    refine Tri.eqv (bind_intS _ _) ?_
    refine Tri.subN (by omega) (by omega) ?_
    refine Tri.eqv (bind_idxS _ _) ?_
    have hx : ∃ x, O[A.length]? = some x ∧ x.t = t:=by
     have h1:=hget
     rw [← hO, List.getElem?_map, Option.map_eq_some_iff] at h1
     obtain ⟨x, hx, hx2⟩:=h1
     exact ⟨x, hx, congrArg Prod.fst hx2⟩
    obtain ⟨x, hx, hxt⟩:=hx
    refine Tri.idxV 1 H rfl (by omega) (by rw [tcs_len]; omega) (by decide) fun b n c g ev hg => ?_
    subst ev
    refine Tri.eqv (bind_addr _ _) (Tri.addr (Tri.eqv (bind_load1 _ _) (Tri.loadV 1 (w:=.int .u8 6) H rfl ?_ ?_)))
    ·rw [show 0 + ((O.length : Int) - 1).toNat * 4 + 0 = A.length * 4 + 0 by omega, tcs_get O _ 0 x hx (by decide), ← hk, ← hxt]; rfl
    refine Tri.eqv (bind_intS _ _) ?_
    refine Tri.eql (fun _ => ?_) (fun e => absurd e (by decide))
    refine Tri.bs ?_
    refine Tri.eqv (guard_ff _ _ _) ?_
    refine Tri.eqv (bind_optS _ _) ?_
    refine Tri.eqv (pick_t _ _ _) ?_
    refine Tri.bs ?_
    refine Tri.eqv (pick_f _ _ _) ?_
    refine Tri.eqv (guard_tt _ _ _) ?_
    refine Tri.eqv (bind_bind _ _ _) ?_
    refine Tri.bind (sp32 H) L (fun _ => rfl) fun v h B hq120 H L => ?_
    obtain ⟨rfl, rfl⟩:=hq120
    refine Tri.bs ?_
    refine Tri.eqv (pick_t _ _ _) ?_
    exact Tri.done (B:=[]) ⟨rfl, rfl⟩ H.tl.tl L
theorem map_at {O : List Ti} {X : List (Tk × Nat)} (hO : O.map (fun x => (x.t, x.ln)) = X) {i : Nat} {x : Ti} (h : O[i]? = some x) : X[i]? = some (x.t, x.ln):=by rw [← hO, List.getElem?_map, h]; rfl
theorem both_ok {s : Bs} {W : List Nat} {X Y : List (Tk × Nat) × Int × Int} (hs : s.n ≤ 3000) (hW : bts s = W) (G : Good W X Y) {ov pv : V} {O P : List Ti} {fb : Nat} (hO : O.map (fun x => (x.t, x.ln)) = X.1) (hP : P.map (fun x => (x.t, x.ln)) = Y.1) :
 ∀ (m i last : Nat) (h : Hp) (l : List Asn), O.length - i < m → i ≤ O.length → (i = 0 → last = 1) → (∀ y, 0 < i → X.1[i - 1]? = some y → last = y.2) → St (Mid.row fb [.int .i64 X.2.1, .int .i64 X.2.2] :: vc true ov 25 4 (tcs O) :: vc true pv 25 4 (tcs P) :: l) h →
  Tri h false l (rNo (.bool true)) (M 3 [.str s, ov, .ptr fb 0, pv, .int .i64 (last : Int), .int .i64 (i : Int)] h):=by
 have hOl : O.length = X.1.length:=by rw [← hO, List.length_map]
 have hPl : P.length = X.1.length:=by rw [G.len, ← hP, List.length_map]
 have hfew:=G.few
 intro m
 induction m with
 | zero => intro i last h l hm; omega
 | succ m ih =>
  intro i last h l hm hi hl0 hl1 H
  refine t6 e3 fun L => ?_
  unfold B3
  refine Tri.eqv (bind_lenSl _ _) ?_
  refine Tri.lenV 1 O.length H rfl (by decide) (tcs_len O) ?_
  refine Tri.bs ?_
  refine Tri.lss (fun e => ?_) (fun e => ?_)
  ·have hlt : i < O.length := by omega
   have hx:=List.getElem?_eq_getElem hlt
   have hy:=List.getElem?_eq_getElem (show i < P.length by omega)
   have hXi:=map_at hO hx
   have hYi:=map_at hP hy
   have hmo:=G.mono i last _ hXi hl0 hl1
   have hsh:=G.shift i _ _ hXi hYi
   have hsm:=G.small _ (List.mem_of_getElem? hXi)
   generalize O[i] = x at hx hXi hmo hsh hsm
   generalize P[i] = y at hy hYi hsh
   dsimp only at hmo hsh hsm
   have cx : (tcs O)[i * 4 + 3]? = some (.int .i64 (x.ln : Int)):=by rw [tcs_get O i 3 x hx (by decide)]; rfl
   have cy : (tcs P)[i * 4 + 3]? = some (.int .i64 (y.ln : Int)):=by rw [tcs_get P i 3 y hy (by decide)]; rfl
   have hOb : ((i : Int).toNat + 1) * 4 ≤ (tcs O).length:=by rw [tcs_len]; omega
   have hPb : ((i : Int).toNat + 1) * 4 ≤ (tcs P).length:=by rw [tcs_len]; omega
   have e3 : 0 + (i : Int).toNat * 4 + 3 = i * 4 + 3:=by omega
   refine Tri.ift ?_
   refine Tri.idxV 1 H rfl (by omega) hOb (by decide) fun b1 n1 c1 g1 ev1 _ => ?_
   subst ev1
   refine Tri.addr (Tri.loadV 1 H rfl (by rw [e3]; exact cx) ?_)
   refine Tri.lss (fun c => by omega) (fun _ => ?_)
   refine Tri.eqv (guard_ff _ _ _) ?_
   refine Tri.bs ?_
   refine Tri.eqv (guard_ff _ _ _) ?_
   refine Tri.bs ?_
   refine Tri.eqv (guard_ff _ _ _) ?_
   refine Tri.eqv (bind_idxS _ _) ?_
   refine Tri.idxV 2 H rfl (by omega) hPb (by decide) fun b2 n2 c2 g2 ev2 _ => ?_
   subst ev2
   refine Tri.bs ?_
   refine Tri.eqv (guard_ff _ _ _) ?_
   refine Tri.eqv (bind_addr _ _) ?_
   refine Tri.addr ?_
   refine Tri.bs ?_
   refine Tri.eqv (guard_ff _ _ _) ?_
   refine Tri.eqv (bind_load1 _ _) ?_
   refine Tri.loadV 2 H rfl (by rw [e3]; exact cy) ?_
   refine Tri.bs ?_
   refine Tri.eqv (guard_ff _ _ _) ?_
   refine Tri.bs ?_
   refine Tri.eqv (guard_ff _ _ _) ?_
   refine Tri.bs ?_
   refine Tri.eqv (guard_ff _ _ _) ?_
   refine Tri.eqv (bind_idxS _ _) ?_
   refine Tri.idxV 1 H rfl (by omega) hOb (by decide) fun b3 n3 c3 g3 ev3 _ => ?_
   cases ev3
   refine Tri.bs ?_
   refine Tri.eqv (guard_ff _ _ _) ?_
   refine Tri.eqv (bind_addr _ _) ?_
   refine Tri.addr ?_
   refine Tri.bs ?_
   refine Tri.eqv (guard_ff _ _ _) ?_
   refine Tri.eqv (bind_load1 _ _) ?_
   refine Tri.loadV 1 H rfl (by rw [e3]; exact cx) ?_
   refine Tri.bs ?_
   refine Tri.eqv (guard_ff _ _ _) ?_
   refine Tri.eqv (bind_intS _ _) ?_
   refine Tri.addN (by omega) (by omega) ?_
   refine Tri.bs ?_
   refine Tri.eqv (guard_ff _ _ _) ?_
   refine Tri.eqv (bind_intS _ _) ?_
   refine Tri.neq (fun c => absurd (by rw [hsh]; rfl) c) (fun _ => ?_)
   refine Tri.bs ?_
   refine Tri.eqv (pick_f _ _ _) ?_
   refine Tri.iff ?_
   refine Tri.idxV 1 H rfl (by omega) hOb (by decide) fun b3 n3 c3 g3 ev3 _ => ?_
   cases ev3
   refine Tri.addr (Tri.loadV 1 H rfl (by rw [e3]; exact cx) ?_)
   refine Tri.addN (by omega) (by omega) ?_
   exact Tri.tail (ih (i + 1) x.ln h l (by omega) (by omega) (fun c => absurd c (by omega)) (fun y _ hy => by rw [Nat.add_sub_cancel, hXi] at hy; cases hy; rfl) H) L (fun e => e) fun v h B hq H L => ⟨B, hq, H⟩
  ·refine Tri.iff ?_
   exact Tri.tail (ends_ok hs hW G hO (fun x h0 hx => hl1 x (by omega) (by rw [show i = X.1.length by omega]; exact hx)) (s.n + 1) 0 h (vc true pv 25 4 (tcs P) :: l) (by omega) (by omega) H) L (fun e => e) fun v h B hq H L => ⟨B, hq, by obtain ⟨rfl, rfl⟩:=hq; exact H.tl⟩
theorem main_ok {s : Bs} (hs : s.n ≤ 3000) (hG : (∀ b ∈ bts s, b ≠ 13) → Good (bts s) (lexA (bts s)) (lexA (10 :: bts s))) : ∀ (m i : Nat) (h : Hp) (l : List Asn), s.n - i < m → i ≤ s.n → (∀ j, j < i → s.byte j ≠ 13) → St l h →
 Tri h false l (rNo (.bool true)) (M 1 [.str s, .int .i64 (i : Int)] h):=by
 intro m
 induction m with
 | zero => intro i h l hm; omega
 | succ m ih =>
  intro i h l hm hi hn H
  refine t2 e1 fun L => ?_
  unfold B1
  refine Tri.eqv (bind_lenStr _ _) ?_
  refine Tri.lenStr ?_
  refine Tri.bs ?_
  refine Tri.lss (fun e => ?_) (fun e => ?_)
  ·refine Tri.ift ?_
   refine Tri.idxStr (by omega) (by omega) ?_
   rw [show ((i : Int)).toNat = i from rfl]
   refine Tri.eql (fun e1 => ?_) (fun e1 => ?_)
   ·refine Tri.ift ?_
    refine Tri.bind (sp32 H) L (fun _ => rfl) fun v h B hq21 H L => ?_
    obtain ⟨rfl, rfl⟩:=hq21
    exact Tri.done (B:=[]) ⟨rfl, rfl⟩ H L
   ·refine Tri.iff ?_
    refine Tri.addN (by omega) (by omega) ?_
    exact Tri.tail (ih (i + 1) h l (by omega) (by omega) (fun j hj => by
     rcases Nat.lt_or_eq_of_le (Nat.lt_succ_iff.1 hj) with h1 | h1
     ·exact hn j h1
     ·subst h1; exact fun c => e1 (congrArg Int.ofNat c)) H) L (fun e => e) fun v h B hq H L => ⟨B, hq, H⟩
  ·have hi' : i = s.n := by omega
   subst hi'
   have G := hG (fun b hb => by
    obtain ⟨j, hj, rfl⟩:=List.getElem_of_mem hb
    rw [bts_len] at hj
    have:=bts_get hj
    rw [List.getElem?_eq_getElem (by rw [bts_len]; exact hj), Option.some.injEq] at this
    rw [this]; exact hn j hj)
   have ih20:=fun (x : Bs) (h : Hp) (l : List Asn) (hx : x.n ≤ 65535) (H : St l h) => sp20 hx H
   refine Tri.iff ?_
   refine Tri.bind (ih20 _ _ _ (by first | rfl | assumption | omega | (dsimp only; omega)) H) L (fun e => e) fun v h B hq41 H L => ?_
   obtain ⟨ov41, O41, hO41, eO41, rfl, rfl⟩:=hq41
   refine Tri.ext rfl ?_
   refine Tri.ext rfl ?_
   refine Tri.newS H L fun b44 h hb44 H L => ?_
   refine Tri.stores 0 (by decide) H rfl rfl (Nat.le_of_ble_eq_true rfl) L (fun e => nomatch e) (by first | rfl | assumption) fun h H L => ?_
   refine Tri.strCat (by simp only [*]; omega) fun z46 nz46 ez46 => ?_
   have nz : z46.n = 1 + s.n:=nz46
   have e46 : bts z46 = 10 :: bts s:=ez46
   clear nz46 ez46
   generalize lexA (bts s) = X at G eO41 H
   rw [← e46] at G
   refine Tri.bind (ih20 _ _ _ (by first | rfl | assumption | omega | (dsimp only; omega)) H) L (fun e => e) fun v h B hq60 H L => ?_
   obtain ⟨ov60, O60, hO60, eO60, rfl, rfl⟩:=hq60
   refine Tri.ext rfl ?_
   refine Tri.ext rfl ?_
   refine Tri.newS H L fun b63 h hb63 H L => ?_
   refine Tri.stores 0 (by decide) H rfl rfl (Nat.le_of_ble_eq_true rfl) L (fun e => nomatch e) (by first | rfl | assumption) fun h H L => ?_
   refine Tri.addr ?_
   refine Tri.load 2 H rfl rfl ?_
   refine Tri.addr ?_
   refine Tri.load 0 H rfl rfl ?_
   generalize lexA (bts z46) = Y at *
   refine Tri.neq (fun c => absurd G.err c) (fun _ => ?_)
   refine Tri.eqv (guard_ff _ _ _) ?_
   refine Tri.eqv (bind_addr _ _) ?_
   refine Tri.addr ?_
   refine Tri.eqv (bind_load1 _ _) ?_
   refine Tri.load 2 H rfl rfl ?_
   refine Tri.eqv (bind_intS _ _) ?_
   have hlen : O41.length = O60.length:=by
    have h1:=congrArg List.length eO41
    have h2:=congrArg List.length eO60
    rw [List.length_map] at h1 h2
    rw [h1, h2, G.len]
   have hr:=G.rng
   refine Tri.neq (fun e5 => ?_) (fun e5 => ?_)
   ·have hf := G.flt e5
    refine Tri.bs ?_
    refine Tri.eqv (guard_tt _ _ _) ?_
    refine Tri.eqv (bind_addr _ _) ?_
    refine Tri.addr ?_
    refine Tri.eqv (bind_load1 _ _) ?_
    refine Tri.load 2 H rfl rfl ?_
    refine Tri.eqv (bind_intS _ _) ?_
    refine Tri.addN (by omega) (by omega) ?_
    refine Tri.eqv (bind_addr _ _) ?_
    refine Tri.addr ?_
    refine Tri.eqv (bind_load1 _ _) ?_
    refine Tri.load 0 H rfl rfl ?_
    refine Tri.eqv (bind_intS _ _) ?_
    refine Tri.neq (fun c => absurd hf c) (fun _ => ?_)
    refine Tri.bs ?_
    refine Tri.eqv (guard_ff _ _ _) ?_
    refine Tri.eqv (bind_optS _ _) ?_
    refine Tri.eqv (pick_t _ _ _) ?_
    refine Tri.bs ?_
    refine Tri.eqv (pick_f _ _ _) ?_
    refine Tri.eqv (guard_ff _ _ _) ?_
    refine Tri.eqv (bind_bind _ _ _) ?_
    refine Tri.eqv (bind_lenSl _ _) ?_
    refine Tri.lenV 3 O41.length H rfl (by decide) (tcs_len O41) ?_
    refine Tri.bs ?_
    refine Tri.eqv (bind_bind _ _ _) ?_
    refine Tri.eqv (bind_lenSl _ _) ?_
    refine Tri.lenV 1 O60.length H rfl (by decide) (tcs_len O60) ?_
    refine Tri.bs ?_
    refine Tri.eqv (bind_intS _ _) ?_
    refine Tri.neq (fun c => absurd (by rw [hlen]) c) (fun _ => ?_)
    refine Tri.bs ?_
    refine Tri.eqv (pick_f _ _ _) ?_
    refine Tri.iff ?_
    exact Tri.tail (both_ok hs rfl G eO41 eO60 (O41.length + 1) 0 1 h l (by omega) (Nat.zero_le _) (fun _ => rfl) (fun y h => absurd h (by decide)) H.tl.d2) L (fun e => e) fun v h B hq H L => ⟨B, hq, H⟩
   ·refine Tri.bs ?_
    refine Tri.eqv (guard_ft _ _ _) ?_
    refine Tri.eqv (guard_ff _ _ _) ?_
    refine Tri.eqv (bind_optS _ _) ?_
    refine Tri.eqv (pick_f _ _ _) ?_
    refine Tri.bs ?_
    refine Tri.eqv (pick_f _ _ _) ?_
    refine Tri.eqv (guard_ff _ _ _) ?_
    refine Tri.eqv (bind_bind _ _ _) ?_
    refine Tri.eqv (bind_lenSl _ _) ?_
    refine Tri.lenV 3 O41.length H rfl (by decide) (tcs_len O41) ?_
    refine Tri.bs ?_
    refine Tri.eqv (bind_bind _ _ _) ?_
    refine Tri.eqv (bind_lenSl _ _) ?_
    refine Tri.lenV 1 O60.length H rfl (by decide) (tcs_len O60) ?_
    refine Tri.bs ?_
    refine Tri.eqv (bind_intS _ _) ?_
    refine Tri.neq (fun c => absurd (by rw [hlen]) c) (fun _ => ?_)
    refine Tri.bs ?_
    refine Tri.eqv (pick_f _ _ _) ?_
    refine Tri.iff ?_
    exact Tri.tail (both_ok hs rfl G eO41 eO60 (O41.length + 1) 0 1 h l (by omega) (Nat.zero_le _) (fun _ => rfl) (fun y h => absurd h (by decide)) H.tl.d2) L (fun e => e) fun v h B hq H L => ⟨B, hq, H⟩
theorem sp10 {s : Bs} (hG : s.n ≤ 3000 → (∀ b ∈ bts s, b ≠ 13) → Good (bts s) (lexA (bts s)) (lexA (10 :: bts s))) (H : St l h) : Tri h false l (rNo (.bool true)) (M 10 [.str s] h):=by
 refine t1 e10 fun L => ?_
 unfold B10
 refine Tri.eqv (bind_lenStr _ _) ?_
 refine Tri.lenStr ?_
 refine Tri.bs ?_
 refine Tri.gtr (fun e => ?_) (fun e => ?_)
 ·refine Tri.ift ?_
  refine Tri.bind (sp32 H) L (fun _ => rfl) fun v h B hq21 H L => ?_
  obtain ⟨rfl, rfl⟩:=hq21
  exact Tri.done (B:=[]) ⟨rfl, rfl⟩ H L
 ·refine Tri.iff ?_
  exact Tri.tail (main_ok (by omega) (hG (by omega)) (s.n + 1) 0 h l (by omega) (Nat.zero_le _) (fun j hj => absurd hj (Nat.not_lt_zero _)) H) L (fun e => e) fun v h B hq H L => ⟨B, hq, H⟩
end
section
theorem lexL_step (R : List Nat) : ∃ w, w ≤ R.length ∧
 ((R.drop w = [] ∧ ∀ f ln acc, lexL (f + 1) R ln acc = (acc ++ [(⟨6, [], 0, 0, 0⟩, ln + lnc (R.take w))], 0, 0)) ∨
 (∃ n, 1 ≤ n ∧ n ≤ (R.drop w).length ∧ ∀ f ln acc, lexL (f + 1) R ln acc = lexL f ((R.drop w).drop n) (ln + lnc (R.take w) + lnc ((R.drop w).take n)) acc) ∨
 (∃ e k, e ≠ 0 ∧ k ≤ (R.drop w).length ∧ ∀ f ln acc, lexL (f + 1) R ln acc = ([], e, ((ln + lnc (R.take w) + lnc ((R.drop w).take k) : Nat) : Int))) ∨
 (∃ t : Tk, 1 ≤ t.n ∧ t.n ≤ (R.drop w).length ∧ ∀ f ln acc, lexL (f + 1) R ln acc = lexL f ((R.drop w).drop t.n) (ln + lnc (R.take w) + lnc ((R.drop w).take t.n)) (acc ++ [(t, ln + lnc (R.take w))]))):=by
 refine ⟨cnt isSp R, cnt_le _ _, ?_⟩
 by_cases h1 : R.drop (cnt isSp R) = []
 ·exact .inl ⟨h1, fun f ln acc => by rw [lexL, if_pos h1]⟩
 ·right
  by_cases h2 : (nt (R.drop (cnt isSp R))).2.1 = 0 ∧ (nt (R.drop (cnt isSp R))).1 = true
  ·exact .inl ⟨_, nt_pos h2.2 h2.1, nt_le _, fun f ln acc => by rw [lexL, if_neg h1, if_pos h2]⟩
  ·right
   by_cases h3 : (nt (R.drop (cnt isSp R))).2.1 ≠ 0
   ·exact .inl ⟨_, _, h3, nt_le _, fun f ln acc => by rw [lexL, if_neg h1, if_neg h2, if_pos h3]⟩
   ·by_cases h4 : (tk (R.drop (cnt isSp R))).e ≠ 0
    ·exact .inl ⟨_, 0, h4, Nat.zero_le _, fun f ln acc => by rw [lexL, if_neg h1, if_neg h2, if_neg h3, if_pos h4, List.take_zero]; rfl⟩
    ·refine .inr ⟨_, tk_pos h1 ?_, tk_le _ h1, fun f ln acc => by rw [lexL, if_neg h1, if_neg h2, if_neg h3, if_neg h4]⟩
     exact Decidable.not_not.1 h4
def up1 (l : List (Tk × Nat)) : List (Tk × Nat):=l.map fun p => (p.1, p.2 + 1)
def sh (X : List (Tk × Nat) × Int × Int) : List (Tk × Nat) × Int × Int:=(up1 X.1, X.2.1, if X.2.1 = 0 then X.2.2 else X.2.2 + 1)
theorem lexL_up : ∀ (f : Nat) (R : List Nat) (ln : Nat) (acc : List (Tk × Nat)), lexL f R (ln + 1) (up1 acc) = sh (lexL f R ln acc)
 | 0, R, ln, acc => rfl
 | f + 1, R, ln, acc => by
  obtain ⟨w, _, h⟩:=lexL_step R
  rcases h with ⟨_, h⟩ | ⟨n, _, _, h⟩ | ⟨e, k, he, _, h⟩ | ⟨t, _, _, h⟩
  ·rw [h, h]
   unfold sh up1
   rw [if_pos rfl, List.map_append]
   simp only [List.map_cons, List.map_nil]
   rw [show ln + 1 + lnc (R.take w) = ln + lnc (R.take w) + 1 by omega]
  ·rw [h, h, ← lexL_up f]
   congr 1; omega
  ·rw [h, h]
   unfold sh
   rw [if_neg he]
   refine congrArg (fun z => (([] : List (Tk × Nat)), e, z)) ?_
   dsimp only
   omega
  ·rw [h, h, ← lexL_up f]
   rw [show ln + 1 + lnc (R.take w) = ln + lnc (R.take w) + 1 by omega]
   congr 1
   ·omega
   ·unfold up1; rw [List.map_append]; rfl
theorem lexL_fuel : ∀ (f g : Nat) (R : List Nat) (ln : Nat) (acc : List (Tk × Nat)), R.length < f → R.length < g → lexL f R ln acc = lexL g R ln acc
 | 0, _, R, ln, acc, h, _ => absurd h (Nat.not_lt_zero _)
 | _ + 1, 0, R, ln, acc, _, h => absurd h (Nat.not_lt_zero _)
 | f + 1, g + 1, R, ln, acc, hf, hg => by
  obtain ⟨w, hw, h⟩:=lexL_step R
  rcases h with ⟨_, h⟩ | ⟨n, h1, h2, h⟩ | ⟨e, k, he, _, h⟩ | ⟨t, h1, h2, h⟩
  ·rw [h, h]
  ·rw [h, h]
   have : ((R.drop w).drop n).length < R.length:=by rw [List.length_drop, List.length_drop]; rw [List.length_drop] at h2; omega
   exact lexL_fuel f g _ _ _ (by omega) (by omega)
  ·rw [h, h]
  ·rw [h, h]
   have : ((R.drop w).drop t.n).length < R.length:=by rw [List.length_drop, List.length_drop]; rw [List.length_drop] at h2; omega
   exact lexL_fuel f g _ _ _ (by omega) (by omega)
def No13 (L : List Nat) : Prop:=∀ b ∈ L, b ≠ 13
theorem No13.take {L : List Nat} (h : No13 L) (n : Nat) : No13 (L.take n):=fun b hb => h b (List.mem_of_mem_take hb)
theorem No13.drop {L : List Nat} (h : No13 L) (n : Nat) : No13 (L.drop n):=fun b hb => h b (List.mem_of_mem_drop hb)
theorem lnc_count : ∀ (L : List Nat), No13 L → lnc L = L.count 10
 | [], _ => rfl
 | b :: r, h => by
  have ih:=lnc_count r fun c hc => h c (List.mem_cons_of_mem _ hc)
  have hb : b ≠ 13:=h b List.mem_cons_self
  by_cases h10 : b = 10
  ·subst h10
   rw [List.count_cons_self, ← ih]
   cases r with
   | nil => rfl
   | cons c r =>
    refine lnc_end rfl ?_ r
    by_cases hc : c = 10
    ·exact .inr hc
    ·left
     have hc13 : c ≠ 13:=h c (by simp)
     unfold isEnd
     simp [hc, hc13]
  ·rw [List.count_cons_of_ne h10, ← ih]
   exact lnc_no (by unfold isEnd; simp [h10, hb]) r
theorem count_cut (L : List Nat) (n : Nat) : L.count 10 = (L.take n).count 10 + (L.drop n).count 10:=by
 conv => lhs; rw [← List.take_append_drop n L]
 rw [List.count_append]
def Inc : Nat → List (Tk × Nat) → Prop
 | _, [] => True
 | p, x :: l => p ≤ x.2 ∧ Inc x.2 l
def lastL : Nat → List (Tk × Nat) → Nat
 | p, [] => p
 | _, x :: l => lastL x.2 l
theorem Inc.snoc : ∀ {p : Nat} {l : List (Tk × Nat)} {x : Tk × Nat}, Inc p l → lastL p l ≤ x.2 → Inc p (l ++ [x])
 | _, [], _, _, h => ⟨h, trivial⟩
 | _, _ :: _, _, h1, h2 => ⟨h1.1, Inc.snoc h1.2 h2⟩
theorem lastL_snoc : ∀ (p : Nat) (l : List (Tk × Nat)) (x : Tk × Nat), lastL p (l ++ [x]) = x.2
 | _, [], _ => rfl
 | _, y :: l, x => lastL_snoc y.2 l x
theorem Inc.get : ∀ {q : Nat} {l : List (Tk × Nat)} {i p : Nat} {x : Tk × Nat}, Inc q l → l[i]? = some x → (i = 0 → p = q) → (∀ y, 0 < i → l[i - 1]? = some y → p = y.2) → p ≤ x.2
 | q, y :: l, 0, p, x, h, hx, h0, _ => by
  rw [List.getElem?_cons_zero, Option.some.injEq] at hx
  subst hx
  rw [h0 rfl]; exact h.1
 | q, y :: l, i + 1, p, x, h, hx, _, h1 => by
  rw [List.getElem?_cons_succ] at hx
  refine Inc.get h.2 hx (fun e => ?_) fun z hz hz2 => ?_
  ·subst e; exact h1 y (by omega) rfl
  ·refine h1 z (by omega) ?_
   rw [show i + 1 - 1 = (i - 1) + 1 by omega, List.getElem?_cons_succ]; exact hz2
theorem lexL_inc : ∀ (f : Nat) (R : List Nat) (ln : Nat) (acc : List (Tk × Nat)), R.length < f → No13 R → Inc 1 acc → lastL 1 acc ≤ ln →
 ((lexL f R ln acc).2.1 = 0 → Inc 1 (lexL f R ln acc).1 ∧ ∃ A t n, (lexL f R ln acc).1 = A ++ [(t, n)] ∧ t.k = 6 ∧ n = ln + R.count 10) ∧ ((lexL f R ln acc).2.1 ≠ 0 → (lexL f R ln acc).1 = [])
 | 0, R, ln, acc, h, _, _, _ => absurd h (Nat.not_lt_zero _)
 | f + 1, R, ln, acc, hf, hR, hi, hl => by
  obtain ⟨w, hw, h⟩:=lexL_step R
  have e1:=lnc_count _ (hR.take w)
  have e2:=count_cut R w
  rcases h with ⟨h0, h⟩ | ⟨n, h1, h2, h⟩ | ⟨e, k, he, _, h⟩ | ⟨t, h1, h2, h⟩
  ·rw [h]
   refine ⟨fun _ => ⟨hi.snoc (by show lastL 1 acc ≤ ln + _; omega), acc, _, _, rfl, rfl, ?_⟩, fun c => absurd rfl c⟩
   rw [e1, e2, h0]; rfl
  ·rw [h]
   have e3:=lnc_count _ ((hR.drop w).take n)
   have e4:=count_cut (R.drop w) n
   have : ((R.drop w).drop n).length < R.length:=by rw [List.length_drop, List.length_drop]; rw [List.length_drop] at h2; omega
   have ih:=lexL_inc f ((R.drop w).drop n) (ln + lnc (R.take w) + lnc ((R.drop w).take n)) acc (by omega) ((hR.drop w).drop n) hi (by omega)
   refine ⟨fun c => ?_, ih.2⟩
   obtain ⟨a1, A, t, m, a2, a3, a4⟩:=ih.1 c
   exact ⟨a1, A, t, m, a2, a3, by omega⟩
  ·rw [h]
   exact ⟨fun c => absurd c he, fun _ => rfl⟩
  ·rw [h]
   have e3:=lnc_count _ ((hR.drop w).take t.n)
   have e4:=count_cut (R.drop w) t.n
   have : ((R.drop w).drop t.n).length < R.length:=by rw [List.length_drop, List.length_drop]; rw [List.length_drop] at h2; omega
   have ih:=lexL_inc f ((R.drop w).drop t.n) (ln + lnc (R.take w) + lnc ((R.drop w).take t.n)) (acc ++ [(t, ln + lnc (R.take w))]) (by omega) ((hR.drop w).drop t.n) (hi.snoc (by show lastL 1 acc ≤ ln + _; omega)) (by rw [lastL_snoc]; omega)
   refine ⟨fun c => ?_, ih.2⟩
   obtain ⟨a1, A, t, m, a2, a3, a4⟩:=ih.1 c
   exact ⟨a1, A, t, m, a2, a3, by omega⟩
theorem lexL_small (B N : Nat) : ∀ (f : Nat) (R : List Nat) (ln : Nat) (acc : List (Tk × Nat)), (∀ x ∈ acc, x.2 ≤ B) → ln + R.length ≤ B → acc.length + R.length + 1 ≤ N →
 (∀ x ∈ (lexL f R ln acc).1, x.2 ≤ B) ∧ (0 ≤ (lexL f R ln acc).2.2 ∧ (lexL f R ln acc).2.2 ≤ B) ∧ (lexL f R ln acc).1.length ≤ N
 | 0, R, ln, acc, _, _, _ => ⟨(fun x hx => nomatch hx), ⟨Int.le_refl _, Int.natCast_nonneg _⟩, Nat.zero_le _⟩
 | f + 1, R, ln, acc, ha, hB, hN => by
  obtain ⟨w, hw, h⟩:=lexL_step R
  have e1:=lnc_le _ (R.take w) (Nat.le_refl _)
  rw [List.length_take] at e1
  have app : ∀ t : Tk, ∀ x ∈ acc ++ [(t, ln + lnc (R.take w))], x.2 ≤ B:=fun t x hx => (List.mem_append.1 hx).elim (ha x) fun hx => by rw [List.mem_singleton.1 hx]; show ln + _ ≤ B; omega
  rcases h with ⟨h0, h⟩ | ⟨n, h1, h2, h⟩ | ⟨e, k, he, h2, h⟩ | ⟨t, h1, h2, h⟩
  ·rw [h]
   exact ⟨app _, ⟨Int.le_refl _, Int.natCast_nonneg _⟩, by rw [List.length_append, List.length_singleton]; omega⟩
  ·rw [h]
   have e3:=lnc_le _ ((R.drop w).take n) (Nat.le_refl _)
   rw [List.length_take] at e3
   rw [List.length_drop] at h2
   exact lexL_small B N f _ _ _ ha (by rw [List.length_drop, List.length_drop]; omega) (by rw [List.length_drop, List.length_drop]; omega)
  ·rw [h]
   have e3:=lnc_le _ ((R.drop w).take k) (Nat.le_refl _)
   rw [List.length_take] at e3
   rw [List.length_drop] at h2
   exact ⟨(fun x hx => nomatch hx), ⟨Int.natCast_nonneg _, by show ((_ : Nat) : Int) ≤ _; omega⟩, Nat.zero_le _⟩
  ·rw [h]
   have e3:=lnc_le _ ((R.drop w).take t.n) (Nat.le_refl _)
   rw [List.length_take] at e3
   rw [List.length_drop] at h2
   exact lexL_small B N f _ _ _ (app t) (by rw [List.length_drop, List.length_drop]; omega) (by rw [List.length_drop, List.length_drop, List.length_append, List.length_singleton]; omega)
theorem lexL_cons (W : List Nat) (h : No13 W) (f ln : Nat) (acc : List (Tk × Nat)) : lexL (f + 1) (10 :: W) ln acc = lexL (f + 1) W (ln + 1) acc:=by
 have e : cnt isSp (10 :: W) = cnt isSp W + 1:=rfl
 have e1 : lnc (10 :: W.take (cnt isSp W)) = lnc (W.take (cnt isSp W)) + 1:=by
  rw [lnc_count _ (h.take _), lnc_count, List.count_cons_self]
  intro b hb
  rcases List.mem_cons.1 hb with rfl | hb
  ·decide
  ·exact h.take _ b hb
 rw [lexL, lexL, e, List.drop_succ_cons, List.take_succ_cons, e1, show ln + (lnc (W.take (cnt isSp W)) + 1) = ln + 1 + lnc (W.take (cnt isSp W)) by omega]
theorem lexA_up (W : List Nat) (h : No13 W) : lexA (10 :: W) = sh (lexA W):=by
 unfold lexA
 rw [List.length_cons, lexL_cons W h, lexL_fuel (W.length + 1 + 1) (W.length + 1) W _ _ (by omega) (by omega)]
 exact lexL_up _ W 1 []
theorem good {W : List Nat} (hW : W.length ≤ 3000) (h : No13 W) : Good W (lexA W) (lexA (10 :: W)):=by
 have hi:=lexL_inc (W.length + 1) W 1 [] (by omega) h trivial (Nat.le_refl _)
 have hsm:=lexL_small 3001 3001 (W.length + 1) W 1 [] (fun x hx => nomatch hx) (by omega) (by simp only [List.length_nil]; omega)
 rw [lexA_up W h]
 unfold lexA
 generalize lexL (W.length + 1) W 1 [] = X at hi hsm
 obtain ⟨hs1, ⟨hs2, hs3⟩, hs4⟩:=hsm
 refine ⟨rfl, fun e => ?_, ⟨by omega, by omega⟩, ?_, by omega, fun i p x hx h0 h1 => ?_, fun i x y hx hy => ?_, fun e => (hi.1 e).2, fun x hx => by have:=hs1 x hx; omega⟩
 ·show _ = (if X.2.1 = 0 then X.2.2 else X.2.2 + 1)
  rw [if_neg e]
 ·show _ = (up1 X.1).length
  rw [up1, List.length_map]
 ·by_cases e : X.2.1 = 0
  ·exact (hi.1 e).1.get hx h0 h1
  ·rw [hi.2 e] at hx; simp at hx
 ·change (up1 X.1)[i]? = some y at hy
  rw [up1, List.getElem?_map, hx] at hy
  cases hy; rfl
end
end Go.LX
end
