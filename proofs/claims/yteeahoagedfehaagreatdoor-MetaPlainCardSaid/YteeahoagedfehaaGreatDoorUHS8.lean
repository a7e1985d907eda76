/- A part of the proof. -/
import Derived.Test.YteeahoagedfehaaGreatDoorUHS6
import Derived.Test.YteeahoagedfehaaGreatDoorUMidWE
set_option linter.all false
set_option warn.classDefReducibility false
noncomputable section
section
open Go Go.Mid Go.Proofs
set_option maxRecDepth 100000
namespace Go.MS
section
variable {l F : List Asn} {h h0 : Hp} {ro : Bool} {Q : V → List Asn → Prop} {k : V → VH} {K : V → Hp → VH} {v lV : V} {X X' : HI} {x y : IO} {i : Nat} {pl : List Pl}
theorem plC_over (c : List Pl) (i : Nat) (hi : i < c.length) (p : Pl) : over (c.flatMap plC) (0 + i * 4) (plC p) = (c.set i p).flatMap plC:=by
 unfold over
 rw [Nat.zero_add, show i * 4 + (plC p).length = (i + 1) * 4 by simp; omega]
 induction c generalizing i with
 | nil => simp at hi
 | cons a c ih =>
  cases i with
  | zero => rfl
  | succ i =>
   have h2:=ih i (by simpa using hi)
   rw [List.set_cons_succ, List.flatMap_cons, List.flatMap_cons, ← h2]
   have e1 : ((plC a ++ c.flatMap plC).take ((i + 1) * 4)) = plC a ++ (c.flatMap plC).take (i * 4):=by
    rw [show (i + 1) * 4 = (plC a).length + i * 4 by simp; omega, List.take_length_add_append]
   have e2 : ((plC a ++ c.flatMap plC).drop ((i + 1 + 1) * 4)) = (c.flatMap plC).drop ((i + 1) * 4):=by
    rw [show (i + 1 + 1) * 4 = (plC a).length + (i + 1) * 4 by simp; omega, ← List.drop_drop, List.drop_left]
   rw [e1, e2]; simp
theorem plC_take (c : List Pl) (i : Nat) : (c.flatMap plC).take (i * 4) = (c.take i).flatMap plC:=by
 induction c generalizing i with
 | nil => simp
 | cons a c ih =>
  cases i with
  | zero => simp
  | succ i =>
   rw [List.take_succ_cons, List.flatMap_cons, List.flatMap_cons, show (i + 1) * 4 = (plC a).length + i * 4 by simp; omega, List.take_length_add_append, ih]
def alive (pl : List Pl) : List Pl:=pl.filter fun p => !dead p
def rDel (pl : List Pl) : V → List Asn → Prop:=fun w B => B = [pls w (alive pl)]
theorem fin61 {c : List Pl} (hc : c.take i = alive pl) (hl : i ≤ c.length) (hv : Own h0 ro v) (L : Lo ro h0 h) (H : St (pls v c :: l) h) : Tri h0 ro l (rDel pl)
 (bindS (slSlK 126 4 (some (.int .i64 (i : Nat))) none h v) fun v20 h21 => bindS (kZero h21 4 (some (.agg [(.int .u8 0), (.int .i64 0), (.int .u8 0), (.int .i64 0)])) v20) fun v22 h23 =>
 bindS (slSlK 126 4 none (some (.int .i64 (i : Nat))) h23 v) fun v24 h25 => some (v24, h25)):=by
 refine Tri.clearV 0 c.length i H rfl (by decide) (plC_len _) hl L hv rfl rfl fun cs' h' e1 e2 H L => ?_
 refine Tri.cutV 0 c.length i H rfl (by decide) (by rw [e1, plC_len]) hl fun v' H _ _ => ?_
 rw [e2, plC_take, hc] at H
 exact Tri.done (B:=[pls v' (alive pl)]) rfl H L
theorem alive_take (j : Nat) (hj : j < pl.length) : alive (pl.take (j + 1)) = alive (pl.take j) ++ (if dead pl[j] then [] else [pl[j]]):=by
 unfold alive
 rw [List.take_succ, List.getElem?_eq_getElem hj, List.filter_append]
 congr 1
 show List.filter _ [pl[j]] = _
 cases e : dead pl[j] <;> simp [e]
theorem take_set1 (c : List Pl) (p : Pl) {i : Nat} (hi : i < c.length) : (c.set i p).take (i + 1) = c.take i ++ [p]:=by
 rw [List.take_succ, List.getElem?_set_self hi, List.take_set_of_le (Nat.le_refl _)]; rfl
theorem loop61 (hf : pl.length ≤ 100000) (m : Nat) : ∀ {i j : Nat} {c : List Pl} {h : Hp} {l : List Asn} (H : St (pls v c :: l) h) (hlen : c.length = pl.length) (hc : c.take i = alive (pl.take j)) (hd : c.drop j = pl.drop j) (hij : i ≤ j) (hj : j ≤ pl.length) (hm : pl.length - j ≤ m),
 Tri h false l (rDel pl) (M 61 [v, .func 90 [] [], .int .i64 (i : Nat), .int .i64 (j : Nat)] h):=by
 induction m with
 | zero =>
  intro i j c h l H hlen hc hd hij hj hm
  refine t4 e61 fun L => ?_
  unfold B61
  apply bL
  refine Tri.lenV 0 pl.length H rfl (by decide) (by rw [plC_len, hlen]) ?_
  apply bS
  refine Tri.lss (fun e => by omega) (fun e => ?_)
  apply nF
  rw [List.take_of_length_le (l:=pl) (by omega)] at hc
  exact fin61 hc (by omega) (Own.off _ _) L H
 | succ m ih =>
  intro i j c h l H hlen hc hd hij hj hm
  refine t4 e61 fun L => ?_
  unfold B61
  apply bL
  refine Tri.lenV 0 pl.length H rfl (by decide) (by rw [plC_len, hlen]) ?_
  apply bS
  refine Tri.lss (fun e => ?_) (fun e => ?_)
  ·have hlt : j < pl.length := by omega
   have hltc : j < c.length:=by omega
   have hcj : c[j] = pl[j]:=by
    have:=congrArg (fun l => l[0]?) hd
    simp only [List.getElem?_drop, Nat.add_zero] at this
    rw [List.getElem?_eq_getElem hltc, List.getElem?_eq_getElem hlt] at this
    exact Option.some.inj this
   have hd1 : c.drop (j + 1) = pl.drop (j + 1):=by
    have:=congrArg (List.drop 1) hd
    rwa [List.drop_drop, List.drop_drop] at this
   have ht:=alive_take (pl:=pl) j hlt
   apply nT
   refine Tri.idxV 0 H rfl (by omega) (by rw [plC_len]; omega) (by decide) fun b nn cc g hv _ => ?_
   rw [hv] at H
   refine Tri.loadsV 0 (by decide) H rfl (by rw [plC_len]; omega) (X:=plC c[j]) (by rw [Nat.zero_add, Int.toNat_natCast]; exact plC_pl _ j hltc) ?_
   rw [← hv] at H
   rw [hcj]
   refine nw1 H L fun b10 h hb10 H L => ?_
   refine wl0 1 H rfl rfl rfl L (by first|rfl|assumption) fun h H L => ?_
   refine Tri.eqv (congrArg (fun x => bindS x _) (dyn_at _ _ _ _ _ _)) ?_
   refine tbe1 (sp180 H) L fun h H L => ?_
   refine Tri.not ?_
   cases hdd : dead pl[j] with
   | true =>
    rw [hdd] at ht
    apply nF
    refine Tri.call (x:=B63 M v (.func 90 [] []) (.int .i64 (i : Nat)) (.int .i64 (j : Nat)) h) (fun p => e63 _ _ _ _ h p) ?_
    unfold B63
    refine Tri.addN (by omega) (by omega) ?_
    exact te (ih (j:=j + 1) H.x1 hlen (by rw [ht, hc]; simp) hd1 (by omega) (by omega) (by omega)) L
   | false =>
    rw [hdd] at ht
    apply nT
    refine ls 1 H rfl rfl ?_
    refine Tri.idxV 0 H rfl (by omega) (by rw [plC_len]; omega) (by decide) fun b nn cc g hv _ => ?_
    rw [hv] at H
    refine Tri.storesV 0 (by decide) H rfl (X:=plC pl[j]) rfl (by rw [plC_len]; omega) L (fun e => nomatch e) rfl fun h H L => ?_
    rw [← hv, show ((i : Nat) : Int).toNat = i from rfl, plC_over c i (by omega)] at H
    refine Tri.addN (by omega) (by omega) ?_
    refine Tri.call (x:=B63 M v (.func 90 [] []) (.int .i64 (i + 1 : Nat)) (.int .i64 (j : Nat)) h) (fun p => e63 _ _ _ _ h p) ?_
    unfold B63
    refine Tri.addN (by omega) (by omega) ?_
    exact te (ih (i:=i + 1) (j:=j + 1) (c:=c.set i pl[j]) H.x1 (by rw [List.length_set]; exact hlen) (by rw [ht, ← hc, take_set1 _ _ (by omega)]; rfl) (by rw [List.drop_set_of_lt (by omega)]; exact hd1) (by omega) (by omega) (by omega)) L
  ·apply nF
   rw [List.take_of_length_le (l:=pl) (by omega)] at hc
   exact fin61 hc (by omega) (Own.off _ _) L H
theorem dAt_spec : ∀ (pl : List Pl) (j : Int), (dAt pl j = -1 ∧ alive pl = pl) ∨ ∃ d : Nat, d < pl.length ∧ dAt pl j = j + d ∧ alive (pl.take (d + 1)) = pl.take d
 | [], _ => .inl ⟨rfl, rfl⟩
 | p :: pl, j => by
  unfold dAt
  cases hp : dead p with
  | true => exact .inr ⟨0, by simp, by simp, by unfold alive; simp [hp]⟩
  | false =>
   simp only [Bool.false_eq_true, if_false]
   rcases dAt_spec pl (j + 1) with ⟨h1, h2⟩ | ⟨d, h1, h2, h3⟩
   ·refine .inl ⟨h1, ?_⟩
    unfold alive at h2 ⊢
    rw [List.filter_cons_of_pos (by simp [hp]), h2]
   ·refine .inr ⟨d + 1, by simpa using h1, by rw [h2]; omega, ?_⟩
    unfold alive at h3 ⊢
    rw [List.take_succ_cons, List.filter_cons_of_pos (by simp [hp]), h3, List.take_succ_cons]
theorem sp182 (hf : pl.length ≤ 100000) (H : St (pls v pl :: l) h) : Tri h false l (rDel pl) (M 182 [v, .func 90 [] []] h):=by
 refine t2 e182 fun L => ?_
 unfold B182
 refine tbe1 (sp204 (by first|rfl|assumption|omega|(dsimp only;omega)) H) L fun h H L => ?_
 rcases dAt_spec pl 0 with ⟨h1, h2⟩ | ⟨d, h1, h2, h3⟩
 ·refine Tri.eql (fun e => ?_) (fun e => by omega)
  apply nT
  exact Tri.done (B:=[pls v (alive pl)]) rfl (by rw [h2]; exact H) L
 ·refine Tri.eql (fun e => by omega) (fun e => ?_)
  apply nF
  refine Tri.addN (by omega) (by omega) ?_
  rw [h2, Int.zero_add]
  exact te (loop61 hf pl.length (i:=d) (j:=d + 1) H rfl h3.symm rfl (by omega) (by omega) (by omega)) L
def IO.wi (x : IO) (lV : V) (pl : List Pl) : IO:={ x with a:={ x.a with pl:=pl }, lV:=lV }
def rSet (x : IO) (pl : List Pl) : V → List Asn → Prop:=fun w B => ∃ lV, w = .int .i64 0 ∧ B = [TK (x.wi lV pl)]
theorem atL_app (pl : List Pl) (p : Pl) : atL (pl ++ [p]) = atL pl ++ [(p.1, .int .i64 (pl.length : Nat))]:=by
 unfold atL; rw [List.zipIdx_append, List.map_append]; simp
theorem kix_none {pl : List Pl} {key : Vl} (h : pix key pl = none) : kix key (atL pl) 0 = none:=by
 have:=kix_at key pl 0 0
 rw [h] at this
 exact this
theorem k45 {key w : Vl} {b0 b1 : Nat} (hf : x.a.pl.length ≤ 100000) (hp : pix key x.a.pl = none) (H : St (TK x :: Mid.row b0 (vlC key) :: Mid.row b1 (vlC w) :: l) h) :
 Tri h false l (rSet x (x.a.pl ++ [(key, w)])) (M 45 [.ptr x.tb 0, .ptr b0 0, .ptr b1 0] h):=by
 refine t3 e45 fun L => ?_
 unfold B45
 replace H:=openT H
 refine nal 0 H rfl rfl ?_
 refine ls 3 H rfl rfl ?_
 refine nal 0 H rfl rfl ?_
 apply bL
 refine Tri.lenV 1 x.a.pl.length H rfl (by decide) (plC_len _) ?_
 apply bS
 refine Tri.kSet 2 H rfl L (fun e => nomatch e) fun h H L => ?_
 unfold kput at H
 rw [kix_none hp] at H
 refine nal 0 H rfl rfl ?_
 refine ls 3 H rfl rfl ?_
 refine ls 4 H rfl rfl ?_
 refine Tri.bldS rfl ?_
 refine Tri.drawBld H L (fun _ => rfl) rfl fun b26 h hb26 H L => ?_
 refine Tri.drawApp 2 x.a.pl.length 1 H rfl (H.newCells (i:=0) rfl rfl) (by decide) (plC_len _) rfl (by omega) (by omega) rfl L (Own.off _ _) fun v' h H L O o1 => ?_
 replace H:=H.tl
 apply nl
 apply ad
 refine sto 0 H rfl rfl L (by first|rfl|assumption) fun h H L => ?_
 have e1 : x.a.pl.flatMap plC ++ plC (key, w) = (x.a.pl ++ [(key, w)]).flatMap plC:=by rw [List.flatMap_append]; rfl
 replace H : St (Mid.row x.tb [v', .map x.atb] :: vc true v' 126 4 (x.a.pl.flatMap plC ++ plC (key, w)) :: dict x.atb (kes (atL x.a.pl ++ [(key, .int .i64 (x.a.pl.length : Nat))])) :: Mid.row b0 (vlC key) :: Mid.row b1 (vlC w) :: l) _:=H
 rw [e1, ← atL_app x.a.pl (key, w)] at H
 exact Tri.done (B:=[TK (x.wi v' (x.a.pl ++ [(key, w)]))]) ⟨v', rfl, rfl⟩ (closeT (x:=x.wi v' (x.a.pl ++ [(key, w)])) H).x1.x1 L
theorem pix_none {k : Vl} : ∀ {pl : List Pl}, k ∉ pl.map (·.1) → pix k pl = none
 | [], _ => rfl
 | p :: pl, h => by
  rw [List.map_cons, List.mem_cons, not_or] at h
  unfold pix
  rw [if_neg h.1, pix_none h.2]; rfl
theorem none_pix {k : Vl} : ∀ {pl : List Pl}, pix k pl = none → k ∉ pl.map (·.1)
 | [], _ => by simp
 | p :: pl, h => by
  unfold pix at h
  split at h
  ·cases h
  ·rename_i e
   rw [List.map_cons, List.mem_cons, not_or]
   refine ⟨e, none_pix ?_⟩
   cases hq : pix k pl with
   | none => rfl
   | some q => rw [hq] at h; cases h
theorem pix_take {pl : List Pl} {j : Nat} (nd : (pl.map (·.1)).Nodup) (hj : j < pl.length) : pix (pl[j]).1 (pl.take j) = none:=by
 refine pix_none fun h => ?_
 have h2:=List.take_append_drop j pl
 rw [List.drop_eq_getElem_cons hj] at h2
 rw [← h2, List.map_append, List.map_cons, List.nodup_append] at nd
 exact nd.2.2 _ h _ List.mem_cons_self rfl
theorem atL_take {pl : List Pl} {j : Nat} (hj : j < pl.length) : atL (pl.take (j + 1)) = atL (pl.take j) ++ [((pl[j]).1, .int .i64 (j : Nat))]:=by
 rw [List.take_succ, List.getElem?_eq_getElem hj]
 show atL (pl.take j ++ [pl[j]]) = _
 rw [atL_app, List.length_take, Nat.min_eq_left (by omega)]
theorem loop47 {key w : Vl} {b0 b1 : Nat} (hf : x.a.pl.length ≤ 100000) (nd : (x.a.pl.map (·.1)).Nodup) (hp : pix key x.a.pl = none) (m : Nat) : ∀ {j : Nat} {h : Hp} {l : List Asn} (H : St (Mid.row x.tb [x.lV, .map x.atb] :: pls x.lV x.a.pl :: dict x.atb (kes (atL (x.a.pl.take j))) :: Mid.row b0 (vlC key) :: Mid.row b1 (vlC w) :: l) h) (hj : j ≤ x.a.pl.length) (hm : x.a.pl.length - j ≤ m),
 Tri h false l (rSet x (x.a.pl ++ [(key, w)])) (M 47 [.ptr x.tb 0, .ptr b0 0, .ptr b1 0, x.lV, .int .i64 (x.a.pl.length : Nat), .int .i64 (j : Nat)] h):=by
 have fin : ∀ {j : Nat} {h : Hp} {l : List Asn} (H : St (Mid.row x.tb [x.lV, .map x.atb] :: pls x.lV x.a.pl :: dict x.atb (kes (atL (x.a.pl.take j))) :: Mid.row b0 (vlC key) :: Mid.row b1 (vlC w) :: l) h) (hj : x.a.pl.length ≤ j),
  Tri h false l (rSet x (x.a.pl ++ [(key, w)])) (M 47 [.ptr x.tb 0, .ptr b0 0, .ptr b1 0, x.lV, .int .i64 (x.a.pl.length : Nat), .int .i64 (j : Nat)] h):=by
  intro j h l H hj
  refine t6 e47 fun L => ?_
  unfold B47
  refine Tri.lss (fun e => by omega) (fun e => ?_)
  apply nF
  rw [List.take_of_length_le hj] at H
  exact te (k45 hf hp (closeT H)) L
 induction m with
 | zero =>
  intro j h l H hj hm
  exact fin H (by omega)
 | succ m ih =>
  intro j h l H hj hm
  by_cases hlt : j < x.a.pl.length
  ·refine t6 e47 fun L => ?_
   unfold B47
   refine Tri.lss (fun e => ?_) (fun e => by omega)
   apply nT
   refine Tri.idxV 1 H rfl (by omega) (by rw [plC_len]; omega) (by decide) fun b nn cc g hv _ => ?_
   rw [hv] at H
   refine Tri.loadsV 1 (by decide) H rfl (by rw [plC_len]; omega) (X:=plC x.a.pl[j]) (by rw [Nat.zero_add, Int.toNat_natCast]; exact plC_pl _ j hlt) ?_
   rw [← hv] at H
   refine nw H L fun b20 h hb20 H L => ?_
   refine w0 0 H rfl rfl rfl L (by first|rfl|assumption) fun h H L => ?_
   refine nal 1 H rfl rfl ?_
   apply ad
   refine ls 0 H rfl rfl ?_
   refine Tri.kSet 3 H rfl L (fun e => nomatch e) fun h H L => ?_
   unfold kput at H
   rw [kix_none (pix_take nd hlt)] at H
   replace H:=H.tl
   replace H : St (Mid.row x.tb [x.lV, .map x.atb] :: pls x.lV x.a.pl :: dict x.atb (kes (atL (x.a.pl.take j) ++ [((x.a.pl[j]).1, .int .i64 (j : Nat))])) :: Mid.row b0 (vlC key) :: Mid.row b1 (vlC w) :: l) _:=H
   rw [← atL_take hlt] at H
   refine Tri.addN (by omega) (by omega) ?_
   exact te (ih (j:=j + 1) H (by omega) (by omega)) L
  ·exact fin H (by omega)
def plain (a : Vl) : Prop:=2 < a.1 ∨ a.2 = 0
theorem sp176 {a : Vl} (hp : plain a) (H : St l h) : Tri h true l (rV (.bool true)) (M 176 [vlV a] h):=by
 unfold plain at hp
 refine t1 e176 fun L => ?_
 unfold B176
 refine nw H L fun b0 h hb0 H L => ?_
 refine al 0 H rfl rfl ?_
 refine Tri.gtr (fun e => ?_) (fun e => ?_)
 ·apply gtf
  apply pT
  exact Tri.done (B:=[]) ⟨rfl, rfl⟩ H.tl L
 ·apply gff
  apply ba
  refine bl 0 H rfl rfl ?_
  apply bI
  refine Tri.eql (fun e => ?_) (fun e => by omega)
  apply bS
  apply pF
  exact Tri.done (B:=[]) ⟨rfl, rfl⟩ H.tl L
def setP (pl : List Pl) (key w : Vl) : List Pl := match pix key pl with
 | some j => pl.set j (key, w)
 | none => if w.1 = 0 then pl else alive pl ++ [(key, w)]
theorem plC_over2 (c : List Pl) (i : Nat) (key w : Vl) (hi : i < c.length) (hk : (c[i]).1 = key) : over (c.flatMap plC) (0 + i * 4 + 2) (vlC w) = (c.set i (key, w)).flatMap plC:=by
 unfold over
 rw [Nat.zero_add]
 induction c generalizing i with
 | nil => simp at hi
 | cons a c ih =>
  cases i with
  | zero =>
   have hk' : a.1 = key:=hk
   subst hk'; rfl
  | succ i =>
   have h2:=ih i (by simpa using hi) (by simpa using hk)
   rw [List.set_cons_succ, List.flatMap_cons, List.flatMap_cons, ← h2]
   have e1 : ((plC a ++ c.flatMap plC).take ((i + 1) * 4 + 2)) = plC a ++ (c.flatMap plC).take (i * 4 + 2):=by
    rw [show (i + 1) * 4 + 2 = (plC a).length + (i * 4 + 2) by simp; omega, List.take_length_add_append]
   have e2 : ((plC a ++ c.flatMap plC).drop ((i + 1) * 4 + 2 + (vlC w).length)) = (c.flatMap plC).drop (i * 4 + 2 + (vlC w).length):=by
    rw [show (i + 1) * 4 + 2 + (vlC w).length = (plC a).length + (i * 4 + 2 + (vlC w).length) by simp; omega, ← List.drop_drop, List.drop_left]
   rw [e1, e2]; simp
theorem atL_set (pl : List Pl) (j : Nat) (key w : Vl) (hj : j < pl.length) (hk : (pl[j]).1 = key) : atL (pl.set j (key, w)) = atL pl:=by
 unfold atL
 apply List.ext_getElem?
 intro n
 rw [List.getElem?_map, List.getElem?_map, List.getElem?_zipIdx, List.getElem?_zipIdx, List.getElem?_set]
 by_cases e : j = n
 ·subst e
  rw [if_pos rfl, if_pos hj, List.getElem?_eq_getElem hj]
  simp [hk]
 ·rw [if_neg e]
theorem alive_sub (pl : List Pl) : (alive pl).Sublist pl:=List.filter_sublist
theorem sp126 {key w : Vl} (hk : 1 ≤ key.1 ∧ key.1 ≤ 8) (hkp : plain key) (hw : w.1 ≤ 8) (hwp : plain w) (hf : x.a.pl.length ≤ 60000) (nd : (x.a.pl.map (·.1)).Nodup) (H : St (TK x :: l) h) :
 Tri h false l (rSet x (setP x.a.pl key w)) (M 126 [.ptr x.tb 0, vlV key, vlV w] h):=by
 refine t3 e126 fun L => ?_
 unfold B126
 refine nw1 H L fun b0 h hb0 H L => ?_
 refine nw1 H L fun b1 h hb1 H L => ?_
 refine tbe1 (sp144 H) L fun h H L => ?_
 refine Tri.not ?_
 apply nF
 refine al 2 H rfl rfl ?_
 refine Tri.lss (fun e => by omega) (fun e => ?_)
 apply gff
 apply ba
 refine bl 2 H rfl rfl ?_
 apply bI
 refine Tri.gtr (fun e => by omega) (fun e => ?_)
 apply bS
 apply pF
 apply gff
 apply ba
 refine bl 1 H rfl rfl ?_
 apply bI
 refine Tri.gtr (fun e => by omega) (fun e => ?_)
 apply bS
 apply pF
 apply gff
 refine bn 2 H rfl rfl ?_
 apply Mid.bB
 refine tbe1 (sp176 (by first|rfl|assumption|omega|(dsimp only;omega)) H) L fun h H L => ?_
 refine Tri.eqv (bind_notS _ _) ?_
 refine Tri.not ?_
 apply bS
 apply pF
 apply gff
 refine bn 1 H rfl rfl ?_
 apply Mid.bB
 refine tbe1 (sp176 (by first|rfl|assumption|omega|(dsimp only;omega)) H) L fun h H L => ?_
 refine Tri.eqv (bind_notS _ _) ?_
 refine Tri.not ?_
 apply bS
 apply pF
 apply nF
 apply nl
 apply ad
 replace H:=openT H.u2.u1
 refine lo 0 H rfl rfl ?_
 refine ls 3 H rfl rfl ?_
 have hkx:=kix_at key x.a.pl 0 0
 refine Tri.kLook 2 H rfl (fun j w' hw' => ?_) (fun hw' => ?_)
 ·unfold atL at hw'
  rw [hkx] at hw'
  cases hp : pix key x.a.pl with
  | none => rw [hp] at hw'; cases hw'
  | some q =>
   rw [hp] at hw'
   obtain ⟨hq, hkey⟩:=pix_lt hp
   simp only [Option.map_some, Nat.zero_add, Option.some.injEq, Prod.mk.injEq] at hw'
   obtain ⟨rfl, rfl⟩:=hw'
   have hg : setP x.a.pl key w = x.a.pl.set q (key, w):=by unfold setP; rw [hp]
   refine Tri.ext rfl ?_
   refine Tri.ext rfl ?_
   apply nT
   refine nal 0 H rfl rfl ?_
   refine ls 4 H rfl rfl ?_
   refine Tri.idxV 1 H rfl (by omega) (by rw [plC_len]; omega) (by decide) fun b nn cc g hv _ => ?_
   rw [hv] at H
   apply ad
   refine Tri.storesV 1 (by decide) H rfl (X:=vlC w) rfl (by rw [plC_len]; omega) L (fun e => nomatch e) rfl fun h H L => ?_
   rw [← hv, show ((q : Nat) : Int).toNat = q from rfl, plC_over2 x.a.pl q key w hq hkey] at H
   replace H : St (Mid.row x.tb [x.lV, .map x.atb] :: vc true x.lV 126 4 ((x.a.pl.set q (key, w)).flatMap plC) :: dict x.atb (kes (atL x.a.pl)) :: Mid.row b0 (vlC key) :: Mid.row b1 (vlC w) :: l) _:=H
   rw [← atL_set x.a.pl q key w hq hkey] at H
   rw [hg]
   exact Tri.done (B:=[TK (x.wi x.lV (x.a.pl.set q (key, w)))]) ⟨x.lV, rfl, rfl⟩ (closeT (x:=x.wi x.lV (x.a.pl.set q (key, w))) H).x1.x1 L
 ·unfold atL at hw'
  rw [hkx] at hw'
  cases hp : pix key x.a.pl with
  | some q => rw [hp] at hw'; cases hw'
  | none =>
   have hg : setP x.a.pl key w = if w.1 = 0 then x.a.pl else alive x.a.pl ++ [(key, w)]:=by unfold setP; rw [hp]
   rw [hg]
   refine Tri.ext rfl ?_
   refine Tri.ext rfl ?_
   apply nF
   refine al 4 H rfl rfl ?_
   refine Tri.eql (fun e => ?_) (fun e => ?_)
   ·apply nT
    rw [if_pos e]
    exact Tri.done (B:=[TK (x.wi x.lV x.a.pl)]) ⟨x.lV, rfl, rfl⟩ (closeT (x:=x.wi x.lV x.a.pl) H).x1.x1 L
   ·rw [if_neg e]
    replace H:=closeT H
    apply nF
    refine tbe1 (sp130 (by first|rfl|assumption|omega|(dsimp only;omega)) H) L fun h H L => ?_
    refine Tri.geq (fun e9 => by have:=live_le x.a.pl; omega) (fun _ => ?_)
    replace H:=(openT H).u1
    apply nF
    refine nal 1 H rfl rfl ?_
    refine tbe1 (sp178 (by first|rfl|assumption|omega|(dsimp only;omega)) H) L fun h H L => ?_
    rcases dAt_spec x.a.pl 0 with ⟨h1, h2⟩ | ⟨d, h1, h2, h3⟩
    ·rw [decide_eq_false (by omega)]
     apply nF
     rw [h2]
     exact te (k45 (by omega) hp (closeT H.u1)) L
    ·rw [decide_eq_true (by omega)]
     apply nT
     refine nal 1 H rfl rfl ?_
     refine Mid.tb (sp182 (by first|rfl|assumption|omega|(dsimp only;omega)) H) L fun v h B hq134 H L => ?_
     apply nl
     apply ad
     obtain rfl:=hq134
     have o1 : oneCell v = true:=H.vc_one (i:=0) rfl
     refine sto 1 H rfl rfl L (by first|rfl|assumption) fun h H L => ?_
     refine nal 1 H rfl rfl ?_
     refine Tri.kClear 2 H rfl L (fun e => nomatch e) fun h H L => ?_
     refine nal 1 H rfl rfl ?_
     apply bL
     refine Tri.lenV 0 (alive x.a.pl).length H rfl (by decide) (plC_len _) ?_
     apply bS
     have hal : (alive x.a.pl).length ≤ x.a.pl.length:=(alive_sub _).length_le
     have nd2 : ((alive x.a.pl).map (·.1)).Nodup:=nd.sublist ((alive_sub _).map _)
     have hp2 : pix key (alive x.a.pl) = none:=pix_none fun hm => none_pix hp (((alive_sub _).map _).subset hm)
     exact te (loop47 (x:=x.wi v (alive x.a.pl)) (j:=0) (by show (alive x.a.pl).length ≤ _; omega) nd2 hp2 (alive x.a.pl).length H.u1 (Nat.zero_le _) (by show (alive x.a.pl).length - 0 ≤ _; omega)) L
end
end Go.MS
end
