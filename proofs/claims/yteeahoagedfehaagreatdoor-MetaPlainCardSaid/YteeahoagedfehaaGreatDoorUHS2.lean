/- A part of the proof. -/
import Derived.Test.YteeahoagedfehaaGreatDoorUHS0
set_option linter.all false
set_option warn.classDefReducibility false
noncomputable section
section
open Go Go.Mid Go.Proofs
set_option maxRecDepth 100000
namespace Go.MS
section
variable {l F : List Asn} {h h0 : Hp} {ro : Bool} {Q : V → List Asn → Prop} {k : V → VH} {K : V → Hp → VH} {v : V} {X X' : HI} {x y : IO} {i : Nat}
def HR (X : HI) (i : Nat) (x : IO) : Asn:=ands [Mid.row X.hb X.row, Mid.row X.pb X.prow, vc true X.szV 3 1 ((szs X.as).map (V.int .i64)), dict X.allb (ies (allL X.os)), dict X.txb (txL X.as), dict X.ntb [], ands ((X.os.map IO.A).eraseIdx i), Mid.row x.ob x.row]
theorem set_self {α : Type} {l : List α} {i : Nat} {a : α} (h : l[i]? = some a) : l.set i a = l:=by
 apply List.ext_getElem?; intro j; rw [List.getElem?_set]; by_cases e : i = j
 ·subst e; rw [if_pos rfl, if_pos (List.getElem?_eq_some_iff.1 h).1, h]
 ·rw [if_neg e]
theorem openO (H : St (HK X :: l) h) (hi : X.os[i]? = some x) (hk : x.a.kd = 5) : St (TK x :: HR X i x :: l) h:=by
 have H1:=(openH H).u6
 have H2:=H1.pull (i:=i) (A:=x.A) (by rw [List.getElem?_map, hi]; rfl)
 have e : x.A = ands [Mid.row x.ob x.row, TK x]:=by unfold IO.A; rw [if_pos hk]
 rw [e] at H2
 have H3 : St (Mid.row x.ob x.row :: TK x :: ands ((X.os.map IO.A).eraseIdx i) :: _) h:=H2.app
 have H4:=(H3.u1.out 0)
 have H5 : St (TK x :: Mid.row x.ob x.row :: ands ((X.os.map IO.A).eraseIdx i) :: Mid.row X.hb X.row :: Mid.row X.pb X.prow :: vc true X.szV 3 1 ((szs X.as).map (V.int .i64)) :: dict X.allb (ies (allL X.os)) :: dict X.txb (txL X.as) :: dict X.ntb [] :: l) h:=H3.u1
 have H6 : St ([Mid.row X.hb X.row, Mid.row X.pb X.prow, vc true X.szV 3 1 ((szs X.as).map (V.int .i64)), dict X.allb (ies (allL X.os)), dict X.txb (txL X.as), dict X.ntb [], ands ((X.os.map IO.A).eraseIdx i), Mid.row x.ob x.row] ++ (TK x :: l)) h:=((H5.ins 8).ins 7).ins 6
 exact H6.pack.u1
theorem closeO {j : Nat} (hj : X.os[j]? = some x) (hk : y.a.kd = 5) (hX : X' = { X with szV := X'.szV, os := X.os.set j y })
 (H : St (Mid.row X'.hb X'.row :: Mid.row X'.pb X'.prow :: vc true X'.szV 3 1 ((szs X'.as).map (V.int .i64)) :: dict X'.allb (ies (allL X'.os)) :: dict X'.txb (txL X'.as) :: dict X'.ntb [] :: ands ((X.os.map IO.A).eraseIdx j) :: Mid.row y.ob y.row :: TK y :: l) h) : St (HK X' :: l) h:=by
 have H1 : St (ands ((X.os.map IO.A).eraseIdx j) :: Mid.row X'.hb X'.row :: Mid.row X'.pb X'.prow :: vc true X'.szV 3 1 ((szs X'.as).map (V.int .i64)) :: dict X'.allb (ies (allL X'.os)) :: dict X'.txb (txL X'.as) :: dict X'.ntb [] :: Mid.row y.ob y.row :: TK y :: l) h:=H.u6
 have H2 : St ([Mid.row y.ob y.row, TK y] ++ (ands ((X.os.map IO.A).eraseIdx j) :: Mid.row X'.hb X'.row :: Mid.row X'.pb X'.prow :: vc true X'.szV 3 1 ((szs X'.as).map (V.int .i64)) :: dict X'.allb (ies (allL X'.os)) :: dict X'.txb (txL X'.as) :: dict X'.ntb [] :: l)) h:=(H1.u8.u8)
 have H3:=H2.pack
 have e : y.A = ands [Mid.row y.ob y.row, TK y]:=by unfold IO.A; rw [if_pos hk]
 rw [← e] at H3
 have H4:=H3.push (A:=x.A) (by rw [List.getElem?_map, hj]; rfl)
 rw [← List.map_set] at H4
 have e2 : X.os.set j y = X'.os:=by rw [hX]
 rw [e2] at H4
 exact closeH (H4.ins 6)
theorem closeO0 (hi : X.os[i]? = some x) (hk : x.a.kd = 5) (H : St (TK x :: HR X i x :: l) h) : St (HK X :: l) h:=by
 have H1 : St (Mid.row X.hb X.row :: Mid.row X.pb X.prow :: vc true X.szV 3 1 ((szs X.as).map (V.int .i64)) :: dict X.allb (ies (allL X.os)) :: dict X.txb (txL X.as) :: dict X.ntb [] :: ands ((X.os.map IO.A).eraseIdx i) :: Mid.row x.ob x.row :: TK x :: l) h:=(H.u1).app
 exact closeO (X':=X) hi hk (by rw [set_self hi]) H1
def pix (k : Vl) : List Pl → Option Nat
 | [] => none
 | p :: l => if k = p.1 then some 0 else (pix k l).map (· + 1)
theorem kix_at (k : Vl) : ∀ (pl : List Pl) (m i : Nat), kix k ((pl.zipIdx m).map fun x => (x.1.1, V.int .i64 (x.2 : Nat))) i = (pix k pl).map fun j => (i + j, V.int .i64 ((m + j : Nat) : Int))
 | [], _, _ => rfl
 | p :: pl, m, i => by
  rw [List.zipIdx_cons, List.map_cons]
  unfold kix pix
  by_cases e : k = p.1
  ·rw [if_pos e, if_pos e]; rfl
  ·rw [if_neg e, if_neg e, kix_at k pl (m + 1) (i + 1)]
   cases pix k pl with
   | none => rfl
   | some j => simp only [Option.map_some]; rw [show i + 1 + j = i + (j + 1) by omega, show m + 1 + j = m + (j + 1) by omega]
theorem pix_lt {k : Vl} : ∀ {pl : List Pl} {j : Nat}, pix k pl = some j → ∃ h : j < pl.length, (pl[j]).1 = k
 | [], _, h => by cases h
 | p :: pl, j, h => by
  unfold pix at h
  by_cases e : k = p.1
  ·rw [if_pos e] at h; cases h; exact ⟨Nat.succ_pos _, e.symm⟩
  ·rw [if_neg e] at h
   cases hq : pix k pl with
   | none => rw [hq] at h; cases h
   | some q =>
    rw [hq] at h; cases h
    obtain ⟨h1, h2⟩:=pix_lt hq
    exact ⟨Nat.succ_lt_succ h1, h2⟩
theorem getP_pix (k : Vl) : ∀ pl : List Pl, getP pl k = (match pix k pl with | some j => ((pl[j]?).map (·.2)).getD (0, 0) | none => (0, 0))
 | [] => rfl
 | p :: pl => by
  unfold getP pix
  by_cases e : k = p.1
  ·rw [if_pos e, if_pos e.symm]; rfl
  ·rw [if_neg e, if_neg fun h => e h.symm, getP_pix k pl]
   cases pix k pl <;> rfl
theorem plC_len (pl : List Pl) : (pl.flatMap plC).length = pl.length * 4:=by
 induction pl with
 | nil => rfl
 | cons a l ih => rw [List.flatMap_cons, List.length_append, ih, List.length_cons]; simp; omega
theorem plC_val (pl : List Pl) (j : Nat) (hj : j < pl.length) : ((pl.flatMap plC).drop (j * 4 + 2)).take 2 = vlC (pl[j]).2:=by
 induction pl generalizing j with
 | nil => simp at hj
 | cons a l ih =>
  cases j with
  | zero => rfl
  | succ j =>
   rw [List.flatMap_cons, show (j + 1) * 4 + 2 = (plC a).length + (j * 4 + 2) by simp; omega, ← List.drop_drop, List.drop_left]
   exact ih j (by simpa using hj)
theorem openT (H : St (TK x :: l) h) : St (Mid.row x.tb [x.lV, .map x.atb] :: vc true x.lV 126 4 (x.a.pl.flatMap plC) :: dict x.atb (kes (atL x.a.pl)) :: l) h:=H.app
theorem closeT (H : St (Mid.row x.tb [x.lV, .map x.atb] :: vc true x.lV 126 4 (x.a.pl.flatMap plC) :: dict x.atb (kes (atL x.a.pl)) :: l) h) : St (TK x :: l) h:=St.pack (l:=x.T) H
def rTK (x : IO) (v : V) : V → List Asn → Prop:=fun w B => w = v ∧ B = [TK x]
theorem dTK {v : V} (H : St (TK x :: l) h) (L : Lo ro h0 h) : Tri h0 ro l (rTK x v) (some (v, h)):=Tri.done (B:=[TK x]) ⟨rfl, rfl⟩ H L
theorem sp144 (H : St (TK x :: l) h) : Tri h true l (rTK x (.bool true)) (M 144 [.ptr x.tb 0] h):=by
 refine t1 e144 fun L => ?_
 unfold B144
 replace H:=openT H
 refine Tri.neP ?_
 apply gtt
 refine Tri.eqv (bind_nilS _ _) ?_
 apply nl
 apply ba
 refine bl 0 H rfl rfl ?_
 refine Tri.eqv (bind_eqS _ _) ?_
 refine Tri.neM ?_
 apply bS
 apply pT
 exact dTK (closeT H) L
theorem k19 {b : Nat} {z1 z2 : V} (H : St (TK x :: Mid.row b [z1, z2] :: l) h) (hr : ro = true → h0.n ≤ b) (L : Lo ro h0 h) : Tri h0 ro l (rTK x (vlV (0, 0))) (M 19 [.ptr b 0] h):=by
 refine Tri.call (x:=B19 M (.ptr b 0) h) (fun p => e19 _ h p) ?_
 unfold B19
 refine Tri.bldS rfl ?_
 refine Tri.stores 1 (by decide) H rfl rfl (Nat.le_of_ble_eq_true rfl) L hr rfl fun h H L => ?_
 refine ls 1 H rfl rfl ?_
 exact dTK H.x1 L
theorem sp62 {key : Vl} (hf : x.a.pl.length ≤ 100000) (H : St (TK x :: l) h) : Tri h true l (rTK x (vlV (getP x.a.pl key))) (M 62 [.ptr x.tb 0, vlV key] h):=by
 refine t2 e62 fun L => ?_
 unfold B62
 refine nw1 H L fun b0 h hb0 H L => ?_
 refine nw1 H L fun b1 h hb1 H L => ?_
 refine tbe1 (sp144 H) L fun h H L => ?_
 apply nT
 apply nl
 apply ad
 replace H:=openT H
 refine lo 0 H rfl rfl ?_
 refine ls 4 H rfl rfl ?_
 have hkx:=kix_at key x.a.pl 0 0
 refine Tri.kLook 2 H rfl (fun j w hw => ?_) (fun hw => ?_)
 ·unfold atL at hw
  rw [hkx] at hw
  cases hp : pix key x.a.pl with
  | none => rw [hp] at hw; cases hw
  | some q =>
   rw [hp] at hw
   obtain ⟨hq, hkey⟩:=pix_lt hp
   simp only [Option.map_some, Nat.zero_add, Option.some.injEq, Prod.mk.injEq] at hw
   obtain ⟨rfl, rfl⟩:=hw
   have hg : getP x.a.pl key = (x.a.pl[q]).2:=by rw [getP_pix, hp]; simp only; rw [List.getElem?_eq_getElem hq]; rfl
   refine Tri.ext rfl ?_
   refine Tri.ext rfl ?_
   apply nT
   refine nal 0 H rfl rfl ?_
   refine Tri.idxV 1 H rfl (by omega) (by rw [plC_len]; omega) (by decide) fun b nn cc g hv _ => ?_
   rw [hv] at H
   apply ad
   refine Tri.loadsV 1 (by decide) H rfl (by rw [plC_len]; omega) (X:=vlC (x.a.pl[q]).2) (by rw [Nat.zero_add, Int.toNat_natCast]; exact plC_val _ q hq) ?_
   rw [← hv] at H
   refine wl1 3 H rfl rfl rfl L ‹_› (by first|rfl|assumption) fun h H L => ?_
   rw [hg]
   exact dTK (closeT H).x1.x1 L
 ·unfold atL at hw
  rw [hkx] at hw
  cases hp : pix key x.a.pl with
  | some q => rw [hp] at hw; cases hw
  | none =>
   have hg : getP x.a.pl key = (0, 0):=by rw [getP_pix, hp]
   rw [hg]
   refine Tri.ext rfl ?_
   refine Tri.ext rfl ?_
   apply nF
   exact k19 (closeT H).x2 (fun _ => by assumption) L
def ofI (os : List IO) (a : Vl) (n : Int) : Option IO:=if a.1 = n then findI os a else none
theorem ofI_at {os : List IO} {a : Vl} {n : Int} (h : ofI os a n = some x) : os[a.2.toNat - 1]? = some x ∧ x.a.kd = n ∧ a.1 = n:=by
 unfold ofI at h
 split at h
 ·rename_i e; have := findI_at h; exact ⟨this.1, by rw [this.2.1, e], e⟩
 ·cases h
theorem sp60 {a : Vl} {n : Int} (H : St (HK X :: l) h) : Tri h true l (rHK X (obV (ofI X.os a n))) (M 60 [.ptr X.hb 0, vlV a, .int .u8 n] h):=by
 refine t3 e60 fun L => ?_
 unfold B60
 refine nw1 H L fun b0 h hb0 H L => ?_
 refine al 1 H rfl rfl ?_
 refine Tri.neq (fun e => ?_) (fun e => ?_)
 ·apply nT
  unfold ofI; rw [if_neg e]
  exact dHK H.x1 L
 ·apply nF
  refine ls 1 H rfl rfl ?_
  refine tbe1 (sp142 H) L fun h H L => ?_
  unfold ofI; rw [if_pos e]
  exact dHK H.x1 L
def metaI (os : List IO) (a : Vl) : Vl := match ofI os a 5 with
 | some x => x.a.me
 | none => (0, 0)
theorem sp16 {a : Vl} (H : St (HK X :: l) h) : Tri h true l (rHK X (vlV (metaI X.os a))) (M 16 [.ptr X.hb 0, vlV a] h):=by
 refine t2 e16 fun L => ?_
 unfold B16
 refine nw1 H L fun b0 h hb0 H L => ?_
 refine nw1 H L fun b1 h hb1 H L => ?_
 refine ls 2 H rfl rfl ?_
 refine tbe1 (sp60 H) L fun h H L => ?_
 cases hx : ofI X.os a 5 with
 | none =>
  have hm : metaI X.os a = (0, 0):=by unfold metaI; rw [hx]
  rw [hm]
  refine Tri.neZ ?_
  apply nF
  refine Tri.bldS rfl ?_
  refine wl1 1 H rfl rfl rfl L ‹_› (by first|rfl|assumption) fun h H L => ?_
  exact dHK H.x1.x1 L
 | some x =>
  have hm : metaI X.os a = x.a.me:=by unfold metaI; rw [hx]
  obtain ⟨h1, h2, h3⟩:=ofI_at hx
  rw [hm]
  refine Tri.neP ?_
  apply nT
  apply nl
  apply ad
  refine Tri.loadsC (X:=vlC x.a.me) (by decide) rfl (fun o ho => ?_) ?_
  ·rcases (show o = 0 ∨ o = 1 by omega) with rfl | rfl
   ·exact obj_cell H (i := 0) rfl h1 rfl
   ·exact obj_cell H (i := 0) rfl h1 rfl
  refine wl1 1 H rfl rfl rfl L ‹_› (by first|rfl|assumption) fun h H L => ?_
  exact dHK H.x1.x1 L
def getI (os : List IO) (a key : Vl) : Vl := match ofI os a 5 with
 | some x => getP x.a.pl key
 | none => (0, 0)
theorem sp18 {a key : Vl} (hI : ∀ x ∈ X.os, x.a.pl.length ≤ 100000) (H : St (HK X :: l) h) : Tri h true l (rHK X (vlV (getI X.os a key))) (M 18 [.ptr X.hb 0, vlV a, vlV key] h):=by
 refine t3 e18 fun L => ?_
 unfold B18
 refine nw1 H L fun b0 h hb0 H L => ?_
 refine nw1 H L fun b1 h hb1 H L => ?_
 refine nw1 H L fun b2 h hb2 H L => ?_
 refine ls 3 H rfl rfl ?_
 refine tbe1 (sp60 H) L fun h H L => ?_
 cases hx : ofI X.os a 5 with
 | none =>
  have hm : getI X.os a key = (0, 0):=by unfold getI; rw [hx]
  rw [hm]
  refine Tri.neZ ?_
  apply nF
  refine Tri.bldS rfl ?_
  refine wl1 1 H rfl rfl rfl L ‹_› (by first|rfl|assumption) fun h H L => ?_
  exact dHK H.x1.x1.x1 L
 | some x =>
  have hm : getI X.os a key = getP x.a.pl key:=by unfold getI; rw [hx]
  obtain ⟨h1, h2, h3⟩:=ofI_at hx
  rw [hm]
  refine Tri.neP ?_
  apply nT
  apply nl
  apply ad
  refine Tri.loadC (w:=.ptr x.tb 0) ?_ ?_
  ·rw [obj_cell H (i := 0) (o := 3) rfl h1 rfl, if_pos h2]
  refine ls 2 H rfl rfl ?_
  replace H:=openO H h1 h2
  refine tbe (sp62 (hI x (List.mem_of_getElem? h1)) H) L fun h H L => ?_
  replace H:=closeO0 h1 h2 H
  refine wl1 1 H rfl rfl rfl L ‹_› (by first|rfl|assumption) fun h H L => ?_
  exact dHK H.x1.x1.x1 L
theorem sp150 {a : Vl} (H : St (HK X :: l) h) : Tri h true l (rHK X (.bool (findI X.os a).isSome)) (M 150 [.ptr X.hb 0, vlV a] h):=by
 refine t2 e150 fun L => ?_
 unfold B150
 refine nw1 H L fun b0 h hb0 H L => ?_
 refine ls 1 H rfl rfl ?_
 refine tbe1 (sp142 H) L fun h H L => ?_
 cases hx : findI X.os a with
 | none =>
  refine Tri.neZ ?_
  exact dHK H.x1 L
 | some x =>
  refine Tri.neP ?_
  exact dHK H.x1 L
def keepI (os : List IO) (a : Vl) : Bool:=if 8 < a.1 ∨ (a.1 ≤ 2 ∧ a.2 ≠ 0) then false else if isOb a.1 then (findI os a).isSome else true
theorem k122 {a : Vl} (hk : ¬ (8 < a.1 ∨ (a.1 ≤ 2 ∧ a.2 ≠ 0))) {b0 : Nat} (H : St (HK X :: Mid.row b0 (vlC a) :: l) h) (L : Lo ro h0 h) : Tri h0 ro l (rHK X (.bool (keepI X.os a))) (bindS (M 172 [vlV a] h) fun v20 h21 => ifS v20 (loadN 2 (.ptr b0 0) h21 fun v22 => bindS (M 142 [.ptr X.hb 0, v22] h21) fun v23 h24 => eqS (.pointer 76) .neq v23 .nilPtr fun v25 => some (v25, h24)) (some (.bool true, h21))):=by
 unfold keepI
 rw [if_neg hk]
 by_cases ho : isOb a.1
 ·refine Tri.bind (k172t ho H) L (fun e => rfl) fun v h B hq H L => ?_
  obtain ⟨rfl, rfl⟩:=hq
  rw [if_pos ho]
  apply nT
  refine ls 1 H rfl rfl ?_
  refine tbe1 (sp142 H) L fun h H L => ?_
  cases hx : findI X.os a with
  | none => exact Tri.neZ (dHK H.x1 L)
  | some x => exact Tri.neP (dHK H.x1 L)
 ·refine Tri.bind (k172f ho H) L (fun e => rfl) fun v h B hq H L => ?_
  obtain ⟨rfl, rfl⟩:=hq
  rw [if_neg ho]
  apply nF
  exact dHK H.x1 L
theorem sp122 {a : Vl} (H : St (HK X :: l) h) : Tri h true l (rHK X (.bool (keepI X.os a))) (M 122 [.ptr X.hb 0, vlV a] h):=by
 refine t2 e122 fun L => ?_
 unfold B122
 refine nw1 H L fun b0 h hb0 H L => ?_
 refine al 1 H rfl rfl ?_
 refine Tri.gtr (fun e1 => ?_) (fun e1 => ?_)
 ·apply gtf
  refine Tri.eqv (guard_u _ _ _ _) ?_
  apply gtf
  apply pT
  apply nT
  unfold keepI; rw [if_pos (by omega)]
  exact dHK H.x1 L
 ·apply gff
  apply ba
  refine bl 1 H rfl rfl ?_
  apply bI
  refine Tri.leq (fun e2 => ?_) (fun e2 => ?_)
  ·apply bS
   apply gtt
   apply ba
   refine bl 1 H rfl rfl ?_
   apply bI
   refine Tri.neq (fun e3 => ?_) (fun e3 => ?_)
   ·apply bS
    apply gff
    apply bO
    apply pT
    apply bS
    apply pF
    apply nT
    unfold keepI; rw [if_pos (by omega)]
    exact dHK H.x1 L
   ·apply bS
    apply gff
    apply bO
    apply pT
    apply bS
    apply pF
    apply nF
    refine ls 1 H rfl rfl ?_
    exact k122 (by omega) H L
  ·apply bS
   apply gft
   apply gff
   apply bO
   apply pF
   apply bS
   apply pF
   apply nF
   refine ls 1 H rfl rfl ?_
   exact k122 (by omega) H L
abbrev plV (p : Pl) : V:=.agg (plC p)
def rV (v : V) : V → List Asn → Prop:=fun w B => w = v ∧ B = []
def dead (p : Pl) : Bool:=p.2.1 == 0
theorem sp180 {p : Pl} (H : St l h) : Tri h true l (rV (.bool (dead p))) (M 180 [plV p] h):=by
 refine t1 e180 fun L => ?_
 unfold B180
 refine nw H L fun b0 h hb0 H L => ?_
 apply ad
 refine al 0 H rfl rfl ?_
 refine Tri.eql (fun e => ?_) (fun e => ?_)
 ·unfold dead; rw [beq_iff_eq.2 e]
  exact Tri.done (B:=[]) ⟨rfl, rfl⟩ H.tl L
 ·unfold dead; rw [beq_eq_false_iff_ne.2 e]
  exact Tri.done (B:=[]) ⟨rfl, rfl⟩ H.tl L
theorem plC_pl (pl : List Pl) (j : Nat) (hj : j < pl.length) : ((pl.flatMap plC).drop (j * 4)).take 4 = plC pl[j]:=by
 induction pl generalizing j with
 | nil => simp at hj
 | cons a l ih =>
  cases j with
  | zero => rfl
  | succ j =>
   rw [List.flatMap_cons, show (j + 1) * 4 = (plC a).length + (j * 4) by simp; omega, ← List.drop_drop, List.drop_left]
   exact ih j (by simpa using hj)
theorem live_take (pl : List Pl) (j : Nat) (hj : j < pl.length) : live (pl.take (j + 1)) = live (pl.take j) + (if dead pl[j] then 0 else 1):=by
 unfold live
 rw [List.take_succ, List.getElem?_eq_getElem hj, List.filter_append, List.length_append]
 congr 1
 show (List.filter _ [pl[j]]).length = _
 unfold dead
 by_cases e : (pl[j]).2.1 = 0
 ·simp [e]
 ·simp [e]
theorem live_le (pl : List Pl) : live pl ≤ pl.length:=List.length_filter_le ..
theorem loop41 (hf : x.a.pl.length ≤ 100000) (m : Nat) : ∀ {j : Nat} {h : Hp} {l : List Asn} (H : St (TK x :: l) h) (hj : j ≤ x.a.pl.length) (hm : x.a.pl.length - j ≤ m),
 Tri h true l (rTK x (.int .i64 (live x.a.pl : Nat))) (M 41 [.int .i64 (live (x.a.pl.take j) : Nat), x.lV, .int .i64 (x.a.pl.length : Nat), .int .i64 (j : Nat)] h):=by
 induction m with
 | zero =>
  intro j h l H hj hm
  refine t4 e41 fun L => ?_
  unfold B41
  refine Tri.lss (fun e => by omega) (fun e => ?_)
  apply nF
  rw [List.take_of_length_le (by omega)]
  exact dTK H L
 | succ m ih =>
  intro j h l H hj hm
  refine t4 e41 fun L => ?_
  unfold B41
  refine Tri.lss (fun e => ?_) (fun e => ?_)
  ·have hlt : j < x.a.pl.length := by omega
   apply nT
   replace H:=openT H
   refine Tri.idxV 1 H rfl (by omega) (by rw [plC_len]; omega) (by decide) fun b nn cc g hv _ => ?_
   rw [hv] at H
   refine Tri.loadsV 1 (by decide) H rfl (by rw [plC_len]; omega) (X:=plC x.a.pl[j]) (by rw [Nat.zero_add, Int.toNat_natCast]; exact plC_pl _ j hlt) ?_
   rw [← hv] at H
   refine nw H L fun b20 h hb20 H L => ?_
   refine wl1 0 H rfl rfl rfl L ‹_› (by first|rfl|assumption) fun h H L => ?_
   refine tbe1 (sp180 H) L fun h H L => ?_
   refine Tri.not ?_
   have e2:=live_take x.a.pl j hlt
   have e5:=live_le (x.a.pl.take j)
   rw [List.length_take] at e5
   cases hd : dead x.a.pl[j] with
   | true =>
    rw [hd] at e2
    apply nF
    refine Tri.call (x:=B43 M (.int .i64 (live (x.a.pl.take j) : Nat)) x.lV (.int .i64 (x.a.pl.length : Nat)) (.int .i64 (j : Nat)) h) (fun p => e43 _ _ _ _ h p) ?_
    unfold B43
    refine Tri.addN (by omega) (by omega) ?_
    rw [show live (x.a.pl.take j) = live (x.a.pl.take (j + 1)) from e2.symm]
    refine te (ih (j:=j + 1) (closeT H.tl) (by omega) (by omega)) L
   | false =>
    rw [hd] at e2
    apply nT
    refine Tri.addN (by omega) (by omega) ?_
    refine Tri.call (x:=B43 M (.int .i64 ((live (x.a.pl.take j) : Nat) + 1)) x.lV (.int .i64 (x.a.pl.length : Nat)) (.int .i64 (j : Nat)) h) (fun p => e43 _ _ _ _ h p) ?_
    unfold B43
    refine Tri.addN (by omega) (by omega) ?_
    rw [show ((live (x.a.pl.take j) : Nat) : Int) + 1 = (live (x.a.pl.take (j + 1)) : Nat) by rw [e2]; rfl]
    refine te (ih (j:=j + 1) (closeT H.tl) (by omega) (by omega)) L
  ·apply nF
   rw [List.take_of_length_le (by omega)]
   exact dTK H L
theorem sp130 (hf : x.a.pl.length ≤ 100000) (H : St (TK x :: l) h) : Tri h true l (rTK x (.int .i64 (live x.a.pl : Nat))) (M 130 [.ptr x.tb 0] h):=by
 refine t1 e130 fun L => ?_
 unfold B130
 refine tbe1 (sp144 H) L fun h H L => ?_
 refine Tri.not ?_
 apply nF
 apply nl
 apply ad
 replace H:=openT H
 refine lo 0 H rfl rfl ?_
 apply bL
 refine Tri.lenV 1 x.a.pl.length H rfl (by decide) (plC_len _) ?_
 apply bS
 exact te (loop41 hf x.a.pl.length (j:=0) (closeT H) (by omega) (by omega)) L
end
end Go.MS
end
