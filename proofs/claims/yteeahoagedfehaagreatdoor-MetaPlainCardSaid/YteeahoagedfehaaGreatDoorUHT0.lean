/- A part of the proof. -/
import Derived.Test.YteeahoagedfehaaGreatDoorUHS21
set_option linter.all false
set_option warn.classDefReducibility false
noncomputable section
section
open Go Go.Mid Go.Proofs
set_option maxRecDepth 100000
namespace Go.MS
section
structure DO where
 a : AO
 n : Int
 ob : Nat
 tb : Nat
 lV : V
 cV : Option (Nat × Nat × Nat × Bool)
def cellV : Option (Nat × Nat × Nat × Bool) → V
 | none => .nilSlice
 | some (b, o, c, g) => .slice b o 0 c g
def DO.row (x : DO) : List V:=[.int .u8 x.a.kd, .int .i64 x.n, .int .i64 x.a.ser, .str x.a.tx, (if x.a.kd = 5 then .ptr x.tb 0 else .nilPtr), .int .u8 x.a.me.1, .int .i64 x.a.me.2, .int .i64 x.a.pr, cellV x.cV, .int .u8 x.a.has.1, .int .i64 x.a.has.2, .nilPtr, .bool false]
def DO.T (x : DO) : List Asn:=[Mid.row x.tb [x.lV], vc true x.lV 152 4 (x.a.pl.flatMap plC)]
def DT (x : DO) : Asn:=ands x.T
def DO.A (x : DO) : Asn:=ands (Mid.row x.ob x.row :: (if x.a.kd = 5 then [DT x] else []))
structure DI where
 hb : Nat
 max : Int
 made : Int
 lV : V
 os : List DO
def DI.row (X : DI) : List V:=[.int .i64 X.max, X.lV, .int .i64 X.made, .bool false]
def pts (os : List DO) : List V:=os.map fun x => .ptr x.ob 0
def DI.A (X : DI) : List Asn:=[Mid.row X.hb X.row, vc true X.lV 106 1 (pts X.os), ands (X.os.map DO.A)]
def DK (X : DI) : Asn:=ands X.A
variable {l F : List Asn} {h h0 : Hp} {ro : Bool} {Q : V → List Asn → Prop} {k : V → VH} {K : V → Hp → VH} {v lV : V} {X X' : DI} {x y : DO} {i j : Nat} {pl : List Pl} {os : List DO}
theorem openD (H : St (DK X :: l) h) : St (Mid.row X.hb X.row :: vc true X.lV 106 1 (pts X.os) :: ands (X.os.map DO.A) :: l) h:=H.app
theorem closeD (H : St (Mid.row X.hb X.row :: vc true X.lV 106 1 (pts X.os) :: ands (X.os.map DO.A) :: l) h) : St (DK X :: l) h:=St.pack (l:=X.A) H
def rDK (X : DI) (v : V) : V → List Asn → Prop:=fun w B => w = v ∧ B = [DK X]
theorem dDK {v : V} (H : St (DK X :: l) h) (L : Lo ro h0 h) : Tri h0 ro l (rDK X v) (some (v, h)):=Tri.done (B:=[DK X]) ⟨rfl, rfl⟩ H L
theorem dobj_cell {j o : Nat} {w : V} (H : St l h) (hi : l[i]? = some (DK X)) (hj : X.os[j]? = some x) (hw : x.row[o]? = some w) : h.cell x.ob o = some w:=by
 obtain ⟨g1, a1, a2⟩:=H.sat.get hi
 obtain ⟨g2, b1, b2⟩:=Sat.get (l:=X.A) (i:=2) a2 rfl
 obtain ⟨g3, c1, c2⟩:=Sat.get (l:=X.os.map DO.A) (i:=j) (A:=x.A) b2 (by rw [List.getElem?_map, hj]; rfl)
 obtain ⟨g4, d1, t, g, e, d2, d3⟩:=Sat.get (l:=Mid.row x.ob x.row :: (if x.a.kd = 5 then [DT x] else [])) (i:=0) c2 rfl
 have:=(((d1.trans c1).trans b1).trans a1) _ _ d2
 unfold hf at this
 obtain ⟨ho, _⟩:=List.getElem?_eq_some_iff.1 hw
 unfold Hp.cell; rw [this]; show t.get o = _; rw [d3 o ho, hw]
theorem dobj_cells {j o s : Nat} (H : St l h) (hi : l[i]? = some (DK X)) (hj : X.os[j]? = some x) (ho : o + s ≤ 13) : ∀ z, z < s → h.cell x.ob (o + z) = ((x.row.drop o).take s)[z]?:=by
 intro z hz
 have hr : x.row.length = 13:=rfl
 rw [List.getElem?_take_of_lt hz, List.getElem?_drop]
 cases hw : x.row[o + z]? with
 | none => rw [List.getElem?_eq_none_iff] at hw; omega
 | some w => exact dobj_cell H hi hj hw
theorem Tri.idxLd (i : Nat) {gr : Bool} {v w : V} {e : TypeId} {cs : List V} {d : IntKind} {j : Int} {h : Hp} {l : List Asn} {k : V → VH} (H : St l h) (hi : l[i]? = some (vc gr v e 1 cs)) (h1 : 0 ≤ j) (h2 : cs[j.toNat]? = some w) (hk : Tri h0 ro F Q (k w)) : Tri h0 ro F Q (idxS 1 v (.int d j) fun a => load1 a h k):=by
 obtain ⟨hlt, _⟩:=List.getElem?_eq_some_iff.1 h2
 refine Tri.idxV i H hi h1 (by omega) (by decide) fun b n c g hv _ => ?_
 rw [hv] at hi
 exact Tri.loadV i H hi (by rw [Nat.mul_one, Nat.zero_add]; exact h2) hk
theorem Tri.idxLds (i : Nat) {gr : Bool} {v : V} {e : TypeId} {s m off : Nat} {cs Y : List V} {d : IntKind} {j : Int} {h : Hp} {l : List Asn} {k : V → VH} (H : St l h) (hi : l[i]? = some (vc gr v e s cs)) (hm : m ≠ 0) (hs : off + m ≤ s) (h1 : 0 ≤ j) (h2 : (j.toNat + 1) * s ≤ cs.length) (hY : (cs.drop (j.toNat * s + off)).take m = Y) (hk : Tri h0 ro F Q (k (.agg Y))) : Tri h0 ro F Q (idxS s v (.int d j) fun a => addrS off a fun b => loadN m b h k):=by
 have h3 : (j.toNat + 1) * s = j.toNat * s + s:=Nat.succ_mul _ _
 refine Tri.idxV i H hi h1 h2 (by omega) fun b n c g hv _ => ?_
 rw [hv] at hi
 apply ad
 exact Tri.loadsV i hm H hi (by omega) (by rw [Nat.zero_add]; exact hY) hk
theorem pts_len (os : List DO) : (pts os).length = os.length:=by unfold pts; rw [List.length_map]
theorem pts_at {os : List DO} {j : Nat} (h : os[j]? = some x) : (pts os)[j]? = some (.ptr x.ob 0):=by unfold pts; rw [List.getElem?_map, h]; rfl
def newD (hb : Nat) (m : Int) : DI:=⟨hb, m, 0, .nilSlice, []⟩
def rNewD (m : Int) : V → List Asn → Prop:=fun w B => ∃ db, w = .tuple [.ptr db 0, .int .i64 0] ∧ B = [DK (newD db m)]
theorem sp34 {m : Int} (h1 : 1 ≤ m) (h2 : m ≤ 16777216) (H : St l h) : Tri h false l (rNewD m) (M 34 [.int .i64 m] h):=by
 refine t1 e34 fun L => ?_
 unfold B34
 refine Tri.lss (fun e => by omega) (fun _ => ?_)
 apply gff
 apply bI
 refine Tri.gtr (fun e => by omega) (fun _ => ?_)
 apply bS
 apply pF
 apply nF
 refine Tri.bldS rfl ?_
 refine nw H L fun b14 h hb14 H L => ?_
 have H1:=(((St.pack (l:=[]) H).vc_new true 106 1)).u2
 exact Tri.done (B:=[DK (newD b14 m)]) ⟨b14, rfl, rfl⟩ (closeD (X:=newD b14 m) H1) L
def dfnd (v : Vl) : List DO → V
 | [] => .nilPtr
 | x :: l => if (x.a.kd, x.n) = v then .ptr x.ob 0 else dfnd v l
theorem loop55 (hlen : X.os.length ≤ 100000) {v : Vl} {b0 : Nat} (m : Nat) : ∀ {j : Nat} {h : Hp} {l : List Asn} (H : St (DK X :: Mid.row b0 (vlC v) :: l) h) (hj : j ≤ X.os.length) (hm : X.os.length - j ≤ m),
 Tri h true l (rDK X (dfnd v (X.os.drop j))) (M 55 [.ptr X.hb 0, .ptr b0 0, .int .i64 (j : Nat)] h):=by
 induction m with
 | zero =>
  intro j h l H hj hm
  refine t3 e55 fun L => ?_
  unfold B55
  replace H:=openD H
  refine nal 0 H rfl rfl ?_
  apply bL
  refine Tri.lenV 1 X.os.length H rfl (by decide) (by rw [pts_len]; omega) ?_
  apply bS
  refine Tri.lss (fun e => by omega) (fun e => ?_)
  apply nF
  rw [List.drop_eq_nil_of_le (by omega)]
  exact dDK (closeD H).x1 L
 | succ m ih =>
  intro j h l H hj hm
  refine t3 e55 fun L => ?_
  unfold B55
  replace H:=openD H
  refine nal 0 H rfl rfl ?_
  apply bL
  refine Tri.lenV 1 X.os.length H rfl (by decide) (by rw [pts_len]; omega) ?_
  apply bS
  refine Tri.lss (fun e => ?_) (fun e => ?_)
  ·have hlt : j < X.os.length := by omega
   apply nT
   refine nal 0 H rfl rfl ?_
   have hx : X.os[j]? = some X.os[j]:=List.getElem?_eq_getElem hlt
   refine Tri.idxLd 1 H rfl (by omega) (pts_at hx) ?_
   replace H:=closeD H
   apply nl
   apply ad
   refine Tri.loadsC (X:=[.int .u8 X.os[j].a.kd, .int .i64 X.os[j].n]) (by decide) rfl (dobj_cells (s:=2) H (i:=0) rfl hx (by decide)) ?_
   refine ls 1 H rfl rfl ?_
   have hd : X.os.drop j = X.os[j] :: X.os.drop (j + 1):=List.drop_eq_getElem_cons hlt
   rw [hd]; unfold dfnd
   refine Tri.vlEq (n:=(X.os[j].a.kd, X.os[j].n)) (m:=v) (fun e2 => ?_) (fun e2 => ?_)
   ·rw [if_pos e2]
    apply nT
    apply nl
    apply ad
    replace H:=openD H
    refine lo 0 H rfl rfl ?_
    refine Tri.idxLd 1 H rfl (by omega) (pts_at hx) ?_
    exact dDK (closeD H).x1 L
   ·rw [if_neg e2]
    apply nF
    refine Tri.addN (by omega) (by omega) ?_
    exact te (ih (j:=j + 1) H (by omega) (by omega)) L
  ·apply nF
   rw [List.drop_eq_nil_of_le (by omega)]
   exact dDK (closeD H).x1 L
theorem sp118 {v : Vl} (hlen : X.os.length ≤ 100000) (H : St (DK X :: l) h) : Tri h true l (rDK X (dfnd v X.os)) (M 118 [.ptr X.hb 0, vlV v] h):=by
 refine t2 e118 fun L => ?_
 unfold B118
 refine nw1 H L fun b0 h hb0 H L => ?_
 exact te (loop55 hlen X.os.length (j:=0) H (by omega) (by omega)) L
theorem sp120 {v : Vl} (hlen : X.os.length ≤ 100000) (hv : v.1 = 5) (H : St (DK X :: l) h) : Tri h true l (rDK X (dfnd v X.os)) (M 120 [.ptr X.hb 0, vlV v] h):=by
 refine t2 e120 fun L => ?_
 unfold B120
 refine nw1 H L fun b0 h hb0 H L => ?_
 refine ls 1 H rfl rfl ?_
 refine tbe1 (sp118 (by first|rfl|assumption|omega|(dsimp only;omega)) H) L fun h H L => ?_
 refine al 1 H rfl rfl ?_
 refine Tri.neq (fun e => absurd hv e) (fun _ => ?_)
 apply nF
 exact dDK H.x1 L
end
section
variable {l F : List Asn} {h h0 : Hp} {ro : Bool} {Q : V → List Asn → Prop} {k : V → VH} {K : V → Hp → VH} {v lV : V} {X X' : DI} {x y : DO} {i j : Nat} {pl : List Pl} {os : List DO}
theorem openDT (H : St (DT x :: l) h) : St (Mid.row x.tb [x.lV] :: vc true x.lV 152 4 (x.a.pl.flatMap plC) :: l) h:=H.app
theorem closeDT (H : St (Mid.row x.tb [x.lV] :: vc true x.lV 152 4 (x.a.pl.flatMap plC) :: l) h) : St (DT x :: l) h:=St.pack (l:=x.T) H
def rDT (x : DO) (v : V) : V → List Asn → Prop:=fun w B => w = v ∧ B = [DT x]
theorem dDT {v : V} (H : St (DT x :: l) h) (L : Lo ro h0 h) : Tri h0 ro l (rDT x v) (some (v, h)):=Tri.done (B:=[DT x]) ⟨rfl, rfl⟩ H L
def dat (k : Vl) : List Pl → Nat → Int
 | [], _ => -1
 | p :: l, i => if p.1 = k then (i : Nat) else dat k l (i + 1)
theorem plC_fst (pl : List Pl) (j : Nat) (hj : j < pl.length) : (((pl.flatMap plC).drop (j * 4 + 0)).take 2) = vlC pl[j].1:=by
 have:=plC_pl pl j hj
 have h2:=congrArg (List.take 2) this
 rw [List.take_take] at h2
 exact h2
theorem plC_snd (pl : List Pl) (j : Nat) (hj : j < pl.length) : (((pl.flatMap plC).drop (j * 4 + 2)).take 2) = vlC pl[j].2:=by
 have:=plC_pl pl j hj
 have h2:=congrArg (List.drop 2) this
 rw [List.drop_take, List.drop_drop] at h2
 exact h2
theorem loop59 (hlen : x.a.pl.length ≤ 100000) {v : Vl} {b0 : Nat} (m : Nat) : ∀ {j : Nat} {h : Hp} {l : List Asn} (H : St (DT x :: Mid.row b0 (vlC v) :: l) h) (hj : j ≤ x.a.pl.length) (hm : x.a.pl.length - j ≤ m),
 Tri h true l (rDT x (.int .i64 (dat v (x.a.pl.drop j) j))) (M 59 [.ptr x.tb 0, .ptr b0 0, .int .i64 (j : Nat)] h):=by
 induction m with
 | zero =>
  intro j h l H hj hm
  refine t3 e59 fun L => ?_
  unfold B59
  replace H:=openDT H
  refine nal 0 H rfl rfl ?_
  apply bL
  refine Tri.lenV 1 x.a.pl.length H rfl (by decide) (by rw [plC_len]) ?_
  apply bS
  refine Tri.lss (fun e => by omega) (fun e => ?_)
  apply nF
  rw [List.drop_eq_nil_of_le (by omega)]
  exact dDT (closeDT H).x1 L
 | succ m ih =>
  intro j h l H hj hm
  refine t3 e59 fun L => ?_
  unfold B59
  replace H:=openDT H
  refine nal 0 H rfl rfl ?_
  apply bL
  refine Tri.lenV 1 x.a.pl.length H rfl (by decide) (by rw [plC_len]) ?_
  apply bS
  refine Tri.lss (fun e => ?_) (fun e => ?_)
  ·have hlt : j < x.a.pl.length := by omega
   apply nT
   refine nal 0 H rfl rfl ?_
   refine Tri.idxLds 1 H rfl (by decide) (by decide) (by omega) (by rw [plC_len]; omega) (plC_fst _ j hlt) ?_
   refine ls 2 H rfl rfl ?_
   have hd : x.a.pl.drop j = x.a.pl[j] :: x.a.pl.drop (j + 1):=List.drop_eq_getElem_cons hlt
   rw [hd]; unfold dat
   refine Tri.vlEq (n:=x.a.pl[j].1) (m:=v) (fun e2 => ?_) (fun e2 => ?_)
   ·rw [if_pos e2]
    apply nT
    exact dDT (closeDT H).x1 L
   ·rw [if_neg e2]
    apply nF
    refine Tri.addN (by omega) (by omega) ?_
    exact te (ih (j:=j + 1) (closeDT H) (by omega) (by omega)) L
  ·apply nF
   rw [List.drop_eq_nil_of_le (by omega)]
   exact dDT (closeDT H).x1 L
theorem sp192 {v : Vl} (hlen : x.a.pl.length ≤ 100000) (H : St (DT x :: l) h) : Tri h true l (rDT x (.int .i64 (dat v x.a.pl 0))) (M 192 [.ptr x.tb 0, vlV v] h):=by
 refine t2 e192 fun L => ?_
 unfold B192
 refine nw1 H L fun b0 h hb0 H L => ?_
 exact te (loop59 hlen x.a.pl.length (j:=0) H (by omega) (by omega)) L
theorem dat_cases (k : Vl) : ∀ (pl : List Pl) (i : Nat), (dat k pl i = -1 ∧ getP pl k = (0, 0)) ∨ ∃ j, ∃ h : j < pl.length, dat k pl i = ((i + j : Nat) : Int) ∧ getP pl k = pl[j].2
 | [], i => .inl ⟨rfl, rfl⟩
 | p :: pl, i => by
  unfold dat getP
  by_cases e : p.1 = k
  ·rw [if_pos e, if_pos e]; exact .inr ⟨0, Nat.succ_pos _, rfl, rfl⟩
  ·rw [if_neg e, if_neg e]
   rcases dat_cases k pl (i + 1) with h | ⟨j, hj, h1, h2⟩
   ·exact .inl h
   ·refine .inr ⟨j + 1, Nat.succ_lt_succ hj, ?_, h2⟩
    rw [h1, show i + 1 + j = i + (j + 1) by omega]
theorem sp136 {v : Vl} (hlen : x.a.pl.length ≤ 100000) (H : St (DT x :: l) h) : Tri h true l (rDT x (vlV (getP x.a.pl v))) (M 136 [.ptr x.tb 0, vlV v] h):=by
 refine t2 e136 fun L => ?_
 unfold B136
 refine nw1 H L fun b0 h hb0 H L => ?_
 refine nw1 H L fun b1 h hb1 H L => ?_
 refine ls 2 H rfl rfl ?_
 refine tbe1 (sp192 (by first|rfl|assumption|omega|(dsimp only;omega)) H) L fun h H L => ?_
 rcases dat_cases v x.a.pl 0 with ⟨h1, h2⟩ | ⟨j, hj, h1, h2⟩
 ·rw [h1, h2]
  refine Tri.lss (fun _ => ?_) (fun e => absurd e (by decide))
  apply nT
  refine Tri.bldS rfl ?_
  refine wl1 1 H rfl rfl rfl L ‹_› (by first|rfl|assumption) fun h H L => ?_
  exact dDT H.x1.x1 L
 ·rw [h1, h2, Nat.zero_add]
  refine Tri.lss (fun e => by omega) (fun e => ?_)
  replace H:=openDT H
  apply nF
  refine nal 0 H rfl rfl ?_
  refine Tri.idxLds 1 H rfl (by decide) (by decide) (by omega) (by rw [plC_len]; omega) (plC_snd _ j hj) ?_
  refine wl1 2 H rfl rfl rfl L ‹_› (by first|rfl|assumption) fun h H L => ?_
  exact dDT (closeDT H).x1.x1 L
theorem live_drop (pl : List Pl) (j : Nat) (h : j < pl.length) : live (pl.drop j) = (if pl[j].2.1 = 0 then 0 else 1) + live (pl.drop (j + 1)):=by
 rw [List.drop_eq_getElem_cons h, live_cons]
 unfold dead
 by_cases e : pl[j].2.1 = 0
 ·rw [if_pos e, if_pos (by simp [e])]
 ·rw [if_neg e, if_neg (by simp [e])]
theorem plC_c2 (pl : List Pl) (j : Nat) (hj : j < pl.length) : (pl.flatMap plC)[0 + j * 4 + 2 + 0]? = some (.int .u8 pl[j].2.1):=by
 have:=plC_snd pl j hj
 have h2:=congrArg (fun l => l[0]?) this
 rw [Nat.zero_add, Nat.add_zero]
 simpa [List.getElem?_take, List.getElem?_drop] using h2
theorem loop67 (hlen : x.a.pl.length ≤ 100000) (m : Nat) : ∀ {j : Nat} {c : Int} {h : Hp} {l : List Asn} (hc : 0 ≤ c ∧ c ≤ (j : Nat)) (H : St (DT x :: l) h) (hj : j ≤ x.a.pl.length) (hm : x.a.pl.length - j ≤ m),
 Tri h true l (rDT x (.int .i64 (c + live (x.a.pl.drop j) : Int))) (M 67 [.ptr x.tb 0, .int .i64 c, .int .i64 (j : Nat)] h):=by
 induction m with
 | zero =>
  intro j c h l hc H hj hm
  refine t3 e67 fun L => ?_
  unfold B67
  replace H:=openDT H
  refine nal 0 H rfl rfl ?_
  apply bL
  refine Tri.lenV 1 x.a.pl.length H rfl (by decide) (by rw [plC_len]) ?_
  apply bS
  refine Tri.lss (fun e => by omega) (fun e => ?_)
  apply nF
  rw [List.drop_eq_nil_of_le (by omega), show c + ((live [] : Nat) : Int) = c from Int.add_zero c]
  exact dDT (closeDT H) L
 | succ m ih =>
  intro j c h l hc H hj hm
  refine t3 e67 fun L => ?_
  unfold B67
  replace H:=openDT H
  refine nal 0 H rfl rfl ?_
  apply bL
  refine Tri.lenV 1 x.a.pl.length H rfl (by decide) (by rw [plC_len]) ?_
  apply bS
  refine Tri.lss (fun e => ?_) (fun e => ?_)
  ·have hlt : j < x.a.pl.length := by omega
   apply nT
   refine nal 0 H rfl rfl ?_
   refine Tri.idxV 1 H rfl (by omega) (by rw [plC_len]; omega) (by decide) fun b nn cc g hv _ => ?_
   rw [hv] at H
   apply ad
   apply ad
   refine Tri.loadV 1 H rfl (plC_c2 _ j hlt) ?_
   rw [← hv] at H
   replace H:=closeDT H
   rw [live_drop _ _ hlt]
   refine Tri.neq (fun e2 => ?_) (fun e2 => ?_)
   ·rw [if_neg e2]
    apply nT
    refine Tri.addN (by omega) (by omega) ?_
    refine Tri.call (x:=B69 M (.ptr x.tb 0) (.int .i64 (c + 1)) (.int .i64 (j : Nat)) h) (fun p => e69 _ _ _ h p) ?_
    unfold B69
    refine Tri.addN (by omega) (by omega) ?_
    rw [show c + (((1 + live (x.a.pl.drop (j + 1)) : Nat)) : Int) = (c + 1) + (live (x.a.pl.drop (j + 1)) : Nat) by omega]
    exact te (ih (j:=j + 1) (c:=c + 1) (by omega) H (by omega) (by omega)) L
   ·rw [if_pos e2]
    apply nF
    refine Tri.call (x:=B69 M (.ptr x.tb 0) (.int .i64 c) (.int .i64 (j : Nat)) h) (fun p => e69 _ _ _ h p) ?_
    unfold B69
    refine Tri.addN (by omega) (by omega) ?_
    rw [Nat.zero_add]
    exact te (ih (j:=j + 1) (c:=c) (by omega) H (by omega) (by omega)) L
  ·apply nF
   rw [List.drop_eq_nil_of_le (by omega), show c + ((live [] : Nat) : Int) = c from Int.add_zero c]
   exact dDT (closeDT H) L
theorem sp202 (hlen : x.a.pl.length ≤ 100000) (H : St (DT x :: l) h) : Tri h true l (rDT x (.int .i64 (live x.a.pl : Nat))) (M 202 [.ptr x.tb 0] h):=by
 refine t1 e202 fun L => ?_
 unfold B202
 skip
 have:=loop67 hlen x.a.pl.length (j:=0) (c:=0) ⟨by decide, by decide⟩ H (by omega) (by omega)
 rw [Int.zero_add] at this
 exact this
theorem sp186 {a : Vl} (hp : plain a) (H : St l h) : Tri h true l (rNo (.bool true)) (M 186 [vlV a] h):=by
 unfold plain at hp
 refine t1 e186 fun L => ?_
 unfold B186
 refine nw H L fun b0 h hb0 H L => ?_
 refine al 0 H rfl rfl ?_
 refine Tri.gtr (fun e => ?_) (fun e => ?_)
 ·apply gtf
  apply pT
  exact Tri.done (B:=[]) ⟨rfl, rfl⟩ H.tl L
 ·apply gff
  apply ba
  refine bl 0 H rfl rfl ?_
  apply bI
  refine Tri.eql (fun e => ?_) (fun e => by omega)
  apply bS
  apply pF
  exact Tri.done (B:=[]) ⟨rfl, rfl⟩ H.tl L
theorem sp188 {a : Vl} (hp : plain a) (h8 : a.1 ≤ 8) (H : St l h) : Tri h true l (rNo (.bool true)) (M 188 [vlV a] h):=by
 refine t1 e188 fun L => ?_
 unfold B188
 refine nw H L fun b0 h hb0 H L => ?_
 refine al 0 H rfl rfl ?_
 refine Tri.leq (fun e => ?_) (fun e => by omega)
 apply gtt
 refine bn 0 H rfl rfl ?_
 apply Mid.bB
 refine tbe1 (sp186 (by first|rfl|assumption|omega|(dsimp only;omega)) H) L fun h H L => ?_
 apply bS
 apply pT
 exact Tri.done (B:=[]) ⟨rfl, rfl⟩ H.tl L
theorem sp132 {a : Vl} (hp : plain a) (h1 : 1 ≤ a.1) (h8 : a.1 ≤ 8) (H : St l h) : Tri h true l (rNo (.bool true)) (M 132 [vlV a] h):=by
 refine t1 e132 fun L => ?_
 unfold B132
 refine nw H L fun b0 h hb0 H L => ?_
 refine al 0 H rfl rfl ?_
 refine Tri.geq (fun e => ?_) (fun e => by omega)
 apply gtt
 apply ba
 refine bl 0 H rfl rfl ?_
 apply bI
 refine Tri.leq (fun e => ?_) (fun e => by omega)
 apply bS
 apply pT
 apply gtt
 refine bn 0 H rfl rfl ?_
 apply Mid.bB
 refine tbe1 (sp186 (by first|rfl|assumption|omega|(dsimp only;omega)) H) L fun h H L => ?_
 apply bS
 apply pT
 exact Tri.done (B:=[]) ⟨rfl, rfl⟩ H.tl L
theorem sp190 {a : Vl} (H : St l h) : Tri h true l (rNo (.bool (decide (isOb a.1)))) (M 190 [vlV a] h):=by
 refine t1 e190 fun L => ?_
 unfold B190
 refine nw H L fun b0 h hb0 H L => ?_
 refine al 0 H rfl rfl ?_
 have T (e : isOb a.1) : decide (isOb a.1) = true:=decide_eq_true e
 have T2 (e : ¬ isOb a.1) : decide (isOb a.1) = false:=decide_eq_false e
 unfold isOb at T T2
 unfold isOb
 refine Tri.geq (fun e1 => ?_) (fun e1 => ?_)
 ·apply gtt
  apply ba
  refine bl 0 H rfl rfl ?_
  apply bI
  refine Tri.leq (fun e2 => ?_) (fun e2 => ?_)
  ·apply bS
   apply pT
   apply gtf
   apply pT
   apply gtf
   apply pT
   rw [T (by omega)]
   exact Tri.done (B:=[]) ⟨rfl, rfl⟩ H.tl L
  ·apply bS
   apply pT
   apply gff
   apply ba
   refine bl 0 H rfl rfl ?_
   apply bI
   refine Tri.eql (fun e3 => ?_) (fun e3 => ?_)
   ·apply bS
    apply pF
    apply gtf
    apply pT
    rw [T (by omega)]
    exact Tri.done (B:=[]) ⟨rfl, rfl⟩ H.tl L
   ·apply bS
    apply pF
    apply gff
    apply ba
    refine bl 0 H rfl rfl ?_
    apply bI
    refine Tri.eql (fun e4 => ?_) (fun e4 => ?_)
    ·apply bS
     apply pF
     rw [T (by omega)]
     exact Tri.done (B:=[]) ⟨rfl, rfl⟩ H.tl L
    ·apply bS
     apply pF
     rw [T2 (by omega)]
     exact Tri.done (B:=[]) ⟨rfl, rfl⟩ H.tl L
 ·apply gft
  apply pF
  apply gff
  apply ba
  refine bl 0 H rfl rfl ?_
  apply bI
  refine Tri.eql (fun e3 => by omega) (fun e3 => ?_)
  apply bS
  apply pF
  apply gff
  apply ba
  refine bl 0 H rfl rfl ?_
  apply bI
  refine Tri.eql (fun e3 => by omega) (fun e4 => ?_)
  apply bS
  apply pF
  rw [T2 (by omega)]
  exact Tri.done (B:=[]) ⟨rfl, rfl⟩ H.tl L
def DO.wi (x : DO) (lV : V) (pl : List Pl) : DO:={ x with a:={ x.a with pl:=pl }, lV:=lV }
theorem alive_len (pl : List Pl) : (alive pl).length ≤ pl.length:=(alive_sub pl).length_le
theorem alive_drop (pl : List Pl) (j : Nat) (hj : j < pl.length) : alive (pl.take (j + 1)) = if pl[j].2.1 = 0 then alive (pl.take j) else alive (pl.take j) ++ [pl[j]]:=by
 rw [alive_take _ hj]
 unfold dead
 by_cases e : pl[j].2.1 = 0
 ·rw [if_pos e, if_pos (by simp [e]), List.append_nil]
 ·rw [if_neg e, if_neg (by simp [e])]
theorem plC_row (pl : List Pl) (j : Nat) (hj : j < pl.length) : (((pl.flatMap plC).drop (0 + j * 4)).take 4) = plC pl[j]:=by
 rw [Nat.zero_add]; exact plC_pl pl j hj
theorem loop35 (hlen : x.a.pl.length ≤ 60000) {key w : Vl} {b1 b2 : Nat} (m : Nat) : ∀ {j : Nat} {lf : V} {h : Hp} {l : List Asn} (H : St (Mid.row x.tb [x.lV] :: vc true x.lV 152 4 (x.a.pl.flatMap plC) :: vc true lf 152 4 ((alive (x.a.pl.take j)).flatMap plC) :: Mid.row b1 (vlC key) :: Mid.row b2 (vlC w) :: l) h) (hj : j ≤ x.a.pl.length) (hm : x.a.pl.length - j ≤ m),
 Tri h false l (fun r B => ∃ lV, r = .int .i64 0 ∧ B = [DT (x.wi lV (alive x.a.pl ++ [(key, w)]))]) (M 35 [.ptr x.tb 0, .ptr b1 0, .ptr b2 0, lf, .int .i64 (j : Nat)] h):=by
 have fin : ∀ {j : Nat} {lf : V} {h : Hp} {l : List Asn} (H : St (Mid.row x.tb [x.lV] :: vc true x.lV 152 4 (x.a.pl.flatMap plC) :: vc true lf 152 4 ((alive (x.a.pl.take j)).flatMap plC) :: Mid.row b1 (vlC key) :: Mid.row b2 (vlC w) :: l) h) (hj : j = x.a.pl.length),
  Tri h false l (fun r B => ∃ lV, r = .int .i64 0 ∧ B = [DT (x.wi lV (alive x.a.pl ++ [(key, w)]))]) (M 35 [.ptr x.tb 0, .ptr b1 0, .ptr b2 0, lf, .int .i64 (j : Nat)] h):=by
  intro j lf h l H hj
  refine t5 e35 fun L => ?_
  unfold B35
  refine nal 0 H rfl rfl ?_
  apply bL
  refine Tri.lenV 1 x.a.pl.length H rfl (by decide) (by rw [plC_len]) ?_
  apply bS
  refine Tri.lss (fun e => by omega) (fun e => ?_)
  subst hj
  rw [List.take_length] at H
  apply nF
  apply bL
  have hal:=alive_len x.a.pl
  refine Tri.lenV 2 (alive x.a.pl).length H rfl (by decide) (by rw [plC_len]) ?_
  apply bS
  refine Tri.geq (fun e => by omega) (fun _ => ?_)
  apply nF
  refine ls 3 H rfl rfl ?_
  refine ls 4 H rfl rfl ?_
  refine Tri.bldS rfl ?_
  refine Tri.bld (e:=_) (s:=_) H L rfl rfl fun b44 h hb44 H L => ?_
  refine Tri.app 3 (alive x.a.pl).length 1 H rfl (H.newCells (i:=0) rfl rfl) (by decide) (by rw [plC_len]) rfl (by omega) (by omega) rfl L (Own.off _ _) fun v' h H L O o1 => ?_
  replace H:=H.tl
  apply nl
  apply ad
  refine sto 0 H rfl rfl L (by first|rfl|assumption) fun h H L => ?_
  have e1 : (alive x.a.pl).flatMap plC ++ (V.int .u8 key.1 :: .int .i64 key.2 :: .int .u8 w.1 :: .int .i64 w.2 :: [].append []) = (alive x.a.pl ++ [(key, w)]).flatMap plC:=by rw [List.flatMap_append]; rfl
  replace H : St (Mid.row x.tb [v'] :: vc true x.lV 152 4 (x.a.pl.flatMap plC) :: vc true v' 152 4 ((alive x.a.pl).flatMap plC ++ (V.int .u8 key.1 :: .int .i64 key.2 :: .int .u8 w.1 :: .int .i64 w.2 :: [].append [])) :: _) _:=H
  rw [e1] at H
  exact Tri.done (B:=[DT _]) ⟨v', rfl, rfl⟩ (closeDT (x:=x.wi v' (alive x.a.pl ++ [(key, w)])) H.x1).x1.x1 L
 induction m with
 | zero =>
  intro j lf h l H hj hm
  exact fin H (by omega)
 | succ m ih =>
  intro j lf h l H hj hm
  by_cases hjj : j = x.a.pl.length
  ·exact fin H hjj
  have hlt : j < x.a.pl.length:=by omega
  refine t5 e35 fun L => ?_
  unfold B35
  refine nal 0 H rfl rfl ?_
  apply bL
  refine Tri.lenV 1 x.a.pl.length H rfl (by decide) (by rw [plC_len]) ?_
  apply bS
  refine Tri.lss (fun e => ?_) (fun e => by omega)
  apply nT
  refine nal 0 H rfl rfl ?_
  refine Tri.idxV 1 H rfl (by omega) (by rw [plC_len]; omega) (by decide) fun b nn cc g hv _ => ?_
  rw [hv] at H
  apply ad
  apply ad
  refine Tri.loadV 1 H rfl (plC_c2 _ j hlt) ?_
  rw [← hv] at H
  refine Tri.neq (fun e2 => ?_) (fun e2 => ?_)
  ·apply nT
   refine nal 0 H rfl rfl ?_
   refine Tri.idxV 1 H rfl (by omega) (by rw [plC_len]; omega) (by decide) fun b nn cc g hv _ => ?_
   rw [hv] at H
   refine Tri.loadsV 1 (by decide) H rfl (by rw [plC_len]; omega) (plC_row _ j hlt) ?_
   rw [← hv] at H
   refine Tri.bld (e:=_) (s:=_) H L rfl rfl fun b150 h hb150 H L => ?_
   have hal:=(alive_sub (x.a.pl.take j)).length_le
   have hal2 : (x.a.pl.take j).length ≤ x.a.pl.length:=(List.take_sublist j x.a.pl).length_le
   refine Tri.app 3 (alive (x.a.pl.take j)).length 1 H rfl (H.newCells (i:=0) rfl rfl) (by decide) (by rw [plC_len]) rfl (by omega) (by omega) rfl L (Own.off _ _) fun v' h H L O o1 => ?_
   replace H:=H.tl
   have e1 : (alive (x.a.pl.take j)).flatMap plC ++ (plC x.a.pl[j] ++ []) = (alive (x.a.pl.take (j + 1))).flatMap plC:=by rw [alive_drop _ _ hlt, if_neg e2, List.flatMap_append]; rfl
   replace H : St (Mid.row x.tb [x.lV] :: vc true x.lV 152 4 (x.a.pl.flatMap plC) :: vc true v' 152 4 ((alive (x.a.pl.take j)).flatMap plC ++ (plC x.a.pl[j] ++ [])) :: _) _:=H
   rw [e1] at H
   refine Tri.call (x:=B37 M (.ptr x.tb 0) (.ptr b1 0) (.ptr b2 0) v' (.int .i64 (j : Nat)) h) (fun p => e37 _ _ _ _ _ h p) ?_
   unfold B37
   refine Tri.addN (by omega) (by omega) ?_
   exact te (ih (j:=j + 1) H (by omega) (by omega)) L
  ·apply nF
   have e1 : alive (x.a.pl.take j) = alive (x.a.pl.take (j + 1)):=by rw [alive_drop _ _ hlt, if_pos e2]
   rw [e1] at H
   refine Tri.call (x:=B37 M (.ptr x.tb 0) (.ptr b1 0) (.ptr b2 0) lf (.int .i64 (j : Nat)) h) (fun p => e37 _ _ _ _ _ h p) ?_
   unfold B37
   refine Tri.addN (by omega) (by omega) ?_
   exact te (ih (j:=j + 1) H (by omega) (by omega)) L
theorem dat_pix (k : Vl) : ∀ (pl : List Pl) (i : Nat), (dat k pl i = -1 ∧ pix k pl = none) ∨ ∃ j, ∃ h : j < pl.length, dat k pl i = ((i + j : Nat) : Int) ∧ pix k pl = some j ∧ (pl[j]).1 = k
 | [], i => .inl ⟨rfl, rfl⟩
 | p :: pl, i => by
  unfold dat pix
  by_cases e : p.1 = k
  ·rw [if_pos e, if_pos e.symm]; exact .inr ⟨0, Nat.succ_pos _, rfl, rfl, e⟩
  ·rw [if_neg e, if_neg (fun c => e c.symm)]
   rcases dat_pix k pl (i + 1) with ⟨h1, h2⟩ | ⟨j, hj, h1, h2, h3⟩
   ·exact .inl ⟨h1, by rw [h2]; rfl⟩
   ·refine .inr ⟨j + 1, Nat.succ_lt_succ hj, ?_, by rw [h2]; rfl, h3⟩
    rw [h1, show i + 1 + j = i + (j + 1) by omega]
def rDSet (x : DO) (pl : List Pl) : V → List Asn → Prop:=fun r B => ∃ lV, r = .int .i64 0 ∧ B = [DT (x.wi lV pl)]
theorem sp140 {key w : Vl} (hk : 1 ≤ key.1 ∧ key.1 ≤ 8) (hkp : plain key) (hw : w.1 ≤ 8) (hwp : plain w) (hf : x.a.pl.length ≤ 60000) (H : St (DT x :: l) h) :
 Tri h false l (rDSet x (setP x.a.pl key w)) (M 140 [.ptr x.tb 0, vlV key, vlV w] h):=by
 refine t3 e140 fun L => ?_
 unfold B140
 have hk1:=hk.1
 have hk8:=hk.2
 have hf2 : x.a.pl.length ≤ 100000:=by omega
 refine nw1 H L fun b0 h hb0 H L => ?_
 refine nw1 H L fun b1 h hb1 H L => ?_
 refine ls 2 H rfl rfl ?_
 refine tbe1 (sp132 (by first|rfl|assumption|omega|(dsimp only;omega)) (by first|rfl|assumption|omega|(dsimp only;omega)) (by first|rfl|assumption|omega|(dsimp only;omega)) H) L fun h H L => ?_
 refine Tri.not ?_
 apply gff
 refine bn 1 H rfl rfl ?_
 apply Mid.bB
 refine tbe1 (sp188 (by first|rfl|assumption|omega|(dsimp only;omega)) (by first|rfl|assumption|omega|(dsimp only;omega)) H) L fun h H L => ?_
 refine Tri.eqv (bind_notS _ _) ?_
 refine Tri.not ?_
 apply bS
 apply pF
 apply nF
 refine ls 2 H rfl rfl ?_
 refine tbe1 (sp192 (by first|rfl|assumption|omega|(dsimp only;omega)) H) L fun h H L => ?_
 rcases dat_pix key x.a.pl 0 with ⟨h1, h2⟩ | ⟨q, hq, h1, h2, hkey⟩
 ·rw [h1]
  have hg : setP x.a.pl key w = if w.1 = 0 then x.a.pl else alive x.a.pl ++ [(key, w)]:=by unfold setP; rw [h2]
  rw [hg]
  refine Tri.geq (fun e => absurd e (by decide)) (fun _ => ?_)
  apply nF
  refine al 1 H rfl rfl ?_
  refine Tri.eql (fun e => ?_) (fun e => ?_)
  ·rw [if_pos e]
   apply nT
   exact Tri.done (B:=[DT (x.wi x.lV x.a.pl)]) ⟨x.lV, rfl, rfl⟩ H.x1.x1 L
  ·rw [if_neg e]
   apply nF
   exact te (loop35 hf (key:=key) (w:=w) x.a.pl.length (j:=0) (lf:=.nilSlice) (l:=l) ((((openDT H).u3.ins 2).vc_new true 152 4).ins 2) (by omega) (by omega)) L
 ·rw [h1, Nat.zero_add]
  have hg : setP x.a.pl key w = x.a.pl.set q (key, w):=by unfold setP; rw [h2]
  rw [hg]
  refine Tri.geq (fun _ => ?_) (fun e => by omega)
  replace H:=openDT H
  apply nT
  refine nal 0 H rfl rfl ?_
  refine ls 2 H rfl rfl ?_
  refine Tri.idxV 1 H rfl (by omega) (by rw [plC_len]; omega) (by decide) fun b nn cc g hv _ => ?_
  rw [hv] at H
  apply ad
  refine Tri.storesV 1 (by decide) H rfl (X:=vlC w) rfl (by rw [plC_len]; omega) L (fun e => nomatch e) rfl fun h H L => ?_
  rw [← hv, show ((q : Nat) : Int).toNat = q from rfl, plC_over2 x.a.pl q key w hq hkey] at H
  replace H : St (Mid.row x.tb [x.lV] :: vc true x.lV 152 4 ((x.a.pl.set q (key, w)).flatMap plC) :: Mid.row b1 (vlC w) :: Mid.row b0 (vlC key) :: l) _:=H
  exact Tri.done (B:=[DT (x.wi x.lV (x.a.pl.set q (key, w)))]) ⟨x.lV, rfl, rfl⟩ (closeDT (x:=x.wi x.lV (x.a.pl.set q (key, w))) H).x1.x1 L
end
end Go.MS
end
