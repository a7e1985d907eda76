/- Heaps: what objects, a heap of the program, and the document's heap look like in memory. -/
import Derived.Test.YteeahoagedfehaaGreatDoorUMSb
import Derived.Test.YteeahoagedfehaaGreatDoorUMidWE
import Derived.IntWalk
set_option linter.all false
set_option warn.classDefReducibility false
noncomputable section
section
open Go Go.Mid Go.Proofs
set_option maxRecDepth 100000
namespace Go.MS
section
abbrev Vl:=Int × Int
abbrev vlC (v : Vl) : List V:=[.int .u8 v.1, .int .i64 v.2]
abbrev Pl:=Vl × Vl
abbrev plC (p : Pl) : List V:=[.int .u8 p.1.1, .int .i64 p.1.2, .int .u8 p.2.1, .int .i64 p.2.2]
structure AO where
 kd : Int
 ser : Int
 tx : Bs
 pl : List Pl
 me : Vl
 pr : Int
 has : Vl
def atL (pl : List Pl) : List (Vl × V):=pl.zipIdx.map fun x => (x.1.1, .int .i64 (x.2 : Nat))
structure IO where
 a : AO
 ob : Nat
 tb : Nat
 lV : V
 atb : Nat
def IO.row (x : IO) : List V:=[.int .u8 x.a.kd, .int .i64 x.a.ser, .str x.a.tx, (if x.a.kd = 5 then .ptr x.tb 0 else .nilPtr), .int .u8 x.a.me.1, .int .i64 x.a.me.2, .int .i64 x.a.pr, .nilSlice, .int .u8 x.a.has.1, .int .i64 x.a.has.2, .nilPtr]
def IO.T (x : IO) : List Asn:=[Mid.row x.tb [x.lV, .map x.atb], vc true x.lV 126 4 (x.a.pl.flatMap plC), dict x.atb (kes (atL x.a.pl))]
def TK (x : IO) : Asn:=ands x.T
def IO.A (x : IO) : Asn:=ands (Mid.row x.ob x.row :: (if x.a.kd = 5 then [TK x] else []))
def allL (os : List IO) : List (Int × V):=os.zipIdx.map fun x => (((x.2 + 1 : Nat) : Int), .ptr x.1.ob 0)
def txL (os : List AO) : List (V × V):=(os.zipIdx.filter fun x => x.1.kd == 4).map fun x => (.str x.1.tx, .int .i64 ((x.2 + 1 : Nat) : Int))
def live (pl : List Pl) : Nat:=(pl.filter fun p => p.2.1 != 0).length
def AO.sz (a : AO) : Nat:=if a.kd = 4 then 1 + a.tx.n / 16 else if a.kd = 5 then 2 + 2 * live a.pl else if a.kd = 6 then 2 else if a.kd = 8 then 8 else 1
def szs (os : List AO) : List Int:=os.map fun a => (a.sz : Int)
def used (os : List AO) : Int:=(szs os).sum
structure HI where
 hb : Nat
 pb : Nat
 allb : Nat
 txb : Nat
 ntb : Nat
 max : Int
 made : Int
 szV : V
 os : List IO
def HI.as (X : HI) : List AO:=X.os.map IO.a
def HI.row (X : HI) : List V:=[.int .i64 X.max, .ptr X.pb 0, .map X.allb, .map X.txb, .int .i64 X.made, .bool false, .map X.ntb]
def HI.prow (X : HI) : List V:=[.bool true, .int .i64 X.max, .int .i64 (used X.as), .int .i64 (X.os.length : Nat), X.szV, .nilSlice]
def HI.A (X : HI) : List Asn:=[Mid.row X.hb X.row, Mid.row X.pb X.prow, vc true X.szV 3 1 ((szs X.as).map (V.int .i64)), dict X.allb (ies (allL X.os)), dict X.txb (txL X.as), dict X.ntb [], ands (X.os.map IO.A)]
def HK (X : HI) : Asn:=ands X.A
structure RO where
 a : AO
 n : Int
 ob : Nat
 tb : Nat
 lV : V
structure RH where
 hb : Nat
 max : Int
 made : Int
 lV : V
 os : List RO
def isOb (k : Int) : Prop:=k = 4 ∨ k = 5 ∨ k = 6 ∨ k = 8 ∨ k = 9
instance (k : Int) : Decidable (isOb k):=by unfold isOb; infer_instance
structure AIn (a : AO) : Prop where
 kd : isOb a.kd
 nd : (a.pl.map (·.1)).Nodup
 few : a.pl.length ≤ 100000
structure HIn (X : HI) : Prop where
 os : ∀ x ∈ X.os, AIn x.a
 few : X.os.length ≤ 100000
 mx : X.max ≤ 1073741824
def getP : List Pl → Vl → Vl
 | [], _ => (0, 0)
 | p :: l, k => if p.1 = k then p.2 else getP l k
end
section
variable {l F : List Asn} {h h0 : Hp} {ro : Bool} {Q : V → List Asn → Prop} {k : V → VH} {K : V → Hp → VH} {v : V} {X X' : HI} {x y : IO} {i : Nat}
theorem openH (H : St (HK X :: l) h) : St (Mid.row X.hb X.row :: Mid.row X.pb X.prow :: vc true X.szV 3 1 ((szs X.as).map (V.int .i64)) :: dict X.allb (ies (allL X.os)) :: dict X.txb (txL X.as) :: dict X.ntb [] :: ands (X.os.map IO.A) :: l) h:=H.app
theorem closeH (H : St (Mid.row X.hb X.row :: Mid.row X.pb X.prow :: vc true X.szV 3 1 ((szs X.as).map (V.int .i64)) :: dict X.allb (ies (allL X.os)) :: dict X.txb (txL X.as) :: dict X.ntb [] :: ands (X.os.map IO.A) :: l) h) : St (HK X :: l) h:=St.pack (l:=X.A) H
def rHK (X : HI) (v : V) : V → List Asn → Prop:=fun w B => w = v ∧ B = [HK X]
theorem dHK {v : V} (H : St (HK X :: l) h) (L : Lo ro h0 h) : Tri h0 ro l (rHK X v) (some (v, h)):=Tri.done (B:=[HK X]) ⟨rfl, rfl⟩ H L
theorem sp102 (H : St (HK X :: l) h) : Tri h true l (rHK X (.bool true)) (M 102 [.ptr X.hb 0] h):=by
 refine t1 e102 fun L => ?_
 unfold B102
 replace H:=openH H
 refine Tri.neP ?_
 apply gtt
 refine Tri.eqv (bind_nilS _ _) ?_
 apply nl
 apply ba
 refine bl 0 H rfl rfl ?_
 refine Tri.eqv (bind_eqS _ _) ?_
 refine Tri.neM ?_
 apply bS
 apply pT
 exact dHK (closeH H) L
theorem isOb_iff (a : Int) : isOb a ↔ (4 ≤ a ∧ a ≤ 6) ∨ a = 8 ∨ a = 9:=by unfold isOb; omega
theorem k172 {a : Vl} (H : St l h) : Tri h true l (fun w B => w = .bool (decide (isOb a.1)) ∧ B = []) (M 172 [vlV a] h):=by
 refine t1 e172 fun L => ?_
 unfold B172
 refine nw H L fun b0 h hb0 H L => ?_
 refine al 0 H rfl rfl ?_
 refine Tri.geq (fun e1 => ?_) (fun e1 => ?_)
 ·apply gtt
  apply ba
  refine bl 0 H rfl rfl ?_
  apply bI
  refine Tri.leq (fun e2 => ?_) (fun e2 => ?_)
  ·apply bS
   apply pT
   apply gtf
   apply pT
   apply gtf
   apply pT
   exact Tri.done (B:=[]) ⟨by rw [decide_eq_true ((isOb_iff _).2 (by omega))], rfl⟩ H.tl L
  ·apply bS
   apply pT
   apply gff
   apply ba
   refine bl 0 H rfl rfl ?_
   apply bI
   refine Tri.eql (fun e3 => ?_) (fun e3 => ?_)
   ·apply bS
    apply pF
    apply gtf
    apply pT
    exact Tri.done (B:=[]) ⟨by rw [decide_eq_true ((isOb_iff _).2 (by omega))], rfl⟩ H.tl L
   ·apply bS
    apply pF
    apply gff
    apply ba
    refine bl 0 H rfl rfl ?_
    apply bI
    refine Tri.eql (fun e4 => ?_) (fun e4 => ?_)
    ·apply bS
     apply pF
     exact Tri.done (B:=[]) ⟨by rw [decide_eq_true ((isOb_iff _).2 (by omega))], rfl⟩ H.tl L
    ·apply bS
     apply pF
     exact Tri.done (B:=[]) ⟨by rw [decide_eq_false fun h => by have:=(isOb_iff _).1 h; omega], rfl⟩ H.tl L
 ·apply gft
  apply pF
  apply gff
  apply ba
  refine bl 0 H rfl rfl ?_
  apply bI
  refine Tri.eql (fun e3 => ?_) (fun e3 => ?_)
  ·apply bS
   apply pF
   apply gtf
   apply pT
   exact Tri.done (B:=[]) ⟨by rw [decide_eq_true ((isOb_iff _).2 (by omega))], rfl⟩ H.tl L
  ·apply bS
   apply pF
   apply gff
   apply ba
   refine bl 0 H rfl rfl ?_
   apply bI
   refine Tri.eql (fun e4 => ?_) (fun e4 => ?_)
   ·apply bS
    apply pF
    exact Tri.done (B:=[]) ⟨by rw [decide_eq_true ((isOb_iff _).2 (by omega))], rfl⟩ H.tl L
   ·apply bS
    apply pF
    exact Tri.done (B:=[]) ⟨by rw [decide_eq_false fun h => by have:=(isOb_iff _).1 h; omega], rfl⟩ H.tl L
theorem iget_all (n : Int) : ∀ (os : List IO) (m : Nat), iget n ((os.zipIdx m).map fun x => (((x.2 + 1 : Nat) : Int), V.ptr x.1.ob 0)) = if (m : Int) + 1 ≤ n then (os[(n.toNat - 1) - m]?).map (fun x => V.ptr x.ob 0) else none
 | [], m => by simp [iget]
 | x :: os, m => by
  rw [List.zipIdx_cons, List.map_cons]
  unfold iget
  by_cases e : n = ((m + 1 : Nat) : Int)
  ·rw [if_pos e, if_pos (by omega), show n.toNat - 1 - m = 0 by omega]; rfl
  ·rw [if_neg e, iget_all n os (m + 1)]
   by_cases e2 : ((m + 1 : Nat) : Int) + 1 ≤ n
   ·rw [if_pos e2, if_pos (by omega), show n.toNat - 1 - m = (n.toNat - 1 - (m + 1)) + 1 by omega]; rfl
   ·rw [if_neg e2, if_neg (by omega)]
def findI (os : List IO) (a : Vl) : Option IO := if 1 ≤ a.2 ∧ isOb a.1 then (match os[a.2.toNat - 1]? with
 | some x => if x.a.kd = a.1 then some x else none
 | none => none) else none
theorem findI_at {os : List IO} {a : Vl} {x : IO} (h : findI os a = some x) : os[a.2.toNat - 1]? = some x ∧ x.a.kd = a.1 ∧ 1 ≤ a.2 ∧ isOb a.1:=by
 unfold findI at h
 split at h
 ·rename_i h1
  split at h
  ·rename_i y hy
   split at h
   ·rename_i hk; cases h; exact ⟨hy, hk, h1⟩
   ·cases h
  ·cases h
 ·cases h
def obV : Option IO → V
 | some x => .ptr x.ob 0
 | none => .nilPtr
theorem obj_cell {j o : Nat} {w : V} (H : St l h) (hi : l[i]? = some (HK X)) (hj : X.os[j]? = some x) (hw : x.row[o]? = some w) : h.cell x.ob o = some w:=by
 obtain ⟨g1, a1, a2⟩:=H.sat.get hi
 obtain ⟨g2, b1, b2⟩:=Sat.get (l:=X.A) (i:=6) a2 rfl
 obtain ⟨g3, c1, c2⟩:=Sat.get (l:=X.os.map IO.A) (i:=j) (A:=x.A) b2 (by rw [List.getElem?_map, hj]; rfl)
 obtain ⟨g4, d1, t, g, e, d2, d3⟩:=Sat.get (l:=Mid.row x.ob x.row :: (if x.a.kd = 5 then [TK x] else [])) (i:=0) c2 rfl
 have:=(((d1.trans c1).trans b1).trans a1) _ _ d2
 unfold hf at this
 obtain ⟨ho, _⟩:=List.getElem?_eq_some_iff.1 hw
 unfold Hp.cell; rw [this]; show t.get o = _; rw [d3 o ho, hw]
theorem k172t {a : Vl} (hk : isOb a.1) (H : St l h) : Tri h true l (fun w B => w = .bool true ∧ B = []) (M 172 [vlV a] h):=(k172 H).mono fun w B ⟨h1, h2⟩ => ⟨by rw [h1, decide_eq_true hk], h2⟩
theorem k172f {a : Vl} (hk : ¬ isOb a.1) (H : St l h) : Tri h true l (fun w B => w = .bool false ∧ B = []) (M 172 [vlV a] h):=(k172 H).mono fun w B ⟨h1, h2⟩ => ⟨by rw [h1, decide_eq_false hk], h2⟩
theorem sp142 {a : Vl} (H : St (HK X :: l) h) : Tri h true l (rHK X (obV (findI X.os a))) (M 142 [.ptr X.hb 0, vlV a] h):=by
 refine t2 e142 fun L => ?_
 unfold B142
 refine nw1 H L fun b0 h hb0 H L => ?_
 refine tbe1 (sp102 H) L fun h H L => ?_
 refine Tri.not ?_
 apply gff
 refine bn 1 H rfl rfl ?_
 apply Mid.bB
 by_cases hk : isOb a.1
 ·refine tbe (k172t hk H) L fun h H L => ?_
  refine Tri.eqv (bind_notS _ _) ?_
  refine Tri.not ?_
  apply bS
  apply pF
  apply nF
  apply nl
  apply ad
  replace H:=openH H
  refine lo 0 H rfl rfl ?_
  refine al 7 H rfl rfl ?_
  refine Tri.lookI 3 H rfl (fun w hw => ?_) (fun hw => ?_)
  ·unfold allL at hw
   rw [iget_all] at hw
   split at hw
   ·rename_i h1
    cases hx : X.os[a.2.toNat - 1 - 0]? with
    | none => rw [hx] at hw; cases hw
    | some x =>
     rw [hx] at hw; cases hw
     have hx' : X.os[a.2.toNat - 1]? = some x:=hx
     replace H:=closeH H
     refine Tri.neP ?_
     apply gtt
     apply bS
     apply gtt
     refine Tri.eqv (bind_nilS _ _) ?_
     apply nl
     apply bS
     apply gtt
     apply ba
     apply bS
     apply gtt
     apply bW
     refine Tri.loadC (obj_cell H (i:=0) rfl hx' rfl) ?_
     apply bS
     apply gtt
     apply ba
     apply bS
     apply gtt
     refine bl 1 H rfl rfl ?_
     apply bS
     apply gtt
     apply bI
     by_cases hkd : x.a.kd = a.1
     ·have hf : findI X.os a = some x := by unfold findI; rw [if_pos ⟨by omega, hk⟩, hx']; simp only; rw [if_pos hkd]
      refine Tri.eql (fun _ => ?_) (fun e => absurd hkd e)
      apply bS
      apply pT
      apply nT
      rw [hf]
      exact dHK H.x1 L
     ·have hf : findI X.os a = none := by unfold findI; rw [if_pos ⟨by omega, hk⟩, hx']; simp only; rw [if_neg hkd]
      refine Tri.eql (fun e => absurd e hkd) (fun _ => ?_)
      apply bS
      apply pT
      apply nF
      rw [hf]
      exact dHK H.x1 L
   ·cases hw
  ·replace H := closeH H
   refine Tri.neZ ?_
   apply gft
   apply gft
   apply gft
   apply gft
   apply gft
   apply gft
   apply gft
   apply pF
   apply nF
   have hf : findI X.os a = none:=by
    unfold allL at hw
    rw [iget_all] at hw
    unfold findI
    split
    ·rename_i h1
     rw [if_pos (by omega)] at hw
     cases hx : X.os[a.2.toNat - 1]? with
     | none => rfl
     | some x => rw [show a.2.toNat - 1 - 0 = a.2.toNat - 1 by omega, hx] at hw; cases hw
    ·rfl
   rw [hf]
   exact dHK H.x1 L
 ·refine tbe (k172f hk H) L fun h H L => ?_
  refine Tri.eqv (bind_notS _ _) ?_
  refine Tri.not ?_
  apply bS
  apply pF
  apply nT
  have hf : findI X.os a = none:=by
   unfold findI; rw [if_neg fun h => hk h.2]
  rw [hf]
  exact dHK H.x1 L
end
end Go.MS
end
