/- A part of the proof. -/
import Derived.Test.YteeahoagedfehaaGreatDoorUHU0
import Derived.Test.YteeahoagedfehaaGreatDoorUMidWE
set_option linter.all false
set_option warn.classDefReducibility false
noncomputable section
section
open Go Go.Mid Go.Proofs
set_option maxRecDepth 100000
namespace Go.MS
section
variable {l F : List Asn} {h h0 : Hp} {ro : Bool} {Q : V → List Asn → Prop} {k : V → VH} {K : V → Hp → VH} {v lV : V} {X X' : HI} {Y Y' : DI} {i j : Nat}
def pick (x n : Int) : Int:=if x.tmod n < 0 then x.tmod n + n else x.tmod n
theorem pick_in {x n : Int} (hn : 1 ≤ n) : 0 ≤ pick x n ∧ pick x n < n:=by
 unfold pick
 have h1:=Int.tmod_lt_of_pos x (show 0 < n by omega)
 have h2 : -n < x.tmod n:=by
  have:=Int.neg_le_of_neg_le (show -x.tmod n ≤ (-x).tmod n by rw [Int.neg_tmod]; exact Int.le_refl _)
  have:=Int.tmod_lt_of_pos (-x) (show 0 < n by omega)
  rw [Int.neg_tmod] at this
  omega
 split <;> omega
theorem sp12 {x n : Int} (hn : 1 ≤ n) (hn2 : n ≤ 1000) (H : St l h) : Tri h true l (rNo (.int .i64 (pick x n))) (M 12 [.int .i64 x, .int .i64 n] h):=by
 refine t2 e12 fun L => ?_
 unfold B12
 refine Tri.lss (fun e => by omega) (fun _ => ?_)
 apply nF
 refine Tri.rem (by omega) ?_
 have h1:=Int.tmod_lt_of_pos x (show 0 < n by omega)
 have h2:=(pick_in (x:=x) hn)
 unfold pick at h2 ⊢
 refine Tri.lss (fun e => ?_) (fun e => ?_)
 ·rw [if_pos e] at h2 ⊢
  apply nT
  refine Tri.addN (by omega) (by omega) ?_
  refine Tri.call (x:=B7 M (.int .i64 (x.tmod n + n)) h) (fun p => e7 _ h p) ?_
  exact Tri.done (B:=[]) ⟨rfl, rfl⟩ H L
 ·rw [if_neg (by omega)] at h2 ⊢
  apply nF
  refine Tri.call (x:=B7 M (.int .i64 (x.tmod n)) h) (fun p => e7 _ h p) ?_
  exact Tri.done (B:=[]) ⟨rfl, rfl⟩ H L
def rNames : V → List Asn → Prop:=fun w B => ∃ b, w = .slice b 0 22 22 false ∧ B = [vc false (.slice b 0 22 22 false) 9 1 (nmS.map V.str)]
theorem f42 (H : St l h) : Tri h true l rNames (M 42 [] h):=by
 refine t0 e42 fun L => ?_
 unfold B42
 refine Tri.bld (e:=_) (s:=_) H L rfl rfl fun b0 h hb0 H L => ?_
 exact Tri.done (B:=[vc false _ 9 1 _]) ⟨b0, rfl, rfl⟩ H L
structure BI where
 bb : Nat
 bp : Nat
 hb : Nat
 db : Nat
 lV : V
 ls : List Vl
def BI.A (Z : BI) : List Asn:=[Mid.row Z.bb [.ptr Z.hb 0, .ptr Z.db 0, Z.lV], Mid.row Z.bp [.ptr Z.bb 0], vc false Z.lV 31 2 (Z.ls.flatMap vlC)]
def BK (Z : BI) : Asn:=ands Z.A
variable {Z Z' : BI}
theorem openZ (H : St (BK Z :: l) h) : St (Mid.row Z.bb [.ptr Z.hb 0, .ptr Z.db 0, Z.lV] :: Mid.row Z.bp [.ptr Z.bb 0] :: vc false Z.lV 31 2 (Z.ls.flatMap vlC) :: l) h:=H.app
theorem closeZ (H : St (Mid.row Z.bb [.ptr Z.hb 0, .ptr Z.db 0, Z.lV] :: Mid.row Z.bp [.ptr Z.bb 0] :: vc false Z.lV 31 2 (Z.ls.flatMap vlC) :: l) h) : St (BK Z :: l) h:=St.pack (l:=Z.A) H
theorem vlC_len (ls : List Vl) : (ls.flatMap vlC).length = ls.length * 2:=by
 induction ls with
 | nil => rfl
 | cons a l ih => rw [List.flatMap_cons, List.length_append, ih]; show 2 + _ = (l.length + 1) * 2; omega
theorem vlC_at : ∀ (ls : List Vl) (j : Nat) (hj : j < ls.length), ((ls.flatMap vlC).drop (j * 2)).take 2 = vlC ls[j]
 | a :: l, 0, _ => rfl
 | a :: l, j + 1, hj => by
  rw [List.flatMap_cons, show (j + 1) * 2 = (vlC a).length + j * 2 by show _ = 2 + j * 2; omega, ← List.drop_drop, List.drop_left]
  exact vlC_at l j (Nat.lt_of_succ_lt_succ hj)
def rVal (Z : BI) (n : Int) : V → List Asn → Prop:=fun w B => ∃ v : Vl, Z.ls[(pick n (Z.ls.length : Int)).toNat]? = some v ∧ w = vlV v ∧ B = [BK Z]
theorem Tri.at_ {i : Int} {s : Nat} {v : Vl} (hl : i = s) (hv : Z.ls[s]? = some v) (H : St (Mid.row Z.bb [.ptr Z.hb 0, .ptr Z.db 0, Z.lV] :: Mid.row Z.bp [.ptr Z.bb 0] :: vc false Z.lV 31 2 (Z.ls.flatMap vlC) :: l) h)
 (hk : ∀ b, (∀ z, z < 2 → h.cell b (0 + s * 2 + z) = (vlC v)[z]?) → (∃ n c g, Z.lV = .slice b 0 n c g) → Tri h0 ro F Q (k (.ptr b (0 + s * 2)))) : Tri h0 ro F Q (idxS 2 Z.lV (.int .i64 i) k):=by
 obtain ⟨hlt, hg⟩:=List.getElem?_eq_some_iff.1 hv
 subst hl
 refine Tri.idxV 2 H rfl (by omega) (by rw [vlC_len]; omega) (by decide) fun b nn cc g hv' _ => ?_
 rw [hv'] at H
 refine hk b (fun z hz => ?_) ⟨nn, cc, g, hv'⟩
 have h1:=H.vc_cell (i:=2) (o:=0 + s * 2 + z) rfl (by rw [vlC_len]; omega)
 rw [h1]
 have h2:=congrArg (fun l => l[z]?) (vlC_at Z.ls s hlt)
 simp only [List.getElem?_take_of_lt hz, List.getElem?_drop] at h2
 rw [Nat.zero_add, h2, hg]
theorem sp14 {n : Int} (hl : 1 ≤ Z.ls.length ∧ Z.ls.length ≤ 1000) (H : St (BK Z :: l) h) : Tri h true l (rVal Z n) (M 14 [.ptr Z.bb 0, .int .i64 n] h):=by
 refine t2 e14 fun L => ?_
 unfold B14
 have hp:=pick_in (x:=n) (n:=(Z.ls.length : Int)) (by omega)
 have hv : Z.ls[(pick n (Z.ls.length : Int)).toNat]? = some Z.ls[(pick n (Z.ls.length : Int)).toNat]:=List.getElem?_eq_getElem (by omega)
 refine nw1 H L fun b0 h hb0 H L => ?_
 apply nl
 apply ad
 replace H:=openZ H
 refine lo 0 H rfl rfl ?_
 refine nal 0 H rfl rfl ?_
 apply bL
 refine Tri.lenV 2 Z.ls.length H rfl (by decide) (vlC_len _) ?_
 apply bS
 have Ho21:=H
 refine Tri.wroteC (sp12 (x:=n) (n:=(Z.ls.length : Int)) (by omega) (by omega) (H.draw _)) L (fun v h2 e => by rw [e]; rfl) fun v h2 h B hq H2 hn hl eh H L => ?_
 obtain ⟨rfl, rfl⟩:=hq
 refine Tri.at_ (s:=(pick n (Z.ls.length : Int)).toNat) (by omega) hv H fun b hc _ => ?_
 refine Tri.loadsC (X:=vlC Z.ls[(pick n (Z.ls.length : Int)).toNat]) (by decide) rfl hc ?_
 replace H:=closeZ H
 refine wl1 1 H rfl rfl rfl L ‹_› (by first|rfl|assumption) fun h H L => ?_
 exact Tri.done (B:=[BK Z]) ⟨_, hv, rfl, rfl⟩ H.x1 L
def BI.add (Z : BI) (lV : V) (v : Vl) : BI:={ Z with lV:=lV, ls:=Z.ls ++ [v] }
def rAddB (Z : BI) (v : Vl) : V → List Asn → Prop:=fun w B => ∃ lV, w = .bool true ∧ B = [BK (Z.add lV v)]
theorem f36 {v : Vl} (hl : Z.ls.length ≤ 1000) (H : St (BK Z :: l) h) : Tri h false l (rAddB Z v) (M 36 [vlV v, vlV v, .int .i64 0, .int .i64 0, .ptr Z.bp 0] h):=by
 refine t5 e36 fun L => ?_
 unfold B36
 replace H:=openZ H
 refine nw H L fun b0 h hb0 H L => ?_
 refine nw H L fun b1 h hb1 H L => ?_
 refine lo 3 H rfl rfl ?_
 refine lo 3 H rfl rfl ?_
 refine nal 2 H rfl rfl ?_
 refine ls 1 H rfl rfl ?_
 refine Tri.drawBld H L (fun _ => rfl) rfl fun b8 h hb8 H L => ?_
 have c1:=H.row_cell (i:=4) (o:=0) rfl (by show 0 < 1; decide)
 refine Tri.drawAppC 5 Z.ls.length 1 H rfl (H.newCells (i:=0) rfl rfl) (by decide) (vlC_len _) rfl (by omega) (by omega) rfl L (Own.off _ _) (fun v' h' H' => ?_) fun v' h H L O o1 => ?_
 ·have c2 := H'.row_cell (i := 4) (o := 0) rfl (by show 0 < 1; decide)
  have:=same_ptr (b:=Z.bp) (o:=0) (x:=Z.bb) (y:=0) c1 c2
  show ((pureB _ _ || sameA _ h' (.ptr Z.bp 0) 1) && true) = true
  rw [this, Bool.or_true]; rfl
 replace H:=H.tl
 apply nl
 apply ad
 refine sto 2 H rfl rfl L (by first|rfl|assumption) fun h H L => ?_
 refine ls 1 H rfl rfl ?_
 refine ls 0 H rfl rfl ?_
 refine Tri.vlEq (n:=v) (m:=v) (fun _ => ?_) (fun e => absurd rfl e)
 apply gtt
 apply bI
 refine eT (by decide) ?_
 apply bS
 apply pT
 apply gtt
 apply bI
 refine eT (by decide) ?_
 apply bS
 apply pT
 have e1 : Z.ls.flatMap vlC ++ (V.int .u8 v.1 :: .int .i64 v.2 :: [].append []) = (Z.ls ++ [v]).flatMap vlC:=by rw [List.flatMap_append]; rfl
 replace H : St (_ :: _ :: Mid.row Z.bb [.ptr Z.hb 0, .ptr Z.db 0, v'] :: Mid.row Z.bp [.ptr Z.bb 0] :: vc false v' 31 2 (Z.ls.flatMap vlC ++ (V.int .u8 v.1 :: .int .i64 v.2 :: [].append [])) :: _) _:=H
 rw [e1] at H
 exact Tri.done (B:=[BK _]) ⟨v', rfl, rfl⟩ (closeZ (Z:=Z.add v' v) H.tl.tl) L
end
end Go.MS
end
