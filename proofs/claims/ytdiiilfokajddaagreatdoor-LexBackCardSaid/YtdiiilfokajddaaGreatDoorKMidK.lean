/- What a run of the small machine leaves as it was: the blocks below its 'low' mark. -/
import Derived.Test.YtdiiilfokajddaaGreatDoorKMidH
import Derived.LoopNIn
import Derived.OrdersIn
import Derived.RangeFuncLeaves
import Derived.RangeFuncRecord
set_option linter.all false
set_option warn.classDefReducibility false
noncomputable section
section
open Go.RowKit
namespace Go.Mid
section
variable {P : Program} [Orc] [Z : Res]
theorem vh_h {h h' : Hp} {x : Option V} {v : V} (e : vh h x = some (v, h')) : h' = h:=(vh_some e).1
theorem exec_frC {t : Tr V} {h h' : Hp} {o : Op} {v : V} (he : execC P t h o = some (v, h')) : Fr h h':=by
 cases o <;> simp only [execC, reduceCtorEq] at he
 case move => rw [vh_h he]; exact Fr.refl _
 case assign => rw [vh_h he]; exact Fr.refl _
 case pick =>
  unfold exPick at he
  (repeat' split at he) <;> first | (cases he; done) | (rw [vh_h he]; exact Fr.refl _)
 case alloc =>
  unfold exAlloc at he
  split at he
  ·simp only [Option.some.injEq, Prod.mk.injEq] at he; obtain ⟨_, rfl⟩ := he; exact Fr.row _ _ _ _
  ·cases he
 case box =>
  unfold exBox at he
  split at he
  ·simp only [Option.some.injEq, Prod.mk.injEq] at he; obtain ⟨_, rfl⟩ := he; exact Fr.row _ _ _ _
  ·cases he
 case build =>
  unfold exBuild at he
  (repeat' split at he) <;> first
    | (cases he; done)
    | (unfold bld at he
       split at he
       ·unfold bldStruct at he
        (repeat' split at he) <;> first | (cases he; done) | (simp only [Option.some.injEq, Prod.mk.injEq] at he; obtain ⟨_, rfl⟩:=he; exact Fr.refl _)
       ·split at he
        ·unfold bldArr at he
         split at he
         ·simp only [Option.some.injEq, Prod.mk.injEq] at he; obtain ⟨_, rfl⟩ := he; exact Fr.refl _
         ·cases he
        ·cases he
       ·cases he)
 case buildSlice =>
  unfold exBuildSlice at he
  (repeat' split at he) <;> first
    | (cases he; done)
    | (unfold bldSl at he
       simp only [Bool.cond_eq_ite] at he
       (repeat' split at he) <;> first | (cases he; done) | (simp only [Option.some.injEq, Prod.mk.injEq] at he; obtain ⟨_, rfl⟩:=he; exact Fr.row _ _ _ _))
 case load =>
  unfold exLoad at he
  split at he
  ·rw [vh_h he]; exact Fr.refl _
  ·cases he
 case store =>
  unfold exStore at he
  (repeat' split at he) <;> first
    | (cases he; done)
    | skip
  rename_i hst
  simp only [Option.some.injEq, Prod.mk.injEq] at he; obtain ⟨_, rfl⟩:=he
  unfold storeV at hst
  split at hst
  ·simp only [Option.some.injEq] at hst; subst hst; exact Fr.put _ _ _
  ·cases hst
 case nilCheck =>
  unfold exNil at he
  split at he <;> first | (cases he; done) | (simp only [Option.some.injEq, Prod.mk.injEq] at he; obtain ⟨_, rfl⟩:=he; exact Fr.refl _)
 case binOp =>
  unfold exBin at he
  (repeat' split at he) <;> first | (cases he; done) | (rw [vh_h he]; exact Fr.refl _)
 case unOp =>
  unfold exUn at he
  split at he <;> first | (cases he; done) | (rw [vh_h he]; exact Fr.refl _)
 case convert =>
  unfold exConv at he
  (repeat' split at he) <;> first | (cases he; done) | (simp only [Option.some.injEq, Prod.mk.injEq] at he; obtain ⟨_, rfl⟩:=he; exact Fr.refl _)
 case makeInterface =>
  unfold exIface at he
  (repeat' split at he) <;> first | (cases he; done) | (simp only [Option.some.injEq, Prod.mk.injEq] at he; obtain ⟨_, rfl⟩:=he; exact Fr.refl _)
 case makeFunc =>
  unfold exFunc at he
  (repeat' split at he) <;> first | (cases he; done) | (simp only [Option.some.injEq, Prod.mk.injEq] at he; obtain ⟨_, rfl⟩:=he; exact Fr.refl _)
 case makeMap ty r =>
  cases r <;> simp only [reduceCtorEq, Option.some.injEq, Prod.mk.injEq] at he
  obtain ⟨_, rfl⟩:=he; exact Fr.new _ _
 case makeSlice =>
  unfold exMake at he
  (repeat' split at he) <;> first
    | (cases he; done)
    | (unfold exMakeSlice mkSl at he
       simp only [Bool.cond_eq_ite] at he
       (repeat' split at he) <;> first | (cases he; done) | (simp only [Option.some.injEq, Prod.mk.injEq] at he; obtain ⟨_, rfl⟩:=he; exact Fr.row _ _ _ _))
 case slice ty x lo hi mx =>
  cases mx <;> simp only [reduceCtorEq] at he
  unfold exSlice at he
  (repeat' split at he) <;> first
    | (cases he; done)
    | (simp only [Option.some.injEq, Prod.mk.injEq] at he; obtain ⟨_, rfl⟩:=he; exact Fr.refl _)
    | (unfold slStr at he
       simp only [Bool.cond_eq_ite] at he
       (repeat' split at he) <;> first | (cases he; done) | (simp only [Option.some.injEq, Prod.mk.injEq] at he; obtain ⟨_, rfl⟩:=he; exact Fr.refl _))
    | (unfold slSl slS at he
       simp only [Bool.cond_eq_ite] at he
       (repeat' split at he) <;> first | (cases he; done) | (simp only [Option.some.injEq, Prod.mk.injEq] at he; obtain ⟨_, rfl⟩:=he; exact Fr.refl _))
 case fieldAddr =>
  unfold exFieldAddr at he
  simp only [Bool.cond_eq_ite] at he
  (repeat' split at he) <;> first | (cases he; done) | (simp only [Option.some.injEq, Prod.mk.injEq] at he; obtain ⟨_, rfl⟩:=he; exact Fr.refl _)
 case field =>
  unfold exField at he
  (repeat' split at he) <;> first | (cases he; done) | (rw [vh_h he]; exact Fr.refl _)
 case indexAddr =>
  unfold exIndexAddr at he
  simp only [Bool.cond_eq_ite] at he
  (repeat' split at he) <;> first | (cases he; done) | (simp only [Option.some.injEq, Prod.mk.injEq] at he; obtain ⟨_, rfl⟩:=he; exact Fr.refl _)
 case index =>
  unfold exIndex at he
  simp only [Bool.cond_eq_ite] at he
  (repeat' split at he) <;> first | (cases he; done) | (rw [vh_h he]; exact Fr.refl _) | (simp only [Option.some.injEq, Prod.mk.injEq] at he; obtain ⟨_, rfl⟩:=he; exact Fr.refl _)
 case lookup =>
  unfold exLookup at he
  simp only [Bool.cond_eq_ite] at he
  (repeat' split at he) <;> first
    | (cases he; done)
    | (unfold lookIn lookZ at he
       (repeat' split at he) <;> first | (cases he; done) | (simp only [Option.some.injEq, Prod.mk.injEq] at he; obtain ⟨_, rfl⟩:=he; exact Fr.refl _))
 case mapUpdate =>
  unfold exMapUpdate at he
  simp only [Bool.cond_eq_ite] at he
  (repeat' split at he) <;> first
    | (cases he; done)
    | (unfold mapPut at he
       (repeat' split at he) <;> first | (cases he; done) | (simp only [Option.some.injEq, Prod.mk.injEq] at he; obtain ⟨_, rfl⟩:=he; exact Fr.put _ _ _))
 case extract =>
  unfold exExtract at he
  split at he <;> first | (cases he; done) | (rw [vh_h he]; exact Fr.refl _)
 case call c =>
  unfold exCall at he
  split at he
  ·unfold exBuiltin at he
   split at he
   ·unfold exLen at he
    (repeat' split at he) <;> first | (cases he; done) | (simp only [Option.some.injEq, Prod.mk.injEq] at he; obtain ⟨_, rfl⟩:=he; exact Fr.refl _)
   ·have app : ∀ {elem : TypeId} {s x : V}, appendV P h elem s x = some (v, h') → Fr h h':=by
     intro elem s x he
     unfold appendV at he
     simp only [Bool.cond_eq_ite] at he
     (repeat' split at he) <;> first
       | (cases he; done)
       | skip
     unfold appGo at he
     simp only [Bool.cond_eq_ite] at he
     (repeat' split at he) <;> first
       | (cases he; done)
       | (unfold appNil at he
          simp only [Bool.cond_eq_ite] at he
          (repeat' split at he) <;> first
            | (cases he; done)
            | (simp only [Option.some.injEq, Prod.mk.injEq] at he; obtain ⟨_, rfl⟩:=he; first | exact Fr.refl _ | exact Fr.row _ _ _ _))
       | (unfold appSl at he
          simp only [Bool.cond_eq_ite] at he
          (repeat' split at he) <;> first
            | (cases he; done)
            | (unfold appIn at he
               simp only [Option.some.injEq, Prod.mk.injEq, Bool.cond_eq_ite] at he; obtain ⟨_, rfl⟩:=he
               split <;> first | exact Fr.refl _ | exact Fr.put _ _ _)
            | (unfold appGrow at he
               simp only [Option.some.injEq, Prod.mk.injEq] at he; obtain ⟨_, rfl⟩:=he
               exact (Fr.put _ _ _).trans (Fr.new _ _))
            | (unfold appNew at he
               split at he
               ·simp only [Option.some.injEq, Prod.mk.injEq] at he; obtain ⟨_, rfl⟩ := he; exact Fr.row _ _ _ _
               ·cases he))
    unfold exAppend at he
    (repeat' split at he) <;> first | (cases he; done) | exact app he
   ·cases he
  ·cases he
theorem exec_fr [OpOk P] {t : Tr V} {h h' : Hp} {o : Op} {v : V} (he : execV P t h o = some (v, h')) : Fr h h':=by
 by_cases hx : xk o = 0
 ·rw [execV_zero hx] at he; exact exec_frC he
 ·rw [execV_ne hx] at he
  obtain ⟨as, h1, h2⟩:=execX_some he
  exact (OpOk.make (P:=P) _ _ _ _ _ h2 (by rw [← (xk_ne hx).2]; exact hx)).1
theorem stores_fr : ∀ (l : List (Nat × Ob)) (h : Hp), Fr h (stores l h)
 | [], h => Fr.refl h
 | (b, ob) :: l, h => (Fr.put h b ob).trans (stores_fr l _)
def RnFr (r : Rn) : Prop:=∀ k t h e t' h', r k t h = .ok e t' h' → Fr h h'
class OrcFr (P : Program) [Orc] extends OpOk P where
 fr : ∀ f as h v h', Orc.fn f as h = some (v, h') → Fr h h'
variable [OrcFr P]
theorem op_fr {r : Rn} (hr : RnFr r) {t : Tr V} {h h' : Hp} {o : Oper} {v : V} (he : opV P r t h o = some (v, h')) : Fr h h':=by
 unfold opV at he
 cases hc : isCall o with
 | false => simp only [hc, cond_false] at he; exact exec_fr he
 | true =>
  simp only [hc, cond_true] at he
  unfold enterV at he
  split at he
  rotate_left
  ·cases he
  rename_i f as' _
  cases ho : Orc.fn f as' h with
  | some q =>
   obtain ⟨v', h''⟩:=q
   rw [ho] at he
   simp only [enterO, Option.some.injEq, Prod.mk.injEq] at he
   obtain ⟨rfl, rfl⟩:=he
   exact OrcFr.fr P _ _ _ _ _ ho
  | none =>
  rw [ho] at he
  simp only [enterO] at he
  unfold enterB at he
  (repeat' split at he) <;> first | (cases he; done) | skip
  unfold bodyV at he
  simp only [Bool.cond_eq_ite] at he
  (repeat' split at he) <;> first | (cases he; done) | skip
  unfold backV at he
  split at he
  ·cases he
  ·rename_i hrun _
   split at he
   ·simp only [Option.some.injEq, Prod.mk.injEq] at he; obtain ⟨_, rfl⟩ := he
    exact hr _ _ _ _ _ _ (by assumption)
   ·cases he
  ·cases he
theorem hdPlain_fr {r : Rn} (hr : RnFr r) {ms : Tr Nat} {h0 h : Hp} {s s' : Hd} {o : Oper} {i : Nat} (hs : ∀ m h, s.hs.get m = some h → Fr h0 h) (hg : s.hs.get (maxNeed s.need o.after.toList) = some h)
 (he : hdPlain P ms r s o i (maxNeed s.need o.after.toList) h = some s') : ∀ m h, s'.hs.get m = some h → Fr h0 h:=by
 unfold hdPlain at he
 simp only [Bool.cond_eq_ite] at he
 split at he
 ·split at he
  ·split at he
   ·rename_i hmc
    unfold hdMk at he
    simp only [Bool.cond_eq_ite] at he
    split at he
    ·unfold hdMade at he
     simp only [Bool.cond_eq_ite] at he
     split at he
     ·rename_i v h' hop
      split at he
      ·rename_i hle
       have hle:=Nat.le_of_ble_eq_true hle
       simp only [Option.some.injEq] at he; subst he
       intro m k hk
       rw [Tr.get_set] at hk
       split at hk
       ·simp only [Option.some.injEq] at hk; subst hk
        have f:=op_fr hr hop
        have f0:=hs _ _ hg
        refine ⟨f0.low, Nat.le_trans f0.n f.n, fun b h1 h2 => ?_⟩
        have hbn : b < h.n:=Nat.lt_of_lt_of_le h1 f0.n
        rw [f.get b hbn (Nat.lt_of_lt_of_le hbn hle)]
        exact f0.get b h1 h2
       ·exact hs m k hk
      ·cases he
     ·cases he
    ·unfold hdWrote at he
     simp only [Bool.cond_eq_ite] at he
     split at he
     ·rename_i v h' hop
      split at he
      ·simp only [Option.some.injEq] at he; subst he
       intro m k hk
       rw [Tr.get_set] at hk
       split at hk
       ·simp only [Option.some.injEq] at hk; subst hk
        have f:=op_fr hr hop
        have f0:=hs _ _ hg
        refine ⟨Nat.le_trans (Nat.min_le_left _ _) f0.low, Nat.le_trans f0.n f.n, fun b h1 h2 => ?_⟩
        have h2' : b < min h.low h'.low:=h2
        have hbn : b < h.n:=Nat.lt_of_lt_of_le h1 f0.n
        rw [f.get b hbn (by omega)]
        exact f0.get b h1 (by omega)
       ·exact hs m k hk
      ·cases he
     ·cases he
   ·cases he
  ·unfold hdRead at he
   split at he
   ·simp only [Bool.cond_eq_ite] at he
    split at he
    ·simp only [Option.some.injEq] at he; subst he; exact hs
    ·cases he
   ·cases he
 ·cases he
theorem hdOne_fr {r : Rn} (hr : RnFr r) {ms : Tr Nat} {h0 : Hp} {s s' : Hd} {o : Oper} {i : Nat} {b : Option Bool} (hs : ∀ m h, s.hs.get m = some h → Fr h0 h) (he : hdOne P ms r s o i b = some s') :
 ∀ m h, s'.hs.get m = some h → Fr h0 h:=by
 unfold hdOne at he
 split at he
 ·cases he
 ·simp only [Option.some.injEq] at he; subst he; exact hs
 ·unfold hdDo at he
  split at he
  ·cases he
  ·rename_i h hg
   split at he
   ·unfold hdStore at he
    (repeat' split at he) <;> first | (cases he; done) | skip
    unfold hdPut at he
    simp only [Bool.cond_eq_ite] at he
    (repeat' split at he) <;> first | (cases he; done) | (simp only [Option.some.injEq] at he; subst he; exact hs)
   ·unfold hdFlo at he
    split at he
    ·exact hdPlain_fr hr hs hg he
    ·simp only [Option.some.injEq] at he; subst he; exact hs
    ·cases he
   ·unfold hdFloS at he
    split at he
    ·exact hdPlain_fr hr hs hg he
    ·unfold hdFloC at he
     split at he
     ·simp only [Bool.cond_eq_ite] at he
      split at he
      ·simp only [Option.some.injEq] at he; subst he; exact hs
      ·cases he
     ·cases he
    ·cases he
   ·exact hdPlain_fr hr hs hg he
theorem consF_some {x : Nat × V} {y : Option (Hp × List (Nat × V))} {h : Hp} {l : List (Nat × V)} (e : consF x y = some (h, l)) : ∃ l', y = some (h, l') ∧ l = x :: l':=by
 cases y with
 | none => cases e
 | some p => obtain ⟨h', l'⟩:=p; simp only [consF, Option.some.injEq, Prod.mk.injEq] at e; obtain ⟨rfl, rfl⟩:=e; exact ⟨l', rfl, rfl⟩
theorem flo0_fr {ms : Tr Nat} {all : List Oper} {t : Tr V} : ∀ (l : List Oper) (i : Nat) (h : Hp) {h' : Hp} {n : List (Nat × V)}, flo0 P ms all t l i h = some (h', n) → Fr h h'
 | [], _, h, h', n, e => by simp only [flo0, Option.some.injEq, Prod.mk.injEq] at e; rw [← e.1]; exact Fr.refl h
 | o :: l, i, h, h', n, e => by
  rw [flo0] at e
  split at e
  ·obtain ⟨l', e', _⟩ := consF_some e
   exact (Fr.row _ _ _ _).trans (flo0_fr l (i + 1) _ e')
  ·split at e
   ·split at e
    ·obtain ⟨l', e', _⟩ := consF_some e
     exact (Fr.row _ _ _ _).trans (flo0_fr l (i + 1) _ e')
    ·cases e
   ·exact flo0_fr l (i + 1) h e
theorem hdAll_fr {r : Rn} (hr : RnFr r) {ms : Tr Nat} {all : Array Oper} {h0 : Hp} : ∀ {l : List Oper} {i : Nat} {s s' : Hd}, (∀ m h, s.hs.get m = some h → Fr h0 h) → hdAll P ms r all l i (some s) = some s' →
 ∀ m h, s'.hs.get m = some h → Fr h0 h
 | [], i, s, s', hs, he => by simp only [hdAll, Option.some.injEq] at he; subst he; exact hs
 | o :: l, i, s, s', hs, he => by
  simp only [hdAll] at he
  cases h1 : hdOne P ms r s o i (wantO all s.t o) with
  | none => rw [h1] at he; cases l <;> simp [hdAll] at he
  | some s1 => rw [h1] at he; exact hdAll_fr hr (hdOne_fr hr hs h1) he
theorem roundsR_fr {r : Rn} (hr : RnFr r) {it : It} {x y : Tmp} {a b : Code} {t : Tr V} {p : V} : ∀ {n : Nat} {h : Hp} {e : Ex} {t' : Tr V} {h' : Hp}, roundsR it r x y a b t p n h = .ok e t' h' → Fr h h'
 | 0, h, e, t', h', he => by
  simp only [roundsR, Out.ok.injEq] at he
  obtain ⟨_, _, rfl⟩:=he; exact Fr.refl _
 | n + 1, h, e, t', h', he => by
  simp only [roundsR] at he
  cases hel : rowEl it h p n with
  | none => rw [hel] at he; cases he
  | some v =>
   rw [hel] at he
   simp only [roundR] at he
   cases h1 : r (.code a) ((t.set x (.int .i64 (.ofNat n))).set y v) h with
   | no => rw [h1] at he; simp [bodyRng, endRng] at he
   | ok e1 t1 k1 =>
    rw [h1] at he
    cases e1 with
    | normal =>
     simp only [bodyRng] at he
     cases h2 : r (.code b) t1 k1 with
     | no => rw [h2] at he; simp [endRng] at he
     | ok e2 t2 k2 =>
      rw [h2] at he
      have f:=(hr _ _ _ _ _ _ h1).trans (hr _ _ _ _ _ _ h2)
      cases e2 <;> simp only [endRng] at he
      ·exact f.trans (roundsR_fr hr he)
      all_goals (simp only [Out.ok.injEq] at he; obtain ⟨_, _, rfl⟩:=he; exact f)
    | exit id => simp [bodyRng, endRng] at he
    | ret => simp [bodyRng, endRng] at he
theorem rngR_some {r : Rn} {ps : List Tmp} {a b : Code} {t : Tr V} {h : Hp} {v : Option V} {e : Ex} {t' : Tr V} {h' : Hp} (he : rngR r ps a b t h v = .ok e t' h') :
 ∃ g p x y it n, v = some (.func g [] [p]) ∧ ps = [x, y] ∧ Orc.itr g = some it ∧ rowLen h p = some n ∧ n ≤ big ∧ roundsR it r x y a b t p n h = .ok e t' h':=by
 unfold rngR at he
 split at he
 ·rename_i g p
  split at he
  ·rename_i x y
   cases hi : Orc.itr g with
   | none => rw [hi] at he; cases he
   | some it =>
    rw [hi] at he
    simp only [rngF] at he
    cases hl : rowLen h p with
    | none => rw [hl] at he; cases he
    | some n =>
     rw [hl] at he
     simp only [rowsR] at he
     cases hb : Nat.ble n big with
     | false => rw [hb] at he; cases he
     | true => rw [hb] at he; exact ⟨g, p, x, y, it, n, rfl, rfl, hi, hl, Nat.le_of_ble_eq_true hb, he⟩
  ·cases he
 ·cases he
theorem step_fr {r : Rn} (hr : RnFr r) : RnFr (step P r):=by
 intro k t h e t' h' he
 unfold step at he
 split at he
 ·unfold stepCode at he
  split at he
  ·simp only [Out.ok.injEq] at he; obtain ⟨_, _, rfl⟩ := he; exact Fr.refl _
  ·unfold regCode at he
   split at he
   ·exact hr _ _ _ _ _ _ he
   ·unfold drawCode at he
    simp only [Bool.cond_eq_ite] at he
    split at he
    ·unfold drawHd at he
     split at he
     rotate_left
     ·cases he
     rename_i hF
     unfold tailCode at he
     split at he
     ·rename_i s hs
      split at he
      ·rename_i h1 hg
       have f := hdAll_fr (P := P) (h0 := h) hr (fun m k hk => by
        rw [Tr.get_set] at hk
        split at hk
        ·simp only [Option.some.injEq] at hk; subst hk; exact flo0_fr _ _ _ hF
        ·simp [Tr.get_nil] at hk) hs _ _ hg
       exact (f.trans (stores_fr _ _)).trans (hr _ _ _ _ _ _ he)
      ·cases he
     ·cases he
    ·cases he
  ·rename_i a b
   unfold thenCode at he
   split at he
   ·rename_i h1; exact (hr _ _ _ _ _ _ h1).trans (hr _ _ _ _ _ _ he)
   ·exact hr _ _ _ _ _ _ he
  ·unfold ifCode at he
   split at he <;> first | (cases he; done) | exact hr _ _ _ _ _ _ he
  ·unfold inBlk at he
   split at he
   ·rename_i h1
    simp only [Bool.cond_eq_ite] at he
    split at he <;> (simp only [Out.ok.injEq] at he; obtain ⟨_, _, rfl⟩:=he; exact hr _ _ _ _ _ _ h1)
   ·exact hr _ _ _ _ _ _ he
  ·unfold thenCode at he
   split at he
   ·rename_i h1; exact (hr _ _ _ _ _ _ h1).trans (hr _ _ _ _ _ _ he)
   ·exact hr _ _ _ _ _ _ he
  ·simp only [Out.ok.injEq] at he; obtain ⟨_, _, rfl⟩ := he; exact Fr.refl _
  ·simp only [Out.ok.injEq] at he; obtain ⟨_, _, rfl⟩ := he; exact Fr.refl _
  ·exact hr _ _ _ _ _ _ he
  ·simp only [Out.ok.injEq] at he; obtain ⟨_, _, rfl⟩ := he; exact Fr.refl _
  ·obtain ⟨_, _, _, _, _, _, _, _, _, _, _, he⟩ := rngR_some he
   exact roundsR_fr hr he
  ·cases he
 ·split at he
  ·simp only [Out.ok.injEq] at he; obtain ⟨_, _, rfl⟩ := he; exact Fr.refl _
  ·unfold stepOps at he
   split at he
   ·unfold goOps at he
    split at he
    ·rename_i hop
     exact (op_fr hr hop).trans (hr _ _ _ _ _ _ he)
    ·cases he
   ·exact hr _ _ _ _ _ _ he
   ·cases he
theorem run_fr : ∀ n, RnFr (run P n)
 | 0 => fun k t h e t' h' he => by cases he
 | n + 1 => step_fr (run_fr n)
end
section
variable {P : Program} [Orc] [Z : Res]
def TR (ρ : Rho) (t : Tr V) (a : Act) : Prop:=∀ i v, t.get i = some v → Rel ρ v (a.tmps.getD i undef)
theorem TR.ext {ρ ρ' : Rho} {t : Tr V} {a : Act} (he : Ext ρ ρ') (h : TR ρ t a) : TR ρ' t a:=fun i v hv => (h i v hv).ext he
theorem glob_rel {ρ : Rho} {t : Tr V} {a : Act} (hG : Glob ρ) {g : Nat} {v : V} (he : evalO t (.global g) = some v) : Rel ρ v (a.eval (.global g)):=by
 simp only [evalO] at he
 cases hb : Nat.blt g Orc.ng with
 | false => rw [hb] at he; cases he
 | true =>
  rw [hb] at he
  simp only [cond_true, Option.some.injEq] at he; subst he
  obtain ⟨c, hc⟩:=hG g (Nat.le_of_ble_eq_true hb)
  have:=Rel.ptr (ρ:=ρ) 0 hc
  exact this
theorem evalO_tr {ρ : Rho} {t : Tr V} {a : Act} (hG : Glob ρ) (h : TR ρ t a) {x : Operand} {v : V} (he : evalO t x = some v) : Rel ρ v (a.eval x):=by
 cases x with
 | tmp i => exact h i v he
 | const c => exact absV_rel ρ c v he
 | global g => exact glob_rel hG he
 | func f =>
  simp only [evalO, Option.some.injEq] at he; subst he
  exact .func (xs:=[]) (ys:=[]) f rfl (fun i v x h => by simp at h) rfl (fun i v x h => by simp at h)
theorem TR.op {ρ : Rho} {t : Tr V} {a : Act} (hG : Glob ρ) (h : TR ρ t a) (xs : List Operand) : OpR ρ a t xs:=fun _ _ _ he => evalO_tr hG h he
theorem put_getD (a : Act) (d : Nat) (x : Value) (i : Nat) (hd : d < a.tmps.size) : (a.put (some d) x).tmps.getD i undef = if d = i then x else a.tmps.getD i undef:=by
 simp only [Act.put, Array.getD_eq_getD_getElem?, Array.getElem?_setIfInBounds]
 by_cases h : d = i
 ·subst h; simp [hd]
 ·simp [h]
theorem TR.put {ρ : Rho} {t : Tr V} {a : Act} (h : TR ρ t a) {v : V} {x : Value} (hv : Rel ρ v x) (d : Option Tmp) (hd : ∀ i, d = some i → i < a.tmps.size) : TR ρ (putO t d v) (a.put d x):=by
 cases d with
 | none => exact h
 | some d =>
  intro i u hu
  rw [put_getD a d x i (hd d rfl)]
  simp only [putO] at hu
  rw [Tr.get_set] at hu
  split at hu
  ·rename_i e; simp only [Option.some.injEq] at hu; subst hu; rw [if_pos e]; exact hv
  ·rename_i e; rw [if_neg e]; exact h i u hu
theorem put_defers (a : Act) (d : Option Tmp) (x : Value) : (a.put d x).defers = a.defers:=by cases d <;> rfl
theorem put_size (a : Act) (d : Option Tmp) (x : Value) : (a.put d x).tmps.size = a.tmps.size:=by cases d <;> simp [Act.put]
def cx : Ex → Exit
 | .normal => .normal
 | .exit id => .exit id
 | .ret => .ret
def Fw (r : Option Nat) : Fence:={ Fence.wide with round:=r }
theorem callsFw {r : Option Nat} {n : Nat} {f : FuncId} {args : Array Value} {w : World} {R : Ending → World → Prop} : CallsIn (Fw r) n P f args w R ↔ Calls P f args w R:=callsIn_wide
theorem fw_depth (r : Option Nat) : (Fw r).depth.isSome = true → 1 ≤ 0:=fun h => (by cases h)
def mark (r : Nat) : Deferred:={ target:=.collected r, args:=#[] }
structure Mk (Z0 Z : Res) (ds : List Deferred) : Prop where
 le : Res.le Z0 Z
 mks : ∀ d ∈ ds, ∃ r, d = mark r ∧ Z.pin r (.deferred (some [])) ∧ ∀ O, ¬ Z0.pin r O
 nd : ds.Nodup
theorem Mk.nil (Z : Res) : Mk Z Z []:=⟨Res.le.refl Z, fun _ h => (by cases h), List.nodup_nil⟩
structure PostS (P : Program) (Z0 Z : Res) (w0 : World) (N : Nat) (ρ : Rho) (t : Tr V) (h : Hp) (a : Act) (w : World) (ρ' : Rho) (Z' : Res) : Prop where
 ext : Ext ρ ρ'
 tr : TR ρ' t a
 rr : @R _ Z' P w0 w h ρ'
 le : Res.le Z Z'
 df : Mk Z0 Z' a.defers
 sz : a.tmps.size = N
def Post (P : Program) (Z0 Z : Res) (w0 : World) (N : Nat) (ρ : Rho) (e : Ex) (t : Tr V) (h : Hp) : Exit → Act → World → Prop:=fun x a w => x = cx e ∧ ∃ ρ' Z', PostS P Z0 Z w0 N ρ t h a w ρ' Z'
theorem Post.ext {Z0 Z Z1 : Res} {w0 : World} {N : Nat} {ρ ρ1 : Rho} {e : Ex} {t : Tr V} {h : Hp} (he : Ext ρ ρ1) (hz : Res.le Z Z1) {x : Exit} {a : Act} {w : World} (hp : Post P Z0 Z1 w0 N ρ1 e t h x a w) : Post P Z0 Z w0 N ρ e t h x a w:=by
 obtain ⟨h1, ρ', Z', H⟩:=hp
 exact ⟨h1, ρ', Z', he.trans H.ext, H.tr, H.rr, hz.trans H.le, H.df, H.sz⟩
def RngOk (r : Option Nat) (c : Code) : Prop:=r = none ∨ noRng c = true
def CodeIH (P : Program) (n : Nat) : Prop := ∀ c t h e t' h', run P n (.code c) t h = .ok e t' h' → ∀ (r : Option Nat) (Z0 Z : Res) w0 a w ρ, TR ρ t a → @R _ Z P w0 w h ρ → Mk Z0 Z a.defers → okCode a.tmps.size c = true → RngOk r c →
 c.wpIn (Fw r) 0 P (Post P Z0 Z w0 a.tmps.size ρ e t' h') a w ∧ ∀ c', c = .loop c' → Code.roundsIn (Fw r) 0 P c' (Post P Z0 Z w0 a.tmps.size ρ e t' h') n a w
def OpsIH (P : Program) (n : Nat) : Prop := ∀ all l t h e t' h', run P n (.ops all l) t h = .ok e t' h' → ∀ (r : Option Nat) (Z0 Z : Res) w0 a w ρ, TR ρ t a → @R _ Z P w0 w h ρ → Mk Z0 Z a.defers → dstOk a.tmps.size l = true →
 ∀ k, (∀ j, j < l.length → l[j]? = all[k + j]?) → wpOpsIn (Fw r) 0 P all (Post P Z0 Z w0 a.tmps.size ρ e t' h') (List.range' k l.length) a w
def Named (P : Program) : Prop:=∀ (f : FuncId) (fn : Func), P.funcs[f]? = some fn → (fn.name == "runtime.NumGoroutine") = false
theorem resV_sim {ρ : Rho} {w0 w : World} {h : Hp} (H : R P w0 w h ρ) {t : Tr V} {a : Act} (ht : TR ρ t a) : ∀ {rs : List ResultVar} {vs : List V}, resV P h t rs = some vs →
 ∃ xs : List Value, (rs.mapM fun
  | .tmp t => pure (a.tmps.getD t undef)
  | .cell b t => do loadVar t (← asAddr (a.tmps.getD b undef)) : Sem (List Value)).run P w = .ok xs w ∧ RelL ρ vs xs
 | [], vs, he => by
  simp only [resV, Option.some.injEq] at he; subst he
  exact ⟨[], rfl, RelL.nil ρ⟩
 | r :: rs, vs, he => by
  simp only [resV] at he
  have first : ∀ v, resOne P h t r = some v → ∃ x, ((match r with
   | .tmp t => pure (a.tmps.getD t undef)
   | .cell b t => do loadVar t (← asAddr (a.tmps.getD b undef)) : Sem Value)).run P w = .ok x w ∧ Rel ρ v x:=by
   intro v hv
   cases r with
   | tmp i => exact ⟨_, rfl, ht i v hv⟩
   | cell b ty =>
    simp only [resOne] at hv
    cases hg : t.get b with
    | none => simp [hg] at hv
    | some u =>
     have hr:=ht b u hg
     cases u <;> simp only [hg, reduceCtorEq] at hv
     cases hx : a.tmps.getD b undef <;> rw [hx] at hr <;> cases hr
     obtain ⟨x, h1, h2⟩:=loadV_sim H.live (by assumption) hv
     refine ⟨x, ?_, h2⟩
     simp only [hx, asAddr, pure_bind]
     exact h1
  cases hf : resOne P h t r with
  | none => simp [hf] at he
  | some v =>
   simp only [hf] at he
   cases hrs : resV P h t rs with
   | none => simp [hrs] at he
   | some l =>
    simp only [hrs, Option.some.injEq] at he; subst he
    obtain ⟨x, h1, h2⟩:=first v hf
    obtain ⟨xs, h3, h4⟩:=resV_sim H ht hrs
    refine ⟨x :: xs, ?_, RelL.cons h2 h4⟩
    simp only [List.mapM_cons, Sem.run_bind]
    rw [h1]
    simp only [Result.andThen_ok]
    rw [h3]
    rfl
theorem results_sim {ρ : Rho} {w0 w : World} {h : Hp} (H : R P w0 w h ρ) {t : Tr V} {a : Act} (ht : TR ρ t a) {fn : Func} {vs : List V} (he : resV P h t fn.results.toList = some vs) :
 ∃ x, (results fn a.tmps).run P w = .ok x w ∧ Rel ρ (one vs) x:=by
 obtain ⟨xs, h1, h2⟩:=resV_sim H ht he
 have hm : ∀ x : Value, (if h : (⟨xs⟩ : Array Value).size = 1 then (⟨xs⟩ : Array Value)[0] else .tuple ⟨xs⟩) = x → (results fn a.tmps).run P w = .ok x w:=by
  intro x hx
  unfold results
  rw [Array.mapM_eq_mapM_toList]
  simp only [Sem.run_bind, Sem.run_map]
  erw [h1]
  simp only [Result.andThen_ok, Sem.run_pure]
  rw [← hx]
 cases vs with
 | nil =>
  have:=h2.nil_inv; subst this
  exact ⟨_, hm _ rfl, .tuple h2.1 h2.2⟩
 | cons v vs =>
  obtain ⟨x, r, rfl, h3, h4⟩:=h2.cons_inv
  cases vs with
  | nil =>
   have:=h4.nil_inv; subst this
   exact ⟨x, hm _ rfl, h3⟩
  | cons u vs =>
   obtain ⟨y, r2, rfl, h5, h6⟩:=h4.cons_inv
   exact ⟨_, hm _ (by rw [dif_neg (by simp)]), .tuple h2.1 h2.2⟩
theorem enter_tr {ρ : Rho} {as : List V} {xs : List Value} (h : RelL ρ as xs) (n : Nat) : TR ρ (Tr.nil.setL 0 as) { tmps := (⟨xs⟩ : Array Value) ++ Array.replicate n undef, defers := [] } := by
 intro i v hv
 rw [Tr.get_setL] at hv
 split at hv
 ·rename_i hi
  simp only [Nat.sub_zero] at hv
  obtain ⟨x, h1, h2⟩:=h.get hv
  have hlt : i < xs.length:=by rw [← h.1]; omega
  have : ((⟨xs⟩ : Array Value) ++ Array.replicate n undef).getD i undef = x:=by
   rw [Array.getD_eq_getD_getElem?, Array.getElem?_append_left (by simpa using hlt)]
   simp [h1]
  show Rel ρ v (((⟨xs⟩ : Array Value) ++ Array.replicate n undef).getD i undef)
  rw [this]; exact h2
 ·simp [Tr.get_nil] at hv
def CallR (P : Program) (f : FuncId) (xs : Array Value) (w : World) (Q : Ending → World → Prop) : Prop :=
 ((∃ fn, P.funcs[f]? = some fn ∧ fn.body.isNone = false) ∧ Calls P f xs w Q) ∨ ∃ x w', (callFunc f xs).run P w = .ok (.value x) w' ∧ Q (.returned x) w'
theorem CallR.mono {f : FuncId} {xs : Array Value} {w : World} {Q Q' : Ending → World → Prop} (h : CallR P f xs w Q) (hq : ∀ e w', Q e w' → Q' e w') : CallR P f xs w Q':=by
 rcases h with ⟨h1, h2⟩ | ⟨x, w', h1, h2⟩
 ·exact .inl ⟨h1, h2.mono hq⟩
 ·exact .inr ⟨x, w', h1, hq _ _ h2⟩
theorem CallR.text {f : FuncId} {xs : Array Value} {w : World} {Q : Ending → World → Prop} (h : CallR P f xs w Q) (hN : Named P) (hb : (P.funcs[f]?.bind (·.body)).isSome = true) :
 (∃ fn, P.funcs[f]? = some fn ∧ fn.body.isNone = false) ∧ Calls P f xs w Q:=by
 rcases h with h | ⟨x, w', h1, _⟩
 ·exact h
 ·exfalso
  cases hf : P.funcs[f]? with
  | none => simp [hf] at hb
  | some fn =>
   have hbody : fn.body.isNone = false:=by
    cases e : fn.body with
    | none => simp [hf, e] at hb
    | some c => rfl
   simp only [callFunc, Sem.run_bind, run_program, Result.andThen_ok, hf, hN f fn hf, Bool.false_eq_true, if_false, hbody, Sem.run_pure] at h1
   cases h1
abbrev DOp:=Option Tmp × Op
def okOps (a : Array Oper) (l : List DOp) : Prop:=a.toList.map (fun o => (o.dst, o.op, o.guard)) = l.map fun x => (x.1, x.2, none)
def It.ops0 (it : It) : List DOp:=[(some 4, .load it.ts (.tmp 1)), (some 5, .call ⟨.builtin .len, #[.tmp 4], #[it.ts]⟩), (some 6, .binOp .sub it.ti (.tmp 5) (.const (.int .i64 1)) it.ti), (some 3, .assign (.tmp 6))]
def It.ops1 (it : It) : List DOp:=[(some 7, .move (.tmp 3)), (some 8, .binOp .geq it.ti (.tmp 7) (.const (.int .i64 0)) it.ti)]
def It.ops3 (it : It) : List DOp:=[(some 12, .move (.tmp 3)), (some 13, .load it.ts (.tmp 1)), (some 14, .move (.tmp 3)), (some 15, .indexAddr it.ts (.tmp 13) (.tmp 14)), (some 16, .load it.te (.tmp 15))]
def It.ops2 (it : It) : List DOp:=[(some 9, .move (.tmp 3)), (some 10, .binOp .sub it.ti (.tmp 9) (.const (.int .i64 1)) it.ti), (some 3, .assign (.tmp 10))]
structure It.Ok (P : Program) (g : FuncId) (it : It) : Prop where
 code : ∃ (fn : Func) (a0 a1 a3 a2 : Array Oper) (r0 r1 r3 r2 b0 b1 : Nat) (tys : Array TypeId), P.funcs[g]? = some fn ∧ fn.ntmps = 19 ∧ fn.results = #[] ∧
  fn.body = some (.seq (.region r0 a0 false) (.block b0 (.loop (.seq (.seq (.region r1 a1 false) (.cond (.tmp 8) .skip (.exit b0))) (.seq (.block b1 (.seq (.region r3 a3 false) (.cond (.tmp 18) .ret .skip))) (.region r2 a2 false)))))) ∧
  okOps a0 it.ops0 ∧ okOps a1 it.ops1 ∧ okOps a3 ((some 11, .move (.tmp 0)) :: it.ops3 ++ [(some 17, .call ⟨.value (.tmp 11), #[.tmp 12, .tmp 16], tys⟩), (some 18, .unOp .not it.tb (.tmp 17))]) ∧ okOps a2 it.ops2
 ts : P.underlying it.ts = some (.slice it.te)
 ti : P.underlying it.ti = some (.int .i64)
 sz : Mid.sz P it.te = some it.s
 ag : aggT P it.te = some it.ag
class OrcOk (P : Program) [Orc] extends OrcFr P where
 itr : ∀ g it, Orc.itr g = some it → It.Ok P g it:=by intro _ _ h; cases h
 sound : ∀ f as h v h', Orc.fn f as h = some (v, h') → ∀ (Z : Res) w0 w ρ xs, R P w0 w h ρ → RelL ρ as xs →
  CallR P f ⟨xs⟩ w fun e w' => ∃ x ρ', e = .returned x ∧ Rel ρ' v x ∧ Ext ρ ρ' ∧ R P w0 w' h' ρ'
variable [OrcOk P]
theorem leaves_marks {fn : Func} {Z0 : Res} {w0 : World} {h : Hp} {ρ ρ' : Rho} {t : Tr V} {tmps : Array Value} {ds0 : List Deferred} {vs : List V} (hv : resV P h t fn.results.toList = some vs) (he : Ext ρ ρ') (ht : TR ρ' t ⟨tmps, ds0⟩) :
 ∀ (ds : List Deferred) {Z : Res} {w : World}, Mk Z0 Z ds → @R _ Z P w0 w h ρ' →
  LeavesInM (Fw none) 0 P fn tmps (fun e w' => ∃ x ρ', e = .returned x ∧ Rel ρ' (one vs) x ∧ Ext ρ ρ' ∧ @R _ Z0 P w0 w' h ρ') ds .returning w
 | [], Z, w, hm, H => by
  letI:=Z
  obtain ⟨u, h5, h6⟩:=results_sim (a:=⟨tmps, ds0⟩) H ht hv
  exact ⟨u, h5, u, ρ', rfl, h6, he, R.le hm.le H⟩
 | d :: ds, Z, w, hm, H => by
  obtain ⟨r, rfl, hr, hn⟩:=hm.mks _ List.mem_cons_self
  obtain ⟨h1, h2, _⟩:=@R.pn _ Z P _ _ _ _ H r _ hr
  have hlt : r < w.heap.size:=(Array.getElem?_eq_some_iff.1 h1).1
  have hput : ∀ j, j ≠ r → (w.putObj r (.deferred none)).heap[j]? = w.heap[j]? := fun j hj => by
   simp only [World.putObj, Array.getElem?_setIfInBounds]
   rw [if_neg (Ne.symm hj)]
  have hsz : (w.putObj r (.deferred none)).heap.size = w.heap.size:=by simp [World.putObj]
  refine ⟨by simp, .inl ⟨r, _, rfl, run_takeDeferred h1, ?_⟩⟩
  have hnd:=List.nodup_cons.1 hm.nd
  refine leaves_marks hv he ht ds (Z:=⟨Z.res, fun x O => Z.pin x O ∧ x ≠ r⟩) ⟨⟨hm.le.res, fun x O hx => ⟨hm.le.pin _ _ hx, fun e => by subst e; exact hn _ hx⟩⟩, fun d hd => ?_, hnd.2⟩ ?_
  ·obtain ⟨r', rfl, a, b⟩ := hm.mks _ (List.mem_cons_of_mem _ hd)
   exact ⟨r', rfl, ⟨a, fun e => by subst e; exact hnd.1 hd⟩, b⟩
  ·exact R.shut H hr ⟨rfl, rfl, rfl, by rw [hsz]; exact Nat.le_refl _, fun k hk => hput k (by omega)⟩ hsz hput (fun _ h => h) fun _ _ h => h
theorem noDefer {n : Nat} {t : Tr V} {h h' : Hp} {o : Oper} {v : V} (he : (bif isCall o then enterV P (run P n) h (calleeV t o) else execV P t h o.op) = some (v, h')) : ∀ c, o.op ≠ .defer c:=by
 intro c e
 obtain ⟨dst, op, type, pos, after, guard⟩:=o
 simp only at e
 subst e
 simp [isCall, callOp, execV, xk, ownOp, execC] at he
theorem call_sim {n : Nat} (IH : CodeIH P n) {w0 w : World} {h h' : Hp} {ρ : Rho} (H : R P w0 w h ρ) {f : FuncId} {as : List V} {xs : List Value} (ha : RelL ρ as xs) {v : V}
 (he : enterV P (run P n) h (some (f, as)) = some (v, h')) :
 CallR P f ⟨xs⟩ w fun e w' => ∃ x ρ', e = .returned x ∧ Rel ρ' v x ∧ Ext ρ ρ' ∧ R P w0 w' h' ρ':=by
 unfold enterV at he
 simp only at he
 cases ho : Orc.fn f as h with
 | some q =>
  obtain ⟨v', h''⟩:=q
  rw [ho] at he
  simp only [enterO, Option.some.injEq, Prod.mk.injEq] at he
  obtain ⟨rfl, rfl⟩:=he
  exact OrcOk.sound _ _ _ _ _ ho _ _ _ _ _ H ha
 | none =>
 rw [ho] at he
 simp only [enterO] at he
 unfold enterB at he
 cases hf : P.funcs[f]? with
 | none => simp [hf] at he
 | some fn =>
  simp only [hf, bodyV] at he
  cases hb : fn.body with
  | none => simp [hb] at he
  | some c =>
   simp only [hb] at he
   refine .inl ⟨⟨fn, hf, by rw [hb]; rfl⟩, ?_⟩
   cases hok : (Nat.ble as.length fn.ntmps && okCode fn.ntmps c) with
   | false => simp [hok] at he
   | true =>
    simp only [hok, cond_true] at he
    simp only [Bool.and_eq_true] at hok
    have hle:=Nat.le_of_ble_eq_true hok.1
    have hsz : ((⟨xs⟩ : Array Value) ++ Array.replicate (fn.ntmps - (⟨xs⟩ : Array Value).size) undef).size = fn.ntmps:=by
     have:=ha.1
     simp; omega
    cases hr : run P n (.code c) (Tr.nil.setL 0 as) h with
    | no => rw [hr] at he; simp [backV] at he
    | ok e t1 h1 =>
     rw [hr] at he
     have hres : ∀ (_ : e = .normal ∨ e = .ret), ∃ vs, resV P h1 t1 fn.results.toList = some vs ∧ one vs = v ∧ h1 = h':=by
      intro hee
      rcases hee with rfl | rfl <;> simp only [backV] at he <;> (split at he <;> first | (cases he; done) | (simp only [Option.some.injEq, Prod.mk.injEq] at he; exact ⟨_, by assumption, he.1, he.2⟩))
     have hw:=(IH c _ _ _ _ _ hr none Z Z w0 { tmps:=(⟨xs⟩ : Array Value) ++ Array.replicate (fn.ntmps - (⟨xs⟩ : Array Value).size) undef, defers:=[] } w ρ (enter_tr ha _) H (Mk.nil Z) (by simp only [hsz]; exact hok.2) (.inl rfl)).1
     refine callsFw.1 (callsIn_of_wp_marks (F:=Fw none) (n:=0) hf hb trivial (wpIn_mono hw ?_))
     rintro x a' w' ⟨hx, ρ', Z', S⟩
     have fin : (e = .normal ∨ e = .ret) → LeavesInM (Fw none) 0 P fn a'.tmps (fun e w' => ∃ x ρ', e = .returned x ∧ Rel ρ' v x ∧ Ext ρ ρ' ∧ @R _ Z P w0 w' h' ρ') a'.defers .returning w':=by
      intro hee
      obtain ⟨vs, h2, h3, h4⟩:=hres hee
      subst h3 h4
      exact leaves_marks h2 S.ext S.tr a'.defers S.df S.rr
     cases e with
     | normal => subst hx; exact fin (.inl rfl)
     | ret => subst hx; exact fin (.inr rfl)
     | exit id => simp [backV] at he
theorem opV_sim (hN : Named P) {n : Nat} (IH : CodeIH P n) {w0 w : World} {h h' : Hp} {ρ : Rho} {a : Act} {t : Tr V} {o : Oper} {v : V} (H : R P w0 w h ρ) (ho : OpR ρ a t o.op.operands.toList)
 (he : opV P (run P n) t h o = some (v, h')) {r : Option Nat} {K : Act → World → Prop} {Q : Exit → Act → World → Prop}
 (hK : ∀ x w' ρ', Rel ρ' v x → Ext ρ ρ' → R P w0 w' h' ρ' → K (a.put o.dst x) w') : o.wpIn (Fw r) 0 P a w K Q:=by
 unfold opV at he
 unfold Oper.wpIn
 refine ⟨fun _ _ => trivial, ?_⟩
 rw [Oper.semAt_eq _ _ _ (noDefer he)]
 cases hc : isCall o with
 | false =>
  simp only [hc, cond_false] at he
  obtain ⟨x, w', ρ', h1, h2, h3, h4⟩:=make_sim H ho hc he
  rcases h1 with h1 | ⟨h1, rfl⟩
  ·rw [h1, Oper.uponIn_value]; exact hK x w' ρ' h2 h3 h4
  ·rw [h1, Oper.uponIn_skip]; exact hK _ w' ρ' h2 h3 h4
 | true =>
  simp only [hc, cond_true] at he
  obtain ⟨dst, op, type, pos, after, guard⟩:=o
  cases op <;> try (simp [isCall, callOp] at hc; done)
  rename_i c
  obtain ⟨callee, args, tys⟩:=c
  cases callee <;> try (simp [isCall, callOp] at hc; done)
  rename_i f
  cases hcv : calleeV t { dst, op:=.call { callee:=.value f, args, argTypes:=tys }, type, pos, after, guard } with
  | none => simp [hcv, enterV] at he
  | some p =>
   obtain ⟨g, vs⟩:=p
   rw [hcv] at he
   unfold calleeV at hcv
   simp only at hcv
   cases hf : evalO t f with
   | none => simp [hf] at hcv
   | some fv =>
    have hrf:=ho f (by simp [Op.operands, Call.operands]) fv hf
    cases hl : evalL t args.toList with
    | none => cases fv <;> simp [hf, hl] at hcv
    | some as =>
     have hrl:=evalL_sim (ρ:=ρ) (a:=a) (t:=t) (fun y hy => ho y (by simp [Op.operands, Call.operands]; exact .inr (by simpa using hy))) hl
     cases fv <;> simp only [hf, hl, reduceCtorEq] at hcv
     rename_i g' first cap
     simp only [Option.some.injEq, Prod.mk.injEq] at hcv
     obtain ⟨rfl, rfl⟩:=hcv
     cases hfv : a.eval f <;> rw [hfv] at hrf <;> cases hrf
     rename_i xs ys hl1 hr1 hl2 hr2
     have hargs : RelL ρ (first ++ as ++ cap) (xs ++ args.toList.map a.eval ++ ys):=(RelL.append ⟨hl1, hr1⟩ hrl).append ⟨hl2, hr2⟩
     rcases call_sim IH H hargs he with ⟨⟨fn, hfn, hbody⟩, hcalls⟩ | ⟨x, w', hx, x', ρ', ex, hQ1, hQ2, hQ3⟩
     rotate_left
     ·have hrun : (execOp a.eval { dst, op := .call { callee := .value f, args, argTypes := tys }, type, pos, after, guard }).run P w = .ok (.value x) w' := by
       simp only [execOp, resolve, hfv, Deferred.ofValue, pure_bind, invoke]
       rw [← hx]
       congr 2
       apply Array.ext'; simp
      rw [hrun, Oper.uponIn_value]
      simp only [Ending.returned.injEq] at ex
      subst ex
      exact hK x w' ρ' hQ1 hQ2 hQ3
     have hrun : (execOp a.eval { dst, op := .call { callee := .value f, args, argTypes := tys }, type, pos, after, guard }).run P w = .ok (.enter g' ⟨xs ++ args.toList.map a.eval ++ ys⟩) w := by
      simp only [execOp, resolve, hfv, Deferred.ofValue, pure_bind, invoke, callFunc, Sem.run_bind, run_program, Result.andThen_ok, hfn, hN g' fn hfn, Bool.false_eq_true, if_false, hbody, Sem.run_pure]
      congr 2
      apply Array.ext'; simp
     rw [hrun, Oper.uponIn_enter]
     refine ⟨fw_depth r, callsFw.2 (hcalls.mono ?_)⟩
     rintro e w' ⟨x, ρ', rfl, h2, h3, h4⟩
     exact hK x w' ρ' h2 h3 h4
theorem want_sim {ρ : Rho} {a : Act} {t : Tr V} {all : Array Oper} {o : Oper} {b : Bool} (ht : ∀ j want d, o.guard = some (j, want) → ((all[j]?).bind (·.dst)) = some d → ∀ v, t.get d = some v → Rel ρ v (a.tmps.getD d undef))
 (he : wantO all t o = some b) : Region.wanted o (yielded all a.tmps) = b:=by
 unfold wantO at he
 unfold Region.wanted
 cases hg : o.guard with
 | none => simp only [hg, Option.some.injEq] at he; exact he
 | some p =>
  obtain ⟨j, want⟩:=p
  simp only [hg] at he ⊢
  cases hj : all[j]? with
  | none => simp [hj] at he
  | some o' =>
   simp only [hj] at he
   cases hd : o'.dst with
   | none => simp [hd] at he
   | some d =>
    simp only [hd] at he
    have hh:=ht j want d hg (by simp [hj, hd])
    have hy : yielded all a.tmps j = match a.tmps[d]? with
     | some (.bool b) => some b
     | _ => none:=by
     unfold yielded
     simp only [hj, Option.bind_some, hd]
     rfl
    cases hv : t.get d with
    | none => simp [hv] at he
    | some v =>
     have hr:=hh v hv
     simp only [hv] at he
     cases v <;> try (cases he; done)
     ·rename_i q
      simp only [Option.some.injEq] at he
      cases hx : a.tmps.getD d undef <;> rw [hx] at hr <;> cases hr
      have hx' : a.tmps[d]? = some (.bool q):=by
       rw [Array.getD_eq_getD_getElem?] at hx
       cases hz : a.tmps[d]? with
       | none => rw [hz] at hx; simp [undef] at hx
       | some z => rw [hz] at hx; simp at hx; rw [hx]
      rw [hy, hx', ← he]
      cases q <;> cases want <;> rfl
     ·rename_i vs
      cases vs <;> try (cases he; done)
      simp only [Option.some.injEq] at he
      cases hx : a.tmps.getD d undef <;> rw [hx] at hr <;> cases hr
      rename_i hl _
      rw [hy, ← he]
      cases hz : a.tmps[d]? with
      | none => rfl
      | some z =>
       rw [Array.getD_eq_getD_getElem?, hz] at hx
       simp at hx; rw [hx]; rfl
theorem dstOk_cons {n : Nat} {o : Oper} {l : List Oper} (h : dstOk n (o :: l) = true) : (∀ i, o.dst = some i → i < n) ∧ dstOk n l = true:=by
 simp only [dstOk, Bool.and_eq_true] at h
 refine ⟨fun i hi => ?_, h.2⟩
 have:=h.1
 rw [hi] at this
 exact Nat.le_of_ble_eq_true this
theorem wp_mono2 {F : Fence} {n : Nat} {o : Oper} {a : Act} {w : World} {K K' : Act → World → Prop} {Q Q' : Exit → Act → World → Prop} (hk : ∀ a w, K a w → K' a w) (hq : ∀ x a w, Q x a w → Q' x a w) (h : o.wpIn F n P a w K Q) :
 o.wpIn F n P a w K' Q':=by
 unfold Oper.wpIn at *
 refine ⟨h.1, ?_⟩
 have h:=h.2
 have lets : LetsOut Q → LetsOut Q':=fun ⟨a0, w0, h0⟩ => ⟨a0, w0, hq _ _ _ h0⟩
 generalize (o.semAt F.round a.eval).run P w = r at *
 cases r with
 | ok n w' =>
  cases n <;> simp only [Oper.uponIn] at h ⊢ <;>
   first
    | exact hk _ _ h
    | exact ⟨h.1, CallsIn.mono h.2 (fun e w'' he => by
     cases e with
     | returned v => exact hk _ _ he
     | panicked c => exact hq _ _ _ he
     | outgrown => exact lets he)⟩
    | exact ⟨h.1, RowsIn.mono h.2 (fun _ _ he => hk _ _ he)⟩
    | exact ⟨h.1, RoundIn.mono h.2 (fun e w'' he => by
     cases e with
     | returned v => exact hk _ _ he
     | panicked c => exact hq _ _ _ he
     | outgrown => exact lets he)⟩
 | halt x w' =>
  cases x <;> simp only [Oper.uponIn] at h ⊢
  exact hq _ _ _ h
theorem wpOps_mono' {F : Fence} {n : Nat} {ops : Array Oper} {Q Q' : Exit → Act → World → Prop} : ∀ {l : List Nat} {a : Act} {w : World}, wpOpsIn F n P ops Q l a w → (∀ x a w, Q x a w → Q' x a w) → wpOpsIn F n P ops Q' l a w
 | [], a, w, h, hq => hq _ _ _ h
 | i :: l, a, w, h, hq => by
  rw [wpOpsIn_cons] at h ⊢
  unfold wpOpIn at *
  cases ho : ops[i]? with
  | none => simp only [ho] at h ⊢; exact wpOps_mono' h hq
  | some o =>
   simp only [ho] at h ⊢
   split
   ·rename_i hw
    rw [if_pos hw] at h
    exact wp_mono2 (fun a w hh => wpOps_mono' hh hq) hq h
   ·rename_i hw
    rw [if_neg hw] at h
    exact ⟨h.1, wpOps_mono' h.2 hq⟩
theorem ops_step (hN : Named P) {n : Nat} (IH : CodeIH P n) (IO : OpsIH P n) : OpsIH P (n + 1):=by
 intro all l t h e t' h' he r Z0 Z w0 a w ρ ht H hdf hdo k hk
 have he' : step P (run P n) (.ops all l) t h = .ok e t' h':=he
 cases l with
 | nil =>
  simp only [step, Out.ok.injEq] at he'
  obtain ⟨rfl, rfl, rfl⟩:=he'
  exact ⟨rfl, ρ, Z, Ext.refl _, ht, H, Res.le.refl Z, hdf, rfl⟩
 | cons o l =>
  obtain ⟨hdst, hdl⟩:=dstOk_cons hdo
  have hok : all[k]? = some o:=by have:=hk 0 (by simp); simpa using this.symm
  have hk' : ∀ j, j < l.length → l[j]? = all[(k + 1) + j]? := fun j hj => by
   have:=hk (j + 1) (by simp; omega)
   simp only [List.getElem?_cons_succ] at this
   rw [this]; congr 1; omega
  simp only [step] at he'
  have hr' : List.range' k (o :: l).length = k :: List.range' (k + 1) l.length:=by simp [List.range'_succ]
  rw [hr', wpOpsIn_cons]
  unfold wpOpIn
  simp only [hok]
  cases hw : wantO all t o with
  | none => simp [hw, stepOps] at he'
  | some b =>
   rw [hw] at he'
   have hwt:=want_sim (ρ:=ρ) (a:=a) (t:=t) (all:=all) (o:=o) (fun j want d _ _ v hv => ht d v hv) hw
   cases b with
   | false =>
    simp only [stepOps] at he'
    rw [if_neg (by rw [hwt]; simp)]
    refine ⟨fun _ _ => trivial, ?_⟩
    have:=IO all l _ _ _ _ _ he' r Z0 Z w0 (a.put o.dst undef) w ρ (ht.put (rel_unit ρ) o.dst hdst) H (by rw [put_defers]; exact hdf) (by rw [put_size]; exact hdl) (k + 1) hk'
    rw [put_size] at this
    exact this
   | true =>
    simp only [stepOps] at he'
    rw [if_pos hwt]
    cases hop : opV P (run P n) t h o with
    | none => simp [hop, goOps] at he'
    | some p =>
     obtain ⟨v, h1⟩:=p
     simp only [hop, goOps] at he'
     letI:=Z
     refine opV_sim hN IH H (TR.op H.glob ht _) hop ?_
     intro x w' ρ' h2 h3 h4
     have:=IO all l _ _ _ _ _ he' r Z0 Z w0 (a.put o.dst x) w' ρ' ((ht.ext h3).put h2 o.dst hdst) h4 (by rw [put_defers]; exact hdf) (by rw [put_size]; exact hdl) (k + 1) hk'
     rw [put_size] at this
     exact wpOps_mono' this (fun x a w hp => Post.ext h3 (Res.le.refl Z) hp)
end
end Go.Mid
end
