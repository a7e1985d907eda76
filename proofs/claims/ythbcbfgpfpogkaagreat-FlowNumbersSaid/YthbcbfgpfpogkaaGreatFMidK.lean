/- What a run of the small machine leaves as it was: the blocks below its 'low' mark. -/
import Derived.Test.YthbcbfgpfpogkaaGreatFMidJ
set_option linter.all false
set_option warn.classDefReducibility false
namespace Go.Mid
variable {P : Program} [Orc] [Z : Res]

theorem vh_h {h h' : Hp} {x : Option V} {v : V} (e : vh h x = some (v, h')) : h' = h := (vh_some e).1

theorem exec_frC {t : Tr V} {h h' : Hp} {o : Op} {v : V} (he : execC P t h o = some (v, h')) : Fr h h' := by
  cases o <;> simp only [execC, reduceCtorEq] at he
  case move => rw [vh_h he]; exact Fr.refl _
  case assign => rw [vh_h he]; exact Fr.refl _
  case pick =>
    unfold exPick at he
    (repeat' split at he) <;> first | (cases he; done) | (rw [vh_h he]; exact Fr.refl _)
  case alloc =>
    unfold exAlloc at he
    split at he
    · simp only [Option.some.injEq, Prod.mk.injEq] at he; obtain ⟨_, rfl⟩ := he; exact Fr.row _ _ _ _
    · cases he
  case box =>
    unfold exBox at he
    split at he
    · simp only [Option.some.injEq, Prod.mk.injEq] at he; obtain ⟨_, rfl⟩ := he; exact Fr.row _ _ _ _
    · cases he
  case build =>
    unfold exBuild at he
    (repeat' split at he) <;> first
      | (cases he; done)
      | (unfold bld at he
         split at he
         · unfold bldStruct at he
           (repeat' split at he) <;> first | (cases he; done) | (simp only [Option.some.injEq, Prod.mk.injEq] at he; obtain ⟨_, rfl⟩ := he; exact Fr.refl _)
         · split at he
           · unfold bldArr at he
             split at he
             · simp only [Option.some.injEq, Prod.mk.injEq] at he; obtain ⟨_, rfl⟩ := he; exact Fr.refl _
             · cases he
           · cases he
         · cases he)
  case buildSlice =>
    unfold exBuildSlice at he
    (repeat' split at he) <;> first
      | (cases he; done)
      | (unfold bldSl at he
         simp only [Bool.cond_eq_ite] at he
         (repeat' split at he) <;> first | (cases he; done) | (simp only [Option.some.injEq, Prod.mk.injEq] at he; obtain ⟨_, rfl⟩ := he; exact Fr.row _ _ _ _))
  case load =>
    unfold exLoad at he
    split at he
    · rw [vh_h he]; exact Fr.refl _
    · cases he
  case store =>
    unfold exStore at he
    (repeat' split at he) <;> first
      | (cases he; done)
      | skip
    rename_i hst
    simp only [Option.some.injEq, Prod.mk.injEq] at he; obtain ⟨_, rfl⟩ := he
    unfold storeV at hst
    split at hst
    · simp only [Option.some.injEq] at hst; subst hst; exact Fr.put _ _ _
    · cases hst
  case nilCheck =>
    unfold exNil at he
    split at he <;> first | (cases he; done) | (simp only [Option.some.injEq, Prod.mk.injEq] at he; obtain ⟨_, rfl⟩ := he; exact Fr.refl _)
  case binOp =>
    unfold exBin at he
    (repeat' split at he) <;> first | (cases he; done) | (rw [vh_h he]; exact Fr.refl _)
  case unOp =>
    unfold exUn at he
    split at he <;> first | (cases he; done) | (rw [vh_h he]; exact Fr.refl _)
  case convert =>
    unfold exConv at he
    (repeat' split at he) <;> first | (cases he; done) | (simp only [Option.some.injEq, Prod.mk.injEq] at he; obtain ⟨_, rfl⟩ := he; exact Fr.refl _)
  case makeInterface =>
    unfold exIface at he
    (repeat' split at he) <;> first | (cases he; done) | (simp only [Option.some.injEq, Prod.mk.injEq] at he; obtain ⟨_, rfl⟩ := he; exact Fr.refl _)
  case makeFunc =>
    unfold exFunc at he
    (repeat' split at he) <;> first | (cases he; done) | (simp only [Option.some.injEq, Prod.mk.injEq] at he; obtain ⟨_, rfl⟩ := he; exact Fr.refl _)
  case makeMap ty r =>
    cases r <;> simp only [reduceCtorEq, Option.some.injEq, Prod.mk.injEq] at he
    obtain ⟨_, rfl⟩ := he; exact Fr.new _ _
  case makeSlice =>
    unfold exMake at he
    (repeat' split at he) <;> first
      | (cases he; done)
      | (unfold exMakeSlice mkSl at he
         simp only [Bool.cond_eq_ite] at he
         (repeat' split at he) <;> first | (cases he; done) | (simp only [Option.some.injEq, Prod.mk.injEq] at he; obtain ⟨_, rfl⟩ := he; exact Fr.row _ _ _ _))
  case slice ty x lo hi mx =>
    cases mx <;> simp only [reduceCtorEq] at he
    unfold exSlice at he
    (repeat' split at he) <;> first
      | (cases he; done)
      | (simp only [Option.some.injEq, Prod.mk.injEq] at he; obtain ⟨_, rfl⟩ := he; exact Fr.refl _)
      | (unfold slStr at he
         simp only [Bool.cond_eq_ite] at he
         (repeat' split at he) <;> first | (cases he; done) | (simp only [Option.some.injEq, Prod.mk.injEq] at he; obtain ⟨_, rfl⟩ := he; exact Fr.refl _))
      | (unfold slSl slS at he
         simp only [Bool.cond_eq_ite] at he
         (repeat' split at he) <;> first | (cases he; done) | (simp only [Option.some.injEq, Prod.mk.injEq] at he; obtain ⟨_, rfl⟩ := he; exact Fr.refl _))
  case fieldAddr =>
    unfold exFieldAddr at he
    simp only [Bool.cond_eq_ite] at he
    (repeat' split at he) <;> first | (cases he; done) | (simp only [Option.some.injEq, Prod.mk.injEq] at he; obtain ⟨_, rfl⟩ := he; exact Fr.refl _)
  case field =>
    unfold exField at he
    (repeat' split at he) <;> first | (cases he; done) | (rw [vh_h he]; exact Fr.refl _)
  case indexAddr =>
    unfold exIndexAddr at he
    simp only [Bool.cond_eq_ite] at he
    (repeat' split at he) <;> first | (cases he; done) | (simp only [Option.some.injEq, Prod.mk.injEq] at he; obtain ⟨_, rfl⟩ := he; exact Fr.refl _)
  case index =>
    unfold exIndex at he
    simp only [Bool.cond_eq_ite] at he
    (repeat' split at he) <;> first | (cases he; done) | (rw [vh_h he]; exact Fr.refl _) | (simp only [Option.some.injEq, Prod.mk.injEq] at he; obtain ⟨_, rfl⟩ := he; exact Fr.refl _)
  case lookup =>
    unfold exLookup at he
    simp only [Bool.cond_eq_ite] at he
    (repeat' split at he) <;> first
      | (cases he; done)
      | (unfold lookIn lookZ at he
         (repeat' split at he) <;> first | (cases he; done) | (simp only [Option.some.injEq, Prod.mk.injEq] at he; obtain ⟨_, rfl⟩ := he; exact Fr.refl _))
  case mapUpdate =>
    unfold exMapUpdate at he
    simp only [Bool.cond_eq_ite] at he
    (repeat' split at he) <;> first
      | (cases he; done)
      | (unfold mapPut at he
         (repeat' split at he) <;> first | (cases he; done) | (simp only [Option.some.injEq, Prod.mk.injEq] at he; obtain ⟨_, rfl⟩ := he; exact Fr.put _ _ _))
  case extract =>
    unfold exExtract at he
    split at he <;> first | (cases he; done) | (rw [vh_h he]; exact Fr.refl _)
  case call c =>
    unfold exCall at he
    split at he
    · unfold exBuiltin at he
      split at he
      · unfold exLen at he
        (repeat' split at he) <;> first | (cases he; done) | (simp only [Option.some.injEq, Prod.mk.injEq] at he; obtain ⟨_, rfl⟩ := he; exact Fr.refl _)
      · have app : ∀ {elem : TypeId} {s x : V}, appendV P h elem s x = some (v, h') → Fr h h' := by
          intro elem s x he
          unfold appendV at he
          simp only [Bool.cond_eq_ite] at he
          (repeat' split at he) <;> first
            | (cases he; done)
            | skip
          unfold appGo at he
          simp only [Bool.cond_eq_ite] at he
          (repeat' split at he) <;> first
            | (cases he; done)
            | (unfold appNil at he
               simp only [Bool.cond_eq_ite] at he
               (repeat' split at he) <;> first
                 | (cases he; done)
                 | (simp only [Option.some.injEq, Prod.mk.injEq] at he; obtain ⟨_, rfl⟩ := he; first | exact Fr.refl _ | exact Fr.row _ _ _ _))
            | (unfold appSl at he
               simp only [Bool.cond_eq_ite] at he
               (repeat' split at he) <;> first
                 | (cases he; done)
                 | (unfold appIn at he
                    simp only [Option.some.injEq, Prod.mk.injEq, Bool.cond_eq_ite] at he; obtain ⟨_, rfl⟩ := he
                    split <;> first | exact Fr.refl _ | exact Fr.put _ _ _)
                 | (unfold appGrow at he
                    simp only [Option.some.injEq, Prod.mk.injEq] at he; obtain ⟨_, rfl⟩ := he
                    exact (Fr.put _ _ _).trans (Fr.new _ _))
                 | (unfold appNew at he
                    split at he
                    · simp only [Option.some.injEq, Prod.mk.injEq] at he; obtain ⟨_, rfl⟩ := he; exact Fr.row _ _ _ _
                    · cases he))
        unfold exAppend at he
        (repeat' split at he) <;> first | (cases he; done) | exact app he
      · cases he
    · cases he

theorem exec_fr [OpOk P] {t : Tr V} {h h' : Hp} {o : Op} {v : V} (he : execV P t h o = some (v, h')) : Fr h h' := by
  by_cases hx : xk o = 0
  · rw [execV_zero hx] at he; exact exec_frC he
  · rw [execV_ne hx] at he
    obtain ⟨as, h1, h2⟩ := execX_some he
    exact (OpOk.make (P := P) _ _ _ _ _ h2 (by rw [← (xk_ne hx).2]; exact hx)).1
theorem stores_fr : ∀ (l : List (Nat × Ob)) (h : Hp), Fr h (stores l h)
  | [], h => Fr.refl h
  | (b, ob) :: l, h => (Fr.put h b ob).trans (stores_fr l _)

/-- one more operation's step keeps the frame. -/
def RnFr (r : Rn) : Prop := ∀ k t h e t' h', r k t h = .ok e t' h' → Fr h h'
/-- what is known of outside functions leaves blocks below its 'low' mark. -/
class OrcFr (P : Program) [Orc] extends OpOk P where
  fr : ∀ f as h v h', Orc.fn f as h = some (v, h') → Fr h h'
variable [OrcFr P]
theorem op_fr {r : Rn} (hr : RnFr r) {t : Tr V} {h h' : Hp} {o : Oper} {v : V} (he : opV P r t h o = some (v, h')) : Fr h h' := by
  unfold opV at he
  cases hc : isCall o with
  | false => simp only [hc, cond_false] at he; exact exec_fr he
  | true =>
    simp only [hc, cond_true] at he
    unfold enterV at he
    split at he
    rotate_left
    · cases he
    rename_i f as' _
    cases ho : Orc.fn f as' h with
    | some q =>
      obtain ⟨v', h''⟩ := q
      rw [ho] at he
      simp only [enterO, Option.some.injEq, Prod.mk.injEq] at he
      obtain ⟨rfl, rfl⟩ := he
      exact OrcFr.fr P _ _ _ _ _ ho
    | none =>
    rw [ho] at he
    simp only [enterO] at he
    unfold enterB at he
    (repeat' split at he) <;> first | (cases he; done) | skip
    unfold bodyV at he
    simp only [Bool.cond_eq_ite] at he
    (repeat' split at he) <;> first | (cases he; done) | skip
    unfold backV at he
    split at he
    · cases he
    · rename_i hrun _
      split at he
      · simp only [Option.some.injEq, Prod.mk.injEq] at he; obtain ⟨_, rfl⟩ := he
        exact hr _ _ _ _ _ _ (by assumption)
      · cases he
    · cases he

theorem hdPlain_fr {r : Rn} (hr : RnFr r) {ms : Tr Nat} {h0 h : Hp} {s s' : Hd} {o : Oper} {i : Nat} (hs : ∀ m h, s.hs.get m = some h → Fr h0 h) (hg : s.hs.get (maxNeed s.need o.after.toList) = some h)
    (he : hdPlain P ms r s o i (maxNeed s.need o.after.toList) h = some s') : ∀ m h, s'.hs.get m = some h → Fr h0 h := by
  unfold hdPlain at he
  simp only [Bool.cond_eq_ite] at he
  split at he
  · split at he
    · split at he
      · rename_i hmc
        unfold hdMk at he
        simp only [Bool.cond_eq_ite] at he
        split at he
        · unfold hdMade at he
          simp only [Bool.cond_eq_ite] at he
          split at he
          · rename_i v h' hop
            split at he
            · rename_i hle
              have hle := Nat.le_of_ble_eq_true hle
              simp only [Option.some.injEq] at he; subst he
              intro m k hk
              rw [Tr.get_set] at hk
              split at hk
              · simp only [Option.some.injEq] at hk; subst hk
                have f := op_fr hr hop
                have f0 := hs _ _ hg
                refine ⟨f0.low, Nat.le_trans f0.n f.n, fun b h1 h2 => ?_⟩
                have hbn : b < h.n := Nat.lt_of_lt_of_le h1 f0.n
                rw [f.get b hbn (Nat.lt_of_lt_of_le hbn hle)]
                exact f0.get b h1 h2
              · exact hs m k hk
            · cases he
          · cases he
        · unfold hdWrote at he
          simp only [Bool.cond_eq_ite] at he
          split at he
          · rename_i v h' hop
            split at he
            · simp only [Option.some.injEq] at he; subst he
              intro m k hk
              rw [Tr.get_set] at hk
              split at hk
              · simp only [Option.some.injEq] at hk; subst hk
                have f := op_fr hr hop
                have f0 := hs _ _ hg
                refine ⟨Nat.le_trans (Nat.min_le_left _ _) f0.low, Nat.le_trans f0.n f.n, fun b h1 h2 => ?_⟩
                have h2' : b < min h.low h'.low := h2
                have hbn : b < h.n := Nat.lt_of_lt_of_le h1 f0.n
                rw [f.get b hbn (by omega)]
                exact f0.get b h1 (by omega)
              · exact hs m k hk
            · cases he
          · cases he
      · cases he
    · unfold hdRead at he
      split at he
      · simp only [Bool.cond_eq_ite] at he
        split at he
        · simp only [Option.some.injEq] at he; subst he; exact hs
        · cases he
      · cases he
  · cases he
theorem hdOne_fr {r : Rn} (hr : RnFr r) {ms : Tr Nat} {h0 : Hp} {s s' : Hd} {o : Oper} {i : Nat} {b : Option Bool} (hs : ∀ m h, s.hs.get m = some h → Fr h0 h) (he : hdOne P ms r s o i b = some s') :
    ∀ m h, s'.hs.get m = some h → Fr h0 h := by
  unfold hdOne at he
  split at he
  · cases he
  · simp only [Option.some.injEq] at he; subst he; exact hs
  · unfold hdDo at he
    split at he
    · cases he
    · rename_i h hg
      split at he
      · unfold hdStore at he
        (repeat' split at he) <;> first | (cases he; done) | skip
        unfold hdPut at he
        simp only [Bool.cond_eq_ite] at he
        (repeat' split at he) <;> first | (cases he; done) | (simp only [Option.some.injEq] at he; subst he; exact hs)
      · unfold hdFlo at he
        split at he
        · exact hdPlain_fr hr hs hg he
        · simp only [Option.some.injEq] at he; subst he; exact hs
        · cases he
      · unfold hdFloS at he
        split at he
        · exact hdPlain_fr hr hs hg he
        · unfold hdFloC at he
          split at he
          · simp only [Bool.cond_eq_ite] at he
            split at he
            · simp only [Option.some.injEq] at he; subst he; exact hs
            · cases he
          · cases he
        · cases he
      · exact hdPlain_fr hr hs hg he
theorem consF_some {x : Nat × V} {y : Option (Hp × List (Nat × V))} {h : Hp} {l : List (Nat × V)} (e : consF x y = some (h, l)) : ∃ l', y = some (h, l') ∧ l = x :: l' := by
  cases y with
  | none => cases e
  | some p => obtain ⟨h', l'⟩ := p; simp only [consF, Option.some.injEq, Prod.mk.injEq] at e; obtain ⟨rfl, rfl⟩ := e; exact ⟨l', rfl, rfl⟩
theorem flo0_fr {ms : Tr Nat} {all : List Oper} {t : Tr V} : ∀ (l : List Oper) (i : Nat) (h : Hp) {h' : Hp} {n : List (Nat × V)}, flo0 P ms all t l i h = some (h', n) → Fr h h'
  | [], _, h, h', n, e => by simp only [flo0, Option.some.injEq, Prod.mk.injEq] at e; rw [← e.1]; exact Fr.refl h
  | o :: l, i, h, h', n, e => by
    rw [flo0] at e
    split at e
    · obtain ⟨l', e', _⟩ := consF_some e
      exact (Fr.row _ _ _ _).trans (flo0_fr l (i + 1) _ e')
    · split at e
      · split at e
        · obtain ⟨l', e', _⟩ := consF_some e
          exact (Fr.row _ _ _ _).trans (flo0_fr l (i + 1) _ e')
        · cases e
      · exact flo0_fr l (i + 1) h e
theorem hdAll_fr {r : Rn} (hr : RnFr r) {ms : Tr Nat} {all : Array Oper} {h0 : Hp} : ∀ {l : List Oper} {i : Nat} {s s' : Hd}, (∀ m h, s.hs.get m = some h → Fr h0 h) → hdAll P ms r all l i (some s) = some s' →
    ∀ m h, s'.hs.get m = some h → Fr h0 h
  | [], i, s, s', hs, he => by simp only [hdAll, Option.some.injEq] at he; subst he; exact hs
  | o :: l, i, s, s', hs, he => by
    simp only [hdAll] at he
    cases h1 : hdOne P ms r s o i (wantO all s.t o) with
    | none => rw [h1] at he; cases l <;> simp [hdAll] at he
    | some s1 => rw [h1] at he; exact hdAll_fr hr (hdOne_fr hr hs h1) he

theorem roundsR_fr {r : Rn} (hr : RnFr r) {it : It} {x y : Tmp} {a b : Code} {t : Tr V} {p : V} : ∀ {n : Nat} {h : Hp} {e : Ex} {t' : Tr V} {h' : Hp}, roundsR it r x y a b t p n h = .ok e t' h' → Fr h h'
  | 0, h, e, t', h', he => by
    simp only [roundsR, Out.ok.injEq] at he
    obtain ⟨_, _, rfl⟩ := he; exact Fr.refl _
  | n + 1, h, e, t', h', he => by
    simp only [roundsR] at he
    cases hel : rowEl it h p n with
    | none => rw [hel] at he; cases he
    | some v =>
      rw [hel] at he
      simp only [roundR] at he
      cases h1 : r (.code a) ((t.set x (.int .i64 (.ofNat n))).set y v) h with
      | no => rw [h1] at he; simp [bodyRng, endRng] at he
      | ok e1 t1 k1 =>
        rw [h1] at he
        cases e1 with
        | normal =>
          simp only [bodyRng] at he
          cases h2 : r (.code b) t1 k1 with
          | no => rw [h2] at he; simp [endRng] at he
          | ok e2 t2 k2 =>
            rw [h2] at he
            have f := (hr _ _ _ _ _ _ h1).trans (hr _ _ _ _ _ _ h2)
            cases e2 <;> simp only [endRng] at he
            · exact f.trans (roundsR_fr hr he)
            all_goals (simp only [Out.ok.injEq] at he; obtain ⟨_, _, rfl⟩ := he; exact f)
        | exit id => simp [bodyRng, endRng] at he
        | ret => simp [bodyRng, endRng] at he
theorem rngR_some {r : Rn} {ps : List Tmp} {a b : Code} {t : Tr V} {h : Hp} {v : Option V} {e : Ex} {t' : Tr V} {h' : Hp} (he : rngR r ps a b t h v = .ok e t' h') :
    ∃ g p x y it n, v = some (.func g [] [p]) ∧ ps = [x, y] ∧ Orc.itr g = some it ∧ rowLen h p = some n ∧ n ≤ big ∧ roundsR it r x y a b t p n h = .ok e t' h' := by
  unfold rngR at he
  split at he
  · rename_i g p
    split at he
    · rename_i x y
      cases hi : Orc.itr g with
      | none => rw [hi] at he; cases he
      | some it =>
        rw [hi] at he
        simp only [rngF] at he
        cases hl : rowLen h p with
        | none => rw [hl] at he; cases he
        | some n =>
          rw [hl] at he
          simp only [rowsR] at he
          cases hb : Nat.ble n big with
          | false => rw [hb] at he; cases he
          | true => rw [hb] at he; exact ⟨g, p, x, y, it, n, rfl, rfl, hi, hl, Nat.le_of_ble_eq_true hb, he⟩
    · cases he
  · cases he
theorem step_fr {r : Rn} (hr : RnFr r) : RnFr (step P r) := by
  intro k t h e t' h' he
  unfold step at he
  split at he
  · unfold stepCode at he
    split at he
    · simp only [Out.ok.injEq] at he; obtain ⟨_, _, rfl⟩ := he; exact Fr.refl _
    · unfold regCode at he
      split at he
      · exact hr _ _ _ _ _ _ he
      · unfold drawCode at he
        simp only [Bool.cond_eq_ite] at he
        split at he
        · unfold drawHd at he
          split at he
          rotate_left
          · cases he
          rename_i hF
          unfold tailCode at he
          split at he
          · rename_i s hs
            split at he
            · rename_i h1 hg
              have f := hdAll_fr (P := P) (h0 := h) hr (fun m k hk => by
                rw [Tr.get_set] at hk
                split at hk
                · simp only [Option.some.injEq] at hk; subst hk; exact flo0_fr _ _ _ hF
                · simp [Tr.get_nil] at hk) hs _ _ hg
              exact (f.trans (stores_fr _ _)).trans (hr _ _ _ _ _ _ he)
            · cases he
          · cases he
        · cases he
    · rename_i a b
      unfold thenCode at he
      split at he
      · rename_i h1; exact (hr _ _ _ _ _ _ h1).trans (hr _ _ _ _ _ _ he)
      · exact hr _ _ _ _ _ _ he
    · unfold ifCode at he
      split at he <;> first | (cases he; done) | exact hr _ _ _ _ _ _ he
    · unfold inBlk at he
      split at he
      · rename_i h1
        simp only [Bool.cond_eq_ite] at he
        split at he <;> (simp only [Out.ok.injEq] at he; obtain ⟨_, _, rfl⟩ := he; exact hr _ _ _ _ _ _ h1)
      · exact hr _ _ _ _ _ _ he
    · unfold thenCode at he
      split at he
      · rename_i h1; exact (hr _ _ _ _ _ _ h1).trans (hr _ _ _ _ _ _ he)
      · exact hr _ _ _ _ _ _ he
    · simp only [Out.ok.injEq] at he; obtain ⟨_, _, rfl⟩ := he; exact Fr.refl _
    · simp only [Out.ok.injEq] at he; obtain ⟨_, _, rfl⟩ := he; exact Fr.refl _
    · exact hr _ _ _ _ _ _ he
    · simp only [Out.ok.injEq] at he; obtain ⟨_, _, rfl⟩ := he; exact Fr.refl _
    · obtain ⟨_, _, _, _, _, _, _, _, _, _, _, he⟩ := rngR_some he
      exact roundsR_fr hr he
    · cases he
  · split at he
    · simp only [Out.ok.injEq] at he; obtain ⟨_, _, rfl⟩ := he; exact Fr.refl _
    · unfold stepOps at he
      split at he
      · unfold goOps at he
        split at he
        · rename_i hop
          exact (op_fr hr hop).trans (hr _ _ _ _ _ _ he)
        · cases he
      · exact hr _ _ _ _ _ _ he
      · cases he
theorem run_fr : ∀ n, RnFr (run P n)
  | 0 => fun k t h e t' h' he => by cases he
  | n + 1 => step_fr (run_fr n)
end Go.Mid
