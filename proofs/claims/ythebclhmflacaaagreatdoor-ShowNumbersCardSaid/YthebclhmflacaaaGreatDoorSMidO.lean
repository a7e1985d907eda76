/- The head of a region that draws its order: any order comes to what the text's order came to. -/
import Derived.Test.YthebclhmflacaaaGreatDoorSMidN
set_option linter.all false
namespace Go.Mid
open Go.RowKit
variable {P : Program} [Orc] [OrcOk P]

theorem vh_map (h h2 : Hp) (x : Option V) : vh h2 x = (vh h x).map fun p => (p.1, h2) := by cases x <;> rfl

/-- an operation that looks at no memory. -/
theorem obliv_readC {t : Tr V} {o : Oper} (ho : oblivC o.op = true) (hm : makesC o.op = false) (h h2 : Hp) : execC P t h2 o.op = (execC P t h o.op).map fun p => (p.1, h2) := by
  obtain ⟨dst, op, type, pos, after, guard⟩ := o
  cases op <;> simp only [oblivC, Bool.false_eq_true] at ho <;> simp only [makesC, Bool.true_eq_false] at hm <;> simp only [execC]
  case move x => exact vh_map _ _ _
  case assign x => exact vh_map _ _ _
  case pick c x y =>
    unfold exPick
    generalize evalO t c = q
    (cases q <;> try rfl)
    rename_i v
    (cases v <;> try rfl)
    rename_i b
    cases b <;> exact vh_map _ _ _
  case build ty parts =>
    unfold exBuild
    generalize evalP t parts.toList = q
    (cases q <;> try rfl)
    generalize zero P ty = q
    (cases q <;> try rfl)
    generalize P.underlying ty = q
    (cases q <;> try rfl)
    rename_i d
    simp only [bld]
    (cases d <;> try rfl)
    · rename_i elem
      simp only
      generalize sz P elem = q
      (cases q <;> try rfl)
      simp only [bldArr]
      generalize fillV _ _ _ = q
      cases q <;> rfl
    · rename_i fields
      simp only [bldStruct]
      generalize placesL P fields.toList = q
      (cases q <;> try rfl)
      simp only
      generalize fillV _ _ _ = q
      cases q <;> rfl
  case nilCheck x =>
    generalize evalO t x = q
    (cases q <;> try rfl)
    rename_i v
    cases v <;> rfl
  case binOp op ty x y ty2 =>
    unfold exBin
    generalize evalO t x = q
    (cases q <;> try rfl)
    generalize evalO t y = q
    (cases q <;> try rfl)
    exact vh_map _ _ _
  case unOp op ty x =>
    generalize evalO t x = q
    (cases q <;> try rfl)
    exact vh_map _ _ _
  case convert src dst x =>
    generalize evalO t x = q
    (cases q <;> try rfl)
    rename_i v
    (cases v <;> try rfl)
    · simp only [exConv]
      generalize P.underlying src = q
      (cases q <;> try rfl)
      generalize P.underlying dst = q
      (cases q <;> try rfl)
      rename_i d
      cases d <;> rfl
    · simp only [exConv]
      generalize P.underlying src = q
      (cases q <;> try rfl)
      rename_i d
      (cases d <;> try rfl)
      simp only
      generalize P.underlying dst = q
      (cases q <;> try rfl)
      rename_i d
      cases d <;> rfl
  case makeInterface ty x =>
    generalize evalO t x = q
    (cases q <;> try rfl)
    simp only [exIface]
    generalize P.underlying ty = q
    (cases q <;> try rfl)
    rename_i d
    cases d <;> rfl
  case makeFunc fn first cap =>
    unfold exFunc
    (cases fn <;> try rfl)
    simp only
    generalize evalL t first.toList = q
    (cases q <;> try rfl)
    simp only
    generalize evalL t cap.toList = q
    cases q <;> rfl
  case fieldAddr ty x f =>
    generalize evalO t x = q
    (cases q <;> try rfl)
    rename_i v
    (cases v <;> try rfl)
    simp only [exFieldAddr]
    generalize P.underlying ty = q
    (cases q <;> try rfl)
    rename_i d
    (cases d <;> try rfl)
    rename_i fields
    simp only
    generalize fields[f]? = q
    (cases q <;> try rfl)
    rename_i fl
    simp only
    generalize sz P fl.type = q
    (cases q <;> try rfl)
    rename_i s
    simp only
    generalize Nat.beq s 0 = q
    cases q <;> rfl
  case field ty x f =>
    generalize evalO t x = q
    (cases q <;> try rfl)
    rename_i v
    (cases v <;> try rfl)
    simp only [exField]
    generalize P.underlying ty = q
    (cases q <;> try rfl)
    rename_i d
    (cases d <;> try rfl)
    rename_i fields
    simp only
    generalize fields[f]? = q
    (cases q <;> try rfl)
    exact vh_map _ _ _
  case indexAddr ty x ix =>
    unfold exIndexAddr
    generalize natA (evalO t ix) = q
    (cases q <;> try rfl)
    rename_i i
    simp only
    generalize evalO t x = q
    (cases q <;> try rfl)
    rename_i v
    (cases v <;> try rfl)
    · simp only
      generalize P.underlying ty = q
      (cases q <;> try rfl)
      rename_i d
      (cases d <;> try rfl)
      rename_i len elem
      simp only
      generalize sz P elem = q
      (cases q <;> try rfl)
      simp only
      generalize Nat.blt i len = q
      cases q <;> rfl
    · rename_i b off len cap g
      simp only
      generalize P.underlying ty = q
      (cases q <;> try rfl)
      rename_i d
      (cases d <;> try rfl)
      rename_i elem
      simp only
      generalize sz P elem = q
      (cases q <;> try rfl)
      simp only
      generalize Nat.blt i len = q
      cases q <;> rfl
  case index ty x ix =>
    unfold exIndex
    generalize natA (evalO t ix) = q
    (cases q <;> try rfl)
    rename_i i
    simp only
    generalize evalO t x = q
    (cases q <;> try rfl)
    rename_i v
    (cases v <;> try rfl)
    · rename_i s
      simp only
      generalize P.underlying ty = q
      (cases q <;> try rfl)
      rename_i d
      (cases d <;> try rfl)
      simp only
      generalize getN s i = q
      cases q <;> rfl
    · simp only
      generalize P.underlying ty = q
      (cases q <;> try rfl)
      rename_i d
      (cases d <;> try rfl)
      rename_i len elem
      simp only
      generalize sz P elem = q
      (cases q <;> try rfl)
      simp only
      generalize Nat.blt i len = q
      (cases q <;> try rfl)
      exact vh_map _ _ _
  case extract x i =>
    generalize evalO t x = q
    (cases q <;> try rfl)
    rename_i v
    (cases v <;> try rfl)
    exact vh_map _ _ _
/-- an operation that looks at no memory. -/
theorem obliv_read {t : Tr V} {o : Oper} (ho : obliv o.op = true) (hm : makes o = false) (h h2 : Hp) : execV P t h2 o.op = (execV P t h o.op).map fun p => (p.1, h2) := by
  by_cases hx : xk o.op = 0
  · rw [execV_zero hx, execV_zero hx]
    rw [makes_zero hx] at hm
    rw [obliv_zero hx] at ho
    exact obliv_readC ho hm h h2
  · rw [execV_ne hx, execV_ne hx]
    have h1 : Orc.kd o.op = 1 := by
      rw [← (xk_ne hx).2]
      unfold obliv at ho
      cases e : xk o.op with
      | zero => exact (hx e).elim
      | succ n =>
        cases n with
        | zero => rfl
        | succ n => rw [e] at ho; cases ho
    unfold execX
    cases evalL t o.op.operands.toList with
    | none => rfl
    | some as => exact OpOk.pure (P := P) _ h1 _ _ _
/-- an operation that looks at no memory and makes a block. -/
theorem obliv_makeC {t : Tr V} {o : Oper} (ho : oblivC o.op = true) (hm : makesC o.op = true) {h h' : Hp} {v : V} (he : execC P t h o.op = some (v, h')) :
    isCall o = false ∧ ∃ ob, h' = h.new ob ∧ ∀ h2 : Hp, h2.n = h.n → execC P t h2 o.op = some (v, h2.new ob) := by
  obtain ⟨dst, op, type, pos, after, guard⟩ := o
  cases op <;> simp only [oblivC, Bool.false_eq_true] at ho <;> simp only [makesC, Bool.false_eq_true] at hm <;> simp only [execC] at he ⊢ <;> refine ⟨rfl, ?_⟩
  case alloc e =>
    unfold exAlloc at *
    cases hz : zero P e with
    | none => simp [hz] at he
    | some z =>
      simp only [hz, Option.some.injEq, Prod.mk.injEq] at he
      obtain ⟨rfl, rfl⟩ := he
      exact ⟨_, rfl, fun h2 hn => by simp only [hn]; rfl⟩
  case box e x =>
    cases hx : evalO t x with
    | none => simp [hx, exBox] at he
    | some u =>
      simp only [hx, exBox, Option.some.injEq, Prod.mk.injEq] at he ⊢
      obtain ⟨rfl, rfl⟩ := he
      exact ⟨_, rfl, fun h2 hn => ⟨by rw [hn], rfl⟩⟩
  case buildSlice ty len parts =>
    unfold exBuildSlice at *
    cases hp : evalP t parts.toList with
    | none => simp [hp] at he
    | some ps =>
      simp only [hp] at he ⊢
      cases hu : P.underlying ty with
      | none => simp [hu] at he
      | some d =>
        cases d <;> simp only [hu, reduceCtorEq] at he
        rename_i elem
        cases hs : sz P elem with
        | none => simp [hs] at he
        | some s =>
          simp only [hs] at he ⊢
          cases hz : zero P elem with
          | none => simp [hz] at he
          | some z =>
            simp only [hz, bldSl] at he ⊢
            cases hb : (Nat.ble (len * s) 65536 && Nat.beq (vcells z).length s) with
            | false => simp [hb] at he
            | true =>
              simp only [hb, cond_true] at he ⊢
              cases hf : fillV (fun i => some (i * s, s)) (mulz (vcells z) len) ps with
              | none => simp [hf] at he
              | some cs =>
                simp only [hf, Option.some.injEq, Prod.mk.injEq] at he ⊢
                obtain ⟨rfl, rfl⟩ := he
                exact ⟨_, rfl, fun h2 hn => ⟨by rw [hn], rfl⟩⟩
  case makeMap ty r =>
    cases r <;> simp only [reduceCtorEq, Option.some.injEq, Prod.mk.injEq] at he ⊢
    obtain ⟨rfl, rfl⟩ := he
    exact ⟨_, rfl, fun h2 hn => ⟨by rw [hn], rfl⟩⟩
  case makeSlice ty x y =>
    unfold exMake at *
    cases hx : natV (evalO t x) with
    | none => simp [hx] at he
    | some ln =>
      simp only [hx] at he ⊢
      cases hy : natV (evalO t y) with
      | none => simp [hy] at he
      | some cn =>
        simp only [hy, exMakeSlice, mkSl] at he ⊢
        cases hu : P.underlying ty with
        | none => simp [hu] at he
        | some d =>
          cases d <;> simp only [hu, reduceCtorEq] at he
          rename_i elem
          simp only
          cases hi : P.info? elem with
          | none => simp [hi] at he
          | some i =>
            simp only [hi] at he ⊢
            cases hz : zero P elem with
            | none => simp [hz] at he
            | some z =>
              simp only [hz] at he ⊢
              cases hb : (Nat.ble ln cn && roomB cn && roomB (cn * i.bytes) && Nat.beq (vcells z).length i.size) with
              | false => simp [hb] at he
              | true =>
                simp only [hb, cond_true, Option.some.injEq, Prod.mk.injEq] at he ⊢
                obtain ⟨rfl, rfl⟩ := he
                exact ⟨_, rfl, fun h2 hn => ⟨by rw [hn], rfl⟩⟩

theorem obliv_make {t : Tr V} {o : Oper} (ho : obliv o.op = true) (hm : makes o = true) {h h' : Hp} {v : V} (he : execV P t h o.op = some (v, h')) :
    isCall o = false ∧ ∃ ob, h' = h.new ob ∧ ∀ h2 : Hp, h2.n = h.n → execV P t h2 o.op = some (v, h2.new ob) := by
  by_cases hx : xk o.op = 0
  · rw [execV_zero hx] at he
    rw [makes_zero hx] at hm
    rw [obliv_zero hx] at ho
    obtain ⟨h1, ob, h2, h3⟩ := obliv_makeC ho hm he
    exact ⟨h1, ob, h2, fun h2 hn => by rw [execV_zero hx]; exact h3 h2 hn⟩
  · exfalso
    unfold makes at hm
    unfold obliv at ho
    cases e : xk o.op with
    | zero => exact hx e
    | succ n =>
      rw [e] at hm ho
      cases n with
      | zero => cases hm
      | succ n => cases ho
theorem R.congr {w0 w : World} {h h' : Hp} {ρ : Rho} (H : R P w0 w h ρ) (ht : ∀ b, h'.t.get b = h.t.get b) (hn : h'.n = h.n) : R P w0 w h' ρ :=
  ⟨H.below, fun b l hb => by rw [hn]; simpa only [Hp.still, ht] using H.bnd b l hb, fun b l o h1 h2 => H.live b l o h1 (by rw [← ht]; exact h2), fun b b' l l' h1 h2 h3 h4 h5 =>
    H.inj b b' l l' h1 h2 h3 (by obtain ⟨o, a, c⟩ := h4; exact ⟨o, by rw [← ht]; exact a, c⟩) (by obtain ⟨o, a, c⟩ := h5; exact ⟨o, by rw [← ht]; exact a, c⟩), fun b hb => by rw [ht]; exact H.fresh b (by omega), H.glob, H.base⟩

theorem stores_n : ∀ (l : List (Nat × Ob)) (h : Hp), (stores l h).n = h.n
  | [], _ => rfl
  | (b, ob) :: l, h => by rw [stores, stores_n l]; rfl
theorem stores_append : ∀ (l m : List (Nat × Ob)) (h : Hp), stores (l ++ m) h = stores m (stores l h)
  | [], _, _ => rfl
  | (b, ob) :: l, m, h => by simp only [List.cons_append, stores]; exact stores_append l m _
theorem stores_congr {b : Nat} : ∀ (l : List (Nat × Ob)) {h h2 : Hp}, h.t.get b = h2.t.get b → (stores l h).t.get b = (stores l h2).t.get b
  | [], _, _, e => e
  | (c, ob) :: l, h, h2, e => by
    simp only [stores]
    refine stores_congr l ?_
    simp only [Hp.put, Tr.get_set]
    split
    · rfl
    · exact e
theorem stores_mem {b : Nat} : ∀ (l : List (Nat × Ob)) (h h2 : Hp), (∃ p ∈ l, p.1 = b) → (stores l h).t.get b = (stores l h2).t.get b
  | [], _, _, h => by obtain ⟨p, hp, _⟩ := h; cases hp
  | (c, ob) :: l, h, h2, e => by
    simp only [stores]
    by_cases hc : c = b
    · subst hc
      refine stores_congr l ?_
      simp only [Hp.put, Tr.get_set_same]
    · refine stores_mem l _ _ ?_
      obtain ⟨p, hp, he⟩ := e
      rcases List.mem_cons.1 hp with rfl | hp
      · exact (hc he).elim
      · exact ⟨p, hp, he⟩
theorem stores_not {b : Nat} : ∀ (l : List (Nat × Ob)) (h : Hp), (∀ p ∈ l, p.1 ≠ b) → (stores l h).t.get b = h.t.get b
  | [], _, _ => rfl
  | (c, ob) :: l, h, e => by
    simp only [stores]
    rw [stores_not l _ (fun p hp => e p (List.mem_cons_of_mem _ hp))]
    simp only [Hp.put]
    exact Tr.get_set_ne _ _ (e _ List.mem_cons_self)
theorem stores_new {l : List (Nat × Ob)} {h : Hp} {ob : Ob} (hl : ∀ p ∈ l, p.1 < h.n) (b : Nat) : (stores l (h.new ob)).t.get b = ((stores l h).new ob).t.get b := by
  simp only [Hp.new, stores_n]
  by_cases hb : h.n = b
  · subst hb
    rw [Tr.get_set_same, stores_not l _ (fun p hp => Nat.ne_of_lt (hl p hp))]
    simp only [Tr.get_set_same]
  · rw [Tr.get_set_ne _ _ hb]
    exact stores_congr l (by simp only [Tr.get_set_ne _ _ hb])
end Go.Mid
