/- The head of a region that draws its order: any order comes to what the text's order came to. -/
import Derived.Test.YthbcbfgpfpogkaaGreatFMidN
set_option linter.all false
set_option warn.classDefReducibility false
namespace Go.Mid
open Go.RowKit
variable {P : Program} [Orc] [Z : Res] [OrcOk P]

theorem vh_map (h h2 : Hp) (x : Option V) : vh h2 x = (vh h x).map fun p => (p.1, h2) := by cases x <;> rfl

/-- an operation that looks at no memory. -/
theorem obliv_readC {t : Tr V} {o : Oper} (ho : oblivC o.op = true) (hm : makesC o.op = false) (h h2 : Hp) : execC P t h2 o.op = (execC P t h o.op).map fun p => (p.1, h2) := by
  obtain ⟨dst, op, type, pos, after, guard⟩ := o
  cases op <;> simp only [oblivC, Bool.false_eq_true] at ho <;> simp only [makesC, Bool.true_eq_false] at hm <;> simp only [execC]
  case move x => exact vh_map _ _ _
  case assign x => exact vh_map _ _ _
  case pick c x y =>
    unfold exPick
    generalize evalO t c = q
    (cases q <;> try rfl)
    rename_i v
    (cases v <;> try rfl)
    rename_i b
    cases b <;> exact vh_map _ _ _
  case build ty parts =>
    unfold exBuild
    generalize evalP t parts.toList = q
    (cases q <;> try rfl)
    generalize zero P ty = q
    (cases q <;> try rfl)
    generalize P.underlying ty = q
    (cases q <;> try rfl)
    rename_i d
    simp only [bld]
    (cases d <;> try rfl)
    · rename_i elem
      simp only
      generalize sz P elem = q
      (cases q <;> try rfl)
      simp only [bldArr]
      generalize fillV _ _ _ = q
      cases q <;> rfl
    · rename_i fields
      simp only [bldStruct]
      generalize placesL P fields.toList = q
      (cases q <;> try rfl)
      simp only
      generalize fillV _ _ _ = q
      cases q <;> rfl
  case nilCheck x =>
    generalize evalO t x = q
    (cases q <;> try rfl)
    rename_i v
    cases v <;> rfl
  case binOp op ty x y ty2 =>
    unfold exBin
    generalize evalO t x = q
    (cases q <;> try rfl)
    generalize evalO t y = q
    (cases q <;> try rfl)
    exact vh_map _ _ _
  case unOp op ty x =>
    generalize evalO t x = q
    (cases q <;> try rfl)
    exact vh_map _ _ _
  case convert src dst x =>
    generalize evalO t x = q
    (cases q <;> try rfl)
    rename_i v
    (cases v <;> try rfl)
    · simp only [exConv]
      generalize P.underlying src = q
      (cases q <;> try rfl)
      generalize P.underlying dst = q
      (cases q <;> try rfl)
      rename_i d
      cases d <;> rfl
    · simp only [exConv]
      generalize P.underlying src = q
      (cases q <;> try rfl)
      rename_i d
      (cases d <;> try rfl)
      simp only
      generalize P.underlying dst = q
      (cases q <;> try rfl)
      rename_i d
      cases d <;> rfl
  case makeInterface ty x =>
    generalize evalO t x = q
    (cases q <;> try rfl)
    simp only [exIface]
    generalize P.underlying ty = q
    (cases q <;> try rfl)
    rename_i d
    cases d <;> rfl
  case makeFunc fn first cap =>
    unfold exFunc
    (cases fn <;> try rfl)
    simp only
    generalize evalL t first.toList = q
    (cases q <;> try rfl)
    simp only
    generalize evalL t cap.toList = q
    cases q <;> rfl
  case fieldAddr ty x f =>
    generalize evalO t x = q
    (cases q <;> try rfl)
    rename_i v
    (cases v <;> try rfl)
    simp only [exFieldAddr]
    generalize P.underlying ty = q
    (cases q <;> try rfl)
    rename_i d
    (cases d <;> try rfl)
    rename_i fields
    simp only
    generalize fields[f]? = q
    (cases q <;> try rfl)
    rename_i fl
    simp only
    generalize sz P fl.type = q
    (cases q <;> try rfl)
    rename_i s
    simp only
    generalize Nat.beq s 0 = q
    cases q <;> rfl
  case field ty x f =>
    generalize evalO t x = q
    (cases q <;> try rfl)
    rename_i v
    (cases v <;> try rfl)
    simp only [exField]
    generalize P.underlying ty = q
    (cases q <;> try rfl)
    rename_i d
    (cases d <;> try rfl)
    rename_i fields
    simp only
    generalize fields[f]? = q
    (cases q <;> try rfl)
    exact vh_map _ _ _
  case indexAddr ty x ix =>
    unfold exIndexAddr
    generalize natA (evalO t ix) = q
    (cases q <;> try rfl)
    rename_i i
    simp only
    generalize evalO t x = q
    (cases q <;> try rfl)
    rename_i v
    (cases v <;> try rfl)
    · simp only
      generalize P.underlying ty = q
      (cases q <;> try rfl)
      rename_i d
      (cases d <;> try rfl)
      rename_i len elem
      simp only
      generalize sz P elem = q
      (cases q <;> try rfl)
      simp only
      generalize Nat.blt i len = q
      cases q <;> rfl
    · rename_i b off len cap g
      simp only
      generalize P.underlying ty = q
      (cases q <;> try rfl)
      rename_i d
      (cases d <;> try rfl)
      rename_i elem
      simp only
      generalize sz P elem = q
      (cases q <;> try rfl)
      simp only
      generalize Nat.blt i len = q
      cases q <;> rfl
  case index ty x ix =>
    unfold exIndex
    generalize natA (evalO t ix) = q
    (cases q <;> try rfl)
    rename_i i
    simp only
    generalize evalO t x = q
    (cases q <;> try rfl)
    rename_i v
    (cases v <;> try rfl)
    · rename_i s
      simp only
      generalize P.underlying ty = q
      (cases q <;> try rfl)
      rename_i d
      (cases d <;> try rfl)
      simp only
      generalize s.get i = q
      cases q <;> rfl
    · simp only
      generalize P.underlying ty = q
      (cases q <;> try rfl)
      rename_i d
      (cases d <;> try rfl)
      rename_i len elem
      simp only
      generalize sz P elem = q
      (cases q <;> try rfl)
      simp only
      generalize Nat.blt i len = q
      (cases q <;> try rfl)
      exact vh_map _ _ _
  case extract x i =>
    generalize evalO t x = q
    (cases q <;> try rfl)
    rename_i v
    (cases v <;> try rfl)
    exact vh_map _ _ _
/-- an operation that looks at no memory. -/
theorem obliv_read {t : Tr V} {o : Oper} (ho : obliv o.op = true) (hm : makes o = false) (h h2 : Hp) : execV P t h2 o.op = (execV P t h o.op).map fun p => (p.1, h2) := by
  by_cases hx : xk o.op = 0
  · rw [execV_zero hx, execV_zero hx]
    rw [makes_zero hx] at hm
    rw [obliv_zero hx] at ho
    exact obliv_readC ho hm h h2
  · rw [execV_ne hx, execV_ne hx]
    have h1 : Orc.kd o.op = 1 := by
      rw [← (xk_ne hx).2]
      unfold obliv at ho
      cases e : xk o.op with
      | zero => exact (hx e).elim
      | succ n =>
        cases n with
        | zero => rfl
        | succ n => rw [e] at ho; cases ho
    unfold execX
    cases evalL t o.op.operands.toList with
    | none => rfl
    | some as => exact OpOk.pure (P := P) _ h1 _ _ _
/-- an operation that looks at no memory and makes a block. -/
theorem obliv_makeC {t : Tr V} {o : Oper} (ho : oblivC o.op = true) (hm : makesC o.op = true) {h h' : Hp} {v : V} (he : execC P t h o.op = some (v, h')) :
    isCall o = false ∧ ∃ ob, h' = h.new ob ∧ ∀ h2 : Hp, h2.n = h.n → execC P t h2 o.op = some (v, h2.new ob) := by
  obtain ⟨dst, op, type, pos, after, guard⟩ := o
  cases op <;> simp only [oblivC, Bool.false_eq_true] at ho <;> simp only [makesC, Bool.false_eq_true] at hm <;> simp only [execC] at he ⊢ <;> refine ⟨rfl, ?_⟩
  case alloc e =>
    unfold exAlloc at *
    cases hz : zero P e with
    | none => simp [hz] at he
    | some z =>
      simp only [hz, Option.some.injEq, Prod.mk.injEq] at he
      obtain ⟨rfl, rfl⟩ := he
      exact ⟨_, rfl, fun h2 hn => by simp only [hn]; rfl⟩
  case box e x =>
    cases hx : evalO t x with
    | none => simp [hx, exBox] at he
    | some u =>
      simp only [hx, exBox, Option.some.injEq, Prod.mk.injEq] at he ⊢
      obtain ⟨rfl, rfl⟩ := he
      exact ⟨_, rfl, fun h2 hn => ⟨by rw [hn], rfl⟩⟩
  case buildSlice ty len parts =>
    unfold exBuildSlice at *
    cases hp : evalP t parts.toList with
    | none => simp [hp] at he
    | some ps =>
      simp only [hp] at he ⊢
      cases hu : P.underlying ty with
      | none => simp [hu] at he
      | some d =>
        cases d <;> simp only [hu, reduceCtorEq] at he
        rename_i elem
        cases hs : sz P elem with
        | none => simp [hs] at he
        | some s =>
          simp only [hs] at he ⊢
          cases hz : zero P elem with
          | none => simp [hz] at he
          | some z =>
            simp only [hz, bldSl] at he ⊢
            cases hb : (Nat.ble (len * s) 65536 && Nat.beq (vcells z).length s) with
            | false => simp [hb] at he
            | true =>
              simp only [hb, cond_true] at he ⊢
              cases hf : fillV (fun i => some (i * s, s)) (mulz (vcells z) len) ps with
              | none => simp [hf] at he
              | some cs =>
                simp only [hf, Option.some.injEq, Prod.mk.injEq] at he ⊢
                obtain ⟨rfl, rfl⟩ := he
                exact ⟨_, rfl, fun h2 hn => ⟨by rw [hn], rfl⟩⟩
  case makeMap ty r =>
    cases r <;> simp only [reduceCtorEq, Option.some.injEq, Prod.mk.injEq] at he ⊢
    obtain ⟨rfl, rfl⟩ := he
    exact ⟨_, rfl, fun h2 hn => ⟨by rw [hn], rfl⟩⟩
  case makeSlice ty x y =>
    unfold exMake at *
    cases hx : natV (evalO t x) with
    | none => simp [hx] at he
    | some ln =>
      simp only [hx] at he ⊢
      cases hy : natV (evalO t y) with
      | none => simp [hy] at he
      | some cn =>
        simp only [hy, exMakeSlice, mkSl] at he ⊢
        cases hu : P.underlying ty with
        | none => simp [hu] at he
        | some d =>
          cases d <;> simp only [hu, reduceCtorEq] at he
          rename_i elem
          simp only
          cases hi : P.info? elem with
          | none => simp [hi] at he
          | some i =>
            simp only [hi] at he ⊢
            cases hz : zero P elem with
            | none => simp [hz] at he
            | some z =>
              simp only [hz] at he ⊢
              cases hb : (Nat.ble ln cn && roomB cn && roomB (cn * i.bytes) && Nat.beq (vcells z).length i.size) with
              | false => simp [hb] at he
              | true =>
                simp only [hb, cond_true, Option.some.injEq, Prod.mk.injEq] at he ⊢
                obtain ⟨rfl, rfl⟩ := he
                exact ⟨_, rfl, fun h2 hn => ⟨by rw [hn], rfl⟩⟩

theorem obliv_make {t : Tr V} {o : Oper} (ho : obliv o.op = true) (hm : makes o = true) {h h' : Hp} {v : V} (he : execV P t h o.op = some (v, h')) :
    isCall o = false ∧ ∃ ob, h' = h.new ob ∧ ∀ h2 : Hp, h2.n = h.n → execV P t h2 o.op = some (v, h2.new ob) := by
  by_cases hx : xk o.op = 0
  · rw [execV_zero hx] at he
    rw [makes_zero hx] at hm
    rw [obliv_zero hx] at ho
    obtain ⟨h1, ob, h2, h3⟩ := obliv_makeC ho hm he
    exact ⟨h1, ob, h2, fun h2 hn => by rw [execV_zero hx]; exact h3 h2 hn⟩
  · exfalso
    unfold makes at hm
    unfold obliv at ho
    cases e : xk o.op with
    | zero => exact hx e
    | succ n =>
      rw [e] at hm ho
      cases n with
      | zero => cases hm
      | succ n => cases ho
theorem R.congr {w0 w : World} {h h' : Hp} {ρ : Rho} (H : R P w0 w h ρ) (ht : ∀ b, h'.t.get b = h.t.get b) (hn : h'.n = h.n) : R P w0 w h' ρ :=
  ⟨H.below, fun b l hb => by rw [hn]; simpa only [Hp.still, ht] using H.bnd b l hb, fun b l o h1 h2 => H.live b l o h1 (by rw [← ht]; exact h2), fun b b' l l' h1 h2 h3 h4 h5 =>
    H.inj b b' l l' h1 h2 h3 (by obtain ⟨o, a, c⟩ := h4; exact ⟨o, by rw [← ht]; exact a, c⟩) (by obtain ⟨o, a, c⟩ := h5; exact ⟨o, by rw [← ht]; exact a, c⟩), fun b hb => by rw [ht]; exact H.fresh b (by omega), H.glob, H.base, fun b hb => by rw [hn]; exact H.rs b hb, H.pn⟩

theorem stores_n : ∀ (l : List (Nat × Ob)) (h : Hp), (stores l h).n = h.n
  | [], _ => rfl
  | (b, ob) :: l, h => by rw [stores, stores_n l]; rfl
theorem stores_append : ∀ (l m : List (Nat × Ob)) (h : Hp), stores (l ++ m) h = stores m (stores l h)
  | [], _, _ => rfl
  | (b, ob) :: l, m, h => by simp only [List.cons_append, stores]; exact stores_append l m _
theorem stores_congr {b : Nat} : ∀ (l : List (Nat × Ob)) {h h2 : Hp}, h.t.get b = h2.t.get b → (stores l h).t.get b = (stores l h2).t.get b
  | [], _, _, e => e
  | (c, ob) :: l, h, h2, e => by
    simp only [stores]
    refine stores_congr l ?_
    simp only [Hp.put, Tr.get_set]
    split
    · rfl
    · exact e
theorem stores_mem {b : Nat} : ∀ (l : List (Nat × Ob)) (h h2 : Hp), (∃ p ∈ l, p.1 = b) → (stores l h).t.get b = (stores l h2).t.get b
  | [], _, _, h => by obtain ⟨p, hp, _⟩ := h; cases hp
  | (c, ob) :: l, h, h2, e => by
    simp only [stores]
    by_cases hc : c = b
    · subst hc
      refine stores_congr l ?_
      simp only [Hp.put, Tr.get_set_same]
    · refine stores_mem l _ _ ?_
      obtain ⟨p, hp, he⟩ := e
      rcases List.mem_cons.1 hp with rfl | hp
      · exact (hc he).elim
      · exact ⟨p, hp, he⟩
theorem stores_not {b : Nat} : ∀ (l : List (Nat × Ob)) (h : Hp), (∀ p ∈ l, p.1 ≠ b) → (stores l h).t.get b = h.t.get b
  | [], _, _ => rfl
  | (c, ob) :: l, h, e => by
    simp only [stores]
    rw [stores_not l _ (fun p hp => e p (List.mem_cons_of_mem _ hp))]
    simp only [Hp.put]
    exact Tr.get_set_ne _ _ (e _ List.mem_cons_self)
theorem stores_new {l : List (Nat × Ob)} {h : Hp} {ob : Ob} (hl : ∀ p ∈ l, p.1 < h.n) (b : Nat) : (stores l (h.new ob)).t.get b = ((stores l h).new ob).t.get b := by
  simp only [Hp.new, stores_n]
  by_cases hb : h.n = b
  · subst hb
    rw [Tr.get_set_same, stores_not l _ (fun p hp => Nat.ne_of_lt (hl p hp))]
    simp only [Tr.get_set_same]
  · rw [Tr.get_set_ne _ _ hb]
    exact stores_congr l (by simp only [Tr.get_set_ne _ _ hb])
/-! blocks that are made ahead of their time -/
theorem trIs_eq : ∀ {a b : Tr V}, trIs a b = true → a = b
  | .nil, .nil, _ => rfl
  | .nil, .node _ _ _ _ _, h => by cases h
  | .node _ _ _ _ _, .nil, h => by cases h
  | .node v a b c d, .node v' a' b' c' d', h => by
    rw [trIs, Bool.and_eq_true, Bool.and_eq_true, Bool.and_eq_true, Bool.and_eq_true] at h
    obtain ⟨h1, ⟨h2, h3⟩, h4, h5⟩ := h
    rw [trIs_eq h2, trIs_eq h3, trIs_eq h4, trIs_eq h5]
    congr 1
    cases v with
    | none => cases v' <;> first | rfl | cases h1
    | some x =>
      cases v' with
      | none => cases h1
      | some y => rw [vEq_eq (show vEq x y = true from h1)]
theorem isRow_eq {o : Option Ob} {e : Nat} {cs : List V} (h : isRow o e cs = true) : o = some (.cells (Tr.nil.setL 0 cs) cs.length false e) := by
  unfold isRow at h
  split at h
  · rename_i t n g e'
    simp only [Bool.and_eq_true, Bool.not_eq_true'] at h
    obtain ⟨h1, h2, h3, h4⟩ := h
    rw [Nat.eq_of_beq_eq_true h1, h2, Nat.eq_of_beq_eq_true h3, trIs_eq h4]
  · cases h
/-- more blocks, of which nothing of the world is told. -/
theorem R.room {w0 w : World} {h h' : Hp} {ρ : Rho} (H : R P w0 w h ρ) (hn : h.n ≤ h'.n) (hg : ∀ b, b < h.n → h'.t.get b = h.t.get b) (hf : ∀ b, h'.n ≤ b → h'.t.get b = none) : @R _ ⟨fun b => Z.res b ∨ (h.n ≤ b ∧ b < h'.n), Z.pin⟩ P w0 w h' ρ := by
  have al : ∀ {b l}, ρ b = some l → h'.alive b → h.alive b := fun {b l} hb ⟨o, a, c⟩ => ⟨o, by rw [← hg b (H.bnd b l hb).1]; exact a, c⟩
  refine @R.mk _ ⟨fun b => Z.res b ∨ (h.n ≤ b ∧ b < h'.n), Z.pin⟩ P _ _ _ _ H.below ?_ ?_ ?_ hf H.glob H.base ?_ H.pn
  · intro b l hb
    obtain ⟨h1, h2, h3⟩ := H.bnd b l hb
    refine ⟨by omega, h2.imp id fun hs => ?_, h3⟩
    unfold Hp.still at hs ⊢
    rw [hg b h1]; exact hs
  · intro b l o hb ho
    exact H.live b l o hb (by rw [← hg b (H.bnd b l hb).1]; exact ho)
  · intro b b' l l' hb hb' hne h1 h2
    exact H.inj b b' l l' hb hb' hne (al hb h1) (al hb' h2)
  · rintro b (hb | ⟨h1, h2⟩)
    · exact ⟨(H.rs b hb).1, Nat.lt_of_lt_of_le (H.rs b hb).2 hn⟩
    · refine ⟨?_, h2⟩
      cases hr : ρ b with
      | none => rfl
      | some l => have := (H.bnd b l hr).1; omega
/-- such a block comes into being in the world. -/
theorem R.float {Z1 Z2 : Res} {w0 w : World} {h : Hp} {ρ : Rho} (H : @R _ Z1 P w0 w h ρ) {b : Nat} (hb : ρ b = none) (hn : b < h.n) {o : Ob} (hg : h.t.get b = some o) (O : Obj) (cap : Nat)
    (ho : ObR P (Mid.upd ρ b ⟨w.heap.size, 0, cap⟩) (w.alloc O) ⟨w.heap.size, 0, cap⟩ o) (hz : ∀ x, Z2.res x → Z1.res x ∧ x ≠ b) (hp : ∀ r O, Z2.pin r O → Z1.pin r O) :
    Ext ρ (Mid.upd ρ b ⟨w.heap.size, 0, cap⟩) ∧ @R _ Z2 P w0 (w.alloc O) h (Mid.upd ρ b ⟨w.heap.size, 0, cap⟩) := by
  letI := Z1
  have hext : Ext ρ (Mid.upd ρ b ⟨w.heap.size, 0, cap⟩) := upd_ext hb
  refine ⟨hext, @R.mk _ Z2 P _ _ _ _ (H.below.alloc H.below.size O) ?_ ?_ ?_ H.fresh (H.glob.ext hext) H.base ?_ (fun r O' h => H.pnNew (k := ⟨w.heap.size, 0, cap⟩) (fun j hj => heap_alloc_old w O j hj) (Nat.le_refl _) r O' (hp r O' h))⟩
  · intro b' l hb'
    rcases upd_inv hb' with ⟨rfl, rfl⟩ | ⟨hne, hb'⟩
    · refine ⟨hn, .inl ⟨H.below.size, rfl⟩, .inr ?_⟩
      simp
    · have := H.bnd b' l hb'
      refine ⟨this.1, this.2.1, this.2.2.imp id fun h => ?_⟩
      simp; omega
  · intro b' l o' hb' ho'
    rcases upd_inv hb' with ⟨rfl, rfl⟩ | ⟨hne, hb'⟩
    · rw [hg] at ho'
      simp only [Option.some.injEq] at ho'
      subst ho'; exact ho
    · cases o' with
      | dead => trivial
      | _ => exact (H.live b' l _ hb' ho').keep hext (heap_alloc_old w O _ (H.lt hb' ⟨_, ho', by simp⟩))
  · intro x y l l' hx hy hne ha ha'
    rcases upd_inv hx with ⟨e1, e2⟩ | ⟨h1, hx1⟩
    · rcases upd_inv hy with ⟨e3, e4⟩ | ⟨h2, hy1⟩
      · exact (hne (e1.trans e3.symm)).elim
      · have := H.lt hy1 ha'; rw [e2]; simp only; omega
    · rcases upd_inv hy with ⟨e3, e4⟩ | ⟨h2, hy1⟩
      · have := H.lt hx1 ha; rw [e4]; simp only; omega
      · exact H.inj x y l l' hx1 hy1 hne ha ha'
  · intro x hx
    obtain ⟨h1, h2⟩ := hz x hx
    refine ⟨?_, (H.rs x h1).2⟩
    unfold Mid.upd
    rw [if_neg h2]; exact (H.rs x h1).1
/-- a row of cells comes into being so. -/
theorem R.floatRow {Z1 Z2 : Res} {w0 w : World} {h : Hp} {ρ : Rho} (H : @R _ Z1 P w0 w h ρ) {b : Nat} {ty : TypeId} {cs : List V} {xs : Array Value} (hc : RelL ρ cs xs.toList) (hb : ρ b = none) (hn : b < h.n)
    (hg : h.t.get b = some (.cells (Tr.nil.setL 0 cs) cs.length false ty)) (hr : ∀ x, Z2.res x → Z1.res x ∧ x ≠ b) (hp : ∀ r O, Z2.pin r O → Z1.pin r O) :
    Ext ρ (Mid.upd ρ b ⟨w.heap.size, 0, 0⟩) ∧ @R _ Z2 P w0 (w.alloc (.cells xs ty)) h (Mid.upd ρ b ⟨w.heap.size, 0, 0⟩) :=
  R.float (Z2 := Z2) H hb hn hg (.cells xs ty) 0 ⟨xs, heap_alloc_new w _, fun i v hv => (by
    rw [Tr.get_setL] at hv
    split at hv
    · rename_i hi
      simp only [Nat.sub_zero] at hv
      obtain ⟨x, h1, h2⟩ := hc.get hv
      exact ⟨by omega, x, by simpa using h1, h2.ext (upd_ext hb)⟩
    · simp [Tr.get_nil] at hv), (by have := hc.1; simp only [Array.length_toList] at this; simp only [Nat.zero_add]; omega), fun h => (by cases h)⟩ hr hp
theorem flo_sim {Z1 Z2 : Res} {w0 w : World} {h : Hp} {ρ : Rho} (H : @R _ Z1 P w0 w h ρ) {t : Tr V} {b : Nat} {p : V} {ty : TypeId} {cs : List V} {a : Act} {oo : Oper} (hf : FloC P t oo.op b p ty cs) (hbv : blkV p = some b)
    (ho : OpR ρ a t oo.op.operands.toList) (hb : ρ b = none) (hn : b < h.n)
    (hg : h.t.get b = some (.cells (Tr.nil.setL 0 cs) cs.length false ty)) (hr : ∀ x, Z2.res x → Z1.res x ∧ x ≠ b) (hp : ∀ r O, Z2.pin r O → Z1.pin r O) :
    ∃ x w' ρ', (execOp a.eval oo).run P w = .ok (.value x) w' ∧ Rel ρ' p x ∧ Ext ρ ρ' ∧ @R _ Z2 P w0 w' h ρ' := by
  rcases hf with ⟨z, hop, hz, rfl, rfl⟩ | ⟨sty, len, parts, h1, hop, hex, hrow⟩
  · obtain ⟨i, zx, hi, hzx, hr'⟩ := info_of_zero (ρ := ρ) hz
    have hN := R.floatRow (Z2 := Z2) H hr'.cells hb hn hg hr hp
    refine ⟨.pointer (some ⟨w.heap.size, 0, none⟩), _, _, ?_, .ptr (b := b) 0 (upd_same _ _ _), hN.1, hN.2⟩
    unfold execOp
    rw [hop]
    simp only [Instr.alloc, Sem.run_bind, run_zero hi hzx, Result.andThen_ok, newVar, newRow, run_newObj, Sem.run_pure]
    rfl
  · rw [hop] at ho
    unfold exBuildSlice at hex
    cases hps : evalP t parts.toList with
    | none => simp [hps] at hex
    | some ps =>
      simp only [hps] at hex
      cases hu : P.underlying sty with
      | none => simp [hu] at hex
      | some d =>
        cases d <;> simp only [hu, reduceCtorEq] at hex
        rename_i elem
        cases hs : sz P elem with
        | none => simp [hs] at hex
        | some s =>
          simp only [hs] at hex
          cases hz : zero P elem with
          | none => simp [hz] at hex
          | some z =>
            simp only [hz, bldSl] at hex
            cases hbb : (Nat.ble (len * s) 65536 && Nat.beq (vcells z).length s) with
            | false => simp [hbb] at hex
            | true =>
              simp only [hbb, cond_true] at hex
              simp only [Bool.and_eq_true] at hbb
              have hb1 := Nat.le_of_ble_eq_true hbb.1
              have hb2 := Nat.eq_of_beq_eq_true hbb.2
              cases hf : fillV (fun i => some (i * s, s)) (mulz (vcells z) len) ps with
              | none => simp [hf] at hex
              | some cs' =>
                simp only [hf, Option.some.injEq, Prod.mk.injEq] at hex
                obtain ⟨hpe, rfl⟩ := hex
                have hbe : blkN p = b := by
                  unfold blkV at hbv
                  split at hbv <;> first | (simp only [Option.some.injEq] at hbv; exact hbv) | cases hbv
                have hfn : (floH p).n = b := hbe
                rw [hfn] at hpe
                subst hpe
                have hrow := isRow_eq hrow
                simp only [Hp.newRow, Hp.new] at hrow
                rw [hfn, Tr.get_set_same] at hrow
                simp only [Option.some.injEq, Ob.cells.injEq, true_and] at hrow
                obtain ⟨k1, k2, k3⟩ := hrow
                rw [← k1, ← k2, ← k3] at hg
                obtain ⟨i, zx, hi, hzx, hr'⟩ := info_of_zero (ρ := ρ) hz
                obtain ⟨i', hi', hsz⟩ := info_of_sz hs
                rw [hi] at hi'
                simp only [Option.some.injEq] at hi'
                subst hi'
                have hzl : zx.cells.size = s := by rw [← hb2, hr'.cells.1]; simp
                have hpr : PartR ρ ps (parts.map fun (i, x) => (i, a.eval x)).toList := by
                  have := evalP_sim (ρ := ρ) (a := a) (t := t) (xs := parts.toList) (vs := ps) (by simpa [Op.operands] using ho) hps
                  simpa using this
                obtain ⟨arr', e1, e2⟩ := fill_sim hpr (mulz_rel hr'.cells len) hf
                have hN := R.floatRow (Z2 := Z2) H e2 hb hn hg hr hp
                refine ⟨.slice (some ⟨w.heap.size, 0, none⟩) len len, _, _, ?_, .sliceK (b := b) 0 len len (upd_same _ _ _), hN.1, hN.2⟩
                unfold execOp
                rw [hop]
                by_cases hpos : len * s = 0
                · have e0 : (Array.range (len * zx.cells.size)).map (zx.cells[· % zx.cells.size]!) = #[] := range0 _ (by rw [hzl, hpos])
                  rw [e0] at e1
                  simp only [Instr.buildSlice, Sem.run_bind, run_underlying hu, Result.andThen_ok, run_sz hs]
                  rw [if_neg (by omega), if_pos hpos]
                  simp only [pure_bind]
                  have e0' : ∀ z : Array Value, (Array.range (len * s)).map (z[· % z.size]!) = #[] := fun z => range0 _ hpos
                  rw [e0', e1]
                  simp only [newRow, Sem.run_bind, run_newObj, Result.andThen_ok, Sem.run_pure]
                  rfl
                · rw [hzl, ← hsz] at e1
                  have := run_buildSlice (P := P) w sty elem len (parts.map fun (i, x) => (i, a.eval x)) arr' i zx hu hi hzx (by rw [hsz]; omega) (by rw [hsz]; exact hpos) (by rw [hsz] at e1 ⊢; rw [← hzl] at e1 ⊢; exact e1)
                  simp only [Sem.run_bind, this, Result.andThen_ok, Sem.run_pure]
end Go.Mid
