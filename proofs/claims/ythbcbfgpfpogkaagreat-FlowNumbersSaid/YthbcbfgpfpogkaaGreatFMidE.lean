/- Operations that only read, one by one. -/
import Derived.Test.YthbcbfgpfpogkaaGreatFMidD
set_option linter.all false
set_option warn.classDefReducibility false
namespace Go.Mid
open Go.RowKit
variable {P : Program} [Orc]

def OpR (ρ : Rho) (a : Act) (t : Tr V) (xs : List Operand) : Prop := ∀ x ∈ xs, ∀ v, evalO t x = some v → Rel ρ v (a.eval x)

theorem evalL_sim {ρ : Rho} {a : Act} {t : Tr V} : ∀ {xs : List Operand} {vs : List V}, OpR ρ a t xs → evalL t xs = some vs → RelL ρ vs (xs.map a.eval)
  | [], vs, _, h => by simp only [evalL, Option.some.injEq] at h; subst h; exact RelL.nil ρ
  | x :: xs, vs, ho, h => by
    simp only [evalL] at h
    cases hx : evalO t x with
    | none => simp [hx] at h
    | some v =>
      simp only [hx] at h
      cases hl : evalL t xs with
      | none => simp [hl] at h
      | some l =>
        simp only [hl, Option.some.injEq] at h; subst h
        exact RelL.cons (ho x (by simp) v hx) (evalL_sim (fun y hy => ho y (by simp [hy])) hl)

/-- parts of a literal. -/
inductive PartR (ρ : Rho) : List (Nat × V) → List (Nat × Value) → Prop
  | nil : PartR ρ [] []
  | cons {i : Nat} {v : V} {x : Value} {ps : List (Nat × V)} {qs : List (Nat × Value)} (h : Rel ρ v x) (t : PartR ρ ps qs) : PartR ρ ((i, v) :: ps) ((i, x) :: qs)
theorem evalP_sim {ρ : Rho} {a : Act} {t : Tr V} : ∀ {xs : List (Nat × Operand)} {vs : List (Nat × V)}, OpR ρ a t (xs.map (·.2)) → evalP t xs = some vs → PartR ρ vs (xs.map fun x => (x.1, a.eval x.2))
  | [], vs, _, h => by simp only [evalP, Option.some.injEq] at h; subst h; exact .nil
  | (i, x) :: xs, vs, ho, h => by
    simp only [evalP] at h
    cases hx : evalO t x with
    | none => simp [hx] at h
    | some v =>
      simp only [hx] at h
      cases hl : evalP t xs with
      | none => simp [hl] at h
      | some l =>
        simp only [hl, Option.some.injEq] at h; subst h
        exact .cons (ho x (by simp) v hx) (evalP_sim (fun y hy => ho y (by simp only [List.map_cons, List.mem_cons]; exact .inr hy)) hl)

theorem splice_spec : ∀ (cs : List V) (off : Nat) (xs r : List V), splice cs off xs = some r → r.length = cs.length ∧ off + xs.length ≤ cs.length ∧
    ∀ k, r[k]? = if off ≤ k ∧ k < off + xs.length then xs[k - off]? else cs[k]?
  | cs, 0, [], r, h => by
    have : r = cs := by cases cs <;> simpa [splice] using h.symm
    subst this
    refine ⟨rfl, by simp, fun k => ?_⟩
    simp only [List.length_nil]
    rw [if_neg (by omega)]
  | c :: cs, 0, x :: xs, r, h => by
    simp only [splice] at h
    cases hr : splice cs 0 xs with
    | none => simp [hr] at h
    | some r' =>
      simp only [hr, Option.some.injEq] at h; subst h
      obtain ⟨h1, h2, h3⟩ := splice_spec cs 0 xs r' hr
      refine ⟨by simp [h1], by simp only [List.length_cons]; omega, fun k => ?_⟩
      cases k with
      | zero => simp
      | succ k =>
        simp only [List.getElem?_cons_succ, h3 k, List.length_cons]
        by_cases hk : k < xs.length
        · rw [if_pos (by omega), if_pos (by omega)]; simp
        · rw [if_neg (by omega), if_neg (by omega)]
  | [], 0, _ :: _, r, h => by simp [splice] at h
  | [], _ + 1, _, r, h => by simp [splice] at h
  | c :: cs, n + 1, xs, r, h => by
    simp only [splice] at h
    cases hr : splice cs n xs with
    | none => simp [hr] at h
    | some r' =>
      simp only [hr, Option.some.injEq] at h; subst h
      obtain ⟨h1, h2, h3⟩ := splice_spec cs n xs r' hr
      refine ⟨by simp [h1], by simp only [List.length_cons]; omega, fun k => ?_⟩
      cases k with
      | zero => rw [if_neg (by omega)]; simp
      | succ k =>
        simp only [List.getElem?_cons_succ, h3 k]
        by_cases hk : n ≤ k ∧ k < n + xs.length
        · rw [if_pos hk, if_pos (by omega)]; congr 1; omega
        · rw [if_neg hk, if_neg (by omega)]

theorem fill_sim {ρ : Rho} {pl : Nat → Option (Nat × Nat)} : ∀ {ps : List (Nat × V)} {qs : List (Nat × Value)} {cs r : List V} {arr : Array Value}, PartR ρ ps qs → RelL ρ cs arr.toList → fillV pl cs ps = some r →
    ∃ arr', Instr.fill pl arr qs = some arr' ∧ RelL ρ r arr'.toList
  | _, _, cs, r, arr, .nil, hc, h => by
    simp only [fillV, Option.some.injEq] at h; subst h
    exact ⟨arr, rfl, hc⟩
  | _, _, cs, r, arr, .cons (i := i) (v := v) (x := x) (ps := ps) (qs := qs) hv ht, hc, h => by
    simp only [fillV] at h
    cases hp : pl i with
    | none => simp [hp] at h
    | some q =>
      obtain ⟨off, s⟩ := q
      simp only [hp] at h
      cases hb : Nat.beq (vcells v).length s with
      | false => simp [hb] at h
      | true =>
        have hs : (vcells v).length = s := Nat.eq_of_beq_eq_true hb
        simp only [hb, cond_true] at h
        cases hsp : splice cs off (vcells v) with
        | none => simp [hsp] at h
        | some cs' =>
          simp only [hsp] at h
          obtain ⟨h1, h2, h3⟩ := splice_spec cs off _ cs' hsp
          have hcl := hv.cells
          have hxl : x.cells.size = s := by rw [← hs, hcl.1]; simp
          have hal : cs.length = arr.size := by rw [hc.1]; simp
          obtain ⟨g1, g2⟩ := Great.foldl_set off x.cells.toList 0 arr
          have key : RelL ρ cs' ((x.cells.toList.zipIdx 0).foldl (fun cs (x : Value × Nat) => cs.setIfInBounds (off + x.2) x.1) arr).toList := by
            refine ⟨by rw [h1, hal, ← g1]; simp, fun k u y hu hy => ?_⟩
            rw [Array.getElem?_toList, g2 k] at hy
            rw [h3 k] at hu
            by_cases hk : off ≤ k ∧ k < off + (vcells v).length
            · rw [if_pos hk] at hu
              rw [if_pos ⟨by omega, by rw [Array.length_toList]; omega, by omega⟩] at hy
              simp only [Nat.add_zero] at hy
              exact hcl.2 _ u y hu hy
            · rw [if_neg hk] at hu
              rw [if_neg (by rw [Array.length_toList]; omega)] at hy
              exact hc.2 k u y hu (by rw [Array.getElem?_toList]; exact hy)
          obtain ⟨arr', e1, e2⟩ := fill_sim ht key h
          refine ⟨arr', ?_, e2⟩
          unfold Instr.fill
          simp only [hp]
          rw [if_neg (by simp [hxl]; omega)]
          rw [← e1]
          congr 1
          rw [← Array.foldl_toList]
          simp [Array.toList_zipIdx]

theorem placesL_eq : ∀ {fs : List Field} {l : List (Nat × Nat)}, placesL P fs = some l → fs.mapM (fun f => (P.info? f.type).map fun i => (f.offset, i.size)) = some l
  | [], l, h => by simp only [placesL, Option.some.injEq] at h; subst h; rfl
  | f :: fs, l, h => by
    simp only [placesL] at h
    cases hs : sz P f.type with
    | none => simp [hs] at h
    | some s =>
      simp only [hs] at h
      cases hl : placesL P fs with
      | none => simp [hl] at h
      | some l' =>
        simp only [hl, Option.some.injEq] at h; subst h
        obtain ⟨i, hi, rfl⟩ := info_of_sz hs
        simp [List.mapM_cons, hi, placesL_eq hl]

theorem bld_sim {ρ : Rho} {h : Hp} {t : TypeId} {ps : List (Nat × V)} {parts : Array (Nat × Value)} {z v : V} {d : TypeDesc} {h' : Hp} (hp : PartR ρ ps parts.toList) (hz : zero P t = some z)
    (hu : P.underlying t = some d) (hv : bld P h ps z d = some (v, h')) (w : World) : h' = h ∧ ∃ x, (Instr.build t parts).run P w = .ok x w ∧ Rel ρ v x := by
  obtain ⟨i, x, hi, hx, hr⟩ := info_of_zero (ρ := ρ) hz
  cases d <;> simp only [bld, reduceCtorEq] at hv
  case struct fields =>
    cases hl : placesL P fields.toList with
    | none => simp [hl, bldStruct] at hv
    | some pl =>
      simp only [hl, bldStruct] at hv
      cases hf : fillV (getN pl) (vcells z) ps with
      | none => simp [hf] at hv
      | some cs =>
        simp only [hf, Option.some.injEq, Prod.mk.injEq] at hv
        obtain ⟨rfl, rfl⟩ := hv
        have hfun : (getN pl) = fun i : Nat => pl.toArray[i]? := by funext i; rw [getN_eq]; simp
        rw [hfun] at hf
        obtain ⟨arr', e1, e2⟩ := fill_sim hp hr.cells hf
        refine ⟨rfl, .agg arr', ?_, .agg e2.1 e2.2⟩
        refine run_build w t parts arr' ?_
        unfold Program.built
        simp only [hi, hu, hx, placesL_eq hl]
        exact e1
  case array n e =>
    cases hs : sz P e with
    | none => simp [hs] at hv
    | some s =>
      simp only [hs, bldArr] at hv
      cases hf : fillV (fun i => some (i * s, s)) (vcells z) ps with
      | none => simp [hf] at hv
      | some cs =>
        simp only [hf, Option.some.injEq, Prod.mk.injEq] at hv
        obtain ⟨rfl, rfl⟩ := hv
        obtain ⟨arr', e1, e2⟩ := fill_sim hp hr.cells hf
        obtain ⟨ie, hie, rfl⟩ := info_of_sz hs
        refine ⟨rfl, .agg arr', ?_, .agg e2.1 e2.2⟩
        refine run_build w t parts arr' ?_
        unfold Program.built
        simp only [hi, hu, hx, hie]
        exact e1

theorem partV_sim {ρ : Rho} {cs : List V} {xs : List Value} {t : TypeId} {off : Nat} {v : V} (hc : RelL ρ cs xs) (h : partV P cs t off = some v) (w : World) : ∃ x, (part t ⟨xs⟩ off).run P w = .ok x w ∧ Rel ρ v x := by
  unfold partV at h
  cases ha : aggT P t with
  | none => simp [ha] at h
  | some q =>
    cases q with
    | true =>
      simp only [ha] at h
      cases hs : sz P t with
      | none => simp [hs] at h
      | some s =>
        simp only [hs, Option.some.injEq] at h; subst h
        have := (hc.drop off).take s
        refine ⟨.agg ⟨(xs.drop off).take s⟩, ?_, .agg this.1 this.2⟩
        simp only [part, Sem.run_bind, run_agg ha, Result.andThen_ok, if_true, run_sz hs, Sem.run_pure]
        congr 2
        apply Array.ext'
        simp [List.extract_eq_take_drop]
    | false =>
      simp only [ha] at h
      rw [getN_eq] at h
      obtain ⟨x, h1, h2⟩ := hc.get h
      refine ⟨x, ?_, h2⟩
      have h1' : (⟨xs⟩ : Array Value)[off]? = some x := by simpa using h1
      simp only [part, Sem.run_bind, run_agg ha, Result.andThen_ok, h1']
      simp

theorem natA_spec {v : Option V} {n : Nat} (h : natA v = some n) : ∃ k, v = some (.int k (n : Int)) := by
  unfold natA at h
  split at h
  · rename_i k m; simp only [Option.some.injEq] at h; subst h; exact ⟨k, rfl⟩
  · cases h
theorem bound_sim {ρ : Rho} {a : Act} {t : Tr V} {d n : Nat} {y : Option Operand} (ho : ∀ x, y = some x → ∀ v, evalO t x = some v → Rel ρ v (a.eval x)) (h : bound t d y = some n) :
    (y = none ∧ n = d) ∨ ∃ x k, y = some x ∧ a.eval x = .int k (n : Int) := by
  cases y with
  | none => simp only [bound, Option.some.injEq] at h; exact .inl ⟨rfl, h.symm⟩
  | some x =>
    simp only [bound] at h
    obtain ⟨k, hk⟩ := natA_spec h
    have := ho x rfl _ hk
    cases he : a.eval x <;> rw [he] at this <;> cases this
    exact .inr ⟨x, _, rfl, by rw [he]⟩
theorem run_bound {x : Value} {k : IntKind} {n y : Nat} (hx : x = .int k (n : Int)) (hn : n ≤ y) (c : BoundsCode) (w : World) : (Instr.sliceBound x y c).run P w = .ok n w := by
  subst hx
  simp only [Instr.sliceBound, asIntOf, pure_bind]
  rw [if_pos (by omega)]
  simp

theorem mapGet_sim {ρ : Rho} {d : TypeDesc} {k : V} {kx : Value} (hk : Rel ρ k kx) (hok : keyOk (some d) k = true) : ∀ {es : List (V × V)} {ents : List MapEntry} {r : Option V} (n : Nat), es.length = ents.length →
    (∀ (i : Nat) a b e, es[i]? = some (a, b) → ents[i]? = some e → Rel ρ a e.key ∧ Rel ρ b e.val) → mapGet k es = some r →
    (r = none ∧ Instr.findNow d kx ents n = some none) ∨ ∃ v x i, r = some v ∧ Instr.findNow d kx ents n = some (some (n + i, x)) ∧ Rel ρ v x ∧ i < ents.length
  | [], ents, r, n, hl, _, h => by
    have : ents = [] := List.eq_nil_of_length_eq_zero hl.symm
    subst this
    simp only [mapGet, Option.some.injEq] at h
    exact .inl ⟨h.symm, rfl⟩
  | (k', u) :: es, [], r, n, hl, _, h => by simp at hl
  | (k', u) :: es, e :: ents, r, n, hl, hr, h => by
    have hl' : es.length = ents.length := by simpa using hl
    obtain ⟨h1, h2⟩ := hr 0 k' u e rfl rfl
    have hr' : ∀ (i : Nat) a b e, es[i]? = some (a, b) → ents[i]? = some e → Rel ρ a e.key ∧ Rel ρ b e.val := fun i a b e x y => hr (i + 1) a b e (by simpa using x) (by simpa using y)
    have next : mapGet k es = some r → Instr.sameNow d kx e.key = some false →
        (r = none ∧ Instr.findNow d kx (e :: ents) n = some none) ∨ ∃ v x i, r = some v ∧ Instr.findNow d kx (e :: ents) n = some (some (n + i, x)) ∧ Rel ρ v x ∧ i < (e :: ents).length := by
      intro hm hs
      have hf : Instr.findNow d kx (e :: ents) n = Instr.findNow d kx ents (n + 1) := by simp only [Instr.findNow, hs]
      rw [hf]
      rcases mapGet_sim hk hok (n + 1) hl' hr' hm with ⟨a, b⟩ | ⟨v, x, i, a, b, c, g⟩
      · exact .inl ⟨a, b⟩
      · exact .inr ⟨v, x, i + 1, a, by rw [b]; congr 3; omega, c, by simp; omega⟩
    have hit : r = some u → Instr.sameNow d kx e.key = some true →
        (r = none ∧ Instr.findNow d kx (e :: ents) n = some none) ∨ ∃ v x i, r = some v ∧ Instr.findNow d kx (e :: ents) n = some (some (n + i, x)) ∧ Rel ρ v x ∧ i < (e :: ents).length := by
      intro hm hs
      exact .inr ⟨u, e.val, 0, hm, by simp only [Instr.findNow, hs, Nat.add_zero], h2, by simp⟩
    have hkey : ∃ ek, ek = e.key := ⟨_, rfl⟩
    obtain ⟨ek, hek⟩ := hkey
    rw [← hek] at h1 next hit
    cases hk with
    | int a x =>
      cases d <;> simp only [keyOk, Bool.false_eq_true] at hok
      cases h1 <;> simp only [mapGet, reduceCtorEq] at h
      rename_i b y
      cases hkk : kEq a b with
      | false => simp [hkk] at h
      | true =>
        have := kEq_eq hkk; subst this
        simp only [hkk, cond_true] at h
        cases hi : iEq x y with
        | true =>
          simp only [hi, cond_true, Option.some.injEq] at h
          exact hit h.symm (by rw [iEq_eq] at hi; simp only [Instr.sameNow, if_true, hi])
        | false =>
          simp only [hi, cond_false] at h
          exact next h (by rw [iEq_eq] at hi; simp only [Instr.sameNow, if_true, hi])
    | str x =>
      cases d <;> simp only [keyOk, Bool.false_eq_true] at hok
      cases h1 <;> simp only [mapGet, reduceCtorEq] at h
      rename_i y
      have hb : (ByteArray.mk ⟨x.l⟩ == ByteArray.mk ⟨y.l⟩) = x.eq y := by
        rw [beq_toListBytes, ByteArray.toList_eq, ByteArray.toList_eq, Bs.eq_eq]
      cases hi : x.eq y with
      | true =>
        simp only [hi, cond_true, Option.some.injEq] at h
        exact hit h.symm (by simp only [Instr.sameNow, hb, hi])
      | false =>
        simp only [hi, cond_false] at h
        exact next h (by simp only [Instr.sameNow, hb, hi])
    | bool x =>
      cases d <;> simp only [keyOk, Bool.false_eq_true] at hok
      cases h1 <;> simp only [mapGet, reduceCtorEq] at h
      rename_i y
      cases hi : (x == y) with
      | true =>
        simp only [hi, cond_true, Option.some.injEq] at h
        exact hit h.symm (by simp only [Instr.sameNow, hi])
      | false =>
        simp only [hi, cond_false] at h
        exact next h (by simp only [Instr.sameNow, hi])
    | _ => cases d <;> simp [keyOk] at hok
theorem run_checkKey {key : TypeId} {d : TypeDesc} {k : V} {kx : Value} {ρ : Rho} (hk : Rel ρ k kx) (hu : P.underlying key = some d) (hok : keyOk (some d) k = true) (b : Bool) (w : World) :
    (Instr.checkKey b 10000 key kx).run P w = .ok () w := by
  have : ∀ n, (Instr.checkKey b (n + 1) key kx).run P w = .ok () w := by
    intro n
    cases hk <;> cases d <;> simp only [keyOk, Bool.false_eq_true] at hok <;> simp only [Instr.checkKey, Sem.run_bind, run_underlying hu, Result.andThen_ok, Sem.run_pure]
  exact this 9999
end Go.Mid
