/- The operations of MidBB are the model's. -/
import Derived.Test.YtdiiilfokajddaaGreatDoorLMidBB
set_option linter.all false
namespace Go.Mid
open Go.RowKit
variable {P : Program}

theorem typeInfo_run {t : TypeId} {i : TypeInfo} (h : P.info? t = some i) (w : World) : (typeInfo t).run P w = .ok i w := by
  simp only [typeInfo, Sem.run_bind, run_program, Result.andThen_ok, h, Sem.run_pure]
theorem eqLeaf_sim {ρ : Rho} {d : TypeDesc} {a b : V} {x y : Value} {r : Bool} (h : eqLeaf d a b = some r) (ha : Rel ρ a x) (hb : Rel ρ b y) {t : TypeId} (hu : P.underlying t = some d) (n : Nat) (w : World) :
    (Op.equalIn (n + 1) t x y).run P w = .ok r w := by
  cases d <;> cases ha <;> simp only [eqLeaf, reduceCtorEq] at h <;> cases hb <;> simp only [eqLeaf, Option.some.injEq, reduceCtorEq] at h
  · subst h; exact run_equalIn_bool' w n t _ _ hu
  · rename_i k a k' b
    cases hk : kEq k k' with
    | false => rw [hk] at h; cases h
    | true =>
      have := kEq_eq hk; subst this
      rw [hk] at h
      simp only [cond_true, Option.some.injEq] at h
      subst h
      rw [iEq_eq]
      exact run_equalIn_int w n t _ _ _ _ hu
  · subst h
    rw [sEq_eq]
    have := run_equalIn_string (P := P) w n t (ByteArray.mk ⟨‹List UInt8›⟩) (ByteArray.mk ⟨‹List UInt8›⟩) hu
    rw [run_equalIn_string w n t _ _ hu, ByteArray.toList_eq, ByteArray.toList_eq]
theorem run_part {t : TypeId} {d : TypeDesc} (hu : P.underlying t = some d) (hd : leafD d = true) {xs : Array Value} {i : Nat} {x : Value} (hx : xs[i]? = some x) (w : World) : (part t xs i).run P w = .ok x w := by
  cases d <;> simp only [leafD, Bool.false_eq_true] at hd <;>
    simp only [part, isAgg, Sem.run_bind, run_underlying hu, Result.andThen_ok, Sem.run_pure, Bool.false_eq_true, if_false, hx]
theorem cmpL_sim {ρ : Rho} {n : Nat} {w : World} : ∀ {fs : List Field} {l : List (Nat × TypeDesc)} {cs ds : List V} {xs ys : List Value} {r : Bool}, leafL P fs = some l → RelL ρ cs xs → RelL ρ ds ys → cmpL l cs ds = some r →
    (Op.eqFields (n + 1) ⟨xs⟩ ⟨ys⟩ fs).run P w = .ok r w
  | [], l, cs, ds, xs, ys, r, hl, _, _, h => by
    simp only [leafL, Option.some.injEq] at hl; subst hl
    simp only [cmpL, Option.some.injEq] at h; subst h
    rfl
  | f :: fs, l, cs, ds, xs, ys, r, hl, hc, hd, h => by
    simp only [leafL] at hl
    cases hu : P.underlying f.type with
    | none => rw [hu] at hl; cases hl
    | some d =>
      rw [hu] at hl
      simp only at hl
      cases hb : ((f.name == "_") || !leafD d) with
      | true => rw [hb] at hl; cases hl
      | false =>
        rw [hb] at hl
        simp only [cond_false] at hl
        simp only [Bool.or_eq_false_iff, Bool.not_eq_false'] at hb
        have hname : f.name ≠ "_" := by simpa using hb.1
        cases hl' : leafL P fs with
        | none => rw [hl'] at hl; cases hl
        | some l' =>
          rw [hl'] at hl
          simp only [Option.some.injEq] at hl; subst hl
          simp only [cmpL, getN_eq] at h
          cases hx : cs[f.offset]? with
          | none => rw [hx] at h; cases h
          | some u =>
            cases hy : ds[f.offset]? with
            | none => rw [hx, hy] at h; cases h
            | some v =>
              rw [hx, hy] at h
              simp only at h
              obtain ⟨x, hx1, hx2⟩ := hc.get hx
              obtain ⟨y, hy1, hy2⟩ := hd.get hy
              simp only [Op.eqFields, if_pos hname, Sem.run_bind]
              rw [run_part hu hb.2 (xs := ⟨xs⟩) (by simpa using hx1), Result.andThen_ok, run_part hu hb.2 (xs := ⟨ys⟩) (by simpa using hy1), Result.andThen_ok]
              cases he : eqLeaf d u v with
              | none => rw [he] at h; cases h
              | some q =>
                rw [he] at h
                rw [eqLeaf_sim he hx2 hy2 hu n w, Result.andThen_ok]
                cases q with
                | false =>
                  simp only [Option.some.injEq] at h; subst h
                  rfl
                | true =>
                  simp only at h
                  have := cmpL_sim (ρ := ρ) (n := n) (w := w) hl' hc hd h
                  simpa using this
theorem binEq_run {op : BinOp} {q : Bool} {v : V} {t : TypeId} {x y : Value} {w : World} (h : eqOp op (some q) = some v) (he : (Op.equal t x y).run P w = .ok q w) (hx : (∃ c, x = .agg c) ∨ x = .nilIface ∨ ∃ t z, x = .iface t z) {ρ : Rho} :
    ∃ r, (binOp op t x y).run P w = .ok r w ∧ Rel ρ v r := by
  have e : (op = .eql → (binOp op t x y).run P w = ((Op.equal t x y).run P w).andThen fun b w => .ok (.bool b) w) ∧ (op = .neq → (binOp op t x y).run P w = ((Op.equal t x y).run P w).andThen fun b w => .ok (.bool (!b)) w) := by
    rcases hx with ⟨c, rfl⟩ | rfl | ⟨t', z, rfl⟩
    all_goals exact ⟨fun e => by subst e; cases y <;> simp only [binOp, Sem.run_bind, Sem.run_pure], fun e => by subst e; cases y <;> simp only [binOp, Sem.run_bind, Sem.run_pure]⟩
  cases op <;> simp only [eqOp, Option.some.injEq, reduceCtorEq] at h <;> subst h
  · refine ⟨.bool q, ?_, .bool _⟩
    rw [e.1 rfl, he]; rfl
  · refine ⟨.bool (!q), ?_, .bool _⟩
    rw [e.2 rfl, he]; rfl
theorem eqX_sim {ρ : Rho} {op : BinOp} {ty : TypeId} {a b v : V} {x y : Value} {ox oy : Operand} (h : eqOp op (eqX P ty (isK ox || isK oy) a b) = some v) (ha : Rel ρ a x) (hb : Rel ρ b y) (w : World) :
    ∃ r, (do eqGuard op ty ox oy x y; binOp op ty x y : Sem Value).run P w = .ok r w ∧ Rel ρ v r := by
  have hne : ∃ q, eqX P ty (isK ox || isK oy) a b = some q := by
    cases he : eqX P ty (isK ox || isK oy) a b with
    | none => rw [he] at h; cases op <;> cases h
    | some q => exact ⟨q, rfl⟩
  obtain ⟨q, hq⟩ := hne
  rw [hq] at h
  unfold eqX at hq
  cases hu : P.underlying ty with
  | none => rw [hu] at hq; cases hq
  | some d =>
    rw [hu] at hq
    cases d <;> simp only [reduceCtorEq] at hq
    case interface ms =>
      have plain : ∀ q', (∀ n, (Op.equalIn (n + 1) ty x y).run P w = .ok q' w) → (Op.equal ty x y).run P w = .ok q' w := fun q' e => e 9999
      cases ha <;> simp only [cmpI, reduceCtorEq] at hq <;> cases hb <;> simp only [cmpI, Option.some.injEq, reduceCtorEq] at hq
      · rename_i t1 v1 x1 h1 t2 v2 x2 h2
        cases ht : Nat.beq t1 t2 with
        | true =>
          rw [ht] at hq
          have := Nat.eq_of_beq_eq_true ht; subst this
          simp only [cond_true, cmpD] at hq
          cases hi : P.info? t1 with
          | none => rw [hi] at hq; cases hq
          | some i =>
            rw [hi] at hq
            simp only at hq
            cases hcm : i.comparable with
            | false => rw [hcm] at hq; cases hq
            | true =>
              rw [hcm] at hq
              simp only [cond_true] at hq
              cases hd : P.underlying t1 with
              | none => rw [hd] at hq; cases hq
              | some d =>
                rw [hd] at hq
                simp only at hq
                cases hlf : leafD d with
                | false => rw [hlf] at hq; cases hq
                | true =>
                  rw [hlf] at hq
                  simp only [cond_true] at hq
                  rw [Sem.run_bind, run_guard ty ox oy _ _ w (by simp) (by simp), Result.andThen_ok]
                  refine binEq_run h ?_ (.inr (.inr ⟨_, _, rfl⟩))
                  show (Op.equalIn (9998 + 1 + 1) ty _ _).run P w = _
                  rw [Op.equalIn]
                  simp only [Sem.run_bind, run_underlying hu, Result.andThen_ok, ne_eq, not_true_eq_false, if_false, typeInfo_run hi w, hcm, Bool.not_true, Bool.false_eq_true]
                  exact eqLeaf_sim hq h1 h2 hd 9998 w
        | false =>
          rw [ht] at hq
          simp only [cond_false, Option.some.injEq] at hq; subst hq
          have hne : t1 ≠ t2 := fun e => by subst e; simp at ht
          rw [Sem.run_bind, run_guard ty ox oy _ _ w (by simp) (by simp), Result.andThen_ok]
          exact binEq_run h (plain false fun n => by simp only [Op.equalIn, Sem.run_bind, run_underlying hu, Result.andThen_ok, if_pos hne, Sem.run_pure]) (.inr (.inr ⟨_, _, rfl⟩))
      · subst hq
        rw [Sem.run_bind, run_guard ty ox oy _ _ w (by simp) (by simp), Result.andThen_ok]
        exact binEq_run h (plain false fun n => by simp only [Op.equalIn, Sem.run_bind, run_underlying hu, Result.andThen_ok, Sem.run_pure]) (.inr (.inr ⟨_, _, rfl⟩))
      · subst hq
        rw [Sem.run_bind, run_guard ty ox oy _ _ w (by simp) (by simp), Result.andThen_ok]
        exact binEq_run h (plain false fun n => by simp only [Op.equalIn, Sem.run_bind, run_underlying hu, Result.andThen_ok, Sem.run_pure]) (.inr (.inl rfl))
      · cases hk : (isK ox || isK oy) with
        | false => rw [hk] at hq; cases hq
        | true =>
          rw [hk] at hq
          simp only [cond_true, Option.some.injEq] at hq; subst hq
          have hg : (eqGuard op ty ox oy .nilIface .nilIface).run P w = .ok () w := by
            unfold eqGuard
            cases op <;> cases ox <;> cases oy <;> first | rfl | (simp [isK] at hk; done)
          rw [Sem.run_bind, hg, Result.andThen_ok]
          exact binEq_run h (plain true fun n => by simp only [Op.equalIn, Sem.run_bind, run_underlying hu, Result.andThen_ok, Sem.run_pure]) (.inr (.inl rfl))
    case struct fs =>
      cases hg : (P.eqGuardType P.depth ty || P.stoodInHeld ty) with
      | true => rw [hg] at hq; cases hq
      | false =>
        rw [hg] at hq
        simp only [cond_false] at hq
        simp only [Bool.or_eq_false_iff] at hg
        cases hl : leafL P fs.toList with
        | none => rw [hl] at hq; cases hq
        | some l =>
          rw [hl] at hq
          simp only at hq
          cases ha <;> simp only [cmpV, reduceCtorEq] at hq
          cases hb <;> simp only [cmpV, reduceCtorEq] at hq
          rename_i cs xs h1 h2 ds ys h3 h4
          rw [Sem.run_bind, run_eqGuard_agg w op ty ox oy _ _ hg.1, Result.andThen_ok]
          have hf : P.fieldsOf ty = fs := by unfold Program.fieldsOf; rw [hu]
          refine binEq_run h ?_ (.inl ⟨_, rfl⟩)
          show (Op.equalIn (9998 + 1 + 1) ty _ _).run P w = _
          rw [run_equalIn_struct w (9998 + 1) ty _ _ (by rw [hf]; exact hu) hg.2, hf]
          exact cmpL_sim hl ⟨h1, h2⟩ ⟨h3, h4⟩ hq
theorem xorV_sim {ρ : Rho} {a v : V} {x : Value} (h : xorV a = some v) (ha : Rel ρ a x) (w : World) : ∃ r, (Op.unary .xor x).run P w = .ok r w ∧ Rel ρ v r := by
  cases ha <;> simp only [xorV, Option.some.injEq, reduceCtorEq] at h
  subst h
  exact ⟨_, rfl, .int _ _⟩
theorem capV_sim {ρ : Rho} {a v : V} {x : Value} (h : capV a = some v) (ha : Rel ρ a x) {ty e : TypeId} (hu : P.underlying ty = some (.slice e)) {tys : Array TypeId} (ht : tys[0]? = some ty) {xs : Array Value} (hx : xs[0]? = some x) (rt : TypeId) (w : World) :
    ∃ r, (Builtin.cap_ tys rt xs).run P w = .ok r w ∧ Rel ρ v r := by
  unfold Builtin.cap_
  cases ha <;> simp only [capV, Option.some.injEq, reduceCtorEq] at h <;> subst h <;>
    (simp only [ht, hx, Sem.run_bind, run_underlying hu, Result.andThen_ok]; exact ⟨_, rfl, .int _ _⟩)
theorem maxV_sim {ρ : Rho} {a b v : V} {x y : Value} (h : maxV a b = some v) (ha : Rel ρ a x) (hb : Rel ρ b y) (tys : Array TypeId) (rt : TypeId) (w : World) : ∃ r, (Builtin.max_ tys rt #[x, y]).run P w = .ok r w ∧ Rel ρ v r := by
  cases ha <;> simp only [maxV, reduceCtorEq] at h <;> cases hb <;> simp only [maxV, reduceCtorEq] at h
  rename_i k a k' b
  cases hk : kEq k k' with
  | false => rw [hk] at h; cases h
  | true =>
    rw [hk] at h
    simp only [cond_true, Option.some.injEq] at h
    subst h
    refine ⟨.int k (if b > a then b else a), rfl, ?_⟩
    rw [iLt_eq]
    by_cases hab : a < b
    · rw [if_pos hab]; simp only [hab, decide_true, cond_true]; exact .int _ _
    · rw [if_neg hab]; simp only [hab, decide_false, cond_false]; exact .int _ _
theorem minV_sim {ρ : Rho} {a b v : V} {x y : Value} (h : minV a b = some v) (ha : Rel ρ a x) (hb : Rel ρ b y) (tys : Array TypeId) (rt : TypeId) (w : World) : ∃ r, (Builtin.min_ tys rt #[x, y]).run P w = .ok r w ∧ Rel ρ v r := by
  cases ha <;> simp only [minV, reduceCtorEq] at h <;> cases hb <;> simp only [minV, reduceCtorEq] at h
  rename_i k a k' b
  cases hk : kEq k k' with
  | false => rw [hk] at h; cases h
  | true =>
    rw [hk] at h
    simp only [cond_true, Option.some.injEq] at h
    subst h
    refine ⟨.int k (if b < a then b else a), rfl, ?_⟩
    rw [iLt_eq]
    by_cases hab : b < a
    · rw [if_pos hab]; simp only [hab, decide_true, cond_true]; exact .int _ _
    · rw [if_neg hab]; simp only [hab, decide_false, cond_false]; exact .int _ _
theorem bytesV_sim {ρ : Rho} : ∀ {cs : List V} {xs : List Value} {l : List UInt8}, bytesV cs = some l → RelL ρ cs xs → xs.length = l.length ∧ ∀ (i : Nat) x, xs[i]? = some x → ∃ n, x = .int .u8 n ∧ l[i]? = some (UInt8.ofNat n.toNat)
  | [], xs, l, h, hr => by
    simp only [bytesV, Option.some.injEq] at h; subst h
    rw [hr.nil_inv]
    exact ⟨rfl, fun i x h => by simp at h⟩
  | v :: cs, xs, l, h, hr => by
    obtain ⟨x, xs', rfl, h1, h2⟩ := hr.cons_inv
    cases h1 <;> try (simp only [bytesV, reduceCtorEq] at h; done)
    rename_i k n
    cases k <;> try (simp only [bytesV, reduceCtorEq] at h; done)
    simp only [bytesV] at h
    cases hb : bytesV cs with
    | none => rw [hb] at h; cases h
    | some r =>
      rw [hb] at h
      simp only [Option.some.injEq] at h; subst h
      obtain ⟨h3, h4⟩ := bytesV_sim hb h2
      refine ⟨by simp [h3], fun i x hx => ?_⟩
      cases i with
      | zero => simp only [List.getElem?_cons_zero, Option.some.injEq] at hx; subst hx; exact ⟨n, rfl, rfl⟩
      | succ i => simpa using h4 i x (by simpa using hx)
end Go.Mid
