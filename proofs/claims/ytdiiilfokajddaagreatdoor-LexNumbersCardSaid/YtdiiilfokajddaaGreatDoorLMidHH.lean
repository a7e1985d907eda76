/- Two functions of the library whose answers their contracts tell: strings.Contains, strings.Join. -/
import Derived.Test.YtdiiilfokajddaaGreatDoorLMidGG
import Derived.Lib.IndexMore
import Derived.Lib.Join
set_option linter.all false
namespace Go.Mid
open Go.RowKit
variable {P : Program}

/-! strings.Contains -/
noncomputable def preB : List UInt8 → List UInt8 → Bool
  | [], _ => true
  | _ :: _, [] => false
  | a :: x, b :: y => bif Nat.beq a.toNat b.toNat then preB x y else false
noncomputable def hasB : List UInt8 → List UInt8 → Bool
  | [], sub => preB sub []
  | b :: l, sub => bif preB sub (b :: l) then true else hasB l sub
theorem preB_eq : ∀ x y, preB x y = List.isPrefixOf x y
  | [], y => by cases y <;> rfl
  | _ :: _, [] => rfl
  | a :: x, b :: y => by
    rw [preB, List.isPrefixOf, preB_eq x y]
    have : Nat.beq a.toNat b.toNat = (a == b) := by
      by_cases h : a = b
      · subst h; simp [Nat.beq_refl]
      · have h1 : (a == b) = false := beq_false_of_ne h
        rw [h1]
        cases hb : Nat.beq a.toNat b.toNat with
        | false => rfl
        | true => exact absurd (UInt8.toNat_inj.1 (Nat.eq_of_beq_eq_true hb)) h
    rw [this]
    cases (a == b) <;> rfl
theorem hasB_eq : ∀ s sub, hasB s sub = Lib.contains s sub
  | [], sub => by
    rw [hasB, preB_eq]
    unfold Lib.contains Lib.index
    cases sub <;> rfl
  | b :: l, sub => by
    rw [hasB, preB_eq, hasB_eq l sub]
    unfold Lib.contains
    rw [show Lib.index (b :: l) sub = if sub.isPrefixOf (b :: l) then 0 else if Lib.index l sub == -1 then -1 else Lib.index l sub + 1 from rfl]
    cases sub.isPrefixOf (b :: l) with
    | true => simp
    | false =>
      have := Lib.index_ge l sub
      by_cases h : Lib.index l sub = -1
      · simp [h]
      · have h0 : (Lib.index l sub == -1) = false := beq_false_of_ne h
        simp only [cond_false, Bool.false_eq_true, if_false, h0]
        rw [decide_eq_true (by omega), decide_eq_true (by omega)]
noncomputable def containsF (vs : List V) (h : Hp) : Option (V × Hp) :=
  match vs with
  | [.str s, .str sub] => bif Nat.ble s.length 2147483648 then some (.bool (hasB s sub), h) else none
  | _ => none
def ContainsC (P : Program) (f : FuncId) (I : World → Prop) : Prop := ∀ (s sub : ByteArray) (w : World), I w → s.size < 4294967281 → Calls P f #[.string s, .string sub] w fun e w' => e = .returned (.bool (Lib.contains s.data.toList sub.data.toList)) ∧ w' = w
theorem containsF_sim [Orc] [Res] {f : FuncId} {fn : Func} (hf : P.funcs[f]? = some fn) (hb : fn.body.isNone = false) {I : World → Prop} (hc : ContainsC P f I) {w0 w : World} (hI : I w)
    {as : List V} {h h' : Hp} {v : V} (hs : containsF as h = some (v, h')) {ρ : Rho} {xs : List Value} (H : R P w0 w h ρ) (ha : RelL ρ as xs) : CallR P f ⟨xs⟩ w fun e w' => ∃ x ρ', e = .returned x ∧ Rel ρ' v x ∧ Ext ρ ρ' ∧ R P w0 w' h' ρ' := by
  unfold containsF at hs
  split at hs <;> try (cases hs; done)
  rename_i s sub
  cases hle : Nat.ble s.length 2147483648 with
  | false => rw [hle] at hs; cases hs
  | true =>
    rw [hle] at hs
    simp only [cond_true, Option.some.injEq, Prod.mk.injEq] at hs
    obtain ⟨rfl, rfl⟩ := hs
    obtain ⟨x, xs', rfl, h1, h2⟩ := ha.cons_inv
    obtain ⟨y, ys', rfl, h3, h4⟩ := h2.cons_inv
    have := h4.nil_inv
    subst this
    cases h1; cases h3
    refine .inl ⟨⟨fn, hf, hb⟩, (hc _ _ w hI ?_).mono ?_⟩
    · have := Nat.le_of_ble_eq_true hle
      show s.length < _
      omega
    · rintro e w' ⟨rfl, rfl⟩
      exact ⟨_, ρ, rfl, by rw [hasB_eq]; exact .bool _, Ext.refl _, H⟩

/-! strings.Join -/
noncomputable def strsV : List V → Option (List (List UInt8))
  | [] => some []
  | .str s :: l => (match strsV l with
    | some r => some (s :: r)
    | none => none)
  | _ => none
noncomputable def joinGo (sep : List UInt8) (n : Nat) (h : Hp) : Option (List V) → Option (V × Hp)
  | none => none
  | some l => (match strsV l with
    | some r => bif Nat.ble n 65536 && Nat.ble (Lib.join r sep).length 1048576 then some (.str (Lib.join r sep), h) else none
    | none => none)
noncomputable def joinF (eS : TypeId) (vs : List V) (h : Hp) : Option (V × Hp) :=
  match vs with
  | [.nilSlice, .str _] => some (.str [], h)
  | [.slice b o n k g, .str sep] => (match h.t.get b with
    | some (.cells c _ gr e) => bif Nat.beq e eS && (bif g then gr && Nat.beq k 0 else Nat.ble n k) then joinGo sep n h (c.getL o n) else none
    | _ => none)
  | _ => none
def JoinC (P : Program) (f : FuncId) : Prop := (∀ (a : Option Addr) (c : Nat) (sep : ByteArray) (w : World), Calls P f #[.slice a 0 c, .string sep] w fun e w' => e = .returned (.string ⟨#[]⟩) ∧ w' = w) ∧
  ∀ (bk o c : Nat) (xs : List ByteArray) (sep : ByteArray) (w : World), (∀ (j : Nat) x, xs[j]? = some x → w.cell? ⟨bk, o + j, none⟩ = some (.string x)) → bk < w.heap.size → xs.length ≤ 140737488355328 → xs.length ≤ c →
    (Lib.join (xs.map (·.data.toList)) sep.data.toList).length ≤ 140737488355328 →
    Calls P f #[.slice (some ⟨bk, o, none⟩) xs.length c, .string sep] w fun e w' => e = .returned (.string ⟨(Lib.join (xs.map (·.data.toList)) sep.data.toList).toArray⟩) ∧ Below w.heap.size w w'
theorem strsV_sim {ρ : Rho} : ∀ {cs : List V} {xs : List Value} {l : List (List UInt8)}, strsV cs = some l → RelL ρ cs xs → ∃ bs : List ByteArray, xs = bs.map Value.string ∧ bs.map (·.data.toList) = l
  | [], xs, l, h, hr => by
    simp only [strsV, Option.some.injEq] at h; subst h
    rw [hr.nil_inv]; exact ⟨[], rfl, rfl⟩
  | c :: cs, xs, l, h, hr => by
    obtain ⟨x, xs', rfl, h1, h2⟩ := hr.cons_inv
    cases h1 <;> try (simp only [strsV, reduceCtorEq] at h; done)
    rename_i s
    simp only [strsV] at h
    cases hb : strsV cs with
    | none => rw [hb] at h; cases h
    | some r =>
      rw [hb] at h
      simp only [Option.some.injEq] at h
      subst h
      obtain ⟨bs, rfl, rfl⟩ := strsV_sim hb h2
      exact ⟨⟨⟨s⟩⟩ :: bs, rfl, rfl⟩
theorem joinF_sim [Orc] [Res] {f : FuncId} {fn : Func} (hf : P.funcs[f]? = some fn) (hb : fn.body.isNone = false) (hc : JoinC P f) {eS : TypeId} (hce : P.cellsOf eS = 1) {w0 w : World}
    {as : List V} {h h' : Hp} {v : V} (hs : joinF eS as h = some (v, h')) {ρ : Rho} {xs : List Value} (H : R P w0 w h ρ) (ha : RelL ρ as xs) : CallR P f ⟨xs⟩ w fun e w' => ∃ x ρ', e = .returned x ∧ Rel ρ' v x ∧ Ext ρ ρ' ∧ R P w0 w' h' ρ' := by
  unfold joinF at hs
  split at hs <;> try (cases hs; done)
  · rename_i sep
    simp only [Option.some.injEq, Prod.mk.injEq] at hs
    obtain ⟨rfl, rfl⟩ := hs
    obtain ⟨x, xs', rfl, h1, h2⟩ := ha.cons_inv
    obtain ⟨y, ys', rfl, h3, h4⟩ := h2.cons_inv
    have := h4.nil_inv
    subst this
    cases h1; cases h3
    refine .inl ⟨⟨fn, hf, hb⟩, (hc.1 none 0 _ w).mono ?_⟩
    rintro e w' ⟨rfl, rfl⟩
    exact ⟨_, ρ, rfl, .str [], Ext.refl _, H⟩
  · rename_i b o n k g sep
    split at hs <;> try (cases hs; done)
    rename_i c nb gr e hg
    cases hcond : (Nat.beq e eS && (bif g then gr && Nat.beq k 0 else Nat.ble n k)) with
    | false => rw [hcond] at hs; cases hs
    | true =>
      rw [hcond] at hs
      simp only [cond_true] at hs
      simp only [Bool.and_eq_true] at hcond
      obtain ⟨he, hk⟩ := hcond
      have he := Nat.eq_of_beq_eq_true he
      subst he
      cases hl : c.getL o n with
      | none => rw [hl] at hs; cases hs
      | some l =>
        rw [hl] at hs
        simp only [joinGo] at hs
        cases hr : strsV l with
        | none => rw [hr] at hs; cases hs
        | some r =>
          rw [hr] at hs
          simp only at hs
          cases hle : (Nat.ble n 65536 && Nat.ble (Lib.join r sep).length 1048576) with
          | false => rw [hle] at hs; cases hs
          | true =>
            rw [hle] at hs
            simp only [cond_true, Option.some.injEq, Prod.mk.injEq] at hs
            obtain ⟨rfl, rfl⟩ := hs
            simp only [Bool.and_eq_true] at hle
            have hn := Nat.le_of_ble_eq_true hle.1
            have hj := Nat.le_of_ble_eq_true hle.2
            obtain ⟨x, xs', rfl, h1, h2⟩ := ha.cons_inv
            obtain ⟨y, ys', rfl, h3, h4⟩ := h2.cons_inv
            have := h4.nil_inv
            subst this
            cases h3
            have key : ∀ lc, ρ b = some lc → ∀ cap, n ≤ cap → CallR P f ⟨[.slice (some ⟨lc.blk, lc.base + o, none⟩) n cap, .string ⟨⟨sep⟩⟩]⟩ w fun e w' => ∃ x ρ', e = .returned x ∧ Rel ρ' (.str (Lib.join r sep)) x ∧ Ext ρ ρ' ∧ R P w0 w' h ρ' := by
              intro lc hρ cap hcap
              obtain ⟨arr, C⟩ := H.live b lc _ hρ hg
              obtain ⟨ys, e1, e2, e3⟩ := getL_cells' C.at_ (fun i v hv => (C.get i v hv).2) hl
              obtain ⟨bs, rfl, e4⟩ := strsV_sim hr e2
              have hlen : bs.length = n := by rw [← e1, e2.1]; simp
              subst hlen
              have hblk : lc.blk < w.heap.size := (Array.getElem?_eq_some_iff.1 C.at_).1
              refine .inl ⟨⟨fn, hf, hb⟩, (hc.2 lc.blk (lc.base + o) cap bs ⟨⟨sep⟩⟩ w ?_ hblk (by omega) hcap ?_).mono ?_⟩
              · intro j x hx
                have := e3 j (.string x) (by rw [List.getElem?_map, hx]; rfl)
                rwa [add_at] at this
              · rw [e4]; exact Nat.le_trans hj (by omega)
              · rintro e w' ⟨rfl, hB⟩
                refine ⟨_, ρ, rfl, ?_, Ext.refl _, H.later (h2 := h) (ρ2 := ρ) hB⟩
                rw [e4]; exact .str _
            cases h1
            case sliceK lc hρ => exact key lc hρ k (Nat.le_of_ble_eq_true hk)
            case sliceZ lc a hρ hz =>
              refine .inl ⟨⟨fn, hf, hb⟩, (hc.1 _ 0 _ w).mono ?_⟩
              have : r = [] := by
                have : l = [] := by simpa [Tr.getL] using hl.symm
                subst this; simpa [strsV] using hr.symm
              subst this
              rintro e w' ⟨rfl, rfl⟩
              exact ⟨_, ρ, rfl, .str [], Ext.refl _, H⟩
            case sliceE lc a cc hρ hz =>
              refine .inl ⟨⟨fn, hf, hb⟩, (hc.1 _ _ _ w).mono ?_⟩
              have : r = [] := by
                have : l = [] := by simpa [Tr.getL] using hl.symm
                subst this; simpa [strsV] using hr.symm
              subst this
              rintro e w' ⟨rfl, rfl⟩
              exact ⟨_, ρ, rfl, .str [], Ext.refl _, H⟩
            case sliceG lc hρ =>
              simp only [cond_true, Bool.and_eq_true] at hk
              obtain ⟨hgr, hk0⟩ := hk
              have hk0 := Nat.eq_of_beq_eq_true hk0
              subst hk0
              refine key lc hρ _ ?_
              obtain ⟨arr, C⟩ := H.live b lc _ hρ hg
              have ht := (C.top hgr).1
              rw [hce, Nat.mul_one] at ht
              rcases Nat.eq_zero_or_pos n with h0 | h0
              · omega
              · obtain ⟨e1, e2⟩ := Tr.getL_spec _ _ _ _ hl
                have e3 := e2 (n - 1) (by omega)
                rw [List.getElem?_eq_getElem (by omega)] at e3
                have := (C.get _ _ e3.symm).1
                omega
/-! what they leave as it was -/
theorem containsF_heap {vs : List V} {h h' : Hp} {v : V} (e : containsF vs h = some (v, h')) : h' = h := by
  unfold containsF at e
  split at e <;> try (cases e; done)
  rename_i s sub
  cases hb : Nat.ble s.length 2147483648 <;> rw [hb] at e <;> simp only [cond_true, cond_false, Option.some.injEq, Prod.mk.injEq, reduceCtorEq] at e
  exact e.2.symm
theorem sameF_heap {vs : List V} {h h' : Hp} {v : V} (e : sameF vs h = some (v, h')) : h' = h := by
  unfold sameF at e
  split at e <;> first | (cases e; done) | (simp only [Option.some.injEq, Prod.mk.injEq] at e; exact e.2.symm)
theorem joinGo_heap {sep : List UInt8} {n : Nat} {h h' : Hp} {v : V} : ∀ {x : Option (List V)}, joinGo sep n h x = some (v, h') → h' = h
  | none, e => by cases e
  | some l, e => by
    simp only [joinGo] at e
    split at e <;> try (cases e; done)
    rename_i r _
    cases hb : (Nat.ble n 65536 && Nat.ble (Lib.join r sep).length 1048576) <;> rw [hb] at e <;> simp only [cond_true, cond_false, Option.some.injEq, Prod.mk.injEq, reduceCtorEq] at e
    exact e.2.symm
theorem joinF_heap {eS : TypeId} {vs : List V} {h h' : Hp} {v : V} (e : joinF eS vs h = some (v, h')) : h' = h := by
  unfold joinF at e
  split at e <;> try (cases e; done)
  · simp only [Option.some.injEq, Prod.mk.injEq] at e; exact e.2.symm
  · split at e <;> try (cases e; done)
    rename_i b o n k g sep _ c nb gr e' _
    cases hb : (Nat.beq e' eS && (bif g then gr && Nat.beq k 0 else Nat.ble n k)) <;> rw [hb] at e
    · cases e
    · exact joinGo_heap e
theorem makeF_fr [Orc] {e0 : TypeId} {vs : List V} {h h' : Hp} {v : V} (e : makeF e0 vs h = some (v, h')) : Fr h h' := by
  unfold makeF at e
  split at e <;> try (cases e; done)
  rename_i n
  cases hb : Nat.ble n 281474976710656 <;> rw [hb] at e <;> simp only [cond_true, cond_false, Option.some.injEq, Prod.mk.injEq, reduceCtorEq] at e
  obtain ⟨_, rfl⟩ := e
  exact Fr.new _ _
end Go.Mid
