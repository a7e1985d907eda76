/- A run of the small machine: the model's run does as it does. -/
import Derived.Test.YthbcbfgpfpogkaaGreatFMidP
set_option linter.all false
set_option warn.classDefReducibility false
namespace Go.Mid
open Go.RowKit
variable {P : Program} [Orc] [Z : Res] [OrcOk P]

theorem edgesBack_spec : ∀ (l : List Oper) (i : Nat), edgesBack l i = true → ∀ (p : Nat) o, l[p]? = some o → ∀ e ∈ o.after.toList, Region.binds .any e = true → e.on < i + p
  | [], _, _, p, o, h => by simp at h
  | x :: l, i, h, p, o, ho => by
    simp only [edgesBack, Bool.and_eq_true] at h
    cases p with
    | zero =>
      simp only [List.getElem?_cons_zero, Option.some.injEq] at ho; subst ho
      intro e he hb
      have := List.all_eq_true.1 h.1 e he
      rw [hb] at this
      simp only [Bool.not_true, Bool.false_or] at this
      exact Nat.le_of_ble_eq_true this
    | succ p =>
      intro e he hb
      have := edgesBack_spec l (i + 1) h.2 p o (by simpa using ho) e he hb
      omega

theorem filter_lt {p p' : Nat → Bool} : ∀ (l : List Nat), (∀ x, p' x = true → p x = true) → (∃ x ∈ l, p x = true ∧ p' x = false) → (l.filter p').length < (l.filter p).length
  | [], _, h => by obtain ⟨x, hx, _⟩ := h; cases hx
  | y :: l, hi, h => by
    have le : ∀ l : List Nat, (l.filter p').length ≤ (l.filter p).length := by
      intro l
      induction l with
      | nil => exact Nat.le_refl _
      | cons z l ih =>
        simp only [List.filter_cons]
        cases h1 : p' z with
        | true => rw [hi z h1]; simp; exact ih
        | false =>
          cases p z with
          | true => simp; omega
          | false => simpa using ih
    obtain ⟨x, hx, h1, h2⟩ := h
    rcases List.mem_cons.1 hx with rfl | hx
    · simp only [List.filter_cons, h1, h2]
      have := le l
      simp; omega
    · have ih := filter_lt l hi ⟨x, hx, h1, h2⟩
      simp only [List.filter_cons]
      cases h3 : p' y with
      | true => rw [hi y h3]; simp; exact ih
      | false =>
        cases p y with
        | true => simp; omega
        | false => simpa using ih

section
variable {all : Array Oper} {Q : Exit → Act → World → Prop} {ds : List Deferred} {r : Option Nat}
theorem getD_two {listed : Array Bool} {j : Nat} (h : j < listed.size) : listed.getD j true = listed.getD j false := by
  simp [Array.getD_eq_getD_getElem?, h]
theorem getD_set {listed : Array Bool} {i j : Nat} (h : i < listed.size) : ((listed.setIfInBounds i true).getD j false = true) ↔ (listed.getD j false = true ∨ j = i) := by
  simp only [Array.getD_eq_getD_getElem?, Array.getElem?_setIfInBounds]
  by_cases e : i = j
  · subst e; simp [h]
  · simp [e]; intro h2; exact (e h2.symm).elim

theorem wpAny_tail {k : Nat} (hb : ∀ i, k ≤ i → i < all.size → behind (masks all) i = true) (hback : ∀ (i : Nat) o, all[i]? = some o → ∀ e ∈ o.after.toList, Region.binds .any e = true → e.on < i) :
    ∀ (m fuel i0 : Nat) (listed : Array Bool) (a : Act) (w : World), m = all.size - i0 → listed.size = all.size → (∀ j, listed.getD j false = true ↔ j < i0) → k ≤ i0 → i0 ≤ all.size → m ≤ fuel →
      wpOpsIn (Fw r) 0 P all Q (List.range' i0 m) a w → wpAnyIn (Fw r) 0 P .any all Q fuel listed a w
  | 0, fuel, i0, listed, a, w, hm, hs, hl, _, hi, _, h => by
    have hr : Region.ready .any all listed = [] := by
      apply List.eq_nil_iff_forall_not_mem.2
      intro j hj
      obtain ⟨h1, o, h2, _⟩ := mem_ready.1 hj
      have hlt := (Array.getElem?_eq_some_iff.1 h2).1
      rw [getD_two (by omega)] at h1
      have := (hl j).2 (by omega)
      rw [h1] at this; cases this
    exact wpAnyIn_done hr h fuel
  | m + 1, fuel, i0, listed, a, w, hm, hs, hl, hk, hi, hf, h => by
    obtain ⟨f, rfl⟩ : ∃ f, fuel = f + 1 := ⟨fuel - 1, by omega⟩
    have hlt : i0 < all.size := by omega
    have hcl : Closed all (fun j => listed.getD j false = true) := fun i o ho hli e he hbi => (hl _).2 (Nat.lt_trans (hback i o ho e he hbi) ((hl i).1 hli))
    have hin : i0 ∈ Region.ready .any all listed := by
      refine mem_ready.2 ⟨?_, all[i0], Array.getElem?_eq_getElem hlt, fun e he hbi => (hl _).2 (hback i0 _ (Array.getElem?_eq_getElem hlt) e (by simpa using he) hbi)⟩
      rw [getD_two (by omega)]
      cases hh : listed.getD i0 false with
      | false => rfl
      | true => have := (hl i0).1 hh; omega
    refine ⟨fun hr => (by rw [hr] at hin; cases hin), fun i hir => ?_⟩
    obtain ⟨h1, o, h2, h3⟩ := mem_ready.1 hir
    have hil := (Array.getElem?_eq_some_iff.1 h2).1
    rw [getD_two (by omega)] at h1
    have hge : i0 ≤ i := by
      rcases Nat.lt_or_ge i i0 with h | h
      · have := (hl i).2 h; rw [h1] at this; cases this
      · exact h
    have heq : i = i0 := by
      rcases Nat.eq_or_lt_of_le hge with h | h
      · exact h.symm
      · have ha := behind_anc (hb i (by omega) hil) h
        have := anc_ready hcl h2 (fun e he hbi => h3 e (by simpa using he) hbi) ha
        have := (hl i0).1 this; omega
    subst heq
    rw [List.range'_succ, wpOpsIn_cons] at h
    refine wpOpIn_mono (fun a w h => ?_) h
    refine wpAny_tail hb hback m f (i + 1) _ a w (by omega) (by simp [hs]) (fun j => ?_) (by omega) (by omega) (by omega) h
    rw [getD_set (by omega), hl j]
    omega

theorem wpAny_head {n : Nat} (hN : Named P) (IH : CodeIH P n) {t0 : Tr V} {h0 : Hp} {es : List En} {s : Hd} {w0 : World} {N : Nat} {ρ0 : Rho} (G : Good P (run P n) all t0 h0 es s) (hp : Pairs all es.length)
    (hb : ∀ i, es.length ≤ i → i < all.size → behind (masks all) i = true) (hback : ∀ (i : Nat) o, all[i]? = some o → ∀ e ∈ o.after.toList, Region.binds .any e = true → e.on < i) (hle : es.length ≤ all.size)
    (hd : ∀ (i : Nat) o d, all[i]? = some o → o.dst = some d → d < N)
    (fin : ∀ ρ H a w, s.hs.get s.c = some H → TR ρ s.t a → R P w0 w (stores s.st H) ρ → Ext ρ0 ρ → a.defers = ds → a.tmps.size = N → wpOpsIn (Fw r) 0 P all Q (List.range' es.length (all.size - es.length)) a w) :
    ∀ (fuel : Nat) (listed : Array Bool) (a : Act) (w : World), listed.size = all.size → Inv Z P all es s t0 w0 N ρ0 ds (fun j => listed.getD j false = true) a w → (∀ j, listed.getD j false = true → j < es.length) →
      ((List.range all.size).filter (fun j => !listed.getD j false)).length ≤ fuel → wpAnyIn (Fw r) 0 P .any all Q fuel listed a w := by
  -- all of the head is done
  have done : ∀ (fuel : Nat) (listed : Array Bool) (a : Act) (w : World), listed.size = all.size → Inv Z P all es s t0 w0 N ρ0 ds (fun j => listed.getD j false = true) a w → (∀ j, listed.getD j false = true ↔ j < es.length) →
      ((List.range all.size).filter (fun j => !listed.getD j false)).length ≤ fuel → wpAnyIn (Fw r) 0 P .any all Q fuel listed a w := by
    intro fuel listed a w hs hI hl hcnt
    obtain ⟨c, q, H, ρ, I⟩ := hI
    have hc : c = s.c := by
      rcases Nat.eq_or_lt_of_le I.cc with h | h
      · exact h
      · obtain ⟨j, e, h1, h2, h3⟩ := G.mall c h
        have := (I.mks j e h1 h2).1 ((hl j).2 (get_lt h1))
        omega
    have hq : q = s.st.length := by
      rcases Nat.eq_or_lt_of_le I.qq with h | h
      · exact h
      · obtain ⟨j, e, h1, h2, h3⟩ := G.sall q h
        have := (I.st j e h1 h2).1 ((hl j).2 (get_lt h1))
        omega
    subst hc hq
    have htr : TR ρ s.t a := by
      intro u v hv
      rcases G.te u v hv with ⟨i, e', h1, h2, h3, h4⟩ | ⟨h1, h2⟩
      · rw [← h4]; exact I.t1 i e' u h2 ((hl i).2 h1) h3
      · exact I.t2 u v (fun j e hj _ => h1 j e (get_lt hj) hj) h2
    have hrr : R P w0 w (stores (s.st.take s.st.length) H) ρ := R.mono (Z1 := pend Z es fun j => listed.getD j false = true) (fun b hb => .inl hb) (fun _ _ h => h) I.rr
    rw [List.take_length] at hrr
    have hcount : all.size - es.length ≤ ((List.range all.size).filter (fun j => !listed.getD j false)).length := by
      have e1 : (List.range all.size).filter (fun j => !listed.getD j false) = (List.range all.size).filter (fun j => !decide (j < es.length)) := by
        apply List.filter_congr
        intro j _
        have := hl j
        cases h : listed.getD j false with
        | true => have := this.1 h; simp [this]
        | false =>
          have h2 : ¬ j < es.length := fun h3 => by rw [this.2 h3] at h; cases h
          simp [h2]
      rw [e1]
      obtain ⟨d, hd⟩ : ∃ d, all.size = es.length + d := ⟨all.size - es.length, by omega⟩
      rw [hd, List.range_add, List.filter_append]
      have e2 : ((List.range d).map (es.length + ·)).filter (fun j => !decide (j < es.length)) = (List.range d).map (es.length + ·) := by
        apply List.filter_eq_self.2
        intro x hx
        obtain ⟨y, _, rfl⟩ := List.mem_map.1 hx
        simp
      rw [e2]
      simp
    exact wpAny_tail hb hback (all.size - es.length) fuel es.length listed a w rfl hs hl (Nat.le_refl _) hle (by omega) (fin ρ H a w I.hH htr hrr I.ext I.df I.sz)
  intro fuel
  induction fuel with
  | zero =>
    intro listed a w hs hI hlk hcnt
    refine done 0 listed a w hs hI (fun j => ⟨hlk j, fun hj => ?_⟩) hcnt
    cases h : listed.getD j false with
    | true => rfl
    | false =>
      have : j ∈ (List.range all.size).filter (fun j => !listed.getD j false) := List.mem_filter.2 ⟨List.mem_range.2 (by omega), by simp only [h]; rfl⟩
      rw [List.eq_nil_of_length_eq_zero (Nat.le_zero.1 hcnt)] at this
      cases this
  | succ f ih =>
    intro listed a w hs hI hlk hcnt
    by_cases hall : ∀ j, j < es.length → listed.getD j false = true
    · exact done (f + 1) listed a w hs hI (fun j => ⟨hlk j, hall j⟩) hcnt
    · -- the least that is not done
      have hex : ∃ j, j < es.length ∧ listed.getD j false = false := by
        rcases Classical.not_forall.1 hall with ⟨j, hj⟩
        rcases Classical.not_imp.1 hj with ⟨h1, h2⟩
        exact ⟨j, h1, by cases h : listed.getD j false with
          | true => exact (h2 h).elim
          | false => rfl⟩
      have least : ∀ m, (∃ j, j ≤ m ∧ listed.getD j false = false) → ∃ j, j ≤ m ∧ listed.getD j false = false ∧ ∀ i, i < j → listed.getD i false = true := by
        intro m
        induction m with
        | zero => rintro ⟨j, h1, h2⟩; exact ⟨j, h1, h2, fun i hi => by omega⟩
        | succ m ihm =>
          rintro ⟨j, h1, h2⟩
          by_cases hh : ∃ j, j ≤ m ∧ listed.getD j false = false
          · obtain ⟨j', g1, g2, g3⟩ := ihm hh
            exact ⟨j', by omega, g2, g3⟩
          · refine ⟨j, h1, h2, fun i hi => ?_⟩
            cases h : listed.getD i false with
            | true => rfl
            | false => exact (hh ⟨i, by omega, h⟩).elim
      obtain ⟨j1, hj1, hj2⟩ := hex
      obtain ⟨j0, hj0, hj3, hj4⟩ := least j1 ⟨j1, Nat.le_refl _, hj2⟩
      have hj0k : j0 < es.length := by omega
      have hcl : Closed all (fun j => listed.getD j false = true) := by obtain ⟨_, _, _, _, I⟩ := hI; exact I.cl
      have hin : j0 ∈ Region.ready .any all listed := by
        have hlt : j0 < all.size := by omega
        refine mem_ready.2 ⟨?_, all[j0], Array.getElem?_eq_getElem hlt, fun e he hbi => hj4 _ (hback j0 _ (Array.getElem?_eq_getElem hlt) e (by simpa using he) hbi)⟩
        rw [getD_two (by omega)]; exact hj3
      refine ⟨fun hr => (by rw [hr] at hin; cases hin), fun i hir => ?_⟩
      obtain ⟨h1, o, h2, h3⟩ := mem_ready.1 hir
      have hil := (Array.getElem?_eq_some_iff.1 h2).1
      rw [getD_two (by omega)] at h1
      have hik : i < es.length := by
        rcases Nat.lt_or_ge i es.length with h | h
        · exact h
        · have ha := behind_anc (hb i h hil) (show j0 < i by omega)
          have := anc_ready hcl h2 (fun e he hbi => h3 e (by simpa using he) hbi) ha
          rw [hj3] at this; cases this
      have hei : es[i]? = some es[i] := List.getElem?_eq_getElem hik
      have hop := G.op i _ hei
      have hoe : o = es[i].o := by rw [hop] at h2; simpa using h2.symm
      refine inv_step hback hN IH G hI hp hei (by rw [h1]; simp) (fun ed he hbi => h3 ed (by rw [hoe]; simpa using he) hbi) (fun d hdd => hd i _ d hop hdd) fun a' w' hI' => ?_
      have hL : (fun j => (listed.setIfInBounds i true).getD j false = true) = fun j => listed.getD j false = true ∨ j = i := by
        funext j; exact propext (getD_set (by omega))
      refine ih (listed.setIfInBounds i true) a' w' (by simp [hs]) (by rw [hL]; exact hI') (fun j hj => ?_) ?_
      · rcases (getD_set (by omega)).1 hj with h | rfl
        · exact hlk j h
        · exact hik
      · have hlt := filter_lt (p := fun j => !listed.getD j false) (p' := fun j => !(listed.setIfInBounds i true).getD j false) (List.range all.size) (fun x hx => by
          cases h : listed.getD x false with
          | false => simp
          | true =>
            have := (getD_set (j := x) (show i < listed.size by omega)).2 (.inl h)
            simp only [this] at hx; cases hx) ⟨i, List.mem_range.2 hil, by simp only [h1]; rfl, by
            have := (getD_set (j := i) (show i < listed.size by omega)).2 (.inr rfl)
            simp only [this]; rfl⟩
        omega
end
end Go.Mid
