/- The limit: what a call answers, if it answers at all: a function without fuel, which every shallow text bounds from below. -/
import Derived.Test.YthbcbfgpfpogkaaGreatFMidX
set_option linter.all false
set_option warn.classDefReducibility false
namespace Go.Mid
variable {P : Program} [Orc]

/-- a function's call answers. -/
def RunsF (P : Program) [Orc] (f : FuncId) (as : List V) (h : Hp) (p : V × Hp) : Prop := ∃ n, enterV P (run P n) h (some (f, as)) = some p
theorem RunsF.det {f : FuncId} {as : List V} {h : Hp} {p q : V × Hp} (h1 : RunsF P f as h p) (h2 : RunsF P f as h q) : p = q := by
  obtain ⟨n, hn⟩ := h1
  obtain ⟨m, hm⟩ := h2
  have e1 := enterV_le (P := P) (run_le' (Nat.le_add_right n m)) h (OLe.refl (some (f, as))) _ hn
  have e2 := enterV_le (P := P) (run_le' (Nat.le_add_left m n)) h (OLe.refl (some (f, as))) _ hm
  rw [e1] at e2
  exact Option.some.inj e2
theorem Means.det {rs : List ResultVar} {κ : List Fk} {c : Code} {t : Tr V} {h : Hp} {p q : V × Hp} (h1 : Means P rs κ c t h p) (h2 : Means P rs κ c t h q) : p = q := by
  obtain ⟨n, hn⟩ := h1
  obtain ⟨m, hm⟩ := h2
  have e1 := kOut_lift (P := P) (Nat.le_add_right n m) (run_le' (Nat.le_add_right n m) _ _ _ _ (Sub.refl _)) hn
  have e2 := kOut_lift (P := P) (Nat.le_add_left m n) (run_le' (Nat.le_add_left m n) _ _ _ _ (Sub.refl _)) hm
  rw [e1] at e2
  exact Option.some.inj e2
/-- a label's code answers. -/
def RunsL (P : Program) [Orc] (labs : Tr Lab) (l : Nat) (vs : List V) (h : Hp) (p : V × Hp) : Prop :=
  ∃ f q live fn body c κ, labs.get l = some (f, q, live) ∧ P.funcs[f]? = some fn ∧ fn.body = some body ∧ At body q c κ ∧ Means P fn.results.toList κ c (setAll live vs .nil) h p
theorem RunsL.det {labs : Tr Lab} {l : Nat} {vs : List V} {h : Hp} {p q : V × Hp} (h1 : RunsL P labs l vs h p) (h2 : RunsL P labs l vs h q) : p = q := by
  obtain ⟨f, q1, live, fn, body, c, κ, a1, a2, a3, a4, a5⟩ := h1
  obtain ⟨f', q1', live', fn', body', c', κ', b1, b2, b3, b4, b5⟩ := h2
  rw [a1] at b1
  simp only [Option.some.injEq, Prod.mk.injEq] at b1
  obtain ⟨rfl, rfl, rfl⟩ := b1
  rw [a2] at b2
  simp only [Option.some.injEq] at b2
  subst b2
  rw [a3] at b3
  simp only [Option.some.injEq] at b3
  subst b3
  obtain ⟨rfl, rfl⟩ := a4.unique b4
  exact a5.det b5

open Classical in
/-- the limit. -/
noncomputable def lim (P : Program) [Orc] (labs : Tr Lab) (key : Nat) (vs : List V) (h : Hp) : VH :=
  if key % 2 = 0 then (if hx : ∃ p, RunsF P (key / 2) vs h p then some hx.choose else none)
  else (if hx : ∃ p, RunsL P labs (key / 2) vs h p then some hx.choose else none)
theorem lim_F {labs : Tr Lab} {f : FuncId} {as : List V} {h : Hp} {p : V × Hp} : lim P labs (2 * f) as h = some p ↔ RunsF P f as h p := by
  unfold lim
  rw [if_pos (Nat.mul_mod_right 2 f), Nat.mul_div_cancel_left f (by decide)]
  by_cases hx : ∃ p, RunsF P f as h p
  · rw [dif_pos hx]
    exact ⟨fun e => by rw [← Option.some.inj e]; exact hx.choose_spec, fun hp => by rw [hx.choose_spec.det hp]⟩
  · rw [dif_neg hx]
    exact ⟨fun e => by (cases e), fun hp => (hx ⟨p, hp⟩).elim⟩
theorem lim_L {labs : Tr Lab} {l : Nat} {vs : List V} {h : Hp} {p : V × Hp} : lim P labs (2 * l + 1) vs h = some p ↔ RunsL P labs l vs h p := by
  unfold lim
  rw [if_neg (by omega), show (2 * l + 1) / 2 = l by omega]
  by_cases hx : ∃ p, RunsL P labs l vs h p
  · rw [dif_pos hx]
    exact ⟨fun e => by rw [← Option.some.inj e]; exact hx.choose_spec, fun hp => by rw [hx.choose_spec.det hp]⟩
  · rw [dif_neg hx]
    exact ⟨fun e => by (cases e), fun hp => (hx ⟨p, hp⟩).elim⟩
theorem lim_calls {labs : Tr Lab} : CallsOk P (lim P labs) := fun _ _ _ _ hp => lim_F.1 hp
theorem lim_labs {labs : Tr Lab} : LabsOk P labs (lim P labs) := by
  intro l f q live hl fn body hfn hb c κ ha vs h p hp
  obtain ⟨f', q', live', fn', body', c', κ', a1, a2, a3, a4, a5⟩ := lim_L.1 hp
  rw [a1] at hl
  simp only [Option.some.injEq, Prod.mk.injEq] at hl
  obtain ⟨rfl, rfl, rfl⟩ := hl
  rw [a2] at hfn
  simp only [Option.some.injEq] at hfn
  subst hfn
  rw [a3] at hb
  simp only [Option.some.injEq] at hb
  subst hb
  obtain ⟨rfl, rfl⟩ := a4.unique ha
  exact a5
/-- what an entry's text answers over functions that are bounded so, the code answers. -/
theorem ent_F {g : Nat → List V → Hp → VH} {labs : Tr Lab} (h1 : CallsOk P g) (h2 : LabsOk P labs g) {f : FuncId} {G : Sh} (he : EntOk P labs (2 * f) G) {vs : List V} {h : Hp} {p : V × Hp} (hp : G g vs h = some p) : RunsF P f vs h p := by
  rcases he.1 f rfl with hor | ⟨hor, m, cs, hcs, hle⟩
  · exact ⟨0, by simp only [enterV, hor _ _ _ _ hp, enterO]⟩
  have hd := hle _ _ _ _ hp
  unfold denF at hd
  cases hfn : P.funcs[f]? with
  | none => rw [hfn] at hd; cases hd
  | some fn =>
    rw [hfn] at hd
    simp only at hd
    cases hb : fn.body with
    | none => rw [hb] at hd; cases hd
    | some c =>
      rw [hb] at hd
      simp only [cD_eq] at hd
      cases hok : (Nat.ble vs.length fn.ntmps && okCode fn.ntmps c) <;> rw [hok] at hd
      · cases hd
      · obtain ⟨k, hk⟩ := denIn_sound h1 (labs_cuts h2 hcs hfn hb) (at_root c) hd
        refine ⟨k, ?_⟩
        simp only [enterV, hor, enterO, enterB, hfn, bodyV, hb, hok, cond_true]
        exact hk
theorem ent_L {g : Nat → List V → Hp → VH} {labs : Tr Lab} (h1 : CallsOk P g) (h2 : LabsOk P labs g) {l : Nat} {G : Sh} (he : EntOk P labs (2 * l + 1) G) {vs : List V} {h : Hp} {p : V × Hp} (hp : G g vs h = some p) : RunsL P labs l vs h p := by
  obtain ⟨f, q, live, m, cs, hl, hcs, hle⟩ := he.2 l rfl
  have hd := hle _ _ _ _ hp
  unfold denL at hd
  cases hfn : P.funcs[f]? with
  | none => rw [hfn] at hd; cases hd
  | some fn =>
    rw [hfn] at hd
    simp only at hd
    cases hb : fn.body with
    | none => rw [hb] at hd; cases hd
    | some body =>
      rw [hb] at hd
      simp only at hd
      cases hat : atN body (q + 1) q with
      | none => rw [hat] at hd; cases hd
      | some x =>
        obtain ⟨c, κ⟩ := x
        rw [hat] at hd
        exact ⟨f, q, live, fn, body, c, κ, hl, hfn, hb, ⟨_, hat⟩, denIn_sound h1 (labs_cuts h2 hcs hfn hb) ⟨_, hat⟩ hd⟩
theorem lim_ent {labs : Tr Lab} {key : Nat} {G : Sh} (he : EntOk P labs key G) {vs : List V} {h : Hp} {p : V × Hp} (hp : G (lim P labs) vs h = some p) : lim P labs key vs h = some p := by
  rcases Nat.mod_two_eq_zero_or_one key with hk | hk
  · obtain ⟨f, rfl⟩ : ∃ f, key = 2 * f := ⟨key / 2, by omega⟩
    exact lim_F.2 (ent_F lim_calls lim_labs he hp)
  · obtain ⟨l, rfl⟩ : ∃ l, key = 2 * l + 1 := ⟨key / 2, by omega⟩
    exact lim_L.2 (ent_L lim_calls lim_labs he hp)
/-- what the table reckons, the limit answers. -/
theorem lim_tab {labs : Tr Lab} {tab : Tr Sh} (ht : TabOk P labs tab) : ∀ {n key : Nat} {vs : List V} {h : Hp} {p : V × Hp}, gTab tab n key vs h = some p → lim P labs key vs h = some p
  | 0, _, _, _, _, hp => by cases hp
  | n + 1, key, vs, h, p, hp => by
    have hp' : goS (tab.get key) (gTab tab n) vs h = some p := hp
    cases hk : tab.get key with
    | none => rw [hk] at hp'; cases hp'
    | some G =>
      rw [hk] at hp'
      obtain ⟨h1, h2⟩ := gTab_sound ht n
      rcases Nat.mod_two_eq_zero_or_one key with hm | hm
      · obtain ⟨f, rfl⟩ : ∃ f, key = 2 * f := ⟨key / 2, by omega⟩
        exact lim_F.2 (ent_F h1 h2 (ht _ _ hk) hp')
      · obtain ⟨l, rfl⟩ : ∃ l, key = 2 * l + 1 := ⟨key / 2, by omega⟩
        exact lim_L.2 (ent_L h1 h2 (ht _ _ hk) hp')
/-- an entry of a table that answers no more than the limit does, made of answers that are the limit's. -/
def EntS (P : Program) (labs : Tr Lab) (key : Nat) (G : Sh) : Prop :=
  ∀ g : Nat → List V → Hp → VH, (∀ key vs h p, g key vs h = some p → lim P labs key vs h = some p) → ∀ vs h p, G g vs h = some p → lim P labs key vs h = some p
theorem EntOk.toS {labs : Tr Lab} {key : Nat} {G : Sh} (he : EntOk P labs key G) : EntS P labs key G := by
  intro g hg vs h p hp
  have h1 : CallsOk P g := fun f as h p hp => lim_F.1 (hg _ _ _ _ hp)
  have h2 : LabsOk P labs g := fun l f q live hl fn body hfn hb c κ ha vs h p hp => lim_labs l f q live hl fn body hfn hb c κ ha vs h p (hg _ _ _ _ hp)
  rcases Nat.mod_two_eq_zero_or_one key with hk | hk
  · obtain ⟨f, rfl⟩ : ∃ f, key = 2 * f := ⟨key / 2, by omega⟩
    exact lim_F.2 (ent_F h1 h2 he hp)
  · obtain ⟨l, rfl⟩ : ∃ l, key = 2 * l + 1 := ⟨key / 2, by omega⟩
    exact lim_L.2 (ent_L h1 h2 he hp)
def TabS (P : Program) (labs : Tr Lab) (tab : Tr Sh) : Prop := ∀ key G, tab.get key = some G → EntS P labs key G
theorem TabOk.toS {labs : Tr Lab} {tab : Tr Sh} (h : TabOk P labs tab) : TabS P labs tab := fun key G hg => (h key G hg).toS
theorem TabS.set {labs : Tr Lab} {tab : Tr Sh} {key : Nat} {G : Sh} (h : TabS P labs tab) (he : EntS P labs key G) : TabS P labs (tab.set key G) := by
  intro k G' hk
  rw [Tr.get_set] at hk
  split at hk
  · rename_i e; subst e; simp only [Option.some.injEq] at hk; subst hk; exact he
  · exact h k G' hk
theorem lim_tabS {labs : Tr Lab} {tab : Tr Sh} (ht : TabS P labs tab) : ∀ {n key : Nat} {vs : List V} {h : Hp} {p : V × Hp}, gTab tab n key vs h = some p → lim P labs key vs h = some p
  | 0, _, _, _, _, hp => by cases hp
  | n + 1, key, vs, h, p, hp => by
    have hp' : goS (tab.get key) (gTab tab n) vs h = some p := hp
    cases hg : tab.get key with
    | none => rw [hg] at hp'; cases hp'
    | some G =>
      rw [hg] at hp'
      exact ht key G hg (gTab tab n) (fun _ _ _ _ hq => lim_tabS ht hq) vs h p hp'
end Go.Mid
