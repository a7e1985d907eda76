/- ShowNumbers: the functions that are answered at once are answered as the model answers them. -/
import Derived.Test.YthebclhmflacaaaGreatDoorSSNb1
import Derived.Test.YthebclhmflacaaaGreatDoorSSNStart
set_option linter.all false
namespace Go.SN
open Go.Mid Go.Proofs
theorem text11 : (∃ fn, Tryz.prog.funcs[11]? = some fn ∧ fn.body.isNone = false) := ⟨Tryz.f11, Tryz.func11, by kernel_rfl⟩
theorem text130 : (∃ fn, Tryz.prog.funcs[130]? = some fn ∧ fn.body.isNone = false) := ⟨Tryz.f130, Tryz.func130, by kernel_rfl⟩
theorem opsA : @OpOk Tryz.prog (orc fnA Inv) := @qops Tryz.prog (orc fnA Inv) (fun _ => rfl) (fun _ _ _ => rfl)
theorem okA : @OrcOk Tryz.prog (orc fnA Inv) :=
  letI : Orc := orc fnA Inv
  { pure := @OpOk.pure Tryz.prog (orc fnA Inv) opsA
    reads := @OpOk.reads Tryz.prog (orc fnA Inv) opsA
    make := @OpOk.make Tryz.prog (orc fnA Inv) opsA
    fr := fun f vs h v h' e => by
      change fnA f vs h = some (v, h') at e
      unfold fnA at e
      cases h1 : Nat.beq f 95 <;> rw [h1] at e
      · cases h2 : Nat.beq f 94 <;> rw [h2] at e
        · cases h3 : Nat.beq f 130 <;> rw [h3] at e
          · cases h4 : Nat.beq f 11 <;> rw [h4] at e
            · cases e
            · simp only [cond_true, cond_false] at e
              rw [joinF_heap e]; exact Fr.refl _
          · simp only [cond_true, cond_false] at e
            rw [containsF_heap e]; exact Fr.refl _
        · simp only [cond_true, cond_false] at e
          rw [sameF_heap e]; exact Fr.refl _
      · simp only [cond_true] at e
        exact makeF_fr e
    sound := fun f vs h v h' e w0 w ρ xs H ha => by
      change fnA f vs h = some (v, h') at e
      unfold fnA at e
      have hI : Inv w := Inv.later H.base H.below
      cases h1 : Nat.beq f 95 <;> rw [h1] at e
      · cases h2 : Nat.beq f 94 <;> rw [h2] at e
        · cases h3 : Nat.beq f 130 <;> rw [h3] at e
          · cases h4 : Nat.beq f 11 <;> rw [h4] at e
            · cases e
            · simp only [cond_true, cond_false] at e
              have := Nat.eq_of_beq_eq_true h4; subst this
              exact joinF_sim Tryz.func11 (by kernel_rfl) join_ok (by kernel_rfl) e H ha
          · simp only [cond_true, cond_false] at e
            have := Nat.eq_of_beq_eq_true h3; subst this
            exact containsF_sim Tryz.func130 (by kernel_rfl) contains_ok hI e H ha
        · simp only [cond_true, cond_false] at e
          have := Nat.eq_of_beq_eq_true h2; subst this
          exact sameF_sim Tryz.func94 (by kernel_rfl) (by kernel_rfl) (by kernel_rfl) (by kernel_rfl) e H ha
      · simp only [cond_true] at e
        have := Nat.eq_of_beq_eq_true h1; subst this
        exact makeF_sim (ps := Tryz.f95.params) (t := 45) (e := 5) (by kernel_rfl) (by kernel_rfl) Tryz.func95 (by kernel_rfl) (by kernel_rfl) (by kernel_rfl) (by kernel_rfl) e H ha }
end Go.SN
