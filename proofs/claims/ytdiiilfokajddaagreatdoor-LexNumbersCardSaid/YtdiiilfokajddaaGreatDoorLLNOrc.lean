/- LexNumbers: the functions that are answered at once are answered as the model answers them. -/
import Derived.Test.YtdiiilfokajddaaGreatDoorLLNb0
import Derived.Test.YtdiiilfokajddaaGreatDoorLLNStart
set_option linter.all false
namespace Go.LN
open Go.Mid Go.Proofs
theorem opsA (u : TypeId) : @OpOk Tryz.prog (orc fnA (Inv u)) := wops _ _ _
theorem fnA_cases {f : FuncId} {vs : List V} {h : Hp} {p : V × Hp} (e : fnA f vs h = some p) : (f = 141 ∧ sameF vs h = some p) ∨ (f = 29 ∧ containsF vs h = some p) ∨ (f = 53 ∧ indexF vs h = some p) ∨ (f = 80 ∧ indexByteF vs h = some p) ∨ (f = 83 ∧ containsAnyF vs h = some p) := by
  unfold fnA at e
  cases h1 : Nat.beq f 141 <;> rw [h1] at e
  · cases h2 : Nat.beq f 29 <;> rw [h2] at e
    · cases h3 : Nat.beq f 53 <;> rw [h3] at e
      · cases h4 : Nat.beq f 80 <;> rw [h4] at e
        · cases h5 : Nat.beq f 83 <;> rw [h5] at e
          · cases e
          · exact .inr (.inr (.inr (.inr ⟨Nat.eq_of_beq_eq_true h5, e⟩)))
        · exact .inr (.inr (.inr (.inl ⟨Nat.eq_of_beq_eq_true h4, e⟩)))
      · exact .inr (.inr (.inl ⟨Nat.eq_of_beq_eq_true h3, e⟩))
    · exact .inr (.inl ⟨Nat.eq_of_beq_eq_true h2, e⟩)
  · exact .inl ⟨Nat.eq_of_beq_eq_true h1, e⟩
theorem okA (u : TypeId) : @OrcOk Tryz.prog (orc fnA (Inv u)) :=
  letI : Orc := orc fnA (Inv u)
  { pure := @OpOk.pure Tryz.prog (orc fnA (Inv u)) (opsA u)
    reads := @OpOk.reads Tryz.prog (orc fnA (Inv u)) (opsA u)
    make := @OpOk.make Tryz.prog (orc fnA (Inv u)) (opsA u)
    fr := fun f vs h v h' e => by
      rcases fnA_cases (show fnA f vs h = some (v, h') from e) with ⟨_, e⟩ | ⟨_, e⟩ | ⟨_, e⟩ | ⟨_, e⟩ | ⟨_, e⟩
      · rw [sameF_heap e]; exact Fr.refl _
      · rw [containsF_heap e]; exact Fr.refl _
      · rw [indexF_heap e]; exact Fr.refl _
      · rw [indexByteF_heap e]; exact Fr.refl _
      · rw [containsAnyF_heap e]; exact Fr.refl _
    sound := fun f vs h v h' e Z w0 w ρ xs H ha => by
      have hI : Inv u w := Inv.later H.base H.below
      rcases fnA_cases (show fnA f vs h = some (v, h') from e) with ⟨rfl, e⟩ | ⟨rfl, e⟩ | ⟨rfl, e⟩ | ⟨rfl, e⟩ | ⟨rfl, e⟩
      · exact sameF_sim Tryz.func141 (by kernel_rfl) (by kernel_rfl) (by kernel_rfl) (by kernel_rfl) e H ha
      · exact containsF_sim Tryz.func29 (by kernel_rfl) (contains_ok u) hI e H ha
      · exact indexF_sim Tryz.func53 (by kernel_rfl) (index_ok u) hI e H ha
      · exact indexByteF_sim Tryz.func80 (by kernel_rfl) indexByte_ok e H ha
      · exact containsAnyF_sim Tryz.func83 (by kernel_rfl) containsAny_ok e H ha }
end Go.LN
