/- FlowNumbers: all the rest, reckoned by the kernel. -/
import Derived.Test.YthbcbfgpfpogkaaGreatFFNs
import Derived.KernelRfl
set_option linter.all false
set_option warn.classDefReducibility false
open Go Go.Mid Go.Proofs Go.RowKit
set_option maxRecDepth 100000
set_option linter.unusedVariables false
namespace Go.FN
theorem says : chkT (gTab tabZ 1000000 8 [] h0) = true := by kernel_rfl
theorem known_all : Known Tryz.prog Inv 4 [] (.bool true) := by
  obtain ⟨h', e⟩ := chkT_some says
  letI : Orc := orc fnS Inv
  letI : OrcOk Tryz.prog := okS
  exact known_of (by kernel_rfl) named (h0 := h0) (h' := h') (fun w hw => begins rfl (fun _ h => h) hw) rfl rfl (@lim_tabS Tryz.prog (orc fnS Inv) labs tabZ tabZ_ok _ _ _ _ _ e)
/-- for every start. -/
theorem walk (W : World) (hs : W.ShapedOpen Tryz.prog) : Calls Tryz.prog 4 #[] W fun e w' => e = .returned (.bool true) ∧ Below W.heap.size W w' := by
  letI : Orc := orc fnS Inv
  letI : OrcOk Tryz.prog := okS
  obtain ⟨_, h⟩ := (known_all (fun _ => none) [] (RelL.nil _) W (inv_of hs)).text named (by kernel_rfl)
  refine h.mono ?_
  rintro e w' ⟨x, rfl, hx, hB⟩
  cases hx
  exact ⟨rfl, hB⟩
end Go.FN
