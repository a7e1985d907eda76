/- LexNumbers: all the rest, reckoned by the kernel. -/
import Derived.Test.YtdiiilfokajddaaGreatDoorLLNW
import Derived.KernelRfl
set_option linter.all false
open Go Go.Mid Go.Proofs Go.RowKit
set_option maxRecDepth 100000
namespace Go.LN
noncomputable def saysE (u : TypeId) : Bool := match gTab tabE 100000 6 [] (h0 u) with
  | some (.bool true, _) => true
  | _ => false
theorem says : ∀ u : TypeId, saysE u = true := by intro u; kernel_rfl
theorem known_all (u : TypeId) : Known Tryz.prog (Inv u) 3 [] (.bool true) := by
  have h := says u
  unfold saysE at h
  split at h
  · rename_i h' e
    letI : Orc := orc fnD (Inv u)
    letI : OrcOk Tryz.prog := okD u
    exact known_of (by kernel_rfl) named (h0 := h0 u) (h' := h') (fun w hw => begins rfl (fun _ h => h) hw) rfl rfl (@lim_tabS Tryz.prog (orc fnD (Inv u)) labs tabE (tabE_ok u) _ _ _ _ _ e)
  · cases h
/-- for every start in which the listed package variables hold what is listed. -/
theorem walk (W : World) (hL : laidMetH Tryz.prog laid W) (hs : W.ShapedOpen Tryz.prog) : Calls Tryz.prog 3 #[] W fun e w' => e = .returned (.bool true) ∧ Below W.heap.size W w' := by
  obtain ⟨u, hI⟩ := inv_of hL hs
  letI : Orc := orc fnD (Inv u)
  letI : OrcOk Tryz.prog := okD u
  obtain ⟨_, h⟩ := (known_all u (fun _ => none) [] (RelL.nil _) W hI).text named (by kernel_rfl)
  refine h.mono ?_
  rintro e w' ⟨x, rfl, hx, hB⟩
  cases hx
  exact ⟨rfl, hB⟩
end Go.LN
