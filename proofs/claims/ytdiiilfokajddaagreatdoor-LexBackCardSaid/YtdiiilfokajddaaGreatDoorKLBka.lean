/- LexBack: the chapter's examples, reckoned by the kernel in the small machine itself. -/
import Derived.Test.YtdiiilfokajddaaGreatDoorKLBStart
set_option linter.all false
set_option warn.classDefReducibility false
noncomputable section
section
open Go Go.Mid Go.Proofs Go.RowKit
set_option maxRecDepth 100000
namespace Go.LB
section
def saysA (fuel : Nat) : Bool := match @enterV Tryz.prog (orc fnC Inv) (@run Tryz.prog (orc fnC Inv) fuel) h0 (some (16, [])) with
 | some (.bool b, _) => b
 | _ => false
theorem saysA_so : saysA 100000 = true:=by kernel_rfl
theorem awake_known : Known Tryz.prog Inv 16 [] (.bool true):=by
 have h:=saysA_so
 unfold saysA at h
 cases hc : @enterV Tryz.prog (orc fnC Inv) (@run Tryz.prog (orc fnC Inv) 100000) h0 (some (16, [])) with
 | none => rw [hc] at h; cases h
 | some p =>
  obtain ⟨v, h'⟩:=p
  rw [hc] at h
  cases v <;> try (cases h; done)
  rename_i b
  cases b
  ·cases h
  ·exact @known_of Tryz.prog (orc fnC Inv) okC mixed named labs 16 [] (.bool true) h0 h' Inv (fun w hw => @begins (orc fnC Inv) okC rfl (fun _ h => h) w hw) rfl rfl ((@lim_F Tryz.prog (orc fnC Inv) labs 16 _ _ _).2 ⟨100000, hc⟩)
end
end Go.LB
end
