/- LexTells: the call, whatever text comes in. -/
import Derived.Test.YtdiiilfokajddaaGreatDoorQLTOk
import Derived.Test.YtdiiilfokajddaaGreatDoorQLUI
import Derived.Test.YtdiiilfokajddaaGreatDoorQMidZ
set_option linter.all false
set_option warn.classDefReducibility false
noncomputable section
section
open Go Go.Mid Go.Proofs Go.Proofs.YtdiiilfokajddaaGreatDoor Go.RowKit
set_option maxRecDepth 100000
namespace Go.LT
section
theorem tells {w : World} (b : ByteArray) (hI : Inv w) : Calls Tryz.prog 4 ⟨[.string b]⟩ w fun e w' => e = .returned (.bool true) ∧ Below w.heap.size w w':=by
 have hT0 : St [] (heapOf w):=⟨heapOf_wf w, trivial⟩
 obtain ⟨v, h', B, e, hT, _⟩:=sp8 (s:=pack b.data.toList) hT0
 obtain ⟨fuel, hrun⟩:=(@lim_F Tryz.prog (orc fnA Inv) labs 4 _ _ _).1 e
 letI:=orc fnA Inv
 have:=okA
 have hr : Rel (rhoOf w) (.str (pack b.data.toList)) (.string b):=by
  have:=Rel.str (ρ:=rhoOf w) (pack b.data.toList)
  rw [pack_l] at this
  exact this
 refine (calls_of mixed named (heapOf_R w hI.size hI) (RelL.cons hr (RelL.nil _)) (by kernel_rfl) hrun).mono ?_
 rintro e w' ⟨x, ρ', rfl, hr, hg⟩
 obtain ⟨rfl, _⟩:=hT
 cases hr
 exact ⟨rfl, hg⟩
end
end Go.LT
end
