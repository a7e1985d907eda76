/- LexBack: the call, whatever text and list come in. -/
import Derived.Test.YtdiiilfokajddaaGreatDoorKLBOk
import Derived.Test.YtdiiilfokajddaaGreatDoorKLBQ
import Derived.Test.YtdiiilfokajddaaGreatDoorKMidZ
set_option linter.all false
set_option warn.classDefReducibility false
noncomputable section
section
open Go Go.Mid Go.Proofs Go.Proofs.YtdiiilfokajddaaGreatDoor Go.RowKit
set_option maxRecDepth 100000
namespace Go.LB
section
variable {H : Type} {enc : TypeId × Value → H} {w : World} {b o : Nat}
def mem (w : World) : LB.Mem:=fun b o => (heapOf w).cell b o
theorem all_of {α : Type} {P : Nat → α → Prop} : ∀ n, (∀ i, i < n → ∃ a, P i a) → ∃ l : List α, l.length = n ∧ ∀ i (hi : i < l.length), P i l[i]
 | 0, _ => ⟨[], rfl, fun i hi => absurd hi (Nat.not_lt_zero _)⟩
 | n + 1, h => by
  obtain ⟨l, h1, h2⟩:=all_of n fun i hi => h i (by omega)
  obtain ⟨a, ha⟩:=h n (by omega)
  refine ⟨l ++ [a], by simp [h1], fun i hi => ?_⟩
  rw [List.length_append, List.length_singleton] at hi
  by_cases e : i < l.length
  ·rw [List.getElem_append_left e]; exact h2 i e
  ·have : i = n := by omega
   subst this
   rw [List.getElem_append_right (by omega)]; simpa using ha
theorem fsl_of {α : Type} {P : Nat → Nat → α → Prop} {e : TypeId} {s : Nat} {v : V} (h : SlView enc Tryz.prog w e s v) (hP : ∀ b o, View enc Tryz.prog w e b o → ∃ a, P b o a) : ∃ l : List α, FSl s P v l:=by
 rcases h with h | ⟨b, o, n, c, h1, ⟨h2, h4⟩, h3⟩
 ·exact ⟨[], .inl ⟨h, rfl⟩⟩
 ·obtain ⟨l, hl, hp⟩ := all_of n fun i hi => hP _ _ (h3 i hi)
  subst hl
  exact ⟨l, .inr ⟨b, o, c, h1, h4, h2, hp⟩⟩
theorem mem_St (w : World) : St [frz (mem w)] (heapOf w):=by
 refine ⟨heapOf_wf w, hf (heapOf w), fun _ => none, fun _ => .inr rfl, Lf.refl _, fun _ _ h => (nomatch h), fun b o v hv => ?_, trivial⟩
 unfold mem Hp.cell at hv
 unfold hf
 cases ht : cellsT ((heapOf w).t.get b) with
 | none => rw [ht] at hv; cases hv
 | some t => rw [ht] at hv; exact ⟨t, rfl, hv⟩
theorem backs (s : ByteArray) (v1 : Value) (h1 : Is enc Tryz.prog w 41 v1.cells.toList) (a1 : v1.cells.toList = [v1]) (hI : Inv w) : Calls Tryz.prog 6 ⟨[.string s, v1]⟩ w fun e w' => e = .returned (.bool true) ∧ Below w.heap.size w w':=by
 rw [a1] at h1
 obtain ⟨x, u, ex, hx, hv⟩:=h1.slice Tryz.underlying41 (s:=1) (by kernel_rfl) (by decide)
 obtain rfl : v1 = x:=by simpa using ex
 obtain ⟨ks, hks⟩:=fsl_of (P:=IntAt (mem w)) hv fun b o h => h.int Tryz.underlying3
 obtain ⟨v, h', B, e, hT, _⟩:=sp12 (s:=pack s.data.toList) hks (mem_St w)
 obtain ⟨fuel, hrun⟩:=(@lim_F Tryz.prog (orc fnA Inv) labs 6 _ _ _).1 e
 letI:=orc fnA Inv
 have:=okA
 have hr : Rel (rhoOf w) (.str (pack s.data.toList)) (.string s):=by
  have:=Rel.str (ρ:=rhoOf w) (pack s.data.toList)
  rw [pack_l] at this
  exact this
 refine (calls_of mixed named (heapOf_R w hI.size hI) (RelL.cons hr (RelL.cons (toV_rel hx) (RelL.nil _))) (by kernel_rfl) hrun).mono ?_
 rintro e w' ⟨x, ρ', rfl, hr, hg⟩
 obtain ⟨rfl, _⟩:=hT
 cases hr
 exact ⟨rfl, hg⟩
end
end Go.LB
end
