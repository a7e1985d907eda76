/- LexBack: all signs, and the signs sorted by length, reckoned by the kernel in the small machine itself. -/
import Derived.Test.YtdiiilfokajddaaGreatDoorKLBStart
import Derived.Test.YtdiiilfokajddaaGreatDoorKMidOO
set_option linter.all false
set_option warn.classDefReducibility false
noncomputable section
section
open Go Go.Mid Go.Proofs Go.RowKit
set_option maxRecDepth 100000
namespace Go.LB
section
abbrev sgG : GRow:=⟨sgA, false, 9⟩
def isS (v : V) (t : Tr Ob) : Bool := match v with
 | .slice b 0 31 31 false => rowIs (fun _ => b) sgG (t.get b)
 | _ => false
def chkS (p : Option (V × Hp)) : Bool := match p with
 | some (v, h) => isS v h.t
 | none => false
theorem chkS_so : chkS (@enterV Tryz.prog (orc fnC Inv) (@run Tryz.prog (orc fnC Inv) 100000) h0 (some (14, []))) = true:=by kernel_rfl
theorem signs_known : KnownG Tryz.prog Inv 14 [] (.slice 0 0 31 31 false) [sgG]:=by
 have h:=chkS_so
 cases hc : @enterV Tryz.prog (orc fnC Inv) (@run Tryz.prog (orc fnC Inv) 100000) h0 (some (14, [])) with
 | none => rw [hc] at h; cases h
 | some p =>
  obtain ⟨v, h'⟩:=p
  rw [hc] at h
  change isS v h'.t = true at h
  unfold isS at h
  split at h <;> try (cases h; done)
  rename_i b
  letI : Orc:=orc fnC Inv
  letI : OrcOk Tryz.prog:=okC
  refine knownG_chk (k:=1) mixed named (h0:=h0) (h':=h') (fun w hw => begins rfl (fun _ h => h) hw) rfl (rows:=[sgG]) (β:=fun _ => b) rfl (fun b hb => by simp [blksV] at hb; omega) (by kernel_rfl) ?_ (fun i j hi hj _ => by omega) (i0:=0) (r0:=sgG) (by simp [blksV]) rfl (by kernel_rfl) (labs:=labs) ((lim_F (P:=Tryz.prog)).2 ⟨100000, hc⟩)
  show Bool.rec (motive:=fun _ => Bool) false true (rowIs (fun _ => b) sgG (h'.t.get b)) = true
  rw [h]
def isT (v : V) (o : Option Ob) : Bool := match v, o with
 | .tuple [], some (.cells t 31 false 9) => vEqO (t.getL 0 31) (some sgB)
 | _, _ => false
def chkT (p : Option (V × Hp)) : Bool := match p with
 | some (v, h) => isT v (h.t.get 11)
 | none => false
theorem chkT_so : chkT (@enterV Tryz.prog (orc fnC Inv) (@run Tryz.prog (orc fnC Inv) 100000) (oneH 11 sgA 9) (some (39, [.slice 11 0 31 31 false, .int .i64 31, .func 23 [] []]))) = true:=by kernel_rfl
theorem sort_ran : ∃ h1 t', @lim Tryz.prog (orc fnC Inv) labs 78 [.slice 11 0 31 31 false, .int .i64 31, .func 23 [] []] (oneH 11 sgA 9) = some (.tuple [], h1) ∧ h1.t.get 11 = some (.cells t' 31 false 9) ∧ ∀ i, i < 31 → t'.get i = sgB[i]?:=by
 have h:=chkT_so
 cases hc : @enterV Tryz.prog (orc fnC Inv) (@run Tryz.prog (orc fnC Inv) 100000) (oneH 11 sgA 9) (some (39, [.slice 11 0 31 31 false, .int .i64 31, .func 23 [] []])) with
 | none => rw [hc] at h; cases h
 | some p =>
  obtain ⟨v, h'⟩:=p
  rw [hc] at h
  change isT v (h'.t.get 11) = true at h
  unfold isT at h
  split at h <;> try (cases h; done)
  rename_i t ht
  refine ⟨h', t, (@lim_F Tryz.prog (orc fnC Inv) labs 39 _ _ _).2 ⟨100000, hc⟩, ht, fun i hi => ?_⟩
  letI : Orc:=orc fnC Inv
  unfold vEqO at h
  cases hl : t.getL 0 31 with
  | none => rw [hl] at h; cases h
  | some l =>
   rw [hl] at h
   have hl2 : l = sgB:=vEqL_eq (x:=l) (y:=sgB) h
   subst hl2
   obtain ⟨_, hs⟩:=Tr.getL_spec _ _ _ _ hl
   have:=hs i hi
   rw [Nat.zero_add] at this; exact this.symm
end
end Go.LB
end
