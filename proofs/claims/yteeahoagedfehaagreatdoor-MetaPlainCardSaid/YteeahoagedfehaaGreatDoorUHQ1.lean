/- MetaPlain: where it begins; the examples of the chapter (awake), reckoned by the kernel in the small machine itself. -/
import Derived.Test.YteeahoagedfehaaGreatDoorRows
import Derived.Test.YteeahoagedfehaaGreatDoorChecked
import Derived.Test.YteeahoagedfehaaGreatDoorUMSb
import Derived.Test.YteeahoagedfehaaGreatDoorUMidZ
import Derived.FnData
import Derived.OpenShut
set_option linter.all false
set_option warn.classDefReducibility false
noncomputable section
section
open Go Go.Mid Go.Proofs Go.Proofs.YteeahoagedfehaaGreatDoor Go.RowKit
set_option maxRecDepth 100000
namespace Go.MS
section
theorem Inv.later {w w' : World} (h : Inv w) (hB : Below w.heap.size w w') : Inv w':=⟨Nat.le_trans h.size hB.size, Lib.tabBelow_of_tabIs h.tab w' hB⟩
def h0 : Hp:=⟨.nil, 4, big⟩
def rho0 : Rho:=fun b => if b < 4 then some ⟨b, 0, 0⟩ else none
theorem begins [O : Orc] [OrcOk Tryz.prog] (hn : Orc.ng = 4) (hi : ∀ w, Orc.inv w → Inv w) {w : World} (h : Orc.inv w) : Begins Tryz.prog h0 w:=by
 have H:=hi w h
 refine ⟨rho0, R.start ?_ ?_ ?_ ?_ ?_ h⟩
 ·intro b l hb
  unfold rho0 at hb
  split at hb <;> cases hb
  rename_i hlt
  exact ⟨hlt, .inl (Tr.get_nil _), .inr (Nat.lt_of_lt_of_le hlt H.size)⟩
 ·intro b l o hb ho
  simp [h0, Tr.get_nil] at ho
 ·intro b b' l l' hb hb' hne _ _
  unfold rho0 at hb hb'
  split at hb <;> cases hb
  split at hb' <;> cases hb'
  exact hne
 ·intro b hb
  exact Tr.get_nil _
 ·intro g hg
  rw [hn] at hg
  exact ⟨0, by unfold rho0; rw [if_pos hg]⟩
def fnC (f : FuncId) (vs : List V) (h : Hp) : Option (V × Hp):=none
theorem itr_ok (g : FuncId) (it : It) (h : itr0 g = some it) : It.Ok Tryz.prog g it:=by
 unfold itr0 at h
 cases h
theorem opsC (fn : FuncId → List V → Hp → Option (V × Hp)) : @OpOk Tryz.prog (orc fn Inv):=bops _ _ _ _
theorem okC : @OrcOk Tryz.prog (orc fnC Inv) :=
 letI : Orc:=orc fnC Inv
 {pure := @OpOk.pure Tryz.prog (orc fnC Inv) (opsC _)
  reads:=@OpOk.reads Tryz.prog (orc fnC Inv) (opsC _)
  make:=@OpOk.make Tryz.prog (orc fnC Inv) (opsC _)
  itr:=itr_ok
  fr:=fun f vs h v h' e => by cases (show (none : Option (V × Hp)) = some (v, h') from e)
  sound:=fun f vs h v h' e Z w0 w ρ xs H ha => by cases (show (none : Option (V × Hp)) = some (v, h') from e) }
def says (fuel : Nat) : Bool := match @enterV Tryz.prog (orc fnC Inv) (@run Tryz.prog (orc fnC Inv) fuel) h0 (some (11, [])) with
 | some (.bool b, _) => b
 | _ => false
theorem says_so : says 100000 = true:=by kernel_rfl
theorem named : Named Tryz.prog:=letI:=orc fnC Inv; letI:=okC; named_of (by kernel_rfl)
theorem mixed : Tryz.prog.follows .mixedOrders = true:=by kernel_rfl
theorem awake_known : Known Tryz.prog Inv 11 [] (.bool true):=by
 have h:=says_so
 unfold says at h
 cases hc : @enterV Tryz.prog (orc fnC Inv) (@run Tryz.prog (orc fnC Inv) 100000) h0 (some (11, [])) with
 | none => rw [hc] at h; cases h
 | some p =>
  obtain ⟨v, h'⟩:=p
  rw [hc] at h
  cases v <;> try (cases h; done)
  rename_i b
  cases b
  ·cases h
  ·exact @known_of Tryz.prog (orc fnC Inv) okC mixed named labs 11 [] (.bool true) h0 h' Inv (fun w hw => @begins (orc fnC Inv) okC rfl (fun _ h => h) w hw) rfl rfl ((@lim_F Tryz.prog (orc fnC Inv) labs 11 _ _ _).2 ⟨100000, hc⟩)
end
end Go.MS
end
