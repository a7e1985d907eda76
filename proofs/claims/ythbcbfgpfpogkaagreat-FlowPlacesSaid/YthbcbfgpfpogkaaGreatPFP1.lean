/- FlowPlaces: the library's contract; the examples of the chapter (awake), reckoned by the kernel in the small machine itself. -/
import Derived.Test.YthbcbfgpfpogkaaGreatRows
import Derived.Test.YthbcbfgpfpogkaaGreatChecked
import Derived.Test.YthbcbfgpfpogkaaGreatPTryzShelf
import Derived.Test.YthbcbfgpfpogkaaGreatPFPb
import Derived.Test.YthbcbfgpfpogkaaGreatPMidZ
import Derived.FnData
import Derived.OpenShut
import Derived.Shelf.Vars
set_option linter.all false
set_option warn.classDefReducibility false
noncomputable section
section
open Go Go.Mid Go.Proofs Go.Proofs.YthbcbfgpfpogkaaGreat Go.RowKit
set_option maxRecDepth 100000
namespace Go.FP
section
theorem inv_of {w : World} (hs : w.ShapedOpen Tryz.prog) : Inv w := by
 refine ⟨cell_of_shapedOpen_int hs (t := 3) (zero := #[.int .i64 0]) (of_decide_eq_true (by kernel_rfl)) (by kernel_rfl) rfl (by kernel_rfl) (by kernel_rfl) (by kernel_rfl), ?_⟩
 have h6 : (((begin Tryz.prog (fun _ _ => 0) default).world.heap[0]?).bind Obj.row?).isSome = true := by kernel_rfl
 obtain ⟨p, hp⟩ := Option.isSome_iff_exists.1 h6
 obtain ⟨cs, hh, _⟩ := hs.1 0 p.1 p.2 (of_decide_eq_true (by kernel_rfl)) hp
 exact (Array.getElem?_eq_some_iff.1 hh).1
theorem Inv.later {w w' : World} (h : Inv w) (hB : Below w.heap.size w w') : Inv w' := by
 have hs := h.size
 refine ⟨?_, Nat.le_trans hs hB.size⟩
 obtain ⟨m, hm⟩ := h.c0
 refine ⟨m, ?_⟩
 unfold World.cell? at hm ⊢
 simp only at hm ⊢
 rw [hB.block 0 (by omega)]; exact hm
def h0 : Hp := ⟨.nil, 1, big⟩
def rho0 : Rho := fun b => if b < 1 then some ⟨b, 0, 0⟩ else none
theorem begins [O : Orc] [OrcOk Tryz.prog] (hn : Orc.ng = 1) (hi : ∀ w, Orc.inv w → Inv w) {w : World} (h : Orc.inv w) : Begins Tryz.prog h0 w := by
 have H := hi w h
 refine ⟨rho0, R.start ?_ ?_ ?_ ?_ ?_ h⟩
 ·intro b l hb
  unfold rho0 at hb
  split at hb <;> cases hb
  rename_i hlt
  exact ⟨hlt, .inl (Tr.get_nil _), .inr (Nat.lt_of_lt_of_le hlt H.size)⟩
 ·intro b l o hb ho
  simp [h0, Tr.get_nil] at ho
 ·intro b b' l l' hb hb' hne _ _
  unfold rho0 at hb hb'
  split at hb <;> cases hb
  split at hb' <;> cases hb'
  exact hne
 ·intro b hb
  exact Tr.get_nil _
 ·intro g hg
  rw [hn] at hg
  exact ⟨0, by unfold rho0; rw [if_pos hg]⟩
theorem contains_ok : ContainsC Tryz.prog 144 Inv := fun s sub w h hs => by
 obtain ⟨m, hm⟩ := h.c0
 exact Tryz.strings_Contains s sub m w hs hm
def fnC (f : FuncId) (vs : List V) (h : Hp) : Option (V × Hp) := bif Nat.beq f 144 then containsF vs h else none
theorem it149 : It.Ok Tryz.prog 149 ⟨66, 101, 3, 4, 1, false⟩ where
 code := ⟨Tryz.f149, _, _, _, _, _, _, _, _, _, _, #[3, 101], Tryz.func149, by kernel_rfl, by kernel_rfl, rfl, by unfold okOps; kernel_rfl, by unfold okOps; kernel_rfl, by unfold okOps; kernel_rfl, by unfold okOps; kernel_rfl⟩
 ts := by kernel_rfl
 ti := by kernel_rfl
 sz := by kernel_rfl
 ag := by kernel_rfl
theorem itr_ok (g : FuncId) (it : It) (h : itr0 g = some it) : It.Ok Tryz.prog g it := by
 unfold itr0 at h
 cases hg : Nat.beq g 149 <;> rw [hg] at h
 ·cases h
 ·have := Nat.eq_of_beq_eq_true hg
  subst this
  simp only [cond_true, Option.some.injEq] at h
  subst h
  exact it149
theorem opsC (fn : FuncId → List V → Hp → Option (V × Hp)) : @OpOk Tryz.prog (orc fn Inv) := fops _ _ _ _
theorem fnC_cases {f : FuncId} {vs : List V} {h : Hp} {p : V × Hp} (e : fnC f vs h = some p) : f = 144 ∧ containsF vs h = some p := by
 unfold fnC at e
 cases h1 : Nat.beq f 144 <;> rw [h1] at e
 ·cases e
 ·exact ⟨Nat.eq_of_beq_eq_true h1, e⟩
theorem okC : @OrcOk Tryz.prog (orc fnC Inv) :=
 letI : Orc := orc fnC Inv
 {pure := @OpOk.pure Tryz.prog (orc fnC Inv) (opsC _)
  reads := @OpOk.reads Tryz.prog (orc fnC Inv) (opsC _)
  make := @OpOk.make Tryz.prog (orc fnC Inv) (opsC _)
  itr := itr_ok
  fr := fun f vs h v h' e => by
   obtain ⟨_, e⟩ := fnC_cases (show fnC f vs h = some (v, h') from e)
   rw [containsF_heap e]; exact Fr.refl _
  sound := fun f vs h v h' e Z w0 w ρ xs H ha => by
   have hI : Inv w := Inv.later H.base H.below
   obtain ⟨rfl, e⟩ := fnC_cases (show fnC f vs h = some (v, h') from e)
   exact containsF_sim Tryz.func144 (by kernel_rfl) contains_ok hI e H ha }
def says (fuel : Nat) : Bool := match @enterV Tryz.prog (orc fnC Inv) (@run Tryz.prog (orc fnC Inv) fuel) h0 (some (5, [])) with
 | some (.bool b, _) => b
 | _ => false
theorem says_so : says 100000 = true := by kernel_rfl
theorem named : Named Tryz.prog := letI := orc fnC Inv; letI := okC; named_of (by kernel_rfl)
theorem mixed : Tryz.prog.follows .mixedOrders = true := by kernel_rfl
theorem awake_known : Known Tryz.prog Inv 5 [] (.bool true) := by
 have h := says_so
 unfold says at h
 cases hc : @enterV Tryz.prog (orc fnC Inv) (@run Tryz.prog (orc fnC Inv) 100000) h0 (some (5, [])) with
 | none => rw [hc] at h; cases h
 | some p =>
  obtain ⟨v, h'⟩ := p
  rw [hc] at h
  cases v <;> try (cases h; done)
  rename_i b
  cases b
  ·cases h
  ·exact @known_of Tryz.prog (orc fnC Inv) okC mixed named labs 5 [] (.bool true) h0 h' Inv (fun w hw => @begins (orc fnC Inv) okC rfl (fun _ h => h) w hw) rfl rfl ((@lim_F Tryz.prog (orc fnC Inv) labs 5 _ _ _).2 ⟨100000, hc⟩)
end
end Go.FP
end
