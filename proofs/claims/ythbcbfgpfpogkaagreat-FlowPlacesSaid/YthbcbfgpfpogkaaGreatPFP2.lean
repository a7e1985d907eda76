/- FlowPlaces: the call, whatever syntax comes in. -/
import Derived.Test.YthbcbfgpfpogkaaGreatPFP1
import Derived.Test.YthbcbfgpfpogkaaGreatPFL37
import Derived.Test.YthbcbfgpfpogkaaGreatPMidZ
set_option linter.all false
set_option warn.classDefReducibility false
noncomputable section
section
open Go Go.Mid Go.Proofs Go.Proofs.YthbcbfgpfpogkaaGreat Go.RowKit
set_option maxRecDepth 100000
namespace Go.FP
section
theorem fnA_cases {f : FuncId} {vs : List V} {h : Hp} {p : V × Hp} (e : fnA f vs h = some p) : (f = 144 ∧ containsF vs h = some p) ∨ (f = 5 ∧ vs = [] ∧ p = (.bool true, h)) := by
 unfold fnA at e
 cases h1 : Nat.beq f 144 <;> rw [h1] at e
 ·cases h2 : Nat.beq f 5 <;> rw [h2] at e
  ·cases e
  ·right
   cases vs with
   | nil => cases e; exact ⟨Nat.eq_of_beq_eq_true h2, rfl, rfl⟩
   | cons a l => cases e
 ·exact .inl ⟨Nat.eq_of_beq_eq_true h1, e⟩
theorem okA : @OrcOk Tryz.prog (orc fnA Inv) :=
 letI : Orc := orc fnA Inv
 {pure := @OpOk.pure Tryz.prog (orc fnA Inv) (opsC _)
  reads := @OpOk.reads Tryz.prog (orc fnA Inv) (opsC _)
  make := @OpOk.make Tryz.prog (orc fnA Inv) (opsC _)
  itr := itr_ok
  fr := fun f vs h v h' e => by
   rcases fnA_cases (show fnA f vs h = some (v, h') from e) with ⟨_, e⟩ | ⟨_, _, e⟩
   ·rw [containsF_heap e]; exact Fr.refl _
   ·cases e; exact Fr.refl _
  sound := fun f vs h v h' e Z w0 w ρ xs H ha => by
   have hI : Inv w := Inv.later H.base H.below
   rcases fnA_cases (show fnA f vs h = some (v, h') from e) with ⟨rfl, e⟩ | ⟨rfl, rfl, e⟩
   ·exact containsF_sim Tryz.func144 (by kernel_rfl) contains_ok hI e H ha
   ·cases e
    refine (awake_known ρ xs ha w hI).mono ?_
    rintro e w' ⟨x, rfl, hx, hB⟩
    exact ⟨x, ρ, rfl, hx, Ext.refl _, H.later (h2 := h) (ρ2 := ρ) hB⟩ }
section
variable {H : Type} {enc : TypeId × Value → H} {w : World} {b o : Nat}
def mem (w : World) : FP.Mem := fun b o => (heapOf w).cell b o
theorem all_of {α : Type} {P : Nat → α → Prop} : ∀ n, (∀ i, i < n → ∃ a, P i a) → ∃ l : List α, l.length = n ∧ ∀ i (hi : i < l.length), P i l[i]
 | 0, _ => ⟨[], rfl, fun i hi => absurd hi (Nat.not_lt_zero _)⟩
 | n + 1, h => by
  obtain ⟨l, h1, h2⟩ := all_of n fun i hi => h i (by omega)
  obtain ⟨a, ha⟩ := h n (by omega)
  refine ⟨l ++ [a], by simp [h1], fun i hi => ?_⟩
  rw [List.length_append, List.length_singleton] at hi
  by_cases e : i < l.length
  ·rw [List.getElem_append_left e]; exact h2 i e
  ·have : i = n := by omega
   subst this
   rw [List.getElem_append_right (by omega)]; simpa using ha
theorem fsl_of {α : Type} {P : Nat → Nat → α → Prop} {e : TypeId} {s : Nat} {v : V} (h : SlView enc Tryz.prog w e s v) (hP : ∀ b o, View enc Tryz.prog w e b o → ∃ a, P b o a) : ∃ l : List α, FSl s P v l := by
 rcases h with h | ⟨b, o, n, c, h1, ⟨h2, h4⟩, h3⟩
 ·exact ⟨[], .inl ⟨h, rfl⟩⟩
 ·obtain ⟨l, hl, hp⟩ := all_of n fun i hi => hP _ _ (h3 i hi)
  subst hl
  exact ⟨l, .inr ⟨b, o, c, h1, h4, h2, hp⟩⟩
theorem node_of (h : View enc Tryz.prog w 64 b o) : ∃ n, NdAt (mem w) b o n := by
 have m := h.field Tryz.underlying64
 obtain ⟨kd, h0⟩ := (m _ (.head _)).int Tryz.underlying62
 obtain ⟨num, h1⟩ := (m _ (.tail _ (.head _))).int Tryz.underlying2
 obtain ⟨nm, h2⟩ := (m _ (.tail _ (.tail _ (.head _)))).str Tryz.underlying9
 obtain ⟨nsV, h3, h3'⟩ := (m _ (.tail _ (.tail _ (.tail _ (.head _))))).sl Tryz.underlying26 (s := 1) (by kernel_rfl) (by decide)
 obtain ⟨ksV, h4, h4'⟩ := (m _ (.tail _ (.tail _ (.tail _ (.tail _ (.head _)))))).sl Tryz.underlying46 (s := 1) (by kernel_rfl) (by decide)
 obtain ⟨ln, h5⟩ := (m _ (.tail _ (.tail _ (.tail _ (.tail _ (.tail _ (.head _))))))).int Tryz.underlying3
 obtain ⟨ns, hns⟩ := fsl_of (P := StrAt (mem w)) h3' fun b o h => h.str Tryz.underlying9
 obtain ⟨ks, hks⟩ := fsl_of (P := IntAt (mem w)) h4' fun b o h => h.int Tryz.underlying3
 exact ⟨⟨kd, num, nm, nsV, ksV, ln, ns, ks⟩, h0, h1, h2, h3, h4, h5, hns, hks⟩
theorem mem_St (w : World) : St [frz (mem w)] (heapOf w) := by
 refine ⟨heapOf_wf w, hf (heapOf w), fun _ => none, fun _ => .inr rfl, Lf.refl _, fun _ _ h => (nomatch h), fun b o v hv => ?_, trivial⟩
 unfold mem Hp.cell at hv
 unfold hf
 cases ht : cellsT ((heapOf w).t.get b) with
 | none => rw [ht] at hv; cases hv
 | some t => rw [ht] at hv; exact ⟨t, rfl, hv⟩
theorem places (v0 : Value) (h0 : Is enc Tryz.prog w 24 v0.cells.toList) (ha : ∃ cs, v0 = .agg cs) (hI : Inv w) :
 Calls Tryz.prog 3 ⟨[v0]⟩ w fun e w' => e = .returned (.bool true) ∧ Below w.heap.size w w' := by
 obtain ⟨cs, rfl⟩ := ha
 obtain ⟨hl, m⟩ := h0.st Tryz.underlying24
 have hc : Tryz.prog.cellsOf 24 = 2 := by kernel_rfl
 have c22 : Tryz.prog.cellsOf 22 = 1 := by kernel_rfl
 have c3 : Tryz.prog.cellsOf 3 = 1 := by kernel_rfl
 have hs := m _ (.head _)
 have hp := m _ (.tail _ (.head _))
 simp only [c22, c3] at hs hp
 rw [hc] at hl
 obtain ⟨l⟩ := cs
 obtain ⟨x, y, rfl⟩ : ∃ x y, l = [x, y] := by
  match l, hl with
  | [x, y], _ => exact ⟨x, y, rfl⟩
 obtain ⟨x', u0, ex, hx, hv0⟩ := hs.slice Tryz.underlying22 (s := 6) (by kernel_rfl) (by decide)
 obtain ⟨n, en⟩ := hp.int Tryz.underlying3
 have ex : x = x' := by simpa [Value.cells] using ex
 have en : y = .int .i64 n := by simpa [Value.cells] using en
 subst ex; subst en
 obtain ⟨nds, hnds⟩ := fsl_of (P := NdAt (mem w)) hv0 fun b o h => node_of h
 obtain ⟨v, h', B, e, hT, _⟩ := law_ok (root := n) hnds (mem_St w)
 obtain ⟨fuel, hrun⟩ := (@lim_F Tryz.prog (orc fnA Inv) labs 3 _ _ _).1 e
 letI := orc fnA Inv
 have := okA
 refine (calls_of mixed named (heapOf_R w hI.size hI) (RelL.cons (.agg (cs := [u0, .int .i64 n]) (xs := [x, .int .i64 n]) rfl (RelL.cons (toV_rel hx) (RelL.cons (.int .i64 n) (RelL.nil _))).2) (RelL.nil _)) (by kernel_rfl) hrun).mono ?_
 rintro e w' ⟨x, ρ', rfl, hr, hg⟩
 cases hT
 cases hr
 exact ⟨rfl, hg⟩
end
end
end Go.FP
end
