/- MetaStore: the call, whatever setup comes in. -/
import Derived.Test.YteeahoagedfehaaGreatDoorSHP1
import Derived.Test.YteeahoagedfehaaGreatDoorSHU7
import Derived.Test.YteeahoagedfehaaGreatDoorSMidZ
set_option linter.all false
set_option warn.classDefReducibility false
noncomputable section
section
open Go Go.Mid Go.Proofs Go.Proofs.YteeahoagedfehaaGreatDoor Go.RowKit
set_option maxRecDepth 100000
namespace Go.MS
section
theorem fnA_cases {f : FuncId} {vs : List V} {h : Hp} {p : V × Hp} (e : fnA f vs h = some p) : f = 11 ∧ vs = [] ∧ p = (.bool true, h) := by
 unfold fnA at e
 cases h2 : Nat.beq f 11 <;> rw [h2] at e
 ·cases e
 ·cases vs with
  | nil => cases e; exact ⟨Nat.eq_of_beq_eq_true h2, rfl, rfl⟩
  | cons a l => cases e
theorem okA : @OrcOk Tryz.prog (orc fnA Inv) :=
 letI : Orc := orc fnA Inv
 {pure := @OpOk.pure Tryz.prog (orc fnA Inv) (opsC _)
  reads := @OpOk.reads Tryz.prog (orc fnA Inv) (opsC _)
  make := @OpOk.make Tryz.prog (orc fnA Inv) (opsC _)
  itr := itr_ok
  fr := fun f vs h v h' e => by
   obtain ⟨_, _, e⟩ := fnA_cases (show fnA f vs h = some (v, h') from e)
   cases e; exact Fr.refl _
  sound := fun f vs h v h' e Z w0 w ρ xs H ha => by
   have hI : Inv w := Inv.later H.base H.below
   obtain ⟨rfl, rfl, e⟩ := fnA_cases (show fnA f vs h = some (v, h') from e)
   cases e
   refine (awake_known ρ xs ha w hI).mono ?_
   rintro e w' ⟨x, rfl, hx, hB⟩
   exact ⟨x, ρ, rfl, hx, Ext.refl _, H.later (h2 := h) (ρ2 := ρ) hB⟩ }
section
variable {H : Type} {enc : TypeId × Value → H} {w : World} {b o : Nat}
def mem (w : World) : MS.Mem := fun b o => (heapOf w).cell b o
theorem all_of {α : Type} {P : Nat → α → Prop} : ∀ n, (∀ i, i < n → ∃ a, P i a) → ∃ l : List α, l.length = n ∧ ∀ i (hi : i < l.length), P i l[i]
 | 0, _ => ⟨[], rfl, fun i hi => absurd hi (Nat.not_lt_zero _)⟩
 | n + 1, h => by
  obtain ⟨l, h1, h2⟩ := all_of n fun i hi => h i (by omega)
  obtain ⟨a, ha⟩ := h n (by omega)
  refine ⟨l ++ [a], by simp [h1], fun i hi => ?_⟩
  rw [List.length_append, List.length_singleton] at hi
  by_cases e : i < l.length
  ·rw [List.getElem_append_left e]; exact h2 i e
  ·have : i = n := by omega
   subst this
   rw [List.getElem_append_right (by omega)]; simpa using ha
theorem fsl_of {α : Type} {P : Nat → Nat → α → Prop} {e : TypeId} {s : Nat} {v : V} (h : SlView enc Tryz.prog w e s v) (hP : ∀ b o, View enc Tryz.prog w e b o → ∃ a, P b o a) : ∃ l : List α, FSl s P v l := by
 rcases h with h | ⟨b, o, n, c, h1, ⟨h2, h4⟩, h3⟩
 ·exact ⟨[], .inl ⟨h, rfl⟩⟩
 ·obtain ⟨l, hl, hp⟩ := all_of n fun i hi => hP _ _ (h3 i hi)
  subst hl
  exact ⟨l, .inr ⟨b, o, c, h1, h4, h2, hp⟩⟩
theorem is_arr {P : Program} {t e : TypeId} {n : Nat} {cs : List Value} (hu : P.underlying t = some (.array n e)) (h : Is enc P w t cs) : cs.length = P.cellsOf t ∧ ∀ i, i < n → Is enc P w e ((cs.drop (i * P.cellsOf e)).take (P.cellsOf e)) := by
 obtain ⟨fuel, x, h⟩ := h
 obtain ⟨xs, m, _, _, hl, hn, he⟩ := DataW.trod_array hu h
 refine ⟨hl, fun i hi => ?_⟩
 have h1 := he i hi
 rw [List.getElem?_eq_getElem (by omega)] at h1
 exact ⟨m, _, h1⟩
theorem is_three {cs : List Value} (h : Is enc Tryz.prog w 26 cs) : ∃ a b c : Int, cs = [.int .i64 a, .int .i64 b, .int .i64 c] := by
 obtain ⟨hl, he⟩ := is_arr Tryz.underlying26 h
 have hc : Tryz.prog.cellsOf 26 = 3 := by kernel_rfl
 have c3 : Tryz.prog.cellsOf 3 = 1 := by kernel_rfl
 rw [hc] at hl
 rw [c3] at he
 obtain ⟨x, y, z, rfl⟩ : ∃ x y z, cs = [x, y, z] := by
  match cs, hl with
  | [x, y, z], _ => exact ⟨x, y, z, rfl⟩
 obtain ⟨a, ea⟩ := (he 0 (by decide)).int Tryz.underlying3
 obtain ⟨b, eb⟩ := (he 1 (by decide)).int Tryz.underlying3
 obtain ⟨c, ec⟩ := (he 2 (by decide)).int Tryz.underlying3
 have ea : x = .int .i64 a := by simpa using ea
 have eb : y = .int .i64 b := by simpa using eb
 have ec : z = .int .i64 c := by simpa using ec
 exact ⟨a, b, c, by rw [ea, eb, ec]⟩
theorem set_of (h : View enc Tryz.prog w 26 b o) : ∃ x, SetAt (mem w) b o x := by
 obtain ⟨cs, h1, h2⟩ := h
 obtain ⟨x, y, z, rfl⟩ := is_three h2
 exact ⟨(x, y, z), h1 0 _ rfl, h1 1 _ rfl, h1 2 _ rfl⟩
theorem mem_St (w : World) : St [frz (mem w)] (heapOf w) := by
 refine ⟨heapOf_wf w, hf (heapOf w), fun _ => none, fun _ => .inr rfl, Lf.refl _, fun _ _ h => (nomatch h), fun b o v hv => ?_, trivial⟩
 unfold mem Hp.cell at hv
 unfold hf
 cases ht : cellsT ((heapOf w).t.get b) with
 | none => rw [ht] at hv; cases hv
 | some t => rw [ht] at hv; exact ⟨t, rfl, hv⟩
theorem stores (v0 v1 : Value) (h0 : Is enc Tryz.prog w 25 v0.cells.toList) (a0 : ∃ cs, v0 = .agg cs) (h1 : Is enc Tryz.prog w 26 v1.cells.toList) (a1 : ∃ cs, v1 = .agg cs) (hI : Inv w) :
 Calls Tryz.prog 3 ⟨[v0, v1]⟩ w fun e w' => e = .returned (.bool true) ∧ Below w.heap.size w w' := by
 obtain ⟨cs, rfl⟩ := a0
 obtain ⟨cs1, rfl⟩ := a1
 obtain ⟨hl, m⟩ := h0.st Tryz.underlying25
 have hc : Tryz.prog.cellsOf 25 = 3 := by kernel_rfl
 have c22 : Tryz.prog.cellsOf 22 = 1 := by kernel_rfl
 have c23 : Tryz.prog.cellsOf 23 = 1 := by kernel_rfl
 have c3 : Tryz.prog.cellsOf 3 = 1 := by kernel_rfl
 have hm := m _ (.head _)
 have hs := m _ (.tail _ (.head _))
 have hr := m _ (.tail _ (.tail _ (.head _)))
 simp only [c22, c23, c3] at hm hs hr
 rw [hc] at hl
 obtain ⟨l⟩ := cs
 obtain ⟨x, y, z, rfl⟩ : ∃ x y z, l = [x, y, z] := by
  match l, hl with
  | [x, y, z], _ => exact ⟨x, y, z, rfl⟩
 obtain ⟨x', u0, ex, hx, hv0⟩ := hm.slice Tryz.underlying22 (s := 1) (by kernel_rfl) (by decide)
 obtain ⟨y', u1, ey, hy, hv1⟩ := hs.slice Tryz.underlying23 (s := 3) (by kernel_rfl) (by decide)
 obtain ⟨n, en⟩ := hr.int Tryz.underlying3
 have ex : x = x' := by simpa [Value.cells] using ex
 have ey : y = y' := by simpa [Value.cells] using ey
 have en : z = .int .i64 n := by simpa [Value.cells] using en
 subst ex; subst ey; subst en
 obtain ⟨l1⟩ := cs1
 obtain ⟨i1, i2, i3, e3⟩ := is_three h1
 have e3 : l1 = [.int .i64 i1, .int .i64 i2, .int .i64 i3] := e3
 subst e3
 obtain ⟨ms, hms⟩ := fsl_of (P := IntAt (mem w)) hv0 fun b o h => h.int Tryz.underlying3
 obtain ⟨ss, hss⟩ := fsl_of (P := SetAt (mem w)) hv1 fun b o h => set_of h
 obtain ⟨v, h', B, e, hT, _⟩ := store_ok (r := n) (i1 := i1) (i2 := i2) (i3 := i3) hms hss (mem_St w)
 obtain ⟨fuel, hrun⟩ := (@lim_F Tryz.prog (orc fnA Inv) labs 3 _ _ _).1 e
 letI := orc fnA Inv
 have := okA
 refine (calls_of mixed named (heapOf_R w hI.size hI) (RelL.cons (.agg (cs := [u0, u1, .int .i64 n]) (xs := [x, y, .int .i64 n]) rfl (RelL.cons (toV_rel hx) (RelL.cons (toV_rel hy) (RelL.cons (.int .i64 n) (RelL.nil _)))).2) (RelL.cons (.agg (cs := [.int .i64 i1, .int .i64 i2, .int .i64 i3]) (xs := [.int .i64 i1, .int .i64 i2, .int .i64 i3]) rfl (RelL.cons (.int .i64 i1) (RelL.cons (.int .i64 i2) (RelL.cons (.int .i64 i3) (RelL.nil _)))).2) (RelL.nil _))) (by kernel_rfl) hrun).mono ?_
 rintro e w' ⟨x, ρ', rfl, hr, hg⟩
 obtain ⟨rfl, _⟩ := hT
 cases hr
 exact ⟨rfl, hg⟩
end
end
end Go.MS
end
