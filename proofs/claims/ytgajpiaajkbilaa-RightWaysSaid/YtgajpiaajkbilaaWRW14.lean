import Derived.Test.YtgajpiaajkbilaaWRW13
import Derived.Test.YtgajpiaajkbilaaWMidR
import Derived.KernelRfl
set_option linter.all false
open Go Go.Mid Go.Proofs Go.RowKit
set_option maxRecDepth 100000
set_option linter.unusedVariables false
namespace Go.RW
theorem fn0_ok : @OrcOk Try.prog (orc fn0) :=
  letI := orc fn0
  { fr := fun _ _ _ _ _ h => (by cases h), sound := fun _ _ _ _ _ h => (by cases h) }
theorem named : Named Try.prog := letI := orc fn0; letI := fn0_ok; named_of (by kernel_rfl)
theorem mixed : Try.prog.follows .mixedOrders = true := by kernel_rfl
/-! the examples come out, in whatever world -/
theorem runs9 : tabTrue tab 1000000 9 = true := by kernel_rfl
theorem enter9 : ∃ fuel h', @enterV Try.prog (orc fn0) (@run Try.prog (orc fn0) fuel) ⟨.nil, 0, big⟩ (some (9, [])) = some (.bool true, h') := by
  obtain ⟨fuel, h⟩ := @tab_true Try.prog (orc fn0) labs tab tab_ok _ _ runs9
  unfold saysTrue callV at h
  cases hc : @enterV Try.prog (orc fn0) (@run Try.prog (orc fn0) fuel) ⟨.nil, 0, big⟩ (some (9, [])) with
  | none => simp [hc] at h
  | some p =>
    obtain ⟨v, h'⟩ := p
    rw [hc] at h
    cases v <;> try (cases h; done)
    rename_i b
    cases b
    · cases h
    · exact ⟨fuel, h', hc⟩
theorem empty_R (w : World) : @R (orc fn0) Try.prog w w ⟨.nil, 0, big⟩ (fun _ => none) :=
  @R.start Try.prog (orc fn0) fn0_ok w ⟨.nil, 0, big⟩ (fun _ => none) (fun _ _ h => nomatch h) (fun _ _ _ h => nomatch h) (fun _ _ _ _ h => nomatch h) (fun b _ => Tr.get_nil b) (fun g hg => absurd hg (Nat.not_lt_zero g))
theorem awake_calls (w : World) : (∃ fn, Try.prog.funcs[9]? = some fn ∧ fn.body.isNone = false) ∧ Calls Try.prog 9 ⟨[]⟩ w fun e w' => e = .returned (.bool true) ∧ Below w.heap.size w w' ∧ ∀ a : Addr, w.heap.size ≤ a.block → w'.frozen? a = false := by
  obtain ⟨fuel, h', he⟩ := enter9
  letI := orc fn0
  letI := fn0_ok
  obtain ⟨h1, hcalls⟩ := @call_sim Try.prog (orc fn0) fn0_ok fuel (@run_sim Try.prog (orc fn0) fn0_ok mixed named fuel).1 _ _ _ _ _ (empty_R w) _ _ _ (RelL.nil _) _ he
  refine ⟨h1, hcalls.mono ?_⟩
  rintro e w' ⟨x, ρ', rfl, h2, _, h3⟩
  cases h2
  exact ⟨rfl, h3.below, h3.thaw⟩
theorem fnA_ok : @OrcOk Try.prog (orc fnA) :=
  letI := orc fnA
  have inv : ∀ f vs h v h', fnA f vs h = some (v, h') → f = 9 ∧ vs = [] ∧ v = .bool true ∧ h' = h := fun f vs h v h' e => by
    unfold fnA at e
    split at e
    · cases e; exact ⟨rfl, rfl, rfl, rfl⟩
    · cases e
  { fr := fun f vs h v h' e => by obtain ⟨_, _, _, rfl⟩ := inv f vs h v h' e; exact Fr.refl _
    sound := fun f vs h v h' e w0 w ρ xs H ha => by
      obtain ⟨rfl, rfl, rfl, rfl⟩ := inv f vs h v h' e
      rw [ha.nil_inv]
      obtain ⟨h1, h2⟩ := awake_calls w
      refine ⟨h1, h2.mono ?_⟩
      rintro e w' ⟨rfl, hB, ht⟩
      exact ⟨_, ρ, rfl, .bool true, Ext.refl _, H.later (h2 := h') (ρ2 := ρ) hB ht⟩ }

/-! what the arguments' reading tells -/
section
variable {H : Type} {enc : TypeId × Value → H} {w : World} {b o : Nat}
theorem slV_of {e : TypeId} {s : Nat} {E : Nat → Nat → Prop} {v : V} (h : SlView enc Try.prog w e s v) (hE : ∀ b o, View enc Try.prog w e b o → E b o) : SlV s E v :=
  h.imp id fun ⟨b, o, n, c, h1, h2, h3⟩ => ⟨b, o, n, c, h1, h2, fun i hi => hE _ _ (h3 i hi)⟩
theorem vInts (h : View enc Try.prog w 39 b o) : SlAt (heapOf w) 1 (IntAt (heapOf w)) b o := by
  obtain ⟨v, h1, h2⟩ := h.sl Try.underlying39 (s := 1) (by kernel_rfl) (by decide)
  exact ⟨v, h1, slV_of h2 fun b o h => h.int Try.underlying3⟩
theorem vBools (h : View enc Try.prog w 30 b o) : SlAt (heapOf w) 1 (BoolAt (heapOf w)) b o := by
  obtain ⟨v, h1, h2⟩ := h.sl Try.underlying30 (s := 1) (by kernel_rfl) (by decide)
  exact ⟨v, h1, slV_of h2 fun b o h => h.bool Try.underlying4⟩
theorem vUp (h : View enc Try.prog w 37 b o) : UpAt (heapOf w) b o :=
  ⟨(h.field Try.underlying37 _ (List.mem_cons_self ..)).bool Try.underlying4, (h.field Try.underlying37 _ (List.mem_cons_of_mem _ (List.mem_cons_self ..))).int Try.underlying3⟩
theorem vExpr (h : View enc Try.prog w 41 b o) : ExprAt (heapOf w) b o :=
  have m := h.field Try.underlying41
  ⟨(m _ (by first | exact .head _ | exact .tail _ (.head _) | exact .tail _ (.tail _ (.head _)))).int Try.underlying38, (m _ (.tail _ (.head _))).int Try.underlying2, vInts (m _ (.tail _ (.tail _ (.head _))))⟩
theorem vStmt (h : View enc Try.prog w 44 b o) : StmtAt (heapOf w) b o :=
  have m := h.field Try.underlying44
  ⟨(m _ (.head _)).int Try.underlying42, vInts (m _ (.tail _ (.head _))), vInts (m _ (.tail _ (.tail _ (.head _)))), vInts (m _ (.tail _ (.tail _ (.tail _ (.head _))))),
    (m _ (.tail _ (.tail _ (.tail _ (.tail _ (.head _)))))).int Try.underlying3, (m _ (.tail _ (.tail _ (.tail _ (.tail _ (.tail _ (.head _))))))).int Try.underlying3,
    (m _ (.tail _ (.tail _ (.tail _ (.tail _ (.tail _ (.tail _ (.head _)))))))).int Try.underlying3⟩
theorem vSl {t e : TypeId} {s : Nat} {E : Nat → Nat → Prop} (hu : Try.prog.underlying t = some (.slice e)) (hs : Try.prog.cellsOf e = s) (h0 : 0 < s) (hE : ∀ b o, View enc Try.prog w e b o → E b o) (h : View enc Try.prog w t b o) : SlAt (heapOf w) s E b o := by
  obtain ⟨v, h1, h2⟩ := h.sl hu hs h0
  exact ⟨v, h1, slV_of h2 hE⟩
theorem vProto (h : View enc Try.prog w 35 b o) : ProtoAt (heapOf w) b o :=
  have m := h.field Try.underlying35
  ⟨(m _ (.head _)).int Try.underlying3, (m _ (.tail _ (.head _))).bool Try.underlying4, (m _ (.tail _ (.tail _ (.head _)))).int Try.underlying3, vBools (m _ (.tail _ (.tail _ (.tail _ (.head _))))),
    vSl Try.underlying31 (by kernel_rfl) (by decide) (fun _ _ => vUp) (m _ (.tail _ (.tail _ (.tail _ (.tail _ (.head _)))))),
    vSl Try.underlying32 (by kernel_rfl) (by decide) (fun _ _ => vStmt) (m _ (.tail _ (.tail _ (.tail _ (.tail _ (.tail _ (.head _))))))),
    vSl Try.underlying33 (by kernel_rfl) (by decide) (fun _ _ => vExpr) (m _ (.tail _ (.tail _ (.tail _ (.tail _ (.tail _ (.tail _ (.head _)))))))),
    (m _ (.tail _ (.tail _ (.tail _ (.tail _ (.tail _ (.tail _ (.tail _ (.head _))))))))).int Try.underlying3⟩
/-- the call answers true, whatever the input. -/
theorem ways (v0 v1 v2 : Value) (h0 : Is enc Try.prog w 26 v0.cells.toList) (h1 : Is enc Try.prog w 3 v1.cells.toList) (h2 : Is enc Try.prog w 30 v2.cells.toList) (ha : ∃ cs, v0 = .agg cs) (k1 : v1.cells = #[v1]) (k2 : v2.cells = #[v2]) :
    Calls Try.prog 4 ⟨[v0, v1, v2]⟩ w fun e w' => e = .returned (.bool true) ∧ Grown w w' := by
  obtain ⟨cs, rfl⟩ := ha
  have hw := heapOf_wf w
  obtain ⟨hl, m⟩ := h0.st Try.underlying26
  have hc2 : Try.prog.cellsOf 26 = 2 := by kernel_rfl
  have c23 : Try.prog.cellsOf 23 = 1 := by kernel_rfl
  have c24 : Try.prog.cellsOf 24 = 1 := by kernel_rfl
  have hs := m _ (.head _)
  have hp := m _ (.tail _ (.head _))
  simp only [c23, c24] at hs hp
  rw [hc2] at hl
  obtain ⟨l⟩ := cs
  obtain ⟨x, y, rfl⟩ : ∃ x y, l = [x, y] := by
    match l, hl with
    | [x, y], _ => exact ⟨x, y, rfl⟩
  obtain ⟨x', u0, ex, hx, hv0⟩ := hs.slice Try.underlying23 (s := 1) (by kernel_rfl) (by decide)
  obtain ⟨y', u1, ey, hy, hv1⟩ := hp.slice Try.underlying24 (s := 8) (by kernel_rfl) (by decide)
  obtain ⟨n, en⟩ := h1.int Try.underlying3
  rw [k1] at en
  obtain ⟨z', u2, ez, hz, hv2⟩ := h2.slice Try.underlying30 (s := 1) (by kernel_rfl) (by decide)
  rw [k2] at ez
  have ex : x = x' := by simpa [Value.cells] using ex
  have ey : y = y' := by simpa [Value.cells] using ey
  have en : v1 = .int .i64 n := by simpa using en
  have ez : v2 = z' := by simpa using ez
  subst ex; subst ey; subst en; subst ez
  have s0 : SlV 1 (StrAt (heapOf w)) u0 := slV_of hv0 fun b o h => h.str Try.underlying9
  have s1 : SlV 8 (ProtoAt (heapOf w)) u1 := slV_of hv1 fun b o h => vProto h
  have s2 : SlV 1 (BoolAt (heapOf w)) u2 := slV_of hv2 fun b o h => h.bool Try.underlying4
  obtain ⟨v, h', e, hT, _⟩ := ways_ret hw (Kp.refl _ _) s0 s1 s2 n
  obtain ⟨fuel, hrun⟩ := (@lim_F Try.prog (orc fnA) labs 4 _ _ _).1 e
  letI := orc fnA
  have := fnA_ok
  refine (calls_of mixed named (heapOf_R w (Nat.zero_le _)) (RelL.cons (.agg (cs := [u0, u1]) (xs := [x, y]) rfl (RelL.cons (toV_rel hx) (RelL.cons (toV_rel hy) (RelL.nil _))).2) (RelL.cons (.int .i64 n) (RelL.cons (toV_rel hz) (RelL.nil _)))) hrun).mono ?_
  rintro e w' ⟨x, ρ', rfl, hr, hg⟩
  cases hT
  cases hr
  exact ⟨rfl, hg⟩
end
end Go.RW
