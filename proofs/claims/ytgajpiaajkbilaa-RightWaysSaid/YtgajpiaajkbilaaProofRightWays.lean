/- RightWays: whatever program, place and choices come in, the law returns true, and what came in reads as it did. The frame is the guide's own shell; the walk is made in the small machine of the Mid texts, which starts from the world's own rows. No condition. -/
import Derived.Test.YtgajpiaajkbilaaRows
import Derived.Test.YtgajpiaajkbilaaWRW14
import Derived.WalkKit
import Derived.ProofKit
import Derived.OpenShut
import Derived.ReadAgain
import Derived.ChangeAgain
import Derived.ChangeReads
import Derived.ChangeBears
set_option linter.all false
namespace Go.Proofs.Ytgajpiaajkbilaa.rightWays
open Go.ChangeShapes Go.WideShapes Go.ChangeAt Go.RowKit

theorem own : ownKnob Try.prog.godebug = none := by kernel_rfl
theorem kids : Kids Try.prog (· < Try.prog.types.size) := kids_rows (by kernel_rfl) (by kernel_rfl)
theorem full : ∀ t e, t < Try.prog.types.size → Try.prog.underlying t = some (.slice e) → 0 < Try.prog.cellsOf e := slices_full_of Try.prog (by kernel_rfl)
theorem carryAll {H : Type} {enc : TypeId × Value → H} {P : Program} {W W' : World} {base : Nat} {sp : Nat → Bool} {held : Bool} : ∀ {ts : List TypeId} {vs : List Value} {ds : List (DataW H)} {ps : List MemPlace},
    DataW.TrodAll enc P W base sp held ts vs ds ps → (∀ p ∈ ps, W.sameAt W' p) → DataW.TrodAll enc P W' base sp held ts vs ds ps
  | [], [], [], _, h, _ => h
  | _ :: _, _ :: _, _ :: _, _, ⟨p, q, ⟨n, h1⟩, h2, e⟩, hs =>
    ⟨p, q, ⟨n, DataW.trod_carry n _ _ _ h1 fun x hx => hs x (by rw [e]; exact List.mem_append_left _ hx)⟩, carryAll h2 (fun x hx => hs x (by rw [e]; exact List.mem_append_right _ hx)), e⟩
theorem same_of {W W' : World} (hk : W.keptBut W' (fun _ => False)) {p : MemPlace} (hp : p.block < W.heap.size) : W.sameAt W' p := by
  have hb : W'.heap[p.block]? = W.heap[p.block]? := hk.block hp (fun _ h => h.elim)
  cases p with
  | cell b o => exact World.cell?_of_block (w := W) hb
  | map b => exact hb

set_option maxRecDepth 100000 in
theorem lifted (os : Os) (started : os.Started) (H : Type) (enc : TypeId × Value → H) :
    ReturnsInHanded {} Try.checked os 4 .any (Rows.rightWaysSpec.pre6 enc Try.prog Try.f4 Rows.rightWaysRow.domain false) (Rows.rightWaysSpec.post enc Try.prog Try.f4 false true false false) := by
  refine returnsInHanded_of_change (C := Try.checked) own started (by kernel_rfl) Try.func4
    (ChangeSpec.witness6 (enc := enc) (C := Try.checked) false ⟨#[], #[.agg #[.slice none 0 0, .slice none 0 0], .int .i64 0, .slice none 0 0], []⟩ 8 (by kernel_rfl) (by kernel_rfl) (by kernel_rfl) (by kernel_rfl)) ?_
  intro W base args ds gs before hval0 hW hcnd _
  have hval : ∀ (j : Nat) t v, Try.f4.params[j]? = some t → args[j]? = some v → Value.okWide Try.prog W .any base t v := hval0
  have hW' := hW
  obtain ⟨p, q, hA0, hV, rfl, hfz, hnd⟩ := hW
  have hA : DataW.TrodAll enc Try.prog W 0 (fun _ => true) true Try.f4.params.toList args.toList ds p := hA0
  have hAk := hA
  rw [Try.params4] at hA hval
  obtain ⟨v0, v1, v2, d0, d1, d2, p0, p1, p2, rfl, rfl, rfl, h0, h1, h2⟩ := trodAll_three hA
  obtain ⟨rfl, rfl⟩ := trodVars_none hV
  have a0 : ∃ cs, v0 = .agg cs := by
    have h := hval 0 26 v0 rfl rfl
    unfold Value.okWide at h
    rw [Try.underlying26] at h
    obtain ⟨cs, e, _⟩ := h
    exact ⟨cs, e⟩
  have flat : ∀ (v : Value), (∀ cs, v ≠ .agg cs) → v.cells = #[v] := fun v h => by cases v <;> first | rfl | exact absurd rfl (h _)
  have a1 : v1.cells = #[v1] := flat v1 fun cs e => by
    subst e
    have h := hval 1 3 _ rfl rfl
    unfold Value.okWide at h
    rw [Try.underlying3] at h
    simp [Cell.okWide, Try.underlying3, Cell.ok] at h
  have a2 : v2.cells = #[v2] := flat v2 fun cs e => by
    subst e
    have h := hval 2 30 _ rfl rfl
    unfold Value.okWide at h
    rw [Try.underlying30] at h
    simp [Cell.okWide, Try.underlying30, Cell.ok] at h
  clear hA0 hval0
  obtain ⟨n0, g0⟩ := h0
  obtain ⟨n1, g1⟩ := h1
  obtain ⟨n2, g2⟩ := h2
  refine (Go.RW.ways (enc := enc) v0 v1 v2 ⟨n0, _, g0⟩ ⟨n1, _, g1⟩ ⟨n2, _, g2⟩ a0 a1 a2).mono fun e W' ⟨he, hg⟩ => ?_
  subst he
  have hlt := hW'.lt
  exact ⟨_, rfl, post_of_same (pv := []) hW' (fun _ _ _ => (trodAll_cons_mk (shut_bool Try.underlying4 _) trodAll_mk0))
    (fun sp hsp => DataW.TrodAll.respare kids full (by rw [Try.params4]; decide) (carryAll hAk (fun p hp => same_of hg.1 (hlt p (by simpa using hp)))) (fun p hp => hsp p (by simpa using hp))) (fun _ _ => rfl) (by simp)
    (hg.frame _) hg.2.1 (ok_one (by kernel_rfl) rfl (okWide_bool_mk Try.underlying4 _))⟩

theorem over : Rows.rightWaysRow.holds Try.pinned (OpenSpec.ofChange Rows.rightWaysSpec) :=
  OpenClaim.holds_of_wide 4 Try.f4 rfl rfl rfl rfl rfl rfl rfl ⟨rfl, rfl, rfl, rfl, rfl⟩ rfl rfl rfl rfl rfl (by kernel_rfl) Try.func4 (by kernel_rfl)
    (of_decide_eq_true (by kernel_rfl)) (by unfold Func.isWrapper; first | (rw [if_pos (by decide +kernel)]; kernel_rfl) | (rw [if_neg (by decide +kernel)]; exact ⟨rfl, rfl⟩))
    (fun os started H enc _ => lifted os started H enc)

/-- ████ THE STATEMENT ████ -/
theorem proved : Rows.RightWaysSaid :=
  over
end Go.Proofs.Ytgajpiaajkbilaa.rightWays
