/- FlowPlaces: for every start and every syntax the law returns true and leaves what was there as it was. -/
import Derived.Test.YthbcbfgpfpogkaaGreatRows
import Derived.Test.YthbcbfgpfpogkaaGreatPPostOld
import Derived.Test.YthbcbfgpfpogkaaGreatPFP2
import Derived.ProofKit
import Derived.OpenShut
import Derived.HandedShaped
import Derived.WalkKit
import Derived.ReadAgain
import Derived.ChangeAgain
import Derived.ChangeReads
import Derived.ChangeBears
set_option linter.all false
set_option warn.classDefReducibility false
noncomputable section
section
open Go.ChangeShapes Go.WideShapes Go.ChangeAt Go.WideMaps Go.WideElems Go.RowKit
namespace Go.Proofs.YthbcbfgpfpogkaaGreat.flowPlaces
section
theorem own : ownKnob Tryz.prog.godebug = none := by kernel_rfl
theorem kids : Kids Tryz.prog (· < Tryz.prog.types.size) := kids_rows (by kernel_rfl) (by kernel_rfl)
theorem full : ∀ t e, t < Tryz.prog.types.size → Tryz.prog.underlying t = some (.slice e) → 0 < Tryz.prog.cellsOf e := slices_full_of Tryz.prog (by kernel_rfl)
theorem carryAll {H : Type} {enc : TypeId × Value → H} {P : Program} {W W' : World} {base : Nat} {sp : Nat → Bool} {held : Bool} : ∀ {ts : List TypeId} {vs : List Value} {ds : List (DataW H)} {ps : List MemPlace},
 DataW.TrodAll enc P W base sp held ts vs ds ps → (∀ p ∈ ps, W.sameAt W' p) → DataW.TrodAll enc P W' base sp held ts vs ds ps
 | [], [], [], _, h, _ => h
 | _ :: _, _ :: _, _ :: _, _, ⟨p, q, ⟨n, h1⟩, h2, e⟩, hs =>
  ⟨p, q, ⟨n, DataW.trod_carry n _ _ _ h1 fun x hx => hs x (by rw [e]; exact List.mem_append_left _ hx)⟩, carryAll h2 (fun x hx => hs x (by rw [e]; exact List.mem_append_right _ hx)), e⟩
theorem same_of {W W' : World} (hk : Below W.heap.size W W') {p : MemPlace} (hp : p.block < W.heap.size) : W.sameAt W' p := by
 have hb : W'.heap[p.block]? = W.heap[p.block]? := hk.block _ hp
 cases p with
 | cell b o => exact World.cell?_of_block (w := W) hb
 | map b => exact hb
set_option maxRecDepth 100000 in
theorem lifted (os : Os) (started : os.Started) (H : Type) (enc : TypeId × Value → H) :
 ReturnsInHanded {} Tryz.checked os 3 .any (Rows.flowPlacesSpec.pre6 enc Tryz.prog Tryz.f3 Rows.flowPlacesRow.domain false) (Rows.flowPlacesSpec.post enc Tryz.prog Tryz.f3 false true false false) := by
 refine returnsInHanded_of_change_shaped (C := Tryz.checked) own started (by kernel_rfl) Tryz.func3
  (ChangeSpec.witness6 (enc := enc) (C := Tryz.checked) false ⟨#[], #[.agg #[.slice none 0 0, .int .i64 0]], []⟩ 8 (by kernel_rfl) (by kernel_rfl) (by kernel_rfl) (by kernel_rfl)) ?_
 intro W base args ds gs before hval0 hW hcnd _ hsh _
 have hval : ∀ (j : Nat) t v, Tryz.f3.params[j]? = some t → args[j]? = some v → Value.okWide Tryz.prog W .any base t v := hval0
 have hW' := hW
 obtain ⟨p, q, hA0, hV, rfl, hfz, hnd⟩ := hW
 have hA : DataW.TrodAll enc Tryz.prog W 0 (fun _ => true) true Tryz.f3.params.toList args.toList ds p := hA0
 have hAk := hA
 rw [Tryz.params3] at hA hval
 obtain ⟨v0, d0, rfl, rfl, n0, g0⟩ := trodAll_one hA
 obtain ⟨rfl, rfl⟩ := trodVars_none hV
 have a0 : ∃ cs, v0 = .agg cs := by
  have h := hval 0 24 v0 rfl rfl
  unfold Value.okWide at h
  rw [Tryz.underlying24] at h
  obtain ⟨cs, e, _⟩ := h
  exact ⟨cs, e⟩
 clear hA0 hval0
 refine (Go.FP.places (enc := enc) v0 ⟨n0, _, g0⟩ a0 (Go.FP.inv_of hsh)).mono fun e W' ⟨he, hg⟩ => ?_
 subst he
 have hlt := hW'.lt
 exact ⟨_, rfl, Go.Mid.post_of_old (pv := []) hW' (fun _ _ _ => (trodAll_cons_mk (shut_bool Tryz.underlying4 _) trodAll_mk0))
  (fun sp hsp => DataW.TrodAll.respare kids full (by rw [Tryz.params3]; decide) (carryAll hAk (fun p hp => same_of hg (hlt p (by simpa using hp)))) (fun p hp => hsp p (by simpa using hp))) (fun _ _ => rfl) (by simp)
  hg (ok_one (by kernel_rfl) rfl (okWide_bool_mk Tryz.underlying4 _))⟩
theorem proved : Rows.FlowPlacesSaid :=
 OpenClaim.holds_of_wide 3 Tryz.f3 rfl rfl rfl rfl rfl rfl rfl ⟨rfl, rfl, rfl, rfl, rfl⟩ rfl rfl rfl rfl rfl (by kernel_rfl) Tryz.func3 (by kernel_rfl)
  (of_decide_eq_true (by kernel_rfl)) (by unfold Func.isWrapper; first | (rw [if_pos (by decide +kernel)]; kernel_rfl) | (rw [if_neg (by decide +kernel)]; exact ⟨rfl, rfl⟩))
  (fun os started H enc _ => lifted os started H enc)
end
end Go.Proofs.YthbcbfgpfpogkaaGreat.flowPlaces
end
