/- LexBack: for every start in which the listed package variables hold what is listed, and whatever comes in, the law returns true and leaves what was there as it was; the card is closed by the given tie. -/
import Derived.Test.YtdiiilfokajddaaGreatDoorRows
import Derived.Test.YtdiiilfokajddaaGreatDoorTie
import Derived.Test.YtdiiilfokajddaaGreatDoorCards
import Derived.Test.YtdiiilfokajddaaGreatDoorKPostOld
import Derived.Test.YtdiiilfokajddaaGreatDoorKLBCall
import Derived.ProofKit
import Derived.LaidMore
import Derived.OpenShut
import Derived.Stop.Joined
import Derived.SevenTiedAt
import Derived.Lay
import Derived.Lib.LaidTab
import Derived.HandedShaped
import Derived.WalkKit
import Derived.ReadAgain
import Derived.ChangeAgain
import Derived.ChangeReads
import Derived.ChangeBears
set_option linter.all false
set_option warn.classDefReducibility false
noncomputable section
section
open Go.ChangeShapes Go.WideShapes Go.ChangeAt Go.WideMaps Go.WideElems Go.RowKit
open Go.LB (laid)
namespace Go.Proofs.YtdiiilfokajddaaGreatDoor.lexBack
section
theorem own : ownKnob Tryz.prog.godebug = none:=by kernel_rfl
theorem door_met (os : Os) (args : Array Value) : laidMetH Tryz.prog laid ((World.laidAll Tryz.prog os laid).forCall (fun _ _ => 0) ⟨#[], args, []⟩).memory:=by
 rw [MakeChecks.laidMetH_plain _ _ _ (by kernel_rfl)]
 exact laidMet_laidAll _ (by kernel_rfl) (by kernel_rfl)
theorem kids : Kids Tryz.prog (· < Tryz.prog.types.size):=kids_rows (by kernel_rfl) (by kernel_rfl)
theorem full : ∀ t e, t < Tryz.prog.types.size → Tryz.prog.underlying t = some (.slice e) → 0 < Tryz.prog.cellsOf e:=slices_full_of Tryz.prog (by kernel_rfl)
theorem carryAll {H : Type} {enc : TypeId × Value → H} {P : Program} {W W' : World} {base : Nat} {sp : Nat → Bool} {held : Bool} : ∀ {ts : List TypeId} {vs : List Value} {ds : List (DataW H)} {ps : List MemPlace},
 DataW.TrodAll enc P W base sp held ts vs ds ps → (∀ p ∈ ps, W.sameAt W' p) → DataW.TrodAll enc P W' base sp held ts vs ds ps
 | [], [], [], _, h, _ => h
 | _ :: _, _ :: _, _ :: _, _, ⟨p, q, ⟨n, h1⟩, h2, e⟩, hs =>
  ⟨p, q, ⟨n, DataW.trod_carry n _ _ _ h1 fun x hx => hs x (by rw [e]; exact List.mem_append_left _ hx)⟩, carryAll h2 (fun x hx => hs x (by rw [e]; exact List.mem_append_right _ hx)), e⟩
theorem same_of {W W' : World} (hk : Below W.heap.size W W') {p : MemPlace} (hp : p.block < W.heap.size) : W.sameAt W' p:=by
 have hb : W'.heap[p.block]? = W.heap[p.block]?:=hk.block _ hp
 cases p with
 | cell b o => exact World.cell?_of_block (w:=W) hb
 | map b => exact hb
set_option maxRecDepth 100000 in
theorem lifted (os : Os) (started : os.Started) (H : Type) (enc : TypeId × Value → H) :
 ReturnsInHanded {} Tryz.checked os 6 .any (fun w args => (Rows.lexBackSpec.pre enc Tryz.prog Tryz.f6 [] false w args ∧ laidMetH Tryz.prog laid w) ∧ sizedMet enc Tryz.prog Tryz.f6 (OpenSpec.ofChange Rows.lexBackSpec) false w args)
  (Rows.lexBackSpec.post enc Tryz.prog Tryz.f6 false true false false):=by
 refine returnsInHanded_of_calls own started (by kernel_rfl)
  (ChangeSpec.witness_shaped (enc:=enc) (C:=Tryz.checked) (os:=os) (X:=fun w _ => laidMetH Tryz.prog laid w) false (World.laidAll Tryz.prog os laid) #[.string ⟨#[]⟩, .slice none 0 0] 8 (World.laidAll_os _ _ _) (World.shaped_of_ZipB (by kernel_rfl) (by kernel_rfl)) (by kernel_rfl) (by kernel_rfl) (by kernel_rfl) (door_met os _)) ?_
 intro w tape i _ hsh _ hok hpre _
 obtain ⟨_, _, _, fn', hfn', _, _, _, _, hval0⟩:=hok
 have e : fn' = Tryz.f6:=Option.some.inj (hfn'.symm.trans Tryz.func6)
 subst e
 obtain ⟨⟨⟨ds, gs, before, hw, _⟩, hx⟩, _⟩:=hpre
 have hL : laidMetH Tryz.prog laid (w.forCall tape i):=hx.of_heap (by rfl)
 have hW:=DataW.Whole.of_heap (w':=w.forCall tape i) (by rfl) hw
 generalize hWd : w.forCall tape i = W at hW hsh hval0 hL
 generalize i.args = args at hW hval0
 have hval : ∀ (j : Nat) t v, Tryz.f6.params[j]? = some t → args[j]? = some v → Value.okWide Tryz.prog W .any w.heap.size t v:=hval0
 have hW':=hW
 obtain ⟨p, q, hA0, hV, rfl, hfz, hnd⟩:=hW
 have hA : DataW.TrodAll enc Tryz.prog W 0 (fun _ => true) true Tryz.f6.params.toList args.toList ds p:=hA0
 have hAk:=hA
 rw [Tryz.params6] at hA hval
 obtain ⟨v0, v1, d0, d1, p0, p1, rfl, rfl, rfl, ⟨n0, g0⟩, ⟨n1, g1⟩⟩:=trodAll_two hA
 obtain ⟨rfl, rfl⟩:=trodVars_none hV
 have a0 : ∃ b, v0 = .string b:=by
  have h:=hval 0 9 v0 rfl rfl
  unfold Value.okWide at h
  rw [Tryz.underlying9] at h
  simp only at h
  cases v0 <;> first | exact ⟨_, rfl⟩ | skip
  all_goals
   unfold Cell.okWide at h
   rw [Tryz.underlying9] at h
   simp only at h
   unfold Cell.ok at h
   rw [Tryz.underlying9] at h
   simp at h
 obtain ⟨b, rfl⟩:=a0
 have a1 : v1.cells.toList = [v1]:=by
  have h:=hval 1 41 v1 rfl rfl
  unfold Value.okWide at h
  rw [Tryz.underlying41] at h
  simp only at h
  cases v1 <;> first | rfl | skip
  all_goals
   unfold Cell.okWide at h
   rw [Tryz.underlying41] at h
   simp only at h
   unfold Cell.ok at h
   rw [Tryz.underlying41] at h
   simp at h
 clear hA0 hval0
 refine (Go.LB.backs (enc:=enc) b v1 ⟨n1, _, g1⟩ a1 (Go.LB.inv_of hL hsh)).mono fun e W' ⟨he, hg⟩ => ?_
 subst he
 have hlt:=hW'.lt
 exact ChangeSpec.post_blind (Go.Mid.post_of_old (pv := []) hW' (fun _ _ _ => (trodAll_cons_mk (shut_bool Tryz.underlying4 _) trodAll_mk0))
  (fun sp hsp => DataW.TrodAll.respare kids full (by rw [Tryz.params6]; decide) (carryAll hAk (fun p hp => same_of hg (hlt p (by simpa using hp)))) (fun p hp => hsp p (by simpa using hp))) (fun _ _ => rfl) (by simp)
  hg (ok_one (by kernel_rfl) rfl (okWide_bool_mk Tryz.underlying4 _)))
theorem over : Rows.LexBackSaid :=
 OpenClaim.holds_of_wide 6 Tryz.f6 rfl rfl rfl rfl rfl rfl rfl ⟨rfl, rfl, rfl, rfl, rfl⟩ rfl rfl rfl rfl rfl (by kernel_rfl) Tryz.func6 (by kernel_rfl)
  (of_decide_eq_true (by kernel_rfl)) (by unfold Func.isWrapper; first | (rw [if_pos (by decide +kernel)]; kernel_rfl) | (rw [if_neg (by decide +kernel)]; exact ⟨rfl, rfl⟩))
  (fun os started H enc _ => lifted os started H enc)
theorem proved : Rows.LexBackCardSaid :=
 Claim7.holds_tied_plain_at .later [] [.data, .data, .data, .data, .sentinel, .sentinel, .listed, .data, .pinned] true (true, "1557cf7db40a2b8324ffcf19d6607d081878ccdfc14188d3a5e9753a009076e3") true
  over (fun _ h => by cases h) (by kernel_rfl) (fun _ h => by cases h) lexBack_row_tie rfl ⟨rfl, rfl⟩ (by kernel_rfl) rfl
  (fun f fn hf hfn => by
    obtain rfl : f = 6:=Option.some.inj ((show Tryz.prog.funcNamed "twinstep/twinsteplaw04.LexBack" = some 6 by kernel_rfl).symm.trans hf) |>.symm
    obtain rfl : fn = Tryz.f6:=(Option.some.inj (Tryz.func6.symm.trans hfn)).symm
    exact ⟨by kernel_rfl, fun j t ht => by
     rw [Tryz.params6] at ht
     rcases j with _ | _ | j
     ·obtain rfl : t = 9 := by simpa using ht.symm
      exact (show Tryz.prog.wantsStandIn 9 = false by kernel_rfl)
     ·obtain rfl : t = 41 := by simpa using ht.symm
      exact (show Tryz.prog.wantsStandIn 41 = false by kernel_rfl)
     ·simp at ht⟩)
  (by kernel_rfl)
end
end Go.Proofs.YtdiiilfokajddaaGreatDoor.lexBack
end
