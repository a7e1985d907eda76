/- MetaPlain: for every start in which the listed package variables hold what is listed, and whatever comes in, the law returns true and leaves what was there as it was; the card is closed by the given tie. -/
import Derived.Test.YteeahoagedfehaaGreatDoorRows
import Derived.Test.YteeahoagedfehaaGreatDoorTie
import Derived.Test.YteeahoagedfehaaGreatDoorCards
import Derived.Test.YteeahoagedfehaaGreatDoorUPostOld
import Derived.Test.YteeahoagedfehaaGreatDoorUHQ2
import Derived.ProofKit
import Derived.LaidMore
import Derived.OpenShut
import Derived.Stop.Joined
import Derived.SevenTiedAt
import Derived.Lay
import Derived.Lib.LaidTab
import Derived.HandedShaped
import Derived.WalkKit
import Derived.ReadAgain
import Derived.ChangeAgain
import Derived.ChangeReads
import Derived.ChangeBears
set_option linter.all false
set_option warn.classDefReducibility false
noncomputable section
section
open Go.ChangeShapes Go.WideShapes Go.ChangeAt Go.WideMaps Go.WideElems Go.RowKit
namespace Go.Proofs.YteeahoagedfehaaGreatDoor.metaPlain
section
abbrev laid : List (String × DataW Unit):=[("math/bits.deBruijn32tab", Rows.laid_math_bits_deBruijn32tab), ("math/bits.deBruijn64tab", Rows.laid_math_bits_deBruijn64tab), ("internal/strconv.uint64pow10", Rows.laid_internal_strconv_uint64pow10)]
theorem own : ownKnob Tryz.prog.godebug = none:=by kernel_rfl
theorem door_met (os : Os) (args : Array Value) : laidMetH Tryz.prog laid ((World.laidAll Tryz.prog os laid).forCall (fun _ _ => 0) ⟨#[], args, []⟩).memory:=by
 rw [MakeChecks.laidMetH_plain _ _ _ (by kernel_rfl)]
 exact laidMet_laidAll _ (by kernel_rfl) (by kernel_rfl)
theorem kids : Kids Tryz.prog (· < Tryz.prog.types.size):=kids_rows (by kernel_rfl) (by kernel_rfl)
theorem full : ∀ t e, t < Tryz.prog.types.size → Tryz.prog.underlying t = some (.slice e) → 0 < Tryz.prog.cellsOf e:=slices_full_of Tryz.prog (by kernel_rfl)
theorem carryAll {H : Type} {enc : TypeId × Value → H} {P : Program} {W W' : World} {base : Nat} {sp : Nat → Bool} {held : Bool} : ∀ {ts : List TypeId} {vs : List Value} {ds : List (DataW H)} {ps : List MemPlace},
 DataW.TrodAll enc P W base sp held ts vs ds ps → (∀ p ∈ ps, W.sameAt W' p) → DataW.TrodAll enc P W' base sp held ts vs ds ps
 | [], [], [], _, h, _ => h
 | _ :: _, _ :: _, _ :: _, _, ⟨p, q, ⟨n, h1⟩, h2, e⟩, hs =>
  ⟨p, q, ⟨n, DataW.trod_carry n _ _ _ h1 fun x hx => hs x (by rw [e]; exact List.mem_append_left _ hx)⟩, carryAll h2 (fun x hx => hs x (by rw [e]; exact List.mem_append_right _ hx)), e⟩
theorem same_of {W W' : World} (hk : Below W.heap.size W W') {p : MemPlace} (hp : p.block < W.heap.size) : W.sameAt W' p:=by
 have hb : W'.heap[p.block]? = W.heap[p.block]?:=hk.block _ hp
 cases p with
 | cell b o => exact World.cell?_of_block (w:=W) hb
 | map b => exact hb
set_option maxRecDepth 100000 in
theorem inv_of {w : World} (h : laidMetH Tryz.prog laid w) (hs : w.ShapedOpen Tryz.prog) : Go.MS.Inv w:=by
 rw [MakeChecks.laidMetH_plain _ _ _ (by kernel_rfl)] at h
 obtain ⟨ps, ⟨g4, t4, cs4, f4, p4, q4, hg4, ht4, hv4, hd4, ⟨g5, t5, cs5, f5, p5, q5, hg5, ht5, hv5, hd5, ⟨g3, t3, cs3, f3, p3, q3, hg3, ht3, hv3, hd3, _⟩, _⟩, _⟩, _⟩:=h
 refine ⟨?_, ?_⟩
 ·have h6 : (((begin Tryz.prog (fun _ _ => 0) default).world.heap[3]?).bind Obj.row?).isSome = true := by kernel_rfl
  obtain ⟨p, hp⟩:=Option.isSome_iff_exists.1 h6
  obtain ⟨cs, hh, _⟩:=hs.1 3 p.1 p.2 (of_decide_eq_true (by kernel_rfl)) hp
  exact (Array.getElem?_eq_some_iff.1 hh).1
 ·obtain rfl := Option.some.inj ((show Tryz.prog.globalNamed "internal/strconv.uint64pow10" = some 1 by kernel_rfl).symm.trans hg3)
  obtain rfl:=Option.some.inj ((show (Tryz.prog.globals[1]?).map (·.type) = some 167 by kernel_rfl).symm.trans ht3)
  unfold Lib.TabIs
  rw [hv3, ← Lib.cells_of_tab Tryz.underlying167 Tryz.underlying154 (by kernel_rfl) (by kernel_rfl) hd3]
set_option maxRecDepth 100000 in
theorem lifted (os : Os) (started : os.Started) (H : Type) (enc : TypeId × Value → H) :
 ReturnsInHanded {} Tryz.checked os 4 .any (fun w args => (Rows.metaPlainSpec.pre enc Tryz.prog Tryz.f4 [] false w args ∧ laidMetH Tryz.prog laid w) ∧ sizedMet enc Tryz.prog Tryz.f4 (OpenSpec.ofChange Rows.metaPlainSpec) false w args)
  (Rows.metaPlainSpec.post enc Tryz.prog Tryz.f4 false true false false):=by
 refine returnsInHanded_of_calls own started (by kernel_rfl)
  (ChangeSpec.witness_shaped (enc:=enc) (C:=Tryz.checked) (os:=os) (X:=fun w _ => laidMetH Tryz.prog laid w) false (World.laidAll Tryz.prog os laid) #[.slice none 0 0, .agg #[.int .i64 0, .int .i64 0], .agg #[.int .i64 0, .int .i64 0]] 8 (World.laidAll_os _ _ _) (World.shaped_of_ZipB (by kernel_rfl) (by kernel_rfl)) (by kernel_rfl) (by kernel_rfl) (by kernel_rfl) (door_met os _)) ?_
 intro w tape i _ hsh _ hok hpre _
 obtain ⟨_, _, _, fn', hfn', _, _, _, _, hval0⟩:=hok
 have e : fn' = Tryz.f4:=Option.some.inj (hfn'.symm.trans Tryz.func4)
 subst e
 obtain ⟨⟨⟨ds, gs, before, hw, _⟩, hx⟩, _⟩:=hpre
 have hL : laidMetH Tryz.prog laid (w.forCall tape i):=hx.of_heap (by rfl)
 have hW:=DataW.Whole.of_heap (w':=w.forCall tape i) (by rfl) hw
 generalize hWd : w.forCall tape i = W at hW hsh hval0 hL
 generalize i.args = args at hW hval0
 have hval : ∀ (j : Nat) t v, Tryz.f4.params[j]? = some t → args[j]? = some v → Value.okWide Tryz.prog W .any w.heap.size t v:=hval0
 have hW':=hW
 obtain ⟨p, q, hA0, hV, rfl, hfz, hnd⟩:=hW
 have hA : DataW.TrodAll enc Tryz.prog W 0 (fun _ => true) true Tryz.f4.params.toList args.toList ds p:=hA0
 have hAk:=hA
 rw [Tryz.params4] at hA hval
 obtain ⟨v0, v1, v2, d0, d1, d2, p0, p1, p2, rfl, rfl, rfl, ⟨n0, g0⟩, ⟨n1, g1⟩, ⟨n2, g2⟩⟩:=trodAll_three hA
 obtain ⟨rfl, rfl⟩:=trodVars_none hV
 have a0 : v0.cells = #[v0]:=by
  have h:=hval 0 23 v0 rfl rfl
  unfold Value.okWide at h
  rw [Tryz.underlying23] at h
  simp only at h
  cases v0 <;> first | rfl | skip
  unfold Cell.okWide at h
  rw [Tryz.underlying23] at h
  simp only at h
  unfold Cell.ok at h
  rw [Tryz.underlying23] at h
  simp at h
 have a1 : ∃ cs, v1 = .agg cs:=by
  have h:=hval 1 49 v1 rfl rfl
  unfold Value.okWide at h
  rw [Tryz.underlying49] at h
  obtain ⟨cs, e, _⟩:=h
  exact ⟨cs, e⟩
 have a2 : ∃ cs, v2 = .agg cs:=by
  have h:=hval 2 50 v2 rfl rfl
  unfold Value.okWide at h
  rw [Tryz.underlying50] at h
  obtain ⟨cs, e, _⟩:=h
  exact ⟨cs, e⟩
 clear hA0 hval0
 refine (Go.MS.plains (enc:=enc) v0 v1 v2 ⟨n0, _, g0⟩ a0 ⟨n1, _, g1⟩ a1 ⟨n2, _, g2⟩ a2 (inv_of hL hsh)).mono fun e W' ⟨he, hg⟩ => ?_
 subst he
 have hlt:=hW'.lt
 exact ChangeSpec.post_blind (Go.Mid.post_of_old (pv := []) hW' (fun _ _ _ => (trodAll_cons_mk (shut_bool Tryz.underlying4 _) trodAll_mk0))
  (fun sp hsp => DataW.TrodAll.respare kids full (by rw [Tryz.params4]; decide) (carryAll hAk (fun p hp => same_of hg (hlt p (by simpa using hp)))) (fun p hp => hsp p (by simpa using hp))) (fun _ _ => rfl) (by simp)
  hg (ok_one (by kernel_rfl) rfl (okWide_bool_mk Tryz.underlying4 _)))
theorem over : Rows.MetaPlainSaid :=
 OpenClaim.holds_of_wide 4 Tryz.f4 rfl rfl rfl rfl rfl rfl rfl ⟨rfl, rfl, rfl, rfl, rfl⟩ rfl rfl rfl rfl rfl (by kernel_rfl) Tryz.func4 (by kernel_rfl)
  (of_decide_eq_true (by kernel_rfl)) (by unfold Func.isWrapper; first | (rw [if_pos (by decide +kernel)]; kernel_rfl) | (rw [if_neg (by decide +kernel)]; exact ⟨rfl, rfl⟩))
  (fun os started H enc _ => lifted os started H enc)
theorem proved : Rows.MetaPlainCardSaid :=
 Claim7.holds_tied_plain_at .later [] [.data, .data, .data] true (true, "5d99ce6fb08abeb5ee54328e1038c42db725021ba45cf460fb75aa2fbc8a3d9c") false
  over (fun _ h => by cases h) (by kernel_rfl) (fun _ h => by cases h) metaPlain_row_tie rfl ⟨rfl, rfl⟩ (by kernel_rfl) rfl
  (fun f fn hf hfn => by
    obtain rfl : f = 4:=Option.some.inj ((show Tryz.prog.funcNamed "twinstep/twinsteplaw16.MetaPlain" = some 4 by kernel_rfl).symm.trans hf) |>.symm
    obtain rfl : fn = Tryz.f4:=(Option.some.inj (Tryz.func4.symm.trans hfn)).symm
    exact ⟨by kernel_rfl, fun j t ht => by
     rw [Tryz.params4] at ht
     rcases j with _ | _ | _ | j
     ·obtain rfl : t = 23 := by simpa using ht.symm
      exact (show Tryz.prog.wantsStandIn 23 = false by kernel_rfl)
     ·obtain rfl : t = 49 := by simpa using ht.symm
      exact (show Tryz.prog.wantsStandIn 49 = false by kernel_rfl)
     ·obtain rfl : t = 50 := by simpa using ht.symm
      exact (show Tryz.prog.wantsStandIn 50 = false by kernel_rfl)
     ·simp at ht⟩)
  (by kernel_rfl)
end
end Go.Proofs.YteeahoagedfehaaGreatDoor.metaPlain
end
