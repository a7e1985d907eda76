/- A part of the proof. -/
import Derived.Test.YtdiiilfokajddaaGreatDoorVLXD
set_option linter.all false
set_option warn.classDefReducibility false
noncomputable section
section
open Go Go.Mid Go.Proofs
set_option maxRecDepth 100000
namespace Go.LX
section
variable {l F : List Asn} {h h0 : Hp} {ro : Bool} {Q : V → List Asn → Prop} {k : V → VH} {K : V → Hp → VH} {v lV : V} {i j n : Nat}
theorem isEnd_iff {b : Nat} : isEnd b = true ↔ b = 10 ∨ b = 13:=by unfold isEnd; rw [Bool.or_eq_true, beq_iff_eq, beq_iff_eq]
theorem Tri.endS {s : Bs} {R : V → Hp → VH} (hn : 0 < s.n) (hk : Tri h0 ro F Q (R (.bool (isEnd (s.byte 0))) h)) : Tri h0 ro F Q (intS .eql (.int .u8 (s.byte 0 : Nat)) (.int .u8 10) fun v2 =>
 guardS v2 false (idxStr (.str s) (.int .i64 0) fun v3 => intS .eql v3 (.int .u8 13) fun v4 => some (v4, h)) h fun v5 h6 => optS (pickV v2 (.bool true) v5) fun v7 => R v7 h6):=by
 unfold isEnd at hk
 refine Tri.eql (fun e => ?_) (fun e => ?_)
 ·rw [show s.byte 0 = 10 from Int.ofNat.inj e] at hk
  exact hk
 ·rw [show (s.byte 0 == 10) = false by simp; exact fun c => e (congrArg Int.ofNat c)] at hk
  refine Tri.eqv (bind_idxStr _ _) (Tri.idxStr (by decide) (by omega) (Tri.eqv (bind_intS _ _) (Tri.eql (fun e2 => ?_) (fun e2 => ?_))))
  ·rw [show s.byte 0 = 13 from Int.ofNat.inj e2] at hk
   exact hk
  ·rw [show (s.byte 0 == 13) = false by simp; exact fun c => e2 (congrArg Int.ofNat c)] at hk
   exact hk
theorem Tri.byteS {n : Int} {R : V → Hp → VH} (H : St l h) (L : Lo ro h0 h) (hk : ∀ z h', z.n = 1 → bts z = [(IntKind.u8.wrap n).toNat] → St l h' → Lo ro h0 h' → Tri h0 ro F Q (R (.str z) h')) :
 Tri h0 ro F Q (convI .u8 (.int .i64 n) fun v43 => bindS (bldSl h [(0, v43)] 5 1 1 (.int .u8 0)) fun v44 h45 => bindS (vh h45 (b2s h45 v44)) fun v46 h47 => R v46 h47):=by
 refine Tri.conv (Tri.bld (e:=_) (s:=_) H L rfl rfl fun b h hb H L => ?_)
 obtain ⟨c, h1, h2, h3⟩:=u8_wrap n
 rw [h3] at H
 have hc : ∀ x ∈ [c], x < 256:=fun x hx => by rw [List.mem_singleton.1 hx]; exact h2
 rw [St.vc_bytes (L:=[c]) (i:=0) H rfl hc]
 exact Tri.bs (hk _ h (by rw [pack_n]; rfl) (by rw [← h1]; exact bts_of hc) H.tl L)
theorem sp170 {s : Bs} (hs : s.n ≤ 70000) (H : St l h) : Tri h false l (rTI ((eso (bts s)).1, ((eso (bts s)).2 : Int))) (M 170 [.str s] h):=by
 generalize hX : eso (bts s) = X
 have ih35:=@none_ok
 have ih104:=@sp104
 have ih238:=@sp238
 refine t1 e170 fun L => ?_
 unfold B170
 refine Tri.strEqL ?_
 cases he : decide (bts s = bts ⟨0, 0⟩) with
 | true =>
  have h0 : bts s = []:=of_decide_eq_true he
  rw [h0] at hX
  subst hX
  refine Tri.ift ?_
  exact Tri.done (B:=[]) ⟨_, rfl, rfl, rfl, rfl⟩ H L
 | false =>
  have hn:=nz he
  have hb : bts s = s.byte 0 :: (bts s).drop 1:=by rw [← bts_drop hn]; rfl
  rw [hb] at hX
  unfold eso at hX
  dsimp only at hX
  rw [← hb] at hX
  refine Tri.iff ?_
  refine Tri.idxStr (by omega) (by omega) ?_
  rw [show Int.toNat 0 = 0 from rfl]
  refine Tri.endS hn ?_
  cases h1 : isEnd (s.byte 0) with
  | true =>
   rw [h1, if_pos rfl] at hX
   have one : ∀ {h0 h : Hp}, X = ([10], 1) → St l h → Lo false h0 h → Tri h0 false l (rTI (X.1, (X.2 : Int))) (some (.tuple [.str ⟨1, 10⟩, .int .i64 1], h)) := fun e H L => by
    subst e; exact Tri.done (B:=[]) ⟨_, rfl, rfl, rfl, rfl⟩ H L
   refine Tri.ift ?_
   refine Tri.eqv (bind_lenStr _ _) ?_
   refine Tri.lenStr ?_
   refine Tri.bs ?_
   refine Tri.gtr (fun e2 => ?_) (fun e2 => ?_)
   ·have hd : ((bts s).drop 1).head? = some (s.byte 1) := by rw [bts_drop (show 1 < s.n by omega)]; rfl
    rw [hd, Option.any_some] at hX
    refine Tri.eqv (guard_tt _ _ _) ?_
    refine Tri.bs ?_
    refine Tri.eqv (guard_tt _ _ _) ?_
    refine Tri.eqv (bind_idxStr _ _) ?_
    refine Tri.idxStr (by omega) (by omega) ?_
    refine Tri.bs ?_
    refine Tri.eqv (guard_tt _ _ _) ?_
    refine Tri.eqv (bind_intS _ _) ?_
    rw [show Int.toNat 1 = 1 from rfl]
    have two : isEnd (s.byte 1) = true → s.byte 1 ≠ s.byte 0 → X = ([10], 2) := fun a b => by
     rw [← hX, a, if_pos (by simpa using b)]
    have two' : isEnd (s.byte 1) = false ∨ s.byte 1 = s.byte 0 → X = ([10], 1) := fun a => by
     rw [← hX, if_neg (by rcases a with a | a <;> simp [a])]
    refine Tri.eql (fun e5 => ?_) (fun e5 => ?_)
    ·have e5' : isEnd (s.byte 1) = true := isEnd_iff.2 (.inl (Int.ofNat.inj e5))
     refine Tri.bs ?_
     refine Tri.eqv (guard_tt _ _ _) ?_
     refine Tri.bs ?_
     refine Tri.eqv (guard_tf _ _ _) ?_
     refine Tri.eqv (guard_tf _ _ _) ?_
     refine Tri.eqv (guard_tf _ _ _) ?_
     refine Tri.eqv (guard_tt _ _ _) ?_
     refine Tri.eqv (bind_optS _ _) ?_
     refine Tri.eqv (pick_t _ _ _) ?_
     refine Tri.bs ?_
     refine Tri.eqv (pick_t _ _ _) ?_
     refine Tri.eqv (guard_tt _ _ _) ?_
     refine Tri.bs ?_
     refine Tri.eqv (guard_tt _ _ _) ?_
     refine Tri.eqv (bind_idxStr _ _) ?_
     refine Tri.idxStr (by omega) (by omega) ?_
     refine Tri.bs ?_
     refine Tri.eqv (guard_tt _ _ _) ?_
     refine Tri.bs ?_
     refine Tri.eqv (guard_tt _ _ _) ?_
     refine Tri.eqv (bind_idxStr _ _) ?_
     refine Tri.idxStr (by omega) (by omega) ?_
     refine Tri.bs ?_
     refine Tri.eqv (guard_tt _ _ _) ?_
     refine Tri.eqv (bind_intS _ _) ?_
     rw [show Int.toNat 1 = 1 from rfl, show Int.toNat 0 = 0 from rfl]
     refine Tri.neq (fun e6 => ?_) (fun e6 => ?_)
     ·refine Tri.bs ?_
      refine Tri.eqv (pick_t _ _ _) ?_
      refine Tri.ift ?_
      obtain rfl:=two e5' (fun c => e6 (congrArg Int.ofNat c))
      exact Tri.done (B:=[]) ⟨_, rfl, rfl, rfl, rfl⟩ H L
     ·refine Tri.bs ?_
      refine Tri.eqv (pick_t _ _ _) ?_
      refine Tri.iff ?_
      exact one (two' (.inr (Int.ofNat.inj e6))) H L
    ·refine Tri.bs ?_
     refine Tri.eqv (guard_tt _ _ _) ?_
     refine Tri.bs ?_
     refine Tri.eqv (guard_ff _ _ _) ?_
     refine Tri.bs ?_
     refine Tri.eqv (guard_ff _ _ _) ?_
     refine Tri.eqv (bind_idxStr _ _) ?_
     refine Tri.idxStr (by omega) (by omega) ?_
     refine Tri.bs ?_
     refine Tri.eqv (guard_ff _ _ _) ?_
     refine Tri.eqv (bind_intS _ _) ?_
     rw [show Int.toNat 1 = 1 from rfl]
     refine Tri.eql (fun e6 => ?_) (fun e6 => ?_)
     ·have e6' : isEnd (s.byte 1) = true := isEnd_iff.2 (.inr (Int.ofNat.inj e6))
      refine Tri.bs ?_
      refine Tri.eqv (guard_tt _ _ _) ?_
      refine Tri.eqv (bind_optS _ _) ?_
      refine Tri.eqv (pick_f _ _ _) ?_
      refine Tri.bs ?_
      refine Tri.eqv (pick_t _ _ _) ?_
      refine Tri.eqv (guard_tt _ _ _) ?_
      refine Tri.bs ?_
      refine Tri.eqv (guard_tt _ _ _) ?_
      refine Tri.eqv (bind_idxStr _ _) ?_
      refine Tri.idxStr (by omega) (by omega) ?_
      refine Tri.bs ?_
      refine Tri.eqv (guard_tt _ _ _) ?_
      refine Tri.bs ?_
      refine Tri.eqv (guard_tt _ _ _) ?_
      refine Tri.eqv (bind_idxStr _ _) ?_
      refine Tri.idxStr (by omega) (by omega) ?_
      refine Tri.bs ?_
      refine Tri.eqv (guard_tt _ _ _) ?_
      refine Tri.eqv (bind_intS _ _) ?_
      rw [show Int.toNat 1 = 1 from rfl, show Int.toNat 0 = 0 from rfl]
      refine Tri.neq (fun e7 => ?_) (fun e7 => ?_)
      ·refine Tri.bs ?_
       refine Tri.eqv (pick_t _ _ _) ?_
       refine Tri.ift ?_
       obtain rfl:=two e6' (fun c => e7 (congrArg Int.ofNat c))
       exact Tri.done (B:=[]) ⟨_, rfl, rfl, rfl, rfl⟩ H L
      ·refine Tri.bs ?_
       refine Tri.eqv (pick_t _ _ _) ?_
       refine Tri.iff ?_
       exact one (two' (.inr (Int.ofNat.inj e7))) H L
     ·refine Tri.bs ?_
      refine Tri.eqv (guard_tt _ _ _) ?_
      refine Tri.eqv (bind_optS _ _) ?_
      refine Tri.eqv (pick_f _ _ _) ?_
      refine Tri.bs ?_
      refine Tri.eqv (pick_t _ _ _) ?_
      refine Tri.eqv (guard_ft _ _ _) ?_
      refine Tri.eqv (guard_ft _ _ _) ?_
      refine Tri.eqv (guard_ft _ _ _) ?_
      refine Tri.eqv (guard_ft _ _ _) ?_
      refine Tri.eqv (guard_ft _ _ _) ?_
      refine Tri.eqv (pick_f _ _ _) ?_
      refine Tri.iff ?_
      refine one (two' (.inl ?_)) H L
      rw [Bool.eq_false_iff]
      exact fun c => (isEnd_iff.1 c).elim (fun c => e5 (congrArg Int.ofNat c)) (fun c => e6 (congrArg Int.ofNat c))
   ·rw [bts_end (show s.n ≤ 1 by omega)] at hX
    refine Tri.eqv (guard_ft _ _ _) ?_
    refine Tri.eqv (guard_ft _ _ _) ?_
    refine Tri.eqv (guard_ft _ _ _) ?_
    refine Tri.eqv (guard_ft _ _ _) ?_
    refine Tri.eqv (guard_u _ _ _ _) ?_
    refine Tri.eqv (guard_u _ _ _ _) ?_
    refine Tri.eqv (guard_u _ _ _ _) ?_
    refine Tri.eqv (guard_ft _ _ _) ?_
    refine Tri.eqv (pick_f _ _ _) ?_
    refine Tri.eqv (guard_ft _ _ _) ?_
    refine Tri.eqv (guard_ft _ _ _) ?_
    refine Tri.eqv (guard_ft _ _ _) ?_
    refine Tri.eqv (guard_ft _ _ _) ?_
    refine Tri.eqv (guard_ft _ _ _) ?_
    refine Tri.eqv (pick_f _ _ _) ?_
    refine Tri.iff ?_
    exact one (by rw [← hX]; rfl) H L
  | false =>
   rw [h1, if_neg (by decide)] at hX
   refine Tri.iff ?_
   refine Tri.idxStr (by omega) (by omega) ?_
   rw [show Int.toNat 0 = 0 from rfl]
   refine Tri.eql (fun e2 => ?_) (fun e2 => ?_)
   ·rw [if_pos (Int.ofNat.inj e2)] at hX
    refine Tri.ift ?_
    refine Tri.cutLo (by omega) (by omega) fun z121 nz121 ez121 => ?_
    refine Tri.bind (sp236 (by first | rfl | assumption | omega | (dsimp only; omega)) (by first | rfl | assumption | omega | (dsimp only; omega)) (by first | rfl | assumption | omega | (dsimp only; omega)) H) L (fun _ => rfl) fun v h B hq122 H L => ?_
    obtain ⟨rfl, rfl⟩:=hq122
    refine Tri.ext rfl ?_
    refine Tri.ext rfl ?_
    have ez : bts z121 = (bts s).drop 1:=ez121
    rw [ez]
    refine Tri.eql (fun e3 => ?_) (fun e3 => ?_)
    ·have e3' : (dgt 2 16 ((bts s).drop 1) 0 0).2 = 2 := Int.ofNat.inj e3
     rw [if_pos e3'] at hX
     subst hX
     refine Tri.ift (Tri.byteS H L fun z h hz e H L => ?_)
     exact Tri.done (B:=[]) ⟨z, hz, e, rfl, rfl⟩ H L
    ·have e3' : ¬ (dgt 2 16 ((bts s).drop 1) 0 0).2 = 2 := fun c => e3 (congrArg Int.ofNat c)
     rw [if_neg e3'] at hX
     subst hX
     refine Tri.iff ?_
     refine Tri.tail (ih35 H) L (fun e => e) fun v h B hq H L => ⟨B, hq, H⟩
   ·rw [if_neg (show ¬ s.byte 0 = 120 from fun c => e2 (congrArg Int.ofNat c))] at hX
    refine Tri.iff ?_
    refine Tri.idxStr (by omega) (by omega) ?_
    rw [show Int.toNat 0 = 0 from rfl]
    refine Tri.eql (fun e3 => ?_) (fun e3 => ?_)
    ·rw [if_pos (Int.ofNat.inj e3)] at hX
     refine Tri.ift ?_
     subst hX
     exact Tri.tail (zee_ok hs s.n 1 h l (by omega) (by omega) H) L (fun e => e) fun v h B hq H L => ⟨B, hq, H⟩
    ·rw [if_neg (show ¬ s.byte 0 = 122 from fun c => e3 (congrArg Int.ofNat c))] at hX
     refine Tri.iff ?_
     refine Tri.idxStr (by omega) (by omega) ?_
     rw [show Int.toNat 0 = 0 from rfl]
     refine Tri.eql (fun e4 => ?_) (fun e4 => ?_)
     ·rw [if_pos (show s.byte 0 = 117 from Int.ofNat.inj e4)] at hX
      refine Tri.ift ?_
      refine Tri.bind (ih104 (by first | rfl | assumption | omega | (dsimp only; omega)) (by first | rfl | assumption | omega | (dsimp only; omega)) H) L (fun _ => rfl) fun v h B hq201 H L => ?_
      obtain ⟨rfl, rfl⟩:=hq201
      refine Tri.not ?_
      rw [show bts ⟨2, 31605⟩ = [117, 123] from rfl]
      cases h2 : [117, 123].isPrefixOf (bts s) with
      | false =>
       rw [if_neg (fun c => by rw [h2] at c; exact nomatch c.1)] at hX
       subst hX
       refine Tri.ift ?_
       refine Tri.tail (ih35 H) L (fun e => e) fun v h B hq H L => ⟨B, hq, H⟩
      | true =>
       have hn2 : 2 ≤ s.n:=by rw [pfx_take, decide_eq_true_iff, bts_len] at h2; exact h2.1
       refine Tri.iff ?_
       refine Tri.cutLo (by omega) (by omega) fun z211 nz211 ez211 => ?_
       refine Tri.eqv (bind_lenStr _ _) ?_
       refine Tri.lenStr ?_
       refine Tri.bs ?_
       refine Tri.bind (sp236 (by first | rfl | assumption | omega | (dsimp only; omega)) (by first | rfl | assumption | omega | (dsimp only; omega)) (by first | rfl | assumption | omega | (dsimp only; omega)) H) L (fun _ => rfl) fun v h B hq215 H L => ?_
       obtain ⟨rfl, rfl⟩:=hq215
       refine Tri.ext rfl ?_
       refine Tri.ext rfl ?_
       refine Tri.bind (ih238 H) L (fun e => e) fun v h B hq218 H L => ?_
       obtain ⟨z218, nz218, ez218, rfl, rfl⟩:=hq218
       refine Tri.ext rfl ?_
       refine Tri.ext rfl ?_
       have ez : bts z211 = (bts s).drop 2:=ez211
       rw [ez] at nz218 ez218 ⊢
       rw [bts_len] at hX
       simp only [List.drop_drop] at hX
       rw [show 1 + 1 = 2 from rfl] at hX
       obtain ⟨D, hD⟩ : ∃ D, dgt s.n 16 ((bts s).drop 2) 0 0 = D:=⟨_, rfl⟩
       have hD2:=dgt_le s.n 16 ((bts s).drop 2) 0 0
       rw [hD] at hX nz218 ez218 hD2 ⊢
       rw [List.length_drop, bts_len] at hD2
       obtain ⟨D1, D2⟩:=D
       dsimp only at hX nz218 ez218 hD2 ⊢
       refine Tri.gtr (fun e5 => ?_) (fun e5 => ?_)
       ·refine Tri.eqv (guard_tt _ _ _) ?_
        refine Tri.eqv (bind_intS _ _) ?_
        refine Tri.eql (fun e6 => ?_) (fun e6 => ?_)
        ·refine Tri.bs ?_
         refine Tri.eqv (pick_t _ _ _) ?_
         refine Tri.eqv (guard_tt _ _ _) ?_
         refine Tri.eqv (bind_intS _ _) ?_
         refine Tri.addN (by omega) (by omega) ?_
         refine Tri.eqv (bind_slStrK _ _ _ _ _) ?_
         refine Tri.cutLo (by omega) (by omega) fun z236 nz236 ez236 => ?_
         refine Tri.eqv (bind_bind _ _ _) ?_
         refine Tri.bind (ih104 (by first | rfl | assumption | omega | (dsimp only; omega)) (by first | rfl | assumption | omega | (dsimp only; omega)) H) L (fun _ => rfl) fun v h B hq238 H L => ?_
         obtain ⟨rfl, rfl⟩:=hq238
         refine Tri.bs ?_
         refine Tri.eqv (pick_t _ _ _) ?_
         have e236 : bts z236 = (bts s).drop (1 + (1 + D2)):=by rw [ez236, show ((2 : Int) + (D2 : Int)).toNat = 1 + (1 + D2) by omega]
         rw [e236, show bts ⟨1, 125⟩ = [125] from rfl]
         cases h3 : [125].isPrefixOf ((bts s).drop (1 + (1 + D2))) with
         | true =>
          rw [if_pos ⟨h2, by omega, e6, h3⟩] at hX
          subst hX
          refine Tri.ift ?_
          refine Tri.addN (by omega) (by omega) ?_
          exact Tri.done (B:=[]) ⟨z218, nz218, ez218, rfl, rfl⟩ H L
         | false =>
          rw [if_neg (fun c => by rw [h3] at c; exact nomatch c.2.2.2)] at hX
          subst hX
          refine Tri.iff ?_
          refine Tri.tail (ih35 H) L (fun e => e) fun v h B hq H L => ⟨B, hq, H⟩
        ·rw [if_neg (fun c => e6 c.2.2.1)] at hX
         subst hX
         refine Tri.bs ?_
         refine Tri.eqv (pick_t _ _ _) ?_
         refine Tri.eqv (guard_ft _ _ _) ?_
         refine Tri.eqv (pick_f _ _ _) ?_
         refine Tri.iff ?_
         refine Tri.tail (ih35 H) L (fun e => e) fun v h B hq H L => ⟨B, hq, H⟩
       ·rw [if_neg (fun c => by have := c.2.1; omega)] at hX
        subst hX
        refine Tri.eqv (guard_ft _ _ _) ?_
        refine Tri.eqv (pick_f _ _ _) ?_
        refine Tri.eqv (guard_ft _ _ _) ?_
        refine Tri.eqv (pick_f _ _ _) ?_
        refine Tri.iff ?_
        refine Tri.tail (ih35 H) L (fun e => e) fun v h B hq H L => ⟨B, hq, H⟩
     ·rw [if_neg (show ¬ s.byte 0 = 117 from fun c => e4 (congrArg Int.ofNat c))] at hX
      refine Tri.iff ?_
      refine Tri.idxStr (by omega) (by omega) ?_
      refine Tri.bind (sp90 H) L (fun _ => rfl) fun v h B hq242 H L => ?_
      obtain ⟨rfl, rfl⟩:=hq242
      rw [show Int.toNat 0 = 0 from rfl]
      cases h2 : isDg (s.byte 0) with
      | true =>
       rw [h2, if_pos rfl] at hX
       refine Tri.ift ?_
       refine Tri.bind (sp236 (by first | rfl | assumption | omega | (dsimp only; omega)) (by first | rfl | assumption | omega | (dsimp only; omega)) (by first | rfl | assumption | omega | (dsimp only; omega)) H) L (fun _ => rfl) fun v h B hq251 H L => ?_
       obtain ⟨rfl, rfl⟩:=hq251
       refine Tri.ext rfl ?_
       refine Tri.ext rfl ?_
       refine Tri.leq (fun e5 => ?_) (fun e5 => ?_)
       ·have e5' : (dgt 3 10 (bts s) 0 0).1 ≤ 255 := Int.ofNat_le.1 e5
        rw [if_pos e5'] at hX
        subst hX
        refine Tri.ift (Tri.byteS H L fun z h hz e H L => ?_)
        exact Tri.done (B:=[]) ⟨z, hz, e, rfl, rfl⟩ H L
       ·have e5' : ¬ (dgt 3 10 (bts s) 0 0).1 ≤ 255 := fun c => absurd e5 (Int.not_lt.2 (Int.ofNat_le.2 c))
        rw [if_neg e5'] at hX
        subst hX
        refine Tri.iff ?_
        refine Tri.tail (ih35 H) L (fun e => e) fun v h B hq H L => ⟨B, hq, H⟩
      | false =>
       rw [h2, if_neg (by decide)] at hX
       refine Tri.iff ?_
       exact Tri.tail (plk_ok hn 10 0 h l rfl H X hX.symm) L (fun e => e) fun v h B hq H L => ⟨B, hq, H⟩
def unl : Nat → Nat → List Nat → List Nat → Option (List Nat)
 | 0, _, _, _ => none
 | _ + 1, _, [], _ => none
 | f + 1, q, b :: r, acc => if b = q then (if r = [] then some acc else none) else if isEnd b then none
  else if b = 92 then (if (eso r).2 = 0 then none else unl f q (r.drop (eso r).2) (acc ++ (eso r).1)) else unl f q r (acc ++ [b])
def resU : Option (List Nat) → List Nat × Int
 | some Y => (Y, 0)
 | none => ([], 30)
def unq (L : List Nat) : Option (List Nat):=if L.length < 2 ∨ (L.headD 0 ≠ 34 ∧ L.headD 0 ≠ 39) then none else unl L.length (L.headD 0) (L.drop 1) []
theorem unq_len {L : List Nat} (h : (resU (unq L)).2 = 0) : 2 ≤ L.length:=by
 unfold unq at h
 split at h
 ·cases h
 ·omega
theorem lt_app {A B : List Nat} (h1 : ∀ b ∈ A, b < 256) (h2 : ∀ b ∈ B, b < 256) : ∀ b ∈ A ++ B, b < 256:=fun b hb => (List.mem_append.1 hb).elim (h1 b) (h2 b)
theorem Tri.endI {b : Nat} {R : V → Hp → VH} (hk : Tri h0 ro F Q (R (.bool (isEnd b)) h)) : Tri h0 ro F Q (intS .eql (.int .u8 (b : Int)) (.int .u8 10) fun v2 =>
 guardS v2 false (intS .eql (.int .u8 (b : Int)) (.int .u8 13) fun v4 => some (v4, h)) h fun v5 h6 => optS (pickV v2 (.bool true) v5) fun v7 => R v7 h6):=by
 unfold isEnd at hk
 refine Tri.eql (fun e => ?_) (fun e => ?_)
 ·rw [show b = 10 from Int.ofNat.inj e] at hk
  exact hk
 ·rw [show (b == 10) = false by simp; exact fun c => e (congrArg Int.ofNat c)] at hk
  change Tri h0 ro F Q (bindS (intS .eql (.int .u8 (b : Int)) (.int .u8 13) fun v4 => some (v4, h)) fun v5 h6 => optS (pickV (.bool false) (.bool true) v5) fun v7 => R v7 h6)
  refine Tri.eqv (bind_intS _ _) (Tri.eql (fun e2 => ?_) (fun e2 => ?_))
  ·rw [show b = 13 from Int.ofNat.inj e2] at hk
   exact hk
  ·rw [show (b == 13) = false by simp; exact fun c => e2 (congrArg Int.ofNat c)] at hk
   exact hk
theorem unl_ok {s : Bs} {bb : Nat} (hs : s.n ≤ 70000) : ∀ (f i : Nat) (Y : List Nat) (h : Hp) (l : List Asn), s.n - i < f → 1 ≤ i → i ≤ s.n → Y.length ≤ 6 * i → (∀ b ∈ Y, b < 256) → St (BD bb Y :: l) h →
 ∀ X, unl f (s.byte 0) ((bts s).drop i) Y = X → Tri h false l (rTI (resU X)) (M 27 [.str s, .ptr bb 0, .int .i64 (i : Int)] h):=by
 have ih25 : ∀ (i : Nat) (Y : List Nat) (h : Hp) (l : List Asn), 1 ≤ i → i ≤ s.n → Y.length ≤ 6 * i → (∀ b ∈ Y, b < 256) → St (BD bb Y :: l) h →
  ∀ X, (if i + 1 = s.n then some Y else none) = X → Tri h false l (rTI (resU X)) (M 25 [.str s, .ptr bb 0, .int .i64 (i : Int)] h):=by
  intro i Y h l h1 hi hY hb H X hX
  refine t3 e25 fun L => ?_
  unfold B25
  refine Tri.eqv (bind_lenStr _ _) ?_
  refine Tri.lenStr ?_
  refine Tri.bs ?_
  refine Tri.subN (by omega) (by omega) ?_
  refine Tri.neq (fun e => ?_) (fun e => ?_)
  ·rw [if_neg (by omega)] at hX
   subst hX
   refine Tri.ift ?_
   exact Tri.done (B:=[]) ⟨_, rfl, rfl, rfl, rfl⟩ H.tl L
  ·rw [if_pos (by omega)] at hX
   subst hX
   refine Tri.iff ?_
   refine Tri.bind (sp146 (by first | rfl | assumption | omega | (dsimp only; omega)) (by first | rfl | assumption | omega | (dsimp only; omega)) H) L (fun e => e) fun v h B hq41 H L => ?_
   obtain ⟨z41, nz41, ez41, rfl, rfl⟩:=hq41
   exact Tri.done (B:=[]) ⟨z41, nz41, ez41, rfl, rfl⟩ H L
 intro f
 induction f with
 | zero => intro i Y h l hf; omega
 | succ f ih =>
  intro i Y h l hf h1 hi hY hb H X hX
  refine t3 e27 fun L => ?_
  unfold B27
  refine Tri.eqv (bind_lenStr _ _) ?_
  refine Tri.lenStr ?_
  refine Tri.bs ?_
  refine Tri.lss (fun e => ?_) (fun e => ?_)
  ·have hlt : i < s.n := by omega
   rw [bts_drop hlt, unl] at hX
   refine Tri.ift ?_
   refine Tri.idxStr (by omega) (by omega) ?_
   refine Tri.idxStr (by omega) (by omega) ?_
   rw [show ((i : Int)).toNat = i from rfl, show Int.toNat 0 = 0 from rfl]
   refine Tri.eql (fun e1 => ?_) (fun e1 => ?_)
   ·rw [if_pos (Int.ofNat.inj e1)] at hX
    refine Tri.ift ?_
    refine Tri.tail (ih25 i Y h l h1 hi hY hb H X ?_) L (fun e => e) fun v h B hq H L => ⟨B, hq, H⟩
    rw [← hX]
    by_cases c : i + 1 = s.n
    ·rw [if_pos c, if_pos (bts_end (by omega))]
    ·rw [if_neg c, if_neg (by rw [bts_drop (show i + 1 < s.n by omega)]; exact List.cons_ne_nil _ _)]
   ·rw [if_neg (show ¬ s.byte i = s.byte 0 from fun c => e1 (congrArg Int.ofNat c))] at hX
    refine Tri.iff ?_
    refine Tri.endI ?_
    cases h2 : isEnd (s.byte i) with
    | true =>
     rw [h2, if_pos rfl] at hX
     subst hX
     refine Tri.ift ?_
     exact Tri.done (B:=[]) ⟨_, rfl, rfl, rfl, rfl⟩ H.tl L
    | false =>
     rw [h2, if_neg (by decide)] at hX
     refine Tri.iff ?_
     refine Tri.eql (fun e2 => ?_) (fun e2 => ?_)
     ·rw [if_pos (show s.byte i = 92 from Int.ofNat.inj e2)] at hX
      refine Tri.ift ?_
      refine Tri.addN (by omega) (by omega) ?_
      refine Tri.cutLo (by omega) (by omega) fun z122 nz122 ez122 => ?_
      refine Tri.bind (sp170 (by first | rfl | assumption | omega | (dsimp only; omega)) H) L (fun e => e) fun v h B hq123 H L => ?_
      obtain ⟨z123, nz123, ez123, rfl, rfl⟩:=hq123
      refine Tri.ext rfl ?_
      refine Tri.ext rfl ?_
      have e122 : bts z122 = (bts s).drop (i + 1):=by rw [ez122]; rfl
      have hE:=eso_ok ((bts s).drop (i + 1))
      rw [e122] at nz123 ez123 ⊢
      rw [List.length_drop, bts_len] at hE
      generalize eso ((bts s).drop (i + 1)) = E at hE hX nz123 ez123 ⊢
      obtain ⟨E1, E2⟩:=E
      dsimp only at hE hX nz123 ez123 ⊢
      obtain ⟨hE1, hE2, hE3⟩:=hE
      refine Tri.eql (fun e3 => ?_) (fun e3 => ?_)
      ·rw [if_pos (show E2 = 0 from Int.ofNat.inj e3)] at hX
       subst hX
       refine Tri.ift ?_
       exact Tri.done (B:=[]) ⟨_, rfl, rfl, rfl, rfl⟩ H.tl L
      ·rw [if_neg (show ¬ E2 = 0 from fun c => e3 (congrArg Int.ofNat c)), List.drop_drop] at hX
       refine Tri.iff ?_
       refine Tri.bind (sp144 (by omega) (by omega) H) L (fun e => e) fun v h B hq H L => ?_
       obtain ⟨rfl, rfl⟩:=hq
       rw [ez123] at H
       refine Tri.addN (by omega) (by omega) ?_
       refine Tri.addN (by omega) (by omega) ?_
       rw [show (i : Int) + ((E2 : Int) + 1) = ((i + 1 + E2 : Nat) : Int) by omega]
       exact Tri.tail (ih (i + 1 + E2) (Y ++ E1) h l (by omega) (by omega) (by omega) (by rw [List.length_append]; omega) (lt_app hb hE3) H X hX) L (fun e => e) fun v h B hq H L => ⟨B, hq, H⟩
     ·rw [if_neg (show ¬ s.byte i = 92 from fun c => e2 (congrArg Int.ofNat c))] at hX
      refine Tri.iff ?_
      refine Tri.bind (sp142 (by first | rfl | assumption | omega | (dsimp only; omega)) H) L (fun e => e) fun v h B hq141 H L => ?_
      obtain ⟨rfl, rfl⟩:=hq141
      refine Tri.addN (by omega) (by omega) ?_
      exact Tri.tail (ih (i + 1) (Y ++ [s.byte i]) h l (by omega) (by omega) (by omega) (by rw [List.length_append, List.length_singleton]; omega) (lt_app hb (fun b hb => by rw [List.mem_singleton.1 hb]; exact bts_lt _ _)) H X hX) L (fun e => e) fun v h B hq H L => ⟨B, hq, H⟩
  ·rw [bts_end (by omega), unl] at hX
   refine Tri.iff ?_
   refine Tri.tail (ih25 i Y h l h1 hi hY hb H X ?_) L (fun e => e) fun v h B hq H L => ⟨B, hq, H⟩
   rw [← hX, if_neg (by omega)]
theorem sp102 {s : Bs} (hs : s.n ≤ 70000) (H : St l h) : Tri h false l (rTI (resU (unq (bts s)))) (M 102 [.str s] h):=by
 refine t1 e102 fun L => ?_
 unfold B102
 generalize hX : unq (bts s) = X
 unfold unq at hX
 rw [bts_len] at hX
 refine Tri.eqv (bind_lenStr _ _) ?_
 refine Tri.lenStr ?_
 refine Tri.bs ?_
 refine Tri.lss (fun e => ?_) (fun e => ?_)
 ·rw [if_pos (.inl (by omega))] at hX
  subst hX
  refine Tri.eqv (guard_tf _ _ _) ?_
  refine Tri.eqv (guard_u _ _ _ _) ?_
  refine Tri.eqv (guard_tf _ _ _) ?_
  refine Tri.eqv (pick_t _ _ _) ?_
  refine Tri.ift ?_
  exact Tri.done (B:=[]) ⟨_, rfl, rfl, rfl, rfl⟩ H L
 ·have hh : (bts s).headD 0 = s.byte 0 := by rw [← List.drop_zero (l := bts s), bts_drop (by omega)]; rfl
  rw [hh] at hX
  have go : ∀ {h h0 : Hp}, s.byte 0 = 34 ∨ s.byte 0 = 39 → St l h → Lo false h0 h → Tri h0 false l (rTI (resU X)) (newS 91 [.nilPtr, .nilSlice] h fun v15 h16 => M 27 [.str s, v15, .int .i64 1] h16):=by
   intro h h0 hq H L
   rw [if_neg (fun c => by omega)] at hX
   refine newB H L fun b h hb H L => ?_
   exact Tri.tail (unl_ok hs s.n 1 [] h l (by omega) (by omega) (by omega) (by simp) (fun b hb => nomatch hb) H X hX) L (fun e => e) fun v h B hq H L => ⟨B, hq, H⟩
  refine Tri.eqv (guard_ff _ _ _) ?_
  refine Tri.eqv (bind_idxStr _ _) ?_
  refine Tri.idxStr (by omega) (by omega) ?_
  refine Tri.eqv (bind_intS _ _) ?_
  rw [show Int.toNat 0 = 0 from rfl]
  refine Tri.neq (fun e1 => ?_) (fun e1 => ?_)
  ·refine Tri.bs ?_
   refine Tri.eqv (guard_tt _ _ _) ?_
   refine Tri.eqv (bind_idxStr _ _) ?_
   refine Tri.idxStr (by omega) (by omega) ?_
   refine Tri.eqv (bind_intS _ _) ?_
   rw [show Int.toNat 0 = 0 from rfl]
   refine Tri.neq (fun e2 => ?_) (fun e2 => ?_)
   ·rw [if_pos (.inr ⟨fun c => e1 (congrArg Int.ofNat c), fun c => e2 (congrArg Int.ofNat c)⟩)] at hX
    subst hX
    refine Tri.bs ?_
    refine Tri.eqv (guard_ff _ _ _) ?_
    refine Tri.eqv (bind_optS _ _) ?_
    refine Tri.eqv (pick_t _ _ _) ?_
    refine Tri.bs ?_
    refine Tri.eqv (pick_f _ _ _) ?_
    refine Tri.ift ?_
    exact Tri.done (B:=[]) ⟨_, rfl, rfl, rfl, rfl⟩ H L
   ·refine Tri.eqv rfl (go (.inr (Int.ofNat.inj e2)) H L)
  ·refine Tri.eqv rfl (go (.inl (Int.ofNat.inj e1)) H L)
end
end Go.LX
end
