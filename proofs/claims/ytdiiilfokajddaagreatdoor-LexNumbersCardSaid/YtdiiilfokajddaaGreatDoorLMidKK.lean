/- Known answers that bring a block of which nothing more is told. -/
import Derived.Test.YtdiiilfokajddaaGreatDoorLMidJJ
set_option linter.all false
namespace Go.Mid
open Go.RowKit
variable {P : Program}

/-- other answers ahead of what is known already. -/
@[reducible] def overOrc (O : Orc) (kn : FuncId → List V → Hp → Option (V × Hp)) : Orc := { O with fn := fun f vs h => match kn f vs h with
  | some p => some p
  | none => O.fn f vs h }
theorem R.over {O : Orc} {kn : FuncId → List V → Hp → Option (V × Hp)} {Z : Res} {w0 w : World} {h : Hp} {ρ : Rho} : @R O Z P w0 w h ρ ↔ @R (overOrc O kn) Z P w0 w h ρ :=
  ⟨fun H => @R.mk (overOrc O kn) Z P w0 w h ρ (@R.below O Z P w0 w h ρ H) (@R.bnd O Z P w0 w h ρ H) (@R.live O Z P w0 w h ρ H) (@R.inj O Z P w0 w h ρ H) (@R.fresh O Z P w0 w h ρ H) (@R.glob O Z P w0 w h ρ H) (@R.base O Z P w0 w h ρ H) (@R.rs O Z P w0 w h ρ H),
   fun H => @R.mk O Z P w0 w h ρ (@R.below (overOrc O kn) Z P w0 w h ρ H) (@R.bnd (overOrc O kn) Z P w0 w h ρ H) (@R.live (overOrc O kn) Z P w0 w h ρ H) (@R.inj (overOrc O kn) Z P w0 w h ρ H) (@R.fresh (overOrc O kn) Z P w0 w h ρ H) (@R.glob (overOrc O kn) Z P w0 w h ρ H) (@R.base (overOrc O kn) Z P w0 w h ρ H) (@R.rs (overOrc O kn) Z P w0 w h ρ H)⟩
theorem over_ok (O : Orc) [OrcOk P] {kn : FuncId → List V → Hp → Option (V × Hp)} (fr : ∀ f vs h v h', kn f vs h = some (v, h') → Fr h h')
    (sound : ∀ f vs h v h', kn f vs h = some (v, h') → ∀ (Z : Res) w0 w ρ xs, R P w0 w h ρ → RelL ρ vs xs → CallR P f ⟨xs⟩ w fun e w' => ∃ x ρ', e = .returned x ∧ Rel ρ' v x ∧ Ext ρ ρ' ∧ R P w0 w' h' ρ') : @OrcOk P (overOrc O kn) :=
  letI : Orc := overOrc O kn
  { pure := @OpOk.pure P O _
    reads := @OpOk.reads P O _
    make := fun o as h v h' e hn => by
      obtain ⟨h1, h2⟩ := @OpOk.make P O _ o as h v h' e hn
      refine ⟨h1, fun Z w0 w ρ a oo ho H ha => ?_⟩
      obtain ⟨x, w', ρ', k1, k2, k3, k4⟩ := h2 Z w0 w ρ a oo ho (R.over.2 H) ha
      exact ⟨x, w', ρ', k1, k2, k3, R.over.1 k4⟩
    fr := fun f vs h v h' e => by
      change (match kn f vs h with | some p => some p | none => O.fn f vs h) = some (v, h') at e
      cases hk : kn f vs h with
      | some p =>
        rw [hk] at e
        simp only [Option.some.injEq] at e; subst e
        exact fr _ _ _ _ _ hk
      | none =>
        rw [hk] at e
        exact @OrcFr.fr P O _ f vs h v h' e
    sound := fun f vs h v h' e Z w0 w ρ xs H ha => by
      change (match kn f vs h with | some p => some p | none => O.fn f vs h) = some (v, h') at e
      cases hk : kn f vs h with
      | some p =>
        rw [hk] at e
        simp only [Option.some.injEq] at e; subst e
        refine (sound _ _ _ _ _ hk Z w0 w ρ xs (R.over.2 H) ha).mono ?_
        rintro e w' ⟨x, ρ', rfl, hx, hE, HR⟩
        exact ⟨x, ρ', rfl, hx, hE, R.over.1 HR⟩
      | none =>
        rw [hk] at e
        refine (@OrcOk.sound P O _ f vs h v h' e Z w0 w ρ xs (R.over.2 H) ha).mono ?_
        rintro e w' ⟨x, ρ', rfl, hx, hE, HR⟩
        exact ⟨x, ρ', rfl, hx, hE, R.over.1 HR⟩ }
/-- a block more of which nothing is told. -/
theorem newDead_R [Orc] [Res] {w0 w w' : World} {h : Hp} {ρ : Rho} (H : R P w0 w h ρ) (hB : Below w.heap.size w w') {lc : Lc} (h0 : lc.base = 0) (h1 : w.heap.size ≤ lc.blk) (h2 : lc.blk < w'.heap.size) :
    Ext ρ (upd ρ h.n lc) ∧ R P w0 w' (h.new .dead) (upd ρ h.n lc) := by
  have H' := H.later (h2 := h) (ρ2 := ρ) hB
  have hnone : ρ h.n = none := by
    cases hr : ρ h.n with
    | none => rfl
    | some l => have := (H.bnd _ _ hr).1; omega
  have hext : Ext ρ (upd ρ h.n lc) := upd_ext hnone
  have old : ∀ x : Nat, (h.new .dead).alive x → x ≠ h.n ∧ h.alive x := by
    rintro x ⟨y, h1, h2⟩
    simp only [Hp.new] at h1
    by_cases hx : x = h.n
    · subst hx
      rw [Tr.get_set_same] at h1
      simp only [Option.some.injEq] at h1
      exact (h2 h1.symm).elim
    · rw [Tr.get_set_ne _ _ (Ne.symm hx)] at h1
      exact ⟨hx, y, h1, h2⟩
  refine ⟨hext, H'.below, ?_, ?_, ?_, fun b hb => by
    simp only [Hp.new] at hb ⊢; rw [Tr.get_set_ne _ _ (by omega)]; exact H.fresh b (by omega), H.glob.ext hext, H.base, fun b hb => ⟨by unfold Mid.upd; rw [if_neg (Nat.ne_of_lt (H.rs b hb).2)]; exact (H.rs b hb).1, Nat.lt_succ_of_lt (H.rs b hb).2⟩⟩
  · intro b l hb
    rcases upd_inv hb with ⟨rfl, rfl⟩ | ⟨hne, hb⟩
    · exact ⟨Nat.lt_succ_self _, .inl ⟨Nat.le_trans H.below.size h1, h0⟩, .inr h2⟩
    · have := H'.bnd b l hb
      exact ⟨Nat.lt_succ_of_lt this.1, by rw [Hp.still_new _ hne]; exact this.2.1, this.2.2⟩
  · intro b l o' hb ho'
    rcases upd_inv hb with ⟨rfl, rfl⟩ | ⟨hne, hb⟩
    · simp only [Hp.new, Tr.get_set_same, Option.some.injEq] at ho'
      subst ho'; trivial
    · simp only [Hp.new] at ho'
      rw [Tr.get_set_ne _ _ (Ne.symm hne)] at ho'
      exact (H'.live b l _ hb ho').keep hext rfl
  · intro b b' l l' hb hb' hne ha ha'
    obtain ⟨n1, a1⟩ := old b ha
    obtain ⟨n2, a2⟩ := old b' ha'
    rcases upd_inv hb with ⟨rfl, rfl⟩ | ⟨_, hb⟩
    · exact (n1 rfl).elim
    · rcases upd_inv hb' with ⟨rfl, rfl⟩ | ⟨_, hb'⟩
      · exact (n2 rfl).elim
      · exact H.inj b b' l l' hb hb' hne a1 a2
/-- a value that names one block, whatever its number. -/
def Names (v : Nat → V) : Prop := ∀ (ρ ρ' : Rho) (b b' : Nat) (x : Value), Rel ρ (v b) x → ρ b = ρ' b' → Rel ρ' (v b') x
/-- a call's answer is known, but for what its block holds. -/
def KnownD (P : Program) (I : World → Prop) (f : FuncId) (vs : List V) (v : Nat → V) : Prop := ∀ (ρ : Rho) (xs : List Value), RelL ρ vs xs → ∀ w : World, I w →
  CallR P f ⟨xs⟩ w fun e w' => ∃ x lc, e = .returned x ∧ Below w.heap.size w w' ∧ lc.base = 0 ∧ w.heap.size ≤ lc.blk ∧ lc.blk < w'.heap.size ∧ ∀ (ρ : Rho) b, ρ b = some lc → Rel ρ (v b) x
theorem knownD_of [Orc] [OrcOk P] (hmix : P.follows .mixedOrders = true) (hN : Named P) {labs : Tr Lab} {f : FuncId} {vs : List V} {v : Nat → V} {h0 h' : Hp} {I : World → Prop} (hI : ∀ w, I w → Begins P h0 w)
    (hp : vs.all plain = true) (hv : Names v) {b : Nat} (hb : ∀ ρ x, Rel ρ (v b) x → ∃ lc, ρ b = some lc) {c : Tr V} {n : Nat} {g : Bool} {e : TypeId} (hc : h'.t.get b = some (.cells c n g e)) (he : lim P labs (2 * f) vs h0 = some (v b, h')) : KnownD P I f vs v := by
  intro ρ xs ha w hw
  obtain ⟨fuel, hrun⟩ := lim_F.1 he
  obtain ⟨ρ0, H⟩ := hI w hw
  refine (call_sim (run_sim hmix hN fuel).1 H (ha.plain (ρ' := ρ0) hp) hrun).mono ?_
  rintro e w' ⟨x, ρ', rfl, h2, _, h3⟩
  obtain ⟨lc, hlc⟩ := hb _ _ h2
  have ho := h3.own2 hlc (Hp.not_still hc (fun t e => by simp))
  exact ⟨x, lc, rfl, h3.below, ho.2, ho.1, h3.lt hlc ⟨_, hc, by simp⟩, fun ρ2 b2 h4 => hv _ _ _ _ _ h2 (hlc.trans h4.symm)⟩
theorem KnownD.sound [Orc] [Res] {I : World → Prop} {f : FuncId} {vs : List V} {v : Nat → V} (hk : KnownD P I f vs v) {w0 w : World} {h : Hp} {ρ : Rho} {xs : List Value} (hI : I w) (H : R P w0 w h ρ) (ha : RelL ρ vs xs) :
    CallR P f ⟨xs⟩ w fun e w' => ∃ x ρ', e = .returned x ∧ Rel ρ' (v h.n) x ∧ Ext ρ ρ' ∧ R P w0 w' (h.new .dead) ρ' := by
  refine (hk ρ xs ha w hI).mono ?_
  rintro e w' ⟨x, lc, rfl, hB, h0, h1, h2, h3⟩
  obtain ⟨k1, k2⟩ := newDead_R H hB h0 h1 h2
  exact ⟨x, _, rfl, h3 _ _ (upd_same _ _ _), k1, k2⟩
end Go.Mid
