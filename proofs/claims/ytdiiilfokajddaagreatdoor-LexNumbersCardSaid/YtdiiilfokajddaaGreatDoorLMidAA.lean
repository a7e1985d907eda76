/- Calls whose arguments are plain values, reckoned from an empty heap: known answers for larger runs. -/
import Derived.Test.YtdiiilfokajddaaGreatDoorLMidR
set_option linter.all false
namespace Go.Mid
open Go.RowKit
variable {P : Program}

/-- a value that points nowhere. -/
def plain : V → Bool
  | .bool _ | .int _ _ | .str _ | .nilPtr | .nilSlice | .nilMap | .nilFunc | .nilIface => true
  | _ => false
theorem Rel.plain {ρ ρ' : Rho} {v : V} {x : Value} (hp : plain v = true) (h : Rel ρ v x) : Rel ρ' v x := by
  cases h <;> first | (cases hp; done) | constructor
theorem RelL.plain {ρ ρ' : Rho} {vs : List V} {xs : List Value} (hp : vs.all Mid.plain = true) (h : RelL ρ vs xs) : RelL ρ' vs xs :=
  ⟨h.1, fun i v x h1 h2 => (h.2 i v x h1 h2).plain (List.all_eq_true.1 hp v (List.mem_of_getElem? h1))⟩
/-- where a call with plain arguments begins: the package variables alone. -/
def Begins (P : Program) [Orc] (h0 : Hp) (w : World) : Prop := ∃ ρ0, R P w w h0 ρ0
theorem closed_call [Orc] [OrcOk P] (hmix : P.follows .mixedOrders = true) (hN : Named P) {labs : Tr Lab} {f : FuncId} {vs : List V} {v : V} {h0 h' : Hp}
    (hp : vs.all plain = true) (hv : plain v = true) (he : lim P labs (2 * f) vs h0 = some (v, h')) {ρ : Rho} {xs : List Value} (ha : RelL ρ vs xs) {w : World} (H : Begins P h0 w) :
    CallR P f ⟨xs⟩ w fun e w' => ∃ x, e = .returned x ∧ Rel ρ v x ∧ Below w.heap.size w w' := by
  obtain ⟨fuel, hrun⟩ := lim_F.1 he
  obtain ⟨ρ0, H⟩ := H
  refine (call_sim (run_sim hmix hN fuel).1 H (ha.plain (ρ' := ρ0) hp) hrun).mono ?_
  rintro e w' ⟨x, ρ', rfl, h2, _, h3⟩
  exact ⟨x, rfl, h2.plain hv, h3.below⟩
/-- a call's answer is known, in whatever world in which it may begin. -/
def Known (P : Program) (I : World → Prop) (f : FuncId) (vs : List V) (v : V) : Prop := ∀ (ρ : Rho) (xs : List Value), RelL ρ vs xs → ∀ w : World, I w →
  CallR P f ⟨xs⟩ w fun e w' => ∃ x, e = .returned x ∧ Rel ρ v x ∧ Below w.heap.size w w'
theorem known_of [Orc] [OrcOk P] (hmix : P.follows .mixedOrders = true) (hN : Named P) {labs : Tr Lab} {f : FuncId} {vs : List V} {v : V} {h0 h' : Hp} {I : World → Prop} (hI : ∀ w, I w → Begins P h0 w)
    (hp : vs.all plain = true) (hv : plain v = true) (he : lim P labs (2 * f) vs h0 = some (v, h')) : Known P I f vs v :=
  fun _ _ ha w hw => closed_call hmix hN hp hv he ha (hI w hw)
/-- some answers more. -/
@[reducible] def moreOrc (O : Orc) (kn : FuncId → List V → Option V) : Orc := { O with fn := fun f vs h => match kn f vs with
  | some v => some (v, h)
  | none => O.fn f vs h }
theorem R.more {O : Orc} {kn : FuncId → List V → Option V} {Z : Res} {w0 w : World} {h : Hp} {ρ : Rho} : @R O Z P w0 w h ρ ↔ @R (moreOrc O kn) Z P w0 w h ρ :=
  ⟨fun H => @R.mk (moreOrc O kn) Z P w0 w h ρ (@R.below O Z P w0 w h ρ H) (@R.bnd O Z P w0 w h ρ H) (@R.live O Z P w0 w h ρ H) (@R.inj O Z P w0 w h ρ H) (@R.fresh O Z P w0 w h ρ H) (@R.glob O Z P w0 w h ρ H) (@R.base O Z P w0 w h ρ H) (@R.rs O Z P w0 w h ρ H),
   fun H => @R.mk O Z P w0 w h ρ (@R.below (moreOrc O kn) Z P w0 w h ρ H) (@R.bnd (moreOrc O kn) Z P w0 w h ρ H) (@R.live (moreOrc O kn) Z P w0 w h ρ H) (@R.inj (moreOrc O kn) Z P w0 w h ρ H) (@R.fresh (moreOrc O kn) Z P w0 w h ρ H) (@R.glob (moreOrc O kn) Z P w0 w h ρ H) (@R.base (moreOrc O kn) Z P w0 w h ρ H) (@R.rs (moreOrc O kn) Z P w0 w h ρ H)⟩
theorem known_ok (O : Orc) [OrcOk P] {kn : FuncId → List V → Option V} (hI : ∀ w w', Orc.inv w → Below w.heap.size w w' → Orc.inv w') (hk : ∀ f vs v, kn f vs = some v → Known P Orc.inv f vs v) : @OrcOk P (moreOrc O kn) :=
  letI : Orc := moreOrc O kn
  { pure := @OpOk.pure P O _
    reads := @OpOk.reads P O _
    make := fun o as h v h' e hn => by
      obtain ⟨h1, h2⟩ := @OpOk.make P O _ o as h v h' e hn
      refine ⟨h1, fun Z w0 w ρ a oo ho H ha => ?_⟩
      obtain ⟨x, w', ρ', k1, k2, k3, k4⟩ := h2 Z w0 w ρ a oo ho (R.more.2 H) ha
      exact ⟨x, w', ρ', k1, k2, k3, R.more.1 k4⟩
    fr := fun f vs h v h' e => by
      change (match kn f vs with | some v => some (v, h) | none => O.fn f vs h) = some (v, h') at e
      split at e
      · simp only [Option.some.injEq, Prod.mk.injEq] at e; obtain ⟨_, rfl⟩ := e; exact Fr.refl _
      · exact @OrcFr.fr P O _ f vs h v h' e
    sound := fun f vs h v h' e Z w0 w ρ xs H ha => by
      change (match kn f vs with | some v => some (v, h) | none => O.fn f vs h) = some (v, h') at e
      split at e
      · rename_i v1 hv1
        simp only [Option.some.injEq, Prod.mk.injEq] at e
        obtain ⟨rfl, rfl⟩ := e
        refine (hk f vs v1 hv1 ρ xs ha w (hI w0 w H.base H.below)).mono ?_
        rintro e w' ⟨x, rfl, hx, hB⟩
        exact ⟨x, ρ, rfl, hx, Ext.refl _, H.later (h2 := h) (ρ2 := ρ) hB⟩
      · refine (@OrcOk.sound P O _ f vs h v h' e Z w0 w ρ xs (R.more.2 H) ha).mono ?_
        rintro e w' ⟨x, ρ', rfl, hx, hE, HR⟩
        exact ⟨x, ρ', rfl, hx, hE, R.more.1 HR⟩ }
end Go.Mid
