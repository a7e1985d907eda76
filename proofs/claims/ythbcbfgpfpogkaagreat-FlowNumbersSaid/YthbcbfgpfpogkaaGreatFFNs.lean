import Derived.Test.YthbcbfgpfpogkaaGreatFFNr1
import Derived.Test.YthbcbfgpfpogkaaGreatFFNr2
import Derived.Test.YthbcbfgpfpogkaaGreatFFNr3
import Derived.Test.YthbcbfgpfpogkaaGreatFFNr4
import Derived.Test.YthbcbfgpfpogkaaGreatFFNr5
import Derived.Test.YthbcbfgpfpogkaaGreatFMidOO
import Derived.KernelRfl
set_option linter.all false
set_option warn.classDefReducibility false
/- FlowNumbers: the long texts are known (printed). -/
section
open Go Go.Mid Go.Proofs
set_option maxRecDepth 100000
set_option linter.unusedVariables false
namespace Go.FN
theorem kA {s : Bs} (h : chkA (goC 24 [.str s]) = true) : ∃ b, KnownK Tryz.prog Inv 12 [.str s] (pA b) [b] := by
  obtain ⟨b, h', e, hc⟩ := chkA_some h
  letI : Orc := orc fnB Inv
  letI : OrcOk Tryz.prog := okB
  refine ⟨b, knownK_of (by kernel_rfl) named (h0 := h0) (h' := h') (fun w hw => begins rfl (fun _ h => h) hw) rfl ?_ ?_ hc (limC e)⟩
  · simp [subN, pA, blksV, blksL, memN, Nat.beq_refl]
  · simp [subN, pA, blksV, blksL, memN, Nat.beq_refl]
theorem kB {n m : Nat} {s : Bs} (h : chkB n m (goC 24 [.str s]) = true) : ∃ b1 b2, Nat.beq b1 b2 = false ∧ KnownK Tryz.prog Inv 12 [.str s] (pB n m b1 b2) [b1, b2] := by
  obtain ⟨b1, b2, h', e, hn, hc⟩ := chkB_some h
  letI : Orc := orc fnB Inv
  letI : OrcOk Tryz.prog := okB
  refine ⟨b1, b2, hn, knownK_of (by kernel_rfl) named (h0 := h0) (h' := h') (fun w hw => begins rfl (fun _ h => h) hw) rfl ?_ ?_ hc (limC e)⟩
  · simp [subN, pB, blksV, blksL, memN, Nat.beq_refl]
  · simp [subN, pB, blksV, blksL, memN, Nat.beq_refl]
theorem kF {e l : Nat} {s : Bs} (h : chkF e l (goC 24 [.str s]) = true) : KnownK Tryz.prog Inv 12 [.str s] (pF e l) [] := by
  obtain ⟨h', e⟩ := chkF_some h
  letI : Orc := orc fnB Inv
  letI : OrcOk Tryz.prog := okB
  exact knownK_of (by kernel_rfl) named (h0 := h0) (h' := h') (fun w hw => begins rfl (fun _ h => h) hw) rfl (by simp [subN, pF, blksV, blksL]) (by simp [subN]) rfl (limC e)
theorem kBP {n m : Nat} {s : Bs} (h : chkB n m (QP.go 24 [.str s]) = true) : ∃ b1 b2, Nat.beq b1 b2 = false ∧ KnownK Tryz.prog Inv 12 [.str s] (pB n m b1 b2) [b1, b2] := by
  obtain ⟨b1, b2, h', e, hn, hc⟩ := chkB_some h
  letI : Orc := orc fnP Inv
  letI : OrcOk Tryz.prog := okP
  refine ⟨b1, b2, hn, knownK_of (by kernel_rfl) named (h0 := h0) (h' := h') (fun w hw => begins rfl (fun _ h => h) hw) rfl ?_ ?_ hc (QP.limC e)⟩
  · simp [subN, pB, blksV, blksL, memN, Nat.beq_refl]
  · simp [subN, pB, blksV, blksL, memN, Nat.beq_refl]
theorem kFP {e l : Nat} {s : Bs} (h : chkF e l (QP.go 24 [.str s]) = true) : KnownK Tryz.prog Inv 12 [.str s] (pF e l) [] := by
  obtain ⟨h', e⟩ := chkF_some h
  letI : Orc := orc fnP Inv
  letI : OrcOk Tryz.prog := okP
  exact knownK_of (by kernel_rfl) named (h0 := h0) (h' := h') (fun w hw => begins rfl (fun _ h => h) hw) rfl (by simp [subN, pF, blksV, blksL]) (by simp [subN]) rfl (QP.limC e)
theorem kT {f : FuncId} {vs : List V} (hp : vs.all plain = true) (h : chkT (goC (2 * f) vs) = true) : Known Tryz.prog Inv f vs (.bool true) := by
  obtain ⟨h', e⟩ := chkT_some h
  letI : Orc := orc fnB Inv
  letI : OrcOk Tryz.prog := okB
  exact known_of (by kernel_rfl) named (h0 := h0) (h' := h') (fun w hw => begins rfl (fun _ h => h) hw) hp rfl (limC e)
/-- what a call brings: from any heap. -/
def Brings (f : FuncId) (vs : List V) (h : Hp) (v : V) (h' : Hp) : Prop := ∀ (Z : Res) (w0 w : World) ρ xs, @R (orc fnB Inv) Z Tryz.prog w0 w h ρ → RelL ρ vs xs → CallR Tryz.prog f ⟨xs⟩ w fun e w' => ∃ x ρ', e = .returned x ∧ Rel ρ' v x ∧ Ext ρ ρ' ∧ @R (orc fnB Inv) Z Tryz.prog w0 w' h' ρ'
theorem now_inv {Z : Res} {w0 w : World} {h : Hp} {ρ : Rho} (H : @R (orc fnB Inv) Z Tryz.prog w0 w h ρ) : Inv w := Inv.later (@R.base (orc fnB Inv) Z _ _ _ _ _ H) (@R.below (orc fnB Inv) Z _ _ _ _ _ H)
theorem bA {s t : Bs} (e : s.eq t = true) (h : chkA (goC 24 [.str t]) = true) (H0 : Hp) : Brings 12 [.str s] H0 (pA H0.n) (deads H0 1) := by
  intro Z w0 w ρ xs H ha
  obtain ⟨b, hk⟩ := kA h
  have := @KnownK.sound Tryz.prog (orc fnB Inv) Z Inv 12 [.str t] (pA b) [b] hk rfl w0 w H0 ρ xs (now_inv H) H (RelL.str_eq e ha)
  rw [show renV (shiftN H0 [b]) (pA b) = pA H0.n from by simp [pA, renV, renL, shiftN, posN, Nat.beq_refl]] at this
  exact this
theorem bB {n m : Nat} {s t : Bs} (e : s.eq t = true) (h : chkB n m (goC 24 [.str t]) = true) (H0 : Hp) : Brings 12 [.str s] H0 (pB n m H0.n (H0.n + 1)) (deads H0 2) := by
  intro Z w0 w ρ xs H ha
  obtain ⟨b1, b2, hn, hk⟩ := kB h
  have := @KnownK.sound Tryz.prog (orc fnB Inv) Z Inv 12 [.str t] (pB n m b1 b2) [b1, b2] hk (by simp [nodup, memN]; first | exact hn | (cases hb : Nat.beq b2 b1 with | false => rfl | true => (have := Nat.eq_of_beq_eq_true hb; subst this; rw [Nat.beq_refl] at hn; cases hn))) w0 w H0 ρ xs (now_inv H) H (RelL.str_eq e ha)
  rw [show renV (shiftN H0 [b1, b2]) (pB n m b1 b2) = pB n m H0.n (H0.n + 1) from by simp [pB, renV, renL, shiftN, posN, Nat.beq_refl, hn]] at this
  exact this
theorem bF {x l : Nat} {s t : Bs} (e : s.eq t = true) (h : chkF x l (goC 24 [.str t]) = true) (H0 : Hp) : Brings 12 [.str s] H0 (pF x l) H0 := by
  intro Z w0 w ρ xs H ha
  have := @KnownK.sound Tryz.prog (orc fnB Inv) Z Inv 12 [.str t] (pF x l) [] (kF h) rfl w0 w H0 ρ xs (now_inv H) H (RelL.str_eq e ha)
  rw [show renV (shiftN H0 []) (pF x l) = pF x l from by simp [pF, renV, renL]] at this
  exact this
theorem bBP {n m : Nat} {s t : Bs} (e : s.eq t = true) (h : chkB n m (QP.go 24 [.str t]) = true) (H0 : Hp) : Brings 12 [.str s] H0 (pB n m H0.n (H0.n + 1)) (deads H0 2) := by
  intro Z w0 w ρ xs H ha
  obtain ⟨b1, b2, hn, hk⟩ := kBP h
  have := @KnownK.sound Tryz.prog (orc fnB Inv) Z Inv 12 [.str t] (pB n m b1 b2) [b1, b2] hk (by simp [nodup, memN]; first | exact hn | (cases hb : Nat.beq b2 b1 with | false => rfl | true => (have := Nat.eq_of_beq_eq_true hb; subst this; rw [Nat.beq_refl] at hn; cases hn))) w0 w H0 ρ xs (now_inv H) H (RelL.str_eq e ha)
  rw [show renV (shiftN H0 [b1, b2]) (pB n m b1 b2) = pB n m H0.n (H0.n + 1) from by simp [pB, renV, renL, shiftN, posN, Nat.beq_refl, hn]] at this
  exact this
theorem bFP {x l : Nat} {s t : Bs} (e : s.eq t = true) (h : chkF x l (QP.go 24 [.str t]) = true) (H0 : Hp) : Brings 12 [.str s] H0 (pF x l) H0 := by
  intro Z w0 w ρ xs H ha
  have := @KnownK.sound Tryz.prog (orc fnB Inv) Z Inv 12 [.str t] (pF x l) [] (kFP h) rfl w0 w H0 ρ xs (now_inv H) H (RelL.str_eq e ha)
  rw [show renV (shiftN H0 []) (pF x l) = pF x l from by simp [pF, renV, renL]] at this
  exact this
theorem bT {s t : Bs} {i j : V} (hp : plain i = true) (hq : plain j = true) (e : s.eq t = true) (h : chkT (goC 18 [.str t, i, j]) = true) (H0 : Hp) : Brings 9 [.str s, i, j] H0 (.bool true) H0 := by
  intro Z w0 w ρ xs H ha
  letI : Orc := orc fnB Inv
  refine (kT (f := 9) (vs := [.str t, i, j]) (by rw [List.all_cons, List.all_cons, List.all_cons, hp, hq]; rfl) h ρ xs (RelL.str_eq e ha) w (now_inv H)).mono ?_
  rintro e w' ⟨x, rfl, hx, hB⟩
  exact ⟨x, ρ, rfl, hx, Ext.refl _, @R.later Tryz.prog (orc fnB Inv) Z _ _ _ _ h0 _ ρ H hB⟩
noncomputable def knR (s : Bs) (h : Hp) : Option (V × Hp) := bif s.eq tA then some (pA h.n, deads h 1) else bif s.eq tB then some (pA h.n, deads h 1) else bif s.eq tC then some (pB 1 2 h.n (Nat.succ h.n), deads h 2) else bif s.eq tD then some (pB 1 200 h.n (Nat.succ h.n), deads h 2) else bif s.eq tG then some (pF 3 3, h) else bif s.eq tI then some (pF 3 122, h) else none
noncomputable def knW (s : Bs) (h : Hp) : Option (V × Hp) := bif s.eq w1 then some (.bool true, h) else bif s.eq w2 then some (.bool true, h) else bif s.eq w3 then some (.bool true, h) else none
noncomputable def knS (f : FuncId) (vs : List V) (h : Hp) : Option (V × Hp) := bif Nat.beq f 12 then (match vs with
  | [.str s] => knR s h
  | _ => none) else bif Nat.beq f 9 then (match vs with
  | [.str s, .int .i64 (.ofNat i), .int .i64 (.ofNat j)] => bif Nat.beq i 3 && Nat.beq j 2 then knW s h else none
  | _ => none) else none
theorem knR_ok {s : Bs} {h : Hp} {v : V} {h' : Hp} (e : knR s h = some (v, h')) : Brings 12 [.str s] h v h' ∧ Fr h h' := by
  unfold knR at e
  cases eA : s.eq tA with
  | true =>
    rw [eA] at e; simp only [cond_true, Option.some.injEq, Prod.mk.injEq] at e
    obtain ⟨rfl, rfl⟩ := e
    exact ⟨bA eA rA h, @deads_fr (orc fnB Inv) h 1⟩
  | false =>
    rw [eA] at e; simp only [cond_false] at e
    cases eB : s.eq tB with
    | true =>
      rw [eB] at e; simp only [cond_true, Option.some.injEq, Prod.mk.injEq] at e
      obtain ⟨rfl, rfl⟩ := e
      exact ⟨bA eB rB h, @deads_fr (orc fnB Inv) h 1⟩
    | false =>
      rw [eB] at e; simp only [cond_false] at e
      cases eC : s.eq tC with
      | true =>
        rw [eC] at e; simp only [cond_true, Option.some.injEq, Prod.mk.injEq] at e
        obtain ⟨rfl, rfl⟩ := e
        exact ⟨bB eC rC h, @deads_fr (orc fnB Inv) h 2⟩
      | false =>
        rw [eC] at e; simp only [cond_false] at e
        cases eD : s.eq tD with
        | true =>
          rw [eD] at e; simp only [cond_true, Option.some.injEq, Prod.mk.injEq] at e
          obtain ⟨rfl, rfl⟩ := e
          exact ⟨bBP eD rD h, @deads_fr (orc fnB Inv) h 2⟩
        | false =>
          rw [eD] at e; simp only [cond_false] at e
          cases eG : s.eq tG with
          | true =>
            rw [eG] at e; simp only [cond_true, Option.some.injEq, Prod.mk.injEq] at e
            obtain ⟨rfl, rfl⟩ := e
            exact ⟨bFP eG rG h, @Fr.refl (orc fnB Inv) _⟩
          | false =>
            rw [eG] at e; simp only [cond_false] at e
            cases eI : s.eq tI with
            | true =>
              rw [eI] at e; simp only [cond_true, Option.some.injEq, Prod.mk.injEq] at e
              obtain ⟨rfl, rfl⟩ := e
              exact ⟨bF eI rI h, @Fr.refl (orc fnB Inv) _⟩
            | false =>
              rw [eI] at e; simp only [cond_false] at e
              cases e
theorem knW_ok {s : Bs} {h : Hp} {v : V} {h' : Hp} (e : knW s h = some (v, h')) : Brings 9 [.str s, .int .i64 (.ofNat 3), .int .i64 (.ofNat 2)] h v h' ∧ Fr h h' := by
  unfold knW at e
  cases e1 : s.eq w1 with
  | true =>
    rw [e1] at e; simp only [cond_true, Option.some.injEq, Prod.mk.injEq] at e
    obtain ⟨rfl, rfl⟩ := e
    exact ⟨bT rfl rfl e1 rw1 h, @Fr.refl (orc fnB Inv) _⟩
  | false =>
    rw [e1] at e; simp only [cond_false] at e
    cases e2 : s.eq w2 with
    | true =>
      rw [e2] at e; simp only [cond_true, Option.some.injEq, Prod.mk.injEq] at e
      obtain ⟨rfl, rfl⟩ := e
      exact ⟨bT rfl rfl e2 rw2 h, @Fr.refl (orc fnB Inv) _⟩
    | false =>
      rw [e2] at e; simp only [cond_false] at e
      cases e3 : s.eq w3 with
      | true =>
        rw [e3] at e; simp only [cond_true, Option.some.injEq, Prod.mk.injEq] at e
        obtain ⟨rfl, rfl⟩ := e
        exact ⟨bT rfl rfl e3 rw3 h, @Fr.refl (orc fnB Inv) _⟩
      | false =>
        rw [e3] at e; simp only [cond_false] at e
        cases e
theorem knS_ok {f : FuncId} {vs : List V} {h : Hp} {v : V} {h' : Hp} (e : knS f vs h = some (v, h')) : Brings f vs h v h' ∧ Fr h h' := by
  unfold knS at e
  cases h1 : Nat.beq f 12 with
  | true =>
    have := Nat.eq_of_beq_eq_true h1
    subst this
    rw [h1] at e
    simp only [cond_true] at e
    split at e <;> first | exact knR_ok e | cases e
  | false =>
    rw [h1] at e
    simp only [cond_false] at e
    cases h2 : Nat.beq f 9 with
    | true =>
      have := Nat.eq_of_beq_eq_true h2
      subst this
      rw [h2] at e
      simp only [cond_true] at e
      split at e <;> try (cases e; done)
      rename_i s i j
      cases hb : Nat.beq i 3 && Nat.beq j 2 with
      | false => rw [hb] at e; cases e
      | true =>
        rw [hb] at e
        simp only [Bool.and_eq_true] at hb
        have a1 := Nat.eq_of_beq_eq_true hb.1
        have a2 := Nat.eq_of_beq_eq_true hb.2
        subst a1; subst a2
        exact knW_ok e
    | false => rw [h2] at e; cases e
noncomputable def fnS (f : FuncId) (vs : List V) (h : Hp) : Option (V × Hp) := match knS f vs h with
  | some p => some p
  | none => fnB f vs h
theorem okS : @OrcOk Tryz.prog (orc fnS Inv) := @over_ok Tryz.prog (orc fnB Inv) okB knS (fun f vs h v h' e => (knS_ok e).2) (fun f vs h v h' e Z w0 w ρ xs H ha => (knS_ok e).1 Z w0 w ρ xs H ha)
end Go.FN

end
/- FlowNumbers: the table over all that is known (printed). -/
section
open Go Go.Mid Go.Proofs
set_option maxRecDepth 100000
set_option linter.unusedVariables false
namespace Go.FN
noncomputable def GtabT38 : Sh := fun _ vs h => fnS 19 vs h
theorem EtabT38 (I : World → Prop) : @EntOk (orc fnS I) Tryz.prog labs 38 GtabT38 := @entO Tryz.prog (orc fnS I) _ 19 _ fun _ _ _ _ hp => hp
noncomputable def GtabT224 : Sh := fun _ vs h => fnS 112 vs h
theorem EtabT224 (I : World → Prop) : @EntOk (orc fnS I) Tryz.prog labs 224 GtabT224 := @entO Tryz.prog (orc fnS I) _ 112 _ fun _ _ _ _ hp => hp
noncomputable def GtabT204 : Sh := fun _ vs h => fnS 102 vs h
theorem EtabT204 (I : World → Prop) : @EntOk (orc fnS I) Tryz.prog labs 204 GtabT204 := @entO Tryz.prog (orc fnS I) _ 102 _ fun _ _ _ _ hp => hp
noncomputable def GtabT214 : Sh := fun _ vs h => fnS 107 vs h
theorem EtabT214 (I : World → Prop) : @EntOk (orc fnS I) Tryz.prog labs 214 GtabT214 := @entO Tryz.prog (orc fnS I) _ 107 _ fun _ _ _ _ hp => hp
noncomputable def GtabT200 : Sh := fun _ vs h => fnS 100 vs h
theorem EtabT200 (I : World → Prop) : @EntOk (orc fnS I) Tryz.prog labs 200 GtabT200 := @entO Tryz.prog (orc fnS I) _ 100 _ fun _ _ _ _ hp => hp
noncomputable def GtabT288 : Sh := fun _ vs h => fnS 144 vs h
theorem EtabT288 (I : World → Prop) : @EntOk (orc fnS I) Tryz.prog labs 288 GtabT288 := @entO Tryz.prog (orc fnS I) _ 144 _ fun _ _ _ _ hp => hp
noncomputable def tabT : Tr Sh := (((((((((((((((((((((((((((((((((((((((((((((((((((((((((((((((((((((((((((((((((((((((((((((((((((((((((((((((((((((((((((((((((((((((((((((((((((((((((((((((((((((((((((((((((((((((((((((((((((((((((((((((((((((((((((((((((((((((((((((((((Tr.nil.set 8 G8).set 10 G10).set 22 G22).set 20 G20).set 16 G16).set 1 G1).set 26 G26).set 3 G3).set 38 GtabT38).set 36 G36).set 40 G40).set 17 G17).set 46 G46).set 19 G19).set 21 G21).set 23 G23).set 25 G25).set 44 G44).set 27 G27).set 12 G12).set 29 G29).set 31 G31).set 33 G33).set 42 G42).set 35 G35).set 86 G86).set 39 G39).set 84 G84).set 32 G32).set 41 G41).set 43 G43).set 45 G45).set 47 G47).set 49 G49).set 30 G30).set 51 G51).set 53 G53).set 55 G55).set 57 G57).set 59 G59).set 28 G28).set 61 G61).set 63 G63).set 82 G82).set 80 G80).set 76 G76).set 74 G74).set 65 G65).set 67 G67).set 72 G72).set 69 G69).set 71 G71).set 73 G73).set 54 G54).set 58 G58).set 75 G75).set 77 G77).set 79 G79).set 56 G56).set 81 G81).set 50 G50).set 48 G48).set 83 G83).set 85 G85).set 87 G87).set 52 G52).set 138 G138).set 148 G148).set 89 G89).set 91 G91).set 93 G93).set 144 G144).set 146 G146).set 95 G95).set 142 G142).set 140 G140).set 132 G132).set 97 G97).set 99 G99).set 136 G136).set 101 G101).set 103 G103).set 134 G134).set 130 G130).set 116 G116).set 107 G107).set 109 G109).set 114 G114).set 111 G111).set 113 G113).set 115 G115).set 110 G110).set 112 G112).set 118 G118).set 108 G108).set 106 G106).set 102 G102).set 100 G100).set 117 G117).set 98 G98).set 96 G96).set 92 G92).set 90 G90).set 121 G121).set 88 G88).set 94 G94).set 104 G104).set 123 G123).set 238 G238).set 236 G236).set 125 G125).set 234 G234).set 127 G127).set 232 G232).set 129 G129).set 131 G131).set 133 G133).set 228 G228).set 135 G135).set 137 G137).set 139 G139).set 141 G141).set 143 G143).set 145 G145).set 230 G230).set 226 G226).set 147 G147).set 202 G202).set 224 GtabT224).set 204 GtabT204).set 206 G206).set 218 G218).set 169 G169).set 216 G216).set 171 G171).set 173 G173).set 214 GtabT214).set 212 G212).set 210 G210).set 208 G208).set 200 GtabT200).set 194 G194).set 184 G184).set 192 G192).set 190 G190).set 182 G182).set 179 G179).set 188 G188).set 181 G181).set 183 G183).set 185 G185).set 187 G187).set 186 G186).set 189 G189).set 191 G191).set 193 G193).set 195 G195).set 197 G197).set 180 G180).set 176 G176).set 178 G178).set 174 G174).set 199 G199).set 172 G172).set 170 G170).set 164 G164).set 154 G154).set 166 G166).set 150 G150).set 162 G162).set 201 G201).set 158 G158).set 152 G152).set 160 G160).set 203 G203).set 156 G156).set 282 G282).set 205 G205).set 207 G207).set 280 G280).set 278 G278).set 211 G211).set 213 G213).set 272 G272).set 217 G217).set 276 G276).set 266 G266).set 274 G274).set 219 G219).set 221 G221).set 270 G270).set 223 G223).set 268 G268).set 225 G225).set 260 G260).set 229 G229).set 231 G231).set 233 G233).set 235 G235).set 237 G237).set 256 G256).set 252 G252).set 239 G239).set 254 G254).set 250 G250).set 241 G241).set 244 G244).set 248 G248).set 246 G246).set 240 G240).set 242 G242).set 320 G320).set 316 G316).set 243 G243).set 245 G245).set 247 G247).set 314 G314).set 249 G249).set 251 G251).set 253 G253).set 302 G302).set 275 G275).set 292 G292).set 296 G296).set 283 G283).set 294 G294).set 290 G290).set 285 G285).set 287 G287).set 286 G286).set 288 GtabT288).set 284 G284).set 289 G289).set 330 G330).set 291 G291).set 326 G326).set 295 G295).set 324 G324).set 297 G297).set 334 G334).set 299 G299)
theorem tabT_ok (I : World → Prop) : @TabOk (orc fnS I) Tryz.prog labs tabT := (tS (tS (tS (tS (tS (tS (tS (tS (tS (tS (tS (tS (tS (tS (tS (tS (tS (tS (tS (tS (tS (tS (tS (tS (tS (tS (tS (tS (tS (tS (tS (tS (tS (tS (tS (tS (tS (tS (tS (tS (tS (tS (tS (tS (tS (tS (tS (tS (tS (tS (tS (tS (tS (tS (tS (tS (tS (tS (tS (tS (tS (tS (tS (tS (tS (tS (tS (tS (tS (tS (tS (tS (tS (tS (tS (tS (tS (tS (tS (tS (tS (tS (tS (tS (tS (tS (tS (tS (tS (tS (tS (tS (tS (tS (tS (tS (tS (tS (tS (tS (tS (tS (tS (tS (tS (tS (tS (tS (tS (tS (tS (tS (tS (tS (tS (tS (tS (tS (tS (tS (tS (tS (tS (tS (tS (tS (tS (tS (tS (tS (tS (tS (tS (tS (tS (tS (tS (tS (tS (tS (tS (tS (tS (tS (tS (tS (tS (tS (tS (tS (tS (tS (tS (tS (tS (tS (tS (tS (tS (tS (tS (tS (tS (tS (tS (tS (tS (tS (tS (tS (tS (tS (tS (tS (tS (tS (tS (tS (tS (tS (tS (tS (tS (tS (tS (tS (tS (tS (tS (tS (tS (tS (tS (tS (tS (tS (tS (tS (tS (tS (tS (tS (tS (tS (tS (tS (tS (tS (tS (tS (tS (tS (tS (tS (tS (tS (tS (tS (tS (tS (tS (tS (tS (tS (tS (tS (tS (tS (tS (tS (tS (tS (tS (tS (tS (tS (tS (tS (tS (tS (tS (@tabOk_nil (orc fnS I) Tryz.prog labs) (E8 fnS I fun _ _ => rfl)) (E10 fnS I fun _ _ => rfl)) (E22 fnS I fun _ _ => rfl)) (E20 fnS I fun _ _ => rfl)) (E16 fnS I fun _ _ => rfl)) (E1 fnS I)) (E26 fnS I fun _ _ => rfl)) (E3 fnS I)) (EtabT38 I)) (E36 fnS I fun _ _ => rfl)) (E40 fnS I fun _ _ => rfl)) (E17 fnS I)) (E46 fnS I fun _ _ => rfl)) (E19 fnS I)) (E21 fnS I)) (E23 fnS I)) (E25 fnS I)) (E44 fnS I fun _ _ => rfl)) (E27 fnS I)) (E12 fnS I fun _ _ => rfl)) (E29 fnS I)) (E31 fnS I)) (E33 fnS I)) (E42 fnS I fun _ _ => rfl)) (E35 fnS I)) (E86 fnS I fun _ _ => rfl)) (E39 fnS I)) (E84 fnS I fun _ _ => rfl)) (E32 fnS I fun _ _ => rfl)) (E41 fnS I)) (E43 fnS I)) (E45 fnS I)) (E47 fnS I)) (E49 fnS I)) (E30 fnS I fun _ _ => rfl)) (E51 fnS I)) (E53 fnS I)) (E55 fnS I)) (E57 fnS I)) (E59 fnS I)) (E28 fnS I fun _ _ => rfl)) (E61 fnS I)) (E63 fnS I)) (E82 fnS I fun _ _ => rfl)) (E80 fnS I fun _ _ => rfl)) (E76 fnS I fun _ _ => rfl)) (E74 fnS I fun _ _ => rfl)) (E65 fnS I)) (E67 fnS I)) (E72 fnS I fun _ _ => rfl)) (E69 fnS I)) (E71 fnS I)) (E73 fnS I)) (E54 fnS I fun _ _ => rfl)) (E58 fnS I fun _ _ => rfl)) (E75 fnS I)) (E77 fnS I)) (E79 fnS I)) (E56 fnS I fun _ _ => rfl)) (E81 fnS I)) (E50 fnS I fun _ _ => rfl)) (E48 fnS I fun _ _ => rfl)) (E83 fnS I)) (E85 fnS I)) (E87 fnS I)) (E52 fnS I fun _ _ => rfl)) (E138 fnS I fun _ _ => rfl)) (E148 fnS I fun _ _ => rfl)) (E89 fnS I)) (E91 fnS I)) (E93 fnS I)) (E144 fnS I fun _ _ => rfl)) (E146 fnS I fun _ _ => rfl)) (E95 fnS I)) (E142 fnS I fun _ _ => rfl)) (E140 fnS I fun _ _ => rfl)) (E132 fnS I fun _ _ => rfl)) (E97 fnS I)) (E99 fnS I)) (E136 fnS I fun _ _ => rfl)) (E101 fnS I)) (E103 fnS I)) (E134 fnS I fun _ _ => rfl)) (E130 fnS I fun _ _ => rfl)) (E116 fnS I fun _ _ => rfl)) (E107 fnS I)) (E109 fnS I)) (E114 fnS I fun _ _ => rfl)) (E111 fnS I)) (E113 fnS I)) (E115 fnS I)) (E110 fnS I fun _ _ => rfl)) (E112 fnS I fun _ _ => rfl)) (E118 fnS I fun _ _ => rfl)) (E108 fnS I fun _ _ => rfl)) (E106 fnS I fun _ _ => rfl)) (E102 fnS I fun _ _ => rfl)) (E100 fnS I fun _ _ => rfl)) (E117 fnS I)) (E98 fnS I fun _ _ => rfl)) (E96 fnS I fun _ _ => rfl)) (E92 fnS I fun _ _ => rfl)) (E90 fnS I fun _ _ => rfl)) (E121 fnS I)) (E88 fnS I fun _ _ => rfl)) (E94 fnS I fun _ _ => rfl)) (E104 fnS I fun _ _ => rfl)) (E123 fnS I)) (E238 fnS I fun _ _ => rfl)) (E236 fnS I fun _ _ => rfl)) (E125 fnS I)) (E234 fnS I fun _ _ => rfl)) (E127 fnS I)) (E232 fnS I fun _ _ => rfl)) (E129 fnS I)) (E131 fnS I)) (E133 fnS I)) (E228 fnS I fun _ _ => rfl)) (E135 fnS I)) (E137 fnS I)) (E139 fnS I)) (E141 fnS I)) (E143 fnS I)) (E145 fnS I)) (E230 fnS I fun _ _ => rfl)) (E226 fnS I fun _ _ => rfl)) (E147 fnS I)) (E202 fnS I fun _ _ => rfl)) (EtabT224 I)) (EtabT204 I)) (E206 fnS I fun _ _ => rfl)) (E218 fnS I fun _ _ => rfl)) (E169 fnS I)) (E216 fnS I fun _ _ => rfl)) (E171 fnS I)) (E173 fnS I)) (EtabT214 I)) (E212 fnS I fun _ _ => rfl)) (E210 fnS I fun _ _ => rfl)) (E208 fnS I fun _ _ => rfl)) (EtabT200 I)) (E194 fnS I fun _ _ => rfl)) (E184 fnS I fun _ _ => rfl)) (E192 fnS I fun _ _ => rfl)) (E190 fnS I fun _ _ => rfl)) (E182 fnS I fun _ _ => rfl)) (E179 fnS I)) (E188 fnS I fun _ _ => rfl)) (E181 fnS I)) (E183 fnS I)) (E185 fnS I)) (E187 fnS I)) (E186 fnS I fun _ _ => rfl)) (E189 fnS I)) (E191 fnS I)) (E193 fnS I)) (E195 fnS I)) (E197 fnS I)) (E180 fnS I fun _ _ => rfl)) (E176 fnS I fun _ _ => rfl)) (E178 fnS I fun _ _ => rfl)) (E174 fnS I fun _ _ => rfl)) (E199 fnS I)) (E172 fnS I fun _ _ => rfl)) (E170 fnS I fun _ _ => rfl)) (E164 fnS I fun _ _ => rfl)) (E154 fnS I fun _ _ => rfl)) (E166 fnS I fun _ _ => rfl)) (E150 fnS I fun _ _ => rfl)) (E162 fnS I fun _ _ => rfl)) (E201 fnS I)) (E158 fnS I fun _ _ => rfl)) (E152 fnS I fun _ _ => rfl)) (E160 fnS I fun _ _ => rfl)) (E203 fnS I)) (E156 fnS I fun _ _ => rfl)) (E282 fnS I fun _ _ => rfl)) (E205 fnS I)) (E207 fnS I)) (E280 fnS I fun _ _ => rfl)) (E278 fnS I fun _ _ => rfl)) (E211 fnS I)) (E213 fnS I)) (E272 fnS I fun _ _ => rfl)) (E217 fnS I)) (E276 fnS I fun _ _ => rfl)) (E266 fnS I fun _ _ => rfl)) (E274 fnS I fun _ _ => rfl)) (E219 fnS I)) (E221 fnS I)) (E270 fnS I fun _ _ => rfl)) (E223 fnS I)) (E268 fnS I fun _ _ => rfl)) (E225 fnS I)) (E260 fnS I fun _ _ => rfl)) (E229 fnS I)) (E231 fnS I)) (E233 fnS I)) (E235 fnS I)) (E237 fnS I)) (E256 fnS I fun _ _ => rfl)) (E252 fnS I fun _ _ => rfl)) (E239 fnS I)) (E254 fnS I fun _ _ => rfl)) (E250 fnS I fun _ _ => rfl)) (E241 fnS I)) (E244 fnS I fun _ _ => rfl)) (E248 fnS I fun _ _ => rfl)) (E246 fnS I fun _ _ => rfl)) (E240 fnS I fun _ _ => rfl)) (E242 fnS I fun _ _ => rfl)) (E320 fnS I fun _ _ => rfl)) (E316 fnS I fun _ _ => rfl)) (E243 fnS I)) (E245 fnS I)) (E247 fnS I)) (E314 fnS I fun _ _ => rfl)) (E249 fnS I)) (E251 fnS I)) (E253 fnS I)) (E302 fnS I fun _ _ => rfl)) (E275 fnS I)) (E292 fnS I fun _ _ => rfl)) (E296 fnS I fun _ _ => rfl)) (E283 fnS I)) (E294 fnS I fun _ _ => rfl)) (E290 fnS I fun _ _ => rfl)) (E285 fnS I)) (E287 fnS I)) (E286 fnS I fun _ _ => rfl)) (EtabT288 I)) (E284 fnS I fun _ _ => rfl)) (E289 fnS I)) (E330 fnS I fun _ _ => rfl)) (E291 fnS I)) (E326 fnS I fun _ _ => rfl)) (E295 fnS I)) (E324 fnS I fun _ _ => rfl)) (E297 fnS I)) (E334 fnS I fun _ _ => rfl)) (E299 fnS I))
noncomputable def G24' : Sh := fun ih vs h => mixS (fnS 12 vs h) (G24 ih vs h)
theorem S24 : @EntS (orc fnS Inv) Tryz.prog labs 24 G24' := @entS_mix Tryz.prog (orc fnS Inv) labs 12 G24 100000 cuts12 fit12 (fun ih vs h => consE_le (X := fun r => @denF Tryz.prog (orc fnS Inv) ih 100000 cuts12 r h (Tryz.prog.funcs[12]?)) (fun x0 r0 => nilE_le (X := fun r => @denF Tryz.prog (orc fnS Inv) ih 100000 cuts12 (x0 :: r) h (Tryz.prog.funcs[12]?)) (e24 fnS Inv ih x0 h) r0) vs)
noncomputable def G18' : Sh := fun ih vs h => mixS (fnS 9 vs h) (G18 ih vs h)
theorem S18 : @EntS (orc fnS Inv) Tryz.prog labs 18 G18' := @entS_mix Tryz.prog (orc fnS Inv) labs 9 G18 100000 cuts9 fit9 (fun ih vs h => consE_le (X := fun r => @denF Tryz.prog (orc fnS Inv) ih 100000 cuts9 r h (Tryz.prog.funcs[9]?)) (fun x0 r0 => consE_le (X := fun r => @denF Tryz.prog (orc fnS Inv) ih 100000 cuts9 (x0 :: r) h (Tryz.prog.funcs[9]?)) (fun x1 r1 => consE_le (X := fun r => @denF Tryz.prog (orc fnS Inv) ih 100000 cuts9 (x0 :: x1 :: r) h (Tryz.prog.funcs[9]?)) (fun x2 r2 => nilE_le (X := fun r => @denF Tryz.prog (orc fnS Inv) ih 100000 cuts9 (x0 :: x1 :: x2 :: r) h (Tryz.prog.funcs[9]?)) (e18 fnS Inv ih x0 x1 x2 h) r2) r1) r0) vs)
noncomputable def tabZ : Tr Sh := (tabT.set 24 G24').set 18 G18'
theorem tabZ_ok : @TabS (orc fnS Inv) Tryz.prog labs tabZ :=
  @TabS.set Tryz.prog (orc fnS Inv) _ _ _ _ (@TabS.set Tryz.prog (orc fnS Inv) _ _ _ _ (@TabOk.toS Tryz.prog (orc fnS Inv) _ _ (tabT_ok Inv)) S24) S18
end Go.FN

end
