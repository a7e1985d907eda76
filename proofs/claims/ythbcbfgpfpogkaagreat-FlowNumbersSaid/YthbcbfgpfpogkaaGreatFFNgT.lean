import Derived.Test.YthbcbfgpfpogkaaGreatFFNg1D
import Derived.Test.YthbcbfgpfpogkaaGreatFFNg1G
import Derived.Test.YthbcbfgpfpogkaaGreatFMidJJ
import Derived.KernelRfl
set_option linter.all false
set_option warn.classDefReducibility false
/- FlowNumbers: the tokens of the longest texts are known (printed). -/
section
open Go Go.Mid Go.Proofs
set_option maxRecDepth 100000
set_option linter.unusedVariables false
namespace Go.FN
theorem RelL.str_eq {ρ : Rho} {s t : Bs} {vs : List V} {xs : List Value} (e : s.eq t = true) (h : RelL ρ (.str s :: vs) xs) : RelL ρ (.str t :: vs) xs := by
  obtain ⟨x, ys, rfl, h1, h2⟩ := h.cons_inv
  refine RelL.cons ?_ h2
  cases h1 with
  | str => rw [(Bs.eq_iff s t).1 e]; exact .str t
theorem limC {key : Nat} {vs : List V} {p : V × Hp} (e : goC key vs = some p) : @lim Tryz.prog (orc fnB Inv) labs key vs h0 = some p := @lim_tabS Tryz.prog (orc fnB Inv) labs tabC tabC_ok _ _ _ _ _ e
/-- what a call brings: from any heap. -/
def BringsG (fn : FuncId → List V → Hp → Option (V × Hp)) (f : FuncId) (vs : List V) (h : Hp) (v : V) (h' : Hp) : Prop := ∀ (Z : Res) (w0 w : World) ρ xs, @R (orc fn Inv) Z Tryz.prog w0 w h ρ → RelL ρ vs xs → CallR Tryz.prog f ⟨xs⟩ w fun e w' => ∃ x ρ', e = .returned x ∧ Rel ρ' v x ∧ Ext ρ ρ' ∧ @R (orc fn Inv) Z Tryz.prog w0 w' h' ρ'
theorem nowG {fn : FuncId → List V → Hp → Option (V × Hp)} {Z : Res} {w0 w : World} {h : Hp} {ρ : Rho} (H : @R (orc fn Inv) Z Tryz.prog w0 w h ρ) : Inv w := Inv.later (@R.base (orc fn Inv) Z _ _ _ _ _ H) (@R.below (orc fn Inv) Z _ _ _ _ _ H)
theorem bringsG {fn : FuncId → List V → Hp → Option (V × Hp)} {f : FuncId} {t s : Bs} {v : V} {rows : List GRow} (hk : KnownG Tryz.prog Inv f [.str t] v rows) (e : s.eq t = true) (h : Hp) :
    BringsG fn f [.str s] h (renV (fun i => Nat.add h.n i) v) (addG (fun i => Nat.add h.n i) rows h) := by
  intro Z w0 w ρ xs H ha
  exact @KnownG.sound Tryz.prog (orc fn Inv) Z Inv f [.str t] v rows hk w0 w h ρ xs (nowG H) H (RelL.str_eq e ha)
theorem gTD : KnownG Tryz.prog Inv 36 [.str tD] (vT 1195) [rTD] := by
  obtain ⟨h', e, hc⟩ := chkTok_some kTD
  letI : Orc := orc fnB Inv
  letI : OrcOk Tryz.prog := okB
  exact knownG_chk (k := 1) (by kernel_rfl) named (h0 := h0) (h' := h') (fun w hw => begins rfl (fun _ h => h) hw) rfl (rows := [rTD]) (β := fun _ => 5376) rfl (fun b hb => by simp [vT, i6, blksV, blksL] at hb; omega)
    (by kernel_rfl) hc (fun i j hi hj _ => by omega) (i0 := 0) (r0 := rTD) (by simp [vT, i6, blksV, blksL]) rfl (by kernel_rfl) (limC e)
theorem gTG : KnownG Tryz.prog Inv 36 [.str tG] (vT 1201) [rTG] := by
  obtain ⟨h', e, hc⟩ := chkTok_some kTG
  letI : Orc := orc fnB Inv
  letI : OrcOk Tryz.prog := okB
  exact knownG_chk (k := 1) (by kernel_rfl) named (h0 := h0) (h' := h') (fun w hw => begins rfl (fun _ h => h) hw) rfl (rows := [rTG]) (β := fun _ => 5403) rfl (fun b hb => by simp [vT, i6, blksV, blksL] at hb; omega)
    (by kernel_rfl) hc (fun i j hi hj _ => by omega) (i0 := 0) (r0 := rTG) (by simp [vT, i6, blksV, blksL]) rfl (by kernel_rfl) (limC e)
noncomputable def knT (f : FuncId) (vs : List V) (h : Hp) : Option (V × Hp) := bif Nat.beq f 36 then (match vs with
  | [.str s] => bif s.eq tD then some (vTb h.n 1195, addG (fun i => Nat.add h.n i) [rTD] h) else bif s.eq tG then some (vTb h.n 1201, addG (fun i => Nat.add h.n i) [rTG] h) else none
  | _ => none) else none
theorem knT_ok {f : FuncId} {vs : List V} {h : Hp} {v : V} {h' : Hp} (e : knT f vs h = some (v, h')) : BringsG fnB f vs h v h' ∧ Fr h h' := by
  unfold knT at e
  cases h1 : Nat.beq f 36 with
  | false => rw [h1] at e; cases e
  | true =>
    have := Nat.eq_of_beq_eq_true h1
    subst this
    rw [h1] at e
    simp only [cond_true] at e
    split at e <;> try (cases e; done)
    rename_i s
    cases eD : s.eq tD with
    | true =>
      rw [eD] at e; simp only [cond_true, Option.some.injEq, Prod.mk.injEq] at e
      obtain ⟨rfl, rfl⟩ := e
      have hb := bringsG (fn := fnB) gTD eD h
      rw [ren_vT] at hb
      exact ⟨hb, @addG_fr (orc fnB Inv) _ [rTD] h⟩
    | false =>
      rw [eD] at e; simp only [cond_false] at e
      cases eG : s.eq tG with
      | true =>
        rw [eG] at e; simp only [cond_true, Option.some.injEq, Prod.mk.injEq] at e
        obtain ⟨rfl, rfl⟩ := e
        have hb := bringsG (fn := fnB) gTG eG h
        rw [ren_vT] at hb
        exact ⟨hb, @addG_fr (orc fnB Inv) _ [rTG] h⟩
      | false =>
        rw [eG] at e; simp only [cond_false] at e
        cases e
noncomputable def fnT (f : FuncId) (vs : List V) (h : Hp) : Option (V × Hp) := match knT f vs h with
  | some p => some p
  | none => fnB f vs h
theorem okT : @OrcOk Tryz.prog (orc fnT Inv) := @over_ok Tryz.prog (orc fnB Inv) okB knT (fun f vs h v h' e => (knT_ok e).2) (fun f vs h v h' e Z w0 w ρ xs H ha => (knT_ok e).1 Z w0 w ρ xs H ha)
end Go.FN

end
/- The reference's reader of texts: at, Lines; the table over what is known (printed). -/
section
open Go Go.Mid Go.Proofs
set_option maxRecDepth 100000
set_option linter.unusedVariables false
namespace Go.FN.QT
noncomputable def GtabB38 : Sh := fun _ vs h => fnT 19 vs h
theorem EtabB38 (I : World → Prop) : @EntOk (orc fnT I) Tryz.prog labs 38 GtabB38 := @entO Tryz.prog (orc fnT I) _ 19 _ fun _ _ _ _ hp => hp
noncomputable def GtabB224 : Sh := fun _ vs h => fnT 112 vs h
theorem EtabB224 (I : World → Prop) : @EntOk (orc fnT I) Tryz.prog labs 224 GtabB224 := @entO Tryz.prog (orc fnT I) _ 112 _ fun _ _ _ _ hp => hp
noncomputable def GtabB204 : Sh := fun _ vs h => fnT 102 vs h
theorem EtabB204 (I : World → Prop) : @EntOk (orc fnT I) Tryz.prog labs 204 GtabB204 := @entO Tryz.prog (orc fnT I) _ 102 _ fun _ _ _ _ hp => hp
noncomputable def GtabB214 : Sh := fun _ vs h => fnT 107 vs h
theorem EtabB214 (I : World → Prop) : @EntOk (orc fnT I) Tryz.prog labs 214 GtabB214 := @entO Tryz.prog (orc fnT I) _ 107 _ fun _ _ _ _ hp => hp
noncomputable def GtabB200 : Sh := fun _ vs h => fnT 100 vs h
theorem EtabB200 (I : World → Prop) : @EntOk (orc fnT I) Tryz.prog labs 200 GtabB200 := @entO Tryz.prog (orc fnT I) _ 100 _ fun _ _ _ _ hp => hp
noncomputable def GtabB288 : Sh := fun _ vs h => fnT 144 vs h
theorem EtabB288 (I : World → Prop) : @EntOk (orc fnT I) Tryz.prog labs 288 GtabB288 := @entO Tryz.prog (orc fnT I) _ 144 _ fun _ _ _ _ hp => hp
noncomputable def tabB : Tr Sh := ((((((((((((((((((((((((((((((((((((((((((((((((((((((((((((((((((((((((((((((((((((((((((((((((((((((((((((((((((((((((((((((((((((((((((((((((((((((((((((((((((((((((((((((((((((((((((((((((((((((((((((((((((((((((((((((((((((((((((((((((((Tr.nil.set 8 G8).set 10 G10).set 22 G22).set 20 G20).set 16 G16).set 1 G1).set 18 G18).set 26 G26).set 3 G3).set 24 G24).set 38 GtabB38).set 36 G36).set 40 G40).set 17 G17).set 46 G46).set 19 G19).set 21 G21).set 23 G23).set 25 G25).set 44 G44).set 27 G27).set 12 G12).set 29 G29).set 31 G31).set 33 G33).set 42 G42).set 35 G35).set 86 G86).set 39 G39).set 84 G84).set 32 G32).set 41 G41).set 43 G43).set 45 G45).set 47 G47).set 49 G49).set 30 G30).set 51 G51).set 53 G53).set 55 G55).set 57 G57).set 59 G59).set 28 G28).set 61 G61).set 63 G63).set 82 G82).set 80 G80).set 76 G76).set 74 G74).set 65 G65).set 67 G67).set 69 G69).set 71 G71).set 73 G73).set 54 G54).set 58 G58).set 75 G75).set 77 G77).set 79 G79).set 56 G56).set 81 G81).set 50 G50).set 48 G48).set 83 G83).set 85 G85).set 87 G87).set 52 G52).set 138 G138).set 148 G148).set 89 G89).set 91 G91).set 93 G93).set 144 G144).set 146 G146).set 95 G95).set 142 G142).set 140 G140).set 132 G132).set 97 G97).set 99 G99).set 136 G136).set 101 G101).set 103 G103).set 134 G134).set 130 G130).set 116 G116).set 107 G107).set 109 G109).set 114 G114).set 111 G111).set 113 G113).set 115 G115).set 110 G110).set 112 G112).set 118 G118).set 108 G108).set 106 G106).set 102 G102).set 100 G100).set 117 G117).set 98 G98).set 96 G96).set 92 G92).set 90 G90).set 121 G121).set 88 G88).set 94 G94).set 104 G104).set 123 G123).set 238 G238).set 236 G236).set 125 G125).set 234 G234).set 127 G127).set 232 G232).set 129 G129).set 131 G131).set 133 G133).set 228 G228).set 135 G135).set 137 G137).set 139 G139).set 141 G141).set 143 G143).set 145 G145).set 230 G230).set 226 G226).set 147 G147).set 202 G202).set 224 GtabB224).set 204 GtabB204).set 206 G206).set 218 G218).set 169 G169).set 216 G216).set 171 G171).set 173 G173).set 214 GtabB214).set 212 G212).set 210 G210).set 208 G208).set 200 GtabB200).set 194 G194).set 184 G184).set 192 G192).set 190 G190).set 182 G182).set 179 G179).set 188 G188).set 181 G181).set 183 G183).set 185 G185).set 187 G187).set 186 G186).set 189 G189).set 191 G191).set 193 G193).set 195 G195).set 197 G197).set 180 G180).set 176 G176).set 178 G178).set 174 G174).set 199 G199).set 172 G172).set 170 G170).set 164 G164).set 154 G154).set 166 G166).set 150 G150).set 162 G162).set 201 G201).set 158 G158).set 152 G152).set 160 G160).set 203 G203).set 156 G156).set 282 G282).set 205 G205).set 207 G207).set 280 G280).set 278 G278).set 211 G211).set 213 G213).set 272 G272).set 217 G217).set 276 G276).set 266 G266).set 274 G274).set 219 G219).set 221 G221).set 270 G270).set 223 G223).set 268 G268).set 225 G225).set 260 G260).set 229 G229).set 231 G231).set 233 G233).set 235 G235).set 237 G237).set 256 G256).set 252 G252).set 239 G239).set 254 G254).set 250 G250).set 241 G241).set 244 G244).set 248 G248).set 246 G246).set 240 G240).set 242 G242).set 320 G320).set 316 G316).set 243 G243).set 245 G245).set 247 G247).set 314 G314).set 249 G249).set 251 G251).set 253 G253).set 302 G302).set 275 G275).set 292 G292).set 296 G296).set 283 G283).set 294 G294).set 290 G290).set 285 G285).set 287 G287).set 286 G286).set 288 GtabB288).set 284 G284).set 289 G289).set 330 G330).set 291 G291).set 326 G326).set 295 G295).set 324 G324).set 297 G297).set 334 G334).set 299 G299)
theorem tabB_ok (I : World → Prop) : @TabOk (orc fnT I) Tryz.prog labs tabB := (tS (tS (tS (tS (tS (tS (tS (tS (tS (tS (tS (tS (tS (tS (tS (tS (tS (tS (tS (tS (tS (tS (tS (tS (tS (tS (tS (tS (tS (tS (tS (tS (tS (tS (tS (tS (tS (tS (tS (tS (tS (tS (tS (tS (tS (tS (tS (tS (tS (tS (tS (tS (tS (tS (tS (tS (tS (tS (tS (tS (tS (tS (tS (tS (tS (tS (tS (tS (tS (tS (tS (tS (tS (tS (tS (tS (tS (tS (tS (tS (tS (tS (tS (tS (tS (tS (tS (tS (tS (tS (tS (tS (tS (tS (tS (tS (tS (tS (tS (tS (tS (tS (tS (tS (tS (tS (tS (tS (tS (tS (tS (tS (tS (tS (tS (tS (tS (tS (tS (tS (tS (tS (tS (tS (tS (tS (tS (tS (tS (tS (tS (tS (tS (tS (tS (tS (tS (tS (tS (tS (tS (tS (tS (tS (tS (tS (tS (tS (tS (tS (tS (tS (tS (tS (tS (tS (tS (tS (tS (tS (tS (tS (tS (tS (tS (tS (tS (tS (tS (tS (tS (tS (tS (tS (tS (tS (tS (tS (tS (tS (tS (tS (tS (tS (tS (tS (tS (tS (tS (tS (tS (tS (tS (tS (tS (tS (tS (tS (tS (tS (tS (tS (tS (tS (tS (tS (tS (tS (tS (tS (tS (tS (tS (tS (tS (tS (tS (tS (tS (tS (tS (tS (tS (tS (tS (tS (tS (tS (tS (tS (tS (tS (tS (tS (tS (tS (tS (tS (tS (tS (tS (tS (@tabOk_nil (orc fnT I) Tryz.prog labs) (E8 fnT I fun _ _ => rfl)) (E10 fnT I fun _ _ => rfl)) (E22 fnT I fun _ _ => rfl)) (E20 fnT I fun _ _ => rfl)) (E16 fnT I fun _ _ => rfl)) (E1 fnT I)) (E18 fnT I fun _ _ => rfl)) (E26 fnT I fun _ _ => rfl)) (E3 fnT I)) (E24 fnT I fun _ _ => rfl)) (EtabB38 I)) (E36 fnT I fun _ _ => rfl)) (E40 fnT I fun _ _ => rfl)) (E17 fnT I)) (E46 fnT I fun _ _ => rfl)) (E19 fnT I)) (E21 fnT I)) (E23 fnT I)) (E25 fnT I)) (E44 fnT I fun _ _ => rfl)) (E27 fnT I)) (E12 fnT I fun _ _ => rfl)) (E29 fnT I)) (E31 fnT I)) (E33 fnT I)) (E42 fnT I fun _ _ => rfl)) (E35 fnT I)) (E86 fnT I fun _ _ => rfl)) (E39 fnT I)) (E84 fnT I fun _ _ => rfl)) (E32 fnT I fun _ _ => rfl)) (E41 fnT I)) (E43 fnT I)) (E45 fnT I)) (E47 fnT I)) (E49 fnT I)) (E30 fnT I fun _ _ => rfl)) (E51 fnT I)) (E53 fnT I)) (E55 fnT I)) (E57 fnT I)) (E59 fnT I)) (E28 fnT I fun _ _ => rfl)) (E61 fnT I)) (E63 fnT I)) (E82 fnT I fun _ _ => rfl)) (E80 fnT I fun _ _ => rfl)) (E76 fnT I fun _ _ => rfl)) (E74 fnT I fun _ _ => rfl)) (E65 fnT I)) (E67 fnT I)) (E69 fnT I)) (E71 fnT I)) (E73 fnT I)) (E54 fnT I fun _ _ => rfl)) (E58 fnT I fun _ _ => rfl)) (E75 fnT I)) (E77 fnT I)) (E79 fnT I)) (E56 fnT I fun _ _ => rfl)) (E81 fnT I)) (E50 fnT I fun _ _ => rfl)) (E48 fnT I fun _ _ => rfl)) (E83 fnT I)) (E85 fnT I)) (E87 fnT I)) (E52 fnT I fun _ _ => rfl)) (E138 fnT I fun _ _ => rfl)) (E148 fnT I fun _ _ => rfl)) (E89 fnT I)) (E91 fnT I)) (E93 fnT I)) (E144 fnT I fun _ _ => rfl)) (E146 fnT I fun _ _ => rfl)) (E95 fnT I)) (E142 fnT I fun _ _ => rfl)) (E140 fnT I fun _ _ => rfl)) (E132 fnT I fun _ _ => rfl)) (E97 fnT I)) (E99 fnT I)) (E136 fnT I fun _ _ => rfl)) (E101 fnT I)) (E103 fnT I)) (E134 fnT I fun _ _ => rfl)) (E130 fnT I fun _ _ => rfl)) (E116 fnT I fun _ _ => rfl)) (E107 fnT I)) (E109 fnT I)) (E114 fnT I fun _ _ => rfl)) (E111 fnT I)) (E113 fnT I)) (E115 fnT I)) (E110 fnT I fun _ _ => rfl)) (E112 fnT I fun _ _ => rfl)) (E118 fnT I fun _ _ => rfl)) (E108 fnT I fun _ _ => rfl)) (E106 fnT I fun _ _ => rfl)) (E102 fnT I fun _ _ => rfl)) (E100 fnT I fun _ _ => rfl)) (E117 fnT I)) (E98 fnT I fun _ _ => rfl)) (E96 fnT I fun _ _ => rfl)) (E92 fnT I fun _ _ => rfl)) (E90 fnT I fun _ _ => rfl)) (E121 fnT I)) (E88 fnT I fun _ _ => rfl)) (E94 fnT I fun _ _ => rfl)) (E104 fnT I fun _ _ => rfl)) (E123 fnT I)) (E238 fnT I fun _ _ => rfl)) (E236 fnT I fun _ _ => rfl)) (E125 fnT I)) (E234 fnT I fun _ _ => rfl)) (E127 fnT I)) (E232 fnT I fun _ _ => rfl)) (E129 fnT I)) (E131 fnT I)) (E133 fnT I)) (E228 fnT I fun _ _ => rfl)) (E135 fnT I)) (E137 fnT I)) (E139 fnT I)) (E141 fnT I)) (E143 fnT I)) (E145 fnT I)) (E230 fnT I fun _ _ => rfl)) (E226 fnT I fun _ _ => rfl)) (E147 fnT I)) (E202 fnT I fun _ _ => rfl)) (EtabB224 I)) (EtabB204 I)) (E206 fnT I fun _ _ => rfl)) (E218 fnT I fun _ _ => rfl)) (E169 fnT I)) (E216 fnT I fun _ _ => rfl)) (E171 fnT I)) (E173 fnT I)) (EtabB214 I)) (E212 fnT I fun _ _ => rfl)) (E210 fnT I fun _ _ => rfl)) (E208 fnT I fun _ _ => rfl)) (EtabB200 I)) (E194 fnT I fun _ _ => rfl)) (E184 fnT I fun _ _ => rfl)) (E192 fnT I fun _ _ => rfl)) (E190 fnT I fun _ _ => rfl)) (E182 fnT I fun _ _ => rfl)) (E179 fnT I)) (E188 fnT I fun _ _ => rfl)) (E181 fnT I)) (E183 fnT I)) (E185 fnT I)) (E187 fnT I)) (E186 fnT I fun _ _ => rfl)) (E189 fnT I)) (E191 fnT I)) (E193 fnT I)) (E195 fnT I)) (E197 fnT I)) (E180 fnT I fun _ _ => rfl)) (E176 fnT I fun _ _ => rfl)) (E178 fnT I fun _ _ => rfl)) (E174 fnT I fun _ _ => rfl)) (E199 fnT I)) (E172 fnT I fun _ _ => rfl)) (E170 fnT I fun _ _ => rfl)) (E164 fnT I fun _ _ => rfl)) (E154 fnT I fun _ _ => rfl)) (E166 fnT I fun _ _ => rfl)) (E150 fnT I fun _ _ => rfl)) (E162 fnT I fun _ _ => rfl)) (E201 fnT I)) (E158 fnT I fun _ _ => rfl)) (E152 fnT I fun _ _ => rfl)) (E160 fnT I fun _ _ => rfl)) (E203 fnT I)) (E156 fnT I fun _ _ => rfl)) (E282 fnT I fun _ _ => rfl)) (E205 fnT I)) (E207 fnT I)) (E280 fnT I fun _ _ => rfl)) (E278 fnT I fun _ _ => rfl)) (E211 fnT I)) (E213 fnT I)) (E272 fnT I fun _ _ => rfl)) (E217 fnT I)) (E276 fnT I fun _ _ => rfl)) (E266 fnT I fun _ _ => rfl)) (E274 fnT I fun _ _ => rfl)) (E219 fnT I)) (E221 fnT I)) (E270 fnT I fun _ _ => rfl)) (E223 fnT I)) (E268 fnT I fun _ _ => rfl)) (E225 fnT I)) (E260 fnT I fun _ _ => rfl)) (E229 fnT I)) (E231 fnT I)) (E233 fnT I)) (E235 fnT I)) (E237 fnT I)) (E256 fnT I fun _ _ => rfl)) (E252 fnT I fun _ _ => rfl)) (E239 fnT I)) (E254 fnT I fun _ _ => rfl)) (E250 fnT I fun _ _ => rfl)) (E241 fnT I)) (E244 fnT I fun _ _ => rfl)) (E248 fnT I fun _ _ => rfl)) (E246 fnT I fun _ _ => rfl)) (E240 fnT I fun _ _ => rfl)) (E242 fnT I fun _ _ => rfl)) (E320 fnT I fun _ _ => rfl)) (E316 fnT I fun _ _ => rfl)) (E243 fnT I)) (E245 fnT I)) (E247 fnT I)) (E314 fnT I fun _ _ => rfl)) (E249 fnT I)) (E251 fnT I)) (E253 fnT I)) (E302 fnT I fun _ _ => rfl)) (E275 fnT I)) (E292 fnT I fun _ _ => rfl)) (E296 fnT I fun _ _ => rfl)) (E283 fnT I)) (E294 fnT I fun _ _ => rfl)) (E290 fnT I fun _ _ => rfl)) (E285 fnT I)) (E287 fnT I)) (E286 fnT I fun _ _ => rfl)) (EtabB288 I)) (E284 fnT I fun _ _ => rfl)) (E289 fnT I)) (E330 fnT I fun _ _ => rfl)) (E291 fnT I)) (E326 fnT I fun _ _ => rfl)) (E295 fnT I)) (E324 fnT I fun _ _ => rfl)) (E297 fnT I)) (E334 fnT I fun _ _ => rfl)) (E299 fnT I))
/-! Lines of a text without any end -/
noncomputable abbrev MB : Nat → List V → Hp → VH := L fnT Inv
theorem in_none : ∀ (m b c : Nat), inG m b c = false → ∀ j, j < m → b / 256 ^ j % 256 ≠ c
  | 0, b, c, h, j, hj => by omega
  | m + 1, b, c, h, 0, hj => by
    rw [inG_succ, Bool.or_eq_false_iff] at h
    intro e
    rw [Nat.pow_zero, Nat.div_one] at e
    rw [e, Nat.beq_refl] at h
    cases h.1
  | m + 1, b, c, h, j + 1, hj => by
    rw [inG_succ, Bool.or_eq_false_iff] at h
    have := in_none m (b / 256) c h.2 j (by omega)
    rw [Nat.div_div_eq_div_mul] at this
    rw [Nat.pow_succ, Nat.mul_comm]; exact this
theorem byte_not {s : Bs} {c : Nat} (h : inF c s = false) {i : Nat} (hi : i < s.n) : s.byte i ≠ c := by
  rw [Bs.byte_eq]; exact in_none s.n s.b c h i hi
theorem at_at (s : Bs) (i : Nat) (hi : i < s.n) (h : Hp) : MB 210 [.str s, .int .i64 (i : Int)] h = some (.int .u8 (s.byte i : Nat), h) := by
  refine F210 fnT Inv (fun _ _ => rfl) ?_
  unfold B210
  rw [intS_at, int_lss, optS_at, show decide ((i : Int) < Int.ofNat 0) = false from decide_eq_false (by simp), guard_ff, lenStr_at, intS_at, int_geq, optS_at, bindS_at,
    show decide ((s.n : Int) ≤ (i : Int)) = false from decide_eq_false (by omega), pick_f, ifS_false, idxStr_at _ _ _ _ hi]
theorem end_at (s : Bs) (i : Nat) (hi : i < s.n) (h1 : inF 10 s = false) (h2 : inF 13 s = false) (h : Hp) : MB 202 [.str s, .int .i64 (i : Int)] h = some (.int .i64 (.ofNat 0), h) := by
  refine F202 fnT Inv (fun _ _ => rfl) ?_
  unfold B202
  have ha := at_at s i hi h
  unfold MB at ha
  have n10 : decide (((s.byte i : Nat) : Int) ≠ Int.ofNat 10) = true := decide_eq_true (by have := byte_not h1 hi; rw [show Int.ofNat 10 = ((10 : Nat) : Int) from rfl]; omega)
  have n13 : decide (((s.byte i : Nat) : Int) ≠ Int.ofNat 13) = true := decide_eq_true (by have := byte_not h2 hi; rw [show Int.ofNat 13 = ((13 : Nat) : Int) from rfl]; omega)
  rw [ha, bindS_at, intS_at, int_neq, optS_at, n10, guard_tt, ha, bindS_at, intS_at, int_neq, optS_at, bindS_at, n13, pick_t, ifS_true]
theorem lines_loop (s : Bs) (hs : s.n ≤ 1000000) (h1 : inF 10 s = false) (h2 : inF 13 s = false) (h : Hp) : ∀ (m i : Nat), i + m = s.n → MB 97 [.str s, .int .i64 (.ofNat 0), .int .i64 (i : Int)] h = some (.int .i64 (.ofNat 0), h)
  | 0, i, e => by
    refine F97 fnT Inv ?_
    unfold B97
    rw [lenStr_at, intS_at, int_lss, optS_at, nat_lt, decide_eq_false (by omega), ifS_false]
  | m + 1, i, e => by
    refine F97 fnT Inv ?_
    unfold B97
    have he := end_at s i (by omega) h1 h2 h
    unfold MB at he
    rw [lenStr_at, intS_at, int_lss, optS_at, nat_lt, decide_eq_true (by omega), ifS_true, he, bindS_at, intS_at, int_gtr, optS_at, show decide (Int.ofNat 0 < Int.ofNat 0) = false from rfl, ifS_false]
    refine F99 fnT Inv ?_
    unfold B99
    rw [intS_at, int_add, optS_at, show (i : Int) + Int.ofNat 1 = ((i + 1 : Nat) : Int) by simp, w64 (by omega)]
    exact lines_loop s hs h1 h2 h m (i + 1) (by omega)
theorem lines_at (s : Bs) (hs : s.n ≤ 1000000) (h1 : inF 10 s = false) (h2 : inF 13 s = false) (h : Hp) : MB 132 [.str s] h = some (.int .i64 (.ofNat 0), h) := by
  refine F132 fnT Inv (fun _ _ => rfl) ?_
  unfold B132
  exact lines_loop s hs h1 h2 h s.n 0 (by omega)


noncomputable def orS (x : Option (V × Hp)) (y : VH) : VH := Option.rec (motive := fun _ => VH) y (fun p => some p) x
theorem entS_or {key : Nat} {sp : List V → Hp → Option (V × Hp)} {G : Sh} (hs : ∀ vs h p, sp vs h = some p → MB key vs h = some p) (hG : @EntS (orc fnT Inv) Tryz.prog labs key G) :
    @EntS (orc fnT Inv) Tryz.prog labs key (fun ih vs h => orS (sp vs h) (G ih vs h)) := by
  intro g hg vs h p e
  change orS (sp vs h) (G g vs h) = some p at e
  cases hx : sp vs h with
  | some q => rw [hx] at e; exact hs _ _ _ (hx.trans e)
  | none => rw [hx] at e; exact hG g hg vs h p e
noncomputable def whenH (b : Bool) (v : V) (h : Hp) : Option (V × Hp) := Bool.rec (motive := fun _ => Option (V × Hp)) none (some (v, h)) b
theorem whenH_some {b : Bool} {v : V} {h : Hp} {p : V × Hp} (e : whenH b v h = some p) : b = true ∧ p = (v, h) := by
  cases b with
  | false => cases e
  | true => exact ⟨rfl, (Option.some.inj e).symm⟩
noncomputable def sp132 (vs : List V) (h : Hp) : Option (V × Hp) := match vs with
  | [.str s] => whenH (small s && (!(inF 10 s) && !(inF 13 s))) (.int .i64 (.ofNat 0)) h
  | _ => none
noncomputable def sp210 (vs : List V) (h : Hp) : Option (V × Hp) := match vs with
  | [.str s, .int .i64 (.ofNat i)] => whenH (Nat.ble (Nat.succ i) s.n) (.int .u8 (.ofNat (s.byte i))) h
  | _ => none
theorem sp132_ok (vs : List V) (h : Hp) (p : V × Hp) (e : sp132 vs h = some p) : MB 132 vs h = some p := by
  unfold sp132 at e
  split at e <;> try (cases e; done)
  rename_i s
  obtain ⟨hb, rfl⟩ := whenH_some e
  simp only [Bool.and_eq_true, Bool.not_eq_true'] at hb
  exact lines_at s (Nat.le_of_ble_eq_true hb.1) hb.2.1 hb.2.2 h
theorem sp210_ok (vs : List V) (h : Hp) (p : V × Hp) (e : sp210 vs h = some p) : MB 210 vs h = some p := by
  unfold sp210 at e
  split at e <;> try (cases e; done)
  rename_i s i
  obtain ⟨hb, rfl⟩ := whenH_some e
  exact at_at s i (Nat.le_of_ble_eq_true hb) h
/-! what stands at the reader's place -/
noncomputable def badF (e : Nat) : Bool := Bool.not (Nat.beq e 0)
theorem bad_at {b o e : Nat} {h : Hp} (he : h.cell b (o + 2) = some (.int .i64 (.ofNat e))) : MB 82 [.ptr b o] h = some (.bool (badF e), h) := by
  refine F82 fnT Inv (fun _ _ => rfl) ?_
  unfold B82
  rw [nil_ptr, addr_at, addr_at, load1_at, show o + 2 + 0 = o + 2 from rfl, he, optS_at, intS_at, int_neq, optS_at]
  have : decide (Int.ofNat e ≠ Int.ofNat 0) = badF e := by
    unfold badF
    cases e with
    | zero => rfl
    | succ e => simp [Nat.beq]; omega
  rw [this]
noncomputable def isWS (k : Nat) : Bool := Bool.rec (motive := fun _ => Bool) (Nat.beq k 3) true (Nat.beq k 2)
theorem is_bad {b o e : Nat} {s : Bs} {h : Hp} (he : h.cell b (o + 2) = some (.int .i64 (.ofNat e))) (hb : Nat.beq e 0 = false) : MB 144 [.ptr b o, .str s] h = some (.bool false, h) := by
  refine F144 fnT Inv (fun _ _ => rfl) ?_
  unfold B144
  have h1 := bad_at he
  unfold MB at h1
  rw [h1, bindS_at, not_at]
  unfold badF
  rw [hb]
  simp only [Bool.not_false, Bool.not_true]
  rw [guard_ft, guard_u, guard_ft, pick_f, guard_ft, pick_f]
theorem is_at {b o e : Nat} {s t : Bs} {h : Hp} {tb tf tn c : Nat} {g : Bool} {k : Nat} (he : h.cell b (o + 2) = some (.int .i64 (.ofNat e))) (hb : Nat.beq e 0 = true) (ht : h.cell b o = some (.slice tb tf tn c g)) (hn : 0 < tn)
    (hk : h.cell tb tf = some (.int .u8 (.ofNat k))) (hs : isWS k = true → h.cell tb (tf + 1) = some (.str t)) : MB 144 [.ptr b o, .str s] h = some (.bool (Bool.rec (motive := fun _ => Bool) false (t.eq s) (isWS k)), h) := by
  refine F144 fnT Inv (fun _ _ => rfl) ?_
  unfold B144
  have h1 := bad_at he
  unfold MB at h1
  have k2 : decide (Int.ofNat k = Int.ofNat 2) = Nat.beq k 2 := by rw [Bool.eq_iff_iff]; simp; omega
  have k3 : decide (Int.ofNat k = Int.ofNat 3) = Nat.beq k 3 := by rw [Bool.eq_iff_iff]; simp; omega
  have i0 : ∀ K : V → VH, idxS 4 (.slice tb tf tn c g) (.int .i64 (.ofNat 0)) K = K (.ptr tb tf) := fun K => by
    have := idx_at 4 tb tf tn c g .i64 0 K hn
    rw [Nat.zero_mul, Nat.add_zero] at this
    exact this
  rw [h1, bindS_at, not_at]
  unfold badF
  rw [hb]
  simp only [Bool.not_false, Bool.not_true]
  rw [guard_tt, nil_ptr, addr_at, load1_at, Nat.add_zero, ht, optS_at, i0, addr_at, load1_at, Nat.add_zero, hk, optS_at, intS_at, int_eql, optS_at, bindS_at, k2]
  have tail : ∀ v : Bool, isWS k = v → optS (pickV (.bool true) (.bool v) (.bool false)) (fun v24 =>
      guardS v24 true (nilS (.ptr b o) fun v25 =>
        addrS 0 v25 fun v26 =>
        load1 v26 h fun v27 =>
        idxS 4 v27 (.int .i64 (.ofNat 0)) fun v28 =>
        addrS 1 v28 fun v29 =>
        load1 v29 h fun v30 =>
        strS .eql v30 (.str s) fun v31 =>
        some (v31, h)) h fun v32 h33 =>
        optS (pickV v24 v32 (.bool false)) fun v34 =>
        some (v34, h33)) = some (V.bool (Bool.rec (motive := fun _ => Bool) false (t.eq s) v), h) := by
    intro v hv
    rw [pick_t]
    cases v with
    | false => rw [guard_ft, pick_f]
    | true =>
      rw [guard_tt, nil_ptr, addr_at, load1_at, Nat.add_zero, ht, optS_at, i0, addr_at, load1_at, hs hv, optS_at, str_at]
      show bindS (optS (some (.bool (t.eq s))) _) _ = _
      rw [optS_at, bindS_at, pick_t]
  cases h2 : Nat.beq k 2 with
  | true =>
    rw [guard_tf, guard_tt, pick_t]
    show bindS (some (.bool true, h)) _ = _
    rw [bindS_at]
    have hv : isWS k = true := by unfold isWS; rw [h2]
    rw [hv]
    exact tail true hv
  | false =>
    have hv : isWS k = Nat.beq k 3 := by unfold isWS; rw [h2]
    rw [guard_ff, nil_ptr, addr_at, load1_at, Nat.add_zero, ht, optS_at, i0, addr_at, load1_at, Nat.add_zero, hk, optS_at, intS_at, int_eql, optS_at, bindS_at, k3, guard_tt, pick_f]
    show bindS (some (.bool (Nat.beq k 3), h)) _ = _
    rw [bindS_at, hv]
    exact tail _ hv
noncomputable def sp82 (vs : List V) (h : Hp) : Option (V × Hp) := match vs with
  | [.ptr b o] => (match h.cell b (o + 2) with
    | some (.int .i64 (.ofNat e)) => some (.bool (badF e), h)
    | _ => none)
  | _ => none
noncomputable def sp144 (vs : List V) (h : Hp) : Option (V × Hp) := match vs with
  | [.ptr b o, .str s] => (match h.cell b (o + 2) with
    | some (.int .i64 (.ofNat e)) => bif Nat.beq e 0 then (match h.cell b o with
      | some (.slice tb tf tn _ _) => bif Nat.blt 0 tn then (match h.cell tb tf with
        | some (.int .u8 (.ofNat k)) => bif isWS k then (match h.cell tb (tf + 1) with
          | some (.str t) => some (.bool (t.eq s), h)
          | _ => none) else some (.bool false, h)
        | _ => none) else none
      | _ => none) else some (.bool false, h)
    | _ => none)
  | _ => none
theorem sp82_ok (vs : List V) (h : Hp) (p : V × Hp) (e : sp82 vs h = some p) : MB 82 vs h = some p := by
  unfold sp82 at e
  split at e <;> try (cases e; done)
  split at e <;> try (cases e; done)
  rename_i he
  rw [← e]; exact bad_at he
theorem sp144_ok (vs : List V) (h : Hp) (p : V × Hp) (e : sp144 vs h = some p) : MB 144 vs h = some p := by
  unfold sp144 at e
  split at e <;> try (cases e; done)
  split at e <;> try (cases e; done)
  rename_i he
  rename_i b o s x er
  cases hb : Nat.beq er 0 with
  | false =>
    rw [hb] at e
    rw [← (show some (V.bool false, h) = some p from e)]
    exact is_bad he hb
  | true =>
    rw [hb] at e
    simp only [cond_true] at e
    split at e <;> try (cases e; done)
    rename_i tb tf tn c g ht
    cases hn : Nat.blt 0 tn with
    | false => rw [hn] at e; cases e
    | true =>
      rw [hn] at e
      simp only [cond_true] at e
      have hn := Nat.le_of_ble_eq_true hn
      split at e <;> try (cases e; done)
      rename_i k hk
      cases hw : isWS k with
      | false =>
        rw [hw] at e
        have := is_at (s := s) (t := ⟨0, 0⟩) he hb ht hn hk (fun h => by rw [hw] at h; cases h)
        rw [hw] at this
        rw [this]; exact e
      | true =>
        rw [hw] at e
        simp only [cond_true] at e
        split at e <;> try (cases e; done)
        rename_i t hs
        have := is_at (s := s) he hb ht hn hk (fun _ => hs)
        rw [hw] at this
        rw [this]; exact e
noncomputable def G82' : Sh := fun ih vs h => orS (sp82 vs h) (G82 ih vs h)
noncomputable def G144' : Sh := fun ih vs h => orS (sp144 vs h) (G144 ih vs h)
noncomputable def G132' : Sh := fun ih vs h => orS (sp132 vs h) (G132 ih vs h)
noncomputable def G210' : Sh := fun ih vs h => orS (sp210 vs h) (G210 ih vs h)
noncomputable def tabD : Tr Sh := (((tabB.set 132 G132').set 210 G210').set 82 G82').set 144 G144'
theorem tabD_ok : @TabS (orc fnT Inv) Tryz.prog labs tabD :=
  @TabS.set Tryz.prog (orc fnT Inv) _ _ _ _ (@TabS.set Tryz.prog (orc fnT Inv) _ _ _ _ (@TabS.set Tryz.prog (orc fnT Inv) _ _ _ _ (@TabS.set Tryz.prog (orc fnT Inv) _ _ _ _ (@TabOk.toS Tryz.prog (orc fnT Inv) _ _ (tabB_ok Inv))
    (entS_or sp132_ok (@EntOk.toS Tryz.prog (orc fnT Inv) _ _ _ (E132 fnT Inv fun _ _ => rfl))))
    (entS_or sp210_ok (@EntOk.toS Tryz.prog (orc fnT Inv) _ _ _ (E210 fnT Inv fun _ _ => rfl))))
    (entS_or sp82_ok (@EntOk.toS Tryz.prog (orc fnT Inv) _ _ _ (E82 fnT Inv fun _ _ => rfl))))
    (entS_or sp144_ok (@EntOk.toS Tryz.prog (orc fnT Inv) _ _ _ (E144 fnT Inv fun _ _ => rfl)))
noncomputable def gX : Sh := fun _ vs h => fnT 36 vs h
noncomputable def tabC : Tr Sh := tabD.set 72 gX
theorem tabC_ok : @TabS (orc fnT Inv) Tryz.prog labs tabC :=
  @TabS.set Tryz.prog (orc fnT Inv) _ _ _ _ tabD_ok (@EntOk.toS Tryz.prog (orc fnT Inv) _ _ _ (@entO Tryz.prog (orc fnT Inv) _ 36 _ fun _ _ _ _ hp => hp))
noncomputable abbrev go (key : Nat) (vs : List V) : VH := gTab tabC 1000000 key vs h0
theorem limC {key : Nat} {vs : List V} {p : V × Hp} (e : go key vs = some p) : @lim Tryz.prog (orc fnT Inv) labs key vs h0 = some p := @lim_tabS Tryz.prog (orc fnT Inv) labs tabC tabC_ok _ _ _ _ _ e
end Go.FN.QT

end
