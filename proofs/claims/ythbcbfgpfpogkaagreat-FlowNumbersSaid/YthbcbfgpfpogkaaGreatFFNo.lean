import Derived.Test.YthbcbfgpfpogkaaGreatFFNa1
import Derived.IntWalk
import Derived.KernelRfl
set_option linter.all false
set_option warn.classDefReducibility false
/- The reference's reader of texts: small functions of plain values, walked for every value: in, starts, Word, sign. -/
section
open Go Go.Mid Go.Proofs
set_option maxRecDepth 100000
set_option linter.unusedVariables false
namespace Go.FN
noncomputable abbrev M : Nat → List V → Hp → VH := L fnA Inv
theorem w64 {n : Nat} (h : n ≤ 9223372036854775807) : IntKind.i64.wrap (n : Int) = (n : Int) := IntWalk.i64_in n ⟨by omega, by omega⟩
theorem nat_lt {i n : Nat} : decide ((i : Int) < (n : Int)) = decide (i < n) := by rw [Bool.eq_iff_iff]; simp
theorem nat_eq {i n : Nat} : decide ((i : Int) = (n : Int)) = decide (i = n) := by rw [Bool.eq_iff_iff]; simp only [decide_eq_true_eq]; omega
/-! in -/
noncomputable def inG (m : Nat) : Nat → Nat → Bool := Nat.rec (motive := fun _ => Nat → Nat → Bool) (fun _ _ => false) (fun _ ih b c => Bool.rec (motive := fun _ => Bool) (ih (Nat.div b 256) c) true (Nat.beq (Nat.mod b 256) c)) m
theorem inG_succ (m b c : Nat) : inG (m + 1) b c = (Nat.beq (b % 256) c || inG m (b / 256) c) := by
  show Bool.rec (motive := fun _ => Bool) (inG m (b / 256) c) true (Nat.beq (b % 256) c) = _
  cases Nat.beq (b % 256) c <;> rfl
theorem in_loop (c : Nat) (s : Bs) (hs : s.n ≤ 1000000) (h : Hp) : ∀ (m i : Nat), i + m = s.n → M 177 [.int .u8 (c : Int), .str s, .int .i64 (i : Int)] h = some (.bool (inG m (s.b / 256 ^ i) c), h)
  | 0, i, e => by
    refine F177 fnA Inv ?_
    unfold B177
    rw [lenStr_at, intS_at, int_lss, optS_at, nat_lt, decide_eq_false (by omega), ifS_false]
    rfl
  | m + 1, i, e => by
    refine F177 fnA Inv ?_
    unfold B177
    rw [lenStr_at, intS_at, int_lss, optS_at, nat_lt, decide_eq_true (by omega), ifS_true, idxStr_at _ _ _ _ (by omega), intS_at, int_eql, optS_at, nat_eq, inG_succ, ← Bs.byte_eq]
    by_cases hb : s.byte i = c
    · rw [decide_eq_true hb, ifS_true, hb, Nat.beq_refl]; rfl
    · rw [decide_eq_false hb, ifS_false, intS_at, int_add, optS_at, show (i : Int) + Int.ofNat 1 = ((i + 1 : Nat) : Int) by simp, w64 (by omega)]
      have ih := in_loop c s hs h m (i + 1) (by omega)
      show M 177 [.int .u8 (c : Int), .str s, .int .i64 ((i + 1 : Nat) : Int)] h = _
      rw [ih]
      rw [show Nat.beq (s.byte i) c = false from by
        cases e : Nat.beq (s.byte i) c with
        | false => rfl
        | true => exact (hb (Nat.eq_of_beq_eq_true e)).elim]
      rw [Nat.div_div_eq_div_mul, Nat.pow_succ]; rfl
noncomputable def inF (c : Nat) (s : Bs) : Bool := inG s.n s.b c
theorem in_at (c : Nat) (s : Bs) (hs : s.n ≤ 1000000) (h : Hp) : M 200 [.int .u8 (c : Int), .str s] h = some (.bool (inF c s), h) := by
  refine F200 fnA Inv (fun _ _ => rfl) ?_
  unfold B200
  have := in_loop c s hs h s.n 0 (by omega)
  rw [Nat.pow_zero, Nat.div_one] at this
  exact this
/-! starts -/
noncomputable def stF (s : Bs) (i : Nat) (t : Bs) : Bool := Bool.rec (motive := fun _ => Bool) false ((s.cut i (Nat.add i t.n)).eq t) (Nat.ble (Nat.add i t.n) s.n)
theorem st_at (s : Bs) (i : Nat) (t : Bs) (hi : i ≤ 1000000) (ht : t.n ≤ 1000000) (h : Hp) : M 204 [.str s, .int .i64 (i : Int), .str t] h = some (.bool (stF s i t), h) := by
  refine F204 fnA Inv (fun _ _ => rfl) ?_
  unfold B204
  rw [lenStr_at, intS_at, int_add, optS_at, show (i : Int) + (t.n : Int) = ((i + t.n : Nat) : Int) by simp, w64 (by omega), lenStr_at, intS_at, int_leq, optS_at]
  unfold stF
  by_cases hle : i + t.n ≤ s.n
  · rw [decide_eq_true (show ((i + t.n : Nat) : Int) ≤ (s.n : Int) by omega), guard_tt, lenStr_at, intS_at, int_add, optS_at,
      show (i : Int) + (t.n : Int) = ((i + t.n : Nat) : Int) by simp, w64 (by omega)]
    have hc : slStrK (some (.int .i64 (i : Int))) (some (.int .i64 ((i + t.n : Nat) : Int))) (.str s) = fun k : V → VH => k (.str (s.cut i (i + t.n))) := by
      funext k
      show whenE (Nat.ble i (i + t.n) && Nat.ble (i + t.n) s.n) (k (.str (s.cut i (i + t.n)))) = _
      rw [Nat.ble_eq_true_of_le (show i ≤ i + t.n by omega), Nat.ble_eq_true_of_le hle]; rfl
    rw [hc]
    show bindS (strS .eql (.str (s.cut i (i + t.n))) (.str t) fun v7 => some (v7, h)) _ = _
    rw [str_at]
    show bindS (optS (some (.bool ((s.cut i (i + t.n)).eq t))) _) _ = _
    rw [optS_at, bindS_at, pick_t]
    show _ = some (V.bool (Bool.rec (motive := fun _ => Bool) false ((s.cut i (i + t.n)).eq t) (Nat.ble (i + t.n) s.n)), h)
    rw [Nat.ble_eq_true_of_le hle]
  · rw [decide_eq_false (show ¬ ((i + t.n : Nat) : Int) ≤ (s.n : Int) by omega)]
    rw [guard_ft]
    rw [pick_f]
    show _ = some (V.bool (Bool.rec (motive := fun _ => Bool) false ((s.cut i (i + t.n)).eq t) (Nat.ble (i + t.n) s.n)), h)
    rw [show Nat.ble (i + t.n) s.n = false from by
      cases e : Nat.ble (i + t.n) s.n with
      | false => rfl
      | true => exact (hle (Nat.le_of_ble_eq_true e)).elim]
/-! Word -/
/-- a row of texts. -/
def Row (h : Hp) (b : Nat) (ws : List Bs) : Prop := ∀ (i : Nat) w, ws[i]? = some w → h.cell b i = some (.str w)
noncomputable def anyF (s : Bs) (ws : List Bs) : Bool := List.rec (motive := fun _ => Bool) false (fun w _ ih => Bool.rec (motive := fun _ => Bool) ih true (w.eq s)) ws
theorem word_loop (s : Bs) (b : Nat) (c : Nat) (g : Bool) (h : Hp) (ws : List Bs) (hr : Row h b ws) (hn : ws.length ≤ 1000000) : ∀ (m i : Nat), i + m = ws.length →
    M 175 [.str s, .slice b 0 ws.length c g, .int .i64 (i : Int)] h = some (.bool (anyF s (ws.drop i)), h)
  | 0, i, e => by
    refine F175 fnA Inv ?_
    unfold B175
    rw [lenSl_at, intS_at, int_lss, optS_at, nat_lt, decide_eq_false (by omega), ifS_false, List.drop_eq_nil_of_le (by omega)]
    rfl
  | m + 1, i, e => by
    have hi : i < ws.length := by omega
    refine F175 fnA Inv ?_
    unfold B175
    rw [lenSl_at, intS_at, int_lss, optS_at, nat_lt, decide_eq_true hi, ifS_true, idx_at _ _ _ _ _ _ _ _ _ hi, load1_at, show 0 + i * 1 = i by omega, hr i ws[i] (List.getElem?_eq_getElem hi), optS_at, str_at]
    show optS (some (.bool (ws[i].eq s))) _ = _
    rw [optS_at, List.drop_eq_getElem_cons hi]
    show _ = some (V.bool (Bool.rec (motive := fun _ => Bool) (anyF s (ws.drop (i + 1))) true (ws[i].eq s)), h)
    cases he : ws[i].eq s with
    | true => rw [ifS_true]
    | false =>
      rw [ifS_false, intS_at, int_add, optS_at, show (i : Int) + Int.ofNat 1 = ((i + 1 : Nat) : Int) by simp, w64 (by omega)]
      have ih := word_loop s b c g h ws hr hn m (i + 1) (by omega)
      show M 175 [.str s, .slice b 0 ws.length c g, .int .i64 ((i + 1 : Nat) : Int)] h = _
      rw [ih]
end Go.FN

end
/- FlowNumbers: the table of its shallow texts (printed). -/
section
open Go Go.Mid Go.Proofs
set_option maxRecDepth 100000
namespace Go.FN
noncomputable def GtabA38 : Sh := fun _ vs h => fnA 19 vs h
noncomputable def GtabA288 : Sh := fun _ vs h => fnA 144 vs h
noncomputable def tabA : Tr Sh := (((((((((((((((((((((((((((((((((((((((((((((((((((((((((((((((((((((((((((((((((((((((((((((((((((((((((((((((((((((((((((((((((((((((((((((((((((((((((((((((((((((((((((((((((((((((((((((((((((((((((((((((((((((((((((((((((((((((((((((((((((((((((Tr.nil.set 8 G8).set 10 G10).set 22 G22).set 20 G20).set 16 G16).set 1 G1).set 18 G18).set 26 G26).set 3 G3).set 24 G24).set 38 GtabA38).set 36 G36).set 40 G40).set 17 G17).set 46 G46).set 19 G19).set 21 G21).set 23 G23).set 25 G25).set 44 G44).set 27 G27).set 12 G12).set 29 G29).set 31 G31).set 33 G33).set 42 G42).set 35 G35).set 86 G86).set 39 G39).set 84 G84).set 32 G32).set 41 G41).set 43 G43).set 45 G45).set 47 G47).set 49 G49).set 30 G30).set 51 G51).set 53 G53).set 55 G55).set 57 G57).set 59 G59).set 28 G28).set 61 G61).set 63 G63).set 82 G82).set 80 G80).set 76 G76).set 74 G74).set 65 G65).set 67 G67).set 72 G72).set 69 G69).set 71 G71).set 73 G73).set 54 G54).set 58 G58).set 75 G75).set 77 G77).set 79 G79).set 56 G56).set 81 G81).set 50 G50).set 48 G48).set 83 G83).set 85 G85).set 87 G87).set 52 G52).set 138 G138).set 148 G148).set 89 G89).set 91 G91).set 93 G93).set 144 G144).set 146 G146).set 95 G95).set 142 G142).set 140 G140).set 132 G132).set 97 G97).set 99 G99).set 136 G136).set 101 G101).set 103 G103).set 134 G134).set 130 G130).set 116 G116).set 107 G107).set 109 G109).set 114 G114).set 111 G111).set 113 G113).set 115 G115).set 110 G110).set 112 G112).set 118 G118).set 108 G108).set 106 G106).set 102 G102).set 100 G100).set 117 G117).set 98 G98).set 96 G96).set 92 G92).set 90 G90).set 121 G121).set 88 G88).set 94 G94).set 104 G104).set 123 G123).set 238 G238).set 236 G236).set 125 G125).set 234 G234).set 127 G127).set 232 G232).set 129 G129).set 131 G131).set 133 G133).set 228 G228).set 135 G135).set 137 G137).set 139 G139).set 141 G141).set 143 G143).set 145 G145).set 230 G230).set 226 G226).set 147 G147).set 202 G202).set 224 G224).set 149 G149).set 151 G151).set 204 G204).set 206 G206).set 218 G218).set 169 G169).set 216 G216).set 171 G171).set 173 G173).set 214 G214).set 175 G175).set 212 G212).set 210 G210).set 208 G208).set 200 G200).set 177 G177).set 194 G194).set 184 G184).set 192 G192).set 190 G190).set 182 G182).set 179 G179).set 188 G188).set 181 G181).set 183 G183).set 185 G185).set 187 G187).set 186 G186).set 189 G189).set 191 G191).set 193 G193).set 195 G195).set 197 G197).set 180 G180).set 176 G176).set 178 G178).set 174 G174).set 199 G199).set 172 G172).set 170 G170).set 164 G164).set 154 G154).set 166 G166).set 150 G150).set 162 G162).set 201 G201).set 158 G158).set 152 G152).set 160 G160).set 203 G203).set 156 G156).set 282 G282).set 205 G205).set 207 G207).set 280 G280).set 278 G278).set 211 G211).set 213 G213).set 272 G272).set 217 G217).set 276 G276).set 266 G266).set 274 G274).set 219 G219).set 221 G221).set 270 G270).set 223 G223).set 268 G268).set 225 G225).set 264 G264).set 260 G260).set 229 G229).set 231 G231).set 233 G233).set 235 G235).set 237 G237).set 258 G258).set 256 G256).set 252 G252).set 239 G239).set 254 G254).set 250 G250).set 241 G241).set 244 G244).set 248 G248).set 246 G246).set 240 G240).set 242 G242).set 320 G320).set 316 G316).set 243 G243).set 245 G245).set 247 G247).set 314 G314).set 249 G249).set 251 G251).set 253 G253).set 302 G302).set 275 G275).set 292 G292).set 296 G296).set 283 G283).set 294 G294).set 290 G290).set 285 G285).set 287 G287).set 286 G286).set 288 GtabA288).set 284 G284).set 289 G289).set 330 G330).set 291 G291).set 326 G326).set 295 G295).set 324 G324).set 297 G297).set 334 G334).set 299 G299)
end Go.FN

end
/- The reference's reader of texts: Word, sign, Lines; what is known so. -/
section
open Go Go.Mid Go.Proofs
set_option maxRecDepth 100000
set_option linter.unusedVariables false
namespace Go.FN
noncomputable def words : List Bs := [⟨3, 6581857⟩, ⟨5, 461195539042⟩, ⟨2, 28516⟩, ⟨4, 1702063205⟩, ⟨6, 112602859662437⟩, ⟨3, 6581861⟩, ⟨5, 435728179558⟩, ⟨3, 7499622⟩, ⟨8, 7957695015192261990⟩, ⟨4, 1869901671⟩, ⟨2, 26217⟩, ⟨2, 28265⟩, ⟨5, 465490374508⟩, ⟨3, 7104878⟩, ⟨3, 7630702⟩, ⟨2, 29295⟩, ⟨6, 127961662514546⟩, ⟨6, 121437875889522⟩, ⟨4, 1852139636⟩, ⟨4, 1702195828⟩, ⟨5, 465625706101⟩, ⟨5, 435610544247⟩]
noncomputable def signs : List Bs := [⟨1, 35⟩, ⟨1, 37⟩, ⟨1, 38⟩, ⟨1, 40⟩, ⟨1, 41⟩, ⟨1, 42⟩, ⟨1, 43⟩, ⟨1, 44⟩, ⟨1, 45⟩, ⟨1, 46⟩, ⟨2, 11822⟩, ⟨3, 3026478⟩, ⟨2, 12079⟩, ⟨1, 58⟩, ⟨2, 14906⟩, ⟨1, 59⟩, ⟨1, 60⟩, ⟨2, 15420⟩, ⟨2, 15676⟩, ⟨1, 61⟩, ⟨2, 15677⟩, ⟨1, 62⟩, ⟨2, 15678⟩, ⟨2, 15934⟩, ⟨1, 91⟩, ⟨1, 93⟩, ⟨1, 123⟩, ⟨1, 124⟩, ⟨1, 125⟩, ⟨1, 126⟩, ⟨2, 15742⟩]
theorem row_new (h : Hp) (e : TypeId) (ws : List Bs) (g : Bool) : Row (h.newRow e (ws.map V.str) g) h.n ws := by
  intro i w hw
  rw [newRow_cell, if_pos rfl, List.getElem?_map, hw]; rfl
theorem words_at (h : Hp) : M 258 [] h = some (.slice h.n 0 22 22 false, h.newRow 9 (words.map V.str) false) := by
  refine F258 fnA Inv (fun _ _ => rfl) ?_
  kernel_rfl
theorem signs_at (h : Hp) : M 264 [] h = some (.slice h.n 0 31 31 false, h.newRow 9 (signs.map V.str) false) := by
  refine F264 fnA Inv (fun _ _ => rfl) ?_
  kernel_rfl
noncomputable def wordF (s : Bs) : Bool := anyF s words
theorem word_at (s : Bs) (h : Hp) : ∃ h', M 214 [.str s] h = some (.bool (wordF s), h') := by
  refine ⟨h.newRow 9 (words.map V.str) false, F214 fnA Inv (fun _ _ => rfl) ?_⟩
  unfold B214
  have e := words_at h
  unfold M at e
  rw [e, bindS_at]
  exact word_loop s h.n 22 false (h.newRow 9 (words.map V.str) false) words (row_new h 9 words false) (by show 22 ≤ 1000000; omega) 22 0 rfl

/-! sign -/
noncomputable def zeroT : List V := [.int .u8 (.ofNat 0), .str ⟨0, 0⟩, .int .i64 (.ofNat 0), .int .i64 (.ofNat 0)]
noncomputable def better (s : Bs) (i : Nat) (w b : Bs) : Bool := Bool.rec (motive := fun _ => Bool) false (Nat.ble (Nat.succ b.n) w.n) (stF s i w)
noncomputable def bestF (s : Bs) (i : Nat) (ws : List Bs) : Bs → Bs := List.rec (motive := fun _ => Bs → Bs) (fun b => b) (fun w _ ih b => Bool.rec (motive := fun _ => Bs) (ih b) (ih w) (better s i w b)) ws
noncomputable def sgR (s : Bs) (i : Nat) (b : Bs) : V :=
  Bool.rec (motive := fun _ => V) (.tuple [.agg [.int .u8 (.ofNat 3), .str b, .int .i64 (.ofNat 0), .int .i64 (.ofNat 0)], .int .i64 (.ofNat b.n), .int .i64 (.ofNat 0)])
    (.tuple [.agg zeroT, .int .i64 (.ofNat 0), .int .i64 (.ofNat (Bool.rec (motive := fun _ => Nat) (Bool.rec (motive := fun _ => Nat) 30 31 (Nat.beq (s.byte i) 94)) 31 (Nat.beq (s.byte i) 47)))]) (b.eq ⟨0, 0⟩)
theorem sign_end (s : Bs) (i : Nat) (b : Bs) (hi : i < s.n) (t r c : Nat) (g : Bool) (h : Hp) (ht : h.wide t = 4) (n k : Nat) (hk : n ≤ k) :
    ∃ h', M 149 [.str s, .int .i64 (i : Int), .ptr t 0, .str b, .slice r 0 n c g, .int .i64 (k : Int)] h = some (sgR s i b, h') := by
  have hw : ∀ a b c d : V, (h.wrL t 0 [a, b, c, d]).cells t 0 4 = some [a, b, c, d] := by
    intro a b c d
    have hc : ∀ j, j < 4 → (h.wrL t 0 [a, b, c, d]).cell t j = [a, b, c, d][j]? := by
      intro j hj
      rw [wrL_cell (by rw [ht]; exact Nat.le_refl _) (by rw [ht]; decide), if_pos ⟨rfl, Nat.zero_le _, by simpa using hj⟩, Nat.sub_zero]
    simp only [Hp.cells, Nat.zero_add, hc 0 (by decide), hc 1 (by decide), hc 2 (by decide), hc 3 (by decide), List.getElem?_cons_zero, List.getElem?_cons_succ, Nat.reduceAdd]
  cases hb : b.eq ⟨0, 0⟩ with
  | false =>
    refine ⟨h.wrL t 0 [.int .u8 (.ofNat 3), .str b, .int .i64 (.ofNat 0), .int .i64 (.ofNat 0)], F149 fnA Inv ?_⟩
    unfold B149
    rw [lenSl_at, intS_at, int_lss, optS_at, nat_lt, decide_eq_false (by omega), ifS_false, str_at]
    show optS (some (.bool (Bool.not (b.eq ⟨0, 0⟩)))) _ = _
    rw [hb, optS_at]
    show ifS (.bool true) _ _ = _
    rw [ifS_true]
    show bindS (some (.agg [.int .u8 (.ofNat 3), .str b, .int .i64 (.ofNat 0), .int .i64 (.ofNat 0)], h)) _ = _
    rw [bindS_at, lenStr_at, storeN_at (s := 4) _ (by decide) rfl rfl (by rw [ht]; exact Nat.le_refl _), loadN_at _ _ _ _ _ (by decide), hw, lstE_at]
    unfold sgR
    rw [hb]; rfl
  | true =>
    have hbyte : ∀ k : V → VH, idxStr (.str s) (.int .i64 (i : Int)) k = k (.int .u8 (s.byte i : Nat)) := fun k => idxStr_at _ _ _ _ hi
    refine ⟨h.wrL t 0 zeroT, F149 fnA Inv ?_⟩
    unfold B149
    rw [lenSl_at, intS_at, int_lss, optS_at, nat_lt, decide_eq_false (by omega), ifS_false, str_at]
    show optS (some (.bool (Bool.not (b.eq ⟨0, 0⟩)))) _ = _
    rw [hb, optS_at]
    show ifS (.bool false) _ _ = _
    rw [ifS_false, hbyte, intS_at, int_eql, optS_at]
    have e47 : decide (((s.byte i : Nat) : Int) = Int.ofNat 47) = Nat.beq (s.byte i) 47 := by
      rw [show Int.ofNat 47 = ((47 : Nat) : Int) from rfl, nat_eq, Bool.eq_iff_iff]; simp
    have e94 : decide (((s.byte i : Nat) : Int) = Int.ofNat 94) = Nat.beq (s.byte i) 94 := by
      rw [show Int.ofNat 94 = ((94 : Nat) : Int) from rfl, nat_eq, Bool.eq_iff_iff]; simp
    have tail : ∀ e : Nat, bindS (some (V.agg zeroT, h)) (fun v53 h54 => storeN 4 (.ptr t 0) v53 h54 fun h55 => loadN 4 (.ptr t 0) h55 fun v56 => some (.tuple [v56, .int .i64 (.ofNat 0), .int .i64 (.ofNat e)], h55)) =
        some (.tuple [.agg zeroT, .int .i64 (.ofNat 0), .int .i64 (.ofNat e)], h.wrL t 0 zeroT) := by
      intro e
      rw [bindS_at]
      show storeN 4 (.ptr t 0) (.agg zeroT) h _ = _
      unfold zeroT
      rw [storeN_at (s := 4) _ (by decide) rfl rfl (by rw [ht]; exact Nat.le_refl _), loadN_at _ _ _ _ _ (by decide), hw, lstE_at]
    rw [e47]
    unfold sgR
    rw [hb]
    cases h47 : Nat.beq (s.byte i) 47 with
    | true =>
      rw [guard_tf, pick_t, ifS_true]
      exact tail 31
    | false =>
      rw [guard_ff, hbyte, intS_at, int_eql, optS_at, bindS_at, e94, pick_f]
      cases h94 : Nat.beq (s.byte i) 94 with
      | true => rw [ifS_true]; exact tail 31
      | false => rw [ifS_false]; exact tail 30
theorem better_t {s : Bs} {i : Nat} {w b : Bs} (h : stF s i w = true) : better s i w b = Nat.ble (Nat.succ b.n) w.n := by
  unfold better; rw [h]; first | done | (cases Nat.ble (Nat.succ b.n) w.n <;> rfl)
theorem better_f {s : Bs} {i : Nat} {w b : Bs} (h : stF s i w = false) : better s i w b = false := by
  unfold better; rw [h]; first | done | (cases Nat.ble (Nat.succ b.n) w.n <;> rfl)
theorem ble_lt (a b : Nat) : Nat.ble (Nat.succ a) b = decide (a < b) := by rw [Bool.eq_iff_iff]; simp [Nat.succ_le_iff]
theorem sign_loop (s : Bs) (i : Nat) (hi : i < s.n) (hs : s.n ≤ 1000000) (t r c : Nat) (g : Bool) (h : Hp) (ht : h.wide t = 4) (ws : List Bs) (hr : Row h r ws) (hn : ws.length ≤ 1000000) (hl : ∀ w, w ∈ ws → w.n ≤ 1000000) :
    ∀ (m k : Nat) (b : Bs), k + m = ws.length → ∃ h', M 149 [.str s, .int .i64 (i : Int), .ptr t 0, .str b, .slice r 0 ws.length c g, .int .i64 (k : Int)] h = some (sgR s i (bestF s i (ws.drop k) b), h')
  | 0, k, b, e => by
    rw [List.drop_eq_nil_of_le (by omega)]
    exact sign_end s i b hi t r c g h ht ws.length k (by omega)
  | m + 1, k, b, e => by
    have hk : k < ws.length := by omega
    have hw : ws[k].n ≤ 1000000 := hl _ (List.getElem_mem hk)
    have hcell : h.cell r k = some (.str ws[k]) := hr k ws[k] (List.getElem?_eq_getElem hk)
    have next : ∀ b' h1, bestF s i (ws.drop k) b = bestF s i (ws.drop (k + 1)) b' → h1 = h → ∃ h', M 151 [.str s, .int .i64 (i : Int), .ptr t 0, .str b', .slice r 0 ws.length c g, .int .i64 (k : Int)] h1 = some (sgR s i (bestF s i (ws.drop k) b), h') := by
      intro b' h1 hb he
      subst he
      obtain ⟨h', ih⟩ := sign_loop s i hi hs t r c g h1 ht ws hr hn hl m (k + 1) b' (by omega)
      refine ⟨h', F151 fnA Inv ?_⟩
      unfold B151
      rw [intS_at, int_add, optS_at, show (k : Int) + Int.ofNat 1 = ((k + 1 : Nat) : Int) by simp, w64 (by omega), hb]
      exact ih
    have hst := st_at s i ws[k] (by omega) hw h
    unfold M at hst
    have hdrop : bestF s i (ws.drop k) b = Bool.rec (motive := fun _ => Bs) (bestF s i (ws.drop (k + 1)) b) (bestF s i (ws.drop (k + 1)) ws[k]) (better s i ws[k] b) := by
      rw [List.drop_eq_getElem_cons hk]; rfl
    cases hs1 : stF s i ws[k] with
    | true =>
      rw [hs1] at hst
      rw [better_t hs1, ble_lt] at hdrop
      by_cases hlt : b.n < ws[k].n
      · rw [decide_eq_true hlt] at hdrop
        obtain ⟨h', hN⟩ := next ws[k] h hdrop rfl
        refine ⟨h', F149 fnA Inv ?_⟩
        unfold B149
        rw [lenSl_at, intS_at, int_lss, optS_at, nat_lt, decide_eq_true hk, ifS_true, idx_at _ _ _ _ _ _ _ _ _ hk, load1_at, show 0 + k * 1 = k by omega, hcell, optS_at, hst, bindS_at, guard_tt,
          idx_at _ _ _ _ _ _ _ _ _ hk, load1_at, show 0 + k * 1 = k by omega, hcell, optS_at, lenStr_at, lenStr_at, intS_at, int_gtr, optS_at, bindS_at,
          nat_lt, decide_eq_true hlt, pick_t, ifS_true, idx_at _ _ _ _ _ _ _ _ _ hk, load1_at, show 0 + k * 1 = k by omega, hcell, optS_at]
        exact hN
      · rw [decide_eq_false hlt] at hdrop
        obtain ⟨h', hN⟩ := next b h hdrop rfl
        refine ⟨h', F149 fnA Inv ?_⟩
        unfold B149
        rw [lenSl_at, intS_at, int_lss, optS_at, nat_lt, decide_eq_true hk, ifS_true, idx_at _ _ _ _ _ _ _ _ _ hk, load1_at, show 0 + k * 1 = k by omega, hcell, optS_at, hst, bindS_at, guard_tt,
          idx_at _ _ _ _ _ _ _ _ _ hk, load1_at, show 0 + k * 1 = k by omega, hcell, optS_at, lenStr_at, lenStr_at, intS_at, int_gtr, optS_at, bindS_at,
          nat_lt, decide_eq_false hlt, pick_t, ifS_false]
        exact hN
    | false =>
      rw [hs1] at hst
      rw [better_f hs1] at hdrop
      obtain ⟨h', hN⟩ := next b h hdrop rfl
      refine ⟨h', F149 fnA Inv ?_⟩
      unfold B149
      rw [lenSl_at, intS_at, int_lss, optS_at, nat_lt, decide_eq_true hk, ifS_true, idx_at _ _ _ _ _ _ _ _ _ hk, load1_at, show 0 + k * 1 = k by omega, hcell, optS_at, hst, bindS_at]
      rw [guard_ft, pick_f, ifS_false]
      exact hN
noncomputable def signF (s : Bs) (i : Nat) : V := sgR s i (bestF s i signs ⟨0, 0⟩)
theorem sign_at (s : Bs) (i : Nat) (hi : i < s.n) (hs : s.n ≤ 1000000) (h : Hp) : ∃ h', M 224 [.str s, .int .i64 (i : Int)] h = some (signF s i, h') := by
  have hS : (h.newRow 152 zeroT false).n = h.n + 1 := rfl
  obtain ⟨h', e⟩ := sign_loop s i hi hs h.n (h.n + 1) 31 false ((h.newRow 152 zeroT false).newRow 9 (signs.map V.str) false) (by rw [newRow_wide, hS, if_neg (by omega), newRow_wide, if_pos rfl]; rfl) signs
    (row_new (h.newRow 152 zeroT false) 9 signs false) (by show 31 ≤ 1000000; omega) (fun w hw => by
      have : signs.all (fun w => Nat.ble w.n 1000000) = true := by kernel_rfl
      exact Nat.le_of_ble_eq_true (List.all_eq_true.1 this w hw)) 31 0 ⟨0, 0⟩ rfl
  refine ⟨h', F224 fnA Inv (fun _ _ => rfl) ?_⟩
  unfold B224
  rw [newS_at]
  have e2 := signs_at (h.newRow 152 zeroT false)
  unfold M at e2
  show bindS (L fnA Inv 264 [] (h.newRow 152 zeroT false)) _ = _
  rw [e2, bindS_at]
  exact e
/-! what is known so -/
noncomputable def whenO (b : Bool) (v : V) : Option V := Bool.rec (motive := fun _ => Option V) none (some v) b
noncomputable def small (s : Bs) : Bool := Nat.ble s.n 1000000
noncomputable def kn100 (vs : List V) : Option V := match vs with
  | [.int .u8 (.ofNat c), .str s] => whenO (small s) (.bool (inF c s))
  | _ => none
noncomputable def kn102 (vs : List V) : Option V := match vs with
  | [.str s, .int .i64 (.ofNat i), .str t] => whenO (Nat.ble i 1000000 && small t) (.bool (stF s i t))
  | _ => none
noncomputable def kn107 (vs : List V) : Option V := match vs with
  | [.str s] => some (.bool (wordF s))
  | _ => none
noncomputable def kn112 (vs : List V) : Option V := match vs with
  | [.str s, .int .i64 (.ofNat i)] => whenO (Nat.blt i s.n && small s) (signF s i)
  | _ => none
noncomputable def knB (f : FuncId) (vs : List V) : Option V :=
  bif Nat.beq f 100 then kn100 vs else bif Nat.beq f 102 then kn102 vs else bif Nat.beq f 107 then kn107 vs else bif Nat.beq f 112 then kn112 vs else none
theorem whenO_some {b : Bool} {v v' : V} (h : whenO b v = some v') : b = true ∧ v' = v := by
  cases b with
  | false => cases h
  | true => exact ⟨rfl, (Option.some.inj h).symm⟩
theorem named : Named Tryz.prog := letI := orc fnA Inv; letI := okA; named_of (by kernel_rfl)
theorem free_zero : ∀ c, c ∈ zeroT → Free c := by
  intro c hc
  have : zeroT.all plain = true := rfl
  exact Free.plain (List.all_eq_true.1 this c hc)
theorem free_sg (s : Bs) (i : Nat) (b : Bs) : Free (sgR s i b) := by
  unfold sgR
  cases b.eq ⟨0, 0⟩ with
  | false =>
    refine Free.tuple fun c hc => ?_
    simp only [List.mem_cons, List.not_mem_nil, or_false] at hc
    rcases hc with rfl | rfl | rfl
    · refine Free.agg fun c hc => ?_
      simp only [List.mem_cons, List.not_mem_nil, or_false] at hc
      rcases hc with rfl | rfl | rfl | rfl <;> exact Free.plain rfl
    · exact Free.plain rfl
    · exact Free.plain rfl
  | true =>
    refine Free.tuple fun c hc => ?_
    simp only [List.mem_cons, List.not_mem_nil, or_false] at hc
    rcases hc with rfl | rfl | rfl
    · exact Free.agg free_zero
    · exact Free.plain rfl
    · exact Free.plain rfl
theorem know {f : FuncId} {vs : List V} {v : V} (hp : vs.all plain = true) (hv : Free v) (e : ∃ h', M (2 * f) vs h0 = some (v, h')) : Known Tryz.prog Inv f vs v := by
  obtain ⟨h', e⟩ := e
  letI : Orc := orc fnA Inv
  letI : OrcOk Tryz.prog := okA
  exact known_free (by kernel_rfl) named (fun w hw => begins rfl (fun _ h => h) hw) hp hv e
theorem knB_ok (f : FuncId) (vs : List V) (v : V) (h : knB f vs = some v) : Known Tryz.prog Inv f vs v := by
  unfold knB at h
  cases h1 : Nat.beq f 100 <;> rw [h1] at h
  · cases h2 : Nat.beq f 102 <;> rw [h2] at h
    · cases h3 : Nat.beq f 107 <;> rw [h3] at h
      · cases h4 : Nat.beq f 112 <;> rw [h4] at h
        · cases h
        · have := Nat.eq_of_beq_eq_true h4
          subst this
          simp only [cond_true, cond_false, kn112] at h
          split at h <;> try (cases h; done)
          rename_i s i
          obtain ⟨hb, rfl⟩ := whenO_some h
          simp only [Bool.and_eq_true] at hb
          exact know rfl (free_sg _ _ _) (sign_at s i (Nat.le_of_ble_eq_true hb.1) (Nat.le_of_ble_eq_true hb.2) h0)
      · have := Nat.eq_of_beq_eq_true h3
        subst this
        simp only [cond_true, cond_false, kn107] at h
        split at h <;> try (cases h; done)
        rename_i s
        simp only [Option.some.injEq] at h
        subst h
        exact know rfl (Free.plain rfl) (word_at s h0)
    · have := Nat.eq_of_beq_eq_true h2
      subst this
      simp only [cond_true, cond_false, kn102] at h
      split at h <;> try (cases h; done)
      rename_i s i t
      obtain ⟨hb, rfl⟩ := whenO_some h
      simp only [Bool.and_eq_true] at hb
      exact know rfl (Free.plain rfl) ⟨h0, st_at s i t (Nat.le_of_ble_eq_true hb.1) (Nat.le_of_ble_eq_true hb.2) h0⟩
  · have := Nat.eq_of_beq_eq_true h1
    subst this
    simp only [cond_true, kn100] at h
    split at h <;> try (cases h; done)
    rename_i c s
    obtain ⟨hb, rfl⟩ := whenO_some h
    exact know rfl (Free.plain rfl) ⟨h0, in_at c s (Nat.le_of_ble_eq_true hb) h0⟩
noncomputable def fnB (f : FuncId) (vs : List V) (h : Hp) : Option (V × Hp) := match knB f vs with
  | some v => some (v, h)
  | none => fnA f vs h
theorem okB : @OrcOk Tryz.prog (orc fnB Inv) := @known_ok Tryz.prog (orc fnA Inv) okA knB (fun w w' h hB => Inv.later h hB) knB_ok
end Go.FN

end
/- FlowNumbers: the table of its shallow texts over what is known (printed). -/
section
open Go Go.Mid Go.Proofs
set_option maxRecDepth 100000
namespace Go.FN
noncomputable def GtabB38 : Sh := fun _ vs h => fnB 19 vs h
theorem EtabB38 (I : World → Prop) : @EntOk (orc fnB I) Tryz.prog labs 38 GtabB38 := @entO Tryz.prog (orc fnB I) _ 19 _ fun _ _ _ _ hp => hp
noncomputable def GtabB224 : Sh := fun _ vs h => fnB 112 vs h
theorem EtabB224 (I : World → Prop) : @EntOk (orc fnB I) Tryz.prog labs 224 GtabB224 := @entO Tryz.prog (orc fnB I) _ 112 _ fun _ _ _ _ hp => hp
noncomputable def GtabB204 : Sh := fun _ vs h => fnB 102 vs h
theorem EtabB204 (I : World → Prop) : @EntOk (orc fnB I) Tryz.prog labs 204 GtabB204 := @entO Tryz.prog (orc fnB I) _ 102 _ fun _ _ _ _ hp => hp
noncomputable def GtabB214 : Sh := fun _ vs h => fnB 107 vs h
theorem EtabB214 (I : World → Prop) : @EntOk (orc fnB I) Tryz.prog labs 214 GtabB214 := @entO Tryz.prog (orc fnB I) _ 107 _ fun _ _ _ _ hp => hp
noncomputable def GtabB200 : Sh := fun _ vs h => fnB 100 vs h
theorem EtabB200 (I : World → Prop) : @EntOk (orc fnB I) Tryz.prog labs 200 GtabB200 := @entO Tryz.prog (orc fnB I) _ 100 _ fun _ _ _ _ hp => hp
noncomputable def GtabB288 : Sh := fun _ vs h => fnB 144 vs h
theorem EtabB288 (I : World → Prop) : @EntOk (orc fnB I) Tryz.prog labs 288 GtabB288 := @entO Tryz.prog (orc fnB I) _ 144 _ fun _ _ _ _ hp => hp
noncomputable def tabB : Tr Sh := (((((((((((((((((((((((((((((((((((((((((((((((((((((((((((((((((((((((((((((((((((((((((((((((((((((((((((((((((((((((((((((((((((((((((((((((((((((((((((((((((((((((((((((((((((((((((((((((((((((((((((((((((((((((((((((((((((((((((((((((((((Tr.nil.set 8 G8).set 10 G10).set 22 G22).set 20 G20).set 16 G16).set 1 G1).set 18 G18).set 26 G26).set 3 G3).set 24 G24).set 38 GtabB38).set 36 G36).set 40 G40).set 17 G17).set 46 G46).set 19 G19).set 21 G21).set 23 G23).set 25 G25).set 44 G44).set 27 G27).set 12 G12).set 29 G29).set 31 G31).set 33 G33).set 42 G42).set 35 G35).set 86 G86).set 39 G39).set 84 G84).set 32 G32).set 41 G41).set 43 G43).set 45 G45).set 47 G47).set 49 G49).set 30 G30).set 51 G51).set 53 G53).set 55 G55).set 57 G57).set 59 G59).set 28 G28).set 61 G61).set 63 G63).set 82 G82).set 80 G80).set 76 G76).set 74 G74).set 65 G65).set 67 G67).set 72 G72).set 69 G69).set 71 G71).set 73 G73).set 54 G54).set 58 G58).set 75 G75).set 77 G77).set 79 G79).set 56 G56).set 81 G81).set 50 G50).set 48 G48).set 83 G83).set 85 G85).set 87 G87).set 52 G52).set 138 G138).set 148 G148).set 89 G89).set 91 G91).set 93 G93).set 144 G144).set 146 G146).set 95 G95).set 142 G142).set 140 G140).set 132 G132).set 97 G97).set 99 G99).set 136 G136).set 101 G101).set 103 G103).set 134 G134).set 130 G130).set 116 G116).set 107 G107).set 109 G109).set 114 G114).set 111 G111).set 113 G113).set 115 G115).set 110 G110).set 112 G112).set 118 G118).set 108 G108).set 106 G106).set 102 G102).set 100 G100).set 117 G117).set 98 G98).set 96 G96).set 92 G92).set 90 G90).set 121 G121).set 88 G88).set 94 G94).set 104 G104).set 123 G123).set 238 G238).set 236 G236).set 125 G125).set 234 G234).set 127 G127).set 232 G232).set 129 G129).set 131 G131).set 133 G133).set 228 G228).set 135 G135).set 137 G137).set 139 G139).set 141 G141).set 143 G143).set 145 G145).set 230 G230).set 226 G226).set 147 G147).set 202 G202).set 224 GtabB224).set 204 GtabB204).set 206 G206).set 218 G218).set 169 G169).set 216 G216).set 171 G171).set 173 G173).set 214 GtabB214).set 212 G212).set 210 G210).set 208 G208).set 200 GtabB200).set 194 G194).set 184 G184).set 192 G192).set 190 G190).set 182 G182).set 179 G179).set 188 G188).set 181 G181).set 183 G183).set 185 G185).set 187 G187).set 186 G186).set 189 G189).set 191 G191).set 193 G193).set 195 G195).set 197 G197).set 180 G180).set 176 G176).set 178 G178).set 174 G174).set 199 G199).set 172 G172).set 170 G170).set 164 G164).set 154 G154).set 166 G166).set 150 G150).set 162 G162).set 201 G201).set 158 G158).set 152 G152).set 160 G160).set 203 G203).set 156 G156).set 282 G282).set 205 G205).set 207 G207).set 280 G280).set 278 G278).set 211 G211).set 213 G213).set 272 G272).set 217 G217).set 276 G276).set 266 G266).set 274 G274).set 219 G219).set 221 G221).set 270 G270).set 223 G223).set 268 G268).set 225 G225).set 260 G260).set 229 G229).set 231 G231).set 233 G233).set 235 G235).set 237 G237).set 256 G256).set 252 G252).set 239 G239).set 254 G254).set 250 G250).set 241 G241).set 244 G244).set 248 G248).set 246 G246).set 240 G240).set 242 G242).set 320 G320).set 316 G316).set 243 G243).set 245 G245).set 247 G247).set 314 G314).set 249 G249).set 251 G251).set 253 G253).set 302 G302).set 275 G275).set 292 G292).set 296 G296).set 283 G283).set 294 G294).set 290 G290).set 285 G285).set 287 G287).set 286 G286).set 288 GtabB288).set 284 G284).set 289 G289).set 330 G330).set 291 G291).set 326 G326).set 295 G295).set 324 G324).set 297 G297).set 334 G334).set 299 G299)
theorem tabB_ok (I : World → Prop) : @TabOk (orc fnB I) Tryz.prog labs tabB := (tS (tS (tS (tS (tS (tS (tS (tS (tS (tS (tS (tS (tS (tS (tS (tS (tS (tS (tS (tS (tS (tS (tS (tS (tS (tS (tS (tS (tS (tS (tS (tS (tS (tS (tS (tS (tS (tS (tS (tS (tS (tS (tS (tS (tS (tS (tS (tS (tS (tS (tS (tS (tS (tS (tS (tS (tS (tS (tS (tS (tS (tS (tS (tS (tS (tS (tS (tS (tS (tS (tS (tS (tS (tS (tS (tS (tS (tS (tS (tS (tS (tS (tS (tS (tS (tS (tS (tS (tS (tS (tS (tS (tS (tS (tS (tS (tS (tS (tS (tS (tS (tS (tS (tS (tS (tS (tS (tS (tS (tS (tS (tS (tS (tS (tS (tS (tS (tS (tS (tS (tS (tS (tS (tS (tS (tS (tS (tS (tS (tS (tS (tS (tS (tS (tS (tS (tS (tS (tS (tS (tS (tS (tS (tS (tS (tS (tS (tS (tS (tS (tS (tS (tS (tS (tS (tS (tS (tS (tS (tS (tS (tS (tS (tS (tS (tS (tS (tS (tS (tS (tS (tS (tS (tS (tS (tS (tS (tS (tS (tS (tS (tS (tS (tS (tS (tS (tS (tS (tS (tS (tS (tS (tS (tS (tS (tS (tS (tS (tS (tS (tS (tS (tS (tS (tS (tS (tS (tS (tS (tS (tS (tS (tS (tS (tS (tS (tS (tS (tS (tS (tS (tS (tS (tS (tS (tS (tS (tS (tS (tS (tS (tS (tS (tS (tS (tS (tS (tS (tS (tS (tS (tS (tS (@tabOk_nil (orc fnB I) Tryz.prog labs) (E8 fnB I fun _ _ => rfl)) (E10 fnB I fun _ _ => rfl)) (E22 fnB I fun _ _ => rfl)) (E20 fnB I fun _ _ => rfl)) (E16 fnB I fun _ _ => rfl)) (E1 fnB I)) (E18 fnB I fun _ _ => rfl)) (E26 fnB I fun _ _ => rfl)) (E3 fnB I)) (E24 fnB I fun _ _ => rfl)) (EtabB38 I)) (E36 fnB I fun _ _ => rfl)) (E40 fnB I fun _ _ => rfl)) (E17 fnB I)) (E46 fnB I fun _ _ => rfl)) (E19 fnB I)) (E21 fnB I)) (E23 fnB I)) (E25 fnB I)) (E44 fnB I fun _ _ => rfl)) (E27 fnB I)) (E12 fnB I fun _ _ => rfl)) (E29 fnB I)) (E31 fnB I)) (E33 fnB I)) (E42 fnB I fun _ _ => rfl)) (E35 fnB I)) (E86 fnB I fun _ _ => rfl)) (E39 fnB I)) (E84 fnB I fun _ _ => rfl)) (E32 fnB I fun _ _ => rfl)) (E41 fnB I)) (E43 fnB I)) (E45 fnB I)) (E47 fnB I)) (E49 fnB I)) (E30 fnB I fun _ _ => rfl)) (E51 fnB I)) (E53 fnB I)) (E55 fnB I)) (E57 fnB I)) (E59 fnB I)) (E28 fnB I fun _ _ => rfl)) (E61 fnB I)) (E63 fnB I)) (E82 fnB I fun _ _ => rfl)) (E80 fnB I fun _ _ => rfl)) (E76 fnB I fun _ _ => rfl)) (E74 fnB I fun _ _ => rfl)) (E65 fnB I)) (E67 fnB I)) (E72 fnB I fun _ _ => rfl)) (E69 fnB I)) (E71 fnB I)) (E73 fnB I)) (E54 fnB I fun _ _ => rfl)) (E58 fnB I fun _ _ => rfl)) (E75 fnB I)) (E77 fnB I)) (E79 fnB I)) (E56 fnB I fun _ _ => rfl)) (E81 fnB I)) (E50 fnB I fun _ _ => rfl)) (E48 fnB I fun _ _ => rfl)) (E83 fnB I)) (E85 fnB I)) (E87 fnB I)) (E52 fnB I fun _ _ => rfl)) (E138 fnB I fun _ _ => rfl)) (E148 fnB I fun _ _ => rfl)) (E89 fnB I)) (E91 fnB I)) (E93 fnB I)) (E144 fnB I fun _ _ => rfl)) (E146 fnB I fun _ _ => rfl)) (E95 fnB I)) (E142 fnB I fun _ _ => rfl)) (E140 fnB I fun _ _ => rfl)) (E132 fnB I fun _ _ => rfl)) (E97 fnB I)) (E99 fnB I)) (E136 fnB I fun _ _ => rfl)) (E101 fnB I)) (E103 fnB I)) (E134 fnB I fun _ _ => rfl)) (E130 fnB I fun _ _ => rfl)) (E116 fnB I fun _ _ => rfl)) (E107 fnB I)) (E109 fnB I)) (E114 fnB I fun _ _ => rfl)) (E111 fnB I)) (E113 fnB I)) (E115 fnB I)) (E110 fnB I fun _ _ => rfl)) (E112 fnB I fun _ _ => rfl)) (E118 fnB I fun _ _ => rfl)) (E108 fnB I fun _ _ => rfl)) (E106 fnB I fun _ _ => rfl)) (E102 fnB I fun _ _ => rfl)) (E100 fnB I fun _ _ => rfl)) (E117 fnB I)) (E98 fnB I fun _ _ => rfl)) (E96 fnB I fun _ _ => rfl)) (E92 fnB I fun _ _ => rfl)) (E90 fnB I fun _ _ => rfl)) (E121 fnB I)) (E88 fnB I fun _ _ => rfl)) (E94 fnB I fun _ _ => rfl)) (E104 fnB I fun _ _ => rfl)) (E123 fnB I)) (E238 fnB I fun _ _ => rfl)) (E236 fnB I fun _ _ => rfl)) (E125 fnB I)) (E234 fnB I fun _ _ => rfl)) (E127 fnB I)) (E232 fnB I fun _ _ => rfl)) (E129 fnB I)) (E131 fnB I)) (E133 fnB I)) (E228 fnB I fun _ _ => rfl)) (E135 fnB I)) (E137 fnB I)) (E139 fnB I)) (E141 fnB I)) (E143 fnB I)) (E145 fnB I)) (E230 fnB I fun _ _ => rfl)) (E226 fnB I fun _ _ => rfl)) (E147 fnB I)) (E202 fnB I fun _ _ => rfl)) (EtabB224 I)) (EtabB204 I)) (E206 fnB I fun _ _ => rfl)) (E218 fnB I fun _ _ => rfl)) (E169 fnB I)) (E216 fnB I fun _ _ => rfl)) (E171 fnB I)) (E173 fnB I)) (EtabB214 I)) (E212 fnB I fun _ _ => rfl)) (E210 fnB I fun _ _ => rfl)) (E208 fnB I fun _ _ => rfl)) (EtabB200 I)) (E194 fnB I fun _ _ => rfl)) (E184 fnB I fun _ _ => rfl)) (E192 fnB I fun _ _ => rfl)) (E190 fnB I fun _ _ => rfl)) (E182 fnB I fun _ _ => rfl)) (E179 fnB I)) (E188 fnB I fun _ _ => rfl)) (E181 fnB I)) (E183 fnB I)) (E185 fnB I)) (E187 fnB I)) (E186 fnB I fun _ _ => rfl)) (E189 fnB I)) (E191 fnB I)) (E193 fnB I)) (E195 fnB I)) (E197 fnB I)) (E180 fnB I fun _ _ => rfl)) (E176 fnB I fun _ _ => rfl)) (E178 fnB I fun _ _ => rfl)) (E174 fnB I fun _ _ => rfl)) (E199 fnB I)) (E172 fnB I fun _ _ => rfl)) (E170 fnB I fun _ _ => rfl)) (E164 fnB I fun _ _ => rfl)) (E154 fnB I fun _ _ => rfl)) (E166 fnB I fun _ _ => rfl)) (E150 fnB I fun _ _ => rfl)) (E162 fnB I fun _ _ => rfl)) (E201 fnB I)) (E158 fnB I fun _ _ => rfl)) (E152 fnB I fun _ _ => rfl)) (E160 fnB I fun _ _ => rfl)) (E203 fnB I)) (E156 fnB I fun _ _ => rfl)) (E282 fnB I fun _ _ => rfl)) (E205 fnB I)) (E207 fnB I)) (E280 fnB I fun _ _ => rfl)) (E278 fnB I fun _ _ => rfl)) (E211 fnB I)) (E213 fnB I)) (E272 fnB I fun _ _ => rfl)) (E217 fnB I)) (E276 fnB I fun _ _ => rfl)) (E266 fnB I fun _ _ => rfl)) (E274 fnB I fun _ _ => rfl)) (E219 fnB I)) (E221 fnB I)) (E270 fnB I fun _ _ => rfl)) (E223 fnB I)) (E268 fnB I fun _ _ => rfl)) (E225 fnB I)) (E260 fnB I fun _ _ => rfl)) (E229 fnB I)) (E231 fnB I)) (E233 fnB I)) (E235 fnB I)) (E237 fnB I)) (E256 fnB I fun _ _ => rfl)) (E252 fnB I fun _ _ => rfl)) (E239 fnB I)) (E254 fnB I fun _ _ => rfl)) (E250 fnB I fun _ _ => rfl)) (E241 fnB I)) (E244 fnB I fun _ _ => rfl)) (E248 fnB I fun _ _ => rfl)) (E246 fnB I fun _ _ => rfl)) (E240 fnB I fun _ _ => rfl)) (E242 fnB I fun _ _ => rfl)) (E320 fnB I fun _ _ => rfl)) (E316 fnB I fun _ _ => rfl)) (E243 fnB I)) (E245 fnB I)) (E247 fnB I)) (E314 fnB I fun _ _ => rfl)) (E249 fnB I)) (E251 fnB I)) (E253 fnB I)) (E302 fnB I fun _ _ => rfl)) (E275 fnB I)) (E292 fnB I fun _ _ => rfl)) (E296 fnB I fun _ _ => rfl)) (E283 fnB I)) (E294 fnB I fun _ _ => rfl)) (E290 fnB I fun _ _ => rfl)) (E285 fnB I)) (E287 fnB I)) (E286 fnB I fun _ _ => rfl)) (EtabB288 I)) (E284 fnB I fun _ _ => rfl)) (E289 fnB I)) (E330 fnB I fun _ _ => rfl)) (E291 fnB I)) (E326 fnB I fun _ _ => rfl)) (E295 fnB I)) (E324 fnB I fun _ _ => rfl)) (E297 fnB I)) (E334 fnB I fun _ _ => rfl)) (E299 fnB I))
end Go.FN

end
/- The reference's reader of texts: at, Lines; the table over what is known. -/
section
open Go Go.Mid Go.Proofs
set_option maxRecDepth 100000
set_option linter.unusedVariables false
namespace Go.FN
/-! Lines of a text without any end -/
noncomputable abbrev MB : Nat → List V → Hp → VH := L fnB Inv
theorem in_none : ∀ (m b c : Nat), inG m b c = false → ∀ j, j < m → b / 256 ^ j % 256 ≠ c
  | 0, b, c, h, j, hj => by omega
  | m + 1, b, c, h, 0, hj => by
    rw [inG_succ, Bool.or_eq_false_iff] at h
    intro e
    rw [Nat.pow_zero, Nat.div_one] at e
    rw [e, Nat.beq_refl] at h
    cases h.1
  | m + 1, b, c, h, j + 1, hj => by
    rw [inG_succ, Bool.or_eq_false_iff] at h
    have := in_none m (b / 256) c h.2 j (by omega)
    rw [Nat.div_div_eq_div_mul] at this
    rw [Nat.pow_succ, Nat.mul_comm]; exact this
theorem byte_not {s : Bs} {c : Nat} (h : inF c s = false) {i : Nat} (hi : i < s.n) : s.byte i ≠ c := by
  rw [Bs.byte_eq]; exact in_none s.n s.b c h i hi
theorem at_at (s : Bs) (i : Nat) (hi : i < s.n) (h : Hp) : MB 210 [.str s, .int .i64 (i : Int)] h = some (.int .u8 (s.byte i : Nat), h) := by
  refine F210 fnB Inv (fun _ _ => rfl) ?_
  unfold B210
  rw [intS_at, int_lss, optS_at, show decide ((i : Int) < Int.ofNat 0) = false from decide_eq_false (by simp), guard_ff, lenStr_at, intS_at, int_geq, optS_at, bindS_at,
    show decide ((s.n : Int) ≤ (i : Int)) = false from decide_eq_false (by omega), pick_f, ifS_false, idxStr_at _ _ _ _ hi]
theorem end_at (s : Bs) (i : Nat) (hi : i < s.n) (h1 : inF 10 s = false) (h2 : inF 13 s = false) (h : Hp) : MB 202 [.str s, .int .i64 (i : Int)] h = some (.int .i64 (.ofNat 0), h) := by
  refine F202 fnB Inv (fun _ _ => rfl) ?_
  unfold B202
  have ha := at_at s i hi h
  unfold MB at ha
  have n10 : decide (((s.byte i : Nat) : Int) ≠ Int.ofNat 10) = true := decide_eq_true (by have := byte_not h1 hi; rw [show Int.ofNat 10 = ((10 : Nat) : Int) from rfl]; omega)
  have n13 : decide (((s.byte i : Nat) : Int) ≠ Int.ofNat 13) = true := decide_eq_true (by have := byte_not h2 hi; rw [show Int.ofNat 13 = ((13 : Nat) : Int) from rfl]; omega)
  rw [ha, bindS_at, intS_at, int_neq, optS_at, n10, guard_tt, ha, bindS_at, intS_at, int_neq, optS_at, bindS_at, n13, pick_t, ifS_true]
theorem lines_loop (s : Bs) (hs : s.n ≤ 1000000) (h1 : inF 10 s = false) (h2 : inF 13 s = false) (h : Hp) : ∀ (m i : Nat), i + m = s.n → MB 97 [.str s, .int .i64 (.ofNat 0), .int .i64 (i : Int)] h = some (.int .i64 (.ofNat 0), h)
  | 0, i, e => by
    refine F97 fnB Inv ?_
    unfold B97
    rw [lenStr_at, intS_at, int_lss, optS_at, nat_lt, decide_eq_false (by omega), ifS_false]
  | m + 1, i, e => by
    refine F97 fnB Inv ?_
    unfold B97
    have he := end_at s i (by omega) h1 h2 h
    unfold MB at he
    rw [lenStr_at, intS_at, int_lss, optS_at, nat_lt, decide_eq_true (by omega), ifS_true, he, bindS_at, intS_at, int_gtr, optS_at, show decide (Int.ofNat 0 < Int.ofNat 0) = false from rfl, ifS_false]
    refine F99 fnB Inv ?_
    unfold B99
    rw [intS_at, int_add, optS_at, show (i : Int) + Int.ofNat 1 = ((i + 1 : Nat) : Int) by simp, w64 (by omega)]
    exact lines_loop s hs h1 h2 h m (i + 1) (by omega)
theorem lines_at (s : Bs) (hs : s.n ≤ 1000000) (h1 : inF 10 s = false) (h2 : inF 13 s = false) (h : Hp) : MB 132 [.str s] h = some (.int .i64 (.ofNat 0), h) := by
  refine F132 fnB Inv (fun _ _ => rfl) ?_
  unfold B132
  exact lines_loop s hs h1 h2 h s.n 0 (by omega)


noncomputable def orS (x : Option (V × Hp)) (y : VH) : VH := Option.rec (motive := fun _ => VH) y (fun p => some p) x
theorem entS_or {key : Nat} {sp : List V → Hp → Option (V × Hp)} {G : Sh} (hs : ∀ vs h p, sp vs h = some p → MB key vs h = some p) (hG : @EntS (orc fnB Inv) Tryz.prog labs key G) :
    @EntS (orc fnB Inv) Tryz.prog labs key (fun ih vs h => orS (sp vs h) (G ih vs h)) := by
  intro g hg vs h p e
  change orS (sp vs h) (G g vs h) = some p at e
  cases hx : sp vs h with
  | some q => rw [hx] at e; exact hs _ _ _ (hx.trans e)
  | none => rw [hx] at e; exact hG g hg vs h p e
noncomputable def whenH (b : Bool) (v : V) (h : Hp) : Option (V × Hp) := Bool.rec (motive := fun _ => Option (V × Hp)) none (some (v, h)) b
theorem whenH_some {b : Bool} {v : V} {h : Hp} {p : V × Hp} (e : whenH b v h = some p) : b = true ∧ p = (v, h) := by
  cases b with
  | false => cases e
  | true => exact ⟨rfl, (Option.some.inj e).symm⟩
noncomputable def sp132 (vs : List V) (h : Hp) : Option (V × Hp) := match vs with
  | [.str s] => whenH (small s && (!(inF 10 s) && !(inF 13 s))) (.int .i64 (.ofNat 0)) h
  | _ => none
noncomputable def sp210 (vs : List V) (h : Hp) : Option (V × Hp) := match vs with
  | [.str s, .int .i64 (.ofNat i)] => whenH (Nat.ble (Nat.succ i) s.n) (.int .u8 (.ofNat (s.byte i))) h
  | _ => none
theorem sp132_ok (vs : List V) (h : Hp) (p : V × Hp) (e : sp132 vs h = some p) : MB 132 vs h = some p := by
  unfold sp132 at e
  split at e <;> try (cases e; done)
  rename_i s
  obtain ⟨hb, rfl⟩ := whenH_some e
  simp only [Bool.and_eq_true, Bool.not_eq_true'] at hb
  exact lines_at s (Nat.le_of_ble_eq_true hb.1) hb.2.1 hb.2.2 h
theorem sp210_ok (vs : List V) (h : Hp) (p : V × Hp) (e : sp210 vs h = some p) : MB 210 vs h = some p := by
  unfold sp210 at e
  split at e <;> try (cases e; done)
  rename_i s i
  obtain ⟨hb, rfl⟩ := whenH_some e
  exact at_at s i (Nat.le_of_ble_eq_true hb) h
/-! what stands at the reader's place -/
noncomputable def badF (e : Nat) : Bool := Bool.not (Nat.beq e 0)
theorem bad_at {b o e : Nat} {h : Hp} (he : h.cell b (o + 2) = some (.int .i64 (.ofNat e))) : MB 82 [.ptr b o] h = some (.bool (badF e), h) := by
  refine F82 fnB Inv (fun _ _ => rfl) ?_
  unfold B82
  rw [nil_ptr, addr_at, addr_at, load1_at, show o + 2 + 0 = o + 2 from rfl, he, optS_at, intS_at, int_neq, optS_at]
  have : decide (Int.ofNat e ≠ Int.ofNat 0) = badF e := by
    unfold badF
    cases e with
    | zero => rfl
    | succ e => simp [Nat.beq]; omega
  rw [this]
noncomputable def isWS (k : Nat) : Bool := Bool.rec (motive := fun _ => Bool) (Nat.beq k 3) true (Nat.beq k 2)
theorem is_bad {b o e : Nat} {s : Bs} {h : Hp} (he : h.cell b (o + 2) = some (.int .i64 (.ofNat e))) (hb : Nat.beq e 0 = false) : MB 144 [.ptr b o, .str s] h = some (.bool false, h) := by
  refine F144 fnB Inv (fun _ _ => rfl) ?_
  unfold B144
  have h1 := bad_at he
  unfold MB at h1
  rw [h1, bindS_at, not_at]
  unfold badF
  rw [hb]
  simp only [Bool.not_false, Bool.not_true]
  rw [guard_ft, guard_u, guard_ft, pick_f, guard_ft, pick_f]
theorem is_at {b o e : Nat} {s t : Bs} {h : Hp} {tb tf tn c : Nat} {g : Bool} {k : Nat} (he : h.cell b (o + 2) = some (.int .i64 (.ofNat e))) (hb : Nat.beq e 0 = true) (ht : h.cell b o = some (.slice tb tf tn c g)) (hn : 0 < tn)
    (hk : h.cell tb tf = some (.int .u8 (.ofNat k))) (hs : isWS k = true → h.cell tb (tf + 1) = some (.str t)) : MB 144 [.ptr b o, .str s] h = some (.bool (Bool.rec (motive := fun _ => Bool) false (t.eq s) (isWS k)), h) := by
  refine F144 fnB Inv (fun _ _ => rfl) ?_
  unfold B144
  have h1 := bad_at he
  unfold MB at h1
  have k2 : decide (Int.ofNat k = Int.ofNat 2) = Nat.beq k 2 := by rw [Bool.eq_iff_iff]; simp; omega
  have k3 : decide (Int.ofNat k = Int.ofNat 3) = Nat.beq k 3 := by rw [Bool.eq_iff_iff]; simp; omega
  have i0 : ∀ K : V → VH, idxS 4 (.slice tb tf tn c g) (.int .i64 (.ofNat 0)) K = K (.ptr tb tf) := fun K => by
    have := idx_at 4 tb tf tn c g .i64 0 K hn
    rw [Nat.zero_mul, Nat.add_zero] at this
    exact this
  rw [h1, bindS_at, not_at]
  unfold badF
  rw [hb]
  simp only [Bool.not_false, Bool.not_true]
  rw [guard_tt, nil_ptr, addr_at, load1_at, Nat.add_zero, ht, optS_at, i0, addr_at, load1_at, Nat.add_zero, hk, optS_at, intS_at, int_eql, optS_at, bindS_at, k2]
  have tail : ∀ v : Bool, isWS k = v → optS (pickV (.bool true) (.bool v) (.bool false)) (fun v24 =>
      guardS v24 true (nilS (.ptr b o) fun v25 =>
        addrS 0 v25 fun v26 =>
        load1 v26 h fun v27 =>
        idxS 4 v27 (.int .i64 (.ofNat 0)) fun v28 =>
        addrS 1 v28 fun v29 =>
        load1 v29 h fun v30 =>
        strS .eql v30 (.str s) fun v31 =>
        some (v31, h)) h fun v32 h33 =>
        optS (pickV v24 v32 (.bool false)) fun v34 =>
        some (v34, h33)) = some (V.bool (Bool.rec (motive := fun _ => Bool) false (t.eq s) v), h) := by
    intro v hv
    rw [pick_t]
    cases v with
    | false => rw [guard_ft, pick_f]
    | true =>
      rw [guard_tt, nil_ptr, addr_at, load1_at, Nat.add_zero, ht, optS_at, i0, addr_at, load1_at, hs hv, optS_at, str_at]
      show bindS (optS (some (.bool (t.eq s))) _) _ = _
      rw [optS_at, bindS_at, pick_t]
  cases h2 : Nat.beq k 2 with
  | true =>
    rw [guard_tf, guard_tt, pick_t]
    show bindS (some (.bool true, h)) _ = _
    rw [bindS_at]
    have hv : isWS k = true := by unfold isWS; rw [h2]
    rw [hv]
    exact tail true hv
  | false =>
    have hv : isWS k = Nat.beq k 3 := by unfold isWS; rw [h2]
    rw [guard_ff, nil_ptr, addr_at, load1_at, Nat.add_zero, ht, optS_at, i0, addr_at, load1_at, Nat.add_zero, hk, optS_at, intS_at, int_eql, optS_at, bindS_at, k3, guard_tt, pick_f]
    show bindS (some (.bool (Nat.beq k 3), h)) _ = _
    rw [bindS_at, hv]
    exact tail _ hv
noncomputable def sp82 (vs : List V) (h : Hp) : Option (V × Hp) := match vs with
  | [.ptr b o] => (match h.cell b (o + 2) with
    | some (.int .i64 (.ofNat e)) => some (.bool (badF e), h)
    | _ => none)
  | _ => none
noncomputable def sp144 (vs : List V) (h : Hp) : Option (V × Hp) := match vs with
  | [.ptr b o, .str s] => (match h.cell b (o + 2) with
    | some (.int .i64 (.ofNat e)) => bif Nat.beq e 0 then (match h.cell b o with
      | some (.slice tb tf tn _ _) => bif Nat.blt 0 tn then (match h.cell tb tf with
        | some (.int .u8 (.ofNat k)) => bif isWS k then (match h.cell tb (tf + 1) with
          | some (.str t) => some (.bool (t.eq s), h)
          | _ => none) else some (.bool false, h)
        | _ => none) else none
      | _ => none) else some (.bool false, h)
    | _ => none)
  | _ => none
theorem sp82_ok (vs : List V) (h : Hp) (p : V × Hp) (e : sp82 vs h = some p) : MB 82 vs h = some p := by
  unfold sp82 at e
  split at e <;> try (cases e; done)
  split at e <;> try (cases e; done)
  rename_i he
  rw [← e]; exact bad_at he
theorem sp144_ok (vs : List V) (h : Hp) (p : V × Hp) (e : sp144 vs h = some p) : MB 144 vs h = some p := by
  unfold sp144 at e
  split at e <;> try (cases e; done)
  split at e <;> try (cases e; done)
  rename_i he
  rename_i b o s x er
  cases hb : Nat.beq er 0 with
  | false =>
    rw [hb] at e
    rw [← (show some (V.bool false, h) = some p from e)]
    exact is_bad he hb
  | true =>
    rw [hb] at e
    simp only [cond_true] at e
    split at e <;> try (cases e; done)
    rename_i tb tf tn c g ht
    cases hn : Nat.blt 0 tn with
    | false => rw [hn] at e; cases e
    | true =>
      rw [hn] at e
      simp only [cond_true] at e
      have hn := Nat.le_of_ble_eq_true hn
      split at e <;> try (cases e; done)
      rename_i k hk
      cases hw : isWS k with
      | false =>
        rw [hw] at e
        have := is_at (s := s) (t := ⟨0, 0⟩) he hb ht hn hk (fun h => by rw [hw] at h; cases h)
        rw [hw] at this
        rw [this]; exact e
      | true =>
        rw [hw] at e
        simp only [cond_true] at e
        split at e <;> try (cases e; done)
        rename_i t hs
        have := is_at (s := s) he hb ht hn hk (fun _ => hs)
        rw [hw] at this
        rw [this]; exact e
noncomputable def G82' : Sh := fun ih vs h => orS (sp82 vs h) (G82 ih vs h)
noncomputable def G144' : Sh := fun ih vs h => orS (sp144 vs h) (G144 ih vs h)
noncomputable def G132' : Sh := fun ih vs h => orS (sp132 vs h) (G132 ih vs h)
noncomputable def G210' : Sh := fun ih vs h => orS (sp210 vs h) (G210 ih vs h)
noncomputable def tabC : Tr Sh := (((tabB.set 132 G132').set 210 G210').set 82 G82').set 144 G144'
theorem tabC_ok : @TabS (orc fnB Inv) Tryz.prog labs tabC :=
  @TabS.set Tryz.prog (orc fnB Inv) _ _ _ _ (@TabS.set Tryz.prog (orc fnB Inv) _ _ _ _ (@TabS.set Tryz.prog (orc fnB Inv) _ _ _ _ (@TabS.set Tryz.prog (orc fnB Inv) _ _ _ _ (@TabOk.toS Tryz.prog (orc fnB Inv) _ _ (tabB_ok Inv))
    (entS_or sp132_ok (@EntOk.toS Tryz.prog (orc fnB Inv) _ _ _ (E132 fnB Inv fun _ _ => rfl))))
    (entS_or sp210_ok (@EntOk.toS Tryz.prog (orc fnB Inv) _ _ _ (E210 fnB Inv fun _ _ => rfl))))
    (entS_or sp82_ok (@EntOk.toS Tryz.prog (orc fnB Inv) _ _ _ (E82 fnB Inv fun _ _ => rfl))))
    (entS_or sp144_ok (@EntOk.toS Tryz.prog (orc fnB Inv) _ _ _ (E144 fnB Inv fun _ _ => rfl)))
end Go.FN

end
