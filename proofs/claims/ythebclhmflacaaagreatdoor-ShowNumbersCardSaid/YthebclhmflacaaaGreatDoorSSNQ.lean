/- ShowNumbers: a literal of letters, quoted: the walk. -/
import Derived.Test.YthebclhmflacaaaGreatDoorSSNtA
set_option linter.all false
open Go Go.Mid Go.Proofs
set_option linter.unusedVariables false
namespace Go.SN
noncomputable abbrev LA : Nat → List V → Hp → VH := @lim Tryz.prog (orc fnA Inv) labs
theorem put_get (h : Hp) (b : Nat) (o : Ob) (x : Nat) : (h.put b o).t.get x = if b = x then some o else h.t.get x := Tr.get_set ..
theorem new_get (h : Hp) (o : Ob) (x : Nat) : (h.new o).t.get x = if h.n = x then some o else h.t.get x := Tr.get_set ..
noncomputable def u8 (x : UInt8) : V := .int .u8 (Int.ofNat x.toNat)
/-- a builder: its own address, a growing row of bytes. -/
structure Bd (h : Hp) (p : Nat) (l : List UInt8) : Prop where
  wf : ∀ b, h.n ≤ b → h.t.get b = none
  at_ : ∃ cp gp b c, h.t.get p = some (.cells cp 2 gp 72) ∧ cp.get 0 = some (.ptr p 0) ∧ cp.get 1 = some (.slice b 0 l.length 0 true) ∧ b ≠ p ∧ h.t.get b = some (.cells c l.length true 5) ∧ ∀ i, i < l.length → c.get i = (l[i]?).map u8
theorem lt_of_get {h : Hp} (wf : ∀ b, h.n ≤ b → h.t.get b = none) {b : Nat} {o : Ob} (hg : h.t.get b = some o) : b < h.n := by
  rcases Nat.lt_or_ge b h.n with h1 | h1
  · exact h1
  · rw [wf b h1] at hg; cases hg
theorem cell_of {h : Hp} {b o n : Nat} {c : Tr V} {g : Bool} {e : TypeId} {v : V} (hg : h.t.get b = some (.cells c n g e)) (hc : c.get o = some v) : h.cell b o = some v := by
  unfold Hp.cell; rw [hg]; exact hc
theorem check {h : Hp} {p : Nat} (hc : h.cell p 0 = some (.ptr p 0)) : LA 110 [.ptr p 0] h = some (.tuple [], h) := by
  refine @lim_ent Tryz.prog (orc fnA Inv) labs 110 G110 (E110 fnA Inv fun _ _ => rfl) _ _ _ (show B110 LA (.ptr p 0) h = _ from ?_)
  unfold B110
  rw [nil_ptr, addr_at, load1_at, Nat.zero_add, hc, optS_at]
  rw [show ∀ k, eqS (.pointer 72) .eql (.ptr p 0) .nilPtr k = k (.bool false) from fun k => rfl, ifS_false, nil_ptr, addr_at, load1_at, Nat.zero_add, hc, optS_at]
  show bindS (vh h (eqOp .neq (bif true && Nat.beq p p then some (Nat.beq 0 0) else none))) _ = _
  rw [Nat.beq_refl]
  rfl
/-- a byte appended to a growing row. -/
theorem app_byte {h : Hp} {b : Nat} {c : Tr V} {l : List UInt8} {x : UInt8} {t : Nat} {ct : Tr V} {nt gt et kt} (hb : h.t.get b = some (.cells c l.length true 5)) (ht : h.t.get t = some (.cells ct nt gt et)) (hx : ct.get 0 = some (u8 x)) (hl : l.length + 1 ≤ 1073741824) :
    appS 5 1 1 (.slice b 0 l.length 0 true) (.slice t 0 1 kt false) h = some (.slice h.n 0 (l.length + 1) 0 true, (h.put b .dead).new (.cells (c.set l.length (u8 x)) (l.length + 1) true 5)) := by
  unfold appS newCells
  simp only [ht, cellsT, Nat.mul_one]
  have e1 : ct.getL 0 1 = some [u8 x] := by simp only [Tr.getL, hx]
  rw [e1]
  show appGo h 5 1 1 _ (some (1, [u8 x])) = _
  show appSl h 5 1 1 b 0 l.length 0 true 1 [u8 x] = _
  unfold appSl
  rw [hb]
  have r1 : roomB ((l.length + 1) * 1) = true := by rw [Nat.mul_one]; exact Nat.ble_eq_true_of_le hl
  have r2 : roomB (l.length + 1) = true := Nat.ble_eq_true_of_le hl
  have r3 : Nat.ble (l.length * 1) l.length = true := Nat.ble_eq_true_of_le (by omega)
  have r4 : Nat.ble ((l.length + 1) * 1) l.length = false := by
    cases hb : Nat.ble ((l.length + 1) * 1) l.length with
    | false => rfl
    | true => have := Nat.le_of_ble_eq_true hb; omega
  simp only [r1, r2, r3, r4, Bool.true_and, Bool.and_true, Bool.and_self, Nat.beq_refl, Bool.not_true, Bool.false_or, Bool.false_and, cond_true, cond_false, show Nat.beq 1 0 = false from rfl, show Nat.beq 0 0 = true from rfl, show Nat.beq 5 5 = true from rfl, Bool.not_false, Bool.or_false, Bool.or_true, Bool.true_or]
  unfold appGrow
  simp only [Nat.mul_one, Tr.setL]
theorem tmp_byte (h : Hp) (x : UInt8) : bldSl h [(0, u8 x)] 5 1 1 (.int .u8 (.ofNat 0)) = some (.slice h.n 0 1 1 false, h.newRow 5 [u8 x] false) := rfl
theorem write {h : Hp} {p : Nat} {l : List UInt8} (H : Bd h p l) (x : UInt8) (hl : l.length + 1 ≤ 1073741824) : ∃ h', LA 186 [.ptr p 0, u8 x] h = some (.nilIface, h') ∧ Bd h' p (l ++ [x]) := by
  obtain ⟨wf, cp, gp, b, c, hp, h0, h1, hbp, hb, hc⟩ := H
  have pn := lt_of_get wf hp
  have bn := lt_of_get wf hb
  let h2 := h.newRow 5 [u8 x] false
  let h3 := (h2.put b .dead).new (.cells (c.set l.length (u8 x)) (l.length + 1) true 5)
  have n2 : h2.n = h.n + 1 := rfl
  have g2 : ∀ y, h2.t.get y = if h.n = y then some (.cells (Tr.nil.setL 0 [u8 x]) 1 false 5) else h.t.get y := fun y => new_get ..
  have g3 : ∀ y, h3.t.get y = if h.n + 1 = y then some (.cells (c.set l.length (u8 x)) (l.length + 1) true 5) else if b = y then some .dead else if h.n = y then some (.cells (Tr.nil.setL 0 [u8 x]) 1 false 5) else h.t.get y := fun y => by
    show ((h2.put b .dead).new _).t.get y = _
    rw [new_get, put_get, g2]; rfl
  have g3p : h3.t.get p = some (.cells cp 2 gp 72) := by rw [g3, if_neg (by omega), if_neg hbp, if_neg (by omega), hp]
  refine ⟨h3.wr p 1 (.slice (h.n + 1) 0 (l.length + 1) 0 true), ?_, ?_, ?_⟩
  · refine @lim_ent Tryz.prog (orc fnA Inv) labs 186 G186 (E186 fnA Inv fun _ _ => rfl) _ _ _ (show B186 LA (.ptr p 0) (u8 x) h = _ from ?_)
    unfold B186
    rw [check (cell_of hp h0), bindS_at, nil_ptr, addr_at, load1_at, Nat.zero_add, cell_of hp h1, optS_at, tmp_byte, bindS_at]
    rw [app_byte (h := h2) (x := x) (by rw [g2, if_neg (by omega), hb]) (by rw [g2, if_pos rfl]) (by simp only [Tr.setL]; rw [Tr.get_set, if_pos rfl]) hl, bindS_at, nil_ptr, addr_at]
    have hw : 1 < h3.wide p := by unfold Hp.wide; rw [g3p]; show 1 < 2; omega
    exact storeC_at (b := p) (o := 1) (h := h3) _ rfl hw
  · intro y hy
    rw [wr_n] at hy
    have hy' : h.n + 2 ≤ y := hy
    rw [wr_get_ne _ _ _ (by omega), g3, if_neg (by omega), if_neg (by omega), if_neg (by omega)]
    exact wf y (by omega)
  · refine ⟨cp.set 1 (.slice (h.n + 1) 0 (l.length + 1) 0 true), gp, h.n + 1, c.set l.length (u8 x), ?_, ?_, ?_, ?_, ?_, ?_⟩
    · rw [wr_of g3p, put_get, if_pos rfl]
    · rw [Tr.get_set, if_neg (by decide), h0]
    · rw [Tr.get_set, if_pos rfl]; simp
    · omega
    · rw [wr_get_ne _ _ _ (by omega), g3, if_pos rfl]; simp
    · intro i hi
      rw [Tr.get_set]
      by_cases hil : l.length = i
      · subst hil; rw [if_pos rfl]; simp
      · rw [if_neg hil]
        have hi' : i < l.length := by simp at hi; omega
        rw [hc i hi', List.getElem?_append_left hi']
/-- the first byte. -/
theorem first {h : Hp} (wf : ∀ b, h.n ≤ b → h.t.get b = none) {p : Nat} {cp : Tr V} {gp : Bool} (hp : h.t.get p = some (.cells cp 2 gp 72)) (c0 : cp.get 0 = some .nilPtr) (c1 : cp.get 1 = some .nilSlice) (x : UInt8) : ∃ h', LA 186 [.ptr p 0, u8 x] h = some (.nilIface, h') ∧ Bd h' p [x] := by
  have pn := lt_of_get wf hp
  let h1 := h.wr p 0 (.ptr p 0)
  have hw : 0 < h.wide p := by unfold Hp.wide; rw [hp]; show 0 < 2; omega
  have chk : LA 110 [.ptr p 0] h = some (.tuple [], h1) := by
    refine @lim_ent Tryz.prog (orc fnA Inv) labs 110 G110 (E110 fnA Inv fun _ _ => rfl) _ _ _ (show B110 LA (.ptr p 0) h = _ from ?_)
    unfold B110
    rw [nil_ptr, addr_at, load1_at, Nat.zero_add, cell_of hp c0, optS_at, show ∀ k, eqS (.pointer 72) .eql .nilPtr .nilPtr k = k (.bool true) from fun k => rfl, ifS_true]
    have e1 : bareV h (.ptr p 0) = some (.ptr p 0) := by unfold bareV; simp only [hp]; rfl
    rw [e1]
    rw [show vh h (some (V.ptr p 0)) = some (.ptr p 0, h) from rfl, bindS_at]
    have e2 : LA 188 [.ptr p 0] h = some (.ptr p 0, h) := @lim_ent Tryz.prog (orc fnA Inv) labs 188 GtabA188 (EtabA188 Inv) _ _ _ rfl
    rw [e2, bindS_at]
    have e3 : typedV h 72 2 (.ptr p 0) = some (.ptr p 0) := by unfold typedV; simp only [hp]; rfl
    rw [e3, show vh h (some (V.ptr p 0)) = some (.ptr p 0, h) from rfl, bindS_at, nil_ptr, addr_at]
    exact storeC_at (b := p) (o := 0) (h := h) _ rfl hw
  have g1p : h1.t.get p = some (.cells (cp.set 0 (.ptr p 0)) 2 gp 72) := by show (h.wr p 0 _).t.get p = _; rw [wr_of hp, put_get, if_pos rfl]
  have n1 : h1.n = h.n := wr_n _ _ _ _
  have g1 : ∀ y, p ≠ y → h1.t.get y = h.t.get y := fun y hy => wr_get_ne _ _ _ hy
  let h2 := h1.newRow 5 [u8 x] false
  let h3 := h2.newRow 5 [u8 x] true
  have n2 : h2.n = h.n + 1 := by show h1.n + 1 = _; rw [n1]
  have g2 : ∀ y, h2.t.get y = if h.n = y then some (.cells (Tr.nil.setL 0 [u8 x]) 1 false 5) else h1.t.get y := fun y => by
    show (h1.new _).t.get y = _
    rw [new_get, n1]; rfl
  have g3 : ∀ y, h3.t.get y = if h.n + 1 = y then some (.cells (Tr.nil.setL 0 [u8 x]) 1 true 5) else h2.t.get y := fun y => by
    show (h2.new _).t.get y = _
    rw [new_get, n2]; rfl
  have g3p : h3.t.get p = some (.cells (cp.set 0 (.ptr p 0)) 2 gp 72) := by rw [g3, if_neg (by omega), g2, if_neg (by omega), g1p]
  refine ⟨h3.wr p 1 (.slice (h.n + 1) 0 1 0 true), ?_, ?_, ?_⟩
  · refine @lim_ent Tryz.prog (orc fnA Inv) labs 186 G186 (E186 fnA Inv fun _ _ => rfl) _ _ _ (show B186 LA (.ptr p 0) (u8 x) h = _ from ?_)
    unfold B186
    have hc1 : h1.cell p 1 = some .nilSlice := cell_of g1p (by rw [Tr.get_set, if_neg (by decide), c1])
    rw [chk, bindS_at, nil_ptr, addr_at, load1_at, Nat.zero_add, hc1, optS_at, tmp_byte, bindS_at]
    have ha : appS 5 1 1 .nilSlice (.slice h1.n 0 1 1 false) h2 = some (.slice (h.n + 1) 0 1 0 true, h3) := by
      unfold appS newCells
      have e0 : h2.t.get h1.n = some (.cells (Tr.nil.setL 0 [u8 x]) 1 false 5) := by rw [g2, if_pos n1.symm]
      simp only [e0, cellsT, Nat.mul_one]
      have e1 : (Tr.nil.setL 0 [u8 x]).getL 0 1 = some [u8 x] := by simp only [Tr.getL, Tr.setL]; rw [Tr.get_set, if_pos rfl]
      rw [e1]
      rw [← n2]; rfl
    rw [ha, bindS_at, nil_ptr, addr_at]
    have hw3 : 1 < h3.wide p := by unfold Hp.wide; rw [g3p]; show 1 < 2; omega
    exact storeC_at (b := p) (o := 1) (h := h3) _ rfl hw3
  · intro y hy
    rw [wr_n] at hy
    have hy' : h2.n + 1 ≤ y := hy
    rw [wr_get_ne _ _ _ (by omega), g3, if_neg (by omega), g2, if_neg (by omega), g1 y (by omega)]
    exact wf y (by omega)
  · refine ⟨(cp.set 0 (.ptr p 0)).set 1 (.slice (h.n + 1) 0 1 0 true), gp, h.n + 1, Tr.nil.setL 0 [u8 x], ?_, ?_, ?_, ?_, ?_, ?_⟩
    · rw [wr_of g3p, put_get, if_pos rfl]
    · rw [Tr.get_set, if_neg (by decide), Tr.get_set, if_pos rfl]
    · rw [Tr.get_set, if_pos rfl]; rfl
    · omega
    · rw [wr_get_ne _ _ _ (by omega), g3, if_pos rfl]; rfl
    · intro i hi
      have : i = 0 := by simp at hi; omega
      subst this
      simp only [Tr.setL]; rw [Tr.get_set, if_pos rfl]; rfl
theorem getL_map {α β : Type} {f : α → β} : ∀ (l : List α) (c : Tr β) (o : Nat), (∀ i, i < l.length → c.get (o + i) = (l[i]?).map f) → c.getL o l.length = some (l.map f)
  | [], _, _, _ => rfl
  | a :: l, c, o, h => by
    have h1 := h 0 (by simp)
    simp only [Nat.add_zero, List.getElem?_cons_zero, Option.map_some] at h1
    have h2 := getL_map l c (o + 1) fun i hi => by
      have := h (i + 1) (by simpa using hi)
      rw [show o + 1 + i = o + (i + 1) by omega, this]; rfl
    simp only [List.length_cons, Tr.getL, h1, h2]; rfl
theorem bytesS_map : ∀ l : List UInt8, bytesS (l.map u8) = some l
  | [] => rfl
  | a :: l => by
    rw [List.map_cons]
    show (bif Nat.blt a.toNat 256 then (match bytesS (l.map u8) with
      | some r => some (UInt8.ofNat a.toNat :: r)
      | none => none) else none) = _
    rw [show Nat.blt a.toNat 256 = true from Nat.ble_eq_true_of_le a.toNat_lt, bytesS_map l]
    simp
/-- what has been written. -/
theorem text_of {h : Hp} {p : Nat} {l : List UInt8} (H : Bd h p l) (h0 : l ≠ []) (hl : l.length ≤ 1073741824) : ∃ h', LA 56 [.ptr p 0] h = some (.str l, h') := by
  obtain ⟨wf, cp, gp, b, c, hp, c0, c1, hbp, hb, hc⟩ := H
  obtain ⟨n, hn⟩ : ∃ n, l.length = n + 1 := ⟨l.length - 1, by have := List.length_pos_iff.2 h0; omega⟩
  refine ⟨h.put b (.ro c 5), ?_⟩
  refine @lim_ent Tryz.prog (orc fnA Inv) labs 56 G56 (E56 fnA Inv fun _ _ => rfl) _ _ _ (show B56 LA (.ptr p 0) h = _ from ?_)
  unfold B56
  rw [nil_ptr, addr_at, load1_at, Nat.zero_add, cell_of hp c1, optS_at]
  have e1 : headV h (.slice b 0 l.length 0 true) = some (.ptr b 0) := by
    unfold headV; simp only [hb]
    have : Nat.blt 0 l.length = true := Nat.ble_eq_true_of_le (by omega)
    rw [this]; rfl
  rw [e1, show vh h (some (V.ptr b 0)) = some (.ptr b 0, h) from rfl, bindS_at, nil_ptr, addr_at, load1_at, Nat.zero_add, cell_of hp c1, optS_at, lenSl_at]
  have e2 : seeV h 5 (.ptr b 0) (.int .i64 (l.length : Nat)) = some (.str l, h.put b (.ro c 5)) := by
    rw [hn]
    show seeV h 5 (.ptr b 0) (.int .i64 (.ofNat (n + 1))) = _
    unfold seeV
    simp only [hb]
    have e3 : c.getL 0 (n + 1) = some (l.map u8) := by rw [← hn]; exact getL_map l c 0 fun i hi => by rw [Nat.zero_add]; exact hc i hi
    rw [e3]
    simp only [bytesS_map, Nat.beq_refl, show Nat.beq 5 5 = true from rfl, Bool.true_and]
    rw [show Nat.ble (n + 1) l.length = true from Nat.ble_eq_true_of_le (by omega), show Nat.ble (n + 1) 9223372036854775807 = true from Nat.ble_eq_true_of_le (by omega)]
    rfl
  rw [e2, bindS_at]
/-- letters, one behind the other. -/
theorem letters {z : List UInt8} (hz : ∀ b ∈ z, b = 122) (hl : z.length ≤ 1048576) {p : Nat} : ∀ (k i : Nat) (h : Hp), i + k = z.length → Bd h p (34 :: z.take i) → ∃ h', LA 67 [.str z, .ptr p 0, .int .i64 (z.length : Nat), .int .i64 (i : Nat)] h = some (.str (34 :: z ++ [34]), h')
  | 0, i, h, hi, H => by
    have hi' : i = z.length := by omega
    subst hi'
    rw [List.take_length] at H
    obtain ⟨h1, e1, H1⟩ := write H 34 (by simp; omega)
    obtain ⟨h2, e2⟩ := text_of H1 (by simp) (by simp; omega)
    refine ⟨h2, ?_⟩
    refine @lim_ent Tryz.prog (orc fnA Inv) labs 67 G67 (E67 fnA Inv) _ _ _ (show B67 LA (.str z) (.ptr p 0) (.int .i64 (z.length : Nat)) (.int .i64 (z.length : Nat)) h = _ from ?_)
    unfold B67
    rw [intS_at, int_lss, optS_at, decide_eq_false (by omega), ifS_false]
    show bindS (LA 186 [.ptr p 0, u8 34] h) _ = _
    rw [e1, bindS_at, e2, bindS_at]
  | k + 1, i, h, hi, H => by
    have hlt : i < z.length := by omega
    have hzi : z[i] = 122 := hz _ (List.getElem_mem hlt)
    obtain ⟨h1, e1, H1⟩ := write H 122 (by simp; omega)
    have ht : z.take (i + 1) = z.take i ++ [122] := by rw [List.take_succ, List.getElem?_eq_getElem hlt, hzi]; rfl
    obtain ⟨h2, e2⟩ := letters hz hl k (i + 1) h1 (by omega) (by rw [ht]; exact H1)
    refine ⟨h2, ?_⟩
    refine @lim_ent Tryz.prog (orc fnA Inv) labs 67 G67 (E67 fnA Inv) _ _ _ (show B67 LA (.str z) (.ptr p 0) (.int .i64 (z.length : Nat)) (.int .i64 (i : Nat)) h = _ from ?_)
    have e3 : LA 69 [.str z, .ptr p 0, .int .i64 (z.length : Nat), .int .i64 (i : Nat)] h1 = some (.str (34 :: z ++ [34]), h2) := by
      refine @lim_ent Tryz.prog (orc fnA Inv) labs 69 G69 (E69 fnA Inv) _ _ _ (show B69 LA (.str z) (.ptr p 0) (.int .i64 (z.length : Nat)) (.int .i64 (i : Nat)) h1 = _ from ?_)
      unfold B69
      rw [intS_at, int_add, optS_at]
      have : IntKind.wrap .i64 ((i : Int) + Int.ofNat 1) = ((i + 1 : Nat) : Int) := by
        rw [← fwrap_eq]
        show (bif Nat.ble (i + 1) (kTop .i64) then Int.ofNat (i + 1) else _) = _
        rw [show Nat.ble (i + 1) (kTop .i64) = true from Nat.ble_eq_true_of_le (by show i + 1 ≤ 9223372036854775807; omega)]; rfl
      rw [this]; exact e2
    unfold B67
    rw [intS_at, int_lss, optS_at, decide_eq_true (by omega), ifS_true, idxStr_at _ _ _ _ hlt, hzi]
    show bindS (LA 186 [.ptr p 0, u8 122] h) _ = _
    rw [e1, bindS_at, e3]
theorem quote {z : List UInt8} (hz : ∀ b ∈ z, b = 122) (hl : z.length ≤ 1048576) {h : Hp} (wf : ∀ b, h.n ≤ b → h.t.get b = none) : ∃ h', LA 108 [.str z] h = some (.str (34 :: z ++ [34]), h') := by
  obtain ⟨h1, e1, H1⟩ := first (h := h.newRow 72 [.nilPtr, .nilSlice] false) (p := h.n) (cp := Tr.nil.setL 0 [.nilPtr, .nilSlice]) (gp := false) (by
      intro b hb
      have hb' : h.n + 1 ≤ b := hb
      rw [newRow_get, if_neg (by omega)]; exact wf b (by omega)) (by rw [newRow_get, if_pos rfl]; rfl) (by rw [Tr.get_setL]; rfl) (by rw [Tr.get_setL]; rfl) 34
  obtain ⟨h2, e2⟩ := letters hz hl z.length 0 h1 (by omega) (by simpa using H1)
  refine ⟨h2, ?_⟩
  refine @lim_ent Tryz.prog (orc fnA Inv) labs 108 G108 (E108 fnA Inv fun _ _ => rfl) _ _ _ (show B108 LA (.str z) h = _ from ?_)
  unfold B108
  rw [newS_at]
  show bindS (LA 186 [.ptr h.n 0, u8 34] _) _ = _
  rw [e1, bindS_at, lenStr_at]
  exact e2
end Go.SN
