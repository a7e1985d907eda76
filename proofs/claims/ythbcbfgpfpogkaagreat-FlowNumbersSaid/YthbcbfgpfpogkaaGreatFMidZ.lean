/- How shallow texts are walked by hand: the heap by its cells, one law for each operation. -/
import Derived.Test.YthbcbfgpfpogkaaGreatFMidY
set_option linter.all false
set_option warn.classDefReducibility false
namespace Go.Mid

/-! the heap, by its cells -/
noncomputable def Hp.ob (h : Hp) (b : Nat) : Option Ob := h.t.get b
/-- what a cell holds. -/
noncomputable def Hp.cell (h : Hp) (b o : Nat) : Option V := match cellsT (h.t.get b) with
  | some c => c.get o
  | none => none
/-- how many cells of a block may be written. -/
noncomputable def Hp.wide (h : Hp) (b : Nat) : Nat := match h.t.get b with
  | some (.cells _ n _ _) => n
  | _ => 0
noncomputable def Hp.cells (h : Hp) (b o : Nat) : Nat → Option (List V)
  | 0 => some []
  | n + 1 => match h.cell b o with
    | none => none
    | some v => match Hp.cells h b (o + 1) n with
      | none => none
      | some l => some (v :: l)
noncomputable def Hp.wr (h : Hp) (b o : Nat) (v : V) : Hp := match h.t.get b with
  | some (.cells c n g e) => h.put b (.cells (c.set o v) n g e)
  | _ => h
noncomputable def Hp.wrL (h : Hp) (b o : Nat) (l : List V) : Hp := match h.t.get b with
  | some (.cells c n g e) => h.put b (.cells (c.setL o l) n g e)
  | _ => h
noncomputable def Hp.dict (h : Hp) (b : Nat) : Option (List (V × V)) := match h.t.get b with
  | some (.map es) => some es
  | _ => none
/-- no block stands behind the last one. -/
def Hp.Wf (h : Hp) : Prop := ∀ b, h.n ≤ b → h.t.get b = none
theorem Hp.Wf.cell {h : Hp} (hw : h.Wf) {b o : Nat} {v : V} (hc : h.cell b o = some v) : b < h.n := by
  rcases Nat.lt_or_ge b h.n with h1 | h1
  · exact h1
  · unfold Hp.cell at hc; rw [hw b h1] at hc; cases hc
theorem Hp.Wf.wide {h : Hp} (hw : h.Wf) {b o : Nat} (hc : o < h.wide b) : b < h.n := by
  rcases Nat.lt_or_ge b h.n with h1 | h1
  · exact h1
  · unfold Hp.wide at hc; rw [hw b h1] at hc; simp at hc
theorem Hp.Wf.dict {h : Hp} (hw : h.Wf) {b : Nat} {es : List (V × V)} (hc : h.dict b = some es) : b < h.n := by
  rcases Nat.lt_or_ge b h.n with h1 | h1
  · exact h1
  · unfold Hp.dict at hc; rw [hw b h1] at hc; cases hc

theorem getL_cells_eq {h : Hp} {b : Nat} {c : Tr V} (hc : cellsT (h.t.get b) = some c) : ∀ n o, c.getL o n = h.cells b o n
  | 0, _ => rfl
  | n + 1, o => by
    simp only [Tr.getL_succ, Hp.cells, Hp.cell, hc, getL_cells_eq hc n]
    cases c.get o with
    | none => rfl
    | some v => cases h.cells b (o + 1) n <;> rfl

/-! a new row -/
theorem newRow_n (h : Hp) (e : TypeId) (cs : List V) (g : Bool) : (h.newRow e cs g).n = h.n + 1 := rfl
theorem newRow_get (h : Hp) (e : TypeId) (cs : List V) (g : Bool) (b : Nat) : (h.newRow e cs g).t.get b = if h.n = b then some (.cells (Tr.nil.setL 0 cs) cs.length g e) else h.t.get b := by
  simp only [Hp.newRow, Hp.new, Tr.get_set]
theorem newRow_wf {h : Hp} (hw : h.Wf) (e : TypeId) (cs : List V) (g : Bool) : (h.newRow e cs g).Wf := by
  intro b hb
  rw [newRow_n] at hb
  rw [newRow_get, if_neg (by omega)]; exact hw b (by omega)
theorem newRow_cell (h : Hp) (e : TypeId) (cs : List V) (g : Bool) (b o : Nat) : (h.newRow e cs g).cell b o = if h.n = b then cs[o]? else h.cell b o := by
  unfold Hp.cell
  rw [newRow_get]
  by_cases hb : h.n = b
  · rw [if_pos hb, if_pos hb]
    simp only [cellsT]
    rw [Tr.get_setL, Tr.get_nil]
    by_cases ho : o < cs.length
    · rw [if_pos ⟨Nat.zero_le _, by omega⟩]; simp
    · rw [if_neg (by omega), List.getElem?_eq_none (by omega)]
  · rw [if_neg hb, if_neg hb]
theorem newRow_wide (h : Hp) (e : TypeId) (cs : List V) (g : Bool) (b : Nat) : (h.newRow e cs g).wide b = if h.n = b then cs.length else h.wide b := by
  unfold Hp.wide
  rw [newRow_get]
  by_cases hb : h.n = b
  · rw [if_pos hb, if_pos hb]
  · rw [if_neg hb, if_neg hb]
/-! a write -/
theorem wr_of {h : Hp} {b o : Nat} {v : V} {c : Tr V} {n : Nat} {g : Bool} {e : TypeId} (hg : h.t.get b = some (.cells c n g e)) : h.wr b o v = h.put b (.cells (c.set o v) n g e) := by
  unfold Hp.wr; rw [hg]
theorem wrL_of {h : Hp} {b o : Nat} {l : List V} {c : Tr V} {n : Nat} {g : Bool} {e : TypeId} (hg : h.t.get b = some (.cells c n g e)) : h.wrL b o l = h.put b (.cells (c.setL o l) n g e) := by
  unfold Hp.wrL; rw [hg]
theorem wide_of {h : Hp} {b o : Nat} (hc : o < h.wide b) : ∃ c n g e, h.t.get b = some (.cells c n g e) ∧ o < n := by
  unfold Hp.wide at hc
  split at hc
  · rename_i c n g e heq; exact ⟨c, n, g, e, heq, hc⟩
  · omega
theorem wr_n (h : Hp) (b o : Nat) (v : V) : (h.wr b o v).n = h.n := by unfold Hp.wr; split <;> rfl
theorem wrL_n (h : Hp) (b o : Nat) (l : List V) : (h.wrL b o l).n = h.n := by unfold Hp.wrL; split <;> rfl
theorem wr_low (h : Hp) (b o : Nat) (v : V) : Nat.min b h.low ≤ (h.wr b o v).low := by
  unfold Hp.wr; split
  · exact Nat.le_refl _
  · exact Nat.min_le_right _ _
theorem wrL_low (h : Hp) (b o : Nat) (l : List V) : Nat.min b h.low ≤ (h.wrL b o l).low := by
  unfold Hp.wrL; split
  · exact Nat.le_refl _
  · exact Nat.min_le_right _ _
theorem wr_get_ne (h : Hp) {b x : Nat} (o : Nat) (v : V) (hx : b ≠ x) : (h.wr b o v).t.get x = h.t.get x := by
  unfold Hp.wr; split
  · simp only [Hp.put]; rw [Tr.get_set_ne _ _ hx]
  · rfl
theorem wrL_get_ne (h : Hp) {b x : Nat} (o : Nat) (l : List V) (hx : b ≠ x) : (h.wrL b o l).t.get x = h.t.get x := by
  unfold Hp.wrL; split
  · simp only [Hp.put]; rw [Tr.get_set_ne _ _ hx]
  · rfl
theorem wr_wf {h : Hp} (hw : h.Wf) (b o : Nat) (v : V) : (h.wr b o v).Wf := by
  intro x hx
  rw [wr_n] at hx
  by_cases e : b = x
  · subst e
    have := hw b hx
    unfold Hp.wr; rw [this]; exact this
  · rw [wr_get_ne _ _ _ e]; exact hw x hx
theorem wrL_wf {h : Hp} (hw : h.Wf) (b o : Nat) (l : List V) : (h.wrL b o l).Wf := by
  intro x hx
  rw [wrL_n] at hx
  by_cases e : b = x
  · subst e
    have := hw b hx
    unfold Hp.wrL; rw [this]; exact this
  · rw [wrL_get_ne _ _ _ e]; exact hw x hx
theorem wrL_cell {h : Hp} {b o : Nat} {l : List V} (hc : o + l.length ≤ h.wide b) (hp : 0 < h.wide b) (x y : Nat) : (h.wrL b o l).cell x y = if b = x ∧ o ≤ y ∧ y < o + l.length then l[y - o]? else h.cell x y := by
  obtain ⟨c, n, g, e, hg, _⟩ := wide_of hp
  by_cases hx : b = x
  · subst hx
    rw [wrL_of hg]
    simp only [Hp.cell, Hp.put, Tr.get_set_same, cellsT, hg, Tr.get_setL, true_and]
  · rw [if_neg (fun h => hx h.1)]
    unfold Hp.cell
    rw [wrL_get_ne _ _ _ hx]
/-! what a call leaves as it was -/
/-- all blocks that were there are as they were, but for some. -/
structure Kp (S : Nat → Prop) (h h' : Hp) : Prop where
  wf : h.Wf → h'.Wf
  n : h.n ≤ h'.n
  get : ∀ b, b < h.n → ¬ S b → h'.t.get b = h.t.get b
  low : ∀ m, m ≤ h.n → m ≤ h.low → (∀ b, S b → m ≤ b) → m ≤ h'.low
abbrev no : Nat → Prop := fun _ => False
variable {S S' : Nat → Prop} {h0 h h' : Hp}
theorem Kp.refl (S : Nat → Prop) (h : Hp) : Kp S h h := ⟨fun w => w, Nat.le_refl _, fun _ _ _ => rfl, fun _ _ h _ => h⟩
theorem Kp.call (k : Kp S h0 h) (k' : Kp S' h h') (hs : ∀ b, S' b → S b ∨ h0.n ≤ b) : Kp S h0 h' :=
  ⟨fun w => k'.wf (k.wf w), Nat.le_trans k.n k'.n, fun b hb hn => by
    rw [k'.get b (Nat.lt_of_lt_of_le hb k.n) (fun e => (hs b e).elim hn (fun e => by omega)), k.get b hb hn], fun m h1 h2 h3 =>
    k'.low m (Nat.le_trans h1 k.n) (k.low m h1 h2 h3) fun b hb => (hs b hb).elim (h3 b) (fun e => Nat.le_trans h1 e)⟩
theorem Kp.then (k : Kp S h0 h) (k' : Kp no h h') : Kp S h0 h' := k.call k' fun _ h => h.elim
theorem Kp.mono (k : Kp S h h') (hs : ∀ b, S b → S' b) : Kp S' h h' := (Kp.refl S' h).call k fun b hb => .inl (hs b hb)
theorem Kp.newRow (k : Kp S h0 h) (e : TypeId) (cs : List V) (g : Bool) : Kp S h0 (h.newRow e cs g) :=
  k.then ⟨fun w => newRow_wf w _ _ _, Nat.le_succ _, fun b hb _ => by rw [newRow_get, if_neg (by omega)], fun _ _ h _ => h⟩
theorem Kp.wr (k : Kp S h0 h) {b : Nat} (o : Nat) (v : V) (hb : S b ∨ h0.n ≤ b) : Kp S h0 (h.wr b o v) :=
  k.call (S' := fun x => x = b) ⟨fun w => wr_wf w _ _ _, by rw [wr_n]; exact Nat.le_refl _, fun x _ hx => wr_get_ne _ _ _ (Ne.symm hx), fun m _ h2 h3 => Nat.le_trans (Nat.le_min.2 ⟨h3 b rfl, h2⟩) (wr_low _ _ _ _)⟩ fun x hx => by subst hx; exact hb
theorem Kp.wrL (k : Kp S h0 h) {b : Nat} (o : Nat) (l : List V) (hb : S b ∨ h0.n ≤ b) : Kp S h0 (h.wrL b o l) :=
  k.call (S' := fun x => x = b) ⟨fun w => wrL_wf w _ _ _, by rw [wrL_n]; exact Nat.le_refl _, fun x _ hx => wrL_get_ne _ _ _ (Ne.symm hx), fun m _ h2 h3 => Nat.le_trans (Nat.le_min.2 ⟨h3 b rfl, h2⟩) (wrL_low _ _ _ _)⟩ fun x hx => by subst hx; exact hb
theorem Kp.cell (k : Kp S h h') {b : Nat} (hb : b < h.n) (hn : ¬ S b) (o : Nat) : h'.cell b o = h.cell b o := by unfold Hp.cell; rw [k.get b hb hn]
theorem Kp.wide (k : Kp S h h') {b : Nat} (hb : b < h.n) (hn : ¬ S b) : h'.wide b = h.wide b := by unfold Hp.wide; rw [k.get b hb hn]
theorem Kp.dict (k : Kp S h h') {b : Nat} (hb : b < h.n) (hn : ¬ S b) : h'.dict b = h.dict b := by unfold Hp.dict; rw [k.get b hb hn]

/-! operations -/
variable {k : V → VH} {K : V → Hp → VH}
theorem bindS_at (v : V) (h : Hp) (K : V → Hp → VH) : bindS (some (v, h)) K = K v h := rfl
theorem optS_at (v : V) (k : V → VH) : optS (some v) k = k v := rfl
theorem lstE_at (l : List V) (k : List V → VH) : lstE (some l) k = k l := rfl
theorem ifS_true (x y : VH) : ifS (.bool true) x y = x := rfl
theorem ifS_false (x y : VH) : ifS (.bool false) x y = y := rfl
theorem guard_tt (x : VH) (h : Hp) (K : V → Hp → VH) : guardS (.bool true) true x h K = bindS x K := rfl
theorem guard_tf (x : VH) (h : Hp) (K : V → Hp → VH) : guardS (.bool true) false x h K = K undefV h := rfl
theorem guard_ft (x : VH) (h : Hp) (K : V → Hp → VH) : guardS (.bool false) true x h K = K undefV h := rfl
theorem guard_ff (x : VH) (h : Hp) (K : V → Hp → VH) : guardS (.bool false) false x h K = bindS x K := rfl
theorem guard_u (w : Bool) (x : VH) (h : Hp) (K : V → Hp → VH) : guardS undefV w x h K = K undefV h := rfl
theorem pick_t (a b : V) (k : V → VH) : optS (pickV (.bool true) a b) k = k a := rfl
theorem pick_f (a b : V) (k : V → VH) : optS (pickV (.bool false) a b) k = k b := rfl
theorem addr_at (off b o : Nat) (k : V → VH) : addrS off (.ptr b o) k = k (.ptr b (o + off)) := rfl
theorem load1_at (b o : Nat) (h : Hp) (k : V → VH) : load1 (.ptr b o) h k = optS (h.cell b o) k := by
  show trO (cellsT (h.t.get b)) (fun c => optS (c.get o) k) = _
  unfold Hp.cell
  cases cellsT (h.t.get b) <;> rfl
theorem loadN_at (s b o : Nat) (h : Hp) (k : V → VH) (hs : s ≠ 0) : loadN s (.ptr b o) h k = lstE (h.cells b o s) fun l => k (.agg l) := by
  show trO (cellsT (h.t.get b)) (fun c => lstE (c.getL o s) fun l => k (.agg l)) = _
  cases hc : cellsT (h.t.get b) with
  | none =>
    cases s with
    | zero => exact absurd rfl hs
    | succ s => simp only [Hp.cells, Hp.cell, hc]; rfl
  | some c => rw [← getL_cells_eq hc]; rfl
theorem storeC_at {b o : Nat} {x : V} {h : Hp} (k : Hp → VH) (h1 : oneCell x = true) (h2 : o < h.wide b) : storeC (.ptr b o) x h k = k (h.wr b o x) := by
  obtain ⟨c, n, g, e, hg, hlt⟩ := wide_of h2
  unfold storeC
  rw [h1]
  show cellE (h.t.get b) (fun c n g e => Bool.rec (motive := fun _ => VH) none (k (h.put b (.cells (c.set o x) n g e))) (Nat.ble (Nat.succ o) n)) = _
  rw [hg]
  show Bool.rec (motive := fun _ => VH) none (k (h.put b (.cells (c.set o x) n g e))) (Nat.ble (Nat.succ o) n) = _
  rw [wr_of hg, show Nat.ble (Nat.succ o) n = true from Nat.ble_eq_true_of_le hlt]
theorem storeN_at {s b o : Nat} {l : List V} {h : Hp} (k : Hp → VH) (h0 : s ≠ 0) (h1 : l.length = s) (h2 : allOne l = true) (h3 : o + s ≤ h.wide b) : storeN s (.ptr b o) (.agg l) h k = k (h.wrL b o l) := by
  obtain ⟨c, n, g, e, hg, _⟩ := wide_of (h := h) (b := b) (o := o) (by omega)
  have hn : h.wide b = n := by unfold Hp.wide; rw [hg]
  show cellE (h.t.get b) (fun c n g e => whenE (Nat.beq l.length s && Nat.ble (o + s) n && allOne l) (k (h.put b (.cells (c.setL o l) n g e)))) = _
  rw [hg, wrL_of hg]
  show whenE (Nat.beq l.length s && Nat.ble (o + s) n && allOne l) (k (h.put b (.cells (c.setL o l) n g e))) = _
  have e1 : Nat.beq l.length s = true := by rw [h1]; exact Nat.beq_refl s
  have e2 : Nat.ble (o + s) n = true := Nat.ble_eq_true_of_le (by omega)
  rw [e1, e2, h2]; rfl
theorem newS_at (e : Nat) (cs : List V) (h : Hp) (K : V → Hp → VH) : newS e cs h K = K (.ptr h.n 0) (h.newRow e cs false) := rfl
theorem kEq_self (d : IntKind) : kEq d d = true := by cases d <;> rfl
theorem intS_at (op : BinOp) (d : IntKind) (m n : Int) (k : V → VH) : intS op (.int d m) (.int d n) k = optS (intOp op d m n) k := by
  show whenE (kEq d d) (optS (intOp op d m n) k) = _
  rw [kEq_self]; rfl
theorem int_add (d : IntKind) (m n : Int) : intOp .add d m n = some (.int d (d.wrap (m + n))) := by rw [← fwrap_eq, ← addF_eq]; rfl
theorem int_eql (d : IntKind) (m n : Int) : intOp .eql d m n = some (.bool (decide (m = n))) := by
  simp only [intOp, opQuo, opRem, opEql, opNeq, opLss, opLeq, opGtr, opGeq, iEq_eq]; congr 2
theorem int_neq (d : IntKind) (m n : Int) : intOp .neq d m n = some (.bool (decide (m ≠ n))) := by
  simp only [intOp, opQuo, opRem, opEql, opNeq, opLss, opLeq, opGtr, opGeq, iEq_eq]; congr 2; rw [Bool.eq_iff_iff]; simp
theorem int_lss (d : IntKind) (m n : Int) : intOp .lss d m n = some (.bool (decide (m < n))) := by simp only [intOp, opQuo, opRem, opEql, opNeq, opLss, opLeq, opGtr, opGeq, iLt_eq]
theorem int_leq (d : IntKind) (m n : Int) : intOp .leq d m n = some (.bool (decide (m ≤ n))) := by simp only [intOp, opQuo, opRem, opEql, opNeq, opLss, opLeq, opGtr, opGeq, not_iLt_le]
theorem int_gtr (d : IntKind) (m n : Int) : intOp .gtr d m n = some (.bool (decide (n < m))) := by simp only [intOp, opQuo, opRem, opEql, opNeq, opLss, opLeq, opGtr, opGeq, iLt_eq]
theorem int_geq (d : IntKind) (m n : Int) : intOp .geq d m n = some (.bool (decide (n ≤ m))) := by simp only [intOp, opQuo, opRem, opEql, opNeq, opLss, opLeq, opGtr, opGeq, not_iLt_le]
theorem not_at (b : Bool) (k : V → VH) : notS (.bool b) k = k (.bool (!b)) := rfl
theorem lenStr_at (l : Bs) (k : V → VH) : lenStr (.str l) k = k (.int .i64 (l.n : Nat)) := rfl
theorem lenSl_at (b o n c : Nat) (g : Bool) (k : V → VH) : lenSl (.slice b o n c g) k = k (.int .i64 (n : Nat)) := rfl
theorem idx_at (s b o n c : Nat) (g : Bool) (d : IntKind) (i : Nat) (k : V → VH) (hi : i < n) : idxS s (.slice b o n c g) (.int d (i : Nat)) k = k (.ptr b (o + i * s)) := by
  show whenE (Nat.blt i n) (k (.ptr b (o + i * s))) = _
  rw [show Nat.blt i n = true from Nat.ble_eq_true_of_le hi]; rfl
theorem idxStr_at (l : Bs) (d : IntKind) (i : Nat) (k : V → VH) (hi : i < l.n) : idxStr (.str l) (.int d (i : Nat)) k = k (.int .u8 (l.byte i : Nat)) := by
  show natO (l.get i) (fun b => k (.int .u8 (.ofNat b))) = _
  unfold Bs.get
  rw [show Nat.ble (Nat.succ i) l.n = true from Nat.ble_eq_true_of_le hi]; rfl
theorem nil_ptr (b o : Nat) (k : V → VH) : nilS (.ptr b o) k = k (.ptr b o) := rfl
theorem str_at (op : BinOp) (x y : Bs) (k : V → VH) : strS op (.str x) (.str y) k = optS (strOp op x y) k := rfl
theorem made_at (n low : Nat) (h : Hp) (k : Hp → VH) (hl : n ≤ h.low) : madeS n low h k = k ⟨h.t, h.n, low⟩ := by
  unfold madeS
  rw [show Nat.ble n h.low = true from Nat.ble_eq_true_of_le hl]; rfl
/-! a call's result, and what it leaves as it was -/
/-- a text answers; the answer is so; blocks that were there at first are as they were, but for some. -/
def Ret (h0 : Hp) (S : Nat → Prop) (Q : V → Hp → Prop) (x : VH) : Prop := ∃ v h', x = some (v, h') ∧ Q v h' ∧ Kp S h0 h'
def isB (v : V) (_ : Hp) : Prop := ∃ b, v = .bool b
def isI (v : V) (_ : Hp) : Prop := ∃ n, v = .int .i64 n
variable {Q Q' : V → Hp → Prop}
theorem Ret.done {v : V} (hq : Q v h) (hk : Kp S h0 h) : Ret h0 S Q (some (v, h)) := ⟨v, h, rfl, hq, hk⟩
theorem Ret.bool {b : Bool} (hk : Kp S h0 h) : Ret h0 S isB (some (.bool b, h)) := ⟨_, h, rfl, ⟨b, rfl⟩, hk⟩
theorem Ret.mono {x : VH} (hx : Ret h0 S Q' x) (hq : ∀ v h', Q' v h' → Q v h') : Ret h0 S Q x := let ⟨v, h', a, b, c⟩ := hx; ⟨v, h', a, hq v h' b, c⟩
theorem Ret.of {x : VH} (k : Kp S h0 h) (hx : Ret h S' Q x) (hs : ∀ b, S' b → S b ∨ h0.n ≤ b) : Ret h0 S Q x := let ⟨v, h', a, b, c⟩ := hx; ⟨v, h', a, b, k.call c hs⟩
theorem Ret.bind {x : VH} (hx : Ret h S' Q' x) (hK : ∀ v h', Q' v h' → Kp S' h h' → Ret h0 S Q (K v h')) : Ret h0 S Q (bindS x K) := by
  obtain ⟨v, h', rfl, hq, hk⟩ := hx
  exact hK v h' hq hk
theorem Ret.eql {d : IntKind} {m n : Int} (h1 : m = n → Ret h0 S Q (k (.bool true))) (h2 : m ≠ n → Ret h0 S Q (k (.bool false))) : Ret h0 S Q (intS .eql (.int d m) (.int d n) k) := by
  rw [intS_at, int_eql, optS_at]; by_cases h : m = n
  · rw [decide_eq_true h]; exact h1 h
  · rw [decide_eq_false h]; exact h2 h
theorem Ret.neq {d : IntKind} {m n : Int} (h1 : m ≠ n → Ret h0 S Q (k (.bool true))) (h2 : m = n → Ret h0 S Q (k (.bool false))) : Ret h0 S Q (intS .neq (.int d m) (.int d n) k) := by
  rw [intS_at, int_neq, optS_at]; by_cases h : m = n
  · rw [decide_eq_false (fun g => g h)]; exact h2 h
  · rw [decide_eq_true h]; exact h1 h
theorem Ret.lss {d : IntKind} {m n : Int} (h1 : m < n → Ret h0 S Q (k (.bool true))) (h2 : n ≤ m → Ret h0 S Q (k (.bool false))) : Ret h0 S Q (intS .lss (.int d m) (.int d n) k) := by
  rw [intS_at, int_lss, optS_at]; by_cases h : m < n
  · rw [decide_eq_true h]; exact h1 h
  · rw [decide_eq_false h]; exact h2 (by omega)
theorem Ret.leq {d : IntKind} {m n : Int} (h1 : m ≤ n → Ret h0 S Q (k (.bool true))) (h2 : n < m → Ret h0 S Q (k (.bool false))) : Ret h0 S Q (intS .leq (.int d m) (.int d n) k) := by
  rw [intS_at, int_leq, optS_at]; by_cases h : m ≤ n
  · rw [decide_eq_true h]; exact h1 h
  · rw [decide_eq_false h]; exact h2 (by omega)
theorem Ret.gtr {d : IntKind} {m n : Int} (h1 : n < m → Ret h0 S Q (k (.bool true))) (h2 : m ≤ n → Ret h0 S Q (k (.bool false))) : Ret h0 S Q (intS .gtr (.int d m) (.int d n) k) := by
  rw [intS_at, int_gtr, optS_at]; by_cases h : n < m
  · rw [decide_eq_true h]; exact h1 h
  · rw [decide_eq_false h]; exact h2 (by omega)
theorem Ret.geq {d : IntKind} {m n : Int} (h1 : n ≤ m → Ret h0 S Q (k (.bool true))) (h2 : m < n → Ret h0 S Q (k (.bool false))) : Ret h0 S Q (intS .geq (.int d m) (.int d n) k) := by
  rw [intS_at, int_geq, optS_at]; by_cases h : n ≤ m
  · rw [decide_eq_true h]; exact h1 h
  · rw [decide_eq_false h]; exact h2 (by omega)
theorem Ret.load1 {b o : Nat} {v : V} (hc : h.cell b o = some v) (hk : Ret h0 S Q (k v)) : Ret h0 S Q (load1 (.ptr b o) h k) := by rw [load1_at, hc]; exact hk
theorem Ret.loadN {s b o : Nat} {l : List V} (hs : s ≠ 0) (hc : h.cells b o s = some l) (hk : Ret h0 S Q (k (.agg l))) : Ret h0 S Q (loadN s (.ptr b o) h k) := by rw [loadN_at _ _ _ _ _ hs, hc]; exact hk
theorem Ret.newS {e : Nat} {cs : List V} (hK : Ret h0 S Q (K (.ptr h.n 0) (h.newRow e cs false))) : Ret h0 S Q (newS e cs h K) := hK
theorem Ret.storeC {b o : Nat} {x : V} {k : Hp → VH} (h1 : oneCell x = true) (h2 : o < h.wide b) (hk : Ret h0 S Q (k (h.wr b o x))) : Ret h0 S Q (storeC (.ptr b o) x h k) := by rw [storeC_at k h1 h2]; exact hk
theorem Ret.storeN {s b o : Nat} {l : List V} {k : Hp → VH} (h1 : s ≠ 0) (h2 : l.length = s) (h3 : allOne l = true) (h4 : o + s ≤ h.wide b) (hk : Ret h0 S Q (k (h.wrL b o l))) : Ret h0 S Q (storeN s (.ptr b o) (.agg l) h k) := by
  rw [storeN_at k h1 h2 h3 h4]; exact hk
theorem Kp.cell0 (k : Kp no h h') {b : Nat} (hb : b < h.n) (o : Nat) : h'.cell b o = h.cell b o := k.cell hb (fun h => h) o
theorem Kp.old (w : h.Wf) (k : Kp no h h') {b o : Nat} {v : V} (hc : h.cell b o = some v) : h'.cell b o = some v := by rw [k.cell0 (w.cell hc)]; exact hc

/-! what comes behind is taken in -/
theorem Ret.row {e : Nat} {cs : List V} (hK : Ret (h.newRow e cs false) no Q (K (.ptr h.n 0) (h.newRow e cs false))) : Ret h no Q (Mid.newS e cs h K) :=
  Ret.of ((Kp.refl _ _).newRow _ _ _) hK fun _ h => h.elim

def isBP (P : Bool → Prop) (v : V) (_ : Hp) : Prop := ∃ b, v = .bool b ∧ P b
theorem Kp.draw (h : Hp) : Kp no h ⟨h.t, h.n, h.n⟩ := ⟨fun w => w, Nat.le_refl _, fun _ _ _ => rfl, fun _ h1 _ _ => h1⟩
/-- a call in a region that draws its order. -/
theorem Ret.draw {x : VH} (hx : Ret ⟨h.t, h.n, h.n⟩ no Q' x) (hK : ∀ v h', Q' v h' → Kp no h ⟨h'.t, h'.n, h.low⟩ → Ret ⟨h'.t, h'.n, h.low⟩ no Q (K v ⟨h'.t, h'.n, h.low⟩)) : Ret h no Q (bindS x fun v h2 => madeS h.n h.low h2 fun h3 => K v h3) := by
  obtain ⟨v, h', rfl, hq, hk⟩ := hx
  have hl : h.n ≤ h'.low := hk.low h.n (Nat.le_refl _) (Nat.le_refl _) fun _ h => h.elim
  have k : Kp no h ⟨h'.t, h'.n, h.low⟩ := ⟨fun w => hk.wf w, hk.n, fun b hb hn => hk.get b hb hn, fun _ _ h2 _ => h2⟩
  rw [bindS_at, made_at _ _ _ _ hl]
  exact Ret.of k (hK v h' hq k) fun _ h => h.elim
theorem Ret.step {x : VH} (hx : Ret h S Q' x) (hK : ∀ v h', Q' v h' → Kp S h h' → Ret h' S Q (K v h')) : Ret h S Q (bindS x K) :=
  Ret.bind hx fun v h' hq k => Ret.of k (hK v h' hq k) fun _ hb => .inl hb
/-- a struct's copy in a block of its own. -/
theorem Ret.box {e s : Nat} {zs l : List V} (h1 : s ≠ 0) (h2 : zs.length = s) (h3 : l.length = s) (h4 : allOne l = true)
    (hK : ∀ H, H.n = h.n + 1 → (∀ x y, H.cell x y = if h.n = x then l[y]? else h.cell x y) → Kp no h H → Ret H S Q (K (.ptr h.n 0) H)) : Ret h S Q (Mid.newS e zs h fun v h1 => Mid.storeN s v (.agg l) h1 fun h2 => K v h2) := by
  rw [newS_at]
  have hw : (h.newRow e zs false).wide h.n = s := by rw [newRow_wide, if_pos rfl, h2]
  rw [storeN_at _ h1 h3 h4 (by rw [hw]; omega)]
  have k : Kp no h ((h.newRow e zs false).wrL h.n 0 l) := ((Kp.refl _ _).newRow _ _ _).wrL _ _ (.inr (Nat.le_refl _))
  refine Ret.of (k.mono fun _ h => h.elim) (hK _ (by rw [wrL_n, newRow_n]) (fun x y => ?_) k) fun _ hb => .inl hb
  rw [wrL_cell (by rw [hw]; omega) (by rw [hw]; omega), newRow_cell]
  by_cases hx : h.n = x
  · rw [if_pos hx, if_pos hx]
    by_cases hy : y < l.length
    · rw [if_pos ⟨hx, Nat.zero_le _, by omega⟩]; simp
    · rw [if_neg (by omega), List.getElem?_eq_none (by omega), List.getElem?_eq_none (by omega)]
  · rw [if_neg (fun e => hx e.1), if_neg hx, if_neg hx]
/-! simp keeps out of what comes later -/
@[congr] theorem bindS_congr {x x' : VH} {K : V → Hp → VH} (hx : x = x') : bindS x K = bindS x' K := by rw [hx]
@[congr] theorem optS_congr {x x' : Option V} {k : V → VH} (hx : x = x') : optS x k = optS x' k := by rw [hx]
@[congr] theorem lstE_congr {x x' : Option (List V)} {k : List V → VH} (hx : x = x') : lstE x k = lstE x' k := by rw [hx]
@[congr] theorem natO_congr {x x' : Option Nat} {k : Nat → VH} (hx : x = x') : natO x k = natO x' k := by rw [hx]
@[congr] theorem byteO_congr {x x' : Option UInt8} {k : UInt8 → VH} (hx : x = x') : byteO x k = byteO x' k := by rw [hx]
@[congr] theorem ifS_congr {v v' : V} {x y : VH} (hv : v = v') : ifS v x y = ifS v' x y := by rw [hv]
@[congr] theorem guardS_congr {v v' : V} {w : Bool} {x : VH} {h : Hp} {K : V → Hp → VH} (hv : v = v') : guardS v w x h K = guardS v' w x h K := by rw [hv]
@[congr] theorem guardB_congr {v v' : V} {w : Bool} {x y : VH} (hv : v = v') : guardB v w x y = guardB v' w x y := by rw [hv]
@[congr] theorem addrS_congr {off : Nat} {a a' : V} {k : V → VH} (hv : a = a') : addrS off a k = addrS off a' k := by rw [hv]
@[congr] theorem load1_congr {a a' : V} {h : Hp} {k : V → VH} (hv : a = a') : load1 a h k = load1 a' h k := by rw [hv]
@[congr] theorem loadN_congr {s : Nat} {a a' : V} {h : Hp} {k : V → VH} (hv : a = a') : loadN s a h k = loadN s a' h k := by rw [hv]
@[congr] theorem storeC_congr {a a' x x' : V} {h : Hp} {k : Hp → VH} (hv : a = a') (hx : x = x') : storeC a x h k = storeC a' x' h k := by rw [hv, hx]
@[congr] theorem storeN_congr {s : Nat} {a a' x x' : V} {h : Hp} {k : Hp → VH} (hv : a = a') (hx : x = x') : storeN s a x h k = storeN s a' x' h k := by rw [hv, hx]
@[congr] theorem newS_congr {e : Nat} {cs cs' : List V} {h : Hp} {K : V → Hp → VH} (hv : cs = cs') : newS e cs h K = newS e cs' h K := by rw [hv]
@[congr] theorem intS_congr {op : BinOp} {a a' b b' : V} {k : V → VH} (ha : a = a') (hb : b = b') : intS op a b k = intS op a' b' k := by rw [ha, hb]
@[congr] theorem shS_congr {op : BinOp} {a a' b b' : V} {k : V → VH} (ha : a = a') (hb : b = b') : shS op a b k = shS op a' b' k := by rw [ha, hb]
@[congr] theorem strS_congr {op : BinOp} {a a' b b' : V} {k : V → VH} (ha : a = a') (hb : b = b') : strS op a b k = strS op a' b' k := by rw [ha, hb]
@[congr] theorem eqS_congr {d : TypeDesc} {op : BinOp} {a a' b b' : V} {k : V → VH} (ha : a = a') (hb : b = b') : eqS d op a b k = eqS d op a' b' k := by rw [ha, hb]
@[congr] theorem notS_congr {a a' : V} {k : V → VH} (ha : a = a') : notS a k = notS a' k := by rw [ha]
@[congr] theorem negS_congr {a a' : V} {k : V → VH} (ha : a = a') : negS a k = negS a' k := by rw [ha]
@[congr] theorem lenStr_congr {a a' : V} {k : V → VH} (ha : a = a') : lenStr a k = lenStr a' k := by rw [ha]
@[congr] theorem lenSl_congr {a a' : V} {k : V → VH} (ha : a = a') : lenSl a k = lenSl a' k := by rw [ha]
@[congr] theorem lenMp_congr {a a' : V} {h : Hp} {k : V → VH} (ha : a = a') : lenMp a h k = lenMp a' h k := by rw [ha]
@[congr] theorem idxS_congr {s : Nat} {a a' b b' : V} {k : V → VH} (ha : a = a') (hb : b = b') : idxS s a b k = idxS s a' b' k := by rw [ha, hb]
@[congr] theorem idxP_congr {s n : Nat} {a a' b b' : V} {k : V → VH} (ha : a = a') (hb : b = b') : idxP s n a b k = idxP s n a' b' k := by rw [ha, hb]
@[congr] theorem idxStr_congr {a a' b b' : V} {k : V → VH} (ha : a = a') (hb : b = b') : idxStr a b k = idxStr a' b' k := by rw [ha, hb]
@[congr] theorem idxA1_congr {s n : Nat} {a a' b b' : V} {k : V → VH} (ha : a = a') (hb : b = b') : idxA1 s n a b k = idxA1 s n a' b' k := by rw [ha, hb]
@[congr] theorem nilS_congr {a a' : V} {k : V → VH} (ha : a = a') : nilS a k = nilS a' k := by rw [ha]
@[congr] theorem convI_congr {d : IntKind} {a a' : V} {k : V → VH} (ha : a = a') : convI d a k = convI d a' k := by rw [ha]
@[congr] theorem convS_congr {a a' : V} {k : V → VH} (ha : a = a') : convS a k = convS a' k := by rw [ha]
@[congr] theorem extS_congr {i : Nat} {a a' : V} {k : V → VH} (ha : a = a') : extS i a k = extS i a' k := by rw [ha]
@[congr] theorem fld1_congr {i : Nat} {a a' : V} {k : V → VH} (ha : a = a') : fld1 i a k = fld1 i a' k := by rw [ha]
@[congr] theorem fldN_congr {i s : Nat} {a a' : V} {k : V → VH} (ha : a = a') : fldN i s a k = fldN i s a' k := by rw [ha]
@[congr] theorem madeS_congr {n low : Nat} {h : Hp} {k : Hp → VH} : madeS n low h k = madeS n low h k := rfl
@[congr] theorem slStrK_congr {lo hi : Option V} {a a' : V} {k : V → VH} (ha : a = a') : slStrK lo hi a k = slStrK lo hi a' k := by rw [ha]
@[congr] theorem whenE_congr {b b' : Bool} {x : VH} (hb : b = b') : whenE b x = whenE b' x := by rw [hb]
end Go.Mid
