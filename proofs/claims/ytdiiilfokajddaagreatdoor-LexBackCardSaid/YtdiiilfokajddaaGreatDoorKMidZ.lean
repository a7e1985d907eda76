/- How shallow texts are walked by hand: the heap by its cells, one law for each operation. -/
import Derived.Test.YtdiiilfokajddaaGreatDoorKMidNN
import Derived.ChangeShapes
set_option linter.all false
set_option warn.classDefReducibility false
noncomputable section
section
open Go.RowKit
namespace Go.Mid
section
def Hp.cell (h : Hp) (b o : Nat) : Option V := match cellsT (h.t.get b) with
 | some c => c.get o
 | none => none
def Hp.wide (h : Hp) (b : Nat) : Nat := match h.t.get b with
 | some (.cells _ n _ _) => n
 | _ => 0
def Hp.cells (h : Hp) (b o : Nat) : Nat → Option (List V)
 | 0 => some []
 | n + 1 => match h.cell b o with
  | none => none
  | some v => match Hp.cells h b (o + 1) n with
   | none => none
   | some l => some (v :: l)
def Hp.wr (h : Hp) (b o : Nat) (v : V) : Hp := match h.t.get b with
 | some (.cells c n g e) => h.put b (.cells (c.set o v) n g e)
 | _ => h
def Hp.wrL (h : Hp) (b o : Nat) (l : List V) : Hp := match h.t.get b with
 | some (.cells c n g e) => h.put b (.cells (c.setL o l) n g e)
 | _ => h
def Hp.Wf (h : Hp) : Prop:=∀ b, h.n ≤ b → h.t.get b = none
theorem getL_cells_eq {h : Hp} {b : Nat} {c : Tr V} (hc : cellsT (h.t.get b) = some c) : ∀ n o, c.getL o n = h.cells b o n
 | 0, _ => rfl
 | n + 1, o => by
  simp only [Tr.getL_succ, Hp.cells, Hp.cell, hc, getL_cells_eq hc n]
  cases c.get o with
  | none => rfl
  | some v => cases h.cells b (o + 1) n <;> rfl
theorem wr_of {h : Hp} {b o : Nat} {v : V} {c : Tr V} {n : Nat} {g : Bool} {e : TypeId} (hg : h.t.get b = some (.cells c n g e)) : h.wr b o v = h.put b (.cells (c.set o v) n g e):=by
 unfold Hp.wr; rw [hg]
theorem wrL_of {h : Hp} {b o : Nat} {l : List V} {c : Tr V} {n : Nat} {g : Bool} {e : TypeId} (hg : h.t.get b = some (.cells c n g e)) : h.wrL b o l = h.put b (.cells (c.setL o l) n g e):=by
 unfold Hp.wrL; rw [hg]
theorem wide_of {h : Hp} {b o : Nat} (hc : o < h.wide b) : ∃ c n g e, h.t.get b = some (.cells c n g e) ∧ o < n:=by
 unfold Hp.wide at hc
 split at hc
 ·rename_i c n g e heq; exact ⟨c, n, g, e, heq, hc⟩
 ·omega
theorem wr_n (h : Hp) (b o : Nat) (v : V) : (h.wr b o v).n = h.n:=by unfold Hp.wr; split <;> rfl
theorem wrL_n (h : Hp) (b o : Nat) (l : List V) : (h.wrL b o l).n = h.n:=by unfold Hp.wrL; split <;> rfl
theorem wr_low (h : Hp) (b o : Nat) (v : V) : Nat.min b h.low ≤ (h.wr b o v).low:=by
 unfold Hp.wr; split
 ·exact Nat.le_refl _
 ·exact Nat.min_le_right _ _
theorem wrL_low (h : Hp) (b o : Nat) (l : List V) : Nat.min b h.low ≤ (h.wrL b o l).low:=by
 unfold Hp.wrL; split
 ·exact Nat.le_refl _
 ·exact Nat.min_le_right _ _
structure Kp (S : Nat → Prop) (h h' : Hp) : Prop where
 wf : h.Wf → h'.Wf
 n : h.n ≤ h'.n
 get : ∀ b, b < h.n → ¬ S b → h'.t.get b = h.t.get b
 low : ∀ m, m ≤ h.n → m ≤ h.low → (∀ b, S b → m ≤ b) → m ≤ h'.low
variable {S S' : Nat → Prop} {h0 h h' : Hp}
variable {k : V → VH} {K : V → Hp → VH}
theorem bindS_at (v : V) (h : Hp) (K : V → Hp → VH) : bindS (some (v, h)) K = K v h:=rfl
theorem optS_at (v : V) (k : V → VH) : optS (some v) k = k v:=rfl
theorem guardB_tt (x y : VH) : guardB (.bool true) true x y = x:=rfl
theorem guardB_ft (x y : VH) : guardB (.bool false) true x y = y:=rfl
theorem load1_at (b o : Nat) (h : Hp) (k : V → VH) : load1 (.ptr b o) h k = optS (h.cell b o) k:=by
 show trO (cellsT (h.t.get b)) (fun c => optS (c.get o) k) = _
 unfold Hp.cell
 cases cellsT (h.t.get b) <;> rfl
theorem loadN_at (s b o : Nat) (h : Hp) (k : V → VH) (hs : s ≠ 0) : loadN s (.ptr b o) h k = lstE (h.cells b o s) fun l => k (.agg l):=by
 show trO (cellsT (h.t.get b)) (fun c => lstE (c.getL o s) fun l => k (.agg l)) = _
 cases hc : cellsT (h.t.get b) with
 | none =>
  cases s with
  | zero => exact absurd rfl hs
  | succ s => simp only [Hp.cells, Hp.cell, hc]; rfl
 | some c => rw [← getL_cells_eq hc]; rfl
theorem storeC_at {b o : Nat} {x : V} {h : Hp} (k : Hp → VH) (h1 : oneCell x = true) (h2 : o < h.wide b) : storeC (.ptr b o) x h k = k (h.wr b o x):=by
 obtain ⟨c, n, g, e, hg, hlt⟩:=wide_of h2
 unfold storeC
 rw [h1]
 show cellE (h.t.get b) (fun c n g e => Bool.rec (motive:=fun _ => VH) none (k (h.put b (.cells (c.set o x) n g e))) (Nat.ble (Nat.succ o) n)) = _
 rw [hg]
 show Bool.rec (motive:=fun _ => VH) none (k (h.put b (.cells (c.set o x) n g e))) (Nat.ble (Nat.succ o) n) = _
 rw [wr_of hg, show Nat.ble (Nat.succ o) n = true from Nat.ble_eq_true_of_le hlt]
theorem storeN_at {s b o : Nat} {l : List V} {h : Hp} (k : Hp → VH) (h0 : s ≠ 0) (h1 : l.length = s) (h2 : allOne l = true) (h3 : o + s ≤ h.wide b) : storeN s (.ptr b o) (.agg l) h k = k (h.wrL b o l):=by
 obtain ⟨c, n, g, e, hg, _⟩:=wide_of (h:=h) (b:=b) (o:=o) (by omega)
 have hn : h.wide b = n:=by unfold Hp.wide; rw [hg]
 show cellE (h.t.get b) (fun c n g e => whenE (Nat.beq l.length s && Nat.ble (o + s) n && allOne l) (k (h.put b (.cells (c.setL o l) n g e)))) = _
 rw [hg, wrL_of hg]
 show whenE (Nat.beq l.length s && Nat.ble (o + s) n && allOne l) (k (h.put b (.cells (c.setL o l) n g e))) = _
 have e1 : Nat.beq l.length s = true:=by rw [h1]; exact Nat.beq_refl s
 have e2 : Nat.ble (o + s) n = true:=Nat.ble_eq_true_of_le (by omega)
 rw [e1, e2, h2]; rfl
theorem kEq_self (d : IntKind) : kEq d d = true:=by cases d <;> rfl
theorem intS_at (op : BinOp) (d : IntKind) (m n : Int) (k : V → VH) : intS op (.int d m) (.int d n) k = optS (intOp op d m n) k:=by
 show whenE (kEq d d) (optS (intOp op d m n) k) = _
 rw [kEq_self]; rfl
theorem int_add (d : IntKind) (m n : Int) : intOp .add d m n = some (.int d (d.wrap (m + n))):=by rw [← fwrap_eq, ← addF_eq]; rfl
theorem int_sub (d : IntKind) (m n : Int) : intOp .sub d m n = some (.int d (d.wrap (m - n))):=by rw [← fwrap_eq, ← subF_eq]; rfl
theorem int_mul (d : IntKind) (m n : Int) : intOp .mul d m n = some (.int d (d.wrap (m * n))):=by rw [← fwrap_eq]; rfl
theorem int_rem (d : IntKind) (m n : Int) (hn : n ≠ 0) : intOp .rem d m n = some (.int d (m.tmod n)):=by
 simp only [intOp, opQuo, opRem, opEql, opNeq, opLss, opLeq, opGtr, opGeq, iEq_eq]
 rw [show (n == 0) = false by simpa using hn]; rfl
theorem int_eql (d : IntKind) (m n : Int) : intOp .eql d m n = some (.bool (decide (m = n))):=by
 simp only [intOp, opQuo, opRem, opEql, opNeq, opLss, opLeq, opGtr, opGeq, iEq_eq]; congr 2
theorem int_neq (d : IntKind) (m n : Int) : intOp .neq d m n = some (.bool (decide (m ≠ n))):=by
 simp only [intOp, opQuo, opRem, opEql, opNeq, opLss, opLeq, opGtr, opGeq, iEq_eq]; congr 2; rw [Bool.eq_iff_iff]; simp
theorem int_lss (d : IntKind) (m n : Int) : intOp .lss d m n = some (.bool (decide (m < n))):=by simp only [intOp, opQuo, opRem, opEql, opNeq, opLss, opLeq, opGtr, opGeq, iLt_eq]
theorem int_leq (d : IntKind) (m n : Int) : intOp .leq d m n = some (.bool (decide (m ≤ n))):=by simp only [intOp, opQuo, opRem, opEql, opNeq, opLss, opLeq, opGtr, opGeq, not_iLt_le]
theorem int_gtr (d : IntKind) (m n : Int) : intOp .gtr d m n = some (.bool (decide (n < m))):=by simp only [intOp, opQuo, opRem, opEql, opNeq, opLss, opLeq, opGtr, opGeq, iLt_eq]
theorem int_geq (d : IntKind) (m n : Int) : intOp .geq d m n = some (.bool (decide (n ≤ m))):=by simp only [intOp, opQuo, opRem, opEql, opNeq, opLss, opLeq, opGtr, opGeq, not_iLt_le]
theorem idx_at (s b o n c : Nat) (g : Bool) (d : IntKind) (i : Nat) (k : V → VH) (hi : i < n) : idxS s (.slice b o n c g) (.int d (i : Nat)) k = k (.ptr b (o + i * s)):=by
 show whenE (Nat.blt i n) (k (.ptr b (o + i * s))) = _
 rw [show Nat.blt i n = true from Nat.ble_eq_true_of_le hi]; rfl
theorem idxStr_at (l : Bs) (d : IntKind) (i : Nat) (k : V → VH) (hi : i < l.n) : idxStr (.str l) (.int d (i : Nat)) k = k (.int .u8 (l.byte i : Nat)):=by
 show natO (l.get i) (fun b => k (.int .u8 (.ofNat b))) = _
 unfold Bs.get
 rw [show Nat.ble (Nat.succ i) l.n = true from Nat.ble_eq_true_of_le hi]; rfl
theorem conv_at (d d' : IntKind) (n : Int) (k : V → VH) : convI d (.int d' n) k = k (.int d (d.wrap n)):=by
 show k (.int d (fwrap d n)) = _
 rw [fwrap_eq]
theorem dyn_at (cal : Nat → List V → Hp → VH) (f : FuncId) (a c as : List V) (h : Hp) : dynE cal (.func f a c) as h = cal (2 * f) (a ++ as ++ c) h:=rfl
theorem str_at (op : BinOp) (x y : Bs) (k : V → VH) : strS op (.str x) (.str y) k = optS (strOp op x y) k:=rfl
variable {Q Q' : V → Hp → Prop}
theorem bind_bind (x : VH) (J K : V → Hp → VH) : bindS (bindS x J) K = bindS x fun v h => bindS (J v h) K:=by cases x <;> rfl
theorem bind_addr {off : Nat} {a : V} (k : V → VH) (K : V → Hp → VH) : bindS (addrS off a k) K = addrS off a fun v => bindS (k v) K:=by
 unfold addrS; cases a <;> rfl
theorem bind_load1 {a : V} {h : Hp} (k : V → VH) (K : V → Hp → VH) : bindS (load1 a h k) K = load1 a h fun v => bindS (k v) K:=by
 cases a <;> first | rfl | (rw [load1_at, load1_at]; cases h.cell _ _ <;> rfl)
theorem bind_intS {op : BinOp} {a b : V} (k : V → VH) (K : V → Hp → VH) : bindS (intS op a b k) K = intS op a b fun v => bindS (k v) K:=by
 cases a <;> first | rfl | (cases b <;> first | rfl | (rename_i d m d' n; show bindS (whenE (kEq d d') (optS (intOp op d m n) k)) K = whenE (kEq d d') (optS (intOp op d m n) _); cases kEq d d' with | false => rfl | true => show bindS (optS (intOp op d m n) k) K = optS (intOp op d m n) _; cases intOp op d m n <;> rfl))
theorem bind_strS {op : BinOp} {a b : V} (k : V → VH) (K : V → Hp → VH) : bindS (strS op a b k) K = strS op a b fun v => bindS (k v) K:=by
 cases a <;> first | rfl | (cases b <;> first | rfl | (rename_i x y; rw [str_at, str_at]; cases strOp op x y <;> rfl))
theorem bind_lenSl {a : V} (k : V → VH) (K : V → Hp → VH) : bindS (lenSl a k) K = lenSl a fun v => bindS (k v) K:=by
 cases a <;> rfl
theorem bind_lenStr {a : V} (k : V → VH) (K : V → Hp → VH) : bindS (lenStr a k) K = lenStr a fun v => bindS (k v) K:=by
 cases a <;> rfl
theorem bind_notS {a : V} (k : V → VH) (K : V → Hp → VH) : bindS (notS a k) K = notS a fun v => bindS (k v) K:=by
 cases a <;> rfl
theorem bind_nilS {a : V} (k : V → VH) (K : V → Hp → VH) : bindS (nilS a k) K = nilS a fun v => bindS (k v) K:=by
 cases a <;> rfl
theorem bind_optS {x : Option V} (k : V → VH) (K : V → Hp → VH) : bindS (optS x k) K = optS x fun v => bindS (k v) K:=by
 cases x <;> rfl
theorem natE_bind (v : V) (j : Nat → VH) (K : V → Hp → VH) : bindS (natE v j) K = natE v fun n => bindS (j n) K:=by
 cases v <;> first | rfl | (rename_i d n; cases n <;> rfl)
theorem natO_bind (x : Option Nat) (j : Nat → VH) (K : V → Hp → VH) : bindS (natO x j) K = natO x fun n => bindS (j n) K:=by cases x <;> rfl
theorem bind_idxStr {a b : V} (k : V → VH) (K : V → Hp → VH) : bindS (idxStr a b k) K = idxStr a b fun v => bindS (k v) K:=by
 cases a <;> first | rfl | (show bindS (natE b _) K = natE b _; rw [natE_bind]; congr 1; funext n; exact natO_bind _ _ _)
theorem cells_cons {b o n : Nat} {v : V} {l : List V} (h1 : h.cell b o = some v) (h2 : h.cells b (o + 1) n = some l) : h.cells b o (n + 1) = some (v :: l):=by simp only [Hp.cells, h1, h2]
end
section
variable {P : Program}
def trOf {α : Type} (f : Nat → Option α) : Nat → Tr α
 | 0 => .nil
 | n + 1 => match f n with
  | some x => (trOf f n).set n x
  | none => trOf f n
theorem trOf_get {α : Type} (f : Nat → Option α) : ∀ n i, (trOf f n).get i = if i < n then f i else none
 | 0, i => by rw [if_neg (by omega)]; exact Tr.get_nil i
 | n + 1, i => by
  simp only [trOf]
  cases hf : f n with
  | none =>
   simp only
   rw [trOf_get f n i]
   by_cases h1 : i < n
   ·rw [if_pos h1, if_pos (by omega)]
   ·by_cases h2 : i = n
    ·subst h2; rw [if_neg h1, if_pos (by omega), hf]
    ·rw [if_neg h1, if_neg (by omega)]
  | some x =>
   simp only
   rw [Tr.get_set, trOf_get f n i]
   by_cases h2 : n = i
   ·subst h2; rw [if_pos rfl, if_pos (by omega), hf]
   ·rw [if_neg h2]
    by_cases h1 : i < n
    ·rw [if_pos h1, if_pos (by omega)]
    ·rw [if_neg h1, if_neg (by omega)]
def toV (w : World) : Value → Option V
 | .bool b => some (.bool b)
 | .int k n => some (.int k n)
 | .string s => some (.str (pack s.data.toList))
 | .pointer none => some .nilPtr
 | .pointer (some a) => if a.spot = none ∧ a.block < w.heap.size then some (.ptr a.block a.off) else none
 | .slice none 0 0 => some .nilSlice
 | .slice (some a) len cap =>
  if len = 0 ∧ cap = 0 then some (.slice w.heap.size 0 0 0 false)
  else if a.spot = none ∧ a.block < w.heap.size then some (.slice a.block a.off len cap false) else none
 | _ => none
def rhoOf (w : World) : Rho:=fun b => if b < w.heap.size then some ⟨b, 0, 0⟩ else if b = w.heap.size then some ⟨0, 1, 0⟩ else none
theorem rhoOf_lt {w : World} {b : Nat} (h : b < w.heap.size) : rhoOf w b = some ⟨b, 0, 0⟩:=by unfold rhoOf; rw [if_pos h]
theorem rhoOf_z (w : World) : rhoOf w w.heap.size = some ⟨0, 1, 0⟩:=by unfold rhoOf; rw [if_neg (by omega), if_pos rfl]
theorem toV_rel {w : World} {x : Value} {v : V} (h : toV w x = some v) : Rel (rhoOf w) v x:=by
 unfold toV at h
 split at h
 ·cases h; exact .bool _
 ·cases h; exact .int _ _
 ·cases h; exact .packed _
 ·cases h; exact .nilPtr
 ·rename_i a
  split at h
  ·rename_i ha
   cases h
   have:=Rel.ptr a.off (rhoOf_lt ha.2)
   obtain ⟨b, o, s⟩:=a
   obtain ⟨rfl, _⟩:=ha
   simpa using this
  ·cases h
 ·cases h; exact .nilSlice
 ·rename_i a len cap
  split at h
  ·rename_i hc
   cases h
   obtain ⟨rfl, rfl⟩:=hc
   exact .sliceZ 0 a (rhoOf_z w) (by decide)
  ·split at h
   ·rename_i ha
    cases h
    have:=Rel.sliceK a.off len cap (rhoOf_lt ha.2)
    obtain ⟨b, o, s⟩:=a
    obtain ⟨rfl, _⟩:=ha
    simpa using this
   ·cases h
 ·cases h
def obOf (w : World) (b : Nat) : Option Ob := match w.heap[b]? with
 | some (.cells arr e _) => some (.ro (trOf (fun i => (arr[i]?).bind (toV w)) arr.size) e)
 | _ => none
def heapOf (w : World) : Hp:=⟨trOf (obOf w) w.heap.size, w.heap.size + 1, big⟩
theorem heapOf_get (w : World) (b : Nat) : (heapOf w).t.get b = if b < w.heap.size then obOf w b else none:=trOf_get _ _ _
theorem heapOf_wf (w : World) : (heapOf w).Wf := fun b hb => by
 rw [heapOf_get, if_neg (by have : (heapOf w).n = w.heap.size + 1:=rfl; omega)]
theorem obOf_ro {w : World} {b : Nat} {o : Ob} (h : obOf w b = some o) : ∃ arr e fz, w.heap[b]? = some (.cells arr e fz) ∧ o = .ro (trOf (fun i => (arr[i]?).bind (toV w)) arr.size) e:=by
 unfold obOf at h
 split at h
 ·rename_i arr e fz hw; cases h; exact ⟨arr, e, fz, hw, rfl⟩
 ·cases h
theorem heapOf_still (w : World) (b : Nat) : (heapOf w).still b:=by
 unfold Hp.still
 rw [heapOf_get]
 split
 ·cases h : obOf w b with
  | none => exact .inl rfl
  | some o => obtain ⟨arr, e, fz, _, rfl⟩:=obOf_ro h; exact .inr ⟨_, _, rfl⟩
 ·exact .inl rfl
theorem heapOf_R [Orc] [OrcOk P] (w : World) (hg : Orc.ng ≤ w.heap.size) (hi : Orc.inv w) : R P w w (heapOf w) (rhoOf w):=by
 refine R.start ?_ ?_ ?_ (heapOf_wf w) ?_ hi
 ·intro b l hb
  unfold rhoOf at hb
  have hn : (heapOf w).n = w.heap.size + 1:=rfl
  split at hb
  ·cases hb; exact ⟨by omega, heapOf_still w b, .inr (by assumption)⟩
  ·split at hb
   ·cases hb; exact ⟨by omega, heapOf_still w b, .inl ⟨by decide, rfl⟩⟩
   ·cases hb
 ·intro b l o hb ho
  rw [heapOf_get] at ho
  split at ho
  ·rename_i hlt
   obtain ⟨arr, e, fz, hw, rfl⟩:=obOf_ro ho
   rw [rhoOf_lt hlt] at hb
   cases hb
   refine ⟨arr, fz, e, hw, fun i v hv => ?_⟩
   rw [trOf_get] at hv
   split at hv
   ·rw [Nat.zero_add]
    cases hx : arr[i]? with
    | none => rw [hx] at hv; cases hv
    | some x => rw [hx] at hv; exact ⟨x, rfl, toV_rel hv⟩
   ·cases hv
  ·cases ho
 ·intro b b' l l' hb hb' hne ha ha'
  have lt : ∀ x, (heapOf w).alive x → x < w.heap.size:=by
   rintro x ⟨o, h1, _⟩
   rw [heapOf_get] at h1
   split at h1
   ·assumption
   ·cases h1
  rw [rhoOf_lt (lt b ha)] at hb
  rw [rhoOf_lt (lt b' ha')] at hb'
  cases hb; cases hb'; exact hne
 ·intro g hg'
  exact ⟨0, rhoOf_lt (by omega)⟩
theorem heapOf_cell {w : World} {b o : Nat} {x : Value} (h : w.cell? ⟨b, o, none⟩ = some x) : (heapOf w).cell b o = toV w x:=by
 unfold World.cell? at h
 simp only at h
 split at h
 ·rename_i arr e fz hw
  simp only [Option.isSome_none, Bool.false_eq_true, if_false] at h
  have hlt : b < w.heap.size:=(Array.getElem?_eq_some_iff.1 hw).1
  have hob : obOf w b = some (.ro (trOf (fun i => (arr[i]?).bind (toV w)) arr.size) e):=by unfold obOf; rw [hw]
  unfold Hp.cell
  rw [heapOf_get, if_pos hlt, hob]
  simp only [cellsT]
  rw [trOf_get, if_pos (Array.getElem?_eq_some_iff.1 h).1, h]
  rfl
 ·cases h
section
variable {H : Type} {enc : TypeId × Value → H} {w : World}
theorem mapM_all {α β : Type} {f : α → Option β} : ∀ {l : List α} {r : List β}, l.mapM f = some r → ∀ x, x ∈ l → ∃ y, f x = some y
 | [], _, _, x, hx => by cases hx
 | a :: l, r, h, x, hx => by
  rw [List.mapM_cons] at h
  cases ha : f a with
  | none => rw [ha] at h; cases h
  | some y =>
   rw [ha] at h
   cases hl : l.mapM f with
   | none => rw [hl] at h; cases h
   | some ys =>
    rcases List.mem_cons.1 hx with rfl | hx
    ·exact ⟨y, ha⟩
    ·exact mapM_all hl x hx
theorem mapM_len {α β : Type} {f : α → Option β} : ∀ {l : List α} {r : List β}, l.mapM f = some r → r.length = l.length
 | [], r, h => by cases h; rfl
 | a :: l, r, h => by
  rw [List.mapM_cons] at h
  cases ha : f a with
  | none => rw [ha] at h; cases h
  | some y =>
   rw [ha] at h
   cases hl : l.mapM f with
   | none => rw [hl] at h; cases h
   | some ys => rw [hl] at h; cases h; simp [mapM_len hl]
theorem mapM_get {α β : Type} {f : α → Option β} : ∀ {l : List α} {r : List β}, l.mapM f = some r → ∀ (i : Nat) a, l[i]? = some a → r[i]? = f a
 | [], _, _, i, a, hi => by simp at hi
 | x :: l, r, h, i, a, hi => by
  rw [List.mapM_cons] at h
  cases ha : f x with
  | none => rw [ha] at h; cases h
  | some y =>
   rw [ha] at h
   cases hl : l.mapM f with
   | none => rw [hl] at h; cases h
   | some ys =>
    rw [hl] at h; cases h
    cases i with
    | zero => simp at hi; subst hi; simpa using ha.symm
    | succ i => simp at hi; simpa using mapM_get hl i a hi
theorem cells_at {b o n : Nat} {cs : List Value} (h : w.cells? 0 ⟨b, o, none⟩ n = some cs) : cs.length = n ∧ ∀ (i : Nat) x, cs[i]? = some x → (heapOf w).cell b (o + i) = toV w x:=by
 unfold World.cells? at h
 rw [if_pos (Nat.zero_le _)] at h
 have hl:=mapM_len h
 rw [List.length_range] at hl
 refine ⟨hl, fun i x hx => ?_⟩
 have hi : i < n:=by have:=(List.getElem?_eq_some_iff.1 hx).1; omega
 have:=mapM_get h i i (by simp [hi])
 rw [hx] at this
 refine heapOf_cell ?_
 have e : (⟨b, o, none⟩ : Addr).add i = ⟨b, o + i, none⟩:=by
  unfold Addr.add; split
  ·rename_i h0; subst h0; rfl
  ·rfl
 rw [e] at this; exact this.symm
def ElAt (enc : TypeId × Value → H) (P : Program) (w : World) (t : TypeId) (b o : Nat) : Prop :=
 ∃ fuel cs x, w.cells? 0 ⟨b, o, none⟩ (P.cellsOf t) = some cs ∧ DataW.trod enc P w 0 (fun _ => true) true fuel t cs = some x
def Is (enc : TypeId × Value → H) (P : Program) (w : World) (t : TypeId) (cs : List Value) : Prop:=∃ fuel x, DataW.trod enc P w 0 (fun _ => true) true fuel t cs = some x
theorem Is.int {t : TypeId} {k : IntKind} {cs : List Value} (hu : P.underlying t = some (.int k)) (h : Is enc P w t cs) : ∃ n, cs = [.int k n]:=by
 obtain ⟨fuel, x, h⟩:=h
 cases fuel with
 | zero => cases h
 | succ fuel =>
  unfold DataW.trod at h
  rw [hu] at h
  split at h <;> (simp_all; done)
theorem Is.sl {t e : TypeId} {cs : List Value} (hu : P.underlying t = some (.slice e)) (hs : 0 < P.cellsOf e) (h : Is enc P w t cs) : ∃ x v, cs = [x] ∧ toV w x = some v ∧
 (v = .nilSlice ∨ ∃ b o n c, v = .slice b o n c false ∧ (n ≤ 9223372036854775807 ∧ n ≤ c) ∧ ∀ i, i < n → ElAt enc P w e b (o + i * P.cellsOf e)):=by
 obtain ⟨fuel, x, h⟩:=h
 cases fuel with
 | zero => cases h
 | succ fuel =>
  unfold DataW.trod at h
  rw [hu] at h
  split at h <;> first | (simp_all; done) | skip
  ·exact ⟨_, .nilSlice, rfl, rfl, .inl rfl⟩
  ·rename_i e' a len cap hk
   cases hk
   dsimp only at h
   split at h
   ·rename_i hc
    by_cases hz : len = 0 ∧ cap = 0
    ·obtain ⟨rfl, rfl⟩ := hz
     exact ⟨_, .slice w.heap.size 0 0 0 false, rfl, by simp [toV], .inr ⟨_, _, 0, 0, rfl, ⟨Nat.zero_le _, Nat.le_refl _⟩, fun i hi => by omega⟩⟩
    ·cases hm : (List.range len).mapM (fun i => (w.cells? 0 (a.add (i * P.cellsOf e)) (P.cellsOf e)).bind (DataW.trod enc P w 0 (fun _ => true) true fuel e)) with
     | none => rw [hm] at h; cases h
     | some elems =>
      rw [hm] at h
      cases hr : (List.range (cap - len)).mapM (fun j => (w.cells? 0 (a.add ((len + j) * P.cellsOf e)) (P.cellsOf e)).bind (DataW.trod enc P w 0 (fun _ => true) true fuel e)) with
      | none => simp [hr] at h
      | some rest =>
       have el : ∀ i, i < cap → ∃ cs x, w.cells? 0 (a.add (i * P.cellsOf e)) (P.cellsOf e) = some cs ∧ DataW.trod enc P w 0 (fun _ => true) true fuel e cs = some x:=by
        intro i hi
        have hx : ∃ y, (w.cells? 0 (a.add (i * P.cellsOf e)) (P.cellsOf e)).bind (DataW.trod enc P w 0 (fun _ => true) true fuel e) = some y:=by
         by_cases hl : i < len
         ·exact mapM_all hm i (by simp [hl])
         ·obtain ⟨y, hy⟩ := mapM_all hr (i - len) (by simp; omega)
          rw [show len + (i - len) = i from by omega] at hy
          exact ⟨y, hy⟩
        obtain ⟨y, hy⟩:=hx
        cases hcs : w.cells? 0 (a.add (i * P.cellsOf e)) (P.cellsOf e) with
        | none => rw [hcs] at hy; cases hy
        | some cs => rw [hcs] at hy; exact ⟨cs, y, rfl, hy⟩
       have ha : a.spot = none ∧ a.block < w.heap.size:=by
        obtain ⟨cs, y, h1, _⟩:=el 0 (by omega)
        unfold World.cells? at h1
        rw [if_pos (Nat.zero_le _)] at h1
        obtain ⟨z, hz⟩:=mapM_all h1 0 (by simp [hs])
        simp only [Nat.zero_mul, Addr.add, ite_true] at hz
        unfold World.cell? at hz
        split at hz
        ·rename_i arr e2 fz hw
         split at hz
         ·cases hz
         ·rename_i hsp
          exact ⟨by simpa using hsp, (Array.getElem?_eq_some_iff.1 hw).1⟩
        ·cases hz
       refine ⟨_, .slice a.block a.off len cap false, rfl, by simp only [toV]; rw [if_neg hz, if_pos ha], .inr ⟨_, _, _, _, rfl, by have : maxLen = 9223372036854775807:=rfl; omega, fun i hi => ?_⟩⟩
       obtain ⟨cs, y, h1, h2⟩:=el i (by omega)
       refine ⟨fuel, cs, y, ?_, h2⟩
       have ea : a.add (i * P.cellsOf e) = ⟨a.block, a.off + i * P.cellsOf e, none⟩:=by
        obtain ⟨ab, ao, asp⟩:=a
        obtain ⟨rfl, _⟩:=ha
        unfold Addr.add; split
        ·rename_i h0; simp [h0]
        ·rfl
       rw [ea] at h1; exact h1
   ·cases h
def View (enc : TypeId × Value → H) (P : Program) (w : World) (t : TypeId) (b o : Nat) : Prop :=
 ∃ cs, (∀ (i : Nat) x, cs[i]? = some x → (heapOf w).cell b (o + i) = toV w x) ∧ Is enc P w t cs
theorem ElAt.view {t : TypeId} {b o : Nat} (h : ElAt enc P w t b o) : View enc P w t b o:=by
 obtain ⟨fuel, cs, x, h1, h2⟩:=h
 exact ⟨cs, (cells_at h1).2, fuel, x, h2⟩
theorem View.int {t : TypeId} {k : IntKind} {b o : Nat} (hu : P.underlying t = some (.int k)) (h : View enc P w t b o) : ∃ n, (heapOf w).cell b o = some (.int k n):=by
 obtain ⟨cs, h1, h2⟩:=h
 obtain ⟨n, rfl⟩:=h2.int hu
 exact ⟨n, h1 0 _ rfl⟩
def SlView (enc : TypeId × Value → H) (P : Program) (w : World) (e : TypeId) (s : Nat) (v : V) : Prop :=
 v = .nilSlice ∨ ∃ b o n c, v = .slice b o n c false ∧ (n ≤ 9223372036854775807 ∧ n ≤ c) ∧ ∀ i, i < n → View enc P w e b (o + i * s)
theorem Is.slice {t e : TypeId} {s : Nat} {cs : List Value} (hu : P.underlying t = some (.slice e)) (hs : P.cellsOf e = s) (h0 : 0 < s) (h : Is enc P w t cs) : ∃ x v, cs = [x] ∧ toV w x = some v ∧ SlView enc P w e s v:=by
 subst hs
 obtain ⟨x, v, h1, h2, h3⟩:=h.sl hu h0
 refine ⟨x, v, h1, h2, h3.imp id ?_⟩
 rintro ⟨b, o, n, c, h4, h5, h6⟩
 exact ⟨b, o, n, c, h4, h5, fun i hi => (h6 i hi).view⟩
end
theorem R.later [Orc] [Res] {w0 w w' : World} {h h2 : Hp} {ρ ρ2 : Rho} (H : R P w0 w h ρ) (hB : Below w.heap.size w w') : R P w0 w' h ρ:=by
 have hs : w0.heap.size ≤ w.heap.size:=H.below.size
 refine ⟨⟨hB.os.trans H.below.os, hB.tape.trans H.below.tape, hB.output.trans H.below.output, Nat.le_trans hs hB.size, fun j hj => by rw [hB.block j (by omega), H.below.block j hj]⟩, ?_, ?_, H.inj, H.fresh, H.glob, H.base, H.rs, fun r O hp => by
  obtain ⟨h1, h2, h3⟩:=H.pn r O hp
  exact ⟨by rw [hB.block r (Array.getElem?_eq_some_iff.1 h1).1]; exact h1, h2, h3⟩⟩
 ·intro b l hb
  obtain ⟨h1, h2, h3⟩:=H.bnd b l hb
  exact ⟨h1, h2, h3.imp id fun h => Nat.lt_of_lt_of_le h hB.size⟩
 ·intro b l o hb ho
  cases o with
  | dead => trivial
  | _ => exact (H.live b l _ hb ho).keep (Ext.refl _) (hB.block _ (H.lt hb ⟨_, ho, by simp⟩))
end
section
variable {P : Program}
def plain : V → Bool
 | .bool _ | .int _ _ | .str _ | .nilPtr | .nilSlice | .nilMap | .nilFunc | .nilIface => true
 | _ => false
theorem Rel.plain {ρ ρ' : Rho} {v : V} {x : Value} (hp : plain v = true) (h : Rel ρ v x) : Rel ρ' v x:=by
 cases h <;> first | (cases hp; done) | constructor
theorem RelL.plain {ρ ρ' : Rho} {vs : List V} {xs : List Value} (hp : vs.all Mid.plain = true) (h : RelL ρ vs xs) : RelL ρ' vs xs :=
 ⟨h.1, fun i v x h1 h2 => (h.2 i v x h1 h2).plain (List.all_eq_true.1 hp v (List.mem_of_getElem? h1))⟩
def Begins (P : Program) [Orc] (h0 : Hp) (w : World) : Prop:=∃ ρ0, R P w w h0 ρ0
theorem closed_call [Orc] [OrcOk P] (hmix : P.follows .mixedOrders = true) (hN : Named P) {labs : Tr Lab} {f : FuncId} {vs : List V} {v : V} {h0 h' : Hp}
 (hp : vs.all plain = true) (hv : plain v = true) (he : lim P labs (2 * f) vs h0 = some (v, h')) {ρ : Rho} {xs : List Value} (ha : RelL ρ vs xs) {w : World} (H : Begins P h0 w) :
 CallR P f ⟨xs⟩ w fun e w' => ∃ x, e = .returned x ∧ Rel ρ v x ∧ Below w.heap.size w w':=by
 obtain ⟨fuel, hrun⟩:=lim_F.1 he
 obtain ⟨ρ0, H⟩:=H
 refine (call_sim (run_sim hmix hN fuel).1 H (ha.plain (ρ':=ρ0) hp) hrun).mono ?_
 rintro e w' ⟨x, ρ', rfl, h2, _, h3⟩
 exact ⟨x, rfl, h2.plain hv, h3.below⟩
def Known (P : Program) (I : World → Prop) (f : FuncId) (vs : List V) (v : V) : Prop := ∀ (ρ : Rho) (xs : List Value), RelL ρ vs xs → ∀ w : World, I w →
 CallR P f ⟨xs⟩ w fun e w' => ∃ x, e = .returned x ∧ Rel ρ v x ∧ Below w.heap.size w w'
theorem known_of [Orc] [OrcOk P] (hmix : P.follows .mixedOrders = true) (hN : Named P) {labs : Tr Lab} {f : FuncId} {vs : List V} {v : V} {h0 h' : Hp} {I : World → Prop} (hI : ∀ w, I w → Begins P h0 w)
 (hp : vs.all plain = true) (hv : plain v = true) (he : lim P labs (2 * f) vs h0 = some (v, h')) : Known P I f vs v :=
 fun _ _ ha w hw => closed_call hmix hN hp hv he ha (hI w hw)
end
end Go.Mid
end
