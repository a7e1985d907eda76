/- LexNumbers: the long text: its loops, walked. -/
import Derived.Test.YtdiiilfokajddaaGreatDoorLLNtA
import Derived.Test.YtdiiilfokajddaaGreatDoorLMidKK
import Derived.KernelRfl
set_option linter.all false
open Go Go.Mid Go.Proofs
set_option maxRecDepth 100000
set_option linter.unusedVariables false
namespace Go.LN
noncomputable abbrev LA (u : TypeId) : Nat → List V → Hp → VH := @lim Tryz.prog (orc fnA (Inv u)) labs
theorem wrap_nat (i : Nat) (h : i ≤ 9223372036854775807) : IntKind.wrap .i64 (i : Int) = (i : Int) := by
  rw [← fwrap_eq]
  show (bif Nat.ble i (kTop .i64) then Int.ofNat i else _) = _
  rw [show Nat.ble i (kTop .i64) = true from Nat.ble_eq_true_of_le h]; rfl
theorem tabsA {u : TypeId} {n key : Nat} {vs : List V} {h : Hp} {p : V × Hp} (e : gTab tabA n key vs h = some p) : LA u key vs h = some p := @lim_tab Tryz.prog (orc fnA (Inv u)) labs tabA (tabA_ok (Inv u)) _ _ _ _ _ e
theorem letter_x (u : TypeId) (h : Hp) : LA u 94 [.int .u8 (120 : Nat)] h = some (.bool true, h) := tabsA (n := 10) (by kernel_rfl)
theorem end_x (u : TypeId) (h : Hp) : LA u 80 [.int .u8 (120 : Nat)] h = some (.bool false, h) := tabsA (n := 10) (by kernel_rfl)
/-- a text of the letter x alone. -/
structure Xs (s : List UInt8) (n : Nat) : Prop where
  len : s.length = n
  at_ : ∀ (i : Nat) (hi : i < s.length), s[i] = 120
theorem while_x (u : TypeId) {s : List UInt8} {n : Nat} (hs : Xs s n) (hn : n ≤ 1000000) {h : Hp} {b : Nat} (h0 : h.cell b 0 = some (.str s)) (h1 : h.cell b 1 = some (.int .i64 (0 : Nat))) :
    ∀ (k i : Nat), i + k = n → LA u 37 [.ptr b 0, .int .i64 (0 : Nat), .func 47 [] [], .int .i64 (i : Nat)] h = some (.int .i64 (n : Nat), h)
  | 0, i, hi => by
    have : i = n := by omega
    subst this
    refine @lim_ent Tryz.prog (orc fnA (Inv u)) labs 37 G37 (E37 fnA (Inv u)) _ _ _ (show B37 (LA u) (.ptr b 0) (.int .i64 (0 : Nat)) (.func 47 [] []) (.int .i64 (i : Nat)) h = _ from ?_)
    unfold B37
    rw [nil_ptr, addr_at, load1_at, show 0 + 1 = 1 from rfl, h1, optS_at, intS_at, int_add, optS_at, nil_ptr, addr_at, load1_at, show 0 + 0 = 0 from rfl, h0, optS_at, lenStr_at, hs.len, show ((0 : Nat) : Int) + (i : Int) = (i : Int) by omega, wrap_nat i (by omega), intS_at, int_lss, optS_at, decide_eq_false (by omega)]
    repeat rw [guard_ft]
    rw [pick_f, ifS_false, intS_at, int_sub, optS_at, show (i : Int) - ((0 : Nat) : Int) = (i : Int) by omega, wrap_nat i (by omega)]
  | k + 1, i, hi => by
    have ih := while_x u hs hn h0 h1 k (i + 1) (by omega)
    refine @lim_ent Tryz.prog (orc fnA (Inv u)) labs 37 G37 (E37 fnA (Inv u)) _ _ _ (show B37 (LA u) (.ptr b 0) (.int .i64 (0 : Nat)) (.func 47 [] []) (.int .i64 (i : Nat)) h = _ from ?_)
    have hlt : i < s.length := by rw [hs.len]; omega
    unfold B37
    rw [nil_ptr, addr_at, load1_at, show 0 + 1 = 1 from rfl, h1, optS_at, intS_at, int_add, optS_at, nil_ptr, addr_at, load1_at, show 0 + 0 = 0 from rfl, h0, optS_at, lenStr_at, hs.len, show ((0 : Nat) : Int) + (i : Int) = (i : Int) by omega, wrap_nat i (by omega), intS_at, int_lss, optS_at, decide_eq_true (by omega)]
    rw [guard_tt, bindS_at, guard_tt, bindS_at, guard_tt, nil_ptr, bindS_at, guard_tt, addr_at, bindS_at, guard_tt, load1_at, show 0 + 0 = 0 from rfl, h0, optS_at, bindS_at, guard_tt, bindS_at, guard_tt, nil_ptr, bindS_at, guard_tt, addr_at, bindS_at, guard_tt, load1_at,
      show 0 + 1 = 1 from rfl, h1, optS_at, bindS_at, guard_tt, bindS_at, guard_tt, intS_at, int_add, optS_at, bindS_at, show ((0 : Nat) : Int) + (i : Int) = (i : Int) by omega, wrap_nat i (by omega), guard_tt, idxStr_at _ _ _ _ hlt, hs.at_ i hlt, bindS_at, guard_tt]
    rw [show dynE (LA u) (.func 47 [] []) [V.int .u8 (((120 : UInt8).toNat : Nat))] h = LA u 94 [.int .u8 (120 : Nat)] h from rfl, letter_x, bindS_at, bindS_at, pick_t, ifS_true, intS_at, int_add, optS_at]
    rw [show (i : Int) + Int.ofNat 1 = ((i + 1 : Nat) : Int) by simp, wrap_nat (i + 1) (by omega)]
    exact ih
theorem setP_set {α : Type} (x y : α) : ∀ (p : List Bool) (t : Tr α), Tr.setP y p (Tr.setP x p t) = Tr.setP y p t
  | [], t => by cases t <;> rfl
  | b :: p, t => by
    cases t with
    | nil =>
      cases b
      · show Tr.node .nil none (Tr.setP y p (Tr.setP x p .nil)) = Tr.node .nil none (Tr.setP y p .nil); rw [setP_set x y p]
      · show Tr.node (Tr.setP y p (Tr.setP x p .nil)) none .nil = Tr.node (Tr.setP y p .nil) none .nil; rw [setP_set x y p]
    | node l v r =>
      cases b
      · show Tr.node l v (Tr.setP y p (Tr.setP x p r)) = Tr.node l v (Tr.setP y p r); rw [setP_set x y p]
      · show Tr.node (Tr.setP y p (Tr.setP x p l)) v r = Tr.node (Tr.setP y p l) v r; rw [setP_set x y p]
theorem set_set {α : Type} (t : Tr α) (i : Nat) (x y : α) : (t.set i x).set i y = t.set i y := setP_set x y _ t
theorem wr_wr {h : Hp} {b o : Nat} (v v' : V) (hc : o < h.wide b) : (h.wr b o v).wr b o v' = h.wr b o v' := by
  obtain ⟨c, n, g, e, h1, h2⟩ := wide_of hc
  have h3 : (h.wr b o v).t.get b = some (.cells (c.set o v) n g e) := by
    rw [wr_of h1]
    show (h.t.set b _).get b = _
    exact Tr.get_set_same _ _ _
  rw [wr_of h3, wr_of h1, wr_of h1]
  unfold Hp.put
  simp only [set_set]
  congr 1
  exact Nat.min_eq_right (Nat.min_le_left _ _)
theorem skip_step (u : TypeId) {s : List UInt8} {n : Nat} (hs : Xs s n) (hn : n ≤ 1000000) {h : Hp} {b i : Nat} (h0 : h.cell b 0 = some (.str s)) (h1 : h.cell b 1 = some (.int .i64 (i : Nat))) (hw : 1 < h.wide b) (hi : i < n) {p : V × Hp}
    (e : LA u 27 [.ptr b 0, .int .i64 (n : Nat)] (h.wr b 1 (.int .i64 ((i + 1 : Nat) : Int))) = some p) : LA u 27 [.ptr b 0, .int .i64 (n : Nat)] h = some p := by
  have hlt : i < s.length := by rw [hs.len]; omega
  have e29 : LA u 29 [.ptr b 0, .int .i64 (n : Nat)] h = some p := by
    refine @lim_ent Tryz.prog (orc fnA (Inv u)) labs 29 G29 (E29 fnA (Inv u)) _ _ _ (show B29 (LA u) (.ptr b 0) (.int .i64 (n : Nat)) h = _ from ?_)
    unfold B29
    rw [nil_ptr, addr_at, load1_at, show 0 + 1 = 1 from rfl, h1, optS_at, intS_at, int_add, optS_at, nil_ptr, addr_at, show 0 + 1 = 1 from rfl, storeC_at _ rfl hw, show (i : Int) + Int.ofNat 1 = ((i + 1 : Nat) : Int) by simp, wrap_nat (i + 1) (by omega)]
    exact e
  refine @lim_ent Tryz.prog (orc fnA (Inv u)) labs 27 G27 (E27 fnA (Inv u)) _ _ _ (show B27 (LA u) (.ptr b 0) (.int .i64 (n : Nat)) h = _ from ?_)
  unfold B27
  rw [nil_ptr, addr_at, load1_at, show 0 + 1 = 1 from rfl, h1, optS_at, intS_at, int_lss, optS_at, decide_eq_true (by omega), ifS_true, nil_ptr, addr_at, load1_at, show 0 + 0 = 0 from rfl, h0, optS_at, nil_ptr, addr_at, load1_at, show 0 + 1 = 1 from rfl, h1, optS_at, idxStr_at _ _ _ _ hlt, hs.at_ i hlt]
  rw [show LA u 80 [V.int .u8 (((120 : UInt8).toNat : Nat))] h = some (.bool false, h) from end_x u h, bindS_at, not_at, Bool.not_false, ifS_true]
  exact e29
theorem skip_end (u : TypeId) {n : Nat} {h : Hp} {b : Nat} (h1 : h.cell b 1 = some (.int .i64 (n : Nat))) : LA u 27 [.ptr b 0, .int .i64 (n : Nat)] h = some (.tuple [], h) := by
  refine @lim_ent Tryz.prog (orc fnA (Inv u)) labs 27 G27 (E27 fnA (Inv u)) _ _ _ (show B27 (LA u) (.ptr b 0) (.int .i64 (n : Nat)) h = _ from ?_)
  unfold B27
  rw [nil_ptr, addr_at, load1_at, show 0 + 1 = 1 from rfl, h1, optS_at, intS_at, int_lss, optS_at, decide_eq_false (by omega), ifS_false]
theorem skip_more (u : TypeId) {s : List UInt8} {n : Nat} (hs : Xs s n) (hn : n ≤ 1000000) {h : Hp} {b : Nat} (h0 : h.cell b 0 = some (.str s)) (hw : 1 < h.wide b) :
    ∀ (k i : Nat), i + k = n → LA u 27 [.ptr b 0, .int .i64 (n : Nat)] (h.wr b 1 (.int .i64 (i : Nat))) = some (.tuple [], h.wr b 1 (.int .i64 (n : Nat)))
  | 0, i, hi => by
    have : i = n := by omega
    subst this
    exact skip_end u (by rw [wr_cell _ hw, if_pos ⟨rfl, rfl⟩])
  | k + 1, i, hi => by
    refine skip_step u hs hn (i := i) (by rw [wr_cell _ hw, if_neg (by simp), h0]) (by rw [wr_cell _ hw, if_pos ⟨rfl, rfl⟩]) (by rw [wr_wide]; exact hw) (by omega) ?_
    rw [wr_wr _ _ hw]
    exact skip_more u hs hn h0 hw k (i + 1) (by omega)
theorem skip_x (u : TypeId) {s : List UInt8} {n : Nat} (hs : Xs s n) (hn : n ≤ 1000000) (hp : 0 < n) {h : Hp} {b : Nat} (h0 : h.cell b 0 = some (.str s)) (h1 : h.cell b 1 = some (.int .i64 (0 : Nat))) (hw : 1 < h.wide b) :
    LA u 27 [.ptr b 0, .int .i64 (n : Nat)] h = some (.tuple [], h.wr b 1 (.int .i64 (n : Nat))) :=
  skip_step u hs hn h0 h1 hw hp (skip_more u hs hn h0 hw (n - 1) 1 (by omega))
end Go.LN
