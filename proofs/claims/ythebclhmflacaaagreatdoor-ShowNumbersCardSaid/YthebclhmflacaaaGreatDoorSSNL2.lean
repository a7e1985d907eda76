/- ShowNumbers: the longest text: the row is filled, and what comes behind. -/
import Derived.Test.YthebclhmflacaaaGreatDoorSSNL
set_option linter.all false
open Go Go.Mid Go.Proofs
set_option linter.unusedVariables false
namespace Go.SN
noncomputable abbrev LB : Nat → List V → Hp → VH := @lim Tryz.prog (orc fnB Inv) labs
theorem setP_set {α : Type} (x y : α) : ∀ (p : List Bool) (t : Tr α), Tr.setP y p (Tr.setP x p t) = Tr.setP y p t
  | [], t => by cases t <;> rfl
  | b :: p, t => by
    cases t with
    | nil =>
      cases b
      · show Tr.node .nil none (Tr.setP y p (Tr.setP x p .nil)) = Tr.node .nil none (Tr.setP y p .nil); rw [setP_set x y p]
      · show Tr.node (Tr.setP y p (Tr.setP x p .nil)) none .nil = Tr.node (Tr.setP y p .nil) none .nil; rw [setP_set x y p]
    | node l v r =>
      cases b
      · show Tr.node l v (Tr.setP y p (Tr.setP x p r)) = Tr.node l v (Tr.setP y p r); rw [setP_set x y p]
      · show Tr.node (Tr.setP y p (Tr.setP x p l)) v r = Tr.node (Tr.setP y p l) v r; rw [setP_set x y p]
theorem set_set {α : Type} (t : Tr α) (i : Nat) (x y : α) : (t.set i x).set i y = t.set i y := setP_set x y _ t
abbrev sl : V := .slice 7 0 65527 65527 false
theorem Hc_get (c : Tr V) (m : Nat) : (Hc c m).t.get 7 = some (.cells c 65527 false 5) := by
  show (h0.t.set 7 (.cells c 65527 false 5)).get 7 = _
  exact Tr.get_set_same _ _ _
theorem Hc_wr (c : Tr V) (m i : Nat) (v : V) (hm : m = 7 ∨ m = big) : (Hc c m).wr 7 i v = Hc (c.set i v) 7 := by
  rw [wr_of (Hc_get c m)]
  unfold Hp.put Hc
  simp only [set_set]
  congr 1
  rcases hm with rfl | rfl
  · rfl
  · exact Nat.min_eq_left (by decide)
theorem b2s_of {h : Hp} {b o n k : Nat} {g' : Bool} {c : Tr V} {m : Nat} {g : Bool} {e : TypeId} {l : List V} {r : List UInt8} (hg : h.t.get b = some (.cells c m g e)) (hl : c.getL o n = some l) (hb : bytesV l = some r) : b2s h (.slice b o n k g') = some (.str r) := by
  unfold b2s
  simp only [hg, cellsT, hl, hb]
theorem mkS_at {n : Nat} {z : V} (h : Hp) (hr : roomB n = true) (hz : (vcells z).length = 1) : mkS 5 1 1 z (.int .i64 (.ofNat n)) (.int .i64 (.ofNat n)) h = some (.slice h.n 0 n n false, h.newRow 5 (mulz (vcells z) n) false) := by
  show (bif Nat.ble n n && roomB n && roomB (n * 1) && Nat.beq (vcells z).length 1 then some (V.slice h.n 0 n n false, h.newRow 5 (mulz (vcells z) n) false) else none) = _
  rw [Nat.mul_one, hr, hz, show Nat.ble n n = true from Nat.ble_eq_true_of_le (Nat.le_refl n)]; rfl
theorem b2s_row {h : Hp} {c : Tr V} {n : Nat} {g : Bool} {e : TypeId} (hg : h.t.get 7 = some (.cells c n g e)) (hc : ∀ j, j < 65527 → c.get j = some (u8 122)) : b2s h sl = some (.str zs) := by
  have e1 : c.getL 0 65527 = some (zs.map u8) := by
    have := getL_map (f := u8) zs c 0 fun i hi => by
      rw [zs_len] at hi
      rw [Nat.zero_add, hc i hi]
      unfold zs
      rw [List.getElem?_replicate, if_pos hi]; rfl
    rwa [zs_len] at this
  have e2 : ∀ l : List UInt8, bytesV (l.map u8) = some l := by
    intro l
    induction l with
    | nil => rfl
    | cons a l ih =>
      rw [List.map_cons]
      show (match bytesV (l.map u8) with
        | some r => some (UInt8.ofNat (Int.ofNat a.toNat).toNat :: r)
        | none => none) = _
      rw [ih]
      simp
  exact b2s_of hg e1 (e2 zs)
theorem fill (D : ∀ C : Tr V, (∀ j, j < 65527 → C.get j = some (u8 122)) → ∃ h', B1 LB sl (.int .i64 (65527 : Nat)) (.int .i64 (65527 : Nat)) (Hc C 7) = some (.bool true, h')) :
    ∀ (k i : Nat) (c : Tr V) (m : Nat), i + k = 65527 → (∀ j, j < i → c.get j = some (u8 122)) → (m = 7 ∨ (m = big ∧ k ≠ 0)) → ∃ h', LB 1 [sl, .int .i64 (65527 : Nat), .int .i64 (i : Nat)] (Hc c m) = some (.bool true, h')
  | 0, i, c, m, hi, hc, hm => by
    have : i = 65527 := by omega
    subst this
    rcases hm with rfl | ⟨_, h⟩
    · obtain ⟨h', e⟩ := D c hc
      exact ⟨h', @lim_ent Tryz.prog (orc fnB Inv) labs 1 G1 (E1 fnB Inv) _ _ _ e⟩
    · exact absurd rfl h
  | k + 1, i, c, m, hi, hc, hm => by
    obtain ⟨h', e⟩ := fill D k (i + 1) (c.set i (u8 122)) 7 (by omega) (fun j hj => by
      rw [Tr.get_set]
      by_cases hij : i = j
      · rw [if_pos hij]
      · rw [if_neg hij]; exact hc j (by omega)) (.inl rfl)
    refine ⟨h', @lim_ent Tryz.prog (orc fnB Inv) labs 1 G1 (E1 fnB Inv) _ _ _ (show B1 LB sl (.int .i64 (65527 : Nat)) (.int .i64 (i : Nat)) (Hc c m) = _ from ?_)⟩
    unfold B1
    rw [intS_at, int_lss, optS_at, decide_eq_true (by omega), ifS_true, idx_at _ _ _ _ _ _ _ _ _ (show i < 65527 by omega), Nat.mul_one, Nat.zero_add]
    have hw : i < (Hc c m).wide 7 := by unfold Hp.wide; rw [Hc_get]; show i < 65527; omega
    rw [storeC_at _ rfl hw, show (V.int .u8 (.ofNat 122)) = u8 122 from rfl, Hc_wr c m i _ (by rcases hm with h | h; exact .inl h; exact .inr h.1), intS_at, int_add, optS_at]
    have : IntKind.wrap .i64 ((i : Int) + Int.ofNat 1) = ((i + 1 : Nat) : Int) := by
      rw [← fwrap_eq]
      show (bif Nat.ble (i + 1) (kTop .i64) then Int.ofNat (i + 1) else _) = _
      rw [show Nat.ble (i + 1) (kTop .i64) = true from Nat.ble_eq_true_of_le (by show i + 1 ≤ 9223372036854775807; omega)]; rfl
    rw [this]; exact e
theorem tabs {n key : Nat} {vs : List V} {h : Hp} {p : V × Hp} (e : gTab tabB n key vs h = some p) : LB key vs h = some p := @lim_tab Tryz.prog (orc fnB Inv) labs tabB (tabB_ok Inv) _ _ _ _ _ e
theorem st_some {z : List UInt8} {h : Hp} {p : V × Hp} (e : st z h = some p) : ∃ v1 h1, LB 24 [.str z] h = some (v1, h1) ∧ LB 10 [v1] h1 = some p := by
  unfold st at e
  cases e1 : gTab tabB 100000 24 [.str z] h with
  | none => rw [e1] at e; cases e
  | some q =>
    obtain ⟨v1, h1⟩ := q
    rw [e1, bindS_at] at e
    exact ⟨v1, h1, tabs e1, tabs e⟩
theorem is1_some {x : VH} (h : is1 x = true) : ∃ s h', x = some (.tuple [.str s, .int .i64 (.ofNat 0)], h') ∧ s.length = 65535 := by
  unfold is1 at h
  split at h
  · rename_i s e h'
    simp only [Bool.and_eq_true] at h
    have := Nat.eq_of_beq_eq_true h.2; subst this
    exact ⟨s, h', rfl, Nat.eq_of_beq_eq_true h.1⟩
  · cases h
theorem is2_some {x : VH} (h : is2 x = true) : ∃ h', x = some (.tuple [.str [], .int .i64 (.ofNat 3)], h') := by
  unfold is2 at h
  split at h
  · rename_i e h'
    have := Nat.eq_of_beq_eq_true h; subst this
    exact ⟨h', rfl⟩
  · cases h
theorem add_at' {x y : List UInt8} (h : x.length + y.length ≤ 4611686018427387904) : strOp .add x y = some (.str (x ++ y)) := by
  show (bif Nat.ble (x.length + y.length) 4611686018427387904 then some (V.str (x ++ y)) else none) = _
  rw [Nat.ble_eq_true_of_le h]; rfl
theorem rest (C : Tr V) (hC : ∀ j, j < 65527 → C.get j = some (u8 122)) : ∃ h', B1 LB sl (.int .i64 (65527 : Nat)) (.int .i64 (65527 : Nat)) (Hc C 7) = some (.bool true, h') := by
  have hr := run1 C
  unfold run at hr
  simp only [Bool.and_eq_true] at hr
  obtain ⟨hr1, hr2⟩ := hr
  obtain ⟨s, h12, e1, hs⟩ := is1_some hr1
  have e7 := run2 C
  rw [e1] at hr2 e7
  obtain ⟨h21, e2⟩ := is2_some hr2
  obtain ⟨v9, h10, a1, a2⟩ := st_some e1
  obtain ⟨v18, h19, b1, b2⟩ := st_some e2
  refine ⟨h21, ?_⟩
  unfold B1
  rw [intS_at, int_lss, optS_at, decide_eq_false (by omega), ifS_false, b2s_row (Hc_get C 7) hC, show ∀ (v : V) (h : Hp), vh h (some v) = some (v, h) from fun _ _ => rfl, bindS_at]
  rw [show dynE LB (.func 12 [] []) [.str zs] (Hc C 7) = LB 24 [.str zs] (Hc C 7) from rfl, a1, bindS_at, a2, bindS_at]
  rw [show ∀ k, extS 0 (V.tuple [.str s, .int .i64 (.ofNat 0)]) k = k (.str s) from fun _ => rfl, show ∀ k, extS 1 (V.tuple [.str s, .int .i64 (.ofNat 0)]) k = k (.int .i64 (.ofNat 0)) from fun _ => rfl]
  rw [b2s_row (h := h12) e7 hC, show ∀ (v : V) (h : Hp), vh h (some v) = some (v, h) from fun _ _ => rfl, bindS_at]
  rw [str_at, show us [122] = [122] from rfl, add_at' (x := zs) (y := [122]) (by rw [zs_len]; decide), optS_at]
  rw [show dynE LB (.func 12 [] []) [.str (zs ++ [122])] h12 = LB 24 [.str (zs ++ [122])] h12 from rfl]
  rw [show LB 24 [.str (zs ++ [122])] h12 = _ from b1, bindS_at, b2, bindS_at]
  rw [show ∀ k, extS 0 (V.tuple [.str [], .int .i64 (.ofNat 3)]) k = k (.str []) from fun _ => rfl, show ∀ k, extS 1 (V.tuple [.str [], .int .i64 (.ofNat 3)]) k = k (.int .i64 (.ofNat 3)) from fun _ => rfl]
  rw [show ∀ k, intS .eql (V.int .i64 (.ofNat 0)) (.int .i64 (.ofNat 0)) k = k (.bool true) from fun _ => rfl, guard_tt, bindS_at, guard_tt, lenStr_at, bindS_at, hs]
  rfl
theorem long_true : ∃ h', LB 12 [] h0 = some (.bool true, h') := by
  have hl : (mulz (vcells (V.int .u8 (.ofNat 0))) 65527).length = 65527 := by
    have : ∀ (n : Nat) (l acc : List V), (rep n l acc).length = n * l.length + acc.length := by
      intro n
      induction n with
      | zero => intro l acc; simp [rep]
      | succ n ih => intro l acc; rw [rep, ih]; simp [Nat.succ_mul]; omega
    unfold mulz; rw [this]; rfl
  obtain ⟨h', e⟩ := fill rest 65527 0 (Tr.nil.setL 0 (mulz (vcells (V.int .u8 (.ofNat 0))) 65527)) big rfl (fun j hj => absurd hj (Nat.not_lt_zero _)) (.inr ⟨rfl, by decide⟩)
  refine ⟨h', @lim_ent Tryz.prog (orc fnB Inv) labs 12 G12 (E12 fnB Inv fun _ _ => rfl) _ _ _ (show B12 LB h0 = _ from ?_)⟩
  unfold B12
  have en : h0.newRow 5 (mulz (vcells (V.int .u8 (.ofNat 0))) 65527) false = Hc (Tr.nil.setL 0 (mulz (vcells (V.int .u8 (.ofNat 0))) 65527)) big := by
    unfold Hp.newRow Hp.new Hc
    rw [hl]; rfl
  rw [mkS_at (n := 65527) h0 rfl rfl, bindS_at, lenSl_at, en]
  exact e
theorem known_long : Known Tryz.prog Inv 6 [] (.bool true) := by
  letI : Orc := orc fnB Inv
  letI : OrcOk Tryz.prog := okB
  obtain ⟨h', e⟩ := long_true
  exact known_of (by kernel_rfl) named (h0 := h0) (h' := h') (fun w hw => begins rfl (fun _ h => h) hw) rfl rfl e
end Go.SN
