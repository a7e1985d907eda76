/- A part of the proof. -/
import Derived.Test.YtdiiilfokajddaaGreatDoorKLBJ
import Derived.Lib.ItoaMem
import Derived.Lib.ParseIntBTie
set_option linter.all false
set_option warn.classDefReducibility false
noncomputable section
section
open Go Go.Mid Go.Proofs
set_option maxRecDepth 100000
namespace Go.LB
section
def nln (X : List (Tk × Nat) × Int × Int) : List Tk × Int:=(X.1.map (·.1), X.2.1)
def lexB (f : Nat) (D : List Nat) (ln : Nat) (acc : List (Tk × Nat)) : List (Tk × Nat) × Int × Int :=
 if D = [] then (acc ++ [(⟨6, [], 0, 0, 0⟩, ln)], 0, 0)
 else if (nt D).2.1 = 0 ∧ (nt D).1 = true then lexL f (D.drop (nt D).2.2) (ln + lnc (D.take (nt D).2.2)) acc
 else if (nt D).2.1 ≠ 0 then ([], (nt D).2.1, ((ln + lnc (D.take (nt D).2.2) : Nat) : Int))
 else if (tk D).e ≠ 0 then ([], (tk D).e, ((ln : Nat) : Int))
 else lexL f (D.drop (tk D).n) (ln + lnc (D.take (tk D).n)) (acc ++ [(tk D, ln)])
theorem lexL_B (f : Nat) (R : List Nat) (ln : Nat) (acc : List (Tk × Nat)) : lexL (f + 1) R ln acc = lexB f (R.drop (cnt isSp R)) (ln + lnc (R.take (cnt isSp R))) acc:=by rw [lexL]; rfl
theorem lexL_nl : ∀ (f : Nat) (R : List Nat) (ln ln' : Nat) (acc acc' : List (Tk × Nat)), acc.map (·.1) = acc'.map (·.1) → nln (lexL f R ln acc) = nln (lexL f R ln' acc')
 | 0, _, _, _, _, _, _ => rfl
 | f + 1, R, ln, ln', acc, acc', h => by
  rw [lexL_B, lexL_B]
  generalize R.drop (cnt isSp R) = D
  unfold lexB
  by_cases h1 : D = []
  ·rw [if_pos h1, if_pos h1]
   unfold nln
   rw [List.map_append, List.map_append, h]; rfl
  ·rw [if_neg h1, if_neg h1]
   by_cases h2 : (nt D).2.1 = 0 ∧ (nt D).1 = true
   ·rw [if_pos h2, if_pos h2]; exact lexL_nl f _ _ _ _ _ h
   ·rw [if_neg h2, if_neg h2]
    by_cases h3 : (nt D).2.1 ≠ 0
    ·rw [if_pos h3, if_pos h3]; rfl
    ·rw [if_neg h3, if_neg h3]
     by_cases h4 : (tk D).e ≠ 0
     ·rw [if_pos h4, if_pos h4]; rfl
     ·rw [if_neg h4, if_neg h4]
      refine lexL_nl f _ _ _ _ _ ?_
      rw [List.map_append, List.map_append, h]; rfl
theorem lexB_nl (f : Nat) (D : List Nat) (ln ln' : Nat) (acc : List (Tk × Nat)) : nln (lexB f D ln acc) = nln (lexB f D ln' acc):=by
 unfold lexB
 by_cases h1 : D = []
 ·rw [if_pos h1, if_pos h1]
  unfold nln
  rw [List.map_append, List.map_append]; rfl
 ·rw [if_neg h1, if_neg h1]
  by_cases h2 : (nt D).2.1 = 0 ∧ (nt D).1 = true
  ·rw [if_pos h2, if_pos h2]; exact lexL_nl f _ _ _ _ _ rfl
  ·rw [if_neg h2, if_neg h2]
   by_cases h3 : (nt D).2.1 ≠ 0
   ·rw [if_pos h3, if_pos h3]; rfl
   ·rw [if_neg h3, if_neg h3]
    by_cases h4 : (tk D).e ≠ 0
    ·rw [if_pos h4, if_pos h4]; rfl
    ·rw [if_neg h4, if_neg h4]
     refine lexL_nl f _ _ _ _ _ ?_
     rw [List.map_append, List.map_append]; rfl
theorem lexL_err : ∀ (f : Nat) (R : List Nat) (ln : Nat) (acc : List (Tk × Nat)), ((lexL f R ln acc).2.1 = 0 → (lexL f R ln acc).2.2 = 0) ∧ ((lexL f R ln acc).2.1 ≠ 0 → (lexL f R ln acc).1 = [])
 | 0, _, _, _ => ⟨fun _ => rfl, fun h => absurd rfl h⟩
 | f + 1, R, ln, acc => by
  rw [lexL_B]
  generalize R.drop (cnt isSp R) = D
  unfold lexB
  split
  ·exact ⟨fun _ => rfl, fun h => absurd rfl h⟩
  ·split
   ·exact lexL_err f _ _ _
   ·split
    ·rename_i h; exact ⟨fun c => absurd c h, fun _ => rfl⟩
    ·split
     ·rename_i h; exact ⟨fun c => absurd c h, fun _ => rfl⟩
     ·exact lexL_err f _ _ _
theorem cnt_app {p : Nat → Bool} : ∀ (w R : List Nat), w.all p = true → cnt p (w ++ R) = w.length + cnt p R
 | [], R, _ => by simp
 | b :: w, R, h => by
  rw [List.all_cons, Bool.and_eq_true] at h
  have ih:=cnt_app w R h.2
  have e : cnt p (b :: (w ++ R)) = if p b then cnt p (w ++ R) + 1 else 0:=rfl
  rw [List.cons_append, e, h.1, if_pos rfl, ih, List.length_cons]; omega
theorem lex_sp (f : Nat) (w R : List Nat) (hw : w.all isSp = true) (ln : Nat) (acc : List (Tk × Nat)) : nln (lexL (f + 1) (w ++ R) ln acc) = nln (lexL (f + 1) R ln acc):=by
 rw [lexL_B, lexL_B, cnt_app w R hw]
 have e : (w ++ R).drop (w.length + cnt isSp R) = R.drop (cnt isSp R):=by rw [List.drop_length_add_append]
 rw [e]
 exact lexB_nl f _ _ _ acc
theorem lex_nt (f : Nat) {D R : List Nat} {n : Nat} (h : nt D = (true, 0, n)) (hd : D.drop n = R) (hs : cnt isSp D = 0) (hne : D ≠ []) (ln : Nat) (acc : List (Tk × Nat)) : nln (lexL (f + 1) D ln acc) = nln (lexL f R ln acc):=by
 rw [lexL_B, hs, List.drop_zero]
 unfold lexB
 rw [if_neg hne, h, if_pos ⟨rfl, rfl⟩, hd]
 exact lexL_nl f _ _ _ _ _ rfl
def gapL (k : Nat) : List Nat := match k with
 | 0 => [32]
 | 1 => [10]
 | 2 => [9, 32, 9]
 | 3 => [32, 45, 45, 120, 10]
 | 4 => [32, 45, 45, 91, 91, 32, 93, 93, 32]
 | 5 => [13, 10]
 | 6 => [32, 45, 45, 91, 61, 91, 10, 93, 93, 93, 61, 93]
 | _ => [11, 12]
theorem nt_lng {D : List Nat} {n : Nat} {z : List Nat} (h : lng D = (z, n + 1, true)) : nt (45 :: 45 :: D) = (true, 0, n + 1 + 2):=by
 unfold nt
 rw [if_pos (show [45, 45].isPrefixOf (45 :: 45 :: D) = true from rfl)]
 have h2 : lng (List.drop 2 (45 :: 45 :: D)) = (z, n + 1, true):=h
 rw [h2, if_pos rfl, if_neg (Nat.succ_ne_zero _)]
theorem nt_4 (R : List Nat) : nt ([45, 45, 91, 91, 32, 93, 93, 32] ++ R) = (true, 0, 7):=by
 refine nt_lng (n:=4) (z:=[32]) ?_
 have e : eqn ((91 :: 91 :: 32 :: 93 :: 93 :: 32 :: R).drop 1) = 0:=eqn_rep 0 (91 :: 32 :: 93 :: 93 :: 32 :: R) (fun c => absurd (Option.some.inj c) (by decide))
 show lng (91 :: 91 :: 32 :: 93 :: 93 :: 32 :: R) = _
 unfold lng
 rw [e]; rfl
theorem nt_6 (R : List Nat) : nt ([45, 45, 91, 61, 91, 10, 93, 93, 93, 61, 93] ++ R) = (true, 0, 11):=by
 refine nt_lng (n:=8) (z:=[93, 93]) ?_
 have e : eqn ((91 :: 61 :: 91 :: 10 :: 93 :: 93 :: 93 :: 61 :: 93 :: R).drop 1) = 1:=eqn_rep 1 (91 :: 10 :: 93 :: 93 :: 93 :: 61 :: 93 :: R) (fun c => absurd (Option.some.inj c) (by decide))
 show lng (91 :: 61 :: 91 :: 10 :: 93 :: 93 :: 93 :: 61 :: 93 :: R) = _
 unfold lng
 rw [e]; rfl
theorem gap_ok (k : Nat) (R : List Nat) : ∃ r, r + 1 ≤ (gapL k).length ∧ ∀ (f ln : Nat) (acc : List (Tk × Nat)), nln (lexL (f + 1 + r) (gapL k ++ R) ln acc) = nln (lexL (f + 1) R ln acc):=by
 unfold gapL
 split
 ·exact ⟨0, by decide, fun f ln acc => lex_sp f _ R rfl ln acc⟩
 ·exact ⟨0, by decide, fun f ln acc => lex_sp f _ R rfl ln acc⟩
 ·exact ⟨0, by decide, fun f ln acc => lex_sp f _ R rfl ln acc⟩
 ·refine ⟨1, by decide, fun f ln acc => ?_⟩
  refine (lex_sp (f + 1) [32] ([45, 45, 120, 10] ++ R) rfl ln acc).trans ?_
  refine (lex_nt (D:=[45, 45, 120, 10] ++ R) (n:=3) (R:=[10] ++ R) (f + 1) rfl rfl rfl (fun c => nomatch c) ln acc).trans ?_
  exact lex_sp f [10] R rfl ln acc
 ·refine ⟨1, by decide, fun f ln acc => ?_⟩
  refine (lex_sp (f + 1) [32] ([45, 45, 91, 91, 32, 93, 93, 32] ++ R) rfl ln acc).trans ?_
  refine (lex_nt (D:=[45, 45, 91, 91, 32, 93, 93, 32] ++ R) (n:=7) (R:=[32] ++ R) (f + 1) (nt_4 R) rfl rfl (fun c => nomatch c) ln acc).trans ?_
  exact lex_sp f [32] R rfl ln acc
 ·exact ⟨0, by decide, fun f ln acc => lex_sp f _ R rfl ln acc⟩
 ·refine ⟨1, by decide, fun f ln acc => ?_⟩
  refine (lex_sp (f + 1) [32] ([45, 45, 91, 61, 91, 10, 93, 93, 93, 61, 93] ++ R) rfl ln acc).trans ?_
  exact lex_nt (D:=[45, 45, 91, 61, 91, 10, 93, 93, 93, 61, 93] ++ R) (n:=11) (R:=R) (f + 1) (nt_6 R) rfl rfl (fun c => nomatch c) ln acc
 ·exact ⟨0, by decide, fun f ln acc => lex_sp f _ R rfl ln acc⟩
theorem gap_head (k : Nat) : ∃ g r, gapL k = g :: r ∧ isSp g = true:=by
 unfold gapL
 split <;> exact ⟨_, _, rfl, rfl⟩
theorem sp_no {g : Nat} (h : isSp g = true) : isLt g = false ∧ isDg g = false ∧ g ≠ 46 ∧ g ≠ 43 ∧ g ≠ 45 ∧ g ≠ 61 ∧ g ≠ 91 ∧ g < 256:=by
 have hg : g = 32 ∨ (9 ≤ g ∧ g ≤ 13):=by
  unfold isSp at h
  rw [Bool.or_eq_true, beq_iff_eq] at h
  exact h.imp id in_of
 have hg : g = 32 ∨ g = 9 ∨ g = 10 ∨ g = 11 ∨ g = 12 ∨ g = 13:=by omega
 rcases hg with rfl | rfl | rfl | rfl | rfl | rfl <;> decide
theorem wh_stop {σ : Type} {f : σ → Nat → Bool × σ} {g : Nat} (hg : ∀ s, (f s g).1 = false) (R : List Nat) : ∀ (z : List Nat) (s : σ), (∀ b ∈ z, ∀ s, (f s b).1 = true) → wh f s (z ++ g :: R) = z.length
 | [], s, _ => by rw [List.nil_append, wh, hg s, if_neg (by decide)]; rfl
 | b :: z, s, h => by
  rw [List.cons_append, wh, h b List.mem_cons_self s, if_pos rfl, wh_stop hg R z _ fun c hc => h c (List.mem_cons_of_mem _ hc)]; rfl
theorem pfx2_no {p q : Nat} {L : List Nat} (h : at0 L 0 ≠ p ∨ at0 L 1 ≠ q) : [p, q].isPrefixOf L = false:=by
 rw [pfx_take]
 refine decide_eq_false fun c => ?_
 match L, c with
 | a :: b :: r, c =>
  have c2:=c.2
  rw [show List.take [p, q].length (a :: b :: r) = [a, b] from rfl] at c2
  injection c2 with e1 e2
  injection e2 with e2 _
  rcases h with h | h
  ·exact h e1
  ·exact h e2
 | [a], c => exact absurd c.1 (by simp)
 | [], c => exact absurd c.1 (by simp)
theorem nt_none2 {L : List Nat} (h : at0 L 0 ≠ 45 ∨ at0 L 1 ≠ 45) : nt L = (false, 0, 0):=by
 unfold nt
 rw [pfx2_no h]; rfl
theorem sp_zero {b : Nat} {r : List Nat} (h : isSp b = false) : cnt isSp (b :: r) = 0:=by
 show wh _ _ _ = 0
 rw [wh, if_neg (show ¬ (isSp b) = true by rw [h]; decide)]
theorem lt_no {b : Nat} (h : isLt b = true) : b ≠ 45 ∧ isSp b = false:=by
 unfold isLt at h
 rw [Bool.or_eq_true, Bool.or_eq_true, beq_iff_eq] at h
 have hb : (97 ≤ b ∧ b ≤ 122) ∨ (65 ≤ b ∧ b ≤ 90) ∨ b = 95:=by
  rcases h with (h | h) | h
  ·exact .inl (in_of h)
  ·exact .inr (.inl (in_of h))
  ·exact .inr (.inr h)
 refine ⟨by omega, ?_⟩
 unfold isSp isIn
 rw [Bool.or_eq_false_iff, beq_eq_false_iff_ne, Bool.and_eq_false_iff, decide_eq_false_iff_not, decide_eq_false_iff_not]
 omega
theorem tk_name {b : Nat} {z R : List Nat} {g : Nat} (hb : isLt b = true) (hz : ∀ c ∈ z, (isLt c || isDg c) = true) (hg : isSp g = true) :
 tk (b :: z ++ g :: R) = ⟨if wrd (b :: z) then 2 else 1, b :: z, 0, (b :: z).length, 0⟩ ∧ nt (b :: z ++ g :: R) = (false, 0, 0) ∧ cnt isSp (b :: z ++ g :: R) = 0:=by
 obtain ⟨g1, g2, _⟩:=sp_no hg
 obtain ⟨b1, b2⟩:=lt_no hb
 have hc : cnt (fun b => isLt b || isDg b) (b :: z ++ g :: R) = (b :: z).length:=by
  refine wh_stop (fun _ => ?_) R (b :: z) () fun c hc _ => ?_
  ·show (isLt g || isDg g) = false
   rw [g1, g2]; rfl
  ·rcases List.mem_cons.1 hc with rfl | hc
   ·show (isLt c || isDg c) = true
    rw [hb]; rfl
   ·exact hz c hc
 refine ⟨?_, nt_none2 (.inl b1), sp_zero b2⟩
 unfold tk
 rw [show (b :: z ++ g :: R).headD 0 = b from rfl, hb, if_pos rfl, hc, List.take_left]
theorem pfx_stop {g : Nat} (R : List Nat) : ∀ (y z : List Nat), g ∉ y → y.isPrefixOf (z ++ g :: R) = y.isPrefixOf z
 | [], z, _ => by cases z <;> rfl
 | a :: y, [], h => by
  have : a ≠ g:=fun e => h (by rw [e]; exact List.mem_cons_self)
  show (a == g && _) = false
  rw [beq_eq_false_iff_ne.2 this]; rfl
 | a :: y, b :: z, h => by
  show (a == b && y.isPrefixOf (z ++ g :: R)) = (a == b && y.isPrefixOf z)
  rw [pfx_stop R y z fun e => h (List.mem_cons_of_mem _ e)]
theorem sgn_stop {g b : Nat} {R z : List Nat} : ∀ Z : List Bs, (∀ y ∈ Z, g ∉ bts y) → sgn (b :: z ++ g :: R) Z = sgn (b :: z) Z
 | [], _ => rfl
 | y :: Z, h => by
  rw [sgn, sgn, pfx_stop R (bts y) (b :: z) (h y List.mem_cons_self), sgn_stop Z fun y hy => h y (List.mem_cons_of_mem _ hy)]
theorem lng_no {L : List Nat} (h : at0 L 0 ≠ 91 ∨ (at0 L 1 ≠ 61 ∧ at0 L 1 ≠ 91)) : (lng L).2.2 = false:=by
 unfold lng
 rw [pfx_one]
 by_cases h1 : L.head? = some 91
 ·rw [decide_eq_true h1, if_neg (by decide), pfx_one]
  match L, h1 with
  | a :: r, h1 =>
   have ha : a = 91:=Option.some.inj h1
   have hr : at0 (a :: r) 1 = at0 r 0:=rfl
   rw [hr] at h
   have h2 : at0 r 0 ≠ 61 ∧ at0 r 0 ≠ 91:=h.resolve_left fun c => c ha
   have hne : r.head? ≠ some 61 := fun c => h2.1 (by cases r with
    | nil => cases c
    | cons x r => exact Option.some.inj c)
   have e : eqn ((a :: r).drop 1) = 0:=eqn_rep 0 r hne
   rw [e]
   have h3 : ((a :: r).drop (1 + 0)).head? ≠ some 91 := fun c => h2.2 (by cases r with
    | nil => cases c
    | cons x r => exact Option.some.inj c)
   rw [decide_eq_false h3, if_pos rfl]
 ·rw [decide_eq_false h1, if_pos rfl]
def sg2 (a b : Nat) : Bool:=!isLt a && !(isDg a || (a == 46 && isDg b)) && (!(a == 91) || (!(b == 61) && !(b == 91))) && !(a == 34) && !(a == 39) && (!(a == 45) || !(b == 45)) && !isSp a
theorem sg_all : (sgL.all fun z => ([32, 9, 10, 11, 12, 13].all fun g => sg2 ((bts z ++ [g]).headD 0) ((bts z ++ [g]).getD 1 0) && !(bts z).contains g) && !(bts z).isEmpty && (match sgn (bts z) sgL with
 | ⟨k, w, N, n, e⟩ => decide (k = 3) && decide (w = bts z) && decide (N = 0) && Nat.beq n z.n && decide (e = 0))) = true:=by kernel_rfl
theorem tk_sign {z : Bs} {R : List Nat} {g : Nat} (hz : z ∈ sgL) (hg : isSp g = true) :
 tk (bts z ++ g :: R) = ⟨3, bts z, 0, z.n, 0⟩ ∧ nt (bts z ++ g :: R) = (false, 0, 0) ∧ cnt isSp (bts z ++ g :: R) = 0 ∧ bts z ≠ []:=by
 have hgm : g ∈ [32, 9, 10, 11, 12, 13]:=by
  have hg : g = 32 ∨ (9 ≤ g ∧ g ≤ 13):=by
   unfold isSp at hg
   rw [Bool.or_eq_true, beq_iff_eq] at hg
   exact hg.imp id in_of
  have hg : g = 32 ∨ g = 9 ∨ g = 10 ∨ g = 11 ∨ g = 12 ∨ g = 13:=by omega
  rcases hg with rfl | rfl | rfl | rfl | rfl | rfl <;> decide
 have hno : ∀ y ∈ sgL, g ∉ bts y := fun y hy c => by
  have h:=List.all_eq_true.1 sg_all y hy
  rw [Bool.and_eq_true, Bool.and_eq_true] at h
  have h:=List.all_eq_true.1 h.1.1 g hgm
  rw [Bool.and_eq_true, List.contains_iff_mem.2 c] at h
  exact nomatch h.2
 have h:=List.all_eq_true.1 sg_all z hz
 rw [Bool.and_eq_true, Bool.and_eq_true] at h
 obtain ⟨⟨h1, h2⟩, h3⟩:=h
 have h1:=List.all_eq_true.1 h1 g hgm
 rw [Bool.and_eq_true] at h1
 have h1:=h1.1
 have hsg : sgn (bts z) sgL = ⟨3, bts z, 0, z.n, 0⟩:=by
  generalize sgn (bts z) sgL = t at h3
  obtain ⟨k, w, N, n, e⟩:=t
  simp only [Bool.and_eq_true, decide_eq_true_iff] at h3
  obtain ⟨⟨⟨⟨e1, e2⟩, e3⟩, e4⟩, e5⟩:=h3
  rw [e1, e2, e3, e5, Nat.eq_of_beq_eq_true e4]
 generalize hw : bts z = w at *
 cases w with
 | nil => cases h2
 | cons a w =>
  have ea : (a :: w ++ [g]).headD 0 = a:=rfl
  have eb : (a :: w ++ [g]).getD 1 0 = at0 (a :: w ++ g :: R) 1:=by
   show (w ++ [g]).getD 0 0 = (w ++ g :: R).getD 0 0
   cases w <;> rfl
  rw [ea, eb] at h1
  generalize hb : at0 (a :: w ++ g :: R) 1 = b at h1
  unfold sg2 at h1
  simp only [Bool.and_eq_true, Bool.not_eq_true', Bool.or_eq_true, beq_eq_false_iff_ne] at h1
  obtain ⟨⟨⟨⟨⟨⟨i1, i2⟩, i3⟩, i4⟩, i5⟩, i6⟩, i7⟩:=h1
  refine ⟨?_, nt_none2 (by rw [hb]; exact i6), sp_zero i7, List.cons_ne_nil _ _⟩
  have hd : dig (a :: w ++ g :: R) = false:=by rw [dig_at, hb]; exact i2
  have hl : (lng (a :: w ++ g :: R)).2.2 = false:=lng_no (by rw [hb]; exact i3)
  have hp : [91, 61].isPrefixOf (a :: w ++ g :: R) = false:=pfx2_no (by rw [hb]; exact i3.imp id fun c => c.1)
  unfold tk
  rw [show (a :: w ++ g :: R).headD 0 = a from rfl, i1, if_neg (by decide), hd, if_neg (by decide), hl, if_neg (by decide), if_neg (fun c => c.elim i4 i5), hp, if_neg (by decide), sgn_stop sgL hno, hsg]
theorem dg_num {b : Nat} (h : isDg b = true) : 48 ≤ b ∧ b ≤ 57:=in_of (show isIn 48 b 57 = true from h)
theorem tk_num {b N : Int} {w R : List Nat} {c g : Nat} (hw : ∀ d ∈ c :: w, (isDg d || isLt d) = true) (hc : isDg c = true) (hN : numb (c :: w) = (4, N, 0)) (hg : isSp g = true) :
 tk (c :: w ++ g :: R) = ⟨4, [], N, (c :: w).length, 0⟩ ∧ nt (c :: w ++ g :: R) = (false, 0, 0) ∧ cnt isSp (c :: w ++ g :: R) = 0:=by
 obtain ⟨g1, g2, g3, g4, g5, _⟩:=sp_no hg
 have hc2:=dg_num hc
 have hs : isSp c = false:=by
  unfold isSp isIn
  rw [Bool.or_eq_false_iff, beq_eq_false_iff_ne, Bool.and_eq_false_iff, decide_eq_false_iff_not, decide_eq_false_iff_not]
  omega
 have hl : isLt c = false:=by
  unfold isLt isIn
  rw [Bool.or_eq_false_iff, Bool.or_eq_false_iff, beq_eq_false_iff_ne, Bool.and_eq_false_iff, Bool.and_eq_false_iff]
  simp only [decide_eq_false_iff_not]
  omega
 have hn : nml (c :: w ++ g :: R) = (c :: w).length:=by
  refine wh_stop (fun s => ?_) R (c :: w) 0 fun d hd s => ?_
  ·unfold nstep
   show (isDg g || isLt g || g == 46 || ((g == 43 || g == 45) && _)) = false
   rw [g1, g2, beq_eq_false_iff_ne.2 g3, beq_eq_false_iff_ne.2 g4, beq_eq_false_iff_ne.2 g5]; rfl
  ·unfold nstep
   show (isDg d || isLt d || d == 46 || _) = true
   rw [hw d hd]; rfl
 refine ⟨?_, nt_none2 (.inl (show c ≠ 45 by omega)), sp_zero hs⟩
 have hd : dig (c :: w ++ g :: R) = true:=by
  rw [dig_at, show at0 (c :: w ++ g :: R) 0 = c from rfl, hc]; rfl
 unfold tk
 rw [show (c :: w ++ g :: R).headD 0 = c from rfl, hl, if_neg (by decide), hd, if_pos rfl, hn, List.take_left, hN]
def decw (u : Nat) : List Nat:=(Lib.decDigits u).map UInt8.toNat
theorem vl_app (a : Nat) (A B : List Nat) : vl a (A ++ B) = vl (vl a A) B:=by unfold vl; rw [List.foldl_append]
theorem decw_ok : ∀ (f u : Nat), u < f → vl 0 (decw u) = u ∧ (∀ b ∈ decw u, isDg b = true) ∧ decw u ≠ []
 | 0, u, h => absurd h (Nat.not_lt_zero _)
 | f + 1, u, h => by
  have one : ∀ d, d < 10 → (UInt8.ofNat (48 + d)).toNat = 48 + d ∧ isDg (48 + d) = true := fun d hd => by
   refine ⟨by rw [UInt8.toNat_ofNat']; omega, ?_⟩
   unfold isDg isIn
   rw [decide_eq_true (by omega), decide_eq_true (by omega)]; rfl
  unfold decw
  rw [Lib.decDigits]
  by_cases c : u < 10
  ·obtain ⟨e1, e2⟩ := one u c
   rw [dif_pos c, List.map_singleton, e1]
   refine ⟨by rw [vl_cons]; show 0 * 10 + (48 + u - 48) = u; omega, fun b hb => by rw [List.mem_singleton.1 hb]; exact e2, List.cons_ne_nil _ _⟩
  ·obtain ⟨e1, e2⟩ := one (u % 10) (by omega)
   obtain ⟨i1, i2, i3⟩:=decw_ok f (u / 10) (by omega)
   rw [dif_neg c, List.map_append, List.map_singleton, e1]
   refine ⟨?_, fun b hb => ?_, fun e => by simp at e⟩
   ·rw [vl_app]
    rw [show vl 0 (List.map UInt8.toNat (Lib.decDigits (u / 10))) = u / 10 from i1, vl_cons]
    show u / 10 * 10 + (48 + u % 10 - 48) = u
    omega
   ·rcases List.mem_append.1 hb with hb | hb
    ·exact i2 b hb
    ·rw [List.mem_singleton.1 hb]; exact e2
theorem numb_dec {u : Nat} (hu : u < 9223372036854775808) : numb (decw u) = (4, (u : Int), 0):=by
 obtain ⟨h1, h2, h3⟩:=decw_ok (u + 1) u (Nat.lt_succ_self u)
 have hall : (decw u).all isDg = true:=List.all_eq_true.2 h2
 have hp : prs (decw u) = ((u : Int), true):=by
  unfold prs
  rw [if_neg, hall, if_pos rfl, pI_eq h2, h1, if_pos ⟨h3, hu⟩]
  rintro ⟨_, _, c⟩
  generalize decw u = w at h2 c
  match w, c with
  | a :: b :: r, c =>
   have:=dg_num (h2 b (by simp))
   have c : b = 120 ∨ b = 88:=c.imp Option.some.inj Option.some.inj
   omega
  | [a], c => rcases c with c | c <;> cases c
  | [], c => rcases c with c | c <;> cases c
 unfold numb
 rw [hp, pln_eq (fun b hb => by have:=dg_num (h2 b hb); omega), hall, Bool.or_true]; rfl
def hxd (d : Nat) : Nat:=if d < 10 then 48 + d else 87 + d
def hexd : Nat → Int → List Nat → List Nat
 | 0, _, acc => acc
 | k + 1, n, acc => hexd k (n / 16) (hxd (n % 16).toNat :: acc)
def hexw (n : Int) : List Nat:=48 :: 120 :: hexd 16 n []
theorem hxd_ok {d : Nat} (h : d < 16) : hexv (hxd d) = (d, true) ∧ (isDg (hxd d) || isLt (hxd d)) = true:=by
 have hA : ((List.range 16).all fun d => (hexv (hxd d) == (d, true)) && (isDg (hxd d) || isLt (hxd d))) = true:=by kernel_rfl
 have:=List.all_eq_true.1 hA d (List.mem_range.2 h)
 rw [Bool.and_eq_true, beq_iff_eq] at this
 exact this
theorem hexd_all : ∀ (k : Nat) (n : Int) (acc : List Nat), (∀ b ∈ acc, (isDg b || isLt b) = true) → ∀ b ∈ hexd k n acc, (isDg b || isLt b) = true
 | 0, _, _, h => h
 | k + 1, n, acc, h => hexd_all k _ _ fun b hb => by
  rcases List.mem_cons.1 hb with rfl | hb
  ·exact (hxd_ok (by omega)).2
  ·exact h b hb
theorem hexd_len : ∀ (k : Nat) (n : Int) (acc : List Nat), (hexd k n acc).length = k + acc.length
 | 0, _, acc => by rw [hexd, Nat.zero_add]
 | k + 1, n, acc => by rw [hexd, hexd_len k, List.length_cons]; omega
theorem mod_16 {P : Int} (hP : 0 < P) (n : Int) : n % (P * 16) = 16 * (n / 16 % P) + n % 16:=by
 have h1:=Int.emod_add_mul_ediv (n / 16) P
 have h2:=Int.emod_nonneg (n / 16) (show P ≠ 0 by omega)
 have h3:=Int.emod_lt_of_pos (n / 16) hP
 have e : n = 16 * (n / 16 % P) + n % 16 + P * 16 * (n / 16 / P):=by
  have : P * 16 * (n / 16 / P) = 16 * (P * (n / 16 / P)):=by rw [Int.mul_comm P 16, Int.mul_assoc]
  omega
 have h4 : (16 * (n / 16 % P) + n % 16 + P * 16 * (n / 16 / P)) % (P * 16) = (16 * (n / 16 % P) + n % 16) % (P * 16):=Int.add_mul_emod_self_left ..
 rw [← e] at h4
 rw [h4]
 exact Int.emod_eq_of_lt (by omega) (by omega)
theorem hexn_hexd : ∀ (k : Nat), k ≤ 16 → ∀ (n : Int) (acc : List Nat), hexn (hexd k n acc) 0 = hexn acc (n % ((16 ^ k : Nat) : Int))
 | 0, _, n, acc => by rw [hexd]; congr 1; omega
 | k + 1, hk, n, acc => by
  have h16 : (n % 16).toNat < 16:=by omega
  rw [hexd, hexn_hexd k (by omega), hexn, (hxd_ok h16).1, if_pos rfl, hst_eq _ h16]
  congr 1
  have hp : (16 : Nat) ^ (k + 1) = 16 ^ k * 16:=Nat.pow_succ ..
  have hle : (16 : Nat) ^ k ≤ 16 ^ 15:=Nat.pow_le_pow_right (by decide) (by omega)
  have h0 : 0 < (16 : Nat) ^ k:=Nat.pow_pos (by decide)
  rw [hp]
  generalize (16 : Nat) ^ k = P at hle h0
  have h1:=mod_16 (P:=(P : Int)) (by omega) n
  rw [show ((P * 16 : Nat) : Int) = (P : Int) * 16 from rfl, h1]
  have h2:=Int.emod_nonneg (n / 16) (show (P : Int) ≠ 0 by omega)
  have h3:=Int.emod_lt_of_pos (n / 16) (show 0 < (P : Int) by omega)
  generalize n / 16 % (P : Int) = x at h2 h3
  rw [show (((n % 16).toNat : Nat) : Int) = n % 16 by omega]
  refine Int.emod_eq_of_lt (by omega) ?_
  have : (P : Int) ≤ 1152921504606846976:=by omega
  omega
theorem numb_hex {n : Int} (h0 : -9223372036854775808 ≤ n) (h1 : n < 0) : numb (hexw n) = (4, n, 0):=by
 have hx1 : hexn (hexd 16 n []) 0 = (n % 18446744073709551616, true):=by rw [hexn_hexd 16 (by decide)]; rfl
 have hp : prs (hexw n) = (n, true):=by
  unfold prs
  rw [if_pos ⟨by unfold hexw; simp, rfl, .inl rfl⟩]
  have hd : (hexw n).drop 2 = hexd 16 n []:=rfl
  have hne : hexd 16 n [] ≠ []:=fun c => by have:=hexd_len 16 n []; rw [c] at this; cases this
  rw [hd, hx1, decide_eq_false hne, if_pos (show ((n % 18446744073709551616, true).2 && !false) = true from rfl)]
  show (IntKind.i64.wrap (n % 18446744073709551616), true) = _
  rw [IntKind.wrap_i64]
  congr 1
  omega
 unfold numb
 rw [hp, show hx (hexw n) = true from rfl]; rfl
theorem hexw_all (n : Int) : ∀ b ∈ hexw n, (isDg b || isLt b) = true := fun b hb => by
 rcases List.mem_cons.1 hb with rfl | hb
 ·decide
 ·rcases List.mem_cons.1 hb with rfl | hb
  ·decide
  ·exact hexd_all 16 n [] (fun b hb => nomatch hb) b hb
def q1 (b : Nat) : List Nat:=if b = 10 then [92, 110] else if b = 34 ∨ b = 92 then [92, b] else if b < 32 ∨ 126 < b then [92, 48 + b / 100, 48 + b / 10 % 10, 48 + b % 10] else [b]
def quoW (S : List Nat) : List Nat:=34 :: (S.flatMap q1 ++ [34])
theorem qtd_byte {f b n : Nat} {r : List Nat} (h1 : b ≠ 34) (h2 : isEnd b = false) (h3 : b ≠ 92) : qtd (f + 1) 34 (b :: r) n = qtd f 34 r (n + 1):=by
 rw [qtd, if_neg h1, h2, if_neg (by decide), if_neg (fun c => h3 c.1)]
theorem esc_one {c : Nat} {r : List Nat} (h1 : c ≠ 122) (h2 : isEnd c = false) : esc (c :: r) = 1:=by
 unfold esc
 rw [List.head?_cons, if_neg (fun e => h1 (Option.some.inj e)), Option.any_some, h2, Bool.false_and, Bool.false_and, if_neg (by decide)]
theorem qtd_esc {f c n : Nat} {r : List Nat} (h1 : c ≠ 122) (h2 : isEnd c = false) : qtd (f + 1) 34 (92 :: c :: r) n = qtd f 34 r (n + 2):=by
 rw [qtd, if_neg (by decide), if_neg (by decide), if_pos ⟨rfl, List.cons_ne_nil _ _⟩, esc_one h1 h2]; rfl
theorem no_end {b : Nat} (h : 14 ≤ b) : isEnd b = false:=isEnd_no (by omega) (by omega)
theorem qtd_q1 {b : Nat} (hb : b < 256) (f n : Nat) (T : List Nat) : ∃ j, j + 1 ≤ (q1 b).length ∧ ∀ f, qtd (f + (j + 1)) 34 (q1 b ++ T) n = qtd f 34 T (n + (q1 b).length):=by
 unfold q1
 by_cases h1 : b = 10
 ·rw [if_pos h1]
  exact ⟨0, by decide, fun f => qtd_esc (by decide) (by decide)⟩
 ·rw [if_neg h1]
  by_cases h2 : b = 34 ∨ b = 92
  ·rw [if_pos h2]
   exact ⟨0, Nat.le_succ _, fun f => qtd_esc (by omega) (no_end (by omega))⟩
  ·rw [if_neg h2]
   by_cases h3 : b < 32 ∨ 126 < b
   ·rw [if_pos h3]
    refine ⟨2, Nat.le_succ _, fun f => ?_⟩
    refine (qtd_esc (f:=f + 2) (by omega) (no_end (by omega))).trans ?_
    refine (qtd_byte (f:=f + 1) (by omega) (no_end (by omega)) (by omega)).trans ?_
    exact qtd_byte (by omega) (no_end (by omega)) (by omega)
   ·rw [if_neg h3]
    exact ⟨0, Nat.le_refl _, fun f => qtd_byte (by omega) (no_end (by omega)) (by omega)⟩
theorem qtd_all : ∀ (S : List Nat), (∀ b ∈ S, b < 256) → ∀ (f n : Nat) (T : List Nat), (S.flatMap q1).length < f → qtd f 34 (S.flatMap q1 ++ 34 :: T) n = n + (S.flatMap q1).length + 1
 | [], _, f + 1, n, T, _ => by show qtd (f + 1) 34 (34 :: T) n = n + 0 + 1; rw [qtd, if_pos rfl]
 | b :: S, h, f, n, T, hf => by
  rw [List.flatMap_cons, List.length_append] at hf
  obtain ⟨j, h1, h2⟩:=qtd_q1 (h b List.mem_cons_self) f n (S.flatMap q1 ++ 34 :: T)
  rw [List.flatMap_cons, List.append_assoc, List.length_append]
  obtain ⟨f', rfl⟩ : ∃ f', f = f' + (j + 1):=⟨f - (j + 1), by omega⟩
  rw [h2 f', qtd_all S (fun b hb => h b (List.mem_cons_of_mem _ hb)) f' _ T (by omega)]
  omega
theorem eso_pl {b : Nat} {T : List Nat} {v : Nat} (h : lk b PR = (v : Int)) (hb : b < 256) : eso (b :: T) = ([v], 1):=by
 obtain ⟨f1, f2, f3, f4, f5⟩:=(lk_far hb).2 (by rw [h]; omega)
 unfold eso
 dsimp only
 rw [f5, if_neg (by decide), if_neg f1, if_neg f2, if_neg f3, f4, if_neg (by decide), lk_plk hb, h, if_pos (by omega), if_pos (by omega), Int.toNat_natCast]
theorem eso_dg {a b c : Nat} {T : List Nat} (ha : isDg a = true) (hb : isDg b = true) (hc : isDg c = true) (hv : ((a - 48) * 10 + (b - 48)) * 10 + (c - 48) ≤ 255) : eso (a :: b :: c :: T) = ([((a - 48) * 10 + (b - 48)) * 10 + (c - 48)], 3):=by
 have a1:=dg_num ha
 have b1:=dg_num hb
 have c1:=dg_num hc
 have e : dgt 3 10 (a :: b :: c :: T) 0 0 = (((a - 48) * 10 + (b - 48)) * 10 + (c - 48), 3):=by
  rw [dgt, if_pos (by decide), hexv_dg ha, if_pos ⟨rfl, by dsimp only; omega⟩, dgt, if_pos ⟨by decide, by dsimp only; omega⟩, hexv_dg hb, if_pos ⟨rfl, by dsimp only; omega⟩, dgt, if_pos ⟨by decide, by dsimp only; omega⟩, hexv_dg hc, if_pos ⟨rfl, by dsimp only; omega⟩]
  dsimp only
  rw [Nat.zero_mul, Nat.zero_add]
  cases T with
  | nil => rfl
  | cons d T => rw [dgt, if_neg (fun c => absurd c.1 (by decide))]
 unfold eso
 dsimp only
 rw [no_end (by omega), if_neg (by decide), if_neg (by omega), if_neg (by omega), if_neg (by omega), ha, if_pos rfl, e]
 dsimp only
 rw [if_pos hv, IntKind.wrap_u8]
 congr 2
 omega
theorem prt_q1 {b : Nat} (hb : b < 256) (T : List Nat) : prt 34 (q1 b ++ T) = ([b], (q1 b).length):=by
 unfold q1
 by_cases h1 : b = 10
 ·rw [if_pos h1, h1]
  show prt 34 (92 :: 110 :: T) = _
  rw [prt, if_neg (by decide), if_pos rfl, eso_pl (v:=10) rfl (by decide), if_neg (by decide)]; rfl
 ·rw [if_neg h1]
  by_cases h2 : b = 34 ∨ b = 92
  ·rw [if_pos h2]
   show prt 34 (92 :: b :: T) = _
   have e : lk b PR = (b : Int):=by rcases h2 with rfl | rfl <;> rfl
   rw [prt, if_neg (by decide), if_pos rfl, eso_pl e hb, if_neg (Nat.succ_ne_zero _)]; rfl
  ·rw [if_neg h2]
   by_cases h3 : b < 32 ∨ 126 < b
   ·rw [if_pos h3]
    show prt 34 (92 :: (48 + b / 100) :: (48 + b / 10 % 10) :: (48 + b % 10) :: T) = _
    have dg : ∀ d, d < 10 → isDg (48 + d) = true := fun d hd => by
     unfold isDg isIn
     rw [decide_eq_true (by omega), decide_eq_true (by omega)]; rfl
    have e : ((48 + b / 100 - 48) * 10 + (48 + b / 10 % 10 - 48)) * 10 + (48 + b % 10 - 48) = b:=by omega
    rw [prt, if_neg (by decide), if_pos rfl, eso_dg (dg _ (by omega)) (dg _ (by omega)) (dg _ (by omega)) (by rw [e]; omega), e, if_neg (Nat.succ_ne_zero _)]; rfl
   ·rw [if_neg h3]
    show prt 34 (b :: T) = _
    rw [prt, if_neg (fun c => c.elim (fun c => by omega) (fun c => by rw [no_end (by omega)] at c; exact nomatch c)), if_neg (by omega)]; rfl
theorem unl_all : ∀ (S : List Nat), (∀ b ∈ S, b < 256) → ∀ (f : Nat) (acc : List Nat), (S.flatMap q1).length < f → unl f 34 (S.flatMap q1 ++ [34]) acc = some (acc ++ S)
 | [], _, f + 1, acc, _ => by
  rw [unl_prt (by decide) (by decide), show prt 34 ([].flatMap q1 ++ [34]) = ([], 0) from rfl, if_pos rfl, if_pos (show [].flatMap q1 ++ [34] = [34] from rfl), List.append_nil]
 | b :: S, h, f, acc, hf => by
  have hl : 1 ≤ (q1 b).length:=by obtain ⟨j, h1, _⟩:=qtd_q1 (h b List.mem_cons_self) 0 0 []; omega
  rw [List.flatMap_cons, List.length_append] at hf
  obtain ⟨f', rfl⟩ : ∃ f', f = f' + 1:=⟨f - 1, by omega⟩
  rw [unl_prt (by decide) (by decide), List.flatMap_cons, List.append_assoc, prt_q1 (h b List.mem_cons_self), if_neg (by dsimp only; omega)]
  dsimp only
  rw [List.drop_left, unl_all S (fun b hb => h b (List.mem_cons_of_mem _ hb)) f' _ (by omega), List.append_assoc]; rfl
theorem unq_quo {S : List Nat} (h : ∀ b ∈ S, b < 256) : unq (quoW S) = some S:=by
 unfold unq quoW
 rw [if_neg (fun c => c.elim (fun c => by rw [List.length_cons, List.length_append, List.length_singleton] at c; omega) (fun c => c.1 rfl))]
 exact unl_all S h _ [] (by rw [List.length_cons, List.length_append, List.length_singleton]; omega)
theorem tk_str {S R : List Nat} {g : Nat} (h : ∀ b ∈ S, b < 256) :
 tk (quoW S ++ g :: R) = ⟨5, S, 0, (quoW S).length, 0⟩ ∧ nt (quoW S ++ g :: R) = (false, 0, 0) ∧ cnt isSp (quoW S ++ g :: R) = 0:=by
 have hq : quo (quoW S ++ g :: R) = (quoW S).length:=by
  have e : quoW S ++ g :: R = 34 :: (S.flatMap q1 ++ 34 :: (g :: R)):=by unfold quoW; simp
  rw [e]
  show qtd _ 34 _ 1 = _
  rw [show (34 :: (S.flatMap q1 ++ 34 :: g :: R)).drop 1 = S.flatMap q1 ++ 34 :: g :: R from rfl, qtd_all S h _ 1 _ (by simp only [List.length_cons, List.length_append]; omega)]
  unfold quoW
  rw [List.length_cons, List.length_append, List.length_singleton]; omega
 have hl : (lng (quoW S ++ g :: R)).2.2 = false:=lng_no (.inl (show (34 : Nat) ≠ 91 by decide))
 refine ⟨?_, nt_none2 (.inl (show (34 : Nat) ≠ 45 by decide)), sp_zero (by decide)⟩
 have hd : dig (quoW S ++ g :: R) = false:=by rw [dig_at, show at0 (quoW S ++ g :: R) 0 = 34 from rfl]; rfl
 unfold tk
 rw [show (quoW S ++ g :: R).headD 0 = 34 from rfl, if_neg (by decide), hd, if_neg (by decide), hl, if_neg (by decide), if_pos (.inl rfl), hq, List.take_left, unq_quo h]; rfl
def Fm (t : Tk) : Prop :=
 (∃ b z n, isLt b = true ∧ (∀ c ∈ z, (isLt c || isDg c) = true) ∧ t = ⟨if wrd (b :: z) then 2 else 1, b :: z, 0, n, 0⟩) ∨
 (∃ N n, -9223372036854775808 ≤ N ∧ N < 9223372036854775808 ∧ t = ⟨4, [], N, n, 0⟩) ∨
 (∃ z n, (∀ b ∈ z, b < 256) ∧ t = ⟨5, z, 0, n, 0⟩) ∨
 (∃ z n, z ∈ sgL ∧ t = ⟨3, bts z, 0, n, 0⟩)
def Sm (t u : Tk) : Prop:=u.k = t.k ∧ u.z = t.z ∧ u.N = t.N
def wrt (t : Tk) : List Nat:=if t.k = 4 then (if t.N < 0 then hexw t.N else decw t.N.toNat) else if t.k = 5 then quoW t.z else t.z
theorem wrd_k (b : Bool) : (if b then (2 : Int) else 1) ≠ 4 ∧ (if b then (2 : Int) else 1) ≠ 5 ∧ (if b then (2 : Int) else 1) ≠ 6:=by cases b <;> decide
theorem fm_read {t : Tk} (h : Fm t) {g : Nat} (hg : isSp g = true) (R : List Nat) :
 Sm t (tk (wrt t ++ g :: R)) ∧ (tk (wrt t ++ g :: R)).e = 0 ∧ (tk (wrt t ++ g :: R)).n = (wrt t).length ∧ nt (wrt t ++ g :: R) = (false, 0, 0) ∧ cnt isSp (wrt t ++ g :: R) = 0 ∧ wrt t ≠ []:=by
 rcases h with ⟨b, z, n, h1, h2, rfl⟩ | ⟨N, n, h1, h2, rfl⟩ | ⟨z, n, h1, rfl⟩ | ⟨z, n, h1, rfl⟩
 ·have e : wrt ⟨if wrd (b :: z) then 2 else 1, b :: z, 0, n, 0⟩ = b :: z:=by
   unfold wrt
   rw [if_neg (wrd_k _).1, if_neg (wrd_k _).2.1]
  obtain ⟨a1, a2, a3⟩:=tk_name (R:=R) h1 h2 hg
  rw [e, a1]
  exact ⟨⟨rfl, rfl, rfl⟩, rfl, rfl, a2, a3, List.cons_ne_nil _ _⟩
 ·by_cases c : N < 0
  ·have e : wrt ⟨4, [], N, n, 0⟩ = hexw N:=by
    unfold wrt
    rw [if_pos rfl, if_pos c]
   obtain ⟨a1, a2, a3⟩:=tk_num (b:=0) (R:=R) (hexw_all N) (by decide) (numb_hex h1 c) hg
   rw [e]
   change tk (hexw N ++ g :: R) = _ at a1
   rw [a1]
   exact ⟨⟨rfl, rfl, rfl⟩, rfl, rfl, a2, a3, List.cons_ne_nil _ _⟩
  ·have e : wrt ⟨4, [], N, n, 0⟩ = decw N.toNat:=by
    unfold wrt
    rw [if_pos rfl, if_neg c]
   obtain ⟨d1, d2, d3⟩:=decw_ok (N.toNat + 1) N.toNat (Nat.lt_succ_self _)
   have d4:=numb_dec (u:=N.toNat) (by omega)
   rw [show ((N.toNat : Nat) : Int) = N by omega] at d4
   rw [e]
   generalize decw N.toNat = w at d2 d3 d4
   cases w with
   | nil => exact absurd rfl d3
   | cons x w =>
    obtain ⟨a1, a2, a3⟩:=tk_num (b:=0) (R:=R) (fun d hd => by rw [d2 d hd]; rfl) (d2 x List.mem_cons_self) d4 hg
    rw [a1]
    exact ⟨⟨rfl, rfl, rfl⟩, rfl, rfl, a2, a3, List.cons_ne_nil _ _⟩
 ·have e : wrt ⟨5, z, 0, n, 0⟩ = quoW z:=by
   unfold wrt
   rw [if_neg (show ¬ ((5 : Int) = 4) by decide), if_pos rfl]
  obtain ⟨a1, a2, a3⟩:=tk_str (R:=R) (g:=g) h1
  rw [e, a1]
  exact ⟨⟨rfl, rfl, rfl⟩, rfl, rfl, a2, a3, List.cons_ne_nil _ _⟩
 ·have e : wrt ⟨3, bts z, 0, n, 0⟩ = bts z:=by
   unfold wrt
   rw [if_neg (show ¬ ((3 : Int) = 4) by decide), if_neg (show ¬ ((3 : Int) = 5) by decide)]
  obtain ⟨a1, a2, a3, a4⟩:=tk_sign (R:=R) h1 hg
  rw [e, a1]
  exact ⟨⟨rfl, rfl, rfl⟩, rfl, (bts_len z).symm, a2, a3, a4⟩
def wrs (A : List (Tk × Nat)) (k : Nat) : List Nat:=(A.flatMap fun p => wrt p.1 ++ gapL p.2) ++ gapL k
def Al : List (Tk × Nat) → List Tk → Prop
 | [], [] => True
 | p :: A, u :: B => Sm p.1 u ∧ Al A B
 | _, _ => False
def endT : Tk:=⟨6, [], 0, 0, 0⟩
theorem wrs_read (k : Nat) : ∀ (A : List (Tk × Nat)), (∀ p ∈ A, Fm p.1) → ∀ (f ln : Nat) (acc : List (Tk × Nat)), (wrs A k).length < f →
 ∃ B, nln (lexL f (wrs A k) ln acc) = (acc.map (·.1) ++ B ++ [endT], 0) ∧ Al A B
 | [], _, f, ln, acc, hf => by
  obtain ⟨r, h1, h2⟩:=gap_ok k []
  have e : wrs [] k = gapL k ++ []:=by unfold wrs; simp
  rw [e, List.append_nil] at hf
  obtain ⟨f', rfl⟩ : ∃ f', f = f' + 1 + r:=⟨f - 1 - r, by omega⟩
  refine ⟨[], ?_, trivial⟩
  rw [e, h2 f' ln acc, lexL_B]
  show nln (lexB f' [] _ acc) = _
  unfold lexB nln
  rw [if_pos rfl, List.map_append, List.append_nil]; rfl
 | (t, j) :: A, hA, f, ln, acc, hf => by
  obtain ⟨g, r0, hg, hgs⟩:=gap_head j
  obtain ⟨r, h1, h2⟩:=gap_ok j (wrs A k)
  have e : wrs ((t, j) :: A) k = wrt t ++ g :: (r0 ++ wrs A k):=by
   unfold wrs
   rw [List.flatMap_cons, hg]; simp
  have e2 : g :: (r0 ++ wrs A k) = gapL j ++ wrs A k:=by rw [hg]; rfl
  obtain ⟨a1, a2, a3, a4, a5, a6⟩:=fm_read (hA (t, j) List.mem_cons_self) hgs (r0 ++ wrs A k)
  have hw:=List.length_pos_iff.2 a6
  rw [e]
  rw [e, e2, List.length_append, List.length_append] at hf
  obtain ⟨f', rfl⟩ : ∃ f', f = f' + 1 + r + 1:=⟨f - 2 - r, by omega⟩
  generalize hT : tk (wrt t ++ g :: (r0 ++ wrs A k)) = T at a1 a2 a3
  obtain ⟨B, b1, b2⟩:=wrs_read k A (fun p hp => hA p (List.mem_cons_of_mem _ hp)) (f' + 1) 0 (acc ++ [(T, 0)]) (by omega)
  refine ⟨T :: B, ?_, a1, b2⟩
  rw [lexL_B, a5, List.drop_zero]
  generalize hD : wrt t ++ g :: (r0 ++ wrs A k) = D at a4 hT
  have hne : D ≠ []:=by rw [← hD]; simp
  unfold lexB
  rw [if_neg hne, a4, if_neg (fun c => nomatch c.2), if_neg (fun c => c rfl), hT, if_neg (fun c => c a2), a3]
  have hd : D.drop (wrt t).length = gapL j ++ wrs A k:=by rw [← hD, List.drop_left, e2]
  rw [hd, h2 f', lexL_nl (f' + 1) _ _ 0 _ (acc ++ [(T, 0)]) (by rw [List.map_append, List.map_append]; rfl), b1, List.map_append]
  simp
theorem cnt_take {p : Nat → Bool} : ∀ (L : List Nat), ∀ c ∈ L.take (cnt p L), p c = true
 | [], c, h => by simp at h
 | b :: r, c, h => by
  have e : cnt p (b :: r) = if p b then cnt p r + 1 else 0:=rfl
  rw [e] at h
  by_cases hb : p b = true
  ·rw [if_pos hb, List.take_succ_cons, List.mem_cons] at h
   rcases h with rfl | h
   ·exact hb
   ·exact cnt_take r c h
  ·rw [if_neg hb] at h
   simp at h
theorem lns_mem : ∀ (m : Nat) (L : List Nat), L.length ≤ m → ∀ c ∈ lns L, c ∈ L ∨ c = 10
 | _, [], _, c, h => nomatch h
 | _, [b], _, c, h => by
  rw [lns, List.mem_singleton] at h
  rw [h]
  split
  ·exact .inr rfl
  ·exact .inl (List.mem_singleton.2 rfl)
 | 0, b :: d :: r, h0, c, h => by simp at h0
 | m + 1, b :: d :: r, h0, c, h => by
  simp only [List.length_cons] at h0
  rw [lns] at h
  split at h
  ·split at h
   ·rcases List.mem_cons.1 h with h | h
    ·exact .inr h
    ·exact (lns_mem m r (by omega) c h).imp (fun h => List.mem_cons_of_mem _ (List.mem_cons_of_mem _ h)) id
   ·rcases List.mem_cons.1 h with h | h
    ·exact .inr h
    ·exact (lns_mem m (d :: r) (by simp only [List.length_cons]; omega) c h).imp (fun h => List.mem_cons_of_mem _ h) id
  ·rcases List.mem_cons.1 h with h | h
   ·exact .inl (by rw [h]; exact List.mem_cons_self)
   ·exact (lns_mem m (d :: r) (by simp only [List.length_cons]; omega) c h).imp (fun h => List.mem_cons_of_mem _ h) id
theorem lng_lt {L : List Nat} (hL : ∀ b ∈ L, b < 256) : ∀ b ∈ (lng L).1, b < 256:=by
 unfold lng
 split
 ·exact fun b hb => nomatch hb
 ·split
  ·exact fun b hb => nomatch hb
  ·split
   ·exact fun b hb => nomatch hb
   ·rename_i kk _
    intro b hb
    have h1 : b ∈ lns ((L.drop (eqn (L.drop 1) + 2)).take kk):=by
     unfold trp at hb
     split at hb
     ·exact List.mem_of_mem_drop hb
     ·exact hb
    rcases lns_mem _ _ (Nat.le_refl _) b h1 with h | h
    ·exact hL b (List.mem_of_mem_drop (List.mem_of_mem_take h))
    ·omega
theorem unl_lt {q : Nat} : ∀ (f : Nat) (R acc Y : List Nat), (∀ b ∈ R, b < 256) → (∀ b ∈ acc, b < 256) → unl f q R acc = some Y → ∀ b ∈ Y, b < 256
 | 0, _, _, _, _, _, h => by rw [unl] at h; cases h
 | f + 1, [], _, _, _, _, h => by rw [unl] at h; cases h
 | f + 1, b :: r, acc, Y, hR, hA, h => by
  have hr : ∀ b ∈ r, b < 256:=fun c hc => hR c (List.mem_cons_of_mem _ hc)
  rw [unl] at h
  split at h
  ·split at h
   ·rw [← Option.some.inj h]; exact hA
   ·cases h
  ·split at h
   ·cases h
   ·split at h
    ·split at h
     ·cases h
     ·exact unl_lt f _ _ Y (fun c hc => hr c (List.mem_of_mem_drop hc)) (lt_app hA (eso_ok r).2.2) h
    ·exact unl_lt f _ _ Y hr (lt_app hA (fun c hc => by rw [List.mem_singleton.1 hc]; exact hR b List.mem_cons_self)) h
theorem unq_lt {L Y : List Nat} (hL : ∀ b ∈ L, b < 256) (h : unq L = some Y) : ∀ b ∈ Y, b < 256:=by
 unfold unq at h
 split at h
 ·cases h
 ·refine unl_lt _ _ _ Y (fun b hb => hL b (List.mem_of_mem_drop hb)) ?_ h
  intro b hb; cases hb
theorem prs_range (L : List Nat) : -9223372036854775808 ≤ (prs L).1 ∧ (prs L).1 < 9223372036854775808:=by
 unfold prs
 split
 ·split
  ·show -9223372036854775808 ≤ IntKind.i64.wrap _ ∧ IntKind.i64.wrap _ < _
   rw [IntKind.wrap_i64]; omega
  ·exact ⟨by decide, by decide⟩
 ·split
  ·unfold pI
   split
   ·rename_i v h
    have:=Lib.parseIntB_bounds h
    have e : ((2 ^ (64 - 1) : Nat) : Int) = 9223372036854775808:=rfl
    rw [e] at this
    exact this
   ·exact ⟨by decide, by decide⟩
  ·exact ⟨by decide, by decide⟩
theorem numb_k4 {L : List Nat} (h : (numb L).2.2 = 0) : (numb L).1 = 4:=by
 unfold numb at h ⊢
 split at h
 ·rename_i c; rw [if_pos c]
 ·split at h <;> cases h
theorem tk_fm {L : List Nat} (hL : ∀ b ∈ L, b < 256) (he : (tk L).e = 0) : Fm (tk L):=by
 unfold tk at he ⊢
 split
 ·rename_i h1
  cases L with
  | nil => exact absurd h1 (by decide)
  | cons b r =>
   have hb : isLt b = true:=h1
   have e : cnt (fun b => isLt b || isDg b) (b :: r) = cnt (fun b => isLt b || isDg b) r + 1:=by
    show (if (isLt b || isDg b) = true then _ else _) = _
    rw [hb]; rfl
   refine .inl ⟨b, r.take (cnt (fun b => isLt b || isDg b) r), cnt (fun b => isLt b || isDg b) r + 1, hb, cnt_take r, ?_⟩
   rw [e, List.take_succ_cons]
 ·rename_i h1
  rw [if_neg h1] at he
  split
  ·rename_i h2
   rw [if_pos h2] at he
   refine .inr (.inl ⟨(numb (L.take (nml L))).2.1, nml L, ?_⟩)
   generalize L.take (nml L) = w at he ⊢
   have hk:=numb_k4 he
   have hr : -9223372036854775808 ≤ (numb w).2.1 ∧ (numb w).2.1 < 9223372036854775808:=by
    unfold numb
    split
    ·exact prs_range w
    ·split <;> exact ⟨by decide, by decide⟩
   refine ⟨hr.1, hr.2, ?_⟩
   change (numb w).2.2 = 0 at he
   rw [hk, he]
  ·rename_i h2
   rw [if_neg h2] at he
   split
   ·rename_i h3
    rw [if_pos h3] at he
    split
    ·rename_i h4; rw [if_pos h4] at he; cases he
    ·exact .inr (.inr (.inl ⟨_, _, lng_lt hL, rfl⟩))
   ·rename_i h3
    rw [if_neg h3] at he
    split
    ·rename_i h4
     rw [if_pos h4] at he
     refine .inr (.inr (.inl ⟨(resU (unq (L.take (quo L)))).1, quo L, ?_, ?_⟩))
     ·cases hu : unq (L.take (quo L)) with
      | none => exact fun b hb => nomatch hb
      | some Y => exact unq_lt (fun b hb => hL b (List.mem_of_mem_take hb)) hu
     ·change (resU (unq (L.take (quo L)))).2 = 0 at he
      rw [he]
    ·rename_i h4
     rw [if_neg h4] at he
     split
     ·rename_i h5; rw [if_pos h5] at he; cases he
     ·rename_i h5
      rw [if_neg h5] at he
      rcases sgn_find L sgL sgL_down with ⟨_, a2⟩ | ⟨z, a1, _, a3, _⟩
      ·rw [a2] at he
       unfold sgE at he
       dsimp only at he
       split at he <;> cases he
      ·exact .inr (.inr (.inr ⟨z, z.n, a1, a3⟩))
theorem lexL_form : ∀ (f : Nat) (R : List Nat) (ln : Nat) (acc : List (Tk × Nat)), R.length < f → (∀ b ∈ R, b < 256) → (lexL f R ln acc).2.1 = 0 →
 ∃ (A : List (Tk × Nat)) (ln' : Nat), (lexL f R ln acc).1 = acc ++ A ++ [(endT, ln')] ∧ ∀ x ∈ A, Fm x.1
 | 0, _, _, _, h, _, _ => absurd h (Nat.not_lt_zero _)
 | f + 1, R, ln, acc, hf, hR, he => by
  rw [lexL_B] at he ⊢
  have hD : ∀ b ∈ R.drop (cnt isSp R), b < 256:=fun b hb => hR b (List.mem_of_mem_drop hb)
  have hl : (R.drop (cnt isSp R)).length ≤ R.length:=by rw [List.length_drop]; omega
  generalize R.drop (cnt isSp R) = D at he hD hl ⊢
  generalize ln + lnc (R.take (cnt isSp R)) = ln at he ⊢
  unfold lexB at he ⊢
  by_cases h1 : D = []
  ·rw [if_pos h1]
   exact ⟨[], ln, by rw [List.append_nil]; rfl, fun x hx => nomatch hx⟩
  ·rw [if_neg h1] at he ⊢
   by_cases h2 : (nt D).2.1 = 0 ∧ (nt D).1 = true
   ·rw [if_pos h2] at he ⊢
    have:=nt_pos h2.2 h2.1
    have:=nt_le D
    exact lexL_form f _ _ _ (by rw [List.length_drop]; omega) (fun b hb => hD b (List.mem_of_mem_drop hb)) he
   ·rw [if_neg h2] at he ⊢
    by_cases h3 : (nt D).2.1 ≠ 0
    ·rw [if_pos h3] at he; exact absurd he h3
    ·rw [if_neg h3] at he ⊢
     by_cases h4 : (tk D).e ≠ 0
     ·rw [if_pos h4] at he; exact absurd he h4
     ·rw [if_neg h4] at he ⊢
      have h4:=Decidable.not_not.1 h4
      have:=tk_pos h1 h4
      have:=tk_le D h1
      obtain ⟨A, ln', a1, a2⟩:=lexL_form f _ _ _ (by rw [List.length_drop]; omega) (fun b hb => hD b (List.mem_of_mem_drop hb)) he
      refine ⟨(tk D, ln) :: A, ln', by rw [a1]; simp, fun x hx => ?_⟩
      rcases List.mem_cons.1 hx with rfl | hx
      ·exact tk_fm hD h4
      ·exact a2 x hx
end
end Go.LB
end
