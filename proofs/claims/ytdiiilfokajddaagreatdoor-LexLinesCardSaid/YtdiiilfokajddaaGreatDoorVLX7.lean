/- A part of the proof. -/
import Derived.Test.YtdiiilfokajddaaGreatDoorVLX5
set_option linter.all false
set_option warn.classDefReducibility false
noncomputable section
section
open Go Go.Mid Go.Proofs
set_option maxRecDepth 100000
namespace Go.LX
section
variable {l F : List Asn} {h h0 : Hp} {ro : Bool} {Q : V → List Asn → Prop} {k : V → VH} {K : V → Hp → VH} {v lV : V} {i j n : Nat}
def esc (R : List Nat) : Nat :=
 if R.head? = some 122 then 1 + cnt isSp (R.drop 1)
 else if (R.head?.any isEnd && (R.drop 1).head?.any isEnd && (R.drop 1).head? != R.head?) then 2 else 1
theorem esc_le {R : List Nat} (h : R ≠ []) : esc R ≤ R.length:=by
 cases R with
 | nil => exact absurd rfl h
 | cons b r =>
  unfold esc
  simp only [List.head?_cons, List.drop_succ_cons, List.drop_zero, List.length_cons]
  split
  ·have := cnt_le isSp r; omega
  ·split
   ·rename_i hx
    cases r with
    | nil => simp at hx
    | cons c r => simp only [List.length_cons]; omega
   ·omega
theorem sp168 {rb : Nat} {s : Bs} {a ln n : Nat} {sv : V} (hs : s.n ≤ 70000) (ha : a + n < s.n) (H : St (Mid.row rb (rc s a ln sv) :: l) h) :
 Tri h true l (rRd rb (rc s a ln sv) (.int .i64 (esc ((bts s).drop (a + n)) : Nat))) (M 168 [.ptr rb 0, .int .i64 (n : Int)] h):=by
 refine t2 e168 fun L => ?_
 unfold B168
 have ih50:=fun (h : Hp) (l : List Asn) (H : St (Mid.row rb (rc s a ln sv) :: l) h) => f50 (rb:=rb) (fr:=n + 1) (g:=.func 26 [] []) (p:=isSp) (fun b h l _ H => sp52 H) hs (by omega) (by omega) H
 rw [bts_drop ha]
 unfold esc
 simp only [List.head?_cons, List.drop_succ_cons, List.drop_zero, Option.any_some]
 refine Tri.nil ?_
 refine Tri.addr ?_
 refine Tri.load 0 H rfl rfl ?_
 refine Tri.nil ?_
 refine Tri.addr ?_
 refine Tri.load 0 H rfl rfl ?_
 refine Tri.addN (by omega) (by omega) ?_
 refine Tri.idxStr (by omega) (by omega) ?_
 refine Tri.eql (fun e => ?_) (fun e => ?_)
 ·rw [if_pos (by rw [show s.byte (a + n) = 122 from Int.ofNat.inj e])]
  have hc:=cnt_le isSp ((bts s).drop (a + (n + 1)))
  rw [List.length_drop, bts_len] at hc
  refine Tri.ift ?_
  refine Tri.addN (by omega) (by omega) ?_
  refine Tri.bind (ih50 _ _ H) L (fun _ => rfl) fun v h B hq22 H L => ?_
  obtain ⟨rfl, rfl⟩:=hq22
  refine Tri.addN (by omega) (by omega) ?_
  exact Tri.done (B:=[_]) ⟨rfl, rfl⟩ H L
 ·rw [if_neg (fun c => e (by rw [show ((a : Int) + (n : Int)).toNat = a + n from rfl, Option.some.inj c]; rfl))]
  refine Tri.iff ?_
  have Ho41:=H
  refine Tri.wrote (sp80 (H.draw _)) L (fun _ => rfl) fun v h2 h B hq41 H2 hn41 hl41 eh41 H L => ?_
  obtain ⟨rfl, rfl⟩:=hq41
  rw [show ((a : Int) + (n : Int)).toNat = a + n from rfl]
  cases h1 : isEnd (s.byte (a + n)) with
  | false =>
   refine Tri.eqv (guard_ft _ _ _) ?_
   refine Tri.eqv (guard_ft _ _ _) ?_
   refine Tri.eqv (guard_ft _ _ _) ?_
   refine Tri.eqv (guard_ft _ _ _) ?_
   refine Tri.eqv (guard_ft _ _ _) ?_
   refine Tri.eqv (guard_ft _ _ _) ?_
   refine Tri.eqv (guard_ft _ _ _) ?_
   refine Tri.eqv (guard_ft _ _ _) ?_
   refine Tri.eqv (guard_ft _ _ _) ?_
   refine Tri.eqv (guard_ft _ _ _) ?_
   refine Tri.eqv (guard_ft _ _ _) ?_
   refine Tri.eqv (guard_ft _ _ _) ?_
   refine Tri.eqv (guard_ft _ _ _) ?_
   refine Tri.eqv (pick_f _ _ _) ?_
   refine Tri.eqv (guard_ft _ _ _) ?_
   refine Tri.eqv (guard_ft _ _ _) ?_
   refine Tri.eqv (guard_ft _ _ _) ?_
   refine Tri.eqv (guard_ft _ _ _) ?_
   refine Tri.eqv (guard_ft _ _ _) ?_
   refine Tri.eqv (guard_ft _ _ _) ?_
   refine Tri.eqv (guard_ft _ _ _) ?_
   refine Tri.eqv (guard_ft _ _ _) ?_
   refine Tri.eqv (guard_ft _ _ _) ?_
   refine Tri.eqv (guard_ft _ _ _) ?_
   refine Tri.eqv (guard_ft _ _ _) ?_
   refine Tri.eqv (guard_ft _ _ _) ?_
   refine Tri.eqv (guardB_ft _ _) ?_
   refine Tri.eqv (pick_f _ _ _) ?_
   refine Tri.eqv (guard_ft _ _ _) ?_
   refine Tri.eqv (guard_ft _ _ _) ?_
   refine Tri.eqv (guard_ft _ _ _) ?_
   refine Tri.eqv (guard_ft _ _ _) ?_
   refine Tri.eqv (guard_ft _ _ _) ?_
   refine Tri.eqv (guard_ft _ _ _) ?_
   refine Tri.eqv (guard_ft _ _ _) ?_
   refine Tri.eqv (guard_ft _ _ _) ?_
   refine Tri.eqv (guard_ft _ _ _) ?_
   refine Tri.eqv (guard_ft _ _ _) ?_
   refine Tri.eqv (guard_ft _ _ _) ?_
   refine Tri.eqv (guard_ft _ _ _) ?_
   refine Tri.eqv (guard_ft _ _ _) ?_
   refine Tri.eqv (guard_ft _ _ _) ?_
   refine Tri.eqv (pick_f _ _ _) ?_
   refine Tri.iff ?_
   rw [if_neg (by simp)]
   exact Tri.done (B:=[_]) ⟨rfl, rfl⟩ H L
  | true =>
   refine Tri.eqv (guard_tt _ _ _) ?_
   refine Tri.bs ?_
   refine Tri.eqv (guard_tt _ _ _) ?_
   refine Tri.eqv (bind_nilS _ _) ?_
   refine Tri.nil ?_
   refine Tri.bs ?_
   refine Tri.eqv (guard_tt _ _ _) ?_
   refine Tri.eqv (bind_addr _ _) ?_
   refine Tri.addr ?_
   refine Tri.bs ?_
   refine Tri.eqv (guard_tt _ _ _) ?_
   refine Tri.eqv (bind_load1 _ _) ?_
   refine Tri.load 0 H rfl rfl ?_
   refine Tri.bs ?_
   refine Tri.eqv (guard_tt _ _ _) ?_
   refine Tri.bs ?_
   refine Tri.eqv (guard_tt _ _ _) ?_
   refine Tri.eqv (bind_intS _ _) ?_
   refine Tri.addN (by omega) (by omega) ?_
   refine Tri.bs ?_
   refine Tri.eqv (guard_tt _ _ _) ?_
   refine Tri.eqv (bind_intS _ _) ?_
   refine Tri.addN (by omega) (by omega) ?_
   refine Tri.bs ?_
   refine Tri.eqv (guard_tt _ _ _) ?_
   refine Tri.bs ?_
   refine Tri.eqv (guard_tt _ _ _) ?_
   refine Tri.eqv (bind_nilS _ _) ?_
   refine Tri.nil ?_
   refine Tri.bs ?_
   refine Tri.eqv (guard_tt _ _ _) ?_
   refine Tri.eqv (bind_addr _ _) ?_
   refine Tri.addr ?_
   refine Tri.bs ?_
   refine Tri.eqv (guard_tt _ _ _) ?_
   refine Tri.eqv (bind_load1 _ _) ?_
   refine Tri.load 0 H rfl rfl ?_
   refine Tri.bs ?_
   refine Tri.eqv (guard_tt _ _ _) ?_
   refine Tri.eqv (bind_bind _ _ _) ?_
   refine Tri.eqv (bind_lenStr _ _) ?_
   refine Tri.lenStr ?_
   refine Tri.bs ?_
   refine Tri.bs ?_
   refine Tri.eqv (guard_tt _ _ _) ?_
   refine Tri.eqv (bind_intS _ _) ?_
   refine Tri.lss (fun e2 => ?_) (fun e2 => ?_)
   ·refine Tri.bs ?_
    refine Tri.eqv (pick_t _ _ _) ?_
    refine Tri.eqv (guard_tt _ _ _) ?_
    refine Tri.bs ?_
    refine Tri.eqv (guard_tt _ _ _) ?_
    refine Tri.eqv (bind_nilS _ _) ?_
    refine Tri.nil ?_
    refine Tri.bs ?_
    refine Tri.eqv (guard_tt _ _ _) ?_
    refine Tri.eqv (bind_addr _ _) ?_
    refine Tri.addr ?_
    refine Tri.bs ?_
    refine Tri.eqv (guard_tt _ _ _) ?_
    refine Tri.eqv (bind_load1 _ _) ?_
    refine Tri.load 0 H rfl rfl ?_
    refine Tri.bs ?_
    refine Tri.eqv (guard_tt _ _ _) ?_
    refine Tri.bs ?_
    refine Tri.eqv (guard_tt _ _ _) ?_
    refine Tri.eqv (bind_nilS _ _) ?_
    refine Tri.nil ?_
    refine Tri.bs ?_
    refine Tri.eqv (guard_tt _ _ _) ?_
    refine Tri.eqv (bind_addr _ _) ?_
    refine Tri.addr ?_
    refine Tri.bs ?_
    refine Tri.eqv (guard_tt _ _ _) ?_
    refine Tri.eqv (bind_load1 _ _) ?_
    refine Tri.load 0 H rfl rfl ?_
    refine Tri.bs ?_
    refine Tri.eqv (guard_tt _ _ _) ?_
    refine Tri.bs ?_
    refine Tri.eqv (guard_tt _ _ _) ?_
    refine Tri.eqv (bind_intS _ _) ?_
    refine Tri.addN (by omega) (by omega) ?_
    refine Tri.bs ?_
    refine Tri.eqv (guard_tt _ _ _) ?_
    refine Tri.eqv (bind_intS _ _) ?_
    refine Tri.addN (by omega) (by omega) ?_
    refine Tri.bs ?_
    refine Tri.eqv (guard_tt _ _ _) ?_
    refine Tri.eqv (bind_idxStr _ _) ?_
    refine Tri.idxStr (by omega) (by omega) ?_
    refine Tri.bs ?_
    refine Tri.eqv (guardB_tt _ _) ?_
    have Ho125:=H
    refine Tri.wrote (sp80 (H.draw _)) L (fun _ => rfl) fun v h2 h B hq125 H2 hn125 hl125 eh125 H L => ?_
    obtain ⟨rfl, rfl⟩:=hq125
    refine Tri.eqv (pick_t _ _ _) ?_
    rw [show ((a : Int) + (n : Int) + 1).toNat = a + n + 1 from rfl, bts_drop (show a + n + 1 < s.n by omega)]
    cases h2 : isEnd (s.byte (a + n + 1)) with
    | false =>
     refine Tri.eqv (guard_ft _ _ _) ?_
     refine Tri.eqv (guard_ft _ _ _) ?_
     refine Tri.eqv (guard_ft _ _ _) ?_
     refine Tri.eqv (guard_ft _ _ _) ?_
     refine Tri.eqv (guard_ft _ _ _) ?_
     refine Tri.eqv (guard_ft _ _ _) ?_
     refine Tri.eqv (guard_ft _ _ _) ?_
     refine Tri.eqv (guard_ft _ _ _) ?_
     refine Tri.eqv (guard_ft _ _ _) ?_
     refine Tri.eqv (guard_ft _ _ _) ?_
     refine Tri.eqv (guard_ft _ _ _) ?_
     refine Tri.eqv (guard_ft _ _ _) ?_
     refine Tri.eqv (guard_ft _ _ _) ?_
     refine Tri.eqv (guard_ft _ _ _) ?_
     refine Tri.eqv (pick_f _ _ _) ?_
     refine Tri.iff ?_
     rw [if_neg (by simp [h2])]
     exact Tri.done (B:=[_]) ⟨rfl, rfl⟩ H L
    | true =>
     refine Tri.eqv (guard_tt _ _ _) ?_
     refine Tri.bs ?_
     refine Tri.eqv (guard_tt _ _ _) ?_
     refine Tri.eqv (bind_nilS _ _) ?_
     refine Tri.nil ?_
     refine Tri.bs ?_
     refine Tri.eqv (guard_tt _ _ _) ?_
     refine Tri.eqv (bind_addr _ _) ?_
     refine Tri.addr ?_
     refine Tri.bs ?_
     refine Tri.eqv (guard_tt _ _ _) ?_
     refine Tri.eqv (bind_load1 _ _) ?_
     refine Tri.load 0 H rfl rfl ?_
     refine Tri.bs ?_
     refine Tri.eqv (guard_tt _ _ _) ?_
     refine Tri.bs ?_
     refine Tri.eqv (guard_tt _ _ _) ?_
     refine Tri.eqv (bind_nilS _ _) ?_
     refine Tri.nil ?_
     refine Tri.bs ?_
     refine Tri.eqv (guard_tt _ _ _) ?_
     refine Tri.eqv (bind_addr _ _) ?_
     refine Tri.addr ?_
     refine Tri.bs ?_
     refine Tri.eqv (guard_tt _ _ _) ?_
     refine Tri.eqv (bind_load1 _ _) ?_
     refine Tri.load 0 H rfl rfl ?_
     refine Tri.bs ?_
     refine Tri.eqv (guard_tt _ _ _) ?_
     refine Tri.bs ?_
     refine Tri.eqv (guard_tt _ _ _) ?_
     refine Tri.eqv (bind_intS _ _) ?_
     refine Tri.addN (by omega) (by omega) ?_
     refine Tri.bs ?_
     refine Tri.eqv (guard_tt _ _ _) ?_
     refine Tri.eqv (bind_intS _ _) ?_
     refine Tri.addN (by omega) (by omega) ?_
     refine Tri.bs ?_
     refine Tri.eqv (guard_tt _ _ _) ?_
     refine Tri.eqv (bind_idxStr _ _) ?_
     refine Tri.idxStr (by omega) (by omega) ?_
     refine Tri.bs ?_
     refine Tri.eqv (guard_tt _ _ _) ?_
     refine Tri.bs ?_
     refine Tri.eqv (guard_tt _ _ _) ?_
     refine Tri.eqv (bind_intS _ _) ?_
     refine Tri.neq (fun e3 => ?_) (fun e3 => ?_)
     ·refine Tri.bs ?_
      refine Tri.eqv (pick_t _ _ _) ?_
      refine Tri.ift ?_
      rw [if_pos (by simp [h2]; exact fun c => e3 (congrArg Int.ofNat c))]
      exact Tri.done (B:=[_]) ⟨rfl, rfl⟩ H L
     ·refine Tri.bs ?_
      refine Tri.eqv (pick_t _ _ _) ?_
      refine Tri.iff ?_
      rw [if_neg (by simp [h2]; exact Int.ofNat.inj e3)]
      exact Tri.done (B:=[_]) ⟨rfl, rfl⟩ H L
   ·refine Tri.bs ?_
    refine Tri.eqv (pick_t _ _ _) ?_
    refine Tri.eqv (guard_ft _ _ _) ?_
    refine Tri.eqv (guard_ft _ _ _) ?_
    refine Tri.eqv (guard_ft _ _ _) ?_
    refine Tri.eqv (guard_ft _ _ _) ?_
    refine Tri.eqv (guard_ft _ _ _) ?_
    refine Tri.eqv (guard_ft _ _ _) ?_
    refine Tri.eqv (guard_ft _ _ _) ?_
    refine Tri.eqv (guard_ft _ _ _) ?_
    refine Tri.eqv (guard_ft _ _ _) ?_
    refine Tri.eqv (guard_ft _ _ _) ?_
    refine Tri.eqv (guard_ft _ _ _) ?_
    refine Tri.eqv (guard_ft _ _ _) ?_
    refine Tri.eqv (guardB_ft _ _) ?_
    refine Tri.eqv (pick_f _ _ _) ?_
    refine Tri.eqv (guard_ft _ _ _) ?_
    refine Tri.eqv (guard_ft _ _ _) ?_
    refine Tri.eqv (guard_ft _ _ _) ?_
    refine Tri.eqv (guard_ft _ _ _) ?_
    refine Tri.eqv (guard_ft _ _ _) ?_
    refine Tri.eqv (guard_ft _ _ _) ?_
    refine Tri.eqv (guard_ft _ _ _) ?_
    refine Tri.eqv (guard_ft _ _ _) ?_
    refine Tri.eqv (guard_ft _ _ _) ?_
    refine Tri.eqv (guard_ft _ _ _) ?_
    refine Tri.eqv (guard_ft _ _ _) ?_
    refine Tri.eqv (guard_ft _ _ _) ?_
    refine Tri.eqv (guard_ft _ _ _) ?_
    refine Tri.eqv (guard_ft _ _ _) ?_
    refine Tri.eqv (pick_f _ _ _) ?_
    refine Tri.iff ?_
    rw [bts_end (show s.n ≤ a + n + 1 by omega), if_neg (by simp)]
    exact Tri.done (B:=[_]) ⟨rfl, rfl⟩ H L
def qtd : Nat → Nat → List Nat → Nat → Nat
 | 0, _, _, _ => 0
 | _ + 1, _, [], _ => 0
 | f + 1, q, b :: r, n => if b = q then n + 1 else if isEnd b then 0 else if b = 92 ∧ r ≠ [] then qtd f q (r.drop (esc r)) (n + 1 + esc r) else qtd f q r (n + 1)
theorem qtd_le : ∀ (f q : Nat) (R : List Nat) (n : Nat), qtd f q R n ≤ n + R.length
 | 0, _, _, _ => Nat.zero_le _
 | _ + 1, _, [], _ => Nat.zero_le _
 | f + 1, q, b :: r, n => by
  rw [qtd, List.length_cons]
  split
  ·omega
  ·split
   ·exact Nat.zero_le _
   ·split
    ·rename_i h
     have h1:=qtd_le f q (r.drop (esc r)) (n + 1 + esc r)
     have h2:=esc_le h.2
     rw [List.length_drop] at h1
     omega
    ·have := qtd_le f q r (n + 1); omega
theorem quoted_ok {rb : Nat} {s : Bs} {a ln : Nat} {sv : V} (hs : s.n ≤ 70000) (ha : a < s.n) : ∀ (f n : Nat) (h : Hp) (l : List Asn), s.n - (a + n) < f → 1 ≤ n → a + n ≤ s.n → St (Mid.row rb (rc s a ln sv) :: l) h →
 Tri h true l (rRd rb (rc s a ln sv) (.int .i64 (qtd f (s.byte a) ((bts s).drop (a + n)) n : Nat))) (M 29 [.ptr rb 0, .int .i64 (n : Int)] h):=by
 intro f
 induction f with
 | zero => intro n h l hf; omega
 | succ f ih =>
  intro n h l hf hn hle H
  have ih31 : ∀ (n : Nat) (h : Hp) (l : List Asn), s.n - (a + (n + 1)) < f → 1 ≤ n → a + n + 1 ≤ s.n → St (Mid.row rb (rc s a ln sv) :: l) h →
   Tri h true l (rRd rb (rc s a ln sv) (.int .i64 (qtd f (s.byte a) ((bts s).drop (a + (n + 1))) (n + 1) : Nat))) (M 31 [.ptr rb 0, .int .i64 (n : Int)] h):=by
   intro n h l hf hn hle H
   refine t2 e31 fun L => ?_
   unfold B31
   refine Tri.addN (by omega) (by omega) ?_
   exact Tri.tail (ih (n + 1) h l hf (by omega) hle H) L (fun e => e) fun v h B hq H L => ⟨B, hq, H⟩
  refine t2 e29 fun L => ?_
  unfold B29
  refine Tri.nil ?_
  refine Tri.addr ?_
  refine Tri.load 0 H rfl rfl ?_
  refine Tri.addN (by omega) (by omega) ?_
  refine Tri.nil ?_
  refine Tri.addr ?_
  refine Tri.load 0 H rfl rfl ?_
  refine Tri.eqv (bind_lenStr _ _) ?_
  refine Tri.lenStr ?_
  refine Tri.bs ?_
  refine Tri.lss (fun e => ?_) (fun e => ?_)
  ·have hlt : a + n < s.n := by omega
   refine Tri.ift ?_
   refine Tri.nil ?_
   refine Tri.addr ?_
   refine Tri.load 0 H rfl rfl ?_
   refine Tri.nil ?_
   refine Tri.addr ?_
   refine Tri.load 0 H rfl rfl ?_
   refine Tri.addN (by omega) (by omega) ?_
   refine Tri.idxStr (by omega) (by omega) ?_
   refine Tri.nil ?_
   refine Tri.addr ?_
   refine Tri.load 0 H rfl rfl ?_
   refine Tri.nil ?_
   refine Tri.addr ?_
   refine Tri.load 0 H rfl rfl ?_
   refine Tri.idxStr (by omega) (by omega) ?_
   rw [bts_drop hlt, qtd, show ((a : Int) + (n : Int)).toNat = a + n from rfl, show ((a : Int)).toNat = a from rfl]
   refine Tri.eql (fun e => ?_) (fun e => ?_)
   ·rw [if_pos (Int.ofNat.inj e)]
    refine Tri.ift ?_
    refine Tri.addN (by omega) (by omega) ?_
    exact Tri.done (B:=[_]) ⟨rfl, rfl⟩ H L
   ·rw [if_neg (fun c => e (congrArg Int.ofNat c))]
    refine Tri.iff ?_
    refine Tri.bind (sp80 H) L (fun _ => rfl) fun v h B hq61 H L => ?_
    obtain ⟨rfl, rfl⟩:=hq61
    cases h1 : isEnd (s.byte (a + n)) with
    | true =>
     refine Tri.ift ?_
     exact Tri.done (B:=[_]) ⟨rfl, rfl⟩ H L
    | false =>
     refine Tri.iff ?_
     rw [if_neg (by decide)]
     refine Tri.eql (fun e2 => ?_) (fun e2 => ?_)
     ·refine Tri.eqv (guard_tt _ _ _) ?_
      refine Tri.bs ?_
      refine Tri.eqv (guard_tt _ _ _) ?_
      refine Tri.eqv (bind_nilS _ _) ?_
      refine Tri.nil ?_
      refine Tri.bs ?_
      refine Tri.eqv (guard_tt _ _ _) ?_
      refine Tri.eqv (bind_addr _ _) ?_
      refine Tri.addr ?_
      refine Tri.bs ?_
      refine Tri.eqv (guard_tt _ _ _) ?_
      refine Tri.eqv (bind_load1 _ _) ?_
      refine Tri.load 0 H rfl rfl ?_
      refine Tri.bs ?_
      refine Tri.eqv (guard_tt _ _ _) ?_
      refine Tri.bs ?_
      refine Tri.eqv (guard_tt _ _ _) ?_
      refine Tri.eqv (bind_intS _ _) ?_
      refine Tri.addN (by omega) (by omega) ?_
      refine Tri.bs ?_
      refine Tri.eqv (guard_tt _ _ _) ?_
      refine Tri.eqv (bind_intS _ _) ?_
      refine Tri.addN (by omega) (by omega) ?_
      refine Tri.bs ?_
      refine Tri.eqv (guard_tt _ _ _) ?_
      refine Tri.bs ?_
      refine Tri.eqv (guard_tt _ _ _) ?_
      refine Tri.eqv (bind_nilS _ _) ?_
      refine Tri.nil ?_
      refine Tri.bs ?_
      refine Tri.eqv (guard_tt _ _ _) ?_
      refine Tri.eqv (bind_addr _ _) ?_
      refine Tri.addr ?_
      refine Tri.bs ?_
      refine Tri.eqv (guard_tt _ _ _) ?_
      refine Tri.eqv (bind_load1 _ _) ?_
      refine Tri.load 0 H rfl rfl ?_
      refine Tri.bs ?_
      refine Tri.eqv (guard_tt _ _ _) ?_
      refine Tri.eqv (bind_bind _ _ _) ?_
      refine Tri.eqv (bind_lenStr _ _) ?_
      refine Tri.lenStr ?_
      refine Tri.bs ?_
      refine Tri.bs ?_
      refine Tri.eqv (guard_tt _ _ _) ?_
      refine Tri.eqv (bind_intS _ _) ?_
      refine Tri.lss (fun e3 => ?_) (fun e3 => ?_)
      ·have hne : (bts s).drop (a + n + 1) ≠ [] := by rw [bts_drop (show a + n + 1 < s.n by omega)]; exact List.cons_ne_nil _ _
       rw [if_pos ⟨Int.ofNat.inj e2, hne⟩]
       have he:=esc_le (R:=(bts s).drop (a + (n + 1))) hne
       rw [List.length_drop, bts_len] at he
       have hX : qtd f (s.byte a) (((bts s).drop (a + n + 1)).drop (esc ((bts s).drop (a + n + 1)))) (n + 1 + esc ((bts s).drop (a + n + 1))) = qtd f (s.byte a) ((bts s).drop (a + (n + esc ((bts s).drop (a + (n + 1))) + 1))) (n + esc ((bts s).drop (a + (n + 1))) + 1):=by
        show qtd f (s.byte a) (((bts s).drop (a + (n + 1))).drop (esc ((bts s).drop (a + (n + 1))))) (n + 1 + esc ((bts s).drop (a + (n + 1)))) = _
        generalize esc ((bts s).drop (a + (n + 1))) = E
        rw [List.drop_drop, show a + (n + 1) + E = a + (n + E + 1) by omega, show n + 1 + E = n + E + 1 by omega]
       rw [hX]
       generalize he2 : esc ((bts s).drop (a + (n + 1))) = E at he ⊢
       have ih168:=fun (h : Hp) (l : List Asn) (H : St (Mid.row rb (rc s a ln sv) :: l) h) => sp168 (n:=n + 1) hs (by omega) H
       rw [he2] at ih168
       have ihx:=@ih31
       clear ih31
       refine Tri.bs ?_
       refine Tri.eqv (pick_t _ _ _) ?_
       refine Tri.ift ?_
       refine Tri.addN (by omega) (by omega) ?_
       refine Tri.bind (ih168 _ _ H) L (fun _ => rfl) fun v h B hq144 H L => ?_
       obtain ⟨rfl, rfl⟩:=hq144
       refine Tri.addN (by omega) (by omega) ?_
       exact Tri.tail (ihx (n + E) h l (by omega) (by omega) (by omega) H) L (fun e => e) fun v h B hq H L => ⟨B, hq, H⟩
      ·rw [if_neg (fun c => c.2 (bts_end (by omega)))]
       refine Tri.bs ?_
       refine Tri.eqv (pick_t _ _ _) ?_
       refine Tri.iff ?_
       refine Tri.tail (ih31 _ _ _ (by first | rfl | assumption | omega | (dsimp only; omega)) (by first | rfl | assumption | omega | (dsimp only; omega)) (by first | rfl | assumption | omega | (dsimp only; omega)) H) L (fun _ => rfl) fun v h B hq H L => ⟨B, hq, H⟩
     ·rw [if_neg (fun c => e2 (congrArg Int.ofNat c.1))]
      refine Tri.eqv (guard_ft _ _ _) ?_
      refine Tri.eqv (guard_ft _ _ _) ?_
      refine Tri.eqv (guard_ft _ _ _) ?_
      refine Tri.eqv (guard_ft _ _ _) ?_
      refine Tri.eqv (guard_ft _ _ _) ?_
      refine Tri.eqv (guard_ft _ _ _) ?_
      refine Tri.eqv (guard_ft _ _ _) ?_
      refine Tri.eqv (guard_ft _ _ _) ?_
      refine Tri.eqv (guard_ft _ _ _) ?_
      refine Tri.eqv (guard_ft _ _ _) ?_
      refine Tri.eqv (guard_ft _ _ _) ?_
      refine Tri.eqv (guard_ft _ _ _) ?_
      refine Tri.eqv (guard_ft _ _ _) ?_
      refine Tri.eqv (pick_f _ _ _) ?_
      refine Tri.iff ?_
      refine Tri.tail (ih31 _ _ _ (by first | rfl | assumption | omega | (dsimp only; omega)) (by first | rfl | assumption | omega | (dsimp only; omega)) (by first | rfl | assumption | omega | (dsimp only; omega)) H) L (fun _ => rfl) fun v h B hq H L => ⟨B, hq, H⟩
  ·refine Tri.iff ?_
   rw [bts_end (show s.n ≤ a + n by omega), qtd]
   exact Tri.done (B:=[_]) ⟨rfl, rfl⟩ H L
def quo (L : List Nat) : Nat:=qtd L.length (L.headD 0) (L.drop 1) 1
theorem quo_le (L : List Nat) (h : L ≠ []) : quo L ≤ L.length:=by
 have:=qtd_le L.length (L.headD 0) (L.drop 1) 1
 have h1:=List.length_pos_iff.2 h
 rw [List.length_drop] at this
 unfold quo; omega
theorem sp100 {rb : Nat} {s : Bs} {a ln : Nat} {sv : V} (hs : s.n ≤ 70000) (ha : a < s.n) (H : St (Mid.row rb (rc s a ln sv) :: l) h) :
 Tri h true l (rRd rb (rc s a ln sv) (.int .i64 (quo ((bts s).drop a) : Nat))) (M 100 [.ptr rb 0] h):=by
 refine t1 e100 fun L => ?_
 unfold B100
 have e : quo ((bts s).drop a) = qtd (s.n - a) (s.byte a) ((bts s).drop (a + 1)) 1:=by
  unfold quo
  rw [List.length_drop, bts_len, List.drop_drop, bts_drop ha]; rfl
 rw [e]
 exact Tri.tail (quoted_ok hs ha (s.n - a) 1 h l (by omega) (Nat.le_refl _) (by omega) H) L (fun e => e) fun v h B hq H L => ⟨B, hq, H⟩
def hasc (z : Bs) (c : Nat) : Bool:=decide (0 ≤ idxV (ixB z.l c 0))
theorem sp160 {z : Bs} {c : Nat} (hc : c < 256) (H : St l h) : Tri h true l (rNo (.int .i64 (idxV (ixB z.l c 0)))) (M 160 [.str z, .int .u8 (c : Int)] h):=by
 have e : M 160 [.str z, .int .u8 (c : Int)] h = some (.int .i64 (idxV (ixB z.l c 0)), h):=by
  refine (@lim_F Tryz.prog (orc fnA Inv) labs 80 _ _ _).2 ⟨0, ?_⟩
  have hd : indexByteF [.str z, .int .u8 (c : Int)] h = some (.int .i64 (idxV (ixB z.l c 0)), h):=by
   show (bif Nat.blt c 256 then some (V.int .i64 (idxV (ixB z.l c 0)), h) else none) = _
   rw [show Nat.blt c 256 = true from Nat.ble_eq_true_of_le hc]; rfl
  show enterO Tryz.prog _ h 80 _ (indexByteF [.str z, .int .u8 (c : Int)] h) = _
  rw [hd]
  rfl
 rw [e]
 exact Tri.done (B:=[]) ⟨rfl, rfl⟩ H (Lo.refl _ _)
def nstep (pz : Bs) (s b : Nat) : Bool × Nat:=(isDg b || isLt b || b == 46 || ((b == 43 || b == 45) && hasc pz s), b)
def NA (pb lb : Nat) (pz : Bs) (s : Nat) : Asn:=fun f => s < 256 ∧ ands [Mid.row pb [.str pz], Mid.row lb [.int .u8 (s : Int)]] f
theorem asks_num {pb lb : Nat} {pz : Bs} {s b : Nat} (hb : b < 256) (H : St (NA pb lb pz s :: l) h) : Tri h false l (fun w B => w = .bool (nstep pz s b).1 ∧ B = [NA pb lb pz b]) (M 158 [.int .u8 (b : Int), .ptr pb 0, .ptr lb 0] h):=by
 refine t3 e158 fun L => ?_
 unfold B158
 obtain ⟨hs, H⟩:=H.pure
 replace H : St (Mid.row pb [.str pz] :: Mid.row lb [.int .u8 (s : Int)] :: l) h:=H.app
 have fin : ∀ {h : Hp}, St (Mid.row pb [.str pz] :: Mid.row lb [.int .u8 (b : Int)] :: l) h → St ([NA pb lb pz b] ++ l) h:=fun H => (St.pack (l:=[Mid.row pb [.str pz], Mid.row lb [.int .u8 (b : Int)]]) H).imp0 fun f hf => ⟨hb, hf⟩
 unfold nstep
 refine Tri.bind (sp90 H) L (fun _ => rfl) fun v h B hq0 H L => ?_
 obtain ⟨rfl, rfl⟩:=hq0
 cases h1 : isDg b with
 | true =>
  refine Tri.eqv (guard_tf _ _ _) ?_
  refine Tri.eqv (pick_t _ _ _) ?_
  refine Tri.eqv (guard_tf _ _ _) ?_
  refine Tri.eqv (pick_t _ _ _) ?_
  refine Tri.eqv (guard_tf _ _ _) ?_
  refine Tri.eqv (guard_u _ _ _ _) ?_
  refine Tri.eqv (guard_tf _ _ _) ?_
  refine Tri.eqv (guard_u _ _ _ _) ?_
  refine Tri.eqv (guard_tf _ _ _) ?_
  refine Tri.eqv (pick_t _ _ _) ?_
  refine Tri.store 1 H rfl (Nat.le_of_ble_eq_true rfl) L (fun e => nomatch e) (by first | rfl | assumption) fun h H L => ?_
  exact Tri.done (B:=[NA pb lb pz b]) ⟨rfl, rfl⟩ (fin H) L
 | false =>
  refine Tri.eqv (guard_ff _ _ _) ?_
  refine Tri.eqv (bind_bind _ _ _) ?_
  refine Tri.bind (sp92 H) L (fun _ => rfl) fun v h B hq42 H L => ?_
  obtain ⟨rfl, rfl⟩:=hq42
  refine Tri.bs ?_
  refine Tri.eqv (pick_f _ _ _) ?_
  cases h2 : isLt b with
  | true =>
   refine Tri.eqv (guard_tf _ _ _) ?_
   refine Tri.eqv (pick_t _ _ _) ?_
   refine Tri.eqv (guard_tf _ _ _) ?_
   refine Tri.eqv (guard_u _ _ _ _) ?_
   refine Tri.eqv (guard_tf _ _ _) ?_
   refine Tri.eqv (guard_u _ _ _ _) ?_
   refine Tri.eqv (guard_tf _ _ _) ?_
   refine Tri.eqv (pick_t _ _ _) ?_
   refine Tri.store 1 H rfl (Nat.le_of_ble_eq_true rfl) L (fun e => nomatch e) (by first | rfl | assumption) fun h H L => ?_
   exact Tri.done (B:=[NA pb lb pz b]) ⟨rfl, rfl⟩ (fin H) L
  | false =>
   refine Tri.eqv (guard_ff _ _ _) ?_
   refine Tri.eqv (bind_intS _ _) ?_
   refine Tri.eql (fun e => ?_) (fun e => ?_)
   ·rw [show b = 46 from Int.ofNat.inj e] at fin ⊢
    refine Tri.bs ?_
    refine Tri.eqv (pick_f _ _ _) ?_
    refine Tri.eqv (guard_tf _ _ _) ?_
    refine Tri.eqv (guard_u _ _ _ _) ?_
    refine Tri.eqv (guard_tf _ _ _) ?_
    refine Tri.eqv (guard_u _ _ _ _) ?_
    refine Tri.eqv (guard_tf _ _ _) ?_
    refine Tri.eqv (pick_t _ _ _) ?_
    refine Tri.store 1 H rfl (Nat.le_of_ble_eq_true rfl) L (fun e => nomatch e) (by first | rfl | assumption) fun h H L => ?_
    exact Tri.done (B:=[NA pb lb pz 46]) ⟨rfl, rfl⟩ (fin H) L
   ·rw [show (b == 46) = false by simp; exact fun c => e (congrArg Int.ofNat c)]
    refine Tri.bs ?_
    refine Tri.eqv (pick_f _ _ _) ?_
    refine Tri.eqv (guard_ff _ _ _) ?_
    refine Tri.eqv (bind_intS _ _) ?_
    refine Tri.eql (fun e2 => ?_) (fun e2 => ?_)
    ·rw [show b = 43 from Int.ofNat.inj e2] at fin ⊢
     refine Tri.bs ?_
     refine Tri.eqv (guard_tf _ _ _) ?_
     refine Tri.eqv (guard_ff _ _ _) ?_
     refine Tri.eqv (bind_optS _ _) ?_
     refine Tri.eqv (pick_t _ _ _) ?_
     refine Tri.bs ?_
     refine Tri.eqv (guard_tt _ _ _) ?_
     refine Tri.eqv (bind_load1 _ _) ?_
     refine Tri.load 0 H rfl rfl ?_
     refine Tri.eqv (bind_load1 _ _) ?_
     refine Tri.load 1 H rfl rfl ?_
     refine Tri.eqv (bind_bind _ _ _) ?_
     refine Tri.bind (sp160 (by first | rfl | assumption | omega | (dsimp only; omega)) H) L (fun _ => rfl) fun v h B hq152 H L => ?_
     obtain ⟨rfl, rfl⟩:=hq152
     refine Tri.eqv (bind_intS _ _) ?_
     refine Tri.geq (fun e4 => ?_) (fun e4 => ?_)
     ·rw [show hasc pz s = true from decide_eq_true e4]
      refine Tri.bs ?_
      refine Tri.eqv (guard_ff _ _ _) ?_
      refine Tri.eqv (bind_optS _ _) ?_
      refine Tri.eqv (pick_t _ _ _) ?_
      refine Tri.bs ?_
      refine Tri.eqv (pick_f _ _ _) ?_
      refine Tri.store 1 H rfl (Nat.le_of_ble_eq_true rfl) L (fun e => nomatch e) (by first | rfl | assumption) fun h H L => ?_
      exact Tri.done (B:=[NA pb lb pz 43]) ⟨rfl, rfl⟩ (fin H) L
     ·rw [show hasc pz s = false from decide_eq_false (by omega)]
      refine Tri.bs ?_
      refine Tri.eqv (guard_ff _ _ _) ?_
      refine Tri.eqv (bind_optS _ _) ?_
      refine Tri.eqv (pick_t _ _ _) ?_
      refine Tri.bs ?_
      refine Tri.eqv (pick_f _ _ _) ?_
      refine Tri.store 1 H rfl (Nat.le_of_ble_eq_true rfl) L (fun e => nomatch e) (by first | rfl | assumption) fun h H L => ?_
      exact Tri.done (B:=[NA pb lb pz 43]) ⟨rfl, rfl⟩ (fin H) L
    ·refine Tri.bs ?_
     refine Tri.eqv (guard_ff _ _ _) ?_
     refine Tri.eqv (bind_intS _ _) ?_
     refine Tri.eql (fun e3 => ?_) (fun e3 => ?_)
     ·rw [show b = 45 from Int.ofNat.inj e3] at fin ⊢
      refine Tri.bs ?_
      refine Tri.eqv (guard_ff _ _ _) ?_
      refine Tri.eqv (bind_optS _ _) ?_
      refine Tri.eqv (pick_f _ _ _) ?_
      refine Tri.bs ?_
      refine Tri.eqv (guard_tt _ _ _) ?_
      refine Tri.eqv (bind_load1 _ _) ?_
      refine Tri.load 0 H rfl rfl ?_
      refine Tri.eqv (bind_load1 _ _) ?_
      refine Tri.load 1 H rfl rfl ?_
      refine Tri.eqv (bind_bind _ _ _) ?_
      refine Tri.bind (sp160 (by first | rfl | assumption | omega | (dsimp only; omega)) H) L (fun _ => rfl) fun v h B hq231 H L => ?_
      obtain ⟨rfl, rfl⟩:=hq231
      refine Tri.eqv (bind_intS _ _) ?_
      refine Tri.geq (fun e4 => ?_) (fun e4 => ?_)
      ·rw [show hasc pz s = true from decide_eq_true e4]
       refine Tri.bs ?_
       refine Tri.eqv (guard_ff _ _ _) ?_
       refine Tri.eqv (bind_optS _ _) ?_
       refine Tri.eqv (pick_t _ _ _) ?_
       refine Tri.bs ?_
       refine Tri.eqv (pick_f _ _ _) ?_
       refine Tri.store 1 H rfl (Nat.le_of_ble_eq_true rfl) L (fun e => nomatch e) (by first | rfl | assumption) fun h H L => ?_
       exact Tri.done (B:=[NA pb lb pz 45]) ⟨rfl, rfl⟩ (fin H) L
      ·rw [show hasc pz s = false from decide_eq_false (by omega)]
       refine Tri.bs ?_
       refine Tri.eqv (guard_ff _ _ _) ?_
       refine Tri.eqv (bind_optS _ _) ?_
       refine Tri.eqv (pick_t _ _ _) ?_
       refine Tri.bs ?_
       refine Tri.eqv (pick_f _ _ _) ?_
       refine Tri.store 1 H rfl (Nat.le_of_ble_eq_true rfl) L (fun e => nomatch e) (by first | rfl | assumption) fun h H L => ?_
       exact Tri.done (B:=[NA pb lb pz 45]) ⟨rfl, rfl⟩ (fin H) L
     ·rw [show (b == 43) = false by simp; exact fun c => e2 (congrArg Int.ofNat c), show (b == 45) = false by simp; exact fun c => e3 (congrArg Int.ofNat c)]
      refine Tri.bs ?_
      refine Tri.eqv (guard_ff _ _ _) ?_
      refine Tri.eqv (bind_optS _ _) ?_
      refine Tri.eqv (pick_f _ _ _) ?_
      refine Tri.bs ?_
      refine Tri.eqv (guard_ft _ _ _) ?_
      refine Tri.eqv (guard_ff _ _ _) ?_
      refine Tri.eqv (bind_optS _ _) ?_
      refine Tri.eqv (pick_f _ _ _) ?_
      refine Tri.bs ?_
      refine Tri.eqv (pick_f _ _ _) ?_
      refine Tri.store 1 H rfl (Nat.le_of_ble_eq_true rfl) L (fun e => nomatch e) (by first | rfl | assumption) fun h H L => ?_
      exact Tri.done (B:=[NA pb lb pz b]) ⟨rfl, rfl⟩ (fin H) L
def pwz (L : List Nat) : Bs:=if [48, 120].isPrefixOf L || [48, 88].isPrefixOf L then ⟨2, 20592⟩ else ⟨2, 17765⟩
def nml (L : List Nat) : Nat:=wh (nstep (pwz L)) 0 L
theorem nml_le (L : List Nat) : nml L ≤ L.length:=wh_le _ _ _
def rX (X : Asn) (rb : Nat) (c : List V) (w : V) : V → List Asn → Prop:=fun v B => v = w ∧ B = [X, Mid.row rb c]
theorem f84 {X : Asn} {rb : Nat} {s y : Bs} {a ln : Nat} {sv : V} (hs : s.n ≤ 70000) (ha : a ≤ s.n) (hy : y.n ≤ 70000) (H : St (X :: Mid.row rb (rc s a ln sv) :: l) h) :
 Tri h true l (rX X rb (rc s a ln sv) (.bool ((bts y).isPrefixOf ((bts s).drop a)))) (M 84 [.ptr rb 0, .str y] h) :=
 Tri.tail (sp84 hs ha hy H.u1) (Lo.refl _ _) (fun e => e) fun v h B hq H L => by
  obtain ⟨rfl, rfl⟩:=hq
  exact ⟨_, ⟨rfl, rfl⟩, H.u1⟩
theorem sp96 {rb : Nat} {s : Bs} {a ln : Nat} {sv : V} (hs : s.n ≤ 70000) (ha : a ≤ s.n) (H : St (Mid.row rb (rc s a ln sv) :: l) h) :
 Tri h false l (rRd rb (rc s a ln sv) (.int .i64 (nml ((bts s).drop a) : Nat))) (M 96 [.ptr rb 0] h):=by
 have ih33 : ∀ (pb : Nat) (pz : Bs) (h : Hp) (l : List Asn), pz = pwz ((bts s).drop a) → St (Mid.row pb [.str pz] :: Mid.row rb (rc s a ln sv) :: l) h →
  Tri h false l (rRd rb (rc s a ln sv) (.int .i64 (nml ((bts s).drop a) : Nat))) (M 33 [.ptr rb 0, .ptr pb 0] h):=by
  intro pb pz h l hp H
  refine t2 e33 fun L => ?_
  unfold B33
  refine Tri.newS H L fun b0 h hb0 H L => ?_
  refine Tri.store 0 H rfl (Nat.le_of_ble_eq_true rfl) L (fun e => nomatch e) (by first | rfl | assumption) fun h H L => ?_
  have H1 : St (NA pb b0 pz 0 :: Mid.row rb (rc s a ln sv) :: l) h:=(St.pack (l:=[Mid.row pb [.str pz], Mid.row b0 [.int .u8 (0 : Int)]]) H.u1).imp0 fun f hf => ⟨by decide, hf⟩
  refine Tri.bind (sp50 (A:=NA pb b0 pz) (f:=nstep pz) (g:=.func 79 [] [.ptr pb 0, .ptr b0 0]) (r:=false) (fun s b h l hb H => asks_num hb H) (fr:=0) hs (by omega) (by omega) H1.u1) L (fun e => e) fun v h B hq H L => ?_
  obtain ⟨s1, rfl, rfl⟩:=hq
  skip
  subst hp
  exact Tri.done (B:=[_]) ⟨rfl, rfl⟩ H.x1 L
 have ih84:=@f84
 refine t1 e96 fun L => ?_
 unfold B96
 refine Tri.newS H L fun b0 h hb0 H L => ?_
 refine Tri.store 0 H rfl (Nat.le_of_ble_eq_true rfl) L (fun e => nomatch e) (by first | rfl | assumption) fun h H L => ?_
 refine Tri.bind (ih84 (by first | rfl | assumption | omega | (dsimp only; omega)) (by first | rfl | assumption | omega | (dsimp only; omega)) (by first | rfl | assumption | omega | (dsimp only; omega)) H) L (fun _ => rfl) fun v h B hq2 H L => ?_
 obtain ⟨rfl, rfl⟩:=hq2
 rw [show bts ⟨2, 30768⟩ = [48, 120] from rfl]
 cases h1 : [48, 120].isPrefixOf ((bts s).drop a) with
 | true =>
  refine Tri.eqv (guard_tf _ _ _) ?_
  refine Tri.eqv (pick_t _ _ _) ?_
  refine Tri.ift ?_
  refine Tri.store 0 H rfl (Nat.le_of_ble_eq_true rfl) L (fun e => nomatch e) (by first | rfl | assumption) fun h H L => ?_
  exact Tri.tail (ih33 b0 _ h l (by unfold pwz; rw [h1]; rfl) H) L (fun e => e) fun v h B hq H L => ⟨B, hq, H⟩
 | false =>
  refine Tri.eqv (guard_ff _ _ _) ?_
  refine Tri.eqv (bind_bind _ _ _) ?_
  refine Tri.bind (ih84 (by first | rfl | assumption | omega | (dsimp only; omega)) (by first | rfl | assumption | omega | (dsimp only; omega)) (by first | rfl | assumption | omega | (dsimp only; omega)) H) L (fun _ => rfl) fun v h B hq42 H L => ?_
  obtain ⟨rfl, rfl⟩:=hq42
  refine Tri.bs ?_
  refine Tri.eqv (pick_f _ _ _) ?_
  rw [show bts ⟨2, 22576⟩ = [48, 88] from rfl]
  cases h2 : [48, 88].isPrefixOf ((bts s).drop a) with
  | true =>
   refine Tri.ift ?_
   refine Tri.store 0 H rfl (Nat.le_of_ble_eq_true rfl) L (fun e => nomatch e) (by first | rfl | assumption) fun h H L => ?_
   exact Tri.tail (ih33 b0 _ h l (by unfold pwz; rw [h1, h2]; rfl) H) L (fun e => e) fun v h B hq H L => ⟨B, hq, H⟩
  | false =>
   refine Tri.iff ?_
   exact Tri.tail (ih33 b0 _ h l (by unfold pwz; rw [h1, h2]; rfl) H) L (fun e => e) fun v h B hq H L => ⟨B, hq, H⟩
end
end Go.LX
end
