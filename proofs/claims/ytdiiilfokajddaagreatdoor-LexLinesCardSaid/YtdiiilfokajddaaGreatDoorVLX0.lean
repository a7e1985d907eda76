/- A part of the proof. -/
import Derived.Test.YtdiiilfokajddaaGreatDoorVLXb
import Derived.Test.YtdiiilfokajddaaGreatDoorVMidWF
set_option linter.all false
set_option warn.classDefReducibility false
noncomputable section
section
open Go Go.Mid Go.Proofs
set_option maxRecDepth 100000
namespace Go.LX
section
variable {l F : List Asn} {h h0 : Hp} {ro : Bool} {Q : V → List Asn → Prop} {k : V → VH} {K : V → Hp → VH} {v lV : V} {i j n : Nat}
def isEnd (b : Nat) : Bool:=b == 10 || b == 13
def isIn (x b y : Nat) : Bool:=decide (x ≤ b) && decide (b ≤ y)
def isSp (b : Nat) : Bool:=b == 32 || isIn 9 b 13
def isDg (b : Nat) : Bool:=isIn 48 b 57
def isLt (b : Nat) : Bool:=isIn 97 b 122 || isIn 65 b 90 || b == 95
def rNo (w : V) : V → List Asn → Prop:=fun v B => v = w ∧ B = []
theorem sp80 {b : Nat} (H : St l h) : Tri h true l (rNo (.bool (isEnd b))) (M 80 [.int .u8 (b : Int)] h):=by
 refine t1 e80 fun L => ?_
 unfold B80
 unfold isEnd
 refine Tri.eql (fun e => ?_) (fun e => ?_)
 ·refine Tri.eqv (guard_tf _ _ _) ?_
  refine Tri.eqv (pick_t _ _ _) ?_
  rw [show b = 10 by omega]
  exact Tri.done (B:=[]) ⟨rfl, rfl⟩ H L
 ·refine Tri.eqv (guard_ff _ _ _) ?_
  refine Tri.eqv (bind_intS _ _) ?_
  refine Tri.eql (fun e2 => ?_) (fun e2 => ?_)
  ·refine Tri.bs ?_
   refine Tri.eqv (pick_f _ _ _) ?_
   rw [show b = 13 by omega]
   exact Tri.done (B:=[]) ⟨rfl, rfl⟩ H L
  ·refine Tri.bs ?_
   refine Tri.eqv (pick_f _ _ _) ?_
   rw [show (b == 10 || b == 13) = false by simp; omega]
   exact Tri.done (B:=[]) ⟨rfl, rfl⟩ H L
theorem sp82 {x b y : Nat} (H : St l h) : Tri h true l (rNo (.bool (isIn x b y))) (M 82 [.int .u8 (x : Int), .int .u8 (b : Int), .int .u8 (y : Int)] h):=by
 refine t3 e82 fun L => ?_
 unfold B82
 unfold isIn
 refine Tri.geq (fun e => ?_) (fun e => ?_)
 ·refine Tri.eqv (guard_tt _ _ _) ?_
  refine Tri.eqv (bind_intS _ _) ?_
  refine Tri.leq (fun e2 => ?_) (fun e2 => ?_)
  ·refine Tri.bs ?_
   refine Tri.eqv (pick_t _ _ _) ?_
   rw [decide_eq_true (show x ≤ b by omega), decide_eq_true (show b ≤ y by omega)]
   exact Tri.done (B:=[]) ⟨rfl, rfl⟩ H L
  ·refine Tri.bs ?_
   refine Tri.eqv (pick_t _ _ _) ?_
   rw [decide_eq_true (show x ≤ b by omega), decide_eq_false (show ¬ b ≤ y by omega)]
   exact Tri.done (B:=[]) ⟨rfl, rfl⟩ H L
 ·refine Tri.eqv (guard_ft _ _ _) ?_
  refine Tri.eqv (pick_f _ _ _) ?_
  rw [decide_eq_false (show ¬ x ≤ b by omega)]
  exact Tri.done (B:=[]) ⟨rfl, rfl⟩ H L
theorem sp52 {b : Nat} (H : St l h) : Tri h true l (rNo (.bool (isSp b))) (M 52 [.int .u8 (b : Int)] h):=by
 refine t1 e52 fun L => ?_
 unfold B52
 unfold isSp
 refine Tri.eql (fun e => ?_) (fun e => ?_)
 ·refine Tri.eqv (guard_tf _ _ _) ?_
  refine Tri.eqv (pick_t _ _ _) ?_
  rw [show b = 32 by omega]
  exact Tri.done (B:=[]) ⟨rfl, rfl⟩ H L
 ·refine Tri.eqv (guard_ff _ _ _) ?_
  refine Tri.eqv (bind_bind _ _ _) ?_
  refine Tri.bind (sp82 H) L (fun _ => rfl) fun v h B hq22 H L => ?_
  obtain ⟨rfl, rfl⟩:=hq22
  refine Tri.bs ?_
  refine Tri.eqv (pick_f _ _ _) ?_
  rw [show (b == 32) = false by simp; omega]
  exact Tri.done (B:=[]) ⟨rfl, rfl⟩ H L
theorem sp90 {b : Nat} (H : St l h) : Tri h true l (rNo (.bool (isDg b))) (M 90 [.int .u8 (b : Int)] h):=by
 refine t1 e90 fun L => ?_
 unfold B90
 refine Tri.bind (sp82 H) L (fun _ => rfl) fun v h B hq0 H L => ?_
 obtain ⟨rfl, rfl⟩:=hq0
 exact Tri.done (B:=[]) ⟨rfl, rfl⟩ H L
theorem sp92 {b : Nat} (H : St l h) : Tri h true l (rNo (.bool (isLt b))) (M 92 [.int .u8 (b : Int)] h):=by
 refine t1 e92 fun L => ?_
 unfold B92
 unfold isLt
 refine Tri.bind (sp82 H) L (fun _ => rfl) fun v h B hq0 H L => ?_
 obtain ⟨rfl, rfl⟩:=hq0
 cases h1 : isIn 97 b 122
 ·refine Tri.eqv (guard_ff _ _ _) ?_
  refine Tri.eqv (bind_bind _ _ _) ?_
  refine Tri.bind (sp82 H) L (fun _ => rfl) fun v h B hq22 H L => ?_
  obtain ⟨rfl, rfl⟩:=hq22
  refine Tri.bs ?_
  refine Tri.eqv (pick_f _ _ _) ?_
  cases h2 : isIn 65 b 90
  ·refine Tri.eqv (guard_ff _ _ _) ?_
   refine Tri.eqv (bind_intS _ _) ?_
   refine Tri.eql (fun e => ?_) (fun e => ?_)
   ·refine Tri.bs ?_
    refine Tri.eqv (pick_f _ _ _) ?_
    rw [show b = 95 by omega]
    exact Tri.done (B:=[]) ⟨rfl, rfl⟩ H L
   ·refine Tri.bs ?_
    refine Tri.eqv (pick_f _ _ _) ?_
    rw [show (b == 95) = false by simp; omega]
    exact Tri.done (B:=[]) ⟨rfl, rfl⟩ H L
  ·refine Tri.eqv (guard_tf _ _ _) ?_
   refine Tri.eqv (pick_t _ _ _) ?_
   exact Tri.done (B:=[]) ⟨rfl, rfl⟩ H L
 ·refine Tri.eqv (guard_tf _ _ _) ?_
  refine Tri.eqv (pick_t _ _ _) ?_
  refine Tri.eqv (guard_tf _ _ _) ?_
  refine Tri.eqv (pick_t _ _ _) ?_
  exact Tri.done (B:=[]) ⟨rfl, rfl⟩ H L
theorem sp88 {b : Nat} (H : St l h) : Tri h true l (rNo (.bool (!isEnd b))) (M 88 [.int .u8 (b : Int)] h):=by
 refine t1 e88 fun L => ?_
 unfold B88
 refine Tri.bind (sp80 H) L (fun _ => rfl) fun v h B hq0 H L => ?_
 obtain ⟨rfl, rfl⟩:=hq0
 refine Tri.not ?_
 exact Tri.done (B:=[]) ⟨rfl, rfl⟩ H L
theorem sp94 {b : Nat} (H : St l h) : Tri h true l (rNo (.bool (isLt b || isDg b))) (M 94 [.int .u8 (b : Int)] h):=by
 refine t1 e94 fun L => ?_
 unfold B94
 refine Tri.bind (sp92 H) L (fun _ => rfl) fun v h B hq0 H L => ?_
 obtain ⟨rfl, rfl⟩:=hq0
 cases h1 : isLt b
 ·refine Tri.eqv (guard_ff _ _ _) ?_
  refine Tri.eqv (bind_bind _ _ _) ?_
  refine Tri.bind (sp90 H) L (fun _ => rfl) fun v h B hq22 H L => ?_
  obtain ⟨rfl, rfl⟩:=hq22
  refine Tri.bs ?_
  refine Tri.eqv (pick_f _ _ _) ?_
  exact Tri.done (B:=[]) ⟨rfl, rfl⟩ H L
 ·refine Tri.eqv (guard_tf _ _ _) ?_
  refine Tri.eqv (pick_t _ _ _) ?_
  exact Tri.done (B:=[]) ⟨rfl, rfl⟩ H L
abbrev rc (s : Bs) (a n : Nat) (sv : V) : List V:=[.str s, .int .i64 (a : Int), .int .i64 (n : Int), sv]
def wh {σ : Type} (f : σ → Nat → Bool × σ) : σ → List Nat → Nat
 | _, [] => 0
 | s, b :: r => if (f s b).1 then wh f (f s b).2 r + 1 else 0
theorem wh_le {σ : Type} (f : σ → Nat → Bool × σ) : ∀ (s : σ) (l : List Nat), wh f s l ≤ l.length
 | _, [] => Nat.le_refl 0
 | s, b :: r => by
  rw [wh, List.length_cons]
  have:=wh_le f (f s b).2 r
  split <;> omega
def Asks {σ : Type} (A : σ → Asn) (f : σ → Nat → Bool × σ) (g : V) (r : Bool) : Prop:=∀ (s : σ) (b : Nat) (h : Hp) (l : List Asn), b < 256 → St (A s :: l) h → Tri h r l (fun w B => w = .bool (f s b).1 ∧ B = [A (f s b).2]) (dynE M g [.int .u8 (b : Int)] h)
theorem Asks.of {p : Nat → Bool} {g : V} (hg : ∀ (b : Nat) (h : Hp) (l : List Asn), b < 256 → St l h → Tri h true l (rNo (.bool (p b))) (dynE M g [.int .u8 (b : Int)] h)) : Asks (fun _ : Unit => ands []) (fun _ b => (p b, ())) g true :=
 fun s b h l hb H => Tri.tail (hg b h (ands [] :: l) hb H) (Lo.refl _ _) (fun e => e) fun v h' B q H L => by
  obtain ⟨rfl, rfl⟩:=q
  exact ⟨[ands []], ⟨rfl, rfl⟩, H⟩
def rWh {σ : Type} (A : σ → Asn) (rb : Nat) (c : List V) (m : Int) : V → List Asn → Prop:=fun w B => ∃ s1, w = .int .i64 m ∧ B = [Mid.row rb c, A s1]
theorem while_ok {σ : Type} {A : σ → Asn} {f : σ → Nat → Bool × σ} {g : V} {r : Bool} (hg : Asks A f g r) {rb : Nat} {s : Bs} {a ln fr : Nat} {sv : V} (hs : s.n ≤ 70000) (ha : a ≤ 70000) (hfr : fr ≤ 70000) :
 ∀ (m n : Nat) (s0 : σ) (h : Hp) (l : List Asn), s.n - (a + n) = m → fr ≤ n → n ≤ 70000 → St (Mid.row rb (rc s a ln sv) :: A s0 :: l) h →
  Tri h r l (rWh A rb (rc s a ln sv) (((n + wh f s0 ((bts s).drop (a + n)) : Nat) : Int) - fr)) (M 23 [.ptr rb 0, .int .i64 (fr : Int), g, .int .i64 (n : Int)] h):=by
 intro m
 induction m with
 | zero =>
  intro n s0 h l hm hn hn2 H
  refine t4 e23 fun L => ?_
  unfold B23
  refine Tri.nil ?_
  refine Tri.addr ?_
  refine Tri.load 0 H rfl rfl ?_
  refine Tri.addN (by omega) (by omega) ?_
  refine Tri.nil ?_
  refine Tri.addr ?_
  refine Tri.load 0 H rfl rfl ?_
  refine Tri.eqv (bind_lenStr _ _) ?_
  refine Tri.lenStr ?_
  refine Tri.bs ?_
  refine Tri.lss (fun e => by omega) (fun e => ?_)
  refine Tri.eqv (guard_ft _ _ _) ?_
  refine Tri.eqv (guard_ft _ _ _) ?_
  refine Tri.eqv (guard_ft _ _ _) ?_
  refine Tri.eqv (guard_ft _ _ _) ?_
  refine Tri.eqv (guard_ft _ _ _) ?_
  refine Tri.eqv (guard_ft _ _ _) ?_
  refine Tri.eqv (guard_ft _ _ _) ?_
  refine Tri.eqv (guard_ft _ _ _) ?_
  refine Tri.eqv (guard_ft _ _ _) ?_
  refine Tri.eqv (guard_ft _ _ _) ?_
  refine Tri.eqv (guard_ft _ _ _) ?_
  refine Tri.eqv (guard_ft _ _ _) ?_
  refine Tri.eqv (guard_ft _ _ _) ?_
  refine Tri.eqv (pick_f _ _ _) ?_
  refine Tri.iff ?_
  refine Tri.subN (by omega) (by omega) ?_
  rw [bts_end (by omega)]
  exact Tri.done (B:=[Mid.row rb (rc s a ln sv), A s0]) ⟨s0, rfl, rfl⟩ H L
 | succ m ih =>
  intro n s0 h l hm hn hn2 H
  refine t4 e23 fun L => ?_
  unfold B23
  refine Tri.nil ?_
  refine Tri.addr ?_
  refine Tri.load 0 H rfl rfl ?_
  refine Tri.addN (by omega) (by omega) ?_
  refine Tri.nil ?_
  refine Tri.addr ?_
  refine Tri.load 0 H rfl rfl ?_
  refine Tri.eqv (bind_lenStr _ _) ?_
  refine Tri.lenStr ?_
  refine Tri.bs ?_
  refine Tri.lss (fun e => ?_) (fun e => by omega)
  refine Tri.eqv (guard_tt _ _ _) ?_
  refine Tri.bs ?_
  refine Tri.eqv (guard_tt _ _ _) ?_
  refine Tri.bs ?_
  refine Tri.eqv (guard_tt _ _ _) ?_
  refine Tri.eqv (bind_nilS _ _) ?_
  refine Tri.nil ?_
  refine Tri.bs ?_
  refine Tri.eqv (guard_tt _ _ _) ?_
  refine Tri.eqv (bind_addr _ _) ?_
  refine Tri.addr ?_
  refine Tri.bs ?_
  refine Tri.eqv (guard_tt _ _ _) ?_
  refine Tri.eqv (bind_load1 _ _) ?_
  refine Tri.load 0 H rfl rfl ?_
  refine Tri.bs ?_
  refine Tri.eqv (guard_tt _ _ _) ?_
  refine Tri.bs ?_
  refine Tri.eqv (guard_tt _ _ _) ?_
  refine Tri.eqv (bind_nilS _ _) ?_
  refine Tri.nil ?_
  refine Tri.bs ?_
  refine Tri.eqv (guard_tt _ _ _) ?_
  refine Tri.eqv (bind_addr _ _) ?_
  refine Tri.addr ?_
  refine Tri.bs ?_
  refine Tri.eqv (guard_tt _ _ _) ?_
  refine Tri.eqv (bind_load1 _ _) ?_
  refine Tri.load 0 H rfl rfl ?_
  refine Tri.bs ?_
  refine Tri.eqv (guard_tt _ _ _) ?_
  refine Tri.bs ?_
  refine Tri.eqv (guard_tt _ _ _) ?_
  refine Tri.eqv (bind_intS _ _) ?_
  refine Tri.addN (by omega) (by omega) ?_
  refine Tri.bs ?_
  refine Tri.eqv (guard_tt _ _ _) ?_
  refine Tri.eqv (bind_idxStr _ _) ?_
  refine Tri.idxStr (by omega) (by omega) ?_
  refine Tri.bs ?_
  refine Tri.eqv (guard_tt _ _ _) ?_
  refine Tri.eqv (bind_bind _ _ _) ?_
  have hlt : a + n < s.n:=by omega
  rw [show ((a : Int) + (n : Int)).toNat = a + n from rfl, bts_drop hlt, wh]
  refine Tri.bind (hg s0 _ h (Mid.row rb (rc s a ln sv) :: l) (bts_lt s _) H.u1) L (fun e => e) fun v h B hq H L => ?_
  obtain ⟨rfl, rfl⟩:=hq
  cases hb : (f s0 (s.byte (a + n))).1 with
  | true =>
   refine Tri.bs ?_
   refine Tri.eqv (pick_t _ _ _) ?_
   refine Tri.ift ?_
   refine Tri.addN (by omega) (by omega) ?_
   rw [if_pos rfl]
   refine Tri.tail (ih (n + 1) _ _ _ (by omega) (by omega) (by omega) H.u1) L (fun e => e) fun v h B hq H L => ?_
   obtain ⟨s1, rfl, rfl⟩:=hq
   exact ⟨_, ⟨s1, by (try rw [show a + (n + 1) = a + n + 1 from rfl]); congr 1; omega, rfl⟩, H⟩
  | false =>
   refine Tri.bs ?_
   refine Tri.eqv (pick_t _ _ _) ?_
   refine Tri.iff ?_
   refine Tri.subN (by omega) (by omega) ?_
   exact Tri.done (B:=[Mid.row rb (rc s a ln sv), A _]) ⟨_, rfl, rfl⟩ H.u1 L
theorem sp50 {σ : Type} {A : σ → Asn} {f : σ → Nat → Bool × σ} {g : V} {r : Bool} (hg : Asks A f g r) {rb : Nat} {s : Bs} {a ln fr : Nat} {sv : V} {s0 : σ} (hs : s.n ≤ 70000) (ha : a ≤ 70000) (hfr : fr ≤ 70000) (H : St (Mid.row rb (rc s a ln sv) :: A s0 :: l) h) :
 Tri h r l (rWh A rb (rc s a ln sv) ((wh f s0 ((bts s).drop (a + fr)) : Nat) : Int)) (M 50 [.ptr rb 0, .int .i64 (fr : Int), g] h):=by
 refine t3 e50 fun L => ?_
 unfold B50
 refine Tri.tail (while_ok hg hs ha hfr _ fr s0 h l rfl (Nat.le_refl _) hfr H) L (fun e => e) fun v h B hq H L => ?_
 obtain ⟨s1, rfl, rfl⟩:=hq
 exact ⟨_, ⟨s1, by (try rw [show a + (n + 1) = a + n + 1 from rfl]); congr 1; omega, rfl⟩, H⟩
def cnt (p : Nat → Bool) (l : List Nat) : Nat:=wh (fun (_ : Unit) b => (p b, ())) () l
theorem cnt_le (p : Nat → Bool) (l : List Nat) : cnt p l ≤ l.length:=wh_le _ _ _
def rRd (rb : Nat) (c : List V) (w : V) : V → List Asn → Prop:=fun v B => v = w ∧ B = [Mid.row rb c]
theorem f50 {p : Nat → Bool} {g : V} (hg : ∀ (b : Nat) (h : Hp) (l : List Asn), b < 256 → St l h → Tri h true l (rNo (.bool (p b))) (dynE M g [.int .u8 (b : Int)] h)) {rb : Nat} {s : Bs} {a ln fr : Nat} {sv : V} (hs : s.n ≤ 70000) (ha : a ≤ 70000) (hfr : fr ≤ 70000) (H : St (Mid.row rb (rc s a ln sv) :: l) h) :
 Tri h true l (rRd rb (rc s a ln sv) (.int .i64 ((cnt p ((bts s).drop (a + fr)) : Nat) : Int))) (M 50 [.ptr rb 0, .int .i64 (fr : Int), g] h):=by
 have H1 : St (Mid.row rb (rc s a ln sv) :: ands [] :: l) h:=(St.pack (l:=[]) H).u1
 refine Tri.tail (sp50 (Asks.of hg) (s0:=()) hs ha hfr H1) (Lo.refl _ _) (fun e => e) fun v h B hq H L => ?_
 obtain ⟨_, rfl, rfl⟩:=hq
 exact ⟨[Mid.row rb (rc s a ln sv)], ⟨rfl, rfl⟩, H.x1⟩
theorem pfx_take (y x : List Nat) : y.isPrefixOf x = decide (y.length ≤ x.length ∧ x.take y.length = y):=by
 rw [Bool.eq_iff_iff, List.isPrefixOf_iff_prefix, decide_eq_true_iff]
 constructor
 ·rintro ⟨t, rfl⟩
  exact ⟨by rw [List.length_append]; omega, by simp⟩
 ·rintro ⟨_, h⟩
  exact ⟨x.drop y.length, by have:=List.take_append_drop y.length x; rw [h] at this; exact this⟩
theorem sp172 {x y : Bs} (hx : x.n ≤ 70000) (hy : y.n ≤ 70000) (H : St l h) : Tri h true l (rNo (.bool ((bts y).isPrefixOf (bts x)))) (M 172 [.str x, .str y] h):=by
 refine t2 e172 fun L => ?_
 unfold B172
 rw [pfx_take, bts_len, bts_len]
 refine Tri.eqv (bind_lenStr _ _) ?_
 refine Tri.lenStr ?_
 refine Tri.bs ?_
 refine Tri.eqv (bind_lenStr _ _) ?_
 refine Tri.lenStr ?_
 refine Tri.bs ?_
 refine Tri.geq (fun e => ?_) (fun e => ?_)
 ·refine Tri.eqv (guard_tt _ _ _) ?_
  refine Tri.eqv (bind_bind _ _ _) ?_
  refine Tri.eqv (bind_lenStr _ _) ?_
  refine Tri.lenStr ?_
  refine Tri.bs ?_
  refine Tri.eqv (bind_slStrK _ _ _ _ _) ?_
  refine Tri.cutHi (by omega) (by omega) fun z26 nz26 ez26 => ?_
  refine Tri.eqv (bind_strS _ _) ?_
  refine Tri.strEqL ?_
  refine Tri.bs ?_
  refine Tri.eqv (pick_t _ _ _) ?_
  have e1 : bts z26 = (bts x).take y.n:=ez26
  rw [e1, show decide (y.n ≤ x.n ∧ (bts x).take y.n = bts y) = decide ((bts x).take y.n = bts y) from decide_eq_decide.2 ⟨fun c => c.2, fun c => ⟨by omega, c⟩⟩]
  exact Tri.done (B:=[]) ⟨rfl, rfl⟩ H L
 ·refine Tri.eqv (guard_ft _ _ _) ?_
  refine Tri.eqv (pick_f _ _ _) ?_
  rw [decide_eq_false (fun c => by omega)]
  exact Tri.done (B:=[]) ⟨rfl, rfl⟩ H L
theorem sp104 {x y : Bs} (hx : x.n ≤ 70000) (hy : y.n ≤ 70000) (H : St l h) : Tri h true l (rNo (.bool ((bts y).isPrefixOf (bts x)))) (M 104 [.str x, .str y] h):=by
 refine t2 e104 fun L => ?_
 unfold B104
 refine Tri.bind (sp172 (by first | rfl | assumption | omega | (dsimp only; omega)) (by first | rfl | assumption | omega | (dsimp only; omega)) H) L (fun _ => rfl) fun v h B hq0 H L => ?_
 obtain ⟨rfl, rfl⟩:=hq0
 exact Tri.done (B:=[]) ⟨rfl, rfl⟩ H L
theorem sp84 {rb : Nat} {s y : Bs} {a ln : Nat} {sv : V} (hs : s.n ≤ 70000) (ha : a ≤ s.n) (hy : y.n ≤ 70000) (H : St (Mid.row rb (rc s a ln sv) :: l) h) :
 Tri h true l (rRd rb (rc s a ln sv) (.bool ((bts y).isPrefixOf ((bts s).drop a)))) (M 84 [.ptr rb 0, .str y] h):=by
 refine t2 e84 fun L => ?_
 unfold B84
 refine Tri.nil ?_
 refine Tri.addr ?_
 refine Tri.load 0 H rfl rfl ?_
 refine Tri.nil ?_
 refine Tri.addr ?_
 refine Tri.load 0 H rfl rfl ?_
 refine Tri.cutLo (by omega) (by omega) fun z6 nz6 ez6 => ?_
 refine Tri.bind (sp104 (by first | rfl | assumption | omega | (dsimp only; omega)) (by first | rfl | assumption | omega | (dsimp only; omega)) H) L (fun _ => rfl) fun v h B hq7 H L => ?_
 obtain ⟨rfl, rfl⟩:=hq7
 have e1 : bts z6 = (bts s).drop a:=ez6
 rw [e1]
 exact Tri.done (B:=[_]) ⟨rfl, rfl⟩ H L
def seg (s : Bs) (a b : Nat) : List Nat:=((bts s).drop a).take (b - a)
theorem seg_nil (s : Bs) (a : Nat) : seg s a a = []:=by rw [seg, Nat.sub_self, List.take_zero]
theorem seg_cons {s : Bs} {a b : Nat} (h : a < b) (hb : b ≤ s.n) : seg s a b = s.byte a :: seg s (a + 1) b:=by
 rw [seg, bts_drop (by omega), show b - a = (b - (a + 1)) + 1 by omega, List.take_succ_cons]; rfl
def lnc : List Nat → Nat
 | [] => 0
 | [b] => if isEnd b then 1 else 0
 | b :: c :: r => if isEnd b then (if isEnd c && c != b then lnc r + 1 else lnc (c :: r) + 1) else lnc (c :: r)
theorem lnc_no {b : Nat} (h : isEnd b = false) : ∀ r, lnc (b :: r) = lnc r
 | [] => by simp [lnc, h]
 | c :: r => by simp [lnc, h]
theorem lnc_two {b c : Nat} (h : isEnd b = true) (h2 : isEnd c = true) (h3 : c ≠ b) (r : List Nat) : lnc (b :: c :: r) = lnc r + 1:=by simp [lnc, h, h2, h3]
theorem lnc_end {b c : Nat} (h : isEnd b = true) (h2 : isEnd c = false ∨ c = b) (r : List Nat) : lnc (b :: c :: r) = lnc (c :: r) + 1:=by
 rcases h2 with h2 | h2 <;> simp [lnc, h, h2]
theorem skip_ok {rb : Nat} {s : Bs} {to : Nat} {sv : V} (hs : s.n ≤ 70000) (hto : to ≤ s.n) : ∀ (m a ln : Nat) (h : Hp) (l : List Asn), to - a ≤ m → a ≤ to → ln ≤ 1000000 + a → St (Mid.row rb (rc s a ln sv) :: l) h →
 Tri h false l (rRd rb (rc s to (ln + lnc (seg s a to)) sv) (.tuple [])) (M 13 [.ptr rb 0, .int .i64 (to : Int)] h):=by
 intro m
 induction m with
 | zero =>
  intro a ln h l hm ha hln H
  refine t2 e13 fun L => ?_
  unfold B13
  refine Tri.nil ?_
  refine Tri.addr ?_
  refine Tri.load 0 H rfl rfl ?_
  refine Tri.lss (fun e => by omega) (fun e => ?_)
  refine Tri.iff ?_
  obtain rfl : a = to:=by omega
  rw [seg_nil]
  exact Tri.done (B:=[_]) ⟨rfl, rfl⟩ H L
 | succ m ih =>
  intro a ln h l hm ha hln H
  have ih15 : ∀ (a ln : Nat) (h : Hp) (l : List Asn), to - (a + 1) ≤ m → a + 1 ≤ to → ln ≤ 1000000 + a + 1 → ∀ N, N = ln + lnc (seg s (a + 1) to) → St (Mid.row rb (rc s a ln sv) :: l) h →
   Tri h false l (rRd rb (rc s to N sv) (.tuple [])) (M 15 [.ptr rb 0, .int .i64 (to : Int)] h):=by
   intro a ln h l hm ha hln N hN H
   refine t2 e15 fun L => ?_
   unfold B15
   refine Tri.nil ?_
   refine Tri.addr ?_
   refine Tri.load 0 H rfl rfl ?_
   refine Tri.addN (by omega) (by omega) ?_
   refine Tri.nil ?_
   refine Tri.addr ?_
   refine Tri.store 0 H rfl (Nat.le_of_ble_eq_true rfl) L (fun e => nomatch e) (by first | rfl | assumption) fun h H L => ?_
   rw [hN]
   exact Tri.tail (ih (a + 1) ln h l hm ha (by omega) H) L (fun e => e) fun v h B hq H L => ⟨B, hq, H⟩
  refine t2 e13 fun L => ?_
  unfold B13
  refine Tri.nil ?_
  refine Tri.addr ?_
  refine Tri.load 0 H rfl rfl ?_
  refine Tri.lss (fun e => ?_) (fun e => ?_)
  ·refine Tri.ift ?_
   refine Tri.nil ?_
   refine Tri.addr ?_
   refine Tri.load 0 H rfl rfl ?_
   refine Tri.nil ?_
   refine Tri.addr ?_
   refine Tri.load 0 H rfl rfl ?_
   refine Tri.idxStr (by omega) (by omega) ?_
   refine Tri.bind (sp80 H) L (fun _ => rfl) fun v h B hq8 H L => ?_
   obtain ⟨rfl, rfl⟩:=hq8
   refine Tri.not ?_
   rw [seg_cons (by omega) hto, show ((a : Int)).toNat = a from rfl]
   cases h1 : isEnd (s.byte a) with
   | false =>
    refine Tri.ift ?_
    exact Tri.tail (ih15 a ln h l (by omega) (by omega) (by omega) _ (by rw [lnc_no h1]) H) L (fun e => e) fun v h B hq H L => ⟨B, hq, H⟩
   | true =>
    refine Tri.iff ?_
    refine Tri.nil ?_
    refine Tri.addr ?_
    refine Tri.load 0 H rfl rfl ?_
    refine Tri.addN (by omega) (by omega) ?_
    refine Tri.nil ?_
    refine Tri.addr ?_
    refine Tri.store 0 H rfl (Nat.le_of_ble_eq_true rfl) L (fun e => nomatch e) (by first | rfl | assumption) fun h H L => ?_
    refine Tri.nil ?_
    refine Tri.addr ?_
    refine Tri.load 0 H rfl rfl ?_
    refine Tri.addN (by omega) (by omega) ?_
    refine Tri.lss (fun e2 => ?_) (fun e2 => ?_)
    ·refine Tri.eqv (guard_tt _ _ _) ?_
     refine Tri.bs ?_
     refine Tri.eqv (guard_tt _ _ _) ?_
     refine Tri.eqv (bind_nilS _ _) ?_
     refine Tri.nil ?_
     refine Tri.bs ?_
     refine Tri.eqv (guard_tt _ _ _) ?_
     refine Tri.eqv (bind_addr _ _) ?_
     refine Tri.addr ?_
     refine Tri.bs ?_
     refine Tri.eqv (guard_tt _ _ _) ?_
     refine Tri.eqv (bind_load1 _ _) ?_
     refine Tri.load 0 H rfl rfl ?_
     refine Tri.bs ?_
     refine Tri.eqv (guard_tt _ _ _) ?_
     refine Tri.bs ?_
     refine Tri.eqv (guard_tt _ _ _) ?_
     refine Tri.eqv (bind_nilS _ _) ?_
     refine Tri.nil ?_
     refine Tri.bs ?_
     refine Tri.eqv (guard_tt _ _ _) ?_
     refine Tri.eqv (bind_addr _ _) ?_
     refine Tri.addr ?_
     refine Tri.bs ?_
     refine Tri.eqv (guard_tt _ _ _) ?_
     refine Tri.eqv (bind_load1 _ _) ?_
     refine Tri.load 0 H rfl rfl ?_
     refine Tri.bs ?_
     refine Tri.eqv (guard_tt _ _ _) ?_
     refine Tri.eqv (bind_intS _ _) ?_
     refine Tri.addN (by omega) (by omega) ?_
     refine Tri.bs ?_
     refine Tri.eqv (guard_tt _ _ _) ?_
     refine Tri.eqv (bind_idxStr _ _) ?_
     refine Tri.idxStr (by omega) (by omega) ?_
     refine Tri.bs ?_
     refine Tri.eqv (guardB_tt _ _) ?_
     have Ho97:=H
     refine Tri.wrote (sp80 (H.draw _)) L (fun _ => rfl) fun v h2 h B hq97 H2 hn97 hl97 eh97 H L => ?_
     obtain ⟨rfl, rfl⟩:=hq97
     refine Tri.eqv (pick_t _ _ _) ?_
     have hto2 : a + 1 < to:=by omega
     rw [show ((a : Int) + 1).toNat = a + 1 from rfl]
     have eb:=seg_cons hto2 hto
     cases h2 : isEnd (s.byte (a + 1)) with
     | false =>
      refine Tri.eqv (guard_ft _ _ _) ?_
      refine Tri.eqv (guard_ft _ _ _) ?_
      refine Tri.eqv (guard_ft _ _ _) ?_
      refine Tri.eqv (guard_ft _ _ _) ?_
      refine Tri.eqv (guard_ft _ _ _) ?_
      refine Tri.eqv (guard_ft _ _ _) ?_
      refine Tri.eqv (guard_ft _ _ _) ?_
      refine Tri.eqv (guard_ft _ _ _) ?_
      refine Tri.eqv (guard_ft _ _ _) ?_
      refine Tri.eqv (guard_ft _ _ _) ?_
      refine Tri.eqv (guard_ft _ _ _) ?_
      refine Tri.eqv (guard_ft _ _ _) ?_
      refine Tri.eqv (guard_ft _ _ _) ?_
      refine Tri.eqv (guard_ft _ _ _) ?_
      refine Tri.eqv (guard_ft _ _ _) ?_
      refine Tri.eqv (guard_ft _ _ _) ?_
      refine Tri.eqv (guard_ft _ _ _) ?_
      refine Tri.eqv (guard_ft _ _ _) ?_
      refine Tri.eqv (guard_ft _ _ _) ?_
      refine Tri.eqv (guard_ft _ _ _) ?_
      refine Tri.eqv (pick_f _ _ _) ?_
      refine Tri.iff ?_
      exact Tri.tail (ih15 a (ln + 1) h l (by omega) (by omega) (by omega) _ (by rw [eb, lnc_end h1 (.inl h2)]; omega) H) L (fun e => e) fun v h B hq H L => ⟨B, hq, H⟩
     | true =>
      refine Tri.eqv (guard_tt _ _ _) ?_
      refine Tri.bs ?_
      refine Tri.eqv (guard_tt _ _ _) ?_
      refine Tri.eqv (bind_nilS _ _) ?_
      refine Tri.nil ?_
      refine Tri.bs ?_
      refine Tri.eqv (guard_tt _ _ _) ?_
      refine Tri.eqv (bind_addr _ _) ?_
      refine Tri.addr ?_
      refine Tri.bs ?_
      refine Tri.eqv (guard_tt _ _ _) ?_
      refine Tri.eqv (bind_load1 _ _) ?_
      refine Tri.load 0 H rfl rfl ?_
      refine Tri.bs ?_
      refine Tri.eqv (guard_tt _ _ _) ?_
      refine Tri.bs ?_
      refine Tri.eqv (guard_tt _ _ _) ?_
      refine Tri.eqv (bind_nilS _ _) ?_
      refine Tri.nil ?_
      refine Tri.bs ?_
      refine Tri.eqv (guard_tt _ _ _) ?_
      refine Tri.eqv (bind_addr _ _) ?_
      refine Tri.addr ?_
      refine Tri.bs ?_
      refine Tri.eqv (guard_tt _ _ _) ?_
      refine Tri.eqv (bind_load1 _ _) ?_
      refine Tri.load 0 H rfl rfl ?_
      refine Tri.bs ?_
      refine Tri.eqv (guard_tt _ _ _) ?_
      refine Tri.eqv (bind_intS _ _) ?_
      refine Tri.addN (by omega) (by omega) ?_
      refine Tri.bs ?_
      refine Tri.eqv (guard_tt _ _ _) ?_
      refine Tri.eqv (bind_idxStr _ _) ?_
      refine Tri.idxStr (by omega) (by omega) ?_
      refine Tri.bs ?_
      refine Tri.eqv (guard_tt _ _ _) ?_
      refine Tri.bs ?_
      refine Tri.eqv (guard_tt _ _ _) ?_
      refine Tri.eqv (bind_nilS _ _) ?_
      refine Tri.nil ?_
      refine Tri.bs ?_
      refine Tri.eqv (guard_tt _ _ _) ?_
      refine Tri.eqv (bind_addr _ _) ?_
      refine Tri.addr ?_
      refine Tri.bs ?_
      refine Tri.eqv (guard_tt _ _ _) ?_
      refine Tri.eqv (bind_load1 _ _) ?_
      refine Tri.load 0 H rfl rfl ?_
      refine Tri.bs ?_
      refine Tri.eqv (guard_tt _ _ _) ?_
      refine Tri.bs ?_
      refine Tri.eqv (guard_tt _ _ _) ?_
      refine Tri.eqv (bind_nilS _ _) ?_
      refine Tri.nil ?_
      refine Tri.bs ?_
      refine Tri.eqv (guard_tt _ _ _) ?_
      refine Tri.eqv (bind_addr _ _) ?_
      refine Tri.addr ?_
      refine Tri.bs ?_
      refine Tri.eqv (guard_tt _ _ _) ?_
      refine Tri.eqv (bind_load1 _ _) ?_
      refine Tri.load 0 H rfl rfl ?_
      refine Tri.bs ?_
      refine Tri.eqv (guard_tt _ _ _) ?_
      refine Tri.eqv (bind_idxStr _ _) ?_
      refine Tri.idxStr (by omega) (by omega) ?_
      refine Tri.bs ?_
      refine Tri.eqv (guard_tt _ _ _) ?_
      refine Tri.eqv (bind_intS _ _) ?_
      refine Tri.neq (fun e3 => ?_) (fun e3 => ?_)
      ·refine Tri.bs ?_
       refine Tri.eqv (pick_t _ _ _) ?_
       refine Tri.ift ?_
       refine Tri.nil ?_
       refine Tri.addr ?_
       refine Tri.load 0 H rfl rfl ?_
       refine Tri.addN (by omega) (by omega) ?_
       refine Tri.nil ?_
       refine Tri.addr ?_
       refine Tri.store 0 H rfl (Nat.le_of_ble_eq_true rfl) L (fun e => nomatch e) (by first | rfl | assumption) fun h H L => ?_
       have e3' : s.byte (a + 1) ≠ s.byte a:=fun c => e3 (congrArg Int.ofNat c)
       exact Tri.tail (ih15 (a + 1) (ln + 1) h l (by omega) (by omega) (by omega) _ (by rw [eb, lnc_two h1 h2 e3']; omega) H) L (fun e => e) fun v h B hq H L => ⟨B, hq, H⟩
      ·refine Tri.bs ?_
       refine Tri.eqv (pick_t _ _ _) ?_
       refine Tri.iff ?_
       have e3' : s.byte (a + 1) = s.byte a:=Int.ofNat.inj e3
       exact Tri.tail (ih15 a (ln + 1) h l (by omega) (by omega) (by omega) _ (by rw [eb, lnc_end h1 (.inr e3')]; omega) H) L (fun e => e) fun v h B hq H L => ⟨B, hq, H⟩
    ·refine Tri.eqv (guard_ft _ _ _) ?_
     refine Tri.eqv (guard_ft _ _ _) ?_
     refine Tri.eqv (guard_ft _ _ _) ?_
     refine Tri.eqv (guard_ft _ _ _) ?_
     refine Tri.eqv (guard_ft _ _ _) ?_
     refine Tri.eqv (guard_ft _ _ _) ?_
     refine Tri.eqv (guard_ft _ _ _) ?_
     refine Tri.eqv (guard_ft _ _ _) ?_
     refine Tri.eqv (guard_ft _ _ _) ?_
     refine Tri.eqv (guard_ft _ _ _) ?_
     refine Tri.eqv (guardB_ft _ _) ?_
     refine Tri.eqv (pick_f _ _ _) ?_
     refine Tri.eqv (guard_ft _ _ _) ?_
     refine Tri.eqv (guard_ft _ _ _) ?_
     refine Tri.eqv (guard_ft _ _ _) ?_
     refine Tri.eqv (guard_ft _ _ _) ?_
     refine Tri.eqv (guard_ft _ _ _) ?_
     refine Tri.eqv (guard_ft _ _ _) ?_
     refine Tri.eqv (guard_ft _ _ _) ?_
     refine Tri.eqv (guard_ft _ _ _) ?_
     refine Tri.eqv (guard_ft _ _ _) ?_
     refine Tri.eqv (guard_ft _ _ _) ?_
     refine Tri.eqv (guard_ft _ _ _) ?_
     refine Tri.eqv (guard_ft _ _ _) ?_
     refine Tri.eqv (guard_ft _ _ _) ?_
     refine Tri.eqv (guard_ft _ _ _) ?_
     refine Tri.eqv (guard_ft _ _ _) ?_
     refine Tri.eqv (guard_ft _ _ _) ?_
     refine Tri.eqv (guard_ft _ _ _) ?_
     refine Tri.eqv (guard_ft _ _ _) ?_
     refine Tri.eqv (guard_ft _ _ _) ?_
     refine Tri.eqv (guard_ft _ _ _) ?_
     refine Tri.eqv (pick_f _ _ _) ?_
     refine Tri.iff ?_
     obtain rfl : a + 1 = to:=by omega
     exact Tri.tail (ih15 a (ln + 1) h l (by omega) (by omega) (by omega) _ (by rw [seg_nil]; simp [lnc, h1]) H) L (fun e => e) fun v h B hq H L => ⟨B, hq, H⟩
  ·refine Tri.iff ?_
   obtain rfl : a = to:=by omega
   rw [seg_nil]
   exact Tri.done (B:=[_]) ⟨rfl, rfl⟩ H L
theorem sp48 {rb : Nat} {s : Bs} {a ln n : Nat} {sv : V} (hs : s.n ≤ 70000) (hn : a + n ≤ s.n) (hln : ln ≤ 1000000 + a) (H : St (Mid.row rb (rc s a ln sv) :: l) h) :
 Tri h false l (rRd rb (rc s (a + n) (ln + lnc (seg s a (a + n))) sv) (.tuple [])) (M 48 [.ptr rb 0, .int .i64 (n : Int)] h):=by
 refine t2 e48 fun L => ?_
 unfold B48
 refine Tri.nil ?_
 refine Tri.addr ?_
 refine Tri.load 0 H rfl rfl ?_
 refine Tri.addN (by omega) (by omega) ?_
 exact Tri.tail (skip_ok hs hn _ a ln h l (Nat.le_refl _) (by omega) hln H) L (fun e => e) fun v h B hq H L => ⟨B, hq, H⟩
end
end Go.LX
end
