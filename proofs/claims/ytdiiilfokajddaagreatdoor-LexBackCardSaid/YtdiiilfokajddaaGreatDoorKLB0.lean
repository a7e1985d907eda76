/- A part of the proof. -/
import Derived.Test.YtdiiilfokajddaaGreatDoorKLBb
import Derived.Test.YtdiiilfokajddaaGreatDoorKMidWE
set_option linter.all false
set_option warn.classDefReducibility false
noncomputable section
section
open Go Go.Mid Go.Proofs
set_option maxRecDepth 100000
namespace Go.LB
section
variable {l F : List Asn} {h h0 : Hp} {ro : Bool} {Q : V → List Asn → Prop} {k : V → VH} {K : V → Hp → VH} {v lV : V} {i j n : Nat}
def isEnd (b : Nat) : Bool:=b == 10 || b == 13
def isIn (x b y : Nat) : Bool:=decide (x ≤ b) && decide (b ≤ y)
def isSp (b : Nat) : Bool:=b == 32 || isIn 9 b 13
def isDg (b : Nat) : Bool:=isIn 48 b 57
def isLt (b : Nat) : Bool:=isIn 97 b 122 || isIn 65 b 90 || b == 95
def rNo (w : V) : V → List Asn → Prop:=fun v B => v = w ∧ B = []
theorem sp80 {b : Nat} (H : St l h) : Tri h true l (rNo (.bool (isEnd b))) (M 80 [.int .u8 (b : Int)] h):=by
 refine t1 e80 fun L => ?_
 unfold B80
 unfold isEnd
 refine Tri.eql ?_ ?_<;>intro e
 ·apply gtf
  apply pT
  rw [show b = 10 by omega]
  exact dn H L
 ·apply gff
  apply bI
  refine Tri.eql ?_ ?_<;>intro e2
  ·apply bS
   apply pF
   rw [show b = 13 by omega]
   exact dn H L
  ·apply bS
   apply pF
   rw [show (b == 10 || b == 13) = false by simp; omega]
   exact dn H L
theorem sp82 {x b y : Nat} (H : St l h) : Tri h true l (rNo (.bool (isIn x b y))) (M 82 [.int .u8 (x : Int), .int .u8 (b : Int), .int .u8 (y : Int)] h):=by
 refine t3 e82 fun L => ?_
 unfold B82
 unfold isIn
 refine Tri.geq ?_ ?_<;>intro e
 ·apply gtt
  apply bI
  refine Tri.leq ?_ ?_<;>intro e2
  ·apply bS
   apply pT
   rw [decide_eq_true (show x ≤ b by omega), decide_eq_true (show b ≤ y by omega)]
   exact dn H L
  ·apply bS
   apply pT
   rw [decide_eq_true (show x ≤ b by omega), decide_eq_false (show ¬ b ≤ y by omega)]
   exact dn H L
 ·apply gft
  apply pF
  rw [decide_eq_false (show ¬ x ≤ b by omega)]
  exact dn H L
theorem sp52 {b : Nat} (H : St l h) : Tri h true l (rNo (.bool (isSp b))) (M 52 [.int .u8 (b : Int)] h):=by
 refine t1 e52 fun L => ?_
 unfold B52
 unfold isSp
 refine Tri.eql ?_ ?_<;>intro e
 ·apply gtf
  apply pT
  rw [show b = 32 by omega]
  exact dn H L
 ·apply gff
  apply Mid.bB
  refine tbe1 (sp82 H) L fun h H L => ?_
  apply bS
  apply pF
  rw [show (b == 32) = false by simp; omega]
  exact dn H L
theorem sp90 {b : Nat} (H : St l h) : Tri h true l (rNo (.bool (isDg b))) (M 90 [.int .u8 (b : Int)] h):=by
 refine t1 e90 fun L => ?_
 unfold B90
 refine tbe1 (sp82 H) L fun h H L => ?_
 exact dn H L
theorem sp92 {b : Nat} (H : St l h) : Tri h true l (rNo (.bool (isLt b))) (M 92 [.int .u8 (b : Int)] h):=by
 refine t1 e92 fun L => ?_
 unfold B92
 unfold isLt
 refine tbe1 (sp82 H) L fun h H L => ?_
 cases h1 : isIn 97 b 122
 ·apply gff
  apply Mid.bB
  refine tbe1 (sp82 H) L fun h H L => ?_
  apply bS
  apply pF
  cases h2 : isIn 65 b 90
  ·apply gff
   apply bI
   refine Tri.eql ?_ ?_<;>intro e
   ·apply bS
    apply pF
    rw [show b = 95 by omega]
    exact dn H L
   ·apply bS
    apply pF
    rw [show (b == 95) = false by simp; omega]
    exact dn H L
  ·apply gtf
   apply pT
   exact dn H L
 ·apply gtf
  apply pT
  apply gtf
  apply pT
  exact dn H L
theorem sp88 {b : Nat} (H : St l h) : Tri h true l (rNo (.bool (!isEnd b))) (M 88 [.int .u8 (b : Int)] h):=by
 refine t1 e88 fun L => ?_
 unfold B88
 refine tbe1 (sp80 H) L fun h H L => ?_
 refine Tri.not ?_
 exact dn H L
theorem sp94 {b : Nat} (H : St l h) : Tri h true l (rNo (.bool (isLt b || isDg b))) (M 94 [.int .u8 (b : Int)] h):=by
 refine t1 e94 fun L => ?_
 unfold B94
 refine tbe1 (sp92 H) L fun h H L => ?_
 cases h1 : isLt b
 ·apply gff
  apply Mid.bB
  refine tbe1 (sp90 H) L fun h H L => ?_
  apply bS
  apply pF
  exact dn H L
 ·apply gtf
  apply pT
  exact dn H L
abbrev rc (s : Bs) (a n : Nat) (sv : V) : List V:=[.str s, .int .i64 (a : Int), .int .i64 (n : Int), sv]
def wh {σ : Type} (f : σ → Nat → Bool × σ) : σ → List Nat → Nat
 | _, [] => 0
 | s, b :: r => if (f s b).1 then wh f (f s b).2 r + 1 else 0
theorem wh_le {σ : Type} (f : σ → Nat → Bool × σ) : ∀ (s : σ) (l : List Nat), wh f s l ≤ l.length
 | _, [] => Nat.le_refl 0
 | s, b :: r => by
  rw [wh, List.length_cons]
  have:=wh_le f (f s b).2 r
  split <;> omega
def Asks {σ : Type} (A : σ → Asn) (f : σ → Nat → Bool × σ) (g : V) (r : Bool) : Prop:=∀ (s : σ) (b : Nat) (h : Hp) (l : List Asn), b < 256 → St (A s :: l) h → Tri h r l (fun w B => w = .bool (f s b).1 ∧ B = [A (f s b).2]) (dynE M g [.int .u8 (b : Int)] h)
theorem Asks.of {p : Nat → Bool} {g : V} (hg : ∀ (b : Nat) (h : Hp) (l : List Asn), b < 256 → St l h → Tri h true l (rNo (.bool (p b))) (dynE M g [.int .u8 (b : Int)] h)) : Asks (fun _ : Unit => ands []) (fun _ b => (p b, ())) g true :=
 fun s b h l hb H => Tri.tail (hg b h (ands [] :: l) hb H) (Lo.refl _ _) (fun e => e) fun v h' B q H L => by
  obtain ⟨rfl, rfl⟩:=q
  exact ⟨[ands []], ⟨rfl, rfl⟩, H⟩
def rWh {σ : Type} (A : σ → Asn) (rb : Nat) (c : List V) (m : Int) : V → List Asn → Prop:=fun w B => ∃ s1, w = .int .i64 m ∧ B = [Mid.row rb c, A s1]
theorem while_ok {σ : Type} {A : σ → Asn} {f : σ → Nat → Bool × σ} {g : V} {r : Bool} (hg : Asks A f g r) {rb : Nat} {s : Bs} {a ln fr : Nat} {sv : V} (hs : s.n ≤ 70000) (ha : a ≤ 70000) (hfr : fr ≤ 70000) :
 ∀ (m n : Nat) (s0 : σ) (h : Hp) (l : List Asn), s.n - (a + n) = m → fr ≤ n → n ≤ 70000 → St (Mid.row rb (rc s a ln sv) :: A s0 :: l) h →
  Tri h r l (rWh A rb (rc s a ln sv) (((n + wh f s0 ((bts s).drop (a + n)) : Nat) : Int) - fr)) (M 29 [.ptr rb 0, .int .i64 (fr : Int), g, .int .i64 (n : Int)] h):=by
 intro m
 induction m with
 | zero =>
  intro n s0 h l hm hn hn2 H
  refine t4 e29 fun L => ?_
  unfold B29
  refine nal 0 H rfl rfl ?_
  refine aD (by omega) ?_
  refine nal 0 H rfl rfl ?_
  apply lS
  refine Tri.lss (fun e => by omega) (fun e => ?_)
  iterate 13 apply gft
  apply pF
  apply nF
  refine Tri.subN (by omega) (by omega) ?_
  rw [bts_end (by omega)]
  exact Tri.done (B:=[Mid.row rb (rc s a ln sv), A s0]) ⟨s0, rfl, rfl⟩ H L
 | succ m ih =>
  intro n s0 h l hm hn hn2 H
  refine t4 e29 fun L => ?_
  unfold B29
  refine nal 0 H rfl rfl ?_
  refine aD (by omega) ?_
  refine nal 0 H rfl rfl ?_
  apply lS
  refine Tri.lss (fun e => ?_) (fun e => by omega)
  apply gtt
  apply bS
  apply gtt
  apply bS
  apply gtt
  refine Tri.eqv (bind_nilS _ _) ?_
  apply nl
  apply bS
  apply gtt
  apply ba
  apply bS
  apply gtt
  refine bl 0 H rfl rfl ?_
  apply bS
  apply gtt
  apply bS
  apply gtt
  refine Tri.eqv (bind_nilS _ _) ?_
  apply nl
  apply bS
  apply gtt
  apply ba
  apply bS
  apply gtt
  refine bl 0 H rfl rfl ?_
  apply bS
  apply gtt
  apply bS
  apply gtt
  apply bI
  refine aD (by omega) ?_
  apply bS
  apply gtt
  refine jS (by omega) ?_
  apply bS
  apply gtt
  apply Mid.bB
  have hlt : a + n < s.n:=by omega
  rw [show ((a : Int) + (n : Int)).toNat = a + n from rfl, bts_drop hlt, wh]
  refine tbe (hg s0 _ h (Mid.row rb (rc s a ln sv) :: l) (bts_lt s _) H.u1) L fun h H L => ?_
  cases hb : (f s0 (s.byte (a + n))).1 with
  | true =>
   apply bS
   apply pT
   apply nT
   refine aD (by omega) ?_
   rw [if_pos rfl]
   refine Tri.tail (ih (n + 1) _ _ _ (by omega) (by omega) (by omega) H.u1) L (fun e => e) fun v h B hq H L => ?_
   obtain ⟨s1, rfl, rfl⟩:=hq
   exact ⟨_, ⟨s1, by (try rw [show a + (n + 1) = a + n + 1 from rfl]); congr 1; omega, rfl⟩, H⟩
  | false =>
   apply bS
   apply pT
   apply nF
   refine Tri.subN (by omega) (by omega) ?_
   exact Tri.done (B:=[Mid.row rb (rc s a ln sv), A _]) ⟨_, rfl, rfl⟩ H.u1 L
theorem sp50 {σ : Type} {A : σ → Asn} {f : σ → Nat → Bool × σ} {g : V} {r : Bool} (hg : Asks A f g r) {rb : Nat} {s : Bs} {a ln fr : Nat} {sv : V} {s0 : σ} (hs : s.n ≤ 70000) (ha : a ≤ 70000) (hfr : fr ≤ 70000) (H : St (Mid.row rb (rc s a ln sv) :: A s0 :: l) h) :
 Tri h r l (rWh A rb (rc s a ln sv) ((wh f s0 ((bts s).drop (a + fr)) : Nat) : Int)) (M 50 [.ptr rb 0, .int .i64 (fr : Int), g] h):=by
 refine t3 e50 fun L => ?_
 unfold B50
 refine Tri.tail (while_ok hg hs ha hfr _ fr s0 h l rfl (Nat.le_refl _) hfr H) L (fun e => e) fun v h B hq H L => ?_
 obtain ⟨s1, rfl, rfl⟩:=hq
 exact ⟨_, ⟨s1, by (try rw [show a + (n + 1) = a + n + 1 from rfl]); congr 1; omega, rfl⟩, H⟩
def cnt (p : Nat → Bool) (l : List Nat) : Nat:=wh (fun (_ : Unit) b => (p b, ())) () l
theorem cnt_le (p : Nat → Bool) (l : List Nat) : cnt p l ≤ l.length:=wh_le _ _ _
def rRd (rb : Nat) (c : List V) (w : V) : V → List Asn → Prop:=fun v B => v = w ∧ B = [Mid.row rb c]
theorem f50 {p : Nat → Bool} {g : V} (hg : ∀ (b : Nat) (h : Hp) (l : List Asn), b < 256 → St l h → Tri h true l (rNo (.bool (p b))) (dynE M g [.int .u8 (b : Int)] h)) {rb : Nat} {s : Bs} {a ln fr : Nat} {sv : V} (hs : s.n ≤ 70000) (ha : a ≤ 70000) (hfr : fr ≤ 70000) (H : St (Mid.row rb (rc s a ln sv) :: l) h) :
 Tri h true l (rRd rb (rc s a ln sv) (.int .i64 ((cnt p ((bts s).drop (a + fr)) : Nat) : Int))) (M 50 [.ptr rb 0, .int .i64 (fr : Int), g] h):=by
 have H1 : St (Mid.row rb (rc s a ln sv) :: ands [] :: l) h:=(St.pack (l:=[]) H).u1
 refine Tri.tail (sp50 (Asks.of hg) (s0:=()) hs ha hfr H1) (Lo.refl _ _) (fun e => e) fun v h B hq H L => ?_
 obtain ⟨_, rfl, rfl⟩:=hq
 exact ⟨[Mid.row rb (rc s a ln sv)], ⟨rfl, rfl⟩, H.x1⟩
theorem pfx_take (y x : List Nat) : y.isPrefixOf x = decide (y.length ≤ x.length ∧ x.take y.length = y):=by
 rw [Bool.eq_iff_iff, List.isPrefixOf_iff_prefix, decide_eq_true_iff]
 constructor
 ·rintro ⟨t, rfl⟩
  exact ⟨by rw [List.length_append]; omega, by simp⟩
 ·rintro ⟨_, h⟩
  exact ⟨x.drop y.length, by have:=List.take_append_drop y.length x; rw [h] at this; exact this⟩
theorem sp172 {x y : Bs} (hx : x.n ≤ 70000) (hy : y.n ≤ 70000) (H : St l h) : Tri h true l (rNo (.bool ((bts y).isPrefixOf (bts x)))) (M 172 [.str x, .str y] h):=by
 refine t2 e172 fun L => ?_
 unfold B172
 rw [pfx_take, bts_len, bts_len]
 apply lS
 apply lS
 refine Tri.geq ?_ ?_<;>intro e
 ·apply gtt
  apply Mid.bB
  apply lS
  refine Tri.eqv (bind_slStrK _ _ _ _ _) ?_
  refine Tri.cutHi (by omega) (by omega) fun z26 nz26 ez26 => ?_
  refine Tri.eqv (bind_strS _ _) ?_
  refine Tri.strEqL ?_
  apply bS
  apply pT
  have e1 : bts z26 = (bts x).take y.n:=ez26
  rw [e1, show decide (y.n ≤ x.n ∧ (bts x).take y.n = bts y) = decide ((bts x).take y.n = bts y) from decide_eq_decide.2 ⟨fun c => c.2, fun c => ⟨by omega, c⟩⟩]
  exact dn H L
 ·apply gft
  apply pF
  rw [decide_eq_false (fun c => by omega)]
  exact dn H L
theorem sp104 {x y : Bs} (hx : x.n ≤ 70000) (hy : y.n ≤ 70000) (H : St l h) : Tri h true l (rNo (.bool ((bts y).isPrefixOf (bts x)))) (M 104 [.str x, .str y] h):=by
 refine t2 e104 fun L => ?_
 unfold B104
 refine tbe1 (sp172 (by first|assumption|omega|rfl|(dsimp;omega)) (by first|assumption|omega|rfl|(dsimp;omega)) H) L fun h H L => ?_
 exact dn H L
theorem sp84 {rb : Nat} {s y : Bs} {a ln : Nat} {sv : V} (hs : s.n ≤ 70000) (ha : a ≤ s.n) (hy : y.n ≤ 70000) (H : St (Mid.row rb (rc s a ln sv) :: l) h) :
 Tri h true l (rRd rb (rc s a ln sv) (.bool ((bts y).isPrefixOf ((bts s).drop a)))) (M 84 [.ptr rb 0, .str y] h):=by
 refine t2 e84 fun L => ?_
 unfold B84
 refine nal 0 H rfl rfl ?_
 refine nal 0 H rfl rfl ?_
 refine Tri.cutLo (by omega) (by omega) fun z6 nz6 ez6 => ?_
 refine tbe1 (sp104 (by first|assumption|omega|rfl|(dsimp;omega)) (by first|assumption|omega|rfl|(dsimp;omega)) H) L fun h H L => ?_
 have e1 : bts z6 = (bts s).drop a:=ez6
 rw [e1]
 exact Tri.done (B:=[_]) ⟨rfl, rfl⟩ H L
def seg (s : Bs) (a b : Nat) : List Nat:=((bts s).drop a).take (b - a)
theorem seg_nil (s : Bs) (a : Nat) : seg s a a = []:=by rw [seg, Nat.sub_self, List.take_zero]
theorem seg_cons {s : Bs} {a b : Nat} (h : a < b) (hb : b ≤ s.n) : seg s a b = s.byte a :: seg s (a + 1) b:=by
 rw [seg, bts_drop (by omega), show b - a = (b - (a + 1)) + 1 by omega, List.take_succ_cons]; rfl
def lnc : List Nat → Nat
 | [] => 0
 | [b] => if isEnd b then 1 else 0
 | b :: c :: r => if isEnd b then (if isEnd c && c != b then lnc r + 1 else lnc (c :: r) + 1) else lnc (c :: r)
theorem lnc_no {b : Nat} (h : isEnd b = false) : ∀ r, lnc (b :: r) = lnc r
 | [] => by simp [lnc, h]
 | c :: r => by simp [lnc, h]
theorem lnc_two {b c : Nat} (h : isEnd b = true) (h2 : isEnd c = true) (h3 : c ≠ b) (r : List Nat) : lnc (b :: c :: r) = lnc r + 1:=by simp [lnc, h, h2, h3]
theorem lnc_end {b c : Nat} (h : isEnd b = true) (h2 : isEnd c = false ∨ c = b) (r : List Nat) : lnc (b :: c :: r) = lnc (c :: r) + 1:=by
 rcases h2 with h2 | h2 <;> simp [lnc, h, h2]
theorem skip_ok {rb : Nat} {s : Bs} {to : Nat} {sv : V} (hs : s.n ≤ 70000) (hto : to ≤ s.n) : ∀ (m a ln : Nat) (h : Hp) (l : List Asn), to - a ≤ m → a ≤ to → ln ≤ 1000000 + a → St (Mid.row rb (rc s a ln sv) :: l) h →
 Tri h false l (rRd rb (rc s to (ln + lnc (seg s a to)) sv) (.tuple [])) (M 19 [.ptr rb 0, .int .i64 (to : Int)] h):=by
 intro m
 induction m with
 | zero =>
  intro a ln h l hm ha hln H
  refine t2 e19 fun L => ?_
  unfold B19
  refine nal 0 H rfl rfl ?_
  refine Tri.lss (fun e => by omega) (fun e => ?_)
  apply nF
  obtain rfl : a = to:=by omega
  rw [seg_nil]
  exact Tri.done (B:=[_]) ⟨rfl, rfl⟩ H L
 | succ m ih =>
  intro a ln h l hm ha hln H
  have ih21 : ∀ (a ln : Nat) (h : Hp) (l : List Asn), to - (a + 1) ≤ m → a + 1 ≤ to → ln ≤ 1000000 + a + 1 → ∀ N, N = ln + lnc (seg s (a + 1) to) → St (Mid.row rb (rc s a ln sv) :: l) h →
   Tri h false l (rRd rb (rc s to N sv) (.tuple [])) (M 21 [.ptr rb 0, .int .i64 (to : Int)] h):=by
   intro a ln h l hm ha hln N hN H
   refine t2 e21 fun L => ?_
   unfold B21
   refine nal 0 H rfl rfl ?_
   refine aD (by omega) ?_
   apply nl
   apply ad
   refine sto 0 H rfl rfl L (by first|rfl|assumption) fun h H L => ?_
   rw [hN]
   exact te (ih (a + 1) ln h l hm ha (by omega) H) L
  refine t2 e19 fun L => ?_
  unfold B19
  refine nal 0 H rfl rfl ?_
  refine Tri.lss ?_ ?_<;>intro e
  ·apply nT
   refine nal 0 H rfl rfl ?_
   refine nal 0 H rfl rfl ?_
   refine iS (by omega) ?_
   refine tbe1 (sp80 H) L fun h H L => ?_
   refine Tri.not ?_
   rw [seg_cons (by omega) hto, show ((a : Int)).toNat = a from rfl]
   cases h1 : isEnd (s.byte a) with
   | false =>
    apply nT
    exact te (ih21 a ln h l (by omega) (by omega) (by omega) _ (by rw [lnc_no h1]) H) L
   | true =>
    apply nF
    refine nal 0 H rfl rfl ?_
    refine aD (by omega) ?_
    apply nl
    apply ad
    refine sto 0 H rfl rfl L (by first|rfl|assumption) fun h H L => ?_
    refine nal 0 H rfl rfl ?_
    refine aD (by omega) ?_
    refine Tri.lss ?_ ?_<;>intro e2
    ·apply gtt
     apply bS
     apply gtt
     refine Tri.eqv (bind_nilS _ _) ?_
     apply nl
     apply bS
     apply gtt
     apply ba
     apply bS
     apply gtt
     refine bl 0 H rfl rfl ?_
     apply bS
     apply gtt
     apply bS
     apply gtt
     refine Tri.eqv (bind_nilS _ _) ?_
     apply nl
     apply bS
     apply gtt
     apply ba
     apply bS
     apply gtt
     refine bl 0 H rfl rfl ?_
     apply bS
     apply gtt
     apply bI
     refine aD (by omega) ?_
     apply bS
     apply gtt
     refine jS (by omega) ?_
     apply bS
     refine Tri.eqv (guardB_tt _ _) ?_
     have Ho97:=H
     refine Tri.wrote (sp80 (H.draw _)) L (fun _ => rfl) fun v h2 h B hq97 H2 hn97 hl97 eh97 H L => ?_
     obtain ⟨rfl, rfl⟩:=hq97
     apply pT
     have hto2 : a + 1 < to:=by omega
     rw [show ((a : Int) + 1).toNat = a + 1 from rfl]
     have eb:=seg_cons hto2 hto
     cases h2 : isEnd (s.byte (a + 1)) with
     | false =>
      iterate 20 apply gft
      apply pF
      apply nF
      exact te (ih21 a (ln + 1) h l (by omega) (by omega) (by omega) _ (by rw [eb, lnc_end h1 (.inl h2)]; omega) H) L
     | true =>
      apply gtt
      apply bS
      apply gtt
      refine Tri.eqv (bind_nilS _ _) ?_
      apply nl
      apply bS
      apply gtt
      apply ba
      apply bS
      apply gtt
      refine bl 0 H rfl rfl ?_
      apply bS
      apply gtt
      apply bS
      apply gtt
      refine Tri.eqv (bind_nilS _ _) ?_
      apply nl
      apply bS
      apply gtt
      apply ba
      apply bS
      apply gtt
      refine bl 0 H rfl rfl ?_
      apply bS
      apply gtt
      apply bI
      refine aD (by omega) ?_
      apply bS
      apply gtt
      refine jS (by omega) ?_
      apply bS
      apply gtt
      apply bS
      apply gtt
      refine Tri.eqv (bind_nilS _ _) ?_
      apply nl
      apply bS
      apply gtt
      apply ba
      apply bS
      apply gtt
      refine bl 0 H rfl rfl ?_
      apply bS
      apply gtt
      apply bS
      apply gtt
      refine Tri.eqv (bind_nilS _ _) ?_
      apply nl
      apply bS
      apply gtt
      apply ba
      apply bS
      apply gtt
      refine bl 0 H rfl rfl ?_
      apply bS
      apply gtt
      refine jS (by omega) ?_
      apply bS
      apply gtt
      apply bI
      refine Tri.neq ?_ ?_<;>intro e3
      ·apply bS
       apply pT
       apply nT
       refine nal 0 H rfl rfl ?_
       refine aD (by omega) ?_
       apply nl
       apply ad
       refine sto 0 H rfl rfl L (by first|rfl|assumption) fun h H L => ?_
       have e3' : s.byte (a + 1) ≠ s.byte a:=fun c => e3 (congrArg Int.ofNat c)
       exact te (ih21 (a + 1) (ln + 1) h l (by omega) (by omega) (by omega) _ (by rw [eb, lnc_two h1 h2 e3']; omega) H) L
      ·apply bS
       apply pT
       apply nF
       have e3' : s.byte (a + 1) = s.byte a:=Int.ofNat.inj e3
       exact te (ih21 a (ln + 1) h l (by omega) (by omega) (by omega) _ (by rw [eb, lnc_end h1 (.inr e3')]; omega) H) L
    ·iterate 10 apply gft
     refine Tri.eqv (guardB_ft _ _) ?_
     apply pF
     iterate 20 apply gft
     apply pF
     apply nF
     obtain rfl : a + 1 = to:=by omega
     exact te (ih21 a (ln + 1) h l (by omega) (by omega) (by omega) _ (by rw [seg_nil]; simp [lnc, h1]) H) L
  ·apply nF
   obtain rfl : a = to:=by omega
   rw [seg_nil]
   exact Tri.done (B:=[_]) ⟨rfl, rfl⟩ H L
theorem sp48 {rb : Nat} {s : Bs} {a ln n : Nat} {sv : V} (hs : s.n ≤ 70000) (hn : a + n ≤ s.n) (hln : ln ≤ 1000000 + a) (H : St (Mid.row rb (rc s a ln sv) :: l) h) :
 Tri h false l (rRd rb (rc s (a + n) (ln + lnc (seg s a (a + n))) sv) (.tuple [])) (M 48 [.ptr rb 0, .int .i64 (n : Int)] h):=by
 refine t2 e48 fun L => ?_
 unfold B48
 refine nal 0 H rfl rfl ?_
 refine aD (by omega) ?_
 exact te (skip_ok hs hn _ a ln h l (Nat.le_refl _) (by omega) hln H) L
def BD (bb : Nat) (L : List Nat) : Asn:=fun f => ∃ x : V × V, ((x.1 = .nilPtr ∨ x.1 = .ptr bb 0) ∧ (L = [] → x.2 = .nilSlice)) ∧ ands [rwT bb 91 [x.1, x.2], vc true x.2 5 1 (u8s L)] f
theorem openB {bb : Nat} {L : List Nat} (H : St (BD bb L :: l) h) : ∃ p v, (p = .nilPtr ∨ p = .ptr bb 0) ∧ (L = [] → v = .nilSlice) ∧ St (rwT bb 91 [p, v] :: vc true v 5 1 (u8s L) :: l) h:=by
 obtain ⟨x, H⟩:=H.ex
 obtain ⟨⟨h1, h2⟩, H⟩:=H.pure
 exact ⟨_, _, h1, h2, H.app⟩
theorem closeB {bb : Nat} {L : List Nat} {p v : V} (h1 : p = .nilPtr ∨ p = .ptr bb 0) (h2 : L = [] → v = .nilSlice) (H : St (rwT bb 91 [p, v] :: vc true v 5 1 (u8s L) :: l) h) : St (BD bb L :: l) h :=
 (St.pack (l:=[rwT bb 91 [p, v], vc true v 5 1 (u8s L)]) H).imp0 fun f hf => ⟨(p, v), ⟨h1, h2⟩, hf⟩
def rBD (bb : Nat) (L : List Nat) (w : V) : V → List Asn → Prop:=fun v B => v = w ∧ B = [BD bb L]
theorem check {bb : Nat} {p w : V} (hp : p = .nilPtr ∨ p = .ptr bb 0) (H : St (rwT bb 91 [p, w] :: l) h) : Tri h false l (fun v B => v = .tuple [] ∧ B = [rwT bb 91 [.ptr bb 0, w]]) (M 206 [.ptr bb 0] h):=by
 refine t1 e206 fun L => ?_
 unfold B206
 refine Tri.nil (Tri.addr (Tri.loadT H rfl ?_))
 rcases hp with rfl | rfl
 ·refine Tri.eqZ (Tri.ift ?_)
  obtain ⟨t, g, hg⟩:=H.rwT_get
  have e1 : bareV h (.ptr bb 0) = some (.ptr bb 0):=by unfold bareV; simp only [hg]; rfl
  have e2 : M 282 [.ptr bb 0] h = some (.ptr bb 0, h):=by
   refine (@lim_F Tryz.prog (orc fnA Inv) labs 141 _ _ _).2 ⟨0, ?_⟩
   rfl
  have e3 : typedV h 91 2 (.ptr bb 0) = some (.ptr bb 0):=by unfold typedV; simp only [hg]; rfl
  rw [e1]
  apply bS
  rw [e2]
  apply bS
  rw [e3]
  refine Tri.bs (Tri.nil (Tri.addr (Tri.storeT H (Nat.le_of_ble_eq_true rfl) L (fun e => nomatch e) rfl fun h H L => ?_)))
  exact Tri.done (B:=[_]) ⟨rfl, rfl⟩ H L
 ·refine Tri.eqP (Tri.iff (Tri.nil (Tri.addr (Tri.loadT H rfl ?_))))
  have e1 : eqOp .neq (cmpP true (.ptr bb 0) (.ptr bb 0)) = some (.bool false):=by
   show eqOp .neq (bif true && Nat.beq bb bb then some (Nat.beq 0 0) else none) = _
   rw [Nat.beq_refl]; rfl
  rw [e1]
  exact Tri.done (B:=[_]) ⟨rfl, rfl⟩ H L
theorem sp142 {bb b : Nat} {Y : List Nat} (hY : Y.length ≤ 1000000) (H : St (BD bb Y :: l) h) : Tri h false l (rBD bb (Y ++ [b]) .nilIface) (M 142 [.ptr bb 0, .int .u8 (b : Int)] h):=by
 refine t2 e142 fun L => ?_
 unfold B142
 obtain ⟨p, v, hp, hv, H⟩:=openB H
 refine Mid.tb (check hp H) L fun _ h _ hq H L => ?_
 obtain ⟨rfl, rfl⟩:=hq
 refine Tri.nil (Tri.addr (Tri.loadT H rfl ?_))
 refine Tri.bld (e:=_) (s:=_) H L rfl rfl fun b9 h hb9 H L => ?_
 refine Tri.app 2 Y.length 1 (new:=u8s [b]) H rfl (H.newCells (i:=0) rfl rfl) (by decide) (by simp) rfl (by omega) (by omega) rfl L (Own.off _ _) fun v' h H L hO h1 => ?_
 refine Tri.nil (Tri.addr (Tri.storeT H.tl (Nat.le_of_ble_eq_true rfl) L (fun e => nomatch e) h1 fun h H L => ?_))
 refine Tri.done (B:=[BD bb (Y ++ [b])]) ⟨rfl, rfl⟩ (closeB (p:=.ptr bb 0) (v:=v') (.inr rfl) (fun e => absurd e (by simp)) ?_) L
 rw [show u8s (Y ++ [b]) = u8s Y ++ u8s [b] from List.map_append]
 exact H
theorem sp144 {bb : Nat} {Y : List Nat} {z : Bs} (hY : Y.length ≤ 1000000) (hz : z.n ≤ 1000000) (H : St (BD bb Y :: l) h) : Tri h false l (fun v B => v = .tuple [.int .i64 (z.n : Nat), .nilIface] ∧ B = [BD bb (Y ++ bts z)]) (M 144 [.ptr bb 0, .str z] h):=by
 refine t2 e144 fun L => ?_
 unfold B144
 obtain ⟨p, v, hp, hv, H⟩:=openB H
 refine Mid.tb (check hp H) L fun _ h _ hq H L => ?_
 obtain ⟨rfl, rfl⟩:=hq
 refine Tri.nil (Tri.addr (Tri.loadT H rfl ?_))
 by_cases he : Y = [] ∧ bts z = []
 ·obtain ⟨rfl, e2⟩ := he
  obtain rfl:=hv rfl
  have e0 : z.n = 0:=by rw [← bts_len, e2]; rfl
  have e1 : appS 5 1 1 .nilSlice (.str z) h = some (.nilSlice, h):=by
   unfold appS
   rw [newCells_str, e0, e2]; rfl
  rw [e1]
  refine Tri.bs (Tri.nil (Tri.addr (Tri.storeT H (Nat.le_of_ble_eq_true rfl) L (fun e => nomatch e) rfl fun h H L => ?_)))
  refine Tri.eqv (bind_lenStr _ _) (Tri.lenStr (Tri.bs ?_))
  exact Tri.done (B:=[BD bb ([] ++ bts z)]) ⟨rfl, rfl⟩ (closeB (.inr rfl) (fun _ => rfl) (by rw [e2]; exact H)) L
 ·have hall : ∀ L : List Nat, allOne (u8s L) = true := fun L => by
   induction L with
   | nil => rfl
   | cons a L ih => show (oneCell (u8 a) && allOne (u8s L)) = true; rw [ih]; rfl
  refine Tri.app 1 Y.length z.n (new:=u8s (bts z)) H rfl (newCells_str h z) (by decide) (by simp) (by simp [bts_len]) (by omega) (by omega) (hall _) L (Own.off _ _) fun v' h H L hO h1 => ?_
  refine Tri.nil (Tri.addr (Tri.storeT H (Nat.le_of_ble_eq_true rfl) L (fun e => nomatch e) h1 fun h H L => ?_))
  refine Tri.eqv (bind_lenStr _ _) (Tri.lenStr (Tri.bs ?_))
  refine Tri.done (B:=[BD bb (Y ++ bts z)]) ⟨rfl, rfl⟩ (closeB (p:=.ptr bb 0) (v:=v') (.inr rfl) (fun e => absurd (List.append_eq_nil_iff.1 e) he) ?_) L
  rw [show u8s (Y ++ bts z) = u8s Y ++ u8s (bts z) from List.map_append]
  exact H
def rText (Y : List Nat) : V → List Asn → Prop:=fun w B => ∃ z : Bs, z.n = Y.length ∧ bts z = Y ∧ w = .str z ∧ B = []
theorem sp146 {bb : Nat} {Y : List Nat} (hY : Y.length ≤ 1000000) (hb : ∀ b ∈ Y, b < 256) (H : St (BD bb Y :: l) h) : Tri h false l (rText Y) (M 146 [.ptr bb 0] h):=by
 refine t1 e146 fun L => ?_
 unfold B146
 obtain ⟨p, v, hp, hv, H⟩:=openB H
 refine Tri.nil (Tri.addr (Tri.loadT H rfl ?_))
 obtain ⟨q, z, h', e1, e2, hz, e3, H', hl⟩:=St.see (l:=rwT bb 91 [p, v] :: l) H.u1 hb (by omega) hv
 rw [e1]
 refine Tri.bs (Tri.nil (Tri.addr (Tri.loadT H rfl (Tri.eqv (bind_lenSl _ _) (Tri.lenV 1 Y.length H rfl (by decide) (by simp) (Tri.bs ?_))))))
 rw [e2]
 exact Tri.done (B:=[]) ⟨z, hz, e3, rfl, rfl⟩ H'.tl (hl _ L)
theorem newB (H : St l h) (L : Lo ro h0 h) (hK : ∀ b h', h0.n ≤ b → St (BD b [] :: l) h' → Lo ro h0 h' → Tri h0 ro F Q (K (.ptr b 0) h')) : Tri h0 ro F Q (Mid.newS 91 [.nilPtr, .nilSlice] h K) :=
 Tri.newT H L fun b h hb H L => hK b h hb (closeB (.inl rfl) (fun _ => rfl) (St.vc_new true 5 1 H).u1) L
def lns : List Nat → List Nat
 | [] => []
 | [b] => [if isEnd b then 10 else b]
 | b :: c :: r => if isEnd b then (if isEnd c && c != b then 10 :: lns r else 10 :: lns (c :: r)) else b :: lns (c :: r)
theorem lns_no {b : Nat} (h : isEnd b = false) : ∀ r, lns (b :: r) = b :: lns r
 | [] => by simp [lns, h]
 | c :: r => by simp [lns, h]
theorem lns_two {b c : Nat} (h : isEnd b = true) (h2 : isEnd c = true) (h3 : c ≠ b) (r : List Nat) : lns (b :: c :: r) = 10 :: lns r:=by simp [lns, h, h2, h3]
theorem lns_end {b c : Nat} (h : isEnd b = true) (h2 : isEnd c = false ∨ c = b) (r : List Nat) : lns (b :: c :: r) = 10 :: lns (c :: r):=by
 rcases h2 with h2 | h2 <;> simp [lns, h, h2]
theorem lns_le : ∀ (m : Nat) (L : List Nat), L.length ≤ m → (lns L).length ≤ L.length
 | _, [], _ => Nat.le_refl 0
 | _, [b], _ => Nat.le_refl 1
 | 0, b :: c :: r, h => by simp at h
 | m + 1, b :: c :: r, h => by
  simp only [List.length_cons] at h
  have h1:=lns_le m (c :: r) (by simp only [List.length_cons]; omega)
  have h2:=lns_le m r (by omega)
  simp only [lns]
  split
  ·split <;> simp only [List.length_cons] at h1 ⊢ <;> omega
  ·simp only [List.length_cons] at h1 ⊢; omega
theorem lines_ok {s : Bs} {bb : Nat} (hs : s.n ≤ 70000) : ∀ (m i : Nat) (Y : List Nat) (h : Hp) (l : List Asn), s.n - i ≤ m → i ≤ s.n → Y.length ≤ i → (∀ b ∈ Y, b < 256) → St (BD bb Y :: l) h →
 Tri h false l (rText (Y ++ lns ((bts s).drop i))) (M 53 [.str s, .ptr bb 0, .int .i64 (i : Int)] h):=by
 intro m
 induction m with
 | zero =>
  intro i Y h l hm hi hY hb H
  refine t3 e53 fun L => ?_
  unfold B53
  apply lS
  refine Tri.lss (fun e => by omega) (fun e => ?_)
  apply nF
  refine Mid.tb (sp146 (by first|assumption|omega|rfl|(dsimp;omega)) (by first|assumption|omega|rfl|(dsimp;omega)) H) L fun v h B hq1 H L => ?_
  obtain ⟨z1, nz1, ez1, rfl, rfl⟩:=hq1
  rw [bts_end (by omega), show lns [] = [] from rfl, List.append_nil]
  exact Tri.done (B:=[]) ⟨_, by assumption, by assumption, rfl, rfl⟩ H L
 | succ m ih =>
  intro i Y h l hm hi hY hb H
  have ih55 : ∀ (i : Nat) (Y : List Nat) (h : Hp) (l : List Asn), s.n - (i + 1) ≤ m → i + 1 ≤ s.n → Y.length ≤ i + 1 → (∀ b ∈ Y, b < 256) → ∀ N, N = Y ++ lns ((bts s).drop (i + 1)) → St (BD bb Y :: l) h →
   Tri h false l (rText N) (M 55 [.str s, .ptr bb 0, .int .i64 (i : Int)] h):=by
   intro i Y h l hm hi hY hb N hN H
   refine t3 e55 fun L => ?_
   unfold B55
   refine aD (by omega) ?_
   rw [hN]
   exact te (ih (i + 1) Y h l hm hi hY hb H) L
  have hb1 : ∀ (Y : List Nat) (b : Nat), (∀ b ∈ Y, b < 256) → b < 256 → ∀ c ∈ Y ++ [b], c < 256 := fun Y b h1 h2 c hc => by
   rcases List.mem_append.1 hc with h | h
   ·exact h1 c h
   ·rw [List.mem_singleton.1 h]; exact h2
  refine t3 e53 fun L => ?_
  unfold B53
  apply lS
  refine Tri.lss ?_ ?_<;>intro e
  ·have hi' : i < s.n := by omega
   apply nT
   refine iS (by omega) ?_
   refine tbe1 (sp80 H) L fun h H L => ?_
   refine Tri.not ?_
   rw [bts_drop hi', show ((i : Int)).toNat = i from rfl]
   cases h1 : isEnd (s.byte i) with
   | false =>
    apply nT
    refine iS (by omega) ?_
    refine tbe (sp142 (by first|assumption|omega|rfl|(dsimp;omega)) H) L fun h H L => ?_
    exact te (ih55 i _ h l (by omega) (by omega) (by simp; omega) (hb1 _ _ hb (by first | exact bts_lt _ _ | decide)) _ (by rw [lns_no h1]; simp) H) L
   | true =>
    apply nF
    refine tbe (sp142 (by first|assumption|omega|rfl|(dsimp;omega)) H) L fun h H L => ?_
    refine aD (by omega) ?_
    apply lS
    refine Tri.lss ?_ ?_<;>intro e2
    ·apply gtt
     apply bS
     apply gtt
     apply bS
     apply gtt
     apply bI
     refine aD (by omega) ?_
     apply bS
     apply gtt
     refine jS (by omega) ?_
     apply bS
     refine Tri.eqv (guardB_tt _ _) ?_
     have Ho73:=H
     refine Tri.wrote (sp80 (H.draw _)) L (fun _ => rfl) fun v h2 h B hq73 H2 hn73 hl73 eh73 H L => ?_
     obtain ⟨rfl, rfl⟩:=hq73
     apply pT
     have hi2 : i + 1 < s.n:=by omega
     rw [show ((i : Int) + 1).toNat = i + 1 from rfl]
     rw [bts_drop hi2]
     cases h2 : isEnd (s.byte (i + 1)) with
     | false =>
      iterate 8 apply gft
      apply pF
      apply nF
      exact te (ih55 i _ h l (by omega) (by omega) (by simp; omega) (hb1 _ _ hb (by first | exact bts_lt _ _ | decide)) _ (by rw [bts_drop hi2, lns_end h1 (.inl h2)]; simp) H) L
     | true =>
      apply gtt
      apply bS
      apply gtt
      apply bS
      apply gtt
      apply bI
      refine aD (by omega) ?_
      apply bS
      apply gtt
      refine jS (by omega) ?_
      apply bS
      apply gtt
      apply bS
      apply gtt
      apply bS
      apply gtt
      refine jS (by omega) ?_
      apply bS
      apply gtt
      apply bI
      refine Tri.neq ?_ ?_<;>intro e3
      ·apply bS
       apply pT
       apply nT
       refine aD (by omega) ?_
       have e3' : s.byte (i + 1) ≠ s.byte i:=fun c => e3 (congrArg Int.ofNat c)
       exact te (ih55 (i + 1) _ h l (by omega) (by omega) (by simp; omega) (hb1 _ _ hb (by first | exact bts_lt _ _ | decide)) _ (by rw [lns_two h1 h2 e3']; simp) H) L
      ·apply bS
       apply pT
       apply nF
       have e3' : s.byte (i + 1) = s.byte i:=Int.ofNat.inj e3
       exact te (ih55 i _ h l (by omega) (by omega) (by simp; omega) (hb1 _ _ hb (by first | exact bts_lt _ _ | decide)) _ (by rw [bts_drop hi2, lns_end h1 (.inr e3')]; simp) H) L
    ·iterate 4 apply gft
     refine Tri.eqv (guardB_ft _ _) ?_
     apply pF
     iterate 8 apply gft
     apply pF
     apply nF
     rw [bts_end (show s.n ≤ i + 1 by omega)]
     exact te (ih55 i _ h l (by omega) (by omega) (by simp; omega) (hb1 _ _ hb (by first | exact bts_lt _ _ | decide)) _ (by rw [bts_end (show s.n ≤ i + 1 by omega)]; simp [lns, h1]) H) L
  ·apply nF
   refine Mid.tb (sp146 (by first|assumption|omega|rfl|(dsimp;omega)) (by first|assumption|omega|rfl|(dsimp;omega)) H) L fun v h B hq1 H L => ?_
   obtain ⟨z1, nz1, ez1, rfl, rfl⟩:=hq1
   rw [bts_end (by omega), show lns [] = [] from rfl, List.append_nil]
   exact Tri.done (B:=[]) ⟨_, by assumption, by assumption, rfl, rfl⟩ H L
theorem sp156 {s : Bs} (hs : s.n ≤ 70000) (H : St l h) : Tri h false l (rText (lns (bts s))) (M 156 [.str s] h):=by
 refine t1 e156 fun L => ?_
 unfold B156
 refine newB H L fun b h hb H L => ?_
 exact te (lines_ok hs _ 0 [] h l (Nat.le_refl _) (by omega) (Nat.le_refl _) (fun b hb => nomatch hb) H) L
def trp (y x : List Nat) : List Nat:=if y.isPrefixOf x then x.drop y.length else x
theorem trp_le (y x : List Nat) : (trp y x).length ≤ x.length:=by unfold trp; split <;> simp
theorem sp218 {x y : Bs} (hx : x.n ≤ 70000) (hy : y.n ≤ 70000) (H : St l h) : Tri h true l (rText (trp (bts y) (bts x))) (M 218 [.str x, .str y] h):=by
 refine t2 e218 fun L => ?_
 unfold B218
 unfold trp
 refine tbe1 (sp172 (by first|assumption|omega|rfl|(dsimp;omega)) (by first|assumption|omega|rfl|(dsimp;omega)) H) L fun h H L => ?_
 cases hp : (bts y).isPrefixOf (bts x) with
 | true =>
  have : y.n ≤ x.n:=by
   rw [pfx_take, decide_eq_true_iff, bts_len, bts_len] at hp; exact hp.1
  apply nT
  apply lS
  refine Tri.cutLo (by omega) (by omega) fun z24 nz24 ez24 => ?_
  have e1 : bts z24 = (bts x).drop y.n:=ez24
  refine Tri.done (B:=[]) ⟨z24, ?_, ?_, rfl, rfl⟩ H L
  ·rw [← bts_len, e1, if_pos rfl, bts_len]
  ·rw [e1, if_pos rfl, bts_len]
 | false =>
  apply nF
  exact Tri.done (B:=[]) ⟨_, (bts_len _).symm, rfl, rfl, rfl⟩ H L
theorem sp154 {x y : Bs} (hx : x.n ≤ 70000) (hy : y.n ≤ 70000) (H : St l h) : Tri h true l (rText (trp (bts y) (bts x))) (M 154 [.str x, .str y] h):=by
 refine t2 e154 fun L => ?_
 unfold B154
 refine tb1 (sp218 (by first|assumption|omega|rfl|(dsimp;omega)) (by first|assumption|omega|rfl|(dsimp;omega)) H) L fun v h B hq0 H L => ?_
 obtain ⟨z0, nz0, ez0, rfl, rfl⟩:=hq0
 exact Tri.done (B:=[]) ⟨_, by assumption, by assumption, rfl, rfl⟩ H L
def eqn (L : List Nat) : Nat:=L.length - (L.dropWhile (· == 61)).length
theorem eqn_le (L : List Nat) : eqn L ≤ L.length:=Nat.sub_le _ _
theorem map_dropWhile (l : List UInt8) : (l.dropWhile (· == 61)).map UInt8.toNat = (l.map UInt8.toNat).dropWhile (· == 61):=by
 induction l with
 | nil => rfl
 | cons a l ih =>
  rw [List.map_cons, List.dropWhile_cons, List.dropWhile_cons]
  have : ((a == 61) : Bool) = (a.toNat == 61):=by
   rw [Bool.eq_iff_iff, beq_iff_eq, beq_iff_eq]
   exact ⟨fun h => by rw [h]; rfl, fun h => UInt8.toNat_inj.1 h⟩
  rw [this]
  split
  ·exact ih
  ·rw [List.map_cons]
theorem sp152 {s : Bs} (H : St l h) : Tri h true l (rText ((bts s).dropWhile (· == 61))) (M 152 [.str s, .str ⟨1, 61⟩] h):=by
 have e : M 152 [.str s, .str ⟨1, 61⟩] h = some (.str (pack (Lib.trimLeftB s.l 61)), h):=by
  refine (@lim_F Tryz.prog (orc fnA Inv) labs 76 _ _ _).2 ⟨0, ?_⟩
  rfl
 rw [e]
 have e2 : bts (pack (Lib.trimLeftB s.l 61)) = (bts s).dropWhile (· == 61):=by rw [bts_pack]; exact map_dropWhile _
 exact Tri.done (B:=[]) ⟨_, by rw [← e2, bts_len], e2, rfl, rfl⟩ H (Lo.refl _ _)
def ixo (x y : List Nat) : Option Nat:=idxB (x.map UInt8.ofNat) (y.map UInt8.ofNat) 0
theorem preB_le : ∀ (y x : List UInt8), preB y x = true → y.length ≤ x.length
 | [], _, _ => Nat.zero_le _
 | _ :: _, [], h => nomatch h
 | a :: y, b :: x, h => by
  unfold preB at h
  cases hb : Nat.beq a.toNat b.toNat with
  | false => rw [hb] at h; cases h
  | true =>
   rw [hb] at h
   have:=preB_le y x h
   simp only [List.length_cons]; omega
theorem idxB_le : ∀ (x y : List UInt8) (k j : Nat), idxB x y k = some j → k ≤ j ∧ (j - k) + y.length ≤ x.length
 | [], y, k, j, h => by
  unfold idxB at h
  cases hp : preB y [] with
  | false => rw [hp] at h; cases h
  | true =>
   rw [hp] at h
   cases h
   have:=preB_le _ _ hp
   exact ⟨Nat.le_refl _, by rw [Nat.sub_self, Nat.zero_add]; exact this⟩
 | a :: x, y, k, j, h => by
  unfold idxB at h
  cases hp : preB y (a :: x) with
  | true =>
   rw [hp] at h
   cases h
   have:=preB_le _ _ hp
   exact ⟨Nat.le_refl _, by rw [Nat.sub_self, Nat.zero_add]; exact this⟩
  | false =>
   rw [hp] at h
   have:=idxB_le x y (k + 1) j h
   simp only [List.length_cons]; omega
theorem ixo_le {x y : List Nat} {j : Nat} (h : ixo x y = some j) : j + y.length ≤ x.length:=by
 have:=idxB_le _ _ _ _ h
 simp only [List.length_map] at this; omega
theorem sp106 {s t : Bs} (hs : s.n ≤ 70000) (H : St l h) : Tri h true l (rNo (.int .i64 (idxV (ixo (bts s) (bts t))))) (M 106 [.str s, .str t] h):=by
 have e : M 106 [.str s, .str t] h = some (.int .i64 (idxV (ixo (bts s) (bts t))), h):=by
  refine (@lim_F Tryz.prog (orc fnA Inv) labs 53 _ _ _).2 ⟨0, ?_⟩
  have hd : indexF [.str s, .str t] h = some (.int .i64 (idxV (ixo (bts s) (bts t))), h):=by
   show (bif Nat.ble s.l.length 2147483648 then some (V.int .i64 (idxV (idxB s.l t.l 0)), h) else none) = _
   rw [show Nat.ble s.l.length 2147483648 = true from Nat.ble_eq_true_of_le (by rw [Bs.l_len]; omega), ixo, ← l_bts, ← l_bts]; rfl
  show enterO Tryz.prog _ h 53 _ (indexF [.str s, .str t] h) = _
  rw [hd]
  rfl
 rw [e]
 exact Tri.done (B:=[]) ⟨rfl, rfl⟩ H (Lo.refl _ _)
theorem Tri.mulN {m n : Int} (h1 : -9223372036854775808 ≤ m * n) (h2 : m * n ≤ 9223372036854775807) (hk : Tri h0 ro F Q (k (.int .i64 (m * n)))) : Tri h0 ro F Q (intS .mul (.int .i64 m) (.int .i64 n) k):=by
 rw [intS_at, int_mul, Mid.i64_of h1 h2]; exact hk
def lng (L : List Nat) : List Nat × Nat × Bool :=
 if [91].isPrefixOf L = false then ([], 0, false)
 else if [91].isPrefixOf (L.drop (1 + eqn (L.drop 1))) = false then ([], 0, false)
 else match ixo (L.drop (eqn (L.drop 1) + 2)) (93 :: ((L.drop 1).take (eqn (L.drop 1)) ++ [93])) with
  | none => ([], 0, true)
  | some k => (trp [10] (lns ((L.drop (eqn (L.drop 1) + 2)).take k)), k + 2 * (eqn (L.drop 1) + 2), true)
def rLng (rb : Nat) (c : List V) (x : List Nat × Nat × Bool) : V → List Asn → Prop:=fun w B => ∃ z : Bs, z.n = x.1.length ∧ bts z = x.1 ∧ w = .tuple [.str z, .int .i64 (x.2.1 : Nat), .bool x.2.2] ∧ B = [Mid.row rb c]
theorem sp86 {rb : Nat} {s : Bs} {a ln fr : Nat} {sv : V} (hs : s.n ≤ 70000) (ha : a + fr ≤ s.n) (H : St (Mid.row rb (rc s a ln sv) :: l) h) :
 Tri h false l (rLng rb (rc s a ln sv) (lng ((bts s).drop (a + fr)))) (M 86 [.ptr rb 0, .int .i64 (fr : Int)] h):=by
 refine t2 e86 fun L => ?_
 unfold B86
 refine nal 0 H rfl rfl ?_
 refine nal 0 H rfl rfl ?_
 refine aD (by omega) ?_
 refine Tri.cutLo (by omega) (by omega) fun z7 nz7 ez7 => ?_
 refine tbe1 (sp104 (by first|assumption|omega|rfl|(dsimp;omega)) (by first|assumption|omega|rfl|(dsimp;omega)) H) L fun h H L => ?_
 refine Tri.not ?_
 have eL : bts z7 = (bts s).drop (a + fr):=ez7
 have nL : z7.n = s.n - (a + fr):=nz7
 rw [eL, show bts ⟨1, 91⟩ = [91] from rfl]
 generalize hG : (bts s).drop (a + fr) = G
 rw [hG] at eL
 have lG : G.length = z7.n:=by rw [← eL, bts_len]
 unfold lng
 cases hp : [91].isPrefixOf G with
 | false =>
  apply nT
  exact Tri.done (B:=[_]) ⟨_, rfl, rfl, rfl, rfl⟩ H L
 | true =>
  have hG0 : 1 ≤ G.length:=by rw [pfx_take, decide_eq_true_iff] at hp; exact hp.1
  apply nF
  refine Tri.cutLo (by omega) (by omega) fun z41 nz41 ez41 => ?_
  apply lS
  refine Tri.cutLo (by omega) (by omega) fun z45 nz45 ez45 => ?_
  have Ho46:=H
  refine Tri.wroteC (sp152 (H.draw _)) L (fun v h2 e => by rw [e]; rfl) fun v h2 h B hq46 H2 hn46 hl46 eh46 H L => ?_
  obtain ⟨z46, nz46, ez46, rfl, rfl⟩:=hq46
  apply lS
  refine Tri.sub ?_
  refine Tri.add ?_
  have e1 : (Int.toNat 1) = 1:=rfl
  rw [e1, eL] at ez41 ez45
  rw [ez45] at nz46
  have n41 : z41.n = (G.drop 1).length:=by rw [← ez41, bts_len]
  have eE : IntKind.i64.wrap ((z41.n : Int) - (z46.n : Int)) = ((eqn (G.drop 1) : Nat) : Int):=by
   have : eqn (G.drop 1) = (G.drop 1).length - ((G.drop 1).dropWhile (· == 61)).length:=rfl
   have hle : ((G.drop 1).dropWhile (· == 61)).length ≤ (G.drop 1).length:=(List.dropWhile_sublist _).length_le
   have h9 : (G.drop 1).length ≤ 70000:=by rw [List.length_drop]; omega
   rw [Mid.i64_of (by omega) (by omega)]; omega
  rw [eE]
  have hE : 1 + eqn (G.drop 1) ≤ G.length:=by have:=eqn_le (G.drop 1); rw [List.length_drop] at this; omega
  generalize eqn (G.drop 1) = E at hE
  have eW : IntKind.i64.wrap (1 + (E : Int)) = ((1 + E : Nat) : Int):=Mid.i64_of (by omega) (by omega)
  rw [eW]
  refine Tri.cutLo (by omega) (by omega) fun z60 nz60 ez60 => ?_
  refine tbe1 (sp104 (by first|assumption|omega|rfl|(dsimp;omega)) (by first|assumption|omega|rfl|(dsimp;omega)) H) L fun h H L => ?_
  refine Tri.not ?_
  have e62 : bts z60 = G.drop (1 + E):=by rw [ez60, eL]; rfl
  rw [e62, show bts ⟨1, 91⟩ = [91] from rfl]
  cases hp2 : [91].isPrefixOf (G.drop (1 + E)) with
  | false =>
   apply nT
   exact Tri.done (B:=[_]) ⟨_, rfl, rfl, rfl, rfl⟩ H L
  | true =>
   have hG1 : 2 + E ≤ G.length:=by rw [pfx_take, decide_eq_true_iff, List.length_drop] at hp2; have:=hp2.1; simp only [List.length_singleton] at this; omega
   apply nF
   refine aD (by omega) ?_
   refine Tri.cutLo (by omega) (by omega) fun z102 nz102 ez102 => ?_
   refine aD (by omega) ?_
   refine cB (by omega) fun z104 nz104 ez104 => ?_
   refine Tri.strCat (by simp only [*]; omega) fun z105 nz105 ez105 => ?_
   refine Tri.strCat (by simp only [*]; omega) fun z106 nz106 ez106 => ?_
   refine tbe1 (sp106 (by first|assumption|omega|rfl|(dsimp;omega)) H) L fun h H L => ?_
   have e102 : bts z102 = G.drop (E + 2):=by rw [ez102, eL]; rfl
   have e106 : bts z106 = 93 :: ((G.drop 1).take E ++ [93]):=by
    rw [ez106, ez105, ez104, eL, show bts ⟨1, 93⟩ = [93] from rfl, show ((1 : Int) + (E : Int)).toNat - Int.toNat 1 = E by omega]; rfl
   rw [e102, e106]
   cases hx : ixo (G.drop (E + 2)) (93 :: ((G.drop 1).take E ++ [93])) with
   | none =>
    refine Tri.lss (fun _ => ?_) (fun e => absurd e (by decide))
    apply nT
    exact Tri.done (B:=[_]) ⟨_, rfl, rfl, rfl, rfl⟩ H L
   | some j =>
    have hj:=ixo_le hx
    rw [List.length_drop] at hj
    simp only [List.length_cons, List.length_append, List.length_take, List.length_drop] at hj
    rw [show idxV (some j) = (j : Int) from rfl]
    refine Tri.lss (fun e => by omega) (fun _ => ?_)
    apply nF
    refine Tri.cutHi (by omega) (by omega) fun z141 nz141 ez141 => ?_
    refine Mid.tb (sp156 (by first|assumption|omega|rfl|(dsimp;omega)) H) L fun v h B hq142 H L => ?_
    obtain ⟨z142, nz142, ez142, rfl, rfl⟩:=hq142
    have e141 : bts z141 = (G.drop (E + 2)).take j:=by rw [ez141, e102]; rfl
    have l142:=lns_le _ (bts z141) (Nat.le_refl _)
    rw [bts_len] at l142
    have l141 : z141.n = j:=nz141
    refine tb1 (sp154 (by first|assumption|omega|rfl|(dsimp;omega)) (by first|assumption|omega|rfl|(dsimp;omega)) H) L fun v h B hq160 H L => ?_
    obtain ⟨z160, nz160, ez160, rfl, rfl⟩:=hq160
    refine aD (by omega) ?_
    refine Tri.mulN (by omega) (by omega) ?_
    refine aD (by omega) ?_
    refine Tri.done (B:=[_]) ⟨_, ?_, ?_, rfl, rfl⟩ H L
    ·rw [nz160, ez142, e141]; rfl
    ·rw [ez160, ez142, e141]; rfl
theorem lng_le (L : List Nat) (h : (lng L).2.2 = true) : (lng L).2.1 ≤ L.length:=by
 unfold lng at h ⊢
 split
 ·exact Nat.zero_le _
 ·split
  ·exact Nat.zero_le _
  ·cases hx : ixo (L.drop (eqn (L.drop 1) + 2)) (93 :: ((L.drop 1).take (eqn (L.drop 1)) ++ [93])) with
   | none => exact Nat.zero_le _
   | some k =>
    have hj:=ixo_le hx
    have h2:=eqn_le (L.drop 1)
    simp only [List.length_cons, List.length_append, List.length_take, List.length_drop] at hj h2
    show k + 2 * (eqn (L.drop 1) + 2) ≤ _
    omega
theorem lnc_le : ∀ (m : Nat) (L : List Nat), L.length ≤ m → lnc L ≤ L.length
 | _, [], _ => Nat.le_refl 0
 | _, [b], _ => by simp only [lnc, List.length_singleton]; split <;> omega
 | 0, b :: c :: r, h => by simp at h
 | m + 1, b :: c :: r, h => by
  simp only [List.length_cons] at h
  have h1:=lnc_le m (c :: r) (by simp only [List.length_cons]; omega)
  have h2:=lnc_le m r (by omega)
  simp only [List.length_cons] at h1
  simp only [lnc]
  split
  ·split <;> simp only [List.length_cons] <;> omega
  ·simp only [List.length_cons]; omega
theorem seg_len {s : Bs} {a b : Nat} (hb : b ≤ s.n) : (seg s a b).length = b - a:=by rw [seg, List.length_take, List.length_drop, bts_len]; omega
def nt (L : List Nat) : Bool × Int × Nat :=
 if [45, 45].isPrefixOf L then
  (if (lng (L.drop 2)).2.2 then (if (lng (L.drop 2)).2.1 = 0 then (true, 30, 0) else (true, 0, (lng (L.drop 2)).2.1 + 2))
  else (true, 0, cnt (fun b => !isEnd b) L))
 else (false, 0, 0)
theorem nt_le (L : List Nat) : (nt L).2.2 ≤ L.length:=by
 unfold nt
 cases hp : [45, 45].isPrefixOf L with
 | false => exact Nat.zero_le _
 | true =>
  have h2 : 2 ≤ L.length:=by rw [pfx_take, decide_eq_true_iff] at hp; exact hp.1
  rw [if_pos rfl]
  split
  ·rename_i hx
   split
   ·exact Nat.zero_le _
   ·have := lng_le _ hx
    rw [List.length_drop] at this
    show _ + 2 ≤ _
    omega
  ·exact cnt_le _ _
def rNt (rb : Nat) (c : List V) (x : Bool × Int × Nat) : V → List Asn → Prop:=fun w B => w = .tuple [.bool x.1, .int .i64 x.2.1] ∧ B = [Mid.row rb c]
theorem sp54 {rb : Nat} {s : Bs} {a ln : Nat} {sv : V} (hs : s.n ≤ 70000) (ha : a ≤ s.n) (hln : ln ≤ 1000000 + a) (H : St (Mid.row rb (rc s a ln sv) :: l) h) :
 Tri h false l (rNt rb (rc s (a + (nt ((bts s).drop a)).2.2) (ln + lnc (seg s a (a + (nt ((bts s).drop a)).2.2))) sv) (nt ((bts s).drop a))) (M 54 [.ptr rb 0] h):=by
 refine t1 e54 fun L => ?_
 unfold B54
 have hle:=nt_le ((bts s).drop a)
 rw [List.length_drop, bts_len] at hle
 have ih27 : ∀ (c : List V) (h : Hp), St (Mid.row rb c :: l) h → Tri h false l (rNt rb c (true, 0, 0)) (M 27 [] h):=by
  intro c h H
  refine t0 e27 fun L => ?_
  unfold B27
  exact Tri.done (B:=[_]) ⟨rfl, rfl⟩ H L
 have ih50:=fun (h : Hp) (l : List Asn) (H : St (Mid.row rb (rc s a ln sv) :: l) h) => f50 (rb:=rb) (fr:=0) (g:=.func 44 [] []) (p:=fun b => !isEnd b) (fun b h l _ H => sp88 H) hs (by omega) (by omega) H
 rw [Nat.add_zero] at ih50
 generalize hX : nt ((bts s).drop a) = X at hle ⊢
 have e2 : ((bts s).drop a).drop 2 = (bts s).drop (a + 2):=List.drop_drop
 unfold nt at hX
 rw [e2] at hX
 have hz : seg s a (a + 0) = []:=seg_nil s a
 refine tbe1 (sp84 (by first|assumption|omega|rfl|(dsimp;omega)) (by first|assumption|omega|rfl|(dsimp;omega)) (by first|assumption|omega|rfl|(dsimp;omega)) H) L fun h H L => ?_
 refine Tri.not ?_
 rw [show bts ⟨2, 11565⟩ = [45, 45] from rfl]
 cases hp : [45, 45].isPrefixOf ((bts s).drop a) with
 | false =>
  rw [hp] at hX
  obtain rfl : (false, 0, 0) = X:=hX
  apply nT
  rw [show ln + lnc (seg s a (a + 0)) = ln by rw [hz]; rfl]
  exact Tri.done (B:=[_]) ⟨rfl, rfl⟩ H L
 | true =>
  have h2 : a + 2 ≤ s.n:=by rw [pfx_take, decide_eq_true_iff, List.length_drop, bts_len] at hp; have:=hp.1; simp only [List.length_cons, List.length_nil] at this; omega
  rw [hp, if_pos rfl] at hX
  apply nF
  refine Mid.tb (sp86 (by first|assumption|omega|rfl|(dsimp;omega)) (by first|assumption|omega|rfl|(dsimp;omega)) H) L fun v h B hq41 H L => ?_
  obtain ⟨z41, nz41, ez41, rfl, rfl⟩:=hq41
  refine Tri.ext rfl ?_
  refine Tri.ext rfl ?_
  refine Tri.ext rfl ?_
  generalize hy : lng ((bts s).drop (a + 2)) = y at hX
  obtain ⟨y1, y2, y3⟩:=y
  have y2n:=lng_le ((bts s).drop (a + 2))
  rw [hy, List.length_drop, bts_len] at y2n
  dsimp only at hX y2n ⊢
  cases y3 with
  | true =>
   have:=y2n rfl
   rw [if_pos rfl] at hX
   apply gtt
   apply bI
   refine Tri.eql ?_ ?_<;>intro e
   ·rw [if_pos (show y2 = 0 by omega)] at hX
    obtain rfl : (true, 30, 0) = X:=hX
    apply bS
    apply pT
    apply nT
    rw [show ln + lnc (seg s a (a + 0)) = ln by rw [hz]; rfl]
    exact Tri.done (B:=[_]) ⟨rfl, rfl⟩ H L
   ·rw [if_neg (show ¬ y2 = 0 by omega)] at hX
    obtain rfl : (true, 0, y2 + 2) = X:=hX
    apply bS
    apply pT
    apply nF
    apply nT
    refine aD (by omega) ?_
    refine tbe (sp48 (by first|assumption|omega|rfl|(dsimp;omega)) (by first|assumption|omega|rfl|(dsimp;omega)) (by first|assumption|omega|rfl|(dsimp;omega)) H) L fun h H L => ?_
    refine te (ih27 _ _ H) L
  | false =>
   rw [if_neg (by decide)] at hX
   subst hX
   dsimp only at hle ⊢
   apply gft
   apply pF
   apply nF
   apply nF
   refine tbe1 (ih50 _ _ H) L fun h H L => ?_
   refine tbe (sp48 (by first|assumption|omega|rfl|(dsimp;omega)) (by first|assumption|omega|rfl|(dsimp;omega)) (by first|assumption|omega|rfl|(dsimp;omega)) H) L fun h H L => ?_
   refine te (ih27 _ _ H) L
end
end Go.LB
end
