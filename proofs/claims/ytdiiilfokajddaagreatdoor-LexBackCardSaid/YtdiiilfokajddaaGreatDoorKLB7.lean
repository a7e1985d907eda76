/- A part of the proof. -/
import Derived.Test.YtdiiilfokajddaaGreatDoorKLB0
set_option linter.all false
set_option warn.classDefReducibility false
noncomputable section
section
open Go Go.Mid Go.Proofs
set_option maxRecDepth 100000
namespace Go.LB
section
variable {l F : List Asn} {h h0 : Hp} {ro : Bool} {Q : V → List Asn → Prop} {k : V → VH} {K : V → Hp → VH} {v lV : V} {i j n : Nat}
def esc (R : List Nat) : Nat :=
 if R.head? = some 122 then 1 + cnt isSp (R.drop 1)
 else if (R.head?.any isEnd && (R.drop 1).head?.any isEnd && (R.drop 1).head? != R.head?) then 2 else 1
theorem esc_le {R : List Nat} (h : R ≠ []) : esc R ≤ R.length:=by
 cases R with
 | nil => exact absurd rfl h
 | cons b r =>
  unfold esc
  simp only [List.head?_cons, List.drop_succ_cons, List.drop_zero, List.length_cons]
  split
  ·have := cnt_le isSp r; omega
  ·split
   ·rename_i hx
    cases r with
    | nil => simp at hx
    | cons c r => simp only [List.length_cons]; omega
   ·omega
theorem sp168 {rb : Nat} {s : Bs} {a ln n : Nat} {sv : V} (hs : s.n ≤ 70000) (ha : a + n < s.n) (H : St (Mid.row rb (rc s a ln sv) :: l) h) :
 Tri h true l (rRd rb (rc s a ln sv) (.int .i64 (esc ((bts s).drop (a + n)) : Nat))) (M 168 [.ptr rb 0, .int .i64 (n : Int)] h):=by
 refine t2 e168 fun L => ?_
 unfold B168
 have ih50:=fun (h : Hp) (l : List Asn) (H : St (Mid.row rb (rc s a ln sv) :: l) h) => f50 (rb:=rb) (fr:=n + 1) (g:=.func 26 [] []) (p:=isSp) (fun b h l _ H => sp52 H) hs (by omega) (by omega) H
 rw [bts_drop ha]
 unfold esc
 simp only [List.head?_cons, List.drop_succ_cons, List.drop_zero, Option.any_some]
 refine nal 0 H rfl rfl ?_
 refine nal 0 H rfl rfl ?_
 refine aD (by omega) ?_
 refine iS (by omega) ?_
 refine Tri.eql ?_ ?_<;>intro e
 ·rw [if_pos (by rw [show s.byte (a + n) = 122 from Int.ofNat.inj e])]
  have hc:=cnt_le isSp ((bts s).drop (a + (n + 1)))
  rw [List.length_drop, bts_len] at hc
  apply nT
  refine aD (by omega) ?_
  refine tbe1 (ih50 _ _ H) L fun h H L => ?_
  refine aD (by omega) ?_
  exact Tri.done (B:=[_]) ⟨rfl, rfl⟩ H L
 ·rw [if_neg (fun c => e (by rw [show ((a : Int) + (n : Int)).toNat = a + n from rfl, Option.some.inj c]; rfl))]
  apply nF
  have Ho41:=H
  refine Tri.wrote (sp80 (H.draw _)) L (fun _ => rfl) fun v h2 h B hq41 H2 hn41 hl41 eh41 H L => ?_
  obtain ⟨rfl, rfl⟩:=hq41
  rw [show ((a : Int) + (n : Int)).toNat = a + n from rfl]
  cases h1 : isEnd (s.byte (a + n)) with
  | false =>
   iterate 13 apply gft
   apply pF
   iterate 12 apply gft
   refine Tri.eqv (guardB_ft _ _) ?_
   apply pF
   iterate 14 apply gft
   apply pF
   apply nF
   rw [if_neg (by simp)]
   exact Tri.done (B:=[_]) ⟨rfl, rfl⟩ H L
  | true =>
   apply gtt
   apply bS
   apply gtt
   refine Tri.eqv (bind_nilS _ _) ?_
   apply nl
   apply bS
   apply gtt
   apply ba
   apply bS
   apply gtt
   refine bl 0 H rfl rfl ?_
   apply bS
   apply gtt
   apply bS
   apply gtt
   apply bI
   refine aD (by omega) ?_
   apply bS
   apply gtt
   apply bI
   refine aD (by omega) ?_
   apply bS
   apply gtt
   apply bS
   apply gtt
   refine Tri.eqv (bind_nilS _ _) ?_
   apply nl
   apply bS
   apply gtt
   apply ba
   apply bS
   apply gtt
   refine bl 0 H rfl rfl ?_
   apply bS
   apply gtt
   apply Mid.bB
   apply lS
   apply bS
   apply gtt
   apply bI
   refine Tri.lss ?_ ?_<;>intro e2
   ·apply bS
    apply pT
    apply gtt
    apply bS
    apply gtt
    refine Tri.eqv (bind_nilS _ _) ?_
    apply nl
    apply bS
    apply gtt
    apply ba
    apply bS
    apply gtt
    refine bl 0 H rfl rfl ?_
    apply bS
    apply gtt
    apply bS
    apply gtt
    refine Tri.eqv (bind_nilS _ _) ?_
    apply nl
    apply bS
    apply gtt
    apply ba
    apply bS
    apply gtt
    refine bl 0 H rfl rfl ?_
    apply bS
    apply gtt
    apply bS
    apply gtt
    apply bI
    refine aD (by omega) ?_
    apply bS
    apply gtt
    apply bI
    refine aD (by omega) ?_
    apply bS
    apply gtt
    refine jS (by omega) ?_
    apply bS
    refine Tri.eqv (guardB_tt _ _) ?_
    have Ho125:=H
    refine Tri.wrote (sp80 (H.draw _)) L (fun _ => rfl) fun v h2 h B hq125 H2 hn125 hl125 eh125 H L => ?_
    obtain ⟨rfl, rfl⟩:=hq125
    apply pT
    rw [show ((a : Int) + (n : Int) + 1).toNat = a + n + 1 from rfl, bts_drop (show a + n + 1 < s.n by omega)]
    cases h2 : isEnd (s.byte (a + n + 1)) with
    | false =>
     iterate 14 apply gft
     apply pF
     apply nF
     rw [if_neg (by simp [h2])]
     exact Tri.done (B:=[_]) ⟨rfl, rfl⟩ H L
    | true =>
     apply gtt
     apply bS
     apply gtt
     refine Tri.eqv (bind_nilS _ _) ?_
     apply nl
     apply bS
     apply gtt
     apply ba
     apply bS
     apply gtt
     refine bl 0 H rfl rfl ?_
     apply bS
     apply gtt
     apply bS
     apply gtt
     refine Tri.eqv (bind_nilS _ _) ?_
     apply nl
     apply bS
     apply gtt
     apply ba
     apply bS
     apply gtt
     refine bl 0 H rfl rfl ?_
     apply bS
     apply gtt
     apply bS
     apply gtt
     apply bI
     refine aD (by omega) ?_
     apply bS
     apply gtt
     apply bI
     refine aD (by omega) ?_
     apply bS
     apply gtt
     refine jS (by omega) ?_
     apply bS
     apply gtt
     apply bS
     apply gtt
     apply bI
     refine Tri.neq ?_ ?_<;>intro e3
     ·apply bS
      apply pT
      apply nT
      rw [if_pos (by simp [h2]; exact fun c => e3 (congrArg Int.ofNat c))]
      exact Tri.done (B:=[_]) ⟨rfl, rfl⟩ H L
     ·apply bS
      apply pT
      apply nF
      rw [if_neg (by simp [h2]; exact Int.ofNat.inj e3)]
      exact Tri.done (B:=[_]) ⟨rfl, rfl⟩ H L
   ·apply bS
    apply pT
    iterate 12 apply gft
    refine Tri.eqv (guardB_ft _ _) ?_
    apply pF
    iterate 14 apply gft
    apply pF
    apply nF
    rw [bts_end (show s.n ≤ a + n + 1 by omega), if_neg (by simp)]
    exact Tri.done (B:=[_]) ⟨rfl, rfl⟩ H L
def qtd : Nat → Nat → List Nat → Nat → Nat
 | 0, _, _, _ => 0
 | _ + 1, _, [], _ => 0
 | f + 1, q, b :: r, n => if b = q then n + 1 else if isEnd b then 0 else if b = 92 ∧ r ≠ [] then qtd f q (r.drop (esc r)) (n + 1 + esc r) else qtd f q r (n + 1)
theorem qtd_le : ∀ (f q : Nat) (R : List Nat) (n : Nat), qtd f q R n ≤ n + R.length
 | 0, _, _, _ => Nat.zero_le _
 | _ + 1, _, [], _ => Nat.zero_le _
 | f + 1, q, b :: r, n => by
  rw [qtd, List.length_cons]
  split
  ·omega
  ·split
   ·exact Nat.zero_le _
   ·split
    ·rename_i h
     have h1:=qtd_le f q (r.drop (esc r)) (n + 1 + esc r)
     have h2:=esc_le h.2
     rw [List.length_drop] at h1
     omega
    ·have := qtd_le f q r (n + 1); omega
theorem quoted_ok {rb : Nat} {s : Bs} {a ln : Nat} {sv : V} (hs : s.n ≤ 70000) (ha : a < s.n) : ∀ (f n : Nat) (h : Hp) (l : List Asn), s.n - (a + n) < f → 1 ≤ n → a + n ≤ s.n → St (Mid.row rb (rc s a ln sv) :: l) h →
 Tri h true l (rRd rb (rc s a ln sv) (.int .i64 (qtd f (s.byte a) ((bts s).drop (a + n)) n : Nat))) (M 35 [.ptr rb 0, .int .i64 (n : Int)] h):=by
 intro f
 induction f with
 | zero => intro n h l hf; omega
 | succ f ih =>
  intro n h l hf hn hle H
  have ih37 : ∀ (n : Nat) (h : Hp) (l : List Asn), s.n - (a + (n + 1)) < f → 1 ≤ n → a + n + 1 ≤ s.n → St (Mid.row rb (rc s a ln sv) :: l) h →
   Tri h true l (rRd rb (rc s a ln sv) (.int .i64 (qtd f (s.byte a) ((bts s).drop (a + (n + 1))) (n + 1) : Nat))) (M 37 [.ptr rb 0, .int .i64 (n : Int)] h):=by
   intro n h l hf hn hle H
   refine t2 e37 fun L => ?_
   unfold B37
   refine aD (by omega) ?_
   exact te (ih (n + 1) h l hf (by omega) hle H) L
  refine t2 e35 fun L => ?_
  unfold B35
  refine nal 0 H rfl rfl ?_
  refine aD (by omega) ?_
  refine nal 0 H rfl rfl ?_
  apply lS
  refine Tri.lss ?_ ?_<;>intro e
  ·have hlt : a + n < s.n := by omega
   apply nT
   refine nal 0 H rfl rfl ?_
   refine nal 0 H rfl rfl ?_
   refine aD (by omega) ?_
   refine iS (by omega) ?_
   refine nal 0 H rfl rfl ?_
   refine nal 0 H rfl rfl ?_
   refine iS (by omega) ?_
   rw [bts_drop hlt, qtd, show ((a : Int) + (n : Int)).toNat = a + n from rfl, show ((a : Int)).toNat = a from rfl]
   refine Tri.eql ?_ ?_<;>intro e
   ·rw [if_pos (Int.ofNat.inj e)]
    apply nT
    refine aD (by omega) ?_
    exact Tri.done (B:=[_]) ⟨rfl, rfl⟩ H L
   ·rw [if_neg (fun c => e (congrArg Int.ofNat c))]
    apply nF
    refine tbe1 (sp80 H) L fun h H L => ?_
    cases h1 : isEnd (s.byte (a + n)) with
    | true =>
     apply nT
     exact Tri.done (B:=[_]) ⟨rfl, rfl⟩ H L
    | false =>
     apply nF
     rw [if_neg (by decide)]
     refine Tri.eql ?_ ?_<;>intro e2
     ·apply gtt
      apply bS
      apply gtt
      refine Tri.eqv (bind_nilS _ _) ?_
      apply nl
      apply bS
      apply gtt
      apply ba
      apply bS
      apply gtt
      refine bl 0 H rfl rfl ?_
      apply bS
      apply gtt
      apply bS
      apply gtt
      apply bI
      refine aD (by omega) ?_
      apply bS
      apply gtt
      apply bI
      refine aD (by omega) ?_
      apply bS
      apply gtt
      apply bS
      apply gtt
      refine Tri.eqv (bind_nilS _ _) ?_
      apply nl
      apply bS
      apply gtt
      apply ba
      apply bS
      apply gtt
      refine bl 0 H rfl rfl ?_
      apply bS
      apply gtt
      apply Mid.bB
      apply lS
      apply bS
      apply gtt
      apply bI
      refine Tri.lss ?_ ?_<;>intro e3
      ·have hne : (bts s).drop (a + n + 1) ≠ [] := by rw [bts_drop (show a + n + 1 < s.n by omega)]; exact List.cons_ne_nil _ _
       rw [if_pos ⟨Int.ofNat.inj e2, hne⟩]
       have he:=esc_le (R:=(bts s).drop (a + (n + 1))) hne
       rw [List.length_drop, bts_len] at he
       have hX : qtd f (s.byte a) (((bts s).drop (a + n + 1)).drop (esc ((bts s).drop (a + n + 1)))) (n + 1 + esc ((bts s).drop (a + n + 1))) = qtd f (s.byte a) ((bts s).drop (a + (n + esc ((bts s).drop (a + (n + 1))) + 1))) (n + esc ((bts s).drop (a + (n + 1))) + 1):=by
        show qtd f (s.byte a) (((bts s).drop (a + (n + 1))).drop (esc ((bts s).drop (a + (n + 1))))) (n + 1 + esc ((bts s).drop (a + (n + 1)))) = _
        generalize esc ((bts s).drop (a + (n + 1))) = E
        rw [List.drop_drop, show a + (n + 1) + E = a + (n + E + 1) by omega, show n + 1 + E = n + E + 1 by omega]
       rw [hX]
       generalize he2 : esc ((bts s).drop (a + (n + 1))) = E at he ⊢
       have ih168:=fun (h : Hp) (l : List Asn) (H : St (Mid.row rb (rc s a ln sv) :: l) h) => sp168 (n:=n + 1) hs (by omega) H
       rw [he2] at ih168
       have ihx:=@ih37
       clear ih37
       apply bS
       apply pT
       apply nT
       refine aD (by omega) ?_
       refine tbe1 (ih168 _ _ H) L fun h H L => ?_
       refine aD (by omega) ?_
       exact te (ihx (n + E) h l (by omega) (by omega) (by omega) H) L
      ·rw [if_neg (fun c => c.2 (bts_end (by omega)))]
       apply bS
       apply pT
       apply nF
       refine te1 (ih37 _ _ _ (by first|assumption|omega|rfl|(dsimp;omega)) (by first|assumption|omega|rfl|(dsimp;omega)) (by first|assumption|omega|rfl|(dsimp;omega)) H) L
     ·rw [if_neg (fun c => e2 (congrArg Int.ofNat c.1))]
      iterate 13 apply gft
      apply pF
      apply nF
      refine te1 (ih37 _ _ _ (by first|assumption|omega|rfl|(dsimp;omega)) (by first|assumption|omega|rfl|(dsimp;omega)) (by first|assumption|omega|rfl|(dsimp;omega)) H) L
  ·apply nF
   rw [bts_end (show s.n ≤ a + n by omega), qtd]
   exact Tri.done (B:=[_]) ⟨rfl, rfl⟩ H L
def quo (L : List Nat) : Nat:=qtd L.length (L.headD 0) (L.drop 1) 1
theorem quo_le (L : List Nat) (h : L ≠ []) : quo L ≤ L.length:=by
 have:=qtd_le L.length (L.headD 0) (L.drop 1) 1
 have h1:=List.length_pos_iff.2 h
 rw [List.length_drop] at this
 unfold quo; omega
theorem sp100 {rb : Nat} {s : Bs} {a ln : Nat} {sv : V} (hs : s.n ≤ 70000) (ha : a < s.n) (H : St (Mid.row rb (rc s a ln sv) :: l) h) :
 Tri h true l (rRd rb (rc s a ln sv) (.int .i64 (quo ((bts s).drop a) : Nat))) (M 100 [.ptr rb 0] h):=by
 refine t1 e100 fun L => ?_
 unfold B100
 have e : quo ((bts s).drop a) = qtd (s.n - a) (s.byte a) ((bts s).drop (a + 1)) 1:=by
  unfold quo
  rw [List.length_drop, bts_len, List.drop_drop, bts_drop ha]; rfl
 rw [e]
 exact te (quoted_ok hs ha (s.n - a) 1 h l (by omega) (Nat.le_refl _) (by omega) H) L
def hasc (z : Bs) (c : Nat) : Bool:=decide (0 ≤ idxV (ixB z.l c 0))
theorem sp160 {z : Bs} {c : Nat} (hc : c < 256) (H : St l h) : Tri h true l (rNo (.int .i64 (idxV (ixB z.l c 0)))) (M 160 [.str z, .int .u8 (c : Int)] h):=by
 have e : M 160 [.str z, .int .u8 (c : Int)] h = some (.int .i64 (idxV (ixB z.l c 0)), h):=by
  refine (@lim_F Tryz.prog (orc fnA Inv) labs 80 _ _ _).2 ⟨0, ?_⟩
  have hd : indexByteF [.str z, .int .u8 (c : Int)] h = some (.int .i64 (idxV (ixB z.l c 0)), h):=by
   show (bif Nat.blt c 256 then some (V.int .i64 (idxV (ixB z.l c 0)), h) else none) = _
   rw [show Nat.blt c 256 = true from Nat.ble_eq_true_of_le hc]; rfl
  show enterO Tryz.prog _ h 80 _ (indexByteF [.str z, .int .u8 (c : Int)] h) = _
  rw [hd]
  rfl
 rw [e]
 exact Tri.done (B:=[]) ⟨rfl, rfl⟩ H (Lo.refl _ _)
def nstep (pz : Bs) (s b : Nat) : Bool × Nat:=(isDg b || isLt b || b == 46 || ((b == 43 || b == 45) && hasc pz s), b)
def NA (pb lb : Nat) (pz : Bs) (s : Nat) : Asn:=fun f => s < 256 ∧ ands [Mid.row pb [.str pz], Mid.row lb [.int .u8 (s : Int)]] f
theorem asks_num {pb lb : Nat} {pz : Bs} {s b : Nat} (hb : b < 256) (H : St (NA pb lb pz s :: l) h) : Tri h false l (fun w B => w = .bool (nstep pz s b).1 ∧ B = [NA pb lb pz b]) (M 158 [.int .u8 (b : Int), .ptr pb 0, .ptr lb 0] h):=by
 refine t3 e158 fun L => ?_
 unfold B158
 obtain ⟨hs, H⟩:=H.pure
 replace H : St (Mid.row pb [.str pz] :: Mid.row lb [.int .u8 (s : Int)] :: l) h:=H.app
 have fin : ∀ {h : Hp}, St (Mid.row pb [.str pz] :: Mid.row lb [.int .u8 (b : Int)] :: l) h → St ([NA pb lb pz b] ++ l) h:=fun H => (St.pack (l:=[Mid.row pb [.str pz], Mid.row lb [.int .u8 (b : Int)]]) H).imp0 fun f hf => ⟨hb, hf⟩
 unfold nstep
 refine tbe1 (sp90 H) L fun h H L => ?_
 cases h1 : isDg b with
 | true =>
  apply gtf
  apply pT
  apply gtf
  apply pT
  apply gtf
  apply gu
  apply gtf
  apply gu
  apply gtf
  apply pT
  refine sto 1 H rfl rfl L (by first|rfl|assumption) fun h H L => ?_
  exact Tri.done (B:=[NA pb lb pz b]) ⟨rfl, rfl⟩ (fin H) L
 | false =>
  apply gff
  apply Mid.bB
  refine tbe1 (sp92 H) L fun h H L => ?_
  apply bS
  apply pF
  cases h2 : isLt b with
  | true =>
   apply gtf
   apply pT
   apply gtf
   apply gu
   apply gtf
   apply gu
   apply gtf
   apply pT
   refine sto 1 H rfl rfl L (by first|rfl|assumption) fun h H L => ?_
   exact Tri.done (B:=[NA pb lb pz b]) ⟨rfl, rfl⟩ (fin H) L
  | false =>
   apply gff
   apply bI
   refine Tri.eql ?_ ?_<;>intro e
   ·rw [show b = 46 from Int.ofNat.inj e] at fin ⊢
    apply bS
    apply pF
    apply gtf
    apply gu
    apply gtf
    apply gu
    apply gtf
    apply pT
    refine sto 1 H rfl rfl L (by first|rfl|assumption) fun h H L => ?_
    exact Tri.done (B:=[NA pb lb pz 46]) ⟨rfl, rfl⟩ (fin H) L
   ·rw [show (b == 46) = false by simp; exact fun c => e (congrArg Int.ofNat c)]
    apply bS
    apply pF
    apply gff
    apply bI
    refine Tri.eql ?_ ?_<;>intro e2
    ·rw [show b = 43 from Int.ofNat.inj e2] at fin ⊢
     apply bS
     apply gtf
     apply gff
     apply bO
     apply pT
     apply bS
     apply gtt
     refine bl 0 H rfl rfl ?_
     refine bl 1 H rfl rfl ?_
     apply Mid.bB
     refine tbe1 (sp160 (by first|assumption|omega|rfl|(dsimp;omega)) H) L fun h H L => ?_
     apply bI
     refine Tri.geq ?_ ?_<;>intro e4
     ·rw [show hasc pz s = true from decide_eq_true e4]
      apply bS
      apply gff
      apply bO
      apply pT
      apply bS
      apply pF
      refine sto 1 H rfl rfl L (by first|rfl|assumption) fun h H L => ?_
      exact Tri.done (B:=[NA pb lb pz 43]) ⟨rfl, rfl⟩ (fin H) L
     ·rw [show hasc pz s = false from decide_eq_false (by omega)]
      apply bS
      apply gff
      apply bO
      apply pT
      apply bS
      apply pF
      refine sto 1 H rfl rfl L (by first|rfl|assumption) fun h H L => ?_
      exact Tri.done (B:=[NA pb lb pz 43]) ⟨rfl, rfl⟩ (fin H) L
    ·apply bS
     apply gff
     apply bI
     refine Tri.eql ?_ ?_<;>intro e3
     ·rw [show b = 45 from Int.ofNat.inj e3] at fin ⊢
      apply bS
      apply gff
      apply bO
      apply pF
      apply bS
      apply gtt
      refine bl 0 H rfl rfl ?_
      refine bl 1 H rfl rfl ?_
      apply Mid.bB
      refine tbe1 (sp160 (by first|assumption|omega|rfl|(dsimp;omega)) H) L fun h H L => ?_
      apply bI
      refine Tri.geq ?_ ?_<;>intro e4
      ·rw [show hasc pz s = true from decide_eq_true e4]
       apply bS
       apply gff
       apply bO
       apply pT
       apply bS
       apply pF
       refine sto 1 H rfl rfl L (by first|rfl|assumption) fun h H L => ?_
       exact Tri.done (B:=[NA pb lb pz 45]) ⟨rfl, rfl⟩ (fin H) L
      ·rw [show hasc pz s = false from decide_eq_false (by omega)]
       apply bS
       apply gff
       apply bO
       apply pT
       apply bS
       apply pF
       refine sto 1 H rfl rfl L (by first|rfl|assumption) fun h H L => ?_
       exact Tri.done (B:=[NA pb lb pz 45]) ⟨rfl, rfl⟩ (fin H) L
     ·rw [show (b == 43) = false by simp; exact fun c => e2 (congrArg Int.ofNat c), show (b == 45) = false by simp; exact fun c => e3 (congrArg Int.ofNat c)]
      apply bS
      apply gff
      apply bO
      apply pF
      apply bS
      apply gft
      apply gff
      apply bO
      apply pF
      apply bS
      apply pF
      refine sto 1 H rfl rfl L (by first|rfl|assumption) fun h H L => ?_
      exact Tri.done (B:=[NA pb lb pz b]) ⟨rfl, rfl⟩ (fin H) L
def pwz (L : List Nat) : Bs:=if [48, 120].isPrefixOf L || [48, 88].isPrefixOf L then ⟨2, 20592⟩ else ⟨2, 17765⟩
def nml (L : List Nat) : Nat:=wh (nstep (pwz L)) 0 L
theorem nml_le (L : List Nat) : nml L ≤ L.length:=wh_le _ _ _
def rX (X : Asn) (rb : Nat) (c : List V) (w : V) : V → List Asn → Prop:=fun v B => v = w ∧ B = [X, Mid.row rb c]
theorem f84 {X : Asn} {rb : Nat} {s y : Bs} {a ln : Nat} {sv : V} (hs : s.n ≤ 70000) (ha : a ≤ s.n) (hy : y.n ≤ 70000) (H : St (X :: Mid.row rb (rc s a ln sv) :: l) h) :
 Tri h true l (rX X rb (rc s a ln sv) (.bool ((bts y).isPrefixOf ((bts s).drop a)))) (M 84 [.ptr rb 0, .str y] h) :=
 Tri.tail (sp84 hs ha hy H.u1) (Lo.refl _ _) (fun e => e) fun v h B hq H L => by
  obtain ⟨rfl, rfl⟩:=hq
  exact ⟨_, ⟨rfl, rfl⟩, H.u1⟩
theorem sp96 {rb : Nat} {s : Bs} {a ln : Nat} {sv : V} (hs : s.n ≤ 70000) (ha : a ≤ s.n) (H : St (Mid.row rb (rc s a ln sv) :: l) h) :
 Tri h false l (rRd rb (rc s a ln sv) (.int .i64 (nml ((bts s).drop a) : Nat))) (M 96 [.ptr rb 0] h):=by
 have ih39 : ∀ (pb : Nat) (pz : Bs) (h : Hp) (l : List Asn), pz = pwz ((bts s).drop a) → St (Mid.row pb [.str pz] :: Mid.row rb (rc s a ln sv) :: l) h →
  Tri h false l (rRd rb (rc s a ln sv) (.int .i64 (nml ((bts s).drop a) : Nat))) (M 39 [.ptr rb 0, .ptr pb 0] h):=by
  intro pb pz h l hp H
  refine t2 e39 fun L => ?_
  unfold B39
  refine nw H L fun b0 h hb0 H L => ?_
  refine sto 0 H rfl rfl L (by first|rfl|assumption) fun h H L => ?_
  have H1 : St (NA pb b0 pz 0 :: Mid.row rb (rc s a ln sv) :: l) h:=(St.pack (l:=[Mid.row pb [.str pz], Mid.row b0 [.int .u8 (0 : Int)]]) H.u1).imp0 fun f hf => ⟨by decide, hf⟩
  refine Mid.tb (sp50 (A:=NA pb b0 pz) (f:=nstep pz) (g:=.func 79 [] [.ptr pb 0, .ptr b0 0]) (r:=false) (fun s b h l hb H => asks_num hb H) (fr:=0) hs (by omega) (by omega) H1.u1) L fun v h B hq H L => ?_
  obtain ⟨s1, rfl, rfl⟩:=hq
  skip
  subst hp
  exact Tri.done (B:=[_]) ⟨rfl, rfl⟩ H.x1 L
 have ih84:=@f84
 refine t1 e96 fun L => ?_
 unfold B96
 refine nw H L fun b0 h hb0 H L => ?_
 refine sto 0 H rfl rfl L (by first|rfl|assumption) fun h H L => ?_
 refine tbe1 (ih84 (by first|assumption|omega|rfl|(dsimp;omega)) (by first|assumption|omega|rfl|(dsimp;omega)) (by first|assumption|omega|rfl|(dsimp;omega)) H) L fun h H L => ?_
 rw [show bts ⟨2, 30768⟩ = [48, 120] from rfl]
 cases h1 : [48, 120].isPrefixOf ((bts s).drop a) with
 | true =>
  apply gtf
  apply pT
  apply nT
  refine sto 0 H rfl rfl L (by first|rfl|assumption) fun h H L => ?_
  exact te (ih39 b0 _ h l (by unfold pwz; rw [h1]; rfl) H) L
 | false =>
  apply gff
  apply Mid.bB
  refine tbe1 (ih84 (by first|assumption|omega|rfl|(dsimp;omega)) (by first|assumption|omega|rfl|(dsimp;omega)) (by first|assumption|omega|rfl|(dsimp;omega)) H) L fun h H L => ?_
  apply bS
  apply pF
  rw [show bts ⟨2, 22576⟩ = [48, 88] from rfl]
  cases h2 : [48, 88].isPrefixOf ((bts s).drop a) with
  | true =>
   apply nT
   refine sto 0 H rfl rfl L (by first|rfl|assumption) fun h H L => ?_
   exact te (ih39 b0 _ h l (by unfold pwz; rw [h1, h2]; rfl) H) L
  | false =>
   apply nF
   exact te (ih39 b0 _ h l (by unfold pwz; rw [h1, h2]; rfl) H) L
def hexv (b : Nat) : Nat × Bool:=if isDg b then (b - 48, true) else if isIn 97 b 102 then (b - 97 + 10, true) else if isIn 65 b 70 then (b - 65 + 10, true) else (0, false)
theorem in_of {x b y : Nat} (h : isIn x b y = true) : x ≤ b ∧ b ≤ y:=by
 unfold isIn at h
 rw [Bool.and_eq_true, decide_eq_true_iff, decide_eq_true_iff] at h; exact h
theorem u8_sub {b c : Nat} (h1 : c ≤ b) (h2 : b < 256) : IntKind.u8.wrap ((b : Int) - (c : Int)) = ((b - c : Nat) : Int):=by
 rw [IntWalk.u8_in _ (by omega)]; omega
theorem hexv_lt (b : Nat) : (hexv b).1 < 16:=by
 unfold hexv isDg
 split
 ·rename_i h; have := in_of h; show b - 48 < 16; omega
 ·split
  ·rename_i h; have := in_of h; show b - 97 + 10 < 16; omega
  ·split
   ·rename_i h; have := in_of h; show b - 65 + 10 < 16; omega
   ·decide
theorem sp296 {b : Nat} (hb : b < 256) (H : St l h) : Tri h true l (rNo (.tuple [.int .i64 ((hexv b).1 : Nat), .bool (hexv b).2])) (M 296 [.int .u8 (b : Int)] h):=by
 refine t1 e296 fun L => ?_
 unfold B296
 generalize hX : hexv b = X
 unfold hexv at hX
 refine tbe1 (sp90 H) L fun h H L => ?_
 cases h1 : isDg b with
 | true =>
  have:=in_of (show isIn 48 b 57 = true from h1)
  rw [h1, if_pos rfl] at hX
  apply nT
  refine Tri.sub ?_
  refine Tri.conv ?_
  have e48:=u8_sub (c:=48) (by omega) hb
  rw [show ((48 : Nat) : Int) = 48 from rfl] at e48
  rw [e48, Mid.i64_of (n:=((b - 48 : Nat) : Int)) (by omega) (by omega)]
  subst hX
  exact dn H L
 | false =>
  rw [h1, if_neg (by decide)] at hX
  apply nF
  refine tbe1 (sp82 H) L fun h H L => ?_
  cases h2 : isIn 97 b 102 with
  | true =>
   have:=in_of h2
   rw [h2, if_pos rfl] at hX
   apply nT
   refine Tri.sub ?_
   refine Tri.conv ?_
   refine Tri.add ?_
   have e48:=u8_sub (c:=97) (by omega) hb
   rw [show ((97 : Nat) : Int) = 97 from rfl] at e48
   rw [e48, Mid.i64_of (n:=((b - 97 : Nat) : Int)) (by omega) (by omega), Mid.i64_of (n:=((b - 97 : Nat) : Int) + 10) (by omega) (by omega)]
   subst hX
   exact dn H L
  | false =>
   rw [h2, if_neg (by decide)] at hX
   apply nF
   refine tbe1 (sp82 H) L fun h H L => ?_
   cases h3 : isIn 65 b 70 with
   | true =>
    have:=in_of h3
    rw [h3, if_pos rfl] at hX
    apply nT
    refine Tri.sub ?_
    refine Tri.conv ?_
    refine Tri.add ?_
    have e48:=u8_sub (c:=65) (by omega) hb
    rw [show ((65 : Nat) : Int) = 65 from rfl] at e48
    rw [e48, Mid.i64_of (n:=((b - 65 : Nat) : Int)) (by omega) (by omega), Mid.i64_of (n:=((b - 65 : Nat) : Int) + 10) (by omega) (by omega)]
    subst hX
    exact dn H L
   | false =>
    rw [h3, if_neg (by decide)] at hX
    apply nF
    subst hX
    exact dn H L
theorem Tri.shl4 {n : Int} (hk : Tri h0 ro F Q (k (.int .u64 (IntKind.u64.wrap (n * 2 ^ 4))))) : Tri h0 ro F Q (shS .shl (.int .u64 n) (.int .u64 4) k):=hk
theorem Tri.or64 {m n : Int} (hk : Tri h0 ro F Q (k (.int .u64 (IntKind.u64.wrap (BitVec.ofInt 64 m ||| BitVec.ofInt 64 n).toNat)))) : Tri h0 ro F Q (intS .or (.int .u64 m) (.int .u64 n) k):=by rw [intS_at]; exact hk
def hst (n : Int) (d : Nat) : Int:=IntKind.u64.wrap (BitVec.ofInt 64 (IntKind.u64.wrap (n * 2 ^ 4)) ||| BitVec.ofInt 64 (IntKind.u64.wrap d)).toNat
def hexn : List Nat → Int → Int × Bool
 | [], n => (n, true)
 | b :: r, n => if (hexv b).2 then hexn r (hst n (hexv b).1) else (0, false)
theorem hex_ok {s : Bs} (hs : s.n ≤ 70000) : ∀ (m i : Nat) (n : Int) (h : Hp) (l : List Asn), s.n - i ≤ m → i ≤ s.n → St l h →
 Tri h true l (rNo (.tuple [.int .u64 (hexn ((bts s).drop i) n).1, .bool ((hexn ((bts s).drop i) n).2 && !decide (bts s = []))])) (M 65 [.str s, .int .u64 n, .int .i64 (s.n : Nat), .int .i64 (i : Int)] h):=by
 intro m
 induction m with
 | zero =>
  intro i n h l hm hi H
  refine t4 e65 fun L => ?_
  unfold B65
  skip
  refine Tri.lss (fun e => by omega) (fun e => ?_)
  apply nF
  refine Tri.strNeL ?_
  rw [bts_end (by omega)]
  exact dn H L
 | succ m ih =>
  intro i n h l hm hi H
  refine t4 e65 fun L => ?_
  unfold B65
  skip
  refine Tri.lss ?_ ?_<;>intro e
  ·have hlt : i < s.n := by omega
   have ih296:=fun (h : Hp) (l : List Asn) (H : St l h) => sp296 (bts_lt s i) H
   rw [bts_drop hlt, hexn]
   apply nT
   refine iS (by omega) ?_
   refine tbe1 (ih296 _ _ H) L fun h H L => ?_
   refine Tri.ext rfl ?_
   refine Tri.ext rfl ?_
   refine Tri.not ?_
   cases h1 : (hexv (s.byte i)).2 with
   | false =>
    apply nT
    rw [if_neg (by decide)]
    exact dn H L
   | true =>
    apply nF
    rw [if_pos rfl]
    refine Tri.shl4 (Tri.conv (Tri.or64 ?_))
    refine aD (by omega) ?_
    exact te (ih (i + 1) _ h l (by omega) (by omega) H) L
  ·apply nF
   refine Tri.strNeL ?_
   rw [bts_end (by omega)]
   exact dn H L
theorem sp230 {s : Bs} (hs : s.n ≤ 70000) (H : St l h) : Tri h true l (rNo (.tuple [.int .u64 (hexn (bts s) 0).1, .bool ((hexn (bts s) 0).2 && !decide (bts s = []))])) (M 230 [.str s] h):=by
 refine t1 e230 fun L => ?_
 unfold B230
 apply lS
 exact te (hex_ok hs s.n 0 0 h l (by omega) (by omega) H) L
def pI (L : List Nat) : Int × Bool := match Lib.parseIntB 64 (L.map UInt8.ofNat) with
 | .ok v => (v, true)
 | _ => (0, false)
def rPI (x : Int × Bool) : V → List Asn → Prop:=fun w B => ∃ (v : Int) (e : V), w = .tuple [.int .i64 v, e] ∧ B = [] ∧ ((x.2 = true ∧ e = .nilIface ∧ v = x.1) ∨ (x = (0, false) ∧ ∃ b, e = .iface 187 (.ptr b 0)))
theorem sp232 {z : Bs} (hz : z.n ≤ 70000) (H : St l h) : Tri h true l (rPI (pI (bts z))) (M 232 [.str z, .int .i64 10, .int .i64 64] h):=by
 have hp : ∀ p, parseF 187 [.str z, .int .i64 10, .int .i64 64] h = some p → M 232 [.str z, .int .i64 10, .int .i64 64] h = some p := fun p hd => by
  refine (@lim_F Tryz.prog (orc fnA Inv) labs 116 _ _ _).2 ⟨0, ?_⟩
  show enterO Tryz.prog _ h 116 _ (parseF 187 [.str z, .int .i64 10, .int .i64 64] h) = _
  rw [hd]
  rfl
 have hu : parseF 187 [.str z, .int .i64 10, .int .i64 64] h = (match Lib.parseIntB 64 z.l with
  | .ok v => some (.tuple [.int .i64 v, .nilIface], h)
  | .range => some (.tuple [.int .i64 (Lib.intSat 64 z.l), .iface 187 (.ptr h.n 0)], h.new .dead)
  | _ => some (.tuple [.int .i64 0, .iface 187 (.ptr h.n 0)], h.new .dead)):=by
  show (bif Nat.ble z.l.length 2147483648 then _ else none) = _
  rw [show Nat.ble z.l.length 2147483648 = true from Nat.ble_eq_true_of_le (by rw [Bs.l_len]; omega)]; rfl
 have hH : St l (h.new .dead):=(H.new (A:=fun _ => True) (o:=.dead) trivial).tl
 have hL : Lo true h (h.new .dead):=⟨Nat.le_succ _, (Lo.refl true h).low⟩
 unfold pI
 rw [← l_bts]
 rcases hc : Lib.parseIntB 64 z.l with v | _ | _
 ·rw [hc] at hu
  rw [hp _ hu]
  exact Tri.done (B:=[]) ⟨v, _, rfl, rfl, .inl ⟨rfl, rfl, rfl⟩⟩ H (Lo.refl _ _)
 ·rw [hc] at hu
  rw [hp _ hu]
  exact Tri.done (B:=[]) ⟨_, _, rfl, rfl, .inr ⟨rfl, _, rfl⟩⟩ hH hL
 ·rw [hc] at hu
  rw [hp _ hu]
  exact Tri.done (B:=[]) ⟨_, _, rfl, rfl, .inr ⟨rfl, _, rfl⟩⟩ hH hL
theorem parse_end {y z : Bs} (hy : bts y = bts ⟨0, 0⟩ ++ bts z) (hz : z.n ≤ 70000) (H : St l h) (L : Lo true h0 h) : Tri h0 true l (rNo (.tuple [.int .i64 (pI (bts z)).1, .bool (pI (bts z)).2])) (bindS (M 232 [.str y, .int .i64 10, .int .i64 64] h) fun v69 h70 =>
      extS 0 v69 fun v71 => extS 1 v69 fun v72 => bindS (vh h70 (eqOp BinOp.neq (cmpI Tryz.prog true v72 V.nilIface))) fun v73 h74 =>
       ifS v73 (some (V.tuple [V.int IntKind.i64 0, V.bool false], h74)) (some (V.tuple [v71, V.bool true], h74))):=by
 have hy : bts y = bts z:=hy
 have hn : y.n = z.n:=by rw [← bts_len, hy, bts_len]
 rw [← hy]
 refine Mid.tb (sp232 (by omega) H) L fun v h B hq H L => ?_
 obtain ⟨v, e, rfl, rfl, hv⟩:=hq
 rcases hv with ⟨h1, rfl, rfl⟩ | ⟨h1, b, rfl⟩
 ·refine Tri.ext rfl (Tri.ext rfl (Tri.bs (Tri.iff ?_)))
  rw [h1]
  exact dn H L
 ·refine Tri.ext rfl (Tri.ext rfl (Tri.bs (Tri.ift ?_)))
  rw [h1]
  exact dn H L
theorem digits_ok {b1 : Nat} {z : Bs} (hz : z.n ≤ 70000) : ∀ (m i : Nat) (h : Hp) (l : List Asn), z.n - i ≤ m → i ≤ z.n → St (Mid.row b1 [.str z] :: l) h →
 ∀ X, X = (if ((bts z).drop i).all isDg then pI (bts z) else (0, false)) →
 Tri h true l (rNo (.tuple [.int .i64 X.1, .bool X.2])) (M 49 [.ptr b1 0, .str ⟨0, 0⟩, .int .i64 (z.n : Nat), .int .i64 (i : Int)] h):=by
 intro m
 induction m with
 | zero =>
  intro i h l hm hi H X hX
  refine t4 e49 fun L => ?_
  unfold B49
  skip
  refine Tri.lss (fun e => by omega) (fun e => ?_)
  apply nF
  refine lo 0 H rfl rfl ?_
  refine Tri.strCat (by simp only [*]; omega) fun z12 nz12 ez12 => ?_
  rw [bts_end (show z.n ≤ i by omega)] at hX
  subst hX
  exact parse_end ez12 hz H.tl L
 | succ m ih =>
  intro i h l hm hi H X hX
  refine t4 e49 fun L => ?_
  unfold B49
  skip
  refine Tri.lss ?_ ?_<;>intro e
  ·have hlt : i < z.n := by omega
   rw [bts_drop hlt, List.all_cons] at hX
   apply nT
   refine lo 0 H rfl rfl ?_
   refine iS (by omega) ?_
   refine tbe1 (sp90 H) L fun h H L => ?_
   refine Tri.not ?_
   cases h1 : isDg (z.byte i) with
   | false =>
    rw [show ((i : Int)).toNat = i from rfl, h1]
    rw [h1] at hX
    subst hX
    apply nT
    exact Tri.done (B:=[]) ⟨rfl, rfl⟩ H.tl L
   | true =>
    rw [show ((i : Int)).toNat = i from rfl, h1]
    rw [h1, Bool.true_and] at hX
    apply nF
    refine aD (by omega) ?_
    exact te (ih (i + 1) h l (by omega) (by omega) H X hX) L
  ·apply nF
   refine lo 0 H rfl rfl ?_
   refine Tri.strCat (by simp only [*]; omega) fun z82 nz82 ez82 => ?_
   rw [bts_end (show z.n ≤ i by omega)] at hX
   subst hX
   exact parse_end ez82 hz H.tl L
def prs (L : List Nat) : Int × Bool :=
 if 2 ≤ L.length ∧ L.head? = some 48 ∧ ((L.drop 1).head? = some 120 ∨ (L.drop 1).head? = some 88) then
  (if (hexn (L.drop 2) 0).2 && !decide (L.drop 2 = []) then (IntKind.i64.wrap (hexn (L.drop 2) 0).1, true) else (0, false))
 else if L.all isDg then pI L else (0, false)
theorem bts_head {z : Bs} (h : 0 < z.n) : (bts z).head? = some (z.byte 0):=by rw [← List.drop_zero (l:=bts z), bts_drop h]; rfl
theorem bts_in {z : Bs} {i : Nat} (h : i < z.n) : z.byte i ∈ bts z:=List.mem_of_getElem? (bts_get h)
theorem nz {z : Bs} (h : decide (bts z = bts ⟨0, 0⟩) = false) : 0 < z.n:=by
 rcases Nat.eq_zero_or_pos z.n with h1 | h1
 ·exact absurd (show bts z = bts ⟨0, 0⟩ from List.eq_nil_of_length_eq_zero (by rw [bts_len, h1])) (of_decide_eq_false h)
 ·exact h1
theorem skip_none {b1 : Nat} {z : Bs} (hz : z.n ≤ 70000) (hs : ∀ b ∈ bts z, isSp b = false) (H : St (Mid.row b1 [.str z] :: l) h) : Tri h true l (fun v B => v = .tuple [] ∧ B = [Mid.row b1 [.str z]]) (M 228 [.ptr b1 0] h):=by
 have ih69 : ∀ (h : Hp) (l : List Asn), St (Mid.row b1 [.str z] :: l) h → Tri h true l (fun v B => v = .tuple [] ∧ B = [Mid.row b1 [.str z]]) (M 69 [.ptr b1 0] h):=by
  intro h l H
  refine t1 e69 fun L => ?_
  unfold B69
  refine lo 0 H rfl rfl ?_
  refine Tri.strNeL ?_
  cases he : decide (bts z = bts ⟨0, 0⟩) with
  | true =>
   apply gft
   apply pF
   apply nF
   exact Tri.done (B:=[_]) ⟨rfl, rfl⟩ H L
  | false =>
   have hn:=nz he
   apply gtt
   refine bl 0 H rfl rfl ?_
   refine bl 0 H rfl rfl ?_
   apply Mid.bB
   apply lS
   apply bI
   refine Tri.subN (by omega) (by omega) ?_
   refine jS (by omega) ?_
   apply Mid.bB
   refine tbe1 (sp52 H) L fun h H L => ?_
   apply bS
   apply pT
   rw [show ((z.n : Int) - 1).toNat = z.n - 1 by omega, hs _ (bts_in (by omega))]
   apply nF
   exact Tri.done (B:=[_]) ⟨rfl, rfl⟩ H L
 have ih67 : ∀ (h : Hp) (l : List Asn), St (Mid.row b1 [.str z] :: l) h → Tri h true l (fun v B => v = .tuple [] ∧ B = [Mid.row b1 [.str z]]) (M 67 [.ptr b1 0] h):=by
  intro h l H
  refine t1 e67 fun L => ?_
  unfold B67
  refine lo 0 H rfl rfl ?_
  refine Tri.strNeL ?_
  cases he : decide (bts z = bts ⟨0, 0⟩) with
  | true =>
   apply gft
   apply pF
   apply nF
   refine te1 (ih69 _ _ H) L
  | false =>
   have hn:=nz he
   apply gtt
   refine bl 0 H rfl rfl ?_
   refine jS (by omega) ?_
   apply Mid.bB
   refine tbe1 (sp52 H) L fun h H L => ?_
   apply bS
   apply pT
   rw [show (Int.toNat 0) = 0 from rfl, hs _ (bts_in (by omega))]
   apply nF
   refine te1 (ih69 _ _ H) L
 refine t1 e228 fun L => ?_
 unfold B228
 exact te (ih67 h l H) L
def rRow (b1 : Nat) (c : List V) : V → List Asn → Prop:=fun v B => v = .tuple [] ∧ B = [Mid.row b1 c]
theorem sp164 {s : Bs} (hz : s.n ≤ 70000) (hs : ∀ b ∈ bts s, isSp b = false) (hd : ∀ b, (bts s).head? = some b → b ≠ 43 ∧ b ≠ 45) (H : St l h) :
 Tri h true l (rNo (.tuple [.int .i64 (prs (bts s)).1, .bool (prs (bts s)).2])) (M 164 [.str s] h):=by
 have ih228 : ∀ (b1 : Nat) (h : Hp) (l : List Asn) (H : St (Mid.row b1 [.str s] :: l) h), Tri h true l (rRow b1 [.str s]) (M 228 [.ptr b1 0] h):=fun b1 h l H => skip_none hz hs H
 have ih51 : ∀ (n : Int) (b : Bool) (h : Hp) (l : List Asn), St l h → Tri h true l (rNo (.tuple [.int .i64 (if b then IntKind.i64.wrap n else 0), .bool b])) (M 51 [.int .u64 n, .bool b] h):=by
  intro n b h l H
  refine t2 e51 fun L => ?_
  unfold B51
  cases b with
  | true =>
   refine Tri.not ?_
   apply nF
   refine Tri.conv ?_
   exact dn H L
  | false =>
   refine Tri.not ?_
   apply nT
   exact dn H L
 have ih49 : ∀ (b1 : Nat) (h : Hp) (l : List Asn), St (Mid.row b1 [.str s] :: l) h → ∀ X, X = (if (bts s).all isDg then pI (bts s) else (0, false)) →
  Tri h true l (rNo (.tuple [.int .i64 X.1, .bool X.2])) (M 49 [.ptr b1 0, .str ⟨0, 0⟩, .int .i64 (s.n : Nat), .int .i64 (0 : Int)] h):=fun b1 h l H X hX =>
  digits_ok hz s.n 0 h l (by omega) (by omega) H X hX
 have ih47 : ∀ (b1 : Nat) (h : Hp) (l : List Asn), St (Mid.row b1 [.str s] :: l) h → Tri h true l (rNo (.tuple [.int .i64 (prs (bts s)).1, .bool (prs (bts s)).2])) (M 47 [.ptr b1 0, .str ⟨0, 0⟩] h):=by
  intro b1 h l H
  refine t2 e47 fun L => ?_
  unfold B47
  generalize hX : prs (bts s) = X
  unfold prs at hX
  rw [bts_len] at hX
  refine lo 0 H rfl rfl ?_
  apply lS
  refine Tri.geq ?_ ?_<;>intro e
  ·have hh := bts_head (z := s) (by omega)
   have ht : ((bts s).drop 1).head? = some (s.byte 1):=by rw [bts_drop (show 1 < s.n by omega)]; rfl
   rw [hh, ht] at hX
   apply gtt
   refine bl 0 H rfl rfl ?_
   refine jS (by omega) ?_
   apply bI
   refine Tri.eql ?_ ?_<;>intro e1
   ·have e1' : s.byte 0 = 48 := Int.ofNat.inj e1
    apply bS
    apply pT
    apply gtt
    refine bl 0 H rfl rfl ?_
    refine jS (by omega) ?_
    apply bI
    refine Tri.eql ?_ ?_<;>intro e2
    ·have e2' : s.byte 1 = 120 := Int.ofNat.inj e2
     rw [if_pos ⟨by omega, by rw [e1'], .inl (by rw [e2'])⟩] at hX
     apply bS
     apply gtf
     apply gtt
     apply bO
     apply pT
     apply bS
     apply pT
     apply nT
     refine lo 0 H rfl rfl ?_
     refine Tri.cutLo (by omega) (by omega) fun z69 nz69 ez69 => ?_
     refine tbe1 (sp230 (by first|assumption|omega|rfl|(dsimp;omega)) H) L fun h H L => ?_
     refine Tri.ext rfl ?_
     refine Tri.ext rfl ?_
     refine Tri.strEqL ?_
     apply nF
     rw [show bts z69 = (bts s).drop 2 from ez69]
     generalize ((hexn ((bts s).drop 2) 0).2 && !decide ((bts s).drop 2 = [])) = w at hX ⊢
     cases w <;> subst hX <;> exact te (ih51 _ _ h l H.tl) L
    ·have e2' : s.byte 1 ≠ 120 := fun c => e2 (congrArg Int.ofNat c)
     apply bS
     apply gff
     refine bl 0 H rfl rfl ?_
     refine jS (by omega) ?_
     apply bI
     refine Tri.eql ?_ ?_<;>intro e3
     ·have e3' : s.byte 1 = 88 := Int.ofNat.inj e3
      rw [if_pos ⟨by omega, by rw [e1'], .inr (by rw [e3'])⟩] at hX
      apply bS
      apply gtt
      apply bO
      apply pF
      apply bS
      apply pT
      apply nT
      refine lo 0 H rfl rfl ?_
      refine Tri.cutLo (by omega) (by omega) fun z108 nz108 ez108 => ?_
      refine tbe1 (sp230 (by first|assumption|omega|rfl|(dsimp;omega)) H) L fun h H L => ?_
      refine Tri.ext rfl ?_
      refine Tri.ext rfl ?_
      refine Tri.strEqL ?_
      apply nF
      rw [show bts z108 = (bts s).drop 2 from ez108]
      generalize ((hexn ((bts s).drop 2) 0).2 && !decide ((bts s).drop 2 = [])) = w at hX ⊢
      cases w <;> subst hX <;> exact te (ih51 _ _ h l H.tl) L
     ·have e3' : s.byte 1 ≠ 88 := fun c => e3 (congrArg Int.ofNat c)
      rw [if_neg (fun c => c.2.2.elim (fun c => e2' (Option.some.inj c)) (fun c => e3' (Option.some.inj c)))] at hX
      apply bS
      apply gtt
      apply bO
      apply pF
      apply bS
      apply pT
      apply nF
      refine lo 0 H rfl rfl ?_
      apply lS
      exact te (ih49 b1 h l H X hX.symm) L
   ·have e1' : s.byte 0 ≠ 48 := fun c => e1 (congrArg Int.ofNat c)
    rw [if_neg (fun c => e1' (Option.some.inj c.2.1))] at hX
    apply bS
    apply pT
    apply gft
    apply gu
    apply gft
    apply pF
    apply nF
    refine lo 0 H rfl rfl ?_
    apply lS
    exact te (ih49 b1 h l H X hX.symm) L
  ·rw [if_neg (fun c => by omega)] at hX
   apply gft
   apply pF
   apply gft
   apply gu
   apply gft
   apply pF
   apply nF
   refine lo 0 H rfl rfl ?_
   apply lS
   exact te (ih49 b1 h l H X hX.symm) L
 refine t1 e164 fun L => ?_
 unfold B164
 refine nw H L fun b0 h hb0 H L => ?_
 refine Tri.eqv (congrArg (fun x => bindS x _) (dyn_at _ _ _ _ _ _)) ?_
 refine tbe1 (ih228 _ _ _ H) L fun h H L => ?_
 refine lo 0 H rfl rfl ?_
 refine Tri.strNeL ?_
 have e45 : ∀ b, (bts s).head? = some b → b ≠ 43 ∧ b ≠ 45:=hd
 cases he : decide (bts s = bts ⟨0, 0⟩) with
 | true =>
  apply gft
  apply gu
  apply gft
  apply pF
  apply nF
  refine te1 (ih47 _ _ _ H) L
 | false =>
  have hn:=nz he
  have h9:=hd _ (bts_head hn)
  apply gtt
  refine bl 0 H rfl rfl ?_
  refine jS (by omega) ?_
  apply bI
  refine Tri.eql (fun e => absurd (Int.ofNat.inj e) h9.2) (fun _ => ?_)
  apply bS
  apply gff
  refine bl 0 H rfl rfl ?_
  refine jS (by omega) ?_
  apply bI
  refine Tri.eql (fun e => absurd (Int.ofNat.inj e) h9.1) (fun _ => ?_)
  apply bS
  apply gtt
  apply bO
  apply pF
  apply bS
  apply pT
  apply nF
  refine te1 (ih47 _ _ _ H) L
abbrev tokV (k : Int) (z : Bs) (N ln : Int) : V:=.agg [.int .u8 k, .str z, .int .i64 N, .int .i64 ln]
def numC (b : Nat) : Bool:=isDg b || isLt b || b == 46 || b == 43 || b == 45
theorem numC_of {b : Nat} (h : numC b = true) : 43 ≤ b ∧ b ≤ 122:=by
 unfold numC isDg isLt isIn at h
 simp only [Bool.or_eq_true, Bool.and_eq_true, decide_eq_true_eq, beq_iff_eq] at h
 omega
theorem numC_sp {b : Nat} (h : numC b = true) : isSp b = false:=by
 have:=numC_of h
 unfold isSp isIn
 simp only [Bool.or_eq_false_iff, Bool.and_eq_false_iff, decide_eq_false_iff_not, beq_eq_false_iff_ne]
 omega
def trm (L : List Nat) (c : Bs) : List Nat:=(Lib.trimS (L.map UInt8.ofNat) c.l).map UInt8.toNat
theorem sp162 {s c : Bs} (hs : s.n ≤ 70000) (hc : c.n ≤ 70000) (ha : asciiB c.l = true) (H : St l h) : Tri h true l (rText (trm (bts s) c)) (M 162 [.str s, .str c] h):=by
 have e : M 162 [.str s, .str c] h = some (.str (pack (Lib.trimS s.l c.l)), h):=by
  refine (@lim_F Tryz.prog (orc fnA Inv) labs 81 _ _ _).2 ⟨0, ?_⟩
  have hd : trimF [.str s, .str c] h = some (.str (pack (Lib.trimS s.l c.l)), h):=by
   show (bif (Nat.ble s.l.length 2147483648 && Nat.ble c.l.length 2147483648) && asciiB c.l then _ else none) = _
   rw [show Nat.ble s.l.length 2147483648 = true from Nat.ble_eq_true_of_le (by rw [Bs.l_len]; omega), show Nat.ble c.l.length 2147483648 = true from Nat.ble_eq_true_of_le (by rw [Bs.l_len]; omega), ha]; rfl
  show enterO Tryz.prog _ h 81 _ (trimF [.str s, .str c] h) = _
  rw [hd]
  rfl
 rw [e]
 have e2 : bts (pack (Lib.trimS s.l c.l)) = trm (bts s) c:=by rw [bts_pack, trm, ← l_bts]
 exact Tri.done (B:=[]) ⟨_, by rw [← e2, bts_len], e2, rfl, rfl⟩ H (Lo.refl _ _)
theorem sp58 {s c : Bs} (hs : s.n ≤ 70000) (H : St l h) : Tri h true l (rNo (.bool (hasB ((bts s).map UInt8.ofNat) c.l))) (M 58 [.str s, .str c] h):=by
 have e : M 58 [.str s, .str c] h = some (.bool (hasB s.l c.l), h):=by
  refine (@lim_F Tryz.prog (orc fnA Inv) labs 29 _ _ _).2 ⟨0, ?_⟩
  have hd : containsF [.str s, .str c] h = some (.bool (hasB s.l c.l), h):=by
   show (bif Nat.ble s.l.length 2147483648 then _ else none) = _
   rw [show Nat.ble s.l.length 2147483648 = true from Nat.ble_eq_true_of_le (by rw [Bs.l_len]; omega)]; rfl
  show enterO Tryz.prog _ h 29 _ (containsF [.str s, .str c] h) = _
  rw [hd]
  rfl
 rw [e, ← l_bts]
 exact Tri.done (B:=[]) ⟨rfl, rfl⟩ H (Lo.refl _ _)
theorem ascii_bts {s : Bs} (h : ∀ b ∈ bts s, b < 128) : asciiB s.l = true:=by
 unfold bts at h
 generalize s.l = L at h
 induction L with
 | nil => rfl
 | cons a L ih =>
  show (bif Nat.blt a.toNat 128 then asciiB L else false) = true
  rw [show Nat.blt a.toNat 128 = true from Nat.ble_eq_true_of_le (h _ (by simp)), ih fun b hb => h b (by simp at hb ⊢; exact .inr hb)]; rfl
theorem sp166 {s c : Bs} (hs : s.n ≤ 70000) (hc : c.n ≤ 70000) (h1 : asciiB c.l = true) (h2 : ∀ b ∈ bts s, b < 128) (H : St l h) : Tri h true l (rNo (.bool (anyB ((bts s).map UInt8.ofNat) c.l))) (M 166 [.str s, .str c] h):=by
 have e : M 166 [.str s, .str c] h = some (.bool (anyB s.l c.l), h):=by
  refine (@lim_F Tryz.prog (orc fnA Inv) labs 83 _ _ _).2 ⟨0, ?_⟩
  have hd : containsAnyF [.str s, .str c] h = some (.bool (anyB s.l c.l), h):=by
   show (bif (Nat.ble s.l.length 2147483648 && Nat.ble c.l.length 2147483648) && (asciiB s.l && asciiB c.l) then _ else none) = _
   rw [show Nat.ble s.l.length 2147483648 = true from Nat.ble_eq_true_of_le (by rw [Bs.l_len]; omega), show Nat.ble c.l.length 2147483648 = true from Nat.ble_eq_true_of_le (by rw [Bs.l_len]; omega), h1, ascii_bts h2]; rfl
  show enterO Tryz.prog _ h 83 _ (containsAnyF [.str s, .str c] h) = _
  rw [hd]
  rfl
 rw [e, ← l_bts]
 exact Tri.done (B:=[]) ⟨rfl, rfl⟩ H (Lo.refl _ _)
def hx (L : List Nat) : Bool:=[48, 120].isPrefixOf L || [48, 88].isPrefixOf L
def pln (L : List Nat) : Bool:=decide (trm L ⟨10, 270211885617516653982000⟩ = [])
def flt (L : List Nat) : Bool:=pln L || hasB (L.map UInt8.ofNat) (Bs.l ⟨1, 46⟩) || (!hx L && anyB (L.map UInt8.ofNat) (Bs.l ⟨2, 17765⟩)) || (hx L && anyB (L.map UInt8.ofNat) (Bs.l ⟨2, 20592⟩))
def numb (L : List Nat) : Int × Int × Int :=
 if (prs L).2 && (hx L || pln L) then (4, (prs L).1, 0) else if flt L then (0, 0, 31) else (0, 0, 30)
def P2 (s : Bs) (e p : Bool) (b0 : Nat) (h : Hp) : VH :=
 guardS (.bool p) false (bindS (M 58 [(.str s), (.str ⟨1, 46⟩)] h) fun v28 h29 =>
 some (v28, h29)) h fun v30 h31 =>
 optS (pickV (.bool p) (.bool true) v30) fun v32 =>
 guardS v32 false (notS (.bool e) fun v33 =>
 some (v33, h31)) h31 fun v34 h35 =>
 guardS v34 true (bindS (M 166 [(.str s), (.str ⟨2, 17765⟩)] h35) fun v36 h37 =>
 some (v36, h37)) h35 fun v38 h39 =>
 guardS v32 false (optS (pickV v34 v38 (.bool false)) fun v40 =>
 some (v40, h39)) h39 fun v41 h42 =>
 optS (pickV v32 (.bool true) v41) fun v43 =>
 guardS v43 false (some ((.bool e), h42)) h42 fun v44 h45 =>
 guardS v44 true (bindS (M 166 [(.str s), (.str ⟨2, 20592⟩)] h45) fun v46 h47 =>
 some (v46, h47)) h45 fun v48 h49 =>
 guardS v43 false (optS (pickV v44 v48 (.bool false)) fun v50 =>
 some (v50, h49)) h49 fun v51 h52 =>
 optS (pickV v43 (.bool true) v51) fun v53 =>
 ifS v53 (
 bindS (bldStruct h52 [] (.agg [(.int .u8 0), (.str ⟨0, 0⟩), (.int .i64 0), (.int .i64 0)]) (some [(0, 1), (1, 1), (2, 1), (3, 1)])) fun v54 h55 =>
 storeN 4 (.ptr b0 0) v54 h55 fun h56 =>
 loadN 4 (.ptr b0 0) h56 fun v57 =>
 some (.tuple [v57, (.int .i64 31)], h56)) (
 bindS (bldStruct h52 [] (.agg [(.int .u8 0), (.str ⟨0, 0⟩), (.int .i64 0), (.int .i64 0)]) (some [(0, 1), (1, 1), (2, 1), (3, 1)])) fun v58 h59 =>
 storeN 4 (.ptr b0 0) v58 h59 fun h60 =>
 loadN 4 (.ptr b0 0) h60 fun v61 =>
 some (.tuple [v61, (.int .i64 30)], h60))
theorem part2 {s : Bs} {e p : Bool} {b0 : Nat} (hz : s.n ≤ 70000) (hs : ∀ b ∈ bts s, numC b = true) (he : e = hx (bts s)) (hp : p = pln (bts s)) (L : Lo true h0 h) (hb0 : h0.n ≤ b0) (H : St (Mid.row b0 [.int .u8 0, .str ⟨0, 0⟩, .int .i64 0, .int .i64 0] :: l) h) :
 Tri h0 true l (rNo (.tuple [tokV 0 ⟨0, 0⟩ 0 0, .int .i64 (if flt (bts s) then 31 else 30)])) (P2 s e p b0 h):=by
 have ih166:=fun (c : Bs) (h : Hp) (l : List Asn) (hc : c.n ≤ 70000) (h1 : asciiB c.l = true) (H : St l h) => sp166 hz hc h1 (fun b hb => by have:=numC_of (hs b hb); omega) H
 unfold P2
 generalize hX : (if flt (bts s) then (31 : Int) else 30) = X
 unfold flt at hX
 rw [← he, ← hp] at hX
 cases p with
 | true =>
  apply gtf
  apply pT
  apply gtf
  apply gu
  apply gtf
  apply pT
  apply gtf
  apply gu
  apply gtf
  apply pT
  apply nT
  refine Tri.bldS rfl ?_
  refine wl1 0 H rfl rfl rfl L ‹_› (by first|rfl|assumption) fun h H L => ?_
  obtain rfl : 31 = X:=hX
  exact Tri.done (B:=[]) ⟨rfl, rfl⟩ H.tl L
 | false =>
  apply gff
  apply Mid.bB
  refine tbe1 (sp58 (by first|assumption|omega|rfl|(dsimp;omega)) H) L fun h H L => ?_
  apply bS
  apply pF
  rw [Bool.false_or] at hX
  cases h1 : hasB ((bts s).map UInt8.ofNat) (Bs.l ⟨1, 46⟩) with
  | true =>
   apply gtf
   apply gu
   apply gtf
   apply pT
   apply gtf
   apply gu
   apply gtf
   apply pT
   apply nT
   refine Tri.bldS rfl ?_
   refine wl1 0 H rfl rfl rfl L ‹_› (by first|rfl|assumption) fun h H L => ?_
   rw [h1] at hX
   obtain rfl : 31 = X:=hX
   exact Tri.done (B:=[]) ⟨rfl, rfl⟩ H.tl L
  | false =>
   rw [h1, Bool.false_or] at hX
   cases e with
   | false =>
    apply gff
    refine Tri.eqv (bind_notS _ _) ?_
    refine Tri.not ?_
    apply bS
    apply gtt
    apply Mid.bB
    refine tbe1 (ih166 _ _ _ (by first|assumption|omega|rfl|(dsimp;omega)) (by first|assumption|omega|rfl|(dsimp;omega)) H) L fun h H L => ?_
    apply bS
    apply gff
    apply bO
    apply pT
    apply bS
    apply pF
    cases h2 : anyB ((bts s).map UInt8.ofNat) (Bs.l ⟨2, 17765⟩) with
    | true =>
     apply gtf
     apply gu
     apply gtf
     apply pT
     apply nT
     refine Tri.bldS rfl ?_
     refine wl1 0 H rfl rfl rfl L ‹_› (by first|rfl|assumption) fun h H L => ?_
     rw [h2] at hX
     obtain rfl : 31 = X:=hX
     exact Tri.done (B:=[]) ⟨rfl, rfl⟩ H.tl L
    | false =>
     apply gff
     apply bS
     apply gft
     apply gff
     apply bO
     apply pF
     apply bS
     apply pF
     apply nF
     refine Tri.bldS rfl ?_
     refine wl1 0 H rfl rfl rfl L ‹_› (by first|rfl|assumption) fun h H L => ?_
     rw [h2] at hX
     obtain rfl : 30 = X:=hX
     exact Tri.done (B:=[]) ⟨rfl, rfl⟩ H.tl L
   | true =>
    apply gff
    refine Tri.eqv (bind_notS _ _) ?_
    refine Tri.not ?_
    apply bS
    apply gft
    apply gff
    apply bO
    apply pF
    apply bS
    apply pF
    apply gff
    apply bS
    apply gtt
    apply Mid.bB
    refine tbe1 (ih166 _ _ _ (by first|assumption|omega|rfl|(dsimp;omega)) (by first|assumption|omega|rfl|(dsimp;omega)) H) L fun h H L => ?_
    apply bS
    apply gff
    apply bO
    apply pT
    apply bS
    apply pF
    cases h2 : anyB ((bts s).map UInt8.ofNat) (Bs.l ⟨2, 20592⟩) with
    | true =>
     apply nT
     refine Tri.bldS rfl ?_
     refine wl1 0 H rfl rfl rfl L ‹_› (by first|rfl|assumption) fun h H L => ?_
     rw [h2] at hX
     obtain rfl : 31 = X:=hX
     exact Tri.done (B:=[]) ⟨rfl, rfl⟩ H.tl L
    | false =>
     apply nF
     refine Tri.bldS rfl ?_
     refine wl1 0 H rfl rfl rfl L ‹_› (by first|rfl|assumption) fun h H L => ?_
     rw [h2] at hX
     obtain rfl : 30 = X:=hX
     exact Tri.done (B:=[]) ⟨rfl, rfl⟩ H.tl L
theorem Tri.orS {a b : Bool} {x : VH} {R : V → Hp → VH} (hx : Tri h true l (rNo (.bool b)) x) (H : St l h) (L : Lo ro h0 h) (hk : ∀ h', St l h' → Lo ro h0 h' → Tri h0 ro F Q (R (.bool (a || b)) h')) :
 Tri h0 ro F Q (guardS (.bool a) false (bindS x fun v h => some (v, h)) h fun v h' => optS (pickV (.bool a) (.bool true) v) fun w => R w h'):=by
 cases a with
 | true => exact hk h H L
 | false =>
  refine Tri.eqv (bind_bind _ _ _) (Tri.bind hx L (fun _ => rfl) fun v h B hq H L => ?_)
  obtain ⟨rfl, rfl⟩:=hq
  exact hk h H L
theorem sp98 {s : Bs} (hz : s.n ≤ 70000) (hs : ∀ b ∈ bts s, numC b = true) (hd : ∀ b, (bts s).head? = some b → b ≠ 43 ∧ b ≠ 45) (H : St l h) :
 Tri h true l (rNo (.tuple [tokV (numb (bts s)).1 ⟨0, 0⟩ (numb (bts s)).2.1 0, .int .i64 (numb (bts s)).2.2])) (M 98 [.str s] h):=by
 have ih164:=fun (h : Hp) (l : List Asn) (H : St l h) => sp164 hz (fun b hb => numC_sp (hs b hb)) hd H
 have ih166:=fun (c : Bs) (h : Hp) (l : List Asn) (hc : c.n ≤ 70000) (h1 : asciiB c.l = true) (H : St l h) => sp166 hz hc h1 (fun b hb => by have:=numC_of (hs b hb); omega) H
 refine t1 e98 fun L => ?_
 unfold B98
 generalize hX : numb (bts s) = X
 unfold numb at hX
 refine nw H L fun b0 h hb0 H L => ?_
 refine tbe1 (sp104 (by first|assumption|omega|rfl|(dsimp;omega)) (by first|assumption|omega|rfl|(dsimp;omega)) H) L fun h H L => ?_
 rw [show bts ⟨2, 30768⟩ = [48, 120] from rfl]
 refine Tri.orS (sp104 (y:=⟨2, 22576⟩) hz (by decide) H) H L fun h H L => ?_
 rw [show ([48, 120].isPrefixOf (bts s) || (bts ⟨2, 22576⟩).isPrefixOf (bts s)) = hx (bts s) from rfl]
 refine tb1 (sp162 (by first|assumption|omega|rfl|(dsimp;omega)) (by first|assumption|omega|rfl|(dsimp;omega)) (by first|assumption|omega|rfl|(dsimp;omega)) H) L fun v h B hq20 H L => ?_
 obtain ⟨z20, nz20, ez20, rfl, rfl⟩:=hq20
 refine Tri.strEqL ?_
 refine tbe1 (ih164 _ _ H) L fun h H L => ?_
 refine Tri.ext rfl ?_
 refine Tri.ext rfl ?_
 have ep : decide (bts z20 = bts ⟨0, 0⟩) = pln (bts s):=by rw [ez20]; rfl
 rw [ep]
 cases h1 : (prs (bts s)).2 with
 | false =>
  rw [h1, Bool.false_and, if_neg (by decide)] at hX
  apply gft
  apply gu
  apply gft
  apply pF
  apply nF
  refine Tri.mono (part2 hz hs rfl rfl L hb0 H) fun v B hq => ?_
  obtain ⟨rfl, rfl⟩:=hq
  cases hf : flt (bts s) <;> rw [hf] at hX <;> subst hX <;> exact ⟨rfl, rfl⟩
 | true =>
  cases h2 : hx (bts s) with
  | true =>
   rw [h1, h2, Bool.true_or, Bool.and_self, if_pos rfl] at hX
   subst hX
   apply gtt
   apply bS
   apply gtf
   apply gtt
   apply bO
   apply pT
   apply bS
   apply pT
   apply nT
   refine Tri.bldS rfl ?_
   refine wl1 0 H rfl rfl rfl L ‹_› (by first|rfl|assumption) fun h H L => ?_
   exact Tri.done (B:=[]) ⟨rfl, rfl⟩ H.tl L
  | false =>
   apply gtt
   apply bS
   apply gff
   apply bS
   apply gtt
   apply bO
   apply pF
   apply bS
   apply pT
   refine Tri.ifB (fun h3 => ?_) (fun h3 => ?_)
   ·rw [h1, h2, h3, Bool.or_true, Bool.and_self, if_pos rfl] at hX
    subst hX
    refine Tri.bldS rfl ?_
    refine wl1 0 H rfl rfl rfl L ‹_› (by first|rfl|assumption) fun h H L => ?_
    exact Tri.done (B:=[]) ⟨rfl, rfl⟩ H.tl L
   ·rw [h1, h2, h3, if_neg (by decide)] at hX
    refine Tri.mono (part2 hz hs h2.symm rfl L hb0 H) fun v B hq => ?_
    obtain ⟨rfl, rfl⟩:=hq
    cases hf : flt (bts s) <;> rw [hf] at hX <;> subst hX <;> exact ⟨rfl, rfl⟩
end
end Go.LB
end
