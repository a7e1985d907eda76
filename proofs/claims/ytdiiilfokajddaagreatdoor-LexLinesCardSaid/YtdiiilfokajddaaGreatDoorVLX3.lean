/- A part of the proof. -/
import Derived.Test.YtdiiilfokajddaaGreatDoorVLX0
import Derived.Test.YtdiiilfokajddaaGreatDoorVMidWF
set_option linter.all false
set_option warn.classDefReducibility false
noncomputable section
section
open Go Go.Mid Go.Proofs
set_option maxRecDepth 100000
namespace Go.LX
section
variable {l F : List Asn} {h h0 : Hp} {ro : Bool} {Q : V → List Asn → Prop} {k : V → VH} {K : V → Hp → VH} {v lV : V} {i j n : Nat}
def BD (bb : Nat) (L : List Nat) : Asn:=fun f => ∃ x : V × V, ((x.1 = .nilPtr ∨ x.1 = .ptr bb 0) ∧ (L = [] → x.2 = .nilSlice)) ∧ ands [rwT bb 91 [x.1, x.2], vc true x.2 5 1 (u8s L)] f
theorem openB {bb : Nat} {L : List Nat} (H : St (BD bb L :: l) h) : ∃ p v, (p = .nilPtr ∨ p = .ptr bb 0) ∧ (L = [] → v = .nilSlice) ∧ St (rwT bb 91 [p, v] :: vc true v 5 1 (u8s L) :: l) h:=by
 obtain ⟨x, H⟩:=H.ex
 obtain ⟨⟨h1, h2⟩, H⟩:=H.pure
 exact ⟨_, _, h1, h2, H.app⟩
theorem closeB {bb : Nat} {L : List Nat} {p v : V} (h1 : p = .nilPtr ∨ p = .ptr bb 0) (h2 : L = [] → v = .nilSlice) (H : St (rwT bb 91 [p, v] :: vc true v 5 1 (u8s L) :: l) h) : St (BD bb L :: l) h :=
 (St.pack (l:=[rwT bb 91 [p, v], vc true v 5 1 (u8s L)]) H).imp0 fun f hf => ⟨(p, v), ⟨h1, h2⟩, hf⟩
def rBD (bb : Nat) (L : List Nat) (w : V) : V → List Asn → Prop:=fun v B => v = w ∧ B = [BD bb L]
theorem check {bb : Nat} {p w : V} (hp : p = .nilPtr ∨ p = .ptr bb 0) (H : St (rwT bb 91 [p, w] :: l) h) : Tri h false l (fun v B => v = .tuple [] ∧ B = [rwT bb 91 [.ptr bb 0, w]]) (M 206 [.ptr bb 0] h):=by
 refine t1 e206 fun L => ?_
 unfold B206
 refine Tri.nil (Tri.addr (Tri.loadT H rfl ?_))
 rcases hp with rfl | rfl
 ·refine Tri.eqZ (Tri.ift ?_)
  obtain ⟨t, g, hg⟩:=H.rwT_get
  have e1 : bareV h (.ptr bb 0) = some (.ptr bb 0):=by unfold bareV; simp only [hg]; rfl
  have e2 : M 282 [.ptr bb 0] h = some (.ptr bb 0, h):=by
   refine (@lim_F Tryz.prog (orc fnA Inv) labs 141 _ _ _).2 ⟨0, ?_⟩
   rfl
  have e3 : typedV h 91 2 (.ptr bb 0) = some (.ptr bb 0):=by unfold typedV; simp only [hg]; rfl
  rw [e1]
  refine Tri.bs ?_
  rw [e2]
  refine Tri.bs ?_
  rw [e3]
  refine Tri.bs (Tri.nil (Tri.addr (Tri.storeT H (Nat.le_of_ble_eq_true rfl) L (fun e => nomatch e) rfl fun h H L => ?_)))
  exact Tri.done (B:=[_]) ⟨rfl, rfl⟩ H L
 ·refine Tri.eqP (Tri.iff (Tri.nil (Tri.addr (Tri.loadT H rfl ?_))))
  have e1 : eqOp .neq (cmpP true (.ptr bb 0) (.ptr bb 0)) = some (.bool false):=by
   show eqOp .neq (bif true && Nat.beq bb bb then some (Nat.beq 0 0) else none) = _
   rw [Nat.beq_refl]; rfl
  rw [e1]
  exact Tri.done (B:=[_]) ⟨rfl, rfl⟩ H L
theorem sp142 {bb b : Nat} {Y : List Nat} (hY : Y.length ≤ 1000000) (H : St (BD bb Y :: l) h) : Tri h false l (rBD bb (Y ++ [b]) .nilIface) (M 142 [.ptr bb 0, .int .u8 (b : Int)] h):=by
 refine t2 e142 fun L => ?_
 unfold B142
 obtain ⟨p, v, hp, hv, H⟩:=openB H
 refine Tri.bind (check hp H) L (fun e => e) fun _ h _ hq H L => ?_
 obtain ⟨rfl, rfl⟩:=hq
 refine Tri.nil (Tri.addr (Tri.loadT H rfl ?_))
 refine Tri.bld (e:=_) (s:=_) H L rfl rfl fun b9 h hb9 H L => ?_
 refine Tri.app 2 Y.length 1 (new:=u8s [b]) H rfl (H.newCells (i:=0) rfl rfl) (by decide) (by simp) rfl (by omega) (by omega) rfl L (Own.off _ _) fun v' h H L hO h1 => ?_
 refine Tri.nil (Tri.addr (Tri.storeT H.tl (Nat.le_of_ble_eq_true rfl) L (fun e => nomatch e) h1 fun h H L => ?_))
 refine Tri.done (B:=[BD bb (Y ++ [b])]) ⟨rfl, rfl⟩ (closeB (p:=.ptr bb 0) (v:=v') (.inr rfl) (fun e => absurd e (by simp)) ?_) L
 rw [show u8s (Y ++ [b]) = u8s Y ++ u8s [b] from List.map_append]
 exact H
theorem sp144 {bb : Nat} {Y : List Nat} {z : Bs} (hY : Y.length ≤ 1000000) (hz : z.n ≤ 1000000) (H : St (BD bb Y :: l) h) : Tri h false l (fun v B => v = .tuple [.int .i64 (z.n : Nat), .nilIface] ∧ B = [BD bb (Y ++ bts z)]) (M 144 [.ptr bb 0, .str z] h):=by
 refine t2 e144 fun L => ?_
 unfold B144
 obtain ⟨p, v, hp, hv, H⟩:=openB H
 refine Tri.bind (check hp H) L (fun e => e) fun _ h _ hq H L => ?_
 obtain ⟨rfl, rfl⟩:=hq
 refine Tri.nil (Tri.addr (Tri.loadT H rfl ?_))
 by_cases he : Y = [] ∧ bts z = []
 ·obtain ⟨rfl, e2⟩ := he
  obtain rfl:=hv rfl
  have e0 : z.n = 0:=by rw [← bts_len, e2]; rfl
  have e1 : appS 5 1 1 .nilSlice (.str z) h = some (.nilSlice, h):=by
   unfold appS
   rw [newCells_str, e0, e2]; rfl
  rw [e1]
  refine Tri.bs (Tri.nil (Tri.addr (Tri.storeT H (Nat.le_of_ble_eq_true rfl) L (fun e => nomatch e) rfl fun h H L => ?_)))
  refine Tri.eqv (bind_lenStr _ _) (Tri.lenStr (Tri.bs ?_))
  exact Tri.done (B:=[BD bb ([] ++ bts z)]) ⟨rfl, rfl⟩ (closeB (.inr rfl) (fun _ => rfl) (by rw [e2]; exact H)) L
 ·have hall : ∀ L : List Nat, allOne (u8s L) = true := fun L => by
   induction L with
   | nil => rfl
   | cons a L ih => show (oneCell (u8 a) && allOne (u8s L)) = true; rw [ih]; rfl
  refine Tri.app 1 Y.length z.n (new:=u8s (bts z)) H rfl (newCells_str h z) (by decide) (by simp) (by simp [bts_len]) (by omega) (by omega) (hall _) L (Own.off _ _) fun v' h H L hO h1 => ?_
  refine Tri.nil (Tri.addr (Tri.storeT H (Nat.le_of_ble_eq_true rfl) L (fun e => nomatch e) h1 fun h H L => ?_))
  refine Tri.eqv (bind_lenStr _ _) (Tri.lenStr (Tri.bs ?_))
  refine Tri.done (B:=[BD bb (Y ++ bts z)]) ⟨rfl, rfl⟩ (closeB (p:=.ptr bb 0) (v:=v') (.inr rfl) (fun e => absurd (List.append_eq_nil_iff.1 e) he) ?_) L
  rw [show u8s (Y ++ bts z) = u8s Y ++ u8s (bts z) from List.map_append]
  exact H
def rText (Y : List Nat) : V → List Asn → Prop:=fun w B => ∃ z : Bs, z.n = Y.length ∧ bts z = Y ∧ w = .str z ∧ B = []
theorem sp146 {bb : Nat} {Y : List Nat} (hY : Y.length ≤ 1000000) (hb : ∀ b ∈ Y, b < 256) (H : St (BD bb Y :: l) h) : Tri h false l (rText Y) (M 146 [.ptr bb 0] h):=by
 refine t1 e146 fun L => ?_
 unfold B146
 obtain ⟨p, v, hp, hv, H⟩:=openB H
 refine Tri.nil (Tri.addr (Tri.loadT H rfl ?_))
 obtain ⟨q, z, h', e1, e2, hz, e3, H', hl⟩:=St.see (l:=rwT bb 91 [p, v] :: l) H.u1 hb (by omega) hv
 rw [e1]
 refine Tri.bs (Tri.nil (Tri.addr (Tri.loadT H rfl (Tri.eqv (bind_lenSl _ _) (Tri.lenV 1 Y.length H rfl (by decide) (by simp) (Tri.bs ?_))))))
 rw [e2]
 exact Tri.done (B:=[]) ⟨z, hz, e3, rfl, rfl⟩ H'.tl (hl _ L)
theorem newB (H : St l h) (L : Lo ro h0 h) (hK : ∀ b h', h0.n ≤ b → St (BD b [] :: l) h' → Lo ro h0 h' → Tri h0 ro F Q (K (.ptr b 0) h')) : Tri h0 ro F Q (Mid.newS 91 [.nilPtr, .nilSlice] h K) :=
 Tri.newT H L fun b h hb H L => hK b h hb (closeB (.inl rfl) (fun _ => rfl) (St.vc_new true 5 1 H).u1) L
def lns : List Nat → List Nat
 | [] => []
 | [b] => [if isEnd b then 10 else b]
 | b :: c :: r => if isEnd b then (if isEnd c && c != b then 10 :: lns r else 10 :: lns (c :: r)) else b :: lns (c :: r)
theorem lns_no {b : Nat} (h : isEnd b = false) : ∀ r, lns (b :: r) = b :: lns r
 | [] => by simp [lns, h]
 | c :: r => by simp [lns, h]
theorem lns_two {b c : Nat} (h : isEnd b = true) (h2 : isEnd c = true) (h3 : c ≠ b) (r : List Nat) : lns (b :: c :: r) = 10 :: lns r:=by simp [lns, h, h2, h3]
theorem lns_end {b c : Nat} (h : isEnd b = true) (h2 : isEnd c = false ∨ c = b) (r : List Nat) : lns (b :: c :: r) = 10 :: lns (c :: r):=by
 rcases h2 with h2 | h2 <;> simp [lns, h, h2]
theorem lns_le : ∀ (m : Nat) (L : List Nat), L.length ≤ m → (lns L).length ≤ L.length
 | _, [], _ => Nat.le_refl 0
 | _, [b], _ => Nat.le_refl 1
 | 0, b :: c :: r, h => by simp at h
 | m + 1, b :: c :: r, h => by
  simp only [List.length_cons] at h
  have h1:=lns_le m (c :: r) (by simp only [List.length_cons]; omega)
  have h2:=lns_le m r (by omega)
  simp only [lns]
  split
  ·split <;> simp only [List.length_cons] at h1 ⊢ <;> omega
  ·simp only [List.length_cons] at h1 ⊢; omega
theorem lines_ok {s : Bs} {bb : Nat} (hs : s.n ≤ 70000) : ∀ (m i : Nat) (Y : List Nat) (h : Hp) (l : List Asn), s.n - i ≤ m → i ≤ s.n → Y.length ≤ i → (∀ b ∈ Y, b < 256) → St (BD bb Y :: l) h →
 Tri h false l (rText (Y ++ lns ((bts s).drop i))) (M 47 [.str s, .ptr bb 0, .int .i64 (i : Int)] h):=by
 intro m
 induction m with
 | zero =>
  intro i Y h l hm hi hY hb H
  refine t3 e47 fun L => ?_
  unfold B47
  refine Tri.eqv (bind_lenStr _ _) ?_
  refine Tri.lenStr ?_
  refine Tri.bs ?_
  refine Tri.lss (fun e => by omega) (fun e => ?_)
  refine Tri.iff ?_
  refine Tri.bind (sp146 (by first | rfl | assumption | omega | (dsimp only; omega)) (by first | rfl | assumption | omega | (dsimp only; omega)) H) L (fun e => e) fun v h B hq1 H L => ?_
  obtain ⟨z1, nz1, ez1, rfl, rfl⟩:=hq1
  rw [bts_end (by omega), show lns [] = [] from rfl, List.append_nil]
  exact Tri.done (B:=[]) ⟨_, by assumption, by assumption, rfl, rfl⟩ H L
 | succ m ih =>
  intro i Y h l hm hi hY hb H
  have ih49 : ∀ (i : Nat) (Y : List Nat) (h : Hp) (l : List Asn), s.n - (i + 1) ≤ m → i + 1 ≤ s.n → Y.length ≤ i + 1 → (∀ b ∈ Y, b < 256) → ∀ N, N = Y ++ lns ((bts s).drop (i + 1)) → St (BD bb Y :: l) h →
   Tri h false l (rText N) (M 49 [.str s, .ptr bb 0, .int .i64 (i : Int)] h):=by
   intro i Y h l hm hi hY hb N hN H
   refine t3 e49 fun L => ?_
   unfold B49
   refine Tri.addN (by omega) (by omega) ?_
   rw [hN]
   exact Tri.tail (ih (i + 1) Y h l hm hi hY hb H) L (fun e => e) fun v h B hq H L => ⟨B, hq, H⟩
  have hb1 : ∀ (Y : List Nat) (b : Nat), (∀ b ∈ Y, b < 256) → b < 256 → ∀ c ∈ Y ++ [b], c < 256 := fun Y b h1 h2 c hc => by
   rcases List.mem_append.1 hc with h | h
   ·exact h1 c h
   ·rw [List.mem_singleton.1 h]; exact h2
  refine t3 e47 fun L => ?_
  unfold B47
  refine Tri.eqv (bind_lenStr _ _) ?_
  refine Tri.lenStr ?_
  refine Tri.bs ?_
  refine Tri.lss (fun e => ?_) (fun e => ?_)
  ·have hi' : i < s.n := by omega
   refine Tri.ift ?_
   refine Tri.idxStr (by omega) (by omega) ?_
   refine Tri.bind (sp80 H) L (fun _ => rfl) fun v h B hq2 H L => ?_
   obtain ⟨rfl, rfl⟩:=hq2
   refine Tri.not ?_
   rw [bts_drop hi', show ((i : Int)).toNat = i from rfl]
   cases h1 : isEnd (s.byte i) with
   | false =>
    refine Tri.ift ?_
    refine Tri.idxStr (by omega) (by omega) ?_
    refine Tri.bind (sp142 (by first | rfl | assumption | omega | (dsimp only; omega)) H) L (fun e => e) fun v h B hq22 H L => ?_
    obtain ⟨rfl, rfl⟩:=hq22
    exact Tri.tail (ih49 i _ h l (by omega) (by omega) (by simp; omega) (hb1 _ _ hb (by first | exact bts_lt _ _ | decide)) _ (by rw [lns_no h1]; simp) H) L (fun e => e) fun v h B hq H L => ⟨B, hq, H⟩
   | true =>
    refine Tri.iff ?_
    refine Tri.bind (sp142 (by first | rfl | assumption | omega | (dsimp only; omega)) H) L (fun e => e) fun v h B hq41 H L => ?_
    obtain ⟨rfl, rfl⟩:=hq41
    refine Tri.addN (by omega) (by omega) ?_
    refine Tri.eqv (bind_lenStr _ _) ?_
    refine Tri.lenStr ?_
    refine Tri.bs ?_
    refine Tri.lss (fun e2 => ?_) (fun e2 => ?_)
    ·refine Tri.eqv (guard_tt _ _ _) ?_
     refine Tri.bs ?_
     refine Tri.eqv (guard_tt _ _ _) ?_
     refine Tri.bs ?_
     refine Tri.eqv (guard_tt _ _ _) ?_
     refine Tri.eqv (bind_intS _ _) ?_
     refine Tri.addN (by omega) (by omega) ?_
     refine Tri.bs ?_
     refine Tri.eqv (guard_tt _ _ _) ?_
     refine Tri.eqv (bind_idxStr _ _) ?_
     refine Tri.idxStr (by omega) (by omega) ?_
     refine Tri.bs ?_
     refine Tri.eqv (guardB_tt _ _) ?_
     have Ho73:=H
     refine Tri.wrote (sp80 (H.draw _)) L (fun _ => rfl) fun v h2 h B hq73 H2 hn73 hl73 eh73 H L => ?_
     obtain ⟨rfl, rfl⟩:=hq73
     refine Tri.eqv (pick_t _ _ _) ?_
     have hi2 : i + 1 < s.n:=by omega
     rw [show ((i : Int) + 1).toNat = i + 1 from rfl]
     rw [bts_drop hi2]
     cases h2 : isEnd (s.byte (i + 1)) with
     | false =>
      refine Tri.eqv (guard_ft _ _ _) ?_
      refine Tri.eqv (guard_ft _ _ _) ?_
      refine Tri.eqv (guard_ft _ _ _) ?_
      refine Tri.eqv (guard_ft _ _ _) ?_
      refine Tri.eqv (guard_ft _ _ _) ?_
      refine Tri.eqv (guard_ft _ _ _) ?_
      refine Tri.eqv (guard_ft _ _ _) ?_
      refine Tri.eqv (guard_ft _ _ _) ?_
      refine Tri.eqv (pick_f _ _ _) ?_
      refine Tri.iff ?_
      exact Tri.tail (ih49 i _ h l (by omega) (by omega) (by simp; omega) (hb1 _ _ hb (by first | exact bts_lt _ _ | decide)) _ (by rw [bts_drop hi2, lns_end h1 (.inl h2)]; simp) H) L (fun e => e) fun v h B hq H L => ⟨B, hq, H⟩
     | true =>
      refine Tri.eqv (guard_tt _ _ _) ?_
      refine Tri.bs ?_
      refine Tri.eqv (guard_tt _ _ _) ?_
      refine Tri.bs ?_
      refine Tri.eqv (guard_tt _ _ _) ?_
      refine Tri.eqv (bind_intS _ _) ?_
      refine Tri.addN (by omega) (by omega) ?_
      refine Tri.bs ?_
      refine Tri.eqv (guard_tt _ _ _) ?_
      refine Tri.eqv (bind_idxStr _ _) ?_
      refine Tri.idxStr (by omega) (by omega) ?_
      refine Tri.bs ?_
      refine Tri.eqv (guard_tt _ _ _) ?_
      refine Tri.bs ?_
      refine Tri.eqv (guard_tt _ _ _) ?_
      refine Tri.bs ?_
      refine Tri.eqv (guard_tt _ _ _) ?_
      refine Tri.eqv (bind_idxStr _ _) ?_
      refine Tri.idxStr (by omega) (by omega) ?_
      refine Tri.bs ?_
      refine Tri.eqv (guard_tt _ _ _) ?_
      refine Tri.eqv (bind_intS _ _) ?_
      refine Tri.neq (fun e3 => ?_) (fun e3 => ?_)
      ·refine Tri.bs ?_
       refine Tri.eqv (pick_t _ _ _) ?_
       refine Tri.ift ?_
       refine Tri.addN (by omega) (by omega) ?_
       have e3' : s.byte (i + 1) ≠ s.byte i:=fun c => e3 (congrArg Int.ofNat c)
       exact Tri.tail (ih49 (i + 1) _ h l (by omega) (by omega) (by simp; omega) (hb1 _ _ hb (by first | exact bts_lt _ _ | decide)) _ (by rw [lns_two h1 h2 e3']; simp) H) L (fun e => e) fun v h B hq H L => ⟨B, hq, H⟩
      ·refine Tri.bs ?_
       refine Tri.eqv (pick_t _ _ _) ?_
       refine Tri.iff ?_
       have e3' : s.byte (i + 1) = s.byte i:=Int.ofNat.inj e3
       exact Tri.tail (ih49 i _ h l (by omega) (by omega) (by simp; omega) (hb1 _ _ hb (by first | exact bts_lt _ _ | decide)) _ (by rw [bts_drop hi2, lns_end h1 (.inr e3')]; simp) H) L (fun e => e) fun v h B hq H L => ⟨B, hq, H⟩
    ·refine Tri.eqv (guard_ft _ _ _) ?_
     refine Tri.eqv (guard_ft _ _ _) ?_
     refine Tri.eqv (guard_ft _ _ _) ?_
     refine Tri.eqv (guard_ft _ _ _) ?_
     refine Tri.eqv (guardB_ft _ _) ?_
     refine Tri.eqv (pick_f _ _ _) ?_
     refine Tri.eqv (guard_ft _ _ _) ?_
     refine Tri.eqv (guard_ft _ _ _) ?_
     refine Tri.eqv (guard_ft _ _ _) ?_
     refine Tri.eqv (guard_ft _ _ _) ?_
     refine Tri.eqv (guard_ft _ _ _) ?_
     refine Tri.eqv (guard_ft _ _ _) ?_
     refine Tri.eqv (guard_ft _ _ _) ?_
     refine Tri.eqv (guard_ft _ _ _) ?_
     refine Tri.eqv (pick_f _ _ _) ?_
     refine Tri.iff ?_
     rw [bts_end (show s.n ≤ i + 1 by omega)]
     exact Tri.tail (ih49 i _ h l (by omega) (by omega) (by simp; omega) (hb1 _ _ hb (by first | exact bts_lt _ _ | decide)) _ (by rw [bts_end (show s.n ≤ i + 1 by omega)]; simp [lns, h1]) H) L (fun e => e) fun v h B hq H L => ⟨B, hq, H⟩
  ·refine Tri.iff ?_
   refine Tri.bind (sp146 (by first | rfl | assumption | omega | (dsimp only; omega)) (by first | rfl | assumption | omega | (dsimp only; omega)) H) L (fun e => e) fun v h B hq1 H L => ?_
   obtain ⟨z1, nz1, ez1, rfl, rfl⟩:=hq1
   rw [bts_end (by omega), show lns [] = [] from rfl, List.append_nil]
   exact Tri.done (B:=[]) ⟨_, by assumption, by assumption, rfl, rfl⟩ H L
theorem sp156 {s : Bs} (hs : s.n ≤ 70000) (H : St l h) : Tri h false l (rText (lns (bts s))) (M 156 [.str s] h):=by
 refine t1 e156 fun L => ?_
 unfold B156
 refine newB H L fun b h hb H L => ?_
 exact Tri.tail (lines_ok hs _ 0 [] h l (Nat.le_refl _) (by omega) (Nat.le_refl _) (fun b hb => nomatch hb) H) L (fun e => e) fun v h B hq H L => ⟨B, hq, H⟩
def trp (y x : List Nat) : List Nat:=if y.isPrefixOf x then x.drop y.length else x
theorem sp218 {x y : Bs} (hx : x.n ≤ 70000) (hy : y.n ≤ 70000) (H : St l h) : Tri h true l (rText (trp (bts y) (bts x))) (M 218 [.str x, .str y] h):=by
 refine t2 e218 fun L => ?_
 unfold B218
 unfold trp
 refine Tri.bind (sp172 (by first | rfl | assumption | omega | (dsimp only; omega)) (by first | rfl | assumption | omega | (dsimp only; omega)) H) L (fun _ => rfl) fun v h B hq0 H L => ?_
 obtain ⟨rfl, rfl⟩:=hq0
 cases hp : (bts y).isPrefixOf (bts x) with
 | true =>
  have : y.n ≤ x.n:=by
   rw [pfx_take, decide_eq_true_iff, bts_len, bts_len] at hp; exact hp.1
  refine Tri.ift ?_
  refine Tri.eqv (bind_lenStr _ _) ?_
  refine Tri.lenStr ?_
  refine Tri.bs ?_
  refine Tri.cutLo (by omega) (by omega) fun z24 nz24 ez24 => ?_
  have e1 : bts z24 = (bts x).drop y.n:=ez24
  refine Tri.done (B:=[]) ⟨z24, ?_, ?_, rfl, rfl⟩ H L
  ·rw [← bts_len, e1, if_pos rfl, bts_len]
  ·rw [e1, if_pos rfl, bts_len]
 | false =>
  refine Tri.iff ?_
  exact Tri.done (B:=[]) ⟨_, (bts_len _).symm, rfl, rfl, rfl⟩ H L
theorem sp154 {x y : Bs} (hx : x.n ≤ 70000) (hy : y.n ≤ 70000) (H : St l h) : Tri h true l (rText (trp (bts y) (bts x))) (M 154 [.str x, .str y] h):=by
 refine t2 e154 fun L => ?_
 unfold B154
 refine Tri.bind (sp218 (by first | rfl | assumption | omega | (dsimp only; omega)) (by first | rfl | assumption | omega | (dsimp only; omega)) H) L (fun _ => rfl) fun v h B hq0 H L => ?_
 obtain ⟨z0, nz0, ez0, rfl, rfl⟩:=hq0
 exact Tri.done (B:=[]) ⟨_, by assumption, by assumption, rfl, rfl⟩ H L
end
end Go.LX
end
