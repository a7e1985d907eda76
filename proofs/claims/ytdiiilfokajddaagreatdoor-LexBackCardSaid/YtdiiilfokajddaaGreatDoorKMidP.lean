/- A region that draws its order: one more operation. -/
import Derived.Test.YtdiiilfokajddaaGreatDoorKMidM
set_option linter.all false
set_option warn.classDefReducibility false
noncomputable section
section
open Go.RowKit
namespace Go.Mid
section
variable {P : Program} [Orc] [OrcOk P]
@[reducible] def pend (Z : Res) (es : List En) (L : Nat → Prop) : Res:=⟨fun b => Z.res b ∨ ∃ (j : Nat) (e : En), es[j]? = some e ∧ e.fl = true ∧ ¬ L j ∧ blkV e.v = some b, Z.pin⟩
structure InvS (Z : Res) (P : Program) (all : Array Oper) (es : List En) (s : Hd) (t0 : Tr V) (w0 : World) (N : Nat) (ρ0 : Rho) (ds : List Deferred) (L : Nat → Prop) (a : Act) (w : World) (c q : Nat) (H : Hp) (ρ : Rho) : Prop where
 cc : c ≤ s.c
 qq : q ≤ s.st.length
 hH : s.hs.get c = some H
 rr : @R _ (pend Z es L) P w0 w (stores (s.st.take q) H) ρ
 ext : Ext ρ0 ρ
 df : a.defers = ds
 sz : a.tmps.size = N
 mks : ∀ (j : Nat) e, es[j]? = some e → e.mak = true → (L j ↔ e.m < c)
 st : ∀ (j : Nat) e, es[j]? = some e → e.sto = true → (L j ↔ e.si < q)
 fr : ∀ m X, m ≤ c → s.hs.get m = some X → ∀ b, X.n ≤ b → X.t.get b = none
 tg : ∀ p ∈ s.st.take q, p.1 < H.n
 t1 : ∀ (j : Nat) e d, es[j]? = some e → L j → e.o.dst = some d → Rel ρ e.v (a.tmps.getD d undef)
 t2 : ∀ u v, (∀ (j : Nat) e, es[j]? = some e → L j → e.o.dst ≠ some u) → t0.get u = some v → Rel ρ v (a.tmps.getD u undef)
 cl : Closed all L
 zn : ∀ (j : Nat) e b, es[j]? = some e → e.fl = true → blkV e.v = some b → ¬ Z.res b
def Inv (Z : Res) (P : Program) (all : Array Oper) (es : List En) (s : Hd) (t0 : Tr V) (w0 : World) (N : Nat) (ρ0 : Rho) (ds : List Deferred) (L : Nat → Prop) (a : Act) (w : World) : Prop:=∃ c q H ρ, InvS Z P all es s t0 w0 N ρ0 ds L a w c q H ρ
theorem chain_le {r : Rn} {all : Array Oper} {t0 : Tr V} {h0 : Hp} {es : List En} {s : Hd} (G : Good P r all t0 h0 es s) {m : Nat} {X : Hp} (hX : s.hs.get m = some X) :
 ∀ d H, m + d ≤ s.c → s.hs.get (m + d) = some H → X.n ≤ H.n ∧ ((∀ (j : Nat) e, es[j]? = some e → e.wr = true → ¬ (m ≤ e.m ∧ e.m < m + d)) → ∀ b, b < X.n → H.t.get b = X.t.get b)
 | 0, H, _, hH => by
  rw [Nat.add_zero, hX] at hH
  simp only [Option.some.injEq] at hH; subst hH
  exact ⟨Nat.le_refl _, fun _ _ _ => rfl⟩
 | d + 1, H, hc, hH => by
  obtain ⟨Y, hY⟩:=G.hsc (m + d) (by omega)
  obtain ⟨h1, h2⟩:=chain_le G hX d Y (by omega) hY
  obtain ⟨h3, h4⟩:=G.chain (m + d) Y H hY (by rw [← Nat.add_assoc] at hH; exact hH)
  exact ⟨Nat.le_trans h1 h3, fun hw b hb => by rw [h4 (fun j e he hr hm => hw j e he hr (by omega)) b (by omega), h2 (fun j e he hr hm => hw j e he hr (by omega)) b hb]⟩
theorem memN_of {n : Nat} : ∀ {l : List Nat}, n ∈ l → memN n l = true
 | m :: l, h => by
  simp only [memN, Bool.or_eq_true]
  rcases List.mem_cons.1 h with rfl | h
  ·exact .inl (Nat.beq_refl _)
  ·exact .inr (memN_of h)
theorem tmpsIn_of {t : Tmp} : ∀ {l : List Operand}, Operand.tmp t ∈ l → t ∈ tmpsIn l
 | x :: l, h => by
  rcases List.mem_cons.1 h with rfl | h
  ·exact List.mem_cons_self
  ·have := tmpsIn_of h
   cases x <;> simp only [tmpsIn] <;> first | exact List.mem_cons_of_mem _ this | exact this
def Pairs (all : Array Oper) (k : Nat) : Prop:=∀ (i j : Nat) x y, i < j → j < k → all[i]? = some x → all[j]? = some y → pairOk (masks all) all x i y j = true
theorem pairsWith_spec {ms : Tr Nat} {all : Array Oper} {x : Oper} {i : Nat} : ∀ (l : List Oper) (j : Nat), pairsWith ms all x i l j = true → ∀ (p : Nat) y, l[p]? = some y → pairOk ms all x i y (j + p) = true
 | [], _, _, p, y, h => by simp at h
 | z :: l, j, h, p, y, hy => by
  simp only [pairsWith, Bool.and_eq_true] at h
  cases p with
  | zero => simp only [List.getElem?_cons_zero, Option.some.injEq] at hy; subst hy; exact h.1
  | succ p =>
   have:=pairsWith_spec l (j + 1) h.2 p y (by simpa using hy)
   rw [show j + (p + 1) = j + 1 + p by omega]; exact this
theorem pairsOk_spec {ms : Tr Nat} {all : Array Oper} : ∀ (l : List Oper) (i : Nat), pairsOk ms all l i = true → ∀ (p q : Nat) x y, p < q → l[p]? = some x → l[q]? = some y → pairOk ms all x (i + p) y (i + q) = true
 | [], _, _, p, q, x, y, _, h, _ => by simp at h
 | z :: l, i, h, p, q, x, y, hpq, hx, hy => by
  simp only [pairsOk, Bool.and_eq_true] at h
  cases q with
  | zero => omega
  | succ q =>
   cases p with
   | zero =>
    simp only [List.getElem?_cons_zero, Option.some.injEq] at hx; subst hx
    have:=pairsWith_spec l (i + 1) h.1 q y (by simpa using hy)
    rw [show i + (q + 1) = i + 1 + q by omega]; exact this
   | succ p =>
    have:=pairsOk_spec l (i + 1) h.2 p q x y (by omega) (by simpa using hx) (by simpa using hy)
    rw [show i + (q + 1) = i + 1 + q by omega, show i + (p + 1) = i + 1 + p by omega]; exact this
theorem Pairs.dist {all : Array Oper} {k i j : Nat} {x y : Oper} (h : Pairs all k) (hij : i ≠ j) (hi : i < k) (hj : j < k) (hx : all[i]? = some x) (hy : all[j]? = some y) {d : Tmp} (hd : x.dst = some d) : y.dst ≠ some d:=by
 intro hd2
 rcases Nat.lt_or_gt_of_ne hij with h1 | h1
 ·have := h i j x y h1 hj hx hy
  simp [pairOk, hd, hd2] at this
 ·have := h j i y x h1 hi hy hx
  simp [pairOk, hd, hd2] at this
theorem Pairs.before {all : Array Oper} {k i j : Nat} {x y : Oper} (h : Pairs all k) (hij : i < j) (hj : j < k) (hx : all[i]? = some x) (hy : all[j]? = some y) {d : Tmp} (hd : x.dst = some d) (hl : d ∈ looks all y) : anc (masks all) j i = true:=by
 have:=h i j x y hij hj hx hy
 simp only [pairOk, hd, memN_of hl, Bool.and_eq_true, Bool.not_true, Bool.false_or] at this
 exact this.1.2
theorem Pairs.after {all : Array Oper} {k i j : Nat} {x y : Oper} (h : Pairs all k) (hij : i < j) (hj : j < k) (hx : all[i]? = some x) (hy : all[j]? = some y) {d : Tmp} (hd : y.dst = some d) (hl : d ∈ looks all x) : anc (masks all) j i = true:=by
 have:=h i j x y hij hj hx hy
 simp only [pairOk, hd, memN_of hl, Bool.and_eq_true, Bool.not_true, Bool.false_or] at this
 exact this.2
section
variable {Z : Res} {n : Nat} {all : Array Oper} {t0 : Tr V} {h0 : Hp} {es : List En} {s : Hd} {w0 w : World} {N c q : Nat} {ρ0 ρ : Rho} {ds : List Deferred} {r : Option Nat} {L : Nat → Prop} {a : Act} {H : Hp}
theorem nd_le {r : Rn} (G : Good P r all t0 h0 es s) (I : InvS Z P all es s t0 w0 N ρ0 ds L a w c q H ρ) : ∀ (j : Nat) e, es[j]? = some e → L j → e.nd ≤ c:=by
 intro j
 induction j using Nat.strongRecOn with
 | _ j ih =>
  intro e he hl
  have hm : e.m ≤ c:=G.mm j e he c fun ed h1 h2 e' h3 h4 => ih ed.on h3 e' h4 (I.cl j e.o (G.op j e he) hl ed h1 h2)
  cases hmak : e.mak with
  | true =>
   rw [(G.made j e he hmak).2.2.2.2.2.2.1]
   have:=(I.mks j e he hmak).1 hl
   omega
  | false =>
   cases hb : e.b with
   | false => rw [(G.skip j e he hb).2.1]; exact hm
   | true =>
    cases hst : e.sto with
    | true => rw [(G.stor j e he hst).2.2.2.2]; exact hm
    | false =>
     cases hfl : e.fl with
     | true => rw [(G.flo j e he hfl).2.2.2.1]; exact hm
     | false => rw [(G.read j e he hb hmak hst hfl).2.2.2]; exact hm
theorem m_le {r : Rn} (G : Good P r all t0 h0 es s) (I : InvS Z P all es s t0 w0 N ρ0 ds L a w c q H ρ) {i : Nat} {e : En} (he : es[i]? = some e) (hr : ∀ ed ∈ e.o.after.toList, Region.binds .any ed = true → L ed.on) : e.m ≤ c :=
 G.mm i e he c fun ed h1 h2 e' _ h4 => nd_le G I ed.on e' h4 (hr ed h1 h2)
theorem looks_rel {r : Rn} (G : Good P r all t0 h0 es s) (I : InvS Z P all es s t0 w0 N ρ0 ds L a w c q H ρ) (hp : Pairs all es.length) {i : Nat} {e : En} (he : es[i]? = some e) (hnl : ¬ L i)
 (hr : ∀ ed ∈ e.o.after.toList, Region.binds .any ed = true → L ed.on) {u : Tmp} (hu : u ∈ looks all e.o) {v : V} (hv : e.t.get u = some v) : Rel ρ v (a.tmps.getD u undef):=by
 have hi:=get_lt he
 rcases G.tt i e he u v hv with ⟨j, e', h1, h2, h3, h4⟩ | ⟨h1, h2⟩
 ·have ha := hp.before h1 hi (G.op j e' h2) (G.op i e he) h3 hu
  have hl:=anc_ready I.cl (G.op i e he) hr ha
  rw [← h4]; exact I.t1 j e' u h2 hl h3
 ·refine I.t2 u v (fun j e' hj hl hd => ?_) h2
  rcases Nat.lt_trichotomy j i with h | h | h
  ·exact h1 j e' h hj hd
  ·subst h; exact hnl hl
  ·have ha := hp.after h (get_lt hj) (G.op i e he) (G.op j e' hj) hd hu
   exact hnl (anc_listed I.cl hl ha)
theorem ops_rel {r : Rn} (G : Good P r all t0 h0 es s) (I : InvS Z P all es s t0 w0 N ρ0 ds L a w c q H ρ) (hp : Pairs all es.length) {i : Nat} {e : En} (he : es[i]? = some e) (hnl : ¬ L i)
 (hr : ∀ ed ∈ e.o.after.toList, Region.binds .any ed = true → L ed.on) : OpR ρ a e.t e.o.op.operands.toList:=by
 intro x hx v hv
 cases x with
 | tmp u =>
  refine looks_rel G I hp he hnl hr ?_ hv
  unfold looks
  exact List.mem_append_right _ (tmpsIn_of hx)
 | const k => exact absV_rel ρ k v hv
 | global g => exact glob_rel (@R.glob _ (pend Z es L) _ _ _ _ _ I.rr) hv
 | func f =>
  simp only [evalO, Option.some.injEq] at hv; subst hv
  exact .func (xs:=[]) (ys:=[]) f rfl (fun i v x h => by simp at h) rfl (fun i v x h => by simp at h)
theorem inv_next {r : Rn} (G : Good P r all t0 h0 es s) (I : InvS Z P all es s t0 w0 N ρ0 ds L a w c q H ρ) (hp : Pairs all es.length) {i : Nat} {e : En} (he : es[i]? = some e) (hnl : ¬ L i)
 (hr : ∀ ed ∈ e.o.after.toList, Region.binds .any ed = true → L ed.on) (hd : ∀ d, e.o.dst = some d → d < N) {x : Value} {w' : World} {ρ' : Rho} {c' q' : Nat} {H' : Hp} (hx : Rel ρ' e.v x) (hext : Ext ρ ρ')
 (hcc : c' ≤ s.c) (hqq : q' ≤ s.st.length) (hH : s.hs.get c' = some H') (hR : @R _ (pend Z es fun j => L j ∨ j = i) P w0 w' (stores (s.st.take q') H') ρ')
 (hmk : ∀ (j : Nat) e', es[j]? = some e' → e'.mak = true → (e'.m < c' ↔ (e'.m < c ∨ j = i))) (hst : ∀ (j : Nat) e', es[j]? = some e' → e'.sto = true → (e'.si < q' ↔ (e'.si < q ∨ j = i)))
 (hfr : ∀ m X, m ≤ c' → s.hs.get m = some X → ∀ b, X.n ≤ b → X.t.get b = none) (htg : ∀ p ∈ s.st.take q', p.1 < H'.n) :
 InvS Z P all es s t0 w0 N ρ0 ds (fun j => L j ∨ j = i) (a.put e.o.dst x) w' c' q' H' ρ':=by
 have hi:=get_lt he
 have hget : ∀ u, e.o.dst ≠ some u → (a.put e.o.dst x).tmps.getD u undef = a.tmps.getD u undef:=by
  intro u hu
  cases hdd : e.o.dst with
  | none => rfl
  | some d =>
   rw [put_getD _ _ _ _ (by rw [I.sz]; exact hd d hdd), if_neg (fun h => hu (by rw [hdd, h]))]
 refine ⟨hcc, hqq, hH, hR, I.ext.trans hext, by rw [put_defers]; exact I.df, by rw [put_size]; exact I.sz, ?_, ?_, hfr, htg, ?_, ?_, ?_, I.zn⟩
 ·intro j e' hj hm
  rw [hmk j e' hj hm, ← I.mks j e' hj hm]
 ·intro j e' hj hm
  rw [hst j e' hj hm, ← I.st j e' hj hm]
 ·intro j e' d hj hl hdd
  rcases hl with hl | rfl
  ·have hne : j ≠ i := fun h => by subst h; exact hnl hl
   rw [hget d (hp.dist hne (get_lt hj) hi (G.op j e' hj) (G.op i e he) hdd)]
   exact (I.t1 j e' d hj hl hdd).ext hext
  ·rw [he] at hj; simp only [Option.some.injEq] at hj; subst hj
   rw [hdd, put_getD _ _ _ _ (by rw [I.sz]; exact hd d hdd), if_pos rfl]
   exact hx
 ·intro u v hu hv
  rw [hget u (hu i e he (.inr rfl))]
  exact (I.t2 u v (fun j e' hj hl => hu j e' hj (.inl hl)) hv).ext hext
 ·intro j o hj hl ed h1 h2
  rcases hl with hl | rfl
  ·exact .inl (I.cl j o hj hl ed h1 h2)
  ·rw [G.op j e he] at hj; simp only [Option.some.injEq] at hj; subst hj
   exact .inl (hr ed h1 h2)
theorem nd_ge {r : Rn} (G : Good P r all t0 h0 es s) {j : Nat} {e : En} (he : es[j]? = some e) : e.m ≤ e.nd:=by
 cases hmak : e.mak with
 | true => rw [(G.made j e he hmak).2.2.2.2.2.2.1]; omega
 | false =>
  cases hb : e.b with
  | false => rw [(G.skip j e he hb).2.1]; exact Nat.le_refl _
  | true =>
   cases hst : e.sto with
   | true => rw [(G.stor j e he hst).2.2.2.2]; exact Nat.le_refl _
   | false =>
    cases hfl : e.fl with
    | true => rw [(G.flo j e he hfl).2.2.2.1]; exact Nat.le_refl _
    | false => rw [(G.read j e he hb hmak hst hfl).2.2.2]; exact Nat.le_refl _
theorem anc_nd {r : Rn} (G : Good P r all t0 h0 es s) (hback : ∀ (i : Nat) o, all[i]? = some o → ∀ ed ∈ o.after.toList, Region.binds .any ed = true → ed.on < i) {j : Nat} {e' : En} (hj : es[j]? = some e') :
 ∀ {i : Nat} {e : En}, es[i]? = some e → anc (masks all) i j = true → e'.nd ≤ e.m:=by
 intro i
 induction i using Nat.strongRecOn with
 | _ i ih =>
  intro e he ha
  obtain ⟨o, h1, ed, h2, h3, h4⟩:=anc_spec ha
  have ho:=G.op i e he
  rw [h1] at ho; simp only [Option.some.injEq] at ho; subst ho
  have hlt:=hback i e.o h1 ed h2 h3
  rcases h4 with h4 | ⟨_, h5⟩
  ·exact G.mlow i e he ed h2 h3 e' hlt (by rw [h4]; exact hj)
  ·have hin : ed.on < es.length := Nat.lt_trans hlt (get_lt he)
   have hx : es[ed.on]? = some es[ed.on]:=List.getElem?_eq_getElem hin
   have:=ih ed.on hlt hx h5
   exact Nat.le_trans this (Nat.le_trans (nd_ge G hx) (G.mlow i e he ed h2 h3 _ hlt hx))
theorem pend_less {Z : Res} {es : List En} {L : Nat → Prop} {i : Nat} (b : Nat) (h : (pend Z es fun j => L j ∨ j = i).res b) : (pend Z es L).res b:=by
 rcases h with h | ⟨j, e, h1, h2, h3, h4⟩
 ·exact .inl h
 ·exact .inr ⟨j, e, h1, h2, fun h => h3 (.inl h), h4⟩
theorem noDeferV {ρ : Operand → Value} {o : Oper} {w w' : World} {x : Value} (h : (execOp ρ o).run P w = .ok (.value x) w') : ∀ c, o.op ≠ .defer c:=by
 intro c e
 unfold execOp at h
 rw [e] at h
 simp only [Sem.run_bind] at h
 cases hr : (resolve ρ c o.type).run P w <;> rw [hr] at h <;> simp [Result.andThen] at h
theorem noDeferS {ρ : Operand → Value} {o : Oper} {w w' : World} (h : (execOp ρ o).run P w = .ok .skip w') : ∀ c, o.op ≠ .defer c:=by
 intro c e
 unfold execOp at h
 rw [e] at h
 simp only [Sem.run_bind] at h
 cases hr : (resolve ρ c o.type).run P w <;> rw [hr] at h <;> simp [Result.andThen] at h
theorem inv_step (hback : ∀ (i : Nat) o, all[i]? = some o → ∀ ed ∈ o.after.toList, Region.binds .any ed = true → ed.on < i) (hN : Named P) (IH : CodeIH P n) (G : Good P (run P n) all t0 h0 es s) (hI : Inv Z P all es s t0 w0 N ρ0 ds L a w) (hp : Pairs all es.length) {i : Nat} {e : En} (he : es[i]? = some e) (hnl : ¬ L i)
 (hr : ∀ ed ∈ e.o.after.toList, Region.binds .any ed = true → L ed.on) (hd : ∀ d, e.o.dst = some d → d < N) {K : Act → World → Prop} {Q : Exit → Act → World → Prop}
 (hK : ∀ a' w', Inv Z P all es s t0 w0 N ρ0 ds (fun j => L j ∨ j = i) a' w' → K a' w') : wpOpIn (Fw r) 0 P all Q i K a w:=by
 obtain ⟨c, q, H, ρ, I⟩:=hI
 letI ZL : Res:=pend Z es L
 have hi:=get_lt he
 have hmc:=m_le G I he hr
 have hops:=ops_rel G I hp he hnl hr
 have hmkn : e.mak = false → ∀ (j : Nat) e', es[j]? = some e' → e'.mak = true → (e'.m < c ↔ (e'.m < c ∨ j = i)):=by
  intro h j e' hj hm
  refine ⟨.inl, fun h2 => ?_⟩
  rcases h2 with h2 | rfl
  ·exact h2
  ·rw [he] at hj; simp only [Option.some.injEq] at hj; subst hj; rw [h] at hm; cases hm
 have hstn : e.sto = false → ∀ (j : Nat) e', es[j]? = some e' → e'.sto = true → (e'.si < q ↔ (e'.si < q ∨ j = i)):=by
  intro h j e' hj hm
  refine ⟨.inl, fun h2 => ?_⟩
  rcases h2 with h2 | rfl
  ·exact h2
  ·rw [he] at hj; simp only [Option.some.injEq] at hj; subst hj; rw [h] at hm; cases hm
 unfold wpOpIn
 rw [G.op i e he]
 simp only
 have hw := want_sim (ρ := ρ) (a := a) (t := e.t) (all := all) (o := e.o) (fun j want d hg hdd v hv => by
  refine looks_rel G I hp he hnl hr ?_ hv
  unfold looks
  rw [hg]
  refine List.mem_append_left _ (List.mem_append_right _ ?_)
  cases hj : all[j]? with
  | none => rw [hj] at hdd; simp at hdd
  | some o' =>
   rw [hj] at hdd
   simp only [Option.bind_some] at hdd
   simp [hj, hdd]) (G.want i e he)
 cases hb : e.b with
 | false =>
  rw [hb] at hw
  rw [if_neg (by rw [hw]; simp)]
  obtain ⟨h1, _, h3, h4⟩:=G.skip i e he hb
  refine ⟨fun _ _ => trivial, ?_⟩
  exact hK _ _ ⟨c, q, H, ρ, inv_next G I hp he hnl hr hd (by rw [h1]; exact rel_unit ρ) (Ext.refl _) I.cc I.qq I.hH (R.mono pend_less (fun _ _ h => h) I.rr) (hmkn h3) (hstn h4) I.fr I.tg⟩
 | true =>
  rw [hb] at hw
  rw [if_pos hw]
  have hoff : e.sto = false → obliv e.o.op = false → ∀ k, k < q → ∃ b ob, s.st[k]? = some (b, ob) ∧ okV b (ldV e.t e.o.op e.v) = true:=by
   intro h1 h2 k hk
   obtain ⟨j, e', hj, hs, hsi⟩:=G.sall k (Nat.lt_of_lt_of_le hk I.qq)
   have hl:=(I.st j e' hj hs).2 (by omega)
   rcases Nat.lt_trichotomy j i with h5 | h5 | h5
   ·have := G.nosto j i e' e h5 hj he hs hb h1
    rw [h2] at this; cases this
   ·subst h5; exact (hnl hl).elim
   ·rcases G.sanc i j e e' h5 he hj hb h2 hs with h | h
    ·exact (hnl (anc_listed I.cl hl h)).elim
    ·rw [hsi] at h; exact h
  have hq0 : e.sto = false → obliv e.o.op = false → (∀ b, okV b (ldV e.t e.o.op e.v) = false) → q = 0:=by
   intro h1 h2 hld
   rcases Nat.eq_zero_or_pos q with h | h
   ·exact h
   ·obtain ⟨b, ob, _, h3⟩ := hoff h1 h2 0 h
    rw [hld] at h3; cases h3
  have hwx : obliv e.o.op = false → ∀ (j : Nat) e', es[j]? = some e' → e'.wr = true → (e.m ≤ e'.m ∧ e'.m < c) → sameLd e'.h e'.h' (ldV e.t e.o.op e.v) = true:=by
   intro h2 j e' hj hwr hm
   have hl:=(I.mks j e' hj (G.wmak j e' hj hwr)).2 hm.2
   have hmk:=G.made j e' hj (G.wmak j e' hj hwr)
   rcases Nat.lt_trichotomy j i with h5 | h5 | h5
   ·rcases G.wbeh j i e' e h5 hj he hwr hb h2 with h | h
    ·have := anc_nd G hback hj he h
     have:=hmk.2.2.2.2.2.2.1
     omega
    ·exact h
   ·subst h5; exact (hnl hl).elim
   ·rcases G.wanc i j e e' h5 he hj hb h2 hwr with h | h
    ·exact (hnl (anc_listed I.cl hl h)).elim
    ·exact h
  have hnw : obliv e.o.op = false → (∀ X Y, sameLd X Y (ldV e.t e.o.op e.v) = false) → ∀ (j : Nat) e', es[j]? = some e' → e'.wr = true → ¬ (e.m ≤ e'.m ∧ e'.m < c):=by
   intro h2 hld j e' hj hwr hm
   have:=hwx h2 j e' hj hwr hm
   rw [hld] at this; cases this
  cases hmak : e.mak with
  | true =>
   obtain ⟨_, hmk1, g1, g2, g3, ⟨lw, g4⟩, _, g5⟩:=G.made i e he hmak
   have hsto : e.sto = false:=by
    cases hs : e.sto with
    | false => rfl
    | true => have:=(G.stor i e he hs).2.1; rw [hmak] at this; cases this
   have hmeq : e.m = c:=by
    have:=mt (I.mks i e he hmak).2 hnl
    omega
   rw [hmeq] at g1 g4
   rw [I.hH] at g1
   simp only [Option.some.injEq] at g1
   have hmk' : ∀ (j : Nat) e', es[j]? = some e' → e'.mak = true → (e'.m < c + 1 ↔ (e'.m < c ∨ j = i)):=by
    intro j e' hj hm
    constructor
    ·intro h
     rcases Nat.lt_or_ge e'.m c with h2 | h2
     ·exact .inl h2
     ·exact .inr (G.mdist j i e' e hj he hm hmak (by omega))
    ·rintro (h | rfl)
     ·omega
     ·rw [he] at hj; simp only [Option.some.injEq] at hj; subst hj; omega
   have fin : ∀ x w' ρ', Rel ρ' e.v x → Ext ρ ρ' → R P w0 w' (stores (s.st.take q) ⟨e.h'.t, e.h'.n, lw⟩) ρ' → (∀ b, e.h'.n ≤ b → e.h'.t.get b = none) → e.h.n ≤ e.h'.n → K (a.put e.o.dst x) w':=by
    intro x w' ρ' h1 h2 h3 h4 h5
    refine hK _ _ ⟨c + 1, q, _, ρ', inv_next G I hp he hnl hr hd h1 h2 (by omega) I.qq g4 (R.mono pend_less (fun _ _ h => h) h3) hmk' (hstn hsto) ?_ ?_⟩
    ·intro m X hm hX
     by_cases hmm : m = c + 1
     ·subst hmm
      rw [g4] at hX; simp only [Option.some.injEq] at hX; subst hX
      exact h4
     ·exact I.fr m X (by omega) hX
    ·intro p hpp
     have:=I.tg p hpp
     rw [g1] at this
     simp only; omega
   cases ho : obliv e.o.op with
   | false =>
    have:=hq0 hsto ho (fun b => by rw [ldV_makes hmk1]; rfl)
    subst this
    have hR0 : R P w0 w ⟨e.h.t, e.h.n, e.h.n⟩ ρ:=by
     have:=I.rr
     simp only [List.take_zero, stores] at this
     exact this.congr (fun b => by rw [g1]) (by rw [g1])
    refine opV_sim hN IH hR0 hops g2 fun x w' ρ' h1 h2 h3 => fin x w' ρ' h1 h2 ?_ (fun b hb => h3.fresh b hb) (op_fr (run_fr n) g2).n
    simp only [List.take_zero, stores]
    exact h3.congr (fun _ => rfl) rfl
   | true =>
    have g2' : execV P e.t ⟨e.h.t, e.h.n, e.h.n⟩ e.o.op = some (e.v, e.h'):=by
     cases hc : isCall e.o with
     | false => unfold opV at g2; rw [hc] at g2; exact g2
     | true =>
      rw [obliv_zero (xk_call hc)] at ho
      unfold isCall at hc
      cases hop : e.o.op <;> simp [hop, oblivC] at ho <;> simp [callOp, hop] at hc
    obtain ⟨hc, ob, h1, h2⟩:=obliv_make ho hmk1 g2'
    have hex:=h2 (stores (s.st.take q) H) (by rw [stores_n, g1])
    have hop : opV P (run P n) e.t (stores (s.st.take q) H) e.o = some (e.v, (stores (s.st.take q) H).new ob):=by
     unfold opV; rw [hc]; exact hex
    refine opV_sim hN IH I.rr hops hop fun x w' ρ' h3 h4 h5 => fin x w' ρ' h3 h4 ?_ ?_ ?_
    ·refine h5.congr (fun b => ?_) ?_
     ·have := stores_new (l := s.st.take q) (h := H) (ob := ob) I.tg b
      rw [← this]
      refine stores_congr _ ?_
      rw [h1, g1]; rfl
     ·rw [stores_n, h1]
      simp only [Hp.new, stores_n, g1]
    ·intro b hb
     rw [h1] at hb ⊢
     simp only [Hp.new] at hb ⊢
     rw [Tr.get_set_ne _ _ (by omega)]
     have:=I.fr c H (Nat.le_refl _) I.hH b (by rw [g1]; omega)
     rw [g1] at this; exact this
    ·rw [h1]; exact Nat.le_succ _
  | false =>
   cases hsto : e.sto with
   | false =>
    cases hfl : e.fl with
    | true =>
     obtain ⟨_, _, _, hnd, ty', cs, b', hfc, hv, hmem⟩:=G.flo i e he hfl
     obtain ⟨p', b2, ty2, cs2, o', q1, q2, _, _, _, q5, q6, q7⟩:=G.fst i _ hmem
     obtain ⟨rfl, rfl, rfl⟩:=fent_inj q1
     rw [hv] at q2
     simp only [Option.some.injEq] at q2
     subst q2
     have hrow : ∀ m X, m ≤ c → s.hs.get m = some X → X.t.get b' = some (.cells (Tr.nil.setL 0 cs) cs.length false ty') ∧ b' < X.n:=by
      intro m
      induction m with
      | zero =>
       intro X _ hX
       rw [G.hs0] at hX
       simp only [Option.some.injEq] at hX; subst hX
       exact ⟨q6, q5⟩
      | succ m ih =>
       intro X hm hX
       obtain ⟨Y, hY⟩:=G.hsc m (by have:=I.cc; omega)
       obtain ⟨i1, i2⟩:=ih Y (by omega) hY
       have hch:=G.chain m Y X hY hX
       refine ⟨?_, Nat.lt_of_lt_of_le i2 hch.1⟩
       by_cases hw : ∃ (j : Nat) (e' : En), es[j]? = some e' ∧ e'.wr = true ∧ e'.m = m
       ·obtain ⟨j, e', hj, hwr, hm'⟩ := hw
        obtain ⟨_, _, k1, k0, _, ⟨lw, k2⟩, _, _⟩:=G.made j e' hj (G.wmak j e' hj hwr)
        rw [hm', hY] at k1
        simp only [Option.some.injEq] at k1
        rw [hm', hX] at k2
        simp only [Option.some.injEq] at k2
        have hl:=(I.mks j e' hj (G.wmak j e' hj hwr)).2 (by omega)
        rcases G.fwr j e' hj hwr i _ hmem with h | h
        ·exact (hnl (anc_listed I.cl hl h)).elim
        ·have hX2 : X.t.get b' = e'.h'.t.get b' := by rw [k2]
         rw [hX2]
         have h' : (Nat.blt b' e'.h'.low || isRow (e'.h'.t.get b') ty' cs) = true:=by
          have h2 : floOk e'.h' e.v ty' cs = true:=h
          unfold floOk at h2
          rw [hv] at h2
          exact h2
         rw [Bool.or_eq_true] at h'
         rcases h' with h' | h'
         ·have f := op_fr (run_fr n) k0
          have hlt : b' < e'.h.n:=by rw [← k1]; exact i2
          have:=f.get b' hlt (Nat.le_of_ble_eq_true h')
          rw [this]
          show e'.h.t.get b' = _
          rw [← k1]; exact i1
         ·exact isRow_eq h'
       ·rw [hch.2 (fun j e' hj hwr hm' => hw ⟨j, e', hj, hwr, hm'⟩) b' i2]; exact i1
     have hno : ∀ p ∈ s.st.take q, p.1 ≠ b':=by
      intro p hp'
      obtain ⟨k, hk, hpk⟩:=List.getElem_of_mem hp'
      have hkq : k < q:=by simp at hk; omega
      obtain ⟨j, e', hj, hs, hsi⟩:=G.sall k (Nat.lt_of_lt_of_le hkq I.qq)
      have hl:=(I.st j e' hj hs).2 (by omega)
      rcases G.fsto j e' hj hs i _ hmem with h | ⟨bb, ob, h3, h4⟩
      ·exact (hnl (anc_listed I.cl hl h)).elim
      ·rw [List.getElem_take] at hpk
       have hkl : k < s.st.length:=by simp at hk; omega
       rw [hsi, List.getElem?_eq_getElem hkl, hpk] at h3
       simp only [Option.some.injEq] at h3
       rw [h3]
       intro hbb
       simp only at hbb
       subst hbb
       simp [okV, offB, fent, hv] at h4
     obtain ⟨r1, r2⟩:=@R.rs _ (pend Z es L) _ _ _ _ _ I.rr b' (.inr ⟨i, e, he, hfl, hnl, hv⟩)
     obtain ⟨x, w', ρ', h1, h2, h3, h4⟩ := flo_sim (Z1 := pend Z es L) (Z2 := pend Z es fun j => L j ∨ j = i) I.rr hfc hv hops r1 r2 (by rw [stores_not _ _ hno]; exact (hrow c H (Nat.le_refl _) I.hH).1) (fun y hy => ⟨pend_less y hy, fun hyb => by
      subst hyb
      rcases hy with hy | ⟨j, e', hj, hf, hnj, hv'⟩
      ·exact I.zn i e y he hfl hv hy
      ·obtain ⟨_, _, _, _, ty2, z2, b2, _, hv2, hm2⟩ := G.flo j e' hj hf
       exact hnj (.inr (q7 j _ _ _ _ hm2 rfl hv'))⟩) (fun _ _ h => h)
     unfold Oper.wpIn
     refine ⟨fun _ _ => trivial, ?_⟩
     rw [Oper.semAt_eq _ _ _ (noDeferV h1), h1, Oper.uponIn_value]
     exact hK _ _ ⟨c, q, H, ρ', inv_next G I hp he hnl hr hd h2 h3 I.cc I.qq I.hH h4 (hmkn hmak) (hstn hsto) I.fr I.tg⟩
    | false =>
    obtain ⟨hmk1, g1, ⟨h', g2⟩, _⟩:=G.read i e he hb hmak hsto hfl
    have fin : ∀ x, (execOp a.eval e.o).run P w = .ok (.value x) w → Rel ρ e.v x → e.o.wpIn (Fw r) 0 P a w K Q:=by
     intro x h1 h2
     unfold Oper.wpIn
     refine ⟨fun _ _ => trivial, ?_⟩
     rw [Oper.semAt_eq _ _ _ (noDeferV h1), h1, Oper.uponIn_value]
     exact hK _ _ ⟨c, q, H, ρ, inv_next G I hp he hnl hr hd h2 (Ext.refl _) I.cc I.qq I.hH (R.mono pend_less (fun _ _ h => h) I.rr) (hmkn hmak) (hstn hsto) I.fr I.tg⟩
    cases ho : obliv e.o.op with
    | true =>
     have hex:=obliv_read (P:=P) (t:=e.t) ho hmk1 e.h (stores (s.st.take q) H)
     rw [g2] at hex
     obtain ⟨_, x, h1, h2⟩:=read_sim I.rr.live hops hmk1 hex
     exact fin x h1 h2
    | false =>
     have hstd : (xk e.o.op = 0 ∧ ∃ ty xa bl off, e.o.op = .load ty xa ∧ evalO e.t xa = some (.ptr bl off) ∧ ldV e.t e.o.op e.v = .tuple [.ptr bl off, e.v]) ∨ ((∀ b, okV b (ldV e.t e.o.op e.v) = false) ∧ ∀ X Y, sameLd X Y (ldV e.t e.o.op e.v) = false):=by
      rcases ldV_cases e.t e.o.op e.v with h | ⟨hx0, ty, xa, x, h1, h2, h3⟩
      ·rw [h]; exact .inr ⟨fun _ => rfl, fun _ _ => rfl⟩
      ·rw [h3]
       cases x <;> first | exact .inl ⟨hx0, ty, xa, _, _, h1, h2, rfl⟩ | exact .inr ⟨fun _ => rfl, fun _ _ => rfl⟩
     rcases hstd with ⟨hx0, ty, xa, bl, off, hop, hea, hlv⟩ | ⟨hld, hld2⟩
     ·have hno : ∀ p ∈ s.st.take q, p.1 ≠ bl:=by
       intro p hp
       obtain ⟨k, hk, hpk⟩:=List.getElem_of_mem hp
       have hkq : k < q:=by simp at hk; omega
       obtain ⟨b, ob, h3, h4⟩:=hoff hsto ho k hkq
       rw [List.getElem_take] at hpk
       have hkl : k < s.st.length:=by simp at hk; omega
       rw [List.getElem?_eq_getElem hkl, hpk] at h3
       simp only [Option.some.injEq] at h3
       rw [hlv] at h4
       intro hb2
       rw [h3] at hb2
       simp only at hb2
       subst hb2
       simp [okV, offP] at h4
      have hg2:=g2
      rw [execV_zero hx0, hop] at hg2
      simp only [execC, hea, exLoad] at hg2
      obtain ⟨_, hl2⟩:=vh_some hg2
      have hlow : ∀ (m : Nat) X, m ≤ c → s.hs.get m = some X → loadV P X ty bl off = some e.v → bl < X.n:=by
       intro m X hm hX hl
       unfold loadV at hl
       rcases Nat.lt_or_ge bl X.n with h | h
       ·exact h
       ·rw [I.fr m X hm hX bl h] at hl; simp [cellsT] at hl
      have hall : ∀ (d : Nat) X, e.m + d ≤ c → s.hs.get (e.m + d) = some X → loadV P X ty bl off = some e.v:=by
       intro d
       induction d with
       | zero =>
        intro X _ hX
        rw [Nat.add_zero, g1] at hX
        simp only [Option.some.injEq] at hX; subst hX; exact hl2
       | succ d ih =>
        intro X hc hX
        obtain ⟨Y, hY⟩:=G.hsc (e.m + d) (by have:=I.cc; omega)
        have hlY:=ih Y (by omega) hY
        by_cases hw : ∃ (j : Nat) (e' : En), es[j]? = some e' ∧ e'.wr = true ∧ e'.m = e.m + d
        ·obtain ⟨j, e', hj, hwr, hm⟩ := hw
         have h1:=hwx ho j e' hj hwr ⟨by omega, by omega⟩
         obtain ⟨_, _, k1, _, _, ⟨lw, k2⟩, _, _⟩:=G.made j e' hj (G.wmak j e' hj hwr)
         rw [hm, hY] at k1
         simp only [Option.some.injEq] at k1; subst k1
         rw [hm, Nat.add_assoc, hX] at k2
         simp only [Option.some.injEq] at k2; subst k2
         rw [hlv] at h1
         have:=sameA_load (P:=P) hlY h1
         exact this
        ·have := (G.chain (e.m + d) Y X hY (by rw [Nat.add_assoc]; exact hX)).2 (fun j e' hj hwr hm => hw ⟨j, e', hj, hwr, hm⟩) bl (hlow _ Y (by omega) hY hlY)
         unfold loadV at hlY ⊢
         rw [this]; exact hlY
      obtain ⟨d, rfl⟩ : ∃ d, c = e.m + d:=⟨c - e.m, by omega⟩
      have hlH:=hall d H (Nat.le_refl _) I.hH
      have hex : execV P e.t (stores (s.st.take q) H) e.o.op = some (e.v, stores (s.st.take q) H):=by
       rw [execV_zero hx0, hop]
       simp only [execC, hea, exLoad]
       have : loadV P (stores (s.st.take q) H) ty bl off = loadV P H ty bl off:=by unfold loadV; rw [stores_not _ _ hno]
       rw [this, hlH]; rfl
      obtain ⟨_, x, h1, h2⟩:=read_sim I.rr.live hops hmk1 hex
      exact fin x h1 h2
     have:=hq0 hsto ho hld
     subst this
     have hrr:=I.rr
     simp only [List.take_zero, stores] at hrr
     have hlive : Live P ρ w e.h:=by
      intro b l o hb2 ho2
      have hlt : b < e.h.n:=by
       rcases Nat.lt_or_ge b e.h.n with h | h
       ·exact h
       ·rw [I.fr e.m e.h hmc g1 b h] at ho2; cases ho2
      obtain ⟨d, rfl⟩ : ∃ d, c = e.m + d:=⟨c - e.m, by omega⟩
      have:=(chain_le G g1 d H I.cc I.hH).2 (hnw ho hld2) b hlt
      exact hrr.live b l o hb2 (by rw [this]; exact ho2)
     obtain ⟨_, x, h1, h2⟩:=read_sim hlive hops hmk1 g2
     exact fin x h1 h2
   | true =>
    obtain ⟨_, _, ⟨ty, xa, xv, b, off, v, ob, hop, ha, hx, g1, g2, g3⟩, hv, _⟩:=G.stor i e he hsto
    have hsiq : e.si = q:=by
     have h1 : ¬ e.si < q:=mt (I.st i e he hsto).2 hnl
     rcases Nat.eq_or_lt_of_le (Nat.not_lt.1 h1) with h2 | h2
     ·exact h2.symm
     ·
      have hlt:=G.slt i e he hsto
      obtain ⟨j, e', hj, hs, hsi⟩:=G.sall q (by omega)
      have hji : j < i:=by
       rcases Nat.lt_trichotomy j i with h5 | h5 | h5
       ·exact h5
       ·subst h5; rw [he] at hj; simp only [Option.some.injEq] at hj; subst hj; omega
       ·have := G.sord i j e e' h5 he hj hsto hs; omega
      have hob : obliv e'.o.op = false:=by
       obtain ⟨_, _, ⟨ty', xa', xv', _, _, _, _, hop', _⟩, _⟩:=G.stor j e' hj hs
       rw [obliv_zero (xk_store hop'), hop']; rfl
      have hb':=(G.stor j e' hj hs).1
      have ha' : anc (masks all) i j = true:=by
       rcases G.sanc j i e' e hji hj he hb' hob hsto with h | ⟨b', ob', _, h⟩
       ·exact h
       ·obtain ⟨_, _, ⟨ty', xa', xv', _, _, _, _, hop', _⟩, _⟩ := G.stor j e' hj hs
        rw [ldV_store hop'] at h; cases h
      have hl:=anc_ready I.cl (G.op i e he) hr ha'
      have:=(I.st j e' hj hs).1 hl
      omega
    rw [hsiq] at g2 g3
    have hgetb : (stores (s.st.take q) H).t.get b = (stores (s.st.take q) e.h).t.get b:=by
     by_cases hmem : ∃ p ∈ s.st.take q, p.1 = b
     ·exact stores_mem _ _ _ hmem
     ·have hno : ∀ p ∈ s.st.take q, p.1 ≠ b := fun p hp hb2 => hmem ⟨p, hp, hb2⟩
      rw [stores_not _ _ hno, stores_not _ _ hno]
      have hsome : ∃ o, e.h.t.get b = some o:=by
       unfold storeO at g2
       rw [stores_not _ _ hno] at g2
       cases hg : e.h.t.get b with
       | none => simp [hg] at g2
       | some o => exact ⟨o, rfl⟩
      obtain ⟨o, ho⟩:=hsome
      have hlt : b < e.h.n:=by
       rcases Nat.lt_or_ge b e.h.n with h | h
       ·exact h
       ·rw [I.fr e.m e.h hmc g1 b h] at ho; cases ho
      obtain ⟨d, rfl⟩ : ∃ d, c = e.m + d:=⟨c - e.m, by omega⟩
      exact (chain_le G g1 d H I.cc I.hH).2 (hnw (by rw [obliv_zero (xk_store hop), hop]; rfl) (fun X Y => by rw [ldV_store hop]; rfl)) b hlt
    have hst : storeO P (stores (s.st.take q) H) ty b off v = some ob:=by
     unfold storeO at g2 ⊢
     rw [hgetb]; exact g2
    have hex : execV P e.t (stores (s.st.take q) H) e.o.op = some (unitV, (stores (s.st.take q) H).put b ob):=by
     rw [execV_zero (xk_store hop), hop]
     simp only [execC, exStore, ha, hx, storeV, hst]
    have hcall : isCall e.o = false:=by unfold isCall; rw [hop]; rfl
    obtain ⟨x, w', ρ', h1, h2, h3, h4⟩:=make_sim I.rr hops hcall hex
    have hblt : b < H.n:=by
     have hg:=hst
     unfold storeO at hg
     cases hgb : (stores (s.st.take q) H).t.get b with
     | none => simp [hgb] at hg
     | some o =>
      rcases Nat.lt_or_ge b H.n with h | h
      ·exact h
      ·rw [I.rr.fresh b (by rw [stores_n]; exact h)] at hgb; cases hgb
    have hqlt : q < s.st.length:=by
     have:=G.slt i e he hsto; omega
    have htake : s.st.take (q + 1) = s.st.take q ++ [(b, ob)]:=by
     rw [List.take_succ_eq_append_getElem hqlt]
     congr 2
     rw [List.getElem?_eq_getElem hqlt] at g3
     simpa using g3
    have hst' : ∀ (j : Nat) e', es[j]? = some e' → e'.sto = true → (e'.si < q + 1 ↔ (e'.si < q ∨ j = i)):=by
     intro j e' hj hs
     constructor
     ·intro h
      rcases Nat.lt_or_ge e'.si q with h5 | h5
      ·exact .inl h5
      ·refine .inr ?_
       rcases Nat.lt_trichotomy j i with h6 | h6 | h6
       ·have := G.sord j i e' e h6 hj he hs hsto; omega
       ·exact h6
       ·have := G.sord i j e e' h6 he hj hsto hs; omega
     ·rintro (h | rfl)
      ·omega
      ·rw [he] at hj; simp only [Option.some.injEq] at hj; subst hj; omega
    have fin : K (a.put e.o.dst x) w':=by
     refine hK _ _ ⟨c, q + 1, H, ρ', inv_next G I hp he hnl hr hd (by rw [hv]; exact h2) h3 I.cc hqlt I.hH ?_ (hmkn hmak) hst' I.fr ?_⟩
     ·rw [htake, stores_append]; exact R.mono pend_less (fun _ _ h => h) h4
     ·intro p hp
      rw [htake] at hp
      rcases List.mem_append.1 hp with hp | hp
      ·exact I.tg p hp
      ·rw [List.mem_singleton.1 hp]; exact hblt
    unfold Oper.wpIn
    refine ⟨fun _ _ => trivial, ?_⟩
    rcases h1 with h1 | ⟨h1, rfl⟩
    ·rw [Oper.semAt_eq _ _ _ (noDeferV h1), h1, Oper.uponIn_value]; exact fin
    ·rw [Oper.semAt_eq _ _ _ (noDeferS h1), h1, Oper.uponIn_skip]; exact fin
end
end
section
variable {P : Program} [Orc] [Z : Res] [OrcOk P]
theorem edgesBack_spec : ∀ (l : List Oper) (i : Nat), edgesBack l i = true → ∀ (p : Nat) o, l[p]? = some o → ∀ e ∈ o.after.toList, Region.binds .any e = true → e.on < i + p
 | [], _, _, p, o, h => by simp at h
 | x :: l, i, h, p, o, ho => by
  simp only [edgesBack, Bool.and_eq_true] at h
  cases p with
  | zero =>
   simp only [List.getElem?_cons_zero, Option.some.injEq] at ho; subst ho
   intro e he hb
   have:=List.all_eq_true.1 h.1 e he
   rw [hb] at this
   simp only [Bool.not_true, Bool.false_or] at this
   exact Nat.le_of_ble_eq_true this
  | succ p =>
   intro e he hb
   have:=edgesBack_spec l (i + 1) h.2 p o (by simpa using ho) e he hb
   omega
theorem filter_lt {p p' : Nat → Bool} : ∀ (l : List Nat), (∀ x, p' x = true → p x = true) → (∃ x ∈ l, p x = true ∧ p' x = false) → (l.filter p').length < (l.filter p).length
 | [], _, h => by obtain ⟨x, hx, _⟩:=h; cases hx
 | y :: l, hi, h => by
  have le : ∀ l : List Nat, (l.filter p').length ≤ (l.filter p).length:=by
   intro l
   induction l with
   | nil => exact Nat.le_refl _
   | cons z l ih =>
    simp only [List.filter_cons]
    cases h1 : p' z with
    | true => rw [hi z h1]; simp; exact ih
    | false =>
     cases p z with
     | true => simp; omega
     | false => simpa using ih
  obtain ⟨x, hx, h1, h2⟩:=h
  rcases List.mem_cons.1 hx with rfl | hx
  ·simp only [List.filter_cons, h1, h2]
   have:=le l
   simp; omega
  ·have ih := filter_lt l hi ⟨x, hx, h1, h2⟩
   simp only [List.filter_cons]
   cases h3 : p' y with
   | true => rw [hi y h3]; simp; exact ih
   | false =>
    cases p y with
    | true => simp; omega
    | false => simpa using ih
section
variable {all : Array Oper} {Q : Exit → Act → World → Prop} {ds : List Deferred} {r : Option Nat}
theorem getD_two {listed : Array Bool} {j : Nat} (h : j < listed.size) : listed.getD j true = listed.getD j false:=by
 simp [Array.getD_eq_getD_getElem?, h]
theorem getD_set {listed : Array Bool} {i j : Nat} (h : i < listed.size) : ((listed.setIfInBounds i true).getD j false = true) ↔ (listed.getD j false = true ∨ j = i):=by
 simp only [Array.getD_eq_getD_getElem?, Array.getElem?_setIfInBounds]
 by_cases e : i = j
 ·subst e; simp [h]
 ·simp [e]; intro h2; exact (e h2.symm).elim
theorem wpAny_tail {k : Nat} (hb : ∀ i, k ≤ i → i < all.size → behind (masks all) i = true) (hback : ∀ (i : Nat) o, all[i]? = some o → ∀ e ∈ o.after.toList, Region.binds .any e = true → e.on < i) :
 ∀ (m fuel i0 : Nat) (listed : Array Bool) (a : Act) (w : World), m = all.size - i0 → listed.size = all.size → (∀ j, listed.getD j false = true ↔ j < i0) → k ≤ i0 → i0 ≤ all.size → m ≤ fuel →
  wpOpsIn (Fw r) 0 P all Q (List.range' i0 m) a w → wpAnyIn (Fw r) 0 P .any all Q fuel listed a w
 | 0, fuel, i0, listed, a, w, hm, hs, hl, _, hi, _, h => by
  have hr : Region.ready .any all listed = []:=by
   apply List.eq_nil_iff_forall_not_mem.2
   intro j hj
   obtain ⟨h1, o, h2, _⟩:=mem_ready.1 hj
   have hlt:=(Array.getElem?_eq_some_iff.1 h2).1
   rw [getD_two (by omega)] at h1
   have:=(hl j).2 (by omega)
   rw [h1] at this; cases this
  exact wpAnyIn_done hr h fuel
 | m + 1, fuel, i0, listed, a, w, hm, hs, hl, hk, hi, hf, h => by
  obtain ⟨f, rfl⟩ : ∃ f, fuel = f + 1:=⟨fuel - 1, by omega⟩
  have hlt : i0 < all.size:=by omega
  have hcl : Closed all (fun j => listed.getD j false = true):=fun i o ho hli e he hbi => (hl _).2 (Nat.lt_trans (hback i o ho e he hbi) ((hl i).1 hli))
  have hin : i0 ∈ Region.ready .any all listed:=by
   refine mem_ready.2 ⟨?_, all[i0], Array.getElem?_eq_getElem hlt, fun e he hbi => (hl _).2 (hback i0 _ (Array.getElem?_eq_getElem hlt) e (by simpa using he) hbi)⟩
   rw [getD_two (by omega)]
   cases hh : listed.getD i0 false with
   | false => rfl
   | true => have:=(hl i0).1 hh; omega
  refine ⟨fun hr => (by rw [hr] at hin; cases hin), fun i hir => ?_⟩
  obtain ⟨h1, o, h2, h3⟩:=mem_ready.1 hir
  have hil:=(Array.getElem?_eq_some_iff.1 h2).1
  rw [getD_two (by omega)] at h1
  have hge : i0 ≤ i:=by
   rcases Nat.lt_or_ge i i0 with h | h
   ·have := (hl i).2 h; rw [h1] at this; cases this
   ·exact h
  have heq : i = i0:=by
   rcases Nat.eq_or_lt_of_le hge with h | h
   ·exact h.symm
   ·have ha := behind_anc (hb i (by omega) hil) h
    have:=anc_ready hcl h2 (fun e he hbi => h3 e (by simpa using he) hbi) ha
    have:=(hl i0).1 this; omega
  subst heq
  rw [List.range'_succ, wpOpsIn_cons] at h
  refine wpOpIn_mono (fun a w h => ?_) h
  refine wpAny_tail hb hback m f (i + 1) _ a w (by omega) (by simp [hs]) (fun j => ?_) (by omega) (by omega) (by omega) h
  rw [getD_set (by omega), hl j]
  omega
theorem wpAny_head {n : Nat} (hN : Named P) (IH : CodeIH P n) {t0 : Tr V} {h0 : Hp} {es : List En} {s : Hd} {w0 : World} {N : Nat} {ρ0 : Rho} (G : Good P (run P n) all t0 h0 es s) (hp : Pairs all es.length)
 (hb : ∀ i, es.length ≤ i → i < all.size → behind (masks all) i = true) (hback : ∀ (i : Nat) o, all[i]? = some o → ∀ e ∈ o.after.toList, Region.binds .any e = true → e.on < i) (hle : es.length ≤ all.size)
 (hd : ∀ (i : Nat) o d, all[i]? = some o → o.dst = some d → d < N)
 (fin : ∀ ρ H a w, s.hs.get s.c = some H → TR ρ s.t a → R P w0 w (stores s.st H) ρ → Ext ρ0 ρ → a.defers = ds → a.tmps.size = N → wpOpsIn (Fw r) 0 P all Q (List.range' es.length (all.size - es.length)) a w) :
 ∀ (fuel : Nat) (listed : Array Bool) (a : Act) (w : World), listed.size = all.size → Inv Z P all es s t0 w0 N ρ0 ds (fun j => listed.getD j false = true) a w → (∀ j, listed.getD j false = true → j < es.length) →
  ((List.range all.size).filter (fun j => !listed.getD j false)).length ≤ fuel → wpAnyIn (Fw r) 0 P .any all Q fuel listed a w:=by
 have done : ∀ (fuel : Nat) (listed : Array Bool) (a : Act) (w : World), listed.size = all.size → Inv Z P all es s t0 w0 N ρ0 ds (fun j => listed.getD j false = true) a w → (∀ j, listed.getD j false = true ↔ j < es.length) →
  ((List.range all.size).filter (fun j => !listed.getD j false)).length ≤ fuel → wpAnyIn (Fw r) 0 P .any all Q fuel listed a w:=by
  intro fuel listed a w hs hI hl hcnt
  obtain ⟨c, q, H, ρ, I⟩:=hI
  have hc : c = s.c:=by
   rcases Nat.eq_or_lt_of_le I.cc with h | h
   ·exact h
   ·obtain ⟨j, e, h1, h2, h3⟩ := G.mall c h
    have:=(I.mks j e h1 h2).1 ((hl j).2 (get_lt h1))
    omega
  have hq : q = s.st.length:=by
   rcases Nat.eq_or_lt_of_le I.qq with h | h
   ·exact h
   ·obtain ⟨j, e, h1, h2, h3⟩ := G.sall q h
    have:=(I.st j e h1 h2).1 ((hl j).2 (get_lt h1))
    omega
  subst hc hq
  have htr : TR ρ s.t a:=by
   intro u v hv
   rcases G.te u v hv with ⟨i, e', h1, h2, h3, h4⟩ | ⟨h1, h2⟩
   ·rw [← h4]; exact I.t1 i e' u h2 ((hl i).2 h1) h3
   ·exact I.t2 u v (fun j e hj _ => h1 j e (get_lt hj) hj) h2
  have hrr : R P w0 w (stores (s.st.take s.st.length) H) ρ:=R.mono (Z1:=pend Z es fun j => listed.getD j false = true) (fun b hb => .inl hb) (fun _ _ h => h) I.rr
  rw [List.take_length] at hrr
  have hcount : all.size - es.length ≤ ((List.range all.size).filter (fun j => !listed.getD j false)).length:=by
   have e1 : (List.range all.size).filter (fun j => !listed.getD j false) = (List.range all.size).filter (fun j => !decide (j < es.length)):=by
    apply List.filter_congr
    intro j _
    have:=hl j
    cases h : listed.getD j false with
    | true => have:=this.1 h; simp [this]
    | false =>
     have h2 : ¬ j < es.length:=fun h3 => by rw [this.2 h3] at h; cases h
     simp [h2]
   rw [e1]
   obtain ⟨d, hd⟩ : ∃ d, all.size = es.length + d:=⟨all.size - es.length, by omega⟩
   rw [hd, List.range_add, List.filter_append]
   have e2 : ((List.range d).map (es.length + ·)).filter (fun j => !decide (j < es.length)) = (List.range d).map (es.length + ·):=by
    apply List.filter_eq_self.2
    intro x hx
    obtain ⟨y, _, rfl⟩:=List.mem_map.1 hx
    simp
   rw [e2]
   simp
  exact wpAny_tail hb hback (all.size - es.length) fuel es.length listed a w rfl hs hl (Nat.le_refl _) hle (by omega) (fin ρ H a w I.hH htr hrr I.ext I.df I.sz)
 intro fuel
 induction fuel with
 | zero =>
  intro listed a w hs hI hlk hcnt
  refine done 0 listed a w hs hI (fun j => ⟨hlk j, fun hj => ?_⟩) hcnt
  cases h : listed.getD j false with
  | true => rfl
  | false =>
   have : j ∈ (List.range all.size).filter (fun j => !listed.getD j false):=List.mem_filter.2 ⟨List.mem_range.2 (by omega), by simp only [h]; rfl⟩
   rw [List.eq_nil_of_length_eq_zero (Nat.le_zero.1 hcnt)] at this
   cases this
 | succ f ih =>
  intro listed a w hs hI hlk hcnt
  by_cases hall : ∀ j, j < es.length → listed.getD j false = true
  ·exact done (f + 1) listed a w hs hI (fun j => ⟨hlk j, hall j⟩) hcnt
  ·
   have hex : ∃ j, j < es.length ∧ listed.getD j false = false:=by
    rcases Classical.not_forall.1 hall with ⟨j, hj⟩
    rcases Classical.not_imp.1 hj with ⟨h1, h2⟩
    exact ⟨j, h1, by cases h : listed.getD j false with
     | true => exact (h2 h).elim
     | false => rfl⟩
   have least : ∀ m, (∃ j, j ≤ m ∧ listed.getD j false = false) → ∃ j, j ≤ m ∧ listed.getD j false = false ∧ ∀ i, i < j → listed.getD i false = true:=by
    intro m
    induction m with
    | zero => rintro ⟨j, h1, h2⟩; exact ⟨j, h1, h2, fun i hi => by omega⟩
    | succ m ihm =>
     rintro ⟨j, h1, h2⟩
     by_cases hh : ∃ j, j ≤ m ∧ listed.getD j false = false
     ·obtain ⟨j', g1, g2, g3⟩ := ihm hh
      exact ⟨j', by omega, g2, g3⟩
     ·refine ⟨j, h1, h2, fun i hi => ?_⟩
      cases h : listed.getD i false with
      | true => rfl
      | false => exact (hh ⟨i, by omega, h⟩).elim
   obtain ⟨j1, hj1, hj2⟩:=hex
   obtain ⟨j0, hj0, hj3, hj4⟩:=least j1 ⟨j1, Nat.le_refl _, hj2⟩
   have hj0k : j0 < es.length:=by omega
   have hcl : Closed all (fun j => listed.getD j false = true):=by obtain ⟨_, _, _, _, I⟩:=hI; exact I.cl
   have hin : j0 ∈ Region.ready .any all listed:=by
    have hlt : j0 < all.size:=by omega
    refine mem_ready.2 ⟨?_, all[j0], Array.getElem?_eq_getElem hlt, fun e he hbi => hj4 _ (hback j0 _ (Array.getElem?_eq_getElem hlt) e (by simpa using he) hbi)⟩
    rw [getD_two (by omega)]; exact hj3
   refine ⟨fun hr => (by rw [hr] at hin; cases hin), fun i hir => ?_⟩
   obtain ⟨h1, o, h2, h3⟩:=mem_ready.1 hir
   have hil:=(Array.getElem?_eq_some_iff.1 h2).1
   rw [getD_two (by omega)] at h1
   have hik : i < es.length:=by
    rcases Nat.lt_or_ge i es.length with h | h
    ·exact h
    ·have ha := behind_anc (hb i h hil) (show j0 < i by omega)
     have:=anc_ready hcl h2 (fun e he hbi => h3 e (by simpa using he) hbi) ha
     rw [hj3] at this; cases this
   have hei : es[i]? = some es[i]:=List.getElem?_eq_getElem hik
   have hop:=G.op i _ hei
   have hoe : o = es[i].o:=by rw [hop] at h2; simpa using h2.symm
   refine inv_step hback hN IH G hI hp hei (by rw [h1]; simp) (fun ed he hbi => h3 ed (by rw [hoe]; simpa using he) hbi) (fun d hdd => hd i _ d hop hdd) fun a' w' hI' => ?_
   have hL : (fun j => (listed.setIfInBounds i true).getD j false = true) = fun j => listed.getD j false = true ∨ j = i:=by
    funext j; exact propext (getD_set (by omega))
   refine ih (listed.setIfInBounds i true) a' w' (by simp [hs]) (by rw [hL]; exact hI') (fun j hj => ?_) ?_
   ·rcases (getD_set (by omega)).1 hj with h | rfl
    ·exact hlk j h
    ·exact hik
   ·have hlt := filter_lt (p := fun j => !listed.getD j false) (p' := fun j => !(listed.setIfInBounds i true).getD j false) (List.range all.size) (fun x hx => by
     cases h : listed.getD x false with
     | false => simp
     | true =>
      have:=(getD_set (j:=x) (show i < listed.size by omega)).2 (.inl h)
      simp only [this] at hx; cases hx) ⟨i, List.mem_range.2 hil, by simp only [h1]; rfl, by
      have:=(getD_set (j:=i) (show i < listed.size by omega)).2 (.inr rfl)
      simp only [this]; rfl⟩
    omega
end
end
end Go.Mid
end
