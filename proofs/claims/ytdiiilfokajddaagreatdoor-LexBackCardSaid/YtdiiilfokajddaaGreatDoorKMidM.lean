/- The head of a region that draws its order: what the small machine's walk in the text's order found out. -/
import Derived.Test.YtdiiilfokajddaaGreatDoorKMidK
set_option linter.all false
set_option warn.classDefReducibility false
noncomputable section
section
open Go.RowKit
namespace Go.Mid
section
variable {P : Program} [Orc] [OrcOk P]
theorem maskOf_spec (ms : Tr Nat) (j : Nat) : ∀ (es : List Edge), (maskOf ms es).testBit j = true → ∃ e ∈ es, Region.binds .any e = true ∧ (e.on = j ∨ ∃ m, ms.get e.on = some m ∧ m.testBit j = true)
 | [], h => by simp [maskOf] at h
 | e :: es, h => by
  simp only [maskOf] at h
  cases hb : Region.binds .any e with
  | false =>
   simp only [hb, cond_false] at h
   obtain ⟨x, h1, h2⟩:=maskOf_spec ms j es h
   exact ⟨x, List.mem_cons_of_mem _ h1, h2⟩
  | true =>
   simp only [hb, cond_true] at h
   have hor : ∀ a b : Nat, (Nat.lor a b).testBit j = (a.testBit j || b.testBit j):=fun a b => Nat.testBit_or a b j
   rw [hor, hor, Bool.or_eq_true, Bool.or_eq_true] at h
   rcases h with (h | h) | h
   ·have : e.on = j := by simpa [Nat.testBit_two_pow] using h
    exact ⟨e, List.mem_cons_self, hb, .inl this⟩
   ·cases hm : ms.get e.on with
    | none => simp [hm] at h
    | some m => simp only [hm] at h; exact ⟨e, List.mem_cons_self, hb, .inr ⟨m, hm, h⟩⟩
   ·obtain ⟨x, h1, h2⟩ := maskOf_spec ms j es h
    exact ⟨x, List.mem_cons_of_mem _ h1, h2⟩
theorem masksF_spec : ∀ (l : List Oper) (i : Nat) (ms : Tr Nat), (∀ x, i ≤ x → ms.get x = none) →
 (∀ x, x < i → (masksF l i ms).get x = ms.get x) ∧ (∀ x, i + l.length ≤ x → (masksF l i ms).get x = none) ∧
 ∀ p o, l[p]? = some o → ∃ ms', (masksF l i ms).get (i + p) = some (maskOf ms' o.after.toList) ∧ ∀ x m, ms'.get x = some m → x < i + p ∧ (masksF l i ms).get x = some m
 | [], i, ms, h => ⟨fun x _ => rfl, fun x hx => h x (by simpa using hx), fun p o hp => by simp at hp⟩
 | o :: l, i, ms, h => by
  have hnext : ∀ x, i + 1 ≤ x → (ms.set i (maskOf ms o.after.toList)).get x = none:=fun x hx => by rw [Tr.get_set_ne _ _ (by omega)]; exact h x (by omega)
  obtain ⟨h1, h2, h3⟩:=masksF_spec l (i + 1) _ hnext
  refine ⟨fun x hx => ?_, fun x hx => h2 x (by simp at hx; omega), fun p q hp => ?_⟩
  ·simp only [masksF]; rw [h1 x (by omega), Tr.get_set_ne _ _ (by omega)]
  ·cases p with
   | zero =>
    simp only [List.getElem?_cons_zero, Option.some.injEq] at hp; subst hp
    refine ⟨ms, by simp only [masksF, Nat.add_zero]; rw [h1 i (by omega), Tr.get_set_same], fun x m hm => ?_⟩
    have hx : x < i:=by
     rcases Nat.lt_or_ge x i with hlt | hge
     ·exact hlt
     ·rw [h x hge] at hm; cases hm
    exact ⟨hx, by simp only [masksF]; rw [h1 x (by omega), Tr.get_set_ne _ _ (by omega)]; exact hm⟩
   | succ p =>
    simp only [List.getElem?_cons_succ] at hp
    obtain ⟨ms', g1, g2⟩:=h3 p q hp
    have e : i + (p + 1) = i + 1 + p:=by omega
    rw [e]
    exact ⟨ms', g1, g2⟩
theorem anc_spec {all : Array Oper} {i j : Nat} (h : anc (masks all) i j = true) : ∃ o, all[i]? = some o ∧ ∃ e ∈ o.after.toList, Region.binds .any e = true ∧ (e.on = j ∨ (e.on < i ∧ anc (masks all) e.on j = true)):=by
 obtain ⟨_, h2, h3⟩:=masksF_spec all.toList 0 .nil (fun _ _ => Tr.get_nil _)
 unfold anc at h
 cases hm : (masks all).get i with
 | none => simp [hm] at h
 | some m =>
  simp only [hm] at h
  cases ho : all[i]? with
  | none =>
   have hle : all.toList.length ≤ i:=by simpa using ho
   unfold masks at hm
   rw [h2 i (by omega)] at hm
   cases hm
  | some o =>
   obtain ⟨ms', g1, g2⟩:=h3 i o (by rw [Array.getElem?_toList]; exact ho)
   rw [Nat.zero_add] at g1
   unfold masks at hm
   rw [g1] at hm
   simp only [Option.some.injEq] at hm
   subst hm
   obtain ⟨e, q1, q2, q3⟩:=maskOf_spec ms' j _ h
   refine ⟨o, rfl, e, q1, q2, ?_⟩
   rcases q3 with q3 | ⟨m, q3, q4⟩
   ·exact .inl q3
   ·obtain ⟨q5, q6⟩ := g2 _ _ q3
    refine .inr ⟨by omega, ?_⟩
    unfold anc masks
    rw [q6]; exact q4
def Closed (all : Array Oper) (listed : Nat → Prop) : Prop:=∀ (i : Nat) (o : Oper), all[i]? = some o → listed i → ∀ e ∈ o.after.toList, Region.binds .any e = true → listed e.on
theorem anc_listed {all : Array Oper} {listed : Nat → Prop} (hc : Closed all listed) {j : Nat} : ∀ {i : Nat}, listed i → anc (masks all) i j = true → listed j:=by
 intro i
 induction i using Nat.strongRecOn with
 | _ i ih =>
  intro hl ha
  obtain ⟨o, h1, e, h2, h3, h4⟩:=anc_spec ha
  have:=hc i o h1 hl e h2 h3
  rcases h4 with h4 | ⟨h4, h5⟩
  ·rw [← h4]; exact this
  ·exact ih e.on h4 this h5
theorem anc_ready {all : Array Oper} {listed : Nat → Prop} (hc : Closed all listed) {i j : Nat} {o : Oper} (ho : all[i]? = some o) (hr : ∀ e ∈ o.after.toList, Region.binds .any e = true → listed e.on)
 (ha : anc (masks all) i j = true) : listed j:=by
 obtain ⟨o', h1, e, h2, h3, h4⟩:=anc_spec ha
 rw [ho] at h1; simp only [Option.some.injEq] at h1; subst h1
 have:=hr e h2 h3
 rcases h4 with h4 | ⟨_, h5⟩
 ·rw [← h4]; exact this
 ·exact anc_listed hc this h5
theorem tailFrom_spec (ms : Tr Nat) : ∀ (l : List Oper) (i last : Nat), last ≤ i → last ≤ tailFrom ms l i last ∧ tailFrom ms l i last ≤ i + l.length ∧ ∀ x, i ≤ x → x < i + l.length → tailFrom ms l i last ≤ x → behind ms x = true
 | [], i, last, h => ⟨Nat.le_refl _, by simpa [tailFrom] using h, fun x h1 h2 => by simp at h2; omega⟩
 | o :: l, i, last, h => by
  simp only [tailFrom]
  cases hb : behind ms i with
  | true =>
   simp only [cond_true]
   obtain ⟨h1, h2, h3⟩:=tailFrom_spec ms l (i + 1) last (by omega)
   refine ⟨h1, by simp only [List.length_cons]; omega, fun x h4 h5 h6 => ?_⟩
   by_cases e : i = x
   ·subst e; exact hb
   ·exact h3 x (by omega) (by simp at h5; omega) h6
  | false =>
   simp only [cond_false]
   obtain ⟨h1, h2, h3⟩:=tailFrom_spec ms l (i + 1) (i + 1) (Nat.le_refl _)
   refine ⟨by omega, by simp only [List.length_cons]; omega, fun x h4 h5 h6 => ?_⟩
   exact h3 x (by omega) (by simp at h5; omega) h6
theorem behind_anc {ms : Tr Nat} {i j : Nat} (h : behind ms i = true) (hj : j < i) : anc ms i j = true:=by
 unfold behind at h
 rw [List.all_eq_true] at h
 exact h j (List.mem_range.2 hj)
structure En where
 o : Oper
 t : Tr V
 b : Bool
 mak : Bool
 sto : Bool
 m : Nat
 nd : Nat
 si : Nat
 v : V
 h : Hp
 h' : Hp
 wr : Bool
 fl : Bool
def FloC (P : Program) (t : Tr V) (o : Op) (b : Nat) (p : V) (ty : TypeId) (cs : List V) : Prop :=
 (∃ z, o = .alloc ty ∧ zero P ty = some z ∧ cs = vcells z ∧ p = .ptr b 0) ∨
 (∃ sty len parts h1, o = .buildSlice sty len parts ∧ exBuildSlice P t (floH p) sty len parts.toList = some (p, h1) ∧ isRow (h1.t.get b) ty cs = true)
def FloE (P : Program) (all : Array Oper) (h0 : Hp) (n : List (Nat × V)) (j : Nat) (l : List V) : Prop :=
 ∃ p b ty cs o, V.agg l = fent p ty cs ∧ blkV p = some b ∧ all[j]? = some o ∧ obliv o.op = true ∧ (∀ ty', o.op = .alloc ty' → ty' = ty ∧ p = .ptr b 0 ∧ ∃ z, zero P ty = some z ∧ cs = vcells z) ∧
  b < h0.n ∧ h0.t.get b = some (.cells (Tr.nil.setL 0 cs) cs.length false ty) ∧ ∀ j' l' p' e c, (j', V.agg l') ∈ n → V.agg l' = fent p' e c → blkV p' = some b → j' = j
theorem FloE.mono {P : Program} {all : Array Oper} {h0 : Hp} {n n' : List (Nat × V)} {j : Nat} {l : List V} (h : FloE P all h0 n j l) (hn : ∀ j l, (j, V.agg l) ∈ n' → (j, V.agg l) ∈ n) : FloE P all h0 n' j l:=by
 obtain ⟨p, b, ty, cs, o, q1, q2, q3, q4, q5, q6, q7, q8⟩:=h
 exact ⟨p, b, ty, cs, o, q1, q2, q3, q4, q5, q6, q7, fun j' l' p' e c h1 h2 h3 => q8 j' l' p' e c (hn _ _ h1) h2 h3⟩
theorem fent_inj {p p' : V} {e e' : Nat} {cs cs' : List V} (h : fent p e cs = fent p' e' cs') : p = p' ∧ e = e' ∧ cs = cs':=by
 unfold fent at h
 simp only [V.agg.injEq, List.cons.injEq, V.int.injEq, and_true, true_and] at h
 exact ⟨h.1, Int.ofNat.inj h.2.1, h.2.2⟩
structure Good (P : Program) (r : Rn) (all : Array Oper) (t0 : Tr V) (h0 : Hp) (es : List En) (s : Hd) : Prop where
 op : ∀ (j : Nat) e, es[j]? = some e → all[j]? = some e.o
 tt : ∀ (j : Nat) e, es[j]? = some e → ∀ u v, e.t.get u = some v → (∃ (i : Nat) (e' : En), i < j ∧ es[i]? = some e' ∧ e'.o.dst = some u ∧ e'.v = v) ∨ ((∀ (i : Nat) e', i < j → es[i]? = some e' → e'.o.dst ≠ some u) ∧ t0.get u = some v)
 te : ∀ u v, s.t.get u = some v → (∃ (i : Nat) (e' : En), i < es.length ∧ es[i]? = some e' ∧ e'.o.dst = some u ∧ e'.v = v) ∨ ((∀ (i : Nat) e', i < es.length → es[i]? = some e' → e'.o.dst ≠ some u) ∧ t0.get u = some v)
 need : ∀ j, s.need.get j = (es[j]?).map (·.nd)
 mm : ∀ (j : Nat) e, es[j]? = some e → ∀ X, (∀ ed ∈ e.o.after.toList, Region.binds .any ed = true → ∀ e', ed.on < j → es[ed.on]? = some e' → e'.nd ≤ X) → e.m ≤ X
 want : ∀ (j : Nat) e, es[j]? = some e → wantO all e.t e.o = some e.b
 skip : ∀ (j : Nat) e, es[j]? = some e → e.b = false → e.v = undefV ∧ e.nd = e.m ∧ e.mak = false ∧ e.sto = false
 read : ∀ (j : Nat) e, es[j]? = some e → e.b = true → e.mak = false → e.sto = false → e.fl = false → makes e.o = false ∧ s.hs.get e.m = some e.h ∧ (∃ h', execV P e.t e.h e.o.op = some (e.v, h')) ∧ e.nd = e.m
 made : ∀ (j : Nat) e, es[j]? = some e → e.mak = true → e.b = true ∧ makes e.o = true ∧ s.hs.get e.m = some e.h ∧ opV P r e.t ⟨e.h.t, e.h.n, e.h.n⟩ e.o = some (e.v, e.h') ∧ (e.wr = true → obliv e.o.op = false) ∧
  (∃ lw, s.hs.get (e.m + 1) = some ⟨e.h'.t, e.h'.n, lw⟩) ∧ e.nd = e.m + 1 ∧ e.m < s.c
 stor : ∀ (j : Nat) e, es[j]? = some e → e.sto = true → e.b = true ∧ e.mak = false ∧ (∃ ty a x b off v ob, e.o.op = .store ty a x ∧ evalO e.t a = some (.ptr b off) ∧ evalO e.t x = some v ∧ s.hs.get e.m = some e.h ∧
  storeO P (stores (s.st.take e.si) e.h) ty b off v = some ob ∧ s.st[e.si]? = some (b, ob)) ∧ e.v = unitV ∧ e.nd = e.m
 mdist : ∀ (i j : Nat) e e', es[i]? = some e → es[j]? = some e' → e.mak = true → e'.mak = true → e.m = e'.m → i = j
 mall : ∀ m, m < s.c → ∃ (j : Nat) (e : En), es[j]? = some e ∧ e.mak = true ∧ e.m = m
 sall : ∀ q, q < s.st.length → ∃ (j : Nat) (e : En), es[j]? = some e ∧ e.sto = true ∧ e.si = q
 sord : ∀ (i j : Nat) e e', i < j → es[i]? = some e → es[j]? = some e' → e.sto = true → e'.sto = true → e.si < e'.si
 slt : ∀ (j : Nat) e, es[j]? = some e → e.sto = true → e.si < s.st.length
 nobs : ∀ (j : Nat) e, es[j]? = some e → e.b = true → obliv e.o.op = false → (j, ldV e.t e.o.op e.v) ∈ s.nob
 sanc : ∀ (i j : Nat) e e', i < j → es[i]? = some e → es[j]? = some e' → e.b = true → obliv e.o.op = false → e'.sto = true → anc (masks all) j i = true ∨ ∃ b ob, s.st[e'.si]? = some (b, ob) ∧ okV b (ldV e.t e.o.op e.v) = true
 nosto : ∀ (i j : Nat) e e', i < j → es[i]? = some e → es[j]? = some e' → e.sto = true → e'.b = true → e'.sto = false → obliv e'.o.op = true
 hs0 : s.hs.get 0 = some h0
 hsc : ∀ m, m ≤ s.c → ∃ H, s.hs.get m = some H
 hsn : ∀ m, s.c < m → s.hs.get m = none
 wmak : ∀ (j : Nat) e, es[j]? = some e → e.wr = true → e.mak = true
 wanc : ∀ (i j : Nat) e e', i < j → es[i]? = some e → es[j]? = some e' → e.b = true → obliv e.o.op = false → e'.wr = true → anc (masks all) j i = true ∨ sameLd e'.h e'.h' (ldV e.t e.o.op e.v) = true
 wbeh : ∀ (i j : Nat) e e', i < j → es[i]? = some e → es[j]? = some e' → e.wr = true → e'.b = true → obliv e'.o.op = false → anc (masks all) j i = true ∨ sameLd e.h e.h' (ldV e'.t e'.o.op e'.v) = true
 wnob : ∀ (j : Nat) e, es[j]? = some e → e.wr = true → (j, V.bool false) ∈ s.nob
 flo : ∀ (j : Nat) e, es[j]? = some e → e.fl = true → e.b = true ∧ e.mak = false ∧ e.sto = false ∧ e.nd = e.m ∧ ∃ ty cs b, FloC P e.t e.o.op b e.v ty cs ∧ blkV e.v = some b ∧ (j, fent e.v ty cs) ∈ s.nob
 fst : ∀ (j : Nat) l, (j, V.agg l) ∈ s.nob → FloE P all h0 s.nob j l
 fsto : ∀ (j : Nat) e, es[j]? = some e → e.sto = true → ∀ i l, (i, V.agg l) ∈ s.nob → anc (masks all) j i = true ∨ ∃ b ob, s.st[e.si]? = some (b, ob) ∧ okV b (.agg l) = true
 fwr : ∀ (j : Nat) e, es[j]? = some e → e.wr = true → ∀ i l, (i, V.agg l) ∈ s.nob → anc (masks all) j i = true ∨ sameLd e.h e.h' (.agg l) = true
 mlow : ∀ (j : Nat) e, es[j]? = some e → ∀ ed ∈ e.o.after.toList, Region.binds .any ed = true → ∀ e', ed.on < j → es[ed.on]? = some e' → e'.nd ≤ e.m
 chain : ∀ m H H', s.hs.get m = some H → s.hs.get (m + 1) = some H' → H.n ≤ H'.n ∧ ((∀ (j : Nat) e, es[j]? = some e → e.wr = true → e.m ≠ m) → ∀ b, b < H.n → H'.t.get b = H.t.get b)
theorem maxNeed_le {need : Tr Nat} {X : Nat} : ∀ (es : List Edge), (∀ ed ∈ es, Region.binds .any ed = true → ∀ n, need.get ed.on = some n → n ≤ X) → maxNeed need es ≤ X
 | [], _ => Nat.zero_le _
 | e :: es, h => by
  have ih:=maxNeed_le es (fun ed hd => h ed (List.mem_cons_of_mem _ hd))
  simp only [maxNeed]
  cases hb : Region.binds .any e with
  | false => simpa using ih
  | true =>
   simp only [cond_true]
   cases hn : need.get e.on with
   | none => simpa using ih
   | some n => exact Nat.max_le.2 ⟨h e List.mem_cons_self hb n hn, ih⟩
theorem maxNeed_ge {need : Tr Nat} : ∀ (es : List Edge) {ed : Edge} {n : Nat}, ed ∈ es → Region.binds .any ed = true → need.get ed.on = some n → n ≤ maxNeed need es
 | e :: es, ed, n, hm, hb, hn => by
  simp only [maxNeed]
  rcases List.mem_cons.1 hm with rfl | hm
  ·rw [hb]
   simp only [cond_true, hn]
   exact Nat.le_max_left _ _
  ·have ih := maxNeed_ge es hm hb hn
   cases hbe : Region.binds .any e with
   | false => exact ih
   | true =>
    simp only [cond_true]
    cases need.get e.on with
    | none => exact ih
    | some k => exact Nat.le_trans ih (Nat.le_max_right _ _)
theorem get_snoc {α : Type} {l : List α} {x y : α} {i : Nat} (h : (l ++ [x])[i]? = some y) : (i < l.length ∧ l[i]? = some y) ∨ (i = l.length ∧ y = x):=by
 rcases Nat.lt_trichotomy i l.length with hl | hl | hl
 ·rw [List.getElem?_append_left hl] at h; exact .inl ⟨hl, h⟩
 ·subst hl; rw [List.getElem?_append_right (Nat.le_refl _)] at h; simp at h; exact .inr ⟨rfl, h.symm⟩
 ·rw [List.getElem?_eq_none (by simp; omega)] at h; cases h
theorem get_lt {α : Type} {l : List α} {y : α} {i : Nat} (h : l[i]? = some y) : i < l.length:=by
 rcases Nat.lt_or_ge i l.length with h1 | h1
 ·exact h1
 ·rw [List.getElem?_eq_none h1] at h; cases h
structure Next (P : Program) (r : Rn) (all : Array Oper) (es : List En) (s : Hd) (e : En) (s' : Hd) : Prop where
 op : all[es.length]? = some e.o
 t : e.t = s.t
 t' : s'.t = putO s.t e.o.dst e.v
 m : e.m = maxNeed s.need e.o.after.toList
 need : s'.need = s.need.set es.length e.nd
 want : wantO all s.t e.o = some e.b
theorem Next.tt {r : Rn} {all : Array Oper} {t0 : Tr V} {h0 : Hp} {es : List En} {s s' : Hd} {e : En} (G : Good P r all t0 h0 es s) (N : Next P r all es s e s') :
 ∀ (j : Nat) x, (es ++ [e])[j]? = some x → ∀ u v, x.t.get u = some v →
  (∃ (i : Nat) (e' : En), i < j ∧ (es ++ [e])[i]? = some e' ∧ e'.o.dst = some u ∧ e'.v = v) ∨ ((∀ (i : Nat) e', i < j → (es ++ [e])[i]? = some e' → e'.o.dst ≠ some u) ∧ t0.get u = some v):=by
 intro j x hx u v hv
 have main : j ≤ es.length → ((∃ (i : Nat) (e' : En), i < j ∧ es[i]? = some e' ∧ e'.o.dst = some u ∧ e'.v = v) ∨ ((∀ (i : Nat) e', i < j → es[i]? = some e' → e'.o.dst ≠ some u) ∧ t0.get u = some v)) →
  ((∃ (i : Nat) (e' : En), i < j ∧ (es ++ [e])[i]? = some e' ∧ e'.o.dst = some u ∧ e'.v = v) ∨ ((∀ (i : Nat) e', i < j → (es ++ [e])[i]? = some e' → e'.o.dst ≠ some u) ∧ t0.get u = some v)):=by
  intro hj h
  rcases h with ⟨i, e', h1, h2, h3, h4⟩ | ⟨h1, h2⟩
  ·exact .inl ⟨i, e', h1, by rw [List.getElem?_append_left (by omega)]; exact h2, h3, h4⟩
  ·exact .inr ⟨fun i e' hi he => h1 i e' hi (by rw [List.getElem?_append_left (by omega)] at he; exact he), h2⟩
 rcases get_snoc hx with ⟨hj, hx'⟩ | ⟨rfl, rfl⟩
 ·exact main (by omega) (G.tt j x hx' u v hv)
 ·rw [N.t] at hv
  exact main (Nat.le_refl _) (G.te u v hv)
theorem Next.te {r : Rn} {all : Array Oper} {t0 : Tr V} {h0 : Hp} {es : List En} {s s' : Hd} {e : En} (G : Good P r all t0 h0 es s) (N : Next P r all es s e s') :
 ∀ u v, s'.t.get u = some v → (∃ (i : Nat) (e' : En), i < (es ++ [e]).length ∧ (es ++ [e])[i]? = some e' ∧ e'.o.dst = some u ∧ e'.v = v) ∨
  ((∀ (i : Nat) e', i < (es ++ [e]).length → (es ++ [e])[i]? = some e' → e'.o.dst ≠ some u) ∧ t0.get u = some v):=by
 intro u v hv
 rw [N.t'] at hv
 by_cases hd : e.o.dst = some u
 ·rw [hd] at hv
  simp only [putO, Tr.get_set_same, Option.some.injEq] at hv
  exact .inl ⟨es.length, e, by simp, by simp, hd, hv⟩
 ·have hv' : s.t.get u = some v:=by
   cases hdd : e.o.dst with
   | none => rw [hdd] at hv; exact hv
   | some d =>
    rw [hdd] at hv hd
    simp only [putO] at hv
    rw [Tr.get_set_ne _ _ (fun e => hd (by rw [e]))] at hv
    exact hv
  rcases G.te u v hv' with ⟨i, e', h1, h2, h3, h4⟩ | ⟨h1, h2⟩
  ·exact .inl ⟨i, e', by simp; omega, by rw [List.getElem?_append_left h1]; exact h2, h3, h4⟩
  ·refine .inr ⟨fun i e' hi he => ?_, h2⟩
   rcases get_snoc he with ⟨hj, he'⟩ | ⟨rfl, rfl⟩
   ·exact h1 i e' hj he'
   ·exact hd
theorem Next.needs {r : Rn} {all : Array Oper} {t0 : Tr V} {h0 : Hp} {es : List En} {s s' : Hd} {e : En} (G : Good P r all t0 h0 es s) (N : Next P r all es s e s') : ∀ j, s'.need.get j = ((es ++ [e])[j]?).map (·.nd):=by
 intro j
 rw [N.need, Tr.get_set]
 split
 ·rename_i h; subst h; simp
 ·rename_i h
  rw [G.need j]
  rcases Nat.lt_or_ge j es.length with hj | hj
  ·rw [List.getElem?_append_left hj]
  ·rw [List.getElem?_eq_none hj, List.getElem?_eq_none (by simp; omega)]
theorem Next.mm {r : Rn} {all : Array Oper} {t0 : Tr V} {h0 : Hp} {es : List En} {s s' : Hd} {e : En} (G : Good P r all t0 h0 es s) (N : Next P r all es s e s') :
 ∀ (j : Nat) x, (es ++ [e])[j]? = some x → ∀ X, (∀ ed ∈ x.o.after.toList, Region.binds .any ed = true → ∀ e', ed.on < j → (es ++ [e])[ed.on]? = some e' → e'.nd ≤ X) → x.m ≤ X:=by
 intro j x hx X hX
 rcases get_snoc hx with ⟨hj, hx'⟩ | ⟨rfl, rfl⟩
 ·exact G.mm j x hx' X fun ed h1 h2 e' h3 h4 => hX ed h1 h2 e' h3 (by rw [List.getElem?_append_left (by omega)]; exact h4)
 ·rw [N.m]
  refine maxNeed_le _ fun ed h1 h2 n hn => ?_
  rw [G.need] at hn
  cases he' : es[ed.on]? with
  | none => simp [he'] at hn
  | some e' =>
   simp only [he', Option.map_some, Option.some.injEq] at hn; subst hn
   have:=get_lt he'
   exact hX ed h1 h2 e' this (by rw [List.getElem?_append_left this]; exact he')
theorem Next.mlow {r : Rn} {all : Array Oper} {t0 : Tr V} {h0 : Hp} {es : List En} {s s' : Hd} {e : En} (G : Good P r all t0 h0 es s) (N : Next P r all es s e s') :
 ∀ (j : Nat) x, (es ++ [e])[j]? = some x → ∀ ed ∈ x.o.after.toList, Region.binds .any ed = true → ∀ e', ed.on < j → (es ++ [e])[ed.on]? = some e' → e'.nd ≤ x.m:=by
 intro j x hx ed h1 h2 e' h3 h4
 rcases get_snoc hx with ⟨hj, hx'⟩ | ⟨rfl, rfl⟩
 ·exact G.mlow j x hx' ed h1 h2 e' h3 (by rw [List.getElem?_append_left (by omega)] at h4; exact h4)
 ·rw [N.m]
  rw [List.getElem?_append_left h3] at h4
  exact maxNeed_ge _ h1 h2 (by rw [G.need, h4]; rfl)
theorem Good.snoc {r : Rn} {all : Array Oper} {t0 : Tr V} {h0 : Hp} {es : List En} {s s' : Hd} {e : En} (G : Good P r all t0 h0 es s) (N : Next P r all es s e s')
 (hhs : ∀ m H, s.hs.get m = some H → s'.hs.get m = some H) (hc : s.c ≤ s'.c) (hst : ∃ l, s'.st = s.st ++ l)
 (hskip : e.b = false → e.v = undefV ∧ e.nd = e.m ∧ e.mak = false ∧ e.sto = false)
 (hread : e.b = true → e.mak = false → e.sto = false → e.fl = false → makes e.o = false ∧ s'.hs.get e.m = some e.h ∧ (∃ h', execV P e.t e.h e.o.op = some (e.v, h')) ∧ e.nd = e.m)
 (hmade : e.mak = true → e.b = true ∧ makes e.o = true ∧ s'.hs.get e.m = some e.h ∧ opV P r e.t ⟨e.h.t, e.h.n, e.h.n⟩ e.o = some (e.v, e.h') ∧ (e.wr = true → obliv e.o.op = false) ∧
   (∃ lw, s'.hs.get (e.m + 1) = some ⟨e.h'.t, e.h'.n, lw⟩) ∧ e.nd = e.m + 1 ∧ e.m < s'.c ∧ s.c ≤ e.m)
 (hstor : e.sto = true → e.b = true ∧ e.mak = false ∧ (∃ ty a x b off v ob, e.o.op = .store ty a x ∧ evalO e.t a = some (.ptr b off) ∧ evalO e.t x = some v ∧ s'.hs.get e.m = some e.h ∧
   storeO P (stores (s'.st.take e.si) e.h) ty b off v = some ob ∧ s'.st[e.si]? = some (b, ob)) ∧ e.v = unitV ∧ e.nd = e.m)
 (hma : ∀ m, m < s'.c → m < s.c ∨ (e.mak = true ∧ e.m = m)) (hsa : ∀ q, q < s'.st.length → q < s.st.length ∨ (e.sto = true ∧ e.si = q)) (hsi : e.sto = true → e.si = s.st.length ∧ e.si < s'.st.length)
 (hnob : (∀ x, x ∈ s.nob → x ∈ s'.nob) ∧ (e.b = true → obliv e.o.op = false → (es.length, ldV e.t e.o.op e.v) ∈ s'.nob)) (hsanc : e.sto = true → ∃ b ob, s'.st[e.si]? = some (b, ob) ∧ ∀ x, x ∈ s.nob → anc (masks all) es.length x.1 = true ∨ okV b x.2 = true)
 (hnosto : e.b = true → e.sto = false → obliv e.o.op = false → s.st = []) (hsc : ∀ m, m ≤ s'.c → ∃ H, s'.hs.get m = some H) (hsn : ∀ m, s'.c < m → s'.hs.get m = none)
 (hwm : e.wr = true → e.mak = true ∧ (∀ x, x ∈ s.nob → markV x.2 = false → anc (masks all) es.length x.1 = true ∨ sameLd e.h e.h' x.2 = true) ∧ (es.length, V.bool false) ∈ s'.nob) (hwo : e.b = true → obliv e.o.op = false → ∀ i, (i, V.bool false) ∈ s.nob → anc (masks all) es.length i = true ∨ sameW s i (ldV e.t e.o.op e.v) = true)
 (hch : ∀ m H H', s'.hs.get m = some H → s'.hs.get (m + 1) = some H' → H.n ≤ H'.n ∧ ((∀ (j : Nat) e', (es ++ [e])[j]? = some e' → e'.wr = true → e'.m ≠ m) → ∀ b, b < H.n → H'.t.get b = H.t.get b))
 (hflo : e.fl = true → e.b = true ∧ e.mak = false ∧ e.sto = false ∧ e.nd = e.m ∧ ∃ ty cs b, FloC P e.t e.o.op b e.v ty cs ∧ blkV e.v = some b ∧ (es.length, fent e.v ty cs) ∈ s.nob)
 (hfn : ∀ j l, (j, V.agg l) ∈ s'.nob → (j, V.agg l) ∈ s.nob) : Good P r all t0 h0 (es ++ [e]) s':=by
 obtain ⟨l, hst⟩:=hst
 refine ⟨?_, N.tt G, N.te G, N.needs G, N.mm G, ?_, ?_, ?_, ?_, ?_, ?_, ?_, ?_, ?_, ?_, ?_, ?_, ?_, hhs _ _ G.hs0, hsc, hsn, ?_, ?_, ?_, ?_, ?_, ?_, ?_, ?_, N.mlow G, hch⟩
 ·intro j x hx
  rcases get_snoc hx with ⟨_, h⟩ | ⟨rfl, rfl⟩
  ·exact G.op j x h
  ·exact N.op
 ·intro j x hx
  rcases get_snoc hx with ⟨_, h⟩ | ⟨rfl, rfl⟩
  ·exact G.want j x h
  ·rw [N.t]; exact N.want
 ·intro j x hx
  rcases get_snoc hx with ⟨_, h⟩ | ⟨rfl, rfl⟩
  ·exact G.skip j x h
  ·exact hskip
 ·intro j x hx
  rcases get_snoc hx with ⟨_, h⟩ | ⟨rfl, rfl⟩
  ·exact fun a b c d => let ⟨p, q, r⟩ := G.read j x h a b c d; ⟨p, hhs _ _ q, r⟩
  ·exact hread
 ·intro j x hx
  rcases get_snoc hx with ⟨_, h⟩ | ⟨rfl, rfl⟩
  ·exact fun a => let ⟨p1, p2, p3, p4, p5, ⟨lw, p6⟩, p7, p8⟩ := G.made j x h a; ⟨p1, p2, hhs _ _ p3, p4, p5, ⟨lw, hhs _ _ p6⟩, p7, Nat.lt_of_lt_of_le p8 hc⟩
  ·exact fun a => let ⟨p1, p2, p3, p4, p5, p6, p7, p8, _⟩ := hmade a; ⟨p1, p2, p3, p4, p5, p6, p7, p8⟩
 ·intro j x hx
  rcases get_snoc hx with ⟨_, h⟩ | ⟨rfl, rfl⟩
  ·intro a
   obtain ⟨p1, p2, ⟨ty, q1, q2, b, off, v, ob, g1, g2, g3, g4, g5, g6⟩, p3, p4⟩:=G.stor j x h a
   have hlt:=G.slt j x h a
   refine ⟨p1, p2, ⟨ty, q1, q2, b, off, v, ob, g1, g2, g3, hhs _ _ g4, ?_, ?_⟩, p3, p4⟩
   ·rw [hst, List.take_append_of_le_length (by omega)]; exact g5
   ·rw [hst, List.getElem?_append_left hlt]; exact g6
  ·exact hstor
 ·intro i j x y hx hy m1 m2 he
  rcases get_snoc hx with ⟨hi, hx'⟩ | ⟨rfl, rfl⟩
  ·rcases get_snoc hy with ⟨hj, hy'⟩ | ⟨rfl, rfl⟩
   ·exact G.mdist i j x y hx' hy' m1 m2 he
   ·have := (G.made i x hx' m1).2.2.2.2.2.2.2
    have:=(hmade m2).2.2.2.2.2.2.2.2
    omega
  ·rcases get_snoc hy with ⟨hj, hy'⟩ | ⟨rfl, rfl⟩
   ·have := (G.made j y hy' m2).2.2.2.2.2.2.2
    have:=(hmade m1).2.2.2.2.2.2.2.2
    omega
   ·rfl
 ·intro m hm
  rcases hma m hm with h | ⟨h1, h2⟩
  ·obtain ⟨j, x, g1, g2, g3⟩ := G.mall m h
   exact ⟨j, x, by rw [List.getElem?_append_left (get_lt g1)]; exact g1, g2, g3⟩
  ·exact ⟨es.length, e, by simp, h1, h2⟩
 ·intro q hq
  rcases hsa q hq with h | ⟨h1, h2⟩
  ·obtain ⟨j, x, g1, g2, g3⟩ := G.sall q h
   exact ⟨j, x, by rw [List.getElem?_append_left (get_lt g1)]; exact g1, g2, g3⟩
  ·exact ⟨es.length, e, by simp, h1, h2⟩
 ·intro i j x y hij hx hy s1 s2
  rcases get_snoc hx with ⟨hi, hx'⟩ | ⟨rfl, rfl⟩
  ·rcases get_snoc hy with ⟨hj, hy'⟩ | ⟨rfl, rfl⟩
   ·exact G.sord i j x y hij hx' hy' s1 s2
   ·have := G.slt i x hx' s1
    have:=(hsi s2).1
    omega
  ·rcases get_snoc hy with ⟨hj, hy'⟩ | ⟨rfl, _⟩
   ·omega
   ·omega
 ·intro j x hx h
  rcases get_snoc hx with ⟨_, hx'⟩ | ⟨rfl, rfl⟩
  ·have := G.slt j x hx' h
   rw [hst]; simp; omega
  ·exact (hsi h).2
 ·intro j x hx h1 h2
  rcases get_snoc hx with ⟨_, hx'⟩ | ⟨rfl, rfl⟩
  ·exact hnob.1 _ (G.nobs j x hx' h1 h2)
  ·exact hnob.2 h1 h2
 ·intro i j x y hij hx hy h1 h2 h3
  rcases get_snoc hy with ⟨hj, hy'⟩ | ⟨rfl, rfl⟩
  ·rcases get_snoc hx with ⟨hi, hx'⟩ | ⟨rfl, _⟩
   ·rcases G.sanc i j x y hij hx' hy' h1 h2 h3 with h | ⟨b, ob, h4, h5⟩
    ·exact .inl h
    ·exact .inr ⟨b, ob, by rw [hst, List.getElem?_append_left (G.slt j y hy' h3)]; exact h4, h5⟩
   ·omega
  ·rcases get_snoc hx with ⟨hi, hx'⟩ | ⟨rfl, _⟩
   ·obtain ⟨b, ob, h4, h5⟩ := hsanc h3
    rcases h5 _ (G.nobs i x hx' h1 h2) with h | h
    ·exact .inl h
    ·exact .inr ⟨b, ob, h4, h⟩
   ·omega
 ·intro i j x y hij hx hy h1 h2 h3
  rcases get_snoc hy with ⟨hj, hy'⟩ | ⟨rfl, rfl⟩
  ·rcases get_snoc hx with ⟨hi, hx'⟩ | ⟨rfl, _⟩
   ·exact G.nosto i j x y hij hx' hy' h1 h2 h3
   ·omega
  ·rcases get_snoc hx with ⟨hi, hx'⟩ | ⟨rfl, _⟩
   ·cases ho : obliv y.o.op with
    | true => rfl
    | false =>
     have:=hnosto h2 h3 ho
     have h4:=G.slt i x hx' h1
     rw [this] at h4; simp at h4
   ·omega
 ·intro j x hx h
  rcases get_snoc hx with ⟨_, hx'⟩ | ⟨rfl, rfl⟩
  ·exact G.wmak j x hx' h
  ·exact (hwm h).1
 ·intro i j x y hij hx hy h1 h2 h3
  rcases get_snoc hy with ⟨hj, hy'⟩ | ⟨rfl, rfl⟩
  ·rcases get_snoc hx with ⟨hi, hx'⟩ | ⟨rfl, _⟩
   ·exact G.wanc i j x y hij hx' hy' h1 h2 h3
   ·omega
  ·rcases get_snoc hx with ⟨hi, hx'⟩ | ⟨rfl, _⟩
   ·refine (hwm h3).2.1 _ (G.nobs i x hx' h1 h2) ?_
    rcases ldV_cases x.t x.o.op x.v with h | ⟨_, _, _, _, _, _, h⟩ <;> rw [h] <;> rfl
   ·omega
 ·intro i j x y hij hx hy h1 h2 h3
  rcases get_snoc hy with ⟨hj, hy'⟩ | ⟨rfl, rfl⟩
  ·rcases get_snoc hx with ⟨hi, hx'⟩ | ⟨rfl, _⟩
   ·exact G.wbeh i j x y hij hx' hy' h1 h2 h3
   ·omega
  ·rcases get_snoc hx with ⟨hi, hx'⟩ | ⟨rfl, _⟩
   ·refine (hwo h2 h3 i (G.wnob i x hx' h1)).imp id fun hs => ?_
    obtain ⟨_, _, k1, _, _, ⟨lw, k2⟩, k3, _⟩:=G.made i x hx' (G.wmak i x hx' h1)
    unfold sameW at hs
    rw [G.need i, hx'] at hs
    simp only [Option.map_some, k3, k1, k2] at hs
    rcases ldV_cases y.t y.o.op y.v with h | ⟨_, _, _, _, _, _, h⟩ <;> rw [h] at hs ⊢
    ·cases hs
    ·exact hs
   ·omega
 ·intro j x hx h
  rcases get_snoc hx with ⟨_, hx'⟩ | ⟨rfl, rfl⟩
  ·exact hnob.1 _ (G.wnob j x hx' h)
  ·exact (hwm h).2.2
 ·intro j x hx h
  rcases get_snoc hx with ⟨_, hx'⟩ | ⟨rfl, rfl⟩
  ·obtain ⟨p1, p2, p3, p4, ty, cs, b, p5, p6, p7⟩ := G.flo j x hx' h
   exact ⟨p1, p2, p3, p4, ty, cs, b, p5, p6, hnob.1 _ p7⟩
  ·obtain ⟨p1, p2, p3, p4, ty, cs, b, p5, p6, p7⟩ := hflo h
   exact ⟨p1, p2, p3, p4, ty, cs, b, p5, p6, hnob.1 _ p7⟩
 ·exact fun j l hm => (G.fst j l (hfn _ _ hm)).mono hfn
 ·intro j x hx h i l hm
  have hm:=hfn _ _ hm
  rcases get_snoc hx with ⟨_, hx'⟩ | ⟨rfl, rfl⟩
  ·rcases G.fsto j x hx' h i l hm with h1 | ⟨b, ob, h2, h3⟩
   ·exact .inl h1
   ·exact .inr ⟨b, ob, by rw [hst, List.getElem?_append_left (G.slt j x hx' h)]; exact h2, h3⟩
  ·obtain ⟨b, ob, h4, h5⟩ := hsanc h
   rcases h5 _ hm with h6 | h6
   ·exact .inl h6
   ·exact .inr ⟨b, ob, h4, h6⟩
 ·intro j x hx h i l hm
  have hm:=hfn _ _ hm
  rcases get_snoc hx with ⟨_, hx'⟩ | ⟨rfl, rfl⟩
  ·exact G.fwr j x hx' h i l hm
  ·exact (hwm h).2.1 _ hm rfl
theorem ldV_agg {t : Tr V} {o : Op} {v : V} {l : List V} : ldV t o v ≠ .agg l:=by
 rcases ldV_cases t o v with h | ⟨_, _, _, _, _, _, h⟩ <;> rw [h] <;> intro h <;> cases h
theorem cons_agg {l : List (Nat × V)} {i j : Nat} {x : V} {m : List V} (hx : ∀ m, x ≠ .agg m) (h : (j, V.agg m) ∈ (i, x) :: l) : (j, V.agg m) ∈ l:=by
 rcases List.mem_cons.1 h with h | h
 ·exact (hx m (Prod.mk.inj h).2.symm).elim
 ·exact h
theorem hdNob_agg {s : Hd} {o : Oper} {i j : Nat} {v : V} {m : List V} (h : (j, V.agg m) ∈ hdNob s o i v) : (j, V.agg m) ∈ s.nob:=by
 unfold hdNob at h
 cases ho : obliv o.op <;> rw [ho] at h
 ·exact cons_agg (fun _ => ldV_agg) h
 ·exact h
theorem floOf_mem : ∀ {l : List (Nat × V)} {i : Nat} {p : List V}, floOf l i = some p → (i, V.agg p) ∈ l
 | [], _, _, h => by cases h
 | (j, x) :: l, i, p, h => by
  simp only [floOf] at h
  split at h
  ·rename_i m
   cases hj : Nat.beq j i with
   | true =>
    rw [hj] at h
    simp only [cond_true, Option.some.injEq] at h
    have:=Nat.eq_of_beq_eq_true hj
    subst this; subst h
    exact List.mem_cons_self
   | false =>
    rw [hj] at h
    exact List.mem_cons_of_mem _ (floOf_mem h)
  ·exact List.mem_cons_of_mem _ (floOf_mem h)
theorem hdPlain_agg {r : Rn} {ms : Tr Nat} {s s' : Hd} {o : Oper} {i m : Nat} {h : Hp} (he : hdPlain P ms r s o i m h = some s') {j : Nat} {l : List V} (hm : (j, V.agg l) ∈ s'.nob) : (j, V.agg l) ∈ s.nob:=by
 unfold hdPlain at he
 simp only [Bool.cond_eq_ite] at he
 split at he
 ·split at he
  ·split at he
   ·unfold hdMk at he
    simp only [Bool.cond_eq_ite] at he
    split at he
    ·unfold hdMade at he
     simp only [Bool.cond_eq_ite] at he
     split at he
     ·split at he
      ·simp only [Option.some.injEq] at he; subst he; exact hdNob_agg hm
      ·cases he
     ·cases he
    ·unfold hdWrote at he
     simp only [Bool.cond_eq_ite] at he
     split at he
     ·split at he
      ·simp only [Option.some.injEq] at he; subst he; exact cons_agg (fun _ h => by simp [undefV] at h) (cons_agg (fun _ h => by cases h) hm)
      ·cases he
     ·cases he
   ·cases he
  ·unfold hdRead at he
   split at he
   ·simp only [Bool.cond_eq_ite] at he
    split at he
    ·simp only [Option.some.injEq] at he; subst he; exact hdNob_agg hm
    ·cases he
   ·cases he
 ·cases he
theorem hdOne_agg {r : Rn} {ms : Tr Nat} {s s' : Hd} {o : Oper} {i : Nat} {b : Option Bool} (he : hdOne P ms r s o i b = some s') {j : Nat} {l : List V} (hm : (j, V.agg l) ∈ s'.nob) : (j, V.agg l) ∈ s.nob:=by
 unfold hdOne at he
 split at he
 ·cases he
 ·simp only [Option.some.injEq] at he; subst he; exact hm
 ·unfold hdDo at he
  split at he
  ·cases he
  ·split at he
   ·unfold hdStore at he
    (repeat' split at he) <;> first | (cases he; done) | skip
    unfold hdPut at he
    simp only [Bool.cond_eq_ite] at he
    (repeat' split at he) <;> first | (cases he; done) | (simp only [Option.some.injEq] at he; subst he; exact cons_agg (fun _ h => by simp [undefV] at h) hm)
   ·unfold hdFlo at he
    split at he
    ·exact hdPlain_agg he hm
    ·simp only [Option.some.injEq] at he; subst he; exact hm
    ·cases he
   ·unfold hdFloS at he
    split at he
    ·exact hdPlain_agg he hm
    ·unfold hdFloC at he
     split at he
     ·simp only [Bool.cond_eq_ite] at he
      split at he
      ·simp only [Option.some.injEq] at he; subst he; exact hm
      ·cases he
     ·cases he
    ·cases he
   ·exact hdPlain_agg he hm
theorem hdAll_agg {r : Rn} {ms : Tr Nat} {all : Array Oper} {j : Nat} {m : List V} : ∀ {l : List Oper} {i : Nat} {s s' : Hd}, hdAll P ms r all l i (some s) = some s' → (j, V.agg m) ∈ s'.nob → (j, V.agg m) ∈ s.nob
 | [], i, s, s', he, hm => by simp only [hdAll, Option.some.injEq] at he; subst he; exact hm
 | o :: l, i, s, s', he, hm => by
  simp only [hdAll] at he
  cases h1 : hdOne P ms r s o i (wantO all s.t o) with
  | none => rw [h1] at he; cases l <;> simp [hdAll] at he
  | some s1 => rw [h1] at he; exact hdOne_agg h1 (hdAll_agg he hm)
theorem flo0_spec {ms : Tr Nat} {all : List Oper} {t : Tr V} : ∀ (l : List Oper) (i : Nat) (h : Hp) {h' : Hp} {n : List (Nat × V)}, flo0 P ms all t l i h = some (h', n) → (∀ b, h.n ≤ b → h.t.get b = none) →
 h.n ≤ h'.n ∧ (∀ b, b < h.n → h'.t.get b = h.t.get b) ∧ (∀ b, h'.n ≤ b → h'.t.get b = none) ∧
 ∀ j m, (j, V.agg m) ∈ n → ∃ p b ty cs o, V.agg m = fent p ty cs ∧ blkV p = some b ∧ i ≤ j ∧ l[j - i]? = some o ∧ obliv o.op = true ∧ (∀ ty', o.op = .alloc ty' → ty' = ty ∧ p = .ptr b 0 ∧ ∃ z, zero P ty = some z ∧ cs = vcells z) ∧ h.n ≤ b ∧ b < h'.n ∧
  h'.t.get b = some (.cells (Tr.nil.setL 0 cs) cs.length false ty) ∧ ∀ j' m' p' e c, (j', V.agg m') ∈ n → V.agg m' = fent p' e c → blkV p' = some b → j' = j
 | [], i, h, h', n, e, hf => by
  simp only [flo0, Option.some.injEq, Prod.mk.injEq] at e
  obtain ⟨rfl, rfl⟩:=e
  exact ⟨Nat.le_refl _, fun _ _ => rfl, hf, fun j m hm => by cases hm⟩
 | o :: l, i, h, h', n, e, hf => by
  have dec : (∃ p ty cs n', n = (i, fent p ty cs) :: n' ∧ blkV p = some h.n ∧ obliv o.op = true ∧ (∀ ty', o.op = .alloc ty' → ty' = ty ∧ p = .ptr h.n 0 ∧ ∃ z, zero P ty = some z ∧ cs = vcells z) ∧ flo0 P ms all t l (i + 1) (h.newRow ty cs false) = some (h', n')) ∨
   flo0 P ms all t l (i + 1) h = some (h', n):=by
   rw [flo0] at e
   split at e
   ·rename_i ty cs heq
    obtain ⟨n', e', rfl⟩:=consF_some e
    split at heq
    ·rename_i ty' hop hg
     cases hob : obliv (Op.alloc ty') with
     | false => rw [hop, hob] at heq; cases heq
     | true =>
      rw [hop, hob] at heq
      simp only [cond_true] at heq
      split at heq
      ·rename_i z hz
       simp only [Option.some.injEq, Prod.mk.injEq] at heq
       obtain ⟨rfl, rfl⟩:=heq
       refine .inl ⟨_, _, _, n', rfl, rfl, by rw [hop]; exact hob, fun ty2 h2 => ?_, e'⟩
       rw [hop] at h2
       simp only [Op.alloc.injEq] at h2
       subst h2
       exact ⟨rfl, rfl, z, hz, rfl⟩
      ·cases heq
    ·cases heq
   ·split at e
    ·rename_i e1 len ys hS
     split at e
     ·rename_i vs hvs
      obtain ⟨n', e', rfl⟩:=consF_some e
      unfold floS at hS
      split at hS
      ·rename_i ty len' parts hop hg
       cases hob : obliv (Op.buildSlice ty len' parts) with
       | false => rw [hop, hob] at hS; cases hS
       | true =>
        exact .inl ⟨_, _, _, n', rfl, rfl, by rw [hop]; exact hob, fun ty2 h2 => (by rw [hop] at h2; cases h2), e'⟩
      ·cases hS
     ·cases e
    ·exact .inr e
  rcases dec with ⟨p, ty, cs, n', rfl, hpb, hob, hal, e'⟩ | e'
  ·have hf' : ∀ b, (h.newRow ty cs false).n ≤ b → (h.newRow ty cs false).t.get b = none := fun b hb => by
    simp only [Hp.newRow, Hp.new] at hb ⊢
    rw [Tr.get_set_ne _ _ (by omega)]; exact hf b (by omega)
   obtain ⟨h1, h2, h3, h4⟩:=flo0_spec l (i + 1) (h.newRow ty cs false) e' hf'
   have hn : (h.newRow ty cs false).n = h.n + 1:=rfl
   rw [hn] at h1 h2
   refine ⟨by omega, fun b hb => ?_, h3, fun j m hm => ?_⟩
   ·rw [h2 b (by omega)]
    simp only [Hp.newRow, Hp.new]
    exact Tr.get_set_ne _ _ (by omega)
   ·have hin : ∀ {j' m'} p' e c, (j', V.agg m') ∈ n' → V.agg m' = fent p' e c → blkV p' ≠ some h.n:=by
     intro j' m' p' e1 c hm' he1 hb1
     obtain ⟨p2, b, ty2, z2, o2, q1, q1b, _, _, _, _, q6, _⟩:=h4 j' m' hm'
     rw [q1] at he1
     obtain ⟨rfl, _, _⟩:=fent_inj he1
     rw [q1b] at hb1
     simp only [Option.some.injEq] at hb1
     rw [hn] at q6
     omega
    rcases List.mem_cons.1 hm with hm1 | hm
    ·simp only [Prod.mk.injEq] at hm1
     obtain ⟨rfl, hm1⟩:=hm1
     refine ⟨p, h.n, ty, cs, o, hm1, hpb, Nat.le_refl _, by simp, hob, hal, Nat.le_refl _, by omega, ?_, fun j' m' p' e c hm' he' hb' => ?_⟩
     ·rw [h2 h.n (by omega)]
      simp only [Hp.newRow, Hp.new]
      exact Tr.get_set_same _ _ _
     ·rcases List.mem_cons.1 hm' with hm' | hm'
      ·exact (Prod.mk.inj hm').1
      ·exact (hin _ _ _ hm' he' hb').elim
    ·obtain ⟨p2, b, ty2, z2, o2, q1, q1b, q2, q3, q4, q5, q6, q7, q8, q9⟩ := h4 j m hm
     refine ⟨p2, b, ty2, z2, o2, q1, q1b, by omega, by rw [show j - i = (j - (i + 1)) + 1 by omega]; exact q3, q4, q5, by rw [hn] at q6; omega, q7, q8, fun j' m' p' e c hm' he' hb' => ?_⟩
     rcases List.mem_cons.1 hm' with hm' | hm'
     ·exfalso
      rw [(Prod.mk.inj hm').2] at he'
      obtain ⟨rfl, _, _⟩:=fent_inj he'
      rw [hpb] at hb'
      simp only [Option.some.injEq] at hb'
      rw [hn] at q6
      omega
     ·exact q9 j' m' p' e c hm' he' hb'
  ·obtain ⟨h1, h2, h3, h4⟩ := flo0_spec l (i + 1) h e' hf
   refine ⟨h1, h2, h3, fun j m hm => ?_⟩
   obtain ⟨p, b, ty, cs, o', q1, q1b, q2, q3, q4⟩:=h4 j m hm
   exact ⟨p, b, ty, cs, o', q1, q1b, by omega, by rw [show j - i = (j - (i + 1)) + 1 by omega]; exact q3, q4⟩
theorem old_chain {P : Program} {r : Rn} {all : Array Oper} {t0 : Tr V} {h0 : Hp} {es : List En} {s : Hd} {e : En} (G : Good P r all t0 h0 es s) (m : Nat) (H H' : Hp) (h1 : s.hs.get m = some H) (h2 : s.hs.get (m + 1) = some H') :
 H.n ≤ H'.n ∧ ((∀ (j : Nat) e', (es ++ [e])[j]? = some e' → e'.wr = true → e'.m ≠ m) → ∀ b, b < H.n → H'.t.get b = H.t.get b):=by
 obtain ⟨h3, h4⟩:=G.chain m H H' h1 h2
 exact ⟨h3, fun h => h4 fun j e' hj => h j e' (by rw [List.getElem?_append_left (get_lt hj)]; exact hj)⟩
theorem hdOne_good {r : Rn} (hr : RnFr r) {all : Array Oper} {t0 : Tr V} {h0 : Hp} {es : List En} {s s' : Hd} {o : Oper} (G : Good P r all t0 h0 es s) (ho : all[es.length]? = some o)
 (he : hdOne P (masks all) r s o es.length (wantO all s.t o) = some s') : ∃ e, Good P r all t0 h0 (es ++ [e]) s':=by
 have hmle : ∀ m H, s.hs.get m = some H → m ≤ s.c := fun m H h => by
  rcases Nat.lt_or_ge s.c m with h1 | h1
  ·rw [G.hsn m h1] at h; cases h
  ·exact h1
 cases hw : wantO all s.t o with
 | none => simp [hw, hdOne] at he
 | some b =>
  rw [hw] at he
  cases b with
  | false =>
   simp only [hdOne, Option.some.injEq] at he
   subst he
   refine ⟨⟨o, s.t, false, false, false, maxNeed s.need o.after.toList, maxNeed s.need o.after.toList, 0, undefV, h0, h0, false, false⟩, G.snoc ⟨ho, rfl, rfl, rfl, rfl, hw⟩ (fun _ _ h => h) (Nat.le_refl _) ⟨[], by simp [hdSkip]⟩
    (fun _ => ⟨rfl, rfl, rfl, rfl⟩) (fun h => by cases h) (fun h => by cases h) (fun h => by cases h) (fun m hm => .inl hm) (fun q hq => .inl hq) (fun h => by cases h) ⟨fun _ h => h, fun h => by cases h⟩ (fun h => by cases h)
    (fun h => by cases h) G.hsc G.hsn (fun h => by cases h) (fun h => by cases h) (fun m H H' a b => old_chain G m H H' a b) (fun h => by cases h) (fun _ _ h => h)⟩
  | true =>
   simp only [hdOne] at he
   cases hg : s.hs.get (maxNeed s.need o.after.toList) with
   | none => simp [hg, hdDo] at he
   | some h =>
    have hmc:=hmle _ _ hg
    rw [hg] at he
    by_cases hso : ∃ ty a x, o.op = .store ty a x
    ·obtain ⟨ty, a, x, hop⟩ := hso
     simp only [hdDo, hop] at he
     unfold hdStore at he
     cases ha : evalO s.t a with
     | none => simp [ha] at he
     | some av =>
      cases av <;> simp only [ha, reduceCtorEq] at he
      rename_i bb off
      cases hx : evalO s.t x with
      | none => simp [hx] at he
      | some v =>
       simp only [hx] at he
       cases hob : storeO P (stores s.st h) ty bb off v with
       | none => simp [hob, hdPut] at he
       | some ob =>
        simp only [hob, hdPut] at he
        cases hall : s.nob.all (fun x => anc (masks all) es.length x.1 || okV bb x.2) with
        | false => simp [hall] at he
        | true =>
         simp only [hall, cond_true, Option.some.injEq] at he
         subst he
         have hall' : ∀ x, x ∈ s.nob → anc (masks all) es.length x.1 = true ∨ okV bb x.2 = true:=fun x hi => by simpa using List.all_eq_true.1 hall x hi
         refine ⟨⟨o, s.t, true, false, true, maxNeed s.need o.after.toList, maxNeed s.need o.after.toList, s.st.length, unitV, h, h, false, false⟩, G.snoc ⟨ho, rfl, rfl, rfl, rfl, hw⟩ (fun _ _ h => h) (Nat.le_refl _) ⟨[(bb, ob)], rfl⟩
          (fun h => by cases h) (fun _ _ h => by cases h) (fun h => by cases h) (fun _ => ⟨rfl, rfl, ⟨ty, a, x, bb, off, v, ob, hop, ha, hx, hg, ?_, ?_⟩, rfl, rfl⟩) (fun m hm => .inl hm) (fun q hq => ?_) (fun _ => ⟨rfl, ?_⟩)
          ⟨fun _ h => List.mem_cons_of_mem _ h, fun _ _ => by rw [ldV_store hop]; exact List.mem_cons_self⟩ (fun _ => ⟨bb, ob, by simp, hall'⟩)
          (fun _ h => by cases h) G.hsc G.hsn (fun h => by cases h) (fun _ _ i hi => .inl ((hall' _ hi).elim id fun h => by cases h)) (fun m H H' a b => old_chain G m H H' a b) (fun h => by cases h) (fun _ _ h => cons_agg (fun _ h => by simp [undefV] at h) h)⟩
         ·simp only [List.take_left']; exact hob
         ·simp
         ·simp only [List.length_append, List.length_singleton] at hq
          rcases Nat.lt_or_ge q s.st.length with h | h
          ·exact .inl h
          ·exact .inr ⟨rfl, by simp only; omega⟩
         ·simp
    ·have he0 : hdPlain P (masks all) r s o es.length (maxNeed s.need o.after.toList) h = some s' ∨ ∃ p ty cs b, ((es.length, fent p ty cs) ∈ s.nob ∧ obliv o.op = true ∧ FloC P s.t o.op b p ty cs ∧ blkV p = some b) ∧ s' = ⟨s.c, s.hs, s.need.set es.length (maxNeed s.need o.after.toList), putO s.t o.dst p, s.st, s.nob⟩:=by
      simp only [hdDo] at he
      split at he
      ·exact (hso ⟨_, _, _, by assumption⟩).elim
      ·rename_i ty0 hop
       unfold hdFlo at he
       split at he
       ·exact .inl he
       ·rename_i p m hp
        simp only [Option.some.injEq] at he
        have hm:=floOf_mem hp
        obtain ⟨p', b, ty, cs, o', q1, q2, q3, q4, q5, _⟩:=G.fst _ _ hm
        rw [ho] at q3
        simp only [Option.some.injEq] at q3; subst q3
        obtain ⟨rfl, rfl, z, hz, rfl⟩:=q5 _ hop
        have hpe : p = .ptr b 0:=by
         unfold fent at q1
         simp only [V.agg.injEq, List.cons.injEq] at q1
         exact q1.1
        subst hpe
        exact .inr ⟨_, ty0, vcells z, b, ⟨by rw [← q1]; exact hm, q4, .inl ⟨z, hop, hz, rfl, rfl⟩, rfl⟩, he.symm⟩
       ·cases he
      ·rename_i sty len parts hop
       unfold hdFloS at he
       split at he
       ·exact .inl he
       ·rename_i p ty cs hp
        have hm:=floOf_mem hp
        obtain ⟨p', b, ty', cs', o', q1, q2, q3, q4, _⟩:=G.fst _ _ hm
        rw [ho] at q3
        simp only [Option.some.injEq] at q3; subst q3
        obtain ⟨rfl, rfl, rfl⟩:=fent_inj (show fent p ty cs = fent p' ty' cs' from q1)
        unfold hdFloC at he
        split at he
        ·rename_i v h1 hex
         simp only [Bool.cond_eq_ite] at he
         split at he
         ·rename_i hfi
          simp only [Option.some.injEq] at he
          unfold floIs at hfi
          rw [Bool.and_eq_true] at hfi
          have hve:=vEq_eq hfi.1
          subst hve
          have hbn : blkN v = b:=by
           unfold blkV at q2
           split at q2 <;> first | (simp only [Option.some.injEq] at q2; exact q2) | cases q2
          rw [hop] at hex
          exact .inr ⟨v, ty, cs, b, ⟨hm, q4, .inr ⟨sty, len, parts, h1, hop, hex, by rw [← hbn]; exact hfi.2⟩, q2⟩, he.symm⟩
         ·cases he
        ·cases he
       ·cases he
      ·exact .inl he
     rcases he0 with he' | ⟨p, ty, cs, b, ⟨hm, hobl, hfc, hbv⟩, rfl⟩
     rotate_left
     ·exact ⟨⟨o, s.t, true, false, false, maxNeed s.need o.after.toList, maxNeed s.need o.after.toList, 0, p, h, h, false, true⟩, G.snoc ⟨ho, rfl, rfl, rfl, rfl, hw⟩ (fun _ _ h => h) (Nat.le_refl _) ⟨[], by simp⟩
       (fun h => by cases h) (fun _ _ _ h => by cases h) (fun h => by cases h) (fun h => by cases h) (fun m hm => .inl hm) (fun q hq => .inl hq) (fun h => by cases h) ⟨fun _ h => h, fun _ h => by simp only at h; rw [hobl] at h; cases h⟩ (fun h => by cases h)
       (fun _ _ h => by simp only at h; rw [hobl] at h; cases h) G.hsc G.hsn (fun h => by cases h) (fun _ h => by simp only at h; rw [hobl] at h; cases h) (fun m H H' a b => old_chain G m H H' a b)
       (fun _ => ⟨rfl, rfl, rfl, rfl, ty, cs, b, hfc, hbv, hm⟩) (fun _ _ h => h)⟩
     unfold hdPlain at he'
     cases hob : (obliv o.op || freeM (masks all) es.length s o) with
     | false => simp [hob] at he'
     | true =>
      simp only [hob, cond_true] at he'
      have hnil : obliv o.op = false → s.st = []:=by
       intro h
       rw [h, Bool.false_or] at hob
       unfold freeM at hob
       cases hst : s.st with
       | nil => rfl
       | cons _ _ => rw [hst] at hob; simp [isNil] at hob
      have hnm : makes o = true → obliv o.op = false → ∀ v i, (i, V.bool false) ∈ s.nob → anc (masks all) es.length i = true ∨ sameW s i v = true:=by
       intro hmk h v i hi
       rw [h, Bool.false_or] at hob
       unfold freeM behindW at hob
       rw [Bool.and_eq_true, hmk] at hob
       have:=List.all_eq_true.1 hob.2 _ hi
       exact .inl (by simpa [freeV] using this)
      have hnob : ∀ v, (∀ j, j ∈ s.nob → j ∈ hdNob s o es.length v) ∧ (obliv o.op = false → (es.length, ldV s.t o.op v) ∈ hdNob s o es.length v):=by
       intro v
       unfold hdNob
       cases obliv o.op with
       | true => exact ⟨fun _ h => h, fun h => by cases h⟩
       | false => exact ⟨fun _ h => List.mem_cons_of_mem _ h, fun _ => List.mem_cons_self⟩
      cases hm : makes o with
      | false =>
       simp only [hm, cond_false] at he'
       cases hex : execV P s.t h o.op with
       | none => simp [hex, hdRead] at he'
       | some p =>
        obtain ⟨v, h1⟩:=p
        simp only [hex, hdRead] at he'
        cases hbr : (obliv o.op || behindR (masks all) es.length s (ldV s.t o.op v)) with
        | false => rw [hbr] at he'; cases he'
        | true =>
        rw [hbr] at he'
        simp only [cond_true, Option.some.injEq] at he'
        subst he'
        have hnr : obliv o.op = false → ∀ i, (i, V.bool false) ∈ s.nob → anc (masks all) es.length i = true ∨ sameW s i (ldV s.t o.op v) = true:=by
         intro h i hi
         rw [h, Bool.false_or] at hbr
         have:=List.all_eq_true.1 hbr _ hi
         simp only [Bool.or_eq_true, freeV] at this
         rcases this with h1 | h1 | h1
         ·exact .inl h1
         ·cases h1
         ·exact .inr h1
        exact ⟨⟨o, s.t, true, false, false, maxNeed s.need o.after.toList, maxNeed s.need o.after.toList, 0, v, h, h, false, false⟩, G.snoc ⟨ho, rfl, rfl, rfl, rfl, hw⟩ (fun _ _ h => h) (Nat.le_refl _) ⟨[], by simp⟩
         (fun h => by cases h) (fun _ _ _ _ => ⟨hm, hg, ⟨h1, hex⟩, rfl⟩) (fun h => by cases h) (fun h => by cases h) (fun m hm => .inl hm) (fun q hq => .inl hq) (fun h => by cases h) ⟨(hnob v).1, fun _ h => (hnob v).2 h⟩ (fun h => by cases h)
         (fun _ _ h => hnil h) G.hsc G.hsn (fun h => by cases h) (fun _ h => hnr h) (fun m H H' a b => old_chain G m H H' a b) (fun h => by cases h) (fun _ _ h => hdNob_agg h)⟩
      | true =>
       simp only [hm, cond_true] at he'
       cases hbc : Nat.beq (maxNeed s.need o.after.toList) s.c with
       | false => simp [hbc] at he'
       | true =>
        have hmeq:=Nat.eq_of_beq_eq_true hbc
        simp only [hbc, cond_true] at he'
        have hset : ∀ (X : Hp), (∀ m H, s.hs.get m = some H → (s.hs.set (s.c + 1) X).get m = some H) ∧ (s.hs.set (s.c + 1) X).get (maxNeed s.need o.after.toList) = some h ∧ (s.hs.set (s.c + 1) X).get (maxNeed s.need o.after.toList + 1) = some X ∧
         (∀ m, m ≤ s.c + 1 → ∃ H, (s.hs.set (s.c + 1) X).get m = some H) ∧ (∀ m, s.c + 1 < m → (s.hs.set (s.c + 1) X).get m = none):=by
         intro X
         refine ⟨fun m H hH => ?_, ?_, ?_, fun m hm' => ?_, fun m hm' => ?_⟩
         ·have := hmle m H hH
          rw [Tr.get_set_ne _ _ (by omega)]; exact hH
         ·rw [Tr.get_set_ne _ _ (by omega)]; exact hg
         ·rw [hmeq, Tr.get_set_same]
         ·by_cases hh : s.c + 1 = m
          ·exact ⟨_, by rw [hh, Tr.get_set_same]⟩
          ·obtain ⟨H, hH⟩ := G.hsc m (by omega)
           exact ⟨H, by rw [Tr.get_set_ne _ _ hh]; exact hH⟩
         ·rw [Tr.get_set_ne _ _ (by omega)]; exact G.hsn m (by omega)
        have hchain : ∀ (X : Hp) (e : En), h.n ≤ X.n → ((e.wr = false ∨ e.m ≠ s.c) → ∀ b, b < h.n → X.t.get b = h.t.get b) → ∀ m H H', (s.hs.set (s.c + 1) X).get m = some H → (s.hs.set (s.c + 1) X).get (m + 1) = some H' →
         H.n ≤ H'.n ∧ ((∀ (j : Nat) e', (es ++ [e])[j]? = some e' → e'.wr = true → e'.m ≠ m) → ∀ b, b < H.n → H'.t.get b = H.t.get b):=by
         intro X e hX1 hX2 m H H' h2 h3
         by_cases hh : m = s.c
         ·subst hh
          rw [Tr.get_set_ne _ _ (by omega)] at h2
          rw [Tr.get_set_same] at h3
          rw [hmeq] at hg
          rw [hg] at h2
          simp only [Option.some.injEq] at h2 h3
          subst h2 h3
          refine ⟨hX1, fun hw => hX2 ?_⟩
          cases hew : e.wr with
          | false => exact .inl rfl
          | true => exact .inr (hw es.length e (by simp) hew)
         ·by_cases hh2 : m = s.c + 1
          ·subst hh2
           rw [Tr.get_set_ne _ _ (by omega), G.hsn _ (by omega)] at h3; cases h3
          ·rw [Tr.get_set_ne _ _ (by omega)] at h2
           rw [Tr.get_set_ne _ _ (by omega)] at h3
           exact old_chain G m H H' h2 h3
        unfold hdMk at he'
        cases hob0 : obliv o.op with
        | false =>
         rw [hob0, cond_false] at he'
         cases hop : opV P r s.t ⟨h.t, h.n, h.n⟩ o with
         | none => simp [hop, hdWrote] at he'
         | some p =>
          obtain ⟨v, h1⟩:=p
          simp only [hop, hdWrote] at he'
          cases hall : s.nob.all (fun x => (anc (masks all) es.length x.1 || markV x.2) || (pureB h h1 || sameLd h h1 x.2)) with
          | false => simp [hall] at he'
          | true =>
           simp only [hall, cond_true, Option.some.injEq] at he'
           subst he'
           have f:=op_fr hr hop
           have hS:=hset ⟨h1.t, h1.n, Nat.min h.low h1.low⟩
           exact ⟨⟨o, s.t, true, true, false, maxNeed s.need o.after.toList, s.c + 1, 0, v, h, h1, !(pureB h h1), false⟩, G.snoc ⟨ho, rfl, rfl, rfl, rfl, hw⟩ hS.1 (Nat.le_succ _) ⟨[], by simp⟩
            (fun h => by cases h) (fun _ h => by cases h) (fun _ => ⟨rfl, hm, hS.2.1, hop, fun _ => hob0, ⟨_, hS.2.2.1⟩, by simp only; omega, by simp only; omega, by simp only; omega⟩) (fun h => by cases h)
            (fun m hm => by
              simp only at hm
              rcases Nat.lt_or_ge m s.c with h | h
              ·exact .inl h
              ·exact .inr ⟨rfl, by simp only; omega⟩) (fun q hq => .inl hq) (fun h => by cases h) ⟨fun _ h => List.mem_cons_of_mem _ (List.mem_cons_of_mem _ h), fun _ _ => by rw [ldV_makes hm]; exact List.mem_cons_of_mem _ List.mem_cons_self⟩ (fun h => by cases h)
            (fun _ _ h => hnil h) hS.2.2.2.1 hS.2.2.2.2 (fun hwr => ⟨rfl, fun x hi hmv => by
              have:=List.all_eq_true.1 hall x hi
              simp only [Bool.not_eq_true'] at hwr
              rw [hmv, hwr] at this
              simpa using this, by
              simp only [Bool.not_eq_true'] at hwr
              rw [hwr]; exact List.mem_cons_self⟩) (fun _ h => hnm hm h _)
            (hchain _ _ f.n fun h2 b hb => by
              rcases h2 with h2 | h2
              ·simp only [Bool.not_eq_false'] at h2
               exact f.get b hb (Nat.lt_of_lt_of_le hb (Nat.le_of_ble_eq_true h2))
              ·exact (h2 hmeq).elim) (fun h => by cases h) (fun _ _ h => cons_agg (fun _ h => by simp [undefV] at h) (cons_agg (fun _ h => by cases h) h))⟩
        | true =>
         rw [hob0, cond_true] at he'
         cases hop : opV P r s.t ⟨h.t, h.n, h.n⟩ o with
         | none => simp [hop, hdMade] at he'
         | some p =>
          obtain ⟨v, h1⟩:=p
          simp only [hop, hdMade] at he'
          cases hle0 : Nat.ble h.n h1.low with
          | false => simp [hle0] at he'
          | true =>
           have hle:=Nat.le_of_ble_eq_true hle0
           simp only [hle0, cond_true, Option.some.injEq] at he'
           subst he'
           have f:=op_fr hr hop
           have hS:=hset ⟨h1.t, h1.n, h.low⟩
           exact ⟨⟨o, s.t, true, true, false, maxNeed s.need o.after.toList, s.c + 1, 0, v, h, h1, false, false⟩, G.snoc ⟨ho, rfl, rfl, rfl, rfl, hw⟩ hS.1 (Nat.le_succ _) ⟨[], by simp⟩
            (fun h => by cases h) (fun _ h => by cases h) (fun _ => ⟨rfl, hm, hS.2.1, hop, fun h => (by cases h), ⟨_, hS.2.2.1⟩, by simp only; omega, by simp only; omega, by simp only; omega⟩) (fun h => by cases h)
            (fun m hm => by
              simp only at hm
              rcases Nat.lt_or_ge m s.c with h | h
              ·exact .inl h
              ·exact .inr ⟨rfl, by simp only; omega⟩) (fun q hq => .inl hq) (fun h => by cases h) ⟨(hnob v).1, fun _ h => (hnob v).2 h⟩ (fun h => by cases h)
            (fun _ _ h => hnil h) hS.2.2.2.1 hS.2.2.2.2 (fun h => by cases h) (fun _ h => hnm hm h _)
            (hchain _ _ f.n fun _ b hb => f.get b hb (Nat.lt_of_lt_of_le hb hle)) (fun h => by cases h) (fun _ _ h => hdNob_agg h)⟩
theorem hdAll_good {r : Rn} (hr : RnFr r) {all : Array Oper} {t0 : Tr V} {h0 : Hp} : ∀ {l : List Oper} {es : List En} {s s' : Hd}, Good P r all t0 h0 es s → (∀ j, j < l.length → all[es.length + j]? = l[j]?) →
 hdAll P (masks all) r all l es.length (some s) = some s' → ∃ es', es'.length = es.length + l.length ∧ Good P r all t0 h0 es' s'
 | [], es, s, s', G, _, he => by simp only [hdAll, Option.some.injEq] at he; subst he; exact ⟨es, rfl, G⟩
 | o :: l, es, s, s', G, hl, he => by
  simp only [hdAll] at he
  have ho : all[es.length]? = some o:=by have:=hl 0 (by simp); simpa using this
  cases h1 : hdOne P (masks all) r s o es.length (wantO all s.t o) with
  | none => rw [h1] at he; cases l <;> simp [hdAll] at he
  | some s1 =>
   rw [h1] at he
   obtain ⟨e, G1⟩:=hdOne_good hr G ho h1
   have hlen : (es ++ [e]).length = es.length + 1:=by simp
   rw [← hlen] at he
   obtain ⟨es', h2, h3⟩ := hdAll_good hr G1 (fun j hj => by
    have:=hl (j + 1) (by simp; omega)
    simp only [List.getElem?_cons_succ] at this
    rw [← this, hlen]; congr 1; omega) he
   exact ⟨es', by rw [h2, hlen]; simp only [List.length_cons]; omega, h3⟩
theorem good_start {r : Rn} {all : Array Oper} {t0 : Tr V} {h0 : Hp} {n0 : List (Nat × V)}
 (hn : ∀ (j : Nat) l, (j, V.agg l) ∈ n0 → FloE P all h0 n0 j l) : Good P r all t0 h0 [] ⟨0, Tr.nil.set 0 h0, .nil, t0, [], n0⟩:=by
 have hg : ∀ m, (Tr.nil.set 0 h0).get m = if 0 = m then some h0 else none:=fun m => by rw [Tr.get_set, Tr.get_nil]
 refine ⟨fun j e h => by simp at h, fun j e h => by simp at h, fun u v h => .inr ⟨fun i e' h => by simp at h, h⟩, fun j => by simp [Tr.get_nil], fun j e h => by simp at h, fun j e h => by simp at h, fun j e h => by simp at h, fun j e h => by simp at h,
  fun j e h => by simp at h, fun j e h => by simp at h, fun i j e e' h => by simp at h, fun m h => by simp at h, fun q h => by simp at h, fun i j e e' _ h => by simp at h, fun j e h => by simp at h, fun j e h => by simp at h, fun i j e e' _ h => by simp at h,
  fun i j e e' _ h => by simp at h, by simp [hg], fun m hm => ⟨h0, by rw [hg, if_pos (by simp at hm; omega)]⟩, fun m hm => by rw [hg, if_neg (by simp at hm; omega)], fun j e h => by simp at h, fun i j e e' _ h => by simp at h, fun i j e e' _ h => by simp at h, fun j e h => by simp at h, fun j e h => by simp at h, hn, fun j e h => by simp at h, fun j e h => by simp at h, fun j e h => by simp at h, fun m H H' h1 h2 => by
   rw [hg, if_neg (by omega)] at h2; cases h2⟩
end
section
variable {P : Program} [Orc] [Z : Res] [OrcOk P]
theorem vh_map (h h2 : Hp) (x : Option V) : vh h2 x = (vh h x).map fun p => (p.1, h2):=by cases x <;> rfl
theorem obliv_readC {t : Tr V} {o : Oper} (ho : oblivC o.op = true) (hm : makesC o.op = false) (h h2 : Hp) : execC P t h2 o.op = (execC P t h o.op).map fun p => (p.1, h2):=by
 obtain ⟨dst, op, type, pos, after, guard⟩:=o
 cases op <;> simp only [oblivC, Bool.false_eq_true] at ho <;> simp only [makesC, Bool.true_eq_false] at hm <;> simp only [execC]
 case move x => exact vh_map _ _ _
 case assign x => exact vh_map _ _ _
 case pick c x y =>
  unfold exPick
  generalize evalO t c = q
  (cases q <;> try rfl)
  rename_i v
  (cases v <;> try rfl)
  rename_i b
  cases b <;> exact vh_map _ _ _
 case build ty parts =>
  unfold exBuild
  generalize evalP t parts.toList = q
  (cases q <;> try rfl)
  generalize zero P ty = q
  (cases q <;> try rfl)
  generalize P.underlying ty = q
  (cases q <;> try rfl)
  rename_i d
  simp only [bld]
  (cases d <;> try rfl)
  ·rename_i elem
   simp only
   generalize sz P elem = q
   (cases q <;> try rfl)
   simp only [bldArr]
   generalize fillV _ _ _ = q
   cases q <;> rfl
  ·rename_i fields
   simp only [bldStruct]
   generalize placesL P fields.toList = q
   (cases q <;> try rfl)
   simp only
   generalize fillV _ _ _ = q
   cases q <;> rfl
 case nilCheck x =>
  generalize evalO t x = q
  (cases q <;> try rfl)
  rename_i v
  cases v <;> rfl
 case binOp op ty x y ty2 =>
  unfold exBin
  generalize evalO t x = q
  (cases q <;> try rfl)
  generalize evalO t y = q
  (cases q <;> try rfl)
  exact vh_map _ _ _
 case unOp op ty x =>
  generalize evalO t x = q
  (cases q <;> try rfl)
  exact vh_map _ _ _
 case convert src dst x =>
  generalize evalO t x = q
  (cases q <;> try rfl)
  rename_i v
  (cases v <;> try rfl)
  ·simp only [exConv]
   generalize P.underlying src = q
   (cases q <;> try rfl)
   generalize P.underlying dst = q
   (cases q <;> try rfl)
   rename_i d
   cases d <;> rfl
  ·simp only [exConv]
   generalize P.underlying src = q
   (cases q <;> try rfl)
   rename_i d
   (cases d <;> try rfl)
   simp only
   generalize P.underlying dst = q
   (cases q <;> try rfl)
   rename_i d
   cases d <;> rfl
 case makeInterface ty x =>
  generalize evalO t x = q
  (cases q <;> try rfl)
  simp only [exIface]
  generalize P.underlying ty = q
  (cases q <;> try rfl)
  rename_i d
  cases d <;> rfl
 case makeFunc fn first cap =>
  unfold exFunc
  (cases fn <;> try rfl)
  simp only
  generalize evalL t first.toList = q
  (cases q <;> try rfl)
  simp only
  generalize evalL t cap.toList = q
  cases q <;> rfl
 case fieldAddr ty x f =>
  generalize evalO t x = q
  (cases q <;> try rfl)
  rename_i v
  (cases v <;> try rfl)
  simp only [exFieldAddr]
  generalize P.underlying ty = q
  (cases q <;> try rfl)
  rename_i d
  (cases d <;> try rfl)
  rename_i fields
  simp only
  generalize fields[f]? = q
  (cases q <;> try rfl)
  rename_i fl
  simp only
  generalize sz P fl.type = q
  (cases q <;> try rfl)
  rename_i s
  simp only
  generalize Nat.beq s 0 = q
  cases q <;> rfl
 case field ty x f =>
  generalize evalO t x = q
  (cases q <;> try rfl)
  rename_i v
  (cases v <;> try rfl)
  simp only [exField]
  generalize P.underlying ty = q
  (cases q <;> try rfl)
  rename_i d
  (cases d <;> try rfl)
  rename_i fields
  simp only
  generalize fields[f]? = q
  (cases q <;> try rfl)
  exact vh_map _ _ _
 case indexAddr ty x ix =>
  unfold exIndexAddr
  generalize natA (evalO t ix) = q
  (cases q <;> try rfl)
  rename_i i
  simp only
  generalize evalO t x = q
  (cases q <;> try rfl)
  rename_i v
  (cases v <;> try rfl)
  ·simp only
   generalize P.underlying ty = q
   (cases q <;> try rfl)
   rename_i d
   (cases d <;> try rfl)
   rename_i len elem
   simp only
   generalize sz P elem = q
   (cases q <;> try rfl)
   simp only
   generalize Nat.blt i len = q
   cases q <;> rfl
  ·rename_i b off len cap g
   simp only
   generalize P.underlying ty = q
   (cases q <;> try rfl)
   rename_i d
   (cases d <;> try rfl)
   rename_i elem
   simp only
   generalize sz P elem = q
   (cases q <;> try rfl)
   simp only
   generalize Nat.blt i len = q
   cases q <;> rfl
 case index ty x ix =>
  unfold exIndex
  generalize natA (evalO t ix) = q
  (cases q <;> try rfl)
  rename_i i
  simp only
  generalize evalO t x = q
  (cases q <;> try rfl)
  rename_i v
  (cases v <;> try rfl)
  ·rename_i s
   simp only
   generalize P.underlying ty = q
   (cases q <;> try rfl)
   rename_i d
   (cases d <;> try rfl)
   simp only
   generalize s.get i = q
   cases q <;> rfl
  ·simp only
   generalize P.underlying ty = q
   (cases q <;> try rfl)
   rename_i d
   (cases d <;> try rfl)
   rename_i len elem
   simp only
   generalize sz P elem = q
   (cases q <;> try rfl)
   simp only
   generalize Nat.blt i len = q
   (cases q <;> try rfl)
   exact vh_map _ _ _
 case extract x i =>
  generalize evalO t x = q
  (cases q <;> try rfl)
  rename_i v
  (cases v <;> try rfl)
  exact vh_map _ _ _
theorem obliv_read {t : Tr V} {o : Oper} (ho : obliv o.op = true) (hm : makes o = false) (h h2 : Hp) : execV P t h2 o.op = (execV P t h o.op).map fun p => (p.1, h2):=by
 by_cases hx : xk o.op = 0
 ·rw [execV_zero hx, execV_zero hx]
  rw [makes_zero hx] at hm
  rw [obliv_zero hx] at ho
  exact obliv_readC ho hm h h2
 ·rw [execV_ne hx, execV_ne hx]
  have h1 : Orc.kd o.op = 1:=by
   rw [← (xk_ne hx).2]
   unfold obliv at ho
   cases e : xk o.op with
   | zero => exact (hx e).elim
   | succ n =>
    cases n with
    | zero => rfl
    | succ n => rw [e] at ho; cases ho
  unfold execX
  cases evalL t o.op.operands.toList with
  | none => rfl
  | some as => exact OpOk.pure (P:=P) _ h1 _ _ _
theorem obliv_makeC {t : Tr V} {o : Oper} (ho : oblivC o.op = true) (hm : makesC o.op = true) {h h' : Hp} {v : V} (he : execC P t h o.op = some (v, h')) :
 isCall o = false ∧ ∃ ob, h' = h.new ob ∧ ∀ h2 : Hp, h2.n = h.n → execC P t h2 o.op = some (v, h2.new ob):=by
 obtain ⟨dst, op, type, pos, after, guard⟩:=o
 cases op <;> simp only [oblivC, Bool.false_eq_true] at ho <;> simp only [makesC, Bool.false_eq_true] at hm <;> simp only [execC] at he ⊢ <;> refine ⟨rfl, ?_⟩
 case alloc e =>
  unfold exAlloc at *
  cases hz : zero P e with
  | none => simp [hz] at he
  | some z =>
   simp only [hz, Option.some.injEq, Prod.mk.injEq] at he
   obtain ⟨rfl, rfl⟩:=he
   exact ⟨_, rfl, fun h2 hn => by simp only [hn]; rfl⟩
 case box e x =>
  cases hx : evalO t x with
  | none => simp [hx, exBox] at he
  | some u =>
   simp only [hx, exBox, Option.some.injEq, Prod.mk.injEq] at he ⊢
   obtain ⟨rfl, rfl⟩:=he
   exact ⟨_, rfl, fun h2 hn => ⟨by rw [hn], rfl⟩⟩
 case buildSlice ty len parts =>
  unfold exBuildSlice at *
  cases hp : evalP t parts.toList with
  | none => simp [hp] at he
  | some ps =>
   simp only [hp] at he ⊢
   cases hu : P.underlying ty with
   | none => simp [hu] at he
   | some d =>
    cases d <;> simp only [hu, reduceCtorEq] at he
    rename_i elem
    cases hs : sz P elem with
    | none => simp [hs] at he
    | some s =>
     simp only [hs] at he ⊢
     cases hz : zero P elem with
     | none => simp [hz] at he
     | some z =>
      simp only [hz, bldSl] at he ⊢
      cases hb : (Nat.ble (len * s) 65536 && Nat.beq (vcells z).length s) with
      | false => simp [hb] at he
      | true =>
       simp only [hb, cond_true] at he ⊢
       cases hf : fillV (fun i => some (i * s, s)) (mulz (vcells z) len) ps with
       | none => simp [hf] at he
       | some cs =>
        simp only [hf, Option.some.injEq, Prod.mk.injEq] at he ⊢
        obtain ⟨rfl, rfl⟩:=he
        exact ⟨_, rfl, fun h2 hn => ⟨by rw [hn], rfl⟩⟩
 case makeMap ty r =>
  cases r <;> simp only [reduceCtorEq, Option.some.injEq, Prod.mk.injEq] at he ⊢
  obtain ⟨rfl, rfl⟩:=he
  exact ⟨_, rfl, fun h2 hn => ⟨by rw [hn], rfl⟩⟩
 case makeSlice ty x y =>
  unfold exMake at *
  cases hx : natV (evalO t x) with
  | none => simp [hx] at he
  | some ln =>
   simp only [hx] at he ⊢
   cases hy : natV (evalO t y) with
   | none => simp [hy] at he
   | some cn =>
    simp only [hy, exMakeSlice, mkSl] at he ⊢
    cases hu : P.underlying ty with
    | none => simp [hu] at he
    | some d =>
     cases d <;> simp only [hu, reduceCtorEq] at he
     rename_i elem
     simp only
     cases hi : P.info? elem with
     | none => simp [hi] at he
     | some i =>
      simp only [hi] at he ⊢
      cases hz : zero P elem with
      | none => simp [hz] at he
      | some z =>
       simp only [hz] at he ⊢
       cases hb : (Nat.ble ln cn && roomB cn && roomB (cn * i.bytes) && Nat.beq (vcells z).length i.size) with
       | false => simp [hb] at he
       | true =>
        simp only [hb, cond_true, Option.some.injEq, Prod.mk.injEq] at he ⊢
        obtain ⟨rfl, rfl⟩:=he
        exact ⟨_, rfl, fun h2 hn => ⟨by rw [hn], rfl⟩⟩
theorem obliv_make {t : Tr V} {o : Oper} (ho : obliv o.op = true) (hm : makes o = true) {h h' : Hp} {v : V} (he : execV P t h o.op = some (v, h')) :
 isCall o = false ∧ ∃ ob, h' = h.new ob ∧ ∀ h2 : Hp, h2.n = h.n → execV P t h2 o.op = some (v, h2.new ob):=by
 by_cases hx : xk o.op = 0
 ·rw [execV_zero hx] at he
  rw [makes_zero hx] at hm
  rw [obliv_zero hx] at ho
  obtain ⟨h1, ob, h2, h3⟩:=obliv_makeC ho hm he
  exact ⟨h1, ob, h2, fun h2 hn => by rw [execV_zero hx]; exact h3 h2 hn⟩
 ·exfalso
  unfold makes at hm
  unfold obliv at ho
  cases e : xk o.op with
  | zero => exact hx e
  | succ n =>
   rw [e] at hm ho
   cases n with
   | zero => cases hm
   | succ n => cases ho
theorem R.congr {w0 w : World} {h h' : Hp} {ρ : Rho} (H : R P w0 w h ρ) (ht : ∀ b, h'.t.get b = h.t.get b) (hn : h'.n = h.n) : R P w0 w h' ρ :=
 ⟨H.below, fun b l hb => by rw [hn]; simpa only [Hp.still, ht] using H.bnd b l hb, fun b l o h1 h2 => H.live b l o h1 (by rw [← ht]; exact h2), fun b b' l l' h1 h2 h3 h4 h5 =>
  H.inj b b' l l' h1 h2 h3 (by obtain ⟨o, a, c⟩:=h4; exact ⟨o, by rw [← ht]; exact a, c⟩) (by obtain ⟨o, a, c⟩:=h5; exact ⟨o, by rw [← ht]; exact a, c⟩), fun b hb => by rw [ht]; exact H.fresh b (by omega), H.glob, H.base, fun b hb => by rw [hn]; exact H.rs b hb, H.pn⟩
theorem stores_n : ∀ (l : List (Nat × Ob)) (h : Hp), (stores l h).n = h.n
 | [], _ => rfl
 | (b, ob) :: l, h => by rw [stores, stores_n l]; rfl
theorem stores_append : ∀ (l m : List (Nat × Ob)) (h : Hp), stores (l ++ m) h = stores m (stores l h)
 | [], _, _ => rfl
 | (b, ob) :: l, m, h => by simp only [List.cons_append, stores]; exact stores_append l m _
theorem stores_congr {b : Nat} : ∀ (l : List (Nat × Ob)) {h h2 : Hp}, h.t.get b = h2.t.get b → (stores l h).t.get b = (stores l h2).t.get b
 | [], _, _, e => e
 | (c, ob) :: l, h, h2, e => by
  simp only [stores]
  refine stores_congr l ?_
  simp only [Hp.put, Tr.get_set]
  split
  ·rfl
  ·exact e
theorem stores_mem {b : Nat} : ∀ (l : List (Nat × Ob)) (h h2 : Hp), (∃ p ∈ l, p.1 = b) → (stores l h).t.get b = (stores l h2).t.get b
 | [], _, _, h => by obtain ⟨p, hp, _⟩:=h; cases hp
 | (c, ob) :: l, h, h2, e => by
  simp only [stores]
  by_cases hc : c = b
  ·subst hc
   refine stores_congr l ?_
   simp only [Hp.put, Tr.get_set_same]
  ·refine stores_mem l _ _ ?_
   obtain ⟨p, hp, he⟩:=e
   rcases List.mem_cons.1 hp with rfl | hp
   ·exact (hc he).elim
   ·exact ⟨p, hp, he⟩
theorem stores_not {b : Nat} : ∀ (l : List (Nat × Ob)) (h : Hp), (∀ p ∈ l, p.1 ≠ b) → (stores l h).t.get b = h.t.get b
 | [], _, _ => rfl
 | (c, ob) :: l, h, e => by
  simp only [stores]
  rw [stores_not l _ (fun p hp => e p (List.mem_cons_of_mem _ hp))]
  simp only [Hp.put]
  exact Tr.get_set_ne _ _ (e _ List.mem_cons_self)
theorem stores_new {l : List (Nat × Ob)} {h : Hp} {ob : Ob} (hl : ∀ p ∈ l, p.1 < h.n) (b : Nat) : (stores l (h.new ob)).t.get b = ((stores l h).new ob).t.get b:=by
 simp only [Hp.new, stores_n]
 by_cases hb : h.n = b
 ·subst hb
  rw [Tr.get_set_same, stores_not l _ (fun p hp => Nat.ne_of_lt (hl p hp))]
  simp only [Tr.get_set_same]
 ·rw [Tr.get_set_ne _ _ hb]
  exact stores_congr l (by simp only [Tr.get_set_ne _ _ hb])
theorem trIs_eq : ∀ {a b : Tr V}, trIs a b = true → a = b
 | .nil, .nil, _ => rfl
 | .nil, .node _ _ _ _ _, h => by cases h
 | .node _ _ _ _ _, .nil, h => by cases h
 | .node v a b c d, .node v' a' b' c' d', h => by
  rw [trIs, Bool.and_eq_true, Bool.and_eq_true, Bool.and_eq_true, Bool.and_eq_true] at h
  obtain ⟨h1, ⟨h2, h3⟩, h4, h5⟩:=h
  rw [trIs_eq h2, trIs_eq h3, trIs_eq h4, trIs_eq h5]
  congr 1
  cases v with
  | none => cases v' <;> first | rfl | cases h1
  | some x =>
   cases v' with
   | none => cases h1
   | some y => rw [vEq_eq (show vEq x y = true from h1)]
theorem isRow_eq {o : Option Ob} {e : Nat} {cs : List V} (h : isRow o e cs = true) : o = some (.cells (Tr.nil.setL 0 cs) cs.length false e):=by
 unfold isRow at h
 split at h
 ·rename_i t n g e'
  simp only [Bool.and_eq_true, Bool.not_eq_true'] at h
  obtain ⟨h1, h2, h3, h4⟩:=h
  rw [Nat.eq_of_beq_eq_true h1, h2, Nat.eq_of_beq_eq_true h3, trIs_eq h4]
 ·cases h
theorem R.room {w0 w : World} {h h' : Hp} {ρ : Rho} (H : R P w0 w h ρ) (hn : h.n ≤ h'.n) (hg : ∀ b, b < h.n → h'.t.get b = h.t.get b) (hf : ∀ b, h'.n ≤ b → h'.t.get b = none) : @R _ ⟨fun b => Z.res b ∨ (h.n ≤ b ∧ b < h'.n), Z.pin⟩ P w0 w h' ρ:=by
 have al : ∀ {b l}, ρ b = some l → h'.alive b → h.alive b:=fun {b l} hb ⟨o, a, c⟩ => ⟨o, by rw [← hg b (H.bnd b l hb).1]; exact a, c⟩
 refine @R.mk _ ⟨fun b => Z.res b ∨ (h.n ≤ b ∧ b < h'.n), Z.pin⟩ P _ _ _ _ H.below ?_ ?_ ?_ hf H.glob H.base ?_ H.pn
 ·intro b l hb
  obtain ⟨h1, h2, h3⟩:=H.bnd b l hb
  refine ⟨by omega, h2.imp id fun hs => ?_, h3⟩
  unfold Hp.still at hs ⊢
  rw [hg b h1]; exact hs
 ·intro b l o hb ho
  exact H.live b l o hb (by rw [← hg b (H.bnd b l hb).1]; exact ho)
 ·intro b b' l l' hb hb' hne h1 h2
  exact H.inj b b' l l' hb hb' hne (al hb h1) (al hb' h2)
 ·rintro b (hb | ⟨h1, h2⟩)
  ·exact ⟨(H.rs b hb).1, Nat.lt_of_lt_of_le (H.rs b hb).2 hn⟩
  ·refine ⟨?_, h2⟩
   cases hr : ρ b with
   | none => rfl
   | some l => have:=(H.bnd b l hr).1; omega
theorem R.float {Z1 Z2 : Res} {w0 w : World} {h : Hp} {ρ : Rho} (H : @R _ Z1 P w0 w h ρ) {b : Nat} (hb : ρ b = none) (hn : b < h.n) {o : Ob} (hg : h.t.get b = some o) (O : Obj) (cap : Nat)
 (ho : ObR P (Mid.upd ρ b ⟨w.heap.size, 0, cap⟩) (w.alloc O) ⟨w.heap.size, 0, cap⟩ o) (hz : ∀ x, Z2.res x → Z1.res x ∧ x ≠ b) (hp : ∀ r O, Z2.pin r O → Z1.pin r O) :
 Ext ρ (Mid.upd ρ b ⟨w.heap.size, 0, cap⟩) ∧ @R _ Z2 P w0 (w.alloc O) h (Mid.upd ρ b ⟨w.heap.size, 0, cap⟩):=by
 letI:=Z1
 have hext : Ext ρ (Mid.upd ρ b ⟨w.heap.size, 0, cap⟩):=upd_ext hb
 refine ⟨hext, @R.mk _ Z2 P _ _ _ _ (H.below.alloc H.below.size O) ?_ ?_ ?_ H.fresh (H.glob.ext hext) H.base ?_ (fun r O' h => H.pnNew (k:=⟨w.heap.size, 0, cap⟩) (fun j hj => heap_alloc_old w O j hj) (Nat.le_refl _) r O' (hp r O' h))⟩
 ·intro b' l hb'
  rcases upd_inv hb' with ⟨rfl, rfl⟩ | ⟨hne, hb'⟩
  ·refine ⟨hn, .inl ⟨H.below.size, rfl⟩, .inr ?_⟩
   simp
  ·have := H.bnd b' l hb'
   refine ⟨this.1, this.2.1, this.2.2.imp id fun h => ?_⟩
   simp; omega
 ·intro b' l o' hb' ho'
  rcases upd_inv hb' with ⟨rfl, rfl⟩ | ⟨hne, hb'⟩
  ·rw [hg] at ho'
   simp only [Option.some.injEq] at ho'
   subst ho'; exact ho
  ·cases o' with
   | dead => trivial
   | _ => exact (H.live b' l _ hb' ho').keep hext (heap_alloc_old w O _ (H.lt hb' ⟨_, ho', by simp⟩))
 ·intro x y l l' hx hy hne ha ha'
  rcases upd_inv hx with ⟨e1, e2⟩ | ⟨h1, hx1⟩
  ·rcases upd_inv hy with ⟨e3, e4⟩ | ⟨h2, hy1⟩
   ·exact (hne (e1.trans e3.symm)).elim
   ·have := H.lt hy1 ha'; rw [e2]; simp only; omega
  ·rcases upd_inv hy with ⟨e3, e4⟩ | ⟨h2, hy1⟩
   ·have := H.lt hx1 ha; rw [e4]; simp only; omega
   ·exact H.inj x y l l' hx1 hy1 hne ha ha'
 ·intro x hx
  obtain ⟨h1, h2⟩:=hz x hx
  refine ⟨?_, (H.rs x h1).2⟩
  unfold Mid.upd
  rw [if_neg h2]; exact (H.rs x h1).1
theorem R.floatRow {Z1 Z2 : Res} {w0 w : World} {h : Hp} {ρ : Rho} (H : @R _ Z1 P w0 w h ρ) {b : Nat} {ty : TypeId} {cs : List V} {xs : Array Value} (hc : RelL ρ cs xs.toList) (hb : ρ b = none) (hn : b < h.n)
 (hg : h.t.get b = some (.cells (Tr.nil.setL 0 cs) cs.length false ty)) (hr : ∀ x, Z2.res x → Z1.res x ∧ x ≠ b) (hp : ∀ r O, Z2.pin r O → Z1.pin r O) :
 Ext ρ (Mid.upd ρ b ⟨w.heap.size, 0, 0⟩) ∧ @R _ Z2 P w0 (w.alloc (.cells xs ty)) h (Mid.upd ρ b ⟨w.heap.size, 0, 0⟩) :=
 R.float (Z2 := Z2) H hb hn hg (.cells xs ty) 0 ⟨xs, heap_alloc_new w _, fun i v hv => (by
  rw [Tr.get_setL] at hv
  split at hv
  ·rename_i hi
   simp only [Nat.sub_zero] at hv
   obtain ⟨x, h1, h2⟩:=hc.get hv
   exact ⟨by omega, x, by simpa using h1, h2.ext (upd_ext hb)⟩
  ·simp [Tr.get_nil] at hv), (by have := hc.1; simp only [Array.length_toList] at this; simp only [Nat.zero_add]; omega), fun h => (by cases h)⟩ hr hp
theorem flo_sim {Z1 Z2 : Res} {w0 w : World} {h : Hp} {ρ : Rho} (H : @R _ Z1 P w0 w h ρ) {t : Tr V} {b : Nat} {p : V} {ty : TypeId} {cs : List V} {a : Act} {oo : Oper} (hf : FloC P t oo.op b p ty cs) (hbv : blkV p = some b)
 (ho : OpR ρ a t oo.op.operands.toList) (hb : ρ b = none) (hn : b < h.n)
 (hg : h.t.get b = some (.cells (Tr.nil.setL 0 cs) cs.length false ty)) (hr : ∀ x, Z2.res x → Z1.res x ∧ x ≠ b) (hp : ∀ r O, Z2.pin r O → Z1.pin r O) :
 ∃ x w' ρ', (execOp a.eval oo).run P w = .ok (.value x) w' ∧ Rel ρ' p x ∧ Ext ρ ρ' ∧ @R _ Z2 P w0 w' h ρ':=by
 rcases hf with ⟨z, hop, hz, rfl, rfl⟩ | ⟨sty, len, parts, h1, hop, hex, hrow⟩
 ·obtain ⟨i, zx, hi, hzx, hr'⟩ := info_of_zero (ρ := ρ) hz
  have hN:=R.floatRow (Z2:=Z2) H hr'.cells hb hn hg hr hp
  refine ⟨.pointer (some ⟨w.heap.size, 0, none⟩), _, _, ?_, .ptr (b:=b) 0 (upd_same _ _ _), hN.1, hN.2⟩
  unfold execOp
  rw [hop]
  simp only [Instr.alloc, Sem.run_bind, run_zero hi hzx, Result.andThen_ok, newVar, newRow, run_newObj, Sem.run_pure]
  rfl
 ·rw [hop] at ho
  unfold exBuildSlice at hex
  cases hps : evalP t parts.toList with
  | none => simp [hps] at hex
  | some ps =>
   simp only [hps] at hex
   cases hu : P.underlying sty with
   | none => simp [hu] at hex
   | some d =>
    cases d <;> simp only [hu, reduceCtorEq] at hex
    rename_i elem
    cases hs : sz P elem with
    | none => simp [hs] at hex
    | some s =>
     simp only [hs] at hex
     cases hz : zero P elem with
     | none => simp [hz] at hex
     | some z =>
      simp only [hz, bldSl] at hex
      cases hbb : (Nat.ble (len * s) 65536 && Nat.beq (vcells z).length s) with
      | false => simp [hbb] at hex
      | true =>
       simp only [hbb, cond_true] at hex
       simp only [Bool.and_eq_true] at hbb
       have hb1:=Nat.le_of_ble_eq_true hbb.1
       have hb2:=Nat.eq_of_beq_eq_true hbb.2
       cases hf : fillV (fun i => some (i * s, s)) (mulz (vcells z) len) ps with
       | none => simp [hf] at hex
       | some cs' =>
        simp only [hf, Option.some.injEq, Prod.mk.injEq] at hex
        obtain ⟨hpe, rfl⟩:=hex
        have hbe : blkN p = b:=by
         unfold blkV at hbv
         split at hbv <;> first | (simp only [Option.some.injEq] at hbv; exact hbv) | cases hbv
        have hfn : (floH p).n = b:=hbe
        rw [hfn] at hpe
        subst hpe
        have hrow:=isRow_eq hrow
        simp only [Hp.newRow, Hp.new] at hrow
        rw [hfn, Tr.get_set_same] at hrow
        simp only [Option.some.injEq, Ob.cells.injEq, true_and] at hrow
        obtain ⟨k1, k2, k3⟩:=hrow
        rw [← k1, ← k2, ← k3] at hg
        obtain ⟨i, zx, hi, hzx, hr'⟩:=info_of_zero (ρ:=ρ) hz
        obtain ⟨i', hi', hsz⟩:=info_of_sz hs
        rw [hi] at hi'
        simp only [Option.some.injEq] at hi'
        subst hi'
        have hzl : zx.cells.size = s:=by rw [← hb2, hr'.cells.1]; simp
        have hpr : PartR ρ ps (parts.map fun (i, x) => (i, a.eval x)).toList:=by
         have:=evalP_sim (ρ:=ρ) (a:=a) (t:=t) (xs:=parts.toList) (vs:=ps) (by simpa [Op.operands] using ho) hps
         simpa using this
        obtain ⟨arr', e1, e2⟩:=fill_sim hpr (mulz_rel hr'.cells len) hf
        have hN:=R.floatRow (Z2:=Z2) H e2 hb hn hg hr hp
        refine ⟨.slice (some ⟨w.heap.size, 0, none⟩) len len, _, _, ?_, .sliceK (b:=b) 0 len len (upd_same _ _ _), hN.1, hN.2⟩
        unfold execOp
        rw [hop]
        by_cases hpos : len * s = 0
        ·have e0 : (Array.range (len * zx.cells.size)).map (zx.cells[· % zx.cells.size]!) = #[] := range0 _ (by rw [hzl, hpos])
         rw [e0] at e1
         simp only [Instr.buildSlice, Sem.run_bind, run_underlying hu, Result.andThen_ok, run_sz hs]
         rw [if_neg (by omega), if_pos hpos]
         simp only [pure_bind]
         have e0' : ∀ z : Array Value, (Array.range (len * s)).map (z[· % z.size]!) = #[]:=fun z => range0 _ hpos
         rw [e0', e1]
         simp only [newRow, Sem.run_bind, run_newObj, Result.andThen_ok, Sem.run_pure]
         rfl
        ·rw [hzl, ← hsz] at e1
         have:=run_buildSlice (P:=P) w sty elem len (parts.map fun (i, x) => (i, a.eval x)) arr' i zx hu hi hzx (by rw [hsz]; omega) (by rw [hsz]; exact hpos) (by rw [hsz] at e1 ⊢; rw [← hzl] at e1 ⊢; exact e1)
         simp only [Sem.run_bind, this, Result.andThen_ok, Sem.run_pure]
end
end Go.Mid
end
