/- The head of a region that draws its order: what the small machine's walk in the text's order found out. -/
import Derived.Test.YthbcbfgpfpogkaaGreatFMidL
set_option linter.all false
set_option warn.classDefReducibility false
namespace Go.Mid
open Go.RowKit
variable {P : Program} [Orc] [OrcOk P]

/-! ancestors -/
theorem maskOf_spec (ms : Tr Nat) (j : Nat) : ∀ (es : List Edge), (maskOf ms es).testBit j = true → ∃ e ∈ es, Region.binds .any e = true ∧ (e.on = j ∨ ∃ m, ms.get e.on = some m ∧ m.testBit j = true)
  | [], h => by simp [maskOf] at h
  | e :: es, h => by
    simp only [maskOf] at h
    cases hb : Region.binds .any e with
    | false =>
      simp only [hb, cond_false] at h
      obtain ⟨x, h1, h2⟩ := maskOf_spec ms j es h
      exact ⟨x, List.mem_cons_of_mem _ h1, h2⟩
    | true =>
      simp only [hb, cond_true] at h
      have hor : ∀ a b : Nat, (Nat.lor a b).testBit j = (a.testBit j || b.testBit j) := fun a b => Nat.testBit_or a b j
      rw [hor, hor, Bool.or_eq_true, Bool.or_eq_true] at h
      rcases h with (h | h) | h
      · have : e.on = j := by simpa [Nat.testBit_two_pow] using h
        exact ⟨e, List.mem_cons_self, hb, .inl this⟩
      · cases hm : ms.get e.on with
        | none => simp [hm] at h
        | some m => simp only [hm] at h; exact ⟨e, List.mem_cons_self, hb, .inr ⟨m, hm, h⟩⟩
      · obtain ⟨x, h1, h2⟩ := maskOf_spec ms j es h
        exact ⟨x, List.mem_cons_of_mem _ h1, h2⟩
theorem masksF_spec : ∀ (l : List Oper) (i : Nat) (ms : Tr Nat), (∀ x, i ≤ x → ms.get x = none) →
    (∀ x, x < i → (masksF l i ms).get x = ms.get x) ∧ (∀ x, i + l.length ≤ x → (masksF l i ms).get x = none) ∧
    ∀ p o, l[p]? = some o → ∃ ms', (masksF l i ms).get (i + p) = some (maskOf ms' o.after.toList) ∧ ∀ x m, ms'.get x = some m → x < i + p ∧ (masksF l i ms).get x = some m
  | [], i, ms, h => ⟨fun x _ => rfl, fun x hx => h x (by simpa using hx), fun p o hp => by simp at hp⟩
  | o :: l, i, ms, h => by
    have hnext : ∀ x, i + 1 ≤ x → (ms.set i (maskOf ms o.after.toList)).get x = none := fun x hx => by rw [Tr.get_set_ne _ _ (by omega)]; exact h x (by omega)
    obtain ⟨h1, h2, h3⟩ := masksF_spec l (i + 1) _ hnext
    refine ⟨fun x hx => ?_, fun x hx => h2 x (by simp at hx; omega), fun p q hp => ?_⟩
    · simp only [masksF]; rw [h1 x (by omega), Tr.get_set_ne _ _ (by omega)]
    · cases p with
      | zero =>
        simp only [List.getElem?_cons_zero, Option.some.injEq] at hp; subst hp
        refine ⟨ms, by simp only [masksF, Nat.add_zero]; rw [h1 i (by omega), Tr.get_set_same], fun x m hm => ?_⟩
        have hx : x < i := by
          rcases Nat.lt_or_ge x i with hlt | hge
          · exact hlt
          · rw [h x hge] at hm; cases hm
        exact ⟨hx, by simp only [masksF]; rw [h1 x (by omega), Tr.get_set_ne _ _ (by omega)]; exact hm⟩
      | succ p =>
        simp only [List.getElem?_cons_succ] at hp
        obtain ⟨ms', g1, g2⟩ := h3 p q hp
        have e : i + (p + 1) = i + 1 + p := by omega
        rw [e]
        exact ⟨ms', g1, g2⟩
theorem anc_spec {all : Array Oper} {i j : Nat} (h : anc (masks all) i j = true) : ∃ o, all[i]? = some o ∧ ∃ e ∈ o.after.toList, Region.binds .any e = true ∧ (e.on = j ∨ (e.on < i ∧ anc (masks all) e.on j = true)) := by
  obtain ⟨_, h2, h3⟩ := masksF_spec all.toList 0 .nil (fun _ _ => Tr.get_nil _)
  unfold anc at h
  cases hm : (masks all).get i with
  | none => simp [hm] at h
  | some m =>
    simp only [hm] at h
    cases ho : all[i]? with
    | none =>
      have hle : all.toList.length ≤ i := by simpa using ho
      unfold masks at hm
      rw [h2 i (by omega)] at hm
      cases hm
    | some o =>
      obtain ⟨ms', g1, g2⟩ := h3 i o (by rw [Array.getElem?_toList]; exact ho)
      rw [Nat.zero_add] at g1
      unfold masks at hm
      rw [g1] at hm
      simp only [Option.some.injEq] at hm
      subst hm
      obtain ⟨e, q1, q2, q3⟩ := maskOf_spec ms' j _ h
      refine ⟨o, rfl, e, q1, q2, ?_⟩
      rcases q3 with q3 | ⟨m, q3, q4⟩
      · exact .inl q3
      · obtain ⟨q5, q6⟩ := g2 _ _ q3
        refine .inr ⟨by omega, ?_⟩
        unfold anc masks
        rw [q6]; exact q4

def Closed (all : Array Oper) (listed : Nat → Prop) : Prop := ∀ (i : Nat) (o : Oper), all[i]? = some o → listed i → ∀ e ∈ o.after.toList, Region.binds .any e = true → listed e.on
theorem anc_listed {all : Array Oper} {listed : Nat → Prop} (hc : Closed all listed) {j : Nat} : ∀ {i : Nat}, listed i → anc (masks all) i j = true → listed j := by
  intro i
  induction i using Nat.strongRecOn with
  | _ i ih =>
    intro hl ha
    obtain ⟨o, h1, e, h2, h3, h4⟩ := anc_spec ha
    have := hc i o h1 hl e h2 h3
    rcases h4 with h4 | ⟨h4, h5⟩
    · rw [← h4]; exact this
    · exact ih e.on h4 this h5
theorem anc_ready {all : Array Oper} {listed : Nat → Prop} (hc : Closed all listed) {i j : Nat} {o : Oper} (ho : all[i]? = some o) (hr : ∀ e ∈ o.after.toList, Region.binds .any e = true → listed e.on)
    (ha : anc (masks all) i j = true) : listed j := by
  obtain ⟨o', h1, e, h2, h3, h4⟩ := anc_spec ha
  rw [ho] at h1; simp only [Option.some.injEq] at h1; subst h1
  have := hr e h2 h3
  rcases h4 with h4 | ⟨_, h5⟩
  · rw [← h4]; exact this
  · exact anc_listed hc this h5

theorem tailFrom_spec (ms : Tr Nat) : ∀ (l : List Oper) (i last : Nat), last ≤ i → last ≤ tailFrom ms l i last ∧ tailFrom ms l i last ≤ i + l.length ∧ ∀ x, i ≤ x → x < i + l.length → tailFrom ms l i last ≤ x → behind ms x = true
  | [], i, last, h => ⟨Nat.le_refl _, by simpa [tailFrom] using h, fun x h1 h2 => by simp at h2; omega⟩
  | o :: l, i, last, h => by
    simp only [tailFrom]
    cases hb : behind ms i with
    | true =>
      simp only [cond_true]
      obtain ⟨h1, h2, h3⟩ := tailFrom_spec ms l (i + 1) last (by omega)
      refine ⟨h1, by simp only [List.length_cons]; omega, fun x h4 h5 h6 => ?_⟩
      by_cases e : i = x
      · subst e; exact hb
      · exact h3 x (by omega) (by simp at h5; omega) h6
    | false =>
      simp only [cond_false]
      obtain ⟨h1, h2, h3⟩ := tailFrom_spec ms l (i + 1) (i + 1) (Nat.le_refl _)
      refine ⟨by omega, by simp only [List.length_cons]; omega, fun x h4 h5 h6 => ?_⟩
      exact h3 x (by omega) (by simp at h5; omega) h6
theorem behind_anc {ms : Tr Nat} {i j : Nat} (h : behind ms i = true) (hj : j < i) : anc ms i j = true := by
  unfold behind at h
  rw [List.all_eq_true] at h
  exact h j (List.mem_range.2 hj)

/-! what the walk found -/
structure En where
  o : Oper
  t : Tr V
  b : Bool
  mak : Bool
  sto : Bool
  m : Nat
  nd : Nat
  si : Nat
  v : V
  h : Hp
  h' : Hp
  wr : Bool
  fl : Bool

/-- an operation makes this row, and answers so. -/
def FloC (P : Program) (t : Tr V) (o : Op) (b : Nat) (p : V) (ty : TypeId) (cs : List V) : Prop :=
  (∃ z, o = .alloc ty ∧ zero P ty = some z ∧ cs = vcells z ∧ p = .ptr b 0) ∨
  (∃ sty len parts h1, o = .buildSlice sty len parts ∧ exBuildSlice P t (floH p) sty len parts.toList = some (p, h1) ∧ isRow (h1.t.get b) ty cs = true)
/-- a row that was made ahead of its time. -/
def FloE (P : Program) (all : Array Oper) (h0 : Hp) (n : List (Nat × V)) (j : Nat) (l : List V) : Prop :=
  ∃ p b ty cs o, V.agg l = fent p ty cs ∧ blkV p = some b ∧ all[j]? = some o ∧ obliv o.op = true ∧ (∀ ty', o.op = .alloc ty' → ty' = ty ∧ p = .ptr b 0 ∧ ∃ z, zero P ty = some z ∧ cs = vcells z) ∧
    b < h0.n ∧ h0.t.get b = some (.cells (Tr.nil.setL 0 cs) cs.length false ty) ∧ ∀ j' l' p' e c, (j', V.agg l') ∈ n → V.agg l' = fent p' e c → blkV p' = some b → j' = j
theorem FloE.mono {P : Program} {all : Array Oper} {h0 : Hp} {n n' : List (Nat × V)} {j : Nat} {l : List V} (h : FloE P all h0 n j l) (hn : ∀ j l, (j, V.agg l) ∈ n' → (j, V.agg l) ∈ n) : FloE P all h0 n' j l := by
  obtain ⟨p, b, ty, cs, o, q1, q2, q3, q4, q5, q6, q7, q8⟩ := h
  exact ⟨p, b, ty, cs, o, q1, q2, q3, q4, q5, q6, q7, fun j' l' p' e c h1 h2 h3 => q8 j' l' p' e c (hn _ _ h1) h2 h3⟩
theorem fent_inj {p p' : V} {e e' : Nat} {cs cs' : List V} (h : fent p e cs = fent p' e' cs') : p = p' ∧ e = e' ∧ cs = cs' := by
  unfold fent at h
  simp only [V.agg.injEq, List.cons.injEq, V.int.injEq, and_true, true_and] at h
  exact ⟨h.1, Int.ofNat.inj h.2.1, h.2.2⟩

structure Good (P : Program) (r : Rn) (all : Array Oper) (t0 : Tr V) (h0 : Hp) (es : List En) (s : Hd) : Prop where
  op : ∀ (j : Nat) e, es[j]? = some e → all[j]? = some e.o
  tt : ∀ (j : Nat) e, es[j]? = some e → ∀ u v, e.t.get u = some v → (∃ (i : Nat) (e' : En), i < j ∧ es[i]? = some e' ∧ e'.o.dst = some u ∧ e'.v = v) ∨ ((∀ (i : Nat) e', i < j → es[i]? = some e' → e'.o.dst ≠ some u) ∧ t0.get u = some v)
  te : ∀ u v, s.t.get u = some v → (∃ (i : Nat) (e' : En), i < es.length ∧ es[i]? = some e' ∧ e'.o.dst = some u ∧ e'.v = v) ∨ ((∀ (i : Nat) e', i < es.length → es[i]? = some e' → e'.o.dst ≠ some u) ∧ t0.get u = some v)
  need : ∀ j, s.need.get j = (es[j]?).map (·.nd)
  mm : ∀ (j : Nat) e, es[j]? = some e → ∀ X, (∀ ed ∈ e.o.after.toList, Region.binds .any ed = true → ∀ e', ed.on < j → es[ed.on]? = some e' → e'.nd ≤ X) → e.m ≤ X
  want : ∀ (j : Nat) e, es[j]? = some e → wantO all e.t e.o = some e.b
  skip : ∀ (j : Nat) e, es[j]? = some e → e.b = false → e.v = undefV ∧ e.nd = e.m ∧ e.mak = false ∧ e.sto = false
  read : ∀ (j : Nat) e, es[j]? = some e → e.b = true → e.mak = false → e.sto = false → e.fl = false → makes e.o = false ∧ s.hs.get e.m = some e.h ∧ (∃ h', execV P e.t e.h e.o.op = some (e.v, h')) ∧ e.nd = e.m
  made : ∀ (j : Nat) e, es[j]? = some e → e.mak = true → e.b = true ∧ makes e.o = true ∧ s.hs.get e.m = some e.h ∧ opV P r e.t ⟨e.h.t, e.h.n, e.h.n⟩ e.o = some (e.v, e.h') ∧ (e.wr = true → obliv e.o.op = false) ∧
    (∃ lw, s.hs.get (e.m + 1) = some ⟨e.h'.t, e.h'.n, lw⟩) ∧ e.nd = e.m + 1 ∧ e.m < s.c
  stor : ∀ (j : Nat) e, es[j]? = some e → e.sto = true → e.b = true ∧ e.mak = false ∧ (∃ ty a x b off v ob, e.o.op = .store ty a x ∧ evalO e.t a = some (.ptr b off) ∧ evalO e.t x = some v ∧ s.hs.get e.m = some e.h ∧
    storeO P (stores (s.st.take e.si) e.h) ty b off v = some ob ∧ s.st[e.si]? = some (b, ob)) ∧ e.v = unitV ∧ e.nd = e.m
  mdist : ∀ (i j : Nat) e e', es[i]? = some e → es[j]? = some e' → e.mak = true → e'.mak = true → e.m = e'.m → i = j
  mall : ∀ m, m < s.c → ∃ (j : Nat) (e : En), es[j]? = some e ∧ e.mak = true ∧ e.m = m
  sall : ∀ q, q < s.st.length → ∃ (j : Nat) (e : En), es[j]? = some e ∧ e.sto = true ∧ e.si = q
  sord : ∀ (i j : Nat) e e', i < j → es[i]? = some e → es[j]? = some e' → e.sto = true → e'.sto = true → e.si < e'.si
  slt : ∀ (j : Nat) e, es[j]? = some e → e.sto = true → e.si < s.st.length
  nobs : ∀ (j : Nat) e, es[j]? = some e → e.b = true → obliv e.o.op = false → (j, ldV e.t e.o.op e.v) ∈ s.nob
  sanc : ∀ (i j : Nat) e e', i < j → es[i]? = some e → es[j]? = some e' → e.b = true → obliv e.o.op = false → e'.sto = true → anc (masks all) j i = true ∨ ∃ b ob, s.st[e'.si]? = some (b, ob) ∧ okV b (ldV e.t e.o.op e.v) = true
  nosto : ∀ (i j : Nat) e e', i < j → es[i]? = some e → es[j]? = some e' → e.sto = true → e'.b = true → e'.sto = false → obliv e'.o.op = true
  hs0 : s.hs.get 0 = some h0
  hsc : ∀ m, m ≤ s.c → ∃ H, s.hs.get m = some H
  hsn : ∀ m, s.c < m → s.hs.get m = none
  wmak : ∀ (j : Nat) e, es[j]? = some e → e.wr = true → e.mak = true
  wanc : ∀ (i j : Nat) e e', i < j → es[i]? = some e → es[j]? = some e' → e.b = true → obliv e.o.op = false → e'.wr = true → anc (masks all) j i = true ∨ sameLd e'.h e'.h' (ldV e.t e.o.op e.v) = true
  wbeh : ∀ (i j : Nat) e e', i < j → es[i]? = some e → es[j]? = some e' → e.wr = true → e'.b = true → obliv e'.o.op = false → anc (masks all) j i = true ∨ sameLd e.h e.h' (ldV e'.t e'.o.op e'.v) = true
  wnob : ∀ (j : Nat) e, es[j]? = some e → e.wr = true → (j, V.bool false) ∈ s.nob
  flo : ∀ (j : Nat) e, es[j]? = some e → e.fl = true → e.b = true ∧ e.mak = false ∧ e.sto = false ∧ e.nd = e.m ∧ ∃ ty cs b, FloC P e.t e.o.op b e.v ty cs ∧ blkV e.v = some b ∧ (j, fent e.v ty cs) ∈ s.nob
  fst : ∀ (j : Nat) l, (j, V.agg l) ∈ s.nob → FloE P all h0 s.nob j l
  fsto : ∀ (j : Nat) e, es[j]? = some e → e.sto = true → ∀ i l, (i, V.agg l) ∈ s.nob → anc (masks all) j i = true ∨ ∃ b ob, s.st[e.si]? = some (b, ob) ∧ okV b (.agg l) = true
  fwr : ∀ (j : Nat) e, es[j]? = some e → e.wr = true → ∀ i l, (i, V.agg l) ∈ s.nob → anc (masks all) j i = true ∨ sameLd e.h e.h' (.agg l) = true
  mlow : ∀ (j : Nat) e, es[j]? = some e → ∀ ed ∈ e.o.after.toList, Region.binds .any ed = true → ∀ e', ed.on < j → es[ed.on]? = some e' → e'.nd ≤ e.m
  chain : ∀ m H H', s.hs.get m = some H → s.hs.get (m + 1) = some H' → H.n ≤ H'.n ∧ ((∀ (j : Nat) e, es[j]? = some e → e.wr = true → e.m ≠ m) → ∀ b, b < H.n → H'.t.get b = H.t.get b)

theorem maxNeed_le {need : Tr Nat} {X : Nat} : ∀ (es : List Edge), (∀ ed ∈ es, Region.binds .any ed = true → ∀ n, need.get ed.on = some n → n ≤ X) → maxNeed need es ≤ X
  | [], _ => Nat.zero_le _
  | e :: es, h => by
    have ih := maxNeed_le es (fun ed hd => h ed (List.mem_cons_of_mem _ hd))
    simp only [maxNeed]
    cases hb : Region.binds .any e with
    | false => simpa using ih
    | true =>
      simp only [cond_true]
      cases hn : need.get e.on with
      | none => simpa using ih
      | some n => exact Nat.max_le.2 ⟨h e List.mem_cons_self hb n hn, ih⟩

theorem maxNeed_ge {need : Tr Nat} : ∀ (es : List Edge) {ed : Edge} {n : Nat}, ed ∈ es → Region.binds .any ed = true → need.get ed.on = some n → n ≤ maxNeed need es
  | e :: es, ed, n, hm, hb, hn => by
    simp only [maxNeed]
    rcases List.mem_cons.1 hm with rfl | hm
    · rw [hb]
      simp only [cond_true, hn]
      exact Nat.le_max_left _ _
    · have ih := maxNeed_ge es hm hb hn
      cases hbe : Region.binds .any e with
      | false => exact ih
      | true =>
        simp only [cond_true]
        cases need.get e.on with
        | none => exact ih
        | some k => exact Nat.le_trans ih (Nat.le_max_right _ _)
theorem get_snoc {α : Type} {l : List α} {x y : α} {i : Nat} (h : (l ++ [x])[i]? = some y) : (i < l.length ∧ l[i]? = some y) ∨ (i = l.length ∧ y = x) := by
  rcases Nat.lt_trichotomy i l.length with hl | hl | hl
  · rw [List.getElem?_append_left hl] at h; exact .inl ⟨hl, h⟩
  · subst hl; rw [List.getElem?_append_right (Nat.le_refl _)] at h; simp at h; exact .inr ⟨rfl, h.symm⟩
  · rw [List.getElem?_eq_none (by simp; omega)] at h; cases h
theorem get_lt {α : Type} {l : List α} {y : α} {i : Nat} (h : l[i]? = some y) : i < l.length := by
  rcases Nat.lt_or_ge i l.length with h1 | h1
  · exact h1
  · rw [List.getElem?_eq_none h1] at h; cases h

/-- one more entry: what does not hang on its kind. -/
structure Next (P : Program) (r : Rn) (all : Array Oper) (es : List En) (s : Hd) (e : En) (s' : Hd) : Prop where
  op : all[es.length]? = some e.o
  t : e.t = s.t
  t' : s'.t = putO s.t e.o.dst e.v
  m : e.m = maxNeed s.need e.o.after.toList
  need : s'.need = s.need.set es.length e.nd
  want : wantO all s.t e.o = some e.b

theorem Next.tt {r : Rn} {all : Array Oper} {t0 : Tr V} {h0 : Hp} {es : List En} {s s' : Hd} {e : En} (G : Good P r all t0 h0 es s) (N : Next P r all es s e s') :
    ∀ (j : Nat) x, (es ++ [e])[j]? = some x → ∀ u v, x.t.get u = some v →
      (∃ (i : Nat) (e' : En), i < j ∧ (es ++ [e])[i]? = some e' ∧ e'.o.dst = some u ∧ e'.v = v) ∨ ((∀ (i : Nat) e', i < j → (es ++ [e])[i]? = some e' → e'.o.dst ≠ some u) ∧ t0.get u = some v) := by
  intro j x hx u v hv
  have main : j ≤ es.length → ((∃ (i : Nat) (e' : En), i < j ∧ es[i]? = some e' ∧ e'.o.dst = some u ∧ e'.v = v) ∨ ((∀ (i : Nat) e', i < j → es[i]? = some e' → e'.o.dst ≠ some u) ∧ t0.get u = some v)) →
      ((∃ (i : Nat) (e' : En), i < j ∧ (es ++ [e])[i]? = some e' ∧ e'.o.dst = some u ∧ e'.v = v) ∨ ((∀ (i : Nat) e', i < j → (es ++ [e])[i]? = some e' → e'.o.dst ≠ some u) ∧ t0.get u = some v)) := by
    intro hj h
    rcases h with ⟨i, e', h1, h2, h3, h4⟩ | ⟨h1, h2⟩
    · exact .inl ⟨i, e', h1, by rw [List.getElem?_append_left (by omega)]; exact h2, h3, h4⟩
    · exact .inr ⟨fun i e' hi he => h1 i e' hi (by rw [List.getElem?_append_left (by omega)] at he; exact he), h2⟩
  rcases get_snoc hx with ⟨hj, hx'⟩ | ⟨rfl, rfl⟩
  · exact main (by omega) (G.tt j x hx' u v hv)
  · rw [N.t] at hv
    exact main (Nat.le_refl _) (G.te u v hv)
theorem Next.te {r : Rn} {all : Array Oper} {t0 : Tr V} {h0 : Hp} {es : List En} {s s' : Hd} {e : En} (G : Good P r all t0 h0 es s) (N : Next P r all es s e s') :
    ∀ u v, s'.t.get u = some v → (∃ (i : Nat) (e' : En), i < (es ++ [e]).length ∧ (es ++ [e])[i]? = some e' ∧ e'.o.dst = some u ∧ e'.v = v) ∨
      ((∀ (i : Nat) e', i < (es ++ [e]).length → (es ++ [e])[i]? = some e' → e'.o.dst ≠ some u) ∧ t0.get u = some v) := by
  intro u v hv
  rw [N.t'] at hv
  by_cases hd : e.o.dst = some u
  · rw [hd] at hv
    simp only [putO, Tr.get_set_same, Option.some.injEq] at hv
    exact .inl ⟨es.length, e, by simp, by simp, hd, hv⟩
  · have hv' : s.t.get u = some v := by
      cases hdd : e.o.dst with
      | none => rw [hdd] at hv; exact hv
      | some d =>
        rw [hdd] at hv hd
        simp only [putO] at hv
        rw [Tr.get_set_ne _ _ (fun e => hd (by rw [e]))] at hv
        exact hv
    rcases G.te u v hv' with ⟨i, e', h1, h2, h3, h4⟩ | ⟨h1, h2⟩
    · exact .inl ⟨i, e', by simp; omega, by rw [List.getElem?_append_left h1]; exact h2, h3, h4⟩
    · refine .inr ⟨fun i e' hi he => ?_, h2⟩
      rcases get_snoc he with ⟨hj, he'⟩ | ⟨rfl, rfl⟩
      · exact h1 i e' hj he'
      · exact hd
theorem Next.needs {r : Rn} {all : Array Oper} {t0 : Tr V} {h0 : Hp} {es : List En} {s s' : Hd} {e : En} (G : Good P r all t0 h0 es s) (N : Next P r all es s e s') : ∀ j, s'.need.get j = ((es ++ [e])[j]?).map (·.nd) := by
  intro j
  rw [N.need, Tr.get_set]
  split
  · rename_i h; subst h; simp
  · rename_i h
    rw [G.need j]
    rcases Nat.lt_or_ge j es.length with hj | hj
    · rw [List.getElem?_append_left hj]
    · rw [List.getElem?_eq_none hj, List.getElem?_eq_none (by simp; omega)]
theorem Next.mm {r : Rn} {all : Array Oper} {t0 : Tr V} {h0 : Hp} {es : List En} {s s' : Hd} {e : En} (G : Good P r all t0 h0 es s) (N : Next P r all es s e s') :
    ∀ (j : Nat) x, (es ++ [e])[j]? = some x → ∀ X, (∀ ed ∈ x.o.after.toList, Region.binds .any ed = true → ∀ e', ed.on < j → (es ++ [e])[ed.on]? = some e' → e'.nd ≤ X) → x.m ≤ X := by
  intro j x hx X hX
  rcases get_snoc hx with ⟨hj, hx'⟩ | ⟨rfl, rfl⟩
  · exact G.mm j x hx' X fun ed h1 h2 e' h3 h4 => hX ed h1 h2 e' h3 (by rw [List.getElem?_append_left (by omega)]; exact h4)
  · rw [N.m]
    refine maxNeed_le _ fun ed h1 h2 n hn => ?_
    rw [G.need] at hn
    cases he' : es[ed.on]? with
    | none => simp [he'] at hn
    | some e' =>
      simp only [he', Option.map_some, Option.some.injEq] at hn; subst hn
      have := get_lt he'
      exact hX ed h1 h2 e' this (by rw [List.getElem?_append_left this]; exact he')
theorem Next.mlow {r : Rn} {all : Array Oper} {t0 : Tr V} {h0 : Hp} {es : List En} {s s' : Hd} {e : En} (G : Good P r all t0 h0 es s) (N : Next P r all es s e s') :
    ∀ (j : Nat) x, (es ++ [e])[j]? = some x → ∀ ed ∈ x.o.after.toList, Region.binds .any ed = true → ∀ e', ed.on < j → (es ++ [e])[ed.on]? = some e' → e'.nd ≤ x.m := by
  intro j x hx ed h1 h2 e' h3 h4
  rcases get_snoc hx with ⟨hj, hx'⟩ | ⟨rfl, rfl⟩
  · exact G.mlow j x hx' ed h1 h2 e' h3 (by rw [List.getElem?_append_left (by omega)] at h4; exact h4)
  · rw [N.m]
    rw [List.getElem?_append_left h3] at h4
    exact maxNeed_ge _ h1 h2 (by rw [G.need, h4]; rfl)
end Go.Mid
