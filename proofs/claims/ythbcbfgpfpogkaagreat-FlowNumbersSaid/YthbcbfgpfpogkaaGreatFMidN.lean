/- The head's walk, entry by entry. -/
import Derived.Test.YthbcbfgpfpogkaaGreatFMidM
set_option linter.all false
set_option warn.classDefReducibility false
namespace Go.Mid
open Go.RowKit
variable {P : Program} [Orc] [OrcOk P]

theorem Good.snoc {r : Rn} {all : Array Oper} {t0 : Tr V} {h0 : Hp} {es : List En} {s s' : Hd} {e : En} (G : Good P r all t0 h0 es s) (N : Next P r all es s e s')
    (hhs : ∀ m H, s.hs.get m = some H → s'.hs.get m = some H) (hc : s.c ≤ s'.c) (hst : ∃ l, s'.st = s.st ++ l)
    (hskip : e.b = false → e.v = undefV ∧ e.nd = e.m ∧ e.mak = false ∧ e.sto = false)
    (hread : e.b = true → e.mak = false → e.sto = false → e.fl = false → makes e.o = false ∧ s'.hs.get e.m = some e.h ∧ (∃ h', execV P e.t e.h e.o.op = some (e.v, h')) ∧ e.nd = e.m)
    (hmade : e.mak = true → e.b = true ∧ makes e.o = true ∧ s'.hs.get e.m = some e.h ∧ opV P r e.t ⟨e.h.t, e.h.n, e.h.n⟩ e.o = some (e.v, e.h') ∧ (e.wr = true → obliv e.o.op = false) ∧
      (∃ lw, s'.hs.get (e.m + 1) = some ⟨e.h'.t, e.h'.n, lw⟩) ∧ e.nd = e.m + 1 ∧ e.m < s'.c ∧ s.c ≤ e.m)
    (hstor : e.sto = true → e.b = true ∧ e.mak = false ∧ (∃ ty a x b off v ob, e.o.op = .store ty a x ∧ evalO e.t a = some (.ptr b off) ∧ evalO e.t x = some v ∧ s'.hs.get e.m = some e.h ∧
      storeO P (stores (s'.st.take e.si) e.h) ty b off v = some ob ∧ s'.st[e.si]? = some (b, ob)) ∧ e.v = unitV ∧ e.nd = e.m)
    (hma : ∀ m, m < s'.c → m < s.c ∨ (e.mak = true ∧ e.m = m)) (hsa : ∀ q, q < s'.st.length → q < s.st.length ∨ (e.sto = true ∧ e.si = q)) (hsi : e.sto = true → e.si = s.st.length ∧ e.si < s'.st.length)
    (hnob : (∀ x, x ∈ s.nob → x ∈ s'.nob) ∧ (e.b = true → obliv e.o.op = false → (es.length, ldV e.t e.o.op e.v) ∈ s'.nob)) (hsanc : e.sto = true → ∃ b ob, s'.st[e.si]? = some (b, ob) ∧ ∀ x, x ∈ s.nob → anc (masks all) es.length x.1 = true ∨ okV b x.2 = true)
    (hnosto : e.b = true → e.sto = false → obliv e.o.op = false → s.st = []) (hsc : ∀ m, m ≤ s'.c → ∃ H, s'.hs.get m = some H) (hsn : ∀ m, s'.c < m → s'.hs.get m = none)
    (hwm : e.wr = true → e.mak = true ∧ (∀ x, x ∈ s.nob → markV x.2 = false → anc (masks all) es.length x.1 = true ∨ sameLd e.h e.h' x.2 = true) ∧ (es.length, V.bool false) ∈ s'.nob) (hwo : e.b = true → obliv e.o.op = false → ∀ i, (i, V.bool false) ∈ s.nob → anc (masks all) es.length i = true ∨ sameW s i (ldV e.t e.o.op e.v) = true)
    (hch : ∀ m H H', s'.hs.get m = some H → s'.hs.get (m + 1) = some H' → H.n ≤ H'.n ∧ ((∀ (j : Nat) e', (es ++ [e])[j]? = some e' → e'.wr = true → e'.m ≠ m) → ∀ b, b < H.n → H'.t.get b = H.t.get b))
    (hflo : e.fl = true → e.b = true ∧ e.mak = false ∧ e.sto = false ∧ e.nd = e.m ∧ ∃ ty cs b, FloC P e.t e.o.op b e.v ty cs ∧ blkV e.v = some b ∧ (es.length, fent e.v ty cs) ∈ s.nob)
    (hfn : ∀ j l, (j, V.agg l) ∈ s'.nob → (j, V.agg l) ∈ s.nob) : Good P r all t0 h0 (es ++ [e]) s' := by
  obtain ⟨l, hst⟩ := hst
  refine ⟨?_, N.tt G, N.te G, N.needs G, N.mm G, ?_, ?_, ?_, ?_, ?_, ?_, ?_, ?_, ?_, ?_, ?_, ?_, ?_, hhs _ _ G.hs0, hsc, hsn, ?_, ?_, ?_, ?_, ?_, ?_, ?_, ?_, N.mlow G, hch⟩
  · intro j x hx
    rcases get_snoc hx with ⟨_, h⟩ | ⟨rfl, rfl⟩
    · exact G.op j x h
    · exact N.op
  · intro j x hx
    rcases get_snoc hx with ⟨_, h⟩ | ⟨rfl, rfl⟩
    · exact G.want j x h
    · rw [N.t]; exact N.want
  · intro j x hx
    rcases get_snoc hx with ⟨_, h⟩ | ⟨rfl, rfl⟩
    · exact G.skip j x h
    · exact hskip
  · intro j x hx
    rcases get_snoc hx with ⟨_, h⟩ | ⟨rfl, rfl⟩
    · exact fun a b c d => let ⟨p, q, r⟩ := G.read j x h a b c d; ⟨p, hhs _ _ q, r⟩
    · exact hread
  · intro j x hx
    rcases get_snoc hx with ⟨_, h⟩ | ⟨rfl, rfl⟩
    · exact fun a => let ⟨p1, p2, p3, p4, p5, ⟨lw, p6⟩, p7, p8⟩ := G.made j x h a; ⟨p1, p2, hhs _ _ p3, p4, p5, ⟨lw, hhs _ _ p6⟩, p7, Nat.lt_of_lt_of_le p8 hc⟩
    · exact fun a => let ⟨p1, p2, p3, p4, p5, p6, p7, p8, _⟩ := hmade a; ⟨p1, p2, p3, p4, p5, p6, p7, p8⟩
  · intro j x hx
    rcases get_snoc hx with ⟨_, h⟩ | ⟨rfl, rfl⟩
    · intro a
      obtain ⟨p1, p2, ⟨ty, q1, q2, b, off, v, ob, g1, g2, g3, g4, g5, g6⟩, p3, p4⟩ := G.stor j x h a
      have hlt := G.slt j x h a
      refine ⟨p1, p2, ⟨ty, q1, q2, b, off, v, ob, g1, g2, g3, hhs _ _ g4, ?_, ?_⟩, p3, p4⟩
      · rw [hst, List.take_append_of_le_length (by omega)]; exact g5
      · rw [hst, List.getElem?_append_left hlt]; exact g6
    · exact hstor
  · intro i j x y hx hy m1 m2 he
    rcases get_snoc hx with ⟨hi, hx'⟩ | ⟨rfl, rfl⟩
    · rcases get_snoc hy with ⟨hj, hy'⟩ | ⟨rfl, rfl⟩
      · exact G.mdist i j x y hx' hy' m1 m2 he
      · have := (G.made i x hx' m1).2.2.2.2.2.2.2
        have := (hmade m2).2.2.2.2.2.2.2.2
        omega
    · rcases get_snoc hy with ⟨hj, hy'⟩ | ⟨rfl, rfl⟩
      · have := (G.made j y hy' m2).2.2.2.2.2.2.2
        have := (hmade m1).2.2.2.2.2.2.2.2
        omega
      · rfl
  · intro m hm
    rcases hma m hm with h | ⟨h1, h2⟩
    · obtain ⟨j, x, g1, g2, g3⟩ := G.mall m h
      exact ⟨j, x, by rw [List.getElem?_append_left (get_lt g1)]; exact g1, g2, g3⟩
    · exact ⟨es.length, e, by simp, h1, h2⟩
  · intro q hq
    rcases hsa q hq with h | ⟨h1, h2⟩
    · obtain ⟨j, x, g1, g2, g3⟩ := G.sall q h
      exact ⟨j, x, by rw [List.getElem?_append_left (get_lt g1)]; exact g1, g2, g3⟩
    · exact ⟨es.length, e, by simp, h1, h2⟩
  · intro i j x y hij hx hy s1 s2
    rcases get_snoc hx with ⟨hi, hx'⟩ | ⟨rfl, rfl⟩
    · rcases get_snoc hy with ⟨hj, hy'⟩ | ⟨rfl, rfl⟩
      · exact G.sord i j x y hij hx' hy' s1 s2
      · have := G.slt i x hx' s1
        have := (hsi s2).1
        omega
    · rcases get_snoc hy with ⟨hj, hy'⟩ | ⟨rfl, _⟩
      · omega
      · omega
  · intro j x hx h
    rcases get_snoc hx with ⟨_, hx'⟩ | ⟨rfl, rfl⟩
    · have := G.slt j x hx' h
      rw [hst]; simp; omega
    · exact (hsi h).2
  · intro j x hx h1 h2
    rcases get_snoc hx with ⟨_, hx'⟩ | ⟨rfl, rfl⟩
    · exact hnob.1 _ (G.nobs j x hx' h1 h2)
    · exact hnob.2 h1 h2
  · intro i j x y hij hx hy h1 h2 h3
    rcases get_snoc hy with ⟨hj, hy'⟩ | ⟨rfl, rfl⟩
    · rcases get_snoc hx with ⟨hi, hx'⟩ | ⟨rfl, _⟩
      · rcases G.sanc i j x y hij hx' hy' h1 h2 h3 with h | ⟨b, ob, h4, h5⟩
        · exact .inl h
        · exact .inr ⟨b, ob, by rw [hst, List.getElem?_append_left (G.slt j y hy' h3)]; exact h4, h5⟩
      · omega
    · rcases get_snoc hx with ⟨hi, hx'⟩ | ⟨rfl, _⟩
      · obtain ⟨b, ob, h4, h5⟩ := hsanc h3
        rcases h5 _ (G.nobs i x hx' h1 h2) with h | h
        · exact .inl h
        · exact .inr ⟨b, ob, h4, h⟩
      · omega
  · intro i j x y hij hx hy h1 h2 h3
    rcases get_snoc hy with ⟨hj, hy'⟩ | ⟨rfl, rfl⟩
    · rcases get_snoc hx with ⟨hi, hx'⟩ | ⟨rfl, _⟩
      · exact G.nosto i j x y hij hx' hy' h1 h2 h3
      · omega
    · rcases get_snoc hx with ⟨hi, hx'⟩ | ⟨rfl, _⟩
      · cases ho : obliv y.o.op with
        | true => rfl
        | false =>
          have := hnosto h2 h3 ho
          have h4 := G.slt i x hx' h1
          rw [this] at h4; simp at h4
      · omega
  · intro j x hx h
    rcases get_snoc hx with ⟨_, hx'⟩ | ⟨rfl, rfl⟩
    · exact G.wmak j x hx' h
    · exact (hwm h).1
  · intro i j x y hij hx hy h1 h2 h3
    rcases get_snoc hy with ⟨hj, hy'⟩ | ⟨rfl, rfl⟩
    · rcases get_snoc hx with ⟨hi, hx'⟩ | ⟨rfl, _⟩
      · exact G.wanc i j x y hij hx' hy' h1 h2 h3
      · omega
    · rcases get_snoc hx with ⟨hi, hx'⟩ | ⟨rfl, _⟩
      · refine (hwm h3).2.1 _ (G.nobs i x hx' h1 h2) ?_
        rcases ldV_cases x.t x.o.op x.v with h | ⟨_, _, _, _, _, _, h⟩ <;> rw [h] <;> rfl
      · omega
  · intro i j x y hij hx hy h1 h2 h3
    rcases get_snoc hy with ⟨hj, hy'⟩ | ⟨rfl, rfl⟩
    · rcases get_snoc hx with ⟨hi, hx'⟩ | ⟨rfl, _⟩
      · exact G.wbeh i j x y hij hx' hy' h1 h2 h3
      · omega
    · rcases get_snoc hx with ⟨hi, hx'⟩ | ⟨rfl, _⟩
      · refine (hwo h2 h3 i (G.wnob i x hx' h1)).imp id fun hs => ?_
        obtain ⟨_, _, k1, _, _, ⟨lw, k2⟩, k3, _⟩ := G.made i x hx' (G.wmak i x hx' h1)
        unfold sameW at hs
        rw [G.need i, hx'] at hs
        simp only [Option.map_some, k3, k1, k2] at hs
        rcases ldV_cases y.t y.o.op y.v with h | ⟨_, _, _, _, _, _, h⟩ <;> rw [h] at hs ⊢
        · cases hs
        · exact hs
      · omega
  · intro j x hx h
    rcases get_snoc hx with ⟨_, hx'⟩ | ⟨rfl, rfl⟩
    · exact hnob.1 _ (G.wnob j x hx' h)
    · exact (hwm h).2.2
  · intro j x hx h
    rcases get_snoc hx with ⟨_, hx'⟩ | ⟨rfl, rfl⟩
    · obtain ⟨p1, p2, p3, p4, ty, cs, b, p5, p6, p7⟩ := G.flo j x hx' h
      exact ⟨p1, p2, p3, p4, ty, cs, b, p5, p6, hnob.1 _ p7⟩
    · obtain ⟨p1, p2, p3, p4, ty, cs, b, p5, p6, p7⟩ := hflo h
      exact ⟨p1, p2, p3, p4, ty, cs, b, p5, p6, hnob.1 _ p7⟩
  · exact fun j l hm => (G.fst j l (hfn _ _ hm)).mono hfn
  · intro j x hx h i l hm
    have hm := hfn _ _ hm
    rcases get_snoc hx with ⟨_, hx'⟩ | ⟨rfl, rfl⟩
    · rcases G.fsto j x hx' h i l hm with h1 | ⟨b, ob, h2, h3⟩
      · exact .inl h1
      · exact .inr ⟨b, ob, by rw [hst, List.getElem?_append_left (G.slt j x hx' h)]; exact h2, h3⟩
    · obtain ⟨b, ob, h4, h5⟩ := hsanc h
      rcases h5 _ hm with h6 | h6
      · exact .inl h6
      · exact .inr ⟨b, ob, h4, h6⟩
  · intro j x hx h i l hm
    have hm := hfn _ _ hm
    rcases get_snoc hx with ⟨_, hx'⟩ | ⟨rfl, rfl⟩
    · exact G.fwr j x hx' h i l hm
    · exact (hwm h).2.1 _ hm rfl

/-- what is written down of an operation is no block made ahead of its time. -/
theorem ldV_agg {t : Tr V} {o : Op} {v : V} {l : List V} : ldV t o v ≠ .agg l := by
  rcases ldV_cases t o v with h | ⟨_, _, _, _, _, _, h⟩ <;> rw [h] <;> intro h <;> cases h
theorem cons_agg {l : List (Nat × V)} {i j : Nat} {x : V} {m : List V} (hx : ∀ m, x ≠ .agg m) (h : (j, V.agg m) ∈ (i, x) :: l) : (j, V.agg m) ∈ l := by
  rcases List.mem_cons.1 h with h | h
  · exact (hx m (Prod.mk.inj h).2.symm).elim
  · exact h
theorem hdNob_agg {s : Hd} {o : Oper} {i j : Nat} {v : V} {m : List V} (h : (j, V.agg m) ∈ hdNob s o i v) : (j, V.agg m) ∈ s.nob := by
  unfold hdNob at h
  cases ho : obliv o.op <;> rw [ho] at h
  · exact cons_agg (fun _ => ldV_agg) h
  · exact h
theorem floOf_mem : ∀ {l : List (Nat × V)} {i : Nat} {p : List V}, floOf l i = some p → (i, V.agg p) ∈ l
  | [], _, _, h => by cases h
  | (j, x) :: l, i, p, h => by
    simp only [floOf] at h
    split at h
    · rename_i m
      cases hj : Nat.beq j i with
      | true =>
        rw [hj] at h
        simp only [cond_true, Option.some.injEq] at h
        have := Nat.eq_of_beq_eq_true hj
        subst this; subst h
        exact List.mem_cons_self
      | false =>
        rw [hj] at h
        exact List.mem_cons_of_mem _ (floOf_mem h)
    · exact List.mem_cons_of_mem _ (floOf_mem h)
theorem hdPlain_agg {r : Rn} {ms : Tr Nat} {s s' : Hd} {o : Oper} {i m : Nat} {h : Hp} (he : hdPlain P ms r s o i m h = some s') {j : Nat} {l : List V} (hm : (j, V.agg l) ∈ s'.nob) : (j, V.agg l) ∈ s.nob := by
  unfold hdPlain at he
  simp only [Bool.cond_eq_ite] at he
  split at he
  · split at he
    · split at he
      · unfold hdMk at he
        simp only [Bool.cond_eq_ite] at he
        split at he
        · unfold hdMade at he
          simp only [Bool.cond_eq_ite] at he
          split at he
          · split at he
            · simp only [Option.some.injEq] at he; subst he; exact hdNob_agg hm
            · cases he
          · cases he
        · unfold hdWrote at he
          simp only [Bool.cond_eq_ite] at he
          split at he
          · split at he
            · simp only [Option.some.injEq] at he; subst he; exact cons_agg (fun _ h => by simp [undefV] at h) (cons_agg (fun _ h => by cases h) hm)
            · cases he
          · cases he
      · cases he
    · unfold hdRead at he
      split at he
      · simp only [Bool.cond_eq_ite] at he
        split at he
        · simp only [Option.some.injEq] at he; subst he; exact hdNob_agg hm
        · cases he
      · cases he
  · cases he
theorem hdOne_agg {r : Rn} {ms : Tr Nat} {s s' : Hd} {o : Oper} {i : Nat} {b : Option Bool} (he : hdOne P ms r s o i b = some s') {j : Nat} {l : List V} (hm : (j, V.agg l) ∈ s'.nob) : (j, V.agg l) ∈ s.nob := by
  unfold hdOne at he
  split at he
  · cases he
  · simp only [Option.some.injEq] at he; subst he; exact hm
  · unfold hdDo at he
    split at he
    · cases he
    · split at he
      · unfold hdStore at he
        (repeat' split at he) <;> first | (cases he; done) | skip
        unfold hdPut at he
        simp only [Bool.cond_eq_ite] at he
        (repeat' split at he) <;> first | (cases he; done) | (simp only [Option.some.injEq] at he; subst he; exact cons_agg (fun _ h => by simp [undefV] at h) hm)
      · unfold hdFlo at he
        split at he
        · exact hdPlain_agg he hm
        · simp only [Option.some.injEq] at he; subst he; exact hm
        · cases he
      · unfold hdFloS at he
        split at he
        · exact hdPlain_agg he hm
        · unfold hdFloC at he
          split at he
          · simp only [Bool.cond_eq_ite] at he
            split at he
            · simp only [Option.some.injEq] at he; subst he; exact hm
            · cases he
          · cases he
        · cases he
      · exact hdPlain_agg he hm
theorem hdAll_agg {r : Rn} {ms : Tr Nat} {all : Array Oper} {j : Nat} {m : List V} : ∀ {l : List Oper} {i : Nat} {s s' : Hd}, hdAll P ms r all l i (some s) = some s' → (j, V.agg m) ∈ s'.nob → (j, V.agg m) ∈ s.nob
  | [], i, s, s', he, hm => by simp only [hdAll, Option.some.injEq] at he; subst he; exact hm
  | o :: l, i, s, s', he, hm => by
    simp only [hdAll] at he
    cases h1 : hdOne P ms r s o i (wantO all s.t o) with
    | none => rw [h1] at he; cases l <;> simp [hdAll] at he
    | some s1 => rw [h1] at he; exact hdOne_agg h1 (hdAll_agg he hm)
/-- blocks made ahead of their time. -/
theorem flo0_spec {ms : Tr Nat} {all : List Oper} {t : Tr V} : ∀ (l : List Oper) (i : Nat) (h : Hp) {h' : Hp} {n : List (Nat × V)}, flo0 P ms all t l i h = some (h', n) → (∀ b, h.n ≤ b → h.t.get b = none) →
    h.n ≤ h'.n ∧ (∀ b, b < h.n → h'.t.get b = h.t.get b) ∧ (∀ b, h'.n ≤ b → h'.t.get b = none) ∧
    ∀ j m, (j, V.agg m) ∈ n → ∃ p b ty cs o, V.agg m = fent p ty cs ∧ blkV p = some b ∧ i ≤ j ∧ l[j - i]? = some o ∧ obliv o.op = true ∧ (∀ ty', o.op = .alloc ty' → ty' = ty ∧ p = .ptr b 0 ∧ ∃ z, zero P ty = some z ∧ cs = vcells z) ∧ h.n ≤ b ∧ b < h'.n ∧
      h'.t.get b = some (.cells (Tr.nil.setL 0 cs) cs.length false ty) ∧ ∀ j' m' p' e c, (j', V.agg m') ∈ n → V.agg m' = fent p' e c → blkV p' = some b → j' = j
  | [], i, h, h', n, e, hf => by
    simp only [flo0, Option.some.injEq, Prod.mk.injEq] at e
    obtain ⟨rfl, rfl⟩ := e
    exact ⟨Nat.le_refl _, fun _ _ => rfl, hf, fun j m hm => by cases hm⟩
  | o :: l, i, h, h', n, e, hf => by
    have dec : (∃ p ty cs n', n = (i, fent p ty cs) :: n' ∧ blkV p = some h.n ∧ obliv o.op = true ∧ (∀ ty', o.op = .alloc ty' → ty' = ty ∧ p = .ptr h.n 0 ∧ ∃ z, zero P ty = some z ∧ cs = vcells z) ∧ flo0 P ms all t l (i + 1) (h.newRow ty cs false) = some (h', n')) ∨
        flo0 P ms all t l (i + 1) h = some (h', n) := by
      rw [flo0] at e
      split at e
      · rename_i ty cs heq
        obtain ⟨n', e', rfl⟩ := consF_some e
        split at heq
        · rename_i ty' hop hg
          cases hob : obliv (Op.alloc ty') with
          | false => rw [hop, hob] at heq; cases heq
          | true =>
            rw [hop, hob] at heq
            simp only [cond_true] at heq
            split at heq
            · rename_i z hz
              simp only [Option.some.injEq, Prod.mk.injEq] at heq
              obtain ⟨rfl, rfl⟩ := heq
              refine .inl ⟨_, _, _, n', rfl, rfl, by rw [hop]; exact hob, fun ty2 h2 => ?_, e'⟩
              rw [hop] at h2
              simp only [Op.alloc.injEq] at h2
              subst h2
              exact ⟨rfl, rfl, z, hz, rfl⟩
            · cases heq
        · cases heq
      · split at e
        · rename_i e1 len ys hS
          split at e
          · rename_i vs hvs
            obtain ⟨n', e', rfl⟩ := consF_some e
            unfold floS at hS
            split at hS
            · rename_i ty len' parts hop hg
              cases hob : obliv (Op.buildSlice ty len' parts) with
              | false => rw [hop, hob] at hS; cases hS
              | true =>
                exact .inl ⟨_, _, _, n', rfl, rfl, by rw [hop]; exact hob, fun ty2 h2 => (by rw [hop] at h2; cases h2), e'⟩
            · cases hS
          · cases e
        · exact .inr e
    rcases dec with ⟨p, ty, cs, n', rfl, hpb, hob, hal, e'⟩ | e'
    · have hf' : ∀ b, (h.newRow ty cs false).n ≤ b → (h.newRow ty cs false).t.get b = none := fun b hb => by
        simp only [Hp.newRow, Hp.new] at hb ⊢
        rw [Tr.get_set_ne _ _ (by omega)]; exact hf b (by omega)
      obtain ⟨h1, h2, h3, h4⟩ := flo0_spec l (i + 1) (h.newRow ty cs false) e' hf'
      have hn : (h.newRow ty cs false).n = h.n + 1 := rfl
      rw [hn] at h1 h2
      refine ⟨by omega, fun b hb => ?_, h3, fun j m hm => ?_⟩
      · rw [h2 b (by omega)]
        simp only [Hp.newRow, Hp.new]
        exact Tr.get_set_ne _ _ (by omega)
      · have hin : ∀ {j' m'} p' e c, (j', V.agg m') ∈ n' → V.agg m' = fent p' e c → blkV p' ≠ some h.n := by
          intro j' m' p' e1 c hm' he1 hb1
          obtain ⟨p2, b, ty2, z2, o2, q1, q1b, _, _, _, _, q6, _⟩ := h4 j' m' hm'
          rw [q1] at he1
          obtain ⟨rfl, _, _⟩ := fent_inj he1
          rw [q1b] at hb1
          simp only [Option.some.injEq] at hb1
          rw [hn] at q6
          omega
        rcases List.mem_cons.1 hm with hm1 | hm
        · simp only [Prod.mk.injEq] at hm1
          obtain ⟨rfl, hm1⟩ := hm1
          refine ⟨p, h.n, ty, cs, o, hm1, hpb, Nat.le_refl _, by simp, hob, hal, Nat.le_refl _, by omega, ?_, fun j' m' p' e c hm' he' hb' => ?_⟩
          · rw [h2 h.n (by omega)]
            simp only [Hp.newRow, Hp.new]
            exact Tr.get_set_same _ _ _
          · rcases List.mem_cons.1 hm' with hm' | hm'
            · exact (Prod.mk.inj hm').1
            · exact (hin _ _ _ hm' he' hb').elim
        · obtain ⟨p2, b, ty2, z2, o2, q1, q1b, q2, q3, q4, q5, q6, q7, q8, q9⟩ := h4 j m hm
          refine ⟨p2, b, ty2, z2, o2, q1, q1b, by omega, by rw [show j - i = (j - (i + 1)) + 1 by omega]; exact q3, q4, q5, by rw [hn] at q6; omega, q7, q8, fun j' m' p' e c hm' he' hb' => ?_⟩
          rcases List.mem_cons.1 hm' with hm' | hm'
          · exfalso
            rw [(Prod.mk.inj hm').2] at he'
            obtain ⟨rfl, _, _⟩ := fent_inj he'
            rw [hpb] at hb'
            simp only [Option.some.injEq] at hb'
            rw [hn] at q6
            omega
          · exact q9 j' m' p' e c hm' he' hb'
    · obtain ⟨h1, h2, h3, h4⟩ := flo0_spec l (i + 1) h e' hf
      refine ⟨h1, h2, h3, fun j m hm => ?_⟩
      obtain ⟨p, b, ty, cs, o', q1, q1b, q2, q3, q4⟩ := h4 j m hm
      exact ⟨p, b, ty, cs, o', q1, q1b, by omega, by rw [show j - i = (j - (i + 1)) + 1 by omega]; exact q3, q4⟩
theorem old_chain {P : Program} {r : Rn} {all : Array Oper} {t0 : Tr V} {h0 : Hp} {es : List En} {s : Hd} {e : En} (G : Good P r all t0 h0 es s) (m : Nat) (H H' : Hp) (h1 : s.hs.get m = some H) (h2 : s.hs.get (m + 1) = some H') :
    H.n ≤ H'.n ∧ ((∀ (j : Nat) e', (es ++ [e])[j]? = some e' → e'.wr = true → e'.m ≠ m) → ∀ b, b < H.n → H'.t.get b = H.t.get b) := by
  obtain ⟨h3, h4⟩ := G.chain m H H' h1 h2
  exact ⟨h3, fun h => h4 fun j e' hj => h j e' (by rw [List.getElem?_append_left (get_lt hj)]; exact hj)⟩

theorem hdOne_good {r : Rn} (hr : RnFr r) {all : Array Oper} {t0 : Tr V} {h0 : Hp} {es : List En} {s s' : Hd} {o : Oper} (G : Good P r all t0 h0 es s) (ho : all[es.length]? = some o)
    (he : hdOne P (masks all) r s o es.length (wantO all s.t o) = some s') : ∃ e, Good P r all t0 h0 (es ++ [e]) s' := by
  have hmle : ∀ m H, s.hs.get m = some H → m ≤ s.c := fun m H h => by
    rcases Nat.lt_or_ge s.c m with h1 | h1
    · rw [G.hsn m h1] at h; cases h
    · exact h1
  cases hw : wantO all s.t o with
  | none => simp [hw, hdOne] at he
  | some b =>
    rw [hw] at he
    cases b with
    | false =>
      simp only [hdOne, Option.some.injEq] at he
      subst he
      refine ⟨⟨o, s.t, false, false, false, maxNeed s.need o.after.toList, maxNeed s.need o.after.toList, 0, undefV, h0, h0, false, false⟩, G.snoc ⟨ho, rfl, rfl, rfl, rfl, hw⟩ (fun _ _ h => h) (Nat.le_refl _) ⟨[], by simp [hdSkip]⟩
        (fun _ => ⟨rfl, rfl, rfl, rfl⟩) (fun h => by cases h) (fun h => by cases h) (fun h => by cases h) (fun m hm => .inl hm) (fun q hq => .inl hq) (fun h => by cases h) ⟨fun _ h => h, fun h => by cases h⟩ (fun h => by cases h)
        (fun h => by cases h) G.hsc G.hsn (fun h => by cases h) (fun h => by cases h) (fun m H H' a b => old_chain G m H H' a b) (fun h => by cases h) (fun _ _ h => h)⟩
    | true =>
      simp only [hdOne] at he
      cases hg : s.hs.get (maxNeed s.need o.after.toList) with
      | none => simp [hg, hdDo] at he
      | some h =>
        have hmc := hmle _ _ hg
        rw [hg] at he
        by_cases hso : ∃ ty a x, o.op = .store ty a x
        · obtain ⟨ty, a, x, hop⟩ := hso
          simp only [hdDo, hop] at he
          unfold hdStore at he
          cases ha : evalO s.t a with
          | none => simp [ha] at he
          | some av =>
            cases av <;> simp only [ha, reduceCtorEq] at he
            rename_i bb off
            cases hx : evalO s.t x with
            | none => simp [hx] at he
            | some v =>
              simp only [hx] at he
              cases hob : storeO P (stores s.st h) ty bb off v with
              | none => simp [hob, hdPut] at he
              | some ob =>
                simp only [hob, hdPut] at he
                cases hall : s.nob.all (fun x => anc (masks all) es.length x.1 || okV bb x.2) with
                | false => simp [hall] at he
                | true =>
                  simp only [hall, cond_true, Option.some.injEq] at he
                  subst he
                  have hall' : ∀ x, x ∈ s.nob → anc (masks all) es.length x.1 = true ∨ okV bb x.2 = true := fun x hi => by simpa using List.all_eq_true.1 hall x hi
                  refine ⟨⟨o, s.t, true, false, true, maxNeed s.need o.after.toList, maxNeed s.need o.after.toList, s.st.length, unitV, h, h, false, false⟩, G.snoc ⟨ho, rfl, rfl, rfl, rfl, hw⟩ (fun _ _ h => h) (Nat.le_refl _) ⟨[(bb, ob)], rfl⟩
                    (fun h => by cases h) (fun _ _ h => by cases h) (fun h => by cases h) (fun _ => ⟨rfl, rfl, ⟨ty, a, x, bb, off, v, ob, hop, ha, hx, hg, ?_, ?_⟩, rfl, rfl⟩) (fun m hm => .inl hm) (fun q hq => ?_) (fun _ => ⟨rfl, ?_⟩)
                    ⟨fun _ h => List.mem_cons_of_mem _ h, fun _ _ => by rw [ldV_store hop]; exact List.mem_cons_self⟩ (fun _ => ⟨bb, ob, by simp, hall'⟩)
                    (fun _ h => by cases h) G.hsc G.hsn (fun h => by cases h) (fun _ _ i hi => .inl ((hall' _ hi).elim id fun h => by cases h)) (fun m H H' a b => old_chain G m H H' a b) (fun h => by cases h) (fun _ _ h => cons_agg (fun _ h => by simp [undefV] at h) h)⟩
                  · simp only [List.take_left']; exact hob
                  · simp
                  · simp only [List.length_append, List.length_singleton] at hq
                    rcases Nat.lt_or_ge q s.st.length with h | h
                    · exact .inl h
                    · exact .inr ⟨rfl, by simp only; omega⟩
                  · simp
        · have he0 : hdPlain P (masks all) r s o es.length (maxNeed s.need o.after.toList) h = some s' ∨ ∃ p ty cs b, ((es.length, fent p ty cs) ∈ s.nob ∧ obliv o.op = true ∧ FloC P s.t o.op b p ty cs ∧ blkV p = some b) ∧ s' = ⟨s.c, s.hs, s.need.set es.length (maxNeed s.need o.after.toList), putO s.t o.dst p, s.st, s.nob⟩ := by
            simp only [hdDo] at he
            split at he
            · exact (hso ⟨_, _, _, by assumption⟩).elim
            · rename_i ty0 hop
              unfold hdFlo at he
              split at he
              · exact .inl he
              · rename_i p m hp
                simp only [Option.some.injEq] at he
                have hm := floOf_mem hp
                obtain ⟨p', b, ty, cs, o', q1, q2, q3, q4, q5, _⟩ := G.fst _ _ hm
                rw [ho] at q3
                simp only [Option.some.injEq] at q3; subst q3
                obtain ⟨rfl, rfl, z, hz, rfl⟩ := q5 _ hop
                have hpe : p = .ptr b 0 := by
                  unfold fent at q1
                  simp only [V.agg.injEq, List.cons.injEq] at q1
                  exact q1.1
                subst hpe
                exact .inr ⟨_, ty0, vcells z, b, ⟨by rw [← q1]; exact hm, q4, .inl ⟨z, hop, hz, rfl, rfl⟩, rfl⟩, he.symm⟩
              · cases he
            · rename_i sty len parts hop
              unfold hdFloS at he
              split at he
              · exact .inl he
              · rename_i p ty cs hp
                have hm := floOf_mem hp
                obtain ⟨p', b, ty', cs', o', q1, q2, q3, q4, _⟩ := G.fst _ _ hm
                rw [ho] at q3
                simp only [Option.some.injEq] at q3; subst q3
                obtain ⟨rfl, rfl, rfl⟩ := fent_inj (show fent p ty cs = fent p' ty' cs' from q1)
                unfold hdFloC at he
                split at he
                · rename_i v h1 hex
                  simp only [Bool.cond_eq_ite] at he
                  split at he
                  · rename_i hfi
                    simp only [Option.some.injEq] at he
                    unfold floIs at hfi
                    rw [Bool.and_eq_true] at hfi
                    have hve := vEq_eq hfi.1
                    subst hve
                    have hbn : blkN v = b := by
                      unfold blkV at q2
                      split at q2 <;> first | (simp only [Option.some.injEq] at q2; exact q2) | cases q2
                    rw [hop] at hex
                    exact .inr ⟨v, ty, cs, b, ⟨hm, q4, .inr ⟨sty, len, parts, h1, hop, hex, by rw [← hbn]; exact hfi.2⟩, q2⟩, he.symm⟩
                  · cases he
                · cases he
              · cases he
            · exact .inl he
          rcases he0 with he' | ⟨p, ty, cs, b, ⟨hm, hobl, hfc, hbv⟩, rfl⟩
          rotate_left
          · exact ⟨⟨o, s.t, true, false, false, maxNeed s.need o.after.toList, maxNeed s.need o.after.toList, 0, p, h, h, false, true⟩, G.snoc ⟨ho, rfl, rfl, rfl, rfl, hw⟩ (fun _ _ h => h) (Nat.le_refl _) ⟨[], by simp⟩
              (fun h => by cases h) (fun _ _ _ h => by cases h) (fun h => by cases h) (fun h => by cases h) (fun m hm => .inl hm) (fun q hq => .inl hq) (fun h => by cases h) ⟨fun _ h => h, fun _ h => by simp only at h; rw [hobl] at h; cases h⟩ (fun h => by cases h)
              (fun _ _ h => by simp only at h; rw [hobl] at h; cases h) G.hsc G.hsn (fun h => by cases h) (fun _ h => by simp only at h; rw [hobl] at h; cases h) (fun m H H' a b => old_chain G m H H' a b)
              (fun _ => ⟨rfl, rfl, rfl, rfl, ty, cs, b, hfc, hbv, hm⟩) (fun _ _ h => h)⟩
          unfold hdPlain at he'
          cases hob : (obliv o.op || freeM (masks all) es.length s o) with
          | false => simp [hob] at he'
          | true =>
            simp only [hob, cond_true] at he'
            have hnil : obliv o.op = false → s.st = [] := by
              intro h
              rw [h, Bool.false_or] at hob
              unfold freeM at hob
              cases hst : s.st with
              | nil => rfl
              | cons _ _ => rw [hst] at hob; simp [isNil] at hob
            have hnm : makes o = true → obliv o.op = false → ∀ v i, (i, V.bool false) ∈ s.nob → anc (masks all) es.length i = true ∨ sameW s i v = true := by
              intro hmk h v i hi
              rw [h, Bool.false_or] at hob
              unfold freeM behindW at hob
              rw [Bool.and_eq_true, hmk] at hob
              have := List.all_eq_true.1 hob.2 _ hi
              exact .inl (by simpa [freeV] using this)
            have hnob : ∀ v, (∀ j, j ∈ s.nob → j ∈ hdNob s o es.length v) ∧ (obliv o.op = false → (es.length, ldV s.t o.op v) ∈ hdNob s o es.length v) := by
              intro v
              unfold hdNob
              cases obliv o.op with
              | true => exact ⟨fun _ h => h, fun h => by cases h⟩
              | false => exact ⟨fun _ h => List.mem_cons_of_mem _ h, fun _ => List.mem_cons_self⟩
            cases hm : makes o with
            | false =>
              simp only [hm, cond_false] at he'
              cases hex : execV P s.t h o.op with
              | none => simp [hex, hdRead] at he'
              | some p =>
                obtain ⟨v, h1⟩ := p
                simp only [hex, hdRead] at he'
                cases hbr : (obliv o.op || behindR (masks all) es.length s (ldV s.t o.op v)) with
                | false => rw [hbr] at he'; cases he'
                | true =>
                rw [hbr] at he'
                simp only [cond_true, Option.some.injEq] at he'
                subst he'
                have hnr : obliv o.op = false → ∀ i, (i, V.bool false) ∈ s.nob → anc (masks all) es.length i = true ∨ sameW s i (ldV s.t o.op v) = true := by
                  intro h i hi
                  rw [h, Bool.false_or] at hbr
                  have := List.all_eq_true.1 hbr _ hi
                  simp only [Bool.or_eq_true, freeV] at this
                  rcases this with h1 | h1 | h1
                  · exact .inl h1
                  · cases h1
                  · exact .inr h1
                exact ⟨⟨o, s.t, true, false, false, maxNeed s.need o.after.toList, maxNeed s.need o.after.toList, 0, v, h, h, false, false⟩, G.snoc ⟨ho, rfl, rfl, rfl, rfl, hw⟩ (fun _ _ h => h) (Nat.le_refl _) ⟨[], by simp⟩
                  (fun h => by cases h) (fun _ _ _ _ => ⟨hm, hg, ⟨h1, hex⟩, rfl⟩) (fun h => by cases h) (fun h => by cases h) (fun m hm => .inl hm) (fun q hq => .inl hq) (fun h => by cases h) ⟨(hnob v).1, fun _ h => (hnob v).2 h⟩ (fun h => by cases h)
                  (fun _ _ h => hnil h) G.hsc G.hsn (fun h => by cases h) (fun _ h => hnr h) (fun m H H' a b => old_chain G m H H' a b) (fun h => by cases h) (fun _ _ h => hdNob_agg h)⟩
            | true =>
              simp only [hm, cond_true] at he'
              cases hbc : Nat.beq (maxNeed s.need o.after.toList) s.c with
              | false => simp [hbc] at he'
              | true =>
                have hmeq := Nat.eq_of_beq_eq_true hbc
                simp only [hbc, cond_true] at he'
                have hset : ∀ (X : Hp), (∀ m H, s.hs.get m = some H → (s.hs.set (s.c + 1) X).get m = some H) ∧ (s.hs.set (s.c + 1) X).get (maxNeed s.need o.after.toList) = some h ∧ (s.hs.set (s.c + 1) X).get (maxNeed s.need o.after.toList + 1) = some X ∧
                    (∀ m, m ≤ s.c + 1 → ∃ H, (s.hs.set (s.c + 1) X).get m = some H) ∧ (∀ m, s.c + 1 < m → (s.hs.set (s.c + 1) X).get m = none) := by
                  intro X
                  refine ⟨fun m H hH => ?_, ?_, ?_, fun m hm' => ?_, fun m hm' => ?_⟩
                  · have := hmle m H hH
                    rw [Tr.get_set_ne _ _ (by omega)]; exact hH
                  · rw [Tr.get_set_ne _ _ (by omega)]; exact hg
                  · rw [hmeq, Tr.get_set_same]
                  · by_cases hh : s.c + 1 = m
                    · exact ⟨_, by rw [hh, Tr.get_set_same]⟩
                    · obtain ⟨H, hH⟩ := G.hsc m (by omega)
                      exact ⟨H, by rw [Tr.get_set_ne _ _ hh]; exact hH⟩
                  · rw [Tr.get_set_ne _ _ (by omega)]; exact G.hsn m (by omega)
                have hchain : ∀ (X : Hp) (e : En), h.n ≤ X.n → ((e.wr = false ∨ e.m ≠ s.c) → ∀ b, b < h.n → X.t.get b = h.t.get b) → ∀ m H H', (s.hs.set (s.c + 1) X).get m = some H → (s.hs.set (s.c + 1) X).get (m + 1) = some H' →
                    H.n ≤ H'.n ∧ ((∀ (j : Nat) e', (es ++ [e])[j]? = some e' → e'.wr = true → e'.m ≠ m) → ∀ b, b < H.n → H'.t.get b = H.t.get b) := by
                  intro X e hX1 hX2 m H H' h2 h3
                  by_cases hh : m = s.c
                  · subst hh
                    rw [Tr.get_set_ne _ _ (by omega)] at h2
                    rw [Tr.get_set_same] at h3
                    rw [hmeq] at hg
                    rw [hg] at h2
                    simp only [Option.some.injEq] at h2 h3
                    subst h2 h3
                    refine ⟨hX1, fun hw => hX2 ?_⟩
                    cases hew : e.wr with
                    | false => exact .inl rfl
                    | true => exact .inr (hw es.length e (by simp) hew)
                  · by_cases hh2 : m = s.c + 1
                    · subst hh2
                      rw [Tr.get_set_ne _ _ (by omega), G.hsn _ (by omega)] at h3; cases h3
                    · rw [Tr.get_set_ne _ _ (by omega)] at h2
                      rw [Tr.get_set_ne _ _ (by omega)] at h3
                      exact old_chain G m H H' h2 h3
                unfold hdMk at he'
                cases hob0 : obliv o.op with
                | false =>
                  rw [hob0, cond_false] at he'
                  cases hop : opV P r s.t ⟨h.t, h.n, h.n⟩ o with
                  | none => simp [hop, hdWrote] at he'
                  | some p =>
                    obtain ⟨v, h1⟩ := p
                    simp only [hop, hdWrote] at he'
                    cases hall : s.nob.all (fun x => (anc (masks all) es.length x.1 || markV x.2) || (pureB h h1 || sameLd h h1 x.2)) with
                    | false => simp [hall] at he'
                    | true =>
                      simp only [hall, cond_true, Option.some.injEq] at he'
                      subst he'
                      have f := op_fr hr hop
                      have hS := hset ⟨h1.t, h1.n, Nat.min h.low h1.low⟩
                      exact ⟨⟨o, s.t, true, true, false, maxNeed s.need o.after.toList, s.c + 1, 0, v, h, h1, !(pureB h h1), false⟩, G.snoc ⟨ho, rfl, rfl, rfl, rfl, hw⟩ hS.1 (Nat.le_succ _) ⟨[], by simp⟩
                        (fun h => by cases h) (fun _ h => by cases h) (fun _ => ⟨rfl, hm, hS.2.1, hop, fun _ => hob0, ⟨_, hS.2.2.1⟩, by simp only; omega, by simp only; omega, by simp only; omega⟩) (fun h => by cases h)
                        (fun m hm => by
                          simp only at hm
                          rcases Nat.lt_or_ge m s.c with h | h
                          · exact .inl h
                          · exact .inr ⟨rfl, by simp only; omega⟩) (fun q hq => .inl hq) (fun h => by cases h) ⟨fun _ h => List.mem_cons_of_mem _ (List.mem_cons_of_mem _ h), fun _ _ => by rw [ldV_makes hm]; exact List.mem_cons_of_mem _ List.mem_cons_self⟩ (fun h => by cases h)
                        (fun _ _ h => hnil h) hS.2.2.2.1 hS.2.2.2.2 (fun hwr => ⟨rfl, fun x hi hmv => by
                          have := List.all_eq_true.1 hall x hi
                          simp only [Bool.not_eq_true'] at hwr
                          rw [hmv, hwr] at this
                          simpa using this, by
                          simp only [Bool.not_eq_true'] at hwr
                          rw [hwr]; exact List.mem_cons_self⟩) (fun _ h => hnm hm h _)
                        (hchain _ _ f.n fun h2 b hb => by
                          rcases h2 with h2 | h2
                          · simp only [Bool.not_eq_false'] at h2
                            exact f.get b hb (Nat.lt_of_lt_of_le hb (Nat.le_of_ble_eq_true h2))
                          · exact (h2 hmeq).elim) (fun h => by cases h) (fun _ _ h => cons_agg (fun _ h => by simp [undefV] at h) (cons_agg (fun _ h => by cases h) h))⟩
                | true =>
                  rw [hob0, cond_true] at he'
                  cases hop : opV P r s.t ⟨h.t, h.n, h.n⟩ o with
                  | none => simp [hop, hdMade] at he'
                  | some p =>
                    obtain ⟨v, h1⟩ := p
                    simp only [hop, hdMade] at he'
                    cases hle0 : Nat.ble h.n h1.low with
                    | false => simp [hle0] at he'
                    | true =>
                      have hle := Nat.le_of_ble_eq_true hle0
                      simp only [hle0, cond_true, Option.some.injEq] at he'
                      subst he'
                      have f := op_fr hr hop
                      have hS := hset ⟨h1.t, h1.n, h.low⟩
                      exact ⟨⟨o, s.t, true, true, false, maxNeed s.need o.after.toList, s.c + 1, 0, v, h, h1, false, false⟩, G.snoc ⟨ho, rfl, rfl, rfl, rfl, hw⟩ hS.1 (Nat.le_succ _) ⟨[], by simp⟩
                        (fun h => by cases h) (fun _ h => by cases h) (fun _ => ⟨rfl, hm, hS.2.1, hop, fun h => (by cases h), ⟨_, hS.2.2.1⟩, by simp only; omega, by simp only; omega, by simp only; omega⟩) (fun h => by cases h)
                        (fun m hm => by
                          simp only at hm
                          rcases Nat.lt_or_ge m s.c with h | h
                          · exact .inl h
                          · exact .inr ⟨rfl, by simp only; omega⟩) (fun q hq => .inl hq) (fun h => by cases h) ⟨(hnob v).1, fun _ h => (hnob v).2 h⟩ (fun h => by cases h)
                        (fun _ _ h => hnil h) hS.2.2.2.1 hS.2.2.2.2 (fun h => by cases h) (fun _ h => hnm hm h _)
                        (hchain _ _ f.n fun _ b hb => f.get b hb (Nat.lt_of_lt_of_le hb hle)) (fun h => by cases h) (fun _ _ h => hdNob_agg h)⟩

theorem hdAll_good {r : Rn} (hr : RnFr r) {all : Array Oper} {t0 : Tr V} {h0 : Hp} : ∀ {l : List Oper} {es : List En} {s s' : Hd}, Good P r all t0 h0 es s → (∀ j, j < l.length → all[es.length + j]? = l[j]?) →
    hdAll P (masks all) r all l es.length (some s) = some s' → ∃ es', es'.length = es.length + l.length ∧ Good P r all t0 h0 es' s'
  | [], es, s, s', G, _, he => by simp only [hdAll, Option.some.injEq] at he; subst he; exact ⟨es, rfl, G⟩
  | o :: l, es, s, s', G, hl, he => by
    simp only [hdAll] at he
    have ho : all[es.length]? = some o := by have := hl 0 (by simp); simpa using this
    cases h1 : hdOne P (masks all) r s o es.length (wantO all s.t o) with
    | none => rw [h1] at he; cases l <;> simp [hdAll] at he
    | some s1 =>
      rw [h1] at he
      obtain ⟨e, G1⟩ := hdOne_good hr G ho h1
      have hlen : (es ++ [e]).length = es.length + 1 := by simp
      rw [← hlen] at he
      obtain ⟨es', h2, h3⟩ := hdAll_good hr G1 (fun j hj => by
        have := hl (j + 1) (by simp; omega)
        simp only [List.getElem?_cons_succ] at this
        rw [← this, hlen]; congr 1; omega) he
      exact ⟨es', by rw [h2, hlen]; simp only [List.length_cons]; omega, h3⟩

theorem good_start {r : Rn} {all : Array Oper} {t0 : Tr V} {h0 : Hp} {n0 : List (Nat × V)}
    (hn : ∀ (j : Nat) l, (j, V.agg l) ∈ n0 → FloE P all h0 n0 j l) : Good P r all t0 h0 [] ⟨0, Tr.nil.set 0 h0, .nil, t0, [], n0⟩ := by
  have hg : ∀ m, (Tr.nil.set 0 h0).get m = if 0 = m then some h0 else none := fun m => by rw [Tr.get_set, Tr.get_nil]
  refine ⟨fun j e h => by simp at h, fun j e h => by simp at h, fun u v h => .inr ⟨fun i e' h => by simp at h, h⟩, fun j => by simp [Tr.get_nil], fun j e h => by simp at h, fun j e h => by simp at h, fun j e h => by simp at h, fun j e h => by simp at h,
    fun j e h => by simp at h, fun j e h => by simp at h, fun i j e e' h => by simp at h, fun m h => by simp at h, fun q h => by simp at h, fun i j e e' _ h => by simp at h, fun j e h => by simp at h, fun j e h => by simp at h, fun i j e e' _ h => by simp at h,
    fun i j e e' _ h => by simp at h, by simp [hg], fun m hm => ⟨h0, by rw [hg, if_pos (by simp at hm; omega)]⟩, fun m hm => by rw [hg, if_neg (by simp at hm; omega)], fun j e h => by simp at h, fun i j e e' _ h => by simp at h, fun i j e e' _ h => by simp at h, fun j e h => by simp at h, fun j e h => by simp at h, hn, fun j e h => by simp at h, fun j e h => by simp at h, fun j e h => by simp at h, fun m H H' h1 h2 => by
      rw [hg, if_neg (by omega)] at h2; cases h2⟩
end Go.Mid
