/- FlowPlaces: what a maker, its functions, blocks and breaks look like in memory, and what holds of them. -/
import Derived.Test.YthbcbfgpfpogkaaGreatPFW4
set_option linter.all false
set_option warn.classDefReducibility false
noncomputable section
section
open Go Go.Mid Go.Proofs
set_option maxRecDepth 100000
namespace Go.FP
section
def Ints (S : Mem) (v : V) (l : List Int) : Prop := (v = .nilSlice ∧ l = []) ∨ ∃ b c g, v = .slice b 0 l.length c g ∧ l.length ≤ 1000000 ∧ ∀ i : Nat, i < l.length → S b i = (l.map (V.int .i64))[i]?
theorem Ints.le {S S' : Mem} (hS : Le S S') {v : V} {l : List Int} (h : Ints S v l) : Ints S' v l := by
 rcases h with h | ⟨b, c, g, h1, h0, h2⟩
 ·exact .inl h
 ·refine .inr ⟨b, c, g, h1, h0, fun i hi => ?_⟩
  have h3 := h2 i hi
  have h4 : (l.map (V.int .i64))[i]? = some (.int .i64 l[i]) := by rw [List.getElem?_map, List.getElem?_eq_getElem hi]; rfl
  rw [h4] at h3 ⊢; exact hS _ _ _ h3
structure Sm where
 kd : Int
 slV : V
 tgV : V
 exV : V
 nx : Int
 el : Int
 ln : Int
 sl : List Int
 tg : List Int
 ex : List Int
def Sm.cs (s : Sm) : List V := [.int .u8 s.kd, s.slV, s.tgV, s.exV, .int .i64 s.nx, .int .i64 s.el, .int .i64 s.ln]
structure Ex where
 kd : Int
 n : Int
 ksV : V
 ks : List Int
def Ex.cs (s : Ex) : List V := [.int .u8 s.kd, .int .i64 s.n, s.ksV]
structure Fn where
 fb : Nat
 pa : Int
 more : Bool
 sl : Int
 st : Int
 boV : V
 upV : V
 stV : V
 exV : V
 vaV : V
 blV : V
 bo : List Bool
 up : List (Bool × Int)
 ss : List Sm
 es : List Ex
 va : List Bs
 bl : List (Nat × Nat)
def Fn.row (f : Fn) : List V := [.int .i64 f.pa, .bool f.more, .int .i64 f.sl, f.boV, f.upV, f.stV, f.exV, .int .i64 f.st, f.vaV, f.blV]
def upc (u : Bool × Int) : List V := [.bool u.1, .int .i64 u.2]
def ptrs (l : List (Nat × Nat)) : List V := l.map fun p => .ptr p.2 0
def Fn.A (f : Fn) : Asn := ands [Mid.row f.fb f.row, vc true f.boV 4 1 (f.bo.map V.bool), vc true f.upV 75 2 (f.up.flatMap upc), vc true f.stV 50 7 (f.ss.flatMap Sm.cs), vc true f.exV 53 3 (f.es.flatMap Ex.cs), vc true f.vaV 136 1 (f.va.map V.str), vc true f.blV 101 1 (ptrs f.bl)]
structure Bk where
 bb : Nat
 lbV : V
 vars : Int
 lp : Option (Nat × Nat)
 lbs : List (Bs × Int × Int)
def lpV : Option (Nat × Nat) → V
 | some p => .ptr p.2 0
 | none => .nilPtr
def lbc (x : Bs × Int × Int) : List V := [.str x.1, .int .i64 x.2.1, .int .i64 x.2.2]
def Bk.A (b : Bk) : Asn := ands [row b.bb [b.lbV, .int .i64 b.vars, lpV b.lp], vc true b.lbV 103 3 (b.lbs.flatMap lbc)]
structure Cl where
 cb : Nat
 cv : V
 own : Nat
 l : List Int
def Cl.A (c : Cl) : Asn := ands [row c.cb [c.cv], vc true c.cv 3 1 (c.l.map (V.int .i64))]
structure Wi where
 f : Nat × Nat
 nm : Bs
 st : Int
 ln : Int
 va : Int
 inV : V
 inn : List (Nat × Nat)
def Wi.cs (w : Wi) : List V := [.ptr w.f.2 0, .str w.nm, .int .i64 w.st, .int .i64 w.ln, .int .i64 w.va, w.inV]
structure MS where
 mb : Nat
 nv : V
 root : Int
 strsV : V
 mapb : Nat
 fuV : V
 dnV : V
 goV : V
 fe : Int
 fl : Int
 strs : List Bs
 es : List (V × V)
 fu : List (Nat × Nat)
 go : List Wi
 fns : List Fn
 bks : List Bk
 cls : List Cl
 u : Nat
def MS.row (X : MS) : List V := [X.nv, .int .i64 X.root, X.strsV, .nilSlice, .map X.mapb, X.fuV, X.dnV, X.goV, .int .i64 X.fe, .int .i64 X.fl]
def MS.A (X : MS) : List Asn := [Mid.row X.mb X.row, vc true X.strsV 9 1 (X.strs.map V.str), dict X.mapb X.es, vc true X.fuV 65 1 (ptrs X.fu), vc true X.dnV 65 1 (X.fns.map fun f => .ptr f.fb 0), vc true X.goV 68 6 (X.go.flatMap Wi.cs),
 ands (X.fns.map Fn.A), ands (X.bks.map Bk.A), ands (X.cls.map Cl.A)]
def MK (X : MS) : Asn := ands X.A
def In (n : Int) (l : List Int) : Prop := ∀ k ∈ l, 0 ≤ k ∧ k < n
structure SmIn (S : Mem) (sl : Int) (nes : Nat) (s : Sm) : Prop where
 ln : 1 ≤ s.ln
 nx : -1 ≤ s.nx
 el : -1 ≤ s.el
 vs : Ints S s.slV s.sl
 vt : Ints S s.tgV s.tg
 ve : Ints S s.exV s.ex
 is : In sl s.sl
 it : In nes s.tg
 ie : In nes s.ex
def NIn (nst nfn : Nat) (sl : Int) (nup : Nat) (kd n : Int) : Prop :=
 (kd = 5 ∨ kd = 10 ∨ kd = 13 → 0 ≤ n ∧ n < nst) ∧ (kd = 7 → 0 ≤ n ∧ n < nfn) ∧ (kd = 8 → 0 ≤ n ∧ n < sl) ∧ (kd = 9 → 0 ≤ n ∧ n < nup)
structure FnIn (S : Mem) (nst nfn : Nat) (f : Fn) : Prop where
 bo : (f.bo.length : Int) = f.sl
 va : f.va.length ≤ f.bo.length
 vm : f.va.length ≤ 120
 um : f.up.length ≤ 60
 ss : ∀ s ∈ f.ss, SmIn S f.sl f.es.length s
 es : ∀ (i : Nat) (e : Ex), f.es[i]? = some e → Ints S e.ksV e.ks ∧ In i e.ks ∧ NIn nst nfn f.sl f.up.length e.kd e.n
structure FnDone (f : Fn) : Prop where
 ss : ∀ s ∈ f.ss, s.nx < f.ss.length ∧ s.el < f.ss.length
 st : f.st = 0 ∨ f.st = -1 ∧ f.ss = []
structure WiIn (S : Mem) (X : MS) (w : Wi) : Prop where
 f : ∃ f, X.fns[w.f.1]? = some f ∧ f.fb = w.f.2 ∧ 0 ≤ w.st ∧ w.st < f.ss.length
 inn : (∀ p ∈ w.inn, ∃ b, X.bks[p.1]? = some b ∧ b.bb = p.2) ∧ w.inn.length ≤ 100000
 v : (w.inV = .nilSlice ∧ w.inn = []) ∨ ∃ b c g, w.inV = .slice b 0 w.inn.length c g ∧ ∀ i : Nat, i < w.inn.length → S b i = (ptrs w.inn)[i]?
structure Open (X : MS) (f : Fn) (fi : Nat) : Prop where
 all : ∀ p ∈ f.bl, ∃ b, X.bks[p.1]? = some b ∧ b.bb = p.2 ∧ 0 ≤ b.vars ∧ b.vars ≤ f.va.length ∧ ∀ c, b.lp = some c → ∃ l, X.cls[c.1]? = some l ∧ l.cb = c.2 ∧ l.own = fi
 ord : f.bl.Pairwise fun p q => ∀ b c, X.bks[p.1]? = some b → X.bks[q.1]? = some c → b.vars ≤ c.vars
structure MapIn (es : List (V × V)) (n : Nat) : Prop where
 e : ∀ p ∈ es, (∃ s, p.1 = .str s) ∧ ∃ k : Int, p.2 = .int .i64 k ∧ 0 ≤ k ∧ k < n
structure Inv1 (S : Mem) (X : MS) : Prop where
 fns : ∀ f ∈ X.fns, FnIn S X.strs.length X.fns.length f
 fu : ∀ p ∈ X.fu, ∃ f, X.fns[p.1]? = some f ∧ f.fb = p.2
 opn : ∀ p ∈ X.fu, ∀ f, X.fns[p.1]? = some f → Open X f p.1
 fin : ∀ (i : Nat) (f : Fn), X.fns[i]? = some f → (∀ p ∈ X.fu, p.1 ≠ i) → FnDone f ∧ (X.fe = 0 → f.pa ≤ f.sl)
 go : ∀ w ∈ X.go, WiIn S X w
 lbs : ∀ b ∈ X.bks, ∀ x ∈ b.lbs, 0 ≤ x.2.1
 cls : ∀ c ∈ X.cls, c.own < X.fns.length ∧ ∀ f, X.fns[c.own]? = some f → In f.ss.length c.l
 map : MapIn X.es X.strs.length
 fault : X.fe ≠ 0 ∨ X.fl = 0
 u : X.strs.length + X.fns.length + X.go.length + X.bks.length + X.cls.length ≤ X.u
 us : ∀ f ∈ X.fns, f.ss.length + f.es.length + f.bl.length ≤ X.u
 ub : ∀ b ∈ X.bks, b.lbs.length ≤ X.u
 uc : ∀ c ∈ X.cls, c.l.length ≤ X.u
 uf : X.fu.length ≤ X.u
 top : X.u ≤ 100000
end
section
variable {S S' S'' : Mem} {l F : List Asn} {h h0 : Hp} {ro : Bool} {Q : V → List Asn → Prop} {k : V → VH} {K : V → Hp → VH} {nds : List Nd} {n : Nd} {v nv : V} {X X' X'' : MS} {f f' : Fn} {i : Nat} {w : Nat → Nat} {b b' : Bk} {c c' : Cl} {wi : Wi}
theorem _root_.Go.Mid.Sat.close1 {a : Asn} {L l : List Asn} {g : Fg} (H : Sat (a :: (L ++ l)) g) : Sat (a :: ands L :: l) g := H.cons fun _ h => h.pack
theorem _root_.Go.Mid.Sat.open1 {a : Asn} {L l : List Asn} {g : Fg} (H : Sat (a :: ands L :: l) g) : Sat (a :: (L ++ l)) g := H.cons fun _ h => h.app
theorem openM (H : St (frz S :: MK X :: l) h) : St (frz S :: Mid.row X.mb X.row :: vc true X.strsV 9 1 (X.strs.map V.str) :: dict X.mapb X.es :: vc true X.fuV 65 1 (ptrs X.fu) :: vc true X.dnV 65 1 (X.fns.map fun f => .ptr f.fb 0) :: vc true X.goV 68 6 (X.go.flatMap Wi.cs) :: ands (X.fns.map Fn.A) :: ands (X.bks.map Bk.A) :: ands (X.cls.map Cl.A) :: l) h := ⟨H.wf, H.sat.open1⟩
theorem closeM (H : St (frz S :: Mid.row X.mb X.row :: vc true X.strsV 9 1 (X.strs.map V.str) :: dict X.mapb X.es :: vc true X.fuV 65 1 (ptrs X.fu) :: vc true X.dnV 65 1 (X.fns.map fun f => .ptr f.fb 0) :: vc true X.goV 68 6 (X.go.flatMap Wi.cs) :: ands (X.fns.map Fn.A) :: ands (X.bks.map Bk.A) :: ands (X.cls.map Cl.A) :: l) h) : St (frz S :: MK X :: l) h := ⟨H.wf, Sat.close1 (L := X.A) H.sat⟩
abbrev FnL (f : Fn) : List Asn := [Mid.row f.fb f.row, vc true f.boV 4 1 (f.bo.map V.bool), vc true f.upV 75 2 (f.up.flatMap upc), vc true f.stV 50 7 (f.ss.flatMap Sm.cs), vc true f.exV 53 3 (f.es.flatMap Ex.cs), vc true f.vaV 136 1 (f.va.map V.str), vc true f.blV 101 1 (ptrs f.bl)]
theorem openF (H : St (frz S :: MK X :: l) h) (hi : X.fns[i]? = some f) : St (Mid.row f.fb f.row :: vc true f.boV 4 1 (f.bo.map V.bool) :: vc true f.upV 75 2 (f.up.flatMap upc) :: vc true f.stV 50 7 (f.ss.flatMap Sm.cs) :: vc true f.exV 53 3 (f.es.flatMap Ex.cs) :: vc true f.vaV 136 1 (f.va.map V.str) :: vc true f.blV 101 1 (ptrs f.bl) ::
 frz S :: Mid.row X.mb X.row :: vc true X.strsV 9 1 (X.strs.map V.str) :: dict X.mapb X.es :: vc true X.fuV 65 1 (ptrs X.fu) :: vc true X.dnV 65 1 (X.fns.map fun f => .ptr f.fb 0) :: vc true X.goV 68 6 (X.go.flatMap Wi.cs) :: ands ((X.fns.map Fn.A).eraseIdx i) :: ands (X.bks.map Bk.A) :: ands (X.cls.map Cl.A) :: l) h := by
 have H1 := (openM H).u7
 have H2 := H1.pull (i := i) (A := f.A) (by rw [List.getElem?_map, hi]; rfl)
 have H3 := H2.u1
 have H4 : St (ands (FnL f) :: ands ((X.fns.map Fn.A).eraseIdx i) :: _) h := H2
 have H5 := H4.app
 exact St.perm H5 (by
  have : ∀ (A L : List Asn) (e a b c d x y z : Asn) (w : List Asn), (A ++ e :: a :: b :: c :: d :: x :: y :: z :: w).Perm (A ++ a :: b :: c :: d :: x :: y :: z :: e :: w) := fun A L e a b c d x y z w => List.Perm.append_left _ (List.perm_middle (a := e) (l₁ := [a, b, c, d, x, y, z]) (l₂ := w)).symm
  exact this (FnL f) [] _ _ _ _ _ _ _ _ _)
theorem fbs_set (hi : X.fns[i]? = some f) (hfb : f'.fb = f.fb) : (X.fns.set i f').map (fun f => V.ptr f.fb 0) = X.fns.map fun f => V.ptr f.fb 0 := by
 apply List.ext_getElem?
 intro j
 rw [List.getElem?_map, List.getElem?_map, List.getElem?_set]
 by_cases e : i = j
 ·subst e
  rw [if_pos rfl, if_pos (List.getElem?_eq_some_iff.1 hi).1, hi]
  simp [hfb]
 ·rw [if_neg e]
theorem closeF (hi : X.fns[i]? = some f) (hfb : f'.fb = f.fb) (H : St (Mid.row f'.fb f'.row :: vc true f'.boV 4 1 (f'.bo.map V.bool) :: vc true f'.upV 75 2 (f'.up.flatMap upc) :: vc true f'.stV 50 7 (f'.ss.flatMap Sm.cs) :: vc true f'.exV 53 3 (f'.es.flatMap Ex.cs) :: vc true f'.vaV 136 1 (f'.va.map V.str) :: vc true f'.blV 101 1 (ptrs f'.bl) ::
 frz S :: Mid.row X.mb X.row :: vc true X.strsV 9 1 (X.strs.map V.str) :: dict X.mapb X.es :: vc true X.fuV 65 1 (ptrs X.fu) :: vc true X.dnV 65 1 (X.fns.map fun f => .ptr f.fb 0) :: vc true X.goV 68 6 (X.go.flatMap Wi.cs) :: ands ((X.fns.map Fn.A).eraseIdx i) :: ands (X.bks.map Bk.A) :: ands (X.cls.map Cl.A) :: l) h) (u : Nat) :
 St (frz S :: MK { X with fns := X.fns.set i f', u := u } :: l) h := by
 have H1 : St (FnL f' ++ (frz S :: Mid.row X.mb X.row :: vc true X.strsV 9 1 (X.strs.map V.str) :: dict X.mapb X.es :: vc true X.fuV 65 1 (ptrs X.fu) :: vc true X.dnV 65 1 (X.fns.map fun f => .ptr f.fb 0) :: vc true X.goV 68 6 (X.go.flatMap Wi.cs) :: ands ((X.fns.map Fn.A).eraseIdx i) :: ands (X.bks.map Bk.A) :: ands (X.cls.map Cl.A) :: l)) h := H
 have H2 := H1.pack
 have H3 : St (f'.A :: ands ((X.fns.map Fn.A).eraseIdx i) :: frz S :: Mid.row X.mb X.row :: vc true X.strsV 9 1 (X.strs.map V.str) :: dict X.mapb X.es :: vc true X.fuV 65 1 (ptrs X.fu) :: vc true X.dnV 65 1 (X.fns.map fun f => .ptr f.fb 0) :: vc true X.goV 68 6 (X.go.flatMap Wi.cs) :: ands (X.bks.map Bk.A) :: ands (X.cls.map Cl.A) :: l) h := (H2.u8).u1
 have H4 := H3.push (A := f.A) (by rw [List.getElem?_map, hi]; rfl)
 rw [← List.map_set] at H4
 rw [← fbs_set hi hfb] at H4
 refine closeM (X := { X with fns := X.fns.set i f', u := u }) (St.perm H4 ?_)
 exact (List.perm_middle (a := ands ((X.fns.set i f').map Fn.A)) (l₁ := [frz S, Mid.row X.mb X.row, vc true X.strsV 9 1 (X.strs.map V.str), dict X.mapb X.es, vc true X.fuV 65 1 (ptrs X.fu), vc true X.dnV 65 1 ((X.fns.set i f').map fun f => .ptr f.fb 0), vc true X.goV 68 6 (X.go.flatMap Wi.cs)])).symm
theorem _root_.Go.Mid.Tri.cmp2 {d : IntKind} {a b a' b' : Int} (hK : ∀ c : Bool, (c = true ↔ a = a' ∧ b = b') → Tri h0 ro F Q (K (.bool c) h)) : Tri h0 ro F Q (bindS (vh h (eqOp .eql (cmpV [(0, .int d), (1, .int d)] (.agg [.int d a, .int d b]) (.agg [.int d a', .int d b'])))) K) := by
 have e : cmpV [(0, .int d), (1, .int d)] (.agg [.int d a, .int d b]) (.agg [.int d a', .int d b']) = some (decide (a = a') && decide (b = b')) := by
  simp only [cmpV, cmpL, getN, eqLeaf, kEq_self, iEq_eq, cond_true]
  by_cases h1 : a = a'
  ·by_cases h2 : b = b'
   ·simp [h1, h2]
   ·rw [show (a == a') = true by simp [h1], show (b == b') = false from beq_false_of_ne h2, decide_eq_true h1, decide_eq_false h2]; rfl
  ·rw [show (a == a') = false from beq_false_of_ne h1, decide_eq_false h1]; rfl
 rw [e]
 exact hK _ (by simp)
theorem ptrs_len (l : List (Nat × Nat)) : (ptrs l).length = l.length * 1 := by simp [ptrs]
theorem f106 {fu : List (Nat × Nat)} {p : Nat × Nat} (H : St (frz S :: MK X :: l) h) (hfu : X.fu = fu ++ [p]) (hu : X.fu.length ≤ 100000) : Tri h true l (fun v B => v = .ptr p.2 0 ∧ B = [frz S, MK X]) (M 106 [.ptr X.mb 0] h) := by
 refine t1 e106 fun L => ?_
 unfold B106
 replace H := openM H
 have hl : X.fu.length = fu.length + 1 := by rw [hfu]; simp
 apply Tri.nil
 apply Tri.addr
 refine Tri.load 1 H rfl rfl ?_
 apply Tri.nil
 apply Tri.addr
 refine Tri.load 1 H rfl rfl ?_
 apply bL
 refine Tri.lenV 4 X.fu.length H rfl (by decide) (ptrs_len _) ?_
 apply Tri.bs
 refine Tri.subN (by omega) (by omega) ?_
 refine Tri.idxV 4 H rfl (by omega) (by rw [ptrs_len]; omega) (by decide) fun b nn cc g hv _ => ?_
 refine Tri.loadV 4 (hv ▸ H) rfl (w := .ptr p.2 0) ?_ ?_
 ·rw [hl, hfu, show 0 + (((fu.length + 1 : Nat) : Int) - 1).toNat * 1 = fu.length by omega]
  simp [ptrs]
 ·skip
  exact Tri.done (B := [frz S, MK X]) ⟨rfl, rfl⟩ (closeM H) L
theorem sp54 {e ln : Int} (H : St (frz S :: MK X :: l) h) (he : e ≠ 0) (hf : X.fe ≠ 0 ∨ X.fl = 0) : Tri h false l (fun v B => v = .tuple [] ∧ ∃ fe fl, B = [frz S, MK { X with fe := fe, fl := fl }] ∧ fe ≠ 0) (M 54 [.ptr X.mb 0, .int .i64 e, .int .i64 ln] h) := by
 refine t3 e54 fun L => ?_
 unfold B54
 replace H := openM H
 apply Tri.nil
 apply Tri.addr
 refine ls 1 H rfl rfl ?_
 refine Tri.bldS rfl ?_
 refine Tri.cmp2 fun c hc => ?_
 cases c
 ·apply Tri.iff
  by_cases h1 : X.fe = 0
  ·exact absurd (hc.2 ⟨h1, hf.resolve_left fun h => h h1⟩) (by decide)
  ·exact Tri.done (B := [frz S, MK X]) ⟨rfl, X.fe, X.fl, rfl, h1⟩ (closeM H) L
 ·apply Tri.ift
  refine Tri.bldS rfl ?_
  apply Tri.nil
  apply Tri.addr
  refine Tri.stores 1 (by decide) H rfl rfl (Nat.le_of_ble_eq_true rfl) L (fun e => nomatch e) (by first | rfl | assumption) fun h H L => ?_
  exact Tri.done (B := [frz S, MK { X with fe := e, fl := ln }]) ⟨rfl, e, ln, rfl, he⟩ (closeM (X := { X with fe := e, fl := ln }) H) L
def MS.put (X : MS) (i : Nat) (f : Fn) : MS := { X with fns := X.fns.set i f, u := X.u + 1 }
structure Top (X : MS) (p : Nat × Nat) (f : Fn) : Prop where
 fu : ∃ fu, X.fu = fu ++ [p]
 at_ : X.fns[p.1]? = some f
 fb : f.fb = p.2
 uf : X.fu.length ≤ 100000
 us : f.ss.length ≤ 100000 ∧ f.es.length ≤ 100000 ∧ f.bl.length ≤ 100000
theorem es_len (l : List Ex) : (l.flatMap Ex.cs).length = l.length * 3 := by
 induction l with
 | nil => rfl
 | cons a l ih => rw [List.flatMap_cons, List.length_append, ih, List.length_cons]; simp [Ex.cs]; omega
theorem ss_len (l : List Sm) : (l.flatMap Sm.cs).length = l.length * 7 := by
 induction l with
 | nil => rfl
 | cons a l ih => rw [List.flatMap_cons, List.length_append, ih, List.length_cons]; simp [Sm.cs]; omega
theorem top106 {p : Nat × Nat} (T : Top X p f) (H : St (frz S :: MK X :: l) h) : Tri h true l (fun v B => v = .ptr f.fb 0 ∧ B = [frz S, MK X]) (M 106 [.ptr X.mb 0] h) := by
 obtain ⟨fu, hfu⟩ := T.fu
 rw [T.fb]
 exact f106 H hfu T.uf
theorem sp180 {p : Nat × Nat} (T : Top X p f) (H : St (frz S :: MK X :: l) h) : Tri h true l (fun v B => v = .int .i64 (f.ss.length : Nat) ∧ B = [frz S, MK X]) (M 180 [.ptr X.mb 0] h) := by
 refine t1 e180 fun L => ?_
 unfold B180
 refine tb (top106 T H) L fun v h B hq H L => ?_
 obtain ⟨rfl, rfl⟩ := hq
 replace H := openF H T.at_
 apply Tri.nil
 apply Tri.addr
 apply Tri.addr
 refine Tri.load 0 H rfl rfl ?_
 apply bL
 refine Tri.lenV 3 f.ss.length H rfl (by decide) (ss_len _) ?_
 apply Tri.bs
 exact Tri.done (B := [frz S, MK X]) ⟨rfl, rfl⟩ (by
  have := closeF T.at_ rfl H X.u
  rw [show X.fns.set p.1 f = X.fns from by
   apply List.ext_getElem?; intro j; rw [List.getElem?_set]; by_cases e : p.1 = j
   ·subst e; rw [if_pos rfl, if_pos (List.getElem?_eq_some_iff.1 T.at_).1, T.at_]
   ·rw [if_neg e]] at this
  exact this) L
theorem sp292 {p : Nat × Nat} {e : Ex} (T : Top X p f) (H : St (frz S :: MK X :: l) h) (he : Ints S e.ksV e.ks) :
 Tri h false l (fun v B => ∃ exV, v = .int .i64 (f.es.length : Nat) ∧ B = [frz S, MK (X.put p.1 { f with exV := exV, es := f.es ++ [e] })]) (M 292 [.ptr X.mb 0, .agg [.int .u8 e.kd, .int .i64 e.n, e.ksV]] h) := by
 refine t2 e292 fun L => ?_
 unfold B292
 have h1 : allOne e.cs = true := by
  rcases he with ⟨h, _⟩ | ⟨b, c, g, h, _⟩ <;> simp only [Ex.cs, h] <;> rfl
 refine Tri.newS H L fun b0 h hb0 H L => ?_
 replace H := H.d2
 refine tb1 (top106 T H) L fun v h B hq H L => ?_
 obtain ⟨rfl, rfl⟩ := hq
 replace H := openF H T.at_
 apply Tri.nil
 apply Tri.addr
 apply Tri.addr
 refine Tri.load 0 H rfl rfl ?_
 refine ls 17 H rfl rfl ?_
 refine Tri.drawBld H L (fun _ => rfl) rfl fun b15 h hb15 H L => ?_
 have hu := T.us
 refine Tri.drawApp 5 f.es.length 1 H rfl (H.newCells (i := 0) rfl rfl) (by decide) (es_len _) rfl (by omega) (by omega) h1 L (Own.off _ _) fun v' h H L O o1 => ?_
 replace H := H.tl
 have e1 : (f.es.flatMap Ex.cs ++ (V.int .u8 e.kd :: V.int .i64 e.n :: e.ksV :: [].append [])) = (f.es ++ [e]).flatMap Ex.cs := by rw [List.flatMap_append]; rfl
 rw [e1] at H
 apply Tri.nil
 apply Tri.addr
 apply Tri.addr
 refine sto 0 H rfl rfl L (by first | rfl | assumption) fun h H L => ?_
 apply Tri.nil
 apply Tri.addr
 apply Tri.addr
 refine Tri.load 0 H rfl rfl ?_
 apply bL
 refine Tri.lenV 4 (f.es.length + 1) H rfl (by decide) (by rw [es_len]; simp) ?_
 apply Tri.bs
 refine Tri.subN (by omega) (by omega) ?_
 rw [show ((f.es.length + 1 : Nat) : Int) - 1 = (f.es.length : Nat) by omega]
 exact Tri.done (B := [frz S, MK (X.put p.1 { f with exV := v', es := f.es ++ [e] })]) ⟨v', rfl, rfl⟩ (closeF (f' := { f with exV := v', es := f.es ++ [e] }) T.at_ rfl H (X.u + 1)).x2 L
theorem sp184 {p : Nat × Nat} {s : Sm} (T : Top X p f) (H : St (frz S :: MK X :: l) h) (h1 : allOne s.cs = true) :
 Tri h false l (fun v B => ∃ stV, v = .int .i64 (f.ss.length : Nat) ∧ B = [frz S, MK (X.put p.1 { f with stV := stV, ss := f.ss ++ [{ s with nx := f.ss.length + 1 }] })]) (M 184 [.ptr X.mb 0, .agg s.cs] h) := by
 refine t2 e184 fun L => ?_
 unfold B184
 refine Tri.newS H L fun b0 h hb0 H L => ?_
 replace H := H.d2
 refine tb1 (top106 T H) L fun v h B hq H L => ?_
 obtain ⟨rfl, rfl⟩ := hq
 have hu := T.us
 replace H := openF H T.at_
 apply Tri.nil
 apply Tri.addr
 apply Tri.addr
 refine Tri.load 0 H rfl rfl ?_
 apply bL
 refine Tri.lenV 3 f.ss.length H rfl (by decide) (ss_len _) ?_
 apply Tri.bs
 refine Tri.addN (by omega) (by omega) ?_
 apply Tri.addr
 refine sto 17 H rfl rfl L (by first | rfl | assumption) fun h H L => ?_
 apply Tri.nil
 apply Tri.addr
 apply Tri.addr
 refine Tri.load 0 H rfl rfl ?_
 refine ls 17 H rfl rfl ?_
 refine Tri.drawBld H L (fun _ => rfl) rfl fun b29 h hb29 H L => ?_
 have e2 : allOne ({ s with nx := f.ss.length + 1 } : Sm).cs = true := h1
 refine Tri.drawApp 4 f.ss.length 1 H rfl (H.newCells (i := 0) rfl rfl) (by decide) (ss_len _) rfl (by omega) (by omega) e2 L (Own.off _ _) fun v' h H L O o1 => ?_
 replace H := H.tl
 have e1 : (f.ss.flatMap Sm.cs ++ ({ s with nx := f.ss.length + 1 } : Sm).cs) = (f.ss ++ [{ s with nx := f.ss.length + 1 }]).flatMap Sm.cs := by rw [List.flatMap_append]; simp
 replace H : St (_ :: _ :: _ :: vc true v' 50 7 (f.ss.flatMap Sm.cs ++ ({ s with nx := f.ss.length + 1 } : Sm).cs) :: _) _ := H
 rw [e1] at H
 apply Tri.nil
 apply Tri.addr
 apply Tri.addr
 refine sto 0 H rfl rfl L (by first | rfl | assumption) fun h H L => ?_
 apply Tri.nil
 apply Tri.addr
 apply Tri.addr
 refine Tri.load 0 H rfl rfl ?_
 apply bL
 refine Tri.lenV 3 (f.ss.length + 1) H rfl (by decide) (by rw [ss_len]; simp) ?_
 apply Tri.bs
 refine Tri.subN (by omega) (by omega) ?_
 rw [show ((f.ss.length + 1 : Nat) : Int) - 1 = (f.ss.length : Nat) by omega]
 exact Tri.done (B := [frz S, MK (X.put p.1 { f with stV := v', ss := f.ss ++ [{ s with nx := f.ss.length + 1 }] })]) ⟨v', rfl, rfl⟩ (closeF (f' := { f with stV := v', ss := f.ss ++ [{ s with nx := f.ss.length + 1 }] }) T.at_ rfl H (X.u + 1)).x2 L
theorem set_self {α : Type} {l : List α} {i : Nat} {a : α} (h : l[i]? = some a) : l.set i a = l := by
 apply List.ext_getElem?; intro j; rw [List.getElem?_set]; by_cases e : i = j
 ·subst e; rw [if_pos rfl, if_pos (List.getElem?_eq_some_iff.1 h).1, h]
 ·rw [if_neg e]
theorem closeF0 (hi : X.fns[i]? = some f) (H : St (Mid.row f.fb f.row :: vc true f.boV 4 1 (f.bo.map V.bool) :: vc true f.upV 75 2 (f.up.flatMap upc) :: vc true f.stV 50 7 (f.ss.flatMap Sm.cs) :: vc true f.exV 53 3 (f.es.flatMap Ex.cs) :: vc true f.vaV 136 1 (f.va.map V.str) :: vc true f.blV 101 1 (ptrs f.bl) ::
 frz S :: Mid.row X.mb X.row :: vc true X.strsV 9 1 (X.strs.map V.str) :: dict X.mapb X.es :: vc true X.fuV 65 1 (ptrs X.fu) :: vc true X.dnV 65 1 (X.fns.map fun f => .ptr f.fb 0) :: vc true X.goV 68 6 (X.go.flatMap Wi.cs) :: ands ((X.fns.map Fn.A).eraseIdx i) :: ands (X.bks.map Bk.A) :: ands (X.cls.map Cl.A) :: l) h) : St (frz S :: MK X :: l) h := by
 have := closeF hi rfl H X.u
 rw [set_self hi] at this
 exact this
theorem sp190 {p : Nat × Nat} {j : Int} (T : Top X p f) (H : St (frz S :: MK X :: l) h) (h1 : 0 ≤ j) (h2 : j < (f.ss.length : Int)) :
 Tri h true l (fun v B => ∃ b n c g, f.stV = .slice b 0 n c g ∧ v = .ptr b (0 + j.toNat * 7) ∧ B = [frz S, MK X]) (M 190 [.ptr X.mb 0, .int .i64 j] h) := by
 refine t2 e190 fun L => ?_
 unfold B190
 refine tb (top106 T H) L fun v h B hq H L => ?_
 obtain ⟨rfl, rfl⟩ := hq
 replace H := openF H T.at_
 apply Tri.nil
 apply Tri.addr
 apply Tri.addr
 refine Tri.load 0 H rfl rfl ?_
 refine Tri.idxV 3 H rfl h1 (by rw [ss_len]; omega) (by decide) fun b nn cc g hv _ => ?_
 skip
 exact Tri.done (B := [frz S, MK X]) ⟨b, nn, cc, g, hv, rfl, rfl⟩ (closeF0 T.at_ H) L
structure FExt (f f' : Fn) : Prop where
 fb : f'.fb = f.fb
 bl : f'.bl = f.bl
 ps : (f'.pa, f'.st) = (f.pa, f.st)
 es : f.es.length ≤ f'.es.length
 ss : f.ss.length ≤ f'.ss.length
 sl : f.sl ≤ f'.sl
 up : f.up.length ≤ f'.up.length
 va : f.va.length ≤ f'.va.length
theorem FExt.pa {f f' : Fn} (h : FExt f f') : f'.pa = f.pa := (Prod.mk.inj h.ps).1
theorem FExt.st {f f' : Fn} (h : FExt f f') : f'.st = f.st := (Prod.mk.inj h.ps).2
theorem FExt.refl (f : Fn) : FExt f f := ⟨rfl, rfl, rfl, Nat.le_refl _, Nat.le_refl _, Int.le_refl _, Nat.le_refl _, Nat.le_refl _⟩
theorem FExt.trans {f g k : Fn} (a : FExt f g) (b : FExt g k) : FExt f k := ⟨b.fb.trans a.fb, b.bl.trans a.bl, b.ps.trans a.ps, Nat.le_trans a.es b.es, Nat.le_trans a.ss b.ss, Int.le_trans a.sl b.sl, Nat.le_trans a.up b.up, Nat.le_trans a.va b.va⟩
structure Ext1 (S : Mem) (X : MS) (S' : Mem) (X' : MS) : Prop where
 le : Le S S'
 fe : X'.fe = 0 → X.fe = 0
 mb : X'.mb = X.mb
 nv : X'.nv = X.nv
 fu : X'.fu = X.fu
 fns : ∀ (i : Nat) (f : Fn), X.fns[i]? = some f → ∃ f', X'.fns[i]? = some f' ∧ FExt f f'
 nst : X.strs.length ≤ X'.strs.length
 bks : ∀ (i : Nat) (b : Bk), X.bks[i]? = some b → ∃ b', X'.bks[i]? = some b' ∧ b'.bb = b.bb ∧ b'.vars = b.vars ∧ b'.lp = b.lp
 cls : ∀ (i : Nat) (c : Cl), X.cls[i]? = some c → ∃ c', X'.cls[i]? = some c' ∧ c'.cb = c.cb ∧ c'.own = c.own
 u : X.u ≤ X'.u
theorem len_of {α : Type} {l l' : List α} (h : ∀ (i : Nat) (a : α), l[i]? = some a → ∃ b, l'[i]? = some b) : l.length ≤ l'.length := by
 rcases Nat.lt_or_ge l'.length l.length with h1 | h1
 ·obtain ⟨b, hb⟩ := h l'.length _ (List.getElem?_eq_getElem h1)
  rw [List.getElem?_eq_none (Nat.le_refl _)] at hb; cases hb
 ·exact h1
theorem Ext1.nfn (e : Ext1 S X S' X') : X.fns.length ≤ X'.fns.length := len_of fun i a h => let ⟨b, hb, _⟩ := e.fns i a h; ⟨b, hb⟩
theorem Ext1.refl (S : Mem) (X : MS) : Ext1 S X S X := ⟨Le.refl _, fun e => e, rfl, rfl, rfl, fun i f h => ⟨f, h, FExt.refl f⟩, Nat.le_refl _, fun i b h => ⟨b, h, rfl, rfl, rfl⟩, fun i c h => ⟨c, h, rfl, rfl⟩, Nat.le_refl _⟩
theorem Ext1.trans (a : Ext1 S X S' X') (b : Ext1 S' X' S'' X'') : Ext1 S X S'' X'' := by
 refine ⟨a.le.trans b.le, fun e => a.fe (b.fe e), b.mb.trans a.mb, b.nv.trans a.nv, b.fu.trans a.fu, fun i f h => ?_, Nat.le_trans a.nst b.nst, fun i x h => ?_, fun i x h => ?_, Nat.le_trans a.u b.u⟩
 ·obtain ⟨f1, h1, e1⟩ := a.fns i f h
  obtain ⟨f2, h2, e2⟩ := b.fns i f1 h1
  exact ⟨f2, h2, e1.trans e2⟩
 ·obtain ⟨f1, h1, e1, e2, e3⟩ := a.bks i x h
  obtain ⟨f2, h2, d1, d2, d3⟩ := b.bks i f1 h1
  exact ⟨f2, h2, d1.trans e1, d2.trans e2, d3.trans e3⟩
 ·obtain ⟨f1, h1, e1, e2⟩ := a.cls i x h
  obtain ⟨f2, h2, d1, d2⟩ := b.cls i f1 h1
  exact ⟨f2, h2, d1.trans e1, d2.trans e2⟩
theorem Ext1.leS (h : Le S S') : Ext1 S X S' X := { Ext1.refl S X with le := h }
theorem In.mono {m n : Int} {l : List Int} (h : In m l) (hm : m ≤ n) : In n l := fun k hk => ⟨(h k hk).1, Int.lt_of_lt_of_le (h k hk).2 hm⟩
theorem SmIn.mono {sl sl' : Int} {n n' : Nat} {s : Sm} (h : SmIn S sl n s) (hS : Le S S') (h1 : sl ≤ sl') (h2 : n ≤ n') : SmIn S' sl' n' s :=
 ⟨h.ln, h.nx, h.el, h.vs.le hS, h.vt.le hS, h.ve.le hS, h.is.mono h1, h.it.mono (by omega), h.ie.mono (by omega)⟩
theorem NIn.mono {a b c a' b' c' : Nat} {sl sl' kd n : Int} (h : NIn a b sl c kd n) (h1 : a ≤ a') (h2 : b ≤ b') (h3 : sl ≤ sl') (h4 : c ≤ c') : NIn a' b' sl' c' kd n :=
 ⟨fun e => by have := h.1 e; omega, fun e => by have := h.2.1 e; omega, fun e => by have := h.2.2.1 e; omega, fun e => by have := h.2.2.2 e; omega⟩
theorem FnIn.mono {a b a' b' : Nat} (h : FnIn S a b f) (hS : Le S S') (h1 : a ≤ a') (h2 : b ≤ b') : FnIn S' a' b' f :=
 ⟨h.bo, h.va, h.vm, h.um, fun s hs => (h.ss s hs).mono hS (Int.le_refl _) (Nat.le_refl _), fun i e he => ⟨(h.es i e he).1.le hS, (h.es i e he).2.1, (h.es i e he).2.2.mono h1 h2 (Int.le_refl _) (Nat.le_refl _)⟩⟩
theorem WiIn.ext {w : Wi} (h : WiIn S X w) (e : Ext1 S X S' X') : WiIn S' X' w := by
 refine ⟨?_, ⟨fun p hp => ?_, h.inn.2⟩, ?_⟩
 ·obtain ⟨f, h1, h2, h3, h4⟩ := h.f
  obtain ⟨f', g1, g2⟩ := e.fns _ f h1
  exact ⟨f', g1, by rw [g2.fb, h2], h3, by have := g2.ss; omega⟩
 ·obtain ⟨b, h1, h2⟩ := h.inn.1 p hp
  obtain ⟨b', g1, g2, _⟩ := e.bks _ b h1
  exact ⟨b', g1, by rw [g2, h2]⟩
 ·rcases h.v with h | ⟨b, c, g, h1, h2⟩
  ·exact .inl h
  ·refine .inr ⟨b, c, g, h1, fun i hi => ?_⟩
   have h3 := h2 i hi
   have h4 : (ptrs w.inn)[i]? = some (.ptr (w.inn[i]).2 0) := by unfold ptrs; rw [List.getElem?_map, List.getElem?_eq_getElem hi]; rfl
   rw [h4] at h3 ⊢; exact e.le _ _ _ h3
theorem Open.ext {fi : Nat} (h : Open X f fi) (e : Ext1 S X S' X') (hf : FExt f f') : Open X' f' fi := by
 refine ⟨fun p hp => ?_, ?_⟩
 rotate_left
 ·rw [hf.bl]
  refine (h.ord.imp_of_mem fun {p q} hp hq hh b c hb hc => ?_)
  obtain ⟨b1, h1, _⟩ := h.all p hp
  obtain ⟨c1, h2, _⟩ := h.all q hq
  obtain ⟨b2, g1, _, g3, _⟩ := e.bks _ b1 h1
  obtain ⟨c2, k1, _, k3, _⟩ := e.bks _ c1 h2
  rw [g1] at hb; rw [k1] at hc; cases hb; cases hc
  rw [g3, k3]; exact hh _ _ h1 h2
 rw [hf.bl] at hp
 obtain ⟨b, h1, h2, h3, h4, h5⟩ := h.all p hp
 obtain ⟨b', g1, g2, g3, g4⟩ := e.bks _ b h1
 refine ⟨b', g1, by rw [g2, h2], by rw [g3]; exact h3, by rw [g3]; have := hf.va; omega, fun c hc => ?_⟩
 rw [g4] at hc
 obtain ⟨l, k1, k2, k3⟩ := h5 c hc
 obtain ⟨l', m1, m2, m3⟩ := e.cls _ l k1
 exact ⟨l', m1, by rw [m2, k2], by rw [m3, k3]⟩
theorem mem_set {α : Type} {l : List α} {i : Nat} {a b : α} (h : b ∈ l.set i a) : b = a ∨ b ∈ l := by
 rcases List.mem_or_eq_of_mem_set h with h | h
 ·exact .inr h
 ·exact .inl h
theorem Inv1.putU (u : Nat) (hle : X.u ≤ u) (I : Inv1 S X) (hi : X.fns[i]? = some f) (hf : FnIn S X.strs.length X.fns.length f') (hx : FExt f f') (hd : (∀ p ∈ X.fu, p.1 ≠ i) → FnDone f') (hu : f'.ss.length + f'.es.length + f'.bl.length ≤ u) (ht : u ≤ 100000) :
 Inv1 S { X with fns := X.fns.set i f', u := u } ∧ Ext1 S X S { X with fns := X.fns.set i f', u := u } := by
 obtain ⟨hlt, _⟩ := List.getElem?_eq_some_iff.1 hi
 have hat : ∀ j g, (X.fns.set i f')[j]? = some g → (j = i ∧ g = f') ∨ (j ≠ i ∧ X.fns[j]? = some g) := fun j g h => by
  rw [List.getElem?_set] at h
  by_cases e : i = j
  ·subst e; rw [if_pos rfl, if_pos hlt] at h; exact .inl ⟨rfl, (Option.some.inj h).symm⟩
  ·rw [if_neg e] at h; exact .inr ⟨Ne.symm e, h⟩
 have E : Ext1 S X S { X with fns := X.fns.set i f', u := u } := by
  refine ⟨Le.refl _, fun e => e, rfl, rfl, rfl, fun j g h => ?_, Nat.le_refl _, fun i b h => ⟨b, h, rfl, rfl, rfl⟩, fun i c h => ⟨c, h, rfl, rfl⟩, hle⟩
  show ∃ f'_1, (X.fns.set i f')[j]? = some f'_1 ∧ _
  by_cases e : i = j
  ·subst e; rw [hi] at h; cases h
   exact ⟨f', List.getElem?_set_self hlt, hx⟩
  ·exact ⟨g, by rw [List.getElem?_set_ne e]; exact h, FExt.refl g⟩
 refine ⟨?_, E⟩
 have hlen : ({ X with fns := X.fns.set i f', u := u } : MS).fns.length = X.fns.length := List.length_set
 refine ⟨fun g hg => ?_, fun p hp => ?_, fun p hp g hg => ?_, fun j g hg hp => ?_, fun w hw => (I.go w hw).ext E, I.lbs, fun c hc => ⟨by rw [hlen]; exact (I.cls c hc).1, fun g hg => ?_⟩, I.map, I.fault, ?_, fun g hg => ?_, fun b hb => Nat.le_trans (I.ub b hb) hle, fun c hc => Nat.le_trans (I.uc c hc) hle, Nat.le_trans I.uf hle, ht⟩
 ·rw [hlen]
  rcases mem_set hg with h | h
  ·subst h; exact hf
  ·exact I.fns g h
 ·obtain ⟨g, h1, h2⟩ := I.fu p hp
  obtain ⟨g', h3, h4⟩ := E.fns _ g h1
  exact ⟨g', h3, by rw [h4.fb, h2]⟩
 ·obtain ⟨g0, h1, h2⟩ := I.fu p hp
  obtain ⟨g', h3, h4⟩ := E.fns _ g0 h1
  rw [show (X.fns.set i f')[p.1]? = some g from hg] at h3; cases h3
  exact (I.opn p hp g0 h1).ext E h4
 ·rcases hat j g hg with ⟨e1, e2⟩ | ⟨e1, e2⟩
  ·subst e1; subst e2; exact ⟨hd hp, fun e => by have := (I.fin _ f hi hp).2 e; have := hx.pa; have := hx.sl; omega⟩
  ·exact I.fin j g e2 hp
 ·rcases hat c.own g hg with ⟨e1, e2⟩ | ⟨e1, e2⟩
  ·subst e2
   exact ((I.cls c hc).2 f (by rw [e1]; exact hi)).mono (by have := hx.ss; omega)
  ·exact (I.cls c hc).2 g e2
 ·have := I.u
  rw [hlen]
  show X.strs.length + X.fns.length + X.go.length + X.bks.length + X.cls.length ≤ u
  omega
 ·rcases mem_set hg with h | h
  ·subst h; exact hu
  ·exact Nat.le_trans (I.us g h) hle
theorem Inv1.put (I : Inv1 S X) (hi : X.fns[i]? = some f) (hf : FnIn S X.strs.length X.fns.length f') (hx : FExt f f') (hd : (∀ p ∈ X.fu, p.1 ≠ i) → FnDone f') (hu : f'.ss.length + f'.es.length + f'.bl.length ≤ X.u + 1) (ht : X.u + 1 ≤ 100000) :
 Inv1 S (X.put i f') ∧ Ext1 S X S (X.put i f') := I.putU (X.u + 1) (Nat.le_succ _) hi hf hx hd hu ht
theorem Inv1.leS (I : Inv1 S X) (h : Le S S') : Inv1 S' X :=
 { I with fns := fun f hf => (I.fns f hf).mono h (Nat.le_refl _) (Nat.le_refl _), go := fun w hw => (I.go w hw).ext (Ext1.leS h) }
theorem Inv1.strs {strsV : V} {es : List (V × V)} {s : Bs} (I : Inv1 S X) (hm : MapIn es (X.strs.length + 1)) (ht : X.u + 1 ≤ 100000) :
 Inv1 S { X with strsV := strsV, strs := X.strs ++ [s], es := es, u := X.u + 1 } ∧ Ext1 S X S { X with strsV := strsV, strs := X.strs ++ [s], es := es, u := X.u + 1 } := by
 have hl : (X.strs ++ [s]).length = X.strs.length + 1 := by simp
 refine ⟨⟨fun f hf => (I.fns f hf).mono (Le.refl _) (by rw [hl]; omega) (Nat.le_refl _), I.fu, fun p hp f hf => ⟨(I.opn p hp f hf).all, (I.opn p hp f hf).ord⟩, I.fin, fun w hw => ⟨(I.go w hw).f, (I.go w hw).inn, (I.go w hw).v⟩, I.lbs, I.cls, by rw [hl]; exact hm, I.fault, ?_, fun f hf => Nat.le_succ_of_le (I.us f hf), fun b hb => Nat.le_succ_of_le (I.ub b hb), fun c hc => Nat.le_succ_of_le (I.uc c hc), Nat.le_succ_of_le I.uf, ht⟩, ?_⟩
 ·have := I.u
  show (X.strs ++ [s]).length + X.fns.length + X.go.length + X.bks.length + X.cls.length ≤ X.u + 1
  rw [hl]; omega
 ·exact ⟨Le.refl _, fun e => e, rfl, rfl, rfl, fun i f h => ⟨f, h, FExt.refl f⟩, by rw [hl]; omega, fun i b h => ⟨b, h, rfl, rfl, rfl⟩, fun i c h => ⟨c, h, rfl, rfl⟩, Nat.le_succ _⟩
theorem Inv1.flt {fe fl : Int} (I : Inv1 S X) (h : fe ≠ 0) : Inv1 S { X with fe := fe, fl := fl } ∧ Ext1 S X S { X with fe := fe, fl := fl } :=
 ⟨⟨I.fns, I.fu, fun p hp f hf => ⟨(I.opn p hp f hf).all, (I.opn p hp f hf).ord⟩, fun i f hf hp => ⟨(I.fin i f hf hp).1, fun e => absurd e h⟩, fun w hw => ⟨(I.go w hw).f, (I.go w hw).inn, (I.go w hw).v⟩, I.lbs, I.cls, I.map, .inl h, I.u, I.us, I.ub, I.uc, I.uf, I.top⟩,
  ⟨Le.refl _, fun e => absurd e h, rfl, rfl, rfl, fun i f h => ⟨f, h, FExt.refl f⟩, Nat.le_refl _, fun i b h => ⟨b, h, rfl, rfl, rfl⟩, fun i c h => ⟨c, h, rfl, rfl⟩, Nat.le_refl _⟩⟩
theorem Inv1.top_ {p : Nat × Nat} (I : Inv1 S X) (hp : ∃ fu, X.fu = fu ++ [p]) : ∃ f, Top X p f := by
 obtain ⟨fu, hfu⟩ := hp
 obtain ⟨f, h1, h2⟩ := I.fu p (by rw [hfu]; simp)
 have h3 := I.us f (List.mem_of_getElem? h1)
 have h4 := I.top
 have h5 := I.uf
 exact ⟨f, ⟨fu, hfu⟩, h1, h2, by omega, by omega, by omega, by omega⟩
theorem closeF1 {a : Asn} (hi : X.fns[i]? = some f) (hfb : f'.fb = f.fb) (H : St (a :: Mid.row f'.fb f'.row :: vc true f'.boV 4 1 (f'.bo.map V.bool) :: vc true f'.upV 75 2 (f'.up.flatMap upc) :: vc true f'.stV 50 7 (f'.ss.flatMap Sm.cs) :: vc true f'.exV 53 3 (f'.es.flatMap Ex.cs) :: vc true f'.vaV 136 1 (f'.va.map V.str) :: vc true f'.blV 101 1 (ptrs f'.bl) ::
 frz S :: Mid.row X.mb X.row :: vc true X.strsV 9 1 (X.strs.map V.str) :: dict X.mapb X.es :: vc true X.fuV 65 1 (ptrs X.fu) :: vc true X.dnV 65 1 (X.fns.map fun f => .ptr f.fb 0) :: vc true X.goV 68 6 (X.go.flatMap Wi.cs) :: ands ((X.fns.map Fn.A).eraseIdx i) :: ands (X.bks.map Bk.A) :: ands (X.cls.map Cl.A) :: l) h) (u : Nat) :
 St (frz S :: MK { X with fns := X.fns.set i f', u := u } :: a :: l) h :=
 closeF hi hfb (l := a :: l) (H.ins 17) u
theorem addBk {bb : Nat} {vars : Int} {lp : Option (Nat × Nat)} (H : St (frz S :: MK X :: row bb [.nilSlice, .int .i64 vars, lpV lp] :: l) h) : St (frz S :: MK { X with bks := X.bks ++ [⟨bb, .nilSlice, vars, lp, []⟩] } :: l) h := by
 have H1 := (openM H).out 10
 have H3 := (H1.vc_new true 103 3).u1
 have H4 : St ([row bb [.nilSlice, .int .i64 vars, lpV lp], vc true .nilSlice 103 3 []] ++ _) h := H3
 have H5 := H4.pack
 have H6 : St ((⟨bb, .nilSlice, vars, lp, []⟩ : Bk).A :: _) h := H5
 have H7 := (H6.out 9).u1
 have H8 : St (_ :: ands (X.bks.map Bk.A) :: _) h := H7
 have H9 := H8.snoc.ins 8
 refine closeM (X := { X with bks := X.bks ++ [⟨bb, .nilSlice, vars, lp, []⟩] }) ?_
 rw [List.map_append]
 exact H9
theorem addCl {cb own : Nat} (H : St (frz S :: MK X :: row cb [.nilSlice] :: l) h) : St (frz S :: MK { X with cls := X.cls ++ [⟨cb, .nilSlice, own, []⟩] } :: l) h := by
 have H1 := (openM H).out 10
 have H3 := (H1.vc_new true 3 1).u1
 have H4 : St ([row cb [.nilSlice], vc true .nilSlice 3 1 []] ++ _) h := H3
 have H5 := H4.pack
 have H6 : St ((⟨cb, .nilSlice, own, []⟩ : Cl).A :: _) h := H5
 have H7 := (H6.out 10).u1
 have H8 : St (_ :: ands (X.cls.map Cl.A) :: _) h := H7
 have H9 := H8.snoc.ins 9
 refine closeM (X := { X with cls := X.cls ++ [⟨cb, .nilSlice, own, []⟩] }) ?_
 rw [List.map_append]
 exact H9
def MS.opened (X : MS) (i : Nat) (f : Fn) (bb : Nat) (lp : Option (Nat × Nat)) (blV : V) : MS :=
 { X with fns := X.fns.set i { f with blV := blV, bl := f.bl ++ [(X.bks.length, bb)] }, bks := X.bks ++ [⟨bb, .nilSlice, f.va.length, lp, []⟩], u := X.u + 1 }
theorem sp108 {p : Nat × Nat} {lp : Option (Nat × Nat)} (T : Top X p f) (H : St (frz S :: MK X :: l) h) :
 Tri h false l (fun v B => ∃ bb blV, v = .tuple [] ∧ B = [frz S, MK (X.opened p.1 f bb lp blV)]) (M 108 [.ptr X.mb 0, lpV lp] h) := by
 refine t2 e108 fun L => ?_
 unfold B108
 refine tb1 (top106 T H) L fun v h B hq H L => ?_
 obtain ⟨rfl, rfl⟩ := hq
 have hu := T.us
 replace H := openF H T.at_
 have h1 : allOne [.nilSlice, .int .i64 0, lpV lp] = true := by cases lp <;> rfl
 apply Tri.nil
 apply Tri.addr
 refine Tri.load 0 H rfl rfl ?_
 apply Tri.nil
 apply Tri.addr
 refine Tri.load 0 H rfl rfl ?_
 apply bL
 refine Tri.lenV 5 f.va.length H rfl (by decide) (by simp) ?_
 apply Tri.bs
 refine Tri.bldS (w := .agg [.nilSlice, .int .i64 (f.va.length : Nat), lpV lp]) (by cases lp <;> rfl) ?_
 refine Tri.drawNew H L fun b30 h hb30 H L => ?_
 refine Tri.drawBld H L (fun _ => rfl) rfl fun b31 h hb31 H L => ?_
 refine Tri.drawApp 8 f.bl.length 1 H rfl (H.newCells (i := 0) rfl rfl) (by decide) (ptrs_len _) rfl (by omega) (by omega) rfl L (Own.off _ _) fun v' h H L O o1 => ?_
 replace H := H.tl
 apply Tri.nil
 apply Tri.addr
 refine sto 1 H rfl rfl L (by first | rfl | assumption) fun h H L => ?_
 have e1 : ptrs f.bl ++ (V.ptr b30 0 :: [].append []) = ptrs (f.bl ++ [(X.bks.length, b30)]) := by unfold ptrs; rw [List.map_append]; rfl
 replace H : St (_ :: _ :: _ :: _ :: _ :: _ :: _ :: vc true v' 101 1 (ptrs f.bl ++ (V.ptr b30 0 :: [].append [])) :: _) _ := H
 rw [e1] at H
 have H2 := closeF1 (f' := { f with blV := v', bl := f.bl ++ [(X.bks.length, b30)] }) T.at_ rfl H (X.u + 1)
 exact Tri.done (B := [frz S, MK (X.opened p.1 f b30 lp v')]) ⟨b30, v', rfl, rfl⟩ (addBk H2) L
theorem Inv1.opened {p : Nat × Nat} {bb : Nat} {lp : Option (Nat × Nat)} {blV : V} (I : Inv1 S X) (T : Top X p f) (ht : X.u + 1 ≤ 100000) (hl : ∀ c, lp = some c → ∃ l, X.cls[c.1]? = some l ∧ l.cb = c.2 ∧ l.own = p.1) :
 Inv1 S (X.opened p.1 f bb lp blV) := by
 obtain ⟨hlt, _⟩ := List.getElem?_eq_some_iff.1 T.at_
 obtain ⟨fu, hfu⟩ := T.fu
 have hp : p ∈ X.fu := by rw [hfu]; simp
 have hat : ∀ j g, (X.opened p.1 f bb lp blV).fns[j]? = some g → (j = p.1 ∧ g = { f with blV := blV, bl := f.bl ++ [(X.bks.length, bb)] }) ∨ (j ≠ p.1 ∧ X.fns[j]? = some g) := fun j g h => by
  have h : (X.fns.set p.1 { f with blV := blV, bl := f.bl ++ [(X.bks.length, bb)] })[j]? = some g := h
  rw [List.getElem?_set] at h
  by_cases e : p.1 = j
  ·subst e; rw [if_pos rfl, if_pos hlt] at h; exact .inl ⟨rfl, (Option.some.inj h).symm⟩
  ·rw [if_neg e] at h; exact .inr ⟨Ne.symm e, h⟩
 have hlen : (X.opened p.1 f bb lp blV).fns.length = X.fns.length := List.length_set
 have hb0 : ∀ (i : Nat) (b : Bk), X.bks[i]? = some b → (X.opened p.1 f bb lp blV).bks[i]? = some b := fun i b h => by
  obtain ⟨h1, _⟩ := List.getElem?_eq_some_iff.1 h
  show (X.bks ++ [_])[i]? = _
  rw [List.getElem?_append_left h1]; exact h
 have hb1 : (X.opened p.1 f bb lp blV).bks[X.bks.length]? = some ⟨bb, .nilSlice, f.va.length, lp, []⟩ := by
  show (X.bks ++ [_])[X.bks.length]? = _
  rw [List.getElem?_append_right (Nat.le_refl _), Nat.sub_self]; rfl
 have hmem : f ∈ X.fns := List.mem_of_getElem? T.at_
 have hfi := I.fns f hmem
 have hus := I.us f hmem
 refine ⟨fun g hg => ?_, fun q hq => ?_, fun q hq g hg => ?_, fun j g hg hj => ?_, fun w hw => ?_, fun b hb => ?_, fun c hc => ⟨by rw [hlen]; exact (I.cls c hc).1, fun g hg => ?_⟩, I.map, I.fault, ?_, fun g hg => ?_, fun b hb => ?_, fun c hc => Nat.le_succ_of_le (I.uc c hc), Nat.le_succ_of_le I.uf, ht⟩
 ·rw [hlen]
  rcases mem_set hg with h | h
  ·subst h; exact ⟨hfi.bo, hfi.va, hfi.vm, hfi.um, hfi.ss, hfi.es⟩
  ·exact I.fns g h
 ·obtain ⟨g, h1, h2⟩ := I.fu q hq
  by_cases e : q.1 = p.1
  ·rw [e, T.at_] at h1; cases h1
   exact ⟨{ f with blV := blV, bl := f.bl ++ [(X.bks.length, bb)] }, by rw [e]; exact List.getElem?_set_self hlt, h2⟩
  ·exact ⟨g, (List.getElem?_set_ne (Ne.symm e)).trans h1, h2⟩
 ·rcases hat q.1 g hg with ⟨e1, e2⟩ | ⟨e1, e2⟩
  ·subst e2
   have hop := I.opn p hp f T.at_
   refine ⟨fun x hx => ?_, List.pairwise_append.2 ⟨hop.ord.imp_of_mem fun {x y} hx hy hh b c hb hc => ?_, List.pairwise_singleton _ _, fun x hx y hy b c hb hc => ?_⟩⟩
   rotate_left
   ·obtain ⟨b1, a1, _⟩ := hop.all x hx
    obtain ⟨c1, a2, _⟩ := hop.all y hy
    rw [hb0 _ _ a1] at hb; rw [hb0 _ _ a2] at hc; cases hb; cases hc
    exact hh _ _ a1 a2
   ·rw [List.mem_singleton] at hy; subst hy
    obtain ⟨b1, a1, _, _, a4, _⟩ := hop.all x hx
    rw [hb0 _ _ a1] at hb; cases hb
    rw [show (X.opened p.1 f bb lp blV).bks[(X.bks.length, bb).1]? = _ from hb1] at hc; cases hc
    exact a4
   rcases List.mem_append.1 hx with hx | hx
   ·obtain ⟨b, a1, a2, a3, a4, a5⟩ := hop.all x hx
    exact ⟨b, hb0 _ _ a1, a2, a3, a4, fun c hc => by rw [e1]; exact a5 c hc⟩
   ·rw [List.mem_singleton] at hx; subst hx
    exact ⟨_, hb1, rfl, by simp, by simp, fun c hc => by rw [e1]; exact hl c hc⟩
  ·have hop := I.opn q hq g e2
   refine ⟨fun x hx => ?_, hop.ord.imp_of_mem fun {x y} hx hy hh b c hb hc => ?_⟩
   ·obtain ⟨b, a1, a2, a3, a4, a5⟩ := hop.all x hx
    exact ⟨b, hb0 _ _ a1, a2, a3, a4, a5⟩
   ·obtain ⟨b1, a1, _⟩ := hop.all x hx
    obtain ⟨c1, a2, _⟩ := hop.all y hy
    rw [hb0 _ _ a1] at hb; rw [hb0 _ _ a2] at hc; cases hb; cases hc
    exact hh _ _ a1 a2
 ·rcases hat j g hg with ⟨e1, e2⟩ | ⟨e1, e2⟩
  ·subst e1; exact (hj p hp rfl).elim
  ·exact I.fin j g e2 hj
 ·obtain ⟨g, h1, h2, h3, h4⟩ := (I.go w hw).f
  refine ⟨?_, ⟨fun q hq => ?_, (I.go w hw).inn.2⟩, (I.go w hw).v⟩
  ·by_cases e : w.f.1 = p.1
   ·rw [e, T.at_] at h1; cases h1
    exact ⟨{ f with blV := blV, bl := f.bl ++ [(X.bks.length, bb)] }, by rw [e]; exact List.getElem?_set_self hlt, h2, h3, h4⟩
   ·exact ⟨g, (List.getElem?_set_ne (Ne.symm e)).trans h1, h2, h3, h4⟩
  ·obtain ⟨b, b1, b2⟩ := (I.go w hw).inn.1 q hq
   exact ⟨b, hb0 _ _ b1, b2⟩
 ·rcases List.mem_append.1 hb with hb | hb
  ·exact I.lbs b hb
  ·rw [List.mem_singleton] at hb; subst hb; intro x hx; cases hx
 ·rcases hat c.own g hg with ⟨e1, e2⟩ | ⟨e1, e2⟩
  ·subst e2; exact (I.cls c hc).2 f (by rw [e1]; exact T.at_)
  ·exact (I.cls c hc).2 g e2
 ·have := I.u
  rw [hlen]
  show X.strs.length + X.fns.length + X.go.length + (X.bks ++ [_]).length + X.cls.length ≤ X.u + 1
  rw [List.length_append, List.length_singleton]; omega
 ·rcases mem_set hg with h | h
  ·subst h
   show f.ss.length + f.es.length + (f.bl ++ [_]).length ≤ X.u + 1
   rw [List.length_append, List.length_singleton]; omega
  ·exact Nat.le_succ_of_le (I.us g h)
 ·rcases List.mem_append.1 hb with hb | hb
  ·exact Nat.le_succ_of_le (I.ub b hb)
  ·rw [List.mem_singleton] at hb; subst hb; exact Nat.zero_le _
theorem _root_.Go.Mid.Lf.cell {g : Fg} {h : Hp} {b o : Nat} {cs : List V} (hl : Lf g (hf h)) (hr : row b cs g) (ho : o < cs.length) : h.cell b o = cs[o]? := by
 obtain ⟨t, gg, e, h2, h3⟩ := hr
 have := hl _ _ h2
 unfold hf at this
 unfold Hp.cell; rw [this]; exact h3 o ho
theorem bk_cell {bks : List Bk} {b : Bk} {i j o : Nat} (H : St l h) (hi : l[i]? = some (ands (bks.map Bk.A))) (hb : bks[j]? = some b) (ho : o < 3) : h.cell b.bb o = [b.lbV, .int .i64 b.vars, lpV b.lp][o]? := by
 obtain ⟨g1, a1, a2⟩ := H.sat.get hi
 obtain ⟨g2, b1, b2⟩ := Sat.get (l := bks.map Bk.A) (i := j) (A := b.A) a2 (by rw [List.getElem?_map, hb]; rfl)
 obtain ⟨g3, c1, c2⟩ := Sat.get (l := [row b.bb [b.lbV, .int .i64 b.vars, lpV b.lp], _]) (i := 0) b2 rfl
 exact ((c1.trans b1).trans a1).cell c2 ho
theorem _root_.Go.Mid.Tri.loadC {b o : Nat} {w : V} (hc : h.cell b o = some w) (hk : Tri h0 ro F Q (k w)) : Tri h0 ro F Q (load1 (.ptr b o) h k) := by
 rw [load1_at, hc]; exact hk
def MS.closed (X : MS) (i : Nat) (f : Fn) (vaV blV : V) (n : Nat) (bl : List (Nat × Nat)) : MS :=
 { X with fns := X.fns.set i { f with vaV := vaV, va := f.va.take n, blV := blV, bl := bl } }
theorem sp118 {p q : Nat × Nat} {bl : List (Nat × Nat)} {b : Bk} (T : Top X p f) (H : St (frz S :: MK X :: l) h) (hbl : f.bl = bl ++ [q]) (hb : X.bks[q.1]? = some b) (hbb : b.bb = q.2) (h1 : 0 ≤ b.vars) (h2 : b.vars ≤ f.va.length) :
 Tri h false l (fun v B => ∃ vaV blV, v = .tuple [] ∧ B = [frz S, MK (X.closed p.1 f vaV blV b.vars.toNat bl)]) (M 118 [.ptr X.mb 0] h) := by
 refine t1 e118 fun L => ?_
 unfold B118
 refine tb1 (top106 T H) L fun v h B hq H L => ?_
 obtain ⟨rfl, rfl⟩ := hq
 have hu := T.us
 have hlen : f.bl.length = bl.length + 1 := by rw [hbl]; simp
 replace H := openF H T.at_
 apply Tri.nil
 apply Tri.addr
 refine Tri.load 0 H rfl rfl ?_
 apply Tri.nil
 apply Tri.addr
 refine Tri.load 0 H rfl rfl ?_
 apply Tri.nil
 apply Tri.addr
 refine Tri.load 0 H rfl rfl ?_
 apply bL
 refine Tri.lenV 6 f.bl.length H rfl (by decide) (ptrs_len _) ?_
 apply Tri.bs
 refine Tri.subN (by omega) (by omega) ?_
 refine Tri.idxV 6 H rfl (by omega) (by rw [ptrs_len]; omega) (by decide) fun bb nn cc g hv hg => ?_
 refine Tri.loadV 6 (hv ▸ H) rfl (w := .ptr q.2 0) (by
  rw [hlen, hbl, show 0 + (((bl.length + 1 : Nat) : Int) - 1).toNat * 1 = bl.length by omega]
  simp [ptrs]) ?_
 apply Tri.nil
 apply Tri.addr
 refine Tri.loadC (w := .int .i64 b.vars) (by rw [← hbb]; exact bk_cell (o := 1) H (i := 15) rfl hb (by decide)) ?_
 obtain ⟨nv, hnv⟩ : ∃ nv : Nat, b.vars = nv := ⟨b.vars.toNat, by omega⟩
 rw [hnv]
 refine Tri.cutV 5 f.va.length nv H rfl (by decide) (by simp) (by omega) fun vaV H hO o1 => ?_
 apply Tri.nil
 apply Tri.addr
 refine sto 0 H rfl rfl L (by first | rfl | assumption) fun h H L => ?_
 apply Tri.nil
 apply Tri.addr
 refine Tri.load 0 H rfl rfl ?_
 apply Tri.nil
 apply Tri.addr
 refine Tri.load 0 H rfl rfl ?_
 apply bL
 refine Tri.lenV 6 f.bl.length H rfl (by decide) (ptrs_len _) ?_
 apply Tri.bs
 refine Tri.subN (by omega) (by omega) ?_
 rw [show ((f.bl.length : Nat) : Int) - 1 = (bl.length : Nat) by omega]
 refine Tri.cutV 6 f.bl.length bl.length H rfl (by decide) (ptrs_len _) (by omega) fun blV H hO o2 => ?_
 apply Tri.nil
 apply Tri.addr
 refine sto 0 H rfl rfl L (by first | rfl | assumption) fun h H L => ?_
 have e1 : (f.va.map V.str).take (nv * 1) = (f.va.take nv).map V.str := by rw [Nat.mul_one, List.map_take]
 have e2 : (ptrs f.bl).take (bl.length * 1) = ptrs bl := by rw [Nat.mul_one, hbl]; unfold ptrs; rw [List.map_append, List.take_left' (by simp)]
 replace H : St (_ :: _ :: _ :: _ :: _ :: vc true vaV 136 1 ((f.va.map V.str).take (nv * 1)) :: vc true blV 101 1 ((ptrs f.bl).take (bl.length * 1)) :: _) _ := H
 rw [e1, e2] at H
 exact Tri.done (B := [frz S, MK (X.closed p.1 f vaV blV (nv : Int).toNat bl)]) ⟨vaV, blV, rfl, rfl⟩ (closeF (f' := { f with vaV := vaV, va := f.va.take nv, blV := blV, bl := bl }) T.at_ rfl H X.u) L
theorem Inv1.closed {p q : Nat × Nat} {bl : List (Nat × Nat)} {b : Bk} {vaV blV : V} (I : Inv1 S X) (T : Top X p f) (hbl : f.bl = bl ++ [q]) (hb : X.bks[q.1]? = some b) :
 Inv1 S (X.closed p.1 f vaV blV b.vars.toNat bl) := by
 obtain ⟨hlt, _⟩ := List.getElem?_eq_some_iff.1 T.at_
 obtain ⟨fu, hfu⟩ := T.fu
 have hp : p ∈ X.fu := by rw [hfu]; simp
 have hat : ∀ j g, (X.closed p.1 f vaV blV b.vars.toNat bl).fns[j]? = some g → (j = p.1 ∧ g = { f with vaV := vaV, va := f.va.take b.vars.toNat, blV := blV, bl := bl }) ∨ (j ≠ p.1 ∧ X.fns[j]? = some g) := fun j g h => by
  have h : (X.fns.set p.1 { f with vaV := vaV, va := f.va.take b.vars.toNat, blV := blV, bl := bl })[j]? = some g := h
  rw [List.getElem?_set] at h
  by_cases e : p.1 = j
  ·subst e; rw [if_pos rfl, if_pos hlt] at h; exact .inl ⟨rfl, (Option.some.inj h).symm⟩
  ·rw [if_neg e] at h; exact .inr ⟨Ne.symm e, h⟩
 have hlen : (X.closed p.1 f vaV blV b.vars.toNat bl).fns.length = X.fns.length := List.length_set
 have hmem : f ∈ X.fns := List.mem_of_getElem? T.at_
 have hfi := I.fns f hmem
 have hus := I.us f hmem
 have hop := I.opn p hp f T.at_
 refine ⟨fun g hg => ?_, fun q hq => ?_, fun q hq g hg => ?_, fun j g hg hj => ?_, fun w hw => ?_, I.lbs, fun c hc => ⟨by rw [hlen]; exact (I.cls c hc).1, fun g hg => ?_⟩, I.map, I.fault, ?_, fun g hg => ?_, I.ub, I.uc, I.uf, I.top⟩
 ·rw [hlen]
  rcases mem_set hg with h | h
  ·subst h
   exact ⟨hfi.bo, Nat.le_trans (by show (f.va.take _).length ≤ f.va.length; rw [List.length_take]; omega) hfi.va, Nat.le_trans (by show (f.va.take _).length ≤ f.va.length; rw [List.length_take]; omega) hfi.vm, hfi.um, hfi.ss, hfi.es⟩
  ·exact I.fns g h
 ·obtain ⟨g, h1, h2⟩ := I.fu q hq
  by_cases e : q.1 = p.1
  ·rw [e, T.at_] at h1; cases h1
   exact ⟨{ f with vaV := vaV, va := f.va.take b.vars.toNat, blV := blV, bl := bl }, by rw [e]; exact List.getElem?_set_self hlt, h2⟩
  ·exact ⟨g, (List.getElem?_set_ne (Ne.symm e)).trans h1, h2⟩
 ·rcases hat q.1 g hg with ⟨e1, e2⟩ | ⟨e1, e2⟩
  ·subst e2
   have hord := hop.ord
   rw [hbl, List.pairwise_append] at hord
   refine ⟨fun x hx => ?_, hord.1⟩
   obtain ⟨b1, a1, a2, a3, a4, a5⟩ := hop.all x (by rw [hbl]; exact List.mem_append_left _ hx)
   have hle := hord.2.2 x hx _ (List.mem_singleton.2 rfl) b1 b a1 hb
   refine ⟨b1, a1, a2, a3, ?_, fun c hc => by rw [e1]; exact a5 c hc⟩
   show b1.vars ≤ ((f.va.take b.vars.toNat).length : Nat)
   rw [List.length_take]; omega
  ·exact ⟨(I.opn q hq g e2).all, (I.opn q hq g e2).ord⟩
 ·rcases hat j g hg with ⟨e1, e2⟩ | ⟨e1, e2⟩
  ·subst e1; exact (hj p hp rfl).elim
  ·exact I.fin j g e2 hj
 ·obtain ⟨g, h1, h2, h3, h4⟩ := (I.go w hw).f
  refine ⟨?_, (I.go w hw).inn, (I.go w hw).v⟩
  by_cases e : w.f.1 = p.1
  ·rw [e, T.at_] at h1; cases h1
   exact ⟨{ f with vaV := vaV, va := f.va.take b.vars.toNat, blV := blV, bl := bl }, by rw [e]; exact List.getElem?_set_self hlt, h2, h3, h4⟩
  ·exact ⟨g, (List.getElem?_set_ne (Ne.symm e)).trans h1, h2, h3, h4⟩
 ·rcases hat c.own g hg with ⟨e1, e2⟩ | ⟨e1, e2⟩
  ·subst e2; exact (I.cls c hc).2 f (by rw [e1]; exact T.at_)
  ·exact (I.cls c hc).2 g e2
 ·rw [hlen]; exact I.u
 ·rcases mem_set hg with h | h
  ·subst h
   show f.ss.length + f.es.length + bl.length ≤ X.u
   rw [hbl, List.length_append] at hus; omega
  ·exact I.us g h
end
end Go.FP
end
