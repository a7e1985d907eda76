/- A part of the proof. -/
import Derived.Test.YthbcbfgpfpogkaaGreatPFL12
set_option linter.all false
set_option warn.classDefReducibility false
noncomputable section
section
open Go Go.Mid Go.Proofs
set_option maxRecDepth 100000
namespace Go.FP
section
variable {S S' S'' : Mem} {l F : List Asn} {h h0 : Hp} {ro : Bool} {Q : V → List Asn → Prop} {k : V → VH} {K : V → Hp → VH} {nds : List Nd} {n : Nd} {v nv : V} {X X' X'' : MS} {f f' : Fn} {i : Nat} {w : Nat → Nat} {b b' : Bk} {c c' : Cl} {wi : Wi}
theorem openB (H : St (frz S :: MK X :: l) h) (hi : X.bks[i]? = some b) : St (row b.bb [b.lbV, .int .i64 b.vars, lpV b.lp] :: vc true b.lbV 103 3 (b.lbs.flatMap lbc) :: ands ((X.bks.map Bk.A).eraseIdx i) ::
 frz S :: Mid.row X.mb X.row :: vc true X.strsV 9 1 (X.strs.map V.str) :: dict X.mapb X.es :: vc true X.fuV 65 1 (ptrs X.fu) :: vc true X.dnV 65 1 (X.fns.map fun f => .ptr f.fb 0) :: vc true X.goV 68 6 (X.go.flatMap Wi.cs) :: ands (X.fns.map Fn.A) :: ands (X.cls.map Cl.A) :: l) h := by
 have H1 := (openM H).out 8
 have H1' : St (ands (X.bks.map Bk.A) :: _) h := H1
 have H2 := H1'.pull (i := i) (A := b.A) (by rw [List.getElem?_map, hi]; rfl)
 have H3 : St (ands [row b.bb [b.lbV, .int .i64 b.vars, lpV b.lp], vc true b.lbV 103 3 (b.lbs.flatMap lbc)] :: _) h := H2
 exact H3.app
theorem closeB (hi : X.bks[i]? = some b) (H : St (row b'.bb [b'.lbV, .int .i64 b'.vars, lpV b'.lp] :: vc true b'.lbV 103 3 (b'.lbs.flatMap lbc) :: ands ((X.bks.map Bk.A).eraseIdx i) ::
 frz S :: Mid.row X.mb X.row :: vc true X.strsV 9 1 (X.strs.map V.str) :: dict X.mapb X.es :: vc true X.fuV 65 1 (ptrs X.fu) :: vc true X.dnV 65 1 (X.fns.map fun f => .ptr f.fb 0) :: vc true X.goV 68 6 (X.go.flatMap Wi.cs) :: ands (X.fns.map Fn.A) :: ands (X.cls.map Cl.A) :: l) h) (u : Nat) :
 St (frz S :: MK { X with bks := X.bks.set i b', u := u } :: l) h := by
 have H1 : St ([row b'.bb [b'.lbV, .int .i64 b'.vars, lpV b'.lp], vc true b'.lbV 103 3 (b'.lbs.flatMap lbc)] ++ _) h := H
 have H2 : St (b'.A :: ands ((X.bks.map Bk.A).eraseIdx i) :: _) h := H1.pack
 have H3 := H2.push (A := b.A) (by rw [List.getElem?_map, hi]; rfl)
 rw [← List.map_set] at H3
 exact closeM (X := { X with bks := X.bks.set i b', u := u }) (H3.ins 8)
theorem Inv1.bk (u : Nat) (hle : X.u ≤ u) (I : Inv1 S X) (hi : X.bks[i]? = some b) (h1 : b'.bb = b.bb) (h2 : b'.vars = b.vars) (h3 : b'.lp = b.lp) (h4 : ∀ x ∈ b'.lbs, 0 ≤ x.2.1) (h5 : b'.lbs.length ≤ u) (ht : u ≤ 100000) :
 Inv1 S { X with bks := X.bks.set i b', u := u } ∧ Ext1 S X S { X with bks := X.bks.set i b', u := u } := by
 obtain ⟨hlt, _⟩ := List.getElem?_eq_some_iff.1 hi
 have E : Ext1 S X S { X with bks := X.bks.set i b', u := u } := by
  refine ⟨Le.refl _, fun e => e, rfl, rfl, rfl, fun j g h => ⟨g, h, FExt.refl g⟩, Nat.le_refl _, fun j c h => ?_, fun j c h => ⟨c, h, rfl, rfl⟩, hle⟩
  show ∃ b'_1, (X.bks.set i b')[j]? = some b'_1 ∧ _
  by_cases e : i = j
  ·subst e; rw [hi] at h; cases h
   exact ⟨b', List.getElem?_set_self hlt, h1, h2, h3⟩
  ·exact ⟨c, by rw [List.getElem?_set_ne e]; exact h, rfl, rfl, rfl⟩
 refine ⟨⟨I.fns, I.fu, fun p hp g hg => (I.opn p hp g hg).ext E (FExt.refl g), I.fin, fun w hw => (I.go w hw).ext E, fun c hc => ?_, I.cls, I.map, I.fault, ?_, fun g hg => Nat.le_trans (I.us g hg) hle, fun c hc => ?_, fun c hc => Nat.le_trans (I.uc c hc) hle, Nat.le_trans I.uf hle, ht⟩, E⟩
 ·rcases mem_set hc with e | e
  ·subst e; exact h4
  ·exact I.lbs c e
 ·have := I.u
  show X.strs.length + X.fns.length + X.go.length + (X.bks.set i b').length + X.cls.length ≤ u
  rw [List.length_set]; omega
 ·rcases mem_set hc with e | e
  ·subst e; exact h5
  ·exact Nat.le_trans (I.ub c e) hle
abbrev PU : Mem → MS → V → Prop := fun _ _ v => v = .tuple []
theorem sp67 {p : Nat × Nat} {bi nb : Nat} {vs : Int} (I : Inv1 S X) (hp : ∃ fu, X.fu = fu ++ [p]) (hb : X.bks[bi]? = some b) (hu : X.u + 1 ≤ 100000) (H : St (frz S :: MK X :: row nb [.int .u8 n.kd, .int .i64 n.num, .str n.nm, n.nsV, n.ksV, .int .i64 n.ln] :: l) h) :
 Tri h false l (rX S X 1 PU) (M 67 [.ptr X.mb 0, .ptr nb 0, .ptr b.bb 0, .int .i64 vs] h) := by
 obtain ⟨f, T⟩ := I.top_ hp
 have hus := I.ub b (List.mem_of_getElem? hb)
 refine t4 e67 fun L => ?_
 unfold B67
 apply Tri.nil
 apply Tri.addr
 refine Tri.loadC (bkc H (i := 1) (o := 0) rfl hb rfl) ?_
 apply Tri.addr
 refine Tri.load 2 H rfl rfl ?_
 have Ho12 := H
 refine Tri.wroteC (sp180 T (H.draw _)) L (fun v h2 e => by rw [e]; rfl) fun v h2 h B hq H2 hn20 hl20 eh H L => ?_
 obtain ⟨rfl, rfl⟩ := hq
 refine Tri.bldS rfl ?_
 refine Tri.drawBld H L (fun _ => rfl) rfl fun b21 h hb21 H L => ?_
 replace H := H.d2
 replace H := openB H hb
 refine Tri.drawApp 1 b.lbs.length 1 H rfl (H.newCells (i := 12) rfl rfl) (by decide) (lb_len _) rfl (by have := I.top; omega) (by have := I.top; omega) rfl L (Own.off _ _) fun v' h H L O o1 => ?_
 have e1 : b.lbs.flatMap lbc ++ (V.str n.nm :: V.int .i64 (f.ss.length : Nat) :: V.int .i64 vs :: [].append []) = (b.lbs ++ [(n.nm, (f.ss.length : Int), vs)]).flatMap lbc := by rw [List.flatMap_append]; rfl
 replace H : St (_ :: vc true v' 103 3 (b.lbs.flatMap lbc ++ (V.str n.nm :: V.int .i64 (f.ss.length : Nat) :: V.int .i64 vs :: [].append [])) :: _) _ := H
 rw [e1] at H
 apply Tri.nil
 apply Tri.addr
 refine sto 0 H rfl rfl L (by first | rfl | assumption) fun h H L => ?_
 obtain ⟨I2, E2⟩ := I.bk (b' := { b with lbV := v', lbs := b.lbs ++ [(n.nm, (f.ss.length : Int), vs)] }) (X.u + 1) (Nat.le_succ _) hb rfl rfl rfl (fun x hx => by
  rcases List.mem_append.1 hx with hx | hx
  ·exact I.lbs b (List.mem_of_getElem? hb) x hx
  ·rw [List.mem_singleton] at hx; subst hx; show (0 : Int) ≤ (f.ss.length : Int); omega) (by simp; omega) hu
 exact Tri.done (B := [frz S, MK _]) ⟨S, _, rfl, I2, E2, Nat.le_refl _, rfl⟩ (closeB (b' := { b with lbV := v', lbs := b.lbs ++ [(n.nm, (f.ss.length : Int), vs)] }) hb H (X.u + 1)).x2.x2 L
theorem label_ok {p : Nat × Nat} {last : Bool} (I : Inv1 S X) (hp : ∃ fu, X.fu = fu ++ [p]) (x : NdIn S n) (hbl : ∀ f, X.fns[p.1]? = some f → f.bl ≠ []) (hu : X.u + 1 ≤ 100000) (H : St (frz S :: MK X :: l) h) :
 Tri h false l (rX S X 1 PU) (M 114 [.ptr X.mb 0, n.V, .bool last] h) := by
 obtain ⟨f, T⟩ := I.top_ hp
 have hus := T.us
 have hpm : p ∈ X.fu := by obtain ⟨fu, hfu⟩ := hp; rw [hfu]; simp
 have hop := I.opn p hpm f T.at_
 have hvm := (I.fns f (List.mem_of_getElem? T.at_)).vm
 have hne := hbl f T.at_
 have loop : ∀ (m : Nat) {X1 : MS} {q : Int} {h : Hp} {l : List Asn} {nb : Nat}, Inv1 S X1 → Ext1 S X S X1 → X1.u = X.u → X1.fns = X.fns → X1.bks = X.bks → St (frz S :: MK X1 :: row nb [.int .u8 n.kd, .int .i64 n.num, .str n.nm, n.nsV, n.ksV, .int .i64 n.ln] :: l) h → 0 ≤ q → (f.bl.length : Int) - q ≤ (m : Int) →
  Tri h false l (rX S X 1 PU) (M 65 [.ptr X1.mb 0, .bool last, .ptr nb 0, .ptr f.fb 0, f.blV, .int .i64 (f.bl.length : Nat), .int .i64 q] h) := by
  intro m
  have fin : ∀ {X1 : MS} {q : Int} {h : Hp} {l : List Asn} {nb : Nat}, Inv1 S X1 → Ext1 S X S X1 → X1.u = X.u → X1.fns = X.fns → X1.bks = X.bks → St (frz S :: MK X1 :: row nb [.int .u8 n.kd, .int .i64 n.num, .str n.nm, n.nsV, n.ksV, .int .i64 n.ln] :: l) h → (f.bl.length : Int) ≤ q →
   Tri h false l (rX S X 1 PU) (M 65 [.ptr X1.mb 0, .bool last, .ptr nb 0, .ptr f.fb 0, f.blV, .int .i64 (f.bl.length : Nat), .int .i64 q] h) := by
   intro X1 q h l nb I1 E1 u1 hf1 hb1 H hq
   have hat1 : X1.fns[p.1]? = some f := by rw [hf1]; exact T.at_
   obtain ⟨bl, z, hz⟩ : ∃ bl z, f.bl = bl ++ [z] := by
    rcases List.eq_nil_or_concat f.bl with e | ⟨bl, z, e⟩
    ·exact (hne e).elim
    ·exact ⟨bl, z, by rw [e, List.concat_eq_append]⟩
   obtain ⟨b, hb, hbb, hb0, hbv, _⟩ := hop.all z (by rw [hz]; simp)
   have hb' : X1.bks[z.1]? = some b := by rw [hb1]; exact hb
   have hlen : f.bl.length = bl.length + 1 := by rw [hz]; simp
   refine t7 e65 fun L => ?_
   unfold B65
   refine Tri.lss (fun e => by omega) (fun e => ?_)
   apply Tri.iff
   apply Tri.nil
   apply Tri.addr
   replace H := openF H hat1
   refine Tri.load 0 H rfl rfl ?_
   apply Tri.nil
   apply Tri.addr
   refine Tri.load 0 H rfl rfl ?_
   apply bL
   refine Tri.lenV 6 f.bl.length H rfl (by decide) (ptrs_len _) ?_
   apply Tri.bs
   refine Tri.subN (by omega) (by omega) ?_
   refine Tri.idxV 6 H rfl (by omega) (by rw [ptrs_len]; omega) (by decide) fun bb nn cc g hv _ => ?_
   refine Tri.loadV 6 (hv ▸ H) rfl (w := .ptr z.2 0) (by
    rw [hlen, hz, show 0 + (((bl.length + 1 : Nat) : Int) - 1).toNat * 1 = bl.length by omega]
    simp [ptrs]) ?_
   rw [← hbb]
   apply Tri.nil
   apply Tri.addr
   refine Tri.load 0 H rfl rfl ?_
   apply bL
   refine Tri.lenV 5 f.va.length H rfl (by decide) (by simp) ?_
   apply Tri.bs
   replace H := closeF0 hat1 H
   have end67 : ∀ {h : Hp} {vs : Int}, St (frz S :: MK X1 :: row nb [.int .u8 n.kd, .int .i64 n.num, .str n.nm, n.nsV, n.ksV, .int .i64 n.ln] :: l) h → Tri h false l (rX S X 1 PU) (M 67 [.ptr X1.mb 0, .ptr nb 0, .ptr b.bb 0, .int .i64 vs] h) := fun {h vs} H =>
    (sp67 I1 (by rw [E1.fu]; exact hp) hb' (by omega) H).mono fun v B hq => rX_mono E1 (by omega) (fun _ _ _ h => h) hq
   cases last
   ·apply Tri.iff
    exact te (end67 H) L
   ·apply Tri.ift
    apply Tri.nil
    apply Tri.addr
    refine Tri.loadC (bkc H (i := 1) (o := 1) rfl hb' rfl) ?_
    exact te (end67 H) L
  induction m with
  | zero => intro X1 q h l nb I1 E1 u1 hf1 hb1 H h1 hm; exact fin I1 E1 u1 hf1 hb1 H (by omega)
  | succ m ih =>
   intro X1 q h l nb I1 E1 u1 hf1 hb1 H h1 hm
   by_cases hlt : q < (f.bl.length : Int)
   ·have hat1 : X1.fns[p.1]? = some f := by rw [hf1]; exact T.at_
    obtain ⟨b, hb, hbb, _⟩ := hop.all (f.bl[q.toNat]'(by omega)) (List.getElem_mem _)
    have hb' : X1.bks[(f.bl[q.toNat]'(by omega)).1]? = some b := by rw [hb1]; exact hb
    refine t7 e65 fun L => ?_
    unfold B65
    refine Tri.lss (fun e => ?_) (fun e => by omega)
    apply Tri.ift
    rcases bl_view H (i := 1) rfl hat1 with ⟨_, h2⟩ | ⟨b0, c, g, h2, h3⟩
    ·rw [h2] at hlt; simp at hlt; omega
    rw [h2]
    refine Tri.idx h1 (by omega) ?_
    refine Tri.loadC (w := .ptr b.bb 0) (by rw [hbb, Nat.zero_add, Nat.mul_one]; exact h3 _ (by omega)) ?_
    rw [← h2]
    apply Tri.nil
    apply Tri.addr
    refine Tri.loadC (bkc H (i := 1) (o := 0) rfl hb' rfl) ?_
    refine tb1 (sp176 hb' (by have := I1.ub b (List.mem_of_getElem? hb'); have := I1.top; omega) H) L fun v h B hq H L => ?_
    obtain ⟨r, rfl, rfl⟩ := hq
    have next : ∀ {X2 : MS} {h : Hp} {l : List Asn}, Inv1 S X2 → Ext1 S X S X2 → X2.u = X.u → X2.fns = X.fns → X2.bks = X.bks → St (frz S :: MK X2 :: row nb [.int .u8 n.kd, .int .i64 n.num, .str n.nm, n.nsV, n.ksV, .int .i64 n.ln] :: l) h →
     Tri h false l (rX S X 1 PU) (M 69 [.ptr X2.mb 0, .bool last, .ptr nb 0, .ptr f.fb 0, f.blV, .int .i64 (f.bl.length : Nat), .int .i64 q] h) := by
     intro X2 h l I2 E2 u2 hf2 hb2 H
     refine t7 e69 fun L => ?_
     unfold B69
     refine Tri.addN (by omega) (by omega) ?_
     exact te (ih I2 E2 u2 hf2 hb2 H (by omega) (by omega)) L
    cases r
    ·apply Tri.iff
     exact te (next I1 E1 u1 hf1 hb1 H) L
    ·apply Tri.ift
     apply Tri.addr
     refine Tri.load 2 H rfl rfl ?_
     refine tb (sp54 H (by decide) I1.fault) L fun v h B hq H L => ?_
     obtain ⟨rfl, fe, fl, rfl, hfe⟩ := hq
     obtain ⟨I2, E2⟩ := I1.flt (fl := fl) hfe
     exact te (next (X2 := { X1 with fe := fe, fl := fl }) I2 (E1.trans E2) u1 hf1 hb1 H) L
   ·exact fin I1 E1 u1 hf1 hb1 H (by omega)
 have h1 := x.one
 refine t3 e114 fun L => ?_
 unfold B114
 refine Tri.newS H L fun b0 h hb0 H L => ?_
 replace H := H.d2
 refine tb1 (top106 T H) L fun v h B hq H L => ?_
 obtain ⟨rfl, rfl⟩ := hq
 apply Tri.nil
 apply Tri.addr
 refine Tri.loadC (fn_cell H (i := 1) (o := 9) rfl T.at_ rfl) ?_
 rcases bl_view H (i := 1) rfl T.at_ with ⟨_, h2⟩ | ⟨b0, c, g, h2, h3⟩
 ·exact (hne h2).elim
 refine Tri.eqv (congrArg (fun x => bindS (Mid.lenSl x _) _) h2) ?_
 apply bL
 refine Tri.lenSl ?_
 apply Tri.bs
 exact te (loop f.bl.length I (Ext1.refl S X) rfl rfl rfl H (by omega) (by omega)) L
theorem openC (H : St (frz S :: MK X :: l) h) (hi : X.cls[i]? = some c) : St (row c.cb [c.cv] :: vc true c.cv 3 1 (c.l.map (V.int .i64)) :: ands ((X.cls.map Cl.A).eraseIdx i) ::
 frz S :: Mid.row X.mb X.row :: vc true X.strsV 9 1 (X.strs.map V.str) :: dict X.mapb X.es :: vc true X.fuV 65 1 (ptrs X.fu) :: vc true X.dnV 65 1 (X.fns.map fun f => .ptr f.fb 0) :: vc true X.goV 68 6 (X.go.flatMap Wi.cs) :: ands (X.fns.map Fn.A) :: ands (X.bks.map Bk.A) :: l) h := by
 have H1 := (openM H).out 9
 have H1' : St (ands (X.cls.map Cl.A) :: _) h := H1
 have H2 := H1'.pull (i := i) (A := c.A) (by rw [List.getElem?_map, hi]; rfl)
 have H3 : St (ands [row c.cb [c.cv], vc true c.cv 3 1 (c.l.map (V.int .i64))] :: _) h := H2
 exact H3.app
theorem closeC (hi : X.cls[i]? = some c) (H : St (row c'.cb [c'.cv] :: vc true c'.cv 3 1 (c'.l.map (V.int .i64)) :: ands ((X.cls.map Cl.A).eraseIdx i) ::
 frz S :: Mid.row X.mb X.row :: vc true X.strsV 9 1 (X.strs.map V.str) :: dict X.mapb X.es :: vc true X.fuV 65 1 (ptrs X.fu) :: vc true X.dnV 65 1 (X.fns.map fun f => .ptr f.fb 0) :: vc true X.goV 68 6 (X.go.flatMap Wi.cs) :: ands (X.fns.map Fn.A) :: ands (X.bks.map Bk.A) :: l) h) (u : Nat) :
 St (frz S :: MK { X with cls := X.cls.set i c', u := u } :: l) h := by
 have H1 : St ([row c'.cb [c'.cv], vc true c'.cv 3 1 (c'.l.map (V.int .i64))] ++ _) h := H
 have H2 : St (c'.A :: ands ((X.cls.map Cl.A).eraseIdx i) :: _) h := H1.pack
 have H3 := H2.push (A := c.A) (by rw [List.getElem?_map, hi]; rfl)
 rw [← List.map_set] at H3
 exact closeM (X := { X with cls := X.cls.set i c', u := u }) (H3.ins 9)
theorem Inv1.cl (u : Nat) (hle : X.u ≤ u) (I : Inv1 S X) (hi : X.cls[i]? = some c) (h1 : c'.cb = c.cb) (h2 : c'.own = c.own) (h4 : ∀ f, X.fns[c.own]? = some f → In f.ss.length c'.l) (h5 : c'.l.length ≤ u) (ht : u ≤ 100000) :
 Inv1 S { X with cls := X.cls.set i c', u := u } ∧ Ext1 S X S { X with cls := X.cls.set i c', u := u } := by
 obtain ⟨hlt, _⟩ := List.getElem?_eq_some_iff.1 hi
 have E : Ext1 S X S { X with cls := X.cls.set i c', u := u } := by
  refine ⟨Le.refl _, fun e => e, rfl, rfl, rfl, fun j g h => ⟨g, h, FExt.refl g⟩, Nat.le_refl _, fun j c h => ⟨c, h, rfl, rfl, rfl⟩, fun j d h => ?_, hle⟩
  show ∃ b'_1, (X.cls.set i c')[j]? = some b'_1 ∧ _
  by_cases e : i = j
  ·subst e; rw [hi] at h; cases h
   exact ⟨c', List.getElem?_set_self hlt, h1, h2⟩
  ·exact ⟨d, by rw [List.getElem?_set_ne e]; exact h, rfl, rfl⟩
 refine ⟨⟨I.fns, I.fu, fun p hp g hg => (I.opn p hp g hg).ext E (FExt.refl g), I.fin, fun w hw => (I.go w hw).ext E, I.lbs, fun d hd => ?_, I.map, I.fault, ?_, fun g hg => Nat.le_trans (I.us g hg) hle, fun d hd => Nat.le_trans (I.ub d hd) hle, fun d hd => ?_, Nat.le_trans I.uf hle, ht⟩, E⟩
 ·rcases mem_set hd with e | e
  ·subst e; rw [h2]; exact ⟨(I.cls c (List.mem_of_getElem? hi)).1, h4⟩
  ·exact I.cls d e
 ·have := I.u
  show X.strs.length + X.fns.length + X.go.length + X.bks.length + (X.cls.set i c').length ≤ u
  rw [List.length_set]; omega
 ·rcases mem_set hd with e | e
  ·subst e; exact h5
  ·exact Nat.le_trans (I.uc d e) hle
theorem ldB_cell (h : Hp) (b o : Nat) : ldB false 1 h b o = h.cell b o := by
 unfold ldB Hp.cell; cases cellsT (h.t.get b) <;> rfl
theorem cl_cell {j : Nat} (H : St l h) (hi : l[i]? = some (MK X)) (hj : X.cls[j]? = some c) : h.cell c.cb 0 = some c.cv := by
 obtain ⟨g2, b1, b2⟩ := mk_get H hi (j := 8) rfl
 obtain ⟨g3, c1, c2⟩ := Sat.get (l := X.cls.map Cl.A) (i := j) (A := c.A) b2 (by rw [List.getElem?_map, hj]; rfl)
 obtain ⟨g4, d1, d2⟩ := Sat.get (l := [row c.cb [c.cv], vc true c.cv 3 1 (c.l.map (V.int .i64))]) (i := 0) c2 rfl
 have := ((d1.trans c1).trans b1).cell (o := 0) d2 Nat.one_pos
 exact this
theorem rng_tri {r n : Nat} {v : V} {wf : Nat → V} {l1 : List Asn} {kn : Hp → VH} {round : V → V → Hp → (Hp → VH) → VH} (i : Nat) (H : St l1 h) (L : Lo ro h0 h) (hr : l1[i]? = some (row r [v])) (hn : n ≤ 100000)
 (hv : ∀ h, St l1 h → (v = .nilSlice ∧ n = 0) ∨ ∃ b c g, v = .slice b 0 n c g ∧ ∀ k, k < n → h.cell b k = some (wf k))
 (hkn : ∀ h, St l1 h → Lo ro h0 h → Tri h0 ro F Q (kn h))
 (hrd : ∀ j h next, j < n → St l1 h → Lo ro h0 h → (∀ h, St l1 h → Lo ro h0 h → Tri h0 ro F Q (next h)) → Tri h0 ro F Q (round (.int .i64 (.ofNat j)) (wf j) h next)) :
 Tri h0 ro F Q (rngT itr0 (.func 149 [] [.ptr r 0]) h kn round) := by
 have hc : ∀ h, St l1 h → ldB false 1 h r 0 = some v := fun h H => by rw [ldB_cell, H.row_cell hr (o := 0) Nat.one_pos]; rfl
 have loop : ∀ m, m ≤ n → ∀ h, St l1 h → Lo ro h0 h → Tri h0 ro F Q (rngE ⟨66, 101, 3, 4, 1, false⟩ (.ptr r 0) kn round m h) := by
  intro m
  induction m with
  | zero => intro _ h H L; exact hkn h H L
  | succ m ih =>
   intro hm h H L
   have e : rowEl ⟨66, 101, 3, 4, 1, false⟩ h (.ptr r 0) m = some (wf m) := by
    show rowElV _ h m (ldB false 1 h r 0) = _
    rw [hc h H]
    rcases hv h H with ⟨_, h2⟩ | ⟨b, c, g, h1, h2⟩
    ·omega
    ·rw [h1]
     show (bif Nat.blt m n then ldB false 1 h b (0 + m * 1) else none) = _
     rw [show Nat.blt m n = true from Nat.ble_eq_true_of_le hm, ldB_cell, Nat.zero_add, Nat.mul_one]
     exact h2 m hm
   show Tri h0 ro F Q (optS (rowEl ⟨66, 101, 3, 4, 1, false⟩ h (.ptr r 0) m) _)
   rw [e]
   exact hrd m h _ hm H L fun h H L => ih (Nat.le_of_succ_le hm) h H L
 have e : rowLen h (.ptr r 0) = some n := by
  show rowLenV (ldB false 1 h r 0) = _
  rw [hc h H]
  rcases hv h H with ⟨h1, h2⟩ | ⟨b, c, g, h1, _⟩
  ·rw [h1, h2]; rfl
  ·rw [h1]; rfl
 show Tri h0 ro F Q (natO (rowLen h (.ptr r 0)) fun n => whenE (Nat.ble n big) (rngE ⟨66, 101, 3, 4, 1, false⟩ (.ptr r 0) kn round n h))
 rw [e]
 show Tri h0 ro F Q (whenE (Nat.ble n big) _)
 rw [show Nat.ble n big = true from Nat.ble_eq_true_of_le (Nat.le_trans hn (by decide))]
 exact loop n (Nat.le_refl _) h H L
theorem sp256 (hv : vcells v = [v]) (H : St l h) : Tri h false l (fun w B => ∃ r, w = .func 149 [] [.ptr r 0] ∧ B = [row r [v]]) (M 256 [v] h) := by
 refine t1 e256 fun L => ?_
 unfold B256
 rw [hv]
 refine Tri.newS H L fun b h hb H L => ?_
 exact Tri.done (B := [row b [v]]) ⟨b, rfl, rfl⟩ H L
theorem _root_.Go.Mid.Tri.neP {t : Nat} {b o : Nat} (hk : Tri h0 ro F Q (k (.bool true))) : Tri h0 ro F Q (eqS (.pointer t) .neq (.ptr b o) .nilPtr k) := hk
theorem _root_.Go.Mid.Tri.neZ {t : Nat} (hk : Tri h0 ro F Q (k (.bool false))) : Tri h0 ro F Q (eqS (.pointer t) .neq .nilPtr .nilPtr k) := hk
theorem _root_.Go.Mid.Tri.drawAppC {v x : V} {e s : Nat} {gr : Bool} {cs : List V} {c : V → Hp → Bool} {y : V → Hp → VH} (i n1 n2 : Nat) {bytes : Nat} {new : List V} (H : St l h) (hi : l[i]? = some (vc gr v e s cs)) (hnew : newCells h s x = some (n2, new)) (hs : 0 < s) (h1 : cs.length = n1 * s) (h2 : new.length = n2 * s)
 (hr1 : (n1 + n2) * bytes ≤ 1073741824) (hr2 : n1 + n2 ≤ 1073741824) (hall : allOne new = true) (L : Lo ro h0 h) (hb : Own h0 ro v)
 (hc : ∀ v' h', St (l.set i (vc gr v' e s (cs ++ new))) h' → c v' h' = true)
 (hK : ∀ v' h', St (l.set i (vc gr v' e s (cs ++ new))) h' → Lo ro h0 h' → Own h0 ro v' → oneCell v' = true → Tri h0 ro F Q (K v' h')) : Tri h0 ro F Q (bindS (appS e bytes s v x ⟨h.t, h.n, h.n⟩) fun v' h2 => cD (c v' h2) (wroteS h.low h2 fun h3 => K v' h3) (y v' h2)) := by
 obtain ⟨v', h', e1, H', hn, hl, hv⟩ := (H.draw h.n).append hi (by rw [newCells_low]; exact hnew) hs h1 h2 hr1 hr2 hall
 rw [e1, bindS_at, hc v' h' H']
 refine hK v' _ (H'.draw _) ⟨Nat.le_trans L.n hn, fun hr m a1 a2 => Nat.le_min.2 ⟨L.low hr m a1 a2, hl m (Nat.le_trans a1 L.n) fun b n c g ev => ?_⟩⟩ (fun hr b n c g ev => ?_) (H'.vc_one (i := i) (List.getElem?_set_self (List.getElem?_eq_some_iff.1 hi).1))
 ·rcases H.vc_shape hi with ⟨rfl, _⟩ | ⟨b', n', c', g', rfl, _⟩
  ·cases ev
  ·cases ev; exact Nat.le_trans a1 (hb hr _ _ _ _ rfl)
 ·rcases hv b n c g ev with h3 | h3
  ·exact hb hr _ _ _ _ h3
  ·exact Nat.le_trans L.n h3
theorem same_ptr {h h' : Hp} {b o x y : Nat} (h1 : h.cell b o = some (.ptr x y)) (h2 : h'.cell b o = some (.ptr x y)) : sameA h h' (.ptr b o) 1 = true := by
 have e : ∀ {h : Hp}, h.cell b o = some (.ptr x y) → h.cells b o 1 = some [.ptr x y] := fun {h} e => by
  refine St.cells_of (f := fun i => [V.ptr x y][i]?) (fun i hi => ?_) (fun _ _ => rfl) rfl
  rw [show i = 0 by omega]; exact e
 refine sameA_of (e h1) (e h2) (by decide) ?_
 show (Nat.beq x x && Nat.beq y y && true) = true
 have hb : ∀ x, Nat.beq x x = true := fun x => by induction x with | zero => rfl | succ x ih => exact ih
 rw [hb, hb]; rfl
theorem same_int {h h' : Hp} {b o : Nat} {d : IntKind} {m : Int} (h1 : h.cell b o = some (.int d m)) (h2 : h'.cell b o = some (.int d m)) : sameA h h' (.ptr b o) 1 = true := by
 have e : ∀ {h : Hp}, h.cell b o = some (.int d m) → h.cells b o 1 = some [.int d m] := fun {h} e => by
  refine St.cells_of (f := fun i => [V.int d m][i]?) (fun i hi => ?_) (fun _ _ => rfl) rfl
  rw [show i = 0 by omega]; exact e
 exact sameA_of (e h1) (e h2) (by decide) (vEqL_refl_int d m)
theorem cdS {h h' : Hp} {a : Bool} {b o : Nat} {d : IntKind} {m : Int} (h1 : h.cell b o = some (.int d m)) (h2 : h'.cell b o = some (.int d m)) : ((a || sameA h h' (.ptr b o) 1) && true) = true := by
 rw [same_int h1 h2, Bool.or_true]; rfl
theorem breaks_ok {p : Nat × Nat} (I : Inv1 S X) (hp : ∃ fu, X.fu = fu ++ [p]) (hln : 1 ≤ n.ln) (hu : X.u + 2 ≤ 100000) (H : St (frz S :: MK X :: l) h) :
 Tri h false l (rX S X 2 PU) (M 192 [.ptr X.mb 0, n.V] h) := by
 refine t2 e192 fun L => ?_
 unfold B192
 refine Tri.newS H L fun b0 h hb0 H L => ?_
 replace H := H.d2
 apply Tri.addr
 refine Tri.load 2 H rfl rfl ?_
 refine Tri.bldS rfl ?_
 refine tb (stmt_ok (s := ⟨11, .nilSlice, .nilSlice, .nilSlice, 0, 0, n.ln, [], [], []⟩) I hp (fun f hf => ⟨hln, by show (-1 : Int) ≤ 0; decide, by show (-1 : Int) ≤ 0; decide, .inl ⟨rfl, rfl⟩, .inl ⟨rfl, rfl⟩, .inl ⟨rfl, rfl⟩, in_nil _, in_nil _, in_nil _⟩) (by omega) H) L fun v h B hq H L => ?_
 obtain ⟨S1, X1, rfl, I1, E1, u1, j, f1, rfl, t1, j1, j2⟩ := hq
 rw [← E1.mb]
 have hp1 : ∃ fu, X1.fu = fu ++ [p] := by rw [E1.fu]; exact hp
 obtain ⟨f, T⟩ := I1.top_ hp1
 have ef := T.at_
 rw [t1] at ef; cases ef
 have hpm : p ∈ X1.fu := by obtain ⟨fu, hfu⟩ := hp1; rw [hfu]; simp
 have hop := I1.opn p hpm f1 t1
 refine Tri.newS H L fun b10 h hb10 H L => ?_
 replace H := H.d2
 refine sto 2 H rfl rfl L (by first | rfl | assumption) fun h H L => ?_
 refine tb1 (top106 T H) L fun v h B hq H L => ?_
 obtain ⟨rfl, rfl⟩ := hq
 apply Tri.nil
 apply Tri.addr
 refine Tri.loadC (fn_cell H (i := 1) (o := 9) rfl t1 rfl) ?_
 have hbv := bl_view H (i := 1) rfl t1
 refine tb (sp256 (v := f1.blV) (by rcases hbv with ⟨h2, _⟩ | ⟨_, _, _, h2, _⟩ <;> rw [h2] <;> rfl) H) L fun v h B hq H L => ?_
 obtain ⟨r, rfl, rfl⟩ := hq
 have hus := I1.us f1 (List.mem_of_getElem? t1)
 have htop := I1.top
 refine rng_tri 0 (n := f1.bl.length) (wf := fun k => (f1.bl[k]?.map fun x => V.ptr x.2 0).getD .nilPtr) H L rfl (by omega) (fun h H => ?_) (fun h H L => ?_) (fun q h next hq H L hnext => ?_)
 ·rcases bl_view H (i := 2) rfl t1 with ⟨h2, h3⟩ | ⟨b0, c, g, h2, h3⟩
  ·exact .inl ⟨h2, by rw [h3]; rfl⟩
  ·exact .inr ⟨b0, c, g, h2, fun k hk => by rw [h3 k hk, List.getElem?_eq_getElem hk]; rfl⟩
 ·replace H := H.tl
  apply Tri.addr
  refine Tri.load 3 H rfl rfl ?_
  refine tb (sp54 H (by decide) I1.fault) L fun v h B hq H L => ?_
  obtain ⟨rfl, fe, fl, rfl, hfe⟩ := hq
  obtain ⟨I2, E2⟩ := I1.flt (fl := fl) hfe
  exact Tri.done (B := [frz S1, MK _]) ⟨S1, _, rfl, I2, E1.trans E2, by show X1.u ≤ _; omega, rfl⟩ H.x2.x2 L
 ·obtain ⟨b, hb, hbb, hb0, hbv, hlp⟩ := hop.all (f1.bl[q]) (List.getElem_mem _)
  have ew : (f1.bl[q]?.map fun x => V.ptr x.2 0).getD .nilPtr = .ptr b.bb 0 := by rw [List.getElem?_eq_getElem hq, hbb]; rfl
  rw [ew]
  apply Tri.nil
  apply Tri.addr
  refine Tri.loadC (bkc H (i := 2) (o := 2) rfl hb rfl) ?_
  cases hlq : b.lp with
  | none =>
   exact Tri.neZ (Tri.iff (hnext h H L))
  | some c =>
   obtain ⟨d, hd, hdb, hdo⟩ := hlp c hlq
   have hlv : lpV b.lp = .ptr d.cb 0 := by rw [hlq, hdb]; rfl
   rw [← hlq, hlv]
   refine Tri.neP (Tri.ift ?_)
   apply Tri.nil
   apply Tri.addr
   refine Tri.loadC ((bkc H (i := 2) (o := 2) rfl hb rfl).trans (congrArg some hlv)) ?_
   apply Tri.nil
   apply Tri.addr
   refine Tri.loadC ((bkc H (i := 2) (o := 2) rfl hb rfl).trans (congrArg some hlv)) ?_
   apply Tri.nil
   refine Tri.loadC (cl_cell H (i := 2) rfl hd) ?_
   replace H := openC H.d2 hd
   refine Tri.load 13 H rfl rfl ?_
   refine Tri.drawBld H L (fun _ => rfl) rfl fun b71 h hb71 H L => ?_
   have hcl := I1.uc d (List.mem_of_getElem? hd)
   refine Tri.drawAppC 2 d.l.length 1 H rfl (H.newCells (i := 0) rfl rfl) (by decide) (by simp) rfl (by omega) (by omega) rfl L (Own.off _ _) (fun v' h' H' => ?_) fun v' h H L O o1 => ?_
   ·have e0 := (bk_cell H (i := 12) rfl hb (o := 2) (by decide)).trans (congrArg some hlv)
    have e1 := (bk_cell H' (i := 12) rfl hb (o := 2) (by decide)).trans (congrArg some hlv)
    show (_ || sameA _ _ (.ptr b.bb 2) 1) && true = true
    rw [same_ptr e0 e1, Bool.or_true]; rfl
   replace H := H.tl
   have e1 : d.l.map (V.int .i64) ++ (V.int .i64 j :: [].append []) = (d.l ++ [j]).map (V.int .i64) := by rw [List.map_append]; rfl
   replace H : St (_ :: vc true v' 3 1 (d.l.map (V.int .i64) ++ (V.int .i64 j :: [].append [])) :: _) _ := H
   rw [e1] at H
   apply Tri.nil
   refine sto 0 H rfl rfl L (by first | rfl | assumption) fun h H L => ?_
   obtain ⟨I2, E2⟩ := I1.cl (c' := { d with cv := v', l := d.l ++ [j] }) (X1.u + 1) (Nat.le_succ _) hd rfl rfl (fun f hf => by
    rw [hdo, t1] at hf; cases hf
    intro k hk
    rcases List.mem_append.1 hk with hk | hk
    ·exact (I1.cls d (List.mem_of_getElem? hd)).2 f1 (by rw [hdo]; exact t1) k hk
    ·rw [List.mem_singleton] at hk; subst hk; exact ⟨j1, j2⟩) (by simp; omega) (by omega)
   exact Tri.done (B := [frz S1, MK _]) ⟨S1, _, rfl, I2, E1.trans E2, by show X1.u + 1 ≤ _; omega, rfl⟩ (closeC (c' := { d with cv := v', l := d.l ++ [j] }) hd H (X1.u + 1)).x2.x2.x2 L
theorem _root_.Go.Mid.Tri.eqSl {t b o n c : Nat} {g : Bool} (hk : Tri h0 ro F Q (k (.bool false))) : Tri h0 ro F Q (eqS (.slice t) .eql (.slice b o n c g) .nilSlice k) := hk
theorem _root_.Go.Mid.Tri.eqSlN {t : Nat} (hk : Tri h0 ro F Q (k (.bool true))) : Tri h0 ro F Q (eqS (.slice t) .eql .nilSlice .nilSlice k) := hk
theorem sp194 (hat : X.fns[i]? = some f) (hbl : f.bl.length ≤ 100000) (H : St (frz S :: MK X :: l) h) :
 Tri h true l (fun v B => B = [vc false v 101 1 (ptrs f.bl), frz S, MK X]) (M 194 [f.blV] h) := by
 refine t1 e194 fun L => ?_
 unfold B194
 rcases bl_view H (i := 1) rfl hat with ⟨h2, h3⟩ | ⟨b0, c, g, h2, h3⟩
 ·rw [h2]
  refine Tri.eqSlN (Tri.ift ?_)
  rw [h3]
  exact Tri.done (B := [vc false .nilSlice 101 1 (ptrs []), frz S, MK X]) rfl (H.vc_new false 101 1) L
 ·rw [h2]
  refine Tri.eqSl (Tri.iff ?_)
  replace H := openF H hat
  rw [h2] at H
  refine Tri.bld (cs := []) H L rfl rfl fun b h hb H L => ?_
  refine Tri.app 0 0 f.bl.length H rfl (H.newCells (i := 7) rfl (by rw [ptrs_len, Nat.mul_one])) (by decide) rfl (by rw [ptrs_len, Nat.mul_one]) (by omega) (by omega) ?_ L (fun _ b n c g e => by cases e; exact hb) fun v' h H L O o1 => ?_
  ·unfold ptrs; generalize f.bl = bl; induction bl with | nil => rfl | cons a bl ih => exact ih
  ·rw [← h2] at H
   exact Tri.done (B := [vc false v' 101 1 (ptrs f.bl), frz S, MK X]) rfl (by
    replace H : St (vc false v' 101 1 (ptrs f.bl) :: _) _ := H
    exact (closeF0 (l := vc false v' 101 1 (ptrs f.bl) :: l) hat (H.ins 17)).u2) L
theorem Inv1.goto {goV : V} {wi : Wi} (I : Inv1 S X) (hw : WiIn S X wi) (ht : X.u + 1 ≤ 100000) :
 Inv1 S { X with goV := goV, go := X.go ++ [wi], u := X.u + 1 } ∧ Ext1 S X S { X with goV := goV, go := X.go ++ [wi], u := X.u + 1 } := by
 have E : Ext1 S X S { X with goV := goV, go := X.go ++ [wi], u := X.u + 1 } := ⟨Le.refl _, fun e => e, rfl, rfl, rfl, fun i f h => ⟨f, h, FExt.refl f⟩, Nat.le_refl _, fun i b h => ⟨b, h, rfl, rfl, rfl⟩, fun i c h => ⟨c, h, rfl, rfl⟩, Nat.le_succ _⟩
 refine ⟨⟨I.fns, I.fu, fun p hp g hg => (I.opn p hp g hg).ext E (FExt.refl g), I.fin, fun w hw' => ?_, I.lbs, I.cls, I.map, I.fault, ?_, fun g hg => Nat.le_succ_of_le (I.us g hg), fun d hd => Nat.le_succ_of_le (I.ub d hd), fun d hd => Nat.le_succ_of_le (I.uc d hd), Nat.le_succ_of_le I.uf, ht⟩, E⟩
 ·rcases List.mem_append.1 hw' with h | h
  ·exact (I.go w h).ext E
  ·rw [List.mem_singleton] at h; subst h; exact hw.ext E
 ·have := I.u
  show X.strs.length + X.fns.length + (X.go ++ [wi]).length + X.bks.length + X.cls.length ≤ X.u + 1
  rw [List.length_append, List.length_singleton]; omega
theorem go_len (l : List Wi) : (l.flatMap Wi.cs).length = l.length * 6 := by
 induction l with
 | nil => rfl
 | cons a l ih => rw [List.flatMap_cons, List.length_append, ih, List.length_cons]; simp [Wi.cs]; omega
abbrev ndr (nb : Nat) (n : Nd) : Asn := row nb [.int .u8 n.kd, .int .i64 n.num, .str n.nm, n.nsV, n.ksV, .int .i64 n.ln]
theorem k14 {p : Nat × Nat} {nb : Nat} {ksV : V} (I : Inv1 S X) (hp : ∃ fu, X.fu = fu ++ [p]) (hln : 1 ≤ n.ln) (hu : X.u + 2 ≤ 100000) (H : St (frz S :: MK X :: ndr nb n :: l) h) :
 Tri h false l (rX S X 2 PU) (M 63 [.ptr X.mb 0, .ptr nb 0, .ptr p.2 0, ksV, .int .u8 14, .bool false] h) := by
 refine t6 e63 fun L => ?_
 unfold B63
 unfold ndr at H
 apply Tri.iff
 refine Tri.eql (fun e => absurd e (by decide)) (fun _ => ?_)
 apply Tri.iff
 refine Tri.eql (fun e => absurd e (by decide)) (fun _ => ?_)
 apply Tri.iff
 refine Tri.eql (fun e => absurd e (by decide)) (fun _ => ?_)
 apply Tri.iff
 refine Tri.eql (fun e => absurd e (by decide)) (fun _ => ?_)
 apply Tri.iff
 refine Tri.eql (fun _ => ?_) (fun e => absurd e (by decide))
 apply Tri.ift
 apply Tri.addr
 refine Tri.load 2 H rfl rfl ?_
 refine Tri.bldS rfl ?_
 refine tb (stmt_ok (s := ⟨11, .nilSlice, .nilSlice, .nilSlice, 0, 0, n.ln, [], [], []⟩) I hp (fun f hf => ⟨hln, by show (-1 : Int) ≤ 0; decide, by show (-1 : Int) ≤ 0; decide, .inl ⟨rfl, rfl⟩, .inl ⟨rfl, rfl⟩, .inl ⟨rfl, rfl⟩, in_nil _, in_nil _, in_nil _⟩) (by omega) H) L fun v h B hq H L => ?_
 obtain ⟨S1, X1, rfl, I1, E1, u1, j, f1, rfl, t1, j1, j2⟩ := hq
 rw [← E1.mb]
 have hp1 : ∃ fu, X1.fu = fu ++ [p] := by rw [E1.fu]; exact hp
 obtain ⟨f, T⟩ := I1.top_ hp1
 have ef := T.at_
 rw [t1] at ef; cases ef
 have hpm : p ∈ X1.fu := by obtain ⟨fu, hfu⟩ := hp1; rw [hfu]; simp
 have hop := I1.opn p hpm f1 t1
 have hus := I1.us f1 (List.mem_of_getElem? t1)
 have htop := I1.top
 rw [← T.fb]
 apply Tri.nil
 apply Tri.addr
 refine Tri.loadC (mk_cell H (i := 0 + 1) (o := 7) rfl rfl) ?_
 apply Tri.addr
 refine Tri.load 2 H rfl rfl ?_
 apply Tri.addr
 refine Tri.load 2 H rfl rfl ?_
 apply Tri.nil
 apply Tri.addr
 refine Tri.loadC (fn_cell H (i := 0 + 1) (o := 8) rfl t1 rfl) ?_
 apply bL
 replace H := openF H t1
 refine Tri.lenV 5 f1.va.length H rfl (by decide) (by simp) ?_
 apply Tri.bs
 apply Tri.nil
 apply Tri.addr
 refine Tri.load 0 H rfl rfl ?_
 have Ho44 := H
 replace H := closeF0 t1 H
 refine Tri.wroteC (sp194 t1 (by omega) (H.draw _)) L (fun v h2 e => by rw [e]; rfl) fun v h2 h B hq H2 hn20 hl20 eh H L => ?_
 subst hq
 obtain ⟨S2, g1, H, g3⟩ := freezeV H
 have wi : WiIn S2 X1 ⟨p, n.nm, j, n.ln, f1.va.length, v, f1.bl⟩ := by
  refine ⟨⟨f1, t1, T.fb, j1, j2⟩, ⟨fun q hq => ?_, by show f1.bl.length ≤ 100000; omega⟩, ?_⟩
  ·obtain ⟨b, hb, hbb, _⟩ := hop.all q hq
   exact ⟨b, hb, hbb⟩
  ·rcases g3 with ⟨g4, g5⟩ | ⟨b, m, c, g, g4, g5, g6⟩
   ·exact .inl ⟨g4, by simpa [ptrs] using g5⟩
   ·rw [ptrs_len] at g5 g6
    refine .inr ⟨b, c, g, ?_, fun i hi => g6 i (by simpa using hi)⟩
    rw [g4]; show V.slice b 0 m c g = V.slice b 0 f1.bl.length c g
    rw [show m = f1.bl.length by omega]
 have hone : oneCell v = true := by rcases g3 with ⟨rfl, _⟩ | ⟨b, m, c, g, rfl, _⟩ <;> rfl
 have hgo := I1.u
 replace H := openM H
 refine Tri.bldS (w := .agg [.ptr f1.fb 0, .str n.nm, .int .i64 j, .int .i64 n.ln, .int .i64 (f1.va.length : Nat), v]) (by rcases g3 with ⟨rfl, _⟩ | ⟨b, m, c, g, rfl, _⟩ <;> rfl) ?_
 refine Tri.drawBld H L (fun _ => rfl) rfl fun b50 h hb50 H L => ?_
 replace H := H.d1
 refine Tri.drawApp 7 X1.go.length 1 H rfl (H.newCells (i := 1) rfl rfl) (by decide) (go_len _) rfl (by omega) (by omega) (by rcases g3 with ⟨rfl, _⟩ | ⟨b, m, c, g, rfl, _⟩ <;> rfl) L (Own.off _ _) fun v' h H L O o1 => ?_
 replace H := H.x1
 apply Tri.nil
 apply Tri.addr
 refine sto 1 H rfl rfl L (by first | rfl | assumption) fun h H L => ?_
 obtain ⟨I2, E2⟩ := (I1.leS g1).goto (goV := v') wi (by omega)
 have e1 : X1.go.flatMap Wi.cs ++ (V.ptr f1.fb 0 :: V.str n.nm :: V.int .i64 j :: V.int .i64 n.ln :: V.int .i64 (f1.va.length : Nat) :: v :: [].append []) = (X1.go ++ [(⟨p, n.nm, j, n.ln, f1.va.length, v, f1.bl⟩ : Wi)]).flatMap Wi.cs := by rw [List.flatMap_append, T.fb]; rfl
 replace H : St (_ :: _ :: _ :: _ :: _ :: _ :: vc true v' 68 6 (X1.go.flatMap Wi.cs ++ (V.ptr f1.fb 0 :: V.str n.nm :: V.int .i64 j :: V.int .i64 n.ln :: V.int .i64 (f1.va.length : Nat) :: v :: [].append [])) :: _) _ := H
 rw [e1] at H
 exact Tri.done (B := [frz S2, MK _]) ⟨S2, { X1 with goV := v', go := X1.go ++ [⟨p, n.nm, j, n.ln, f1.va.length, v, f1.bl⟩], u := X1.u + 1 }, rfl, I2, E1.trans ((Ext1.leS g1).trans E2), by show X1.u + 1 ≤ _; omega, rfl⟩ (closeM (X := { X1 with goV := v', go := X1.go ++ [⟨p, n.nm, j, n.ln, f1.va.length, v, f1.bl⟩], u := X1.u + 1 }) H).x2 L
theorem k13 {p : Nat × Nat} {nb : Nat} {fv ksV : V} (I : Inv1 S X) (hp : ∃ fu, X.fu = fu ++ [p]) (x : NdIn S n) (hln : 1 ≤ n.ln) (hu : X.u + 2 ≤ 100000) (H : St (frz S :: MK X :: ndr nb n :: l) h) :
 Tri h false l (rX S X 2 PU) (M 63 [.ptr X.mb 0, .ptr nb 0, fv, ksV, .int .u8 13, .bool false] h) := by
 refine t6 e63 fun L => ?_
 unfold B63
 unfold ndr at H
 apply Tri.iff
 refine Tri.eql (fun e => absurd e (by decide)) (fun _ => ?_)
 apply Tri.iff
 refine Tri.eql (fun e => absurd e (by decide)) (fun _ => ?_)
 apply Tri.iff
 refine Tri.eql (fun e => absurd e (by decide)) (fun _ => ?_)
 apply Tri.iff
 refine Tri.eql (fun _ => ?_) (fun e => absurd e (by decide))
 apply Tri.ift
 refine ls 2 H rfl rfl ?_
 refine tb (breaks_ok (n := n) I hp hln hu H) L fun v h B hq H L => ?_
 obtain ⟨S1, X1, rfl, I1, E1, u1, rfl⟩ := hq
 exact Tri.done (B := [frz S1, MK X1]) ⟨S1, X1, rfl, I1, E1, u1, rfl⟩ H.x2 L
theorem k12 {p : Nat × Nat} {nb : Nat} {fv : V} (hE : ∀ k ∈ n.ks, ESpec nds w k) (I : Inv1 S X) (hp : ∃ fu, X.fu = fu ++ [p]) (hn : NdsIn S X.nv nds) (x : NdIn S n) (hln : 1 ≤ n.ln) (hu : X.u + 8 * (sumW w n.ks + 1) ≤ 100000) (hkl : n.ks.length ≤ 100000) (H : St (frz S :: MK X :: ndr nb n :: l) h) :
 Tri h false l (rX S X (8 * (sumW w n.ks + 1)) PU) (M 63 [.ptr X.mb 0, .ptr nb 0, fv, n.ksV, .int .u8 12, .bool false] h) := by
 refine t6 e63 fun L => ?_
 unfold B63
 unfold ndr at H
 apply Tri.iff
 refine Tri.eql (fun e => absurd e (by decide)) (fun _ => ?_)
 apply Tri.iff
 refine Tri.eql (fun e => absurd e (by decide)) (fun _ => ?_)
 apply Tri.iff
 refine Tri.eql (fun _ => ?_) (fun e => absurd e (by decide))
 apply Tri.ift
 have Ho := H
 refine Tri.wrote (exprs_ok hE I hp hn x.ks (by omega) hkl (H.draw _)) L (fun e => e) fun v h2 h B hq H2 hn20 hl20 eh H L => ?_
 obtain ⟨S1, X1, rfl, I1, E1, u1, es, f1, i1, t1, y1⟩ := hq
 rw [← E1.mb]
 apply Tri.addr
 refine Tri.load 2 Ho rfl rfl ?_
 refine Tri.cd (cdS (Ho.row_cell (i := 2) (o := 5) rfl (by show 5 < 6; decide)) (H.row_cell (i := 2) (o := 5) rfl (by show 5 < 6; decide))) ?_
 refine Tri.bldS (w := .agg [.int .u8 10, .nilSlice, .nilSlice, v, .int .i64 0, .int .i64 0, .int .i64 n.ln]) (by rcases i1 with ⟨rfl, _⟩ | ⟨b, c, g, rfl, _⟩ <;> rfl) ?_
 refine tb (stmt_ok (s := ⟨10, .nilSlice, .nilSlice, v, 0, 0, n.ln, [], [], es⟩) I1 (by rw [E1.fu]; exact hp) (fun f hf => ⟨hln, by show (-1 : Int) ≤ 0; decide, by show (-1 : Int) ≤ 0; decide, .inl ⟨rfl, rfl⟩, .inl ⟨rfl, rfl⟩, i1, in_nil _, in_nil _, by rw [t1] at hf; cases hf; exact y1⟩) (by omega) H) L fun v h B hq H L => ?_
 obtain ⟨S2, X2, rfl, I2, E2, u2, j, f2, rfl, t2, j1, j2⟩ := hq
 rw [← E2.mb]
 have hp2 : ∃ fu, X2.fu = fu ++ [p] := by rw [E2.fu, E1.fu]; exact hp
 obtain ⟨f3, T⟩ := I2.top_ hp2
 have ef := T.at_
 rw [t2] at ef; cases ef
 refine tb1 (sp190 T H j1 j2) L fun v h B hq H L => ?_
 obtain ⟨b, nn, cc, g, hv, rfl, rfl⟩ := hq
 apply Tri.nil
 apply Tri.addr
 have hpm : p ∈ X2.fu := by obtain ⟨fu, hfu⟩ := hp2; rw [hfu]; simp
 refine setNx I2 t2 hv (by omega) (by decide) (fun hn => (hn p hpm rfl).elim) H L fun h X3 I3 E3 u3 _ H L => ?_
 exact Tri.done (B := [frz S2, MK X3]) ⟨S2, X3, rfl, I3, E1.trans (E2.trans E3), by omega, rfl⟩ H.x2 L
theorem beq_self (x : Nat) : Nat.beq x x = true := by induction x with | zero => rfl | succ x ih => exact ih
theorem isRow_int (e : Nat) (d : IntKind) (j : Int) : isRow (some (.cells (Tr.nil.setL 0 [.int d j]) 1 false e)) e [.int d j] = true := by
 have h1 : vIs (some (.int d j)) (some (.int d j)) = true := by
  have := vEqL_refl_int d j
  show vEq (.int d j) (.int d j) = true
  rw [show vEqL [.int d j] [.int d j] = (vEq (.int d j) (.int d j) && true) from rfl, Bool.and_true] at this
  exact this
 show (true && (!false && (Nat.beq e e && (vIs (some (.int d j)) (some (.int d j)) && ((true && true) && (true && true)))))) = true
 rw [beq_self, h1]; rfl
theorem newF_int {e : Nat} {j : Int} {K : V → Hp → VH} (H : St l h) (L : Lo ro h0 h) (hK : ∀ b h', h0.n ≤ b → St (rowx b e [.int .i64 j] :: l) h' → Lo ro h0 h' → Tri h0 ro F Q (K (.slice b 0 1 1 false) h')) :
 Tri h0 ro F Q (newF e 1 (flat [.int .i64 j]) h K) := hK h.n _ L.n (H.rowx_new e [.int .i64 j]) (L.new _ _ _)
theorem floIs_int {b e : Nat} {j : Int} {K : V → Hp → VH} {y : VH} (hk : ∀ h', Tri h0 ro F Q (K (.slice b 0 1 1 false) h')) :
 Tri h0 ro F Q (bindS (bldSl (floH (.slice b 0 1 1 false)) [(0, .int .i64 j)] e 1 1 (.int .i64 0)) fun v h' => cD (floIs (.slice b 0 1 1 false) e (flat [.int .i64 j]) v h') (K v h') y) := by
 show Tri h0 ro F Q (cD (vEq (.slice b 0 1 1 false) (.slice b 0 1 1 false) && isRow (((floH (.slice b 0 1 1 false)).newRow e [.int .i64 j] false).t.get b) e [.int .i64 j]) (K (.slice b 0 1 1 false) _) y)
 rw [newRow_get, if_pos (show (floH (.slice b 0 1 1 false)).n = b from rfl)]
 show Tri h0 ro F Q (cD ((((Nat.beq b b && true) && true) && true && true) && isRow (some (.cells (Tr.nil.setL 0 [.int .i64 j]) 1 false e)) e [.int .i64 j]) (K (.slice b 0 1 1 false) _) y)
 rw [beq_self, isRow_int]
 exact hk _
theorem floOk_int {h h' : Hp} {a : Bool} {b e : Nat} {j : Int} (hb : h'.t.get b = some (.cells (Tr.nil.setL 0 [.int .i64 j]) 1 false e)) : ((a || sameLd h h' (fent (.slice b 0 1 1 false) e (flat [.int .i64 j]))) && true) = true := by
 show ((a || (Nat.blt b h'.low || isRow (h'.t.get b) e [.int .i64 j])) && true) = true
 rw [hb, isRow_int, Bool.or_true, Bool.or_true]; rfl
theorem _root_.Go.Mid.St.rowx_get {e : Nat} {cs : List V} {b : Nat} (H : St l h) (hi : l[i]? = some (rowx b e cs)) : h.t.get b = some (.cells (Tr.nil.setL 0 cs) cs.length false e) := by
 obtain ⟨g, a1, a2⟩ := H.sat.get hi
 exact a1 _ _ a2
theorem _root_.Go.Mid.Tri.wroteP {K : V → Hp → Hp → VH} {c : V → Hp → Bool} {y : V → Hp → VH} {x : VH} {ro' : Bool} {F' : List Asn} {Q' : V → List Asn → Prop} (hx : Tri ⟨h.t, h.n, h.n⟩ ro' F' Q' x) (L : Lo ro h0 h) (hr : ro = true → ro' = true) (hc : ∀ v h2 B, Q' v B → St (B ++ F') h2 → c v h2 = true)
 (hK : ∀ v h2 h' B, Q' v B → St (B ++ F') h2 → h' = ⟨h2.t, h2.n, Nat.min h.low h2.low⟩ → St (B ++ F') h' → Lo ro h0 h' → Tri h0 ro F Q (K v h2 h')) : Tri h0 ro F Q (bindS x fun v h2 => cD (c v h2) (wroteS h.low h2 fun h3 => K v h2 h3) (y v h2)) := by
 obtain ⟨v, h', B, rfl, hq, hs, hl⟩ := hx
 rw [bindS_at, hc v h' B hq hs]
 exact hK v h' _ B hq hs rfl (hs.draw _) ⟨Nat.le_trans L.n hl.n, fun e m a1 a2 => Nat.le_min.2 ⟨L.low e m a1 a2, hl.low (hr e) m (Nat.le_trans a1 L.n) (Nat.le_trans a1 L.n)⟩⟩
theorem k11 {p : Nat × Nat} {nb : Nat} {fv : V} (hE : ∀ k ∈ n.ks, ESpec nds w k) (I : Inv1 S X) (hp : ∃ fu, X.fu = fu ++ [p]) (hn : NdsIn S X.nv nds) (x : NdIn S n) (hns : 1 ≤ n.ns.length) (hln : 1 ≤ n.ln) (hu : X.u + 8 * (sumW w n.ks + 1) ≤ 100000) (hkl : n.ks.length ≤ 100000) (H : St (frz S :: MK X :: ndr nb n :: l) h) :
 Tri h false l (rX S X (8 * (sumW w n.ks + 1)) PU) (M 63 [.ptr X.mb 0, .ptr nb 0, fv, n.ksV, .int .u8 11, .bool false] h) := by
 have hnv := x.ns
 refine t6 e63 fun L => ?_
 unfold B63
 unfold ndr at H
 apply Tri.iff
 refine Tri.eql (fun e => absurd e (by decide)) (fun _ => ?_)
 apply Tri.iff
 refine Tri.eql (fun _ => ?_) (fun e => absurd e (by decide))
 apply Tri.ift
 apply Tri.addr
 refine Tri.load 2 H rfl rfl ?_
 refine FSl.idx (by assumption) (by omega) (by omega) fun b7 o7 hb7 => ?_
 have hc7 := hb7
 clear hc7
 refine Tri.loadF 0 H rfl (by assumption) ?_
 apply Tri.addr
 refine Tri.load 2 H rfl rfl ?_
 refine tb (add_ok I hp (by omega) H) L fun v h B hq H L => ?_
 obtain ⟨S1, X1, rfl, I1, E1, u1, j, f1, rfl, t1, j1, j2⟩ := hq
 rw [← E1.mb]
 refine newF_int H L fun b h hb H L => ?_
 refine floIs_int fun hz => ?_
 have Ho := H
 replace H := (H.d2)
 refine Tri.wroteP (exprs_ok hE I1 (by rw [E1.fu]; exact hp) (by rw [E1.nv]; exact ndsIn_le hn E1.le) (FSl.mono x.ks fun b o a h => E1.le _ _ _ h) (by omega) hkl (H.draw _)) L (fun e => e) (fun v h2 B hq H2 => ?_) fun v h2 h B hq H2 eh H L => ?_
 ·obtain ⟨S2, X2, rfl, _⟩ := hq
  exact floOk_int (St.rowx_get H2 (i := 2) rfl)
 obtain ⟨S2, X2, rfl, I2, E2, u2, es, f2, i2, t2, y2⟩ := hq
 rw [← E2.mb]
 apply Tri.addr
 refine Tri.load 3 Ho rfl rfl ?_
 refine Tri.cd (cdS (Ho.row_cell (i := 3) (o := 5) rfl (by show 5 < 6; decide)) (H.row_cell (i := 3) (o := 5) rfl (by show 5 < 6; decide))) ?_
 obtain ⟨S3, g1, g2, H⟩ := St.freeze' (H.u2.imp0 rowx_row)
 have i3 : Ints S3 (.slice b 0 1 1 false) [j] := .inr ⟨b, 1, false, rfl, by simp, fun i hi => by rw [g2]; simp⟩
 refine Tri.bldS (w := .agg [.int .u8 9, .slice b 0 1 1 false, .nilSlice, v, .int .i64 0, .int .i64 0, .int .i64 n.ln]) (by rcases i2 with ⟨rfl, _⟩ | ⟨b, c, g, rfl, _⟩ <;> rfl) ?_
 refine tb (stmt_ok (s := ⟨9, .slice b 0 1 1 false, .nilSlice, v, 0, 0, n.ln, [j], [], es⟩) (I2.leS g1) (by rw [E2.fu, E1.fu]; exact hp) (fun f hf => ⟨hln, by show (-1 : Int) ≤ 0; decide, by show (-1 : Int) ≤ 0; decide, i3, .inl ⟨rfl, rfl⟩, i2.le g1, fun k hk => ?_, in_nil _, by rw [t2] at hf; cases hf; exact y2⟩) (by omega) H) L fun v h B hq H L => ?_
 ·rw [List.mem_singleton] at hk; subst hk
  obtain ⟨f3, g4, g5⟩ := E2.fns _ f1 t1
  rw [g4] at hf; cases hf
  exact ⟨j1, Int.lt_of_lt_of_le j2 g5.sl⟩
 obtain ⟨S4, X4, rfl, I4, E4, u4, j4, f4, rfl, t4, j5, j6⟩ := hq
 exact Tri.done (B := [frz S4, MK X4]) ⟨S4, X4, rfl, I4, E1.trans (E2.trans ((Ext1.leS g1).trans E4)), by omega, rfl⟩ H.x2 L
end
end Go.FP
end
