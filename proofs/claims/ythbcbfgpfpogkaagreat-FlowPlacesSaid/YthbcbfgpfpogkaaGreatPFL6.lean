/- A part of the proof. -/
import Derived.Test.YthbcbfgpfpogkaaGreatPFL0
set_option linter.all false
set_option warn.classDefReducibility false
noncomputable section
section
open Go Go.Mid Go.Proofs
set_option maxRecDepth 100000
namespace Go.FP
section
variable {S S' S'' : Mem} {l F : List Asn} {h h0 : Hp} {ro : Bool} {Q : V → List Asn → Prop} {k : V → VH} {K : V → Hp → VH} {nds : List Nd} {n : Nd} {v nv : V} {X X' X'' : MS} {f f' : Fn} {i : Nat} {w : Nat → Nat} {b b' : Bk} {c c' : Cl} {wi : Wi}
theorem sp53 (m : Nat) : ∀ {f : Fn} {h : Hp} {l : List Asn} (H : St (Mid.row f.fb f.row :: vc true f.boV 4 1 (f.bo.map V.bool) :: vc true f.vaV 136 1 (f.va.map V.str) :: l) h) (hb : (f.bo.length : Int) = f.sl) (hv : f.va.length ≤ 120) (h0 : 0 < f.va.length) (hm : (f.va.length : Int) - f.sl ≤ (m : Int)),
 Tri h false l (fun v B => ∃ boV bo sl, v = .int .i64 ((f.va.length : Nat) - 1) ∧ B = [Mid.row f.fb { f with boV := boV, bo := bo, sl := sl }.row, vc true boV 4 1 (bo.map V.bool), vc true f.vaV 136 1 (f.va.map V.str)] ∧ (bo.length : Int) = sl ∧ f.sl ≤ sl ∧ f.va.length ≤ bo.length) (M 53 [.ptr f.fb 0] h) := by
 induction m with
 | zero =>
  intro f h l H hb hv h0 hm
  refine t1 e53 fun L => ?_
  unfold B53
  apply Tri.nil
  apply Tri.addr
  apply Tri.addr
  refine Tri.load 0 H rfl rfl ?_
  apply Tri.nil
  apply Tri.addr
  refine Tri.load 0 H rfl rfl ?_
  apply bL
  refine Tri.lenV 2 f.va.length H rfl (by decide) (by simp) ?_
  apply Tri.bs
  refine Tri.lss (fun e => by omega) (fun e => ?_)
  apply Tri.iff
  apply Tri.nil
  apply Tri.addr
  refine Tri.load 0 H rfl rfl ?_
  apply bL
  refine Tri.lenV 2 f.va.length H rfl (by decide) (by simp) ?_
  apply Tri.bs
  refine Tri.subN (by omega) (by omega) ?_
  exact Tri.done (B := [_, _, _]) ⟨f.boV, f.bo, f.sl, rfl, rfl, hb, Int.le_refl _, by omega⟩ H L
 | succ m ih =>
  intro f h l H hb hv h0 hm
  by_cases hlt : f.sl < (f.va.length : Int)
  ·refine t1 e53 fun L => ?_
   unfold B53
   apply Tri.nil
   apply Tri.addr
   apply Tri.addr
   refine Tri.load 0 H rfl rfl ?_
   apply Tri.nil
   apply Tri.addr
   refine Tri.load 0 H rfl rfl ?_
   apply bL
   refine Tri.lenV 2 f.va.length H rfl (by decide) (by simp) ?_
   apply Tri.bs
   refine Tri.lss (fun e => ?_) (fun e => by omega)
   apply Tri.ift
   apply Tri.nil
   apply Tri.addr
   apply Tri.addr
   refine Tri.load 0 H rfl rfl ?_
   refine Tri.addN (by omega) (by omega) ?_
   apply Tri.nil
   apply Tri.addr
   apply Tri.addr
   refine sto 0 H rfl rfl L (by first | rfl | assumption) fun h H L => ?_
   apply Tri.nil
   apply Tri.addr
   apply Tri.addr
   refine Tri.load 0 H rfl rfl ?_
   refine Tri.bld (e := _) (s := _) H L rfl rfl fun b34 h hb34 H L => ?_
   refine Tri.app 2 f.bo.length 1 H rfl (H.newCells (i := 0) rfl rfl) (by decide) (by simp) rfl (by omega) (by omega) rfl L (Own.off _ _) fun v' h H L O o1 => ?_
   replace H := H.tl
   apply Tri.nil
   apply Tri.addr
   apply Tri.addr
   refine sto 0 H rfl rfl L (by first | rfl | assumption) fun h H L => ?_
   have e1 : f.bo.map V.bool ++ (V.bool false :: [].append []) = (f.bo ++ [false]).map V.bool := by rw [List.map_append]; rfl
   replace H : St (_ :: vc true v' 4 1 (f.bo.map V.bool ++ (V.bool false :: [].append [])) :: _) _ := H
   rw [e1] at H
   refine Tri.tail (ih (f := { f with boV := v', bo := f.bo ++ [false], sl := f.sl + 1 }) H (by simp; omega) hv h0 (by show (f.va.length : Int) - (f.sl + 1) ≤ _; omega)) L (fun e => e) fun v h B hq H L => ?_
   obtain ⟨boV, bo, sl, rfl, rfl, b1, b2, b3⟩ := hq
   exact ⟨_, ⟨boV, bo, sl, rfl, rfl, b1, by have : f.sl + 1 ≤ sl := b2; omega, b3⟩, H⟩
  ·refine t1 e53 fun L => ?_
   unfold B53
   apply Tri.nil
   apply Tri.addr
   apply Tri.addr
   refine Tri.load 0 H rfl rfl ?_
   apply Tri.nil
   apply Tri.addr
   refine Tri.load 0 H rfl rfl ?_
   apply bL
   refine Tri.lenV 2 f.va.length H rfl (by decide) (by simp) ?_
   apply Tri.bs
   refine Tri.lss (fun e => by omega) (fun e => ?_)
   apply Tri.iff
   apply Tri.nil
   apply Tri.addr
   refine Tri.load 0 H rfl rfl ?_
   apply bL
   refine Tri.lenV 2 f.va.length H rfl (by decide) (by simp) ?_
   apply Tri.bs
   refine Tri.subN (by omega) (by omega) ?_
   exact Tri.done (B := [_, _, _]) ⟨f.boV, f.bo, f.sl, rfl, rfl, hb, Int.le_refl _, by omega⟩ H L
theorem sp56 {p : Nat × Nat} {nm : Bs} {ln : Int} (T : Top X p f) (hf : FnIn S X.strs.length X.fns.length f) (hfl : X.fe ≠ 0 ∨ X.fl = 0) (H : St (frz S :: MK X :: l) h) :
 Tri h false l (fun v B => (∃ fe fl, v = .int .i64 0 ∧ B = [frz S, MK { X with fe := fe, fl := fl }] ∧ fe ≠ 0 ∧ f.va.length = 120) ∨
  (∃ vaV boV bo sl, v = .int .i64 (f.va.length : Nat) ∧ B = [frz S, MK (X.put p.1 { f with vaV := vaV, va := f.va ++ [nm], boV := boV, bo := bo, sl := sl })] ∧ (bo.length : Int) = sl ∧ f.sl ≤ sl ∧ f.va.length + 1 ≤ bo.length ∧ f.va.length + 1 ≤ 120)) (M 56 [.ptr X.mb 0, .str nm, .int .i64 ln] h) := by
 refine t3 e56 fun L => ?_
 unfold B56
 refine tb1 (top106 T H) L fun v h B hq H L => ?_
 obtain ⟨rfl, rfl⟩ := hq
 have hvm := hf.vm
 replace H := openF H T.at_
 apply Tri.nil
 apply Tri.addr
 refine Tri.load 0 H rfl rfl ?_
 apply bL
 refine Tri.lenV 5 f.va.length H rfl (by decide) (by simp) ?_
 apply Tri.bs
 refine Tri.eql (fun e => ?_) (fun e => ?_)
 ·apply Tri.ift
  refine tb (sp54 (closeF0 T.at_ H) (by decide) hfl) L fun v h B hq H L => ?_
  obtain ⟨rfl, fe, fl, rfl, hfe⟩ := hq
  exact Tri.done (B := [frz S, MK { X with fe := fe, fl := fl }]) (.inl ⟨fe, fl, rfl, rfl, hfe, by omega⟩) H L
 ·apply Tri.iff
  apply Tri.nil
  apply Tri.addr
  refine Tri.load 0 H rfl rfl ?_
  refine Tri.bldS rfl ?_
  refine Tri.bld (e := _) (s := _) H L rfl rfl fun b35 h hb35 H L => ?_
  refine Tri.app 6 f.va.length 1 H rfl (H.newCells (i := 0) rfl rfl) (by decide) (by simp) rfl (by omega) (by omega) rfl L (Own.off _ _) fun v' h H L O o1 => ?_
  replace H := H.tl
  apply Tri.nil
  apply Tri.addr
  refine sto 0 H rfl rfl L (by first | rfl | assumption) fun h H L => ?_
  have e1 : f.va.map V.str ++ (V.str nm :: [].append []) = (f.va ++ [nm]).map V.str := by rw [List.map_append]; rfl
  replace H : St (_ :: _ :: _ :: _ :: _ :: vc true v' 136 1 (f.va.map V.str ++ (V.str nm :: [].append [])) :: _) _ := H
  rw [e1] at H
  have H2 := ((H.out 5).out 2).out 2
  refine Tri.tail (sp53 120 (f := { f with vaV := v', va := f.va ++ [nm] }) H2 hf.bo (by simp; omega) (by simp) (by have := hf.bo; simp; omega)) L (fun e => e) fun v h B hq H L => ?_
  obtain ⟨boV, bo, sl, rfl, rfl, b1, b2, b3⟩ := hq
  have b3' : f.va.length + 1 ≤ bo.length := by simpa using b3
  have H3 := H.u2.ins 5
  refine ⟨[frz S, MK (X.put p.1 { f with vaV := v', va := f.va ++ [nm], boV := boV, bo := bo, sl := sl })], .inr ⟨v', boV, bo, sl, by simp, rfl, b1, b2, b3', by omega⟩, ?_⟩
  exact closeF (f' := { f with vaV := v', va := f.va ++ [nm], boV := boV, bo := bo, sl := sl }) T.at_ rfl H3 (X.u + 1)
theorem map_get {s : Bs} {n : Nat} : ∀ {es : List (V × V)}, MapIn es n → ∃ r, mapGet (.str s) es = some r ∧ ∀ v, r = some v → ∃ k : Int, v = .int .i64 k ∧ 0 ≤ k ∧ k < n
 | [], _ => ⟨none, rfl, fun _ e => nomatch e⟩
 | (k', v) :: es, h => by
  obtain ⟨⟨s', e1⟩, e2⟩ := h.e (k', v) (by simp)
  simp only at e1 e2
  subst e1
  obtain ⟨r, h1, h2⟩ := map_get (s := s) (es := es) ⟨fun p hp => h.e p (by simp [hp])⟩
  show ∃ r, (bif s.eq s' then some (some v) else mapGet (.str s) es) = some r ∧ _
  cases s.eq s'
  ·exact ⟨r, h1, h2⟩
  ·exact ⟨some v, rfl, fun w hw => by cases hw; exact e2⟩
theorem Bs.eq_self (s : Bs) : s.eq s = true := by
 unfold Bs.eq
 rw [Nat.beq_refl, Nat.beq_refl]
theorem map_set {s : Bs} {v : V} {n : Nat} : ∀ {es : List (V × V)}, MapIn es n → mapGet (.str s) (mapSet (.str s) v es) = some (some v)
 | [], _ => by
  show (bif s.eq s then some (some v) else mapGet (.str s) []) = _
  rw [Bs.eq_self]; rfl
 | (k', w) :: es, h => by
  obtain ⟨⟨s', e1⟩, _⟩ := h.e (k', w) (by simp)
  simp only at e1
  subst e1
  have ih := map_set (s := s) (v := v) (es := es) ⟨fun p hp => h.e p (by simp [hp])⟩
  show mapGet (.str s) (bif s.eq s' then (.str s, v) :: es else (.str s', w) :: mapSet (.str s) v es) = _
  cases e : s.eq s'
  ·show (bif s.eq s' then some (some w) else mapGet (.str s) (mapSet (.str s) v es)) = _
   rw [e]; exact ih
  ·show (bif s.eq s then some (some v) else mapGet (.str s) es) = _
   rw [Bs.eq_self]; rfl
theorem map_in {s : Bs} {k : Int} {n : Nat} (hk : 0 ≤ k ∧ k < n) : ∀ {es : List (V × V)}, MapIn es n → MapIn (mapSet (.str s) (.int .i64 k) es) n
 | [], _ => ⟨fun p hp => by
  have : p = (.str s, .int .i64 k) := List.mem_singleton.1 hp
  subst this; exact ⟨⟨s, rfl⟩, k, rfl, hk⟩⟩
 | (k', w) :: es, h => by
  obtain ⟨⟨s', e1⟩, e2⟩ := h.e (k', w) (by simp)
  simp only at e1
  subst e1
  have h' : MapIn es n := ⟨fun p hp => h.e p (by simp [hp])⟩
  have ih := map_in (s := s) hk h'
  show MapIn (bif s.eq s' then (.str s, .int .i64 k) :: es else (.str s', w) :: mapSet (.str s) (.int .i64 k) es) n
  cases s.eq s'
  ·exact ⟨fun p hp => by
    rcases List.mem_cons.1 hp with e | e
    ·subst e; exact ⟨⟨s', rfl⟩, e2⟩
    ·exact ih.e p e⟩
  ·exact ⟨fun p hp => by
    rcases List.mem_cons.1 hp with e | e
    ·subst e; exact ⟨⟨s, rfl⟩, k, rfl, hk⟩
    ·exact h'.e p e⟩
theorem MapIn.mono {es : List (V × V)} {m n : Nat} (h : MapIn es m) (hm : m ≤ n) : MapIn es n := ⟨fun p hp => by
 obtain ⟨a, k, b, c, d⟩ := h.e p hp
 exact ⟨a, k, b, c, by omega⟩⟩
theorem sp296 {s : Bs} (hm : MapIn X.es X.strs.length) (hs : X.strs.length ≤ 100000) (H : St (frz S :: MK X :: l) h) :
 Tri h false l (fun v B => ∃ k X', v = .int .i64 k ∧ B = [frz S, MK X'] ∧ 0 ≤ k ∧ k < (X'.strs.length : Int) ∧ (X' = X ∨ ∃ strsV es, X' = { X with strsV := strsV, strs := X.strs ++ [s], es := es, u := X.u + 1 } ∧ MapIn es (X.strs.length + 1))) (M 296 [.ptr X.mb 0, .str s] h) := by
 have fin : ∀ {X : MS} {h : Hp} {k : Int} (H : St (frz S :: MK X :: l) h) (hg : mapGet (.str s) X.es = some (some (.int .i64 k))),
  Tri h false l (fun v B => v = .int .i64 k ∧ B = [frz S, MK X]) (M 111 [.ptr X.mb 0, .str s] h) := by
  intro X h k H hg
  refine t2 e111 fun L => ?_
  unfold B111
  replace H := openM H
  apply Tri.nil
  apply Tri.addr
  refine Tri.load 1 H rfl rfl ?_
  refine Tri.lookT 3 H rfl rfl hg ?_
  skip
  exact Tri.done (B := [frz S, MK X]) ⟨rfl, rfl⟩ (closeM H) L
 obtain ⟨r, hr, hv⟩ := map_get (s := s) hm
 refine t2 e296 fun L => ?_
 unfold B296
 replace H := openM H
 apply Tri.nil
 apply Tri.addr
 refine Tri.load 1 H rfl rfl ?_
 cases r with
 | some w =>
  obtain ⟨k, rfl, h1, h2⟩ := hv w rfl
  refine Tri.lookT 3 H rfl rfl hr ?_
  refine Tri.ext rfl ?_
  refine Tri.ext rfl ?_
  apply Tri.not
  apply Tri.iff
  refine Tri.tail (fin (closeM H) hr) L (fun e => e) fun v h B hq H L => ?_
  obtain ⟨rfl, rfl⟩ := hq
  exact ⟨_, ⟨k, X, rfl, rfl, h1, h2, .inl rfl⟩, H⟩
 | none =>
  refine Tri.lookN 3 H rfl rfl hr ?_
  refine Tri.ext rfl ?_
  refine Tri.ext rfl ?_
  apply Tri.not
  apply Tri.ift
  apply Tri.nil
  apply Tri.addr
  refine Tri.load 1 H rfl rfl ?_
  apply Tri.nil
  apply Tri.addr
  apply Tri.addr
  refine Tri.load 1 H rfl rfl ?_
  apply bL
  refine Tri.lenV 2 X.strs.length H rfl (by decide) (by simp) ?_
  apply Tri.bs
  refine Tri.upd 3 H rfl rfl hr L (fun e => nomatch e) fun h H L => ?_
  apply Tri.nil
  apply Tri.addr
  apply Tri.addr
  refine Tri.load 1 H rfl rfl ?_
  refine Tri.bld (e := _) (s := _) H L rfl rfl fun b34 h hb34 H L => ?_
  replace H := H.d1
  refine Tri.app 3 X.strs.length 1 H rfl (H.newCells (i := 1) rfl rfl) (by decide) (by simp) rfl (by omega) (by omega) rfl L (Own.off _ _) fun v' h H L O o1 => ?_
  replace H := H.x1
  apply Tri.nil
  apply Tri.addr
  apply Tri.addr
  refine sto 1 H rfl rfl L (by first | rfl | assumption) fun h H L => ?_
  have e1 : X.strs.map V.str ++ (V.str s :: [].append []) = (X.strs ++ [s]).map V.str := by rw [List.map_append]; rfl
  replace H : St (_ :: _ :: vc true v' 9 1 (X.strs.map V.str ++ (V.str s :: [].append [])) :: _) _ := H
  rw [e1] at H
  have hm2 := map_in (s := s) (k := (X.strs.length : Nat)) (n := X.strs.length + 1) ⟨by omega, by omega⟩ (hm.mono (Nat.le_succ _))
  refine Tri.tail (fin (X := { X with strsV := v', strs := X.strs ++ [s], es := mapSet (.str s) (.int .i64 (X.strs.length : Nat)) X.es, u := X.u + 1 }) (closeM (X := { X with strsV := v', strs := X.strs ++ [s], es := mapSet (.str s) (.int .i64 (X.strs.length : Nat)) X.es, u := X.u + 1 }) H) (map_set hm)) L (fun e => e) fun v h B hq H L => ?_
  obtain ⟨rfl, rfl⟩ := hq
  exact ⟨_, ⟨_, _, rfl, rfl, by omega, by simp; omega, .inr ⟨v', _, rfl, hm2⟩⟩, H⟩
theorem loop121 {nm : Bs} (m : Nat) : ∀ {j : Int} {h : Hp} {l : List Asn} (H : St (Mid.row f.fb f.row :: vc true f.vaV 136 1 (f.va.map V.str) :: l) h) (h1 : -1 ≤ j) (h2 : j < (f.va.length : Int)) (hv : f.va.length ≤ 120) (hm : j + 1 ≤ (m : Int)),
 Tri h true l (fun v B => ∃ r, v = .int .i64 r ∧ B = [Mid.row f.fb f.row, vc true f.vaV 136 1 (f.va.map V.str)] ∧ -1 ≤ r ∧ r < (f.va.length : Int)) (M 121 [.ptr f.fb 0, .str nm, .int .i64 j] h) := by
 induction m with
 | zero =>
  intro j h l H h1 h2 hv hm
  refine t3 e121 fun L => ?_
  unfold B121
  refine Tri.geq (fun e => by omega) (fun e => ?_)
  apply Tri.iff
  exact Tri.done (B := [_, _]) ⟨-1, rfl, rfl, by omega, by omega⟩ H L
 | succ m ih =>
  intro j h l H h1 h2 hv hm
  refine t3 e121 fun L => ?_
  unfold B121
  refine Tri.geq (fun e => ?_) (fun e => ?_)
  ·apply Tri.ift
   apply Tri.nil
   apply Tri.addr
   refine Tri.load 0 H rfl rfl ?_
   refine Tri.idxV 1 H rfl e (by rw [List.length_map]; omega) (by decide) fun b nn cc g hv' _ => ?_
   have hj : f.va[j.toNat]? = some (f.va[j.toNat]'(by omega)) := List.getElem?_eq_getElem _
   apply Tri.addr
   refine Tri.loadV 1 (hv' ▸ H) rfl (w := .str (f.va[j.toNat]'(by omega))) (by rw [Nat.zero_add, Nat.mul_one, Nat.add_zero, List.getElem?_map, hj]; rfl) ?_
   refine Tri.strEq fun s20 es20 => ?_
   cases s20
   ·apply Tri.iff
    refine Tri.subN (by omega) (by omega) ?_
    refine te (ih H (by omega) (by omega) hv (by omega)) L
   ·apply Tri.ift
    exact Tri.done (B := [_, _]) ⟨j, rfl, rfl, by omega, by omega⟩ H L
  ·apply Tri.iff
   exact Tri.done (B := [_, _]) ⟨-1, rfl, rfl, by omega, by omega⟩ H L
theorem sp324 {nm : Bs} (hi : X.fns[i]? = some f) (hv : f.va.length ≤ 120) (H : St (frz S :: MK X :: l) h) :
 Tri h true l (fun v B => ∃ r, v = .int .i64 r ∧ B = [frz S, MK X] ∧ -1 ≤ r ∧ r < (f.va.length : Int)) (M 324 [.ptr f.fb 0, .str nm] h) := by
 refine t2 e324 fun L => ?_
 unfold B324
 replace H := openF H hi
 apply Tri.nil
 apply Tri.addr
 refine Tri.load 0 H rfl rfl ?_
 apply bL
 refine Tri.lenV 5 f.va.length H rfl (by decide) (by simp) ?_
 apply Tri.bs
 refine Tri.subN (by omega) (by omega) ?_
 have H2 := (H.out 5).out 1
 refine Tri.tail (loop121 f.va.length H2 (by omega) (by omega) hv (by omega)) L (fun e => e) fun v h B hq H L => ?_
 obtain ⟨r, rfl, rfl, h1, h2⟩ := hq
 exact ⟨_, ⟨r, rfl, rfl, h1, h2⟩, closeF0 hi (H.u1.ins 5)⟩
theorem _root_.Go.Mid.Tri.cmpBI {d : IntKind} {a a' : Bool} {b b' : Int} (hK : ∀ c : Bool, Tri h0 ro F Q (K (.bool c) h)) : Tri h0 ro F Q (bindS (vh h (eqOp .eql (cmpV [(0, .bool), (1, .int d)] (.agg [.bool a, .int d b]) (.agg [.bool a', .int d b'])))) K) := by
 have e : ∃ c, cmpV [(0, .bool), (1, .int d)] (.agg [.bool a, .int d b]) (.agg [.bool a', .int d b']) = some c := by
  simp only [cmpV, cmpL, getN, eqLeaf, kEq_self, iEq_eq, cond_true]
  cases (a == a')
  ·exact ⟨_, rfl⟩
  ·simp only []
   cases (b == b') <;> exact ⟨_, rfl⟩
 obtain ⟨c, hc⟩ := e
 rw [hc]; exact hK c
theorem up_len (l : List (Bool × Int)) : (l.flatMap upc).length = l.length * 2 := by
 induction l with
 | nil => rfl
 | cons a l ih => rw [List.flatMap_cons, List.length_append, ih, List.length_cons]; simp [upc]; omega
theorem up_at (l : List (Bool × Int)) (j : Nat) (hj : j < l.length) : ((l.flatMap upc).drop (0 + j * 2)).take 2 = upc l[j] := by
 induction l generalizing j with
 | nil => simp at hj
 | cons a l ih =>
  cases j with
  | zero => simp [upc]
  | succ j =>
   rw [List.flatMap_cons, show 0 + (j + 1) * 2 = (upc a).length + (0 + j * 2) by simp [upc]; omega, List.drop_length_add_append]
   exact ih j (by simpa using hj)
theorem loop123 {ups : List (Bool × Int)} {upV : V} {ub : Nat} {lo : Bool} {at0 : Int} (hl : ups.length ≤ 60) (m : Nat) : ∀ {j : Int} {h : Hp} {l : List Asn} (H : St (vc true upV 75 2 (ups.flatMap upc) :: row ub [.bool lo, .int .i64 at0] :: l) h) (h1 : 0 ≤ j) (hm : (ups.length : Int) - j ≤ (m : Int)),
 Tri h true l (fun v B => ∃ r, v = .int .i64 r ∧ B = [vc true upV 75 2 (ups.flatMap upc)] ∧ -1 ≤ r ∧ r < (ups.length : Int)) (M 123 [upV, .ptr ub 0, .int .i64 (ups.length : Nat), .int .i64 j] h) := by
 induction m with
 | zero =>
  intro j h l H h1 hm
  refine t4 e123 fun L => ?_
  unfold B123
  refine Tri.lss (fun e => by omega) (fun e => ?_)
  apply Tri.iff
  exact Tri.done (B := [_]) ⟨-1, rfl, rfl, by omega, by omega⟩ H.x1 L
 | succ m ih =>
  intro j h l H h1 hm
  refine t4 e123 fun L => ?_
  unfold B123
  refine Tri.lss (fun e => ?_) (fun e => ?_)
  ·apply Tri.ift
   refine ls 1 H rfl rfl ?_
   refine Tri.idxV 0 H rfl h1 (by rw [up_len]; omega) (by decide) fun b nn cc g hv _ => ?_
   refine Tri.loadsV 0 (by decide) (hv ▸ H) rfl (by rw [up_len]; omega) (up_at ups j.toNat (by omega)) ?_
   refine Tri.cmpBI fun c => ?_
   cases c
   ·apply Tri.iff
    refine Tri.addN (by omega) (by omega) ?_
    refine te (ih H (by omega) (by omega)) L
   ·apply Tri.ift
    exact Tri.done (B := [_]) ⟨j, rfl, rfl, by omega, by omega⟩ H.x1 L
  ·apply Tri.iff
   exact Tri.done (B := [_]) ⟨-1, rfl, rfl, by omega, by omega⟩ H.x1 L
theorem sp334 {ups : List (Bool × Int)} {upV : V} {lo : Bool} {at0 : Int} (hl : ups.length ≤ 60) (H : St (vc true upV 75 2 (ups.flatMap upc) :: l) h) :
 Tri h true l (fun v B => ∃ r, v = .int .i64 r ∧ B = [vc true upV 75 2 (ups.flatMap upc)] ∧ -1 ≤ r ∧ r < (ups.length : Int)) (M 334 [upV, .agg [.bool lo, .int .i64 at0]] h) := by
 refine t2 e334 fun L => ?_
 unfold B334
 refine Tri.newS H L fun b0 h hb0 H L => ?_
 apply bL
 refine Tri.lenV 1 ups.length H rfl (by decide) (up_len _) ?_
 apply Tri.bs
 refine te (loop123 hl ups.length H.u1 (by omega) (by omega)) L
def rUp (S : Mem) (X : MS) (q : Nat × Nat) : V → List Asn → Prop := fun v B => ∃ X' r f', v = .int .i64 r ∧ B = [frz S, MK X'] ∧ Inv1 S X' ∧ Ext1 S X S X' ∧ X'.u = X.u ∧ X'.fns[q.1]? = some f' ∧ -1 ≤ r ∧ r < (f'.up.length : Int)
theorem fu_at {m : Nat} {q : Nat × Nat} (hm : X.fu[m]? = some q) : (ptrs X.fu)[m]? = some (.ptr q.2 0) := by unfold ptrs; rw [List.getElem?_map, hm]; rfl
theorem sp119 {m : Nat} {q : Nat × Nat} {ln at0 : Int} {lo : Bool} {ub : Nat} (I : Inv1 S X) (hm : X.fu[m]? = some q) (H : St (frz S :: MK X :: row ub [.bool lo, .int .i64 at0] :: l) h) :
 Tri h false l (rUp S X q) (M 119 [.ptr X.mb 0, .int .i64 (m : Nat), .int .i64 ln, .ptr ub 0] h) := by
 obtain ⟨hml, _⟩ := List.getElem?_eq_some_iff.1 hm
 obtain ⟨f, hi, hfb⟩ := I.fu q (List.mem_of_getElem? hm)
 have hf := I.fns f (List.mem_of_getElem? hi)
 have huf := I.uf
 have htop := I.top
 refine t4 e119 fun L => ?_
 unfold B119
 replace H := openF H hi
 apply Tri.nil
 apply Tri.addr
 refine Tri.load 8 H rfl rfl ?_
 refine Tri.idxV 11 H rfl (by omega) (by rw [ptrs_len]; omega) (by decide) fun b nn cc g hv _ => ?_
 refine Tri.loadV 11 (hv ▸ H) rfl (w := .ptr q.2 0) (by rw [show 0 + ((m : Nat) : Int).toNat * 1 = m by omega]; exact fu_at hm) ?_
 rw [← hfb]
 apply Tri.nil
 apply Tri.addr
 apply Tri.addr
 refine Tri.load 0 H rfl rfl ?_
 refine ls 17 H rfl rfl ?_
 have H2 := H.out 2
 refine tb1 (sp334 hf.um H2) L fun v h B hq H L => ?_
 obtain ⟨r, rfl, rfl, r1, r2⟩ := hq
 replace H : St (_ :: _ :: vc true f.upV 75 2 (f.up.flatMap upc) :: _) _ := St.ins H 2
 apply Tri.addr
 refine Tri.load 17 H rfl rfl ?_
 refine Tri.lss (fun e => ?_) (fun e => ?_)
 ·apply Tri.ift
  exact Tri.done (B := [frz S, MK X]) ⟨X, -1, f, rfl, rfl, I, Ext1.refl S X, rfl, hi, by omega, by omega⟩ (closeF0 hi H).x2 L
 ·apply Tri.iff
  refine Tri.geq (fun e2 => ?_) (fun e2 => ?_)
  ·apply Tri.ift
   exact Tri.done (B := [frz S, MK X]) ⟨X, r, f, rfl, rfl, I, Ext1.refl S X, rfl, hi, r1, r2⟩ (closeF0 hi H).x2 L
  ·apply Tri.iff
   apply Tri.nil
   apply Tri.addr
   apply Tri.addr
   refine Tri.load 0 H rfl rfl ?_
   apply bL
   refine Tri.lenV 2 f.up.length H rfl (by decide) (up_len _) ?_
   apply Tri.bs
   refine Tri.eql (fun e3 => ?_) (fun e3 => ?_)
   ·apply Tri.ift
    refine tb (sp54 (closeF0 hi H) (by decide) I.fault) L fun v h B hq H L => ?_
    obtain ⟨rfl, fe, fl, rfl, hfe⟩ := hq
    skip
    obtain ⟨I2, E2⟩ := I.flt (fl := fl) hfe
    exact Tri.done (B := [frz S, MK { X with fe := fe, fl := fl }]) ⟨_, -1, f, rfl, rfl, I2, E2, rfl, hi, by omega, by omega⟩ H.x2 L
   ·apply Tri.iff
    apply Tri.nil
    apply Tri.addr
    apply Tri.addr
    refine Tri.load 0 H rfl rfl ?_
    refine ls 17 H rfl rfl ?_
    refine Tri.drawBld H L (fun _ => rfl) rfl fun b36 h hb36 H L => ?_
    have hum := hf.um
    refine Tri.drawApp 3 f.up.length 1 H rfl (H.newCells (i := 0) rfl rfl) (by decide) (up_len _) rfl (by omega) (by omega) rfl L (Own.off _ _) fun v' h H L O o1 => ?_
    replace H := H.tl
    apply Tri.nil
    apply Tri.addr
    apply Tri.addr
    refine sto 0 H rfl rfl L (by first | rfl | assumption) fun h H L => ?_
    apply Tri.nil
    apply Tri.addr
    apply Tri.addr
    refine Tri.load 0 H rfl rfl ?_
    apply bL
    have e1 : f.up.flatMap upc ++ (V.bool lo :: V.int .i64 at0 :: [].append []) = (f.up ++ [(lo, at0)]).flatMap upc := by rw [List.flatMap_append]; rfl
    replace H : St (_ :: _ :: vc true v' 75 2 (f.up.flatMap upc ++ (V.bool lo :: V.int .i64 at0 :: [].append [])) :: _) _ := H
    rw [e1] at H
    refine Tri.lenV 2 (f.up.length + 1) H rfl (by decide) (by rw [up_len]; simp) ?_
    apply Tri.bs
    refine Tri.subN (by omega) (by omega) ?_
    have hus := I.us f (List.mem_of_getElem? hi)
    obtain ⟨I2, E2⟩ := I.putU (f' := { f with upV := v', up := f.up ++ [(lo, at0)] }) X.u (Nat.le_refl _) hi
     ⟨hf.bo, hf.va, hf.vm, by simp; omega, hf.ss, fun j e he => ⟨(hf.es j e he).1, (hf.es j e he).2.1, (hf.es j e he).2.2.mono (Nat.le_refl _) (Nat.le_refl _) (Int.le_refl _) (by simp)⟩⟩
     ⟨rfl, rfl, rfl, Nat.le_refl _, Nat.le_refl _, Int.le_refl _, by simp, Nat.le_refl _⟩ (fun hn => (hn q (List.mem_of_getElem? hm) rfl).elim) hus htop
    refine Tri.done (B := [frz S, MK { X with fns := X.fns.set q.1 { f with upV := v', up := f.up ++ [(lo, at0)] }, u := X.u }]) ⟨_, _, { f with upV := v', up := f.up ++ [(lo, at0)] }, rfl, rfl, I2, E2, rfl, List.getElem?_set_self (List.getElem?_eq_some_iff.1 hi).1, by omega, by rw [show ((f.up ++ [(lo, at0)]).length) = f.up.length + 1 by simp]; omega⟩ (closeF (f' := { f with upV := v', up := f.up ++ [(lo, at0)] }) hi rfl H X.u).x2 L
theorem sp326 {nm : Bs} {ln : Int} (m : Nat) : ∀ {X : MS} {h : Hp} {l : List Asn} {q : Nat × Nat} (I : Inv1 S X) (hm : X.fu[m]? = some q) (H : St (frz S :: MK X :: l) h),
 Tri h false l (rUp S X q) (M 326 [.ptr X.mb 0, .int .i64 (m : Nat), .str nm, .int .i64 ln] h) := by
 induction m with
 | zero =>
  intro X h l q I hm H
  obtain ⟨f, hi, hfb⟩ := I.fu q (List.mem_of_getElem? hm)
  refine t4 e326 fun L => ?_
  unfold B326
  refine Tri.eql (fun _ => ?_) (fun e => absurd e (by decide))
  apply Tri.ift
  exact Tri.done (B := [frz S, MK X]) ⟨X, -1, f, rfl, rfl, I, Ext1.refl S X, rfl, hi, by omega, by omega⟩ H L
 | succ m ih =>
  intro X h l q I hm H
  obtain ⟨hml, _⟩ := List.getElem?_eq_some_iff.1 hm
  have hm' : X.fu[m]? = some (X.fu[m]'(by omega)) := List.getElem?_eq_getElem _
  obtain ⟨q', hq'⟩ : ∃ q', q' = X.fu[m]'(by omega) := ⟨_, rfl⟩
  rw [← hq'] at hm'
  obtain ⟨f', hi', hfb'⟩ := I.fu q' (List.mem_of_getElem? hm')
  have hf' := I.fns f' (List.mem_of_getElem? hi')
  have hus' := I.us f' (List.mem_of_getElem? hi')
  have huf := I.uf
  have htop := I.top
  refine t4 e326 fun L => ?_
  unfold B326
  refine Tri.eql (fun e => by omega) (fun e => ?_)
  replace H := openM H
  apply Tri.iff
  apply Tri.nil
  apply Tri.addr
  refine Tri.load 1 H rfl rfl ?_
  refine Tri.subN (by omega) (by omega) ?_
  refine Tri.idxV 4 H rfl (by omega) (by rw [ptrs_len]; omega) (by decide) fun b nn cc g hv _ => ?_
  refine Tri.loadV 4 (hv ▸ H) rfl (w := .ptr q'.2 0) (by rw [show 0 + (((m + 1 : Nat) : Int) - 1).toNat * 1 = m by omega]; exact fu_at hm') ?_
  rw [← hfb']
  skip
  refine tb1 (sp324 hi' hf'.vm (closeM H)) L fun v h B hq H L => ?_
  obtain ⟨at0, rfl, rfl, a1, a2⟩ := hq
  refine Tri.bldS rfl ?_
  refine Tri.newS H L fun b21 h hb21 H L => ?_
  replace H := H.d2
  refine Tri.stores 2 (by decide) H rfl rfl (Nat.le_of_ble_eq_true rfl) L (fun e => nomatch e) (by first | rfl | assumption) fun h H L => ?_
  apply Tri.addr
  refine Tri.load 2 H rfl rfl ?_
  refine Tri.geq (fun e2 => ?_) (fun e2 => ?_)
  ·replace H := openF H hi'
   apply Tri.ift
   apply Tri.nil
   apply Tri.addr
   refine Tri.load 8 H rfl rfl ?_
   refine Tri.subN (by omega) (by omega) ?_
   refine Tri.idxV 11 H rfl (by omega) (by rw [ptrs_len]; omega) (by decide) fun b nn cc g hv _ => ?_
   refine Tri.loadV 11 (hv ▸ H) rfl (w := .ptr q'.2 0) (by rw [show 0 + (((m + 1 : Nat) : Int) - 1).toNat * 1 = m by omega]; exact fu_at hm') ?_
   rw [← hfb']
   apply Tri.nil
   apply Tri.addr
   apply Tri.addr
   refine Tri.load 0 H rfl rfl ?_
   apply Tri.addr
   refine Tri.load 17 H rfl rfl ?_
   have hbo := hf'.bo
   have hva := hf'.va
   refine Tri.idxV 1 H rfl e2 (by rw [List.length_map]; omega) (by decide) fun b nn cc g hv _ => ?_
   rw [hv] at H
   refine Tri.storeV 1 H rfl (by rw [List.length_map]; omega) L (fun e => nomatch e) rfl fun h H L => ?_
   rw [← hv] at H
   rw [show (f'.bo.map V.bool).set (0 + at0.toNat * 1) (.bool true) = (f'.bo.set at0.toNat true).map V.bool by rw [Nat.zero_add, Nat.mul_one, List.map_set]] at H
   obtain ⟨I2, E2⟩ := I.putU (f' := { f' with bo := f'.bo.set at0.toNat true }) X.u (Nat.le_refl _) hi'
    ⟨by simpa using hbo, by simpa using hva, hf'.vm, hf'.um, hf'.ss, hf'.es⟩
    ⟨rfl, rfl, rfl, Nat.le_refl _, Nat.le_refl _, Int.le_refl _, Nat.le_refl _, Nat.le_refl _⟩ (fun hn => (hn q' (List.mem_of_getElem? hm') rfl).elim) hus' htop
   have H3 := closeF (f' := { f' with bo := f'.bo.set at0.toNat true }) hi' rfl H X.u
   refine Tri.tail (sp119 (X := { X with fns := X.fns.set q'.1 { f' with bo := f'.bo.set at0.toNat true }, u := X.u }) I2 (m := m + 1) (q := q) hm H3) L (fun e => e) fun v h B hq H L => ?_
   obtain ⟨X', r, f1, b1, b2, b3, b4, b5, b6, b7, b8⟩ := hq
   exact ⟨B, ⟨X', r, f1, b1, b2, b3, E2.trans b4, b5, b6, b7, b8⟩, H⟩
  ·apply Tri.iff
   refine Tri.subN (by omega) (by omega) ?_
   rw [show (((m + 1 : Nat) : Int) - 1) = (m : Nat) by omega]
   refine tb (ih I hm' H) L fun v h B hq H L => ?_
   obtain ⟨X', r, f1, rfl, rfl, b3, b4, b5, b6, b7, b8⟩ := hq
   refine Tri.bldS rfl ?_
   refine Tri.stores 2 (by decide) H rfl rfl (Nat.le_of_ble_eq_true rfl) L (fun e => nomatch e) (by first | rfl | assumption) fun h H L => ?_
   have hm2 : X'.fu[m + 1]? = some q := by rw [b4.fu]; exact hm
   have : Tri h false l (rUp S X' q) (M 119 [.ptr X'.mb 0, .int .i64 ((m + 1 : Nat) : Int), .int .i64 ln, .ptr b21 0] h) := sp119 b3 hm2 H
   rw [b4.mb] at this
   refine Tri.tail this L (fun e => e) fun v h B hq H L => ?_
   obtain ⟨X2, r2, f2, c1, c2, c3, c4, c5, c6, c7, c8⟩ := hq
   exact ⟨B, ⟨X2, r2, f2, c1, c2, c3, b4.trans c4, by rw [c5, b5], c6, c7, c8⟩, H⟩
def KdOk (kd r : Int) : Prop := (r = 5 → kd = 24) ∧ (r = 7 → kd = 26) ∧ (r = 13 → kd = 30) ∧ r ≠ 8 ∧ r ≠ 9 ∧ r ≠ 10
def rKd (kd : Int) : V → List Asn → Prop := fun v B => ∃ r, v = .int .u8 r ∧ B = [] ∧ KdOk kd r
theorem dKd {kd r : Int} (hk : KdOk kd r) (H : St l h) (L : Lo ro h0 h) : Tri h0 ro l (rKd kd) (some (.int .u8 r, h)) := Tri.done (B := []) ⟨r, rfl, rfl, hk⟩ H L
theorem u8w {a b : Int} (h1 : 0 ≤ a + b) (h2 : a + b ≤ 255) (h3 : 0 ≤ a) (h4 : a ≤ 255) : IntKind.u8.wrap (IntKind.u8.wrap a + b) = a + b := by
 rw [IntWalk.u8_in a ⟨h3, h4⟩, IntWalk.u8_in _ ⟨h1, h2⟩]
theorem sp115 {kd : Int} {b : Bool} (hb : b = true → 28 ≤ kd ∧ kd ≤ 38) (H : St l h) : Tri h true l (rKd kd) (M 115 [.int .u8 kd, .bool b] h) := by
 refine t2 e115 fun L => ?_
 unfold B115
 cases b
 ·apply Tri.iff
  exact dKd (by refine ⟨?_, ?_, ?_, ?_, ?_, ?_⟩ <;> omega) H L
 ·have hb := hb rfl
  apply Tri.ift
  refine Tri.sub ?_
  refine Tri.add ?_
  exact dKd (by rw [u8w (by omega) (by omega) (by omega) (by omega)]; refine ⟨?_, ?_, ?_, ?_, ?_, ?_⟩ <;> omega) H L
theorem sp113 {kd : Int} {b : Bool} (hb : b = true → 20 ≤ kd ∧ kd ≤ 26) (H : St l h) : Tri h true l (rKd kd) (M 113 [.int .u8 kd, .int .u8 kd, .bool b] h) := by
 refine t3 e113 fun L => ?_
 unfold B113
 cases b
 ·apply Tri.iff
  refine Tri.eql (fun e1 => ?_) (fun e1 => ?_)
  ·apply Tri.ift
   refine te1 (sp115 (by first|omega|assumption|rfl|decide) H) L
  ·apply Tri.iff
   refine Tri.eql (fun e3 => ?_) (fun e3 => ?_)
   ·apply Tri.ift
    refine te1 (sp115 (by first|omega|assumption|rfl|decide) H) L
   ·apply Tri.iff
    refine Tri.eql (fun e5 => ?_) (fun e5 => ?_)
    ·apply Tri.ift
     refine te1 (sp115 (by first|omega|assumption|rfl|decide) H) L
    ·apply Tri.iff
     refine Tri.eql (fun e7 => ?_) (fun e7 => ?_)
     ·apply Tri.ift
      refine te1 (sp115 (by first|omega|assumption|rfl|decide) H) L
     ·apply Tri.iff
      refine Tri.eql (fun e9 => ?_) (fun e9 => ?_)
      ·apply Tri.ift
       refine te1 (sp115 (by first|omega|assumption|rfl|decide) H) L
      ·apply Tri.iff
       refine Tri.eql (fun e11 => ?_) (fun e11 => ?_)
       ·apply Tri.ift
        refine te1 (sp115 (by first|omega|assumption|rfl|decide) H) L
       ·apply Tri.iff
        refine Tri.eql (fun e13 => ?_) (fun e13 => ?_)
        ·apply Tri.ift
         refine te1 (sp115 (by first|omega|assumption|rfl|decide) H) L
        ·apply Tri.iff
         refine Tri.eql (fun e15 => ?_) (fun e15 => ?_)
         ·apply Tri.ift
          refine te1 (sp115 (by first|omega|assumption|rfl|decide) H) L
         ·apply Tri.iff
          refine Tri.eql (fun e17 => ?_) (fun e17 => ?_)
          ·apply Tri.ift
           refine te1 (sp115 (by first|omega|assumption|rfl|decide) H) L
          ·apply Tri.iff
           refine Tri.eql (fun e19 => ?_) (fun e19 => ?_)
           ·apply Tri.ift
            refine te1 (sp115 (by first|omega|assumption|rfl|decide) H) L
           ·apply Tri.iff
            refine Tri.eql (fun e21 => ?_) (fun e21 => ?_)
            ·refine te1 (sp115 (by first|omega|assumption|rfl|decide) H) L
            ·exact te (sp115 (by simp; try omega) H) L
 ·have hb := hb rfl
  apply Tri.ift
  refine Tri.sub ?_
  refine Tri.add ?_
  exact dKd (by rw [u8w (by omega) (by omega) (by omega) (by omega)]; refine ⟨?_, ?_, ?_, ?_, ?_, ?_⟩ <;> omega) H L
theorem sp290 {kd : Int} (H : St l h) : Tri h true l (rKd kd) (M 290 [.int .u8 kd] h) := by
 refine t1 e290 fun L => ?_
 unfold B290
 refine Tri.eql (fun e0 => ?_) (fun e0 => ?_)
 ·apply Tri.ift
  refine te1 (sp113 (by first|omega|assumption|rfl|decide) H) L
 ·apply Tri.iff
  refine Tri.eql (fun e2 => ?_) (fun e2 => ?_)
  ·apply Tri.ift
   refine te1 (sp113 (by first|omega|assumption|rfl|decide) H) L
  ·apply Tri.iff
   refine Tri.eql (fun e4 => ?_) (fun e4 => ?_)
   ·apply Tri.ift
    refine te1 (sp113 (by first|omega|assumption|rfl|decide) H) L
   ·apply Tri.iff
    refine Tri.eql (fun e6 => ?_) (fun e6 => ?_)
    ·apply Tri.ift
     refine te1 (sp113 (by first|omega|assumption|rfl|decide) H) L
    ·apply Tri.iff
     refine Tri.eql (fun e8 => ?_) (fun e8 => ?_)
     ·apply Tri.ift
      refine te1 (sp113 (by first|omega|assumption|rfl|decide) H) L
     ·apply Tri.iff
      refine Tri.eql (fun e10 => ?_) (fun e10 => ?_)
      ·apply Tri.ift
       refine te1 (sp113 (by first|omega|assumption|rfl|decide) H) L
      ·apply Tri.iff
       refine Tri.eql (fun e12 => ?_) (fun e12 => ?_)
       ·refine te1 (sp113 (by first|omega|assumption|rfl|decide) H) L
       ·exact te (sp113 (by simp; try omega) H) L
def rX (S : Mem) (X : MS) (k : Nat) (P : Mem → MS → V → Prop) : V → List Asn → Prop := fun v B => ∃ S' X', B = [frz S', MK X'] ∧ Inv1 S' X' ∧ Ext1 S X S' X' ∧ X'.u ≤ X.u + k ∧ P S' X' v
theorem name_ok {p : Nat × Nat} (I : Inv1 S X) (hp : ∃ fu, X.fu = fu ++ [p]) (x : NdIn S n) (hu : X.u + 1 ≤ 100000) (H : St (frz S :: MK X :: l) h) :
 Tri h false l (rX S X 1 fun S' X' v => ∃ kd k f, v = .agg [.int .u8 kd, .int .i64 k, .nilSlice] ∧ X'.fns[p.1]? = some f ∧ NIn X'.strs.length X'.fns.length f.sl f.up.length kd k) (M 294 [.ptr X.mb 0, n.V] h) := by
 obtain ⟨f, T⟩ := I.top_ hp
 obtain ⟨fu, hfu⟩ := hp
 have hf := I.fns f (List.mem_of_getElem? T.at_)
 have hus := I.u
 have huf := I.uf
 have hfl : X.fu.length = fu.length + 1 := by rw [hfu]; simp
 have htop := I.top
 refine t2 e294 fun L => ?_
 unfold B294
 have h1 := x.one
 refine Tri.newS H L fun b0 h hb0 H L => ?_
 replace H := H.d2
 refine Tri.newS H L fun b1 h hb1 H L => ?_
 replace H := H.d2
 have Ho := H
 refine Tri.wrote (top106 T (H.draw _)) L (fun _ => rfl) fun v h2 h B hq H2 hn hl eh H L => ?_
 obtain ⟨rfl, rfl⟩ := hq
 apply Tri.addr
 refine Tri.load 3 Ho rfl rfl ?_
 refine Tri.cd (by rw [show pureB _ _ = true from Nat.ble_eq_true_of_le (hl rfl)]; rfl) ?_
 refine tb1 (sp324 T.at_ hf.vm H) L fun v h B hq H L => ?_
 obtain ⟨r, rfl, rfl, r1, r2⟩ := hq
 skip
 refine Tri.geq (fun e1 => ?_) (fun e1 => ?_)
 ·apply Tri.ift
  refine Tri.bldS rfl ?_
  refine Tri.stores 2 (by decide) H rfl rfl (Nat.le_of_ble_eq_true rfl) L (fun e => nomatch e) (by first | rfl | assumption) fun h H L => ?_
  refine ls 2 H rfl rfl ?_
  exact Tri.done (B := [frz S, MK X]) ⟨S, X, rfl, I, Ext1.refl S X, by omega, 8, r, f, rfl, T.at_, fun e => by omega, fun e => by omega, fun e => ⟨by omega, by have := hf.bo; have := hf.va; omega⟩, fun e => by omega⟩ H.x2.x2 L
 ·replace H := openM H
  apply Tri.iff
  apply Tri.nil
  apply Tri.addr
  refine Tri.load 1 H rfl rfl ?_
  apply bL
  refine Tri.lenV 4 X.fu.length H rfl (by decide) (ptrs_len _) ?_
  apply Tri.bs
  refine Tri.subN (by omega) (by omega) ?_
  apply Tri.addr
  refine Tri.load 11 H rfl rfl ?_
  apply Tri.addr
  refine Tri.load 11 H rfl rfl ?_
  rw [show ((X.fu.length : Nat) : Int) - 1 = (fu.length : Nat) by omega]
  refine tb (sp326 fu.length I (q := p) (by rw [hfu]; simp) (closeM H)) L fun v h B hq H L => ?_
  obtain ⟨X', r', f', rfl, rfl, I', E', u', hi', a1, a2⟩ := hq
  skip
  refine Tri.geq (fun e2 => ?_) (fun e2 => ?_)
  ·apply Tri.ift
   refine Tri.bldS rfl ?_
   refine Tri.stores 2 (by decide) H rfl rfl (Nat.le_of_ble_eq_true rfl) L (fun e => nomatch e) (by first | rfl | assumption) fun h H L => ?_
   refine ls 2 H rfl rfl ?_
   exact Tri.done (B := [frz S, MK X']) ⟨S, X', rfl, I', E', by omega, 9, r', f', rfl, hi', fun e => by omega, fun e => by omega, fun e => by omega, fun e => ⟨by omega, a2⟩⟩ H.x2.x2 L
  ·apply Tri.iff
   apply Tri.addr
   refine Tri.load 3 H rfl rfl ?_
   have hs' := I'.u
   have ht' := I'.top
   rw [← E'.mb]
   refine tb (sp296 (s := n.nm) I'.map (by omega) H) L fun v h B hq H L => ?_
   obtain ⟨k, X2, rfl, rfl, k1, k2, hX⟩ := hq
   refine Tri.bldS rfl ?_
   refine Tri.stores 2 (by decide) H rfl rfl (Nat.le_of_ble_eq_true rfl) L (fun e => nomatch e) (by first | rfl | assumption) fun h H L => ?_
   refine ls 2 H rfl rfl ?_
   rcases hX with hX | ⟨strsV, es, rfl, hm⟩
   ·rw [hX] at H k2
    exact Tri.done (B := [frz S, MK X']) ⟨S, X', rfl, I', E', by omega, 10, k, f', rfl, hi', fun e => ⟨k1, k2⟩, fun e => by omega, fun e => by omega, fun e => by omega⟩ H.x2.x2 L
   ·obtain ⟨I2, E2⟩ := I'.strs (strsV := strsV) (s := n.nm) hm (by omega)
    exact Tri.done (B := [frz S, MK _]) ⟨S, _, rfl, I2, E'.trans E2, by show X'.u + 1 ≤ _; omega, 10, k, f', rfl, hi', fun e => ⟨k1, k2⟩, fun e => by omega, fun e => by omega, fun e => by omega⟩ H.x2.x2 L
end
end Go.FP
end
