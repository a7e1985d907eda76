import Derived.Test.YthbcbfgpfpogkaaGreatFMidAA
import Derived.Laws.BytesString
import Derived.Lib.Builder
import Derived.Lib.UnsafeStr
import Derived.Lib.MakeNoZero
import Derived.Laws.Externs
set_option linter.all false
set_option warn.classDefReducibility false
/- The operations of MidBB are the model's: those that read, those that write; all of them. -/
section
namespace Go.Mid
open Go.RowKit
variable {P : Program}

theorem push_all : ∀ (ns : List Int) (r : ByteArray), ns.foldl (fun r n => r.push (UInt8.ofNat n.toNat)) r = ⟨⟨r.data.toList ++ ns.map fun n => UInt8.ofNat n.toNat⟩⟩
  | [], r => by simp
  | n :: ns, r => by
    rw [List.foldl_cons, push_all ns]
    simp [ByteArray.push]
theorem b2s_sim [Orc] {ρ : Rho} {h : Hp} {a v : V} {x : Value} {w : World} (H : Live P ρ w h) (hb : b2s h a = some v) (ha : Rel ρ a x) : ∃ r, (Conv.bytesToString x).run P w = .ok r w ∧ Rel ρ v r := by
  cases ha <;> simp only [b2s, reduceCtorEq] at hb
  case nilSlice =>
    simp only [Option.some.injEq] at hb; subst hb
    exact ⟨_, rfl, .packed []⟩
  case sliceZ b l o a hr hz =>
    split at hb <;> try (cases hb; done)
    split at hb <;> try (cases hb; done)
    rename_i vs hl
    have e0 : vs = [] := by simpa [Tr.getL_zero, Tr.getL_succ] using hl.symm
    subst e0
    simp only [bytesV, Option.some.injEq] at hb; subst hb
    exact ⟨_, run_bytesToString w a 0 0 [] (by rfl), by exact .packed []⟩
  case sliceE b l k a c hr hk =>
    split at hb <;> try (cases hb; done)
    split at hb <;> try (cases hb; done)
    rename_i vs hl
    have e0 : vs = [] := by simpa [Tr.getL_zero, Tr.getL_succ] using hl.symm
    subst e0
    simp only [bytesV, Option.some.injEq] at hb; subst hb
    exact ⟨_, run_bytesToString w a 0 c [] (by rfl), by exact .packed []⟩
  all_goals
    rename_i hρ
    split at hb <;> try (cases hb; done)
    rename_i c hg
    split at hb <;> try (cases hb; done)
    rename_i vs hl
    split at hb <;> try (cases hb; done)
    rename_i l hv
    simp only [Option.some.injEq] at hb; subst hb
    obtain ⟨arr, e, fz, C1, C2⟩ := H.cellsT hρ hg
    obtain ⟨xs, h1, h2, h3⟩ := getL_cells' C1 C2 hl
    obtain ⟨h4, h5⟩ := bytesV_sim hv h2
    have hns : ∃ ns : List Int, xs = ns.map (Value.int .u8) ∧ ns.map (fun n => UInt8.ofNat n.toNat) = l := by
      clear h3 hl C1 C2 hg
      have : ∀ (xs : List Value) (l : List UInt8), xs.length = l.length → (∀ (i : Nat) x, xs[i]? = some x → ∃ n, x = .int .u8 n ∧ l[i]? = some (UInt8.ofNat n.toNat)) → ∃ ns : List Int, xs = ns.map (Value.int .u8) ∧ ns.map (fun n => UInt8.ofNat n.toNat) = l := by
        intro xs
        induction xs with
        | nil => intro l hl _; exact ⟨[], rfl, by simpa using (List.eq_nil_of_length_eq_zero hl.symm).symm⟩
        | cons x xs ih =>
          intro l hl hx
          cases l with
          | nil => simp at hl
          | cons y l =>
            obtain ⟨n, rfl, hn⟩ := hx 0 x rfl
            obtain ⟨ns, rfl, h2⟩ := ih l (by simpa using hl) fun i z hz => by simpa using hx (i + 1) z (by simpa using hz)
            simp only [List.getElem?_cons_zero, Option.some.injEq] at hn
            exact ⟨n :: ns, rfl, by simp [h2, hn]⟩
      exact this xs l h4 h5
    obtain ⟨ns, rfl, hl2⟩ := hns
    refine ⟨_, run_bytesToString w _ _ _ ns ?_, ?_⟩
    · rw [← h1, h2.1]
      exact run_loadCells_list w _ _ h3
    · rw [push_all]
      simp only [hl2]
      exact .packed l
theorem convX_sim [Orc] {ρ : Rho} {h : Hp} {a v : V} {x : Value} {w : World} {s d : TypeId} (H : Live P ρ w h) (hb : convX P s d h a = some v) (ha : Rel ρ a x) : ∃ r, (convert s d x).run P w = .ok r w ∧ Rel ρ v r := by
  unfold convX at hb
  cases hs : P.underlying s with
  | none => rw [hs] at hb; cases hb
  | some ds =>
    rw [hs] at hb
    cases ds <;> simp only [reduceCtorEq] at hb
    rename_i e
    cases he : P.underlying e with
    | none => rw [he] at hb; cases hb
    | some de =>
      rw [he] at hb
      cases de <;> try (cases hb; done)
      rename_i k
      cases k <;> try (cases hb; done)
      cases hd : P.underlying d with
      | none => rw [hd] at hb; cases hb
      | some dd =>
        rw [hd] at hb
        cases dd <;> simp only [reduceCtorEq] at hb
        obtain ⟨r, h1, h2⟩ := b2s_sim H hb ha
        refine ⟨r, ?_, h2⟩
        have key : ∀ y, (y = x) → (convert s d y).run P w = (Conv.bytesToString y).run P w := by
          intro y hy
          subst hy
          cases ha <;> simp only [b2s, reduceCtorEq] at hb <;> simp only [convert, Sem.run_bind, run_underlying hs, run_underlying hd, run_underlying he, Result.andThen_ok]
        rw [key x rfl]; exact h1
theorem cutA_sim [Orc] {ρ : Rho} {n s : Nat} {a v : V} {x : Value} {l r : Option Nat} (h : cutA n s a l r = some v) (ha : Rel ρ a x) :
    ∃ b o l' r' , x = .pointer (some ⟨b, o, none⟩) ∧ l = some l' ∧ r = some r' ∧ l' ≤ r' ∧ r' ≤ n ∧ Rel ρ v (.slice (some (if n = l' then ⟨b, o, none⟩ else (⟨b, o, none⟩ : Addr).add (l' * s))) (r' - l') (n - l')) := by
  cases ha <;> simp only [cutA, reduceCtorEq] at h
  rename_i b lc o hb
  cases l with
  | none => cases h
  | some l =>
    cases r with
    | none => cases h
    | some r =>
      simp only at h
      cases hc : (Nat.ble l r && Nat.ble r n) with
      | false => rw [hc] at h; cases h
      | true =>
        rw [hc] at h
        simp only [cond_true, Option.some.injEq] at h; subst h
        simp only [Bool.and_eq_true] at hc
        have h1 := Nat.le_of_ble_eq_true hc.1
        have h2 := Nat.le_of_ble_eq_true hc.2
        refine ⟨_, _, l, r, rfl, rfl, rfl, h1, h2, ?_⟩
        by_cases hn : n = l
        · subst hn
          rw [if_pos rfl]
          simp only [Nat.beq_refl, cond_true]
          exact .sliceK _ _ _ hb
        · rw [if_neg hn]
          have : Nat.beq n l = false := by
            cases e : Nat.beq n l with
            | false => rfl
            | true => exact (hn (Nat.eq_of_beq_eq_true e)).elim
          rw [this, add_at, Nat.add_assoc]
          exact .sliceK _ _ _ hb

def cutVal (k : Nat) : Value → Value
  | .slice a _ c => .slice a k c
  | .string s => .string ⟨⟨s.data.toList.take k⟩⟩
  | v => v
theorem first_cut {size k : Nat} (x : Value) : Builtin.firstCells size k (cutVal k x) = Builtin.firstCells size k x := by
  cases x <;> try rfl
  · rename_i s
    simp only [cutVal, Builtin.firstCells]
    congr 2
    rw [ByteArray.data_extract, ByteArray.data_extract]
    apply Array.ext'
    simp [List.take_take]
  · rename_i a n c
    cases a <;> rfl
theorem rel_cut {ρ : Rho} {a : V} {x : Value} (h : Rel ρ a x) {k n : Nat} (hn : lenX a = some n) (hk : k ≤ n) : Rel ρ (cutX k a) (cutVal k x) := by
  cases h <;> simp only [lenX, Option.some.injEq, reduceCtorEq] at hn
  · rename_i s
    subst hn
    have := Rel.str (ρ := ρ) (s.cut 0 (Nat.min k s.n))
    have hm : Nat.min k s.n = k := Nat.min_eq_left hk
    rw [Bs.l_cut s (Nat.zero_le _) (Nat.min_le_right _ _), List.drop_zero, Nat.sub_zero] at this
    show Rel ρ (.str (s.cut 0 (Nat.min k s.n))) (.string ⟨⟨s.l.take k⟩⟩)
    rw [hm] at this ⊢
    simp only [Nat.min_eq_left hk] at this
    exact this
  · exact .sliceK _ _ _ (by assumption)
  · subst hn
    have : k = 0 := by omega
    subst this
    exact .sliceZ _ _ (by assumption) (by assumption)
  · subst hn
    have : k = 0 := by omega
    subst this
    exact .sliceE _ _ _ (by assumption) (by assumption)
  · exact .sliceG _ _ _ (by assumption)
  · subst hn
    have : k = 0 := by omega
    subst this
    exact .nilSlice
theorem len_cut {ρ : Rho} {a : V} {x : Value} (h : Rel ρ a x) {n : Nat} (hn : lenX a = some n) : Builtin.lenOf x = pure n := by
  cases h <;> simp only [lenX, Option.some.injEq, reduceCtorEq] at hn <;> subst hn <;> first
    | rfl
    | (rename_i s; rw [← Bs.l_len s]; rfl)
theorem newCells_len {h : Hp} {size k n m : Nat} {a : V} {new : List V} (hn : lenX a = some n) (hk : k ≤ n) (he : newCells h size (cutX k a) = some (m, new)) : m = k := by
  cases a <;> simp only [lenX, Option.some.injEq, reduceCtorEq] at hn
  · simp only [cutX, newCells] at he
    cases hb : Nat.beq size 1 <;> rw [hb] at he
    · cases he
    · simp only [cond_true, Option.some.injEq, Prod.mk.injEq] at he
      subst hn
      rw [← he.1]
      show Nat.min k _ - 0 = k
      rw [Nat.sub_zero]
      exact Nat.min_eq_left hk
  · simp only [cutX, newCells] at he
    split at he <;> try (cases he; done)
    split at he <;> try (cases he; done)
    simp only [Option.some.injEq, Prod.mk.injEq] at he
    exact he.1.symm
  · subst hn
    simp only [cutX, newCells, Option.some.injEq, Prod.mk.injEq] at he
    omega
theorem cp_sim [Orc] [Res] {ρ : Rho} {w0 w : World} {h h' : Hp} (H : R P w0 w h ρ) {size : Nat} {d x v : V} {dv xv : Value} (he : cpN h size d x = some (v, h')) (hd : Rel ρ d dv) (hx : Rel ρ x xv)
    {ty e : TypeId} (hu : P.underlying ty = some (.slice e)) (hs : sz P e = some size) {tys : Array TypeId} (ht : tys[0]? = some ty) (rt : TypeId) :
    ∃ r w', (Builtin.copy_ tys rt #[dv, xv]).run P w = .ok r w' ∧ Rel ρ v r ∧ R P w0 w' h' ρ := by
  unfold cpN at he
  cases hm : lenX x with
  | none => rw [hm] at he; cases he
  | some m =>
    rw [hm] at he
    cases hn : lenS d with
    | none => rw [hn] at he; cases he
    | some n =>
      rw [hn] at he
      simp only at he
      cases hc : newCells h size (cutX (Nat.min m n) x) with
      | none => rw [hc] at he; cases he
      | some q =>
        obtain ⟨k, new⟩ := q
        have hk : k = Nat.min m n := newCells_len hm (Nat.min_le_left m n) hc
        obtain ⟨news, hl, hf, hr, hlen⟩ := newCells_sim H.live (rel_cut hx hm (Nat.min_le_left m n)) hc
        rw [hc] at he
        simp only [cpTo] at he
        obtain ⟨base, dl, dc, hdv, hdl⟩ : ∃ base dl dc, dv = .slice base dl dc ∧ dl = n := by
          cases hd <;> simp only [lenS, Option.some.injEq, reduceCtorEq] at hn <;> exact ⟨_, _, _, rfl, hn⟩
        subst hdl hdv
        have hrun : (Builtin.copy_ tys rt #[.slice base dl dc, xv]).run P w = ((Builtin.firstCells size k xv).run P w).andThen fun cells w1 =>
            ((match base with | some a => storeCells a cells.toList | none => pure ()) : Sem Unit).run P w1 |>.andThen fun _ w2 => .ok (goInt (k : Int)) w2 := by
          unfold Builtin.copy_
          have e0 : (#[Value.slice base dl dc, xv] : Array Value)[0]? = some (.slice base dl dc) := rfl
          have e1 : (#[Value.slice base dl dc, xv] : Array Value)[1]? = some xv := rfl
          simp only [ht, e0, e1, Sem.run_bind, run_underlying hu, Result.andThen_ok, len_cut hx hm, Sem.run_pure, run_sz hs]
          rw [← hk]
          congr 1
          funext cells w1
          cases base <;> simp only [Sem.run_bind, Sem.run_pure] <;> rfl
        have hfc : (Builtin.firstCells size k xv).run P w = .ok ⟨news⟩ w := by
          rw [← first_cut (size := size) (k := k) xv, hk, ← hk]
          have := hf w rfl
          rw [hk] at this ⊢
          exact this
        rw [hrun, hfc, Result.andThen_ok]
        cases hz : Nat.beq k 0 with
        | true =>
          have hk0 : k = 0 := Nat.eq_of_beq_eq_true hz
          rw [hz] at he
          simp only [cond_true, Option.some.injEq, Prod.mk.injEq] at he
          obtain ⟨rfl, rfl⟩ := he
          have hnew : news = [] := by
            apply List.eq_nil_of_length_eq_zero
            rw [← hr.1, hlen, hk0]; simp
          subst hnew
          refine ⟨goInt (k : Int), w, ?_, by rw [hk0]; exact .int _ _, H⟩
          cases base <;> rfl
        | false =>
          rw [hz] at he
          simp only [cond_false] at he
          cases d <;> simp only [reduceCtorEq] at he
          rename_i b o len cap g
          cases hg : h.t.get b with
          | none => rw [hg] at he; cases he
          | some ob =>
            rw [hg] at he
            cases ob <;> simp only [reduceCtorEq] at he
            rename_i c wd gr el
            cases hb : (allOne new && Nat.ble (o + k * size) wd) with
            | false => rw [hb] at he; cases he
            | true =>
              rw [hb] at he
              simp only [cond_true, Option.some.injEq, Prod.mk.injEq] at he
              obtain ⟨rfl, rfl⟩ := he
              simp only [Bool.and_eq_true] at hb
              have hfit := Nat.le_of_ble_eq_true hb.2
              obtain ⟨l, hρ, ha⟩ : ∃ l, ρ b = some l ∧ (base = some ⟨l.blk, l.base + o, none⟩ ∨ dl = 0) := by
                cases hd
                · exact ⟨_, by assumption, .inl rfl⟩
                · exact ⟨_, by assumption, .inr rfl⟩
                · exact ⟨_, by assumption, .inr rfl⟩
                · exact ⟨_, by assumption, .inl rfl⟩
              have hk0 : k ≠ 0 := fun e => by rw [e] at hz; cases hz
              rcases ha with rfl | rfl
              · obtain ⟨w', h1, h2⟩ := H.write hρ hg hr (allOne_mem hr hb.1) (by rw [hlen]; exact hfit)
                refine ⟨_, w', ?_, .int _ _, h2⟩
                simp only
                rw [h1]; rfl
              · exact (hk0 (by rw [hk]; exact Nat.min_eq_right (Nat.zero_le _))).elim
end Go.Mid

end
/- The operations of MidBB, all of them: what a machine may take from outside. -/
section
namespace Go.Mid
open Go.RowKit
variable {P : Program}

theorem vh_map' (h h2 : Hp) (x : Option V) : vh h2 x = (vh h x).map fun p => (p.1, h2) := by cases x <;> rfl
theorem rel_one [Orc] {ρ : Rho} {a : V} {xs : List Value} (h : RelL ρ [a] xs) : ∃ x, xs = [x] ∧ Rel ρ a x := by
  obtain ⟨x, xs', rfl, h1, h2⟩ := h.cons_inv
  rw [h2.nil_inv]; exact ⟨x, rfl, h1⟩
theorem rel_two [Orc] {ρ : Rho} {a b : V} {xs : List Value} (h : RelL ρ [a, b] xs) : ∃ x y, xs = [x, y] ∧ Rel ρ a x ∧ Rel ρ b y := by
  obtain ⟨x, xs', rfl, h1, h2⟩ := h.cons_inv
  obtain ⟨y, rfl, h3⟩ := rel_one h2
  exact ⟨x, y, rfl, h1, h3⟩
theorem rel_three [Orc] {ρ : Rho} {a b c : V} {xs : List Value} (h : RelL ρ [a, b, c] xs) : ∃ x y z, xs = [x, y, z] ∧ Rel ρ a x ∧ Rel ρ b y ∧ Rel ρ c z := by
  obtain ⟨x, xs', rfl, h1, h2⟩ := h.cons_inv
  obtain ⟨y, z, rfl, h3, h4⟩ := rel_two h2
  exact ⟨x, y, z, rfl, h1, h3, h4⟩
theorem bound_nat [Orc] {ρ : Rho} {v : V} {x : Value} (h : Rel ρ v x) {n : Nat} (hn : natA (some v) = some n) : ∃ k, x = .int k (n : Int) := by
  cases h <;> simp only [natA, reduceCtorEq] at hn
  rename_i k m
  cases m <;> simp only [natA, Option.some.injEq, reduceCtorEq] at hn
  subst hn; exact ⟨k, rfl⟩
theorem slice_run [Orc] {x : Value} {b o n s : Nat} {ty e : TypeId} (hx : x = .pointer (some ⟨b, o, none⟩)) (hu : P.underlying ty = some (.array n e)) (hs : sz P e = some s) {lo hi : Option Value} {l r : Nat}
    (hl : (lo = none ∧ l = 0) ∨ ∃ k, lo = some (.int k (l : Int))) (hr : (hi = none ∧ r = n) ∨ ∃ k, hi = some (.int k (r : Int))) (h1 : l ≤ r) (h2 : r ≤ n) (w : World) :
    (Instr.sliceAt ty x lo hi none).run P w = .ok (.slice (some (if n = l then ⟨b, o, none⟩ else (⟨b, o, none⟩ : Addr).add (l * s))) (r - l) (n - l)) w := by
  subst hx
  have hb : (Instr.sliceBounds false n n lo hi none).run P w = .ok (l, r, n) w := by
    rcases hr with ⟨rfl, rfl⟩ | ⟨k, rfl⟩ <;> rcases hl with ⟨rfl, rfl⟩ | ⟨k', rfl⟩
    · rfl
    · simp only [Instr.sliceBounds, pure_bind, Sem.run_bind, run_bound rfl h1, Result.andThen_ok, Option.isSome_none, Bool.false_eq_true, if_false, Sem.run_pure]
    · simp only [Instr.sliceBounds, pure_bind, Sem.run_bind, run_bound rfl h2, Result.andThen_ok, Sem.run_pure]
    · simp only [Instr.sliceBounds, pure_bind, Sem.run_bind, run_bound rfl h2, run_bound rfl h1, Result.andThen_ok, Option.isSome_none, Bool.false_eq_true, if_false, Sem.run_pure]
  have hsz := run_sz (w := w) hs
  simp only [Instr.sliceAt, Sem.run_bind, run_underlying hu, Result.andThen_ok, Instr.sureAddr, pure_bind, Sem.run_pure, hb, hsz]
theorem sliceX_sim [Orc] {ρ : Rho} {ty : TypeId} {lo hi : Option Operand} {a : V} {as : List V} {v : V} {x : Operand} {ev : Operand → Value} (h : sliceX P ty lo.isSome hi.isSome a as = some v) (hr : RelL ρ (a :: as) ((x :: (lo.toList ++ hi.toList)).map ev)) (w : World) :
    ∃ r, (Instr.sliceAt ty (ev x) (lo.map ev) (hi.map ev) none).run P w = .ok r w ∧ Rel ρ v r := by
  unfold sliceX at h
  cases hu : P.underlying ty with
  | none => rw [hu] at h; cases h
  | some d =>
    rw [hu] at h
    cases d <;> simp only [reduceCtorEq] at h
    · rename_i n e
      cases hs : sz P e with
      | none => rw [hs] at h; cases h
      | some s =>
        rw [hs] at h
        simp only at h
        simp only [List.map_cons] at hr
        obtain ⟨x0, xs0, hx0, hrx, hrs⟩ := hr.cons_inv
        simp only [List.cons.injEq] at hx0
        obtain ⟨rfl, rfl⟩ := hx0
        obtain ⟨b, o, l', r', hx, hl, hr', h1, h2, h3⟩ := cutA_sim h hrx
        refine ⟨_, slice_run hx hu hs ?_ ?_ h1 h2 w, h3⟩
        · cases lo with
          | none =>
            refine .inl ⟨rfl, ?_⟩
            cases as <;> simp [bndX] at hl <;> omega
          | some y =>
            refine .inr ?_
            cases as with
            | nil => simp [bndX] at hl
            | cons u as =>
              simp only [Option.isSome_some, bndX, cond_true] at hl
              obtain ⟨z, zs, hz, h4, _⟩ := hrs.cons_inv
              simp only [Option.toList_some, List.cons_append, List.nil_append, List.map_cons, List.cons.injEq] at hz
              obtain ⟨rfl, _⟩ := hz
              obtain ⟨k, hk⟩ := bound_nat h4 hl
              exact ⟨k, by rw [Option.map_some, hk]⟩
        · cases hi with
          | none =>
            refine .inl ⟨rfl, ?_⟩
            cases hq : (bndX lo.isSome 0 as).2 with
            | nil => rw [hq] at hr'; simp [bndX] at hr'; omega
            | cons u us => rw [hq] at hr'; simp [bndX] at hr'; omega
          | some y =>
            refine .inr ?_
            have key : ∀ (as : List V), RelL ρ as [ev y] → (bndX true n as).1 = some r' → ∃ k, some (ev y) = some (.int k (r' : Int)) := by
              intro as hrs hh
              obtain ⟨u, rfl⟩ : ∃ u, as = [u] := by
                have := hrs.1
                cases as with
                | nil => simp at this
                | cons u us => cases us with
                  | nil => exact ⟨u, rfl⟩
                  | cons => simp at this
              simp only [bndX, cond_true] at hh
              obtain ⟨z, hz, h4⟩ := rel_one hrs
              simp only [List.cons.injEq, and_true] at hz
              subst hz
              obtain ⟨k, hk⟩ := bound_nat h4 hh
              exact ⟨k, by rw [hk]⟩
            cases lo with
            | none =>
              simp only [Option.toList_none, List.nil_append, Option.toList_some, List.map_cons, List.map_nil] at hrs
              refine key as hrs ?_
              cases as with
              | nil => have := hrs.1; simp at this
              | cons u us => simpa [bndX] using hr'
            | some z =>
              simp only [Option.toList_some, List.cons_append, List.nil_append, List.map_cons, List.map_nil] at hrs
              cases as with
              | nil => have := hrs.1; simp at this
              | cons u us =>
                obtain ⟨z0, zs, hz, h4, h5⟩ := hrs.cons_inv
                simp only [List.cons.injEq] at hz
                obtain ⟨_, rfl⟩ := hz
                exact key us h5 (by simpa [bndX] using hr')
theorem opP_reads [Orc] {o : Op} (hk : kdP P o = 1 ∨ kdP P o = 2) {as : List V} {h h' : Hp} {v : V} (he : opP P o as h = some (v, h')) : h' = h ∧ ∀ ρ w (a : Act) (oo : Oper), oo.op = o → Live P ρ w h → RelL ρ as (o.operands.toList.map a.eval) →
    ∃ x, (execOp a.eval oo).run P w = .ok (.value x) w ∧ Rel ρ v x := by
  have take : ∀ {w : World} {ρ : Rho} {s : Sem Value}, (∃ x, s.run P w = .ok x w ∧ Rel ρ v x) → ∃ x, (do let r ← s; pure (Go.Next.value r) : Sem Go.Next).run P w = .ok (.value x) w ∧ Rel ρ v x :=
    fun ⟨x, h1, h2⟩ => ⟨x, run_v h1, h2⟩
  cases o <;> try (simp [kdP] at hk; done)
  case binOp op ty x y pre =>
    simp only [opP] at he
    split at he <;> try (cases he; done)
    rename_i a b
    cases hq : Nat.beq (kdEq P op ty) 1 <;> rw [hq] at he
    · cases he
    · simp only [cond_true] at he
      obtain ⟨rfl, h1⟩ := vh_some he
      refine ⟨rfl, fun ρ w act oo ho _ hr => ?_⟩
      obtain ⟨u, v', huv, r1, r2⟩ := rel_two (xs := [act.eval x, act.eval y]) (by simpa [Op.operands] using hr)
      simp only [List.cons.injEq, and_true] at huv
      obtain ⟨rfl, rfl⟩ := huv
      unfold execOp; rw [ho]
      exact take (eqX_sim h1 r1 r2 w)
  case unOp op ty x =>
    cases op <;> try (simp [kdP] at hk; done)
    simp only [opP] at he
    split at he <;> try (cases he; done)
    obtain ⟨rfl, h1⟩ := vh_some he
    refine ⟨rfl, fun ρ w act oo ho _ hr => ?_⟩
    obtain ⟨u, hu, r1⟩ := rel_one (xs := [act.eval x]) (by simpa [Op.operands] using hr)
    simp only [List.cons.injEq, and_true] at hu
    subst hu
    unfold execOp; rw [ho]
    exact take (xorV_sim h1 r1 w)
  case convert s d x =>
    simp only [opP] at he
    split at he <;> try (cases he; done)
    obtain ⟨rfl, h1⟩ := vh_some he
    refine ⟨rfl, fun ρ w act oo ho H hr => ?_⟩
    obtain ⟨u, hu, r1⟩ := rel_one (xs := [act.eval x]) (by simpa [Op.operands] using hr)
    simp only [List.cons.injEq, and_true] at hu
    subst hu
    unfold execOp; rw [ho]
    exact take (convX_sim H h1 r1)
  case slice ty x lo hi mx =>
    cases mx <;> try (simp [kdP] at hk; done)
    simp only [opP] at he
    split at he <;> try (cases he; done)
    obtain ⟨rfl, h1⟩ := vh_some he
    refine ⟨rfl, fun ρ w act oo ho H hr => ?_⟩
    unfold execOp; rw [ho]
    exact take (sliceX_sim h1 (x := x) (by simpa [Op.operands] using hr) w)
  case call c =>
    obtain ⟨callee, args, tys⟩ := c
    cases callee <;> try (simp [kdP] at hk; done)
    rename_i b
    simp only [opP] at he
    cases b <;> try (simp [kdP, kdB] at hk; done)
    · simp only [builtX] at he
      split at he <;> try (cases he; done)
      rename_i ty tyr x hty
      split at he <;> try (cases he; done)
      rename_i e hu
      obtain ⟨rfl, h1⟩ := vh_some he
      refine ⟨rfl, fun ρ w act oo ho H hr => ?_⟩
      obtain ⟨u, hu1, r1⟩ := rel_one (xs := args.toList.map act.eval) (by simpa [Op.operands, Call.operands] using hr)
      unfold execOp; rw [ho]
      simp only [resolve, pure_bind, invoke, builtin]
      have ha0 : (args.map act.eval)[0]? = some u := by
        have : (args.map act.eval).toList = [u] := by simpa using hu1
        rw [← Array.getElem?_toList, this]; rfl
      have ht0 : tys[0]? = some ty := by rw [← Array.getElem?_toList, hty]; rfl
      exact take (capV_sim h1 r1 hu ht0 ha0 _ w)
    · simp only [builtX] at he
      split at he <;> try (cases he; done)
      obtain ⟨rfl, h1⟩ := vh_some he
      refine ⟨rfl, fun ρ w act oo ho H hr => ?_⟩
      obtain ⟨u, v', huv, r1, r2⟩ := rel_two (xs := args.toList.map act.eval) (by simpa [Op.operands, Call.operands] using hr)
      unfold execOp; rw [ho]
      simp only [resolve, pure_bind, invoke, builtin]
      have ha0 : args.map act.eval = #[u, v'] := by
        apply Array.ext'; simpa using huv
      rw [ha0]
      exact take (maxV_sim h1 r1 r2 _ _ w)
    · simp only [builtX] at he
      split at he <;> try (cases he; done)
      · obtain ⟨rfl, h1⟩ := vh_some he
        refine ⟨rfl, fun ρ w act oo ho H hr => ?_⟩
        obtain ⟨u, v', huv, r1, r2⟩ := rel_two (xs := args.toList.map act.eval) (by simpa [Op.operands, Call.operands] using hr)
        unfold execOp; rw [ho]
        simp only [resolve, pure_bind, invoke, builtin]
        have ha0 : args.map act.eval = #[u, v'] := by
          apply Array.ext'; simpa using huv
        rw [ha0]
        exact take (minV_sim h1 r1 r2 _ _ w)
      · obtain ⟨rfl, h1⟩ := vh_some he
        refine ⟨rfl, fun ρ w act oo ho H hr => ?_⟩
        obtain ⟨u, v', z, huv, r1, r2, r3⟩ := rel_three (xs := args.toList.map act.eval) (by simpa [Op.operands, Call.operands] using hr)
        unfold execOp; rw [ho]
        simp only [resolve, pure_bind, invoke, builtin]
        have ha0 : args.map act.eval = #[u, v', z] := by
          apply Array.ext'; simpa using huv
        rw [ha0]
        exact take (min3_sim h1 r1 r2 r3 _ _ w)
theorem opP_pure {o : Op} (hk : kdP P o = 1) (as : List V) (h h2 : Hp) : opP P o as h2 = (opP P o as h).map fun p => (p.1, h2) := by
  cases o <;> try (simp [kdP] at hk; done)
  case binOp op ty x y pre =>
    simp only [opP]
    split
    · cases Nat.beq (kdEq P op ty) 1
      · rfl
      · exact vh_map' _ _ _
    · rfl
  case unOp op ty x =>
    cases op <;> try (simp [kdP] at hk; done)
    simp only [opP]
    split
    · exact vh_map' _ _ _
    · rfl
  case convert s d x =>
    simp only [kdP] at hk
    split at hk <;> cases hk
  case slice ty x lo hi mx =>
    cases mx <;> try (simp [kdP] at hk; done)
    simp only [opP]
    split
    · exact vh_map' _ _ _
    · rfl
  case call c =>
    obtain ⟨callee, args, tys⟩ := c
    cases callee <;> try (simp [kdP] at hk; done)
    rename_i b
    cases b <;> try (simp [kdP, kdB] at hk; done)
    all_goals
      simp only [opP, builtX]
      repeat' split
      all_goals first | exact vh_map' _ _ _ | rfl
theorem xops [Orc] (hk : ∀ o, Orc.kd o = kdP P o) (ho : ∀ o as h, Orc.op o as h = opP P o as h) : OpOk P where
  pure o h1 as h h2 := by rw [ho, ho]; exact opP_pure (by rw [← hk]; exact h1) as h h2
  reads o as h v h' h1 he := opP_reads (by rw [← hk]; exact h1) (by rw [← ho]; exact he)
  make o as h v h' he hn := by
    rw [ho] at he
    rw [hk] at hn
    by_cases h12 : kdP P o = 1 ∨ kdP P o = 2
    · obtain ⟨rfl, h1⟩ := opP_reads h12 he
      refine ⟨Fr.refl _, fun Z w0 w ρ a oo hoo H hr => ?_⟩
      obtain ⟨x, h2, h3⟩ := h1 ρ w a oo hoo H.live hr
      exact ⟨x, w, ρ, .inl h2, h3, Ext.refl _, H⟩
    · cases o <;> try (simp [kdP] at hn; done)
      case binOp op ty x y pre =>
        exfalso
        simp only [kdP] at hn h12
        unfold kdEq at hn h12
        split at hn <;> first | (split at hn <;> simp_all) | simp_all
      case unOp op ty x => cases op <;> simp [kdP] at hn h12
      case convert s d x =>
        exfalso
        simp only [kdP] at hn h12
        split at hn <;> simp_all
      case slice ty x lo hi mx =>
        exfalso
        cases mx <;> try (simp [kdP] at hn; done)
        simp only [kdP] at hn h12
        split at hn <;> simp_all
      case call c =>
        obtain ⟨callee, args, tys⟩ := c
        cases callee <;> try (simp [kdP] at hn; done)
        rename_i b
        cases b <;> try (simp [kdP, kdB] at hn h12; done)
        simp only [opP, builtX] at he
        split at he <;> try (cases he; done)
        rename_i ty tyr d x hty
        split at he <;> try (cases he; done)
        rename_i e hu
        split at he <;> try (cases he; done)
        rename_i s hs
        refine ⟨?_, fun Z w0 w ρ a oo hoo H hr => ?_⟩
        · unfold cpN at he
          split at he <;> try (cases he; done)
          split at he <;> try (cases he; done)
          unfold cpTo at he
          split at he <;> try (cases he; done)
          simp only [Bool.cond_eq_ite] at he
          (repeat' split at he) <;> first | (cases he; done) | (simp only [Option.some.injEq, Prod.mk.injEq] at he; obtain ⟨_, rfl⟩ := he; first | exact Fr.refl _ | exact Fr.put _ _ _)
        · obtain ⟨u, v', huv, r1, r2⟩ := rel_two (xs := args.toList.map a.eval) (by simpa [Op.operands, Call.operands] using hr)
          have ht0 : tys[0]? = some ty := by rw [← Array.getElem?_toList, hty]; rfl
          obtain ⟨r, w', h1, h2, h3⟩ := cp_sim H he r1 r2 hu hs ht0 oo.type
          refine ⟨r, w', ρ, .inl ?_, h2, Ext.refl _, h3⟩
          unfold execOp; rw [hoo]
          simp only [resolve, pure_bind, invoke, builtin]
          have ha0 : args.map a.eval = #[u, v'] := by
            apply Array.ext'; simpa using huv
          rw [ha0]
          exact run_v h1
end Go.Mid

end
/- Operations on addresses, for a text's builder: two addresses of one block compared; an address as a bare one, and back; a row's first place; bytes seen as a text. -/
section
namespace Go.Mid
open Go.RowKit

noncomputable def cmpP (nz : Bool) (a b : V) : Option Bool :=
  match a, b with
  | .nilPtr, .nilPtr => some true
  | .nilPtr, .ptr _ _ => some false
  | .ptr _ _, .nilPtr => some false
  | .ptr b o, .ptr b' o' => bif nz && Nat.beq b b' then some (Nat.beq o o') else none
  | _, _ => none
noncomputable def bareV (h : Hp) (x : V) : Option V :=
  match x with
  | .nilPtr => some .nilPtr
  | .ptr b o => (match h.t.get b with
    | some (.cells _ n _ _) => bif Nat.blt o n then some (.ptr b o) else none
    | _ => none)
  | _ => none
noncomputable def typedV (h : Hp) (u s : Nat) (x : V) : Option V :=
  match x with
  | .nilPtr => some .nilPtr
  | .ptr b o => (match h.t.get b with
    | some (.cells _ n _ e) => bif Nat.beq e u && Nat.beq o 0 && Nat.ble s n && !Nat.beq s 0 then some (.ptr b o) else none
    | _ => none)
  | _ => none
noncomputable def headV (h : Hp) (x : V) : Option V :=
  match x with
  | .nilSlice => some .nilPtr
  | .slice b o _ c false => bif Nat.blt 0 c then some (.ptr b o) else none
  | .slice b o _ c true => (match h.t.get b with
    | some (.cells _ n gr _) => bif gr && Nat.blt 0 n && Nat.beq c 0 then some (.ptr b o) else none
    | _ => none)
  | _ => none
noncomputable def bytesS : List V → Option (List UInt8)
  | [] => some []
  | .int .u8 (.ofNat n) :: l => bif Nat.blt n 256 then (match bytesS l with
    | some r => some (UInt8.ofNat n :: r)
    | none => none) else none
  | _ => none
noncomputable def seeV (h : Hp) (u : Nat) (x n : V) : Option (V × Hp) :=
  match n with
  | .int .i64 (.ofNat 0) => (match x with
    | .nilPtr => some (.str (pack []), h)
    | .ptr _ _ => some (.str (pack []), h)
    | _ => none)
  | .int .i64 (.ofNat (n + 1)) => (match x with
    | .ptr b 0 => (match h.t.get b with
      | some (.cells c m _ e) => bif Nat.beq e u && Nat.ble (n + 1) m && Nat.ble (n + 1) 9223372036854775807 then (match c.getL 0 (n + 1) with
        | some l => (match bytesS l with
          | some r => some (.str (pack r), h.put b (.ro c e))
          | none => none)
        | none => none) else none
      | _ => none)
    | _ => none)
  | _ => none
section
variable (P : Program)
noncomputable def nzT (t : TypeId) : Bool := match sz P t with
  | some s => !Nat.beq s 0
  | none => false
noncomputable def kdU (o : Op) : Nat :=
  match o with
  | .binOp op ty x y _ => bif isK x || isK y then 0 else (match op with
    | .eql | .neq => (match P.underlying ty with
      | some (.pointer _) => 1
      | _ => 0)
    | _ => 0)
  | .convert s d _ => (match P.underlying s with
    | some (.pointer _) => (match P.underlying d with
      | some .unsafePointer => 3
      | _ => 0)
    | some .unsafePointer => (match P.underlying d with
      | some (.pointer _) => 3
      | _ => 0)
    | _ => 0)
  | .call c => (match c.callee with
    | .builtin .unsafeSliceData => 2
    | .builtin .unsafeString => 3
    | _ => 0)
  | _ => 0
noncomputable def convU (s d : TypeId) (h : Hp) (x : V) : Option V :=
  match P.underlying s with
  | some (.pointer t) => (match P.underlying d with
    | some .unsafePointer => bif nzT P t then bareV h x else none
    | _ => none)
  | some .unsafePointer => (match P.underlying d with
    | some (.pointer u) => (match sz P u with
      | some n => typedV h u n x
      | none => none)
    | _ => none)
  | _ => none
noncomputable def opU (o : Op) (as : List V) (h : Hp) : Option (V × Hp) :=
  match o with
  | .binOp op ty _ _ _ => (match as with
    | [a, b] => (match P.underlying ty with
      | some (.pointer t) => vh h (eqOp op (cmpP (nzT P t) a b))
      | _ => none)
    | _ => none)
  | .convert s d _ => (match as with
    | [a] => vh h (convU P s d h a)
    | _ => none)
  | .call c => (match c.callee with
    | .builtin .unsafeSliceData => (match as with
      | [a] => vh h (headV h a)
      | _ => none)
    | .builtin .unsafeString => (match as, c.argTypes.toList with
      | [a, n], [ty, _] => (match P.underlying ty with
        | some (.pointer u) => bif Nat.beq (P.cellsOf u) 1 then seeV h u a n else none
        | _ => none)
      | _, _ => none)
    | _ => none)
  | _ => none
noncomputable def kdQ (o : Op) : Nat := match kdP P o with
  | 0 => kdU P o
  | k + 1 => k + 1
noncomputable def opQ (o : Op) (as : List V) (h : Hp) : Option (V × Hp) := match kdP P o with
  | 0 => opU P o as h
  | _ + 1 => opP P o as h
end
variable {P : Program}

theorem run_eq_ptr {tp te : TypeId} {j : TypeInfo} (a b : Addr) (hp : P.underlying tp = some (.pointer te)) (hte : P.info? te = some j) (hj : j.size ≠ 0) (hb : a.block = b.block) (w : World) :
    (Op.equal tp (.pointer (some a)) (.pointer (some b))).run P w = .ok (a == b) w := by
  have h : ∀ d : Nat, (Op.equalIn (d + 1) tp (.pointer (some a)) (.pointer (some b))).run P w = .ok (a == b) w := fun d => by
    have hs : (sameAddr a b).run P w = .ok (a == b) w := by
      unfold sameAddr
      rw [if_pos (by simpa using hb)]; rfl
    simp only [Op.equalIn, Sem.run_bind, run_underlying hp, Result.andThen_ok, sizeOf, typeInfo, run_program, hte, Sem.run_pure, ne_eq, hj, not_false_eq_true, if_true, hs]
  exact h 9999
theorem liesAt_self {u : TypeId} (hc : P.cellsOf u ≠ 0) (count : Nat) (hn : 1 ≤ count) : liesAt P P.depth u count 0 u 1 = true := by
  have hd : P.depth = (2 * (P.types.size + Made.depth) + 1) + 1 := rfl
  rw [hd]
  simp only [liesAt, Bool.or_eq_true]
  left
  rw [hd]
  simp [Go.rowAt, hc, hn, sameLayout]
theorem nzT_spec [Orc] {t : TypeId} (h : nzT P t = true) : ∃ j, P.info? t = some j ∧ j.size ≠ 0 := by
  unfold nzT at h
  cases hs : sz P t with
  | none => rw [hs] at h; cases h
  | some s =>
    rw [hs] at h
    obtain ⟨i, h1, h2⟩ := info_of_sz hs
    refine ⟨i, h1, fun e => ?_⟩
    rw [← h2, e] at h; simp at h
theorem cmpP_sim [Orc] {ρ : Rho} {op : BinOp} {t ty : TypeId} {a b v : V} {x y : Value} (hu : P.underlying ty = some (.pointer t)) (h : eqOp op (cmpP (nzT P t) a b) = some v) (ha : Rel ρ a x) (hb : Rel ρ b y) (ox oy : Operand) (w : World) :
    ∃ r, (do eqGuard op ty ox oy x y; binOp op ty x y : Sem Value).run P w = .ok r w ∧ Rel ρ v r := by
  have hne : ∃ q, cmpP (nzT P t) a b = some q := by
    cases he : cmpP (nzT P t) a b with
    | none => rw [he] at h; cases op <;> cases h
    | some q => exact ⟨q, rfl⟩
  obtain ⟨q, hq⟩ := hne
  rw [hq] at h
  have key : (Op.equal ty x y).run P w = .ok q w ∧ ∃ p p', x = .pointer p ∧ y = .pointer p' := by
    have plain : ∀ q', (∀ n, (Op.equalIn (n + 1) ty x y).run P w = .ok q' w) → (Op.equal ty x y).run P w = .ok q' w := fun q' e => e 9999
    cases ha <;> simp only [cmpP, reduceCtorEq] at hq <;> cases hb <;> simp only [cmpP, Option.some.injEq, reduceCtorEq] at hq
    · rename_i b1 l1 o1 h1 b2 l2 o2 h2
      cases hz : (nzT P t && Nat.beq b1 b2) with
      | false => rw [hz] at hq; cases hq
      | true =>
        rw [hz] at hq
        simp only [cond_true, Option.some.injEq] at hq
        simp only [Bool.and_eq_true] at hz
        have := Nat.eq_of_beq_eq_true hz.2
        subst this
        rw [h1] at h2
        simp only [Option.some.injEq] at h2
        subst h2
        obtain ⟨j, hj1, hj2⟩ := nzT_spec hz.1
        refine ⟨?_, _, _, rfl, rfl⟩
        rw [run_eq_ptr ⟨l1.blk, l1.base + o1, none⟩ ⟨l1.blk, l1.base + o2, none⟩ hu hj1 hj2 rfl w, ← hq]
        congr 1
        by_cases ho : o1 = o2
        · subst ho; simp
        · have h1 : Nat.beq o1 o2 = false := by
            cases e : Nat.beq o1 o2 with
            | false => rfl
            | true => exact (ho (Nat.eq_of_beq_eq_true e)).elim
          rw [h1]
          simp only [beq_eq_false_iff_ne, ne_eq, Addr.mk.injEq, true_and, and_true]
          omega
    · subst hq
      exact ⟨plain false fun n => by simp only [Op.equalIn, Sem.run_bind, run_underlying hu, Result.andThen_ok, Sem.run_pure], _, _, rfl, rfl⟩
    · subst hq
      exact ⟨plain false fun n => by simp only [Op.equalIn, Sem.run_bind, run_underlying hu, Result.andThen_ok, Sem.run_pure, Option.isNone], _, _, rfl, rfl⟩
    · subst hq
      exact ⟨plain true fun n => by simp only [Op.equalIn, Sem.run_bind, run_underlying hu, Result.andThen_ok, Sem.run_pure, Option.isNone], _, _, rfl, rfl⟩
  obtain ⟨he, p, p', rfl, rfl⟩ := key
  rw [Sem.run_bind, run_guard ty ox oy _ _ w (by simp) (by simp), Result.andThen_ok]
  cases op <;> simp only [eqOp, Option.some.injEq, reduceCtorEq] at h <;> subst h
  · exact ⟨.bool q, by simp only [binOp, Sem.run_bind, he, Result.andThen_ok, Sem.run_pure], .bool _⟩
  · exact ⟨.bool (!q), by simp only [binOp, Sem.run_bind, he, Result.andThen_ok, Sem.run_pure], .bool _⟩
theorem shape_cells {w : World} {g : Nat} {arr : Array Value} {e : TypeId} {fz : Nat × Nat} (h : w.heap[g]? = some (.cells arr e fz)) : w.shape? g = some (e, arr.size) := by
  simp only [World.shape?, h]
theorem convU_sim [Orc] [Res] {ρ : Rho} {w0 w : World} {h : Hp} (H : R P w0 w h ρ) {s d : TypeId} {a v : V} {x : Value} (he : convU P s d h a = some v) (ha : Rel ρ a x) : ∃ r, (convert s d x).run P w = .ok r w ∧ Rel ρ v r := by
  unfold convU at he
  cases hs : P.underlying s with
  | none => rw [hs] at he; cases he
  | some ds =>
    rw [hs] at he
    cases ds <;> simp only [reduceCtorEq] at he
    case pointer t =>
      cases hd : P.underlying d with
      | none => rw [hd] at he; cases he
      | some dd =>
        rw [hd] at he
        cases dd <;> simp only [reduceCtorEq] at he
        cases hz : nzT P t with
        | false => rw [hz] at he; cases he
        | true =>
          rw [hz] at he
          simp only [cond_true] at he
          obtain ⟨j, hj1, hj2⟩ := nzT_spec hz
          cases ha <;> simp only [bareV, Option.some.injEq, reduceCtorEq] at he
          · rename_i b l o hb
            cases hg : h.t.get b with
            | none => rw [hg] at he; cases he
            | some ob =>
              rw [hg] at he
              cases ob <;> simp only [reduceCtorEq] at he
              rename_i c n g e
              cases hlt : Nat.blt o n with
              | false => rw [hlt] at he; cases he
              | true =>
                rw [hlt] at he
                simp only [cond_true, Option.some.injEq] at he; subst he
                obtain ⟨arr, C⟩ := H.live b l _ hb hg
                have hlt' : o + 1 ≤ n := Nat.le_of_ble_eq_true hlt
                exact ⟨_, Lib.run_to_unsafe w _ hs hd hj1 hj2 (shape_cells C.at_) (by have := C.fit; simp only; omega), .ptr _ hb⟩
          · subst he
            exact ⟨.pointer none, by simp [convert, run_underlying hs, run_underlying hd, Conv.unsafePointer], .nilPtr⟩
    case unsafePointer =>
      cases hd : P.underlying d with
      | none => rw [hd] at he; cases he
      | some dd =>
        rw [hd] at he
        cases dd <;> simp only [reduceCtorEq] at he
        rename_i u
        cases hz : sz P u with
        | none => rw [hz] at he; cases he
        | some n =>
          rw [hz] at he
          simp only at he
          obtain ⟨j, hj1, hj2⟩ := info_of_sz hz
          cases ha <;> simp only [typedV, Option.some.injEq, reduceCtorEq] at he
          · rename_i b l o hb
            cases hg : h.t.get b with
            | none => rw [hg] at he; cases he
            | some ob =>
              rw [hg] at he
              cases ob <;> simp only [reduceCtorEq] at he
              rename_i c m g e
              cases hlt : (Nat.beq e u && Nat.beq o 0 && Nat.ble n m && !Nat.beq n 0) with
              | false => rw [hlt] at he; cases he
              | true =>
                rw [hlt] at he
                simp only [cond_true, Option.some.injEq] at he; subst he
                simp only [Bool.and_eq_true, Bool.not_eq_true'] at hlt
                have he := Nat.eq_of_beq_eq_true hlt.1.1.1
                have ho := Nat.eq_of_beq_eq_true hlt.1.1.2
                have hn := Nat.le_of_ble_eq_true hlt.1.2
                have hn0 : n ≠ 0 := fun e => by rw [e] at hlt; simp at hlt
                subst he ho
                obtain ⟨arr, C⟩ := H.live b l _ hb hg
                have hown := (H.own2 hb (Hp.not_still hg (by simp))).2
                have hc : P.cellsOf e = n := cellsOf_sz hz
                refine ⟨_, Lib.run_from_unsafe w _ hs hd hj1 (shape_cells C.at_) ?_, .ptr _ hb⟩
                simp only [hown, Nat.add_zero]
                refine liesAt_self (by rw [hc]; exact hn0) _ ?_
                rw [hc]
                have := C.fit
                exact (Nat.le_div_iff_mul_le (by omega)).2 (by omega)
          · subst he
            exact ⟨.pointer none, by simp [convert, run_underlying hs, run_underlying hd, Conv.unsafePointer], .nilPtr⟩
theorem headV_sim [Orc] {ρ : Rho} {w : World} {h : Hp} (H : Live P ρ w h) {a v : V} {x : Value} (he : headV h a = some v) (ha : Rel ρ a x) (ts : Array TypeId) (ty : TypeId) : ∃ r, (Builtin.unsafeSliceData_ ts ty #[x]).run P w = .ok r w ∧ Rel ρ v r := by
  cases ha <;> simp only [headV, Option.some.injEq, reduceCtorEq] at he
  · rename_i b l o len cap hb
    cases hc : Nat.blt 0 cap with
    | false => rw [hc] at he; cases he
    | true =>
      rw [hc] at he
      simp only [cond_true, Option.some.injEq] at he; subst he
      exact ⟨_, Lib.run_unsafeSliceData_row w _ _ _ _ _ (by have : 0 + 1 ≤ cap := Nat.le_of_ble_eq_true hc; omega), .ptr _ hb⟩
  · cases (show (none : Option V) = some v from he)
  · rename_i k _ _ _ hk
    exfalso
    have hk0 : Nat.beq k 0 = false := by
      cases e : Nat.beq k 0 with
      | false => rfl
      | true => exact (hk (Nat.eq_of_beq_eq_true e)).elim
    split at he
    · rw [hk0, Bool.and_false] at he; cases he
    · cases he
  · rename_i b l o len k hb
    cases hg : h.t.get b with
    | none => rw [hg] at he; cases he
    | some ob =>
      rw [hg] at he
      cases ob <;> simp only [reduceCtorEq] at he
      rename_i c m g e
      cases hc : (g && Nat.blt 0 m && Nat.beq k 0) with
      | false => rw [hc] at he; cases he
      | true =>
        rw [hc] at he
        simp only [cond_true, Option.some.injEq] at he; subst he
        simp only [Bool.and_eq_true] at hc
        obtain ⟨⟨hg1, hm⟩, hk⟩ := hc
        have hm' : 0 + 1 ≤ m := Nat.le_of_ble_eq_true hm
        have hk' := Nat.eq_of_beq_eq_true hk
        obtain ⟨arr, C⟩ := H b l _ hb hg
        have ht := (C.top hg1).1
        have hl : l.cap ≠ 0 := fun e0 => by rw [e0] at ht; simp at ht; omega
        exact ⟨_, Lib.run_unsafeSliceData_row w _ _ _ _ _ (by omega), .ptr _ hb⟩
  · subst he
    exact ⟨_, rfl, .nilPtr⟩
theorem bytesS_sim {ρ : Rho} : ∀ {cs : List V} {xs : List Value} {l : List UInt8}, bytesS cs = some l → RelL ρ cs xs → xs.length = l.length ∧ ∀ (i : Nat) x, l[i]? = some x → xs[i]? = some (.int .u8 x.toNat)
  | [], xs, l, h, hr => by
    simp only [bytesS, Option.some.injEq] at h; subst h
    rw [hr.nil_inv]
    exact ⟨rfl, fun i x h => by simp at h⟩
  | v :: cs, xs, l, h, hr => by
    obtain ⟨x, xs', rfl, h1, h2⟩ := hr.cons_inv
    cases h1 <;> try (simp only [bytesS, reduceCtorEq] at h; done)
    rename_i k n
    cases k <;> try (simp only [bytesS, reduceCtorEq] at h; done)
    cases n <;> try (simp only [bytesS, reduceCtorEq] at h; done)
    rename_i n
    simp only [bytesS] at h
    cases hn : Nat.blt n 256 with
    | false => rw [hn] at h; cases h
    | true =>
      rw [hn] at h
      simp only [cond_true] at h
      cases hb : bytesS cs with
      | none => rw [hb] at h; cases h
      | some r =>
        rw [hb] at h
        simp only [Option.some.injEq] at h; subst h
        obtain ⟨h3, h4⟩ := bytesS_sim hb h2
        have hn' : n + 1 ≤ 256 := Nat.le_of_ble_eq_true hn
        refine ⟨by simp [h3], fun i x hx => ?_⟩
        cases i with
        | zero =>
          simp only [List.getElem?_cons_zero, Option.some.injEq] at hx ⊢
          subst hx
          have : (UInt8.ofNat n).toNat = n := by simp; omega
          rw [this]; rfl
        | succ i => simpa using h4 i x (by simpa using hx)
theorem seeV_sim [Orc] [Res] {ρ : Rho} {w0 w : World} {h h' : Hp} (H : R P w0 w h ρ) {u : Nat} {a n v : V} {x y : Value} (he : seeV h u a n = some (v, h')) (ha : Rel ρ a x) (hn : Rel ρ n y) {pt it : TypeId} (hp : P.underlying pt = some (.pointer u)) (hc : P.cellsOf u = 1) (ty : TypeId) :
    ∃ r w', (Builtin.unsafeString_ #[pt, it] ty #[x, y]).run P w = .ok r w' ∧ Rel ρ v r ∧ R P w0 w' h' ρ := by
  unfold seeV at he
  split at he <;> try (cases he; done)
  · cases hn
    split at he <;> try (cases he; done)
    · simp only [Option.some.injEq, Prod.mk.injEq] at he
      obtain ⟨rfl, rfl⟩ := he
      cases ha
      exact ⟨_, w, Lib.run_unsafeString_none w pt it ty none, .packed [], H⟩
    · simp only [Option.some.injEq, Prod.mk.injEq] at he
      obtain ⟨rfl, rfl⟩ := he
      cases ha
      exact ⟨_, w, Lib.run_unsafeString_none w pt it ty _, .packed [], H⟩
  · rename_i n
    cases hn
    split at he <;> try (cases he; done)
    rename_i b
    split at he <;> try (cases he; done)
    rename_i c m g e hg
    cases hb : (Nat.beq e u && Nat.ble (n + 1) m && Nat.ble (n + 1) 9223372036854775807) with
    | false => rw [hb] at he; cases he
    | true =>
      rw [hb] at he
      simp only [cond_true] at he
      simp only [Bool.and_eq_true] at hb
      have heu := Nat.eq_of_beq_eq_true hb.1.1
      subst heu
      have hnm := Nat.le_of_ble_eq_true hb.1.2
      have h63 := Nat.le_of_ble_eq_true hb.2
      split at he <;> try (cases he; done)
      rename_i l hl
      split at he <;> try (cases he; done)
      rename_i r hr
      simp only [Option.some.injEq, Prod.mk.injEq] at he
      obtain ⟨rfl, rfl⟩ := he
      cases ha
      rename_i lc hρ
      have hns := Hp.not_still hg (by simp)
      have hbase := (H.own2 hρ hns).2
      obtain ⟨arr, C⟩ := H.live b lc _ hρ hg
      obtain ⟨xs, h1, h2, h3⟩ := getL_cells C hl
      obtain ⟨h4, h5⟩ := bytesS_sim hr h2
      have hrl : r.length = n + 1 := by rw [← h4, ← h2.1, h1]
      simp only [hbase, Nat.add_zero] at h3 ⊢
      have hrun := Lib.run_unsafeString_row (P := P) w pt it ty e hp hc lc.blk arr.size (shape_cells C.at_) r (fun e => by rw [e] at hrl; cases hrl) (by have := C.fit; omega) (by omega) fun j z hz => h3 j _ (h5 j z hz)
      rw [hrl] at hrun
      have hat : (w.freeze ⟨lc.blk, 0, none⟩ (n + 1)).heap[lc.blk]? = some (.cells arr e (0, n + 1)) := by
        have hlt := (Array.getElem?_eq_some_iff.1 C.at_)
        simp only [World.freeze, Nat.add_one_ne_zero, if_false, Array.getElem?_modify]
        rw [if_true, C.at_]
        simp
      refine ⟨_, _, hrun, .packed r, H.upd' (O := .cells arr e (0, n + 1)) hρ ⟨_, hg, by simp⟩ hns _ ⟨?_, ?_, ?_, ?_, fun j hj => ?_, hat⟩ ⟨arr, _, _, hat, fun i v hv => let ⟨_, x, k1, k2⟩ := C.get i v hv; ⟨x, k1, k2⟩⟩⟩
      · simp [World.freeze]
      · simp [World.freeze]
      · simp [World.freeze]
      · simp [World.freeze]
      · simp only [World.freeze, Nat.add_one_ne_zero, if_false, Array.getElem?_modify]
        rw [if_neg (fun e => hj e.symm)]
end Go.Mid

end
