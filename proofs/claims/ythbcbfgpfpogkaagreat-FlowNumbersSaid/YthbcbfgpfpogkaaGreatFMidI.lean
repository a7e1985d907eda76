/- An operation that makes or writes memory. -/
import Derived.Test.YthbcbfgpfpogkaaGreatFMidH
set_option linter.all false
set_option warn.classDefReducibility false
namespace Go.Mid
open Go.RowKit
variable {P : Program} [Orc] [Z : Res]

theorem rel_unit (ρ : Rho) : Rel ρ unitV undef := .tuple (xs := []) rfl (fun i v x h => by simp at h)

theorem getL_cells' {ρ : Rho} {w : World} {l : Lc} {c : Tr V} {e : TypeId} {arr : Array Value} {fz : Nat × Nat} (C1 : w.heap[l.blk]? = some (.cells arr e fz)) (C2 : ∀ i v, c.get i = some v → ∃ x, arr[l.base + i]? = some x ∧ Rel ρ v x) {o n : Nat} {vs : List V} (hl : c.getL o n = some vs) :
    ∃ xs : List Value, vs.length = n ∧ RelL ρ vs xs ∧ ∀ (j : Nat) x, xs[j]? = some x → w.cell? ((⟨l.blk, l.base + o, none⟩ : Addr).add j) = some x := by
  obtain ⟨h1, h2⟩ := Tr.getL_spec _ _ _ _ hl
  have hx : ∀ j, j < n → ∃ x v, vs[j]? = some v ∧ arr[l.base + (o + j)]? = some x ∧ Rel ρ v x := by
    intro j hj
    have hj' : j < vs.length := by omega
    have e1 := h2 j hj
    rw [List.getElem?_eq_getElem hj'] at e1
    obtain ⟨x, h3, h4⟩ := C2 _ _ e1.symm
    exact ⟨x, _, List.getElem?_eq_getElem hj', h3, h4⟩
  have hfit : n = 0 ∨ l.base + (o + n) ≤ arr.size := by
    rcases Nat.eq_zero_or_pos n with h0 | h0
    · exact .inl h0
    · obtain ⟨x, _, _, h3, _⟩ := hx (n - 1) (by omega)
      have := (Array.getElem?_eq_some_iff.1 h3).1
      exact .inr (by omega)
  have hlen : ((arr.toList.drop (l.base + o)).take n).length = n := by simp only [List.length_take, List.length_drop, Array.length_toList]; omega
  have hget : ∀ j, j < n → ((arr.toList.drop (l.base + o)).take n)[j]? = arr[l.base + (o + j)]? := by
    intro j hj
    rw [List.getElem?_take, if_pos hj, List.getElem?_drop, Nat.add_assoc]; simp
  have hlt : ∀ (j : Nat) x, ((arr.toList.drop (l.base + o)).take n)[j]? = some x → j < n := by
    intro j x hj
    rcases Nat.lt_or_ge j n with h | h
    · exact h
    · rw [List.getElem?_eq_none (by omega)] at hj; cases hj
  refine ⟨(arr.toList.drop (l.base + o)).take n, h1, ⟨by rw [hlen, h1], fun j v x hv hxx => ?_⟩, fun j x hxx => ?_⟩
  · have hj := hlt j x hxx
    obtain ⟨y, u, h3, h4, h5⟩ := hx j hj
    rw [hget j hj, h4] at hxx
    rw [h3] at hv
    simp only [Option.some.injEq] at hv hxx
    subst hv hxx; exact h5
  · have hj := hlt j x hxx
    rw [add_at, cell_at C1, Nat.add_assoc, ← hget j hj]; exact hxx
theorem getL_cells {ρ : Rho} {w : World} {l : Lc} {c : Tr V} {m : Nat} {g : Bool} {e : TypeId} {arr : Array Value} (C : CellsR P ρ w l c m g e arr) {o n : Nat} {vs : List V} (hl : c.getL o n = some vs) :
    ∃ xs : List Value, vs.length = n ∧ RelL ρ vs xs ∧ ∀ (j : Nat) x, xs[j]? = some x → w.cell? ((⟨l.blk, l.base + o, none⟩ : Addr).add j) = some x :=
  getL_cells' C.at_ (fun i v hv => let ⟨_, x, h1, h2⟩ := C.get i v hv; ⟨x, h1, h2⟩) hl
theorem cell_heap {w w' : World} (h : w'.heap = w.heap) (a : Addr) : w'.cell? a = w.cell? a := by simp [World.cell?, h]
theorem newCells_sim {ρ : Rho} {w : World} {h : Hp} (H : Live P ρ w h) {size n : Nat} {x : V} {xv : Value} {new : List V} (hx : Rel ρ x xv) (he : newCells h size x = some (n, new)) :
    ∃ news : List Value, Builtin.lenOf xv = pure n ∧ (∀ w', w'.heap = w.heap → (Builtin.firstCells size n xv).run P w' = .ok ⟨news⟩ w') ∧ RelL ρ new news ∧ new.length = n * size := by
  cases hx <;> simp only [newCells, reduceCtorEq] at he
  case str s =>
    cases hs : Nat.beq size 1 with
    | false => simp [hs] at he
    | true =>
      have := Nat.eq_of_beq_eq_true hs; subst this
      simp only [hs, cond_true, Option.some.injEq, Prod.mk.injEq] at he
      obtain ⟨rfl, rfl⟩ := he
      have hln := Bs.l_len s
      rw [← hln]
      generalize s.l = s at hln ⊢
      clear hln
      refine ⟨s.map fun b => .int .u8 b.toNat, rfl, fun w' _ => ?_, ⟨by simp, fun i v x h1 h2 => ?_⟩, by simp⟩
      · simp only [Builtin.firstCells, Sem.run_pure]
        congr 1
        apply Array.ext'
        have e : ((ByteArray.mk ⟨s⟩).extract 0 s.length).data = ⟨s⟩ := by
          rw [ByteArray.data_extract]; apply Array.ext'; simp
        rw [e]; simp
      · simp only [List.getElem?_map] at h1 h2
        cases hb : s[i]? with
        | none => simp [hb] at h1
        | some b =>
          simp only [hb, Option.map_some, Option.some.injEq] at h1 h2
          subst h1 h2; exact .int _ _
  case nilSlice =>
    simp only [Option.some.injEq, Prod.mk.injEq] at he
    obtain ⟨rfl, rfl⟩ := he
    exact ⟨[], rfl, fun w' _ => by simp [Builtin.firstCells], RelL.nil ρ, by simp⟩
  case sliceZ =>
    split at he <;> try (cases he; done)
    rename_i c hg
    split at he <;> try (cases he; done)
    rename_i vs hl
    simp only [Option.some.injEq, Prod.mk.injEq] at he
    obtain ⟨rfl, rfl⟩ := he
    rw [Nat.zero_mul] at hl
    have e0 : vs = [] := by simpa [Tr.getL_zero, Tr.getL_succ] using hl.symm
    subst e0
    exact ⟨[], rfl, fun w' _ => by simp [Builtin.firstCells, loadCells, loadCellsFrom], RelL.nil ρ, by simp⟩
  case sliceE =>
    split at he <;> try (cases he; done)
    rename_i c hg
    split at he <;> try (cases he; done)
    rename_i vs hl
    simp only [Option.some.injEq, Prod.mk.injEq] at he
    obtain ⟨rfl, rfl⟩ := he
    rw [Nat.zero_mul] at hl
    have e0 : vs = [] := by simpa [Tr.getL_zero, Tr.getL_succ] using hl.symm
    subst e0
    exact ⟨[], rfl, fun w' _ => by simp [Builtin.firstCells, loadCells, loadCellsFrom], RelL.nil ρ, by simp⟩
  all_goals
    rename_i hb
    split at he <;> try (cases he; done)
    rename_i c hg
    split at he <;> try (cases he; done)
    rename_i vs hl
    simp only [Option.some.injEq, Prod.mk.injEq] at he
    obtain ⟨rfl, rfl⟩ := he
    obtain ⟨arr, e, fz, C1, C2⟩ := H.cellsT hb hg
    obtain ⟨xs, h1, h2, h3⟩ := getL_cells' C1 C2 hl
    refine ⟨xs, rfl, fun w' hw' => ?_, h2, h1⟩
    exact run_firstCells_some w' _ _ _ _ _ xs (by rw [← h2.1, h1]) fun j v hv => by rw [cell_heap hw']; exact h3 j v hv

theorem zc_size {z : Array Value} {n : Nat} : (Builtin.zeroCells z n).size = n * z.size := by simp [Builtin.zeroCells]

theorem appSl_sim {ρ : Rho} {w0 w : World} {h h' : Hp} (H : R P w0 w h ρ) {t t2 ty elem : TypeId} {i : TypeInfo} {z : Value} (T : AppT P t t2 elem i z) (hzs : z.cells.size = i.size) {b o len cap n : Nat} {g : Bool}
    {sv xv : Value} (hs : Rel ρ (.slice b o len cap g) sv) {new : List V} {news : List Value} (hl : Builtin.lenOf xv = pure n) (hn : ∀ w', w'.heap = w.heap → (Builtin.firstCells i.size n xv).run P w' = .ok ⟨news⟩ w')
    (hr : RelL ρ new news) (hnl : new.length = n * i.size) (h1 : allOne new = true) {v : V} (he : appSl h elem i.bytes i.size b o len cap g n new = some (v, h')) :
    ∃ x w' ρ', (Builtin.append_ #[t, t2] ty #[sv, xv]).run P w = .ok x w' ∧ Rel ρ' v x ∧ Ext ρ ρ' ∧ R P w0 w' h' ρ' := by
  have hone := allOne_mem hr h1
  have hnewl : news.length = n * i.size := by rw [← hr.1]; exact hnl
  obtain ⟨l, hb⟩ : ∃ l, ρ b = some l := by cases hs <;> exact ⟨_, by assumption⟩
  unfold appSl at he
  cases hg : h.t.get b with
  | none => simp [hg] at he
  | some ob =>
    cases ob <;> simp only [hg, reduceCtorEq] at he
    rename_i c m gr e
    obtain ⟨arr, C⟩ := H.live b l _ hb hg
    cases hc : (roomB ((len + n) * i.bytes) && roomB (len + n) && Nat.beq o 0 && Nat.beq e elem && !Nat.beq i.size 0 && (!g || (gr && Nat.beq cap 0 && Nat.ble (len * i.size) m))) with
    | false => simp [hc] at he
    | true =>
      simp only [hc, cond_true] at he
      simp only [Bool.and_eq_true, Bool.or_eq_true, Bool.not_eq_true'] at hc
      obtain ⟨⟨⟨⟨⟨c1, c2⟩, c3⟩, c4⟩, c5⟩, c6⟩ := hc
      have c1 := Nat.le_of_ble_eq_true c1
      have c2 := Nat.le_of_ble_eq_true c2
      have c3 := Nat.eq_of_beq_eq_true c3
      have c4 := Nat.eq_of_beq_eq_true c4
      have hs0 : i.size ≠ 0 := fun e => by rw [e] at c5; simp at c5
      subst c3 c4
      have hcell : P.cellsOf e = i.size := by simp [Program.cellsOf, T.hi]
      -- the slice's own value
      obtain ⟨sCap, hsv, hsc⟩ : ∃ sCap, sv = .slice (some ⟨l.blk, l.base, none⟩) len sCap ∧ ((g = false ∧ sCap = cap) ∨ (g = true ∧ gr = true ∧ cap = 0 ∧ sCap = l.cap ∧ len * i.size ≤ m)) := by
        cases hs with
        | sliceK _ _ _ hb' => rw [hb] at hb'; cases hb'; exact ⟨cap, rfl, .inl ⟨rfl, rfl⟩⟩
        | sliceZ _ _ hb' hz => rw [hb] at hb'; cases hb'; exact (hz (H.own2 hb (Hp.not_still hg (by simp))).2).elim
        | sliceE _ _ _ _ hk =>
          rcases c6 with c6 | c6
          · cases c6
          · exact (hk (Nat.eq_of_beq_eq_true c6.1.2)).elim
        | sliceG _ _ _ hb' =>
          rw [hb] at hb'; cases hb'
          rcases c6 with c6 | c6
          · cases c6
          · have := Nat.eq_of_beq_eq_true c6.1.2; subst this
            exact ⟨l.cap, rfl, .inr ⟨rfl, c6.1.1, rfl, rfl, Nat.le_of_ble_eq_true c6.2⟩⟩
      subst hsv
      have hmul : (len + n) * i.size = len * i.size + n * i.size := Nat.add_mul _ _ _
      -- written in place
      have inplace : len + n ≤ sCap → ∀ w', (storeCells ⟨l.blk, l.base + len * i.size, none⟩ news).run P w = .ok () w' →
          (Builtin.append_ #[t, t2] ty #[.slice (some ⟨l.blk, l.base, none⟩) len sCap, xv]).run P w = .ok (.slice (some ⟨l.blk, l.base, none⟩) (len + n) sCap) w' := by
        intro hle w' hst
        exact app_in (news := ⟨news⟩) T hle hl (hn w rfl) (by rw [add_at]; exact hst)
      cases hk : (Nat.ble ((len + n) * i.size) m && (g || Nat.ble (len + n) cap)) with
      | true =>
        simp only [hk, cond_true, appIn, Option.some.injEq, Prod.mk.injEq] at he
        obtain ⟨rfl, rfl⟩ := he
        simp only [Bool.and_eq_true, Bool.or_eq_true] at hk
        have k1 := Nat.le_of_ble_eq_true hk.1
        have hle : len + n ≤ sCap := by
          rcases hsc with ⟨rfl, rfl⟩ | ⟨rfl, rfl, rfl, rfl, _⟩
          · rcases hk.2 with k | k
            · cases k
            · exact Nat.le_of_ble_eq_true k
          · have := (C.top rfl).1
            rw [hcell] at this
            exact Nat.le_of_mul_le_mul_right (Nat.le_trans k1 this) (Nat.pos_of_ne_zero hs0)
        have hval : Rel ρ (.slice b 0 (len + n) cap g) (.slice (some ⟨l.blk, l.base, none⟩) (len + n) sCap) := by
          rcases hsc with ⟨rfl, rfl⟩ | ⟨rfl, rfl, rfl, rfl, _⟩
          · exact .sliceK 0 _ _ hb
          · exact .sliceG 0 _ 0 hb
        cases hn0 : Nat.beq n 0 with
        | true =>
          have := Nat.eq_of_beq_eq_true hn0; subst this
          have hnil : news = [] := List.eq_nil_of_length_eq_zero (by rw [hnewl]; simp)
          subst hnil
          exact ⟨_, w, ρ, inplace hle w rfl, hval, Ext.refl _, H⟩
        | false =>
          obtain ⟨w', e1, e2⟩ := H.write hb hg hr hone (o := len * i.size) (by rw [hnl]; omega)
          exact ⟨_, w', ρ, inplace hle w' e1, hval, Ext.refl _, e2⟩
      | false =>
        simp only [hk, cond_false] at he
        have grow : ∀ olds : List Value, sCap < len + n → olds.length = len * i.size → (∀ (j : Nat) x, olds[j]? = some x → w.cell? ((⟨l.blk, l.base, none⟩ : Addr).add j) = some x) →
            (Builtin.append_ #[t, t2] ty #[.slice (some ⟨l.blk, l.base, none⟩) len sCap, xv]).run P w = .ok (.slice (some ⟨w.heap.size, 0, none⟩) (len + n) (grownCap w (len + n) sCap e))
              (w.drew.alloc (.cells ⟨(olds ++ news) ++ (Builtin.zeroCells z.cells (grownCap w (len + n) sCap e - (len + n))).toList⟩ e)) := by
          intro olds hlt ho hget
          have := app_grow (P := P) (ty := ty) (news := ⟨news⟩) (olds := ⟨olds⟩) (sLen := len) (sCap := sCap) (w := w) T (base := some ⟨l.blk, l.base, none⟩) hlt hl (hn w.drew rfl)
            (run_firstCells_some w.drew _ _ _ _ _ olds ho (fun j v hv => hget j v hv)) c2 c1
          rw [this]
          congr 3
          apply Array.ext'; simp
        cases g with
        | true =>
          simp only [cond_true, appGrow, Option.some.injEq, Prod.mk.injEq] at he
          obtain ⟨rfl, rfl⟩ := he
          obtain ⟨_, rfl, rfl, rfl, hlm⟩ : True ∧ gr = true ∧ cap = 0 ∧ sCap = l.cap ∧ len * i.size ≤ m := by
            rcases hsc with ⟨h, _⟩ | ⟨_, a, b, c, d⟩
            · cases h
            · exact ⟨trivial, a, b, c, d⟩
          have hgt : m < (len + n) * i.size := by
            simp only [Bool.true_or, Bool.and_true] at hk
            rcases Nat.lt_or_ge m ((len + n) * i.size) with h | h
            · exact h
            · rw [Nat.ble_eq_true_of_le h] at hk; cases hk
          have htop := C.top rfl
          rw [hcell] at htop
          have hnone : ρ h.n = none := by
            cases hr : ρ h.n with
            | none => rfl
            | some l => have := (H.bnd _ _ hr).1; omega
          rcases Nat.lt_or_ge l.cap (len + n) with hlt | hge
          · -- a new array
            have hK := H.kill b (H.bnd b l hb).1 (Hp.not_still hg (by simp))
            let olds : List Value := (arr.toList.drop l.base).take (len * i.size)
            have hol : olds.length = len * i.size := by
              have := C.fit
              simp only [olds, List.length_take, List.length_drop, Array.length_toList]; omega
            have hoget : ∀ j, j < len * i.size → olds[j]? = arr[l.base + j]? := by
              intro j hj
              simp only [olds]
              rw [List.getElem?_take, if_pos hj, List.getElem?_drop]; simp
            have hrun := grow olds hlt hol (fun j x hx => by
              have hj : j < len * i.size := by
                rcases Nat.lt_or_ge j olds.length with h | h
                · omega
                · rw [List.getElem?_eq_none h] at hx; cases hx
              rw [add_at, cell_at C.at_, ← hoget j hj]; exact hx)
            have hge := grownCap_ge w (len + n) l.cap e
            generalize hcap' : grownCap w (len + n) l.cap e = cap' at hrun hge
            have hN := hK.drew.new (.cells (c.setL (len * i.size) new) ((len + n) * i.size) true e) (.cells ⟨(olds ++ news) ++ (Builtin.zeroCells z.cells (cap' - (len + n))).toList⟩ e) cap' (by exact rfl)
              ⟨_, heap_alloc_new _ _, fun j v hv => by
                rw [Tr.get_setL] at hv
                simp only [Nat.zero_add, List.getElem?_toArray]
                split at hv
                · rename_i hj
                  obtain ⟨x, h6, h7⟩ := hr.get hv
                  refine ⟨by omega, x, ?_, h7.ext (upd_ext hnone)⟩
                  rw [List.getElem?_append_left (by simp; omega), List.getElem?_append_right (by omega), hol]
                  exact h6
                · rename_i hj
                  obtain ⟨h6, x, h7, h8⟩ := C.get j v hv
                  have hjl : j < len * i.size := by omega
                  refine ⟨by omega, x, ?_, h8.ext (upd_ext hnone)⟩
                  rw [List.getElem?_append_left (by simp; omega), List.getElem?_append_left (by omega), hoget j hjl]
                  exact h7,
                by show 0 + _ ≤ ((olds ++ news) ++ _).length; simp; omega,
                fun _ => by
                  rw [hcell]
                  refine ⟨Nat.mul_le_mul_right _ hge, ?_⟩
                  show 0 + _ ≤ ((olds ++ news) ++ _).length
                  simp only [List.length_append, Array.length_toList, zc_size, hol, hnewl, hzs]
                  have : cap' * i.size = (len + n) * i.size + (cap' - (len + n)) * i.size := by rw [← Nat.add_mul]; congr 1; omega
                  omega⟩
            refine ⟨_, _, _, hrun, ?_, hN.1, hN.2⟩
            have := Rel.sliceG (ρ := Mid.upd ρ h.n ⟨w.heap.size, 0, cap'⟩) (b := h.n) 0 (len + n) 0 (upd_same _ _ _)
            exact this
          · -- in place
            obtain ⟨w', arr', e1, e2, e3, e4⟩ := put_cells (P := P) (off := l.base + len * i.size) C.at_ news hone (by have : (len + n) * i.size ≤ l.cap * i.size := Nat.mul_le_mul_right _ hge
                                                                                                                       omega)
            have hN := H.renew hb ⟨_, hg, by simp⟩ (Hp.not_still hg (by simp)) (.cells (c.setL (len * i.size) new) ((len + n) * i.size) true e) (by exact rfl) e2
              ⟨arr', e2.at_, fun j v hv => by
                rw [Tr.get_setL] at hv
                split at hv
                · rename_i hj
                  obtain ⟨x, h6, h7⟩ := hr.get hv
                  refine ⟨by omega, x, ?_, h7.ext (upd_ext hnone)⟩
                  rw [e4, if_pos (by omega)]
                  have : l.base + j - (l.base + len * i.size) = j - len * i.size := by omega
                  rw [this]; exact h6
                · rename_i hj
                  obtain ⟨h6, x, h7, h8⟩ := C.get j v hv
                  refine ⟨by omega, x, ?_, h8.ext (upd_ext hnone)⟩
                  rw [e4, if_neg (by omega)]; exact h7,
                by rw [e3]; have : (len + n) * i.size ≤ l.cap * i.size := Nat.mul_le_mul_right _ hge
                   omega,
                fun _ => by rw [hcell, e3]; exact ⟨Nat.mul_le_mul_right _ hge, htop.2⟩⟩
            refine ⟨_, w', _, inplace hge w' e1, ?_, hN.1, hN.2⟩
            have := Rel.sliceG (ρ := Mid.upd ρ h.n l) (b := h.n) 0 (len + n) 0 (upd_same _ _ _)
            simpa using this
        | false =>
          simp only [cond_false] at he
          obtain ⟨_, rfl⟩ : True ∧ sCap = cap := by
            rcases hsc with ⟨_, h⟩ | ⟨h, _⟩
            · exact ⟨trivial, h⟩
            · cases h
          cases hlt0 : Nat.blt sCap (len + n) with
          | false => simp [hlt0] at he
          | true =>
            have hlt : sCap < len + n := Nat.le_of_ble_eq_true hlt0
            simp only [hlt0, cond_true, appNew] at he
            cases hgl : c.getL 0 (len * i.size) with
            | none => simp [hgl] at he
            | some old =>
              simp only [hgl, Option.some.injEq, Prod.mk.injEq] at he
              obtain ⟨rfl, rfl⟩ := he
              obtain ⟨olds, g1, g2, g3⟩ := getL_cells C hgl
              have hol : olds.length = len * i.size := by rw [← g2.1]; exact g1
              have hrun := grow olds hlt hol g3
              have hge := grownCap_ge w (len + n) sCap e
              generalize hcap' : grownCap w (len + n) sCap e = cap' at hrun hge
              have hN := H.drew.row (rest := (Builtin.zeroCells z.cells (cap' - (len + n))).toList) e true cap' (g2.append hr) (fun _ => by
                rw [hcell]
                refine ⟨by simp only [List.length_append, g1, hnl]; rw [← Nat.add_mul]; exact Nat.mul_le_mul_right _ hge, ?_⟩
                simp only [List.length_append, Array.length_toList, zc_size, hol, hnewl, hzs]
                have : cap' * i.size = (len + n) * i.size + (cap' - (len + n)) * i.size := by rw [← Nat.add_mul]; congr 1; omega
                omega)
              refine ⟨_, _, _, hrun, ?_, hN.1, hN.2⟩
              have := Rel.sliceG (ρ := Mid.upd ρ h.n ⟨w.drew.heap.size, 0, cap'⟩) (b := h.n) 0 (len + n) 0 (upd_same _ _ _)
              simpa using this
end Go.Mid
