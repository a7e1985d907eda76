/- Operations that make or write memory. -/
import Derived.Test.YtdiiilfokajddaaGreatDoorKMidF
import Derived.Laws.AppendOwn
import Derived.Laws.MakeOwn
set_option linter.all false
set_option warn.classDefReducibility false
noncomputable section
section
open Go.RowKit
namespace Go.Mid
section
variable {P : Program} [Orc] [Z : Res]
theorem R.row {w0 w : World} {h : Hp} {ρ : Rho} (H : R P w0 w h ρ) {cs : List V} {xs rest : List Value} (e : TypeId) (g : Bool) (cap : Nat) (hr : RelL ρ cs xs)
 (hg : g = true → cs.length ≤ cap * P.cellsOf e ∧ cap * P.cellsOf e ≤ (xs ++ rest).length) :
 Ext ρ (Mid.upd ρ h.n ⟨w.heap.size, 0, cap⟩) ∧ R P w0 (w.alloc (.cells ⟨xs ++ rest⟩ e)) (h.newRow e cs g) (Mid.upd ρ h.n ⟨w.heap.size, 0, cap⟩):=by
 have hnone : ρ h.n = none:=by
  cases hr : ρ h.n with
  | none => rfl
  | some l => have:=(H.bnd _ _ hr).1; omega
 refine H.new (.cells (Tr.nil.setL 0 cs) cs.length g e) (.cells ⟨xs ++ rest⟩ e) cap (by exact rfl) ⟨⟨xs ++ rest⟩, heap_alloc_new w _, fun i v hv => ?_, ?_, fun h => ?_⟩
 ·rw [Tr.get_setL] at hv
  split at hv
  ·rename_i hi
   simp only [Nat.sub_zero] at hv
   obtain ⟨x, h1, h2⟩:=hr.get hv
   refine ⟨by omega, x, ?_, h2.ext (upd_ext hnone)⟩
   have hlt : i < xs.length:=by rw [← hr.1]; omega
   simp only [Nat.zero_add, List.getElem?_toArray]
   rw [List.getElem?_append_left hlt]; exact h1
  ·simp [Tr.get_nil] at hv
 ·simp only [Nat.zero_add]
  have:=hr.1
  show _ ≤ (xs ++ rest).length
  simp; omega
 ·obtain ⟨a, b⟩ := hg h
  exact ⟨a, by simpa using b⟩
theorem R.write {w0 w : World} {h : Hp} {ρ : Rho} (H : R P w0 w h ρ) {b : Nat} {l : Lc} {c : Tr V} {n o : Nat} {g : Bool} {e : TypeId} {vs : List V} {xs : List Value} (hb : ρ b = some l)
 (hg : h.t.get b = some (.cells c n g e)) (hr : RelL ρ vs xs) (h1 : ∀ x ∈ xs, x.oneCell' = true) (hfit : o + vs.length ≤ n) :
 ∃ w', (storeCells ⟨l.blk, l.base + o, none⟩ xs).run P w = .ok () w' ∧ R P w0 w' (h.put b (.cells (c.setL o vs) n g e)) ρ:=by
 obtain ⟨arr, C⟩:=H.live b l _ hb hg
 obtain ⟨w', arr', h2, h3, h4, h5⟩:=put_cells (P:=P) (off:=l.base + o) C.at_ xs h1 (by have:=C.fit; have:=hr.1; omega)
 refine ⟨w', h2, H.upd (O:=.cells arr' e) hb ⟨_, hg, by simp⟩ (Hp.not_still hg (by simp)) _ (by exact rfl) h3 ⟨arr', h3.at_, fun i v hv => ?_, by rw [h4]; exact C.fit, fun hgt => by rw [h4]; exact C.top hgt⟩⟩
 rw [Tr.get_setL] at hv
 split at hv
 ·rename_i hi
  obtain ⟨x, h6, h7⟩:=hr.get hv
  refine ⟨by omega, x, ?_, h7⟩
  rw [h5, if_pos (by have:=hr.1; omega)]
  have : l.base + i - (l.base + o) = i - o:=by omega
  rw [this]; exact h6
 ·rename_i hi
  obtain ⟨h6, x, h7, h8⟩:=C.get i v hv
  refine ⟨h6, x, ?_, h8⟩
  rw [h5, if_neg (by have:=hr.1; omega)]
  exact h7
theorem mul_range (z : Array Value) (len : Nat) : ∃ l : List Value, (Array.range (len * z.size)).map (z[· % z.size]!) = ⟨l⟩ ∧ l.length = len * z.size ∧ ∀ i, i < len * z.size → l[i]? = z[i % z.size]?:=by
 refine ⟨((Array.range (len * z.size)).map (z[· % z.size]!)).toList, rfl, by simp, fun i hi => ?_⟩
 have hpos : 0 < z.size:=by
  rcases Nat.eq_zero_or_pos z.size with h | h
  ·rw [h] at hi; simp at hi
  ·exact h
 have hm : i % z.size < z.size:=Nat.mod_lt _ hpos
 rw [Array.getElem?_toList, Array.getElem?_map]
 have : (Array.range (len * z.size))[i]? = some i:=by simp [hi]
 rw [this]
 simp [getElem!_pos, hm]
theorem rep_spec {α : Type} : ∀ (n : Nat) (l acc : List α), (rep n l acc).length = n * l.length + acc.length ∧ ∀ i, i < n * l.length → (rep n l acc)[i]? = l[i % l.length]?
 | 0, l, acc => ⟨by simp [rep], fun i hi => by simp at hi⟩
 | n + 1, l, acc => by
  obtain ⟨h1, h2⟩:=rep_spec n l (l ++ acc)
  refine ⟨by rw [rep, h1]; simp [Nat.add_mul]; omega, fun i hi => ?_⟩
  rw [rep]
  rcases Nat.lt_or_ge i (n * l.length) with h | h
  ·exact h2 i h
  ·have hr : ∀ (n : Nat) (acc : List α) i, (rep n l acc)[n * l.length + i]? = acc[i]?:=by
    intro n
    induction n with
    | zero => intro acc i; simp [rep]
    | succ n ih =>
     intro acc i
     rw [rep]
     have e : (n + 1) * l.length + i = n * l.length + (l.length + i):=by rw [Nat.add_mul]; omega
     rw [e, ih, List.getElem?_append_right (by omega)]
     congr 1; omega
   obtain ⟨j, rfl⟩ : ∃ j, i = n * l.length + j:=⟨i - n * l.length, by omega⟩
   have hj : j < l.length:=by rw [Nat.add_mul] at hi; omega
   rw [hr n (l ++ acc) j, List.getElem?_append_left hj]
   congr 1
   rw [Nat.add_comm, Nat.add_mul_mod_self_right, Nat.mod_eq_of_lt hj]
theorem mulz_rel {ρ : Rho} {z : List V} {zx : Array Value} (h : RelL ρ z zx.toList) (len : Nat) : RelL ρ (mulz z len) ((Array.range (len * zx.size)).map (zx[· % zx.size]!)).toList:=by
 obtain ⟨l, h1, h2, h3⟩:=mul_range zx len
 have hl : z.length = zx.size:=by rw [h.1]; simp
 obtain ⟨g1, g2⟩:=rep_spec len z ([] : List V)
 rw [h1]
 refine ⟨by unfold mulz; rw [g1, h2, hl]; simp, fun i v x hv hx => ?_⟩
 have hi : i < len * zx.size:=by
  rcases Nat.lt_or_ge i l.length with h | h
  ·omega
  ·rw [List.getElem?_eq_none h] at hx; cases hx
 unfold mulz at hv
 rw [g2 i (by rw [hl]; exact hi)] at hv
 rw [h3 i hi] at hx
 rw [hl] at hv
 exact h.2 _ v x hv (by rw [Array.getElem?_toList]; exact hx)
structure AppT (P : Program) (t t2 e : TypeId) (i : TypeInfo) (z : Value) : Prop where
 ht : P.underlying t = some (.slice e)
 h2 : (∃ e2, P.underlying t2 = some (.slice e2)) ∨ P.underlying t2 = some .string
 hi : P.info? e = some i
 hz : i.zero = some z
section
variable {t t2 ty e : TypeId} {i : TypeInfo} {z x : Value} {w w' : World} {sLen sCap n : Nat} {news : Array Value}
theorem app_in (T : AppT P t t2 e i z) {a : Addr} (hle : sLen + n ≤ sCap) (hl : Builtin.lenOf x = pure n) (hn : (Builtin.firstCells i.size n x).run P w = .ok news w)
 (hs : (storeCells (a.add (sLen * i.size)) news.toList).run P w = .ok () w') : (Builtin.append_ #[t, t2] ty #[.slice (some a) sLen sCap, x]).run P w = .ok (.slice (some a) (sLen + n) sCap) w':=by
 rcases T.h2 with ⟨e2, hd⟩ | hd
 ·simp [Builtin.append_, run_underlying T.ht, run_underlying hd, sizeOf, typeInfo, T.hi, hl, hle, hn, hs]
 ·simp [Builtin.append_, run_underlying T.ht, run_underlying hd, sizeOf, typeInfo, T.hi, hl, hle, hn, hs]
theorem app_none (T : AppT P t t2 e i z) (hl : Builtin.lenOf x = pure 0) (hn : (Builtin.firstCells i.size 0 x).run P w = .ok news w) :
 (Builtin.append_ #[t, t2] ty #[.slice none 0 0, x]).run P w = .ok (.slice none 0 0) w:=by
 rcases T.h2 with ⟨e2, hd⟩ | hd
 ·simp [Builtin.append_, run_underlying T.ht, run_underlying hd, sizeOf, typeInfo, T.hi, hl, hn]
 ·simp [Builtin.append_, run_underlying T.ht, run_underlying hd, sizeOf, typeInfo, T.hi, hl, hn]
set_option maxHeartbeats 1000000 in
theorem app_grow (T : AppT P t t2 e i z) {base : Option Addr} (hlt : sCap < sLen + n) (hl : Builtin.lenOf x = pure n) (hn : (Builtin.firstCells i.size n x).run P w.drew = .ok news w.drew)
 {olds : Array Value} (ho : (Builtin.firstCells i.size sLen (.slice base sLen sCap)).run P w.drew = .ok olds w.drew) (h1 : sLen + n ≤ 1073741824) (h2 : (sLen + n) * i.bytes ≤ 1073741824) :
 (Builtin.append_ #[t, t2] ty #[.slice base sLen sCap, x]).run P w = .ok (.slice (some ⟨w.heap.size, 0, none⟩) (sLen + n) (grownCap w (sLen + n) sCap e))
   (w.drew.alloc (.cells (olds ++ news ++ Builtin.zeroCells z.cells (grownCap w (sLen + n) sCap e - (sLen + n))) e)):=by
 have hng : ¬ (sLen + n ≤ sCap):=by omega
 have h63' : ¬ (9223372036854775807 < ((sLen : Int) + (n : Int))):=by omega
 have hfit:=growslice_fits (bytes:=i.bytes) hlt (by omega)
 have h48' : ¬ (281474976710656 < Builtin.nextslicecap (sLen + n) sCap * i.bytes):=by omega
 rw [Array.append_assoc]
 rcases T.h2 with ⟨e2, hd⟩ | hd
 ·simp [Builtin.append_, run_underlying T.ht, run_underlying hd, sizeOf, typeInfo, zeroValue, T.hi, T.hz, hl, hng, h63', h48', Question.forced, hn, ho, newRow, grownCap]
 ·simp [Builtin.append_, run_underlying T.ht, run_underlying hd, sizeOf, typeInfo, zeroValue, T.hi, T.hz, hl, hng, h63', h48', Question.forced, hn, ho, newRow, grownCap]
end
end
section
variable {P : Program} [Orc] [Z : Res]
theorem rel_unit (ρ : Rho) : Rel ρ unitV undef:=.tuple (xs:=[]) rfl (fun i v x h => by simp at h)
theorem getL_cells' {ρ : Rho} {w : World} {l : Lc} {c : Tr V} {e : TypeId} {arr : Array Value} {fz : Nat × Nat} (C1 : w.heap[l.blk]? = some (.cells arr e fz)) (C2 : ∀ i v, c.get i = some v → ∃ x, arr[l.base + i]? = some x ∧ Rel ρ v x) {o n : Nat} {vs : List V} (hl : c.getL o n = some vs) :
 ∃ xs : List Value, vs.length = n ∧ RelL ρ vs xs ∧ ∀ (j : Nat) x, xs[j]? = some x → w.cell? ((⟨l.blk, l.base + o, none⟩ : Addr).add j) = some x:=by
 obtain ⟨h1, h2⟩:=Tr.getL_spec _ _ _ _ hl
 have hx : ∀ j, j < n → ∃ x v, vs[j]? = some v ∧ arr[l.base + (o + j)]? = some x ∧ Rel ρ v x:=by
  intro j hj
  have hj' : j < vs.length:=by omega
  have e1:=h2 j hj
  rw [List.getElem?_eq_getElem hj'] at e1
  obtain ⟨x, h3, h4⟩:=C2 _ _ e1.symm
  exact ⟨x, _, List.getElem?_eq_getElem hj', h3, h4⟩
 have hfit : n = 0 ∨ l.base + (o + n) ≤ arr.size:=by
  rcases Nat.eq_zero_or_pos n with h0 | h0
  ·exact .inl h0
  ·obtain ⟨x, _, _, h3, _⟩ := hx (n - 1) (by omega)
   have:=(Array.getElem?_eq_some_iff.1 h3).1
   exact .inr (by omega)
 have hlen : ((arr.toList.drop (l.base + o)).take n).length = n:=by simp only [List.length_take, List.length_drop, Array.length_toList]; omega
 have hget : ∀ j, j < n → ((arr.toList.drop (l.base + o)).take n)[j]? = arr[l.base + (o + j)]?:=by
  intro j hj
  rw [List.getElem?_take, if_pos hj, List.getElem?_drop, Nat.add_assoc]; simp
 have hlt : ∀ (j : Nat) x, ((arr.toList.drop (l.base + o)).take n)[j]? = some x → j < n:=by
  intro j x hj
  rcases Nat.lt_or_ge j n with h | h
  ·exact h
  ·rw [List.getElem?_eq_none (by omega)] at hj; cases hj
 refine ⟨(arr.toList.drop (l.base + o)).take n, h1, ⟨by rw [hlen, h1], fun j v x hv hxx => ?_⟩, fun j x hxx => ?_⟩
 ·have hj := hlt j x hxx
  obtain ⟨y, u, h3, h4, h5⟩:=hx j hj
  rw [hget j hj, h4] at hxx
  rw [h3] at hv
  simp only [Option.some.injEq] at hv hxx
  subst hv hxx; exact h5
 ·have hj := hlt j x hxx
  rw [add_at, cell_at C1, Nat.add_assoc, ← hget j hj]; exact hxx
theorem getL_cells {ρ : Rho} {w : World} {l : Lc} {c : Tr V} {m : Nat} {g : Bool} {e : TypeId} {arr : Array Value} (C : CellsR P ρ w l c m g e arr) {o n : Nat} {vs : List V} (hl : c.getL o n = some vs) :
 ∃ xs : List Value, vs.length = n ∧ RelL ρ vs xs ∧ ∀ (j : Nat) x, xs[j]? = some x → w.cell? ((⟨l.blk, l.base + o, none⟩ : Addr).add j) = some x :=
 getL_cells' C.at_ (fun i v hv => let ⟨_, x, h1, h2⟩:=C.get i v hv; ⟨x, h1, h2⟩) hl
theorem cell_heap {w w' : World} (h : w'.heap = w.heap) (a : Addr) : w'.cell? a = w.cell? a:=by simp [World.cell?, h]
theorem newCells_sim {ρ : Rho} {w : World} {h : Hp} (H : Live P ρ w h) {size n : Nat} {x : V} {xv : Value} {new : List V} (hx : Rel ρ x xv) (he : newCells h size x = some (n, new)) :
 ∃ news : List Value, Builtin.lenOf xv = pure n ∧ (∀ w', w'.heap = w.heap → (Builtin.firstCells size n xv).run P w' = .ok ⟨news⟩ w') ∧ RelL ρ new news ∧ new.length = n * size:=by
 cases hx <;> simp only [newCells, reduceCtorEq] at he
 case str s =>
  cases hs : Nat.beq size 1 with
  | false => simp [hs] at he
  | true =>
   have:=Nat.eq_of_beq_eq_true hs; subst this
   simp only [hs, cond_true, Option.some.injEq, Prod.mk.injEq] at he
   obtain ⟨rfl, rfl⟩:=he
   have hln:=Bs.l_len s
   rw [← hln]
   generalize s.l = s at hln ⊢
   clear hln
   refine ⟨s.map fun b => .int .u8 b.toNat, rfl, fun w' _ => ?_, ⟨by simp, fun i v x h1 h2 => ?_⟩, by simp⟩
   ·simp only [Builtin.firstCells, Sem.run_pure]
    congr 1
    apply Array.ext'
    have e : ((ByteArray.mk ⟨s⟩).extract 0 s.length).data = ⟨s⟩:=by
     rw [ByteArray.data_extract]; apply Array.ext'; simp
    rw [e]; simp
   ·simp only [List.getElem?_map] at h1 h2
    cases hb : s[i]? with
    | none => simp [hb] at h1
    | some b =>
     simp only [hb, Option.map_some, Option.some.injEq] at h1 h2
     subst h1 h2; exact .int _ _
 case nilSlice =>
  simp only [Option.some.injEq, Prod.mk.injEq] at he
  obtain ⟨rfl, rfl⟩:=he
  exact ⟨[], rfl, fun w' _ => by simp [Builtin.firstCells], RelL.nil ρ, by simp⟩
 case sliceZ =>
  split at he <;> try (cases he; done)
  rename_i c hg
  split at he <;> try (cases he; done)
  rename_i vs hl
  simp only [Option.some.injEq, Prod.mk.injEq] at he
  obtain ⟨rfl, rfl⟩:=he
  rw [Nat.zero_mul] at hl
  have e0 : vs = []:=by simpa [Tr.getL_zero, Tr.getL_succ] using hl.symm
  subst e0
  exact ⟨[], rfl, fun w' _ => by simp [Builtin.firstCells, loadCells, loadCellsFrom], RelL.nil ρ, by simp⟩
 case sliceE =>
  split at he <;> try (cases he; done)
  rename_i c hg
  split at he <;> try (cases he; done)
  rename_i vs hl
  simp only [Option.some.injEq, Prod.mk.injEq] at he
  obtain ⟨rfl, rfl⟩:=he
  rw [Nat.zero_mul] at hl
  have e0 : vs = []:=by simpa [Tr.getL_zero, Tr.getL_succ] using hl.symm
  subst e0
  exact ⟨[], rfl, fun w' _ => by simp [Builtin.firstCells, loadCells, loadCellsFrom], RelL.nil ρ, by simp⟩
 all_goals
  rename_i hb
  split at he <;> try (cases he; done)
  rename_i c hg
  split at he <;> try (cases he; done)
  rename_i vs hl
  simp only [Option.some.injEq, Prod.mk.injEq] at he
  obtain ⟨rfl, rfl⟩:=he
  obtain ⟨arr, e, fz, C1, C2⟩:=H.cellsT hb hg
  obtain ⟨xs, h1, h2, h3⟩:=getL_cells' C1 C2 hl
  refine ⟨xs, rfl, fun w' hw' => ?_, h2, h1⟩
  exact run_firstCells_some w' _ _ _ _ _ xs (by rw [← h2.1, h1]) fun j v hv => by rw [cell_heap hw']; exact h3 j v hv
theorem zc_size {z : Array Value} {n : Nat} : (Builtin.zeroCells z n).size = n * z.size:=by simp [Builtin.zeroCells]
theorem appSl_sim {ρ : Rho} {w0 w : World} {h h' : Hp} (H : R P w0 w h ρ) {t t2 ty elem : TypeId} {i : TypeInfo} {z : Value} (T : AppT P t t2 elem i z) (hzs : z.cells.size = i.size) {b o len cap n : Nat} {g : Bool}
 {sv xv : Value} (hs : Rel ρ (.slice b o len cap g) sv) {new : List V} {news : List Value} (hl : Builtin.lenOf xv = pure n) (hn : ∀ w', w'.heap = w.heap → (Builtin.firstCells i.size n xv).run P w' = .ok ⟨news⟩ w')
 (hr : RelL ρ new news) (hnl : new.length = n * i.size) (h1 : allOne new = true) {v : V} (he : appSl h elem i.bytes i.size b o len cap g n new = some (v, h')) :
 ∃ x w' ρ', (Builtin.append_ #[t, t2] ty #[sv, xv]).run P w = .ok x w' ∧ Rel ρ' v x ∧ Ext ρ ρ' ∧ R P w0 w' h' ρ':=by
 have hone:=allOne_mem hr h1
 have hnewl : news.length = n * i.size:=by rw [← hr.1]; exact hnl
 obtain ⟨l, hb⟩ : ∃ l, ρ b = some l:=by cases hs <;> exact ⟨_, by assumption⟩
 unfold appSl at he
 cases hg : h.t.get b with
 | none => simp [hg] at he
 | some ob =>
  cases ob <;> simp only [hg, reduceCtorEq] at he
  rename_i c m gr e
  obtain ⟨arr, C⟩:=H.live b l _ hb hg
  cases hc : (roomB ((len + n) * i.bytes) && roomB (len + n) && Nat.beq o 0 && Nat.beq e elem && !Nat.beq i.size 0 && (!g || (gr && Nat.beq cap 0 && Nat.ble (len * i.size) m))) with
  | false => simp [hc] at he
  | true =>
   simp only [hc, cond_true] at he
   simp only [Bool.and_eq_true, Bool.or_eq_true, Bool.not_eq_true'] at hc
   obtain ⟨⟨⟨⟨⟨c1, c2⟩, c3⟩, c4⟩, c5⟩, c6⟩:=hc
   have c1:=Nat.le_of_ble_eq_true c1
   have c2:=Nat.le_of_ble_eq_true c2
   have c3:=Nat.eq_of_beq_eq_true c3
   have c4:=Nat.eq_of_beq_eq_true c4
   have hs0 : i.size ≠ 0:=fun e => by rw [e] at c5; simp at c5
   subst c3 c4
   have hcell : P.cellsOf e = i.size:=by simp [Program.cellsOf, T.hi]
   obtain ⟨sCap, hsv, hsc⟩ : ∃ sCap, sv = .slice (some ⟨l.blk, l.base, none⟩) len sCap ∧ ((g = false ∧ sCap = cap) ∨ (g = true ∧ gr = true ∧ cap = 0 ∧ sCap = l.cap ∧ len * i.size ≤ m)):=by
    cases hs with
    | sliceK _ _ _ hb' => rw [hb] at hb'; cases hb'; exact ⟨cap, rfl, .inl ⟨rfl, rfl⟩⟩
    | sliceZ _ _ hb' hz => rw [hb] at hb'; cases hb'; exact (hz (H.own2 hb (Hp.not_still hg (by simp))).2).elim
    | sliceE _ _ _ _ hk =>
     rcases c6 with c6 | c6
     ·cases c6
     ·exact (hk (Nat.eq_of_beq_eq_true c6.1.2)).elim
    | sliceG _ _ _ hb' =>
     rw [hb] at hb'; cases hb'
     rcases c6 with c6 | c6
     ·cases c6
     ·have := Nat.eq_of_beq_eq_true c6.1.2; subst this
      exact ⟨l.cap, rfl, .inr ⟨rfl, c6.1.1, rfl, rfl, Nat.le_of_ble_eq_true c6.2⟩⟩
   subst hsv
   have hmul : (len + n) * i.size = len * i.size + n * i.size:=Nat.add_mul _ _ _
   have inplace : len + n ≤ sCap → ∀ w', (storeCells ⟨l.blk, l.base + len * i.size, none⟩ news).run P w = .ok () w' →
    (Builtin.append_ #[t, t2] ty #[.slice (some ⟨l.blk, l.base, none⟩) len sCap, xv]).run P w = .ok (.slice (some ⟨l.blk, l.base, none⟩) (len + n) sCap) w':=by
    intro hle w' hst
    exact app_in (news:=⟨news⟩) T hle hl (hn w rfl) (by rw [add_at]; exact hst)
   cases hk : (Nat.ble ((len + n) * i.size) m && (g || Nat.ble (len + n) cap)) with
   | true =>
    simp only [hk, cond_true, appIn, Option.some.injEq, Prod.mk.injEq] at he
    obtain ⟨rfl, rfl⟩:=he
    simp only [Bool.and_eq_true, Bool.or_eq_true] at hk
    have k1:=Nat.le_of_ble_eq_true hk.1
    have hle : len + n ≤ sCap:=by
     rcases hsc with ⟨rfl, rfl⟩ | ⟨rfl, rfl, rfl, rfl, _⟩
     ·rcases hk.2 with k | k
      ·cases k
      ·exact Nat.le_of_ble_eq_true k
     ·have := (C.top rfl).1
      rw [hcell] at this
      exact Nat.le_of_mul_le_mul_right (Nat.le_trans k1 this) (Nat.pos_of_ne_zero hs0)
    have hval : Rel ρ (.slice b 0 (len + n) cap g) (.slice (some ⟨l.blk, l.base, none⟩) (len + n) sCap):=by
     rcases hsc with ⟨rfl, rfl⟩ | ⟨rfl, rfl, rfl, rfl, _⟩
     ·exact .sliceK 0 _ _ hb
     ·exact .sliceG 0 _ 0 hb
    cases hn0 : Nat.beq n 0 with
    | true =>
     have:=Nat.eq_of_beq_eq_true hn0; subst this
     have hnil : news = []:=List.eq_nil_of_length_eq_zero (by rw [hnewl]; simp)
     subst hnil
     exact ⟨_, w, ρ, inplace hle w rfl, hval, Ext.refl _, H⟩
    | false =>
     obtain ⟨w', e1, e2⟩:=H.write hb hg hr hone (o:=len * i.size) (by rw [hnl]; omega)
     exact ⟨_, w', ρ, inplace hle w' e1, hval, Ext.refl _, e2⟩
   | false =>
    simp only [hk, cond_false] at he
    have grow : ∀ olds : List Value, sCap < len + n → olds.length = len * i.size → (∀ (j : Nat) x, olds[j]? = some x → w.cell? ((⟨l.blk, l.base, none⟩ : Addr).add j) = some x) →
     (Builtin.append_ #[t, t2] ty #[.slice (some ⟨l.blk, l.base, none⟩) len sCap, xv]).run P w = .ok (.slice (some ⟨w.heap.size, 0, none⟩) (len + n) (grownCap w (len + n) sCap e))
       (w.drew.alloc (.cells ⟨(olds ++ news) ++ (Builtin.zeroCells z.cells (grownCap w (len + n) sCap e - (len + n))).toList⟩ e)):=by
     intro olds hlt ho hget
     have := app_grow (P := P) (ty := ty) (news := ⟨news⟩) (olds := ⟨olds⟩) (sLen := len) (sCap := sCap) (w := w) T (base := some ⟨l.blk, l.base, none⟩) hlt hl (hn w.drew rfl)
      (run_firstCells_some w.drew _ _ _ _ _ olds ho (fun j v hv => hget j v hv)) c2 c1
     rw [this]
     congr 3
     apply Array.ext'; simp
    cases g with
    | true =>
     simp only [cond_true, appGrow, Option.some.injEq, Prod.mk.injEq] at he
     obtain ⟨rfl, rfl⟩:=he
     obtain ⟨_, rfl, rfl, rfl, hlm⟩ : True ∧ gr = true ∧ cap = 0 ∧ sCap = l.cap ∧ len * i.size ≤ m:=by
      rcases hsc with ⟨h, _⟩ | ⟨_, a, b, c, d⟩
      ·cases h
      ·exact ⟨trivial, a, b, c, d⟩
     have hgt : m < (len + n) * i.size:=by
      simp only [Bool.true_or, Bool.and_true] at hk
      rcases Nat.lt_or_ge m ((len + n) * i.size) with h | h
      ·exact h
      ·rw [Nat.ble_eq_true_of_le h] at hk; cases hk
     have htop:=C.top rfl
     rw [hcell] at htop
     have hnone : ρ h.n = none:=by
      cases hr : ρ h.n with
      | none => rfl
      | some l => have:=(H.bnd _ _ hr).1; omega
     rcases Nat.lt_or_ge l.cap (len + n) with hlt | hge
     ·
      have hK:=H.kill b (H.bnd b l hb).1 (Hp.not_still hg (by simp))
      let olds : List Value:=(arr.toList.drop l.base).take (len * i.size)
      have hol : olds.length = len * i.size:=by
       have:=C.fit
       simp only [olds, List.length_take, List.length_drop, Array.length_toList]; omega
      have hoget : ∀ j, j < len * i.size → olds[j]? = arr[l.base + j]?:=by
       intro j hj
       simp only [olds]
       rw [List.getElem?_take, if_pos hj, List.getElem?_drop]; simp
      have hrun := grow olds hlt hol (fun j x hx => by
       have hj : j < len * i.size:=by
        rcases Nat.lt_or_ge j olds.length with h | h
        ·omega
        ·rw [List.getElem?_eq_none h] at hx; cases hx
       rw [add_at, cell_at C.at_, ← hoget j hj]; exact hx)
      have hge:=grownCap_ge w (len + n) l.cap e
      generalize hcap' : grownCap w (len + n) l.cap e = cap' at hrun hge
      have hN := hK.drew.new (.cells (c.setL (len * i.size) new) ((len + n) * i.size) true e) (.cells ⟨(olds ++ news) ++ (Builtin.zeroCells z.cells (cap' - (len + n))).toList⟩ e) cap' (by exact rfl)
       ⟨_, heap_alloc_new _ _, fun j v hv => by
        rw [Tr.get_setL] at hv
        simp only [Nat.zero_add, List.getElem?_toArray]
        split at hv
        ·rename_i hj
         obtain ⟨x, h6, h7⟩:=hr.get hv
         refine ⟨by omega, x, ?_, h7.ext (upd_ext hnone)⟩
         rw [List.getElem?_append_left (by simp; omega), List.getElem?_append_right (by omega), hol]
         exact h6
        ·rename_i hj
         obtain ⟨h6, x, h7, h8⟩:=C.get j v hv
         have hjl : j < len * i.size:=by omega
         refine ⟨by omega, x, ?_, h8.ext (upd_ext hnone)⟩
         rw [List.getElem?_append_left (by simp; omega), List.getElem?_append_left (by omega), hoget j hjl]
         exact h7,
        by show 0 + _ ≤ ((olds ++ news) ++ _).length; simp; omega,
        fun _ => by
         rw [hcell]
         refine ⟨Nat.mul_le_mul_right _ hge, ?_⟩
         show 0 + _ ≤ ((olds ++ news) ++ _).length
         simp only [List.length_append, Array.length_toList, zc_size, hol, hnewl, hzs]
         have : cap' * i.size = (len + n) * i.size + (cap' - (len + n)) * i.size:=by rw [← Nat.add_mul]; congr 1; omega
         omega⟩
      refine ⟨_, _, _, hrun, ?_, hN.1, hN.2⟩
      have:=Rel.sliceG (ρ:=Mid.upd ρ h.n ⟨w.heap.size, 0, cap'⟩) (b:=h.n) 0 (len + n) 0 (upd_same _ _ _)
      exact this
     ·
      obtain ⟨w', arr', e1, e2, e3, e4⟩ := put_cells (P := P) (off := l.base + len * i.size) C.at_ news hone (by have : (len + n) * i.size ≤ l.cap * i.size := Nat.mul_le_mul_right _ hge
                                                                                                                 omega)
      have hN := H.renew hb ⟨_, hg, by simp⟩ (Hp.not_still hg (by simp)) (.cells (c.setL (len * i.size) new) ((len + n) * i.size) true e) (by exact rfl) e2
       ⟨arr', e2.at_, fun j v hv => by
        rw [Tr.get_setL] at hv
        split at hv
        ·rename_i hj
         obtain ⟨x, h6, h7⟩:=hr.get hv
         refine ⟨by omega, x, ?_, h7.ext (upd_ext hnone)⟩
         rw [e4, if_pos (by omega)]
         have : l.base + j - (l.base + len * i.size) = j - len * i.size:=by omega
         rw [this]; exact h6
        ·rename_i hj
         obtain ⟨h6, x, h7, h8⟩:=C.get j v hv
         refine ⟨by omega, x, ?_, h8.ext (upd_ext hnone)⟩
         rw [e4, if_neg (by omega)]; exact h7,
        by rw [e3]; have : (len + n) * i.size ≤ l.cap * i.size := Nat.mul_le_mul_right _ hge
           omega,
        fun _ => by rw [hcell, e3]; exact ⟨Nat.mul_le_mul_right _ hge, htop.2⟩⟩
      refine ⟨_, w', _, inplace hge w' e1, ?_, hN.1, hN.2⟩
      have:=Rel.sliceG (ρ:=Mid.upd ρ h.n l) (b:=h.n) 0 (len + n) 0 (upd_same _ _ _)
      simpa using this
    | false =>
     simp only [cond_false] at he
     obtain ⟨_, rfl⟩ : True ∧ sCap = cap:=by
      rcases hsc with ⟨_, h⟩ | ⟨h, _⟩
      ·exact ⟨trivial, h⟩
      ·cases h
     cases hlt0 : Nat.blt sCap (len + n) with
     | false => simp [hlt0] at he
     | true =>
      have hlt : sCap < len + n:=Nat.le_of_ble_eq_true hlt0
      simp only [hlt0, cond_true, appNew] at he
      cases hgl : c.getL 0 (len * i.size) with
      | none => simp [hgl] at he
      | some old =>
       simp only [hgl, Option.some.injEq, Prod.mk.injEq] at he
       obtain ⟨rfl, rfl⟩:=he
       obtain ⟨olds, g1, g2, g3⟩:=getL_cells C hgl
       have hol : olds.length = len * i.size:=by rw [← g2.1]; exact g1
       have hrun:=grow olds hlt hol g3
       have hge:=grownCap_ge w (len + n) sCap e
       generalize hcap' : grownCap w (len + n) sCap e = cap' at hrun hge
       have hN := H.drew.row (rest := (Builtin.zeroCells z.cells (cap' - (len + n))).toList) e true cap' (g2.append hr) (fun _ => by
        rw [hcell]
        refine ⟨by simp only [List.length_append, g1, hnl]; rw [← Nat.add_mul]; exact Nat.mul_le_mul_right _ hge, ?_⟩
        simp only [List.length_append, Array.length_toList, zc_size, hol, hnewl, hzs]
        have : cap' * i.size = (len + n) * i.size + (cap' - (len + n)) * i.size:=by rw [← Nat.add_mul]; congr 1; omega
        omega)
       refine ⟨_, _, _, hrun, ?_, hN.1, hN.2⟩
       have:=Rel.sliceG (ρ:=Mid.upd ρ h.n ⟨w.drew.heap.size, 0, cap'⟩) (b:=h.n) 0 (len + n) 0 (upd_same _ _ _)
       simpa using this
theorem mapSet_sim {ρ : Rho} {d : TypeDesc} {k v : V} {kx : Value} (hk : Rel ρ k kx) (hok : keyOk (some d) k = true) : ∀ {es : List (V × V)} {ents : List MapEntry} {r : Option V} (n : Nat), es.length = ents.length →
 (∀ (i : Nat) a b e, es[i]? = some (a, b) → ents[i]? = some e → Rel ρ a e.key ∧ Rel ρ b e.val) → mapGet k es = some r →
 (r = none ∧ mapSet k v es = es ++ [(k, v)]) ∨ ∃ x i e, Instr.findNow d kx ents n = some (some (n + i, x)) ∧ mapSet k v es = es.set i (k, v) ∧ ents[i]? = some e ∧ Instr.sameBits 10000 e.key kx = true
 | [], ents, r, n, hl, _, h => by
  simp only [mapGet, Option.some.injEq] at h
  exact .inl ⟨h.symm, rfl⟩
 | (k', u) :: es, [], r, n, hl, _, h => by simp at hl
 | (k', u) :: es, e :: ents, r, n, hl, hr, h => by
  have hl' : es.length = ents.length:=by simpa using hl
  obtain ⟨h1, h2⟩:=hr 0 k' u e rfl rfl
  have hr' : ∀ (i : Nat) a b e, es[i]? = some (a, b) → ents[i]? = some e → Rel ρ a e.key ∧ Rel ρ b e.val:=fun i a b e x y => hr (i + 1) a b e (by simpa using x) (by simpa using y)
  have next : mapGet k es = some r → Instr.sameNow d kx e.key = some false → mapSet k v ((k', u) :: es) = (k', u) :: mapSet k v es →
   (r = none ∧ mapSet k v ((k', u) :: es) = ((k', u) :: es) ++ [(k, v)]) ∨ ∃ x i e', Instr.findNow d kx (e :: ents) n = some (some (n + i, x)) ∧ mapSet k v ((k', u) :: es) = ((k', u) :: es).set i (k, v) ∧ (e :: ents)[i]? = some e' ∧ Instr.sameBits 10000 e'.key kx = true:=by
   intro hm hs hset
   have hf : Instr.findNow d kx (e :: ents) n = Instr.findNow d kx ents (n + 1):=by simp only [Instr.findNow, hs]
   rw [hf, hset]
   rcases mapSet_sim hk hok (n + 1) hl' hr' hm with ⟨a, b⟩ | ⟨x, i, e', a, b, c, g⟩
   ·exact .inl ⟨a, by rw [b]; rfl⟩
   ·exact .inr ⟨x, i + 1, e', by rw [a]; congr 3; omega, by rw [b]; rfl, by simpa using c, g⟩
  have hit : Instr.sameNow d kx e.key = some true → mapSet k v ((k', u) :: es) = (k, v) :: es → Instr.sameBits 10000 e.key kx = true →
   (r = none ∧ mapSet k v ((k', u) :: es) = ((k', u) :: es) ++ [(k, v)]) ∨ ∃ x i e', Instr.findNow d kx (e :: ents) n = some (some (n + i, x)) ∧ mapSet k v ((k', u) :: es) = ((k', u) :: es).set i (k, v) ∧ (e :: ents)[i]? = some e' ∧ Instr.sameBits 10000 e'.key kx = true:=by
   intro hs hset hb
   exact .inr ⟨e.val, 0, e, by simp only [Instr.findNow, hs, Nat.add_zero], hset, rfl, hb⟩
  have hkey : ∃ ek, ek = e.key:=⟨_, rfl⟩
  obtain ⟨ek, hek⟩:=hkey
  rw [← hek] at h1 next hit
  cases hk with
  | int a x =>
   cases d <;> simp only [keyOk, Bool.false_eq_true] at hok
   cases h1 <;> simp only [mapGet, reduceCtorEq] at h
   rename_i b y
   cases hkk : kEq a b with
   | false => simp [hkk] at h
   | true =>
    have:=kEq_eq hkk; subst this
    simp only [hkk, cond_true] at h
    cases hi : iEq x y with
    | true =>
     refine hit ?_ (by simp only [mapSet, hi, cond_true]) ?_
     ·rw [iEq_eq] at hi; simp only [Instr.sameNow, if_true, hi]
     ·rw [iEq_eq] at hi; have : x = y := by simpa using hi
      subst this; simp [Instr.sameBits]
    | false =>
     simp only [hi, cond_false] at h
     exact next h (by rw [iEq_eq] at hi; simp only [Instr.sameNow, if_true, hi]) (by simp only [mapSet, hi, cond_false])
  | str x =>
   cases d <;> simp only [keyOk, Bool.false_eq_true] at hok
   cases h1 <;> simp only [mapGet, reduceCtorEq] at h
   rename_i y
   have hb : (ByteArray.mk ⟨x.l⟩ == ByteArray.mk ⟨y.l⟩) = x.eq y:=by
    rw [beq_toListBytes, ByteArray.toList_eq, ByteArray.toList_eq, Bs.eq_eq]
   cases hi : x.eq y with
   | true =>
    refine hit (by simp only [Instr.sameNow, hb, hi]) (by simp only [mapSet, hi, cond_true]) ?_
    have e:=(Bs.eq_iff x y).1 hi
    have : (ByteArray.mk ⟨y.l⟩ == ByteArray.mk ⟨x.l⟩) = true:=by rw [beq_toListBytes, e]; simp
    simpa only [Instr.sameBits] using this
   | false =>
    simp only [hi, cond_false] at h
    exact next h (by simp only [Instr.sameNow, hb, hi]) (by simp only [mapSet, hi, cond_false])
  | bool x =>
   cases d <;> simp only [keyOk, Bool.false_eq_true] at hok
   cases h1 <;> simp only [mapGet, reduceCtorEq] at h
   rename_i y
   cases hi : (x == y) with
   | true =>
    refine hit (by simp only [Instr.sameNow, hi]) (by simp only [mapSet, hi, cond_true]) ?_
    have : x = y:=by simpa using hi
    subst this; simp [Instr.sameBits]
   | false =>
    simp only [hi, cond_false] at h
    exact next h (by simp only [Instr.sameNow, hi]) (by simp only [mapSet, hi, cond_false])
  | _ => cases d <;> simp [keyOk] at hok
theorem range0 (f : Nat → Value) {n : Nat} (h : n = 0) : (Array.range n).map f = #[]:=by subst h; simp
theorem make_simC {w0 w : World} {h h' : Hp} {ρ : Rho} {a : Act} {t : Tr V} {o : Oper} {v : V} (H : R P w0 w h ρ) (ho : OpR ρ a t o.op.operands.toList) (hc : isCall o = false) (he : execC P t h o.op = some (v, h')) :
 Made P w0 ((execOp a.eval o).run P w) v h' ρ:=by
 cases hm : makesC o.op with
 | false =>
  obtain ⟨rfl, x, h1, h2⟩:=read_simC H.live ho hm he
  exact ⟨x, w, ρ, .inl h1, h2, Ext.refl _, H⟩
 | true =>
 obtain ⟨dst, op, type, pos, after, guard⟩:=o
 have take : ∀ {s : Sem Value}, (∃ x w' ρ', s.run P w = .ok x w' ∧ Rel ρ' v x ∧ Ext ρ ρ' ∧ R P w0 w' h' ρ') → Made P w0 ((do let r ← s; pure (Next.value r) : Sem Next).run P w) v h' ρ :=
  fun ⟨x, w', ρ', h1, h2, h3, h4⟩ => ⟨x, w', ρ', .inl (run_v h1), h2, h3, h4⟩
 have takeu : ∀ {s : Sem Unit}, v = unitV → (∃ w' ρ', s.run P w = .ok () w' ∧ Ext ρ ρ' ∧ R P w0 w' h' ρ') → Made P w0 ((do s; pure Next.skip : Sem Next).run P w) v h' ρ :=
  fun e ⟨w', ρ', h1, h3, h4⟩ => ⟨undef, w', ρ', .inr ⟨run_u h1, rfl⟩, by rw [e]; exact rel_unit ρ', h3, h4⟩
 have read : ∀ {x : Operand} {u : V}, x ∈ op.operands.toList → evalO t x = some u → Rel ρ u (a.eval x):=fun hx hu => ho _ hx _ hu
 cases op <;> simp only [makesC, Bool.false_eq_true] at hm <;> simp only [execC, reduceCtorEq] at he <;> simp only [Op.operands] at read ho
 case alloc e =>
  unfold exAlloc at he
  cases hz : zero P e with
  | none => simp [hz] at he
  | some z =>
   simp only [hz, Option.some.injEq, Prod.mk.injEq] at he
   obtain ⟨rfl, rfl⟩:=he
   obtain ⟨i, zx, hi, hzx, hr⟩:=info_of_zero (ρ:=ρ) hz
   have hN:=H.row (rest:=[]) e false 0 hr.cells (fun h => by cases h)
   refine take ⟨.pointer (some ⟨w.heap.size, 0, none⟩), _, _, ?_, .ptr (b:=h.n) 0 (upd_same _ _ _), hN.1, hN.2⟩
   simp only [Instr.alloc, Sem.run_bind, run_zero hi hzx, Result.andThen_ok, newVar, newRow, run_newObj, Sem.run_pure, List.append_nil]
   rfl
 case box e x =>
  cases hx : evalO t x with
  | none => simp [hx, exBox] at he
  | some u =>
   simp only [hx, exBox, Option.some.injEq, Prod.mk.injEq] at he
   obtain ⟨rfl, rfl⟩:=he
   have hr:=read (by simp) hx
   have hN:=H.row (rest:=[]) e false 0 hr.cells (fun h => by cases h)
   refine take ⟨.pointer (some ⟨w.heap.size, 0, none⟩), _, _, ?_, .ptr (b:=h.n) 0 (upd_same _ _ _), hN.1, hN.2⟩
   simp only [Instr.box, Sem.run_bind, Result.andThen_ok, newVar, newRow, run_newObj, Sem.run_pure, List.append_nil]
   rfl
 case buildSlice ty len parts =>
  unfold exBuildSlice at he
  cases hp : evalP t parts.toList with
  | none => simp [hp] at he
  | some ps =>
   simp only [hp] at he
   cases hu : P.underlying ty with
   | none => simp [hu] at he
   | some d =>
    cases d <;> simp only [hu, reduceCtorEq] at he
    rename_i elem
    cases hs : sz P elem with
    | none => simp [hs] at he
    | some s =>
     simp only [hs] at he
     cases hz : zero P elem with
     | none => simp [hz] at he
     | some z =>
      simp only [hz, bldSl] at he
      cases hb : (Nat.ble (len * s) 65536 && Nat.beq (vcells z).length s) with
      | false => simp [hb] at he
      | true =>
       simp only [hb, cond_true] at he
       simp only [Bool.and_eq_true] at hb
       have hb1:=Nat.le_of_ble_eq_true hb.1
       have hb2:=Nat.eq_of_beq_eq_true hb.2
       cases hf : fillV (fun i => some (i * s, s)) (mulz (vcells z) len) ps with
       | none => simp [hf] at he
       | some cs =>
        simp only [hf, Option.some.injEq, Prod.mk.injEq] at he
        obtain ⟨rfl, rfl⟩:=he
        obtain ⟨i, zx, hi, hzx, hr⟩:=info_of_zero (ρ:=ρ) hz
        obtain ⟨i', hi', hsz⟩:=info_of_sz hs
        rw [hi] at hi'
        simp only [Option.some.injEq] at hi'
        subst hi'
        have hzl : zx.cells.size = s:=by rw [← hb2, hr.cells.1]; simp
        have hpr : PartR ρ ps (parts.map fun (i, x) => (i, a.eval x)).toList:=by
         have:=evalP_sim (ρ:=ρ) (a:=a) (t:=t) (xs:=parts.toList) (vs:=ps) (by simpa using ho) hp
         simpa using this
        obtain ⟨arr', e1, e2⟩:=fill_sim hpr (mulz_rel hr.cells len) hf
        have hN:=H.row (rest:=[]) elem false 0 e2 (fun h => by cases h)
        refine take ⟨.slice (some ⟨w.heap.size, 0, none⟩) len len, _, _, ?_, .sliceK (b:=h.n) 0 len len (upd_same _ _ _), hN.1, hN.2⟩
        simp only [List.append_nil, Array.toArray_toList]
        by_cases hpos : len * s = 0
        ·have e0 : (Array.range (len * zx.cells.size)).map (zx.cells[· % zx.cells.size]!) = #[] := range0 _ (by rw [hzl, hpos])
         rw [e0] at e1
         simp only [Instr.buildSlice, Sem.run_bind, run_underlying hu, Result.andThen_ok, run_sz hs]
         rw [if_neg (by omega), if_pos hpos]
         simp only [pure_bind]
         have e0' : ∀ z : Array Value, (Array.range (len * s)).map (z[· % z.size]!) = #[]:=fun z => range0 _ hpos
         rw [e0', e1]
         simp only [newRow, Sem.run_bind, run_newObj, Result.andThen_ok, Sem.run_pure]
         rfl
        ·rw [hzl, ← hsz] at e1
         have:=run_buildSlice (P:=P) w ty elem len (parts.map fun (i, x) => (i, a.eval x)) arr' i zx hu hi hzx (by rw [hsz]; omega) (by rw [hsz]; exact hpos) (by rw [hsz] at e1 ⊢; rw [← hzl] at e1 ⊢; exact e1)
         exact this
 case store ty x y =>
  unfold exStore at he
  cases hx : evalO t x with
  | none => simp [hx] at he
  | some u =>
   have hr:=read (x:=x) (by simp) hx
   rw [hx] at he
   cases hxv : a.eval x <;> rw [hxv] at hr <;> cases hr <;> simp only [reduceCtorEq] at he
   rename_i b l off hb
   cases hy : evalO t y with
   | none => simp [hy] at he
   | some vy =>
    have hry:=read (x:=y) (by simp) hy
    simp only [hy] at he
    cases hst : storeV P h ty b off vy with
    | none => simp [hst] at he
    | some h2 =>
     simp only [hst, Option.some.injEq, Prod.mk.injEq] at he
     obtain ⟨rfl, rfl⟩:=he
     unfold storeV at hst
     cases hso : storeO P h ty b off vy with
     | none => simp [hso] at hst
     | some ob0 =>
     simp only [hso, Option.some.injEq] at hst
     unfold storeO at hso
     cases hg : h.t.get b with
     | none => simp [hg] at hso
     | some ob =>
      cases ob <;> simp only [hg, reduceCtorEq] at hso
      rename_i c n g e
      cases hs : sz P ty with
      | none => simp [hs] at hso
      | some s =>
       simp only [hs] at hso
       cases hcc : (Nat.beq (vcells vy).length s && Nat.ble (off + s) n && allOne (vcells vy)) with
       | false => simp [hcc] at hso
       | true =>
        simp only [hcc, cond_true, Option.some.injEq] at hso
        subst hso
        subst hst
        simp only [Bool.and_eq_true] at hcc
        have c1:=Nat.eq_of_beq_eq_true hcc.1.1
        have c2:=Nat.le_of_ble_eq_true hcc.1.2
        obtain ⟨w', e1, e2⟩:=H.write (P:=P) hb hg hry.cells (allOne_mem hry.cells hcc.2) (o:=off) (by omega)
        refine takeu rfl ⟨w', ρ, ?_, Ext.refl _, e2⟩
        rw [hxv]
        have hsz : (a.eval y).cells.size = s:=by rw [← c1, hry.cells.1]; simp
        simp only [Instr.storeAt, Instr.sureAddr, pure_bind, storeVar, Sem.run_bind, run_sz hs, Result.andThen_ok]
        rw [if_neg (by simp [hsz])]
        exact e1
 case makeMap ty r =>
  cases r with
  | some _ => simp at he
  | none =>
   simp only [Option.some.injEq, Prod.mk.injEq] at he
   obtain ⟨rfl, rfl⟩:=he
   have hN:=H.new (.map []) (.map #[] 0) 0 trivial ⟨[], 0, heap_alloc_new _ _, rfl, fun i k v e h => by simp at h⟩
   exact take ⟨.map (some w.heap.size), _, _, rfl, .map (b:=h.n) (upd_same _ _ _), hN.1, hN.2⟩
 case makeSlice ty x y =>
  unfold exMake at he
  have nat : ∀ {y : Option V} {n : Nat}, natV y = some n → y = some (.int .i64 (n : Int)):=by
   intro y n h
   unfold natV at h
   split at h
   ·simp only [Option.some.injEq] at h; subst h; rfl
   ·cases h
  cases hx : natV (evalO t x) with
  | none => simp [hx] at he
  | some ln =>
   simp only [hx] at he
   cases hy : natV (evalO t y) with
   | none => simp [hy] at he
   | some cn =>
    simp only [hy, exMakeSlice, mkSl] at he
    have hrx:=read (x:=x) (by simp) (nat hx)
    have hry:=read (x:=y) (by simp) (nat hy)
    cases hxv : a.eval x <;> rw [hxv] at hrx <;> cases hrx
    cases hyv : a.eval y <;> rw [hyv] at hry <;> cases hry
    cases hu : P.underlying ty with
    | none => simp [hu] at he
    | some d =>
     cases d <;> simp only [hu, reduceCtorEq] at he
     rename_i elem
     cases hi : P.info? elem with
     | none => simp [hi] at he
     | some i =>
      simp only [hi] at he
      cases hz : zero P elem with
      | none => simp [hz] at he
      | some z =>
       simp only [hz] at he
       cases hb : (Nat.ble ln cn && roomB cn && roomB (cn * i.bytes) && Nat.beq (vcells z).length i.size) with
       | false => simp [hb] at he
       | true =>
        simp only [hb, cond_true, Option.some.injEq, Prod.mk.injEq] at he
        obtain ⟨rfl, rfl⟩:=he
        simp only [Bool.and_eq_true] at hb
        obtain ⟨⟨⟨b1, b2⟩, b3⟩, b4⟩:=hb
        have b1:=Nat.le_of_ble_eq_true b1
        have b2:=Nat.le_of_ble_eq_true b2
        have b3:=Nat.le_of_ble_eq_true b3
        have b4:=Nat.eq_of_beq_eq_true b4
        obtain ⟨i', zx, hi', hzx, hr⟩:=info_of_zero (ρ:=ρ) hz
        rw [hi] at hi'
        simp only [Option.some.injEq] at hi'
        subst hi'
        have hzl : zx.cells.size = i.size:=by rw [← b4, hr.cells.1]; simp
        have hN:=H.row (rest:=[]) elem false 0 (mulz_rel hr.cells cn) (fun h => by cases h)
        refine take ⟨.slice (some ⟨w.heap.size, 0, none⟩) ln cn, _, _, ?_, .sliceK (b:=h.n) 0 ln cn (upd_same _ _ _), hN.1, hN.2⟩
        rw [hxv, hyv]
        have := run_make (P := P) w ty elem i zx hu hi hzx .i64 .i64 (ln : Int) (cn : Int) (by omega) (by omega) (by
         have : (i.bytes : Int) * (cn : Int) = ((cn * i.bytes : Nat) : Int):=by rw [Nat.mul_comm]; simp
         rw [this]; omega) (by omega)
        rw [this]
        simp only [Int.toNat_natCast, List.append_nil, Array.toArray_toList, madeCells, hzl]
 case mapUpdate ty m k x =>
  unfold exMapUpdate at he
  cases hu : P.underlying ty with
  | none => simp [hu] at he
  | some d =>
   cases d <;> simp only [hu, reduceCtorEq] at he
   rename_i key elem
   cases hmv : evalO t m with
   | none => simp [hmv] at he
   | some u =>
    have hrm:=read (x:=m) (by simp) hmv
    rw [hmv] at he
    cases hxm : a.eval m <;> rw [hxm] at hrm <;> cases hrm <;> simp only [reduceCtorEq] at he
    rename_i b l hb
    cases hk : evalO t k with
    | none => simp [hk] at he
    | some kv =>
     have hrk:=read (x:=k) (by simp) hk
     simp only [hk] at he
     cases hok : keyOk (P.underlying key) kv with
     | false => simp [hok] at he
     | true =>
      simp only [hok, cond_true] at he
      cases hkd : P.underlying key with
      | none => rw [hkd] at hok; simp [keyOk] at hok
      | some kd =>
       rw [hkd] at hok
       cases hx : evalO t x with
       | none => simp [hx] at he
       | some xv =>
        have hrx:=read (x:=x) (by simp) hx
        simp only [hx, mapPut] at he
        cases hg : h.t.get b with
        | none => simp [hg] at he
        | some ob =>
         cases ob <;> simp only [hg, reduceCtorEq] at he
         rename_i es
         cases hmg : mapGet kv es with
         | none => simp [hmg] at he
         | some r =>
          simp only [hmg, Option.some.injEq, Prod.mk.injEq] at he
          obtain ⟨rfl, rfl⟩:=he
          obtain ⟨ents, clock, M⟩:=H.live b l _ hb hg
          have hck:=run_checkKey (P:=P) hrk hkd hok false w
          have hset : ∀ (ents' : List MapEntry) (clock' : Nat), (setObj l.blk (.map ⟨ents'⟩ clock')).run P w = .ok () { w with heap := w.heap.setIfInBounds l.blk (.map ⟨ents'⟩ clock') } :=
           fun _ _ => MapKept.run_setObj_map _ M.at_
          have hlt : l.blk < w.heap.size:=H.lt hb ⟨_, hg, by simp⟩
          have hupd : ∀ O : Obj, Upd w { w with heap := w.heap.setIfInBounds l.blk O } l.blk O := fun O =>
           ⟨rfl, rfl, rfl, by simp, fun j hj => by simp [Ne.symm hj], by simp [hlt]⟩
          have hfind:=mapSet_sim (v:=xv) hrk hok 0 M.len M.get hmg
          rcases hfind with ⟨rfl, hs⟩ | ⟨x', i, e, hf, hs, hei, hsb⟩
          ·have hf : Instr.findNow kd (a.eval k) ents 0 = some none:=by
            rcases mapGet_sim hrk hok 0 M.len M.get hmg with ⟨_, h⟩ | ⟨_, _, _, h, _⟩
            ·exact h
            ·cases h
           have hR := H.upd (O := .map ⟨ents ++ [{ key := a.eval k, val := a.eval x, born := clock }]⟩ (clock + 1)) hb ⟨_, hg, by simp⟩ (Hp.not_still hg (by simp)) (.map (mapSet kv xv es)) trivial (hupd _)
            ⟨_, _, (hupd _).at_, by rw [hs]; simp [M.len], fun j k' v' e' h1 h2 => by
             rw [hs] at h1
             rcases Nat.lt_or_ge j es.length with hj | hj
             ·rw [List.getElem?_append_left hj] at h1
              rw [List.getElem?_append_left (by rw [← M.len]; exact hj)] at h2
              exact M.get j k' v' e' h1 h2
             ·rw [List.getElem?_append_right hj] at h1
              rw [List.getElem?_append_right (by rw [← M.len]; exact hj)] at h2
              rw [← M.len] at h2
              cases hj0 : j - es.length with
              | zero =>
               rw [hj0] at h1 h2
               simp only [List.getElem?_cons_zero, Option.some.injEq, Prod.mk.injEq] at h1 h2
               obtain ⟨rfl, rfl⟩:=h1
               subst h2
               exact ⟨hrk, hrx⟩
              | succ q => rw [hj0] at h1; simp at h1⟩
           refine takeu rfl ⟨_, ρ, ?_, Ext.refl _, hR⟩
           rw [hxm]
           simp only [Instr.mapUpdate, Sem.run_bind, run_underlying hu, Result.andThen_ok, MapKept.run_getObj_map M.at_, hck, Instr.findKey, run_underlying hkd, hf, Sem.run_pure]
           have:=hset (ents ++ [{ key:=a.eval k, val:=a.eval x, born:=clock }]) (clock + 1)
           simpa using this
          ·have hR := H.upd (O := .map ⟨ents.set i { e with key := a.eval k, val := a.eval x }⟩ clock) hb ⟨_, hg, by simp⟩ (Hp.not_still hg (by simp)) (.map (mapSet kv xv es)) trivial (hupd _)
            ⟨_, _, (hupd _).at_, by rw [hs]; simp [M.len], fun j k' v' e' h1 h2 => by
             rw [hs] at h1
             rw [List.getElem?_set] at h1 h2
             by_cases hij : i = j
             ·subst hij
              rw [if_pos rfl] at h1 h2
              split at h1
              ·split at h2
               ·simp only [Option.some.injEq, Prod.mk.injEq] at h1 h2
                obtain ⟨rfl, rfl⟩:=h1
                subst h2
                exact ⟨hrk, hrx⟩
               ·cases h2
              ·cases h1
             ·rw [if_neg hij] at h1 h2
              exact M.get j k' v' e' h1 h2⟩
           refine takeu rfl ⟨_, ρ, ?_, Ext.refl _, hR⟩
           rw [hxm]
           simp only [Instr.mapUpdate, Sem.run_bind, run_underlying hu, Result.andThen_ok, MapKept.run_getObj_map M.at_, hck, Instr.findKey, run_underlying hkd, hf, Sem.run_pure, Nat.zero_add]
           have hei' : (⟨ents⟩ : Array MapEntry)[i]? = some e:=by simpa using hei
           simp only [hei', Option.map_some, Option.getD_some, Instr.keyThatStays, hsb, if_true, Sem.run_pure, Result.andThen_ok]
           have:=hset (ents.set i { e with key:=a.eval k, val:=a.eval x }) clock
           have emod : (⟨ents⟩ : Array MapEntry).modify i (fun e => { e with key := a.eval k, val := a.eval x }) = ⟨ents.set i { e with key := a.eval k, val := a.eval x }⟩ := by
            apply Array.ext'
            apply List.ext_getElem?
            intro j
            simp only [Array.toList_modify, List.getElem?_modify, List.getElem?_set]
            by_cases hij : i = j
            ·subst hij
             have hlt2 : i < ents.length:=by
              rcases Nat.lt_or_ge i ents.length with h | h
              ·exact h
              ·rw [List.getElem?_eq_none h] at hei; cases hei
             rw [hei]
             simp [hlt2]
            ·simp [hij]
           rw [emod]; exact this
 case call c =>
  obtain ⟨callee, args, tys⟩:=c
  cases callee <;> simp only [exCall, reduceCtorEq] at he
  rename_i b
  cases b <;> simp only [exBuiltin, reduceCtorEq] at he <;> try (simp at hm; done)
  unfold exAppend at he
  cases hl : evalL t args.toList with
  | none => simp [hl] at he
  | some vs =>
   have hrl:=evalL_sim (ρ:=ρ) (a:=a) (t:=t) (fun y hy => ho y (by simpa [Call.operands] using hy)) hl
   rw [hl] at he
   match vs, hrl with
   | [s, x], hrl =>
    simp only at he
    cases htl : tys.toList with
    | nil => simp [htl] at he
    | cons ty tyr =>
     cases tyr with
     | nil => simp [htl] at he
     | cons ty2 tyr2 =>
      simp only [htl] at he
      cases hu : P.underlying ty with
      | none => simp [hu] at he
      | some d =>
       cases d <;> simp only [hu, reduceCtorEq] at he
       rename_i elem
       cases hu2 : P.underlying ty2 with
       | none => simp [hu2] at he
       | some d2 =>
        have he' : appendV P h elem s x = some (v, h') ∧ ((∃ e2, d2 = .slice e2) ∨ d2 = .string):=by
         cases d2 <;> simp only [hu2, reduceCtorEq] at he
         ·exact ⟨he, .inr rfl⟩
         ·exact ⟨he, .inl ⟨_, rfl⟩⟩
        obtain ⟨he, hd2⟩:=he'
        obtain ⟨sv, r1, e1, hrs, hr1⟩:=hrl.cons_inv
        obtain ⟨xv, r2, e2, hrx, hr2⟩:=hr1.cons_inv
        have:=hr2.nil_inv; subst this
        subst e2
        unfold appendV at he
        cases hi : P.info? elem with
        | none => simp [hi] at he
        | some i =>
         simp only [hi] at he
         cases hz : zero P elem with
         | none => simp [hz] at he
         | some z =>
          simp only [hz] at he
          cases hzb : Nat.beq (vcells z).length i.size with
          | false => simp [hzb] at he
          | true =>
           simp only [hzb, cond_true] at he
           obtain ⟨i', zx, hi', hzx, hrz⟩:=info_of_zero (ρ:=ρ) hz
           rw [hi] at hi'
           simp only [Option.some.injEq] at hi'
           subst hi'
           have hzl : zx.cells.size = i.size:=by rw [← Nat.eq_of_beq_eq_true hzb, hrz.cells.1]; simp
           have T : AppT P ty ty2 elem i zx := ⟨hu, by rcases hd2 with ⟨e2, rfl⟩ | rfl
                                                       ·exact .inl ⟨e2, hu2⟩
                                                       ·exact .inr hu2, hi, hzx⟩
           have ha : args.map a.eval = #[sv, xv]:=by apply Array.ext'; simpa using e1
           have run : ∀ {x' w'}, (Builtin.append_ #[ty, ty2] type #[sv, xv]).run P w = .ok x' w' →
            (execOp a.eval { dst, op:=.call { callee:=.builtin .append, args, argTypes:=tys }, type, pos, after, guard }).run P w = .ok (.value x') w':=by
            intro x' w' hr
            simp only [execOp, resolve, pure_bind, invoke, builtin]
            refine run_v ?_
            rw [ha]
            have htys : Builtin.append_ tys type #[sv, xv] = Builtin.append_ #[ty, ty2] type #[sv, xv]:=by
             unfold Builtin.append_
             have t0 : tys[0]? = some ty:=by rw [← Array.getElem?_toList, htl]; rfl
             have t1 : tys[1]? = some ty2:=by rw [← Array.getElem?_toList, htl]; rfl
             rw [t0, t1]; rfl
            rw [htys]; exact hr
           cases hnc : newCells h i.size x with
           | none => simp [hnc, appGo] at he
           | some p =>
            obtain ⟨n, new⟩:=p
            simp only [hnc, appGo] at he
            cases h1 : allOne new with
            | false => simp [h1] at he
            | true =>
             simp only [h1, cond_true] at he
             obtain ⟨news, hlen, hn, hrn, hnl⟩:=newCells_sim H.live hrx hnc
             cases s <;> simp only [reduceCtorEq] at he
             ·obtain ⟨x', w', ρ', g1, g2, g3, g4⟩ := appSl_sim (ty := type) H T hzl hrs hlen hn hrn hnl h1 he
              exact ⟨x', w', ρ', .inl (run g1), g2, g3, g4⟩
             ·cases hrs
              unfold appNil at he
              cases hn0 : Nat.beq n 0 with
              | true =>
               have:=Nat.eq_of_beq_eq_true hn0; subst this
               simp only [hn0, cond_true, Option.some.injEq, Prod.mk.injEq] at he
               obtain ⟨rfl, rfl⟩:=he
               exact ⟨_, w, ρ, .inl (run (app_none T hlen (hn w rfl))), .nilSlice, Ext.refl _, H⟩
              | false =>
               simp only [hn0, cond_false] at he
               cases hb : (roomB (n * i.bytes) && roomB n) with
               | false => simp [hb] at he
               | true =>
                simp only [hb, cond_true, Option.some.injEq, Prod.mk.injEq] at he
                obtain ⟨rfl, rfl⟩:=he
                simp only [Bool.and_eq_true] at hb
                have b1:=Nat.le_of_ble_eq_true hb.1
                have b2:=Nat.le_of_ble_eq_true hb.2
                have hnpos : 0 < n:=by
                 rcases Nat.eq_zero_or_pos n with e | e
                 ·subst e; simp at hn0
                 ·exact e
                have hgr := app_grow (P := P) (ty := type) (news := ⟨news⟩) (olds := #[]) (sLen := 0) (sCap := 0) (w := w) (n := n) T (base := none) (by omega) hlen (hn w.drew rfl)
                 (by simp [Builtin.firstCells]) (by omega) (by simpa using b1)
                have hge:=grownCap_ge w (0 + n) 0 elem
                generalize hcap' : grownCap w (0 + n) 0 elem = cap' at hgr hge
                have hcell : P.cellsOf elem = i.size:=by simp [Program.cellsOf, hi]
                have hnewl : news.length = n * i.size:=by rw [← hrn.1]; exact hnl
                have hN := H.drew.row (rest := (Builtin.zeroCells zx.cells (cap' - (0 + n))).toList) elem true cap' hrn (fun _ => by
                 rw [hcell]
                 refine ⟨by rw [hnl]; exact Nat.mul_le_mul_right _ (by omega), ?_⟩
                 simp only [List.length_append, Array.length_toList, zc_size, hnewl, hzl]
                 have : cap' * i.size = n * i.size + (cap' - (0 + n)) * i.size:=by rw [← Nat.add_mul]; congr 1; omega
                 omega)
                refine ⟨_, _, _, .inl (run hgr), ?_, hN.1, ?_⟩
                ·have := Rel.sliceG (ρ := Mid.upd ρ h.n ⟨w.drew.heap.size, 0, cap'⟩) (b := h.n) 0 n 0 (upd_same _ _ _)
                 simpa using this
                ·have e : ((#[] : Array Value) ++ ⟨news⟩ ++ Builtin.zeroCells zx.cells (cap' - (0 + n))) = ⟨news ++ (Builtin.zeroCells zx.cells (cap' - (0 + n))).toList⟩:=by
                  apply Array.ext'; simp
                 rw [e]; exact hN.2
theorem make_sim [OpOk P] {w0 w : World} {h h' : Hp} {ρ : Rho} {a : Act} {t : Tr V} {o : Oper} {v : V} (H : R P w0 w h ρ) (ho : OpR ρ a t o.op.operands.toList) (hc : isCall o = false) (he : execV P t h o.op = some (v, h')) :
 Made P w0 ((execOp a.eval o).run P w) v h' ρ:=by
 by_cases hx : xk o.op = 0
 ·rw [execV_zero hx] at he
  exact make_simC H ho hc he
 ·rw [execV_ne hx] at he
  obtain ⟨as, h1, h2⟩:=execX_some he
  have hk:=(xk_ne hx).2
  obtain ⟨_, h3⟩:=OpOk.make (P:=P) _ _ _ _ _ h2 (by rw [← hk]; exact hx)
  exact h3 Z w0 w ρ a o rfl H (evalL_sim ho h1)
end
end Go.Mid
end
