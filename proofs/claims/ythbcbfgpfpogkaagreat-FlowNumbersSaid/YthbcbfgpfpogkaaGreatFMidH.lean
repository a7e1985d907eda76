/- Operations that make or write memory. -/
import Derived.Test.YthbcbfgpfpogkaaGreatFMidG
import Derived.Laws.AppendOwn
import Derived.Laws.MakeOwn
set_option linter.all false
set_option warn.classDefReducibility false
namespace Go.Mid
open Go.RowKit
variable {P : Program} [Orc] [Z : Res]

/-- a new row. -/
theorem R.row {w0 w : World} {h : Hp} {ρ : Rho} (H : R P w0 w h ρ) {cs : List V} {xs rest : List Value} (e : TypeId) (g : Bool) (cap : Nat) (hr : RelL ρ cs xs)
    (hg : g = true → cs.length ≤ cap * P.cellsOf e ∧ cap * P.cellsOf e ≤ (xs ++ rest).length) :
    Ext ρ (Mid.upd ρ h.n ⟨w.heap.size, 0, cap⟩) ∧ R P w0 (w.alloc (.cells ⟨xs ++ rest⟩ e)) (h.newRow e cs g) (Mid.upd ρ h.n ⟨w.heap.size, 0, cap⟩) := by
  have hnone : ρ h.n = none := by
    cases hr : ρ h.n with
    | none => rfl
    | some l => have := (H.bnd _ _ hr).1; omega
  refine H.new (.cells (Tr.nil.setL 0 cs) cs.length g e) (.cells ⟨xs ++ rest⟩ e) cap (by exact rfl) ⟨⟨xs ++ rest⟩, heap_alloc_new w _, fun i v hv => ?_, ?_, fun h => ?_⟩
  · rw [Tr.get_setL] at hv
    split at hv
    · rename_i hi
      simp only [Nat.sub_zero] at hv
      obtain ⟨x, h1, h2⟩ := hr.get hv
      refine ⟨by omega, x, ?_, h2.ext (upd_ext hnone)⟩
      have hlt : i < xs.length := by rw [← hr.1]; omega
      simp only [Nat.zero_add, List.getElem?_toArray]
      rw [List.getElem?_append_left hlt]; exact h1
    · simp [Tr.get_nil] at hv
  · simp only [Nat.zero_add]
    have := hr.1
    show _ ≤ (xs ++ rest).length
    simp; omega
  · obtain ⟨a, b⟩ := hg h
    exact ⟨a, by simpa using b⟩

/-- cells are written into a block that is there. -/
theorem R.write {w0 w : World} {h : Hp} {ρ : Rho} (H : R P w0 w h ρ) {b : Nat} {l : Lc} {c : Tr V} {n o : Nat} {g : Bool} {e : TypeId} {vs : List V} {xs : List Value} (hb : ρ b = some l)
    (hg : h.t.get b = some (.cells c n g e)) (hr : RelL ρ vs xs) (h1 : ∀ x ∈ xs, x.oneCell' = true) (hfit : o + vs.length ≤ n) :
    ∃ w', (storeCells ⟨l.blk, l.base + o, none⟩ xs).run P w = .ok () w' ∧ R P w0 w' (h.put b (.cells (c.setL o vs) n g e)) ρ := by
  obtain ⟨arr, C⟩ := H.live b l _ hb hg
  obtain ⟨w', arr', h2, h3, h4, h5⟩ := put_cells (P := P) (off := l.base + o) C.at_ xs h1 (by have := C.fit; have := hr.1; omega)
  refine ⟨w', h2, H.upd (O := .cells arr' e) hb ⟨_, hg, by simp⟩ (Hp.not_still hg (by simp)) _ (by exact rfl) h3 ⟨arr', h3.at_, fun i v hv => ?_, by rw [h4]; exact C.fit, fun hgt => by rw [h4]; exact C.top hgt⟩⟩
  rw [Tr.get_setL] at hv
  split at hv
  · rename_i hi
    obtain ⟨x, h6, h7⟩ := hr.get hv
    refine ⟨by omega, x, ?_, h7⟩
    rw [h5, if_pos (by have := hr.1; omega)]
    have : l.base + i - (l.base + o) = i - o := by omega
    rw [this]; exact h6
  · rename_i hi
    obtain ⟨h6, x, h7, h8⟩ := C.get i v hv
    refine ⟨h6, x, ?_, h8⟩
    rw [h5, if_neg (by have := hr.1; omega)]
    exact h7

theorem mul_range (z : Array Value) (len : Nat) : ∃ l : List Value, (Array.range (len * z.size)).map (z[· % z.size]!) = ⟨l⟩ ∧ l.length = len * z.size ∧ ∀ i, i < len * z.size → l[i]? = z[i % z.size]? := by
  refine ⟨((Array.range (len * z.size)).map (z[· % z.size]!)).toList, rfl, by simp, fun i hi => ?_⟩
  have hpos : 0 < z.size := by
    rcases Nat.eq_zero_or_pos z.size with h | h
    · rw [h] at hi; simp at hi
    · exact h
  have hm : i % z.size < z.size := Nat.mod_lt _ hpos
  rw [Array.getElem?_toList, Array.getElem?_map]
  have : (Array.range (len * z.size))[i]? = some i := by simp [hi]
  rw [this]
  simp [getElem!_pos, hm]
theorem rep_spec {α : Type} : ∀ (n : Nat) (l acc : List α), (rep n l acc).length = n * l.length + acc.length ∧ ∀ i, i < n * l.length → (rep n l acc)[i]? = l[i % l.length]?
  | 0, l, acc => ⟨by simp [rep], fun i hi => by simp at hi⟩
  | n + 1, l, acc => by
    obtain ⟨h1, h2⟩ := rep_spec n l (l ++ acc)
    refine ⟨by rw [rep, h1]; simp [Nat.add_mul]; omega, fun i hi => ?_⟩
    rw [rep]
    rcases Nat.lt_or_ge i (n * l.length) with h | h
    · exact h2 i h
    · have hr : ∀ (n : Nat) (acc : List α) i, (rep n l acc)[n * l.length + i]? = acc[i]? := by
        intro n
        induction n with
        | zero => intro acc i; simp [rep]
        | succ n ih =>
          intro acc i
          rw [rep]
          have e : (n + 1) * l.length + i = n * l.length + (l.length + i) := by rw [Nat.add_mul]; omega
          rw [e, ih, List.getElem?_append_right (by omega)]
          congr 1; omega
      obtain ⟨j, rfl⟩ : ∃ j, i = n * l.length + j := ⟨i - n * l.length, by omega⟩
      have hj : j < l.length := by rw [Nat.add_mul] at hi; omega
      rw [hr n (l ++ acc) j, List.getElem?_append_left hj]
      congr 1
      rw [Nat.add_comm, Nat.add_mul_mod_self_right, Nat.mod_eq_of_lt hj]
theorem mulz_rel {ρ : Rho} {z : List V} {zx : Array Value} (h : RelL ρ z zx.toList) (len : Nat) : RelL ρ (mulz z len) ((Array.range (len * zx.size)).map (zx[· % zx.size]!)).toList := by
  obtain ⟨l, h1, h2, h3⟩ := mul_range zx len
  have hl : z.length = zx.size := by rw [h.1]; simp
  obtain ⟨g1, g2⟩ := rep_spec len z ([] : List V)
  rw [h1]
  refine ⟨by unfold mulz; rw [g1, h2, hl]; simp, fun i v x hv hx => ?_⟩
  have hi : i < len * zx.size := by
    rcases Nat.lt_or_ge i l.length with h | h
    · omega
    · rw [List.getElem?_eq_none h] at hx; cases hx
  unfold mulz at hv
  rw [g2 i (by rw [hl]; exact hi)] at hv
  rw [h3 i hi] at hx
  rw [hl] at hv
  exact h.2 _ v x hv (by rw [Array.getElem?_toList]; exact hx)

/-! append -/
structure AppT (P : Program) (t t2 e : TypeId) (i : TypeInfo) (z : Value) : Prop where
  ht : P.underlying t = some (.slice e)
  h2 : (∃ e2, P.underlying t2 = some (.slice e2)) ∨ P.underlying t2 = some .string
  hi : P.info? e = some i
  hz : i.zero = some z

section
variable {t t2 ty e : TypeId} {i : TypeInfo} {z x : Value} {w w' : World} {sLen sCap n : Nat} {news : Array Value}
theorem app_in (T : AppT P t t2 e i z) {a : Addr} (hle : sLen + n ≤ sCap) (hl : Builtin.lenOf x = pure n) (hn : (Builtin.firstCells i.size n x).run P w = .ok news w)
    (hs : (storeCells (a.add (sLen * i.size)) news.toList).run P w = .ok () w') : (Builtin.append_ #[t, t2] ty #[.slice (some a) sLen sCap, x]).run P w = .ok (.slice (some a) (sLen + n) sCap) w' := by
  rcases T.h2 with ⟨e2, hd⟩ | hd
  · simp [Builtin.append_, run_underlying T.ht, run_underlying hd, sizeOf, typeInfo, T.hi, hl, hle, hn, hs]
  · simp [Builtin.append_, run_underlying T.ht, run_underlying hd, sizeOf, typeInfo, T.hi, hl, hle, hn, hs]
theorem app_none (T : AppT P t t2 e i z) (hl : Builtin.lenOf x = pure 0) (hn : (Builtin.firstCells i.size 0 x).run P w = .ok news w) :
    (Builtin.append_ #[t, t2] ty #[.slice none 0 0, x]).run P w = .ok (.slice none 0 0) w := by
  rcases T.h2 with ⟨e2, hd⟩ | hd
  · simp [Builtin.append_, run_underlying T.ht, run_underlying hd, sizeOf, typeInfo, T.hi, hl, hn]
  · simp [Builtin.append_, run_underlying T.ht, run_underlying hd, sizeOf, typeInfo, T.hi, hl, hn]
set_option maxHeartbeats 1000000 in
theorem app_grow (T : AppT P t t2 e i z) {base : Option Addr} (hlt : sCap < sLen + n) (hl : Builtin.lenOf x = pure n) (hn : (Builtin.firstCells i.size n x).run P w.drew = .ok news w.drew)
    {olds : Array Value} (ho : (Builtin.firstCells i.size sLen (.slice base sLen sCap)).run P w.drew = .ok olds w.drew) (h1 : sLen + n ≤ 1073741824) (h2 : (sLen + n) * i.bytes ≤ 1073741824) :
    (Builtin.append_ #[t, t2] ty #[.slice base sLen sCap, x]).run P w = .ok (.slice (some ⟨w.heap.size, 0, none⟩) (sLen + n) (grownCap w (sLen + n) sCap e))
      (w.drew.alloc (.cells (olds ++ news ++ Builtin.zeroCells z.cells (grownCap w (sLen + n) sCap e - (sLen + n))) e)) := by
  have hng : ¬ (sLen + n ≤ sCap) := by omega
  have h63' : ¬ (9223372036854775807 < ((sLen : Int) + (n : Int))) := by omega
  have hfit := growslice_fits (bytes := i.bytes) hlt (by omega)
  have h48' : ¬ (281474976710656 < Builtin.nextslicecap (sLen + n) sCap * i.bytes) := by omega
  rw [Array.append_assoc]
  rcases T.h2 with ⟨e2, hd⟩ | hd
  · simp [Builtin.append_, run_underlying T.ht, run_underlying hd, sizeOf, typeInfo, zeroValue, T.hi, T.hz, hl, hng, h63', h48', Question.forced, hn, ho, newRow, grownCap]
  · simp [Builtin.append_, run_underlying T.ht, run_underlying hd, sizeOf, typeInfo, zeroValue, T.hi, T.hz, hl, hng, h63', h48', Question.forced, hn, ho, newRow, grownCap]
end
end Go.Mid
