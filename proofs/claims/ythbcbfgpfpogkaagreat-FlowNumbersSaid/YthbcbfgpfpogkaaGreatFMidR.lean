/- A call with arguments: the small machine starts from the world's own rows, read-only; what a reading of the arguments tells, told of the small heap. -/
import Derived.Test.YthbcbfgpfpogkaaGreatFMidZ
import Derived.ChangeShapes
set_option linter.all false
set_option warn.classDefReducibility false
namespace Go.Mid
open Go.RowKit
variable {P : Program}

/-- a try of a function's first n values. -/
noncomputable def trOf {α : Type} (f : Nat → Option α) : Nat → Tr α
  | 0 => .nil
  | n + 1 => match f n with
    | some x => (trOf f n).set n x
    | none => trOf f n
theorem trOf_get {α : Type} (f : Nat → Option α) : ∀ n i, (trOf f n).get i = if i < n then f i else none
  | 0, i => by rw [if_neg (by omega)]; exact Tr.get_nil i
  | n + 1, i => by
    simp only [trOf]
    cases hf : f n with
    | none =>
      simp only
      rw [trOf_get f n i]
      by_cases h1 : i < n
      · rw [if_pos h1, if_pos (by omega)]
      · by_cases h2 : i = n
        · subst h2; rw [if_neg h1, if_pos (by omega), hf]
        · rw [if_neg h1, if_neg (by omega)]
    | some x =>
      simp only
      rw [Tr.get_set, trOf_get f n i]
      by_cases h2 : n = i
      · subst h2; rw [if_pos rfl, if_pos (by omega), hf]
      · rw [if_neg h2]
        by_cases h1 : i < n
        · rw [if_pos h1, if_pos (by omega)]
        · rw [if_neg h1, if_neg (by omega)]

/-- a cell of the world, in the small machine: block b is block b; a slice of no capacity lies nowhere. -/
noncomputable def toV (w : World) : Value → Option V
  | .bool b => some (.bool b)
  | .int k n => some (.int k n)
  | .string s => some (.str (pack s.data.toList))
  | .pointer none => some .nilPtr
  | .pointer (some a) => if a.spot = none ∧ a.block < w.heap.size then some (.ptr a.block a.off) else none
  | .slice none 0 0 => some .nilSlice
  | .slice (some a) len cap =>
    if len = 0 ∧ cap = 0 then some (.slice w.heap.size 0 0 0 false)
    else if a.spot = none ∧ a.block < w.heap.size then some (.slice a.block a.off len cap false) else none
  | _ => none
def rhoOf (w : World) : Rho := fun b => if b < w.heap.size then some ⟨b, 0, 0⟩ else if b = w.heap.size then some ⟨0, 1, 0⟩ else none
noncomputable def obOf (w : World) (b : Nat) : Option Ob := match w.heap[b]? with
  | some (.cells arr e _) => some (.ro (trOf (fun i => (arr[i]?).bind (toV w)) arr.size) e)
  | _ => none
noncomputable def heapOf (w : World) : Hp := ⟨trOf (obOf w) w.heap.size, w.heap.size + 1, big⟩
theorem heapOf_get (w : World) (b : Nat) : (heapOf w).t.get b = if b < w.heap.size then obOf w b else none := trOf_get _ _ _
theorem heapOf_cell {w : World} {b o : Nat} {x : Value} (h : w.cell? ⟨b, o, none⟩ = some x) : (heapOf w).cell b o = toV w x := by
  unfold World.cell? at h
  simp only at h
  split at h
  · rename_i arr e fz hw
    simp only [Option.isSome_none, Bool.false_eq_true, if_false] at h
    have hlt : b < w.heap.size := (Array.getElem?_eq_some_iff.1 hw).1
    have hob : obOf w b = some (.ro (trOf (fun i => (arr[i]?).bind (toV w)) arr.size) e) := by unfold obOf; rw [hw]
    unfold Hp.cell
    rw [heapOf_get, if_pos hlt, hob]
    simp only [cellsT]
    rw [trOf_get, if_pos (Array.getElem?_eq_some_iff.1 h).1, h]
    rfl
  · cases h

/-! what a reading tells -/
section
variable {H : Type} {enc : TypeId × Value → H} {w : World}
theorem mapM_all {α β : Type} {f : α → Option β} : ∀ {l : List α} {r : List β}, l.mapM f = some r → ∀ x, x ∈ l → ∃ y, f x = some y
  | [], _, _, x, hx => by cases hx
  | a :: l, r, h, x, hx => by
    rw [List.mapM_cons] at h
    cases ha : f a with
    | none => rw [ha] at h; cases h
    | some y =>
      rw [ha] at h
      cases hl : l.mapM f with
      | none => rw [hl] at h; cases h
      | some ys =>
        rcases List.mem_cons.1 hx with rfl | hx
        · exact ⟨y, ha⟩
        · exact mapM_all hl x hx
theorem mapM_len {α β : Type} {f : α → Option β} : ∀ {l : List α} {r : List β}, l.mapM f = some r → r.length = l.length
  | [], r, h => by cases h; rfl
  | a :: l, r, h => by
    rw [List.mapM_cons] at h
    cases ha : f a with
    | none => rw [ha] at h; cases h
    | some y =>
      rw [ha] at h
      cases hl : l.mapM f with
      | none => rw [hl] at h; cases h
      | some ys => rw [hl] at h; cases h; simp [mapM_len hl]
theorem mapM_get {α β : Type} {f : α → Option β} : ∀ {l : List α} {r : List β}, l.mapM f = some r → ∀ (i : Nat) a, l[i]? = some a → r[i]? = f a
  | [], _, _, i, a, hi => by simp at hi
  | x :: l, r, h, i, a, hi => by
    rw [List.mapM_cons] at h
    cases ha : f x with
    | none => rw [ha] at h; cases h
    | some y =>
      rw [ha] at h
      cases hl : l.mapM f with
      | none => rw [hl] at h; cases h
      | some ys =>
        rw [hl] at h; cases h
        cases i with
        | zero => simp at hi; subst hi; simpa using ha.symm
        | succ i => simp at hi; simpa using mapM_get hl i a hi
/-- cells of the world, as cells of the small heap. -/
theorem cells_at {b o n : Nat} {cs : List Value} (h : w.cells? 0 ⟨b, o, none⟩ n = some cs) : cs.length = n ∧ ∀ (i : Nat) x, cs[i]? = some x → (heapOf w).cell b (o + i) = toV w x := by
  unfold World.cells? at h
  rw [if_pos (Nat.zero_le _)] at h
  have hl := mapM_len h
  rw [List.length_range] at hl
  refine ⟨hl, fun i x hx => ?_⟩
  have hi : i < n := by have := (List.getElem?_eq_some_iff.1 hx).1; omega
  have := mapM_get h i i (by simp [hi])
  rw [hx] at this
  refine heapOf_cell ?_
  have e : (⟨b, o, none⟩ : Addr).add i = ⟨b, o + i, none⟩ := by
    unfold Addr.add; split
    · rename_i h0; subst h0; rfl
    · rfl
  rw [e] at this; exact this.symm
/-- a row of the world's cells is read as a value of a type: what the small heap holds there. -/
def ElAt (enc : TypeId × Value → H) (P : Program) (w : World) (t : TypeId) (b o : Nat) : Prop :=
  ∃ fuel cs x, w.cells? 0 ⟨b, o, none⟩ (P.cellsOf t) = some cs ∧ DataW.trod enc P w 0 (fun _ => true) true fuel t cs = some x
def Is (enc : TypeId × Value → H) (P : Program) (w : World) (t : TypeId) (cs : List Value) : Prop := ∃ fuel x, DataW.trod enc P w 0 (fun _ => true) true fuel t cs = some x
theorem Is.bool {t : TypeId} {cs : List Value} (hu : P.underlying t = some .bool) (h : Is enc P w t cs) : ∃ b, cs = [.bool b] := by
  obtain ⟨fuel, x, h⟩ := h
  cases fuel with
  | zero => cases h
  | succ fuel =>
    unfold DataW.trod at h
    rw [hu] at h
    split at h <;> first | (exact ⟨_, rfl⟩) | (simp_all; done)
theorem Is.int {t : TypeId} {k : IntKind} {cs : List Value} (hu : P.underlying t = some (.int k)) (h : Is enc P w t cs) : ∃ n, cs = [.int k n] := by
  obtain ⟨fuel, x, h⟩ := h
  cases fuel with
  | zero => cases h
  | succ fuel =>
    unfold DataW.trod at h
    rw [hu] at h
    split at h <;> (simp_all; done)
theorem Is.str {t : TypeId} {cs : List Value} (hu : P.underlying t = some .string) (h : Is enc P w t cs) : ∃ s : ByteArray, cs = [.string s] := by
  obtain ⟨fuel, x, h⟩ := h
  cases fuel with
  | zero => cases h
  | succ fuel =>
    unfold DataW.trod at h
    rw [hu] at h
    split at h <;> first | (exact ⟨_, rfl⟩) | (simp_all; done)
theorem Is.sl {t e : TypeId} {cs : List Value} (hu : P.underlying t = some (.slice e)) (hs : 0 < P.cellsOf e) (h : Is enc P w t cs) : ∃ x v, cs = [x] ∧ toV w x = some v ∧
    (v = .nilSlice ∨ ∃ b o n c, v = .slice b o n c false ∧ n ≤ 9223372036854775807 ∧ ∀ i, i < n → ElAt enc P w e b (o + i * P.cellsOf e)) := by
  obtain ⟨fuel, x, h⟩ := h
  cases fuel with
  | zero => cases h
  | succ fuel =>
    unfold DataW.trod at h
    rw [hu] at h
    split at h <;> first | (simp_all; done) | skip
    · exact ⟨_, .nilSlice, rfl, rfl, .inl rfl⟩
    · rename_i e' a len cap hk
      cases hk
      dsimp only at h
      split at h
      · rename_i hc
        by_cases hz : len = 0 ∧ cap = 0
        · obtain ⟨rfl, rfl⟩ := hz
          exact ⟨_, .slice w.heap.size 0 0 0 false, rfl, by simp [toV], .inr ⟨_, _, 0, 0, rfl, Nat.zero_le _, fun i hi => by omega⟩⟩
        · cases hm : (List.range len).mapM (fun i => (w.cells? 0 (a.add (i * P.cellsOf e)) (P.cellsOf e)).bind (DataW.trod enc P w 0 (fun _ => true) true fuel e)) with
          | none => rw [hm] at h; cases h
          | some elems =>
            rw [hm] at h
            cases hr : (List.range (cap - len)).mapM (fun j => (w.cells? 0 (a.add ((len + j) * P.cellsOf e)) (P.cellsOf e)).bind (DataW.trod enc P w 0 (fun _ => true) true fuel e)) with
            | none => simp [hr] at h
            | some rest =>
              have el : ∀ i, i < cap → ∃ cs x, w.cells? 0 (a.add (i * P.cellsOf e)) (P.cellsOf e) = some cs ∧ DataW.trod enc P w 0 (fun _ => true) true fuel e cs = some x := by
                intro i hi
                have hx : ∃ y, (w.cells? 0 (a.add (i * P.cellsOf e)) (P.cellsOf e)).bind (DataW.trod enc P w 0 (fun _ => true) true fuel e) = some y := by
                  by_cases hl : i < len
                  · exact mapM_all hm i (by simp [hl])
                  · obtain ⟨y, hy⟩ := mapM_all hr (i - len) (by simp; omega)
                    rw [show len + (i - len) = i from by omega] at hy
                    exact ⟨y, hy⟩
                obtain ⟨y, hy⟩ := hx
                cases hcs : w.cells? 0 (a.add (i * P.cellsOf e)) (P.cellsOf e) with
                | none => rw [hcs] at hy; cases hy
                | some cs => rw [hcs] at hy; exact ⟨cs, y, rfl, hy⟩
              have ha : a.spot = none ∧ a.block < w.heap.size := by
                obtain ⟨cs, y, h1, _⟩ := el 0 (by omega)
                unfold World.cells? at h1
                rw [if_pos (Nat.zero_le _)] at h1
                obtain ⟨z, hz⟩ := mapM_all h1 0 (by simp [hs])
                simp only [Nat.zero_mul, Addr.add, ite_true] at hz
                unfold World.cell? at hz
                split at hz
                · rename_i arr e2 fz hw
                  split at hz
                  · cases hz
                  · rename_i hsp
                    exact ⟨by simpa using hsp, (Array.getElem?_eq_some_iff.1 hw).1⟩
                · cases hz
              refine ⟨_, .slice a.block a.off len cap false, rfl, by simp only [toV]; rw [if_neg hz, if_pos ha], .inr ⟨_, _, _, _, rfl, by have : maxLen = 9223372036854775807 := rfl; omega, fun i hi => ?_⟩⟩
              obtain ⟨cs, y, h1, h2⟩ := el i (by omega)
              refine ⟨fuel, cs, y, ?_, h2⟩
              have ea : a.add (i * P.cellsOf e) = ⟨a.block, a.off + i * P.cellsOf e, none⟩ := by
                obtain ⟨ab, ao, asp⟩ := a
                obtain ⟨rfl, _⟩ := ha
                unfold Addr.add; split
                · rename_i h0; simp [h0]
                · rfl
              rw [ea] at h1; exact h1
      · cases h
theorem Is.st {t : TypeId} {fs : Array Field} {cs : List Value} (hu : P.underlying t = some (.struct fs)) (h : Is enc P w t cs) : cs.length = P.cellsOf t ∧ ∀ f, f ∈ fs.toList → Is enc P w f.type ((cs.drop f.offset).take (P.cellsOf f.type)) := by
  obtain ⟨fuel, x, h⟩ := h
  cases fuel with
  | zero => cases h
  | succ fuel =>
    unfold DataW.trod at h
    rw [hu] at h
    split at h <;> first | (simp_all; done) | skip
    rename_i cs0 _ cs1 fs1 hk
    cases hk
    split at h
    · cases hm : fs.toList.mapM (fun f => DataW.trod enc P w 0 (fun _ => true) true fuel f.type ((cs0.drop f.offset).take (P.cellsOf f.type))) with
      | none => rw [hm] at h; cases h
      | some r =>
        refine ⟨by assumption, fun f hf => ?_⟩
        obtain ⟨y, hy⟩ := mapM_all hm f hf
        exact ⟨fuel, y, hy⟩
    · cases h
/-- a place of the small heap where a value of a type is read. -/
def View (enc : TypeId × Value → H) (P : Program) (w : World) (t : TypeId) (b o : Nat) : Prop :=
  ∃ cs, (∀ (i : Nat) x, cs[i]? = some x → (heapOf w).cell b (o + i) = toV w x) ∧ Is enc P w t cs
theorem ElAt.view {t : TypeId} {b o : Nat} (h : ElAt enc P w t b o) : View enc P w t b o := by
  obtain ⟨fuel, cs, x, h1, h2⟩ := h
  exact ⟨cs, (cells_at h1).2, fuel, x, h2⟩
theorem View.bool {t : TypeId} {b o : Nat} (hu : P.underlying t = some .bool) (h : View enc P w t b o) : ∃ n, (heapOf w).cell b o = some (.bool n) := by
  obtain ⟨cs, h1, h2⟩ := h
  obtain ⟨n, rfl⟩ := h2.bool hu
  exact ⟨n, h1 0 _ rfl⟩
theorem View.int {t : TypeId} {k : IntKind} {b o : Nat} (hu : P.underlying t = some (.int k)) (h : View enc P w t b o) : ∃ n, (heapOf w).cell b o = some (.int k n) := by
  obtain ⟨cs, h1, h2⟩ := h
  obtain ⟨n, rfl⟩ := h2.int hu
  exact ⟨n, h1 0 _ rfl⟩
theorem View.str {t : TypeId} {b o : Nat} (hu : P.underlying t = some .string) (h : View enc P w t b o) : ∃ l, (heapOf w).cell b o = some (.str l) := by
  obtain ⟨cs, h1, h2⟩ := h
  obtain ⟨s, rfl⟩ := h2.str hu
  exact ⟨pack s.data.toList, h1 0 _ rfl⟩
/-- a slice whose elements are read. -/
def SlView (enc : TypeId × Value → H) (P : Program) (w : World) (e : TypeId) (s : Nat) (v : V) : Prop :=
  v = .nilSlice ∨ ∃ b o n c, v = .slice b o n c false ∧ n ≤ 9223372036854775807 ∧ ∀ i, i < n → View enc P w e b (o + i * s)
theorem Is.slice {t e : TypeId} {s : Nat} {cs : List Value} (hu : P.underlying t = some (.slice e)) (hs : P.cellsOf e = s) (h0 : 0 < s) (h : Is enc P w t cs) : ∃ x v, cs = [x] ∧ toV w x = some v ∧ SlView enc P w e s v := by
  subst hs
  obtain ⟨x, v, h1, h2, h3⟩ := h.sl hu h0
  refine ⟨x, v, h1, h2, h3.imp id ?_⟩
  rintro ⟨b, o, n, c, h4, h5, h6⟩
  exact ⟨b, o, n, c, h4, h5, fun i hi => (h6 i hi).view⟩
theorem View.sl {t e : TypeId} {s : Nat} {b o : Nat} (hu : P.underlying t = some (.slice e)) (hs : P.cellsOf e = s) (h0 : 0 < s) (h : View enc P w t b o) : ∃ v, (heapOf w).cell b o = some v ∧ SlView enc P w e s v := by
  obtain ⟨cs, h1, h2⟩ := h
  obtain ⟨x, v, rfl, h3, h4⟩ := h2.slice hu hs h0
  exact ⟨v, by rw [← h3]; exact h1 0 _ rfl, h4⟩
theorem View.field {t : TypeId} {fs : Array Field} {b o : Nat} (hu : P.underlying t = some (.struct fs)) (h : View enc P w t b o) (f : Field) (hf : f ∈ fs.toList) : View enc P w f.type b (o + f.offset) := by
  obtain ⟨cs, h1, h2⟩ := h
  refine ⟨_, fun i x hx => ?_, (h2.st hu).2 f hf⟩
  rw [List.getElem?_take] at hx
  split at hx
  · rw [List.getElem?_drop] at hx
    rw [Nat.add_assoc]; exact h1 _ _ hx
  · cases hx
end
/-- what held of the small heap still holds when the world has only grown. -/
theorem R.later [Orc] [Res] {w0 w w' : World} {h h2 : Hp} {ρ ρ2 : Rho} (H : R P w0 w h ρ) (hB : Below w.heap.size w w') : R P w0 w' h ρ := by
  have hs : w0.heap.size ≤ w.heap.size := H.below.size
  refine ⟨⟨hB.os.trans H.below.os, hB.tape.trans H.below.tape, hB.output.trans H.below.output, Nat.le_trans hs hB.size, fun j hj => by rw [hB.block j (by omega), H.below.block j hj]⟩, ?_, ?_, H.inj, H.fresh, H.glob, H.base, H.rs, fun r O hp => by
    obtain ⟨h1, h2, h3⟩ := H.pn r O hp
    exact ⟨by rw [hB.block r (Array.getElem?_eq_some_iff.1 h1).1]; exact h1, h2, h3⟩⟩
  · intro b l hb
    obtain ⟨h1, h2, h3⟩ := H.bnd b l hb
    exact ⟨h1, h2, h3.imp id fun h => Nat.lt_of_lt_of_le h hB.size⟩
  · intro b l o hb ho
    cases o with
    | dead => trivial
    | _ => exact (H.live b l _ hb ho).keep (Ext.refl _) (hB.block _ (H.lt hb ⟨_, ho, by simp⟩))
end Go.Mid
