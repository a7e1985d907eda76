/- Operations on addresses, for a text's builder: two addresses of one block compared; an address as a bare one, and back; a row's first place; bytes seen as a text. -/
import Derived.Test.YtdiiilfokajddaaGreatDoorLMidEE
import Derived.Lib.Builder
import Derived.Lib.UnsafeStr
import Derived.Lib.MakeNoZero
import Derived.Laws.Externs
set_option linter.all false
namespace Go.Mid
open Go.RowKit

noncomputable def cmpP (nz : Bool) (a b : V) : Option Bool :=
  match a, b with
  | .nilPtr, .nilPtr => some true
  | .nilPtr, .ptr _ _ => some false
  | .ptr _ _, .nilPtr => some false
  | .ptr b o, .ptr b' o' => bif nz && Nat.beq b b' then some (Nat.beq o o') else none
  | _, _ => none
noncomputable def bareV (h : Hp) (x : V) : Option V :=
  match x with
  | .nilPtr => some .nilPtr
  | .ptr b o => (match h.t.get b with
    | some (.cells _ n _ _) => bif Nat.blt o n then some (.ptr b o) else none
    | _ => none)
  | _ => none
noncomputable def typedV (h : Hp) (u s : Nat) (x : V) : Option V :=
  match x with
  | .nilPtr => some .nilPtr
  | .ptr b o => (match h.t.get b with
    | some (.cells _ n _ e) => bif Nat.beq e u && Nat.beq o 0 && Nat.ble s n && !Nat.beq s 0 then some (.ptr b o) else none
    | _ => none)
  | _ => none
noncomputable def headV (h : Hp) (x : V) : Option V :=
  match x with
  | .nilSlice => some .nilPtr
  | .slice b o _ c false => bif Nat.blt 0 c then some (.ptr b o) else none
  | .slice b o _ c true => (match h.t.get b with
    | some (.cells _ n gr _) => bif gr && Nat.blt 0 n && Nat.beq c 0 then some (.ptr b o) else none
    | _ => none)
  | _ => none
noncomputable def bytesS : List V → Option (List UInt8)
  | [] => some []
  | .int .u8 (.ofNat n) :: l => bif Nat.blt n 256 then (match bytesS l with
    | some r => some (UInt8.ofNat n :: r)
    | none => none) else none
  | _ => none
noncomputable def seeV (h : Hp) (u : Nat) (x n : V) : Option (V × Hp) :=
  match n with
  | .int .i64 (.ofNat 0) => (match x with
    | .nilPtr => some (.str [], h)
    | .ptr _ _ => some (.str [], h)
    | _ => none)
  | .int .i64 (.ofNat (n + 1)) => (match x with
    | .ptr b 0 => (match h.t.get b with
      | some (.cells c m _ e) => bif Nat.beq e u && Nat.ble (n + 1) m && Nat.ble (n + 1) 9223372036854775807 then (match c.getL 0 (n + 1) with
        | some l => (match bytesS l with
          | some r => some (.str r, h.put b (.ro c e))
          | none => none)
        | none => none) else none
      | _ => none)
    | _ => none)
  | _ => none
section
variable (P : Program)
noncomputable def nzT (t : TypeId) : Bool := match sz P t with
  | some s => !Nat.beq s 0
  | none => false
noncomputable def kdU (o : Op) : Nat :=
  match o with
  | .binOp op ty x y _ => bif isK x || isK y then 0 else (match op with
    | .eql | .neq => (match P.underlying ty with
      | some (.pointer _) => 1
      | _ => 0)
    | _ => 0)
  | .convert s d _ => (match P.underlying s with
    | some (.pointer _) => (match P.underlying d with
      | some .unsafePointer => 3
      | _ => 0)
    | some .unsafePointer => (match P.underlying d with
      | some (.pointer _) => 3
      | _ => 0)
    | _ => 0)
  | .call c => (match c.callee with
    | .builtin .unsafeSliceData => 2
    | .builtin .unsafeString => 3
    | _ => 0)
  | _ => 0
noncomputable def convU (s d : TypeId) (h : Hp) (x : V) : Option V :=
  match P.underlying s with
  | some (.pointer t) => (match P.underlying d with
    | some .unsafePointer => bif nzT P t then bareV h x else none
    | _ => none)
  | some .unsafePointer => (match P.underlying d with
    | some (.pointer u) => (match sz P u with
      | some n => typedV h u n x
      | none => none)
    | _ => none)
  | _ => none
noncomputable def opU (o : Op) (as : List V) (h : Hp) : Option (V × Hp) :=
  match o with
  | .binOp op ty _ _ _ => (match as with
    | [a, b] => (match P.underlying ty with
      | some (.pointer t) => vh h (eqOp op (cmpP (nzT P t) a b))
      | _ => none)
    | _ => none)
  | .convert s d _ => (match as with
    | [a] => vh h (convU P s d h a)
    | _ => none)
  | .call c => (match c.callee with
    | .builtin .unsafeSliceData => (match as with
      | [a] => vh h (headV h a)
      | _ => none)
    | .builtin .unsafeString => (match as, c.argTypes.toList with
      | [a, n], [ty, _] => (match P.underlying ty with
        | some (.pointer u) => bif Nat.beq (P.cellsOf u) 1 then seeV h u a n else none
        | _ => none)
      | _, _ => none)
    | _ => none)
  | _ => none
noncomputable def kdQ (o : Op) : Nat := match kdP P o with
  | 0 => kdU P o
  | k + 1 => k + 1
noncomputable def opQ (o : Op) (as : List V) (h : Hp) : Option (V × Hp) := match kdP P o with
  | 0 => opU P o as h
  | _ + 1 => opP P o as h
end
variable {P : Program}

theorem run_eq_ptr {tp te : TypeId} {j : TypeInfo} (a b : Addr) (hp : P.underlying tp = some (.pointer te)) (hte : P.info? te = some j) (hj : j.size ≠ 0) (hb : a.block = b.block) (w : World) :
    (Op.equal tp (.pointer (some a)) (.pointer (some b))).run P w = .ok (a == b) w := by
  have h : ∀ d : Nat, (Op.equalIn (d + 1) tp (.pointer (some a)) (.pointer (some b))).run P w = .ok (a == b) w := fun d => by
    have hs : (sameAddr a b).run P w = .ok (a == b) w := by
      unfold sameAddr
      rw [if_pos (by simpa using hb)]; rfl
    simp only [Op.equalIn, Sem.run_bind, run_underlying hp, Result.andThen_ok, sizeOf, typeInfo, run_program, hte, Sem.run_pure, ne_eq, hj, not_false_eq_true, if_true, hs]
  exact h 9999
theorem liesAt_self {u : TypeId} (hc : P.cellsOf u ≠ 0) (count : Nat) (hn : 1 ≤ count) : liesAt P P.depth u count 0 u 1 = true := by
  have hd : P.depth = (2 * (P.types.size + Made.depth) + 1) + 1 := rfl
  rw [hd]
  simp only [liesAt, Bool.or_eq_true]
  left
  rw [hd]
  simp [rowAt, hc, hn, sameLayout]
theorem nzT_spec [Orc] {t : TypeId} (h : nzT P t = true) : ∃ j, P.info? t = some j ∧ j.size ≠ 0 := by
  unfold nzT at h
  cases hs : sz P t with
  | none => rw [hs] at h; cases h
  | some s =>
    rw [hs] at h
    obtain ⟨i, h1, h2⟩ := info_of_sz hs
    refine ⟨i, h1, fun e => ?_⟩
    rw [← h2, e] at h; simp at h
theorem cmpP_sim [Orc] {ρ : Rho} {op : BinOp} {t ty : TypeId} {a b v : V} {x y : Value} (hu : P.underlying ty = some (.pointer t)) (h : eqOp op (cmpP (nzT P t) a b) = some v) (ha : Rel ρ a x) (hb : Rel ρ b y) (ox oy : Operand) (w : World) :
    ∃ r, (do eqGuard op ty ox oy x y; binOp op ty x y : Sem Value).run P w = .ok r w ∧ Rel ρ v r := by
  have hne : ∃ q, cmpP (nzT P t) a b = some q := by
    cases he : cmpP (nzT P t) a b with
    | none => rw [he] at h; cases op <;> cases h
    | some q => exact ⟨q, rfl⟩
  obtain ⟨q, hq⟩ := hne
  rw [hq] at h
  have key : (Op.equal ty x y).run P w = .ok q w ∧ ∃ p p', x = .pointer p ∧ y = .pointer p' := by
    have plain : ∀ q', (∀ n, (Op.equalIn (n + 1) ty x y).run P w = .ok q' w) → (Op.equal ty x y).run P w = .ok q' w := fun q' e => e 9999
    cases ha <;> simp only [cmpP, reduceCtorEq] at hq <;> cases hb <;> simp only [cmpP, Option.some.injEq, reduceCtorEq] at hq
    · rename_i b1 l1 o1 h1 b2 l2 o2 h2
      cases hz : (nzT P t && Nat.beq b1 b2) with
      | false => rw [hz] at hq; cases hq
      | true =>
        rw [hz] at hq
        simp only [cond_true, Option.some.injEq] at hq
        simp only [Bool.and_eq_true] at hz
        have := Nat.eq_of_beq_eq_true hz.2
        subst this
        rw [h1] at h2
        simp only [Option.some.injEq] at h2
        subst h2
        obtain ⟨j, hj1, hj2⟩ := nzT_spec hz.1
        refine ⟨?_, _, _, rfl, rfl⟩
        rw [run_eq_ptr ⟨l1.blk, l1.base + o1, none⟩ ⟨l1.blk, l1.base + o2, none⟩ hu hj1 hj2 rfl w, ← hq]
        congr 1
        by_cases ho : o1 = o2
        · subst ho; simp
        · have h1 : Nat.beq o1 o2 = false := by
            cases e : Nat.beq o1 o2 with
            | false => rfl
            | true => exact (ho (Nat.eq_of_beq_eq_true e)).elim
          rw [h1]
          simp only [beq_eq_false_iff_ne, ne_eq, Addr.mk.injEq, true_and, and_true]
          omega
    · subst hq
      exact ⟨plain false fun n => by simp only [Op.equalIn, Sem.run_bind, run_underlying hu, Result.andThen_ok, Sem.run_pure], _, _, rfl, rfl⟩
    · subst hq
      exact ⟨plain false fun n => by simp only [Op.equalIn, Sem.run_bind, run_underlying hu, Result.andThen_ok, Sem.run_pure, Option.isNone], _, _, rfl, rfl⟩
    · subst hq
      exact ⟨plain true fun n => by simp only [Op.equalIn, Sem.run_bind, run_underlying hu, Result.andThen_ok, Sem.run_pure, Option.isNone], _, _, rfl, rfl⟩
  obtain ⟨he, p, p', rfl, rfl⟩ := key
  rw [Sem.run_bind, run_guard ty ox oy _ _ w (by simp) (by simp), Result.andThen_ok]
  cases op <;> simp only [eqOp, Option.some.injEq, reduceCtorEq] at h <;> subst h
  · exact ⟨.bool q, by simp only [binOp, Sem.run_bind, he, Result.andThen_ok, Sem.run_pure], .bool _⟩
  · exact ⟨.bool (!q), by simp only [binOp, Sem.run_bind, he, Result.andThen_ok, Sem.run_pure], .bool _⟩
theorem shape_cells {w : World} {g : Nat} {arr : Array Value} {e : TypeId} {fz : Nat × Nat} (h : w.heap[g]? = some (.cells arr e fz)) : w.shape? g = some (e, arr.size) := by
  simp only [World.shape?, h]
theorem convU_sim [Orc] [Res] {ρ : Rho} {w0 w : World} {h : Hp} (H : R P w0 w h ρ) {s d : TypeId} {a v : V} {x : Value} (he : convU P s d h a = some v) (ha : Rel ρ a x) : ∃ r, (convert s d x).run P w = .ok r w ∧ Rel ρ v r := by
  unfold convU at he
  cases hs : P.underlying s with
  | none => rw [hs] at he; cases he
  | some ds =>
    rw [hs] at he
    cases ds <;> simp only [reduceCtorEq] at he
    case pointer t =>
      cases hd : P.underlying d with
      | none => rw [hd] at he; cases he
      | some dd =>
        rw [hd] at he
        cases dd <;> simp only [reduceCtorEq] at he
        cases hz : nzT P t with
        | false => rw [hz] at he; cases he
        | true =>
          rw [hz] at he
          simp only [cond_true] at he
          obtain ⟨j, hj1, hj2⟩ := nzT_spec hz
          cases ha <;> simp only [bareV, Option.some.injEq, reduceCtorEq] at he
          · rename_i b l o hb
            cases hg : h.t.get b with
            | none => rw [hg] at he; cases he
            | some ob =>
              rw [hg] at he
              cases ob <;> simp only [reduceCtorEq] at he
              rename_i c n g e
              cases hlt : Nat.blt o n with
              | false => rw [hlt] at he; cases he
              | true =>
                rw [hlt] at he
                simp only [cond_true, Option.some.injEq] at he; subst he
                obtain ⟨arr, C⟩ := H.live b l _ hb hg
                have hlt' : o + 1 ≤ n := Nat.le_of_ble_eq_true hlt
                exact ⟨_, Lib.run_to_unsafe w _ hs hd hj1 hj2 (shape_cells C.at_) (by have := C.fit; simp only; omega), .ptr _ hb⟩
          · subst he
            exact ⟨.pointer none, by simp [convert, run_underlying hs, run_underlying hd, Conv.unsafePointer], .nilPtr⟩
    case unsafePointer =>
      cases hd : P.underlying d with
      | none => rw [hd] at he; cases he
      | some dd =>
        rw [hd] at he
        cases dd <;> simp only [reduceCtorEq] at he
        rename_i u
        cases hz : sz P u with
        | none => rw [hz] at he; cases he
        | some n =>
          rw [hz] at he
          simp only at he
          obtain ⟨j, hj1, hj2⟩ := info_of_sz hz
          cases ha <;> simp only [typedV, Option.some.injEq, reduceCtorEq] at he
          · rename_i b l o hb
            cases hg : h.t.get b with
            | none => rw [hg] at he; cases he
            | some ob =>
              rw [hg] at he
              cases ob <;> simp only [reduceCtorEq] at he
              rename_i c m g e
              cases hlt : (Nat.beq e u && Nat.beq o 0 && Nat.ble n m && !Nat.beq n 0) with
              | false => rw [hlt] at he; cases he
              | true =>
                rw [hlt] at he
                simp only [cond_true, Option.some.injEq] at he; subst he
                simp only [Bool.and_eq_true, Bool.not_eq_true'] at hlt
                have he := Nat.eq_of_beq_eq_true hlt.1.1.1
                have ho := Nat.eq_of_beq_eq_true hlt.1.1.2
                have hn := Nat.le_of_ble_eq_true hlt.1.2
                have hn0 : n ≠ 0 := fun e => by rw [e] at hlt; simp at hlt
                subst he ho
                obtain ⟨arr, C⟩ := H.live b l _ hb hg
                have hown := (H.own2 hb (Hp.not_still hg (by simp))).2
                have hc : P.cellsOf e = n := cellsOf_sz hz
                refine ⟨_, Lib.run_from_unsafe w _ hs hd hj1 (shape_cells C.at_) ?_, .ptr _ hb⟩
                simp only [hown, Nat.add_zero]
                refine liesAt_self (by rw [hc]; exact hn0) _ ?_
                rw [hc]
                have := C.fit
                exact (Nat.le_div_iff_mul_le (by omega)).2 (by omega)
          · subst he
            exact ⟨.pointer none, by simp [convert, run_underlying hs, run_underlying hd, Conv.unsafePointer], .nilPtr⟩
theorem headV_sim [Orc] {ρ : Rho} {w : World} {h : Hp} (H : Live P ρ w h) {a v : V} {x : Value} (he : headV h a = some v) (ha : Rel ρ a x) (ts : Array TypeId) (ty : TypeId) : ∃ r, (Builtin.unsafeSliceData_ ts ty #[x]).run P w = .ok r w ∧ Rel ρ v r := by
  cases ha <;> simp only [headV, Option.some.injEq, reduceCtorEq] at he
  · rename_i b l o len cap hb
    cases hc : Nat.blt 0 cap with
    | false => rw [hc] at he; cases he
    | true =>
      rw [hc] at he
      simp only [cond_true, Option.some.injEq] at he; subst he
      exact ⟨_, Lib.run_unsafeSliceData_row w _ _ _ _ _ (by have : 0 + 1 ≤ cap := Nat.le_of_ble_eq_true hc; omega), .ptr _ hb⟩
  · cases (show (none : Option V) = some v from he)
  · rename_i k _ _ _ hk
    exfalso
    have hk0 : Nat.beq k 0 = false := by
      cases e : Nat.beq k 0 with
      | false => rfl
      | true => exact (hk (Nat.eq_of_beq_eq_true e)).elim
    split at he
    · rw [hk0, Bool.and_false] at he; cases he
    · cases he
  · rename_i b l o len k hb
    cases hg : h.t.get b with
    | none => rw [hg] at he; cases he
    | some ob =>
      rw [hg] at he
      cases ob <;> simp only [reduceCtorEq] at he
      rename_i c m g e
      cases hc : (g && Nat.blt 0 m && Nat.beq k 0) with
      | false => rw [hc] at he; cases he
      | true =>
        rw [hc] at he
        simp only [cond_true, Option.some.injEq] at he; subst he
        simp only [Bool.and_eq_true] at hc
        obtain ⟨⟨hg1, hm⟩, hk⟩ := hc
        have hm' : 0 + 1 ≤ m := Nat.le_of_ble_eq_true hm
        have hk' := Nat.eq_of_beq_eq_true hk
        obtain ⟨arr, C⟩ := H b l _ hb hg
        have ht := (C.top hg1).1
        have hl : l.cap ≠ 0 := fun e0 => by rw [e0] at ht; simp at ht; omega
        exact ⟨_, Lib.run_unsafeSliceData_row w _ _ _ _ _ (by omega), .ptr _ hb⟩
  · subst he
    exact ⟨_, rfl, .nilPtr⟩
theorem bytesS_sim {ρ : Rho} : ∀ {cs : List V} {xs : List Value} {l : List UInt8}, bytesS cs = some l → RelL ρ cs xs → xs.length = l.length ∧ ∀ (i : Nat) x, l[i]? = some x → xs[i]? = some (.int .u8 x.toNat)
  | [], xs, l, h, hr => by
    simp only [bytesS, Option.some.injEq] at h; subst h
    rw [hr.nil_inv]
    exact ⟨rfl, fun i x h => by simp at h⟩
  | v :: cs, xs, l, h, hr => by
    obtain ⟨x, xs', rfl, h1, h2⟩ := hr.cons_inv
    cases h1 <;> try (simp only [bytesS, reduceCtorEq] at h; done)
    rename_i k n
    cases k <;> try (simp only [bytesS, reduceCtorEq] at h; done)
    cases n <;> try (simp only [bytesS, reduceCtorEq] at h; done)
    rename_i n
    simp only [bytesS] at h
    cases hn : Nat.blt n 256 with
    | false => rw [hn] at h; cases h
    | true =>
      rw [hn] at h
      simp only [cond_true] at h
      cases hb : bytesS cs with
      | none => rw [hb] at h; cases h
      | some r =>
        rw [hb] at h
        simp only [Option.some.injEq] at h; subst h
        obtain ⟨h3, h4⟩ := bytesS_sim hb h2
        have hn' : n + 1 ≤ 256 := Nat.le_of_ble_eq_true hn
        refine ⟨by simp [h3], fun i x hx => ?_⟩
        cases i with
        | zero =>
          simp only [List.getElem?_cons_zero, Option.some.injEq] at hx ⊢
          subst hx
          have : (UInt8.ofNat n).toNat = n := by simp; omega
          rw [this]; rfl
        | succ i => simpa using h4 i x (by simpa using hx)
theorem seeV_sim [Orc] [Res] {ρ : Rho} {w0 w : World} {h h' : Hp} (H : R P w0 w h ρ) {u : Nat} {a n v : V} {x y : Value} (he : seeV h u a n = some (v, h')) (ha : Rel ρ a x) (hn : Rel ρ n y) {pt it : TypeId} (hp : P.underlying pt = some (.pointer u)) (hc : P.cellsOf u = 1) (ty : TypeId) :
    ∃ r w', (Builtin.unsafeString_ #[pt, it] ty #[x, y]).run P w = .ok r w' ∧ Rel ρ v r ∧ R P w0 w' h' ρ := by
  unfold seeV at he
  split at he <;> try (cases he; done)
  · cases hn
    split at he <;> try (cases he; done)
    · simp only [Option.some.injEq, Prod.mk.injEq] at he
      obtain ⟨rfl, rfl⟩ := he
      cases ha
      exact ⟨_, w, Lib.run_unsafeString_none w pt it ty none, .str [], H⟩
    · simp only [Option.some.injEq, Prod.mk.injEq] at he
      obtain ⟨rfl, rfl⟩ := he
      cases ha
      exact ⟨_, w, Lib.run_unsafeString_none w pt it ty _, .str [], H⟩
  · rename_i n
    cases hn
    split at he <;> try (cases he; done)
    rename_i b
    split at he <;> try (cases he; done)
    rename_i c m g e hg
    cases hb : (Nat.beq e u && Nat.ble (n + 1) m && Nat.ble (n + 1) 9223372036854775807) with
    | false => rw [hb] at he; cases he
    | true =>
      rw [hb] at he
      simp only [cond_true] at he
      simp only [Bool.and_eq_true] at hb
      have heu := Nat.eq_of_beq_eq_true hb.1.1
      subst heu
      have hnm := Nat.le_of_ble_eq_true hb.1.2
      have h63 := Nat.le_of_ble_eq_true hb.2
      split at he <;> try (cases he; done)
      rename_i l hl
      split at he <;> try (cases he; done)
      rename_i r hr
      simp only [Option.some.injEq, Prod.mk.injEq] at he
      obtain ⟨rfl, rfl⟩ := he
      cases ha
      rename_i lc hρ
      have hns := Hp.not_still hg (by simp)
      have hbase := (H.own2 hρ hns).2
      obtain ⟨arr, C⟩ := H.live b lc _ hρ hg
      obtain ⟨xs, h1, h2, h3⟩ := getL_cells C hl
      obtain ⟨h4, h5⟩ := bytesS_sim hr h2
      have hrl : r.length = n + 1 := by rw [← h4, ← h2.1, h1]
      simp only [hbase, Nat.add_zero] at h3 ⊢
      have hrun := Lib.run_unsafeString_row (P := P) w pt it ty e hp hc lc.blk arr.size (shape_cells C.at_) r (fun e => by rw [e] at hrl; cases hrl) (by have := C.fit; omega) (by omega) fun j z hz => h3 j _ (h5 j z hz)
      rw [hrl] at hrun
      have hat : (w.freeze ⟨lc.blk, 0, none⟩ (n + 1)).heap[lc.blk]? = some (.cells arr e (0, n + 1)) := by
        have hlt := (Array.getElem?_eq_some_iff.1 C.at_)
        simp only [World.freeze, Nat.add_one_ne_zero, if_false, Array.getElem?_modify]
        rw [if_true, C.at_]
        simp
      refine ⟨_, _, hrun, .str r, H.upd' (O := .cells arr e (0, n + 1)) hρ ⟨_, hg, by simp⟩ hns _ ⟨?_, ?_, ?_, ?_, fun j hj => ?_, hat⟩ ⟨arr, _, _, hat, fun i v hv => let ⟨_, x, k1, k2⟩ := C.get i v hv; ⟨x, k1, k2⟩⟩⟩
      · simp [World.freeze]
      · simp [World.freeze]
      · simp [World.freeze]
      · simp [World.freeze]
      · simp only [World.freeze, Nat.add_one_ne_zero, if_false, Array.getElem?_modify]
        rw [if_neg (fun e => hj e.symm)]
end Go.Mid
