/- Operations on addresses, for a text's builder: two addresses of one block compared; an address as a bare one, and back; a row's first place; bytes seen as a text. -/
import Derived.Test.YtdiiilfokajddaaGreatDoorKMidBB
import Derived.Lib.Builder
import Derived.Lib.UnsafeStr
import Derived.Lib.MakeNoZero
import Derived.Laws.Externs
set_option linter.all false
set_option warn.classDefReducibility false
noncomputable section
section
open Go.RowKit
namespace Go.Mid
section
def cmpP (nz : Bool) (a b : V) : Option Bool :=
 match a, b with
 | .nilPtr, .nilPtr => some true
 | .nilPtr, .ptr _ _ => some false
 | .ptr _ _, .nilPtr => some false
 | .ptr b o, .ptr b' o' => bif nz && Nat.beq b b' then some (Nat.beq o o') else none
 | _, _ => none
def bareV (h : Hp) (x : V) : Option V :=
 match x with
 | .nilPtr => some .nilPtr
 | .ptr b o => (match h.t.get b with
  | some (.cells _ n _ _) => bif Nat.blt o n then some (.ptr b o) else none
  | _ => none)
 | _ => none
def typedV (h : Hp) (u s : Nat) (x : V) : Option V :=
 match x with
 | .nilPtr => some .nilPtr
 | .ptr b o => (match h.t.get b with
  | some (.cells _ n _ e) => bif Nat.beq e u && Nat.beq o 0 && Nat.ble s n && !Nat.beq s 0 then some (.ptr b o) else none
  | _ => none)
 | _ => none
def headV (h : Hp) (x : V) : Option V :=
 match x with
 | .nilSlice => some .nilPtr
 | .slice b o _ c false => bif Nat.blt 0 c then some (.ptr b o) else none
 | .slice b o _ c true => (match h.t.get b with
  | some (.cells _ n gr _) => bif gr && Nat.blt 0 n && Nat.beq c 0 then some (.ptr b o) else none
  | _ => none)
 | _ => none
def bytesS : List V → Option (List UInt8)
 | [] => some []
 | .int .u8 (.ofNat n) :: l => bif Nat.blt n 256 then (match bytesS l with
  | some r => some (UInt8.ofNat n :: r)
  | none => none) else none
 | _ => none
def seeV (h : Hp) (u : Nat) (x n : V) : Option (V × Hp) :=
 match n with
 | .int .i64 (.ofNat 0) => (match x with
  | .nilPtr => some (.str (pack []), h)
  | .ptr _ _ => some (.str (pack []), h)
  | _ => none)
 | .int .i64 (.ofNat (n + 1)) => (match x with
  | .ptr b 0 => (match h.t.get b with
   | some (.cells c m _ e) => bif Nat.beq e u && Nat.ble (n + 1) m && Nat.ble (n + 1) 9223372036854775807 then (match c.getL 0 (n + 1) with
    | some l => (match bytesS l with
     | some r => some (.str (pack r), h.put b (.ro c e))
     | none => none)
    | none => none) else none
   | _ => none)
  | _ => none)
 | _ => none
section
variable (P : Program)
def nzT (t : TypeId) : Bool := match sz P t with
 | some s => !Nat.beq s 0
 | none => false
def kdU (o : Op) : Nat :=
 match o with
 | .binOp op ty x y _ => bif isK x || isK y then 0 else (match op with
  | .eql | .neq => (match P.underlying ty with
   | some (.pointer _) => 1
   | _ => 0)
  | _ => 0)
 | .convert s d _ => (match P.underlying s with
  | some (.pointer _) => (match P.underlying d with
   | some .unsafePointer => 3
   | _ => 0)
  | some .unsafePointer => (match P.underlying d with
   | some (.pointer _) => 3
   | _ => 0)
  | _ => 0)
 | .call c => (match c.callee with
  | .builtin .unsafeSliceData => 2
  | .builtin .unsafeString => 3
  | _ => 0)
 | _ => 0
def convU (s d : TypeId) (h : Hp) (x : V) : Option V :=
 match P.underlying s with
 | some (.pointer t) => (match P.underlying d with
  | some .unsafePointer => bif nzT P t then bareV h x else none
  | _ => none)
 | some .unsafePointer => (match P.underlying d with
  | some (.pointer u) => (match sz P u with
   | some n => typedV h u n x
   | none => none)
  | _ => none)
 | _ => none
def opU (o : Op) (as : List V) (h : Hp) : Option (V × Hp) :=
 match o with
 | .binOp op ty _ _ _ => (match as with
  | [a, b] => (match P.underlying ty with
   | some (.pointer t) => vh h (eqOp op (cmpP (nzT P t) a b))
   | _ => none)
  | _ => none)
 | .convert s d _ => (match as with
  | [a] => vh h (convU P s d h a)
  | _ => none)
 | .call c => (match c.callee with
  | .builtin .unsafeSliceData => (match as with
   | [a] => vh h (headV h a)
   | _ => none)
  | .builtin .unsafeString => (match as, c.argTypes.toList with
   | [a, n], [ty, _] => (match P.underlying ty with
    | some (.pointer u) => bif Nat.beq (P.cellsOf u) 1 then seeV h u a n else none
    | _ => none)
   | _, _ => none)
  | _ => none)
 | _ => none
def kdQ (o : Op) : Nat := match kdP P o with
 | 0 => kdU P o
 | k + 1 => k + 1
def opQ (o : Op) (as : List V) (h : Hp) : Option (V × Hp) := match kdP P o with
 | 0 => opU P o as h
 | _ + 1 => opP P o as h
end
variable {P : Program}
theorem run_eq_ptr {tp te : TypeId} {j : TypeInfo} (a b : Addr) (hp : P.underlying tp = some (.pointer te)) (hte : P.info? te = some j) (hj : j.size ≠ 0) (hb : a.block = b.block) (w : World) :
 (Op.equal tp (.pointer (some a)) (.pointer (some b))).run P w = .ok (a == b) w:=by
 have h : ∀ d : Nat, (Op.equalIn (d + 1) tp (.pointer (some a)) (.pointer (some b))).run P w = .ok (a == b) w := fun d => by
  have hs : (sameAddr a b).run P w = .ok (a == b) w:=by
   unfold sameAddr
   rw [if_pos (by simpa using hb)]; rfl
  simp only [Op.equalIn, Sem.run_bind, run_underlying hp, Result.andThen_ok, sizeOf, typeInfo, run_program, hte, Sem.run_pure, ne_eq, hj, not_false_eq_true, if_true, hs]
 exact h 9999
theorem liesAt_self {u : TypeId} (hc : P.cellsOf u ≠ 0) (count : Nat) (hn : 1 ≤ count) : liesAt P P.depth u count 0 u 1 = true:=by
 have hd : P.depth = (2 * (P.types.size + Made.depth) + 1) + 1:=rfl
 rw [hd]
 simp only [liesAt, Bool.or_eq_true]
 left
 rw [hd]
 simp [Go.rowAt, hc, hn, sameLayout]
theorem nzT_spec [Orc] {t : TypeId} (h : nzT P t = true) : ∃ j, P.info? t = some j ∧ j.size ≠ 0:=by
 unfold nzT at h
 cases hs : sz P t with
 | none => rw [hs] at h; cases h
 | some s =>
  rw [hs] at h
  obtain ⟨i, h1, h2⟩:=info_of_sz hs
  refine ⟨i, h1, fun e => ?_⟩
  rw [← h2, e] at h; simp at h
theorem cmpP_sim [Orc] {ρ : Rho} {op : BinOp} {t ty : TypeId} {a b v : V} {x y : Value} (hu : P.underlying ty = some (.pointer t)) (h : eqOp op (cmpP (nzT P t) a b) = some v) (ha : Rel ρ a x) (hb : Rel ρ b y) (ox oy : Operand) (w : World) :
 ∃ r, (do eqGuard op ty ox oy x y; binOp op ty x y : Sem Value).run P w = .ok r w ∧ Rel ρ v r:=by
 have hne : ∃ q, cmpP (nzT P t) a b = some q:=by
  cases he : cmpP (nzT P t) a b with
  | none => rw [he] at h; cases op <;> cases h
  | some q => exact ⟨q, rfl⟩
 obtain ⟨q, hq⟩:=hne
 rw [hq] at h
 have key : (Op.equal ty x y).run P w = .ok q w ∧ ∃ p p', x = .pointer p ∧ y = .pointer p':=by
  have plain : ∀ q', (∀ n, (Op.equalIn (n + 1) ty x y).run P w = .ok q' w) → (Op.equal ty x y).run P w = .ok q' w:=fun q' e => e 9999
  cases ha <;> simp only [cmpP, reduceCtorEq] at hq <;> cases hb <;> simp only [cmpP, Option.some.injEq, reduceCtorEq] at hq
  ·rename_i b1 l1 o1 h1 b2 l2 o2 h2
   cases hz : (nzT P t && Nat.beq b1 b2) with
   | false => rw [hz] at hq; cases hq
   | true =>
    rw [hz] at hq
    simp only [cond_true, Option.some.injEq] at hq
    simp only [Bool.and_eq_true] at hz
    have:=Nat.eq_of_beq_eq_true hz.2
    subst this
    rw [h1] at h2
    simp only [Option.some.injEq] at h2
    subst h2
    obtain ⟨j, hj1, hj2⟩:=nzT_spec hz.1
    refine ⟨?_, _, _, rfl, rfl⟩
    rw [run_eq_ptr ⟨l1.blk, l1.base + o1, none⟩ ⟨l1.blk, l1.base + o2, none⟩ hu hj1 hj2 rfl w, ← hq]
    congr 1
    by_cases ho : o1 = o2
    ·subst ho; simp
    ·have h1 : Nat.beq o1 o2 = false:=by
      cases e : Nat.beq o1 o2 with
      | false => rfl
      | true => exact (ho (Nat.eq_of_beq_eq_true e)).elim
     rw [h1]
     simp only [beq_eq_false_iff_ne, ne_eq, Addr.mk.injEq, true_and, and_true]
     omega
  ·subst hq
   exact ⟨plain false fun n => by simp only [Op.equalIn, Sem.run_bind, run_underlying hu, Result.andThen_ok, Sem.run_pure], _, _, rfl, rfl⟩
  ·subst hq
   exact ⟨plain false fun n => by simp only [Op.equalIn, Sem.run_bind, run_underlying hu, Result.andThen_ok, Sem.run_pure, Option.isNone], _, _, rfl, rfl⟩
  ·subst hq
   exact ⟨plain true fun n => by simp only [Op.equalIn, Sem.run_bind, run_underlying hu, Result.andThen_ok, Sem.run_pure, Option.isNone], _, _, rfl, rfl⟩
 obtain ⟨he, p, p', rfl, rfl⟩:=key
 rw [Sem.run_bind, run_guard ty ox oy _ _ w (by simp) (by simp), Result.andThen_ok]
 cases op <;> simp only [eqOp, Option.some.injEq, reduceCtorEq] at h <;> subst h
 ·exact ⟨.bool q, by simp only [binOp, Sem.run_bind, he, Result.andThen_ok, Sem.run_pure], .bool _⟩
 ·exact ⟨.bool (!q), by simp only [binOp, Sem.run_bind, he, Result.andThen_ok, Sem.run_pure], .bool _⟩
theorem shape_cells {w : World} {g : Nat} {arr : Array Value} {e : TypeId} {fz : Nat × Nat} (h : w.heap[g]? = some (.cells arr e fz)) : w.shape? g = some (e, arr.size):=by
 simp only [World.shape?, h]
theorem convU_sim [Orc] [Res] {ρ : Rho} {w0 w : World} {h : Hp} (H : R P w0 w h ρ) {s d : TypeId} {a v : V} {x : Value} (he : convU P s d h a = some v) (ha : Rel ρ a x) : ∃ r, (convert s d x).run P w = .ok r w ∧ Rel ρ v r:=by
 unfold convU at he
 cases hs : P.underlying s with
 | none => rw [hs] at he; cases he
 | some ds =>
  rw [hs] at he
  cases ds <;> simp only [reduceCtorEq] at he
  case pointer t =>
   cases hd : P.underlying d with
   | none => rw [hd] at he; cases he
   | some dd =>
    rw [hd] at he
    cases dd <;> simp only [reduceCtorEq] at he
    cases hz : nzT P t with
    | false => rw [hz] at he; cases he
    | true =>
     rw [hz] at he
     simp only [cond_true] at he
     obtain ⟨j, hj1, hj2⟩:=nzT_spec hz
     cases ha <;> simp only [bareV, Option.some.injEq, reduceCtorEq] at he
     ·rename_i b l o hb
      cases hg : h.t.get b with
      | none => rw [hg] at he; cases he
      | some ob =>
       rw [hg] at he
       cases ob <;> simp only [reduceCtorEq] at he
       rename_i c n g e
       cases hlt : Nat.blt o n with
       | false => rw [hlt] at he; cases he
       | true =>
        rw [hlt] at he
        simp only [cond_true, Option.some.injEq] at he; subst he
        obtain ⟨arr, C⟩:=H.live b l _ hb hg
        have hlt' : o + 1 ≤ n:=Nat.le_of_ble_eq_true hlt
        exact ⟨_, Lib.run_to_unsafe w _ hs hd hj1 hj2 (shape_cells C.at_) (by have:=C.fit; simp only; omega), .ptr _ hb⟩
     ·subst he
      exact ⟨.pointer none, by simp [convert, run_underlying hs, run_underlying hd, Conv.unsafePointer], .nilPtr⟩
  case unsafePointer =>
   cases hd : P.underlying d with
   | none => rw [hd] at he; cases he
   | some dd =>
    rw [hd] at he
    cases dd <;> simp only [reduceCtorEq] at he
    rename_i u
    cases hz : sz P u with
    | none => rw [hz] at he; cases he
    | some n =>
     rw [hz] at he
     simp only at he
     obtain ⟨j, hj1, hj2⟩:=info_of_sz hz
     cases ha <;> simp only [typedV, Option.some.injEq, reduceCtorEq] at he
     ·rename_i b l o hb
      cases hg : h.t.get b with
      | none => rw [hg] at he; cases he
      | some ob =>
       rw [hg] at he
       cases ob <;> simp only [reduceCtorEq] at he
       rename_i c m g e
       cases hlt : (Nat.beq e u && Nat.beq o 0 && Nat.ble n m && !Nat.beq n 0) with
       | false => rw [hlt] at he; cases he
       | true =>
        rw [hlt] at he
        simp only [cond_true, Option.some.injEq] at he; subst he
        simp only [Bool.and_eq_true, Bool.not_eq_true'] at hlt
        have he:=Nat.eq_of_beq_eq_true hlt.1.1.1
        have ho:=Nat.eq_of_beq_eq_true hlt.1.1.2
        have hn:=Nat.le_of_ble_eq_true hlt.1.2
        have hn0 : n ≠ 0:=fun e => by rw [e] at hlt; simp at hlt
        subst he ho
        obtain ⟨arr, C⟩:=H.live b l _ hb hg
        have hown:=(H.own2 hb (Hp.not_still hg (by simp))).2
        have hc : P.cellsOf e = n:=cellsOf_sz hz
        refine ⟨_, Lib.run_from_unsafe w _ hs hd hj1 (shape_cells C.at_) ?_, .ptr _ hb⟩
        simp only [hown, Nat.add_zero]
        refine liesAt_self (by rw [hc]; exact hn0) _ ?_
        rw [hc]
        have:=C.fit
        exact (Nat.le_div_iff_mul_le (by omega)).2 (by omega)
     ·subst he
      exact ⟨.pointer none, by simp [convert, run_underlying hs, run_underlying hd, Conv.unsafePointer], .nilPtr⟩
theorem headV_sim [Orc] {ρ : Rho} {w : World} {h : Hp} (H : Live P ρ w h) {a v : V} {x : Value} (he : headV h a = some v) (ha : Rel ρ a x) (ts : Array TypeId) (ty : TypeId) : ∃ r, (Builtin.unsafeSliceData_ ts ty #[x]).run P w = .ok r w ∧ Rel ρ v r:=by
 cases ha <;> simp only [headV, Option.some.injEq, reduceCtorEq] at he
 ·rename_i b l o len cap hb
  cases hc : Nat.blt 0 cap with
  | false => rw [hc] at he; cases he
  | true =>
   rw [hc] at he
   simp only [cond_true, Option.some.injEq] at he; subst he
   exact ⟨_, Lib.run_unsafeSliceData_row w _ _ _ _ _ (by have : 0 + 1 ≤ cap:=Nat.le_of_ble_eq_true hc; omega), .ptr _ hb⟩
 ·cases (show (none : Option V) = some v from he)
 ·rename_i k _ _ _ hk
  exfalso
  have hk0 : Nat.beq k 0 = false:=by
   cases e : Nat.beq k 0 with
   | false => rfl
   | true => exact (hk (Nat.eq_of_beq_eq_true e)).elim
  split at he
  ·rw [hk0, Bool.and_false] at he; cases he
  ·cases he
 ·rename_i b l o len k hb
  cases hg : h.t.get b with
  | none => rw [hg] at he; cases he
  | some ob =>
   rw [hg] at he
   cases ob <;> simp only [reduceCtorEq] at he
   rename_i c m g e
   cases hc : (g && Nat.blt 0 m && Nat.beq k 0) with
   | false => rw [hc] at he; cases he
   | true =>
    rw [hc] at he
    simp only [cond_true, Option.some.injEq] at he; subst he
    simp only [Bool.and_eq_true] at hc
    obtain ⟨⟨hg1, hm⟩, hk⟩:=hc
    have hm' : 0 + 1 ≤ m:=Nat.le_of_ble_eq_true hm
    have hk':=Nat.eq_of_beq_eq_true hk
    obtain ⟨arr, C⟩:=H b l _ hb hg
    have ht:=(C.top hg1).1
    have hl : l.cap ≠ 0:=fun e0 => by rw [e0] at ht; simp at ht; omega
    exact ⟨_, Lib.run_unsafeSliceData_row w _ _ _ _ _ (by omega), .ptr _ hb⟩
 ·subst he
  exact ⟨_, rfl, .nilPtr⟩
theorem bytesS_sim {ρ : Rho} : ∀ {cs : List V} {xs : List Value} {l : List UInt8}, bytesS cs = some l → RelL ρ cs xs → xs.length = l.length ∧ ∀ (i : Nat) x, l[i]? = some x → xs[i]? = some (.int .u8 x.toNat)
 | [], xs, l, h, hr => by
  simp only [bytesS, Option.some.injEq] at h; subst h
  rw [hr.nil_inv]
  exact ⟨rfl, fun i x h => by simp at h⟩
 | v :: cs, xs, l, h, hr => by
  obtain ⟨x, xs', rfl, h1, h2⟩:=hr.cons_inv
  cases h1 <;> try (simp only [bytesS, reduceCtorEq] at h; done)
  rename_i k n
  cases k <;> try (simp only [bytesS, reduceCtorEq] at h; done)
  cases n <;> try (simp only [bytesS, reduceCtorEq] at h; done)
  rename_i n
  simp only [bytesS] at h
  cases hn : Nat.blt n 256 with
  | false => rw [hn] at h; cases h
  | true =>
   rw [hn] at h
   simp only [cond_true] at h
   cases hb : bytesS cs with
   | none => rw [hb] at h; cases h
   | some r =>
    rw [hb] at h
    simp only [Option.some.injEq] at h; subst h
    obtain ⟨h3, h4⟩:=bytesS_sim hb h2
    have hn' : n + 1 ≤ 256:=Nat.le_of_ble_eq_true hn
    refine ⟨by simp [h3], fun i x hx => ?_⟩
    cases i with
    | zero =>
     simp only [List.getElem?_cons_zero, Option.some.injEq] at hx ⊢
     subst hx
     have : (UInt8.ofNat n).toNat = n:=by simp; omega
     rw [this]; rfl
    | succ i => simpa using h4 i x (by simpa using hx)
theorem seeV_sim [Orc] [Res] {ρ : Rho} {w0 w : World} {h h' : Hp} (H : R P w0 w h ρ) {u : Nat} {a n v : V} {x y : Value} (he : seeV h u a n = some (v, h')) (ha : Rel ρ a x) (hn : Rel ρ n y) {pt it : TypeId} (hp : P.underlying pt = some (.pointer u)) (hc : P.cellsOf u = 1) (ty : TypeId) :
 ∃ r w', (Builtin.unsafeString_ #[pt, it] ty #[x, y]).run P w = .ok r w' ∧ Rel ρ v r ∧ R P w0 w' h' ρ:=by
 unfold seeV at he
 split at he <;> try (cases he; done)
 ·cases hn
  split at he <;> try (cases he; done)
  ·simp only [Option.some.injEq, Prod.mk.injEq] at he
   obtain ⟨rfl, rfl⟩:=he
   cases ha
   exact ⟨_, w, Lib.run_unsafeString_none w pt it ty none, .packed [], H⟩
  ·simp only [Option.some.injEq, Prod.mk.injEq] at he
   obtain ⟨rfl, rfl⟩:=he
   cases ha
   exact ⟨_, w, Lib.run_unsafeString_none w pt it ty _, .packed [], H⟩
 ·rename_i n
  cases hn
  split at he <;> try (cases he; done)
  rename_i b
  split at he <;> try (cases he; done)
  rename_i c m g e hg
  cases hb : (Nat.beq e u && Nat.ble (n + 1) m && Nat.ble (n + 1) 9223372036854775807) with
  | false => rw [hb] at he; cases he
  | true =>
   rw [hb] at he
   simp only [cond_true] at he
   simp only [Bool.and_eq_true] at hb
   have heu:=Nat.eq_of_beq_eq_true hb.1.1
   subst heu
   have hnm:=Nat.le_of_ble_eq_true hb.1.2
   have h63:=Nat.le_of_ble_eq_true hb.2
   split at he <;> try (cases he; done)
   rename_i l hl
   split at he <;> try (cases he; done)
   rename_i r hr
   simp only [Option.some.injEq, Prod.mk.injEq] at he
   obtain ⟨rfl, rfl⟩:=he
   cases ha
   rename_i lc hρ
   have hns:=Hp.not_still hg (by simp)
   have hbase:=(H.own2 hρ hns).2
   obtain ⟨arr, C⟩:=H.live b lc _ hρ hg
   obtain ⟨xs, h1, h2, h3⟩:=getL_cells C hl
   obtain ⟨h4, h5⟩:=bytesS_sim hr h2
   have hrl : r.length = n + 1:=by rw [← h4, ← h2.1, h1]
   simp only [hbase, Nat.add_zero] at h3 ⊢
   have hrun:=Lib.run_unsafeString_row (P:=P) w pt it ty e hp hc lc.blk arr.size (shape_cells C.at_) r (fun e => by rw [e] at hrl; cases hrl) (by have:=C.fit; omega) (by omega) fun j z hz => h3 j _ (h5 j z hz)
   rw [hrl] at hrun
   have hat : (w.freeze ⟨lc.blk, 0, none⟩ (n + 1)).heap[lc.blk]? = some (.cells arr e (0, n + 1)):=by
    have hlt:=(Array.getElem?_eq_some_iff.1 C.at_)
    simp only [World.freeze, Nat.add_one_ne_zero, if_false, Array.getElem?_modify]
    rw [if_true, C.at_]
    simp
   refine ⟨_, _, hrun, .packed r, H.upd' (O:=.cells arr e (0, n + 1)) hρ ⟨_, hg, by simp⟩ hns _ ⟨?_, ?_, ?_, ?_, fun j hj => ?_, hat⟩ ⟨arr, _, _, hat, fun i v hv => let ⟨_, x, k1, k2⟩:=C.get i v hv; ⟨x, k1, k2⟩⟩⟩
   ·simp [World.freeze]
   ·simp [World.freeze]
   ·simp [World.freeze]
   ·simp [World.freeze]
   ·simp only [World.freeze, Nat.add_one_ne_zero, if_false, Array.getElem?_modify]
    rw [if_neg (fun e => hj e.symm)]
end
section
variable {P : Program}
theorem opU_reads [Orc] {o : Op} (hk : kdU P o = 1 ∨ kdU P o = 2) {as : List V} {h h' : Hp} {v : V} (he : opU P o as h = some (v, h')) : h' = h ∧ ∀ ρ w (a : Act) (oo : Oper), oo.op = o → Live P ρ w h → RelL ρ as (o.operands.toList.map a.eval) →
 ∃ x, (execOp a.eval oo).run P w = .ok (.value x) w ∧ Rel ρ v x:=by
 have take : ∀ {w : World} {ρ : Rho} {s : Sem Value}, (∃ x, s.run P w = .ok x w ∧ Rel ρ v x) → ∃ x, (do let r ← s; pure (Go.Next.value r) : Sem Go.Next).run P w = .ok (.value x) w ∧ Rel ρ v x :=
  fun ⟨x, h1, h2⟩ => ⟨x, run_v h1, h2⟩
 cases o <;> try (simp [kdU] at hk; done)
 case binOp op ty x y pre =>
  simp only [opU] at he
  split at he <;> try (cases he; done)
  split at he <;> try (cases he; done)
  rename_i a b _ t hu
  obtain ⟨rfl, h1⟩:=vh_some he
  refine ⟨rfl, fun ρ w act oo ho _ hr => ?_⟩
  obtain ⟨u, v', huv, r1, r2⟩:=rel_two (xs:=[act.eval x, act.eval y]) (by simpa [Op.operands] using hr)
  simp only [List.cons.injEq, and_true] at huv
  obtain ⟨rfl, rfl⟩:=huv
  unfold execOp; rw [ho]
  exact take (cmpP_sim hu h1 r1 r2 x y w)
 case convert s d x =>
  exfalso
  simp only [kdU] at hk
  split at hk
  ·split at hk <;> simp at hk
  ·split at hk <;> simp at hk
  ·simp at hk
 case call c =>
  obtain ⟨callee, args, tys⟩:=c
  cases callee <;> try (simp [kdU] at hk; done)
  rename_i b
  simp only [opU] at he
  cases b <;> try (simp [kdU] at hk; done)
  simp only at he
  split at he <;> try (cases he; done)
  obtain ⟨rfl, h1⟩:=vh_some he
  refine ⟨rfl, fun ρ w act oo ho H hr => ?_⟩
  obtain ⟨u, hu1, r1⟩:=rel_one (xs:=args.toList.map act.eval) (by simpa [Op.operands, Call.operands] using hr)
  unfold execOp; rw [ho]
  simp only [resolve, pure_bind, invoke, builtin]
  have ha0 : args.map act.eval = #[u]:=by
   apply Array.ext'; simpa using hu1
  rw [ha0]
  exact take (headV_sim H h1 r1 _ _)
theorem opU_pure {o : Op} (hk : kdU P o = 1) (as : List V) (h h2 : Hp) : opU P o as h2 = (opU P o as h).map fun p => (p.1, h2):=by
 cases o <;> try (simp [kdU] at hk; done)
 case binOp op ty x y pre =>
  simp only [opU]
  split
  ·split
   ·exact vh_map' _ _ _
   ·rfl
  ·rfl
 case convert s d x =>
  exfalso
  simp only [kdU] at hk
  split at hk
  ·split at hk <;> simp at hk
  ·split at hk <;> simp at hk
  ·simp at hk
 case call c =>
  exfalso
  obtain ⟨callee, args, tys⟩:=c
  cases callee <;> try (simp [kdU] at hk; done)
  rename_i b
  cases b <;> simp [kdU] at hk
theorem opU_make [Orc] {o : Op} (hn : kdU P o ≠ 0) {as : List V} {h h' : Hp} {v : V} (he : opU P o as h = some (v, h')) : Fr h h' ∧ ∀ (Z : Res) w0 w ρ (a : Act) (oo : Oper), oo.op = o → R P w0 w h ρ → RelL ρ as (o.operands.toList.map a.eval) →
 Made P w0 ((execOp a.eval oo).run P w) v h' ρ:=by
 by_cases h12 : kdU P o = 1 ∨ kdU P o = 2
 ·obtain ⟨rfl, h1⟩ := opU_reads h12 he
  refine ⟨Fr.refl _, fun Z w0 w ρ a oo hoo H hr => ?_⟩
  obtain ⟨x, h2, h3⟩:=h1 ρ w a oo hoo H.live hr
  exact ⟨x, w, ρ, .inl h2, h3, Ext.refl _, H⟩
 ·cases o <;> try (simp [kdU] at hn; done)
  case binOp op ty x y pre =>
   exfalso
   simp only [kdU] at hn h12
   cases hb : (isK x || isK y) <;> rw [hb] at hn h12
   ·simp only [cond_false] at hn h12
    split at hn <;> first | (split at hn <;> simp_all) | simp_all
   ·simp at hn
  case convert s d x =>
   simp only [opU] at he
   split at he <;> try (cases he; done)
   obtain ⟨rfl, h1⟩:=vh_some he
   refine ⟨Fr.refl _, fun Z w0 w ρ a oo hoo H hr => ?_⟩
   obtain ⟨u, hu, r1⟩:=rel_one (xs:=[a.eval x]) (by simpa [Op.operands] using hr)
   simp only [List.cons.injEq, and_true] at hu
   subst hu
   obtain ⟨r, h2, h3⟩:=convU_sim H h1 r1
   refine ⟨r, w, ρ, .inl ?_, h3, Ext.refl _, H⟩
   unfold execOp; rw [hoo]
   exact run_v h2
  case call c =>
   obtain ⟨callee, args, tys⟩:=c
   cases callee <;> try (simp [kdU] at hn; done)
   rename_i b
   cases b <;> try (simp [kdU] at hn h12; done)
   simp only [opU] at he
   split at he <;> try (cases he; done)
   rename_i a n ty it hty
   split at he <;> try (cases he; done)
   rename_i u hu
   cases hc : Nat.beq (P.cellsOf u) 1 with
   | false => rw [hc] at he; cases he
   | true =>
    rw [hc] at he
    simp only [cond_true] at he
    have hc':=Nat.eq_of_beq_eq_true hc
    refine ⟨?_, fun Z w0 w ρ act oo hoo H hr => ?_⟩
    ·unfold seeV at he
     simp only [Bool.cond_eq_ite] at he
     (repeat' split at he) <;> first | (cases he; done) | (simp only [Option.some.injEq, Prod.mk.injEq] at he; obtain ⟨_, rfl⟩:=he; first | exact Fr.refl _ | exact Fr.put _ _ _)
    ·obtain ⟨x, y, hxy, r1, r2⟩ := rel_two (xs := args.toList.map act.eval) (by simpa [Op.operands, Call.operands] using hr)
     have ht : tys = #[ty, it]:=by apply Array.ext'; simpa using hty
     subst ht
     obtain ⟨r, w', h1, h2, h3⟩:=seeV_sim H he r1 r2 hu hc' oo.type
     refine ⟨r, w', ρ, .inl ?_, h2, Ext.refl _, h3⟩
     unfold execOp; rw [hoo]
     simp only [resolve, pure_bind, invoke, builtin]
     have ha0 : args.map act.eval = #[x, y]:=by
      apply Array.ext'; simpa using hxy
     rw [ha0]
     exact run_v h1
theorem qops [O : Orc] (hk : ∀ o, Orc.kd o = kdQ P o) (ho : ∀ o as h, Orc.op o as h = opQ P o as h) : OpOk P:=by
 have z : ∀ o, kdP P o = 0 → kdQ P o = kdU P o ∧ ∀ as h, opQ P o as h = opU P o as h:=fun o h => by unfold kdQ opQ; rw [h]; exact ⟨rfl, fun _ _ => rfl⟩
 have s : ∀ o, kdP P o ≠ 0 → kdQ P o = kdP P o ∧ ∀ as h, opQ P o as h = opP P o as h := fun o h => by
  unfold kdQ opQ
  cases e : kdP P o with
  | zero => exact (h e).elim
  | succ k => exact ⟨rfl, fun _ _ => rfl⟩
 have low : @OpOk P ⟨O.ng, O.fn, kdP P, opP P, O.inv, O.itr⟩:=@xops P ⟨O.ng, O.fn, kdP P, opP P, O.inv, O.itr⟩ (fun _ => rfl) (fun _ _ _ => rfl)
 have up : ∀ {Z : Res} {w0 w h ρ}, R P w0 w h ρ → @R ⟨O.ng, O.fn, kdP P, opP P, O.inv, O.itr⟩ Z P w0 w h ρ:=fun {Z w0 w h ρ} H => @R.mk ⟨O.ng, O.fn, kdP P, opP P, O.inv, O.itr⟩ Z P _ _ _ _ H.below H.bnd H.live H.inj H.fresh H.glob H.base H.rs H.pn
 have down : ∀ {Z : Res} {w0 w h ρ}, @R ⟨O.ng, O.fn, kdP P, opP P, O.inv, O.itr⟩ Z P w0 w h ρ → R P w0 w h ρ := fun {Z w0 w h ρ} H =>
  @R.mk O Z P _ _ _ _ (@R.below ⟨O.ng, O.fn, kdP P, opP P, O.inv, O.itr⟩ Z P w0 w h ρ H) (@R.bnd ⟨O.ng, O.fn, kdP P, opP P, O.inv, O.itr⟩ Z P w0 w h ρ H) (@R.live ⟨O.ng, O.fn, kdP P, opP P, O.inv, O.itr⟩ Z P w0 w h ρ H) (@R.inj ⟨O.ng, O.fn, kdP P, opP P, O.inv, O.itr⟩ Z P w0 w h ρ H) (@R.fresh ⟨O.ng, O.fn, kdP P, opP P, O.inv, O.itr⟩ Z P w0 w h ρ H) (@R.glob ⟨O.ng, O.fn, kdP P, opP P, O.inv, O.itr⟩ Z P w0 w h ρ H) (@R.base ⟨O.ng, O.fn, kdP P, opP P, O.inv, O.itr⟩ Z P w0 w h ρ H) (@R.rs ⟨O.ng, O.fn, kdP P, opP P, O.inv, O.itr⟩ Z P w0 w h ρ H) (@R.pn ⟨O.ng, O.fn, kdP P, opP P, O.inv, O.itr⟩ Z P w0 w h ρ H)
 refine ⟨fun o h1 as h h2 => ?_, fun o as h v h' h1 he => ?_, fun o as h v h' he hn => ?_⟩
 ·rw [ho, ho]
  rw [hk] at h1
  by_cases h0 : kdP P o = 0
  ·rw [(z o h0).2, (z o h0).2]; exact opU_pure (by rw [← (z o h0).1]; exact h1) as h h2
  ·rw [(s o h0).2, (s o h0).2]; exact opP_pure (by rw [← (s o h0).1]; exact h1) as h h2
 ·rw [ho] at he
  rw [hk] at h1
  by_cases h0 : kdP P o = 0
  ·rw [(z o h0).2] at he; exact opU_reads (by rw [← (z o h0).1]; exact h1) he
  ·rw [(s o h0).2] at he; exact opP_reads (by rw [← (s o h0).1]; exact h1) he
 ·rw [ho] at he
  rw [hk] at hn
  by_cases h0 : kdP P o = 0
  ·rw [(z o h0).2] at he; exact opU_make (by rw [← (z o h0).1]; exact hn) he
  ·rw [(s o h0).2] at he
   obtain ⟨h1, h2⟩:=@OpOk.make P ⟨O.ng, O.fn, kdP P, opP P, O.inv, O.itr⟩ low o as h v h' he h0
   refine ⟨h1, fun Z w0 w ρ a oo hoo H hr => ?_⟩
   obtain ⟨x, w', ρ', k1, k2, k3, k4⟩:=h2 Z w0 w ρ a oo hoo (up H) hr
   exact ⟨x, w', ρ', k1, k2, k3, down k4⟩
def sameF (as : List V) (h : Hp) : Option (V × Hp) :=
 match as with
 | [.ptr b o] => some (.ptr b o, h)
 | [.nilPtr] => some (.nilPtr, h)
 | _ => none
theorem callR_ext {f : FuncId} {fn : Func} {e : Array Value → Sem Value} (hf : P.funcs[f]? = some fn) (hname : (fn.name == "runtime.NumGoroutine") = false) (hb : fn.body.isNone = true) (hn : Extern.findNext fn = none) (he : Extern.find fn = some e)
 {xs : Array Value} {w w' : World} {x : Value} {Q : Ending → World → Prop} (hr : (e xs).run P w = .ok x w') (hq : Q (.returned x) w') : CallR P f xs w Q :=
 .inr ⟨x, w', by rw [run_callFunc_extern hf hname hb hn he, hr]; rfl, hq⟩
theorem sameF_sim [Orc] [Res] {f : FuncId} {fn : Func} (hf : P.funcs[f]? = some fn) (hname : (fn.name == "runtime.NumGoroutine") = false) (hb : fn.body.isNone = true) (hn : Extern.findNext fn = none) (he : Extern.find fn = some Extern.AbiNoEscape.same)
 {as : List V} {h h' : Hp} {v : V} (hs : sameF as h = some (v, h')) {w0 w : World} {ρ : Rho} {xs : List Value} (H : R P w0 w h ρ) (ha : RelL ρ as xs) : CallR P f ⟨xs⟩ w fun e w' => ∃ x ρ', e = .returned x ∧ Rel ρ' v x ∧ Ext ρ ρ' ∧ R P w0 w' h' ρ':=by
 unfold sameF at hs
 split at hs <;> try (cases hs; done)
 all_goals
  simp only [Option.some.injEq, Prod.mk.injEq] at hs
  obtain ⟨rfl, rfl⟩:=hs
  obtain ⟨x, rfl, hx⟩:=rel_one ha
  exact callR_ext hf hname hb hn he (Lib.run_noEscape w x) ⟨x, ρ, rfl, hx, Ext.refl _, H⟩
end
end Go.Mid
end
