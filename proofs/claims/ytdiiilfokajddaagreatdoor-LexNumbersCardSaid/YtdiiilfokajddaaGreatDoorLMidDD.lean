/- The operations of MidBB are the model's: those that read, those that write; all of them. -/
import Derived.Test.YtdiiilfokajddaaGreatDoorLMidCC
import Derived.Laws.BytesString
set_option linter.all false
namespace Go.Mid
open Go.RowKit
variable {P : Program}

theorem push_all : ∀ (ns : List Int) (r : ByteArray), ns.foldl (fun r n => r.push (UInt8.ofNat n.toNat)) r = ⟨⟨r.data.toList ++ ns.map fun n => UInt8.ofNat n.toNat⟩⟩
  | [], r => by simp
  | n :: ns, r => by
    rw [List.foldl_cons, push_all ns]
    simp [ByteArray.push]
theorem b2s_sim [Orc] {ρ : Rho} {h : Hp} {a v : V} {x : Value} {w : World} (H : Live P ρ w h) (hb : b2s h a = some v) (ha : Rel ρ a x) : ∃ r, (Conv.bytesToString x).run P w = .ok r w ∧ Rel ρ v r := by
  cases ha <;> simp only [b2s, reduceCtorEq] at hb
  case nilSlice =>
    simp only [Option.some.injEq] at hb; subst hb
    exact ⟨_, rfl, .str []⟩
  case sliceZ b l o a hr hz =>
    split at hb <;> try (cases hb; done)
    split at hb <;> try (cases hb; done)
    rename_i vs hl
    have e0 : vs = [] := by simpa [Tr.getL] using hl.symm
    subst e0
    simp only [bytesV, Option.some.injEq] at hb; subst hb
    exact ⟨_, run_bytesToString w a 0 0 [] (by rfl), by exact .str []⟩
  case sliceE b l k a c hr hk =>
    split at hb <;> try (cases hb; done)
    split at hb <;> try (cases hb; done)
    rename_i vs hl
    have e0 : vs = [] := by simpa [Tr.getL] using hl.symm
    subst e0
    simp only [bytesV, Option.some.injEq] at hb; subst hb
    exact ⟨_, run_bytesToString w a 0 c [] (by rfl), by exact .str []⟩
  all_goals
    rename_i hρ
    split at hb <;> try (cases hb; done)
    rename_i c hg
    split at hb <;> try (cases hb; done)
    rename_i vs hl
    split at hb <;> try (cases hb; done)
    rename_i l hv
    simp only [Option.some.injEq] at hb; subst hb
    obtain ⟨arr, e, fz, C1, C2⟩ := H.cellsT hρ hg
    obtain ⟨xs, h1, h2, h3⟩ := getL_cells' C1 C2 hl
    obtain ⟨h4, h5⟩ := bytesV_sim hv h2
    have hns : ∃ ns : List Int, xs = ns.map (Value.int .u8) ∧ ns.map (fun n => UInt8.ofNat n.toNat) = l := by
      clear h3 hl C1 C2 hg
      have : ∀ (xs : List Value) (l : List UInt8), xs.length = l.length → (∀ (i : Nat) x, xs[i]? = some x → ∃ n, x = .int .u8 n ∧ l[i]? = some (UInt8.ofNat n.toNat)) → ∃ ns : List Int, xs = ns.map (Value.int .u8) ∧ ns.map (fun n => UInt8.ofNat n.toNat) = l := by
        intro xs
        induction xs with
        | nil => intro l hl _; exact ⟨[], rfl, by simpa using (List.eq_nil_of_length_eq_zero hl.symm).symm⟩
        | cons x xs ih =>
          intro l hl hx
          cases l with
          | nil => simp at hl
          | cons y l =>
            obtain ⟨n, rfl, hn⟩ := hx 0 x rfl
            obtain ⟨ns, rfl, h2⟩ := ih l (by simpa using hl) fun i z hz => by simpa using hx (i + 1) z (by simpa using hz)
            simp only [List.getElem?_cons_zero, Option.some.injEq] at hn
            exact ⟨n :: ns, rfl, by simp [h2, hn]⟩
      exact this xs l h4 h5
    obtain ⟨ns, rfl, hl2⟩ := hns
    refine ⟨_, run_bytesToString w _ _ _ ns ?_, ?_⟩
    · rw [← h1, h2.1]
      exact run_loadCells_list w _ _ h3
    · rw [push_all]
      simp only [hl2]
      exact .str l
theorem convX_sim [Orc] {ρ : Rho} {h : Hp} {a v : V} {x : Value} {w : World} {s d : TypeId} (H : Live P ρ w h) (hb : convX P s d h a = some v) (ha : Rel ρ a x) : ∃ r, (convert s d x).run P w = .ok r w ∧ Rel ρ v r := by
  unfold convX at hb
  cases hs : P.underlying s with
  | none => rw [hs] at hb; cases hb
  | some ds =>
    rw [hs] at hb
    cases ds <;> simp only [reduceCtorEq] at hb
    rename_i e
    cases he : P.underlying e with
    | none => rw [he] at hb; cases hb
    | some de =>
      rw [he] at hb
      cases de <;> try (cases hb; done)
      rename_i k
      cases k <;> try (cases hb; done)
      cases hd : P.underlying d with
      | none => rw [hd] at hb; cases hb
      | some dd =>
        rw [hd] at hb
        cases dd <;> simp only [reduceCtorEq] at hb
        obtain ⟨r, h1, h2⟩ := b2s_sim H hb ha
        refine ⟨r, ?_, h2⟩
        have key : ∀ y, (y = x) → (convert s d y).run P w = (Conv.bytesToString y).run P w := by
          intro y hy
          subst hy
          cases ha <;> simp only [b2s, reduceCtorEq] at hb <;> simp only [convert, Sem.run_bind, run_underlying hs, run_underlying hd, run_underlying he, Result.andThen_ok]
        rw [key x rfl]; exact h1
theorem cutA_sim [Orc] {ρ : Rho} {n s : Nat} {a v : V} {x : Value} {l r : Option Nat} (h : cutA n s a l r = some v) (ha : Rel ρ a x) :
    ∃ b o l' r' , x = .pointer (some ⟨b, o, none⟩) ∧ l = some l' ∧ r = some r' ∧ l' ≤ r' ∧ r' ≤ n ∧ Rel ρ v (.slice (some (if n = l' then ⟨b, o, none⟩ else (⟨b, o, none⟩ : Addr).add (l' * s))) (r' - l') (n - l')) := by
  cases ha <;> simp only [cutA, reduceCtorEq] at h
  rename_i b lc o hb
  cases l with
  | none => cases h
  | some l =>
    cases r with
    | none => cases h
    | some r =>
      simp only at h
      cases hc : (Nat.ble l r && Nat.ble r n) with
      | false => rw [hc] at h; cases h
      | true =>
        rw [hc] at h
        simp only [cond_true, Option.some.injEq] at h; subst h
        simp only [Bool.and_eq_true] at hc
        have h1 := Nat.le_of_ble_eq_true hc.1
        have h2 := Nat.le_of_ble_eq_true hc.2
        refine ⟨_, _, l, r, rfl, rfl, rfl, h1, h2, ?_⟩
        by_cases hn : n = l
        · subst hn
          rw [if_pos rfl]
          simp only [Nat.beq_refl, cond_true]
          exact .sliceK _ _ _ hb
        · rw [if_neg hn]
          have : Nat.beq n l = false := by
            cases e : Nat.beq n l with
            | false => rfl
            | true => exact (hn (Nat.eq_of_beq_eq_true e)).elim
          rw [this, add_at, Nat.add_assoc]
          exact .sliceK _ _ _ hb

def cutVal (k : Nat) : Value → Value
  | .slice a _ c => .slice a k c
  | .string s => .string ⟨⟨s.data.toList.take k⟩⟩
  | v => v
theorem first_cut {size k : Nat} (x : Value) : Builtin.firstCells size k (cutVal k x) = Builtin.firstCells size k x := by
  cases x <;> try rfl
  · rename_i s
    simp only [cutVal, Builtin.firstCells]
    congr 2
    rw [ByteArray.data_extract, ByteArray.data_extract]
    apply Array.ext'
    simp [List.take_take]
  · rename_i a n c
    cases a <;> rfl
theorem rel_cut {ρ : Rho} {a : V} {x : Value} (h : Rel ρ a x) {k n : Nat} (hn : lenX a = some n) (hk : k ≤ n) : Rel ρ (cutX k a) (cutVal k x) := by
  cases h <;> simp only [lenX, Option.some.injEq, reduceCtorEq] at hn
  · exact .str _
  · exact .sliceK _ _ _ (by assumption)
  · subst hn
    have : k = 0 := by omega
    subst this
    exact .sliceZ _ _ (by assumption) (by assumption)
  · subst hn
    have : k = 0 := by omega
    subst this
    exact .sliceE _ _ _ (by assumption) (by assumption)
  · exact .sliceG _ _ _ (by assumption)
  · subst hn
    have : k = 0 := by omega
    subst this
    exact .nilSlice
theorem len_cut {ρ : Rho} {a : V} {x : Value} (h : Rel ρ a x) {n : Nat} (hn : lenX a = some n) : Builtin.lenOf x = pure n := by
  cases h <;> simp only [lenX, Option.some.injEq, reduceCtorEq] at hn <;> subst hn <;> rfl
theorem newCells_len {h : Hp} {size k n m : Nat} {a : V} {new : List V} (hn : lenX a = some n) (hk : k ≤ n) (he : newCells h size (cutX k a) = some (m, new)) : m = k := by
  cases a <;> simp only [lenX, Option.some.injEq, reduceCtorEq] at hn
  · simp only [cutX, newCells] at he
    cases hb : Nat.beq size 1 <;> rw [hb] at he
    · cases he
    · simp only [cond_true, Option.some.injEq, Prod.mk.injEq] at he
      subst hn
      rw [← he.1, List.length_take]; omega
  · simp only [cutX, newCells] at he
    split at he <;> try (cases he; done)
    split at he <;> try (cases he; done)
    simp only [Option.some.injEq, Prod.mk.injEq] at he
    exact he.1.symm
  · subst hn
    simp only [cutX, newCells, Option.some.injEq, Prod.mk.injEq] at he
    omega
theorem cp_sim [Orc] [Res] {ρ : Rho} {w0 w : World} {h h' : Hp} (H : R P w0 w h ρ) {size : Nat} {d x v : V} {dv xv : Value} (he : cpN h size d x = some (v, h')) (hd : Rel ρ d dv) (hx : Rel ρ x xv)
    {ty e : TypeId} (hu : P.underlying ty = some (.slice e)) (hs : sz P e = some size) {tys : Array TypeId} (ht : tys[0]? = some ty) (rt : TypeId) :
    ∃ r w', (Builtin.copy_ tys rt #[dv, xv]).run P w = .ok r w' ∧ Rel ρ v r ∧ R P w0 w' h' ρ := by
  unfold cpN at he
  cases hm : lenX x with
  | none => rw [hm] at he; cases he
  | some m =>
    rw [hm] at he
    cases hn : lenS d with
    | none => rw [hn] at he; cases he
    | some n =>
      rw [hn] at he
      simp only at he
      cases hc : newCells h size (cutX (Nat.min m n) x) with
      | none => rw [hc] at he; cases he
      | some q =>
        obtain ⟨k, new⟩ := q
        have hk : k = Nat.min m n := newCells_len hm (Nat.min_le_left m n) hc
        obtain ⟨news, hl, hf, hr, hlen⟩ := newCells_sim H.live (rel_cut hx hm (Nat.min_le_left m n)) hc
        rw [hc] at he
        simp only [cpTo] at he
        obtain ⟨base, dl, dc, hdv, hdl⟩ : ∃ base dl dc, dv = .slice base dl dc ∧ dl = n := by
          cases hd <;> simp only [lenS, Option.some.injEq, reduceCtorEq] at hn <;> exact ⟨_, _, _, rfl, hn⟩
        subst hdl hdv
        have hrun : (Builtin.copy_ tys rt #[.slice base dl dc, xv]).run P w = ((Builtin.firstCells size k xv).run P w).andThen fun cells w1 =>
            ((match base with | some a => storeCells a cells.toList | none => pure ()) : Sem Unit).run P w1 |>.andThen fun _ w2 => .ok (goInt (k : Int)) w2 := by
          unfold Builtin.copy_
          have e0 : (#[Value.slice base dl dc, xv] : Array Value)[0]? = some (.slice base dl dc) := rfl
          have e1 : (#[Value.slice base dl dc, xv] : Array Value)[1]? = some xv := rfl
          simp only [ht, e0, e1, Sem.run_bind, run_underlying hu, Result.andThen_ok, len_cut hx hm, Sem.run_pure, run_sz hs]
          rw [← hk]
          congr 1
          funext cells w1
          cases base <;> simp only [Sem.run_bind, Sem.run_pure] <;> rfl
        have hfc : (Builtin.firstCells size k xv).run P w = .ok ⟨news⟩ w := by
          rw [← first_cut (size := size) (k := k) xv, hk, ← hk]
          have := hf w rfl
          rw [hk] at this ⊢
          exact this
        rw [hrun, hfc, Result.andThen_ok]
        cases hz : Nat.beq k 0 with
        | true =>
          have hk0 : k = 0 := Nat.eq_of_beq_eq_true hz
          rw [hz] at he
          simp only [cond_true, Option.some.injEq, Prod.mk.injEq] at he
          obtain ⟨rfl, rfl⟩ := he
          have hnew : news = [] := by
            apply List.eq_nil_of_length_eq_zero
            rw [← hr.1, hlen, hk0]; simp
          subst hnew
          refine ⟨goInt (k : Int), w, ?_, by rw [hk0]; exact .int _ _, H⟩
          cases base <;> rfl
        | false =>
          rw [hz] at he
          simp only [cond_false] at he
          cases d <;> simp only [reduceCtorEq] at he
          rename_i b o len cap g
          cases hg : h.t.get b with
          | none => rw [hg] at he; cases he
          | some ob =>
            rw [hg] at he
            cases ob <;> simp only [reduceCtorEq] at he
            rename_i c wd gr el
            cases hb : (allOne new && Nat.ble (o + k * size) wd) with
            | false => rw [hb] at he; cases he
            | true =>
              rw [hb] at he
              simp only [cond_true, Option.some.injEq, Prod.mk.injEq] at he
              obtain ⟨rfl, rfl⟩ := he
              simp only [Bool.and_eq_true] at hb
              have hfit := Nat.le_of_ble_eq_true hb.2
              obtain ⟨l, hρ, ha⟩ : ∃ l, ρ b = some l ∧ (base = some ⟨l.blk, l.base + o, none⟩ ∨ dl = 0) := by
                cases hd
                · exact ⟨_, by assumption, .inl rfl⟩
                · exact ⟨_, by assumption, .inr rfl⟩
                · exact ⟨_, by assumption, .inr rfl⟩
                · exact ⟨_, by assumption, .inl rfl⟩
              have hk0 : k ≠ 0 := fun e => by rw [e] at hz; cases hz
              rcases ha with rfl | rfl
              · obtain ⟨w', h1, h2⟩ := H.write hρ hg hr (allOne_mem hr hb.1) (by rw [hlen]; exact hfit)
                refine ⟨_, w', ?_, .int _ _, h2⟩
                simp only
                rw [h1]; rfl
              · exact (hk0 (by rw [hk]; exact Nat.min_eq_right (Nat.zero_le _))).elim
end Go.Mid
