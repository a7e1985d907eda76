/- MetaPlain: the call, whatever comes in. -/
import Derived.Test.YteeahoagedfehaaGreatDoorUHQ1
import Derived.Test.YteeahoagedfehaaGreatDoorUHVg
import Derived.Test.YteeahoagedfehaaGreatDoorUPlainShelf
import Derived.Test.YteeahoagedfehaaGreatDoorUMidZ
set_option linter.all false
set_option warn.classDefReducibility false
noncomputable section
section
open Go Go.Mid Go.Proofs Go.Proofs.YteeahoagedfehaaGreatDoor Go.RowKit
set_option maxRecDepth 100000
namespace Go.MS
section
theorem fnA_cases {f : FuncId} {vs : List V} {h : Hp} {p : V × Hp} (e : fnA f vs h = some p) : (f = 11 ∧ vs = [] ∧ p = (.bool true, h)) ∨
 (f = 106 ∧ ∃ n : Int, vs = [.int .i64 n, .int .i64 10] ∧ (-9223372036854775808 ≤ n ∧ n ≤ 9223372036854775807) ∧ p = (.str (pack (Lib.itoa n)), h)) ∨
 (f = 98 ∧ ∃ a b : Bs, vs = [.str a, .str b] ∧ p = (.int .i64 (Lib.compareBytes a.l b.l), h)):=by
 unfold fnA at e
 cases h1 : Nat.beq f 11 with
 | true =>
  rw [h1] at e
  cases vs with
  | nil => cases e; exact .inl ⟨Nat.eq_of_beq_eq_true h1, rfl, rfl⟩
  | cons a l => cases e
 | false =>
  rw [h1] at e
  cases h2 : Nat.beq f 106 with
  | true =>
   rw [h2] at e
   refine .inr (.inl ⟨Nat.eq_of_beq_eq_true h2, ?_⟩)
   replace e : digF vs h = some p:=e
   unfold digF at e
   split at e
   next n =>
    split at e
    next hn =>
     cases e
     exact ⟨n, rfl, hn, rfl⟩
    next => cases e
   next => cases e
  | false =>
   rw [h2] at e
   cases h3 : Nat.beq f 98 with
   | true =>
    rw [h3] at e
    refine .inr (.inr ⟨Nat.eq_of_beq_eq_true h3, ?_⟩)
    replace e : cmpF vs h = some p:=e
    unfold cmpF at e
    split at e
    next a b =>
     cases e
     exact ⟨a, b, rfl, rfl⟩
    next => cases e
   | false => rw [h3] at e; cases e
theorem okA : @OrcOk Tryz.prog (orc fnA Inv) :=
 letI : Orc:=orc fnA Inv
 {pure := @OpOk.pure Tryz.prog (orc fnA Inv) (opsC _)
  reads:=@OpOk.reads Tryz.prog (orc fnA Inv) (opsC _)
  make:=@OpOk.make Tryz.prog (orc fnA Inv) (opsC _)
  itr:=itr_ok
  fr := fun f vs h v h' e => by
   rcases fnA_cases (show fnA f vs h = some (v, h') from e) with ⟨_, _, e⟩ | ⟨_, _, _, _, e⟩ | ⟨_, _, _, _, e⟩ <;> (cases e; exact Fr.refl _)
  sound := fun f vs h v h' e Z w0 w ρ xs H ha => by
   have hI : Inv w:=Inv.later H.base H.below
   rcases fnA_cases (show fnA f vs h = some (v, h') from e) with ⟨rfl, rfl, e⟩ | ⟨rfl, n, rfl, hn, e⟩ | ⟨rfl, a, b, rfl, e⟩
   ·cases e
    refine (awake_known ρ xs ha w hI).mono ?_
    rintro e w' ⟨x, rfl, hx, hB⟩
    exact ⟨x, ρ, rfl, hx, Ext.refl _, H.later (h2:=h) (ρ2:=ρ) hB⟩
   ·cases e
    obtain ⟨x, xs, rfl, hx, ha⟩:=ha.cons_inv
    obtain ⟨y, ys, rfl, hy, ha⟩:=ha.cons_inv
    obtain rfl : ys = []:=List.eq_nil_of_length_eq_zero ha.1.symm
    cases hx
    cases hy
    refine CallR.mono (.inl ⟨⟨_, Tryz.func106, by kernel_rfl⟩, Tryz.internal_strconv_FormatInt_10 n hn.1 hn.2 w hI.tab⟩) ?_
    rintro e w' ⟨rfl, k, os, rfl⟩
    have hr:=Rel.str (ρ:=ρ) (pack (Lib.itoa n))
    rw [pack_l] at hr
    exact ⟨_, ρ, rfl, hr, Ext.refl _, H.later (h2:=h) (ρ2:=ρ) (Lib.below_grow _ w (Nat.le_refl _) k os)⟩
   ·cases e
    obtain ⟨x, xs, rfl, hx, ha⟩:=ha.cons_inv
    obtain ⟨y, ys, rfl, hy, ha⟩:=ha.cons_inv
    obtain rfl : ys = []:=List.eq_nil_of_length_eq_zero ha.1.symm
    cases hx
    cases hy
    refine CallR.mono (.inl ⟨⟨_, Tryz.func98, by kernel_rfl⟩, Tryz.strings_Compare ⟨⟨a.l⟩⟩ ⟨⟨b.l⟩⟩ w⟩) ?_
    rintro e w' ⟨rfl, rfl⟩
    exact ⟨_, ρ, rfl, .int _ _, Ext.refl _, H⟩ }
section
variable {H : Type} {enc : TypeId × Value → H} {w : World} {b o : Nat}
def mem (w : World) : MS.Mem:=fun b o => (heapOf w).cell b o
theorem all_of {α : Type} {P : Nat → α → Prop} : ∀ n, (∀ i, i < n → ∃ a, P i a) → ∃ l : List α, l.length = n ∧ ∀ i (hi : i < l.length), P i l[i]
 | 0, _ => ⟨[], rfl, fun i hi => absurd hi (Nat.not_lt_zero _)⟩
 | n + 1, h => by
  obtain ⟨l, h1, h2⟩:=all_of n fun i hi => h i (by omega)
  obtain ⟨a, ha⟩:=h n (by omega)
  refine ⟨l ++ [a], by simp [h1], fun i hi => ?_⟩
  rw [List.length_append, List.length_singleton] at hi
  by_cases e : i < l.length
  ·rw [List.getElem_append_left e]; exact h2 i e
  ·have : i = n := by omega
   subst this
   rw [List.getElem_append_right (by omega)]; simpa using ha
theorem fsl_of {α : Type} {P : Nat → Nat → α → Prop} {e : TypeId} {s : Nat} {v : V} (h : SlView enc Tryz.prog w e s v) (hP : ∀ b o, View enc Tryz.prog w e b o → ∃ a, P b o a) : ∃ l : List α, FSl s P v l:=by
 rcases h with h | ⟨b, o, n, c, h1, ⟨h2, h4⟩, h3⟩
 ·exact ⟨[], .inl ⟨h, rfl⟩⟩
 ·obtain ⟨l, hl, hp⟩ := all_of n fun i hi => hP _ _ (h3 i hi)
  subst hl
  exact ⟨l, .inr ⟨b, o, c, h1, h4, h2, hp⟩⟩
theorem is_arr {P : Program} {t e : TypeId} {n : Nat} {cs : List Value} (hu : P.underlying t = some (.array n e)) (h : Is enc P w t cs) : cs.length = P.cellsOf t ∧ ∀ i, i < n → Is enc P w e ((cs.drop (i * P.cellsOf e)).take (P.cellsOf e)):=by
 obtain ⟨fuel, x, h⟩:=h
 obtain ⟨xs, m, _, _, hl, hn, he⟩:=DataW.trod_array hu h
 refine ⟨hl, fun i hi => ?_⟩
 have h1:=he i hi
 rw [List.getElem?_eq_getElem (by omega)] at h1
 exact ⟨m, _, h1⟩
theorem is_three {cs : List Value} (h : Is enc Tryz.prog w 26 cs) : ∃ a b c : Int, cs = [.int .i64 a, .int .i64 b, .int .i64 c]:=by
 obtain ⟨hl, he⟩:=is_arr Tryz.underlying26 h
 have hc : Tryz.prog.cellsOf 26 = 3:=by kernel_rfl
 have c3 : Tryz.prog.cellsOf 3 = 1:=by kernel_rfl
 rw [hc] at hl
 rw [c3] at he
 obtain ⟨x, y, z, rfl⟩ : ∃ x y z, cs = [x, y, z]:=by
  match cs, hl with
  | [x, y, z], _ => exact ⟨x, y, z, rfl⟩
 obtain ⟨a, ea⟩:=(he 0 (by decide)).int Tryz.underlying3
 obtain ⟨b, eb⟩:=(he 1 (by decide)).int Tryz.underlying3
 obtain ⟨c, ec⟩:=(he 2 (by decide)).int Tryz.underlying3
 have ea : x = .int .i64 a:=by simpa using ea
 have eb : y = .int .i64 b:=by simpa using eb
 have ec : z = .int .i64 c:=by simpa using ec
 exact ⟨a, b, c, by rw [ea, eb, ec]⟩
theorem set_of (h : View enc Tryz.prog w 26 b o) : ∃ x, SetAt (mem w) b o x:=by
 obtain ⟨cs, h1, h2⟩:=h
 obtain ⟨x, y, z, rfl⟩:=is_three h2
 exact ⟨(x, y, z), h1 0 _ rfl, h1 1 _ rfl, h1 2 _ rfl⟩
theorem mem_St (w : World) : St [frz (mem w)] (heapOf w):=by
 refine ⟨heapOf_wf w, hf (heapOf w), fun _ => none, fun _ => .inr rfl, Lf.refl _, fun _ _ h => (nomatch h), fun b o v hv => ?_, trivial⟩
 unfold mem Hp.cell at hv
 unfold hf
 cases ht : cellsT ((heapOf w).t.get b) with
 | none => rw [ht] at hv; cases hv
 | some t => rw [ht] at hv; exact ⟨t, rfl, hv⟩
theorem is_two {t e : TypeId} {cs : List Value} (ht : Tryz.prog.underlying t = some (.array 2 e)) (he : Tryz.prog.underlying e = some (.int .i64)) (hc : Tryz.prog.cellsOf t = 2) (c3 : Tryz.prog.cellsOf e = 1) (h : Is enc Tryz.prog w t cs) : ∃ a b : Int, cs = [.int .i64 a, .int .i64 b]:=by
 obtain ⟨hl, hh⟩:=is_arr ht h
 rw [hc] at hl
 rw [c3] at hh
 obtain ⟨x, y, rfl⟩ : ∃ x y, cs = [x, y]:=by
  match cs, hl with
  | [x, y], _ => exact ⟨x, y, rfl⟩
 obtain ⟨a, ea⟩:=(hh 0 (by decide)).int he
 obtain ⟨b, eb⟩:=(hh 1 (by decide)).int he
 have ea : x = .int .i64 a:=by simpa using ea
 have eb : y = .int .i64 b:=by simpa using eb
 exact ⟨a, b, by rw [ea, eb]⟩
theorem plains (v0 v1 v2 : Value) (h0 : Is enc Tryz.prog w 23 v0.cells.toList) (a0 : v0.cells = #[v0]) (h1 : Is enc Tryz.prog w 49 v1.cells.toList) (a1 : ∃ cs, v1 = .agg cs) (h2 : Is enc Tryz.prog w 50 v2.cells.toList) (a2 : ∃ cs, v2 = .agg cs) (hI : Inv w) :
 Calls Tryz.prog 4 ⟨[v0, v1, v2]⟩ w fun e w' => e = .returned (.bool true) ∧ Below w.heap.size w w':=by
 obtain ⟨cs1, rfl⟩:=a1
 obtain ⟨cs2, rfl⟩:=a2
 rw [a0] at h0
 obtain ⟨y', u1, ey, hy, hv1⟩:=h0.slice Tryz.underlying23 (s:=3) (by kernel_rfl) (by decide)
 have ey : v0 = y':=by simpa using ey
 subst ey
 obtain ⟨l1⟩:=cs1
 obtain ⟨i1, i2, e3⟩:=is_two Tryz.underlying49 Tryz.underlying3 (by kernel_rfl) (by kernel_rfl) h1
 have e3 : l1 = [.int .i64 i1, .int .i64 i2]:=e3
 subst e3
 obtain ⟨l2⟩:=cs2
 obtain ⟨k, m, e4⟩:=is_two Tryz.underlying50 Tryz.underlying2 (by kernel_rfl) (by kernel_rfl) h2
 have e4 : l2 = [.int .i64 k, .int .i64 m]:=e4
 subst e4
 obtain ⟨ss, hss⟩:=fsl_of (P:=SetAt (mem w)) hv1 fun b o h => set_of h
 obtain ⟨v, h', B, e, hT, _⟩:=P.plain_ok (i1:=i1) (i2:=i2) (k:=k) (m:=m) hss (mem_St w)
 obtain ⟨fuel, hrun⟩:=(@lim_F Tryz.prog (orc fnA Inv) labs 4 _ _ _).1 e
 letI:=orc fnA Inv
 have:=okA
 refine (calls_of mixed named (heapOf_R w hI.size hI) (RelL.cons (toV_rel hy) (RelL.cons (.agg (cs:=[.int .i64 i1, .int .i64 i2]) (xs:=[.int .i64 i1, .int .i64 i2]) rfl (RelL.cons (.int .i64 i1) (RelL.cons (.int .i64 i2) (RelL.nil _))).2) (RelL.cons (.agg (cs:=[.int .i64 k, .int .i64 m]) (xs:=[.int .i64 k, .int .i64 m]) rfl (RelL.cons (.int .i64 k) (RelL.cons (.int .i64 m) (RelL.nil _))).2) (RelL.nil _)))) (by kernel_rfl) hrun).mono ?_
 rintro e w' ⟨x, ρ', rfl, hr, hg⟩
 obtain ⟨rfl, _⟩:=hT
 cases hr
 exact ⟨rfl, hg⟩
end
end
end Go.MS
end
