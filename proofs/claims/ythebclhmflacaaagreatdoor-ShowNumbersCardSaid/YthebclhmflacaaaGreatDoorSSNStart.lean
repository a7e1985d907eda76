/- ShowNumbers: where it begins: the listed package variables, in the small machine; the two contracts of the library. -/
import Derived.Test.YthebclhmflacaaaGreatDoorRows
import Derived.Test.YthebclhmflacaaaGreatDoorChecked
import Derived.Test.YthebclhmflacaaaGreatDoorSTryzShelf
import Derived.Test.YthebclhmflacaaaGreatDoorSMidHH
import Derived.Test.YthebclhmflacaaaGreatDoorSMidAA
import Derived.LaidMore
import Derived.FnData
import Derived.Stop.Joined
import Derived.OpenShut
import Derived.Shelf.Vars
set_option linter.all false
namespace Go.SN
open Go.Mid Go.Proofs Go.Proofs.YthebclhmflacaaaGreatDoor Go.ChangeShapes Go.WideShapes Go.RowKit

theorem laid_ints {H : Type} {enc : TypeId × Value → H} {P : Program} {w : World} {base : Nat} {spare : Nat → Bool} {held : Bool} {fuel t e n : Nat} {k : IntKind} (ht : P.underlying t = some (.array n e)) (he : P.underlying e = some (.int k)) (hc : P.cellsOf e = 1) (hct : P.cellsOf t = n)
    {cs : List Value} {ns : List Int} {q : List MemPlace} (h : DataW.trod enc P w base spare held fuel t cs = some (.agg (ns.map fun i => .lit (.int k i)), q)) : cs = ns.map (Value.int k) := by
  obtain ⟨xs, m, rfl, hx, hlen, hn, hel⟩ := DataW.trod_array ht h
  simp only [Prod.mk.injEq, DataW.agg.injEq] at hx
  have hl : ns.length = n := by have := congrArg List.length hx.1; simpa [hn] using this
  apply List.ext_getElem?
  intro i
  rcases Nat.lt_or_ge i n with hi | hi
  · have h1 := hel i hi
    rw [hc, Nat.mul_one, List.getElem?_eq_getElem (by omega)] at h1
    obtain ⟨j, e1, e2, _⟩ := DataW.trod_int he h1
    have h2 : (ns.map fun i => (DataW.lit (.int k i) : DataW H))[i]? = (xs.map (·.1))[i]? := by rw [hx.1]
    rw [List.getElem?_map, List.getElem?_map, List.getElem?_eq_getElem (show i < xs.length by omega), e2, List.getElem?_eq_getElem (show i < ns.length by omega)] at h2
    simp only [Option.map_some, Option.some.injEq, DataW.lit.injEq, Lit.int.injEq, true_and] at h2
    have h3 : cs[i]? = some (.int k j) := by
      have := congrArg (fun l => l[0]?) e1
      simp only [List.getElem?_take, List.getElem?_drop, Nat.add_zero] at this
      simpa using this
    rw [h3, List.getElem?_map, List.getElem?_eq_getElem (show i < ns.length by omega), h2]; rfl
  · rw [List.getElem?_eq_none (by omega), List.getElem?_eq_none (by simp; omega)]

noncomputable def l0 : List Int := [0, 0, 0, 0, 0, 0, 0, 0, 0, 1, 1, 1, 1, 1, 0, 0, 0, 0, 0, 0, 0, 0, 0, 0, 0, 0, 0, 0, 0, 0, 0, 0, 1, 0, 0, 0, 0, 0, 0, 0, 0, 0, 0, 0, 0, 0, 0, 0, 0, 0, 0, 0, 0, 0, 0, 0, 0, 0, 0, 0, 0, 0, 0, 0, 0, 0, 0, 0, 0, 0, 0, 0, 0, 0, 0, 0, 0, 0, 0, 0, 0, 0, 0, 0, 0, 0, 0, 0, 0, 0, 0, 0, 0, 0, 0, 0, 0, 0, 0, 0, 0, 0, 0, 0, 0, 0, 0, 0, 0, 0, 0, 0, 0, 0, 0, 0, 0, 0, 0, 0, 0, 0, 0, 0, 0, 0, 0, 0, 0, 0, 0, 0, 0, 0, 0, 0, 0, 0, 0, 0, 0, 0, 0, 0, 0, 0, 0, 0, 0, 0, 0, 0, 0, 0, 0, 0, 0, 0, 0, 0, 0, 0, 0, 0, 0, 0, 0, 0, 0, 0, 0, 0, 0, 0, 0, 0, 0, 0, 0, 0, 0, 0, 0, 0, 0, 0, 0, 0, 0, 0, 0, 0, 0, 0, 0, 0, 0, 0, 0, 0, 0, 0, 0, 0, 0, 0, 0, 0, 0, 0, 0, 0, 0, 0, 0, 0, 0, 0, 0, 0, 0, 0, 0, 0, 0, 0, 0, 0, 0, 0, 0, 0, 0, 0, 0, 0, 0, 0, 0, 0, 0, 0, 0, 0, 0, 0, 0, 0, 0, 0, 0, 0, 0, 0, 0, 0]
noncomputable def l3 : List Int := [1, 10, 100, 1000, 10000, 100000, 1000000, 10000000, 100000000, 1000000000, 10000000000, 100000000000, 1000000000000, 10000000000000, 100000000000000, 1000000000000000, 10000000000000000, 100000000000000000, 1000000000000000000, 10000000000000000000]
noncomputable def l4 : List Int := [0, 1, 28, 2, 29, 14, 24, 3, 30, 22, 20, 15, 25, 17, 4, 8, 31, 27, 13, 23, 21, 19, 16, 7, 26, 12, 18, 6, 11, 5, 10, 9]
noncomputable def l5 : List Int := [0, 1, 56, 2, 57, 49, 28, 3, 61, 58, 42, 50, 38, 29, 17, 4, 62, 47, 59, 36, 45, 43, 51, 22, 53, 39, 33, 30, 24, 18, 12, 5, 63, 55, 48, 27, 60, 41, 37, 16, 46, 35, 44, 21, 52, 32, 23, 11, 54, 26, 40, 15, 34, 20, 31, 10, 25, 14, 19, 9, 13, 8, 7, 6]
/-- a package variable's row of numbers. -/
def RowIs (w : World) (g : Nat) (k : IntKind) (l : List Int) : Prop := ∃ arr t fz, w.heap[g]? = some (.cells arr t fz) ∧ arr.toList = l.map (Value.int k)
/-- what holds where all begins. -/
structure Inv (w : World) : Prop where
  r0 : RowIs w 0 .u8 l0
  r3 : RowIs w 3 .u64 l3
  r4 : RowIs w 4 .u8 l4
  r5 : RowIs w 5 .u8 l5
  c2 : ∃ m, w.cell? ⟨2, 0, none⟩ = some (.int .i64 m)
  size : 7 ≤ w.heap.size
theorem var_row {P : Program} {w : World} {n : String} {g : Nat} {cs : Array Value} {k : IntKind} {l : List Int} (hg : P.globalNamed n = some g) (h : w.var? P n = some cs) (hc : cs.toList = l.map (Value.int k)) : RowIs w g k l := by
  simp only [World.var?, hg, Option.bind_some] at h
  split at h <;> simp_all [RowIs]
abbrev laid {H : Type} : List (String × DataW H) := [("math/bits.deBruijn32tab", Rows.laid_math_bits_deBruijn32tab), ("math/bits.deBruijn64tab", Rows.laid_math_bits_deBruijn64tab), ("internal/strconv.uint64pow10", Rows.laid_internal_strconv_uint64pow10), ("unicode.White_Space", Rows.laid_unicode_White_Space), ("strings.asciiSpace", Rows.laid_strings_asciiSpace)]
set_option maxRecDepth 100000 in
theorem inv_of {w : World} (h : laidMetH Tryz.prog laid w) (hs : w.ShapedOpen Tryz.prog) : Inv w := by
  rw [MakeChecks.laidMetH_plain _ _ _ (by kernel_rfl)] at h
  obtain ⟨ps, ⟨g4, t4, cs4, f4, p4, q4, hg4, ht4, hv4, hd4, ⟨g5, t5, cs5, f5, p5, q5, hg5, ht5, hv5, hd5, ⟨g3, t3, cs3, f3, p3, q3, hg3, ht3, hv3, hd3, ⟨g1, t1, cs1, f1, p1, q1, hg1, ht1, hv1, hd1, ⟨g0, t0, cs0, f0, p0, q0, hg0, ht0, hv0, hd0, _⟩, _⟩, _⟩, _⟩, _⟩, _, _⟩ := h
  obtain rfl := Option.some.inj ((show Tryz.prog.globalNamed "math/bits.deBruijn32tab" = some 4 by kernel_rfl).symm.trans hg4)
  obtain rfl := Option.some.inj ((show Tryz.prog.globalNamed "math/bits.deBruijn64tab" = some 5 by kernel_rfl).symm.trans hg5)
  obtain rfl := Option.some.inj ((show Tryz.prog.globalNamed "internal/strconv.uint64pow10" = some 3 by kernel_rfl).symm.trans hg3)
  obtain rfl := Option.some.inj ((show Tryz.prog.globalNamed "strings.asciiSpace" = some 0 by kernel_rfl).symm.trans hg0)
  obtain rfl := Option.some.inj ((show (Tryz.prog.globals[4]?).map (·.type) = some 184 by kernel_rfl).symm.trans ht4)
  obtain rfl := Option.some.inj ((show (Tryz.prog.globals[5]?).map (·.type) = some 185 by kernel_rfl).symm.trans ht5)
  obtain rfl := Option.some.inj ((show (Tryz.prog.globals[3]?).map (·.type) = some 178 by kernel_rfl).symm.trans ht3)
  obtain rfl := Option.some.inj ((show (Tryz.prog.globals[0]?).map (·.type) = some 119 by kernel_rfl).symm.trans ht0)
  refine ⟨var_row hg0 hv0 (laid_ints (ns := l0) (show Tryz.prog.underlying 119 = some (.array 256 5) by kernel_rfl) (show Tryz.prog.underlying 5 = some (.int .u8) by kernel_rfl) (by kernel_rfl) (by kernel_rfl) hd0),
    var_row hg3 hv3 (laid_ints (ns := l3) (e := 123) (n := 20) (by kernel_rfl) (by kernel_rfl) (by kernel_rfl) (by kernel_rfl) hd3),
    var_row hg4 hv4 (laid_ints (ns := l4) (e := 5) (n := 32) (by kernel_rfl) (by kernel_rfl) (by kernel_rfl) (by kernel_rfl) hd4),
    var_row hg5 hv5 (laid_ints (ns := l5) (e := 5) (n := 64) (by kernel_rfl) (by kernel_rfl) (by kernel_rfl) (by kernel_rfl) hd5), ?_, ?_⟩
  · exact cell_of_shapedOpen_int hs (t := 3) (zero := #[.int .i64 0]) (of_decide_eq_true (by kernel_rfl)) (by kernel_rfl) rfl (by kernel_rfl) (by kernel_rfl) (by kernel_rfl)
  · have h6 : (((begin Tryz.prog (fun _ _ => 0) default).world.heap[6]?).bind Obj.row?).isSome = true := by kernel_rfl
    obtain ⟨p, hp⟩ := Option.isSome_iff_exists.1 h6
    obtain ⟨cs, hh, _⟩ := hs.1 6 p.1 p.2 (of_decide_eq_true (by kernel_rfl)) hp
    exact (Array.getElem?_eq_some_iff.1 hh).1
theorem Inv.later {w w' : World} (h : Inv w) (hB : Below w.heap.size w w') : Inv w' := by
  have key : ∀ b, b < w.heap.size → w'.heap[b]? = w.heap[b]? := fun b hb => hB.block b hb
  have hs := h.size
  have row : ∀ {g k l}, g < 7 → RowIs w g k l → RowIs w' g k l := fun hg ⟨arr, t, fz, h1, h2⟩ => ⟨arr, t, fz, by rw [key _ (by omega)]; exact h1, h2⟩
  refine ⟨row (by decide) h.r0, row (by decide) h.r3, row (by decide) h.r4, row (by decide) h.r5, ?_, ?_⟩
  · obtain ⟨m, hm⟩ := h.c2
    refine ⟨m, ?_⟩
    unfold World.cell? at hm ⊢
    simp only at hm ⊢
    rw [key 2 (by omega)]; exact hm
  · exact Nat.le_trans hs hB.size

/-! the small machine's first heap -/
noncomputable def ro (k : IntKind) (l : List Int) : Ob := .ro (Tr.nil.setL 0 (l.map (V.int k))) 0
noncomputable def h0 : Hp := ⟨(((Tr.nil.set 0 (ro .u8 l0)).set 3 (ro .u64 l3)).set 4 (ro .u8 l4)).set 5 (ro .u8 l5), 7, big⟩
def rho0 : Rho := fun b => if b < 7 then some ⟨b, 0, 0⟩ else none
theorem h0_get (b : Nat) : h0.t.get b = if 5 = b then some (ro .u8 l5) else if 4 = b then some (ro .u8 l4) else if 3 = b then some (ro .u64 l3) else if 0 = b then some (ro .u8 l0) else none := by
  unfold h0
  rw [Tr.get_set, Tr.get_set, Tr.get_set, Tr.get_set, Tr.get_nil]
theorem roR [Orc] {P : Program} {w : World} {g : Nat} {k : IntKind} {l : List Int} (h : RowIs w g k l) : ObR P rho0 w ⟨g, 0, 0⟩ (ro k l) := by
  obtain ⟨arr, t, fz, h1, h2⟩ := h
  refine ⟨arr, fz, t, h1, fun i v hv => ?_⟩
  rw [Tr.get_setL, Tr.get_nil] at hv
  split at hv
  · rw [Nat.sub_zero, List.getElem?_map] at hv
    cases hl : l[i]? with
    | none => rw [hl] at hv; cases hv
    | some n =>
      rw [hl] at hv
      simp only [Option.map_some, Option.some.injEq] at hv
      subst hv
      refine ⟨.int k n, ?_, .int k n⟩
      show arr[0 + i]? = _
      rw [Nat.zero_add, ← Array.getElem?_toList, h2, List.getElem?_map, hl]; rfl
  · cases hv
theorem begins [O : Orc] [OrcOk Tryz.prog] (hn : Orc.ng = 7) (hi : ∀ w, Orc.inv w → Inv w) {w : World} (h : Orc.inv w) : Begins Tryz.prog h0 w := by
  have H := hi w h
  refine ⟨rho0, R.start ?_ ?_ ?_ ?_ ?_ h⟩
  · intro b l hb
    unfold rho0 at hb
    split at hb <;> cases hb
    rename_i hlt
    refine ⟨hlt, ?_, .inr (Nat.lt_of_lt_of_le hlt H.size)⟩
    unfold Hp.still
    rw [h0_get]
    unfold ro
    repeat (split; · exact .inr ⟨_, _, rfl⟩)
    exact .inl rfl
  · intro b l o hb ho
    unfold rho0 at hb
    split at hb <;> cases hb
    rw [h0_get] at ho
    split at ho
    · rename_i e; subst e; cases ho; exact roR H.r5
    split at ho
    · rename_i e; subst e; cases ho; exact roR H.r4
    split at ho
    · rename_i e; subst e; cases ho; exact roR H.r3
    split at ho
    · rename_i e; subst e; cases ho; exact roR H.r0
    · cases ho
  · intro b b' l l' hb hb' hne _ _
    unfold rho0 at hb hb'
    split at hb <;> cases hb
    split at hb' <;> cases hb'
    exact hne
  · intro b hb
    rw [h0_get]
    have : 7 ≤ b := hb
    rw [if_neg (by omega), if_neg (by omega), if_neg (by omega), if_neg (by omega)]
  · intro g hg
    rw [hn] at hg
    exact ⟨0, by unfold rho0; rw [if_pos hg]⟩

/-! functions that are answered at once -/
theorem contains_ok : ContainsC Tryz.prog 130 Inv := fun s sub w h hs => by
  obtain ⟨m, hm⟩ := h.c2
  exact Tryz.strings_Contains s sub m w hs hm
theorem join_ok : JoinC Tryz.prog 11 := ⟨fun a c sep w => Tryz.strings_Join_none a c sep w, fun bk o c xs sep w h1 h2 h3 h4 h5 => Tryz.strings_Join bk o c xs sep w h1 h2 h3 h4 h5⟩
noncomputable def fnA (f : FuncId) (vs : List V) (h : Hp) : Option (V × Hp) := bif Nat.beq f 95 then makeF 5 vs h else bif Nat.beq f 94 then sameF vs h else bif Nat.beq f 130 then containsF vs h else bif Nat.beq f 11 then joinF 9 vs h else none
end Go.SN
