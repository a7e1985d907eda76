/- LexNumbers: where it begins: the listed package variables, in the small machine; the contracts of the library. -/
import Derived.Test.YtdiiilfokajddaaGreatDoorRows
import Derived.Test.YtdiiilfokajddaaGreatDoorChecked
import Derived.Test.YtdiiilfokajddaaGreatDoorLTryzShelf
import Derived.Test.YtdiiilfokajddaaGreatDoorLMidKK
import Derived.LaidMore
import Derived.FnData
import Derived.Stop.Joined
import Derived.OpenShut
import Derived.Shelf.Vars
set_option linter.all false
namespace Go.LN
open Go.Mid Go.Proofs Go.Proofs.YtdiiilfokajddaaGreatDoor Go.ChangeShapes Go.WideShapes Go.RowKit

theorem laid_ints {H : Type} {enc : TypeId × Value → H} {P : Program} {w : World} {base : Nat} {spare : Nat → Bool} {held : Bool} {fuel t e n : Nat} {k : IntKind} (ht : P.underlying t = some (.array n e)) (he : P.underlying e = some (.int k)) (hc : P.cellsOf e = 1) (hct : P.cellsOf t = n)
    {cs : List Value} {ns : List Int} {q : List MemPlace} (h : DataW.trod enc P w base spare held fuel t cs = some (.agg (ns.map fun i => .lit (.int k i)), q)) : cs = ns.map (Value.int k) := by
  obtain ⟨xs, m, rfl, hx, hlen, hn, hel⟩ := DataW.trod_array ht h
  simp only [Prod.mk.injEq, DataW.agg.injEq] at hx
  have hl : ns.length = n := by have := congrArg List.length hx.1; simpa [hn] using this
  apply List.ext_getElem?
  intro i
  rcases Nat.lt_or_ge i n with hi | hi
  · have h1 := hel i hi
    rw [hc, Nat.mul_one, List.getElem?_eq_getElem (by omega)] at h1
    obtain ⟨j, e1, e2, _⟩ := DataW.trod_int he h1
    have h2 : (ns.map fun i => (DataW.lit (.int k i) : DataW H))[i]? = (xs.map (·.1))[i]? := by rw [hx.1]
    rw [List.getElem?_map, List.getElem?_map, List.getElem?_eq_getElem (show i < xs.length by omega), e2, List.getElem?_eq_getElem (show i < ns.length by omega)] at h2
    simp only [Option.map_some, Option.some.injEq, DataW.lit.injEq, Lit.int.injEq, true_and] at h2
    have h3 : cs[i]? = some (.int k j) := by
      have := congrArg (fun l => l[0]?) e1
      simp only [List.getElem?_take, List.getElem?_drop, Nat.add_zero] at this
      simpa using this
    rw [h3, List.getElem?_map, List.getElem?_eq_getElem (show i < ns.length by omega), h2]; rfl
  · rw [List.getElem?_eq_none (by omega), List.getElem?_eq_none (by simp; omega)]

noncomputable def l0 : List Int := [0, 0, 0, 0, 0, 0, 0, 0, 0, 1, 1, 1, 1, 1, 0, 0, 0, 0, 0, 0, 0, 0, 0, 0, 0, 0, 0, 0, 0, 0, 0, 0, 1, 0, 0, 0, 0, 0, 0, 0, 0, 0, 0, 0, 0, 0, 0, 0, 0, 0, 0, 0, 0, 0, 0, 0, 0, 0, 0, 0, 0, 0, 0, 0, 0, 0, 0, 0, 0, 0, 0, 0, 0, 0, 0, 0, 0, 0, 0, 0, 0, 0, 0, 0, 0, 0, 0, 0, 0, 0, 0, 0, 0, 0, 0, 0, 0, 0, 0, 0, 0, 0, 0, 0, 0, 0, 0, 0, 0, 0, 0, 0, 0, 0, 0, 0, 0, 0, 0, 0, 0, 0, 0, 0, 0, 0, 0, 0, 0, 0, 0, 0, 0, 0, 0, 0, 0, 0, 0, 0, 0, 0, 0, 0, 0, 0, 0, 0, 0, 0, 0, 0, 0, 0, 0, 0, 0, 0, 0, 0, 0, 0, 0, 0, 0, 0, 0, 0, 0, 0, 0, 0, 0, 0, 0, 0, 0, 0, 0, 0, 0, 0, 0, 0, 0, 0, 0, 0, 0, 0, 0, 0, 0, 0, 0, 0, 0, 0, 0, 0, 0, 0, 0, 0, 0, 0, 0, 0, 0, 0, 0, 0, 0, 0, 0, 0, 0, 0, 0, 0, 0, 0, 0, 0, 0, 0, 0, 0, 0, 0, 0, 0, 0, 0, 0, 0, 0, 0, 0, 0, 0, 0, 0, 0, 0, 0, 0, 0, 0, 0, 0, 0, 0, 0, 0, 0]
/-- a package variable's row of numbers. -/
def RowIs (w : World) (g : Nat) (k : IntKind) (l : List Int) : Prop := ∃ arr t fz, w.heap[g]? = some (.cells arr t fz) ∧ arr.toList = l.map (Value.int k)
/-- what holds where all begins. -/
structure Inv (u : TypeId) (w : World) : Prop where
  r0 : RowIs w 0 .u8 l0
  e7 : ∃ t fz a o, w.heap[7]? = some (.cells #[.iface u (.pointer (some ⟨a, o, none⟩))] t fz) ∧ a < w.heap.size
  c2 : ∃ m, w.cell? ⟨2, 0, none⟩ = some (.int .i64 m)
  size : 11 ≤ w.heap.size
theorem var_row {P : Program} {w : World} {n : String} {g : Nat} {cs : Array Value} {k : IntKind} {l : List Int} (hg : P.globalNamed n = some g) (h : w.var? P n = some cs) (hc : cs.toList = l.map (Value.int k)) : RowIs w g k l := by
  simp only [World.var?, hg, Option.bind_some] at h
  split at h <;> simp_all [RowIs]
abbrev laid : List (String × DataW Unit) := [("math/bits.deBruijn32tab", Rows.laid_math_bits_deBruijn32tab), ("math/bits.deBruijn64tab", Rows.laid_math_bits_deBruijn64tab), ("internal/strconv.uint64pow10", Rows.laid_internal_strconv_uint64pow10), ("unicode/utf8.acceptRanges", Rows.laid_unicode_utf8_acceptRanges), ("strconv.ErrRange", Rows.laid_strconv_ErrRange), ("strconv.ErrSyntax", Rows.laid_strconv_ErrSyntax), ("unicode.White_Space", Rows.laid_unicode_White_Space), ("strings.asciiSpace", Rows.laid_strings_asciiSpace), ("unicode/utf8.first", Rows.laid_unicode_utf8_first)]
theorem trod_iface_inv {H : Type} {enc : TypeId × Value → H} {P : Program} {w : World} {base : Nat} {spare : Nat → Bool} {fuel : Nat} {t : TypeId} {ms : Array (String × TypeId)} (ht : P.underlying t = some (.interface ms)) {cs : List Value} {n : String} {d : DataW H} {q : List MemPlace} (h : DataW.trod enc P w base spare false fuel t cs = some (.iface n d, q)) :
    ∃ u v fuel' q', cs = [.iface u v] ∧ P.typeName? 3 u = some n ∧ DataW.trod enc P w base spare false fuel' u v.cells.toList = some (d, q') := by
  cases fuel with
  | zero => simp [DataW.trod] at h
  | succ m =>
    unfold DataW.trod at h
    rw [ht] at h
    split at h <;> (try (simp_all; done))
    rename_i u v _
    cases hn : P.typeName? 3 u with
    | none => rw [hn] at h; simp at h
    | some name =>
      rw [hn] at h
      simp only [Option.map_eq_some_iff, Prod.mk.injEq, DataW.iface.injEq] at h
      obtain ⟨x, hx, ⟨rfl, rfl⟩, rfl⟩ := h
      exact ⟨_, _, m, x.2, rfl, hn, hx⟩
theorem trod_ptr_inv {H : Type} {enc : TypeId × Value → H} {P : Program} {w : World} {base : Nat} {spare : Nat → Bool} {held : Bool} {fuel : Nat} {t : TypeId} {cs : List Value} {d : DataW H} {q : List MemPlace} (h : DataW.trod enc P w base spare held fuel t cs = some (.ptr d, q)) :
    ∃ e, P.underlying t = some (.pointer e) := by
  cases fuel with
  | zero => simp [DataW.trod] at h
  | succ m =>
    unfold DataW.trod at h
    cases ht : P.underlying t with
    | none => rw [ht] at h; simp at h
    | some u =>
      rw [ht] at h
      cases u
      case pointer e => exact ⟨e, rfl⟩
      all_goals
        exfalso
        split at h <;> simp_all
      all_goals
        (repeat' (split at h)) <;> (try simp [Option.map_eq_some_iff, Option.bind_eq_some_iff] at h)
      all_goals
        try (obtain ⟨_, _, h⟩ := h; split at h <;> simp at h)
theorem trod_nil_lit {H : Type} {enc : TypeId × Value → H} {P : Program} {w : World} {base : Nat} {spare : Nat → Bool} {held : Bool} {fuel : Nat} {t : TypeId} {l : Lit} {q : List MemPlace} (h : DataW.trod enc P w base spare held fuel t [] = some (.lit l, q)) : False := by
  cases fuel with
  | zero => simp [DataW.trod] at h
  | succ m =>
    unfold DataW.trod at h
    cases ht : P.underlying t with
    | none => rw [ht] at h; simp at h
    | some u =>
      rw [ht] at h
      cases u <;> simp at h
theorem trod_agg1 {H : Type} {enc : TypeId × Value → H} {P : Program} {w : World} {base : Nat} {spare : Nat → Bool} {held : Bool} {fuel : Nat} {t : TypeId} {l : Lit} {q : List MemPlace} (h : DataW.trod enc P w base spare held fuel t [] = some (.agg [.lit l], q)) : False := by
  cases fuel with
  | zero => simp [DataW.trod] at h
  | succ m =>
    unfold DataW.trod at h
    cases ht : P.underlying t with
    | none => rw [ht] at h; simp at h
    | some u =>
      rw [ht] at h
      cases u <;> simp at h
      case array n e =>
        obtain ⟨_, xs, h1, h2, _⟩ := h
        cases n with
        | zero => simp at h1; subst h1; simp at h2
        | succ n =>
          rw [List.range_succ_eq_map] at h1
          simp only [List.mapM_cons, Option.bind_eq_bind, Option.bind_eq_some_iff] at h1
          obtain ⟨⟨x, q1⟩, h3, ys, h4, h5⟩ := h1
          simp only [pure, Option.some.injEq] at h5
          subst h5
          simp only [List.map_cons, List.cons.injEq] at h2
          obtain ⟨y, hx, _⟩ := h2
          cases hx
          exact trod_nil_lit (by simpa using h3)
      case struct fs =>
        obtain ⟨_, xs, h1, h2, _⟩ := h
        cases hf : fs.toList with
        | nil => rw [hf] at h1; simp at h1; subst h1; simp at h2
        | cons f fs' =>
          rw [hf] at h1
          simp only [List.mapM_cons, Option.bind_eq_bind, Option.bind_eq_some_iff] at h1
          obtain ⟨⟨x, q1⟩, h3, ys, h4, h5⟩ := h1
          simp only [pure, Option.some.injEq] at h5
          subst h5
          simp only [List.map_cons, List.cons.injEq] at h2
          obtain ⟨y, hx, _⟩ := h2
          cases hx
          exact trod_nil_lit (by simpa using h3)
theorem okWide_ptr {P : Program} {w : World} {r : Reach} {base : Nat} {t e : TypeId} {v : Value} {a : Addr} (ht : P.underlying t = some (.pointer e)) (h : Value.okWide P w r base t v) (hc : v.cells.toList = [.pointer (some a)]) : v = .pointer (some a) := by
  unfold Value.okWide at h
  rw [ht] at h
  simp only at h
  cases v <;> first | (simpa [Value.cells] using hc) | skip
  unfold Cell.okWide at h
  rw [ht] at h
  simp only at h
  unfold Cell.ok at h
  rw [ht] at h
  simp at h
set_option maxRecDepth 100000 in
theorem inv_of {w : World} (h : laidMetH Tryz.prog laid w) (hs : w.ShapedOpen Tryz.prog) : ∃ u, Inv u w := by
  rw [MakeChecks.laidMetH_plain _ _ _ (by kernel_rfl)] at h
  obtain ⟨ps, ⟨g1, t1, cs1, f1, p1, q1, hg1, ht1, hv1, hd1, ⟨g2, t2, cs2, f2, p2, q2, hg2, ht2, hv2, hd2, ⟨g3, t3, cs3, f3, p3, q3, hg3, ht3, hv3, hd3, ⟨g4, t4, cs4, f4, p4, q4, hg4, ht4, hv4, hd4, ⟨g5, t5, cs5, f5, p5, q5, hg5, ht5, hv5, hd5,
    ⟨g6, t6, cs6, f6, p6, q6, hg6, ht6, hv6, hd6, ⟨g7, t7, cs7, f7, p7, q7, hg7, ht7, hv7, hd7, ⟨g8, t8, cs8, f8, p8, q8, hg8, ht8, hv8, hd8, _⟩, e7⟩, e6⟩, e5⟩, e4⟩, e3⟩, e2⟩, e1⟩, hnd, hw⟩ := h
  obtain rfl := Option.some.inj ((show Tryz.prog.globalNamed "strings.asciiSpace" = some 0 by kernel_rfl).symm.trans hg8)
  obtain rfl := Option.some.inj ((show (Tryz.prog.globals[0]?).map (·.type) = some 75 by kernel_rfl).symm.trans ht8)
  obtain rfl := Option.some.inj ((show Tryz.prog.globalNamed "strconv.ErrRange" = some 7 by kernel_rfl).symm.trans hg5)
  obtain rfl := Option.some.inj ((show (Tryz.prog.globals[7]?).map (·.type) = some 93 by kernel_rfl).symm.trans ht5)
  have h7 : ((Tryz.prog.underlying 93).bind fun d => match d with | .interface ms => some ms | _ => none).isSome = true := by kernel_rfl
  obtain ⟨ms, hms⟩ := Option.isSome_iff_exists.1 h7
  have h93 : Tryz.prog.underlying 93 = some (.interface ms) := by
    cases hu : Tryz.prog.underlying 93 with
    | none => rw [hu] at hms; cases hms
    | some d => rw [hu] at hms; cases d <;> simp at hms; subst hms; rfl
  obtain ⟨u, v, f', q', hcs, hn, hp⟩ := trod_iface_inv h93 hd5
  obtain ⟨e, h199⟩ := trod_ptr_inv hp
  have hptr : ∃ a cs', v.cells.toList = [.pointer (some a)] ∧ w.cells? 0 a (Tryz.prog.cellsOf e) = some cs' := by
    rcases DataW.trod_pointer h199 hp with ⟨_, h2⟩ | ⟨a, cs', y, n, _, h2, _, h3, _⟩
    · cases h2
    · exact ⟨a, cs', h2, h3⟩
  obtain ⟨a, cs', hva, hca⟩ := hptr
  have heap7 : ∃ t fz, w.heap[7]? = some (.cells cs5 t fz) := by
    simp only [World.var?, hg5, Option.bind_some] at hv5
    split at hv5 <;> simp_all
  obtain ⟨t, fz, hh7⟩ := heap7
  have hcell : w.cell? ⟨7, 0, none⟩ = some (.iface u v) := by
    unfold World.cell?
    rw [hh7]
    have : cs5 = #[.iface u v] := by apply Array.ext'; simpa using hcs
    subst this
    rfl
  have hin : MemPlace.cell 7 0 ∈ ps := by
    rw [e1]
    have : cs5.size = 1 := by rw [← Array.length_toList, hcs]; rfl
    rw [e2, e3, e4, e5, this]
    simp [MemPlace.row]
  have hv := okWide_ptr h199 ((hw 7 0 hin).2 _ _ hcell) hva
  subst hv
  have hce : 0 < Tryz.prog.cellsOf e := by
    rcases DataW.trod_pointer h199 hp with ⟨_, h2⟩ | ⟨a, cs', y, n, _, _, h1, h3, h4⟩
    · cases h2
    · rcases Nat.eq_zero_or_pos (Tryz.prog.cellsOf e) with h0 | h0
      · exfalso
        simp only [Prod.mk.injEq, DataW.ptr.injEq] at h1
        rw [h0] at h3
        have : cs' = [] := by
          unfold World.cells? at h3
          simpa using h3.symm
        subst this
        obtain ⟨y1, y2⟩ := y
        simp only at h1
        obtain ⟨rfl, _⟩ := h1
        exact trod_agg1 h4
      · exact h0
  have hblk : a.spot = none ∧ a.block < w.heap.size := by
    unfold World.cells? at hca
    simp only [Nat.zero_le, if_true] at hca
    have : ∃ x, w.cell? (a.add 0) = some x := by
      cases hx : w.cell? (a.add 0) with
      | none =>
        obtain ⟨n, hn⟩ : ∃ n, Tryz.prog.cellsOf e = n + 1 := ⟨_, (Nat.succ_pred_eq_of_pos hce).symm⟩
        rw [hn, List.range_succ_eq_map] at hca
        simp [hx] at hca
      | some x => exact ⟨x, rfl⟩
    obtain ⟨x, hx⟩ := this
    unfold World.cell? at hx
    split at hx
    · rename_i hb
      split at hx
      · cases hx
      · rename_i hsp
        exact ⟨by cases hs : a.spot with
          | none => rfl
          | some k => exact (hsp (by simp [Addr.add, hs])).elim, (Array.getElem?_eq_some_iff.1 hb).1⟩
    · cases hx
  obtain ⟨ab, ao, asp⟩ := a
  simp only at hblk
  obtain ⟨rfl, hlt⟩ := hblk
  refine ⟨u, var_row hg8 hv8 (laid_ints (ns := l0) (show Tryz.prog.underlying 75 = some (.array 256 5) by kernel_rfl) (show Tryz.prog.underlying 5 = some (.int .u8) by kernel_rfl) (by kernel_rfl) (by kernel_rfl) hd8), ⟨t, fz, ab, ao, ?_, hlt⟩, ?_, ?_⟩
  · have : cs5 = #[.iface u (.pointer (some ⟨ab, ao, none⟩))] := by apply Array.ext'; simpa using hcs
    rw [← this]; exact hh7
  · exact cell_of_shapedOpen_int hs (t := 3) (zero := #[.int .i64 0]) (of_decide_eq_true (by kernel_rfl)) (by kernel_rfl) rfl (by kernel_rfl) (by kernel_rfl) (by kernel_rfl)
  · have h6 : (((begin Tryz.prog (fun _ _ => 0) default).world.heap[10]?).bind Obj.row?).isSome = true := by kernel_rfl
    obtain ⟨p, hp⟩ := Option.isSome_iff_exists.1 h6
    obtain ⟨cs, hh, _⟩ := hs.1 10 p.1 p.2 (of_decide_eq_true (by kernel_rfl)) hp
    exact (Array.getElem?_eq_some_iff.1 hh).1
theorem Inv.later {u : TypeId} {w w' : World} (h : Inv u w) (hB : Below w.heap.size w w') : Inv u w' := by
  have key : ∀ b, b < w.heap.size → w'.heap[b]? = w.heap[b]? := fun b hb => hB.block b hb
  have hs := h.size
  refine ⟨?_, ?_, ?_, Nat.le_trans hs hB.size⟩
  · obtain ⟨arr, t, fz, h1, h2⟩ := h.r0
    exact ⟨arr, t, fz, by rw [key _ (by omega)]; exact h1, h2⟩
  · obtain ⟨t, fz, a, o, h1, h2⟩ := h.e7
    exact ⟨t, fz, a, o, by rw [key _ (by omega)]; exact h1, Nat.lt_of_lt_of_le h2 hB.size⟩
  · obtain ⟨m, hm⟩ := h.c2
    refine ⟨m, ?_⟩
    unfold World.cell? at hm ⊢
    simp only at hm ⊢
    rw [key 2 (by omega)]; exact hm

/-! the small machine's first heap -/
noncomputable def ro (k : IntKind) (l : List Int) : Ob := .ro (Tr.nil.setL 0 (l.map (V.int k))) 0
noncomputable def h0 (u : TypeId) : Hp := ⟨(Tr.nil.set 0 (ro .u8 l0)).set 7 (.ro (Tr.nil.set 0 (.iface u (.ptr 11 0))) 0), 12, big⟩
def rho0 (a o : Nat) : Rho := fun b => if b < 11 then some ⟨b, 0, 0⟩ else if b = 11 then some ⟨a, o, 0⟩ else none
theorem h0_get (u : TypeId) (b : Nat) : (h0 u).t.get b = if 7 = b then some (.ro (Tr.nil.set 0 (.iface u (.ptr 11 0))) 0) else if 0 = b then some (ro .u8 l0) else none := by
  unfold h0
  rw [Tr.get_set, Tr.get_set, Tr.get_nil]
theorem roR [Orc] {P : Program} {ρ : Rho} {w : World} {g : Nat} {k : IntKind} {l : List Int} (h : RowIs w g k l) : ObR P ρ w ⟨g, 0, 0⟩ (ro k l) := by
  obtain ⟨arr, t, fz, h1, h2⟩ := h
  refine ⟨arr, fz, t, h1, fun i v hv => ?_⟩
  rw [Tr.get_setL, Tr.get_nil] at hv
  split at hv
  · rw [Nat.sub_zero, List.getElem?_map] at hv
    cases hl : l[i]? with
    | none => rw [hl] at hv; cases hv
    | some n =>
      rw [hl] at hv
      simp only [Option.map_some, Option.some.injEq] at hv
      subst hv
      refine ⟨.int k n, ?_, .int k n⟩
      show arr[0 + i]? = _
      rw [Nat.zero_add, ← Array.getElem?_toList, h2, List.getElem?_map, hl]; rfl
  · cases hv
theorem begins [O : Orc] [OrcOk Tryz.prog] {u : TypeId} (hn : Orc.ng = 11) (hi : ∀ w, Orc.inv w → Inv u w) {w : World} (h : Orc.inv w) : Begins Tryz.prog (h0 u) w := by
  have H := hi w h
  obtain ⟨t7, fz7, a, o, e7, ha⟩ := H.e7
  have hsz := H.size
  refine ⟨rho0 a o, R.start ?_ ?_ ?_ ?_ ?_ h⟩
  · intro b l hb
    have hst : (h0 u).still b := by
      unfold Hp.still
      rw [h0_get]
      unfold ro
      repeat (split; · exact .inr ⟨_, _, rfl⟩)
      exact .inl rfl
    unfold rho0 at hb
    split at hb
    · cases hb
      exact ⟨by show _ < 12; omega, hst, .inr (by simp only; omega)⟩
    · split at hb
      · cases hb
        exact ⟨by show _ < 12; omega, hst, .inr ha⟩
      · cases hb
  · intro b l ob hb ho
    rw [h0_get] at ho
    split at ho
    · rename_i e; subst e; cases ho
      unfold rho0 at hb
      rw [if_pos (by decide)] at hb
      cases hb
      refine ⟨_, _, _, e7, fun i v hv => ?_⟩
      rw [Tr.get_set, Tr.get_nil] at hv
      split at hv
      · rename_i hi0; subst hi0
        simp only [Option.some.injEq] at hv; subst hv
        refine ⟨.iface u (.pointer (some ⟨a, o, none⟩)), rfl, .iface u ?_⟩
        have := Rel.ptr (ρ := rho0 a o) (b := 11) (l := ⟨a, o, 0⟩) 0 (by unfold rho0; rw [if_neg (by decide), if_pos rfl])
        exact this
      · cases hv
    split at ho
    · rename_i e; subst e; cases ho
      unfold rho0 at hb
      rw [if_pos (by decide)] at hb
      cases hb
      exact roR H.r0
    · cases ho
  · intro b b' l l' hb hb' hne ha1 ha2
    have al : ∀ b, (h0 u).alive b → b < 11 := by
      rintro b ⟨x, h1, _⟩
      rw [h0_get] at h1
      split at h1
      · omega
      split at h1
      · omega
      · cases h1
    have k1 := al b ha1
    have k2 := al b' ha2
    unfold rho0 at hb hb'
    rw [if_pos k1] at hb
    rw [if_pos k2] at hb'
    cases hb; cases hb'
    exact hne
  · intro b hb
    rw [h0_get]
    have : 12 ≤ b := hb
    rw [if_neg (by omega), if_neg (by omega)]
  · intro g hg
    rw [hn] at hg
    exact ⟨0, by unfold rho0; rw [if_pos hg]⟩

/-! functions that are answered at once -/
theorem contains_ok (u : TypeId) : ContainsC Tryz.prog 29 (Inv u) := fun s sub w h hs => by
  obtain ⟨m, hm⟩ := h.c2
  exact Tryz.strings_Contains s sub m w hs hm
theorem index_ok (u : TypeId) : IndexC Tryz.prog 53 (Inv u) := fun s sub w h hs => by
  obtain ⟨m, hm⟩ := h.c2
  exact Tryz.strings_Index s sub m w hs hm
theorem indexByte_ok : IndexByteC Tryz.prog 80 := fun s c w => Tryz.strings_IndexByte s c w
theorem containsAny_ok : ContainsAnyC Tryz.prog 83 := fun s chars w h1 h2 h3 h4 => Tryz.strings_ContainsAny (fun w => by
  have : (Tryz.prog.info? 127).bind (·.zero) = some (.agg (Array.replicate 256 (.bool false))) := by kernel_rfl
  unfold zeroValue
  cases hi : Tryz.prog.info? 127 with
  | none => rw [hi] at this; cases this
  | some i =>
    rw [hi] at this
    simp only [Option.bind_some] at this
    simp [typeInfo_run hi, this, Result.andThen_ok]) s chars w h1 h2 h3 h4
noncomputable def fnA (f : FuncId) (vs : List V) (h : Hp) : Option (V × Hp) := bif Nat.beq f 141 then sameF vs h else bif Nat.beq f 29 then containsF vs h else bif Nat.beq f 53 then indexF vs h else bif Nat.beq f 80 then indexByteF vs h else bif Nat.beq f 83 then containsAnyF vs h else none
end Go.LN
