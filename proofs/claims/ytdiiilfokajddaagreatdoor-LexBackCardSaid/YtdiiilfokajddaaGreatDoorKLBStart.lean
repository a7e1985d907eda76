/- LexBack: where it begins: the listed package variables; the contracts of the library. -/
import Derived.Test.YtdiiilfokajddaaGreatDoorRows
import Derived.Test.YtdiiilfokajddaaGreatDoorChecked
import Derived.Test.YtdiiilfokajddaaGreatDoorKLexShelf
import Derived.Test.YtdiiilfokajddaaGreatDoorKLBShelf
import Derived.Test.YtdiiilfokajddaaGreatDoorKLBb
import Derived.Test.YtdiiilfokajddaaGreatDoorKMidZ
import Derived.LaidMore
import Derived.FnData
import Derived.Stop.Joined
import Derived.OpenShut
import Derived.Shelf.Vars
import Derived.Test.YtdiiilfokajddaaGreatDoorKMidOO
set_option linter.all false
set_option warn.classDefReducibility false
noncomputable section
section
open Go Go.Mid Go.Proofs Go.Proofs.YtdiiilfokajddaaGreatDoor Go.ChangeShapes Go.WideShapes Go.RowKit
open Go Go.Mid Go.Proofs Go.RowKit
open Go.LX (RowIs wt0)
set_option maxRecDepth 100000
namespace Go.LB
section
theorem laid_ints {H : Type} {enc : TypeId × Value → H} {P : Program} {w : World} {base : Nat} {spare : Nat → Bool} {held : Bool} {fuel t e n : Nat} {k : IntKind} (ht : P.underlying t = some (.array n e)) (he : P.underlying e = some (.int k)) (hc : P.cellsOf e = 1) (hct : P.cellsOf t = n)
 {cs : List Value} {ns : List Int} {q : List MemPlace} (h : DataW.trod enc P w base spare held fuel t cs = some (.agg (ns.map fun i => .lit (.int k i)), q)) : cs = ns.map (Value.int k):=by
 obtain ⟨xs, m, rfl, hx, hlen, hn, hel⟩:=DataW.trod_array ht h
 simp only [Prod.mk.injEq, DataW.agg.injEq] at hx
 have hl : ns.length = n:=by have:=congrArg List.length hx.1; simpa [hn] using this
 apply List.ext_getElem?
 intro i
 rcases Nat.lt_or_ge i n with hi | hi
 ·have h1 := hel i hi
  rw [hc, Nat.mul_one, List.getElem?_eq_getElem (by omega)] at h1
  obtain ⟨j, e1, e2, _⟩:=DataW.trod_int he h1
  have h2 : (ns.map fun i => (DataW.lit (.int k i) : DataW H))[i]? = (xs.map (·.1))[i]?:=by rw [hx.1]
  rw [List.getElem?_map, List.getElem?_map, List.getElem?_eq_getElem (show i < xs.length by omega), e2, List.getElem?_eq_getElem (show i < ns.length by omega)] at h2
  simp only [Option.map_some, Option.some.injEq, DataW.lit.injEq, Lit.int.injEq, true_and] at h2
  have h3 : cs[i]? = some (.int k j):=by
   have:=congrArg (fun l => l[0]?) e1
   simp only [List.getElem?_take, List.getElem?_drop, Nat.add_zero] at this
   simpa using this
  rw [h3, List.getElem?_map, List.getElem?_eq_getElem (show i < ns.length by omega), h2]; rfl
 ·rw [List.getElem?_eq_none (by omega), List.getElem?_eq_none (by simp; omega)]
theorem var_row {P : Program} {w : World} {n : String} {g : Nat} {cs : Array Value} {k : IntKind} {l : List Int} (hg : P.globalNamed n = some g) (h : w.var? P n = some cs) (hc : cs.toList = l.map (Value.int k)) : RowIs w g k l:=by
 simp only [World.var?, hg, Option.bind_some] at h
 split at h <;> simp_all [RowIs]
abbrev laid : List (String × DataW Unit):=[("math/bits.deBruijn32tab", Rows.laid_math_bits_deBruijn32tab), ("math/bits.deBruijn64tab", Rows.laid_math_bits_deBruijn64tab), ("internal/strconv.uint64pow10", Rows.laid_internal_strconv_uint64pow10), ("unicode/utf8.acceptRanges", Rows.laid_unicode_utf8_acceptRanges), ("strconv.ErrRange", Rows.laid_strconv_ErrRange), ("strconv.ErrSyntax", Rows.laid_strconv_ErrSyntax), ("unicode.White_Space", Rows.laid_unicode_White_Space), ("strings.asciiSpace", Rows.laid_strings_asciiSpace), ("unicode/utf8.first", Rows.laid_unicode_utf8_first)]
theorem trod_iface_inv {H : Type} {enc : TypeId × Value → H} {P : Program} {w : World} {base : Nat} {spare : Nat → Bool} {fuel : Nat} {t : TypeId} {ms : Array (String × TypeId)} (ht : P.underlying t = some (.interface ms)) {cs : List Value} {n : String} {d : DataW H} {q : List MemPlace} (h : DataW.trod enc P w base spare false fuel t cs = some (.iface n d, q)) :
 ∃ u v fuel' q', cs = [.iface u v] ∧ P.typeName? 3 u = some n ∧ DataW.trod enc P w base spare false fuel' u v.cells.toList = some (d, q'):=by
 cases fuel with
 | zero => simp [DataW.trod] at h
 | succ m =>
  unfold DataW.trod at h
  rw [ht] at h
  split at h <;> (try (simp_all; done))
  rename_i u v _
  cases hn : P.typeName? 3 u with
  | none => rw [hn] at h; simp at h
  | some name =>
   rw [hn] at h
   simp only [Option.map_eq_some_iff, Prod.mk.injEq, DataW.iface.injEq] at h
   obtain ⟨x, hx, ⟨rfl, rfl⟩, rfl⟩:=h
   exact ⟨_, _, m, x.2, rfl, hn, hx⟩
theorem err_of {w : World} {n : String} {g : Nat} {cs : Array Value} {u : TypeId} {v : Value} (hg : Tryz.prog.globalNamed n = some g) (h : w.var? Tryz.prog n = some cs) (hc : cs.toList = [.iface u v]) : w.cell? ⟨g, 0, none⟩ = some (.iface u v):=by
 obtain ⟨t, fz, hh⟩ : ∃ t fz, w.heap[g]? = some (.cells cs t fz):=by
  simp only [World.var?, hg, Option.bind_some] at h
  split at h <;> simp_all
 have : cs = #[.iface u v]:=by apply Array.ext'; simpa using hc
 subst this
 unfold World.cell?
 rw [hh]
 rfl
set_option maxRecDepth 100000 in
theorem inv_of {w : World} (h : laidMetH Tryz.prog laid w) (hs : w.ShapedOpen Tryz.prog) : Inv w:=by
 rw [MakeChecks.laidMetH_plain _ _ _ (by kernel_rfl)] at h
 obtain ⟨ps, ⟨g1, t1, cs1, f1, p1, q1, hg1, ht1, hv1, hd1, ⟨g2, t2, cs2, f2, p2, q2, hg2, ht2, hv2, hd2, ⟨g3, t3, cs3, f3, p3, q3, hg3, ht3, hv3, hd3, ⟨g4, t4, cs4, f4, p4, q4, hg4, ht4, hv4, hd4, ⟨g5, t5, cs5, f5, p5, q5, hg5, ht5, hv5, hd5,
  ⟨g6, t6, cs6, f6, p6, q6, hg6, ht6, hv6, hd6, ⟨g7, t7, cs7, f7, p7, q7, hg7, ht7, hv7, hd7, ⟨g8, t8, cs8, f8, p8, q8, hg8, ht8, hv8, hd8, _⟩, e7⟩, e6⟩, e5⟩, e4⟩, e3⟩, e2⟩, e1⟩, hnd, hw⟩:=h
 obtain rfl:=Option.some.inj ((show Tryz.prog.globalNamed "strings.asciiSpace" = some 0 by kernel_rfl).symm.trans hg8)
 obtain rfl:=Option.some.inj ((show (Tryz.prog.globals[0]?).map (·.type) = some 75 by kernel_rfl).symm.trans ht8)
 obtain rfl:=Option.some.inj ((show Tryz.prog.globalNamed "strconv.ErrRange" = some 7 by kernel_rfl).symm.trans hg5)
 obtain rfl:=Option.some.inj ((show (Tryz.prog.globals[7]?).map (·.type) = some 93 by kernel_rfl).symm.trans ht5)
 obtain rfl:=Option.some.inj ((show Tryz.prog.globalNamed "strconv.ErrSyntax" = some 6 by kernel_rfl).symm.trans hg6)
 obtain rfl:=Option.some.inj ((show (Tryz.prog.globals[6]?).map (·.type) = some 93 by kernel_rfl).symm.trans ht6)
 obtain rfl:=Option.some.inj ((show Tryz.prog.globalNamed "internal/strconv.uint64pow10" = some 3 by kernel_rfl).symm.trans hg3)
 obtain rfl:=Option.some.inj ((show (Tryz.prog.globals[3]?).map (·.type) = some 182 by kernel_rfl).symm.trans ht3)
 have h7 : ((Tryz.prog.underlying 93).bind fun d => match d with | .interface ms => some ms | _ => none).isSome = true:=by kernel_rfl
 obtain ⟨ms, hms⟩:=Option.isSome_iff_exists.1 h7
 have h93 : Tryz.prog.underlying 93 = some (.interface ms):=by
  cases hu : Tryz.prog.underlying 93 with
  | none => rw [hu] at hms; cases hms
  | some d => rw [hu] at hms; cases d <;> simp at hms; subst hms; rfl
 obtain ⟨u5, v5, _, _, hc5, _, _⟩:=trod_iface_inv h93 hd5
 obtain ⟨u6, v6, _, _, hc6, _, _⟩:=trod_iface_inv h93 hd6
 refine ⟨var_row hg8 hv8 (laid_ints (ns:=wt0) (show Tryz.prog.underlying 75 = some (.array 256 5) by kernel_rfl) (show Tryz.prog.underlying 5 = some (.int .u8) by kernel_rfl) (by kernel_rfl) (by kernel_rfl) hd8), ?_, ⟨_, err_of hg6 hv6 hc6, .inr ⟨_, _, rfl⟩⟩, ⟨_, err_of hg5 hv5 hc5, .inr ⟨_, _, rfl⟩⟩, var_row hg3 hv3 (laid_ints (ns:=p10) (show Tryz.prog.underlying 182 = some (.array 20 122) by kernel_rfl) (show Tryz.prog.underlying 122 = some (.int .u64) by kernel_rfl) (by kernel_rfl) (by kernel_rfl) hd3), ?_⟩
 ·exact cell_of_shapedOpen_int hs (t := 3) (zero := #[.int .i64 0]) (of_decide_eq_true (by kernel_rfl)) (by kernel_rfl) rfl (by kernel_rfl) (by kernel_rfl) (by kernel_rfl)
 ·have h6 : (((begin Tryz.prog (fun _ _ => 0) default).world.heap[10]?).bind Obj.row?).isSome = true := by kernel_rfl
  obtain ⟨p, hp⟩:=Option.isSome_iff_exists.1 h6
  obtain ⟨cs, hh, _⟩:=hs.1 10 p.1 p.2 (of_decide_eq_true (by kernel_rfl)) hp
  exact (Array.getElem?_eq_some_iff.1 hh).1
theorem Inv.later {w w' : World} (h : Inv w) (hB : Below w.heap.size w w') : Inv w':=by
 have key : ∀ b, b < w.heap.size → w'.heap[b]? = w.heap[b]?:=fun b hb => hB.block b hb
 have hs:=h.size
 have cell : ∀ {g : Nat} {v : Value}, g < w.heap.size → w.cell? ⟨g, 0, none⟩ = some v → w'.cell? ⟨g, 0, none⟩ = some v := fun {g v} hg hm => by
  unfold World.cell? at hm ⊢
  simp only at hm ⊢
  rw [key g hg]; exact hm
 refine ⟨?_, ?_, ?_, ?_, ?_, Nat.le_trans hs hB.size⟩
 ·obtain ⟨arr, t, fz, h1, h2⟩ := h.r0
  exact ⟨arr, t, fz, by rw [key _ (by omega)]; exact h1, h2⟩
 ·obtain ⟨m, hm⟩ := h.c2
  exact ⟨m, cell (by omega) hm⟩
 ·obtain ⟨e, hm, h2⟩ := h.e6
  exact ⟨e, cell (by omega) hm, h2⟩
 ·obtain ⟨e, hm, h2⟩ := h.e7
  exact ⟨e, cell (by omega) hm, h2⟩
 ·obtain ⟨arr, t, fz, h1, h2⟩ := h.p3
  exact ⟨arr, t, fz, by rw [key _ (by omega)]; exact h1, h2⟩
def ro (k : IntKind) (l : List Int) : Ob:=.ro (Tr.nil.setL 0 (l.map (V.int k))) 0
def h0 : Hp:=⟨Tr.nil.set 0 (ro .u8 wt0), 11, big⟩
def rho0 : Rho:=fun b => if b < 11 then some ⟨b, 0, 0⟩ else none
theorem h0_get (b : Nat) : h0.t.get b = if 0 = b then some (ro .u8 wt0) else none:=by
 unfold h0
 rw [Tr.get_set, Tr.get_nil]
theorem roR [Orc] {P : Program} {ρ : Rho} {w : World} {g : Nat} {k : IntKind} {l : List Int} (h : RowIs w g k l) : ObR P ρ w ⟨g, 0, 0⟩ (ro k l):=by
 obtain ⟨arr, t, fz, h1, h2⟩:=h
 refine ⟨arr, fz, t, h1, fun i v hv => ?_⟩
 rw [Tr.get_setL, Tr.get_nil] at hv
 split at hv
 ·rw [Nat.sub_zero, List.getElem?_map] at hv
  cases hl : l[i]? with
  | none => rw [hl] at hv; cases hv
  | some n =>
   rw [hl] at hv
   simp only [Option.map_some, Option.some.injEq] at hv
   subst hv
   refine ⟨.int k n, ?_, .int k n⟩
   show arr[0 + i]? = _
   rw [Nat.zero_add, ← Array.getElem?_toList, h2, List.getElem?_map, hl]; rfl
 ·cases hv
theorem begins [O : Orc] [OrcOk Tryz.prog] (hn : Orc.ng = 11) (hi : ∀ w, Orc.inv w → Inv w) {w : World} (h : Orc.inv w) : Begins Tryz.prog h0 w:=by
 have H:=hi w h
 have hsz:=H.size
 refine ⟨rho0, R.start ?_ ?_ ?_ ?_ ?_ h⟩
 ·intro b l hb
  have hst : h0.still b:=by
   unfold Hp.still
   rw [h0_get]
   unfold ro
   split
   ·exact .inr ⟨_, _, rfl⟩
   ·exact .inl rfl
  unfold rho0 at hb
  split at hb <;> cases hb
  rename_i hlt
  exact ⟨hlt, hst, .inr (by simp only; omega)⟩
 ·intro b l ob hb ho
  rw [h0_get] at ho
  split at ho
  ·rename_i e; subst e; cases ho
   unfold rho0 at hb
   rw [if_pos (by decide)] at hb
   cases hb
   exact roR H.r0
  ·cases ho
 ·intro b b' l l' hb hb' hne _ _
  unfold rho0 at hb hb'
  split at hb <;> cases hb
  split at hb' <;> cases hb'
  exact hne
 ·intro b hb
  have hb : 11 ≤ b:=hb
  rw [h0_get, if_neg (by omega)]
 ·intro g hg
  rw [hn] at hg
  exact ⟨0, by unfold rho0; rw [if_pos hg]⟩
end
section
theorem contains_ok : ContainsC Tryz.prog 29 Inv := fun s sub w h hs => by
 obtain ⟨m, hm⟩:=h.c2
 exact Tryz.strings_Contains s sub m w hs hm
theorem index_ok : IndexC Tryz.prog 53 Inv := fun s sub w h hs => by
 obtain ⟨m, hm⟩:=h.c2
 exact Tryz.strings_Index s sub m w hs hm
theorem indexByte_ok : IndexByteC Tryz.prog 80:=fun s c w => Tryz.strings_IndexByte s c w
theorem containsAny_ok : ContainsAnyC Tryz.prog 83 := fun s chars w h1 h2 h3 h4 => Tryz.strings_ContainsAny (fun w => by
 have : (Tryz.prog.info? 127).bind (·.zero) = some (.agg (Array.replicate 256 (.bool false))):=by kernel_rfl
 unfold zeroValue
 cases hi : Tryz.prog.info? 127 with
 | none => rw [hi] at this; cases this
 | some i =>
  rw [hi] at this
  simp only [Option.bind_some] at this
  simp [typeInfo_run hi, this, Result.andThen_ok]) s chars w h1 h2 h3 h4
theorem itr_ok (g : FuncId) (it : It) (h : itr0 g = some it) : It.Ok Tryz.prog g it:=by
 unfold itr0 at h
 cases h
theorem opsC (fn : FuncId → List V → Hp → Option (V × Hp)) : @OpOk Tryz.prog (orc fn Inv):=lxops _ _ _ _
def fnC (f : FuncId) (vs : List V) (h : Hp) : Option (V × Hp):=bif Nat.beq f 141 then sameF vs h else bif Nat.beq f 29 then containsF vs h else bif Nat.beq f 53 then indexF vs h else bif Nat.beq f 80 then indexByteF vs h else bif Nat.beq f 83 then containsAnyF vs h else none
theorem fnC_cases {f : FuncId} {vs : List V} {h : Hp} {p : V × Hp} (e : fnC f vs h = some p) : (f = 141 ∧ sameF vs h = some p) ∨ (f = 29 ∧ containsF vs h = some p) ∨ (f = 53 ∧ indexF vs h = some p) ∨ (f = 80 ∧ indexByteF vs h = some p) ∨ (f = 83 ∧ containsAnyF vs h = some p):=by
 unfold fnC at e
 cases h1 : Nat.beq f 141 <;> rw [h1] at e
 ·cases h2 : Nat.beq f 29 <;> rw [h2] at e
  ·cases h3 : Nat.beq f 53 <;> rw [h3] at e
   ·cases h4 : Nat.beq f 80 <;> rw [h4] at e
    ·cases h5 : Nat.beq f 83 <;> rw [h5] at e
     ·cases e
     ·exact .inr (.inr (.inr (.inr ⟨Nat.eq_of_beq_eq_true h5, e⟩)))
    ·exact .inr (.inr (.inr (.inl ⟨Nat.eq_of_beq_eq_true h4, e⟩)))
   ·exact .inr (.inr (.inl ⟨Nat.eq_of_beq_eq_true h3, e⟩))
  ·exact .inr (.inl ⟨Nat.eq_of_beq_eq_true h2, e⟩)
 ·exact .inl ⟨Nat.eq_of_beq_eq_true h1, e⟩
theorem five_fr {f : FuncId} {vs : List V} {h h' : Hp} {v : V} (e : (f = 141 ∧ sameF vs h = some (v, h')) ∨ (f = 29 ∧ containsF vs h = some (v, h')) ∨ (f = 53 ∧ indexF vs h = some (v, h')) ∨ (f = 80 ∧ indexByteF vs h = some (v, h')) ∨ (f = 83 ∧ containsAnyF vs h = some (v, h'))) : h' = h:=by
 rcases e with ⟨_, e⟩ | ⟨_, e⟩ | ⟨_, e⟩ | ⟨_, e⟩ | ⟨_, e⟩
 ·exact sameF_heap e
 ·exact containsF_heap e
 ·exact indexF_heap e
 ·exact indexByteF_heap e
 ·exact containsAnyF_heap e
theorem five_ok [Orc] [Res] {f : FuncId} {vs : List V} {h h' : Hp} {v : V} (e : (f = 141 ∧ sameF vs h = some (v, h')) ∨ (f = 29 ∧ containsF vs h = some (v, h')) ∨ (f = 53 ∧ indexF vs h = some (v, h')) ∨ (f = 80 ∧ indexByteF vs h = some (v, h')) ∨ (f = 83 ∧ containsAnyF vs h = some (v, h')))
 {w0 w : World} {ρ : Rho} {xs : List Value} (hI : Inv w) (H : R Tryz.prog w0 w h ρ) (ha : RelL ρ vs xs) : CallR Tryz.prog f ⟨xs⟩ w fun e w' => ∃ x ρ', e = .returned x ∧ Rel ρ' v x ∧ Ext ρ ρ' ∧ R Tryz.prog w0 w' h' ρ':=by
 rcases e with ⟨rfl, e⟩ | ⟨rfl, e⟩ | ⟨rfl, e⟩ | ⟨rfl, e⟩ | ⟨rfl, e⟩
 ·exact sameF_sim Tryz.func141 (by kernel_rfl) (by kernel_rfl) (by kernel_rfl) (by kernel_rfl) e H ha
 ·exact containsF_sim Tryz.func29 (by kernel_rfl) contains_ok hI e H ha
 ·exact indexF_sim Tryz.func53 (by kernel_rfl) index_ok hI e H ha
 ·exact indexByteF_sim Tryz.func80 (by kernel_rfl) indexByte_ok e H ha
 ·exact containsAnyF_sim Tryz.func83 (by kernel_rfl) containsAny_ok e H ha
theorem okC : @OrcOk Tryz.prog (orc fnC Inv) :=
 letI : Orc:=orc fnC Inv
 {pure := @OpOk.pure Tryz.prog (orc fnC Inv) (opsC _)
  reads:=@OpOk.reads Tryz.prog (orc fnC Inv) (opsC _)
  make:=@OpOk.make Tryz.prog (orc fnC Inv) (opsC _)
  itr:=itr_ok
  fr:=fun f vs h v h' e => by rw [five_fr (fnC_cases (show fnC f vs h = some (v, h') from e))]; exact Fr.refl _
  sound:=fun f vs h v h' e Z w0 w ρ xs H ha => five_ok (fnC_cases (show fnC f vs h = some (v, h') from e)) (Inv.later H.base H.below) H ha }
theorem named : Named Tryz.prog:=letI:=orc fnC Inv; letI:=okC; named_of (by kernel_rfl)
theorem mixed : Tryz.prog.follows .mixedOrders = true:=by kernel_rfl
end
end Go.LB
end
