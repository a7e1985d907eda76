/- LexBack: what is answered at once is answered as the model answers it. -/
import Derived.Test.YtdiiilfokajddaaGreatDoorKLBka
import Derived.Test.YtdiiilfokajddaaGreatDoorKLBks
import Derived.Shelf.Strings.SlTrimAscii
import Derived.Lib.SmallJoins
import Derived.WalkSmall
set_option linter.all false
set_option warn.classDefReducibility false
noncomputable section
section
open Go Go.Mid Go.Proofs Go.RowKit
set_option maxRecDepth 100000
namespace Go.LB
section
theorem trimF_ok [Orc] [Res] {vs : List V} {h h' : Hp} {v : V} (e : trimF vs h = some (v, h')) {w0 w : World} {ρ : Rho} {xs : List Value} (H : R Tryz.prog w0 w h ρ) (ha : RelL ρ vs xs) :
 CallR Tryz.prog 81 ⟨xs⟩ w fun e w' => ∃ x ρ', e = .returned x ∧ Rel ρ' v x ∧ Ext ρ ρ' ∧ R Tryz.prog w0 w' h' ρ':=by
 unfold trimF at e
 split at e <;> try (cases e; done)
 rename_i s c
 cases hc : (Nat.ble s.l.length 2147483648 && Nat.ble c.l.length 2147483648) && asciiB c.l with
 | false => rw [hc] at e; cases e
 | true =>
  rw [hc] at e
  cases e
  simp only [Bool.and_eq_true] at hc
  obtain ⟨⟨h1, h2⟩, h3⟩:=hc
  have h1:=Nat.le_of_ble_eq_true h1
  have h2:=Nat.le_of_ble_eq_true h2
  obtain ⟨x, xs, rfl, hx, ha⟩:=ha.cons_inv
  obtain ⟨y, ys, rfl, hy, ha⟩:=ha.cons_inv
  have:=ha.nil_inv
  subst this
  cases hx
  cases hy
  refine CallR.mono (.inl ⟨⟨_, Tryz.func81, by kernel_rfl⟩, Any.strings_Trim_laid Tryz.lays160 (by kernel_rfl) ⟨⟨s.l⟩⟩ ⟨⟨c.l⟩⟩ w (by show s.l.length ≤ _; omega) (by show c.l.length < _; omega) (asciiB_spec h3)⟩) ?_
  rintro e w' ⟨rfl, hB⟩
  exact ⟨_, ρ, rfl, .packed _, Ext.refl _, H.later (h2:=h) (ρ2:=ρ) hB⟩
theorem trimLF_ok [Orc] [Res] {vs : List V} {h h' : Hp} {v : V} (e : trimLF vs h = some (v, h')) {w0 w : World} {ρ : Rho} {xs : List Value} (H : R Tryz.prog w0 w h ρ) (ha : RelL ρ vs xs) :
 CallR Tryz.prog 76 ⟨xs⟩ w fun e w' => ∃ x ρ', e = .returned x ∧ Rel ρ' v x ∧ Ext ρ ρ' ∧ R Tryz.prog w0 w' h' ρ':=by
 unfold trimLF at e
 split at e <;> try (cases e; done)
 rename_i s c
 split at e <;> try (cases e; done)
 rename_i b hb
 cases hc : Nat.blt b.toNat 128 with
 | false => rw [hc] at e; cases e
 | true =>
  rw [hc] at e
  cases e
  have h1:=Nat.le_of_ble_eq_true hc
  obtain ⟨x, xs, rfl, hx, ha⟩:=ha.cons_inv
  obtain ⟨y, ys, rfl, hy, ha⟩:=ha.cons_inv
  have:=ha.nil_inv
  subst this
  cases hx
  cases hy
  rw [hb]
  refine CallR.mono (.inl ⟨⟨_, Tryz.func76, by kernel_rfl⟩, Tryz.strings_TrimLeft_one ⟨⟨s.l⟩⟩ b h1 w⟩) ?_
  rintro e w' ⟨rfl, rfl⟩
  exact ⟨_, ρ, rfl, .packed _, Ext.refl _, H⟩
theorem parse_bad [Orc] [Res] {n : Int} {N : Nat} {w0 w w' : World} {h : Hp} {ρ : Rho} {q : Obj} (H : R Tryz.prog w0 w h ρ) (h1 : w.heap.size ≤ N) (h2 : w'.heap[N]? = some q) (hB : Below w.heap.size w w') :
 ∃ x ρ', (Ending.returned (.tuple #[.int .i64 n, .iface 187 (.pointer (some ⟨N, 0, none⟩))]) : Ending) = .returned x ∧ Rel ρ' (.tuple [.int .i64 n, .iface 187 (.ptr h.n 0)]) x ∧ Ext ρ ρ' ∧ R Tryz.prog w0 w' (h.new .dead) ρ':=by
 obtain ⟨k1, k2⟩:=newDead_R (lc:=⟨N, 0, 0⟩) H hB rfl h1 (Array.getElem?_eq_some_iff.1 h2).1
 refine ⟨_, _, rfl, ?_, k1, k2⟩
 have hp : Rel (upd ρ h.n ⟨N, 0, 0⟩) (.ptr h.n 0) (.pointer (some ⟨N, 0, none⟩)):=Rel.ptr (l:=⟨N, 0, 0⟩) 0 (upd_same _ _ _)
 have hr : RelL (upd ρ h.n ⟨N, 0, 0⟩) [.int .i64 n, .iface 187 (.ptr h.n 0)] [.int .i64 n, .iface 187 (.pointer (some ⟨N, 0, none⟩))]:=RelL.cons (.int _ _) (RelL.cons (.iface 187 hp) (RelL.nil _))
 exact Rel.tuple hr.1 hr.2
theorem parseF_ok [Orc] [Res] {vs : List V} {h h' : Hp} {v : V} (e : parseF 187 vs h = some (v, h')) {w0 w : World} {ρ : Rho} {xs : List Value} (hI : Inv w) (H : R Tryz.prog w0 w h ρ) (ha : RelL ρ vs xs) :
 CallR Tryz.prog 116 ⟨xs⟩ w fun e w' => ∃ x ρ', e = .returned x ∧ Rel ρ' v x ∧ Ext ρ ρ' ∧ R Tryz.prog w0 w' h' ρ':=by
 unfold parseF at e
 split at e <;> try (cases e; done)
 rename_i s
 cases hc : Nat.ble s.l.length 2147483648 with
 | false => rw [hc] at e; cases e
 | true =>
  rw [hc] at e
  have h1:=Nat.le_of_ble_eq_true hc
  obtain ⟨x, xs, rfl, hx, ha⟩:=ha.cons_inv
  obtain ⟨y, ys, rfl, hy, ha⟩:=ha.cons_inv
  obtain ⟨z, zs, rfl, hz, ha⟩:=ha.cons_inv
  have:=ha.nil_inv
  subst this
  cases hx
  cases hy
  cases hz
  dsimp only [cond_true] at e
  rcases hn : Lib.parseIntB 64 s.l with n | _ | _ <;> rw [hn] at e <;> cases e
  ·skip
   refine CallR.mono (.inl ⟨⟨_, Tryz.func116, by kernel_rfl⟩, Tryz.strconv_ParseInt_10_at64_ok ⟨⟨s.l⟩⟩ (by show s.l.length ≤ _; omega) n hn w⟩) ?_
   rintro e w' ⟨rfl, hw⟩
   have hr : RelL ρ [.int .i64 n, .nilIface] [.int .i64 n, .nilIface]:=RelL.cons (.int _ _) (RelL.cons .nilIface (RelL.nil _))
   refine ⟨_, ρ, rfl, Rel.tuple hr.1 hr.2, Ext.refl _, ?_⟩
   rcases hw with rfl | ⟨t, rfl⟩
   ·exact H
   ·exact H.later (h2 := h) (ρ2 := ρ) (Lib.bytesWorld_below w 5 t)
  ·obtain ⟨ev, he, hev⟩ := hI.e6
   refine CallR.mono (.inl ⟨⟨_, Tryz.func116, by kernel_rfl⟩, Tryz.strconv_ParseInt_10_at64_bad ⟨⟨s.l⟩⟩ (by show s.l.length ≤ _; omega) ⟨(fun v c => nomatch hn.symm.trans c), (fun c => nomatch hn.symm.trans c)⟩ ev w he hev⟩) ?_
   rintro e w' ⟨N, rfl, h1, h2, hB⟩
   exact parse_bad H h1 h2 hB
  ·obtain ⟨ev, he, hev⟩ := hI.e7
   refine CallR.mono (.inl ⟨⟨_, Tryz.func116, by kernel_rfl⟩, Tryz.strconv_ParseInt_10_at64_range ⟨⟨s.l⟩⟩ (by show s.l.length ≤ _; omega) hn ev w he hev⟩) ?_
   rintro e w' ⟨N, rfl, h1, h2, hB⟩
   exact parse_bad H h1 h2 hB
theorem below_grow (w : World) (k : Nat) (os : Array Obj) : Below w.heap.size w (Go.Sort.grow (w.drewN k) os):=by
 have h1:=below_drewN (Below.refl w.heap.size w) k
 have hs:=h1.size
 refine ⟨h1.os, h1.tape, h1.output, ?_, fun b hb => ?_⟩
 ·show _ ≤ ((w.drewN k).heap ++ os).size
  rw [Array.size_append]; omega
 ·show ((w.drewN k).heap ++ os)[b]? = _
  rw [Array.getElem?_append_left (by omega)]
  exact h1.block b hb
theorem textF_ok [Orc] [Res] {vs : List V} {h h' : Hp} {v : V} (e : textF vs h = some (v, h')) {w0 w : World} {ρ : Rho} {xs : List Value} (hI : Inv w) (H : R Tryz.prog w0 w h ρ) (ha : RelL ρ vs xs) :
 CallR Tryz.prog 70 ⟨xs⟩ w fun e w' => ∃ x ρ', e = .returned x ∧ Rel ρ' v x ∧ Ext ρ ρ' ∧ R Tryz.prog w0 w' h' ρ':=by
 unfold textF at e
 split at e <;> try (cases e; done)
 rename_i n
 cases hc : (decide (-9223372036854775808 ≤ n) && decide (n ≤ 9223372036854775807)) with
 | false => rw [hc] at e; cases e
 | true =>
  rw [hc] at e
  cases e
  rw [Bool.and_eq_true, decide_eq_true_iff, decide_eq_true_iff] at hc
  obtain ⟨x, xs, rfl, hx, ha⟩:=ha.cons_inv
  obtain ⟨y, ys, rfl, hy, ha⟩:=ha.cons_inv
  have:=ha.nil_inv
  subst this
  cases hx
  cases hy
  have htab : Lib.TabIs Tryz.prog w "internal/strconv.uint64pow10" .u64 Lib.pow10Tab:=by
   obtain ⟨arr, t, fz, h1, h2⟩:=hI.p3
   unfold Lib.TabIs World.var?
   rw [show Tryz.prog.globalNamed "internal/strconv.uint64pow10" = some 3 by kernel_rfl]
   simp only [Option.bind_some, h1]
   rw [p10_eq]
   congr 1
   apply Array.ext'
   rw [h2]
  refine CallR.mono (.inl ⟨⟨_, Tryz.func70, by kernel_rfl⟩, Tryz.strconv_FormatInt_10 n hc.1 hc.2 w htab⟩) ?_
  rintro e w' ⟨rfl, k, os, rfl⟩
  exact ⟨_, ρ, rfl, .packed _, Ext.refl _, H.later (h2:=h) (ρ2:=ρ) (below_grow w k os)⟩
theorem signsF_ok [Orc] [Res] {vs : List V} {h h' : Hp} {v : V} (e : signsF vs h = some (v, h')) {w0 w : World} {ρ : Rho} {xs : List Value} (hI : Inv w) (H : R Tryz.prog w0 w h ρ) (ha : RelL ρ vs xs) :
 CallR Tryz.prog 14 ⟨xs⟩ w fun e w' => ∃ x ρ', e = .returned x ∧ Rel ρ' v x ∧ Ext ρ ρ' ∧ R Tryz.prog w0 w' h' ρ':=by
 unfold signsF at e
 split at e <;> try (cases e; done)
 cases e
 exact KnownG.sound signs_known hI H ha
theorem free0 (ρ ρ' : Rho) (x : Value) (h : Rel ρ (.tuple []) x) : Rel ρ' (.tuple []) x:=by
 cases h with
 | tuple hl _ => exact Rel.tuple hl (fun i v x h => by simp at h)
theorem sortF_ok {Z : Res} {fn : FuncId → List V → Hp → Option (V × Hp)} {vs : List V} {h h' : Hp} {v : V} (e : sortF 23 vs h = some (v, h')) {w0 w : World} {ρ : Rho} {xs : List Value} (hI : Inv w0) (H : @R (orc fn Inv) Z Tryz.prog w0 w h ρ) (ha : RelL ρ vs xs) :
 CallR Tryz.prog 39 ⟨xs⟩ w fun e w' => ∃ x ρ', e = .returned x ∧ Rel ρ' v x ∧ Ext ρ ρ' ∧ @R (orc fn Inv) Z Tryz.prog w0 w' h' ρ':=by
 letI : Orc:=orc fn Inv
 letI : Res:=Z
 unfold sortF at e
 split at e <;> try (cases e; done)
 rename_i b g
 cases hg : Nat.beq 23 g with
 | false => rw [hg] at e; cases e
 | true =>
  rw [hg] at e
  obtain rfl:=Nat.eq_of_beq_eq_true hg
  dsimp only [cond_true] at e
  split at e <;> try (cases e; done)
  rename_i t ht
  cases hv : vEqO (t.getL 0 31) (some sgA) with
  | false => rw [hv] at e; cases e
  | true =>
   rw [hv] at e
   cases e
   have hL : ∀ i, i < 31 → t.get i = sgA[i]?:=by
    letI : Orc:=orc fnC Inv
    intro i hi
    unfold vEqO at hv
    cases hl : t.getL 0 31 with
    | none => rw [hl] at hv; cases hv
    | some l =>
     rw [hl] at hv
     have hl2 : l = sgA:=vEqL_eq (x:=l) (y:=sgA) hv
     subst hl2
     obtain ⟨_, hs⟩:=Tr.getL_spec _ _ _ _ hl
     have:=hs i hi
     rw [Nat.zero_add] at this; exact this.symm
   obtain ⟨h1, t', r1, r2, r3⟩:=sort_ran
   refine (@knownM Tryz.prog (orc fnC Inv) okC Z mixed named labs 39 [.slice b 0 31 31 false, .int .i64 31, .func 23 [] []] (.tuple []) sgA sgB 9 h1 t' rfl rfl rfl free0 r1 r2 r3 w0 w h ρ xs b t hI.size (R.swap H) ha (fun c hc => ?_) ?_ ht hL).mono ?_
   ·simpa [blksL, blksV] using hc
   ·simp [blksL, blksV]
   ·rintro e w' ⟨x, rfl, hx, HR⟩
    exact ⟨x, ρ, rfl, hx, Ext.refl _, R.swap HR⟩
inductive Ans (f : FuncId) (vs : List V) (h : Hp) (p : V × Hp) : Prop
 | five (e : (f = 141 ∧ sameF vs h = some p) ∨ (f = 29 ∧ containsF vs h = some p) ∨ (f = 53 ∧ indexF vs h = some p) ∨ (f = 80 ∧ indexByteF vs h = some p) ∨ (f = 83 ∧ containsAnyF vs h = some p))
 | trim (hf : f = 81) (e : trimF vs h = some p)
 | trimL (hf : f = 76) (e : trimLF vs h = some p)
 | parse (hf : f = 116) (e : parseF 187 vs h = some p)
 | signs (hf : f = 14) (e : signsF vs h = some p)
 | sort (hf : f = 39) (e : sortF 23 vs h = some p)
 | text (hf : f = 70) (e : textF vs h = some p)
 | awake (hf : f = 16) (hv : vs = []) (e : p = (.bool true, h))
theorem fnA_cases {f : FuncId} {vs : List V} {h : Hp} {p : V × Hp} (e : fnA f vs h = some p) : Ans f vs h p:=by
 unfold fnA at e
 cases h1 : Nat.beq f 141 <;> rw [h1] at e
 ·skip
  cases h2 : Nat.beq f 29 <;> rw [h2] at e
  ·skip
   cases h3 : Nat.beq f 53 <;> rw [h3] at e
   ·skip
    cases h4 : Nat.beq f 80 <;> rw [h4] at e
    ·skip
     cases h5 : Nat.beq f 83 <;> rw [h5] at e
     ·skip
      cases h6 : Nat.beq f 81 <;> rw [h6] at e
      ·skip
       cases h7 : Nat.beq f 76 <;> rw [h7] at e
       ·skip
        cases h8 : Nat.beq f 116 <;> rw [h8] at e
        ·skip
         cases h9 : Nat.beq f 14 <;> rw [h9] at e
         ·skip
          cases h10 : Nat.beq f 39 <;> rw [h10] at e
          ·skip
           cases h12 : Nat.beq f 70 <;> rw [h12] at e
           ·skip
            cases h11 : Nat.beq f 16 <;> rw [h11] at e
            ·cases e
            ·cases vs with
             | nil => cases e; exact .awake (Nat.eq_of_beq_eq_true h11) rfl rfl
             | cons a l => cases e
           ·exact .text (Nat.eq_of_beq_eq_true h12) e
          ·exact .sort (Nat.eq_of_beq_eq_true h10) e
         ·exact .signs (Nat.eq_of_beq_eq_true h9) e
        ·exact .parse (Nat.eq_of_beq_eq_true h8) e
       ·exact .trimL (Nat.eq_of_beq_eq_true h7) e
      ·exact .trim (Nat.eq_of_beq_eq_true h6) e
     ·exact .five (.inr (.inr (.inr (.inr ⟨Nat.eq_of_beq_eq_true h5, e⟩))))
    ·exact .five (.inr (.inr (.inr (.inl ⟨Nat.eq_of_beq_eq_true h4, e⟩))))
   ·exact .five (.inr (.inr (.inl ⟨Nat.eq_of_beq_eq_true h3, e⟩)))
  ·exact .five (.inr (.inl ⟨Nat.eq_of_beq_eq_true h2, e⟩))
 ·exact .five (.inl ⟨Nat.eq_of_beq_eq_true h1, e⟩)
theorem opsA : @OpOk Tryz.prog (orc fnA Inv):=opsC fnA
theorem okA : @OrcOk Tryz.prog (orc fnA Inv) :=
 letI : Orc:=orc fnA Inv
 {pure := @OpOk.pure Tryz.prog (orc fnA Inv) opsA
  reads:=@OpOk.reads Tryz.prog (orc fnA Inv) opsA
  make:=@OpOk.make Tryz.prog (orc fnA Inv) opsA
  itr:=itr_ok
  fr := fun f vs h v h' e => by
   cases fnA_cases (show fnA f vs h = some (v, h') from e) with
   | five e => rw [five_fr e]; exact Fr.refl _
   | trim _ e =>
    unfold trimF at e
    split at e <;> try (cases e; done)
    cases hc : (Nat.ble _ 2147483648 && Nat.ble _ 2147483648) && asciiB _ <;> rw [hc] at e <;> cases e
    exact Fr.refl _
   | trimL _ e =>
    unfold trimLF at e
    split at e <;> try (cases e; done)
    split at e <;> try (cases e; done)
    cases hc : Nat.blt _ 128 <;> rw [hc] at e <;> cases e
    exact Fr.refl _
   | parse _ e =>
    unfold parseF at e
    split at e <;> try (cases e; done)
    cases hc : Nat.ble _ 2147483648 <;> rw [hc] at e
    ·cases e
    ·dsimp only [cond_true] at e
     split at e <;> cases e <;> first | exact Fr.refl _ | exact Fr.new _ _
   | signs _ e =>
    unfold signsF at e
    split at e <;> try (cases e; done)
    cases e
    exact Fr.new _ _
   | sort _ e =>
    unfold sortF at e
    split at e <;> try (cases e; done)
    cases hg : Nat.beq 23 _ <;> rw [hg] at e
    ·cases e
    ·dsimp only [cond_true] at e
     split at e <;> try (cases e; done)
     rename_i t ht
     cases hv : vEqO (t.getL 0 31) (some sgA) <;> rw [hv] at e <;> cases e
     exact Fr.put _ _ _
   | text _ e =>
    unfold textF at e
    split at e <;> try (cases e; done)
    cases hc : (decide (-9223372036854775808 ≤ _) && decide (_ ≤ (9223372036854775807 : Int))) <;> rw [hc] at e <;> cases e
    exact Fr.refl _
   | awake _ _ e => cases e; exact Fr.refl _
  sound := fun f vs h v h' e Z w0 w ρ xs H ha => by
   have hI : Inv w:=Inv.later H.base H.below
   cases fnA_cases (show fnA f vs h = some (v, h') from e) with
   | five e => exact five_ok e hI H ha
   | trim hf e => subst hf; exact trimF_ok e H ha
   | trimL hf e => subst hf; exact trimLF_ok e H ha
   | parse hf e => subst hf; exact parseF_ok e hI H ha
   | signs hf e => subst hf; exact signsF_ok e hI H ha
   | sort hf e => subst hf; exact sortF_ok e H.base H ha
   | text hf e => subst hf; exact textF_ok e hI H ha
   | awake hf hv e =>
    subst hf
    subst hv
    cases e
    refine (awake_known ρ xs ha w hI).mono ?_
    rintro e w' ⟨x, rfl, hx, hB⟩
    exact ⟨x, ρ, rfl, hx, Ext.refl _, H.later (h2:=h) (ρ2:=ρ) hB⟩ }
end
end Go.LB
end
