/- Two functions of the library whose answers their contracts tell: strings.Contains, strings.Join. -/
import Derived.Test.YteeahoagedfehaaGreatDoorUMidFF
import Derived.Lib.IndexMore
import Derived.Lib.Join
import Derived.Lib.IndexAny
import Derived.Lib.Bytealg
import Derived.Lib.ConvBytes
import Derived.Laws.Runes
set_option linter.all false
set_option warn.classDefReducibility false
noncomputable section
section
open Go.RowKit
namespace Go.Mid
section
variable {P : Program}

def idxV : Option Nat → Int
 | some k => .ofNat k
 | none => .negSucc 0
end
section
def OpsOk (P : Program) (kd : Op → Nat) (op : Op → List V → Hp → Option (V × Hp)) : Prop:=∀ ng fn inv itr, @OpOk P ⟨ng, fn, kd, op, inv, itr⟩
def kdOr (k1 k2 : Op → Nat) (o : Op) : Nat := match k1 o with
 | 0 => k2 o
 | k + 1 => k + 1
def opLay (k1 : Op → Nat) (o1 o2 : Op → List V → Hp → Option (V × Hp)) (o : Op) (as : List V) (h : Hp) : Option (V × Hp) := match k1 o with
 | 0 => o2 o as h
 | _ + 1 => o1 o as h
theorem R.swap {P : Program} {ng : Nat} {fn fn' : FuncId → List V → Hp → Option (V × Hp)} {kd kd' : Op → Nat} {op op' : Op → List V → Hp → Option (V × Hp)} {I : World → Prop} {it it' : FuncId → Option It} {Z : Res} {w0 w : World} {h : Hp} {ρ : Rho}
 (H : @R ⟨ng, fn, kd, op, I, it⟩ Z P w0 w h ρ) : @R ⟨ng, fn', kd', op', I, it'⟩ Z P w0 w h ρ :=
 @R.mk ⟨ng, fn', kd', op', I, it'⟩ Z P _ _ _ _ (@R.below ⟨ng, fn, kd, op, I, it⟩ Z P w0 w h ρ H) (@R.bnd ⟨ng, fn, kd, op, I, it⟩ Z P w0 w h ρ H) (@R.live ⟨ng, fn, kd, op, I, it⟩ Z P w0 w h ρ H) (@R.inj ⟨ng, fn, kd, op, I, it⟩ Z P w0 w h ρ H)
  (@R.fresh ⟨ng, fn, kd, op, I, it⟩ Z P w0 w h ρ H) (@R.glob ⟨ng, fn, kd, op, I, it⟩ Z P w0 w h ρ H) (@R.base ⟨ng, fn, kd, op, I, it⟩ Z P w0 w h ρ H) (@R.rs ⟨ng, fn, kd, op, I, it⟩ Z P w0 w h ρ H) (@R.pn ⟨ng, fn, kd, op, I, it⟩ Z P w0 w h ρ H)
theorem OpsOk.or {P : Program} {k1 k2 : Op → Nat} {o1 o2 : Op → List V → Hp → Option (V × Hp)} (h1 : OpsOk P k1 o1) (h2 : OpsOk P k2 o2) : OpsOk P (kdOr k1 k2) (opLay k1 o1 o2):=by
 intro ng fn inv itr
 have a:=h1 ng fn inv itr
 have b:=h2 ng fn inv itr
 have z : ∀ o, k1 o = 0 → kdOr k1 k2 o = k2 o ∧ ∀ as h, opLay k1 o1 o2 o as h = o2 o as h:=fun o h => by unfold kdOr opLay; rw [h]; exact ⟨rfl, fun _ _ => rfl⟩
 have s : ∀ o, k1 o ≠ 0 → kdOr k1 k2 o = k1 o ∧ ∀ as h, opLay k1 o1 o2 o as h = o1 o as h := fun o h => by
  unfold kdOr opLay
  cases e : k1 o with
  | zero => exact (h e).elim
  | succ k => exact ⟨rfl, fun _ _ => rfl⟩
 refine @OpOk.mk P ⟨ng, fn, kdOr k1 k2, opLay k1 o1 o2, inv, itr⟩ (fun o hk as h h2 => ?_) (fun o as h v h' hk he => ?_) (fun o as h v h' he hn => ?_)
 ·change kdOr k1 k2 o = 1 at hk
  change opLay k1 o1 o2 o as h2 = (opLay k1 o1 o2 o as h).map _
  by_cases h0 : k1 o = 0
  ·rw [(z o h0).2, (z o h0).2]; exact @OpOk.pure P ⟨ng, fn, k2, o2, inv, itr⟩ b o ((z o h0).1.symm.trans hk) as h h2
  ·rw [(s o h0).2, (s o h0).2]; exact @OpOk.pure P ⟨ng, fn, k1, o1, inv, itr⟩ a o ((s o h0).1.symm.trans hk) as h h2
 ·change kdOr k1 k2 o = 1 ∨ kdOr k1 k2 o = 2 at hk
  change opLay k1 o1 o2 o as h = some (v, h') at he
  by_cases h0 : k1 o = 0
  ·rw [(z o h0).2] at he; rw [(z o h0).1] at hk; exact @OpOk.reads P ⟨ng, fn, k2, o2, inv, itr⟩ b o as h v h' hk he
  ·rw [(s o h0).2] at he; rw [(s o h0).1] at hk; exact @OpOk.reads P ⟨ng, fn, k1, o1, inv, itr⟩ a o as h v h' hk he
 ·change opLay k1 o1 o2 o as h = some (v, h') at he
  change kdOr k1 k2 o ≠ 0 at hn
  by_cases h0 : k1 o = 0
  ·rw [(z o h0).2] at he; rw [(z o h0).1] at hn
   obtain ⟨x, y⟩:=@OpOk.make P ⟨ng, fn, k2, o2, inv, itr⟩ b o as h v h' he hn
   refine ⟨x, fun Z w0 w ρ a oo hoo H hr => ?_⟩
   obtain ⟨x, w', ρ', k1, k2, k3, k4⟩:=y Z w0 w ρ a oo hoo (R.swap H) hr
   exact ⟨x, w', ρ', k1, k2, k3, R.swap k4⟩
  ·rw [(s o h0).2] at he; rw [(s o h0).1] at hn
   obtain ⟨x, y⟩:=@OpOk.make P ⟨ng, fn, k1, o1, inv, itr⟩ a o as h v h' he hn
   refine ⟨x, fun Z w0 w ρ a oo hoo H hr => ?_⟩
   obtain ⟨x, w', ρ', k1, k2, k3, k4⟩:=y Z w0 w ρ a oo hoo (R.swap H) hr
   exact ⟨x, w', ρ', k1, k2, k3, R.swap k4⟩
def s2b (e : TypeId) (h : Hp) (x : V) : Option (V × Hp) :=
 match x with
 | .str s => some (.slice h.n 0 s.l.length 0 true, h.new (.ro (Tr.nil.setL 0 (s.l.map fun b => V.int .u8 (Int.ofNat b.toNat))) e))
 | _ => none
def i2s (x : V) : Option V :=
 match x with
 | .int _ n => some (.str (pack (Utf8.encode n).data.toList))
 | _ => none
section
variable (P : Program)
def kdJ (o : Op) : Nat :=
 match o with
 | .convert s d _ => (match P.underlying s with
  | some .string => (match P.underlying d with
   | some (.slice _) => 3
   | _ => 0)
  | some (.int _) => (match P.underlying d with
   | some .string => 1
   | _ => 0)
  | _ => 0)
 | _ => 0
def convW (s d : TypeId) (h : Hp) (x : V) : Option (V × Hp) :=
 match P.underlying s with
 | some .string => (match P.underlying d with
  | some (.slice e) => (match P.underlying e with
   | some (.int .u8) => s2b e h x
   | _ => none)
  | _ => none)
 | some (.int _) => (match P.underlying d with
  | some .string => vh h (i2s x)
  | _ => none)
 | _ => none
def opJ (o : Op) (as : List V) (h : Hp) : Option (V × Hp) :=
 match o with
 | .convert s d _ => (match as with
  | [a] => convW P s d h a
  | _ => none)
 | _ => none
def kdW : Op → Nat:=kdOr (kdQ P) (kdJ P)
def opW : Op → List V → Hp → Option (V × Hp):=opLay (kdQ P) (opQ P) (opJ P)
end
variable {P : Program}
theorem newRo_R [Orc] [Res] {w0 w w' : World} {h : Hp} {ρ : Rho} (H : R P w0 w h ρ) (hB : Below w.heap.size w w') (hlt : w.heap.size < w'.heap.size) (t : Tr V) (e : TypeId) (cap : Nat)
 (ho : ∃ arr fz e', RoR (upd ρ h.n ⟨w.heap.size, 0, cap⟩) w' ⟨w.heap.size, 0, cap⟩ t e' arr fz) :
 Ext ρ (upd ρ h.n ⟨w.heap.size, 0, cap⟩) ∧ R P w0 w' (h.new (.ro t e)) (upd ρ h.n ⟨w.heap.size, 0, cap⟩):=by
 have H':=H.later (h2:=h) (ρ2:=ρ) hB
 have hnone : ρ h.n = none:=by
  cases hr : ρ h.n with
  | none => rfl
  | some l => have:=(H.bnd _ _ hr).1; omega
 have hext : Ext ρ (upd ρ h.n ⟨w.heap.size, 0, cap⟩):=upd_ext hnone
 have old : ∀ x : Nat, x ≠ h.n → (h.new (.ro t e)).alive x → h.alive x:=by
  rintro x hx ⟨y, h1, h2⟩
  simp only [Hp.new] at h1
  rw [Tr.get_set_ne _ _ (Ne.symm hx)] at h1
  exact ⟨y, h1, h2⟩
 refine ⟨hext, H'.below, ?_, ?_, ?_, fun b hb => by
  simp only [Hp.new] at hb ⊢; rw [Tr.get_set_ne _ _ (by omega)]; exact H.fresh b (by omega), H.glob.ext hext, H.base, fun b hb => ⟨by unfold Mid.upd; rw [if_neg (Nat.ne_of_lt (H.rs b hb).2)]; exact (H.rs b hb).1, Nat.lt_succ_of_lt (H.rs b hb).2⟩, H.pnNew (fun j hj => hB.block j hj) (Nat.le_refl _)⟩
 ·intro b l hb
  rcases upd_inv hb with ⟨rfl, rfl⟩ | ⟨hne, hb⟩
  ·exact ⟨Nat.lt_succ_self _, .inl ⟨H.below.size, rfl⟩, .inr hlt⟩
  ·have := H'.bnd b l hb
   exact ⟨Nat.lt_succ_of_lt this.1, by rw [Hp.still_new _ hne]; exact this.2.1, this.2.2⟩
 ·intro b l o' hb ho'
  rcases upd_inv hb with ⟨rfl, rfl⟩ | ⟨hne, hb⟩
  ·simp only [Hp.new, Tr.get_set_same, Option.some.injEq] at ho'
   subst ho'; exact ho
  ·simp only [Hp.new] at ho'
   rw [Tr.get_set_ne _ _ (Ne.symm hne)] at ho'
   exact (H'.live b l _ hb ho').keep hext rfl
 ·intro b b' l l' hb hb' hne ha ha'
  rcases upd_inv hb with ⟨rfl, rfl⟩ | ⟨h1, hb⟩
  ·rcases upd_inv hb' with ⟨rfl, rfl⟩ | ⟨h2, hb'⟩
   ·exact (hne rfl).elim
   ·have := H.lt hb' (old b' h2 ha'); simp only; omega
  ·rcases upd_inv hb' with ⟨rfl, rfl⟩ | ⟨h2, hb'⟩
   ·have := H.lt hb (old b h1 ha); simp only; omega
   ·exact H.inj b b' l l' hb hb' hne (old b h1 ha) (old b' h2 ha')
theorem s2b_sim [Orc] [Res] {w0 w : World} {h h' : Hp} {ρ : Rho} (H : R P w0 w h ρ) {s d e : TypeId} {u : TypeDesc} (hs : P.underlying s = some u) (hd : P.underlying d = some (.slice e)) (he : P.underlying e = some (.int .u8))
 {a v : V} {x : Value} (hr : Rel ρ a x) (hq : s2b e h a = some (v, h')) : ∃ r w' ρ', (convert s d x).run P w = .ok r w' ∧ Rel ρ' v r ∧ Ext ρ ρ' ∧ R P w0 w' h' ρ':=by
 cases hr <;> simp only [s2b, reduceCtorEq, Option.some.injEq, Prod.mk.injEq] at hq
 rename_i l
 obtain ⟨rfl, rfl⟩:=hq
 generalize l.l = l
 have hB : Below w.heap.size w (Lib.bytesWorld w e ⟨⟨l⟩⟩):=by
  refine ⟨rfl, rfl, rfl, by rw [Lib.bytesWorld_size]; omega, fun k hk => Lib.bytesWorld_at_old _ _ _ _ hk⟩
 have hN := newRo_R H hB (by rw [Lib.bytesWorld_size]; omega) (Tr.nil.setL 0 (l.map fun b => V.int .u8 (Int.ofNat b.toNat))) e (grownCap w l.length 0 e)
  ⟨_, _, _, Lib.bytesWorld_at_new w e ⟨⟨l⟩⟩, fun i v hv => by
   rw [Tr.get_setL, Tr.get_nil] at hv
   split at hv
   ·rename_i hi
    rw [Nat.sub_zero, List.getElem?_map] at hv
    cases hl : l[i]? with
    | none => rw [hl] at hv; cases hv
    | some b =>
     rw [hl] at hv
     simp only [Option.map_some, Option.some.injEq] at hv
     subst hv
     refine ⟨.int .u8 (Int.ofNat b.toNat), ?_, .int _ _⟩
     have hlt : i < l.length:=(List.getElem?_eq_some_iff.1 hl).1
     show (Lib.bytesCells w e ⟨⟨l⟩⟩)[0 + i]? = _
     rw [Nat.zero_add]
     unfold Lib.bytesCells
     rw [Array.getElem?_append_left (by simpa using hlt)]
     simp [hl]
   ·cases hv⟩
 refine ⟨_, _, _, Lib.run_convert_string_bytes w s d e _ hs hd he, ?_, hN.1, hN.2⟩
 have:=Rel.sliceG (ρ:=upd ρ h.n ⟨w.heap.size, 0, grownCap w l.length 0 e⟩) (b:=h.n) 0 l.length 0 (upd_same _ _ _)
 exact this
theorem i2s_sim {ρ : Rho} {s d : TypeId} {u : TypeDesc} (hs : P.underlying s = some u) (hd : P.underlying d = some .string) {a v : V} {x : Value} (hr : Rel ρ a x) (hq : i2s a = some v) (w : World) : ∃ r, (convert s d x).run P w = .ok r w ∧ Rel ρ v r:=by
 cases hr <;> simp only [i2s, reduceCtorEq, Option.some.injEq] at hq
 subst hq
 refine ⟨_, run_convert_int_string w s d _ _ (by rw [hs]; rfl) hd, ?_⟩
 exact .packed _
theorem vops : OpsOk P (kdJ P) (opJ P):=by
 intro ng fn inv itr
 letI : Orc:=⟨ng, fn, kdJ P, opJ P, inv, itr⟩
 have one : ∀ {o : Op} {as : List V} {h h' : Hp} {v : V}, (kdJ P o = 1 ∨ kdJ P o = 2) → opJ P o as h = some (v, h') → h' = h ∧ ∀ ρ w (a : Act) (oo : Oper), oo.op = o → RelL ρ as (o.operands.toList.map a.eval) →
  ∃ x, (execOp a.eval oo).run P w = .ok (.value x) w ∧ Rel ρ v x:=by
  intro o as h h' v hk he
  cases o <;> try (simp [kdJ] at hk; done)
  case convert s d x =>
   simp only [kdJ] at hk
   simp only [opJ] at he
   split at he <;> try (cases he; done)
   unfold convW at he
   cases hu : P.underlying s with
   | none => rw [hu] at hk; simp at hk
   | some us =>
    rw [hu] at hk he
    cases us <;> simp at hk he
    ·cases hv : P.underlying d with
     | none => rw [hv] at hk; simp at hk
     | some ud =>
      rw [hv] at hk he
      cases ud <;> simp at hk he
      obtain ⟨rfl, h1⟩:=vh_some he
      refine ⟨rfl, fun ρ w act oo ho hr => ?_⟩
      obtain ⟨u, hu1, r1⟩:=rel_one (xs:=[act.eval x]) (by simpa [Op.operands] using hr)
      simp only [List.cons.injEq, and_true] at hu1
      subst hu1
      obtain ⟨r, h2, h3⟩:=i2s_sim hu hv r1 h1 w
      refine ⟨r, ?_, h3⟩
      unfold execOp; rw [ho]
      exact run_v h2
    ·cases hv : P.underlying d with
     | none => rw [hv] at hk; simp at hk
     | some ud =>
      rw [hv] at hk
      cases ud <;> simp at hk
 refine @OpOk.mk P ⟨ng, fn, kdJ P, opJ P, inv, itr⟩ (fun o hk as h h2 => ?_) (fun o as h v h' hk he => ?_) (fun o as h v h' he hn => ?_)
 ·change kdJ P o = 1 at hk
  change opJ P o as h2 = (opJ P o as h).map _
  cases o <;> try (simp [kdJ] at hk; done)
  case convert s d x =>
   simp only [kdJ] at hk
   simp only [opJ]
   split
   ·unfold convW
    cases hu : P.underlying s with
    | none => rfl
    | some us =>
     rw [hu] at hk
     cases us <;> simp at hk ⊢
     ·cases hv : P.underlying d with
      | none => rfl
      | some ud => cases ud <;> first | rfl | exact vh_map' _ _ _
     ·cases hv : P.underlying d with
      | none => rfl
      | some ud =>
       rw [hv] at hk
       cases ud <;> first | rfl | (simp at hk; done)
   ·rfl
 ·obtain ⟨h1, h2⟩ := one hk he
  exact ⟨h1, fun ρ w a oo hoo _ hr => h2 ρ w a oo hoo hr⟩
 ·change opJ P o as h = some (v, h') at he
  change kdJ P o ≠ 0 at hn
  by_cases h12 : kdJ P o = 1 ∨ kdJ P o = 2
  ·obtain ⟨rfl, h1⟩ := one h12 he
   refine ⟨Fr.refl _, fun Z w0 w ρ a oo hoo H hr => ?_⟩
   obtain ⟨x, h2, h3⟩:=h1 ρ w a oo hoo hr
   exact ⟨x, w, ρ, .inl h2, h3, Ext.refl _, H⟩
  ·cases o <;> try (simp [kdJ] at hn; done)
   case convert s d x =>
    simp only [opJ] at he
    split at he <;> try (cases he; done)
    rename_i a
    unfold convW at he
    cases hu : P.underlying s with
    | none => rw [hu] at he; cases he
    | some us =>
     rw [hu] at he
     cases us <;> simp at he
     ·cases hv : P.underlying d with
      | none => rw [hv] at he; simp at he
      | some ud =>
       rw [hv] at he
       cases ud <;> simp at he
       exact (h12 (.inl (by simp [kdJ, hu, hv]))).elim
     ·cases hv : P.underlying d with
      | none => rw [hv] at he; simp at he
      | some ud =>
       rw [hv] at he
       cases ud <;> simp at he
       rename_i e
       cases hw : P.underlying e with
       | none => rw [hw] at he; simp at he
       | some ue =>
        rw [hw] at he
        cases ue <;> first | (simp at he; done) | skip
        rename_i k
        cases k <;> first | (simp at he; done) | skip
        change s2b e h a = some (v, h') at he
        refine ⟨?_, fun Z w0 w ρ act oo hoo H hr => ?_⟩
        ·unfold s2b at he
         split at he <;> try (cases he; done)
         simp only [Option.some.injEq, Prod.mk.injEq] at he
         rw [← he.2]; exact Fr.new _ _
        ·obtain ⟨u, hu1, r1⟩ := rel_one (xs := [act.eval x]) (by simpa [Op.operands] using hr)
         simp only [List.cons.injEq, and_true] at hu1
         subst hu1
         obtain ⟨r, w', ρ', h1, h2, h3, h4⟩:=s2b_sim H hu hv hw r1 he
         refine ⟨r, w', ρ', .inl ?_, h2, h3, h4⟩
         unfold execOp; rw [hoo]
         exact run_v h1
theorem qops' : OpsOk P (kdQ P) (opQ P):=fun ng fn inv itr => @qops P ⟨ng, fn, kdQ P, opQ P, inv, itr⟩ (fun _ => rfl) (fun _ _ _ => rfl)
theorem wops : OpsOk P (kdW P) (opW P):=qops'.or vops
end
end Go.Mid
end
