/- A part of the proof. -/
import Derived.Test.YteeahoagedfehaaGreatDoorUMSa
import Derived.Test.YteeahoagedfehaaGreatDoorUMidWA
import Derived.KernelRfl
import Derived.Test.YteeahoagedfehaaGreatDoorUMidSS
import Derived.Lib.AppendIntMem
import Derived.Shelf.Small.Strs
import Derived.Shelf.Strconv.Itoa3
set_option linter.all false
set_option warn.classDefReducibility false
noncomputable section
section
open Go Go.Mid Go.Proofs
set_option maxRecDepth 100000
namespace Go.MS
section
section
structure Inv (w : World) : Prop where
 size : 4 ≤ w.heap.size
 tab : Lib.TabIs Tryz.prog w "internal/strconv.uint64pow10" .u64 Lib.pow10Tab
def digF (vs : List V) (h : Hp) : Option (V × Hp) := match vs with
 | [.int .i64 n, .int .i64 10] => if -9223372036854775808 ≤ n ∧ n ≤ 9223372036854775807 then some (.str (pack (Lib.itoa n)), h) else none
 | _ => none
def cmpF (vs : List V) (h : Hp) : Option (V × Hp) := match vs with
 | [.str a, .str b] => some (.int .i64 (Lib.compareBytes a.l b.l), h)
 | _ => none
def fnA (f : FuncId) (vs : List V) (h : Hp) : Option (V × Hp) := bif Nat.beq f 11 then (match vs with
 | [] => some (.bool true, h)
 | _ => none) else bif Nat.beq f 106 then digF vs h else bif Nat.beq f 98 then cmpF vs h else none
@[reducible] def orc (fn : FuncId → List V → Hp → Option (V × Hp)) (I : World → Prop) : Orc:=⟨4, fn, kdB2 Tryz.prog, opB2 Tryz.prog, I, itr0⟩
def M : Nat → List V → Hp → VH:=@lim Tryz.prog (orc fnA Inv) labs
abbrev dF (k : Nat) (c : Cuts) (ih : II) (r : List V) (h : Hp) : VH:=@denF Tryz.prog (orc fnA Inv) ih 100000 c r h (Tryz.prog.funcs[k]?)
abbrev dL (k : Nat) (c : Cuts) (q : Nat) (v : List Tmp) (ih : II) (r : List V) (h : Hp) : VH:=@denL Tryz.prog (orc fnA Inv) ih 100000 c q v r h (Tryz.prog.funcs[k]?)
def En0 (k : Nat) (B : II → Hp → VH) : Prop:=∀ (h : Hp) (p : V × Hp), B M h = some p → M k [] h = some p
theorem f0 {f : FuncId} {cs : Cuts} (hf : cutsFit labs f cs = true) {B : II → Hp → VH} (e : ∀ (ih : II) (h : Hp), B ih h = dF f cs ih [] h) (ho : ∀ vs h, fnA f vs h = none:=by exact fun _ _ => rfl) : En0 (2 * f) B:=fun h p hp => @lim_ent Tryz.prog (orc fnA Inv) labs (2 * f) (fun ih vs h => (nilE (B ih h)) vs) (@entF Tryz.prog (orc fnA Inv) labs f _ ho 100000 cs hf fun ih vs h => nilE_le (X:=fun r => dF f cs ih (r) h) (e ih h) vs) [] h p hp
theorem l0 (l : Nat) (q : Nat) (lv : List Tmp) {f : FuncId} {cs : Cuts} (hl : labs.get l = some (f, q, lv)) (hf : cutsFit labs f cs = true) {B : II → Hp → VH} (e : ∀ (ih : II) (h : Hp), B ih h = dL f cs q lv ih [] h) : En0 (2 * l + 1) B:=fun h p hp => @lim_ent Tryz.prog (orc fnA Inv) labs (2 * l + 1) (fun ih vs h => (nilE (B ih h)) vs) (@entL Tryz.prog (orc fnA Inv) labs l _ f q lv 100000 cs hl hf fun ih vs h => nilE_le (X:=fun r => dL f cs q lv ih (r) h) (e ih h) vs) [] h p hp
theorem t0 {k : Nat} {B : II → Hp → VH} (e : En0 k B) {h : Hp} {ro : Bool} {F : List Asn} {Q : V → List Asn → Prop} (hk : Lo ro h h → Tri h ro F Q (B M h)) : Tri h ro F Q (M k [] h):=Tri.call (fun p => e h p) (hk (Lo.refl ro h))
def En1 (k : Nat) (B : II → V → Hp → VH) : Prop:=∀ (x0 : V) (h : Hp) (p : V × Hp), B M x0 h = some p → M k [x0] h = some p
theorem f1 {f : FuncId} {cs : Cuts} (hf : cutsFit labs f cs = true) {B : II → V → Hp → VH} (e : ∀ (ih : II) (x0 : V) (h : Hp), B ih x0 h = dF f cs ih [x0] h) (ho : ∀ vs h, fnA f vs h = none:=by exact fun _ _ => rfl) : En1 (2 * f) B:=fun x0 h p hp => @lim_ent Tryz.prog (orc fnA Inv) labs (2 * f) (fun ih vs h => (consE fun x0 => (nilE (B ih x0 h))) vs) (@entF Tryz.prog (orc fnA Inv) labs f _ ho 100000 cs hf fun ih vs h => consE_le (X:=fun r => dF f cs ih (r) h) (fun x0 r0 => nilE_le (X:=fun r => dF f cs ih (x0 :: r) h) (e ih x0 h) r0) vs) [x0] h p hp
theorem l1 (l : Nat) (q : Nat) (lv : List Tmp) {f : FuncId} {cs : Cuts} (hl : labs.get l = some (f, q, lv)) (hf : cutsFit labs f cs = true) {B : II → V → Hp → VH} (e : ∀ (ih : II) (x0 : V) (h : Hp), B ih x0 h = dL f cs q lv ih [x0] h) : En1 (2 * l + 1) B:=fun x0 h p hp => @lim_ent Tryz.prog (orc fnA Inv) labs (2 * l + 1) (fun ih vs h => (consE fun x0 => (nilE (B ih x0 h))) vs) (@entL Tryz.prog (orc fnA Inv) labs l _ f q lv 100000 cs hl hf fun ih vs h => consE_le (X:=fun r => dL f cs q lv ih (r) h) (fun x0 r0 => nilE_le (X:=fun r => dL f cs q lv ih (x0 :: r) h) (e ih x0 h) r0) vs) [x0] h p hp
theorem t1 {k : Nat} {B : II → V → Hp → VH} (e : En1 k B) {x0 : V} {h : Hp} {ro : Bool} {F : List Asn} {Q : V → List Asn → Prop} (hk : Lo ro h h → Tri h ro F Q (B M x0 h)) : Tri h ro F Q (M k [x0] h):=Tri.call (fun p => e x0 h p) (hk (Lo.refl ro h))
def En2 (k : Nat) (B : II → V → V → Hp → VH) : Prop:=∀ (x0 x1 : V) (h : Hp) (p : V × Hp), B M x0 x1 h = some p → M k [x0, x1] h = some p
theorem f2 {f : FuncId} {cs : Cuts} (hf : cutsFit labs f cs = true) {B : II → V → V → Hp → VH} (e : ∀ (ih : II) (x0 x1 : V) (h : Hp), B ih x0 x1 h = dF f cs ih [x0, x1] h) (ho : ∀ vs h, fnA f vs h = none:=by exact fun _ _ => rfl) : En2 (2 * f) B:=fun x0 x1 h p hp => @lim_ent Tryz.prog (orc fnA Inv) labs (2 * f) (fun ih vs h => (consE fun x0 => (consE fun x1 => (nilE (B ih x0 x1 h)))) vs) (@entF Tryz.prog (orc fnA Inv) labs f _ ho 100000 cs hf fun ih vs h => consE_le (X:=fun r => dF f cs ih (r) h) (fun x0 r0 => consE_le (X:=fun r => dF f cs ih (x0 :: r) h) (fun x1 r1 => nilE_le (X:=fun r => dF f cs ih (x0 :: x1 :: r) h) (e ih x0 x1 h) r1) r0) vs) [x0, x1] h p hp
theorem l2 (l : Nat) (q : Nat) (lv : List Tmp) {f : FuncId} {cs : Cuts} (hl : labs.get l = some (f, q, lv)) (hf : cutsFit labs f cs = true) {B : II → V → V → Hp → VH} (e : ∀ (ih : II) (x0 x1 : V) (h : Hp), B ih x0 x1 h = dL f cs q lv ih [x0, x1] h) : En2 (2 * l + 1) B:=fun x0 x1 h p hp => @lim_ent Tryz.prog (orc fnA Inv) labs (2 * l + 1) (fun ih vs h => (consE fun x0 => (consE fun x1 => (nilE (B ih x0 x1 h)))) vs) (@entL Tryz.prog (orc fnA Inv) labs l _ f q lv 100000 cs hl hf fun ih vs h => consE_le (X:=fun r => dL f cs q lv ih (r) h) (fun x0 r0 => consE_le (X:=fun r => dL f cs q lv ih (x0 :: r) h) (fun x1 r1 => nilE_le (X:=fun r => dL f cs q lv ih (x0 :: x1 :: r) h) (e ih x0 x1 h) r1) r0) vs) [x0, x1] h p hp
theorem t2 {k : Nat} {B : II → V → V → Hp → VH} (e : En2 k B) {x0 x1 : V} {h : Hp} {ro : Bool} {F : List Asn} {Q : V → List Asn → Prop} (hk : Lo ro h h → Tri h ro F Q (B M x0 x1 h)) : Tri h ro F Q (M k [x0, x1] h):=Tri.call (fun p => e x0 x1 h p) (hk (Lo.refl ro h))
def En3 (k : Nat) (B : II → V → V → V → Hp → VH) : Prop:=∀ (x0 x1 x2 : V) (h : Hp) (p : V × Hp), B M x0 x1 x2 h = some p → M k [x0, x1, x2] h = some p
theorem f3 {f : FuncId} {cs : Cuts} (hf : cutsFit labs f cs = true) {B : II → V → V → V → Hp → VH} (e : ∀ (ih : II) (x0 x1 x2 : V) (h : Hp), B ih x0 x1 x2 h = dF f cs ih [x0, x1, x2] h) (ho : ∀ vs h, fnA f vs h = none:=by exact fun _ _ => rfl) : En3 (2 * f) B:=fun x0 x1 x2 h p hp => @lim_ent Tryz.prog (orc fnA Inv) labs (2 * f) (fun ih vs h => (consE fun x0 => (consE fun x1 => (consE fun x2 => (nilE (B ih x0 x1 x2 h))))) vs) (@entF Tryz.prog (orc fnA Inv) labs f _ ho 100000 cs hf fun ih vs h => consE_le (X:=fun r => dF f cs ih (r) h) (fun x0 r0 => consE_le (X:=fun r => dF f cs ih (x0 :: r) h) (fun x1 r1 => consE_le (X:=fun r => dF f cs ih (x0 :: x1 :: r) h) (fun x2 r2 => nilE_le (X:=fun r => dF f cs ih (x0 :: x1 :: x2 :: r) h) (e ih x0 x1 x2 h) r2) r1) r0) vs) [x0, x1, x2] h p hp
theorem l3 (l : Nat) (q : Nat) (lv : List Tmp) {f : FuncId} {cs : Cuts} (hl : labs.get l = some (f, q, lv)) (hf : cutsFit labs f cs = true) {B : II → V → V → V → Hp → VH} (e : ∀ (ih : II) (x0 x1 x2 : V) (h : Hp), B ih x0 x1 x2 h = dL f cs q lv ih [x0, x1, x2] h) : En3 (2 * l + 1) B:=fun x0 x1 x2 h p hp => @lim_ent Tryz.prog (orc fnA Inv) labs (2 * l + 1) (fun ih vs h => (consE fun x0 => (consE fun x1 => (consE fun x2 => (nilE (B ih x0 x1 x2 h))))) vs) (@entL Tryz.prog (orc fnA Inv) labs l _ f q lv 100000 cs hl hf fun ih vs h => consE_le (X:=fun r => dL f cs q lv ih (r) h) (fun x0 r0 => consE_le (X:=fun r => dL f cs q lv ih (x0 :: r) h) (fun x1 r1 => consE_le (X:=fun r => dL f cs q lv ih (x0 :: x1 :: r) h) (fun x2 r2 => nilE_le (X:=fun r => dL f cs q lv ih (x0 :: x1 :: x2 :: r) h) (e ih x0 x1 x2 h) r2) r1) r0) vs) [x0, x1, x2] h p hp
theorem t3 {k : Nat} {B : II → V → V → V → Hp → VH} (e : En3 k B) {x0 x1 x2 : V} {h : Hp} {ro : Bool} {F : List Asn} {Q : V → List Asn → Prop} (hk : Lo ro h h → Tri h ro F Q (B M x0 x1 x2 h)) : Tri h ro F Q (M k [x0, x1, x2] h):=Tri.call (fun p => e x0 x1 x2 h p) (hk (Lo.refl ro h))
def En4 (k : Nat) (B : II → V → V → V → V → Hp → VH) : Prop:=∀ (x0 x1 x2 x3 : V) (h : Hp) (p : V × Hp), B M x0 x1 x2 x3 h = some p → M k [x0, x1, x2, x3] h = some p
theorem f4 {f : FuncId} {cs : Cuts} (hf : cutsFit labs f cs = true) {B : II → V → V → V → V → Hp → VH} (e : ∀ (ih : II) (x0 x1 x2 x3 : V) (h : Hp), B ih x0 x1 x2 x3 h = dF f cs ih [x0, x1, x2, x3] h) (ho : ∀ vs h, fnA f vs h = none:=by exact fun _ _ => rfl) : En4 (2 * f) B:=fun x0 x1 x2 x3 h p hp => @lim_ent Tryz.prog (orc fnA Inv) labs (2 * f) (fun ih vs h => (consE fun x0 => (consE fun x1 => (consE fun x2 => (consE fun x3 => (nilE (B ih x0 x1 x2 x3 h)))))) vs) (@entF Tryz.prog (orc fnA Inv) labs f _ ho 100000 cs hf fun ih vs h => consE_le (X:=fun r => dF f cs ih (r) h) (fun x0 r0 => consE_le (X:=fun r => dF f cs ih (x0 :: r) h) (fun x1 r1 => consE_le (X:=fun r => dF f cs ih (x0 :: x1 :: r) h) (fun x2 r2 => consE_le (X:=fun r => dF f cs ih (x0 :: x1 :: x2 :: r) h) (fun x3 r3 => nilE_le (X:=fun r => dF f cs ih (x0 :: x1 :: x2 :: x3 :: r) h) (e ih x0 x1 x2 x3 h) r3) r2) r1) r0) vs) [x0, x1, x2, x3] h p hp
theorem l4 (l : Nat) (q : Nat) (lv : List Tmp) {f : FuncId} {cs : Cuts} (hl : labs.get l = some (f, q, lv)) (hf : cutsFit labs f cs = true) {B : II → V → V → V → V → Hp → VH} (e : ∀ (ih : II) (x0 x1 x2 x3 : V) (h : Hp), B ih x0 x1 x2 x3 h = dL f cs q lv ih [x0, x1, x2, x3] h) : En4 (2 * l + 1) B:=fun x0 x1 x2 x3 h p hp => @lim_ent Tryz.prog (orc fnA Inv) labs (2 * l + 1) (fun ih vs h => (consE fun x0 => (consE fun x1 => (consE fun x2 => (consE fun x3 => (nilE (B ih x0 x1 x2 x3 h)))))) vs) (@entL Tryz.prog (orc fnA Inv) labs l _ f q lv 100000 cs hl hf fun ih vs h => consE_le (X:=fun r => dL f cs q lv ih (r) h) (fun x0 r0 => consE_le (X:=fun r => dL f cs q lv ih (x0 :: r) h) (fun x1 r1 => consE_le (X:=fun r => dL f cs q lv ih (x0 :: x1 :: r) h) (fun x2 r2 => consE_le (X:=fun r => dL f cs q lv ih (x0 :: x1 :: x2 :: r) h) (fun x3 r3 => nilE_le (X:=fun r => dL f cs q lv ih (x0 :: x1 :: x2 :: x3 :: r) h) (e ih x0 x1 x2 x3 h) r3) r2) r1) r0) vs) [x0, x1, x2, x3] h p hp
theorem t4 {k : Nat} {B : II → V → V → V → V → Hp → VH} (e : En4 k B) {x0 x1 x2 x3 : V} {h : Hp} {ro : Bool} {F : List Asn} {Q : V → List Asn → Prop} (hk : Lo ro h h → Tri h ro F Q (B M x0 x1 x2 x3 h)) : Tri h ro F Q (M k [x0, x1, x2, x3] h):=Tri.call (fun p => e x0 x1 x2 x3 h p) (hk (Lo.refl ro h))
def En5 (k : Nat) (B : II → V → V → V → V → V → Hp → VH) : Prop:=∀ (x0 x1 x2 x3 x4 : V) (h : Hp) (p : V × Hp), B M x0 x1 x2 x3 x4 h = some p → M k [x0, x1, x2, x3, x4] h = some p
theorem f5 {f : FuncId} {cs : Cuts} (hf : cutsFit labs f cs = true) {B : II → V → V → V → V → V → Hp → VH} (e : ∀ (ih : II) (x0 x1 x2 x3 x4 : V) (h : Hp), B ih x0 x1 x2 x3 x4 h = dF f cs ih [x0, x1, x2, x3, x4] h) (ho : ∀ vs h, fnA f vs h = none:=by exact fun _ _ => rfl) : En5 (2 * f) B:=fun x0 x1 x2 x3 x4 h p hp => @lim_ent Tryz.prog (orc fnA Inv) labs (2 * f) (fun ih vs h => (consE fun x0 => (consE fun x1 => (consE fun x2 => (consE fun x3 => (consE fun x4 => (nilE (B ih x0 x1 x2 x3 x4 h))))))) vs) (@entF Tryz.prog (orc fnA Inv) labs f _ ho 100000 cs hf fun ih vs h => consE_le (X:=fun r => dF f cs ih (r) h) (fun x0 r0 => consE_le (X:=fun r => dF f cs ih (x0 :: r) h) (fun x1 r1 => consE_le (X:=fun r => dF f cs ih (x0 :: x1 :: r) h) (fun x2 r2 => consE_le (X:=fun r => dF f cs ih (x0 :: x1 :: x2 :: r) h) (fun x3 r3 => consE_le (X:=fun r => dF f cs ih (x0 :: x1 :: x2 :: x3 :: r) h) (fun x4 r4 => nilE_le (X:=fun r => dF f cs ih (x0 :: x1 :: x2 :: x3 :: x4 :: r) h) (e ih x0 x1 x2 x3 x4 h) r4) r3) r2) r1) r0) vs) [x0, x1, x2, x3, x4] h p hp
theorem l5 (l : Nat) (q : Nat) (lv : List Tmp) {f : FuncId} {cs : Cuts} (hl : labs.get l = some (f, q, lv)) (hf : cutsFit labs f cs = true) {B : II → V → V → V → V → V → Hp → VH} (e : ∀ (ih : II) (x0 x1 x2 x3 x4 : V) (h : Hp), B ih x0 x1 x2 x3 x4 h = dL f cs q lv ih [x0, x1, x2, x3, x4] h) : En5 (2 * l + 1) B:=fun x0 x1 x2 x3 x4 h p hp => @lim_ent Tryz.prog (orc fnA Inv) labs (2 * l + 1) (fun ih vs h => (consE fun x0 => (consE fun x1 => (consE fun x2 => (consE fun x3 => (consE fun x4 => (nilE (B ih x0 x1 x2 x3 x4 h))))))) vs) (@entL Tryz.prog (orc fnA Inv) labs l _ f q lv 100000 cs hl hf fun ih vs h => consE_le (X:=fun r => dL f cs q lv ih (r) h) (fun x0 r0 => consE_le (X:=fun r => dL f cs q lv ih (x0 :: r) h) (fun x1 r1 => consE_le (X:=fun r => dL f cs q lv ih (x0 :: x1 :: r) h) (fun x2 r2 => consE_le (X:=fun r => dL f cs q lv ih (x0 :: x1 :: x2 :: r) h) (fun x3 r3 => consE_le (X:=fun r => dL f cs q lv ih (x0 :: x1 :: x2 :: x3 :: r) h) (fun x4 r4 => nilE_le (X:=fun r => dL f cs q lv ih (x0 :: x1 :: x2 :: x3 :: x4 :: r) h) (e ih x0 x1 x2 x3 x4 h) r4) r3) r2) r1) r0) vs) [x0, x1, x2, x3, x4] h p hp
theorem t5 {k : Nat} {B : II → V → V → V → V → V → Hp → VH} (e : En5 k B) {x0 x1 x2 x3 x4 : V} {h : Hp} {ro : Bool} {F : List Asn} {Q : V → List Asn → Prop} (hk : Lo ro h h → Tri h ro F Q (B M x0 x1 x2 x3 x4 h)) : Tri h ro F Q (M k [x0, x1, x2, x3, x4] h):=Tri.call (fun p => e x0 x1 x2 x3 x4 h p) (hk (Lo.refl ro h))
def En6 (k : Nat) (B : II → V → V → V → V → V → V → Hp → VH) : Prop:=∀ (x0 x1 x2 x3 x4 x5 : V) (h : Hp) (p : V × Hp), B M x0 x1 x2 x3 x4 x5 h = some p → M k [x0, x1, x2, x3, x4, x5] h = some p
theorem l6 (l : Nat) (q : Nat) (lv : List Tmp) {f : FuncId} {cs : Cuts} (hl : labs.get l = some (f, q, lv)) (hf : cutsFit labs f cs = true) {B : II → V → V → V → V → V → V → Hp → VH} (e : ∀ (ih : II) (x0 x1 x2 x3 x4 x5 : V) (h : Hp), B ih x0 x1 x2 x3 x4 x5 h = dL f cs q lv ih [x0, x1, x2, x3, x4, x5] h) : En6 (2 * l + 1) B:=fun x0 x1 x2 x3 x4 x5 h p hp => @lim_ent Tryz.prog (orc fnA Inv) labs (2 * l + 1) (fun ih vs h => (consE fun x0 => (consE fun x1 => (consE fun x2 => (consE fun x3 => (consE fun x4 => (consE fun x5 => (nilE (B ih x0 x1 x2 x3 x4 x5 h)))))))) vs) (@entL Tryz.prog (orc fnA Inv) labs l _ f q lv 100000 cs hl hf fun ih vs h => consE_le (X:=fun r => dL f cs q lv ih (r) h) (fun x0 r0 => consE_le (X:=fun r => dL f cs q lv ih (x0 :: r) h) (fun x1 r1 => consE_le (X:=fun r => dL f cs q lv ih (x0 :: x1 :: r) h) (fun x2 r2 => consE_le (X:=fun r => dL f cs q lv ih (x0 :: x1 :: x2 :: r) h) (fun x3 r3 => consE_le (X:=fun r => dL f cs q lv ih (x0 :: x1 :: x2 :: x3 :: r) h) (fun x4 r4 => consE_le (X:=fun r => dL f cs q lv ih (x0 :: x1 :: x2 :: x3 :: x4 :: r) h) (fun x5 r5 => nilE_le (X:=fun r => dL f cs q lv ih (x0 :: x1 :: x2 :: x3 :: x4 :: x5 :: r) h) (e ih x0 x1 x2 x3 x4 x5 h) r5) r4) r3) r2) r1) r0) vs) [x0, x1, x2, x3, x4, x5] h p hp
theorem t6 {k : Nat} {B : II → V → V → V → V → V → V → Hp → VH} (e : En6 k B) {x0 x1 x2 x3 x4 x5 : V} {h : Hp} {ro : Bool} {F : List Asn} {Q : V → List Asn → Prop} (hk : Lo ro h h → Tri h ro F Q (B M x0 x1 x2 x3 x4 x5 h)) : Tri h ro F Q (M k [x0, x1, x2, x3, x4, x5] h):=Tri.call (fun p => e x0 x1 x2 x3 x4 x5 h p) (hk (Lo.refl ro h))
def En7 (k : Nat) (B : II → V → V → V → V → V → V → V → Hp → VH) : Prop:=∀ (x0 x1 x2 x3 x4 x5 x6 : V) (h : Hp) (p : V × Hp), B M x0 x1 x2 x3 x4 x5 x6 h = some p → M k [x0, x1, x2, x3, x4, x5, x6] h = some p
theorem l7 (l : Nat) (q : Nat) (lv : List Tmp) {f : FuncId} {cs : Cuts} (hl : labs.get l = some (f, q, lv)) (hf : cutsFit labs f cs = true) {B : II → V → V → V → V → V → V → V → Hp → VH} (e : ∀ (ih : II) (x0 x1 x2 x3 x4 x5 x6 : V) (h : Hp), B ih x0 x1 x2 x3 x4 x5 x6 h = dL f cs q lv ih [x0, x1, x2, x3, x4, x5, x6] h) : En7 (2 * l + 1) B:=fun x0 x1 x2 x3 x4 x5 x6 h p hp => @lim_ent Tryz.prog (orc fnA Inv) labs (2 * l + 1) (fun ih vs h => (consE fun x0 => (consE fun x1 => (consE fun x2 => (consE fun x3 => (consE fun x4 => (consE fun x5 => (consE fun x6 => (nilE (B ih x0 x1 x2 x3 x4 x5 x6 h))))))))) vs) (@entL Tryz.prog (orc fnA Inv) labs l _ f q lv 100000 cs hl hf fun ih vs h => consE_le (X:=fun r => dL f cs q lv ih (r) h) (fun x0 r0 => consE_le (X:=fun r => dL f cs q lv ih (x0 :: r) h) (fun x1 r1 => consE_le (X:=fun r => dL f cs q lv ih (x0 :: x1 :: r) h) (fun x2 r2 => consE_le (X:=fun r => dL f cs q lv ih (x0 :: x1 :: x2 :: r) h) (fun x3 r3 => consE_le (X:=fun r => dL f cs q lv ih (x0 :: x1 :: x2 :: x3 :: r) h) (fun x4 r4 => consE_le (X:=fun r => dL f cs q lv ih (x0 :: x1 :: x2 :: x3 :: x4 :: r) h) (fun x5 r5 => consE_le (X:=fun r => dL f cs q lv ih (x0 :: x1 :: x2 :: x3 :: x4 :: x5 :: r) h) (fun x6 r6 => nilE_le (X:=fun r => dL f cs q lv ih (x0 :: x1 :: x2 :: x3 :: x4 :: x5 :: x6 :: r) h) (e ih x0 x1 x2 x3 x4 x5 x6 h) r6) r5) r4) r3) r2) r1) r0) vs) [x0, x1, x2, x3, x4, x5, x6] h p hp
def En8 (k : Nat) (B : II → V → V → V → V → V → V → V → V → Hp → VH) : Prop:=∀ (x0 x1 x2 x3 x4 x5 x6 x7 : V) (h : Hp) (p : V × Hp), B M x0 x1 x2 x3 x4 x5 x6 x7 h = some p → M k [x0, x1, x2, x3, x4, x5, x6, x7] h = some p
theorem l8 (l : Nat) (q : Nat) (lv : List Tmp) {f : FuncId} {cs : Cuts} (hl : labs.get l = some (f, q, lv)) (hf : cutsFit labs f cs = true) {B : II → V → V → V → V → V → V → V → V → Hp → VH} (e : ∀ (ih : II) (x0 x1 x2 x3 x4 x5 x6 x7 : V) (h : Hp), B ih x0 x1 x2 x3 x4 x5 x6 x7 h = dL f cs q lv ih [x0, x1, x2, x3, x4, x5, x6, x7] h) : En8 (2 * l + 1) B:=fun x0 x1 x2 x3 x4 x5 x6 x7 h p hp => @lim_ent Tryz.prog (orc fnA Inv) labs (2 * l + 1) (fun ih vs h => (consE fun x0 => (consE fun x1 => (consE fun x2 => (consE fun x3 => (consE fun x4 => (consE fun x5 => (consE fun x6 => (consE fun x7 => (nilE (B ih x0 x1 x2 x3 x4 x5 x6 x7 h)))))))))) vs) (@entL Tryz.prog (orc fnA Inv) labs l _ f q lv 100000 cs hl hf fun ih vs h => consE_le (X:=fun r => dL f cs q lv ih (r) h) (fun x0 r0 => consE_le (X:=fun r => dL f cs q lv ih (x0 :: r) h) (fun x1 r1 => consE_le (X:=fun r => dL f cs q lv ih (x0 :: x1 :: r) h) (fun x2 r2 => consE_le (X:=fun r => dL f cs q lv ih (x0 :: x1 :: x2 :: r) h) (fun x3 r3 => consE_le (X:=fun r => dL f cs q lv ih (x0 :: x1 :: x2 :: x3 :: r) h) (fun x4 r4 => consE_le (X:=fun r => dL f cs q lv ih (x0 :: x1 :: x2 :: x3 :: x4 :: r) h) (fun x5 r5 => consE_le (X:=fun r => dL f cs q lv ih (x0 :: x1 :: x2 :: x3 :: x4 :: x5 :: r) h) (fun x6 r6 => consE_le (X:=fun r => dL f cs q lv ih (x0 :: x1 :: x2 :: x3 :: x4 :: x5 :: x6 :: r) h) (fun x7 r7 => nilE_le (X:=fun r => dL f cs q lv ih (x0 :: x1 :: x2 :: x3 :: x4 :: x5 :: x6 :: x7 :: r) h) (e ih x0 x1 x2 x3 x4 x5 x6 x7 h) r7) r6) r5) r4) r3) r2) r1) r0) vs) [x0, x1, x2, x3, x4, x5, x6, x7] h p hp
theorem t8 {k : Nat} {B : II → V → V → V → V → V → V → V → V → Hp → VH} (e : En8 k B) {x0 x1 x2 x3 x4 x5 x6 x7 : V} {h : Hp} {ro : Bool} {F : List Asn} {Q : V → List Asn → Prop} (hk : Lo ro h h → Tri h ro F Q (B M x0 x1 x2 x3 x4 x5 x6 x7 h)) : Tri h ro F Q (M k [x0, x1, x2, x3, x4, x5, x6, x7] h):=Tri.call (fun p => e x0 x1 x2 x3 x4 x5 x6 x7 h p) (hk (Lo.refl ro h))
theorem e18 : En3 18 B18:=f3 fit9 fun _ _ _ _ _ => by kernel_rfl
theorem e24 : En3 24 B24:=f3 fit12 fun _ _ _ _ _ => by kernel_rfl
theorem e1 : En6 1 B1:=l6 0 58 [0, 4, 5, 6, 7, 12] (by kernel_rfl) fit12 fun _ _ _ _ _ _ _ _ => by kernel_rfl
theorem e20 : En4 20 B20:=f4 fit10 fun _ _ _ _ _ _ => by kernel_rfl
theorem e5 : En7 5 B5:=l7 2 58 [0, 5, 6, 7, 8, 9, 13] (by kernel_rfl) fit10 fun _ _ _ _ _ _ _ _ _ => by kernel_rfl
theorem e16 : En2 16 B16:=f2 fit8 fun _ _ _ _ => by kernel_rfl
theorem e14 : En2 14 B14:=f2 fit7 fun _ _ _ _ => by kernel_rfl
theorem e12 : En2 12 B12:=f2 fit6 fun _ _ _ _ => by kernel_rfl
theorem e7 : En1 7 B7:=l1 3 31 [0] (by kernel_rfl) fit6 fun _ _ _ => by kernel_rfl
theorem e10 : En1 10 B10:=f1 fit5 fun _ _ _ => by kernel_rfl
theorem e9 : En6 9 B9:=l6 4 2042 [1, 3, 5, 7, 8, 9] (by kernel_rfl) fit5 fun _ _ _ _ _ _ _ _ => by kernel_rfl
theorem e11 : En8 11 B11:=l8 5 4090 [1, 3, 5, 7, 8, 78, 79, 80] (by kernel_rfl) fit5 fun _ _ _ _ _ _ _ _ _ _ => by kernel_rfl
theorem e13 : En5 13 B13:=l5 6 65530 [1, 3, 5, 7, 23] (by kernel_rfl) fit5 fun _ _ _ _ _ _ _ => by kernel_rfl
theorem e15 : En5 15 B15:=l5 7 131066 [1, 3, 5, 7, 25] (by kernel_rfl) fit5 fun _ _ _ _ _ _ _ => by kernel_rfl
theorem e17 : En5 17 B17:=l5 8 524243 [1, 3, 5, 7, 23] (by kernel_rfl) fit5 fun _ _ _ _ _ _ _ => by kernel_rfl
theorem e62 : En2 62 B62:=f2 fit31 fun _ _ _ _ => by kernel_rfl
theorem e19 : En1 19 B19:=l1 9 7 [4] (by kernel_rfl) fit31 fun _ _ _ => by kernel_rfl
theorem e60 : En3 60 B60:=f3 fit30 fun _ _ _ _ _ => by kernel_rfl
theorem e70 : En2 70 B70:=f2 fit35 fun _ _ _ _ => by kernel_rfl
theorem e72 : En1 72 B72:=f1 fit36 fun _ _ _ => by kernel_rfl
theorem e82 : En1 82 B82:=f1 fit41 fun _ _ _ => by kernel_rfl
theorem e66 : En2 66 B66:=f2 fit33 fun _ _ _ _ => by kernel_rfl
theorem e64 : En2 64 B64:=f2 fit32 fun _ _ _ _ => by kernel_rfl
theorem e68 : En4 68 B68:=f4 fit34 fun _ _ _ _ _ _ => by kernel_rfl
theorem e58 : En4 58 B58:=f4 fit29 fun _ _ _ _ _ _ => by kernel_rfl
theorem e21 : En1 21 B21:=l1 10 255 [10] (by kernel_rfl) fit29 fun _ _ _ => by kernel_rfl
theorem e56 : En4 56 B56:=f4 fit28 fun _ _ _ _ _ _ => by kernel_rfl
theorem e23 : En1 23 B23:=l1 11 127 [10] (by kernel_rfl) fit28 fun _ _ _ => by kernel_rfl
theorem e42 : En0 42 B42:=f0 fit21 fun _ _ => by kernel_rfl
theorem e54 : En3 54 B54:=f3 fit27 fun _ _ _ _ _ => by kernel_rfl
theorem e25 : En0 25 B25:=l0 12 127 [] (by kernel_rfl) fit27 fun _ _ => by kernel_rfl
theorem e52 : En3 52 B52:=f3 fit26 fun _ _ _ _ _ => by kernel_rfl
theorem e50 : En3 50 B50:=f3 fit25 fun _ _ _ _ _ => by kernel_rfl
theorem e27 : En5 27 B27:=l5 13 58 [0, 1, 2, 6, 8] (by kernel_rfl) fit25 fun _ _ _ _ _ _ _ => by kernel_rfl
theorem e48 : En3 48 B48:=f3 fit24 fun _ _ _ _ _ => by kernel_rfl
theorem e46 : En2 46 B46:=f2 fit23 fun _ _ _ _ => by kernel_rfl
theorem e29 : En4 29 B29:=l4 14 58 [0, 1, 4, 6] (by kernel_rfl) fit23 fun _ _ _ _ _ _ => by kernel_rfl
theorem e44 : En2 44 B44:=f2 fit22 fun _ _ _ _ => by kernel_rfl
theorem e33 : En3 33 B33:=l3 16 63 [4, 8, 9] (by kernel_rfl) fit22 fun _ _ _ _ _ => by kernel_rfl
theorem e40 : En1 40 B40:=f1 fit20 fun _ _ _ => by kernel_rfl
theorem e38 : En1 38 B38:=f1 fit19 fun _ _ _ => by kernel_rfl
theorem e36 : En5 36 B36:=f5 fit18 fun _ _ _ _ _ _ _ => by kernel_rfl
theorem e34 : En1 34 B34:=f1 fit17 fun _ _ _ => by kernel_rfl
theorem e32 : En1 32 B32:=f1 fit16 fun _ _ _ => by kernel_rfl
theorem e144 : En1 144 B144:=f1 fit72 fun _ _ _ => by kernel_rfl
theorem e142 : En2 142 B142:=f2 fit71 fun _ _ _ _ => by kernel_rfl
theorem e152 : En3 152 B152:=f3 fit76 fun _ _ _ _ _ => by kernel_rfl
theorem e150 : En2 150 B150:=f2 fit75 fun _ _ _ _ => by kernel_rfl
theorem e148 : En4 148 B148:=f4 fit74 fun _ _ _ _ _ _ => by kernel_rfl
theorem e146 : En2 146 B146:=f2 fit73 fun _ _ _ _ => by kernel_rfl
theorem e140 : En3 140 B140:=f3 fit70 fun _ _ _ _ _ => by kernel_rfl
theorem e35 : En5 35 B35:=l5 17 1018 [0, 4, 5, 8, 9] (by kernel_rfl) fit70 fun _ _ _ _ _ _ _ => by kernel_rfl
theorem e37 : En5 37 B37:=l5 18 8147 [0, 4, 5, 8, 9] (by kernel_rfl) fit70 fun _ _ _ _ _ _ _ => by kernel_rfl
theorem e138 : En1 138 B138:=f1 fit69 fun _ _ _ => by kernel_rfl
theorem e39 : En3 39 B39:=l3 19 58 [0, 3, 4] (by kernel_rfl) fit69 fun _ _ _ _ _ => by kernel_rfl
theorem e136 : En2 136 B136:=f2 fit68 fun _ _ _ _ => by kernel_rfl
theorem e134 : En2 134 B134:=f2 fit67 fun _ _ _ _ => by kernel_rfl
theorem e132 : En1 132 B132:=f1 fit66 fun _ _ _ => by kernel_rfl
theorem e120 : En2 120 B120:=f2 fit60 fun _ _ _ _ => by kernel_rfl
theorem e110 : En2 110 B110:=f2 fit55 fun _ _ _ _ => by kernel_rfl
theorem e128 : En3 128 B128:=f3 fit64 fun _ _ _ _ _ => by kernel_rfl
theorem e130 : En1 130 B130:=f1 fit65 fun _ _ _ => by kernel_rfl
theorem e41 : En4 41 B41:=l4 20 122 [3, 12, 13, 14] (by kernel_rfl) fit65 fun _ _ _ _ _ _ => by kernel_rfl
theorem e43 : En4 43 B43:=l4 21 1959 [3, 12, 13, 14] (by kernel_rfl) fit65 fun _ _ _ _ _ _ => by kernel_rfl
theorem e126 : En3 126 B126:=f3 fit63 fun _ _ _ _ _ => by kernel_rfl
theorem e45 : En3 45 B45:=l3 22 127 [0, 4, 5] (by kernel_rfl) fit63 fun _ _ _ _ _ => by kernel_rfl
theorem e47 : En6 47 B47:=l6 23 8110 [0, 4, 5, 83, 84, 85] (by kernel_rfl) fit63 fun _ _ _ _ _ _ _ _ => by kernel_rfl
theorem e124 : En1 124 B124:=f1 fit62 fun _ _ _ => by kernel_rfl
theorem e122 : En2 122 B122:=f2 fit61 fun _ _ _ _ => by kernel_rfl
theorem e102 : En1 102 B102:=f1 fit51 fun _ _ _ => by kernel_rfl
theorem e108 : En3 108 B108:=f3 fit54 fun _ _ _ _ _ => by kernel_rfl
theorem e49 : En5 49 B49:=l5 24 124 [0, 1, 2, 6, 8] (by kernel_rfl) fit54 fun _ _ _ _ _ _ _ => by kernel_rfl
theorem e51 : En4 51 B51:=l4 25 511 [0, 2, 6, 8] (by kernel_rfl) fit54 fun _ _ _ _ _ _ => by kernel_rfl
theorem e53 : En5 53 B53:=l5 26 8186 [0, 2, 6, 8, 9] (by kernel_rfl) fit54 fun _ _ _ _ _ _ _ => by kernel_rfl
theorem e118 : En2 118 B118:=f2 fit59 fun _ _ _ _ => by kernel_rfl
theorem e55 : En3 55 B55:=l3 27 26 [0, 3, 5] (by kernel_rfl) fit59 fun _ _ _ _ _ => by kernel_rfl
theorem e104 : En3 104 B104:=f3 fit52 fun _ _ _ _ _ => by kernel_rfl
theorem e57 : En4 57 B57:=l4 28 63 [0, 1, 6, 8] (by kernel_rfl) fit52 fun _ _ _ _ _ _ => by kernel_rfl
theorem e116 : En1 116 B116:=f1 fit58 fun _ _ _ => by kernel_rfl
theorem e114 : En2 114 B114:=f2 fit57 fun _ _ _ _ => by kernel_rfl
theorem e106 : En0 106 B106:=f0 fit53 fun _ _ => by kernel_rfl
theorem e100 : En1 100 B100:=f1 fit50 fun _ _ _ => by kernel_rfl
theorem e172 : En1 172 B172:=f1 fit86 fun _ _ _ => by kernel_rfl
theorem e192 : En2 192 B192:=f2 fit96 fun _ _ _ _ => by kernel_rfl
theorem e59 : En3 59 B59:=l3 29 26 [0, 3, 5] (by kernel_rfl) fit96 fun _ _ _ _ _ => by kernel_rfl
theorem e188 : En1 188 B188:=f1 fit94 fun _ _ _ => by kernel_rfl
theorem e168 : En1 168 B168:=f1 fit84 fun _ _ _ => by kernel_rfl
theorem e190 : En1 190 B190:=f1 fit95 fun _ _ _ => by kernel_rfl
theorem e186 : En1 186 B186:=f1 fit93 fun _ _ _ => by kernel_rfl
theorem e184 : En2 184 B184:=f2 fit92 fun _ _ _ _ => by kernel_rfl
theorem e174 : En1 174 B174:=f1 fit87 fun _ _ _ => by kernel_rfl
theorem e180 : En1 180 B180:=f1 fit90 fun _ _ _ => by kernel_rfl
theorem e182 : En2 182 B182:=f2 fit91 fun _ _ _ _ => by kernel_rfl
theorem e61 : En4 61 B61:=l4 30 122 [0, 1, 5, 6] (by kernel_rfl) fit91 fun _ _ _ _ _ _ => by kernel_rfl
theorem e63 : En4 63 B63:=l4 31 979 [0, 1, 5, 6] (by kernel_rfl) fit91 fun _ _ _ _ _ _ => by kernel_rfl
theorem e178 : En2 178 B178:=f2 fit89 fun _ _ _ _ => by kernel_rfl
theorem e176 : En1 176 B176:=f1 fit88 fun _ _ _ => by kernel_rfl
theorem e166 : En2 166 B166:=f2 fit83 fun _ _ _ _ => by kernel_rfl
theorem e170 : En2 170 B170:=f2 fit85 fun _ _ _ _ => by kernel_rfl
theorem e65 : En4 65 B65:=l4 32 26 [0, 1, 7, 8] (by kernel_rfl) fit85 fun _ _ _ _ _ _ => by kernel_rfl
theorem e202 : En1 202 B202:=f1 fit101 fun _ _ _ => by kernel_rfl
theorem e67 : En3 67 B67:=l3 33 58 [0, 3, 4] (by kernel_rfl) fit101 fun _ _ _ _ _ => by kernel_rfl
theorem e69 : En3 69 B69:=l3 34 467 [0, 3, 4] (by kernel_rfl) fit101 fun _ _ _ _ _ => by kernel_rfl
theorem e204 : En2 204 B204:=f2 fit102 fun _ _ _ _ => by kernel_rfl
theorem e71 : En4 71 B71:=l4 35 26 [0, 1, 7, 8] (by kernel_rfl) fit102 fun _ _ _ _ _ _ => by kernel_rfl
theorem e8 : En3 8 B8:=f3 fit4 fun _ _ _ _ _ => by kernel_rfl
theorem e75 : En4 75 B75:=l4 37 31 [4, 7, 8, 9] (by kernel_rfl) fit4 fun _ _ _ _ _ _ => by kernel_rfl
theorem e77 : En6 77 B77:=l6 38 506 [7, 8, 9, 10, 11, 12] (by kernel_rfl) fit4 fun _ _ _ _ _ _ _ _ => by kernel_rfl
theorem e79 : En5 79 B79:=l5 39 511 [7, 8, 9, 10, 11] (by kernel_rfl) fit4 fun _ _ _ _ _ _ _ => by kernel_rfl
theorem e81 : En6 81 B81:=l6 40 1018 [7, 8, 9, 10, 11, 13] (by kernel_rfl) fit4 fun _ _ _ _ _ _ _ _ => by kernel_rfl
theorem e83 : En3 83 B83:=l3 41 1023 [7, 8, 9] (by kernel_rfl) fit4 fun _ _ _ _ _ => by kernel_rfl
theorem e85 : En6 85 B85:=l6 42 2025 [7, 8, 9, 10, 11, 12] (by kernel_rfl) fit4 fun _ _ _ _ _ _ _ _ => by kernel_rfl
theorem e87 : En6 87 B87:=l6 43 4051 [7, 8, 9, 10, 11, 12] (by kernel_rfl) fit4 fun _ _ _ _ _ _ _ _ => by kernel_rfl
theorem e89 : En6 89 B89:=l6 44 4073 [7, 8, 9, 10, 11, 13] (by kernel_rfl) fit4 fun _ _ _ _ _ _ _ _ => by kernel_rfl
theorem e91 : En3 91 B91:=l3 45 4095 [9, 14, 15] (by kernel_rfl) fit4 fun _ _ _ _ _ => by kernel_rfl
theorem e93 : En6 93 B93:=l6 46 8147 [7, 8, 9, 10, 11, 13] (by kernel_rfl) fit4 fun _ _ _ _ _ _ _ _ => by kernel_rfl
theorem e95 : En8 95 B95:=l8 47 131066 [9, 14, 15, 16, 17, 19, 200, 201] (by kernel_rfl) fit4 fun _ _ _ _ _ _ _ _ _ _ => by kernel_rfl
theorem e97 : En8 97 B97:=l8 48 1048531 [9, 14, 15, 16, 17, 19, 200, 201] (by kernel_rfl) fit4 fun _ _ _ _ _ _ _ _ _ _ => by kernel_rfl
theorem e99 : En8 99 B99:=l8 49 2097063 [9, 14, 15, 16, 17, 19, 200, 201] (by kernel_rfl) fit4 fun _ _ _ _ _ _ _ _ _ _ => by kernel_rfl
theorem e30 : En1 30 B30:=f1 fit15 fun _ _ _ => by kernel_rfl
theorem e26 : En4 26 B26:=f4 fit13 fun _ _ _ _ _ _ => by kernel_rfl
theorem e101 : En4 101 B101:=l4 50 117 [0, 6, 7, 8] (by kernel_rfl) fit13 fun _ _ _ _ _ _ => by kernel_rfl
theorem e103 : En4 103 B103:=l4 51 1857 [0, 6, 7, 8] (by kernel_rfl) fit13 fun _ _ _ _ _ _ => by kernel_rfl
theorem e105 : En6 105 B105:=l6 52 29697 [0, 1, 6, 7, 8, 9] (by kernel_rfl) fit13 fun _ _ _ _ _ _ _ _ => by kernel_rfl
theorem e107 : En4 107 B107:=l4 53 118789 [1, 6, 7, 8] (by kernel_rfl) fit13 fun _ _ _ _ _ _ => by kernel_rfl
theorem e28 : En3 28 B28:=f3 fit14 fun _ _ _ _ _ => by kernel_rfl
theorem e109 : En5 109 B109:=l5 54 1857 [0, 1, 5, 6, 7] (by kernel_rfl) fit14 fun _ _ _ _ _ _ _ => by kernel_rfl
theorem e88 : En1 88 B88:=f1 fit44 fun _ _ _ => by kernel_rfl
theorem e86 : En4 86 B86:=f4 fit43 fun _ _ _ _ _ _ => by kernel_rfl
theorem e90 : En5 90 B90:=f5 fit45 fun _ _ _ _ _ _ _ => by kernel_rfl
theorem e92 : En4 92 B92:=f4 fit46 fun _ _ _ _ _ _ => by kernel_rfl
theorem e111 : En4 111 B111:=l4 55 63 [0, 1, 6, 8] (by kernel_rfl) fit46 fun _ _ _ _ _ _ => by kernel_rfl
theorem e84 : En3 84 B84:=f3 fit42 fun _ _ _ _ _ => by kernel_rfl
theorem e113 : En3 113 B113:=l3 56 127 [0, 4, 6] (by kernel_rfl) fit42 fun _ _ _ _ _ => by kernel_rfl
theorem e96 : En3 96 B96:=f3 fit48 fun _ _ _ _ _ => by kernel_rfl
theorem e115 : En4 115 B115:=l4 57 15 [0, 5, 6, 7] (by kernel_rfl) fit48 fun _ _ _ _ _ _ => by kernel_rfl
theorem e94 : En3 94 B94:=f3 fit47 fun _ _ _ _ _ => by kernel_rfl
theorem e117 : En5 117 B117:=l5 58 3455 [0, 1, 2, 10, 26] (by kernel_rfl) fit47 fun _ _ _ _ _ _ _ => by kernel_rfl
theorem e98 : En2 98 B98:=f2 fit49 fun _ _ _ _ => by kernel_rfl
theorem e158 : En2 158 B158:=f2 fit79 fun _ _ _ _ => by kernel_rfl
theorem e78 : En2 78 B78:=f2 fit39 fun _ _ _ _ => by kernel_rfl
theorem e156 : En3 156 B156:=f3 fit78 fun _ _ _ _ _ => by kernel_rfl
theorem e154 : En2 154 B154:=f2 fit77 fun _ _ _ _ => by kernel_rfl
theorem e162 : En2 162 B162:=f2 fit81 fun _ _ _ _ => by kernel_rfl
theorem e160 : En2 160 B160:=f2 fit80 fun _ _ _ _ => by kernel_rfl
theorem e119 : En2 119 B119:=l2 59 31 [6, 7] (by kernel_rfl) fit80 fun _ _ _ _ => by kernel_rfl
theorem e164 : En2 164 B164:=f2 fit82 fun _ _ _ _ => by kernel_rfl
theorem e194 : En1 194 B194:=f1 fit97 fun _ _ _ => by kernel_rfl
theorem e198 : En1 198 B198:=f1 fit99 fun _ _ _ => by kernel_rfl
theorem e121 : En2 121 B121:=l2 60 28 [0, 3] (by kernel_rfl) fit99 fun _ _ _ _ => by kernel_rfl
theorem e206 : En2 206 B206:=f2 fit103 fun _ _ _ _ => by kernel_rfl
end
end
end Go.MS
end
