/- A part of the proof. -/
import Derived.Test.YthbcbfgpfpogkaaGreatPFPa
import Derived.Test.YthbcbfgpfpogkaaGreatPMidWA
import Derived.KernelRfl
import Derived.Test.YthbcbfgpfpogkaaGreatPMidPC
set_option linter.all false
set_option warn.classDefReducibility false
noncomputable section
section
open Go Go.Mid Go.Proofs
set_option maxRecDepth 100000
namespace Go.FP
section
section
structure Inv (w : World) : Prop where
 c0 : ∃ m, w.cell? ⟨0, 0, none⟩ = some (.int .i64 m)
 size : 1 ≤ w.heap.size
def fnA (f : FuncId) (vs : List V) (h : Hp) : Option (V × Hp) := bif Nat.beq f 144 then containsF vs h else bif Nat.beq f 5 then (match vs with
 | [] => some (.bool true, h)
 | _ => none) else none
@[reducible] def orc (fn : FuncId → List V → Hp → Option (V × Hp)) (I : World → Prop) : Orc := ⟨1, fn, kdF Tryz.prog, opF Tryz.prog, I, itr0⟩
def M : Nat → List V → Hp → VH := @lim Tryz.prog (orc fnA Inv) labs
abbrev dF (k : Nat) (c : Cuts) (ih : II) (r : List V) (h : Hp) : VH := @denF Tryz.prog (orc fnA Inv) ih 100000 c r h (Tryz.prog.funcs[k]?)
abbrev dL (k : Nat) (c : Cuts) (q : Nat) (v : List Tmp) (ih : II) (r : List V) (h : Hp) : VH := @denL Tryz.prog (orc fnA Inv) ih 100000 c q v r h (Tryz.prog.funcs[k]?)
def En0 (k : Nat) (B : II → Hp → VH) : Prop := ∀ (h : Hp) (p : V × Hp), B M h = some p → M k [] h = some p
theorem l0 (l : Nat) (q : Nat) (lv : List Tmp) {f : FuncId} {cs : Cuts} (hl : labs.get l = some (f, q, lv)) (hf : cutsFit labs f cs = true) {B : II → Hp → VH} (e : ∀ (ih : II) (h : Hp), B ih h = dL f cs q lv ih [] h) : En0 (2 * l + 1) B := fun h p hp => @lim_ent Tryz.prog (orc fnA Inv) labs (2 * l + 1) (fun ih vs h => (nilE (B ih h)) vs) (@entL Tryz.prog (orc fnA Inv) labs l _ f q lv 100000 cs hl hf fun ih vs h => nilE_le (X := fun r => dL f cs q lv ih (r) h) (e ih h) vs) [] h p hp
theorem t0 {k : Nat} {B : II → Hp → VH} (e : En0 k B) {h : Hp} {ro : Bool} {F : List Asn} {Q : V → List Asn → Prop} (hk : Lo ro h h → Tri h ro F Q (B M h)) : Tri h ro F Q (M k [] h) := Tri.call (fun p => e h p) (hk (Lo.refl ro h))
def En1 (k : Nat) (B : II → V → Hp → VH) : Prop := ∀ (x0 : V) (h : Hp) (p : V × Hp), B M x0 h = some p → M k [x0] h = some p
theorem f1 {f : FuncId} {cs : Cuts} (hf : cutsFit labs f cs = true) {B : II → V → Hp → VH} (e : ∀ (ih : II) (x0 : V) (h : Hp), B ih x0 h = dF f cs ih [x0] h) (ho : ∀ vs h, fnA f vs h = none := by exact fun _ _ => rfl) : En1 (2 * f) B := fun x0 h p hp => @lim_ent Tryz.prog (orc fnA Inv) labs (2 * f) (fun ih vs h => (consE fun x0 => (nilE (B ih x0 h))) vs) (@entF Tryz.prog (orc fnA Inv) labs f _ ho 100000 cs hf fun ih vs h => consE_le (X := fun r => dF f cs ih (r) h) (fun x0 r0 => nilE_le (X := fun r => dF f cs ih (x0 :: r) h) (e ih x0 h) r0) vs) [x0] h p hp
theorem l1 (l : Nat) (q : Nat) (lv : List Tmp) {f : FuncId} {cs : Cuts} (hl : labs.get l = some (f, q, lv)) (hf : cutsFit labs f cs = true) {B : II → V → Hp → VH} (e : ∀ (ih : II) (x0 : V) (h : Hp), B ih x0 h = dL f cs q lv ih [x0] h) : En1 (2 * l + 1) B := fun x0 h p hp => @lim_ent Tryz.prog (orc fnA Inv) labs (2 * l + 1) (fun ih vs h => (consE fun x0 => (nilE (B ih x0 h))) vs) (@entL Tryz.prog (orc fnA Inv) labs l _ f q lv 100000 cs hl hf fun ih vs h => consE_le (X := fun r => dL f cs q lv ih (r) h) (fun x0 r0 => nilE_le (X := fun r => dL f cs q lv ih (x0 :: r) h) (e ih x0 h) r0) vs) [x0] h p hp
theorem t1 {k : Nat} {B : II → V → Hp → VH} (e : En1 k B) {x0 : V} {h : Hp} {ro : Bool} {F : List Asn} {Q : V → List Asn → Prop} (hk : Lo ro h h → Tri h ro F Q (B M x0 h)) : Tri h ro F Q (M k [x0] h) := Tri.call (fun p => e x0 h p) (hk (Lo.refl ro h))
def En2 (k : Nat) (B : II → V → V → Hp → VH) : Prop := ∀ (x0 x1 : V) (h : Hp) (p : V × Hp), B M x0 x1 h = some p → M k [x0, x1] h = some p
theorem f2 {f : FuncId} {cs : Cuts} (hf : cutsFit labs f cs = true) {B : II → V → V → Hp → VH} (e : ∀ (ih : II) (x0 x1 : V) (h : Hp), B ih x0 x1 h = dF f cs ih [x0, x1] h) (ho : ∀ vs h, fnA f vs h = none := by exact fun _ _ => rfl) : En2 (2 * f) B := fun x0 x1 h p hp => @lim_ent Tryz.prog (orc fnA Inv) labs (2 * f) (fun ih vs h => (consE fun x0 => (consE fun x1 => (nilE (B ih x0 x1 h)))) vs) (@entF Tryz.prog (orc fnA Inv) labs f _ ho 100000 cs hf fun ih vs h => consE_le (X := fun r => dF f cs ih (r) h) (fun x0 r0 => consE_le (X := fun r => dF f cs ih (x0 :: r) h) (fun x1 r1 => nilE_le (X := fun r => dF f cs ih (x0 :: x1 :: r) h) (e ih x0 x1 h) r1) r0) vs) [x0, x1] h p hp
theorem l2 (l : Nat) (q : Nat) (lv : List Tmp) {f : FuncId} {cs : Cuts} (hl : labs.get l = some (f, q, lv)) (hf : cutsFit labs f cs = true) {B : II → V → V → Hp → VH} (e : ∀ (ih : II) (x0 x1 : V) (h : Hp), B ih x0 x1 h = dL f cs q lv ih [x0, x1] h) : En2 (2 * l + 1) B := fun x0 x1 h p hp => @lim_ent Tryz.prog (orc fnA Inv) labs (2 * l + 1) (fun ih vs h => (consE fun x0 => (consE fun x1 => (nilE (B ih x0 x1 h)))) vs) (@entL Tryz.prog (orc fnA Inv) labs l _ f q lv 100000 cs hl hf fun ih vs h => consE_le (X := fun r => dL f cs q lv ih (r) h) (fun x0 r0 => consE_le (X := fun r => dL f cs q lv ih (x0 :: r) h) (fun x1 r1 => nilE_le (X := fun r => dL f cs q lv ih (x0 :: x1 :: r) h) (e ih x0 x1 h) r1) r0) vs) [x0, x1] h p hp
theorem t2 {k : Nat} {B : II → V → V → Hp → VH} (e : En2 k B) {x0 x1 : V} {h : Hp} {ro : Bool} {F : List Asn} {Q : V → List Asn → Prop} (hk : Lo ro h h → Tri h ro F Q (B M x0 x1 h)) : Tri h ro F Q (M k [x0, x1] h) := Tri.call (fun p => e x0 x1 h p) (hk (Lo.refl ro h))
def En3 (k : Nat) (B : II → V → V → V → Hp → VH) : Prop := ∀ (x0 x1 x2 : V) (h : Hp) (p : V × Hp), B M x0 x1 x2 h = some p → M k [x0, x1, x2] h = some p
theorem f3 {f : FuncId} {cs : Cuts} (hf : cutsFit labs f cs = true) {B : II → V → V → V → Hp → VH} (e : ∀ (ih : II) (x0 x1 x2 : V) (h : Hp), B ih x0 x1 x2 h = dF f cs ih [x0, x1, x2] h) (ho : ∀ vs h, fnA f vs h = none := by exact fun _ _ => rfl) : En3 (2 * f) B := fun x0 x1 x2 h p hp => @lim_ent Tryz.prog (orc fnA Inv) labs (2 * f) (fun ih vs h => (consE fun x0 => (consE fun x1 => (consE fun x2 => (nilE (B ih x0 x1 x2 h))))) vs) (@entF Tryz.prog (orc fnA Inv) labs f _ ho 100000 cs hf fun ih vs h => consE_le (X := fun r => dF f cs ih (r) h) (fun x0 r0 => consE_le (X := fun r => dF f cs ih (x0 :: r) h) (fun x1 r1 => consE_le (X := fun r => dF f cs ih (x0 :: x1 :: r) h) (fun x2 r2 => nilE_le (X := fun r => dF f cs ih (x0 :: x1 :: x2 :: r) h) (e ih x0 x1 x2 h) r2) r1) r0) vs) [x0, x1, x2] h p hp
theorem l3 (l : Nat) (q : Nat) (lv : List Tmp) {f : FuncId} {cs : Cuts} (hl : labs.get l = some (f, q, lv)) (hf : cutsFit labs f cs = true) {B : II → V → V → V → Hp → VH} (e : ∀ (ih : II) (x0 x1 x2 : V) (h : Hp), B ih x0 x1 x2 h = dL f cs q lv ih [x0, x1, x2] h) : En3 (2 * l + 1) B := fun x0 x1 x2 h p hp => @lim_ent Tryz.prog (orc fnA Inv) labs (2 * l + 1) (fun ih vs h => (consE fun x0 => (consE fun x1 => (consE fun x2 => (nilE (B ih x0 x1 x2 h))))) vs) (@entL Tryz.prog (orc fnA Inv) labs l _ f q lv 100000 cs hl hf fun ih vs h => consE_le (X := fun r => dL f cs q lv ih (r) h) (fun x0 r0 => consE_le (X := fun r => dL f cs q lv ih (x0 :: r) h) (fun x1 r1 => consE_le (X := fun r => dL f cs q lv ih (x0 :: x1 :: r) h) (fun x2 r2 => nilE_le (X := fun r => dL f cs q lv ih (x0 :: x1 :: x2 :: r) h) (e ih x0 x1 x2 h) r2) r1) r0) vs) [x0, x1, x2] h p hp
theorem t3 {k : Nat} {B : II → V → V → V → Hp → VH} (e : En3 k B) {x0 x1 x2 : V} {h : Hp} {ro : Bool} {F : List Asn} {Q : V → List Asn → Prop} (hk : Lo ro h h → Tri h ro F Q (B M x0 x1 x2 h)) : Tri h ro F Q (M k [x0, x1, x2] h) := Tri.call (fun p => e x0 x1 x2 h p) (hk (Lo.refl ro h))
def En4 (k : Nat) (B : II → V → V → V → V → Hp → VH) : Prop := ∀ (x0 x1 x2 x3 : V) (h : Hp) (p : V × Hp), B M x0 x1 x2 x3 h = some p → M k [x0, x1, x2, x3] h = some p
theorem f4 {f : FuncId} {cs : Cuts} (hf : cutsFit labs f cs = true) {B : II → V → V → V → V → Hp → VH} (e : ∀ (ih : II) (x0 x1 x2 x3 : V) (h : Hp), B ih x0 x1 x2 x3 h = dF f cs ih [x0, x1, x2, x3] h) (ho : ∀ vs h, fnA f vs h = none := by exact fun _ _ => rfl) : En4 (2 * f) B := fun x0 x1 x2 x3 h p hp => @lim_ent Tryz.prog (orc fnA Inv) labs (2 * f) (fun ih vs h => (consE fun x0 => (consE fun x1 => (consE fun x2 => (consE fun x3 => (nilE (B ih x0 x1 x2 x3 h)))))) vs) (@entF Tryz.prog (orc fnA Inv) labs f _ ho 100000 cs hf fun ih vs h => consE_le (X := fun r => dF f cs ih (r) h) (fun x0 r0 => consE_le (X := fun r => dF f cs ih (x0 :: r) h) (fun x1 r1 => consE_le (X := fun r => dF f cs ih (x0 :: x1 :: r) h) (fun x2 r2 => consE_le (X := fun r => dF f cs ih (x0 :: x1 :: x2 :: r) h) (fun x3 r3 => nilE_le (X := fun r => dF f cs ih (x0 :: x1 :: x2 :: x3 :: r) h) (e ih x0 x1 x2 x3 h) r3) r2) r1) r0) vs) [x0, x1, x2, x3] h p hp
theorem l4 (l : Nat) (q : Nat) (lv : List Tmp) {f : FuncId} {cs : Cuts} (hl : labs.get l = some (f, q, lv)) (hf : cutsFit labs f cs = true) {B : II → V → V → V → V → Hp → VH} (e : ∀ (ih : II) (x0 x1 x2 x3 : V) (h : Hp), B ih x0 x1 x2 x3 h = dL f cs q lv ih [x0, x1, x2, x3] h) : En4 (2 * l + 1) B := fun x0 x1 x2 x3 h p hp => @lim_ent Tryz.prog (orc fnA Inv) labs (2 * l + 1) (fun ih vs h => (consE fun x0 => (consE fun x1 => (consE fun x2 => (consE fun x3 => (nilE (B ih x0 x1 x2 x3 h)))))) vs) (@entL Tryz.prog (orc fnA Inv) labs l _ f q lv 100000 cs hl hf fun ih vs h => consE_le (X := fun r => dL f cs q lv ih (r) h) (fun x0 r0 => consE_le (X := fun r => dL f cs q lv ih (x0 :: r) h) (fun x1 r1 => consE_le (X := fun r => dL f cs q lv ih (x0 :: x1 :: r) h) (fun x2 r2 => consE_le (X := fun r => dL f cs q lv ih (x0 :: x1 :: x2 :: r) h) (fun x3 r3 => nilE_le (X := fun r => dL f cs q lv ih (x0 :: x1 :: x2 :: x3 :: r) h) (e ih x0 x1 x2 x3 h) r3) r2) r1) r0) vs) [x0, x1, x2, x3] h p hp
theorem t4 {k : Nat} {B : II → V → V → V → V → Hp → VH} (e : En4 k B) {x0 x1 x2 x3 : V} {h : Hp} {ro : Bool} {F : List Asn} {Q : V → List Asn → Prop} (hk : Lo ro h h → Tri h ro F Q (B M x0 x1 x2 x3 h)) : Tri h ro F Q (M k [x0, x1, x2, x3] h) := Tri.call (fun p => e x0 x1 x2 x3 h p) (hk (Lo.refl ro h))
def En5 (k : Nat) (B : II → V → V → V → V → V → Hp → VH) : Prop := ∀ (x0 x1 x2 x3 x4 : V) (h : Hp) (p : V × Hp), B M x0 x1 x2 x3 x4 h = some p → M k [x0, x1, x2, x3, x4] h = some p
theorem f5 {f : FuncId} {cs : Cuts} (hf : cutsFit labs f cs = true) {B : II → V → V → V → V → V → Hp → VH} (e : ∀ (ih : II) (x0 x1 x2 x3 x4 : V) (h : Hp), B ih x0 x1 x2 x3 x4 h = dF f cs ih [x0, x1, x2, x3, x4] h) (ho : ∀ vs h, fnA f vs h = none := by exact fun _ _ => rfl) : En5 (2 * f) B := fun x0 x1 x2 x3 x4 h p hp => @lim_ent Tryz.prog (orc fnA Inv) labs (2 * f) (fun ih vs h => (consE fun x0 => (consE fun x1 => (consE fun x2 => (consE fun x3 => (consE fun x4 => (nilE (B ih x0 x1 x2 x3 x4 h))))))) vs) (@entF Tryz.prog (orc fnA Inv) labs f _ ho 100000 cs hf fun ih vs h => consE_le (X := fun r => dF f cs ih (r) h) (fun x0 r0 => consE_le (X := fun r => dF f cs ih (x0 :: r) h) (fun x1 r1 => consE_le (X := fun r => dF f cs ih (x0 :: x1 :: r) h) (fun x2 r2 => consE_le (X := fun r => dF f cs ih (x0 :: x1 :: x2 :: r) h) (fun x3 r3 => consE_le (X := fun r => dF f cs ih (x0 :: x1 :: x2 :: x3 :: r) h) (fun x4 r4 => nilE_le (X := fun r => dF f cs ih (x0 :: x1 :: x2 :: x3 :: x4 :: r) h) (e ih x0 x1 x2 x3 x4 h) r4) r3) r2) r1) r0) vs) [x0, x1, x2, x3, x4] h p hp
theorem l5 (l : Nat) (q : Nat) (lv : List Tmp) {f : FuncId} {cs : Cuts} (hl : labs.get l = some (f, q, lv)) (hf : cutsFit labs f cs = true) {B : II → V → V → V → V → V → Hp → VH} (e : ∀ (ih : II) (x0 x1 x2 x3 x4 : V) (h : Hp), B ih x0 x1 x2 x3 x4 h = dL f cs q lv ih [x0, x1, x2, x3, x4] h) : En5 (2 * l + 1) B := fun x0 x1 x2 x3 x4 h p hp => @lim_ent Tryz.prog (orc fnA Inv) labs (2 * l + 1) (fun ih vs h => (consE fun x0 => (consE fun x1 => (consE fun x2 => (consE fun x3 => (consE fun x4 => (nilE (B ih x0 x1 x2 x3 x4 h))))))) vs) (@entL Tryz.prog (orc fnA Inv) labs l _ f q lv 100000 cs hl hf fun ih vs h => consE_le (X := fun r => dL f cs q lv ih (r) h) (fun x0 r0 => consE_le (X := fun r => dL f cs q lv ih (x0 :: r) h) (fun x1 r1 => consE_le (X := fun r => dL f cs q lv ih (x0 :: x1 :: r) h) (fun x2 r2 => consE_le (X := fun r => dL f cs q lv ih (x0 :: x1 :: x2 :: r) h) (fun x3 r3 => consE_le (X := fun r => dL f cs q lv ih (x0 :: x1 :: x2 :: x3 :: r) h) (fun x4 r4 => nilE_le (X := fun r => dL f cs q lv ih (x0 :: x1 :: x2 :: x3 :: x4 :: r) h) (e ih x0 x1 x2 x3 x4 h) r4) r3) r2) r1) r0) vs) [x0, x1, x2, x3, x4] h p hp
theorem t5 {k : Nat} {B : II → V → V → V → V → V → Hp → VH} (e : En5 k B) {x0 x1 x2 x3 x4 : V} {h : Hp} {ro : Bool} {F : List Asn} {Q : V → List Asn → Prop} (hk : Lo ro h h → Tri h ro F Q (B M x0 x1 x2 x3 x4 h)) : Tri h ro F Q (M k [x0, x1, x2, x3, x4] h) := Tri.call (fun p => e x0 x1 x2 x3 x4 h p) (hk (Lo.refl ro h))
def En6 (k : Nat) (B : II → V → V → V → V → V → V → Hp → VH) : Prop := ∀ (x0 x1 x2 x3 x4 x5 : V) (h : Hp) (p : V × Hp), B M x0 x1 x2 x3 x4 x5 h = some p → M k [x0, x1, x2, x3, x4, x5] h = some p
theorem l6 (l : Nat) (q : Nat) (lv : List Tmp) {f : FuncId} {cs : Cuts} (hl : labs.get l = some (f, q, lv)) (hf : cutsFit labs f cs = true) {B : II → V → V → V → V → V → V → Hp → VH} (e : ∀ (ih : II) (x0 x1 x2 x3 x4 x5 : V) (h : Hp), B ih x0 x1 x2 x3 x4 x5 h = dL f cs q lv ih [x0, x1, x2, x3, x4, x5] h) : En6 (2 * l + 1) B := fun x0 x1 x2 x3 x4 x5 h p hp => @lim_ent Tryz.prog (orc fnA Inv) labs (2 * l + 1) (fun ih vs h => (consE fun x0 => (consE fun x1 => (consE fun x2 => (consE fun x3 => (consE fun x4 => (consE fun x5 => (nilE (B ih x0 x1 x2 x3 x4 x5 h)))))))) vs) (@entL Tryz.prog (orc fnA Inv) labs l _ f q lv 100000 cs hl hf fun ih vs h => consE_le (X := fun r => dL f cs q lv ih (r) h) (fun x0 r0 => consE_le (X := fun r => dL f cs q lv ih (x0 :: r) h) (fun x1 r1 => consE_le (X := fun r => dL f cs q lv ih (x0 :: x1 :: r) h) (fun x2 r2 => consE_le (X := fun r => dL f cs q lv ih (x0 :: x1 :: x2 :: r) h) (fun x3 r3 => consE_le (X := fun r => dL f cs q lv ih (x0 :: x1 :: x2 :: x3 :: r) h) (fun x4 r4 => consE_le (X := fun r => dL f cs q lv ih (x0 :: x1 :: x2 :: x3 :: x4 :: r) h) (fun x5 r5 => nilE_le (X := fun r => dL f cs q lv ih (x0 :: x1 :: x2 :: x3 :: x4 :: x5 :: r) h) (e ih x0 x1 x2 x3 x4 x5 h) r5) r4) r3) r2) r1) r0) vs) [x0, x1, x2, x3, x4, x5] h p hp
theorem t6 {k : Nat} {B : II → V → V → V → V → V → V → Hp → VH} (e : En6 k B) {x0 x1 x2 x3 x4 x5 : V} {h : Hp} {ro : Bool} {F : List Asn} {Q : V → List Asn → Prop} (hk : Lo ro h h → Tri h ro F Q (B M x0 x1 x2 x3 x4 x5 h)) : Tri h ro F Q (M k [x0, x1, x2, x3, x4, x5] h) := Tri.call (fun p => e x0 x1 x2 x3 x4 x5 h p) (hk (Lo.refl ro h))
def En7 (k : Nat) (B : II → V → V → V → V → V → V → V → Hp → VH) : Prop := ∀ (x0 x1 x2 x3 x4 x5 x6 : V) (h : Hp) (p : V × Hp), B M x0 x1 x2 x3 x4 x5 x6 h = some p → M k [x0, x1, x2, x3, x4, x5, x6] h = some p
theorem l7 (l : Nat) (q : Nat) (lv : List Tmp) {f : FuncId} {cs : Cuts} (hl : labs.get l = some (f, q, lv)) (hf : cutsFit labs f cs = true) {B : II → V → V → V → V → V → V → V → Hp → VH} (e : ∀ (ih : II) (x0 x1 x2 x3 x4 x5 x6 : V) (h : Hp), B ih x0 x1 x2 x3 x4 x5 x6 h = dL f cs q lv ih [x0, x1, x2, x3, x4, x5, x6] h) : En7 (2 * l + 1) B := fun x0 x1 x2 x3 x4 x5 x6 h p hp => @lim_ent Tryz.prog (orc fnA Inv) labs (2 * l + 1) (fun ih vs h => (consE fun x0 => (consE fun x1 => (consE fun x2 => (consE fun x3 => (consE fun x4 => (consE fun x5 => (consE fun x6 => (nilE (B ih x0 x1 x2 x3 x4 x5 x6 h))))))))) vs) (@entL Tryz.prog (orc fnA Inv) labs l _ f q lv 100000 cs hl hf fun ih vs h => consE_le (X := fun r => dL f cs q lv ih (r) h) (fun x0 r0 => consE_le (X := fun r => dL f cs q lv ih (x0 :: r) h) (fun x1 r1 => consE_le (X := fun r => dL f cs q lv ih (x0 :: x1 :: r) h) (fun x2 r2 => consE_le (X := fun r => dL f cs q lv ih (x0 :: x1 :: x2 :: r) h) (fun x3 r3 => consE_le (X := fun r => dL f cs q lv ih (x0 :: x1 :: x2 :: x3 :: r) h) (fun x4 r4 => consE_le (X := fun r => dL f cs q lv ih (x0 :: x1 :: x2 :: x3 :: x4 :: r) h) (fun x5 r5 => consE_le (X := fun r => dL f cs q lv ih (x0 :: x1 :: x2 :: x3 :: x4 :: x5 :: r) h) (fun x6 r6 => nilE_le (X := fun r => dL f cs q lv ih (x0 :: x1 :: x2 :: x3 :: x4 :: x5 :: x6 :: r) h) (e ih x0 x1 x2 x3 x4 x5 x6 h) r6) r5) r4) r3) r2) r1) r0) vs) [x0, x1, x2, x3, x4, x5, x6] h p hp
theorem t7 {k : Nat} {B : II → V → V → V → V → V → V → V → Hp → VH} (e : En7 k B) {x0 x1 x2 x3 x4 x5 x6 : V} {h : Hp} {ro : Bool} {F : List Asn} {Q : V → List Asn → Prop} (hk : Lo ro h h → Tri h ro F Q (B M x0 x1 x2 x3 x4 x5 x6 h)) : Tri h ro F Q (M k [x0, x1, x2, x3, x4, x5, x6] h) := Tri.call (fun p => e x0 x1 x2 x3 x4 x5 x6 h p) (hk (Lo.refl ro h))
def En8 (k : Nat) (B : II → V → V → V → V → V → V → V → V → Hp → VH) : Prop := ∀ (x0 x1 x2 x3 x4 x5 x6 x7 : V) (h : Hp) (p : V × Hp), B M x0 x1 x2 x3 x4 x5 x6 x7 h = some p → M k [x0, x1, x2, x3, x4, x5, x6, x7] h = some p
theorem l8 (l : Nat) (q : Nat) (lv : List Tmp) {f : FuncId} {cs : Cuts} (hl : labs.get l = some (f, q, lv)) (hf : cutsFit labs f cs = true) {B : II → V → V → V → V → V → V → V → V → Hp → VH} (e : ∀ (ih : II) (x0 x1 x2 x3 x4 x5 x6 x7 : V) (h : Hp), B ih x0 x1 x2 x3 x4 x5 x6 x7 h = dL f cs q lv ih [x0, x1, x2, x3, x4, x5, x6, x7] h) : En8 (2 * l + 1) B := fun x0 x1 x2 x3 x4 x5 x6 x7 h p hp => @lim_ent Tryz.prog (orc fnA Inv) labs (2 * l + 1) (fun ih vs h => (consE fun x0 => (consE fun x1 => (consE fun x2 => (consE fun x3 => (consE fun x4 => (consE fun x5 => (consE fun x6 => (consE fun x7 => (nilE (B ih x0 x1 x2 x3 x4 x5 x6 x7 h)))))))))) vs) (@entL Tryz.prog (orc fnA Inv) labs l _ f q lv 100000 cs hl hf fun ih vs h => consE_le (X := fun r => dL f cs q lv ih (r) h) (fun x0 r0 => consE_le (X := fun r => dL f cs q lv ih (x0 :: r) h) (fun x1 r1 => consE_le (X := fun r => dL f cs q lv ih (x0 :: x1 :: r) h) (fun x2 r2 => consE_le (X := fun r => dL f cs q lv ih (x0 :: x1 :: x2 :: r) h) (fun x3 r3 => consE_le (X := fun r => dL f cs q lv ih (x0 :: x1 :: x2 :: x3 :: r) h) (fun x4 r4 => consE_le (X := fun r => dL f cs q lv ih (x0 :: x1 :: x2 :: x3 :: x4 :: r) h) (fun x5 r5 => consE_le (X := fun r => dL f cs q lv ih (x0 :: x1 :: x2 :: x3 :: x4 :: x5 :: r) h) (fun x6 r6 => consE_le (X := fun r => dL f cs q lv ih (x0 :: x1 :: x2 :: x3 :: x4 :: x5 :: x6 :: r) h) (fun x7 r7 => nilE_le (X := fun r => dL f cs q lv ih (x0 :: x1 :: x2 :: x3 :: x4 :: x5 :: x6 :: x7 :: r) h) (e ih x0 x1 x2 x3 x4 x5 x6 x7 h) r7) r6) r5) r4) r3) r2) r1) r0) vs) [x0, x1, x2, x3, x4, x5, x6, x7] h p hp
theorem t8 {k : Nat} {B : II → V → V → V → V → V → V → V → V → Hp → VH} (e : En8 k B) {x0 x1 x2 x3 x4 x5 x6 x7 : V} {h : Hp} {ro : Bool} {F : List Asn} {Q : V → List Asn → Prop} (hk : Lo ro h h → Tri h ro F Q (B M x0 x1 x2 x3 x4 x5 x6 x7 h)) : Tri h ro F Q (M k [x0, x1, x2, x3, x4, x5, x6, x7] h) := Tri.call (fun p => e x0 x1 x2 x3 x4 x5 x6 x7 h p) (hk (Lo.refl ro h))
def En9 (k : Nat) (B : II → V → V → V → V → V → V → V → V → V → Hp → VH) : Prop := ∀ (x0 x1 x2 x3 x4 x5 x6 x7 x8 : V) (h : Hp) (p : V × Hp), B M x0 x1 x2 x3 x4 x5 x6 x7 x8 h = some p → M k [x0, x1, x2, x3, x4, x5, x6, x7, x8] h = some p
theorem l9 (l : Nat) (q : Nat) (lv : List Tmp) {f : FuncId} {cs : Cuts} (hl : labs.get l = some (f, q, lv)) (hf : cutsFit labs f cs = true) {B : II → V → V → V → V → V → V → V → V → V → Hp → VH} (e : ∀ (ih : II) (x0 x1 x2 x3 x4 x5 x6 x7 x8 : V) (h : Hp), B ih x0 x1 x2 x3 x4 x5 x6 x7 x8 h = dL f cs q lv ih [x0, x1, x2, x3, x4, x5, x6, x7, x8] h) : En9 (2 * l + 1) B := fun x0 x1 x2 x3 x4 x5 x6 x7 x8 h p hp => @lim_ent Tryz.prog (orc fnA Inv) labs (2 * l + 1) (fun ih vs h => (consE fun x0 => (consE fun x1 => (consE fun x2 => (consE fun x3 => (consE fun x4 => (consE fun x5 => (consE fun x6 => (consE fun x7 => (consE fun x8 => (nilE (B ih x0 x1 x2 x3 x4 x5 x6 x7 x8 h))))))))))) vs) (@entL Tryz.prog (orc fnA Inv) labs l _ f q lv 100000 cs hl hf fun ih vs h => consE_le (X := fun r => dL f cs q lv ih (r) h) (fun x0 r0 => consE_le (X := fun r => dL f cs q lv ih (x0 :: r) h) (fun x1 r1 => consE_le (X := fun r => dL f cs q lv ih (x0 :: x1 :: r) h) (fun x2 r2 => consE_le (X := fun r => dL f cs q lv ih (x0 :: x1 :: x2 :: r) h) (fun x3 r3 => consE_le (X := fun r => dL f cs q lv ih (x0 :: x1 :: x2 :: x3 :: r) h) (fun x4 r4 => consE_le (X := fun r => dL f cs q lv ih (x0 :: x1 :: x2 :: x3 :: x4 :: r) h) (fun x5 r5 => consE_le (X := fun r => dL f cs q lv ih (x0 :: x1 :: x2 :: x3 :: x4 :: x5 :: r) h) (fun x6 r6 => consE_le (X := fun r => dL f cs q lv ih (x0 :: x1 :: x2 :: x3 :: x4 :: x5 :: x6 :: r) h) (fun x7 r7 => consE_le (X := fun r => dL f cs q lv ih (x0 :: x1 :: x2 :: x3 :: x4 :: x5 :: x6 :: x7 :: r) h) (fun x8 r8 => nilE_le (X := fun r => dL f cs q lv ih (x0 :: x1 :: x2 :: x3 :: x4 :: x5 :: x6 :: x7 :: x8 :: r) h) (e ih x0 x1 x2 x3 x4 x5 x6 x7 x8 h) r8) r7) r6) r5) r4) r3) r2) r1) r0) vs) [x0, x1, x2, x3, x4, x5, x6, x7, x8] h p hp
theorem t9 {k : Nat} {B : II → V → V → V → V → V → V → V → V → V → Hp → VH} (e : En9 k B) {x0 x1 x2 x3 x4 x5 x6 x7 x8 : V} {h : Hp} {ro : Bool} {F : List Asn} {Q : V → List Asn → Prop} (hk : Lo ro h h → Tri h ro F Q (B M x0 x1 x2 x3 x4 x5 x6 x7 x8 h)) : Tri h ro F Q (M k [x0, x1, x2, x3, x4, x5, x6, x7, x8] h) := Tri.call (fun p => e x0 x1 x2 x3 x4 x5 x6 x7 x8 h p) (hk (Lo.refl ro h))
def En10 (k : Nat) (B : II → V → V → V → V → V → V → V → V → V → V → Hp → VH) : Prop := ∀ (x0 x1 x2 x3 x4 x5 x6 x7 x8 x9 : V) (h : Hp) (p : V × Hp), B M x0 x1 x2 x3 x4 x5 x6 x7 x8 x9 h = some p → M k [x0, x1, x2, x3, x4, x5, x6, x7, x8, x9] h = some p
theorem l10 (l : Nat) (q : Nat) (lv : List Tmp) {f : FuncId} {cs : Cuts} (hl : labs.get l = some (f, q, lv)) (hf : cutsFit labs f cs = true) {B : II → V → V → V → V → V → V → V → V → V → V → Hp → VH} (e : ∀ (ih : II) (x0 x1 x2 x3 x4 x5 x6 x7 x8 x9 : V) (h : Hp), B ih x0 x1 x2 x3 x4 x5 x6 x7 x8 x9 h = dL f cs q lv ih [x0, x1, x2, x3, x4, x5, x6, x7, x8, x9] h) : En10 (2 * l + 1) B := fun x0 x1 x2 x3 x4 x5 x6 x7 x8 x9 h p hp => @lim_ent Tryz.prog (orc fnA Inv) labs (2 * l + 1) (fun ih vs h => (consE fun x0 => (consE fun x1 => (consE fun x2 => (consE fun x3 => (consE fun x4 => (consE fun x5 => (consE fun x6 => (consE fun x7 => (consE fun x8 => (consE fun x9 => (nilE (B ih x0 x1 x2 x3 x4 x5 x6 x7 x8 x9 h)))))))))))) vs) (@entL Tryz.prog (orc fnA Inv) labs l _ f q lv 100000 cs hl hf fun ih vs h => consE_le (X := fun r => dL f cs q lv ih (r) h) (fun x0 r0 => consE_le (X := fun r => dL f cs q lv ih (x0 :: r) h) (fun x1 r1 => consE_le (X := fun r => dL f cs q lv ih (x0 :: x1 :: r) h) (fun x2 r2 => consE_le (X := fun r => dL f cs q lv ih (x0 :: x1 :: x2 :: r) h) (fun x3 r3 => consE_le (X := fun r => dL f cs q lv ih (x0 :: x1 :: x2 :: x3 :: r) h) (fun x4 r4 => consE_le (X := fun r => dL f cs q lv ih (x0 :: x1 :: x2 :: x3 :: x4 :: r) h) (fun x5 r5 => consE_le (X := fun r => dL f cs q lv ih (x0 :: x1 :: x2 :: x3 :: x4 :: x5 :: r) h) (fun x6 r6 => consE_le (X := fun r => dL f cs q lv ih (x0 :: x1 :: x2 :: x3 :: x4 :: x5 :: x6 :: r) h) (fun x7 r7 => consE_le (X := fun r => dL f cs q lv ih (x0 :: x1 :: x2 :: x3 :: x4 :: x5 :: x6 :: x7 :: r) h) (fun x8 r8 => consE_le (X := fun r => dL f cs q lv ih (x0 :: x1 :: x2 :: x3 :: x4 :: x5 :: x6 :: x7 :: x8 :: r) h) (fun x9 r9 => nilE_le (X := fun r => dL f cs q lv ih (x0 :: x1 :: x2 :: x3 :: x4 :: x5 :: x6 :: x7 :: x8 :: x9 :: r) h) (e ih x0 x1 x2 x3 x4 x5 x6 x7 x8 x9 h) r9) r8) r7) r6) r5) r4) r3) r2) r1) r0) vs) [x0, x1, x2, x3, x4, x5, x6, x7, x8, x9] h p hp
theorem t10 {k : Nat} {B : II → V → V → V → V → V → V → V → V → V → V → Hp → VH} (e : En10 k B) {x0 x1 x2 x3 x4 x5 x6 x7 x8 x9 : V} {h : Hp} {ro : Bool} {F : List Asn} {Q : V → List Asn → Prop} (hk : Lo ro h h → Tri h ro F Q (B M x0 x1 x2 x3 x4 x5 x6 x7 x8 x9 h)) : Tri h ro F Q (M k [x0, x1, x2, x3, x4, x5, x6, x7, x8, x9] h) := Tri.call (fun p => e x0 x1 x2 x3 x4 x5 x6 x7 x8 x9 h p) (hk (Lo.refl ro h))
theorem e6 : En1 6 B6 := f1 fit3 fun _ _ _ => by kernel_rfl
theorem e1 : En2 1 B1 := l2 0 506 [3, 5] (by kernel_rfl) fit3 fun _ _ _ _ => by kernel_rfl
theorem e14 : En2 14 B14 := f2 fit7 fun _ _ _ _ => by kernel_rfl
theorem e3 : En4 3 B3 := l4 1 122 [2, 3, 5, 6] (by kernel_rfl) fit7 fun _ _ _ _ _ _ => by kernel_rfl
theorem e5 : En3 5 B5 := l3 2 250 [2, 3, 8] (by kernel_rfl) fit7 fun _ _ _ _ _ => by kernel_rfl
theorem e7 : En2 7 B7 := l2 3 506 [3, 11] (by kernel_rfl) fit7 fun _ _ _ _ => by kernel_rfl
theorem e9 : En3 9 B9 := l3 4 2003 [2, 3, 8] (by kernel_rfl) fit7 fun _ _ _ _ _ => by kernel_rfl
theorem e11 : En5 11 B11 := l5 5 32039 [2, 3, 8, 9, 10] (by kernel_rfl) fit7 fun _ _ _ _ _ _ _ => by kernel_rfl
theorem e13 : En6 13 B13 := l6 6 256309 [2, 3, 8, 9, 116, 117] (by kernel_rfl) fit7 fun _ _ _ _ _ _ _ _ => by kernel_rfl
theorem e12 : En1 12 B12 := f1 fit6 fun _ _ _ => by kernel_rfl
theorem e15 : En3 15 B15 := l3 7 63 [2, 3, 4] (by kernel_rfl) fit6 fun _ _ _ _ _ => by kernel_rfl
theorem e17 : En6 17 B17 := l6 8 1002 [2, 3, 4, 35, 36, 37] (by kernel_rfl) fit6 fun _ _ _ _ _ _ _ _ => by kernel_rfl
theorem e19 : En6 19 B19 := l6 9 1018 [2, 3, 4, 59, 60, 61] (by kernel_rfl) fit6 fun _ _ _ _ _ _ _ _ => by kernel_rfl
theorem e34 : En2 34 B34 := f2 fit17 fun _ _ _ _ => by kernel_rfl
theorem e21 : En3 21 B21 := l3 10 26 [0, 1, 5] (by kernel_rfl) fit17 fun _ _ _ _ _ => by kernel_rfl
theorem e32 : En2 32 B32 := f2 fit16 fun _ _ _ _ => by kernel_rfl
theorem e23 : En4 23 B23 := l4 11 58 [0, 3, 4, 5] (by kernel_rfl) fit16 fun _ _ _ _ _ _ => by kernel_rfl
theorem e25 : En7 25 B25 := l7 12 3730 [0, 3, 4, 5, 26, 27, 28] (by kernel_rfl) fit16 fun _ _ _ _ _ _ _ _ _ => by kernel_rfl
theorem e27 : En5 27 B27 := l5 13 1909967 [0, 3, 4, 7, 8] (by kernel_rfl) fit16 fun _ _ _ _ _ _ _ => by kernel_rfl
theorem e29 : En3 29 B29 := l3 14 3819935 [3, 4, 7] (by kernel_rfl) fit16 fun _ _ _ _ _ => by kernel_rfl
theorem e31 : En0 31 B31 := l0 15 15279743 [] (by kernel_rfl) fit16 fun _ _ => by kernel_rfl
theorem e30 : En2 30 B30 := f2 fit15 fun _ _ _ _ => by kernel_rfl
theorem e33 : En7 33 B33 := l7 16 1018 [0, 3, 5, 6, 58, 59, 60] (by kernel_rfl) fit15 fun _ _ _ _ _ _ _ _ _ => by kernel_rfl
theorem e35 : En3 35 B35 := l3 17 1023 [0, 5, 6] (by kernel_rfl) fit15 fun _ _ _ _ _ => by kernel_rfl
theorem e37 : En5 37 B37 := l5 18 8186 [0, 5, 6, 92, 93] (by kernel_rfl) fit15 fun _ _ _ _ _ _ _ => by kernel_rfl
theorem e39 : En8 39 B39 := l8 19 4191438 [0, 5, 6, 92, 93, 109, 110, 111] (by kernel_rfl) fit15 fun _ _ _ _ _ _ _ _ _ _ => by kernel_rfl
theorem e41 : En8 41 B41 := l8 20 67063015 [0, 5, 6, 92, 93, 109, 110, 111] (by kernel_rfl) fit15 fun _ _ _ _ _ _ _ _ _ _ => by kernel_rfl
theorem e28 : En1 28 B28 := f1 fit14 fun _ _ _ => by kernel_rfl
theorem e43 : En4 43 B43 := l4 21 2042 [1, 4, 5, 6] (by kernel_rfl) fit14 fun _ _ _ _ _ _ => by kernel_rfl
theorem e45 : En9 45 B45 := l9 22 1045690 [1, 4, 5, 6, 7, 8, 89, 90, 91] (by kernel_rfl) fit14 fun _ _ _ _ _ _ _ _ _ _ _ => by kernel_rfl
theorem e54 : En3 54 B54 := f3 fit27 fun _ _ _ _ _ => by kernel_rfl
theorem e58 : En4 58 B58 := f4 fit29 fun _ _ _ _ _ _ => by kernel_rfl
theorem e47 : En1 47 B47 := l1 23 63 [4] (by kernel_rfl) fit29 fun _ _ _ => by kernel_rfl
theorem e49 : En6 49 B49 := l6 24 122 [3, 4, 8, 25, 26, 27] (by kernel_rfl) fit29 fun _ _ _ _ _ _ _ _ => by kernel_rfl
theorem e51 : En6 51 B51 := l6 25 1959 [3, 4, 8, 25, 26, 27] (by kernel_rfl) fit29 fun _ _ _ _ _ _ _ _ => by kernel_rfl
theorem e56 : En3 56 B56 := f3 fit28 fun _ _ _ _ _ => by kernel_rfl
theorem e53 : En1 53 B53 := l1 26 124 [7] (by kernel_rfl) fit28 fun _ _ _ => by kernel_rfl
theorem e50 : En2 50 B50 := f2 fit25 fun _ _ _ _ => by kernel_rfl
theorem e48 : En3 48 B48 := f3 fit24 fun _ _ _ _ _ => by kernel_rfl
theorem e55 : En1 55 B55 := l1 27 7 [2] (by kernel_rfl) fit24 fun _ _ _ => by kernel_rfl
theorem e57 : En4 57 B57 := l4 28 53 [1, 2, 8, 9] (by kernel_rfl) fit24 fun _ _ _ _ _ _ => by kernel_rfl
theorem e59 : En2 59 B59 := l2 29 215 [2, 19] (by kernel_rfl) fit24 fun _ _ _ _ => by kernel_rfl
theorem e52 : En2 52 B52 := f2 fit26 fun _ _ _ _ => by kernel_rfl
theorem e116 : En2 116 B116 := f2 fit58 fun _ _ _ _ => by kernel_rfl
theorem e61 : En7 61 B61 := l7 30 3930 [0, 3, 6, 7, 26, 27, 28] (by kernel_rfl) fit58 fun _ _ _ _ _ _ _ _ _ => by kernel_rfl
theorem e63 : En6 63 B63 := l6 31 15871 [0, 3, 4, 5, 19, 85] (by kernel_rfl) fit58 fun _ _ _ _ _ _ _ _ => by kernel_rfl
theorem e114 : En3 114 B114 := f3 fit57 fun _ _ _ _ _ => by kernel_rfl
theorem e65 : En7 65 B65 := l7 32 58 [0, 2, 4, 6, 16, 17, 18] (by kernel_rfl) fit57 fun _ _ _ _ _ _ _ _ _ => by kernel_rfl
theorem e67 : En4 67 B67 := l4 33 127 [0, 4, 9, 10] (by kernel_rfl) fit57 fun _ _ _ _ _ _ => by kernel_rfl
theorem e69 : En7 69 B69 := l7 34 935 [0, 2, 4, 6, 16, 17, 18] (by kernel_rfl) fit57 fun _ _ _ _ _ _ _ _ _ => by kernel_rfl
theorem e110 : En2 110 B110 := f2 fit55 fun _ _ _ _ => by kernel_rfl
theorem e112 : En2 112 B112 := f2 fit56 fun _ _ _ _ => by kernel_rfl
theorem e118 : En1 118 B118 := f1 fit59 fun _ _ _ => by kernel_rfl
theorem e108 : En2 108 B108 := f2 fit54 fun _ _ _ _ => by kernel_rfl
theorem e106 : En1 106 B106 := f1 fit53 fun _ _ _ => by kernel_rfl
theorem e102 : En2 102 B102 := f2 fit51 fun _ _ _ _ => by kernel_rfl
theorem e100 : En2 100 B100 := f2 fit50 fun _ _ _ _ => by kernel_rfl
theorem e71 : En5 71 B71 := l5 35 117 [2, 3, 5, 10, 11] (by kernel_rfl) fit50 fun _ _ _ _ _ _ _ => by kernel_rfl
theorem e73 : En5 73 B73 := l5 36 30932991 [2, 3, 5, 10, 164] (by kernel_rfl) fit50 fun _ _ _ _ _ _ _ => by kernel_rfl
theorem e98 : En1 98 B98 := f1 fit49 fun _ _ _ => by kernel_rfl
theorem e96 : En2 96 B96 := f2 fit48 fun _ _ _ _ => by kernel_rfl
theorem e92 : En1 92 B92 := f1 fit46 fun _ _ _ => by kernel_rfl
theorem e90 : En5 90 B90 := f5 fit45 fun _ _ _ _ _ _ _ => by kernel_rfl
theorem e75 : En5 75 B75 := l5 37 26 [3, 4, 5, 6, 11] (by kernel_rfl) fit45 fun _ _ _ _ _ _ _ => by kernel_rfl
theorem e88 : En4 88 B88 := f4 fit44 fun _ _ _ _ _ _ => by kernel_rfl
theorem e94 : En1 94 B94 := f1 fit47 fun _ _ _ => by kernel_rfl
theorem e104 : En2 104 B104 := f2 fit52 fun _ _ _ _ => by kernel_rfl
theorem e77 : En4 77 B77 := l4 38 26 [0, 1, 7, 8] (by kernel_rfl) fit52 fun _ _ _ _ _ _ => by kernel_rfl
theorem e194 : En1 194 B194 := f1 fit97 fun _ _ _ => by kernel_rfl
theorem e184 : En2 184 B184 := f2 fit92 fun _ _ _ _ => by kernel_rfl
theorem e192 : En2 192 B192 := f2 fit96 fun _ _ _ _ => by kernel_rfl
theorem e190 : En2 190 B190 := f2 fit95 fun _ _ _ _ => by kernel_rfl
theorem e182 : En2 182 B182 := f2 fit91 fun _ _ _ _ => by kernel_rfl
theorem e79 : En5 79 B79 := l5 39 58 [0, 5, 8, 9, 10] (by kernel_rfl) fit91 fun _ _ _ _ _ _ _ => by kernel_rfl
theorem e188 : En2 188 B188 := f2 fit94 fun _ _ _ _ => by kernel_rfl
theorem e81 : En4 81 B81 := l4 40 60 [0, 3, 4, 5] (by kernel_rfl) fit94 fun _ _ _ _ _ _ => by kernel_rfl
theorem e83 : En2 83 B83 := l2 41 63 [0, 4] (by kernel_rfl) fit94 fun _ _ _ _ => by kernel_rfl
theorem e85 : En4 85 B85 := l4 42 254 [0, 60, 61, 62] (by kernel_rfl) fit94 fun _ _ _ _ _ _ => by kernel_rfl
theorem e87 : En5 87 B87 := l5 43 15439 [0, 3, 4, 5, 7] (by kernel_rfl) fit94 fun _ _ _ _ _ _ _ => by kernel_rfl
theorem e186 : En2 186 B186 := f2 fit93 fun _ _ _ _ => by kernel_rfl
theorem e89 : En5 89 B89 := l5 44 255 [2, 3, 4, 7, 8] (by kernel_rfl) fit93 fun _ _ _ _ _ _ _ => by kernel_rfl
theorem e91 : En2 91 B91 := l2 45 2047 [2, 4] (by kernel_rfl) fit93 fun _ _ _ _ => by kernel_rfl
theorem e93 : En4 93 B93 := l4 46 8190 [2, 157, 158, 159] (by kernel_rfl) fit93 fun _ _ _ _ _ _ => by kernel_rfl
theorem e95 : En7 95 B95 := l7 47 65215 [2, 3, 4, 5, 6, 11, 12] (by kernel_rfl) fit93 fun _ _ _ _ _ _ _ _ _ => by kernel_rfl
theorem e97 : En10 97 B97 := l10 48 66781178 [2, 3, 4, 5, 6, 12, 15, 64, 65, 66] (by kernel_rfl) fit93 fun _ _ _ _ _ _ _ _ _ _ _ _ => by kernel_rfl
theorem e180 : En1 180 B180 := f1 fit90 fun _ _ _ => by kernel_rfl
theorem e176 : En2 176 B176 := f2 fit88 fun _ _ _ _ => by kernel_rfl
theorem e178 : En2 178 B178 := f2 fit89 fun _ _ _ _ => by kernel_rfl
theorem e174 : En2 174 B174 := f2 fit87 fun _ _ _ _ => by kernel_rfl
theorem e99 : En4 99 B99 := l4 49 26 [0, 1, 7, 8] (by kernel_rfl) fit87 fun _ _ _ _ _ _ => by kernel_rfl
theorem e172 : En1 172 B172 := f1 fit86 fun _ _ _ => by kernel_rfl
theorem e170 : En3 170 B170 := f3 fit85 fun _ _ _ _ _ => by kernel_rfl
theorem e164 : En3 164 B164 := f3 fit82 fun _ _ _ _ _ => by kernel_rfl
theorem e154 : En5 154 B154 := f5 fit77 fun _ _ _ _ _ _ _ => by kernel_rfl
theorem e166 : En1 166 B166 := f1 fit83 fun _ _ _ => by kernel_rfl
theorem e150 : En3 150 B150 := f3 fit75 fun _ _ _ _ _ => by kernel_rfl
theorem e162 : En1 162 B162 := f1 fit81 fun _ _ _ => by kernel_rfl
theorem e101 : En3 101 B101 := l3 50 58 [0, 21, 22] (by kernel_rfl) fit81 fun _ _ _ _ _ => by kernel_rfl
theorem e158 : En3 158 B158 := f3 fit79 fun _ _ _ _ _ => by kernel_rfl
theorem e152 : En2 152 B152 := f2 fit76 fun _ _ _ _ => by kernel_rfl
theorem e168 : En1 168 B168 := f1 fit84 fun _ _ _ => by kernel_rfl
theorem e160 : En2 160 B160 := f2 fit80 fun _ _ _ _ => by kernel_rfl
theorem e103 : En4 103 B103 := l4 51 58 [2, 3, 5, 6] (by kernel_rfl) fit80 fun _ _ _ _ _ _ => by kernel_rfl
theorem e156 : En1 156 B156 := f1 fit78 fun _ _ _ => by kernel_rfl
theorem e256 : En1 256 B256 := f1 fit128 fun _ _ _ => by kernel_rfl
theorem e252 : En2 252 B252 := f2 fit126 fun _ _ _ _ => by kernel_rfl
theorem e105 : En2 105 B105 := l2 52 31 [0, 6] (by kernel_rfl) fit126 fun _ _ _ _ => by kernel_rfl
theorem e254 : En4 254 B254 := f4 fit127 fun _ _ _ _ _ _ => by kernel_rfl
theorem e250 : En2 250 B250 := f2 fit125 fun _ _ _ _ => by kernel_rfl
theorem e107 : En4 107 B107 := l4 53 26 [0, 1, 7, 8] (by kernel_rfl) fit125 fun _ _ _ _ _ _ => by kernel_rfl
theorem e244 : En1 244 B244 := f1 fit122 fun _ _ _ => by kernel_rfl
theorem e248 : En1 248 B248 := f1 fit124 fun _ _ _ => by kernel_rfl
theorem e246 : En1 246 B246 := f1 fit123 fun _ _ _ => by kernel_rfl
theorem e240 : En2 240 B240 := f2 fit120 fun _ _ _ _ => by kernel_rfl
theorem e242 : En1 242 B242 := f1 fit121 fun _ _ _ => by kernel_rfl
theorem e292 : En2 292 B292 := f2 fit146 fun _ _ _ _ => by kernel_rfl
theorem e296 : En2 296 B296 := f2 fit148 fun _ _ _ _ => by kernel_rfl
theorem e111 : En2 111 B111 := l2 55 7 [0, 1] (by kernel_rfl) fit148 fun _ _ _ _ => by kernel_rfl
theorem e294 : En2 294 B294 := f2 fit147 fun _ _ _ _ => by kernel_rfl
theorem e290 : En1 290 B290 := f1 fit145 fun _ _ _ => by kernel_rfl
theorem e113 : En3 113 B113 := l3 56 53 [0, 3, 4] (by kernel_rfl) fit145 fun _ _ _ _ _ => by kernel_rfl
theorem e115 : En2 115 B115 := l2 57 215 [0, 15] (by kernel_rfl) fit145 fun _ _ _ _ => by kernel_rfl
theorem e286 : En3 286 B286 := f3 fit143 fun _ _ _ _ _ => by kernel_rfl
theorem e284 : En2 284 B284 := f2 fit142 fun _ _ _ _ => by kernel_rfl
theorem e117 : En4 117 B117 := l4 58 26 [0, 1, 7, 8] (by kernel_rfl) fit142 fun _ _ _ _ _ _ => by kernel_rfl
theorem e326 : En4 326 B326 := f4 fit163 fun _ _ _ _ _ _ => by kernel_rfl
theorem e119 : En4 119 B119 := l4 59 31 [0, 1, 3, 9] (by kernel_rfl) fit163 fun _ _ _ _ _ _ => by kernel_rfl
theorem e324 : En2 324 B324 := f2 fit162 fun _ _ _ _ => by kernel_rfl
theorem e121 : En3 121 B121 := l3 60 26 [0, 1, 5] (by kernel_rfl) fit162 fun _ _ _ _ _ => by kernel_rfl
theorem e334 : En2 334 B334 := f2 fit167 fun _ _ _ _ => by kernel_rfl
theorem e123 : En4 123 B123 := l4 61 26 [0, 3, 7, 8] (by kernel_rfl) fit167 fun _ _ _ _ _ _ => by kernel_rfl
end
end
end Go.FP
end
