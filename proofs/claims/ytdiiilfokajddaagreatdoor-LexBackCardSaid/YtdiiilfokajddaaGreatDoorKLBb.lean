/- A part of the proof. -/
import Derived.Test.YtdiiilfokajddaaGreatDoorKLBa
import Derived.Test.YtdiiilfokajddaaGreatDoorKMidWA
import Derived.KernelRfl
import Derived.Test.YtdiiilfokajddaaGreatDoorKLXo
set_option linter.all false
set_option warn.classDefReducibility false
noncomputable section
section
open Go Go.Mid Go.Proofs
set_option maxRecDepth 100000
namespace Go.LB
section
section
structure Inv (w : World) : Prop where
 r0 : LX.RowIs w 0 .u8 LX.wt0
 c2 : ∃ m, w.cell? ⟨2, 0, none⟩ = some (.int .i64 m)
 e6 : ∃ e, w.cell? ⟨6, 0, none⟩ = some e ∧ (e = .nilIface ∨ ∃ t p, e = .iface t p)
 e7 : ∃ e, w.cell? ⟨7, 0, none⟩ = some e ∧ (e = .nilIface ∨ ∃ t p, e = .iface t p)
 p3 : LX.RowIs w 3 .u64 p10
 size : 11 ≤ w.heap.size
def fnA (f : FuncId) (vs : List V) (h : Hp) : Option (V × Hp) := bif Nat.beq f 141 then sameF vs h else bif Nat.beq f 29 then containsF vs h else bif Nat.beq f 53 then indexF vs h else bif Nat.beq f 80 then indexByteF vs h else bif Nat.beq f 83 then containsAnyF vs h else bif Nat.beq f 81 then trimF vs h else bif Nat.beq f 76 then trimLF vs h else bif Nat.beq f 116 then parseF 187 vs h else bif Nat.beq f 14 then signsF vs h else bif Nat.beq f 39 then sortF 23 vs h else bif Nat.beq f 70 then textF vs h else bif Nat.beq f 16 then (match vs with
 | [] => some (.bool true, h)
 | _ => none) else none
@[reducible] def orc (fn : FuncId → List V → Hp → Option (V × Hp)) (I : World → Prop) : Orc:=⟨11, fn, kdLX Tryz.prog, opLX Tryz.prog, I, itr0⟩
def M : Nat → List V → Hp → VH:=@lim Tryz.prog (orc fnA Inv) labs
abbrev dF (k : Nat) (c : Cuts) (ih : II) (r : List V) (h : Hp) : VH:=@denF Tryz.prog (orc fnA Inv) ih 100000 c r h (Tryz.prog.funcs[k]?)
abbrev dL (k : Nat) (c : Cuts) (q : Nat) (v : List Tmp) (ih : II) (r : List V) (h : Hp) : VH:=@denL Tryz.prog (orc fnA Inv) ih 100000 c q v r h (Tryz.prog.funcs[k]?)
def En0 (k : Nat) (B : II → Hp → VH) : Prop:=∀ (h : Hp) (p : V × Hp), B M h = some p → M k [] h = some p
theorem l0 (l : Nat) (q : Nat) (lv : List Tmp) {f : FuncId} {cs : Cuts} (hl : labs.get l = some (f, q, lv)) (hf : cutsFit labs f cs = true) {B : II → Hp → VH} (e : ∀ (ih : II) (h : Hp), B ih h = dL f cs q lv ih [] h) : En0 (2 * l + 1) B:=fun h p hp => @lim_ent Tryz.prog (orc fnA Inv) labs (2 * l + 1) (fun ih vs h => (nilE (B ih h)) vs) (@entL Tryz.prog (orc fnA Inv) labs l _ f q lv 100000 cs hl hf fun ih vs h => nilE_le (X:=fun r => dL f cs q lv ih (r) h) (e ih h) vs) [] h p hp
theorem t0 {k : Nat} {B : II → Hp → VH} (e : En0 k B) {h : Hp} {ro : Bool} {F : List Asn} {Q : V → List Asn → Prop} (hk : Lo ro h h → Tri h ro F Q (B M h)) : Tri h ro F Q (M k [] h):=Tri.call (fun p => e h p) (hk (Lo.refl ro h))
def En1 (k : Nat) (B : II → V → Hp → VH) : Prop:=∀ (x0 : V) (h : Hp) (p : V × Hp), B M x0 h = some p → M k [x0] h = some p
theorem f1 {f : FuncId} {cs : Cuts} (hf : cutsFit labs f cs = true) {B : II → V → Hp → VH} (e : ∀ (ih : II) (x0 : V) (h : Hp), B ih x0 h = dF f cs ih [x0] h) (ho : ∀ vs h, fnA f vs h = none:=by exact fun _ _ => rfl) : En1 (2 * f) B:=fun x0 h p hp => @lim_ent Tryz.prog (orc fnA Inv) labs (2 * f) (fun ih vs h => (consE fun x0 => (nilE (B ih x0 h))) vs) (@entF Tryz.prog (orc fnA Inv) labs f _ ho 100000 cs hf fun ih vs h => consE_le (X:=fun r => dF f cs ih (r) h) (fun x0 r0 => nilE_le (X:=fun r => dF f cs ih (x0 :: r) h) (e ih x0 h) r0) vs) [x0] h p hp
theorem l1 (l : Nat) (q : Nat) (lv : List Tmp) {f : FuncId} {cs : Cuts} (hl : labs.get l = some (f, q, lv)) (hf : cutsFit labs f cs = true) {B : II → V → Hp → VH} (e : ∀ (ih : II) (x0 : V) (h : Hp), B ih x0 h = dL f cs q lv ih [x0] h) : En1 (2 * l + 1) B:=fun x0 h p hp => @lim_ent Tryz.prog (orc fnA Inv) labs (2 * l + 1) (fun ih vs h => (consE fun x0 => (nilE (B ih x0 h))) vs) (@entL Tryz.prog (orc fnA Inv) labs l _ f q lv 100000 cs hl hf fun ih vs h => consE_le (X:=fun r => dL f cs q lv ih (r) h) (fun x0 r0 => nilE_le (X:=fun r => dL f cs q lv ih (x0 :: r) h) (e ih x0 h) r0) vs) [x0] h p hp
theorem t1 {k : Nat} {B : II → V → Hp → VH} (e : En1 k B) {x0 : V} {h : Hp} {ro : Bool} {F : List Asn} {Q : V → List Asn → Prop} (hk : Lo ro h h → Tri h ro F Q (B M x0 h)) : Tri h ro F Q (M k [x0] h):=Tri.call (fun p => e x0 h p) (hk (Lo.refl ro h))
def En2 (k : Nat) (B : II → V → V → Hp → VH) : Prop:=∀ (x0 x1 : V) (h : Hp) (p : V × Hp), B M x0 x1 h = some p → M k [x0, x1] h = some p
theorem f2 {f : FuncId} {cs : Cuts} (hf : cutsFit labs f cs = true) {B : II → V → V → Hp → VH} (e : ∀ (ih : II) (x0 x1 : V) (h : Hp), B ih x0 x1 h = dF f cs ih [x0, x1] h) (ho : ∀ vs h, fnA f vs h = none:=by exact fun _ _ => rfl) : En2 (2 * f) B:=fun x0 x1 h p hp => @lim_ent Tryz.prog (orc fnA Inv) labs (2 * f) (fun ih vs h => (consE fun x0 => (consE fun x1 => (nilE (B ih x0 x1 h)))) vs) (@entF Tryz.prog (orc fnA Inv) labs f _ ho 100000 cs hf fun ih vs h => consE_le (X:=fun r => dF f cs ih (r) h) (fun x0 r0 => consE_le (X:=fun r => dF f cs ih (x0 :: r) h) (fun x1 r1 => nilE_le (X:=fun r => dF f cs ih (x0 :: x1 :: r) h) (e ih x0 x1 h) r1) r0) vs) [x0, x1] h p hp
theorem l2 (l : Nat) (q : Nat) (lv : List Tmp) {f : FuncId} {cs : Cuts} (hl : labs.get l = some (f, q, lv)) (hf : cutsFit labs f cs = true) {B : II → V → V → Hp → VH} (e : ∀ (ih : II) (x0 x1 : V) (h : Hp), B ih x0 x1 h = dL f cs q lv ih [x0, x1] h) : En2 (2 * l + 1) B:=fun x0 x1 h p hp => @lim_ent Tryz.prog (orc fnA Inv) labs (2 * l + 1) (fun ih vs h => (consE fun x0 => (consE fun x1 => (nilE (B ih x0 x1 h)))) vs) (@entL Tryz.prog (orc fnA Inv) labs l _ f q lv 100000 cs hl hf fun ih vs h => consE_le (X:=fun r => dL f cs q lv ih (r) h) (fun x0 r0 => consE_le (X:=fun r => dL f cs q lv ih (x0 :: r) h) (fun x1 r1 => nilE_le (X:=fun r => dL f cs q lv ih (x0 :: x1 :: r) h) (e ih x0 x1 h) r1) r0) vs) [x0, x1] h p hp
theorem t2 {k : Nat} {B : II → V → V → Hp → VH} (e : En2 k B) {x0 x1 : V} {h : Hp} {ro : Bool} {F : List Asn} {Q : V → List Asn → Prop} (hk : Lo ro h h → Tri h ro F Q (B M x0 x1 h)) : Tri h ro F Q (M k [x0, x1] h):=Tri.call (fun p => e x0 x1 h p) (hk (Lo.refl ro h))
def En3 (k : Nat) (B : II → V → V → V → Hp → VH) : Prop:=∀ (x0 x1 x2 : V) (h : Hp) (p : V × Hp), B M x0 x1 x2 h = some p → M k [x0, x1, x2] h = some p
theorem f3 {f : FuncId} {cs : Cuts} (hf : cutsFit labs f cs = true) {B : II → V → V → V → Hp → VH} (e : ∀ (ih : II) (x0 x1 x2 : V) (h : Hp), B ih x0 x1 x2 h = dF f cs ih [x0, x1, x2] h) (ho : ∀ vs h, fnA f vs h = none:=by exact fun _ _ => rfl) : En3 (2 * f) B:=fun x0 x1 x2 h p hp => @lim_ent Tryz.prog (orc fnA Inv) labs (2 * f) (fun ih vs h => (consE fun x0 => (consE fun x1 => (consE fun x2 => (nilE (B ih x0 x1 x2 h))))) vs) (@entF Tryz.prog (orc fnA Inv) labs f _ ho 100000 cs hf fun ih vs h => consE_le (X:=fun r => dF f cs ih (r) h) (fun x0 r0 => consE_le (X:=fun r => dF f cs ih (x0 :: r) h) (fun x1 r1 => consE_le (X:=fun r => dF f cs ih (x0 :: x1 :: r) h) (fun x2 r2 => nilE_le (X:=fun r => dF f cs ih (x0 :: x1 :: x2 :: r) h) (e ih x0 x1 x2 h) r2) r1) r0) vs) [x0, x1, x2] h p hp
theorem l3 (l : Nat) (q : Nat) (lv : List Tmp) {f : FuncId} {cs : Cuts} (hl : labs.get l = some (f, q, lv)) (hf : cutsFit labs f cs = true) {B : II → V → V → V → Hp → VH} (e : ∀ (ih : II) (x0 x1 x2 : V) (h : Hp), B ih x0 x1 x2 h = dL f cs q lv ih [x0, x1, x2] h) : En3 (2 * l + 1) B:=fun x0 x1 x2 h p hp => @lim_ent Tryz.prog (orc fnA Inv) labs (2 * l + 1) (fun ih vs h => (consE fun x0 => (consE fun x1 => (consE fun x2 => (nilE (B ih x0 x1 x2 h))))) vs) (@entL Tryz.prog (orc fnA Inv) labs l _ f q lv 100000 cs hl hf fun ih vs h => consE_le (X:=fun r => dL f cs q lv ih (r) h) (fun x0 r0 => consE_le (X:=fun r => dL f cs q lv ih (x0 :: r) h) (fun x1 r1 => consE_le (X:=fun r => dL f cs q lv ih (x0 :: x1 :: r) h) (fun x2 r2 => nilE_le (X:=fun r => dL f cs q lv ih (x0 :: x1 :: x2 :: r) h) (e ih x0 x1 x2 h) r2) r1) r0) vs) [x0, x1, x2] h p hp
theorem t3 {k : Nat} {B : II → V → V → V → Hp → VH} (e : En3 k B) {x0 x1 x2 : V} {h : Hp} {ro : Bool} {F : List Asn} {Q : V → List Asn → Prop} (hk : Lo ro h h → Tri h ro F Q (B M x0 x1 x2 h)) : Tri h ro F Q (M k [x0, x1, x2] h):=Tri.call (fun p => e x0 x1 x2 h p) (hk (Lo.refl ro h))
def En4 (k : Nat) (B : II → V → V → V → V → Hp → VH) : Prop:=∀ (x0 x1 x2 x3 : V) (h : Hp) (p : V × Hp), B M x0 x1 x2 x3 h = some p → M k [x0, x1, x2, x3] h = some p
theorem l4 (l : Nat) (q : Nat) (lv : List Tmp) {f : FuncId} {cs : Cuts} (hl : labs.get l = some (f, q, lv)) (hf : cutsFit labs f cs = true) {B : II → V → V → V → V → Hp → VH} (e : ∀ (ih : II) (x0 x1 x2 x3 : V) (h : Hp), B ih x0 x1 x2 x3 h = dL f cs q lv ih [x0, x1, x2, x3] h) : En4 (2 * l + 1) B:=fun x0 x1 x2 x3 h p hp => @lim_ent Tryz.prog (orc fnA Inv) labs (2 * l + 1) (fun ih vs h => (consE fun x0 => (consE fun x1 => (consE fun x2 => (consE fun x3 => (nilE (B ih x0 x1 x2 x3 h)))))) vs) (@entL Tryz.prog (orc fnA Inv) labs l _ f q lv 100000 cs hl hf fun ih vs h => consE_le (X:=fun r => dL f cs q lv ih (r) h) (fun x0 r0 => consE_le (X:=fun r => dL f cs q lv ih (x0 :: r) h) (fun x1 r1 => consE_le (X:=fun r => dL f cs q lv ih (x0 :: x1 :: r) h) (fun x2 r2 => consE_le (X:=fun r => dL f cs q lv ih (x0 :: x1 :: x2 :: r) h) (fun x3 r3 => nilE_le (X:=fun r => dL f cs q lv ih (x0 :: x1 :: x2 :: x3 :: r) h) (e ih x0 x1 x2 x3 h) r3) r2) r1) r0) vs) [x0, x1, x2, x3] h p hp
theorem t4 {k : Nat} {B : II → V → V → V → V → Hp → VH} (e : En4 k B) {x0 x1 x2 x3 : V} {h : Hp} {ro : Bool} {F : List Asn} {Q : V → List Asn → Prop} (hk : Lo ro h h → Tri h ro F Q (B M x0 x1 x2 x3 h)) : Tri h ro F Q (M k [x0, x1, x2, x3] h):=Tri.call (fun p => e x0 x1 x2 x3 h p) (hk (Lo.refl ro h))
def En5 (k : Nat) (B : II → V → V → V → V → V → Hp → VH) : Prop:=∀ (x0 x1 x2 x3 x4 : V) (h : Hp) (p : V × Hp), B M x0 x1 x2 x3 x4 h = some p → M k [x0, x1, x2, x3, x4] h = some p
theorem l5 (l : Nat) (q : Nat) (lv : List Tmp) {f : FuncId} {cs : Cuts} (hl : labs.get l = some (f, q, lv)) (hf : cutsFit labs f cs = true) {B : II → V → V → V → V → V → Hp → VH} (e : ∀ (ih : II) (x0 x1 x2 x3 x4 : V) (h : Hp), B ih x0 x1 x2 x3 x4 h = dL f cs q lv ih [x0, x1, x2, x3, x4] h) : En5 (2 * l + 1) B:=fun x0 x1 x2 x3 x4 h p hp => @lim_ent Tryz.prog (orc fnA Inv) labs (2 * l + 1) (fun ih vs h => (consE fun x0 => (consE fun x1 => (consE fun x2 => (consE fun x3 => (consE fun x4 => (nilE (B ih x0 x1 x2 x3 x4 h))))))) vs) (@entL Tryz.prog (orc fnA Inv) labs l _ f q lv 100000 cs hl hf fun ih vs h => consE_le (X:=fun r => dL f cs q lv ih (r) h) (fun x0 r0 => consE_le (X:=fun r => dL f cs q lv ih (x0 :: r) h) (fun x1 r1 => consE_le (X:=fun r => dL f cs q lv ih (x0 :: x1 :: r) h) (fun x2 r2 => consE_le (X:=fun r => dL f cs q lv ih (x0 :: x1 :: x2 :: r) h) (fun x3 r3 => consE_le (X:=fun r => dL f cs q lv ih (x0 :: x1 :: x2 :: x3 :: r) h) (fun x4 r4 => nilE_le (X:=fun r => dL f cs q lv ih (x0 :: x1 :: x2 :: x3 :: x4 :: r) h) (e ih x0 x1 x2 x3 x4 h) r4) r3) r2) r1) r0) vs) [x0, x1, x2, x3, x4] h p hp
theorem t5 {k : Nat} {B : II → V → V → V → V → V → Hp → VH} (e : En5 k B) {x0 x1 x2 x3 x4 : V} {h : Hp} {ro : Bool} {F : List Asn} {Q : V → List Asn → Prop} (hk : Lo ro h h → Tri h ro F Q (B M x0 x1 x2 x3 x4 h)) : Tri h ro F Q (M k [x0, x1, x2, x3, x4] h):=Tri.call (fun p => e x0 x1 x2 x3 x4 h p) (hk (Lo.refl ro h))
def En6 (k : Nat) (B : II → V → V → V → V → V → V → Hp → VH) : Prop:=∀ (x0 x1 x2 x3 x4 x5 : V) (h : Hp) (p : V × Hp), B M x0 x1 x2 x3 x4 x5 h = some p → M k [x0, x1, x2, x3, x4, x5] h = some p
theorem l6 (l : Nat) (q : Nat) (lv : List Tmp) {f : FuncId} {cs : Cuts} (hl : labs.get l = some (f, q, lv)) (hf : cutsFit labs f cs = true) {B : II → V → V → V → V → V → V → Hp → VH} (e : ∀ (ih : II) (x0 x1 x2 x3 x4 x5 : V) (h : Hp), B ih x0 x1 x2 x3 x4 x5 h = dL f cs q lv ih [x0, x1, x2, x3, x4, x5] h) : En6 (2 * l + 1) B:=fun x0 x1 x2 x3 x4 x5 h p hp => @lim_ent Tryz.prog (orc fnA Inv) labs (2 * l + 1) (fun ih vs h => (consE fun x0 => (consE fun x1 => (consE fun x2 => (consE fun x3 => (consE fun x4 => (consE fun x5 => (nilE (B ih x0 x1 x2 x3 x4 x5 h)))))))) vs) (@entL Tryz.prog (orc fnA Inv) labs l _ f q lv 100000 cs hl hf fun ih vs h => consE_le (X:=fun r => dL f cs q lv ih (r) h) (fun x0 r0 => consE_le (X:=fun r => dL f cs q lv ih (x0 :: r) h) (fun x1 r1 => consE_le (X:=fun r => dL f cs q lv ih (x0 :: x1 :: r) h) (fun x2 r2 => consE_le (X:=fun r => dL f cs q lv ih (x0 :: x1 :: x2 :: r) h) (fun x3 r3 => consE_le (X:=fun r => dL f cs q lv ih (x0 :: x1 :: x2 :: x3 :: r) h) (fun x4 r4 => consE_le (X:=fun r => dL f cs q lv ih (x0 :: x1 :: x2 :: x3 :: x4 :: r) h) (fun x5 r5 => nilE_le (X:=fun r => dL f cs q lv ih (x0 :: x1 :: x2 :: x3 :: x4 :: x5 :: r) h) (e ih x0 x1 x2 x3 x4 x5 h) r5) r4) r3) r2) r1) r0) vs) [x0, x1, x2, x3, x4, x5] h p hp
theorem t6 {k : Nat} {B : II → V → V → V → V → V → V → Hp → VH} (e : En6 k B) {x0 x1 x2 x3 x4 x5 : V} {h : Hp} {ro : Bool} {F : List Asn} {Q : V → List Asn → Prop} (hk : Lo ro h h → Tri h ro F Q (B M x0 x1 x2 x3 x4 x5 h)) : Tri h ro F Q (M k [x0, x1, x2, x3, x4, x5] h):=Tri.call (fun p => e x0 x1 x2 x3 x4 x5 h p) (hk (Lo.refl ro h))
theorem e12 : En2 12 B12:=f2 fit6 fun _ _ _ _ => by kernel_rfl
theorem e1 : En4 1 B1:=l4 0 506 [1, 5, 7, 8] (by kernel_rfl) fit6 fun _ _ _ _ _ _ => by kernel_rfl
theorem e3 : En3 3 B3:=l3 1 16378 [13, 14, 15] (by kernel_rfl) fit6 fun _ _ _ _ _ => by kernel_rfl
theorem e5 : En5 5 B5:=l5 2 32403 [1, 5, 7, 8, 9] (by kernel_rfl) fit6 fun _ _ _ _ _ _ _ => by kernel_rfl
theorem e40 : En1 40 B40:=f1 fit20 fun _ _ _ => by kernel_rfl
theorem e42 : En1 42 B42:=f1 fit21 fun _ _ _ => by kernel_rfl
theorem e7 : En3 7 B7:=l3 3 58 [0, 3, 4] (by kernel_rfl) fit21 fun _ _ _ _ _ => by kernel_rfl
theorem e20 : En1 20 B20:=f1 fit10 fun _ _ _ => by kernel_rfl
theorem e9 : En3 9 B9:=l3 4 126 [3, 4, 5] (by kernel_rfl) fit10 fun _ _ _ _ _ => by kernel_rfl
theorem e11 : En6 11 B11:=l6 5 32319 [3, 4, 5, 8, 9, 10] (by kernel_rfl) fit10 fun _ _ _ _ _ _ _ _ => by kernel_rfl
theorem e76 : En1 76 B76:=f1 fit38 fun _ _ _ => by kernel_rfl
theorem e13 : En4 13 B13:=l4 6 122 [0, 3, 9, 10] (by kernel_rfl) fit38 fun _ _ _ _ _ _ => by kernel_rfl
theorem e15 : En4 15 B15:=l4 7 1959 [0, 3, 9, 10] (by kernel_rfl) fit38 fun _ _ _ _ _ _ => by kernel_rfl
theorem e74 : En1 74 B74:=f1 fit37 fun _ _ _ => by kernel_rfl
theorem e72 : En1 72 B72:=f1 fit36 fun _ _ _ => by kernel_rfl
theorem e17 : En3 17 B17:=l3 8 58 [0, 3, 4] (by kernel_rfl) fit36 fun _ _ _ _ _ => by kernel_rfl
theorem e48 : En2 48 B48:=f2 fit24 fun _ _ _ _ => by kernel_rfl
theorem e19 : En2 19 B19:=l2 9 6 [0, 4] (by kernel_rfl) fit24 fun _ _ _ _ => by kernel_rfl
theorem e21 : En2 21 B21:=l2 10 51 [0, 4] (by kernel_rfl) fit24 fun _ _ _ _ => by kernel_rfl
theorem e56 : En1 56 B56:=f1 fit28 fun _ _ _ => by kernel_rfl
theorem e23 : En6 23 B23:=l6 11 506 [0, 2, 5, 159, 160, 161] (by kernel_rfl) fit28 fun _ _ _ _ _ _ _ _ => by kernel_rfl
theorem e25 : En3 25 B25:=l3 12 3991 [2, 10, 11] (by kernel_rfl) fit28 fun _ _ _ _ _ => by kernel_rfl
theorem e54 : En1 54 B54:=f1 fit27 fun _ _ _ => by kernel_rfl
theorem e27 : En0 27 B27:=l0 13 31 [] (by kernel_rfl) fit27 fun _ _ => by kernel_rfl
theorem e50 : En3 50 B50:=f3 fit25 fun _ _ _ _ _ => by kernel_rfl
theorem e29 : En4 29 B29:=l4 14 28 [0, 1, 2, 7] (by kernel_rfl) fit25 fun _ _ _ _ _ _ => by kernel_rfl
theorem e44 : En2 44 B44:=f2 fit22 fun _ _ _ _ => by kernel_rfl
theorem e52 : En1 52 B52:=f1 fit26 fun _ _ _ => by kernel_rfl
theorem e146 : En1 146 B146:=f1 fit73 fun _ _ _ => by kernel_rfl
theorem e142 : En2 142 B142:=f2 fit71 fun _ _ _ _ => by kernel_rfl
theorem e144 : En2 144 B144:=f2 fit72 fun _ _ _ _ => by kernel_rfl
theorem e80 : En1 80 B80:=f1 fit40 fun _ _ _ => by kernel_rfl
theorem e84 : En2 84 B84:=f2 fit42 fun _ _ _ _ => by kernel_rfl
theorem e104 : En2 104 B104:=f2 fit52 fun _ _ _ _ => by kernel_rfl
theorem e102 : En1 102 B102:=f1 fit51 fun _ _ _ => by kernel_rfl
theorem e31 : En3 31 B31:=l3 15 223 [0, 4, 5] (by kernel_rfl) fit51 fun _ _ _ _ _ => by kernel_rfl
theorem e33 : En3 33 B33:=l3 16 444 [0, 4, 5] (by kernel_rfl) fit51 fun _ _ _ _ _ => by kernel_rfl
theorem e100 : En1 100 B100:=f1 fit50 fun _ _ _ => by kernel_rfl
theorem e35 : En2 35 B35:=l2 17 28 [0, 3] (by kernel_rfl) fit50 fun _ _ _ _ => by kernel_rfl
theorem e37 : En2 37 B37:=l2 18 907 [0, 3] (by kernel_rfl) fit50 fun _ _ _ _ => by kernel_rfl
theorem e98 : En1 98 B98:=f1 fit49 fun _ _ _ => by kernel_rfl
theorem e96 : En1 96 B96:=f1 fit48 fun _ _ _ => by kernel_rfl
theorem e39 : En2 39 B39:=l2 19 15 [0, 3] (by kernel_rfl) fit48 fun _ _ _ _ => by kernel_rfl
theorem e24 : En1 24 B24:=f1 fit12 fun _ _ _ => by kernel_rfl
theorem e92 : En1 92 B92:=f1 fit46 fun _ _ _ => by kernel_rfl
theorem e86 : En2 86 B86:=f2 fit43 fun _ _ _ _ => by kernel_rfl
theorem e90 : En1 90 B90:=f1 fit45 fun _ _ _ => by kernel_rfl
theorem e94 : En1 94 B94:=f1 fit47 fun _ _ _ => by kernel_rfl
theorem e88 : En1 88 B88:=f1 fit44 fun _ _ _ => by kernel_rfl
theorem e82 : En3 82 B82:=f3 fit41 fun _ _ _ _ _ => by kernel_rfl
theorem e206 : En1 206 B206:=f1 fit103 fun _ _ _ => by kernel_rfl
theorem e172 : En2 172 B172:=f2 fit86 fun _ _ _ _ => by kernel_rfl
theorem e170 : En1 170 B170:=f1 fit85 fun _ _ _ => by kernel_rfl
theorem e41 : En0 41 B41:=l0 20 15 [] (by kernel_rfl) fit85 fun _ _ => by kernel_rfl
theorem e43 : En2 43 B43:=l2 21 14836 [0, 6] (by kernel_rfl) fit85 fun _ _ _ _ => by kernel_rfl
theorem e45 : En2 45 B45:=l2 22 118782 [0, 13] (by kernel_rfl) fit85 fun _ _ _ _ => by kernel_rfl
theorem e168 : En2 168 B168:=f2 fit84 fun _ _ _ _ => by kernel_rfl
theorem e164 : En1 164 B164:=f1 fit82 fun _ _ _ => by kernel_rfl
theorem e47 : En2 47 B47:=l2 23 63 [1, 5] (by kernel_rfl) fit82 fun _ _ _ _ => by kernel_rfl
theorem e49 : En4 49 B49:=l4 24 1018 [1, 5, 63, 64] (by kernel_rfl) fit82 fun _ _ _ _ _ _ => by kernel_rfl
theorem e51 : En2 51 B51:=l2 25 2027 [6, 7] (by kernel_rfl) fit82 fun _ _ _ _ => by kernel_rfl
theorem e158 : En3 158 B158:=f3 fit79 fun _ _ _ _ _ => by kernel_rfl
theorem e154 : En2 154 B154:=f2 fit77 fun _ _ _ _ => by kernel_rfl
theorem e156 : En1 156 B156:=f1 fit78 fun _ _ _ => by kernel_rfl
theorem e53 : En3 53 B53:=l3 26 58 [0, 3, 4] (by kernel_rfl) fit78 fun _ _ _ _ _ => by kernel_rfl
theorem e55 : En3 55 B55:=l3 27 467 [0, 3, 4] (by kernel_rfl) fit78 fun _ _ _ _ _ => by kernel_rfl
theorem e236 : En3 236 B236:=f3 fit118 fun _ _ _ _ _ => by kernel_rfl
theorem e57 : En2 57 B57:=l2 28 15 [8, 9] (by kernel_rfl) fit118 fun _ _ _ _ => by kernel_rfl
theorem e59 : En5 59 B59:=l5 29 28 [0, 1, 2, 8, 9] (by kernel_rfl) fit118 fun _ _ _ _ _ _ _ => by kernel_rfl
theorem e238 : En1 238 B238:=f1 fit119 fun _ _ _ => by kernel_rfl
theorem e61 : En2 61 B61:=l2 30 124 [0, 4] (by kernel_rfl) fit119 fun _ _ _ _ => by kernel_rfl
theorem e63 : En4 63 B63:=l4 31 1018 [0, 4, 5, 6] (by kernel_rfl) fit119 fun _ _ _ _ _ _ => by kernel_rfl
theorem e230 : En1 230 B230:=f1 fit115 fun _ _ _ => by kernel_rfl
theorem e65 : En4 65 B65:=l4 32 58 [0, 4, 9, 10] (by kernel_rfl) fit115 fun _ _ _ _ _ _ => by kernel_rfl
theorem e228 : En1 228 B228:=f1 fit114 fun _ _ _ => by kernel_rfl
theorem e67 : En1 67 B67:=l1 33 4 [0] (by kernel_rfl) fit114 fun _ _ _ => by kernel_rfl
theorem e69 : En1 69 B69:=l1 34 6 [0] (by kernel_rfl) fit114 fun _ _ _ => by kernel_rfl
theorem e218 : En2 218 B218:=f2 fit109 fun _ _ _ _ => by kernel_rfl
theorem e296 : En1 296 B296:=f1 fit148 fun _ _ _ => by kernel_rfl
end
end
end Go.LB
end
