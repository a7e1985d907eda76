import Derived.Test.YthbcbfgpfpogkaaGreatFFNa
import Derived.KernelRfl
import Derived.Test.YthbcbfgpfpogkaaGreatRows
import Derived.Test.YthbcbfgpfpogkaaGreatChecked
import Derived.Test.YthbcbfgpfpogkaaGreatFTryzShelf
import Derived.Test.YthbcbfgpfpogkaaGreatFMidJJ
import Derived.FnData
import Derived.OpenShut
import Derived.Shelf.Vars
set_option linter.all false
set_option warn.classDefReducibility false
section
open Go Go.Mid Go.Proofs
set_option maxRecDepth 100000
set_option linter.unusedVariables false
namespace Go.FN
noncomputable def cuts158 : Cuts := [(31, 121, [0, 1, 5, 6]), (124, 122, [0, 1, 5, 6]), (3979, 123, [0, 1, 5, 8])]
theorem fit158 : cutsFit labs 158 cuts158 = true := by kernel_rfl
noncomputable def cuts157 : Cuts := [(31, 124, [0, 1, 9]), (244, 125, [0, 1, 9]), (3907, 126, [0, 1, 9])]
theorem fit157 : cutsFit labs 157 cuts157 = true := by kernel_rfl
noncomputable def cuts159 : Cuts := [(15, 127, [0])]
noncomputable def cuts156 : Cuts := [(31, 128, [0, 5]), (60, 129, [0, 1, 5])]
noncomputable def cuts154 : Cuts := [(31, 130, [10, 11]), (60, 131, [0, 1, 2, 3, 10, 11])]
noncomputable def cuts152 : Cuts := []
noncomputable def cuts155 : Cuts := [(250, 132, [0, 4, 5]), (1018, 133, [0, 4, 6, 7]), (4090, 134, [0, 4, 6, 8, 9]), (16378, 135, [6, 10, 11])]
noncomputable def cuts153 : Cuts := [(122, 136, [0, 3, 4, 5])]
noncomputable def cuts151 : Cuts := [(26, 137, [0, 4])]
theorem fit151 : cutsFit labs 151 cuts151 = true := by kernel_rfl
noncomputable def cuts150 : Cuts := [(31, 138, [0, 6]), (58, 139, [0, 1, 6, 7])]
noncomputable def cuts149 : Cuts := [(6, 140, [0, 1, 3])]
noncomputable def cuts146 : Cuts := []
theorem fit146 : cutsFit labs 146 cuts146 = true := by kernel_rfl
noncomputable def cuts148 : Cuts := [(7, 141, [0, 1])]
theorem fit148 : cutsFit labs 148 cuts148 = true := by kernel_rfl
noncomputable def cuts147 : Cuts := []
theorem fit147 : cutsFit labs 147 cuts147 = true := by kernel_rfl
noncomputable def cuts145 : Cuts := [(53, 142, [0, 3, 4]), (215, 143, [0, 15])]
theorem fit145 : cutsFit labs 145 cuts145 = true := by kernel_rfl
noncomputable def cuts143 : Cuts := []
theorem fit143 : cutsFit labs 143 cuts143 = true := by kernel_rfl
noncomputable def cuts144 : Cuts := []
noncomputable def cuts142 : Cuts := [(26, 144, [0, 1, 7, 8])]
theorem fit142 : cutsFit labs 142 cuts142 = true := by kernel_rfl
noncomputable def cuts165 : Cuts := [(63, 145, [0, 5])]
theorem fit165 : cutsFit labs 165 cuts165 = true := by kernel_rfl
noncomputable def cuts164 : Cuts := [(63, 146, [0, 1, 5, 6, 7])]
noncomputable def cuts163 : Cuts := [(31, 147, [0, 1, 3, 9])]
theorem fit163 : cutsFit labs 163 cuts163 = true := by kernel_rfl
noncomputable def cuts162 : Cuts := [(26, 148, [0, 1, 5])]
theorem fit162 : cutsFit labs 162 cuts162 = true := by kernel_rfl
noncomputable def cuts161 : Cuts := []
noncomputable def cuts167 : Cuts := [(26, 149, [0, 3, 7, 8])]
theorem fit167 : cutsFit labs 167 cuts167 = true := by kernel_rfl
noncomputable def cuts166 : Cuts := [(2044, 150, [0, 1, 5, 6, 7, 8, 9, 10]), (32709, 151, [0, 1, 5, 6, 7, 8, 9, 10])]
noncomputable def cuts171 : Cuts := [(250, 152, [0, 1, 5, 6, 7, 8, 9]), (1018, 153, [0, 1, 5, 6, 7, 8, 10])]
noncomputable def cuts170 : Cuts := []
noncomputable def cuts168 : Cuts := []
noncomputable def cuts173 : Cuts := [(58, 154, [0, 4, 5]), (250, 155, [4, 6, 7, 8]), (8009, 156, [4, 6, 7, 8])]
end Go.FN

end
section
open Go Go.Mid Go.Proofs
set_option maxRecDepth 100000
set_option linter.unusedVariables false
namespace Go.FN
section
theorem c0 {X : List V → VH} {B : VH} (e : B = X []) (vs : List V) : OLe ((nilE B) vs) (X vs) := nilE_le (X := fun r => X (r)) (e) vs
theorem c1 {X : List V → VH} {B : V → VH} (e : ∀ x0 : V, B x0 = X [x0]) (vs : List V) : OLe ((consE fun x0 => (nilE (B x0))) vs) (X vs) := consE_le (X := fun r => X (r)) (fun x0 r0 => nilE_le (X := fun r => X (x0 :: r)) (e x0) r0) vs
theorem c2 {X : List V → VH} {B : V → V → VH} (e : ∀ x0 x1 : V, B x0 x1 = X [x0, x1]) (vs : List V) : OLe ((consE fun x0 => (consE fun x1 => (nilE (B x0 x1)))) vs) (X vs) := consE_le (X := fun r => X (r)) (fun x0 r0 => consE_le (X := fun r => X (x0 :: r)) (fun x1 r1 => nilE_le (X := fun r => X (x0 :: x1 :: r)) (e x0 x1) r1) r0) vs
theorem c3 {X : List V → VH} {B : V → V → V → VH} (e : ∀ x0 x1 x2 : V, B x0 x1 x2 = X [x0, x1, x2]) (vs : List V) : OLe ((consE fun x0 => (consE fun x1 => (consE fun x2 => (nilE (B x0 x1 x2))))) vs) (X vs) := consE_le (X := fun r => X (r)) (fun x0 r0 => consE_le (X := fun r => X (x0 :: r)) (fun x1 r1 => consE_le (X := fun r => X (x0 :: x1 :: r)) (fun x2 r2 => nilE_le (X := fun r => X (x0 :: x1 :: x2 :: r)) (e x0 x1 x2) r2) r1) r0) vs
theorem c4 {X : List V → VH} {B : V → V → V → V → VH} (e : ∀ x0 x1 x2 x3 : V, B x0 x1 x2 x3 = X [x0, x1, x2, x3]) (vs : List V) : OLe ((consE fun x0 => (consE fun x1 => (consE fun x2 => (consE fun x3 => (nilE (B x0 x1 x2 x3)))))) vs) (X vs) := consE_le (X := fun r => X (r)) (fun x0 r0 => consE_le (X := fun r => X (x0 :: r)) (fun x1 r1 => consE_le (X := fun r => X (x0 :: x1 :: r)) (fun x2 r2 => consE_le (X := fun r => X (x0 :: x1 :: x2 :: r)) (fun x3 r3 => nilE_le (X := fun r => X (x0 :: x1 :: x2 :: x3 :: r)) (e x0 x1 x2 x3) r3) r2) r1) r0) vs
theorem c5 {X : List V → VH} {B : V → V → V → V → V → VH} (e : ∀ x0 x1 x2 x3 x4 : V, B x0 x1 x2 x3 x4 = X [x0, x1, x2, x3, x4]) (vs : List V) : OLe ((consE fun x0 => (consE fun x1 => (consE fun x2 => (consE fun x3 => (consE fun x4 => (nilE (B x0 x1 x2 x3 x4))))))) vs) (X vs) := consE_le (X := fun r => X (r)) (fun x0 r0 => consE_le (X := fun r => X (x0 :: r)) (fun x1 r1 => consE_le (X := fun r => X (x0 :: x1 :: r)) (fun x2 r2 => consE_le (X := fun r => X (x0 :: x1 :: x2 :: r)) (fun x3 r3 => consE_le (X := fun r => X (x0 :: x1 :: x2 :: x3 :: r)) (fun x4 r4 => nilE_le (X := fun r => X (x0 :: x1 :: x2 :: x3 :: x4 :: r)) (e x0 x1 x2 x3 x4) r4) r3) r2) r1) r0) vs
theorem c6 {X : List V → VH} {B : V → V → V → V → V → V → VH} (e : ∀ x0 x1 x2 x3 x4 x5 : V, B x0 x1 x2 x3 x4 x5 = X [x0, x1, x2, x3, x4, x5]) (vs : List V) : OLe ((consE fun x0 => (consE fun x1 => (consE fun x2 => (consE fun x3 => (consE fun x4 => (consE fun x5 => (nilE (B x0 x1 x2 x3 x4 x5)))))))) vs) (X vs) := consE_le (X := fun r => X (r)) (fun x0 r0 => consE_le (X := fun r => X (x0 :: r)) (fun x1 r1 => consE_le (X := fun r => X (x0 :: x1 :: r)) (fun x2 r2 => consE_le (X := fun r => X (x0 :: x1 :: x2 :: r)) (fun x3 r3 => consE_le (X := fun r => X (x0 :: x1 :: x2 :: x3 :: r)) (fun x4 r4 => consE_le (X := fun r => X (x0 :: x1 :: x2 :: x3 :: x4 :: r)) (fun x5 r5 => nilE_le (X := fun r => X (x0 :: x1 :: x2 :: x3 :: x4 :: x5 :: r)) (e x0 x1 x2 x3 x4 x5) r5) r4) r3) r2) r1) r0) vs
theorem c7 {X : List V → VH} {B : V → V → V → V → V → V → V → VH} (e : ∀ x0 x1 x2 x3 x4 x5 x6 : V, B x0 x1 x2 x3 x4 x5 x6 = X [x0, x1, x2, x3, x4, x5, x6]) (vs : List V) : OLe ((consE fun x0 => (consE fun x1 => (consE fun x2 => (consE fun x3 => (consE fun x4 => (consE fun x5 => (consE fun x6 => (nilE (B x0 x1 x2 x3 x4 x5 x6))))))))) vs) (X vs) := consE_le (X := fun r => X (r)) (fun x0 r0 => consE_le (X := fun r => X (x0 :: r)) (fun x1 r1 => consE_le (X := fun r => X (x0 :: x1 :: r)) (fun x2 r2 => consE_le (X := fun r => X (x0 :: x1 :: x2 :: r)) (fun x3 r3 => consE_le (X := fun r => X (x0 :: x1 :: x2 :: x3 :: r)) (fun x4 r4 => consE_le (X := fun r => X (x0 :: x1 :: x2 :: x3 :: x4 :: r)) (fun x5 r5 => consE_le (X := fun r => X (x0 :: x1 :: x2 :: x3 :: x4 :: x5 :: r)) (fun x6 r6 => nilE_le (X := fun r => X (x0 :: x1 :: x2 :: x3 :: x4 :: x5 :: x6 :: r)) (e x0 x1 x2 x3 x4 x5 x6) r6) r5) r4) r3) r2) r1) r0) vs
theorem c8 {X : List V → VH} {B : V → V → V → V → V → V → V → V → VH} (e : ∀ x0 x1 x2 x3 x4 x5 x6 x7 : V, B x0 x1 x2 x3 x4 x5 x6 x7 = X [x0, x1, x2, x3, x4, x5, x6, x7]) (vs : List V) : OLe ((consE fun x0 => (consE fun x1 => (consE fun x2 => (consE fun x3 => (consE fun x4 => (consE fun x5 => (consE fun x6 => (consE fun x7 => (nilE (B x0 x1 x2 x3 x4 x5 x6 x7)))))))))) vs) (X vs) := consE_le (X := fun r => X (r)) (fun x0 r0 => consE_le (X := fun r => X (x0 :: r)) (fun x1 r1 => consE_le (X := fun r => X (x0 :: x1 :: r)) (fun x2 r2 => consE_le (X := fun r => X (x0 :: x1 :: x2 :: r)) (fun x3 r3 => consE_le (X := fun r => X (x0 :: x1 :: x2 :: x3 :: r)) (fun x4 r4 => consE_le (X := fun r => X (x0 :: x1 :: x2 :: x3 :: x4 :: r)) (fun x5 r5 => consE_le (X := fun r => X (x0 :: x1 :: x2 :: x3 :: x4 :: x5 :: r)) (fun x6 r6 => consE_le (X := fun r => X (x0 :: x1 :: x2 :: x3 :: x4 :: x5 :: x6 :: r)) (fun x7 r7 => nilE_le (X := fun r => X (x0 :: x1 :: x2 :: x3 :: x4 :: x5 :: x6 :: x7 :: r)) (e x0 x1 x2 x3 x4 x5 x6 x7) r7) r6) r5) r4) r3) r2) r1) r0) vs
theorem c9 {X : List V → VH} {B : V → V → V → V → V → V → V → V → V → VH} (e : ∀ x0 x1 x2 x3 x4 x5 x6 x7 x8 : V, B x0 x1 x2 x3 x4 x5 x6 x7 x8 = X [x0, x1, x2, x3, x4, x5, x6, x7, x8]) (vs : List V) : OLe ((consE fun x0 => (consE fun x1 => (consE fun x2 => (consE fun x3 => (consE fun x4 => (consE fun x5 => (consE fun x6 => (consE fun x7 => (consE fun x8 => (nilE (B x0 x1 x2 x3 x4 x5 x6 x7 x8))))))))))) vs) (X vs) := consE_le (X := fun r => X (r)) (fun x0 r0 => consE_le (X := fun r => X (x0 :: r)) (fun x1 r1 => consE_le (X := fun r => X (x0 :: x1 :: r)) (fun x2 r2 => consE_le (X := fun r => X (x0 :: x1 :: x2 :: r)) (fun x3 r3 => consE_le (X := fun r => X (x0 :: x1 :: x2 :: x3 :: r)) (fun x4 r4 => consE_le (X := fun r => X (x0 :: x1 :: x2 :: x3 :: x4 :: r)) (fun x5 r5 => consE_le (X := fun r => X (x0 :: x1 :: x2 :: x3 :: x4 :: x5 :: r)) (fun x6 r6 => consE_le (X := fun r => X (x0 :: x1 :: x2 :: x3 :: x4 :: x5 :: x6 :: r)) (fun x7 r7 => consE_le (X := fun r => X (x0 :: x1 :: x2 :: x3 :: x4 :: x5 :: x6 :: x7 :: r)) (fun x8 r8 => nilE_le (X := fun r => X (x0 :: x1 :: x2 :: x3 :: x4 :: x5 :: x6 :: x7 :: x8 :: r)) (e x0 x1 x2 x3 x4 x5 x6 x7 x8) r8) r7) r6) r5) r4) r3) r2) r1) r0) vs
theorem c10 {X : List V → VH} {B : V → V → V → V → V → V → V → V → V → V → VH} (e : ∀ x0 x1 x2 x3 x4 x5 x6 x7 x8 x9 : V, B x0 x1 x2 x3 x4 x5 x6 x7 x8 x9 = X [x0, x1, x2, x3, x4, x5, x6, x7, x8, x9]) (vs : List V) : OLe ((consE fun x0 => (consE fun x1 => (consE fun x2 => (consE fun x3 => (consE fun x4 => (consE fun x5 => (consE fun x6 => (consE fun x7 => (consE fun x8 => (consE fun x9 => (nilE (B x0 x1 x2 x3 x4 x5 x6 x7 x8 x9)))))))))))) vs) (X vs) := consE_le (X := fun r => X (r)) (fun x0 r0 => consE_le (X := fun r => X (x0 :: r)) (fun x1 r1 => consE_le (X := fun r => X (x0 :: x1 :: r)) (fun x2 r2 => consE_le (X := fun r => X (x0 :: x1 :: x2 :: r)) (fun x3 r3 => consE_le (X := fun r => X (x0 :: x1 :: x2 :: x3 :: r)) (fun x4 r4 => consE_le (X := fun r => X (x0 :: x1 :: x2 :: x3 :: x4 :: r)) (fun x5 r5 => consE_le (X := fun r => X (x0 :: x1 :: x2 :: x3 :: x4 :: x5 :: r)) (fun x6 r6 => consE_le (X := fun r => X (x0 :: x1 :: x2 :: x3 :: x4 :: x5 :: x6 :: r)) (fun x7 r7 => consE_le (X := fun r => X (x0 :: x1 :: x2 :: x3 :: x4 :: x5 :: x6 :: x7 :: r)) (fun x8 r8 => consE_le (X := fun r => X (x0 :: x1 :: x2 :: x3 :: x4 :: x5 :: x6 :: x7 :: x8 :: r)) (fun x9 r9 => nilE_le (X := fun r => X (x0 :: x1 :: x2 :: x3 :: x4 :: x5 :: x6 :: x7 :: x8 :: x9 :: r)) (e x0 x1 x2 x3 x4 x5 x6 x7 x8 x9) r9) r8) r7) r6) r5) r4) r3) r2) r1) r0) vs
variable (fn : FuncId → List V → Hp → Option (V × Hp)) (I : World → Prop)
@[reducible] noncomputable def orc : Orc := ⟨1, fn, kdW Tryz.prog, opW Tryz.prog, I, itr0⟩
noncomputable def L : Nat → List V → Hp → VH := @lim Tryz.prog (orc fn I) labs
noncomputable abbrev dF (k : Nat) (c : Cuts) (ih : II) (r : List V) (h : Hp) : VH := @denF Tryz.prog (orc fn I) ih 100000 c r h (Tryz.prog.funcs[k]?)
noncomputable abbrev dL (k : Nat) (c : Cuts) (q : Nat) (v : List Tmp) (ih : II) (r : List V) (h : Hp) : VH := @denL Tryz.prog (orc fn I) ih 100000 c q v r h (Tryz.prog.funcs[k]?)
abbrev EO (k : Nat) (G : Sh) : Prop := @EntOk (orc fn I) Tryz.prog labs k G
theorem fE (f : FuncId) {G : Sh} (ho : ∀ vs h, fn f vs h = none) (cs : Cuts) (hf : cutsFit labs f cs = true) (h : ∀ ih vs h, OLe (G ih vs h) (dF fn I f cs ih vs h)) : EO fn I (2 * f) G := @entF Tryz.prog (orc fn I) labs f G ho 100000 cs hf h
theorem e8 (ih : II) (h : Hp) : B8 ih  h = dF fn I 4 cuts4 ih [] h := by kernel_rfl
theorem E8 (hf : ∀ vs h, fn 4 vs h = none) : EO fn I 8 G8 := fE fn I 4 hf cuts4 fit4 fun ih vs h => c0 (X := fun r => dF fn I 4 cuts4 ih r h) (e8 fn I ih h) vs
theorem e10 (ih : II) (h : Hp) : B10 ih  h = dF fn I 5 cuts5 ih [] h := by kernel_rfl
theorem E10 (hf : ∀ vs h, fn 5 vs h = none) : EO fn I 10 G10 := fE fn I 5 hf cuts5 fit5 fun ih vs h => c0 (X := fun r => dF fn I 5 cuts5 ih r h) (e10 fn I ih h) vs
theorem e22 (ih : II) (h : Hp) : B22 ih  h = dF fn I 11 cuts11 ih [] h := by kernel_rfl
theorem E22 (hf : ∀ vs h, fn 11 vs h = none) : EO fn I 22 G22 := fE fn I 11 hf cuts11 fit11 fun ih vs h => c0 (X := fun r => dF fn I 11 cuts11 ih r h) (e22 fn I ih h) vs
theorem e20 (ih : II) (h : Hp) : B20 ih  h = dF fn I 10 cuts10 ih [] h := by kernel_rfl
theorem E20 (hf : ∀ vs h, fn 10 vs h = none) : EO fn I 20 G20 := fE fn I 10 hf cuts10 fit10 fun ih vs h => c0 (X := fun r => dF fn I 10 cuts10 ih r h) (e20 fn I ih h) vs
theorem e16 (ih : II) (x0 x1 x2 x3 : V) (h : Hp) : B16 ih x0 x1 x2 x3 h = dF fn I 8 cuts8 ih [x0, x1, x2, x3] h := by kernel_rfl
theorem E16 (hf : ∀ vs h, fn 8 vs h = none) : EO fn I 16 G16 := fE fn I 8 hf cuts8 fit8 fun ih vs h => c4 (X := fun r => dF fn I 8 cuts8 ih r h) (e16 fn I ih · · · · h) vs
theorem e1 (ih : II) (x0 x1 x2 x3 x4 : V) (h : Hp) : B1 ih x0 x1 x2 x3 x4 h = dL fn I 8 cuts8 122 [1, 2, 3, 9, 11] ih [x0, x1, x2, x3, x4] h := by kernel_rfl
theorem E1 : EO fn I 1 G1 := @entL Tryz.prog (orc fn I) _ 0 _ 8 122 [1, 2, 3, 9, 11] 100000 cuts8 (by kernel_rfl) fit8 fun ih vs h => c5 (X := fun r => dL fn I 8 cuts8 122 [1, 2, 3, 9, 11] ih r h) (e1 fn I ih · · · · · h) vs
theorem e18 (ih : II) (x0 x1 x2 : V) (h : Hp) : B18 ih x0 x1 x2 h = dF fn I 9 cuts9 ih [x0, x1, x2] h := by kernel_rfl
theorem E18 (hf : ∀ vs h, fn 9 vs h = none) : EO fn I 18 G18 := fE fn I 9 hf cuts9 fit9 fun ih vs h => c3 (X := fun r => dF fn I 9 cuts9 ih r h) (e18 fn I ih · · · h) vs
theorem e26 (ih : II) (x0 x1 : V) (h : Hp) : B26 ih x0 x1 h = dF fn I 13 cuts13 ih [x0, x1] h := by kernel_rfl
theorem E26 (hf : ∀ vs h, fn 13 vs h = none) : EO fn I 26 G26 := fE fn I 13 hf cuts13 fit13 fun ih vs h => c2 (X := fun r => dF fn I 13 cuts13 ih r h) (e26 fn I ih · · h) vs
theorem e3 (ih : II) (x0 x1 x2 : V) (h : Hp) : B3 ih x0 x1 x2 h = dL fn I 13 cuts13 58 [2, 3, 5] ih [x0, x1, x2] h := by kernel_rfl
theorem E3 : EO fn I 3 G3 := @entL Tryz.prog (orc fn I) _ 1 _ 13 58 [2, 3, 5] 100000 cuts13 (by kernel_rfl) fit13 fun ih vs h => c3 (X := fun r => dL fn I 13 cuts13 58 [2, 3, 5] ih r h) (e3 fn I ih · · · h) vs
theorem e24 (ih : II) (x0 : V) (h : Hp) : B24 ih x0 h = dF fn I 12 cuts12 ih [x0] h := by kernel_rfl
theorem E24 (hf : ∀ vs h, fn 12 vs h = none) : EO fn I 24 G24 := fE fn I 12 hf cuts12 fit12 fun ih vs h => c1 (X := fun r => dF fn I 12 cuts12 ih r h) (e24 fn I ih · h) vs
theorem e36 (ih : II) (x0 : V) (h : Hp) : B36 ih x0 h = dF fn I 18 cuts18 ih [x0] h := by kernel_rfl
theorem E36 (hf : ∀ vs h, fn 18 vs h = none) : EO fn I 36 G36 := fE fn I 18 hf cuts18 fit18 fun ih vs h => c1 (X := fun r => dF fn I 18 cuts18 ih r h) (e36 fn I ih · h) vs
theorem e40 (ih : II) (x0 : V) (h : Hp) : B40 ih x0 h = dF fn I 20 cuts20 ih [x0] h := by kernel_rfl
theorem E40 (hf : ∀ vs h, fn 20 vs h = none) : EO fn I 40 G40 := fE fn I 20 hf cuts20 fit20 fun ih vs h => c1 (X := fun r => dF fn I 20 cuts20 ih r h) (e40 fn I ih · h) vs
theorem e17 (ih : II) (x0 x1 x2 x3 : V) (h : Hp) : B17 ih x0 x1 x2 x3 h = dL fn I 20 cuts20 58 [0, 3, 4, 5] ih [x0, x1, x2, x3] h := by kernel_rfl
theorem E17 : EO fn I 17 G17 := @entL Tryz.prog (orc fn I) _ 8 _ 20 58 [0, 3, 4, 5] 100000 cuts20 (by kernel_rfl) fit20 fun ih vs h => c4 (X := fun r => dL fn I 20 cuts20 58 [0, 3, 4, 5] ih r h) (e17 fn I ih · · · · h) vs
theorem e46 (ih : II) (x0 x1 : V) (h : Hp) : B46 ih x0 x1 h = dF fn I 23 cuts23 ih [x0, x1] h := by kernel_rfl
theorem E46 (hf : ∀ vs h, fn 23 vs h = none) : EO fn I 46 G46 := fE fn I 23 hf cuts23 fit23 fun ih vs h => c2 (X := fun r => dF fn I 23 cuts23 ih r h) (e46 fn I ih · · h) vs
theorem e19 (ih : II) (x0 x1 x2 : V) (h : Hp) : B19 ih x0 x1 x2 h = dL fn I 23 cuts23 58 [2, 3, 5] ih [x0, x1, x2] h := by kernel_rfl
theorem E19 : EO fn I 19 G19 := @entL Tryz.prog (orc fn I) _ 9 _ 23 58 [2, 3, 5] 100000 cuts23 (by kernel_rfl) fit23 fun ih vs h => c3 (X := fun r => dL fn I 23 cuts23 58 [2, 3, 5] ih r h) (e19 fn I ih · · · h) vs
theorem e21 (ih : II) (x0 x1 x2 : V) (h : Hp) : B21 ih x0 x1 x2 h = dL fn I 23 cuts23 122 [2, 3, 6] ih [x0, x1, x2] h := by kernel_rfl
theorem E21 : EO fn I 21 G21 := @entL Tryz.prog (orc fn I) _ 10 _ 23 122 [2, 3, 6] 100000 cuts23 (by kernel_rfl) fit23 fun ih vs h => c3 (X := fun r => dL fn I 23 cuts23 122 [2, 3, 6] ih r h) (e21 fn I ih · · · h) vs
theorem e23 (ih : II) (x0 x1 x2 : V) (h : Hp) : B23 ih x0 x1 x2 h = dL fn I 23 cuts23 250 [2, 3, 7] ih [x0, x1, x2] h := by kernel_rfl
theorem E23 : EO fn I 23 G23 := @entL Tryz.prog (orc fn I) _ 11 _ 23 250 [2, 3, 7] 100000 cuts23 (by kernel_rfl) fit23 fun ih vs h => c3 (X := fun r => dL fn I 23 cuts23 250 [2, 3, 7] ih r h) (e23 fn I ih · · · h) vs
theorem e25 (ih : II) (x0 x1 x2 : V) (h : Hp) : B25 ih x0 x1 x2 h = dL fn I 23 cuts23 506 [2, 3, 8] ih [x0, x1, x2] h := by kernel_rfl
theorem E25 : EO fn I 25 G25 := @entL Tryz.prog (orc fn I) _ 12 _ 23 506 [2, 3, 8] 100000 cuts23 (by kernel_rfl) fit23 fun ih vs h => c3 (X := fun r => dL fn I 23 cuts23 506 [2, 3, 8] ih r h) (e25 fn I ih · · · h) vs
theorem e44 (ih : II) (x0 x1 : V) (h : Hp) : B44 ih x0 x1 h = dF fn I 22 cuts22 ih [x0, x1] h := by kernel_rfl
theorem E44 (hf : ∀ vs h, fn 22 vs h = none) : EO fn I 44 G44 := fE fn I 22 hf cuts22 fit22 fun ih vs h => c2 (X := fun r => dF fn I 22 cuts22 ih r h) (e44 fn I ih · · h) vs
theorem e27 (ih : II) (x0 x1 x2 : V) (h : Hp) : B27 ih x0 x1 x2 h = dL fn I 22 cuts22 58 [0, 1, 5] ih [x0, x1, x2] h := by kernel_rfl
theorem E27 : EO fn I 27 G27 := @entL Tryz.prog (orc fn I) _ 13 _ 22 58 [0, 1, 5] 100000 cuts22 (by kernel_rfl) fit22 fun ih vs h => c3 (X := fun r => dL fn I 22 cuts22 58 [0, 1, 5] ih r h) (e27 fn I ih · · · h) vs
theorem e12 (ih : II) (x0 : V) (h : Hp) : B12 ih x0 h = dF fn I 6 cuts6 ih [x0] h := by kernel_rfl
theorem E12 (hf : ∀ vs h, fn 6 vs h = none) : EO fn I 12 G12 := fE fn I 6 hf cuts6 fit6 fun ih vs h => c1 (X := fun r => dF fn I 6 cuts6 ih r h) (e12 fn I ih · h) vs
theorem e29 (ih : II) (x0 x1 x2 : V) (h : Hp) : B29 ih x0 x1 x2 h = dL fn I 6 cuts6 63 [2, 3, 4] ih [x0, x1, x2] h := by kernel_rfl
theorem E29 : EO fn I 29 G29 := @entL Tryz.prog (orc fn I) _ 14 _ 6 63 [2, 3, 4] 100000 cuts6 (by kernel_rfl) fit6 fun ih vs h => c3 (X := fun r => dL fn I 6 cuts6 63 [2, 3, 4] ih r h) (e29 fn I ih · · · h) vs
theorem e31 (ih : II) (x0 x1 x2 x3 x4 x5 : V) (h : Hp) : B31 ih x0 x1 x2 x3 x4 x5 h = dL fn I 6 cuts6 1002 [2, 3, 4, 35, 36, 37] ih [x0, x1, x2, x3, x4, x5] h := by kernel_rfl
theorem E31 : EO fn I 31 G31 := @entL Tryz.prog (orc fn I) _ 15 _ 6 1002 [2, 3, 4, 35, 36, 37] 100000 cuts6 (by kernel_rfl) fit6 fun ih vs h => c6 (X := fun r => dL fn I 6 cuts6 1002 [2, 3, 4, 35, 36, 37] ih r h) (e31 fn I ih · · · · · · h) vs
theorem e33 (ih : II) (x0 x1 x2 x3 x4 x5 : V) (h : Hp) : B33 ih x0 x1 x2 x3 x4 x5 h = dL fn I 6 cuts6 1018 [2, 3, 4, 59, 60, 61] ih [x0, x1, x2, x3, x4, x5] h := by kernel_rfl
theorem E33 : EO fn I 33 G33 := @entL Tryz.prog (orc fn I) _ 16 _ 6 1018 [2, 3, 4, 59, 60, 61] 100000 cuts6 (by kernel_rfl) fit6 fun ih vs h => c6 (X := fun r => dL fn I 6 cuts6 1018 [2, 3, 4, 59, 60, 61] ih r h) (e33 fn I ih · · · · · · h) vs
theorem e42 (ih : II) (x0 : V) (h : Hp) : B42 ih x0 h = dF fn I 21 cuts21 ih [x0] h := by kernel_rfl
theorem E42 (hf : ∀ vs h, fn 21 vs h = none) : EO fn I 42 G42 := fE fn I 21 hf cuts21 fit21 fun ih vs h => c1 (X := fun r => dF fn I 21 cuts21 ih r h) (e42 fn I ih · h) vs
theorem e35 (ih : II) (x0 x1 x2 x3 : V) (h : Hp) : B35 ih x0 x1 x2 x3 h = dL fn I 21 cuts21 127 [2, 3, 6, 7] ih [x0, x1, x2, x3] h := by kernel_rfl
theorem E35 : EO fn I 35 G35 := @entL Tryz.prog (orc fn I) _ 17 _ 21 127 [2, 3, 6, 7] 100000 cuts21 (by kernel_rfl) fit21 fun ih vs h => c4 (X := fun r => dL fn I 21 cuts21 127 [2, 3, 6, 7] ih r h) (e35 fn I ih · · · · h) vs
theorem e86 (ih : II) (x0 x1 : V) (h : Hp) : B86 ih x0 x1 h = dF fn I 43 cuts43 ih [x0, x1] h := by kernel_rfl
theorem E86 (hf : ∀ vs h, fn 43 vs h = none) : EO fn I 86 G86 := fE fn I 43 hf cuts43 fit43 fun ih vs h => c2 (X := fun r => dF fn I 43 cuts43 ih r h) (e86 fn I ih · · h) vs
theorem e39 (ih : II) (x0 x1 x2 : V) (h : Hp) : B39 ih x0 x1 x2 h = dL fn I 43 cuts43 58 [0, 1, 5] ih [x0, x1, x2] h := by kernel_rfl
theorem E39 : EO fn I 39 G39 := @entL Tryz.prog (orc fn I) _ 19 _ 43 58 [0, 1, 5] 100000 cuts43 (by kernel_rfl) fit43 fun ih vs h => c3 (X := fun r => dL fn I 43 cuts43 58 [0, 1, 5] ih r h) (e39 fn I ih · · · h) vs
theorem e84 (ih : II) (x0 x1 : V) (h : Hp) : B84 ih x0 x1 h = dF fn I 42 cuts42 ih [x0, x1] h := by kernel_rfl
theorem E84 (hf : ∀ vs h, fn 42 vs h = none) : EO fn I 84 G84 := fE fn I 42 hf cuts42 fit42 fun ih vs h => c2 (X := fun r => dF fn I 42 cuts42 ih r h) (e84 fn I ih · · h) vs
theorem e32 (ih : II) (x0 x1 : V) (h : Hp) : B32 ih x0 x1 h = dF fn I 16 cuts16 ih [x0, x1] h := by kernel_rfl
theorem E32 (hf : ∀ vs h, fn 16 vs h = none) : EO fn I 32 G32 := fE fn I 16 hf cuts16 fit16 fun ih vs h => c2 (X := fun r => dF fn I 16 cuts16 ih r h) (e32 fn I ih · · h) vs
theorem e41 (ih : II) (x0 x1 x2 x3 : V) (h : Hp) : B41 ih x0 x1 x2 x3 h = dL fn I 16 cuts16 58 [0, 3, 4, 5] ih [x0, x1, x2, x3] h := by kernel_rfl
theorem E41 : EO fn I 41 G41 := @entL Tryz.prog (orc fn I) _ 20 _ 16 58 [0, 3, 4, 5] 100000 cuts16 (by kernel_rfl) fit16 fun ih vs h => c4 (X := fun r => dL fn I 16 cuts16 58 [0, 3, 4, 5] ih r h) (e41 fn I ih · · · · h) vs
theorem e43 (ih : II) (x0 x1 x2 x3 x4 x5 x6 : V) (h : Hp) : B43 ih x0 x1 x2 x3 x4 x5 x6 h = dL fn I 16 cuts16 3730 [0, 3, 4, 5, 26, 27, 28] ih [x0, x1, x2, x3, x4, x5, x6] h := by kernel_rfl
theorem E43 : EO fn I 43 G43 := @entL Tryz.prog (orc fn I) _ 21 _ 16 3730 [0, 3, 4, 5, 26, 27, 28] 100000 cuts16 (by kernel_rfl) fit16 fun ih vs h => c7 (X := fun r => dL fn I 16 cuts16 3730 [0, 3, 4, 5, 26, 27, 28] ih r h) (e43 fn I ih · · · · · · · h) vs
theorem e45 (ih : II) (x0 x1 x2 x3 x4 : V) (h : Hp) : B45 ih x0 x1 x2 x3 x4 h = dL fn I 16 cuts16 1909967 [0, 3, 4, 7, 8] ih [x0, x1, x2, x3, x4] h := by kernel_rfl
theorem E45 : EO fn I 45 G45 := @entL Tryz.prog (orc fn I) _ 22 _ 16 1909967 [0, 3, 4, 7, 8] 100000 cuts16 (by kernel_rfl) fit16 fun ih vs h => c5 (X := fun r => dL fn I 16 cuts16 1909967 [0, 3, 4, 7, 8] ih r h) (e45 fn I ih · · · · · h) vs
theorem e47 (ih : II) (x0 x1 x2 : V) (h : Hp) : B47 ih x0 x1 x2 h = dL fn I 16 cuts16 3819935 [3, 4, 7] ih [x0, x1, x2] h := by kernel_rfl
theorem E47 : EO fn I 47 G47 := @entL Tryz.prog (orc fn I) _ 23 _ 16 3819935 [3, 4, 7] 100000 cuts16 (by kernel_rfl) fit16 fun ih vs h => c3 (X := fun r => dL fn I 16 cuts16 3819935 [3, 4, 7] ih r h) (e47 fn I ih · · · h) vs
theorem e49 (ih : II) (h : Hp) : B49 ih  h = dL fn I 16 cuts16 15279743 [] ih [] h := by kernel_rfl
theorem E49 : EO fn I 49 G49 := @entL Tryz.prog (orc fn I) _ 24 _ 16 15279743 [] 100000 cuts16 (by kernel_rfl) fit16 fun ih vs h => c0 (X := fun r => dL fn I 16 cuts16 15279743 [] ih r h) (e49 fn I ih h) vs
theorem e30 (ih : II) (x0 x1 : V) (h : Hp) : B30 ih x0 x1 h = dF fn I 15 cuts15 ih [x0, x1] h := by kernel_rfl
theorem E30 (hf : ∀ vs h, fn 15 vs h = none) : EO fn I 30 G30 := fE fn I 15 hf cuts15 fit15 fun ih vs h => c2 (X := fun r => dF fn I 15 cuts15 ih r h) (e30 fn I ih · · h) vs
theorem e51 (ih : II) (x0 x1 x2 x3 x4 x5 x6 : V) (h : Hp) : B51 ih x0 x1 x2 x3 x4 x5 x6 h = dL fn I 15 cuts15 1018 [0, 3, 5, 6, 58, 59, 60] ih [x0, x1, x2, x3, x4, x5, x6] h := by kernel_rfl
theorem E51 : EO fn I 51 G51 := @entL Tryz.prog (orc fn I) _ 25 _ 15 1018 [0, 3, 5, 6, 58, 59, 60] 100000 cuts15 (by kernel_rfl) fit15 fun ih vs h => c7 (X := fun r => dL fn I 15 cuts15 1018 [0, 3, 5, 6, 58, 59, 60] ih r h) (e51 fn I ih · · · · · · · h) vs
theorem e53 (ih : II) (x0 x1 x2 : V) (h : Hp) : B53 ih x0 x1 x2 h = dL fn I 15 cuts15 1023 [0, 5, 6] ih [x0, x1, x2] h := by kernel_rfl
theorem E53 : EO fn I 53 G53 := @entL Tryz.prog (orc fn I) _ 26 _ 15 1023 [0, 5, 6] 100000 cuts15 (by kernel_rfl) fit15 fun ih vs h => c3 (X := fun r => dL fn I 15 cuts15 1023 [0, 5, 6] ih r h) (e53 fn I ih · · · h) vs
theorem e55 (ih : II) (x0 x1 x2 x3 x4 : V) (h : Hp) : B55 ih x0 x1 x2 x3 x4 h = dL fn I 15 cuts15 8186 [0, 5, 6, 92, 93] ih [x0, x1, x2, x3, x4] h := by kernel_rfl
theorem E55 : EO fn I 55 G55 := @entL Tryz.prog (orc fn I) _ 27 _ 15 8186 [0, 5, 6, 92, 93] 100000 cuts15 (by kernel_rfl) fit15 fun ih vs h => c5 (X := fun r => dL fn I 15 cuts15 8186 [0, 5, 6, 92, 93] ih r h) (e55 fn I ih · · · · · h) vs
theorem e57 (ih : II) (x0 x1 x2 x3 x4 x5 x6 x7 : V) (h : Hp) : B57 ih x0 x1 x2 x3 x4 x5 x6 x7 h = dL fn I 15 cuts15 4191438 [0, 5, 6, 92, 93, 109, 110, 111] ih [x0, x1, x2, x3, x4, x5, x6, x7] h := by kernel_rfl
theorem E57 : EO fn I 57 G57 := @entL Tryz.prog (orc fn I) _ 28 _ 15 4191438 [0, 5, 6, 92, 93, 109, 110, 111] 100000 cuts15 (by kernel_rfl) fit15 fun ih vs h => c8 (X := fun r => dL fn I 15 cuts15 4191438 [0, 5, 6, 92, 93, 109, 110, 111] ih r h) (e57 fn I ih · · · · · · · · h) vs
theorem e59 (ih : II) (x0 x1 x2 x3 x4 x5 x6 x7 : V) (h : Hp) : B59 ih x0 x1 x2 x3 x4 x5 x6 x7 h = dL fn I 15 cuts15 67063015 [0, 5, 6, 92, 93, 109, 110, 111] ih [x0, x1, x2, x3, x4, x5, x6, x7] h := by kernel_rfl
theorem E59 : EO fn I 59 G59 := @entL Tryz.prog (orc fn I) _ 29 _ 15 67063015 [0, 5, 6, 92, 93, 109, 110, 111] 100000 cuts15 (by kernel_rfl) fit15 fun ih vs h => c8 (X := fun r => dL fn I 15 cuts15 67063015 [0, 5, 6, 92, 93, 109, 110, 111] ih r h) (e59 fn I ih · · · · · · · · h) vs
theorem e28 (ih : II) (x0 : V) (h : Hp) : B28 ih x0 h = dF fn I 14 cuts14 ih [x0] h := by kernel_rfl
theorem E28 (hf : ∀ vs h, fn 14 vs h = none) : EO fn I 28 G28 := fE fn I 14 hf cuts14 fit14 fun ih vs h => c1 (X := fun r => dF fn I 14 cuts14 ih r h) (e28 fn I ih · h) vs
theorem e61 (ih : II) (x0 x1 x2 x3 : V) (h : Hp) : B61 ih x0 x1 x2 x3 h = dL fn I 14 cuts14 2042 [1, 4, 5, 6] ih [x0, x1, x2, x3] h := by kernel_rfl
theorem E61 : EO fn I 61 G61 := @entL Tryz.prog (orc fn I) _ 30 _ 14 2042 [1, 4, 5, 6] 100000 cuts14 (by kernel_rfl) fit14 fun ih vs h => c4 (X := fun r => dL fn I 14 cuts14 2042 [1, 4, 5, 6] ih r h) (e61 fn I ih · · · · h) vs
theorem e63 (ih : II) (x0 x1 x2 x3 x4 x5 x6 x7 x8 : V) (h : Hp) : B63 ih x0 x1 x2 x3 x4 x5 x6 x7 x8 h = dL fn I 14 cuts14 1045690 [1, 4, 5, 6, 7, 8, 89, 90, 91] ih [x0, x1, x2, x3, x4, x5, x6, x7, x8] h := by kernel_rfl
theorem E63 : EO fn I 63 G63 := @entL Tryz.prog (orc fn I) _ 31 _ 14 1045690 [1, 4, 5, 6, 7, 8, 89, 90, 91] 100000 cuts14 (by kernel_rfl) fit14 fun ih vs h => c9 (X := fun r => dL fn I 14 cuts14 1045690 [1, 4, 5, 6, 7, 8, 89, 90, 91] ih r h) (e63 fn I ih · · · · · · · · · h) vs
theorem e82 (ih : II) (x0 : V) (h : Hp) : B82 ih x0 h = dF fn I 41 cuts41 ih [x0] h := by kernel_rfl
theorem E82 (hf : ∀ vs h, fn 41 vs h = none) : EO fn I 82 G82 := fE fn I 41 hf cuts41 fit41 fun ih vs h => c1 (X := fun r => dF fn I 41 cuts41 ih r h) (e82 fn I ih · h) vs
theorem F82 (hf : ∀ vs h, fn 41 vs h = none) {x0 : V} {h : Hp} {p : V × Hp} (hp : B82 (L fn I) x0 h = some p) : L fn I 82 [x0] h = some p := @lim_ent Tryz.prog (orc fn I) labs 82 G82 (E82 fn I hf) [x0] h p (show G82 (L fn I) [x0] h = some p from hp)
theorem e80 (ih : II) (x0 x1 : V) (h : Hp) : B80 ih x0 x1 h = dF fn I 40 cuts40 ih [x0, x1] h := by kernel_rfl
theorem E80 (hf : ∀ vs h, fn 40 vs h = none) : EO fn I 80 G80 := fE fn I 40 hf cuts40 fit40 fun ih vs h => c2 (X := fun r => dF fn I 40 cuts40 ih r h) (e80 fn I ih · · h) vs
theorem e76 (ih : II) (x0 x1 : V) (h : Hp) : B76 ih x0 x1 h = dF fn I 38 cuts38 ih [x0, x1] h := by kernel_rfl
theorem E76 (hf : ∀ vs h, fn 38 vs h = none) : EO fn I 76 G76 := fE fn I 38 hf cuts38 fit38 fun ih vs h => c2 (X := fun r => dF fn I 38 cuts38 ih r h) (e76 fn I ih · · h) vs
theorem e74 (ih : II) (x0 x1 : V) (h : Hp) : B74 ih x0 x1 h = dF fn I 37 cuts37 ih [x0, x1] h := by kernel_rfl
theorem E74 (hf : ∀ vs h, fn 37 vs h = none) : EO fn I 74 G74 := fE fn I 37 hf cuts37 fit37 fun ih vs h => c2 (X := fun r => dF fn I 37 cuts37 ih r h) (e74 fn I ih · · h) vs
theorem e65 (ih : II) (x0 x1 : V) (h : Hp) : B65 ih x0 x1 h = dL fn I 37 cuts37 31 [0, 5] ih [x0, x1] h := by kernel_rfl
theorem E65 : EO fn I 65 G65 := @entL Tryz.prog (orc fn I) _ 32 _ 37 31 [0, 5] 100000 cuts37 (by kernel_rfl) fit37 fun ih vs h => c2 (X := fun r => dL fn I 37 cuts37 31 [0, 5] ih r h) (e65 fn I ih · · h) vs
theorem e67 (ih : II) (x0 x1 x2 : V) (h : Hp) : B67 ih x0 x1 x2 h = dL fn I 37 cuts37 60 [0, 1, 5] ih [x0, x1, x2] h := by kernel_rfl
theorem E67 : EO fn I 67 G67 := @entL Tryz.prog (orc fn I) _ 33 _ 37 60 [0, 1, 5] 100000 cuts37 (by kernel_rfl) fit37 fun ih vs h => c3 (X := fun r => dL fn I 37 cuts37 60 [0, 1, 5] ih r h) (e67 fn I ih · · · h) vs
theorem e72 (ih : II) (x0 : V) (h : Hp) : B72 ih x0 h = dF fn I 36 cuts36 ih [x0] h := by kernel_rfl
theorem E72 (hf : ∀ vs h, fn 36 vs h = none) : EO fn I 72 G72 := fE fn I 36 hf cuts36 fit36 fun ih vs h => c1 (X := fun r => dF fn I 36 cuts36 ih r h) (e72 fn I ih · h) vs
theorem e69 (ih : II) (x0 x1 x2 x3 x4 : V) (h : Hp) : B69 ih x0 x1 x2 x3 x4 h = dL fn I 36 cuts36 126 [0, 3, 4, 5, 6] ih [x0, x1, x2, x3, x4] h := by kernel_rfl
theorem E69 : EO fn I 69 G69 := @entL Tryz.prog (orc fn I) _ 34 _ 36 126 [0, 3, 4, 5, 6] 100000 cuts36 (by kernel_rfl) fit36 fun ih vs h => c5 (X := fun r => dL fn I 36 cuts36 126 [0, 3, 4, 5, 6] ih r h) (e69 fn I ih · · · · · h) vs
theorem e71 (ih : II) (x0 x1 x2 x3 x4 x5 : V) (h : Hp) : B71 ih x0 x1 x2 x3 x4 x5 h = dL fn I 36 cuts36 4036 [0, 3, 4, 5, 6, 7] ih [x0, x1, x2, x3, x4, x5] h := by kernel_rfl
theorem E71 : EO fn I 71 G71 := @entL Tryz.prog (orc fn I) _ 35 _ 36 4036 [0, 3, 4, 5, 6, 7] 100000 cuts36 (by kernel_rfl) fit36 fun ih vs h => c6 (X := fun r => dL fn I 36 cuts36 4036 [0, 3, 4, 5, 6, 7] ih r h) (e71 fn I ih · · · · · · h) vs
theorem e73 (ih : II) (x0 x1 x2 x3 x4 x5 : V) (h : Hp) : B73 ih x0 x1 x2 x3 x4 x5 h = dL fn I 36 cuts36 64639 [0, 3, 4, 5, 6, 7] ih [x0, x1, x2, x3, x4, x5] h := by kernel_rfl
theorem E73 : EO fn I 73 G73 := @entL Tryz.prog (orc fn I) _ 36 _ 36 64639 [0, 3, 4, 5, 6, 7] 100000 cuts36 (by kernel_rfl) fit36 fun ih vs h => c6 (X := fun r => dL fn I 36 cuts36 64639 [0, 3, 4, 5, 6, 7] ih r h) (e73 fn I ih · · · · · · h) vs
theorem e54 (ih : II) (x0 x1 x2 : V) (h : Hp) : B54 ih x0 x1 x2 h = dF fn I 27 cuts27 ih [x0, x1, x2] h := by kernel_rfl
theorem E54 (hf : ∀ vs h, fn 27 vs h = none) : EO fn I 54 G54 := fE fn I 27 hf cuts27 fit27 fun ih vs h => c3 (X := fun r => dF fn I 27 cuts27 ih r h) (e54 fn I ih · · · h) vs
theorem e58 (ih : II) (x0 x1 x2 x3 : V) (h : Hp) : B58 ih x0 x1 x2 x3 h = dF fn I 29 cuts29 ih [x0, x1, x2, x3] h := by kernel_rfl
theorem E58 (hf : ∀ vs h, fn 29 vs h = none) : EO fn I 58 G58 := fE fn I 29 hf cuts29 fit29 fun ih vs h => c4 (X := fun r => dF fn I 29 cuts29 ih r h) (e58 fn I ih · · · · h) vs
theorem e75 (ih : II) (x0 : V) (h : Hp) : B75 ih x0 h = dL fn I 29 cuts29 63 [4] ih [x0] h := by kernel_rfl
theorem E75 : EO fn I 75 G75 := @entL Tryz.prog (orc fn I) _ 37 _ 29 63 [4] 100000 cuts29 (by kernel_rfl) fit29 fun ih vs h => c1 (X := fun r => dL fn I 29 cuts29 63 [4] ih r h) (e75 fn I ih · h) vs
theorem e77 (ih : II) (x0 x1 x2 x3 x4 x5 : V) (h : Hp) : B77 ih x0 x1 x2 x3 x4 x5 h = dL fn I 29 cuts29 122 [3, 4, 8, 25, 26, 27] ih [x0, x1, x2, x3, x4, x5] h := by kernel_rfl
theorem E77 : EO fn I 77 G77 := @entL Tryz.prog (orc fn I) _ 38 _ 29 122 [3, 4, 8, 25, 26, 27] 100000 cuts29 (by kernel_rfl) fit29 fun ih vs h => c6 (X := fun r => dL fn I 29 cuts29 122 [3, 4, 8, 25, 26, 27] ih r h) (e77 fn I ih · · · · · · h) vs
theorem e79 (ih : II) (x0 x1 x2 x3 x4 x5 : V) (h : Hp) : B79 ih x0 x1 x2 x3 x4 x5 h = dL fn I 29 cuts29 1959 [3, 4, 8, 25, 26, 27] ih [x0, x1, x2, x3, x4, x5] h := by kernel_rfl
theorem E79 : EO fn I 79 G79 := @entL Tryz.prog (orc fn I) _ 39 _ 29 1959 [3, 4, 8, 25, 26, 27] 100000 cuts29 (by kernel_rfl) fit29 fun ih vs h => c6 (X := fun r => dL fn I 29 cuts29 1959 [3, 4, 8, 25, 26, 27] ih r h) (e79 fn I ih · · · · · · h) vs
theorem e56 (ih : II) (x0 x1 x2 : V) (h : Hp) : B56 ih x0 x1 x2 h = dF fn I 28 cuts28 ih [x0, x1, x2] h := by kernel_rfl
theorem E56 (hf : ∀ vs h, fn 28 vs h = none) : EO fn I 56 G56 := fE fn I 28 hf cuts28 fit28 fun ih vs h => c3 (X := fun r => dF fn I 28 cuts28 ih r h) (e56 fn I ih · · · h) vs
theorem e81 (ih : II) (x0 : V) (h : Hp) : B81 ih x0 h = dL fn I 28 cuts28 124 [7] ih [x0] h := by kernel_rfl
theorem E81 : EO fn I 81 G81 := @entL Tryz.prog (orc fn I) _ 40 _ 28 124 [7] 100000 cuts28 (by kernel_rfl) fit28 fun ih vs h => c1 (X := fun r => dL fn I 28 cuts28 124 [7] ih r h) (e81 fn I ih · h) vs
theorem e50 (ih : II) (x0 x1 : V) (h : Hp) : B50 ih x0 x1 h = dF fn I 25 cuts25 ih [x0, x1] h := by kernel_rfl
theorem E50 (hf : ∀ vs h, fn 25 vs h = none) : EO fn I 50 G50 := fE fn I 25 hf cuts25 fit25 fun ih vs h => c2 (X := fun r => dF fn I 25 cuts25 ih r h) (e50 fn I ih · · h) vs
theorem e48 (ih : II) (x0 x1 x2 : V) (h : Hp) : B48 ih x0 x1 x2 h = dF fn I 24 cuts24 ih [x0, x1, x2] h := by kernel_rfl
theorem E48 (hf : ∀ vs h, fn 24 vs h = none) : EO fn I 48 G48 := fE fn I 24 hf cuts24 fit24 fun ih vs h => c3 (X := fun r => dF fn I 24 cuts24 ih r h) (e48 fn I ih · · · h) vs
theorem e83 (ih : II) (x0 : V) (h : Hp) : B83 ih x0 h = dL fn I 24 cuts24 7 [2] ih [x0] h := by kernel_rfl
theorem E83 : EO fn I 83 G83 := @entL Tryz.prog (orc fn I) _ 41 _ 24 7 [2] 100000 cuts24 (by kernel_rfl) fit24 fun ih vs h => c1 (X := fun r => dL fn I 24 cuts24 7 [2] ih r h) (e83 fn I ih · h) vs
theorem e85 (ih : II) (x0 x1 x2 x3 : V) (h : Hp) : B85 ih x0 x1 x2 x3 h = dL fn I 24 cuts24 53 [1, 2, 8, 9] ih [x0, x1, x2, x3] h := by kernel_rfl
theorem E85 : EO fn I 85 G85 := @entL Tryz.prog (orc fn I) _ 42 _ 24 53 [1, 2, 8, 9] 100000 cuts24 (by kernel_rfl) fit24 fun ih vs h => c4 (X := fun r => dL fn I 24 cuts24 53 [1, 2, 8, 9] ih r h) (e85 fn I ih · · · · h) vs
theorem e87 (ih : II) (x0 x1 : V) (h : Hp) : B87 ih x0 x1 h = dL fn I 24 cuts24 215 [2, 19] ih [x0, x1] h := by kernel_rfl
theorem E87 : EO fn I 87 G87 := @entL Tryz.prog (orc fn I) _ 43 _ 24 215 [2, 19] 100000 cuts24 (by kernel_rfl) fit24 fun ih vs h => c2 (X := fun r => dL fn I 24 cuts24 215 [2, 19] ih r h) (e87 fn I ih · · h) vs
theorem e52 (ih : II) (x0 x1 : V) (h : Hp) : B52 ih x0 x1 h = dF fn I 26 cuts26 ih [x0, x1] h := by kernel_rfl
theorem E52 (hf : ∀ vs h, fn 26 vs h = none) : EO fn I 52 G52 := fE fn I 26 hf cuts26 fit26 fun ih vs h => c2 (X := fun r => dF fn I 26 cuts26 ih r h) (e52 fn I ih · · h) vs
theorem e138 (ih : II) (x0 : V) (h : Hp) : B138 ih x0 h = dF fn I 69 cuts69 ih [x0] h := by kernel_rfl
theorem E138 (hf : ∀ vs h, fn 69 vs h = none) : EO fn I 138 G138 := fE fn I 69 hf cuts69 fit69 fun ih vs h => c1 (X := fun r => dF fn I 69 cuts69 ih r h) (e138 fn I ih · h) vs
theorem e148 (ih : II) (x0 x1 : V) (h : Hp) : B148 ih x0 x1 h = dF fn I 74 cuts74 ih [x0, x1] h := by kernel_rfl
theorem E148 (hf : ∀ vs h, fn 74 vs h = none) : EO fn I 148 G148 := fE fn I 74 hf cuts74 fit74 fun ih vs h => c2 (X := fun r => dF fn I 74 cuts74 ih r h) (e148 fn I ih · · h) vs
theorem e89 (ih : II) (x0 x1 : V) (h : Hp) : B89 ih x0 x1 h = dL fn I 74 cuts74 15 [0, 5] ih [x0, x1] h := by kernel_rfl
theorem E89 : EO fn I 89 G89 := @entL Tryz.prog (orc fn I) _ 44 _ 74 15 [0, 5] 100000 cuts74 (by kernel_rfl) fit74 fun ih vs h => c2 (X := fun r => dL fn I 74 cuts74 15 [0, 5] ih r h) (e89 fn I ih · · h) vs
theorem e91 (ih : II) (x0 x1 : V) (h : Hp) : B91 ih x0 x1 h = dL fn I 74 cuts74 950263 [0, 5] ih [x0, x1] h := by kernel_rfl
theorem E91 : EO fn I 91 G91 := @entL Tryz.prog (orc fn I) _ 45 _ 74 950263 [0, 5] 100000 cuts74 (by kernel_rfl) fit74 fun ih vs h => c2 (X := fun r => dL fn I 74 cuts74 950263 [0, 5] ih r h) (e91 fn I ih · · h) vs
theorem e93 (ih : II) (x0 : V) (h : Hp) : B93 ih x0 h = dL fn I 74 cuts74 3801055 [6] ih [x0] h := by kernel_rfl
theorem E93 : EO fn I 93 G93 := @entL Tryz.prog (orc fn I) _ 46 _ 74 3801055 [6] 100000 cuts74 (by kernel_rfl) fit74 fun ih vs h => c1 (X := fun r => dL fn I 74 cuts74 3801055 [6] ih r h) (e93 fn I ih · h) vs
theorem e144 (ih : II) (x0 x1 : V) (h : Hp) : B144 ih x0 x1 h = dF fn I 72 cuts72 ih [x0, x1] h := by kernel_rfl
theorem E144 (hf : ∀ vs h, fn 72 vs h = none) : EO fn I 144 G144 := fE fn I 72 hf cuts72 fit72 fun ih vs h => c2 (X := fun r => dF fn I 72 cuts72 ih r h) (e144 fn I ih · · h) vs
theorem F144 (hf : ∀ vs h, fn 72 vs h = none) {x0 x1 : V} {h : Hp} {p : V × Hp} (hp : B144 (L fn I) x0 x1 h = some p) : L fn I 144 [x0, x1] h = some p := @lim_ent Tryz.prog (orc fn I) labs 144 G144 (E144 fn I hf) [x0, x1] h p (show G144 (L fn I) [x0, x1] h = some p from hp)
theorem e146 (ih : II) (x0 : V) (h : Hp) : B146 ih x0 h = dF fn I 73 cuts73 ih [x0] h := by kernel_rfl
theorem E146 (hf : ∀ vs h, fn 73 vs h = none) : EO fn I 146 G146 := fE fn I 73 hf cuts73 fit73 fun ih vs h => c1 (X := fun r => dF fn I 73 cuts73 ih r h) (e146 fn I ih · h) vs
theorem e95 (ih : II) (x0 x1 : V) (h : Hp) : B95 ih x0 x1 h = dL fn I 73 cuts73 15 [2, 3] ih [x0, x1] h := by kernel_rfl
theorem E95 : EO fn I 95 G95 := @entL Tryz.prog (orc fn I) _ 47 _ 73 15 [2, 3] 100000 cuts73 (by kernel_rfl) fit73 fun ih vs h => c2 (X := fun r => dL fn I 73 cuts73 15 [2, 3] ih r h) (e95 fn I ih · · h) vs
theorem e142 (ih : II) (x0 : V) (h : Hp) : B142 ih x0 h = dF fn I 71 cuts71 ih [x0] h := by kernel_rfl
theorem E142 (hf : ∀ vs h, fn 71 vs h = none) : EO fn I 142 G142 := fE fn I 71 hf cuts71 fit71 fun ih vs h => c1 (X := fun r => dF fn I 71 cuts71 ih r h) (e142 fn I ih · h) vs
theorem e140 (ih : II) (x0 x1 : V) (h : Hp) : B140 ih x0 x1 h = dF fn I 70 cuts70 ih [x0, x1] h := by kernel_rfl
theorem E140 (hf : ∀ vs h, fn 70 vs h = none) : EO fn I 140 G140 := fE fn I 70 hf cuts70 fit70 fun ih vs h => c2 (X := fun r => dF fn I 70 cuts70 ih r h) (e140 fn I ih · · h) vs
theorem e132 (ih : II) (x0 : V) (h : Hp) : B132 ih x0 h = dF fn I 66 cuts66 ih [x0] h := by kernel_rfl
theorem E132 (hf : ∀ vs h, fn 66 vs h = none) : EO fn I 132 G132 := fE fn I 66 hf cuts66 fit66 fun ih vs h => c1 (X := fun r => dF fn I 66 cuts66 ih r h) (e132 fn I ih · h) vs
theorem F132 (hf : ∀ vs h, fn 66 vs h = none) {x0 : V} {h : Hp} {p : V × Hp} (hp : B132 (L fn I) x0 h = some p) : L fn I 132 [x0] h = some p := @lim_ent Tryz.prog (orc fn I) labs 132 G132 (E132 fn I hf) [x0] h p (show G132 (L fn I) [x0] h = some p from hp)
theorem e97 (ih : II) (x0 x1 x2 : V) (h : Hp) : B97 ih x0 x1 x2 h = dL fn I 66 cuts66 58 [0, 3, 4] ih [x0, x1, x2] h := by kernel_rfl
theorem E97 : EO fn I 97 G97 := @entL Tryz.prog (orc fn I) _ 48 _ 66 58 [0, 3, 4] 100000 cuts66 (by kernel_rfl) fit66 fun ih vs h => c3 (X := fun r => dL fn I 66 cuts66 58 [0, 3, 4] ih r h) (e97 fn I ih · · · h) vs
theorem F97 {x0 x1 x2 : V} {h : Hp} {p : V × Hp} (hp : B97 (L fn I) x0 x1 x2 h = some p) : L fn I 97 [x0, x1, x2] h = some p := @lim_ent Tryz.prog (orc fn I) labs 97 G97 (E97 fn I) [x0, x1, x2] h p (show G97 (L fn I) [x0, x1, x2] h = some p from hp)
theorem e99 (ih : II) (x0 x1 x2 : V) (h : Hp) : B99 ih x0 x1 x2 h = dL fn I 66 cuts66 467 [0, 3, 4] ih [x0, x1, x2] h := by kernel_rfl
theorem E99 : EO fn I 99 G99 := @entL Tryz.prog (orc fn I) _ 49 _ 66 467 [0, 3, 4] 100000 cuts66 (by kernel_rfl) fit66 fun ih vs h => c3 (X := fun r => dL fn I 66 cuts66 467 [0, 3, 4] ih r h) (e99 fn I ih · · · h) vs
theorem F99 {x0 x1 x2 : V} {h : Hp} {p : V × Hp} (hp : B99 (L fn I) x0 x1 x2 h = some p) : L fn I 99 [x0, x1, x2] h = some p := @lim_ent Tryz.prog (orc fn I) labs 99 G99 (E99 fn I) [x0, x1, x2] h p (show G99 (L fn I) [x0, x1, x2] h = some p from hp)
theorem e136 (ih : II) (x0 x1 : V) (h : Hp) : B136 ih x0 x1 h = dF fn I 68 cuts68 ih [x0, x1] h := by kernel_rfl
theorem E136 (hf : ∀ vs h, fn 68 vs h = none) : EO fn I 136 G136 := fE fn I 68 hf cuts68 fit68 fun ih vs h => c2 (X := fun r => dF fn I 68 cuts68 ih r h) (e136 fn I ih · · h) vs
theorem e101 (ih : II) (x0 x1 x2 x3 : V) (h : Hp) : B101 ih x0 x1 x2 x3 h = dL fn I 68 cuts68 28 [0, 1, 4, 7] ih [x0, x1, x2, x3] h := by kernel_rfl
theorem E101 : EO fn I 101 G101 := @entL Tryz.prog (orc fn I) _ 50 _ 68 28 [0, 1, 4, 7] 100000 cuts68 (by kernel_rfl) fit68 fun ih vs h => c4 (X := fun r => dL fn I 68 cuts68 28 [0, 1, 4, 7] ih r h) (e101 fn I ih · · · · h) vs
theorem e103 (ih : II) (x0 x1 x2 : V) (h : Hp) : B103 ih x0 x1 x2 h = dL fn I 68 cuts68 491 [4, 7, 8] ih [x0, x1, x2] h := by kernel_rfl
theorem E103 : EO fn I 103 G103 := @entL Tryz.prog (orc fn I) _ 51 _ 68 491 [4, 7, 8] 100000 cuts68 (by kernel_rfl) fit68 fun ih vs h => c3 (X := fun r => dL fn I 68 cuts68 491 [4, 7, 8] ih r h) (e103 fn I ih · · · h) vs
theorem e134 (ih : II) (x0 x1 : V) (h : Hp) : B134 ih x0 x1 h = dF fn I 67 cuts67 ih [x0, x1] h := by kernel_rfl
theorem E134 (hf : ∀ vs h, fn 67 vs h = none) : EO fn I 134 G134 := fE fn I 67 hf cuts67 fit67 fun ih vs h => c2 (X := fun r => dF fn I 67 cuts67 ih r h) (e134 fn I ih · · h) vs
theorem e130 (ih : II) (x0 : V) (h : Hp) : B130 ih x0 h = dF fn I 65 cuts65 ih [x0] h := by kernel_rfl
theorem E130 (hf : ∀ vs h, fn 65 vs h = none) : EO fn I 130 G130 := fE fn I 65 hf cuts65 fit65 fun ih vs h => c1 (X := fun r => dF fn I 65 cuts65 ih r h) (e130 fn I ih · h) vs
theorem e116 (ih : II) (x0 x1 : V) (h : Hp) : B116 ih x0 x1 h = dF fn I 58 cuts58 ih [x0, x1] h := by kernel_rfl
theorem E116 (hf : ∀ vs h, fn 58 vs h = none) : EO fn I 116 G116 := fE fn I 58 hf cuts58 fit58 fun ih vs h => c2 (X := fun r => dF fn I 58 cuts58 ih r h) (e116 fn I ih · · h) vs
theorem e107 (ih : II) (x0 x1 x2 x3 x4 x5 x6 : V) (h : Hp) : B107 ih x0 x1 x2 x3 x4 x5 x6 h = dL fn I 58 cuts58 3930 [0, 3, 6, 7, 26, 27, 28] ih [x0, x1, x2, x3, x4, x5, x6] h := by kernel_rfl
theorem E107 : EO fn I 107 G107 := @entL Tryz.prog (orc fn I) _ 53 _ 58 3930 [0, 3, 6, 7, 26, 27, 28] 100000 cuts58 (by kernel_rfl) fit58 fun ih vs h => c7 (X := fun r => dL fn I 58 cuts58 3930 [0, 3, 6, 7, 26, 27, 28] ih r h) (e107 fn I ih · · · · · · · h) vs
theorem e109 (ih : II) (x0 x1 x2 x3 x4 x5 : V) (h : Hp) : B109 ih x0 x1 x2 x3 x4 x5 h = dL fn I 58 cuts58 15871 [0, 3, 4, 5, 19, 85] ih [x0, x1, x2, x3, x4, x5] h := by kernel_rfl
theorem E109 : EO fn I 109 G109 := @entL Tryz.prog (orc fn I) _ 54 _ 58 15871 [0, 3, 4, 5, 19, 85] 100000 cuts58 (by kernel_rfl) fit58 fun ih vs h => c6 (X := fun r => dL fn I 58 cuts58 15871 [0, 3, 4, 5, 19, 85] ih r h) (e109 fn I ih · · · · · · h) vs
theorem e114 (ih : II) (x0 x1 x2 : V) (h : Hp) : B114 ih x0 x1 x2 h = dF fn I 57 cuts57 ih [x0, x1, x2] h := by kernel_rfl
theorem E114 (hf : ∀ vs h, fn 57 vs h = none) : EO fn I 114 G114 := fE fn I 57 hf cuts57 fit57 fun ih vs h => c3 (X := fun r => dF fn I 57 cuts57 ih r h) (e114 fn I ih · · · h) vs
theorem e111 (ih : II) (x0 x1 x2 x3 x4 x5 x6 : V) (h : Hp) : B111 ih x0 x1 x2 x3 x4 x5 x6 h = dL fn I 57 cuts57 58 [0, 2, 4, 6, 16, 17, 18] ih [x0, x1, x2, x3, x4, x5, x6] h := by kernel_rfl
theorem E111 : EO fn I 111 G111 := @entL Tryz.prog (orc fn I) _ 55 _ 57 58 [0, 2, 4, 6, 16, 17, 18] 100000 cuts57 (by kernel_rfl) fit57 fun ih vs h => c7 (X := fun r => dL fn I 57 cuts57 58 [0, 2, 4, 6, 16, 17, 18] ih r h) (e111 fn I ih · · · · · · · h) vs
theorem e113 (ih : II) (x0 x1 x2 x3 : V) (h : Hp) : B113 ih x0 x1 x2 x3 h = dL fn I 57 cuts57 127 [0, 4, 9, 10] ih [x0, x1, x2, x3] h := by kernel_rfl
theorem E113 : EO fn I 113 G113 := @entL Tryz.prog (orc fn I) _ 56 _ 57 127 [0, 4, 9, 10] 100000 cuts57 (by kernel_rfl) fit57 fun ih vs h => c4 (X := fun r => dL fn I 57 cuts57 127 [0, 4, 9, 10] ih r h) (e113 fn I ih · · · · h) vs
theorem e115 (ih : II) (x0 x1 x2 x3 x4 x5 x6 : V) (h : Hp) : B115 ih x0 x1 x2 x3 x4 x5 x6 h = dL fn I 57 cuts57 935 [0, 2, 4, 6, 16, 17, 18] ih [x0, x1, x2, x3, x4, x5, x6] h := by kernel_rfl
theorem E115 : EO fn I 115 G115 := @entL Tryz.prog (orc fn I) _ 57 _ 57 935 [0, 2, 4, 6, 16, 17, 18] 100000 cuts57 (by kernel_rfl) fit57 fun ih vs h => c7 (X := fun r => dL fn I 57 cuts57 935 [0, 2, 4, 6, 16, 17, 18] ih r h) (e115 fn I ih · · · · · · · h) vs
theorem e110 (ih : II) (x0 x1 : V) (h : Hp) : B110 ih x0 x1 h = dF fn I 55 cuts55 ih [x0, x1] h := by kernel_rfl
theorem E110 (hf : ∀ vs h, fn 55 vs h = none) : EO fn I 110 G110 := fE fn I 55 hf cuts55 fit55 fun ih vs h => c2 (X := fun r => dF fn I 55 cuts55 ih r h) (e110 fn I ih · · h) vs
theorem e112 (ih : II) (x0 x1 : V) (h : Hp) : B112 ih x0 x1 h = dF fn I 56 cuts56 ih [x0, x1] h := by kernel_rfl
theorem E112 (hf : ∀ vs h, fn 56 vs h = none) : EO fn I 112 G112 := fE fn I 56 hf cuts56 fit56 fun ih vs h => c2 (X := fun r => dF fn I 56 cuts56 ih r h) (e112 fn I ih · · h) vs
theorem e118 (ih : II) (x0 : V) (h : Hp) : B118 ih x0 h = dF fn I 59 cuts59 ih [x0] h := by kernel_rfl
theorem E118 (hf : ∀ vs h, fn 59 vs h = none) : EO fn I 118 G118 := fE fn I 59 hf cuts59 fit59 fun ih vs h => c1 (X := fun r => dF fn I 59 cuts59 ih r h) (e118 fn I ih · h) vs
theorem e108 (ih : II) (x0 x1 : V) (h : Hp) : B108 ih x0 x1 h = dF fn I 54 cuts54 ih [x0, x1] h := by kernel_rfl
theorem E108 (hf : ∀ vs h, fn 54 vs h = none) : EO fn I 108 G108 := fE fn I 54 hf cuts54 fit54 fun ih vs h => c2 (X := fun r => dF fn I 54 cuts54 ih r h) (e108 fn I ih · · h) vs
theorem e106 (ih : II) (x0 : V) (h : Hp) : B106 ih x0 h = dF fn I 53 cuts53 ih [x0] h := by kernel_rfl
theorem E106 (hf : ∀ vs h, fn 53 vs h = none) : EO fn I 106 G106 := fE fn I 53 hf cuts53 fit53 fun ih vs h => c1 (X := fun r => dF fn I 53 cuts53 ih r h) (e106 fn I ih · h) vs
theorem e102 (ih : II) (x0 x1 : V) (h : Hp) : B102 ih x0 x1 h = dF fn I 51 cuts51 ih [x0, x1] h := by kernel_rfl
theorem E102 (hf : ∀ vs h, fn 51 vs h = none) : EO fn I 102 G102 := fE fn I 51 hf cuts51 fit51 fun ih vs h => c2 (X := fun r => dF fn I 51 cuts51 ih r h) (e102 fn I ih · · h) vs
theorem e100 (ih : II) (x0 x1 : V) (h : Hp) : B100 ih x0 x1 h = dF fn I 50 cuts50 ih [x0, x1] h := by kernel_rfl
theorem E100 (hf : ∀ vs h, fn 50 vs h = none) : EO fn I 100 G100 := fE fn I 50 hf cuts50 fit50 fun ih vs h => c2 (X := fun r => dF fn I 50 cuts50 ih r h) (e100 fn I ih · · h) vs
theorem e117 (ih : II) (x0 x1 x2 x3 x4 : V) (h : Hp) : B117 ih x0 x1 x2 x3 x4 h = dL fn I 50 cuts50 117 [2, 3, 5, 10, 11] ih [x0, x1, x2, x3, x4] h := by kernel_rfl
theorem E117 : EO fn I 117 G117 := @entL Tryz.prog (orc fn I) _ 58 _ 50 117 [2, 3, 5, 10, 11] 100000 cuts50 (by kernel_rfl) fit50 fun ih vs h => c5 (X := fun r => dL fn I 50 cuts50 117 [2, 3, 5, 10, 11] ih r h) (e117 fn I ih · · · · · h) vs
theorem e98 (ih : II) (x0 : V) (h : Hp) : B98 ih x0 h = dF fn I 49 cuts49 ih [x0] h := by kernel_rfl
theorem E98 (hf : ∀ vs h, fn 49 vs h = none) : EO fn I 98 G98 := fE fn I 49 hf cuts49 fit49 fun ih vs h => c1 (X := fun r => dF fn I 49 cuts49 ih r h) (e98 fn I ih · h) vs
theorem e96 (ih : II) (x0 x1 : V) (h : Hp) : B96 ih x0 x1 h = dF fn I 48 cuts48 ih [x0, x1] h := by kernel_rfl
theorem E96 (hf : ∀ vs h, fn 48 vs h = none) : EO fn I 96 G96 := fE fn I 48 hf cuts48 fit48 fun ih vs h => c2 (X := fun r => dF fn I 48 cuts48 ih r h) (e96 fn I ih · · h) vs
theorem e92 (ih : II) (x0 : V) (h : Hp) : B92 ih x0 h = dF fn I 46 cuts46 ih [x0] h := by kernel_rfl
theorem E92 (hf : ∀ vs h, fn 46 vs h = none) : EO fn I 92 G92 := fE fn I 46 hf cuts46 fit46 fun ih vs h => c1 (X := fun r => dF fn I 46 cuts46 ih r h) (e92 fn I ih · h) vs
theorem e90 (ih : II) (x0 x1 x2 x3 x4 : V) (h : Hp) : B90 ih x0 x1 x2 x3 x4 h = dF fn I 45 cuts45 ih [x0, x1, x2, x3, x4] h := by kernel_rfl
theorem E90 (hf : ∀ vs h, fn 45 vs h = none) : EO fn I 90 G90 := fE fn I 45 hf cuts45 fit45 fun ih vs h => c5 (X := fun r => dF fn I 45 cuts45 ih r h) (e90 fn I ih · · · · · h) vs
theorem e121 (ih : II) (x0 x1 x2 x3 x4 : V) (h : Hp) : B121 ih x0 x1 x2 x3 x4 h = dL fn I 45 cuts45 26 [3, 4, 5, 6, 11] ih [x0, x1, x2, x3, x4] h := by kernel_rfl
theorem E121 : EO fn I 121 G121 := @entL Tryz.prog (orc fn I) _ 60 _ 45 26 [3, 4, 5, 6, 11] 100000 cuts45 (by kernel_rfl) fit45 fun ih vs h => c5 (X := fun r => dL fn I 45 cuts45 26 [3, 4, 5, 6, 11] ih r h) (e121 fn I ih · · · · · h) vs
theorem e88 (ih : II) (x0 x1 x2 x3 : V) (h : Hp) : B88 ih x0 x1 x2 x3 h = dF fn I 44 cuts44 ih [x0, x1, x2, x3] h := by kernel_rfl
theorem E88 (hf : ∀ vs h, fn 44 vs h = none) : EO fn I 88 G88 := fE fn I 44 hf cuts44 fit44 fun ih vs h => c4 (X := fun r => dF fn I 44 cuts44 ih r h) (e88 fn I ih · · · · h) vs
theorem e94 (ih : II) (x0 : V) (h : Hp) : B94 ih x0 h = dF fn I 47 cuts47 ih [x0] h := by kernel_rfl
theorem E94 (hf : ∀ vs h, fn 47 vs h = none) : EO fn I 94 G94 := fE fn I 47 hf cuts47 fit47 fun ih vs h => c1 (X := fun r => dF fn I 47 cuts47 ih r h) (e94 fn I ih · h) vs
theorem e104 (ih : II) (x0 x1 : V) (h : Hp) : B104 ih x0 x1 h = dF fn I 52 cuts52 ih [x0, x1] h := by kernel_rfl
theorem E104 (hf : ∀ vs h, fn 52 vs h = none) : EO fn I 104 G104 := fE fn I 52 hf cuts52 fit52 fun ih vs h => c2 (X := fun r => dF fn I 52 cuts52 ih r h) (e104 fn I ih · · h) vs
theorem e123 (ih : II) (x0 x1 x2 x3 : V) (h : Hp) : B123 ih x0 x1 x2 x3 h = dL fn I 52 cuts52 26 [0, 1, 7, 8] ih [x0, x1, x2, x3] h := by kernel_rfl
theorem E123 : EO fn I 123 G123 := @entL Tryz.prog (orc fn I) _ 61 _ 52 26 [0, 1, 7, 8] 100000 cuts52 (by kernel_rfl) fit52 fun ih vs h => c4 (X := fun r => dL fn I 52 cuts52 26 [0, 1, 7, 8] ih r h) (e123 fn I ih · · · · h) vs
theorem e238 (ih : II) (x0 x1 x2 : V) (h : Hp) : B238 ih x0 x1 x2 h = dF fn I 119 cuts119 ih [x0, x1, x2] h := by kernel_rfl
theorem E238 (hf : ∀ vs h, fn 119 vs h = none) : EO fn I 238 G238 := fE fn I 119 hf cuts119 fit119 fun ih vs h => c3 (X := fun r => dF fn I 119 cuts119 ih r h) (e238 fn I ih · · · h) vs
theorem e236 (ih : II) (x0 x1 : V) (h : Hp) : B236 ih x0 x1 h = dF fn I 118 cuts118 ih [x0, x1] h := by kernel_rfl
theorem E236 (hf : ∀ vs h, fn 118 vs h = none) : EO fn I 236 G236 := fE fn I 118 hf cuts118 fit118 fun ih vs h => c2 (X := fun r => dF fn I 118 cuts118 ih r h) (e236 fn I ih · · h) vs
theorem e125 (ih : II) (x0 x1 x2 : V) (h : Hp) : B125 ih x0 x1 x2 h = dL fn I 118 cuts118 28 [0, 1, 5] ih [x0, x1, x2] h := by kernel_rfl
theorem E125 : EO fn I 125 G125 := @entL Tryz.prog (orc fn I) _ 62 _ 118 28 [0, 1, 5] 100000 cuts118 (by kernel_rfl) fit118 fun ih vs h => c3 (X := fun r => dL fn I 118 cuts118 28 [0, 1, 5] ih r h) (e125 fn I ih · · · h) vs
theorem e234 (ih : II) (x0 x1 x2 : V) (h : Hp) : B234 ih x0 x1 x2 h = dF fn I 117 cuts117 ih [x0, x1, x2] h := by kernel_rfl
theorem E234 (hf : ∀ vs h, fn 117 vs h = none) : EO fn I 234 G234 := fE fn I 117 hf cuts117 fit117 fun ih vs h => c3 (X := fun r => dF fn I 117 cuts117 ih r h) (e234 fn I ih · · · h) vs
theorem e127 (ih : II) (x0 x1 x2 : V) (h : Hp) : B127 ih x0 x1 x2 h = dL fn I 117 cuts117 7 [0, 1, 2] ih [x0, x1, x2] h := by kernel_rfl
theorem E127 : EO fn I 127 G127 := @entL Tryz.prog (orc fn I) _ 63 _ 117 7 [0, 1, 2] 100000 cuts117 (by kernel_rfl) fit117 fun ih vs h => c3 (X := fun r => dL fn I 117 cuts117 7 [0, 1, 2] ih r h) (e127 fn I ih · · · h) vs
theorem e232 (ih : II) (x0 x1 : V) (h : Hp) : B232 ih x0 x1 h = dF fn I 116 cuts116 ih [x0, x1] h := by kernel_rfl
theorem E232 (hf : ∀ vs h, fn 116 vs h = none) : EO fn I 232 G232 := fE fn I 116 hf cuts116 fit116 fun ih vs h => c2 (X := fun r => dF fn I 116 cuts116 ih r h) (e232 fn I ih · · h) vs
theorem e129 (ih : II) (x0 x1 x2 : V) (h : Hp) : B129 ih x0 x1 x2 h = dL fn I 116 cuts116 15 [0, 1, 5] ih [x0, x1, x2] h := by kernel_rfl
theorem E129 : EO fn I 129 G129 := @entL Tryz.prog (orc fn I) _ 64 _ 116 15 [0, 1, 5] 100000 cuts116 (by kernel_rfl) fit116 fun ih vs h => c3 (X := fun r => dL fn I 116 cuts116 15 [0, 1, 5] ih r h) (e129 fn I ih · · · h) vs
theorem e131 (ih : II) (x0 x1 x2 : V) (h : Hp) : B131 ih x0 x1 x2 h = dL fn I 116 cuts116 28 [0, 1, 5] ih [x0, x1, x2] h := by kernel_rfl
theorem E131 : EO fn I 131 G131 := @entL Tryz.prog (orc fn I) _ 65 _ 116 28 [0, 1, 5] 100000 cuts116 (by kernel_rfl) fit116 fun ih vs h => c3 (X := fun r => dL fn I 116 cuts116 28 [0, 1, 5] ih r h) (e131 fn I ih · · · h) vs
theorem e133 (ih : II) (x0 x1 : V) (h : Hp) : B133 ih x0 x1 h = dL fn I 116 cuts116 31 [0, 5] ih [x0, x1] h := by kernel_rfl
theorem E133 : EO fn I 133 G133 := @entL Tryz.prog (orc fn I) _ 66 _ 116 31 [0, 5] 100000 cuts116 (by kernel_rfl) fit116 fun ih vs h => c2 (X := fun r => dL fn I 116 cuts116 31 [0, 5] ih r h) (e133 fn I ih · · h) vs
theorem e228 (ih : II) (x0 x1 x2 : V) (h : Hp) : B228 ih x0 x1 x2 h = dF fn I 114 cuts114 ih [x0, x1, x2] h := by kernel_rfl
theorem E228 (hf : ∀ vs h, fn 114 vs h = none) : EO fn I 228 G228 := fE fn I 114 hf cuts114 fit114 fun ih vs h => c3 (X := fun r => dF fn I 114 cuts114 ih r h) (e228 fn I ih · · · h) vs
theorem e135 (ih : II) (x0 x1 x2 x3 x4 : V) (h : Hp) : B135 ih x0 x1 x2 x3 x4 h = dL fn I 114 cuts114 511 [0, 1, 2, 7, 8] ih [x0, x1, x2, x3, x4] h := by kernel_rfl
theorem E135 : EO fn I 135 G135 := @entL Tryz.prog (orc fn I) _ 67 _ 114 511 [0, 1, 2, 7, 8] 100000 cuts114 (by kernel_rfl) fit114 fun ih vs h => c5 (X := fun r => dL fn I 114 cuts114 511 [0, 1, 2, 7, 8] ih r h) (e135 fn I ih · · · · · h) vs
theorem e137 (ih : II) (x0 x1 x2 x3 x4 x5 x6 x7 : V) (h : Hp) : B137 ih x0 x1 x2 x3 x4 x5 x6 x7 h = dL fn I 114 cuts114 1018 [0, 1, 2, 7, 8, 9, 10, 11] ih [x0, x1, x2, x3, x4, x5, x6, x7] h := by kernel_rfl
theorem E137 : EO fn I 137 G137 := @entL Tryz.prog (orc fn I) _ 68 _ 114 1018 [0, 1, 2, 7, 8, 9, 10, 11] 100000 cuts114 (by kernel_rfl) fit114 fun ih vs h => c8 (X := fun r => dL fn I 114 cuts114 1018 [0, 1, 2, 7, 8, 9, 10, 11] ih r h) (e137 fn I ih · · · · · · · · h) vs
theorem e139 (ih : II) (x0 : V) (h : Hp) : B139 ih x0 h = dL fn I 114 cuts114 1023 [8] ih [x0] h := by kernel_rfl
theorem E139 : EO fn I 139 G139 := @entL Tryz.prog (orc fn I) _ 69 _ 114 1023 [8] 100000 cuts114 (by kernel_rfl) fit114 fun ih vs h => c1 (X := fun r => dL fn I 114 cuts114 1023 [8] ih r h) (e139 fn I ih · h) vs
theorem e141 (ih : II) (x0 x1 x2 x3 x4 : V) (h : Hp) : B141 ih x0 x1 x2 x3 x4 h = dL fn I 114 cuts114 2044 [0, 1, 2, 7, 8] ih [x0, x1, x2, x3, x4] h := by kernel_rfl
theorem E141 : EO fn I 141 G141 := @entL Tryz.prog (orc fn I) _ 70 _ 114 2044 [0, 1, 2, 7, 8] 100000 cuts114 (by kernel_rfl) fit114 fun ih vs h => c5 (X := fun r => dL fn I 114 cuts114 2044 [0, 1, 2, 7, 8] ih r h) (e141 fn I ih · · · · · h) vs
theorem e143 (ih : II) (x0 x1 x2 x3 x4 x5 x6 x7 : V) (h : Hp) : B143 ih x0 x1 x2 x3 x4 x5 x6 x7 h = dL fn I 114 cuts114 8147 [0, 1, 2, 7, 8, 9, 10, 11] ih [x0, x1, x2, x3, x4, x5, x6, x7] h := by kernel_rfl
theorem E143 : EO fn I 143 G143 := @entL Tryz.prog (orc fn I) _ 71 _ 114 8147 [0, 1, 2, 7, 8, 9, 10, 11] 100000 cuts114 (by kernel_rfl) fit114 fun ih vs h => c8 (X := fun r => dL fn I 114 cuts114 8147 [0, 1, 2, 7, 8, 9, 10, 11] ih r h) (e143 fn I ih · · · · · · · · h) vs
theorem e145 (ih : II) (x0 x1 x2 x3 x4 x5 x6 x7 : V) (h : Hp) : B145 ih x0 x1 x2 x3 x4 x5 x6 x7 h = dL fn I 114 cuts114 523359 [0, 1, 2, 7, 8, 13, 14, 16] ih [x0, x1, x2, x3, x4, x5, x6, x7] h := by kernel_rfl
theorem E145 : EO fn I 145 G145 := @entL Tryz.prog (orc fn I) _ 72 _ 114 523359 [0, 1, 2, 7, 8, 13, 14, 16] 100000 cuts114 (by kernel_rfl) fit114 fun ih vs h => c8 (X := fun r => dL fn I 114 cuts114 523359 [0, 1, 2, 7, 8, 13, 14, 16] ih r h) (e145 fn I ih · · · · · · · · h) vs
theorem e230 (ih : II) (x0 x1 : V) (h : Hp) : B230 ih x0 x1 h = dF fn I 115 cuts115 ih [x0, x1] h := by kernel_rfl
theorem E230 (hf : ∀ vs h, fn 115 vs h = none) : EO fn I 230 G230 := fE fn I 115 hf cuts115 fit115 fun ih vs h => c2 (X := fun r => dF fn I 115 cuts115 ih r h) (e230 fn I ih · · h) vs
theorem e226 (ih : II) (x0 x1 : V) (h : Hp) : B226 ih x0 x1 h = dF fn I 113 cuts113 ih [x0, x1] h := by kernel_rfl
theorem E226 (hf : ∀ vs h, fn 113 vs h = none) : EO fn I 226 G226 := fE fn I 113 hf cuts113 fit113 fun ih vs h => c2 (X := fun r => dF fn I 113 cuts113 ih r h) (e226 fn I ih · · h) vs
theorem e147 (ih : II) (x0 x1 x2 : V) (h : Hp) : B147 ih x0 x1 x2 h = dL fn I 113 cuts113 26 [0, 1, 5] ih [x0, x1, x2] h := by kernel_rfl
theorem E147 : EO fn I 147 G147 := @entL Tryz.prog (orc fn I) _ 73 _ 113 26 [0, 1, 5] 100000 cuts113 (by kernel_rfl) fit113 fun ih vs h => c3 (X := fun r => dL fn I 113 cuts113 26 [0, 1, 5] ih r h) (e147 fn I ih · · · h) vs
theorem e202 (ih : II) (x0 x1 : V) (h : Hp) : B202 ih x0 x1 h = dF fn I 101 cuts101 ih [x0, x1] h := by kernel_rfl
theorem E202 (hf : ∀ vs h, fn 101 vs h = none) : EO fn I 202 G202 := fE fn I 101 hf cuts101 fit101 fun ih vs h => c2 (X := fun r => dF fn I 101 cuts101 ih r h) (e202 fn I ih · · h) vs
theorem F202 (hf : ∀ vs h, fn 101 vs h = none) {x0 x1 : V} {h : Hp} {p : V × Hp} (hp : B202 (L fn I) x0 x1 h = some p) : L fn I 202 [x0, x1] h = some p := @lim_ent Tryz.prog (orc fn I) labs 202 G202 (E202 fn I hf) [x0, x1] h p (show G202 (L fn I) [x0, x1] h = some p from hp)
theorem e224 (ih : II) (x0 x1 : V) (h : Hp) : B224 ih x0 x1 h = dF fn I 112 cuts112 ih [x0, x1] h := by kernel_rfl
theorem E224 (hf : ∀ vs h, fn 112 vs h = none) : EO fn I 224 G224 := fE fn I 112 hf cuts112 fit112 fun ih vs h => c2 (X := fun r => dF fn I 112 cuts112 ih r h) (e224 fn I ih · · h) vs
theorem F224 (hf : ∀ vs h, fn 112 vs h = none) {x0 x1 : V} {h : Hp} {p : V × Hp} (hp : B224 (L fn I) x0 x1 h = some p) : L fn I 224 [x0, x1] h = some p := @lim_ent Tryz.prog (orc fn I) labs 224 G224 (E224 fn I hf) [x0, x1] h p (show G224 (L fn I) [x0, x1] h = some p from hp)
theorem e149 (ih : II) (x0 x1 x2 x3 x4 x5 : V) (h : Hp) : B149 ih x0 x1 x2 x3 x4 x5 h = dL fn I 112 cuts112 122 [0, 1, 4, 7, 8, 9] ih [x0, x1, x2, x3, x4, x5] h := by kernel_rfl
theorem E149 : EO fn I 149 G149 := @entL Tryz.prog (orc fn I) _ 74 _ 112 122 [0, 1, 4, 7, 8, 9] 100000 cuts112 (by kernel_rfl) fit112 fun ih vs h => c6 (X := fun r => dL fn I 112 cuts112 122 [0, 1, 4, 7, 8, 9] ih r h) (e149 fn I ih · · · · · · h) vs
theorem F149 {x0 x1 x2 x3 x4 x5 : V} {h : Hp} {p : V × Hp} (hp : B149 (L fn I) x0 x1 x2 x3 x4 x5 h = some p) : L fn I 149 [x0, x1, x2, x3, x4, x5] h = some p := @lim_ent Tryz.prog (orc fn I) labs 149 G149 (E149 fn I) [x0, x1, x2, x3, x4, x5] h p (show G149 (L fn I) [x0, x1, x2, x3, x4, x5] h = some p from hp)
theorem e151 (ih : II) (x0 x1 x2 x3 x4 x5 : V) (h : Hp) : B151 ih x0 x1 x2 x3 x4 x5 h = dL fn I 112 cuts112 979 [0, 1, 4, 7, 8, 9] ih [x0, x1, x2, x3, x4, x5] h := by kernel_rfl
theorem E151 : EO fn I 151 G151 := @entL Tryz.prog (orc fn I) _ 75 _ 112 979 [0, 1, 4, 7, 8, 9] 100000 cuts112 (by kernel_rfl) fit112 fun ih vs h => c6 (X := fun r => dL fn I 112 cuts112 979 [0, 1, 4, 7, 8, 9] ih r h) (e151 fn I ih · · · · · · h) vs
theorem F151 {x0 x1 x2 x3 x4 x5 : V} {h : Hp} {p : V × Hp} (hp : B151 (L fn I) x0 x1 x2 x3 x4 x5 h = some p) : L fn I 151 [x0, x1, x2, x3, x4, x5] h = some p := @lim_ent Tryz.prog (orc fn I) labs 151 G151 (E151 fn I) [x0, x1, x2, x3, x4, x5] h p (show G151 (L fn I) [x0, x1, x2, x3, x4, x5] h = some p from hp)
theorem e204 (ih : II) (x0 x1 x2 : V) (h : Hp) : B204 ih x0 x1 x2 h = dF fn I 102 cuts102 ih [x0, x1, x2] h := by kernel_rfl
theorem E204 (hf : ∀ vs h, fn 102 vs h = none) : EO fn I 204 G204 := fE fn I 102 hf cuts102 fit102 fun ih vs h => c3 (X := fun r => dF fn I 102 cuts102 ih r h) (e204 fn I ih · · · h) vs
theorem F204 (hf : ∀ vs h, fn 102 vs h = none) {x0 x1 x2 : V} {h : Hp} {p : V × Hp} (hp : B204 (L fn I) x0 x1 x2 h = some p) : L fn I 204 [x0, x1, x2] h = some p := @lim_ent Tryz.prog (orc fn I) labs 204 G204 (E204 fn I hf) [x0, x1, x2] h p (show G204 (L fn I) [x0, x1, x2] h = some p from hp)
theorem e206 (ih : II) (x0 x1 : V) (h : Hp) : B206 ih x0 x1 h = dF fn I 103 cuts103 ih [x0, x1] h := by kernel_rfl
theorem E206 (hf : ∀ vs h, fn 103 vs h = none) : EO fn I 206 G206 := fE fn I 103 hf cuts103 fit103 fun ih vs h => c2 (X := fun r => dF fn I 103 cuts103 ih r h) (e206 fn I ih · · h) vs
theorem e218 (ih : II) (x0 : V) (h : Hp) : B218 ih x0 h = dF fn I 109 cuts109 ih [x0] h := by kernel_rfl
theorem E218 (hf : ∀ vs h, fn 109 vs h = none) : EO fn I 218 G218 := fE fn I 109 hf cuts109 fit109 fun ih vs h => c1 (X := fun r => dF fn I 109 cuts109 ih r h) (e218 fn I ih · h) vs
theorem e169 (ih : II) (x0 x1 x2 x3 x4 : V) (h : Hp) : B169 ih x0 x1 x2 x3 x4 h = dL fn I 109 cuts109 250 [0, 4, 5, 6, 7] ih [x0, x1, x2, x3, x4] h := by kernel_rfl
theorem E169 : EO fn I 169 G169 := @entL Tryz.prog (orc fn I) _ 84 _ 109 250 [0, 4, 5, 6, 7] 100000 cuts109 (by kernel_rfl) fit109 fun ih vs h => c5 (X := fun r => dL fn I 109 cuts109 250 [0, 4, 5, 6, 7] ih r h) (e169 fn I ih · · · · · h) vs
theorem e216 (ih : II) (x0 x1 : V) (h : Hp) : B216 ih x0 x1 h = dF fn I 108 cuts108 ih [x0, x1] h := by kernel_rfl
theorem E216 (hf : ∀ vs h, fn 108 vs h = none) : EO fn I 216 G216 := fE fn I 108 hf cuts108 fit108 fun ih vs h => c2 (X := fun r => dF fn I 108 cuts108 ih r h) (e216 fn I ih · · h) vs
theorem e171 (ih : II) (x0 x1 : V) (h : Hp) : B171 ih x0 x1 h = dL fn I 108 cuts108 63 [1, 6] ih [x0, x1] h := by kernel_rfl
theorem E171 : EO fn I 171 G171 := @entL Tryz.prog (orc fn I) _ 85 _ 108 63 [1, 6] 100000 cuts108 (by kernel_rfl) fit108 fun ih vs h => c2 (X := fun r => dL fn I 108 cuts108 63 [1, 6] ih r h) (e171 fn I ih · · h) vs
theorem e173 (ih : II) (x0 x1 x2 x3 : V) (h : Hp) : B173 ih x0 x1 x2 x3 h = dL fn I 108 cuts108 124 [0, 1, 5, 6] ih [x0, x1, x2, x3] h := by kernel_rfl
theorem E173 : EO fn I 173 G173 := @entL Tryz.prog (orc fn I) _ 86 _ 108 124 [0, 1, 5, 6] 100000 cuts108 (by kernel_rfl) fit108 fun ih vs h => c4 (X := fun r => dL fn I 108 cuts108 124 [0, 1, 5, 6] ih r h) (e173 fn I ih · · · · h) vs
theorem e214 (ih : II) (x0 : V) (h : Hp) : B214 ih x0 h = dF fn I 107 cuts107 ih [x0] h := by kernel_rfl
theorem E214 (hf : ∀ vs h, fn 107 vs h = none) : EO fn I 214 G214 := fE fn I 107 hf cuts107 fit107 fun ih vs h => c1 (X := fun r => dF fn I 107 cuts107 ih r h) (e214 fn I ih · h) vs
theorem F214 (hf : ∀ vs h, fn 107 vs h = none) {x0 : V} {h : Hp} {p : V × Hp} (hp : B214 (L fn I) x0 h = some p) : L fn I 214 [x0] h = some p := @lim_ent Tryz.prog (orc fn I) labs 214 G214 (E214 fn I hf) [x0] h p (show G214 (L fn I) [x0] h = some p from hp)
theorem e175 (ih : II) (x0 x1 x2 : V) (h : Hp) : B175 ih x0 x1 x2 h = dL fn I 107 cuts107 58 [0, 3, 4] ih [x0, x1, x2] h := by kernel_rfl
theorem E175 : EO fn I 175 G175 := @entL Tryz.prog (orc fn I) _ 87 _ 107 58 [0, 3, 4] 100000 cuts107 (by kernel_rfl) fit107 fun ih vs h => c3 (X := fun r => dL fn I 107 cuts107 58 [0, 3, 4] ih r h) (e175 fn I ih · · · h) vs
theorem F175 {x0 x1 x2 : V} {h : Hp} {p : V × Hp} (hp : B175 (L fn I) x0 x1 x2 h = some p) : L fn I 175 [x0, x1, x2] h = some p := @lim_ent Tryz.prog (orc fn I) labs 175 G175 (E175 fn I) [x0, x1, x2] h p (show G175 (L fn I) [x0, x1, x2] h = some p from hp)
theorem e212 (ih : II) (x0 : V) (h : Hp) : B212 ih x0 h = dF fn I 106 cuts106 ih [x0] h := by kernel_rfl
theorem E212 (hf : ∀ vs h, fn 106 vs h = none) : EO fn I 212 G212 := fE fn I 106 hf cuts106 fit106 fun ih vs h => c1 (X := fun r => dF fn I 106 cuts106 ih r h) (e212 fn I ih · h) vs
theorem e210 (ih : II) (x0 x1 : V) (h : Hp) : B210 ih x0 x1 h = dF fn I 105 cuts105 ih [x0, x1] h := by kernel_rfl
theorem E210 (hf : ∀ vs h, fn 105 vs h = none) : EO fn I 210 G210 := fE fn I 105 hf cuts105 fit105 fun ih vs h => c2 (X := fun r => dF fn I 105 cuts105 ih r h) (e210 fn I ih · · h) vs
theorem F210 (hf : ∀ vs h, fn 105 vs h = none) {x0 x1 : V} {h : Hp} {p : V × Hp} (hp : B210 (L fn I) x0 x1 h = some p) : L fn I 210 [x0, x1] h = some p := @lim_ent Tryz.prog (orc fn I) labs 210 G210 (E210 fn I hf) [x0, x1] h p (show G210 (L fn I) [x0, x1] h = some p from hp)
theorem e208 (ih : II) (x0 : V) (h : Hp) : B208 ih x0 h = dF fn I 104 cuts104 ih [x0] h := by kernel_rfl
theorem E208 (hf : ∀ vs h, fn 104 vs h = none) : EO fn I 208 G208 := fE fn I 104 hf cuts104 fit104 fun ih vs h => c1 (X := fun r => dF fn I 104 cuts104 ih r h) (e208 fn I ih · h) vs
theorem e200 (ih : II) (x0 x1 : V) (h : Hp) : B200 ih x0 x1 h = dF fn I 100 cuts100 ih [x0, x1] h := by kernel_rfl
theorem E200 (hf : ∀ vs h, fn 100 vs h = none) : EO fn I 200 G200 := fE fn I 100 hf cuts100 fit100 fun ih vs h => c2 (X := fun r => dF fn I 100 cuts100 ih r h) (e200 fn I ih · · h) vs
theorem F200 (hf : ∀ vs h, fn 100 vs h = none) {x0 x1 : V} {h : Hp} {p : V × Hp} (hp : B200 (L fn I) x0 x1 h = some p) : L fn I 200 [x0, x1] h = some p := @lim_ent Tryz.prog (orc fn I) labs 200 G200 (E200 fn I hf) [x0, x1] h p (show G200 (L fn I) [x0, x1] h = some p from hp)
theorem e177 (ih : II) (x0 x1 x2 : V) (h : Hp) : B177 ih x0 x1 x2 h = dL fn I 100 cuts100 26 [0, 1, 5] ih [x0, x1, x2] h := by kernel_rfl
theorem E177 : EO fn I 177 G177 := @entL Tryz.prog (orc fn I) _ 88 _ 100 26 [0, 1, 5] 100000 cuts100 (by kernel_rfl) fit100 fun ih vs h => c3 (X := fun r => dL fn I 100 cuts100 26 [0, 1, 5] ih r h) (e177 fn I ih · · · h) vs
theorem F177 {x0 x1 x2 : V} {h : Hp} {p : V × Hp} (hp : B177 (L fn I) x0 x1 x2 h = some p) : L fn I 177 [x0, x1, x2] h = some p := @lim_ent Tryz.prog (orc fn I) labs 177 G177 (E177 fn I) [x0, x1, x2] h p (show G177 (L fn I) [x0, x1, x2] h = some p from hp)
theorem e194 (ih : II) (x0 : V) (h : Hp) : B194 ih x0 h = dF fn I 97 cuts97 ih [x0] h := by kernel_rfl
theorem E194 (hf : ∀ vs h, fn 97 vs h = none) : EO fn I 194 G194 := fE fn I 97 hf cuts97 fit97 fun ih vs h => c1 (X := fun r => dF fn I 97 cuts97 ih r h) (e194 fn I ih · h) vs
theorem e184 (ih : II) (x0 x1 : V) (h : Hp) : B184 ih x0 x1 h = dF fn I 92 cuts92 ih [x0, x1] h := by kernel_rfl
theorem E184 (hf : ∀ vs h, fn 92 vs h = none) : EO fn I 184 G184 := fE fn I 92 hf cuts92 fit92 fun ih vs h => c2 (X := fun r => dF fn I 92 cuts92 ih r h) (e184 fn I ih · · h) vs
theorem e192 (ih : II) (x0 x1 : V) (h : Hp) : B192 ih x0 x1 h = dF fn I 96 cuts96 ih [x0, x1] h := by kernel_rfl
theorem E192 (hf : ∀ vs h, fn 96 vs h = none) : EO fn I 192 G192 := fE fn I 96 hf cuts96 fit96 fun ih vs h => c2 (X := fun r => dF fn I 96 cuts96 ih r h) (e192 fn I ih · · h) vs
theorem e190 (ih : II) (x0 x1 : V) (h : Hp) : B190 ih x0 x1 h = dF fn I 95 cuts95 ih [x0, x1] h := by kernel_rfl
theorem E190 (hf : ∀ vs h, fn 95 vs h = none) : EO fn I 190 G190 := fE fn I 95 hf cuts95 fit95 fun ih vs h => c2 (X := fun r => dF fn I 95 cuts95 ih r h) (e190 fn I ih · · h) vs
theorem e182 (ih : II) (x0 x1 : V) (h : Hp) : B182 ih x0 x1 h = dF fn I 91 cuts91 ih [x0, x1] h := by kernel_rfl
theorem E182 (hf : ∀ vs h, fn 91 vs h = none) : EO fn I 182 G182 := fE fn I 91 hf cuts91 fit91 fun ih vs h => c2 (X := fun r => dF fn I 91 cuts91 ih r h) (e182 fn I ih · · h) vs
theorem e179 (ih : II) (x0 x1 x2 x3 x4 : V) (h : Hp) : B179 ih x0 x1 x2 x3 x4 h = dL fn I 91 cuts91 58 [0, 5, 8, 9, 10] ih [x0, x1, x2, x3, x4] h := by kernel_rfl
theorem E179 : EO fn I 179 G179 := @entL Tryz.prog (orc fn I) _ 89 _ 91 58 [0, 5, 8, 9, 10] 100000 cuts91 (by kernel_rfl) fit91 fun ih vs h => c5 (X := fun r => dL fn I 91 cuts91 58 [0, 5, 8, 9, 10] ih r h) (e179 fn I ih · · · · · h) vs
theorem e188 (ih : II) (x0 x1 : V) (h : Hp) : B188 ih x0 x1 h = dF fn I 94 cuts94 ih [x0, x1] h := by kernel_rfl
theorem E188 (hf : ∀ vs h, fn 94 vs h = none) : EO fn I 188 G188 := fE fn I 94 hf cuts94 fit94 fun ih vs h => c2 (X := fun r => dF fn I 94 cuts94 ih r h) (e188 fn I ih · · h) vs
theorem e181 (ih : II) (x0 x1 x2 x3 : V) (h : Hp) : B181 ih x0 x1 x2 x3 h = dL fn I 94 cuts94 60 [0, 3, 4, 5] ih [x0, x1, x2, x3] h := by kernel_rfl
theorem E181 : EO fn I 181 G181 := @entL Tryz.prog (orc fn I) _ 90 _ 94 60 [0, 3, 4, 5] 100000 cuts94 (by kernel_rfl) fit94 fun ih vs h => c4 (X := fun r => dL fn I 94 cuts94 60 [0, 3, 4, 5] ih r h) (e181 fn I ih · · · · h) vs
theorem e183 (ih : II) (x0 x1 : V) (h : Hp) : B183 ih x0 x1 h = dL fn I 94 cuts94 63 [0, 4] ih [x0, x1] h := by kernel_rfl
theorem E183 : EO fn I 183 G183 := @entL Tryz.prog (orc fn I) _ 91 _ 94 63 [0, 4] 100000 cuts94 (by kernel_rfl) fit94 fun ih vs h => c2 (X := fun r => dL fn I 94 cuts94 63 [0, 4] ih r h) (e183 fn I ih · · h) vs
theorem e185 (ih : II) (x0 x1 x2 x3 : V) (h : Hp) : B185 ih x0 x1 x2 x3 h = dL fn I 94 cuts94 254 [0, 60, 61, 62] ih [x0, x1, x2, x3] h := by kernel_rfl
theorem E185 : EO fn I 185 G185 := @entL Tryz.prog (orc fn I) _ 92 _ 94 254 [0, 60, 61, 62] 100000 cuts94 (by kernel_rfl) fit94 fun ih vs h => c4 (X := fun r => dL fn I 94 cuts94 254 [0, 60, 61, 62] ih r h) (e185 fn I ih · · · · h) vs
theorem e187 (ih : II) (x0 x1 x2 x3 x4 : V) (h : Hp) : B187 ih x0 x1 x2 x3 x4 h = dL fn I 94 cuts94 15439 [0, 3, 4, 5, 7] ih [x0, x1, x2, x3, x4] h := by kernel_rfl
theorem E187 : EO fn I 187 G187 := @entL Tryz.prog (orc fn I) _ 93 _ 94 15439 [0, 3, 4, 5, 7] 100000 cuts94 (by kernel_rfl) fit94 fun ih vs h => c5 (X := fun r => dL fn I 94 cuts94 15439 [0, 3, 4, 5, 7] ih r h) (e187 fn I ih · · · · · h) vs
theorem e186 (ih : II) (x0 x1 : V) (h : Hp) : B186 ih x0 x1 h = dF fn I 93 cuts93 ih [x0, x1] h := by kernel_rfl
theorem E186 (hf : ∀ vs h, fn 93 vs h = none) : EO fn I 186 G186 := fE fn I 93 hf cuts93 fit93 fun ih vs h => c2 (X := fun r => dF fn I 93 cuts93 ih r h) (e186 fn I ih · · h) vs
theorem e189 (ih : II) (x0 x1 x2 x3 x4 : V) (h : Hp) : B189 ih x0 x1 x2 x3 x4 h = dL fn I 93 cuts93 255 [2, 3, 4, 7, 8] ih [x0, x1, x2, x3, x4] h := by kernel_rfl
theorem E189 : EO fn I 189 G189 := @entL Tryz.prog (orc fn I) _ 94 _ 93 255 [2, 3, 4, 7, 8] 100000 cuts93 (by kernel_rfl) fit93 fun ih vs h => c5 (X := fun r => dL fn I 93 cuts93 255 [2, 3, 4, 7, 8] ih r h) (e189 fn I ih · · · · · h) vs
theorem e191 (ih : II) (x0 x1 : V) (h : Hp) : B191 ih x0 x1 h = dL fn I 93 cuts93 2047 [2, 4] ih [x0, x1] h := by kernel_rfl
theorem E191 : EO fn I 191 G191 := @entL Tryz.prog (orc fn I) _ 95 _ 93 2047 [2, 4] 100000 cuts93 (by kernel_rfl) fit93 fun ih vs h => c2 (X := fun r => dL fn I 93 cuts93 2047 [2, 4] ih r h) (e191 fn I ih · · h) vs
theorem e193 (ih : II) (x0 x1 x2 x3 : V) (h : Hp) : B193 ih x0 x1 x2 x3 h = dL fn I 93 cuts93 8190 [2, 157, 158, 159] ih [x0, x1, x2, x3] h := by kernel_rfl
theorem E193 : EO fn I 193 G193 := @entL Tryz.prog (orc fn I) _ 96 _ 93 8190 [2, 157, 158, 159] 100000 cuts93 (by kernel_rfl) fit93 fun ih vs h => c4 (X := fun r => dL fn I 93 cuts93 8190 [2, 157, 158, 159] ih r h) (e193 fn I ih · · · · h) vs
theorem e195 (ih : II) (x0 x1 x2 x3 x4 x5 x6 : V) (h : Hp) : B195 ih x0 x1 x2 x3 x4 x5 x6 h = dL fn I 93 cuts93 65215 [2, 3, 4, 5, 6, 11, 12] ih [x0, x1, x2, x3, x4, x5, x6] h := by kernel_rfl
theorem E195 : EO fn I 195 G195 := @entL Tryz.prog (orc fn I) _ 97 _ 93 65215 [2, 3, 4, 5, 6, 11, 12] 100000 cuts93 (by kernel_rfl) fit93 fun ih vs h => c7 (X := fun r => dL fn I 93 cuts93 65215 [2, 3, 4, 5, 6, 11, 12] ih r h) (e195 fn I ih · · · · · · · h) vs
theorem e197 (ih : II) (x0 x1 x2 x3 x4 x5 x6 x7 x8 x9 : V) (h : Hp) : B197 ih x0 x1 x2 x3 x4 x5 x6 x7 x8 x9 h = dL fn I 93 cuts93 66781178 [2, 3, 4, 5, 6, 12, 15, 64, 65, 66] ih [x0, x1, x2, x3, x4, x5, x6, x7, x8, x9] h := by kernel_rfl
theorem E197 : EO fn I 197 G197 := @entL Tryz.prog (orc fn I) _ 98 _ 93 66781178 [2, 3, 4, 5, 6, 12, 15, 64, 65, 66] 100000 cuts93 (by kernel_rfl) fit93 fun ih vs h => c10 (X := fun r => dL fn I 93 cuts93 66781178 [2, 3, 4, 5, 6, 12, 15, 64, 65, 66] ih r h) (e197 fn I ih · · · · · · · · · · h) vs
theorem e180 (ih : II) (x0 : V) (h : Hp) : B180 ih x0 h = dF fn I 90 cuts90 ih [x0] h := by kernel_rfl
theorem E180 (hf : ∀ vs h, fn 90 vs h = none) : EO fn I 180 G180 := fE fn I 90 hf cuts90 fit90 fun ih vs h => c1 (X := fun r => dF fn I 90 cuts90 ih r h) (e180 fn I ih · h) vs
theorem e176 (ih : II) (x0 x1 : V) (h : Hp) : B176 ih x0 x1 h = dF fn I 88 cuts88 ih [x0, x1] h := by kernel_rfl
theorem E176 (hf : ∀ vs h, fn 88 vs h = none) : EO fn I 176 G176 := fE fn I 88 hf cuts88 fit88 fun ih vs h => c2 (X := fun r => dF fn I 88 cuts88 ih r h) (e176 fn I ih · · h) vs
theorem e178 (ih : II) (x0 x1 : V) (h : Hp) : B178 ih x0 x1 h = dF fn I 89 cuts89 ih [x0, x1] h := by kernel_rfl
theorem E178 (hf : ∀ vs h, fn 89 vs h = none) : EO fn I 178 G178 := fE fn I 89 hf cuts89 fit89 fun ih vs h => c2 (X := fun r => dF fn I 89 cuts89 ih r h) (e178 fn I ih · · h) vs
theorem e174 (ih : II) (x0 x1 : V) (h : Hp) : B174 ih x0 x1 h = dF fn I 87 cuts87 ih [x0, x1] h := by kernel_rfl
theorem E174 (hf : ∀ vs h, fn 87 vs h = none) : EO fn I 174 G174 := fE fn I 87 hf cuts87 fit87 fun ih vs h => c2 (X := fun r => dF fn I 87 cuts87 ih r h) (e174 fn I ih · · h) vs
theorem e199 (ih : II) (x0 x1 x2 x3 : V) (h : Hp) : B199 ih x0 x1 x2 x3 h = dL fn I 87 cuts87 26 [0, 1, 7, 8] ih [x0, x1, x2, x3] h := by kernel_rfl
theorem E199 : EO fn I 199 G199 := @entL Tryz.prog (orc fn I) _ 99 _ 87 26 [0, 1, 7, 8] 100000 cuts87 (by kernel_rfl) fit87 fun ih vs h => c4 (X := fun r => dL fn I 87 cuts87 26 [0, 1, 7, 8] ih r h) (e199 fn I ih · · · · h) vs
theorem e172 (ih : II) (x0 : V) (h : Hp) : B172 ih x0 h = dF fn I 86 cuts86 ih [x0] h := by kernel_rfl
theorem E172 (hf : ∀ vs h, fn 86 vs h = none) : EO fn I 172 G172 := fE fn I 86 hf cuts86 fit86 fun ih vs h => c1 (X := fun r => dF fn I 86 cuts86 ih r h) (e172 fn I ih · h) vs
theorem e170 (ih : II) (x0 x1 x2 : V) (h : Hp) : B170 ih x0 x1 x2 h = dF fn I 85 cuts85 ih [x0, x1, x2] h := by kernel_rfl
theorem E170 (hf : ∀ vs h, fn 85 vs h = none) : EO fn I 170 G170 := fE fn I 85 hf cuts85 fit85 fun ih vs h => c3 (X := fun r => dF fn I 85 cuts85 ih r h) (e170 fn I ih · · · h) vs
theorem e164 (ih : II) (x0 x1 x2 : V) (h : Hp) : B164 ih x0 x1 x2 h = dF fn I 82 cuts82 ih [x0, x1, x2] h := by kernel_rfl
theorem E164 (hf : ∀ vs h, fn 82 vs h = none) : EO fn I 164 G164 := fE fn I 82 hf cuts82 fit82 fun ih vs h => c3 (X := fun r => dF fn I 82 cuts82 ih r h) (e164 fn I ih · · · h) vs
theorem e154 (ih : II) (x0 x1 x2 x3 x4 : V) (h : Hp) : B154 ih x0 x1 x2 x3 x4 h = dF fn I 77 cuts77 ih [x0, x1, x2, x3, x4] h := by kernel_rfl
theorem E154 (hf : ∀ vs h, fn 77 vs h = none) : EO fn I 154 G154 := fE fn I 77 hf cuts77 fit77 fun ih vs h => c5 (X := fun r => dF fn I 77 cuts77 ih r h) (e154 fn I ih · · · · · h) vs
theorem e166 (ih : II) (x0 : V) (h : Hp) : B166 ih x0 h = dF fn I 83 cuts83 ih [x0] h := by kernel_rfl
theorem E166 (hf : ∀ vs h, fn 83 vs h = none) : EO fn I 166 G166 := fE fn I 83 hf cuts83 fit83 fun ih vs h => c1 (X := fun r => dF fn I 83 cuts83 ih r h) (e166 fn I ih · h) vs
theorem e150 (ih : II) (x0 x1 x2 : V) (h : Hp) : B150 ih x0 x1 x2 h = dF fn I 75 cuts75 ih [x0, x1, x2] h := by kernel_rfl
theorem E150 (hf : ∀ vs h, fn 75 vs h = none) : EO fn I 150 G150 := fE fn I 75 hf cuts75 fit75 fun ih vs h => c3 (X := fun r => dF fn I 75 cuts75 ih r h) (e150 fn I ih · · · h) vs
theorem e162 (ih : II) (x0 : V) (h : Hp) : B162 ih x0 h = dF fn I 81 cuts81 ih [x0] h := by kernel_rfl
theorem E162 (hf : ∀ vs h, fn 81 vs h = none) : EO fn I 162 G162 := fE fn I 81 hf cuts81 fit81 fun ih vs h => c1 (X := fun r => dF fn I 81 cuts81 ih r h) (e162 fn I ih · h) vs
theorem e201 (ih : II) (x0 x1 x2 : V) (h : Hp) : B201 ih x0 x1 x2 h = dL fn I 81 cuts81 58 [0, 21, 22] ih [x0, x1, x2] h := by kernel_rfl
theorem E201 : EO fn I 201 G201 := @entL Tryz.prog (orc fn I) _ 100 _ 81 58 [0, 21, 22] 100000 cuts81 (by kernel_rfl) fit81 fun ih vs h => c3 (X := fun r => dL fn I 81 cuts81 58 [0, 21, 22] ih r h) (e201 fn I ih · · · h) vs
theorem e158 (ih : II) (x0 x1 x2 : V) (h : Hp) : B158 ih x0 x1 x2 h = dF fn I 79 cuts79 ih [x0, x1, x2] h := by kernel_rfl
theorem E158 (hf : ∀ vs h, fn 79 vs h = none) : EO fn I 158 G158 := fE fn I 79 hf cuts79 fit79 fun ih vs h => c3 (X := fun r => dF fn I 79 cuts79 ih r h) (e158 fn I ih · · · h) vs
theorem e152 (ih : II) (x0 x1 : V) (h : Hp) : B152 ih x0 x1 h = dF fn I 76 cuts76 ih [x0, x1] h := by kernel_rfl
theorem E152 (hf : ∀ vs h, fn 76 vs h = none) : EO fn I 152 G152 := fE fn I 76 hf cuts76 fit76 fun ih vs h => c2 (X := fun r => dF fn I 76 cuts76 ih r h) (e152 fn I ih · · h) vs
theorem e160 (ih : II) (x0 x1 : V) (h : Hp) : B160 ih x0 x1 h = dF fn I 80 cuts80 ih [x0, x1] h := by kernel_rfl
theorem E160 (hf : ∀ vs h, fn 80 vs h = none) : EO fn I 160 G160 := fE fn I 80 hf cuts80 fit80 fun ih vs h => c2 (X := fun r => dF fn I 80 cuts80 ih r h) (e160 fn I ih · · h) vs
theorem e203 (ih : II) (x0 x1 x2 x3 : V) (h : Hp) : B203 ih x0 x1 x2 x3 h = dL fn I 80 cuts80 58 [2, 3, 5, 6] ih [x0, x1, x2, x3] h := by kernel_rfl
theorem E203 : EO fn I 203 G203 := @entL Tryz.prog (orc fn I) _ 101 _ 80 58 [2, 3, 5, 6] 100000 cuts80 (by kernel_rfl) fit80 fun ih vs h => c4 (X := fun r => dL fn I 80 cuts80 58 [2, 3, 5, 6] ih r h) (e203 fn I ih · · · · h) vs
theorem e156 (ih : II) (x0 : V) (h : Hp) : B156 ih x0 h = dF fn I 78 cuts78 ih [x0] h := by kernel_rfl
theorem E156 (hf : ∀ vs h, fn 78 vs h = none) : EO fn I 156 G156 := fE fn I 78 hf cuts78 fit78 fun ih vs h => c1 (X := fun r => dF fn I 78 cuts78 ih r h) (e156 fn I ih · h) vs
theorem e282 (ih : II) (x0 x1 x2 : V) (h : Hp) : B282 ih x0 x1 x2 h = dF fn I 141 cuts141 ih [x0, x1, x2] h := by kernel_rfl
theorem E282 (hf : ∀ vs h, fn 141 vs h = none) : EO fn I 282 G282 := fE fn I 141 hf cuts141 fit141 fun ih vs h => c3 (X := fun r => dF fn I 141 cuts141 ih r h) (e282 fn I ih · · · h) vs
theorem e205 (ih : II) (x0 x1 x2 x3 : V) (h : Hp) : B205 ih x0 x1 x2 x3 h = dL fn I 141 cuts141 1020 [0, 1, 2, 7] ih [x0, x1, x2, x3] h := by kernel_rfl
theorem E205 : EO fn I 205 G205 := @entL Tryz.prog (orc fn I) _ 102 _ 141 1020 [0, 1, 2, 7] 100000 cuts141 (by kernel_rfl) fit141 fun ih vs h => c4 (X := fun r => dL fn I 141 cuts141 1020 [0, 1, 2, 7] ih r h) (e205 fn I ih · · · · h) vs
theorem e207 (ih : II) (x0 x1 x2 : V) (h : Hp) : B207 ih x0 x1 x2 h = dL fn I 141 cuts141 8161 [0, 1, 2] ih [x0, x1, x2] h := by kernel_rfl
theorem E207 : EO fn I 207 G207 := @entL Tryz.prog (orc fn I) _ 103 _ 141 8161 [0, 1, 2] 100000 cuts141 (by kernel_rfl) fit141 fun ih vs h => c3 (X := fun r => dL fn I 141 cuts141 8161 [0, 1, 2] ih r h) (e207 fn I ih · · · h) vs
theorem e280 (ih : II) (x0 x1 x2 : V) (h : Hp) : B280 ih x0 x1 x2 h = dF fn I 140 cuts140 ih [x0, x1, x2] h := by kernel_rfl
theorem E280 (hf : ∀ vs h, fn 140 vs h = none) : EO fn I 280 G280 := fE fn I 140 hf cuts140 fit140 fun ih vs h => c3 (X := fun r => dF fn I 140 cuts140 ih r h) (e280 fn I ih · · · h) vs
theorem e278 (ih : II) (x0 x1 x2 : V) (h : Hp) : B278 ih x0 x1 x2 h = dF fn I 139 cuts139 ih [x0, x1, x2] h := by kernel_rfl
theorem E278 (hf : ∀ vs h, fn 139 vs h = none) : EO fn I 278 G278 := fE fn I 139 hf cuts139 fit139 fun ih vs h => c3 (X := fun r => dF fn I 139 cuts139 ih r h) (e278 fn I ih · · · h) vs
theorem e211 (ih : II) (x0 x1 x2 x3 x4 : V) (h : Hp) : B211 ih x0 x1 x2 x3 x4 h = dL fn I 139 cuts139 31 [0, 1, 2, 7, 8] ih [x0, x1, x2, x3, x4] h := by kernel_rfl
theorem E211 : EO fn I 211 G211 := @entL Tryz.prog (orc fn I) _ 105 _ 139 31 [0, 1, 2, 7, 8] 100000 cuts139 (by kernel_rfl) fit139 fun ih vs h => c5 (X := fun r => dL fn I 139 cuts139 31 [0, 1, 2, 7, 8] ih r h) (e211 fn I ih · · · · · h) vs
theorem e213 (ih : II) (x0 x1 x2 x3 x4 x5 : V) (h : Hp) : B213 ih x0 x1 x2 x3 x4 x5 h = dL fn I 139 cuts139 60 [0, 1, 2, 6, 7, 8] ih [x0, x1, x2, x3, x4, x5] h := by kernel_rfl
theorem E213 : EO fn I 213 G213 := @entL Tryz.prog (orc fn I) _ 106 _ 139 60 [0, 1, 2, 6, 7, 8] 100000 cuts139 (by kernel_rfl) fit139 fun ih vs h => c6 (X := fun r => dL fn I 139 cuts139 60 [0, 1, 2, 6, 7, 8] ih r h) (e213 fn I ih · · · · · · h) vs
theorem e272 (ih : II) (x0 : V) (h : Hp) : B272 ih x0 h = dF fn I 136 cuts136 ih [x0] h := by kernel_rfl
theorem E272 (hf : ∀ vs h, fn 136 vs h = none) : EO fn I 272 G272 := fE fn I 136 hf cuts136 fit136 fun ih vs h => c1 (X := fun r => dF fn I 136 cuts136 ih r h) (e272 fn I ih · h) vs
theorem e217 (ih : II) (x0 : V) (h : Hp) : B217 ih x0 h = dL fn I 136 cuts136 15 [0] ih [x0] h := by kernel_rfl
theorem E217 : EO fn I 217 G217 := @entL Tryz.prog (orc fn I) _ 108 _ 136 15 [0] 100000 cuts136 (by kernel_rfl) fit136 fun ih vs h => c1 (X := fun r => dL fn I 136 cuts136 15 [0] ih r h) (e217 fn I ih · h) vs
theorem e276 (ih : II) (x0 x1 : V) (h : Hp) : B276 ih x0 x1 h = dF fn I 138 cuts138 ih [x0, x1] h := by kernel_rfl
theorem E276 (hf : ∀ vs h, fn 138 vs h = none) : EO fn I 276 G276 := fE fn I 138 hf cuts138 fit138 fun ih vs h => c2 (X := fun r => dF fn I 138 cuts138 ih r h) (e276 fn I ih · · h) vs
theorem e266 (ih : II) (x0 x1 : V) (h : Hp) : B266 ih x0 x1 h = dF fn I 133 cuts133 ih [x0, x1] h := by kernel_rfl
theorem E266 (hf : ∀ vs h, fn 133 vs h = none) : EO fn I 266 G266 := fE fn I 133 hf cuts133 fit133 fun ih vs h => c2 (X := fun r => dF fn I 133 cuts133 ih r h) (e266 fn I ih · · h) vs
theorem e274 (ih : II) (x0 x1 : V) (h : Hp) : B274 ih x0 x1 h = dF fn I 137 cuts137 ih [x0, x1] h := by kernel_rfl
theorem E274 (hf : ∀ vs h, fn 137 vs h = none) : EO fn I 274 G274 := fE fn I 137 hf cuts137 fit137 fun ih vs h => c2 (X := fun r => dF fn I 137 cuts137 ih r h) (e274 fn I ih · · h) vs
theorem e219 (ih : II) (x0 x1 : V) (h : Hp) : B219 ih x0 x1 h = dL fn I 137 cuts137 12 [0, 1] ih [x0, x1] h := by kernel_rfl
theorem E219 : EO fn I 219 G219 := @entL Tryz.prog (orc fn I) _ 109 _ 137 12 [0, 1] 100000 cuts137 (by kernel_rfl) fit137 fun ih vs h => c2 (X := fun r => dL fn I 137 cuts137 12 [0, 1] ih r h) (e219 fn I ih · · h) vs
theorem e221 (ih : II) (x0 x1 : V) (h : Hp) : B221 ih x0 x1 h = dL fn I 137 cuts137 395 [0, 1] ih [x0, x1] h := by kernel_rfl
theorem E221 : EO fn I 221 G221 := @entL Tryz.prog (orc fn I) _ 110 _ 137 395 [0, 1] 100000 cuts137 (by kernel_rfl) fit137 fun ih vs h => c2 (X := fun r => dL fn I 137 cuts137 395 [0, 1] ih r h) (e221 fn I ih · · h) vs
theorem e270 (ih : II) (x0 : V) (h : Hp) : B270 ih x0 h = dF fn I 135 cuts135 ih [x0] h := by kernel_rfl
theorem E270 (hf : ∀ vs h, fn 135 vs h = none) : EO fn I 270 G270 := fE fn I 135 hf cuts135 fit135 fun ih vs h => c1 (X := fun r => dF fn I 135 cuts135 ih r h) (e270 fn I ih · h) vs
theorem e223 (ih : II) (x0 x1 x2 x3 : V) (h : Hp) : B223 ih x0 x1 x2 x3 h = dL fn I 135 cuts135 122 [0, 5, 6, 7] ih [x0, x1, x2, x3] h := by kernel_rfl
theorem E223 : EO fn I 223 G223 := @entL Tryz.prog (orc fn I) _ 111 _ 135 122 [0, 5, 6, 7] 100000 cuts135 (by kernel_rfl) fit135 fun ih vs h => c4 (X := fun r => dL fn I 135 cuts135 122 [0, 5, 6, 7] ih r h) (e223 fn I ih · · · · h) vs
theorem e268 (ih : II) (x0 x1 : V) (h : Hp) : B268 ih x0 x1 h = dF fn I 134 cuts134 ih [x0, x1] h := by kernel_rfl
theorem E268 (hf : ∀ vs h, fn 134 vs h = none) : EO fn I 268 G268 := fE fn I 134 hf cuts134 fit134 fun ih vs h => c2 (X := fun r => dF fn I 134 cuts134 ih r h) (e268 fn I ih · · h) vs
theorem e225 (ih : II) (x0 x1 x2 x3 x4 x5 : V) (h : Hp) : B225 ih x0 x1 x2 x3 x4 x5 h = dL fn I 134 cuts134 250 [0, 1, 5, 6, 7, 8] ih [x0, x1, x2, x3, x4, x5] h := by kernel_rfl
theorem E225 : EO fn I 225 G225 := @entL Tryz.prog (orc fn I) _ 112 _ 134 250 [0, 1, 5, 6, 7, 8] 100000 cuts134 (by kernel_rfl) fit134 fun ih vs h => c6 (X := fun r => dL fn I 134 cuts134 250 [0, 1, 5, 6, 7, 8] ih r h) (e225 fn I ih · · · · · · h) vs
theorem e264 (ih : II) (h : Hp) : B264 ih  h = dF fn I 132 cuts132 ih [] h := by kernel_rfl
theorem E264 (hf : ∀ vs h, fn 132 vs h = none) : EO fn I 264 G264 := fE fn I 132 hf cuts132 fit132 fun ih vs h => c0 (X := fun r => dF fn I 132 cuts132 ih r h) (e264 fn I ih h) vs
theorem F264 (hf : ∀ vs h, fn 132 vs h = none) {h : Hp} {p : V × Hp} (hp : B264 (L fn I)  h = some p) : L fn I 264 [] h = some p := @lim_ent Tryz.prog (orc fn I) labs 264 G264 (E264 fn I hf) [] h p (show G264 (L fn I) [] h = some p from hp)
theorem e260 (ih : II) (x0 : V) (h : Hp) : B260 ih x0 h = dF fn I 130 cuts130 ih [x0] h := by kernel_rfl
theorem E260 (hf : ∀ vs h, fn 130 vs h = none) : EO fn I 260 G260 := fE fn I 130 hf cuts130 fit130 fun ih vs h => c1 (X := fun r => dF fn I 130 cuts130 ih r h) (e260 fn I ih · h) vs
theorem e229 (ih : II) (x0 : V) (h : Hp) : B229 ih x0 h = dL fn I 130 cuts130 12 [0] ih [x0] h := by kernel_rfl
theorem E229 : EO fn I 229 G229 := @entL Tryz.prog (orc fn I) _ 114 _ 130 12 [0] 100000 cuts130 (by kernel_rfl) fit130 fun ih vs h => c1 (X := fun r => dL fn I 130 cuts130 12 [0] ih r h) (e229 fn I ih · h) vs
theorem e231 (ih : II) (x0 : V) (h : Hp) : B231 ih x0 h = dL fn I 130 cuts130 28 [0] ih [x0] h := by kernel_rfl
theorem E231 : EO fn I 231 G231 := @entL Tryz.prog (orc fn I) _ 115 _ 130 28 [0] 100000 cuts130 (by kernel_rfl) fit130 fun ih vs h => c1 (X := fun r => dL fn I 130 cuts130 28 [0] ih r h) (e231 fn I ih · h) vs
theorem e233 (ih : II) (x0 x1 : V) (h : Hp) : B233 ih x0 x1 h = dL fn I 130 cuts130 63 [0, 4] ih [x0, x1] h := by kernel_rfl
theorem E233 : EO fn I 233 G233 := @entL Tryz.prog (orc fn I) _ 116 _ 130 63 [0, 4] 100000 cuts130 (by kernel_rfl) fit130 fun ih vs h => c2 (X := fun r => dL fn I 130 cuts130 63 [0, 4] ih r h) (e233 fn I ih · · h) vs
theorem e235 (ih : II) (x0 x1 x2 x3 : V) (h : Hp) : B235 ih x0 x1 x2 x3 h = dL fn I 130 cuts130 2042 [0, 4, 5, 6] ih [x0, x1, x2, x3] h := by kernel_rfl
theorem E235 : EO fn I 235 G235 := @entL Tryz.prog (orc fn I) _ 117 _ 130 2042 [0, 4, 5, 6] 100000 cuts130 (by kernel_rfl) fit130 fun ih vs h => c4 (X := fun r => dL fn I 130 cuts130 2042 [0, 4, 5, 6] ih r h) (e235 fn I ih · · · · h) vs
theorem e237 (ih : II) (x0 : V) (h : Hp) : B237 ih x0 h = dL fn I 130 cuts130 2047 [5] ih [x0] h := by kernel_rfl
theorem E237 : EO fn I 237 G237 := @entL Tryz.prog (orc fn I) _ 118 _ 130 2047 [5] 100000 cuts130 (by kernel_rfl) fit130 fun ih vs h => c1 (X := fun r => dL fn I 130 cuts130 2047 [5] ih r h) (e237 fn I ih · h) vs
theorem e258 (ih : II) (h : Hp) : B258 ih  h = dF fn I 129 cuts129 ih [] h := by kernel_rfl
theorem E258 (hf : ∀ vs h, fn 129 vs h = none) : EO fn I 258 G258 := fE fn I 129 hf cuts129 fit129 fun ih vs h => c0 (X := fun r => dF fn I 129 cuts129 ih r h) (e258 fn I ih h) vs
theorem F258 (hf : ∀ vs h, fn 129 vs h = none) {h : Hp} {p : V × Hp} (hp : B258 (L fn I)  h = some p) : L fn I 258 [] h = some p := @lim_ent Tryz.prog (orc fn I) labs 258 G258 (E258 fn I hf) [] h p (show G258 (L fn I) [] h = some p from hp)
theorem e256 (ih : II) (x0 : V) (h : Hp) : B256 ih x0 h = dF fn I 128 cuts128 ih [x0] h := by kernel_rfl
theorem E256 (hf : ∀ vs h, fn 128 vs h = none) : EO fn I 256 G256 := fE fn I 128 hf cuts128 fit128 fun ih vs h => c1 (X := fun r => dF fn I 128 cuts128 ih r h) (e256 fn I ih · h) vs
theorem e252 (ih : II) (x0 x1 : V) (h : Hp) : B252 ih x0 x1 h = dF fn I 126 cuts126 ih [x0, x1] h := by kernel_rfl
theorem E252 (hf : ∀ vs h, fn 126 vs h = none) : EO fn I 252 G252 := fE fn I 126 hf cuts126 fit126 fun ih vs h => c2 (X := fun r => dF fn I 126 cuts126 ih r h) (e252 fn I ih · · h) vs
theorem e239 (ih : II) (x0 x1 : V) (h : Hp) : B239 ih x0 x1 h = dL fn I 126 cuts126 31 [0, 6] ih [x0, x1] h := by kernel_rfl
theorem E239 : EO fn I 239 G239 := @entL Tryz.prog (orc fn I) _ 119 _ 126 31 [0, 6] 100000 cuts126 (by kernel_rfl) fit126 fun ih vs h => c2 (X := fun r => dL fn I 126 cuts126 31 [0, 6] ih r h) (e239 fn I ih · · h) vs
theorem e254 (ih : II) (x0 x1 x2 x3 : V) (h : Hp) : B254 ih x0 x1 x2 x3 h = dF fn I 127 cuts127 ih [x0, x1, x2, x3] h := by kernel_rfl
theorem E254 (hf : ∀ vs h, fn 127 vs h = none) : EO fn I 254 G254 := fE fn I 127 hf cuts127 fit127 fun ih vs h => c4 (X := fun r => dF fn I 127 cuts127 ih r h) (e254 fn I ih · · · · h) vs
theorem e250 (ih : II) (x0 x1 : V) (h : Hp) : B250 ih x0 x1 h = dF fn I 125 cuts125 ih [x0, x1] h := by kernel_rfl
theorem E250 (hf : ∀ vs h, fn 125 vs h = none) : EO fn I 250 G250 := fE fn I 125 hf cuts125 fit125 fun ih vs h => c2 (X := fun r => dF fn I 125 cuts125 ih r h) (e250 fn I ih · · h) vs
theorem e241 (ih : II) (x0 x1 x2 x3 : V) (h : Hp) : B241 ih x0 x1 x2 x3 h = dL fn I 125 cuts125 26 [0, 1, 7, 8] ih [x0, x1, x2, x3] h := by kernel_rfl
theorem E241 : EO fn I 241 G241 := @entL Tryz.prog (orc fn I) _ 120 _ 125 26 [0, 1, 7, 8] 100000 cuts125 (by kernel_rfl) fit125 fun ih vs h => c4 (X := fun r => dL fn I 125 cuts125 26 [0, 1, 7, 8] ih r h) (e241 fn I ih · · · · h) vs
theorem e244 (ih : II) (x0 : V) (h : Hp) : B244 ih x0 h = dF fn I 122 cuts122 ih [x0] h := by kernel_rfl
theorem E244 (hf : ∀ vs h, fn 122 vs h = none) : EO fn I 244 G244 := fE fn I 122 hf cuts122 fit122 fun ih vs h => c1 (X := fun r => dF fn I 122 cuts122 ih r h) (e244 fn I ih · h) vs
theorem e248 (ih : II) (x0 : V) (h : Hp) : B248 ih x0 h = dF fn I 124 cuts124 ih [x0] h := by kernel_rfl
theorem E248 (hf : ∀ vs h, fn 124 vs h = none) : EO fn I 248 G248 := fE fn I 124 hf cuts124 fit124 fun ih vs h => c1 (X := fun r => dF fn I 124 cuts124 ih r h) (e248 fn I ih · h) vs
theorem e246 (ih : II) (x0 : V) (h : Hp) : B246 ih x0 h = dF fn I 123 cuts123 ih [x0] h := by kernel_rfl
theorem E246 (hf : ∀ vs h, fn 123 vs h = none) : EO fn I 246 G246 := fE fn I 123 hf cuts123 fit123 fun ih vs h => c1 (X := fun r => dF fn I 123 cuts123 ih r h) (e246 fn I ih · h) vs
theorem e240 (ih : II) (x0 x1 : V) (h : Hp) : B240 ih x0 x1 h = dF fn I 120 cuts120 ih [x0, x1] h := by kernel_rfl
theorem E240 (hf : ∀ vs h, fn 120 vs h = none) : EO fn I 240 G240 := fE fn I 120 hf cuts120 fit120 fun ih vs h => c2 (X := fun r => dF fn I 120 cuts120 ih r h) (e240 fn I ih · · h) vs
theorem e242 (ih : II) (x0 : V) (h : Hp) : B242 ih x0 h = dF fn I 121 cuts121 ih [x0] h := by kernel_rfl
theorem E242 (hf : ∀ vs h, fn 121 vs h = none) : EO fn I 242 G242 := fE fn I 121 hf cuts121 fit121 fun ih vs h => c1 (X := fun r => dF fn I 121 cuts121 ih r h) (e242 fn I ih · h) vs
theorem e320 (ih : II) (x0 x1 : V) (h : Hp) : B320 ih x0 x1 h = dF fn I 160 cuts160 ih [x0, x1] h := by kernel_rfl
theorem E320 (hf : ∀ vs h, fn 160 vs h = none) : EO fn I 320 G320 := fE fn I 160 hf cuts160 fit160 fun ih vs h => c2 (X := fun r => dF fn I 160 cuts160 ih r h) (e320 fn I ih · · h) vs
theorem e316 (ih : II) (x0 x1 : V) (h : Hp) : B316 ih x0 x1 h = dF fn I 158 cuts158 ih [x0, x1] h := by kernel_rfl
theorem E316 (hf : ∀ vs h, fn 158 vs h = none) : EO fn I 316 G316 := fE fn I 158 hf cuts158 fit158 fun ih vs h => c2 (X := fun r => dF fn I 158 cuts158 ih r h) (e316 fn I ih · · h) vs
theorem e243 (ih : II) (x0 x1 x2 x3 : V) (h : Hp) : B243 ih x0 x1 x2 x3 h = dL fn I 158 cuts158 31 [0, 1, 5, 6] ih [x0, x1, x2, x3] h := by kernel_rfl
theorem E243 : EO fn I 243 G243 := @entL Tryz.prog (orc fn I) _ 121 _ 158 31 [0, 1, 5, 6] 100000 cuts158 (by kernel_rfl) fit158 fun ih vs h => c4 (X := fun r => dL fn I 158 cuts158 31 [0, 1, 5, 6] ih r h) (e243 fn I ih · · · · h) vs
theorem e245 (ih : II) (x0 x1 x2 x3 : V) (h : Hp) : B245 ih x0 x1 x2 x3 h = dL fn I 158 cuts158 124 [0, 1, 5, 6] ih [x0, x1, x2, x3] h := by kernel_rfl
theorem E245 : EO fn I 245 G245 := @entL Tryz.prog (orc fn I) _ 122 _ 158 124 [0, 1, 5, 6] 100000 cuts158 (by kernel_rfl) fit158 fun ih vs h => c4 (X := fun r => dL fn I 158 cuts158 124 [0, 1, 5, 6] ih r h) (e245 fn I ih · · · · h) vs
theorem e247 (ih : II) (x0 x1 x2 x3 : V) (h : Hp) : B247 ih x0 x1 x2 x3 h = dL fn I 158 cuts158 3979 [0, 1, 5, 8] ih [x0, x1, x2, x3] h := by kernel_rfl
theorem E247 : EO fn I 247 G247 := @entL Tryz.prog (orc fn I) _ 123 _ 158 3979 [0, 1, 5, 8] 100000 cuts158 (by kernel_rfl) fit158 fun ih vs h => c4 (X := fun r => dL fn I 158 cuts158 3979 [0, 1, 5, 8] ih r h) (e247 fn I ih · · · · h) vs
theorem e314 (ih : II) (x0 x1 x2 x3 : V) (h : Hp) : B314 ih x0 x1 x2 x3 h = dF fn I 157 cuts157 ih [x0, x1, x2, x3] h := by kernel_rfl
theorem E314 (hf : ∀ vs h, fn 157 vs h = none) : EO fn I 314 G314 := fE fn I 157 hf cuts157 fit157 fun ih vs h => c4 (X := fun r => dF fn I 157 cuts157 ih r h) (e314 fn I ih · · · · h) vs
theorem e249 (ih : II) (x0 x1 x2 : V) (h : Hp) : B249 ih x0 x1 x2 h = dL fn I 157 cuts157 31 [0, 1, 9] ih [x0, x1, x2] h := by kernel_rfl
theorem E249 : EO fn I 249 G249 := @entL Tryz.prog (orc fn I) _ 124 _ 157 31 [0, 1, 9] 100000 cuts157 (by kernel_rfl) fit157 fun ih vs h => c3 (X := fun r => dL fn I 157 cuts157 31 [0, 1, 9] ih r h) (e249 fn I ih · · · h) vs
theorem e251 (ih : II) (x0 x1 x2 : V) (h : Hp) : B251 ih x0 x1 x2 h = dL fn I 157 cuts157 244 [0, 1, 9] ih [x0, x1, x2] h := by kernel_rfl
theorem E251 : EO fn I 251 G251 := @entL Tryz.prog (orc fn I) _ 125 _ 157 244 [0, 1, 9] 100000 cuts157 (by kernel_rfl) fit157 fun ih vs h => c3 (X := fun r => dL fn I 157 cuts157 244 [0, 1, 9] ih r h) (e251 fn I ih · · · h) vs
theorem e253 (ih : II) (x0 x1 x2 : V) (h : Hp) : B253 ih x0 x1 x2 h = dL fn I 157 cuts157 3907 [0, 1, 9] ih [x0, x1, x2] h := by kernel_rfl
theorem E253 : EO fn I 253 G253 := @entL Tryz.prog (orc fn I) _ 126 _ 157 3907 [0, 1, 9] 100000 cuts157 (by kernel_rfl) fit157 fun ih vs h => c3 (X := fun r => dL fn I 157 cuts157 3907 [0, 1, 9] ih r h) (e253 fn I ih · · · h) vs
theorem e302 (ih : II) (x0 : V) (h : Hp) : B302 ih x0 h = dF fn I 151 cuts151 ih [x0] h := by kernel_rfl
theorem E302 (hf : ∀ vs h, fn 151 vs h = none) : EO fn I 302 G302 := fE fn I 151 hf cuts151 fit151 fun ih vs h => c1 (X := fun r => dF fn I 151 cuts151 ih r h) (e302 fn I ih · h) vs
theorem e275 (ih : II) (x0 x1 : V) (h : Hp) : B275 ih x0 x1 h = dL fn I 151 cuts151 26 [0, 4] ih [x0, x1] h := by kernel_rfl
theorem E275 : EO fn I 275 G275 := @entL Tryz.prog (orc fn I) _ 137 _ 151 26 [0, 4] 100000 cuts151 (by kernel_rfl) fit151 fun ih vs h => c2 (X := fun r => dL fn I 151 cuts151 26 [0, 4] ih r h) (e275 fn I ih · · h) vs
theorem e292 (ih : II) (x0 x1 : V) (h : Hp) : B292 ih x0 x1 h = dF fn I 146 cuts146 ih [x0, x1] h := by kernel_rfl
theorem E292 (hf : ∀ vs h, fn 146 vs h = none) : EO fn I 292 G292 := fE fn I 146 hf cuts146 fit146 fun ih vs h => c2 (X := fun r => dF fn I 146 cuts146 ih r h) (e292 fn I ih · · h) vs
theorem e296 (ih : II) (x0 x1 : V) (h : Hp) : B296 ih x0 x1 h = dF fn I 148 cuts148 ih [x0, x1] h := by kernel_rfl
theorem E296 (hf : ∀ vs h, fn 148 vs h = none) : EO fn I 296 G296 := fE fn I 148 hf cuts148 fit148 fun ih vs h => c2 (X := fun r => dF fn I 148 cuts148 ih r h) (e296 fn I ih · · h) vs
theorem e283 (ih : II) (x0 x1 : V) (h : Hp) : B283 ih x0 x1 h = dL fn I 148 cuts148 7 [0, 1] ih [x0, x1] h := by kernel_rfl
theorem E283 : EO fn I 283 G283 := @entL Tryz.prog (orc fn I) _ 141 _ 148 7 [0, 1] 100000 cuts148 (by kernel_rfl) fit148 fun ih vs h => c2 (X := fun r => dL fn I 148 cuts148 7 [0, 1] ih r h) (e283 fn I ih · · h) vs
theorem e294 (ih : II) (x0 x1 : V) (h : Hp) : B294 ih x0 x1 h = dF fn I 147 cuts147 ih [x0, x1] h := by kernel_rfl
theorem E294 (hf : ∀ vs h, fn 147 vs h = none) : EO fn I 294 G294 := fE fn I 147 hf cuts147 fit147 fun ih vs h => c2 (X := fun r => dF fn I 147 cuts147 ih r h) (e294 fn I ih · · h) vs
theorem e290 (ih : II) (x0 : V) (h : Hp) : B290 ih x0 h = dF fn I 145 cuts145 ih [x0] h := by kernel_rfl
theorem E290 (hf : ∀ vs h, fn 145 vs h = none) : EO fn I 290 G290 := fE fn I 145 hf cuts145 fit145 fun ih vs h => c1 (X := fun r => dF fn I 145 cuts145 ih r h) (e290 fn I ih · h) vs
theorem e285 (ih : II) (x0 x1 x2 : V) (h : Hp) : B285 ih x0 x1 x2 h = dL fn I 145 cuts145 53 [0, 3, 4] ih [x0, x1, x2] h := by kernel_rfl
theorem E285 : EO fn I 285 G285 := @entL Tryz.prog (orc fn I) _ 142 _ 145 53 [0, 3, 4] 100000 cuts145 (by kernel_rfl) fit145 fun ih vs h => c3 (X := fun r => dL fn I 145 cuts145 53 [0, 3, 4] ih r h) (e285 fn I ih · · · h) vs
theorem e287 (ih : II) (x0 x1 : V) (h : Hp) : B287 ih x0 x1 h = dL fn I 145 cuts145 215 [0, 15] ih [x0, x1] h := by kernel_rfl
theorem E287 : EO fn I 287 G287 := @entL Tryz.prog (orc fn I) _ 143 _ 145 215 [0, 15] 100000 cuts145 (by kernel_rfl) fit145 fun ih vs h => c2 (X := fun r => dL fn I 145 cuts145 215 [0, 15] ih r h) (e287 fn I ih · · h) vs
theorem e286 (ih : II) (x0 x1 x2 : V) (h : Hp) : B286 ih x0 x1 x2 h = dF fn I 143 cuts143 ih [x0, x1, x2] h := by kernel_rfl
theorem E286 (hf : ∀ vs h, fn 143 vs h = none) : EO fn I 286 G286 := fE fn I 143 hf cuts143 fit143 fun ih vs h => c3 (X := fun r => dF fn I 143 cuts143 ih r h) (e286 fn I ih · · · h) vs
theorem e284 (ih : II) (x0 x1 : V) (h : Hp) : B284 ih x0 x1 h = dF fn I 142 cuts142 ih [x0, x1] h := by kernel_rfl
theorem E284 (hf : ∀ vs h, fn 142 vs h = none) : EO fn I 284 G284 := fE fn I 142 hf cuts142 fit142 fun ih vs h => c2 (X := fun r => dF fn I 142 cuts142 ih r h) (e284 fn I ih · · h) vs
theorem e289 (ih : II) (x0 x1 x2 x3 : V) (h : Hp) : B289 ih x0 x1 x2 x3 h = dL fn I 142 cuts142 26 [0, 1, 7, 8] ih [x0, x1, x2, x3] h := by kernel_rfl
theorem E289 : EO fn I 289 G289 := @entL Tryz.prog (orc fn I) _ 144 _ 142 26 [0, 1, 7, 8] 100000 cuts142 (by kernel_rfl) fit142 fun ih vs h => c4 (X := fun r => dL fn I 142 cuts142 26 [0, 1, 7, 8] ih r h) (e289 fn I ih · · · · h) vs
theorem e330 (ih : II) (x0 x1 : V) (h : Hp) : B330 ih x0 x1 h = dF fn I 165 cuts165 ih [x0, x1] h := by kernel_rfl
theorem E330 (hf : ∀ vs h, fn 165 vs h = none) : EO fn I 330 G330 := fE fn I 165 hf cuts165 fit165 fun ih vs h => c2 (X := fun r => dF fn I 165 cuts165 ih r h) (e330 fn I ih · · h) vs
theorem e291 (ih : II) (x0 x1 : V) (h : Hp) : B291 ih x0 x1 h = dL fn I 165 cuts165 63 [0, 5] ih [x0, x1] h := by kernel_rfl
theorem E291 : EO fn I 291 G291 := @entL Tryz.prog (orc fn I) _ 145 _ 165 63 [0, 5] 100000 cuts165 (by kernel_rfl) fit165 fun ih vs h => c2 (X := fun r => dL fn I 165 cuts165 63 [0, 5] ih r h) (e291 fn I ih · · h) vs
theorem e326 (ih : II) (x0 x1 x2 x3 : V) (h : Hp) : B326 ih x0 x1 x2 x3 h = dF fn I 163 cuts163 ih [x0, x1, x2, x3] h := by kernel_rfl
theorem E326 (hf : ∀ vs h, fn 163 vs h = none) : EO fn I 326 G326 := fE fn I 163 hf cuts163 fit163 fun ih vs h => c4 (X := fun r => dF fn I 163 cuts163 ih r h) (e326 fn I ih · · · · h) vs
theorem e295 (ih : II) (x0 x1 x2 x3 : V) (h : Hp) : B295 ih x0 x1 x2 x3 h = dL fn I 163 cuts163 31 [0, 1, 3, 9] ih [x0, x1, x2, x3] h := by kernel_rfl
theorem E295 : EO fn I 295 G295 := @entL Tryz.prog (orc fn I) _ 147 _ 163 31 [0, 1, 3, 9] 100000 cuts163 (by kernel_rfl) fit163 fun ih vs h => c4 (X := fun r => dL fn I 163 cuts163 31 [0, 1, 3, 9] ih r h) (e295 fn I ih · · · · h) vs
theorem e324 (ih : II) (x0 x1 : V) (h : Hp) : B324 ih x0 x1 h = dF fn I 162 cuts162 ih [x0, x1] h := by kernel_rfl
theorem E324 (hf : ∀ vs h, fn 162 vs h = none) : EO fn I 324 G324 := fE fn I 162 hf cuts162 fit162 fun ih vs h => c2 (X := fun r => dF fn I 162 cuts162 ih r h) (e324 fn I ih · · h) vs
theorem e297 (ih : II) (x0 x1 x2 : V) (h : Hp) : B297 ih x0 x1 x2 h = dL fn I 162 cuts162 26 [0, 1, 5] ih [x0, x1, x2] h := by kernel_rfl
theorem E297 : EO fn I 297 G297 := @entL Tryz.prog (orc fn I) _ 148 _ 162 26 [0, 1, 5] 100000 cuts162 (by kernel_rfl) fit162 fun ih vs h => c3 (X := fun r => dL fn I 162 cuts162 26 [0, 1, 5] ih r h) (e297 fn I ih · · · h) vs
theorem e334 (ih : II) (x0 x1 : V) (h : Hp) : B334 ih x0 x1 h = dF fn I 167 cuts167 ih [x0, x1] h := by kernel_rfl
theorem E334 (hf : ∀ vs h, fn 167 vs h = none) : EO fn I 334 G334 := fE fn I 167 hf cuts167 fit167 fun ih vs h => c2 (X := fun r => dF fn I 167 cuts167 ih r h) (e334 fn I ih · · h) vs
theorem e299 (ih : II) (x0 x1 x2 x3 : V) (h : Hp) : B299 ih x0 x1 x2 x3 h = dL fn I 167 cuts167 26 [0, 3, 7, 8] ih [x0, x1, x2, x3] h := by kernel_rfl
theorem E299 : EO fn I 299 G299 := @entL Tryz.prog (orc fn I) _ 149 _ 167 26 [0, 3, 7, 8] 100000 cuts167 (by kernel_rfl) fit167 fun ih vs h => c4 (X := fun r => dL fn I 167 cuts167 26 [0, 3, 7, 8] ih r h) (e299 fn I ih · · · · h) vs
end
theorem tS {fn : FuncId → List V → Hp → Option (V × Hp)} {I : World → Prop} {t : Tr Sh} {k : Nat} {G : Sh} (h : @TabOk (orc fn I) Tryz.prog labs t) (e : @EntOk (orc fn I) Tryz.prog labs k G) : @TabOk (orc fn I) Tryz.prog labs (t.set k G) := @TabOk.set Tryz.prog (orc fn I) _ _ _ _ h e
end Go.FN

end
/- FlowNumbers: where it begins, in the small machine; the contracts of the library. -/
section
namespace Go.FN
open Go.Mid Go.Proofs Go.Proofs.YthbcbfgpfpogkaaGreat Go.RowKit

/-- what holds where all begins. -/
structure Inv (w : World) : Prop where
  c0 : ∃ m, w.cell? ⟨0, 0, none⟩ = some (.int .i64 m)
  size : 1 ≤ w.heap.size
theorem inv_of {w : World} (hs : w.ShapedOpen Tryz.prog) : Inv w := by
  refine ⟨cell_of_shapedOpen_int hs (t := 3) (zero := #[.int .i64 0]) (of_decide_eq_true (by kernel_rfl)) (by kernel_rfl) rfl (by kernel_rfl) (by kernel_rfl) (by kernel_rfl), ?_⟩
  have h6 : (((begin Tryz.prog (fun _ _ => 0) default).world.heap[0]?).bind Obj.row?).isSome = true := by kernel_rfl
  obtain ⟨p, hp⟩ := Option.isSome_iff_exists.1 h6
  obtain ⟨cs, hh, _⟩ := hs.1 0 p.1 p.2 (of_decide_eq_true (by kernel_rfl)) hp
  exact (Array.getElem?_eq_some_iff.1 hh).1
theorem Inv.later {w w' : World} (h : Inv w) (hB : Below w.heap.size w w') : Inv w' := by
  have hs := h.size
  refine ⟨?_, Nat.le_trans hs hB.size⟩
  obtain ⟨m, hm⟩ := h.c0
  refine ⟨m, ?_⟩
  unfold World.cell? at hm ⊢
  simp only at hm ⊢
  rw [hB.block 0 (by omega)]; exact hm

/-! the small machine's first heap -/
noncomputable def h0 : Hp := ⟨.nil, 1, big⟩
def rho0 : Rho := fun b => if b < 1 then some ⟨b, 0, 0⟩ else none
theorem begins [O : Orc] [OrcOk Tryz.prog] (hn : Orc.ng = 1) (hi : ∀ w, Orc.inv w → Inv w) {w : World} (h : Orc.inv w) : Begins Tryz.prog h0 w := by
  have H := hi w h
  refine ⟨rho0, R.start ?_ ?_ ?_ ?_ ?_ h⟩
  · intro b l hb
    unfold rho0 at hb
    split at hb <;> cases hb
    rename_i hlt
    exact ⟨hlt, .inl (Tr.get_nil _), .inr (Nat.lt_of_lt_of_le hlt H.size)⟩
  · intro b l o hb ho
    simp [h0, Tr.get_nil] at ho
  · intro b b' l l' hb hb' hne _ _
    unfold rho0 at hb hb'
    split at hb <;> cases hb
    split at hb' <;> cases hb'
    exact hne
  · intro b hb
    exact Tr.get_nil _
  · intro g hg
    rw [hn] at hg
    exact ⟨0, by unfold rho0; rw [if_pos hg]⟩

/-! functions that are answered at once -/
theorem contains_ok : ContainsC Tryz.prog 144 Inv := fun s sub w h hs => by
  obtain ⟨m, hm⟩ := h.c0
  exact Tryz.strings_Contains s sub m w hs hm
theorem repeat_ok : RepeatC Tryz.prog 19 := fun s c w h1 h2 h3 h4 => Tryz.strings_Repeat_main s c w h1 h2 h3 h4
noncomputable def fnA (f : FuncId) (vs : List V) (h : Hp) : Option (V × Hp) := bif Nat.beq f 144 then containsF vs h else bif Nat.beq f 19 then repeatF vs h else none

/-! a range over a function -/
theorem it149 : It.Ok Tryz.prog 149 ⟨66, 101, 3, 4, 1, false⟩ where
  code := ⟨Tryz.f149, _, _, _, _, _, _, _, _, _, _, #[3, 101], Tryz.func149, by kernel_rfl, by kernel_rfl, rfl, by unfold okOps; kernel_rfl, by unfold okOps; kernel_rfl, by unfold okOps; kernel_rfl, by unfold okOps; kernel_rfl⟩
  ts := by kernel_rfl
  ti := by kernel_rfl
  sz := by kernel_rfl
  ag := by kernel_rfl
theorem itr_ok (g : FuncId) (it : It) (h : itr0 g = some it) : It.Ok Tryz.prog g it := by
  unfold itr0 at h
  cases hg : Nat.beq g 149 <;> rw [hg] at h
  · cases h
  · have := Nat.eq_of_beq_eq_true hg
    subst this
    simp only [cond_true, Option.some.injEq] at h
    subst h
    exact it149
theorem opsA : @OpOk Tryz.prog (orc fnA Inv) := wops _ _ _ _
theorem fnA_cases {f : FuncId} {vs : List V} {h : Hp} {p : V × Hp} (e : fnA f vs h = some p) : (f = 144 ∧ containsF vs h = some p) ∨ (f = 19 ∧ repeatF vs h = some p) := by
  unfold fnA at e
  cases h1 : Nat.beq f 144 <;> rw [h1] at e
  · cases h2 : Nat.beq f 19 <;> rw [h2] at e
    · cases e
    · exact .inr ⟨Nat.eq_of_beq_eq_true h2, e⟩
  · exact .inl ⟨Nat.eq_of_beq_eq_true h1, e⟩
theorem okA : @OrcOk Tryz.prog (orc fnA Inv) :=
  letI : Orc := orc fnA Inv
  { pure := @OpOk.pure Tryz.prog (orc fnA Inv) opsA
    reads := @OpOk.reads Tryz.prog (orc fnA Inv) opsA
    make := @OpOk.make Tryz.prog (orc fnA Inv) opsA
    itr := itr_ok
    fr := fun f vs h v h' e => by
      rcases fnA_cases (show fnA f vs h = some (v, h') from e) with ⟨_, e⟩ | ⟨_, e⟩
      · rw [containsF_heap e]; exact Fr.refl _
      · rw [repeatF_heap e]; exact Fr.refl _
    sound := fun f vs h v h' e Z w0 w ρ xs H ha => by
      have hI : Inv w := Inv.later H.base H.below
      rcases fnA_cases (show fnA f vs h = some (v, h') from e) with ⟨rfl, e⟩ | ⟨rfl, e⟩
      · exact containsF_sim Tryz.func144 (by kernel_rfl) contains_ok hI e H ha
      · exact repeatF_sim Tryz.func19 (by kernel_rfl) repeat_ok e H ha }
end Go.FN

end
