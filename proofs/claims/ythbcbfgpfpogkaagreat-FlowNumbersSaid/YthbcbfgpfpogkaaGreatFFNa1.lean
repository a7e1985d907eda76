import Derived.Test.YthbcbfgpfpogkaaGreatFFNa
import Derived.KernelRfl
import Derived.Test.YthbcbfgpfpogkaaGreatRows
import Derived.Test.YthbcbfgpfpogkaaGreatChecked
import Derived.Test.YthbcbfgpfpogkaaGreatFTryzShelf
import Derived.Test.YthbcbfgpfpogkaaGreatFMidJJ
import Derived.FnData
import Derived.OpenShut
import Derived.Shelf.Vars
set_option linter.all false
set_option warn.classDefReducibility false
section
open Go Go.Mid Go.Proofs
set_option maxRecDepth 100000
set_option linter.unusedVariables false
namespace Go.FN
noncomputable def cuts158 : Cuts := [(31, 121, [0, 1, 5, 6]), (124, 122, [0, 1, 5, 6]), (3979, 123, [0, 1, 5, 8])]
theorem fit158 : cutsFit labs 158 cuts158 = true := by kernel_rfl
noncomputable def cuts157 : Cuts := [(31, 124, [0, 1, 9]), (244, 125, [0, 1, 9]), (3907, 126, [0, 1, 9])]
theorem fit157 : cutsFit labs 157 cuts157 = true := by kernel_rfl
noncomputable def cuts159 : Cuts := [(15, 127, [0])]
noncomputable def cuts156 : Cuts := [(31, 128, [0, 5]), (60, 129, [0, 1, 5])]
noncomputable def cuts154 : Cuts := [(31, 130, [10, 11]), (60, 131, [0, 1, 2, 3, 10, 11])]
noncomputable def cuts152 : Cuts := []
noncomputable def cuts155 : Cuts := [(250, 132, [0, 4, 5]), (1018, 133, [0, 4, 6, 7]), (4090, 134, [0, 4, 6, 8, 9]), (16378, 135, [6, 10, 11])]
noncomputable def cuts153 : Cuts := [(122, 136, [0, 3, 4, 5])]
noncomputable def cuts151 : Cuts := [(26, 137, [0, 4])]
theorem fit151 : cutsFit labs 151 cuts151 = true := by kernel_rfl
noncomputable def cuts150 : Cuts := [(31, 138, [0, 6]), (58, 139, [0, 1, 6, 7])]
noncomputable def cuts149 : Cuts := [(6, 140, [0, 1, 3])]
noncomputable def cuts146 : Cuts := []
theorem fit146 : cutsFit labs 146 cuts146 = true := by kernel_rfl
noncomputable def cuts148 : Cuts := [(7, 141, [0, 1])]
theorem fit148 : cutsFit labs 148 cuts148 = true := by kernel_rfl
noncomputable def cuts147 : Cuts := []
theorem fit147 : cutsFit labs 147 cuts147 = true := by kernel_rfl
noncomputable def cuts145 : Cuts := [(53, 142, [0, 3, 4]), (215, 143, [0, 15])]
theorem fit145 : cutsFit labs 145 cuts145 = true := by kernel_rfl
noncomputable def cuts143 : Cuts := []
theorem fit143 : cutsFit labs 143 cuts143 = true := by kernel_rfl
noncomputable def cuts144 : Cuts := []
noncomputable def cuts142 : Cuts := [(26, 144, [0, 1, 7, 8])]
theorem fit142 : cutsFit labs 142 cuts142 = true := by kernel_rfl
noncomputable def cuts165 : Cuts := [(63, 145, [0, 5])]
theorem fit165 : cutsFit labs 165 cuts165 = true := by kernel_rfl
noncomputable def cuts164 : Cuts := [(63, 146, [0, 1, 5, 6, 7])]
noncomputable def cuts163 : Cuts := [(31, 147, [0, 1, 3, 9])]
theorem fit163 : cutsFit labs 163 cuts163 = true := by kernel_rfl
noncomputable def cuts162 : Cuts := [(26, 148, [0, 1, 5])]
theorem fit162 : cutsFit labs 162 cuts162 = true := by kernel_rfl
noncomputable def cuts161 : Cuts := []
noncomputable def cuts167 : Cuts := [(26, 149, [0, 3, 7, 8])]
theorem fit167 : cutsFit labs 167 cuts167 = true := by kernel_rfl
noncomputable def cuts166 : Cuts := [(2044, 150, [0, 1, 5, 6, 7, 8, 9, 10]), (32709, 151, [0, 1, 5, 6, 7, 8, 9, 10])]
noncomputable def cuts171 : Cuts := [(250, 152, [0, 1, 5, 6, 7, 8, 9]), (1018, 153, [0, 1, 5, 6, 7, 8, 10])]
noncomputable def cuts170 : Cuts := []
noncomputable def cuts168 : Cuts := []
noncomputable def cuts173 : Cuts := [(58, 154, [0, 4, 5]), (250, 155, [4, 6, 7, 8]), (8009, 156, [4, 6, 7, 8])]
end Go.FN

end
section
open Go Go.Mid Go.Proofs
set_option maxRecDepth 100000
set_option linter.unusedVariables false
namespace Go.FN
section
theorem c0 {X : List V → VH} {B : VH} (e : B = X []) (vs : List V) : OLe ((nilE B) vs) (X vs) := nilE_le (X := fun r => X (r)) (e) vs
theorem c1 {X : List V → VH} {B : V → VH} (e : ∀ x0 : V, B x0 = X [x0]) (vs : List V) : OLe ((consE fun x0 => (nilE (B x0))) vs) (X vs) := consE_le (X := fun r => X (r)) (fun x0 r0 => nilE_le (X := fun r => X (x0 :: r)) (e x0) r0) vs
theorem c2 {X : List V → VH} {B : V → V → VH} (e : ∀ x0 x1 : V, B x0 x1 = X [x0, x1]) (vs : List V) : OLe ((consE fun x0 => (consE fun x1 => (nilE (B x0 x1)))) vs) (X vs) := consE_le (X := fun r => X (r)) (fun x0 r0 => consE_le (X := fun r => X (x0 :: r)) (fun x1 r1 => nilE_le (X := fun r => X (x0 :: x1 :: r)) (e x0 x1) r1) r0) vs
theorem c3 {X : List V → VH} {B : V → V → V → VH} (e : ∀ x0 x1 x2 : V, B x0 x1 x2 = X [x0, x1, x2]) (vs : List V) : OLe ((consE fun x0 => (consE fun x1 => (consE fun x2 => (nilE (B x0 x1 x2))))) vs) (X vs) := consE_le (X := fun r => X (r)) (fun x0 r0 => consE_le (X := fun r => X (x0 :: r)) (fun x1 r1 => consE_le (X := fun r => X (x0 :: x1 :: r)) (fun x2 r2 => nilE_le (X := fun r => X (x0 :: x1 :: x2 :: r)) (e x0 x1 x2) r2) r1) r0) vs
theorem c4 {X : List V → VH} {B : V → V → V → V → VH} (e : ∀ x0 x1 x2 x3 : V, B x0 x1 x2 x3 = X [x0, x1, x2, x3]) (vs : List V) : OLe ((consE fun x0 => (consE fun x1 => (consE fun x2 => (consE fun x3 => (nilE (B x0 x1 x2 x3)))))) vs) (X vs) := consE_le (X := fun r => X (r)) (fun x0 r0 => consE_le (X := fun r => X (x0 :: r)) (fun x1 r1 => consE_le (X := fun r => X (x0 :: x1 :: r)) (fun x2 r2 => consE_le (X := fun r => X (x0 :: x1 :: x2 :: r)) (fun x3 r3 => nilE_le (X := fun r => X (x0 :: x1 :: x2 :: x3 :: r)) (e x0 x1 x2 x3) r3) r2) r1) r0) vs
theorem c5 {X : List V → VH} {B : V → V → V → V → V → VH} (e : ∀ x0 x1 x2 x3 x4 : V, B x0 x1 x2 x3 x4 = X [x0, x1, x2, x3, x4]) (vs : List V) : OLe ((consE fun x0 => (consE fun x1 => (consE fun x2 => (consE fun x3 => (consE fun x4 => (nilE (B x0 x1 x2 x3 x4))))))) vs) (X vs) := consE_le (X := fun r => X (r)) (fun x0 r0 => consE_le (X := fun r => X (x0 :: r)) (fun x1 r1 => consE_le (X := fun r => X (x0 :: x1 :: r)) (fun x2 r2 => consE_le (X := fun r => X (x0 :: x1 :: x2 :: r)) (fun x3 r3 => consE_le (X := fun r => X (x0 :: x1 :: x2 :: x3 :: r)) (fun x4 r4 => nilE_le (X := fun r => X (x0 :: x1 :: x2 :: x3 :: x4 :: r)) (e x0 x1 x2 x3 x4) r4) r3) r2) r1) r0) vs
theorem c6 {X : List V → VH} {B : V → V → V → V → V → V → VH} (e : ∀ x0 x1 x2 x3 x4 x5 : V, B x0 x1 x2 x3 x4 x5 = X [x0, x1, x2, x3, x4, x5]) (vs : List V) : OLe ((consE fun x0 => (consE fun x1 => (consE fun x2 => (consE fun x3 => (consE fun x4 => (consE fun x5 => (nilE (B x0 x1 x2 x3 x4 x5)))))))) vs) (X vs) := consE_le (X := fun r => X (r)) (fun x0 r0 => consE_le (X := fun r => X (x0 :: r)) (fun x1 r1 => consE_le (X := fun r => X (x0 :: x1 :: r)) (fun x2 r2 => consE_le (X := fun r => X (x0 :: x1 :: x2 :: r)) (fun x3 r3 => consE_le (X := fun r => X (x0 :: x1 :: x2 :: x3 :: r)) (fun x4 r4 => consE_le (X := fun r => X (x0 :: x1 :: x2 :: x3 :: x4 :: r)) (fun x5 r5 => nilE_le (X := fun r => X (x0 :: x1 :: x2 :: x3 :: x4 :: x5 :: r)) (e x0 x1 x2 x3 x4 x5) r5) r4) r3) r2) r1) r0) vs
theorem c7 {X : List V → VH} {B : V → V → V → V → V → V → V → VH} (e : ∀ x0 x1 x2 x3 x4 x5 x6 : V, B x0 x1 x2 x3 x4 x5 x6 = X [x0, x1, x2, x3, x4, x5, x6]) (vs : List V) : OLe ((consE fun x0 => (consE fun x1 => (consE fun x2 => (consE fun x3 => (consE fun x4 => (consE fun x5 => (consE fun x6 => (nilE (B x0 x1 x2 x3 x4 x5 x6))))))))) vs) (X vs) := consE_le (X := fun r => X (r)) (fun x0 r0 => consE_le (X := fun r => X (x0 :: r)) (fun x1 r1 => consE_le (X := fun r => X (x0 :: x1 :: r)) (fun x2 r2 => consE_le (X := fun r => X (x0 :: x1 :: x2 :: r)) (fun x3 r3 => consE_le (X := fun r => X (x0 :: x1 :: x2 :: x3 :: r)) (fun x4 r4 => consE_le (X := fun r => X (x0 :: x1 :: x2 :: x3 :: x4 :: r)) (fun x5 r5 => consE_le (X := fun r => X (x0 :: x1 :: x2 :: x3 :: x4 :: x5 :: r)) (fun x6 r6 => nilE_le (X := fun r => X (x0 :: x1 :: x2 :: x3 :: x4 :: x5 :: x6 :: r)) (e x0 x1 x2 x3 x4 x5 x6) r6) r5) r4) r3) r2) r1) r0) vs
theorem c8 {X : List V → VH} {B : V → V → V → V → V → V → V → V → VH} (e : ∀ x0 x1 x2 x3 x4 x5 x6 x7 : V, B x0 x1 x2 x3 x4 x5 x6 x7 = X [x0, x1, x2, x3, x4, x5, x6, x7]) (vs : List V) : OLe ((consE fun x0 => (consE fun x1 => (consE fun x2 => (consE fun x3 => (consE fun x4 => (consE fun x5 => (consE fun x6 => (consE fun x7 => (nilE (B x0 x1 x2 x3 x4 x5 x6 x7)))))))))) vs) (X vs) := consE_le (X := fun r => X (r)) (fun x0 r0 => consE_le (X := fun r => X (x0 :: r)) (fun x1 r1 => consE_le (X := fun r => X (x0 :: x1 :: r)) (fun x2 r2 => consE_le (X := fun r => X (x0 :: x1 :: x2 :: r)) (fun x3 r3 => consE_le (X := fun r => X (x0 :: x1 :: x2 :: x3 :: r)) (fun x4 r4 => consE_le (X := fun r => X (x0 :: x1 :: x2 :: x3 :: x4 :: r)) (fun x5 r5 => consE_le (X := fun r => X (x0 :: x1 :: x2 :: x3 :: x4 :: x5 :: r)) (fun x6 r6 => consE_le (X := fun r => X (x0 :: x1 :: x2 :: x3 :: x4 :: x5 :: x6 :: r)) (fun x7 r7 => nilE_le (X := fun r => X (x0 :: x1 :: x2 :: x3 :: x4 :: x5 :: x6 :: x7 :: r)) (e x0 x1 x2 x3 x4 x5 x6 x7) r7) r6) r5) r4) r3) r2) r1) r0) vs
theorem c9 {X : List V → VH} {B : V → V → V → V → V → V → V → V → V → VH} (e : ∀ x0 x1 x2 x3 x4 x5 x6 x7 x8 : V, B x0 x1 x2 x3 x4 x5 x6 x7 x8 = X [x0, x1, x2, x3, x4, x5, x6, x7, x8]) (vs : List V) : OLe ((consE fun x0 => (consE fun x1 => (consE fun x2 => (consE fun x3 => (consE fun x4 => (consE fun x5 => (consE fun x6 => (consE fun x7 => (consE fun x8 => (nilE (B x0 x1 x2 x3 x4 x5 x6 x7 x8))))))))))) vs) (X vs) := consE_le (X := fun r => X (r)) (fun x0 r0 => consE_le (X := fun r => X (x0 :: r)) (fun x1 r1 => consE_le (X := fun r => X (x0 :: x1 :: r)) (fun x2 r2 => consE_le (X := fun r => X (x0 :: x1 :: x2 :: r)) (fun x3 r3 => consE_le (X := fun r => X (x0 :: x1 :: x2 :: x3 :: r)) (fun x4 r4 => consE_le (X := fun r => X (x0 :: x1 :: x2 :: x3 :: x4 :: r)) (fun x5 r5 => consE_le (X := fun r => X (x0 :: x1 :: x2 :: x3 :: x4 :: x5 :: r)) (fun x6 r6 => consE_le (X := fun r => X (x0 :: x1 :: x2 :: x3 :: x4 :: x5 :: x6 :: r)) (fun x7 r7 => consE_le (X := fun r => X (x0 :: x1 :: x2 :: x3 :: x4 :: x5 :: x6 :: x7 :: r)) (fun x8 r8 => nilE_le (X := fun r => X (x0 :: x1 :: x2 :: x3 :: x4 :: x5 :: x6 :: x7 :: x8 :: r)) (e x0 x1 x2 x3 x4 x5 x6 x7 x8) r8) r7) r6) r5) r4) r3) r2) r1) r0) vs
theorem c10 {X : List V → VH} {B : V → V → V → V → V → V → V → V → V → V → VH} (e : ∀ x0 x1 x2 x3 x4 x5 x6 x7 x8 x9 : V, B x0 x1 x2 x3 x4 x5 x6 x7 x8 x9 = X [x0, x1, x2, x3, x4, x5, x6, x7, x8, x9]) (vs : List V) : OLe ((consE fun x0 => (consE fun x1 => (consE fun x2 => (consE fun x3 => (consE fun x4 => (consE fun x5 => (consE fun x6 => (consE fun x7 => (consE fun x8 => (consE fun x9 => (nilE (B x0 x1 x2 x3 x4 x5 x6 x7 x8 x9)))))))))))) vs) (X vs) := consE_le (X := fun r => X (r)) (fun x0 r0 => consE_le (X := fun r => X (x0 :: r)) (fun x1 r1 => consE_le (X := fun r => X (x0 :: x1 :: r)) (fun x2 r2 => consE_le (X := fun r => X (x0 :: x1 :: x2 :: r)) (fun x3 r3 => consE_le (X := fun r => X (x0 :: x1 :: x2 :: x3 :: r)) (fun x4 r4 => consE_le (X := fun r => X (x0 :: x1 :: x2 :: x3 :: x4 :: r)) (fun x5 r5 => consE_le (X := fun r => X (x0 :: x1 :: x2 :: x3 :: x4 :: x5 :: r)) (fun x6 r6 => consE_le (X := fun r => X (x0 :: x1 :: x2 :: x3 :: x4 :: x5 :: x6 :: r)) (fun x7 r7 => consE_le (X := fun r => X (x0 :: x1 :: x2 :: x3 :: x4 :: x5 :: x6 :: x7 :: r)) (fun x8 r8 => consE_le (X := fun r => X (x0 :: x1 :: x2 :: x3 :: x4 :: x5 :: x6 :: x7 :: x8 :: r)) (fun x9 r9 => nilE_le (X := fun r => X (x0 :: x1 :: x2 :: x3 :: x4 :: x5 :: x6 :: x7 :: x8 :: x9 :: r)) (e x0 x1 x2 x3 x4 x5 x6 x7 x8 x9) r9) r8) r7) r6) r5) r4) r3) r2) r1) r0) vs
variable (fn : FuncId → List V → Hp → Option (V × Hp)) (I : World → Prop)
@[reducible] noncomputable def orc : Orc := ⟨1, fn, kdW Tryz.prog, opW Tryz.prog, I, itr0⟩
noncomputable def L : Nat → List V → Hp → VH := @lim Tryz.prog (orc fn I) labs
local notation "𝕀" => Nat → List V → Hp → VH
local notation:max "p!" x:max => Tryz.prog.funcs[x]?
set_option hygiene false in
local notation:max "F!" => @denF Tryz.prog (orc fn I)
set_option hygiene false in
local notation:max "L!" => @denL Tryz.prog (orc fn I)
set_option hygiene false in
local notation:max "E!" => @EntOk (orc fn I) Tryz.prog labs
set_option hygiene false in
local notation:max "f!" x:max => @entF Tryz.prog (orc fn I) _ x _
theorem e8 (ih : 𝕀) (h : Hp) : B8 ih  h = F! ih 100000 cuts4 [] h (p! 4) := by kernel_rfl
theorem E8 (hf : ∀ vs h, fn 4 vs h = none) : E! 8 G8 := f! 4 hf 100000 cuts4 fit4 fun ih vs h => c0 (X := fun r => F! ih 100000 cuts4 r h (p! 4)) (e8 fn I ih h) vs
theorem e10 (ih : 𝕀) (h : Hp) : B10 ih  h = F! ih 100000 cuts5 [] h (p! 5) := by kernel_rfl
theorem E10 (hf : ∀ vs h, fn 5 vs h = none) : E! 10 G10 := f! 5 hf 100000 cuts5 fit5 fun ih vs h => c0 (X := fun r => F! ih 100000 cuts5 r h (p! 5)) (e10 fn I ih h) vs
theorem e22 (ih : 𝕀) (h : Hp) : B22 ih  h = F! ih 100000 cuts11 [] h (p! 11) := by kernel_rfl
theorem E22 (hf : ∀ vs h, fn 11 vs h = none) : E! 22 G22 := f! 11 hf 100000 cuts11 fit11 fun ih vs h => c0 (X := fun r => F! ih 100000 cuts11 r h (p! 11)) (e22 fn I ih h) vs
theorem e20 (ih : 𝕀) (h : Hp) : B20 ih  h = F! ih 100000 cuts10 [] h (p! 10) := by kernel_rfl
theorem E20 (hf : ∀ vs h, fn 10 vs h = none) : E! 20 G20 := f! 10 hf 100000 cuts10 fit10 fun ih vs h => c0 (X := fun r => F! ih 100000 cuts10 r h (p! 10)) (e20 fn I ih h) vs
theorem e16 (ih : 𝕀) (x0 x1 x2 x3 : V) (h : Hp) : B16 ih x0 x1 x2 x3 h = F! ih 100000 cuts8 [x0, x1, x2, x3] h (p! 8) := by kernel_rfl
theorem E16 (hf : ∀ vs h, fn 8 vs h = none) : E! 16 G16 := f! 8 hf 100000 cuts8 fit8 fun ih vs h => c4 (X := fun r => F! ih 100000 cuts8 r h (p! 8)) (e16 fn I ih · · · · h) vs
theorem e1 (ih : 𝕀) (x0 x1 x2 x3 x4 : V) (h : Hp) : B1 ih x0 x1 x2 x3 x4 h = L! ih 100000 cuts8 122 [1, 2, 3, 9, 11] [x0, x1, x2, x3, x4] h (p! 8) := by kernel_rfl
theorem E1 : E! 1 G1 := @entL Tryz.prog (orc fn I) _ 0 _ 8 122 [1, 2, 3, 9, 11] 100000 cuts8 (by kernel_rfl) fit8 fun ih vs h => c5 (X := fun r => L! ih 100000 cuts8 122 [1, 2, 3, 9, 11] r h (p! 8)) (e1 fn I ih · · · · · h) vs
theorem e18 (ih : 𝕀) (x0 x1 x2 : V) (h : Hp) : B18 ih x0 x1 x2 h = F! ih 100000 cuts9 [x0, x1, x2] h (p! 9) := by kernel_rfl
theorem E18 (hf : ∀ vs h, fn 9 vs h = none) : E! 18 G18 := f! 9 hf 100000 cuts9 fit9 fun ih vs h => c3 (X := fun r => F! ih 100000 cuts9 r h (p! 9)) (e18 fn I ih · · · h) vs
theorem e26 (ih : 𝕀) (x0 x1 : V) (h : Hp) : B26 ih x0 x1 h = F! ih 100000 cuts13 [x0, x1] h (p! 13) := by kernel_rfl
theorem E26 (hf : ∀ vs h, fn 13 vs h = none) : E! 26 G26 := f! 13 hf 100000 cuts13 fit13 fun ih vs h => c2 (X := fun r => F! ih 100000 cuts13 r h (p! 13)) (e26 fn I ih · · h) vs
theorem e3 (ih : 𝕀) (x0 x1 x2 : V) (h : Hp) : B3 ih x0 x1 x2 h = L! ih 100000 cuts13 58 [2, 3, 5] [x0, x1, x2] h (p! 13) := by kernel_rfl
theorem E3 : E! 3 G3 := @entL Tryz.prog (orc fn I) _ 1 _ 13 58 [2, 3, 5] 100000 cuts13 (by kernel_rfl) fit13 fun ih vs h => c3 (X := fun r => L! ih 100000 cuts13 58 [2, 3, 5] r h (p! 13)) (e3 fn I ih · · · h) vs
theorem e24 (ih : 𝕀) (x0 : V) (h : Hp) : B24 ih x0 h = F! ih 100000 cuts12 [x0] h (p! 12) := by kernel_rfl
theorem E24 (hf : ∀ vs h, fn 12 vs h = none) : E! 24 G24 := f! 12 hf 100000 cuts12 fit12 fun ih vs h => c1 (X := fun r => F! ih 100000 cuts12 r h (p! 12)) (e24 fn I ih · h) vs
theorem e36 (ih : 𝕀) (x0 : V) (h : Hp) : B36 ih x0 h = F! ih 100000 cuts18 [x0] h (p! 18) := by kernel_rfl
theorem E36 (hf : ∀ vs h, fn 18 vs h = none) : E! 36 G36 := f! 18 hf 100000 cuts18 fit18 fun ih vs h => c1 (X := fun r => F! ih 100000 cuts18 r h (p! 18)) (e36 fn I ih · h) vs
theorem e40 (ih : 𝕀) (x0 : V) (h : Hp) : B40 ih x0 h = F! ih 100000 cuts20 [x0] h (p! 20) := by kernel_rfl
theorem E40 (hf : ∀ vs h, fn 20 vs h = none) : E! 40 G40 := f! 20 hf 100000 cuts20 fit20 fun ih vs h => c1 (X := fun r => F! ih 100000 cuts20 r h (p! 20)) (e40 fn I ih · h) vs
theorem e17 (ih : 𝕀) (x0 x1 x2 x3 : V) (h : Hp) : B17 ih x0 x1 x2 x3 h = L! ih 100000 cuts20 58 [0, 3, 4, 5] [x0, x1, x2, x3] h (p! 20) := by kernel_rfl
theorem E17 : E! 17 G17 := @entL Tryz.prog (orc fn I) _ 8 _ 20 58 [0, 3, 4, 5] 100000 cuts20 (by kernel_rfl) fit20 fun ih vs h => c4 (X := fun r => L! ih 100000 cuts20 58 [0, 3, 4, 5] r h (p! 20)) (e17 fn I ih · · · · h) vs
theorem e46 (ih : 𝕀) (x0 x1 : V) (h : Hp) : B46 ih x0 x1 h = F! ih 100000 cuts23 [x0, x1] h (p! 23) := by kernel_rfl
theorem E46 (hf : ∀ vs h, fn 23 vs h = none) : E! 46 G46 := f! 23 hf 100000 cuts23 fit23 fun ih vs h => c2 (X := fun r => F! ih 100000 cuts23 r h (p! 23)) (e46 fn I ih · · h) vs
theorem e19 (ih : 𝕀) (x0 x1 x2 : V) (h : Hp) : B19 ih x0 x1 x2 h = L! ih 100000 cuts23 58 [2, 3, 5] [x0, x1, x2] h (p! 23) := by kernel_rfl
theorem E19 : E! 19 G19 := @entL Tryz.prog (orc fn I) _ 9 _ 23 58 [2, 3, 5] 100000 cuts23 (by kernel_rfl) fit23 fun ih vs h => c3 (X := fun r => L! ih 100000 cuts23 58 [2, 3, 5] r h (p! 23)) (e19 fn I ih · · · h) vs
theorem e21 (ih : 𝕀) (x0 x1 x2 : V) (h : Hp) : B21 ih x0 x1 x2 h = L! ih 100000 cuts23 122 [2, 3, 6] [x0, x1, x2] h (p! 23) := by kernel_rfl
theorem E21 : E! 21 G21 := @entL Tryz.prog (orc fn I) _ 10 _ 23 122 [2, 3, 6] 100000 cuts23 (by kernel_rfl) fit23 fun ih vs h => c3 (X := fun r => L! ih 100000 cuts23 122 [2, 3, 6] r h (p! 23)) (e21 fn I ih · · · h) vs
theorem e23 (ih : 𝕀) (x0 x1 x2 : V) (h : Hp) : B23 ih x0 x1 x2 h = L! ih 100000 cuts23 250 [2, 3, 7] [x0, x1, x2] h (p! 23) := by kernel_rfl
theorem E23 : E! 23 G23 := @entL Tryz.prog (orc fn I) _ 11 _ 23 250 [2, 3, 7] 100000 cuts23 (by kernel_rfl) fit23 fun ih vs h => c3 (X := fun r => L! ih 100000 cuts23 250 [2, 3, 7] r h (p! 23)) (e23 fn I ih · · · h) vs
theorem e25 (ih : 𝕀) (x0 x1 x2 : V) (h : Hp) : B25 ih x0 x1 x2 h = L! ih 100000 cuts23 506 [2, 3, 8] [x0, x1, x2] h (p! 23) := by kernel_rfl
theorem E25 : E! 25 G25 := @entL Tryz.prog (orc fn I) _ 12 _ 23 506 [2, 3, 8] 100000 cuts23 (by kernel_rfl) fit23 fun ih vs h => c3 (X := fun r => L! ih 100000 cuts23 506 [2, 3, 8] r h (p! 23)) (e25 fn I ih · · · h) vs
theorem e44 (ih : 𝕀) (x0 x1 : V) (h : Hp) : B44 ih x0 x1 h = F! ih 100000 cuts22 [x0, x1] h (p! 22) := by kernel_rfl
theorem E44 (hf : ∀ vs h, fn 22 vs h = none) : E! 44 G44 := f! 22 hf 100000 cuts22 fit22 fun ih vs h => c2 (X := fun r => F! ih 100000 cuts22 r h (p! 22)) (e44 fn I ih · · h) vs
theorem e27 (ih : 𝕀) (x0 x1 x2 : V) (h : Hp) : B27 ih x0 x1 x2 h = L! ih 100000 cuts22 58 [0, 1, 5] [x0, x1, x2] h (p! 22) := by kernel_rfl
theorem E27 : E! 27 G27 := @entL Tryz.prog (orc fn I) _ 13 _ 22 58 [0, 1, 5] 100000 cuts22 (by kernel_rfl) fit22 fun ih vs h => c3 (X := fun r => L! ih 100000 cuts22 58 [0, 1, 5] r h (p! 22)) (e27 fn I ih · · · h) vs
theorem e12 (ih : 𝕀) (x0 : V) (h : Hp) : B12 ih x0 h = F! ih 100000 cuts6 [x0] h (p! 6) := by kernel_rfl
theorem E12 (hf : ∀ vs h, fn 6 vs h = none) : E! 12 G12 := f! 6 hf 100000 cuts6 fit6 fun ih vs h => c1 (X := fun r => F! ih 100000 cuts6 r h (p! 6)) (e12 fn I ih · h) vs
theorem e29 (ih : 𝕀) (x0 x1 x2 : V) (h : Hp) : B29 ih x0 x1 x2 h = L! ih 100000 cuts6 63 [2, 3, 4] [x0, x1, x2] h (p! 6) := by kernel_rfl
theorem E29 : E! 29 G29 := @entL Tryz.prog (orc fn I) _ 14 _ 6 63 [2, 3, 4] 100000 cuts6 (by kernel_rfl) fit6 fun ih vs h => c3 (X := fun r => L! ih 100000 cuts6 63 [2, 3, 4] r h (p! 6)) (e29 fn I ih · · · h) vs
theorem e31 (ih : 𝕀) (x0 x1 x2 x3 x4 x5 : V) (h : Hp) : B31 ih x0 x1 x2 x3 x4 x5 h = L! ih 100000 cuts6 1002 [2, 3, 4, 35, 36, 37] [x0, x1, x2, x3, x4, x5] h (p! 6) := by kernel_rfl
theorem E31 : E! 31 G31 := @entL Tryz.prog (orc fn I) _ 15 _ 6 1002 [2, 3, 4, 35, 36, 37] 100000 cuts6 (by kernel_rfl) fit6 fun ih vs h => c6 (X := fun r => L! ih 100000 cuts6 1002 [2, 3, 4, 35, 36, 37] r h (p! 6)) (e31 fn I ih · · · · · · h) vs
theorem e33 (ih : 𝕀) (x0 x1 x2 x3 x4 x5 : V) (h : Hp) : B33 ih x0 x1 x2 x3 x4 x5 h = L! ih 100000 cuts6 1018 [2, 3, 4, 59, 60, 61] [x0, x1, x2, x3, x4, x5] h (p! 6) := by kernel_rfl
theorem E33 : E! 33 G33 := @entL Tryz.prog (orc fn I) _ 16 _ 6 1018 [2, 3, 4, 59, 60, 61] 100000 cuts6 (by kernel_rfl) fit6 fun ih vs h => c6 (X := fun r => L! ih 100000 cuts6 1018 [2, 3, 4, 59, 60, 61] r h (p! 6)) (e33 fn I ih · · · · · · h) vs
theorem e42 (ih : 𝕀) (x0 : V) (h : Hp) : B42 ih x0 h = F! ih 100000 cuts21 [x0] h (p! 21) := by kernel_rfl
theorem E42 (hf : ∀ vs h, fn 21 vs h = none) : E! 42 G42 := f! 21 hf 100000 cuts21 fit21 fun ih vs h => c1 (X := fun r => F! ih 100000 cuts21 r h (p! 21)) (e42 fn I ih · h) vs
theorem e35 (ih : 𝕀) (x0 x1 x2 x3 : V) (h : Hp) : B35 ih x0 x1 x2 x3 h = L! ih 100000 cuts21 127 [2, 3, 6, 7] [x0, x1, x2, x3] h (p! 21) := by kernel_rfl
theorem E35 : E! 35 G35 := @entL Tryz.prog (orc fn I) _ 17 _ 21 127 [2, 3, 6, 7] 100000 cuts21 (by kernel_rfl) fit21 fun ih vs h => c4 (X := fun r => L! ih 100000 cuts21 127 [2, 3, 6, 7] r h (p! 21)) (e35 fn I ih · · · · h) vs
theorem e86 (ih : 𝕀) (x0 x1 : V) (h : Hp) : B86 ih x0 x1 h = F! ih 100000 cuts43 [x0, x1] h (p! 43) := by kernel_rfl
theorem E86 (hf : ∀ vs h, fn 43 vs h = none) : E! 86 G86 := f! 43 hf 100000 cuts43 fit43 fun ih vs h => c2 (X := fun r => F! ih 100000 cuts43 r h (p! 43)) (e86 fn I ih · · h) vs
theorem e39 (ih : 𝕀) (x0 x1 x2 : V) (h : Hp) : B39 ih x0 x1 x2 h = L! ih 100000 cuts43 58 [0, 1, 5] [x0, x1, x2] h (p! 43) := by kernel_rfl
theorem E39 : E! 39 G39 := @entL Tryz.prog (orc fn I) _ 19 _ 43 58 [0, 1, 5] 100000 cuts43 (by kernel_rfl) fit43 fun ih vs h => c3 (X := fun r => L! ih 100000 cuts43 58 [0, 1, 5] r h (p! 43)) (e39 fn I ih · · · h) vs
theorem e84 (ih : 𝕀) (x0 x1 : V) (h : Hp) : B84 ih x0 x1 h = F! ih 100000 cuts42 [x0, x1] h (p! 42) := by kernel_rfl
theorem E84 (hf : ∀ vs h, fn 42 vs h = none) : E! 84 G84 := f! 42 hf 100000 cuts42 fit42 fun ih vs h => c2 (X := fun r => F! ih 100000 cuts42 r h (p! 42)) (e84 fn I ih · · h) vs
theorem e32 (ih : 𝕀) (x0 x1 : V) (h : Hp) : B32 ih x0 x1 h = F! ih 100000 cuts16 [x0, x1] h (p! 16) := by kernel_rfl
theorem E32 (hf : ∀ vs h, fn 16 vs h = none) : E! 32 G32 := f! 16 hf 100000 cuts16 fit16 fun ih vs h => c2 (X := fun r => F! ih 100000 cuts16 r h (p! 16)) (e32 fn I ih · · h) vs
theorem e41 (ih : 𝕀) (x0 x1 x2 x3 : V) (h : Hp) : B41 ih x0 x1 x2 x3 h = L! ih 100000 cuts16 58 [0, 3, 4, 5] [x0, x1, x2, x3] h (p! 16) := by kernel_rfl
theorem E41 : E! 41 G41 := @entL Tryz.prog (orc fn I) _ 20 _ 16 58 [0, 3, 4, 5] 100000 cuts16 (by kernel_rfl) fit16 fun ih vs h => c4 (X := fun r => L! ih 100000 cuts16 58 [0, 3, 4, 5] r h (p! 16)) (e41 fn I ih · · · · h) vs
theorem e43 (ih : 𝕀) (x0 x1 x2 x3 x4 x5 x6 : V) (h : Hp) : B43 ih x0 x1 x2 x3 x4 x5 x6 h = L! ih 100000 cuts16 3730 [0, 3, 4, 5, 26, 27, 28] [x0, x1, x2, x3, x4, x5, x6] h (p! 16) := by kernel_rfl
theorem E43 : E! 43 G43 := @entL Tryz.prog (orc fn I) _ 21 _ 16 3730 [0, 3, 4, 5, 26, 27, 28] 100000 cuts16 (by kernel_rfl) fit16 fun ih vs h => c7 (X := fun r => L! ih 100000 cuts16 3730 [0, 3, 4, 5, 26, 27, 28] r h (p! 16)) (e43 fn I ih · · · · · · · h) vs
theorem e45 (ih : 𝕀) (x0 x1 x2 x3 x4 : V) (h : Hp) : B45 ih x0 x1 x2 x3 x4 h = L! ih 100000 cuts16 1909967 [0, 3, 4, 7, 8] [x0, x1, x2, x3, x4] h (p! 16) := by kernel_rfl
theorem E45 : E! 45 G45 := @entL Tryz.prog (orc fn I) _ 22 _ 16 1909967 [0, 3, 4, 7, 8] 100000 cuts16 (by kernel_rfl) fit16 fun ih vs h => c5 (X := fun r => L! ih 100000 cuts16 1909967 [0, 3, 4, 7, 8] r h (p! 16)) (e45 fn I ih · · · · · h) vs
theorem e47 (ih : 𝕀) (x0 x1 x2 : V) (h : Hp) : B47 ih x0 x1 x2 h = L! ih 100000 cuts16 3819935 [3, 4, 7] [x0, x1, x2] h (p! 16) := by kernel_rfl
theorem E47 : E! 47 G47 := @entL Tryz.prog (orc fn I) _ 23 _ 16 3819935 [3, 4, 7] 100000 cuts16 (by kernel_rfl) fit16 fun ih vs h => c3 (X := fun r => L! ih 100000 cuts16 3819935 [3, 4, 7] r h (p! 16)) (e47 fn I ih · · · h) vs
theorem e49 (ih : 𝕀) (h : Hp) : B49 ih  h = L! ih 100000 cuts16 15279743 [] [] h (p! 16) := by kernel_rfl
theorem E49 : E! 49 G49 := @entL Tryz.prog (orc fn I) _ 24 _ 16 15279743 [] 100000 cuts16 (by kernel_rfl) fit16 fun ih vs h => c0 (X := fun r => L! ih 100000 cuts16 15279743 [] r h (p! 16)) (e49 fn I ih h) vs
theorem e30 (ih : 𝕀) (x0 x1 : V) (h : Hp) : B30 ih x0 x1 h = F! ih 100000 cuts15 [x0, x1] h (p! 15) := by kernel_rfl
theorem E30 (hf : ∀ vs h, fn 15 vs h = none) : E! 30 G30 := f! 15 hf 100000 cuts15 fit15 fun ih vs h => c2 (X := fun r => F! ih 100000 cuts15 r h (p! 15)) (e30 fn I ih · · h) vs
theorem e51 (ih : 𝕀) (x0 x1 x2 x3 x4 x5 x6 : V) (h : Hp) : B51 ih x0 x1 x2 x3 x4 x5 x6 h = L! ih 100000 cuts15 1018 [0, 3, 5, 6, 58, 59, 60] [x0, x1, x2, x3, x4, x5, x6] h (p! 15) := by kernel_rfl
theorem E51 : E! 51 G51 := @entL Tryz.prog (orc fn I) _ 25 _ 15 1018 [0, 3, 5, 6, 58, 59, 60] 100000 cuts15 (by kernel_rfl) fit15 fun ih vs h => c7 (X := fun r => L! ih 100000 cuts15 1018 [0, 3, 5, 6, 58, 59, 60] r h (p! 15)) (e51 fn I ih · · · · · · · h) vs
theorem e53 (ih : 𝕀) (x0 x1 x2 : V) (h : Hp) : B53 ih x0 x1 x2 h = L! ih 100000 cuts15 1023 [0, 5, 6] [x0, x1, x2] h (p! 15) := by kernel_rfl
theorem E53 : E! 53 G53 := @entL Tryz.prog (orc fn I) _ 26 _ 15 1023 [0, 5, 6] 100000 cuts15 (by kernel_rfl) fit15 fun ih vs h => c3 (X := fun r => L! ih 100000 cuts15 1023 [0, 5, 6] r h (p! 15)) (e53 fn I ih · · · h) vs
theorem e55 (ih : 𝕀) (x0 x1 x2 x3 x4 : V) (h : Hp) : B55 ih x0 x1 x2 x3 x4 h = L! ih 100000 cuts15 8186 [0, 5, 6, 92, 93] [x0, x1, x2, x3, x4] h (p! 15) := by kernel_rfl
theorem E55 : E! 55 G55 := @entL Tryz.prog (orc fn I) _ 27 _ 15 8186 [0, 5, 6, 92, 93] 100000 cuts15 (by kernel_rfl) fit15 fun ih vs h => c5 (X := fun r => L! ih 100000 cuts15 8186 [0, 5, 6, 92, 93] r h (p! 15)) (e55 fn I ih · · · · · h) vs
theorem e57 (ih : 𝕀) (x0 x1 x2 x3 x4 x5 x6 x7 : V) (h : Hp) : B57 ih x0 x1 x2 x3 x4 x5 x6 x7 h = L! ih 100000 cuts15 4191438 [0, 5, 6, 92, 93, 109, 110, 111] [x0, x1, x2, x3, x4, x5, x6, x7] h (p! 15) := by kernel_rfl
theorem E57 : E! 57 G57 := @entL Tryz.prog (orc fn I) _ 28 _ 15 4191438 [0, 5, 6, 92, 93, 109, 110, 111] 100000 cuts15 (by kernel_rfl) fit15 fun ih vs h => c8 (X := fun r => L! ih 100000 cuts15 4191438 [0, 5, 6, 92, 93, 109, 110, 111] r h (p! 15)) (e57 fn I ih · · · · · · · · h) vs
theorem e59 (ih : 𝕀) (x0 x1 x2 x3 x4 x5 x6 x7 : V) (h : Hp) : B59 ih x0 x1 x2 x3 x4 x5 x6 x7 h = L! ih 100000 cuts15 67063015 [0, 5, 6, 92, 93, 109, 110, 111] [x0, x1, x2, x3, x4, x5, x6, x7] h (p! 15) := by kernel_rfl
theorem E59 : E! 59 G59 := @entL Tryz.prog (orc fn I) _ 29 _ 15 67063015 [0, 5, 6, 92, 93, 109, 110, 111] 100000 cuts15 (by kernel_rfl) fit15 fun ih vs h => c8 (X := fun r => L! ih 100000 cuts15 67063015 [0, 5, 6, 92, 93, 109, 110, 111] r h (p! 15)) (e59 fn I ih · · · · · · · · h) vs
theorem e28 (ih : 𝕀) (x0 : V) (h : Hp) : B28 ih x0 h = F! ih 100000 cuts14 [x0] h (p! 14) := by kernel_rfl
theorem E28 (hf : ∀ vs h, fn 14 vs h = none) : E! 28 G28 := f! 14 hf 100000 cuts14 fit14 fun ih vs h => c1 (X := fun r => F! ih 100000 cuts14 r h (p! 14)) (e28 fn I ih · h) vs
theorem e61 (ih : 𝕀) (x0 x1 x2 x3 : V) (h : Hp) : B61 ih x0 x1 x2 x3 h = L! ih 100000 cuts14 2042 [1, 4, 5, 6] [x0, x1, x2, x3] h (p! 14) := by kernel_rfl
theorem E61 : E! 61 G61 := @entL Tryz.prog (orc fn I) _ 30 _ 14 2042 [1, 4, 5, 6] 100000 cuts14 (by kernel_rfl) fit14 fun ih vs h => c4 (X := fun r => L! ih 100000 cuts14 2042 [1, 4, 5, 6] r h (p! 14)) (e61 fn I ih · · · · h) vs
theorem e63 (ih : 𝕀) (x0 x1 x2 x3 x4 x5 x6 x7 x8 : V) (h : Hp) : B63 ih x0 x1 x2 x3 x4 x5 x6 x7 x8 h = L! ih 100000 cuts14 1045690 [1, 4, 5, 6, 7, 8, 89, 90, 91] [x0, x1, x2, x3, x4, x5, x6, x7, x8] h (p! 14) := by kernel_rfl
theorem E63 : E! 63 G63 := @entL Tryz.prog (orc fn I) _ 31 _ 14 1045690 [1, 4, 5, 6, 7, 8, 89, 90, 91] 100000 cuts14 (by kernel_rfl) fit14 fun ih vs h => c9 (X := fun r => L! ih 100000 cuts14 1045690 [1, 4, 5, 6, 7, 8, 89, 90, 91] r h (p! 14)) (e63 fn I ih · · · · · · · · · h) vs
theorem e82 (ih : 𝕀) (x0 : V) (h : Hp) : B82 ih x0 h = F! ih 100000 cuts41 [x0] h (p! 41) := by kernel_rfl
theorem E82 (hf : ∀ vs h, fn 41 vs h = none) : E! 82 G82 := f! 41 hf 100000 cuts41 fit41 fun ih vs h => c1 (X := fun r => F! ih 100000 cuts41 r h (p! 41)) (e82 fn I ih · h) vs
theorem F82 (hf : ∀ vs h, fn 41 vs h = none) {x0 : V} {h : Hp} {p : V × Hp} (hp : B82 (L fn I) x0 h = some p) : L fn I 82 [x0] h = some p := @lim_ent Tryz.prog (orc fn I) labs 82 G82 (E82 fn I hf) [x0] h p (show G82 (L fn I) [x0] h = some p from hp)
theorem e80 (ih : 𝕀) (x0 x1 : V) (h : Hp) : B80 ih x0 x1 h = F! ih 100000 cuts40 [x0, x1] h (p! 40) := by kernel_rfl
theorem E80 (hf : ∀ vs h, fn 40 vs h = none) : E! 80 G80 := f! 40 hf 100000 cuts40 fit40 fun ih vs h => c2 (X := fun r => F! ih 100000 cuts40 r h (p! 40)) (e80 fn I ih · · h) vs
theorem e76 (ih : 𝕀) (x0 x1 : V) (h : Hp) : B76 ih x0 x1 h = F! ih 100000 cuts38 [x0, x1] h (p! 38) := by kernel_rfl
theorem E76 (hf : ∀ vs h, fn 38 vs h = none) : E! 76 G76 := f! 38 hf 100000 cuts38 fit38 fun ih vs h => c2 (X := fun r => F! ih 100000 cuts38 r h (p! 38)) (e76 fn I ih · · h) vs
theorem e74 (ih : 𝕀) (x0 x1 : V) (h : Hp) : B74 ih x0 x1 h = F! ih 100000 cuts37 [x0, x1] h (p! 37) := by kernel_rfl
theorem E74 (hf : ∀ vs h, fn 37 vs h = none) : E! 74 G74 := f! 37 hf 100000 cuts37 fit37 fun ih vs h => c2 (X := fun r => F! ih 100000 cuts37 r h (p! 37)) (e74 fn I ih · · h) vs
theorem e65 (ih : 𝕀) (x0 x1 : V) (h : Hp) : B65 ih x0 x1 h = L! ih 100000 cuts37 31 [0, 5] [x0, x1] h (p! 37) := by kernel_rfl
theorem E65 : E! 65 G65 := @entL Tryz.prog (orc fn I) _ 32 _ 37 31 [0, 5] 100000 cuts37 (by kernel_rfl) fit37 fun ih vs h => c2 (X := fun r => L! ih 100000 cuts37 31 [0, 5] r h (p! 37)) (e65 fn I ih · · h) vs
theorem e67 (ih : 𝕀) (x0 x1 x2 : V) (h : Hp) : B67 ih x0 x1 x2 h = L! ih 100000 cuts37 60 [0, 1, 5] [x0, x1, x2] h (p! 37) := by kernel_rfl
theorem E67 : E! 67 G67 := @entL Tryz.prog (orc fn I) _ 33 _ 37 60 [0, 1, 5] 100000 cuts37 (by kernel_rfl) fit37 fun ih vs h => c3 (X := fun r => L! ih 100000 cuts37 60 [0, 1, 5] r h (p! 37)) (e67 fn I ih · · · h) vs
theorem e72 (ih : 𝕀) (x0 : V) (h : Hp) : B72 ih x0 h = F! ih 100000 cuts36 [x0] h (p! 36) := by kernel_rfl
theorem E72 (hf : ∀ vs h, fn 36 vs h = none) : E! 72 G72 := f! 36 hf 100000 cuts36 fit36 fun ih vs h => c1 (X := fun r => F! ih 100000 cuts36 r h (p! 36)) (e72 fn I ih · h) vs
theorem e69 (ih : 𝕀) (x0 x1 x2 x3 x4 : V) (h : Hp) : B69 ih x0 x1 x2 x3 x4 h = L! ih 100000 cuts36 126 [0, 3, 4, 5, 6] [x0, x1, x2, x3, x4] h (p! 36) := by kernel_rfl
theorem E69 : E! 69 G69 := @entL Tryz.prog (orc fn I) _ 34 _ 36 126 [0, 3, 4, 5, 6] 100000 cuts36 (by kernel_rfl) fit36 fun ih vs h => c5 (X := fun r => L! ih 100000 cuts36 126 [0, 3, 4, 5, 6] r h (p! 36)) (e69 fn I ih · · · · · h) vs
theorem e71 (ih : 𝕀) (x0 x1 x2 x3 x4 x5 : V) (h : Hp) : B71 ih x0 x1 x2 x3 x4 x5 h = L! ih 100000 cuts36 4036 [0, 3, 4, 5, 6, 7] [x0, x1, x2, x3, x4, x5] h (p! 36) := by kernel_rfl
theorem E71 : E! 71 G71 := @entL Tryz.prog (orc fn I) _ 35 _ 36 4036 [0, 3, 4, 5, 6, 7] 100000 cuts36 (by kernel_rfl) fit36 fun ih vs h => c6 (X := fun r => L! ih 100000 cuts36 4036 [0, 3, 4, 5, 6, 7] r h (p! 36)) (e71 fn I ih · · · · · · h) vs
theorem e73 (ih : 𝕀) (x0 x1 x2 x3 x4 x5 : V) (h : Hp) : B73 ih x0 x1 x2 x3 x4 x5 h = L! ih 100000 cuts36 64639 [0, 3, 4, 5, 6, 7] [x0, x1, x2, x3, x4, x5] h (p! 36) := by kernel_rfl
theorem E73 : E! 73 G73 := @entL Tryz.prog (orc fn I) _ 36 _ 36 64639 [0, 3, 4, 5, 6, 7] 100000 cuts36 (by kernel_rfl) fit36 fun ih vs h => c6 (X := fun r => L! ih 100000 cuts36 64639 [0, 3, 4, 5, 6, 7] r h (p! 36)) (e73 fn I ih · · · · · · h) vs
theorem e54 (ih : 𝕀) (x0 x1 x2 : V) (h : Hp) : B54 ih x0 x1 x2 h = F! ih 100000 cuts27 [x0, x1, x2] h (p! 27) := by kernel_rfl
theorem E54 (hf : ∀ vs h, fn 27 vs h = none) : E! 54 G54 := f! 27 hf 100000 cuts27 fit27 fun ih vs h => c3 (X := fun r => F! ih 100000 cuts27 r h (p! 27)) (e54 fn I ih · · · h) vs
theorem e58 (ih : 𝕀) (x0 x1 x2 x3 : V) (h : Hp) : B58 ih x0 x1 x2 x3 h = F! ih 100000 cuts29 [x0, x1, x2, x3] h (p! 29) := by kernel_rfl
theorem E58 (hf : ∀ vs h, fn 29 vs h = none) : E! 58 G58 := f! 29 hf 100000 cuts29 fit29 fun ih vs h => c4 (X := fun r => F! ih 100000 cuts29 r h (p! 29)) (e58 fn I ih · · · · h) vs
theorem e75 (ih : 𝕀) (x0 : V) (h : Hp) : B75 ih x0 h = L! ih 100000 cuts29 63 [4] [x0] h (p! 29) := by kernel_rfl
theorem E75 : E! 75 G75 := @entL Tryz.prog (orc fn I) _ 37 _ 29 63 [4] 100000 cuts29 (by kernel_rfl) fit29 fun ih vs h => c1 (X := fun r => L! ih 100000 cuts29 63 [4] r h (p! 29)) (e75 fn I ih · h) vs
theorem e77 (ih : 𝕀) (x0 x1 x2 x3 x4 x5 : V) (h : Hp) : B77 ih x0 x1 x2 x3 x4 x5 h = L! ih 100000 cuts29 122 [3, 4, 8, 25, 26, 27] [x0, x1, x2, x3, x4, x5] h (p! 29) := by kernel_rfl
theorem E77 : E! 77 G77 := @entL Tryz.prog (orc fn I) _ 38 _ 29 122 [3, 4, 8, 25, 26, 27] 100000 cuts29 (by kernel_rfl) fit29 fun ih vs h => c6 (X := fun r => L! ih 100000 cuts29 122 [3, 4, 8, 25, 26, 27] r h (p! 29)) (e77 fn I ih · · · · · · h) vs
theorem e79 (ih : 𝕀) (x0 x1 x2 x3 x4 x5 : V) (h : Hp) : B79 ih x0 x1 x2 x3 x4 x5 h = L! ih 100000 cuts29 1959 [3, 4, 8, 25, 26, 27] [x0, x1, x2, x3, x4, x5] h (p! 29) := by kernel_rfl
theorem E79 : E! 79 G79 := @entL Tryz.prog (orc fn I) _ 39 _ 29 1959 [3, 4, 8, 25, 26, 27] 100000 cuts29 (by kernel_rfl) fit29 fun ih vs h => c6 (X := fun r => L! ih 100000 cuts29 1959 [3, 4, 8, 25, 26, 27] r h (p! 29)) (e79 fn I ih · · · · · · h) vs
theorem e56 (ih : 𝕀) (x0 x1 x2 : V) (h : Hp) : B56 ih x0 x1 x2 h = F! ih 100000 cuts28 [x0, x1, x2] h (p! 28) := by kernel_rfl
theorem E56 (hf : ∀ vs h, fn 28 vs h = none) : E! 56 G56 := f! 28 hf 100000 cuts28 fit28 fun ih vs h => c3 (X := fun r => F! ih 100000 cuts28 r h (p! 28)) (e56 fn I ih · · · h) vs
theorem e81 (ih : 𝕀) (x0 : V) (h : Hp) : B81 ih x0 h = L! ih 100000 cuts28 124 [7] [x0] h (p! 28) := by kernel_rfl
theorem E81 : E! 81 G81 := @entL Tryz.prog (orc fn I) _ 40 _ 28 124 [7] 100000 cuts28 (by kernel_rfl) fit28 fun ih vs h => c1 (X := fun r => L! ih 100000 cuts28 124 [7] r h (p! 28)) (e81 fn I ih · h) vs
theorem e50 (ih : 𝕀) (x0 x1 : V) (h : Hp) : B50 ih x0 x1 h = F! ih 100000 cuts25 [x0, x1] h (p! 25) := by kernel_rfl
theorem E50 (hf : ∀ vs h, fn 25 vs h = none) : E! 50 G50 := f! 25 hf 100000 cuts25 fit25 fun ih vs h => c2 (X := fun r => F! ih 100000 cuts25 r h (p! 25)) (e50 fn I ih · · h) vs
theorem e48 (ih : 𝕀) (x0 x1 x2 : V) (h : Hp) : B48 ih x0 x1 x2 h = F! ih 100000 cuts24 [x0, x1, x2] h (p! 24) := by kernel_rfl
theorem E48 (hf : ∀ vs h, fn 24 vs h = none) : E! 48 G48 := f! 24 hf 100000 cuts24 fit24 fun ih vs h => c3 (X := fun r => F! ih 100000 cuts24 r h (p! 24)) (e48 fn I ih · · · h) vs
theorem e83 (ih : 𝕀) (x0 : V) (h : Hp) : B83 ih x0 h = L! ih 100000 cuts24 7 [2] [x0] h (p! 24) := by kernel_rfl
theorem E83 : E! 83 G83 := @entL Tryz.prog (orc fn I) _ 41 _ 24 7 [2] 100000 cuts24 (by kernel_rfl) fit24 fun ih vs h => c1 (X := fun r => L! ih 100000 cuts24 7 [2] r h (p! 24)) (e83 fn I ih · h) vs
theorem e85 (ih : 𝕀) (x0 x1 x2 x3 : V) (h : Hp) : B85 ih x0 x1 x2 x3 h = L! ih 100000 cuts24 53 [1, 2, 8, 9] [x0, x1, x2, x3] h (p! 24) := by kernel_rfl
theorem E85 : E! 85 G85 := @entL Tryz.prog (orc fn I) _ 42 _ 24 53 [1, 2, 8, 9] 100000 cuts24 (by kernel_rfl) fit24 fun ih vs h => c4 (X := fun r => L! ih 100000 cuts24 53 [1, 2, 8, 9] r h (p! 24)) (e85 fn I ih · · · · h) vs
theorem e87 (ih : 𝕀) (x0 x1 : V) (h : Hp) : B87 ih x0 x1 h = L! ih 100000 cuts24 215 [2, 19] [x0, x1] h (p! 24) := by kernel_rfl
theorem E87 : E! 87 G87 := @entL Tryz.prog (orc fn I) _ 43 _ 24 215 [2, 19] 100000 cuts24 (by kernel_rfl) fit24 fun ih vs h => c2 (X := fun r => L! ih 100000 cuts24 215 [2, 19] r h (p! 24)) (e87 fn I ih · · h) vs
theorem e52 (ih : 𝕀) (x0 x1 : V) (h : Hp) : B52 ih x0 x1 h = F! ih 100000 cuts26 [x0, x1] h (p! 26) := by kernel_rfl
theorem E52 (hf : ∀ vs h, fn 26 vs h = none) : E! 52 G52 := f! 26 hf 100000 cuts26 fit26 fun ih vs h => c2 (X := fun r => F! ih 100000 cuts26 r h (p! 26)) (e52 fn I ih · · h) vs
theorem e138 (ih : 𝕀) (x0 : V) (h : Hp) : B138 ih x0 h = F! ih 100000 cuts69 [x0] h (p! 69) := by kernel_rfl
theorem E138 (hf : ∀ vs h, fn 69 vs h = none) : E! 138 G138 := f! 69 hf 100000 cuts69 fit69 fun ih vs h => c1 (X := fun r => F! ih 100000 cuts69 r h (p! 69)) (e138 fn I ih · h) vs
theorem e148 (ih : 𝕀) (x0 x1 : V) (h : Hp) : B148 ih x0 x1 h = F! ih 100000 cuts74 [x0, x1] h (p! 74) := by kernel_rfl
theorem E148 (hf : ∀ vs h, fn 74 vs h = none) : E! 148 G148 := f! 74 hf 100000 cuts74 fit74 fun ih vs h => c2 (X := fun r => F! ih 100000 cuts74 r h (p! 74)) (e148 fn I ih · · h) vs
theorem e89 (ih : 𝕀) (x0 x1 : V) (h : Hp) : B89 ih x0 x1 h = L! ih 100000 cuts74 15 [0, 5] [x0, x1] h (p! 74) := by kernel_rfl
theorem E89 : E! 89 G89 := @entL Tryz.prog (orc fn I) _ 44 _ 74 15 [0, 5] 100000 cuts74 (by kernel_rfl) fit74 fun ih vs h => c2 (X := fun r => L! ih 100000 cuts74 15 [0, 5] r h (p! 74)) (e89 fn I ih · · h) vs
theorem e91 (ih : 𝕀) (x0 x1 : V) (h : Hp) : B91 ih x0 x1 h = L! ih 100000 cuts74 950263 [0, 5] [x0, x1] h (p! 74) := by kernel_rfl
theorem E91 : E! 91 G91 := @entL Tryz.prog (orc fn I) _ 45 _ 74 950263 [0, 5] 100000 cuts74 (by kernel_rfl) fit74 fun ih vs h => c2 (X := fun r => L! ih 100000 cuts74 950263 [0, 5] r h (p! 74)) (e91 fn I ih · · h) vs
theorem e93 (ih : 𝕀) (x0 : V) (h : Hp) : B93 ih x0 h = L! ih 100000 cuts74 3801055 [6] [x0] h (p! 74) := by kernel_rfl
theorem E93 : E! 93 G93 := @entL Tryz.prog (orc fn I) _ 46 _ 74 3801055 [6] 100000 cuts74 (by kernel_rfl) fit74 fun ih vs h => c1 (X := fun r => L! ih 100000 cuts74 3801055 [6] r h (p! 74)) (e93 fn I ih · h) vs
theorem e144 (ih : 𝕀) (x0 x1 : V) (h : Hp) : B144 ih x0 x1 h = F! ih 100000 cuts72 [x0, x1] h (p! 72) := by kernel_rfl
theorem E144 (hf : ∀ vs h, fn 72 vs h = none) : E! 144 G144 := f! 72 hf 100000 cuts72 fit72 fun ih vs h => c2 (X := fun r => F! ih 100000 cuts72 r h (p! 72)) (e144 fn I ih · · h) vs
theorem F144 (hf : ∀ vs h, fn 72 vs h = none) {x0 x1 : V} {h : Hp} {p : V × Hp} (hp : B144 (L fn I) x0 x1 h = some p) : L fn I 144 [x0, x1] h = some p := @lim_ent Tryz.prog (orc fn I) labs 144 G144 (E144 fn I hf) [x0, x1] h p (show G144 (L fn I) [x0, x1] h = some p from hp)
theorem e146 (ih : 𝕀) (x0 : V) (h : Hp) : B146 ih x0 h = F! ih 100000 cuts73 [x0] h (p! 73) := by kernel_rfl
theorem E146 (hf : ∀ vs h, fn 73 vs h = none) : E! 146 G146 := f! 73 hf 100000 cuts73 fit73 fun ih vs h => c1 (X := fun r => F! ih 100000 cuts73 r h (p! 73)) (e146 fn I ih · h) vs
theorem e95 (ih : 𝕀) (x0 x1 : V) (h : Hp) : B95 ih x0 x1 h = L! ih 100000 cuts73 15 [2, 3] [x0, x1] h (p! 73) := by kernel_rfl
theorem E95 : E! 95 G95 := @entL Tryz.prog (orc fn I) _ 47 _ 73 15 [2, 3] 100000 cuts73 (by kernel_rfl) fit73 fun ih vs h => c2 (X := fun r => L! ih 100000 cuts73 15 [2, 3] r h (p! 73)) (e95 fn I ih · · h) vs
theorem e142 (ih : 𝕀) (x0 : V) (h : Hp) : B142 ih x0 h = F! ih 100000 cuts71 [x0] h (p! 71) := by kernel_rfl
theorem E142 (hf : ∀ vs h, fn 71 vs h = none) : E! 142 G142 := f! 71 hf 100000 cuts71 fit71 fun ih vs h => c1 (X := fun r => F! ih 100000 cuts71 r h (p! 71)) (e142 fn I ih · h) vs
theorem e140 (ih : 𝕀) (x0 x1 : V) (h : Hp) : B140 ih x0 x1 h = F! ih 100000 cuts70 [x0, x1] h (p! 70) := by kernel_rfl
theorem E140 (hf : ∀ vs h, fn 70 vs h = none) : E! 140 G140 := f! 70 hf 100000 cuts70 fit70 fun ih vs h => c2 (X := fun r => F! ih 100000 cuts70 r h (p! 70)) (e140 fn I ih · · h) vs
theorem e132 (ih : 𝕀) (x0 : V) (h : Hp) : B132 ih x0 h = F! ih 100000 cuts66 [x0] h (p! 66) := by kernel_rfl
theorem E132 (hf : ∀ vs h, fn 66 vs h = none) : E! 132 G132 := f! 66 hf 100000 cuts66 fit66 fun ih vs h => c1 (X := fun r => F! ih 100000 cuts66 r h (p! 66)) (e132 fn I ih · h) vs
theorem F132 (hf : ∀ vs h, fn 66 vs h = none) {x0 : V} {h : Hp} {p : V × Hp} (hp : B132 (L fn I) x0 h = some p) : L fn I 132 [x0] h = some p := @lim_ent Tryz.prog (orc fn I) labs 132 G132 (E132 fn I hf) [x0] h p (show G132 (L fn I) [x0] h = some p from hp)
theorem e97 (ih : 𝕀) (x0 x1 x2 : V) (h : Hp) : B97 ih x0 x1 x2 h = L! ih 100000 cuts66 58 [0, 3, 4] [x0, x1, x2] h (p! 66) := by kernel_rfl
theorem E97 : E! 97 G97 := @entL Tryz.prog (orc fn I) _ 48 _ 66 58 [0, 3, 4] 100000 cuts66 (by kernel_rfl) fit66 fun ih vs h => c3 (X := fun r => L! ih 100000 cuts66 58 [0, 3, 4] r h (p! 66)) (e97 fn I ih · · · h) vs
theorem F97 {x0 x1 x2 : V} {h : Hp} {p : V × Hp} (hp : B97 (L fn I) x0 x1 x2 h = some p) : L fn I 97 [x0, x1, x2] h = some p := @lim_ent Tryz.prog (orc fn I) labs 97 G97 (E97 fn I) [x0, x1, x2] h p (show G97 (L fn I) [x0, x1, x2] h = some p from hp)
theorem e99 (ih : 𝕀) (x0 x1 x2 : V) (h : Hp) : B99 ih x0 x1 x2 h = L! ih 100000 cuts66 467 [0, 3, 4] [x0, x1, x2] h (p! 66) := by kernel_rfl
theorem E99 : E! 99 G99 := @entL Tryz.prog (orc fn I) _ 49 _ 66 467 [0, 3, 4] 100000 cuts66 (by kernel_rfl) fit66 fun ih vs h => c3 (X := fun r => L! ih 100000 cuts66 467 [0, 3, 4] r h (p! 66)) (e99 fn I ih · · · h) vs
theorem F99 {x0 x1 x2 : V} {h : Hp} {p : V × Hp} (hp : B99 (L fn I) x0 x1 x2 h = some p) : L fn I 99 [x0, x1, x2] h = some p := @lim_ent Tryz.prog (orc fn I) labs 99 G99 (E99 fn I) [x0, x1, x2] h p (show G99 (L fn I) [x0, x1, x2] h = some p from hp)
theorem e136 (ih : 𝕀) (x0 x1 : V) (h : Hp) : B136 ih x0 x1 h = F! ih 100000 cuts68 [x0, x1] h (p! 68) := by kernel_rfl
theorem E136 (hf : ∀ vs h, fn 68 vs h = none) : E! 136 G136 := f! 68 hf 100000 cuts68 fit68 fun ih vs h => c2 (X := fun r => F! ih 100000 cuts68 r h (p! 68)) (e136 fn I ih · · h) vs
theorem e101 (ih : 𝕀) (x0 x1 x2 x3 : V) (h : Hp) : B101 ih x0 x1 x2 x3 h = L! ih 100000 cuts68 28 [0, 1, 4, 7] [x0, x1, x2, x3] h (p! 68) := by kernel_rfl
theorem E101 : E! 101 G101 := @entL Tryz.prog (orc fn I) _ 50 _ 68 28 [0, 1, 4, 7] 100000 cuts68 (by kernel_rfl) fit68 fun ih vs h => c4 (X := fun r => L! ih 100000 cuts68 28 [0, 1, 4, 7] r h (p! 68)) (e101 fn I ih · · · · h) vs
theorem e103 (ih : 𝕀) (x0 x1 x2 : V) (h : Hp) : B103 ih x0 x1 x2 h = L! ih 100000 cuts68 491 [4, 7, 8] [x0, x1, x2] h (p! 68) := by kernel_rfl
theorem E103 : E! 103 G103 := @entL Tryz.prog (orc fn I) _ 51 _ 68 491 [4, 7, 8] 100000 cuts68 (by kernel_rfl) fit68 fun ih vs h => c3 (X := fun r => L! ih 100000 cuts68 491 [4, 7, 8] r h (p! 68)) (e103 fn I ih · · · h) vs
theorem e134 (ih : 𝕀) (x0 x1 : V) (h : Hp) : B134 ih x0 x1 h = F! ih 100000 cuts67 [x0, x1] h (p! 67) := by kernel_rfl
theorem E134 (hf : ∀ vs h, fn 67 vs h = none) : E! 134 G134 := f! 67 hf 100000 cuts67 fit67 fun ih vs h => c2 (X := fun r => F! ih 100000 cuts67 r h (p! 67)) (e134 fn I ih · · h) vs
theorem e130 (ih : 𝕀) (x0 : V) (h : Hp) : B130 ih x0 h = F! ih 100000 cuts65 [x0] h (p! 65) := by kernel_rfl
theorem E130 (hf : ∀ vs h, fn 65 vs h = none) : E! 130 G130 := f! 65 hf 100000 cuts65 fit65 fun ih vs h => c1 (X := fun r => F! ih 100000 cuts65 r h (p! 65)) (e130 fn I ih · h) vs
theorem e116 (ih : 𝕀) (x0 x1 : V) (h : Hp) : B116 ih x0 x1 h = F! ih 100000 cuts58 [x0, x1] h (p! 58) := by kernel_rfl
theorem E116 (hf : ∀ vs h, fn 58 vs h = none) : E! 116 G116 := f! 58 hf 100000 cuts58 fit58 fun ih vs h => c2 (X := fun r => F! ih 100000 cuts58 r h (p! 58)) (e116 fn I ih · · h) vs
theorem e107 (ih : 𝕀) (x0 x1 x2 x3 x4 x5 x6 : V) (h : Hp) : B107 ih x0 x1 x2 x3 x4 x5 x6 h = L! ih 100000 cuts58 3930 [0, 3, 6, 7, 26, 27, 28] [x0, x1, x2, x3, x4, x5, x6] h (p! 58) := by kernel_rfl
theorem E107 : E! 107 G107 := @entL Tryz.prog (orc fn I) _ 53 _ 58 3930 [0, 3, 6, 7, 26, 27, 28] 100000 cuts58 (by kernel_rfl) fit58 fun ih vs h => c7 (X := fun r => L! ih 100000 cuts58 3930 [0, 3, 6, 7, 26, 27, 28] r h (p! 58)) (e107 fn I ih · · · · · · · h) vs
theorem e109 (ih : 𝕀) (x0 x1 x2 x3 x4 x5 : V) (h : Hp) : B109 ih x0 x1 x2 x3 x4 x5 h = L! ih 100000 cuts58 15871 [0, 3, 4, 5, 19, 85] [x0, x1, x2, x3, x4, x5] h (p! 58) := by kernel_rfl
theorem E109 : E! 109 G109 := @entL Tryz.prog (orc fn I) _ 54 _ 58 15871 [0, 3, 4, 5, 19, 85] 100000 cuts58 (by kernel_rfl) fit58 fun ih vs h => c6 (X := fun r => L! ih 100000 cuts58 15871 [0, 3, 4, 5, 19, 85] r h (p! 58)) (e109 fn I ih · · · · · · h) vs
theorem e114 (ih : 𝕀) (x0 x1 x2 : V) (h : Hp) : B114 ih x0 x1 x2 h = F! ih 100000 cuts57 [x0, x1, x2] h (p! 57) := by kernel_rfl
theorem E114 (hf : ∀ vs h, fn 57 vs h = none) : E! 114 G114 := f! 57 hf 100000 cuts57 fit57 fun ih vs h => c3 (X := fun r => F! ih 100000 cuts57 r h (p! 57)) (e114 fn I ih · · · h) vs
theorem e111 (ih : 𝕀) (x0 x1 x2 x3 x4 x5 x6 : V) (h : Hp) : B111 ih x0 x1 x2 x3 x4 x5 x6 h = L! ih 100000 cuts57 58 [0, 2, 4, 6, 16, 17, 18] [x0, x1, x2, x3, x4, x5, x6] h (p! 57) := by kernel_rfl
theorem E111 : E! 111 G111 := @entL Tryz.prog (orc fn I) _ 55 _ 57 58 [0, 2, 4, 6, 16, 17, 18] 100000 cuts57 (by kernel_rfl) fit57 fun ih vs h => c7 (X := fun r => L! ih 100000 cuts57 58 [0, 2, 4, 6, 16, 17, 18] r h (p! 57)) (e111 fn I ih · · · · · · · h) vs
theorem e113 (ih : 𝕀) (x0 x1 x2 x3 : V) (h : Hp) : B113 ih x0 x1 x2 x3 h = L! ih 100000 cuts57 127 [0, 4, 9, 10] [x0, x1, x2, x3] h (p! 57) := by kernel_rfl
theorem E113 : E! 113 G113 := @entL Tryz.prog (orc fn I) _ 56 _ 57 127 [0, 4, 9, 10] 100000 cuts57 (by kernel_rfl) fit57 fun ih vs h => c4 (X := fun r => L! ih 100000 cuts57 127 [0, 4, 9, 10] r h (p! 57)) (e113 fn I ih · · · · h) vs
theorem e115 (ih : 𝕀) (x0 x1 x2 x3 x4 x5 x6 : V) (h : Hp) : B115 ih x0 x1 x2 x3 x4 x5 x6 h = L! ih 100000 cuts57 935 [0, 2, 4, 6, 16, 17, 18] [x0, x1, x2, x3, x4, x5, x6] h (p! 57) := by kernel_rfl
theorem E115 : E! 115 G115 := @entL Tryz.prog (orc fn I) _ 57 _ 57 935 [0, 2, 4, 6, 16, 17, 18] 100000 cuts57 (by kernel_rfl) fit57 fun ih vs h => c7 (X := fun r => L! ih 100000 cuts57 935 [0, 2, 4, 6, 16, 17, 18] r h (p! 57)) (e115 fn I ih · · · · · · · h) vs
theorem e110 (ih : 𝕀) (x0 x1 : V) (h : Hp) : B110 ih x0 x1 h = F! ih 100000 cuts55 [x0, x1] h (p! 55) := by kernel_rfl
theorem E110 (hf : ∀ vs h, fn 55 vs h = none) : E! 110 G110 := f! 55 hf 100000 cuts55 fit55 fun ih vs h => c2 (X := fun r => F! ih 100000 cuts55 r h (p! 55)) (e110 fn I ih · · h) vs
theorem e112 (ih : 𝕀) (x0 x1 : V) (h : Hp) : B112 ih x0 x1 h = F! ih 100000 cuts56 [x0, x1] h (p! 56) := by kernel_rfl
theorem E112 (hf : ∀ vs h, fn 56 vs h = none) : E! 112 G112 := f! 56 hf 100000 cuts56 fit56 fun ih vs h => c2 (X := fun r => F! ih 100000 cuts56 r h (p! 56)) (e112 fn I ih · · h) vs
theorem e118 (ih : 𝕀) (x0 : V) (h : Hp) : B118 ih x0 h = F! ih 100000 cuts59 [x0] h (p! 59) := by kernel_rfl
theorem E118 (hf : ∀ vs h, fn 59 vs h = none) : E! 118 G118 := f! 59 hf 100000 cuts59 fit59 fun ih vs h => c1 (X := fun r => F! ih 100000 cuts59 r h (p! 59)) (e118 fn I ih · h) vs
theorem e108 (ih : 𝕀) (x0 x1 : V) (h : Hp) : B108 ih x0 x1 h = F! ih 100000 cuts54 [x0, x1] h (p! 54) := by kernel_rfl
theorem E108 (hf : ∀ vs h, fn 54 vs h = none) : E! 108 G108 := f! 54 hf 100000 cuts54 fit54 fun ih vs h => c2 (X := fun r => F! ih 100000 cuts54 r h (p! 54)) (e108 fn I ih · · h) vs
theorem e106 (ih : 𝕀) (x0 : V) (h : Hp) : B106 ih x0 h = F! ih 100000 cuts53 [x0] h (p! 53) := by kernel_rfl
theorem E106 (hf : ∀ vs h, fn 53 vs h = none) : E! 106 G106 := f! 53 hf 100000 cuts53 fit53 fun ih vs h => c1 (X := fun r => F! ih 100000 cuts53 r h (p! 53)) (e106 fn I ih · h) vs
theorem e102 (ih : 𝕀) (x0 x1 : V) (h : Hp) : B102 ih x0 x1 h = F! ih 100000 cuts51 [x0, x1] h (p! 51) := by kernel_rfl
theorem E102 (hf : ∀ vs h, fn 51 vs h = none) : E! 102 G102 := f! 51 hf 100000 cuts51 fit51 fun ih vs h => c2 (X := fun r => F! ih 100000 cuts51 r h (p! 51)) (e102 fn I ih · · h) vs
theorem e100 (ih : 𝕀) (x0 x1 : V) (h : Hp) : B100 ih x0 x1 h = F! ih 100000 cuts50 [x0, x1] h (p! 50) := by kernel_rfl
theorem E100 (hf : ∀ vs h, fn 50 vs h = none) : E! 100 G100 := f! 50 hf 100000 cuts50 fit50 fun ih vs h => c2 (X := fun r => F! ih 100000 cuts50 r h (p! 50)) (e100 fn I ih · · h) vs
theorem e117 (ih : 𝕀) (x0 x1 x2 x3 x4 : V) (h : Hp) : B117 ih x0 x1 x2 x3 x4 h = L! ih 100000 cuts50 117 [2, 3, 5, 10, 11] [x0, x1, x2, x3, x4] h (p! 50) := by kernel_rfl
theorem E117 : E! 117 G117 := @entL Tryz.prog (orc fn I) _ 58 _ 50 117 [2, 3, 5, 10, 11] 100000 cuts50 (by kernel_rfl) fit50 fun ih vs h => c5 (X := fun r => L! ih 100000 cuts50 117 [2, 3, 5, 10, 11] r h (p! 50)) (e117 fn I ih · · · · · h) vs
theorem e98 (ih : 𝕀) (x0 : V) (h : Hp) : B98 ih x0 h = F! ih 100000 cuts49 [x0] h (p! 49) := by kernel_rfl
theorem E98 (hf : ∀ vs h, fn 49 vs h = none) : E! 98 G98 := f! 49 hf 100000 cuts49 fit49 fun ih vs h => c1 (X := fun r => F! ih 100000 cuts49 r h (p! 49)) (e98 fn I ih · h) vs
theorem e96 (ih : 𝕀) (x0 x1 : V) (h : Hp) : B96 ih x0 x1 h = F! ih 100000 cuts48 [x0, x1] h (p! 48) := by kernel_rfl
theorem E96 (hf : ∀ vs h, fn 48 vs h = none) : E! 96 G96 := f! 48 hf 100000 cuts48 fit48 fun ih vs h => c2 (X := fun r => F! ih 100000 cuts48 r h (p! 48)) (e96 fn I ih · · h) vs
theorem e92 (ih : 𝕀) (x0 : V) (h : Hp) : B92 ih x0 h = F! ih 100000 cuts46 [x0] h (p! 46) := by kernel_rfl
theorem E92 (hf : ∀ vs h, fn 46 vs h = none) : E! 92 G92 := f! 46 hf 100000 cuts46 fit46 fun ih vs h => c1 (X := fun r => F! ih 100000 cuts46 r h (p! 46)) (e92 fn I ih · h) vs
theorem e90 (ih : 𝕀) (x0 x1 x2 x3 x4 : V) (h : Hp) : B90 ih x0 x1 x2 x3 x4 h = F! ih 100000 cuts45 [x0, x1, x2, x3, x4] h (p! 45) := by kernel_rfl
theorem E90 (hf : ∀ vs h, fn 45 vs h = none) : E! 90 G90 := f! 45 hf 100000 cuts45 fit45 fun ih vs h => c5 (X := fun r => F! ih 100000 cuts45 r h (p! 45)) (e90 fn I ih · · · · · h) vs
theorem e121 (ih : 𝕀) (x0 x1 x2 x3 x4 : V) (h : Hp) : B121 ih x0 x1 x2 x3 x4 h = L! ih 100000 cuts45 26 [3, 4, 5, 6, 11] [x0, x1, x2, x3, x4] h (p! 45) := by kernel_rfl
theorem E121 : E! 121 G121 := @entL Tryz.prog (orc fn I) _ 60 _ 45 26 [3, 4, 5, 6, 11] 100000 cuts45 (by kernel_rfl) fit45 fun ih vs h => c5 (X := fun r => L! ih 100000 cuts45 26 [3, 4, 5, 6, 11] r h (p! 45)) (e121 fn I ih · · · · · h) vs
theorem e88 (ih : 𝕀) (x0 x1 x2 x3 : V) (h : Hp) : B88 ih x0 x1 x2 x3 h = F! ih 100000 cuts44 [x0, x1, x2, x3] h (p! 44) := by kernel_rfl
theorem E88 (hf : ∀ vs h, fn 44 vs h = none) : E! 88 G88 := f! 44 hf 100000 cuts44 fit44 fun ih vs h => c4 (X := fun r => F! ih 100000 cuts44 r h (p! 44)) (e88 fn I ih · · · · h) vs
theorem e94 (ih : 𝕀) (x0 : V) (h : Hp) : B94 ih x0 h = F! ih 100000 cuts47 [x0] h (p! 47) := by kernel_rfl
theorem E94 (hf : ∀ vs h, fn 47 vs h = none) : E! 94 G94 := f! 47 hf 100000 cuts47 fit47 fun ih vs h => c1 (X := fun r => F! ih 100000 cuts47 r h (p! 47)) (e94 fn I ih · h) vs
theorem e104 (ih : 𝕀) (x0 x1 : V) (h : Hp) : B104 ih x0 x1 h = F! ih 100000 cuts52 [x0, x1] h (p! 52) := by kernel_rfl
theorem E104 (hf : ∀ vs h, fn 52 vs h = none) : E! 104 G104 := f! 52 hf 100000 cuts52 fit52 fun ih vs h => c2 (X := fun r => F! ih 100000 cuts52 r h (p! 52)) (e104 fn I ih · · h) vs
theorem e123 (ih : 𝕀) (x0 x1 x2 x3 : V) (h : Hp) : B123 ih x0 x1 x2 x3 h = L! ih 100000 cuts52 26 [0, 1, 7, 8] [x0, x1, x2, x3] h (p! 52) := by kernel_rfl
theorem E123 : E! 123 G123 := @entL Tryz.prog (orc fn I) _ 61 _ 52 26 [0, 1, 7, 8] 100000 cuts52 (by kernel_rfl) fit52 fun ih vs h => c4 (X := fun r => L! ih 100000 cuts52 26 [0, 1, 7, 8] r h (p! 52)) (e123 fn I ih · · · · h) vs
theorem e238 (ih : 𝕀) (x0 x1 x2 : V) (h : Hp) : B238 ih x0 x1 x2 h = F! ih 100000 cuts119 [x0, x1, x2] h (p! 119) := by kernel_rfl
theorem E238 (hf : ∀ vs h, fn 119 vs h = none) : E! 238 G238 := f! 119 hf 100000 cuts119 fit119 fun ih vs h => c3 (X := fun r => F! ih 100000 cuts119 r h (p! 119)) (e238 fn I ih · · · h) vs
theorem e236 (ih : 𝕀) (x0 x1 : V) (h : Hp) : B236 ih x0 x1 h = F! ih 100000 cuts118 [x0, x1] h (p! 118) := by kernel_rfl
theorem E236 (hf : ∀ vs h, fn 118 vs h = none) : E! 236 G236 := f! 118 hf 100000 cuts118 fit118 fun ih vs h => c2 (X := fun r => F! ih 100000 cuts118 r h (p! 118)) (e236 fn I ih · · h) vs
theorem e125 (ih : 𝕀) (x0 x1 x2 : V) (h : Hp) : B125 ih x0 x1 x2 h = L! ih 100000 cuts118 28 [0, 1, 5] [x0, x1, x2] h (p! 118) := by kernel_rfl
theorem E125 : E! 125 G125 := @entL Tryz.prog (orc fn I) _ 62 _ 118 28 [0, 1, 5] 100000 cuts118 (by kernel_rfl) fit118 fun ih vs h => c3 (X := fun r => L! ih 100000 cuts118 28 [0, 1, 5] r h (p! 118)) (e125 fn I ih · · · h) vs
theorem e234 (ih : 𝕀) (x0 x1 x2 : V) (h : Hp) : B234 ih x0 x1 x2 h = F! ih 100000 cuts117 [x0, x1, x2] h (p! 117) := by kernel_rfl
theorem E234 (hf : ∀ vs h, fn 117 vs h = none) : E! 234 G234 := f! 117 hf 100000 cuts117 fit117 fun ih vs h => c3 (X := fun r => F! ih 100000 cuts117 r h (p! 117)) (e234 fn I ih · · · h) vs
theorem e127 (ih : 𝕀) (x0 x1 x2 : V) (h : Hp) : B127 ih x0 x1 x2 h = L! ih 100000 cuts117 7 [0, 1, 2] [x0, x1, x2] h (p! 117) := by kernel_rfl
theorem E127 : E! 127 G127 := @entL Tryz.prog (orc fn I) _ 63 _ 117 7 [0, 1, 2] 100000 cuts117 (by kernel_rfl) fit117 fun ih vs h => c3 (X := fun r => L! ih 100000 cuts117 7 [0, 1, 2] r h (p! 117)) (e127 fn I ih · · · h) vs
theorem e232 (ih : 𝕀) (x0 x1 : V) (h : Hp) : B232 ih x0 x1 h = F! ih 100000 cuts116 [x0, x1] h (p! 116) := by kernel_rfl
theorem E232 (hf : ∀ vs h, fn 116 vs h = none) : E! 232 G232 := f! 116 hf 100000 cuts116 fit116 fun ih vs h => c2 (X := fun r => F! ih 100000 cuts116 r h (p! 116)) (e232 fn I ih · · h) vs
theorem e129 (ih : 𝕀) (x0 x1 x2 : V) (h : Hp) : B129 ih x0 x1 x2 h = L! ih 100000 cuts116 15 [0, 1, 5] [x0, x1, x2] h (p! 116) := by kernel_rfl
theorem E129 : E! 129 G129 := @entL Tryz.prog (orc fn I) _ 64 _ 116 15 [0, 1, 5] 100000 cuts116 (by kernel_rfl) fit116 fun ih vs h => c3 (X := fun r => L! ih 100000 cuts116 15 [0, 1, 5] r h (p! 116)) (e129 fn I ih · · · h) vs
theorem e131 (ih : 𝕀) (x0 x1 x2 : V) (h : Hp) : B131 ih x0 x1 x2 h = L! ih 100000 cuts116 28 [0, 1, 5] [x0, x1, x2] h (p! 116) := by kernel_rfl
theorem E131 : E! 131 G131 := @entL Tryz.prog (orc fn I) _ 65 _ 116 28 [0, 1, 5] 100000 cuts116 (by kernel_rfl) fit116 fun ih vs h => c3 (X := fun r => L! ih 100000 cuts116 28 [0, 1, 5] r h (p! 116)) (e131 fn I ih · · · h) vs
theorem e133 (ih : 𝕀) (x0 x1 : V) (h : Hp) : B133 ih x0 x1 h = L! ih 100000 cuts116 31 [0, 5] [x0, x1] h (p! 116) := by kernel_rfl
theorem E133 : E! 133 G133 := @entL Tryz.prog (orc fn I) _ 66 _ 116 31 [0, 5] 100000 cuts116 (by kernel_rfl) fit116 fun ih vs h => c2 (X := fun r => L! ih 100000 cuts116 31 [0, 5] r h (p! 116)) (e133 fn I ih · · h) vs
theorem e228 (ih : 𝕀) (x0 x1 x2 : V) (h : Hp) : B228 ih x0 x1 x2 h = F! ih 100000 cuts114 [x0, x1, x2] h (p! 114) := by kernel_rfl
theorem E228 (hf : ∀ vs h, fn 114 vs h = none) : E! 228 G228 := f! 114 hf 100000 cuts114 fit114 fun ih vs h => c3 (X := fun r => F! ih 100000 cuts114 r h (p! 114)) (e228 fn I ih · · · h) vs
theorem e135 (ih : 𝕀) (x0 x1 x2 x3 x4 : V) (h : Hp) : B135 ih x0 x1 x2 x3 x4 h = L! ih 100000 cuts114 511 [0, 1, 2, 7, 8] [x0, x1, x2, x3, x4] h (p! 114) := by kernel_rfl
theorem E135 : E! 135 G135 := @entL Tryz.prog (orc fn I) _ 67 _ 114 511 [0, 1, 2, 7, 8] 100000 cuts114 (by kernel_rfl) fit114 fun ih vs h => c5 (X := fun r => L! ih 100000 cuts114 511 [0, 1, 2, 7, 8] r h (p! 114)) (e135 fn I ih · · · · · h) vs
theorem e137 (ih : 𝕀) (x0 x1 x2 x3 x4 x5 x6 x7 : V) (h : Hp) : B137 ih x0 x1 x2 x3 x4 x5 x6 x7 h = L! ih 100000 cuts114 1018 [0, 1, 2, 7, 8, 9, 10, 11] [x0, x1, x2, x3, x4, x5, x6, x7] h (p! 114) := by kernel_rfl
theorem E137 : E! 137 G137 := @entL Tryz.prog (orc fn I) _ 68 _ 114 1018 [0, 1, 2, 7, 8, 9, 10, 11] 100000 cuts114 (by kernel_rfl) fit114 fun ih vs h => c8 (X := fun r => L! ih 100000 cuts114 1018 [0, 1, 2, 7, 8, 9, 10, 11] r h (p! 114)) (e137 fn I ih · · · · · · · · h) vs
theorem e139 (ih : 𝕀) (x0 : V) (h : Hp) : B139 ih x0 h = L! ih 100000 cuts114 1023 [8] [x0] h (p! 114) := by kernel_rfl
theorem E139 : E! 139 G139 := @entL Tryz.prog (orc fn I) _ 69 _ 114 1023 [8] 100000 cuts114 (by kernel_rfl) fit114 fun ih vs h => c1 (X := fun r => L! ih 100000 cuts114 1023 [8] r h (p! 114)) (e139 fn I ih · h) vs
theorem e141 (ih : 𝕀) (x0 x1 x2 x3 x4 : V) (h : Hp) : B141 ih x0 x1 x2 x3 x4 h = L! ih 100000 cuts114 2044 [0, 1, 2, 7, 8] [x0, x1, x2, x3, x4] h (p! 114) := by kernel_rfl
theorem E141 : E! 141 G141 := @entL Tryz.prog (orc fn I) _ 70 _ 114 2044 [0, 1, 2, 7, 8] 100000 cuts114 (by kernel_rfl) fit114 fun ih vs h => c5 (X := fun r => L! ih 100000 cuts114 2044 [0, 1, 2, 7, 8] r h (p! 114)) (e141 fn I ih · · · · · h) vs
theorem e143 (ih : 𝕀) (x0 x1 x2 x3 x4 x5 x6 x7 : V) (h : Hp) : B143 ih x0 x1 x2 x3 x4 x5 x6 x7 h = L! ih 100000 cuts114 8147 [0, 1, 2, 7, 8, 9, 10, 11] [x0, x1, x2, x3, x4, x5, x6, x7] h (p! 114) := by kernel_rfl
theorem E143 : E! 143 G143 := @entL Tryz.prog (orc fn I) _ 71 _ 114 8147 [0, 1, 2, 7, 8, 9, 10, 11] 100000 cuts114 (by kernel_rfl) fit114 fun ih vs h => c8 (X := fun r => L! ih 100000 cuts114 8147 [0, 1, 2, 7, 8, 9, 10, 11] r h (p! 114)) (e143 fn I ih · · · · · · · · h) vs
theorem e145 (ih : 𝕀) (x0 x1 x2 x3 x4 x5 x6 x7 : V) (h : Hp) : B145 ih x0 x1 x2 x3 x4 x5 x6 x7 h = L! ih 100000 cuts114 523359 [0, 1, 2, 7, 8, 13, 14, 16] [x0, x1, x2, x3, x4, x5, x6, x7] h (p! 114) := by kernel_rfl
theorem E145 : E! 145 G145 := @entL Tryz.prog (orc fn I) _ 72 _ 114 523359 [0, 1, 2, 7, 8, 13, 14, 16] 100000 cuts114 (by kernel_rfl) fit114 fun ih vs h => c8 (X := fun r => L! ih 100000 cuts114 523359 [0, 1, 2, 7, 8, 13, 14, 16] r h (p! 114)) (e145 fn I ih · · · · · · · · h) vs
theorem e230 (ih : 𝕀) (x0 x1 : V) (h : Hp) : B230 ih x0 x1 h = F! ih 100000 cuts115 [x0, x1] h (p! 115) := by kernel_rfl
theorem E230 (hf : ∀ vs h, fn 115 vs h = none) : E! 230 G230 := f! 115 hf 100000 cuts115 fit115 fun ih vs h => c2 (X := fun r => F! ih 100000 cuts115 r h (p! 115)) (e230 fn I ih · · h) vs
theorem e226 (ih : 𝕀) (x0 x1 : V) (h : Hp) : B226 ih x0 x1 h = F! ih 100000 cuts113 [x0, x1] h (p! 113) := by kernel_rfl
theorem E226 (hf : ∀ vs h, fn 113 vs h = none) : E! 226 G226 := f! 113 hf 100000 cuts113 fit113 fun ih vs h => c2 (X := fun r => F! ih 100000 cuts113 r h (p! 113)) (e226 fn I ih · · h) vs
theorem e147 (ih : 𝕀) (x0 x1 x2 : V) (h : Hp) : B147 ih x0 x1 x2 h = L! ih 100000 cuts113 26 [0, 1, 5] [x0, x1, x2] h (p! 113) := by kernel_rfl
theorem E147 : E! 147 G147 := @entL Tryz.prog (orc fn I) _ 73 _ 113 26 [0, 1, 5] 100000 cuts113 (by kernel_rfl) fit113 fun ih vs h => c3 (X := fun r => L! ih 100000 cuts113 26 [0, 1, 5] r h (p! 113)) (e147 fn I ih · · · h) vs
theorem e202 (ih : 𝕀) (x0 x1 : V) (h : Hp) : B202 ih x0 x1 h = F! ih 100000 cuts101 [x0, x1] h (p! 101) := by kernel_rfl
theorem E202 (hf : ∀ vs h, fn 101 vs h = none) : E! 202 G202 := f! 101 hf 100000 cuts101 fit101 fun ih vs h => c2 (X := fun r => F! ih 100000 cuts101 r h (p! 101)) (e202 fn I ih · · h) vs
theorem F202 (hf : ∀ vs h, fn 101 vs h = none) {x0 x1 : V} {h : Hp} {p : V × Hp} (hp : B202 (L fn I) x0 x1 h = some p) : L fn I 202 [x0, x1] h = some p := @lim_ent Tryz.prog (orc fn I) labs 202 G202 (E202 fn I hf) [x0, x1] h p (show G202 (L fn I) [x0, x1] h = some p from hp)
theorem e224 (ih : 𝕀) (x0 x1 : V) (h : Hp) : B224 ih x0 x1 h = F! ih 100000 cuts112 [x0, x1] h (p! 112) := by kernel_rfl
theorem E224 (hf : ∀ vs h, fn 112 vs h = none) : E! 224 G224 := f! 112 hf 100000 cuts112 fit112 fun ih vs h => c2 (X := fun r => F! ih 100000 cuts112 r h (p! 112)) (e224 fn I ih · · h) vs
theorem F224 (hf : ∀ vs h, fn 112 vs h = none) {x0 x1 : V} {h : Hp} {p : V × Hp} (hp : B224 (L fn I) x0 x1 h = some p) : L fn I 224 [x0, x1] h = some p := @lim_ent Tryz.prog (orc fn I) labs 224 G224 (E224 fn I hf) [x0, x1] h p (show G224 (L fn I) [x0, x1] h = some p from hp)
theorem e149 (ih : 𝕀) (x0 x1 x2 x3 x4 x5 : V) (h : Hp) : B149 ih x0 x1 x2 x3 x4 x5 h = L! ih 100000 cuts112 122 [0, 1, 4, 7, 8, 9] [x0, x1, x2, x3, x4, x5] h (p! 112) := by kernel_rfl
theorem E149 : E! 149 G149 := @entL Tryz.prog (orc fn I) _ 74 _ 112 122 [0, 1, 4, 7, 8, 9] 100000 cuts112 (by kernel_rfl) fit112 fun ih vs h => c6 (X := fun r => L! ih 100000 cuts112 122 [0, 1, 4, 7, 8, 9] r h (p! 112)) (e149 fn I ih · · · · · · h) vs
theorem F149 {x0 x1 x2 x3 x4 x5 : V} {h : Hp} {p : V × Hp} (hp : B149 (L fn I) x0 x1 x2 x3 x4 x5 h = some p) : L fn I 149 [x0, x1, x2, x3, x4, x5] h = some p := @lim_ent Tryz.prog (orc fn I) labs 149 G149 (E149 fn I) [x0, x1, x2, x3, x4, x5] h p (show G149 (L fn I) [x0, x1, x2, x3, x4, x5] h = some p from hp)
theorem e151 (ih : 𝕀) (x0 x1 x2 x3 x4 x5 : V) (h : Hp) : B151 ih x0 x1 x2 x3 x4 x5 h = L! ih 100000 cuts112 979 [0, 1, 4, 7, 8, 9] [x0, x1, x2, x3, x4, x5] h (p! 112) := by kernel_rfl
theorem E151 : E! 151 G151 := @entL Tryz.prog (orc fn I) _ 75 _ 112 979 [0, 1, 4, 7, 8, 9] 100000 cuts112 (by kernel_rfl) fit112 fun ih vs h => c6 (X := fun r => L! ih 100000 cuts112 979 [0, 1, 4, 7, 8, 9] r h (p! 112)) (e151 fn I ih · · · · · · h) vs
theorem F151 {x0 x1 x2 x3 x4 x5 : V} {h : Hp} {p : V × Hp} (hp : B151 (L fn I) x0 x1 x2 x3 x4 x5 h = some p) : L fn I 151 [x0, x1, x2, x3, x4, x5] h = some p := @lim_ent Tryz.prog (orc fn I) labs 151 G151 (E151 fn I) [x0, x1, x2, x3, x4, x5] h p (show G151 (L fn I) [x0, x1, x2, x3, x4, x5] h = some p from hp)
theorem e204 (ih : 𝕀) (x0 x1 x2 : V) (h : Hp) : B204 ih x0 x1 x2 h = F! ih 100000 cuts102 [x0, x1, x2] h (p! 102) := by kernel_rfl
theorem E204 (hf : ∀ vs h, fn 102 vs h = none) : E! 204 G204 := f! 102 hf 100000 cuts102 fit102 fun ih vs h => c3 (X := fun r => F! ih 100000 cuts102 r h (p! 102)) (e204 fn I ih · · · h) vs
theorem F204 (hf : ∀ vs h, fn 102 vs h = none) {x0 x1 x2 : V} {h : Hp} {p : V × Hp} (hp : B204 (L fn I) x0 x1 x2 h = some p) : L fn I 204 [x0, x1, x2] h = some p := @lim_ent Tryz.prog (orc fn I) labs 204 G204 (E204 fn I hf) [x0, x1, x2] h p (show G204 (L fn I) [x0, x1, x2] h = some p from hp)
theorem e206 (ih : 𝕀) (x0 x1 : V) (h : Hp) : B206 ih x0 x1 h = F! ih 100000 cuts103 [x0, x1] h (p! 103) := by kernel_rfl
theorem E206 (hf : ∀ vs h, fn 103 vs h = none) : E! 206 G206 := f! 103 hf 100000 cuts103 fit103 fun ih vs h => c2 (X := fun r => F! ih 100000 cuts103 r h (p! 103)) (e206 fn I ih · · h) vs
theorem e218 (ih : 𝕀) (x0 : V) (h : Hp) : B218 ih x0 h = F! ih 100000 cuts109 [x0] h (p! 109) := by kernel_rfl
theorem E218 (hf : ∀ vs h, fn 109 vs h = none) : E! 218 G218 := f! 109 hf 100000 cuts109 fit109 fun ih vs h => c1 (X := fun r => F! ih 100000 cuts109 r h (p! 109)) (e218 fn I ih · h) vs
theorem e169 (ih : 𝕀) (x0 x1 x2 x3 x4 : V) (h : Hp) : B169 ih x0 x1 x2 x3 x4 h = L! ih 100000 cuts109 250 [0, 4, 5, 6, 7] [x0, x1, x2, x3, x4] h (p! 109) := by kernel_rfl
theorem E169 : E! 169 G169 := @entL Tryz.prog (orc fn I) _ 84 _ 109 250 [0, 4, 5, 6, 7] 100000 cuts109 (by kernel_rfl) fit109 fun ih vs h => c5 (X := fun r => L! ih 100000 cuts109 250 [0, 4, 5, 6, 7] r h (p! 109)) (e169 fn I ih · · · · · h) vs
theorem e216 (ih : 𝕀) (x0 x1 : V) (h : Hp) : B216 ih x0 x1 h = F! ih 100000 cuts108 [x0, x1] h (p! 108) := by kernel_rfl
theorem E216 (hf : ∀ vs h, fn 108 vs h = none) : E! 216 G216 := f! 108 hf 100000 cuts108 fit108 fun ih vs h => c2 (X := fun r => F! ih 100000 cuts108 r h (p! 108)) (e216 fn I ih · · h) vs
theorem e171 (ih : 𝕀) (x0 x1 : V) (h : Hp) : B171 ih x0 x1 h = L! ih 100000 cuts108 63 [1, 6] [x0, x1] h (p! 108) := by kernel_rfl
theorem E171 : E! 171 G171 := @entL Tryz.prog (orc fn I) _ 85 _ 108 63 [1, 6] 100000 cuts108 (by kernel_rfl) fit108 fun ih vs h => c2 (X := fun r => L! ih 100000 cuts108 63 [1, 6] r h (p! 108)) (e171 fn I ih · · h) vs
theorem e173 (ih : 𝕀) (x0 x1 x2 x3 : V) (h : Hp) : B173 ih x0 x1 x2 x3 h = L! ih 100000 cuts108 124 [0, 1, 5, 6] [x0, x1, x2, x3] h (p! 108) := by kernel_rfl
theorem E173 : E! 173 G173 := @entL Tryz.prog (orc fn I) _ 86 _ 108 124 [0, 1, 5, 6] 100000 cuts108 (by kernel_rfl) fit108 fun ih vs h => c4 (X := fun r => L! ih 100000 cuts108 124 [0, 1, 5, 6] r h (p! 108)) (e173 fn I ih · · · · h) vs
theorem e214 (ih : 𝕀) (x0 : V) (h : Hp) : B214 ih x0 h = F! ih 100000 cuts107 [x0] h (p! 107) := by kernel_rfl
theorem E214 (hf : ∀ vs h, fn 107 vs h = none) : E! 214 G214 := f! 107 hf 100000 cuts107 fit107 fun ih vs h => c1 (X := fun r => F! ih 100000 cuts107 r h (p! 107)) (e214 fn I ih · h) vs
theorem F214 (hf : ∀ vs h, fn 107 vs h = none) {x0 : V} {h : Hp} {p : V × Hp} (hp : B214 (L fn I) x0 h = some p) : L fn I 214 [x0] h = some p := @lim_ent Tryz.prog (orc fn I) labs 214 G214 (E214 fn I hf) [x0] h p (show G214 (L fn I) [x0] h = some p from hp)
theorem e175 (ih : 𝕀) (x0 x1 x2 : V) (h : Hp) : B175 ih x0 x1 x2 h = L! ih 100000 cuts107 58 [0, 3, 4] [x0, x1, x2] h (p! 107) := by kernel_rfl
theorem E175 : E! 175 G175 := @entL Tryz.prog (orc fn I) _ 87 _ 107 58 [0, 3, 4] 100000 cuts107 (by kernel_rfl) fit107 fun ih vs h => c3 (X := fun r => L! ih 100000 cuts107 58 [0, 3, 4] r h (p! 107)) (e175 fn I ih · · · h) vs
theorem F175 {x0 x1 x2 : V} {h : Hp} {p : V × Hp} (hp : B175 (L fn I) x0 x1 x2 h = some p) : L fn I 175 [x0, x1, x2] h = some p := @lim_ent Tryz.prog (orc fn I) labs 175 G175 (E175 fn I) [x0, x1, x2] h p (show G175 (L fn I) [x0, x1, x2] h = some p from hp)
theorem e212 (ih : 𝕀) (x0 : V) (h : Hp) : B212 ih x0 h = F! ih 100000 cuts106 [x0] h (p! 106) := by kernel_rfl
theorem E212 (hf : ∀ vs h, fn 106 vs h = none) : E! 212 G212 := f! 106 hf 100000 cuts106 fit106 fun ih vs h => c1 (X := fun r => F! ih 100000 cuts106 r h (p! 106)) (e212 fn I ih · h) vs
theorem e210 (ih : 𝕀) (x0 x1 : V) (h : Hp) : B210 ih x0 x1 h = F! ih 100000 cuts105 [x0, x1] h (p! 105) := by kernel_rfl
theorem E210 (hf : ∀ vs h, fn 105 vs h = none) : E! 210 G210 := f! 105 hf 100000 cuts105 fit105 fun ih vs h => c2 (X := fun r => F! ih 100000 cuts105 r h (p! 105)) (e210 fn I ih · · h) vs
theorem F210 (hf : ∀ vs h, fn 105 vs h = none) {x0 x1 : V} {h : Hp} {p : V × Hp} (hp : B210 (L fn I) x0 x1 h = some p) : L fn I 210 [x0, x1] h = some p := @lim_ent Tryz.prog (orc fn I) labs 210 G210 (E210 fn I hf) [x0, x1] h p (show G210 (L fn I) [x0, x1] h = some p from hp)
theorem e208 (ih : 𝕀) (x0 : V) (h : Hp) : B208 ih x0 h = F! ih 100000 cuts104 [x0] h (p! 104) := by kernel_rfl
theorem E208 (hf : ∀ vs h, fn 104 vs h = none) : E! 208 G208 := f! 104 hf 100000 cuts104 fit104 fun ih vs h => c1 (X := fun r => F! ih 100000 cuts104 r h (p! 104)) (e208 fn I ih · h) vs
theorem e200 (ih : 𝕀) (x0 x1 : V) (h : Hp) : B200 ih x0 x1 h = F! ih 100000 cuts100 [x0, x1] h (p! 100) := by kernel_rfl
theorem E200 (hf : ∀ vs h, fn 100 vs h = none) : E! 200 G200 := f! 100 hf 100000 cuts100 fit100 fun ih vs h => c2 (X := fun r => F! ih 100000 cuts100 r h (p! 100)) (e200 fn I ih · · h) vs
theorem F200 (hf : ∀ vs h, fn 100 vs h = none) {x0 x1 : V} {h : Hp} {p : V × Hp} (hp : B200 (L fn I) x0 x1 h = some p) : L fn I 200 [x0, x1] h = some p := @lim_ent Tryz.prog (orc fn I) labs 200 G200 (E200 fn I hf) [x0, x1] h p (show G200 (L fn I) [x0, x1] h = some p from hp)
theorem e177 (ih : 𝕀) (x0 x1 x2 : V) (h : Hp) : B177 ih x0 x1 x2 h = L! ih 100000 cuts100 26 [0, 1, 5] [x0, x1, x2] h (p! 100) := by kernel_rfl
theorem E177 : E! 177 G177 := @entL Tryz.prog (orc fn I) _ 88 _ 100 26 [0, 1, 5] 100000 cuts100 (by kernel_rfl) fit100 fun ih vs h => c3 (X := fun r => L! ih 100000 cuts100 26 [0, 1, 5] r h (p! 100)) (e177 fn I ih · · · h) vs
theorem F177 {x0 x1 x2 : V} {h : Hp} {p : V × Hp} (hp : B177 (L fn I) x0 x1 x2 h = some p) : L fn I 177 [x0, x1, x2] h = some p := @lim_ent Tryz.prog (orc fn I) labs 177 G177 (E177 fn I) [x0, x1, x2] h p (show G177 (L fn I) [x0, x1, x2] h = some p from hp)
theorem e194 (ih : 𝕀) (x0 : V) (h : Hp) : B194 ih x0 h = F! ih 100000 cuts97 [x0] h (p! 97) := by kernel_rfl
theorem E194 (hf : ∀ vs h, fn 97 vs h = none) : E! 194 G194 := f! 97 hf 100000 cuts97 fit97 fun ih vs h => c1 (X := fun r => F! ih 100000 cuts97 r h (p! 97)) (e194 fn I ih · h) vs
theorem e184 (ih : 𝕀) (x0 x1 : V) (h : Hp) : B184 ih x0 x1 h = F! ih 100000 cuts92 [x0, x1] h (p! 92) := by kernel_rfl
theorem E184 (hf : ∀ vs h, fn 92 vs h = none) : E! 184 G184 := f! 92 hf 100000 cuts92 fit92 fun ih vs h => c2 (X := fun r => F! ih 100000 cuts92 r h (p! 92)) (e184 fn I ih · · h) vs
theorem e192 (ih : 𝕀) (x0 x1 : V) (h : Hp) : B192 ih x0 x1 h = F! ih 100000 cuts96 [x0, x1] h (p! 96) := by kernel_rfl
theorem E192 (hf : ∀ vs h, fn 96 vs h = none) : E! 192 G192 := f! 96 hf 100000 cuts96 fit96 fun ih vs h => c2 (X := fun r => F! ih 100000 cuts96 r h (p! 96)) (e192 fn I ih · · h) vs
theorem e190 (ih : 𝕀) (x0 x1 : V) (h : Hp) : B190 ih x0 x1 h = F! ih 100000 cuts95 [x0, x1] h (p! 95) := by kernel_rfl
theorem E190 (hf : ∀ vs h, fn 95 vs h = none) : E! 190 G190 := f! 95 hf 100000 cuts95 fit95 fun ih vs h => c2 (X := fun r => F! ih 100000 cuts95 r h (p! 95)) (e190 fn I ih · · h) vs
theorem e182 (ih : 𝕀) (x0 x1 : V) (h : Hp) : B182 ih x0 x1 h = F! ih 100000 cuts91 [x0, x1] h (p! 91) := by kernel_rfl
theorem E182 (hf : ∀ vs h, fn 91 vs h = none) : E! 182 G182 := f! 91 hf 100000 cuts91 fit91 fun ih vs h => c2 (X := fun r => F! ih 100000 cuts91 r h (p! 91)) (e182 fn I ih · · h) vs
theorem e179 (ih : 𝕀) (x0 x1 x2 x3 x4 : V) (h : Hp) : B179 ih x0 x1 x2 x3 x4 h = L! ih 100000 cuts91 58 [0, 5, 8, 9, 10] [x0, x1, x2, x3, x4] h (p! 91) := by kernel_rfl
theorem E179 : E! 179 G179 := @entL Tryz.prog (orc fn I) _ 89 _ 91 58 [0, 5, 8, 9, 10] 100000 cuts91 (by kernel_rfl) fit91 fun ih vs h => c5 (X := fun r => L! ih 100000 cuts91 58 [0, 5, 8, 9, 10] r h (p! 91)) (e179 fn I ih · · · · · h) vs
theorem e188 (ih : 𝕀) (x0 x1 : V) (h : Hp) : B188 ih x0 x1 h = F! ih 100000 cuts94 [x0, x1] h (p! 94) := by kernel_rfl
theorem E188 (hf : ∀ vs h, fn 94 vs h = none) : E! 188 G188 := f! 94 hf 100000 cuts94 fit94 fun ih vs h => c2 (X := fun r => F! ih 100000 cuts94 r h (p! 94)) (e188 fn I ih · · h) vs
theorem e181 (ih : 𝕀) (x0 x1 x2 x3 : V) (h : Hp) : B181 ih x0 x1 x2 x3 h = L! ih 100000 cuts94 60 [0, 3, 4, 5] [x0, x1, x2, x3] h (p! 94) := by kernel_rfl
theorem E181 : E! 181 G181 := @entL Tryz.prog (orc fn I) _ 90 _ 94 60 [0, 3, 4, 5] 100000 cuts94 (by kernel_rfl) fit94 fun ih vs h => c4 (X := fun r => L! ih 100000 cuts94 60 [0, 3, 4, 5] r h (p! 94)) (e181 fn I ih · · · · h) vs
theorem e183 (ih : 𝕀) (x0 x1 : V) (h : Hp) : B183 ih x0 x1 h = L! ih 100000 cuts94 63 [0, 4] [x0, x1] h (p! 94) := by kernel_rfl
theorem E183 : E! 183 G183 := @entL Tryz.prog (orc fn I) _ 91 _ 94 63 [0, 4] 100000 cuts94 (by kernel_rfl) fit94 fun ih vs h => c2 (X := fun r => L! ih 100000 cuts94 63 [0, 4] r h (p! 94)) (e183 fn I ih · · h) vs
theorem e185 (ih : 𝕀) (x0 x1 x2 x3 : V) (h : Hp) : B185 ih x0 x1 x2 x3 h = L! ih 100000 cuts94 254 [0, 60, 61, 62] [x0, x1, x2, x3] h (p! 94) := by kernel_rfl
theorem E185 : E! 185 G185 := @entL Tryz.prog (orc fn I) _ 92 _ 94 254 [0, 60, 61, 62] 100000 cuts94 (by kernel_rfl) fit94 fun ih vs h => c4 (X := fun r => L! ih 100000 cuts94 254 [0, 60, 61, 62] r h (p! 94)) (e185 fn I ih · · · · h) vs
theorem e187 (ih : 𝕀) (x0 x1 x2 x3 x4 : V) (h : Hp) : B187 ih x0 x1 x2 x3 x4 h = L! ih 100000 cuts94 15439 [0, 3, 4, 5, 7] [x0, x1, x2, x3, x4] h (p! 94) := by kernel_rfl
theorem E187 : E! 187 G187 := @entL Tryz.prog (orc fn I) _ 93 _ 94 15439 [0, 3, 4, 5, 7] 100000 cuts94 (by kernel_rfl) fit94 fun ih vs h => c5 (X := fun r => L! ih 100000 cuts94 15439 [0, 3, 4, 5, 7] r h (p! 94)) (e187 fn I ih · · · · · h) vs
theorem e186 (ih : 𝕀) (x0 x1 : V) (h : Hp) : B186 ih x0 x1 h = F! ih 100000 cuts93 [x0, x1] h (p! 93) := by kernel_rfl
theorem E186 (hf : ∀ vs h, fn 93 vs h = none) : E! 186 G186 := f! 93 hf 100000 cuts93 fit93 fun ih vs h => c2 (X := fun r => F! ih 100000 cuts93 r h (p! 93)) (e186 fn I ih · · h) vs
theorem e189 (ih : 𝕀) (x0 x1 x2 x3 x4 : V) (h : Hp) : B189 ih x0 x1 x2 x3 x4 h = L! ih 100000 cuts93 255 [2, 3, 4, 7, 8] [x0, x1, x2, x3, x4] h (p! 93) := by kernel_rfl
theorem E189 : E! 189 G189 := @entL Tryz.prog (orc fn I) _ 94 _ 93 255 [2, 3, 4, 7, 8] 100000 cuts93 (by kernel_rfl) fit93 fun ih vs h => c5 (X := fun r => L! ih 100000 cuts93 255 [2, 3, 4, 7, 8] r h (p! 93)) (e189 fn I ih · · · · · h) vs
theorem e191 (ih : 𝕀) (x0 x1 : V) (h : Hp) : B191 ih x0 x1 h = L! ih 100000 cuts93 2047 [2, 4] [x0, x1] h (p! 93) := by kernel_rfl
theorem E191 : E! 191 G191 := @entL Tryz.prog (orc fn I) _ 95 _ 93 2047 [2, 4] 100000 cuts93 (by kernel_rfl) fit93 fun ih vs h => c2 (X := fun r => L! ih 100000 cuts93 2047 [2, 4] r h (p! 93)) (e191 fn I ih · · h) vs
theorem e193 (ih : 𝕀) (x0 x1 x2 x3 : V) (h : Hp) : B193 ih x0 x1 x2 x3 h = L! ih 100000 cuts93 8190 [2, 157, 158, 159] [x0, x1, x2, x3] h (p! 93) := by kernel_rfl
theorem E193 : E! 193 G193 := @entL Tryz.prog (orc fn I) _ 96 _ 93 8190 [2, 157, 158, 159] 100000 cuts93 (by kernel_rfl) fit93 fun ih vs h => c4 (X := fun r => L! ih 100000 cuts93 8190 [2, 157, 158, 159] r h (p! 93)) (e193 fn I ih · · · · h) vs
theorem e195 (ih : 𝕀) (x0 x1 x2 x3 x4 x5 x6 : V) (h : Hp) : B195 ih x0 x1 x2 x3 x4 x5 x6 h = L! ih 100000 cuts93 65215 [2, 3, 4, 5, 6, 11, 12] [x0, x1, x2, x3, x4, x5, x6] h (p! 93) := by kernel_rfl
theorem E195 : E! 195 G195 := @entL Tryz.prog (orc fn I) _ 97 _ 93 65215 [2, 3, 4, 5, 6, 11, 12] 100000 cuts93 (by kernel_rfl) fit93 fun ih vs h => c7 (X := fun r => L! ih 100000 cuts93 65215 [2, 3, 4, 5, 6, 11, 12] r h (p! 93)) (e195 fn I ih · · · · · · · h) vs
theorem e197 (ih : 𝕀) (x0 x1 x2 x3 x4 x5 x6 x7 x8 x9 : V) (h : Hp) : B197 ih x0 x1 x2 x3 x4 x5 x6 x7 x8 x9 h = L! ih 100000 cuts93 66781178 [2, 3, 4, 5, 6, 12, 15, 64, 65, 66] [x0, x1, x2, x3, x4, x5, x6, x7, x8, x9] h (p! 93) := by kernel_rfl
theorem E197 : E! 197 G197 := @entL Tryz.prog (orc fn I) _ 98 _ 93 66781178 [2, 3, 4, 5, 6, 12, 15, 64, 65, 66] 100000 cuts93 (by kernel_rfl) fit93 fun ih vs h => c10 (X := fun r => L! ih 100000 cuts93 66781178 [2, 3, 4, 5, 6, 12, 15, 64, 65, 66] r h (p! 93)) (e197 fn I ih · · · · · · · · · · h) vs
theorem e180 (ih : 𝕀) (x0 : V) (h : Hp) : B180 ih x0 h = F! ih 100000 cuts90 [x0] h (p! 90) := by kernel_rfl
theorem E180 (hf : ∀ vs h, fn 90 vs h = none) : E! 180 G180 := f! 90 hf 100000 cuts90 fit90 fun ih vs h => c1 (X := fun r => F! ih 100000 cuts90 r h (p! 90)) (e180 fn I ih · h) vs
theorem e176 (ih : 𝕀) (x0 x1 : V) (h : Hp) : B176 ih x0 x1 h = F! ih 100000 cuts88 [x0, x1] h (p! 88) := by kernel_rfl
theorem E176 (hf : ∀ vs h, fn 88 vs h = none) : E! 176 G176 := f! 88 hf 100000 cuts88 fit88 fun ih vs h => c2 (X := fun r => F! ih 100000 cuts88 r h (p! 88)) (e176 fn I ih · · h) vs
theorem e178 (ih : 𝕀) (x0 x1 : V) (h : Hp) : B178 ih x0 x1 h = F! ih 100000 cuts89 [x0, x1] h (p! 89) := by kernel_rfl
theorem E178 (hf : ∀ vs h, fn 89 vs h = none) : E! 178 G178 := f! 89 hf 100000 cuts89 fit89 fun ih vs h => c2 (X := fun r => F! ih 100000 cuts89 r h (p! 89)) (e178 fn I ih · · h) vs
theorem e174 (ih : 𝕀) (x0 x1 : V) (h : Hp) : B174 ih x0 x1 h = F! ih 100000 cuts87 [x0, x1] h (p! 87) := by kernel_rfl
theorem E174 (hf : ∀ vs h, fn 87 vs h = none) : E! 174 G174 := f! 87 hf 100000 cuts87 fit87 fun ih vs h => c2 (X := fun r => F! ih 100000 cuts87 r h (p! 87)) (e174 fn I ih · · h) vs
theorem e199 (ih : 𝕀) (x0 x1 x2 x3 : V) (h : Hp) : B199 ih x0 x1 x2 x3 h = L! ih 100000 cuts87 26 [0, 1, 7, 8] [x0, x1, x2, x3] h (p! 87) := by kernel_rfl
theorem E199 : E! 199 G199 := @entL Tryz.prog (orc fn I) _ 99 _ 87 26 [0, 1, 7, 8] 100000 cuts87 (by kernel_rfl) fit87 fun ih vs h => c4 (X := fun r => L! ih 100000 cuts87 26 [0, 1, 7, 8] r h (p! 87)) (e199 fn I ih · · · · h) vs
theorem e172 (ih : 𝕀) (x0 : V) (h : Hp) : B172 ih x0 h = F! ih 100000 cuts86 [x0] h (p! 86) := by kernel_rfl
theorem E172 (hf : ∀ vs h, fn 86 vs h = none) : E! 172 G172 := f! 86 hf 100000 cuts86 fit86 fun ih vs h => c1 (X := fun r => F! ih 100000 cuts86 r h (p! 86)) (e172 fn I ih · h) vs
theorem e170 (ih : 𝕀) (x0 x1 x2 : V) (h : Hp) : B170 ih x0 x1 x2 h = F! ih 100000 cuts85 [x0, x1, x2] h (p! 85) := by kernel_rfl
theorem E170 (hf : ∀ vs h, fn 85 vs h = none) : E! 170 G170 := f! 85 hf 100000 cuts85 fit85 fun ih vs h => c3 (X := fun r => F! ih 100000 cuts85 r h (p! 85)) (e170 fn I ih · · · h) vs
theorem e164 (ih : 𝕀) (x0 x1 x2 : V) (h : Hp) : B164 ih x0 x1 x2 h = F! ih 100000 cuts82 [x0, x1, x2] h (p! 82) := by kernel_rfl
theorem E164 (hf : ∀ vs h, fn 82 vs h = none) : E! 164 G164 := f! 82 hf 100000 cuts82 fit82 fun ih vs h => c3 (X := fun r => F! ih 100000 cuts82 r h (p! 82)) (e164 fn I ih · · · h) vs
theorem e154 (ih : 𝕀) (x0 x1 x2 x3 x4 : V) (h : Hp) : B154 ih x0 x1 x2 x3 x4 h = F! ih 100000 cuts77 [x0, x1, x2, x3, x4] h (p! 77) := by kernel_rfl
theorem E154 (hf : ∀ vs h, fn 77 vs h = none) : E! 154 G154 := f! 77 hf 100000 cuts77 fit77 fun ih vs h => c5 (X := fun r => F! ih 100000 cuts77 r h (p! 77)) (e154 fn I ih · · · · · h) vs
theorem e166 (ih : 𝕀) (x0 : V) (h : Hp) : B166 ih x0 h = F! ih 100000 cuts83 [x0] h (p! 83) := by kernel_rfl
theorem E166 (hf : ∀ vs h, fn 83 vs h = none) : E! 166 G166 := f! 83 hf 100000 cuts83 fit83 fun ih vs h => c1 (X := fun r => F! ih 100000 cuts83 r h (p! 83)) (e166 fn I ih · h) vs
theorem e150 (ih : 𝕀) (x0 x1 x2 : V) (h : Hp) : B150 ih x0 x1 x2 h = F! ih 100000 cuts75 [x0, x1, x2] h (p! 75) := by kernel_rfl
theorem E150 (hf : ∀ vs h, fn 75 vs h = none) : E! 150 G150 := f! 75 hf 100000 cuts75 fit75 fun ih vs h => c3 (X := fun r => F! ih 100000 cuts75 r h (p! 75)) (e150 fn I ih · · · h) vs
theorem e162 (ih : 𝕀) (x0 : V) (h : Hp) : B162 ih x0 h = F! ih 100000 cuts81 [x0] h (p! 81) := by kernel_rfl
theorem E162 (hf : ∀ vs h, fn 81 vs h = none) : E! 162 G162 := f! 81 hf 100000 cuts81 fit81 fun ih vs h => c1 (X := fun r => F! ih 100000 cuts81 r h (p! 81)) (e162 fn I ih · h) vs
theorem e201 (ih : 𝕀) (x0 x1 x2 : V) (h : Hp) : B201 ih x0 x1 x2 h = L! ih 100000 cuts81 58 [0, 21, 22] [x0, x1, x2] h (p! 81) := by kernel_rfl
theorem E201 : E! 201 G201 := @entL Tryz.prog (orc fn I) _ 100 _ 81 58 [0, 21, 22] 100000 cuts81 (by kernel_rfl) fit81 fun ih vs h => c3 (X := fun r => L! ih 100000 cuts81 58 [0, 21, 22] r h (p! 81)) (e201 fn I ih · · · h) vs
theorem e158 (ih : 𝕀) (x0 x1 x2 : V) (h : Hp) : B158 ih x0 x1 x2 h = F! ih 100000 cuts79 [x0, x1, x2] h (p! 79) := by kernel_rfl
theorem E158 (hf : ∀ vs h, fn 79 vs h = none) : E! 158 G158 := f! 79 hf 100000 cuts79 fit79 fun ih vs h => c3 (X := fun r => F! ih 100000 cuts79 r h (p! 79)) (e158 fn I ih · · · h) vs
theorem e152 (ih : 𝕀) (x0 x1 : V) (h : Hp) : B152 ih x0 x1 h = F! ih 100000 cuts76 [x0, x1] h (p! 76) := by kernel_rfl
theorem E152 (hf : ∀ vs h, fn 76 vs h = none) : E! 152 G152 := f! 76 hf 100000 cuts76 fit76 fun ih vs h => c2 (X := fun r => F! ih 100000 cuts76 r h (p! 76)) (e152 fn I ih · · h) vs
theorem e160 (ih : 𝕀) (x0 x1 : V) (h : Hp) : B160 ih x0 x1 h = F! ih 100000 cuts80 [x0, x1] h (p! 80) := by kernel_rfl
theorem E160 (hf : ∀ vs h, fn 80 vs h = none) : E! 160 G160 := f! 80 hf 100000 cuts80 fit80 fun ih vs h => c2 (X := fun r => F! ih 100000 cuts80 r h (p! 80)) (e160 fn I ih · · h) vs
theorem e203 (ih : 𝕀) (x0 x1 x2 x3 : V) (h : Hp) : B203 ih x0 x1 x2 x3 h = L! ih 100000 cuts80 58 [2, 3, 5, 6] [x0, x1, x2, x3] h (p! 80) := by kernel_rfl
theorem E203 : E! 203 G203 := @entL Tryz.prog (orc fn I) _ 101 _ 80 58 [2, 3, 5, 6] 100000 cuts80 (by kernel_rfl) fit80 fun ih vs h => c4 (X := fun r => L! ih 100000 cuts80 58 [2, 3, 5, 6] r h (p! 80)) (e203 fn I ih · · · · h) vs
theorem e156 (ih : 𝕀) (x0 : V) (h : Hp) : B156 ih x0 h = F! ih 100000 cuts78 [x0] h (p! 78) := by kernel_rfl
theorem E156 (hf : ∀ vs h, fn 78 vs h = none) : E! 156 G156 := f! 78 hf 100000 cuts78 fit78 fun ih vs h => c1 (X := fun r => F! ih 100000 cuts78 r h (p! 78)) (e156 fn I ih · h) vs
theorem e282 (ih : 𝕀) (x0 x1 x2 : V) (h : Hp) : B282 ih x0 x1 x2 h = F! ih 100000 cuts141 [x0, x1, x2] h (p! 141) := by kernel_rfl
theorem E282 (hf : ∀ vs h, fn 141 vs h = none) : E! 282 G282 := f! 141 hf 100000 cuts141 fit141 fun ih vs h => c3 (X := fun r => F! ih 100000 cuts141 r h (p! 141)) (e282 fn I ih · · · h) vs
theorem e205 (ih : 𝕀) (x0 x1 x2 x3 : V) (h : Hp) : B205 ih x0 x1 x2 x3 h = L! ih 100000 cuts141 1020 [0, 1, 2, 7] [x0, x1, x2, x3] h (p! 141) := by kernel_rfl
theorem E205 : E! 205 G205 := @entL Tryz.prog (orc fn I) _ 102 _ 141 1020 [0, 1, 2, 7] 100000 cuts141 (by kernel_rfl) fit141 fun ih vs h => c4 (X := fun r => L! ih 100000 cuts141 1020 [0, 1, 2, 7] r h (p! 141)) (e205 fn I ih · · · · h) vs
theorem e207 (ih : 𝕀) (x0 x1 x2 : V) (h : Hp) : B207 ih x0 x1 x2 h = L! ih 100000 cuts141 8161 [0, 1, 2] [x0, x1, x2] h (p! 141) := by kernel_rfl
theorem E207 : E! 207 G207 := @entL Tryz.prog (orc fn I) _ 103 _ 141 8161 [0, 1, 2] 100000 cuts141 (by kernel_rfl) fit141 fun ih vs h => c3 (X := fun r => L! ih 100000 cuts141 8161 [0, 1, 2] r h (p! 141)) (e207 fn I ih · · · h) vs
theorem e280 (ih : 𝕀) (x0 x1 x2 : V) (h : Hp) : B280 ih x0 x1 x2 h = F! ih 100000 cuts140 [x0, x1, x2] h (p! 140) := by kernel_rfl
theorem E280 (hf : ∀ vs h, fn 140 vs h = none) : E! 280 G280 := f! 140 hf 100000 cuts140 fit140 fun ih vs h => c3 (X := fun r => F! ih 100000 cuts140 r h (p! 140)) (e280 fn I ih · · · h) vs
theorem e278 (ih : 𝕀) (x0 x1 x2 : V) (h : Hp) : B278 ih x0 x1 x2 h = F! ih 100000 cuts139 [x0, x1, x2] h (p! 139) := by kernel_rfl
theorem E278 (hf : ∀ vs h, fn 139 vs h = none) : E! 278 G278 := f! 139 hf 100000 cuts139 fit139 fun ih vs h => c3 (X := fun r => F! ih 100000 cuts139 r h (p! 139)) (e278 fn I ih · · · h) vs
theorem e211 (ih : 𝕀) (x0 x1 x2 x3 x4 : V) (h : Hp) : B211 ih x0 x1 x2 x3 x4 h = L! ih 100000 cuts139 31 [0, 1, 2, 7, 8] [x0, x1, x2, x3, x4] h (p! 139) := by kernel_rfl
theorem E211 : E! 211 G211 := @entL Tryz.prog (orc fn I) _ 105 _ 139 31 [0, 1, 2, 7, 8] 100000 cuts139 (by kernel_rfl) fit139 fun ih vs h => c5 (X := fun r => L! ih 100000 cuts139 31 [0, 1, 2, 7, 8] r h (p! 139)) (e211 fn I ih · · · · · h) vs
theorem e213 (ih : 𝕀) (x0 x1 x2 x3 x4 x5 : V) (h : Hp) : B213 ih x0 x1 x2 x3 x4 x5 h = L! ih 100000 cuts139 60 [0, 1, 2, 6, 7, 8] [x0, x1, x2, x3, x4, x5] h (p! 139) := by kernel_rfl
theorem E213 : E! 213 G213 := @entL Tryz.prog (orc fn I) _ 106 _ 139 60 [0, 1, 2, 6, 7, 8] 100000 cuts139 (by kernel_rfl) fit139 fun ih vs h => c6 (X := fun r => L! ih 100000 cuts139 60 [0, 1, 2, 6, 7, 8] r h (p! 139)) (e213 fn I ih · · · · · · h) vs
theorem e272 (ih : 𝕀) (x0 : V) (h : Hp) : B272 ih x0 h = F! ih 100000 cuts136 [x0] h (p! 136) := by kernel_rfl
theorem E272 (hf : ∀ vs h, fn 136 vs h = none) : E! 272 G272 := f! 136 hf 100000 cuts136 fit136 fun ih vs h => c1 (X := fun r => F! ih 100000 cuts136 r h (p! 136)) (e272 fn I ih · h) vs
theorem e217 (ih : 𝕀) (x0 : V) (h : Hp) : B217 ih x0 h = L! ih 100000 cuts136 15 [0] [x0] h (p! 136) := by kernel_rfl
theorem E217 : E! 217 G217 := @entL Tryz.prog (orc fn I) _ 108 _ 136 15 [0] 100000 cuts136 (by kernel_rfl) fit136 fun ih vs h => c1 (X := fun r => L! ih 100000 cuts136 15 [0] r h (p! 136)) (e217 fn I ih · h) vs
theorem e276 (ih : 𝕀) (x0 x1 : V) (h : Hp) : B276 ih x0 x1 h = F! ih 100000 cuts138 [x0, x1] h (p! 138) := by kernel_rfl
theorem E276 (hf : ∀ vs h, fn 138 vs h = none) : E! 276 G276 := f! 138 hf 100000 cuts138 fit138 fun ih vs h => c2 (X := fun r => F! ih 100000 cuts138 r h (p! 138)) (e276 fn I ih · · h) vs
theorem e266 (ih : 𝕀) (x0 x1 : V) (h : Hp) : B266 ih x0 x1 h = F! ih 100000 cuts133 [x0, x1] h (p! 133) := by kernel_rfl
theorem E266 (hf : ∀ vs h, fn 133 vs h = none) : E! 266 G266 := f! 133 hf 100000 cuts133 fit133 fun ih vs h => c2 (X := fun r => F! ih 100000 cuts133 r h (p! 133)) (e266 fn I ih · · h) vs
theorem e274 (ih : 𝕀) (x0 x1 : V) (h : Hp) : B274 ih x0 x1 h = F! ih 100000 cuts137 [x0, x1] h (p! 137) := by kernel_rfl
theorem E274 (hf : ∀ vs h, fn 137 vs h = none) : E! 274 G274 := f! 137 hf 100000 cuts137 fit137 fun ih vs h => c2 (X := fun r => F! ih 100000 cuts137 r h (p! 137)) (e274 fn I ih · · h) vs
theorem e219 (ih : 𝕀) (x0 x1 : V) (h : Hp) : B219 ih x0 x1 h = L! ih 100000 cuts137 12 [0, 1] [x0, x1] h (p! 137) := by kernel_rfl
theorem E219 : E! 219 G219 := @entL Tryz.prog (orc fn I) _ 109 _ 137 12 [0, 1] 100000 cuts137 (by kernel_rfl) fit137 fun ih vs h => c2 (X := fun r => L! ih 100000 cuts137 12 [0, 1] r h (p! 137)) (e219 fn I ih · · h) vs
theorem e221 (ih : 𝕀) (x0 x1 : V) (h : Hp) : B221 ih x0 x1 h = L! ih 100000 cuts137 395 [0, 1] [x0, x1] h (p! 137) := by kernel_rfl
theorem E221 : E! 221 G221 := @entL Tryz.prog (orc fn I) _ 110 _ 137 395 [0, 1] 100000 cuts137 (by kernel_rfl) fit137 fun ih vs h => c2 (X := fun r => L! ih 100000 cuts137 395 [0, 1] r h (p! 137)) (e221 fn I ih · · h) vs
theorem e270 (ih : 𝕀) (x0 : V) (h : Hp) : B270 ih x0 h = F! ih 100000 cuts135 [x0] h (p! 135) := by kernel_rfl
theorem E270 (hf : ∀ vs h, fn 135 vs h = none) : E! 270 G270 := f! 135 hf 100000 cuts135 fit135 fun ih vs h => c1 (X := fun r => F! ih 100000 cuts135 r h (p! 135)) (e270 fn I ih · h) vs
theorem e223 (ih : 𝕀) (x0 x1 x2 x3 : V) (h : Hp) : B223 ih x0 x1 x2 x3 h = L! ih 100000 cuts135 122 [0, 5, 6, 7] [x0, x1, x2, x3] h (p! 135) := by kernel_rfl
theorem E223 : E! 223 G223 := @entL Tryz.prog (orc fn I) _ 111 _ 135 122 [0, 5, 6, 7] 100000 cuts135 (by kernel_rfl) fit135 fun ih vs h => c4 (X := fun r => L! ih 100000 cuts135 122 [0, 5, 6, 7] r h (p! 135)) (e223 fn I ih · · · · h) vs
theorem e268 (ih : 𝕀) (x0 x1 : V) (h : Hp) : B268 ih x0 x1 h = F! ih 100000 cuts134 [x0, x1] h (p! 134) := by kernel_rfl
theorem E268 (hf : ∀ vs h, fn 134 vs h = none) : E! 268 G268 := f! 134 hf 100000 cuts134 fit134 fun ih vs h => c2 (X := fun r => F! ih 100000 cuts134 r h (p! 134)) (e268 fn I ih · · h) vs
theorem e225 (ih : 𝕀) (x0 x1 x2 x3 x4 x5 : V) (h : Hp) : B225 ih x0 x1 x2 x3 x4 x5 h = L! ih 100000 cuts134 250 [0, 1, 5, 6, 7, 8] [x0, x1, x2, x3, x4, x5] h (p! 134) := by kernel_rfl
theorem E225 : E! 225 G225 := @entL Tryz.prog (orc fn I) _ 112 _ 134 250 [0, 1, 5, 6, 7, 8] 100000 cuts134 (by kernel_rfl) fit134 fun ih vs h => c6 (X := fun r => L! ih 100000 cuts134 250 [0, 1, 5, 6, 7, 8] r h (p! 134)) (e225 fn I ih · · · · · · h) vs
theorem e264 (ih : 𝕀) (h : Hp) : B264 ih  h = F! ih 100000 cuts132 [] h (p! 132) := by kernel_rfl
theorem E264 (hf : ∀ vs h, fn 132 vs h = none) : E! 264 G264 := f! 132 hf 100000 cuts132 fit132 fun ih vs h => c0 (X := fun r => F! ih 100000 cuts132 r h (p! 132)) (e264 fn I ih h) vs
theorem F264 (hf : ∀ vs h, fn 132 vs h = none) {h : Hp} {p : V × Hp} (hp : B264 (L fn I)  h = some p) : L fn I 264 [] h = some p := @lim_ent Tryz.prog (orc fn I) labs 264 G264 (E264 fn I hf) [] h p (show G264 (L fn I) [] h = some p from hp)
theorem e260 (ih : 𝕀) (x0 : V) (h : Hp) : B260 ih x0 h = F! ih 100000 cuts130 [x0] h (p! 130) := by kernel_rfl
theorem E260 (hf : ∀ vs h, fn 130 vs h = none) : E! 260 G260 := f! 130 hf 100000 cuts130 fit130 fun ih vs h => c1 (X := fun r => F! ih 100000 cuts130 r h (p! 130)) (e260 fn I ih · h) vs
theorem e229 (ih : 𝕀) (x0 : V) (h : Hp) : B229 ih x0 h = L! ih 100000 cuts130 12 [0] [x0] h (p! 130) := by kernel_rfl
theorem E229 : E! 229 G229 := @entL Tryz.prog (orc fn I) _ 114 _ 130 12 [0] 100000 cuts130 (by kernel_rfl) fit130 fun ih vs h => c1 (X := fun r => L! ih 100000 cuts130 12 [0] r h (p! 130)) (e229 fn I ih · h) vs
theorem e231 (ih : 𝕀) (x0 : V) (h : Hp) : B231 ih x0 h = L! ih 100000 cuts130 28 [0] [x0] h (p! 130) := by kernel_rfl
theorem E231 : E! 231 G231 := @entL Tryz.prog (orc fn I) _ 115 _ 130 28 [0] 100000 cuts130 (by kernel_rfl) fit130 fun ih vs h => c1 (X := fun r => L! ih 100000 cuts130 28 [0] r h (p! 130)) (e231 fn I ih · h) vs
theorem e233 (ih : 𝕀) (x0 x1 : V) (h : Hp) : B233 ih x0 x1 h = L! ih 100000 cuts130 63 [0, 4] [x0, x1] h (p! 130) := by kernel_rfl
theorem E233 : E! 233 G233 := @entL Tryz.prog (orc fn I) _ 116 _ 130 63 [0, 4] 100000 cuts130 (by kernel_rfl) fit130 fun ih vs h => c2 (X := fun r => L! ih 100000 cuts130 63 [0, 4] r h (p! 130)) (e233 fn I ih · · h) vs
theorem e235 (ih : 𝕀) (x0 x1 x2 x3 : V) (h : Hp) : B235 ih x0 x1 x2 x3 h = L! ih 100000 cuts130 2042 [0, 4, 5, 6] [x0, x1, x2, x3] h (p! 130) := by kernel_rfl
theorem E235 : E! 235 G235 := @entL Tryz.prog (orc fn I) _ 117 _ 130 2042 [0, 4, 5, 6] 100000 cuts130 (by kernel_rfl) fit130 fun ih vs h => c4 (X := fun r => L! ih 100000 cuts130 2042 [0, 4, 5, 6] r h (p! 130)) (e235 fn I ih · · · · h) vs
theorem e237 (ih : 𝕀) (x0 : V) (h : Hp) : B237 ih x0 h = L! ih 100000 cuts130 2047 [5] [x0] h (p! 130) := by kernel_rfl
theorem E237 : E! 237 G237 := @entL Tryz.prog (orc fn I) _ 118 _ 130 2047 [5] 100000 cuts130 (by kernel_rfl) fit130 fun ih vs h => c1 (X := fun r => L! ih 100000 cuts130 2047 [5] r h (p! 130)) (e237 fn I ih · h) vs
theorem e258 (ih : 𝕀) (h : Hp) : B258 ih  h = F! ih 100000 cuts129 [] h (p! 129) := by kernel_rfl
theorem E258 (hf : ∀ vs h, fn 129 vs h = none) : E! 258 G258 := f! 129 hf 100000 cuts129 fit129 fun ih vs h => c0 (X := fun r => F! ih 100000 cuts129 r h (p! 129)) (e258 fn I ih h) vs
theorem F258 (hf : ∀ vs h, fn 129 vs h = none) {h : Hp} {p : V × Hp} (hp : B258 (L fn I)  h = some p) : L fn I 258 [] h = some p := @lim_ent Tryz.prog (orc fn I) labs 258 G258 (E258 fn I hf) [] h p (show G258 (L fn I) [] h = some p from hp)
theorem e256 (ih : 𝕀) (x0 : V) (h : Hp) : B256 ih x0 h = F! ih 100000 cuts128 [x0] h (p! 128) := by kernel_rfl
theorem E256 (hf : ∀ vs h, fn 128 vs h = none) : E! 256 G256 := f! 128 hf 100000 cuts128 fit128 fun ih vs h => c1 (X := fun r => F! ih 100000 cuts128 r h (p! 128)) (e256 fn I ih · h) vs
theorem e252 (ih : 𝕀) (x0 x1 : V) (h : Hp) : B252 ih x0 x1 h = F! ih 100000 cuts126 [x0, x1] h (p! 126) := by kernel_rfl
theorem E252 (hf : ∀ vs h, fn 126 vs h = none) : E! 252 G252 := f! 126 hf 100000 cuts126 fit126 fun ih vs h => c2 (X := fun r => F! ih 100000 cuts126 r h (p! 126)) (e252 fn I ih · · h) vs
theorem e239 (ih : 𝕀) (x0 x1 : V) (h : Hp) : B239 ih x0 x1 h = L! ih 100000 cuts126 31 [0, 6] [x0, x1] h (p! 126) := by kernel_rfl
theorem E239 : E! 239 G239 := @entL Tryz.prog (orc fn I) _ 119 _ 126 31 [0, 6] 100000 cuts126 (by kernel_rfl) fit126 fun ih vs h => c2 (X := fun r => L! ih 100000 cuts126 31 [0, 6] r h (p! 126)) (e239 fn I ih · · h) vs
theorem e254 (ih : 𝕀) (x0 x1 x2 x3 : V) (h : Hp) : B254 ih x0 x1 x2 x3 h = F! ih 100000 cuts127 [x0, x1, x2, x3] h (p! 127) := by kernel_rfl
theorem E254 (hf : ∀ vs h, fn 127 vs h = none) : E! 254 G254 := f! 127 hf 100000 cuts127 fit127 fun ih vs h => c4 (X := fun r => F! ih 100000 cuts127 r h (p! 127)) (e254 fn I ih · · · · h) vs
theorem e250 (ih : 𝕀) (x0 x1 : V) (h : Hp) : B250 ih x0 x1 h = F! ih 100000 cuts125 [x0, x1] h (p! 125) := by kernel_rfl
theorem E250 (hf : ∀ vs h, fn 125 vs h = none) : E! 250 G250 := f! 125 hf 100000 cuts125 fit125 fun ih vs h => c2 (X := fun r => F! ih 100000 cuts125 r h (p! 125)) (e250 fn I ih · · h) vs
theorem e241 (ih : 𝕀) (x0 x1 x2 x3 : V) (h : Hp) : B241 ih x0 x1 x2 x3 h = L! ih 100000 cuts125 26 [0, 1, 7, 8] [x0, x1, x2, x3] h (p! 125) := by kernel_rfl
theorem E241 : E! 241 G241 := @entL Tryz.prog (orc fn I) _ 120 _ 125 26 [0, 1, 7, 8] 100000 cuts125 (by kernel_rfl) fit125 fun ih vs h => c4 (X := fun r => L! ih 100000 cuts125 26 [0, 1, 7, 8] r h (p! 125)) (e241 fn I ih · · · · h) vs
theorem e244 (ih : 𝕀) (x0 : V) (h : Hp) : B244 ih x0 h = F! ih 100000 cuts122 [x0] h (p! 122) := by kernel_rfl
theorem E244 (hf : ∀ vs h, fn 122 vs h = none) : E! 244 G244 := f! 122 hf 100000 cuts122 fit122 fun ih vs h => c1 (X := fun r => F! ih 100000 cuts122 r h (p! 122)) (e244 fn I ih · h) vs
theorem e248 (ih : 𝕀) (x0 : V) (h : Hp) : B248 ih x0 h = F! ih 100000 cuts124 [x0] h (p! 124) := by kernel_rfl
theorem E248 (hf : ∀ vs h, fn 124 vs h = none) : E! 248 G248 := f! 124 hf 100000 cuts124 fit124 fun ih vs h => c1 (X := fun r => F! ih 100000 cuts124 r h (p! 124)) (e248 fn I ih · h) vs
theorem e246 (ih : 𝕀) (x0 : V) (h : Hp) : B246 ih x0 h = F! ih 100000 cuts123 [x0] h (p! 123) := by kernel_rfl
theorem E246 (hf : ∀ vs h, fn 123 vs h = none) : E! 246 G246 := f! 123 hf 100000 cuts123 fit123 fun ih vs h => c1 (X := fun r => F! ih 100000 cuts123 r h (p! 123)) (e246 fn I ih · h) vs
theorem e240 (ih : 𝕀) (x0 x1 : V) (h : Hp) : B240 ih x0 x1 h = F! ih 100000 cuts120 [x0, x1] h (p! 120) := by kernel_rfl
theorem E240 (hf : ∀ vs h, fn 120 vs h = none) : E! 240 G240 := f! 120 hf 100000 cuts120 fit120 fun ih vs h => c2 (X := fun r => F! ih 100000 cuts120 r h (p! 120)) (e240 fn I ih · · h) vs
theorem e242 (ih : 𝕀) (x0 : V) (h : Hp) : B242 ih x0 h = F! ih 100000 cuts121 [x0] h (p! 121) := by kernel_rfl
theorem E242 (hf : ∀ vs h, fn 121 vs h = none) : E! 242 G242 := f! 121 hf 100000 cuts121 fit121 fun ih vs h => c1 (X := fun r => F! ih 100000 cuts121 r h (p! 121)) (e242 fn I ih · h) vs
theorem e320 (ih : 𝕀) (x0 x1 : V) (h : Hp) : B320 ih x0 x1 h = F! ih 100000 cuts160 [x0, x1] h (p! 160) := by kernel_rfl
theorem E320 (hf : ∀ vs h, fn 160 vs h = none) : E! 320 G320 := f! 160 hf 100000 cuts160 fit160 fun ih vs h => c2 (X := fun r => F! ih 100000 cuts160 r h (p! 160)) (e320 fn I ih · · h) vs
theorem e316 (ih : 𝕀) (x0 x1 : V) (h : Hp) : B316 ih x0 x1 h = F! ih 100000 cuts158 [x0, x1] h (p! 158) := by kernel_rfl
theorem E316 (hf : ∀ vs h, fn 158 vs h = none) : E! 316 G316 := f! 158 hf 100000 cuts158 fit158 fun ih vs h => c2 (X := fun r => F! ih 100000 cuts158 r h (p! 158)) (e316 fn I ih · · h) vs
theorem e243 (ih : 𝕀) (x0 x1 x2 x3 : V) (h : Hp) : B243 ih x0 x1 x2 x3 h = L! ih 100000 cuts158 31 [0, 1, 5, 6] [x0, x1, x2, x3] h (p! 158) := by kernel_rfl
theorem E243 : E! 243 G243 := @entL Tryz.prog (orc fn I) _ 121 _ 158 31 [0, 1, 5, 6] 100000 cuts158 (by kernel_rfl) fit158 fun ih vs h => c4 (X := fun r => L! ih 100000 cuts158 31 [0, 1, 5, 6] r h (p! 158)) (e243 fn I ih · · · · h) vs
theorem e245 (ih : 𝕀) (x0 x1 x2 x3 : V) (h : Hp) : B245 ih x0 x1 x2 x3 h = L! ih 100000 cuts158 124 [0, 1, 5, 6] [x0, x1, x2, x3] h (p! 158) := by kernel_rfl
theorem E245 : E! 245 G245 := @entL Tryz.prog (orc fn I) _ 122 _ 158 124 [0, 1, 5, 6] 100000 cuts158 (by kernel_rfl) fit158 fun ih vs h => c4 (X := fun r => L! ih 100000 cuts158 124 [0, 1, 5, 6] r h (p! 158)) (e245 fn I ih · · · · h) vs
theorem e247 (ih : 𝕀) (x0 x1 x2 x3 : V) (h : Hp) : B247 ih x0 x1 x2 x3 h = L! ih 100000 cuts158 3979 [0, 1, 5, 8] [x0, x1, x2, x3] h (p! 158) := by kernel_rfl
theorem E247 : E! 247 G247 := @entL Tryz.prog (orc fn I) _ 123 _ 158 3979 [0, 1, 5, 8] 100000 cuts158 (by kernel_rfl) fit158 fun ih vs h => c4 (X := fun r => L! ih 100000 cuts158 3979 [0, 1, 5, 8] r h (p! 158)) (e247 fn I ih · · · · h) vs
theorem e314 (ih : 𝕀) (x0 x1 x2 x3 : V) (h : Hp) : B314 ih x0 x1 x2 x3 h = F! ih 100000 cuts157 [x0, x1, x2, x3] h (p! 157) := by kernel_rfl
theorem E314 (hf : ∀ vs h, fn 157 vs h = none) : E! 314 G314 := f! 157 hf 100000 cuts157 fit157 fun ih vs h => c4 (X := fun r => F! ih 100000 cuts157 r h (p! 157)) (e314 fn I ih · · · · h) vs
theorem e249 (ih : 𝕀) (x0 x1 x2 : V) (h : Hp) : B249 ih x0 x1 x2 h = L! ih 100000 cuts157 31 [0, 1, 9] [x0, x1, x2] h (p! 157) := by kernel_rfl
theorem E249 : E! 249 G249 := @entL Tryz.prog (orc fn I) _ 124 _ 157 31 [0, 1, 9] 100000 cuts157 (by kernel_rfl) fit157 fun ih vs h => c3 (X := fun r => L! ih 100000 cuts157 31 [0, 1, 9] r h (p! 157)) (e249 fn I ih · · · h) vs
theorem e251 (ih : 𝕀) (x0 x1 x2 : V) (h : Hp) : B251 ih x0 x1 x2 h = L! ih 100000 cuts157 244 [0, 1, 9] [x0, x1, x2] h (p! 157) := by kernel_rfl
theorem E251 : E! 251 G251 := @entL Tryz.prog (orc fn I) _ 125 _ 157 244 [0, 1, 9] 100000 cuts157 (by kernel_rfl) fit157 fun ih vs h => c3 (X := fun r => L! ih 100000 cuts157 244 [0, 1, 9] r h (p! 157)) (e251 fn I ih · · · h) vs
theorem e253 (ih : 𝕀) (x0 x1 x2 : V) (h : Hp) : B253 ih x0 x1 x2 h = L! ih 100000 cuts157 3907 [0, 1, 9] [x0, x1, x2] h (p! 157) := by kernel_rfl
theorem E253 : E! 253 G253 := @entL Tryz.prog (orc fn I) _ 126 _ 157 3907 [0, 1, 9] 100000 cuts157 (by kernel_rfl) fit157 fun ih vs h => c3 (X := fun r => L! ih 100000 cuts157 3907 [0, 1, 9] r h (p! 157)) (e253 fn I ih · · · h) vs
theorem e302 (ih : 𝕀) (x0 : V) (h : Hp) : B302 ih x0 h = F! ih 100000 cuts151 [x0] h (p! 151) := by kernel_rfl
theorem E302 (hf : ∀ vs h, fn 151 vs h = none) : E! 302 G302 := f! 151 hf 100000 cuts151 fit151 fun ih vs h => c1 (X := fun r => F! ih 100000 cuts151 r h (p! 151)) (e302 fn I ih · h) vs
theorem e275 (ih : 𝕀) (x0 x1 : V) (h : Hp) : B275 ih x0 x1 h = L! ih 100000 cuts151 26 [0, 4] [x0, x1] h (p! 151) := by kernel_rfl
theorem E275 : E! 275 G275 := @entL Tryz.prog (orc fn I) _ 137 _ 151 26 [0, 4] 100000 cuts151 (by kernel_rfl) fit151 fun ih vs h => c2 (X := fun r => L! ih 100000 cuts151 26 [0, 4] r h (p! 151)) (e275 fn I ih · · h) vs
theorem e292 (ih : 𝕀) (x0 x1 : V) (h : Hp) : B292 ih x0 x1 h = F! ih 100000 cuts146 [x0, x1] h (p! 146) := by kernel_rfl
theorem E292 (hf : ∀ vs h, fn 146 vs h = none) : E! 292 G292 := f! 146 hf 100000 cuts146 fit146 fun ih vs h => c2 (X := fun r => F! ih 100000 cuts146 r h (p! 146)) (e292 fn I ih · · h) vs
theorem e296 (ih : 𝕀) (x0 x1 : V) (h : Hp) : B296 ih x0 x1 h = F! ih 100000 cuts148 [x0, x1] h (p! 148) := by kernel_rfl
theorem E296 (hf : ∀ vs h, fn 148 vs h = none) : E! 296 G296 := f! 148 hf 100000 cuts148 fit148 fun ih vs h => c2 (X := fun r => F! ih 100000 cuts148 r h (p! 148)) (e296 fn I ih · · h) vs
theorem e283 (ih : 𝕀) (x0 x1 : V) (h : Hp) : B283 ih x0 x1 h = L! ih 100000 cuts148 7 [0, 1] [x0, x1] h (p! 148) := by kernel_rfl
theorem E283 : E! 283 G283 := @entL Tryz.prog (orc fn I) _ 141 _ 148 7 [0, 1] 100000 cuts148 (by kernel_rfl) fit148 fun ih vs h => c2 (X := fun r => L! ih 100000 cuts148 7 [0, 1] r h (p! 148)) (e283 fn I ih · · h) vs
theorem e294 (ih : 𝕀) (x0 x1 : V) (h : Hp) : B294 ih x0 x1 h = F! ih 100000 cuts147 [x0, x1] h (p! 147) := by kernel_rfl
theorem E294 (hf : ∀ vs h, fn 147 vs h = none) : E! 294 G294 := f! 147 hf 100000 cuts147 fit147 fun ih vs h => c2 (X := fun r => F! ih 100000 cuts147 r h (p! 147)) (e294 fn I ih · · h) vs
theorem e290 (ih : 𝕀) (x0 : V) (h : Hp) : B290 ih x0 h = F! ih 100000 cuts145 [x0] h (p! 145) := by kernel_rfl
theorem E290 (hf : ∀ vs h, fn 145 vs h = none) : E! 290 G290 := f! 145 hf 100000 cuts145 fit145 fun ih vs h => c1 (X := fun r => F! ih 100000 cuts145 r h (p! 145)) (e290 fn I ih · h) vs
theorem e285 (ih : 𝕀) (x0 x1 x2 : V) (h : Hp) : B285 ih x0 x1 x2 h = L! ih 100000 cuts145 53 [0, 3, 4] [x0, x1, x2] h (p! 145) := by kernel_rfl
theorem E285 : E! 285 G285 := @entL Tryz.prog (orc fn I) _ 142 _ 145 53 [0, 3, 4] 100000 cuts145 (by kernel_rfl) fit145 fun ih vs h => c3 (X := fun r => L! ih 100000 cuts145 53 [0, 3, 4] r h (p! 145)) (e285 fn I ih · · · h) vs
theorem e287 (ih : 𝕀) (x0 x1 : V) (h : Hp) : B287 ih x0 x1 h = L! ih 100000 cuts145 215 [0, 15] [x0, x1] h (p! 145) := by kernel_rfl
theorem E287 : E! 287 G287 := @entL Tryz.prog (orc fn I) _ 143 _ 145 215 [0, 15] 100000 cuts145 (by kernel_rfl) fit145 fun ih vs h => c2 (X := fun r => L! ih 100000 cuts145 215 [0, 15] r h (p! 145)) (e287 fn I ih · · h) vs
theorem e286 (ih : 𝕀) (x0 x1 x2 : V) (h : Hp) : B286 ih x0 x1 x2 h = F! ih 100000 cuts143 [x0, x1, x2] h (p! 143) := by kernel_rfl
theorem E286 (hf : ∀ vs h, fn 143 vs h = none) : E! 286 G286 := f! 143 hf 100000 cuts143 fit143 fun ih vs h => c3 (X := fun r => F! ih 100000 cuts143 r h (p! 143)) (e286 fn I ih · · · h) vs
theorem e284 (ih : 𝕀) (x0 x1 : V) (h : Hp) : B284 ih x0 x1 h = F! ih 100000 cuts142 [x0, x1] h (p! 142) := by kernel_rfl
theorem E284 (hf : ∀ vs h, fn 142 vs h = none) : E! 284 G284 := f! 142 hf 100000 cuts142 fit142 fun ih vs h => c2 (X := fun r => F! ih 100000 cuts142 r h (p! 142)) (e284 fn I ih · · h) vs
theorem e289 (ih : 𝕀) (x0 x1 x2 x3 : V) (h : Hp) : B289 ih x0 x1 x2 x3 h = L! ih 100000 cuts142 26 [0, 1, 7, 8] [x0, x1, x2, x3] h (p! 142) := by kernel_rfl
theorem E289 : E! 289 G289 := @entL Tryz.prog (orc fn I) _ 144 _ 142 26 [0, 1, 7, 8] 100000 cuts142 (by kernel_rfl) fit142 fun ih vs h => c4 (X := fun r => L! ih 100000 cuts142 26 [0, 1, 7, 8] r h (p! 142)) (e289 fn I ih · · · · h) vs
theorem e330 (ih : 𝕀) (x0 x1 : V) (h : Hp) : B330 ih x0 x1 h = F! ih 100000 cuts165 [x0, x1] h (p! 165) := by kernel_rfl
theorem E330 (hf : ∀ vs h, fn 165 vs h = none) : E! 330 G330 := f! 165 hf 100000 cuts165 fit165 fun ih vs h => c2 (X := fun r => F! ih 100000 cuts165 r h (p! 165)) (e330 fn I ih · · h) vs
theorem e291 (ih : 𝕀) (x0 x1 : V) (h : Hp) : B291 ih x0 x1 h = L! ih 100000 cuts165 63 [0, 5] [x0, x1] h (p! 165) := by kernel_rfl
theorem E291 : E! 291 G291 := @entL Tryz.prog (orc fn I) _ 145 _ 165 63 [0, 5] 100000 cuts165 (by kernel_rfl) fit165 fun ih vs h => c2 (X := fun r => L! ih 100000 cuts165 63 [0, 5] r h (p! 165)) (e291 fn I ih · · h) vs
theorem e326 (ih : 𝕀) (x0 x1 x2 x3 : V) (h : Hp) : B326 ih x0 x1 x2 x3 h = F! ih 100000 cuts163 [x0, x1, x2, x3] h (p! 163) := by kernel_rfl
theorem E326 (hf : ∀ vs h, fn 163 vs h = none) : E! 326 G326 := f! 163 hf 100000 cuts163 fit163 fun ih vs h => c4 (X := fun r => F! ih 100000 cuts163 r h (p! 163)) (e326 fn I ih · · · · h) vs
theorem e295 (ih : 𝕀) (x0 x1 x2 x3 : V) (h : Hp) : B295 ih x0 x1 x2 x3 h = L! ih 100000 cuts163 31 [0, 1, 3, 9] [x0, x1, x2, x3] h (p! 163) := by kernel_rfl
theorem E295 : E! 295 G295 := @entL Tryz.prog (orc fn I) _ 147 _ 163 31 [0, 1, 3, 9] 100000 cuts163 (by kernel_rfl) fit163 fun ih vs h => c4 (X := fun r => L! ih 100000 cuts163 31 [0, 1, 3, 9] r h (p! 163)) (e295 fn I ih · · · · h) vs
theorem e324 (ih : 𝕀) (x0 x1 : V) (h : Hp) : B324 ih x0 x1 h = F! ih 100000 cuts162 [x0, x1] h (p! 162) := by kernel_rfl
theorem E324 (hf : ∀ vs h, fn 162 vs h = none) : E! 324 G324 := f! 162 hf 100000 cuts162 fit162 fun ih vs h => c2 (X := fun r => F! ih 100000 cuts162 r h (p! 162)) (e324 fn I ih · · h) vs
theorem e297 (ih : 𝕀) (x0 x1 x2 : V) (h : Hp) : B297 ih x0 x1 x2 h = L! ih 100000 cuts162 26 [0, 1, 5] [x0, x1, x2] h (p! 162) := by kernel_rfl
theorem E297 : E! 297 G297 := @entL Tryz.prog (orc fn I) _ 148 _ 162 26 [0, 1, 5] 100000 cuts162 (by kernel_rfl) fit162 fun ih vs h => c3 (X := fun r => L! ih 100000 cuts162 26 [0, 1, 5] r h (p! 162)) (e297 fn I ih · · · h) vs
theorem e334 (ih : 𝕀) (x0 x1 : V) (h : Hp) : B334 ih x0 x1 h = F! ih 100000 cuts167 [x0, x1] h (p! 167) := by kernel_rfl
theorem E334 (hf : ∀ vs h, fn 167 vs h = none) : E! 334 G334 := f! 167 hf 100000 cuts167 fit167 fun ih vs h => c2 (X := fun r => F! ih 100000 cuts167 r h (p! 167)) (e334 fn I ih · · h) vs
theorem e299 (ih : 𝕀) (x0 x1 x2 x3 : V) (h : Hp) : B299 ih x0 x1 x2 x3 h = L! ih 100000 cuts167 26 [0, 3, 7, 8] [x0, x1, x2, x3] h (p! 167) := by kernel_rfl
theorem E299 : E! 299 G299 := @entL Tryz.prog (orc fn I) _ 149 _ 167 26 [0, 3, 7, 8] 100000 cuts167 (by kernel_rfl) fit167 fun ih vs h => c4 (X := fun r => L! ih 100000 cuts167 26 [0, 3, 7, 8] r h (p! 167)) (e299 fn I ih · · · · h) vs
end
theorem tS {fn : FuncId → List V → Hp → Option (V × Hp)} {I : World → Prop} {t : Tr Sh} {k : Nat} {G : Sh} (h : @TabOk (orc fn I) Tryz.prog labs t) (e : @EntOk (orc fn I) Tryz.prog labs k G) : @TabOk (orc fn I) Tryz.prog labs (t.set k G) := @TabOk.set Tryz.prog (orc fn I) _ _ _ _ h e
end Go.FN

end
/- FlowNumbers: where it begins, in the small machine; the contracts of the library. -/
section
namespace Go.FN
open Go.Mid Go.Proofs Go.Proofs.YthbcbfgpfpogkaaGreat Go.RowKit

/-- what holds where all begins. -/
structure Inv (w : World) : Prop where
  c0 : ∃ m, w.cell? ⟨0, 0, none⟩ = some (.int .i64 m)
  size : 1 ≤ w.heap.size
theorem inv_of {w : World} (hs : w.ShapedOpen Tryz.prog) : Inv w := by
  refine ⟨cell_of_shapedOpen_int hs (t := 3) (zero := #[.int .i64 0]) (of_decide_eq_true (by kernel_rfl)) (by kernel_rfl) rfl (by kernel_rfl) (by kernel_rfl) (by kernel_rfl), ?_⟩
  have h6 : (((begin Tryz.prog (fun _ _ => 0) default).world.heap[0]?).bind Obj.row?).isSome = true := by kernel_rfl
  obtain ⟨p, hp⟩ := Option.isSome_iff_exists.1 h6
  obtain ⟨cs, hh, _⟩ := hs.1 0 p.1 p.2 (of_decide_eq_true (by kernel_rfl)) hp
  exact (Array.getElem?_eq_some_iff.1 hh).1
theorem Inv.later {w w' : World} (h : Inv w) (hB : Below w.heap.size w w') : Inv w' := by
  have hs := h.size
  refine ⟨?_, Nat.le_trans hs hB.size⟩
  obtain ⟨m, hm⟩ := h.c0
  refine ⟨m, ?_⟩
  unfold World.cell? at hm ⊢
  simp only at hm ⊢
  rw [hB.block 0 (by omega)]; exact hm

/-! the small machine's first heap -/
noncomputable def h0 : Hp := ⟨.nil, 1, big⟩
def rho0 : Rho := fun b => if b < 1 then some ⟨b, 0, 0⟩ else none
theorem begins [O : Orc] [OrcOk Tryz.prog] (hn : Orc.ng = 1) (hi : ∀ w, Orc.inv w → Inv w) {w : World} (h : Orc.inv w) : Begins Tryz.prog h0 w := by
  have H := hi w h
  refine ⟨rho0, R.start ?_ ?_ ?_ ?_ ?_ h⟩
  · intro b l hb
    unfold rho0 at hb
    split at hb <;> cases hb
    rename_i hlt
    exact ⟨hlt, .inl (Tr.get_nil _), .inr (Nat.lt_of_lt_of_le hlt H.size)⟩
  · intro b l o hb ho
    simp [h0, Tr.get_nil] at ho
  · intro b b' l l' hb hb' hne _ _
    unfold rho0 at hb hb'
    split at hb <;> cases hb
    split at hb' <;> cases hb'
    exact hne
  · intro b hb
    exact Tr.get_nil _
  · intro g hg
    rw [hn] at hg
    exact ⟨0, by unfold rho0; rw [if_pos hg]⟩

/-! functions that are answered at once -/
theorem contains_ok : ContainsC Tryz.prog 144 Inv := fun s sub w h hs => by
  obtain ⟨m, hm⟩ := h.c0
  exact Tryz.strings_Contains s sub m w hs hm
theorem repeat_ok : RepeatC Tryz.prog 19 := fun s c w h1 h2 h3 h4 => Tryz.strings_Repeat_main s c w h1 h2 h3 h4
noncomputable def fnA (f : FuncId) (vs : List V) (h : Hp) : Option (V × Hp) := bif Nat.beq f 144 then containsF vs h else bif Nat.beq f 19 then repeatF vs h else none

/-! a range over a function -/
theorem it149 : It.Ok Tryz.prog 149 ⟨66, 101, 3, 4, 1, false⟩ where
  code := ⟨Tryz.f149, _, _, _, _, _, _, _, _, _, _, #[3, 101], Tryz.func149, by kernel_rfl, by kernel_rfl, rfl, by unfold okOps; kernel_rfl, by unfold okOps; kernel_rfl, by unfold okOps; kernel_rfl, by unfold okOps; kernel_rfl⟩
  ts := by kernel_rfl
  ti := by kernel_rfl
  sz := by kernel_rfl
  ag := by kernel_rfl
theorem itr_ok (g : FuncId) (it : It) (h : itr0 g = some it) : It.Ok Tryz.prog g it := by
  unfold itr0 at h
  cases hg : Nat.beq g 149 <;> rw [hg] at h
  · cases h
  · have := Nat.eq_of_beq_eq_true hg
    subst this
    simp only [cond_true, Option.some.injEq] at h
    subst h
    exact it149
theorem opsA : @OpOk Tryz.prog (orc fnA Inv) := wops _ _ _ _
theorem fnA_cases {f : FuncId} {vs : List V} {h : Hp} {p : V × Hp} (e : fnA f vs h = some p) : (f = 144 ∧ containsF vs h = some p) ∨ (f = 19 ∧ repeatF vs h = some p) := by
  unfold fnA at e
  cases h1 : Nat.beq f 144 <;> rw [h1] at e
  · cases h2 : Nat.beq f 19 <;> rw [h2] at e
    · cases e
    · exact .inr ⟨Nat.eq_of_beq_eq_true h2, e⟩
  · exact .inl ⟨Nat.eq_of_beq_eq_true h1, e⟩
theorem okA : @OrcOk Tryz.prog (orc fnA Inv) :=
  letI : Orc := orc fnA Inv
  { pure := @OpOk.pure Tryz.prog (orc fnA Inv) opsA
    reads := @OpOk.reads Tryz.prog (orc fnA Inv) opsA
    make := @OpOk.make Tryz.prog (orc fnA Inv) opsA
    itr := itr_ok
    fr := fun f vs h v h' e => by
      rcases fnA_cases (show fnA f vs h = some (v, h') from e) with ⟨_, e⟩ | ⟨_, e⟩
      · rw [containsF_heap e]; exact Fr.refl _
      · rw [repeatF_heap e]; exact Fr.refl _
    sound := fun f vs h v h' e Z w0 w ρ xs H ha => by
      have hI : Inv w := Inv.later H.base H.below
      rcases fnA_cases (show fnA f vs h = some (v, h') from e) with ⟨rfl, e⟩ | ⟨rfl, e⟩
      · exact containsF_sim Tryz.func144 (by kernel_rfl) contains_ok hI e H ha
      · exact repeatF_sim Tryz.func19 (by kernel_rfl) repeat_ok e H ha }
end Go.FN

end
