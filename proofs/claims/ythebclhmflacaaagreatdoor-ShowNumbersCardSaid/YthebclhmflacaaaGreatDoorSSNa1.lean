import Derived.Test.YthebclhmflacaaaGreatDoorSSNa0
import Derived.KernelRfl
set_option linter.all false
open Go Go.Mid Go.Proofs
set_option maxRecDepth 100000
set_option linter.unusedVariables false
namespace Go.SN
noncomputable def B219 (ih : Nat → List V → Hp → VH) (a0 a1 a3 a4 a10 a11 a12 a13 a14 a15 a16 : V) (h : Hp) : VH :=
intS .geq a1 a15 fun v49 =>
ifS v49 (
intS .sub a13 (.int .i64 (.ofNat 1)) fun v50 =>
intS .and a1 a16 fun v51 =>
idxStr (.str (us [48, 49, 50, 51, 52, 53, 54, 55, 56, 57, 97, 98, 99, 100, 101, 102, 103, 104, 105, 106, 107, 108, 109, 110, 111, 112, 113, 114, 115, 116, 117, 118, 119, 120, 121, 122])) v51 fun v52 =>
idxP 1 65 a12 v50 fun v53 =>
storeC v53 v52 h fun h54 =>
shS .shr a1 a14 fun v55 =>
ih 219 [a0, v55, a3, a4, a10, a11, a12, v50, a14, a15, a16] h54) (
intS .sub a13 (.int .i64 (.ofNat 1)) fun v56 =>
idxStr (.str (us [48, 49, 50, 51, 52, 53, 54, 55, 56, 57, 97, 98, 99, 100, 101, 102, 103, 104, 105, 106, 107, 108, 109, 110, 111, 112, 113, 114, 115, 116, 117, 118, 119, 120, 121, 122])) a1 fun v57 =>
idxP 1 65 a12 v56 fun v58 =>
storeC v58 v57 h fun h59 =>
ih 213 [a0, a3, a4, a10, a11, a12, v56] h59)
noncomputable def G219 : Sh := fun ih vs h => consE (fun a0 => consE (fun a1 => consE (fun a3 => consE (fun a4 => consE (fun a10 => consE (fun a11 => consE (fun a12 => consE (fun a13 => consE (fun a14 => consE (fun a15 => consE (fun a16 => nilE (B219 ih a0 a1 a3 a4 a10 a11 a12 a13 a14 a15 a16 h)))))))))))) vs
noncomputable def B272 (ih : Nat → List V → Hp → VH) (a0 a1 : V) (h : Hp) : VH :=
lenSl a0 fun v0 =>
ih 221 [a0, a1, v0] h
noncomputable def G272 : Sh := fun ih vs h => consE (fun a0 => consE (fun a1 => nilE (B272 ih a0 a1 h))) vs
noncomputable def B221 (ih : Nat → List V → Hp → VH) (a0 a1 a4 : V) (h : Hp) : VH :=
intS .geq a4 (.int .i64 (.ofNat 8)) fun v1 =>
ifS v1 (
intS .rem a1 (.int .u64 (.ofNat 100000000)) fun v2 =>
convI .u32 v2 fun v3 =>
intS .quo a1 (.int .u64 (.ofNat 100000000)) fun v4 =>
intS .quo v3 (.int .u32 (.ofNat 10000)) fun v5 =>
intS .rem v3 (.int .u32 (.ofNat 10000)) fun v6 =>
intS .quo v6 (.int .u32 (.ofNat 100)) fun v7 =>
intS .mul v7 (.int .u32 (.ofNat 2)) fun v8 =>
intS .rem v6 (.int .u32 (.ofNat 100)) fun v9 =>
intS .mul v9 (.int .u32 (.ofNat 2)) fun v10 =>
intS .quo v5 (.int .u32 (.ofNat 100)) fun v11 =>
intS .mul v11 (.int .u32 (.ofNat 2)) fun v12 =>
intS .rem v5 (.int .u32 (.ofNat 100)) fun v13 =>
intS .mul v13 (.int .u32 (.ofNat 2)) fun v14 =>
intS .sub a4 (.int .i64 (.ofNat 1)) fun v15 =>
intS .sub a4 (.int .i64 (.ofNat 2)) fun v16 =>
intS .add v10 (.int .u32 (.ofNat 1)) fun v17 =>
idxStr (.str (us [48, 48, 48, 49, 48, 50, 48, 51, 48, 52, 48, 53, 48, 54, 48, 55, 48, 56, 48, 57, 49, 48, 49, 49, 49, 50, 49, 51, 49, 52, 49, 53, 49, 54, 49, 55, 49, 56, 49, 57, 50, 48, 50, 49, 50, 50, 50, 51, 50, 52, 50, 53, 50, 54, 50, 55, 50, 56, 50, 57, 51, 48, 51, 49, 51, 50, 51, 51, 51, 52, 51, 53, 51, 54, 51, 55, 51, 56, 51, 57, 52, 48, 52, 49, 52, 50, 52, 51, 52, 52, 52, 53, 52, 54, 52, 55, 52, 56, 52, 57, 53, 48, 53, 49, 53, 50, 53, 51, 53, 52, 53, 53, 53, 54, 53, 55, 53, 56, 53, 57, 54, 48, 54, 49, 54, 50, 54, 51, 54, 52, 54, 53, 54, 54, 54, 55, 54, 56, 54, 57, 55, 48, 55, 49, 55, 50, 55, 51, 55, 52, 55, 53, 55, 54, 55, 55, 55, 56, 55, 57, 56, 48, 56, 49, 56, 50, 56, 51, 56, 52, 56, 53, 56, 54, 56, 55, 56, 56, 56, 57, 57, 48, 57, 49, 57, 50, 57, 51, 57, 52, 57, 53, 57, 54, 57, 55, 57, 56, 57, 57])) v17 fun v18 =>
idxStr (.str (us [48, 48, 48, 49, 48, 50, 48, 51, 48, 52, 48, 53, 48, 54, 48, 55, 48, 56, 48, 57, 49, 48, 49, 49, 49, 50, 49, 51, 49, 52, 49, 53, 49, 54, 49, 55, 49, 56, 49, 57, 50, 48, 50, 49, 50, 50, 50, 51, 50, 52, 50, 53, 50, 54, 50, 55, 50, 56, 50, 57, 51, 48, 51, 49, 51, 50, 51, 51, 51, 52, 51, 53, 51, 54, 51, 55, 51, 56, 51, 57, 52, 48, 52, 49, 52, 50, 52, 51, 52, 52, 52, 53, 52, 54, 52, 55, 52, 56, 52, 57, 53, 48, 53, 49, 53, 50, 53, 51, 53, 52, 53, 53, 53, 54, 53, 55, 53, 56, 53, 57, 54, 48, 54, 49, 54, 50, 54, 51, 54, 52, 54, 53, 54, 54, 54, 55, 54, 56, 54, 57, 55, 48, 55, 49, 55, 50, 55, 51, 55, 52, 55, 53, 55, 54, 55, 55, 55, 56, 55, 57, 56, 48, 56, 49, 56, 50, 56, 51, 56, 52, 56, 53, 56, 54, 56, 55, 56, 56, 56, 57, 57, 48, 57, 49, 57, 50, 57, 51, 57, 52, 57, 53, 57, 54, 57, 55, 57, 56, 57, 57])) v10 fun v19 =>
idxS 1 a0 v15 fun v20 =>
ptrE v20 fun b21 o22 => storeB (storeO Tryz.prog h 5 b21 o22 v18) fun c23 =>
idxS 1 a0 v16 fun v24 =>
storeC v24 v19 (h.put b21 c23) fun h25 =>
intS .sub a4 (.int .i64 (.ofNat 3)) fun v26 =>
intS .sub a4 (.int .i64 (.ofNat 4)) fun v27 =>
intS .add v8 (.int .u32 (.ofNat 1)) fun v28 =>
idxStr (.str (us [48, 48, 48, 49, 48, 50, 48, 51, 48, 52, 48, 53, 48, 54, 48, 55, 48, 56, 48, 57, 49, 48, 49, 49, 49, 50, 49, 51, 49, 52, 49, 53, 49, 54, 49, 55, 49, 56, 49, 57, 50, 48, 50, 49, 50, 50, 50, 51, 50, 52, 50, 53, 50, 54, 50, 55, 50, 56, 50, 57, 51, 48, 51, 49, 51, 50, 51, 51, 51, 52, 51, 53, 51, 54, 51, 55, 51, 56, 51, 57, 52, 48, 52, 49, 52, 50, 52, 51, 52, 52, 52, 53, 52, 54, 52, 55, 52, 56, 52, 57, 53, 48, 53, 49, 53, 50, 53, 51, 53, 52, 53, 53, 53, 54, 53, 55, 53, 56, 53, 57, 54, 48, 54, 49, 54, 50, 54, 51, 54, 52, 54, 53, 54, 54, 54, 55, 54, 56, 54, 57, 55, 48, 55, 49, 55, 50, 55, 51, 55, 52, 55, 53, 55, 54, 55, 55, 55, 56, 55, 57, 56, 48, 56, 49, 56, 50, 56, 51, 56, 52, 56, 53, 56, 54, 56, 55, 56, 56, 56, 57, 57, 48, 57, 49, 57, 50, 57, 51, 57, 52, 57, 53, 57, 54, 57, 55, 57, 56, 57, 57])) v28 fun v29 =>
idxStr (.str (us [48, 48, 48, 49, 48, 50, 48, 51, 48, 52, 48, 53, 48, 54, 48, 55, 48, 56, 48, 57, 49, 48, 49, 49, 49, 50, 49, 51, 49, 52, 49, 53, 49, 54, 49, 55, 49, 56, 49, 57, 50, 48, 50, 49, 50, 50, 50, 51, 50, 52, 50, 53, 50, 54, 50, 55, 50, 56, 50, 57, 51, 48, 51, 49, 51, 50, 51, 51, 51, 52, 51, 53, 51, 54, 51, 55, 51, 56, 51, 57, 52, 48, 52, 49, 52, 50, 52, 51, 52, 52, 52, 53, 52, 54, 52, 55, 52, 56, 52, 57, 53, 48, 53, 49, 53, 50, 53, 51, 53, 52, 53, 53, 53, 54, 53, 55, 53, 56, 53, 57, 54, 48, 54, 49, 54, 50, 54, 51, 54, 52, 54, 53, 54, 54, 54, 55, 54, 56, 54, 57, 55, 48, 55, 49, 55, 50, 55, 51, 55, 52, 55, 53, 55, 54, 55, 55, 55, 56, 55, 57, 56, 48, 56, 49, 56, 50, 56, 51, 56, 52, 56, 53, 56, 54, 56, 55, 56, 56, 56, 57, 57, 48, 57, 49, 57, 50, 57, 51, 57, 52, 57, 53, 57, 54, 57, 55, 57, 56, 57, 57])) v8 fun v30 =>
idxS 1 a0 v26 fun v31 =>
ptrE v31 fun b32 o33 => storeB (storeO Tryz.prog h25 5 b32 o33 v29) fun c34 =>
idxS 1 a0 v27 fun v35 =>
storeC v35 v30 (h25.put b32 c34) fun h36 =>
intS .sub a4 (.int .i64 (.ofNat 5)) fun v37 =>
intS .sub a4 (.int .i64 (.ofNat 6)) fun v38 =>
intS .add v14 (.int .u32 (.ofNat 1)) fun v39 =>
idxStr (.str (us [48, 48, 48, 49, 48, 50, 48, 51, 48, 52, 48, 53, 48, 54, 48, 55, 48, 56, 48, 57, 49, 48, 49, 49, 49, 50, 49, 51, 49, 52, 49, 53, 49, 54, 49, 55, 49, 56, 49, 57, 50, 48, 50, 49, 50, 50, 50, 51, 50, 52, 50, 53, 50, 54, 50, 55, 50, 56, 50, 57, 51, 48, 51, 49, 51, 50, 51, 51, 51, 52, 51, 53, 51, 54, 51, 55, 51, 56, 51, 57, 52, 48, 52, 49, 52, 50, 52, 51, 52, 52, 52, 53, 52, 54, 52, 55, 52, 56, 52, 57, 53, 48, 53, 49, 53, 50, 53, 51, 53, 52, 53, 53, 53, 54, 53, 55, 53, 56, 53, 57, 54, 48, 54, 49, 54, 50, 54, 51, 54, 52, 54, 53, 54, 54, 54, 55, 54, 56, 54, 57, 55, 48, 55, 49, 55, 50, 55, 51, 55, 52, 55, 53, 55, 54, 55, 55, 55, 56, 55, 57, 56, 48, 56, 49, 56, 50, 56, 51, 56, 52, 56, 53, 56, 54, 56, 55, 56, 56, 56, 57, 57, 48, 57, 49, 57, 50, 57, 51, 57, 52, 57, 53, 57, 54, 57, 55, 57, 56, 57, 57])) v39 fun v40 =>
idxStr (.str (us [48, 48, 48, 49, 48, 50, 48, 51, 48, 52, 48, 53, 48, 54, 48, 55, 48, 56, 48, 57, 49, 48, 49, 49, 49, 50, 49, 51, 49, 52, 49, 53, 49, 54, 49, 55, 49, 56, 49, 57, 50, 48, 50, 49, 50, 50, 50, 51, 50, 52, 50, 53, 50, 54, 50, 55, 50, 56, 50, 57, 51, 48, 51, 49, 51, 50, 51, 51, 51, 52, 51, 53, 51, 54, 51, 55, 51, 56, 51, 57, 52, 48, 52, 49, 52, 50, 52, 51, 52, 52, 52, 53, 52, 54, 52, 55, 52, 56, 52, 57, 53, 48, 53, 49, 53, 50, 53, 51, 53, 52, 53, 53, 53, 54, 53, 55, 53, 56, 53, 57, 54, 48, 54, 49, 54, 50, 54, 51, 54, 52, 54, 53, 54, 54, 54, 55, 54, 56, 54, 57, 55, 48, 55, 49, 55, 50, 55, 51, 55, 52, 55, 53, 55, 54, 55, 55, 55, 56, 55, 57, 56, 48, 56, 49, 56, 50, 56, 51, 56, 52, 56, 53, 56, 54, 56, 55, 56, 56, 56, 57, 57, 48, 57, 49, 57, 50, 57, 51, 57, 52, 57, 53, 57, 54, 57, 55, 57, 56, 57, 57])) v14 fun v41 =>
idxS 1 a0 v37 fun v42 =>
ptrE v42 fun b43 o44 => storeB (storeO Tryz.prog h36 5 b43 o44 v40) fun c45 =>
idxS 1 a0 v38 fun v46 =>
storeC v46 v41 (h36.put b43 c45) fun h47 =>
intS .sub a4 (.int .i64 (.ofNat 7)) fun v48 =>
intS .sub a4 (.int .i64 (.ofNat 8)) fun v49 =>
intS .add v12 (.int .u32 (.ofNat 1)) fun v50 =>
idxStr (.str (us [48, 48, 48, 49, 48, 50, 48, 51, 48, 52, 48, 53, 48, 54, 48, 55, 48, 56, 48, 57, 49, 48, 49, 49, 49, 50, 49, 51, 49, 52, 49, 53, 49, 54, 49, 55, 49, 56, 49, 57, 50, 48, 50, 49, 50, 50, 50, 51, 50, 52, 50, 53, 50, 54, 50, 55, 50, 56, 50, 57, 51, 48, 51, 49, 51, 50, 51, 51, 51, 52, 51, 53, 51, 54, 51, 55, 51, 56, 51, 57, 52, 48, 52, 49, 52, 50, 52, 51, 52, 52, 52, 53, 52, 54, 52, 55, 52, 56, 52, 57, 53, 48, 53, 49, 53, 50, 53, 51, 53, 52, 53, 53, 53, 54, 53, 55, 53, 56, 53, 57, 54, 48, 54, 49, 54, 50, 54, 51, 54, 52, 54, 53, 54, 54, 54, 55, 54, 56, 54, 57, 55, 48, 55, 49, 55, 50, 55, 51, 55, 52, 55, 53, 55, 54, 55, 55, 55, 56, 55, 57, 56, 48, 56, 49, 56, 50, 56, 51, 56, 52, 56, 53, 56, 54, 56, 55, 56, 56, 56, 57, 57, 48, 57, 49, 57, 50, 57, 51, 57, 52, 57, 53, 57, 54, 57, 55, 57, 56, 57, 57])) v50 fun v51 =>
idxStr (.str (us [48, 48, 48, 49, 48, 50, 48, 51, 48, 52, 48, 53, 48, 54, 48, 55, 48, 56, 48, 57, 49, 48, 49, 49, 49, 50, 49, 51, 49, 52, 49, 53, 49, 54, 49, 55, 49, 56, 49, 57, 50, 48, 50, 49, 50, 50, 50, 51, 50, 52, 50, 53, 50, 54, 50, 55, 50, 56, 50, 57, 51, 48, 51, 49, 51, 50, 51, 51, 51, 52, 51, 53, 51, 54, 51, 55, 51, 56, 51, 57, 52, 48, 52, 49, 52, 50, 52, 51, 52, 52, 52, 53, 52, 54, 52, 55, 52, 56, 52, 57, 53, 48, 53, 49, 53, 50, 53, 51, 53, 52, 53, 53, 53, 54, 53, 55, 53, 56, 53, 57, 54, 48, 54, 49, 54, 50, 54, 51, 54, 52, 54, 53, 54, 54, 54, 55, 54, 56, 54, 57, 55, 48, 55, 49, 55, 50, 55, 51, 55, 52, 55, 53, 55, 54, 55, 55, 55, 56, 55, 57, 56, 48, 56, 49, 56, 50, 56, 51, 56, 52, 56, 53, 56, 54, 56, 55, 56, 56, 56, 57, 57, 48, 57, 49, 57, 50, 57, 51, 57, 52, 57, 53, 57, 54, 57, 55, 57, 56, 57, 57])) v12 fun v52 =>
idxS 1 a0 v48 fun v53 =>
ptrE v53 fun b54 o55 => storeB (storeO Tryz.prog h47 5 b54 o55 v51) fun c56 =>
idxS 1 a0 v49 fun v57 =>
storeC v57 v52 (h47.put b54 c56) fun h58 =>
intS .sub a4 (.int .i64 (.ofNat 8)) fun v59 =>
ih 221 [a0, v4, v59] h58) (
convI .u32 a1 fun v60 =>
intS .geq a4 (.int .i64 (.ofNat 4)) fun v61 =>
ifS v61 (
intS .rem v60 (.int .u32 (.ofNat 10000)) fun v62 =>
intS .quo v60 (.int .u32 (.ofNat 10000)) fun v63 =>
intS .quo v62 (.int .u32 (.ofNat 100)) fun v64 =>
intS .mul v64 (.int .u32 (.ofNat 2)) fun v65 =>
intS .rem v62 (.int .u32 (.ofNat 100)) fun v66 =>
intS .mul v66 (.int .u32 (.ofNat 2)) fun v67 =>
intS .sub a4 (.int .i64 (.ofNat 1)) fun v68 =>
intS .sub a4 (.int .i64 (.ofNat 2)) fun v69 =>
intS .add v67 (.int .u32 (.ofNat 1)) fun v70 =>
idxStr (.str (us [48, 48, 48, 49, 48, 50, 48, 51, 48, 52, 48, 53, 48, 54, 48, 55, 48, 56, 48, 57, 49, 48, 49, 49, 49, 50, 49, 51, 49, 52, 49, 53, 49, 54, 49, 55, 49, 56, 49, 57, 50, 48, 50, 49, 50, 50, 50, 51, 50, 52, 50, 53, 50, 54, 50, 55, 50, 56, 50, 57, 51, 48, 51, 49, 51, 50, 51, 51, 51, 52, 51, 53, 51, 54, 51, 55, 51, 56, 51, 57, 52, 48, 52, 49, 52, 50, 52, 51, 52, 52, 52, 53, 52, 54, 52, 55, 52, 56, 52, 57, 53, 48, 53, 49, 53, 50, 53, 51, 53, 52, 53, 53, 53, 54, 53, 55, 53, 56, 53, 57, 54, 48, 54, 49, 54, 50, 54, 51, 54, 52, 54, 53, 54, 54, 54, 55, 54, 56, 54, 57, 55, 48, 55, 49, 55, 50, 55, 51, 55, 52, 55, 53, 55, 54, 55, 55, 55, 56, 55, 57, 56, 48, 56, 49, 56, 50, 56, 51, 56, 52, 56, 53, 56, 54, 56, 55, 56, 56, 56, 57, 57, 48, 57, 49, 57, 50, 57, 51, 57, 52, 57, 53, 57, 54, 57, 55, 57, 56, 57, 57])) v70 fun v71 =>
idxStr (.str (us [48, 48, 48, 49, 48, 50, 48, 51, 48, 52, 48, 53, 48, 54, 48, 55, 48, 56, 48, 57, 49, 48, 49, 49, 49, 50, 49, 51, 49, 52, 49, 53, 49, 54, 49, 55, 49, 56, 49, 57, 50, 48, 50, 49, 50, 50, 50, 51, 50, 52, 50, 53, 50, 54, 50, 55, 50, 56, 50, 57, 51, 48, 51, 49, 51, 50, 51, 51, 51, 52, 51, 53, 51, 54, 51, 55, 51, 56, 51, 57, 52, 48, 52, 49, 52, 50, 52, 51, 52, 52, 52, 53, 52, 54, 52, 55, 52, 56, 52, 57, 53, 48, 53, 49, 53, 50, 53, 51, 53, 52, 53, 53, 53, 54, 53, 55, 53, 56, 53, 57, 54, 48, 54, 49, 54, 50, 54, 51, 54, 52, 54, 53, 54, 54, 54, 55, 54, 56, 54, 57, 55, 48, 55, 49, 55, 50, 55, 51, 55, 52, 55, 53, 55, 54, 55, 55, 55, 56, 55, 57, 56, 48, 56, 49, 56, 50, 56, 51, 56, 52, 56, 53, 56, 54, 56, 55, 56, 56, 56, 57, 57, 48, 57, 49, 57, 50, 57, 51, 57, 52, 57, 53, 57, 54, 57, 55, 57, 56, 57, 57])) v67 fun v72 =>
idxS 1 a0 v68 fun v73 =>
ptrE v73 fun b74 o75 => storeB (storeO Tryz.prog h 5 b74 o75 v71) fun c76 =>
idxS 1 a0 v69 fun v77 =>
storeC v77 v72 (h.put b74 c76) fun h78 =>
intS .sub a4 (.int .i64 (.ofNat 3)) fun v79 =>
intS .sub a4 (.int .i64 (.ofNat 4)) fun v80 =>
intS .add v65 (.int .u32 (.ofNat 1)) fun v81 =>
idxStr (.str (us [48, 48, 48, 49, 48, 50, 48, 51, 48, 52, 48, 53, 48, 54, 48, 55, 48, 56, 48, 57, 49, 48, 49, 49, 49, 50, 49, 51, 49, 52, 49, 53, 49, 54, 49, 55, 49, 56, 49, 57, 50, 48, 50, 49, 50, 50, 50, 51, 50, 52, 50, 53, 50, 54, 50, 55, 50, 56, 50, 57, 51, 48, 51, 49, 51, 50, 51, 51, 51, 52, 51, 53, 51, 54, 51, 55, 51, 56, 51, 57, 52, 48, 52, 49, 52, 50, 52, 51, 52, 52, 52, 53, 52, 54, 52, 55, 52, 56, 52, 57, 53, 48, 53, 49, 53, 50, 53, 51, 53, 52, 53, 53, 53, 54, 53, 55, 53, 56, 53, 57, 54, 48, 54, 49, 54, 50, 54, 51, 54, 52, 54, 53, 54, 54, 54, 55, 54, 56, 54, 57, 55, 48, 55, 49, 55, 50, 55, 51, 55, 52, 55, 53, 55, 54, 55, 55, 55, 56, 55, 57, 56, 48, 56, 49, 56, 50, 56, 51, 56, 52, 56, 53, 56, 54, 56, 55, 56, 56, 56, 57, 57, 48, 57, 49, 57, 50, 57, 51, 57, 52, 57, 53, 57, 54, 57, 55, 57, 56, 57, 57])) v81 fun v82 =>
idxStr (.str (us [48, 48, 48, 49, 48, 50, 48, 51, 48, 52, 48, 53, 48, 54, 48, 55, 48, 56, 48, 57, 49, 48, 49, 49, 49, 50, 49, 51, 49, 52, 49, 53, 49, 54, 49, 55, 49, 56, 49, 57, 50, 48, 50, 49, 50, 50, 50, 51, 50, 52, 50, 53, 50, 54, 50, 55, 50, 56, 50, 57, 51, 48, 51, 49, 51, 50, 51, 51, 51, 52, 51, 53, 51, 54, 51, 55, 51, 56, 51, 57, 52, 48, 52, 49, 52, 50, 52, 51, 52, 52, 52, 53, 52, 54, 52, 55, 52, 56, 52, 57, 53, 48, 53, 49, 53, 50, 53, 51, 53, 52, 53, 53, 53, 54, 53, 55, 53, 56, 53, 57, 54, 48, 54, 49, 54, 50, 54, 51, 54, 52, 54, 53, 54, 54, 54, 55, 54, 56, 54, 57, 55, 48, 55, 49, 55, 50, 55, 51, 55, 52, 55, 53, 55, 54, 55, 55, 55, 56, 55, 57, 56, 48, 56, 49, 56, 50, 56, 51, 56, 52, 56, 53, 56, 54, 56, 55, 56, 56, 56, 57, 57, 48, 57, 49, 57, 50, 57, 51, 57, 52, 57, 53, 57, 54, 57, 55, 57, 56, 57, 57])) v65 fun v83 =>
idxS 1 a0 v79 fun v84 =>
ptrE v84 fun b85 o86 => storeB (storeO Tryz.prog h78 5 b85 o86 v82) fun c87 =>
idxS 1 a0 v80 fun v88 =>
storeC v88 v83 (h78.put b85 c87) fun h89 =>
intS .sub a4 (.int .i64 (.ofNat 4)) fun v90 =>
ih 223 [a0, v90, v63] h89) (
ih 223 [a0, a4, v60] h))
noncomputable def G221 : Sh := fun ih vs h => consE (fun a0 => consE (fun a1 => consE (fun a4 => nilE (B221 ih a0 a1 a4 h)))) vs
noncomputable def B223 (ih : Nat → List V → Hp → VH) (a0 a4 a12 : V) (h : Hp) : VH :=
intS .geq a4 (.int .i64 (.ofNat 2)) fun v91 =>
ifS v91 (
intS .rem a12 (.int .u32 (.ofNat 100)) fun v92 =>
intS .mul v92 (.int .u32 (.ofNat 2)) fun v93 =>
intS .quo a12 (.int .u32 (.ofNat 100)) fun v94 =>
intS .sub a4 (.int .i64 (.ofNat 1)) fun v95 =>
intS .sub a4 (.int .i64 (.ofNat 2)) fun v96 =>
intS .add v93 (.int .u32 (.ofNat 1)) fun v97 =>
idxStr (.str (us [48, 48, 48, 49, 48, 50, 48, 51, 48, 52, 48, 53, 48, 54, 48, 55, 48, 56, 48, 57, 49, 48, 49, 49, 49, 50, 49, 51, 49, 52, 49, 53, 49, 54, 49, 55, 49, 56, 49, 57, 50, 48, 50, 49, 50, 50, 50, 51, 50, 52, 50, 53, 50, 54, 50, 55, 50, 56, 50, 57, 51, 48, 51, 49, 51, 50, 51, 51, 51, 52, 51, 53, 51, 54, 51, 55, 51, 56, 51, 57, 52, 48, 52, 49, 52, 50, 52, 51, 52, 52, 52, 53, 52, 54, 52, 55, 52, 56, 52, 57, 53, 48, 53, 49, 53, 50, 53, 51, 53, 52, 53, 53, 53, 54, 53, 55, 53, 56, 53, 57, 54, 48, 54, 49, 54, 50, 54, 51, 54, 52, 54, 53, 54, 54, 54, 55, 54, 56, 54, 57, 55, 48, 55, 49, 55, 50, 55, 51, 55, 52, 55, 53, 55, 54, 55, 55, 55, 56, 55, 57, 56, 48, 56, 49, 56, 50, 56, 51, 56, 52, 56, 53, 56, 54, 56, 55, 56, 56, 56, 57, 57, 48, 57, 49, 57, 50, 57, 51, 57, 52, 57, 53, 57, 54, 57, 55, 57, 56, 57, 57])) v97 fun v98 =>
idxStr (.str (us [48, 48, 48, 49, 48, 50, 48, 51, 48, 52, 48, 53, 48, 54, 48, 55, 48, 56, 48, 57, 49, 48, 49, 49, 49, 50, 49, 51, 49, 52, 49, 53, 49, 54, 49, 55, 49, 56, 49, 57, 50, 48, 50, 49, 50, 50, 50, 51, 50, 52, 50, 53, 50, 54, 50, 55, 50, 56, 50, 57, 51, 48, 51, 49, 51, 50, 51, 51, 51, 52, 51, 53, 51, 54, 51, 55, 51, 56, 51, 57, 52, 48, 52, 49, 52, 50, 52, 51, 52, 52, 52, 53, 52, 54, 52, 55, 52, 56, 52, 57, 53, 48, 53, 49, 53, 50, 53, 51, 53, 52, 53, 53, 53, 54, 53, 55, 53, 56, 53, 57, 54, 48, 54, 49, 54, 50, 54, 51, 54, 52, 54, 53, 54, 54, 54, 55, 54, 56, 54, 57, 55, 48, 55, 49, 55, 50, 55, 51, 55, 52, 55, 53, 55, 54, 55, 55, 55, 56, 55, 57, 56, 48, 56, 49, 56, 50, 56, 51, 56, 52, 56, 53, 56, 54, 56, 55, 56, 56, 56, 57, 57, 48, 57, 49, 57, 50, 57, 51, 57, 52, 57, 53, 57, 54, 57, 55, 57, 56, 57, 57])) v93 fun v99 =>
idxS 1 a0 v95 fun v100 =>
ptrE v100 fun b101 o102 => storeB (storeO Tryz.prog h 5 b101 o102 v98) fun c103 =>
idxS 1 a0 v96 fun v104 =>
storeC v104 v99 (h.put b101 c103) fun h105 =>
intS .sub a4 (.int .i64 (.ofNat 2)) fun v106 =>
ih 225 [a0, v106, v94] h105) (
ih 225 [a0, a4, a12] h)
noncomputable def G223 : Sh := fun ih vs h => consE (fun a0 => consE (fun a4 => consE (fun a12 => nilE (B223 ih a0 a4 a12 h)))) vs
noncomputable def B225 (ih : Nat → List V → Hp → VH) (a0 a4 a12 : V) (h : Hp) : VH :=
intS .gtr a4 (.int .i64 (.ofNat 0)) fun v107 =>
ifS v107 (
intS .add (.int .u32 (.ofNat 48)) a12 fun v108 =>
convI .u8 v108 fun v109 =>
idxS 1 a0 (.int .i64 (.ofNat 0)) fun v110 =>
storeC v110 v109 h fun h111 =>
some (.tuple [], h111)) (
some (.tuple [], h))
noncomputable def G225 : Sh := fun ih vs h => consE (fun a0 => consE (fun a4 => consE (fun a12 => nilE (B225 ih a0 a4 a12 h)))) vs
noncomputable def B270 (ih : Nat → List V → Hp → VH) (a0 : V) (h : Hp) : VH :=
bindS (ih 284 [a0] h) fun v0 h1 =>
bindS (ih 282 [v0] h1) fun v2 h3 =>
idxP 1 20 (.ptr 3 0) v2 fun v4 =>
load1 v4 h3 fun v5 =>
intS .geq a0 v5 fun v6 =>
bindS (ih 286 [v6] h3) fun v7 h8 =>
intS .add v2 v7 fun v9 =>
some (v9, h8)
noncomputable def G270 : Sh := fun ih vs h => consE (fun a0 => nilE (B270 ih a0 h)) vs
noncomputable def B268 (ih : Nat → List V → Hp → VH) (a0 : V) (h : Hp) : VH :=
intS .lss a0 (.int .i64 (.ofNat 10)) fun v0 =>
ifS v0 (
intS .add a0 (.int .i64 (.ofNat 1)) fun v1 =>
slStrK (some a0) (some v1) (.str (us [48, 49, 50, 51, 52, 53, 54, 55, 56, 57, 97, 98, 99, 100, 101, 102, 103, 104, 105, 106, 107, 108, 109, 110, 111, 112, 113, 114, 115, 116, 117, 118, 119, 120, 121, 122])) fun v2 =>
some (v2, h)) (
intS .mul a0 (.int .i64 (.ofNat 2)) fun v3 =>
intS .mul a0 (.int .i64 (.ofNat 2)) fun v4 =>
intS .add v4 (.int .i64 (.ofNat 2)) fun v5 =>
slStrK (some v3) (some v5) (.str (us [48, 48, 48, 49, 48, 50, 48, 51, 48, 52, 48, 53, 48, 54, 48, 55, 48, 56, 48, 57, 49, 48, 49, 49, 49, 50, 49, 51, 49, 52, 49, 53, 49, 54, 49, 55, 49, 56, 49, 57, 50, 48, 50, 49, 50, 50, 50, 51, 50, 52, 50, 53, 50, 54, 50, 55, 50, 56, 50, 57, 51, 48, 51, 49, 51, 50, 51, 51, 51, 52, 51, 53, 51, 54, 51, 55, 51, 56, 51, 57, 52, 48, 52, 49, 52, 50, 52, 51, 52, 52, 52, 53, 52, 54, 52, 55, 52, 56, 52, 57, 53, 48, 53, 49, 53, 50, 53, 51, 53, 52, 53, 53, 53, 54, 53, 55, 53, 56, 53, 57, 54, 48, 54, 49, 54, 50, 54, 51, 54, 52, 54, 53, 54, 54, 54, 55, 54, 56, 54, 57, 55, 48, 55, 49, 55, 50, 55, 51, 55, 52, 55, 53, 55, 54, 55, 55, 55, 56, 55, 57, 56, 48, 56, 49, 56, 50, 56, 51, 56, 52, 56, 53, 56, 54, 56, 55, 56, 56, 56, 57, 57, 48, 57, 49, 57, 50, 57, 51, 57, 52, 57, 53, 57, 54, 57, 55, 57, 56, 57, 57])) fun v6 =>
some (v6, h))
noncomputable def G268 : Sh := fun ih vs h => consE (fun a0 => nilE (B268 ih a0 h)) vs
noncomputable def B264 (ih : Nat → List V → Hp → VH) (a0 a1 : V) (h : Hp) : VH :=
lenSl a0 fun v0 =>
intS .leq v0 (.int .i64 (.ofNat 18)) fun v1 =>
ifS v1 (
lenSl a0 fun v2 =>
ih 229 [a0, a1, v2, (.int .i64 (.ofNat 0))] h) (
lenSl a0 fun v3 =>
ih 227 [a0, a1, (.int .i64 (.ofNat 0)), v3] h)
noncomputable def G264 : Sh := fun ih vs h => consE (fun a0 => consE (fun a1 => nilE (B264 ih a0 a1 h))) vs
noncomputable def B227 (ih : Nat → List V → Hp → VH) (a0 a1 a7 a8 : V) (h : Hp) : VH :=
intS .lss a7 a8 fun v4 =>
ifS v4 (
intS .add a7 a8 fun v5 =>
convI .u64 v5 fun v6 =>
shS .shr v6 (.int .u64 (.ofNat 1)) fun v7 =>
convI .i64 v7 fun v8 =>
idxS 3 a0 v8 fun v9 =>
loadN 3 v9 h fun v10 =>
newS 165 [(.int .u32 (.ofNat 0)), (.int .u32 (.ofNat 0)), (.int .u32 (.ofNat 0))] h fun v11 h12 =>
storeN 3 v11 v10 h12 fun h13 =>
addrS 0 v11 fun v14 =>
load1 v14 h13 fun v15 =>
intS .leq v15 a1 fun v16 =>
guardS v16 true (some (a1, h13)) h13 fun v17 h18 =>
guardS v16 true (addrS 1 v11 fun v19 =>
some (v19, h18)) h18 fun v20 h21 =>
guardS v16 true (load1 v20 h21 fun v22 =>
some (v22, h21)) h21 fun v23 h24 =>
guardS v16 true (intS .leq v17 v23 fun v25 =>
some (v25, h24)) h24 fun v26 h27 =>
optS (pickV v16 v26 (.bool false)) fun v28 =>
ifS v28 (
addrS 2 v11 fun v29 =>
load1 v29 h27 fun v30 =>
intS .eql v30 (.int .u32 (.ofNat 1)) fun v31 =>
guardS v31 false (some (a1, h27)) h27 fun v32 h33 =>
guardS v31 false (addrS 0 v11 fun v34 =>
some (v34, h33)) h33 fun v35 h36 =>
guardS v31 false (load1 v35 h36 fun v37 =>
some (v37, h36)) h36 fun v38 h39 =>
guardS v31 false (intS .sub v32 v38 fun v40 =>
some (v40, h39)) h39 fun v41 h42 =>
guardS v31 false (addrS 2 v11 fun v43 =>
some (v43, h42)) h42 fun v44 h45 =>
guardS v31 false (load1 v44 h45 fun v46 =>
some (v46, h45)) h45 fun v47 h48 =>
guardS v31 false (intS .rem v41 v47 fun v49 =>
some (v49, h48)) h48 fun v50 h51 =>
guardS v31 false (intS .eql v50 (.int .u32 (.ofNat 0)) fun v52 =>
some (v52, h51)) h51 fun v53 h54 =>
optS (pickV v31 (.bool true) v53) fun v55 =>
some (v55, h54)) (
addrS 0 v11 fun v56 =>
load1 v56 h27 fun v57 =>
intS .lss a1 v57 fun v58 =>
ifS v58 (
ih 227 [a0, a1, a7, v8] h27) (
intS .add v8 (.int .i64 (.ofNat 1)) fun v59 =>
ih 227 [a0, a1, v59, a8] h27))) (
some ((.bool false), h))
noncomputable def G227 : Sh := fun ih vs h => consE (fun a0 => consE (fun a1 => consE (fun a7 => consE (fun a8 => nilE (B227 ih a0 a1 a7 a8 h))))) vs
noncomputable def B229 (ih : Nat → List V → Hp → VH) (a0 a1 a15 a16 : V) (h : Hp) : VH :=
intS .lss a16 a15 fun v60 =>
ifS v60 (
idxS 3 a0 a16 fun v61 =>
nilS v61 fun v62 =>
addrS 0 v62 fun v63 =>
load1 v63 h fun v64 =>
intS .lss a1 v64 fun v65 =>
ifS v65 (
some ((.bool false), h)) (
nilS v61 fun v66 =>
addrS 1 v66 fun v67 =>
load1 v67 h fun v68 =>
intS .leq a1 v68 fun v69 =>
ifS v69 (
nilS v61 fun v70 =>
addrS 2 v70 fun v71 =>
load1 v71 h fun v72 =>
intS .eql v72 (.int .u32 (.ofNat 1)) fun v73 =>
guardS v73 false (some (a1, h)) h fun v74 _ =>
guardS v73 false (some (v61, h)) h fun v75 _ =>
guardS v73 false (nilS v75 fun v76 =>
some (v76, h)) h fun v77 _ =>
guardS v73 false (addrS 0 v77 fun v78 =>
some (v78, h)) h fun v79 _ =>
guardS v73 false (load1 v79 h fun v80 =>
some (v80, h)) h fun v81 _ =>
guardS v73 false (intS .sub v74 v81 fun v82 =>
some (v82, h)) h fun v83 _ =>
guardS v73 false (some (v61, h)) h fun v84 _ =>
guardS v73 false (nilS v84 fun v85 =>
some (v85, h)) h fun v86 _ =>
guardS v73 false (addrS 2 v86 fun v87 =>
some (v87, h)) h fun v88 _ =>
guardS v73 false (load1 v88 h fun v89 =>
some (v89, h)) h fun v90 _ =>
guardS v73 false (intS .rem v83 v90 fun v91 =>
some (v91, h)) h fun v92 h93 =>
guardS v73 false (intS .eql v92 (.int .u32 (.ofNat 0)) fun v94 =>
some (v94, h93)) h93 fun v95 h96 =>
optS (pickV v73 (.bool true) v95) fun v97 =>
some (v97, h96)) (
intS .add a16 (.int .i64 (.ofNat 1)) fun v98 =>
ih 229 [a0, a1, a15, v98] h))) (
some ((.bool false), h))
noncomputable def G229 : Sh := fun ih vs h => consE (fun a0 => consE (fun a1 => consE (fun a15 => consE (fun a16 => nilE (B229 ih a0 a1 a15 a16 h))))) vs
noncomputable def B262 (ih : Nat → List V → Hp → VH) (a0 a1 : V) (h : Hp) : VH :=
lenSl a0 fun v0 =>
intS .leq v0 (.int .i64 (.ofNat 18)) fun v1 =>
guardS v1 false (some (a1, h)) h fun v2 h3 =>
guardS v1 false (intS .leq v2 (.int .u16 (.ofNat 255)) fun v4 =>
some (v4, h3)) h3 fun v5 h6 =>
optS (pickV v1 (.bool true) v5) fun v7 =>
ifS v7 (
lenSl a0 fun v8 =>
ih 233 [a0, a1, v8, (.int .i64 (.ofNat 0))] h6) (
lenSl a0 fun v9 =>
ih 231 [a0, a1, (.int .i64 (.ofNat 0)), v9] h6)
noncomputable def G262 : Sh := fun ih vs h => consE (fun a0 => consE (fun a1 => nilE (B262 ih a0 a1 h))) vs
noncomputable def B231 (ih : Nat → List V → Hp → VH) (a0 a1 a7 a8 : V) (h : Hp) : VH :=
intS .lss a7 a8 fun v10 =>
ifS v10 (
intS .add a7 a8 fun v11 =>
convI .u64 v11 fun v12 =>
shS .shr v12 (.int .u64 (.ofNat 1)) fun v13 =>
convI .i64 v13 fun v14 =>
idxS 3 a0 v14 fun v15 =>
nilS v15 fun v16 =>
addrS 0 v16 fun v17 =>
load1 v17 h fun v18 =>
intS .leq v18 a1 fun v19 =>
guardS v19 true (some (a1, h)) h fun v20 h21 =>
guardS v19 true (some (v15, h21)) h21 fun v22 h23 =>
guardS v19 true (nilS v22 fun v24 =>
some (v24, h23)) h23 fun v25 h26 =>
guardS v19 true (addrS 1 v25 fun v27 =>
some (v27, h26)) h26 fun v28 h29 =>
guardS v19 true (load1 v28 h29 fun v30 =>
some (v30, h29)) h29 fun v31 h32 =>
guardS v19 true (intS .leq v20 v31 fun v33 =>
some (v33, h32)) h32 fun v34 h35 =>
optS (pickV v19 v34 (.bool false)) fun v36 =>
ifS v36 (
nilS v15 fun v37 =>
addrS 2 v37 fun v38 =>
load1 v38 h35 fun v39 =>
intS .eql v39 (.int .u16 (.ofNat 1)) fun v40 =>
guardS v40 false (some (a1, h35)) h35 fun v41 _ =>
guardS v40 false (some (v15, h35)) h35 fun v42 _ =>
guardS v40 false (nilS v42 fun v43 =>
some (v43, h35)) h35 fun v44 _ =>
guardS v40 false (addrS 0 v44 fun v45 =>
some (v45, h35)) h35 fun v46 _ =>
guardS v40 false (load1 v46 h35 fun v47 =>
some (v47, h35)) h35 fun v48 _ =>
guardS v40 false (intS .sub v41 v48 fun v49 =>
some (v49, h35)) h35 fun v50 _ =>
guardS v40 false (some (v15, h35)) h35 fun v51 _ =>
guardS v40 false (nilS v51 fun v52 =>
some (v52, h35)) h35 fun v53 _ =>
guardS v40 false (addrS 2 v53 fun v54 =>
some (v54, h35)) h35 fun v55 _ =>
guardS v40 false (load1 v55 h35 fun v56 =>
some (v56, h35)) h35 fun v57 _ =>
guardS v40 false (intS .rem v50 v57 fun v58 =>
some (v58, h35)) h35 fun v59 h60 =>
guardS v40 false (intS .eql v59 (.int .u16 (.ofNat 0)) fun v61 =>
some (v61, h60)) h60 fun v62 h63 =>
optS (pickV v40 (.bool true) v62) fun v64 =>
some (v64, h63)) (
nilS v15 fun v65 =>
addrS 0 v65 fun v66 =>
load1 v66 h35 fun v67 =>
intS .lss a1 v67 fun v68 =>
ifS v68 (
ih 231 [a0, a1, a7, v14] h35) (
intS .add v14 (.int .i64 (.ofNat 1)) fun v69 =>
ih 231 [a0, a1, v69, a8] h35))) (
some ((.bool false), h))
noncomputable def G231 : Sh := fun ih vs h => consE (fun a0 => consE (fun a1 => consE (fun a7 => consE (fun a8 => nilE (B231 ih a0 a1 a7 a8 h))))) vs
noncomputable def B233 (ih : Nat → List V → Hp → VH) (a0 a1 a19 a20 : V) (h : Hp) : VH :=
intS .lss a20 a19 fun v70 =>
ifS v70 (
idxS 3 a0 a20 fun v71 =>
nilS v71 fun v72 =>
addrS 0 v72 fun v73 =>
load1 v73 h fun v74 =>
intS .lss a1 v74 fun v75 =>
ifS v75 (
some ((.bool false), h)) (
nilS v71 fun v76 =>
addrS 1 v76 fun v77 =>
load1 v77 h fun v78 =>
intS .leq a1 v78 fun v79 =>
ifS v79 (
nilS v71 fun v80 =>
addrS 2 v80 fun v81 =>
load1 v81 h fun v82 =>
intS .eql v82 (.int .u16 (.ofNat 1)) fun v83 =>
guardS v83 false (some (a1, h)) h fun v84 _ =>
guardS v83 false (some (v71, h)) h fun v85 _ =>
guardS v83 false (nilS v85 fun v86 =>
some (v86, h)) h fun v87 _ =>
guardS v83 false (addrS 0 v87 fun v88 =>
some (v88, h)) h fun v89 _ =>
guardS v83 false (load1 v89 h fun v90 =>
some (v90, h)) h fun v91 _ =>
guardS v83 false (intS .sub v84 v91 fun v92 =>
some (v92, h)) h fun v93 _ =>
guardS v83 false (some (v71, h)) h fun v94 _ =>
guardS v83 false (nilS v94 fun v95 =>
some (v95, h)) h fun v96 _ =>
guardS v83 false (addrS 2 v96 fun v97 =>
some (v97, h)) h fun v98 _ =>
guardS v83 false (load1 v98 h fun v99 =>
some (v99, h)) h fun v100 _ =>
guardS v83 false (intS .rem v93 v100 fun v101 =>
some (v101, h)) h fun v102 h103 =>
guardS v83 false (intS .eql v102 (.int .u16 (.ofNat 0)) fun v104 =>
some (v104, h103)) h103 fun v105 h106 =>
optS (pickV v83 (.bool true) v105) fun v107 =>
some (v107, h106)) (
intS .add a20 (.int .i64 (.ofNat 1)) fun v108 =>
ih 233 [a0, a1, a19, v108] h))) (
some ((.bool false), h))
noncomputable def G233 : Sh := fun ih vs h => consE (fun a0 => consE (fun a1 => consE (fun a19 => consE (fun a20 => nilE (B233 ih a0 a1 a19 a20 h))))) vs
noncomputable def B258 (ih : Nat → List V → Hp → VH) (a0 a1 a2 : V) (h : Hp) : VH :=
intS .geq a1 a0 fun v0 =>
guardS v0 true (some (a1, h)) h fun v1 h2 =>
guardS v0 true (some (a2, h2)) h2 fun v3 h4 =>
guardS v0 true (intS .leq v1 v3 fun v5 =>
some (v5, h4)) h4 fun v6 h7 =>
optS (pickV v0 v6 (.bool false)) fun v8 =>
some (v8, h7)
noncomputable def G258 : Sh := fun ih vs h => consE (fun a0 => consE (fun a1 => consE (fun a2 => nilE (B258 ih a0 a1 a2 h)))) vs
noncomputable def B260 (ih : Nat → List V → Hp → VH) (a0 a1 : V) (h : Hp) : VH :=
bindS (ih 280 [a0, a1] h) fun v0 h1 =>
intS .geq v0 (.int .i64 (.ofNat 0)) fun v2 =>
some (v2, h1)
noncomputable def G260 : Sh := fun ih vs h => consE (fun a0 => consE (fun a1 => nilE (B260 ih a0 a1 h))) vs
noncomputable def B256 (ih : Nat → List V → Hp → VH) (a0 a1 : V) (h : Hp) : VH :=
lenSl a0 fun v0 =>
ih 235 [a0, a1, v0, (.int .i64 (.ofNat 0))] h
noncomputable def G256 : Sh := fun ih vs h => consE (fun a0 => consE (fun a1 => nilE (B256 ih a0 a1 h))) vs
noncomputable def B235 (ih : Nat → List V → Hp → VH) (a0 a1 a7 a8 : V) (h : Hp) : VH :=
intS .lss a8 a7 fun v1 =>
ifS v1 (
idxS 1 a0 a8 fun v2 =>
load1 v2 h fun v3 =>
bindS (dynE ih a1 [v3] h) fun v4 h5 =>
ifS v4 (
some (a8, h5)) (
intS .add a8 (.int .i64 (.ofNat 1)) fun v6 =>
ih 235 [a0, a1, a7, v6] h5)) (
some ((.int .i64 (.negSucc 0)), h))
noncomputable def G235 : Sh := fun ih vs h => consE (fun a0 => consE (fun a1 => consE (fun a7 => consE (fun a8 => nilE (B235 ih a0 a1 a7 a8 h))))) vs
noncomputable def B254 (ih : Nat → List V → Hp → VH) (a0 a1 : V) (h : Hp) : VH :=
bindS (ih 36 [a0] h) fun v0 h1 =>
ifS v0 (
some ((.int .u8 (.ofNat 0)), h1)) (
nilS a0 fun v2 =>
addrS 1 v2 fun v3 =>
load1 v3 h1 fun v4 =>
idxS 6 v4 a1 fun v5 =>
addrS 0 v5 fun v6 =>
load1 v6 h1 fun v7 =>
some (v7, h1))
noncomputable def G254 : Sh := fun ih vs h => consE (fun a0 => consE (fun a1 => nilE (B254 ih a0 a1 h))) vs
noncomputable def B250 (ih : Nat → List V → Hp → VH) (a0 a1 : V) (h : Hp) : VH :=
bindS (ih 66 [a0] h) fun v0 h1 =>
bindS (ih 72 [a0, (.str (us [40]))] h1) fun v2 h3 =>
ifS v2 (
bindS (ih 74 [a0] h3) fun v4 h5 =>
intS .add a1 (.int .i64 (.ofNat 1)) fun v6 =>
bindS (ih 142 [a0, v6, (.int .i64 (.ofNat 0))] h5) fun v7 h8 =>
bindS (ih 144 [a0, (.str (us [41]))] h8) fun v9 h10 =>
bindS (bldSl h10 [(0, v7)] 3 1 1 (.int .i64 (.ofNat 0))) fun v11 h12 =>
bindS (bldStruct h12 [(0, (.int .u8 (.ofNat 38))), (4, v11), (5, v0)] (.agg [(.int .u8 (.ofNat 0)), (.int .i64 (.ofNat 0)), (.str (us [])), .nilSlice, .nilSlice, (.int .i64 (.ofNat 0))]) (some [(0, 1), (1, 1), (2, 1), (3, 1), (4, 1), (5, 1)])) fun v13 h14 =>
bindS (ih 34 [a0, v13] h14) fun v15 h16 =>
ih 237 [a0, a1, v0, v15] h16) (
bindS (ih 206 [a0] h3) fun v17 h18 =>
bindS (bldStruct h18 [(0, (.int .u8 (.ofNat 27))), (2, v17), (5, v0)] (.agg [(.int .u8 (.ofNat 0)), (.int .i64 (.ofNat 0)), (.str (us [])), .nilSlice, .nilSlice, (.int .i64 (.ofNat 0))]) (some [(0, 1), (1, 1), (2, 1), (3, 1), (4, 1), (5, 1)])) fun v19 h20 =>
bindS (ih 34 [a0, v19] h20) fun v21 h22 =>
ih 237 [a0, a1, v0, v21] h22)
noncomputable def G250 : Sh := fun ih vs h => consE (fun a0 => consE (fun a1 => nilE (B250 ih a0 a1 h))) vs
noncomputable def B237 (ih : Nat → List V → Hp → VH) (a0 a1 a5 a6 : V) (h : Hp) : VH :=
ih 239 [a0, a1, a5, a6] h
noncomputable def G237 : Sh := fun ih vs h => consE (fun a0 => consE (fun a1 => consE (fun a5 => consE (fun a6 => nilE (B237 ih a0 a1 a5 a6 h))))) vs
noncomputable def B239 (ih : Nat → List V → Hp → VH) (a0 a1 a5 a6 : V) (h : Hp) : VH :=
bindS (ih 36 [a0] h) fun v23 h24 =>
notS v23 fun v25 =>
ifS v25 (
bindS (bldSl h24 [(0, a6)] 3 1 1 (.int .i64 (.ofNat 0))) fun v26 h27 =>
bindS (bldStruct h27 [(4, v26), (5, a5)] (.agg [(.int .u8 (.ofNat 0)), (.int .i64 (.ofNat 0)), (.str (us [])), .nilSlice, .nilSlice, (.int .i64 (.ofNat 0))]) (some [(0, 1), (1, 1), (2, 1), (3, 1), (4, 1), (5, 1)])) fun v28 h29 =>
newS 43 [(.int .u8 (.ofNat 0)), (.int .i64 (.ofNat 0)), (.str (us [])), .nilSlice, .nilSlice, (.int .i64 (.ofNat 0))] h29 fun v30 h31 =>
storeN 6 v30 v28 h31 fun h32 =>
bindS (ih 72 [a0, (.str (us [46]))] h32) fun v33 h34 =>
ifS v33 (
bindS (ih 74 [a0] h34) fun v35 h36 =>
addrS 0 v30 fun v37 =>
storeC v37 (.int .u8 (.ofNat 28)) h36 fun h38 =>
addrS 4 v30 fun v39 =>
load1 v39 h38 fun v40 =>
intS .add a1 (.int .i64 (.ofNat 1)) fun v41 =>
bindS (ih 252 [a0, v41] ⟨h38.t, h38.n, h38.n⟩) fun v42 h43 =>
cD ((pureB h38 h43 || sameA h38 h43 v39 (vcells v40).length) && true) (
wroteS h38.low h43 fun h44 =>
bindS (bldSl ⟨h44.t, h44.n, h44.n⟩ [(0, v42)] 3 1 1 (.int .i64 (.ofNat 0))) fun v45 h46 =>
madeS h44.n h44.low h46 fun h47 =>
bindS (appS 3 8 1 v40 v45 h47) fun v48 h49 =>
addrS 4 v30 fun v50 =>
storeC v50 v48 h49 fun h51 =>
ih 241 [a0, a1, a5, v30] h51) none) (
bindS (ih 72 [a0, (.str (us [91]))] h34) fun v52 h53 =>
ifS v52 (
bindS (ih 74 [a0] h53) fun v54 h55 =>
addrS 0 v30 fun v56 =>
storeC v56 (.int .u8 (.ofNat 28)) h55 fun h57 =>
addrS 4 v30 fun v58 =>
load1 v58 h57 fun v59 =>
intS .add a1 (.int .i64 (.ofNat 1)) fun v60 =>
bindS (ih 142 [a0, v60, (.int .i64 (.ofNat 0))] ⟨h57.t, h57.n, h57.n⟩) fun v61 h62 =>
cD ((pureB h57 h62 || sameA h57 h62 v58 (vcells v59).length) && true) (
wroteS h57.low h62 fun h63 =>
bindS (bldSl ⟨h63.t, h63.n, h63.n⟩ [(0, v61)] 3 1 1 (.int .i64 (.ofNat 0))) fun v64 h65 =>
madeS h63.n h63.low h65 fun h66 =>
bindS (appS 3 8 1 v59 v64 h66) fun v67 h68 =>
addrS 4 v30 fun v69 =>
storeC v69 v67 h68 fun h70 =>
bindS (ih 144 [a0, (.str (us [93]))] h70) fun v71 h72 =>
ih 241 [a0, a1, a5, v30] h72) none) (
bindS (ih 72 [a0, (.str (us [58]))] h53) fun v73 h74 =>
ifS v73 (
bindS (ih 74 [a0] h74) fun v75 h76 =>
addrS 0 v30 fun v77 =>
storeC v77 (.int .u8 (.ofNat 30)) h76 fun h78 =>
bindS (ih 206 [a0] h78) fun v79 h80 =>
addrS 2 v30 fun v81 =>
storeC v81 v79 h80 fun h82 =>
addrS 4 v30 fun v83 =>
load1 v83 h82 fun v84 =>
bindS (ih 278 [a0, a1] ⟨h82.t, h82.n, h82.n⟩) fun v85 h86 =>
cD ((pureB h82 h86 || sameA h82 h86 v83 (vcells v84).length) && true) (
wroteS h82.low h86 fun h87 =>
bindS (appS 3 8 1 v84 v85 h87) fun v88 h89 =>
addrS 4 v30 fun v90 =>
storeC v90 v88 h89 fun h91 =>
ih 241 [a0, a1, a5, v30] h91) none) (
bindS (ih 30 [a0, (.int .u8 (.ofNat 5))] h74) fun v92 h93 =>
guardS v92 false (some (a0, h93)) h93 fun v94 h95 =>
guardS v92 false (bindS (ih 72 [v94, (.str (us [123]))] h95) fun v96 h97 =>
some (v96, h97)) h95 fun v98 h99 =>
optS (pickV v92 (.bool true) v98) fun v100 =>
guardS v100 false (some (a0, h99)) h99 fun v101 h102 =>
guardS v100 false (bindS (ih 72 [v101, (.str (us [40]))] h102) fun v103 h104 =>
some (v103, h104)) h102 fun v105 h106 =>
optS (pickV v100 (.bool true) v105) fun v107 =>
ifS v107 (
addrS 0 v30 fun v108 =>
storeC v108 (.int .u8 (.ofNat 29)) h106 fun h109 =>
addrS 4 v30 fun v110 =>
load1 v110 h109 fun v111 =>
bindS (ih 278 [a0, a1] ⟨h109.t, h109.n, h109.n⟩) fun v112 h113 =>
cD ((pureB h109 h113 || sameA h109 h113 v110 (vcells v111).length) && true) (
wroteS h109.low h113 fun h114 =>
bindS (appS 3 8 1 v111 v112 h114) fun v115 h116 =>
addrS 4 v30 fun v117 =>
storeC v117 v115 h116 fun h118 =>
ih 241 [a0, a1, a5, v30] h118) none) (
some (a6, h106)))))) (
some (a6, h24))
noncomputable def G239 : Sh := fun ih vs h => consE (fun a0 => consE (fun a1 => consE (fun a5 => consE (fun a6 => nilE (B239 ih a0 a1 a5 a6 h))))) vs
noncomputable def B241 (ih : Nat → List V → Hp → VH) (a0 a1 a5 a8 : V) (h : Hp) : VH :=
loadN 6 a8 h fun v119 =>
bindS (ih 34 [a0, v119] h) fun v120 h121 =>
ih 239 [a0, a1, a5, v120] h121
noncomputable def G241 : Sh := fun ih vs h => consE (fun a0 => consE (fun a1 => consE (fun a5 => consE (fun a8 => nilE (B241 ih a0 a1 a5 a8 h))))) vs
noncomputable def B248 (ih : Nat → List V → Hp → VH) (a0 a1 a2 a3 : V) (h : Hp) : VH :=
bindS (bldStruct h [(0, (.int .u8 (.ofNat 26))), (3, a3), (5, a2)] (.agg [(.int .u8 (.ofNat 0)), (.int .i64 (.ofNat 0)), (.str (us [])), .nilSlice, .nilSlice, (.int .i64 (.ofNat 0))]) (some [(0, 1), (1, 1), (2, 1), (3, 1), (4, 1), (5, 1)])) fun v0 h1 =>
newS 43 [(.int .u8 (.ofNat 0)), (.int .i64 (.ofNat 0)), (.str (us [])), .nilSlice, .nilSlice, (.int .i64 (.ofNat 0))] h1 fun v2 h3 =>
storeN 6 v2 v0 h3 fun h4 =>
bindS (ih 144 [a0, (.str (us [40]))] h4) fun v5 h6 =>
bindS (ih 72 [a0, (.str (us [41]))] h6) fun v7 h8 =>
notS v7 fun v9 =>
ifS v9 (
ih 245 [a0, a1, v2] h8) (
ih 243 [a0, a1, v2] h8)
noncomputable def G248 : Sh := fun ih vs h => consE (fun a0 => consE (fun a1 => consE (fun a2 => consE (fun a3 => nilE (B248 ih a0 a1 a2 a3 h))))) vs
noncomputable def B243 (ih : Nat → List V → Hp → VH) (a0 a1 a9 : V) (h : Hp) : VH :=
bindS (ih 144 [a0, (.str (us [41]))] h) fun v10 h11 =>
intS .add a1 (.int .i64 (.ofNat 1)) fun v12 =>
bindS (ih 28 [a0, v12] h11) fun v13 h14 =>
bindS (bldSl h14 [(0, v13)] 3 1 1 (.int .i64 (.ofNat 0))) fun v15 h16 =>
addrS 4 a9 fun v17 =>
storeC v17 v15 h16 fun h18 =>
bindS (ih 144 [a0, (.str (us [101, 110, 100]))] h18) fun v19 h20 =>
loadN 6 a9 h20 fun v21 =>
bindS (ih 34 [a0, v21] h20) fun v22 h23 =>
some (v22, h23)
noncomputable def G243 : Sh := fun ih vs h => consE (fun a0 => consE (fun a1 => consE (fun a9 => nilE (B243 ih a0 a1 a9 h)))) vs
noncomputable def B245 (ih : Nat → List V → Hp → VH) (a0 a1 a9 : V) (h : Hp) : VH :=
bindS (ih 72 [a0, (.str (us [46, 46, 46]))] h) fun v24 h25 =>
ifS v24 (
bindS (ih 74 [a0] h25) fun v26 h27 =>
addrS 1 a9 fun v28 =>
storeC v28 (.int .i64 (.ofNat 1)) h27 fun h29 =>
ih 243 [a0, a1, a9] h29) (
bindS (ih 30 [a0, (.int .u8 (.ofNat 1))] h25) fun v30 h31 =>
notS v30 fun v32 =>
ifS v32 (
bindS (ih 32 [a0, (.int .i64 (.ofNat 40))] h31) fun v33 h34 =>
ih 247 [a0, a1, a9] h34) (
ih 247 [a0, a1, a9] h31))
noncomputable def G245 : Sh := fun ih vs h => consE (fun a0 => consE (fun a1 => consE (fun a9 => nilE (B245 ih a0 a1 a9 h)))) vs
noncomputable def B247 (ih : Nat → List V → Hp → VH) (a0 a1 a9 : V) (h : Hp) : VH :=
addrS 3 a9 fun v35 =>
load1 v35 h fun v36 =>
lenSl v36 fun v37 =>
bindS (ih 210 [a0, v37] h) fun v38 h39 =>
addrS 3 a9 fun v40 =>
load1 v40 h39 fun v41 =>
bindS (ih 206 [a0] ⟨h39.t, h39.n, h39.n⟩) fun v42 h43 =>
cD ((pureB h39 h43 || sameA h39 h43 v40 (vcells v41).length) && true) (
wroteS h39.low h43 fun h44 =>
bindS (bldSl ⟨h44.t, h44.n, h44.n⟩ [(0, v42)] 9 1 1 (.str (us []))) fun v45 h46 =>
madeS h44.n h44.low h46 fun h47 =>
bindS (appS 9 16 1 v41 v45 h47) fun v48 h49 =>
addrS 3 a9 fun v50 =>
storeC v50 v48 h49 fun h51 =>
bindS (ih 72 [a0, (.str (us [44]))] h51) fun v52 h53 =>
notS v52 fun v54 =>
ifS v54 (
ih 243 [a0, a1, a9] h53) (
bindS (ih 74 [a0] h53) fun v55 h56 =>
ih 245 [a0, a1, a9] h56)) none
noncomputable def G247 : Sh := fun ih vs h => consE (fun a0 => consE (fun a1 => consE (fun a9 => nilE (B247 ih a0 a1 a9 h)))) vs
noncomputable def B252 (ih : Nat → List V → Hp → VH) (a0 a1 : V) (h : Hp) : VH :=
bindS (ih 68 [a0, a1] h) fun v0 h1 =>
bindS (ih 30 [a0, (.int .u8 (.ofNat 1))] h1) fun v2 h3 =>
notS v2 fun v4 =>
ifS v4 (
bindS (ih 32 [a0, (.int .i64 (.ofNat 40))] h3) fun v5 h6 =>
ih 249 [a0] h6) (
ih 249 [a0] h3)
noncomputable def G252 : Sh := fun ih vs h => consE (fun a0 => consE (fun a1 => nilE (B252 ih a0 a1 h))) vs
noncomputable def B249 (ih : Nat → List V → Hp → VH) (a0 : V) (h : Hp) : VH :=
bindS (ih 74 [a0] h) fun v7 h8 =>
newS 81 [(.int .u8 (.ofNat 0)), (.str (us [])), (.int .i64 (.ofNat 0)), (.int .i64 (.ofNat 0))] h8 fun v9 h10 =>
storeN 4 v9 v7 h10 fun h11 =>
addrS 1 v9 fun v12 =>
load1 v12 h11 fun v13 =>
addrS 3 v9 fun v14 =>
load1 v14 h11 fun v15 =>
bindS (bldStruct h11 [(0, (.int .u8 (.ofNat 24))), (2, v13), (5, v15)] (.agg [(.int .u8 (.ofNat 0)), (.int .i64 (.ofNat 0)), (.str (us [])), .nilSlice, .nilSlice, (.int .i64 (.ofNat 0))]) (some [(0, 1), (1, 1), (2, 1), (3, 1), (4, 1), (5, 1)])) fun v16 h17 =>
bindS (ih 34 [a0, v16] h17) fun v18 h19 =>
some (v18, h19)
noncomputable def G249 : Sh := fun ih vs h => consE (fun a0 => nilE (B249 ih a0 h)) vs
noncomputable def B246 (ih : Nat → List V → Hp → VH) (a0 a1 : V) (h : Hp) : VH :=
bindS (ih 66 [a0] h) fun v0 h1 =>
bindS (bldStruct h1 [(0, (.int .u8 (.ofNat 35))), (5, v0)] (.agg [(.int .u8 (.ofNat 0)), (.int .i64 (.ofNat 0)), (.str (us [])), .nilSlice, .nilSlice, (.int .i64 (.ofNat 0))]) (some [(0, 1), (1, 1), (2, 1), (3, 1), (4, 1), (5, 1)])) fun v2 h3 =>
newS 43 [(.int .u8 (.ofNat 0)), (.int .i64 (.ofNat 0)), (.str (us [])), .nilSlice, .nilSlice, (.int .i64 (.ofNat 0))] h3 fun v4 h5 =>
storeN 6 v4 v2 h5 fun h6 =>
bindS (ih 144 [a0, (.str (us [123]))] h6) fun v7 h8 =>
ih 253 [a0, a1, v4] h8
noncomputable def G246 : Sh := fun ih vs h => consE (fun a0 => consE (fun a1 => nilE (B246 ih a0 a1 h))) vs
noncomputable def B251 (ih : Nat → List V → Hp → VH) (a0 a5 : V) (h : Hp) : VH :=
bindS (ih 144 [a0, (.str (us [125]))] h) fun v9 h10 =>
loadN 6 a5 h10 fun v11 =>
bindS (ih 34 [a0, v11] h10) fun v12 h13 =>
some (v12, h13)
noncomputable def G251 : Sh := fun ih vs h => consE (fun a0 => consE (fun a5 => nilE (B251 ih a0 a5 h))) vs
noncomputable def B253 (ih : Nat → List V → Hp → VH) (a0 a1 a5 : V) (h : Hp) : VH :=
bindS (ih 36 [a0] h) fun v14 h15 =>
notS v14 fun v16 =>
guardS v16 true (some (a0, h15)) h15 fun v17 h18 =>
guardS v16 true (bindS (ih 72 [v17, (.str (us [125]))] h18) fun v19 h20 =>
some (v19, h20)) h18 fun v21 h22 =>
guardS v16 true (notS v21 fun v23 =>
some (v23, h22)) h22 fun v24 h25 =>
optS (pickV v16 v24 (.bool false)) fun v26 =>
ifS v26 (
addrS 4 a5 fun v27 =>
load1 v27 h25 fun v28 =>
intS .add a1 (.int .i64 (.ofNat 1)) fun v29 =>
bindS (ih 276 [a0, v29] ⟨h25.t, h25.n, h25.n⟩) fun v30 h31 =>
cD ((pureB h25 h31 || sameA h25 h31 v27 (vcells v28).length) && true) (
wroteS h25.low h31 fun h32 =>
bindS (bldSl ⟨h32.t, h32.n, h32.n⟩ [(0, v30)] 3 1 1 (.int .i64 (.ofNat 0))) fun v33 h34 =>
madeS h32.n h32.low h34 fun h35 =>
bindS (appS 3 8 1 v28 v33 h35) fun v36 h37 =>
addrS 4 a5 fun v38 =>
storeC v38 v36 h37 fun h39 =>
bindS (ih 72 [a0, (.str (us [44]))] h39) fun v40 h41 =>
notS v40 fun v42 =>
guardS v42 true (some (a0, h41)) h41 fun v43 h44 =>
guardS v42 true (bindS (ih 72 [v43, (.str (us [59]))] h44) fun v45 h46 =>
some (v45, h46)) h44 fun v47 h48 =>
guardS v42 true (notS v47 fun v49 =>
some (v49, h48)) h48 fun v50 h51 =>
optS (pickV v42 v50 (.bool false)) fun v52 =>
ifS v52 (
ih 251 [a0, a5] h51) (
bindS (ih 74 [a0] h51) fun v53 h54 =>
ih 253 [a0, a1, a5] h54)) none) (
ih 251 [a0, a5] h25)
noncomputable def G253 : Sh := fun ih vs h => consE (fun a0 => consE (fun a1 => consE (fun a5 => nilE (B253 ih a0 a1 a5 h)))) vs
noncomputable def B242 (ih : Nat → List V → Hp → VH) (a0 a1 a2 a3 : V) (h : Hp) : VH :=
ih 257 [a0, a1, a2, a3, (.int .i64 (.ofNat 0)), (.int .i64 (.ofNat 0))] h
noncomputable def G242 : Sh := fun ih vs h => consE (fun a0 => consE (fun a1 => consE (fun a2 => consE (fun a3 => nilE (B242 ih a0 a1 a2 a3 h))))) vs
noncomputable def B255 (ih : Nat → List V → Hp → VH) (a10 a11 : V) (h : Hp) : VH :=
some (.tuple [a10, a11], h)
noncomputable def G255 : Sh := fun ih vs h => consE (fun a10 => consE (fun a11 => nilE (B255 ih a10 a11 h))) vs
noncomputable def B257 (ih : Nat → List V → Hp → VH) (a0 a1 a2 a3 a10 a11 : V) (h : Hp) : VH :=
intS .lss a11 a3 fun v0 =>
guardS v0 true (some (a1, h)) h fun v1 h2 =>
guardS v0 true (some (a11, h2)) h2 fun v3 h4 =>
guardS v0 true (intS .add v1 v3 fun v5 =>
some (v5, h4)) h4 fun v6 h7 =>
guardS v0 true (some (a0, h7)) h7 fun v8 h9 =>
guardS v0 true (lenStr v8 fun v10 =>
some (v10, h9)) h9 fun v11 h12 =>
guardS v0 true (intS .lss v6 v11 fun v13 =>
some (v13, h12)) h12 fun v14 h15 =>
optS (pickV v0 v14 (.bool false)) fun v16 =>
guardS v16 true (some (a10, h15)) h15 fun v17 h18 =>
guardS v16 true (intS .lss v17 (.int .i64 (.ofNat 2147483648)) fun v19 =>
some (v19, h18)) h18 fun v20 h21 =>
optS (pickV v16 v20 (.bool false)) fun v22 =>
ifS v22 (
intS .add a1 a11 fun v23 =>
idxStr a0 v23 fun v24 =>
bindS (ih 236 [v24] h21) fun v25 h26 =>
extS 0 v25 fun v27 =>
extS 1 v25 fun v28 =>
notS v28 fun v29 =>
guardS v29 false (some (v27, h26)) h26 fun v30 h31 =>
guardS v29 false (some (a2, h31)) h31 fun v32 h33 =>
guardS v29 false (intS .geq v30 v32 fun v34 =>
some (v34, h33)) h33 fun v35 h36 =>
optS (pickV v29 (.bool true) v35) fun v37 =>
ifS v37 (
ih 255 [a10, a11] h36) (
intS .mul a10 a2 fun v38 =>
intS .add v38 v27 fun v39 =>
intS .add a11 (.int .i64 (.ofNat 1)) fun v40 =>
ih 257 [a0, a1, a2, a3, v39, v40] h36)) (
ih 255 [a10, a11] h21)
noncomputable def G257 : Sh := fun ih vs h => consE (fun a0 => consE (fun a1 => consE (fun a2 => consE (fun a3 => consE (fun a10 => consE (fun a11 => nilE (B257 ih a0 a1 a2 a3 a10 a11 h))))))) vs
noncomputable def B238 (ih : Nat → List V → Hp → VH) (a0 a1 a2 : V) (h : Hp) : VH :=
lenStr a0 fun v0 =>
intS .lss a1 v0 fun v1 =>
guardS v1 true (some (a0, h)) h fun v2 h3 =>
guardS v1 true (some (a1, h3)) h3 fun v4 h5 =>
guardS v1 true (idxStr v2 v4 fun v6 =>
some (v6, h5)) h5 fun v7 h8 =>
guardS v1 true (some (a2, h8)) h8 fun v9 h10 =>
guardS v1 true (intS .eql v7 v9 fun v11 =>
some (v11, h10)) h10 fun v12 h13 =>
optS (pickV v1 v12 (.bool false)) fun v14 =>
some (v14, h13)
noncomputable def G238 : Sh := fun ih vs h => consE (fun a0 => consE (fun a1 => consE (fun a2 => nilE (B238 ih a0 a1 a2 h)))) vs
noncomputable def B244 (ih : Nat → List V → Hp → VH) (a0 : V) (h : Hp) : VH :=
intS .lss a0 (.int .i64 (.ofNat 0)) fun v0 =>
guardS v0 false (some (a0, h)) h fun v1 h2 =>
guardS v0 false (intS .gtr v1 (.int .i64 (.ofNat 2147483647)) fun v3 =>
some (v3, h2)) h2 fun v4 h5 =>
optS (pickV v0 (.bool true) v4) fun v6 =>
ifS v6 (
some (.tuple [(.str (us [])), (.int .i64 (.ofNat 10))], h5)) (
intS .lss a0 (.int .i64 (.ofNat 128)) fun v7 =>
ifS v7 (
convI .u8 a0 fun v8 =>
bindS (bldSl h5 [(0, v8)] 5 1 1 (.int .u8 (.ofNat 0))) fun v9 h10 =>
bindS (vh h10 (b2s h10 v9)) fun v11 h12 =>
some (.tuple [v11, (.int .i64 (.ofNat 0))], h12)) (
ih 259 [a0, (.int .i64 (.ofNat 2)), (.int .i64 (.ofNat 2048))] h5))
noncomputable def G244 : Sh := fun ih vs h => consE (fun a0 => nilE (B244 ih a0 h)) vs
noncomputable def B259 (ih : Nat → List V → Hp → VH) (a0 a4 a5 : V) (h : Hp) : VH :=
intS .geq a0 a5 fun v13 =>
ifS v13 (
intS .add a4 (.int .i64 (.ofNat 1)) fun v14 =>
intS .mul a5 (.int .i64 (.ofNat 32)) fun v15 =>
ih 259 [a0, v14, v15] h) (
ih 261 [a0, a4, .nilSlice, (.int .i64 (.ofNat 1))] h)
noncomputable def G259 : Sh := fun ih vs h => consE (fun a0 => consE (fun a4 => consE (fun a5 => nilE (B259 ih a0 a4 a5 h)))) vs
noncomputable def B261 (ih : Nat → List V → Hp → VH) (a0 a4 a6 a7 : V) (h : Hp) : VH :=
intS .lss a7 a4 fun v16 =>
ifS v16 (
intS .rem a0 (.int .i64 (.ofNat 64)) fun v17 =>
intS .add (.int .i64 (.ofNat 128)) v17 fun v18 =>
convI .u8 v18 fun v19 =>
bindS (bldSl h [(0, v19)] 5 1 1 (.int .u8 (.ofNat 0))) fun v20 h21 =>
bindS (appS 5 1 1 a6 v20 h21) fun v22 h23 =>
intS .quo a0 (.int .i64 (.ofNat 64)) fun v24 =>
intS .add a7 (.int .i64 (.ofNat 1)) fun v25 =>
ih 261 [v24, a4, v22, v25] h23) (
ih 263 [a0, a4, a6, (.int .i64 (.ofNat 0)), (.int .i64 (.ofNat 0))] h)
noncomputable def G261 : Sh := fun ih vs h => consE (fun a0 => consE (fun a4 => consE (fun a6 => consE (fun a7 => nilE (B261 ih a0 a4 a6 a7 h))))) vs
noncomputable def B263 (ih : Nat → List V → Hp → VH) (a0 a4 a6 a8 a9 : V) (h : Hp) : VH :=
intS .lss a9 a4 fun v26 =>
ifS v26 (
convI .u64 a9 fun v27 =>
shS .shr (.int .i64 (.ofNat 128)) v27 fun v28 =>
intS .add a8 v28 fun v29 =>
intS .add a9 (.int .i64 (.ofNat 1)) fun v30 =>
ih 263 [a0, a4, a6, v29, v30] h) (
intS .add a8 a0 fun v31 =>
convI .u8 v31 fun v32 =>
bindS (bldSl h [(0, v32)] 5 1 1 (.int .u8 (.ofNat 0))) fun v33 h34 =>
lenSl a6 fun v35 =>
intS .sub v35 (.int .i64 (.ofNat 1)) fun v36 =>
ih 265 [a6, v33, v36] h34)
noncomputable def G263 : Sh := fun ih vs h => consE (fun a0 => consE (fun a4 => consE (fun a6 => consE (fun a8 => consE (fun a9 => nilE (B263 ih a0 a4 a6 a8 a9 h)))))) vs
noncomputable def B265 (ih : Nat → List V → Hp → VH) (a6 a10 a11 : V) (h : Hp) : VH :=
intS .geq a11 (.int .i64 (.ofNat 0)) fun v37 =>
ifS v37 (
idxS 1 a6 a11 fun v38 =>
load1 v38 h fun v39 =>
bindS (bldSl h [(0, v39)] 5 1 1 (.int .u8 (.ofNat 0))) fun v40 h41 =>
bindS (appS 5 1 1 a10 v40 h41) fun v42 h43 =>
intS .sub a11 (.int .i64 (.ofNat 1)) fun v44 =>
ih 265 [a6, v42, v44] h43) (
bindS (vh h (b2s h a10)) fun v45 h46 =>
some (.tuple [v45, (.int .i64 (.ofNat 0))], h46))
noncomputable def G265 : Sh := fun ih vs h => consE (fun a6 => consE (fun a10 => consE (fun a11 => nilE (B265 ih a6 a10 a11 h)))) vs
noncomputable def B240 (ih : Nat → List V → Hp → VH) (a0 : V) (h : Hp) : VH :=
bindS (bldSl h [(0, (.int .i64 (.ofNat 7))), (1, (.int .i64 (.ofNat 8))), (2, (.int .i64 (.ofNat 12))), (3, (.int .i64 (.ofNat 10))), (4, (.int .i64 (.ofNat 13))), (5, (.int .i64 (.ofNat 9))), (6, (.int .i64 (.ofNat 11))), (7, (.int .i64 (.ofNat 92))), (8, (.int .i64 (.ofNat 39))), (9, (.int .i64 (.ofNat 34)))] 3 10 1 (.int .i64 (.ofNat 0))) fun v0 h1 =>
ih 267 [a0, (.str (us [97, 98, 102, 110, 114, 116, 118, 92, 39, 34])), v0, (.int .i64 (.ofNat 0))] h1
noncomputable def G240 : Sh := fun ih vs h => consE (fun a0 => nilE (B240 ih a0 h)) vs
noncomputable def B267 (ih : Nat → List V → Hp → VH) (a0 a3 a4 a5 : V) (h : Hp) : VH :=
lenStr a3 fun v2 =>
intS .lss a5 v2 fun v3 =>
ifS v3 (
idxStr a3 a5 fun v4 =>
intS .eql v4 a0 fun v5 =>
ifS v5 (
idxS 1 a4 a5 fun v6 =>
load1 v6 h fun v7 =>
some (v7, h)) (
intS .add a5 (.int .i64 (.ofNat 1)) fun v8 =>
ih 267 [a0, a3, a4, v8] h)) (
some ((.int .i64 (.negSucc 0)), h))
noncomputable def G267 : Sh := fun ih vs h => consE (fun a0 => consE (fun a3 => consE (fun a4 => consE (fun a5 => nilE (B267 ih a0 a3 a4 a5 h))))) vs
noncomputable def B236 (ih : Nat → List V → Hp → VH) (a0 : V) (h : Hp) : VH :=
ih 269 [a0, (.int .i64 (.ofNat 0))] h
noncomputable def G236 : Sh := fun ih vs h => consE (fun a0 => nilE (B236 ih a0 h)) vs
noncomputable def B269 (ih : Nat → List V → Hp → VH) (a0 a4 : V) (h : Hp) : VH :=
intS .lss a4 (.int .i64 (.ofNat 16)) fun v0 =>
ifS v0 (
idxStr (.str (us [48, 49, 50, 51, 52, 53, 54, 55, 56, 57, 97, 98, 99, 100, 101, 102])) a4 fun v1 =>
intS .eql v1 a0 fun v2 =>
guardS v2 false (some (a4, h)) h fun v3 h4 =>
guardS v2 false (idxStr (.str (us [48, 49, 50, 51, 52, 53, 54, 55, 56, 57, 65, 66, 67, 68, 69, 70])) v3 fun v5 =>
some (v5, h4)) h4 fun v6 h7 =>
guardS v2 false (some (a0, h7)) h7 fun v8 h9 =>
guardS v2 false (intS .eql v6 v8 fun v10 =>
some (v10, h9)) h9 fun v11 h12 =>
optS (pickV v2 (.bool true) v11) fun v13 =>
ifS v13 (
some (.tuple [a4, (.bool true)], h12)) (
intS .add a4 (.int .i64 (.ofNat 1)) fun v14 =>
ih 269 [a0, v14] h12)) (
some (.tuple [(.int .i64 (.ofNat 0)), (.bool false)], h))
noncomputable def G269 : Sh := fun ih vs h => consE (fun a0 => consE (fun a4 => nilE (B269 ih a0 a4 h))) vs
noncomputable def B234 (ih : Nat → List V → Hp → VH) (a0 a1 : V) (h : Hp) : VH :=
ih 273 [a0, a1, (.int .i64 (.ofNat 0)), (.int .i64 (.ofNat 0))] h
noncomputable def G234 : Sh := fun ih vs h => consE (fun a0 => consE (fun a1 => nilE (B234 ih a0 a1 h))) vs
noncomputable def B271 (ih : Nat → List V → Hp → VH) (a0 a6 : V) (h : Hp) : VH :=
lenStr a0 fun v0 =>
intS .gtr v0 (.int .i64 (.ofNat 0)) fun v1 =>
some (.tuple [a6, v1], h)
noncomputable def G271 : Sh := fun ih vs h => consE (fun a0 => consE (fun a6 => nilE (B271 ih a0 a6 h))) vs
noncomputable def B273 (ih : Nat → List V → Hp → VH) (a0 a1 a6 a7 : V) (h : Hp) : VH :=
lenStr a0 fun v2 =>
intS .lss a7 v2 fun v3 =>
ifS v3 (
idxStr a0 a7 fun v4 =>
bindS (ih 236 [v4] h) fun v5 h6 =>
extS 0 v5 fun v7 =>
extS 1 v5 fun v8 =>
notS v8 fun v9 =>
ifS v9 (
some (.tuple [(.int .i64 (.ofNat 0)), (.bool false)], h6)) (
intS .mul (.int .i64 (.ofNat 16)) a6 fun v10 =>
intS .add v10 v7 fun v11 =>
intS .add a7 (.int .i64 (.ofNat 1)) fun v12 =>
ih 273 [a0, a1, v11, v12] h6)) (
ifS a1 (
intS .sub (.int .i64 (.ofNat 0)) a6 fun v13 =>
ih 271 [a0, v13] h) (
ih 271 [a0, a6] h))
noncomputable def G273 : Sh := fun ih vs h => consE (fun a0 => consE (fun a1 => consE (fun a6 => consE (fun a7 => nilE (B273 ih a0 a1 a6 a7 h))))) vs
noncomputable def B290 (ih : Nat → List V → Hp → VH) (a0 : V) (h : Hp) : VH :=
ifS (.bool false) (
convI .u32 a0 fun v0 =>
bindS (ih 294 [v0] h) fun v1 h2 =>
some (v1, h2)) (
bindS (ih 296 [a0] h) fun v3 h4 =>
some (v3, h4))
noncomputable def G290 : Sh := fun ih vs h => consE (fun a0 => nilE (B290 ih a0 h)) vs
noncomputable def B288 (ih : Nat → List V → Hp → VH) (a0 : V) (h : Hp) : VH :=
intS .sub a0 (.int .i64 (.ofNat 1)) fun v0 =>
intS .and a0 v0 fun v1 =>
intS .eql v1 (.int .i64 (.ofNat 0)) fun v2 =>
some (v2, h)
noncomputable def G288 : Sh := fun ih vs h => consE (fun a0 => nilE (B288 ih a0 h)) vs
noncomputable def B286 (ih : Nat → List V → Hp → VH) (a0 : V) (h : Hp) : VH :=
ifS a0 (
some ((.int .i64 (.ofNat 1)), h)) (
some ((.int .i64 (.ofNat 0)), h))
noncomputable def G286 : Sh := fun ih vs h => consE (fun a0 => nilE (B286 ih a0 h)) vs
noncomputable def B282 (ih : Nat → List V → Hp → VH) (a0 : V) (h : Hp) : VH :=
intS .mul a0 (.int .i64 (.ofNat 78913)) fun v0 =>
shS .shr v0 (.int .u64 (.ofNat 18)) fun v1 =>
some (v1, h)
noncomputable def G282 : Sh := fun ih vs h => consE (fun a0 => nilE (B282 ih a0 h)) vs
noncomputable def B284 (ih : Nat → List V → Hp → VH) (a0 : V) (h : Hp) : VH :=
intS .geq a0 (.int .u64 (.ofNat 4294967296)) fun v0 =>
ifS v0 (
shS .shr a0 (.int .u64 (.ofNat 32)) fun v1 =>
ih 275 [v1, (.int .i64 (.ofNat 32))] h) (
ih 275 [a0, (.int .i64 (.ofNat 0))] h)
noncomputable def G284 : Sh := fun ih vs h => consE (fun a0 => nilE (B284 ih a0 h)) vs
noncomputable def B275 (ih : Nat → List V → Hp → VH) (a0 a2 : V) (h : Hp) : VH :=
intS .geq a0 (.int .u64 (.ofNat 65536)) fun v2 =>
ifS v2 (
shS .shr a0 (.int .u64 (.ofNat 16)) fun v3 =>
intS .add a2 (.int .i64 (.ofNat 16)) fun v4 =>
ih 277 [v3, v4] h) (
ih 277 [a0, a2] h)
noncomputable def G275 : Sh := fun ih vs h => consE (fun a0 => consE (fun a2 => nilE (B275 ih a0 a2 h))) vs
noncomputable def B277 (ih : Nat → List V → Hp → VH) (a0 a2 : V) (h : Hp) : VH :=
intS .geq a0 (.int .u64 (.ofNat 256)) fun v5 =>
ifS v5 (
shS .shr a0 (.int .u64 (.ofNat 8)) fun v6 =>
intS .add a2 (.int .i64 (.ofNat 8)) fun v7 =>
ih 279 [v6, v7] h) (
ih 279 [a0, a2] h)
noncomputable def G277 : Sh := fun ih vs h => consE (fun a0 => consE (fun a2 => nilE (B277 ih a0 a2 h))) vs
noncomputable def B279 (ih : Nat → List V → Hp → VH) (a0 a2 : V) (h : Hp) : VH :=
convI .u8 a0 fun v8 =>
idxStr (.str (us [0, 1, 2, 2, 3, 3, 3, 3, 4, 4, 4, 4, 4, 4, 4, 4, 5, 5, 5, 5, 5, 5, 5, 5, 5, 5, 5, 5, 5, 5, 5, 5, 6, 6, 6, 6, 6, 6, 6, 6, 6, 6, 6, 6, 6, 6, 6, 6, 6, 6, 6, 6, 6, 6, 6, 6, 6, 6, 6, 6, 6, 6, 6, 6, 7, 7, 7, 7, 7, 7, 7, 7, 7, 7, 7, 7, 7, 7, 7, 7, 7, 7, 7, 7, 7, 7, 7, 7, 7, 7, 7, 7, 7, 7, 7, 7, 7, 7, 7, 7, 7, 7, 7, 7, 7, 7, 7, 7, 7, 7, 7, 7, 7, 7, 7, 7, 7, 7, 7, 7, 7, 7, 7, 7, 7, 7, 7, 7, 8, 8, 8, 8, 8, 8, 8, 8, 8, 8, 8, 8, 8, 8, 8, 8, 8, 8, 8, 8, 8, 8, 8, 8, 8, 8, 8, 8, 8, 8, 8, 8, 8, 8, 8, 8, 8, 8, 8, 8, 8, 8, 8, 8, 8, 8, 8, 8, 8, 8, 8, 8, 8, 8, 8, 8, 8, 8, 8, 8, 8, 8, 8, 8, 8, 8, 8, 8, 8, 8, 8, 8, 8, 8, 8, 8, 8, 8, 8, 8, 8, 8, 8, 8, 8, 8, 8, 8, 8, 8, 8, 8, 8, 8, 8, 8, 8, 8, 8, 8, 8, 8, 8, 8, 8, 8, 8, 8, 8, 8, 8, 8, 8, 8, 8, 8, 8, 8, 8, 8, 8, 8, 8, 8, 8, 8, 8, 8])) v8 fun v9 =>
convI .i64 v9 fun v10 =>
intS .add a2 v10 fun v11 =>
some (v11, h)
noncomputable def G279 : Sh := fun ih vs h => consE (fun a0 => consE (fun a2 => nilE (B279 ih a0 a2 h))) vs
noncomputable def B280 (ih : Nat → List V → Hp → VH) (a0 a1 : V) (h : Hp) : VH :=
bindS (ih 292 [a0, a1] h) fun v0 h1 =>
some (v0, h1)
noncomputable def G280 : Sh := fun ih vs h => consE (fun a0 => consE (fun a1 => nilE (B280 ih a0 a1 h))) vs
noncomputable def B278 (ih : Nat → List V → Hp → VH) (a0 a1 : V) (h : Hp) : VH :=
bindS (ih 30 [a0, (.int .u8 (.ofNat 5))] h) fun v0 h1 =>
guardS v0 false (some (a0, h1)) h1 fun v2 h3 =>
guardS v0 false (bindS (ih 72 [v2, (.str (us [123]))] h3) fun v4 h5 =>
some (v4, h5)) h3 fun v6 h7 =>
optS (pickV v0 (.bool true) v6) fun v8 =>
ifS v8 (
intS .add a1 (.int .i64 (.ofNat 1)) fun v9 =>
bindS (ih 68 [a0, v9] h7) fun v10 h11 =>
intS .add a1 (.int .i64 (.ofNat 1)) fun v12 =>
bindS (ih 202 [a0, v12] h11) fun v13 h14 =>
bindS (bldSl h14 [(0, v13)] 3 1 1 (.int .i64 (.ofNat 0))) fun v15 h16 =>
some (v15, h16)) (
bindS (ih 144 [a0, (.str (us [40]))] h7) fun v17 h18 =>
bindS (ih 72 [a0, (.str (us [41]))] h18) fun v19 h20 =>
notS v19 fun v21 =>
ifS v21 (
intS .add a1 (.int .i64 (.ofNat 1)) fun v22 =>
bindS (ih 150 [a0, v22] h20) fun v23 h24 =>
ih 281 [a0, v23] h24) (
ih 281 [a0, .nilSlice] h20))
noncomputable def G278 : Sh := fun ih vs h => consE (fun a0 => consE (fun a1 => nilE (B278 ih a0 a1 h))) vs
noncomputable def B281 (ih : Nat → List V → Hp → VH) (a0 a5 : V) (h : Hp) : VH :=
bindS (ih 144 [a0, (.str (us [41]))] h) fun v25 h26 =>
some (a5, h26)
noncomputable def G281 : Sh := fun ih vs h => consE (fun a0 => consE (fun a5 => nilE (B281 ih a0 a5 h))) vs
noncomputable def B276 (ih : Nat → List V → Hp → VH) (a0 a1 : V) (h : Hp) : VH :=
bindS (ih 66 [a0] h) fun v0 h1 =>
bindS (ih 72 [a0, (.str (us [91]))] h1) fun v2 h3 =>
ifS v2 (
bindS (ih 74 [a0] h3) fun v4 h5 =>
bindS (ih 142 [a0, a1, (.int .i64 (.ofNat 0))] h5) fun v6 h7 =>
bindS (ih 144 [a0, (.str (us [93]))] h7) fun v8 h9 =>
bindS (ih 144 [a0, (.str (us [61]))] h9) fun v10 h11 =>
ih 283 [a0, a1, v0, (.bool true), v6] h11) (
bindS (ih 30 [a0, (.int .u8 (.ofNat 1))] h3) fun v12 h13 =>
guardS v12 true (some (a0, h13)) h13 fun v14 h15 =>
guardS v12 true (nilS v14 fun v16 =>
some (v16, h15)) h15 fun v17 h18 =>
guardS v12 true (addrS 0 v17 fun v19 =>
some (v19, h18)) h18 fun v20 h21 =>
guardS v12 true (load1 v20 h21 fun v22 =>
some (v22, h21)) h21 fun v23 h24 =>
guardS v12 true (lenSl v23 fun v25 =>
some (v25, h24)) h24 fun v26 h27 =>
guardS v12 true (intS .gtr v26 (.int .i64 (.ofNat 1)) fun v28 =>
some (v28, h27)) h27 fun v29 h30 =>
optS (pickV v12 v29 (.bool false)) fun v31 =>
guardS v31 true (some (a0, h30)) h30 fun v32 h33 =>
guardS v31 true (nilS v32 fun v34 =>
some (v34, h33)) h33 fun v35 h36 =>
guardS v31 true (addrS 0 v35 fun v37 =>
some (v37, h36)) h36 fun v38 h39 =>
guardS v31 true (load1 v38 h39 fun v40 =>
some (v40, h39)) h39 fun v41 h42 =>
guardS v31 true (idxS 4 v41 (.int .i64 (.ofNat 1)) fun v43 =>
some (v43, h42)) h42 fun v44 h45 =>
guardS v31 true (addrS 0 v44 fun v46 =>
some (v46, h45)) h45 fun v47 h48 =>
guardS v31 true (load1 v47 h48 fun v49 =>
some (v49, h48)) h48 fun v50 h51 =>
guardS v31 true (intS .eql v50 (.int .u8 (.ofNat 3)) fun v52 =>
some (v52, h51)) h51 fun v53 h54 =>
optS (pickV v31 v53 (.bool false)) fun v55 =>
guardS v55 true (some (a0, h54)) h54 fun v56 h57 =>
guardS v55 true (nilS v56 fun v58 =>
some (v58, h57)) h57 fun v59 h60 =>
guardS v55 true (addrS 0 v59 fun v61 =>
some (v61, h60)) h60 fun v62 h63 =>
guardS v55 true (load1 v62 h63 fun v64 =>
some (v64, h63)) h63 fun v65 h66 =>
guardS v55 true (idxS 4 v65 (.int .i64 (.ofNat 1)) fun v67 =>
some (v67, h66)) h66 fun v68 h69 =>
guardS v55 true (addrS 1 v68 fun v70 =>
some (v70, h69)) h69 fun v71 h72 =>
guardS v55 true (load1 v71 h72 fun v73 =>
some (v73, h72)) h72 fun v74 h75 =>
guardS v55 true (strS .eql v74 (.str (us [61])) fun v76 =>
some (v76, h75)) h75 fun v77 h78 =>
optS (pickV v55 v77 (.bool false)) fun v79 =>
ifS v79 (
bindS (ih 252 [a0, a1] h78) fun v80 h81 =>
bindS (ih 144 [a0, (.str (us [61]))] h81) fun v82 h83 =>
ih 283 [a0, a1, v0, (.bool true), v80] h83) (
ih 283 [a0, a1, v0, (.bool false), (.int .i64 (.ofNat 0))] h78))
noncomputable def G276 : Sh := fun ih vs h => consE (fun a0 => consE (fun a1 => nilE (B276 ih a0 a1 h))) vs
noncomputable def B283 (ih : Nat → List V → Hp → VH) (a0 a1 a5 a6 a7 : V) (h : Hp) : VH :=
bindS (ih 142 [a0, a1, (.int .i64 (.ofNat 0))] h) fun v84 h85 =>
ifS a6 (
bindS (bldSl h85 [(0, a7), (1, v84)] 3 2 1 (.int .i64 (.ofNat 0))) fun v86 h87 =>
bindS (bldStruct h87 [(0, (.int .u8 (.ofNat 37))), (4, v86), (5, a5)] (.agg [(.int .u8 (.ofNat 0)), (.int .i64 (.ofNat 0)), (.str (us [])), .nilSlice, .nilSlice, (.int .i64 (.ofNat 0))]) (some [(0, 1), (1, 1), (2, 1), (3, 1), (4, 1), (5, 1)])) fun v88 h89 =>
bindS (ih 34 [a0, v88] h89) fun v90 h91 =>
some (v90, h91)) (
bindS (bldSl h85 [(0, v84)] 3 1 1 (.int .i64 (.ofNat 0))) fun v92 h93 =>
bindS (bldStruct h93 [(0, (.int .u8 (.ofNat 36))), (4, v92), (5, a5)] (.agg [(.int .u8 (.ofNat 0)), (.int .i64 (.ofNat 0)), (.str (us [])), .nilSlice, .nilSlice, (.int .i64 (.ofNat 0))]) (some [(0, 1), (1, 1), (2, 1), (3, 1), (4, 1), (5, 1)])) fun v94 h95 =>
bindS (ih 34 [a0, v94] h95) fun v96 h97 =>
some (v96, h97))
noncomputable def G283 : Sh := fun ih vs h => consE (fun a0 => consE (fun a1 => consE (fun a5 => consE (fun a6 => consE (fun a7 => nilE (B283 ih a0 a1 a5 a6 a7 h)))))) vs
noncomputable def B296 (ih : Nat → List V → Hp → VH) (a0 : V) (h : Hp) : VH :=
intS .eql a0 (.int .u64 (.ofNat 0)) fun v0 =>
ifS v0 (
some ((.int .i64 (.ofNat 64)), h)) (
negS a0 fun v1 =>
intS .and a0 v1 fun v2 =>
intS .mul v2 (.int .u64 (.ofNat 285870213051353865)) fun v3 =>
shS .shr v3 (.int .u64 (.ofNat 58)) fun v4 =>
idxP 1 64 (.ptr 5 0) v4 fun v5 =>
load1 v5 h fun v6 =>
convI .i64 v6 fun v7 =>
some (v7, h))
noncomputable def G296 : Sh := fun ih vs h => consE (fun a0 => nilE (B296 ih a0 h)) vs
noncomputable def B294 (ih : Nat → List V → Hp → VH) (a0 : V) (h : Hp) : VH :=
intS .eql a0 (.int .u32 (.ofNat 0)) fun v0 =>
ifS v0 (
some ((.int .i64 (.ofNat 32)), h)) (
negS a0 fun v1 =>
intS .and a0 v1 fun v2 =>
intS .mul v2 (.int .u32 (.ofNat 125613361)) fun v3 =>
shS .shr v3 (.int .u64 (.ofNat 27)) fun v4 =>
idxP 1 32 (.ptr 4 0) v4 fun v5 =>
load1 v5 h fun v6 =>
convI .i64 v6 fun v7 =>
some (v7, h))
noncomputable def G294 : Sh := fun ih vs h => consE (fun a0 => nilE (B294 ih a0 h)) vs
noncomputable def B292 (ih : Nat → List V → Hp → VH) (a0 a1 : V) (h : Hp) : VH :=
lenStr a1 fun v0 =>
intS .eql v0 (.int .i64 (.ofNat 0)) fun v1 =>
guardS v1 false (some (a1, h)) h fun v2 h3 =>
guardS v1 false (some (a0, h3)) h3 fun v4 h5 =>
guardS v1 false (strS .eql v2 v4 fun v6 =>
some (v6, h5)) h5 fun v7 h8 =>
optS (pickV v1 (.bool true) v7) fun v9 =>
ifS v9 (
some ((.int .i64 (.ofNat 0)), h8)) (
intS .eql v0 (.int .i64 (.ofNat 1)) fun v10 =>
ifS v10 (
idxStr a1 (.int .i64 (.ofNat 0)) fun v11 =>
bindS (ih 298 [a0, v11] h8) fun v12 h13 =>
some (v12, h13)) (
lenStr a0 fun v14 =>
intS .geq v0 v14 fun v15 =>
ifS v15 (
some ((.int .i64 (.negSucc 0)), h8)) (
load1 (.ptr 2 0) h8 fun v16 =>
intS .leq v0 v16 fun v17 =>
guardS v17 true (some (a0, h8)) h8 fun v18 h19 =>
guardS v17 true (lenStr v18 fun v20 =>
some (v20, h19)) h19 fun v21 h22 =>
guardS v17 true (intS .leq v21 (.int .i64 (.ofNat 64)) fun v23 =>
some (v23, h22)) h22 fun v24 h25 =>
optS (pickV v17 v24 (.bool false)) fun v26 =>
ifS v26 (
bindS (ih 300 [a0, a1] h25) fun v27 h28 =>
some (v27, h28)) (
idxStr a1 (.int .i64 (.ofNat 0)) fun v29 =>
idxStr a1 (.int .i64 (.ofNat 1)) fun v30 =>
lenStr a0 fun v31 =>
intS .sub v31 v0 fun v32 =>
intS .add v32 (.int .i64 (.ofNat 1)) fun v33 =>
ih 285 [a0, a1, v0, v29, v30, (.int .i64 (.ofNat 0)), v33, (.int .i64 (.ofNat 0))] h25))))
noncomputable def G292 : Sh := fun ih vs h => consE (fun a0 => consE (fun a1 => nilE (B292 ih a0 a1 h))) vs
noncomputable def B285 (ih : Nat → List V → Hp → VH) (a0 a1 a5 a6 a7 a8 a9 a10 : V) (h : Hp) : VH :=
intS .lss a8 a9 fun v34 =>
ifS v34 (
idxStr a0 a8 fun v35 =>
intS .neq v35 a6 fun v36 =>
ifS v36 (
intS .add a8 (.int .i64 (.ofNat 1)) fun v37 =>
slStrK (some v37) (some a9) a0 fun v38 =>
bindS (ih 298 [v38, a6] h) fun v39 h40 =>
intS .lss v39 (.int .i64 (.ofNat 0)) fun v41 =>
ifS v41 (
some ((.int .i64 (.negSucc 0)), h40)) (
intS .add v39 (.int .i64 (.ofNat 1)) fun v42 =>
intS .add a8 v42 fun v43 =>
ih 287 [a0, a1, a5, a6, a7, v43, a9, a10] h40)) (
ih 287 [a0, a1, a5, a6, a7, a8, a9, a10] h)) (
some ((.int .i64 (.negSucc 0)), h))
noncomputable def G285 : Sh := fun ih vs h => consE (fun a0 => consE (fun a1 => consE (fun a5 => consE (fun a6 => consE (fun a7 => consE (fun a8 => consE (fun a9 => consE (fun a10 => nilE (B285 ih a0 a1 a5 a6 a7 a8 a9 a10 h))))))))) vs
noncomputable def B287 (ih : Nat → List V → Hp → VH) (a0 a1 a5 a6 a7 a8 a9 a10 : V) (h : Hp) : VH :=
intS .add a8 (.int .i64 (.ofNat 1)) fun v44 =>
idxStr a0 v44 fun v45 =>
intS .eql v45 a7 fun v46 =>
guardS v46 true (some (a0, h)) h fun v47 h48 =>
guardS v46 true (some (a8, h48)) h48 fun v49 h50 =>
guardS v46 true (some (a8, h50)) h50 fun v51 h52 =>
guardS v46 true (some (a5, h52)) h52 fun v53 h54 =>
guardS v46 true (intS .add v51 v53 fun v55 =>
some (v55, h54)) h54 fun v56 h57 =>
guardS v46 true (slStrK (some v49) (some v56) v47 fun v58 =>
some (v58, h57)) h57 fun v59 h60 =>
guardS v46 true (some (a1, h60)) h60 fun v61 h62 =>
guardS v46 true (strS .eql v59 v61 fun v63 =>
some (v63, h62)) h62 fun v64 h65 =>
optS (pickV v46 v64 (.bool false)) fun v66 =>
ifS v66 (
some (a8, h65)) (
intS .add a8 (.int .i64 (.ofNat 1)) fun v67 =>
intS .add a10 (.int .i64 (.ofNat 1)) fun v68 =>
load1 (.ptr 2 0) h65 fun v69 =>
intS .leq a5 v69 fun v70 =>
guardS v70 true (some (v68, h65)) h65 fun v71 h72 =>
guardS v70 true (some (v67, h72)) h72 fun v73 h74 =>
guardS v70 true (bindS (ih 302 [v73] h74) fun v75 h76 =>
some (v75, h76)) h74 fun v77 h78 =>
guardS v70 true (intS .gtr v71 v77 fun v79 =>
some (v79, h78)) h78 fun v80 h81 =>
optS (pickV v70 v80 (.bool false)) fun v82 =>
ifS v82 (
slStrK (some v67) none a0 fun v83 =>
bindS (ih 300 [v83, a1] h81) fun v84 h85 =>
intS .geq v84 (.int .i64 (.ofNat 0)) fun v86 =>
ifS v86 (
intS .add v84 v67 fun v87 =>
some (v87, h85)) (
some ((.int .i64 (.negSucc 0)), h85))) (
load1 (.ptr 2 0) h81 fun v88 =>
intS .gtr a5 v88 fun v89 =>
guardS v89 true (some (v68, h81)) h81 fun v90 h91 =>
guardS v89 true (some (v67, h91)) h91 fun v92 h93 =>
guardS v89 true (shS .shr v92 (.int .u64 (.ofNat 4)) fun v94 =>
some (v94, h93)) h93 fun v95 h96 =>
guardS v89 true (intS .add (.int .i64 (.ofNat 4)) v95 fun v97 =>
some (v97, h96)) h96 fun v98 h99 =>
guardS v89 true (intS .geq v90 v98 fun v100 =>
some (v100, h99)) h99 fun v101 h102 =>
optS (pickV v89 v101 (.bool false)) fun v103 =>
guardS v103 true (some (v67, h102)) h102 fun v104 h105 =>
guardS v103 true (some (a9, h105)) h105 fun v106 h107 =>
guardS v103 true (intS .lss v104 v106 fun v108 =>
some (v108, h107)) h107 fun v109 h110 =>
optS (pickV v103 v109 (.bool false)) fun v111 =>
ifS v111 (
slStrK (some v67) none a0 fun v112 =>
bindS (ih 304 [v112, a1] h110) fun v113 h114 =>
intS .lss v113 (.int .i64 (.ofNat 0)) fun v115 =>
ifS v115 (
some ((.int .i64 (.negSucc 0)), h114)) (
intS .add v67 v113 fun v116 =>
some (v116, h114))) (
ih 285 [a0, a1, a5, a6, a7, v67, a9, v68] h110)))
noncomputable def G287 : Sh := fun ih vs h => consE (fun a0 => consE (fun a1 => consE (fun a5 => consE (fun a6 => consE (fun a7 => consE (fun a8 => consE (fun a9 => consE (fun a10 => nilE (B287 ih a0 a1 a5 a6 a7 a8 a9 a10 h))))))))) vs
noncomputable def B304 (ih : Nat → List V → Hp → VH) (a0 a1 : V) (h : Hp) : VH :=
bindS (ih 308 [a1] h) fun v0 h1 =>
extS 0 v0 fun v2 =>
extS 1 v0 fun v3 =>
lenStr a1 fun v4 =>
ih 289 [a0, a1, v2, v3, v4, (.int .u32 (.ofNat 0)), (.int .i64 (.ofNat 0))] h1
noncomputable def G304 : Sh := fun ih vs h => consE (fun a0 => consE (fun a1 => nilE (B304 ih a0 a1 h))) vs
noncomputable def B289 (ih : Nat → List V → Hp → VH) (a0 a1 a5 a6 a7 a8 a9 : V) (h : Hp) : VH :=
intS .lss a9 a7 fun v5 =>
ifS v5 (
intS .mul a8 (.int .u32 (.ofNat 16777619)) fun v6 =>
idxStr a0 a9 fun v7 =>
convI .u32 v7 fun v8 =>
intS .add v6 v8 fun v9 =>
intS .add a9 (.int .i64 (.ofNat 1)) fun v10 =>
ih 289 [a0, a1, a5, a6, a7, v9, v10] h) (
intS .eql a8 a5 fun v11 =>
guardS v11 true (some (a0, h)) h fun v12 h13 =>
guardS v11 true (some (a7, h13)) h13 fun v14 h15 =>
guardS v11 true (slStrK none (some v14) v12 fun v16 =>
some (v16, h15)) h15 fun v17 h18 =>
guardS v11 true (some (a1, h18)) h18 fun v19 h20 =>
guardS v11 true (strS .eql v17 v19 fun v21 =>
some (v21, h20)) h20 fun v22 h23 =>
optS (pickV v11 v22 (.bool false)) fun v24 =>
ifS v24 (
some ((.int .i64 (.ofNat 0)), h23)) (
ih 291 [a0, a1, a5, a6, a7, a8, a7] h23))
noncomputable def G289 : Sh := fun ih vs h => consE (fun a0 => consE (fun a1 => consE (fun a5 => consE (fun a6 => consE (fun a7 => consE (fun a8 => consE (fun a9 => nilE (B289 ih a0 a1 a5 a6 a7 a8 a9 h)))))))) vs
noncomputable def B291 (ih : Nat → List V → Hp → VH) (a0 a1 a5 a6 a7 a8 a10 : V) (h : Hp) : VH :=
lenStr a0 fun v25 =>
intS .lss a10 v25 fun v26 =>
ifS v26 (
intS .mul a8 (.int .u32 (.ofNat 16777619)) fun v27 =>
idxStr a0 a10 fun v28 =>
convI .u32 v28 fun v29 =>
intS .add v27 v29 fun v30 =>
intS .sub a10 a7 fun v31 =>
idxStr a0 v31 fun v32 =>
convI .u32 v32 fun v33 =>
intS .mul a6 v33 fun v34 =>
intS .sub v30 v34 fun v35 =>
intS .add a10 (.int .i64 (.ofNat 1)) fun v36 =>
intS .eql v35 a5 fun v37 =>
guardS v37 true (some (a0, h)) h fun v38 h39 =>
guardS v37 true (some (v36, h39)) h39 fun v40 h41 =>
guardS v37 true (some (a7, h41)) h41 fun v42 h43 =>
guardS v37 true (intS .sub v40 v42 fun v44 =>
some (v44, h43)) h43 fun v45 h46 =>
guardS v37 true (some (v36, h46)) h46 fun v47 h48 =>
guardS v37 true (slStrK (some v45) (some v47) v38 fun v49 =>
some (v49, h48)) h48 fun v50 h51 =>
guardS v37 true (some (a1, h51)) h51 fun v52 h53 =>
guardS v37 true (strS .eql v50 v52 fun v54 =>
some (v54, h53)) h53 fun v55 h56 =>
optS (pickV v37 v55 (.bool false)) fun v57 =>
ifS v57 (
intS .sub v36 a7 fun v58 =>
some (v58, h56)) (
ih 291 [a0, a1, a5, a6, a7, v35, v36] h56)) (
some ((.int .i64 (.negSucc 0)), h))
noncomputable def G291 : Sh := fun ih vs h => consE (fun a0 => consE (fun a1 => consE (fun a5 => consE (fun a6 => consE (fun a7 => consE (fun a8 => consE (fun a10 => nilE (B291 ih a0 a1 a5 a6 a7 a8 a10 h)))))))) vs
noncomputable def B302 (ih : Nat → List V → Hp → VH) (a0 : V) (h : Hp) : VH :=
intS .add a0 (.int .i64 (.ofNat 16)) fun v0 =>
intS .quo v0 (.int .i64 (.ofNat 8)) fun v1 =>
some (v1, h)
noncomputable def G302 : Sh := fun ih vs h => consE (fun a0 => nilE (B302 ih a0 h)) vs
noncomputable def B298 (ih : Nat → List V → Hp → VH) (a0 a1 : V) (h : Hp) : VH :=
bindS (ih 306 [a0, a1] h) fun v0 h1 =>
some (v0, h1)
noncomputable def G298 : Sh := fun ih vs h => consE (fun a0 => consE (fun a1 => nilE (B298 ih a0 a1 h))) vs
noncomputable def B308 (ih : Nat → List V → Hp → VH) (a0 : V) (h : Hp) : VH :=
ih 293 [a0, (.int .u32 (.ofNat 0)), (.int .i64 (.ofNat 0))] h
noncomputable def G308 : Sh := fun ih vs h => consE (fun a0 => nilE (B308 ih a0 h)) vs
noncomputable def B293 (ih : Nat → List V → Hp → VH) (a0 a4 a5 : V) (h : Hp) : VH :=
lenStr a0 fun v0 =>
intS .lss a5 v0 fun v1 =>
ifS v1 (
intS .mul a4 (.int .u32 (.ofNat 16777619)) fun v2 =>
idxStr a0 a5 fun v3 =>
convI .u32 v3 fun v4 =>
intS .add v2 v4 fun v5 =>
intS .add a5 (.int .i64 (.ofNat 1)) fun v6 =>
ih 293 [a0, v5, v6] h) (
lenStr a0 fun v7 =>
ih 295 [a4, (.int .u32 (.ofNat 1)), (.int .u32 (.ofNat 16777619)), v7] h)
noncomputable def G293 : Sh := fun ih vs h => consE (fun a0 => consE (fun a4 => consE (fun a5 => nilE (B293 ih a0 a4 a5 h)))) vs
noncomputable def B295 (ih : Nat → List V → Hp → VH) (a4 a6 a7 a8 : V) (h : Hp) : VH :=
intS .gtr a8 (.int .i64 (.ofNat 0)) fun v8 =>
ifS v8 (
intS .and a8 (.int .i64 (.ofNat 1)) fun v9 =>
intS .neq v9 (.int .i64 (.ofNat 0)) fun v10 =>
ifS v10 (
intS .mul a6 a7 fun v11 =>
ih 297 [a4, v11, a7, a8] h) (
ih 297 [a4, a6, a7, a8] h)) (
some (.tuple [a4, a6], h))
noncomputable def G295 : Sh := fun ih vs h => consE (fun a4 => consE (fun a6 => consE (fun a7 => consE (fun a8 => nilE (B295 ih a4 a6 a7 a8 h))))) vs
noncomputable def B297 (ih : Nat → List V → Hp → VH) (a4 a6 a7 a8 : V) (h : Hp) : VH :=
intS .mul a7 a7 fun v12 =>
shS .shr a8 (.int .u64 (.ofNat 1)) fun v13 =>
ih 295 [a4, a6, v12, v13] h
noncomputable def G297 : Sh := fun ih vs h => consE (fun a4 => consE (fun a6 => consE (fun a7 => consE (fun a8 => nilE (B297 ih a4 a6 a7 a8 h))))) vs
noncomputable def labs : Tr Lab := (((((((((((((((((((((((((((((((((((((((((((((((((((((((((((((((((((((((((((((((((((((((((((((((((((((((((((((((((((((((((((((((((((((((((((((((((((((Tr.nil.set 0 (6, 58, [1, 10, 11])).set 1 (11, 31, [0, 1, 5])).set 2 (11, 245, [0, 1, 5])).set 3 (11, 250, [0, 1, 5, 39, 40, 41])).set 4 (11, 4090, [1, 8, 63, 64, 65])).set 5 (11, 32051, [0, 1, 5, 7, 39, 40, 41])).set 6 (10, 234, [0, 25, 26, 27])).set 7 (10, 955, [0, 5])).set 8 (9, 2042, [1, 4, 5, 6])).set 9 (9, 1045690, [1, 4, 5, 6, 7, 8, 89, 90, 91])).set 10 (8, 127, [2, 3, 6, 7])).set 11 (26, 7, [0, 1])).set 12 (22, 31, [0])).set 13 (22, 4030463, [0, 3, 4, 5, 12, 111])).set 14 (22, 64487415, [0, 4, 5])).set 15 (25, 16252927, [0, 3, 4, 8, 78])).set 16 (25, 130023419, [0, 4])).set 17 (23, 6, [0, 6, 7, 8])).set 18 (23, 103, [0, 6, 7, 8])).set 19 (19, 7, [2])).set 20 (19, 53, [1, 2, 8, 9])).set 21 (19, 215, [2, 19])).set 22 (14, 31, [0, 5])).set 23 (14, 60, [0, 1, 5])).set 24 (13, 126, [0, 3, 4, 5, 6])).set 25 (13, 4036, [0, 3, 4, 5, 6, 7])).set 26 (13, 64639, [0, 3, 4, 5, 6, 7])).set 27 (49, 6, [0, 2, 8, 9, 10])).set 28 (49, 819, [0, 2, 7, 8, 9, 10])).set 29 (51, 31, [0, 3, 4])).set 30 (51, 63, [0, 3])).set 31 (50, 12, [0, 1, 4])).set 32 (50, 15, [0])).set 33 (54, 122, [0, 3, 9, 10])).set 34 (54, 1959, [0, 3, 9, 10])).set 35 (52, 250, [0, 3, 4, 5, 6])).set 36 (52, 8188, [0, 9, 10, 12])).set 37 (52, 32764, [0, 9, 10, 11, 12])).set 38 (52, 32767, [9])).set 39 (52, 16775356, [0, 9, 10, 12])).set 40 (45, 117, [2, 3, 5, 10, 11])).set 41 (45, 30932991, [2, 3, 5, 10, 164])).set 42 (40, 26, [3, 4, 5, 6, 11])).set 43 (47, 26, [0, 1, 7, 8])).set 44 (38, 15, [0, 5])).set 45 (38, 950263, [0, 5])).set 46 (38, 3801055, [6])).set 47 (37, 15, [2, 3])).set 48 (30, 58, [0, 3, 4])).set 49 (30, 467, [0, 3, 4])).set 50 (32, 28, [0, 1, 4, 7])).set 51 (32, 491, [4, 7, 8])).set 52 (31, 252, [0, 1, 9])).set 53 (89, 63, [0, 5])).set 54 (89, 122, [0, 1, 5, 6, 14])).set 55 (89, 1018, [0, 9, 47, 48, 49])).set 56 (90, 421, [7])).set 57 (83, 58, [0, 21, 22])).set 58 (82, 58, [2, 3, 5, 6])).set 59 (75, 28, [0, 1, 5])).set 60 (74, 7, [0, 1, 2])).set 61 (73, 15, [0, 1, 5])).set 62 (73, 28, [0, 1, 5])).set 63 (73, 31, [0, 5])).set 64 (71, 511, [0, 1, 2, 7, 8])).set 65 (71, 1018, [0, 1, 2, 7, 8, 9, 10, 11])).set 66 (71, 1023, [8])).set 67 (71, 2044, [0, 1, 2, 7, 8])).set 68 (71, 8147, [0, 1, 2, 7, 8, 9, 10, 11])).set 69 (71, 523359, [0, 1, 2, 7, 8, 13, 14, 16])).set 70 (70, 26, [0, 1, 5])).set 71 (69, 122, [0, 1, 4, 7, 8, 9])).set 72 (69, 979, [0, 1, 4, 7, 8, 9])).set 73 (68, 124, [0, 4, 5])).set 74 (67, 28, [0, 1, 5])).set 75 (67, 14527, [0, 1, 5, 6])).set 76 (67, 29055, [0, 1, 5, 6])).set 77 (67, 232436, [0, 1, 5, 6])).set 78 (60, 124, [0, 1, 7, 8])).set 79 (60, 8186, [0, 1, 7, 8, 9, 10])).set 80 (60, 523927, [0, 1, 7, 8, 9, 11])).set 81 (66, 250, [0, 4, 5, 6, 7])).set 82 (65, 63, [1, 6])).set 83 (65, 124, [0, 1, 5, 6])).set 84 (64, 58, [0, 3, 4])).set 85 (57, 26, [0, 1, 5])).set 86 (108, 1020, [0, 1, 2, 7])).set 87 (108, 8161, [0, 1, 2])).set 88 (108, 130591, [0, 1, 2])).set 89 (106, 31, [0, 1, 2, 7, 8])).set 90 (106, 60, [0, 1, 2, 6, 7, 8])).set 91 (106, 965, [0, 1, 2, 6, 7, 8])).set 92 (103, 15, [0])).set 93 (104, 12, [0, 1])).set 94 (104, 395, [0, 1])).set 95 (102, 122, [0, 5, 6, 7])).set 96 (101, 250, [0, 1, 5, 6, 7, 8])).set 97 (98, 65492, [0, 1, 12])).set 98 (97, 12, [0])).set 99 (97, 28, [0])).set 100 (97, 63, [0, 4])).set 101 (97, 2042, [0, 4, 5, 6])).set 102 (97, 2047, [5])).set 103 (133, 431, [0, 5, 6])).set 104 (137, 7, [0, 1, 2, 3, 4, 10, 11])).set 105 (137, 63, [0, 1, 2, 3, 4, 10, 11, 12, 13])).set 106 (137, 127, [0, 3, 4, 10, 11, 12, 13])).set 107 (137, 255, [0, 4, 10, 11, 12, 13])).set 108 (137, 4060, [0, 1, 3, 4, 10, 11, 12, 13, 17])).set 109 (137, 16220, [0, 1, 3, 4, 10, 11, 12, 13, 14, 15, 16])).set 110 (136, 12, [0, 1, 4])).set 111 (136, 31, [0, 4, 12])).set 112 (136, 63, [0, 4, 12])).set 113 (132, 124, [0, 1, 7, 8])).set 114 (132, 210, [0, 1, 15, 16])).set 115 (131, 124, [0, 1, 7, 8])).set 116 (131, 210, [0, 1, 19, 20])).set 117 (128, 26, [0, 1, 7, 8])).set 118 (125, 31, [0, 1, 5, 6])).set 119 (125, 124, [0, 1, 5, 6])).set 120 (125, 3979, [0, 1, 5, 8])).set 121 (124, 31, [0, 1, 9])).set 122 (124, 244, [0, 1, 9])).set 123 (124, 3907, [0, 1, 9])).set 124 (126, 15, [0])).set 125 (123, 31, [0, 5])).set 126 (123, 60, [0, 1, 5])).set 127 (121, 31, [10, 11])).set 128 (121, 60, [0, 1, 2, 3, 10, 11])).set 129 (122, 250, [0, 4, 5])).set 130 (122, 1018, [0, 4, 6, 7])).set 131 (122, 4090, [0, 4, 6, 8, 9])).set 132 (122, 16378, [6, 10, 11])).set 133 (120, 122, [0, 3, 4, 5])).set 134 (118, 26, [0, 4])).set 135 (117, 31, [0, 6])).set 136 (117, 58, [0, 1, 6, 7])).set 137 (142, 7, [0, 2])).set 138 (142, 15, [0, 2])).set 139 (142, 31, [0, 2])).set 140 (139, 63, [0, 5])).set 141 (138, 63, [0, 1, 5, 6, 7])).set 142 (146, 2044, [0, 1, 5, 6, 7, 8, 9, 10])).set 143 (146, 32709, [0, 1, 5, 6, 7, 8, 9, 10])).set 144 (152, 250, [0, 1, 5, 6, 7, 8, 9])).set 145 (152, 1018, [0, 1, 5, 6, 7, 8, 10])).set 146 (154, 58, [0, 4, 5])).set 147 (154, 250, [4, 6, 7, 8])).set 148 (154, 8009, [4, 6, 7, 8]))
noncomputable def cuts3 : Cuts := []
theorem fit3 : cutsFit labs 3 cuts3 = true := by kernel_rfl
noncomputable def cuts7 : Cuts := []
theorem fit7 : cutsFit labs 7 cuts7 = true := by kernel_rfl
noncomputable def cuts6 : Cuts := [(58, 0, [1, 10, 11])]
theorem fit6 : cutsFit labs 6 cuts6 = true := by kernel_rfl
noncomputable def cuts5 : Cuts := []
theorem fit5 : cutsFit labs 5 cuts5 = true := by kernel_rfl
noncomputable def cuts4 : Cuts := []
theorem fit4 : cutsFit labs 4 cuts4 = true := by kernel_rfl
noncomputable def cuts12 : Cuts := []
theorem fit12 : cutsFit labs 12 cuts12 = true := by kernel_rfl
noncomputable def cuts11 : Cuts := [(31, 1, [0, 1, 5]), (245, 2, [0, 1, 5]), (250, 3, [0, 1, 5, 39, 40, 41]), (4090, 4, [1, 8, 63, 64, 65]), (32051, 5, [0, 1, 5, 7, 39, 40, 41])]
theorem fit11 : cutsFit labs 11 cuts11 = true := by kernel_rfl
noncomputable def cuts10 : Cuts := [(234, 6, [0, 25, 26, 27]), (955, 7, [0, 5])]
theorem fit10 : cutsFit labs 10 cuts10 = true := by kernel_rfl
noncomputable def cuts9 : Cuts := [(2042, 8, [1, 4, 5, 6]), (1045690, 9, [1, 4, 5, 6, 7, 8, 89, 90, 91])]
theorem fit9 : cutsFit labs 9 cuts9 = true := by kernel_rfl
noncomputable def cuts8 : Cuts := [(127, 10, [2, 3, 6, 7])]
theorem fit8 : cutsFit labs 8 cuts8 = true := by kernel_rfl
noncomputable def cuts28 : Cuts := []
theorem fit28 : cutsFit labs 28 cuts28 = true := by kernel_rfl
noncomputable def cuts27 : Cuts := []
theorem fit27 : cutsFit labs 27 cuts27 = true := by kernel_rfl
noncomputable def cuts26 : Cuts := [(7, 11, [0, 1])]
theorem fit26 : cutsFit labs 26 cuts26 = true := by kernel_rfl
noncomputable def cuts22 : Cuts := [(31, 12, [0]), (4030463, 13, [0, 3, 4, 5, 12, 111]), (64487415, 14, [0, 4, 5])]
theorem fit22 : cutsFit labs 22 cuts22 = true := by kernel_rfl
noncomputable def cuts25 : Cuts := [(16252927, 15, [0, 3, 4, 8, 78]), (130023419, 16, [0, 4])]
theorem fit25 : cutsFit labs 25 cuts25 = true := by kernel_rfl
noncomputable def cuts23 : Cuts := [(6, 17, [0, 6, 7, 8]), (103, 18, [0, 6, 7, 8])]
theorem fit23 : cutsFit labs 23 cuts23 = true := by kernel_rfl
noncomputable def cuts24 : Cuts := []
theorem fit24 : cutsFit labs 24 cuts24 = true := by kernel_rfl
noncomputable def cuts20 : Cuts := []
theorem fit20 : cutsFit labs 20 cuts20 = true := by kernel_rfl
noncomputable def cuts19 : Cuts := [(7, 19, [2]), (53, 20, [1, 2, 8, 9]), (215, 21, [2, 19])]
theorem fit19 : cutsFit labs 19 cuts19 = true := by kernel_rfl
noncomputable def cuts21 : Cuts := []
theorem fit21 : cutsFit labs 21 cuts21 = true := by kernel_rfl
noncomputable def cuts18 : Cuts := []
theorem fit18 : cutsFit labs 18 cuts18 = true := by kernel_rfl
noncomputable def cuts17 : Cuts := []
theorem fit17 : cutsFit labs 17 cuts17 = true := by kernel_rfl
noncomputable def cuts16 : Cuts := []
theorem fit16 : cutsFit labs 16 cuts16 = true := by kernel_rfl
noncomputable def cuts15 : Cuts := []
theorem fit15 : cutsFit labs 15 cuts15 = true := by kernel_rfl
noncomputable def cuts14 : Cuts := [(31, 22, [0, 5]), (60, 23, [0, 1, 5])]
theorem fit14 : cutsFit labs 14 cuts14 = true := by kernel_rfl
noncomputable def cuts13 : Cuts := [(126, 24, [0, 3, 4, 5, 6]), (4036, 25, [0, 3, 4, 5, 6, 7]), (64639, 26, [0, 3, 4, 5, 6, 7])]
theorem fit13 : cutsFit labs 13 cuts13 = true := by kernel_rfl
noncomputable def cuts55 : Cuts := []
theorem fit55 : cutsFit labs 55 cuts55 = true := by kernel_rfl
noncomputable def cuts56 : Cuts := []
theorem fit56 : cutsFit labs 56 cuts56 = true := by kernel_rfl
noncomputable def cuts49 : Cuts := [(6, 27, [0, 2, 8, 9, 10]), (819, 28, [0, 2, 7, 8, 9, 10])]
theorem fit49 : cutsFit labs 49 cuts49 = true := by kernel_rfl
noncomputable def cuts51 : Cuts := [(31, 29, [0, 3, 4]), (63, 30, [0, 3])]
theorem fit51 : cutsFit labs 51 cuts51 = true := by kernel_rfl
noncomputable def cuts48 : Cuts := []
theorem fit48 : cutsFit labs 48 cuts48 = true := by kernel_rfl
noncomputable def cuts50 : Cuts := [(12, 31, [0, 1, 4]), (15, 32, [0])]
theorem fit50 : cutsFit labs 50 cuts50 = true := by kernel_rfl
noncomputable def cuts54 : Cuts := [(122, 33, [0, 3, 9, 10]), (1959, 34, [0, 3, 9, 10])]
theorem fit54 : cutsFit labs 54 cuts54 = true := by kernel_rfl
noncomputable def cuts53 : Cuts := []
theorem fit53 : cutsFit labs 53 cuts53 = true := by kernel_rfl
noncomputable def cuts52 : Cuts := [(250, 35, [0, 3, 4, 5, 6]), (8188, 36, [0, 9, 10, 12]), (32764, 37, [0, 9, 10, 11, 12]), (32767, 38, [9]), (16775356, 39, [0, 9, 10, 12])]
theorem fit52 : cutsFit labs 52 cuts52 = true := by kernel_rfl
noncomputable def cuts46 : Cuts := []
theorem fit46 : cutsFit labs 46 cuts46 = true := by kernel_rfl
noncomputable def cuts45 : Cuts := [(117, 40, [2, 3, 5, 10, 11]), (30932991, 41, [2, 3, 5, 10, 164])]
theorem fit45 : cutsFit labs 45 cuts45 = true := by kernel_rfl
noncomputable def cuts44 : Cuts := []
theorem fit44 : cutsFit labs 44 cuts44 = true := by kernel_rfl
noncomputable def cuts43 : Cuts := []
theorem fit43 : cutsFit labs 43 cuts43 = true := by kernel_rfl
noncomputable def cuts41 : Cuts := []
theorem fit41 : cutsFit labs 41 cuts41 = true := by kernel_rfl
noncomputable def cuts40 : Cuts := [(26, 42, [3, 4, 5, 6, 11])]
theorem fit40 : cutsFit labs 40 cuts40 = true := by kernel_rfl
noncomputable def cuts39 : Cuts := []
theorem fit39 : cutsFit labs 39 cuts39 = true := by kernel_rfl
noncomputable def cuts42 : Cuts := []
theorem fit42 : cutsFit labs 42 cuts42 = true := by kernel_rfl
noncomputable def cuts47 : Cuts := [(26, 43, [0, 1, 7, 8])]
theorem fit47 : cutsFit labs 47 cuts47 = true := by kernel_rfl
noncomputable def cuts33 : Cuts := []
theorem fit33 : cutsFit labs 33 cuts33 = true := by kernel_rfl
noncomputable def cuts38 : Cuts := [(15, 44, [0, 5]), (950263, 45, [0, 5]), (3801055, 46, [6])]
theorem fit38 : cutsFit labs 38 cuts38 = true := by kernel_rfl
noncomputable def cuts36 : Cuts := []
theorem fit36 : cutsFit labs 36 cuts36 = true := by kernel_rfl
noncomputable def cuts37 : Cuts := [(15, 47, [2, 3])]
theorem fit37 : cutsFit labs 37 cuts37 = true := by kernel_rfl
noncomputable def cuts35 : Cuts := []
theorem fit35 : cutsFit labs 35 cuts35 = true := by kernel_rfl
noncomputable def cuts34 : Cuts := []
theorem fit34 : cutsFit labs 34 cuts34 = true := by kernel_rfl
noncomputable def cuts30 : Cuts := [(58, 48, [0, 3, 4]), (467, 49, [0, 3, 4])]
theorem fit30 : cutsFit labs 30 cuts30 = true := by kernel_rfl
noncomputable def cuts32 : Cuts := [(28, 50, [0, 1, 4, 7]), (491, 51, [4, 7, 8])]
theorem fit32 : cutsFit labs 32 cuts32 = true := by kernel_rfl
noncomputable def cuts31 : Cuts := [(252, 52, [0, 1, 9])]
theorem fit31 : cutsFit labs 31 cuts31 = true := by kernel_rfl
noncomputable def cuts29 : Cuts := []
theorem fit29 : cutsFit labs 29 cuts29 = true := by kernel_rfl
noncomputable def cuts93 : Cuts := []
theorem fit93 : cutsFit labs 93 cuts93 = true := by kernel_rfl
noncomputable def cuts91 : Cuts := []
theorem fit91 : cutsFit labs 91 cuts91 = true := by kernel_rfl
noncomputable def cuts92 : Cuts := []
theorem fit92 : cutsFit labs 92 cuts92 = true := by kernel_rfl
noncomputable def cuts89 : Cuts := [(63, 53, [0, 5]), (122, 54, [0, 1, 5, 6, 14]), (1018, 55, [0, 9, 47, 48, 49])]
theorem fit89 : cutsFit labs 89 cuts89 = true := by kernel_rfl
noncomputable def cuts90 : Cuts := [(421, 56, [7])]
theorem fit90 : cutsFit labs 90 cuts90 = true := by kernel_rfl
noncomputable def cuts88 : Cuts := []
theorem fit88 : cutsFit labs 88 cuts88 = true := by kernel_rfl
noncomputable def cuts87 : Cuts := []
theorem fit87 : cutsFit labs 87 cuts87 = true := by kernel_rfl
noncomputable def cuts84 : Cuts := []
theorem fit84 : cutsFit labs 84 cuts84 = true := by kernel_rfl
noncomputable def cuts79 : Cuts := []
theorem fit79 : cutsFit labs 79 cuts79 = true := by kernel_rfl
noncomputable def cuts85 : Cuts := []
theorem fit85 : cutsFit labs 85 cuts85 = true := by kernel_rfl
noncomputable def cuts77 : Cuts := []
theorem fit77 : cutsFit labs 77 cuts77 = true := by kernel_rfl
noncomputable def cuts83 : Cuts := [(58, 57, [0, 21, 22])]
theorem fit83 : cutsFit labs 83 cuts83 = true := by kernel_rfl
noncomputable def cuts81 : Cuts := []
theorem fit81 : cutsFit labs 81 cuts81 = true := by kernel_rfl
noncomputable def cuts78 : Cuts := []
theorem fit78 : cutsFit labs 78 cuts78 = true := by kernel_rfl
noncomputable def cuts86 : Cuts := []
theorem fit86 : cutsFit labs 86 cuts86 = true := by kernel_rfl
noncomputable def cuts82 : Cuts := [(58, 58, [2, 3, 5, 6])]
theorem fit82 : cutsFit labs 82 cuts82 = true := by kernel_rfl
noncomputable def cuts80 : Cuts := []
theorem fit80 : cutsFit labs 80 cuts80 = true := by kernel_rfl
noncomputable def cuts76 : Cuts := []
theorem fit76 : cutsFit labs 76 cuts76 = true := by kernel_rfl
noncomputable def cuts75 : Cuts := [(28, 59, [0, 1, 5])]
theorem fit75 : cutsFit labs 75 cuts75 = true := by kernel_rfl
noncomputable def cuts74 : Cuts := [(7, 60, [0, 1, 2])]
theorem fit74 : cutsFit labs 74 cuts74 = true := by kernel_rfl
noncomputable def cuts73 : Cuts := [(15, 61, [0, 1, 5]), (28, 62, [0, 1, 5]), (31, 63, [0, 5])]
theorem fit73 : cutsFit labs 73 cuts73 = true := by kernel_rfl
noncomputable def cuts71 : Cuts := [(511, 64, [0, 1, 2, 7, 8]), (1018, 65, [0, 1, 2, 7, 8, 9, 10, 11]), (1023, 66, [8]), (2044, 67, [0, 1, 2, 7, 8]), (8147, 68, [0, 1, 2, 7, 8, 9, 10, 11]), (523359, 69, [0, 1, 2, 7, 8, 13, 14, 16])]
theorem fit71 : cutsFit labs 71 cuts71 = true := by kernel_rfl
noncomputable def cuts72 : Cuts := []
theorem fit72 : cutsFit labs 72 cuts72 = true := by kernel_rfl
noncomputable def cuts70 : Cuts := [(26, 70, [0, 1, 5])]
theorem fit70 : cutsFit labs 70 cuts70 = true := by kernel_rfl
noncomputable def cuts58 : Cuts := []
theorem fit58 : cutsFit labs 58 cuts58 = true := by kernel_rfl
noncomputable def cuts69 : Cuts := [(122, 71, [0, 1, 4, 7, 8, 9]), (979, 72, [0, 1, 4, 7, 8, 9])]
theorem fit69 : cutsFit labs 69 cuts69 = true := by kernel_rfl
noncomputable def cuts59 : Cuts := []
theorem fit59 : cutsFit labs 59 cuts59 = true := by kernel_rfl
noncomputable def cuts68 : Cuts := [(124, 73, [0, 4, 5])]
theorem fit68 : cutsFit labs 68 cuts68 = true := by kernel_rfl
noncomputable def cuts67 : Cuts := [(28, 74, [0, 1, 5]), (14527, 75, [0, 1, 5, 6]), (29055, 76, [0, 1, 5, 6]), (232436, 77, [0, 1, 5, 6])]
theorem fit67 : cutsFit labs 67 cuts67 = true := by kernel_rfl
noncomputable def cuts60 : Cuts := [(124, 78, [0, 1, 7, 8]), (8186, 79, [0, 1, 7, 8, 9, 10]), (523927, 80, [0, 1, 7, 8, 9, 11])]
theorem fit60 : cutsFit labs 60 cuts60 = true := by kernel_rfl
noncomputable def cuts66 : Cuts := [(250, 81, [0, 4, 5, 6, 7])]
theorem fit66 : cutsFit labs 66 cuts66 = true := by kernel_rfl
noncomputable def cuts65 : Cuts := [(63, 82, [1, 6]), (124, 83, [0, 1, 5, 6])]
theorem fit65 : cutsFit labs 65 cuts65 = true := by kernel_rfl
noncomputable def cuts64 : Cuts := [(58, 84, [0, 3, 4])]
theorem fit64 : cutsFit labs 64 cuts64 = true := by kernel_rfl
noncomputable def cuts63 : Cuts := []
theorem fit63 : cutsFit labs 63 cuts63 = true := by kernel_rfl
noncomputable def cuts62 : Cuts := []
theorem fit62 : cutsFit labs 62 cuts62 = true := by kernel_rfl
noncomputable def cuts61 : Cuts := []
theorem fit61 : cutsFit labs 61 cuts61 = true := by kernel_rfl
noncomputable def cuts57 : Cuts := [(26, 85, [0, 1, 5])]
theorem fit57 : cutsFit labs 57 cuts57 = true := by kernel_rfl
noncomputable def cuts115 : Cuts := []
theorem fit115 : cutsFit labs 115 cuts115 = true := by kernel_rfl
noncomputable def cuts116 : Cuts := []
theorem fit116 : cutsFit labs 116 cuts116 = true := by kernel_rfl
noncomputable def cuts114 : Cuts := []
theorem fit114 : cutsFit labs 114 cuts114 = true := by kernel_rfl
noncomputable def cuts111 : Cuts := []
theorem fit111 : cutsFit labs 111 cuts111 = true := by kernel_rfl
noncomputable def cuts113 : Cuts := []
theorem fit113 : cutsFit labs 113 cuts113 = true := by kernel_rfl
noncomputable def cuts112 : Cuts := []
theorem fit112 : cutsFit labs 112 cuts112 = true := by kernel_rfl
noncomputable def cuts109 : Cuts := []
theorem fit109 : cutsFit labs 109 cuts109 = true := by kernel_rfl
noncomputable def cuts110 : Cuts := []
theorem fit110 : cutsFit labs 110 cuts110 = true := by kernel_rfl
noncomputable def cuts108 : Cuts := [(1020, 86, [0, 1, 2, 7]), (8161, 87, [0, 1, 2]), (130591, 88, [0, 1, 2])]
theorem fit108 : cutsFit labs 108 cuts108 = true := by kernel_rfl
noncomputable def cuts107 : Cuts := []
theorem fit107 : cutsFit labs 107 cuts107 = true := by kernel_rfl
noncomputable def cuts106 : Cuts := [(31, 89, [0, 1, 2, 7, 8]), (60, 90, [0, 1, 2, 6, 7, 8]), (965, 91, [0, 1, 2, 6, 7, 8])]
theorem fit106 : cutsFit labs 106 cuts106 = true := by kernel_rfl
noncomputable def cuts103 : Cuts := [(15, 92, [0])]
theorem fit103 : cutsFit labs 103 cuts103 = true := by kernel_rfl
noncomputable def cuts105 : Cuts := []
theorem fit105 : cutsFit labs 105 cuts105 = true := by kernel_rfl
noncomputable def cuts100 : Cuts := []
theorem fit100 : cutsFit labs 100 cuts100 = true := by kernel_rfl
noncomputable def cuts104 : Cuts := [(12, 93, [0, 1]), (395, 94, [0, 1])]
theorem fit104 : cutsFit labs 104 cuts104 = true := by kernel_rfl
noncomputable def cuts102 : Cuts := [(122, 95, [0, 5, 6, 7])]
theorem fit102 : cutsFit labs 102 cuts102 = true := by kernel_rfl
noncomputable def cuts101 : Cuts := [(250, 96, [0, 1, 5, 6, 7, 8])]
theorem fit101 : cutsFit labs 101 cuts101 = true := by kernel_rfl
noncomputable def cuts99 : Cuts := []
theorem fit99 : cutsFit labs 99 cuts99 = true := by kernel_rfl
noncomputable def cuts98 : Cuts := [(65492, 97, [0, 1, 12])]
theorem fit98 : cutsFit labs 98 cuts98 = true := by kernel_rfl
noncomputable def cuts97 : Cuts := [(12, 98, [0]), (28, 99, [0]), (63, 100, [0, 4]), (2042, 101, [0, 4, 5, 6]), (2047, 102, [5])]
theorem fit97 : cutsFit labs 97 cuts97 = true := by kernel_rfl
noncomputable def cuts96 : Cuts := []
theorem fit96 : cutsFit labs 96 cuts96 = true := by kernel_rfl
noncomputable def cuts133 : Cuts := [(431, 103, [0, 5, 6])]
theorem fit133 : cutsFit labs 133 cuts133 = true := by kernel_rfl
noncomputable def cuts137 : Cuts := [(7, 104, [0, 1, 2, 3, 4, 10, 11]), (63, 105, [0, 1, 2, 3, 4, 10, 11, 12, 13]), (127, 106, [0, 3, 4, 10, 11, 12, 13]), (255, 107, [0, 4, 10, 11, 12, 13]), (4060, 108, [0, 1, 3, 4, 10, 11, 12, 13, 17]), (16220, 109, [0, 1, 3, 4, 10, 11, 12, 13, 14, 15, 16])]
theorem fit137 : cutsFit labs 137 cuts137 = true := by kernel_rfl
noncomputable def cuts136 : Cuts := [(12, 110, [0, 1, 4]), (31, 111, [0, 4, 12]), (63, 112, [0, 4, 12])]
theorem fit136 : cutsFit labs 136 cuts136 = true := by kernel_rfl
noncomputable def cuts135 : Cuts := []
theorem fit135 : cutsFit labs 135 cuts135 = true := by kernel_rfl
noncomputable def cuts134 : Cuts := []
theorem fit134 : cutsFit labs 134 cuts134 = true := by kernel_rfl
noncomputable def cuts132 : Cuts := [(124, 113, [0, 1, 7, 8]), (210, 114, [0, 1, 15, 16])]
theorem fit132 : cutsFit labs 132 cuts132 = true := by kernel_rfl
noncomputable def cuts131 : Cuts := [(124, 115, [0, 1, 7, 8]), (210, 116, [0, 1, 19, 20])]
theorem fit131 : cutsFit labs 131 cuts131 = true := by kernel_rfl
noncomputable def cuts129 : Cuts := []
theorem fit129 : cutsFit labs 129 cuts129 = true := by kernel_rfl
noncomputable def cuts130 : Cuts := []
theorem fit130 : cutsFit labs 130 cuts130 = true := by kernel_rfl
noncomputable def cuts128 : Cuts := [(26, 117, [0, 1, 7, 8])]
theorem fit128 : cutsFit labs 128 cuts128 = true := by kernel_rfl
noncomputable def cuts127 : Cuts := []
theorem fit127 : cutsFit labs 127 cuts127 = true := by kernel_rfl
noncomputable def cuts125 : Cuts := [(31, 118, [0, 1, 5, 6]), (124, 119, [0, 1, 5, 6]), (3979, 120, [0, 1, 5, 8])]
theorem fit125 : cutsFit labs 125 cuts125 = true := by kernel_rfl
noncomputable def cuts124 : Cuts := [(31, 121, [0, 1, 9]), (244, 122, [0, 1, 9]), (3907, 123, [0, 1, 9])]
theorem fit124 : cutsFit labs 124 cuts124 = true := by kernel_rfl
noncomputable def cuts126 : Cuts := [(15, 124, [0])]
theorem fit126 : cutsFit labs 126 cuts126 = true := by kernel_rfl
noncomputable def cuts123 : Cuts := [(31, 125, [0, 5]), (60, 126, [0, 1, 5])]
theorem fit123 : cutsFit labs 123 cuts123 = true := by kernel_rfl
noncomputable def cuts121 : Cuts := [(31, 127, [10, 11]), (60, 128, [0, 1, 2, 3, 10, 11])]
theorem fit121 : cutsFit labs 121 cuts121 = true := by kernel_rfl
noncomputable def cuts119 : Cuts := []
theorem fit119 : cutsFit labs 119 cuts119 = true := by kernel_rfl
noncomputable def cuts122 : Cuts := [(250, 129, [0, 4, 5]), (1018, 130, [0, 4, 6, 7]), (4090, 131, [0, 4, 6, 8, 9]), (16378, 132, [6, 10, 11])]
theorem fit122 : cutsFit labs 122 cuts122 = true := by kernel_rfl
noncomputable def cuts120 : Cuts := [(122, 133, [0, 3, 4, 5])]
theorem fit120 : cutsFit labs 120 cuts120 = true := by kernel_rfl
noncomputable def cuts118 : Cuts := [(26, 134, [0, 4])]
theorem fit118 : cutsFit labs 118 cuts118 = true := by kernel_rfl
noncomputable def cuts117 : Cuts := [(31, 135, [0, 6]), (58, 136, [0, 1, 6, 7])]
theorem fit117 : cutsFit labs 117 cuts117 = true := by kernel_rfl
noncomputable def cuts145 : Cuts := []
theorem fit145 : cutsFit labs 145 cuts145 = true := by kernel_rfl
noncomputable def cuts144 : Cuts := []
theorem fit144 : cutsFit labs 144 cuts144 = true := by kernel_rfl
noncomputable def cuts143 : Cuts := []
theorem fit143 : cutsFit labs 143 cuts143 = true := by kernel_rfl
noncomputable def cuts141 : Cuts := []
theorem fit141 : cutsFit labs 141 cuts141 = true := by kernel_rfl
noncomputable def cuts142 : Cuts := [(7, 137, [0, 2]), (15, 138, [0, 2]), (31, 139, [0, 2])]
theorem fit142 : cutsFit labs 142 cuts142 = true := by kernel_rfl
noncomputable def cuts140 : Cuts := []
theorem fit140 : cutsFit labs 140 cuts140 = true := by kernel_rfl
noncomputable def cuts139 : Cuts := [(63, 140, [0, 5])]
theorem fit139 : cutsFit labs 139 cuts139 = true := by kernel_rfl
noncomputable def cuts138 : Cuts := [(63, 141, [0, 1, 5, 6, 7])]
theorem fit138 : cutsFit labs 138 cuts138 = true := by kernel_rfl
noncomputable def cuts148 : Cuts := []
theorem fit148 : cutsFit labs 148 cuts148 = true := by kernel_rfl
noncomputable def cuts147 : Cuts := []
theorem fit147 : cutsFit labs 147 cuts147 = true := by kernel_rfl
noncomputable def cuts146 : Cuts := [(2044, 142, [0, 1, 5, 6, 7, 8, 9, 10]), (32709, 143, [0, 1, 5, 6, 7, 8, 9, 10])]
theorem fit146 : cutsFit labs 146 cuts146 = true := by kernel_rfl
noncomputable def cuts152 : Cuts := [(250, 144, [0, 1, 5, 6, 7, 8, 9]), (1018, 145, [0, 1, 5, 6, 7, 8, 10])]
theorem fit152 : cutsFit labs 152 cuts152 = true := by kernel_rfl
noncomputable def cuts151 : Cuts := []
theorem fit151 : cutsFit labs 151 cuts151 = true := by kernel_rfl
noncomputable def cuts149 : Cuts := []
theorem fit149 : cutsFit labs 149 cuts149 = true := by kernel_rfl
noncomputable def cuts154 : Cuts := [(58, 146, [0, 4, 5]), (250, 147, [4, 6, 7, 8]), (8009, 148, [4, 6, 7, 8])]
theorem fit154 : cutsFit labs 154 cuts154 = true := by kernel_rfl
end Go.SN
