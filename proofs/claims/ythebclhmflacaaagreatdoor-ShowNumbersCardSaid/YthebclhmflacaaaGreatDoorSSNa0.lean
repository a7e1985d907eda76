import Derived.Test.YthebclhmflacaaaGreatDoorSMidGG
import Derived.Test.YthebclhmflacaaaGreatDoorSMidZ
import Derived.Test.YthebclhmflacaaaGreatDoorChecked
import Derived.KernelRfl
set_option linter.all false
open Go Go.Mid Go.Proofs
set_option maxRecDepth 100000
set_option linter.unusedVariables false
namespace Go.SN
noncomputable def us (l : List Nat) : List UInt8 := l.map UInt8.ofNat
noncomputable def U (t : TypeId) : Option TypeDesc := Tryz.prog.underlying t
noncomputable def B6 (ih : Nat → List V → Hp → VH) (h : Hp) : VH :=
bindS (ih 8 [(.str (us [97, 46, 98, 58, 99, 39, 100, 39, 32, 108, 111, 99, 97, 108, 32, 102, 117, 110, 99, 116, 105, 111, 110, 32, 102, 40, 120, 44, 46, 46, 46, 41, 32, 114, 101, 116, 117, 114, 110, 32, 45, 120, 32, 101, 110, 100])), (.str (us [97, 32, 91, 32, 34, 98, 34, 32, 93, 32, 58, 32, 99, 32, 40, 32, 34, 100, 34, 32, 41, 32, 59, 32, 108, 111, 99, 97, 108, 32, 102, 117, 110, 99, 116, 105, 111, 110, 32, 102, 32, 40, 32, 120, 32, 44, 32, 46, 46, 46, 32, 41, 32, 114, 101, 116, 117, 114, 110, 32, 45, 32, 120, 32, 59, 32, 101, 110, 100, 32, 59]))] h) fun v0 h1 =>
guardS v0 true (bindS (ih 8 [(.str (us [120, 61, 123, 49, 44, 121, 61, 48, 120, 102, 102, 102, 102, 102, 102, 102, 102, 102, 102, 102, 102, 102, 102, 102, 102, 125])), (.str (us [120, 32, 61, 32, 123, 32, 49, 32, 44, 32, 91, 32, 34, 121, 34, 32, 93, 32, 61, 32, 48, 120, 102, 102, 102, 102, 102, 102, 102, 102, 102, 102, 102, 102, 102, 102, 102, 102, 32, 125, 32, 59]))] h1) fun v2 h3 =>
some (v2, h3)) h1 fun v4 h5 =>
optS (pickV v0 v4 (.bool false)) fun v6 =>
guardS v6 true (bindS (ih 8 [(.str (us [105, 102, 32, 97, 32, 116, 104, 101, 110, 32, 98, 40, 41, 32, 101, 108, 115, 101, 32, 101, 110, 100])), (.str (us [105, 102, 32, 97, 32, 116, 104, 101, 110, 32, 98, 32, 40, 32, 41, 32, 59, 32, 101, 108, 115, 101, 32, 101, 110, 100, 32, 59]))] h5) fun v7 h8 =>
some (v7, h8)) h5 fun v9 h10 =>
optS (pickV v6 v9 (.bool false)) fun v11 =>
guardS v11 true (bindS (ih 8 [(.str (us [])), (.str (us []))] h10) fun v12 h13 =>
some (v12, h13)) h10 fun v14 h15 =>
optS (pickV v11 v14 (.bool false)) fun v16 =>
bindS (ih 8 [(.str (us [102, 111, 114, 32, 105, 61, 49, 44, 50, 44, 51, 32, 100, 111, 32, 103, 111, 116, 111, 32, 97, 32, 101, 110, 100, 32, 102, 111, 114, 32, 107, 44, 118, 32, 105, 110, 32, 120, 44, 121, 32, 100, 111, 32, 58, 58, 97, 58, 58, 32, 98, 114, 101, 97, 107, 32, 101, 110, 100])), (.str (us [102, 111, 114, 32, 105, 32, 61, 32, 49, 32, 44, 32, 50, 32, 44, 32, 51, 32, 100, 111, 32, 103, 111, 116, 111, 32, 97, 32, 59, 32, 101, 110, 100, 32, 59, 32, 102, 111, 114, 32, 107, 32, 44, 32, 118, 32, 105, 110, 32, 120, 32, 44, 32, 121, 32, 100, 111, 32, 58, 58, 32, 97, 32, 58, 58, 32, 59, 32, 98, 114, 101, 97, 107, 32, 59, 32, 101, 110, 100, 32, 59]))] h15) fun v17 h18 =>
guardS v17 true (bindS (ih 8 [(.str (us [119, 104, 105, 108, 101, 32, 97, 32, 97, 110, 100, 32, 98, 32, 111, 114, 32, 110, 111, 116, 32, 99, 32, 100, 111, 32, 108, 111, 99, 97, 108, 32, 120, 44, 121, 61, 49, 44, 46, 46, 46, 59, 108, 111, 99, 97, 108, 32, 122, 32, 101, 110, 100, 32, 114, 101, 112, 101, 97, 116, 32, 117, 110, 116, 105, 108, 32, 35, 120, 61, 61, 126, 121])), (.str (us [119, 104, 105, 108, 101, 32, 97, 32, 97, 110, 100, 32, 98, 32, 111, 114, 32, 110, 111, 116, 32, 99, 32, 100, 111, 32, 108, 111, 99, 97, 108, 32, 120, 32, 44, 32, 121, 32, 61, 32, 49, 32, 44, 32, 46, 46, 46, 32, 59, 32, 108, 111, 99, 97, 108, 32, 122, 32, 59, 32, 101, 110, 100, 32, 59, 32, 114, 101, 112, 101, 97, 116, 32, 117, 110, 116, 105, 108, 32, 35, 32, 120, 32, 61, 61, 32, 126, 32, 121, 32, 59]))] h18) fun v19 h20 =>
some (v19, h20)) h18 fun v21 h22 =>
optS (pickV v17 v21 (.bool false)) fun v23 =>
guardS v23 true (bindS (ih 8 [(.str (us [97, 44, 98, 46, 99, 61, 102, 117, 110, 99, 116, 105, 111, 110, 40, 41, 101, 110, 100, 44, 40, 110, 105, 108, 41, 46, 46, 116, 114, 117, 101, 46, 46, 102, 97, 108, 115, 101])), (.str (us [97, 32, 44, 32, 98, 32, 91, 32, 34, 99, 34, 32, 93, 32, 61, 32, 102, 117, 110, 99, 116, 105, 111, 110, 32, 40, 32, 41, 32, 101, 110, 100, 32, 44, 32, 40, 32, 110, 105, 108, 32, 41, 32, 46, 46, 32, 116, 114, 117, 101, 32, 46, 46, 32, 102, 97, 108, 115, 101, 32, 59]))] h22) fun v24 h25 =>
some (v24, h25)) h22 fun v26 h27 =>
optS (pickV v23 v26 (.bool false)) fun v28 =>
guardS v28 true (bindS (ih 8 [(.str (us [100, 111, 32, 114, 101, 116, 117, 114, 110, 59, 101, 110, 100, 32, 120, 61, 123, 125, 32, 105, 102, 32, 97, 32, 116, 104, 101, 110, 32, 101, 108, 115, 101, 105, 102, 32, 98, 32, 116, 104, 101, 110, 32, 101, 108, 115, 101, 105, 102, 32, 99, 32, 116, 104, 101, 110, 32, 101, 110, 100])), (.str (us [100, 111, 32, 114, 101, 116, 117, 114, 110, 32, 59, 32, 101, 110, 100, 32, 59, 32, 120, 32, 61, 32, 123, 32, 125, 32, 59, 32, 105, 102, 32, 97, 32, 116, 104, 101, 110, 32, 101, 108, 115, 101, 105, 102, 32, 98, 32, 116, 104, 101, 110, 32, 101, 108, 115, 101, 105, 102, 32, 99, 32, 116, 104, 101, 110, 32, 101, 110, 100, 32, 59]))] h27) fun v29 h30 =>
some (v29, h30)) h27 fun v31 h32 =>
optS (pickV v28 v31 (.bool false)) fun v33 =>
guardS v33 true (bindS (ih 8 [(.str (us [120, 61, 49, 43, 50, 45, 51, 42, 52, 47, 47, 53, 37, 54, 38, 55, 124, 56, 126, 57, 60, 60, 49, 62, 62, 50, 32, 121, 61, 49, 60, 50, 32, 121, 61, 49, 60, 61, 50, 32, 121, 61, 49, 62, 50, 32, 121, 61, 49, 62, 61, 50, 32, 121, 61, 49, 126, 61, 50, 32, 114, 101, 116, 117, 114, 110, 32, 102, 40, 46, 46, 46, 41, 44, 97, 91, 123, 49, 59, 50, 125, 93])), (.str (us [120, 32, 61, 32, 49, 32, 43, 32, 50, 32, 45, 32, 51, 32, 42, 32, 52, 32, 47, 47, 32, 53, 32, 37, 32, 54, 32, 38, 32, 55, 32, 124, 32, 56, 32, 126, 32, 57, 32, 60, 60, 32, 49, 32, 62, 62, 32, 50, 32, 59, 32, 121, 32, 61, 32, 49, 32, 60, 32, 50, 32, 59, 32, 121, 32, 61, 32, 49, 32, 60, 61, 32, 50, 32, 59, 32, 121, 32, 61, 32, 49, 32, 62, 32, 50, 32, 59, 32, 121, 32, 61, 32, 49, 32, 62, 61, 32, 50, 32, 59, 32, 121, 32, 61, 32, 49, 32, 126, 61, 32, 50, 32, 59, 32, 114, 101, 116, 117, 114, 110, 32, 102, 32, 40, 32, 46, 46, 46, 32, 41, 32, 44, 32, 97, 32, 91, 32, 123, 32, 49, 32, 44, 32, 50, 32, 125, 32, 93, 32, 59]))] h32) fun v34 h35 =>
some (v34, h35)) h32 fun v36 h37 =>
optS (pickV v33 v36 (.bool false)) fun v38 =>
bindS (bldStruct h37 [] (.agg [.nilSlice, (.int .i64 (.ofNat 0))]) (some [(0, 1), (1, 1)])) fun v39 h40 =>
bindS (ih 10 [v39] h40) fun v41 h42 =>
extS 0 v41 fun v43 =>
extS 1 v41 fun v44 =>
guardS v16 true (some (v38, h42)) h42 fun v45 h46 =>
optS (pickV v16 v45 (.bool false)) fun v47 =>
guardS v47 true (some (v44, h46)) h46 fun v48 h49 =>
guardS v47 true (intS .eql v48 (.int .i64 (.ofNat 50)) fun v50 =>
some (v50, h49)) h49 fun v51 h52 =>
optS (pickV v47 v51 (.bool false)) fun v53 =>
guardS v53 true (bindS (ih 12 [] h52) fun v54 h55 =>
some (v54, h55)) h52 fun v56 h57 =>
optS (pickV v53 v56 (.bool false)) fun v58 =>
guardS v58 true (bindS (ih 14 [] h57) fun v59 h60 =>
some (v59, h60)) h57 fun v61 h62 =>
optS (pickV v58 v61 (.bool false)) fun v63 =>
some (v63, h62)
noncomputable def G6 : Sh := fun ih vs h => nilE (B6 ih  h) vs
noncomputable def B14 (ih : Nat → List V → Hp → VH) (h : Hp) : VH :=
bindS (ih 8 [(.str (us [120, 61, 49])), (.str (us [120, 32, 61, 32, 49, 32, 59]))] h) fun v0 h1 =>
some (v0, h1)
noncomputable def G14 : Sh := fun ih vs h => nilE (B14 ih  h) vs
noncomputable def B12 (ih : Nat → List V → Hp → VH) (h : Hp) : VH :=
bindS (mkS 5 1 1 (.int .u8 (.ofNat 0)) (.int .i64 (.ofNat 65527)) (.int .i64 (.ofNat 65527)) h) fun v0 h1 =>
lenSl v0 fun v2 =>
ih 1 [v0, v2, (.int .i64 (.ofNat 0))] h1
noncomputable def G12 : Sh := fun ih vs h => nilE (B12 ih  h) vs
noncomputable def B1 (ih : Nat → List V → Hp → VH) (a1 a10 a11 : V) (h : Hp) : VH :=
intS .lss a11 a10 fun v3 =>
ifS v3 (
idxS 1 a1 a11 fun v4 =>
storeC v4 (.int .u8 (.ofNat 122)) h fun h5 =>
intS .add a11 (.int .i64 (.ofNat 1)) fun v6 =>
ih 1 [a1, a10, v6] h5) (
bindS (vh h (b2s h a1)) fun v7 h8 =>
bindS (dynE ih (.func 12 [] []) [v7] h8) fun v9 h10 =>
bindS (ih 10 [v9] h10) fun v11 h12 =>
extS 0 v11 fun v13 =>
extS 1 v11 fun v14 =>
bindS (vh h12 (b2s h12 a1)) fun v15 h16 =>
strS .add v15 (.str (us [122])) fun v17 =>
bindS (dynE ih (.func 12 [] []) [v17] h16) fun v18 h19 =>
bindS (ih 10 [v18] h19) fun v20 h21 =>
extS 0 v20 fun v22 =>
extS 1 v20 fun v23 =>
intS .eql v14 (.int .i64 (.ofNat 0)) fun v24 =>
guardS v24 true (some (v13, h21)) h21 fun v25 h26 =>
guardS v24 true (lenStr v25 fun v27 =>
some (v27, h26)) h26 fun v28 h29 =>
guardS v24 true (intS .eql v28 (.int .i64 (.ofNat 65535)) fun v30 =>
some (v30, h29)) h29 fun v31 h32 =>
optS (pickV v24 v31 (.bool false)) fun v33 =>
guardS v33 true (some (v23, h32)) h32 fun v34 h35 =>
guardS v33 true (intS .eql v34 (.int .i64 (.ofNat 3)) fun v36 =>
some (v36, h35)) h35 fun v37 h38 =>
optS (pickV v33 v37 (.bool false)) fun v39 =>
guardS v39 true (some (v22, h38)) h38 fun v40 h41 =>
guardS v39 true (strS .eql v40 (.str (us [])) fun v42 =>
some (v42, h41)) h41 fun v43 h44 =>
optS (pickV v39 v43 (.bool false)) fun v45 =>
some (v45, h44))
noncomputable def G1 : Sh := fun ih vs h => consE (fun a1 => consE (fun a10 => consE (fun a11 => nilE (B1 ih a1 a10 a11 h)))) vs
noncomputable def B10 (ih : Nat → List V → Hp → VH) (a0 : V) (h : Hp) : VH :=
newS 28 (vcells a0) h fun v0 h1 =>
loadN 2 v0 h1 fun v2 =>
bindS (ih 18 [v2] h1) fun v3 h4 =>
notS v3 fun v5 =>
ifS v5 (
some (.tuple [(.str (us [])), (.int .i64 (.ofNat 50))], h4)) (
loadN 2 v0 h4 fun v6 =>
bindS (bldStruct h4 [(0, v6)] (.agg [.nilSlice, (.int .i64 (.ofNat 0)), .nilSlice, (.int .i64 (.ofNat 0))]) (some [(0, 2), (2, 1), (3, 1)])) fun v7 h8 =>
newS 38 (vcells v7) h8 fun v9 h10 =>
addrS 0 v0 fun v11 =>
load1 v11 h10 fun v12 =>
addrS 1 v0 fun v13 =>
load1 v13 h10 fun v14 =>
idxS 6 v12 v14 fun v15 =>
addrS 4 v15 fun v16 =>
load1 v16 h10 fun v17 =>
idxS 1 v17 (.int .i64 (.ofNat 0)) fun v18 =>
load1 v18 h10 fun v19 =>
bindS (ih 20 [v9, v19] h10) fun v20 h21 =>
nilS v9 fun v22 =>
addrS 3 v22 fun v23 =>
load1 v23 h21 fun v24 =>
intS .gtr v24 (.int .i64 (.ofNat 65536)) fun v25 =>
ifS v25 (
some (.tuple [(.str (us [])), (.int .i64 (.ofNat 3))], h21)) (
nilS v9 fun v26 =>
addrS 2 v26 fun v27 =>
load1 v27 h21 fun v28 =>
bindS (ih 22 [v28, (.str (us [32]))] h21) fun v29 h30 =>
some (.tuple [v29, (.int .i64 (.ofNat 0))], h30)))
noncomputable def G10 : Sh := fun ih vs h => consE (fun a0 => nilE (B10 ih a0 h)) vs
noncomputable def B8 (ih : Nat → List V → Hp → VH) (a0 a1 : V) (h : Hp) : VH :=
bindS (ih 16 [a0] h) fun v0 h1 =>
extS 0 v0 fun v2 =>
extS 1 v0 fun v3 =>
newS 28 [.nilSlice, (.int .i64 (.ofNat 0))] h1 fun v4 h5 =>
newS 31 [(.int .i64 (.ofNat 0)), (.int .i64 (.ofNat 0))] h5 fun v6 h7 =>
storeN 2 v4 v2 h7 fun h8 =>
storeN 2 v6 v3 h8 fun h9 =>
loadN 2 v4 h9 fun v10 =>
bindS (ih 10 [v10] h9) fun v11 h12 =>
extS 0 v11 fun v13 =>
extS 1 v11 fun v14 =>
loadN 2 v6 h12 fun v15 =>
bindS (bldStruct h12 [] (.agg [(.int .i64 (.ofNat 0)), (.int .i64 (.ofNat 0))]) (some [(0, 1), (1, 1)])) fun v16 h17 =>
bindS (vh h17 (eqOp .eql (cmpV [(0, .int .i64), (1, .int .i64)] v15 v16))) fun v18 h19 =>
guardS v18 true (some (v14, h19)) h19 fun v20 h21 =>
guardS v18 true (intS .eql v20 (.int .i64 (.ofNat 0)) fun v22 =>
some (v22, h21)) h21 fun v23 h24 =>
optS (pickV v18 v23 (.bool false)) fun v25 =>
guardS v25 true (some (v13, h24)) h24 fun v26 h27 =>
guardS v25 true (some (a1, h27)) h27 fun v28 h29 =>
guardS v25 true (strS .eql v26 v28 fun v30 =>
some (v30, h29)) h29 fun v31 h32 =>
optS (pickV v25 v31 (.bool false)) fun v33 =>
some (v33, h32)
noncomputable def G8 : Sh := fun ih vs h => consE (fun a0 => consE (fun a1 => nilE (B8 ih a0 a1 h))) vs
noncomputable def B24 (ih : Nat → List V → Hp → VH) (a0 : V) (h : Hp) : VH :=
newS 28 [.nilSlice, (.int .i64 (.ofNat 0))] h fun v0 h1 =>
bindS (bldStruct h1 [(0, (.int .u8 (.ofNat 27))), (2, (.str (us [120]))), (5, (.int .i64 (.ofNat 1)))] (.agg [(.int .u8 (.ofNat 0)), (.int .i64 (.ofNat 0)), (.str (us [])), .nilSlice, .nilSlice, (.int .i64 (.ofNat 0))]) (some [(0, 1), (1, 1), (2, 1), (3, 1), (4, 1), (5, 1)])) fun v2 h3 =>
bindS (bldStruct h3 [(0, (.int .u8 (.ofNat 24))), (2, a0), (5, (.int .i64 (.ofNat 1)))] (.agg [(.int .u8 (.ofNat 0)), (.int .i64 (.ofNat 0)), (.str (us [])), .nilSlice, .nilSlice, (.int .i64 (.ofNat 0))]) (some [(0, 1), (1, 1), (2, 1), (3, 1), (4, 1), (5, 1)])) fun v4 h5 =>
bindS (bldSl h5 [(0, (.int .i64 (.ofNat 0))), (1, (.int .i64 (.ofNat 1)))] 3 2 1 (.int .i64 (.ofNat 0))) fun v6 h7 =>
bindS (bldStruct h7 [(0, (.int .u8 (.ofNat 3))), (1, (.int .i64 (.ofNat 1))), (4, v6), (5, (.int .i64 (.ofNat 1)))] (.agg [(.int .u8 (.ofNat 0)), (.int .i64 (.ofNat 0)), (.str (us [])), .nilSlice, .nilSlice, (.int .i64 (.ofNat 0))]) (some [(0, 1), (1, 1), (2, 1), (3, 1), (4, 1), (5, 1)])) fun v8 h9 =>
bindS (bldSl h9 [(0, (.int .i64 (.ofNat 2)))] 3 1 1 (.int .i64 (.ofNat 0))) fun v10 h11 =>
bindS (bldStruct h11 [(0, (.int .u8 (.ofNat 1))), (4, v10), (5, (.int .i64 (.ofNat 1)))] (.agg [(.int .u8 (.ofNat 0)), (.int .i64 (.ofNat 0)), (.str (us [])), .nilSlice, .nilSlice, (.int .i64 (.ofNat 0))]) (some [(0, 1), (1, 1), (2, 1), (3, 1), (4, 1), (5, 1)])) fun v12 h13 =>
bindS (bldSl h13 [(0, (.int .i64 (.ofNat 3)))] 3 1 1 (.int .i64 (.ofNat 0))) fun v14 h15 =>
bindS (bldStruct h15 [(0, (.int .u8 (.ofNat 26))), (1, (.int .i64 (.ofNat 1))), (4, v14), (5, (.int .i64 (.ofNat 1)))] (.agg [(.int .u8 (.ofNat 0)), (.int .i64 (.ofNat 0)), (.str (us [])), .nilSlice, .nilSlice, (.int .i64 (.ofNat 0))]) (some [(0, 1), (1, 1), (2, 1), (3, 1), (4, 1), (5, 1)])) fun v16 h17 =>
bindS (bldSl h17 [(0, v2), (1, v4), (2, v8), (3, v12), (4, v16)] 43 5 6 (.agg [(.int .u8 (.ofNat 0)), (.int .i64 (.ofNat 0)), (.str (us [])), .nilSlice, .nilSlice, (.int .i64 (.ofNat 0))])) fun v18 h19 =>
bindS (bldStruct h19 [(0, v18), (1, (.int .i64 (.ofNat 4)))] (.agg [.nilSlice, (.int .i64 (.ofNat 0))]) (some [(0, 1), (1, 1)])) fun v20 h21 =>
storeN 2 v0 v20 h21 fun h22 =>
loadN 2 v0 h22 fun v23 =>
some (v23, h22)
noncomputable def G24 : Sh := fun ih vs h => consE (fun a0 => nilE (B24 ih a0 h)) vs
noncomputable def B22 (ih : Nat → List V → Hp → VH) (a0 a1 : V) (h : Hp) : VH :=
lenSl a0 fun v0 =>
intS .eql v0 (.int .i64 (.ofNat 0)) fun v1 =>
ifS v1 (
some ((.str (us [])), h)) (
intS .eql v0 (.int .i64 (.ofNat 1)) fun v2 =>
ifS v2 (
idxS 1 a0 (.int .i64 (.ofNat 0)) fun v3 =>
load1 v3 h fun v4 =>
some (v4, h)) (
lenStr a1 fun v5 =>
intS .gtr v5 (.int .i64 (.ofNat 0)) fun v6 =>
ifS v6 (
lenStr a1 fun v7 =>
lenSl a0 fun v8 =>
intS .sub v8 (.int .i64 (.ofNat 1)) fun v9 =>
intS .quo (.int .i64 (.ofNat 9223372036854775807)) v9 fun v10 =>
intS .geq v7 v10 fun v11 =>
ifS v11 (
none) (
ih 5 [a0, a1, (.int .i64 (.ofNat 0))] h)) (
ih 3 [a0, a1, (.int .i64 (.ofNat 0))] h)))
noncomputable def G22 : Sh := fun ih vs h => consE (fun a0 => consE (fun a1 => nilE (B22 ih a0 a1 h))) vs
noncomputable def B3 (ih : Nat → List V → Hp → VH) (a0 a1 a5 : V) (h : Hp) : VH :=
lenSl a0 fun v12 =>
ih 7 [a0, a1, a5, a0, v12, (.int .i64 (.ofNat 0))] h
noncomputable def G3 : Sh := fun ih vs h => consE (fun a0 => consE (fun a1 => consE (fun a5 => nilE (B3 ih a0 a1 a5 h)))) vs
noncomputable def B5 (ih : Nat → List V → Hp → VH) (a0 a1 a5 : V) (h : Hp) : VH :=
lenStr a1 fun v13 =>
lenSl a0 fun v14 =>
intS .sub v14 (.int .i64 (.ofNat 1)) fun v15 =>
intS .mul v13 v15 fun v16 =>
intS .add a5 v16 fun v17 =>
ih 3 [a0, a1, v17] h
noncomputable def G5 : Sh := fun ih vs h => consE (fun a0 => consE (fun a1 => consE (fun a5 => nilE (B5 ih a0 a1 a5 h)))) vs
noncomputable def B7 (ih : Nat → List V → Hp → VH) (a0 a1 a5 a39 a40 a41 : V) (h : Hp) : VH :=
intS .lss a41 a40 fun v18 =>
ifS v18 (
idxS 1 a39 a41 fun v19 =>
load1 v19 h fun v20 =>
lenStr v20 fun v21 =>
intS .sub (.int .i64 (.ofNat 9223372036854775807)) a5 fun v22 =>
intS .gtr v21 v22 fun v23 =>
ifS v23 (
none) (
ih 11 [a0, a1, a5, v20, a39, a40, a41] h)) (
newS 72 [.nilPtr, .nilSlice] h fun v24 h25 =>
bindS (ih 52 [v24, a5] h25) fun v26 h27 =>
idxS 1 a0 (.int .i64 (.ofNat 0)) fun v28 =>
load1 v28 h27 fun v29 =>
bindS (ih 54 [v24, v29] h27) fun v30 h31 =>
bindS (slSlK 9 1 (some (.int .i64 (.ofNat 1))) none h31 a0) fun v32 h33 =>
lenSl v32 fun v34 =>
ih 9 [a1, v24, v32, v34, (.int .i64 (.ofNat 0))] h33)
noncomputable def G7 : Sh := fun ih vs h => consE (fun a0 => consE (fun a1 => consE (fun a5 => consE (fun a39 => consE (fun a40 => consE (fun a41 => nilE (B7 ih a0 a1 a5 a39 a40 a41 h))))))) vs
noncomputable def B9 (ih : Nat → List V → Hp → VH) (a1 a8 a63 a64 a65 : V) (h : Hp) : VH :=
intS .lss a65 a64 fun v35 =>
ifS v35 (
idxS 1 a63 a65 fun v36 =>
load1 v36 h fun v37 =>
bindS (ih 54 [a8, a1] h) fun v38 h39 =>
bindS (ih 54 [a8, v37] h39) fun v40 h41 =>
intS .add a65 (.int .i64 (.ofNat 1)) fun v42 =>
ih 9 [a1, a8, a63, a64, v42] h41) (
bindS (ih 56 [a8] h) fun v43 h44 =>
some (v43, h44))
noncomputable def G9 : Sh := fun ih vs h => consE (fun a1 => consE (fun a8 => consE (fun a63 => consE (fun a64 => consE (fun a65 => nilE (B9 ih a1 a8 a63 a64 a65 h)))))) vs
noncomputable def B11 (ih : Nat → List V → Hp → VH) (a0 a1 a5 a7 a39 a40 a41 : V) (h : Hp) : VH :=
lenStr a7 fun v45 =>
intS .add a5 v45 fun v46 =>
intS .add a41 (.int .i64 (.ofNat 1)) fun v47 =>
ih 7 [a0, a1, v46, a39, a40, v47] h
noncomputable def G11 : Sh := fun ih vs h => consE (fun a0 => consE (fun a1 => consE (fun a5 => consE (fun a7 => consE (fun a39 => consE (fun a40 => consE (fun a41 => nilE (B11 ih a0 a1 a5 a7 a39 a40 a41 h)))))))) vs
noncomputable def B20 (ih : Nat → List V → Hp → VH) (a0 a1 : V) (h : Hp) : VH :=
nilS a0 fun v0 =>
addrS 0 v0 fun v1 =>
addrS 0 v1 fun v2 =>
load1 v2 h fun v3 =>
idxS 6 v3 a1 fun v4 =>
loadN 6 v4 h fun v5 =>
newS 43 [(.int .u8 (.ofNat 0)), (.int .i64 (.ofNat 0)), (.str (us [])), .nilSlice, .nilSlice, (.int .i64 (.ofNat 0))] h fun v6 h7 =>
storeN 6 v6 v5 h7 fun h8 =>
addrS 4 v6 fun v9 =>
load1 v9 h8 fun v10 =>
addrS 0 v6 fun v11 =>
load1 v11 h8 fun v12 =>
intS .eql v12 (.int .u8 (.ofNat 1)) fun v13 =>
ifS v13 (
lenSl v10 fun v14 =>
ih 13 [a0, v10, v14, (.int .i64 (.ofNat 0))] h8) (
addrS 0 v6 fun v15 =>
load1 v15 h8 fun v16 =>
intS .eql v16 (.int .u8 (.ofNat 31)) fun v17 =>
guardS v17 false (addrS 0 v6 fun v18 =>
some (v18, h8)) h8 fun v19 h20 =>
guardS v17 false (load1 v19 h20 fun v21 =>
some (v21, h20)) h20 fun v22 h23 =>
guardS v17 false (intS .eql v22 (.int .u8 (.ofNat 32)) fun v24 =>
some (v24, h23)) h23 fun v25 h26 =>
optS (pickV v17 (.bool true) v25) fun v27 =>
guardS v27 false (addrS 0 v6 fun v28 =>
some (v28, h26)) h26 fun v29 h30 =>
guardS v27 false (load1 v29 h30 fun v31 =>
some (v31, h30)) h30 fun v32 h33 =>
guardS v27 false (intS .eql v32 (.int .u8 (.ofNat 33)) fun v34 =>
some (v34, h33)) h33 fun v35 h36 =>
optS (pickV v27 (.bool true) v35) fun v37 =>
ifS v37 (
idxS 1 v10 (.int .i64 (.ofNat 0)) fun v38 =>
load1 v38 h36 fun v39 =>
bindS (ih 20 [a0, v39] h36) fun v40 h41 =>
addrS 0 v6 fun v42 =>
load1 v42 h41 fun v43 =>
intS .eql v43 (.int .u8 (.ofNat 32)) fun v44 =>
ifS v44 (
bindS (bldSl h41 [(0, (.str (us [97, 110, 100])))] 9 1 1 (.str (us []))) fun v45 h46 =>
bindS (ih 46 [a0, v45] h46) fun v47 h48 =>
ih 15 [a0, v10] h48) (
intS .eql v43 (.int .u8 (.ofNat 33)) fun v49 =>
ifS v49 (
bindS (bldSl h41 [(0, (.str (us [111, 114])))] 9 1 1 (.str (us []))) fun v50 h51 =>
bindS (ih 46 [a0, v50] h51) fun v52 h53 =>
ih 15 [a0, v10] h53) (
addrS 1 v6 fun v54 =>
load1 v54 h41 fun v55 =>
bindS (ih 48 [v55] h41) fun v56 h57 =>
bindS (bldSl h57 [(0, v56)] 9 1 1 (.str (us []))) fun v58 h59 =>
bindS (ih 46 [a0, v58] h59) fun v60 h61 =>
ih 15 [a0, v10] h61))) (
loadN 6 v6 h36 fun v62 =>
bindS (ih 50 [a0, v62] h36) fun v63 h64 =>
some (.tuple [], h64)))
noncomputable def G20 : Sh := fun ih vs h => consE (fun a0 => consE (fun a1 => nilE (B20 ih a0 a1 h))) vs
noncomputable def B13 (ih : Nat → List V → Hp → VH) (a0 a25 a26 a27 : V) (h : Hp) : VH :=
intS .lss a27 a26 fun v65 =>
ifS v65 (
idxS 1 a25 a27 fun v66 =>
load1 v66 h fun v67 =>
nilS a0 fun v68 =>
addrS 0 v68 fun v69 =>
addrS 0 v69 fun v70 =>
load1 v70 h fun v71 =>
idxS 6 v71 v67 fun v72 =>
loadN 6 v72 h fun v73 =>
bindS (ih 44 [a0, v73] h) fun v74 h75 =>
intS .add a27 (.int .i64 (.ofNat 1)) fun v76 =>
ih 13 [a0, a25, a26, v76] h75) (
some (.tuple [], h))
noncomputable def G13 : Sh := fun ih vs h => consE (fun a0 => consE (fun a25 => consE (fun a26 => consE (fun a27 => nilE (B13 ih a0 a25 a26 a27 h))))) vs
noncomputable def B15 (ih : Nat → List V → Hp → VH) (a0 a5 : V) (h : Hp) : VH :=
idxS 1 a5 (.int .i64 (.ofNat 1)) fun v77 =>
load1 v77 h fun v78 =>
bindS (ih 20 [a0, v78] h) fun v79 h80 =>
some (.tuple [], h80)
noncomputable def G15 : Sh := fun ih vs h => consE (fun a0 => consE (fun a5 => nilE (B15 ih a0 a5 h))) vs
noncomputable def B18 (ih : Nat → List V → Hp → VH) (a0 : V) (h : Hp) : VH :=
newS 28 (vcells a0) h fun v0 h1 =>
addrS 0 v0 fun v2 =>
load1 v2 h1 fun v3 =>
lenSl v3 fun v4 =>
intS .lss v4 (.int .i64 (.ofNat 1)) fun v5 =>
guardS v5 false (addrS 0 v0 fun v6 =>
some (v6, h1)) h1 fun v7 h8 =>
guardS v5 false (load1 v7 h8 fun v9 =>
some (v9, h8)) h8 fun v10 h11 =>
guardS v5 false (lenSl v10 fun v12 =>
some (v12, h11)) h11 fun v13 h14 =>
guardS v5 false (intS .gtr v13 (.int .i64 (.ofNat 4096)) fun v15 =>
some (v15, h14)) h14 fun v16 h17 =>
optS (pickV v5 (.bool true) v16) fun v18 =>
guardS v18 false (addrS 1 v0 fun v19 =>
some (v19, h17)) h17 fun v20 h21 =>
guardS v18 false (load1 v20 h21 fun v22 =>
some (v22, h21)) h21 fun v23 h24 =>
guardS v18 false (intS .lss v23 (.int .i64 (.ofNat 0)) fun v25 =>
some (v25, h24)) h24 fun v26 h27 =>
optS (pickV v18 (.bool true) v26) fun v28 =>
guardS v28 false (addrS 1 v0 fun v29 =>
some (v29, h27)) h27 fun v30 h31 =>
guardS v28 false (load1 v30 h31 fun v32 =>
some (v32, h31)) h31 fun v33 h34 =>
guardS v28 false (addrS 0 v0 fun v35 =>
some (v35, h34)) h34 fun v36 h37 =>
guardS v28 false (load1 v36 h37 fun v38 =>
some (v38, h37)) h37 fun v39 h40 =>
guardS v28 false (lenSl v39 fun v41 =>
some (v41, h40)) h40 fun v42 h43 =>
guardS v28 false (intS .geq v33 v42 fun v44 =>
some (v44, h43)) h43 fun v45 h46 =>
optS (pickV v28 (.bool true) v45) fun v47 =>
ifS v47 (
some ((.bool false), h46)) (
addrS 0 v0 fun v48 =>
load1 v48 h46 fun v49 =>
addrS 1 v0 fun v50 =>
load1 v50 h46 fun v51 =>
idxS 6 v49 v51 fun v52 =>
loadN 6 v52 h46 fun v53 =>
newS 43 [(.int .u8 (.ofNat 0)), (.int .i64 (.ofNat 0)), (.str (us [])), .nilSlice, .nilSlice, (.int .i64 (.ofNat 0))] h46 fun v54 h55 =>
storeN 6 v54 v53 h55 fun h56 =>
addrS 0 v54 fun v57 =>
load1 v57 h56 fun v58 =>
intS .neq v58 (.int .u8 (.ofNat 26)) fun v59 =>
guardS v59 false (addrS 1 v54 fun v60 =>
some (v60, h56)) h56 fun v61 h62 =>
guardS v59 false (load1 v61 h62 fun v63 =>
some (v63, h62)) h62 fun v64 h65 =>
guardS v59 false (intS .neq v64 (.int .i64 (.ofNat 1)) fun v66 =>
some (v66, h65)) h65 fun v67 h68 =>
optS (pickV v59 (.bool true) v67) fun v69 =>
guardS v69 false (addrS 3 v54 fun v70 =>
some (v70, h68)) h68 fun v71 h72 =>
guardS v69 false (load1 v71 h72 fun v73 =>
some (v73, h72)) h72 fun v74 h75 =>
guardS v69 false (lenSl v74 fun v76 =>
some (v76, h75)) h75 fun v77 h78 =>
guardS v69 false (intS .neq v77 (.int .i64 (.ofNat 0)) fun v79 =>
some (v79, h78)) h78 fun v80 h81 =>
optS (pickV v69 (.bool true) v80) fun v82 =>
ifS v82 (
some ((.bool false), h81)) (
addrS 0 v0 fun v83 =>
load1 v83 h81 fun v84 =>
lenSl v84 fun v85 =>
bindS (mkS 4 1 1 (.bool false) v85 v85 h81) fun v86 h87 =>
addrS 1 v0 fun v88 =>
load1 v88 h87 fun v89 =>
idxS 1 v86 v89 fun v90 =>
storeC v90 (.bool true) h87 fun h91 =>
loadN 2 v0 h91 fun v92 =>
bindS (bldStruct h91 [(0, v92)] (.agg [.nilSlice, (.int .i64 (.ofNat 0))]) (some [(0, 2)])) fun v93 h94 =>
newS 60 [.nilSlice, (.int .i64 (.ofNat 0))] h94 fun v95 h96 =>
storeN 2 v95 v93 h96 fun h97 =>
addrS 1 v0 fun v98 =>
load1 v98 h97 fun v99 =>
bindS (bldStruct h97 [(0, v99), (1, (.int .i64 (.ofNat 0)))] (.agg [(.int .i64 (.ofNat 0)), (.int .i64 (.ofNat 0))]) (some [(0, 1), (1, 1)])) fun v100 h101 =>
bindS (bldSl h101 [(0, v100)] 62 1 2 (.agg [(.int .i64 (.ofNat 0)), (.int .i64 (.ofNat 0))])) fun v102 h103 =>
ih 17 [v0, v86, v95, v102] h103))
noncomputable def G18 : Sh := fun ih vs h => consE (fun a0 => nilE (B18 ih a0 h)) vs
noncomputable def B17 (ih : Nat → List V → Hp → VH) (a1 a4 a5 a6 : V) (h : Hp) : VH :=
lenSl a6 fun v104 =>
intS .gtr v104 (.int .i64 (.ofNat 0)) fun v105 =>
ifS v105 (
lenSl a6 fun v106 =>
intS .sub v106 (.int .i64 (.ofNat 1)) fun v107 =>
idxS 2 a6 v107 fun v108 =>
loadN 2 v108 h fun v109 =>
newS 62 [(.int .i64 (.ofNat 0)), (.int .i64 (.ofNat 0))] h fun v110 h111 =>
storeN 2 v110 v109 h111 fun h112 =>
lenSl a6 fun v113 =>
intS .sub v113 (.int .i64 (.ofNat 1)) fun v114 =>
bindS (slSlK 62 2 none (some v114) h112 a6) fun v115 h116 =>
addrS 0 a1 fun v117 =>
load1 v117 h116 fun v118 =>
addrS 0 v110 fun v119 =>
load1 v119 h116 fun v120 =>
idxS 6 v118 v120 fun v121 =>
loadN 6 v121 h116 fun v122 =>
newS 43 [(.int .u8 (.ofNat 0)), (.int .i64 (.ofNat 0)), (.str (us [])), .nilSlice, .nilSlice, (.int .i64 (.ofNat 0))] h116 fun v123 h124 =>
storeN 6 v123 v122 h124 fun h125 =>
addrS 4 v123 fun v126 =>
load1 v126 h125 fun v127 =>
lenSl v127 fun v128 =>
ih 19 [a1, a4, a5, v115, v110, v123, v127, v128, (.int .i64 (.ofNat 0))] h125) (
bindS (ih 42 [a4, (.bool false)] h) fun v129 h130 =>
notS v129 fun v131 =>
some (v131, h130))
noncomputable def G17 : Sh := fun ih vs h => consE (fun a1 => consE (fun a4 => consE (fun a5 => consE (fun a6 => nilE (B17 ih a1 a4 a5 a6 h))))) vs
noncomputable def B19 (ih : Nat → List V → Hp → VH) (a1 a4 a5 a6 a7 a8 a89 a90 a91 : V) (h : Hp) : VH :=
intS .lss a91 a90 fun v132 =>
ifS v132 (
idxS 1 a89 a91 fun v133 =>
load1 v133 h fun v134 =>
intS .lss v134 (.int .i64 (.ofNat 0)) fun v135 =>
guardS v135 false (some (v134, h)) h fun v136 h137 =>
guardS v135 false (some (a4, h137)) h137 fun v138 h139 =>
guardS v135 false (lenSl v138 fun v140 =>
some (v140, h139)) h139 fun v141 h142 =>
guardS v135 false (intS .geq v136 v141 fun v143 =>
some (v143, h142)) h142 fun v144 h145 =>
optS (pickV v135 (.bool true) v144) fun v146 =>
guardS v146 false (some (a4, h145)) h145 fun v147 h148 =>
guardS v146 false (some (v134, h148)) h148 fun v149 h150 =>
guardS v146 false (idxS 1 v147 v149 fun v151 =>
some (v151, h150)) h150 fun v152 h153 =>
guardS v146 false (load1 v152 h153 fun v154 =>
some (v154, h153)) h153 fun v155 h156 =>
optS (pickV v146 (.bool true) v155) fun v157 =>
ifS v157 (
some ((.bool false), h156)) (
idxS 1 a4 v134 fun v158 =>
storeC v158 (.bool true) h156 fun h159 =>
loadN 6 a8 h159 fun v160 =>
addrS 1 a7 fun v161 =>
load1 v161 h159 fun v162 =>
bindS (ih 38 [v160, a91, v162] h159) fun v163 h164 =>
bindS (bldStruct h164 [(0, v134), (1, v163)] (.agg [(.int .i64 (.ofNat 0)), (.int .i64 (.ofNat 0))]) (some [(0, 1), (1, 1)])) fun v165 h166 =>
bindS (bldSl h166 [(0, v165)] 62 1 2 (.agg [(.int .i64 (.ofNat 0)), (.int .i64 (.ofNat 0))])) fun v167 h168 =>
bindS (appS 62 16 2 a6 v167 h168) fun v169 h170 =>
intS .add a91 (.int .i64 (.ofNat 1)) fun v171 =>
ih 19 [a1, a4, a5, v169, a7, a8, a89, a90, v171] h170)) (
addrS 1 a7 fun v172 =>
load1 v172 h fun v173 =>
intS .gtr v173 (.int .i64 (.ofNat 100)) fun v174 =>
guardS v174 false (loadN 2 a5 h fun v175 =>
some (v175, h)) h fun v176 h177 =>
guardS v174 false (loadN 6 a8 h177 fun v178 =>
some (v178, h177)) h177 fun v179 h180 =>
guardS v174 false (bindS (ih 40 [v176, v179] h180) fun v181 h182 =>
some (v181, h182)) h180 fun v183 h184 =>
guardS v174 false (notS v183 fun v185 =>
some (v185, h184)) h184 fun v186 h187 =>
optS (pickV v174 (.bool true) v186) fun v188 =>
ifS v188 (
some ((.bool false), h187)) (
ih 17 [a1, a4, a5, a6] h187))
noncomputable def G19 : Sh := fun ih vs h => consE (fun a1 => consE (fun a4 => consE (fun a5 => consE (fun a6 => consE (fun a7 => consE (fun a8 => consE (fun a89 => consE (fun a90 => consE (fun a91 => nilE (B19 ih a1 a4 a5 a6 a7 a8 a89 a90 a91 h)))))))))) vs
noncomputable def B16 (ih : Nat → List V → Hp → VH) (a0 : V) (h : Hp) : VH :=
newS 28 [.nilSlice, (.int .i64 (.ofNat 0))] h fun v0 h1 =>
newS 31 [(.int .i64 (.ofNat 0)), (.int .i64 (.ofNat 0))] h1 fun v2 h3 =>
bindS (ih 26 [a0] h3) fun v4 h5 =>
extS 0 v4 fun v6 =>
extS 1 v4 fun v7 =>
newS 31 [(.int .i64 (.ofNat 0)), (.int .i64 (.ofNat 0))] h5 fun v8 h9 =>
storeN 2 v8 v7 h9 fun h10 =>
addrS 0 v8 fun v11 =>
load1 v11 h10 fun v12 =>
intS .neq v12 (.int .i64 (.ofNat 0)) fun v13 =>
ifS v13 (
bindS (bldStruct h10 [] (.agg [.nilSlice, (.int .i64 (.ofNat 0))]) (some [(0, 1), (1, 1)])) fun v14 h15 =>
loadN 2 v8 h10 fun v16 =>
ptrE v0 fun b17 o18 => storeB (storeO Tryz.prog h10 28 b17 o18 v14) fun c19 =>
cD (offP v8 b17 && true) (
storeN 2 v2 v16 (h10.put b17 c19) fun h20 =>
loadN 2 v0 h20 fun v21 =>
loadN 2 v2 h20 fun v22 =>
some (.tuple [v21, v22], h20)) none) (
bindS (bldStruct h10 [(0, v6)] (.agg [.nilSlice, .nilSlice, (.int .i64 (.ofNat 0)), (.int .i64 (.ofNat 0))]) (some [(0, 1), (1, 1), (2, 2)])) fun v23 h24 =>
newS 52 (vcells v23) h24 fun v25 h26 =>
bindS (ih 28 [v25, (.int .i64 (.ofNat 1))] h26) fun v27 h28 =>
bindS (ih 30 [v25, (.int .u8 (.ofNat 6))] h28) fun v29 h30 =>
notS v29 fun v31 =>
ifS v31 (
bindS (ih 32 [v25, (.int .i64 (.ofNat 40))] h30) fun v32 h33 =>
ih 21 [v0, v2, v25, v27] h33) (
ih 21 [v0, v2, v25, v27] h30))
noncomputable def G16 : Sh := fun ih vs h => consE (fun a0 => nilE (B16 ih a0 h)) vs
noncomputable def B21 (ih : Nat → List V → Hp → VH) (a2 a3 a6 a7 : V) (h : Hp) : VH :=
bindS (bldSl h [(0, a7)] 3 1 1 (.int .i64 (.ofNat 0))) fun v34 h35 =>
bindS (bldStruct h35 [(0, (.int .u8 (.ofNat 26))), (1, (.int .i64 (.ofNat 1))), (4, v34), (5, (.int .i64 (.ofNat 1)))] (.agg [(.int .u8 (.ofNat 0)), (.int .i64 (.ofNat 0)), (.str (us [])), .nilSlice, .nilSlice, (.int .i64 (.ofNat 0))]) (some [(0, 1), (1, 1), (2, 1), (3, 1), (4, 1), (5, 1)])) fun v36 h37 =>
bindS (ih 34 [a6, v36] h37) fun v38 h39 =>
bindS (ih 36 [a6] h39) fun v40 h41 =>
ifS v40 (
bindS (bldStruct h41 [] (.agg [.nilSlice, (.int .i64 (.ofNat 0))]) (some [(0, 1), (1, 1)])) fun v42 h43 =>
nilS a6 fun v44 =>
addrS 2 v44 fun v45 =>
loadN 2 v45 h41 fun v46 =>
ptrE a2 fun b47 o48 => storeB (storeO Tryz.prog h41 28 b47 o48 v42) fun c49 =>
cD (offP v45 b47 && true) (
storeN 2 a3 v46 (h41.put b47 c49) fun h50 =>
loadN 2 a2 h50 fun v51 =>
loadN 2 a3 h50 fun v52 =>
some (.tuple [v51, v52], h50)) none) (
nilS a6 fun v53 =>
addrS 1 v53 fun v54 =>
load1 v54 h41 fun v55 =>
bindS (bldStruct h41 [(0, v55), (1, v38)] (.agg [.nilSlice, (.int .i64 (.ofNat 0))]) (some [(0, 1), (1, 1)])) fun v56 h57 =>
bindS (bldStruct h57 [] (.agg [(.int .i64 (.ofNat 0)), (.int .i64 (.ofNat 0))]) (some [(0, 1), (1, 1)])) fun v58 h59 =>
storeN 2 a2 v56 h59 fun h60 =>
storeN 2 a3 v58 h60 fun h61 =>
loadN 2 a2 h61 fun v62 =>
loadN 2 a3 h61 fun v63 =>
some (.tuple [v62, v63], h61))
noncomputable def G21 : Sh := fun ih vs h => consE (fun a2 => consE (fun a3 => consE (fun a6 => consE (fun a7 => nilE (B21 ih a2 a3 a6 a7 h))))) vs
noncomputable def B56 (ih : Nat → List V → Hp → VH) (a0 : V) (h : Hp) : VH :=
nilS a0 fun v0 =>
addrS 1 v0 fun v1 =>
load1 v1 h fun v2 =>
bindS (vh h (headV h v2)) fun v3 h4 =>
nilS a0 fun v5 =>
addrS 1 v5 fun v6 =>
load1 v6 h fun v7 =>
lenSl v7 fun v8 =>
bindS (seeV h 5 v3 v8) fun v9 h10 =>
some (v9, h10)
noncomputable def G56 : Sh := fun ih vs h => consE (fun a0 => nilE (B56 ih a0 h)) vs
noncomputable def B54 (ih : Nat → List V → Hp → VH) (a0 a1 : V) (h : Hp) : VH :=
bindS (ih 110 [a0] h) fun v0 h1 =>
nilS a0 fun v2 =>
addrS 1 v2 fun v3 =>
load1 v3 h1 fun v4 =>
bindS (appS 5 1 1 v4 a1 h1) fun v5 h6 =>
nilS a0 fun v7 =>
addrS 1 v7 fun v8 =>
storeC v8 v5 h6 fun h9 =>
lenStr a1 fun v10 =>
some (.tuple [v10, .nilIface], h9)
noncomputable def G54 : Sh := fun ih vs h => consE (fun a0 => consE (fun a1 => nilE (B54 ih a0 a1 h))) vs
noncomputable def B52 (ih : Nat → List V → Hp → VH) (a0 a1 : V) (h : Hp) : VH :=
bindS (ih 110 [a0] h) fun v0 h1 =>
intS .lss a1 (.int .i64 (.ofNat 0)) fun v2 =>
ifS v2 (
none) (
ih 23 [a0, a1] h1)
noncomputable def G52 : Sh := fun ih vs h => consE (fun a0 => consE (fun a1 => nilE (B52 ih a0 a1 h))) vs
noncomputable def B23 (ih : Nat → List V → Hp → VH) (a0 a1 : V) (h : Hp) : VH :=
nilS a0 fun v3 =>
addrS 1 v3 fun v4 =>
load1 v4 h fun v5 =>
bindS (vh h (capV v5)) fun v6 h7 =>
nilS a0 fun v8 =>
addrS 1 v8 fun v9 =>
load1 v9 h fun v10 =>
lenSl v10 fun v11 =>
intS .sub v6 v11 fun v12 =>
intS .lss v12 a1 fun v13 =>
ifS v13 (
bindS (ih 112 [a0, a1] h) fun v14 h15 =>
some (.tuple [], h15)) (
some (.tuple [], h))
noncomputable def G23 : Sh := fun ih vs h => consE (fun a0 => consE (fun a1 => nilE (B23 ih a0 a1 h))) vs
noncomputable def B44 (ih : Nat → List V → Hp → VH) (a0 a1 : V) (h : Hp) : VH :=
newS 43 (vcells a1) h fun v0 h1 =>
addrS 4 v0 fun v2 =>
load1 v2 h1 fun v3 =>
lenSl v3 fun v4 =>
intS .sub v4 (.int .i64 (.ofNat 1)) fun v5 =>
addrS 0 v0 fun v6 =>
load1 v6 h1 fun v7 =>
intS .eql v7 (.int .u8 (.ofNat 2)) fun v8 =>
ifS v8 (
bindS (bldSl h1 [(0, (.str (us [108, 111, 99, 97, 108])))] 9 1 1 (.str (us []))) fun v9 h10 =>
bindS (ih 46 [a0, v9] h10) fun v11 h12 =>
addrS 3 v0 fun v13 =>
load1 v13 h12 fun v14 =>
bindS (ih 96 [a0, v14] h12) fun v15 h16 =>
intS .geq v5 (.int .i64 (.ofNat 0)) fun v17 =>
ifS v17 (
bindS (bldSl h16 [(0, (.str (us [61])))] 9 1 1 (.str (us []))) fun v18 h19 =>
bindS (ih 46 [a0, v18] h19) fun v20 h21 =>
bindS (ih 98 [a0, v3, (.str (us [44]))] h21) fun v22 h23 =>
ih 25 [a0] h23) (
ih 25 [a0] h16)) (
intS .eql v7 (.int .u8 (.ofNat 3)) fun v24 =>
ifS v24 (
addrS 1 v0 fun v25 =>
load1 v25 h1 fun v26 =>
bindS (slSlK 3 1 none (some v26) h1 v3) fun v27 h28 =>
bindS (ih 98 [a0, v27, (.str (us [44]))] h28) fun v29 h30 =>
bindS (bldSl h30 [(0, (.str (us [61])))] 9 1 1 (.str (us []))) fun v31 h32 =>
bindS (ih 46 [a0, v31] h32) fun v33 h34 =>
addrS 1 v0 fun v35 =>
load1 v35 h34 fun v36 =>
bindS (slSlK 3 1 (some v36) none h34 v3) fun v37 h38 =>
bindS (ih 98 [a0, v37, (.str (us [44]))] h38) fun v39 h40 =>
ih 25 [a0] h40) (
intS .eql v7 (.int .u8 (.ofNat 4)) fun v41 =>
ifS v41 (
idxS 1 v3 (.int .i64 (.ofNat 0)) fun v42 =>
load1 v42 h1 fun v43 =>
bindS (ih 20 [a0, v43] h1) fun v44 h45 =>
ih 25 [a0] h45) (
intS .eql v7 (.int .u8 (.ofNat 5)) fun v46 =>
ifS v46 (
bindS (bldSl h1 [(0, (.str (us [100, 111])))] 9 1 1 (.str (us []))) fun v47 h48 =>
bindS (ih 46 [a0, v47] h48) fun v49 h50 =>
idxS 1 v3 (.int .i64 (.ofNat 0)) fun v51 =>
load1 v51 h50 fun v52 =>
bindS (ih 20 [a0, v52] h50) fun v53 h54 =>
bindS (bldSl h54 [(0, (.str (us [101, 110, 100])))] 9 1 1 (.str (us []))) fun v55 h56 =>
bindS (ih 46 [a0, v55] h56) fun v57 h58 =>
ih 25 [a0] h58) (
intS .eql v7 (.int .u8 (.ofNat 6)) fun v59 =>
ifS v59 (
bindS (bldSl h1 [(0, (.str (us [119, 104, 105, 108, 101])))] 9 1 1 (.str (us []))) fun v60 h61 =>
bindS (ih 46 [a0, v60] h61) fun v62 h63 =>
idxS 1 v3 (.int .i64 (.ofNat 0)) fun v64 =>
load1 v64 h63 fun v65 =>
bindS (ih 20 [a0, v65] h63) fun v66 h67 =>
bindS (bldSl h67 [(0, (.str (us [100, 111])))] 9 1 1 (.str (us []))) fun v68 h69 =>
bindS (ih 46 [a0, v68] h69) fun v70 h71 =>
idxS 1 v3 (.int .i64 (.ofNat 1)) fun v72 =>
load1 v72 h71 fun v73 =>
bindS (ih 20 [a0, v73] h71) fun v74 h75 =>
bindS (bldSl h75 [(0, (.str (us [101, 110, 100])))] 9 1 1 (.str (us []))) fun v76 h77 =>
bindS (ih 46 [a0, v76] h77) fun v78 h79 =>
ih 25 [a0] h79) (
intS .eql v7 (.int .u8 (.ofNat 7)) fun v80 =>
ifS v80 (
bindS (bldSl h1 [(0, (.str (us [114, 101, 112, 101, 97, 116])))] 9 1 1 (.str (us []))) fun v81 h82 =>
bindS (ih 46 [a0, v81] h82) fun v83 h84 =>
idxS 1 v3 (.int .i64 (.ofNat 0)) fun v85 =>
load1 v85 h84 fun v86 =>
bindS (ih 20 [a0, v86] h84) fun v87 h88 =>
bindS (bldSl h88 [(0, (.str (us [117, 110, 116, 105, 108])))] 9 1 1 (.str (us []))) fun v89 h90 =>
bindS (ih 46 [a0, v89] h90) fun v91 h92 =>
idxS 1 v3 (.int .i64 (.ofNat 1)) fun v93 =>
load1 v93 h92 fun v94 =>
bindS (ih 20 [a0, v94] h92) fun v95 h96 =>
ih 25 [a0] h96) (
intS .eql v7 (.int .u8 (.ofNat 8)) fun v97 =>
ifS v97 (
bindS (ih 100 [a0, v3] h1) fun v98 h99 =>
ih 25 [a0] h99) (
intS .eql v7 (.int .u8 (.ofNat 9)) fun v100 =>
ifS v100 (
ih 27 [a0, v0, v3, v5, v7, v100] h1) (
intS .eql v7 (.int .u8 (.ofNat 10)) fun v101 =>
ih 27 [a0, v0, v3, v5, v7, v101] h1))))))))
noncomputable def G44 : Sh := fun ih vs h => consE (fun a0 => consE (fun a1 => nilE (B44 ih a0 a1 h))) vs
noncomputable def B25 (ih : Nat → List V → Hp → VH) (a0 : V) (h : Hp) : VH :=
bindS (bldSl h [(0, (.str (us [59])))] 9 1 1 (.str (us []))) fun v102 h103 =>
bindS (ih 46 [a0, v102] h103) fun v104 h105 =>
some (.tuple [], h105)
noncomputable def G25 : Sh := fun ih vs h => consE (fun a0 => nilE (B25 ih a0 h)) vs
noncomputable def B27 (ih : Nat → List V → Hp → VH) (a0 a3 a4 a5 a12 a111 : V) (h : Hp) : VH :=
ifS a111 (
bindS (bldSl h [(0, (.str (us [102, 111, 114])))] 9 1 1 (.str (us []))) fun v106 h107 =>
bindS (ih 46 [a0, v106] h107) fun v108 h109 =>
addrS 3 a3 fun v110 =>
load1 v110 h109 fun v111 =>
bindS (ih 96 [a0, v111] h109) fun v112 h113 =>
addrS 0 a3 fun v114 =>
load1 v114 h113 fun v115 =>
intS .eql v115 (.int .u8 (.ofNat 9)) fun v116 =>
ifS v116 (
bindS (bldSl h113 [(0, (.str (us [61])))] 9 1 1 (.str (us []))) fun v117 h118 =>
bindS (ih 46 [a0, v117] h118) fun v119 h120 =>
ih 29 [a0, a4, a5] h120) (
bindS (bldSl h113 [(0, (.str (us [105, 110])))] 9 1 1 (.str (us []))) fun v121 h122 =>
bindS (ih 46 [a0, v121] h122) fun v123 h124 =>
ih 29 [a0, a4, a5] h124)) (
intS .eql a12 (.int .u8 (.ofNat 11)) fun v125 =>
ifS v125 (
addrS 3 a3 fun v126 =>
load1 v126 h fun v127 =>
idxS 1 v127 (.int .i64 (.ofNat 0)) fun v128 =>
load1 v128 h fun v129 =>
bindS (bldSl h [(0, (.str (us [108, 111, 99, 97, 108]))), (1, (.str (us [102, 117, 110, 99, 116, 105, 111, 110]))), (2, v129)] 9 3 1 (.str (us []))) fun v130 h131 =>
bindS (ih 46 [a0, v130] h131) fun v132 h133 =>
nilS a0 fun v134 =>
addrS 0 v134 fun v135 =>
addrS 0 v135 fun v136 =>
load1 v136 h133 fun v137 =>
idxS 1 a4 (.int .i64 (.ofNat 0)) fun v138 =>
load1 v138 h133 fun v139 =>
idxS 6 v137 v139 fun v140 =>
loadN 6 v140 h133 fun v141 =>
bindS (ih 102 [a0, v141] h133) fun v142 h143 =>
ih 25 [a0] h143) (
intS .eql a12 (.int .u8 (.ofNat 12)) fun v144 =>
ifS v144 (
bindS (bldSl h [(0, (.str (us [114, 101, 116, 117, 114, 110])))] 9 1 1 (.str (us []))) fun v145 h146 =>
bindS (ih 46 [a0, v145] h146) fun v147 h148 =>
bindS (ih 98 [a0, a4, (.str (us [44]))] h148) fun v149 h150 =>
ih 25 [a0] h150) (
intS .eql a12 (.int .u8 (.ofNat 13)) fun v151 =>
ifS v151 (
bindS (bldSl h [(0, (.str (us [98, 114, 101, 97, 107])))] 9 1 1 (.str (us []))) fun v152 h153 =>
bindS (ih 46 [a0, v152] h153) fun v154 h155 =>
ih 25 [a0] h155) (
intS .eql a12 (.int .u8 (.ofNat 14)) fun v156 =>
ifS v156 (
addrS 2 a3 fun v157 =>
load1 v157 h fun v158 =>
bindS (bldSl h [(0, (.str (us [103, 111, 116, 111]))), (1, v158)] 9 2 1 (.str (us []))) fun v159 h160 =>
bindS (ih 46 [a0, v159] h160) fun v161 h162 =>
ih 25 [a0] h162) (
intS .eql a12 (.int .u8 (.ofNat 15)) fun v163 =>
ifS v163 (
addrS 2 a3 fun v164 =>
load1 v164 h fun v165 =>
bindS (bldSl h [(0, (.str (us [58, 58]))), (1, v165), (2, (.str (us [58, 58])))] 9 3 1 (.str (us []))) fun v166 h167 =>
bindS (ih 46 [a0, v166] h167) fun v168 h169 =>
ih 25 [a0] h169) (
ih 25 [a0] h))))))
noncomputable def G27 : Sh := fun ih vs h => consE (fun a0 => consE (fun a3 => consE (fun a4 => consE (fun a5 => consE (fun a12 => consE (fun a111 => nilE (B27 ih a0 a3 a4 a5 a12 a111 h))))))) vs
noncomputable def B29 (ih : Nat → List V → Hp → VH) (a0 a4 a5 : V) (h : Hp) : VH :=
bindS (slSlK 3 1 none (some a5) h a4) fun v170 h171 =>
bindS (ih 98 [a0, v170, (.str (us [44]))] h171) fun v172 h173 =>
bindS (bldSl h173 [(0, (.str (us [100, 111])))] 9 1 1 (.str (us []))) fun v174 h175 =>
bindS (ih 46 [a0, v174] h175) fun v176 h177 =>
idxS 1 a4 a5 fun v178 =>
load1 v178 h177 fun v179 =>
bindS (ih 20 [a0, v179] h177) fun v180 h181 =>
bindS (bldSl h181 [(0, (.str (us [101, 110, 100])))] 9 1 1 (.str (us []))) fun v182 h183 =>
bindS (ih 46 [a0, v182] h183) fun v184 h185 =>
ih 25 [a0] h185
noncomputable def G29 : Sh := fun ih vs h => consE (fun a0 => consE (fun a4 => consE (fun a5 => nilE (B29 ih a0 a4 a5 h)))) vs
noncomputable def B50 (ih : Nat → List V → Hp → VH) (a0 a1 : V) (h : Hp) : VH :=
newS 43 (vcells a1) h fun v0 h1 =>
addrS 4 v0 fun v2 =>
load1 v2 h1 fun v3 =>
addrS 0 v0 fun v4 =>
load1 v4 h1 fun v5 =>
intS .eql v5 (.int .u8 (.ofNat 20)) fun v6 =>
ifS v6 (
bindS (bldSl h1 [(0, (.str (us [110, 105, 108])))] 9 1 1 (.str (us []))) fun v7 h8 =>
bindS (ih 46 [a0, v7] h8) fun v9 h10 =>
some (.tuple [], h10)) (
intS .eql v5 (.int .u8 (.ofNat 21)) fun v11 =>
ifS v11 (
bindS (bldSl h1 [(0, (.str (us [116, 114, 117, 101])))] 9 1 1 (.str (us []))) fun v12 h13 =>
bindS (ih 46 [a0, v12] h13) fun v14 h15 =>
some (.tuple [], h15)) (
intS .eql v5 (.int .u8 (.ofNat 22)) fun v16 =>
ifS v16 (
bindS (bldSl h1 [(0, (.str (us [102, 97, 108, 115, 101])))] 9 1 1 (.str (us []))) fun v17 h18 =>
bindS (ih 46 [a0, v17] h18) fun v19 h20 =>
some (.tuple [], h20)) (
intS .eql v5 (.int .u8 (.ofNat 25)) fun v21 =>
ifS v21 (
bindS (bldSl h1 [(0, (.str (us [46, 46, 46])))] 9 1 1 (.str (us []))) fun v22 h23 =>
bindS (ih 46 [a0, v22] h23) fun v24 h25 =>
some (.tuple [], h25)) (
intS .eql v5 (.int .u8 (.ofNat 23)) fun v26 =>
ifS v26 (
addrS 1 v0 fun v27 =>
load1 v27 h1 fun v28 =>
bindS (ih 106 [v28] h1) fun v29 h30 =>
bindS (bldSl h30 [(0, v29)] 9 1 1 (.str (us []))) fun v31 h32 =>
bindS (ih 46 [a0, v31] h32) fun v33 h34 =>
some (.tuple [], h34)) (
intS .eql v5 (.int .u8 (.ofNat 24)) fun v35 =>
ifS v35 (
addrS 2 v0 fun v36 =>
load1 v36 h1 fun v37 =>
bindS (ih 108 [v37] h1) fun v38 h39 =>
bindS (bldSl h39 [(0, v38)] 9 1 1 (.str (us []))) fun v40 h41 =>
bindS (ih 46 [a0, v40] h41) fun v42 h43 =>
some (.tuple [], h43)) (
intS .eql v5 (.int .u8 (.ofNat 27)) fun v44 =>
ifS v44 (
addrS 2 v0 fun v45 =>
load1 v45 h1 fun v46 =>
bindS (bldSl h1 [(0, v46)] 9 1 1 (.str (us []))) fun v47 h48 =>
bindS (ih 46 [a0, v47] h48) fun v49 h50 =>
some (.tuple [], h50)) (
intS .eql v5 (.int .u8 (.ofNat 26)) fun v51 =>
ifS v51 (
bindS (bldSl h1 [(0, (.str (us [102, 117, 110, 99, 116, 105, 111, 110])))] 9 1 1 (.str (us []))) fun v52 h53 =>
bindS (ih 46 [a0, v52] h53) fun v54 h55 =>
loadN 6 v0 h55 fun v56 =>
bindS (ih 102 [a0, v56] h55) fun v57 h58 =>
some (.tuple [], h58)) (
intS .eql v5 (.int .u8 (.ofNat 28)) fun v59 =>
ifS v59 (
idxS 1 v3 (.int .i64 (.ofNat 0)) fun v60 =>
load1 v60 h1 fun v61 =>
bindS (ih 20 [a0, v61] h1) fun v62 h63 =>
bindS (bldSl h63 [(0, (.str (us [91])))] 9 1 1 (.str (us []))) fun v64 h65 =>
bindS (ih 46 [a0, v64] h65) fun v66 h67 =>
idxS 1 v3 (.int .i64 (.ofNat 1)) fun v68 =>
load1 v68 h67 fun v69 =>
bindS (ih 20 [a0, v69] h67) fun v70 h71 =>
bindS (bldSl h71 [(0, (.str (us [93])))] 9 1 1 (.str (us []))) fun v72 h73 =>
bindS (ih 46 [a0, v72] h73) fun v74 h75 =>
some (.tuple [], h75)) (
intS .eql v5 (.int .u8 (.ofNat 29)) fun v76 =>
ifS v76 (
ih 31 [a0, v0, v3, v5, v76] h1) (
intS .eql v5 (.int .u8 (.ofNat 30)) fun v77 =>
ih 31 [a0, v0, v3, v5, v77] h1))))))))))
noncomputable def G50 : Sh := fun ih vs h => consE (fun a0 => consE (fun a1 => nilE (B50 ih a0 a1 h))) vs
noncomputable def B31 (ih : Nat → List V → Hp → VH) (a0 a3 a4 a8 a78 : V) (h : Hp) : VH :=
ifS a78 (
idxS 1 a4 (.int .i64 (.ofNat 0)) fun v78 =>
load1 v78 h fun v79 =>
bindS (ih 20 [a0, v79] h) fun v80 h81 =>
addrS 0 a3 fun v82 =>
load1 v82 h81 fun v83 =>
intS .eql v83 (.int .u8 (.ofNat 30)) fun v84 =>
ifS v84 (
addrS 2 a3 fun v85 =>
load1 v85 h81 fun v86 =>
bindS (bldSl h81 [(0, (.str (us [58]))), (1, v86)] 9 2 1 (.str (us []))) fun v87 h88 =>
bindS (ih 46 [a0, v87] h88) fun v89 h90 =>
ih 33 [a0, a4] h90) (
ih 33 [a0, a4] h81)) (
intS .eql a8 (.int .u8 (.ofNat 34)) fun v91 =>
ifS v91 (
addrS 1 a3 fun v92 =>
load1 v92 h fun v93 =>
bindS (ih 48 [v93] h) fun v94 h95 =>
bindS (bldSl h95 [(0, v94)] 9 1 1 (.str (us []))) fun v96 h97 =>
bindS (ih 46 [a0, v96] h97) fun v98 h99 =>
idxS 1 a4 (.int .i64 (.ofNat 0)) fun v100 =>
load1 v100 h99 fun v101 =>
bindS (ih 20 [a0, v101] h99) fun v102 h103 =>
some (.tuple [], h103)) (
intS .eql a8 (.int .u8 (.ofNat 35)) fun v104 =>
ifS v104 (
bindS (bldSl h [(0, (.str (us [123])))] 9 1 1 (.str (us []))) fun v105 h106 =>
bindS (ih 46 [a0, v105] h106) fun v107 h108 =>
bindS (ih 98 [a0, a4, (.str (us [44]))] h108) fun v109 h110 =>
bindS (bldSl h110 [(0, (.str (us [125])))] 9 1 1 (.str (us []))) fun v111 h112 =>
bindS (ih 46 [a0, v111] h112) fun v113 h114 =>
some (.tuple [], h114)) (
intS .eql a8 (.int .u8 (.ofNat 36)) fun v115 =>
ifS v115 (
idxS 1 a4 (.int .i64 (.ofNat 0)) fun v116 =>
load1 v116 h fun v117 =>
bindS (ih 20 [a0, v117] h) fun v118 h119 =>
some (.tuple [], h119)) (
intS .eql a8 (.int .u8 (.ofNat 37)) fun v120 =>
ifS v120 (
bindS (bldSl h [(0, (.str (us [91])))] 9 1 1 (.str (us []))) fun v121 h122 =>
bindS (ih 46 [a0, v121] h122) fun v123 h124 =>
idxS 1 a4 (.int .i64 (.ofNat 0)) fun v125 =>
load1 v125 h124 fun v126 =>
bindS (ih 20 [a0, v126] h124) fun v127 h128 =>
bindS (bldSl h128 [(0, (.str (us [93]))), (1, (.str (us [61])))] 9 2 1 (.str (us []))) fun v129 h130 =>
bindS (ih 46 [a0, v129] h130) fun v131 h132 =>
idxS 1 a4 (.int .i64 (.ofNat 1)) fun v133 =>
load1 v133 h132 fun v134 =>
bindS (ih 20 [a0, v134] h132) fun v135 h136 =>
some (.tuple [], h136)) (
intS .eql a8 (.int .u8 (.ofNat 38)) fun v137 =>
ifS v137 (
bindS (bldSl h [(0, (.str (us [40])))] 9 1 1 (.str (us []))) fun v138 h139 =>
bindS (ih 46 [a0, v138] h139) fun v140 h141 =>
idxS 1 a4 (.int .i64 (.ofNat 0)) fun v142 =>
load1 v142 h141 fun v143 =>
bindS (ih 20 [a0, v143] h141) fun v144 h145 =>
bindS (bldSl h145 [(0, (.str (us [41])))] 9 1 1 (.str (us []))) fun v146 h147 =>
bindS (ih 46 [a0, v146] h147) fun v148 h149 =>
some (.tuple [], h149)) (
some (.tuple [], h)))))))
noncomputable def G31 : Sh := fun ih vs h => consE (fun a0 => consE (fun a3 => consE (fun a4 => consE (fun a8 => consE (fun a78 => nilE (B31 ih a0 a3 a4 a8 a78 h)))))) vs
noncomputable def B33 (ih : Nat → List V → Hp → VH) (a0 a4 : V) (h : Hp) : VH :=
bindS (bldSl h [(0, (.str (us [40])))] 9 1 1 (.str (us []))) fun v150 h151 =>
bindS (ih 46 [a0, v150] h151) fun v152 h153 =>
bindS (slSlK 3 1 (some (.int .i64 (.ofNat 1))) none h153 a4) fun v154 h155 =>
bindS (ih 98 [a0, v154, (.str (us [44]))] h155) fun v156 h157 =>
bindS (bldSl h157 [(0, (.str (us [41])))] 9 1 1 (.str (us []))) fun v158 h159 =>
bindS (ih 46 [a0, v158] h159) fun v160 h161 =>
some (.tuple [], h161)
noncomputable def G33 : Sh := fun ih vs h => consE (fun a0 => consE (fun a4 => nilE (B33 ih a0 a4 h))) vs
noncomputable def B46 (ih : Nat → List V → Hp → VH) (a0 a1 : V) (h : Hp) : VH :=
lenSl a1 fun v0 =>
ih 35 [a0, a1, v0, (.int .i64 (.ofNat 0))] h
noncomputable def G46 : Sh := fun ih vs h => consE (fun a0 => consE (fun a1 => nilE (B46 ih a0 a1 h))) vs
noncomputable def B35 (ih : Nat → List V → Hp → VH) (a0 a6 a7 a8 : V) (h : Hp) : VH :=
intS .lss a8 a7 fun v1 =>
ifS v1 (
idxS 1 a6 a8 fun v2 =>
load1 v2 h fun v3 =>
nilS a0 fun v4 =>
addrS 3 v4 fun v5 =>
load1 v5 h fun v6 =>
lenStr v3 fun v7 =>
intS .add v7 (.int .i64 (.ofNat 1)) fun v8 =>
intS .add v6 v8 fun v9 =>
nilS a0 fun v10 =>
addrS 3 v10 fun v11 =>
storeC v11 v9 h fun h12 =>
nilS a0 fun v13 =>
addrS 3 v13 fun v14 =>
load1 v14 h12 fun v15 =>
intS .leq v15 (.int .i64 (.ofNat 65536)) fun v16 =>
ifS v16 (
nilS a0 fun v17 =>
addrS 2 v17 fun v18 =>
load1 v18 h12 fun v19 =>
bindS (bldSl h12 [(0, v3)] 9 1 1 (.str (us []))) fun v20 h21 =>
bindS (appS 9 16 1 v19 v20 h21) fun v22 h23 =>
nilS a0 fun v24 =>
addrS 2 v24 fun v25 =>
storeC v25 v22 h23 fun h26 =>
ih 37 [a0, a6, a7, a8] h26) (
ih 37 [a0, a6, a7, a8] h12)) (
some (.tuple [], h))
noncomputable def G35 : Sh := fun ih vs h => consE (fun a0 => consE (fun a6 => consE (fun a7 => consE (fun a8 => nilE (B35 ih a0 a6 a7 a8 h))))) vs
noncomputable def B37 (ih : Nat → List V → Hp → VH) (a0 a6 a7 a8 : V) (h : Hp) : VH :=
intS .add a8 (.int .i64 (.ofNat 1)) fun v27 =>
ih 35 [a0, a6, a7, v27] h
noncomputable def G37 : Sh := fun ih vs h => consE (fun a0 => consE (fun a6 => consE (fun a7 => consE (fun a8 => nilE (B37 ih a0 a6 a7 a8 h))))) vs
noncomputable def B48 (ih : Nat → List V → Hp → VH) (a0 : V) (h : Hp) : VH :=
bindS (ih 104 [(.str (us [43, 32, 45, 32, 42, 32, 47, 47, 32, 37, 32, 38, 32, 124, 32, 126, 32, 60, 60, 32, 62, 62, 32, 46, 46, 32, 61, 61, 32, 126, 61, 32, 60, 32, 60, 61, 32, 62, 32, 62, 61, 32, 45, 32, 110, 111, 116, 32, 35, 32, 126]))] h) fun v0 h1 =>
intS .sub a0 (.int .i64 (.ofNat 1)) fun v2 =>
idxS 1 v0 v2 fun v3 =>
load1 v3 h1 fun v4 =>
some (v4, h1)
noncomputable def G48 : Sh := fun ih vs h => consE (fun a0 => nilE (B48 ih a0 h)) vs
noncomputable def B40 (ih : Nat → List V → Hp → VH) (a0 a1 : V) (h : Hp) : VH :=
newS 60 (vcells a0) h fun v0 h1 =>
newS 43 (vcells a1) h1 fun v2 h3 =>
addrS 5 v2 fun v4 =>
load1 v4 h3 fun v5 =>
intS .lss v5 (.int .i64 (.ofNat 1)) fun v6 =>
ifS v6 (
some ((.bool false), h3)) (
addrS 0 v2 fun v7 =>
load1 v7 h3 fun v8 =>
intS .eql v8 (.int .u8 (.ofNat 1)) fun v9 =>
ifS v9 (
addrS 4 v2 fun v10 =>
load1 v10 h3 fun v11 =>
lenSl v11 fun v12 =>
intS .sub v12 (.int .i64 (.ofNat 1)) fun v13 =>
loadN 6 v2 h3 fun v14 =>
bindS (ih 78 [v14, (.bool false), (.bool false), (.bool false)] h3) fun v15 h16 =>
guardS v15 true (loadN 2 v0 h16 fun v17 =>
some (v17, h16)) h16 fun v18 h19 =>
guardS v15 true (loadN 6 v2 h19 fun v20 =>
some (v20, h19)) h19 fun v21 h22 =>
guardS v15 true (some (v13, h22)) h22 fun v23 h24 =>
guardS v15 true (intS .add v23 (.int .i64 (.ofNat 1)) fun v25 =>
some (v25, h24)) h24 fun v26 h27 =>
guardS v15 true (bindS (ih 80 [v18, v21, (.int .i64 (.ofNat 0)), v26, (.func 41 [] [])] h27) fun v28 h29 =>
some (v28, h29)) h27 fun v30 h31 =>
optS (pickV v15 v30 (.bool false)) fun v32 =>
guardS v32 true (loadN 2 v0 h31 fun v33 =>
some (v33, h31)) h31 fun v34 h35 =>
guardS v32 true (loadN 6 v2 h35 fun v36 =>
some (v36, h35)) h35 fun v37 h38 =>
guardS v32 true (some (v13, h38)) h38 fun v39 h40 =>
guardS v32 true (bindS (ih 80 [v34, v37, (.int .i64 (.ofNat 0)), v39, (.func 42 [] [])] h40) fun v41 h42 =>
some (v41, h42)) h40 fun v43 h44 =>
optS (pickV v32 v43 (.bool false)) fun v45 =>
some (v45, h44)) (
addrS 0 v2 fun v46 =>
load1 v46 h3 fun v47 =>
bindS (ih 82 [v47] h3) fun v48 h49 =>
ifS v48 (
loadN 2 v0 h49 fun v50 =>
loadN 6 v2 h49 fun v51 =>
bindS (ih 86 [v50, v51] h49) fun v52 h53 =>
some (v52, h53)) (
addrS 0 v2 fun v54 =>
load1 v54 h49 fun v55 =>
bindS (ih 88 [v55] h49) fun v56 h57 =>
guardS v56 false (addrS 0 v2 fun v58 =>
some (v58, h57)) h57 fun v59 h60 =>
guardS v56 false (load1 v59 h60 fun v61 =>
some (v61, h60)) h60 fun v62 h63 =>
guardS v56 false (intS .eql v62 (.int .u8 (.ofNat 36)) fun v64 =>
some (v64, h63)) h63 fun v65 h66 =>
optS (pickV v56 (.bool true) v65) fun v67 =>
guardS v67 false (addrS 0 v2 fun v68 =>
some (v68, h66)) h66 fun v69 h70 =>
guardS v67 false (load1 v69 h70 fun v71 =>
some (v71, h70)) h70 fun v72 h73 =>
guardS v67 false (intS .eql v72 (.int .u8 (.ofNat 37)) fun v74 =>
some (v74, h73)) h73 fun v75 h76 =>
optS (pickV v67 (.bool true) v75) fun v77 =>
ifS v77 (
loadN 2 v0 h76 fun v78 =>
loadN 6 v2 h76 fun v79 =>
bindS (ih 90 [v78, v79] h76) fun v80 h81 =>
guardS v80 true (loadN 2 v0 h81 fun v82 =>
some (v82, h81)) h81 fun v83 h84 =>
guardS v80 true (loadN 6 v2 h84 fun v85 =>
some (v85, h84)) h84 fun v86 h87 =>
guardS v80 true (bindS (ih 92 [v83, v86] h87) fun v88 h89 =>
some (v88, h89)) h87 fun v90 h91 =>
optS (pickV v80 v90 (.bool false)) fun v92 =>
some (v92, h91)) (
some ((.bool false), h76)))))
noncomputable def G40 : Sh := fun ih vs h => consE (fun a0 => consE (fun a1 => nilE (B40 ih a0 a1 h))) vs
noncomputable def B38 (ih : Nat → List V → Hp → VH) (a0 a1 a2 : V) (h : Hp) : VH :=
newS 43 (vcells a0) h fun v0 h1 =>
addrS 0 v0 fun v2 =>
load1 v2 h1 fun v3 =>
intS .eql v3 (.int .u8 (.ofNat 28)) fun v4 =>
ifS v4 (
ih 41 [a1, a2, v3, v4] h1) (
intS .eql v3 (.int .u8 (.ofNat 29)) fun v5 =>
ifS v5 (
ih 41 [a1, a2, v3, v5] h1) (
intS .eql v3 (.int .u8 (.ofNat 30)) fun v6 =>
ifS v6 (
ih 41 [a1, a2, v3, v6] h1) (
intS .eql v3 (.int .u8 (.ofNat 31)) fun v7 =>
ifS v7 (
ih 41 [a1, a2, v3, v7] h1) (
intS .eql v3 (.int .u8 (.ofNat 32)) fun v8 =>
ifS v8 (
ih 41 [a1, a2, v3, v8] h1) (
intS .eql v3 (.int .u8 (.ofNat 33)) fun v9 =>
ih 41 [a1, a2, v3, v9] h1)))))
noncomputable def G38 : Sh := fun ih vs h => consE (fun a0 => consE (fun a1 => consE (fun a2 => nilE (B38 ih a0 a1 a2 h)))) vs
noncomputable def B39 (ih : Nat → List V → Hp → VH) (a2 : V) (h : Hp) : VH :=
intS .add a2 (.int .i64 (.ofNat 1)) fun v10 =>
some (v10, h)
noncomputable def G39 : Sh := fun ih vs h => consE (fun a2 => nilE (B39 ih a2 h)) vs
noncomputable def B41 (ih : Nat → List V → Hp → VH) (a1 a2 a8 a9 : V) (h : Hp) : VH :=
ifS a9 (
intS .eql a1 (.int .i64 (.ofNat 0)) fun v11 =>
ifS v11 (
some (a2, h)) (
ih 39 [a2] h)) (
intS .eql a8 (.int .u8 (.ofNat 35)) fun v12 =>
ifS v12 (
ih 43 [a2, v12] h) (
intS .eql a8 (.int .u8 (.ofNat 1)) fun v13 =>
ih 43 [a2, v13] h))
noncomputable def G41 : Sh := fun ih vs h => consE (fun a1 => consE (fun a2 => consE (fun a8 => consE (fun a9 => nilE (B41 ih a1 a2 a8 a9 h))))) vs
noncomputable def B43 (ih : Nat → List V → Hp → VH) (a2 a19 : V) (h : Hp) : VH :=
ifS a19 (
some (a2, h)) (
ih 39 [a2] h)
noncomputable def G43 : Sh := fun ih vs h => consE (fun a2 => consE (fun a19 => nilE (B43 ih a2 a19 h))) vs
noncomputable def B42 (ih : Nat → List V → Hp → VH) (a0 a1 : V) (h : Hp) : VH :=
bindS (ih 94 [a0, a1] h) fun v0 h1 =>
intS .geq v0 (.int .i64 (.ofNat 0)) fun v2 =>
some (v2, h1)
noncomputable def G42 : Sh := fun ih vs h => consE (fun a0 => consE (fun a1 => nilE (B42 ih a0 a1 h))) vs
noncomputable def B36 (ih : Nat → List V → Hp → VH) (a0 : V) (h : Hp) : VH :=
nilS a0 fun v0 =>
addrS 2 v0 fun v1 =>
addrS 0 v1 fun v2 =>
load1 v2 h fun v3 =>
intS .neq v3 (.int .i64 (.ofNat 0)) fun v4 =>
some (v4, h)
noncomputable def G36 : Sh := fun ih vs h => consE (fun a0 => nilE (B36 ih a0 h)) vs
noncomputable def B34 (ih : Nat → List V → Hp → VH) (a0 a1 : V) (h : Hp) : VH :=
newS 43 (vcells a1) h fun v0 h1 =>
bindS (ih 36 [a0] h1) fun v2 h3 =>
ifS v2 (
some ((.int .i64 (.ofNat 0)), h3)) (
nilS a0 fun v4 =>
addrS 1 v4 fun v5 =>
load1 v5 h3 fun v6 =>
lenSl v6 fun v7 =>
intS .geq v7 (.int .i64 (.ofNat 4096)) fun v8 =>
ifS v8 (
bindS (ih 32 [a0, (.int .i64 (.ofNat 3))] h3) fun v9 h10 =>
some ((.int .i64 (.ofNat 0)), h10)) (
nilS a0 fun v11 =>
addrS 1 v11 fun v12 =>
load1 v12 h3 fun v13 =>
loadN 6 v0 h3 fun v14 =>
bindS (bldSl ⟨h3.t, h3.n, h3.n⟩ [(0, v14)] 43 1 6 (.agg [(.int .u8 (.ofNat 0)), (.int .i64 (.ofNat 0)), (.str (us [])), .nilSlice, .nilSlice, (.int .i64 (.ofNat 0))])) fun v15 h16 =>
madeS h3.n h3.low h16 fun h17 =>
bindS (appS 43 88 6 v13 v15 ⟨h17.t, h17.n, h17.n⟩) fun v18 h19 =>
wroteS h17.low h19 fun h20 =>
nilS a0 fun v21 =>
addrS 1 v21 fun v22 =>
storeC v22 v18 h20 fun h23 =>
nilS a0 fun v24 =>
addrS 1 v24 fun v25 =>
load1 v25 h23 fun v26 =>
lenSl v26 fun v27 =>
intS .sub v27 (.int .i64 (.ofNat 1)) fun v28 =>
some (v28, h23)))
noncomputable def G34 : Sh := fun ih vs h => consE (fun a0 => consE (fun a1 => nilE (B34 ih a0 a1 h))) vs
noncomputable def B32 (ih : Nat → List V → Hp → VH) (a0 a1 : V) (h : Hp) : VH :=
bindS (ih 36 [a0] h) fun v0 h1 =>
notS v0 fun v2 =>
ifS v2 (
bindS (ih 66 [a0] h1) fun v3 h4 =>
bindS (bldStruct h4 [(0, a1), (1, v3)] (.agg [(.int .i64 (.ofNat 0)), (.int .i64 (.ofNat 0))]) (some [(0, 1), (1, 1)])) fun v5 h6 =>
nilS a0 fun v7 =>
addrS 2 v7 fun v8 =>
storeN 2 v8 v5 h6 fun h9 =>
some (.tuple [], h9)) (
some (.tuple [], h1))
noncomputable def G32 : Sh := fun ih vs h => consE (fun a0 => consE (fun a1 => nilE (B32 ih a0 a1 h))) vs
noncomputable def B30 (ih : Nat → List V → Hp → VH) (a0 a1 : V) (h : Hp) : VH :=
bindS (ih 36 [a0] h) fun v0 h1 =>
notS v0 fun v2 =>
guardS v2 true (some (a0, h1)) h1 fun v3 h4 =>
guardS v2 true (nilS v3 fun v5 =>
some (v5, h4)) h4 fun v6 h7 =>
guardS v2 true (addrS 0 v6 fun v8 =>
some (v8, h7)) h7 fun v9 h10 =>
guardS v2 true (load1 v9 h10 fun v11 =>
some (v11, h10)) h10 fun v12 h13 =>
guardS v2 true (idxS 4 v12 (.int .i64 (.ofNat 0)) fun v14 =>
some (v14, h13)) h13 fun v15 h16 =>
guardS v2 true (addrS 0 v15 fun v17 =>
some (v17, h16)) h16 fun v18 h19 =>
guardS v2 true (load1 v18 h19 fun v20 =>
some (v20, h19)) h19 fun v21 h22 =>
guardS v2 true (some (a1, h22)) h22 fun v23 h24 =>
guardS v2 true (intS .eql v21 v23 fun v25 =>
some (v25, h24)) h24 fun v26 h27 =>
optS (pickV v2 v26 (.bool false)) fun v28 =>
some (v28, h27)
noncomputable def G30 : Sh := fun ih vs h => consE (fun a0 => consE (fun a1 => nilE (B30 ih a0 a1 h))) vs
noncomputable def B28 (ih : Nat → List V → Hp → VH) (a0 a1 : V) (h : Hp) : VH :=
bindS (ih 66 [a0] h) fun v0 h1 =>
bindS (bldStruct h1 [(0, (.int .u8 (.ofNat 1))), (5, v0)] (.agg [(.int .u8 (.ofNat 0)), (.int .i64 (.ofNat 0)), (.str (us [])), .nilSlice, .nilSlice, (.int .i64 (.ofNat 0))]) (some [(0, 1), (1, 1), (2, 1), (3, 1), (4, 1), (5, 1)])) fun v2 h3 =>
newS 43 [(.int .u8 (.ofNat 0)), (.int .i64 (.ofNat 0)), (.str (us [])), .nilSlice, .nilSlice, (.int .i64 (.ofNat 0))] h3 fun v4 h5 =>
storeN 6 v4 v2 h5 fun h6 =>
bindS (ih 68 [a0, a1] h6) fun v7 h8 =>
ih 47 [a0, a1, v4] h8
noncomputable def G28 : Sh := fun ih vs h => consE (fun a0 => consE (fun a1 => nilE (B28 ih a0 a1 h))) vs
noncomputable def B45 (ih : Nat → List V → Hp → VH) (a0 a5 : V) (h : Hp) : VH :=
loadN 6 a5 h fun v9 =>
bindS (ih 34 [a0, v9] h) fun v10 h11 =>
some (v10, h11)
noncomputable def G45 : Sh := fun ih vs h => consE (fun a0 => consE (fun a5 => nilE (B45 ih a0 a5 h))) vs
noncomputable def B47 (ih : Nat → List V → Hp → VH) (a0 a1 a5 : V) (h : Hp) : VH :=
bindS (ih 36 [a0] h) fun v12 h13 =>
notS v12 fun v14 =>
guardS v14 true (some (a0, h13)) h13 fun v15 h16 =>
guardS v14 true (bindS (ih 70 [v15] h16) fun v17 h18 =>
some (v17, h18)) h16 fun v19 h20 =>
guardS v14 true (notS v19 fun v21 =>
some (v21, h20)) h20 fun v22 h23 =>
optS (pickV v14 v22 (.bool false)) fun v24 =>
ifS v24 (
bindS (ih 72 [a0, (.str (us [59]))] h23) fun v25 h26 =>
ifS v25 (
bindS (ih 74 [a0] h26) fun v27 h28 =>
ih 47 [a0, a1, a5] h28) (
bindS (ih 72 [a0, (.str (us [114, 101, 116, 117, 114, 110]))] h26) fun v29 h30 =>
addrS 4 a5 fun v31 =>
load1 v31 h30 fun v32 =>
intS .add a1 (.int .i64 (.ofNat 1)) fun v33 =>
bindS (ih 76 [a0, v33] ⟨h30.t, h30.n, h30.n⟩) fun v34 h35 =>
cD ((pureB h30 h35 || sameA h30 h35 v31 (vcells v32).length) && true) (
wroteS h30.low h35 fun h36 =>
bindS (bldSl ⟨h36.t, h36.n, h36.n⟩ [(0, v34)] 3 1 1 (.int .i64 (.ofNat 0))) fun v37 h38 =>
madeS h36.n h36.low h38 fun h39 =>
bindS (appS 3 8 1 v32 v37 h39) fun v40 h41 =>
addrS 4 a5 fun v42 =>
storeC v42 v40 h41 fun h43 =>
ifS v29 (
ih 45 [a0, a5] h43) (
ih 47 [a0, a1, a5] h43)) none)) (
ih 45 [a0, a5] h23)
noncomputable def G47 : Sh := fun ih vs h => consE (fun a0 => consE (fun a1 => consE (fun a5 => nilE (B47 ih a0 a1 a5 h)))) vs
noncomputable def B26 (ih : Nat → List V → Hp → VH) (a0 : V) (h : Hp) : VH :=
newS 31 [(.int .i64 (.ofNat 0)), (.int .i64 (.ofNat 0))] h fun v0 h1 =>
lenStr a0 fun v2 =>
intS .gtr v2 (.int .i64 (.ofNat 65535)) fun v3 =>
ifS v3 (
bindS (bldStruct h1 [(0, (.int .i64 (.ofNat 3)))] (.agg [(.int .i64 (.ofNat 0)), (.int .i64 (.ofNat 0))]) (some [(0, 1), (1, 1)])) fun v4 h5 =>
storeN 2 v0 v4 h5 fun h6 =>
loadN 2 v0 h6 fun v7 =>
some (.tuple [.nilSlice, v7], h6)) (
ih 49 [a0, v0, .nilSlice, (.int .i64 (.ofNat 1)), (.int .i64 (.ofNat 0))] h1)
noncomputable def G26 : Sh := fun ih vs h => consE (fun a0 => nilE (B26 ih a0 h)) vs
noncomputable def B49 (ih : Nat → List V → Hp → VH) (a0 a3 a4 a5 a6 : V) (h : Hp) : VH :=
ih 51 [a0, a3, a4, a5, a6, (.int .i64 (.ofNat 0))] h
noncomputable def G49 : Sh := fun ih vs h => consE (fun a0 => consE (fun a3 => consE (fun a4 => consE (fun a5 => consE (fun a6 => nilE (B49 ih a0 a3 a4 a5 a6 h)))))) vs
noncomputable def B51 (ih : Nat → List V → Hp → VH) (a0 a3 a4 a5 a6 a7 : V) (h : Hp) : VH :=
intS .add a6 a7 fun v8 =>
lenStr a0 fun v9 =>
intS .lss v8 v9 fun v10 =>
guardS v10 true (some (a0, h)) h fun v11 h12 =>
guardS v10 true (some (a6, h12)) h12 fun v13 h14 =>
guardS v10 true (some (a7, h14)) h14 fun v15 h16 =>
guardS v10 true (intS .add v13 v15 fun v17 =>
some (v17, h16)) h16 fun v18 h19 =>
guardS v10 true (idxStr v11 v18 fun v20 =>
some (v20, h19)) h19 fun v21 h22 =>
guardS v10 true (bindS (ih 58 [v21] h22) fun v23 h24 =>
some (v23, h24)) h22 fun v25 h26 =>
optS (pickV v10 v25 (.bool false)) fun v27 =>
ifS v27 (
intS .add a7 (.int .i64 (.ofNat 1)) fun v28 =>
ih 51 [a0, a3, a4, a5, a6, v28] h26) (
intS .add a6 a7 fun v29 =>
slStrK (some a6) (some v29) a0 fun v30 =>
bindS (ih 60 [v30] h26) fun v31 h32 =>
intS .add a5 v31 fun v33 =>
intS .add a6 a7 fun v34 =>
lenStr a0 fun v35 =>
intS .eql v34 v35 fun v36 =>
ifS v36 (
bindS (bldStruct h32 [(0, (.int .u8 (.ofNat 6))), (3, v33)] (.agg [(.int .u8 (.ofNat 0)), (.str (us [])), (.int .i64 (.ofNat 0)), (.int .i64 (.ofNat 0))]) (some [(0, 1), (1, 1), (2, 1), (3, 1)])) fun v37 h38 =>
bindS (bldSl h38 [(0, v37)] 81 1 4 (.agg [(.int .u8 (.ofNat 0)), (.str (us [])), (.int .i64 (.ofNat 0)), (.int .i64 (.ofNat 0))])) fun v39 h40 =>
bindS (appS 81 40 4 a4 v39 h40) fun v41 h42 =>
bindS (bldStruct h42 [] (.agg [(.int .i64 (.ofNat 0)), (.int .i64 (.ofNat 0))]) (some [(0, 1), (1, 1)])) fun v43 h44 =>
storeN 2 a3 v43 h44 fun h45 =>
loadN 2 a3 h45 fun v46 =>
some (.tuple [v41, v46], h45)) (
bindS (ih 62 [a0, v34] h32) fun v47 h48 =>
extS 0 v47 fun v49 =>
extS 1 v47 fun v50 =>
ifS v50 (
intS .eql v49 (.int .i64 (.ofNat 0)) fun v51 =>
ifS v51 (
bindS (bldStruct h48 [(0, (.int .i64 (.ofNat 30))), (1, v33)] (.agg [(.int .i64 (.ofNat 0)), (.int .i64 (.ofNat 0))]) (some [(0, 1), (1, 1)])) fun v52 h53 =>
storeN 2 a3 v52 h53 fun h54 =>
loadN 2 a3 h54 fun v55 =>
some (.tuple [.nilSlice, v55], h54)) (
ih 53 [a0, a3, a4, v33, v34, v49] h48)) (
bindS (ih 64 [a0, v34] h48) fun v56 h57 =>
extS 0 v56 fun v58 =>
extS 1 v56 fun v59 =>
extS 2 v56 fun v60 =>
newS 81 [(.int .u8 (.ofNat 0)), (.str (us [])), (.int .i64 (.ofNat 0)), (.int .i64 (.ofNat 0))] h57 fun v61 h62 =>
storeN 4 v61 v58 h62 fun h63 =>
intS .neq v60 (.int .i64 (.ofNat 0)) fun v64 =>
ifS v64 (
bindS (bldStruct h63 [(0, v60), (1, v33)] (.agg [(.int .i64 (.ofNat 0)), (.int .i64 (.ofNat 0))]) (some [(0, 1), (1, 1)])) fun v65 h66 =>
storeN 2 a3 v65 h66 fun h67 =>
loadN 2 a3 h67 fun v68 =>
some (.tuple [.nilSlice, v68], h67)) (
addrS 3 v61 fun v69 =>
storeC v69 v33 h63 fun h70 =>
loadN 4 v61 h70 fun v71 =>
bindS (bldSl h70 [(0, v71)] 81 1 4 (.agg [(.int .u8 (.ofNat 0)), (.str (us [])), (.int .i64 (.ofNat 0)), (.int .i64 (.ofNat 0))])) fun v72 h73 =>
bindS (appS 81 40 4 a4 v72 h73) fun v74 h75 =>
ih 53 [a0, a3, v74, v33, v34, v59] h75))))
noncomputable def G51 : Sh := fun ih vs h => consE (fun a0 => consE (fun a3 => consE (fun a4 => consE (fun a5 => consE (fun a6 => consE (fun a7 => nilE (B51 ih a0 a3 a4 a5 a6 a7 h))))))) vs
noncomputable def B53 (ih : Nat → List V → Hp → VH) (a0 a3 a4 a5 a6 a7 : V) (h : Hp) : VH :=
intS .add a6 a7 fun v76 =>
slStrK (some a6) (some v76) a0 fun v77 =>
bindS (ih 60 [v77] h) fun v78 h79 =>
intS .add a5 v78 fun v80 =>
intS .add a6 a7 fun v81 =>
ih 49 [a0, a3, a4, v80, v81] h79
noncomputable def G53 : Sh := fun ih vs h => consE (fun a0 => consE (fun a3 => consE (fun a4 => consE (fun a5 => consE (fun a6 => consE (fun a7 => nilE (B53 ih a0 a3 a4 a5 a6 a7 h))))))) vs
noncomputable def B110 (ih : Nat → List V → Hp → VH) (a0 : V) (h : Hp) : VH :=
nilS a0 fun v0 =>
addrS 0 v0 fun v1 =>
load1 v1 h fun v2 =>
eqS (.pointer 72) .eql v2 .nilPtr fun v3 =>
ifS v3 (
bindS (vh h (bareV h a0)) fun v4 h5 =>
bindS (ih 188 [v4] h5) fun v6 h7 =>
bindS (vh h7 (typedV h7 72 2 v6)) fun v8 h9 =>
nilS a0 fun v10 =>
addrS 0 v10 fun v11 =>
storeC v11 v8 h9 fun h12 =>
some (.tuple [], h12)) (
nilS a0 fun v13 =>
addrS 0 v13 fun v14 =>
load1 v14 h fun v15 =>
bindS (vh h (eqOp .neq (cmpP true v15 a0))) fun v16 h17 =>
ifS v16 (
none) (
some (.tuple [], h17)))
noncomputable def G110 : Sh := fun ih vs h => consE (fun a0 => nilE (B110 ih a0 h)) vs
noncomputable def B112 (ih : Nat → List V → Hp → VH) (a0 a1 : V) (h : Hp) : VH :=
nilS a0 fun v0 =>
addrS 1 v0 fun v1 =>
load1 v1 h fun v2 =>
bindS (vh h (capV v2)) fun v3 h4 =>
intS .mul (.int .i64 (.ofNat 2)) v3 fun v5 =>
intS .add v5 a1 fun v6 =>
bindS (ih 190 [v6] ⟨h.t, h.n, h.n⟩) fun v7 h8 =>
wroteS h.low h8 fun h9 =>
nilS a0 fun v10 =>
addrS 1 v10 fun v11 =>
cD ((pureB h h8) && true) (
load1 v11 h fun v12 =>
cD ((pureB h h8) && true) (
lenSl v12 fun v13 =>
bindS (slSlK 5 1 none (some v13) h9 v7) fun v14 h15 =>
nilS a0 fun v16 =>
addrS 1 v16 fun v17 =>
load1 v17 h15 fun v18 =>
bindS (cpN h15 1 v14 v18) fun v19 h20 =>
nilS a0 fun v21 =>
addrS 1 v21 fun v22 =>
storeC v22 v14 h20 fun h23 =>
some (.tuple [], h23)) none) none
noncomputable def G112 : Sh := fun ih vs h => consE (fun a0 => consE (fun a1 => nilE (B112 ih a0 a1 h))) vs
noncomputable def B98 (ih : Nat → List V → Hp → VH) (a0 a1 a2 : V) (h : Hp) : VH :=
lenSl a1 fun v0 =>
ih 55 [a0, a2, a1, v0, (.int .i64 (.ofNat 0))] h
noncomputable def G98 : Sh := fun ih vs h => consE (fun a0 => consE (fun a1 => consE (fun a2 => nilE (B98 ih a0 a1 a2 h)))) vs
noncomputable def B55 (ih : Nat → List V → Hp → VH) (a0 a2 a8 a9 a10 : V) (h : Hp) : VH :=
intS .lss a10 a9 fun v1 =>
ifS v1 (
idxS 1 a8 a10 fun v2 =>
load1 v2 h fun v3 =>
intS .gtr a10 (.int .i64 (.ofNat 0)) fun v4 =>
ifS v4 (
bindS (bldSl h [(0, a2)] 9 1 1 (.str (us []))) fun v5 h6 =>
bindS (ih 46 [a0, v5] h6) fun v7 h8 =>
ih 57 [a0, a2, v3, a8, a9, a10] h8) (
ih 57 [a0, a2, v3, a8, a9, a10] h)) (
some (.tuple [], h))
noncomputable def G55 : Sh := fun ih vs h => consE (fun a0 => consE (fun a2 => consE (fun a8 => consE (fun a9 => consE (fun a10 => nilE (B55 ih a0 a2 a8 a9 a10 h)))))) vs
noncomputable def B57 (ih : Nat → List V → Hp → VH) (a0 a2 a7 a8 a9 a10 : V) (h : Hp) : VH :=
bindS (ih 20 [a0, a7] h) fun v9 h10 =>
intS .add a10 (.int .i64 (.ofNat 1)) fun v11 =>
ih 55 [a0, a2, a8, a9, v11] h10
noncomputable def G57 : Sh := fun ih vs h => consE (fun a0 => consE (fun a2 => consE (fun a7 => consE (fun a8 => consE (fun a9 => consE (fun a10 => nilE (B57 ih a0 a2 a7 a8 a9 a10 h))))))) vs
noncomputable def B102 (ih : Nat → List V → Hp → VH) (a0 a1 : V) (h : Hp) : VH :=
newS 43 (vcells a1) h fun v0 h1 =>
bindS (bldSl h1 [(0, (.str (us [40])))] 9 1 1 (.str (us []))) fun v2 h3 =>
bindS (ih 46 [a0, v2] h3) fun v4 h5 =>
addrS 3 v0 fun v6 =>
load1 v6 h5 fun v7 =>
addrS 1 v0 fun v8 =>
load1 v8 h5 fun v9 =>
intS .eql v9 (.int .i64 (.ofNat 1)) fun v10 =>
ifS v10 (
bindS (bldSl h5 [] 9 0 1 (.str (us []))) fun v11 h12 =>
bindS (appS 9 16 1 v11 v7 h12) fun v13 h14 =>
bindS (bldSl h14 [(0, (.str (us [46, 46, 46])))] 9 1 1 (.str (us []))) fun v15 h16 =>
bindS (appS 9 16 1 v13 v15 h16) fun v17 h18 =>
ih 59 [a0, v0, v17] h18) (
ih 59 [a0, v0, v7] h5)
noncomputable def G102 : Sh := fun ih vs h => consE (fun a0 => consE (fun a1 => nilE (B102 ih a0 a1 h))) vs
noncomputable def B59 (ih : Nat → List V → Hp → VH) (a0 a3 a4 : V) (h : Hp) : VH :=
lenSl a4 fun v19 =>
intS .gtr v19 (.int .i64 (.ofNat 0)) fun v20 =>
ifS v20 (
bindS (ih 96 [a0, a4] h) fun v21 h22 =>
ih 61 [a0, a3] h22) (
ih 61 [a0, a3] h)
noncomputable def G59 : Sh := fun ih vs h => consE (fun a0 => consE (fun a3 => consE (fun a4 => nilE (B59 ih a0 a3 a4 h)))) vs
noncomputable def B61 (ih : Nat → List V → Hp → VH) (a0 a3 : V) (h : Hp) : VH :=
bindS (bldSl h [(0, (.str (us [41])))] 9 1 1 (.str (us []))) fun v23 h24 =>
bindS (ih 46 [a0, v23] h24) fun v25 h26 =>
addrS 4 a3 fun v27 =>
load1 v27 h26 fun v28 =>
idxS 1 v28 (.int .i64 (.ofNat 0)) fun v29 =>
load1 v29 h26 fun v30 =>
bindS (ih 20 [a0, v30] h26) fun v31 h32 =>
bindS (bldSl h32 [(0, (.str (us [101, 110, 100])))] 9 1 1 (.str (us []))) fun v33 h34 =>
bindS (ih 46 [a0, v33] h34) fun v35 h36 =>
some (.tuple [], h36)
noncomputable def G61 : Sh := fun ih vs h => consE (fun a0 => consE (fun a3 => nilE (B61 ih a0 a3 h))) vs
noncomputable def B96 (ih : Nat → List V → Hp → VH) (a0 a1 : V) (h : Hp) : VH :=
bindS (ih 22 [a1, (.str (us [32, 44, 32]))] h) fun v0 h1 =>
bindS (bldSl h1 [(0, v0)] 9 1 1 (.str (us []))) fun v2 h3 =>
bindS (ih 46 [a0, v2] h3) fun v4 h5 =>
some (.tuple [], h5)
noncomputable def G96 : Sh := fun ih vs h => consE (fun a0 => consE (fun a1 => nilE (B96 ih a0 a1 h))) vs
noncomputable def B100 (ih : Nat → List V → Hp → VH) (a0 a1 : V) (h : Hp) : VH :=
ih 63 [a0, a1, (.str (us [105, 102]))] h
noncomputable def G100 : Sh := fun ih vs h => consE (fun a0 => consE (fun a1 => nilE (B100 ih a0 a1 h))) vs
noncomputable def B63 (ih : Nat → List V → Hp → VH) (a0 a1 a4 : V) (h : Hp) : VH :=
lenSl a1 fun v0 =>
intS .gtr v0 (.int .i64 (.ofNat 1)) fun v1 =>
ifS v1 (
bindS (bldSl h [(0, a4)] 9 1 1 (.str (us []))) fun v2 h3 =>
bindS (ih 46 [a0, v2] h3) fun v4 h5 =>
idxS 1 a1 (.int .i64 (.ofNat 0)) fun v6 =>
load1 v6 h5 fun v7 =>
bindS (ih 20 [a0, v7] h5) fun v8 h9 =>
bindS (bldSl h9 [(0, (.str (us [116, 104, 101, 110])))] 9 1 1 (.str (us []))) fun v10 h11 =>
bindS (ih 46 [a0, v10] h11) fun v12 h13 =>
idxS 1 a1 (.int .i64 (.ofNat 1)) fun v14 =>
load1 v14 h13 fun v15 =>
bindS (ih 20 [a0, v15] h13) fun v16 h17 =>
bindS (slSlK 3 1 (some (.int .i64 (.ofNat 2))) none h17 a1) fun v18 h19 =>
ih 63 [a0, v18, (.str (us [101, 108, 115, 101, 105, 102]))] h19) (
lenSl a1 fun v20 =>
intS .gtr v20 (.int .i64 (.ofNat 0)) fun v21 =>
ifS v21 (
bindS (bldSl h [(0, (.str (us [101, 108, 115, 101])))] 9 1 1 (.str (us []))) fun v22 h23 =>
bindS (ih 46 [a0, v22] h23) fun v24 h25 =>
idxS 1 a1 (.int .i64 (.ofNat 0)) fun v26 =>
load1 v26 h25 fun v27 =>
bindS (ih 20 [a0, v27] h25) fun v28 h29 =>
ih 65 [a0] h29) (
ih 65 [a0] h))
noncomputable def G63 : Sh := fun ih vs h => consE (fun a0 => consE (fun a1 => consE (fun a4 => nilE (B63 ih a0 a1 a4 h)))) vs
noncomputable def B65 (ih : Nat → List V → Hp → VH) (a0 : V) (h : Hp) : VH :=
bindS (bldSl h [(0, (.str (us [101, 110, 100])))] 9 1 1 (.str (us []))) fun v30 h31 =>
bindS (ih 46 [a0, v30] h31) fun v32 h33 =>
some (.tuple [], h33)
noncomputable def G65 : Sh := fun ih vs h => consE (fun a0 => nilE (B65 ih a0 h)) vs
noncomputable def B108 (ih : Nat → List V → Hp → VH) (a0 : V) (h : Hp) : VH :=
newS 72 [.nilPtr, .nilSlice] h fun v0 h1 =>
bindS (ih 186 [v0, (.int .u8 (.ofNat 34))] h1) fun v2 h3 =>
lenStr a0 fun v4 =>
ih 67 [a0, v0, v4, (.int .i64 (.ofNat 0))] h3
noncomputable def G108 : Sh := fun ih vs h => consE (fun a0 => nilE (B108 ih a0 h)) vs
noncomputable def B67 (ih : Nat → List V → Hp → VH) (a0 a3 a9 a10 : V) (h : Hp) : VH :=
intS .lss a10 a9 fun v5 =>
ifS v5 (
idxStr a0 a10 fun v6 =>
intS .eql v6 (.int .u8 (.ofNat 10)) fun v7 =>
ifS v7 (
bindS (ih 54 [a3, (.str (us [92, 110]))] h) fun v8 h9 =>
ih 69 [a0, a3, a9, a10] h9) (
intS .eql v6 (.int .u8 (.ofNat 34)) fun v10 =>
guardS v10 false (some (v6, h)) h fun v11 h12 =>
guardS v10 false (intS .eql v11 (.int .u8 (.ofNat 92)) fun v13 =>
some (v13, h12)) h12 fun v14 h15 =>
optS (pickV v10 (.bool true) v14) fun v16 =>
ifS v16 (
bindS (ih 186 [a3, (.int .u8 (.ofNat 92))] h15) fun v17 h18 =>
bindS (ih 186 [a3, v6] h18) fun v19 h20 =>
ih 69 [a0, a3, a9, a10] h20) (
intS .lss v6 (.int .u8 (.ofNat 32)) fun v21 =>
guardS v21 false (some (v6, h15)) h15 fun v22 h23 =>
guardS v21 false (intS .gtr v22 (.int .u8 (.ofNat 126)) fun v24 =>
some (v24, h23)) h23 fun v25 h26 =>
optS (pickV v21 (.bool true) v25) fun v27 =>
ifS v27 (
convI .i64 v6 fun v28 =>
bindS (ih 182 [v28] h26) fun v29 h30 =>
strS .add (.str (us [48, 48])) v29 fun v31 =>
lenStr v31 fun v32 =>
intS .sub v32 (.int .i64 (.ofNat 3)) fun v33 =>
slStrK (some v33) none v31 fun v34 =>
strS .add (.str (us [92])) v34 fun v35 =>
bindS (ih 54 [a3, v35] h30) fun v36 h37 =>
ih 69 [a0, a3, a9, a10] h37) (
bindS (ih 186 [a3, v6] h26) fun v38 h39 =>
ih 69 [a0, a3, a9, a10] h39)))) (
bindS (ih 186 [a3, (.int .u8 (.ofNat 34))] h) fun v40 h41 =>
bindS (ih 56 [a3] h41) fun v42 h43 =>
some (v42, h43))
noncomputable def G67 : Sh := fun ih vs h => consE (fun a0 => consE (fun a3 => consE (fun a9 => consE (fun a10 => nilE (B67 ih a0 a3 a9 a10 h))))) vs
noncomputable def B69 (ih : Nat → List V → Hp → VH) (a0 a3 a9 a10 : V) (h : Hp) : VH :=
intS .add a10 (.int .i64 (.ofNat 1)) fun v44 =>
ih 67 [a0, a3, a9, v44] h
noncomputable def G69 : Sh := fun ih vs h => consE (fun a0 => consE (fun a3 => consE (fun a9 => consE (fun a10 => nilE (B69 ih a0 a3 a9 a10 h))))) vs
noncomputable def B106 (ih : Nat → List V → Hp → VH) (a0 : V) (h : Hp) : VH :=
intS .geq a0 (.int .i64 (.ofNat 0)) fun v0 =>
ifS v0 (
bindS (ih 182 [a0] h) fun v1 h2 =>
some (v1, h2)) (
convI .u64 a0 fun v3 =>
bindS (ih 184 [v3, (.int .i64 (.ofNat 16))] h) fun v4 h5 =>
strS .add (.str (us [48, 120])) v4 fun v6 =>
some (v6, h5))
noncomputable def G106 : Sh := fun ih vs h => consE (fun a0 => nilE (B106 ih a0 h)) vs
noncomputable def B104 (ih : Nat → List V → Hp → VH) (a0 : V) (h : Hp) : VH :=
ih 71 [a0, (.int .i64 (.ofNat 0)), (.int .i64 (.ofNat 1)), (.int .u8 (.ofNat 0)), (.int .i64 (.ofNat 0))] h
noncomputable def G104 : Sh := fun ih vs h => consE (fun a0 => nilE (B104 ih a0 h)) vs
noncomputable def B71 (ih : Nat → List V → Hp → VH) (a0 a3 a4 a5 a6 : V) (h : Hp) : VH :=
lenStr a0 fun v0 =>
intS .lss a6 v0 fun v1 =>
ifS v1 (
idxStr a0 a6 fun v2 =>
intS .or a5 v2 fun v3 =>
idxP 1 256 (.ptr 0 0) v2 fun v4 =>
load1 v4 h fun v5 =>
convI .i64 v5 fun v6 =>
bindS (vh h (xorV v6)) fun v7 h8 =>
intS .and a4 v7 fun v9 =>
intS .add a3 v9 fun v10 =>
intS .add a6 (.int .i64 (.ofNat 1)) fun v11 =>
ih 71 [a0, v10, v6, v3, v11] h8) (
intS .geq a5 (.int .u8 (.ofNat 128)) fun v12 =>
ifS v12 (
bindS (ih 178 [a0, (.func 90 [] [])] h) fun v13 h14 =>
some (v13, h14)) (
bindS (mkS 9 16 1 (.str (us [])) a3 a3 h) fun v15 h16 =>
ih 73 [a0, v15, (.int .i64 (.ofNat 0)), (.int .i64 (.ofNat 0))] h16))
noncomputable def G71 : Sh := fun ih vs h => consE (fun a0 => consE (fun a3 => consE (fun a4 => consE (fun a5 => consE (fun a6 => nilE (B71 ih a0 a3 a4 a5 a6 h)))))) vs
noncomputable def B73 (ih : Nat → List V → Hp → VH) (a0 a9 a10 a12 : V) (h : Hp) : VH :=
lenStr a0 fun v17 =>
intS .lss a12 v17 fun v18 =>
guardS v18 true (some (a0, h)) h fun v19 h20 =>
guardS v18 true (some (a12, h20)) h20 fun v21 h22 =>
guardS v18 true (idxStr v19 v21 fun v23 =>
some (v23, h22)) h22 fun v24 h25 =>
guardS v18 true (idxP 1 256 (.ptr 0 0) v24 fun v26 =>
some (v26, h25)) h25 fun v27 h28 =>
guardS v18 true (load1 v27 h28 fun v29 =>
some (v29, h28)) h28 fun v30 h31 =>
guardS v18 true (intS .neq v30 (.int .u8 (.ofNat 0)) fun v32 =>
some (v32, h31)) h31 fun v33 h34 =>
optS (pickV v18 v33 (.bool false)) fun v35 =>
ifS v35 (
intS .add a12 (.int .i64 (.ofNat 1)) fun v36 =>
ih 73 [a0, a9, a10, v36] h34) (
ih 75 [a0, a9, a10, a12, a12] h34)
noncomputable def G73 : Sh := fun ih vs h => consE (fun a0 => consE (fun a9 => consE (fun a10 => consE (fun a12 => nilE (B73 ih a0 a9 a10 a12 h))))) vs
noncomputable def B75 (ih : Nat → List V → Hp → VH) (a0 a9 a10 a11 a12 : V) (h : Hp) : VH :=
lenStr a0 fun v37 =>
intS .lss a12 v37 fun v38 =>
ifS v38 (
idxStr a0 a12 fun v39 =>
idxP 1 256 (.ptr 0 0) v39 fun v40 =>
load1 v40 h fun v41 =>
intS .eql v41 (.int .u8 (.ofNat 0)) fun v42 =>
ifS v42 (
intS .add a12 (.int .i64 (.ofNat 1)) fun v43 =>
ih 75 [a0, a9, a10, a11, v43] h) (
slStrK (some a11) (some a12) a0 fun v44 =>
idxS 1 a9 a10 fun v45 =>
storeC v45 v44 h fun h46 =>
intS .add a10 (.int .i64 (.ofNat 1)) fun v47 =>
intS .add a12 (.int .i64 (.ofNat 1)) fun v48 =>
ih 79 [a0, a9, v47, v48] h46)) (
lenStr a0 fun v49 =>
intS .lss a11 v49 fun v50 =>
ifS v50 (
slStrK (some a11) none a0 fun v51 =>
idxS 1 a9 a10 fun v52 =>
storeC v52 v51 h fun h53 =>
ih 77 [a9] h53) (
ih 77 [a9] h))
noncomputable def G75 : Sh := fun ih vs h => consE (fun a0 => consE (fun a9 => consE (fun a10 => consE (fun a11 => consE (fun a12 => nilE (B75 ih a0 a9 a10 a11 a12 h)))))) vs
noncomputable def B77 (ih : Nat → List V → Hp → VH) (a9 : V) (h : Hp) : VH :=
some (a9, h)
noncomputable def G77 : Sh := fun ih vs h => consE (fun a9 => nilE (B77 ih a9 h)) vs
noncomputable def B79 (ih : Nat → List V → Hp → VH) (a0 a9 a10 a12 : V) (h : Hp) : VH :=
lenStr a0 fun v54 =>
intS .lss a12 v54 fun v55 =>
guardS v55 true (some (a0, h)) h fun v56 h57 =>
guardS v55 true (some (a12, h57)) h57 fun v58 h59 =>
guardS v55 true (idxStr v56 v58 fun v60 =>
some (v60, h59)) h59 fun v61 h62 =>
guardS v55 true (idxP 1 256 (.ptr 0 0) v61 fun v63 =>
some (v63, h62)) h62 fun v64 h65 =>
guardS v55 true (load1 v64 h65 fun v66 =>
some (v66, h65)) h65 fun v67 h68 =>
guardS v55 true (intS .neq v67 (.int .u8 (.ofNat 0)) fun v69 =>
some (v69, h68)) h68 fun v70 h71 =>
optS (pickV v55 v70 (.bool false)) fun v72 =>
ifS v72 (
intS .add a12 (.int .i64 (.ofNat 1)) fun v73 =>
ih 79 [a0, a9, a10, v73] h71) (
ih 75 [a0, a9, a10, a12, a12] h71)
noncomputable def G79 : Sh := fun ih vs h => consE (fun a0 => consE (fun a9 => consE (fun a10 => consE (fun a12 => nilE (B79 ih a0 a9 a10 a12 h))))) vs
noncomputable def B92 (ih : Nat → List V → Hp → VH) (a0 a1 : V) (h : Hp) : VH :=
newS 60 (vcells a0) h fun v0 h1 =>
newS 43 (vcells a1) h1 fun v2 h3 =>
addrS 0 v2 fun v4 =>
load1 v4 h3 fun v5 =>
intS .eql v5 (.int .u8 (.ofNat 34)) fun v6 =>
ifS v6 (
bindS (dynE ih (.func 87 [] [v0, v2]) [(.int .i64 (.ofNat 0))] h3) fun v7 h8 =>
intS .geq v7 (.int .i64 (.ofNat 11)) fun v9 =>
some (v9, h8)) (
addrS 0 v2 fun v10 =>
load1 v10 h3 fun v11 =>
intS .eql v11 (.int .u8 (.ofNat 31)) fun v12 =>
guardS v12 true (addrS 1 v2 fun v13 =>
some (v13, h3)) h3 fun v14 h15 =>
guardS v12 true (load1 v14 h15 fun v16 =>
some (v16, h15)) h15 fun v17 h18 =>
guardS v12 true (convI .u8 v17 fun v19 =>
some (v19, h18)) h18 fun v20 h21 =>
guardS v12 true (intS .eql v20 (.int .u8 (.ofNat 11)) fun v22 =>
some (v22, h21)) h21 fun v23 h24 =>
optS (pickV v12 v23 (.bool false)) fun v25 =>
ifS v25 (
bindS (dynE ih (.func 87 [] [v0, v2]) [(.int .i64 (.ofNat 0))] h24) fun v26 h27 =>
intS .gtr v26 (.int .i64 (.ofNat 8)) fun v28 =>
guardS v28 true (some ((.func 87 [] [v0, v2]), h27)) h27 fun v29 h30 =>
guardS v28 true (bindS (dynE ih v29 [(.int .i64 (.ofNat 1))] h30) fun v31 h32 =>
some (v31, h32)) h30 fun v33 h34 =>
guardS v28 true (intS .geq v33 (.int .i64 (.ofNat 8)) fun v35 =>
some (v35, h34)) h34 fun v36 h37 =>
optS (pickV v28 v36 (.bool false)) fun v38 =>
some (v38, h37)) (
addrS 0 v2 fun v39 =>
load1 v39 h24 fun v40 =>
intS .eql v40 (.int .u8 (.ofNat 31)) fun v41 =>
guardS v41 false (addrS 0 v2 fun v42 =>
some (v42, h24)) h24 fun v43 h44 =>
guardS v41 false (load1 v43 h44 fun v45 =>
some (v45, h44)) h44 fun v46 h47 =>
guardS v41 false (intS .eql v46 (.int .u8 (.ofNat 32)) fun v48 =>
some (v48, h47)) h47 fun v49 h50 =>
optS (pickV v41 (.bool true) v49) fun v51 =>
guardS v51 false (addrS 0 v2 fun v52 =>
some (v52, h50)) h50 fun v53 h54 =>
guardS v51 false (load1 v53 h54 fun v55 =>
some (v55, h54)) h54 fun v56 h57 =>
guardS v51 false (intS .eql v56 (.int .u8 (.ofNat 33)) fun v58 =>
some (v58, h57)) h57 fun v59 h60 =>
optS (pickV v51 (.bool true) v59) fun v61 =>
ifS v61 (
bindS (dynE ih (.func 87 [] [v0, v2]) [(.int .i64 (.ofNat 0))] ⟨h60.t, h60.n, h60.n⟩) fun v62 h63 =>
wroteS h60.low h63 fun h64 =>
cD ((pureB h60 h63) && true) (
loadN 6 v2 h60 fun v65 =>
bindS (ih 176 [v65] ⟨h64.t, h64.n, h64.n⟩) fun v66 h67 =>
wroteS h64.low h67 fun h68 =>
intS .geq v62 v66 fun v69 =>
guardS v69 true (some ((.func 87 [] [v0, v2]), h68)) h68 fun v70 _ =>
guardB v69 true (
bindS (dynE ih v70 [(.int .i64 (.ofNat 1))] ⟨h68.t, h68.n, h68.n⟩) fun v71 h72 =>
wroteS h68.low h72 fun h73 =>
guardB v69 true (
cD ((pureB h68 h72) && true) (
loadN 6 v2 h68 fun v74 =>
guardS v69 true (bindS (ih 176 [v74] h73) fun v75 h76 =>
some (v75, h76)) h73 fun v77 h78 =>
guardS v69 true (intS .gtr v71 v77 fun v79 =>
some (v79, h78)) h78 fun v80 h81 =>
optS (pickV v69 v80 (.bool false)) fun v82 =>
some (v82, h81)) none) (
guardS v69 true (bindS (ih 176 [undefV] h73) fun v83 h84 =>
some (v83, h84)) h73 fun v85 h86 =>
guardS v69 true (intS .gtr v71 v85 fun v87 =>
some (v87, h86)) h86 fun v88 h89 =>
optS (pickV v69 v88 (.bool false)) fun v90 =>
some (v90, h89))) (
guardS v69 true (loadN 6 v2 h68 fun v91 =>
some (v91, h68)) h68 fun v92 _ =>
guardS v69 true (bindS (ih 176 [v92] h68) fun v93 h94 =>
some (v93, h94)) h68 fun v95 h96 =>
guardS v69 true (intS .gtr undefV v95 fun v97 =>
some (v97, h96)) h96 fun v98 h99 =>
optS (pickV v69 v98 (.bool false)) fun v100 =>
some (v100, h99))) none) (
some ((.bool true), h60))))
noncomputable def G92 : Sh := fun ih vs h => consE (fun a0 => consE (fun a1 => nilE (B92 ih a0 a1 h))) vs
noncomputable def B90 (ih : Nat → List V → Hp → VH) (a0 a1 : V) (h : Hp) : VH :=
newS 60 (vcells a0) h fun v0 h1 =>
newS 43 (vcells a1) h1 fun v2 h3 =>
addrS 4 v2 fun v4 =>
load1 v4 h3 fun v5 =>
lenSl v5 fun v6 =>
addrS 0 v2 fun v7 =>
load1 v7 h3 fun v8 =>
intS .eql v8 (.int .u8 (.ofNat 20)) fun v9 =>
ifS v9 (
ih 81 [v0, v2, v6, v8, v9] h3) (
intS .eql v8 (.int .u8 (.ofNat 21)) fun v10 =>
ifS v10 (
ih 81 [v0, v2, v6, v8, v10] h3) (
intS .eql v8 (.int .u8 (.ofNat 22)) fun v11 =>
ifS v11 (
ih 81 [v0, v2, v6, v8, v11] h3) (
intS .eql v8 (.int .u8 (.ofNat 25)) fun v12 =>
ih 81 [v0, v2, v6, v8, v12] h3)))
noncomputable def G90 : Sh := fun ih vs h => consE (fun a0 => consE (fun a1 => nilE (B90 ih a0 a1 h))) vs
noncomputable def B81 (ih : Nat → List V → Hp → VH) (a2 a3 a5 a10 a11 : V) (h : Hp) : VH :=
ifS a11 (
loadN 6 a3 h fun v13 =>
bindS (ih 78 [v13, (.bool false), (.bool false), (.bool false)] h) fun v14 h15 =>
guardS v14 true (some (a5, h15)) h15 fun v16 h17 =>
guardS v14 true (intS .eql v16 (.int .i64 (.ofNat 0)) fun v18 =>
some (v18, h17)) h17 fun v19 h20 =>
optS (pickV v14 v19 (.bool false)) fun v21 =>
some (v21, h20)) (
intS .eql a10 (.int .u8 (.ofNat 23)) fun v22 =>
ifS v22 (
loadN 6 a3 h fun v23 =>
bindS (ih 78 [v23, (.bool true), (.bool false), (.bool false)] h) fun v24 h25 =>
guardS v24 true (some (a5, h25)) h25 fun v26 h27 =>
guardS v24 true (intS .eql v26 (.int .i64 (.ofNat 0)) fun v28 =>
some (v28, h27)) h27 fun v29 h30 =>
optS (pickV v24 v29 (.bool false)) fun v31 =>
some (v31, h30)) (
intS .eql a10 (.int .u8 (.ofNat 24)) fun v32 =>
ifS v32 (
loadN 6 a3 h fun v33 =>
bindS (ih 78 [v33, (.bool false), (.bool true), (.bool false)] h) fun v34 h35 =>
guardS v34 true (some (a5, h35)) h35 fun v36 h37 =>
guardS v34 true (intS .eql v36 (.int .i64 (.ofNat 0)) fun v38 =>
some (v38, h37)) h37 fun v39 h40 =>
optS (pickV v34 v39 (.bool false)) fun v41 =>
guardS v41 true (addrS 2 a3 fun v42 =>
some (v42, h40)) h40 fun v43 h44 =>
guardS v41 true (load1 v43 h44 fun v45 =>
some (v45, h44)) h44 fun v46 h47 =>
guardS v41 true (lenStr v46 fun v48 =>
some (v48, h47)) h47 fun v49 h50 =>
guardS v41 true (intS .leq v49 (.int .i64 (.ofNat 65535)) fun v51 =>
some (v51, h50)) h50 fun v52 h53 =>
optS (pickV v41 v52 (.bool false)) fun v54 =>
some (v54, h53)) (
intS .eql a10 (.int .u8 (.ofNat 27)) fun v55 =>
ifS v55 (
loadN 6 a3 h fun v56 =>
bindS (ih 78 [v56, (.bool false), (.bool true), (.bool false)] h) fun v57 h58 =>
guardS v57 true (some (a5, h58)) h58 fun v59 h60 =>
guardS v57 true (intS .eql v59 (.int .i64 (.ofNat 0)) fun v61 =>
some (v61, h60)) h60 fun v62 h63 =>
optS (pickV v57 v62 (.bool false)) fun v64 =>
guardS v64 true (addrS 2 a3 fun v65 =>
some (v65, h63)) h63 fun v66 h67 =>
guardS v64 true (load1 v66 h67 fun v68 =>
some (v68, h67)) h67 fun v69 h70 =>
guardS v64 true (bindS (ih 166 [v69] h70) fun v71 h72 =>
some (v71, h72)) h70 fun v73 h74 =>
optS (pickV v64 v73 (.bool false)) fun v75 =>
some (v75, h74)) (
intS .eql a10 (.int .u8 (.ofNat 26)) fun v76 =>
ifS v76 (
loadN 6 a3 h fun v77 =>
bindS (ih 78 [v77, (.bool true), (.bool false), (.bool true)] h) fun v78 h79 =>
guardS v78 true (addrS 1 a3 fun v80 =>
some (v80, h79)) h79 fun v81 h82 =>
guardS v78 true (load1 v81 h82 fun v83 =>
some (v83, h82)) h82 fun v84 h85 =>
guardS v78 true (intS .eql v84 (.int .i64 (.ofNat 0)) fun v86 =>
some (v86, h85)) h85 fun v87 h88 =>
guardS v78 true (some (v87, h88)) h88 fun v89 h90 =>
guardS v89 false (addrS 1 a3 fun v91 =>
some (v91, h90)) h90 fun v92 h93 =>
guardS v89 false (load1 v92 h93 fun v94 =>
some (v94, h93)) h93 fun v95 h96 =>
guardS v89 false (intS .eql v95 (.int .i64 (.ofNat 1)) fun v97 =>
some (v97, h96)) h96 fun v98 h99 =>
guardS v78 true (optS (pickV v89 (.bool true) v98) fun v100 =>
some (v100, h99)) h99 fun v101 h102 =>
optS (pickV v78 v101 (.bool false)) fun v103 =>
guardS v103 true (addrS 3 a3 fun v104 =>
some (v104, h102)) h102 fun v105 h106 =>
guardS v103 true (load1 v105 h106 fun v107 =>
some (v107, h106)) h106 fun v108 h109 =>
guardS v103 true (bindS (ih 156 [v108, (.int .i64 (.ofNat 0))] h109) fun v110 h111 =>
some (v110, h111)) h109 fun v112 h113 =>
optS (pickV v103 v112 (.bool false)) fun v114 =>
guardS v114 true (some (a5, h113)) h113 fun v115 h116 =>
guardS v114 true (intS .eql v115 (.int .i64 (.ofNat 1)) fun v117 =>
some (v117, h116)) h116 fun v118 h119 =>
optS (pickV v114 v118 (.bool false)) fun v120 =>
guardS v120 true (loadN 2 a2 h119 fun v121 =>
some (v121, h119)) h119 fun v122 h123 =>
guardS v120 true (loadN 6 a3 h123 fun v124 =>
some (v124, h123)) h123 fun v125 h126 =>
guardS v120 true (bindS (ih 162 [v122, v125, (.int .i64 (.ofNat 0))] h126) fun v127 h128 =>
some (v127, h128)) h126 fun v129 h130 =>
optS (pickV v120 v129 (.bool false)) fun v131 =>
some (v131, h130)) (
intS .eql a10 (.int .u8 (.ofNat 28)) fun v132 =>
ifS v132 (
loadN 6 a3 h fun v133 =>
bindS (ih 78 [v133, (.bool false), (.bool false), (.bool false)] h) fun v134 h135 =>
guardS v134 true (loadN 2 a2 h135 fun v136 =>
some (v136, h135)) h135 fun v137 h138 =>
guardS v134 true (loadN 6 a3 h138 fun v139 =>
some (v139, h138)) h138 fun v140 h141 =>
guardS v134 true (bindS (ih 168 [v137, v140, (.int .i64 (.ofNat 2))] h141) fun v142 h143 =>
some (v142, h143)) h141 fun v144 h145 =>
optS (pickV v134 v144 (.bool false)) fun v146 =>
guardS v146 true (loadN 2 a2 h145 fun v147 =>
some (v147, h145)) h145 fun v148 h149 =>
guardS v146 true (loadN 6 a3 h149 fun v150 =>
some (v150, h149)) h149 fun v151 h152 =>
guardS v146 true (bindS (ih 154 [v148, v151, (.int .i64 (.ofNat 0))] h152) fun v153 h154 =>
some (v153, h154)) h152 fun v155 h156 =>
guardS v146 true (bindS (ih 170 [v155] h156) fun v157 h158 =>
some (v157, h158)) h156 fun v159 h160 =>
optS (pickV v146 v159 (.bool false)) fun v161 =>
some (v161, h160)) (
intS .eql a10 (.int .u8 (.ofNat 29)) fun v162 =>
ifS v162 (
loadN 6 a3 h fun v163 =>
bindS (ih 78 [v163, (.bool false), (.bool false), (.bool false)] h) fun v164 h165 =>
guardS v164 true (some (a5, h165)) h165 fun v166 h167 =>
guardS v164 true (intS .geq v166 (.int .i64 (.ofNat 1)) fun v168 =>
some (v168, h167)) h167 fun v169 h170 =>
optS (pickV v164 v169 (.bool false)) fun v171 =>
guardS v171 true (loadN 2 a2 h170 fun v172 =>
some (v172, h170)) h170 fun v173 h174 =>
guardS v171 true (loadN 6 a3 h174 fun v175 =>
some (v175, h174)) h174 fun v176 h177 =>
guardS v171 true (bindS (ih 154 [v173, v176, (.int .i64 (.ofNat 0))] h177) fun v178 h179 =>
some (v178, h179)) h177 fun v180 h181 =>
guardS v171 true (bindS (ih 170 [v180] h181) fun v182 h183 =>
some (v182, h183)) h181 fun v184 h185 =>
optS (pickV v171 v184 (.bool false)) fun v186 =>
guardS v186 true (loadN 2 a2 h185 fun v187 =>
some (v187, h185)) h185 fun v188 h189 =>
guardS v186 true (loadN 6 a3 h189 fun v190 =>
some (v190, h189)) h189 fun v191 h192 =>
guardS v186 true (some (a5, h192)) h192 fun v193 h194 =>
guardS v186 true (bindS (ih 158 [v188, v191, (.int .i64 (.ofNat 1)), v193, (.int .i64 (.ofNat 0))] h194) fun v195 h196 =>
some (v195, h196)) h194 fun v197 h198 =>
optS (pickV v186 v197 (.bool false)) fun v199 =>
some (v199, h198)) (
intS .eql a10 (.int .u8 (.ofNat 30)) fun v200 =>
ifS v200 (
loadN 6 a3 h fun v201 =>
bindS (ih 78 [v201, (.bool false), (.bool true), (.bool false)] h) fun v202 h203 =>
guardS v202 true (addrS 2 a3 fun v204 =>
some (v204, h203)) h203 fun v205 h206 =>
guardS v202 true (load1 v205 h206 fun v207 =>
some (v207, h206)) h206 fun v208 h209 =>
guardS v202 true (bindS (ih 166 [v208] h209) fun v210 h211 =>
some (v210, h211)) h209 fun v212 h213 =>
optS (pickV v202 v212 (.bool false)) fun v214 =>
guardS v214 true (some (a5, h213)) h213 fun v215 h216 =>
guardS v214 true (intS .geq v215 (.int .i64 (.ofNat 1)) fun v217 =>
some (v217, h216)) h216 fun v218 h219 =>
optS (pickV v214 v218 (.bool false)) fun v220 =>
guardS v220 true (loadN 2 a2 h219 fun v221 =>
some (v221, h219)) h219 fun v222 h223 =>
guardS v220 true (loadN 6 a3 h223 fun v224 =>
some (v224, h223)) h223 fun v225 h226 =>
guardS v220 true (bindS (ih 154 [v222, v225, (.int .i64 (.ofNat 0))] h226) fun v227 h228 =>
some (v227, h228)) h226 fun v229 h230 =>
guardS v220 true (bindS (ih 170 [v229] h230) fun v231 h232 =>
some (v231, h232)) h230 fun v233 h234 =>
optS (pickV v220 v233 (.bool false)) fun v235 =>
guardS v235 true (loadN 2 a2 h234 fun v236 =>
some (v236, h234)) h234 fun v237 h238 =>
guardS v235 true (loadN 6 a3 h238 fun v239 =>
some (v239, h238)) h238 fun v240 h241 =>
guardS v235 true (some (a5, h241)) h241 fun v242 h243 =>
guardS v235 true (bindS (ih 158 [v237, v240, (.int .i64 (.ofNat 1)), v242, (.int .i64 (.ofNat 0))] h243) fun v244 h245 =>
some (v244, h245)) h243 fun v246 h247 =>
optS (pickV v235 v246 (.bool false)) fun v248 =>
some (v248, h247)) (
intS .eql a10 (.int .u8 (.ofNat 31)) fun v249 =>
ifS v249 (
loadN 6 a3 h fun v250 =>
bindS (ih 78 [v250, (.bool true), (.bool false), (.bool false)] h) fun v251 h252 =>
guardS v251 true (addrS 1 a3 fun v253 =>
some (v253, h252)) h252 fun v254 h255 =>
guardS v251 true (load1 v254 h255 fun v256 =>
some (v256, h255)) h255 fun v257 h258 =>
guardS v251 true (intS .geq v257 (.int .i64 (.ofNat 1)) fun v259 =>
some (v259, h258)) h258 fun v260 h261 =>
optS (pickV v251 v260 (.bool false)) fun v262 =>
guardS v262 true (addrS 1 a3 fun v263 =>
some (v263, h261)) h261 fun v264 h265 =>
guardS v262 true (load1 v264 h265 fun v266 =>
some (v266, h265)) h265 fun v267 h268 =>
guardS v262 true (intS .leq v267 (.int .i64 (.ofNat 17)) fun v269 =>
some (v269, h268)) h268 fun v270 h271 =>
optS (pickV v262 v270 (.bool false)) fun v272 =>
guardS v272 true (loadN 2 a2 h271 fun v273 =>
some (v273, h271)) h271 fun v274 h275 =>
guardS v272 true (loadN 6 a3 h275 fun v276 =>
some (v276, h275)) h275 fun v277 h278 =>
guardS v272 true (bindS (ih 168 [v274, v277, (.int .i64 (.ofNat 2))] h278) fun v279 h280 =>
some (v279, h280)) h278 fun v281 h282 =>
optS (pickV v272 v281 (.bool false)) fun v283 =>
some (v283, h282)) (
intS .eql a10 (.int .u8 (.ofNat 32)) fun v284 =>
ifS v284 (
ih 83 [a2, a3, a5, a10, v284] h) (
intS .eql a10 (.int .u8 (.ofNat 33)) fun v285 =>
ifS v285 (
ih 83 [a2, a3, a5, a10, v285] h) (
intS .eql a10 (.int .u8 (.ofNat 37)) fun v286 =>
ih 83 [a2, a3, a5, a10, v286] h)))))))))))
noncomputable def G81 : Sh := fun ih vs h => consE (fun a2 => consE (fun a3 => consE (fun a5 => consE (fun a10 => consE (fun a11 => nilE (B81 ih a2 a3 a5 a10 a11 h)))))) vs
noncomputable def B83 (ih : Nat → List V → Hp → VH) (a2 a3 a5 a10 a164 : V) (h : Hp) : VH :=
ifS a164 (
loadN 6 a3 h fun v287 =>
bindS (ih 78 [v287, (.bool false), (.bool false), (.bool false)] h) fun v288 h289 =>
guardS v288 true (loadN 2 a2 h289 fun v290 =>
some (v290, h289)) h289 fun v291 h292 =>
guardS v288 true (loadN 6 a3 h292 fun v293 =>
some (v293, h292)) h292 fun v294 h295 =>
guardS v288 true (bindS (ih 168 [v291, v294, (.int .i64 (.ofNat 2))] h295) fun v296 h297 =>
some (v296, h297)) h295 fun v298 h299 =>
optS (pickV v288 v298 (.bool false)) fun v300 =>
some (v300, h299)) (
intS .eql a10 (.int .u8 (.ofNat 34)) fun v301 =>
ifS v301 (
loadN 6 a3 h fun v302 =>
bindS (ih 78 [v302, (.bool true), (.bool false), (.bool false)] h) fun v303 h304 =>
guardS v303 true (addrS 1 a3 fun v305 =>
some (v305, h304)) h304 fun v306 h307 =>
guardS v303 true (load1 v306 h307 fun v308 =>
some (v308, h307)) h307 fun v309 h310 =>
guardS v303 true (intS .geq v309 (.int .i64 (.ofNat 18)) fun v311 =>
some (v311, h310)) h310 fun v312 h313 =>
optS (pickV v303 v312 (.bool false)) fun v314 =>
guardS v314 true (addrS 1 a3 fun v315 =>
some (v315, h313)) h313 fun v316 h317 =>
guardS v314 true (load1 v316 h317 fun v318 =>
some (v318, h317)) h317 fun v319 h320 =>
guardS v314 true (intS .leq v319 (.int .i64 (.ofNat 21)) fun v321 =>
some (v321, h320)) h320 fun v322 h323 =>
optS (pickV v314 v322 (.bool false)) fun v324 =>
guardS v324 true (loadN 2 a2 h323 fun v325 =>
some (v325, h323)) h323 fun v326 h327 =>
guardS v324 true (loadN 6 a3 h327 fun v328 =>
some (v328, h327)) h327 fun v329 h330 =>
guardS v324 true (bindS (ih 168 [v326, v329, (.int .i64 (.ofNat 1))] h330) fun v331 h332 =>
some (v331, h332)) h330 fun v333 h334 =>
optS (pickV v324 v333 (.bool false)) fun v335 =>
some (v335, h334)) (
intS .eql a10 (.int .u8 (.ofNat 35)) fun v336 =>
ifS v336 (
loadN 6 a3 h fun v337 =>
bindS (ih 78 [v337, (.bool false), (.bool false), (.bool false)] h) fun v338 h339 =>
guardS v338 true (loadN 2 a2 h339 fun v340 =>
some (v340, h339)) h339 fun v341 h342 =>
guardS v338 true (loadN 6 a3 h342 fun v343 =>
some (v343, h342)) h342 fun v344 h345 =>
guardS v338 true (some (a5, h345)) h345 fun v346 h347 =>
guardS v338 true (bindS (ih 80 [v341, v344, (.int .i64 (.ofNat 0)), v346, (.func 86 [] [])] h347) fun v348 h349 =>
some (v348, h349)) h347 fun v350 h351 =>
optS (pickV v338 v350 (.bool false)) fun v352 =>
some (v352, h351)) (
loadN 6 a3 h fun v353 =>
bindS (ih 78 [v353, (.bool false), (.bool false), (.bool false)] h) fun v354 h355 =>
guardS v354 true (loadN 2 a2 h355 fun v356 =>
some (v356, h355)) h355 fun v357 h358 =>
guardS v354 true (loadN 6 a3 h358 fun v359 =>
some (v359, h358)) h358 fun v360 h361 =>
guardS v354 true (bindS (ih 168 [v357, v360, (.int .i64 (.ofNat 1))] h361) fun v362 h363 =>
some (v362, h363)) h361 fun v364 h365 =>
optS (pickV v354 v364 (.bool false)) fun v366 =>
some (v366, h365))))
noncomputable def G83 : Sh := fun ih vs h => consE (fun a2 => consE (fun a3 => consE (fun a5 => consE (fun a10 => consE (fun a164 => nilE (B83 ih a2 a3 a5 a10 a164 h)))))) vs
noncomputable def B88 (ih : Nat → List V → Hp → VH) (a0 : V) (h : Hp) : VH :=
intS .geq a0 (.int .u8 (.ofNat 20)) fun v0 =>
guardS v0 true (some (a0, h)) h fun v1 h2 =>
guardS v0 true (intS .leq v1 (.int .u8 (.ofNat 35)) fun v3 =>
some (v3, h2)) h2 fun v4 h5 =>
optS (pickV v0 v4 (.bool false)) fun v6 =>
guardS v6 false (some (a0, h5)) h5 fun v7 h8 =>
guardS v6 false (intS .eql v7 (.int .u8 (.ofNat 38)) fun v9 =>
some (v9, h8)) h8 fun v10 h11 =>
optS (pickV v6 (.bool true) v10) fun v12 =>
some (v12, h11)
noncomputable def G88 : Sh := fun ih vs h => consE (fun a0 => nilE (B88 ih a0 h)) vs
noncomputable def B86 (ih : Nat → List V → Hp → VH) (a0 a1 : V) (h : Hp) : VH :=
newS 60 (vcells a0) h fun v0 h1 =>
newS 43 (vcells a1) h1 fun v2 h3 =>
addrS 4 v2 fun v4 =>
load1 v4 h3 fun v5 =>
lenSl v5 fun v6 =>
addrS 0 v2 fun v7 =>
load1 v7 h3 fun v8 =>
intS .eql v8 (.int .u8 (.ofNat 2)) fun v9 =>
ifS v9 (
loadN 6 v2 h3 fun v10 =>
bindS (ih 78 [v10, (.bool false), (.bool false), (.bool true)] h3) fun v11 h12 =>
guardS v11 true (addrS 3 v2 fun v13 =>
some (v13, h12)) h12 fun v14 h15 =>
guardS v11 true (load1 v14 h15 fun v16 =>
some (v16, h15)) h15 fun v17 h18 =>
guardS v11 true (bindS (ih 156 [v17, (.int .i64 (.ofNat 1))] h18) fun v19 h20 =>
some (v19, h20)) h18 fun v21 h22 =>
optS (pickV v11 v21 (.bool false)) fun v23 =>
guardS v23 true (loadN 2 v0 h22 fun v24 =>
some (v24, h22)) h22 fun v25 h26 =>
guardS v23 true (loadN 6 v2 h26 fun v27 =>
some (v27, h26)) h26 fun v28 h29 =>
guardS v23 true (some (v6, h29)) h29 fun v30 h31 =>
guardS v23 true (bindS (ih 158 [v25, v28, (.int .i64 (.ofNat 0)), v30, (.int .i64 (.ofNat 0))] h31) fun v32 h33 =>
some (v32, h33)) h31 fun v34 h35 =>
optS (pickV v23 v34 (.bool false)) fun v36 =>
some (v36, h35)) (
intS .eql v8 (.int .u8 (.ofNat 3)) fun v37 =>
ifS v37 (
addrS 1 v2 fun v38 =>
load1 v38 h3 fun v39 =>
loadN 6 v2 h3 fun v40 =>
bindS (ih 78 [v40, (.bool true), (.bool false), (.bool false)] h3) fun v41 h42 =>
guardS v41 true (addrS 1 v2 fun v43 =>
some (v43, h42)) h42 fun v44 h45 =>
guardS v41 true (load1 v44 h45 fun v46 =>
some (v46, h45)) h45 fun v47 h48 =>
guardS v41 true (intS .geq v47 (.int .i64 (.ofNat 1)) fun v49 =>
some (v49, h48)) h48 fun v50 h51 =>
optS (pickV v41 v50 (.bool false)) fun v52 =>
guardS v52 true (addrS 1 v2 fun v53 =>
some (v53, h51)) h51 fun v54 h55 =>
guardS v52 true (load1 v54 h55 fun v56 =>
some (v56, h55)) h55 fun v57 h58 =>
guardS v52 true (intS .leq v57 (.int .i64 (.ofNat 200)) fun v59 =>
some (v59, h58)) h58 fun v60 h61 =>
optS (pickV v52 v60 (.bool false)) fun v62 =>
guardS v62 true (some (v39, h61)) h61 fun v63 h64 =>
guardS v62 true (some (v6, h64)) h64 fun v65 h66 =>
guardS v62 true (intS .leq v63 v65 fun v67 =>
some (v67, h66)) h66 fun v68 h69 =>
optS (pickV v62 v68 (.bool false)) fun v70 =>
guardS v70 true (loadN 2 v0 h69 fun v71 =>
some (v71, h69)) h69 fun v72 h73 =>
guardS v70 true (loadN 6 v2 h73 fun v74 =>
some (v74, h73)) h73 fun v75 h76 =>
guardS v70 true (some (v39, h76)) h76 fun v77 h78 =>
guardS v70 true (bindS (ih 80 [v72, v75, (.int .i64 (.ofNat 0)), v77, (.func 80 [] [])] h78) fun v79 h80 =>
some (v79, h80)) h78 fun v81 h82 =>
optS (pickV v70 v81 (.bool false)) fun v83 =>
guardS v83 true (loadN 2 v0 h82 fun v84 =>
some (v84, h82)) h82 fun v85 h86 =>
guardS v83 true (loadN 6 v2 h86 fun v87 =>
some (v87, h86)) h86 fun v88 h89 =>
guardS v83 true (some (v39, h89)) h89 fun v90 h91 =>
guardS v83 true (some (v6, h91)) h91 fun v92 h93 =>
guardS v83 true (bindS (ih 158 [v85, v88, v90, v92, (.int .i64 (.ofNat 1))] h93) fun v94 h95 =>
some (v94, h95)) h93 fun v96 h97 =>
optS (pickV v83 v96 (.bool false)) fun v98 =>
some (v98, h97)) (
intS .eql v8 (.int .u8 (.ofNat 4)) fun v99 =>
ifS v99 (
loadN 6 v2 h3 fun v100 =>
bindS (ih 78 [v100, (.bool false), (.bool false), (.bool false)] h3) fun v101 h102 =>
guardS v101 true (some (v6, h102)) h102 fun v103 h104 =>
guardS v101 true (intS .eql v103 (.int .i64 (.ofNat 1)) fun v105 =>
some (v105, h104)) h104 fun v106 h107 =>
optS (pickV v101 v106 (.bool false)) fun v108 =>
guardS v108 true (loadN 2 v0 h107 fun v109 =>
some (v109, h107)) h107 fun v110 h111 =>
guardS v108 true (loadN 6 v2 h111 fun v112 =>
some (v112, h111)) h111 fun v113 h114 =>
guardS v108 true (bindS (ih 154 [v110, v113, (.int .i64 (.ofNat 0))] h114) fun v115 h116 =>
some (v115, h116)) h114 fun v117 h118 =>
guardS v108 true (intS .eql v117 (.int .u8 (.ofNat 29)) fun v119 =>
some (v119, h118)) h118 fun v120 h121 =>
guardS v108 true (some (v120, h121)) h121 fun v122 h123 =>
guardS v122 false (loadN 2 v0 h123 fun v124 =>
some (v124, h123)) h123 fun v125 h126 =>
guardS v122 false (loadN 6 v2 h126 fun v127 =>
some (v127, h126)) h126 fun v128 h129 =>
guardS v122 false (bindS (ih 154 [v125, v128, (.int .i64 (.ofNat 0))] h129) fun v130 h131 =>
some (v130, h131)) h129 fun v132 h133 =>
guardS v122 false (intS .eql v132 (.int .u8 (.ofNat 30)) fun v134 =>
some (v134, h133)) h133 fun v135 h136 =>
guardS v108 true (optS (pickV v122 (.bool true) v135) fun v137 =>
some (v137, h136)) h136 fun v138 h139 =>
optS (pickV v108 v138 (.bool false)) fun v140 =>
some (v140, h139)) (
intS .eql v8 (.int .u8 (.ofNat 5)) fun v141 =>
ifS v141 (
loadN 6 v2 h3 fun v142 =>
bindS (ih 78 [v142, (.bool false), (.bool false), (.bool false)] h3) fun v143 h144 =>
guardS v143 true (some (v6, h144)) h144 fun v145 h146 =>
guardS v143 true (intS .eql v145 (.int .i64 (.ofNat 1)) fun v147 =>
some (v147, h146)) h146 fun v148 h149 =>
optS (pickV v143 v148 (.bool false)) fun v150 =>
guardS v150 true (loadN 2 v0 h149 fun v151 =>
some (v151, h149)) h149 fun v152 h153 =>
guardS v150 true (loadN 6 v2 h153 fun v154 =>
some (v154, h153)) h153 fun v155 h156 =>
guardS v150 true (bindS (ih 162 [v152, v155, (.int .i64 (.ofNat 0))] h156) fun v157 h158 =>
some (v157, h158)) h156 fun v159 h160 =>
optS (pickV v150 v159 (.bool false)) fun v161 =>
some (v161, h160)) (
intS .eql v8 (.int .u8 (.ofNat 6)) fun v162 =>
ifS v162 (
loadN 6 v2 h3 fun v163 =>
bindS (ih 78 [v163, (.bool false), (.bool false), (.bool false)] h3) fun v164 h165 =>
guardS v164 true (some (v6, h165)) h165 fun v166 h167 =>
guardS v164 true (intS .eql v166 (.int .i64 (.ofNat 2)) fun v168 =>
some (v168, h167)) h167 fun v169 h170 =>
optS (pickV v164 v169 (.bool false)) fun v171 =>
guardS v171 true (loadN 2 v0 h170 fun v172 =>
some (v172, h170)) h170 fun v173 h174 =>
guardS v171 true (loadN 6 v2 h174 fun v175 =>
some (v175, h174)) h174 fun v176 h177 =>
guardS v171 true (bindS (ih 80 [v173, v176, (.int .i64 (.ofNat 0)), (.int .i64 (.ofNat 1)), (.func 44 [] [])] h177) fun v178 h179 =>
some (v178, h179)) h177 fun v180 h181 =>
optS (pickV v171 v180 (.bool false)) fun v182 =>
guardS v182 true (loadN 2 v0 h181 fun v183 =>
some (v183, h181)) h181 fun v184 h185 =>
guardS v182 true (loadN 6 v2 h185 fun v186 =>
some (v186, h185)) h185 fun v187 h188 =>
guardS v182 true (bindS (ih 162 [v184, v187, (.int .i64 (.ofNat 1))] h188) fun v189 h190 =>
some (v189, h190)) h188 fun v191 h192 =>
optS (pickV v182 v191 (.bool false)) fun v193 =>
some (v193, h192)) (
intS .eql v8 (.int .u8 (.ofNat 7)) fun v194 =>
ifS v194 (
loadN 6 v2 h3 fun v195 =>
bindS (ih 78 [v195, (.bool false), (.bool false), (.bool false)] h3) fun v196 h197 =>
guardS v196 true (some (v6, h197)) h197 fun v198 h199 =>
guardS v196 true (intS .eql v198 (.int .i64 (.ofNat 2)) fun v200 =>
some (v200, h199)) h199 fun v201 h202 =>
optS (pickV v196 v201 (.bool false)) fun v203 =>
guardS v203 true (loadN 2 v0 h202 fun v204 =>
some (v204, h202)) h202 fun v205 h206 =>
guardS v203 true (loadN 6 v2 h206 fun v207 =>
some (v207, h206)) h206 fun v208 h209 =>
guardS v203 true (bindS (ih 162 [v205, v208, (.int .i64 (.ofNat 0))] h209) fun v210 h211 =>
some (v210, h211)) h209 fun v212 h213 =>
optS (pickV v203 v212 (.bool false)) fun v214 =>
guardS v214 true (loadN 2 v0 h213 fun v215 =>
some (v215, h213)) h213 fun v216 h217 =>
guardS v214 true (loadN 6 v2 h217 fun v218 =>
some (v218, h217)) h217 fun v219 h220 =>
guardS v214 true (bindS (ih 80 [v216, v219, (.int .i64 (.ofNat 1)), (.int .i64 (.ofNat 2)), (.func 44 [] [])] h220) fun v221 h222 =>
some (v221, h222)) h220 fun v223 h224 =>
optS (pickV v214 v223 (.bool false)) fun v225 =>
some (v225, h224)) (
intS .eql v8 (.int .u8 (.ofNat 8)) fun v226 =>
ifS v226 (
loadN 6 v2 h3 fun v227 =>
bindS (ih 78 [v227, (.bool false), (.bool false), (.bool false)] h3) fun v228 h229 =>
guardS v228 true (loadN 2 v0 h229 fun v230 =>
some (v230, h229)) h229 fun v231 h232 =>
guardS v228 true (loadN 6 v2 h232 fun v233 =>
some (v233, h232)) h232 fun v234 h235 =>
guardS v228 true (bindS (ih 164 [v231, v234] h235) fun v236 h237 =>
some (v236, h237)) h235 fun v238 h239 =>
optS (pickV v228 v238 (.bool false)) fun v240 =>
some (v240, h239)) (
intS .eql v8 (.int .u8 (.ofNat 9)) fun v241 =>
ifS v241 (
loadN 6 v2 h3 fun v242 =>
bindS (ih 78 [v242, (.bool false), (.bool false), (.bool true)] h3) fun v243 h244 =>
guardS v243 true (addrS 3 v2 fun v245 =>
some (v245, h244)) h244 fun v246 h247 =>
guardS v243 true (load1 v246 h247 fun v248 =>
some (v248, h247)) h247 fun v249 h250 =>
guardS v243 true (lenSl v249 fun v251 =>
some (v251, h250)) h250 fun v252 h253 =>
guardS v243 true (intS .eql v252 (.int .i64 (.ofNat 1)) fun v254 =>
some (v254, h253)) h253 fun v255 h256 =>
optS (pickV v243 v255 (.bool false)) fun v257 =>
guardS v257 true (addrS 3 v2 fun v258 =>
some (v258, h256)) h256 fun v259 h260 =>
guardS v257 true (load1 v259 h260 fun v261 =>
some (v261, h260)) h260 fun v262 h263 =>
guardS v257 true (idxS 1 v262 (.int .i64 (.ofNat 0)) fun v264 =>
some (v264, h263)) h263 fun v265 h266 =>
guardS v257 true (load1 v265 h266 fun v267 =>
some (v267, h266)) h266 fun v268 h269 =>
guardS v257 true (bindS (ih 166 [v268] h269) fun v270 h271 =>
some (v270, h271)) h269 fun v272 h273 =>
optS (pickV v257 v272 (.bool false)) fun v274 =>
guardS v274 true (some (v6, h273)) h273 fun v275 h276 =>
guardS v274 true (intS .eql v275 (.int .i64 (.ofNat 3)) fun v277 =>
some (v277, h276)) h276 fun v278 h279 =>
guardS v274 true (some (v278, h279)) h279 fun v280 h281 =>
guardS v280 false (some (v6, h281)) h281 fun v282 h283 =>
guardS v280 false (intS .eql v282 (.int .i64 (.ofNat 4)) fun v284 =>
some (v284, h283)) h283 fun v285 h286 =>
guardS v274 true (optS (pickV v280 (.bool true) v285) fun v287 =>
some (v287, h286)) h286 fun v288 h289 =>
optS (pickV v274 v288 (.bool false)) fun v290 =>
guardS v290 true (loadN 2 v0 h289 fun v291 =>
some (v291, h289)) h289 fun v292 h293 =>
guardS v290 true (loadN 6 v2 h293 fun v294 =>
some (v294, h293)) h293 fun v295 h296 =>
guardS v290 true (some (v6, h296)) h296 fun v297 h298 =>
guardS v290 true (intS .sub v297 (.int .i64 (.ofNat 1)) fun v299 =>
some (v299, h298)) h298 fun v300 h301 =>
guardS v290 true (bindS (ih 80 [v292, v295, (.int .i64 (.ofNat 0)), v300, (.func 44 [] [])] h301) fun v302 h303 =>
some (v302, h303)) h301 fun v304 h305 =>
optS (pickV v290 v304 (.bool false)) fun v306 =>
guardS v306 true (loadN 2 v0 h305 fun v307 =>
some (v307, h305)) h305 fun v308 h309 =>
guardS v306 true (loadN 6 v2 h309 fun v310 =>
some (v310, h309)) h309 fun v311 h312 =>
guardS v306 true (some (v6, h312)) h312 fun v313 h314 =>
guardS v306 true (intS .sub v313 (.int .i64 (.ofNat 1)) fun v315 =>
some (v315, h314)) h314 fun v316 h317 =>
guardS v306 true (bindS (ih 162 [v308, v311, v316] h317) fun v318 h319 =>
some (v318, h319)) h317 fun v320 h321 =>
optS (pickV v306 v320 (.bool false)) fun v322 =>
some (v322, h321)) (
intS .eql v8 (.int .u8 (.ofNat 10)) fun v323 =>
ifS v323 (
loadN 6 v2 h3 fun v324 =>
bindS (ih 78 [v324, (.bool false), (.bool false), (.bool true)] h3) fun v325 h326 =>
guardS v325 true (addrS 3 v2 fun v327 =>
some (v327, h326)) h326 fun v328 h329 =>
guardS v325 true (load1 v328 h329 fun v330 =>
some (v330, h329)) h329 fun v331 h332 =>
guardS v325 true (bindS (ih 156 [v331, (.int .i64 (.ofNat 1))] h332) fun v333 h334 =>
some (v333, h334)) h332 fun v335 h336 =>
optS (pickV v325 v335 (.bool false)) fun v337 =>
guardS v337 true (some (v6, h336)) h336 fun v338 h339 =>
guardS v337 true (intS .gtr v338 (.int .i64 (.ofNat 1)) fun v340 =>
some (v340, h339)) h339 fun v341 h342 =>
optS (pickV v337 v341 (.bool false)) fun v343 =>
guardS v343 true (loadN 2 v0 h342 fun v344 =>
some (v344, h342)) h342 fun v345 h346 =>
guardS v343 true (loadN 6 v2 h346 fun v347 =>
some (v347, h346)) h346 fun v348 h349 =>
guardS v343 true (some (v6, h349)) h349 fun v350 h351 =>
guardS v343 true (intS .sub v350 (.int .i64 (.ofNat 1)) fun v352 =>
some (v352, h351)) h351 fun v353 h354 =>
guardS v343 true (bindS (ih 158 [v345, v348, (.int .i64 (.ofNat 0)), v353, (.int .i64 (.ofNat 1))] h354) fun v355 h356 =>
some (v355, h356)) h354 fun v357 h358 =>
optS (pickV v343 v357 (.bool false)) fun v359 =>
guardS v359 true (loadN 2 v0 h358 fun v360 =>
some (v360, h358)) h358 fun v361 h362 =>
guardS v359 true (loadN 6 v2 h362 fun v363 =>
some (v363, h362)) h362 fun v364 h365 =>
guardS v359 true (some (v6, h365)) h365 fun v366 h367 =>
guardS v359 true (intS .sub v366 (.int .i64 (.ofNat 1)) fun v368 =>
some (v368, h367)) h367 fun v369 h370 =>
guardS v359 true (bindS (ih 162 [v361, v364, v369] h370) fun v371 h372 =>
some (v371, h372)) h370 fun v373 h374 =>
optS (pickV v359 v373 (.bool false)) fun v375 =>
some (v375, h374)) (
intS .eql v8 (.int .u8 (.ofNat 11)) fun v376 =>
ifS v376 (
loadN 6 v2 h3 fun v377 =>
bindS (ih 78 [v377, (.bool false), (.bool false), (.bool true)] h3) fun v378 h379 =>
guardS v378 true (addrS 3 v2 fun v380 =>
some (v380, h379)) h379 fun v381 h382 =>
guardS v378 true (load1 v381 h382 fun v383 =>
some (v383, h382)) h382 fun v384 h385 =>
guardS v378 true (lenSl v384 fun v386 =>
some (v386, h385)) h385 fun v387 h388 =>
guardS v378 true (intS .eql v387 (.int .i64 (.ofNat 1)) fun v389 =>
some (v389, h388)) h388 fun v390 h391 =>
optS (pickV v378 v390 (.bool false)) fun v392 =>
guardS v392 true (addrS 3 v2 fun v393 =>
some (v393, h391)) h391 fun v394 h395 =>
guardS v392 true (load1 v394 h395 fun v396 =>
some (v396, h395)) h395 fun v397 h398 =>
guardS v392 true (idxS 1 v397 (.int .i64 (.ofNat 0)) fun v399 =>
some (v399, h398)) h398 fun v400 h401 =>
guardS v392 true (load1 v400 h401 fun v402 =>
some (v402, h401)) h401 fun v403 h404 =>
guardS v392 true (bindS (ih 166 [v403] h404) fun v405 h406 =>
some (v405, h406)) h404 fun v407 h408 =>
optS (pickV v392 v407 (.bool false)) fun v409 =>
guardS v409 true (some (v6, h408)) h408 fun v410 h411 =>
guardS v409 true (intS .eql v410 (.int .i64 (.ofNat 1)) fun v412 =>
some (v412, h411)) h411 fun v413 h414 =>
optS (pickV v409 v413 (.bool false)) fun v415 =>
guardS v415 true (loadN 2 v0 h414 fun v416 =>
some (v416, h414)) h414 fun v417 h418 =>
guardS v415 true (loadN 6 v2 h418 fun v419 =>
some (v419, h418)) h418 fun v420 h421 =>
guardS v415 true (bindS (ih 154 [v417, v420, (.int .i64 (.ofNat 0))] h421) fun v422 h423 =>
some (v422, h423)) h421 fun v424 h425 =>
guardS v415 true (intS .eql v424 (.int .u8 (.ofNat 26)) fun v426 =>
some (v426, h425)) h425 fun v427 h428 =>
optS (pickV v415 v427 (.bool false)) fun v429 =>
some (v429, h428)) (
intS .eql v8 (.int .u8 (.ofNat 12)) fun v430 =>
ifS v430 (
loadN 6 v2 h3 fun v431 =>
bindS (ih 78 [v431, (.bool false), (.bool false), (.bool false)] h3) fun v432 h433 =>
guardS v432 true (loadN 2 v0 h433 fun v434 =>
some (v434, h433)) h433 fun v435 h436 =>
guardS v432 true (loadN 6 v2 h436 fun v437 =>
some (v437, h436)) h436 fun v438 h439 =>
guardS v432 true (some (v6, h439)) h439 fun v440 h441 =>
guardS v432 true (bindS (ih 158 [v435, v438, (.int .i64 (.ofNat 0)), v440, (.int .i64 (.ofNat 0))] h441) fun v442 h443 =>
some (v442, h443)) h441 fun v444 h445 =>
optS (pickV v432 v444 (.bool false)) fun v446 =>
some (v446, h445)) (
intS .eql v8 (.int .u8 (.ofNat 13)) fun v447 =>
ifS v447 (
loadN 6 v2 h3 fun v448 =>
bindS (ih 78 [v448, (.bool false), (.bool false), (.bool false)] h3) fun v449 h450 =>
guardS v449 true (some (v6, h450)) h450 fun v451 h452 =>
guardS v449 true (intS .eql v451 (.int .i64 (.ofNat 0)) fun v453 =>
some (v453, h452)) h452 fun v454 h455 =>
optS (pickV v449 v454 (.bool false)) fun v456 =>
some (v456, h455)) (
loadN 6 v2 h3 fun v457 =>
bindS (ih 78 [v457, (.bool false), (.bool true), (.bool false)] h3) fun v458 h459 =>
guardS v458 true (some (v6, h459)) h459 fun v460 h461 =>
guardS v458 true (intS .eql v460 (.int .i64 (.ofNat 0)) fun v462 =>
some (v462, h461)) h461 fun v463 h464 =>
optS (pickV v458 v463 (.bool false)) fun v465 =>
guardS v465 true (addrS 2 v2 fun v466 =>
some (v466, h464)) h464 fun v467 h468 =>
guardS v465 true (load1 v467 h468 fun v469 =>
some (v469, h468)) h468 fun v470 h471 =>
guardS v465 true (bindS (ih 166 [v470] h471) fun v472 h473 =>
some (v472, h473)) h471 fun v474 h475 =>
optS (pickV v465 v474 (.bool false)) fun v476 =>
some (v476, h475)))))))))))))
noncomputable def G86 : Sh := fun ih vs h => consE (fun a0 => consE (fun a1 => nilE (B86 ih a0 a1 h))) vs
noncomputable def B82 (ih : Nat → List V → Hp → VH) (a0 : V) (h : Hp) : VH :=
intS .geq a0 (.int .u8 (.ofNat 2)) fun v0 =>
guardS v0 true (some (a0, h)) h fun v1 h2 =>
guardS v0 true (intS .leq v1 (.int .u8 (.ofNat 15)) fun v3 =>
some (v3, h2)) h2 fun v4 h5 =>
optS (pickV v0 v4 (.bool false)) fun v6 =>
some (v6, h5)
noncomputable def G82 : Sh := fun ih vs h => consE (fun a0 => nilE (B82 ih a0 h)) vs
noncomputable def B80 (ih : Nat → List V → Hp → VH) (a0 a1 a2 a3 a4 : V) (h : Hp) : VH :=
newS 60 (vcells a0) h fun v0 h1 =>
newS 43 (vcells a1) h1 fun v2 h3 =>
ih 85 [a3, a4, v0, v2, a2] h3
noncomputable def G80 : Sh := fun ih vs h => consE (fun a0 => consE (fun a1 => consE (fun a2 => consE (fun a3 => consE (fun a4 => nilE (B80 ih a0 a1 a2 a3 a4 h)))))) vs
noncomputable def B85 (ih : Nat → List V → Hp → VH) (a3 a4 a5 a6 a11 : V) (h : Hp) : VH :=
intS .lss a11 a3 fun v4 =>
ifS v4 (
loadN 2 a5 h fun v5 =>
loadN 6 a6 h fun v6 =>
bindS (ih 154 [v5, v6, a11] h) fun v7 h8 =>
bindS (dynE ih a4 [v7] h8) fun v9 h10 =>
notS v9 fun v11 =>
ifS v11 (
some ((.bool false), h10)) (
intS .add a11 (.int .i64 (.ofNat 1)) fun v12 =>
ih 85 [a3, a4, a5, a6, v12] h10)) (
some ((.bool true), h))
noncomputable def G85 : Sh := fun ih vs h => consE (fun a3 => consE (fun a4 => consE (fun a5 => consE (fun a6 => consE (fun a11 => nilE (B85 ih a3 a4 a5 a6 a11 h)))))) vs
noncomputable def B78 (ih : Nat → List V → Hp → VH) (a0 a1 a2 a3 : V) (h : Hp) : VH :=
newS 43 (vcells a0) h fun v0 h1 =>
guardS a1 false (addrS 1 v0 fun v2 =>
some (v2, h1)) h1 fun v3 h4 =>
guardS a1 false (load1 v3 h4 fun v5 =>
some (v5, h4)) h4 fun v6 h7 =>
guardS a1 false (intS .eql v6 (.int .i64 (.ofNat 0)) fun v8 =>
some (v8, h7)) h7 fun v9 h10 =>
optS (pickV a1 (.bool true) v9) fun v11 =>
guardS v11 true (some (a2, h10)) h10 fun v12 h13 =>
guardS v11 true (some (v12, h13)) h13 fun v14 h15 =>
guardS v14 false (addrS 2 v0 fun v16 =>
some (v16, h15)) h15 fun v17 h18 =>
guardS v14 false (load1 v17 h18 fun v19 =>
some (v19, h18)) h18 fun v20 h21 =>
guardS v14 false (strS .eql v20 (.str (us [])) fun v22 =>
some (v22, h21)) h21 fun v23 h24 =>
guardS v11 true (optS (pickV v14 (.bool true) v23) fun v25 =>
some (v25, h24)) h24 fun v26 h27 =>
optS (pickV v11 v26 (.bool false)) fun v28 =>
guardS v28 true (some (a3, h27)) h27 fun v29 h30 =>
guardS v28 true (some (v29, h30)) h30 fun v31 h32 =>
guardS v31 false (addrS 3 v0 fun v33 =>
some (v33, h32)) h32 fun v34 h35 =>
guardS v31 false (load1 v34 h35 fun v36 =>
some (v36, h35)) h35 fun v37 h38 =>
guardS v31 false (lenSl v37 fun v39 =>
some (v39, h38)) h38 fun v40 h41 =>
guardS v31 false (intS .eql v40 (.int .i64 (.ofNat 0)) fun v42 =>
some (v42, h41)) h41 fun v43 h44 =>
guardS v28 true (optS (pickV v31 (.bool true) v43) fun v45 =>
some (v45, h44)) h44 fun v46 h47 =>
optS (pickV v28 v46 (.bool false)) fun v48 =>
some (v48, h47)
noncomputable def G78 : Sh := fun ih vs h => consE (fun a0 => consE (fun a1 => consE (fun a2 => consE (fun a3 => nilE (B78 ih a0 a1 a2 a3 h))))) vs
noncomputable def B84 (ih : Nat → List V → Hp → VH) (a0 : V) (h : Hp) : VH :=
intS .neq a0 (.int .u8 (.ofNat 12)) fun v0 =>
some (v0, h)
noncomputable def G84 : Sh := fun ih vs h => consE (fun a0 => nilE (B84 ih a0 h)) vs
noncomputable def B94 (ih : Nat → List V → Hp → VH) (a0 a1 : V) (h : Hp) : VH :=
lenSl a0 fun v0 =>
ih 87 [a0, a1, v0, (.int .i64 (.ofNat 0))] h
noncomputable def G94 : Sh := fun ih vs h => consE (fun a0 => consE (fun a1 => nilE (B94 ih a0 a1 h))) vs
noncomputable def B87 (ih : Nat → List V → Hp → VH) (a0 a1 a7 a8 : V) (h : Hp) : VH :=
intS .lss a8 a7 fun v1 =>
ifS v1 (
idxS 1 a0 a8 fun v2 =>
load1 v2 h fun v3 =>
eqS .bool .eql a1 v3 fun v4 =>
ifS v4 (
some (a8, h)) (
intS .add a8 (.int .i64 (.ofNat 1)) fun v5 =>
ih 87 [a0, a1, a7, v5] h)) (
some ((.int .i64 (.negSucc 0)), h))
noncomputable def G87 : Sh := fun ih vs h => consE (fun a0 => consE (fun a1 => consE (fun a7 => consE (fun a8 => nilE (B87 ih a0 a1 a7 a8 h))))) vs
noncomputable def B66 (ih : Nat → List V → Hp → VH) (a0 : V) (h : Hp) : VH :=
nilS a0 fun v0 =>
addrS 0 v0 fun v1 =>
load1 v1 h fun v2 =>
idxS 4 v2 (.int .i64 (.ofNat 0)) fun v3 =>
addrS 3 v3 fun v4 =>
load1 v4 h fun v5 =>
some (v5, h)
noncomputable def G66 : Sh := fun ih vs h => consE (fun a0 => nilE (B66 ih a0 h)) vs
noncomputable def B76 (ih : Nat → List V → Hp → VH) (a0 a1 : V) (h : Hp) : VH :=
bindS (ih 66 [a0] h) fun v0 h1 =>
bindS (bldStruct h1 [(5, v0)] (.agg [(.int .u8 (.ofNat 0)), (.int .i64 (.ofNat 0)), (.str (us [])), .nilSlice, .nilSlice, (.int .i64 (.ofNat 0))]) (some [(0, 1), (1, 1), (2, 1), (3, 1), (4, 1), (5, 1)])) fun v2 h3 =>
newS 43 [(.int .u8 (.ofNat 0)), (.int .i64 (.ofNat 0)), (.str (us [])), .nilSlice, .nilSlice, (.int .i64 (.ofNat 0))] h3 fun v4 h5 =>
storeN 6 v4 v2 h5 fun h6 =>
bindS (ih 72 [a0, (.str (us [119, 104, 105, 108, 101]))] h6) fun v7 h8 =>
ifS v7 (
bindS (ih 74 [a0] h8) fun v9 h10 =>
addrS 0 v4 fun v11 =>
storeC v11 (.int .u8 (.ofNat 6)) h10 fun h12 =>
bindS (ih 142 [a0, a1, (.int .i64 (.ofNat 0))] h12) fun v13 h14 =>
bindS (bldSl h14 [(0, v13)] 3 1 1 (.int .i64 (.ofNat 0))) fun v15 h16 =>
addrS 4 v4 fun v17 =>
storeC v17 v15 h16 fun h18 =>
bindS (ih 144 [a0, (.str (us [100, 111]))] h18) fun v19 h20 =>
addrS 4 v4 fun v21 =>
load1 v21 h20 fun v22 =>
bindS (ih 28 [a0, a1] ⟨h20.t, h20.n, h20.n⟩) fun v23 h24 =>
cD ((pureB h20 h24 || sameA h20 h24 v21 (vcells v22).length) && true) (
wroteS h20.low h24 fun h25 =>
bindS (bldSl ⟨h25.t, h25.n, h25.n⟩ [(0, v23)] 3 1 1 (.int .i64 (.ofNat 0))) fun v26 h27 =>
madeS h25.n h25.low h27 fun h28 =>
bindS (appS 3 8 1 v22 v26 h28) fun v29 h30 =>
addrS 4 v4 fun v31 =>
storeC v31 v29 h30 fun h32 =>
bindS (ih 144 [a0, (.str (us [101, 110, 100]))] h32) fun v33 h34 =>
ih 89 [a0, v4] h34) none) (
bindS (ih 72 [a0, (.str (us [100, 111]))] h8) fun v35 h36 =>
ifS v35 (
bindS (ih 74 [a0] h36) fun v37 h38 =>
addrS 0 v4 fun v39 =>
storeC v39 (.int .u8 (.ofNat 5)) h38 fun h40 =>
bindS (ih 28 [a0, a1] h40) fun v41 h42 =>
bindS (bldSl h42 [(0, v41)] 3 1 1 (.int .i64 (.ofNat 0))) fun v43 h44 =>
addrS 4 v4 fun v45 =>
storeC v45 v43 h44 fun h46 =>
bindS (ih 144 [a0, (.str (us [101, 110, 100]))] h46) fun v47 h48 =>
ih 89 [a0, v4] h48) (
bindS (ih 72 [a0, (.str (us [114, 101, 112, 101, 97, 116]))] h36) fun v49 h50 =>
ifS v49 (
bindS (ih 74 [a0] h50) fun v51 h52 =>
addrS 0 v4 fun v53 =>
storeC v53 (.int .u8 (.ofNat 7)) h52 fun h54 =>
bindS (ih 28 [a0, a1] h54) fun v55 h56 =>
bindS (bldSl h56 [(0, v55)] 3 1 1 (.int .i64 (.ofNat 0))) fun v57 h58 =>
addrS 4 v4 fun v59 =>
storeC v59 v57 h58 fun h60 =>
bindS (ih 144 [a0, (.str (us [117, 110, 116, 105, 108]))] h60) fun v61 h62 =>
addrS 4 v4 fun v63 =>
load1 v63 h62 fun v64 =>
bindS (ih 142 [a0, a1, (.int .i64 (.ofNat 0))] ⟨h62.t, h62.n, h62.n⟩) fun v65 h66 =>
cD ((pureB h62 h66 || sameA h62 h66 v63 (vcells v64).length) && true) (
wroteS h62.low h66 fun h67 =>
bindS (bldSl ⟨h67.t, h67.n, h67.n⟩ [(0, v65)] 3 1 1 (.int .i64 (.ofNat 0))) fun v68 h69 =>
madeS h67.n h67.low h69 fun h70 =>
bindS (appS 3 8 1 v64 v68 h70) fun v71 h72 =>
addrS 4 v4 fun v73 =>
storeC v73 v71 h72 fun h74 =>
ih 89 [a0, v4] h74) none) (
bindS (ih 72 [a0, (.str (us [105, 102]))] h50) fun v75 h76 =>
ifS v75 (
addrS 0 v4 fun v77 =>
storeC v77 (.int .u8 (.ofNat 8)) h76 fun h78 =>
bindS (ih 146 [a0, a1] h78) fun v79 h80 =>
addrS 4 v4 fun v81 =>
storeC v81 v79 h80 fun h82 =>
ih 89 [a0, v4] h82) (
bindS (ih 72 [a0, (.str (us [102, 111, 114]))] h76) fun v83 h84 =>
ifS v83 (
bindS (ih 74 [a0] h84) fun v85 h86 =>
bindS (ih 148 [a0, v4, a1] h86) fun v87 h88 =>
ih 89 [a0, v4] h88) (
bindS (ih 72 [a0, (.str (us [114, 101, 116, 117, 114, 110]))] h84) fun v89 h90 =>
ifS v89 (
bindS (ih 74 [a0] h90) fun v91 h92 =>
addrS 0 v4 fun v93 =>
storeC v93 (.int .u8 (.ofNat 12)) h92 fun h94 =>
bindS (ih 70 [a0] h94) fun v95 h96 =>
notS v95 fun v97 =>
guardS v97 true (some (a0, h96)) h96 fun v98 h99 =>
guardS v97 true (bindS (ih 72 [v98, (.str (us [59]))] h99) fun v100 h101 =>
some (v100, h101)) h99 fun v102 h103 =>
guardS v97 true (notS v102 fun v104 =>
some (v104, h103)) h103 fun v105 h106 =>
optS (pickV v97 v105 (.bool false)) fun v107 =>
ifS v107 (
bindS (ih 150 [a0, a1] h106) fun v108 h109 =>
addrS 4 v4 fun v110 =>
storeC v110 v108 h109 fun h111 =>
ih 91 [a0, v4] h111) (
ih 91 [a0, v4] h106)) (
bindS (ih 152 [a0, v4, a1] h90) fun v112 h113 =>
ih 89 [a0, v4] h113))))))
noncomputable def G76 : Sh := fun ih vs h => consE (fun a0 => consE (fun a1 => nilE (B76 ih a0 a1 h))) vs
noncomputable def B89 (ih : Nat → List V → Hp → VH) (a0 a5 : V) (h : Hp) : VH :=
loadN 6 a5 h fun v114 =>
bindS (ih 34 [a0, v114] h) fun v115 h116 =>
some (v115, h116)
noncomputable def G89 : Sh := fun ih vs h => consE (fun a0 => consE (fun a5 => nilE (B89 ih a0 a5 h))) vs
noncomputable def B91 (ih : Nat → List V → Hp → VH) (a0 a5 : V) (h : Hp) : VH :=
loadN 6 a5 h fun v117 =>
bindS (ih 34 [a0, v117] h) fun v118 h119 =>
bindS (ih 72 [a0, (.str (us [59]))] h119) fun v120 h121 =>
ifS v120 (
bindS (ih 74 [a0] h121) fun v122 h123 =>
ih 93 [v118] h123) (
ih 93 [v118] h121)
noncomputable def G91 : Sh := fun ih vs h => consE (fun a0 => consE (fun a5 => nilE (B91 ih a0 a5 h))) vs
noncomputable def B93 (ih : Nat → List V → Hp → VH) (a6 : V) (h : Hp) : VH :=
some (a6, h)
noncomputable def G93 : Sh := fun ih vs h => consE (fun a6 => nilE (B93 ih a6 h)) vs
noncomputable def B72 (ih : Nat → List V → Hp → VH) (a0 a1 : V) (h : Hp) : VH :=
bindS (ih 36 [a0] h) fun v0 h1 =>
notS v0 fun v2 =>
guardS v2 true (some (a0, h1)) h1 fun v3 h4 =>
guardS v2 true (nilS v3 fun v5 =>
some (v5, h4)) h4 fun v6 h7 =>
guardS v2 true (addrS 0 v6 fun v8 =>
some (v8, h7)) h7 fun v9 h10 =>
guardS v2 true (load1 v9 h10 fun v11 =>
some (v11, h10)) h10 fun v12 h13 =>
guardS v2 true (idxS 4 v12 (.int .i64 (.ofNat 0)) fun v14 =>
some (v14, h13)) h13 fun v15 h16 =>
guardS v2 true (addrS 0 v15 fun v17 =>
some (v17, h16)) h16 fun v18 h19 =>
guardS v2 true (load1 v18 h19 fun v20 =>
some (v20, h19)) h19 fun v21 h22 =>
guardS v2 true (intS .eql v21 (.int .u8 (.ofNat 2)) fun v23 =>
some (v23, h22)) h22 fun v24 h25 =>
guardS v2 true (some (v24, h25)) h25 fun v26 h27 =>
guardS v26 false (some (a0, h27)) h27 fun v28 h29 =>
guardS v26 false (nilS v28 fun v30 =>
some (v30, h29)) h29 fun v31 h32 =>
guardS v26 false (addrS 0 v31 fun v33 =>
some (v33, h32)) h32 fun v34 h35 =>
guardS v26 false (load1 v34 h35 fun v36 =>
some (v36, h35)) h35 fun v37 h38 =>
guardS v26 false (idxS 4 v37 (.int .i64 (.ofNat 0)) fun v39 =>
some (v39, h38)) h38 fun v40 h41 =>
guardS v26 false (addrS 0 v40 fun v42 =>
some (v42, h41)) h41 fun v43 h44 =>
guardS v26 false (load1 v43 h44 fun v45 =>
some (v45, h44)) h44 fun v46 h47 =>
guardS v26 false (intS .eql v46 (.int .u8 (.ofNat 3)) fun v48 =>
some (v48, h47)) h47 fun v49 h50 =>
guardS v2 true (optS (pickV v26 (.bool true) v49) fun v51 =>
some (v51, h50)) h50 fun v52 h53 =>
optS (pickV v2 v52 (.bool false)) fun v54 =>
guardS v54 true (some (a0, h53)) h53 fun v55 h56 =>
guardS v54 true (nilS v55 fun v57 =>
some (v57, h56)) h56 fun v58 h59 =>
guardS v54 true (addrS 0 v58 fun v60 =>
some (v60, h59)) h59 fun v61 h62 =>
guardS v54 true (load1 v61 h62 fun v63 =>
some (v63, h62)) h62 fun v64 h65 =>
guardS v54 true (idxS 4 v64 (.int .i64 (.ofNat 0)) fun v66 =>
some (v66, h65)) h65 fun v67 h68 =>
guardS v54 true (addrS 1 v67 fun v69 =>
some (v69, h68)) h68 fun v70 h71 =>
guardS v54 true (load1 v70 h71 fun v72 =>
some (v72, h71)) h71 fun v73 h74 =>
guardS v54 true (some (a1, h74)) h74 fun v75 h76 =>
guardS v54 true (strS .eql v73 v75 fun v77 =>
some (v77, h76)) h76 fun v78 h79 =>
optS (pickV v54 v78 (.bool false)) fun v80 =>
some (v80, h79)
noncomputable def G72 : Sh := fun ih vs h => consE (fun a0 => consE (fun a1 => nilE (B72 ih a0 a1 h))) vs
noncomputable def B74 (ih : Nat → List V → Hp → VH) (a0 : V) (h : Hp) : VH :=
newS 81 [(.int .u8 (.ofNat 0)), (.str (us [])), (.int .i64 (.ofNat 0)), (.int .i64 (.ofNat 0))] h fun v0 h1 =>
nilS a0 fun v2 =>
addrS 0 v2 fun v3 =>
load1 v3 h1 fun v4 =>
idxS 4 v4 (.int .i64 (.ofNat 0)) fun v5 =>
loadN 4 v5 h1 fun v6 =>
newS 81 [(.int .u8 (.ofNat 0)), (.str (us [])), (.int .i64 (.ofNat 0)), (.int .i64 (.ofNat 0))] h1 fun v7 h8 =>
storeN 4 v7 v6 h8 fun h9 =>
bindS (ih 36 [a0] h9) fun v10 h11 =>
notS v10 fun v12 =>
guardS v12 true (some (a0, h11)) h11 fun v13 h14 =>
guardS v12 true (nilS v13 fun v15 =>
some (v15, h14)) h14 fun v16 h17 =>
guardS v12 true (addrS 0 v16 fun v18 =>
some (v18, h17)) h17 fun v19 h20 =>
guardS v12 true (load1 v19 h20 fun v21 =>
some (v21, h20)) h20 fun v22 h23 =>
guardS v12 true (lenSl v22 fun v24 =>
some (v24, h23)) h23 fun v25 h26 =>
guardS v12 true (intS .gtr v25 (.int .i64 (.ofNat 1)) fun v27 =>
some (v27, h26)) h26 fun v28 h29 =>
optS (pickV v12 v28 (.bool false)) fun v30 =>
ifS v30 (
nilS a0 fun v31 =>
addrS 0 v31 fun v32 =>
load1 v32 h29 fun v33 =>
bindS (slSlK 81 4 (some (.int .i64 (.ofNat 1))) none h29 v33) fun v34 h35 =>
nilS a0 fun v36 =>
addrS 0 v36 fun v37 =>
storeC v37 v34 h35 fun h38 =>
ih 95 [v0, v7] h38) (
ih 95 [v0, v7] h29)
noncomputable def G74 : Sh := fun ih vs h => consE (fun a0 => nilE (B74 ih a0 h)) vs
noncomputable def B95 (ih : Nat → List V → Hp → VH) (a2 a3 : V) (h : Hp) : VH :=
loadN 4 a3 h fun v39 =>
storeN 4 a2 v39 h fun h40 =>
loadN 4 a2 h40 fun v41 =>
some (v41, h40)
noncomputable def G95 : Sh := fun ih vs h => consE (fun a2 => consE (fun a3 => nilE (B95 ih a2 a3 h))) vs
noncomputable def B70 (ih : Nat → List V → Hp → VH) (a0 : V) (h : Hp) : VH :=
bindS (ih 30 [a0, (.int .u8 (.ofNat 6))] h) fun v0 h1 =>
guardS v0 false (some (a0, h1)) h1 fun v2 h3 =>
guardS v0 false (bindS (bldSl h3 [(0, (.str (us [101, 110, 100]))), (1, (.str (us [101, 108, 115, 101]))), (2, (.str (us [101, 108, 115, 101, 105, 102]))), (3, (.str (us [117, 110, 116, 105, 108])))] 9 4 1 (.str (us []))) fun v4 h5 =>
some (v4, h5)) h3 fun v6 h7 =>
guardS v0 false (bindS (ih 140 [v2, v6] h7) fun v8 h9 =>
some (v8, h9)) h7 fun v10 h11 =>
optS (pickV v0 (.bool true) v10) fun v12 =>
some (v12, h11)
noncomputable def G70 : Sh := fun ih vs h => consE (fun a0 => nilE (B70 ih a0 h)) vs
noncomputable def B68 (ih : Nat → List V → Hp → VH) (a0 a1 : V) (h : Hp) : VH :=
intS .gtr a1 (.int .i64 (.ofNat 100)) fun v0 =>
ifS v0 (
bindS (ih 32 [a0, (.int .i64 (.ofNat 3))] h) fun v1 h2 =>
some (.tuple [], h2)) (
some (.tuple [], h))
noncomputable def G68 : Sh := fun ih vs h => consE (fun a0 => consE (fun a1 => nilE (B68 ih a0 a1 h))) vs
noncomputable def B60 (ih : Nat → List V → Hp → VH) (a0 : V) (h : Hp) : VH :=
ih 97 [a0, (.int .i64 (.ofNat 0)), (.int .i64 (.ofNat 0))] h
noncomputable def G60 : Sh := fun ih vs h => consE (fun a0 => nilE (B60 ih a0 h)) vs
noncomputable def B97 (ih : Nat → List V → Hp → VH) (a0 a3 a4 : V) (h : Hp) : VH :=
lenStr a0 fun v0 =>
intS .lss a4 v0 fun v1 =>
ifS v1 (
bindS (ih 116 [a0, a4] h) fun v2 h3 =>
intS .gtr v2 (.int .i64 (.ofNat 0)) fun v4 =>
ifS v4 (
intS .add a3 (.int .i64 (.ofNat 1)) fun v5 =>
intS .add a4 v2 fun v6 =>
intS .sub v6 (.int .i64 (.ofNat 1)) fun v7 =>
ih 99 [a0, v5, v7] h3) (
ih 99 [a0, a3, a4] h3)) (
some (a3, h))
noncomputable def G97 : Sh := fun ih vs h => consE (fun a0 => consE (fun a3 => consE (fun a4 => nilE (B97 ih a0 a3 a4 h)))) vs
noncomputable def B99 (ih : Nat → List V → Hp → VH) (a0 a3 a4 : V) (h : Hp) : VH :=
intS .add a4 (.int .i64 (.ofNat 1)) fun v8 =>
ih 97 [a0, a3, v8] h
noncomputable def G99 : Sh := fun ih vs h => consE (fun a0 => consE (fun a3 => consE (fun a4 => nilE (B99 ih a0 a3 a4 h)))) vs
noncomputable def B64 (ih : Nat → List V → Hp → VH) (a0 a1 : V) (h : Hp) : VH :=
newS 81 [(.int .u8 (.ofNat 0)), (.str (us [])), (.int .i64 (.ofNat 0)), (.int .i64 (.ofNat 0))] h fun v0 h1 =>
ih 101 [a0, a1, v0, (.int .i64 (.ofNat 0))] h1
noncomputable def G64 : Sh := fun ih vs h => consE (fun a0 => consE (fun a1 => nilE (B64 ih a0 a1 h))) vs
noncomputable def B101 (ih : Nat → List V → Hp → VH) (a0 a1 a4 a7 : V) (h : Hp) : VH :=
intS .add a1 a7 fun v2 =>
bindS (ih 124 [a0, v2] h) fun v3 h4 =>
bindS (ih 122 [v3] h4) fun v5 h6 =>
guardS v5 false (some (a7, h6)) h6 fun v7 h8 =>
guardS v5 false (intS .gtr v7 (.int .i64 (.ofNat 0)) fun v9 =>
some (v9, h8)) h8 fun v10 h11 =>
guardS v5 false (some (v10, h11)) h11 fun v12 h13 =>
guardS v12 true (some (a0, h13)) h13 fun v14 h15 =>
guardS v12 true (some (a1, h15)) h15 fun v16 h17 =>
guardS v12 true (some (a7, h17)) h17 fun v18 h19 =>
guardS v12 true (intS .add v16 v18 fun v20 =>
some (v20, h19)) h19 fun v21 h22 =>
guardS v12 true (bindS (ih 124 [v14, v21] h22) fun v23 h24 =>
some (v23, h24)) h22 fun v25 h26 =>
guardS v12 true (bindS (ih 126 [v25] h26) fun v27 h28 =>
some (v27, h28)) h26 fun v29 h30 =>
guardS v5 false (optS (pickV v12 v29 (.bool false)) fun v31 =>
some (v31, h30)) h30 fun v32 h33 =>
optS (pickV v5 (.bool true) v32) fun v34 =>
ifS v34 (
intS .add a7 (.int .i64 (.ofNat 1)) fun v35 =>
ih 101 [a0, a1, a4, v35] h33) (
intS .gtr a7 (.int .i64 (.ofNat 0)) fun v36 =>
ifS v36 (
intS .add a1 a7 fun v37 =>
slStrK (some a1) (some v37) a0 fun v38 =>
bindS (bldStruct h33 [(0, (.int .u8 (.ofNat 1))), (1, v38)] (.agg [(.int .u8 (.ofNat 0)), (.str (us [])), (.int .i64 (.ofNat 0)), (.int .i64 (.ofNat 0))]) (some [(0, 1), (1, 1), (2, 1), (3, 1)])) fun v39 h40 =>
newS 81 [(.int .u8 (.ofNat 0)), (.str (us [])), (.int .i64 (.ofNat 0)), (.int .i64 (.ofNat 0))] h40 fun v41 h42 =>
storeN 4 v41 v39 h42 fun h43 =>
addrS 1 v41 fun v44 =>
load1 v44 h43 fun v45 =>
bindS (ih 128 [v45] h43) fun v46 h47 =>
ifS v46 (
addrS 0 v41 fun v48 =>
storeC v48 (.int .u8 (.ofNat 2)) h47 fun h49 =>
ih 103 [a4, a7, v41] h49) (
ih 103 [a4, a7, v41] h47)) (
bindS (ih 130 [a0, a1] h33) fun v50 h51 =>
intS .gtr v50 (.int .i64 (.ofNat 0)) fun v52 =>
ifS v52 (
intS .add a1 v50 fun v53 =>
slStrK (some a1) (some v53) a0 fun v54 =>
bindS (ih 132 [v54] h51) fun v55 h56 =>
extS 0 v55 fun v57 =>
extS 1 v55 fun v58 =>
bindS (bldStruct h56 [(0, (.int .u8 (.ofNat 4))), (2, v57)] (.agg [(.int .u8 (.ofNat 0)), (.str (us [])), (.int .i64 (.ofNat 0)), (.int .i64 (.ofNat 0))]) (some [(0, 1), (1, 1), (2, 1), (3, 1)])) fun v59 h60 =>
storeN 4 a4 v59 h60 fun h61 =>
loadN 4 a4 h61 fun v62 =>
some (.tuple [v62, v50, v58], h61)) (
bindS (ih 120 [a0, a1] h51) fun v63 h64 =>
extS 0 v63 fun v65 =>
extS 1 v63 fun v66 =>
extS 2 v63 fun v67 =>
ifS v67 (
intS .eql v66 (.int .i64 (.ofNat 0)) fun v68 =>
ifS v68 (
bindS (bldStruct h64 [] (.agg [(.int .u8 (.ofNat 0)), (.str (us [])), (.int .i64 (.ofNat 0)), (.int .i64 (.ofNat 0))]) (some [(0, 1), (1, 1), (2, 1), (3, 1)])) fun v69 h70 =>
storeN 4 a4 v69 h70 fun h71 =>
loadN 4 a4 h71 fun v72 =>
some (.tuple [v72, (.int .i64 (.ofNat 0)), (.int .i64 (.ofNat 30))], h71)) (
bindS (bldStruct h64 [(0, (.int .u8 (.ofNat 5))), (1, v65)] (.agg [(.int .u8 (.ofNat 0)), (.str (us [])), (.int .i64 (.ofNat 0)), (.int .i64 (.ofNat 0))]) (some [(0, 1), (1, 1), (2, 1), (3, 1)])) fun v73 h74 =>
storeN 4 a4 v73 h74 fun h75 =>
loadN 4 a4 h75 fun v76 =>
some (.tuple [v76, v66, (.int .i64 (.ofNat 0))], h75))) (
idxStr a0 a1 fun v77 =>
intS .eql v77 (.int .u8 (.ofNat 34)) fun v78 =>
guardS v78 false (some (a0, h64)) h64 fun v79 h80 =>
guardS v78 false (some (a1, h80)) h80 fun v81 h82 =>
guardS v78 false (idxStr v79 v81 fun v83 =>
some (v83, h82)) h82 fun v84 h85 =>
guardS v78 false (intS .eql v84 (.int .u8 (.ofNat 39)) fun v86 =>
some (v86, h85)) h85 fun v87 h88 =>
optS (pickV v78 (.bool true) v87) fun v89 =>
ifS v89 (
bindS (ih 134 [a0, a1] h88) fun v90 h91 =>
intS .add a1 v90 fun v92 =>
slStrK (some a1) (some v92) a0 fun v93 =>
bindS (ih 136 [v93] h91) fun v94 h95 =>
extS 0 v94 fun v96 =>
extS 1 v94 fun v97 =>
bindS (bldStruct h95 [(0, (.int .u8 (.ofNat 5))), (1, v96)] (.agg [(.int .u8 (.ofNat 0)), (.str (us [])), (.int .i64 (.ofNat 0)), (.int .i64 (.ofNat 0))]) (some [(0, 1), (1, 1), (2, 1), (3, 1)])) fun v98 h99 =>
storeN 4 a4 v98 h99 fun h100 =>
loadN 4 a4 h100 fun v101 =>
some (.tuple [v101, v90, v97], h100)) (
bindS (ih 118 [a0, a1, (.str (us [91, 61]))] h88) fun v102 h103 =>
ifS v102 (
bindS (bldStruct h103 [] (.agg [(.int .u8 (.ofNat 0)), (.str (us [])), (.int .i64 (.ofNat 0)), (.int .i64 (.ofNat 0))]) (some [(0, 1), (1, 1), (2, 1), (3, 1)])) fun v104 h105 =>
storeN 4 a4 v104 h105 fun h106 =>
loadN 4 a4 h106 fun v107 =>
some (.tuple [v107, (.int .i64 (.ofNat 0)), (.int .i64 (.ofNat 30))], h106)) (
bindS (ih 138 [a0, a1] h103) fun v108 h109 =>
extS 0 v108 fun v110 =>
extS 1 v108 fun v111 =>
extS 2 v108 fun v112 =>
storeN 4 a4 v110 h109 fun h113 =>
loadN 4 a4 h113 fun v114 =>
some (.tuple [v114, v111, v112], h113)))))))
noncomputable def G101 : Sh := fun ih vs h => consE (fun a0 => consE (fun a1 => consE (fun a4 => consE (fun a7 => nilE (B101 ih a0 a1 a4 a7 h))))) vs
noncomputable def B103 (ih : Nat → List V → Hp → VH) (a4 a7 a8 : V) (h : Hp) : VH :=
loadN 4 a8 h fun v115 =>
storeN 4 a4 v115 h fun h116 =>
loadN 4 a4 h116 fun v117 =>
some (.tuple [v117, a7, (.int .i64 (.ofNat 0))], h116)
noncomputable def G103 : Sh := fun ih vs h => consE (fun a4 => consE (fun a7 => consE (fun a8 => nilE (B103 ih a4 a7 a8 h)))) vs
noncomputable def B62 (ih : Nat → List V → Hp → VH) (a0 a1 : V) (h : Hp) : VH :=
bindS (ih 118 [a0, a1, (.str (us [45, 45]))] h) fun v0 h1 =>
notS v0 fun v2 =>
ifS v2 (
some (.tuple [(.int .i64 (.ofNat 0)), (.bool false)], h1)) (
intS .add a1 (.int .i64 (.ofNat 2)) fun v3 =>
bindS (ih 120 [a0, v3] h1) fun v4 h5 =>
extS 0 v4 fun v6 =>
extS 1 v4 fun v7 =>
extS 2 v4 fun v8 =>
ifS v8 (
intS .eql v7 (.int .i64 (.ofNat 0)) fun v9 =>
ifS v9 (
some (.tuple [(.int .i64 (.ofNat 0)), (.bool true)], h5)) (
intS .add v7 (.int .i64 (.ofNat 2)) fun v10 =>
some (.tuple [v10, (.bool true)], h5))) (
ih 105 [a0, a1, a1] h5))
noncomputable def G62 : Sh := fun ih vs h => consE (fun a0 => consE (fun a1 => nilE (B62 ih a0 a1 h))) vs
noncomputable def B105 (ih : Nat → List V → Hp → VH) (a0 a1 a9 : V) (h : Hp) : VH :=
lenStr a0 fun v11 =>
intS .lss a9 v11 fun v12 =>
guardS v12 true (some (a0, h)) h fun v13 h14 =>
guardS v12 true (some (a9, h14)) h14 fun v15 h16 =>
guardS v12 true (bindS (ih 116 [v13, v15] h16) fun v17 h18 =>
some (v17, h18)) h16 fun v19 h20 =>
guardS v12 true (intS .eql v19 (.int .i64 (.ofNat 0)) fun v21 =>
some (v21, h20)) h20 fun v22 h23 =>
optS (pickV v12 v22 (.bool false)) fun v24 =>
ifS v24 (
intS .add a9 (.int .i64 (.ofNat 1)) fun v25 =>
ih 105 [a0, a1, v25] h23) (
intS .sub a9 a1 fun v26 =>
some (.tuple [v26, (.bool true)], h23))
noncomputable def G105 : Sh := fun ih vs h => consE (fun a0 => consE (fun a1 => consE (fun a9 => nilE (B105 ih a0 a1 a9 h)))) vs
noncomputable def B58 (ih : Nat → List V → Hp → VH) (a0 : V) (h : Hp) : VH :=
bindS (ih 114 [a0, (.str (us [9, 10, 11, 12, 13, 32]))] h) fun v0 h1 =>
some (v0, h1)
noncomputable def G58 : Sh := fun ih vs h => consE (fun a0 => nilE (B58 ih a0 h)) vs
noncomputable def B186 (ih : Nat → List V → Hp → VH) (a0 a1 : V) (h : Hp) : VH :=
bindS (ih 110 [a0] h) fun v0 h1 =>
nilS a0 fun v2 =>
addrS 1 v2 fun v3 =>
load1 v3 h1 fun v4 =>
bindS (bldSl h1 [(0, a1)] 5 1 1 (.int .u8 (.ofNat 0))) fun v5 h6 =>
bindS (appS 5 1 1 v4 v5 h6) fun v7 h8 =>
nilS a0 fun v9 =>
addrS 1 v9 fun v10 =>
storeC v10 v7 h8 fun h11 =>
some (.nilIface, h11)
noncomputable def G186 : Sh := fun ih vs h => consE (fun a0 => consE (fun a1 => nilE (B186 ih a0 a1 h))) vs
noncomputable def B182 (ih : Nat → List V → Hp → VH) (a0 : V) (h : Hp) : VH :=
bindS (ih 230 [a0, (.int .i64 (.ofNat 10))] h) fun v0 h1 =>
some (v0, h1)
noncomputable def G182 : Sh := fun ih vs h => consE (fun a0 => nilE (B182 ih a0 h)) vs
noncomputable def B184 (ih : Nat → List V → Hp → VH) (a0 a1 : V) (h : Hp) : VH :=
bindS (ih 232 [a0, a1] h) fun v0 h1 =>
some (v0, h1)
noncomputable def G184 : Sh := fun ih vs h => consE (fun a0 => consE (fun a1 => nilE (B184 ih a0 a1 h))) vs
noncomputable def B178 (ih : Nat → List V → Hp → VH) (a0 a1 : V) (h : Hp) : VH :=
bindS (mkS 139 16 2 (.agg [(.int .i64 (.ofNat 0)), (.int .i64 (.ofNat 0))]) (.int .i64 (.ofNat 0)) (.int .i64 (.ofNat 32)) h) fun v0 h1 =>
none
noncomputable def G178 : Sh := fun ih vs h => consE (fun a0 => consE (fun a1 => nilE (B178 ih a0 a1 h))) vs
noncomputable def B107 (ih : Nat → List V → Hp → VH) (a0 a5 : V) (h : Hp) : VH :=
lenSl a5 fun v2 =>
bindS (mkS 9 16 1 (.str (us [])) v2 v2 h) fun v3 h4 =>
lenSl a5 fun v5 =>
ih 111 [a0, v3, a5, v5, (.int .i64 (.ofNat 0))] h4
noncomputable def G107 : Sh := fun ih vs h => consE (fun a0 => consE (fun a5 => nilE (B107 ih a0 a5 h))) vs
noncomputable def B109 (ih : Nat → List V → Hp → VH) (a0 a1 a5 a6 a14 : V) (h : Hp) : VH :=
none
noncomputable def G109 : Sh := fun ih vs h => consE (fun a0 => consE (fun a1 => consE (fun a5 => consE (fun a6 => consE (fun a14 => nilE (B109 ih a0 a1 a5 a6 a14 h)))))) vs
noncomputable def B111 (ih : Nat → List V → Hp → VH) (a0 a9 a47 a48 a49 : V) (h : Hp) : VH :=
intS .lss a49 a48 fun v6 =>
ifS v6 (
idxS 2 a47 a49 fun v7 =>
loadN 2 v7 h fun v8 =>
newS 139 [(.int .i64 (.ofNat 0)), (.int .i64 (.ofNat 0))] h fun v9 h10 =>
storeN 2 v9 v8 h10 fun h11 =>
addrS 0 v9 fun v12 =>
load1 v12 h11 fun v13 =>
addrS 1 v9 fun v14 =>
load1 v14 h11 fun v15 =>
slStrK (some v13) (some v15) a0 fun v16 =>
idxS 1 a9 a49 fun v17 =>
storeC v17 v16 h11 fun h18 =>
intS .add a49 (.int .i64 (.ofNat 1)) fun v19 =>
ih 111 [a0, a9, a47, a48, v19] h18) (
some (a9, h))
noncomputable def G111 : Sh := fun ih vs h => consE (fun a0 => consE (fun a9 => consE (fun a47 => consE (fun a48 => consE (fun a49 => nilE (B111 ih a0 a9 a47 a48 a49 h)))))) vs
noncomputable def B180 (ih : Nat → List V → Hp → VH) (a0 : V) (h : Hp) : VH :=
convI .u32 a0 fun v0 =>
intS .leq v0 (.int .u32 (.ofNat 255)) fun v1 =>
ifS v1 (
intS .eql a0 (.int .i32 (.ofNat 9)) fun v2 =>
ifS v2 (
ih 113 [v2] h) (
intS .eql a0 (.int .i32 (.ofNat 10)) fun v3 =>
ifS v3 (
ih 113 [v3] h) (
intS .eql a0 (.int .i32 (.ofNat 11)) fun v4 =>
ifS v4 (
ih 113 [v4] h) (
intS .eql a0 (.int .i32 (.ofNat 12)) fun v5 =>
ifS v5 (
ih 113 [v5] h) (
intS .eql a0 (.int .i32 (.ofNat 13)) fun v6 =>
ifS v6 (
ih 113 [v6] h) (
intS .eql a0 (.int .i32 (.ofNat 32)) fun v7 =>
ifS v7 (
ih 113 [v7] h) (
intS .eql a0 (.int .i32 (.ofNat 133)) fun v8 =>
ifS v8 (
ih 113 [v8] h) (
intS .eql a0 (.int .i32 (.ofNat 160)) fun v9 =>
ih 113 [v9] h)))))))) (
load1 (.ptr 1 0) h fun v10 =>
bindS (ih 228 [v10, a0] h) fun v11 h12 =>
some (v11, h12))
noncomputable def G180 : Sh := fun ih vs h => consE (fun a0 => nilE (B180 ih a0 h)) vs
noncomputable def B113 (ih : Nat → List V → Hp → VH) (a7 : V) (h : Hp) : VH :=
ifS a7 (
some ((.bool true), h)) (
some ((.bool false), h))
noncomputable def G113 : Sh := fun ih vs h => consE (fun a7 => nilE (B113 ih a7 h)) vs
noncomputable def B176 (ih : Nat → List V → Hp → VH) (a0 : V) (h : Hp) : VH :=
newS 43 (vcells a0) h fun v0 h1 =>
addrS 0 v0 fun v2 =>
load1 v2 h1 fun v3 =>
intS .eql v3 (.int .u8 (.ofNat 33)) fun v4 =>
ifS v4 (
some ((.int .i64 (.ofNat 1)), h1)) (
intS .eql v3 (.int .u8 (.ofNat 32)) fun v5 =>
ifS v5 (
some ((.int .i64 (.ofNat 2)), h1)) (
intS .eql v3 (.int .u8 (.ofNat 34)) fun v6 =>
ifS v6 (
some ((.int .i64 (.ofNat 11)), h1)) (
intS .eql v3 (.int .u8 (.ofNat 31)) fun v7 =>
ifS v7 (
addrS 1 v0 fun v8 =>
load1 v8 h1 fun v9 =>
convI .u8 v9 fun v10 =>
intS .geq v10 (.int .u8 (.ofNat 12)) fun v11 =>
ifS v11 (
some ((.int .i64 (.ofNat 3)), h1)) (
intS .eql v10 (.int .u8 (.ofNat 7)) fun v12 =>
ifS v12 (
some ((.int .i64 (.ofNat 4)), h1)) (
intS .eql v10 (.int .u8 (.ofNat 8)) fun v13 =>
ifS v13 (
some ((.int .i64 (.ofNat 5)), h1)) (
intS .eql v10 (.int .u8 (.ofNat 6)) fun v14 =>
ifS v14 (
some ((.int .i64 (.ofNat 6)), h1)) (
intS .eql v10 (.int .u8 (.ofNat 9)) fun v15 =>
guardS v15 false (some (v10, h1)) h1 fun v16 h17 =>
guardS v15 false (intS .eql v16 (.int .u8 (.ofNat 10)) fun v18 =>
some (v18, h17)) h17 fun v19 h20 =>
optS (pickV v15 (.bool true) v19) fun v21 =>
ifS v21 (
some ((.int .i64 (.ofNat 7)), h20)) (
intS .eql v10 (.int .u8 (.ofNat 11)) fun v22 =>
ifS v22 (
some ((.int .i64 (.ofNat 8)), h20)) (
intS .eql v10 (.int .u8 (.ofNat 1)) fun v23 =>
guardS v23 false (some (v10, h20)) h20 fun v24 h25 =>
guardS v23 false (intS .eql v24 (.int .u8 (.ofNat 2)) fun v26 =>
some (v26, h25)) h25 fun v27 h28 =>
optS (pickV v23 (.bool true) v27) fun v29 =>
ifS v29 (
some ((.int .i64 (.ofNat 9)), h28)) (
some ((.int .i64 (.ofNat 10)), h28))))))))) (
some ((.int .i64 (.ofNat 12)), h1)))))
noncomputable def G176 : Sh := fun ih vs h => consE (fun a0 => nilE (B176 ih a0 h)) vs
noncomputable def B174 (ih : Nat → List V → Hp → VH) (a0 a1 a2 : V) (h : Hp) : VH :=
addrS 0 a1 fun v0 =>
addrS 0 v0 fun v1 =>
load1 v1 h fun v2 =>
addrS 4 a2 fun v3 =>
load1 v3 h fun v4 =>
idxS 1 v4 a0 fun v5 =>
load1 v5 h fun v6 =>
idxS 6 v2 v6 fun v7 =>
loadN 6 v7 h fun v8 =>
bindS (ih 176 [v8] h) fun v9 h10 =>
some (v9, h10)
noncomputable def G174 : Sh := fun ih vs h => consE (fun a0 => consE (fun a1 => consE (fun a2 => nilE (B174 ih a0 a1 a2 h)))) vs
noncomputable def B168 (ih : Nat → List V → Hp → VH) (a0 a1 a2 : V) (h : Hp) : VH :=
newS 60 (vcells a0) h fun v0 h1 =>
newS 43 (vcells a1) h1 fun v2 h3 =>
addrS 4 v2 fun v4 =>
load1 v4 h3 fun v5 =>
lenSl v5 fun v6 =>
intS .eql v6 a2 fun v7 =>
guardS v7 true (loadN 2 v0 h3 fun v8 =>
some (v8, h3)) h3 fun v9 h10 =>
guardS v7 true (loadN 6 v2 h10 fun v11 =>
some (v11, h10)) h10 fun v12 h13 =>
guardS v7 true (some (a2, h13)) h13 fun v14 h15 =>
guardS v7 true (bindS (ih 80 [v9, v12, (.int .i64 (.ofNat 0)), v14, (.func 44 [] [])] h15) fun v16 h17 =>
some (v16, h17)) h15 fun v18 h19 =>
optS (pickV v7 v18 (.bool false)) fun v20 =>
some (v20, h19)
noncomputable def G168 : Sh := fun ih vs h => consE (fun a0 => consE (fun a1 => consE (fun a2 => nilE (B168 ih a0 a1 a2 h)))) vs
noncomputable def B158 (ih : Nat → List V → Hp → VH) (a0 a1 a2 a3 a4 : V) (h : Hp) : VH :=
newS 60 (vcells a0) h fun v0 h1 =>
newS 43 (vcells a1) h1 fun v2 h3 =>
intS .sub a3 a2 fun v4 =>
intS .geq v4 a4 fun v5 =>
guardS v5 true (some (a3, h3)) h3 fun v6 h7 =>
guardS v5 true (some (a2, h7)) h7 fun v8 h9 =>
guardS v5 true (intS .sub v6 v8 fun v10 =>
some (v10, h9)) h9 fun v11 h12 =>
guardS v5 true (intS .leq v11 (.int .i64 (.ofNat 200)) fun v13 =>
some (v13, h12)) h12 fun v14 h15 =>
optS (pickV v5 v14 (.bool false)) fun v16 =>
guardS v16 true (loadN 2 v0 h15 fun v17 =>
some (v17, h15)) h15 fun v18 h19 =>
guardS v16 true (loadN 6 v2 h19 fun v20 =>
some (v20, h19)) h19 fun v21 h22 =>
guardS v16 true (some (a2, h22)) h22 fun v23 h24 =>
guardS v16 true (some (a3, h24)) h24 fun v25 h26 =>
guardS v16 true (bindS (ih 80 [v18, v21, v23, v25, (.func 44 [] [])] h26) fun v27 h28 =>
some (v27, h28)) h26 fun v29 h30 =>
optS (pickV v16 v29 (.bool false)) fun v31 =>
some (v31, h30)
noncomputable def G158 : Sh := fun ih vs h => consE (fun a0 => consE (fun a1 => consE (fun a2 => consE (fun a3 => consE (fun a4 => nilE (B158 ih a0 a1 a2 a3 a4 h)))))) vs
noncomputable def B170 (ih : Nat → List V → Hp → VH) (a0 : V) (h : Hp) : VH :=
intS .geq a0 (.int .u8 (.ofNat 27)) fun v0 =>
guardS v0 true (some (a0, h)) h fun v1 h2 =>
guardS v0 true (intS .leq v1 (.int .u8 (.ofNat 30)) fun v3 =>
some (v3, h2)) h2 fun v4 h5 =>
optS (pickV v0 v4 (.bool false)) fun v6 =>
guardS v6 false (some (a0, h5)) h5 fun v7 h8 =>
guardS v6 false (intS .eql v7 (.int .u8 (.ofNat 38)) fun v9 =>
some (v9, h8)) h8 fun v10 h11 =>
optS (pickV v6 (.bool true) v10) fun v12 =>
some (v12, h11)
noncomputable def G170 : Sh := fun ih vs h => consE (fun a0 => nilE (B170 ih a0 h)) vs
noncomputable def B154 (ih : Nat → List V → Hp → VH) (a0 a1 a2 : V) (h : Hp) : VH :=
newS 60 (vcells a0) h fun v0 h1 =>
newS 43 (vcells a1) h1 fun v2 h3 =>
addrS 0 v0 fun v4 =>
addrS 0 v4 fun v5 =>
load1 v5 h3 fun v6 =>
addrS 4 v2 fun v7 =>
load1 v7 h3 fun v8 =>
idxS 1 v8 a2 fun v9 =>
load1 v9 h3 fun v10 =>
idxS 6 v6 v10 fun v11 =>
addrS 0 v11 fun v12 =>
load1 v12 h3 fun v13 =>
some (v13, h3)
noncomputable def G154 : Sh := fun ih vs h => consE (fun a0 => consE (fun a1 => consE (fun a2 => nilE (B154 ih a0 a1 a2 h)))) vs
noncomputable def B166 (ih : Nat → List V → Hp → VH) (a0 : V) (h : Hp) : VH :=
strS .eql a0 (.str (us [])) fun v0 =>
guardS v0 false (some (a0, h)) h fun v1 h2 =>
guardS v0 false (lenStr v1 fun v3 =>
some (v3, h2)) h2 fun v4 h5 =>
guardS v0 false (intS .gtr v4 (.int .i64 (.ofNat 60)) fun v6 =>
some (v6, h5)) h5 fun v7 h8 =>
optS (pickV v0 (.bool true) v7) fun v9 =>
guardS v9 false (some (a0, h8)) h8 fun v10 h11 =>
guardS v9 false (idxStr v10 (.int .i64 (.ofNat 0)) fun v12 =>
some (v12, h11)) h11 fun v13 h14 =>
guardS v9 false (bindS (ih 222 [v13] h14) fun v15 h16 =>
some (v15, h16)) h14 fun v17 h18 =>
optS (pickV v9 (.bool true) v17) fun v19 =>
guardS v19 false (some (a0, h18)) h18 fun v20 h21 =>
guardS v19 false (bindS (ih 224 [v20] h21) fun v22 h23 =>
some (v22, h23)) h21 fun v24 h25 =>
optS (pickV v19 (.bool true) v24) fun v26 =>
ifS v26 (
some ((.bool false), h25)) (
lenStr a0 fun v27 =>
ih 115 [a0, v27, (.int .i64 (.ofNat 0))] h25)
noncomputable def G166 : Sh := fun ih vs h => consE (fun a0 => nilE (B166 ih a0 h)) vs
noncomputable def B115 (ih : Nat → List V → Hp → VH) (a0 a21 a22 : V) (h : Hp) : VH :=
intS .lss a22 a21 fun v28 =>
ifS v28 (
idxStr a0 a22 fun v29 =>
bindS (ih 226 [v29] h) fun v30 h31 =>
notS v30 fun v32 =>
guardS v32 true (some (a0, h31)) h31 fun v33 h34 =>
guardS v32 true (some (a22, h34)) h34 fun v35 h36 =>
guardS v32 true (idxStr v33 v35 fun v37 =>
some (v37, h36)) h36 fun v38 h39 =>
guardS v32 true (bindS (ih 222 [v38] h39) fun v40 h41 =>
some (v40, h41)) h39 fun v42 h43 =>
guardS v32 true (notS v42 fun v44 =>
some (v44, h43)) h43 fun v45 h46 =>
optS (pickV v32 v45 (.bool false)) fun v47 =>
ifS v47 (
some ((.bool false), h46)) (
intS .add a22 (.int .i64 (.ofNat 1)) fun v48 =>
ih 115 [a0, a21, v48] h46)) (
some ((.bool true), h))
noncomputable def G115 : Sh := fun ih vs h => consE (fun a0 => consE (fun a21 => consE (fun a22 => nilE (B115 ih a0 a21 a22 h)))) vs
noncomputable def B162 (ih : Nat → List V → Hp → VH) (a0 a1 a2 : V) (h : Hp) : VH :=
newS 60 (vcells a0) h fun v0 h1 =>
newS 43 (vcells a1) h1 fun v2 h3 =>
loadN 2 v0 h3 fun v4 =>
loadN 6 v2 h3 fun v5 =>
bindS (ih 154 [v4, v5, a2] h3) fun v6 h7 =>
intS .eql v6 (.int .u8 (.ofNat 1)) fun v8 =>
some (v8, h7)
noncomputable def G162 : Sh := fun ih vs h => consE (fun a0 => consE (fun a1 => consE (fun a2 => nilE (B162 ih a0 a1 a2 h)))) vs
noncomputable def B156 (ih : Nat → List V → Hp → VH) (a0 a1 : V) (h : Hp) : VH :=
lenSl a0 fun v0 =>
intS .geq v0 a1 fun v1 =>
guardS v1 true (some (a0, h)) h fun v2 h3 =>
guardS v1 true (lenSl v2 fun v4 =>
some (v4, h3)) h3 fun v5 h6 =>
guardS v1 true (intS .leq v5 (.int .i64 (.ofNat 200)) fun v7 =>
some (v7, h6)) h6 fun v8 h9 =>
optS (pickV v1 v8 (.bool false)) fun v10 =>
guardS v10 true (some (a0, h9)) h9 fun v11 h12 =>
guardS v10 true (bindS (ih 218 [v11, (.func 110 [] [])] h12) fun v13 h14 =>
some (v13, h14)) h12 fun v15 h16 =>
guardS v10 true (notS v15 fun v17 =>
some (v17, h16)) h16 fun v18 h19 =>
optS (pickV v10 v18 (.bool false)) fun v20 =>
some (v20, h19)
noncomputable def G156 : Sh := fun ih vs h => consE (fun a0 => consE (fun a1 => nilE (B156 ih a0 a1 h))) vs
noncomputable def B172 (ih : Nat → List V → Hp → VH) (a0 : V) (h : Hp) : VH :=
intS .eql a0 (.int .u8 (.ofNat 36)) fun v0 =>
guardS v0 false (some (a0, h)) h fun v1 h2 =>
guardS v0 false (intS .eql v1 (.int .u8 (.ofNat 37)) fun v3 =>
some (v3, h2)) h2 fun v4 h5 =>
optS (pickV v0 (.bool true) v4) fun v6 =>
some (v6, h5)
noncomputable def G172 : Sh := fun ih vs h => consE (fun a0 => nilE (B172 ih a0 h)) vs
noncomputable def B164 (ih : Nat → List V → Hp → VH) (a0 a1 : V) (h : Hp) : VH :=
newS 60 (vcells a0) h fun v0 h1 =>
newS 43 (vcells a1) h1 fun v2 h3 =>
addrS 4 v2 fun v4 =>
load1 v4 h3 fun v5 =>
lenSl v5 fun v6 =>
ih 117 [v0, v2, v6, (.int .i64 (.ofNat 0))] h3
noncomputable def G164 : Sh := fun ih vs h => consE (fun a0 => consE (fun a1 => nilE (B164 ih a0 a1 h))) vs
noncomputable def B117 (ih : Nat → List V → Hp → VH) (a2 a3 a5 a6 : V) (h : Hp) : VH :=
intS .add a6 (.int .i64 (.ofNat 1)) fun v7 =>
intS .lss v7 a5 fun v8 =>
ifS v8 (
loadN 2 a2 h fun v9 =>
loadN 6 a3 h fun v10 =>
bindS (ih 154 [v9, v10, a6] h) fun v11 h12 =>
bindS (ih 88 [v11] h12) fun v13 h14 =>
notS v13 fun v15 =>
guardS v15 false (loadN 2 a2 h14 fun v16 =>
some (v16, h14)) h14 fun v17 h18 =>
guardS v15 false (loadN 6 a3 h18 fun v19 =>
some (v19, h18)) h18 fun v20 h21 =>
guardS v15 false (some (a6, h21)) h21 fun v22 h23 =>
guardS v15 false (intS .add v22 (.int .i64 (.ofNat 1)) fun v24 =>
some (v24, h23)) h23 fun v25 h26 =>
guardS v15 false (bindS (ih 162 [v17, v20, v25] h26) fun v27 h28 =>
some (v27, h28)) h26 fun v29 h30 =>
guardS v15 false (notS v29 fun v31 =>
some (v31, h30)) h30 fun v32 h33 =>
optS (pickV v15 (.bool true) v32) fun v34 =>
ifS v34 (
some ((.bool false), h33)) (
intS .add a6 (.int .i64 (.ofNat 2)) fun v35 =>
ih 117 [a2, a3, a5, v35] h33)) (
intS .geq a5 (.int .i64 (.ofNat 2)) fun v36 =>
guardS v36 true (some (a5, h)) h fun v37 h38 =>
guardS v36 true (intS .rem v37 (.int .i64 (.ofNat 2)) fun v39 =>
some (v39, h38)) h38 fun v40 h41 =>
guardS v36 true (intS .eql v40 (.int .i64 (.ofNat 0)) fun v42 =>
some (v42, h41)) h41 fun v43 h44 =>
guardS v36 true (some (v43, h44)) h44 fun v45 h46 =>
guardS v45 false (loadN 2 a2 h46 fun v47 =>
some (v47, h46)) h46 fun v48 h49 =>
guardS v45 false (loadN 6 a3 h49 fun v50 =>
some (v50, h49)) h49 fun v51 h52 =>
guardS v45 false (some (a5, h52)) h52 fun v53 h54 =>
guardS v45 false (intS .sub v53 (.int .i64 (.ofNat 1)) fun v55 =>
some (v55, h54)) h54 fun v56 h57 =>
guardS v45 false (bindS (ih 162 [v48, v51, v56] h57) fun v58 h59 =>
some (v58, h59)) h57 fun v60 h61 =>
guardS v36 true (optS (pickV v45 (.bool true) v60) fun v62 =>
some (v62, h61)) h61 fun v63 h64 =>
optS (pickV v36 v63 (.bool false)) fun v65 =>
some (v65, h64))
noncomputable def G117 : Sh := fun ih vs h => consE (fun a2 => consE (fun a3 => consE (fun a5 => consE (fun a6 => nilE (B117 ih a2 a3 a5 a6 h))))) vs
noncomputable def B160 (ih : Nat → List V → Hp → VH) (a0 : V) (h : Hp) : VH :=
intS .eql a0 (.int .u8 (.ofNat 27)) fun v0 =>
guardS v0 false (some (a0, h)) h fun v1 h2 =>
guardS v0 false (intS .eql v1 (.int .u8 (.ofNat 28)) fun v3 =>
some (v3, h2)) h2 fun v4 h5 =>
optS (pickV v0 (.bool true) v4) fun v6 =>
some (v6, h5)
noncomputable def G160 : Sh := fun ih vs h => consE (fun a0 => nilE (B160 ih a0 h)) vs
noncomputable def B152 (ih : Nat → List V → Hp → VH) (a0 a1 a2 : V) (h : Hp) : VH :=
bindS (ih 72 [a0, (.str (us [58, 58]))] h) fun v0 h1 =>
ifS v0 (
bindS (ih 74 [a0] h1) fun v2 h3 =>
nilS a1 fun v4 =>
addrS 0 v4 fun v5 =>
storeC v5 (.int .u8 (.ofNat 15)) h3 fun h6 =>
bindS (ih 206 [a0] h6) fun v7 h8 =>
nilS a1 fun v9 =>
addrS 2 v9 fun v10 =>
storeC v10 v7 h8 fun h11 =>
bindS (ih 144 [a0, (.str (us [58, 58]))] h11) fun v12 h13 =>
some (.tuple [], h13)) (
bindS (ih 72 [a0, (.str (us [98, 114, 101, 97, 107]))] h1) fun v14 h15 =>
ifS v14 (
bindS (ih 74 [a0] h15) fun v16 h17 =>
nilS a1 fun v18 =>
addrS 0 v18 fun v19 =>
storeC v19 (.int .u8 (.ofNat 13)) h17 fun h20 =>
some (.tuple [], h20)) (
bindS (ih 72 [a0, (.str (us [103, 111, 116, 111]))] h15) fun v21 h22 =>
ifS v21 (
bindS (ih 74 [a0] h22) fun v23 h24 =>
nilS a1 fun v25 =>
addrS 0 v25 fun v26 =>
storeC v26 (.int .u8 (.ofNat 14)) h24 fun h27 =>
bindS (ih 206 [a0] h27) fun v28 h29 =>
nilS a1 fun v30 =>
addrS 2 v30 fun v31 =>
storeC v31 v28 h29 fun h32 =>
some (.tuple [], h32)) (
bindS (ih 72 [a0, (.str (us [102, 117, 110, 99, 116, 105, 111, 110]))] h22) fun v33 h34 =>
ifS v33 (
bindS (ih 68 [a0, a2] h34) fun v35 h36 =>
bindS (ih 74 [a0] h36) fun v37 h38 =>
bindS (ih 212 [a0, a1, a2] h38) fun v39 h40 =>
some (.tuple [], h40)) (
bindS (ih 72 [a0, (.str (us [108, 111, 99, 97, 108]))] h34) fun v41 h42 =>
ifS v41 (
bindS (ih 74 [a0] h42) fun v43 h44 =>
bindS (ih 214 [a0, a1, a2] h44) fun v45 h46 =>
some (.tuple [], h46)) (
bindS (ih 216 [a0, a1, a2] h42) fun v47 h48 =>
some (.tuple [], h48))))))
noncomputable def G152 : Sh := fun ih vs h => consE (fun a0 => consE (fun a1 => consE (fun a2 => nilE (B152 ih a0 a1 a2 h)))) vs
noncomputable def B150 (ih : Nat → List V → Hp → VH) (a0 a1 : V) (h : Hp) : VH :=
bindS (ih 142 [a0, a1, (.int .i64 (.ofNat 0))] h) fun v0 h1 =>
bindS (bldSl h1 [(0, v0)] 3 1 1 (.int .i64 (.ofNat 0))) fun v2 h3 =>
ih 119 [a0, a1, v2] h3
noncomputable def G150 : Sh := fun ih vs h => consE (fun a0 => consE (fun a1 => nilE (B150 ih a0 a1 h))) vs
noncomputable def B119 (ih : Nat → List V → Hp → VH) (a0 a1 a5 : V) (h : Hp) : VH :=
bindS (ih 72 [a0, (.str (us [44]))] h) fun v4 h5 =>
ifS v4 (
bindS (ih 74 [a0] h5) fun v6 h7 =>
bindS (ih 200 [a0, a1] h7) fun v8 h9 =>
lenSl a5 fun v10 =>
bindS (ih 210 [a0, v10] h9) fun v11 h12 =>
bindS (ih 142 [a0, a1, (.int .i64 (.ofNat 0))] h12) fun v13 h14 =>
bindS (bldSl h14 [(0, v13)] 3 1 1 (.int .i64 (.ofNat 0))) fun v15 h16 =>
bindS (appS 3 8 1 a5 v15 h16) fun v17 h18 =>
ih 119 [a0, a1, v17] h18) (
some (a5, h5))
noncomputable def G119 : Sh := fun ih vs h => consE (fun a0 => consE (fun a1 => consE (fun a5 => nilE (B119 ih a0 a1 a5 h)))) vs
noncomputable def B148 (ih : Nat → List V → Hp → VH) (a0 a1 a2 : V) (h : Hp) : VH :=
bindS (ih 206 [a0] h) fun v0 h1 =>
bindS (bldSl h1 [(0, v0)] 9 1 1 (.str (us []))) fun v2 h3 =>
nilS a1 fun v4 =>
addrS 3 v4 fun v5 =>
storeC v5 v2 h3 fun h6 =>
bindS (ih 72 [a0, (.str (us [61]))] h6) fun v7 h8 =>
ifS v7 (
bindS (ih 74 [a0] h8) fun v9 h10 =>
nilS a1 fun v11 =>
addrS 0 v11 fun v12 =>
storeC v12 (.int .u8 (.ofNat 9)) h10 fun h13 =>
bindS (ih 142 [a0, a2, (.int .i64 (.ofNat 0))] h13) fun v14 h15 =>
bindS (bldSl h15 [(0, v14)] 3 1 1 (.int .i64 (.ofNat 0))) fun v16 h17 =>
nilS a1 fun v18 =>
addrS 4 v18 fun v19 =>
storeC v19 v16 h17 fun h20 =>
bindS (ih 144 [a0, (.str (us [44]))] h20) fun v21 h22 =>
nilS a1 fun v23 =>
addrS 4 v23 fun v24 =>
load1 v24 h22 fun v25 =>
bindS (ih 142 [a0, a2, (.int .i64 (.ofNat 0))] ⟨h22.t, h22.n, h22.n⟩) fun v26 h27 =>
cD ((pureB h22 h27 || sameA h22 h27 v24 (vcells v25).length) && true) (
wroteS h22.low h27 fun h28 =>
bindS (bldSl ⟨h28.t, h28.n, h28.n⟩ [(0, v26)] 3 1 1 (.int .i64 (.ofNat 0))) fun v29 h30 =>
madeS h28.n h28.low h30 fun h31 =>
bindS (appS 3 8 1 v25 v29 ⟨h31.t, h31.n, h31.n⟩) fun v32 h33 =>
wroteS h31.low h33 fun h34 =>
nilS a1 fun v35 =>
addrS 4 v35 fun v36 =>
storeC v36 v32 h34 fun h37 =>
bindS (ih 72 [a0, (.str (us [44]))] h37) fun v38 h39 =>
ifS v38 (
bindS (ih 74 [a0] h39) fun v40 h41 =>
nilS a1 fun v42 =>
addrS 4 v42 fun v43 =>
load1 v43 h41 fun v44 =>
bindS (ih 142 [a0, a2, (.int .i64 (.ofNat 0))] ⟨h41.t, h41.n, h41.n⟩) fun v45 h46 =>
cD ((pureB h41 h46 || sameA h41 h46 v43 (vcells v44).length) && true) (
wroteS h41.low h46 fun h47 =>
bindS (bldSl ⟨h47.t, h47.n, h47.n⟩ [(0, v45)] 3 1 1 (.int .i64 (.ofNat 0))) fun v48 h49 =>
madeS h47.n h47.low h49 fun h50 =>
bindS (appS 3 8 1 v44 v48 ⟨h50.t, h50.n, h50.n⟩) fun v51 h52 =>
wroteS h50.low h52 fun h53 =>
nilS a1 fun v54 =>
addrS 4 v54 fun v55 =>
storeC v55 v51 h53 fun h56 =>
ih 121 [a0, a1, a2] h56) none) (
ih 121 [a0, a1, a2] h39)) none) (
nilS a1 fun v57 =>
addrS 0 v57 fun v58 =>
storeC v58 (.int .u8 (.ofNat 10)) h8 fun h59 =>
nilS a1 fun v60 =>
addrS 3 v60 fun v61 =>
load1 v61 h59 fun v62 =>
bindS (ih 208 [a0, v62] h59) fun v63 h64 =>
nilS a1 fun v65 =>
addrS 3 v65 fun v66 =>
storeC v66 v63 h64 fun h67 =>
bindS (ih 144 [a0, (.str (us [105, 110]))] h67) fun v68 h69 =>
bindS (ih 150 [a0, a2] h69) fun v70 h71 =>
nilS a1 fun v72 =>
addrS 4 v72 fun v73 =>
storeC v73 v70 h71 fun h74 =>
ih 121 [a0, a1, a2] h74)
noncomputable def G148 : Sh := fun ih vs h => consE (fun a0 => consE (fun a1 => consE (fun a2 => nilE (B148 ih a0 a1 a2 h)))) vs
noncomputable def B121 (ih : Nat → List V → Hp → VH) (a0 a1 a2 : V) (h : Hp) : VH :=
bindS (ih 144 [a0, (.str (us [100, 111]))] h) fun v75 h76 =>
nilS a1 fun v77 =>
addrS 4 v77 fun v78 =>
load1 v78 h76 fun v79 =>
bindS (ih 28 [a0, a2] ⟨h76.t, h76.n, h76.n⟩) fun v80 h81 =>
cD ((pureB h76 h81 || sameA h76 h81 v78 (vcells v79).length) && true) (
wroteS h76.low h81 fun h82 =>
bindS (bldSl ⟨h82.t, h82.n, h82.n⟩ [(0, v80)] 3 1 1 (.int .i64 (.ofNat 0))) fun v83 h84 =>
madeS h82.n h82.low h84 fun h85 =>
bindS (appS 3 8 1 v79 v83 ⟨h85.t, h85.n, h85.n⟩) fun v86 h87 =>
wroteS h85.low h87 fun h88 =>
nilS a1 fun v89 =>
addrS 4 v89 fun v90 =>
storeC v90 v86 h88 fun h91 =>
bindS (ih 144 [a0, (.str (us [101, 110, 100]))] h91) fun v92 h93 =>
some (.tuple [], h93)) none
noncomputable def G121 : Sh := fun ih vs h => consE (fun a0 => consE (fun a1 => consE (fun a2 => nilE (B121 ih a0 a1 a2 h)))) vs
noncomputable def B146 (ih : Nat → List V → Hp → VH) (a0 a1 : V) (h : Hp) : VH :=
ih 125 [a0, a1, .nilSlice] h
noncomputable def G146 : Sh := fun ih vs h => consE (fun a0 => consE (fun a1 => nilE (B146 ih a0 a1 h))) vs
noncomputable def B123 (ih : Nat → List V → Hp → VH) (a0 a1 a5 : V) (h : Hp) : VH :=
bindS (ih 72 [a0, (.str (us [101, 108, 115, 101]))] h) fun v0 h1 =>
ifS v0 (
bindS (ih 74 [a0] h1) fun v2 h3 =>
bindS (ih 28 [a0, a1] h3) fun v4 h5 =>
bindS (bldSl h5 [(0, v4)] 3 1 1 (.int .i64 (.ofNat 0))) fun v6 h7 =>
bindS (appS 3 8 1 a5 v6 h7) fun v8 h9 =>
ih 127 [a0, v8] h9) (
ih 127 [a0, a5] h1)
noncomputable def G123 : Sh := fun ih vs h => consE (fun a0 => consE (fun a1 => consE (fun a5 => nilE (B123 ih a0 a1 a5 h)))) vs
noncomputable def B125 (ih : Nat → List V → Hp → VH) (a0 a1 a5 : V) (h : Hp) : VH :=
bindS (ih 72 [a0, (.str (us [105, 102]))] h) fun v10 h11 =>
guardS v10 false (some (a0, h11)) h11 fun v12 h13 =>
guardS v10 false (bindS (ih 72 [v12, (.str (us [101, 108, 115, 101, 105, 102]))] h13) fun v14 h15 =>
some (v14, h15)) h13 fun v16 h17 =>
optS (pickV v10 (.bool true) v16) fun v18 =>
ifS v18 (
bindS (ih 74 [a0] h17) fun v19 h20 =>
bindS (ih 142 [a0, a1, (.int .i64 (.ofNat 0))] h20) fun v21 h22 =>
bindS (bldSl h22 [(0, v21)] 3 1 1 (.int .i64 (.ofNat 0))) fun v23 h24 =>
bindS (appS 3 8 1 a5 v23 h24) fun v25 h26 =>
bindS (ih 144 [a0, (.str (us [116, 104, 101, 110]))] h26) fun v27 h28 =>
bindS (ih 28 [a0, a1] h28) fun v29 h30 =>
bindS (bldSl h30 [(0, v29)] 3 1 1 (.int .i64 (.ofNat 0))) fun v31 h32 =>
bindS (appS 3 8 1 v25 v31 h32) fun v33 h34 =>
bindS (ih 72 [a0, (.str (us [105, 102]))] h34) fun v35 h36 =>
ifS v35 (
ih 123 [a0, a1, v33] h36) (
ih 125 [a0, a1, v33] h36)) (
ih 123 [a0, a1, a5] h17)
noncomputable def G125 : Sh := fun ih vs h => consE (fun a0 => consE (fun a1 => consE (fun a5 => nilE (B125 ih a0 a1 a5 h)))) vs
noncomputable def B127 (ih : Nat → List V → Hp → VH) (a0 a5 : V) (h : Hp) : VH :=
bindS (ih 144 [a0, (.str (us [101, 110, 100]))] h) fun v37 h38 =>
some (a5, h38)
noncomputable def G127 : Sh := fun ih vs h => consE (fun a0 => consE (fun a5 => nilE (B127 ih a0 a5 h))) vs
noncomputable def B142 (ih : Nat → List V → Hp → VH) (a0 a1 a2 : V) (h : Hp) : VH :=
bindS (ih 200 [a0, a1] h) fun v0 h1 =>
bindS (ih 66 [a0] h1) fun v2 h3 =>
bindS (bldSl h3 [(0, (.str (us [45]))), (1, (.str (us [110, 111, 116]))), (2, (.str (us [35]))), (3, (.str (us [126])))] 9 4 1 (.str (us []))) fun v4 h5 =>
ih 131 [a0, a1, a2, v2, (.int .i64 (.ofNat 0)), v4, (.bool false), (.int .i64 (.ofNat 0))] h5
noncomputable def G142 : Sh := fun ih vs h => consE (fun a0 => consE (fun a1 => consE (fun a2 => nilE (B142 ih a0 a1 a2 h)))) vs
noncomputable def B129 (ih : Nat → List V → Hp → VH) (a0 a1 a2 a7 a8 : V) (h : Hp) : VH :=
ih 135 [a0, a1, a2, a7, a8] h
noncomputable def G129 : Sh := fun ih vs h => consE (fun a0 => consE (fun a1 => consE (fun a2 => consE (fun a7 => consE (fun a8 => nilE (B129 ih a0 a1 a2 a7 a8 h)))))) vs
noncomputable def B131 (ih : Nat → List V → Hp → VH) (a0 a1 a2 a7 a8 a9 a10 a11 : V) (h : Hp) : VH :=
lenSl a9 fun v6 =>
intS .lss a11 v6 fun v7 =>
ifS v7 (
notS a10 fun v8 =>
guardS v8 true (some (a0, h)) h fun v9 h10 =>
guardS v8 true (some (a9, h10)) h10 fun v11 h12 =>
guardS v8 true (some (a11, h12)) h12 fun v13 h14 =>
guardS v8 true (idxS 1 v11 v13 fun v15 =>
some (v15, h14)) h14 fun v16 h17 =>
guardS v8 true (load1 v16 h17 fun v18 =>
some (v18, h17)) h17 fun v19 h20 =>
guardS v8 true (bindS (ih 72 [v9, v19] h20) fun v21 h22 =>
some (v21, h22)) h20 fun v23 h24 =>
optS (pickV v8 v23 (.bool false)) fun v25 =>
ifS v25 (
bindS (ih 74 [a0] h24) fun v26 h27 =>
intS .add a1 (.int .i64 (.ofNat 1)) fun v28 =>
bindS (ih 142 [a0, v28, (.int .i64 (.ofNat 11))] h27) fun v29 h30 =>
intS .add (.int .i64 (.ofNat 18)) a11 fun v31 =>
bindS (bldSl h30 [(0, v29)] 3 1 1 (.int .i64 (.ofNat 0))) fun v32 h33 =>
bindS (bldStruct h33 [(0, (.int .u8 (.ofNat 34))), (1, v31), (4, v32), (5, a7)] (.agg [(.int .u8 (.ofNat 0)), (.int .i64 (.ofNat 0)), (.str (us [])), .nilSlice, .nilSlice, (.int .i64 (.ofNat 0))]) (some [(0, 1), (1, 1), (2, 1), (3, 1), (4, 1), (5, 1)])) fun v34 h35 =>
bindS (ih 34 [a0, v34] h35) fun v36 h37 =>
ih 137 [a0, a1, a2, a7, v36, a9, (.bool true), a11] h37) (
ih 137 [a0, a1, a2, a7, a8, a9, a10, a11] h24)) (
notS a10 fun v38 =>
ifS v38 (
bindS (ih 202 [a0, a1] h) fun v39 h40 =>
ih 129 [a0, a1, a2, a7, v39] h40) (
ih 129 [a0, a1, a2, a7, a8] h))
noncomputable def G131 : Sh := fun ih vs h => consE (fun a0 => consE (fun a1 => consE (fun a2 => consE (fun a7 => consE (fun a8 => consE (fun a9 => consE (fun a10 => consE (fun a11 => nilE (B131 ih a0 a1 a2 a7 a8 a9 a10 a11 h))))))))) vs
noncomputable def B133 (ih : Nat → List V → Hp → VH) (a8 : V) (h : Hp) : VH :=
some (a8, h)
noncomputable def G133 : Sh := fun ih vs h => consE (fun a8 => nilE (B133 ih a8 h)) vs
noncomputable def B135 (ih : Nat → List V → Hp → VH) (a0 a1 a2 a7 a8 : V) (h : Hp) : VH :=
bindS (ih 36 [a0] h) fun v41 h42 =>
notS v41 fun v43 =>
ifS v43 (
bindS (ih 204 [a0] h42) fun v44 h45 =>
extS 0 v44 fun v46 =>
extS 1 v44 fun v47 =>
extS 2 v44 fun v48 =>
intS .eql v46 (.int .u8 (.ofNat 0)) fun v49 =>
guardS v49 false (some (v48, h45)) h45 fun v50 h51 =>
guardS v49 false (some (a2, h51)) h51 fun v52 h53 =>
guardS v49 false (intS .lss v50 v52 fun v54 =>
some (v54, h53)) h53 fun v55 h56 =>
optS (pickV v49 (.bool true) v55) fun v57 =>
ifS v57 (
ih 133 [a8] h56) (
bindS (ih 74 [a0] h56) fun v58 h59 =>
intS .add v48 (.int .i64 (.ofNat 1)) fun v60 =>
intS .eql v48 (.int .i64 (.ofNat 8)) fun v61 =>
ifS v61 (
ih 139 [a0, a1, a2, a7, a8, v46, v47, v48] h59) (
ih 139 [a0, a1, a2, a7, a8, v46, v47, v60] h59))) (
ih 133 [a8] h42)
noncomputable def G135 : Sh := fun ih vs h => consE (fun a0 => consE (fun a1 => consE (fun a2 => consE (fun a7 => consE (fun a8 => nilE (B135 ih a0 a1 a2 a7 a8 h)))))) vs
noncomputable def B137 (ih : Nat → List V → Hp → VH) (a0 a1 a2 a7 a8 a9 a10 a11 : V) (h : Hp) : VH :=
intS .add a11 (.int .i64 (.ofNat 1)) fun v62 =>
ih 131 [a0, a1, a2, a7, a8, a9, a10, v62] h
noncomputable def G137 : Sh := fun ih vs h => consE (fun a0 => consE (fun a1 => consE (fun a2 => consE (fun a7 => consE (fun a8 => consE (fun a9 => consE (fun a10 => consE (fun a11 => nilE (B137 ih a0 a1 a2 a7 a8 a9 a10 a11 h))))))))) vs
noncomputable def B139 (ih : Nat → List V → Hp → VH) (a0 a1 a2 a7 a8 a13 a14 a16 : V) (h : Hp) : VH :=
intS .add a1 (.int .i64 (.ofNat 1)) fun v63 =>
bindS (ih 142 [a0, v63, a16] h) fun v64 h65 =>
bindS (bldSl h65 [(0, a8), (1, v64)] 3 2 1 (.int .i64 (.ofNat 0))) fun v66 h67 =>
bindS (bldStruct h67 [(0, a13), (1, a14), (4, v66), (5, a7)] (.agg [(.int .u8 (.ofNat 0)), (.int .i64 (.ofNat 0)), (.str (us [])), .nilSlice, .nilSlice, (.int .i64 (.ofNat 0))]) (some [(0, 1), (1, 1), (2, 1), (3, 1), (4, 1), (5, 1)])) fun v68 h69 =>
bindS (ih 34 [a0, v68] h69) fun v70 h71 =>
ih 135 [a0, a1, a2, a7, v70] h71
noncomputable def G139 : Sh := fun ih vs h => consE (fun a0 => consE (fun a1 => consE (fun a2 => consE (fun a7 => consE (fun a8 => consE (fun a13 => consE (fun a14 => consE (fun a16 => nilE (B139 ih a0 a1 a2 a7 a8 a13 a14 a16 h))))))))) vs
noncomputable def B144 (ih : Nat → List V → Hp → VH) (a0 a1 : V) (h : Hp) : VH :=
bindS (ih 72 [a0, a1] h) fun v0 h1 =>
notS v0 fun v2 =>
ifS v2 (
bindS (ih 32 [a0, (.int .i64 (.ofNat 40))] h1) fun v3 h4 =>
some (.tuple [], h4)) (
bindS (ih 74 [a0] h1) fun v5 h6 =>
some (.tuple [], h6))
noncomputable def G144 : Sh := fun ih vs h => consE (fun a0 => consE (fun a1 => nilE (B144 ih a0 a1 h))) vs
noncomputable def B140 (ih : Nat → List V → Hp → VH) (a0 a1 : V) (h : Hp) : VH :=
ih 141 [a0, a1, (.int .i64 (.ofNat 0))] h
noncomputable def G140 : Sh := fun ih vs h => consE (fun a0 => consE (fun a1 => nilE (B140 ih a0 a1 h))) vs
noncomputable def B141 (ih : Nat → List V → Hp → VH) (a0 a1 a5 : V) (h : Hp) : VH :=
lenSl a1 fun v0 =>
intS .lss a5 v0 fun v1 =>
ifS v1 (
idxS 1 a1 a5 fun v2 =>
load1 v2 h fun v3 =>
bindS (ih 72 [a0, v3] h) fun v4 h5 =>
ifS v4 (
some ((.bool true), h5)) (
intS .add a5 (.int .i64 (.ofNat 1)) fun v6 =>
ih 141 [a0, a1, v6] h5)) (
some ((.bool false), h))
noncomputable def G141 : Sh := fun ih vs h => consE (fun a0 => consE (fun a1 => consE (fun a5 => nilE (B141 ih a0 a1 a5 h)))) vs
noncomputable def B116 (ih : Nat → List V → Hp → VH) (a0 a1 : V) (h : Hp) : VH :=
bindS (ih 124 [a0, a1] h) fun v0 h1 =>
intS .neq v0 (.int .u8 (.ofNat 10)) fun v2 =>
guardS v2 true (some (a0, h1)) h1 fun v3 h4 =>
guardS v2 true (some (a1, h4)) h4 fun v5 h6 =>
guardS v2 true (bindS (ih 124 [v3, v5] h6) fun v7 h8 =>
some (v7, h8)) h6 fun v9 h10 =>
guardS v2 true (intS .neq v9 (.int .u8 (.ofNat 13)) fun v11 =>
some (v11, h10)) h10 fun v12 h13 =>
optS (pickV v2 v12 (.bool false)) fun v14 =>
ifS v14 (
some ((.int .i64 (.ofNat 0)), h13)) (
bindS (ih 124 [a0, a1] h13) fun v15 h16 =>
intS .add a1 (.int .i64 (.ofNat 1)) fun v17 =>
bindS (ih 124 [a0, v17] h16) fun v18 h19 =>
intS .add v15 v18 fun v20 =>
intS .eql v20 (.int .u8 (.ofNat 23)) fun v21 =>
guardS v21 true (some (a0, h19)) h19 fun v22 h23 =>
guardS v21 true (some (a1, h23)) h23 fun v24 h25 =>
guardS v21 true (intS .add v24 (.int .i64 (.ofNat 1)) fun v26 =>
some (v26, h25)) h25 fun v27 h28 =>
guardS v21 true (bindS (ih 124 [v22, v27] h28) fun v29 h30 =>
some (v29, h30)) h28 fun v31 h32 =>
guardS v21 true (intS .eql v31 (.int .u8 (.ofNat 10)) fun v33 =>
some (v33, h32)) h32 fun v34 h35 =>
guardS v21 true (some (v34, h35)) h35 fun v36 h37 =>
guardS v36 false (some (a0, h37)) h37 fun v38 h39 =>
guardS v36 false (some (a1, h39)) h39 fun v40 h41 =>
guardS v36 false (intS .add v40 (.int .i64 (.ofNat 1)) fun v42 =>
some (v42, h41)) h41 fun v43 h44 =>
guardS v36 false (bindS (ih 124 [v38, v43] h44) fun v45 h46 =>
some (v45, h46)) h44 fun v47 h48 =>
guardS v36 false (intS .eql v47 (.int .u8 (.ofNat 13)) fun v49 =>
some (v49, h48)) h48 fun v50 h51 =>
guardS v21 true (optS (pickV v36 (.bool true) v50) fun v52 =>
some (v52, h51)) h51 fun v53 h54 =>
optS (pickV v21 v53 (.bool false)) fun v55 =>
ifS v55 (
some ((.int .i64 (.ofNat 2)), h54)) (
some ((.int .i64 (.ofNat 1)), h54)))
noncomputable def G116 : Sh := fun ih vs h => consE (fun a0 => consE (fun a1 => nilE (B116 ih a0 a1 h))) vs
noncomputable def B138 (ih : Nat → List V → Hp → VH) (a0 a1 : V) (h : Hp) : VH :=
newS 81 [(.int .u8 (.ofNat 0)), (.str (us [])), (.int .i64 (.ofNat 0)), (.int .i64 (.ofNat 0))] h fun v0 h1 =>
bindS (ih 198 [] h1) fun v2 h3 =>
ih 143 [a0, a1, v0, (.str (us [])), v2, (.int .i64 (.ofNat 0))] h3
noncomputable def G138 : Sh := fun ih vs h => consE (fun a0 => consE (fun a1 => nilE (B138 ih a0 a1 h))) vs
noncomputable def B143 (ih : Nat → List V → Hp → VH) (a0 a1 a4 a7 a8 a9 : V) (h : Hp) : VH :=
lenSl a8 fun v4 =>
intS .lss a9 v4 fun v5 =>
ifS v5 (
idxS 1 a8 a9 fun v6 =>
load1 v6 h fun v7 =>
bindS (ih 118 [a0, a1, v7] h) fun v8 h9 =>
guardS v8 true (some (a8, h9)) h9 fun v10 h11 =>
guardS v8 true (some (a9, h11)) h11 fun v12 h13 =>
guardS v8 true (idxS 1 v10 v12 fun v14 =>
some (v14, h13)) h13 fun v15 h16 =>
guardS v8 true (load1 v15 h16 fun v17 =>
some (v17, h16)) h16 fun v18 h19 =>
guardS v8 true (lenStr v18 fun v20 =>
some (v20, h19)) h19 fun v21 h22 =>
guardS v8 true (some (a7, h22)) h22 fun v23 h24 =>
guardS v8 true (lenStr v23 fun v25 =>
some (v25, h24)) h24 fun v26 h27 =>
guardS v8 true (intS .gtr v21 v26 fun v28 =>
some (v28, h27)) h27 fun v29 h30 =>
optS (pickV v8 v29 (.bool false)) fun v31 =>
ifS v31 (
idxS 1 a8 a9 fun v32 =>
load1 v32 h30 fun v33 =>
ih 145 [a0, a1, a4, v33, a8, a9] h30) (
ih 145 [a0, a1, a4, a7, a8, a9] h30)) (
strS .neq a7 (.str (us [])) fun v34 =>
ifS v34 (
bindS (bldStruct h [(0, (.int .u8 (.ofNat 3))), (1, a7)] (.agg [(.int .u8 (.ofNat 0)), (.str (us [])), (.int .i64 (.ofNat 0)), (.int .i64 (.ofNat 0))]) (some [(0, 1), (1, 1), (2, 1), (3, 1)])) fun v35 h36 =>
lenStr a7 fun v37 =>
storeN 4 a4 v35 h36 fun h38 =>
loadN 4 a4 h38 fun v39 =>
some (.tuple [v39, v37, (.int .i64 (.ofNat 0))], h38)) (
idxStr a0 a1 fun v40 =>
intS .eql v40 (.int .u8 (.ofNat 47)) fun v41 =>
guardS v41 false (some (a0, h)) h fun v42 h43 =>
guardS v41 false (some (a1, h43)) h43 fun v44 h45 =>
guardS v41 false (idxStr v42 v44 fun v46 =>
some (v46, h45)) h45 fun v47 h48 =>
guardS v41 false (intS .eql v47 (.int .u8 (.ofNat 94)) fun v49 =>
some (v49, h48)) h48 fun v50 h51 =>
optS (pickV v41 (.bool true) v50) fun v52 =>
ifS v52 (
bindS (bldStruct h51 [] (.agg [(.int .u8 (.ofNat 0)), (.str (us [])), (.int .i64 (.ofNat 0)), (.int .i64 (.ofNat 0))]) (some [(0, 1), (1, 1), (2, 1), (3, 1)])) fun v53 h54 =>
storeN 4 a4 v53 h54 fun h55 =>
loadN 4 a4 h55 fun v56 =>
some (.tuple [v56, (.int .i64 (.ofNat 0)), (.int .i64 (.ofNat 31))], h55)) (
bindS (bldStruct h51 [] (.agg [(.int .u8 (.ofNat 0)), (.str (us [])), (.int .i64 (.ofNat 0)), (.int .i64 (.ofNat 0))]) (some [(0, 1), (1, 1), (2, 1), (3, 1)])) fun v57 h58 =>
storeN 4 a4 v57 h58 fun h59 =>
loadN 4 a4 h59 fun v60 =>
some (.tuple [v60, (.int .i64 (.ofNat 0)), (.int .i64 (.ofNat 30))], h59))))
noncomputable def G143 : Sh := fun ih vs h => consE (fun a0 => consE (fun a1 => consE (fun a4 => consE (fun a7 => consE (fun a8 => consE (fun a9 => nilE (B143 ih a0 a1 a4 a7 a8 a9 h))))))) vs
noncomputable def B145 (ih : Nat → List V → Hp → VH) (a0 a1 a4 a7 a8 a9 : V) (h : Hp) : VH :=
intS .add a9 (.int .i64 (.ofNat 1)) fun v61 =>
ih 143 [a0, a1, a4, a7, a8, v61] h
noncomputable def G145 : Sh := fun ih vs h => consE (fun a0 => consE (fun a1 => consE (fun a4 => consE (fun a7 => consE (fun a8 => consE (fun a9 => nilE (B145 ih a0 a1 a4 a7 a8 a9 h))))))) vs
noncomputable def B118 (ih : Nat → List V → Hp → VH) (a0 a1 a2 : V) (h : Hp) : VH :=
lenStr a2 fun v0 =>
intS .add a1 v0 fun v1 =>
lenStr a0 fun v2 =>
intS .leq v1 v2 fun v3 =>
guardS v3 true (some (a0, h)) h fun v4 h5 =>
guardS v3 true (some (a1, h5)) h5 fun v6 h7 =>
guardS v3 true (some (a1, h7)) h7 fun v8 h9 =>
guardS v3 true (some (a2, h9)) h9 fun v10 h11 =>
guardS v3 true (lenStr v10 fun v12 =>
some (v12, h11)) h11 fun v13 h14 =>
guardS v3 true (intS .add v8 v13 fun v15 =>
some (v15, h14)) h14 fun v16 h17 =>
guardS v3 true (slStrK (some v6) (some v16) v4 fun v18 =>
some (v18, h17)) h17 fun v19 h20 =>
guardS v3 true (some (a2, h20)) h20 fun v21 h22 =>
guardS v3 true (strS .eql v19 v21 fun v23 =>
some (v23, h22)) h22 fun v24 h25 =>
optS (pickV v3 v24 (.bool false)) fun v26 =>
some (v26, h25)
noncomputable def G118 : Sh := fun ih vs h => consE (fun a0 => consE (fun a1 => consE (fun a2 => nilE (B118 ih a0 a1 a2 h)))) vs
noncomputable def B136 (ih : Nat → List V → Hp → VH) (a0 : V) (h : Hp) : VH :=
lenStr a0 fun v0 =>
intS .lss v0 (.int .i64 (.ofNat 2)) fun v1 =>
guardS v1 false (some (a0, h)) h fun v2 h3 =>
guardS v1 false (idxStr v2 (.int .i64 (.ofNat 0)) fun v4 =>
some (v4, h3)) h3 fun v5 h6 =>
guardS v1 false (intS .neq v5 (.int .u8 (.ofNat 34)) fun v7 =>
some (v7, h6)) h6 fun v8 h9 =>
guardS v1 false (some (v8, h9)) h9 fun v10 h11 =>
guardS v10 true (some (a0, h11)) h11 fun v12 h13 =>
guardS v10 true (idxStr v12 (.int .i64 (.ofNat 0)) fun v14 =>
some (v14, h13)) h13 fun v15 h16 =>
guardS v10 true (intS .neq v15 (.int .u8 (.ofNat 39)) fun v17 =>
some (v17, h16)) h16 fun v18 h19 =>
guardS v1 false (optS (pickV v10 v18 (.bool false)) fun v20 =>
some (v20, h19)) h19 fun v21 h22 =>
optS (pickV v1 (.bool true) v21) fun v23 =>
ifS v23 (
some (.tuple [(.str (us [])), (.int .i64 (.ofNat 30))], h22)) (
ih 147 [a0, (.str (us [])), (.int .i64 (.ofNat 1))] h22)
noncomputable def G136 : Sh := fun ih vs h => consE (fun a0 => nilE (B136 ih a0 h)) vs
noncomputable def B147 (ih : Nat → List V → Hp → VH) (a0 a4 a5 : V) (h : Hp) : VH :=
idxStr a0 (.int .i64 (.ofNat 0)) fun v24 =>
bindS (ih 196 [a0, a5, v24] h) fun v25 h26 =>
extS 0 v25 fun v27 =>
extS 1 v25 fun v28 =>
intS .eql v28 (.int .i64 (.ofNat 0)) fun v29 =>
ifS v29 (
lenStr a0 fun v30 =>
intS .sub v30 (.int .i64 (.ofNat 1)) fun v31 =>
intS .neq a5 v31 fun v32 =>
guardS v32 false (some (a0, h26)) h26 fun v33 _ =>
guardS v32 false (some (a5, h26)) h26 fun v34 _ =>
guardS v32 false (idxStr v33 v34 fun v35 =>
some (v35, h26)) h26 fun v36 _ =>
guardS v32 false (some (a0, h26)) h26 fun v37 _ =>
guardS v32 false (idxStr v37 (.int .i64 (.ofNat 0)) fun v38 =>
some (v38, h26)) h26 fun v39 _ =>
guardS v32 false (intS .neq v36 v39 fun v40 =>
some (v40, h26)) h26 fun v41 h42 =>
optS (pickV v32 (.bool true) v41) fun v43 =>
ifS v43 (
some (.tuple [(.str (us [])), (.int .i64 (.ofNat 30))], h42)) (
some (.tuple [a4, (.int .i64 (.ofNat 0))], h42))) (
strS .add a4 v27 fun v44 =>
intS .add a5 v28 fun v45 =>
ih 147 [a0, v44, v45] h26)
noncomputable def G147 : Sh := fun ih vs h => consE (fun a0 => consE (fun a4 => consE (fun a5 => nilE (B147 ih a0 a4 a5 h)))) vs
noncomputable def B134 (ih : Nat → List V → Hp → VH) (a0 a1 : V) (h : Hp) : VH :=
intS .add a1 (.int .i64 (.ofNat 1)) fun v0 =>
ih 149 [a0, a1, v0] h
noncomputable def G134 : Sh := fun ih vs h => consE (fun a0 => consE (fun a1 => nilE (B134 ih a0 a1 h))) vs
noncomputable def B149 (ih : Nat → List V → Hp → VH) (a0 a1 a5 : V) (h : Hp) : VH :=
lenStr a0 fun v1 =>
intS .lss a5 v1 fun v2 =>
ifS v2 (
idxStr a0 a5 fun v3 =>
idxStr a0 a1 fun v4 =>
intS .eql v3 v4 fun v5 =>
ifS v5 (
intS .add a5 (.int .i64 (.ofNat 1)) fun v6 =>
intS .sub v6 a1 fun v7 =>
some (v7, h)) (
idxStr a0 a5 fun v8 =>
intS .eql v8 (.int .u8 (.ofNat 10)) fun v9 =>
guardS v9 false (some (a0, h)) h fun v10 h11 =>
guardS v9 false (some (a5, h11)) h11 fun v12 h13 =>
guardS v9 false (idxStr v10 v12 fun v14 =>
some (v14, h13)) h13 fun v15 h16 =>
guardS v9 false (intS .eql v15 (.int .u8 (.ofNat 13)) fun v17 =>
some (v17, h16)) h16 fun v18 h19 =>
optS (pickV v9 (.bool true) v18) fun v20 =>
ifS v20 (
some ((.int .i64 (.ofNat 0)), h19)) (
idxStr a0 a5 fun v21 =>
intS .neq v21 (.int .u8 (.ofNat 92)) fun v22 =>
ifS v22 (
intS .add a5 (.int .i64 (.ofNat 1)) fun v23 =>
ih 149 [a0, a1, v23] h19) (
intS .add a5 (.int .i64 (.ofNat 1)) fun v24 =>
bindS (ih 116 [a0, v24] h19) fun v25 h26 =>
intS .eql v25 (.int .i64 (.ofNat 0)) fun v27 =>
ifS v27 (
ih 151 [a0, a1, v24, (.int .i64 (.ofNat 1))] h26) (
ih 151 [a0, a1, v24, v25] h26))))) (
some ((.int .i64 (.ofNat 0)), h))
noncomputable def G149 : Sh := fun ih vs h => consE (fun a0 => consE (fun a1 => consE (fun a5 => nilE (B149 ih a0 a1 a5 h)))) vs
noncomputable def B151 (ih : Nat → List V → Hp → VH) (a0 a1 a5 a6 : V) (h : Hp) : VH :=
bindS (ih 124 [a0, a5] h) fun v28 h29 =>
intS .eql v28 (.int .u8 (.ofNat 122)) fun v30 =>
ifS v30 (
ih 155 [a0, a1, a5, a6] h29) (
ih 153 [a0, a1, a5, a6] h29)
noncomputable def G151 : Sh := fun ih vs h => consE (fun a0 => consE (fun a1 => consE (fun a5 => consE (fun a6 => nilE (B151 ih a0 a1 a5 a6 h))))) vs
noncomputable def B153 (ih : Nat → List V → Hp → VH) (a0 a1 a5 a6 : V) (h : Hp) : VH :=
intS .add a5 a6 fun v31 =>
ih 149 [a0, a1, v31] h
noncomputable def G153 : Sh := fun ih vs h => consE (fun a0 => consE (fun a1 => consE (fun a5 => consE (fun a6 => nilE (B153 ih a0 a1 a5 a6 h))))) vs
noncomputable def B155 (ih : Nat → List V → Hp → VH) (a0 a1 a5 a6 : V) (h : Hp) : VH :=
intS .add a5 a6 fun v32 =>
lenStr a0 fun v33 =>
intS .lss v32 v33 fun v34 =>
guardS v34 true (some (a0, h)) h fun v35 h36 =>
guardS v34 true (some (a5, h36)) h36 fun v37 h38 =>
guardS v34 true (some (a6, h38)) h38 fun v39 h40 =>
guardS v34 true (intS .add v37 v39 fun v41 =>
some (v41, h40)) h40 fun v42 h43 =>
guardS v34 true (idxStr v35 v42 fun v44 =>
some (v44, h43)) h43 fun v45 h46 =>
guardS v34 true (bindS (ih 58 [v45] h46) fun v47 h48 =>
some (v47, h48)) h46 fun v49 h50 =>
optS (pickV v34 v49 (.bool false)) fun v51 =>
ifS v51 (
intS .add a6 (.int .i64 (.ofNat 1)) fun v52 =>
ih 155 [a0, a1, a5, v52] h50) (
ih 153 [a0, a1, a5, a6] h50)
noncomputable def G155 : Sh := fun ih vs h => consE (fun a0 => consE (fun a1 => consE (fun a5 => consE (fun a6 => nilE (B155 ih a0 a1 a5 a6 h))))) vs
noncomputable def B120 (ih : Nat → List V → Hp → VH) (a0 a1 : V) (h : Hp) : VH :=
bindS (ih 124 [a0, a1] h) fun v0 h1 =>
intS .neq v0 (.int .u8 (.ofNat 91)) fun v2 =>
ifS v2 (
some (.tuple [(.str (us [])), (.int .i64 (.ofNat 0)), (.bool false)], h1)) (
intS .add a1 (.int .i64 (.ofNat 1)) fun v3 =>
ih 157 [a0, a1, (.str (us [93])), v3] h1)
noncomputable def G120 : Sh := fun ih vs h => consE (fun a0 => consE (fun a1 => nilE (B120 ih a0 a1 h))) vs
noncomputable def B157 (ih : Nat → List V → Hp → VH) (a0 a1 a7 a8 : V) (h : Hp) : VH :=
bindS (ih 124 [a0, a8] h) fun v4 h5 =>
intS .eql v4 (.int .u8 (.ofNat 61)) fun v6 =>
ifS v6 (
strS .add a7 (.str (us [61])) fun v7 =>
intS .add a8 (.int .i64 (.ofNat 1)) fun v8 =>
ih 157 [a0, a1, v7, v8] h5) (
bindS (ih 124 [a0, a8] h5) fun v9 h10 =>
intS .neq v9 (.int .u8 (.ofNat 91)) fun v11 =>
ifS v11 (
some (.tuple [(.str (us [])), (.int .i64 (.ofNat 0)), (.bool false)], h10)) (
strS .add a7 (.str (us [93])) fun v12 =>
intS .add a8 (.int .i64 (.ofNat 1)) fun v13 =>
ih 159 [a0, a1, v12, v13, (.str (us [])), (.bool true)] h10))
noncomputable def G157 : Sh := fun ih vs h => consE (fun a0 => consE (fun a1 => consE (fun a7 => consE (fun a8 => nilE (B157 ih a0 a1 a7 a8 h))))) vs
noncomputable def B159 (ih : Nat → List V → Hp → VH) (a0 a1 a7 a8 a9 a10 : V) (h : Hp) : VH :=
lenStr a0 fun v14 =>
intS .lss a8 v14 fun v15 =>
ifS v15 (
bindS (ih 118 [a0, a8, a7] h) fun v16 h17 =>
ifS v16 (
lenStr a7 fun v18 =>
intS .add a8 v18 fun v19 =>
intS .sub v19 a1 fun v20 =>
some (.tuple [a9, v20, (.bool true)], h17)) (
bindS (ih 116 [a0, a8] h17) fun v21 h22 =>
intS .eql v21 (.int .i64 (.ofNat 0)) fun v23 =>
ifS v23 (
intS .add a8 (.int .i64 (.ofNat 1)) fun v24 =>
slStrK (some a8) (some v24) a0 fun v25 =>
strS .add a9 v25 fun v26 =>
ih 161 [a0, a1, a7, a8, v26, (.int .i64 (.ofNat 1))] h22) (
notS a10 fun v27 =>
ifS v27 (
strS .add a9 (.str (us [10])) fun v28 =>
ih 161 [a0, a1, a7, a8, v28, v21] h22) (
ih 161 [a0, a1, a7, a8, a9, v21] h22)))) (
some (.tuple [(.str (us [])), (.int .i64 (.ofNat 0)), (.bool true)], h))
noncomputable def G159 : Sh := fun ih vs h => consE (fun a0 => consE (fun a1 => consE (fun a7 => consE (fun a8 => consE (fun a9 => consE (fun a10 => nilE (B159 ih a0 a1 a7 a8 a9 a10 h))))))) vs
noncomputable def B161 (ih : Nat → List V → Hp → VH) (a0 a1 a7 a8 a9 a11 : V) (h : Hp) : VH :=
intS .add a8 a11 fun v29 =>
ih 159 [a0, a1, a7, v29, a9, (.bool false)] h
noncomputable def G161 : Sh := fun ih vs h => consE (fun a0 => consE (fun a1 => consE (fun a7 => consE (fun a8 => consE (fun a9 => consE (fun a11 => nilE (B161 ih a0 a1 a7 a8 a9 a11 h))))))) vs
noncomputable def B132 (ih : Nat → List V → Hp → VH) (a0 : V) (h : Hp) : VH :=
bindS (ih 118 [a0, (.int .i64 (.ofNat 0)), (.str (us [48, 120]))] h) fun v0 h1 =>
guardS v0 false (some (a0, h1)) h1 fun v2 h3 =>
guardS v0 false (bindS (ih 118 [v2, (.int .i64 (.ofNat 0)), (.str (us [48, 88]))] h3) fun v4 h5 =>
some (v4, h5)) h3 fun v6 h7 =>
optS (pickV v0 (.bool true) v6) fun v8 =>
ih 163 [a0, v8, (.bool true), (.bool false), (.int .i64 (.ofNat 0))] h7
noncomputable def G132 : Sh := fun ih vs h => consE (fun a0 => nilE (B132 ih a0 h)) vs
noncomputable def B163 (ih : Nat → List V → Hp → VH) (a0 a4 a5 a6 a7 : V) (h : Hp) : VH :=
lenStr a0 fun v9 =>
intS .lss a7 v9 fun v10 =>
ifS v10 (
idxStr a0 a7 fun v11 =>
guardS a5 true (some (v11, h)) h fun v12 h13 =>
guardS a5 true (bindS (ih 126 [v12] h13) fun v14 h15 =>
some (v14, h15)) h13 fun v16 h17 =>
optS (pickV a5 v16 (.bool false)) fun v18 =>
guardS a6 false (some (v11, h17)) h17 fun v19 h20 =>
guardS a6 false (intS .eql v19 (.int .u8 (.ofNat 46)) fun v21 =>
some (v21, h20)) h20 fun v22 h23 =>
optS (pickV a6 (.bool true) v22) fun v24 =>
guardS v24 false (some (a4, h23)) h23 fun v25 h26 =>
guardS v24 false (notS v25 fun v27 =>
some (v27, h26)) h26 fun v28 h29 =>
guardS v24 false (some (v28, h29)) h29 fun v30 h31 =>
guardS v30 true (some (v11, h31)) h31 fun v32 h33 =>
guardS v30 true (intS .eql v32 (.int .u8 (.ofNat 101)) fun v34 =>
some (v34, h33)) h33 fun v35 h36 =>
guardS v30 true (some (v35, h36)) h36 fun v37 h38 =>
guardS v37 false (some (v11, h38)) h38 fun v39 h40 =>
guardS v37 false (intS .eql v39 (.int .u8 (.ofNat 69)) fun v41 =>
some (v41, h40)) h40 fun v42 h43 =>
guardS v30 true (optS (pickV v37 (.bool true) v42) fun v44 =>
some (v44, h43)) h43 fun v45 h46 =>
guardS v24 false (optS (pickV v30 v45 (.bool false)) fun v47 =>
some (v47, h46)) h46 fun v48 h49 =>
optS (pickV v24 (.bool true) v48) fun v50 =>
guardS v50 false (some (a4, h49)) h49 fun v51 h52 =>
guardS v50 false (some (v51, h52)) h52 fun v53 h54 =>
guardS v53 true (some (v11, h54)) h54 fun v55 h56 =>
guardS v53 true (intS .eql v55 (.int .u8 (.ofNat 112)) fun v57 =>
some (v57, h56)) h56 fun v58 h59 =>
guardS v53 true (some (v58, h59)) h59 fun v60 h61 =>
guardS v60 false (some (v11, h61)) h61 fun v62 h63 =>
guardS v60 false (intS .eql v62 (.int .u8 (.ofNat 80)) fun v64 =>
some (v64, h63)) h63 fun v65 h66 =>
guardS v53 true (optS (pickV v60 (.bool true) v65) fun v67 =>
some (v67, h66)) h66 fun v68 h69 =>
guardS v50 false (optS (pickV v53 v68 (.bool false)) fun v70 =>
some (v70, h69)) h69 fun v71 h72 =>
optS (pickV v50 (.bool true) v71) fun v73 =>
intS .add a7 (.int .i64 (.ofNat 1)) fun v74 =>
ih 163 [a0, a4, v18, v73, v74] h72) (
bindS (ih 194 [a0] h) fun v75 h76 =>
extS 0 v75 fun v77 =>
extS 1 v75 fun v78 =>
guardS v78 true (some (a4, h76)) h76 fun v79 h80 =>
guardS v78 true (some (v79, h80)) h80 fun v81 h82 =>
guardS v81 false (some (a5, h82)) h82 fun v83 h84 =>
guardS v78 true (optS (pickV v81 (.bool true) v83) fun v85 =>
some (v85, h84)) h84 fun v86 h87 =>
optS (pickV v78 v86 (.bool false)) fun v88 =>
ifS v88 (
some (.tuple [v77, (.int .i64 (.ofNat 0))], h87)) (
guardS a5 false (some (a6, h87)) h87 fun v89 h90 =>
optS (pickV a5 (.bool true) v89) fun v91 =>
ifS v91 (
some (.tuple [(.int .i64 (.ofNat 0)), (.int .i64 (.ofNat 31))], h90)) (
some (.tuple [(.int .i64 (.ofNat 0)), (.int .i64 (.ofNat 30))], h90))))
noncomputable def G163 : Sh := fun ih vs h => consE (fun a0 => consE (fun a4 => consE (fun a5 => consE (fun a6 => consE (fun a7 => nilE (B163 ih a0 a4 a5 a6 a7 h)))))) vs
noncomputable def B130 (ih : Nat → List V → Hp → VH) (a0 a1 : V) (h : Hp) : VH :=
bindS (ih 124 [a0, a1] h) fun v0 h1 =>
bindS (ih 126 [v0] h1) fun v2 h3 =>
notS v2 fun v4 =>
guardS v4 true (some (a0, h3)) h3 fun v5 h6 =>
guardS v4 true (some (a1, h6)) h6 fun v7 h8 =>
guardS v4 true (bindS (ih 124 [v5, v7] h8) fun v9 h10 =>
some (v9, h10)) h8 fun v11 h12 =>
guardS v4 true (intS .eql v11 (.int .u8 (.ofNat 46)) fun v13 =>
some (v13, h12)) h12 fun v14 h15 =>
guardS v4 true (some (v14, h15)) h15 fun v16 h17 =>
guardS v16 true (some (a0, h17)) h17 fun v18 h19 =>
guardS v16 true (some (a1, h19)) h19 fun v20 h21 =>
guardS v16 true (intS .add v20 (.int .i64 (.ofNat 1)) fun v22 =>
some (v22, h21)) h21 fun v23 h24 =>
guardS v16 true (bindS (ih 124 [v18, v23] h24) fun v25 h26 =>
some (v25, h26)) h24 fun v27 h28 =>
guardS v16 true (bindS (ih 126 [v27] h28) fun v29 h30 =>
some (v29, h30)) h28 fun v31 h32 =>
guardS v4 true (optS (pickV v16 v31 (.bool false)) fun v33 =>
some (v33, h32)) h32 fun v34 h35 =>
guardS v4 true (notS v34 fun v36 =>
some (v36, h35)) h35 fun v37 h38 =>
optS (pickV v4 v37 (.bool false)) fun v39 =>
ifS v39 (
some ((.int .i64 (.ofNat 0)), h38)) (
bindS (ih 118 [a0, a1, (.str (us [48, 120]))] h38) fun v40 h41 =>
guardS v40 false (some (a0, h41)) h41 fun v42 h43 =>
guardS v40 false (some (a1, h43)) h43 fun v44 h45 =>
guardS v40 false (bindS (ih 118 [v42, v44, (.str (us [48, 88]))] h45) fun v46 h47 =>
some (v46, h47)) h45 fun v48 h49 =>
optS (pickV v40 (.bool true) v48) fun v50 =>
ih 167 [a0, a1, v50, a1] h49)
noncomputable def G130 : Sh := fun ih vs h => consE (fun a0 => consE (fun a1 => nilE (B130 ih a0 a1 h))) vs
noncomputable def B165 (ih : Nat → List V → Hp → VH) (a1 a6 : V) (h : Hp) : VH :=
intS .sub a6 a1 fun v51 =>
some (v51, h)
noncomputable def G165 : Sh := fun ih vs h => consE (fun a1 => consE (fun a6 => nilE (B165 ih a1 a6 h))) vs
noncomputable def B167 (ih : Nat → List V → Hp → VH) (a0 a1 a5 a6 : V) (h : Hp) : VH :=
lenStr a0 fun v52 =>
intS .lss a6 v52 fun v53 =>
ifS v53 (
idxStr a0 a6 fun v54 =>
intS .sub a6 (.int .i64 (.ofNat 1)) fun v55 =>
bindS (ih 124 [a0, v55] h) fun v56 h57 =>
intS .gtr a6 a1 fun v58 =>
guardS v58 true (some (a5, h57)) h57 fun v59 h60 =>
guardS v58 true (notS v59 fun v61 =>
some (v61, h60)) h60 fun v62 h63 =>
guardS v58 true (some (v62, h63)) h63 fun v64 h65 =>
guardS v64 true (some (v56, h65)) h65 fun v66 h67 =>
guardS v64 true (intS .eql v66 (.int .u8 (.ofNat 101)) fun v68 =>
some (v68, h67)) h67 fun v69 h70 =>
guardS v64 true (some (v69, h70)) h70 fun v71 h72 =>
guardS v71 false (some (v56, h72)) h72 fun v73 h74 =>
guardS v71 false (intS .eql v73 (.int .u8 (.ofNat 69)) fun v75 =>
some (v75, h74)) h74 fun v76 h77 =>
guardS v64 true (optS (pickV v71 (.bool true) v76) fun v78 =>
some (v78, h77)) h77 fun v79 h80 =>
guardS v58 true (optS (pickV v64 v79 (.bool false)) fun v81 =>
some (v81, h80)) h80 fun v82 h83 =>
guardS v58 true (some (v82, h83)) h83 fun v84 h85 =>
guardS v84 false (some (a5, h85)) h85 fun v86 h87 =>
guardS v84 false (some (v86, h87)) h87 fun v88 h89 =>
guardS v88 true (some (v56, h89)) h89 fun v90 h91 =>
guardS v88 true (intS .eql v90 (.int .u8 (.ofNat 112)) fun v92 =>
some (v92, h91)) h91 fun v93 h94 =>
guardS v88 true (some (v93, h94)) h94 fun v95 h96 =>
guardS v95 false (some (v56, h96)) h96 fun v97 h98 =>
guardS v95 false (intS .eql v97 (.int .u8 (.ofNat 80)) fun v99 =>
some (v99, h98)) h98 fun v100 h101 =>
guardS v88 true (optS (pickV v95 (.bool true) v100) fun v102 =>
some (v102, h101)) h101 fun v103 h104 =>
guardS v84 false (optS (pickV v88 v103 (.bool false)) fun v105 =>
some (v105, h104)) h104 fun v106 h107 =>
guardS v58 true (optS (pickV v84 (.bool true) v106) fun v108 =>
some (v108, h107)) h107 fun v109 h110 =>
optS (pickV v58 v109 (.bool false)) fun v111 =>
bindS (ih 126 [v54] h110) fun v112 h113 =>
notS v112 fun v114 =>
guardS v114 true (some (v54, h113)) h113 fun v115 h116 =>
guardS v114 true (bindS (ih 122 [v115] h116) fun v117 h118 =>
some (v117, h118)) h116 fun v119 h120 =>
guardS v114 true (notS v119 fun v121 =>
some (v121, h120)) h120 fun v122 h123 =>
optS (pickV v114 v122 (.bool false)) fun v124 =>
guardS v124 true (some (v54, h123)) h123 fun v125 h126 =>
guardS v124 true (intS .neq v125 (.int .u8 (.ofNat 46)) fun v127 =>
some (v127, h126)) h126 fun v128 h129 =>
optS (pickV v124 v128 (.bool false)) fun v130 =>
guardS v130 true (some (v111, h129)) h129 fun v131 h132 =>
guardS v130 true (some (v131, h132)) h132 fun v133 h134 =>
guardS v133 true (some (v54, h134)) h134 fun v135 h136 =>
guardS v133 true (intS .eql v135 (.int .u8 (.ofNat 43)) fun v137 =>
some (v137, h136)) h136 fun v138 h139 =>
guardS v133 true (some (v138, h139)) h139 fun v140 h141 =>
guardS v140 false (some (v54, h141)) h141 fun v142 h143 =>
guardS v140 false (intS .eql v142 (.int .u8 (.ofNat 45)) fun v144 =>
some (v144, h143)) h143 fun v145 h146 =>
guardS v133 true (optS (pickV v140 (.bool true) v145) fun v147 =>
some (v147, h146)) h146 fun v148 h149 =>
guardS v130 true (optS (pickV v133 v148 (.bool false)) fun v150 =>
some (v150, h149)) h149 fun v151 h152 =>
guardS v130 true (notS v151 fun v153 =>
some (v153, h152)) h152 fun v154 h155 =>
optS (pickV v130 v154 (.bool false)) fun v156 =>
ifS v156 (
ih 165 [a1, a6] h155) (
intS .add a6 (.int .i64 (.ofNat 1)) fun v157 =>
ih 167 [a0, a1, a5, v157] h155)) (
ih 165 [a1, a6] h)
noncomputable def G167 : Sh := fun ih vs h => consE (fun a0 => consE (fun a1 => consE (fun a5 => consE (fun a6 => nilE (B167 ih a0 a1 a5 a6 h))))) vs
noncomputable def B128 (ih : Nat → List V → Hp → VH) (a0 : V) (h : Hp) : VH :=
bindS (ih 192 [] h) fun v0 h1 =>
ih 169 [a0, v0, (.int .i64 (.ofNat 0))] h1
noncomputable def G128 : Sh := fun ih vs h => consE (fun a0 => nilE (B128 ih a0 h)) vs
noncomputable def B169 (ih : Nat → List V → Hp → VH) (a0 a3 a4 : V) (h : Hp) : VH :=
lenSl a3 fun v2 =>
intS .lss a4 v2 fun v3 =>
ifS v3 (
idxS 1 a3 a4 fun v4 =>
load1 v4 h fun v5 =>
strS .eql v5 a0 fun v6 =>
ifS v6 (
some ((.bool true), h)) (
intS .add a4 (.int .i64 (.ofNat 1)) fun v7 =>
ih 169 [a0, a3, v7] h)) (
some ((.bool false), h))
noncomputable def G169 : Sh := fun ih vs h => consE (fun a0 => consE (fun a3 => consE (fun a4 => nilE (B169 ih a0 a3 a4 h)))) vs
noncomputable def B126 (ih : Nat → List V → Hp → VH) (a0 : V) (h : Hp) : VH :=
bindS (ih 114 [a0, (.str (us [48, 49, 50, 51, 52, 53, 54, 55, 56, 57]))] h) fun v0 h1 =>
some (v0, h1)
noncomputable def G126 : Sh := fun ih vs h => consE (fun a0 => nilE (B126 ih a0 h)) vs
noncomputable def B124 (ih : Nat → List V → Hp → VH) (a0 a1 : V) (h : Hp) : VH :=
intS .lss a1 (.int .i64 (.ofNat 0)) fun v0 =>
guardS v0 false (some (a1, h)) h fun v1 h2 =>
guardS v0 false (some (a0, h2)) h2 fun v3 h4 =>
guardS v0 false (lenStr v3 fun v5 =>
some (v5, h4)) h4 fun v6 h7 =>
guardS v0 false (intS .geq v1 v6 fun v8 =>
some (v8, h7)) h7 fun v9 h10 =>
optS (pickV v0 (.bool true) v9) fun v11 =>
ifS v11 (
some ((.int .u8 (.ofNat 0)), h10)) (
idxStr a0 a1 fun v12 =>
some (v12, h10))
noncomputable def G124 : Sh := fun ih vs h => consE (fun a0 => consE (fun a1 => nilE (B124 ih a0 a1 h))) vs
noncomputable def B122 (ih : Nat → List V → Hp → VH) (a0 : V) (h : Hp) : VH :=
bindS (ih 114 [a0, (.str (us [97, 98, 99, 100, 101, 102, 103, 104, 105, 106, 107, 108, 109, 110, 111, 112, 113, 114, 115, 116, 117, 118, 119, 120, 121, 122, 65, 66, 67, 68, 69, 70, 71, 72, 73, 74, 75, 76, 77, 78, 79, 80, 81, 82, 83, 84, 85, 86, 87, 88, 89, 90, 95]))] h) fun v0 h1 =>
some (v0, h1)
noncomputable def G122 : Sh := fun ih vs h => consE (fun a0 => nilE (B122 ih a0 h)) vs
noncomputable def B114 (ih : Nat → List V → Hp → VH) (a0 a1 : V) (h : Hp) : VH :=
ih 171 [a0, a1, (.int .i64 (.ofNat 0))] h
noncomputable def G114 : Sh := fun ih vs h => consE (fun a0 => consE (fun a1 => nilE (B114 ih a0 a1 h))) vs
noncomputable def B171 (ih : Nat → List V → Hp → VH) (a0 a1 a5 : V) (h : Hp) : VH :=
lenStr a1 fun v0 =>
intS .lss a5 v0 fun v1 =>
ifS v1 (
idxStr a1 a5 fun v2 =>
intS .eql v2 a0 fun v3 =>
ifS v3 (
some ((.bool true), h)) (
intS .add a5 (.int .i64 (.ofNat 1)) fun v4 =>
ih 171 [a0, a1, v4] h)) (
some ((.bool false), h))
noncomputable def G171 : Sh := fun ih vs h => consE (fun a0 => consE (fun a1 => consE (fun a5 => nilE (B171 ih a0 a1 a5 h)))) vs
noncomputable def B230 (ih : Nat → List V → Hp → VH) (a0 a1 : V) (h : Hp) : VH :=
bindS (ih 266 [a0, a1] h) fun v0 h1 =>
some (v0, h1)
noncomputable def G230 : Sh := fun ih vs h => consE (fun a0 => consE (fun a1 => nilE (B230 ih a0 a1 h))) vs
noncomputable def B232 (ih : Nat → List V → Hp → VH) (a0 a1 : V) (h : Hp) : VH :=
intS .eql a1 (.int .i64 (.ofNat 10)) fun v0 =>
ifS v0 (
intS .lss a0 (.int .u64 (.ofNat 100)) fun v1 =>
ifS v1 (
convI .i64 a0 fun v2 =>
bindS (ih 268 [v2] h) fun v3 h4 =>
some (v3, h4)) (
newS 168 [(.int .u8 (.ofNat 0)), (.int .u8 (.ofNat 0)), (.int .u8 (.ofNat 0)), (.int .u8 (.ofNat 0)), (.int .u8 (.ofNat 0)), (.int .u8 (.ofNat 0)), (.int .u8 (.ofNat 0)), (.int .u8 (.ofNat 0)), (.int .u8 (.ofNat 0)), (.int .u8 (.ofNat 0)), (.int .u8 (.ofNat 0)), (.int .u8 (.ofNat 0)), (.int .u8 (.ofNat 0)), (.int .u8 (.ofNat 0)), (.int .u8 (.ofNat 0)), (.int .u8 (.ofNat 0)), (.int .u8 (.ofNat 0)), (.int .u8 (.ofNat 0)), (.int .u8 (.ofNat 0)), (.int .u8 (.ofNat 0)), (.int .u8 (.ofNat 0)), (.int .u8 (.ofNat 0)), (.int .u8 (.ofNat 0)), (.int .u8 (.ofNat 0))] h fun v5 h6 =>
bindS (ih 270 [a0] h6) fun v7 h8 =>
bindS (vh h8 (cutA 24 1 v5 (some 0) (natA (some v7)))) fun v9 h10 =>
bindS (ih 272 [v9, a0] h10) fun v11 h12 =>
bindS (vh h12 (cutA 24 1 v5 (some 0) (natA (some v7)))) fun v13 h14 =>
bindS (vh h14 (b2s h14 v13)) fun v15 h16 =>
some (v15, h16))) (
bindS (ih 274 [.nilSlice, a0, a1, (.bool false), (.bool false)] h) fun v17 h18 =>
extS 0 v17 fun v19 =>
extS 1 v17 fun v20 =>
some (v20, h18))
noncomputable def G232 : Sh := fun ih vs h => consE (fun a0 => consE (fun a1 => nilE (B232 ih a0 a1 h))) vs
noncomputable def B228 (ih : Nat → List V → Hp → VH) (a0 a1 : V) (h : Hp) : VH :=
nilS a0 fun v0 =>
addrS 0 v0 fun v1 =>
load1 v1 h fun v2 =>
nilS a0 fun v3 =>
addrS 2 v3 fun v4 =>
load1 v4 h fun v5 =>
lenSl v2 fun v6 =>
intS .gtr v6 v5 fun v7 =>
guardS v7 true (some (a1, h)) h fun v8 h9 =>
guardS v7 true (convI .u32 v8 fun v10 =>
some (v10, h9)) h9 fun v11 h12 =>
guardS v7 true (some (v2, h12)) h12 fun v13 h14 =>
guardS v7 true (some (v2, h14)) h14 fun v15 h16 =>
guardS v7 true (lenSl v15 fun v17 =>
some (v17, h16)) h16 fun v18 h19 =>
guardS v7 true (intS .sub v18 (.int .i64 (.ofNat 1)) fun v20 =>
some (v20, h19)) h19 fun v21 h22 =>
guardS v7 true (idxS 3 v13 v21 fun v23 =>
some (v23, h22)) h22 fun v24 h25 =>
guardS v7 true (addrS 1 v24 fun v26 =>
some (v26, h25)) h25 fun v27 h28 =>
guardS v7 true (load1 v27 h28 fun v29 =>
some (v29, h28)) h28 fun v30 h31 =>
guardS v7 true (convI .u32 v30 fun v32 =>
some (v32, h31)) h31 fun v33 h34 =>
guardS v7 true (intS .leq v11 v33 fun v35 =>
some (v35, h34)) h34 fun v36 h37 =>
optS (pickV v7 v36 (.bool false)) fun v38 =>
ifS v38 (
bindS (slSlK 162 3 (some v5) none h37 v2) fun v39 h40 =>
convI .u16 a1 fun v41 =>
bindS (ih 262 [v39, v41] h40) fun v42 h43 =>
some (v42, h43)) (
nilS a0 fun v44 =>
addrS 1 v44 fun v45 =>
load1 v45 h37 fun v46 =>
lenSl v46 fun v47 =>
intS .gtr v47 (.int .i64 (.ofNat 0)) fun v48 =>
guardS v48 true (some (a1, h37)) h37 fun v49 h50 =>
guardS v48 true (some (v46, h50)) h50 fun v51 h52 =>
guardS v48 true (idxS 3 v51 (.int .i64 (.ofNat 0)) fun v53 =>
some (v53, h52)) h52 fun v54 h55 =>
guardS v48 true (addrS 0 v54 fun v56 =>
some (v56, h55)) h55 fun v57 h58 =>
guardS v48 true (load1 v57 h58 fun v59 =>
some (v59, h58)) h58 fun v60 h61 =>
guardS v48 true (convI .i32 v60 fun v62 =>
some (v62, h61)) h61 fun v63 h64 =>
guardS v48 true (intS .geq v49 v63 fun v65 =>
some (v65, h64)) h64 fun v66 h67 =>
optS (pickV v48 v66 (.bool false)) fun v68 =>
ifS v68 (
convI .u32 a1 fun v69 =>
bindS (ih 264 [v46, v69] h67) fun v70 h71 =>
some (v70, h71)) (
some ((.bool false), h67)))
noncomputable def G228 : Sh := fun ih vs h => consE (fun a0 => consE (fun a1 => nilE (B228 ih a0 a1 h))) vs
noncomputable def B222 (ih : Nat → List V → Hp → VH) (a0 : V) (h : Hp) : VH :=
bindS (ih 258 [(.int .u8 (.ofNat 48)), a0, (.int .u8 (.ofNat 57))] h) fun v0 h1 =>
some (v0, h1)
noncomputable def G222 : Sh := fun ih vs h => consE (fun a0 => nilE (B222 ih a0 h)) vs
noncomputable def B226 (ih : Nat → List V → Hp → VH) (a0 : V) (h : Hp) : VH :=
bindS (ih 258 [(.int .u8 (.ofNat 97)), a0, (.int .u8 (.ofNat 122))] h) fun v0 h1 =>
guardS v0 false (some (a0, h1)) h1 fun v2 h3 =>
guardS v0 false (bindS (ih 258 [(.int .u8 (.ofNat 65)), v2, (.int .u8 (.ofNat 90))] h3) fun v4 h5 =>
some (v4, h5)) h3 fun v6 h7 =>
optS (pickV v0 (.bool true) v6) fun v8 =>
guardS v8 false (some (a0, h7)) h7 fun v9 h10 =>
guardS v8 false (intS .eql v9 (.int .u8 (.ofNat 95)) fun v11 =>
some (v11, h10)) h10 fun v12 h13 =>
optS (pickV v8 (.bool true) v12) fun v14 =>
some (v14, h13)
noncomputable def G226 : Sh := fun ih vs h => consE (fun a0 => nilE (B226 ih a0 h)) vs
noncomputable def B224 (ih : Nat → List V → Hp → VH) (a0 : V) (h : Hp) : VH :=
strS .neq a0 (.str (us [])) fun v0 =>
guardS v0 true (some (a0, h)) h fun v1 h2 =>
guardS v0 true (bindS (ih 260 [v1, (.str (us [32]))] h2) fun v3 h4 =>
some (v3, h4)) h2 fun v5 h6 =>
guardS v0 true (notS v5 fun v7 =>
some (v7, h6)) h6 fun v8 h9 =>
optS (pickV v0 v8 (.bool false)) fun v10 =>
guardS v10 true (some (a0, h9)) h9 fun v11 h12 =>
guardS v10 true (strS .add (.str (us [32])) v11 fun v13 =>
some (v13, h12)) h12 fun v14 h15 =>
guardS v10 true (strS .add v14 (.str (us [32])) fun v16 =>
some (v16, h15)) h15 fun v17 h18 =>
guardS v10 true (bindS (ih 260 [(.str (us [32, 97, 110, 100, 32, 98, 114, 101, 97, 107, 32, 100, 111, 32, 101, 108, 115, 101, 32, 101, 108, 115, 101, 105, 102, 32, 101, 110, 100, 32, 102, 97, 108, 115, 101, 32, 102, 111, 114, 32, 102, 117, 110, 99, 116, 105, 111, 110, 32, 103, 111, 116, 111, 32, 105, 102, 32, 105, 110, 32, 108, 111, 99, 97, 108, 32, 110, 105, 108, 32, 110, 111, 116, 32, 111, 114, 32, 114, 101, 112, 101, 97, 116, 32, 114, 101, 116, 117, 114, 110, 32, 116, 104, 101, 110, 32, 116, 114, 117, 101, 32, 117, 110, 116, 105, 108, 32, 119, 104, 105, 108, 101, 32])), v17] h18) fun v19 h20 =>
some (v19, h20)) h18 fun v21 h22 =>
optS (pickV v10 v21 (.bool false)) fun v23 =>
some (v23, h22)
noncomputable def G224 : Sh := fun ih vs h => consE (fun a0 => nilE (B224 ih a0 h)) vs
noncomputable def B218 (ih : Nat → List V → Hp → VH) (a0 a1 : V) (h : Hp) : VH :=
bindS (ih 256 [a0, a1] h) fun v0 h1 =>
intS .geq v0 (.int .i64 (.ofNat 0)) fun v2 =>
some (v2, h1)
noncomputable def G218 : Sh := fun ih vs h => consE (fun a0 => consE (fun a1 => nilE (B218 ih a0 a1 h))) vs
noncomputable def B220 (ih : Nat → List V → Hp → VH) (a0 : V) (h : Hp) : VH :=
bindS (ih 166 [a0] h) fun v0 h1 =>
notS v0 fun v2 =>
some (v2, h1)
noncomputable def G220 : Sh := fun ih vs h => consE (fun a0 => nilE (B220 ih a0 h)) vs
noncomputable def B216 (ih : Nat → List V → Hp → VH) (a0 a1 a2 : V) (h : Hp) : VH :=
bindS (ih 30 [a0, (.int .u8 (.ofNat 1))] h) fun v0 h1 =>
notS v0 fun v2 =>
guardS v2 true (some (a0, h1)) h1 fun v3 h4 =>
guardS v2 true (bindS (ih 72 [v3, (.str (us [40]))] h4) fun v5 h6 =>
some (v5, h6)) h4 fun v7 h8 =>
guardS v2 true (notS v7 fun v9 =>
some (v9, h8)) h8 fun v10 h11 =>
optS (pickV v2 v10 (.bool false)) fun v12 =>
ifS v12 (
bindS (ih 32 [a0, (.int .i64 (.ofNat 40))] h11) fun v13 h14 =>
some (.tuple [], h14)) (
bindS (ih 68 [a0, a2] h11) fun v15 h16 =>
bindS (ih 250 [a0, a2] h16) fun v17 h18 =>
bindS (bldSl h18 [(0, v17)] 3 1 1 (.int .i64 (.ofNat 0))) fun v19 h20 =>
nilS a1 fun v21 =>
addrS 4 v21 fun v22 =>
storeC v22 v19 h20 fun h23 =>
bindS (ih 254 [a0, v17] h23) fun v24 h25 =>
intS .eql v24 (.int .u8 (.ofNat 29)) fun v26 =>
guardS v26 false (some (v24, h25)) h25 fun v27 h28 =>
guardS v26 false (intS .eql v27 (.int .u8 (.ofNat 30)) fun v29 =>
some (v29, h28)) h28 fun v30 h31 =>
optS (pickV v26 (.bool true) v30) fun v32 =>
ifS v32 (
nilS a1 fun v33 =>
addrS 0 v33 fun v34 =>
storeC v34 (.int .u8 (.ofNat 4)) h31 fun h35 =>
some (.tuple [], h35)) (
nilS a1 fun v36 =>
addrS 0 v36 fun v37 =>
storeC v37 (.int .u8 (.ofNat 3)) h31 fun h38 =>
ih 173 [a0, a1, a2, v24] h38))
noncomputable def G216 : Sh := fun ih vs h => consE (fun a0 => consE (fun a1 => consE (fun a2 => nilE (B216 ih a0 a1 a2 h)))) vs
noncomputable def B173 (ih : Nat → List V → Hp → VH) (a0 a1 a2 a7 : V) (h : Hp) : VH :=
intS .neq a7 (.int .u8 (.ofNat 27)) fun v39 =>
guardS v39 true (some (a7, h)) h fun v40 h41 =>
guardS v39 true (intS .neq v40 (.int .u8 (.ofNat 28)) fun v42 =>
some (v42, h41)) h41 fun v43 h44 =>
optS (pickV v39 v43 (.bool false)) fun v45 =>
ifS v45 (
bindS (ih 32 [a0, (.int .i64 (.ofNat 40))] h44) fun v46 h47 =>
ih 175 [a0, a1, a2] h47) (
ih 175 [a0, a1, a2] h44)
noncomputable def G173 : Sh := fun ih vs h => consE (fun a0 => consE (fun a1 => consE (fun a2 => consE (fun a7 => nilE (B173 ih a0 a1 a2 a7 h))))) vs
noncomputable def B175 (ih : Nat → List V → Hp → VH) (a0 a1 a2 : V) (h : Hp) : VH :=
bindS (ih 72 [a0, (.str (us [44]))] h) fun v48 h49 =>
notS v48 fun v50 =>
ifS v50 (
nilS a1 fun v51 =>
addrS 4 v51 fun v52 =>
load1 v52 h49 fun v53 =>
lenSl v53 fun v54 =>
nilS a1 fun v55 =>
addrS 1 v55 fun v56 =>
storeC v56 v54 h49 fun h57 =>
bindS (ih 144 [a0, (.str (us [61]))] h57) fun v58 h59 =>
nilS a1 fun v60 =>
addrS 4 v60 fun v61 =>
load1 v61 h59 fun v62 =>
bindS (ih 150 [a0, a2] ⟨h59.t, h59.n, h59.n⟩) fun v63 h64 =>
cD ((pureB h59 h64 || sameA h59 h64 v61 (vcells v62).length) && true) (
wroteS h59.low h64 fun h65 =>
bindS (appS 3 8 1 v62 v63 ⟨h65.t, h65.n, h65.n⟩) fun v66 h67 =>
wroteS h65.low h67 fun h68 =>
nilS a1 fun v69 =>
addrS 4 v69 fun v70 =>
storeC v70 v66 h68 fun h71 =>
some (.tuple [], h71)) none) (
bindS (ih 74 [a0] h49) fun v72 h73 =>
bindS (ih 68 [a0, a2] h73) fun v74 h75 =>
bindS (ih 30 [a0, (.int .u8 (.ofNat 1))] h75) fun v76 h77 =>
notS v76 fun v78 =>
guardS v78 true (some (a0, h77)) h77 fun v79 h80 =>
guardS v78 true (bindS (ih 72 [v79, (.str (us [40]))] h80) fun v81 h82 =>
some (v81, h82)) h80 fun v83 h84 =>
guardS v78 true (notS v83 fun v85 =>
some (v85, h84)) h84 fun v86 h87 =>
optS (pickV v78 v86 (.bool false)) fun v88 =>
ifS v88 (
bindS (ih 32 [a0, (.int .i64 (.ofNat 40))] h87) fun v89 h90 =>
ih 177 [a0, a1, a2] h90) (
ih 177 [a0, a1, a2] h87))
noncomputable def G175 : Sh := fun ih vs h => consE (fun a0 => consE (fun a1 => consE (fun a2 => nilE (B175 ih a0 a1 a2 h)))) vs
noncomputable def B177 (ih : Nat → List V → Hp → VH) (a0 a1 a2 : V) (h : Hp) : VH :=
nilS a1 fun v91 =>
addrS 4 v91 fun v92 =>
load1 v92 h fun v93 =>
lenSl v93 fun v94 =>
bindS (ih 210 [a0, v94] h) fun v95 h96 =>
bindS (ih 250 [a0, a2] h96) fun v97 h98 =>
nilS a1 fun v99 =>
addrS 4 v99 fun v100 =>
load1 v100 h98 fun v101 =>
bindS (bldSl h98 [(0, v97)] 3 1 1 (.int .i64 (.ofNat 0))) fun v102 h103 =>
bindS (appS 3 8 1 v101 v102 h103) fun v104 h105 =>
nilS a1 fun v106 =>
addrS 4 v106 fun v107 =>
storeC v107 v104 h105 fun h108 =>
bindS (ih 254 [a0, v97] h108) fun v109 h110 =>
ih 173 [a0, a1, a2, v109] h110
noncomputable def G177 : Sh := fun ih vs h => consE (fun a0 => consE (fun a1 => consE (fun a2 => nilE (B177 ih a0 a1 a2 h)))) vs
noncomputable def B214 (ih : Nat → List V → Hp → VH) (a0 a1 a2 : V) (h : Hp) : VH :=
bindS (ih 72 [a0, (.str (us [102, 117, 110, 99, 116, 105, 111, 110]))] h) fun v0 h1 =>
ifS v0 (
bindS (ih 66 [a0] h1) fun v2 h3 =>
bindS (ih 68 [a0, a2] h3) fun v4 h5 =>
bindS (ih 74 [a0] h5) fun v6 h7 =>
nilS a1 fun v8 =>
addrS 0 v8 fun v9 =>
storeC v9 (.int .u8 (.ofNat 11)) h7 fun h10 =>
bindS (ih 206 [a0] h10) fun v11 h12 =>
bindS (bldSl h12 [(0, v11)] 9 1 1 (.str (us []))) fun v13 h14 =>
nilS a1 fun v15 =>
addrS 3 v15 fun v16 =>
storeC v16 v13 h14 fun h17 =>
bindS (ih 248 [a0, a2, v2, .nilSlice] h17) fun v18 h19 =>
bindS (bldSl h19 [(0, v18)] 3 1 1 (.int .i64 (.ofNat 0))) fun v20 h21 =>
nilS a1 fun v22 =>
addrS 4 v22 fun v23 =>
storeC v23 v20 h21 fun h24 =>
some (.tuple [], h24)) (
nilS a1 fun v25 =>
addrS 0 v25 fun v26 =>
storeC v26 (.int .u8 (.ofNat 2)) h1 fun h27 =>
bindS (ih 206 [a0] h27) fun v28 h29 =>
bindS (bldSl h29 [(0, v28)] 9 1 1 (.str (us []))) fun v30 h31 =>
bindS (ih 208 [a0, v30] h31) fun v32 h33 =>
nilS a1 fun v34 =>
addrS 3 v34 fun v35 =>
storeC v35 v32 h33 fun h36 =>
bindS (ih 72 [a0, (.str (us [61]))] h36) fun v37 h38 =>
ifS v37 (
bindS (ih 74 [a0] h38) fun v39 h40 =>
bindS (ih 150 [a0, a2] h40) fun v41 h42 =>
nilS a1 fun v43 =>
addrS 4 v43 fun v44 =>
storeC v44 v41 h42 fun h45 =>
some (.tuple [], h45)) (
some (.tuple [], h38)))
noncomputable def G214 : Sh := fun ih vs h => consE (fun a0 => consE (fun a1 => consE (fun a2 => nilE (B214 ih a0 a1 a2 h)))) vs
noncomputable def B212 (ih : Nat → List V → Hp → VH) (a0 a1 a2 : V) (h : Hp) : VH :=
bindS (ih 66 [a0] h) fun v0 h1 =>
bindS (ih 206 [a0] h1) fun v2 h3 =>
bindS (bldStruct h3 [(0, (.int .u8 (.ofNat 27))), (2, v2), (5, v0)] (.agg [(.int .u8 (.ofNat 0)), (.int .i64 (.ofNat 0)), (.str (us [])), .nilSlice, .nilSlice, (.int .i64 (.ofNat 0))]) (some [(0, 1), (1, 1), (2, 1), (3, 1), (4, 1), (5, 1)])) fun v4 h5 =>
bindS (ih 34 [a0, v4] h5) fun v6 h7 =>
ih 181 [a0, a1, a2, v0, v6, .nilSlice] h7
noncomputable def G212 : Sh := fun ih vs h => consE (fun a0 => consE (fun a1 => consE (fun a2 => nilE (B212 ih a0 a1 a2 h)))) vs
noncomputable def B179 (ih : Nat → List V → Hp → VH) (a0 a1 a2 a7 a8 : V) (h : Hp) : VH :=
nilS a1 fun v8 =>
addrS 0 v8 fun v9 =>
storeC v9 (.int .u8 (.ofNat 3)) h fun h10 =>
nilS a1 fun v11 =>
addrS 1 v11 fun v12 =>
storeC v12 (.int .i64 (.ofNat 1)) h10 fun h13 =>
nilS a1 fun v14 =>
addrS 5 v14 fun v15 =>
load1 v15 h13 fun v16 =>
bindS (ih 248 [a0, a2, v16, a8] h13) fun v17 h18 =>
bindS (bldSl h18 [(0, a7), (1, v17)] 3 2 1 (.int .i64 (.ofNat 0))) fun v19 h20 =>
nilS a1 fun v21 =>
addrS 4 v21 fun v22 =>
storeC v22 v19 h20 fun h23 =>
some (.tuple [], h23)
noncomputable def G179 : Sh := fun ih vs h => consE (fun a0 => consE (fun a1 => consE (fun a2 => consE (fun a7 => consE (fun a8 => nilE (B179 ih a0 a1 a2 a7 a8 h)))))) vs
noncomputable def B181 (ih : Nat → List V → Hp → VH) (a0 a1 a2 a6 a7 a8 : V) (h : Hp) : VH :=
bindS (ih 72 [a0, (.str (us [46]))] h) fun v24 h25 =>
guardS v24 false (some (a0, h25)) h25 fun v26 h27 =>
guardS v24 false (bindS (ih 72 [v26, (.str (us [58]))] h27) fun v28 h29 =>
some (v28, h29)) h27 fun v30 h31 =>
optS (pickV v24 (.bool true) v30) fun v32 =>
ifS v32 (
bindS (ih 72 [a0, (.str (us [58]))] h31) fun v33 h34 =>
ifS v33 (
bindS (bldSl h34 [(0, (.str (us [115, 101, 108, 102])))] 9 1 1 (.str (us []))) fun v35 h36 =>
ih 183 [a0, a1, a2, a6, a7, v35] h36) (
ih 183 [a0, a1, a2, a6, a7, a8] h34)) (
ih 179 [a0, a1, a2, a7, a8] h31)
noncomputable def G181 : Sh := fun ih vs h => consE (fun a0 => consE (fun a1 => consE (fun a2 => consE (fun a6 => consE (fun a7 => consE (fun a8 => nilE (B181 ih a0 a1 a2 a6 a7 a8 h))))))) vs
noncomputable def B183 (ih : Nat → List V → Hp → VH) (a0 a1 a2 a6 a7 a8 : V) (h : Hp) : VH :=
bindS (ih 74 [a0] h) fun v37 h38 =>
intS .add a2 (.int .i64 (.ofNat 1)) fun v39 =>
bindS (ih 252 [a0, v39] h38) fun v40 h41 =>
bindS (bldSl h41 [(0, a7), (1, v40)] 3 2 1 (.int .i64 (.ofNat 0))) fun v42 h43 =>
bindS (bldStruct h43 [(0, (.int .u8 (.ofNat 28))), (4, v42), (5, a6)] (.agg [(.int .u8 (.ofNat 0)), (.int .i64 (.ofNat 0)), (.str (us [])), .nilSlice, .nilSlice, (.int .i64 (.ofNat 0))]) (some [(0, 1), (1, 1), (2, 1), (3, 1), (4, 1), (5, 1)])) fun v44 h45 =>
bindS (ih 34 [a0, v44] h45) fun v46 h47 =>
lenSl a8 fun v48 =>
intS .gtr v48 (.int .i64 (.ofNat 0)) fun v49 =>
ifS v49 (
ih 179 [a0, a1, a2, v46, a8] h47) (
ih 181 [a0, a1, a2, a6, v46, a8] h47)
noncomputable def G183 : Sh := fun ih vs h => consE (fun a0 => consE (fun a1 => consE (fun a2 => consE (fun a6 => consE (fun a7 => consE (fun a8 => nilE (B183 ih a0 a1 a2 a6 a7 a8 h))))))) vs
noncomputable def B206 (ih : Nat → List V → Hp → VH) (a0 : V) (h : Hp) : VH :=
bindS (ih 30 [a0, (.int .u8 (.ofNat 1))] h) fun v0 h1 =>
notS v0 fun v2 =>
ifS v2 (
bindS (ih 32 [a0, (.int .i64 (.ofNat 40))] h1) fun v3 h4 =>
some ((.str (us [])), h4)) (
nilS a0 fun v5 =>
addrS 0 v5 fun v6 =>
load1 v6 h1 fun v7 =>
idxS 4 v7 (.int .i64 (.ofNat 0)) fun v8 =>
addrS 1 v8 fun v9 =>
load1 v9 h1 fun v10 =>
lenStr v10 fun v11 =>
intS .gtr v11 (.int .i64 (.ofNat 60)) fun v12 =>
ifS v12 (
bindS (ih 32 [a0, (.int .i64 (.ofNat 3))] h1) fun v13 h14 =>
ih 185 [a0] h14) (
ih 185 [a0] h1))
noncomputable def G206 : Sh := fun ih vs h => consE (fun a0 => nilE (B206 ih a0 h)) vs
noncomputable def B185 (ih : Nat → List V → Hp → VH) (a0 : V) (h : Hp) : VH :=
bindS (ih 74 [a0] h) fun v15 h16 =>
fld1 1 v15 fun v17 =>
some (v17, h16)
noncomputable def G185 : Sh := fun ih vs h => consE (fun a0 => nilE (B185 ih a0 h)) vs
noncomputable def B210 (ih : Nat → List V → Hp → VH) (a0 a1 : V) (h : Hp) : VH :=
intS .geq a1 (.int .i64 (.ofNat 200)) fun v0 =>
ifS v0 (
bindS (ih 32 [a0, (.int .i64 (.ofNat 3))] h) fun v1 h2 =>
some (.tuple [], h2)) (
some (.tuple [], h))
noncomputable def G210 : Sh := fun ih vs h => consE (fun a0 => consE (fun a1 => nilE (B210 ih a0 a1 h))) vs
noncomputable def B200 (ih : Nat → List V → Hp → VH) (a0 a1 : V) (h : Hp) : VH :=
bindS (ih 68 [a0, a1] h) fun v0 h1 =>
bindS (ih 30 [a0, (.int .u8 (.ofNat 1))] h1) fun v2 h3 =>
notS v2 fun v4 =>
guardS v4 true (some (a0, h3)) h3 fun v5 h6 =>
guardS v4 true (bindS (ih 30 [v5, (.int .u8 (.ofNat 4))] h6) fun v7 h8 =>
some (v7, h8)) h6 fun v9 h10 =>
guardS v4 true (notS v9 fun v11 =>
some (v11, h10)) h10 fun v12 h13 =>
optS (pickV v4 v12 (.bool false)) fun v14 =>
guardS v14 true (some (a0, h13)) h13 fun v15 h16 =>
guardS v14 true (bindS (ih 30 [v15, (.int .u8 (.ofNat 5))] h16) fun v17 h18 =>
some (v17, h18)) h16 fun v19 h20 =>
guardS v14 true (notS v19 fun v21 =>
some (v21, h20)) h20 fun v22 h23 =>
optS (pickV v14 v22 (.bool false)) fun v24 =>
guardS v24 true (some (a0, h23)) h23 fun v25 h26 =>
guardS v24 true (bindS (bldSl h26 [(0, (.str (us [110, 105, 108]))), (1, (.str (us [116, 114, 117, 101]))), (2, (.str (us [102, 97, 108, 115, 101]))), (3, (.str (us [102, 117, 110, 99, 116, 105, 111, 110]))), (4, (.str (us [110, 111, 116]))), (5, (.str (us [46, 46, 46]))), (6, (.str (us [123]))), (7, (.str (us [40]))), (8, (.str (us [45]))), (9, (.str (us [35]))), (10, (.str (us [126])))] 9 11 1 (.str (us []))) fun v27 h28 =>
some (v27, h28)) h26 fun v29 h30 =>
guardS v24 true (bindS (ih 140 [v25, v29] h30) fun v31 h32 =>
some (v31, h32)) h30 fun v33 h34 =>
guardS v24 true (notS v33 fun v35 =>
some (v35, h34)) h34 fun v36 h37 =>
optS (pickV v24 v36 (.bool false)) fun v38 =>
ifS v38 (
bindS (ih 32 [a0, (.int .i64 (.ofNat 40))] h37) fun v39 h40 =>
some (.tuple [], h40)) (
some (.tuple [], h37))
noncomputable def G200 : Sh := fun ih vs h => consE (fun a0 => consE (fun a1 => nilE (B200 ih a0 a1 h))) vs
noncomputable def B208 (ih : Nat → List V → Hp → VH) (a0 a1 : V) (h : Hp) : VH :=
ih 187 [a0, a1] h
noncomputable def G208 : Sh := fun ih vs h => consE (fun a0 => consE (fun a1 => nilE (B208 ih a0 a1 h))) vs
noncomputable def B187 (ih : Nat → List V → Hp → VH) (a0 a1 : V) (h : Hp) : VH :=
bindS (ih 72 [a0, (.str (us [44]))] h) fun v0 h1 =>
ifS v0 (
bindS (ih 74 [a0] h1) fun v2 h3 =>
bindS (ih 30 [a0, (.int .u8 (.ofNat 1))] h3) fun v4 h5 =>
notS v4 fun v6 =>
ifS v6 (
bindS (ih 32 [a0, (.int .i64 (.ofNat 40))] h5) fun v7 h8 =>
ih 189 [a0, a1] h8) (
ih 189 [a0, a1] h5)) (
some (a1, h1))
noncomputable def G187 : Sh := fun ih vs h => consE (fun a0 => consE (fun a1 => nilE (B187 ih a0 a1 h))) vs
noncomputable def B189 (ih : Nat → List V → Hp → VH) (a0 a1 : V) (h : Hp) : VH :=
lenSl a1 fun v9 =>
bindS (ih 210 [a0, v9] h) fun v10 h11 =>
bindS (ih 206 [a0] h11) fun v12 h13 =>
bindS (bldSl h13 [(0, v12)] 9 1 1 (.str (us []))) fun v14 h15 =>
bindS (appS 9 16 1 a1 v14 h15) fun v16 h17 =>
ih 187 [a0, v16] h17
noncomputable def G189 : Sh := fun ih vs h => consE (fun a0 => consE (fun a1 => nilE (B189 ih a0 a1 h))) vs
noncomputable def B204 (ih : Nat → List V → Hp → VH) (a0 : V) (h : Hp) : VH :=
bindS (bldSl h [(0, (.str (us [43]))), (1, (.str (us [45]))), (2, (.str (us [42]))), (3, (.str (us [47, 47]))), (4, (.str (us [37]))), (5, (.str (us [38]))), (6, (.str (us [124]))), (7, (.str (us [126]))), (8, (.str (us [60, 60]))), (9, (.str (us [62, 62]))), (10, (.str (us [46, 46]))), (11, (.str (us [61, 61]))), (12, (.str (us [126, 61]))), (13, (.str (us [60]))), (14, (.str (us [60, 61]))), (15, (.str (us [62]))), (16, (.str (us [62, 61])))] 9 17 1 (.str (us []))) fun v0 h1 =>
bindS (bldSl h1 [(0, (.int .i64 (.ofNat 9))), (1, (.int .i64 (.ofNat 9))), (2, (.int .i64 (.ofNat 10))), (3, (.int .i64 (.ofNat 10))), (4, (.int .i64 (.ofNat 10))), (5, (.int .i64 (.ofNat 6))), (6, (.int .i64 (.ofNat 4))), (7, (.int .i64 (.ofNat 5))), (8, (.int .i64 (.ofNat 7))), (9, (.int .i64 (.ofNat 7))), (10, (.int .i64 (.ofNat 8))), (11, (.int .i64 (.ofNat 3))), (12, (.int .i64 (.ofNat 3))), (13, (.int .i64 (.ofNat 3))), (14, (.int .i64 (.ofNat 3))), (15, (.int .i64 (.ofNat 3))), (16, (.int .i64 (.ofNat 3)))] 3 17 1 (.int .i64 (.ofNat 0))) fun v2 h3 =>
ih 191 [a0, v0, v2, (.int .i64 (.ofNat 0))] h3
noncomputable def G204 : Sh := fun ih vs h => consE (fun a0 => nilE (B204 ih a0 h)) vs
noncomputable def B191 (ih : Nat → List V → Hp → VH) (a0 a5 a6 a7 : V) (h : Hp) : VH :=
lenSl a5 fun v4 =>
intS .lss a7 v4 fun v5 =>
ifS v5 (
idxS 1 a5 a7 fun v6 =>
load1 v6 h fun v7 =>
bindS (ih 72 [a0, v7] h) fun v8 h9 =>
ifS v8 (
intS .add a7 (.int .i64 (.ofNat 1)) fun v10 =>
idxS 1 a6 a7 fun v11 =>
load1 v11 h9 fun v12 =>
some (.tuple [(.int .u8 (.ofNat 31)), v10, v12], h9)) (
intS .add a7 (.int .i64 (.ofNat 1)) fun v13 =>
ih 191 [a0, a5, a6, v13] h9)) (
bindS (ih 72 [a0, (.str (us [97, 110, 100]))] h) fun v14 h15 =>
ifS v14 (
some (.tuple [(.int .u8 (.ofNat 32)), (.int .i64 (.ofNat 0)), (.int .i64 (.ofNat 2))], h15)) (
bindS (ih 72 [a0, (.str (us [111, 114]))] h15) fun v16 h17 =>
ifS v16 (
some (.tuple [(.int .u8 (.ofNat 33)), (.int .i64 (.ofNat 0)), (.int .i64 (.ofNat 1))], h17)) (
some (.tuple [(.int .u8 (.ofNat 0)), (.int .i64 (.ofNat 0)), (.int .i64 (.ofNat 0))], h17))))
noncomputable def G191 : Sh := fun ih vs h => consE (fun a0 => consE (fun a5 => consE (fun a6 => consE (fun a7 => nilE (B191 ih a0 a5 a6 a7 h))))) vs
noncomputable def B202 (ih : Nat → List V → Hp → VH) (a0 a1 : V) (h : Hp) : VH :=
nilS a0 fun v0 =>
addrS 0 v0 fun v1 =>
load1 v1 h fun v2 =>
idxS 4 v2 (.int .i64 (.ofNat 0)) fun v3 =>
loadN 4 v3 h fun v4 =>
newS 81 [(.int .u8 (.ofNat 0)), (.str (us [])), (.int .i64 (.ofNat 0)), (.int .i64 (.ofNat 0))] h fun v5 h6 =>
storeN 4 v5 v4 h6 fun h7 =>
bindS (bldSl h7 [(0, (.str (us [110, 105, 108]))), (1, (.str (us [116, 114, 117, 101]))), (2, (.str (us [102, 97, 108, 115, 101]))), (3, (.str (us [46, 46, 46])))] 9 4 1 (.str (us []))) fun v8 h9 =>
bindS (bldSl h9 [(0, (.int .u8 (.ofNat 20))), (1, (.int .u8 (.ofNat 21))), (2, (.int .u8 (.ofNat 22))), (3, (.int .u8 (.ofNat 25)))] 40 4 1 (.int .u8 (.ofNat 0))) fun v10 h11 =>
ih 193 [a0, a1, v5, v8, v10, (.int .i64 (.ofNat 0))] h11
noncomputable def G202 : Sh := fun ih vs h => consE (fun a0 => consE (fun a1 => nilE (B202 ih a0 a1 h))) vs
noncomputable def B193 (ih : Nat → List V → Hp → VH) (a0 a1 a5 a6 a7 a8 : V) (h : Hp) : VH :=
lenSl a6 fun v12 =>
intS .lss a8 v12 fun v13 =>
ifS v13 (
idxS 1 a6 a8 fun v14 =>
load1 v14 h fun v15 =>
bindS (ih 72 [a0, v15] h) fun v16 h17 =>
ifS v16 (
bindS (ih 74 [a0] h17) fun v18 h19 =>
idxS 1 a7 a8 fun v20 =>
load1 v20 h19 fun v21 =>
addrS 3 a5 fun v22 =>
load1 v22 h19 fun v23 =>
bindS (bldStruct h19 [(0, v21), (5, v23)] (.agg [(.int .u8 (.ofNat 0)), (.int .i64 (.ofNat 0)), (.str (us [])), .nilSlice, .nilSlice, (.int .i64 (.ofNat 0))]) (some [(0, 1), (1, 1), (2, 1), (3, 1), (4, 1), (5, 1)])) fun v24 h25 =>
bindS (ih 34 [a0, v24] h19) fun v26 h27 =>
some (v26, h27)) (
intS .add a8 (.int .i64 (.ofNat 1)) fun v28 =>
ih 193 [a0, a1, a5, a6, a7, v28] h17)) (
bindS (ih 30 [a0, (.int .u8 (.ofNat 4))] h) fun v29 h30 =>
ifS v29 (
bindS (ih 74 [a0] h30) fun v31 h32 =>
addrS 2 a5 fun v33 =>
load1 v33 h32 fun v34 =>
addrS 3 a5 fun v35 =>
load1 v35 h32 fun v36 =>
bindS (bldStruct h32 [(0, (.int .u8 (.ofNat 23))), (1, v34), (5, v36)] (.agg [(.int .u8 (.ofNat 0)), (.int .i64 (.ofNat 0)), (.str (us [])), .nilSlice, .nilSlice, (.int .i64 (.ofNat 0))]) (some [(0, 1), (1, 1), (2, 1), (3, 1), (4, 1), (5, 1)])) fun v37 h38 =>
bindS (ih 34 [a0, v37] h38) fun v39 h40 =>
some (v39, h40)) (
bindS (ih 30 [a0, (.int .u8 (.ofNat 5))] h30) fun v41 h42 =>
ifS v41 (
bindS (ih 74 [a0] h42) fun v43 h44 =>
addrS 1 a5 fun v45 =>
load1 v45 h44 fun v46 =>
addrS 3 a5 fun v47 =>
load1 v47 h44 fun v48 =>
bindS (bldStruct h44 [(0, (.int .u8 (.ofNat 24))), (2, v46), (5, v48)] (.agg [(.int .u8 (.ofNat 0)), (.int .i64 (.ofNat 0)), (.str (us [])), .nilSlice, .nilSlice, (.int .i64 (.ofNat 0))]) (some [(0, 1), (1, 1), (2, 1), (3, 1), (4, 1), (5, 1)])) fun v49 h50 =>
bindS (ih 34 [a0, v49] h50) fun v51 h52 =>
some (v51, h52)) (
bindS (ih 72 [a0, (.str (us [123]))] h42) fun v53 h54 =>
ifS v53 (
bindS (ih 246 [a0, a1] h54) fun v55 h56 =>
some (v55, h56)) (
bindS (ih 72 [a0, (.str (us [102, 117, 110, 99, 116, 105, 111, 110]))] h54) fun v57 h58 =>
ifS v57 (
bindS (ih 74 [a0] h58) fun v59 h60 =>
addrS 3 a5 fun v61 =>
load1 v61 h60 fun v62 =>
bindS (ih 248 [a0, a1, v62, .nilSlice] h60) fun v63 h64 =>
some (v63, h64)) (
bindS (ih 250 [a0, a1] h58) fun v65 h66 =>
some (v65, h66))))))
noncomputable def G193 : Sh := fun ih vs h => consE (fun a0 => consE (fun a1 => consE (fun a5 => consE (fun a6 => consE (fun a7 => consE (fun a8 => nilE (B193 ih a0 a1 a5 a6 a7 a8 h))))))) vs
noncomputable def B198 (ih : Nat → List V → Hp → VH) (h : Hp) : VH :=
bindS (bldSl h [(0, (.str (us [35]))), (1, (.str (us [37]))), (2, (.str (us [38]))), (3, (.str (us [40]))), (4, (.str (us [41]))), (5, (.str (us [42]))), (6, (.str (us [43]))), (7, (.str (us [44]))), (8, (.str (us [45]))), (9, (.str (us [46]))), (10, (.str (us [46, 46]))), (11, (.str (us [46, 46, 46]))), (12, (.str (us [47, 47]))), (13, (.str (us [58]))), (14, (.str (us [58, 58]))), (15, (.str (us [59]))), (16, (.str (us [60]))), (17, (.str (us [60, 60]))), (18, (.str (us [60, 61]))), (19, (.str (us [61]))), (20, (.str (us [61, 61]))), (21, (.str (us [62]))), (22, (.str (us [62, 61]))), (23, (.str (us [62, 62]))), (24, (.str (us [91]))), (25, (.str (us [93]))), (26, (.str (us [123]))), (27, (.str (us [124]))), (28, (.str (us [125]))), (29, (.str (us [126]))), (30, (.str (us [126, 61])))] 9 31 1 (.str (us []))) fun v0 h1 =>
some (v0, h1)
noncomputable def G198 : Sh := fun ih vs h => nilE (B198 ih  h) vs
noncomputable def B196 (ih : Nat → List V → Hp → VH) (a0 a1 a2 : V) (h : Hp) : VH :=
lenStr a0 fun v0 =>
intS .geq a1 v0 fun v1 =>
guardS v1 false (some (a0, h)) h fun v2 h3 =>
guardS v1 false (some (a1, h3)) h3 fun v4 h5 =>
guardS v1 false (idxStr v2 v4 fun v6 =>
some (v6, h5)) h5 fun v7 h8 =>
guardS v1 false (some (a2, h8)) h8 fun v9 h10 =>
guardS v1 false (intS .eql v7 v9 fun v11 =>
some (v11, h10)) h10 fun v12 h13 =>
optS (pickV v1 (.bool true) v12) fun v14 =>
guardS v14 false (some (a0, h13)) h13 fun v15 h16 =>
guardS v14 false (some (a1, h16)) h16 fun v17 h18 =>
guardS v14 false (idxStr v15 v17 fun v19 =>
some (v19, h18)) h18 fun v20 h21 =>
guardS v14 false (intS .eql v20 (.int .u8 (.ofNat 10)) fun v22 =>
some (v22, h21)) h21 fun v23 h24 =>
optS (pickV v14 (.bool true) v23) fun v25 =>
guardS v25 false (some (a0, h24)) h24 fun v26 h27 =>
guardS v25 false (some (a1, h27)) h27 fun v28 h29 =>
guardS v25 false (idxStr v26 v28 fun v30 =>
some (v30, h29)) h29 fun v31 h32 =>
guardS v25 false (intS .eql v31 (.int .u8 (.ofNat 13)) fun v33 =>
some (v33, h32)) h32 fun v34 h35 =>
optS (pickV v25 (.bool true) v34) fun v36 =>
ifS v36 (
some (.tuple [(.str (us [])), (.int .i64 (.ofNat 0))], h35)) (
idxStr a0 a1 fun v37 =>
intS .neq v37 (.int .u8 (.ofNat 92)) fun v38 =>
ifS v38 (
intS .add a1 (.int .i64 (.ofNat 1)) fun v39 =>
slStrK (some a1) (some v39) a0 fun v40 =>
some (.tuple [v40, (.int .i64 (.ofNat 1))], h35)) (
intS .add a1 (.int .i64 (.ofNat 1)) fun v41 =>
lenStr a0 fun v42 =>
intS .geq v41 v42 fun v43 =>
ifS v43 (
some (.tuple [(.str (us [])), (.int .i64 (.ofNat 0))], h35)) (
idxStr a0 v41 fun v44 =>
intS .eql v44 (.int .u8 (.ofNat 10)) fun v45 =>
guardS v45 false (some (v44, h35)) h35 fun v46 h47 =>
guardS v45 false (intS .eql v46 (.int .u8 (.ofNat 13)) fun v48 =>
some (v48, h47)) h47 fun v49 h50 =>
optS (pickV v45 (.bool true) v49) fun v51 =>
ifS v51 (
intS .add v41 (.int .i64 (.ofNat 1)) fun v52 =>
intS .sub (.int .u8 (.ofNat 23)) v44 fun v53 =>
bindS (ih 238 [a0, v52, v53] h50) fun v54 h55 =>
ifS v54 (
some (.tuple [(.str (us [10])), (.int .i64 (.ofNat 3))], h55)) (
some (.tuple [(.str (us [10])), (.int .i64 (.ofNat 2))], h55))) (
bindS (ih 240 [v44] h50) fun v56 h57 =>
intS .geq v56 (.int .i64 (.ofNat 0)) fun v58 =>
ifS v58 (
convI .u8 v56 fun v59 =>
bindS (bldSl h57 [(0, v59)] 5 1 1 (.int .u8 (.ofNat 0))) fun v60 h61 =>
bindS (vh h61 (b2s h61 v60)) fun v62 h63 =>
some (.tuple [v62, (.int .i64 (.ofNat 2))], h63)) (
intS .eql v44 (.int .u8 (.ofNat 120)) fun v64 =>
ifS v64 (
intS .add v41 (.int .i64 (.ofNat 1)) fun v65 =>
bindS (ih 242 [a0, v65, (.int .i64 (.ofNat 16)), (.int .i64 (.ofNat 2))] h57) fun v66 h67 =>
extS 0 v66 fun v68 =>
extS 1 v66 fun v69 =>
intS .eql v69 (.int .i64 (.ofNat 2)) fun v70 =>
ifS v70 (
convI .u8 v68 fun v71 =>
bindS (bldSl h67 [(0, v71)] 5 1 1 (.int .u8 (.ofNat 0))) fun v72 h73 =>
bindS (vh h73 (b2s h73 v72)) fun v74 h75 =>
some (.tuple [v74, (.int .i64 (.ofNat 4))], h75)) (
some (.tuple [(.str (us [])), (.int .i64 (.ofNat 0))], h67))) (
intS .eql v44 (.int .u8 (.ofNat 122)) fun v76 =>
ifS v76 (
ih 195 [a0, v41, (.int .i64 (.ofNat 1))] h57) (
intS .eql v44 (.int .u8 (.ofNat 117)) fun v77 =>
guardS v77 true (some (a0, h57)) h57 fun v78 h79 =>
guardS v77 true (some (v41, h79)) h79 fun v80 h81 =>
guardS v77 true (intS .add v80 (.int .i64 (.ofNat 1)) fun v82 =>
some (v82, h81)) h81 fun v83 h84 =>
guardS v77 true (bindS (ih 238 [v78, v83, (.int .u8 (.ofNat 123))] h84) fun v85 h86 =>
some (v85, h86)) h84 fun v87 h88 =>
optS (pickV v77 v87 (.bool false)) fun v89 =>
ifS v89 (
intS .add v41 (.int .i64 (.ofNat 2)) fun v90 =>
lenStr a0 fun v91 =>
bindS (ih 242 [a0, v90, (.int .i64 (.ofNat 16)), v91] h88) fun v92 h93 =>
extS 0 v92 fun v94 =>
extS 1 v92 fun v95 =>
bindS (ih 244 [v94] h93) fun v96 h97 =>
extS 0 v96 fun v98 =>
extS 1 v96 fun v99 =>
intS .gtr v95 (.int .i64 (.ofNat 0)) fun v100 =>
guardS v100 true (some (v99, h97)) h97 fun v101 h102 =>
guardS v100 true (intS .eql v101 (.int .i64 (.ofNat 0)) fun v103 =>
some (v103, h102)) h102 fun v104 h105 =>
optS (pickV v100 v104 (.bool false)) fun v106 =>
guardS v106 true (some (a0, h105)) h105 fun v107 h108 =>
guardS v106 true (some (v41, h108)) h108 fun v109 h110 =>
guardS v106 true (intS .add v109 (.int .i64 (.ofNat 2)) fun v111 =>
some (v111, h110)) h110 fun v112 h113 =>
guardS v106 true (some (v95, h113)) h113 fun v114 h115 =>
guardS v106 true (intS .add v112 v114 fun v116 =>
some (v116, h115)) h115 fun v117 h118 =>
guardS v106 true (bindS (ih 238 [v107, v117, (.int .u8 (.ofNat 125))] h118) fun v119 h120 =>
some (v119, h120)) h118 fun v121 h122 =>
optS (pickV v106 v121 (.bool false)) fun v123 =>
ifS v123 (
intS .add v95 (.int .i64 (.ofNat 4)) fun v124 =>
some (.tuple [v98, v124], h122)) (
some (.tuple [(.str (us [])), (.int .i64 (.ofNat 0))], h122))) (
bindS (ih 242 [a0, v41, (.int .i64 (.ofNat 10)), (.int .i64 (.ofNat 3))] h88) fun v125 h126 =>
extS 0 v125 fun v127 =>
extS 1 v125 fun v128 =>
intS .gtr v128 (.int .i64 (.ofNat 0)) fun v129 =>
guardS v129 true (some (v127, h126)) h126 fun v130 h131 =>
guardS v129 true (intS .leq v130 (.int .i64 (.ofNat 255)) fun v132 =>
some (v132, h131)) h131 fun v133 h134 =>
optS (pickV v129 v133 (.bool false)) fun v135 =>
ifS v135 (
convI .u8 v127 fun v136 =>
bindS (bldSl h134 [(0, v136)] 5 1 1 (.int .u8 (.ofNat 0))) fun v137 h138 =>
bindS (vh h138 (b2s h138 v137)) fun v139 h140 =>
intS .add v128 (.int .i64 (.ofNat 1)) fun v141 =>
some (.tuple [v139, v141], h140)) (
some (.tuple [(.str (us [])), (.int .i64 (.ofNat 0))], h134))))))))))
noncomputable def G196 : Sh := fun ih vs h => consE (fun a0 => consE (fun a1 => consE (fun a2 => nilE (B196 ih a0 a1 a2 h)))) vs
noncomputable def B195 (ih : Nat → List V → Hp → VH) (a0 a1 a12 : V) (h : Hp) : VH :=
intS .add a1 a12 fun v142 =>
lenStr a0 fun v143 =>
intS .lss v142 v143 fun v144 =>
guardS v144 true (some (a0, h)) h fun v145 h146 =>
guardS v144 true (some (a1, h146)) h146 fun v147 h148 =>
guardS v144 true (some (a12, h148)) h148 fun v149 h150 =>
guardS v144 true (intS .add v147 v149 fun v151 =>
some (v151, h150)) h150 fun v152 h153 =>
guardS v144 true (idxStr v145 v152 fun v154 =>
some (v154, h153)) h153 fun v155 h156 =>
guardS v144 true (bindS (ih 58 [v155] h156) fun v157 h158 =>
some (v157, h158)) h156 fun v159 h160 =>
optS (pickV v144 v159 (.bool false)) fun v161 =>
ifS v161 (
intS .add a12 (.int .i64 (.ofNat 1)) fun v162 =>
ih 195 [a0, a1, v162] h160) (
intS .add a12 (.int .i64 (.ofNat 1)) fun v163 =>
some (.tuple [(.str (us [])), v163], h160))
noncomputable def G195 : Sh := fun ih vs h => consE (fun a0 => consE (fun a1 => consE (fun a12 => nilE (B195 ih a0 a1 a12 h)))) vs
noncomputable def B194 (ih : Nat → List V → Hp → VH) (a0 : V) (h : Hp) : VH :=
ih 197 [a0] h
noncomputable def G194 : Sh := fun ih vs h => consE (fun a0 => nilE (B194 ih a0 h)) vs
noncomputable def B197 (ih : Nat → List V → Hp → VH) (a0 : V) (h : Hp) : VH :=
lenStr a0 fun v0 =>
intS .gtr v0 (.int .i64 (.ofNat 0)) fun v1 =>
guardS v1 true (some (a0, h)) h fun v2 h3 =>
guardS v1 true (idxStr v2 (.int .i64 (.ofNat 0)) fun v4 =>
some (v4, h3)) h3 fun v5 h6 =>
guardS v1 true (bindS (ih 58 [v5] h6) fun v7 h8 =>
some (v7, h8)) h6 fun v9 h10 =>
optS (pickV v1 v9 (.bool false)) fun v11 =>
ifS v11 (
slStrK (some (.int .i64 (.ofNat 1))) none a0 fun v12 =>
ih 197 [v12] h10) (
ih 199 [a0] h10)
noncomputable def G197 : Sh := fun ih vs h => consE (fun a0 => nilE (B197 ih a0 h)) vs
noncomputable def B199 (ih : Nat → List V → Hp → VH) (a0 : V) (h : Hp) : VH :=
lenStr a0 fun v13 =>
intS .gtr v13 (.int .i64 (.ofNat 0)) fun v14 =>
guardS v14 true (some (a0, h)) h fun v15 h16 =>
guardS v14 true (some (a0, h16)) h16 fun v17 h18 =>
guardS v14 true (lenStr v17 fun v19 =>
some (v19, h18)) h18 fun v20 h21 =>
guardS v14 true (intS .sub v20 (.int .i64 (.ofNat 1)) fun v22 =>
some (v22, h21)) h21 fun v23 h24 =>
guardS v14 true (idxStr v15 v23 fun v25 =>
some (v25, h24)) h24 fun v26 h27 =>
guardS v14 true (bindS (ih 58 [v26] h27) fun v28 h29 =>
some (v28, h29)) h27 fun v30 h31 =>
optS (pickV v14 v30 (.bool false)) fun v32 =>
ifS v32 (
lenStr a0 fun v33 =>
intS .sub v33 (.int .i64 (.ofNat 1)) fun v34 =>
slStrK none (some v34) a0 fun v35 =>
ih 199 [v35] h31) (
lenStr a0 fun v36 =>
intS .gtr v36 (.int .i64 (.ofNat 0)) fun v37 =>
guardS v37 true (some (a0, h31)) h31 fun v38 h39 =>
guardS v37 true (idxStr v38 (.int .i64 (.ofNat 0)) fun v40 =>
some (v40, h39)) h39 fun v41 h42 =>
guardS v37 true (intS .eql v41 (.int .u8 (.ofNat 45)) fun v43 =>
some (v43, h42)) h42 fun v44 h45 =>
optS (pickV v37 v44 (.bool false)) fun v46 =>
guardS v46 false (some (a0, h45)) h45 fun v47 h48 =>
guardS v46 false (lenStr v47 fun v49 =>
some (v49, h48)) h48 fun v50 h51 =>
guardS v46 false (intS .gtr v50 (.int .i64 (.ofNat 0)) fun v52 =>
some (v52, h51)) h51 fun v53 h54 =>
guardS v46 false (some (v53, h54)) h54 fun v55 h56 =>
guardS v55 true (some (a0, h56)) h56 fun v57 h58 =>
guardS v55 true (idxStr v57 (.int .i64 (.ofNat 0)) fun v59 =>
some (v59, h58)) h58 fun v60 h61 =>
guardS v55 true (intS .eql v60 (.int .u8 (.ofNat 43)) fun v62 =>
some (v62, h61)) h61 fun v63 h64 =>
guardS v46 false (optS (pickV v55 v63 (.bool false)) fun v65 =>
some (v65, h64)) h64 fun v66 h67 =>
optS (pickV v46 (.bool true) v66) fun v68 =>
ifS v68 (
slStrK (some (.int .i64 (.ofNat 1))) none a0 fun v69 =>
ih 201 [v69, v46] h67) (
ih 201 [a0, v46] h67))
noncomputable def G199 : Sh := fun ih vs h => consE (fun a0 => nilE (B199 ih a0 h)) vs
noncomputable def B201 (ih : Nat → List V → Hp → VH) (a0 a4 : V) (h : Hp) : VH :=
lenStr a0 fun v70 =>
intS .gtr v70 (.int .i64 (.ofNat 1)) fun v71 =>
guardS v71 true (some (a0, h)) h fun v72 h73 =>
guardS v71 true (idxStr v72 (.int .i64 (.ofNat 0)) fun v74 =>
some (v74, h73)) h73 fun v75 h76 =>
guardS v71 true (intS .eql v75 (.int .u8 (.ofNat 48)) fun v77 =>
some (v77, h76)) h76 fun v78 h79 =>
optS (pickV v71 v78 (.bool false)) fun v80 =>
guardS v80 true (some (a0, h79)) h79 fun v81 h82 =>
guardS v80 true (idxStr v81 (.int .i64 (.ofNat 1)) fun v83 =>
some (v83, h82)) h82 fun v84 h85 =>
guardS v80 true (intS .eql v84 (.int .u8 (.ofNat 120)) fun v86 =>
some (v86, h85)) h85 fun v87 h88 =>
guardS v80 true (some (v87, h88)) h88 fun v89 h90 =>
guardS v89 false (some (a0, h90)) h90 fun v91 h92 =>
guardS v89 false (idxStr v91 (.int .i64 (.ofNat 1)) fun v93 =>
some (v93, h92)) h92 fun v94 h95 =>
guardS v89 false (intS .eql v94 (.int .u8 (.ofNat 88)) fun v96 =>
some (v96, h95)) h95 fun v97 h98 =>
guardS v80 true (optS (pickV v89 (.bool true) v97) fun v99 =>
some (v99, h98)) h98 fun v100 h101 =>
optS (pickV v80 v100 (.bool false)) fun v102 =>
ifS v102 (
slStrK (some (.int .i64 (.ofNat 2))) none a0 fun v103 =>
bindS (ih 234 [v103, a4] h101) fun v104 h105 =>
extS 0 v104 fun v106 =>
extS 1 v104 fun v107 =>
some (.tuple [v106, v107], h105)) (
ih 203 [a0, a4, (.int .i64 (.ofNat 0)), (.int .i64 (.ofNat 0))] h101)
noncomputable def G201 : Sh := fun ih vs h => consE (fun a0 => consE (fun a4 => nilE (B201 ih a0 a4 h))) vs
noncomputable def B203 (ih : Nat → List V → Hp → VH) (a0 a4 a5 a6 : V) (h : Hp) : VH :=
lenStr a0 fun v108 =>
intS .lss a6 v108 fun v109 =>
ifS v109 (
idxStr a0 a6 fun v110 =>
bindS (ih 236 [v110] h) fun v111 h112 =>
extS 0 v111 fun v113 =>
extS 1 v111 fun v114 =>
notS v114 fun v115 =>
guardS v115 false (some (v113, h112)) h112 fun v116 h117 =>
guardS v115 false (intS .gtr v116 (.int .i64 (.ofNat 9)) fun v118 =>
some (v118, h117)) h117 fun v119 h120 =>
optS (pickV v115 (.bool true) v119) fun v121 =>
guardS v121 false (some (a5, h120)) h120 fun v122 h123 =>
guardS v121 false (intS .lss v122 (.int .i64 (.negSucc 922337203685477579)) fun v124 =>
some (v124, h123)) h123 fun v125 h126 =>
optS (pickV v121 (.bool true) v125) fun v127 =>
guardS v127 false (some (a5, h126)) h126 fun v128 h129 =>
guardS v127 false (intS .eql v128 (.int .i64 (.negSucc 922337203685477579)) fun v130 =>
some (v130, h129)) h129 fun v131 h132 =>
guardS v127 false (some (v131, h132)) h132 fun v133 h134 =>
guardS v133 true (some (v113, h134)) h134 fun v135 h136 =>
guardS v133 true (intS .gtr v135 (.int .i64 (.ofNat 8)) fun v137 =>
some (v137, h136)) h136 fun v138 h139 =>
guardS v127 false (optS (pickV v133 v138 (.bool false)) fun v140 =>
some (v140, h139)) h139 fun v141 h142 =>
optS (pickV v127 (.bool true) v141) fun v143 =>
ifS v143 (
some (.tuple [(.int .i64 (.ofNat 0)), (.bool false)], h142)) (
intS .mul (.int .i64 (.ofNat 10)) a5 fun v144 =>
intS .sub v144 v113 fun v145 =>
intS .add a6 (.int .i64 (.ofNat 1)) fun v146 =>
ih 203 [a0, a4, v145, v146] h142)) (
lenStr a0 fun v147 =>
intS .eql v147 (.int .i64 (.ofNat 0)) fun v148 =>
guardS v148 false (some (a4, h)) h fun v149 h150 =>
guardS v148 false (notS v149 fun v151 =>
some (v151, h150)) h150 fun v152 h153 =>
guardS v148 false (some (v152, h153)) h153 fun v154 h155 =>
guardS v154 true (some (a5, h155)) h155 fun v156 h157 =>
guardS v154 true (intS .eql v156 (.int .i64 (.negSucc 9223372036854775807)) fun v158 =>
some (v158, h157)) h157 fun v159 h160 =>
guardS v148 false (optS (pickV v154 v159 (.bool false)) fun v161 =>
some (v161, h160)) h160 fun v162 h163 =>
optS (pickV v148 (.bool true) v162) fun v164 =>
ifS v164 (
some (.tuple [(.int .i64 (.ofNat 0)), (.bool false)], h163)) (
notS a4 fun v165 =>
ifS v165 (
intS .sub (.int .i64 (.ofNat 0)) a5 fun v166 =>
ih 205 [v166] h163) (
ih 205 [a5] h163)))
noncomputable def G203 : Sh := fun ih vs h => consE (fun a0 => consE (fun a4 => consE (fun a5 => consE (fun a6 => nilE (B203 ih a0 a4 a5 a6 h))))) vs
noncomputable def B205 (ih : Nat → List V → Hp → VH) (a5 : V) (h : Hp) : VH :=
some (.tuple [a5, (.bool true)], h)
noncomputable def G205 : Sh := fun ih vs h => consE (fun a5 => nilE (B205 ih a5 h)) vs
noncomputable def B192 (ih : Nat → List V → Hp → VH) (h : Hp) : VH :=
bindS (bldSl h [(0, (.str (us [97, 110, 100]))), (1, (.str (us [98, 114, 101, 97, 107]))), (2, (.str (us [100, 111]))), (3, (.str (us [101, 108, 115, 101]))), (4, (.str (us [101, 108, 115, 101, 105, 102]))), (5, (.str (us [101, 110, 100]))), (6, (.str (us [102, 97, 108, 115, 101]))), (7, (.str (us [102, 111, 114]))), (8, (.str (us [102, 117, 110, 99, 116, 105, 111, 110]))), (9, (.str (us [103, 111, 116, 111]))), (10, (.str (us [105, 102]))), (11, (.str (us [105, 110]))), (12, (.str (us [108, 111, 99, 97, 108]))), (13, (.str (us [110, 105, 108]))), (14, (.str (us [110, 111, 116]))), (15, (.str (us [111, 114]))), (16, (.str (us [114, 101, 112, 101, 97, 116]))), (17, (.str (us [114, 101, 116, 117, 114, 110]))), (18, (.str (us [116, 104, 101, 110]))), (19, (.str (us [116, 114, 117, 101]))), (20, (.str (us [117, 110, 116, 105, 108]))), (21, (.str (us [119, 104, 105, 108, 101])))] 9 22 1 (.str (us []))) fun v0 h1 =>
some (v0, h1)
noncomputable def G192 : Sh := fun ih vs h => nilE (B192 ih  h) vs
noncomputable def B266 (ih : Nat → List V → Hp → VH) (a0 a1 : V) (h : Hp) : VH :=
intS .eql a1 (.int .i64 (.ofNat 10)) fun v0 =>
ifS v0 (
intS .leq (.int .i64 (.ofNat 0)) a0 fun v1 =>
guardS v1 true (some (a0, h)) h fun v2 h3 =>
guardS v1 true (intS .lss v2 (.int .i64 (.ofNat 100)) fun v4 =>
some (v4, h3)) h3 fun v5 h6 =>
optS (pickV v1 v5 (.bool false)) fun v7 =>
ifS v7 (
bindS (ih 268 [a0] h6) fun v8 h9 =>
some (v8, h9)) (
newS 168 [(.int .u8 (.ofNat 0)), (.int .u8 (.ofNat 0)), (.int .u8 (.ofNat 0)), (.int .u8 (.ofNat 0)), (.int .u8 (.ofNat 0)), (.int .u8 (.ofNat 0)), (.int .u8 (.ofNat 0)), (.int .u8 (.ofNat 0)), (.int .u8 (.ofNat 0)), (.int .u8 (.ofNat 0)), (.int .u8 (.ofNat 0)), (.int .u8 (.ofNat 0)), (.int .u8 (.ofNat 0)), (.int .u8 (.ofNat 0)), (.int .u8 (.ofNat 0)), (.int .u8 (.ofNat 0)), (.int .u8 (.ofNat 0)), (.int .u8 (.ofNat 0)), (.int .u8 (.ofNat 0)), (.int .u8 (.ofNat 0)), (.int .u8 (.ofNat 0)), (.int .u8 (.ofNat 0)), (.int .u8 (.ofNat 0)), (.int .u8 (.ofNat 0))] h6 fun v10 h11 =>
convI .u64 a0 fun v12 =>
intS .lss a0 (.int .i64 (.ofNat 0)) fun v13 =>
ifS v13 (
negS v12 fun v14 =>
ih 207 [a0, v10, v14] h11) (
ih 207 [a0, v10, v12] h11))) (
convI .u64 a0 fun v15 =>
intS .lss a0 (.int .i64 (.ofNat 0)) fun v16 =>
bindS (ih 274 [.nilSlice, v15, a1, v16, (.bool false)] h) fun v17 h18 =>
extS 0 v17 fun v19 =>
extS 1 v17 fun v20 =>
some (v20, h18))
noncomputable def G266 : Sh := fun ih vs h => consE (fun a0 => consE (fun a1 => nilE (B266 ih a0 a1 h))) vs
noncomputable def B207 (ih : Nat → List V → Hp → VH) (a0 a5 a6 : V) (h : Hp) : VH :=
bindS (ih 270 [a6] h) fun v21 h22 =>
intS .add (.int .i64 (.ofNat 1)) v21 fun v23 =>
bindS (vh h22 (cutA 24 1 a5 (natA (some (.int .i64 (.ofNat 1)))) (natA (some v23)))) fun v24 h25 =>
bindS (ih 272 [v24, a6] h25) fun v26 h27 =>
intS .lss a0 (.int .i64 (.ofNat 0)) fun v28 =>
ifS v28 (
idxP 1 24 a5 (.int .i64 (.ofNat 0)) fun v29 =>
storeC v29 (.int .u8 (.ofNat 45)) h27 fun h30 =>
intS .add (.int .i64 (.ofNat 1)) v21 fun v31 =>
bindS (vh h30 (cutA 24 1 a5 (some 0) (natA (some v31)))) fun v32 h33 =>
bindS (vh h33 (b2s h33 v32)) fun v34 h35 =>
some (v34, h35)) (
intS .add (.int .i64 (.ofNat 1)) v21 fun v36 =>
bindS (vh h27 (cutA 24 1 a5 (natA (some (.int .i64 (.ofNat 1)))) (natA (some v36)))) fun v37 h38 =>
bindS (vh h38 (b2s h38 v37)) fun v39 h40 =>
some (v39, h40))
noncomputable def G207 : Sh := fun ih vs h => consE (fun a0 => consE (fun a5 => consE (fun a6 => nilE (B207 ih a0 a5 a6 h)))) vs
noncomputable def B274 (ih : Nat → List V → Hp → VH) (a0 a1 a2 a3 a4 : V) (h : Hp) : VH :=
intS .lss a2 (.int .i64 (.ofNat 2)) fun v0 =>
guardS v0 false (some (a2, h)) h fun v1 h2 =>
guardS v0 false (intS .eql v1 (.int .i64 (.ofNat 10)) fun v3 =>
some (v3, h2)) h2 fun v4 h5 =>
optS (pickV v0 (.bool true) v4) fun v6 =>
guardS v6 false (some (a2, h5)) h5 fun v7 h8 =>
guardS v6 false (intS .gtr v7 (.int .i64 (.ofNat 36)) fun v9 =>
some (v9, h8)) h8 fun v10 h11 =>
optS (pickV v6 (.bool true) v10) fun v12 =>
ifS v12 (
none) (
ih 209 [a0, a1, a2, a3, a4, .nilSlice, (.str (us []))] h11)
noncomputable def G274 : Sh := fun ih vs h => consE (fun a0 => consE (fun a1 => consE (fun a2 => consE (fun a3 => consE (fun a4 => nilE (B274 ih a0 a1 a2 a3 a4 h)))))) vs
noncomputable def B209 (ih : Nat → List V → Hp → VH) (a0 a1 a2 a3 a4 a10 a11 : V) (h : Hp) : VH :=
newS 179 [(.int .u8 (.ofNat 0)), (.int .u8 (.ofNat 0)), (.int .u8 (.ofNat 0)), (.int .u8 (.ofNat 0)), (.int .u8 (.ofNat 0)), (.int .u8 (.ofNat 0)), (.int .u8 (.ofNat 0)), (.int .u8 (.ofNat 0)), (.int .u8 (.ofNat 0)), (.int .u8 (.ofNat 0)), (.int .u8 (.ofNat 0)), (.int .u8 (.ofNat 0)), (.int .u8 (.ofNat 0)), (.int .u8 (.ofNat 0)), (.int .u8 (.ofNat 0)), (.int .u8 (.ofNat 0)), (.int .u8 (.ofNat 0)), (.int .u8 (.ofNat 0)), (.int .u8 (.ofNat 0)), (.int .u8 (.ofNat 0)), (.int .u8 (.ofNat 0)), (.int .u8 (.ofNat 0)), (.int .u8 (.ofNat 0)), (.int .u8 (.ofNat 0)), (.int .u8 (.ofNat 0)), (.int .u8 (.ofNat 0)), (.int .u8 (.ofNat 0)), (.int .u8 (.ofNat 0)), (.int .u8 (.ofNat 0)), (.int .u8 (.ofNat 0)), (.int .u8 (.ofNat 0)), (.int .u8 (.ofNat 0)), (.int .u8 (.ofNat 0)), (.int .u8 (.ofNat 0)), (.int .u8 (.ofNat 0)), (.int .u8 (.ofNat 0)), (.int .u8 (.ofNat 0)), (.int .u8 (.ofNat 0)), (.int .u8 (.ofNat 0)), (.int .u8 (.ofNat 0)), (.int .u8 (.ofNat 0)), (.int .u8 (.ofNat 0)), (.int .u8 (.ofNat 0)), (.int .u8 (.ofNat 0)), (.int .u8 (.ofNat 0)), (.int .u8 (.ofNat 0)), (.int .u8 (.ofNat 0)), (.int .u8 (.ofNat 0)), (.int .u8 (.ofNat 0)), (.int .u8 (.ofNat 0)), (.int .u8 (.ofNat 0)), (.int .u8 (.ofNat 0)), (.int .u8 (.ofNat 0)), (.int .u8 (.ofNat 0)), (.int .u8 (.ofNat 0)), (.int .u8 (.ofNat 0)), (.int .u8 (.ofNat 0)), (.int .u8 (.ofNat 0)), (.int .u8 (.ofNat 0)), (.int .u8 (.ofNat 0)), (.int .u8 (.ofNat 0)), (.int .u8 (.ofNat 0)), (.int .u8 (.ofNat 0)), (.int .u8 (.ofNat 0)), (.int .u8 (.ofNat 0))] h fun v13 h14 =>
ifS a3 (
negS a1 fun v15 =>
ih 211 [a0, v15, a2, a3, a4, a10, a11, v13, (.int .i64 (.ofNat 65))] h14) (
ih 211 [a0, a1, a2, a3, a4, a10, a11, v13, (.int .i64 (.ofNat 65))] h14)
noncomputable def G209 : Sh := fun ih vs h => consE (fun a0 => consE (fun a1 => consE (fun a2 => consE (fun a3 => consE (fun a4 => consE (fun a10 => consE (fun a11 => nilE (B209 ih a0 a1 a2 a3 a4 a10 a11 h)))))))) vs
noncomputable def B211 (ih : Nat → List V → Hp → VH) (a0 a1 a2 a3 a4 a10 a11 a12 a13 : V) (h : Hp) : VH :=
bindS (ih 288 [a2] h) fun v16 h17 =>
ifS v16 (
convI .u64 a2 fun v18 =>
bindS (ih 290 [v18] h17) fun v19 h20 =>
convI .u64 v19 fun v21 =>
convI .u64 a2 fun v22 =>
convI .u64 a2 fun v23 =>
intS .sub v23 (.int .u64 (.ofNat 1)) fun v24 =>
ih 219 [a0, a1, a3, a4, a10, a11, a12, a13, v21, v22, v24] h20) (
convI .u64 a2 fun v25 =>
ih 217 [a0, a1, a3, a4, a10, a11, a12, a13, v25] h17)
noncomputable def G211 : Sh := fun ih vs h => consE (fun a0 => consE (fun a1 => consE (fun a2 => consE (fun a3 => consE (fun a4 => consE (fun a10 => consE (fun a11 => consE (fun a12 => consE (fun a13 => nilE (B211 ih a0 a1 a2 a3 a4 a10 a11 a12 a13 h)))))))))) vs
noncomputable def B213 (ih : Nat → List V → Hp → VH) (a0 a3 a4 a10 a11 a12 a13 : V) (h : Hp) : VH :=
ifS a3 (
intS .sub a13 (.int .i64 (.ofNat 1)) fun v26 =>
idxP 1 65 a12 v26 fun v27 =>
storeC v27 (.int .u8 (.ofNat 45)) h fun h28 =>
ih 215 [a0, a4, a10, a11, a12, v26] h28) (
ih 215 [a0, a4, a10, a11, a12, a13] h)
noncomputable def G213 : Sh := fun ih vs h => consE (fun a0 => consE (fun a3 => consE (fun a4 => consE (fun a10 => consE (fun a11 => consE (fun a12 => consE (fun a13 => nilE (B213 ih a0 a3 a4 a10 a11 a12 a13 h)))))))) vs
noncomputable def B215 (ih : Nat → List V → Hp → VH) (a0 a4 a10 a11 a12 a13 : V) (h : Hp) : VH :=
ifS a4 (
bindS (vh h (cutA 65 1 a12 (natA (some a13)) (some 65))) fun v29 h30 =>
bindS (appS 5 1 1 a0 v29 h30) fun v31 h32 =>
some (.tuple [v31, a11], h32)) (
bindS (vh h (cutA 65 1 a12 (natA (some a13)) (some 65))) fun v33 h34 =>
bindS (vh h34 (b2s h34 v33)) fun v35 h36 =>
some (.tuple [a10, v35], h36))
noncomputable def G215 : Sh := fun ih vs h => consE (fun a0 => consE (fun a4 => consE (fun a10 => consE (fun a11 => consE (fun a12 => consE (fun a13 => nilE (B215 ih a0 a4 a10 a11 a12 a13 h))))))) vs
noncomputable def B217 (ih : Nat → List V → Hp → VH) (a0 a1 a3 a4 a10 a11 a12 a13 a17 : V) (h : Hp) : VH :=
intS .geq a1 a17 fun v37 =>
ifS v37 (
intS .sub a13 (.int .i64 (.ofNat 1)) fun v38 =>
intS .quo a1 a17 fun v39 =>
intS .mul v39 a17 fun v40 =>
intS .sub a1 v40 fun v41 =>
idxStr (.str (us [48, 49, 50, 51, 52, 53, 54, 55, 56, 57, 97, 98, 99, 100, 101, 102, 103, 104, 105, 106, 107, 108, 109, 110, 111, 112, 113, 114, 115, 116, 117, 118, 119, 120, 121, 122])) v41 fun v42 =>
idxP 1 65 a12 v38 fun v43 =>
storeC v43 v42 h fun h44 =>
ih 217 [a0, v39, a3, a4, a10, a11, a12, v38, a17] h44) (
intS .sub a13 (.int .i64 (.ofNat 1)) fun v45 =>
idxStr (.str (us [48, 49, 50, 51, 52, 53, 54, 55, 56, 57, 97, 98, 99, 100, 101, 102, 103, 104, 105, 106, 107, 108, 109, 110, 111, 112, 113, 114, 115, 116, 117, 118, 119, 120, 121, 122])) a1 fun v46 =>
idxP 1 65 a12 v45 fun v47 =>
storeC v47 v46 h fun h48 =>
ih 213 [a0, a3, a4, a10, a11, a12, v45] h48)
noncomputable def G217 : Sh := fun ih vs h => consE (fun a0 => consE (fun a1 => consE (fun a3 => consE (fun a4 => consE (fun a10 => consE (fun a11 => consE (fun a12 => consE (fun a13 => consE (fun a17 => nilE (B217 ih a0 a1 a3 a4 a10 a11 a12 a13 a17 h)))))))))) vs
end Go.SN
