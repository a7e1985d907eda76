import Derived.Test.YtgajpiaajkbilaaWMidZ
import Derived.KernelRfl
import Derived.Test.YtgajpiaajkbilaaProg
set_option linter.all false
open Go Go.Mid Go.Proofs
set_option maxRecDepth 100000
set_option linter.unusedVariables false
namespace Go.RW
noncomputable def us (l : List Nat) : List UInt8 := l.map UInt8.ofNat
noncomputable def U (t : TypeId) : Option TypeDesc := Try.prog.underlying t
noncomputable def B8 (ih : Nat → List V → Hp → VH) (a0 a1 a2 : V) (h : Hp) : VH :=
newS 26 (vcells a0) h fun v0 h1 =>
loadN 2 v0 h1 fun v2 =>
bindS (ih 20 [v2] h1) fun v3 h4 =>
intS .gtr v3 (.int .i64 (.ofNat 6000)) fun v5 =>
guardS v5 false (loadN 2 v0 h4 fun v6 =>
some (v6, h4)) h4 fun v7 h8 =>
guardS v5 false (bindS (ih 10 [v7] h8) fun v9 h10 =>
some (v9, h10)) h8 fun v11 h12 =>
guardS v5 false (notS v11 fun v13 =>
some (v13, h12)) h12 fun v14 h15 =>
optS (pickV v5 (.bool true) v14) fun v16 =>
ifS v16 (
bindS (ih 18 [] h15) fun v17 h18 =>
some (v17, h18)) (
intS .lss a1 (.int .i64 (.ofNat 0)) fun v19 =>
guardS v19 false (some (a1, h15)) h15 fun v20 h21 =>
guardS v19 false (addrS 1 v0 fun v22 =>
some (v22, h21)) h21 fun v23 h24 =>
guardS v19 false (load1 v23 h24 fun v25 =>
some (v25, h24)) h24 fun v26 h27 =>
guardS v19 false (lenSl v26 fun v28 =>
some (v28, h27)) h27 fun v29 h30 =>
guardS v19 false (intS .geq v20 v29 fun v31 =>
some (v31, h30)) h30 fun v32 h33 =>
optS (pickV v19 (.bool true) v32) fun v34 =>
ifS v34 (
loadN 2 v0 h33 fun v35 =>
bindS (ih 22 [v35, a1] h33) fun v36 h37 =>
notS v36 fun v38 =>
guardS v38 true (bindS (ih 18 [] h37) fun v39 h40 =>
some (v39, h40)) h37 fun v41 h42 =>
optS (pickV v38 v41 (.bool false)) fun v43 =>
some (v43, h42)) (
addrS 1 v0 fun v44 =>
load1 v44 h33 fun v45 =>
idxS 8 v45 a1 fun v46 =>
loadN 8 v46 h33 fun v47 =>
newS 35 [(.int .i64 (.ofNat 0)), (.bool false), (.int .i64 (.ofNat 0)), .nilSlice, .nilSlice, .nilSlice, .nilSlice, (.int .i64 (.ofNat 0))] h33 fun v48 h49 =>
storeN 8 v48 v47 h49 fun h50 =>
addrS 7 v48 fun v51 =>
load1 v51 h50 fun v52 =>
ih 1 [a2, v48, v52, (.int .i64 (.ofNat 0))] h50))
noncomputable def G8 : Sh := fun ih vs h => consE (fun a0 => consE (fun a1 => consE (fun a2 => nilE (B8 ih a0 a1 a2 h)))) vs
noncomputable def B1 (ih : Nat → List V → Hp → VH) (a2 a7 a8 a9 : V) (h : Hp) : VH :=
intS .lss a9 (.int .i64 (.ofNat 300)) fun v53 =>
guardS v53 true (some (a8, h)) h fun v54 h55 =>
guardS v53 true (intS .neq v54 (.int .i64 (.negSucc 0)) fun v56 =>
some (v56, h55)) h55 fun v57 h58 =>
optS (pickV v53 v57 (.bool false)) fun v59 =>
ifS v59 (
intS .lss a8 (.int .i64 (.ofNat 0)) fun v60 =>
guardS v60 false (some (a8, h58)) h58 fun v61 h62 =>
guardS v60 false (addrS 5 a7 fun v63 =>
some (v63, h62)) h62 fun v64 h65 =>
guardS v60 false (load1 v64 h65 fun v66 =>
some (v66, h65)) h65 fun v67 h68 =>
guardS v60 false (lenSl v67 fun v69 =>
some (v69, h68)) h68 fun v70 h71 =>
guardS v60 false (intS .geq v61 v70 fun v72 =>
some (v72, h71)) h71 fun v73 h74 =>
optS (pickV v60 (.bool true) v73) fun v75 =>
ifS v75 (
some ((.bool false), h74)) (
addrS 5 a7 fun v76 =>
load1 v76 h74 fun v77 =>
idxS 7 v77 a8 fun v78 =>
loadN 7 v78 h74 fun v79 =>
newS 44 [(.int .u8 (.ofNat 0)), .nilSlice, .nilSlice, .nilSlice, (.int .i64 (.ofNat 0)), (.int .i64 (.ofNat 0)), (.int .i64 (.ofNat 0))] h74 fun v80 h81 =>
storeN 7 v80 v79 h81 fun h82 =>
addrS 0 v80 fun v83 =>
load1 v83 h82 fun v84 =>
intS .eql v84 (.int .u8 (.ofNat 4)) fun v85 =>
guardS v85 false (addrS 0 v80 fun v86 =>
some (v86, h82)) h82 fun v87 h88 =>
guardS v85 false (load1 v87 h88 fun v89 =>
some (v89, h88)) h88 fun v90 h91 =>
guardS v85 false (intS .eql v90 (.int .u8 (.ofNat 6)) fun v92 =>
some (v92, h91)) h91 fun v93 h94 =>
optS (pickV v85 (.bool true) v93) fun v95 =>
guardS v95 false (addrS 0 v80 fun v96 =>
some (v96, h94)) h94 fun v97 h98 =>
guardS v95 false (load1 v97 h98 fun v99 =>
some (v99, h98)) h98 fun v100 h101 =>
guardS v95 false (intS .eql v100 (.int .u8 (.ofNat 8)) fun v102 =>
some (v102, h101)) h101 fun v103 h104 =>
optS (pickV v95 (.bool true) v103) fun v105 =>
addrS 4 v80 fun v106 =>
load1 v106 h104 fun v107 =>
guardS v105 true (some (a2, h104)) h104 fun v108 h109 =>
guardS v105 true (lenSl v108 fun v110 =>
some (v110, h109)) h109 fun v111 h112 =>
guardS v105 true (intS .gtr v111 (.int .i64 (.ofNat 0)) fun v113 =>
some (v113, h112)) h112 fun v114 h115 =>
optS (pickV v105 v114 (.bool false)) fun v116 =>
guardS v116 true (some (a2, h115)) h115 fun v117 h118 =>
guardS v116 true (some (a9, h118)) h118 fun v119 h120 =>
guardS v116 true (some (a2, h120)) h120 fun v121 h122 =>
guardS v116 true (lenSl v121 fun v123 =>
some (v123, h122)) h122 fun v124 h125 =>
guardS v116 true (intS .rem v119 v124 fun v126 =>
some (v126, h125)) h125 fun v127 h128 =>
guardS v116 true (idxS 1 v117 v127 fun v129 =>
some (v129, h128)) h128 fun v130 h131 =>
guardS v116 true (load1 v130 h131 fun v132 =>
some (v132, h131)) h131 fun v133 h134 =>
optS (pickV v116 v133 (.bool false)) fun v135 =>
ifS v135 (
addrS 5 v80 fun v136 =>
load1 v136 h134 fun v137 =>
ih 3 [a2, a7, v137, a9] h134) (
ih 3 [a2, a7, v107, a9] h134))) (
bindS (ih 18 [] h58) fun v138 h139 =>
some (v138, h139))
noncomputable def G1 : Sh := fun ih vs h => consE (fun a2 => consE (fun a7 => consE (fun a8 => consE (fun a9 => nilE (B1 ih a2 a7 a8 a9 h))))) vs
noncomputable def B3 (ih : Nat → List V → Hp → VH) (a2 a7 a8 a9 : V) (h : Hp) : VH :=
intS .add a9 (.int .i64 (.ofNat 1)) fun v140 =>
ih 1 [a2, a7, a8, v140] h
noncomputable def G3 : Sh := fun ih vs h => consE (fun a2 => consE (fun a7 => consE (fun a8 => consE (fun a9 => nilE (B3 ih a2 a7 a8 a9 h))))) vs
noncomputable def B18 (ih : Nat → List V → Hp → VH) (h : Hp) : VH :=
bindS (ih 14 [] h) fun v0 h1 =>
bindS (ih 14 [] h1) fun v2 h3 =>
bindS (ih 14 [] h3) fun v4 h5 =>
bindS (ih 14 [] h5) fun v6 h7 =>
newS 26 [.nilSlice, .nilSlice] h7 fun v8 h9 =>
newS 26 [.nilSlice, .nilSlice] h9 fun v10 h11 =>
newS 26 [.nilSlice, .nilSlice] h11 fun v12 h13 =>
newS 26 [.nilSlice, .nilSlice] h13 fun v14 h15 =>
storeN 2 v8 v0 h15 fun h16 =>
storeN 2 v10 v2 h16 fun h17 =>
storeN 2 v12 v4 h17 fun h18 =>
storeN 2 v14 v6 h18 fun h19 =>
addrS 1 v8 fun v20 =>
load1 v20 h19 fun v21 =>
idxS 8 v21 (.int .i64 (.ofNat 0)) fun v22 =>
addrS 5 v22 fun v23 =>
load1 v23 h19 fun v24 =>
idxS 7 v24 (.int .i64 (.ofNat 0)) fun v25 =>
addrS 4 v25 fun v26 =>
storeC v26 (.int .i64 (.ofNat 2)) h19 fun h27 =>
addrS 1 v10 fun v28 =>
load1 v28 h27 fun v29 =>
idxS 8 v29 (.int .i64 (.ofNat 0)) fun v30 =>
addrS 2 v30 fun v31 =>
storeC v31 (.int .i64 (.ofNat 0)) h27 fun h32 =>
addrS 1 v12 fun v33 =>
load1 v33 h32 fun v34 =>
idxS 8 v34 (.int .i64 (.ofNat 0)) fun v35 =>
addrS 5 v35 fun v36 =>
load1 v36 h32 fun v37 =>
bindS (bldSl h32 [(0, (.int .i64 (.ofNat 4))), (1, (.int .i64 (.ofNat 4)))] 3 2 1 (.int .i64 (.ofNat 0))) fun v38 h39 =>
idxS 7 v37 (.int .i64 (.ofNat 1)) fun v40 =>
addrS 3 v40 fun v41 =>
storeC v41 v38 h39 fun h42 =>
addrS 1 v14 fun v43 =>
load1 v43 h42 fun v44 =>
idxS 8 v44 (.int .i64 (.ofNat 0)) fun v45 =>
addrS 6 v45 fun v46 =>
load1 v46 h42 fun v47 =>
idxS 3 v47 (.int .i64 (.ofNat 1)) fun v48 =>
addrS 1 v48 fun v49 =>
storeC v49 (.int .i64 (.ofNat 1)) h42 fun h50 =>
bindS (ih 14 [] h50) fun v51 h52 =>
bindS (ih 10 [v51] h52) fun v53 h54 =>
guardS v53 true (bindS (ih 14 [] h54) fun v55 h56 =>
some (v55, h56)) h54 fun v57 h58 =>
guardS v53 true (bindS (ih 22 [v57, (.int .i64 (.ofNat 0))] h58) fun v59 h60 =>
some (v59, h60)) h58 fun v61 h62 =>
optS (pickV v53 v61 (.bool false)) fun v63 =>
guardS v63 true (bindS (ih 14 [] h62) fun v64 h65 =>
some (v64, h65)) h62 fun v66 h67 =>
guardS v63 true (bindS (ih 22 [v66, (.int .i64 (.ofNat 1))] h67) fun v68 h69 =>
some (v68, h69)) h67 fun v70 h71 =>
guardS v63 true (notS v70 fun v72 =>
some (v72, h71)) h71 fun v73 h74 =>
optS (pickV v63 v73 (.bool false)) fun v75 =>
guardS v75 true (loadN 2 v8 h74 fun v76 =>
some (v76, h74)) h74 fun v77 h78 =>
guardS v75 true (bindS (ih 10 [v77] h78) fun v79 h80 =>
some (v79, h80)) h78 fun v81 h82 =>
guardS v75 true (notS v81 fun v83 =>
some (v83, h82)) h82 fun v84 h85 =>
optS (pickV v75 v84 (.bool false)) fun v86 =>
guardS v86 true (loadN 2 v10 h85 fun v87 =>
some (v87, h85)) h85 fun v88 h89 =>
guardS v86 true (bindS (ih 10 [v88] h89) fun v90 h91 =>
some (v90, h91)) h89 fun v92 h93 =>
guardS v86 true (notS v92 fun v94 =>
some (v94, h93)) h93 fun v95 h96 =>
optS (pickV v86 v95 (.bool false)) fun v97 =>
guardS v97 true (loadN 2 v12 h96 fun v98 =>
some (v98, h96)) h96 fun v99 h100 =>
guardS v97 true (bindS (ih 10 [v99] h100) fun v101 h102 =>
some (v101, h102)) h100 fun v103 h104 =>
guardS v97 true (notS v103 fun v105 =>
some (v105, h104)) h104 fun v106 h107 =>
optS (pickV v97 v106 (.bool false)) fun v108 =>
guardS v108 true (loadN 2 v14 h107 fun v109 =>
some (v109, h107)) h107 fun v110 h111 =>
guardS v108 true (bindS (ih 10 [v110] h111) fun v112 h113 =>
some (v112, h113)) h111 fun v114 h115 =>
guardS v108 true (notS v114 fun v116 =>
some (v116, h115)) h115 fun v117 h118 =>
optS (pickV v108 v117 (.bool false)) fun v119 =>
some (v119, h118)
noncomputable def G18 : Sh := fun ih vs h => nilE (B18 ih  h) vs
noncomputable def B22 (ih : Nat → List V → Hp → VH) (a0 a1 : V) (h : Hp) : VH :=
newS 26 (vcells a0) h fun v0 h1 =>
addrS 1 v0 fun v2 =>
load1 v2 h1 fun v3 =>
lenSl v3 fun v4 =>
bindS (ih 30 [a1, v4] h1) fun v5 h6 =>
notS v5 fun v7 =>
ifS v7 (
some ((.bool false), h6)) (
loadN 2 v0 h6 fun v8 =>
addrS 1 v0 fun v9 =>
load1 v9 h6 fun v10 =>
idxS 8 v10 a1 fun v11 =>
loadN 8 v11 h6 fun v12 =>
addrS 1 v0 fun v13 =>
load1 v13 h6 fun v14 =>
idxS 8 v14 a1 fun v15 =>
addrS 6 v15 fun v16 =>
load1 v16 h6 fun v17 =>
lenSl v17 fun v18 =>
bindS (mkS 3 8 1 (.int .i64 (.ofNat 0)) v18 v18 ⟨h6.t, h6.n, h6.n⟩) fun v19 h20 =>
madeS h6.n h6.low h20 fun h21 =>
bindS (bldStruct h21 [(0, v8), (1, v12), (2, v19)] (.agg [.nilSlice, .nilSlice, (.int .i64 (.ofNat 0)), (.bool false), (.int .i64 (.ofNat 0)), .nilSlice, .nilSlice, .nilSlice, .nilSlice, (.int .i64 (.ofNat 0)), .nilSlice]) (some [(0, 2), (2, 8), (10, 1)])) fun v22 h23 =>
newS 57 (vcells v22) h23 fun v24 h25 =>
bindS (ih 32 [v24] h25) fun v26 h27 =>
some (v26, h27))
noncomputable def G22 : Sh := fun ih vs h => consE (fun a0 => consE (fun a1 => nilE (B22 ih a0 a1 h))) vs
noncomputable def B10 (ih : Nat → List V → Hp → VH) (a0 : V) (h : Hp) : VH :=
newS 26 (vcells a0) h fun v0 h1 =>
addrS 1 v0 fun v2 =>
load1 v2 h1 fun v3 =>
lenSl v3 fun v4 =>
intS .lss v4 (.int .i64 (.ofNat 1)) fun v5 =>
guardS v5 false (some (v4, h1)) h1 fun v6 h7 =>
guardS v5 false (intS .gtr v6 (.int .i64 (.ofNat 200)) fun v8 =>
some (v8, h7)) h7 fun v9 h10 =>
optS (pickV v5 (.bool true) v9) fun v11 =>
guardS v11 false (addrS 0 v0 fun v12 =>
some (v12, h10)) h10 fun v13 h14 =>
guardS v11 false (load1 v13 h14 fun v15 =>
some (v15, h14)) h14 fun v16 h17 =>
guardS v11 false (lenSl v16 fun v18 =>
some (v18, h17)) h17 fun v19 h20 =>
guardS v11 false (intS .gtr v19 (.int .i64 (.ofNat 4096)) fun v21 =>
some (v21, h20)) h20 fun v22 h23 =>
optS (pickV v11 (.bool true) v22) fun v24 =>
ifS v24 (
some ((.bool false), h23)) (
addrS 0 v0 fun v25 =>
load1 v25 (h23.new (.map [])) fun v26 =>
lenSl v26 fun v27 =>
ih 5 [v0, v4, (.map h23.n), v26, v27, (.int .i64 (.ofNat 0))] (h23.new (.map [])))
noncomputable def G10 : Sh := fun ih vs h => consE (fun a0 => nilE (B10 ih a0 h)) vs
noncomputable def B5 (ih : Nat → List V → Hp → VH) (a1 a3 a4 a32 a33 a34 : V) (h : Hp) : VH :=
intS .lss a34 a33 fun v28 =>
ifS v28 (
idxS 1 a32 a34 fun v29 =>
load1 v29 h fun v30 =>
bindS (lookS .string (some (.int .i64 (.ofNat 0))) false a4 v30 h) fun v31 h32 =>
intS .add v31 (.int .i64 (.ofNat 1)) fun v33 =>
bindS (updS .string a4 v30 v33 h32) fun v34 h35 =>
lenStr v30 fun v36 =>
intS .gtr v36 (.int .i64 (.ofNat 65535)) fun v37 =>
guardS v37 false (some (a4, h35)) h35 fun v38 h39 =>
guardS v37 false (some (v30, h39)) h39 fun v40 h41 =>
guardS v37 false (bindS (lookS .string (some (.int .i64 (.ofNat 0))) false v38 v40 h41) fun v42 h43 =>
some (v42, h43)) h41 fun v44 h45 =>
guardS v37 false (intS .gtr v44 (.int .i64 (.ofNat 1)) fun v46 =>
some (v46, h45)) h45 fun v47 h48 =>
optS (pickV v37 (.bool true) v47) fun v49 =>
ifS v49 (
some ((.bool false), h48)) (
intS .add a34 (.int .i64 (.ofNat 1)) fun v50 =>
ih 5 [a1, a3, a4, a32, a33, v50] h48)) (
addrS 1 a1 fun v51 =>
load1 v51 h fun v52 =>
idxS 8 v52 (.int .i64 (.ofNat 0)) fun v53 =>
loadN 8 v53 h fun v54 =>
newS 35 [(.int .i64 (.ofNat 0)), (.bool false), (.int .i64 (.ofNat 0)), .nilSlice, .nilSlice, .nilSlice, .nilSlice, (.int .i64 (.ofNat 0))] h fun v55 h56 =>
storeN 8 v55 v54 h56 fun h57 =>
addrS 0 v55 fun v58 =>
load1 v58 h57 fun v59 =>
intS .neq v59 (.int .i64 (.ofNat 0)) fun v60 =>
guardS v60 false (addrS 1 v55 fun v61 =>
some (v61, h57)) h57 fun v62 h63 =>
guardS v60 false (load1 v62 h63 fun v64 =>
some (v64, h63)) h63 fun v65 h66 =>
guardS v60 false (notS v65 fun v67 =>
some (v67, h66)) h66 fun v68 h69 =>
optS (pickV v60 (.bool true) v68) fun v70 =>
guardS v70 false (addrS 4 v55 fun v71 =>
some (v71, h69)) h69 fun v72 h73 =>
guardS v70 false (load1 v72 h73 fun v74 =>
some (v74, h73)) h73 fun v75 h76 =>
guardS v70 false (lenSl v75 fun v77 =>
some (v77, h76)) h76 fun v78 h79 =>
guardS v70 false (intS .neq v78 (.int .i64 (.ofNat 0)) fun v80 =>
some (v80, h79)) h79 fun v81 h82 =>
optS (pickV v70 (.bool true) v81) fun v83 =>
ifS v83 (
some ((.bool false), h82)) (
bindS (mkS 3 8 1 (.int .i64 (.ofNat 0)) a3 a3 h82) fun v84 h85 =>
addrS 1 a1 fun v86 =>
load1 v86 h85 fun v87 =>
lenSl v87 fun v88 =>
ih 7 [a1, v84, v87, v88, (.int .i64 (.ofNat 0))] h85))
noncomputable def G5 : Sh := fun ih vs h => consE (fun a1 => consE (fun a3 => consE (fun a4 => consE (fun a32 => consE (fun a33 => consE (fun a34 => nilE (B5 ih a1 a3 a4 a32 a33 a34 h))))))) vs
noncomputable def B7 (ih : Nat → List V → Hp → VH) (a1 a8 a73 a74 a75 : V) (h : Hp) : VH :=
intS .lss a75 a74 fun v89 =>
ifS v89 (
idxS 8 a73 a75 fun v90 =>
loadN 8 v90 h fun v91 =>
newS 35 [(.int .i64 (.ofNat 0)), (.bool false), (.int .i64 (.ofNat 0)), .nilSlice, .nilSlice, .nilSlice, .nilSlice, (.int .i64 (.ofNat 0))] h fun v92 h93 =>
storeN 8 v92 v91 h93 fun h94 =>
loadN 2 a1 h94 fun v95 =>
bindS (ih 22 [v95, a75] h94) fun v96 h97 =>
notS v96 fun v98 =>
ifS v98 (
some ((.bool false), h97)) (
addrS 6 v92 fun v99 =>
load1 v99 h97 fun v100 =>
lenSl v100 fun v101 =>
ih 11 [a1, a8, a75, a73, a74, a75, v100, v101, (.int .i64 (.ofNat 0))] h97)) (
bindS (slSlK 3 1 (some (.int .i64 (.ofNat 1))) none h a8) fun v102 h103 =>
lenSl v102 fun v104 =>
ih 9 [a1, v102, v104, (.int .i64 (.ofNat 0))] h103)
noncomputable def G7 : Sh := fun ih vs h => consE (fun a1 => consE (fun a8 => consE (fun a73 => consE (fun a74 => consE (fun a75 => nilE (B7 ih a1 a8 a73 a74 a75 h)))))) vs
noncomputable def B9 (ih : Nat → List V → Hp → VH) (a1 a115 a116 a117 : V) (h : Hp) : VH :=
intS .lss a117 a116 fun v105 =>
ifS v105 (
idxS 1 a115 a117 fun v106 =>
load1 v106 h fun v107 =>
intS .eql v107 (.int .i64 (.ofNat 0)) fun v108 =>
guardS v108 false (addrS 1 a1 fun v109 =>
some (v109, h)) h fun v110 _ =>
guardS v108 false (load1 v110 h fun v111 =>
some (v111, h)) h fun v112 _ =>
guardS v108 false (some (a117, h)) h fun v113 _ =>
guardS v108 false (intS .add v113 (.int .i64 (.ofNat 1)) fun v114 =>
some (v114, h)) h fun v115 _ =>
guardS v108 false (idxS 8 v112 v115 fun v116 =>
some (v116, h)) h fun v117 _ =>
guardS v108 false (loadN 8 v117 h fun v118 =>
some (v118, h)) h fun v119 _ =>
guardS v108 false (addrS 1 a1 fun v120 =>
some (v120, h)) h fun v121 _ =>
guardS v108 false (load1 v121 h fun v122 =>
some (v122, h)) h fun v123 _ =>
guardS v108 false (some (v107, h)) h fun v124 _ =>
guardS v108 false (intS .sub v124 (.int .i64 (.ofNat 1)) fun v125 =>
some (v125, h)) h fun v126 _ =>
guardS v108 false (idxS 8 v123 v126 fun v127 =>
some (v127, h)) h fun v128 _ =>
guardS v108 false (loadN 8 v128 h fun v129 =>
some (v129, h)) h fun v130 _ =>
guardS v108 false (bindS (ih 24 [v119, v130] h) fun v131 h132 =>
some (v131, h132)) h fun v133 h134 =>
guardS v108 false (notS v133 fun v135 =>
some (v135, h134)) h134 fun v136 h137 =>
optS (pickV v108 (.bool true) v136) fun v138 =>
ifS v138 (
some ((.bool false), h137)) (
intS .add a117 (.int .i64 (.ofNat 1)) fun v139 =>
ih 9 [a1, a115, a116, v139] h137)) (
some ((.bool true), h))
noncomputable def G9 : Sh := fun ih vs h => consE (fun a1 => consE (fun a115 => consE (fun a116 => consE (fun a117 => nilE (B9 ih a1 a115 a116 a117 h))))) vs
noncomputable def B11 (ih : Nat → List V → Hp → VH) (a1 a8 a9 a73 a74 a75 a85 a86 a87 : V) (h : Hp) : VH :=
intS .lss a87 a86 fun v140 =>
ifS v140 (
idxS 3 a85 a87 fun v141 =>
loadN 3 v141 h fun v142 =>
newS 41 [(.int .u8 (.ofNat 0)), (.int .i64 (.ofNat 0)), .nilSlice] h fun v143 h144 =>
storeN 3 v143 v142 h144 fun h145 =>
addrS 0 v143 fun v146 =>
load1 v146 h145 fun v147 =>
intS .neq v147 (.int .u8 (.ofNat 7)) fun v148 =>
ifS v148 (
ih 13 [a1, a8, a9, a73, a74, a75, a85, a86, a87] h145) (
addrS 1 v143 fun v149 =>
load1 v149 h145 fun v150 =>
intS .leq v150 a9 fun v151 =>
guardS v151 false (some (a8, h145)) h145 fun v152 h153 =>
guardS v151 false (addrS 1 v143 fun v154 =>
some (v154, h153)) h153 fun v155 h156 =>
guardS v151 false (load1 v155 h156 fun v157 =>
some (v157, h156)) h156 fun v158 h159 =>
guardS v151 false (idxS 1 v152 v158 fun v160 =>
some (v160, h159)) h159 fun v161 h162 =>
guardS v151 false (load1 v161 h162 fun v163 =>
some (v163, h162)) h162 fun v164 h165 =>
guardS v151 false (intS .gtr v164 (.int .i64 (.ofNat 0)) fun v166 =>
some (v166, h165)) h165 fun v167 h168 =>
optS (pickV v151 (.bool true) v167) fun v169 =>
ifS v169 (
some ((.bool false), h168)) (
addrS 1 v143 fun v170 =>
load1 v170 h168 fun v171 =>
intS .add a9 (.int .i64 (.ofNat 1)) fun v172 =>
idxS 1 a8 v171 fun v173 =>
storeC v173 v172 h168 fun h174 =>
ih 13 [a1, a8, a9, a73, a74, a75, a85, a86, a87] h174))) (
intS .add a75 (.int .i64 (.ofNat 1)) fun v175 =>
ih 7 [a1, a8, a73, a74, v175] h)
noncomputable def G11 : Sh := fun ih vs h => consE (fun a1 => consE (fun a8 => consE (fun a9 => consE (fun a73 => consE (fun a74 => consE (fun a75 => consE (fun a85 => consE (fun a86 => consE (fun a87 => nilE (B11 ih a1 a8 a9 a73 a74 a75 a85 a86 a87 h)))))))))) vs
noncomputable def B13 (ih : Nat → List V → Hp → VH) (a1 a8 a9 a73 a74 a75 a85 a86 a87 : V) (h : Hp) : VH :=
intS .add a87 (.int .i64 (.ofNat 1)) fun v176 =>
ih 11 [a1, a8, a9, a73, a74, a75, a85, a86, v176] h
noncomputable def G13 : Sh := fun ih vs h => consE (fun a1 => consE (fun a8 => consE (fun a9 => consE (fun a73 => consE (fun a74 => consE (fun a75 => consE (fun a85 => consE (fun a86 => consE (fun a87 => nilE (B13 ih a1 a8 a9 a73 a74 a75 a85 a86 a87 h)))))))))) vs
noncomputable def B20 (ih : Nat → List V → Hp → VH) (a0 : V) (h : Hp) : VH :=
newS 26 (vcells a0) h fun v0 h1 =>
addrS 0 v0 fun v2 =>
load1 v2 h1 fun v3 =>
lenSl v3 fun v4 =>
intS .gtr v4 (.int .i64 (.ofNat 6000)) fun v5 =>
guardS v5 false (addrS 1 v0 fun v6 =>
some (v6, h1)) h1 fun v7 h8 =>
guardS v5 false (load1 v7 h8 fun v9 =>
some (v9, h8)) h8 fun v10 h11 =>
guardS v5 false (lenSl v10 fun v12 =>
some (v12, h11)) h11 fun v13 h14 =>
guardS v5 false (intS .gtr v13 (.int .i64 (.ofNat 300)) fun v15 =>
some (v15, h14)) h14 fun v16 h17 =>
optS (pickV v5 (.bool true) v16) fun v18 =>
ifS v18 (
some ((.int .i64 (.ofNat 6001)), h17)) (
addrS 0 v0 fun v19 =>
load1 v19 h17 fun v20 =>
lenSl v20 fun v21 =>
addrS 1 v0 fun v22 =>
load1 v22 h17 fun v23 =>
lenSl v23 fun v24 =>
intS .mul (.int .i64 (.ofNat 20)) v24 fun v25 =>
intS .add v21 v25 fun v26 =>
ih 15 [v0, v26, (.int .i64 (.ofNat 0))] h17)
noncomputable def G20 : Sh := fun ih vs h => consE (fun a0 => nilE (B20 ih a0 h)) vs
noncomputable def B15 (ih : Nat → List V → Hp → VH) (a1 a3 a4 : V) (h : Hp) : VH :=
addrS 1 a1 fun v27 =>
load1 v27 h fun v28 =>
lenSl v28 fun v29 =>
intS .lss a4 v29 fun v30 =>
guardS v30 true (some (a3, h)) h fun v31 h32 =>
guardS v30 true (intS .leq v31 (.int .i64 (.ofNat 6000)) fun v33 =>
some (v33, h32)) h32 fun v34 h35 =>
optS (pickV v30 v34 (.bool false)) fun v36 =>
ifS v36 (
addrS 1 a1 fun v37 =>
load1 v37 h35 fun v38 =>
idxS 8 v38 a4 fun v39 =>
loadN 8 v39 h35 fun v40 =>
newS 35 [(.int .i64 (.ofNat 0)), (.bool false), (.int .i64 (.ofNat 0)), .nilSlice, .nilSlice, .nilSlice, .nilSlice, (.int .i64 (.ofNat 0))] h35 fun v41 h42 =>
storeN 8 v41 v40 h42 fun h43 =>
addrS 5 v41 fun v44 =>
load1 v44 h43 fun v45 =>
lenSl v45 fun v46 =>
intS .gtr v46 (.int .i64 (.ofNat 6000)) fun v47 =>
guardS v47 false (addrS 6 v41 fun v48 =>
some (v48, h43)) h43 fun v49 h50 =>
guardS v47 false (load1 v49 h50 fun v51 =>
some (v51, h50)) h50 fun v52 h53 =>
guardS v47 false (lenSl v52 fun v54 =>
some (v54, h53)) h53 fun v55 h56 =>
guardS v47 false (intS .gtr v55 (.int .i64 (.ofNat 6000)) fun v57 =>
some (v57, h56)) h56 fun v58 h59 =>
optS (pickV v47 (.bool true) v58) fun v60 =>
guardS v60 false (addrS 4 v41 fun v61 =>
some (v61, h59)) h59 fun v62 h63 =>
guardS v60 false (load1 v62 h63 fun v64 =>
some (v64, h63)) h63 fun v65 h66 =>
guardS v60 false (lenSl v65 fun v67 =>
some (v67, h66)) h66 fun v68 h69 =>
guardS v60 false (intS .gtr v68 (.int .i64 (.ofNat 6000)) fun v70 =>
some (v70, h69)) h69 fun v71 h72 =>
optS (pickV v60 (.bool true) v71) fun v73 =>
ifS v73 (
some ((.int .i64 (.ofNat 6001)), h72)) (
addrS 5 v41 fun v74 =>
load1 v74 h72 fun v75 =>
lenSl v75 fun v76 =>
intS .add a3 v76 fun v77 =>
addrS 6 v41 fun v78 =>
load1 v78 h72 fun v79 =>
lenSl v79 fun v80 =>
intS .add v77 v80 fun v81 =>
addrS 4 v41 fun v82 =>
load1 v82 h72 fun v83 =>
lenSl v83 fun v84 =>
intS .add v81 v84 fun v85 =>
intS .add a4 (.int .i64 (.ofNat 1)) fun v86 =>
ih 15 [a1, v85, v86] h72)) (
some (a3, h35))
noncomputable def G15 : Sh := fun ih vs h => consE (fun a1 => consE (fun a3 => consE (fun a4 => nilE (B15 ih a1 a3 a4 h)))) vs
noncomputable def B14 (ih : Nat → List V → Hp → VH) (h : Hp) : VH :=
newS 26 [.nilSlice, .nilSlice] h fun v0 h1 =>
bindS (bldSl h1 [(0, (.str (us [121])))] 9 1 1 (.str (us []))) fun v2 h3 =>
bindS (bldSl h3 [(0, (.bool false))] 4 1 1 (.bool false)) fun v4 h5 =>
bindS (bldSl h5 [(0, (.int .i64 (.ofNat 0)))] 3 1 1 (.int .i64 (.ofNat 0))) fun v6 h7 =>
bindS (bldSl h7 [(0, (.int .i64 (.ofNat 0)))] 3 1 1 (.int .i64 (.ofNat 0))) fun v8 h9 =>
bindS (bldStruct h9 [(0, (.int .u8 (.ofNat 1))), (1, v6), (3, v8), (4, (.int .i64 (.ofNat 1))), (6, (.int .i64 (.ofNat 1)))] (.agg [(.int .u8 (.ofNat 0)), .nilSlice, .nilSlice, .nilSlice, (.int .i64 (.ofNat 0)), (.int .i64 (.ofNat 0)), (.int .i64 (.ofNat 0))]) (some [(0, 1), (1, 1), (2, 1), (3, 1), (4, 1), (5, 1), (6, 1)])) fun v10 h11 =>
bindS (bldSl h11 [(0, (.int .i64 (.ofNat 1)))] 3 1 1 (.int .i64 (.ofNat 0))) fun v12 h13 =>
bindS (bldSl h13 [(0, (.int .i64 (.ofNat 4)))] 3 1 1 (.int .i64 (.ofNat 0))) fun v14 h15 =>
bindS (bldStruct h15 [(0, (.int .u8 (.ofNat 2))), (2, v12), (3, v14), (4, (.int .i64 (.negSucc 0))), (6, (.int .i64 (.ofNat 1)))] (.agg [(.int .u8 (.ofNat 0)), .nilSlice, .nilSlice, .nilSlice, (.int .i64 (.ofNat 0)), (.int .i64 (.ofNat 0)), (.int .i64 (.ofNat 0))]) (some [(0, 1), (1, 1), (2, 1), (3, 1), (4, 1), (5, 1), (6, 1)])) fun v16 h17 =>
bindS (bldSl h17 [(0, v10), (1, v16)] 44 2 7 (.agg [(.int .u8 (.ofNat 0)), .nilSlice, .nilSlice, .nilSlice, (.int .i64 (.ofNat 0)), (.int .i64 (.ofNat 0)), (.int .i64 (.ofNat 0))])) fun v18 h19 =>
bindS (bldStruct h19 [(0, (.int .u8 (.ofNat 4))), (1, (.int .i64 (.ofNat 1)))] (.agg [(.int .u8 (.ofNat 0)), (.int .i64 (.ofNat 0)), .nilSlice]) (some [(0, 1), (1, 1), (2, 1)])) fun v20 h21 =>
bindS (bldStruct h21 [(0, (.int .u8 (.ofNat 8)))] (.agg [(.int .u8 (.ofNat 0)), (.int .i64 (.ofNat 0)), .nilSlice]) (some [(0, 1), (1, 1), (2, 1)])) fun v22 h23 =>
bindS (bldStruct h23 [(0, (.int .u8 (.ofNat 8)))] (.agg [(.int .u8 (.ofNat 0)), (.int .i64 (.ofNat 0)), .nilSlice]) (some [(0, 1), (1, 1), (2, 1)])) fun v24 h25 =>
bindS (bldStruct h25 [(0, (.int .u8 (.ofNat 10)))] (.agg [(.int .u8 (.ofNat 0)), (.int .i64 (.ofNat 0)), .nilSlice]) (some [(0, 1), (1, 1), (2, 1)])) fun v26 h27 =>
bindS (bldSl h27 [(0, (.int .i64 (.ofNat 2))), (1, (.int .i64 (.ofNat 3)))] 3 2 1 (.int .i64 (.ofNat 0))) fun v28 h29 =>
bindS (bldStruct h29 [(0, (.int .u8 (.ofNat 14))), (1, (.int .i64 (.ofNat 1))), (2, v28)] (.agg [(.int .u8 (.ofNat 0)), (.int .i64 (.ofNat 0)), .nilSlice]) (some [(0, 1), (1, 1), (2, 1)])) fun v30 h31 =>
bindS (bldSl h31 [(0, v20), (1, v22), (2, v24), (3, v26), (4, v30)] 41 5 3 (.agg [(.int .u8 (.ofNat 0)), (.int .i64 (.ofNat 0)), .nilSlice])) fun v32 h33 =>
bindS (bldStruct h33 [(1, (.bool true)), (2, (.int .i64 (.ofNat 1))), (3, v4), (5, v18), (6, v32)] (.agg [(.int .i64 (.ofNat 0)), (.bool false), (.int .i64 (.ofNat 0)), .nilSlice, .nilSlice, .nilSlice, .nilSlice, (.int .i64 (.ofNat 0))]) (some [(0, 1), (1, 1), (2, 1), (3, 1), (4, 1), (5, 1), (6, 1), (7, 1)])) fun v34 h35 =>
bindS (bldSl h35 [(0, v34)] 35 1 8 (.agg [(.int .i64 (.ofNat 0)), (.bool false), (.int .i64 (.ofNat 0)), .nilSlice, .nilSlice, .nilSlice, .nilSlice, (.int .i64 (.ofNat 0))])) fun v36 h37 =>
bindS (bldStruct h37 [(0, v2), (1, v36)] (.agg [.nilSlice, .nilSlice]) (some [(0, 1), (1, 1)])) fun v38 h39 =>
storeN 2 v0 v38 h39 fun h40 =>
loadN 2 v0 h40 fun v41 =>
some (v41, h40)
noncomputable def G14 : Sh := fun ih vs h => nilE (B14 ih  h) vs
noncomputable def B32 (ih : Nat → List V → Hp → VH) (a0 : V) (h : Hp) : VH :=
nilS a0 fun v0 =>
addrS 2 v0 fun v1 =>
loadN 8 v1 h fun v2 =>
newS 35 [(.int .i64 (.ofNat 0)), (.bool false), (.int .i64 (.ofNat 0)), .nilSlice, .nilSlice, .nilSlice, .nilSlice, (.int .i64 (.ofNat 0))] h fun v3 h4 =>
storeN 8 v3 v2 h4 fun h5 =>
addrS 2 v3 fun v6 =>
load1 v6 h5 fun v7 =>
bindS (ih 30 [v7, (.int .i64 (.ofNat 121))] h5) fun v8 h9 =>
notS v8 fun v10 =>
guardS v10 false (addrS 0 v3 fun v11 =>
some (v11, h9)) h9 fun v12 h13 =>
guardS v10 false (load1 v12 h13 fun v14 =>
some (v14, h13)) h13 fun v15 h16 =>
guardS v10 false (addrS 2 v3 fun v17 =>
some (v17, h16)) h16 fun v18 h19 =>
guardS v10 false (load1 v18 h19 fun v20 =>
some (v20, h19)) h19 fun v21 h22 =>
guardS v10 false (intS .add v21 (.int .i64 (.ofNat 1)) fun v23 =>
some (v23, h22)) h22 fun v24 h25 =>
guardS v10 false (bindS (ih 30 [v15, v24] h25) fun v26 h27 =>
some (v26, h27)) h25 fun v28 h29 =>
guardS v10 false (notS v28 fun v30 =>
some (v30, h29)) h29 fun v31 h32 =>
optS (pickV v10 (.bool true) v31) fun v33 =>
guardS v33 false (addrS 3 v3 fun v34 =>
some (v34, h32)) h32 fun v35 h36 =>
guardS v33 false (load1 v35 h36 fun v37 =>
some (v37, h36)) h36 fun v38 h39 =>
guardS v33 false (lenSl v38 fun v40 =>
some (v40, h39)) h39 fun v41 h42 =>
guardS v33 false (addrS 2 v3 fun v43 =>
some (v43, h42)) h42 fun v44 h45 =>
guardS v33 false (load1 v44 h45 fun v46 =>
some (v46, h45)) h45 fun v47 h48 =>
guardS v33 false (intS .neq v41 v47 fun v49 =>
some (v49, h48)) h48 fun v50 h51 =>
optS (pickV v33 (.bool true) v50) fun v52 =>
guardS v52 false (addrS 4 v3 fun v53 =>
some (v53, h51)) h51 fun v54 h55 =>
guardS v52 false (load1 v54 h55 fun v56 =>
some (v56, h55)) h55 fun v57 h58 =>
guardS v52 false (lenSl v57 fun v59 =>
some (v59, h58)) h58 fun v60 h61 =>
guardS v52 false (intS .gtr v60 (.int .i64 (.ofNat 60)) fun v62 =>
some (v62, h61)) h61 fun v63 h64 =>
optS (pickV v52 (.bool true) v63) fun v65 =>
guardS v65 false (addrS 5 v3 fun v66 =>
some (v66, h64)) h64 fun v67 h68 =>
guardS v65 false (load1 v67 h68 fun v69 =>
some (v69, h68)) h68 fun v70 h71 =>
guardS v65 false (lenSl v70 fun v72 =>
some (v72, h71)) h71 fun v73 h74 =>
guardS v65 false (intS .gtr v73 (.int .i64 (.ofNat 4096)) fun v75 =>
some (v75, h74)) h74 fun v76 h77 =>
optS (pickV v65 (.bool true) v76) fun v78 =>
guardS v78 false (addrS 6 v3 fun v79 =>
some (v79, h77)) h77 fun v80 h81 =>
guardS v78 false (load1 v80 h81 fun v82 =>
some (v82, h81)) h81 fun v83 h84 =>
guardS v78 false (lenSl v83 fun v85 =>
some (v85, h84)) h84 fun v86 h87 =>
guardS v78 false (intS .gtr v86 (.int .i64 (.ofNat 4096)) fun v88 =>
some (v88, h87)) h87 fun v89 h90 =>
optS (pickV v78 (.bool true) v89) fun v91 =>
ifS v91 (
some ((.bool false), h90)) (
addrS 5 v3 fun v92 =>
load1 v92 h90 fun v93 =>
lenSl v93 fun v94 =>
intS .eql v94 (.int .i64 (.ofNat 0)) fun v95 =>
guardS v95 true (addrS 7 v3 fun v96 =>
some (v96, h90)) h90 fun v97 h98 =>
guardS v95 true (load1 v97 h98 fun v99 =>
some (v99, h98)) h98 fun v100 h101 =>
guardS v95 true (intS .neq v100 (.int .i64 (.negSucc 0)) fun v102 =>
some (v102, h101)) h101 fun v103 h104 =>
optS (pickV v95 v103 (.bool false)) fun v105 =>
guardS v105 false (addrS 5 v3 fun v106 =>
some (v106, h104)) h104 fun v107 h108 =>
guardS v105 false (load1 v107 h108 fun v109 =>
some (v109, h108)) h108 fun v110 h111 =>
guardS v105 false (lenSl v110 fun v112 =>
some (v112, h111)) h111 fun v113 h114 =>
guardS v105 false (intS .gtr v113 (.int .i64 (.ofNat 0)) fun v115 =>
some (v115, h114)) h114 fun v116 h117 =>
guardS v105 false (some (v116, h117)) h117 fun v118 h119 =>
guardS v118 true (addrS 7 v3 fun v120 =>
some (v120, h119)) h119 fun v121 h122 =>
guardS v118 true (load1 v121 h122 fun v123 =>
some (v123, h122)) h122 fun v124 h125 =>
guardS v118 true (addrS 5 v3 fun v126 =>
some (v126, h125)) h125 fun v127 h128 =>
guardS v118 true (load1 v127 h128 fun v129 =>
some (v129, h128)) h128 fun v130 h131 =>
guardS v118 true (lenSl v130 fun v132 =>
some (v132, h131)) h131 fun v133 h134 =>
guardS v118 true (bindS (ih 30 [v124, v133] h134) fun v135 h136 =>
some (v135, h136)) h134 fun v137 h138 =>
guardS v118 true (notS v137 fun v139 =>
some (v139, h138)) h138 fun v140 h141 =>
guardS v105 false (optS (pickV v118 v140 (.bool false)) fun v142 =>
some (v142, h141)) h141 fun v143 h144 =>
optS (pickV v105 (.bool true) v143) fun v145 =>
ifS v145 (
some ((.bool false), h144)) (
addrS 6 v3 fun v146 =>
load1 v146 h144 fun v147 =>
lenSl v147 fun v148 =>
ih 17 [a0, v3, v147, v148, (.int .i64 (.ofNat 0))] h144))
noncomputable def G32 : Sh := fun ih vs h => consE (fun a0 => nilE (B32 ih a0 h)) vs
noncomputable def B17 (ih : Nat → List V → Hp → VH) (a0 a3 a76 a77 a78 : V) (h : Hp) : VH :=
intS .lss a78 a77 fun v149 =>
ifS v149 (
idxS 3 a76 a78 fun v150 =>
loadN 3 v150 h fun v151 =>
newS 41 [(.int .u8 (.ofNat 0)), (.int .i64 (.ofNat 0)), .nilSlice] h fun v152 h153 =>
storeN 3 v152 v151 h153 fun h154 =>
addrS 2 v152 fun v155 =>
load1 v155 h154 fun v156 =>
bindS (ih 38 [a0, v156, a78] h154) fun v157 h158 =>
notS v157 fun v159 =>
guardS v159 false (some (a0, h158)) h158 fun v160 h161 =>
guardS v159 false (loadN 3 v152 h161 fun v162 =>
some (v162, h161)) h161 fun v163 h164 =>
guardS v159 false (bindS (ih 40 [v160, v163] h164) fun v165 h166 =>
some (v165, h166)) h164 fun v167 h168 =>
guardS v159 false (notS v167 fun v169 =>
some (v169, h168)) h168 fun v170 h171 =>
optS (pickV v159 (.bool true) v170) fun v172 =>
ifS v172 (
some ((.bool false), h171)) (
intS .add a78 (.int .i64 (.ofNat 1)) fun v173 =>
ih 17 [a0, a3, a76, a77, v173] h171)) (
addrS 5 a3 fun v174 =>
load1 v174 h fun v175 =>
lenSl v175 fun v176 =>
ih 19 [a0, a3, v175, v176, (.int .i64 (.ofNat 0))] h)
noncomputable def G17 : Sh := fun ih vs h => consE (fun a0 => consE (fun a3 => consE (fun a76 => consE (fun a77 => consE (fun a78 => nilE (B17 ih a0 a3 a76 a77 a78 h)))))) vs
noncomputable def B19 (ih : Nat → List V → Hp → VH) (a0 a3 a97 a98 a99 : V) (h : Hp) : VH :=
intS .lss a99 a98 fun v177 =>
ifS v177 (
idxS 7 a97 a99 fun v178 =>
loadN 7 v178 h fun v179 =>
newS 44 [(.int .u8 (.ofNat 0)), .nilSlice, .nilSlice, .nilSlice, (.int .i64 (.ofNat 0)), (.int .i64 (.ofNat 0)), (.int .i64 (.ofNat 0))] h fun v180 h181 =>
storeN 7 v180 v179 h181 fun h182 =>
addrS 2 v180 fun v183 =>
load1 v183 h182 fun v184 =>
addrS 6 a3 fun v185 =>
load1 v185 h182 fun v186 =>
lenSl v186 fun v187 =>
bindS (ih 38 [a0, v184, v187] h182) fun v188 h189 =>
notS v188 fun v190 =>
guardS v190 false (some (a0, h189)) h189 fun v191 h192 =>
guardS v190 false (addrS 3 v180 fun v193 =>
some (v193, h192)) h192 fun v194 h195 =>
guardS v190 false (load1 v194 h195 fun v196 =>
some (v196, h195)) h195 fun v197 h198 =>
guardS v190 false (addrS 6 a3 fun v199 =>
some (v199, h198)) h198 fun v200 h201 =>
guardS v190 false (load1 v200 h201 fun v202 =>
some (v202, h201)) h201 fun v203 h204 =>
guardS v190 false (lenSl v203 fun v205 =>
some (v205, h204)) h204 fun v206 h207 =>
guardS v190 false (bindS (ih 38 [v191, v197, v206] h207) fun v208 h209 =>
some (v208, h209)) h207 fun v210 h211 =>
guardS v190 false (notS v210 fun v212 =>
some (v212, h211)) h211 fun v213 h214 =>
optS (pickV v190 (.bool true) v213) fun v215 =>
guardS v215 false (some (a0, h214)) h214 fun v216 h217 =>
guardS v215 false (loadN 7 v180 h217 fun v218 =>
some (v218, h217)) h217 fun v219 h220 =>
guardS v215 false (bindS (ih 42 [v216, v219] h220) fun v221 h222 =>
some (v221, h222)) h220 fun v223 h224 =>
guardS v215 false (notS v223 fun v225 =>
some (v225, h224)) h224 fun v226 h227 =>
optS (pickV v215 (.bool true) v226) fun v228 =>
ifS v228 (
some ((.bool false), h227)) (
intS .add a99 (.int .i64 (.ofNat 1)) fun v229 =>
ih 19 [a0, a3, a97, a98, v229] h227)) (
nilS a0 fun v230 =>
addrS 10 v230 fun v231 =>
load1 v231 h fun v232 =>
bindS (ih 44 [v232, (.func 23 [] [])] h) fun v233 h234 =>
some (v233, h234))
noncomputable def G19 : Sh := fun ih vs h => consE (fun a0 => consE (fun a3 => consE (fun a97 => consE (fun a98 => consE (fun a99 => nilE (B19 ih a0 a3 a97 a98 a99 h)))))) vs
noncomputable def B30 (ih : Nat → List V → Hp → VH) (a0 a1 : V) (h : Hp) : VH :=
intS .geq a0 (.int .i64 (.ofNat 0)) fun v0 =>
guardS v0 true (some (a0, h)) h fun v1 h2 =>
guardS v0 true (some (a1, h2)) h2 fun v3 h4 =>
guardS v0 true (intS .lss v1 v3 fun v5 =>
some (v5, h4)) h4 fun v6 h7 =>
optS (pickV v0 v6 (.bool false)) fun v8 =>
some (v8, h7)
noncomputable def G30 : Sh := fun ih vs h => consE (fun a0 => consE (fun a1 => nilE (B30 ih a0 a1 h))) vs
noncomputable def B24 (ih : Nat → List V → Hp → VH) (a0 a1 : V) (h : Hp) : VH :=
newS 35 (vcells a0) h fun v0 h1 =>
newS 35 (vcells a1) h1 fun v2 h3 =>
addrS 4 v0 fun v4 =>
load1 v4 h3 fun v5 =>
bindS (ih 34 [v5, (.func 18 [] [v2])] h3) fun v6 h7 =>
some (v6, h7)
noncomputable def G24 : Sh := fun ih vs h => consE (fun a0 => consE (fun a1 => nilE (B24 ih a0 a1 h))) vs
noncomputable def B44 (ih : Nat → List V → Hp → VH) (a0 a1 : V) (h : Hp) : VH :=
newS 64 (vcells a1) h fun v0 h1 =>
bindS (ih 74 [a0, (.func 38 [] [v0])] h1) fun v2 h3 =>
notS v2 fun v4 =>
some (v4, h3)
noncomputable def G44 : Sh := fun ih vs h => consE (fun a0 => consE (fun a1 => nilE (B44 ih a0 a1 h))) vs
noncomputable def B42 (ih : Nat → List V → Hp → VH) (a0 a1 : V) (h : Hp) : VH :=
newS 55 (vcells a0) h fun v0 h1 =>
newS 44 (vcells a1) h1 fun v2 h3 =>
bindS (bldArr h3 [] (.agg [(.int .i64 (.ofNat 0)), (.int .i64 (.ofNat 0))]) 1) fun v4 h5 =>
bindS (bldArr h5 [(0, (.int .i64 (.ofNat 1))), (1, (.int .i64 (.ofNat 1)))] (.agg [(.int .i64 (.ofNat 0)), (.int .i64 (.ofNat 0))]) 1) fun v6 h7 =>
bindS (bldArr h7 [(0, (.int .i64 (.ofNat 1))), (1, (.int .i64 (.ofNat 200)))] (.agg [(.int .i64 (.ofNat 0)), (.int .i64 (.ofNat 0))]) 1) fun v8 h9 =>
bindS (bldArr h9 [(0, (.int .i64 (.ofNat 0))), (1, (.int .i64 (.ofNat 200)))] (.agg [(.int .i64 (.ofNat 0)), (.int .i64 (.ofNat 0))]) 1) fun v10 h11 =>
newS 66 [(.int .i64 (.ofNat 0)), (.int .i64 (.ofNat 0))] h11 fun v12 h13 =>
newS 66 [(.int .i64 (.ofNat 0)), (.int .i64 (.ofNat 0))] h13 fun v14 h15 =>
newS 66 [(.int .i64 (.ofNat 0)), (.int .i64 (.ofNat 0))] h15 fun v16 h17 =>
newS 66 [(.int .i64 (.ofNat 0)), (.int .i64 (.ofNat 0))] h17 fun v18 h19 =>
storeN 2 v12 v4 h19 fun h20 =>
storeN 2 v14 v6 h20 fun h21 =>
storeN 2 v16 v8 h21 fun h22 =>
storeN 2 v18 v10 h22 fun h23 =>
addrS 0 v2 fun v24 =>
load1 v24 h23 fun v25 =>
intS .eql v25 (.int .u8 (.ofNat 4)) fun v26 =>
guardS v26 false (addrS 0 v2 fun v27 =>
some (v27, h23)) h23 fun v28 h29 =>
guardS v26 false (load1 v28 h29 fun v30 =>
some (v30, h29)) h29 fun v31 h32 =>
guardS v26 false (intS .eql v31 (.int .u8 (.ofNat 6)) fun v33 =>
some (v33, h32)) h32 fun v34 h35 =>
optS (pickV v26 (.bool true) v34) fun v36 =>
guardS v36 false (addrS 0 v2 fun v37 =>
some (v37, h35)) h35 fun v38 h39 =>
guardS v36 false (load1 v38 h39 fun v40 =>
some (v40, h39)) h39 fun v41 h42 =>
guardS v36 false (intS .eql v41 (.int .u8 (.ofNat 8)) fun v43 =>
some (v43, h42)) h42 fun v44 h45 =>
optS (pickV v36 (.bool true) v44) fun v46 =>
addrS 6 v2 fun v47 =>
load1 v47 h45 fun v48 =>
intS .lss v48 (.int .i64 (.ofNat 1)) fun v49 =>
guardS v49 false (some ((.func 30 [] [v0]), h45)) h45 fun v50 h51 =>
guardS v49 false (addrS 4 v2 fun v52 =>
some (v52, h51)) h51 fun v53 h54 =>
guardS v49 false (load1 v53 h54 fun v55 =>
some (v55, h54)) h54 fun v56 h57 =>
guardS v49 false (bindS (dynE ih v50 [v56] h57) fun v58 h59 =>
some (v58, h59)) h57 fun v60 h61 =>
guardS v49 false (notS v60 fun v62 =>
some (v62, h61)) h61 fun v63 h64 =>
optS (pickV v49 (.bool true) v63) fun v65 =>
guardS v65 false (some (v46, h64)) h64 fun v66 h67 =>
guardS v65 false (some (v66, h67)) h67 fun v68 h69 =>
guardS v68 true (some ((.func 30 [] [v0]), h69)) h69 fun v70 h71 =>
guardS v68 true (addrS 5 v2 fun v72 =>
some (v72, h71)) h71 fun v73 h74 =>
guardS v68 true (load1 v73 h74 fun v75 =>
some (v75, h74)) h74 fun v76 h77 =>
guardS v68 true (bindS (dynE ih v70 [v76] h77) fun v78 h79 =>
some (v78, h79)) h77 fun v80 h81 =>
guardS v68 true (notS v80 fun v82 =>
some (v82, h81)) h81 fun v83 h84 =>
guardS v65 false (optS (pickV v68 v83 (.bool false)) fun v85 =>
some (v85, h84)) h84 fun v86 h87 =>
optS (pickV v65 (.bool true) v86) fun v88 =>
guardS v88 false (some (v46, h87)) h87 fun v89 h90 =>
guardS v88 false (notS v89 fun v91 =>
some (v91, h90)) h90 fun v92 h93 =>
guardS v88 false (some (v92, h93)) h93 fun v94 h95 =>
guardS v94 true (addrS 5 v2 fun v96 =>
some (v96, h95)) h95 fun v97 h98 =>
guardS v94 true (load1 v97 h98 fun v99 =>
some (v99, h98)) h98 fun v100 h101 =>
guardS v94 true (intS .neq v100 (.int .i64 (.ofNat 0)) fun v102 =>
some (v102, h101)) h101 fun v103 h104 =>
guardS v88 false (optS (pickV v94 v103 (.bool false)) fun v105 =>
some (v105, h104)) h104 fun v106 h107 =>
optS (pickV v88 (.bool true) v106) fun v108 =>
guardS v108 false (addrS 1 v2 fun v109 =>
some (v109, h107)) h107 fun v110 h111 =>
guardS v108 false (load1 v110 h111 fun v112 =>
some (v112, h111)) h111 fun v113 h114 =>
guardS v108 false (some ((.func 34 [] [v0]), h114)) h114 fun v115 h116 =>
guardS v108 false (bindS (ih 44 [v113, v115] h116) fun v117 h118 =>
some (v117, h118)) h116 fun v119 h120 =>
guardS v108 false (notS v119 fun v121 =>
some (v121, h120)) h120 fun v122 h123 =>
optS (pickV v108 (.bool true) v122) fun v124 =>
guardS v124 false (addrS 3 v2 fun v125 =>
some (v125, h123)) h123 fun v126 h127 =>
guardS v124 false (load1 v126 h127 fun v128 =>
some (v128, h127)) h127 fun v129 h130 =>
guardS v124 false (load1 v0 h130 fun v131 =>
some (v131, h130)) h130 fun v132 h133 =>
guardS v124 false (some ((.func 27 [v132] []), h133)) h133 fun v134 h135 =>
guardS v124 false (bindS (ih 44 [v129, v134] h135) fun v136 h137 =>
some (v136, h137)) h135 fun v138 h139 =>
guardS v124 false (notS v138 fun v140 =>
some (v140, h139)) h139 fun v141 h142 =>
optS (pickV v124 (.bool true) v141) fun v143 =>
guardS v143 false (addrS 2 v2 fun v144 =>
some (v144, h142)) h142 fun v145 h146 =>
guardS v143 false (load1 v145 h146 fun v147 =>
some (v147, h146)) h146 fun v148 h149 =>
guardS v143 false (load1 v0 h149 fun v150 =>
some (v150, h149)) h149 fun v151 h152 =>
guardS v143 false (some ((.func 35 [v151] []), h152)) h152 fun v153 h154 =>
guardS v143 false (bindS (ih 44 [v148, v153] h154) fun v155 h156 =>
some (v155, h156)) h154 fun v157 h158 =>
guardS v143 false (notS v157 fun v159 =>
some (v159, h158)) h158 fun v160 h161 =>
optS (pickV v143 (.bool true) v160) fun v162 =>
ifS v162 (
some ((.bool false), h161)) (
addrS 0 v2 fun v163 =>
load1 v163 h161 fun v164 =>
intS .eql v164 (.int .u8 (.ofNat 1)) fun v165 =>
ifS v165 (
loadN 2 v16 h161 fun v166 =>
loadN 2 v12 h161 fun v167 =>
loadN 2 v18 h161 fun v168 =>
bindS (dynE ih (.func 31 [] [v2]) [v166, v167, v168] h161) fun v169 h170 =>
some (v169, h170)) (
intS .eql v164 (.int .u8 (.ofNat 2)) fun v171 =>
ifS v171 (
loadN 2 v12 h161 fun v172 =>
loadN 2 v16 h161 fun v173 =>
loadN 2 v16 h161 fun v174 =>
bindS (dynE ih (.func 31 [] [v2]) [v172, v173, v174] h161) fun v175 h176 =>
some (v175, h176)) (
intS .eql v164 (.int .u8 (.ofNat 3)) fun v177 =>
ifS v177 (
loadN 2 v12 h161 fun v178 =>
loadN 2 v12 h161 fun v179 =>
loadN 2 v14 h161 fun v180 =>
bindS (dynE ih (.func 31 [] [v2]) [v178, v179, v180] ⟨h161.t, h161.n, h161.n⟩) fun v181 h182 =>
madeS h161.n h161.low h182 fun h183 =>
guardS v181 true (load1 v0 h183 fun v184 =>
some (v184, h183)) h183 fun v185 _ =>
guardS v181 true (addrS 3 v2 fun v186 =>
some (v186, h183)) h183 fun v187 _ =>
guardS v181 true (load1 v187 h183 fun v188 =>
some (v188, h183)) h183 fun v189 _ =>
guardS v181 true (idxS 1 v189 (.int .i64 (.ofNat 0)) fun v190 =>
some (v190, h183)) h183 fun v191 _ =>
guardS v181 true (load1 v191 h183 fun v192 =>
some (v192, h183)) h183 fun v193 _ =>
guardB v181 true (
bindS (ih 72 [v185, v193] ⟨h183.t, h183.n, h183.n⟩) fun v194 h195 =>
madeS h183.n h183.low h195 fun h196 =>
guardS v181 true (intS .eql v194 (.int .u8 (.ofNat 12)) fun v197 =>
some (v197, h196)) h196 fun v198 _ =>
guardS v181 true (some (v198, h196)) h196 fun v199 _ =>
guardS v199 false (load1 v0 h196 fun v200 =>
some (v200, h196)) h196 fun v201 _ =>
guardS v199 false (addrS 3 v2 fun v202 =>
some (v202, h196)) h196 fun v203 _ =>
guardS v199 false (load1 v203 h196 fun v204 =>
some (v204, h196)) h196 fun v205 _ =>
guardS v199 false (idxS 1 v205 (.int .i64 (.ofNat 0)) fun v206 =>
some (v206, h196)) h196 fun v207 _ =>
guardS v199 false (load1 v207 h196 fun v208 =>
some (v208, h196)) h196 fun v209 _ =>
guardS v199 false (bindS (ih 72 [v201, v209] h196) fun v210 h211 =>
some (v210, h211)) h196 fun v212 h213 =>
guardS v199 false (intS .eql v212 (.int .u8 (.ofNat 13)) fun v214 =>
some (v214, h213)) h213 fun v215 h216 =>
guardS v181 true (optS (pickV v199 (.bool true) v215) fun v217 =>
some (v217, h216)) h216 fun v218 h219 =>
optS (pickV v181 v218 (.bool false)) fun v220 =>
some (v220, h219)) (
guardS v181 true (intS .eql undefV (.int .u8 (.ofNat 12)) fun v221 =>
some (v221, h183)) h183 fun v222 _ =>
guardS v181 true (some (v222, h183)) h183 fun v223 _ =>
guardS v223 false (load1 v0 h183 fun v224 =>
some (v224, h183)) h183 fun v225 _ =>
guardS v223 false (addrS 3 v2 fun v226 =>
some (v226, h183)) h183 fun v227 _ =>
guardS v223 false (load1 v227 h183 fun v228 =>
some (v228, h183)) h183 fun v229 _ =>
guardS v223 false (idxS 1 v229 (.int .i64 (.ofNat 0)) fun v230 =>
some (v230, h183)) h183 fun v231 _ =>
guardS v223 false (load1 v231 h183 fun v232 =>
some (v232, h183)) h183 fun v233 _ =>
guardS v223 false (bindS (ih 72 [v225, v233] h183) fun v234 h235 =>
some (v234, h235)) h183 fun v236 h237 =>
guardS v223 false (intS .eql v236 (.int .u8 (.ofNat 13)) fun v238 =>
some (v238, h237)) h237 fun v239 h240 =>
guardS v181 true (optS (pickV v223 (.bool true) v239) fun v241 =>
some (v241, h240)) h240 fun v242 h243 =>
optS (pickV v181 v242 (.bool false)) fun v244 =>
some (v244, h243))) (
intS .eql v164 (.int .u8 (.ofNat 4)) fun v245 =>
ifS v245 (
loadN 2 v12 h161 fun v246 =>
loadN 2 v12 h161 fun v247 =>
loadN 2 v14 h161 fun v248 =>
bindS (dynE ih (.func 31 [] [v2]) [v246, v247, v248] h161) fun v249 h250 =>
some (v249, h250)) (
intS .eql v164 (.int .u8 (.ofNat 5)) fun v251 =>
ifS v251 (
loadN 2 v14 h161 fun v252 =>
loadN 2 v12 h161 fun v253 =>
bindS (bldArr h161 [(0, (.int .i64 (.ofNat 2))), (1, (.int .i64 (.ofNat 3)))] (.agg [(.int .i64 (.ofNat 0)), (.int .i64 (.ofNat 0))]) 1) fun v254 h255 =>
bindS (dynE ih (.func 31 [] [v2]) [v252, v253, v254] h255) fun v256 h257 =>
guardS v256 true (some ((.func 33 [] [v2, v0]), h257)) h257 fun v258 h259 =>
guardS v256 true (bindS (dynE ih v258 [] h259) fun v260 h261 =>
some (v260, h261)) h259 fun v262 h263 =>
optS (pickV v256 v262 (.bool false)) fun v264 =>
some (v264, h263)) (
intS .eql v164 (.int .u8 (.ofNat 6)) fun v265 =>
ifS v265 (
bindS (bldArr h161 [(0, (.int .i64 (.ofNat 2))), (1, (.int .i64 (.ofNat 2)))] (.agg [(.int .i64 (.ofNat 0)), (.int .i64 (.ofNat 0))]) 1) fun v266 h267 =>
loadN 2 v12 h267 fun v268 =>
loadN 2 v12 h267 fun v269 =>
bindS (dynE ih (.func 31 [] [v2]) [v266, v268, v269] h267) fun v270 h271 =>
guardS v270 true (some ((.func 33 [] [v2, v0]), h271)) h271 fun v272 h273 =>
guardS v270 true (bindS (dynE ih v272 [] h273) fun v274 h275 =>
some (v274, h275)) h273 fun v276 h277 =>
optS (pickV v270 v276 (.bool false)) fun v278 =>
some (v278, h277)) (
intS .eql v164 (.int .u8 (.ofNat 7)) fun v279 =>
ifS v279 (
loadN 2 v14 h161 fun v280 =>
loadN 2 v12 h161 fun v281 =>
loadN 2 v16 h161 fun v282 =>
bindS (dynE ih (.func 31 [] [v2]) [v280, v281, v282] h161) fun v283 h284 =>
guardS v283 true (some ((.func 33 [] [v2, v0]), h284)) h284 fun v285 h286 =>
guardS v283 true (bindS (dynE ih v285 [] h286) fun v287 h288 =>
some (v287, h288)) h286 fun v289 h290 =>
optS (pickV v283 v289 (.bool false)) fun v291 =>
some (v291, h290)) (
intS .eql v164 (.int .u8 (.ofNat 8)) fun v292 =>
ifS v292 (
bindS (bldArr h161 [(0, (.int .i64 (.ofNat 2))), (1, (.int .i64 (.ofNat 200)))] (.agg [(.int .i64 (.ofNat 0)), (.int .i64 (.ofNat 0))]) 1) fun v293 h294 =>
loadN 2 v12 h294 fun v295 =>
loadN 2 v12 h294 fun v296 =>
bindS (dynE ih (.func 31 [] [v2]) [v293, v295, v296] h294) fun v297 h298 =>
guardS v297 true (some ((.func 33 [] [v2, v0]), h298)) h298 fun v299 h300 =>
guardS v297 true (bindS (dynE ih v299 [] h300) fun v301 h302 =>
some (v301, h302)) h300 fun v303 h304 =>
optS (pickV v297 v303 (.bool false)) fun v305 =>
some (v305, h304)) (
intS .eql v164 (.int .u8 (.ofNat 9)) fun v306 =>
ifS v306 (
loadN 2 v14 h161 fun v307 =>
loadN 2 v12 h161 fun v308 =>
loadN 2 v14 h161 fun v309 =>
bindS (dynE ih (.func 31 [] [v2]) [v307, v308, v309] ⟨h161.t, h161.n, h161.n⟩) fun v310 h311 =>
madeS h161.n h161.low h311 fun h312 =>
guardS v310 true (load1 v0 h312 fun v313 =>
some (v313, h312)) h312 fun v314 _ =>
guardS v310 true (addrS 3 v2 fun v315 =>
some (v315, h312)) h312 fun v316 _ =>
guardS v310 true (load1 v316 h312 fun v317 =>
some (v317, h312)) h312 fun v318 _ =>
guardS v310 true (idxS 1 v318 (.int .i64 (.ofNat 0)) fun v319 =>
some (v319, h312)) h312 fun v320 _ =>
guardS v310 true (load1 v320 h312 fun v321 =>
some (v321, h312)) h312 fun v322 _ =>
guardS v310 true (bindS (ih 72 [v314, v322] h312) fun v323 h324 =>
some (v323, h324)) h312 fun v325 h326 =>
guardS v310 true (intS .eql v325 (.int .u8 (.ofNat 7)) fun v327 =>
some (v327, h326)) h326 fun v328 h329 =>
optS (pickV v310 v328 (.bool false)) fun v330 =>
some (v330, h329)) (
intS .eql v164 (.int .u8 (.ofNat 10)) fun v331 =>
ifS v331 (
loadN 2 v12 h161 fun v332 =>
loadN 2 v12 h161 fun v333 =>
loadN 2 v18 h161 fun v334 =>
bindS (dynE ih (.func 31 [] [v2]) [v332, v333, v334] h161) fun v335 h336 =>
guardS v335 true (addrS 4 v2 fun v337 =>
some (v337, h336)) h336 fun v338 h339 =>
guardS v335 true (load1 v338 h339 fun v340 =>
some (v340, h339)) h339 fun v341 h342 =>
guardS v335 true (intS .eql v341 (.int .i64 (.negSucc 0)) fun v343 =>
some (v343, h342)) h342 fun v344 h345 =>
optS (pickV v335 v344 (.bool false)) fun v346 =>
some (v346, h345)) (
intS .eql v164 (.int .u8 (.ofNat 11)) fun v347 =>
ifS v347 (
loadN 2 v12 h161 fun v348 =>
loadN 2 v12 h161 fun v349 =>
loadN 2 v12 h161 fun v350 =>
bindS (dynE ih (.func 31 [] [v2]) [v348, v349, v350] h161) fun v351 h352 =>
some (v351, h352)) (
some ((.bool false), h161)))))))))))))
noncomputable def G42 : Sh := fun ih vs h => consE (fun a0 => consE (fun a1 => nilE (B42 ih a0 a1 h))) vs
noncomputable def B38 (ih : Nat → List V → Hp → VH) (a0 a1 a2 : V) (h : Hp) : VH :=
lenSl a1 fun v0 =>
ih 21 [a0, a2, a1, v0, (.int .i64 (.ofNat 0))] h
noncomputable def G38 : Sh := fun ih vs h => consE (fun a0 => consE (fun a1 => consE (fun a2 => nilE (B38 ih a0 a1 a2 h)))) vs
noncomputable def B21 (ih : Nat → List V → Hp → VH) (a0 a2 a9 a10 a11 : V) (h : Hp) : VH :=
intS .lss a11 a10 fun v1 =>
ifS v1 (
idxS 1 a9 a11 fun v2 =>
load1 v2 h fun v3 =>
bindS (ih 30 [v3, a2] h) fun v4 h5 =>
notS v4 fun v6 =>
ifS v6 (
some ((.bool false), h5)) (
nilS a0 fun v7 =>
addrS 10 v7 fun v8 =>
load1 v8 h5 fun v9 =>
idxS 1 v9 v3 fun v10 =>
load1 v10 h5 fun v11 =>
intS .add v11 (.int .i64 (.ofNat 1)) fun v12 =>
idxS 1 v9 v3 fun v13 =>
storeC v13 v12 h5 fun h14 =>
intS .add a11 (.int .i64 (.ofNat 1)) fun v15 =>
ih 21 [a0, a2, a9, a10, v15] h14)) (
some ((.bool true), h))
noncomputable def G21 : Sh := fun ih vs h => consE (fun a0 => consE (fun a2 => consE (fun a9 => consE (fun a10 => consE (fun a11 => nilE (B21 ih a0 a2 a9 a10 a11 h)))))) vs
noncomputable def B40 (ih : Nat → List V → Hp → VH) (a0 a1 : V) (h : Hp) : VH :=
newS 55 (vcells a0) h fun v0 h1 =>
newS 41 (vcells a1) h1 fun v2 h3 =>
addrS 2 v2 fun v4 =>
load1 v4 h3 fun v5 =>
lenSl v5 fun v6 =>
newS 3 [(.int .i64 (.ofNat 0))] h3 fun v7 h8 =>
storeC v7 v6 h8 fun h9 =>
addrS 0 v2 fun v10 =>
load1 v10 h9 fun v11 =>
intS .eql v11 (.int .u8 (.ofNat 1)) fun v12 =>
ifS v12 (
ih 23 [v0, v2, v7, (.func 26 [] [v7, v2, v0]), v11, v12] h9) (
intS .eql v11 (.int .u8 (.ofNat 2)) fun v13 =>
ifS v13 (
ih 23 [v0, v2, v7, (.func 26 [] [v7, v2, v0]), v11, v13] h9) (
intS .eql v11 (.int .u8 (.ofNat 3)) fun v14 =>
ih 23 [v0, v2, v7, (.func 26 [] [v7, v2, v0]), v11, v14] h9))
noncomputable def G40 : Sh := fun ih vs h => consE (fun a0 => consE (fun a1 => nilE (B40 ih a0 a1 h))) vs
noncomputable def B23 (ih : Nat → List V → Hp → VH) (a2 a3 a5 a6 a12 a13 : V) (h : Hp) : VH :=
ifS a13 (
addrS 1 a3 fun v15 =>
load1 v15 h fun v16 =>
intS .eql v16 (.int .i64 (.ofNat 0)) fun v17 =>
guardS v17 true (load1 a5 h fun v18 =>
some (v18, h)) h fun v19 h20 =>
guardS v17 true (intS .eql v19 (.int .i64 (.ofNat 0)) fun v21 =>
some (v21, h20)) h20 fun v22 h23 =>
optS (pickV v17 v22 (.bool false)) fun v24 =>
some (v24, h23)) (
intS .eql a12 (.int .u8 (.ofNat 6)) fun v25 =>
ifS v25 (
addrS 1 a3 fun v26 =>
load1 v26 h fun v27 =>
intS .eql v27 (.int .i64 (.ofNat 0)) fun v28 =>
guardS v28 true (load1 a5 h fun v29 =>
some (v29, h)) h fun v30 h31 =>
guardS v28 true (intS .eql v30 (.int .i64 (.ofNat 0)) fun v32 =>
some (v32, h31)) h31 fun v33 h34 =>
optS (pickV v28 v33 (.bool false)) fun v35 =>
guardS v35 true (load1 a2 h34 fun v36 =>
some (v36, h34)) h34 fun v37 h38 =>
guardS v35 true (nilS v37 fun v39 =>
some (v39, h38)) h38 fun v40 h41 =>
guardS v35 true (addrS 2 v40 fun v42 =>
some (v42, h41)) h41 fun v43 h44 =>
guardS v35 true (addrS 1 v43 fun v45 =>
some (v45, h44)) h44 fun v46 h47 =>
guardS v35 true (load1 v46 h47 fun v48 =>
some (v48, h47)) h47 fun v49 h50 =>
optS (pickV v35 v49 (.bool false)) fun v51 =>
some (v51, h50)) (
intS .eql a12 (.int .u8 (.ofNat 4)) fun v52 =>
ifS v52 (
load1 a5 h fun v53 =>
intS .eql v53 (.int .i64 (.ofNat 0)) fun v54 =>
some (v54, h)) (
intS .eql a12 (.int .u8 (.ofNat 5)) fun v55 =>
ifS v55 (
ih 25 [a2, a3, a5, a6, a12, v55] h) (
intS .eql a12 (.int .u8 (.ofNat 10)) fun v56 =>
ih 25 [a2, a3, a5, a6, a12, v56] h))))
noncomputable def G23 : Sh := fun ih vs h => consE (fun a2 => consE (fun a3 => consE (fun a5 => consE (fun a6 => consE (fun a12 => consE (fun a13 => nilE (B23 ih a2 a3 a5 a6 a12 a13 h))))))) vs
noncomputable def B25 (ih : Nat → List V → Hp → VH) (a2 a3 a5 a6 a12 a44 : V) (h : Hp) : VH :=
ifS a44 (
load1 a5 h fun v57 =>
intS .eql v57 (.int .i64 (.ofNat 0)) fun v58 =>
guardS v58 true (addrS 1 a3 fun v59 =>
some (v59, h)) h fun v60 _ =>
guardS v58 true (load1 v60 h fun v61 =>
some (v61, h)) h fun v62 _ =>
guardS v58 true (load1 a2 h fun v63 =>
some (v63, h)) h fun v64 _ =>
guardS v58 true (nilS v64 fun v65 =>
some (v65, h)) h fun v66 _ =>
guardS v58 true (addrS 0 v66 fun v67 =>
some (v67, h)) h fun v68 _ =>
guardS v58 true (addrS 0 v68 fun v69 =>
some (v69, h)) h fun v70 _ =>
guardS v58 true (load1 v70 h fun v71 =>
some (v71, h)) h fun v72 _ =>
guardS v58 true (lenSl v72 fun v73 =>
some (v73, h)) h fun v74 _ =>
guardS v58 true (bindS (ih 56 [v62, v74] h) fun v75 h76 =>
some (v75, h76)) h fun v77 h78 =>
optS (pickV v58 v77 (.bool false)) fun v79 =>
some (v79, h78)) (
intS .eql a12 (.int .u8 (.ofNat 7)) fun v80 =>
ifS v80 (
load1 a5 h fun v81 =>
intS .eql v81 (.int .i64 (.ofNat 0)) fun v82 =>
guardS v82 true (addrS 1 a3 fun v83 =>
some (v83, h)) h fun v84 _ =>
guardS v82 true (load1 v84 h fun v85 =>
some (v85, h)) h fun v86 _ =>
guardS v82 true (load1 a2 h fun v87 =>
some (v87, h)) h fun v88 _ =>
guardS v82 true (nilS v88 fun v89 =>
some (v89, h)) h fun v90 _ =>
guardS v82 true (addrS 0 v90 fun v91 =>
some (v91, h)) h fun v92 _ =>
guardS v82 true (addrS 1 v92 fun v93 =>
some (v93, h)) h fun v94 _ =>
guardS v82 true (load1 v94 h fun v95 =>
some (v95, h)) h fun v96 _ =>
guardS v82 true (lenSl v96 fun v97 =>
some (v97, h)) h fun v98 _ =>
guardS v82 true (bindS (ih 56 [v86, v98] h) fun v99 h100 =>
some (v99, h100)) h fun v101 h102 =>
optS (pickV v82 v101 (.bool false)) fun v103 =>
some (v103, h102)) (
intS .eql a12 (.int .u8 (.ofNat 8)) fun v104 =>
ifS v104 (
load1 a5 h fun v105 =>
intS .eql v105 (.int .i64 (.ofNat 0)) fun v106 =>
guardS v106 true (addrS 1 a3 fun v107 =>
some (v107, h)) h fun v108 _ =>
guardS v106 true (load1 v108 h fun v109 =>
some (v109, h)) h fun v110 _ =>
guardS v106 true (load1 a2 h fun v111 =>
some (v111, h)) h fun v112 _ =>
guardS v106 true (nilS v112 fun v113 =>
some (v113, h)) h fun v114 _ =>
guardS v106 true (addrS 2 v114 fun v115 =>
some (v115, h)) h fun v116 _ =>
guardS v106 true (addrS 2 v116 fun v117 =>
some (v117, h)) h fun v118 _ =>
guardS v106 true (load1 v118 h fun v119 =>
some (v119, h)) h fun v120 _ =>
guardS v106 true (bindS (ih 56 [v110, v120] h) fun v121 h122 =>
some (v121, h122)) h fun v123 h124 =>
optS (pickV v106 v123 (.bool false)) fun v125 =>
some (v125, h124)) (
intS .eql a12 (.int .u8 (.ofNat 9)) fun v126 =>
ifS v126 (
load1 a5 h fun v127 =>
intS .eql v127 (.int .i64 (.ofNat 0)) fun v128 =>
guardS v128 true (addrS 1 a3 fun v129 =>
some (v129, h)) h fun v130 _ =>
guardS v128 true (load1 v130 h fun v131 =>
some (v131, h)) h fun v132 _ =>
guardS v128 true (load1 a2 h fun v133 =>
some (v133, h)) h fun v134 _ =>
guardS v128 true (nilS v134 fun v135 =>
some (v135, h)) h fun v136 _ =>
guardS v128 true (addrS 2 v136 fun v137 =>
some (v137, h)) h fun v138 _ =>
guardS v128 true (addrS 4 v138 fun v139 =>
some (v139, h)) h fun v140 _ =>
guardS v128 true (load1 v140 h fun v141 =>
some (v141, h)) h fun v142 _ =>
guardS v128 true (lenSl v142 fun v143 =>
some (v143, h)) h fun v144 _ =>
guardS v128 true (bindS (ih 56 [v132, v144] h) fun v145 h146 =>
some (v145, h146)) h fun v147 h148 =>
optS (pickV v128 v147 (.bool false)) fun v149 =>
some (v149, h148)) (
intS .eql a12 (.int .u8 (.ofNat 11)) fun v150 =>
ifS v150 (
ih 27 [a2, a3, a5, a6, a12, v150] h) (
intS .eql a12 (.int .u8 (.ofNat 15)) fun v151 =>
ifS v151 (
ih 27 [a2, a3, a5, a6, a12, v151] h) (
intS .eql a12 (.int .u8 (.ofNat 16)) fun v152 =>
ifS v152 (
ih 27 [a2, a3, a5, a6, a12, v152] h) (
intS .eql a12 (.int .u8 (.ofNat 20)) fun v153 =>
ih 27 [a2, a3, a5, a6, a12, v153] h)))))))
noncomputable def G25 : Sh := fun ih vs h => consE (fun a2 => consE (fun a3 => consE (fun a5 => consE (fun a6 => consE (fun a12 => consE (fun a44 => nilE (B25 ih a2 a3 a5 a6 a12 a44 h))))))) vs
noncomputable def B27 (ih : Nat → List V → Hp → VH) (a2 a3 a5 a6 a12 a104 : V) (h : Hp) : VH :=
ifS a104 (
addrS 1 a3 fun v154 =>
load1 v154 h fun v155 =>
intS .eql v155 (.int .i64 (.ofNat 0)) fun v156 =>
guardS v156 true (some (a6, h)) h fun v157 h158 =>
guardS v156 true (bindS (dynE ih v157 [(.int .i64 (.ofNat 2)), (.int .i64 (.ofNat 2))] h158) fun v159 h160 =>
some (v159, h160)) h158 fun v161 h162 =>
optS (pickV v156 v161 (.bool false)) fun v163 =>
some (v163, h162)) (
intS .eql a12 (.int .u8 (.ofNat 12)) fun v164 =>
ifS v164 (
addrS 1 a3 fun v165 =>
load1 v165 h fun v166 =>
intS .eql v166 (.int .i64 (.ofNat 0)) fun v167 =>
guardS v167 true (some (a6, h)) h fun v168 h169 =>
guardS v167 true (bindS (dynE ih v168 [(.int .i64 (.ofNat 1)), (.int .i64 (.ofNat 201))] h169) fun v170 h171 =>
some (v170, h171)) h169 fun v172 h173 =>
optS (pickV v167 v172 (.bool false)) fun v174 =>
some (v174, h173)) (
intS .eql a12 (.int .u8 (.ofNat 13)) fun v175 =>
ifS v175 (
addrS 1 a3 fun v176 =>
load1 v176 h fun v177 =>
load1 a2 h fun v178 =>
nilS v178 fun v179 =>
addrS 0 v179 fun v180 =>
addrS 0 v180 fun v181 =>
load1 v181 h fun v182 =>
lenSl v182 fun v183 =>
bindS (ih 56 [v177, v183] h) fun v184 h185 =>
guardS v184 true (some (a6, h185)) h185 fun v186 h187 =>
guardS v184 true (bindS (dynE ih v186 [(.int .i64 (.ofNat 1)), (.int .i64 (.ofNat 201))] h187) fun v188 h189 =>
some (v188, h189)) h187 fun v190 h191 =>
optS (pickV v184 v190 (.bool false)) fun v192 =>
some (v192, h191)) (
intS .eql a12 (.int .u8 (.ofNat 14)) fun v193 =>
ifS v193 (
addrS 1 a3 fun v194 =>
load1 v194 h fun v195 =>
intS .geq v195 (.int .i64 (.ofNat 1)) fun v196 =>
guardS v196 true (addrS 1 a3 fun v197 =>
some (v197, h)) h fun v198 h199 =>
guardS v196 true (load1 v198 h199 fun v200 =>
some (v200, h199)) h199 fun v201 h202 =>
guardS v196 true (intS .leq v201 (.int .i64 (.ofNat 17)) fun v203 =>
some (v203, h202)) h202 fun v204 h205 =>
optS (pickV v196 v204 (.bool false)) fun v206 =>
guardS v206 true (some (a6, h205)) h205 fun v207 h208 =>
guardS v206 true (bindS (dynE ih v207 [(.int .i64 (.ofNat 2)), (.int .i64 (.ofNat 2))] h208) fun v209 h210 =>
some (v209, h210)) h208 fun v211 h212 =>
optS (pickV v206 v211 (.bool false)) fun v213 =>
some (v213, h212)) (
intS .eql a12 (.int .u8 (.ofNat 17)) fun v214 =>
ifS v214 (
addrS 1 a3 fun v215 =>
load1 v215 h fun v216 =>
intS .geq v216 (.int .i64 (.ofNat 18)) fun v217 =>
guardS v217 true (addrS 1 a3 fun v218 =>
some (v218, h)) h fun v219 h220 =>
guardS v217 true (load1 v219 h220 fun v221 =>
some (v221, h220)) h220 fun v222 h223 =>
guardS v217 true (intS .leq v222 (.int .i64 (.ofNat 21)) fun v224 =>
some (v224, h223)) h223 fun v225 h226 =>
optS (pickV v217 v225 (.bool false)) fun v227 =>
guardS v227 true (some (a6, h226)) h226 fun v228 h229 =>
guardS v227 true (bindS (dynE ih v228 [(.int .i64 (.ofNat 1)), (.int .i64 (.ofNat 1))] h229) fun v230 h231 =>
some (v230, h231)) h229 fun v232 h233 =>
optS (pickV v227 v232 (.bool false)) fun v234 =>
some (v234, h233)) (
intS .eql a12 (.int .u8 (.ofNat 18)) fun v235 =>
ifS v235 (
addrS 1 a3 fun v236 =>
load1 v236 h fun v237 =>
intS .eql v237 (.int .i64 (.ofNat 0)) fun v238 =>
guardS v238 true (load1 a5 h fun v239 =>
some (v239, h)) h fun v240 h241 =>
guardS v238 true (intS .leq v240 (.int .i64 (.ofNat 4096)) fun v242 =>
some (v242, h241)) h241 fun v243 h244 =>
optS (pickV v238 v243 (.bool false)) fun v245 =>
guardS v245 true (addrS 2 a3 fun v246 =>
some (v246, h244)) h244 fun v247 h248 =>
guardS v245 true (load1 v247 h248 fun v249 =>
some (v249, h248)) h248 fun v250 h251 =>
guardS v245 true (load1 a2 h251 fun v252 =>
some (v252, h251)) h251 fun v253 h254 =>
guardS v245 true (some ((.func 29 [v253] []), h254)) h254 fun v255 h256 =>
guardS v245 true (bindS (ih 44 [v250, v255] h256) fun v257 h258 =>
some (v257, h258)) h256 fun v259 h260 =>
optS (pickV v245 v259 (.bool false)) fun v261 =>
some (v261, h260)) (
intS .eql a12 (.int .u8 (.ofNat 19)) fun v262 =>
ifS v262 (
ih 29 [a3, a6, v262] h) (
intS .eql a12 (.int .u8 (.ofNat 21)) fun v263 =>
ih 29 [a3, a6, v263] h)))))))
noncomputable def G27 : Sh := fun ih vs h => consE (fun a2 => consE (fun a3 => consE (fun a5 => consE (fun a6 => consE (fun a12 => consE (fun a104 => nilE (B27 ih a2 a3 a5 a6 a12 a104 h))))))) vs
noncomputable def B29 (ih : Nat → List V → Hp → VH) (a3 a6 a184 : V) (h : Hp) : VH :=
ifS a184 (
addrS 1 a3 fun v264 =>
load1 v264 h fun v265 =>
intS .eql v265 (.int .i64 (.ofNat 0)) fun v266 =>
guardS v266 true (some (a6, h)) h fun v267 h268 =>
guardS v266 true (bindS (dynE ih v267 [(.int .i64 (.ofNat 1)), (.int .i64 (.ofNat 1))] h268) fun v269 h270 =>
some (v269, h270)) h268 fun v271 h272 =>
optS (pickV v266 v271 (.bool false)) fun v273 =>
some (v273, h272)) (
some ((.bool false), h))
noncomputable def G29 : Sh := fun ih vs h => consE (fun a3 => consE (fun a6 => consE (fun a184 => nilE (B29 ih a3 a6 a184 h)))) vs
noncomputable def B46 (ih : Nat → List V → Hp → VH) (a0 : V) (h : Hp) : VH :=
intS .eql a0 (.int .i64 (.ofNat 1)) fun v0 =>
some (v0, h)
noncomputable def G46 : Sh := fun ih vs h => consE (fun a0 => nilE (B46 ih a0 h)) vs
noncomputable def B34 (ih : Nat → List V → Hp → VH) (a0 a1 : V) (h : Hp) : VH :=
newS 59 (vcells a1) h fun v0 h1 =>
bindS (ih 48 [a0, (.func 25 [] [v0])] h1) fun v2 h3 =>
notS v2 fun v4 =>
some (v4, h3)
noncomputable def G34 : Sh := fun ih vs h => consE (fun a0 => consE (fun a1 => nilE (B34 ih a0 a1 h))) vs
noncomputable def B36 (ih : Nat → List V → Hp → VH) (a0 a1 : V) (h : Hp) : VH :=
newS 37 (vcells a0) h fun v0 h1 =>
addrS 0 v0 fun v2 =>
load1 v2 h1 fun v3 =>
ifS v3 (
addrS 1 v0 fun v4 =>
load1 v4 h1 fun v5 =>
addrS 2 a1 fun v6 =>
load1 v6 h1 fun v7 =>
bindS (ih 30 [v5, v7] h1) fun v8 h9 =>
guardS v8 true (addrS 3 a1 fun v10 =>
some (v10, h9)) h9 fun v11 h12 =>
guardS v8 true (load1 v11 h12 fun v13 =>
some (v13, h12)) h12 fun v14 h15 =>
guardS v8 true (addrS 1 v0 fun v16 =>
some (v16, h15)) h15 fun v17 h18 =>
guardS v8 true (load1 v17 h18 fun v19 =>
some (v19, h18)) h18 fun v20 h21 =>
guardS v8 true (idxS 1 v14 v20 fun v22 =>
some (v22, h21)) h21 fun v23 h24 =>
guardS v8 true (load1 v23 h24 fun v25 =>
some (v25, h24)) h24 fun v26 h27 =>
optS (pickV v8 v26 (.bool false)) fun v28 =>
some (v28, h27)) (
addrS 1 v0 fun v29 =>
load1 v29 h1 fun v30 =>
addrS 4 a1 fun v31 =>
load1 v31 h1 fun v32 =>
lenSl v32 fun v33 =>
bindS (ih 30 [v30, v33] h1) fun v34 h35 =>
some (v34, h35))
noncomputable def G36 : Sh := fun ih vs h => consE (fun a0 => consE (fun a1 => nilE (B36 ih a0 a1 h))) vs
noncomputable def B74 (ih : Nat → List V → Hp → VH) (a0 a1 : V) (h : Hp) : VH :=
bindS (ih 82 [a0, a1] h) fun v0 h1 =>
intS .geq v0 (.int .i64 (.ofNat 0)) fun v2 =>
some (v2, h1)
noncomputable def G74 : Sh := fun ih vs h => consE (fun a0 => consE (fun a1 => nilE (B74 ih a0 a1 h))) vs
noncomputable def B76 (ih : Nat → List V → Hp → VH) (a0 a1 : V) (h : Hp) : VH :=
load1 a1 h fun v0 =>
bindS (dynE ih v0 [a0] h) fun v1 h2 =>
notS v1 fun v3 =>
some (v3, h2)
noncomputable def G76 : Sh := fun ih vs h => consE (fun a0 => consE (fun a1 => nilE (B76 ih a0 a1 h))) vs
noncomputable def B72 (ih : Nat → List V → Hp → VH) (a0 a1 : V) (h : Hp) : VH :=
nilS a0 fun v0 =>
addrS 2 v0 fun v1 =>
addrS 6 v1 fun v2 =>
load1 v2 h fun v3 =>
idxS 3 v3 a1 fun v4 =>
addrS 0 v4 fun v5 =>
load1 v5 h fun v6 =>
some (v6, h)
noncomputable def G72 : Sh := fun ih vs h => consE (fun a0 => consE (fun a1 => nilE (B72 ih a0 a1 h))) vs
noncomputable def B70 (ih : Nat → List V → Hp → VH) (a0 a1 : V) (h : Hp) : VH :=
bindS (bldSl h [(0, (.int .u8 (.ofNat 8))), (1, (.int .u8 (.ofNat 9))), (2, (.int .u8 (.ofNat 10))), (3, (.int .u8 (.ofNat 11)))] 38 4 1 (.int .u8 (.ofNat 0))) fun v0 h1 =>
bindS (ih 72 [a0, a1] h1) fun v2 h3 =>
bindS (ih 80 [v0, v2] h3) fun v4 h5 =>
some (v4, h5)
noncomputable def G70 : Sh := fun ih vs h => consE (fun a0 => consE (fun a1 => nilE (B70 ih a0 a1 h))) vs
noncomputable def B54 (ih : Nat → List V → Hp → VH) (a0 a1 : V) (h : Hp) : VH :=
bindS (ih 72 [a0, a1] h) fun v0 h1 =>
intS .neq v0 (.int .u8 (.ofNat 19)) fun v2 =>
guardS v2 true (some (a0, h1)) h1 fun v3 h4 =>
guardS v2 true (some (a1, h4)) h4 fun v5 h6 =>
guardS v2 true (bindS (ih 72 [v3, v5] h6) fun v7 h8 =>
some (v7, h8)) h6 fun v9 h10 =>
guardS v2 true (intS .neq v9 (.int .u8 (.ofNat 20)) fun v11 =>
some (v11, h10)) h10 fun v12 h13 =>
optS (pickV v2 v12 (.bool false)) fun v14 =>
some (v14, h13)
noncomputable def G54 : Sh := fun ih vs h => consE (fun a0 => consE (fun a1 => nilE (B54 ih a0 a1 h))) vs
noncomputable def B68 (ih : Nat → List V → Hp → VH) (a0 a1 : V) (h : Hp) : VH :=
load1 a1 h fun v0 =>
nilS v0 fun v1 =>
addrS 2 v1 fun v2 =>
addrS 2 v2 fun v3 =>
load1 v3 h fun v4 =>
bindS (ih 30 [a0, v4] h) fun v5 h6 =>
some (v5, h6)
noncomputable def G68 : Sh := fun ih vs h => consE (fun a0 => consE (fun a1 => nilE (B68 ih a0 a1 h))) vs
noncomputable def B66 (ih : Nat → List V → Hp → VH) (a0 a1 : V) (h : Hp) : VH :=
addrS 1 a0 fun v0 =>
load1 v0 h fun v1 =>
idxS 1 v1 (.int .i64 (.ofNat 0)) fun v2 =>
load1 v2 h fun v3 =>
intS .add v3 (.int .i64 (.ofNat 2)) fun v4 =>
load1 a1 h fun v5 =>
nilS v5 fun v6 =>
addrS 2 v6 fun v7 =>
addrS 2 v7 fun v8 =>
load1 v8 h fun v9 =>
bindS (ih 30 [v4, v9] h) fun v10 h11 =>
some (v10, h11)
noncomputable def G66 : Sh := fun ih vs h => consE (fun a0 => consE (fun a1 => nilE (B66 ih a0 a1 h))) vs
noncomputable def B62 (ih : Nat → List V → Hp → VH) (a0 a1 a2 a3 : V) (h : Hp) : VH :=
newS 66 (vcells a0) h fun v0 h1 =>
newS 66 (vcells a1) h1 fun v2 h3 =>
newS 66 (vcells a2) h3 fun v4 h5 =>
addrS 1 a3 fun v6 =>
load1 v6 h5 fun v7 =>
lenSl v7 fun v8 =>
loadN 2 v0 h5 fun v9 =>
bindS (dynE ih (.func 32 [] []) [v8, v9] h5) fun v10 h11 =>
guardS v10 true (some ((.func 32 [] []), h11)) h11 fun v12 h13 =>
guardS v10 true (addrS 2 a3 fun v14 =>
some (v14, h13)) h13 fun v15 h16 =>
guardS v10 true (load1 v15 h16 fun v17 =>
some (v17, h16)) h16 fun v18 h19 =>
guardS v10 true (lenSl v18 fun v20 =>
some (v20, h19)) h19 fun v21 h22 =>
guardS v10 true (loadN 2 v2 h22 fun v23 =>
some (v23, h22)) h22 fun v24 h25 =>
guardS v10 true (bindS (dynE ih v12 [v21, v24] h25) fun v26 h27 =>
some (v26, h27)) h25 fun v28 h29 =>
optS (pickV v10 v28 (.bool false)) fun v30 =>
guardS v30 true (some ((.func 32 [] []), h29)) h29 fun v31 h32 =>
guardS v30 true (addrS 3 a3 fun v33 =>
some (v33, h32)) h32 fun v34 h35 =>
guardS v30 true (load1 v34 h35 fun v36 =>
some (v36, h35)) h35 fun v37 h38 =>
guardS v30 true (lenSl v37 fun v39 =>
some (v39, h38)) h38 fun v40 h41 =>
guardS v30 true (loadN 2 v4 h41 fun v42 =>
some (v42, h41)) h41 fun v43 h44 =>
guardS v30 true (bindS (dynE ih v31 [v40, v43] h44) fun v45 h46 =>
some (v45, h46)) h44 fun v47 h48 =>
optS (pickV v30 v47 (.bool false)) fun v49 =>
some (v49, h48)
noncomputable def G62 : Sh := fun ih vs h => consE (fun a0 => consE (fun a1 => consE (fun a2 => consE (fun a3 => nilE (B62 ih a0 a1 a2 a3 h))))) vs
noncomputable def B60 (ih : Nat → List V → Hp → VH) (a0 a1 : V) (h : Hp) : VH :=
intS .eql a0 (.int .i64 (.negSucc 0)) fun v0 =>
guardS v0 false (some (a0, h)) h fun v1 h2 =>
guardS v0 false (load1 a1 h2 fun v3 =>
some (v3, h2)) h2 fun v4 h5 =>
guardS v0 false (nilS v4 fun v6 =>
some (v6, h5)) h5 fun v7 h8 =>
guardS v0 false (addrS 2 v7 fun v9 =>
some (v9, h8)) h8 fun v10 h11 =>
guardS v0 false (addrS 5 v10 fun v12 =>
some (v12, h11)) h11 fun v13 h14 =>
guardS v0 false (load1 v13 h14 fun v15 =>
some (v15, h14)) h14 fun v16 h17 =>
guardS v0 false (lenSl v16 fun v18 =>
some (v18, h17)) h17 fun v19 h20 =>
guardS v0 false (bindS (ih 30 [v1, v19] h20) fun v21 h22 =>
some (v21, h22)) h20 fun v23 h24 =>
optS (pickV v0 (.bool true) v23) fun v25 =>
some (v25, h24)
noncomputable def G60 : Sh := fun ih vs h => consE (fun a0 => consE (fun a1 => nilE (B60 ih a0 a1 h))) vs
noncomputable def B58 (ih : Nat → List V → Hp → VH) (a0 a1 : V) (h : Hp) : VH :=
bindS (ih 54 [a0, a1] h) fun v0 h1 =>
notS v0 fun v2 =>
some (v2, h1)
noncomputable def G58 : Sh := fun ih vs h => consE (fun a0 => consE (fun a1 => nilE (B58 ih a0 a1 h))) vs
noncomputable def B56 (ih : Nat → List V → Hp → VH) (a0 a1 : V) (h : Hp) : VH :=
intS .geq a0 (.int .i64 (.ofNat 0)) fun v0 =>
guardS v0 true (some (a0, h)) h fun v1 h2 =>
guardS v0 true (some (a1, h2)) h2 fun v3 h4 =>
guardS v0 true (intS .lss v1 v3 fun v5 =>
some (v5, h4)) h4 fun v6 h7 =>
optS (pickV v0 v6 (.bool false)) fun v8 =>
some (v8, h7)
noncomputable def G56 : Sh := fun ih vs h => consE (fun a0 => consE (fun a1 => nilE (B56 ih a0 a1 h))) vs
noncomputable def B52 (ih : Nat → List V → Hp → VH) (a0 a1 a2 a3 a4 : V) (h : Hp) : VH :=
load1 a2 h fun v0 =>
intS .geq v0 a0 fun v1 =>
guardS v1 true (load1 a2 h fun v2 =>
some (v2, h)) h fun v3 h4 =>
guardS v1 true (some (a1, h4)) h4 fun v5 h6 =>
guardS v1 true (intS .leq v3 v5 fun v7 =>
some (v7, h6)) h6 fun v8 h9 =>
optS (pickV v1 v8 (.bool false)) fun v10 =>
guardS v10 true (addrS 2 a3 fun v11 =>
some (v11, h9)) h9 fun v12 h13 =>
guardS v10 true (load1 v12 h13 fun v14 =>
some (v14, h13)) h13 fun v15 h16 =>
guardS v10 true (load1 a4 h16 fun v17 =>
some (v17, h16)) h16 fun v18 h19 =>
guardS v10 true (some ((.func 27 [v18] []), h19)) h19 fun v20 h21 =>
guardS v10 true (bindS (ih 44 [v15, v20] h21) fun v22 h23 =>
some (v22, h23)) h21 fun v24 h25 =>
optS (pickV v10 v24 (.bool false)) fun v26 =>
some (v26, h25)
noncomputable def G52 : Sh := fun ih vs h => consE (fun a0 => consE (fun a1 => consE (fun a2 => consE (fun a3 => consE (fun a4 => nilE (B52 ih a0 a1 a2 a3 a4 h)))))) vs
noncomputable def B48 (ih : Nat → List V → Hp → VH) (a0 a1 : V) (h : Hp) : VH :=
bindS (ih 78 [a0, a1] h) fun v0 h1 =>
intS .geq v0 (.int .i64 (.ofNat 0)) fun v2 =>
some (v2, h1)
noncomputable def G48 : Sh := fun ih vs h => consE (fun a0 => consE (fun a1 => nilE (B48 ih a0 a1 h))) vs
noncomputable def B50 (ih : Nat → List V → Hp → VH) (a0 a1 : V) (h : Hp) : VH :=
newS 37 (vcells a0) h fun v0 h1 =>
load1 a1 h1 fun v2 =>
loadN 2 v0 h1 fun v3 =>
bindS (dynE ih v2 [v3] h1) fun v4 h5 =>
notS v4 fun v6 =>
some (v6, h5)
noncomputable def G50 : Sh := fun ih vs h => consE (fun a0 => consE (fun a1 => nilE (B50 ih a0 a1 h))) vs
noncomputable def B82 (ih : Nat → List V → Hp → VH) (a0 a1 : V) (h : Hp) : VH :=
lenSl a0 fun v0 =>
ih 31 [a0, a1, v0, (.int .i64 (.ofNat 0))] h
noncomputable def G82 : Sh := fun ih vs h => consE (fun a0 => consE (fun a1 => nilE (B82 ih a0 a1 h))) vs
noncomputable def B31 (ih : Nat → List V → Hp → VH) (a0 a1 a7 a8 : V) (h : Hp) : VH :=
intS .lss a8 a7 fun v1 =>
ifS v1 (
idxS 1 a0 a8 fun v2 =>
load1 v2 h fun v3 =>
bindS (dynE ih a1 [v3] h) fun v4 h5 =>
ifS v4 (
some (a8, h5)) (
intS .add a8 (.int .i64 (.ofNat 1)) fun v6 =>
ih 31 [a0, a1, a7, v6] h5)) (
some ((.int .i64 (.negSucc 0)), h))
noncomputable def G31 : Sh := fun ih vs h => consE (fun a0 => consE (fun a1 => consE (fun a7 => consE (fun a8 => nilE (B31 ih a0 a1 a7 a8 h))))) vs
noncomputable def B80 (ih : Nat → List V → Hp → VH) (a0 a1 : V) (h : Hp) : VH :=
bindS (ih 84 [a0, a1] h) fun v0 h1 =>
intS .geq v0 (.int .i64 (.ofNat 0)) fun v2 =>
some (v2, h1)
noncomputable def G80 : Sh := fun ih vs h => consE (fun a0 => consE (fun a1 => nilE (B80 ih a0 a1 h))) vs
noncomputable def B64 (ih : Nat → List V → Hp → VH) (a0 a1 : V) (h : Hp) : VH :=
newS 66 (vcells a1) h fun v0 h1 =>
idxP 1 2 v0 (.int .i64 (.ofNat 0)) fun v2 =>
load1 v2 h1 fun v3 =>
intS .geq a0 v3 fun v4 =>
guardS v4 true (some (a0, h1)) h1 fun v5 h6 =>
guardS v4 true (idxP 1 2 v0 (.int .i64 (.ofNat 1)) fun v7 =>
some (v7, h6)) h6 fun v8 h9 =>
guardS v4 true (load1 v8 h9 fun v10 =>
some (v10, h9)) h9 fun v11 h12 =>
guardS v4 true (intS .leq v5 v11 fun v13 =>
some (v13, h12)) h12 fun v14 h15 =>
optS (pickV v4 v14 (.bool false)) fun v16 =>
some (v16, h15)
noncomputable def G64 : Sh := fun ih vs h => consE (fun a0 => consE (fun a1 => nilE (B64 ih a0 a1 h))) vs
noncomputable def B78 (ih : Nat → List V → Hp → VH) (a0 a1 : V) (h : Hp) : VH :=
lenSl a0 fun v0 =>
ih 33 [a0, a1, v0, (.int .i64 (.ofNat 0))] h
noncomputable def G78 : Sh := fun ih vs h => consE (fun a0 => consE (fun a1 => nilE (B78 ih a0 a1 h))) vs
noncomputable def B33 (ih : Nat → List V → Hp → VH) (a0 a1 a7 a8 : V) (h : Hp) : VH :=
intS .lss a8 a7 fun v1 =>
ifS v1 (
idxS 2 a0 a8 fun v2 =>
loadN 2 v2 h fun v3 =>
bindS (dynE ih a1 [v3] h) fun v4 h5 =>
ifS v4 (
some (a8, h5)) (
intS .add a8 (.int .i64 (.ofNat 1)) fun v6 =>
ih 33 [a0, a1, a7, v6] h5)) (
some ((.int .i64 (.negSucc 0)), h))
noncomputable def G33 : Sh := fun ih vs h => consE (fun a0 => consE (fun a1 => consE (fun a7 => consE (fun a8 => nilE (B33 ih a0 a1 a7 a8 h))))) vs
noncomputable def B84 (ih : Nat → List V → Hp → VH) (a0 a1 : V) (h : Hp) : VH :=
lenSl a0 fun v0 =>
ih 35 [a0, a1, v0, (.int .i64 (.ofNat 0))] h
noncomputable def G84 : Sh := fun ih vs h => consE (fun a0 => consE (fun a1 => nilE (B84 ih a0 a1 h))) vs
noncomputable def B35 (ih : Nat → List V → Hp → VH) (a0 a1 a7 a8 : V) (h : Hp) : VH :=
intS .lss a8 a7 fun v1 =>
ifS v1 (
idxS 1 a0 a8 fun v2 =>
load1 v2 h fun v3 =>
intS .eql a1 v3 fun v4 =>
ifS v4 (
some (a8, h)) (
intS .add a8 (.int .i64 (.ofNat 1)) fun v5 =>
ih 35 [a0, a1, a7, v5] h)) (
some ((.int .i64 (.negSucc 0)), h))
noncomputable def G35 : Sh := fun ih vs h => consE (fun a0 => consE (fun a1 => consE (fun a7 => consE (fun a8 => nilE (B35 ih a0 a1 a7 a8 h))))) vs
noncomputable def labs : Tr Lab := ((((((((((((((((((Tr.nil.set 0 (4, 506, [2, 7, 8, 9])).set 1 (4, 4051, [2, 7, 8, 9])).set 2 (5, 250, [1, 3, 4, 32, 33, 34])).set 3 (5, 4090, [1, 8, 73, 74, 75])).set 4 (5, 8186, [1, 115, 116, 117])).set 5 (5, 2094286, [1, 8, 9, 73, 74, 75, 85, 86, 87])).set 6 (5, 33508583, [1, 8, 9, 73, 74, 75, 85, 86, 87])).set 7 (10, 122, [1, 3, 4])).set 8 (16, 250, [0, 3, 76, 77, 78])).set 9 (16, 506, [0, 3, 97, 98, 99])).set 10 (19, 26, [0, 2, 9, 10, 11])).set 11 (20, 245, [2, 3, 5, 6, 12, 13])).set 12 (20, 15743, [2, 3, 5, 6, 12, 44])).set 13 (20, 4030463, [2, 3, 5, 6, 12, 104])).set 14 (20, 16508780543, [3, 6, 184])).set 15 (41, 26, [0, 1, 7, 8])).set 16 (39, 26, [0, 1, 7, 8])).set 17 (42, 26, [0, 1, 7, 8]))
noncomputable def cuts4 : Cuts := [(506, 0, [2, 7, 8, 9]), (4051, 1, [2, 7, 8, 9])]
theorem fit4 : cutsFit labs 4 cuts4 = true := by kernel_rfl
noncomputable def cuts9 : Cuts := []
theorem fit9 : cutsFit labs 9 cuts9 = true := by kernel_rfl
noncomputable def cuts11 : Cuts := []
theorem fit11 : cutsFit labs 11 cuts11 = true := by kernel_rfl
noncomputable def cuts5 : Cuts := [(250, 2, [1, 3, 4, 32, 33, 34]), (4090, 3, [1, 8, 73, 74, 75]), (8186, 4, [1, 115, 116, 117]), (2094286, 5, [1, 8, 9, 73, 74, 75, 85, 86, 87]), (33508583, 6, [1, 8, 9, 73, 74, 75, 85, 86, 87])]
theorem fit5 : cutsFit labs 5 cuts5 = true := by kernel_rfl
noncomputable def cuts10 : Cuts := [(122, 7, [1, 3, 4])]
theorem fit10 : cutsFit labs 10 cuts10 = true := by kernel_rfl
noncomputable def cuts7 : Cuts := []
theorem fit7 : cutsFit labs 7 cuts7 = true := by kernel_rfl
noncomputable def cuts16 : Cuts := [(250, 8, [0, 3, 76, 77, 78]), (506, 9, [0, 3, 97, 98, 99])]
theorem fit16 : cutsFit labs 16 cuts16 = true := by kernel_rfl
noncomputable def cuts15 : Cuts := []
theorem fit15 : cutsFit labs 15 cuts15 = true := by kernel_rfl
noncomputable def cuts12 : Cuts := []
theorem fit12 : cutsFit labs 12 cuts12 = true := by kernel_rfl
noncomputable def cuts22 : Cuts := []
theorem fit22 : cutsFit labs 22 cuts22 = true := by kernel_rfl
noncomputable def cuts21 : Cuts := []
theorem fit21 : cutsFit labs 21 cuts21 = true := by kernel_rfl
noncomputable def cuts19 : Cuts := [(26, 10, [0, 2, 9, 10, 11])]
theorem fit19 : cutsFit labs 19 cuts19 = true := by kernel_rfl
noncomputable def cuts20 : Cuts := [(245, 11, [2, 3, 5, 6, 12, 13]), (15743, 12, [2, 3, 5, 6, 12, 44]), (4030463, 13, [2, 3, 5, 6, 12, 104]), (16508780543, 14, [3, 6, 184])]
theorem fit20 : cutsFit labs 20 cuts20 = true := by kernel_rfl
noncomputable def cuts23 : Cuts := []
theorem fit23 : cutsFit labs 23 cuts23 = true := by kernel_rfl
noncomputable def cuts17 : Cuts := []
theorem fit17 : cutsFit labs 17 cuts17 = true := by kernel_rfl
noncomputable def cuts18 : Cuts := []
theorem fit18 : cutsFit labs 18 cuts18 = true := by kernel_rfl
noncomputable def cuts37 : Cuts := []
theorem fit37 : cutsFit labs 37 cuts37 = true := by kernel_rfl
noncomputable def cuts38 : Cuts := []
theorem fit38 : cutsFit labs 38 cuts38 = true := by kernel_rfl
noncomputable def cuts36 : Cuts := []
theorem fit36 : cutsFit labs 36 cuts36 = true := by kernel_rfl
noncomputable def cuts35 : Cuts := []
theorem fit35 : cutsFit labs 35 cuts35 = true := by kernel_rfl
noncomputable def cuts27 : Cuts := []
theorem fit27 : cutsFit labs 27 cuts27 = true := by kernel_rfl
noncomputable def cuts34 : Cuts := []
theorem fit34 : cutsFit labs 34 cuts34 = true := by kernel_rfl
noncomputable def cuts33 : Cuts := []
theorem fit33 : cutsFit labs 33 cuts33 = true := by kernel_rfl
noncomputable def cuts31 : Cuts := []
theorem fit31 : cutsFit labs 31 cuts31 = true := by kernel_rfl
noncomputable def cuts30 : Cuts := []
theorem fit30 : cutsFit labs 30 cuts30 = true := by kernel_rfl
noncomputable def cuts29 : Cuts := []
theorem fit29 : cutsFit labs 29 cuts29 = true := by kernel_rfl
noncomputable def cuts28 : Cuts := []
theorem fit28 : cutsFit labs 28 cuts28 = true := by kernel_rfl
noncomputable def cuts26 : Cuts := []
theorem fit26 : cutsFit labs 26 cuts26 = true := by kernel_rfl
noncomputable def cuts24 : Cuts := []
theorem fit24 : cutsFit labs 24 cuts24 = true := by kernel_rfl
noncomputable def cuts25 : Cuts := []
theorem fit25 : cutsFit labs 25 cuts25 = true := by kernel_rfl
noncomputable def cuts41 : Cuts := [(26, 15, [0, 1, 7, 8])]
theorem fit41 : cutsFit labs 41 cuts41 = true := by kernel_rfl
noncomputable def cuts40 : Cuts := []
theorem fit40 : cutsFit labs 40 cuts40 = true := by kernel_rfl
noncomputable def cuts32 : Cuts := []
theorem fit32 : cutsFit labs 32 cuts32 = true := by kernel_rfl
noncomputable def cuts39 : Cuts := [(26, 16, [0, 1, 7, 8])]
theorem fit39 : cutsFit labs 39 cuts39 = true := by kernel_rfl
noncomputable def cuts42 : Cuts := [(26, 17, [0, 1, 7, 8])]
theorem fit42 : cutsFit labs 42 cuts42 = true := by kernel_rfl
end Go.RW
