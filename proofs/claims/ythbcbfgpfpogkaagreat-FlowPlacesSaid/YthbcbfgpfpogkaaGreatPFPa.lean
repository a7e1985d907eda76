/- A part of the proof. -/
import Derived.Test.YthbcbfgpfpogkaaGreatPMidBB
import Derived.Test.YthbcbfgpfpogkaaGreatPMidNN
import Derived.Test.YthbcbfgpfpogkaaGreatPMidZ
import Derived.Test.YthbcbfgpfpogkaaGreatProg
import Derived.KernelRfl
set_option linter.all false
set_option warn.classDefReducibility false
noncomputable section
section
open Go Go.Mid Go.Proofs
set_option maxRecDepth 100000
namespace Go.FP
section
section
abbrev II := Nat → List V → Hp → VH
def itr0 (f : FuncId) : Option It := (bif Nat.beq f 149 then some ⟨66, 101, 3, 4, 1, false⟩ else none)
def B6 (ih : II) (a0 : V) (h : Hp) : VH :=
 newS 24 (vcells a0) h fun v0 h1 =>
 addrS 0 v0 fun v2 =>
 load1 v2 h1 fun v3 =>
 bindS (lenSl v3 fun v => some (v, h1)) fun v4 h5 =>
 intS .gtr v4 (.int .i64 2000) fun v6 =>
 ifS v6 (
 bindS (ih 10 [] h5) fun v7 h8 =>
 some (v7, h8)) (
 loadN 2 v0 h5 fun v9 =>
 bindS (ih 12 [v9] h5) fun v10 h11 =>
 extS 0 v10 fun v12 =>
 extS 1 v10 fun v13 =>
 newS 29 [.nilSlice, .nilSlice] h11 fun v14 h15 =>
 newS 32 [(.int .i64 0), (.int .i64 0)] h15 fun v16 h17 =>
 storeN 2 v14 v12 h17 fun h18 =>
 storeN 2 v16 v13 h18 fun h19 =>
 loadN 2 v16 h19 fun v20 =>
 bindS (bldStruct h19 [] (.agg [(.int .i64 0), (.int .i64 0)]) (some [(0, 1), (1, 1)])) fun v21 h22 =>
 bindS (vh h22 (eqOp .neq (cmpV [(0, .int .i64), (1, .int .i64)] v20 v21))) fun v23 h24 =>
 ifS v23 (
 addrS 1 v14 fun v25 =>
 load1 v25 h24 fun v26 =>
 bindS (lenSl v26 fun v => some (v, h24)) fun v27 h28 =>
 intS .eql v27 (.int .i64 0) fun v29 =>
 guardS v29 true (addrS 0 v14 fun v30 =>
 load1 v30 h28 fun v31 =>
 bindS (lenSl v31 fun v => some (v, h28)) fun v32 h33 =>
 intS .eql v32 (.int .i64 0) fun v34 =>
 some (v34, h33)) h28 fun v35 h36 =>
 optS (pickV v29 v35 (.bool false)) fun v37 =>
 guardS v37 true (addrS 0 v16 fun v38 =>
 load1 v38 h36 fun v39 =>
 intS .neq v39 (.int .i64 0) fun v40 =>
 some (v40, h36)) h36 fun v41 h42 =>
 optS (pickV v37 v41 (.bool false)) fun v43 =>
 guardS v43 true (bindS (ih 10 [] h42) fun v44 h45 =>
 some (v44, h45)) h42 fun v46 h47 =>
 optS (pickV v43 v46 (.bool false)) fun v48 =>
 some (v48, h47)) (
 addrS 1 v14 fun v49 =>
 load1 v49 h24 fun v50 =>
 bindS (lenSl v50 fun v => some (v, h24)) fun v51 h52 =>
 intS .eql v51 (.int .i64 0) fun v53 =>
 ifS v53 (
 some ((.bool false), h52)) (
 ih 1 [v14, (.int .i64 0)] h52)))
def B1 (ih : II) (a3 a5 : V) (h : Hp) : VH :=
 addrS 1 a3 fun v54 =>
 load1 v54 h fun v55 =>
 bindS (lenSl v55 fun v => some (v, h)) fun v56 h57 =>
 intS .lss a5 v56 fun v58 =>
 ifS v58 (
 loadN 2 a3 h57 fun v59 =>
 addrS 1 a3 fun v60 =>
 load1 v60 h57 fun v61 =>
 idxS 8 v61 a5 fun v62 =>
 loadN 8 v62 h57 fun v63 =>
 bindS (ih 14 [v59, v63] h57) fun v64 h65 =>
 notS v64 fun v66 =>
 ifS v66 (
 some ((.bool false), h65)) (
 intS .add a5 (.int .i64 1) fun v67 =>
 ih 1 [a3, v67] h65)) (
 bindS (ih 10 [] h57) fun v68 h69 =>
 some (v68, h69))
def B14 (ih : II) (a0 a1 : V) (h : Hp) : VH :=
 newS 29 (vcells a0) h fun v0 h1 =>
 newS 41 (vcells a1) h1 fun v2 h3 =>
 addrS 5 v2 fun v4 =>
 load1 v4 h3 fun v5 =>
 bindS (lenSl v5 fun v => some (v, h3)) fun v6 h7 =>
 addrS 3 v2 fun v8 =>
 load1 v8 h7 fun v9 =>
 bindS (lenSl v9 fun v => some (v, h7)) fun v10 h11 =>
 addrS 2 v2 fun v12 =>
 load1 v12 h11 fun v13 =>
 intS .neq v10 v13 fun v14 =>
 guardS v14 false (addrS 0 v2 fun v15 =>
 load1 v15 h11 fun v16 =>
 addrS 2 v2 fun v17 =>
 load1 v17 h11 fun v18 =>
 intS .gtr v16 v18 fun v19 =>
 some (v19, h11)) h11 fun v20 h21 =>
 optS (pickV v14 (.bool true) v20) fun v22 =>
 guardS v22 false (addrS 7 v2 fun v23 =>
 load1 v23 h21 fun v24 =>
 intS .neq v24 (.int .i64 0) fun v25 =>
 some (v25, h21)) h21 fun v26 h27 =>
 guardS v26 true (addrS 7 v2 fun v28 =>
 load1 v28 h27 fun v29 =>
 intS .neq v29 (.int .i64 (-1)) fun v30 =>
 some (v30, h27)) h27 fun v31 h32 =>
 guardS v31 false (intS .neq v6 (.int .i64 0) fun v33 =>
 some (v33, h32)) h32 fun v34 h35 =>
 guardS v26 true (optS (pickV v31 (.bool true) v34) fun v36 =>
 some (v36, h35)) h35 fun v37 h38 =>
 guardS v22 false (optS (pickV v26 v37 (.bool false)) fun v39 =>
 some (v39, h38)) h38 fun v40 h41 =>
 optS (pickV v22 (.bool true) v40) fun v42 =>
 ifS v42 (
 some ((.bool false), h41)) (
 ih 3 [v0, v2, v6, (.int .i64 0)] h41)
def B3 (ih : II) (a2 a3 a5 a6 : V) (h : Hp) : VH :=
 intS .lss a6 a5 fun v43 =>
 ifS v43 (
 addrS 5 a3 fun v44 =>
 load1 v44 h fun v45 =>
 idxS 7 v45 a6 fun v46 =>
 loadN 7 v46 h fun v47 =>
 newS 50 [(.int .u8 0), .nilSlice, .nilSlice, .nilSlice, (.int .i64 0), (.int .i64 0), (.int .i64 0)] h fun v48 h49 =>
 storeN 7 v48 v47 h49 fun h50 =>
 addrS 4 v48 fun v51 =>
 load1 v51 h50 fun v52 =>
 intS .lss v52 (.int .i64 (-1)) fun v53 =>
 guardS v53 false (addrS 4 v48 fun v54 =>
 load1 v54 h50 fun v55 =>
 intS .geq v55 a5 fun v56 =>
 some (v56, h50)) h50 fun v57 h58 =>
 optS (pickV v53 (.bool true) v57) fun v59 =>
 guardS v59 false (addrS 5 v48 fun v60 =>
 load1 v60 h58 fun v61 =>
 intS .lss v61 (.int .i64 (-1)) fun v62 =>
 some (v62, h58)) h58 fun v63 h64 =>
 optS (pickV v59 (.bool true) v63) fun v65 =>
 guardS v65 false (addrS 5 v48 fun v66 =>
 load1 v66 h64 fun v67 =>
 intS .geq v67 a5 fun v68 =>
 some (v68, h64)) h64 fun v69 h70 =>
 optS (pickV v65 (.bool true) v69) fun v71 =>
 guardS v71 false (addrS 1 v48 fun v72 =>
 load1 v72 h70 fun v73 =>
 addrS 2 a3 fun v74 =>
 load1 v74 h70 fun v75 =>
 bindS (ih 34 [v73, v75] h70) fun v76 h77 =>
 notS v76 fun v78 =>
 some (v78, h77)) h70 fun v79 h80 =>
 optS (pickV v71 (.bool true) v79) fun v81 =>
 guardS v81 false (addrS 3 v48 fun v82 =>
 load1 v82 h80 fun v83 =>
 addrS 6 a3 fun v84 =>
 load1 v84 h80 fun v85 =>
 bindS (lenSl v85 fun v => some (v, h80)) fun v86 h87 =>
 bindS (ih 34 [v83, v86] h87) fun v88 h89 =>
 notS v88 fun v90 =>
 some (v90, h89)) h80 fun v91 h92 =>
 optS (pickV v81 (.bool true) v91) fun v93 =>
 guardS v93 false (addrS 2 v48 fun v94 =>
 load1 v94 h92 fun v95 =>
 addrS 6 a3 fun v96 =>
 load1 v96 h92 fun v97 =>
 bindS (lenSl v97 fun v => some (v, h92)) fun v98 h99 =>
 bindS (ih 34 [v95, v98] h99) fun v100 h101 =>
 notS v100 fun v102 =>
 some (v102, h101)) h92 fun v103 h104 =>
 optS (pickV v93 (.bool true) v103) fun v105 =>
 guardS v105 false (addrS 6 v48 fun v106 =>
 load1 v106 h104 fun v107 =>
 intS .lss v107 (.int .i64 1) fun v108 =>
 some (v108, h104)) h104 fun v109 h110 =>
 optS (pickV v105 (.bool true) v109) fun v111 =>
 ifS v111 (
 some ((.bool false), h110)) (
 intS .add a6 (.int .i64 1) fun v112 =>
 ih 3 [a2, a3, a5, v112] h110)) (
 ih 5 [a2, a3, (.int .i64 0)] h)
def B5 (ih : II) (a2 a3 a8 : V) (h : Hp) : VH :=
 addrS 6 a3 fun v113 =>
 load1 v113 h fun v114 =>
 bindS (lenSl v114 fun v => some (v, h)) fun v115 h116 =>
 intS .lss a8 v115 fun v117 =>
 ifS v117 (
 addrS 6 a3 fun v118 =>
 load1 v118 h116 fun v119 =>
 idxS 3 v119 a8 fun v120 =>
 loadN 3 v120 h116 fun v121 =>
 newS 53 [(.int .u8 0), (.int .i64 0), .nilSlice] h116 fun v122 h123 =>
 storeN 3 v122 v121 h123 fun h124 =>
 addrS 0 v122 fun v125 =>
 load1 v125 h124 fun v126 =>
 intS .eql v126 (.int .u8 5) fun v127 =>
 ifS v127 (
 ih 13 [a2, a3, a8, v122, v126, v127] h124) (
 intS .eql v126 (.int .u8 10) fun v128 =>
 ifS v128 (
 ih 13 [a2, a3, a8, v122, v126, v128] h124) (
 intS .eql v126 (.int .u8 13) fun v129 =>
 ih 13 [a2, a3, a8, v122, v126, v129] h124))) (
 ih 7 [a3, (.int .i64 0)] h116)
def B7 (ih : II) (a3 a11 : V) (h : Hp) : VH :=
 addrS 6 a3 fun v130 =>
 load1 v130 h fun v131 =>
 bindS (lenSl v131 fun v => some (v, h)) fun v132 h133 =>
 intS .lss a11 v132 fun v134 =>
 ifS v134 (
 addrS 6 a3 fun v135 =>
 load1 v135 h133 fun v136 =>
 idxS 3 v136 a11 fun v137 =>
 addrS 2 v137 fun v138 =>
 load1 v138 h133 fun v139 =>
 bindS (ih 34 [v139, a11] h133) fun v140 h141 =>
 notS v140 fun v142 =>
 ifS v142 (
 some ((.bool false), h141)) (
 intS .add a11 (.int .i64 1) fun v143 =>
 ih 7 [a3, v143] h141)) (
 some ((.bool true), h133))
def B9 (ih : II) (a2 a3 a8 : V) (h : Hp) : VH :=
 intS .add a8 (.int .i64 1) fun v144 =>
 ih 5 [a2, a3, v144] h
def B11 (ih : II) (a2 a3 a8 a9 a10 : V) (h : Hp) : VH :=
 addrS 1 a9 fun v145 =>
 load1 v145 h fun v146 =>
 intS .lss v146 (.int .i64 0) fun v147 =>
 guardS v147 false (addrS 1 a9 fun v148 =>
 load1 v148 h fun v149 =>
 intS .geq v149 a10 fun v150 =>
 some (v150, h)) h fun v151 h152 =>
 optS (pickV v147 (.bool true) v151) fun v153 =>
 ifS v153 (
 some ((.bool false), h152)) (
 ih 9 [a2, a3, a8] h152)
def B13 (ih : II) (a2 a3 a8 a9 a116 a117 : V) (h : Hp) : VH :=
 ifS a117 (
 addrS 0 a2 fun v154 =>
 load1 v154 h fun v155 =>
 bindS (lenSl v155 fun v => some (v, h)) fun v156 h157 =>
 ih 11 [a2, a3, a8, a9, v156] h157) (
 intS .eql a116 (.int .u8 7) fun v158 =>
 ifS v158 (
 addrS 1 a2 fun v159 =>
 load1 v159 h fun v160 =>
 bindS (lenSl v160 fun v => some (v, h)) fun v161 h162 =>
 ih 11 [a2, a3, a8, a9, v161] h162) (
 intS .eql a116 (.int .u8 8) fun v163 =>
 ifS v163 (
 addrS 2 a3 fun v164 =>
 load1 v164 h fun v165 =>
 ih 11 [a2, a3, a8, a9, v165] h) (
 intS .eql a116 (.int .u8 9) fun v166 =>
 ifS v166 (
 addrS 4 a3 fun v167 =>
 load1 v167 h fun v168 =>
 bindS (lenSl v168 fun v => some (v, h)) fun v169 h170 =>
 ih 11 [a2, a3, a8, a9, v169] h170) (
 ih 9 [a2, a3, a8] h))))
def B12 (ih : II) (a0 : V) (h : Hp) : VH :=
 newS 24 (vcells a0) h fun v0 h1 =>
 newS 29 [.nilSlice, .nilSlice] h1 fun v2 h3 =>
 newS 32 [(.int .i64 0), (.int .i64 0)] h3 fun v4 h5 =>
 loadN 2 v0 h5 fun v6 =>
 bindS (ih 28 [v6] h5) fun v7 h8 =>
 notS v7 fun v9 =>
 ifS v9 (
 bindS (bldStruct h8 [] (.agg [.nilSlice, .nilSlice]) (some [(0, 1), (1, 1)])) fun v10 h11 =>
 bindS (bldStruct h11 [(0, (.int .i64 50))] (.agg [(.int .i64 0), (.int .i64 0)]) (some [(0, 1), (1, 1)])) fun v12 h13 =>
 storeN 2 v2 v10 h13 fun h14 =>
 storeN 2 v4 v12 h14 fun h15 =>
 loadN 2 v2 h15 fun v16 =>
 loadN 2 v4 h15 fun v17 =>
 some (.tuple [v16, v17], h15)) (
 loadN 2 v0 h8 fun v18 =>
 bindS (bldStruct (h8.new (.map [])) [(0, v18), (2, (.map h8.n))] (.agg [.nilSlice, (.int .i64 0), .nilSlice, .nilSlice, .nilMap, .nilSlice, .nilSlice, .nilSlice, (.int .i64 0), (.int .i64 0)]) (some [(0, 2), (2, 2), (4, 1), (5, 1), (6, 1), (7, 1), (8, 2)])) fun v19 h20 =>
 newS 60 (vcells v19) h20 fun v21 h22 =>
 addrS 0 v0 fun v23 =>
 load1 v23 h22 fun v24 =>
 addrS 1 v0 fun v25 =>
 load1 v25 h22 fun v26 =>
 idxS 6 v24 v26 fun v27 =>
 loadN 6 v27 h22 fun v28 =>
 bindS (ih 30 [v21, v28] h22) fun v29 h30 =>
 nilS v21 fun v31 =>
 addrS 8 v31 fun v32 =>
 loadN 2 v32 h30 fun v33 =>
 bindS (bldStruct h30 [] (.agg [(.int .i64 0), (.int .i64 0)]) (some [(0, 1), (1, 1)])) fun v34 h35 =>
 bindS (vh h35 (eqOp .eql (cmpV [(0, .int .i64), (1, .int .i64)] v33 v34))) fun v36 h37 =>
 ifS v36 (
 nilS v21 fun v38 =>
 addrS 7 v38 fun v39 =>
 load1 v39 h37 fun v40 =>
 bindS (lenSl v40 fun v => some (v, h37)) fun v41 h42 =>
 ih 17 [v2, v4, v21, v40, v41, (.int .i64 0)] h42) (
 ih 15 [v2, v4, v21] h37))
def B15 (ih : II) (a2 a3 a4 : V) (h : Hp) : VH :=
 nilS a4 fun v43 =>
 addrS 8 v43 fun v44 =>
 loadN 2 v44 h fun v45 =>
 bindS (bldStruct h [] (.agg [(.int .i64 0), (.int .i64 0)]) (some [(0, 1), (1, 1)])) fun v46 h47 =>
 bindS (vh h47 (eqOp .neq (cmpV [(0, .int .i64), (1, .int .i64)] v45 v46))) fun v48 h49 =>
 ifS v48 (
 bindS (bldStruct h49 [] (.agg [.nilSlice, .nilSlice]) (some [(0, 1), (1, 1)])) fun v50 h51 =>
 nilS a4 fun v52 =>
 addrS 8 v52 fun v53 =>
 loadN 2 v53 h49 fun v54 =>
 ptrE a2 fun b55 o56 => storeB (storeO Tryz.prog h49 29 b55 o56 v50) fun c57 =>
 cD (offP v53 b55 && true) (
 storeN 2 a3 v54 (h49.put b55 c57) fun h58 =>
 loadN 2 a2 h58 fun v59 =>
 loadN 2 a3 h58 fun v60 =>
 some (.tuple [v59, v60], h58)) none) (
 nilS a4 fun v61 =>
 addrS 6 v61 fun v62 =>
 load1 v62 h49 fun v63 =>
 bindS (lenSl v63 fun v => some (v, h49)) fun v64 h65 =>
 ih 19 [a2, a3, a4, v63, v64, (.int .i64 0)] h65)
def B17 (ih : II) (a2 a3 a4 a35 a36 a37 : V) (h : Hp) : VH :=
 intS .lss a37 a36 fun v66 =>
 ifS v66 (
 idxS 6 a35 a37 fun v67 =>
 loadN 6 v67 h fun v68 =>
 newS 68 [.nilPtr, (.str ⟨0, 0⟩), (.int .i64 0), (.int .i64 0), (.int .i64 0), .nilSlice] h fun v69 h70 =>
 storeN 6 v69 v68 h70 fun h71 =>
 loadN 6 v69 h71 fun v72 =>
 bindS (ih 32 [a4, v72] h71) fun v73 h74 =>
 intS .add a37 (.int .i64 1) fun v75 =>
 ih 17 [a2, a3, a4, a35, a36, v75] h74) (
 ih 15 [a2, a3, a4] h)
def B19 (ih : II) (a2 a3 a4 a59 a60 a61 : V) (h : Hp) : VH :=
 intS .lss a61 a60 fun v76 =>
 ifS v76 (
 idxS 1 a59 a61 fun v77 =>
 load1 v77 h fun v78 =>
 nilS a4 fun v79 =>
 addrS 2 v79 fun v80 =>
 addrS 1 v80 fun v81 =>
 load1 v81 h fun v82 =>
 nilS v78 fun v83 =>
 addrS 0 v83 fun v84 =>
 loadN 8 v84 h fun v85 =>
 bindS (bldSl ⟨h.t, h.n, h.n⟩ [(0, v85)] 41 1 8 (.agg [(.int .i64 0), (.bool false), (.int .i64 0), .nilSlice, .nilSlice, .nilSlice, .nilSlice, (.int .i64 0)])) fun v86 h87 =>
 madeS h.n h.low h87 fun h88 =>
 bindS (appS 41 128 8 v82 v86 ⟨h88.t, h88.n, h88.n⟩) fun v89 h90 =>
 wroteS h88.low h90 fun h91 =>
 nilS a4 fun v92 =>
 addrS 2 v92 fun v93 =>
 addrS 1 v93 fun v94 =>
 storeC v94 v89 h91 fun h95 =>
 intS .add a61 (.int .i64 1) fun v96 =>
 ih 19 [a2, a3, a4, a59, a60, v96] h95) (
 nilS a4 fun v97 =>
 addrS 2 v97 fun v98 =>
 loadN 2 v98 h fun v99 =>
 bindS (bldStruct h [] (.agg [(.int .i64 0), (.int .i64 0)]) (some [(0, 1), (1, 1)])) fun v100 h101 =>
 storeN 2 a2 v99 h101 fun h102 =>
 storeN 2 a3 v100 h102 fun h103 =>
 loadN 2 a2 h103 fun v104 =>
 loadN 2 a3 h103 fun v105 =>
 some (.tuple [v104, v105], h103))
def B34 (ih : II) (a0 a1 : V) (h : Hp) : VH :=
 ih 21 [a0, a1, (.int .i64 0)] h
def B21 (ih : II) (a0 a1 a5 : V) (h : Hp) : VH :=
 bindS (lenSl a0 fun v => some (v, h)) fun v0 h1 =>
 intS .lss a5 v0 fun v2 =>
 ifS v2 (
 idxS 1 a0 a5 fun v3 =>
 load1 v3 h1 fun v4 =>
 intS .lss v4 (.int .i64 0) fun v5 =>
 guardS v5 false (idxS 1 a0 a5 fun v6 =>
 load1 v6 h1 fun v7 =>
 intS .geq v7 a1 fun v8 =>
 some (v8, h1)) h1 fun v9 h10 =>
 optS (pickV v5 (.bool true) v9) fun v11 =>
 ifS v11 (
 some ((.bool false), h10)) (
 intS .add a5 (.int .i64 1) fun v12 =>
 ih 21 [a0, a1, v12] h10)) (
 some ((.bool true), h1))
def B32 (ih : II) (a0 a1 : V) (h : Hp) : VH :=
 newS 68 (vcells a1) h fun v0 h1 =>
 addrS 0 v0 fun v2 =>
 load1 v2 h1 fun v3 =>
 addrS 5 v0 fun v4 =>
 load1 v4 h1 fun v5 =>
 bindS (lenSl v5 fun v => some (v, h1)) fun v6 h7 =>
 intS .sub v6 (.int .i64 1) fun v8 =>
 ih 23 [a0, v0, v3, v8] h7
def B23 (ih : II) (a0 a3 a4 a5 : V) (h : Hp) : VH :=
 intS .geq a5 (.int .i64 0) fun v9 =>
 ifS v9 (
 addrS 5 a3 fun v10 =>
 load1 v10 h fun v11 =>
 idxS 1 v11 a5 fun v12 =>
 load1 v12 h fun v13 =>
 nilS v13 fun v14 =>
 addrS 0 v14 fun v15 =>
 load1 v15 h fun v16 =>
 bindS (lenSl v16 fun v => some (v, h)) fun v17 h18 =>
 ih 25 [a0, a3, a4, a5, v16, v17, (.int .i64 0)] h18) (
 addrS 3 a3 fun v19 =>
 load1 v19 h fun v20 =>
 bindS (ih 54 [a0, (.int .i64 42), v20] h) fun v21 h22 =>
 some (.tuple [], h22))
def B25 (ih : II) (a0 a3 a4 a5 a26 a27 a28 : V) (h : Hp) : VH :=
 intS .lss a28 a27 fun v23 =>
 ifS v23 (
 idxS 3 a26 a28 fun v24 =>
 loadN 3 v24 h fun v25 =>
 newS 103 [(.str ⟨0, 0⟩), (.int .i64 0), (.int .i64 0)] h fun v26 h27 =>
 storeN 3 v26 v25 h27 fun h28 =>
 addrS 0 v26 fun v29 =>
 load1 v29 h28 fun v30 =>
 addrS 1 a3 fun v31 =>
 load1 v31 h28 fun v32 =>
 strS .neq v30 v32 fun v33 =>
 ifS v33 (
 intS .add a28 (.int .i64 1) fun v34 =>
 ih 25 [a0, a3, a4, a5, a26, a27, v34] h28) (
 addrS 4 a3 fun v35 =>
 load1 v35 h28 fun v36 =>
 intS .add a5 (.int .i64 1) fun v37 =>
 addrS 5 a3 fun v38 =>
 load1 v38 h28 fun v39 =>
 bindS (lenSl v39 fun v => some (v, h28)) fun v40 h41 =>
 intS .lss v37 v40 fun v42 =>
 ifS v42 (
 addrS 5 a3 fun v43 =>
 load1 v43 h41 fun v44 =>
 intS .add a5 (.int .i64 1) fun v45 =>
 idxS 1 v44 v45 fun v46 =>
 load1 v46 h41 fun v47 =>
 nilS v47 fun v48 =>
 addrS 1 v48 fun v49 =>
 load1 v49 h41 fun v50 =>
 ih 27 [a0, a3, a4, v26, v50] h41) (
 ih 27 [a0, a3, a4, v26, v36] h41))) (
 intS .sub a5 (.int .i64 1) fun v51 =>
 ih 23 [a0, a3, a4, v51] h)
def B27 (ih : II) (a0 a3 a4 a7 a8 : V) (h : Hp) : VH :=
 addrS 1 a7 fun v52 =>
 load1 v52 h fun v53 =>
 addrS 2 a3 fun v54 =>
 load1 v54 h fun v55 =>
 intS .gtr v53 v55 fun v56 =>
 guardS v56 true (addrS 2 a7 fun v57 =>
 load1 v57 h fun v58 =>
 intS .gtr v58 a8 fun v59 =>
 some (v59, h)) h fun v60 h61 =>
 optS (pickV v56 v60 (.bool false)) fun v62 =>
 ifS v62 (
 addrS 3 a3 fun v63 =>
 load1 v63 h61 fun v64 =>
 bindS (ih 54 [a0, (.int .i64 44), v64] h61) fun v65 h66 =>
 ih 29 [a3, a4, a7] h66) (
 ih 29 [a3, a4, a7] h61)
def B29 (ih : II) (a3 a4 a7 : V) (h : Hp) : VH :=
 nilS a4 fun v67 =>
 addrS 0 v67 fun v68 =>
 addrS 5 v68 fun v69 =>
 load1 v69 h fun v70 =>
 addrS 2 a3 fun v71 =>
 load1 v71 h fun v72 =>
 addrS 1 a7 fun v73 =>
 load1 v73 h fun v74 =>
 idxS 7 v70 v72 fun v75 =>
 addrS 4 v75 fun v76 =>
 storeC v76 v74 h fun h77 =>
 addrS 1 a7 fun v78 =>
 load1 v78 h77 fun v79 =>
 nilS a4 fun v80 =>
 addrS 0 v80 fun v81 =>
 addrS 5 v81 fun v82 =>
 load1 v82 h77 fun v83 =>
 bindS (lenSl v83 fun v => some (v, h77)) fun v84 h85 =>
 intS .geq v79 v84 fun v86 =>
 ifS v86 (
 nilS a4 fun v87 =>
 addrS 0 v87 fun v88 =>
 addrS 5 v88 fun v89 =>
 load1 v89 h77 fun v90 =>
 addrS 2 a3 fun v91 =>
 load1 v91 h77 fun v92 =>
 idxS 7 v90 v92 fun v93 =>
 addrS 4 v93 fun v94 =>
 storeC v94 (.int .i64 (-1)) h77 fun h95 =>
 ih 31 [] h95) (
 ih 31 [] h77)
def B31 (ih : II) (h : Hp) : VH :=
 some (.tuple [], h)
def B30 (ih : II) (a0 a1 : V) (h : Hp) : VH :=
 newS 64 (vcells a1) h fun v0 h1 =>
 nilS a0 fun v2 =>
 addrS 6 v2 fun v3 =>
 load1 v3 h1 fun v4 =>
 bindS (lenSl v4 fun v => some (v, h1)) fun v5 h6 =>
 intS .eql v5 (.int .i64 200) fun v7 =>
 ifS v7 (
 addrS 5 v0 fun v8 =>
 load1 v8 h6 fun v9 =>
 bindS (ih 54 [a0, (.int .i64 3), v9] h6) fun v10 h11 =>
 some ((.int .i64 0), h11)) (
 addrS 3 v0 fun v12 =>
 load1 v12 h6 fun v13 =>
 bindS (lenSl v13 fun v => some (v, h6)) fun v14 h15 =>
 addrS 1 v0 fun v16 =>
 load1 v16 h15 fun v17 =>
 intS .eql v17 (.int .i64 1) fun v18 =>
 bindS (bldStruct h15 [(0, v14), (1, v18)] (.agg [(.int .i64 0), (.bool false), (.int .i64 0), .nilSlice, .nilSlice, .nilSlice, .nilSlice, (.int .i64 0)]) (some [(0, 1), (1, 1), (2, 1), (3, 1), (4, 1), (5, 1), (6, 1), (7, 1)])) fun v19 h20 =>
 bindS (bldStruct h20 [(0, v19)] (.agg [(.int .i64 0), (.bool false), (.int .i64 0), .nilSlice, .nilSlice, .nilSlice, .nilSlice, (.int .i64 0), .nilSlice, .nilSlice]) (some [(0, 8), (8, 1), (9, 1)])) fun v21 h22 =>
 newS 72 (vcells v21) h22 fun v23 h24 =>
 nilS a0 fun v25 =>
 addrS 6 v25 fun v26 =>
 load1 v26 h24 fun v27 =>
 bindS (lenSl v27 fun v => some (v, h24)) fun v28 h29 =>
 nilS a0 fun v30 =>
 addrS 6 v30 fun v31 =>
 load1 v31 h29 fun v32 =>
 bindS (bldSl h29 [(0, v23)] 65 1 1 .nilPtr) fun v33 h34 =>
 bindS (appS 65 8 1 v32 v33 h34) fun v35 h36 =>
 nilS a0 fun v37 =>
 addrS 6 v37 fun v38 =>
 storeC v38 v35 h36 fun h39 =>
 nilS a0 fun v40 =>
 addrS 5 v40 fun v41 =>
 load1 v41 h39 fun v42 =>
 bindS (bldSl h39 [(0, v23)] 65 1 1 .nilPtr) fun v43 h44 =>
 bindS (appS 65 8 1 v42 v43 h44) fun v45 h46 =>
 nilS a0 fun v47 =>
 addrS 5 v47 fun v48 =>
 storeC v48 v45 h46 fun h49 =>
 addrS 3 v0 fun v50 =>
 load1 v50 h49 fun v51 =>
 bindS (lenSl v51 fun v => some (v, h49)) fun v52 h53 =>
 ih 33 [a0, v0, v23, v28, v51, v52, (.int .i64 0)] h53)
def B33 (ih : II) (a0 a3 a5 a6 a58 a59 a60 : V) (h : Hp) : VH :=
 intS .lss a60 a59 fun v54 =>
 ifS v54 (
 idxS 1 a58 a60 fun v55 =>
 load1 v55 h fun v56 =>
 addrS 5 a3 fun v57 =>
 load1 v57 h fun v58 =>
 bindS (ih 56 [a0, v56, v58] h) fun v59 h60 =>
 intS .add a60 (.int .i64 1) fun v61 =>
 ih 33 [a0, a3, a5, a6, a58, a59, v61] h60) (
 addrS 4 a3 fun v62 =>
 load1 v62 h fun v63 =>
 idxS 1 v63 (.int .i64 0) fun v64 =>
 load1 v64 h fun v65 =>
 bindS (ih 58 [a0, v65, .nilPtr, .nilFunc] h) fun v66 h67 =>
 nilS a5 fun v68 =>
 addrS 0 v68 fun v69 =>
 addrS 5 v69 fun v70 =>
 load1 v70 h67 fun v71 =>
 bindS (lenSl v71 fun v => some (v, h67)) fun v72 h73 =>
 intS .eql v72 (.int .i64 0) fun v74 =>
 ifS v74 (
 nilS a5 fun v75 =>
 addrS 0 v75 fun v76 =>
 addrS 7 v76 fun v77 =>
 storeC v77 (.int .i64 (-1)) h73 fun h78 =>
 ih 35 [a0, a5, a6] h78) (
 ih 35 [a0, a5, a6] h73))
def B35 (ih : II) (a0 a5 a6 : V) (h : Hp) : VH :=
 nilS a5 fun v79 =>
 addrS 0 v79 fun v80 =>
 addrS 5 v80 fun v81 =>
 load1 v81 h fun v82 =>
 bindS (lenSl v82 fun v => some (v, h)) fun v83 h84 =>
 ih 37 [a0, a5, a6, v83, (.int .i64 0)] h84
def B37 (ih : II) (a0 a5 a6 a92 a93 : V) (h : Hp) : VH :=
 intS .lss a93 a92 fun v85 =>
 ifS v85 (
 nilS a5 fun v86 =>
 addrS 0 v86 fun v87 =>
 addrS 5 v87 fun v88 =>
 load1 v88 h fun v89 =>
 idxS 7 v89 a93 fun v90 =>
 nilS v90 fun v91 =>
 addrS 4 v91 fun v92 =>
 nilS v90 fun v93 =>
 addrS 5 v93 fun v94 =>
 bindS (bldSl ⟨h.t, h.n, h.n⟩ [(0, v92), (1, v94)] 95 2 1 .nilPtr) fun v95 h96 =>
 madeS h.n h.low h96 fun h97 =>
 bindS (lenSl v95 fun v => some (v, h97)) fun v98 h99 =>
 ih 39 [a0, a5, a6, a92, a93, v95, v98, (.int .i64 0)] h97) (
 nilS a0 fun v100 =>
 addrS 5 v100 fun v101 =>
 load1 v101 h fun v102 =>
 nilS a0 fun v103 =>
 addrS 5 v103 fun v104 =>
 load1 v104 h fun v105 =>
 bindS (lenSl v105 fun v => some (v, h)) fun v106 h107 =>
 intS .sub v106 (.int .i64 1) fun v108 =>
 bindS (slSlK 65 1 none (some v108) h v102) fun v109 h110 =>
 nilS a0 fun v111 =>
 addrS 5 v111 fun v112 =>
 storeC v112 v109 h fun h113 =>
 some (a6, h113))
def B39 (ih : II) (a0 a5 a6 a92 a93 a109 a110 a111 : V) (h : Hp) : VH :=
 intS .lss a111 a110 fun v114 =>
 ifS v114 (
 idxS 1 a109 a111 fun v115 =>
 load1 v115 h fun v116 =>
 nilS v116 fun v117 =>
 load1 v117 h fun v118 =>
 nilS a5 fun v119 =>
 addrS 0 v119 fun v120 =>
 addrS 5 v120 fun v121 =>
 load1 v121 h fun v122 =>
 bindS (lenSl v122 fun v => some (v, h)) fun v123 h124 =>
 intS .geq v118 v123 fun v125 =>
 ifS v125 (
 nilS v116 fun v126 =>
 storeC v126 (.int .i64 (-1)) h fun h127 =>
 ih 41 [a0, a5, a6, a92, a93, a109, a110, a111] h127) (
 ih 41 [a0, a5, a6, a92, a93, a109, a110, a111] h)) (
 intS .add a93 (.int .i64 1) fun v128 =>
 ih 37 [a0, a5, a6, a92, v128] h)
def B41 (ih : II) (a0 a5 a6 a92 a93 a109 a110 a111 : V) (h : Hp) : VH :=
 intS .add a111 (.int .i64 1) fun v129 =>
 ih 39 [a0, a5, a6, a92, a93, a109, a110, v129] h
def B28 (ih : II) (a0 : V) (h : Hp) : VH :=
 newS 24 (vcells a0) h fun v0 h1 =>
 addrS 0 v0 fun v2 =>
 load1 v2 h1 fun v3 =>
 bindS (lenSl v3 fun v => some (v, h1)) fun v4 h5 =>
 intS .lss v4 (.int .i64 1) fun v6 =>
 guardS v6 false (addrS 0 v0 fun v7 =>
 load1 v7 h5 fun v8 =>
 bindS (lenSl v8 fun v => some (v, h5)) fun v9 h10 =>
 intS .gtr v9 (.int .i64 4096) fun v11 =>
 some (v11, h10)) h5 fun v12 h13 =>
 optS (pickV v6 (.bool true) v12) fun v14 =>
 guardS v14 false (addrS 1 v0 fun v15 =>
 load1 v15 h13 fun v16 =>
 intS .lss v16 (.int .i64 0) fun v17 =>
 some (v17, h13)) h13 fun v18 h19 =>
 optS (pickV v14 (.bool true) v18) fun v20 =>
 guardS v20 false (addrS 1 v0 fun v21 =>
 load1 v21 h19 fun v22 =>
 addrS 0 v0 fun v23 =>
 load1 v23 h19 fun v24 =>
 bindS (lenSl v24 fun v => some (v, h19)) fun v25 h26 =>
 intS .geq v22 v25 fun v27 =>
 some (v27, h26)) h19 fun v28 h29 =>
 optS (pickV v20 (.bool true) v28) fun v30 =>
 ifS v30 (
 some ((.bool false), h29)) (
 addrS 0 v0 fun v31 =>
 load1 v31 h29 fun v32 =>
 addrS 1 v0 fun v33 =>
 load1 v33 h29 fun v34 =>
 idxS 6 v32 v34 fun v35 =>
 loadN 6 v35 h29 fun v36 =>
 newS 64 [(.int .u8 0), (.int .i64 0), (.str ⟨0, 0⟩), .nilSlice, .nilSlice, (.int .i64 0)] h29 fun v37 h38 =>
 storeN 6 v37 v36 h38 fun h39 =>
 addrS 0 v37 fun v40 =>
 load1 v40 h39 fun v41 =>
 intS .neq v41 (.int .u8 26) fun v42 =>
 guardS v42 false (addrS 1 v37 fun v43 =>
 load1 v43 h39 fun v44 =>
 intS .neq v44 (.int .i64 1) fun v45 =>
 some (v45, h39)) h39 fun v46 h47 =>
 optS (pickV v42 (.bool true) v46) fun v48 =>
 guardS v48 false (addrS 3 v37 fun v49 =>
 load1 v49 h47 fun v50 =>
 bindS (lenSl v50 fun v => some (v, h47)) fun v51 h52 =>
 intS .neq v51 (.int .i64 0) fun v53 =>
 some (v53, h52)) h47 fun v54 h55 =>
 optS (pickV v48 (.bool true) v54) fun v56 =>
 ifS v56 (
 some ((.bool false), h55)) (
 addrS 0 v0 fun v57 =>
 load1 v57 h55 fun v58 =>
 bindS (lenSl v58 fun v => some (v, h55)) fun v59 h60 =>
 bindS (mkS 4 1 1 (.bool false) v59 v59 h60) fun v61 h62 =>
 addrS 1 v0 fun v63 =>
 load1 v63 h62 fun v64 =>
 idxS 1 v61 v64 fun v65 =>
 storeC v65 (.bool true) h62 fun h66 =>
 loadN 2 v0 h66 fun v67 =>
 bindS (bldStruct h66 [(0, v67)] (.agg [.nilSlice, (.int .i64 0)]) (some [(0, 2)])) fun v68 h69 =>
 newS 84 [.nilSlice, (.int .i64 0)] h69 fun v70 h71 =>
 storeN 2 v70 v68 h71 fun h72 =>
 addrS 1 v0 fun v73 =>
 load1 v73 h72 fun v74 =>
 bindS (bldStruct h72 [(0, v74), (1, (.int .i64 0))] (.agg [(.int .i64 0), (.int .i64 0)]) (some [(0, 1), (1, 1)])) fun v75 h76 =>
 bindS (bldSl h76 [(0, v75)] 86 1 2 (.agg [(.int .i64 0), (.int .i64 0)])) fun v77 h78 =>
 ih 43 [v0, v61, v70, v77] h78))
def B43 (ih : II) (a1 a4 a5 a6 : V) (h : Hp) : VH :=
 bindS (lenSl a6 fun v => some (v, h)) fun v79 h80 =>
 intS .gtr v79 (.int .i64 0) fun v81 =>
 ifS v81 (
 bindS (lenSl a6 fun v => some (v, h80)) fun v82 h83 =>
 intS .sub v82 (.int .i64 1) fun v84 =>
 idxS 2 a6 v84 fun v85 =>
 loadN 2 v85 h83 fun v86 =>
 newS 86 [(.int .i64 0), (.int .i64 0)] h83 fun v87 h88 =>
 storeN 2 v87 v86 h88 fun h89 =>
 bindS (lenSl a6 fun v => some (v, h89)) fun v90 h91 =>
 intS .sub v90 (.int .i64 1) fun v92 =>
 bindS (slSlK 86 2 none (some v92) h91 a6) fun v93 h94 =>
 addrS 0 a1 fun v95 =>
 load1 v95 h94 fun v96 =>
 addrS 0 v87 fun v97 =>
 load1 v97 h94 fun v98 =>
 idxS 6 v96 v98 fun v99 =>
 loadN 6 v99 h94 fun v100 =>
 newS 64 [(.int .u8 0), (.int .i64 0), (.str ⟨0, 0⟩), .nilSlice, .nilSlice, (.int .i64 0)] h94 fun v101 h102 =>
 storeN 6 v101 v100 h102 fun h103 =>
 addrS 4 v101 fun v104 =>
 load1 v104 h103 fun v105 =>
 bindS (lenSl v105 fun v => some (v, h103)) fun v106 h107 =>
 ih 45 [a1, a4, a5, v93, v87, v101, v105, v106, (.int .i64 0)] h107) (
 bindS (ih 52 [a4, (.bool false)] h80) fun v108 h109 =>
 notS v108 fun v110 =>
 some (v110, h109))
def B45 (ih : II) (a1 a4 a5 a6 a7 a8 a89 a90 a91 : V) (h : Hp) : VH :=
 intS .lss a91 a90 fun v111 =>
 ifS v111 (
 idxS 1 a89 a91 fun v112 =>
 load1 v112 h fun v113 =>
 intS .lss v113 (.int .i64 0) fun v114 =>
 guardS v114 false (bindS (lenSl a4 fun v => some (v, h)) fun v115 h116 =>
 intS .geq v113 v115 fun v117 =>
 some (v117, h116)) h fun v118 h119 =>
 optS (pickV v114 (.bool true) v118) fun v120 =>
 guardS v120 false (idxS 1 a4 v113 fun v121 =>
 load1 v121 h119 fun v122 =>
 some (v122, h119)) h119 fun v123 h124 =>
 optS (pickV v120 (.bool true) v123) fun v125 =>
 ifS v125 (
 some ((.bool false), h124)) (
 idxS 1 a4 v113 fun v126 =>
 storeC v126 (.bool true) h124 fun h127 =>
 loadN 6 a8 h127 fun v128 =>
 addrS 1 a7 fun v129 =>
 load1 v129 h127 fun v130 =>
 bindS (ih 48 [v128, a91, v130] h127) fun v131 h132 =>
 bindS (bldStruct h132 [(0, v113), (1, v131)] (.agg [(.int .i64 0), (.int .i64 0)]) (some [(0, 1), (1, 1)])) fun v133 h134 =>
 bindS (bldSl h134 [(0, v133)] 86 1 2 (.agg [(.int .i64 0), (.int .i64 0)])) fun v135 h136 =>
 bindS (appS 86 16 2 a6 v135 h136) fun v137 h138 =>
 intS .add a91 (.int .i64 1) fun v139 =>
 ih 45 [a1, a4, a5, v137, a7, a8, a89, a90, v139] h138)) (
 addrS 1 a7 fun v140 =>
 load1 v140 h fun v141 =>
 intS .gtr v141 (.int .i64 100) fun v142 =>
 guardS v142 false (loadN 2 a5 h fun v143 =>
 loadN 6 a8 h fun v144 =>
 bindS (ih 50 [v143, v144] h) fun v145 h146 =>
 notS v145 fun v147 =>
 some (v147, h146)) h fun v148 h149 =>
 optS (pickV v142 (.bool true) v148) fun v150 =>
 ifS v150 (
 some ((.bool false), h149)) (
 ih 43 [a1, a4, a5, a6] h149))
def B54 (ih : II) (a0 a1 a2 : V) (h : Hp) : VH :=
 nilS a0 fun v0 =>
 addrS 8 v0 fun v1 =>
 loadN 2 v1 h fun v2 =>
 bindS (bldStruct h [] (.agg [(.int .i64 0), (.int .i64 0)]) (some [(0, 1), (1, 1)])) fun v3 h4 =>
 bindS (vh h4 (eqOp .eql (cmpV [(0, .int .i64), (1, .int .i64)] v2 v3))) fun v5 h6 =>
 ifS v5 (
 bindS (bldStruct h6 [(0, a1), (1, a2)] (.agg [(.int .i64 0), (.int .i64 0)]) (some [(0, 1), (1, 1)])) fun v7 h8 =>
 nilS a0 fun v9 =>
 addrS 8 v9 fun v10 =>
 storeN 2 v10 v7 h8 fun h11 =>
 some (.tuple [], h11)) (
 some (.tuple [], h6))
def B58 (ih : II) (a0 a1 a2 a3 : V) (h : Hp) : VH :=
 newS 55 (vcells a0) h fun v0 h1 =>
 load1 v0 h1 fun v2 =>
 bindS (ih 108 [v2, a2] h1) fun v3 h4 =>
 load1 v0 h4 fun v5 =>
 nilS v5 fun v6 =>
 addrS 0 v6 fun v7 =>
 addrS 0 v7 fun v8 =>
 load1 v8 h4 fun v9 =>
 idxS 6 v9 a1 fun v10 =>
 addrS 4 v10 fun v11 =>
 load1 v11 h4 fun v12 =>
 bindS (lenSl v12 fun v => some (v, h4)) fun v13 h14 =>
 ih 49 [a3, v0, v12, v12, v13, (.int .i64 0)] h14
def B47 (ih : II) (a4 : V) (h : Hp) : VH :=
 load1 a4 h fun v15 =>
 bindS (ih 118 [v15] h) fun v16 h17 =>
 some (.tuple [], h17)
def B49 (ih : II) (a3 a4 a8 a25 a26 a27 : V) (h : Hp) : VH :=
 intS .lss a27 a26 fun v18 =>
 ifS v18 (
 idxS 1 a25 a27 fun v19 =>
 load1 v19 h fun v20 =>
 load1 a4 h fun v21 =>
 nilS v21 fun v22 =>
 addrS 0 v22 fun v23 =>
 addrS 0 v23 fun v24 =>
 load1 v24 h fun v25 =>
 idxS 6 v25 v20 fun v26 =>
 loadN 6 v26 h fun v27 =>
 newS 64 [(.int .u8 0), (.int .i64 0), (.str ⟨0, 0⟩), .nilSlice, .nilSlice, (.int .i64 0)] h fun v28 h29 =>
 storeN 6 v28 v27 h29 fun h30 =>
 addrS 0 v28 fun v31 =>
 load1 v31 h30 fun v32 =>
 intS .eql v32 (.int .u8 15) fun v33 =>
 ifS v33 (
 eqS (.func #[] #[] false) .eql a3 .nilFunc fun v34 =>
 guardS v34 true (bindS (slSlK 3 1 (some a27) none h30 a8) fun v35 h36 =>
 bindS (ih 110 [v35, (.func 56 [] [a4])] h36) fun v37 h38 =>
 notS v37 fun v39 =>
 some (v39, h38)) h30 fun v40 h41 =>
 optS (pickV v34 v40 (.bool false)) fun v42 =>
 load1 a4 h41 fun v43 =>
 loadN 6 v28 h41 fun v44 =>
 bindS (ih 114 [v43, v44, v42] h41) fun v45 h46 =>
 ih 51 [a3, a4, a8, a25, a26, a27] h46) (
 load1 a4 h30 fun v47 =>
 loadN 6 v28 h30 fun v48 =>
 bindS (ih 116 [v47, v48] h30) fun v49 h50 =>
 ih 51 [a3, a4, a8, a25, a26, a27] h50)) (
 eqS (.func #[] #[] false) .neq a3 .nilFunc fun v51 =>
 ifS v51 (
 bindS (dynE ih a3 [] h) fun v52 h53 =>
 ih 47 [a4] h53) (
 ih 47 [a4] h))
def B51 (ih : II) (a3 a4 a8 a25 a26 a27 : V) (h : Hp) : VH :=
 intS .add a27 (.int .i64 1) fun v54 =>
 ih 49 [a3, a4, a8, a25, a26, v54] h
def B56 (ih : II) (a0 a1 a2 : V) (h : Hp) : VH :=
 bindS (ih 106 [a0] h) fun v0 h1 =>
 nilS v0 fun v2 =>
 addrS 8 v2 fun v3 =>
 load1 v3 h1 fun v4 =>
 bindS (lenSl v4 fun v => some (v, h1)) fun v5 h6 =>
 intS .eql v5 (.int .i64 120) fun v7 =>
 ifS v7 (
 bindS (ih 54 [a0, (.int .i64 3), a2] h6) fun v8 h9 =>
 some ((.int .i64 0), h9)) (
 nilS v0 fun v10 =>
 addrS 8 v10 fun v11 =>
 load1 v11 h6 fun v12 =>
 bindS (bldStruct h6 [(0, a1)] (.agg [(.str ⟨0, 0⟩)]) (some [(0, 1)])) fun v13 h14 =>
 bindS (bldSl h14 [(0, v13)] 136 1 1 (.agg [(.str ⟨0, 0⟩)])) fun v15 h16 =>
 bindS (appS 136 16 1 v12 v15 h16) fun v17 h18 =>
 nilS v0 fun v19 =>
 addrS 8 v19 fun v20 =>
 storeC v20 v17 h18 fun h21 =>
 ih 53 [v0] h21)
def B53 (ih : II) (a7 : V) (h : Hp) : VH :=
 nilS a7 fun v22 =>
 addrS 0 v22 fun v23 =>
 addrS 2 v23 fun v24 =>
 load1 v24 h fun v25 =>
 nilS a7 fun v26 =>
 addrS 8 v26 fun v27 =>
 load1 v27 h fun v28 =>
 bindS (lenSl v28 fun v => some (v, h)) fun v29 h30 =>
 intS .lss v25 v29 fun v31 =>
 ifS v31 (
 nilS a7 fun v32 =>
 addrS 0 v32 fun v33 =>
 addrS 2 v33 fun v34 =>
 load1 v34 h fun v35 =>
 intS .add v35 (.int .i64 1) fun v36 =>
 nilS a7 fun v37 =>
 addrS 0 v37 fun v38 =>
 addrS 2 v38 fun v39 =>
 storeC v39 v36 h fun h40 =>
 nilS a7 fun v41 =>
 addrS 0 v41 fun v42 =>
 addrS 3 v42 fun v43 =>
 load1 v43 h40 fun v44 =>
 bindS (bldSl h40 [(0, (.bool false))] 4 1 1 (.bool false)) fun v45 h46 =>
 bindS (appS 4 1 1 v44 v45 h46) fun v47 h48 =>
 nilS a7 fun v49 =>
 addrS 0 v49 fun v50 =>
 addrS 3 v50 fun v51 =>
 storeC v51 v47 h48 fun h52 =>
 ih 53 [a7] h52) (
 nilS a7 fun v53 =>
 addrS 8 v53 fun v54 =>
 load1 v54 h fun v55 =>
 bindS (lenSl v55 fun v => some (v, h)) fun v56 h57 =>
 intS .sub v56 (.int .i64 1) fun v58 =>
 some (v58, h57))
def B50 (ih : II) (a0 a1 : V) (h : Hp) : VH :=
 newS 84 (vcells a0) h fun v0 h1 =>
 newS 64 (vcells a1) h1 fun v2 h3 =>
 addrS 5 v2 fun v4 =>
 load1 v4 h3 fun v5 =>
 intS .lss v5 (.int .i64 1) fun v6 =>
 ifS v6 (
 some ((.bool false), h3)) (
 addrS 0 v2 fun v7 =>
 load1 v7 h3 fun v8 =>
 intS .eql v8 (.int .u8 1) fun v9 =>
 ifS v9 (
 addrS 4 v2 fun v10 =>
 load1 v10 h3 fun v11 =>
 bindS (lenSl v11 fun v => some (v, h3)) fun v12 h13 =>
 intS .sub v12 (.int .i64 1) fun v14 =>
 loadN 6 v2 h13 fun v15 =>
 bindS (ih 88 [v15, (.bool false), (.bool false), (.bool false)] h13) fun v16 h17 =>
 guardS v16 true (loadN 2 v0 h17 fun v18 =>
 loadN 6 v2 h17 fun v19 =>
 intS .add v14 (.int .i64 1) fun v20 =>
 bindS (ih 90 [v18, v19, (.int .i64 0), v20, (.func 46 [] [])] h17) fun v21 h22 =>
 some (v21, h22)) h17 fun v23 h24 =>
 optS (pickV v16 v23 (.bool false)) fun v25 =>
 guardS v25 true (loadN 2 v0 h24 fun v26 =>
 loadN 6 v2 h24 fun v27 =>
 bindS (ih 90 [v26, v27, (.int .i64 0), v14, (.func 47 [] [])] h24) fun v28 h29 =>
 some (v28, h29)) h24 fun v30 h31 =>
 optS (pickV v25 v30 (.bool false)) fun v32 =>
 some (v32, h31)) (
 addrS 0 v2 fun v33 =>
 load1 v33 h3 fun v34 =>
 bindS (ih 92 [v34] h3) fun v35 h36 =>
 ifS v35 (
 loadN 2 v0 h36 fun v37 =>
 loadN 6 v2 h36 fun v38 =>
 bindS (ih 96 [v37, v38] h36) fun v39 h40 =>
 some (v39, h40)) (
 addrS 0 v2 fun v41 =>
 load1 v41 h36 fun v42 =>
 bindS (ih 98 [v42] h36) fun v43 h44 =>
 guardS v43 false (addrS 0 v2 fun v45 =>
 load1 v45 h44 fun v46 =>
 intS .eql v46 (.int .u8 36) fun v47 =>
 some (v47, h44)) h44 fun v48 h49 =>
 optS (pickV v43 (.bool true) v48) fun v50 =>
 guardS v50 false (addrS 0 v2 fun v51 =>
 load1 v51 h49 fun v52 =>
 intS .eql v52 (.int .u8 37) fun v53 =>
 some (v53, h49)) h49 fun v54 h55 =>
 optS (pickV v50 (.bool true) v54) fun v56 =>
 ifS v56 (
 loadN 2 v0 h55 fun v57 =>
 loadN 6 v2 h55 fun v58 =>
 bindS (ih 100 [v57, v58] h55) fun v59 h60 =>
 guardS v59 true (loadN 2 v0 h60 fun v61 =>
 loadN 6 v2 h60 fun v62 =>
 bindS (ih 102 [v61, v62] h60) fun v63 h64 =>
 some (v63, h64)) h60 fun v65 h66 =>
 optS (pickV v59 v65 (.bool false)) fun v67 =>
 some (v67, h66)) (
 some ((.bool false), h55)))))
def B48 (ih : II) (a0 a1 a2 : V) (h : Hp) : VH :=
 newS 64 (vcells a0) h fun v0 h1 =>
 addrS 0 v0 fun v2 =>
 load1 v2 h1 fun v3 =>
 intS .eql v3 (.int .u8 28) fun v4 =>
 ifS v4 (
 ih 57 [a1, a2, v3, v4] h1) (
 intS .eql v3 (.int .u8 29) fun v5 =>
 ifS v5 (
 ih 57 [a1, a2, v3, v5] h1) (
 intS .eql v3 (.int .u8 30) fun v6 =>
 ifS v6 (
 ih 57 [a1, a2, v3, v6] h1) (
 intS .eql v3 (.int .u8 31) fun v7 =>
 ifS v7 (
 ih 57 [a1, a2, v3, v7] h1) (
 intS .eql v3 (.int .u8 32) fun v8 =>
 ifS v8 (
 ih 57 [a1, a2, v3, v8] h1) (
 intS .eql v3 (.int .u8 33) fun v9 =>
 ih 57 [a1, a2, v3, v9] h1)))))
def B55 (ih : II) (a2 : V) (h : Hp) : VH :=
 intS .add a2 (.int .i64 1) fun v10 =>
 some (v10, h)
def B57 (ih : II) (a1 a2 a8 a9 : V) (h : Hp) : VH :=
 ifS a9 (
 intS .eql a1 (.int .i64 0) fun v11 =>
 ifS v11 (
 some (a2, h)) (
 ih 55 [a2] h)) (
 intS .eql a8 (.int .u8 35) fun v12 =>
 ifS v12 (
 ih 59 [a2, v12] h) (
 intS .eql a8 (.int .u8 1) fun v13 =>
 ih 59 [a2, v13] h))
def B59 (ih : II) (a2 a19 : V) (h : Hp) : VH :=
 ifS a19 (
 some (a2, h)) (
 ih 55 [a2] h)
def B52 (ih : II) (a0 a1 : V) (h : Hp) : VH :=
 bindS (ih 104 [a0, a1] h) fun v0 h1 =>
 intS .geq v0 (.int .i64 0) fun v2 =>
 some (v2, h1)
def B116 (ih : II) (a0 a1 : V) (h : Hp) : VH :=
 newS 64 (vcells a1) h fun v0 h1 =>
 bindS (ih 106 [a0] ⟨h1.t, h1.n, h1.n⟩) fun v2 h3 =>
 wroteS h1.low h3 fun h4 =>
 addrS 4 v0 fun v5 =>
 load1 v5 h1 fun v6 =>
 cD (((pureB h1 h3) || sameA h1 h4 v5 (vcells v6).length) && true) (
 addrS 0 v0 fun v7 =>
 load1 v7 h4 fun v8 =>
 intS .eql v8 (.int .u8 2) fun v9 =>
 ifS v9 (
 bindS (ih 182 [a0, v6] h4) fun v10 h11 =>
 addrS 3 v0 fun v12 =>
 load1 v12 h11 fun v13 =>
 bindS (lenSl v13 fun v => some (v, h11)) fun v14 h15 =>
 ih 61 [a0, v0, v10, .nilSlice, v13, v14, (.int .i64 0)] h15) (
 intS .eql v8 (.int .u8 3) fun v16 =>
 ifS v16 (
 addrS 1 v0 fun v17 =>
 load1 v17 h4 fun v18 =>
 bindS (slSlK 3 1 none (some v18) h4 v6) fun v19 h20 =>
 bindS (ih 182 [a0, v19] h20) fun v21 h22 =>
 addrS 1 v0 fun v23 =>
 load1 v23 h22 fun v24 =>
 bindS (slSlK 3 1 (some v24) none h22 v6) fun v25 h26 =>
 bindS (ih 182 [a0, v25] ⟨h22.t, h22.n, h22.n⟩) fun v27 h28 =>
 wroteS h22.low h28 fun h29 =>
 addrS 5 v0 fun v30 =>
 load1 v30 h22 fun v31 =>
 cD (((pureB h22 h28) || sameA h22 h29 v30 (vcells v31).length) && true) (
 bindS (bldStruct h29 [(0, (.int .u8 2)), (2, v21), (3, v27), (6, v31)] (.agg [(.int .u8 0), .nilSlice, .nilSlice, .nilSlice, (.int .i64 0), (.int .i64 0), (.int .i64 0)]) (some [(0, 1), (1, 1), (2, 1), (3, 1), (4, 1), (5, 1), (6, 1)])) fun v32 h33 =>
 bindS (ih 184 [a0, v32] h29) fun v34 h35 =>
 some (.tuple [], h35)) none) (
 intS .eql v8 (.int .u8 4) fun v36 =>
 ifS v36 (
 bindS (ih 182 [a0, v6] ⟨h4.t, h4.n, h4.n⟩) fun v37 h38 =>
 wroteS h4.low h38 fun h39 =>
 addrS 5 v0 fun v40 =>
 load1 v40 h4 fun v41 =>
 cD (((pureB h4 h38) || sameA h4 h39 v40 (vcells v41).length) && true) (
 bindS (bldStruct h39 [(0, (.int .u8 3)), (3, v37), (6, v41)] (.agg [(.int .u8 0), .nilSlice, .nilSlice, .nilSlice, (.int .i64 0), (.int .i64 0), (.int .i64 0)]) (some [(0, 1), (1, 1), (2, 1), (3, 1), (4, 1), (5, 1), (6, 1)])) fun v42 h43 =>
 bindS (ih 184 [a0, v42] h39) fun v44 h45 =>
 some (.tuple [], h45)) none) (
 intS .eql v8 (.int .u8 5) fun v46 =>
 ifS v46 (
 idxS 1 v6 (.int .i64 0) fun v47 =>
 load1 v47 h4 fun v48 =>
 bindS (ih 58 [a0, v48, .nilPtr, .nilFunc] h4) fun v49 h50 =>
 some (.tuple [], h50)) (
 intS .eql v8 (.int .u8 6) fun v51 =>
 ifS v51 (
 ih 63 [a0, v0, v2, v6, v8, v51] h4) (
 intS .eql v8 (.int .u8 7) fun v52 =>
 ifS v52 (
 ih 63 [a0, v0, v2, v6, v8, v52] h4) (
 intS .eql v8 (.int .u8 9) fun v53 =>
 ifS v53 (
 ih 63 [a0, v0, v2, v6, v8, v53] h4) (
 intS .eql v8 (.int .u8 10) fun v54 =>
 ih 63 [a0, v0, v2, v6, v8, v54] h4)))))))) none
def B61 (ih : II) (a0 a3 a6 a7 a26 a27 a28 : V) (h : Hp) : VH :=
 intS .lss a28 a27 fun v55 =>
 ifS v55 (
 idxS 1 a26 a28 fun v56 =>
 load1 v56 h fun v57 =>
 addrS 5 a3 fun v58 =>
 load1 v58 h fun v59 =>
 bindS (ih 56 [a0, v57, v59] h) fun v60 h61 =>
 bindS (bldSl h61 [(0, v60)] 3 1 1 (.int .i64 0)) fun v62 h63 =>
 bindS (appS 3 8 1 a7 v62 h63) fun v64 h65 =>
 intS .add a28 (.int .i64 1) fun v66 =>
 ih 61 [a0, a3, a6, v64, a26, a27, v66] h65) (
 addrS 5 a3 fun v67 =>
 load1 v67 h fun v68 =>
 bindS (bldStruct h [(0, (.int .u8 1)), (1, a7), (3, a6), (6, v68)] (.agg [(.int .u8 0), .nilSlice, .nilSlice, .nilSlice, (.int .i64 0), (.int .i64 0), (.int .i64 0)]) (some [(0, 1), (1, 1), (2, 1), (3, 1), (4, 1), (5, 1), (6, 1)])) fun v69 h70 =>
 bindS (ih 184 [a0, v69] h70) fun v71 h72 =>
 some (.tuple [], h72))
def B63 (ih : II) (a0 a3 a4 a5 a19 a85 : V) (h : Hp) : VH :=
 ifS a85 (
 loadN 6 a3 h fun v73 =>
 bindS (ih 186 [a0, v73] h) fun v74 h75 =>
 some (.tuple [], h75)) (
 intS .eql a19 (.int .u8 8) fun v76 =>
 ifS v76 (
 loadN 6 a3 h fun v77 =>
 bindS (ih 188 [a0, v77] h) fun v78 h79 =>
 some (.tuple [], h79)) (
 intS .eql a19 (.int .u8 11) fun v80 =>
 ifS v80 (
 addrS 3 a3 fun v81 =>
 load1 v81 h fun v82 =>
 idxS 1 v82 (.int .i64 0) fun v83 =>
 load1 v83 h fun v84 =>
 addrS 5 a3 fun v85 =>
 load1 v85 h fun v86 =>
 bindS (ih 56 [a0, v84, v86] h) fun v87 h88 =>
 newF 3 1 (flat [v87]) h88 fun v89 h90 =>
 bindS (bldSl (floH v89) [(0, v87)] 3 1 1 (.int .i64 0)) fun v91 h92 =>
 cD (floIs v89 3 (flat [v87]) v91 h92) (
 bindS (ih 182 [a0, a5] ⟨h90.t, h90.n, h90.n⟩) fun v93 h94 =>
 cD ((pureB h90 h94 || sameLd h90 h94 (fent v89 3 (flat [v87]))) && true) (
 wroteS h90.low h94 fun h95 =>
 addrS 5 a3 fun v96 =>
 load1 v96 h90 fun v97 =>
 cD (((pureB h90 h94) || sameA h90 h95 v96 (vcells v97).length) && true) (
 bindS (bldStruct h95 [(0, (.int .u8 9)), (1, v89), (3, v93), (6, v97)] (.agg [(.int .u8 0), .nilSlice, .nilSlice, .nilSlice, (.int .i64 0), (.int .i64 0), (.int .i64 0)]) (some [(0, 1), (1, 1), (2, 1), (3, 1), (4, 1), (5, 1), (6, 1)])) fun v98 h99 =>
 bindS (ih 184 [a0, v98] h95) fun v100 h101 =>
 some (.tuple [], h101)) none) none) none) (
 intS .eql a19 (.int .u8 12) fun v102 =>
 ifS v102 (
 bindS (ih 182 [a0, a5] ⟨h.t, h.n, h.n⟩) fun v103 h104 =>
 wroteS h.low h104 fun h105 =>
 addrS 5 a3 fun v106 =>
 load1 v106 h fun v107 =>
 cD (((pureB h h104) || sameA h h105 v106 (vcells v107).length) && true) (
 bindS (bldStruct h105 [(0, (.int .u8 10)), (3, v103), (6, v107)] (.agg [(.int .u8 0), .nilSlice, .nilSlice, .nilSlice, (.int .i64 0), (.int .i64 0), (.int .i64 0)]) (some [(0, 1), (1, 1), (2, 1), (3, 1), (4, 1), (5, 1), (6, 1)])) fun v108 h109 =>
 bindS (ih 184 [a0, v108] h105) fun v110 h111 =>
 bindS (ih 190 [a0, v110] h111) fun v112 h113 =>
 nilS v112 fun v114 =>
 addrS 4 v114 fun v115 =>
 storeC v115 (.int .i64 (-1)) h113 fun h116 =>
 some (.tuple [], h116)) none) (
 intS .eql a19 (.int .u8 13) fun v117 =>
 ifS v117 (
 loadN 6 a3 h fun v118 =>
 bindS (ih 192 [a0, v118] h) fun v119 h120 =>
 some (.tuple [], h120)) (
 intS .eql a19 (.int .u8 14) fun v121 =>
 ifS v121 (
 addrS 5 a3 fun v122 =>
 load1 v122 h fun v123 =>
 bindS (bldStruct h [(0, (.int .u8 11)), (6, v123)] (.agg [(.int .u8 0), .nilSlice, .nilSlice, .nilSlice, (.int .i64 0), (.int .i64 0), (.int .i64 0)]) (some [(0, 1), (1, 1), (2, 1), (3, 1), (4, 1), (5, 1), (6, 1)])) fun v124 h125 =>
 bindS (ih 184 [a0, v124] h125) fun v126 h127 =>
 nilS a0 fun v128 =>
 addrS 7 v128 fun v129 =>
 load1 v129 h127 fun v130 =>
 addrS 2 a3 fun v131 =>
 load1 v131 h127 fun v132 =>
 addrS 5 a3 fun v133 =>
 load1 v133 h127 fun v134 =>
 nilS a4 fun v135 =>
 addrS 8 v135 fun v136 =>
 load1 v136 h127 fun v137 =>
 bindS (lenSl v137 fun v => some (v, h127)) fun v138 h139 =>
 nilS a4 fun v140 =>
 addrS 9 v140 fun v141 =>
 load1 v141 h127 fun v142 =>
 bindS (ih 194 [v142] ⟨h127.t, h127.n, h127.n⟩) fun v143 h144 =>
 cD ((pureB h127 h144 || sameA h127 h144 v136 (vcells v137).length) && ((pureB h127 h144 || sameA h127 h144 v133 (vcells v134).length) && ((pureB h127 h144 || sameA h127 h144 v131 (vcells v132).length) && ((pureB h127 h144 || sameA h127 h144 v129 (vcells v130).length) && true)))) (
 wroteS h127.low h144 fun h145 =>
 bindS (bldStruct h145 [(0, a4), (1, v132), (2, v126), (3, v134), (4, v138), (5, v143)] (.agg [.nilPtr, (.str ⟨0, 0⟩), (.int .i64 0), (.int .i64 0), (.int .i64 0), .nilSlice]) (some [(0, 1), (1, 1), (2, 1), (3, 1), (4, 1), (5, 1)])) fun v146 h147 =>
 bindS (bldSl ⟨h145.t, h145.n, h145.n⟩ [(0, v146)] 68 1 6 (.agg [.nilPtr, (.str ⟨0, 0⟩), (.int .i64 0), (.int .i64 0), (.int .i64 0), .nilSlice])) fun v148 h149 =>
 madeS h145.n h145.low h149 fun h150 =>
 bindS (appS 68 72 6 v130 v148 ⟨h150.t, h150.n, h150.n⟩) fun v151 h152 =>
 wroteS h150.low h152 fun h153 =>
 nilS a0 fun v154 =>
 addrS 7 v154 fun v155 =>
 storeC v155 v151 h153 fun h156 =>
 some (.tuple [], h156)) none) (
 some (.tuple [], h)))))))
def B114 (ih : II) (a0 a1 a2 : V) (h : Hp) : VH :=
 newS 64 (vcells a1) h fun v0 h1 =>
 bindS (ih 106 [a0] h1) fun v2 h3 =>
 nilS v2 fun v4 =>
 addrS 9 v4 fun v5 =>
 load1 v5 h3 fun v6 =>
 bindS (lenSl v6 fun v => some (v, h3)) fun v7 h8 =>
 ih 65 [a0, a2, v0, v2, v6, v7, (.int .i64 0)] h8
def B65 (ih : II) (a0 a2 a4 a6 a16 a17 a18 : V) (h : Hp) : VH :=
 intS .lss a18 a17 fun v9 =>
 ifS v9 (
 idxS 1 a16 a18 fun v10 =>
 load1 v10 h fun v11 =>
 nilS v11 fun v12 =>
 addrS 0 v12 fun v13 =>
 load1 v13 h fun v14 =>
 bindS (ih 176 [v14, (.func 89 [] [a4])] h) fun v15 h16 =>
 ifS v15 (
 addrS 5 a4 fun v17 =>
 load1 v17 h16 fun v18 =>
 bindS (ih 54 [a0, (.int .i64 43), v18] h16) fun v19 h20 =>
 ih 69 [a0, a2, a4, a6, a16, a17, a18] h20) (
 ih 69 [a0, a2, a4, a6, a16, a17, a18] h16)) (
 nilS a6 fun v21 =>
 addrS 9 v21 fun v22 =>
 load1 v22 h fun v23 =>
 nilS a6 fun v24 =>
 addrS 9 v24 fun v25 =>
 load1 v25 h fun v26 =>
 bindS (lenSl v26 fun v => some (v, h)) fun v27 h28 =>
 intS .sub v27 (.int .i64 1) fun v29 =>
 idxS 1 v23 v29 fun v30 =>
 load1 v30 h fun v31 =>
 nilS a6 fun v32 =>
 addrS 8 v32 fun v33 =>
 load1 v33 h fun v34 =>
 bindS (lenSl v34 fun v => some (v, h)) fun v35 h36 =>
 ifS a2 (
 nilS v31 fun v37 =>
 addrS 1 v37 fun v38 =>
 load1 v38 h36 fun v39 =>
 ih 67 [a0, a4, v31, v39] h36) (
 ih 67 [a0, a4, v31, v35] h36))
def B67 (ih : II) (a0 a4 a9 a10 : V) (h : Hp) : VH :=
 nilS a9 fun v40 =>
 addrS 0 v40 fun v41 =>
 load1 v41 h fun v42 =>
 addrS 2 a4 fun v43 =>
 load1 v43 h fun v44 =>
 bindS (ih 180 [a0] ⟨h.t, h.n, h.n⟩) fun v45 h46 =>
 cD ((pureB h h46 || sameA h h46 v43 (vcells v44).length) && ((pureB h h46 || sameA h h46 v41 (vcells v42).length) && true)) (
 wroteS h.low h46 fun h47 =>
 bindS (bldStruct h47 [(0, v44), (1, v45), (2, a10)] (.agg [(.str ⟨0, 0⟩), (.int .i64 0), (.int .i64 0)]) (some [(0, 1), (1, 1), (2, 1)])) fun v48 h49 =>
 bindS (bldSl ⟨h47.t, h47.n, h47.n⟩ [(0, v48)] 103 1 3 (.agg [(.str ⟨0, 0⟩), (.int .i64 0), (.int .i64 0)])) fun v50 h51 =>
 madeS h47.n h47.low h51 fun h52 =>
 bindS (appS 103 32 3 v42 v50 ⟨h52.t, h52.n, h52.n⟩) fun v53 h54 =>
 wroteS h52.low h54 fun h55 =>
 nilS a9 fun v56 =>
 addrS 0 v56 fun v57 =>
 storeC v57 v53 h55 fun h58 =>
 some (.tuple [], h58)) none
def B69 (ih : II) (a0 a2 a4 a6 a16 a17 a18 : V) (h : Hp) : VH :=
 intS .add a18 (.int .i64 1) fun v59 =>
 ih 65 [a0, a2, a4, a6, a16, a17, v59] h
def B110 (ih : II) (a0 a1 : V) (h : Hp) : VH :=
 bindS (ih 174 [a0, a1] h) fun v0 h1 =>
 intS .geq v0 (.int .i64 0) fun v2 =>
 some (v2, h1)
def B112 (ih : II) (a0 a1 : V) (h : Hp) : VH :=
 load1 a1 h fun v0 =>
 nilS v0 fun v1 =>
 addrS 0 v1 fun v2 =>
 addrS 0 v2 fun v3 =>
 load1 v3 h fun v4 =>
 idxS 6 v4 a0 fun v5 =>
 addrS 0 v5 fun v6 =>
 load1 v6 h fun v7 =>
 intS .neq v7 (.int .u8 15) fun v8 =>
 some (v8, h)
def B118 (ih : II) (a0 : V) (h : Hp) : VH :=
 bindS (ih 106 [a0] h) fun v0 h1 =>
 nilS v0 fun v2 =>
 addrS 8 v2 fun v3 =>
 load1 v3 h1 fun v4 =>
 nilS v0 fun v5 =>
 addrS 9 v5 fun v6 =>
 load1 v6 h1 fun v7 =>
 nilS v0 fun v8 =>
 addrS 9 v8 fun v9 =>
 load1 v9 h1 fun v10 =>
 bindS (lenSl v10 fun v => some (v, h1)) fun v11 h12 =>
 intS .sub v11 (.int .i64 1) fun v13 =>
 idxS 1 v7 v13 fun v14 =>
 load1 v14 h1 fun v15 =>
 nilS v15 fun v16 =>
 addrS 1 v16 fun v17 =>
 load1 v17 h1 fun v18 =>
 bindS (slSlK 136 1 none (some v18) h1 v4) fun v19 h20 =>
 nilS v0 fun v21 =>
 addrS 8 v21 fun v22 =>
 storeC v22 v19 h1 fun h23 =>
 nilS v0 fun v24 =>
 addrS 9 v24 fun v25 =>
 load1 v25 h23 fun v26 =>
 nilS v0 fun v27 =>
 addrS 9 v27 fun v28 =>
 load1 v28 h23 fun v29 =>
 bindS (lenSl v29 fun v => some (v, h23)) fun v30 h31 =>
 intS .sub v30 (.int .i64 1) fun v32 =>
 bindS (slSlK 101 1 none (some v32) h23 v26) fun v33 h34 =>
 nilS v0 fun v35 =>
 addrS 9 v35 fun v36 =>
 storeC v36 v33 h23 fun h37 =>
 some (.tuple [], h37)
def B108 (ih : II) (a0 a1 : V) (h : Hp) : VH :=
 bindS (ih 106 [a0] h) fun v0 h1 =>
 nilS v0 fun v2 =>
 addrS 9 v2 fun v3 =>
 load1 v3 h1 fun v4 =>
 nilS v0 fun v5 =>
 addrS 8 v5 fun v6 =>
 load1 v6 h1 fun v7 =>
 bindS (lenSl v7 fun v => some (v, h1)) fun v8 h9 =>
 bindS (bldStruct h1 [(1, v8), (2, a1)] (.agg [.nilSlice, (.int .i64 0), .nilPtr]) (some [(0, 1), (1, 1), (2, 1)])) fun v10 h11 =>
 newS 100 (vcells v10) ⟨h1.t, h1.n, h1.n⟩ fun v12 h13 =>
 madeS h1.n h1.low h13 fun h14 =>
 bindS (bldSl ⟨h14.t, h14.n, h14.n⟩ [(0, v12)] 101 1 1 .nilPtr) fun v15 h16 =>
 madeS h14.n h14.low h16 fun h17 =>
 bindS (appS 101 8 1 v4 v15 ⟨h17.t, h17.n, h17.n⟩) fun v18 h19 =>
 wroteS h17.low h19 fun h20 =>
 nilS v0 fun v21 =>
 addrS 9 v21 fun v22 =>
 storeC v22 v18 h20 fun h23 =>
 some (.tuple [], h23)
def B106 (ih : II) (a0 : V) (h : Hp) : VH :=
 nilS a0 fun v0 =>
 addrS 5 v0 fun v1 =>
 load1 v1 h fun v2 =>
 nilS a0 fun v3 =>
 addrS 5 v3 fun v4 =>
 load1 v4 h fun v5 =>
 bindS (lenSl v5 fun v => some (v, h)) fun v6 h7 =>
 intS .sub v6 (.int .i64 1) fun v8 =>
 idxS 1 v2 v8 fun v9 =>
 load1 v9 h fun v10 =>
 some (v10, h)
def B102 (ih : II) (a0 a1 : V) (h : Hp) : VH :=
 newS 84 (vcells a0) h fun v0 h1 =>
 newS 64 (vcells a1) h1 fun v2 h3 =>
 addrS 0 v2 fun v4 =>
 load1 v4 h3 fun v5 =>
 intS .eql v5 (.int .u8 34) fun v6 =>
 ifS v6 (
 bindS (dynE ih (.func 85 [] [v0, v2]) [(.int .i64 0)] h3) fun v7 h8 =>
 intS .geq v7 (.int .i64 11) fun v9 =>
 some (v9, h8)) (
 addrS 0 v2 fun v10 =>
 load1 v10 h3 fun v11 =>
 intS .eql v11 (.int .u8 31) fun v12 =>
 guardS v12 true (addrS 1 v2 fun v13 =>
 load1 v13 h3 fun v14 =>
 convI .u8 v14 fun v15 =>
 intS .eql v15 (.int .u8 11) fun v16 =>
 some (v16, h3)) h3 fun v17 h18 =>
 optS (pickV v12 v17 (.bool false)) fun v19 =>
 ifS v19 (
 bindS (dynE ih (.func 85 [] [v0, v2]) [(.int .i64 0)] h18) fun v20 h21 =>
 intS .gtr v20 (.int .i64 8) fun v22 =>
 guardS v22 true (bindS (dynE ih (.func 85 [] [v0, v2]) [(.int .i64 1)] h21) fun v23 h24 =>
 intS .geq v23 (.int .i64 8) fun v25 =>
 some (v25, h24)) h21 fun v26 h27 =>
 optS (pickV v22 v26 (.bool false)) fun v28 =>
 some (v28, h27)) (
 addrS 0 v2 fun v29 =>
 load1 v29 h18 fun v30 =>
 intS .eql v30 (.int .u8 31) fun v31 =>
 guardS v31 false (addrS 0 v2 fun v32 =>
 load1 v32 h18 fun v33 =>
 intS .eql v33 (.int .u8 32) fun v34 =>
 some (v34, h18)) h18 fun v35 h36 =>
 optS (pickV v31 (.bool true) v35) fun v37 =>
 guardS v37 false (addrS 0 v2 fun v38 =>
 load1 v38 h36 fun v39 =>
 intS .eql v39 (.int .u8 33) fun v40 =>
 some (v40, h36)) h36 fun v41 h42 =>
 optS (pickV v37 (.bool true) v41) fun v43 =>
 ifS v43 (
 bindS (dynE ih (.func 85 [] [v0, v2]) [(.int .i64 0)] ⟨h42.t, h42.n, h42.n⟩) fun v44 h45 =>
 wroteS h42.low h45 fun h46 =>
 loadN 6 v2 h42 fun v47 =>
 cD (((pureB h42 h45) || sameA h42 h46 v2 (vcells v47).length) && true) (
 bindS (ih 172 [v47] ⟨h46.t, h46.n, h46.n⟩) fun v48 h49 =>
 wroteS h46.low h49 fun h50 =>
 intS .geq v44 v48 fun v51 =>
 guardS v51 true (some ((.func 85 [] [v0, v2]), h50)) h50 fun v52 _ =>
 guardB v51 true (
 bindS (dynE ih v52 [(.int .i64 1)] ⟨h50.t, h50.n, h50.n⟩) fun v53 h54 =>
 wroteS h50.low h54 fun h55 =>
 guardB v51 true (
 loadN 6 v2 h50 fun v56 =>
 cD (((pureB h50 h54) || sameA h50 h55 v2 (vcells v56).length) && true) (
 guardS v51 true (bindS (ih 172 [v56] h55) fun v57 h58 =>
 intS .gtr v53 v57 fun v59 =>
 some (v59, h58)) h55 fun v60 h61 =>
 optS (pickV v51 v60 (.bool false)) fun v62 =>
 some (v62, h61)) none) (
 guardS v51 true (bindS (ih 172 [undefV] h55) fun v63 h64 =>
 intS .gtr v53 v63 fun v65 =>
 some (v65, h64)) h55 fun v66 h67 =>
 optS (pickV v51 v66 (.bool false)) fun v68 =>
 some (v68, h67))) (
 guardS v51 true (loadN 6 v2 h50 fun v69 =>
 some (v69, h50)) h50 fun v70 _ =>
 guardS v51 true (bindS (ih 172 [v70] h50) fun v71 h72 =>
 intS .gtr undefV v71 fun v73 =>
 some (v73, h72)) h50 fun v74 h75 =>
 optS (pickV v51 v74 (.bool false)) fun v76 =>
 some (v76, h75))) none) (
 some ((.bool true), h42))))
def B100 (ih : II) (a0 a1 : V) (h : Hp) : VH :=
 newS 84 (vcells a0) h fun v0 h1 =>
 newS 64 (vcells a1) h1 fun v2 h3 =>
 addrS 4 v2 fun v4 =>
 load1 v4 h3 fun v5 =>
 bindS (lenSl v5 fun v => some (v, h3)) fun v6 h7 =>
 addrS 0 v2 fun v8 =>
 load1 v8 h7 fun v9 =>
 intS .eql v9 (.int .u8 20) fun v10 =>
 ifS v10 (
 ih 71 [v0, v2, v6, v9, v10] h7) (
 intS .eql v9 (.int .u8 21) fun v11 =>
 ifS v11 (
 ih 71 [v0, v2, v6, v9, v11] h7) (
 intS .eql v9 (.int .u8 22) fun v12 =>
 ifS v12 (
 ih 71 [v0, v2, v6, v9, v12] h7) (
 intS .eql v9 (.int .u8 25) fun v13 =>
 ih 71 [v0, v2, v6, v9, v13] h7)))
def B71 (ih : II) (a2 a3 a5 a10 a11 : V) (h : Hp) : VH :=
 ifS a11 (
 loadN 6 a3 h fun v14 =>
 bindS (ih 88 [v14, (.bool false), (.bool false), (.bool false)] h) fun v15 h16 =>
 guardS v15 true (intS .eql a5 (.int .i64 0) fun v17 =>
 some (v17, h16)) h16 fun v18 h19 =>
 optS (pickV v15 v18 (.bool false)) fun v20 =>
 some (v20, h19)) (
 intS .eql a10 (.int .u8 23) fun v21 =>
 ifS v21 (
 loadN 6 a3 h fun v22 =>
 bindS (ih 88 [v22, (.bool true), (.bool false), (.bool false)] h) fun v23 h24 =>
 guardS v23 true (intS .eql a5 (.int .i64 0) fun v25 =>
 some (v25, h24)) h24 fun v26 h27 =>
 optS (pickV v23 v26 (.bool false)) fun v28 =>
 some (v28, h27)) (
 intS .eql a10 (.int .u8 24) fun v29 =>
 ifS v29 (
 loadN 6 a3 h fun v30 =>
 bindS (ih 88 [v30, (.bool false), (.bool true), (.bool false)] h) fun v31 h32 =>
 guardS v31 true (intS .eql a5 (.int .i64 0) fun v33 =>
 some (v33, h32)) h32 fun v34 h35 =>
 optS (pickV v31 v34 (.bool false)) fun v36 =>
 guardS v36 true (addrS 2 a3 fun v37 =>
 load1 v37 h35 fun v38 =>
 bindS (lenStr v38 fun v => some (v, h35)) fun v39 h40 =>
 intS .leq v39 (.int .i64 65535) fun v41 =>
 some (v41, h40)) h35 fun v42 h43 =>
 optS (pickV v36 v42 (.bool false)) fun v44 =>
 some (v44, h43)) (
 intS .eql a10 (.int .u8 27) fun v45 =>
 ifS v45 (
 loadN 6 a3 h fun v46 =>
 bindS (ih 88 [v46, (.bool false), (.bool true), (.bool false)] h) fun v47 h48 =>
 guardS v47 true (intS .eql a5 (.int .i64 0) fun v49 =>
 some (v49, h48)) h48 fun v50 h51 =>
 optS (pickV v47 v50 (.bool false)) fun v52 =>
 guardS v52 true (addrS 2 a3 fun v53 =>
 load1 v53 h51 fun v54 =>
 bindS (ih 162 [v54] h51) fun v55 h56 =>
 some (v55, h56)) h51 fun v57 h58 =>
 optS (pickV v52 v57 (.bool false)) fun v59 =>
 some (v59, h58)) (
 intS .eql a10 (.int .u8 26) fun v60 =>
 ifS v60 (
 loadN 6 a3 h fun v61 =>
 bindS (ih 88 [v61, (.bool true), (.bool false), (.bool true)] h) fun v62 h63 =>
 guardS v62 true (addrS 1 a3 fun v64 =>
 load1 v64 h63 fun v65 =>
 intS .eql v65 (.int .i64 0) fun v66 =>
 some (v66, h63)) h63 fun v67 h68 =>
 guardS v67 false (addrS 1 a3 fun v69 =>
 load1 v69 h68 fun v70 =>
 intS .eql v70 (.int .i64 1) fun v71 =>
 some (v71, h68)) h68 fun v72 h73 =>
 guardS v62 true (optS (pickV v67 (.bool true) v72) fun v74 =>
 some (v74, h73)) h73 fun v75 h76 =>
 optS (pickV v62 v75 (.bool false)) fun v77 =>
 guardS v77 true (addrS 3 a3 fun v78 =>
 load1 v78 h76 fun v79 =>
 bindS (ih 152 [v79, (.int .i64 0)] h76) fun v80 h81 =>
 some (v80, h81)) h76 fun v82 h83 =>
 optS (pickV v77 v82 (.bool false)) fun v84 =>
 guardS v84 true (intS .eql a5 (.int .i64 1) fun v85 =>
 some (v85, h83)) h83 fun v86 h87 =>
 optS (pickV v84 v86 (.bool false)) fun v88 =>
 guardS v88 true (loadN 2 a2 h87 fun v89 =>
 loadN 6 a3 h87 fun v90 =>
 bindS (ih 158 [v89, v90, (.int .i64 0)] h87) fun v91 h92 =>
 some (v91, h92)) h87 fun v93 h94 =>
 optS (pickV v88 v93 (.bool false)) fun v95 =>
 some (v95, h94)) (
 intS .eql a10 (.int .u8 28) fun v96 =>
 ifS v96 (
 loadN 6 a3 h fun v97 =>
 bindS (ih 88 [v97, (.bool false), (.bool false), (.bool false)] h) fun v98 h99 =>
 guardS v98 true (loadN 2 a2 h99 fun v100 =>
 loadN 6 a3 h99 fun v101 =>
 bindS (ih 164 [v100, v101, (.int .i64 2)] h99) fun v102 h103 =>
 some (v102, h103)) h99 fun v104 h105 =>
 optS (pickV v98 v104 (.bool false)) fun v106 =>
 guardS v106 true (loadN 2 a2 h105 fun v107 =>
 loadN 6 a3 h105 fun v108 =>
 bindS (ih 150 [v107, v108, (.int .i64 0)] h105) fun v109 h110 =>
 bindS (ih 166 [v109] h110) fun v111 h112 =>
 some (v111, h112)) h105 fun v113 h114 =>
 optS (pickV v106 v113 (.bool false)) fun v115 =>
 some (v115, h114)) (
 intS .eql a10 (.int .u8 29) fun v116 =>
 ifS v116 (
 loadN 6 a3 h fun v117 =>
 bindS (ih 88 [v117, (.bool false), (.bool false), (.bool false)] h) fun v118 h119 =>
 guardS v118 true (intS .geq a5 (.int .i64 1) fun v120 =>
 some (v120, h119)) h119 fun v121 h122 =>
 optS (pickV v118 v121 (.bool false)) fun v123 =>
 guardS v123 true (loadN 2 a2 h122 fun v124 =>
 loadN 6 a3 h122 fun v125 =>
 bindS (ih 150 [v124, v125, (.int .i64 0)] h122) fun v126 h127 =>
 bindS (ih 166 [v126] h127) fun v128 h129 =>
 some (v128, h129)) h122 fun v130 h131 =>
 optS (pickV v123 v130 (.bool false)) fun v132 =>
 guardS v132 true (loadN 2 a2 h131 fun v133 =>
 loadN 6 a3 h131 fun v134 =>
 bindS (ih 154 [v133, v134, (.int .i64 1), a5, (.int .i64 0)] h131) fun v135 h136 =>
 some (v135, h136)) h131 fun v137 h138 =>
 optS (pickV v132 v137 (.bool false)) fun v139 =>
 some (v139, h138)) (
 intS .eql a10 (.int .u8 30) fun v140 =>
 ifS v140 (
 loadN 6 a3 h fun v141 =>
 bindS (ih 88 [v141, (.bool false), (.bool true), (.bool false)] h) fun v142 h143 =>
 guardS v142 true (addrS 2 a3 fun v144 =>
 load1 v144 h143 fun v145 =>
 bindS (ih 162 [v145] h143) fun v146 h147 =>
 some (v146, h147)) h143 fun v148 h149 =>
 optS (pickV v142 v148 (.bool false)) fun v150 =>
 guardS v150 true (intS .geq a5 (.int .i64 1) fun v151 =>
 some (v151, h149)) h149 fun v152 h153 =>
 optS (pickV v150 v152 (.bool false)) fun v154 =>
 guardS v154 true (loadN 2 a2 h153 fun v155 =>
 loadN 6 a3 h153 fun v156 =>
 bindS (ih 150 [v155, v156, (.int .i64 0)] h153) fun v157 h158 =>
 bindS (ih 166 [v157] h158) fun v159 h160 =>
 some (v159, h160)) h153 fun v161 h162 =>
 optS (pickV v154 v161 (.bool false)) fun v163 =>
 guardS v163 true (loadN 2 a2 h162 fun v164 =>
 loadN 6 a3 h162 fun v165 =>
 bindS (ih 154 [v164, v165, (.int .i64 1), a5, (.int .i64 0)] h162) fun v166 h167 =>
 some (v166, h167)) h162 fun v168 h169 =>
 optS (pickV v163 v168 (.bool false)) fun v170 =>
 some (v170, h169)) (
 intS .eql a10 (.int .u8 31) fun v171 =>
 ifS v171 (
 loadN 6 a3 h fun v172 =>
 bindS (ih 88 [v172, (.bool true), (.bool false), (.bool false)] h) fun v173 h174 =>
 guardS v173 true (addrS 1 a3 fun v175 =>
 load1 v175 h174 fun v176 =>
 intS .geq v176 (.int .i64 1) fun v177 =>
 some (v177, h174)) h174 fun v178 h179 =>
 optS (pickV v173 v178 (.bool false)) fun v180 =>
 guardS v180 true (addrS 1 a3 fun v181 =>
 load1 v181 h179 fun v182 =>
 intS .leq v182 (.int .i64 17) fun v183 =>
 some (v183, h179)) h179 fun v184 h185 =>
 optS (pickV v180 v184 (.bool false)) fun v186 =>
 guardS v186 true (loadN 2 a2 h185 fun v187 =>
 loadN 6 a3 h185 fun v188 =>
 bindS (ih 164 [v187, v188, (.int .i64 2)] h185) fun v189 h190 =>
 some (v189, h190)) h185 fun v191 h192 =>
 optS (pickV v186 v191 (.bool false)) fun v193 =>
 some (v193, h192)) (
 intS .eql a10 (.int .u8 32) fun v194 =>
 ifS v194 (
 ih 73 [a2, a3, a5, a10, v194] h) (
 intS .eql a10 (.int .u8 33) fun v195 =>
 ifS v195 (
 ih 73 [a2, a3, a5, a10, v195] h) (
 intS .eql a10 (.int .u8 37) fun v196 =>
 ih 73 [a2, a3, a5, a10, v196] h)))))))))))
def B73 (ih : II) (a2 a3 a5 a10 a164 : V) (h : Hp) : VH :=
 ifS a164 (
 loadN 6 a3 h fun v197 =>
 bindS (ih 88 [v197, (.bool false), (.bool false), (.bool false)] h) fun v198 h199 =>
 guardS v198 true (loadN 2 a2 h199 fun v200 =>
 loadN 6 a3 h199 fun v201 =>
 bindS (ih 164 [v200, v201, (.int .i64 2)] h199) fun v202 h203 =>
 some (v202, h203)) h199 fun v204 h205 =>
 optS (pickV v198 v204 (.bool false)) fun v206 =>
 some (v206, h205)) (
 intS .eql a10 (.int .u8 34) fun v207 =>
 ifS v207 (
 loadN 6 a3 h fun v208 =>
 bindS (ih 88 [v208, (.bool true), (.bool false), (.bool false)] h) fun v209 h210 =>
 guardS v209 true (addrS 1 a3 fun v211 =>
 load1 v211 h210 fun v212 =>
 intS .geq v212 (.int .i64 18) fun v213 =>
 some (v213, h210)) h210 fun v214 h215 =>
 optS (pickV v209 v214 (.bool false)) fun v216 =>
 guardS v216 true (addrS 1 a3 fun v217 =>
 load1 v217 h215 fun v218 =>
 intS .leq v218 (.int .i64 21) fun v219 =>
 some (v219, h215)) h215 fun v220 h221 =>
 optS (pickV v216 v220 (.bool false)) fun v222 =>
 guardS v222 true (loadN 2 a2 h221 fun v223 =>
 loadN 6 a3 h221 fun v224 =>
 bindS (ih 164 [v223, v224, (.int .i64 1)] h221) fun v225 h226 =>
 some (v225, h226)) h221 fun v227 h228 =>
 optS (pickV v222 v227 (.bool false)) fun v229 =>
 some (v229, h228)) (
 intS .eql a10 (.int .u8 35) fun v230 =>
 ifS v230 (
 loadN 6 a3 h fun v231 =>
 bindS (ih 88 [v231, (.bool false), (.bool false), (.bool false)] h) fun v232 h233 =>
 guardS v232 true (loadN 2 a2 h233 fun v234 =>
 loadN 6 a3 h233 fun v235 =>
 bindS (ih 90 [v234, v235, (.int .i64 0), a5, (.func 84 [] [])] h233) fun v236 h237 =>
 some (v236, h237)) h233 fun v238 h239 =>
 optS (pickV v232 v238 (.bool false)) fun v240 =>
 some (v240, h239)) (
 loadN 6 a3 h fun v241 =>
 bindS (ih 88 [v241, (.bool false), (.bool false), (.bool false)] h) fun v242 h243 =>
 guardS v242 true (loadN 2 a2 h243 fun v244 =>
 loadN 6 a3 h243 fun v245 =>
 bindS (ih 164 [v244, v245, (.int .i64 1)] h243) fun v246 h247 =>
 some (v246, h247)) h243 fun v248 h249 =>
 optS (pickV v242 v248 (.bool false)) fun v250 =>
 some (v250, h249))))
def B98 (ih : II) (a0 : V) (h : Hp) : VH :=
 intS .geq a0 (.int .u8 20) fun v0 =>
 guardS v0 true (intS .leq a0 (.int .u8 35) fun v1 =>
 some (v1, h)) h fun v2 h3 =>
 optS (pickV v0 v2 (.bool false)) fun v4 =>
 guardS v4 false (intS .eql a0 (.int .u8 38) fun v5 =>
 some (v5, h3)) h3 fun v6 h7 =>
 optS (pickV v4 (.bool true) v6) fun v8 =>
 some (v8, h7)
def B96 (ih : II) (a0 a1 : V) (h : Hp) : VH :=
 newS 84 (vcells a0) h fun v0 h1 =>
 newS 64 (vcells a1) h1 fun v2 h3 =>
 addrS 4 v2 fun v4 =>
 load1 v4 h3 fun v5 =>
 bindS (lenSl v5 fun v => some (v, h3)) fun v6 h7 =>
 addrS 0 v2 fun v8 =>
 load1 v8 h7 fun v9 =>
 intS .eql v9 (.int .u8 2) fun v10 =>
 ifS v10 (
 loadN 6 v2 h7 fun v11 =>
 bindS (ih 88 [v11, (.bool false), (.bool false), (.bool true)] h7) fun v12 h13 =>
 guardS v12 true (addrS 3 v2 fun v14 =>
 load1 v14 h13 fun v15 =>
 bindS (ih 152 [v15, (.int .i64 1)] h13) fun v16 h17 =>
 some (v16, h17)) h13 fun v18 h19 =>
 optS (pickV v12 v18 (.bool false)) fun v20 =>
 guardS v20 true (loadN 2 v0 h19 fun v21 =>
 loadN 6 v2 h19 fun v22 =>
 bindS (ih 154 [v21, v22, (.int .i64 0), v6, (.int .i64 0)] h19) fun v23 h24 =>
 some (v23, h24)) h19 fun v25 h26 =>
 optS (pickV v20 v25 (.bool false)) fun v27 =>
 some (v27, h26)) (
 intS .eql v9 (.int .u8 3) fun v28 =>
 ifS v28 (
 addrS 1 v2 fun v29 =>
 load1 v29 h7 fun v30 =>
 loadN 6 v2 h7 fun v31 =>
 bindS (ih 88 [v31, (.bool true), (.bool false), (.bool false)] h7) fun v32 h33 =>
 guardS v32 true (addrS 1 v2 fun v34 =>
 load1 v34 h33 fun v35 =>
 intS .geq v35 (.int .i64 1) fun v36 =>
 some (v36, h33)) h33 fun v37 h38 =>
 optS (pickV v32 v37 (.bool false)) fun v39 =>
 guardS v39 true (addrS 1 v2 fun v40 =>
 load1 v40 h38 fun v41 =>
 intS .leq v41 (.int .i64 200) fun v42 =>
 some (v42, h38)) h38 fun v43 h44 =>
 optS (pickV v39 v43 (.bool false)) fun v45 =>
 guardS v45 true (intS .leq v30 v6 fun v46 =>
 some (v46, h44)) h44 fun v47 h48 =>
 optS (pickV v45 v47 (.bool false)) fun v49 =>
 guardS v49 true (loadN 2 v0 h48 fun v50 =>
 loadN 6 v2 h48 fun v51 =>
 bindS (ih 90 [v50, v51, (.int .i64 0), v30, (.func 78 [] [])] h48) fun v52 h53 =>
 some (v52, h53)) h48 fun v54 h55 =>
 optS (pickV v49 v54 (.bool false)) fun v56 =>
 guardS v56 true (loadN 2 v0 h55 fun v57 =>
 loadN 6 v2 h55 fun v58 =>
 bindS (ih 154 [v57, v58, v30, v6, (.int .i64 1)] h55) fun v59 h60 =>
 some (v59, h60)) h55 fun v61 h62 =>
 optS (pickV v56 v61 (.bool false)) fun v63 =>
 some (v63, h62)) (
 intS .eql v9 (.int .u8 4) fun v64 =>
 ifS v64 (
 loadN 6 v2 h7 fun v65 =>
 bindS (ih 88 [v65, (.bool false), (.bool false), (.bool false)] h7) fun v66 h67 =>
 guardS v66 true (intS .eql v6 (.int .i64 1) fun v68 =>
 some (v68, h67)) h67 fun v69 h70 =>
 optS (pickV v66 v69 (.bool false)) fun v71 =>
 guardS v71 true (loadN 2 v0 h70 fun v72 =>
 loadN 6 v2 h70 fun v73 =>
 bindS (ih 150 [v72, v73, (.int .i64 0)] h70) fun v74 h75 =>
 intS .eql v74 (.int .u8 29) fun v76 =>
 some (v76, h75)) h70 fun v77 h78 =>
 guardS v77 false (loadN 2 v0 h78 fun v79 =>
 loadN 6 v2 h78 fun v80 =>
 bindS (ih 150 [v79, v80, (.int .i64 0)] h78) fun v81 h82 =>
 intS .eql v81 (.int .u8 30) fun v83 =>
 some (v83, h82)) h78 fun v84 h85 =>
 guardS v71 true (optS (pickV v77 (.bool true) v84) fun v86 =>
 some (v86, h85)) h85 fun v87 h88 =>
 optS (pickV v71 v87 (.bool false)) fun v89 =>
 some (v89, h88)) (
 intS .eql v9 (.int .u8 5) fun v90 =>
 ifS v90 (
 loadN 6 v2 h7 fun v91 =>
 bindS (ih 88 [v91, (.bool false), (.bool false), (.bool false)] h7) fun v92 h93 =>
 guardS v92 true (intS .eql v6 (.int .i64 1) fun v94 =>
 some (v94, h93)) h93 fun v95 h96 =>
 optS (pickV v92 v95 (.bool false)) fun v97 =>
 guardS v97 true (loadN 2 v0 h96 fun v98 =>
 loadN 6 v2 h96 fun v99 =>
 bindS (ih 158 [v98, v99, (.int .i64 0)] h96) fun v100 h101 =>
 some (v100, h101)) h96 fun v102 h103 =>
 optS (pickV v97 v102 (.bool false)) fun v104 =>
 some (v104, h103)) (
 intS .eql v9 (.int .u8 6) fun v105 =>
 ifS v105 (
 loadN 6 v2 h7 fun v106 =>
 bindS (ih 88 [v106, (.bool false), (.bool false), (.bool false)] h7) fun v107 h108 =>
 guardS v107 true (intS .eql v6 (.int .i64 2) fun v109 =>
 some (v109, h108)) h108 fun v110 h111 =>
 optS (pickV v107 v110 (.bool false)) fun v112 =>
 guardS v112 true (loadN 2 v0 h111 fun v113 =>
 loadN 6 v2 h111 fun v114 =>
 bindS (ih 90 [v113, v114, (.int .i64 0), (.int .i64 1), (.func 49 [] [])] h111) fun v115 h116 =>
 some (v115, h116)) h111 fun v117 h118 =>
 optS (pickV v112 v117 (.bool false)) fun v119 =>
 guardS v119 true (loadN 2 v0 h118 fun v120 =>
 loadN 6 v2 h118 fun v121 =>
 bindS (ih 158 [v120, v121, (.int .i64 1)] h118) fun v122 h123 =>
 some (v122, h123)) h118 fun v124 h125 =>
 optS (pickV v119 v124 (.bool false)) fun v126 =>
 some (v126, h125)) (
 intS .eql v9 (.int .u8 7) fun v127 =>
 ifS v127 (
 loadN 6 v2 h7 fun v128 =>
 bindS (ih 88 [v128, (.bool false), (.bool false), (.bool false)] h7) fun v129 h130 =>
 guardS v129 true (intS .eql v6 (.int .i64 2) fun v131 =>
 some (v131, h130)) h130 fun v132 h133 =>
 optS (pickV v129 v132 (.bool false)) fun v134 =>
 guardS v134 true (loadN 2 v0 h133 fun v135 =>
 loadN 6 v2 h133 fun v136 =>
 bindS (ih 158 [v135, v136, (.int .i64 0)] h133) fun v137 h138 =>
 some (v137, h138)) h133 fun v139 h140 =>
 optS (pickV v134 v139 (.bool false)) fun v141 =>
 guardS v141 true (loadN 2 v0 h140 fun v142 =>
 loadN 6 v2 h140 fun v143 =>
 bindS (ih 90 [v142, v143, (.int .i64 1), (.int .i64 2), (.func 49 [] [])] h140) fun v144 h145 =>
 some (v144, h145)) h140 fun v146 h147 =>
 optS (pickV v141 v146 (.bool false)) fun v148 =>
 some (v148, h147)) (
 intS .eql v9 (.int .u8 8) fun v149 =>
 ifS v149 (
 loadN 6 v2 h7 fun v150 =>
 bindS (ih 88 [v150, (.bool false), (.bool false), (.bool false)] h7) fun v151 h152 =>
 guardS v151 true (loadN 2 v0 h152 fun v153 =>
 loadN 6 v2 h152 fun v154 =>
 bindS (ih 160 [v153, v154] h152) fun v155 h156 =>
 some (v155, h156)) h152 fun v157 h158 =>
 optS (pickV v151 v157 (.bool false)) fun v159 =>
 some (v159, h158)) (
 intS .eql v9 (.int .u8 9) fun v160 =>
 ifS v160 (
 loadN 6 v2 h7 fun v161 =>
 bindS (ih 88 [v161, (.bool false), (.bool false), (.bool true)] h7) fun v162 h163 =>
 guardS v162 true (addrS 3 v2 fun v164 =>
 load1 v164 h163 fun v165 =>
 bindS (lenSl v165 fun v => some (v, h163)) fun v166 h167 =>
 intS .eql v166 (.int .i64 1) fun v168 =>
 some (v168, h167)) h163 fun v169 h170 =>
 optS (pickV v162 v169 (.bool false)) fun v171 =>
 guardS v171 true (addrS 3 v2 fun v172 =>
 load1 v172 h170 fun v173 =>
 idxS 1 v173 (.int .i64 0) fun v174 =>
 load1 v174 h170 fun v175 =>
 bindS (ih 162 [v175] h170) fun v176 h177 =>
 some (v176, h177)) h170 fun v178 h179 =>
 optS (pickV v171 v178 (.bool false)) fun v180 =>
 guardS v180 true (intS .eql v6 (.int .i64 3) fun v181 =>
 some (v181, h179)) h179 fun v182 h183 =>
 guardS v182 false (intS .eql v6 (.int .i64 4) fun v184 =>
 some (v184, h183)) h183 fun v185 h186 =>
 guardS v180 true (optS (pickV v182 (.bool true) v185) fun v187 =>
 some (v187, h186)) h186 fun v188 h189 =>
 optS (pickV v180 v188 (.bool false)) fun v190 =>
 guardS v190 true (loadN 2 v0 h189 fun v191 =>
 loadN 6 v2 h189 fun v192 =>
 intS .sub v6 (.int .i64 1) fun v193 =>
 bindS (ih 90 [v191, v192, (.int .i64 0), v193, (.func 49 [] [])] h189) fun v194 h195 =>
 some (v194, h195)) h189 fun v196 h197 =>
 optS (pickV v190 v196 (.bool false)) fun v198 =>
 guardS v198 true (loadN 2 v0 h197 fun v199 =>
 loadN 6 v2 h197 fun v200 =>
 intS .sub v6 (.int .i64 1) fun v201 =>
 bindS (ih 158 [v199, v200, v201] h197) fun v202 h203 =>
 some (v202, h203)) h197 fun v204 h205 =>
 optS (pickV v198 v204 (.bool false)) fun v206 =>
 some (v206, h205)) (
 intS .eql v9 (.int .u8 10) fun v207 =>
 ifS v207 (
 loadN 6 v2 h7 fun v208 =>
 bindS (ih 88 [v208, (.bool false), (.bool false), (.bool true)] h7) fun v209 h210 =>
 guardS v209 true (addrS 3 v2 fun v211 =>
 load1 v211 h210 fun v212 =>
 bindS (ih 152 [v212, (.int .i64 1)] h210) fun v213 h214 =>
 some (v213, h214)) h210 fun v215 h216 =>
 optS (pickV v209 v215 (.bool false)) fun v217 =>
 guardS v217 true (intS .gtr v6 (.int .i64 1) fun v218 =>
 some (v218, h216)) h216 fun v219 h220 =>
 optS (pickV v217 v219 (.bool false)) fun v221 =>
 guardS v221 true (loadN 2 v0 h220 fun v222 =>
 loadN 6 v2 h220 fun v223 =>
 intS .sub v6 (.int .i64 1) fun v224 =>
 bindS (ih 154 [v222, v223, (.int .i64 0), v224, (.int .i64 1)] h220) fun v225 h226 =>
 some (v225, h226)) h220 fun v227 h228 =>
 optS (pickV v221 v227 (.bool false)) fun v229 =>
 guardS v229 true (loadN 2 v0 h228 fun v230 =>
 loadN 6 v2 h228 fun v231 =>
 intS .sub v6 (.int .i64 1) fun v232 =>
 bindS (ih 158 [v230, v231, v232] h228) fun v233 h234 =>
 some (v233, h234)) h228 fun v235 h236 =>
 optS (pickV v229 v235 (.bool false)) fun v237 =>
 some (v237, h236)) (
 intS .eql v9 (.int .u8 11) fun v238 =>
 ifS v238 (
 loadN 6 v2 h7 fun v239 =>
 bindS (ih 88 [v239, (.bool false), (.bool false), (.bool true)] h7) fun v240 h241 =>
 guardS v240 true (addrS 3 v2 fun v242 =>
 load1 v242 h241 fun v243 =>
 bindS (lenSl v243 fun v => some (v, h241)) fun v244 h245 =>
 intS .eql v244 (.int .i64 1) fun v246 =>
 some (v246, h245)) h241 fun v247 h248 =>
 optS (pickV v240 v247 (.bool false)) fun v249 =>
 guardS v249 true (addrS 3 v2 fun v250 =>
 load1 v250 h248 fun v251 =>
 idxS 1 v251 (.int .i64 0) fun v252 =>
 load1 v252 h248 fun v253 =>
 bindS (ih 162 [v253] h248) fun v254 h255 =>
 some (v254, h255)) h248 fun v256 h257 =>
 optS (pickV v249 v256 (.bool false)) fun v258 =>
 guardS v258 true (intS .eql v6 (.int .i64 1) fun v259 =>
 some (v259, h257)) h257 fun v260 h261 =>
 optS (pickV v258 v260 (.bool false)) fun v262 =>
 guardS v262 true (loadN 2 v0 h261 fun v263 =>
 loadN 6 v2 h261 fun v264 =>
 bindS (ih 150 [v263, v264, (.int .i64 0)] h261) fun v265 h266 =>
 intS .eql v265 (.int .u8 26) fun v267 =>
 some (v267, h266)) h261 fun v268 h269 =>
 optS (pickV v262 v268 (.bool false)) fun v270 =>
 some (v270, h269)) (
 intS .eql v9 (.int .u8 12) fun v271 =>
 ifS v271 (
 loadN 6 v2 h7 fun v272 =>
 bindS (ih 88 [v272, (.bool false), (.bool false), (.bool false)] h7) fun v273 h274 =>
 guardS v273 true (loadN 2 v0 h274 fun v275 =>
 loadN 6 v2 h274 fun v276 =>
 bindS (ih 154 [v275, v276, (.int .i64 0), v6, (.int .i64 0)] h274) fun v277 h278 =>
 some (v277, h278)) h274 fun v279 h280 =>
 optS (pickV v273 v279 (.bool false)) fun v281 =>
 some (v281, h280)) (
 intS .eql v9 (.int .u8 13) fun v282 =>
 ifS v282 (
 loadN 6 v2 h7 fun v283 =>
 bindS (ih 88 [v283, (.bool false), (.bool false), (.bool false)] h7) fun v284 h285 =>
 guardS v284 true (intS .eql v6 (.int .i64 0) fun v286 =>
 some (v286, h285)) h285 fun v287 h288 =>
 optS (pickV v284 v287 (.bool false)) fun v289 =>
 some (v289, h288)) (
 loadN 6 v2 h7 fun v290 =>
 bindS (ih 88 [v290, (.bool false), (.bool true), (.bool false)] h7) fun v291 h292 =>
 guardS v291 true (intS .eql v6 (.int .i64 0) fun v293 =>
 some (v293, h292)) h292 fun v294 h295 =>
 optS (pickV v291 v294 (.bool false)) fun v296 =>
 guardS v296 true (addrS 2 v2 fun v297 =>
 load1 v297 h295 fun v298 =>
 bindS (ih 162 [v298] h295) fun v299 h300 =>
 some (v299, h300)) h295 fun v301 h302 =>
 optS (pickV v296 v301 (.bool false)) fun v303 =>
 some (v303, h302)))))))))))))
def B92 (ih : II) (a0 : V) (h : Hp) : VH :=
 intS .geq a0 (.int .u8 2) fun v0 =>
 guardS v0 true (intS .leq a0 (.int .u8 15) fun v1 =>
 some (v1, h)) h fun v2 h3 =>
 optS (pickV v0 v2 (.bool false)) fun v4 =>
 some (v4, h3)
def B90 (ih : II) (a0 a1 a2 a3 a4 : V) (h : Hp) : VH :=
 newS 84 (vcells a0) h fun v0 h1 =>
 newS 64 (vcells a1) h1 fun v2 h3 =>
 ih 75 [a3, a4, v0, v2, a2] h3
def B75 (ih : II) (a3 a4 a5 a6 a11 : V) (h : Hp) : VH :=
 intS .lss a11 a3 fun v4 =>
 ifS v4 (
 loadN 2 a5 h fun v5 =>
 loadN 6 a6 h fun v6 =>
 bindS (ih 150 [v5, v6, a11] h) fun v7 h8 =>
 bindS (dynE ih a4 [v7] h8) fun v9 h10 =>
 notS v9 fun v11 =>
 ifS v11 (
 some ((.bool false), h10)) (
 intS .add a11 (.int .i64 1) fun v12 =>
 ih 75 [a3, a4, a5, a6, v12] h10)) (
 some ((.bool true), h))
def B88 (ih : II) (a0 a1 a2 a3 : V) (h : Hp) : VH :=
 newS 64 (vcells a0) h fun v0 h1 =>
 guardS a1 false (addrS 1 v0 fun v2 =>
 load1 v2 h1 fun v3 =>
 intS .eql v3 (.int .i64 0) fun v4 =>
 some (v4, h1)) h1 fun v5 h6 =>
 optS (pickV a1 (.bool true) v5) fun v7 =>
 guardS v7 true (some (a2, h6)) h6 fun v8 h9 =>
 guardS v8 false (addrS 2 v0 fun v10 =>
 load1 v10 h9 fun v11 =>
 strS .eql v11 (.str ⟨0, 0⟩) fun v12 =>
 some (v12, h9)) h9 fun v13 h14 =>
 guardS v7 true (optS (pickV v8 (.bool true) v13) fun v15 =>
 some (v15, h14)) h14 fun v16 h17 =>
 optS (pickV v7 v16 (.bool false)) fun v18 =>
 guardS v18 true (some (a3, h17)) h17 fun v19 h20 =>
 guardS v19 false (addrS 3 v0 fun v21 =>
 load1 v21 h20 fun v22 =>
 bindS (lenSl v22 fun v => some (v, h20)) fun v23 h24 =>
 intS .eql v23 (.int .i64 0) fun v25 =>
 some (v25, h24)) h20 fun v26 h27 =>
 guardS v18 true (optS (pickV v19 (.bool true) v26) fun v28 =>
 some (v28, h27)) h27 fun v29 h30 =>
 optS (pickV v18 v29 (.bool false)) fun v31 =>
 some (v31, h30)
def B94 (ih : II) (a0 : V) (h : Hp) : VH :=
 intS .neq a0 (.int .u8 12) fun v0 =>
 some (v0, h)
def B104 (ih : II) (a0 a1 : V) (h : Hp) : VH :=
 bindS (lenSl a0 fun v => some (v, h)) fun v0 h1 =>
 ih 77 [a0, a1, v0, (.int .i64 0)] h1
def B77 (ih : II) (a0 a1 a7 a8 : V) (h : Hp) : VH :=
 intS .lss a8 a7 fun v2 =>
 ifS v2 (
 idxS 1 a0 a8 fun v3 =>
 load1 v3 h fun v4 =>
 eqS .bool .eql a1 v4 fun v5 =>
 ifS v5 (
 some (a8, h)) (
 intS .add a8 (.int .i64 1) fun v6 =>
 ih 77 [a0, a1, a7, v6] h)) (
 some ((.int .i64 (-1)), h))
def B194 (ih : II) (a0 : V) (h : Hp) : VH :=
 eqS (.slice 101) .eql a0 .nilSlice fun v0 =>
 ifS v0 (
 some (.nilSlice, h)) (
 bindS (bldSl h [] 101 0 1 .nilPtr) fun v1 h2 =>
 bindS (appS 101 8 1 v1 a0 h2) fun v3 h4 =>
 some (v3, h4))
def B184 (ih : II) (a0 a1 : V) (h : Hp) : VH :=
 newS 50 (vcells a1) h fun v0 h1 =>
 bindS (ih 106 [a0] h1) fun v2 h3 =>
 nilS v2 fun v4 =>
 addrS 0 v4 fun v5 =>
 addrS 5 v5 fun v6 =>
 load1 v6 h3 fun v7 =>
 bindS (lenSl v7 fun v => some (v, h3)) fun v8 h9 =>
 intS .add v8 (.int .i64 1) fun v10 =>
 addrS 4 v0 fun v11 =>
 storeC v11 v10 h9 fun h12 =>
 nilS v2 fun v13 =>
 addrS 0 v13 fun v14 =>
 addrS 5 v14 fun v15 =>
 load1 v15 h12 fun v16 =>
 loadN 7 v0 h12 fun v17 =>
 bindS (bldSl ⟨h12.t, h12.n, h12.n⟩ [(0, v17)] 50 1 7 (.agg [(.int .u8 0), .nilSlice, .nilSlice, .nilSlice, (.int .i64 0), (.int .i64 0), (.int .i64 0)])) fun v18 h19 =>
 madeS h12.n h12.low h19 fun h20 =>
 bindS (appS 50 104 7 v16 v18 ⟨h20.t, h20.n, h20.n⟩) fun v21 h22 =>
 wroteS h20.low h22 fun h23 =>
 nilS v2 fun v24 =>
 addrS 0 v24 fun v25 =>
 addrS 5 v25 fun v26 =>
 storeC v26 v21 h23 fun h27 =>
 nilS v2 fun v28 =>
 addrS 0 v28 fun v29 =>
 addrS 5 v29 fun v30 =>
 load1 v30 h27 fun v31 =>
 bindS (lenSl v31 fun v => some (v, h27)) fun v32 h33 =>
 intS .sub v32 (.int .i64 1) fun v34 =>
 some (v34, h33)
def B192 (ih : II) (a0 a1 : V) (h : Hp) : VH :=
 newS 64 (vcells a1) h fun v0 h1 =>
 addrS 5 v0 fun v2 =>
 load1 v2 h1 fun v3 =>
 bindS (bldStruct h1 [(0, (.int .u8 11)), (6, v3)] (.agg [(.int .u8 0), .nilSlice, .nilSlice, .nilSlice, (.int .i64 0), (.int .i64 0), (.int .i64 0)]) (some [(0, 1), (1, 1), (2, 1), (3, 1), (4, 1), (5, 1), (6, 1)])) fun v4 h5 =>
 bindS (ih 184 [a0, v4] h5) fun v6 h7 =>
 newS 3 [(.int .i64 0)] h7 fun v8 h9 =>
 storeC v8 v6 h9 fun h10 =>
 bindS (ih 106 [a0] h10) fun v11 h12 =>
 nilS v11 fun v13 =>
 addrS 9 v13 fun v14 =>
 load1 v14 h12 fun v15 =>
 bindS (ih 256 [v15] h12) fun v16 h17 =>
 rngT itr0 v16 h17 (fun h18 =>
 addrS 5 v0 fun v23 =>
 load1 v23 h18 fun v24 =>
 bindS (ih 54 [a0, (.int .i64 41), v24] h18) fun v25 h26 =>
 some (.tuple [], h26)) fun v19 v20 h21 n22 =>
 nilS v20 fun v27 =>
 addrS 2 v27 fun v28 =>
 load1 v28 h21 fun v29 =>
 eqS (.pointer 46) .neq v29 .nilPtr fun v30 =>
 ifS v30 (
 nilS v20 fun v31 =>
 addrS 2 v31 fun v32 =>
 load1 v32 h21 fun v33 =>
 nilS v20 fun v34 =>
 addrS 2 v34 fun v35 =>
 load1 v35 h21 fun v36 =>
 nilS v36 fun v37 =>
 load1 v37 h21 fun v38 =>
 load1 v8 h21 fun v39 =>
 bindS (bldSl ⟨h21.t, h21.n, h21.n⟩ [(0, v39)] 3 1 1 (.int .i64 0)) fun v40 h41 =>
 madeS h21.n h21.low h41 fun h42 =>
 bindS (appS 3 8 1 v38 v40 ⟨h42.t, h42.n, h42.n⟩) fun v43 h44 =>
 cD ((pureB h42 h44 || sameA h42 h44 v32 (vcells v33).length) && true) (
 wroteS h42.low h44 fun h45 =>
 nilS v33 fun v46 =>
 storeC v46 v43 h45 fun h47 =>
 some (.tuple [], h47)) none) (
 n22 h21)
def B190 (ih : II) (a0 a1 : V) (h : Hp) : VH :=
 bindS (ih 106 [a0] h) fun v0 h1 =>
 nilS v0 fun v2 =>
 addrS 0 v2 fun v3 =>
 addrS 5 v3 fun v4 =>
 load1 v4 h1 fun v5 =>
 idxS 7 v5 a1 fun v6 =>
 some (v6, h1)
def B182 (ih : II) (a0 a1 : V) (h : Hp) : VH :=
 bindS (lenSl a1 fun v => some (v, h)) fun v0 h1 =>
 ih 79 [a0, .nilSlice, a1, v0, (.int .i64 0)] h1
def B79 (ih : II) (a0 a5 a8 a9 a10 : V) (h : Hp) : VH :=
 intS .lss a10 a9 fun v2 =>
 ifS v2 (
 idxS 1 a8 a10 fun v3 =>
 load1 v3 h fun v4 =>
 bindS (ih 252 [a0, v4] h) fun v5 h6 =>
 bindS (bldSl h6 [(0, v5)] 3 1 1 (.int .i64 0)) fun v7 h8 =>
 bindS (appS 3 8 1 a5 v7 h8) fun v9 h10 =>
 intS .add a10 (.int .i64 1) fun v11 =>
 ih 79 [a0, v9, a8, a9, v11] h10) (
 some (a5, h))
def B188 (ih : II) (a0 a1 : V) (h : Hp) : VH :=
 newS 64 (vcells a1) h fun v0 h1 =>
 addrS 4 v0 fun v2 =>
 load1 v2 h1 fun v3 =>
 ih 81 [a0, v0, .nilSlice, v3] h1
def B81 (ih : II) (a0 a3 a4 a5 : V) (h : Hp) : VH :=
 bindS (lenSl a5 fun v => some (v, h)) fun v4 h5 =>
 intS .gtr v4 (.int .i64 1) fun v6 =>
 ifS v6 (
 idxS 1 a5 (.int .i64 0) fun v7 =>
 load1 v7 h5 fun v8 =>
 bindS (ih 252 [a0, v8] h5) fun v9 h10 =>
 bindS (bldSl h10 [(0, v9)] 3 1 1 (.int .i64 0)) fun v11 h12 =>
 addrS 5 a3 fun v13 =>
 load1 v13 h12 fun v14 =>
 bindS (bldStruct h12 [(0, (.int .u8 4)), (3, v11), (6, v14)] (.agg [(.int .u8 0), .nilSlice, .nilSlice, .nilSlice, (.int .i64 0), (.int .i64 0), (.int .i64 0)]) (some [(0, 1), (1, 1), (2, 1), (3, 1), (4, 1), (5, 1), (6, 1)])) fun v15 h16 =>
 bindS (ih 184 [a0, v15] h16) fun v17 h18 =>
 idxS 1 a5 (.int .i64 1) fun v19 =>
 load1 v19 h18 fun v20 =>
 bindS (ih 58 [a0, v20, .nilPtr, .nilFunc] h18) fun v21 h22 =>
 bindS (lenSl a5 fun v => some (v, h22)) fun v23 h24 =>
 intS .gtr v23 (.int .i64 2) fun v25 =>
 ifS v25 (
 addrS 5 a3 fun v26 =>
 load1 v26 h24 fun v27 =>
 bindS (bldStruct h24 [(0, (.int .u8 11)), (6, v27)] (.agg [(.int .u8 0), .nilSlice, .nilSlice, .nilSlice, (.int .i64 0), (.int .i64 0), (.int .i64 0)]) (some [(0, 1), (1, 1), (2, 1), (3, 1), (4, 1), (5, 1), (6, 1)])) fun v28 h29 =>
 bindS (ih 184 [a0, v28] h29) fun v30 h31 =>
 bindS (bldSl h31 [(0, v30)] 3 1 1 (.int .i64 0)) fun v32 h33 =>
 bindS (appS 3 8 1 a4 v32 h33) fun v34 h35 =>
 ih 87 [a0, a3, v34, a5, v17] h35) (
 ih 87 [a0, a3, a4, a5, v17] h24)) (
 bindS (lenSl a5 fun v => some (v, h5)) fun v36 h37 =>
 intS .gtr v36 (.int .i64 0) fun v38 =>
 ifS v38 (
 idxS 1 a5 (.int .i64 0) fun v39 =>
 load1 v39 h37 fun v40 =>
 bindS (ih 58 [a0, v40, .nilPtr, .nilFunc] h37) fun v41 h42 =>
 ih 83 [a0, a4] h42) (
 ih 83 [a0, a4] h37))
def B83 (ih : II) (a0 a4 : V) (h : Hp) : VH :=
 bindS (lenSl a4 fun v => some (v, h)) fun v43 h44 =>
 ih 85 [a0, a4, v43, (.int .i64 0)] h44
def B85 (ih : II) (a0 a60 a61 a62 : V) (h : Hp) : VH :=
 intS .lss a62 a61 fun v45 =>
 ifS v45 (
 idxS 1 a60 a62 fun v46 =>
 load1 v46 h fun v47 =>
 bindS (ih 190 [a0, v47] h) fun v48 h49 =>
 bindS (ih 180 [a0] h49) fun v50 h51 =>
 nilS v48 fun v52 =>
 addrS 4 v52 fun v53 =>
 storeC v53 v50 h51 fun h54 =>
 intS .add a62 (.int .i64 1) fun v55 =>
 ih 85 [a0, a60, a61, v55] h54) (
 some (.tuple [], h))
def B87 (ih : II) (a0 a3 a4 a5 a7 : V) (h : Hp) : VH :=
 bindS (ih 190 [a0, a7] h) fun v56 h57 =>
 bindS (ih 180 [a0] h57) fun v58 h59 =>
 nilS v56 fun v60 =>
 addrS 5 v60 fun v61 =>
 storeC v61 v58 h59 fun h62 =>
 bindS (slSlK 3 1 (some (.int .i64 2)) none h62 a5) fun v63 h64 =>
 ih 81 [a0, a3, a4, v63] h64
def B186 (ih : II) (a0 a1 : V) (h : Hp) : VH :=
 newS 55 (vcells a0) h fun v0 h1 =>
 newS 64 (vcells a1) h1 fun v2 h3 =>
 newS 46 [.nilSlice] h3 fun v4 h5 =>
 addrS 4 v2 fun v6 =>
 load1 v6 h5 fun v7 =>
 newS 46 [.nilSlice] h5 fun v8 h9 =>
 storeC v8 v7 h9 fun h10 =>
 load1 v8 h10 fun v11 =>
 bindS (lenSl v11 fun v => some (v, h10)) fun v12 h13 =>
 intS .sub v12 (.int .i64 1) fun v14 =>
 load1 v0 h13 fun v15 =>
 bindS (ih 180 [v15] h13) fun v16 h17 =>
 addrS 0 v2 fun v18 =>
 load1 v18 h17 fun v19 =>
 intS .eql v19 (.int .u8 6) fun v20 =>
 ifS v20 (
 load1 v0 h17 fun v21 =>
 load1 v8 h17 fun v22 =>
 idxS 1 v22 (.int .i64 0) fun v23 =>
 load1 v23 h17 fun v24 =>
 bindS (ih 252 [v21, v24] h17) fun v25 h26 =>
 load1 v0 h26 fun v27 =>
 bindS (bldSl h26 [(0, v25)] 3 1 1 (.int .i64 0)) fun v28 h29 =>
 addrS 5 v2 fun v30 =>
 load1 v30 h29 fun v31 =>
 bindS (bldStruct h29 [(0, (.int .u8 4)), (3, v28), (6, v31)] (.agg [(.int .u8 0), .nilSlice, .nilSlice, .nilSlice, (.int .i64 0), (.int .i64 0), (.int .i64 0)]) (some [(0, 1), (1, 1), (2, 1), (3, 1), (4, 1), (5, 1), (6, 1)])) fun v32 h33 =>
 bindS (ih 184 [v27, v32] h33) fun v34 h35 =>
 load1 v0 h35 fun v36 =>
 load1 v8 h35 fun v37 =>
 idxS 1 v37 (.int .i64 1) fun v38 =>
 load1 v38 h35 fun v39 =>
 bindS (ih 58 [v36, v39, v4, .nilFunc] h35) fun v40 h41 =>
 ih 89 [v0, v2, v4, v16, v34] h41) (
 intS .eql v19 (.int .u8 7) fun v42 =>
 ifS v42 (
 newS 3 [(.int .i64 0)] h17 fun v43 h44 =>
 storeC v43 (.int .i64 (-1)) h44 fun h45 =>
 load1 v0 h45 fun v46 =>
 load1 v8 h45 fun v47 =>
 idxS 1 v47 (.int .i64 0) fun v48 =>
 load1 v48 h45 fun v49 =>
 bindS (ih 58 [v46, v49, v4, (.func 127 [] [v0, v8, v2, v43])] h45) fun v50 h51 =>
 load1 v0 h51 fun v52 =>
 load1 v43 h51 fun v53 =>
 bindS (ih 190 [v52, v53] ⟨h51.t, h51.n, h51.n⟩) fun v54 h55 =>
 wroteS h51.low h55 fun h56 =>
 load1 v0 h51 fun v57 =>
 cD (((pureB h51 h55) || sameA h51 h56 v0 (vcells v57).length) && true) (
 load1 v43 h51 fun v58 =>
 cD (((pureB h51 h55) || sameA h51 h56 v43 (vcells v58).length) && true) (
 bindS (ih 190 [v57, v58] ⟨h56.t, h56.n, h56.n⟩) fun v59 h60 =>
 wroteS h56.low h60 fun h61 =>
 load1 v43 h51 fun v62 =>
 cD (((pureB h56 h60) || sameA h56 h61 v43 (vcells v62).length) && (((pureB h51 h55) || sameA h51 h56 v43 (vcells v62).length) && true)) (
 intS .add v62 (.int .i64 2) fun v63 =>
 load1 v43 h51 fun v64 =>
 cD (((pureB h56 h60) || sameA h56 h61 v43 (vcells v64).length) && (((pureB h51 h55) || sameA h51 h56 v43 (vcells v64).length) && true)) (
 intS .add v64 (.int .i64 1) fun v65 =>
 nilS v54 fun v66 =>
 addrS 4 v66 fun v67 =>
 ptrE v67 fun b68 o69 => storeB (storeO Tryz.prog h61 3 b68 o69 v63) fun c70 =>
 cD (offP v43 b68 && true) (
 nilS v59 fun v71 =>
 addrS 5 v71 fun v72 =>
 storeC v72 v65 (h61.put b68 c70) fun h73 =>
 ih 89 [v0, v2, v4, v16, (.int .i64 (-1))] h73) none) none) none) none) none) (
 addrS 0 v2 fun v74 =>
 load1 v74 h17 fun v75 =>
 intS .eql v75 (.int .u8 10) fun v76 =>
 ifS v76 (
 ih 95 [v0, v2, v4, v8, v14, (.int .u8 7), (.int .u8 8)] h17) (
 ih 95 [v0, v2, v4, v8, v14, (.int .u8 5), (.int .u8 6)] h17)))
def B89 (ih : II) (a2 a3 a4 a7 a8 : V) (h : Hp) : VH :=
 load1 a2 h fun v77 =>
 addrS 5 a3 fun v78 =>
 load1 v78 h fun v79 =>
 bindS (bldStruct h [(0, (.int .u8 11)), (6, v79)] (.agg [(.int .u8 0), .nilSlice, .nilSlice, .nilSlice, (.int .i64 0), (.int .i64 0), (.int .i64 0)]) (some [(0, 1), (1, 1), (2, 1), (3, 1), (4, 1), (5, 1), (6, 1)])) fun v80 h81 =>
 bindS (ih 184 [v77, v80] h81) fun v82 h83 =>
 load1 a2 h83 fun v84 =>
 bindS (ih 190 [v84, v82] h83) fun v85 h86 =>
 nilS v85 fun v87 =>
 addrS 4 v87 fun v88 =>
 storeC v88 a7 h86 fun h89 =>
 intS .geq a8 (.int .i64 0) fun v90 =>
 ifS v90 (
 load1 a2 h89 fun v91 =>
 bindS (ih 190 [v91, a8] ⟨h89.t, h89.n, h89.n⟩) fun v92 h93 =>
 wroteS h89.low h93 fun h94 =>
 load1 a2 h89 fun v95 =>
 cD (((pureB h89 h93) || sameA h89 h94 a2 (vcells v95).length) && true) (
 bindS (ih 180 [v95] h94) fun v96 h97 =>
 nilS v92 fun v98 =>
 addrS 5 v98 fun v99 =>
 storeC v99 v96 h97 fun h100 =>
 ih 91 [a2, a4] h100) none) (
 ih 91 [a2, a4] h89)
def B91 (ih : II) (a2 a4 : V) (h : Hp) : VH :=
 load1 a4 h fun v101 =>
 bindS (lenSl v101 fun v => some (v, h)) fun v102 h103 =>
 ih 93 [a2, v101, v102, (.int .i64 0)] h103
def B93 (ih : II) (a2 a157 a158 a159 : V) (h : Hp) : VH :=
 intS .lss a159 a158 fun v104 =>
 ifS v104 (
 idxS 1 a157 a159 fun v105 =>
 load1 v105 h fun v106 =>
 load1 a2 h fun v107 =>
 bindS (ih 190 [v107, v106] ⟨h.t, h.n, h.n⟩) fun v108 h109 =>
 wroteS h.low h109 fun h110 =>
 load1 a2 h fun v111 =>
 cD (((pureB h h109) || sameA h h110 a2 (vcells v111).length) && true) (
 bindS (ih 180 [v111] h110) fun v112 h113 =>
 nilS v108 fun v114 =>
 addrS 4 v114 fun v115 =>
 storeC v115 v112 h113 fun h116 =>
 intS .add a159 (.int .i64 1) fun v117 =>
 ih 93 [a2, a157, a158, v117] h116) none) (
 some (.tuple [], h))
def B95 (ih : II) (a2 a3 a4 a5 a6 a11 a12 : V) (h : Hp) : VH :=
 load1 a2 h fun v118 =>
 load1 a5 h fun v119 =>
 bindS (slSlK 3 1 none (some a6) h v119) fun v120 h121 =>
 bindS (ih 182 [v118, v120] h) fun v122 h123 =>
 load1 a2 h123 fun v124 =>
 bindS (ih 108 [v124, a4] h123) fun v125 h126 =>
 load1 a2 h126 fun v127 =>
 addrS 5 a3 fun v128 =>
 load1 v128 h126 fun v129 =>
 bindS (ih 56 [v127, (.str ⟨0, 0⟩), v129] h126) fun v130 h131 =>
 load1 a2 h131 fun v132 =>
 addrS 5 a3 fun v133 =>
 load1 v133 h131 fun v134 =>
 bindS (ih 56 [v132, (.str ⟨0, 0⟩), v134] h131) fun v135 h136 =>
 load1 a2 h136 fun v137 =>
 addrS 5 a3 fun v138 =>
 load1 v138 h136 fun v139 =>
 bindS (ih 56 [v137, (.str ⟨0, 0⟩), v139] h136) fun v140 h141 =>
 load1 a2 h141 fun v142 =>
 bindS (bldSl h141 [(0, v130)] 3 1 1 (.int .i64 0)) fun v143 h144 =>
 addrS 5 a3 fun v145 =>
 load1 v145 h144 fun v146 =>
 bindS (bldStruct h144 [(0, a11), (1, v143), (3, v122), (6, v146)] (.agg [(.int .u8 0), .nilSlice, .nilSlice, .nilSlice, (.int .i64 0), (.int .i64 0), (.int .i64 0)]) (some [(0, 1), (1, 1), (2, 1), (3, 1), (4, 1), (5, 1), (6, 1)])) fun v147 h148 =>
 bindS (ih 184 [v142, v147] h148) fun v149 h150 =>
 bindS (bldSl h150 [(0, v130)] 3 1 1 (.int .i64 0)) fun v151 h152 =>
 addrS 3 a3 fun v153 =>
 load1 v153 h152 fun v154 =>
 bindS (lenSl v154 fun v => some (v, h152)) fun v155 h156 =>
 ih 97 [a2, a3, a4, a5, a6, a12, v151, v154, v155, (.int .i64 0)] h156
def B97 (ih : II) (a2 a3 a4 a5 a6 a12 a15 a64 a65 a66 : V) (h : Hp) : VH :=
 intS .lss a66 a65 fun v157 =>
 ifS v157 (
 idxS 1 a64 a66 fun v158 =>
 load1 v158 h fun v159 =>
 load1 a2 h fun v160 =>
 addrS 5 a3 fun v161 =>
 load1 v161 h fun v162 =>
 bindS (ih 56 [v160, v159, v162] h) fun v163 h164 =>
 bindS (bldSl h164 [(0, v163)] 3 1 1 (.int .i64 0)) fun v165 h166 =>
 bindS (appS 3 8 1 a15 v165 h166) fun v167 h168 =>
 intS .add a66 (.int .i64 1) fun v169 =>
 ih 97 [a2, a3, a4, a5, a6, a12, v167, a64, a65, v169] h168) (
 load1 a2 h fun v170 =>
 bindS (ih 180 [v170] h) fun v171 h172 =>
 load1 a2 h172 fun v173 =>
 addrS 5 a3 fun v174 =>
 load1 v174 h172 fun v175 =>
 bindS (bldStruct h172 [(0, a12), (1, a15), (6, v175)] (.agg [(.int .u8 0), .nilSlice, .nilSlice, .nilSlice, (.int .i64 0), (.int .i64 0), (.int .i64 0)]) (some [(0, 1), (1, 1), (2, 1), (3, 1), (4, 1), (5, 1), (6, 1)])) fun v176 h177 =>
 bindS (ih 184 [v173, v176] h177) fun v178 h179 =>
 load1 a2 h179 fun v180 =>
 load1 a5 h179 fun v181 =>
 idxS 1 v181 a6 fun v182 =>
 load1 v182 h179 fun v183 =>
 bindS (ih 58 [v180, v183, .nilPtr, .nilFunc] h179) fun v184 h185 =>
 load1 a2 h185 fun v186 =>
 bindS (ih 118 [v186] h185) fun v187 h188 =>
 ih 89 [a2, a3, a4, v171, v178] h188)
def B180 (ih : II) (a0 : V) (h : Hp) : VH :=
 bindS (ih 106 [a0] h) fun v0 h1 =>
 nilS v0 fun v2 =>
 addrS 0 v2 fun v3 =>
 addrS 5 v3 fun v4 =>
 load1 v4 h1 fun v5 =>
 bindS (lenSl v5 fun v => some (v, h1)) fun v6 h7 =>
 some (v6, h7)
def B176 (ih : II) (a0 a1 : V) (h : Hp) : VH :=
 bindS (ih 250 [a0, a1] h) fun v0 h1 =>
 intS .geq v0 (.int .i64 0) fun v2 =>
 some (v2, h1)
def B178 (ih : II) (a0 a1 : V) (h : Hp) : VH :=
 newS 103 (vcells a0) h fun v0 h1 =>
 addrS 0 v0 fun v2 =>
 load1 v2 h1 fun v3 =>
 addrS 2 a1 fun v4 =>
 load1 v4 h1 fun v5 =>
 strS .eql v3 v5 fun v6 =>
 some (v6, h1)
def B174 (ih : II) (a0 a1 : V) (h : Hp) : VH :=
 bindS (lenSl a0 fun v => some (v, h)) fun v0 h1 =>
 ih 99 [a0, a1, v0, (.int .i64 0)] h1
def B99 (ih : II) (a0 a1 a7 a8 : V) (h : Hp) : VH :=
 intS .lss a8 a7 fun v2 =>
 ifS v2 (
 idxS 1 a0 a8 fun v3 =>
 load1 v3 h fun v4 =>
 bindS (dynE ih a1 [v4] h) fun v5 h6 =>
 ifS v5 (
 some (a8, h6)) (
 intS .add a8 (.int .i64 1) fun v7 =>
 ih 99 [a0, a1, a7, v7] h6)) (
 some ((.int .i64 (-1)), h))
def B172 (ih : II) (a0 : V) (h : Hp) : VH :=
 newS 64 (vcells a0) h fun v0 h1 =>
 addrS 0 v0 fun v2 =>
 load1 v2 h1 fun v3 =>
 intS .eql v3 (.int .u8 33) fun v4 =>
 ifS v4 (
 some ((.int .i64 1), h1)) (
 intS .eql v3 (.int .u8 32) fun v5 =>
 ifS v5 (
 some ((.int .i64 2), h1)) (
 intS .eql v3 (.int .u8 34) fun v6 =>
 ifS v6 (
 some ((.int .i64 11), h1)) (
 intS .eql v3 (.int .u8 31) fun v7 =>
 ifS v7 (
 addrS 1 v0 fun v8 =>
 load1 v8 h1 fun v9 =>
 convI .u8 v9 fun v10 =>
 intS .geq v10 (.int .u8 12) fun v11 =>
 ifS v11 (
 some ((.int .i64 3), h1)) (
 intS .eql v10 (.int .u8 7) fun v12 =>
 ifS v12 (
 some ((.int .i64 4), h1)) (
 intS .eql v10 (.int .u8 8) fun v13 =>
 ifS v13 (
 some ((.int .i64 5), h1)) (
 intS .eql v10 (.int .u8 6) fun v14 =>
 ifS v14 (
 some ((.int .i64 6), h1)) (
 intS .eql v10 (.int .u8 9) fun v15 =>
 guardS v15 false (intS .eql v10 (.int .u8 10) fun v16 =>
 some (v16, h1)) h1 fun v17 h18 =>
 optS (pickV v15 (.bool true) v17) fun v19 =>
 ifS v19 (
 some ((.int .i64 7), h18)) (
 intS .eql v10 (.int .u8 11) fun v20 =>
 ifS v20 (
 some ((.int .i64 8), h18)) (
 intS .eql v10 (.int .u8 1) fun v21 =>
 guardS v21 false (intS .eql v10 (.int .u8 2) fun v22 =>
 some (v22, h18)) h18 fun v23 h24 =>
 optS (pickV v21 (.bool true) v23) fun v25 =>
 ifS v25 (
 some ((.int .i64 9), h24)) (
 some ((.int .i64 10), h24))))))))) (
 some ((.int .i64 12), h1)))))
def B170 (ih : II) (a0 a1 a2 : V) (h : Hp) : VH :=
 addrS 0 a1 fun v0 =>
 addrS 0 v0 fun v1 =>
 load1 v1 h fun v2 =>
 addrS 4 a2 fun v3 =>
 load1 v3 h fun v4 =>
 idxS 1 v4 a0 fun v5 =>
 load1 v5 h fun v6 =>
 idxS 6 v2 v6 fun v7 =>
 loadN 6 v7 h fun v8 =>
 bindS (ih 172 [v8] h) fun v9 h10 =>
 some (v9, h10)
def B164 (ih : II) (a0 a1 a2 : V) (h : Hp) : VH :=
 newS 84 (vcells a0) h fun v0 h1 =>
 newS 64 (vcells a1) h1 fun v2 h3 =>
 addrS 4 v2 fun v4 =>
 load1 v4 h3 fun v5 =>
 bindS (lenSl v5 fun v => some (v, h3)) fun v6 h7 =>
 intS .eql v6 a2 fun v8 =>
 guardS v8 true (loadN 2 v0 h7 fun v9 =>
 loadN 6 v2 h7 fun v10 =>
 bindS (ih 90 [v9, v10, (.int .i64 0), a2, (.func 49 [] [])] h7) fun v11 h12 =>
 some (v11, h12)) h7 fun v13 h14 =>
 optS (pickV v8 v13 (.bool false)) fun v15 =>
 some (v15, h14)
def B154 (ih : II) (a0 a1 a2 a3 a4 : V) (h : Hp) : VH :=
 newS 84 (vcells a0) h fun v0 h1 =>
 newS 64 (vcells a1) h1 fun v2 h3 =>
 intS .sub a3 a2 fun v4 =>
 intS .geq v4 a4 fun v5 =>
 guardS v5 true (intS .sub a3 a2 fun v6 =>
 intS .leq v6 (.int .i64 200) fun v7 =>
 some (v7, h3)) h3 fun v8 h9 =>
 optS (pickV v5 v8 (.bool false)) fun v10 =>
 guardS v10 true (loadN 2 v0 h9 fun v11 =>
 loadN 6 v2 h9 fun v12 =>
 bindS (ih 90 [v11, v12, a2, a3, (.func 49 [] [])] h9) fun v13 h14 =>
 some (v13, h14)) h9 fun v15 h16 =>
 optS (pickV v10 v15 (.bool false)) fun v17 =>
 some (v17, h16)
def B166 (ih : II) (a0 : V) (h : Hp) : VH :=
 intS .geq a0 (.int .u8 27) fun v0 =>
 guardS v0 true (intS .leq a0 (.int .u8 30) fun v1 =>
 some (v1, h)) h fun v2 h3 =>
 optS (pickV v0 v2 (.bool false)) fun v4 =>
 guardS v4 false (intS .eql a0 (.int .u8 38) fun v5 =>
 some (v5, h3)) h3 fun v6 h7 =>
 optS (pickV v4 (.bool true) v6) fun v8 =>
 some (v8, h7)
def B150 (ih : II) (a0 a1 a2 : V) (h : Hp) : VH :=
 newS 84 (vcells a0) h fun v0 h1 =>
 newS 64 (vcells a1) h1 fun v2 h3 =>
 addrS 0 v0 fun v4 =>
 addrS 0 v4 fun v5 =>
 load1 v5 h3 fun v6 =>
 addrS 4 v2 fun v7 =>
 load1 v7 h3 fun v8 =>
 idxS 1 v8 a2 fun v9 =>
 load1 v9 h3 fun v10 =>
 idxS 6 v6 v10 fun v11 =>
 addrS 0 v11 fun v12 =>
 load1 v12 h3 fun v13 =>
 some (v13, h3)
def B162 (ih : II) (a0 : V) (h : Hp) : VH :=
 strS .eql a0 (.str ⟨0, 0⟩) fun v0 =>
 guardS v0 false (bindS (lenStr a0 fun v => some (v, h)) fun v1 h2 =>
 intS .gtr v1 (.int .i64 60) fun v3 =>
 some (v3, h2)) h fun v4 h5 =>
 optS (pickV v0 (.bool true) v4) fun v6 =>
 guardS v6 false (idxStr a0 (.int .i64 0) fun v7 =>
 bindS (ih 244 [v7] h5) fun v8 h9 =>
 some (v8, h9)) h5 fun v10 h11 =>
 optS (pickV v6 (.bool true) v10) fun v12 =>
 guardS v12 false (bindS (ih 246 [a0] h11) fun v13 h14 =>
 some (v13, h14)) h11 fun v15 h16 =>
 optS (pickV v12 (.bool true) v15) fun v17 =>
 ifS v17 (
 some ((.bool false), h16)) (
 bindS (lenStr a0 fun v => some (v, h16)) fun v18 h19 =>
 ih 101 [a0, v18, (.int .i64 0)] h19)
def B101 (ih : II) (a0 a21 a22 : V) (h : Hp) : VH :=
 intS .lss a22 a21 fun v20 =>
 ifS v20 (
 idxStr a0 a22 fun v21 =>
 bindS (ih 248 [v21] h) fun v22 h23 =>
 notS v22 fun v24 =>
 guardS v24 true (idxStr a0 a22 fun v25 =>
 bindS (ih 244 [v25] h23) fun v26 h27 =>
 notS v26 fun v28 =>
 some (v28, h27)) h23 fun v29 h30 =>
 optS (pickV v24 v29 (.bool false)) fun v31 =>
 ifS v31 (
 some ((.bool false), h30)) (
 intS .add a22 (.int .i64 1) fun v32 =>
 ih 101 [a0, a21, v32] h30)) (
 some ((.bool true), h))
def B158 (ih : II) (a0 a1 a2 : V) (h : Hp) : VH :=
 newS 84 (vcells a0) h fun v0 h1 =>
 newS 64 (vcells a1) h1 fun v2 h3 =>
 loadN 2 v0 h3 fun v4 =>
 loadN 6 v2 h3 fun v5 =>
 bindS (ih 150 [v4, v5, a2] h3) fun v6 h7 =>
 intS .eql v6 (.int .u8 1) fun v8 =>
 some (v8, h7)
def B152 (ih : II) (a0 a1 : V) (h : Hp) : VH :=
 bindS (lenSl a0 fun v => some (v, h)) fun v0 h1 =>
 intS .geq v0 a1 fun v2 =>
 guardS v2 true (bindS (lenSl a0 fun v => some (v, h1)) fun v3 h4 =>
 intS .leq v3 (.int .i64 200) fun v5 =>
 some (v5, h4)) h1 fun v6 h7 =>
 optS (pickV v2 v6 (.bool false)) fun v8 =>
 guardS v8 true (bindS (ih 240 [a0, (.func 121 [] [])] h7) fun v9 h10 =>
 notS v9 fun v11 =>
 some (v11, h10)) h7 fun v12 h13 =>
 optS (pickV v8 v12 (.bool false)) fun v14 =>
 some (v14, h13)
def B168 (ih : II) (a0 : V) (h : Hp) : VH :=
 intS .eql a0 (.int .u8 36) fun v0 =>
 guardS v0 false (intS .eql a0 (.int .u8 37) fun v1 =>
 some (v1, h)) h fun v2 h3 =>
 optS (pickV v0 (.bool true) v2) fun v4 =>
 some (v4, h3)
def B160 (ih : II) (a0 a1 : V) (h : Hp) : VH :=
 newS 84 (vcells a0) h fun v0 h1 =>
 newS 64 (vcells a1) h1 fun v2 h3 =>
 addrS 4 v2 fun v4 =>
 load1 v4 h3 fun v5 =>
 bindS (lenSl v5 fun v => some (v, h3)) fun v6 h7 =>
 ih 103 [v0, v2, v6, (.int .i64 0)] h7
def B103 (ih : II) (a2 a3 a5 a6 : V) (h : Hp) : VH :=
 intS .add a6 (.int .i64 1) fun v8 =>
 intS .lss v8 a5 fun v9 =>
 ifS v9 (
 loadN 2 a2 h fun v10 =>
 loadN 6 a3 h fun v11 =>
 bindS (ih 150 [v10, v11, a6] h) fun v12 h13 =>
 bindS (ih 98 [v12] h13) fun v14 h15 =>
 notS v14 fun v16 =>
 guardS v16 false (loadN 2 a2 h15 fun v17 =>
 loadN 6 a3 h15 fun v18 =>
 intS .add a6 (.int .i64 1) fun v19 =>
 bindS (ih 158 [v17, v18, v19] h15) fun v20 h21 =>
 notS v20 fun v22 =>
 some (v22, h21)) h15 fun v23 h24 =>
 optS (pickV v16 (.bool true) v23) fun v25 =>
 ifS v25 (
 some ((.bool false), h24)) (
 intS .add a6 (.int .i64 2) fun v26 =>
 ih 103 [a2, a3, a5, v26] h24)) (
 intS .geq a5 (.int .i64 2) fun v27 =>
 guardS v27 true (intS .rem a5 (.int .i64 2) fun v28 =>
 intS .eql v28 (.int .i64 0) fun v29 =>
 some (v29, h)) h fun v30 h31 =>
 guardS v30 false (loadN 2 a2 h31 fun v32 =>
 loadN 6 a3 h31 fun v33 =>
 intS .sub a5 (.int .i64 1) fun v34 =>
 bindS (ih 158 [v32, v33, v34] h31) fun v35 h36 =>
 some (v35, h36)) h31 fun v37 h38 =>
 guardS v27 true (optS (pickV v30 (.bool true) v37) fun v39 =>
 some (v39, h38)) h38 fun v40 h41 =>
 optS (pickV v27 v40 (.bool false)) fun v42 =>
 some (v42, h41))
def B156 (ih : II) (a0 : V) (h : Hp) : VH :=
 intS .eql a0 (.int .u8 27) fun v0 =>
 guardS v0 false (intS .eql a0 (.int .u8 28) fun v1 =>
 some (v1, h)) h fun v2 h3 =>
 optS (pickV v0 (.bool true) v2) fun v4 =>
 some (v4, h3)
def B256 (ih : II) (a0 : V) (h : Hp) : VH :=
 newS 66 (vcells a0) h fun v0 h1 =>
 some ((.func 149 [] [v0]), h1)
def B252 (ih : II) (a0 a1 : V) (h : Hp) : VH :=
 nilS a0 fun v0 =>
 addrS 0 v0 fun v1 =>
 addrS 0 v1 fun v2 =>
 load1 v2 h fun v3 =>
 idxS 6 v3 a1 fun v4 =>
 loadN 6 v4 h fun v5 =>
 newS 64 [(.int .u8 0), (.int .i64 0), (.str ⟨0, 0⟩), .nilSlice, .nilSlice, (.int .i64 0)] h fun v6 h7 =>
 storeN 6 v6 v5 h7 fun h8 =>
 newS 53 [(.int .u8 0), (.int .i64 0), .nilSlice] h8 fun v9 h10 =>
 addrS 0 v6 fun v11 =>
 load1 v11 h10 fun v12 =>
 bindS (ih 290 [v12] ⟨h10.t, h10.n, h10.n⟩) fun v13 h14 =>
 cD ((pureB h10 h14 || sameLd h10 h14 (fent v9 53 [(.int .u8 0), (.int .i64 0), .nilSlice])) && true) (
 wroteS h10.low h14 fun h15 =>
 addrS 1 v6 fun v16 =>
 load1 v16 h10 fun v17 =>
 cD (((pureB h10 h14) || sameA h10 h15 v16 (vcells v17).length) && true) (
 bindS (bldStruct h15 [(0, v13), (1, v17)] (.agg [(.int .u8 0), (.int .i64 0), .nilSlice]) (some [(0, 1), (1, 1), (2, 1)])) fun v18 h19 =>
 storeN 3 v9 v18 h15 fun h20 =>
 addrS 0 v6 fun v21 =>
 load1 v21 h20 fun v22 =>
 intS .eql v22 (.int .u8 27) fun v23 =>
 ifS v23 (
 loadN 6 v6 h20 fun v24 =>
 bindS (ih 294 [a0, v24] h20) fun v25 h26 =>
 bindS (ih 292 [a0, v25] h26) fun v27 h28 =>
 some (v27, h28)) (
 intS .eql v22 (.int .u8 24) fun v29 =>
 ifS v29 (
 addrS 2 v6 fun v30 =>
 load1 v30 h20 fun v31 =>
 bindS (ih 296 [a0, v31] h20) fun v32 h33 =>
 addrS 1 v9 fun v34 =>
 storeC v34 v32 h33 fun h35 =>
 ih 105 [a0, v9] h35) (
 intS .eql v22 (.int .u8 30) fun v36 =>
 ifS v36 (
 addrS 2 v6 fun v37 =>
 load1 v37 h20 fun v38 =>
 bindS (ih 296 [a0, v38] h20) fun v39 h40 =>
 addrS 1 v9 fun v41 =>
 storeC v41 v39 h40 fun h42 =>
 addrS 4 v6 fun v43 =>
 load1 v43 h42 fun v44 =>
 bindS (ih 182 [a0, v44] h42) fun v45 h46 =>
 addrS 2 v9 fun v47 =>
 storeC v47 v45 h46 fun h48 =>
 ih 105 [a0, v9] h48) (
 intS .eql v22 (.int .u8 26) fun v49 =>
 ifS v49 (
 loadN 6 v6 h20 fun v50 =>
 bindS (ih 30 [a0, v50] h20) fun v51 h52 =>
 addrS 1 v9 fun v53 =>
 storeC v53 v51 h52 fun h54 =>
 ih 105 [a0, v9] h54) (
 intS .eql v22 (.int .u8 25) fun v55 =>
 ifS v55 (
 bindS (ih 106 [a0] h20) fun v56 h57 =>
 nilS v56 fun v58 =>
 addrS 0 v58 fun v59 =>
 addrS 1 v59 fun v60 =>
 load1 v60 h57 fun v61 =>
 notS v61 fun v62 =>
 ifS v62 (
 addrS 5 v6 fun v63 =>
 load1 v63 h57 fun v64 =>
 bindS (ih 54 [a0, (.int .i64 45), v64] h57) fun v65 h66 =>
 ih 105 [a0, v9] h66) (
 ih 105 [a0, v9] h57)) (
 addrS 4 v6 fun v67 =>
 load1 v67 h20 fun v68 =>
 bindS (ih 182 [a0, v68] h20) fun v69 h70 =>
 addrS 2 v9 fun v71 =>
 storeC v71 v69 h70 fun h72 =>
 ih 105 [a0, v9] h72)))))) none) none
def B105 (ih : II) (a0 a6 : V) (h : Hp) : VH :=
 loadN 3 a6 h fun v73 =>
 bindS (ih 292 [a0, v73] h) fun v74 h75 =>
 some (v74, h75)
def B254 (ih : II) (a0 a1 a2 a3 : V) (h : Hp) : VH :=
 load1 a0 h fun v0 =>
 load1 a1 h fun v1 =>
 idxS 1 v1 (.int .i64 1) fun v2 =>
 load1 v2 h fun v3 =>
 bindS (ih 252 [v0, v3] h) fun v4 h5 =>
 load1 a0 h5 fun v6 =>
 bindS (bldSl h5 [(0, v4)] 3 1 1 (.int .i64 0)) fun v7 h8 =>
 addrS 5 a2 fun v9 =>
 load1 v9 h8 fun v10 =>
 bindS (bldStruct h8 [(0, (.int .u8 4)), (3, v7), (6, v10)] (.agg [(.int .u8 0), .nilSlice, .nilSlice, .nilSlice, (.int .i64 0), (.int .i64 0), (.int .i64 0)]) (some [(0, 1), (1, 1), (2, 1), (3, 1), (4, 1), (5, 1), (6, 1)])) fun v11 h12 =>
 bindS (ih 184 [v6, v11] h12) fun v13 h14 =>
 storeC a3 v13 h14 fun h15 =>
 some (.tuple [], h15)
def B250 (ih : II) (a0 a1 : V) (h : Hp) : VH :=
 bindS (lenSl a0 fun v => some (v, h)) fun v0 h1 =>
 ih 107 [a0, a1, v0, (.int .i64 0)] h1
def B107 (ih : II) (a0 a1 a7 a8 : V) (h : Hp) : VH :=
 intS .lss a8 a7 fun v2 =>
 ifS v2 (
 idxS 3 a0 a8 fun v3 =>
 loadN 3 v3 h fun v4 =>
 bindS (dynE ih a1 [v4] h) fun v5 h6 =>
 ifS v5 (
 some (a8, h6)) (
 intS .add a8 (.int .i64 1) fun v7 =>
 ih 107 [a0, a1, a7, v7] h6)) (
 some ((.int .i64 (-1)), h))
def B244 (ih : II) (a0 : V) (h : Hp) : VH :=
 bindS (ih 286 [(.int .u8 48), a0, (.int .u8 57)] h) fun v0 h1 =>
 some (v0, h1)
def B248 (ih : II) (a0 : V) (h : Hp) : VH :=
 bindS (ih 286 [(.int .u8 97), a0, (.int .u8 122)] h) fun v0 h1 =>
 guardS v0 false (bindS (ih 286 [(.int .u8 65), a0, (.int .u8 90)] h1) fun v2 h3 =>
 some (v2, h3)) h1 fun v4 h5 =>
 optS (pickV v0 (.bool true) v4) fun v6 =>
 guardS v6 false (intS .eql a0 (.int .u8 95) fun v7 =>
 some (v7, h5)) h5 fun v8 h9 =>
 optS (pickV v6 (.bool true) v8) fun v10 =>
 some (v10, h9)
def B246 (ih : II) (a0 : V) (h : Hp) : VH :=
 strS .neq a0 (.str ⟨0, 0⟩) fun v0 =>
 guardS v0 true (bindS (ih 288 [a0, (.str ⟨1, 32⟩)] h) fun v1 h2 =>
 notS v1 fun v3 =>
 some (v3, h2)) h fun v4 h5 =>
 optS (pickV v0 v4 (.bool false)) fun v6 =>
 guardS v6 true (strS .add (.str ⟨1, 32⟩) a0 fun v7 =>
 strS .add v7 (.str ⟨1, 32⟩) fun v8 =>
 bindS (ih 288 [(.str ⟨113, 17114727619812652865831592289240362729846247184396431686340976947246213244203127547449191376236204538493561187876213366597712742219312077217799013184980281018523815296416470444940759774119422513229535319500938016196420794042916494387837719131367459550913945883633037238560⟩), v8] h5) fun v9 h10 =>
 some (v9, h10)) h5 fun v11 h12 =>
 optS (pickV v6 v11 (.bool false)) fun v13 =>
 some (v13, h12)
def B240 (ih : II) (a0 a1 : V) (h : Hp) : VH :=
 bindS (ih 284 [a0, a1] h) fun v0 h1 =>
 intS .geq v0 (.int .i64 0) fun v2 =>
 some (v2, h1)
def B242 (ih : II) (a0 : V) (h : Hp) : VH :=
 bindS (ih 162 [a0] h) fun v0 h1 =>
 notS v0 fun v2 =>
 some (v2, h1)
def B292 (ih : II) (a0 a1 : V) (h : Hp) : VH :=
 newS 53 (vcells a1) h fun v0 h1 =>
 bindS (ih 106 [a0] h1) fun v2 h3 =>
 nilS v2 fun v4 =>
 addrS 0 v4 fun v5 =>
 addrS 6 v5 fun v6 =>
 load1 v6 h3 fun v7 =>
 loadN 3 v0 h3 fun v8 =>
 bindS (bldSl ⟨h3.t, h3.n, h3.n⟩ [(0, v8)] 53 1 3 (.agg [(.int .u8 0), (.int .i64 0), .nilSlice])) fun v9 h10 =>
 madeS h3.n h3.low h10 fun h11 =>
 bindS (appS 53 40 3 v7 v9 ⟨h11.t, h11.n, h11.n⟩) fun v12 h13 =>
 wroteS h11.low h13 fun h14 =>
 nilS v2 fun v15 =>
 addrS 0 v15 fun v16 =>
 addrS 6 v16 fun v17 =>
 storeC v17 v12 h14 fun h18 =>
 nilS v2 fun v19 =>
 addrS 0 v19 fun v20 =>
 addrS 6 v20 fun v21 =>
 load1 v21 h18 fun v22 =>
 bindS (lenSl v22 fun v => some (v, h18)) fun v23 h24 =>
 intS .sub v23 (.int .i64 1) fun v25 =>
 some (v25, h24)
def B296 (ih : II) (a0 a1 : V) (h : Hp) : VH :=
 nilS a0 fun v0 =>
 addrS 4 v0 fun v1 =>
 load1 v1 h fun v2 =>
 bindS (lookS .string (some (.int .i64 0)) true v2 a1 h) fun v3 h4 =>
 extS 0 v3 fun v5 =>
 extS 1 v3 fun v6 =>
 notS v6 fun v7 =>
 ifS v7 (
 nilS a0 fun v8 =>
 addrS 4 v8 fun v9 =>
 load1 v9 h4 fun v10 =>
 nilS a0 fun v11 =>
 addrS 2 v11 fun v12 =>
 addrS 0 v12 fun v13 =>
 load1 v13 h4 fun v14 =>
 bindS (lenSl v14 fun v => some (v, h4)) fun v15 h16 =>
 bindS (updS .string v10 a1 v15 h4) fun v17 h18 =>
 nilS a0 fun v19 =>
 addrS 2 v19 fun v20 =>
 addrS 0 v20 fun v21 =>
 load1 v21 h18 fun v22 =>
 bindS (bldSl h18 [(0, a1)] 9 1 1 (.str ⟨0, 0⟩)) fun v23 h24 =>
 bindS (appS 9 16 1 v22 v23 h24) fun v25 h26 =>
 nilS a0 fun v27 =>
 addrS 2 v27 fun v28 =>
 addrS 0 v28 fun v29 =>
 storeC v29 v25 h26 fun h30 =>
 ih 111 [a0, a1] h30) (
 ih 111 [a0, a1] h4)
def B111 (ih : II) (a0 a1 : V) (h : Hp) : VH :=
 nilS a0 fun v31 =>
 addrS 4 v31 fun v32 =>
 load1 v32 h fun v33 =>
 bindS (lookS .string (some (.int .i64 0)) false v33 a1 h) fun v34 h35 =>
 some (v34, h35)
def B294 (ih : II) (a0 a1 : V) (h : Hp) : VH :=
 newS 64 (vcells a1) h fun v0 h1 =>
 newS 53 [(.int .u8 0), (.int .i64 0), .nilSlice] h1 fun v2 h3 =>
 bindS (ih 106 [a0] ⟨h3.t, h3.n, h3.n⟩) fun v4 h5 =>
 wroteS h3.low h5 fun h6 =>
 addrS 2 v0 fun v7 =>
 load1 v7 h3 fun v8 =>
 cD (((pureB h3 h5) || sameA h3 h6 v7 (vcells v8).length) && true) (
 bindS (ih 324 [v4, v8] h6) fun v9 h10 =>
 intS .geq v9 (.int .i64 0) fun v11 =>
 ifS v11 (
 bindS (bldStruct h10 [(0, (.int .u8 8)), (1, v9)] (.agg [(.int .u8 0), (.int .i64 0), .nilSlice]) (some [(0, 1), (1, 1), (2, 1)])) fun v12 h13 =>
 storeN 3 v2 v12 h13 fun h14 =>
 loadN 3 v2 h14 fun v15 =>
 some (v15, h14)) (
 nilS a0 fun v16 =>
 addrS 5 v16 fun v17 =>
 load1 v17 h10 fun v18 =>
 bindS (lenSl v18 fun v => some (v, h10)) fun v19 h20 =>
 intS .sub v19 (.int .i64 1) fun v21 =>
 addrS 2 v0 fun v22 =>
 load1 v22 h10 fun v23 =>
 addrS 5 v0 fun v24 =>
 load1 v24 h10 fun v25 =>
 bindS (ih 326 [a0, v21, v23, v25] h10) fun v26 h27 =>
 intS .geq v26 (.int .i64 0) fun v28 =>
 ifS v28 (
 bindS (bldStruct h27 [(0, (.int .u8 9)), (1, v26)] (.agg [(.int .u8 0), (.int .i64 0), .nilSlice]) (some [(0, 1), (1, 1), (2, 1)])) fun v29 h30 =>
 storeN 3 v2 v29 h30 fun h31 =>
 loadN 3 v2 h31 fun v32 =>
 some (v32, h31)) (
 addrS 2 v0 fun v33 =>
 load1 v33 h27 fun v34 =>
 bindS (ih 296 [a0, v34] h27) fun v35 h36 =>
 bindS (bldStruct h36 [(0, (.int .u8 10)), (1, v35)] (.agg [(.int .u8 0), (.int .i64 0), .nilSlice]) (some [(0, 1), (1, 1), (2, 1)])) fun v37 h38 =>
 storeN 3 v2 v37 h38 fun h39 =>
 loadN 3 v2 h39 fun v40 =>
 some (v40, h39)))) none
def B290 (ih : II) (a0 : V) (h : Hp) : VH :=
 intS .eql a0 (.int .u8 20) fun v0 =>
 ifS v0 (
 ih 113 [a0, a0, v0] h) (
 intS .eql a0 (.int .u8 21) fun v1 =>
 ifS v1 (
 ih 113 [a0, a0, v1] h) (
 intS .eql a0 (.int .u8 22) fun v2 =>
 ifS v2 (
 ih 113 [a0, a0, v2] h) (
 intS .eql a0 (.int .u8 23) fun v3 =>
 ifS v3 (
 ih 113 [a0, a0, v3] h) (
 intS .eql a0 (.int .u8 24) fun v4 =>
 ifS v4 (
 ih 113 [a0, a0, v4] h) (
 intS .eql a0 (.int .u8 25) fun v5 =>
 ifS v5 (
 ih 113 [a0, a0, v5] h) (
 intS .eql a0 (.int .u8 26) fun v6 =>
 ih 113 [a0, a0, v6] h))))))
def B113 (ih : II) (a0 a3 a4 : V) (h : Hp) : VH :=
 ifS a4 (
 intS .sub a0 (.int .u8 20) fun v7 =>
 intS .add v7 (.int .u8 1) fun v8 =>
 some (v8, h)) (
 intS .eql a3 (.int .u8 28) fun v9 =>
 ifS v9 (
 ih 115 [a0, v9] h) (
 intS .eql a3 (.int .u8 29) fun v10 =>
 ifS v10 (
 ih 115 [a0, v10] h) (
 intS .eql a3 (.int .u8 30) fun v11 =>
 ifS v11 (
 ih 115 [a0, v11] h) (
 intS .eql a3 (.int .u8 31) fun v12 =>
 ifS v12 (
 ih 115 [a0, v12] h) (
 intS .eql a3 (.int .u8 32) fun v13 =>
 ifS v13 (
 ih 115 [a0, v13] h) (
 intS .eql a3 (.int .u8 33) fun v14 =>
 ifS v14 (
 ih 115 [a0, v14] h) (
 intS .eql a3 (.int .u8 34) fun v15 =>
 ifS v15 (
 ih 115 [a0, v15] h) (
 intS .eql a3 (.int .u8 35) fun v16 =>
 ifS v16 (
 ih 115 [a0, v16] h) (
 intS .eql a3 (.int .u8 36) fun v17 =>
 ifS v17 (
 ih 115 [a0, v17] h) (
 intS .eql a3 (.int .u8 37) fun v18 =>
 ifS v18 (
 ih 115 [a0, v18] h) (
 intS .eql a3 (.int .u8 38) fun v19 =>
 ih 115 [a0, v19] h)))))))))))
def B115 (ih : II) (a0 a15 : V) (h : Hp) : VH :=
 ifS a15 (
 intS .sub a0 (.int .u8 28) fun v20 =>
 intS .add v20 (.int .u8 11) fun v21 =>
 some (v21, h)) (
 some ((.int .u8 0), h))
def B286 (ih : II) (a0 a1 a2 : V) (h : Hp) : VH :=
 intS .geq a1 a0 fun v0 =>
 guardS v0 true (intS .leq a1 a2 fun v1 =>
 some (v1, h)) h fun v2 h3 =>
 optS (pickV v0 v2 (.bool false)) fun v4 =>
 some (v4, h3)
def B284 (ih : II) (a0 a1 : V) (h : Hp) : VH :=
 bindS (lenSl a0 fun v => some (v, h)) fun v0 h1 =>
 ih 117 [a0, a1, v0, (.int .i64 0)] h1
def B117 (ih : II) (a0 a1 a7 a8 : V) (h : Hp) : VH :=
 intS .lss a8 a7 fun v2 =>
 ifS v2 (
 idxS 1 a0 a8 fun v3 =>
 load1 v3 h fun v4 =>
 bindS (dynE ih a1 [v4] h) fun v5 h6 =>
 ifS v5 (
 some (a8, h6)) (
 intS .add a8 (.int .i64 1) fun v7 =>
 ih 117 [a0, a1, a7, v7] h6)) (
 some ((.int .i64 (-1)), h))
def B326 (ih : II) (a0 a1 a2 a3 : V) (h : Hp) : VH :=
 intS .eql a1 (.int .i64 0) fun v0 =>
 ifS v0 (
 some ((.int .i64 (-1)), h)) (
 nilS a0 fun v1 =>
 addrS 5 v1 fun v2 =>
 load1 v2 h fun v3 =>
 intS .sub a1 (.int .i64 1) fun v4 =>
 idxS 1 v3 v4 fun v5 =>
 load1 v5 h fun v6 =>
 bindS (ih 324 [v6, a2] h) fun v7 h8 =>
 bindS (bldStruct h8 [(0, (.bool true)), (1, v7)] (.agg [(.bool false), (.int .i64 0)]) (some [(0, 1), (1, 1)])) fun v9 h10 =>
 newS 75 [(.bool false), (.int .i64 0)] h10 fun v11 h12 =>
 storeN 2 v11 v9 h12 fun h13 =>
 addrS 1 v11 fun v14 =>
 load1 v14 h13 fun v15 =>
 intS .geq v15 (.int .i64 0) fun v16 =>
 ifS v16 (
 nilS a0 fun v17 =>
 addrS 5 v17 fun v18 =>
 load1 v18 h13 fun v19 =>
 intS .sub a1 (.int .i64 1) fun v20 =>
 idxS 1 v19 v20 fun v21 =>
 load1 v21 h13 fun v22 =>
 nilS v22 fun v23 =>
 addrS 0 v23 fun v24 =>
 addrS 3 v24 fun v25 =>
 load1 v25 h13 fun v26 =>
 addrS 1 v11 fun v27 =>
 load1 v27 h13 fun v28 =>
 idxS 1 v26 v28 fun v29 =>
 storeC v29 (.bool true) h13 fun h30 =>
 ih 119 [a0, a1, a3, v11] h30) (
 intS .sub a1 (.int .i64 1) fun v31 =>
 bindS (ih 326 [a0, v31, a2, a3] h13) fun v32 h33 =>
 bindS (bldStruct h33 [(1, v32)] (.agg [(.bool false), (.int .i64 0)]) (some [(0, 1), (1, 1)])) fun v34 h35 =>
 storeN 2 v11 v34 h35 fun h36 =>
 ih 119 [a0, a1, a3, v11] h36))
def B119 (ih : II) (a0 a1 a3 a9 : V) (h : Hp) : VH :=
 nilS a0 fun v37 =>
 addrS 5 v37 fun v38 =>
 load1 v38 h fun v39 =>
 idxS 1 v39 a1 fun v40 =>
 load1 v40 h fun v41 =>
 nilS v41 fun v42 =>
 addrS 0 v42 fun v43 =>
 addrS 4 v43 fun v44 =>
 load1 v44 h fun v45 =>
 loadN 2 a9 h fun v46 =>
 bindS (ih 334 [v45, v46] h) fun v47 h48 =>
 addrS 1 a9 fun v49 =>
 load1 v49 h48 fun v50 =>
 intS .lss v50 (.int .i64 0) fun v51 =>
 ifS v51 (
 some ((.int .i64 (-1)), h48)) (
 intS .geq v47 (.int .i64 0) fun v52 =>
 ifS v52 (
 some (v47, h48)) (
 nilS v41 fun v53 =>
 addrS 0 v53 fun v54 =>
 addrS 4 v54 fun v55 =>
 load1 v55 h48 fun v56 =>
 bindS (lenSl v56 fun v => some (v, h48)) fun v57 h58 =>
 intS .eql v57 (.int .i64 60) fun v59 =>
 ifS v59 (
 bindS (ih 54 [a0, (.int .i64 3), a3] h58) fun v60 h61 =>
 some ((.int .i64 (-1)), h61)) (
 nilS v41 fun v62 =>
 addrS 0 v62 fun v63 =>
 addrS 4 v63 fun v64 =>
 load1 v64 h58 fun v65 =>
 loadN 2 a9 h58 fun v66 =>
 bindS (bldSl ⟨h58.t, h58.n, h58.n⟩ [(0, v66)] 75 1 2 (.agg [(.bool false), (.int .i64 0)])) fun v67 h68 =>
 madeS h58.n h58.low h68 fun h69 =>
 bindS (appS 75 16 2 v65 v67 ⟨h69.t, h69.n, h69.n⟩) fun v70 h71 =>
 wroteS h69.low h71 fun h72 =>
 nilS v41 fun v73 =>
 addrS 0 v73 fun v74 =>
 addrS 4 v74 fun v75 =>
 storeC v75 v70 h72 fun h76 =>
 nilS v41 fun v77 =>
 addrS 0 v77 fun v78 =>
 addrS 4 v78 fun v79 =>
 load1 v79 h76 fun v80 =>
 bindS (lenSl v80 fun v => some (v, h76)) fun v81 h82 =>
 intS .sub v81 (.int .i64 1) fun v83 =>
 some (v83, h82))))
def B324 (ih : II) (a0 a1 : V) (h : Hp) : VH :=
 nilS a0 fun v0 =>
 addrS 8 v0 fun v1 =>
 load1 v1 h fun v2 =>
 bindS (lenSl v2 fun v => some (v, h)) fun v3 h4 =>
 intS .sub v3 (.int .i64 1) fun v5 =>
 ih 121 [a0, a1, v5] h4
def B121 (ih : II) (a0 a1 a5 : V) (h : Hp) : VH :=
 intS .geq a5 (.int .i64 0) fun v6 =>
 ifS v6 (
 nilS a0 fun v7 =>
 addrS 8 v7 fun v8 =>
 load1 v8 h fun v9 =>
 idxS 1 v9 a5 fun v10 =>
 addrS 0 v10 fun v11 =>
 load1 v11 h fun v12 =>
 strS .eql v12 a1 fun v13 =>
 ifS v13 (
 some (a5, h)) (
 intS .sub a5 (.int .i64 1) fun v14 =>
 ih 121 [a0, a1, v14] h)) (
 some ((.int .i64 (-1)), h))
def B334 (ih : II) (a0 a1 : V) (h : Hp) : VH :=
 newS 75 (vcells a1) h fun v0 h1 =>
 bindS (lenSl a0 fun v => some (v, h1)) fun v2 h3 =>
 ih 123 [a0, v0, v2, (.int .i64 0)] h3
def B123 (ih : II) (a0 a3 a7 a8 : V) (h : Hp) : VH :=
 intS .lss a8 a7 fun v4 =>
 ifS v4 (
 loadN 2 a3 h fun v5 =>
 idxS 2 a0 a8 fun v6 =>
 loadN 2 v6 h fun v7 =>
 bindS (vh h (eqOp .eql (cmpV [(0, .bool), (1, .int .i64)] v5 v7))) fun v8 h9 =>
 ifS v8 (
 some (a8, h9)) (
 intS .add a8 (.int .i64 1) fun v10 =>
 ih 123 [a0, a3, a7, v10] h9)) (
 some ((.int .i64 (-1)), h))
def labs : Tr Lab := ((((((((((((((((((((((((((((((((((((((((((((((((((((((((((((((Tr.nil.set 0 (3, 506, [3, 5])).set 1 (7, 122, [2, 3, 5, 6])).set 2 (7, 250, [2, 3, 8])).set 3 (7, 506, [3, 11])).set 4 (7, 2003, [2, 3, 8])).set 5 (7, 32039, [2, 3, 8, 9, 10])).set 6 (7, 256309, [2, 3, 8, 9, 116, 117])).set 7 (6, 63, [2, 3, 4])).set 8 (6, 1002, [2, 3, 4, 35, 36, 37])).set 9 (6, 1018, [2, 3, 4, 59, 60, 61])).set 10 (17, 26, [0, 1, 5])).set 11 (16, 58, [0, 3, 4, 5])).set 12 (16, 3730, [0, 3, 4, 5, 26, 27, 28])).set 13 (16, 1909967, [0, 3, 4, 7, 8])).set 14 (16, 3819935, [3, 4, 7])).set 15 (16, 15279743, [])).set 16 (15, 1018, [0, 3, 5, 6, 58, 59, 60])).set 17 (15, 1023, [0, 5, 6])).set 18 (15, 8186, [0, 5, 6, 92, 93])).set 19 (15, 4191438, [0, 5, 6, 92, 93, 109, 110, 111])).set 20 (15, 67063015, [0, 5, 6, 92, 93, 109, 110, 111])).set 21 (14, 2042, [1, 4, 5, 6])).set 22 (14, 1045690, [1, 4, 5, 6, 7, 8, 89, 90, 91])).set 23 (29, 63, [4])).set 24 (29, 122, [3, 4, 8, 25, 26, 27])).set 25 (29, 1959, [3, 4, 8, 25, 26, 27])).set 26 (28, 124, [7])).set 27 (24, 7, [2])).set 28 (24, 53, [1, 2, 8, 9])).set 29 (24, 215, [2, 19])).set 30 (58, 3930, [0, 3, 6, 7, 26, 27, 28])).set 31 (58, 15871, [0, 3, 4, 5, 19, 85])).set 32 (57, 58, [0, 2, 4, 6, 16, 17, 18])).set 33 (57, 127, [0, 4, 9, 10])).set 34 (57, 935, [0, 2, 4, 6, 16, 17, 18])).set 35 (50, 117, [2, 3, 5, 10, 11])).set 36 (50, 30932991, [2, 3, 5, 10, 164])).set 37 (45, 26, [3, 4, 5, 6, 11])).set 38 (52, 26, [0, 1, 7, 8])).set 39 (91, 58, [0, 5, 8, 9, 10])).set 40 (94, 60, [0, 3, 4, 5])).set 41 (94, 63, [0, 4])).set 42 (94, 254, [0, 60, 61, 62])).set 43 (94, 15439, [0, 3, 4, 5, 7])).set 44 (93, 255, [2, 3, 4, 7, 8])).set 45 (93, 2047, [2, 4])).set 46 (93, 8190, [2, 157, 158, 159])).set 47 (93, 65215, [2, 3, 4, 5, 6, 11, 12])).set 48 (93, 66781178, [2, 3, 4, 5, 6, 12, 15, 64, 65, 66])).set 49 (87, 26, [0, 1, 7, 8])).set 50 (81, 58, [0, 21, 22])).set 51 (80, 58, [2, 3, 5, 6])).set 52 (126, 31, [0, 6])).set 53 (125, 26, [0, 1, 7, 8])).set 54 (149, 6, [0, 1, 3])).set 55 (148, 7, [0, 1])).set 56 (145, 53, [0, 3, 4])).set 57 (145, 215, [0, 15])).set 58 (142, 26, [0, 1, 7, 8])).set 59 (163, 31, [0, 1, 3, 9])).set 60 (162, 26, [0, 1, 5])).set 61 (167, 26, [0, 3, 7, 8]))
def cuts3 : Cuts := [(506, 0, [3, 5])]
theorem fit3 : cutsFit labs 3 cuts3 = true := by kernel_rfl
def cuts7 : Cuts := [(122, 1, [2, 3, 5, 6]), (250, 2, [2, 3, 8]), (506, 3, [3, 11]), (2003, 4, [2, 3, 8]), (32039, 5, [2, 3, 8, 9, 10]), (256309, 6, [2, 3, 8, 9, 116, 117])]
theorem fit7 : cutsFit labs 7 cuts7 = true := by kernel_rfl
def cuts6 : Cuts := [(63, 7, [2, 3, 4]), (1002, 8, [2, 3, 4, 35, 36, 37]), (1018, 9, [2, 3, 4, 59, 60, 61])]
theorem fit6 : cutsFit labs 6 cuts6 = true := by kernel_rfl
def cuts17 : Cuts := [(26, 10, [0, 1, 5])]
theorem fit17 : cutsFit labs 17 cuts17 = true := by kernel_rfl
def cuts16 : Cuts := [(58, 11, [0, 3, 4, 5]), (3730, 12, [0, 3, 4, 5, 26, 27, 28]), (1909967, 13, [0, 3, 4, 7, 8]), (3819935, 14, [3, 4, 7]), (15279743, 15, [])]
theorem fit16 : cutsFit labs 16 cuts16 = true := by kernel_rfl
def cuts15 : Cuts := [(1018, 16, [0, 3, 5, 6, 58, 59, 60]), (1023, 17, [0, 5, 6]), (8186, 18, [0, 5, 6, 92, 93]), (4191438, 19, [0, 5, 6, 92, 93, 109, 110, 111]), (67063015, 20, [0, 5, 6, 92, 93, 109, 110, 111])]
theorem fit15 : cutsFit labs 15 cuts15 = true := by kernel_rfl
def cuts14 : Cuts := [(2042, 21, [1, 4, 5, 6]), (1045690, 22, [1, 4, 5, 6, 7, 8, 89, 90, 91])]
theorem fit14 : cutsFit labs 14 cuts14 = true := by kernel_rfl
def cuts27 : Cuts := []
theorem fit27 : cutsFit labs 27 cuts27 = true := by kernel_rfl
def cuts29 : Cuts := [(63, 23, [4]), (122, 24, [3, 4, 8, 25, 26, 27]), (1959, 25, [3, 4, 8, 25, 26, 27])]
theorem fit29 : cutsFit labs 29 cuts29 = true := by kernel_rfl
def cuts28 : Cuts := [(124, 26, [7])]
theorem fit28 : cutsFit labs 28 cuts28 = true := by kernel_rfl
def cuts25 : Cuts := []
theorem fit25 : cutsFit labs 25 cuts25 = true := by kernel_rfl
def cuts24 : Cuts := [(7, 27, [2]), (53, 28, [1, 2, 8, 9]), (215, 29, [2, 19])]
theorem fit24 : cutsFit labs 24 cuts24 = true := by kernel_rfl
def cuts26 : Cuts := []
theorem fit26 : cutsFit labs 26 cuts26 = true := by kernel_rfl
def cuts58 : Cuts := [(3930, 30, [0, 3, 6, 7, 26, 27, 28]), (15871, 31, [0, 3, 4, 5, 19, 85])]
theorem fit58 : cutsFit labs 58 cuts58 = true := by kernel_rfl
def cuts57 : Cuts := [(58, 32, [0, 2, 4, 6, 16, 17, 18]), (127, 33, [0, 4, 9, 10]), (935, 34, [0, 2, 4, 6, 16, 17, 18])]
theorem fit57 : cutsFit labs 57 cuts57 = true := by kernel_rfl
def cuts55 : Cuts := []
theorem fit55 : cutsFit labs 55 cuts55 = true := by kernel_rfl
def cuts56 : Cuts := []
theorem fit56 : cutsFit labs 56 cuts56 = true := by kernel_rfl
def cuts59 : Cuts := []
theorem fit59 : cutsFit labs 59 cuts59 = true := by kernel_rfl
def cuts54 : Cuts := []
theorem fit54 : cutsFit labs 54 cuts54 = true := by kernel_rfl
def cuts53 : Cuts := []
theorem fit53 : cutsFit labs 53 cuts53 = true := by kernel_rfl
def cuts51 : Cuts := []
theorem fit51 : cutsFit labs 51 cuts51 = true := by kernel_rfl
def cuts50 : Cuts := [(117, 35, [2, 3, 5, 10, 11]), (30932991, 36, [2, 3, 5, 10, 164])]
theorem fit50 : cutsFit labs 50 cuts50 = true := by kernel_rfl
def cuts49 : Cuts := []
theorem fit49 : cutsFit labs 49 cuts49 = true := by kernel_rfl
def cuts48 : Cuts := []
theorem fit48 : cutsFit labs 48 cuts48 = true := by kernel_rfl
def cuts46 : Cuts := []
theorem fit46 : cutsFit labs 46 cuts46 = true := by kernel_rfl
def cuts45 : Cuts := [(26, 37, [3, 4, 5, 6, 11])]
theorem fit45 : cutsFit labs 45 cuts45 = true := by kernel_rfl
def cuts44 : Cuts := []
theorem fit44 : cutsFit labs 44 cuts44 = true := by kernel_rfl
def cuts47 : Cuts := []
theorem fit47 : cutsFit labs 47 cuts47 = true := by kernel_rfl
def cuts52 : Cuts := [(26, 38, [0, 1, 7, 8])]
theorem fit52 : cutsFit labs 52 cuts52 = true := by kernel_rfl
def cuts97 : Cuts := []
theorem fit97 : cutsFit labs 97 cuts97 = true := by kernel_rfl
def cuts92 : Cuts := []
theorem fit92 : cutsFit labs 92 cuts92 = true := by kernel_rfl
def cuts96 : Cuts := []
theorem fit96 : cutsFit labs 96 cuts96 = true := by kernel_rfl
def cuts95 : Cuts := []
theorem fit95 : cutsFit labs 95 cuts95 = true := by kernel_rfl
def cuts91 : Cuts := [(58, 39, [0, 5, 8, 9, 10])]
theorem fit91 : cutsFit labs 91 cuts91 = true := by kernel_rfl
def cuts94 : Cuts := [(60, 40, [0, 3, 4, 5]), (63, 41, [0, 4]), (254, 42, [0, 60, 61, 62]), (15439, 43, [0, 3, 4, 5, 7])]
theorem fit94 : cutsFit labs 94 cuts94 = true := by kernel_rfl
def cuts93 : Cuts := [(255, 44, [2, 3, 4, 7, 8]), (2047, 45, [2, 4]), (8190, 46, [2, 157, 158, 159]), (65215, 47, [2, 3, 4, 5, 6, 11, 12]), (66781178, 48, [2, 3, 4, 5, 6, 12, 15, 64, 65, 66])]
theorem fit93 : cutsFit labs 93 cuts93 = true := by kernel_rfl
def cuts90 : Cuts := []
theorem fit90 : cutsFit labs 90 cuts90 = true := by kernel_rfl
def cuts88 : Cuts := []
theorem fit88 : cutsFit labs 88 cuts88 = true := by kernel_rfl
def cuts89 : Cuts := []
theorem fit89 : cutsFit labs 89 cuts89 = true := by kernel_rfl
def cuts87 : Cuts := [(26, 49, [0, 1, 7, 8])]
theorem fit87 : cutsFit labs 87 cuts87 = true := by kernel_rfl
def cuts86 : Cuts := []
theorem fit86 : cutsFit labs 86 cuts86 = true := by kernel_rfl
def cuts85 : Cuts := []
theorem fit85 : cutsFit labs 85 cuts85 = true := by kernel_rfl
def cuts82 : Cuts := []
theorem fit82 : cutsFit labs 82 cuts82 = true := by kernel_rfl
def cuts77 : Cuts := []
theorem fit77 : cutsFit labs 77 cuts77 = true := by kernel_rfl
def cuts83 : Cuts := []
theorem fit83 : cutsFit labs 83 cuts83 = true := by kernel_rfl
def cuts75 : Cuts := []
theorem fit75 : cutsFit labs 75 cuts75 = true := by kernel_rfl
def cuts81 : Cuts := [(58, 50, [0, 21, 22])]
theorem fit81 : cutsFit labs 81 cuts81 = true := by kernel_rfl
def cuts79 : Cuts := []
theorem fit79 : cutsFit labs 79 cuts79 = true := by kernel_rfl
def cuts76 : Cuts := []
theorem fit76 : cutsFit labs 76 cuts76 = true := by kernel_rfl
def cuts84 : Cuts := []
theorem fit84 : cutsFit labs 84 cuts84 = true := by kernel_rfl
def cuts80 : Cuts := [(58, 51, [2, 3, 5, 6])]
theorem fit80 : cutsFit labs 80 cuts80 = true := by kernel_rfl
def cuts78 : Cuts := []
theorem fit78 : cutsFit labs 78 cuts78 = true := by kernel_rfl
def cuts128 : Cuts := []
theorem fit128 : cutsFit labs 128 cuts128 = true := by kernel_rfl
def cuts126 : Cuts := [(31, 52, [0, 6])]
theorem fit126 : cutsFit labs 126 cuts126 = true := by kernel_rfl
def cuts127 : Cuts := []
theorem fit127 : cutsFit labs 127 cuts127 = true := by kernel_rfl
def cuts125 : Cuts := [(26, 53, [0, 1, 7, 8])]
theorem fit125 : cutsFit labs 125 cuts125 = true := by kernel_rfl
def cuts122 : Cuts := []
theorem fit122 : cutsFit labs 122 cuts122 = true := by kernel_rfl
def cuts124 : Cuts := []
theorem fit124 : cutsFit labs 124 cuts124 = true := by kernel_rfl
def cuts123 : Cuts := []
theorem fit123 : cutsFit labs 123 cuts123 = true := by kernel_rfl
def cuts120 : Cuts := []
theorem fit120 : cutsFit labs 120 cuts120 = true := by kernel_rfl
def cuts121 : Cuts := []
theorem fit121 : cutsFit labs 121 cuts121 = true := by kernel_rfl
def cuts146 : Cuts := []
theorem fit146 : cutsFit labs 146 cuts146 = true := by kernel_rfl
def cuts148 : Cuts := [(7, 55, [0, 1])]
theorem fit148 : cutsFit labs 148 cuts148 = true := by kernel_rfl
def cuts147 : Cuts := []
theorem fit147 : cutsFit labs 147 cuts147 = true := by kernel_rfl
def cuts145 : Cuts := [(53, 56, [0, 3, 4]), (215, 57, [0, 15])]
theorem fit145 : cutsFit labs 145 cuts145 = true := by kernel_rfl
def cuts143 : Cuts := []
theorem fit143 : cutsFit labs 143 cuts143 = true := by kernel_rfl
def cuts142 : Cuts := [(26, 58, [0, 1, 7, 8])]
theorem fit142 : cutsFit labs 142 cuts142 = true := by kernel_rfl
def cuts163 : Cuts := [(31, 59, [0, 1, 3, 9])]
theorem fit163 : cutsFit labs 163 cuts163 = true := by kernel_rfl
def cuts162 : Cuts := [(26, 60, [0, 1, 5])]
theorem fit162 : cutsFit labs 162 cuts162 = true := by kernel_rfl
def cuts167 : Cuts := [(26, 61, [0, 3, 7, 8])]
theorem fit167 : cutsFit labs 167 cuts167 = true := by kernel_rfl
end
end
end Go.FP
end
