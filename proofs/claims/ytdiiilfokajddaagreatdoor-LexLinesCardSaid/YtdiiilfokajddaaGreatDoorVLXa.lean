/- A part of the proof. -/
import Derived.Test.YtdiiilfokajddaaGreatDoorVMidUU
import Derived.Test.YtdiiilfokajddaaGreatDoorVMidNN
import Derived.Test.YtdiiilfokajddaaGreatDoorVMidZ
import Derived.Test.YtdiiilfokajddaaGreatDoorProg
import Derived.KernelRfl
set_option linter.all false
set_option warn.classDefReducibility false
noncomputable section
section
open Go Go.Mid Go.Proofs
set_option maxRecDepth 100000
namespace Go.LX
section
section
abbrev II:=Nat → List V → Hp → VH
def itr0 (f : FuncId) : Option It:=none
def B10 (ih : II) (a0 : V) (h : Hp) : VH :=
 bindS (lenStr a0 fun v => some (v, h)) fun v0 h1 =>
 intS .gtr v0 (.int .i64 3000) fun v2 =>
 ifS v2 (
 bindS (ih 32 [] h1) fun v3 h4 =>
 some (v3, h4)) (
 ih 1 [a0, (.int .i64 0)] h1)
def B1 (ih : II) (a0 a3 : V) (h : Hp) : VH :=
 bindS (lenStr a0 fun v => some (v, h)) fun v5 h6 =>
 intS .lss a3 v5 fun v7 =>
 ifS v7 (
 idxStr a0 a3 fun v8 =>
 intS .eql v8 (.int .u8 13) fun v9 =>
 ifS v9 (
 bindS (ih 32 [] h6) fun v10 h11 =>
 some (v10, h11)) (
 intS .add a3 (.int .i64 1) fun v12 =>
 ih 1 [a0, v12] h6)) (
 bindS (ih 20 [a0] h6) fun v13 h14 =>
 extS 0 v13 fun v15 =>
 extS 1 v13 fun v16 =>
 newS 33 [(.int .i64 0), (.int .i64 0)] h14 fun v17 h18 =>
 storeN 2 v17 v16 h18 fun h19 =>
 strS .add (.str ⟨1, 10⟩) a0 fun v20 =>
 bindS (ih 20 [v20] h19) fun v21 h22 =>
 extS 0 v21 fun v23 =>
 extS 1 v21 fun v24 =>
 newS 33 [(.int .i64 0), (.int .i64 0)] h22 fun v25 h26 =>
 storeN 2 v25 v24 h26 fun h27 =>
 addrS 0 v17 fun v28 =>
 load1 v28 h27 fun v29 =>
 addrS 0 v25 fun v30 =>
 load1 v30 h27 fun v31 =>
 intS .neq v29 v31 fun v32 =>
 guardS v32 false (addrS 0 v17 fun v33 =>
 load1 v33 h27 fun v34 =>
 intS .neq v34 (.int .i64 0) fun v35 =>
 some (v35, h27)) h27 fun v36 h37 =>
 guardS v36 true (addrS 1 v17 fun v38 =>
 load1 v38 h37 fun v39 =>
 intS .add v39 (.int .i64 1) fun v40 =>
 addrS 1 v25 fun v41 =>
 load1 v41 h37 fun v42 =>
 intS .neq v40 v42 fun v43 =>
 some (v43, h37)) h37 fun v44 h45 =>
 guardS v32 false (optS (pickV v36 v44 (.bool false)) fun v46 =>
 some (v46, h45)) h45 fun v47 h48 =>
 optS (pickV v32 (.bool true) v47) fun v49 =>
 guardS v49 false (bindS (lenSl v15 fun v => some (v, h48)) fun v50 h51 =>
 bindS (lenSl v23 fun v => some (v, h51)) fun v52 h53 =>
 intS .neq v50 v52 fun v54 =>
 some (v54, h53)) h48 fun v55 h56 =>
 optS (pickV v49 (.bool true) v55) fun v57 =>
 ifS v57 (
 some ((.bool false), h56)) (
 ih 3 [a0, v15, v17, v23, (.int .i64 1), (.int .i64 0)] h56))
def B3 (ih : II) (a0 a4 a5 a6 a8 a9 : V) (h : Hp) : VH :=
 bindS (lenSl a4 fun v => some (v, h)) fun v58 h59 =>
 intS .lss a9 v58 fun v60 =>
 ifS v60 (
 idxS 4 a4 a9 fun v61 =>
 addrS 3 v61 fun v62 =>
 load1 v62 h59 fun v63 =>
 intS .lss v63 a8 fun v64 =>
 guardS v64 false (some (a6, h59)) h59 fun v65 _ =>
 guardS v64 false (some (a9, h59)) h59 fun v66 _ =>
 guardS v64 false (idxS 4 v65 v66 fun v67 =>
 some (v67, h59)) h59 fun v68 _ =>
 guardS v64 false (addrS 3 v68 fun v69 =>
 some (v69, h59)) h59 fun v70 _ =>
 guardS v64 false (load1 v70 h59 fun v71 =>
 some (v71, h59)) h59 fun v72 _ =>
 guardS v64 false (some (a4, h59)) h59 fun v73 _ =>
 guardS v64 false (some (a9, h59)) h59 fun v74 _ =>
 guardS v64 false (idxS 4 v73 v74 fun v75 =>
 some (v75, h59)) h59 fun v76 _ =>
 guardS v64 false (addrS 3 v76 fun v77 =>
 some (v77, h59)) h59 fun v78 _ =>
 guardS v64 false (load1 v78 h59 fun v79 =>
 some (v79, h59)) h59 fun v80 _ =>
 guardS v64 false (intS .add v80 (.int .i64 1) fun v81 =>
 some (v81, h59)) h59 fun v82 _ =>
 guardS v64 false (intS .neq v72 v82 fun v83 =>
 some (v83, h59)) h59 fun v84 h85 =>
 optS (pickV v64 (.bool true) v84) fun v86 =>
 ifS v86 (
 some ((.bool false), h85)) (
 idxS 4 a4 a9 fun v87 =>
 addrS 3 v87 fun v88 =>
 load1 v88 h85 fun v89 =>
 intS .add a9 (.int .i64 1) fun v90 =>
 ih 3 [a0, a4, a5, a6, v89, v90] h85)) (
 ih 5 [a0, a4, a5, a8, (.int .i64 1), (.int .i64 0)] h59)
def B5 (ih : II) (a0 a4 a5 a8 a10 a11 : V) (h : Hp) : VH :=
 bindS (lenStr a0 fun v => some (v, h)) fun v91 h92 =>
 intS .lss a11 v91 fun v93 =>
 ifS v93 (
 idxStr a0 a11 fun v94 =>
 intS .eql v94 (.int .u8 10) fun v95 =>
 ifS v95 (
 intS .add a10 (.int .i64 1) fun v96 =>
 ih 7 [a0, a4, a5, a8, v96, a11] h92) (
 ih 7 [a0, a4, a5, a8, a10, a11] h92)) (
 addrS 0 a5 fun v97 =>
 load1 v97 h92 fun v98 =>
 intS .neq v98 (.int .i64 0) fun v99 =>
 guardS v99 false (bindS (lenSl a4 fun v => some (v, h92)) fun v100 h101 =>
 intS .gtr v100 (.int .i64 0) fun v102 =>
 some (v102, h101)) h92 fun v103 h104 =>
 guardS v103 true (intS .eql a8 a10 fun v105 =>
 some (v105, h104)) h104 fun v106 h107 =>
 guardS v99 false (optS (pickV v103 v106 (.bool false)) fun v108 =>
 some (v108, h107)) h107 fun v109 h110 =>
 guardS v109 true (bindS (lenSl a4 fun v => some (v, h110)) fun v111 h112 =>
 intS .sub v111 (.int .i64 1) fun v113 =>
 idxS 4 a4 v113 fun v114 =>
 addrS 0 v114 fun v115 =>
 load1 v115 h112 fun v116 =>
 intS .eql v116 (.int .u8 6) fun v117 =>
 some (v117, h112)) h110 fun v118 h119 =>
 guardS v99 false (optS (pickV v109 v118 (.bool false)) fun v120 =>
 some (v120, h119)) h119 fun v121 h122 =>
 optS (pickV v99 (.bool true) v121) fun v123 =>
 guardS v123 true (bindS (ih 32 [] h122) fun v124 h125 =>
 some (v124, h125)) h122 fun v126 h127 =>
 optS (pickV v123 v126 (.bool false)) fun v128 =>
 some (v128, h127))
def B7 (ih : II) (a0 a4 a5 a8 a10 a11 : V) (h : Hp) : VH :=
 intS .add a11 (.int .i64 1) fun v129 =>
 ih 5 [a0, a4, a5, a8, a10, v129] h
def B20 (ih : II) (a0 : V) (h : Hp) : VH :=
 newS 33 [(.int .i64 0), (.int .i64 0)] h fun v0 h1 =>
 bindS (lenStr a0 fun v => some (v, h1)) fun v2 h3 =>
 intS .gtr v2 (.int .i64 65535) fun v4 =>
 ifS v4 (
 bindS (bldStruct h3 [(0, (.int .i64 3))] (.agg [(.int .i64 0), (.int .i64 0)]) (some [(0, 1), (1, 1)])) fun v5 h6 =>
 storeN 2 v0 v5 h6 fun h7 =>
 loadN 2 v0 h7 fun v8 =>
 some (.tuple [.nilSlice, v8], h7)) (
 bindS (ih 28 [] h3) fun v9 h10 =>
 bindS (bldStruct h10 [(0, a0), (2, (.int .i64 1)), (3, v9)] (.agg [(.str ⟨0, 0⟩), (.int .i64 0), (.int .i64 0), .nilSlice]) (some [(0, 1), (1, 1), (2, 1), (3, 1)])) fun v11 h12 =>
 newS 47 (vcells v11) h12 fun v13 h14 =>
 nilS v13 fun v15 =>
 addrS 3 v15 fun v16 =>
 load1 v16 h14 fun v17 =>
 bindS (ih 44 [v17, (.func 23 [] [])] h14) fun v18 h19 =>
 ih 9 [v0, v13, .nilSlice] h19)
def B9 (ih : II) (a3 a4 a5 : V) (h : Hp) : VH :=
 bindS (ih 50 [a4, (.int .i64 0), (.func 26 [] [])] h) fun v20 h21 =>
 bindS (ih 48 [a4, v20] h21) fun v22 h23 =>
 nilS a4 fun v24 =>
 addrS 1 v24 fun v25 =>
 load1 v25 h23 fun v26 =>
 nilS a4 fun v27 =>
 addrS 0 v27 fun v28 =>
 load1 v28 h23 fun v29 =>
 bindS (lenStr v29 fun v => some (v, h23)) fun v30 h31 =>
 intS .eql v26 v30 fun v32 =>
 ifS v32 (
 nilS a4 fun v33 =>
 addrS 2 v33 fun v34 =>
 load1 v34 h23 fun v35 =>
 bindS (bldStruct h23 [(0, (.int .u8 6)), (3, v35)] (.agg [(.int .u8 0), (.str ⟨0, 0⟩), (.int .i64 0), (.int .i64 0)]) (some [(0, 1), (1, 1), (2, 1), (3, 1)])) fun v36 h37 =>
 bindS (bldSl h37 [(0, v36)] 25 1 4 (.agg [(.int .u8 0), (.str ⟨0, 0⟩), (.int .i64 0), (.int .i64 0)])) fun v38 h39 =>
 bindS (appS 25 40 4 a5 v38 h39) fun v40 h41 =>
 bindS (bldStruct h41 [] (.agg [(.int .i64 0), (.int .i64 0)]) (some [(0, 1), (1, 1)])) fun v42 h43 =>
 storeN 2 a3 v42 h43 fun h44 =>
 loadN 2 a3 h44 fun v45 =>
 some (.tuple [v40, v45], h44)) (
 bindS (ih 54 [a4] h23) fun v46 h47 =>
 extS 0 v46 fun v48 =>
 extS 1 v46 fun v49 =>
 intS .eql v49 (.int .i64 0) fun v50 =>
 guardS v50 true (some (v48, h47)) h47 fun v51 h52 =>
 optS (pickV v50 v51 (.bool false)) fun v53 =>
 ifS v53 (
 ih 9 [a3, a4, a5] h52) (
 bindS (bldStruct h52 [] (.agg [(.int .u8 0), (.str ⟨0, 0⟩), (.int .i64 0), (.int .i64 0)]) (some [(0, 1), (1, 1), (2, 1), (3, 1)])) fun v54 h55 =>
 newS 25 [(.int .u8 0), (.str ⟨0, 0⟩), (.int .i64 0), (.int .i64 0)] h55 fun v56 h57 =>
 storeN 4 v56 v54 h57 fun h58 =>
 intS .eql v49 (.int .i64 0) fun v59 =>
 ifS v59 (
 bindS (ih 56 [a4] h58) fun v60 h61 =>
 extS 0 v60 fun v62 =>
 extS 1 v60 fun v63 =>
 extS 2 v60 fun v64 =>
 storeN 4 v56 v62 h61 fun h65 =>
 ih 11 [a3, a4, a5, v56, v63, v64] h65) (
 ih 11 [a3, a4, a5, v56, (.int .i64 0), v49] h58)))
def B11 (ih : II) (a3 a4 a5 a8 a9 a10 : V) (h : Hp) : VH :=
 intS .neq a10 (.int .i64 0) fun v66 =>
 ifS v66 (
 nilS a4 fun v67 =>
 addrS 2 v67 fun v68 =>
 load1 v68 h fun v69 =>
 bindS (bldStruct h [(0, a10), (1, v69)] (.agg [(.int .i64 0), (.int .i64 0)]) (some [(0, 1), (1, 1)])) fun v70 h71 =>
 storeN 2 a3 v70 h fun h72 =>
 loadN 2 a3 h72 fun v73 =>
 some (.tuple [.nilSlice, v73], h72)) (
 nilS a4 fun v74 =>
 addrS 2 v74 fun v75 =>
 load1 v75 h fun v76 =>
 addrS 3 a8 fun v77 =>
 storeC v77 v76 h fun h78 =>
 bindS (ih 48 [a4, a9] h78) fun v79 h80 =>
 loadN 4 a8 h80 fun v81 =>
 bindS (bldSl h80 [(0, v81)] 25 1 4 (.agg [(.int .u8 0), (.str ⟨0, 0⟩), (.int .i64 0), (.int .i64 0)])) fun v82 h83 =>
 bindS (appS 25 40 4 a5 v82 h83) fun v84 h85 =>
 ih 9 [a3, a4, v84] h85)
def B48 (ih : II) (a0 a1 : V) (h : Hp) : VH :=
 nilS a0 fun v0 =>
 addrS 1 v0 fun v1 =>
 load1 v1 h fun v2 =>
 intS .add v2 a1 fun v3 =>
 ih 13 [a0, v3] h
def B13 (ih : II) (a0 a4 : V) (h : Hp) : VH :=
 nilS a0 fun v4 =>
 addrS 1 v4 fun v5 =>
 load1 v5 h fun v6 =>
 intS .lss v6 a4 fun v7 =>
 ifS v7 (
 nilS a0 fun v8 =>
 addrS 0 v8 fun v9 =>
 load1 v9 h fun v10 =>
 nilS a0 fun v11 =>
 addrS 1 v11 fun v12 =>
 load1 v12 h fun v13 =>
 idxStr v10 v13 fun v14 =>
 bindS (ih 80 [v14] h) fun v15 h16 =>
 notS v15 fun v17 =>
 ifS v17 (
 ih 15 [a0, a4] h16) (
 nilS a0 fun v18 =>
 addrS 2 v18 fun v19 =>
 load1 v19 h16 fun v20 =>
 intS .add v20 (.int .i64 1) fun v21 =>
 nilS a0 fun v22 =>
 addrS 2 v22 fun v23 =>
 storeC v23 v21 h16 fun h24 =>
 nilS a0 fun v25 =>
 addrS 1 v25 fun v26 =>
 load1 v26 h24 fun v27 =>
 intS .add v27 (.int .i64 1) fun v28 =>
 intS .lss v28 a4 fun v29 =>
 guardS v29 true (some (a0, h24)) h24 fun v30 _ =>
 guardS v29 true (nilS v30 fun v31 =>
 some (v31, h24)) h24 fun v32 _ =>
 guardS v29 true (addrS 0 v32 fun v33 =>
 some (v33, h24)) h24 fun v34 _ =>
 guardS v29 true (load1 v34 h24 fun v35 =>
 some (v35, h24)) h24 fun v36 _ =>
 guardS v29 true (some (a0, h24)) h24 fun v37 _ =>
 guardS v29 true (nilS v37 fun v38 =>
 some (v38, h24)) h24 fun v39 _ =>
 guardS v29 true (addrS 1 v39 fun v40 =>
 some (v40, h24)) h24 fun v41 _ =>
 guardS v29 true (load1 v41 h24 fun v42 =>
 some (v42, h24)) h24 fun v43 _ =>
 guardS v29 true (intS .add v43 (.int .i64 1) fun v44 =>
 some (v44, h24)) h24 fun v45 _ =>
 guardS v29 true (idxStr v36 v45 fun v46 =>
 some (v46, h24)) h24 fun v47 _ =>
 guardB v29 true (
 bindS (ih 80 [v47] ⟨h24.t, h24.n, h24.n⟩) fun v48 h49 =>
 wroteS h24.low h49 fun h50 =>
 optS (pickV v29 v48 (.bool false)) fun v51 =>
 guardS v51 true (some (a0, h50)) h50 fun v52 _ =>
 guardS v51 true (nilS v52 fun v53 =>
 some (v53, h50)) h50 fun v54 _ =>
 guardS v51 true (addrS 0 v54 fun v55 =>
 some (v55, h50)) h50 fun v56 _ =>
 guardS v51 true (load1 v56 h50 fun v57 =>
 some (v57, h50)) h50 fun v58 _ =>
 guardS v51 true (some (a0, h50)) h50 fun v59 _ =>
 guardS v51 true (nilS v59 fun v60 =>
 some (v60, h50)) h50 fun v61 _ =>
 guardS v51 true (addrS 1 v61 fun v62 =>
 some (v62, h50)) h50 fun v63 _ =>
 guardS v51 true (load1 v63 h50 fun v64 =>
 some (v64, h50)) h50 fun v65 _ =>
 guardS v51 true (intS .add v65 (.int .i64 1) fun v66 =>
 some (v66, h50)) h50 fun v67 _ =>
 guardS v51 true (idxStr v58 v67 fun v68 =>
 some (v68, h50)) h50 fun v69 _ =>
 guardS v51 true (some (a0, h50)) h50 fun v70 _ =>
 guardS v51 true (nilS v70 fun v71 =>
 some (v71, h50)) h50 fun v72 _ =>
 guardS v51 true (addrS 0 v72 fun v73 =>
 some (v73, h50)) h50 fun v74 _ =>
 guardS v51 true (load1 v74 h50 fun v75 =>
 some (v75, h50)) h50 fun v76 _ =>
 guardS v51 true (some (a0, h50)) h50 fun v77 _ =>
 guardS v51 true (nilS v77 fun v78 =>
 some (v78, h50)) h50 fun v79 _ =>
 guardS v51 true (addrS 1 v79 fun v80 =>
 some (v80, h50)) h50 fun v81 _ =>
 guardS v51 true (load1 v81 h50 fun v82 =>
 some (v82, h50)) h50 fun v83 _ =>
 guardS v51 true (idxStr v76 v83 fun v84 =>
 some (v84, h50)) h50 fun v85 _ =>
 guardS v51 true (intS .neq v69 v85 fun v86 =>
 some (v86, h50)) h50 fun v87 h88 =>
 optS (pickV v51 v87 (.bool false)) fun v89 =>
 ifS v89 (
 nilS a0 fun v90 =>
 addrS 1 v90 fun v91 =>
 load1 v91 h88 fun v92 =>
 intS .add v92 (.int .i64 1) fun v93 =>
 nilS a0 fun v94 =>
 addrS 1 v94 fun v95 =>
 storeC v95 v93 h88 fun h96 =>
 ih 15 [a0, a4] h96) (
 ih 15 [a0, a4] h88)) (
 optS (pickV v29 undefV (.bool false)) fun v97 =>
 guardS v97 true (some (a0, h24)) h24 fun v98 _ =>
 guardS v97 true (nilS v98 fun v99 =>
 some (v99, h24)) h24 fun v100 _ =>
 guardS v97 true (addrS 0 v100 fun v101 =>
 some (v101, h24)) h24 fun v102 _ =>
 guardS v97 true (load1 v102 h24 fun v103 =>
 some (v103, h24)) h24 fun v104 _ =>
 guardS v97 true (some (a0, h24)) h24 fun v105 _ =>
 guardS v97 true (nilS v105 fun v106 =>
 some (v106, h24)) h24 fun v107 _ =>
 guardS v97 true (addrS 1 v107 fun v108 =>
 some (v108, h24)) h24 fun v109 _ =>
 guardS v97 true (load1 v109 h24 fun v110 =>
 some (v110, h24)) h24 fun v111 _ =>
 guardS v97 true (intS .add v111 (.int .i64 1) fun v112 =>
 some (v112, h24)) h24 fun v113 _ =>
 guardS v97 true (idxStr v104 v113 fun v114 =>
 some (v114, h24)) h24 fun v115 _ =>
 guardS v97 true (some (a0, h24)) h24 fun v116 _ =>
 guardS v97 true (nilS v116 fun v117 =>
 some (v117, h24)) h24 fun v118 _ =>
 guardS v97 true (addrS 0 v118 fun v119 =>
 some (v119, h24)) h24 fun v120 _ =>
 guardS v97 true (load1 v120 h24 fun v121 =>
 some (v121, h24)) h24 fun v122 _ =>
 guardS v97 true (some (a0, h24)) h24 fun v123 _ =>
 guardS v97 true (nilS v123 fun v124 =>
 some (v124, h24)) h24 fun v125 _ =>
 guardS v97 true (addrS 1 v125 fun v126 =>
 some (v126, h24)) h24 fun v127 _ =>
 guardS v97 true (load1 v127 h24 fun v128 =>
 some (v128, h24)) h24 fun v129 _ =>
 guardS v97 true (idxStr v122 v129 fun v130 =>
 some (v130, h24)) h24 fun v131 _ =>
 guardS v97 true (intS .neq v115 v131 fun v132 =>
 some (v132, h24)) h24 fun v133 h134 =>
 optS (pickV v97 v133 (.bool false)) fun v135 =>
 ifS v135 (
 nilS a0 fun v136 =>
 addrS 1 v136 fun v137 =>
 load1 v137 h134 fun v138 =>
 intS .add v138 (.int .i64 1) fun v139 =>
 nilS a0 fun v140 =>
 addrS 1 v140 fun v141 =>
 storeC v141 v139 h134 fun h142 =>
 ih 15 [a0, a4] h142) (
 ih 15 [a0, a4] h134)))) (
 some (.tuple [], h))
def B15 (ih : II) (a0 a4 : V) (h : Hp) : VH :=
 nilS a0 fun v143 =>
 addrS 1 v143 fun v144 =>
 load1 v144 h fun v145 =>
 intS .add v145 (.int .i64 1) fun v146 =>
 nilS a0 fun v147 =>
 addrS 1 v147 fun v148 =>
 storeC v148 v146 h fun h149 =>
 ih 13 [a0, a4] h149
def B56 (ih : II) (a0 : V) (h : Hp) : VH :=
 newS 25 [(.int .u8 0), (.str ⟨0, 0⟩), (.int .i64 0), (.int .i64 0)] h fun v0 h1 =>
 nilS a0 fun v2 =>
 addrS 0 v2 fun v3 =>
 load1 v3 h1 fun v4 =>
 nilS a0 fun v5 =>
 addrS 1 v5 fun v6 =>
 load1 v6 h1 fun v7 =>
 idxStr v4 v7 fun v8 =>
 bindS (ih 50 [a0, (.int .i64 0), (.func 45 [] [])] h1) fun v9 h10 =>
 intS .gtr v9 (.int .i64 0) fun v11 =>
 guardS v11 false (intS .eql v8 (.int .u8 46) fun v12 =>
 some (v12, h10)) h10 fun v13 h14 =>
 guardS v13 true (bindS (ih 50 [a0, (.int .i64 1), (.func 45 [] [])] h14) fun v15 h16 =>
 intS .gtr v15 (.int .i64 0) fun v17 =>
 some (v17, h16)) h14 fun v18 h19 =>
 guardS v11 false (optS (pickV v13 v18 (.bool false)) fun v20 =>
 some (v20, h19)) h19 fun v21 h22 =>
 optS (pickV v11 (.bool true) v21) fun v23 =>
 bindS (ih 86 [a0, (.int .i64 0)] h22) fun v24 h25 =>
 extS 0 v24 fun v26 =>
 extS 1 v24 fun v27 =>
 extS 2 v24 fun v28 =>
 bindS (ih 92 [v8] h25) fun v29 h30 =>
 ifS v29 (
 bindS (ih 50 [a0, (.int .i64 0), (.func 47 [] [])] h30) fun v31 h32 =>
 newS 25 [(.int .u8 0), (.str ⟨0, 0⟩), (.int .i64 0), (.int .i64 0)] h32 fun v33 h34 =>
 nilS a0 fun v35 =>
 addrS 0 v35 fun v36 =>
 load1 v36 h34 fun v37 =>
 nilS a0 fun v38 =>
 addrS 1 v38 fun v39 =>
 load1 v39 h34 fun v40 =>
 nilS a0 fun v41 =>
 addrS 1 v41 fun v42 =>
 load1 v42 h34 fun v43 =>
 intS .add v43 v31 fun v44 =>
 slStrK (some v40) (some v44) v37 fun v45 =>
 bindS (bldStruct h34 [(0, (.int .u8 1)), (1, v45)] (.agg [(.int .u8 0), (.str ⟨0, 0⟩), (.int .i64 0), (.int .i64 0)]) (some [(0, 1), (1, 1), (2, 1), (3, 1)])) fun v46 h47 =>
 storeN 4 v33 v46 h34 fun h48 =>
 addrS 1 v33 fun v49 =>
 load1 v49 h48 fun v50 =>
 bindS (ih 24 [v50] h48) fun v51 h52 =>
 ifS v51 (
 addrS 0 v33 fun v53 =>
 storeC v53 (.int .u8 2) h52 fun h54 =>
 ih 19 [v0, v31, v33] h54) (
 ih 19 [v0, v31, v33] h52)) (
 ifS v23 (
 bindS (ih 96 [a0] h30) fun v55 h56 =>
 newS 25 [(.int .u8 0), (.str ⟨0, 0⟩), (.int .i64 0), (.int .i64 0)] h56 fun v57 h58 =>
 nilS a0 fun v59 =>
 addrS 0 v59 fun v60 =>
 load1 v60 h58 fun v61 =>
 nilS a0 fun v62 =>
 addrS 1 v62 fun v63 =>
 load1 v63 h58 fun v64 =>
 nilS a0 fun v65 =>
 addrS 1 v65 fun v66 =>
 load1 v66 h58 fun v67 =>
 intS .add v67 v55 fun v68 =>
 slStrK (some v64) (some v68) v61 fun v69 =>
 bindS (ih 98 [v69] ⟨h58.t, h58.n, h58.n⟩) fun v70 h71 =>
 cD ((pureB h58 h71 || sameLd h58 h71 (fent v57 25 [(.int .u8 0), (.str ⟨0, 0⟩), (.int .i64 0), (.int .i64 0)])) && true) (
 wroteS h58.low h71 fun h72 =>
 extS 0 v70 fun v73 =>
 extS 1 v70 fun v74 =>
 ptrE v57 fun b75 o76 => storeB (storeO Tryz.prog h72 25 b75 o76 v73) fun c77 =>
 loadN 4 v57 (h72.put b75 c77) fun v78 =>
 storeN 4 v0 v78 (h72.put b75 c77) fun h79 =>
 loadN 4 v0 h79 fun v80 =>
 some (.tuple [v80, v55, v74], h79)) none) (
 guardS v28 true (intS .eql v27 (.int .i64 0) fun v81 =>
 some (v81, h30)) h30 fun v82 h83 =>
 optS (pickV v28 v82 (.bool false)) fun v84 =>
 ifS v84 (
 bindS (bldStruct h83 [] (.agg [(.int .u8 0), (.str ⟨0, 0⟩), (.int .i64 0), (.int .i64 0)]) (some [(0, 1), (1, 1), (2, 1), (3, 1)])) fun v85 h86 =>
 storeN 4 v0 v85 h86 fun h87 =>
 loadN 4 v0 h87 fun v88 =>
 some (.tuple [v88, (.int .i64 0), (.int .i64 30)], h87)) (
 ifS v28 (
 bindS (bldStruct h83 [(0, (.int .u8 5)), (1, v26)] (.agg [(.int .u8 0), (.str ⟨0, 0⟩), (.int .i64 0), (.int .i64 0)]) (some [(0, 1), (1, 1), (2, 1), (3, 1)])) fun v89 h90 =>
 storeN 4 v0 v89 h90 fun h91 =>
 loadN 4 v0 h91 fun v92 =>
 some (.tuple [v92, v27, (.int .i64 0)], h91)) (
 intS .eql v8 (.int .u8 34) fun v93 =>
 guardS v93 false (intS .eql v8 (.int .u8 39) fun v94 =>
 some (v94, h83)) h83 fun v95 h96 =>
 optS (pickV v93 (.bool true) v95) fun v97 =>
 ifS v97 (
 bindS (ih 100 [a0] h96) fun v98 h99 =>
 nilS a0 fun v100 =>
 addrS 0 v100 fun v101 =>
 load1 v101 h99 fun v102 =>
 nilS a0 fun v103 =>
 addrS 1 v103 fun v104 =>
 load1 v104 h99 fun v105 =>
 nilS a0 fun v106 =>
 addrS 1 v106 fun v107 =>
 load1 v107 h99 fun v108 =>
 intS .add v108 v98 fun v109 =>
 slStrK (some v105) (some v109) v102 fun v110 =>
 bindS (ih 102 [v110] ⟨h99.t, h99.n, h99.n⟩) fun v111 h112 =>
 wroteS h99.low h112 fun h113 =>
 extS 0 v111 fun v114 =>
 extS 1 v111 fun v115 =>
 bindS (bldStruct h113 [(0, (.int .u8 5)), (1, v114)] (.agg [(.int .u8 0), (.str ⟨0, 0⟩), (.int .i64 0), (.int .i64 0)]) (some [(0, 1), (1, 1), (2, 1), (3, 1)])) fun v116 h117 =>
 storeN 4 v0 v116 h117 fun h118 =>
 loadN 4 v0 h118 fun v119 =>
 some (.tuple [v119, v98, v115], h118)) (
 nilS a0 fun v120 =>
 addrS 0 v120 fun v121 =>
 load1 v121 h96 fun v122 =>
 nilS a0 fun v123 =>
 addrS 1 v123 fun v124 =>
 load1 v124 h96 fun v125 =>
 slStrK (some v125) none v122 fun v126 =>
 bindS (ih 104 [v126, (.str ⟨2, 15707⟩)] h96) fun v127 h128 =>
 ifS v127 (
 bindS (bldStruct h128 [] (.agg [(.int .u8 0), (.str ⟨0, 0⟩), (.int .i64 0), (.int .i64 0)]) (some [(0, 1), (1, 1), (2, 1), (3, 1)])) fun v129 h130 =>
 storeN 4 v0 v129 h130 fun h131 =>
 loadN 4 v0 h131 fun v132 =>
 some (.tuple [v132, (.int .i64 0), (.int .i64 30)], h131)) (
 nilS a0 fun v133 =>
 addrS 3 v133 fun v134 =>
 load1 v134 h128 fun v135 =>
 bindS (lenSl v135 fun v => some (v, h128)) fun v136 h137 =>
 ih 17 [a0, v0, v8, v135, v136, (.int .i64 0)] h137))))))
def B17 (ih : II) (a0 a2 a5 a159 a160 a161 : V) (h : Hp) : VH :=
 intS .lss a161 a160 fun v138 =>
 ifS v138 (
 idxS 1 a159 a161 fun v139 =>
 load1 v139 h fun v140 =>
 bindS (ih 84 [a0, v140] h) fun v141 h142 =>
 ifS v141 (
 bindS (bldStruct h142 [(0, (.int .u8 3)), (1, v140)] (.agg [(.int .u8 0), (.str ⟨0, 0⟩), (.int .i64 0), (.int .i64 0)]) (some [(0, 1), (1, 1), (2, 1), (3, 1)])) fun v143 h144 =>
 bindS (lenStr v140 fun v => some (v, h144)) fun v145 h146 =>
 storeN 4 a2 v143 h146 fun h147 =>
 loadN 4 a2 h147 fun v148 =>
 some (.tuple [v148, v145, (.int .i64 0)], h147)) (
 intS .add a161 (.int .i64 1) fun v149 =>
 ih 17 [a0, a2, a5, a159, a160, v149] h142)) (
 intS .eql a5 (.int .u8 47) fun v150 =>
 guardS v150 false (intS .eql a5 (.int .u8 94) fun v151 =>
 some (v151, h)) h fun v152 h153 =>
 optS (pickV v150 (.bool true) v152) fun v154 =>
 ifS v154 (
 bindS (bldStruct h153 [] (.agg [(.int .u8 0), (.str ⟨0, 0⟩), (.int .i64 0), (.int .i64 0)]) (some [(0, 1), (1, 1), (2, 1), (3, 1)])) fun v155 h156 =>
 storeN 4 a2 v155 h156 fun h157 =>
 loadN 4 a2 h157 fun v158 =>
 some (.tuple [v158, (.int .i64 0), (.int .i64 31)], h157)) (
 bindS (bldStruct h153 [] (.agg [(.int .u8 0), (.str ⟨0, 0⟩), (.int .i64 0), (.int .i64 0)]) (some [(0, 1), (1, 1), (2, 1), (3, 1)])) fun v159 h160 =>
 storeN 4 a2 v159 h160 fun h161 =>
 loadN 4 a2 h161 fun v162 =>
 some (.tuple [v162, (.int .i64 0), (.int .i64 30)], h161)))
def B19 (ih : II) (a2 a10 a11 : V) (h : Hp) : VH :=
 loadN 4 a11 h fun v163 =>
 storeN 4 a2 v163 h fun h164 =>
 loadN 4 a2 h164 fun v165 =>
 some (.tuple [v165, a10, (.int .i64 0)], h164)
def B54 (ih : II) (a0 : V) (h : Hp) : VH :=
 bindS (ih 84 [a0, (.str ⟨2, 11565⟩)] h) fun v0 h1 =>
 notS v0 fun v2 =>
 ifS v2 (
 some (.tuple [(.bool false), (.int .i64 0)], h1)) (
 bindS (ih 86 [a0, (.int .i64 2)] h1) fun v3 h4 =>
 extS 0 v3 fun v5 =>
 extS 1 v3 fun v6 =>
 extS 2 v3 fun v7 =>
 guardS v7 true (intS .eql v6 (.int .i64 0) fun v8 =>
 some (v8, h4)) h4 fun v9 h10 =>
 optS (pickV v7 v9 (.bool false)) fun v11 =>
 ifS v11 (
 some (.tuple [(.bool true), (.int .i64 30)], h10)) (
 ifS v7 (
 intS .add v6 (.int .i64 2) fun v12 =>
 bindS (ih 48 [a0, v12] h10) fun v13 h14 =>
 ih 21 [] h14) (
 bindS (ih 50 [a0, (.int .i64 0), (.func 44 [] [])] h10) fun v15 h16 =>
 bindS (ih 48 [a0, v15] h16) fun v17 h18 =>
 ih 21 [] h18)))
def B21 (ih : II) (h : Hp) : VH :=
 some (.tuple [(.bool true), (.int .i64 0)], h)
def B50 (ih : II) (a0 a1 a2 : V) (h : Hp) : VH :=
 ih 23 [a0, a1, a2, a1] h
def B23 (ih : II) (a0 a1 a2 a7 : V) (h : Hp) : VH :=
 nilS a0 fun v0 =>
 addrS 1 v0 fun v1 =>
 load1 v1 h fun v2 =>
 intS .add v2 a7 fun v3 =>
 nilS a0 fun v4 =>
 addrS 0 v4 fun v5 =>
 load1 v5 h fun v6 =>
 bindS (lenStr v6 fun v => some (v, h)) fun v7 h8 =>
 intS .lss v3 v7 fun v9 =>
 guardS v9 true (some (a2, h)) h fun v10 _ =>
 guardS v9 true (some (a0, h)) h fun v11 _ =>
 guardS v9 true (nilS v11 fun v12 =>
 some (v12, h)) h fun v13 _ =>
 guardS v9 true (addrS 0 v13 fun v14 =>
 some (v14, h)) h fun v15 _ =>
 guardS v9 true (load1 v15 h fun v16 =>
 some (v16, h)) h fun v17 _ =>
 guardS v9 true (some (a0, h)) h fun v18 _ =>
 guardS v9 true (nilS v18 fun v19 =>
 some (v19, h)) h fun v20 _ =>
 guardS v9 true (addrS 1 v20 fun v21 =>
 some (v21, h)) h fun v22 _ =>
 guardS v9 true (load1 v22 h fun v23 =>
 some (v23, h)) h fun v24 _ =>
 guardS v9 true (some (a7, h)) h fun v25 _ =>
 guardS v9 true (intS .add v24 v25 fun v26 =>
 some (v26, h)) h fun v27 _ =>
 guardS v9 true (idxStr v17 v27 fun v28 =>
 some (v28, h)) h fun v29 _ =>
 guardS v9 true (bindS (dynE ih v10 [v29] h) fun v30 h31 =>
 some (v30, h31)) h fun v32 h33 =>
 optS (pickV v9 v32 (.bool false)) fun v34 =>
 ifS v34 (
 intS .add a7 (.int .i64 1) fun v35 =>
 ih 23 [a0, a1, a2, v35] h33) (
 intS .sub a7 a1 fun v36 =>
 some (v36, h33))
def B44 (ih : II) (a0 a1 : V) (h : Hp) : VH :=
 bindS (lenSl a0 fun v => some (v, h)) fun v0 h1 =>
 bindS (ih 78 [a0, v0, a1] h1) fun v2 h3 =>
 some (.tuple [], h3)
def B52 (ih : II) (a0 : V) (h : Hp) : VH :=
 intS .eql a0 (.int .u8 32) fun v0 =>
 guardS v0 false (bindS (ih 82 [(.int .u8 9), a0, (.int .u8 13)] h) fun v1 h2 =>
 some (v1, h2)) h fun v3 h4 =>
 optS (pickV v0 (.bool true) v3) fun v5 =>
 some (v5, h4)
def B80 (ih : II) (a0 : V) (h : Hp) : VH :=
 intS .eql a0 (.int .u8 10) fun v0 =>
 guardS v0 false (intS .eql a0 (.int .u8 13) fun v1 =>
 some (v1, h)) h fun v2 h3 =>
 optS (pickV v0 (.bool true) v2) fun v4 =>
 some (v4, h3)
def B84 (ih : II) (a0 a1 : V) (h : Hp) : VH :=
 nilS a0 fun v0 =>
 addrS 0 v0 fun v1 =>
 load1 v1 h fun v2 =>
 nilS a0 fun v3 =>
 addrS 1 v3 fun v4 =>
 load1 v4 h fun v5 =>
 slStrK (some v5) none v2 fun v6 =>
 bindS (ih 104 [v6, a1] h) fun v7 h8 =>
 some (v7, h8)
def B104 (ih : II) (a0 a1 : V) (h : Hp) : VH :=
 bindS (ih 172 [a0, a1] h) fun v0 h1 =>
 some (v0, h1)
def B102 (ih : II) (a0 : V) (h : Hp) : VH :=
 bindS (lenStr a0 fun v => some (v, h)) fun v0 h1 =>
 intS .lss v0 (.int .i64 2) fun v2 =>
 guardS v2 false (idxStr a0 (.int .i64 0) fun v3 =>
 intS .neq v3 (.int .u8 34) fun v4 =>
 some (v4, h1)) h1 fun v5 h6 =>
 guardS v5 true (idxStr a0 (.int .i64 0) fun v7 =>
 intS .neq v7 (.int .u8 39) fun v8 =>
 some (v8, h6)) h6 fun v9 h10 =>
 guardS v2 false (optS (pickV v5 v9 (.bool false)) fun v11 =>
 some (v11, h10)) h10 fun v12 h13 =>
 optS (pickV v2 (.bool true) v12) fun v14 =>
 ifS v14 (
 some (.tuple [(.str ⟨0, 0⟩), (.int .i64 30)], h13)) (
 newS 91 [.nilPtr, .nilSlice] h13 fun v15 h16 =>
 ih 27 [a0, v15, (.int .i64 1)] h16)
def B25 (ih : II) (a0 a4 a5 : V) (h : Hp) : VH :=
 bindS (lenStr a0 fun v => some (v, h)) fun v17 h18 =>
 intS .sub v17 (.int .i64 1) fun v19 =>
 intS .neq a5 v19 fun v20 =>
 ifS v20 (
 some (.tuple [(.str ⟨0, 0⟩), (.int .i64 30)], h18)) (
 bindS (ih 146 [a4] h18) fun v21 h22 =>
 some (.tuple [v21, (.int .i64 0)], h22))
def B27 (ih : II) (a0 a4 a5 : V) (h : Hp) : VH :=
 bindS (lenStr a0 fun v => some (v, h)) fun v23 h24 =>
 intS .lss a5 v23 fun v25 =>
 ifS v25 (
 idxStr a0 a5 fun v26 =>
 idxStr a0 (.int .i64 0) fun v27 =>
 intS .eql v26 v27 fun v28 =>
 ifS v28 (
 ih 25 [a0, a4, a5] h24) (
 intS .eql v26 (.int .u8 10) fun v29 =>
 guardS v29 false (intS .eql v26 (.int .u8 13) fun v30 =>
 some (v30, h24)) h24 fun v31 h32 =>
 optS (pickV v29 (.bool true) v31) fun v33 =>
 ifS v33 (
 some (.tuple [(.str ⟨0, 0⟩), (.int .i64 30)], h32)) (
 intS .eql v26 (.int .u8 92) fun v34 =>
 ifS v34 (
 intS .add a5 (.int .i64 1) fun v35 =>
 slStrK (some v35) none a0 fun v36 =>
 bindS (ih 170 [v36] h32) fun v37 h38 =>
 extS 0 v37 fun v39 =>
 extS 1 v37 fun v40 =>
 intS .eql v40 (.int .i64 0) fun v41 =>
 ifS v41 (
 some (.tuple [(.str ⟨0, 0⟩), (.int .i64 30)], h38)) (
 bindS (ih 144 [a4, v39] h38) fun v42 h43 =>
 intS .add v40 (.int .i64 1) fun v44 =>
 intS .add a5 v44 fun v45 =>
 ih 27 [a0, a4, v45] h43)) (
 bindS (ih 142 [a4, v26] h32) fun v46 h47 =>
 intS .add a5 (.int .i64 1) fun v48 =>
 ih 27 [a0, a4, v48] h47)))) (
 ih 25 [a0, a4, a5] h24)
def B100 (ih : II) (a0 : V) (h : Hp) : VH :=
 ih 29 [a0, (.int .i64 1)] h
def B29 (ih : II) (a0 a3 : V) (h : Hp) : VH :=
 nilS a0 fun v0 =>
 addrS 1 v0 fun v1 =>
 load1 v1 h fun v2 =>
 intS .add v2 a3 fun v3 =>
 nilS a0 fun v4 =>
 addrS 0 v4 fun v5 =>
 load1 v5 h fun v6 =>
 bindS (lenStr v6 fun v => some (v, h)) fun v7 h8 =>
 intS .lss v3 v7 fun v9 =>
 ifS v9 (
 nilS a0 fun v10 =>
 addrS 0 v10 fun v11 =>
 load1 v11 h fun v12 =>
 nilS a0 fun v13 =>
 addrS 1 v13 fun v14 =>
 load1 v14 h fun v15 =>
 intS .add v15 a3 fun v16 =>
 idxStr v12 v16 fun v17 =>
 nilS a0 fun v18 =>
 addrS 0 v18 fun v19 =>
 load1 v19 h fun v20 =>
 nilS a0 fun v21 =>
 addrS 1 v21 fun v22 =>
 load1 v22 h fun v23 =>
 idxStr v20 v23 fun v24 =>
 intS .eql v17 v24 fun v25 =>
 ifS v25 (
 intS .add a3 (.int .i64 1) fun v26 =>
 some (v26, h)) (
 bindS (ih 80 [v17] h) fun v27 h28 =>
 ifS v27 (
 some ((.int .i64 0), h28)) (
 intS .eql v17 (.int .u8 92) fun v29 =>
 guardS v29 true (some (a0, h28)) h28 fun v30 _ =>
 guardS v29 true (nilS v30 fun v31 =>
 some (v31, h28)) h28 fun v32 _ =>
 guardS v29 true (addrS 1 v32 fun v33 =>
 some (v33, h28)) h28 fun v34 _ =>
 guardS v29 true (load1 v34 h28 fun v35 =>
 some (v35, h28)) h28 fun v36 _ =>
 guardS v29 true (some (a3, h28)) h28 fun v37 _ =>
 guardS v29 true (intS .add v36 v37 fun v38 =>
 some (v38, h28)) h28 fun v39 _ =>
 guardS v29 true (intS .add v39 (.int .i64 1) fun v40 =>
 some (v40, h28)) h28 fun v41 _ =>
 guardS v29 true (some (a0, h28)) h28 fun v42 _ =>
 guardS v29 true (nilS v42 fun v43 =>
 some (v43, h28)) h28 fun v44 _ =>
 guardS v29 true (addrS 0 v44 fun v45 =>
 some (v45, h28)) h28 fun v46 _ =>
 guardS v29 true (load1 v46 h28 fun v47 =>
 some (v47, h28)) h28 fun v48 _ =>
 guardS v29 true (bindS (lenStr v48 fun v => some (v, h28)) fun v49 h50 =>
 some (v49, h50)) h28 fun v51 _ =>
 guardS v29 true (intS .lss v41 v51 fun v52 =>
 some (v52, h28)) h28 fun v53 h54 =>
 optS (pickV v29 v53 (.bool false)) fun v55 =>
 ifS v55 (
 intS .add a3 (.int .i64 1) fun v56 =>
 bindS (ih 168 [a0, v56] h54) fun v57 h58 =>
 intS .add a3 v57 fun v59 =>
 ih 31 [a0, v59] h58) (
 ih 31 [a0, a3] h54)))) (
 some ((.int .i64 0), h))
def B31 (ih : II) (a0 a3 : V) (h : Hp) : VH :=
 intS .add a3 (.int .i64 1) fun v60 =>
 ih 29 [a0, v60] h
def B98 (ih : II) (a0 : V) (h : Hp) : VH :=
 newS 25 [(.int .u8 0), (.str ⟨0, 0⟩), (.int .i64 0), (.int .i64 0)] h fun v0 h1 =>
 bindS (ih 104 [a0, (.str ⟨2, 30768⟩)] h1) fun v2 h3 =>
 guardS v2 false (bindS (ih 104 [a0, (.str ⟨2, 22576⟩)] h3) fun v4 h5 =>
 some (v4, h5)) h3 fun v6 h7 =>
 optS (pickV v2 (.bool true) v6) fun v8 =>
 bindS (ih 162 [a0, (.str ⟨10, 270211885617516653982000⟩)] h7) fun v9 h10 =>
 strS .eql v9 (.str ⟨0, 0⟩) fun v11 =>
 bindS (ih 164 [a0] h10) fun v12 h13 =>
 extS 0 v12 fun v14 =>
 extS 1 v12 fun v15 =>
 guardS v15 true (some (v8, h13)) h13 fun v16 h17 =>
 guardS v16 false (some (v11, h17)) h17 fun v18 h19 =>
 guardS v15 true (optS (pickV v16 (.bool true) v18) fun v20 =>
 some (v20, h19)) h19 fun v21 h22 =>
 optS (pickV v15 v21 (.bool false)) fun v23 =>
 ifS v23 (
 bindS (bldStruct h22 [(0, (.int .u8 4)), (2, v14)] (.agg [(.int .u8 0), (.str ⟨0, 0⟩), (.int .i64 0), (.int .i64 0)]) (some [(0, 1), (1, 1), (2, 1), (3, 1)])) fun v24 h25 =>
 storeN 4 v0 v24 h25 fun h26 =>
 loadN 4 v0 h26 fun v27 =>
 some (.tuple [v27, (.int .i64 0)], h26)) (
 guardS v11 false (bindS (ih 58 [a0, (.str ⟨1, 46⟩)] h22) fun v28 h29 =>
 some (v28, h29)) h22 fun v30 h31 =>
 optS (pickV v11 (.bool true) v30) fun v32 =>
 guardS v32 false (notS v8 fun v33 =>
 some (v33, h31)) h31 fun v34 h35 =>
 guardS v34 true (bindS (ih 166 [a0, (.str ⟨2, 17765⟩)] h35) fun v36 h37 =>
 some (v36, h37)) h35 fun v38 h39 =>
 guardS v32 false (optS (pickV v34 v38 (.bool false)) fun v40 =>
 some (v40, h39)) h39 fun v41 h42 =>
 optS (pickV v32 (.bool true) v41) fun v43 =>
 guardS v43 false (some (v8, h42)) h42 fun v44 h45 =>
 guardS v44 true (bindS (ih 166 [a0, (.str ⟨2, 20592⟩)] h45) fun v46 h47 =>
 some (v46, h47)) h45 fun v48 h49 =>
 guardS v43 false (optS (pickV v44 v48 (.bool false)) fun v50 =>
 some (v50, h49)) h49 fun v51 h52 =>
 optS (pickV v43 (.bool true) v51) fun v53 =>
 ifS v53 (
 bindS (bldStruct h52 [] (.agg [(.int .u8 0), (.str ⟨0, 0⟩), (.int .i64 0), (.int .i64 0)]) (some [(0, 1), (1, 1), (2, 1), (3, 1)])) fun v54 h55 =>
 storeN 4 v0 v54 h55 fun h56 =>
 loadN 4 v0 h56 fun v57 =>
 some (.tuple [v57, (.int .i64 31)], h56)) (
 bindS (bldStruct h52 [] (.agg [(.int .u8 0), (.str ⟨0, 0⟩), (.int .i64 0), (.int .i64 0)]) (some [(0, 1), (1, 1), (2, 1), (3, 1)])) fun v58 h59 =>
 storeN 4 v0 v58 h59 fun h60 =>
 loadN 4 v0 h60 fun v61 =>
 some (.tuple [v61, (.int .i64 30)], h60)))
def B96 (ih : II) (a0 : V) (h : Hp) : VH :=
 newS 9 [(.str ⟨0, 0⟩)] h fun v0 h1 =>
 storeC v0 (.str ⟨2, 17765⟩) h1 fun h2 =>
 bindS (ih 84 [a0, (.str ⟨2, 30768⟩)] h2) fun v3 h4 =>
 guardS v3 false (bindS (ih 84 [a0, (.str ⟨2, 22576⟩)] h4) fun v5 h6 =>
 some (v5, h6)) h4 fun v7 h8 =>
 optS (pickV v3 (.bool true) v7) fun v9 =>
 ifS v9 (
 storeC v0 (.str ⟨2, 20592⟩) h8 fun h10 =>
 ih 33 [a0, v0] h10) (
 ih 33 [a0, v0] h8)
def B33 (ih : II) (a0 a3 : V) (h : Hp) : VH :=
 newS 5 [(.int .u8 0)] h fun v11 h12 =>
 storeC v11 (.int .u8 0) h12 fun h13 =>
 bindS (ih 50 [a0, (.int .i64 0), (.func 79 [] [a3, v11])] h13) fun v14 h15 =>
 some (v14, h15)
def B24 (ih : II) (a0 : V) (h : Hp) : VH :=
 strS .neq a0 (.str ⟨0, 0⟩) fun v0 =>
 guardS v0 true (bindS (ih 58 [a0, (.str ⟨1, 32⟩)] h) fun v1 h2 =>
 notS v1 fun v3 =>
 some (v3, h2)) h fun v4 h5 =>
 optS (pickV v0 v4 (.bool false)) fun v6 =>
 guardS v6 true (strS .add (.str ⟨1, 32⟩) a0 fun v7 =>
 strS .add v7 (.str ⟨1, 32⟩) fun v8 =>
 bindS (ih 58 [(.str ⟨113, 17114727619812652865831592289240362729846247184396431686340976947246213244203127547449191376236204538493561187876213366597712742219312077217799013184980281018523815296416470444940759774119422513229535319500938016196420794042916494387837719131367459550913945883633037238560⟩), v8] h5) fun v9 h10 =>
 some (v9, h10)) h5 fun v11 h12 =>
 optS (pickV v6 v11 (.bool false)) fun v13 =>
 some (v13, h12)
def B92 (ih : II) (a0 : V) (h : Hp) : VH :=
 bindS (ih 82 [(.int .u8 97), a0, (.int .u8 122)] h) fun v0 h1 =>
 guardS v0 false (bindS (ih 82 [(.int .u8 65), a0, (.int .u8 90)] h1) fun v2 h3 =>
 some (v2, h3)) h1 fun v4 h5 =>
 optS (pickV v0 (.bool true) v4) fun v6 =>
 guardS v6 false (intS .eql a0 (.int .u8 95) fun v7 =>
 some (v7, h5)) h5 fun v8 h9 =>
 optS (pickV v6 (.bool true) v8) fun v10 =>
 some (v10, h9)
def B86 (ih : II) (a0 a1 : V) (h : Hp) : VH :=
 nilS a0 fun v0 =>
 addrS 0 v0 fun v1 =>
 load1 v1 h fun v2 =>
 nilS a0 fun v3 =>
 addrS 1 v3 fun v4 =>
 load1 v4 h fun v5 =>
 intS .add v5 a1 fun v6 =>
 slStrK (some v6) none v2 fun v7 =>
 bindS (ih 104 [v7, (.str ⟨1, 91⟩)] h) fun v8 h9 =>
 notS v8 fun v10 =>
 ifS v10 (
 some (.tuple [(.str ⟨0, 0⟩), (.int .i64 0), (.bool false)], h9)) (
 slStrK (some (.int .i64 1)) none v7 fun v11 =>
 bindS (lenStr v11 fun v => some (v, h9)) fun v12 h13 =>
 slStrK (some (.int .i64 1)) none v7 fun v14 =>
 bindS (ih 152 [v14, (.str ⟨1, 61⟩)] ⟨h9.t, h9.n, h9.n⟩) fun v15 h16 =>
 cD ((pureB h9 h16 || false) && true) (
 wroteS h9.low h16 fun h17 =>
 bindS (lenStr v15 fun v => some (v, h17)) fun v18 h19 =>
 intS .sub v12 v18 fun v20 =>
 intS .add (.int .i64 1) v20 fun v21 =>
 slStrK (some v21) none v7 fun v22 =>
 bindS (ih 104 [v22, (.str ⟨1, 91⟩)] h17) fun v23 h24 =>
 notS v23 fun v25 =>
 ifS v25 (
 some (.tuple [(.str ⟨0, 0⟩), (.int .i64 0), (.bool false)], h24)) (
 intS .add v20 (.int .i64 2) fun v26 =>
 slStrK (some v26) none v7 fun v27 =>
 intS .add (.int .i64 1) v20 fun v28 =>
 slStrK (some (.int .i64 1)) (some v28) v7 fun v29 =>
 strS .add (.str ⟨1, 93⟩) v29 fun v30 =>
 strS .add v30 (.str ⟨1, 93⟩) fun v31 =>
 bindS (ih 106 [v27, v31] h24) fun v32 h33 =>
 intS .lss v32 (.int .i64 0) fun v34 =>
 ifS v34 (
 some (.tuple [(.str ⟨0, 0⟩), (.int .i64 0), (.bool true)], h33)) (
 slStrK none (some v32) v27 fun v35 =>
 bindS (ih 156 [v35] h33) fun v36 h37 =>
 bindS (ih 154 [v36, (.str ⟨1, 10⟩)] h37) fun v38 h39 =>
 intS .add v20 (.int .i64 2) fun v40 =>
 intS .mul (.int .i64 2) v40 fun v41 =>
 intS .add v32 v41 fun v42 =>
 some (.tuple [v38, v42, (.bool true)], h39)))) none)
def B90 (ih : II) (a0 : V) (h : Hp) : VH :=
 bindS (ih 82 [(.int .u8 48), a0, (.int .u8 57)] h) fun v0 h1 =>
 some (v0, h1)
def B94 (ih : II) (a0 : V) (h : Hp) : VH :=
 bindS (ih 92 [a0] h) fun v0 h1 =>
 guardS v0 false (bindS (ih 90 [a0] h1) fun v2 h3 =>
 some (v2, h3)) h1 fun v4 h5 =>
 optS (pickV v0 (.bool true) v4) fun v6 =>
 some (v6, h5)
def B88 (ih : II) (a0 : V) (h : Hp) : VH :=
 bindS (ih 80 [a0] h) fun v0 h1 =>
 notS v0 fun v2 =>
 some (v2, h1)
def B82 (ih : II) (a0 a1 a2 : V) (h : Hp) : VH :=
 intS .geq a1 a0 fun v0 =>
 guardS v0 true (intS .leq a1 a2 fun v1 =>
 some (v1, h)) h fun v2 h3 =>
 optS (pickV v0 v2 (.bool false)) fun v4 =>
 some (v4, h3)
def B172 (ih : II) (a0 a1 : V) (h : Hp) : VH :=
 bindS (lenStr a0 fun v => some (v, h)) fun v0 h1 =>
 bindS (lenStr a1 fun v => some (v, h1)) fun v2 h3 =>
 intS .geq v0 v2 fun v4 =>
 guardS v4 true (bindS (lenStr a1 fun v => some (v, h3)) fun v5 h6 =>
 slStrK none (some v5) a0 fun v7 =>
 strS .eql v7 a1 fun v8 =>
 some (v8, h6)) h3 fun v9 h10 =>
 optS (pickV v4 v9 (.bool false)) fun v11 =>
 some (v11, h10)
def B142 (ih : II) (a0 a1 : V) (h : Hp) : VH :=
 bindS (ih 206 [a0] h) fun v0 h1 =>
 nilS a0 fun v2 =>
 addrS 1 v2 fun v3 =>
 load1 v3 h1 fun v4 =>
 bindS (bldSl h1 [(0, a1)] 5 1 1 (.int .u8 0)) fun v5 h6 =>
 bindS (appS 5 1 1 v4 v5 h6) fun v7 h8 =>
 nilS a0 fun v9 =>
 addrS 1 v9 fun v10 =>
 storeC v10 v7 h8 fun h11 =>
 some (.nilIface, h11)
def B144 (ih : II) (a0 a1 : V) (h : Hp) : VH :=
 bindS (ih 206 [a0] h) fun v0 h1 =>
 nilS a0 fun v2 =>
 addrS 1 v2 fun v3 =>
 load1 v3 h1 fun v4 =>
 bindS (appS 5 1 1 v4 a1 h1) fun v5 h6 =>
 nilS a0 fun v7 =>
 addrS 1 v7 fun v8 =>
 storeC v8 v5 h6 fun h9 =>
 bindS (lenStr a1 fun v => some (v, h9)) fun v10 h11 =>
 some (.tuple [v10, .nilIface], h11)
def B170 (ih : II) (a0 : V) (h : Hp) : VH :=
 strS .eql a0 (.str ⟨0, 0⟩) fun v0 =>
 ifS v0 (
 some (.tuple [(.str ⟨0, 0⟩), (.int .i64 0)], h)) (
 idxStr a0 (.int .i64 0) fun v1 =>
 intS .eql v1 (.int .u8 10) fun v2 =>
 guardS v2 false (idxStr a0 (.int .i64 0) fun v3 =>
 intS .eql v3 (.int .u8 13) fun v4 =>
 some (v4, h)) h fun v5 h6 =>
 optS (pickV v2 (.bool true) v5) fun v7 =>
 ifS v7 (
 bindS (lenStr a0 fun v => some (v, h6)) fun v8 h9 =>
 intS .gtr v8 (.int .i64 1) fun v10 =>
 guardS v10 true (some (a0, h6)) h6 fun v11 _ =>
 guardS v10 true (idxStr v11 (.int .i64 1) fun v12 =>
 some (v12, h6)) h6 fun v13 _ =>
 guardS v10 true (intS .eql v13 (.int .u8 10) fun v14 =>
 some (v14, h6)) h6 fun v15 _ =>
 guardS v10 true (some (v15, h6)) h6 fun v16 _ =>
 guardS v16 false (some (a0, h6)) h6 fun v17 _ =>
 guardS v16 false (idxStr v17 (.int .i64 1) fun v18 =>
 some (v18, h6)) h6 fun v19 _ =>
 guardS v16 false (intS .eql v19 (.int .u8 13) fun v20 =>
 some (v20, h6)) h6 fun v21 _ =>
 guardS v10 true (optS (pickV v16 (.bool true) v21) fun v22 =>
 some (v22, h6)) h6 fun v23 _ =>
 optS (pickV v10 v23 (.bool false)) fun v24 =>
 guardS v24 true (some (a0, h6)) h6 fun v25 _ =>
 guardS v24 true (idxStr v25 (.int .i64 1) fun v26 =>
 some (v26, h6)) h6 fun v27 _ =>
 guardS v24 true (some (a0, h6)) h6 fun v28 _ =>
 guardS v24 true (idxStr v28 (.int .i64 0) fun v29 =>
 some (v29, h6)) h6 fun v30 _ =>
 guardS v24 true (intS .neq v27 v30 fun v31 =>
 some (v31, h6)) h6 fun v32 h33 =>
 optS (pickV v24 v32 (.bool false)) fun v34 =>
 ifS v34 (
 some (.tuple [(.str ⟨1, 10⟩), (.int .i64 2)], h33)) (
 some (.tuple [(.str ⟨1, 10⟩), (.int .i64 1)], h33))) (
 idxStr a0 (.int .i64 0) fun v35 =>
 intS .eql v35 (.int .u8 120) fun v36 =>
 ifS v36 (
 slStrK (some (.int .i64 1)) none a0 fun v37 =>
 bindS (ih 236 [v37, (.int .i64 2), (.int .i64 16)] h6) fun v38 h39 =>
 extS 0 v38 fun v40 =>
 extS 1 v38 fun v41 =>
 intS .eql v41 (.int .i64 2) fun v42 =>
 ifS v42 (
 convI .u8 v40 fun v43 =>
 bindS (bldSl h39 [(0, v43)] 5 1 1 (.int .u8 0)) fun v44 h45 =>
 bindS (vh h45 (b2s h45 v44)) fun v46 h47 =>
 some (.tuple [v46, (.int .i64 3)], h47)) (
 ih 35 [] h39)) (
 idxStr a0 (.int .i64 0) fun v48 =>
 intS .eql v48 (.int .u8 122) fun v49 =>
 ifS v49 (
 ih 37 [a0, (.int .i64 1)] h6) (
 idxStr a0 (.int .i64 0) fun v50 =>
 intS .eql v50 (.int .u8 117) fun v51 =>
 ifS v51 (
 bindS (ih 104 [a0, (.str ⟨2, 31605⟩)] h6) fun v52 h53 =>
 notS v52 fun v54 =>
 ifS v54 (
 ih 35 [] h53) (
 slStrK (some (.int .i64 2)) none a0 fun v55 =>
 bindS (lenStr a0 fun v => some (v, h53)) fun v56 h57 =>
 bindS (ih 236 [v55, v56, (.int .i64 16)] h57) fun v58 h59 =>
 extS 0 v58 fun v60 =>
 extS 1 v58 fun v61 =>
 bindS (ih 238 [v60] h59) fun v62 h63 =>
 extS 0 v62 fun v64 =>
 extS 1 v62 fun v65 =>
 intS .gtr v61 (.int .i64 0) fun v66 =>
 guardS v66 true (intS .eql v65 (.int .i64 0) fun v67 =>
 some (v67, h63)) h63 fun v68 h69 =>
 optS (pickV v66 v68 (.bool false)) fun v70 =>
 guardS v70 true (intS .add (.int .i64 2) v61 fun v71 =>
 slStrK (some v71) none a0 fun v72 =>
 bindS (ih 104 [v72, (.str ⟨1, 125⟩)] h69) fun v73 h74 =>
 some (v73, h74)) h69 fun v75 h76 =>
 optS (pickV v70 v75 (.bool false)) fun v77 =>
 ifS v77 (
 intS .add v61 (.int .i64 3) fun v78 =>
 some (.tuple [v64, v78], h76)) (
 ih 35 [] h76))) (
 idxStr a0 (.int .i64 0) fun v79 =>
 bindS (ih 90 [v79] h6) fun v80 h81 =>
 ifS v80 (
 bindS (ih 236 [a0, (.int .i64 3), (.int .i64 10)] h81) fun v82 h83 =>
 extS 0 v82 fun v84 =>
 extS 1 v82 fun v85 =>
 intS .leq v84 (.int .i64 255) fun v86 =>
 ifS v86 (
 convI .u8 v84 fun v87 =>
 bindS (bldSl h83 [(0, v87)] 5 1 1 (.int .u8 0)) fun v88 h89 =>
 bindS (vh h89 (b2s h89 v88)) fun v90 h91 =>
 some (.tuple [v90, v85], h91)) (
 ih 35 [] h83)) (
 ih 39 [a0, (.int .i64 0)] h81))))))
def B35 (ih : II) (h : Hp) : VH :=
 some (.tuple [(.str ⟨0, 0⟩), (.int .i64 0)], h)
def B37 (ih : II) (a0 a6 : V) (h : Hp) : VH :=
 bindS (lenStr a0 fun v => some (v, h)) fun v92 h93 =>
 intS .lss a6 v92 fun v94 =>
 guardS v94 true (idxStr a0 a6 fun v95 =>
 bindS (ih 52 [v95] h93) fun v96 h97 =>
 some (v96, h97)) h93 fun v98 h99 =>
 optS (pickV v94 v98 (.bool false)) fun v100 =>
 ifS v100 (
 intS .add a6 (.int .i64 1) fun v101 =>
 ih 37 [a0, v101] h99) (
 some (.tuple [(.str ⟨0, 0⟩), a6], h99))
def B39 (ih : II) (a0 a13 : V) (h : Hp) : VH :=
 intS .lss a13 (.int .i64 20) fun v102 =>
 ifS v102 (
 idxStr (.str ⟨20, 194867322317691132958510344948545282249320433505⟩) a13 fun v103 =>
 idxStr a0 (.int .i64 0) fun v104 =>
 intS .eql v103 v104 fun v105 =>
 ifS v105 (
 intS .add a13 (.int .i64 1) fun v106 =>
 intS .add a13 (.int .i64 2) fun v107 =>
 slStrK (some v106) (some v107) (.str ⟨20, 194867322317691132958510344948545282249320433505⟩) fun v108 =>
 some (.tuple [v108, (.int .i64 1)], h)) (
 intS .add a13 (.int .i64 2) fun v109 =>
 ih 39 [a0, v109] h)) (
 ih 35 [] h)
def B146 (ih : II) (a0 : V) (h : Hp) : VH :=
 nilS a0 fun v0 =>
 addrS 1 v0 fun v1 =>
 load1 v1 h fun v2 =>
 bindS (vh h (headV h v2)) fun v3 h4 =>
 nilS a0 fun v5 =>
 addrS 1 v5 fun v6 =>
 load1 v6 h fun v7 =>
 bindS (lenSl v7 fun v => some (v, h)) fun v8 h9 =>
 bindS (seeV h 5 v3 v8) fun v10 h11 =>
 some (v10, h11)
def B168 (ih : II) (a0 a1 : V) (h : Hp) : VH :=
 nilS a0 fun v0 =>
 addrS 0 v0 fun v1 =>
 load1 v1 h fun v2 =>
 nilS a0 fun v3 =>
 addrS 1 v3 fun v4 =>
 load1 v4 h fun v5 =>
 intS .add v5 a1 fun v6 =>
 idxStr v2 v6 fun v7 =>
 intS .eql v7 (.int .u8 122) fun v8 =>
 ifS v8 (
 intS .add a1 (.int .i64 1) fun v9 =>
 bindS (ih 50 [a0, v9, (.func 26 [] [])] h) fun v10 h11 =>
 intS .add (.int .i64 1) v10 fun v12 =>
 some (v12, h11)) (
 bindS (ih 80 [v7] ⟨h.t, h.n, h.n⟩) fun v13 h14 =>
 wroteS h.low h14 fun h15 =>
 guardS v13 true (some (a0, h15)) h15 fun v16 _ =>
 guardS v13 true (nilS v16 fun v17 =>
 some (v17, h15)) h15 fun v18 _ =>
 guardS v13 true (addrS 1 v18 fun v19 =>
 some (v19, h15)) h15 fun v20 _ =>
 guardS v13 true (load1 v20 h15 fun v21 =>
 some (v21, h15)) h15 fun v22 _ =>
 guardS v13 true (some (a1, h15)) h15 fun v23 _ =>
 guardS v13 true (intS .add v22 v23 fun v24 =>
 some (v24, h15)) h15 fun v25 _ =>
 guardS v13 true (intS .add v25 (.int .i64 1) fun v26 =>
 some (v26, h15)) h15 fun v27 _ =>
 guardS v13 true (some (a0, h15)) h15 fun v28 _ =>
 guardS v13 true (nilS v28 fun v29 =>
 some (v29, h15)) h15 fun v30 _ =>
 guardS v13 true (addrS 0 v30 fun v31 =>
 some (v31, h15)) h15 fun v32 _ =>
 guardS v13 true (load1 v32 h15 fun v33 =>
 some (v33, h15)) h15 fun v34 _ =>
 guardS v13 true (bindS (lenStr v34 fun v => some (v, h15)) fun v35 h36 =>
 some (v35, h36)) h15 fun v37 _ =>
 guardS v13 true (intS .lss v27 v37 fun v38 =>
 some (v38, h15)) h15 fun v39 _ =>
 optS (pickV v13 v39 (.bool false)) fun v40 =>
 guardS v40 true (some (a0, h15)) h15 fun v41 _ =>
 guardS v40 true (nilS v41 fun v42 =>
 some (v42, h15)) h15 fun v43 _ =>
 guardS v40 true (addrS 0 v43 fun v44 =>
 some (v44, h15)) h15 fun v45 _ =>
 guardS v40 true (load1 v45 h15 fun v46 =>
 some (v46, h15)) h15 fun v47 _ =>
 guardS v40 true (some (a0, h15)) h15 fun v48 _ =>
 guardS v40 true (nilS v48 fun v49 =>
 some (v49, h15)) h15 fun v50 _ =>
 guardS v40 true (addrS 1 v50 fun v51 =>
 some (v51, h15)) h15 fun v52 _ =>
 guardS v40 true (load1 v52 h15 fun v53 =>
 some (v53, h15)) h15 fun v54 _ =>
 guardS v40 true (some (a1, h15)) h15 fun v55 _ =>
 guardS v40 true (intS .add v54 v55 fun v56 =>
 some (v56, h15)) h15 fun v57 _ =>
 guardS v40 true (intS .add v57 (.int .i64 1) fun v58 =>
 some (v58, h15)) h15 fun v59 _ =>
 guardS v40 true (idxStr v47 v59 fun v60 =>
 some (v60, h15)) h15 fun v61 _ =>
 guardB v40 true (
 bindS (ih 80 [v61] ⟨h15.t, h15.n, h15.n⟩) fun v62 h63 =>
 wroteS h15.low h63 fun h64 =>
 optS (pickV v40 v62 (.bool false)) fun v65 =>
 guardS v65 true (some (a0, h64)) h64 fun v66 _ =>
 guardS v65 true (nilS v66 fun v67 =>
 some (v67, h64)) h64 fun v68 _ =>
 guardS v65 true (addrS 0 v68 fun v69 =>
 some (v69, h64)) h64 fun v70 _ =>
 guardS v65 true (load1 v70 h64 fun v71 =>
 some (v71, h64)) h64 fun v72 _ =>
 guardS v65 true (some (a0, h64)) h64 fun v73 _ =>
 guardS v65 true (nilS v73 fun v74 =>
 some (v74, h64)) h64 fun v75 _ =>
 guardS v65 true (addrS 1 v75 fun v76 =>
 some (v76, h64)) h64 fun v77 _ =>
 guardS v65 true (load1 v77 h64 fun v78 =>
 some (v78, h64)) h64 fun v79 _ =>
 guardS v65 true (some (a1, h64)) h64 fun v80 _ =>
 guardS v65 true (intS .add v79 v80 fun v81 =>
 some (v81, h64)) h64 fun v82 _ =>
 guardS v65 true (intS .add v82 (.int .i64 1) fun v83 =>
 some (v83, h64)) h64 fun v84 _ =>
 guardS v65 true (idxStr v72 v84 fun v85 =>
 some (v85, h64)) h64 fun v86 _ =>
 guardS v65 true (some (v7, h64)) h64 fun v87 _ =>
 guardS v65 true (intS .neq v86 v87 fun v88 =>
 some (v88, h64)) h64 fun v89 h90 =>
 optS (pickV v65 v89 (.bool false)) fun v91 =>
 ifS v91 (
 some ((.int .i64 2), h90)) (
 some ((.int .i64 1), h90))) (
 optS (pickV v40 undefV (.bool false)) fun v92 =>
 guardS v92 true (some (a0, h15)) h15 fun v93 _ =>
 guardS v92 true (nilS v93 fun v94 =>
 some (v94, h15)) h15 fun v95 _ =>
 guardS v92 true (addrS 0 v95 fun v96 =>
 some (v96, h15)) h15 fun v97 _ =>
 guardS v92 true (load1 v97 h15 fun v98 =>
 some (v98, h15)) h15 fun v99 _ =>
 guardS v92 true (some (a0, h15)) h15 fun v100 _ =>
 guardS v92 true (nilS v100 fun v101 =>
 some (v101, h15)) h15 fun v102 _ =>
 guardS v92 true (addrS 1 v102 fun v103 =>
 some (v103, h15)) h15 fun v104 _ =>
 guardS v92 true (load1 v104 h15 fun v105 =>
 some (v105, h15)) h15 fun v106 _ =>
 guardS v92 true (some (a1, h15)) h15 fun v107 _ =>
 guardS v92 true (intS .add v106 v107 fun v108 =>
 some (v108, h15)) h15 fun v109 _ =>
 guardS v92 true (intS .add v109 (.int .i64 1) fun v110 =>
 some (v110, h15)) h15 fun v111 _ =>
 guardS v92 true (idxStr v99 v111 fun v112 =>
 some (v112, h15)) h15 fun v113 _ =>
 guardS v92 true (some (v7, h15)) h15 fun v114 _ =>
 guardS v92 true (intS .neq v113 v114 fun v115 =>
 some (v115, h15)) h15 fun v116 h117 =>
 optS (pickV v92 v116 (.bool false)) fun v118 =>
 ifS v118 (
 some ((.int .i64 2), h117)) (
 some ((.int .i64 1), h117))))
def B164 (ih : II) (a0 : V) (h : Hp) : VH :=
 newS 9 (vcells a0) h fun v0 h1 =>
 bindS (dynE ih (.func 114 [] [v0]) [] h1) fun v2 h3 =>
 load1 v0 h3 fun v4 =>
 strS .neq v4 (.str ⟨0, 0⟩) fun v5 =>
 guardS v5 true (load1 v0 h3 fun v6 =>
 idxStr v6 (.int .i64 0) fun v7 =>
 intS .eql v7 (.int .u8 45) fun v8 =>
 some (v8, h3)) h3 fun v9 h10 =>
 guardS v9 false (load1 v0 h10 fun v11 =>
 idxStr v11 (.int .i64 0) fun v12 =>
 intS .eql v12 (.int .u8 43) fun v13 =>
 some (v13, h10)) h10 fun v14 h15 =>
 guardS v5 true (optS (pickV v9 (.bool true) v14) fun v16 =>
 some (v16, h15)) h15 fun v17 h18 =>
 optS (pickV v5 v17 (.bool false)) fun v19 =>
 ifS v19 (
 load1 v0 h18 fun v20 =>
 slStrK none (some (.int .i64 1)) v20 fun v21 =>
 load1 v0 h18 fun v22 =>
 slStrK (some (.int .i64 1)) none v22 fun v23 =>
 storeC v0 v23 h18 fun h24 =>
 ih 41 [v0, v21] h24) (
 ih 41 [v0, (.str ⟨0, 0⟩)] h18)
def B41 (ih : II) (a1 a5 : V) (h : Hp) : VH :=
 load1 a1 h fun v25 =>
 bindS (lenStr v25 fun v => some (v, h)) fun v26 h27 =>
 intS .geq v26 (.int .i64 2) fun v28 =>
 guardS v28 true (load1 a1 h27 fun v29 =>
 idxStr v29 (.int .i64 0) fun v30 =>
 intS .eql v30 (.int .u8 48) fun v31 =>
 some (v31, h27)) h27 fun v32 h33 =>
 optS (pickV v28 v32 (.bool false)) fun v34 =>
 guardS v34 true (load1 a1 h33 fun v35 =>
 idxStr v35 (.int .i64 1) fun v36 =>
 intS .eql v36 (.int .u8 120) fun v37 =>
 some (v37, h33)) h33 fun v38 h39 =>
 guardS v38 false (load1 a1 h39 fun v40 =>
 idxStr v40 (.int .i64 1) fun v41 =>
 intS .eql v41 (.int .u8 88) fun v42 =>
 some (v42, h39)) h39 fun v43 h44 =>
 guardS v34 true (optS (pickV v38 (.bool true) v43) fun v45 =>
 some (v45, h44)) h44 fun v46 h47 =>
 optS (pickV v34 v46 (.bool false)) fun v48 =>
 ifS v48 (
 load1 a1 h47 fun v49 =>
 slStrK (some (.int .i64 2)) none v49 fun v50 =>
 bindS (ih 230 [v50] h47) fun v51 h52 =>
 extS 0 v51 fun v53 =>
 extS 1 v51 fun v54 =>
 strS .eql a5 (.str ⟨1, 45⟩) fun v55 =>
 ifS v55 (
 negS v53 fun v56 =>
 ih 45 [v56, v54] h52) (
 ih 45 [v53, v54] h52)) (
 load1 a1 h47 fun v57 =>
 bindS (lenStr v57 fun v => some (v, h47)) fun v58 h59 =>
 ih 43 [a1, a5, v58, (.int .i64 0)] h59)
def B43 (ih : II) (a1 a5 a63 a64 : V) (h : Hp) : VH :=
 intS .lss a64 a63 fun v60 =>
 ifS v60 (
 load1 a1 h fun v61 =>
 idxStr v61 a64 fun v62 =>
 bindS (ih 90 [v62] h) fun v63 h64 =>
 notS v63 fun v65 =>
 ifS v65 (
 some (.tuple [(.int .i64 0), (.bool false)], h64)) (
 intS .add a64 (.int .i64 1) fun v66 =>
 ih 43 [a1, a5, a63, v66] h64)) (
 load1 a1 h fun v67 =>
 strS .add a5 v67 fun v68 =>
 bindS (ih 232 [v68, (.int .i64 10), (.int .i64 64)] h) fun v69 h70 =>
 extS 0 v69 fun v71 =>
 extS 1 v69 fun v72 =>
 bindS (vh h70 (eqOp .neq (cmpI Tryz.prog true v72 .nilIface))) fun v73 h74 =>
 ifS v73 (
 some (.tuple [(.int .i64 0), (.bool false)], h74)) (
 some (.tuple [v71, (.bool true)], h74)))
def B45 (ih : II) (a6 a7 : V) (h : Hp) : VH :=
 notS a7 fun v75 =>
 ifS v75 (
 some (.tuple [(.int .i64 0), (.bool false)], h)) (
 convI .i64 a6 fun v76 =>
 some (.tuple [v76, (.bool true)], h))
def B158 (ih : II) (a0 a1 a2 : V) (h : Hp) : VH :=
 bindS (ih 90 [a0] h) fun v0 h1 =>
 guardS v0 false (bindS (ih 92 [a0] h1) fun v2 h3 =>
 some (v2, h3)) h1 fun v4 h5 =>
 optS (pickV v0 (.bool true) v4) fun v6 =>
 guardS v6 false (intS .eql a0 (.int .u8 46) fun v7 =>
 some (v7, h5)) h5 fun v8 h9 =>
 optS (pickV v6 (.bool true) v8) fun v10 =>
 guardS v10 false (intS .eql a0 (.int .u8 43) fun v11 =>
 some (v11, h9)) h9 fun v12 h13 =>
 guardS v12 false (intS .eql a0 (.int .u8 45) fun v14 =>
 some (v14, h13)) h13 fun v15 h16 =>
 guardS v10 false (optS (pickV v12 (.bool true) v15) fun v17 =>
 some (v17, h16)) h16 fun v18 h19 =>
 guardS v18 true (load1 a1 h19 fun v20 =>
 load1 a2 h19 fun v21 =>
 bindS (ih 160 [v20, v21] h19) fun v22 h23 =>
 intS .geq v22 (.int .i64 0) fun v24 =>
 some (v24, h23)) h19 fun v25 h26 =>
 guardS v10 false (optS (pickV v18 v25 (.bool false)) fun v27 =>
 some (v27, h26)) h26 fun v28 h29 =>
 optS (pickV v10 (.bool true) v28) fun v30 =>
 storeC a2 a0 h29 fun h31 =>
 some (v30, h31)
def B154 (ih : II) (a0 a1 : V) (h : Hp) : VH :=
 bindS (ih 218 [a0, a1] h) fun v0 h1 =>
 some (v0, h1)
def B156 (ih : II) (a0 : V) (h : Hp) : VH :=
 newS 91 [.nilPtr, .nilSlice] h fun v0 h1 =>
 ih 47 [a0, v0, (.int .i64 0)] h1
def B47 (ih : II) (a0 a3 a4 : V) (h : Hp) : VH :=
 bindS (lenStr a0 fun v => some (v, h)) fun v2 h3 =>
 intS .lss a4 v2 fun v4 =>
 ifS v4 (
 idxStr a0 a4 fun v5 =>
 bindS (ih 80 [v5] h3) fun v6 h7 =>
 notS v6 fun v8 =>
 ifS v8 (
 idxStr a0 a4 fun v9 =>
 bindS (ih 142 [a3, v9] h7) fun v10 h11 =>
 ih 49 [a0, a3, a4] h11) (
 bindS (ih 142 [a3, (.int .u8 10)] h7) fun v12 h13 =>
 intS .add a4 (.int .i64 1) fun v14 =>
 bindS (lenStr a0 fun v => some (v, h13)) fun v15 h16 =>
 intS .lss v14 v15 fun v17 =>
 guardS v17 true (some (a0, h13)) h13 fun v18 _ =>
 guardS v17 true (some (a4, h13)) h13 fun v19 _ =>
 guardS v17 true (intS .add v19 (.int .i64 1) fun v20 =>
 some (v20, h13)) h13 fun v21 _ =>
 guardS v17 true (idxStr v18 v21 fun v22 =>
 some (v22, h13)) h13 fun v23 _ =>
 guardB v17 true (
 bindS (ih 80 [v23] ⟨h13.t, h13.n, h13.n⟩) fun v24 h25 =>
 wroteS h13.low h25 fun h26 =>
 optS (pickV v17 v24 (.bool false)) fun v27 =>
 guardS v27 true (some (a0, h26)) h26 fun v28 _ =>
 guardS v27 true (some (a4, h26)) h26 fun v29 _ =>
 guardS v27 true (intS .add v29 (.int .i64 1) fun v30 =>
 some (v30, h26)) h26 fun v31 _ =>
 guardS v27 true (idxStr v28 v31 fun v32 =>
 some (v32, h26)) h26 fun v33 _ =>
 guardS v27 true (some (a0, h26)) h26 fun v34 _ =>
 guardS v27 true (some (a4, h26)) h26 fun v35 _ =>
 guardS v27 true (idxStr v34 v35 fun v36 =>
 some (v36, h26)) h26 fun v37 _ =>
 guardS v27 true (intS .neq v33 v37 fun v38 =>
 some (v38, h26)) h26 fun v39 h40 =>
 optS (pickV v27 v39 (.bool false)) fun v41 =>
 ifS v41 (
 intS .add a4 (.int .i64 1) fun v42 =>
 ih 49 [a0, a3, v42] h40) (
 ih 49 [a0, a3, a4] h40)) (
 optS (pickV v17 undefV (.bool false)) fun v43 =>
 guardS v43 true (some (a0, h13)) h13 fun v44 _ =>
 guardS v43 true (some (a4, h13)) h13 fun v45 _ =>
 guardS v43 true (intS .add v45 (.int .i64 1) fun v46 =>
 some (v46, h13)) h13 fun v47 _ =>
 guardS v43 true (idxStr v44 v47 fun v48 =>
 some (v48, h13)) h13 fun v49 _ =>
 guardS v43 true (some (a0, h13)) h13 fun v50 _ =>
 guardS v43 true (some (a4, h13)) h13 fun v51 _ =>
 guardS v43 true (idxStr v50 v51 fun v52 =>
 some (v52, h13)) h13 fun v53 _ =>
 guardS v43 true (intS .neq v49 v53 fun v54 =>
 some (v54, h13)) h13 fun v55 h56 =>
 optS (pickV v43 v55 (.bool false)) fun v57 =>
 ifS v57 (
 intS .add a4 (.int .i64 1) fun v58 =>
 ih 49 [a0, a3, v58] h56) (
 ih 49 [a0, a3, a4] h56)))) (
 bindS (ih 146 [a3] h3) fun v59 h60 =>
 some (v59, h60))
def B49 (ih : II) (a0 a3 a4 : V) (h : Hp) : VH :=
 intS .add a4 (.int .i64 1) fun v61 =>
 ih 47 [a0, a3, v61] h
def B206 (ih : II) (a0 : V) (h : Hp) : VH :=
 nilS a0 fun v0 =>
 addrS 0 v0 fun v1 =>
 load1 v1 h fun v2 =>
 eqS (.pointer 91) .eql v2 .nilPtr fun v3 =>
 ifS v3 (
 bindS (vh h (bareV h a0)) fun v4 h5 =>
 bindS (ih 282 [v4] h5) fun v6 h7 =>
 bindS (vh h7 (typedV h7 91 2 v6)) fun v8 h9 =>
 nilS a0 fun v10 =>
 addrS 0 v10 fun v11 =>
 storeC v11 v8 h9 fun h12 =>
 some (.tuple [], h12)) (
 nilS a0 fun v13 =>
 addrS 0 v13 fun v14 =>
 load1 v14 h fun v15 =>
 bindS (vh h (eqOp .neq (cmpP true v15 a0))) fun v16 h17 =>
 ifS v16 (
 none) (
 some (.tuple [], h17)))
def B236 (ih : II) (a0 a1 a2 : V) (h : Hp) : VH :=
 ih 53 [a0, a1, a2, (.int .i64 0), (.int .i64 0)] h
def B51 (ih : II) (a8 a9 : V) (h : Hp) : VH :=
 some (.tuple [a8, a9], h)
def B53 (ih : II) (a0 a1 a2 a8 a9 : V) (h : Hp) : VH :=
 bindS (lenStr a0 fun v => some (v, h)) fun v0 h1 =>
 intS .lss a9 v0 fun v2 =>
 guardS v2 true (intS .lss a9 a1 fun v3 =>
 some (v3, h1)) h1 fun v4 h5 =>
 optS (pickV v2 v4 (.bool false)) fun v6 =>
 guardS v6 true (intS .lss a8 (.int .i64 2147483648) fun v7 =>
 some (v7, h5)) h5 fun v8 h9 =>
 optS (pickV v6 v8 (.bool false)) fun v10 =>
 ifS v10 (
 idxStr a0 a9 fun v11 =>
 bindS (ih 296 [v11] h9) fun v12 h13 =>
 extS 0 v12 fun v14 =>
 extS 1 v12 fun v15 =>
 notS v15 fun v16 =>
 guardS v16 false (intS .geq v14 a2 fun v17 =>
 some (v17, h13)) h13 fun v18 h19 =>
 optS (pickV v16 (.bool true) v18) fun v20 =>
 ifS v20 (
 ih 51 [a8, a9] h19) (
 intS .mul a8 a2 fun v21 =>
 intS .add v21 v14 fun v22 =>
 intS .add a9 (.int .i64 1) fun v23 =>
 ih 53 [a0, a1, a2, v22, v23] h19)) (
 ih 51 [a8, a9] h9)
def B238 (ih : II) (a0 : V) (h : Hp) : VH :=
 intS .lss a0 (.int .i64 0) fun v0 =>
 guardS v0 false (intS .geq a0 (.int .i64 2147483648) fun v1 =>
 some (v1, h)) h fun v2 h3 =>
 optS (pickV v0 (.bool true) v2) fun v4 =>
 ifS v4 (
 some (.tuple [(.str ⟨0, 0⟩), (.int .i64 10)], h3)) (
 intS .lss a0 (.int .i64 128) fun v5 =>
 ifS v5 (
 convI .u8 a0 fun v6 =>
 bindS (bldSl h3 [(0, v6)] 5 1 1 (.int .u8 0)) fun v7 h8 =>
 bindS (vh h8 (b2s h8 v7)) fun v9 h10 =>
 some (.tuple [v9, (.int .i64 0)], h10)) (
 ih 55 [a0, (.int .i64 2)] h3))
def B55 (ih : II) (a0 a4 : V) (h : Hp) : VH :=
 intS .mul (.int .i64 5) a4 fun v11 =>
 intS .add v11 (.int .i64 1) fun v12 =>
 shS .shl (.int .i64 1) v12 fun v13 =>
 intS .geq a0 v13 fun v14 =>
 ifS v14 (
 intS .add a4 (.int .i64 1) fun v15 =>
 ih 55 [a0, v15] h) (
 bindS (mkS 5 1 1 (.int .u8 0) a4 a4 h) fun v16 h17 =>
 intS .sub a4 (.int .i64 1) fun v18 =>
 ih 57 [a0, a4, v16, v18] h17)
def B57 (ih : II) (a0 a4 a5 a6 : V) (h : Hp) : VH :=
 intS .gtr a6 (.int .i64 0) fun v19 =>
 ifS v19 (
 intS .and a0 (.int .i64 63) fun v20 =>
 convI .u8 v20 fun v21 =>
 intS .or (.int .u8 128) v21 fun v22 =>
 idxS 1 a5 a6 fun v23 =>
 storeC v23 v22 h fun h24 =>
 shS .shr a0 (.int .u64 6) fun v25 =>
 intS .sub a6 (.int .i64 1) fun v26 =>
 ih 57 [v25, a4, a5, v26] h24) (
 intS .sub (.int .i64 8) a4 fun v27 =>
 shS .shl (.int .u8 255) v27 fun v28 =>
 convI .u8 a0 fun v29 =>
 intS .or v28 v29 fun v30 =>
 idxS 1 a5 (.int .i64 0) fun v31 =>
 storeC v31 v30 h fun h32 =>
 bindS (vh h32 (b2s h32 a5)) fun v33 h34 =>
 some (.tuple [v33, (.int .i64 0)], h34))
def B230 (ih : II) (a0 : V) (h : Hp) : VH :=
 bindS (lenStr a0 fun v => some (v, h)) fun v0 h1 =>
 ih 59 [a0, (.int .u64 0), v0, (.int .i64 0)] h1
def B59 (ih : II) (a0 a4 a9 a10 : V) (h : Hp) : VH :=
 intS .lss a10 a9 fun v2 =>
 ifS v2 (
 idxStr a0 a10 fun v3 =>
 bindS (ih 296 [v3] h) fun v4 h5 =>
 extS 0 v4 fun v6 =>
 extS 1 v4 fun v7 =>
 notS v7 fun v8 =>
 ifS v8 (
 some (.tuple [(.int .u64 0), (.bool false)], h5)) (
 shS .shl a4 (.int .u64 4) fun v9 =>
 convI .u64 v6 fun v10 =>
 intS .or v9 v10 fun v11 =>
 intS .add a10 (.int .i64 1) fun v12 =>
 ih 59 [a0, v11, a9, v12] h5)) (
 strS .neq a0 (.str ⟨0, 0⟩) fun v13 =>
 some (.tuple [a4, v13], h))
def B228 (ih : II) (a0 : V) (h : Hp) : VH :=
 ih 61 [a0] h
def B61 (ih : II) (a0 : V) (h : Hp) : VH :=
 load1 a0 h fun v0 =>
 strS .neq v0 (.str ⟨0, 0⟩) fun v1 =>
 guardS v1 true (load1 a0 h fun v2 =>
 idxStr v2 (.int .i64 0) fun v3 =>
 bindS (ih 52 [v3] h) fun v4 h5 =>
 some (v4, h5)) h fun v6 h7 =>
 optS (pickV v1 v6 (.bool false)) fun v8 =>
 ifS v8 (
 load1 a0 h7 fun v9 =>
 slStrK (some (.int .i64 1)) none v9 fun v10 =>
 storeC a0 v10 h7 fun h11 =>
 ih 61 [a0] h11) (
 ih 63 [a0] h7)
def B63 (ih : II) (a0 : V) (h : Hp) : VH :=
 load1 a0 h fun v12 =>
 strS .neq v12 (.str ⟨0, 0⟩) fun v13 =>
 guardS v13 true (load1 a0 h fun v14 =>
 load1 a0 h fun v15 =>
 bindS (lenStr v15 fun v => some (v, h)) fun v16 h17 =>
 intS .sub v16 (.int .i64 1) fun v18 =>
 idxStr v14 v18 fun v19 =>
 bindS (ih 52 [v19] h17) fun v20 h21 =>
 some (v20, h21)) h fun v22 h23 =>
 optS (pickV v13 v22 (.bool false)) fun v24 =>
 ifS v24 (
 load1 a0 h23 fun v25 =>
 load1 a0 h23 fun v26 =>
 bindS (lenStr v26 fun v => some (v, h23)) fun v27 h28 =>
 intS .sub v27 (.int .i64 1) fun v29 =>
 slStrK none (some v29) v25 fun v30 =>
 storeC a0 v30 h28 fun h31 =>
 ih 63 [a0] h31) (
 some (.tuple [], h23))
def B218 (ih : II) (a0 a1 : V) (h : Hp) : VH :=
 bindS (ih 172 [a0, a1] h) fun v0 h1 =>
 ifS v0 (
 bindS (lenStr a1 fun v => some (v, h1)) fun v2 h3 =>
 slStrK (some v2) none a0 fun v4 =>
 some (v4, h3)) (
 some (a0, h1))
def B296 (ih : II) (a0 : V) (h : Hp) : VH :=
 bindS (ih 90 [a0] h) fun v0 h1 =>
 ifS v0 (
 intS .sub a0 (.int .u8 48) fun v2 =>
 convI .i64 v2 fun v3 =>
 some (.tuple [v3, (.bool true)], h1)) (
 bindS (ih 82 [(.int .u8 97), a0, (.int .u8 102)] h1) fun v4 h5 =>
 ifS v4 (
 intS .sub a0 (.int .u8 97) fun v6 =>
 convI .i64 v6 fun v7 =>
 intS .add v7 (.int .i64 10) fun v8 =>
 some (.tuple [v8, (.bool true)], h5)) (
 bindS (ih 82 [(.int .u8 65), a0, (.int .u8 70)] h5) fun v9 h10 =>
 ifS v9 (
 intS .sub a0 (.int .u8 65) fun v11 =>
 convI .i64 v11 fun v12 =>
 intS .add v12 (.int .i64 10) fun v13 =>
 some (.tuple [v13, (.bool true)], h10)) (
 some (.tuple [(.int .i64 0), (.bool false)], h10))))
def labs : Tr Lab:=((((((((((((((((((((((((((((((((Tr.nil.set 0 (5, 58, [0, 3])).set 1 (5, 2042, [0, 4, 5, 6, 8, 9])).set 2 (5, 8186, [0, 4, 5, 8, 10, 11])).set 3 (5, 65491, [0, 4, 5, 8, 10, 11])).set 4 (10, 126, [3, 4, 5])).set 5 (10, 32319, [3, 4, 5, 8, 9, 10])).set 6 (24, 6, [0, 4])).set 7 (24, 51, [0, 4])).set 8 (28, 506, [0, 2, 5, 159, 160, 161])).set 9 (28, 3991, [2, 10, 11])).set 10 (27, 31, [])).set 11 (25, 28, [0, 1, 2, 7])).set 12 (51, 223, [0, 4, 5])).set 13 (51, 444, [0, 4, 5])).set 14 (50, 28, [0, 3])).set 15 (50, 907, [0, 3])).set 16 (48, 15, [0, 3])).set 17 (85, 15, [])).set 18 (85, 14836, [0, 6])).set 19 (85, 118782, [0, 13])).set 20 (82, 63, [1, 5])).set 21 (82, 1018, [1, 5, 63, 64])).set 22 (82, 2027, [6, 7])).set 23 (78, 58, [0, 3, 4])).set 24 (78, 467, [0, 3, 4])).set 25 (118, 15, [8, 9])).set 26 (118, 28, [0, 1, 2, 8, 9])).set 27 (119, 124, [0, 4])).set 28 (119, 1018, [0, 4, 5, 6])).set 29 (115, 58, [0, 4, 9, 10])).set 30 (114, 4, [0])).set 31 (114, 6, [0]))
def cuts5 : Cuts:=[(58, 0, [0, 3]), (2042, 1, [0, 4, 5, 6, 8, 9]), (8186, 2, [0, 4, 5, 8, 10, 11]), (65491, 3, [0, 4, 5, 8, 10, 11])]
theorem fit5 : cutsFit labs 5 cuts5 = true:=by kernel_rfl
def cuts10 : Cuts:=[(126, 4, [3, 4, 5]), (32319, 5, [3, 4, 5, 8, 9, 10])]
theorem fit10 : cutsFit labs 10 cuts10 = true:=by kernel_rfl
def cuts24 : Cuts:=[(6, 6, [0, 4]), (51, 7, [0, 4])]
theorem fit24 : cutsFit labs 24 cuts24 = true:=by kernel_rfl
def cuts28 : Cuts:=[(506, 8, [0, 2, 5, 159, 160, 161]), (3991, 9, [2, 10, 11])]
theorem fit28 : cutsFit labs 28 cuts28 = true:=by kernel_rfl
def cuts27 : Cuts:=[(31, 10, [])]
theorem fit27 : cutsFit labs 27 cuts27 = true:=by kernel_rfl
def cuts25 : Cuts:=[(28, 11, [0, 1, 2, 7])]
theorem fit25 : cutsFit labs 25 cuts25 = true:=by kernel_rfl
def cuts22 : Cuts:=[]
theorem fit22 : cutsFit labs 22 cuts22 = true:=by kernel_rfl
def cuts26 : Cuts:=[]
theorem fit26 : cutsFit labs 26 cuts26 = true:=by kernel_rfl
def cuts40 : Cuts:=[]
theorem fit40 : cutsFit labs 40 cuts40 = true:=by kernel_rfl
def cuts42 : Cuts:=[]
theorem fit42 : cutsFit labs 42 cuts42 = true:=by kernel_rfl
def cuts52 : Cuts:=[]
theorem fit52 : cutsFit labs 52 cuts52 = true:=by kernel_rfl
def cuts51 : Cuts:=[(223, 12, [0, 4, 5]), (444, 13, [0, 4, 5])]
theorem fit51 : cutsFit labs 51 cuts51 = true:=by kernel_rfl
def cuts50 : Cuts:=[(28, 14, [0, 3]), (907, 15, [0, 3])]
theorem fit50 : cutsFit labs 50 cuts50 = true:=by kernel_rfl
def cuts49 : Cuts:=[]
theorem fit49 : cutsFit labs 49 cuts49 = true:=by kernel_rfl
def cuts48 : Cuts:=[(15, 16, [0, 3])]
theorem fit48 : cutsFit labs 48 cuts48 = true:=by kernel_rfl
def cuts12 : Cuts:=[]
theorem fit12 : cutsFit labs 12 cuts12 = true:=by kernel_rfl
def cuts46 : Cuts:=[]
theorem fit46 : cutsFit labs 46 cuts46 = true:=by kernel_rfl
def cuts43 : Cuts:=[]
theorem fit43 : cutsFit labs 43 cuts43 = true:=by kernel_rfl
def cuts45 : Cuts:=[]
theorem fit45 : cutsFit labs 45 cuts45 = true:=by kernel_rfl
def cuts47 : Cuts:=[]
theorem fit47 : cutsFit labs 47 cuts47 = true:=by kernel_rfl
def cuts44 : Cuts:=[]
theorem fit44 : cutsFit labs 44 cuts44 = true:=by kernel_rfl
def cuts41 : Cuts:=[]
theorem fit41 : cutsFit labs 41 cuts41 = true:=by kernel_rfl
def cuts86 : Cuts:=[]
theorem fit86 : cutsFit labs 86 cuts86 = true:=by kernel_rfl
def cuts71 : Cuts:=[]
theorem fit71 : cutsFit labs 71 cuts71 = true:=by kernel_rfl
def cuts72 : Cuts:=[]
theorem fit72 : cutsFit labs 72 cuts72 = true:=by kernel_rfl
def cuts85 : Cuts:=[(15, 17, []), (14836, 18, [0, 6]), (118782, 19, [0, 13])]
theorem fit85 : cutsFit labs 85 cuts85 = true:=by kernel_rfl
def cuts73 : Cuts:=[]
theorem fit73 : cutsFit labs 73 cuts73 = true:=by kernel_rfl
def cuts84 : Cuts:=[]
theorem fit84 : cutsFit labs 84 cuts84 = true:=by kernel_rfl
def cuts82 : Cuts:=[(63, 20, [1, 5]), (1018, 21, [1, 5, 63, 64]), (2027, 22, [6, 7])]
theorem fit82 : cutsFit labs 82 cuts82 = true:=by kernel_rfl
def cuts79 : Cuts:=[]
theorem fit79 : cutsFit labs 79 cuts79 = true:=by kernel_rfl
def cuts77 : Cuts:=[]
theorem fit77 : cutsFit labs 77 cuts77 = true:=by kernel_rfl
def cuts78 : Cuts:=[(58, 23, [0, 3, 4]), (467, 24, [0, 3, 4])]
theorem fit78 : cutsFit labs 78 cuts78 = true:=by kernel_rfl
def cuts103 : Cuts:=[]
theorem fit103 : cutsFit labs 103 cuts103 = true:=by kernel_rfl
def cuts118 : Cuts:=[(15, 25, [8, 9]), (28, 26, [0, 1, 2, 8, 9])]
theorem fit118 : cutsFit labs 118 cuts118 = true:=by kernel_rfl
def cuts119 : Cuts:=[(124, 27, [0, 4]), (1018, 28, [0, 4, 5, 6])]
theorem fit119 : cutsFit labs 119 cuts119 = true:=by kernel_rfl
def cuts115 : Cuts:=[(58, 29, [0, 4, 9, 10])]
theorem fit115 : cutsFit labs 115 cuts115 = true:=by kernel_rfl
def cuts114 : Cuts:=[(4, 30, [0]), (6, 31, [0])]
theorem fit114 : cutsFit labs 114 cuts114 = true:=by kernel_rfl
def cuts109 : Cuts:=[]
theorem fit109 : cutsFit labs 109 cuts109 = true:=by kernel_rfl
def cuts148 : Cuts:=[]
theorem fit148 : cutsFit labs 148 cuts148 = true:=by kernel_rfl
end
end
end Go.LX
end
