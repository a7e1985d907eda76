/- A part of the proof. -/
import Derived.Test.YteeahoagedfehaaGreatDoorUMidSS
import Derived.Test.YteeahoagedfehaaGreatDoorUMidNN
import Derived.Test.YteeahoagedfehaaGreatDoorUMidZ
import Derived.Test.YteeahoagedfehaaGreatDoorProg
import Derived.KernelRfl
set_option linter.all false
set_option warn.classDefReducibility false
noncomputable section
section
open Go Go.Mid Go.Proofs
set_option maxRecDepth 100000
namespace Go.MS
section
section
abbrev II:=Nat → List V → Hp → VH
def itr0 (f : FuncId) : Option It:=none
def B18 (ih : II) (a0 a1 a2 : V) (h : Hp) : VH :=
 newS 31 (vcells a1) h fun v0 h1 =>
 newS 31 (vcells a2) h1 fun v2 h3 =>
 newS 31 [(.int .u8 0), (.int .i64 0)] h3 fun v4 h5 =>
 loadN 2 v0 h5 fun v6 =>
 bindS (ih 60 [a0, v6, (.int .u8 5)] h5) fun v7 h8 =>
 eqS (.pointer 76) .neq v7 .nilPtr fun v9 =>
 ifS v9 (
 nilS v7 fun v10 =>
 addrS 3 v10 fun v11 =>
 load1 v11 h8 fun v12 =>
 loadN 2 v2 h8 fun v13 =>
 bindS (ih 62 [v12, v13] h8) fun v14 h15 =>
 storeN 2 v4 v14 h15 fun h16 =>
 loadN 2 v4 h16 fun v17 =>
 some (v17, h16)) (
 bindS (bldStruct h8 [] (.agg [(.int .u8 0), (.int .i64 0)]) (some [(0, 1), (1, 1)])) fun v18 h19 =>
 storeN 2 v4 v18 h19 fun h20 =>
 loadN 2 v4 h20 fun v21 =>
 some (v21, h20))
def B24 (ih : II) (a0 a1 a2 : V) (h : Hp) : VH :=
 newS 31 (vcells a1) h fun v0 h1 =>
 newS 31 (vcells a2) h1 fun v2 h3 =>
 newS 44 [(.int .u8 0), (.int .u8 0), (.int .i64 0), (.int .u8 0), (.int .i64 0), .nilSlice, (.int .u8 0)] h3 fun v4 h5 =>
 bindS (ih 64 [a0, (.str ⟨7, 33888479228813151⟩)] h5) fun v6 h7 =>
 ih 1 [a0, v0, v2, v4, v6, (.int .i64 0)] h7
def B1 (ih : II) (a0 a4 a5 a6 a7 a12 : V) (h : Hp) : VH :=
 intS .lss a12 (.int .i64 50) fun v8 =>
 ifS v8 (
 loadN 2 a4 h fun v9 =>
 bindS (dynE ih a7 [v9] h) fun v10 h11 =>
 newS 31 [(.int .u8 0), (.int .i64 0)] h11 fun v12 h13 =>
 storeN 2 v12 v10 h13 fun h14 =>
 loadN 2 a4 h14 fun v15 =>
 bindS (ih 66 [a0, v15] h14) fun v16 h17 =>
 ifS v16 (
 loadN 2 a4 h17 fun v18 =>
 loadN 2 a5 h17 fun v19 =>
 bindS (ih 18 [a0, v18, v19] h17) fun v20 h21 =>
 newS 31 [(.int .u8 0), (.int .i64 0)] h21 fun v22 h23 =>
 storeN 2 v22 v20 h23 fun h24 =>
 addrS 0 v22 fun v25 =>
 load1 v25 h24 fun v26 =>
 intS .neq v26 (.int .u8 0) fun v27 =>
 guardS v27 false (addrS 0 v12 fun v28 =>
 load1 v28 h24 fun v29 =>
 intS .eql v29 (.int .u8 0) fun v30 =>
 some (v30, h24)) h24 fun v31 h32 =>
 optS (pickV v27 (.bool true) v31) fun v33 =>
 ifS v33 (
 loadN 2 v22 h32 fun v34 =>
 bindS (ih 82 [v34] h32) fun v35 h36 =>
 storeN 7 a6 v35 h36 fun h37 =>
 loadN 7 a6 h37 fun v38 =>
 some (v38, h37)) (
 ih 3 [a0, a4, a5, a6, a7, v12, a12] h32)) (
 addrS 0 v12 fun v39 =>
 load1 v39 h17 fun v40 =>
 intS .eql v40 (.int .u8 0) fun v41 =>
 ifS v41 (
 loadN 2 a4 h17 fun v42 =>
 bindS (ih 72 [v42] h17) fun v43 h44 =>
 strS .add (.str ⟨19, 722084787157920619979998388331317583144055905⟩) v43 fun v45 =>
 strS .add v45 (.str ⟨6, 111555003905568⟩) fun v46 =>
 bindS (ih 70 [a0, v46] h44) fun v47 h48 =>
 storeN 7 a6 v47 h48 fun h49 =>
 loadN 7 a6 h49 fun v50 =>
 some (v50, h49)) (
 ih 3 [a0, a4, a5, a6, a7, v12, a12] h17))) (
 bindS (ih 70 [a0, (.str ⟨13, 9538758901685195990329122058092⟩)] h) fun v51 h52 =>
 storeN 7 a6 v51 h52 fun h53 =>
 loadN 7 a6 h53 fun v54 =>
 some (v54, h53))
def B20 (ih : II) (a0 a1 a2 a3 : V) (h : Hp) : VH :=
 newS 31 (vcells a1) h fun v0 h1 =>
 newS 31 (vcells a2) h1 fun v2 h3 =>
 newS 31 (vcells a3) h3 fun v4 h5 =>
 newS 44 [(.int .u8 0), (.int .u8 0), (.int .i64 0), (.int .u8 0), (.int .i64 0), .nilSlice, (.int .u8 0)] h5 fun v6 h7 =>
 bindS (ih 64 [a0, (.str ⟨10, 568554335933414845079391⟩)] h7) fun v8 h9 =>
 ih 5 [a0, v0, v2, v4, v6, v8, (.int .i64 0)] h9
def B5 (ih : II) (a0 a5 a6 a7 a8 a9 a13 : V) (h : Hp) : VH :=
 intS .lss a13 (.int .i64 50) fun v10 =>
 ifS v10 (
 loadN 2 a5 h fun v11 =>
 bindS (dynE ih a9 [v11] h) fun v12 h13 =>
 newS 31 [(.int .u8 0), (.int .i64 0)] h13 fun v14 h15 =>
 storeN 2 v14 v12 h15 fun h16 =>
 loadN 2 a5 h16 fun v17 =>
 bindS (ih 66 [a0, v17] h16) fun v18 h19 =>
 guardS v18 true (addrS 0 v14 fun v20 =>
 load1 v20 h19 fun v21 =>
 intS .eql v21 (.int .u8 0) fun v22 =>
 some (v22, h19)) h19 fun v23 h24 =>
 guardS v23 false (loadN 2 a5 h24 fun v25 =>
 loadN 2 a6 h24 fun v26 =>
 bindS (ih 18 [a0, v25, v26] h24) fun v27 h28 =>
 fld1 0 v27 fun v29 =>
 intS .neq v29 (.int .u8 0) fun v30 =>
 some (v30, h28)) h24 fun v31 h32 =>
 guardS v18 true (optS (pickV v23 (.bool true) v31) fun v33 =>
 some (v33, h32)) h32 fun v34 h35 =>
 optS (pickV v18 v34 (.bool false)) fun v36 =>
 ifS v36 (
 loadN 2 a5 h35 fun v37 =>
 loadN 2 a6 h35 fun v38 =>
 loadN 2 a7 h35 fun v39 =>
 bindS (ih 68 [a0, v37, v38, v39] h35) fun v40 h41 =>
 storeN 7 a8 v40 h41 fun h42 =>
 loadN 7 a8 h42 fun v43 =>
 some (v43, h42)) (
 addrS 0 v14 fun v44 =>
 load1 v44 h35 fun v45 =>
 intS .eql v45 (.int .u8 0) fun v46 =>
 ifS v46 (
 loadN 2 a5 h35 fun v47 =>
 bindS (ih 72 [v47] h35) fun v48 h49 =>
 strS .add (.str ⟨19, 722084787157920619979998388331317583144055905⟩) v48 fun v50 =>
 strS .add v50 (.str ⟨6, 111555003905568⟩) fun v51 =>
 bindS (ih 70 [a0, v51] h49) fun v52 h53 =>
 storeN 7 a8 v52 h53 fun h54 =>
 loadN 7 a8 h54 fun v55 =>
 some (v55, h54)) (
 loadN 2 v14 h35 fun v56 =>
 bindS (ih 74 [v56] h35) fun v57 h58 =>
 ifS v57 (
 loadN 2 v14 h58 fun v59 =>
 loadN 2 a5 h58 fun v60 =>
 loadN 2 a6 h58 fun v61 =>
 loadN 2 a7 h58 fun v62 =>
 bindS (bldSl h58 [(0, v60), (1, v61), (2, v62)] 31 3 2 (.agg [(.int .u8 0), (.int .i64 0)])) fun v63 h64 =>
 bindS (ih 76 [v59, (.int .u8 4), v63] h64) fun v65 h66 =>
 storeN 7 a8 v65 h66 fun h67 =>
 loadN 7 a8 h67 fun v68 =>
 some (v68, h67)) (
 loadN 2 v14 h58 fun v69 =>
 storeN 2 a5 v69 h58 fun h70 =>
 intS .add a13 (.int .i64 1) fun v71 =>
 ih 5 [a0, a5, a6, a7, a8, a9, v71] h70)))) (
 bindS (ih 70 [a0, (.str ⟨13, 9538758901685195990329122058092⟩)] h) fun v72 h73 =>
 storeN 7 a8 v72 h73 fun h74 =>
 loadN 7 a8 h74 fun v75 =>
 some (v75, h74))
def B16 (ih : II) (a0 a1 : V) (h : Hp) : VH :=
 newS 31 (vcells a1) h fun v0 h1 =>
 newS 31 [(.int .u8 0), (.int .i64 0)] h1 fun v2 h3 =>
 loadN 2 v0 h3 fun v4 =>
 bindS (ih 60 [a0, v4, (.int .u8 5)] h3) fun v5 h6 =>
 eqS (.pointer 76) .neq v5 .nilPtr fun v7 =>
 ifS v7 (
 nilS v5 fun v8 =>
 addrS 4 v8 fun v9 =>
 loadN 2 v9 h6 fun v10 =>
 storeN 2 v2 v10 h6 fun h11 =>
 loadN 2 v2 h11 fun v12 =>
 some (v12, h11)) (
 bindS (bldStruct h6 [] (.agg [(.int .u8 0), (.int .i64 0)]) (some [(0, 1), (1, 1)])) fun v13 h14 =>
 storeN 2 v2 v13 h14 fun h15 =>
 loadN 2 v2 h15 fun v16 =>
 some (v16, h15))
def B14 (ih : II) (a0 a1 : V) (h : Hp) : VH :=
 newS 31 [(.int .u8 0), (.int .i64 0)] h fun v0 h1 =>
 nilS a0 fun v2 =>
 addrS 2 v2 fun v3 =>
 load1 v3 h1 fun v4 =>
 nilS a0 fun v5 =>
 addrS 2 v5 fun v6 =>
 load1 v6 h1 fun v7 =>
 bindS (lenSl v7 fun v => some (v, h1)) fun v8 h9 =>
 bindS (ih 12 [a1, v8] ⟨h1.t, h1.n, h1.n⟩) fun v10 h11 =>
 cD ((pureB h1 h11 || sameA h1 h11 v3 (vcells v4).length) && true) (
 wroteS h1.low h11 fun h12 =>
 idxS 2 v4 v10 fun v13 =>
 loadN 2 v13 h12 fun v14 =>
 storeN 2 v0 v14 h12 fun h15 =>
 loadN 2 v0 h15 fun v16 =>
 some (v16, h15)) none
def B12 (ih : II) (a0 a1 : V) (h : Hp) : VH :=
 intS .lss a1 (.int .i64 1) fun v0 =>
 ifS v0 (
 some ((.int .i64 0), h)) (
 intS .rem a0 a1 fun v1 =>
 intS .lss v1 (.int .i64 0) fun v2 =>
 ifS v2 (
 intS .add v1 a1 fun v3 =>
 ih 7 [v3] h) (
 ih 7 [v1] h))
def B7 (ih : II) (a0 : V) (h : Hp) : VH :=
 some (a0, h)
def B10 (ih : II) (a0 : V) (h : Hp) : VH :=
 newS 25 (vcells a0) h fun v0 h1 =>
 bindS (ih 32 [(.int .i64 1048576)] h1) fun v2 h3 =>
 extS 0 v2 fun v4 =>
 extS 1 v2 fun v5 =>
 bindS (ih 34 [(.int .i64 1048576)] h3) fun v6 h7 =>
 extS 0 v6 fun v8 =>
 extS 1 v6 fun v9 =>
 intS .neq v5 (.int .i64 0) fun v10 =>
 ifS v10 (
 some (.nilPtr, h7)) (
 bindS (bldStruct h7 [(0, v4), (1, v8)] (.agg [.nilPtr, .nilPtr, .nilSlice]) (some [(0, 1), (1, 1), (2, 1)])) fun v11 h12 =>
 newS 36 (vcells v11) h12 fun v13 h14 =>
 newS 27 [.nilPtr] h14 fun v15 h16 =>
 storeC v15 v13 h16 fun h17 =>
 load1 v15 h17 fun v18 =>
 bindS (bldStruct h17 [] (.agg [(.int .u8 0), (.int .i64 0)]) (some [(0, 1), (1, 1)])) fun v19 h20 =>
 bindS (bldStruct h20 [(0, (.int .u8 1))] (.agg [(.int .u8 0), (.int .i64 0)]) (some [(0, 1), (1, 1)])) fun v21 h22 =>
 bindS (bldStruct h22 [(0, (.int .u8 2))] (.agg [(.int .u8 0), (.int .i64 0)]) (some [(0, 1), (1, 1)])) fun v23 h24 =>
 bindS (bldStruct h24 [(0, (.int .u8 3)), (1, (.int .i64 2))] (.agg [(.int .u8 0), (.int .i64 0)]) (some [(0, 1), (1, 1)])) fun v25 h26 =>
 bindS (bldStruct h26 [(0, (.int .u8 3)), (1, (.int .i64 (-7)))] (.agg [(.int .u8 0), (.int .i64 0)]) (some [(0, 1), (1, 1)])) fun v27 h28 =>
 bindS (bldStruct h28 [(0, (.int .u8 3))] (.agg [(.int .u8 0), (.int .i64 0)]) (some [(0, 1), (1, 1)])) fun v29 h30 =>
 bindS (bldStruct h30 [(0, (.int .u8 7)), (1, (.int .i64 3))] (.agg [(.int .u8 0), (.int .i64 0)]) (some [(0, 1), (1, 1)])) fun v31 h32 =>
 bindS (bldSl h32 [(0, v19), (1, v21), (2, v23), (3, v25), (4, v27), (5, v29), (6, v31)] 31 7 2 (.agg [(.int .u8 0), (.int .i64 0)])) fun v33 h34 =>
 nilS v18 fun v35 =>
 addrS 2 v35 fun v36 =>
 storeC v36 v33 h34 fun h37 =>
 ih 9 [v0, v4, v8, v15, (.func 18 [] [v15]), (.int .i64 0)] h37)
def B9 (ih : II) (a1 a3 a5 a7 a8 a9 : V) (h : Hp) : VH :=
 intS .lss a9 (.int .i64 4) fun v38 =>
 ifS v38 (
 bindS (ih 38 [a3] h) fun v39 h40 =>
 extS 0 v39 fun v41 =>
 extS 1 v39 fun v42 =>
 newS 31 [(.int .u8 0), (.int .i64 0)] h40 fun v43 h44 =>
 storeN 2 v43 v41 h44 fun h45 =>
 bindS (ih 40 [a5] h45) fun v46 h47 =>
 extS 0 v46 fun v48 =>
 extS 1 v46 fun v49 =>
 newS 31 [(.int .u8 0), (.int .i64 0)] h47 fun v50 h51 =>
 storeN 2 v50 v48 h51 fun h52 =>
 loadN 2 v43 h52 fun v53 =>
 loadN 2 v50 h52 fun v54 =>
 bindS (dynE ih a8 [v53, v54, v42, v49] h52) fun v55 h56 =>
 notS v55 fun v57 =>
 ifS v57 (
 some (.nilPtr, h56)) (
 intS .add a9 (.int .i64 1) fun v58 =>
 ih 9 [a1, a3, a5, a7, a8, v58] h56)) (
 bindS (ih 42 [] h) fun v59 h60 =>
 bindS (bldSl h60 [(0, (.str ⟨3, 6513249⟩))] 9 1 1 (.str ⟨0, 0⟩)) fun v61 h62 =>
 bindS (appS 9 16 1 v59 v61 h62) fun v63 h64 =>
 bindS (lenSl v63 fun v => some (v, h64)) fun v65 h66 =>
 ih 11 [a1, a3, a5, a7, a8, v63, v65, (.int .i64 0)] h66)
def B11 (ih : II) (a1 a3 a5 a7 a8 a78 a79 a80 : V) (h : Hp) : VH :=
 intS .lss a80 a79 fun v67 =>
 ifS v67 (
 idxS 1 a78 a80 fun v68 =>
 load1 v68 h fun v69 =>
 bindS (ih 44 [a3, v69] h) fun v70 h71 =>
 extS 0 v70 fun v72 =>
 extS 1 v70 fun v73 =>
 newS 31 [(.int .u8 0), (.int .i64 0)] h71 fun v74 h75 =>
 storeN 2 v74 v72 h75 fun h76 =>
 bindS (ih 46 [a5, v69] h76) fun v77 h78 =>
 extS 0 v77 fun v79 =>
 extS 1 v77 fun v80 =>
 newS 31 [(.int .u8 0), (.int .i64 0)] h78 fun v81 h82 =>
 storeN 2 v81 v79 h82 fun h83 =>
 loadN 2 v74 h83 fun v84 =>
 loadN 2 v81 h83 fun v85 =>
 bindS (dynE ih a8 [v84, v85, v73, v80] h83) fun v86 h87 =>
 notS v86 fun v88 =>
 ifS v88 (
 some (.nilPtr, h87)) (
 intS .add a80 (.int .i64 1) fun v89 =>
 ih 11 [a1, a3, a5, a7, a8, a78, a79, v89] h87)) (
 bindS (ih 48 [a3, (.int .i64 1), .nilSlice] h) fun v90 h91 =>
 extS 0 v90 fun v92 =>
 extS 1 v90 fun v93 =>
 newS 31 [(.int .u8 0), (.int .i64 0)] h91 fun v94 h95 =>
 storeN 2 v94 v92 h95 fun h96 =>
 bindS (ih 50 [a5, (.int .i64 1), .nilSlice] h96) fun v97 h98 =>
 extS 0 v97 fun v99 =>
 extS 1 v97 fun v100 =>
 newS 31 [(.int .u8 0), (.int .i64 0)] h98 fun v101 h102 =>
 storeN 2 v101 v99 h102 fun h103 =>
 loadN 2 v94 h103 fun v104 =>
 loadN 2 v101 h103 fun v105 =>
 bindS (dynE ih a8 [v104, v105, v93, v100] h103) fun v106 h107 =>
 notS v106 fun v108 =>
 ifS v108 (
 some (.nilPtr, h107)) (
 ih 13 [a1, a3, a5, a7, (.int .i64 0)] h107))
def B13 (ih : II) (a1 a3 a5 a7 a23 : V) (h : Hp) : VH :=
 addrS 0 a1 fun v109 =>
 load1 v109 h fun v110 =>
 bindS (lenSl v110 fun v => some (v, h)) fun v111 h112 =>
 intS .lss a23 v111 fun v113 =>
 guardS v113 true (intS .lss a23 (.int .i64 4) fun v114 =>
 some (v114, h112)) h112 fun v115 h116 =>
 optS (pickV v113 v115 (.bool false)) fun v117 =>
 ifS v117 (
 addrS 0 a1 fun v118 =>
 load1 v118 h116 fun v119 =>
 idxS 1 v119 a23 fun v120 =>
 load1 v120 h116 fun v121 =>
 intS .geq v121 (.int .i64 0) fun v122 =>
 guardS v122 true (intS .lss v121 (.int .i64 4) fun v123 =>
 some (v123, h116)) h116 fun v124 h125 =>
 optS (pickV v122 v124 (.bool false)) fun v126 =>
 ifS v126 (
 load1 a7 h125 fun v127 =>
 nilS v127 fun v128 =>
 addrS 2 v128 fun v129 =>
 load1 v129 h125 fun v130 =>
 intS .add (.int .i64 7) a23 fun v131 =>
 idxS 2 v130 v131 fun v132 =>
 loadN 2 v132 h125 fun v133 =>
 load1 a7 h125 fun v134 =>
 nilS v134 fun v135 =>
 addrS 2 v135 fun v136 =>
 load1 v136 h125 fun v137 =>
 intS .add (.int .i64 7) v121 fun v138 =>
 idxS 2 v137 v138 fun v139 =>
 loadN 2 v139 h125 fun v140 =>
 bindS (ih 52 [a3, v133, v140] h125) fun v141 h142 =>
 load1 a7 h142 fun v143 =>
 nilS v143 fun v144 =>
 addrS 2 v144 fun v145 =>
 load1 v145 h142 fun v146 =>
 intS .add (.int .i64 7) a23 fun v147 =>
 idxS 2 v146 v147 fun v148 =>
 loadN 2 v148 h142 fun v149 =>
 load1 a7 h142 fun v150 =>
 nilS v150 fun v151 =>
 addrS 2 v151 fun v152 =>
 load1 v152 h142 fun v153 =>
 intS .add (.int .i64 7) v121 fun v154 =>
 idxS 2 v153 v154 fun v155 =>
 loadN 2 v155 h142 fun v156 =>
 bindS (ih 54 [a5, v149, v156] h142) fun v157 h158 =>
 ih 17 [a1, a3, a5, a7, a23] h158) (
 ih 17 [a1, a3, a5, a7, a23] h125)) (
 ih 15 [a1, a3, a5, a7, (.int .i64 0)] h116)
def B15 (ih : II) (a1 a3 a5 a7 a25 : V) (h : Hp) : VH :=
 addrS 1 a1 fun v159 =>
 load1 v159 h fun v160 =>
 bindS (lenSl v160 fun v => some (v, h)) fun v161 h162 =>
 intS .lss a25 v161 fun v163 =>
 guardS v163 true (intS .lss a25 (.int .i64 60) fun v164 =>
 some (v164, h162)) h162 fun v165 h166 =>
 optS (pickV v163 v165 (.bool false)) fun v167 =>
 ifS v167 (
 newS 31 [(.int .u8 0), (.int .i64 0)] h166 fun v168 h169 =>
 newS 31 [(.int .u8 0), (.int .i64 0)] h169 fun v170 h171 =>
 load1 a7 h171 fun v172 =>
 nilS v172 fun v173 =>
 addrS 2 v173 fun v174 =>
 load1 v174 h171 fun v175 =>
 addrS 1 a1 fun v176 =>
 load1 v176 h171 fun v177 =>
 idxS 3 v177 a25 fun v178 =>
 idxP 1 3 v178 (.int .i64 0) fun v179 =>
 load1 v179 h171 fun v180 =>
 bindS (ih 12 [v180, (.int .i64 4)] ⟨h171.t, h171.n, h171.n⟩) fun v181 h182 =>
 cD ((pureB h171 h182 || sameA h171 h182 v174 (vcells v175).length) && ((pureB h171 h182 || sameA h171 h182 a7 (vcells v172).length) && ((pureB h171 h182 || sameLd h171 h182 (fent v168 31 [(.int .u8 0), (.int .i64 0)])) && ((pureB h171 h182 || sameLd h171 h182 (fent v170 31 [(.int .u8 0), (.int .i64 0)])) && true)))) (
 wroteS h171.low h182 fun h183 =>
 intS .add (.int .i64 7) v181 fun v184 =>
 idxS 2 v175 v184 fun v185 =>
 loadN 2 v185 h183 fun v186 =>
 load1 a7 h171 fun v187 =>
 cD (((pureB h171 h182) || sameA h171 h183 a7 (vcells v187).length) && true) (
 nilS v187 fun v188 =>
 addrS 2 v188 fun v189 =>
 load1 v189 h171 fun v190 =>
 cD (((pureB h171 h182) || sameA h171 h183 v189 (vcells v190).length) && true) (
 addrS 1 a1 fun v191 =>
 load1 v191 h171 fun v192 =>
 cD (((pureB h171 h182) || sameA h171 h183 v191 (vcells v192).length) && true) (
 idxS 3 v192 a25 fun v193 =>
 idxP 1 3 v193 (.int .i64 1) fun v194 =>
 load1 v194 h171 fun v195 =>
 cD (((pureB h171 h182) || sameA h171 h183 v194 (vcells v195).length) && true) (
 bindS (ih 42 [] ⟨h183.t, h183.n, h183.n⟩) fun v196 h197 =>
 cD ((pureB h183 h197 || sameA h183 h197 v194 (vcells v195).length) && ((pureB h183 h197 || sameA h183 h197 v191 (vcells v192).length) && ((pureB h183 h197 || sameA h183 h197 v189 (vcells v190).length) && ((pureB h183 h197 || sameA h183 h197 a7 (vcells v187).length) && ((pureB h183 h197 || sameA h183 h197 v185 (vcells v186).length) && ((pureB h183 h197 || sameA h183 h197 v174 (vcells v175).length) && ((pureB h183 h197 || sameA h183 h197 a7 (vcells v172).length) && ((pureB h183 h197 || sameLd h183 h197 (fent v168 31 [(.int .u8 0), (.int .i64 0)])) && ((pureB h183 h197 || sameLd h183 h197 (fent v170 31 [(.int .u8 0), (.int .i64 0)])) && true))))))))) (
 wroteS h183.low h197 fun h198 =>
 bindS (lenSl v196 fun v => some (v, h198)) fun v199 h200 =>
 bindS (ih 12 [v195, v199] ⟨h198.t, h198.n, h198.n⟩) fun v201 h202 =>
 cD ((pureB h198 h202 || sameA h198 h202 v189 (vcells v190).length) && ((pureB h198 h202 || sameA h198 h202 a7 (vcells v187).length) && ((pureB h198 h202 || sameA h198 h202 v185 (vcells v186).length) && ((pureB h198 h202 || sameA h198 h202 v174 (vcells v175).length) && ((pureB h198 h202 || sameA h198 h202 a7 (vcells v172).length) && ((pureB h198 h202 || sameLd h198 h202 (fent v168 31 [(.int .u8 0), (.int .i64 0)])) && ((pureB h198 h202 || sameLd h198 h202 (fent v170 31 [(.int .u8 0), (.int .i64 0)])) && true))))))) (
 wroteS h198.low h202 fun h203 =>
 intS .add (.int .i64 11) v201 fun v204 =>
 idxS 2 v190 v204 fun v205 =>
 loadN 2 v205 h203 fun v206 =>
 ptrE v168 fun b207 o208 => storeB (storeO Tryz.prog h203 31 b207 o208 v186) fun c209 =>
 cD (offP v205 b207 && (offP v189 b207 && (offP a7 b207 && true))) (
 storeN 2 v170 v206 (h203.put b207 c209) fun h210 =>
 newS 31 [(.int .u8 0), (.int .i64 0)] h210 fun v211 h212 =>
 load1 a7 h212 fun v213 =>
 addrS 1 a1 fun v214 =>
 load1 v214 h212 fun v215 =>
 idxS 3 v215 a25 fun v216 =>
 idxP 1 3 v216 (.int .i64 2) fun v217 =>
 load1 v217 h212 fun v218 =>
 bindS (ih 14 [v213, v218] ⟨h212.t, h212.n, h212.n⟩) fun v219 h220 =>
 cD ((pureB h212 h220 || sameLd h212 h220 (fent v211 31 [(.int .u8 0), (.int .i64 0)])) && true) (
 wroteS h212.low h220 fun h221 =>
 storeN 2 v211 v219 h221 fun h222 =>
 loadN 2 v168 h222 fun v223 =>
 loadN 2 v170 h222 fun v224 =>
 loadN 2 v211 h222 fun v225 =>
 bindS (ih 56 [a3, v223, v224, v225] ⟨h222.t, h222.n, h222.n⟩) fun v226 h227 =>
 wroteS h222.low h227 fun h228 =>
 loadN 2 v168 h222 fun v229 =>
 cD (((pureB h222 h227) || sameA h222 h228 v168 (vcells v229).length) && true) (
 loadN 2 v170 h222 fun v230 =>
 cD (((pureB h222 h227) || sameA h222 h228 v170 (vcells v230).length) && true) (
 loadN 2 v211 h222 fun v231 =>
 cD (((pureB h222 h227) || sameA h222 h228 v211 (vcells v231).length) && true) (
 bindS (ih 58 [a5, v229, v230, v231] h228) fun v232 h233 =>
 intS .neq v226 v232 fun v234 =>
 ifS v234 (
 some (.nilPtr, h233)) (
 intS .add a25 (.int .i64 1) fun v235 =>
 ih 15 [a1, a3, a5, a7, v235] h233)) none) none) none) none) none) none) none) none) none) none) none) none) (
 load1 a7 h166 fun v236 =>
 some (v236, h166))
def B17 (ih : II) (a1 a3 a5 a7 a23 : V) (h : Hp) : VH :=
 intS .add a23 (.int .i64 1) fun v237 =>
 ih 13 [a1, a3, a5, a7, v237] h
def B62 (ih : II) (a0 a1 : V) (h : Hp) : VH :=
 newS 31 (vcells a1) h fun v0 h1 =>
 newS 31 [(.int .u8 0), (.int .i64 0)] h1 fun v2 h3 =>
 bindS (ih 144 [a0] h3) fun v4 h5 =>
 ifS v4 (
 nilS a0 fun v6 =>
 addrS 1 v6 fun v7 =>
 load1 v7 h5 fun v8 =>
 loadN 2 v0 h5 fun v9 =>
 bindS (vh h5 (kLook h5 (.struct [(0, .int .u8), (1, .int .i64)]) (some (.int .i64 0)) true v8 v9)) fun v10 h11 =>
 extS 0 v10 fun v12 =>
 extS 1 v10 fun v13 =>
 ifS v13 (
 nilS a0 fun v14 =>
 addrS 0 v14 fun v15 =>
 load1 v15 h5 fun v16 =>
 idxS 4 v16 v12 fun v17 =>
 addrS 2 v17 fun v18 =>
 loadN 2 v18 h5 fun v19 =>
 storeN 2 v2 v19 h5 fun h20 =>
 loadN 2 v2 h20 fun v21 =>
 some (v21, h20)) (
 ih 19 [v2] h5)) (
 ih 19 [v2] h5)
def B19 (ih : II) (a4 : V) (h : Hp) : VH :=
 bindS (bldStruct h [] (.agg [(.int .u8 0), (.int .i64 0)]) (some [(0, 1), (1, 1)])) fun v22 h23 =>
 storeN 2 a4 v22 h23 fun h24 =>
 loadN 2 a4 h24 fun v25 =>
 some (v25, h24)
def B60 (ih : II) (a0 a1 a2 : V) (h : Hp) : VH :=
 newS 31 (vcells a1) h fun v0 h1 =>
 addrS 0 v0 fun v2 =>
 load1 v2 h1 fun v3 =>
 intS .neq v3 a2 fun v4 =>
 ifS v4 (
 some (.nilPtr, h1)) (
 loadN 2 v0 h1 fun v5 =>
 bindS (ih 142 [a0, v5] h1) fun v6 h7 =>
 some (v6, h7))
def B70 (ih : II) (a0 a1 : V) (h : Hp) : VH :=
 newS 44 [(.int .u8 0), (.int .u8 0), (.int .i64 0), (.int .u8 0), (.int .i64 0), .nilSlice, (.int .u8 0)] h fun v0 h1 =>
 bindS (ih 152 [a0, (.int .u8 3), a1] h1) fun v2 h3 =>
 storeN 7 v0 v2 h3 fun h4 =>
 loadN 7 v0 h4 fun v5 =>
 some (v5, h4)
def B72 (ih : II) (a0 : V) (h : Hp) : VH :=
 newS 31 (vcells a0) h fun v0 h1 =>
 bindS (bldArr h1 [(0, (.str ⟨3, 7104878⟩)), (1, (.str ⟨7, 31069335677005666⟩)), (2, (.str ⟨7, 31069335677005666⟩)), (3, (.str ⟨6, 125779768604014⟩)), (4, (.str ⟨6, 113723913172083⟩)), (5, (.str ⟨5, 435610083700⟩)), (6, (.str ⟨8, 7957695015192261990⟩)), (7, (.str ⟨8, 7957695015192261990⟩)), (8, (.str ⟨6, 110369476601972⟩))] (.agg [(.str ⟨0, 0⟩), (.str ⟨0, 0⟩), (.str ⟨0, 0⟩), (.str ⟨0, 0⟩), (.str ⟨0, 0⟩), (.str ⟨0, 0⟩), (.str ⟨0, 0⟩), (.str ⟨0, 0⟩), (.str ⟨0, 0⟩)]) 1) fun v2 h3 =>
 newS 130 [(.str ⟨0, 0⟩), (.str ⟨0, 0⟩), (.str ⟨0, 0⟩), (.str ⟨0, 0⟩), (.str ⟨0, 0⟩), (.str ⟨0, 0⟩), (.str ⟨0, 0⟩), (.str ⟨0, 0⟩), (.str ⟨0, 0⟩)] h3 fun v4 h5 =>
 storeN 9 v4 v2 h5 fun h6 =>
 addrS 0 v0 fun v7 =>
 load1 v7 h6 fun v8 =>
 convI .i64 v8 fun v9 =>
 intS .geq v9 (.int .i64 9) fun v10 =>
 ifS v10 (
 some ((.str ⟨3, 7104878⟩), h6)) (
 addrS 0 v0 fun v11 =>
 load1 v11 h6 fun v12 =>
 idxP 1 9 v4 v12 fun v13 =>
 load1 v13 h6 fun v14 =>
 some (v14, h6))
def B82 (ih : II) (a0 : V) (h : Hp) : VH :=
 newS 31 (vcells a0) h fun v0 h1 =>
 newS 44 [(.int .u8 0), (.int .u8 0), (.int .i64 0), (.int .u8 0), (.int .i64 0), .nilSlice, (.int .u8 0)] h1 fun v2 h3 =>
 loadN 2 v0 h3 fun v4 =>
 bindS (bldStruct h3 [(0, (.int .u8 1)), (1, v4)] (.agg [(.int .u8 0), (.int .u8 0), (.int .i64 0), (.int .u8 0), (.int .i64 0), .nilSlice, (.int .u8 0)]) (some [(0, 1), (1, 2), (3, 2), (5, 1), (6, 1)])) fun v5 h6 =>
 storeN 7 v2 v5 h6 fun h7 =>
 loadN 7 v2 h7 fun v8 =>
 some (v8, h7)
def B66 (ih : II) (a0 a1 : V) (h : Hp) : VH :=
 newS 31 (vcells a1) h fun v0 h1 =>
 addrS 0 v0 fun v2 =>
 load1 v2 h1 fun v3 =>
 intS .eql v3 (.int .u8 5) fun v4 =>
 guardS v4 true (loadN 2 v0 h1 fun v5 =>
 bindS (ih 150 [a0, v5] h1) fun v6 h7 =>
 some (v6, h7)) h1 fun v8 h9 =>
 optS (pickV v4 v8 (.bool false)) fun v10 =>
 some (v10, h9)
def B64 (ih : II) (a0 a1 : V) (h : Hp) : VH :=
 newS 32 (vcells a0) h fun v0 h1 =>
 load1 v0 h1 fun v2 =>
 bindS (ih 146 [v2, a1] h1) fun v3 h4 =>
 extS 0 v3 fun v5 =>
 extS 1 v3 fun v6 =>
 newS 31 [(.int .u8 0), (.int .i64 0)] h4 fun v7 h8 =>
 newS 4 [(.bool false)] h8 fun v9 h10 =>
 storeN 2 v7 v5 h10 fun h11 =>
 storeC v9 v6 h11 fun h12 =>
 some ((.func 74 [] [v0, v9, v7]), h12)
def B68 (ih : II) (a0 a1 a2 a3 : V) (h : Hp) : VH :=
 newS 31 (vcells a1) h fun v0 h1 =>
 newS 31 (vcells a2) h1 fun v2 h3 =>
 newS 31 (vcells a3) h3 fun v4 h5 =>
 newS 44 [(.int .u8 0), (.int .u8 0), (.int .i64 0), (.int .u8 0), (.int .i64 0), .nilSlice, (.int .u8 0)] h5 fun v6 h7 =>
 addrS 0 v2 fun v8 =>
 load1 v8 h7 fun v9 =>
 intS .eql v9 (.int .u8 0) fun v10 =>
 ifS v10 (
 bindS (ih 70 [a0, (.str ⟨12, 33551838330689943393685237353⟩)] h7) fun v11 h12 =>
 storeN 7 v6 v11 h12 fun h13 =>
 loadN 7 v6 h13 fun v14 =>
 some (v14, h13)) (
 loadN 2 v0 h7 fun v15 =>
 loadN 2 v2 h7 fun v16 =>
 loadN 2 v4 h7 fun v17 =>
 bindS (ih 56 [a0, v15, v16, v17] h7) fun v18 h19 =>
 intS .eql v18 (.int .i64 0) fun v20 =>
 ifS v20 (
 bindS (bldStruct h19 [] (.agg [(.int .u8 0), (.int .i64 0)]) (some [(0, 1), (1, 1)])) fun v21 h22 =>
 bindS (ih 82 [v21] h22) fun v23 h24 =>
 storeN 7 v6 v23 h24 fun h25 =>
 loadN 7 v6 h25 fun v26 =>
 some (v26, h25)) (
 intS .eql v18 (.int .i64 152) fun v27 =>
 ifS v27 (
 bindS (bldStruct h19 [(0, (.int .u8 4))] (.agg [(.int .u8 0), (.int .u8 0), (.int .i64 0), (.int .u8 0), (.int .i64 0), .nilSlice, (.int .u8 0)]) (some [(0, 1), (1, 2), (3, 2), (5, 1), (6, 1)])) fun v28 h29 =>
 storeN 7 v6 v28 h29 fun h30 =>
 loadN 7 v6 h30 fun v31 =>
 some (v31, h30)) (
 intS .eql v18 (.int .i64 5) fun v32 =>
 ifS v32 (
 bindS (ih 70 [a0, (.str ⟨14, 2422434617105347862156227469533556⟩)] h19) fun v33 h34 =>
 storeN 7 v6 v33 h34 fun h35 =>
 loadN 7 v6 h35 fun v36 =>
 some (v36, h35)) (
 bindS (ih 70 [a0, (.str ⟨12, 33551838330689943393685237353⟩)] h19) fun v37 h38 =>
 storeN 7 v6 v37 h38 fun h39 =>
 loadN 7 v6 h39 fun v40 =>
 some (v40, h39)))))
def B58 (ih : II) (a0 a1 a2 a3 : V) (h : Hp) : VH :=
 newS 31 (vcells a1) h fun v0 h1 =>
 newS 31 (vcells a2) h1 fun v2 h3 =>
 newS 31 (vcells a3) h3 fun v4 h5 =>
 loadN 2 v0 h5 fun v6 =>
 bindS (ih 120 [a0, v6] h5) fun v7 h8 =>
 eqS (.pointer 112) .eql v7 .nilPtr fun v9 =>
 ifS v9 (
 some ((.int .i64 151), h8)) (
 loadN 2 v2 h8 fun v10 =>
 bindS (ih 132 [v10] h8) fun v11 h12 =>
 notS v11 fun v13 =>
 guardS v13 false (loadN 2 v2 h12 fun v14 =>
 bindS (ih 134 [a0, v14] h12) fun v15 h16 =>
 notS v15 fun v17 =>
 some (v17, h16)) h12 fun v18 h19 =>
 optS (pickV v13 (.bool true) v18) fun v20 =>
 guardS v20 false (loadN 2 v4 h19 fun v21 =>
 bindS (ih 134 [a0, v21] h19) fun v22 h23 =>
 notS v22 fun v24 =>
 some (v24, h23)) h19 fun v25 h26 =>
 optS (pickV v20 (.bool true) v25) fun v27 =>
 ifS v27 (
 some ((.int .i64 150), h26)) (
 nilS v7 fun v28 =>
 addrS 4 v28 fun v29 =>
 load1 v29 h26 fun v30 =>
 loadN 2 v2 h26 fun v31 =>
 bindS (ih 136 [v30, v31] ⟨h26.t, h26.n, h26.n⟩) fun v32 h33 =>
 wroteS h26.low h33 fun h34 =>
 fld1 0 v32 fun v35 =>
 intS .eql v35 (.int .u8 0) fun v36 =>
 guardS v36 true (addrS 0 v4 fun v37 =>
 some (v37, h34)) h34 fun v38 _ =>
 guardS v36 true (load1 v38 h34 fun v39 =>
 some (v39, h34)) h34 fun v40 _ =>
 guardS v36 true (intS .neq v40 (.int .u8 0) fun v41 =>
 some (v41, h34)) h34 fun v42 _ =>
 optS (pickV v36 v42 (.bool false)) fun v43 =>
 guardS v43 true (some (a0, h34)) h34 fun v44 _ =>
 guardB v43 true (
 bindS (ih 138 [v44] ⟨h34.t, h34.n, h34.n⟩) fun v45 h46 =>
 wroteS h34.low h46 fun h47 =>
 guardS v43 true (intS .add v45 (.int .i64 2) fun v48 =>
 some (v48, h47)) h47 fun v49 _ =>
 guardS v43 true (some (a0, h34)) h34 fun v50 _ =>
 guardS v43 true (nilS v50 fun v51 =>
 some (v51, h34)) h34 fun v52 _ =>
 guardS v43 true (addrS 0 v52 fun v53 =>
 some (v53, h34)) h34 fun v54 _ =>
 guardB v43 true (
 load1 v54 h34 fun v55 =>
 cD (((pureB h34 h46) || sameA h34 h47 v54 (vcells v55).length) && true) (
 guardS v43 true (intS .gtr v49 v55 fun v56 =>
 some (v56, h47)) h47 fun v57 h58 =>
 optS (pickV v43 v57 (.bool false)) fun v59 =>
 ifS v59 (
 some ((.int .i64 152), h58)) (
 nilS v7 fun v60 =>
 addrS 4 v60 fun v61 =>
 load1 v61 h58 fun v62 =>
 loadN 2 v2 h58 fun v63 =>
 loadN 2 v4 h58 fun v64 =>
 bindS (ih 140 [v62, v63, v64] h58) fun v65 h66 =>
 intS .eql v65 (.int .i64 0) fun v67 =>
 guardS v67 true (nilS a0 fun v68 =>
 addrS 3 v68 fun v69 =>
 load1 v69 h66 fun v70 =>
 some (v70, h66)) h66 fun v71 h72 =>
 optS (pickV v67 v71 (.bool false)) fun v73 =>
 ifS v73 (
 nilS v7 fun v74 =>
 addrS 12 v74 fun v75 =>
 storeC v75 (.bool true) h72 fun h76 =>
 ih 21 [v65] h76) (
 ih 21 [v65] h72))) none) (
 guardS v43 true (intS .gtr v49 undefV fun v77 =>
 some (v77, h47)) h47 fun v78 h79 =>
 optS (pickV v43 v78 (.bool false)) fun v80 =>
 ifS v80 (
 some ((.int .i64 152), h79)) (
 nilS v7 fun v81 =>
 addrS 4 v81 fun v82 =>
 load1 v82 h79 fun v83 =>
 loadN 2 v2 h79 fun v84 =>
 loadN 2 v4 h79 fun v85 =>
 bindS (ih 140 [v83, v84, v85] h79) fun v86 h87 =>
 intS .eql v86 (.int .i64 0) fun v88 =>
 guardS v88 true (nilS a0 fun v89 =>
 addrS 3 v89 fun v90 =>
 load1 v90 h87 fun v91 =>
 some (v91, h87)) h87 fun v92 h93 =>
 optS (pickV v88 v92 (.bool false)) fun v94 =>
 ifS v94 (
 nilS v7 fun v95 =>
 addrS 12 v95 fun v96 =>
 storeC v96 (.bool true) h93 fun h97 =>
 ih 21 [v86] h97) (
 ih 21 [v86] h93)))) (
 guardS v43 true (intS .add undefV (.int .i64 2) fun v98 =>
 some (v98, h34)) h34 fun v99 _ =>
 guardS v43 true (some (a0, h34)) h34 fun v100 _ =>
 guardS v43 true (nilS v100 fun v101 =>
 some (v101, h34)) h34 fun v102 _ =>
 guardS v43 true (addrS 0 v102 fun v103 =>
 some (v103, h34)) h34 fun v104 _ =>
 guardS v43 true (load1 v104 h34 fun v105 =>
 some (v105, h34)) h34 fun v106 _ =>
 guardS v43 true (intS .gtr v99 v106 fun v107 =>
 some (v107, h34)) h34 fun v108 h109 =>
 optS (pickV v43 v108 (.bool false)) fun v110 =>
 ifS v110 (
 some ((.int .i64 152), h109)) (
 nilS v7 fun v111 =>
 addrS 4 v111 fun v112 =>
 load1 v112 h109 fun v113 =>
 loadN 2 v2 h109 fun v114 =>
 loadN 2 v4 h109 fun v115 =>
 bindS (ih 140 [v113, v114, v115] h109) fun v116 h117 =>
 intS .eql v116 (.int .i64 0) fun v118 =>
 guardS v118 true (nilS a0 fun v119 =>
 addrS 3 v119 fun v120 =>
 load1 v120 h117 fun v121 =>
 some (v121, h117)) h117 fun v122 h123 =>
 optS (pickV v118 v122 (.bool false)) fun v124 =>
 ifS v124 (
 nilS v7 fun v125 =>
 addrS 12 v125 fun v126 =>
 storeC v126 (.bool true) h123 fun h127 =>
 ih 21 [v116] h127) (
 ih 21 [v116] h123)))))
def B21 (ih : II) (a10 : V) (h : Hp) : VH :=
 some (a10, h)
def B56 (ih : II) (a0 a1 a2 a3 : V) (h : Hp) : VH :=
 newS 31 (vcells a1) h fun v0 h1 =>
 newS 31 (vcells a2) h1 fun v2 h3 =>
 newS 31 (vcells a3) h3 fun v4 h5 =>
 bindS (ih 102 [a0] h5) fun v6 h7 =>
 notS v6 fun v8 =>
 ifS v8 (
 some ((.int .i64 1), h7)) (
 loadN 2 v0 h7 fun v9 =>
 bindS (ih 60 [a0, v9, (.int .u8 5)] h7) fun v10 h11 =>
 eqS (.pointer 76) .eql v10 .nilPtr fun v12 =>
 ifS v12 (
 some ((.int .i64 151), h11)) (
 addrS 0 v2 fun v13 =>
 load1 v13 h11 fun v14 =>
 intS .eql v14 (.int .u8 0) fun v15 =>
 guardS v15 false (loadN 2 v2 h11 fun v16 =>
 bindS (ih 122 [a0, v16] h11) fun v17 h18 =>
 notS v17 fun v19 =>
 some (v19, h18)) h11 fun v20 h21 =>
 optS (pickV v15 (.bool true) v20) fun v22 =>
 guardS v22 false (loadN 2 v4 h21 fun v23 =>
 bindS (ih 122 [a0, v23] h21) fun v24 h25 =>
 notS v24 fun v26 =>
 some (v26, h25)) h21 fun v27 h28 =>
 optS (pickV v22 (.bool true) v27) fun v29 =>
 ifS v29 (
 some ((.int .i64 150), h28)) (
 nilS v10 fun v30 =>
 addrS 3 v30 fun v31 =>
 load1 v31 h28 fun v32 =>
 loadN 2 v2 h28 fun v33 =>
 bindS (ih 62 [v32, v33] ⟨h28.t, h28.n, h28.n⟩) fun v34 h35 =>
 wroteS h28.low h35 fun h36 =>
 fld1 0 v34 fun v37 =>
 intS .eql v37 (.int .u8 0) fun v38 =>
 guardS v38 true (addrS 0 v4 fun v39 =>
 some (v39, h36)) h36 fun v40 _ =>
 guardS v38 true (load1 v40 h36 fun v41 =>
 some (v41, h36)) h36 fun v42 _ =>
 guardS v38 true (intS .neq v42 (.int .u8 0) fun v43 =>
 some (v43, h36)) h36 fun v44 _ =>
 optS (pickV v38 v44 (.bool false)) fun v45 =>
 guardS v45 true (some (a0, h36)) h36 fun v46 _ =>
 guardS v45 true (nilS v46 fun v47 =>
 some (v47, h36)) h36 fun v48 _ =>
 guardS v45 true (addrS 1 v48 fun v49 =>
 some (v49, h36)) h36 fun v50 _ =>
 guardS v45 true (load1 v50 h36 fun v51 =>
 some (v51, h36)) h36 fun v52 _ =>
 guardB v45 true (
 bindS (ih 124 [v52] ⟨h36.t, h36.n, h36.n⟩) fun v53 h54 =>
 wroteS h36.low h54 fun h55 =>
 guardS v45 true (intS .add v53 (.int .i64 2) fun v56 =>
 some (v56, h55)) h55 fun v57 _ =>
 guardS v45 true (some (a0, h36)) h36 fun v58 _ =>
 guardS v45 true (nilS v58 fun v59 =>
 some (v59, h36)) h36 fun v60 _ =>
 guardS v45 true (addrS 0 v60 fun v61 =>
 some (v61, h36)) h36 fun v62 _ =>
 guardB v45 true (
 load1 v62 h36 fun v63 =>
 cD (((pureB h36 h54) || sameA h36 h55 v62 (vcells v63).length) && true) (
 guardS v45 true (intS .gtr v57 v63 fun v64 =>
 some (v64, h55)) h55 fun v65 h66 =>
 optS (pickV v45 v65 (.bool false)) fun v67 =>
 ifS v67 (
 some ((.int .i64 152), h66)) (
 nilS v10 fun v68 =>
 addrS 3 v68 fun v69 =>
 load1 v69 h66 fun v70 =>
 loadN 2 v2 h66 fun v71 =>
 loadN 2 v4 h66 fun v72 =>
 bindS (ih 126 [v70, v71, v72] h66) fun v73 h74 =>
 intS .eql v73 (.int .i64 0) fun v75 =>
 ifS v75 (
 nilS a0 fun v76 =>
 addrS 1 v76 fun v77 =>
 load1 v77 h74 fun v78 =>
 addrS 1 v0 fun v79 =>
 load1 v79 h74 fun v80 =>
 nilS v10 fun v81 =>
 addrS 3 v81 fun v82 =>
 load1 v82 h74 fun v83 =>
 bindS (ih 130 [v83] ⟨h74.t, h74.n, h74.n⟩) fun v84 h85 =>
 cD ((pureB h74 h85 || sameA h74 h85 v79 (vcells v80).length) && ((pureB h74 h85 || sameA h74 h85 v77 (vcells v78).length) && true)) (
 wroteS h74.low h85 fun h86 =>
 intS .mul (.int .i64 2) v84 fun v87 =>
 intS .add (.int .i64 2) v87 fun v88 =>
 bindS (ih 128 [v78, v80, v88] h86) fun v89 h90 =>
 addrS 1 v0 fun v91 =>
 load1 v91 h90 fun v92 =>
 bindS (ih 110 [a0, v92] h90) fun v93 h94 =>
 ih 23 [v73] h94) none) (
 ih 23 [v73] h74))) none) (
 guardS v45 true (intS .gtr v57 undefV fun v95 =>
 some (v95, h55)) h55 fun v96 h97 =>
 optS (pickV v45 v96 (.bool false)) fun v98 =>
 ifS v98 (
 some ((.int .i64 152), h97)) (
 nilS v10 fun v99 =>
 addrS 3 v99 fun v100 =>
 load1 v100 h97 fun v101 =>
 loadN 2 v2 h97 fun v102 =>
 loadN 2 v4 h97 fun v103 =>
 bindS (ih 126 [v101, v102, v103] h97) fun v104 h105 =>
 intS .eql v104 (.int .i64 0) fun v106 =>
 ifS v106 (
 nilS a0 fun v107 =>
 addrS 1 v107 fun v108 =>
 load1 v108 h105 fun v109 =>
 addrS 1 v0 fun v110 =>
 load1 v110 h105 fun v111 =>
 nilS v10 fun v112 =>
 addrS 3 v112 fun v113 =>
 load1 v113 h105 fun v114 =>
 bindS (ih 130 [v114] ⟨h105.t, h105.n, h105.n⟩) fun v115 h116 =>
 cD ((pureB h105 h116 || sameA h105 h116 v110 (vcells v111).length) && ((pureB h105 h116 || sameA h105 h116 v108 (vcells v109).length) && true)) (
 wroteS h105.low h116 fun h117 =>
 intS .mul (.int .i64 2) v115 fun v118 =>
 intS .add (.int .i64 2) v118 fun v119 =>
 bindS (ih 128 [v109, v111, v119] h117) fun v120 h121 =>
 addrS 1 v0 fun v122 =>
 load1 v122 h121 fun v123 =>
 bindS (ih 110 [a0, v123] h121) fun v124 h125 =>
 ih 23 [v104] h125) none) (
 ih 23 [v104] h105)))) (
 guardS v45 true (intS .add undefV (.int .i64 2) fun v126 =>
 some (v126, h36)) h36 fun v127 _ =>
 guardS v45 true (some (a0, h36)) h36 fun v128 _ =>
 guardS v45 true (nilS v128 fun v129 =>
 some (v129, h36)) h36 fun v130 _ =>
 guardS v45 true (addrS 0 v130 fun v131 =>
 some (v131, h36)) h36 fun v132 _ =>
 guardS v45 true (load1 v132 h36 fun v133 =>
 some (v133, h36)) h36 fun v134 _ =>
 guardS v45 true (intS .gtr v127 v134 fun v135 =>
 some (v135, h36)) h36 fun v136 h137 =>
 optS (pickV v45 v136 (.bool false)) fun v138 =>
 ifS v138 (
 some ((.int .i64 152), h137)) (
 nilS v10 fun v139 =>
 addrS 3 v139 fun v140 =>
 load1 v140 h137 fun v141 =>
 loadN 2 v2 h137 fun v142 =>
 loadN 2 v4 h137 fun v143 =>
 bindS (ih 126 [v141, v142, v143] h137) fun v144 h145 =>
 intS .eql v144 (.int .i64 0) fun v146 =>
 ifS v146 (
 nilS a0 fun v147 =>
 addrS 1 v147 fun v148 =>
 load1 v148 h145 fun v149 =>
 addrS 1 v0 fun v150 =>
 load1 v150 h145 fun v151 =>
 nilS v10 fun v152 =>
 addrS 3 v152 fun v153 =>
 load1 v153 h145 fun v154 =>
 bindS (ih 130 [v154] ⟨h145.t, h145.n, h145.n⟩) fun v155 h156 =>
 cD ((pureB h145 h156 || sameA h145 h156 v150 (vcells v151).length) && ((pureB h145 h156 || sameA h145 h156 v148 (vcells v149).length) && true)) (
 wroteS h145.low h156 fun h157 =>
 intS .mul (.int .i64 2) v155 fun v158 =>
 intS .add (.int .i64 2) v158 fun v159 =>
 bindS (ih 128 [v149, v151, v159] h157) fun v160 h161 =>
 addrS 1 v0 fun v162 =>
 load1 v162 h161 fun v163 =>
 bindS (ih 110 [a0, v163] h161) fun v164 h165 =>
 ih 23 [v144] h165) none) (
 ih 23 [v144] h145))))))
def B23 (ih : II) (a10 : V) (h : Hp) : VH :=
 some (a10, h)
def B42 (ih : II) (h : Hp) : VH :=
 bindS (bldSl h [(0, (.str ⟨7, 33888479228813151⟩)), (1, (.str ⟨10, 568554335933414845079391⟩)), (2, (.str ⟨5, 431180832607⟩)), (3, (.str ⟨5, 422877290335⟩)), (4, (.str ⟨5, 465826570079⟩)), (5, (.str ⟨6, 130195028270943⟩)), (6, (.str ⟨5, 431366168415⟩)), (7, (.str ⟨6, 110425243017055⟩)), (8, (.str ⟨5, 491494989663⟩)), (9, (.str ⟨6, 125823086649183⟩)), (10, (.str ⟨5, 465608859487⟩)), (11, (.str ⟨5, 491378663263⟩)), (12, (.str ⟨8, 8386093307106910047⟩)), (13, (.str ⟨4, 1902468959⟩)), (14, (.str ⟨4, 1953259359⟩)), (15, (.str ⟨4, 1701601119⟩)), (16, (.str ⟨5, 470004621151⟩)), (17, (.str ⟨6, 128021942132575⟩)), (18, (.str ⟨5, 474148003679⟩)), (19, (.str ⟨6, 119212746170207⟩)), (20, (.str ⟨1, 120⟩)), (21, (.str ⟨1, 121⟩))] 9 22 1 (.str ⟨0, 0⟩)) fun v0 h1 =>
 some (v0, h1)
def B54 (ih : II) (a0 a1 a2 : V) (h : Hp) : VH :=
 newS 31 (vcells a1) h fun v0 h1 =>
 newS 31 (vcells a2) h1 fun v2 h3 =>
 loadN 2 v0 h3 fun v4 =>
 bindS (ih 120 [a0, v4] h3) fun v5 h6 =>
 eqS (.pointer 112) .eql v5 .nilPtr fun v7 =>
 ifS v7 (
 some ((.int .i64 151), h6)) (
 loadN 2 v2 h6 fun v8 =>
 bindS (bldStruct h6 [] (.agg [(.int .u8 0), (.int .i64 0)]) (some [(0, 1), (1, 1)])) fun v9 h10 =>
 bindS (vh h10 (eqOp .neq (cmpV [(0, .int .u8), (1, .int .i64)] v8 v9))) fun v11 h12 =>
 guardS v11 true (loadN 2 v2 h12 fun v13 =>
 bindS (ih 120 [a0, v13] h12) fun v14 h15 =>
 eqS (.pointer 112) .eql v14 .nilPtr fun v16 =>
 some (v16, h15)) h12 fun v17 h18 =>
 optS (pickV v11 v17 (.bool false)) fun v19 =>
 ifS v19 (
 some ((.int .i64 150), h18)) (
 loadN 2 v2 h18 fun v20 =>
 nilS v5 fun v21 =>
 addrS 5 v21 fun v22 =>
 storeN 2 v22 v20 h18 fun h23 =>
 nilS a0 fun v24 =>
 addrS 3 v24 fun v25 =>
 load1 v25 h23 fun v26 =>
 ifS v26 (
 nilS v5 fun v27 =>
 addrS 12 v27 fun v28 =>
 storeC v28 (.bool true) h23 fun h29 =>
 ih 25 [] h29) (
 ih 25 [] h23)))
def B25 (ih : II) (h : Hp) : VH :=
 some ((.int .i64 0), h)
def B52 (ih : II) (a0 a1 a2 : V) (h : Hp) : VH :=
 newS 31 (vcells a1) h fun v0 h1 =>
 newS 31 (vcells a2) h1 fun v2 h3 =>
 bindS (ih 102 [a0] h3) fun v4 h5 =>
 notS v4 fun v6 =>
 ifS v6 (
 some ((.int .i64 1), h5)) (
 loadN 2 v0 h5 fun v7 =>
 bindS (ih 60 [a0, v7, (.int .u8 5)] h5) fun v8 h9 =>
 eqS (.pointer 76) .eql v8 .nilPtr fun v10 =>
 ifS v10 (
 some ((.int .i64 151), h9)) (
 loadN 2 v2 h9 fun v11 =>
 bindS (bldStruct h9 [] (.agg [(.int .u8 0), (.int .i64 0)]) (some [(0, 1), (1, 1)])) fun v12 h13 =>
 bindS (vh h13 (eqOp .neq (cmpV [(0, .int .u8), (1, .int .i64)] v11 v12))) fun v14 h15 =>
 guardS v14 true (loadN 2 v2 h15 fun v16 =>
 bindS (ih 60 [a0, v16, (.int .u8 5)] h15) fun v17 h18 =>
 eqS (.pointer 76) .eql v17 .nilPtr fun v19 =>
 some (v19, h18)) h15 fun v20 h21 =>
 optS (pickV v14 v20 (.bool false)) fun v22 =>
 ifS v22 (
 some ((.int .i64 150), h21)) (
 loadN 2 v2 h21 fun v23 =>
 nilS v8 fun v24 =>
 addrS 4 v24 fun v25 =>
 storeN 2 v25 v23 h21 fun h26 =>
 addrS 1 v0 fun v27 =>
 load1 v27 h26 fun v28 =>
 bindS (ih 110 [a0, v28] h26) fun v29 h30 =>
 some ((.int .i64 0), h30))))
def B50 (ih : II) (a0 a1 a2 : V) (h : Hp) : VH :=
 newS 31 [(.int .u8 0), (.int .i64 0)] h fun v0 h1 =>
 intS .lss a1 (.int .i64 0) fun v2 =>
 guardS v2 false (bindS (lenSl a2 fun v => some (v, h1)) fun v3 h4 =>
 intS .gtr v3 (.int .i64 60) fun v5 =>
 some (v5, h4)) h1 fun v6 h7 =>
 optS (pickV v2 (.bool true) v6) fun v8 =>
 ifS v8 (
 bindS (bldStruct h7 [] (.agg [(.int .u8 0), (.int .i64 0)]) (some [(0, 1), (1, 1)])) fun v9 h10 =>
 storeN 2 v0 v9 h10 fun h11 =>
 loadN 2 v0 h11 fun v12 =>
 some (.tuple [v12, (.int .i64 150)], h11)) (
 ih 27 [a0, a1, a2, v0, (.int .i64 0)] h7)
def B27 (ih : II) (a0 a1 a2 a6 a8 : V) (h : Hp) : VH :=
 bindS (lenSl a2 fun v => some (v, h)) fun v13 h14 =>
 intS .lss a8 v13 fun v15 =>
 ifS v15 (
 idxS 2 a2 a8 fun v16 =>
 addrS 0 v16 fun v17 =>
 load1 v17 h14 fun v18 =>
 intS .neq v18 (.int .u8 9) fun v19 =>
 guardS v19 false (idxS 2 a2 a8 fun v20 =>
 loadN 2 v20 h14 fun v21 =>
 bindS (ih 118 [a0, v21] h14) fun v22 h23 =>
 eqS (.pointer 112) .eql v22 .nilPtr fun v24 =>
 some (v24, h23)) h14 fun v25 h26 =>
 optS (pickV v19 (.bool true) v25) fun v27 =>
 ifS v27 (
 bindS (bldStruct h26 [] (.agg [(.int .u8 0), (.int .i64 0)]) (some [(0, 1), (1, 1)])) fun v28 h29 =>
 storeN 2 a6 v28 h29 fun h30 =>
 loadN 2 a6 h30 fun v31 =>
 some (.tuple [v31, (.int .i64 150)], h30)) (
 intS .add a8 (.int .i64 1) fun v32 =>
 ih 27 [a0, a1, a2, a6, v32] h26)) (
 bindS (bldSl h14 [] 31 0 2 (.agg [(.int .u8 0), (.int .i64 0)])) fun v33 h34 =>
 bindS (appS 31 16 2 v33 a2 h34) fun v35 h36 =>
 bindS (bldStruct h36 [(5, a1), (6, v35)] (.agg [(.int .u8 0), (.int .i64 0), (.int .i64 0), (.str ⟨0, 0⟩), .nilPtr, (.int .u8 0), (.int .i64 0), (.int .i64 0), .nilSlice, (.int .u8 0), (.int .i64 0), .nilPtr, (.bool false)]) (some [(0, 2), (2, 1), (3, 1), (4, 1), (5, 2), (7, 1), (8, 1), (9, 2), (11, 1), (12, 1)])) fun v37 h38 =>
 newS 112 (vcells v37) h38 fun v39 h40 =>
 bindS (ih 108 [a0, (.int .u8 6), v39] h40) fun v41 h42 =>
 extS 0 v41 fun v43 =>
 extS 1 v41 fun v44 =>
 storeN 2 a6 v43 h42 fun h45 =>
 loadN 2 a6 h45 fun v46 =>
 some (.tuple [v46, v44], h45))
def B48 (ih : II) (a0 a1 a2 : V) (h : Hp) : VH :=
 newS 32 (vcells a0) h fun v0 h1 =>
 newS 31 [(.int .u8 0), (.int .i64 0)] h1 fun v2 h3 =>
 load1 v0 h3 fun v4 =>
 bindS (ih 102 [v4] h3) fun v5 h6 =>
 notS v5 fun v7 =>
 ifS v7 (
 bindS (bldStruct h6 [] (.agg [(.int .u8 0), (.int .i64 0)]) (some [(0, 1), (1, 1)])) fun v8 h9 =>
 storeN 2 v2 v8 h9 fun h10 =>
 loadN 2 v2 h10 fun v11 =>
 some (.tuple [v11, (.int .i64 1)], h10)) (
 intS .lss a1 (.int .i64 0) fun v12 =>
 guardS v12 false (bindS (lenSl a2 fun v => some (v, h6)) fun v13 h14 =>
 intS .gtr v13 (.int .i64 60) fun v15 =>
 some (v15, h14)) h6 fun v16 h17 =>
 optS (pickV v12 (.bool true) v16) fun v18 =>
 guardS v18 false (bindS (ih 114 [a2, (.func 56 [] [v0])] h17) fun v19 h20 =>
 some (v19, h20)) h17 fun v21 h22 =>
 optS (pickV v18 (.bool true) v21) fun v23 =>
 ifS v23 (
 bindS (bldStruct h22 [] (.agg [(.int .u8 0), (.int .i64 0)]) (some [(0, 1), (1, 1)])) fun v24 h25 =>
 storeN 2 v2 v24 h25 fun h26 =>
 loadN 2 v2 h26 fun v27 =>
 some (.tuple [v27, (.int .i64 150)], h26)) (
 load1 v0 h22 fun v28 =>
 bindS (ih 116 [a2] ⟨h22.t, h22.n, h22.n⟩) fun v29 h30 =>
 cD ((pureB h22 h30 || sameA h22 h30 v0 (vcells v28).length) && true) (
 wroteS h22.low h30 fun h31 =>
 bindS (bldStruct h31 [(0, (.int .u8 6)), (5, a1), (6, v29)] (.agg [(.int .u8 0), (.int .i64 0), (.str ⟨0, 0⟩), .nilPtr, (.int .u8 0), (.int .i64 0), (.int .i64 0), .nilSlice, (.int .u8 0), (.int .i64 0), .nilPtr]) (some [(0, 1), (1, 1), (2, 1), (3, 1), (4, 2), (6, 1), (7, 1), (8, 2), (10, 1)])) fun v32 h33 =>
 newS 76 (vcells v32) ⟨h31.t, h31.n, h31.n⟩ fun v34 h35 =>
 madeS h31.n h31.low h35 fun h36 =>
 bindS (lenSl a2 fun v => some (v, h22)) fun v37 h38 =>
 intS .add (.int .i64 2) v37 fun v39 =>
 bindS (ih 104 [v28, v34, v39] ⟨h36.t, h36.n, h36.n⟩) fun v40 h41 =>
 wroteS h36.low h41 fun h42 =>
 extS 0 v40 fun v43 =>
 extS 1 v40 fun v44 =>
 storeN 2 v2 v43 h42 fun h45 =>
 loadN 2 v2 h45 fun v46 =>
 some (.tuple [v46, v44], h45)) none))
def B46 (ih : II) (a0 a1 : V) (h : Hp) : VH :=
 newS 31 [(.int .u8 0), (.int .i64 0)] h fun v0 h1 =>
 bindS (lenStr a1 fun v => some (v, h1)) fun v2 h3 =>
 intS .gtr v2 (.int .i64 65535) fun v4 =>
 ifS v4 (
 bindS (bldStruct h3 [] (.agg [(.int .u8 0), (.int .i64 0)]) (some [(0, 1), (1, 1)])) fun v5 h6 =>
 storeN 2 v0 v5 h6 fun h7 =>
 loadN 2 v0 h7 fun v8 =>
 some (.tuple [v8, (.int .i64 3)], h7)) (
 ih 29 [a0, a1, v0, (.int .i64 0)] h3)
def B29 (ih : II) (a0 a1 a4 a6 : V) (h : Hp) : VH :=
 nilS a0 fun v9 =>
 addrS 1 v9 fun v10 =>
 load1 v10 h fun v11 =>
 bindS (lenSl v11 fun v => some (v, h)) fun v12 h13 =>
 intS .lss a6 v12 fun v14 =>
 ifS v14 (
 nilS a0 fun v15 =>
 addrS 1 v15 fun v16 =>
 load1 v16 h13 fun v17 =>
 idxS 1 v17 a6 fun v18 =>
 load1 v18 h13 fun v19 =>
 nilS v19 fun v20 =>
 addrS 0 v20 fun v21 =>
 addrS 0 v21 fun v22 =>
 load1 v22 h13 fun v23 =>
 intS .eql v23 (.int .u8 4) fun v24 =>
 guardS v24 true (nilS a0 fun v25 =>
 addrS 1 v25 fun v26 =>
 load1 v26 h13 fun v27 =>
 idxS 1 v27 a6 fun v28 =>
 load1 v28 h13 fun v29 =>
 nilS v29 fun v30 =>
 addrS 3 v30 fun v31 =>
 load1 v31 h13 fun v32 =>
 strS .eql v32 a1 fun v33 =>
 some (v33, h13)) h13 fun v34 h35 =>
 optS (pickV v24 v34 (.bool false)) fun v36 =>
 ifS v36 (
 nilS a0 fun v37 =>
 addrS 3 v37 fun v38 =>
 load1 v38 h35 fun v39 =>
 ifS v39 (
 nilS a0 fun v40 =>
 addrS 1 v40 fun v41 =>
 load1 v41 h35 fun v42 =>
 idxS 1 v42 a6 fun v43 =>
 load1 v43 h35 fun v44 =>
 nilS v44 fun v45 =>
 addrS 12 v45 fun v46 =>
 storeC v46 (.bool true) h35 fun h47 =>
 ih 31 [a0, a4, a6] h47) (
 ih 31 [a0, a4, a6] h35)) (
 intS .add a6 (.int .i64 1) fun v48 =>
 ih 29 [a0, a1, a4, v48] h35)) (
 bindS (bldStruct h13 [(2, a1)] (.agg [(.int .u8 0), (.int .i64 0), (.int .i64 0), (.str ⟨0, 0⟩), .nilPtr, (.int .u8 0), (.int .i64 0), (.int .i64 0), .nilSlice, (.int .u8 0), (.int .i64 0), .nilPtr, (.bool false)]) (some [(0, 2), (2, 1), (3, 1), (4, 1), (5, 2), (7, 1), (8, 1), (9, 2), (11, 1), (12, 1)])) fun v49 h50 =>
 newS 112 (vcells v49) h50 fun v51 h52 =>
 bindS (ih 108 [a0, (.int .u8 4), v51] h52) fun v53 h54 =>
 extS 0 v53 fun v55 =>
 extS 1 v53 fun v56 =>
 storeN 2 a4 v55 h54 fun h57 =>
 loadN 2 a4 h57 fun v58 =>
 some (.tuple [v58, v56], h57))
def B44 (ih : II) (a0 a1 : V) (h : Hp) : VH :=
 newS 31 [(.int .u8 0), (.int .i64 0)] h fun v0 h1 =>
 bindS (ih 102 [a0] h1) fun v2 h3 =>
 notS v2 fun v4 =>
 ifS v4 (
 bindS (bldStruct h3 [] (.agg [(.int .u8 0), (.int .i64 0)]) (some [(0, 1), (1, 1)])) fun v5 h6 =>
 storeN 2 v0 v5 h6 fun h7 =>
 loadN 2 v0 h7 fun v8 =>
 some (.tuple [v8, (.int .i64 1)], h7)) (
 bindS (lenStr a1 fun v => some (v, h3)) fun v9 h10 =>
 intS .gtr v9 (.int .i64 65535) fun v11 =>
 ifS v11 (
 bindS (bldStruct h10 [] (.agg [(.int .u8 0), (.int .i64 0)]) (some [(0, 1), (1, 1)])) fun v12 h13 =>
 storeN 2 v0 v12 h13 fun h14 =>
 loadN 2 v0 h14 fun v15 =>
 some (.tuple [v15, (.int .i64 3)], h14)) (
 nilS a0 fun v16 =>
 addrS 3 v16 fun v17 =>
 load1 v17 h10 fun v18 =>
 bindS (lookS .string (some (.int .i64 0)) true v18 a1 h10) fun v19 h20 =>
 extS 0 v19 fun v21 =>
 extS 1 v19 fun v22 =>
 ifS v22 (
 bindS (ih 110 [a0, v21] h20) fun v23 h24 =>
 bindS (bldStruct h24 [(0, (.int .u8 4)), (1, v21)] (.agg [(.int .u8 0), (.int .i64 0)]) (some [(0, 1), (1, 1)])) fun v25 h26 =>
 storeN 2 v0 v25 h26 fun h27 =>
 loadN 2 v0 h27 fun v28 =>
 some (.tuple [v28, (.int .i64 0)], h27)) (
 bindS (bldStruct h20 [(0, (.int .u8 4)), (2, a1)] (.agg [(.int .u8 0), (.int .i64 0), (.str ⟨0, 0⟩), .nilPtr, (.int .u8 0), (.int .i64 0), (.int .i64 0), .nilSlice, (.int .u8 0), (.int .i64 0), .nilPtr]) (some [(0, 1), (1, 1), (2, 1), (3, 1), (4, 2), (6, 1), (7, 1), (8, 2), (10, 1)])) fun v29 h30 =>
 newS 76 (vcells v29) h30 fun v31 h32 =>
 bindS (lenStr a1 fun v => some (v, h32)) fun v33 h34 =>
 intS .quo v33 (.int .i64 16) fun v35 =>
 intS .add (.int .i64 1) v35 fun v36 =>
 bindS (ih 104 [a0, v31, v36] h34) fun v37 h38 =>
 extS 0 v37 fun v39 =>
 extS 1 v37 fun v40 =>
 newS 31 [(.int .u8 0), (.int .i64 0)] h38 fun v41 h42 =>
 storeN 2 v41 v39 h42 fun h43 =>
 intS .eql v40 (.int .i64 0) fun v44 =>
 ifS v44 (
 nilS a0 fun v45 =>
 addrS 3 v45 fun v46 =>
 load1 v46 h43 fun v47 =>
 addrS 1 v41 fun v48 =>
 load1 v48 h43 fun v49 =>
 bindS (updS .string v47 a1 v49 h43) fun v50 h51 =>
 ih 33 [v0, v41, v40] h51) (
 ih 33 [v0, v41, v40] h43))))
def B33 (ih : II) (a4 a8 a9 : V) (h : Hp) : VH :=
 loadN 2 a8 h fun v52 =>
 storeN 2 a4 v52 h fun h53 =>
 loadN 2 a4 h53 fun v54 =>
 some (.tuple [v54, a9], h53)
def B40 (ih : II) (a0 : V) (h : Hp) : VH :=
 newS 31 [(.int .u8 0), (.int .i64 0)] h fun v0 h1 =>
 bindS (bldStruct h1 [] (.agg [.nilSlice]) (some [(0, 1)])) fun v2 h3 =>
 newS 110 (vcells v2) h3 fun v4 h5 =>
 bindS (bldStruct h5 [(3, v4)] (.agg [(.int .u8 0), (.int .i64 0), (.int .i64 0), (.str ⟨0, 0⟩), .nilPtr, (.int .u8 0), (.int .i64 0), (.int .i64 0), .nilSlice, (.int .u8 0), (.int .i64 0), .nilPtr, (.bool false)]) (some [(0, 2), (2, 1), (3, 1), (4, 1), (5, 2), (7, 1), (8, 1), (9, 2), (11, 1), (12, 1)])) fun v6 h7 =>
 newS 112 (vcells v6) h7 fun v8 h9 =>
 bindS (ih 108 [a0, (.int .u8 5), v8] h9) fun v10 h11 =>
 extS 0 v10 fun v12 =>
 extS 1 v10 fun v13 =>
 storeN 2 v0 v12 h11 fun h14 =>
 loadN 2 v0 h14 fun v15 =>
 some (.tuple [v15, v13], h14)
def B38 (ih : II) (a0 : V) (h : Hp) : VH :=
 newS 31 [(.int .u8 0), (.int .i64 0)] h fun v0 h1 =>
 bindS (ih 102 [a0] h1) fun v2 h3 =>
 notS v2 fun v4 =>
 ifS v4 (
 bindS (bldStruct h3 [] (.agg [(.int .u8 0), (.int .i64 0)]) (some [(0, 1), (1, 1)])) fun v5 h6 =>
 storeN 2 v0 v5 h6 fun h7 =>
 loadN 2 v0 h7 fun v8 =>
 some (.tuple [v8, (.int .i64 1)], h7)) (
 bindS (ih 106 [] h3) fun v9 h10 =>
 bindS (bldStruct h10 [(0, (.int .u8 5)), (3, v9)] (.agg [(.int .u8 0), (.int .i64 0), (.str ⟨0, 0⟩), .nilPtr, (.int .u8 0), (.int .i64 0), (.int .i64 0), .nilSlice, (.int .u8 0), (.int .i64 0), .nilPtr]) (some [(0, 1), (1, 1), (2, 1), (3, 1), (4, 2), (6, 1), (7, 1), (8, 2), (10, 1)])) fun v11 h12 =>
 newS 76 (vcells v11) h12 fun v13 h14 =>
 bindS (ih 104 [a0, v13, (.int .i64 2)] h14) fun v15 h16 =>
 extS 0 v15 fun v17 =>
 extS 1 v15 fun v18 =>
 storeN 2 v0 v17 h16 fun h19 =>
 loadN 2 v0 h19 fun v20 =>
 some (.tuple [v20, v18], h19))
def B36 (ih : II) (a0 a1 a2 a3 a4 : V) (h : Hp) : VH :=
 newS 31 (vcells a0) h fun v0 h1 =>
 newS 31 (vcells a1) h1 fun v2 h3 =>
 load1 a4 h3 fun v4 =>
 load1 a4 h3 fun v5 =>
 nilS v5 fun v6 =>
 addrS 2 v6 fun v7 =>
 load1 v7 h3 fun v8 =>
 loadN 2 v0 h3 fun v9 =>
 bindS (bldSl ⟨h3.t, h3.n, h3.n⟩ [(0, v9)] 31 1 2 (.agg [(.int .u8 0), (.int .i64 0)])) fun v10 h11 =>
 madeS h3.n h3.low h11 fun h12 =>
 bindS (appS 31 16 2 v8 v10 ⟨h12.t, h12.n, h12.n⟩) fun v13 h14 =>
 cD ((pureB h12 h14 || sameA h12 h14 a4 (vcells v4).length) && true) (
 wroteS h12.low h14 fun h15 =>
 nilS v4 fun v16 =>
 addrS 2 v16 fun v17 =>
 storeC v17 v13 h15 fun h18 =>
 loadN 2 v0 h18 fun v19 =>
 loadN 2 v2 h18 fun v20 =>
 bindS (vh h18 (eqOp .eql (cmpV [(0, .int .u8), (1, .int .i64)] v19 v20))) fun v21 h22 =>
 guardS v21 true (intS .eql a2 (.int .i64 0) fun v23 =>
 some (v23, h22)) h22 fun v24 h25 =>
 optS (pickV v21 v24 (.bool false)) fun v26 =>
 guardS v26 true (intS .eql a3 (.int .i64 0) fun v27 =>
 some (v27, h25)) h25 fun v28 h29 =>
 optS (pickV v26 v28 (.bool false)) fun v30 =>
 some (v30, h29)) none
def B34 (ih : II) (a0 : V) (h : Hp) : VH :=
 intS .lss a0 (.int .i64 1) fun v0 =>
 guardS v0 false (intS .gtr a0 (.int .i64 16777216) fun v1 =>
 some (v1, h)) h fun v2 h3 =>
 optS (pickV v0 (.bool true) v2) fun v4 =>
 ifS v4 (
 some (.tuple [.nilPtr, (.int .i64 2)], h3)) (
 bindS (bldStruct h3 [(0, a0)] (.agg [(.int .i64 0), .nilSlice, (.int .i64 0), (.bool false)]) (some [(0, 1), (1, 1), (2, 1), (3, 1)])) fun v5 h6 =>
 newS 102 (vcells v5) h6 fun v7 h8 =>
 some (.tuple [v7, (.int .i64 0)], h8))
def B32 (ih : II) (a0 : V) (h : Hp) : VH :=
 intS .lss a0 (.int .i64 1) fun v0 =>
 guardS v0 false (intS .gtr a0 (.int .i64 16777216) fun v1 =>
 some (v1, h)) h fun v2 h3 =>
 optS (pickV v0 (.bool true) v2) fun v4 =>
 ifS v4 (
 some (.tuple [.nilPtr, (.int .i64 2)], h3)) (
 bindS (ih 100 [a0] h3) fun v5 h6 =>
 extS 0 v5 fun v7 =>
 extS 1 v5 fun v8 =>
 intS .neq v8 (.int .i64 0) fun v9 =>
 ifS v9 (
 some (.tuple [.nilPtr, v8], h6)) (
 bindS (bldStruct (((h6.new (.map [])).new (.map [])).new (.map [])) [(0, a0), (1, v7), (2, (.map h6.n)), (3, (.map (h6.new (.map [])).n)), (6, (.map ((h6.new (.map [])).new (.map [])).n))] (.agg [(.int .i64 0), .nilPtr, .nilMap, .nilMap, (.int .i64 0), (.bool false), .nilMap]) (some [(0, 1), (1, 1), (2, 1), (3, 1), (4, 1), (5, 1), (6, 1)])) fun v10 h11 =>
 newS 99 (vcells v10) h11 fun v12 h13 =>
 some (.tuple [v12, (.int .i64 0)], h13)))
def B144 (ih : II) (a0 : V) (h : Hp) : VH :=
 eqS (.pointer 124) .neq a0 .nilPtr fun v0 =>
 guardS v0 true (nilS a0 fun v1 =>
 addrS 1 v1 fun v2 =>
 load1 v2 h fun v3 =>
 eqS (.map 31 3) .neq v3 .nilMap fun v4 =>
 some (v4, h)) h fun v5 h6 =>
 optS (pickV v0 v5 (.bool false)) fun v7 =>
 some (v7, h6)
def B142 (ih : II) (a0 a1 : V) (h : Hp) : VH :=
 newS 31 (vcells a1) h fun v0 h1 =>
 bindS (ih 102 [a0] h1) fun v2 h3 =>
 notS v2 fun v4 =>
 guardS v4 false (loadN 2 v0 h3 fun v5 =>
 bindS (ih 172 [v5] h3) fun v6 h7 =>
 notS v6 fun v8 =>
 some (v8, h7)) h3 fun v9 h10 =>
 optS (pickV v4 (.bool true) v9) fun v11 =>
 ifS v11 (
 some (.nilPtr, h10)) (
 nilS a0 fun v12 =>
 addrS 2 v12 fun v13 =>
 load1 v13 h10 fun v14 =>
 addrS 1 v0 fun v15 =>
 load1 v15 h10 fun v16 =>
 bindS (lookS (.int .i64) (some .nilPtr) false v14 v16 h10) fun v17 h18 =>
 eqS (.pointer 76) .neq v17 .nilPtr fun v19 =>
 guardS v19 true (some (v17, h18)) h18 fun v20 _ =>
 guardS v19 true (nilS v20 fun v21 =>
 some (v21, h18)) h18 fun v22 _ =>
 guardS v19 true (addrS 0 v22 fun v23 =>
 some (v23, h18)) h18 fun v24 _ =>
 guardS v19 true (load1 v24 h18 fun v25 =>
 some (v25, h18)) h18 fun v26 _ =>
 guardS v19 true (addrS 0 v0 fun v27 =>
 some (v27, h18)) h18 fun v28 _ =>
 guardS v19 true (load1 v28 h18 fun v29 =>
 some (v29, h18)) h18 fun v30 _ =>
 guardS v19 true (intS .eql v26 v30 fun v31 =>
 some (v31, h18)) h18 fun v32 h33 =>
 optS (pickV v19 v32 (.bool false)) fun v34 =>
 ifS v34 (
 some (v17, h33)) (
 some (.nilPtr, h33)))
def B152 (ih : II) (a0 a1 a2 : V) (h : Hp) : VH :=
 newS 44 [(.int .u8 0), (.int .u8 0), (.int .i64 0), (.int .u8 0), (.int .i64 0), .nilSlice, (.int .u8 0)] h fun v0 h1 =>
 bindS (ih 44 [a0, a2] h1) fun v2 h3 =>
 extS 0 v2 fun v4 =>
 extS 1 v2 fun v5 =>
 newS 31 [(.int .u8 0), (.int .i64 0)] h3 fun v6 h7 =>
 storeN 2 v6 v4 h7 fun h8 =>
 intS .neq v5 (.int .i64 0) fun v9 =>
 ifS v9 (
 bindS (bldStruct h8 [(0, (.int .u8 4))] (.agg [(.int .u8 0), (.int .u8 0), (.int .i64 0), (.int .u8 0), (.int .i64 0), .nilSlice, (.int .u8 0)]) (some [(0, 1), (1, 2), (3, 2), (5, 1), (6, 1)])) fun v10 h11 =>
 storeN 7 v0 v10 h11 fun h12 =>
 loadN 7 v0 h12 fun v13 =>
 some (v13, h12)) (
 loadN 2 v6 h8 fun v14 =>
 bindS (bldStruct h8 [(0, a1), (1, v14)] (.agg [(.int .u8 0), (.int .u8 0), (.int .i64 0), (.int .u8 0), (.int .i64 0), .nilSlice, (.int .u8 0)]) (some [(0, 1), (1, 2), (3, 2), (5, 1), (6, 1)])) fun v15 h16 =>
 storeN 7 v0 v15 h16 fun h17 =>
 loadN 7 v0 h17 fun v18 =>
 some (v18, h17))
def B150 (ih : II) (a0 a1 : V) (h : Hp) : VH :=
 newS 31 (vcells a1) h fun v0 h1 =>
 loadN 2 v0 h1 fun v2 =>
 bindS (ih 142 [a0, v2] h1) fun v3 h4 =>
 eqS (.pointer 76) .neq v3 .nilPtr fun v5 =>
 some (v5, h4)
def B148 (ih : II) (a0 a1 a2 a3 : V) (h : Hp) : VH :=
 newS 31 (vcells a0) h fun v0 h1 =>
 newS 31 [(.int .u8 0), (.int .i64 0)] h1 fun v2 h3 =>
 load1 a1 h3 fun v4 =>
 loadN 2 v0 h3 fun v5 =>
 bindS (ih 16 [v4, v5] h3) fun v6 h7 =>
 newS 31 [(.int .u8 0), (.int .i64 0)] h7 fun v8 h9 =>
 storeN 2 v8 v6 h9 fun h10 =>
 load1 a2 h10 fun v11 =>
 guardS v11 true (addrS 0 v8 fun v12 =>
 load1 v12 h10 fun v13 =>
 intS .eql v13 (.int .u8 5) fun v14 =>
 some (v14, h10)) h10 fun v15 h16 =>
 optS (pickV v11 v15 (.bool false)) fun v17 =>
 ifS v17 (
 load1 a1 h16 fun v18 =>
 loadN 2 v8 h16 fun v19 =>
 loadN 2 a3 h16 fun v20 =>
 bindS (ih 18 [v18, v19, v20] h16) fun v21 h22 =>
 storeN 2 v2 v21 h22 fun h23 =>
 loadN 2 v2 h23 fun v24 =>
 some (v24, h23)) (
 bindS (bldStruct h16 [] (.agg [(.int .u8 0), (.int .i64 0)]) (some [(0, 1), (1, 1)])) fun v25 h26 =>
 storeN 2 v2 v25 h26 fun h27 =>
 loadN 2 v2 h27 fun v28 =>
 some (v28, h27))
def B146 (ih : II) (a0 a1 : V) (h : Hp) : VH :=
 newS 31 [(.int .u8 0), (.int .i64 0)] h fun v0 h1 =>
 bindS (ih 102 [a0] h1) fun v2 h3 =>
 notS v2 fun v4 =>
 ifS v4 (
 bindS (bldStruct h3 [] (.agg [(.int .u8 0), (.int .i64 0)]) (some [(0, 1), (1, 1)])) fun v5 h6 =>
 storeN 2 v0 v5 h6 fun h7 =>
 loadN 2 v0 h7 fun v8 =>
 some (.tuple [v8, (.bool false)], h7)) (
 nilS a0 fun v9 =>
 addrS 3 v9 fun v10 =>
 load1 v10 h3 fun v11 =>
 bindS (lookS .string (some (.int .i64 0)) true v11 a1 h3) fun v12 h13 =>
 extS 0 v12 fun v14 =>
 extS 1 v12 fun v15 =>
 notS v15 fun v16 =>
 ifS v16 (
 bindS (bldStruct h13 [] (.agg [(.int .u8 0), (.int .i64 0)]) (some [(0, 1), (1, 1)])) fun v17 h18 =>
 storeN 2 v0 v17 h18 fun h19 =>
 loadN 2 v0 h19 fun v20 =>
 some (.tuple [v20, (.bool false)], h19)) (
 bindS (bldStruct h13 [(0, (.int .u8 4)), (1, v14)] (.agg [(.int .u8 0), (.int .i64 0)]) (some [(0, 1), (1, 1)])) fun v21 h22 =>
 storeN 2 v0 v21 h22 fun h23 =>
 loadN 2 v0 h23 fun v24 =>
 some (.tuple [v24, (.bool true)], h23)))
def B140 (ih : II) (a0 a1 a2 : V) (h : Hp) : VH :=
 newS 31 (vcells a1) h fun v0 h1 =>
 newS 31 (vcells a2) h1 fun v2 h3 =>
 loadN 2 v0 h3 fun v4 =>
 bindS (ih 132 [v4] h3) fun v5 h6 =>
 notS v5 fun v7 =>
 guardS v7 false (loadN 2 v2 h6 fun v8 =>
 bindS (ih 188 [v8] h6) fun v9 h10 =>
 notS v9 fun v11 =>
 some (v11, h10)) h6 fun v12 h13 =>
 optS (pickV v7 (.bool true) v12) fun v14 =>
 ifS v14 (
 some ((.int .i64 150), h13)) (
 loadN 2 v0 h13 fun v15 =>
 bindS (ih 192 [a0, v15] h13) fun v16 h17 =>
 intS .geq v16 (.int .i64 0) fun v18 =>
 ifS v18 (
 nilS a0 fun v19 =>
 addrS 0 v19 fun v20 =>
 load1 v20 h17 fun v21 =>
 loadN 2 v2 h17 fun v22 =>
 idxS 4 v21 v16 fun v23 =>
 addrS 2 v23 fun v24 =>
 storeN 2 v24 v22 h17 fun h25 =>
 some ((.int .i64 0), h25)) (
 addrS 0 v2 fun v26 =>
 load1 v26 h17 fun v27 =>
 intS .eql v27 (.int .u8 0) fun v28 =>
 ifS v28 (
 some ((.int .i64 0), h17)) (
 ih 35 [a0, v0, v2, .nilSlice, (.int .i64 0)] h17)))
def B35 (ih : II) (a0 a4 a5 a8 a9 : V) (h : Hp) : VH :=
 nilS a0 fun v29 =>
 addrS 0 v29 fun v30 =>
 load1 v30 h fun v31 =>
 bindS (lenSl v31 fun v => some (v, h)) fun v32 h33 =>
 intS .lss a9 v32 fun v34 =>
 ifS v34 (
 nilS a0 fun v35 =>
 addrS 0 v35 fun v36 =>
 load1 v36 h33 fun v37 =>
 idxS 4 v37 a9 fun v38 =>
 addrS 2 v38 fun v39 =>
 addrS 0 v39 fun v40 =>
 load1 v40 h33 fun v41 =>
 intS .neq v41 (.int .u8 0) fun v42 =>
 ifS v42 (
 nilS a0 fun v43 =>
 addrS 0 v43 fun v44 =>
 load1 v44 h33 fun v45 =>
 idxS 4 v45 a9 fun v46 =>
 loadN 4 v46 h33 fun v47 =>
 bindS (bldSl h33 [(0, v47)] 152 1 4 (.agg [(.int .u8 0), (.int .i64 0), (.int .u8 0), (.int .i64 0)])) fun v48 h49 =>
 bindS (appS 152 32 4 a8 v48 h49) fun v50 h51 =>
 ih 37 [a0, a4, a5, v50, a9] h51) (
 ih 37 [a0, a4, a5, a8, a9] h33)) (
 bindS (lenSl a8 fun v => some (v, h33)) fun v52 h53 =>
 intS .geq v52 (.int .i64 65536) fun v54 =>
 ifS v54 (
 some ((.int .i64 5), h53)) (
 loadN 2 a4 h53 fun v55 =>
 loadN 2 a5 h53 fun v56 =>
 bindS (bldStruct h53 [(0, v55), (1, v56)] (.agg [(.int .u8 0), (.int .i64 0), (.int .u8 0), (.int .i64 0)]) (some [(0, 2), (2, 2)])) fun v57 h58 =>
 bindS (bldSl h58 [(0, v57)] 152 1 4 (.agg [(.int .u8 0), (.int .i64 0), (.int .u8 0), (.int .i64 0)])) fun v59 h60 =>
 bindS (appS 152 32 4 a8 v59 h60) fun v61 h62 =>
 nilS a0 fun v63 =>
 addrS 0 v63 fun v64 =>
 storeC v64 v61 h62 fun h65 =>
 some ((.int .i64 0), h65)))
def B37 (ih : II) (a0 a4 a5 a8 a9 : V) (h : Hp) : VH :=
 intS .add a9 (.int .i64 1) fun v66 =>
 ih 35 [a0, a4, a5, a8, v66] h
def B138 (ih : II) (a0 : V) (h : Hp) : VH :=
 ih 39 [a0, (.int .i64 0), (.int .i64 0)] h
def B39 (ih : II) (a0 a3 a4 : V) (h : Hp) : VH :=
 nilS a0 fun v0 =>
 addrS 1 v0 fun v1 =>
 load1 v1 h fun v2 =>
 bindS (lenSl v2 fun v => some (v, h)) fun v3 h4 =>
 intS .lss a4 v3 fun v5 =>
 ifS v5 (
 nilS a0 fun v6 =>
 addrS 1 v6 fun v7 =>
 load1 v7 h4 fun v8 =>
 idxS 1 v8 a4 fun v9 =>
 load1 v9 h4 fun v10 =>
 bindS (ih 168 [v10] h4) fun v11 h12 =>
 intS .add a3 v11 fun v13 =>
 intS .add a4 (.int .i64 1) fun v14 =>
 ih 39 [a0, v13, v14] h12) (
 some (a3, h4))
def B136 (ih : II) (a0 a1 : V) (h : Hp) : VH :=
 newS 31 (vcells a1) h fun v0 h1 =>
 newS 31 [(.int .u8 0), (.int .i64 0)] h1 fun v2 h3 =>
 loadN 2 v0 h3 fun v4 =>
 bindS (ih 192 [a0, v4] h3) fun v5 h6 =>
 intS .lss v5 (.int .i64 0) fun v7 =>
 ifS v7 (
 bindS (bldStruct h6 [] (.agg [(.int .u8 0), (.int .i64 0)]) (some [(0, 1), (1, 1)])) fun v8 h9 =>
 storeN 2 v2 v8 h9 fun h10 =>
 loadN 2 v2 h10 fun v11 =>
 some (v11, h10)) (
 nilS a0 fun v12 =>
 addrS 0 v12 fun v13 =>
 load1 v13 h6 fun v14 =>
 idxS 4 v14 v5 fun v15 =>
 addrS 2 v15 fun v16 =>
 loadN 2 v16 h6 fun v17 =>
 storeN 2 v2 v17 h6 fun h18 =>
 loadN 2 v2 h18 fun v19 =>
 some (v19, h18))
def B134 (ih : II) (a0 a1 : V) (h : Hp) : VH :=
 newS 31 (vcells a1) h fun v0 h1 =>
 loadN 2 v0 h1 fun v2 =>
 bindS (ih 188 [v2] h1) fun v3 h4 =>
 guardS v3 true (loadN 2 v0 h4 fun v5 =>
 bindS (ih 190 [v5] h4) fun v6 h7 =>
 notS v6 fun v8 =>
 some (v8, h7)) h4 fun v9 h10 =>
 guardS v9 false (loadN 2 v0 h10 fun v11 =>
 bindS (ih 118 [a0, v11] h10) fun v12 h13 =>
 eqS (.pointer 112) .neq v12 .nilPtr fun v14 =>
 some (v14, h13)) h10 fun v15 h16 =>
 guardS v3 true (optS (pickV v9 (.bool true) v15) fun v17 =>
 some (v17, h16)) h16 fun v18 h19 =>
 optS (pickV v3 v18 (.bool false)) fun v20 =>
 some (v20, h19)
def B132 (ih : II) (a0 : V) (h : Hp) : VH :=
 newS 31 (vcells a0) h fun v0 h1 =>
 addrS 0 v0 fun v2 =>
 load1 v2 h1 fun v3 =>
 intS .geq v3 (.int .u8 1) fun v4 =>
 guardS v4 true (addrS 0 v0 fun v5 =>
 load1 v5 h1 fun v6 =>
 intS .leq v6 (.int .u8 8) fun v7 =>
 some (v7, h1)) h1 fun v8 h9 =>
 optS (pickV v4 v8 (.bool false)) fun v10 =>
 guardS v10 true (loadN 2 v0 h9 fun v11 =>
 bindS (ih 186 [v11] h9) fun v12 h13 =>
 some (v12, h13)) h9 fun v14 h15 =>
 optS (pickV v10 v14 (.bool false)) fun v16 =>
 some (v16, h15)
def B120 (ih : II) (a0 a1 : V) (h : Hp) : VH :=
 newS 31 (vcells a1) h fun v0 h1 =>
 loadN 2 v0 h1 fun v2 =>
 bindS (ih 118 [a0, v2] h1) fun v3 h4 =>
 addrS 0 v0 fun v5 =>
 load1 v5 h4 fun v6 =>
 intS .neq v6 (.int .u8 5) fun v7 =>
 ifS v7 (
 some (.nilPtr, h4)) (
 some (v3, h4))
def B110 (ih : II) (a0 a1 : V) (h : Hp) : VH :=
 nilS a0 fun v0 =>
 addrS 5 v0 fun v1 =>
 load1 v1 h fun v2 =>
 ifS v2 (
 nilS a0 fun v3 =>
 addrS 6 v3 fun v4 =>
 load1 v4 h fun v5 =>
 bindS (updS (.int .i64) v5 a1 (.bool true) h) fun v6 h7 =>
 some (.tuple [], h7)) (
 some (.tuple [], h))
def B128 (ih : II) (a0 a1 a2 : V) (h : Hp) : VH :=
 bindS (ih 174 [a0] h) fun v0 h1 =>
 ifS v0 (
 some ((.int .i64 1), h1)) (
 bindS (ih 184 [a0, a1] h1) fun v2 h3 =>
 notS v2 fun v4 =>
 guardS v4 false (intS .lss a2 (.int .i64 0) fun v5 =>
 some (v5, h3)) h3 fun v6 h7 =>
 optS (pickV v4 (.bool true) v6) fun v8 =>
 ifS v8 (
 some ((.int .i64 2), h7)) (
 nilS a0 fun v9 =>
 addrS 1 v9 fun v10 =>
 load1 v10 h7 fun v11 =>
 nilS a0 fun v12 =>
 addrS 2 v12 fun v13 =>
 load1 v13 h7 fun v14 =>
 intS .sub v11 v14 fun v15 =>
 nilS a0 fun v16 =>
 addrS 4 v16 fun v17 =>
 load1 v17 h7 fun v18 =>
 intS .sub a1 (.int .i64 1) fun v19 =>
 idxS 1 v18 v19 fun v20 =>
 load1 v20 h7 fun v21 =>
 intS .add v15 v21 fun v22 =>
 intS .gtr a2 v22 fun v23 =>
 ifS v23 (
 some ((.int .i64 5), h7)) (
 nilS a0 fun v24 =>
 addrS 2 v24 fun v25 =>
 load1 v25 h7 fun v26 =>
 nilS a0 fun v27 =>
 addrS 4 v27 fun v28 =>
 load1 v28 h7 fun v29 =>
 intS .sub a1 (.int .i64 1) fun v30 =>
 idxS 1 v29 v30 fun v31 =>
 load1 v31 h7 fun v32 =>
 intS .sub a2 v32 fun v33 =>
 intS .add v26 v33 fun v34 =>
 nilS a0 fun v35 =>
 addrS 2 v35 fun v36 =>
 storeC v36 v34 h7 fun h37 =>
 nilS a0 fun v38 =>
 addrS 4 v38 fun v39 =>
 load1 v39 h37 fun v40 =>
 intS .sub a1 (.int .i64 1) fun v41 =>
 idxS 1 v40 v41 fun v42 =>
 storeC v42 a2 h37 fun h43 =>
 some ((.int .i64 0), h43))))
def B130 (ih : II) (a0 : V) (h : Hp) : VH :=
 bindS (ih 144 [a0] h) fun v0 h1 =>
 notS v0 fun v2 =>
 ifS v2 (
 some ((.int .i64 0), h1)) (
 nilS a0 fun v3 =>
 addrS 0 v3 fun v4 =>
 load1 v4 h1 fun v5 =>
 bindS (lenSl v5 fun v => some (v, h1)) fun v6 h7 =>
 ih 41 [(.int .i64 0), v5, v6, (.int .i64 0)] h7)
def B41 (ih : II) (a3 a12 a13 a14 : V) (h : Hp) : VH :=
 intS .lss a14 a13 fun v8 =>
 ifS v8 (
 idxS 4 a12 a14 fun v9 =>
 loadN 4 v9 h fun v10 =>
 newS 126 [(.int .u8 0), (.int .i64 0), (.int .u8 0), (.int .i64 0)] h fun v11 h12 =>
 storeN 4 v11 v10 h12 fun h13 =>
 loadN 4 v11 h13 fun v14 =>
 bindS (ih 180 [v14] h13) fun v15 h16 =>
 notS v15 fun v17 =>
 ifS v17 (
 intS .add a3 (.int .i64 1) fun v18 =>
 ih 43 [v18, a12, a13, a14] h16) (
 ih 43 [a3, a12, a13, a14] h16)) (
 some (a3, h))
def B43 (ih : II) (a3 a12 a13 a14 : V) (h : Hp) : VH :=
 intS .add a14 (.int .i64 1) fun v19 =>
 ih 41 [a3, a12, a13, v19] h
def B126 (ih : II) (a0 a1 a2 : V) (h : Hp) : VH :=
 newS 31 (vcells a1) h fun v0 h1 =>
 newS 31 (vcells a2) h1 fun v2 h3 =>
 bindS (ih 144 [a0] h3) fun v4 h5 =>
 notS v4 fun v6 =>
 ifS v6 (
 some ((.int .i64 1), h5)) (
 addrS 0 v0 fun v7 =>
 load1 v7 h5 fun v8 =>
 intS .lss v8 (.int .u8 1) fun v9 =>
 guardS v9 false (addrS 0 v0 fun v10 =>
 load1 v10 h5 fun v11 =>
 intS .gtr v11 (.int .u8 8) fun v12 =>
 some (v12, h5)) h5 fun v13 h14 =>
 optS (pickV v9 (.bool true) v13) fun v15 =>
 guardS v15 false (addrS 0 v2 fun v16 =>
 load1 v16 h14 fun v17 =>
 intS .gtr v17 (.int .u8 8) fun v18 =>
 some (v18, h14)) h14 fun v19 h20 =>
 optS (pickV v15 (.bool true) v19) fun v21 =>
 guardS v21 false (loadN 2 v0 h20 fun v22 =>
 bindS (ih 176 [v22] h20) fun v23 h24 =>
 notS v23 fun v25 =>
 some (v25, h24)) h20 fun v26 h27 =>
 optS (pickV v21 (.bool true) v26) fun v28 =>
 guardS v28 false (loadN 2 v2 h27 fun v29 =>
 bindS (ih 176 [v29] h27) fun v30 h31 =>
 notS v30 fun v32 =>
 some (v32, h31)) h27 fun v33 h34 =>
 optS (pickV v28 (.bool true) v33) fun v35 =>
 ifS v35 (
 some ((.int .i64 150), h34)) (
 nilS a0 fun v36 =>
 addrS 1 v36 fun v37 =>
 load1 v37 h34 fun v38 =>
 loadN 2 v0 h34 fun v39 =>
 bindS (vh h34 (kLook h34 (.struct [(0, .int .u8), (1, .int .i64)]) (some (.int .i64 0)) true v38 v39)) fun v40 h41 =>
 extS 0 v40 fun v42 =>
 extS 1 v40 fun v43 =>
 ifS v43 (
 nilS a0 fun v44 =>
 addrS 0 v44 fun v45 =>
 load1 v45 h34 fun v46 =>
 loadN 2 v2 h34 fun v47 =>
 idxS 4 v46 v42 fun v48 =>
 addrS 2 v48 fun v49 =>
 storeN 2 v49 v47 h34 fun h50 =>
 some ((.int .i64 0), h50)) (
 addrS 0 v2 fun v51 =>
 load1 v51 h34 fun v52 =>
 intS .eql v52 (.int .u8 0) fun v53 =>
 ifS v53 (
 some ((.int .i64 0), h34)) (
 bindS (ih 130 [a0] h34) fun v54 h55 =>
 intS .geq v54 (.int .i64 65536) fun v56 =>
 ifS v56 (
 some ((.int .i64 5), h55)) (
 nilS a0 fun v57 =>
 addrS 0 v57 fun v58 =>
 load1 v58 h55 fun v59 =>
 bindS (ih 178 [v59, (.func 90 [] [])] h55) fun v60 h61 =>
 ifS v60 (
 nilS a0 fun v62 =>
 addrS 0 v62 fun v63 =>
 load1 v63 h61 fun v64 =>
 bindS (ih 182 [v64, (.func 90 [] [])] h61) fun v65 h66 =>
 nilS a0 fun v67 =>
 addrS 0 v67 fun v68 =>
 storeC v68 v65 h66 fun h69 =>
 nilS a0 fun v70 =>
 addrS 1 v70 fun v71 =>
 load1 v71 h69 fun v72 =>
 bindS (kClear h69 v72) fun v73 h74 =>
 nilS a0 fun v75 =>
 addrS 0 v75 fun v76 =>
 load1 v76 h74 fun v77 =>
 bindS (lenSl v77 fun v => some (v, h74)) fun v78 h79 =>
 ih 47 [a0, v0, v2, v77, v78, (.int .i64 0)] h79) (
 ih 45 [a0, v0, v2] h61))))))
def B45 (ih : II) (a0 a4 a5 : V) (h : Hp) : VH :=
 nilS a0 fun v80 =>
 addrS 1 v80 fun v81 =>
 load1 v81 h fun v82 =>
 loadN 2 a4 h fun v83 =>
 nilS a0 fun v84 =>
 addrS 0 v84 fun v85 =>
 load1 v85 h fun v86 =>
 bindS (lenSl v86 fun v => some (v, h)) fun v87 h88 =>
 bindS (kSet (.struct [(0, .int .u8), (1, .int .i64)]) h v82 v83 v87) fun v89 h90 =>
 nilS a0 fun v91 =>
 addrS 0 v91 fun v92 =>
 load1 v92 h90 fun v93 =>
 loadN 2 a4 h90 fun v94 =>
 loadN 2 a5 h90 fun v95 =>
 bindS (bldStruct h90 [(0, v94), (1, v95)] (.agg [(.int .u8 0), (.int .i64 0), (.int .u8 0), (.int .i64 0)]) (some [(0, 2), (2, 2)])) fun v96 h97 =>
 bindS (bldSl ⟨h90.t, h90.n, h90.n⟩ [(0, v96)] 126 1 4 (.agg [(.int .u8 0), (.int .i64 0), (.int .u8 0), (.int .i64 0)])) fun v98 h99 =>
 madeS h90.n h90.low h99 fun h100 =>
 bindS (appS 126 32 4 v93 v98 ⟨h100.t, h100.n, h100.n⟩) fun v101 h102 =>
 wroteS h100.low h102 fun h103 =>
 nilS a0 fun v104 =>
 addrS 0 v104 fun v105 =>
 storeC v105 v101 h103 fun h106 =>
 some ((.int .i64 0), h106)
def B47 (ih : II) (a0 a4 a5 a83 a84 a85 : V) (h : Hp) : VH :=
 intS .lss a85 a84 fun v107 =>
 ifS v107 (
 idxS 4 a83 a85 fun v108 =>
 loadN 4 v108 h fun v109 =>
 newS 126 [(.int .u8 0), (.int .i64 0), (.int .u8 0), (.int .i64 0)] h fun v110 h111 =>
 storeN 4 v110 v109 h111 fun h112 =>
 nilS a0 fun v113 =>
 addrS 1 v113 fun v114 =>
 load1 v114 h112 fun v115 =>
 addrS 0 v110 fun v116 =>
 loadN 2 v116 h112 fun v117 =>
 bindS (kSet (.struct [(0, .int .u8), (1, .int .i64)]) h112 v115 v117 a85) fun v118 h119 =>
 intS .add a85 (.int .i64 1) fun v120 =>
 ih 47 [a0, a4, a5, a83, a84, v120] h119) (
 ih 45 [a0, a4, a5] h)
def B124 (ih : II) (a0 : V) (h : Hp) : VH :=
 bindS (ih 174 [a0] h) fun v0 h1 =>
 ifS v0 (
 some ((.int .i64 0), h1)) (
 nilS a0 fun v2 =>
 addrS 2 v2 fun v3 =>
 load1 v3 h1 fun v4 =>
 some (v4, h1))
def B122 (ih : II) (a0 a1 : V) (h : Hp) : VH :=
 newS 31 (vcells a1) h fun v0 h1 =>
 addrS 0 v0 fun v2 =>
 load1 v2 h1 fun v3 =>
 intS .gtr v3 (.int .u8 8) fun v4 =>
 guardS v4 false (addrS 0 v0 fun v5 =>
 load1 v5 h1 fun v6 =>
 intS .leq v6 (.int .u8 2) fun v7 =>
 some (v7, h1)) h1 fun v8 h9 =>
 guardS v8 true (addrS 1 v0 fun v10 =>
 load1 v10 h9 fun v11 =>
 intS .neq v11 (.int .i64 0) fun v12 =>
 some (v12, h9)) h9 fun v13 h14 =>
 guardS v4 false (optS (pickV v8 v13 (.bool false)) fun v15 =>
 some (v15, h14)) h14 fun v16 h17 =>
 optS (pickV v4 (.bool true) v16) fun v18 =>
 ifS v18 (
 some ((.bool false), h17)) (
 loadN 2 v0 h17 fun v19 =>
 bindS (ih 172 [v19] h17) fun v20 h21 =>
 ifS v20 (
 loadN 2 v0 h21 fun v22 =>
 bindS (ih 142 [a0, v22] h21) fun v23 h24 =>
 eqS (.pointer 76) .neq v23 .nilPtr fun v25 =>
 some (v25, h24)) (
 some ((.bool true), h21)))
def B102 (ih : II) (a0 : V) (h : Hp) : VH :=
 eqS (.pointer 99) .neq a0 .nilPtr fun v0 =>
 guardS v0 true (nilS a0 fun v1 =>
 addrS 2 v1 fun v2 =>
 load1 v2 h fun v3 =>
 eqS (.map 3 71) .neq v3 .nilMap fun v4 =>
 some (v4, h)) h fun v5 h6 =>
 optS (pickV v0 v5 (.bool false)) fun v7 =>
 some (v7, h6)
def B108 (ih : II) (a0 a1 a2 : V) (h : Hp) : VH :=
 newS 31 [(.int .u8 0), (.int .i64 0)] h fun v0 h1 =>
 bindS (bldStruct h1 [(0, a1), (1, (.int .i64 1))] (.agg [(.int .u8 0), (.int .i64 0)]) (some [(0, 1), (1, 1)])) fun v2 h3 =>
 nilS a2 fun v4 =>
 addrS 0 v4 fun v5 =>
 storeN 2 v5 v2 h3 fun h6 =>
 nilS a0 fun v7 =>
 addrS 1 v7 fun v8 =>
 load1 v8 h6 fun v9 =>
 bindS (lenSl v9 fun v => some (v, h6)) fun v10 h11 =>
 intS .geq v10 (.int .i64 65536) fun v12 =>
 guardS v12 false (some (a0, h6)) h6 fun v13 _ =>
 guardB v12 false (
 bindS (ih 138 [v13] ⟨h6.t, h6.n, h6.n⟩) fun v14 h15 =>
 wroteS h6.low h15 fun h16 =>
 guardS v12 false (some (a2, h6)) h6 fun v17 _ =>
 guardB v12 false (
 bindS (ih 168 [v17] ⟨h16.t, h16.n, h16.n⟩) fun v18 h19 =>
 wroteS h16.low h19 fun h20 =>
 guardS v12 false (intS .add v14 v18 fun v21 =>
 some (v21, h20)) h20 fun v22 _ =>
 guardS v12 false (some (a0, h6)) h6 fun v23 _ =>
 guardS v12 false (nilS v23 fun v24 =>
 some (v24, h6)) h6 fun v25 _ =>
 guardS v12 false (addrS 0 v25 fun v26 =>
 some (v26, h6)) h6 fun v27 _ =>
 guardB v12 false (
 load1 v27 h6 fun v28 =>
 cD (((pureB h16 h19) || sameA h16 h20 v27 (vcells v28).length) && (((pureB h6 h15) || sameA h6 h16 v27 (vcells v28).length) && true)) (
 guardS v12 false (intS .gtr v22 v28 fun v29 =>
 some (v29, h20)) h20 fun v30 h31 =>
 optS (pickV v12 (.bool true) v30) fun v32 =>
 ifS v32 (
 bindS (bldStruct h31 [] (.agg [(.int .u8 0), (.int .i64 0)]) (some [(0, 1), (1, 1)])) fun v33 h34 =>
 storeN 2 v0 v33 h34 fun h35 =>
 loadN 2 v0 h35 fun v36 =>
 some (.tuple [v36, (.int .i64 152)], h35)) (
 ih 49 [a0, a1, a2, v0, (.int .i64 0)] h31)) none) (
 guardS v12 false (intS .gtr v22 undefV fun v37 =>
 some (v37, h20)) h20 fun v38 h39 =>
 optS (pickV v12 (.bool true) v38) fun v40 =>
 ifS v40 (
 bindS (bldStruct h39 [] (.agg [(.int .u8 0), (.int .i64 0)]) (some [(0, 1), (1, 1)])) fun v41 h42 =>
 storeN 2 v0 v41 h42 fun h43 =>
 loadN 2 v0 h43 fun v44 =>
 some (.tuple [v44, (.int .i64 152)], h43)) (
 ih 49 [a0, a1, a2, v0, (.int .i64 0)] h39))) (
 guardS v12 false (intS .add v14 undefV fun v45 =>
 some (v45, h16)) h16 fun v46 _ =>
 guardS v12 false (some (a0, h6)) h6 fun v47 _ =>
 guardS v12 false (nilS v47 fun v48 =>
 some (v48, h6)) h6 fun v49 _ =>
 guardS v12 false (addrS 0 v49 fun v50 =>
 some (v50, h6)) h6 fun v51 _ =>
 guardB v12 false (
 load1 v51 h6 fun v52 =>
 cD (((pureB h6 h15) || sameA h6 h16 v51 (vcells v52).length) && true) (
 guardS v12 false (intS .gtr v46 v52 fun v53 =>
 some (v53, h16)) h16 fun v54 h55 =>
 optS (pickV v12 (.bool true) v54) fun v56 =>
 ifS v56 (
 bindS (bldStruct h55 [] (.agg [(.int .u8 0), (.int .i64 0)]) (some [(0, 1), (1, 1)])) fun v57 h58 =>
 storeN 2 v0 v57 h58 fun h59 =>
 loadN 2 v0 h59 fun v60 =>
 some (.tuple [v60, (.int .i64 152)], h59)) (
 ih 49 [a0, a1, a2, v0, (.int .i64 0)] h55)) none) (
 guardS v12 false (intS .gtr v46 undefV fun v61 =>
 some (v61, h16)) h16 fun v62 h63 =>
 optS (pickV v12 (.bool true) v62) fun v64 =>
 ifS v64 (
 bindS (bldStruct h63 [] (.agg [(.int .u8 0), (.int .i64 0)]) (some [(0, 1), (1, 1)])) fun v65 h66 =>
 storeN 2 v0 v65 h66 fun h67 =>
 loadN 2 v0 h67 fun v68 =>
 some (.tuple [v68, (.int .i64 152)], h67)) (
 ih 49 [a0, a1, a2, v0, (.int .i64 0)] h63)))) (
 guardS v12 false (some (a2, h6)) h6 fun v69 _ =>
 guardB v12 false (
 bindS (ih 168 [v69] ⟨h6.t, h6.n, h6.n⟩) fun v70 h71 =>
 wroteS h6.low h71 fun h72 =>
 guardS v12 false (intS .add undefV v70 fun v73 =>
 some (v73, h72)) h72 fun v74 _ =>
 guardS v12 false (some (a0, h6)) h6 fun v75 _ =>
 guardS v12 false (nilS v75 fun v76 =>
 some (v76, h6)) h6 fun v77 _ =>
 guardS v12 false (addrS 0 v77 fun v78 =>
 some (v78, h6)) h6 fun v79 _ =>
 guardB v12 false (
 load1 v79 h6 fun v80 =>
 cD (((pureB h6 h71) || sameA h6 h72 v79 (vcells v80).length) && true) (
 guardS v12 false (intS .gtr v74 v80 fun v81 =>
 some (v81, h72)) h72 fun v82 h83 =>
 optS (pickV v12 (.bool true) v82) fun v84 =>
 ifS v84 (
 bindS (bldStruct h83 [] (.agg [(.int .u8 0), (.int .i64 0)]) (some [(0, 1), (1, 1)])) fun v85 h86 =>
 storeN 2 v0 v85 h86 fun h87 =>
 loadN 2 v0 h87 fun v88 =>
 some (.tuple [v88, (.int .i64 152)], h87)) (
 ih 49 [a0, a1, a2, v0, (.int .i64 0)] h83)) none) (
 guardS v12 false (intS .gtr v74 undefV fun v89 =>
 some (v89, h72)) h72 fun v90 h91 =>
 optS (pickV v12 (.bool true) v90) fun v92 =>
 ifS v92 (
 bindS (bldStruct h91 [] (.agg [(.int .u8 0), (.int .i64 0)]) (some [(0, 1), (1, 1)])) fun v93 h94 =>
 storeN 2 v0 v93 h94 fun h95 =>
 loadN 2 v0 h95 fun v96 =>
 some (.tuple [v96, (.int .i64 152)], h95)) (
 ih 49 [a0, a1, a2, v0, (.int .i64 0)] h91))) (
 guardS v12 false (intS .add undefV undefV fun v97 =>
 some (v97, h6)) h6 fun v98 _ =>
 guardS v12 false (some (a0, h6)) h6 fun v99 _ =>
 guardS v12 false (nilS v99 fun v100 =>
 some (v100, h6)) h6 fun v101 _ =>
 guardS v12 false (addrS 0 v101 fun v102 =>
 some (v102, h6)) h6 fun v103 _ =>
 guardS v12 false (load1 v103 h6 fun v104 =>
 some (v104, h6)) h6 fun v105 _ =>
 guardS v12 false (intS .gtr v98 v105 fun v106 =>
 some (v106, h6)) h6 fun v107 h108 =>
 optS (pickV v12 (.bool true) v107) fun v109 =>
 ifS v109 (
 bindS (bldStruct h108 [] (.agg [(.int .u8 0), (.int .i64 0)]) (some [(0, 1), (1, 1)])) fun v110 h111 =>
 storeN 2 v0 v110 h111 fun h112 =>
 loadN 2 v0 h112 fun v113 =>
 some (.tuple [v113, (.int .i64 152)], h112)) (
 ih 49 [a0, a1, a2, v0, (.int .i64 0)] h108)))
def B49 (ih : II) (a0 a1 a2 a6 a8 : V) (h : Hp) : VH :=
 nilS a0 fun v114 =>
 addrS 1 v114 fun v115 =>
 load1 v115 h fun v116 =>
 bindS (lenSl v116 fun v => some (v, h)) fun v117 h118 =>
 intS .lss a8 v117 fun v119 =>
 guardS v119 true (nilS a0 fun v120 =>
 addrS 1 v120 fun v121 =>
 load1 v121 h118 fun v122 =>
 idxS 1 v122 a8 fun v123 =>
 load1 v123 h118 fun v124 =>
 nilS v124 fun v125 =>
 addrS 0 v125 fun v126 =>
 addrS 1 v126 fun v127 =>
 load1 v127 h118 fun v128 =>
 intS .add a8 (.int .i64 1) fun v129 =>
 intS .eql v128 v129 fun v130 =>
 some (v130, h118)) h118 fun v131 h132 =>
 optS (pickV v119 v131 (.bool false)) fun v133 =>
 ifS v133 (
 intS .add a8 (.int .i64 1) fun v134 =>
 ih 49 [a0, a1, a2, a6, v134] h132) (
 intS .add a8 (.int .i64 1) fun v135 =>
 nilS a2 fun v136 =>
 addrS 0 v136 fun v137 =>
 addrS 1 v137 fun v138 =>
 storeC v138 v135 h132 fun h139 =>
 nilS a0 fun v140 =>
 addrS 3 v140 fun v141 =>
 load1 v141 h139 fun v142 =>
 nilS a2 fun v143 =>
 addrS 12 v143 fun v144 =>
 storeC v144 v142 h139 fun h145 =>
 intS .eql a1 (.int .u8 5) fun v146 =>
 guardS v146 false (intS .eql a1 (.int .u8 6) fun v147 =>
 some (v147, h145)) h145 fun v148 h149 =>
 optS (pickV v146 (.bool true) v148) fun v150 =>
 guardS v150 false (intS .eql a1 (.int .u8 8) fun v151 =>
 some (v151, h149)) h149 fun v152 h153 =>
 optS (pickV v150 (.bool true) v152) fun v154 =>
 ifS v154 (
 nilS a0 fun v155 =>
 addrS 2 v155 fun v156 =>
 load1 v156 h153 fun v157 =>
 intS .add v157 (.int .i64 1) fun v158 =>
 nilS a0 fun v159 =>
 addrS 2 v159 fun v160 =>
 storeC v160 v158 h153 fun h161 =>
 nilS a0 fun v162 =>
 addrS 2 v162 fun v163 =>
 load1 v163 h161 fun v164 =>
 nilS a2 fun v165 =>
 addrS 2 v165 fun v166 =>
 storeC v166 v164 h161 fun h167 =>
 ih 51 [a0, a2, a6, a8] h167) (
 ih 51 [a0, a2, a6, a8] h153))
def B51 (ih : II) (a0 a2 a6 a8 : V) (h : Hp) : VH :=
 nilS a0 fun v168 =>
 addrS 1 v168 fun v169 =>
 load1 v169 h fun v170 =>
 bindS (bldSl h [(0, a2)] 106 1 1 .nilPtr) fun v171 h172 =>
 bindS (appS 106 8 1 v170 v171 h172) fun v173 h174 =>
 nilS a0 fun v175 =>
 addrS 1 v175 fun v176 =>
 storeC v176 v173 h174 fun h177 =>
 nilS a0 fun v178 =>
 addrS 1 v178 fun v179 =>
 load1 v179 h177 fun v180 =>
 bindS (lenSl v180 fun v => some (v, h177)) fun v181 h182 =>
 intS .sub v181 (.int .i64 1) fun v183 =>
 ih 53 [a0, a2, a6, a8, v183] h182
def B53 (ih : II) (a0 a2 a6 a8 a9 : V) (h : Hp) : VH :=
 intS .gtr a9 a8 fun v184 =>
 ifS v184 (
 nilS a0 fun v185 =>
 addrS 1 v185 fun v186 =>
 load1 v186 h fun v187 =>
 nilS a0 fun v188 =>
 addrS 1 v188 fun v189 =>
 load1 v189 h fun v190 =>
 intS .sub a9 (.int .i64 1) fun v191 =>
 nilS a0 fun v192 =>
 addrS 1 v192 fun v193 =>
 load1 v193 h fun v194 =>
 intS .sub a9 (.int .i64 1) fun v195 =>
 idxS 1 v194 v195 fun v196 =>
 load1 v196 h fun v197 =>
 nilS a0 fun v198 =>
 addrS 1 v198 fun v199 =>
 load1 v199 h fun v200 =>
 idxS 1 v200 a9 fun v201 =>
 load1 v201 h fun v202 =>
 idxS 1 v187 a9 fun v203 =>
 ptrE v203 fun b204 o205 => storeB (storeO Tryz.prog h 106 b204 o205 v197) fun c206 =>
 idxS 1 v190 v191 fun v207 =>
 storeC v207 v202 (h.put b204 c206) fun h208 =>
 intS .sub a9 (.int .i64 1) fun v209 =>
 ih 53 [a0, a2, a6, a8, v209] h208) (
 nilS a2 fun v210 =>
 addrS 0 v210 fun v211 =>
 loadN 2 v211 h fun v212 =>
 storeN 2 a6 v212 h fun h213 =>
 loadN 2 a6 h213 fun v214 =>
 some (.tuple [v214, (.int .i64 0)], h213))
def B118 (ih : II) (a0 a1 : V) (h : Hp) : VH :=
 newS 31 (vcells a1) h fun v0 h1 =>
 ih 55 [a0, v0, (.int .i64 0)] h1
def B55 (ih : II) (a0 a3 a5 : V) (h : Hp) : VH :=
 nilS a0 fun v2 =>
 addrS 1 v2 fun v3 =>
 load1 v3 h fun v4 =>
 bindS (lenSl v4 fun v => some (v, h)) fun v5 h6 =>
 intS .lss a5 v5 fun v7 =>
 ifS v7 (
 nilS a0 fun v8 =>
 addrS 1 v8 fun v9 =>
 load1 v9 h6 fun v10 =>
 idxS 1 v10 a5 fun v11 =>
 load1 v11 h6 fun v12 =>
 nilS v12 fun v13 =>
 addrS 0 v13 fun v14 =>
 loadN 2 v14 h6 fun v15 =>
 loadN 2 a3 h6 fun v16 =>
 bindS (vh h6 (eqOp .eql (cmpV [(0, .int .u8), (1, .int .i64)] v15 v16))) fun v17 h18 =>
 ifS v17 (
 nilS a0 fun v19 =>
 addrS 1 v19 fun v20 =>
 load1 v20 h18 fun v21 =>
 idxS 1 v21 a5 fun v22 =>
 load1 v22 h18 fun v23 =>
 some (v23, h18)) (
 intS .add a5 (.int .i64 1) fun v24 =>
 ih 55 [a0, a3, v24] h18)) (
 some (.nilPtr, h6))
def B104 (ih : II) (a0 a1 a2 : V) (h : Hp) : VH :=
 newS 31 [(.int .u8 0), (.int .i64 0)] h fun v0 h1 =>
 nilS a0 fun v2 =>
 addrS 1 v2 fun v3 =>
 load1 v3 h1 fun v4 =>
 bindS (ih 124 [v4] ⟨h1.t, h1.n, h1.n⟩) fun v5 h6 =>
 wroteS h1.low h6 fun h7 =>
 intS .add v5 a2 fun v8 =>
 nilS a0 fun v9 =>
 addrS 0 v9 fun v10 =>
 load1 v10 h1 fun v11 =>
 cD (((pureB h1 h6) || sameA h1 h7 v10 (vcells v11).length) && true) (
 intS .gtr v8 v11 fun v12 =>
 ifS v12 (
 bindS (bldStruct h7 [] (.agg [(.int .u8 0), (.int .i64 0)]) (some [(0, 1), (1, 1)])) fun v13 h14 =>
 storeN 2 v0 v13 h14 fun h15 =>
 loadN 2 v0 h15 fun v16 =>
 some (.tuple [v16, (.int .i64 152)], h15)) (
 nilS a0 fun v17 =>
 addrS 1 v17 fun v18 =>
 load1 v18 h7 fun v19 =>
 bindS (ih 166 [v19, a2] h7) fun v20 h21 =>
 extS 0 v20 fun v22 =>
 extS 1 v20 fun v23 =>
 intS .neq v23 (.int .i64 0) fun v24 =>
 ifS v24 (
 bindS (bldStruct h21 [] (.agg [(.int .u8 0), (.int .i64 0)]) (some [(0, 1), (1, 1)])) fun v25 h26 =>
 storeN 2 v0 v25 h26 fun h27 =>
 loadN 2 v0 h27 fun v28 =>
 some (.tuple [v28, (.int .i64 152)], h27)) (
 nilS a1 fun v29 =>
 addrS 0 v29 fun v30 =>
 load1 v30 h21 fun v31 =>
 intS .eql v31 (.int .u8 5) fun v32 =>
 guardS v32 false (nilS a1 fun v33 =>
 addrS 0 v33 fun v34 =>
 load1 v34 h21 fun v35 =>
 intS .eql v35 (.int .u8 6) fun v36 =>
 some (v36, h21)) h21 fun v37 h38 =>
 optS (pickV v32 (.bool true) v37) fun v39 =>
 guardS v39 false (nilS a1 fun v40 =>
 addrS 0 v40 fun v41 =>
 load1 v41 h38 fun v42 =>
 intS .eql v42 (.int .u8 8) fun v43 =>
 some (v43, h38)) h38 fun v44 h45 =>
 optS (pickV v39 (.bool true) v44) fun v46 =>
 ifS v46 (
 nilS a0 fun v47 =>
 addrS 4 v47 fun v48 =>
 load1 v48 h45 fun v49 =>
 intS .add v49 (.int .i64 1) fun v50 =>
 nilS a0 fun v51 =>
 addrS 4 v51 fun v52 =>
 storeC v52 v50 h45 fun h53 =>
 nilS a0 fun v54 =>
 addrS 4 v54 fun v55 =>
 load1 v55 h53 fun v56 =>
 nilS a1 fun v57 =>
 addrS 1 v57 fun v58 =>
 storeC v58 v56 h53 fun h59 =>
 ih 57 [a0, a1, v0, v22] h59) (
 ih 57 [a0, a1, v0, v22] h45)))) none
def B57 (ih : II) (a0 a1 a6 a8 : V) (h : Hp) : VH :=
 nilS a0 fun v60 =>
 addrS 2 v60 fun v61 =>
 load1 v61 h fun v62 =>
 bindS (updS (.int .i64) v62 a8 a1 h) fun v63 h64 =>
 bindS (ih 110 [a0, a8] h64) fun v65 h66 =>
 nilS a1 fun v67 =>
 addrS 0 v67 fun v68 =>
 load1 v68 h66 fun v69 =>
 bindS (bldStruct h66 [(0, v69), (1, a8)] (.agg [(.int .u8 0), (.int .i64 0)]) (some [(0, 1), (1, 1)])) fun v70 h71 =>
 storeN 2 a6 v70 h71 fun h72 =>
 loadN 2 a6 h72 fun v73 =>
 some (.tuple [v73, (.int .i64 0)], h72)
def B116 (ih : II) (a0 : V) (h : Hp) : VH :=
 eqS (.slice 31) .eql a0 .nilSlice fun v0 =>
 ifS v0 (
 some (.nilSlice, h)) (
 bindS (bldSl h [] 31 0 2 (.agg [(.int .u8 0), (.int .i64 0)])) fun v1 h2 =>
 bindS (appS 31 16 2 v1 a0 h2) fun v3 h4 =>
 some (v3, h4))
def B114 (ih : II) (a0 a1 : V) (h : Hp) : VH :=
 bindS (ih 170 [a0, a1] h) fun v0 h1 =>
 intS .geq v0 (.int .i64 0) fun v2 =>
 some (v2, h1)
def B106 (ih : II) (h : Hp) : VH :=
 bindS (bldStruct (h.new (.map [])) [(1, (.map h.n))] (.agg [.nilSlice, .nilMap]) (some [(0, 1), (1, 1)])) fun v0 h1 =>
 newS 124 (vcells v0) h1 fun v2 h3 =>
 some (v2, h3)
def B100 (ih : II) (a0 : V) (h : Hp) : VH :=
 intS .lss a0 (.int .i64 0) fun v0 =>
 guardS v0 false (intS .gtr a0 (.int .i64 1073741824) fun v1 =>
 some (v1, h)) h fun v2 h3 =>
 optS (pickV v0 (.bool true) v2) fun v4 =>
 ifS v4 (
 some (.tuple [.nilPtr, (.int .i64 2)], h3)) (
 bindS (bldStruct h3 [(0, (.bool true)), (1, a0)] (.agg [(.bool false), (.int .i64 0), (.int .i64 0), (.int .i64 0), .nilSlice, .nilSlice]) (some [(0, 1), (1, 1), (2, 1), (3, 1), (4, 1), (5, 1)])) fun v5 h6 =>
 newS 141 (vcells v5) h6 fun v7 h8 =>
 some (.tuple [v7, (.int .i64 0)], h8))
def B172 (ih : II) (a0 : V) (h : Hp) : VH :=
 newS 31 (vcells a0) h fun v0 h1 =>
 addrS 0 v0 fun v2 =>
 load1 v2 h1 fun v3 =>
 intS .geq v3 (.int .u8 4) fun v4 =>
 guardS v4 true (addrS 0 v0 fun v5 =>
 load1 v5 h1 fun v6 =>
 intS .leq v6 (.int .u8 6) fun v7 =>
 some (v7, h1)) h1 fun v8 h9 =>
 optS (pickV v4 v8 (.bool false)) fun v10 =>
 guardS v10 false (addrS 0 v0 fun v11 =>
 load1 v11 h9 fun v12 =>
 intS .eql v12 (.int .u8 8) fun v13 =>
 some (v13, h9)) h9 fun v14 h15 =>
 optS (pickV v10 (.bool true) v14) fun v16 =>
 guardS v16 false (addrS 0 v0 fun v17 =>
 load1 v17 h15 fun v18 =>
 intS .eql v18 (.int .u8 9) fun v19 =>
 some (v19, h15)) h15 fun v20 h21 =>
 optS (pickV v16 (.bool true) v20) fun v22 =>
 some (v22, h21)
def B192 (ih : II) (a0 a1 : V) (h : Hp) : VH :=
 newS 31 (vcells a1) h fun v0 h1 =>
 ih 59 [a0, v0, (.int .i64 0)] h1
def B59 (ih : II) (a0 a3 a5 : V) (h : Hp) : VH :=
 nilS a0 fun v2 =>
 addrS 0 v2 fun v3 =>
 load1 v3 h fun v4 =>
 bindS (lenSl v4 fun v => some (v, h)) fun v5 h6 =>
 intS .lss a5 v5 fun v7 =>
 ifS v7 (
 nilS a0 fun v8 =>
 addrS 0 v8 fun v9 =>
 load1 v9 h6 fun v10 =>
 idxS 4 v10 a5 fun v11 =>
 addrS 0 v11 fun v12 =>
 loadN 2 v12 h6 fun v13 =>
 loadN 2 a3 h6 fun v14 =>
 bindS (vh h6 (eqOp .eql (cmpV [(0, .int .u8), (1, .int .i64)] v13 v14))) fun v15 h16 =>
 ifS v15 (
 some (a5, h16)) (
 intS .add a5 (.int .i64 1) fun v17 =>
 ih 59 [a0, a3, v17] h16)) (
 some ((.int .i64 (-1)), h6))
def B188 (ih : II) (a0 : V) (h : Hp) : VH :=
 newS 31 (vcells a0) h fun v0 h1 =>
 addrS 0 v0 fun v2 =>
 load1 v2 h1 fun v3 =>
 intS .leq v3 (.int .u8 8) fun v4 =>
 guardS v4 true (loadN 2 v0 h1 fun v5 =>
 bindS (ih 186 [v5] h1) fun v6 h7 =>
 some (v6, h7)) h1 fun v8 h9 =>
 optS (pickV v4 v8 (.bool false)) fun v10 =>
 some (v10, h9)
def B168 (ih : II) (a0 : V) (h : Hp) : VH :=
 nilS a0 fun v0 =>
 addrS 0 v0 fun v1 =>
 addrS 0 v1 fun v2 =>
 load1 v2 h fun v3 =>
 intS .eql v3 (.int .u8 4) fun v4 =>
 ifS v4 (
 nilS a0 fun v5 =>
 addrS 3 v5 fun v6 =>
 load1 v6 h fun v7 =>
 bindS (lenStr v7 fun v => some (v, h)) fun v8 h9 =>
 intS .quo v8 (.int .i64 16) fun v10 =>
 intS .add (.int .i64 1) v10 fun v11 =>
 some (v11, h9)) (
 intS .eql v3 (.int .u8 5) fun v12 =>
 ifS v12 (
 nilS a0 fun v13 =>
 addrS 4 v13 fun v14 =>
 load1 v14 h fun v15 =>
 bindS (ih 202 [v15] h) fun v16 h17 =>
 intS .mul (.int .i64 2) v16 fun v18 =>
 intS .add (.int .i64 2) v18 fun v19 =>
 some (v19, h17)) (
 intS .eql v3 (.int .u8 6) fun v20 =>
 ifS v20 (
 nilS a0 fun v21 =>
 addrS 8 v21 fun v22 =>
 load1 v22 h fun v23 =>
 bindS (lenSl v23 fun v => some (v, h)) fun v24 h25 =>
 intS .add (.int .i64 2) v24 fun v26 =>
 some (v26, h25)) (
 intS .eql v3 (.int .u8 8) fun v27 =>
 ifS v27 (
 some ((.int .i64 8), h)) (
 some ((.int .i64 1), h)))))
def B190 (ih : II) (a0 : V) (h : Hp) : VH :=
 newS 31 (vcells a0) h fun v0 h1 =>
 addrS 0 v0 fun v2 =>
 load1 v2 h1 fun v3 =>
 intS .geq v3 (.int .u8 4) fun v4 =>
 guardS v4 true (addrS 0 v0 fun v5 =>
 load1 v5 h1 fun v6 =>
 intS .leq v6 (.int .u8 6) fun v7 =>
 some (v7, h1)) h1 fun v8 h9 =>
 optS (pickV v4 v8 (.bool false)) fun v10 =>
 guardS v10 false (addrS 0 v0 fun v11 =>
 load1 v11 h9 fun v12 =>
 intS .eql v12 (.int .u8 8) fun v13 =>
 some (v13, h9)) h9 fun v14 h15 =>
 optS (pickV v10 (.bool true) v14) fun v16 =>
 guardS v16 false (addrS 0 v0 fun v17 =>
 load1 v17 h15 fun v18 =>
 intS .eql v18 (.int .u8 9) fun v19 =>
 some (v19, h15)) h15 fun v20 h21 =>
 optS (pickV v16 (.bool true) v20) fun v22 =>
 some (v22, h21)
def B186 (ih : II) (a0 : V) (h : Hp) : VH :=
 newS 31 (vcells a0) h fun v0 h1 =>
 addrS 0 v0 fun v2 =>
 load1 v2 h1 fun v3 =>
 intS .gtr v3 (.int .u8 2) fun v4 =>
 guardS v4 false (addrS 1 v0 fun v5 =>
 load1 v5 h1 fun v6 =>
 intS .eql v6 (.int .i64 0) fun v7 =>
 some (v7, h1)) h1 fun v8 h9 =>
 optS (pickV v4 (.bool true) v8) fun v10 =>
 some (v10, h9)
def B184 (ih : II) (a0 a1 : V) (h : Hp) : VH :=
 intS .geq a1 (.int .i64 1) fun v0 =>
 guardS v0 true (nilS a0 fun v1 =>
 addrS 4 v1 fun v2 =>
 load1 v2 h fun v3 =>
 bindS (lenSl v3 fun v => some (v, h)) fun v4 h5 =>
 intS .leq a1 v4 fun v6 =>
 some (v6, h5)) h fun v7 h8 =>
 optS (pickV v0 v7 (.bool false)) fun v9 =>
 guardS v9 true (nilS a0 fun v10 =>
 addrS 4 v10 fun v11 =>
 load1 v11 h8 fun v12 =>
 intS .sub a1 (.int .i64 1) fun v13 =>
 idxS 1 v12 v13 fun v14 =>
 load1 v14 h8 fun v15 =>
 intS .geq v15 (.int .i64 0) fun v16 =>
 some (v16, h8)) h8 fun v17 h18 =>
 optS (pickV v9 v17 (.bool false)) fun v19 =>
 some (v19, h18)
def B174 (ih : II) (a0 : V) (h : Hp) : VH :=
 eqS (.pointer 141) .eql a0 .nilPtr fun v0 =>
 guardS v0 false (nilS a0 fun v1 =>
 addrS 0 v1 fun v2 =>
 load1 v2 h fun v3 =>
 notS v3 fun v4 =>
 some (v4, h)) h fun v5 h6 =>
 optS (pickV v0 (.bool true) v5) fun v7 =>
 some (v7, h6)
def B180 (ih : II) (a0 : V) (h : Hp) : VH :=
 newS 126 (vcells a0) h fun v0 h1 =>
 addrS 2 v0 fun v2 =>
 addrS 0 v2 fun v3 =>
 load1 v3 h1 fun v4 =>
 intS .eql v4 (.int .u8 0) fun v5 =>
 some (v5, h1)
def B182 (ih : II) (a0 a1 : V) (h : Hp) : VH :=
 bindS (ih 204 [a0, a1] h) fun v0 h1 =>
 intS .eql v0 (.int .i64 (-1)) fun v2 =>
 ifS v2 (
 some (a0, h1)) (
 intS .add v0 (.int .i64 1) fun v3 =>
 ih 61 [a0, a1, v0, v3] h1)
def B61 (ih : II) (a0 a1 a5 a6 : V) (h : Hp) : VH :=
 bindS (lenSl a0 fun v => some (v, h)) fun v4 h5 =>
 intS .lss a6 v4 fun v6 =>
 ifS v6 (
 idxS 4 a0 a6 fun v7 =>
 loadN 4 v7 h5 fun v8 =>
 newS 126 [(.int .u8 0), (.int .i64 0), (.int .u8 0), (.int .i64 0)] h5 fun v9 h10 =>
 storeN 4 v9 v8 h10 fun h11 =>
 loadN 4 v9 h11 fun v12 =>
 bindS (dynE ih a1 [v12] h11) fun v13 h14 =>
 notS v13 fun v15 =>
 ifS v15 (
 loadN 4 v9 h14 fun v16 =>
 idxS 4 a0 a5 fun v17 =>
 storeN 4 v17 v16 h14 fun h18 =>
 intS .add a5 (.int .i64 1) fun v19 =>
 ih 63 [a0, a1, v19, a6] h18) (
 ih 63 [a0, a1, a5, a6] h14)) (
 bindS (slSlK 126 4 (some a5) none h5 a0) fun v20 h21 =>
 bindS (kZero h21 4 (some (.agg [(.int .u8 0), (.int .i64 0), (.int .u8 0), (.int .i64 0)])) v20) fun v22 h23 =>
 bindS (slSlK 126 4 none (some a5) h23 a0) fun v24 h25 =>
 some (v24, h25))
def B63 (ih : II) (a0 a1 a5 a6 : V) (h : Hp) : VH :=
 intS .add a6 (.int .i64 1) fun v26 =>
 ih 61 [a0, a1, a5, v26] h
def B178 (ih : II) (a0 a1 : V) (h : Hp) : VH :=
 bindS (ih 204 [a0, a1] h) fun v0 h1 =>
 intS .geq v0 (.int .i64 0) fun v2 =>
 some (v2, h1)
def B176 (ih : II) (a0 : V) (h : Hp) : VH :=
 newS 31 (vcells a0) h fun v0 h1 =>
 addrS 0 v0 fun v2 =>
 load1 v2 h1 fun v3 =>
 intS .gtr v3 (.int .u8 2) fun v4 =>
 guardS v4 false (addrS 1 v0 fun v5 =>
 load1 v5 h1 fun v6 =>
 intS .eql v6 (.int .i64 0) fun v7 =>
 some (v7, h1)) h1 fun v8 h9 =>
 optS (pickV v4 (.bool true) v8) fun v10 =>
 some (v10, h9)
def B166 (ih : II) (a0 a1 : V) (h : Hp) : VH :=
 bindS (ih 174 [a0] h) fun v0 h1 =>
 ifS v0 (
 some (.tuple [(.int .i64 0), (.int .i64 1)], h1)) (
 intS .lss a1 (.int .i64 0) fun v2 =>
 ifS v2 (
 some (.tuple [(.int .i64 0), (.int .i64 2)], h1)) (
 nilS a0 fun v3 =>
 addrS 1 v3 fun v4 =>
 load1 v4 h1 fun v5 =>
 nilS a0 fun v6 =>
 addrS 2 v6 fun v7 =>
 load1 v7 h1 fun v8 =>
 intS .sub v5 v8 fun v9 =>
 intS .gtr a1 v9 fun v10 =>
 guardS v10 false (nilS a0 fun v11 =>
 addrS 3 v11 fun v12 =>
 load1 v12 h1 fun v13 =>
 intS .eql v13 (.int .i64 65536) fun v14 =>
 some (v14, h1)) h1 fun v15 h16 =>
 optS (pickV v10 (.bool true) v15) fun v17 =>
 ifS v17 (
 some (.tuple [(.int .i64 0), (.int .i64 5)], h16)) (
 nilS a0 fun v18 =>
 addrS 2 v18 fun v19 =>
 load1 v19 h16 fun v20 =>
 intS .add v20 a1 fun v21 =>
 nilS a0 fun v22 =>
 addrS 2 v22 fun v23 =>
 storeC v23 v21 h16 fun h24 =>
 nilS a0 fun v25 =>
 addrS 3 v25 fun v26 =>
 load1 v26 h24 fun v27 =>
 intS .add v27 (.int .i64 1) fun v28 =>
 nilS a0 fun v29 =>
 addrS 3 v29 fun v30 =>
 storeC v30 v28 h24 fun h31 =>
 nilS a0 fun v32 =>
 addrS 5 v32 fun v33 =>
 load1 v33 h31 fun v34 =>
 bindS (lenSl v34 fun v => some (v, h31)) fun v35 h36 =>
 intS .eql v35 (.int .i64 0) fun v37 =>
 ifS v37 (
 nilS a0 fun v38 =>
 addrS 4 v38 fun v39 =>
 load1 v39 h36 fun v40 =>
 bindS (bldSl h36 [(0, a1)] 3 1 1 (.int .i64 0)) fun v41 h42 =>
 bindS (appS 3 8 1 v40 v41 h42) fun v43 h44 =>
 nilS a0 fun v45 =>
 addrS 4 v45 fun v46 =>
 storeC v46 v43 h44 fun h47 =>
 nilS a0 fun v48 =>
 addrS 4 v48 fun v49 =>
 load1 v49 h47 fun v50 =>
 bindS (lenSl v50 fun v => some (v, h47)) fun v51 h52 =>
 some (.tuple [v51, (.int .i64 0)], h52)) (
 bindS (ih 200 [a0] h36) fun v53 h54 =>
 nilS a0 fun v55 =>
 addrS 4 v55 fun v56 =>
 load1 v56 h54 fun v57 =>
 intS .sub v53 (.int .i64 1) fun v58 =>
 idxS 1 v57 v58 fun v59 =>
 storeC v59 a1 h54 fun h60 =>
 some (.tuple [v53, (.int .i64 0)], h60)))))
def B170 (ih : II) (a0 a1 : V) (h : Hp) : VH :=
 bindS (lenSl a0 fun v => some (v, h)) fun v0 h1 =>
 ih 65 [a0, a1, v0, (.int .i64 0)] h1
def B65 (ih : II) (a0 a1 a7 a8 : V) (h : Hp) : VH :=
 intS .lss a8 a7 fun v2 =>
 ifS v2 (
 idxS 2 a0 a8 fun v3 =>
 loadN 2 v3 h fun v4 =>
 bindS (dynE ih a1 [v4] h) fun v5 h6 =>
 ifS v5 (
 some (a8, h6)) (
 intS .add a8 (.int .i64 1) fun v7 =>
 ih 65 [a0, a1, a7, v7] h6)) (
 some ((.int .i64 (-1)), h))
def B202 (ih : II) (a0 : V) (h : Hp) : VH :=
 ih 67 [a0, (.int .i64 0), (.int .i64 0)] h
def B67 (ih : II) (a0 a3 a4 : V) (h : Hp) : VH :=
 nilS a0 fun v0 =>
 addrS 0 v0 fun v1 =>
 load1 v1 h fun v2 =>
 bindS (lenSl v2 fun v => some (v, h)) fun v3 h4 =>
 intS .lss a4 v3 fun v5 =>
 ifS v5 (
 nilS a0 fun v6 =>
 addrS 0 v6 fun v7 =>
 load1 v7 h4 fun v8 =>
 idxS 4 v8 a4 fun v9 =>
 addrS 2 v9 fun v10 =>
 addrS 0 v10 fun v11 =>
 load1 v11 h4 fun v12 =>
 intS .neq v12 (.int .u8 0) fun v13 =>
 ifS v13 (
 intS .add a3 (.int .i64 1) fun v14 =>
 ih 69 [a0, v14, a4] h4) (
 ih 69 [a0, a3, a4] h4)) (
 some (a3, h4))
def B69 (ih : II) (a0 a3 a4 : V) (h : Hp) : VH :=
 intS .add a4 (.int .i64 1) fun v15 =>
 ih 67 [a0, a3, v15] h
def B204 (ih : II) (a0 a1 : V) (h : Hp) : VH :=
 bindS (lenSl a0 fun v => some (v, h)) fun v0 h1 =>
 ih 71 [a0, a1, v0, (.int .i64 0)] h1
def B71 (ih : II) (a0 a1 a7 a8 : V) (h : Hp) : VH :=
 intS .lss a8 a7 fun v2 =>
 ifS v2 (
 idxS 4 a0 a8 fun v3 =>
 loadN 4 v3 h fun v4 =>
 bindS (dynE ih a1 [v4] h) fun v5 h6 =>
 ifS v5 (
 some (a8, h6)) (
 intS .add a8 (.int .i64 1) fun v7 =>
 ih 71 [a0, a1, a7, v7] h6)) (
 some ((.int .i64 (-1)), h))
def B8 (ih : II) (a0 a1 a2 : V) (h : Hp) : VH :=
 newS 49 (vcells a1) h fun v0 h1 =>
 newS 50 (vcells a2) h1 fun v2 h3 =>
 idxP 1 2 v2 (.int .i64 0) fun v4 =>
 load1 v4 h3 fun v5 =>
 idxP 1 2 v2 (.int .i64 1) fun v6 =>
 load1 v6 h3 fun v7 =>
 bindS (bldStruct h3 [(1, a0)] (.agg [.nilSlice, .nilSlice, (.int .i64 0)]) (some [(0, 1), (1, 1), (2, 1)])) fun v8 h9 =>
 bindS (ih 10 [v8] h9) fun v10 h11 =>
 eqS (.pointer 36) .eql v10 .nilPtr fun v12 =>
 ifS v12 (
 some ((.bool false), h11)) (
 ih 75 [v0, v5, v7, v10] h11)
def B75 (ih : II) (a4 a7 a8 a9 : V) (h : Hp) : VH :=
 newS 31 [(.int .u8 0), (.int .i64 0)] h fun v13 h14 =>
 newS 31 [(.int .u8 0), (.int .i64 0)] h14 fun v15 h16 =>
 idxP 1 2 a4 (.int .i64 0) fun v17 =>
 load1 v17 h16 fun v18 =>
 bindS (ih 14 [a9, v18] ⟨h16.t, h16.n, h16.n⟩) fun v19 h20 =>
 cD ((pureB h16 h20 || sameLd h16 h20 (fent v13 31 [(.int .u8 0), (.int .i64 0)])) && ((pureB h16 h20 || sameLd h16 h20 (fent v15 31 [(.int .u8 0), (.int .i64 0)])) && true)) (
 wroteS h16.low h20 fun h21 =>
 idxP 1 2 a4 (.int .i64 1) fun v22 =>
 load1 v22 h16 fun v23 =>
 cD (((pureB h16 h20) || sameA h16 h21 v22 (vcells v23).length) && true) (
 bindS (ih 14 [a9, v23] ⟨h21.t, h21.n, h21.n⟩) fun v24 h25 =>
 cD ((pureB h21 h25 || sameLd h21 h25 (fent v13 31 [(.int .u8 0), (.int .i64 0)])) && ((pureB h21 h25 || sameLd h21 h25 (fent v15 31 [(.int .u8 0), (.int .i64 0)])) && true)) (
 wroteS h21.low h25 fun h26 =>
 storeN 2 v13 v19 h26 fun h27 =>
 storeN 2 v15 v24 h27 fun h28 =>
 ih 77 [a7, a8, a9, v13, v15, (.int .u8 1)] h28) none) none) none
def B77 (ih : II) (a7 a8 a9 a10 a11 a12 : V) (h : Hp) : VH :=
 intS .leq a12 (.int .u8 17) fun v29 =>
 ifS v29 (
 ih 85 [a7, a8, a9, a10, a11, a12] h) (
 ih 81 [a7, a8, a9, a10, a11, (.int .u8 18)] h)
def B79 (ih : II) (a7 a8 a9 a10 a11 : V) (h : Hp) : VH :=
 nilS a9 fun v30 =>
 addrS 0 v30 fun v31 =>
 load1 v31 h fun v32 =>
 loadN 2 a10 h fun v33 =>
 loadN 2 a11 h fun v34 =>
 bindS (ih 26 [v32, (.int .u8 12), v33, v34] ⟨h.t, h.n, h.n⟩) fun v35 h36 =>
 wroteS h.low h36 fun h37 =>
 fldN 1 2 v35 fun v38 =>
 nilS a9 fun v39 =>
 addrS 0 v39 fun v40 =>
 load1 v40 h fun v41 =>
 cD (((pureB h h36) || sameA h h37 v40 (vcells v41).length) && true) (
 loadN 2 a11 h fun v42 =>
 cD (((pureB h h36) || sameA h h37 a11 (vcells v42).length) && true) (
 loadN 2 a10 h fun v43 =>
 cD (((pureB h h36) || sameA h h37 a10 (vcells v43).length) && true) (
 bindS (ih 26 [v41, (.int .u8 12), v42, v43] ⟨h37.t, h37.n, h37.n⟩) fun v44 h45 =>
 wroteS h37.low h45 fun h46 =>
 fldN 1 2 v44 fun v47 =>
 bindS (vh h46 (eqOp .neq (cmpV [(0, .int .u8), (1, .int .i64)] v38 v47))) fun v48 h49 =>
 guardS v48 false (some (a9, h46)) h46 fun v50 _ =>
 guardS v48 false (nilS v50 fun v51 =>
 some (v51, h46)) h46 fun v52 _ =>
 guardS v48 false (addrS 0 v52 fun v53 =>
 some (v53, h46)) h46 fun v54 _ =>
 guardS v48 false (load1 v54 h46 fun v55 =>
 some (v55, h46)) h46 fun v56 _ =>
 guardS v48 false (loadN 2 a10 h46 fun v57 =>
 some (v57, h46)) h46 fun v58 _ =>
 guardS v48 false (loadN 2 a11 h46 fun v59 =>
 some (v59, h46)) h46 fun v60 _ =>
 guardB v48 false (
 bindS (ih 26 [v56, (.int .u8 12), v58, v60] ⟨h46.t, h46.n, h46.n⟩) fun v61 h62 =>
 wroteS h46.low h62 fun h63 =>
 guardS v48 false (fldN 1 2 v61 fun v64 =>
 some (v64, h63)) h63 fun v65 _ =>
 guardS v48 false (some (a9, h46)) h46 fun v66 _ =>
 guardS v48 false (nilS v66 fun v67 =>
 some (v67, h46)) h46 fun v68 _ =>
 guardS v48 false (addrS 0 v68 fun v69 =>
 some (v69, h46)) h46 fun v70 _ =>
 guardB v48 false (
 load1 v70 h46 fun v71 =>
 cD (((pureB h46 h62) || sameA h46 h63 v70 (vcells v71).length) && true) (
 guardB v48 false (
 loadN 2 a10 h46 fun v72 =>
 cD (((pureB h46 h62) || sameA h46 h63 a10 (vcells v72).length) && true) (
 guardB v48 false (
 loadN 2 a11 h46 fun v73 =>
 cD (((pureB h46 h62) || sameA h46 h63 a11 (vcells v73).length) && true) (
 guardB v48 false (
 bindS (ih 26 [v71, (.int .u8 13), v72, v73] ⟨h63.t, h63.n, h63.n⟩) fun v74 h75 =>
 wroteS h63.low h75 fun h76 =>
 guardS v48 false (fldN 1 2 v74 fun v77 =>
 some (v77, h76)) h76 fun v78 _ =>
 guardS v48 false (bindS (vh h76 (eqOp .eql (cmpV [(0, .int .u8), (1, .int .i64)] v65 v78))) fun v79 h80 =>
 some (v79, h80)) h76 fun v81 h82 =>
 optS (pickV v48 (.bool true) v81) fun v83 =>
 ifS v83 (
 some ((.bool false), h82)) (
 ih 83 [a7, a8, a9] h82)) (
 guardS v48 false (fldN 1 2 undefV fun v84 =>
 some (v84, h63)) h63 fun v85 _ =>
 guardS v48 false (bindS (vh h63 (eqOp .eql (cmpV [(0, .int .u8), (1, .int .i64)] v65 v85))) fun v86 h87 =>
 some (v86, h87)) h63 fun v88 h89 =>
 optS (pickV v48 (.bool true) v88) fun v90 =>
 ifS v90 (
 some ((.bool false), h89)) (
 ih 83 [a7, a8, a9] h89))) none) (
 guardB v48 false (
 bindS (ih 26 [v71, (.int .u8 13), v72, undefV] ⟨h63.t, h63.n, h63.n⟩) fun v91 h92 =>
 wroteS h63.low h92 fun h93 =>
 guardS v48 false (fldN 1 2 v91 fun v94 =>
 some (v94, h93)) h93 fun v95 _ =>
 guardS v48 false (bindS (vh h93 (eqOp .eql (cmpV [(0, .int .u8), (1, .int .i64)] v65 v95))) fun v96 h97 =>
 some (v96, h97)) h93 fun v98 h99 =>
 optS (pickV v48 (.bool true) v98) fun v100 =>
 ifS v100 (
 some ((.bool false), h99)) (
 ih 83 [a7, a8, a9] h99)) (
 guardS v48 false (fldN 1 2 undefV fun v101 =>
 some (v101, h63)) h63 fun v102 _ =>
 guardS v48 false (bindS (vh h63 (eqOp .eql (cmpV [(0, .int .u8), (1, .int .i64)] v65 v102))) fun v103 h104 =>
 some (v103, h104)) h63 fun v105 h106 =>
 optS (pickV v48 (.bool true) v105) fun v107 =>
 ifS v107 (
 some ((.bool false), h106)) (
 ih 83 [a7, a8, a9] h106)))) none) (
 guardB v48 false (
 loadN 2 a11 h46 fun v108 =>
 cD (((pureB h46 h62) || sameA h46 h63 a11 (vcells v108).length) && true) (
 guardB v48 false (
 bindS (ih 26 [v71, (.int .u8 13), undefV, v108] ⟨h63.t, h63.n, h63.n⟩) fun v109 h110 =>
 wroteS h63.low h110 fun h111 =>
 guardS v48 false (fldN 1 2 v109 fun v112 =>
 some (v112, h111)) h111 fun v113 _ =>
 guardS v48 false (bindS (vh h111 (eqOp .eql (cmpV [(0, .int .u8), (1, .int .i64)] v65 v113))) fun v114 h115 =>
 some (v114, h115)) h111 fun v116 h117 =>
 optS (pickV v48 (.bool true) v116) fun v118 =>
 ifS v118 (
 some ((.bool false), h117)) (
 ih 83 [a7, a8, a9] h117)) (
 guardS v48 false (fldN 1 2 undefV fun v119 =>
 some (v119, h63)) h63 fun v120 _ =>
 guardS v48 false (bindS (vh h63 (eqOp .eql (cmpV [(0, .int .u8), (1, .int .i64)] v65 v120))) fun v121 h122 =>
 some (v121, h122)) h63 fun v123 h124 =>
 optS (pickV v48 (.bool true) v123) fun v125 =>
 ifS v125 (
 some ((.bool false), h124)) (
 ih 83 [a7, a8, a9] h124))) none) (
 guardB v48 false (
 bindS (ih 26 [v71, (.int .u8 13), undefV, undefV] ⟨h63.t, h63.n, h63.n⟩) fun v126 h127 =>
 wroteS h63.low h127 fun h128 =>
 guardS v48 false (fldN 1 2 v126 fun v129 =>
 some (v129, h128)) h128 fun v130 _ =>
 guardS v48 false (bindS (vh h128 (eqOp .eql (cmpV [(0, .int .u8), (1, .int .i64)] v65 v130))) fun v131 h132 =>
 some (v131, h132)) h128 fun v133 h134 =>
 optS (pickV v48 (.bool true) v133) fun v135 =>
 ifS v135 (
 some ((.bool false), h134)) (
 ih 83 [a7, a8, a9] h134)) (
 guardS v48 false (fldN 1 2 undefV fun v136 =>
 some (v136, h63)) h63 fun v137 _ =>
 guardS v48 false (bindS (vh h63 (eqOp .eql (cmpV [(0, .int .u8), (1, .int .i64)] v65 v137))) fun v138 h139 =>
 some (v138, h139)) h63 fun v140 h141 =>
 optS (pickV v48 (.bool true) v140) fun v142 =>
 ifS v142 (
 some ((.bool false), h141)) (
 ih 83 [a7, a8, a9] h141))))) none) (
 guardB v48 false (
 loadN 2 a10 h46 fun v143 =>
 cD (((pureB h46 h62) || sameA h46 h63 a10 (vcells v143).length) && true) (
 guardB v48 false (
 loadN 2 a11 h46 fun v144 =>
 cD (((pureB h46 h62) || sameA h46 h63 a11 (vcells v144).length) && true) (
 guardB v48 false (
 bindS (ih 26 [undefV, (.int .u8 13), v143, v144] ⟨h63.t, h63.n, h63.n⟩) fun v145 h146 =>
 wroteS h63.low h146 fun h147 =>
 guardS v48 false (fldN 1 2 v145 fun v148 =>
 some (v148, h147)) h147 fun v149 _ =>
 guardS v48 false (bindS (vh h147 (eqOp .eql (cmpV [(0, .int .u8), (1, .int .i64)] v65 v149))) fun v150 h151 =>
 some (v150, h151)) h147 fun v152 h153 =>
 optS (pickV v48 (.bool true) v152) fun v154 =>
 ifS v154 (
 some ((.bool false), h153)) (
 ih 83 [a7, a8, a9] h153)) (
 guardS v48 false (fldN 1 2 undefV fun v155 =>
 some (v155, h63)) h63 fun v156 _ =>
 guardS v48 false (bindS (vh h63 (eqOp .eql (cmpV [(0, .int .u8), (1, .int .i64)] v65 v156))) fun v157 h158 =>
 some (v157, h158)) h63 fun v159 h160 =>
 optS (pickV v48 (.bool true) v159) fun v161 =>
 ifS v161 (
 some ((.bool false), h160)) (
 ih 83 [a7, a8, a9] h160))) none) (
 guardB v48 false (
 bindS (ih 26 [undefV, (.int .u8 13), v143, undefV] ⟨h63.t, h63.n, h63.n⟩) fun v162 h163 =>
 wroteS h63.low h163 fun h164 =>
 guardS v48 false (fldN 1 2 v162 fun v165 =>
 some (v165, h164)) h164 fun v166 _ =>
 guardS v48 false (bindS (vh h164 (eqOp .eql (cmpV [(0, .int .u8), (1, .int .i64)] v65 v166))) fun v167 h168 =>
 some (v167, h168)) h164 fun v169 h170 =>
 optS (pickV v48 (.bool true) v169) fun v171 =>
 ifS v171 (
 some ((.bool false), h170)) (
 ih 83 [a7, a8, a9] h170)) (
 guardS v48 false (fldN 1 2 undefV fun v172 =>
 some (v172, h63)) h63 fun v173 _ =>
 guardS v48 false (bindS (vh h63 (eqOp .eql (cmpV [(0, .int .u8), (1, .int .i64)] v65 v173))) fun v174 h175 =>
 some (v174, h175)) h63 fun v176 h177 =>
 optS (pickV v48 (.bool true) v176) fun v178 =>
 ifS v178 (
 some ((.bool false), h177)) (
 ih 83 [a7, a8, a9] h177)))) none) (
 guardB v48 false (
 loadN 2 a11 h46 fun v179 =>
 cD (((pureB h46 h62) || sameA h46 h63 a11 (vcells v179).length) && true) (
 guardB v48 false (
 bindS (ih 26 [undefV, (.int .u8 13), undefV, v179] ⟨h63.t, h63.n, h63.n⟩) fun v180 h181 =>
 wroteS h63.low h181 fun h182 =>
 guardS v48 false (fldN 1 2 v180 fun v183 =>
 some (v183, h182)) h182 fun v184 _ =>
 guardS v48 false (bindS (vh h182 (eqOp .eql (cmpV [(0, .int .u8), (1, .int .i64)] v65 v184))) fun v185 h186 =>
 some (v185, h186)) h182 fun v187 h188 =>
 optS (pickV v48 (.bool true) v187) fun v189 =>
 ifS v189 (
 some ((.bool false), h188)) (
 ih 83 [a7, a8, a9] h188)) (
 guardS v48 false (fldN 1 2 undefV fun v190 =>
 some (v190, h63)) h63 fun v191 _ =>
 guardS v48 false (bindS (vh h63 (eqOp .eql (cmpV [(0, .int .u8), (1, .int .i64)] v65 v191))) fun v192 h193 =>
 some (v192, h193)) h63 fun v194 h195 =>
 optS (pickV v48 (.bool true) v194) fun v196 =>
 ifS v196 (
 some ((.bool false), h195)) (
 ih 83 [a7, a8, a9] h195))) none) (
 guardB v48 false (
 bindS (ih 26 [undefV, (.int .u8 13), undefV, undefV] ⟨h63.t, h63.n, h63.n⟩) fun v197 h198 =>
 wroteS h63.low h198 fun h199 =>
 guardS v48 false (fldN 1 2 v197 fun v200 =>
 some (v200, h199)) h199 fun v201 _ =>
 guardS v48 false (bindS (vh h199 (eqOp .eql (cmpV [(0, .int .u8), (1, .int .i64)] v65 v201))) fun v202 h203 =>
 some (v202, h203)) h199 fun v204 h205 =>
 optS (pickV v48 (.bool true) v204) fun v206 =>
 ifS v206 (
 some ((.bool false), h205)) (
 ih 83 [a7, a8, a9] h205)) (
 guardS v48 false (fldN 1 2 undefV fun v207 =>
 some (v207, h63)) h63 fun v208 _ =>
 guardS v48 false (bindS (vh h63 (eqOp .eql (cmpV [(0, .int .u8), (1, .int .i64)] v65 v208))) fun v209 h210 =>
 some (v209, h210)) h63 fun v211 h212 =>
 optS (pickV v48 (.bool true) v211) fun v213 =>
 ifS v213 (
 some ((.bool false), h212)) (
 ih 83 [a7, a8, a9] h212)))))) (
 guardS v48 false (fldN 1 2 undefV fun v214 =>
 some (v214, h46)) h46 fun v215 _ =>
 guardS v48 false (some (a9, h46)) h46 fun v216 _ =>
 guardS v48 false (nilS v216 fun v217 =>
 some (v217, h46)) h46 fun v218 _ =>
 guardS v48 false (addrS 0 v218 fun v219 =>
 some (v219, h46)) h46 fun v220 _ =>
 guardS v48 false (load1 v220 h46 fun v221 =>
 some (v221, h46)) h46 fun v222 _ =>
 guardS v48 false (loadN 2 a10 h46 fun v223 =>
 some (v223, h46)) h46 fun v224 _ =>
 guardS v48 false (loadN 2 a11 h46 fun v225 =>
 some (v225, h46)) h46 fun v226 _ =>
 guardB v48 false (
 bindS (ih 26 [v222, (.int .u8 13), v224, v226] ⟨h46.t, h46.n, h46.n⟩) fun v227 h228 =>
 wroteS h46.low h228 fun h229 =>
 guardS v48 false (fldN 1 2 v227 fun v230 =>
 some (v230, h229)) h229 fun v231 _ =>
 guardS v48 false (bindS (vh h229 (eqOp .eql (cmpV [(0, .int .u8), (1, .int .i64)] v215 v231))) fun v232 h233 =>
 some (v232, h233)) h229 fun v234 h235 =>
 optS (pickV v48 (.bool true) v234) fun v236 =>
 ifS v236 (
 some ((.bool false), h235)) (
 ih 83 [a7, a8, a9] h235)) (
 guardS v48 false (fldN 1 2 undefV fun v237 =>
 some (v237, h46)) h46 fun v238 _ =>
 guardS v48 false (bindS (vh h46 (eqOp .eql (cmpV [(0, .int .u8), (1, .int .i64)] v215 v238))) fun v239 h240 =>
 some (v239, h240)) h46 fun v241 h242 =>
 optS (pickV v48 (.bool true) v241) fun v243 =>
 ifS v243 (
 some ((.bool false), h242)) (
 ih 83 [a7, a8, a9] h242)))) none) none) none
def B81 (ih : II) (a7 a8 a9 a10 a11 a13 : V) (h : Hp) : VH :=
 intS .leq a13 (.int .u8 21) fun v244 =>
 ifS v244 (
 ih 89 [a7, a8, a9, a10, a11, a13] h) (
 nilS a9 fun v245 =>
 addrS 0 v245 fun v246 =>
 load1 v246 h fun v247 =>
 loadN 2 a10 h fun v248 =>
 loadN 2 a11 h fun v249 =>
 bindS (ih 24 [v247, v248, v249] ⟨h.t, h.n, h.n⟩) fun v250 h251 =>
 wroteS h.low h251 fun h252 =>
 fld1 0 v250 fun v253 =>
 intS .eql v253 (.int .u8 2) fun v254 =>
 guardS v254 false (some (a9, h252)) h252 fun v255 _ =>
 guardS v254 false (nilS v255 fun v256 =>
 some (v256, h252)) h252 fun v257 _ =>
 guardS v254 false (addrS 0 v257 fun v258 =>
 some (v258, h252)) h252 fun v259 _ =>
 guardS v254 false (load1 v259 h252 fun v260 =>
 some (v260, h252)) h252 fun v261 _ =>
 guardS v254 false (loadN 2 a10 h252 fun v262 =>
 some (v262, h252)) h252 fun v263 _ =>
 guardS v254 false (loadN 2 a11 h252 fun v264 =>
 some (v264, h252)) h252 fun v265 _ =>
 guardS v254 false (loadN 2 a10 h252 fun v266 =>
 some (v266, h252)) h252 fun v267 _ =>
 guardS v254 false (bindS (ih 20 [v261, v263, v265, v267] h252) fun v268 h269 =>
 fld1 0 v268 fun v270 =>
 intS .eql v270 (.int .u8 2) fun v271 =>
 some (v271, h269)) h252 fun v272 h273 =>
 optS (pickV v254 (.bool true) v272) fun v274 =>
 ifS v274 (
 some ((.bool false), h273)) (
 ih 79 [a7, a8, a9, a10, a11] h273))
def B83 (ih : II) (a7 a8 a9 : V) (h : Hp) : VH :=
 bindS (bldStruct h [(0, (.int .u8 3)), (1, a7)] (.agg [(.int .u8 0), (.int .i64 0)]) (some [(0, 1), (1, 1)])) fun v275 h276 =>
 bindS (bldStruct h276 [(0, (.int .u8 3)), (1, a8)] (.agg [(.int .u8 0), (.int .i64 0)]) (some [(0, 1), (1, 1)])) fun v277 h278 =>
 newS 31 [(.int .u8 0), (.int .i64 0)] h278 fun v279 h280 =>
 newS 31 [(.int .u8 0), (.int .i64 0)] h280 fun v281 h282 =>
 storeN 2 v279 v275 h282 fun h283 =>
 storeN 2 v281 v277 h283 fun h284 =>
 nilS a9 fun v285 =>
 addrS 0 v285 fun v286 =>
 load1 v286 h284 fun v287 =>
 loadN 2 v279 h284 fun v288 =>
 loadN 2 v281 h284 fun v289 =>
 bindS (ih 26 [v287, (.int .u8 1), v288, v289] ⟨h284.t, h284.n, h284.n⟩) fun v290 h291 =>
 wroteS h284.low h291 fun h292 =>
 fldN 1 2 v290 fun v293 =>
 fld1 1 v293 fun v294 =>
 intS .add a7 a8 fun v295 =>
 intS .neq v294 v295 fun v296 =>
 guardS v296 false (some (a9, h292)) h292 fun v297 _ =>
 guardS v296 false (nilS v297 fun v298 =>
 some (v298, h292)) h292 fun v299 _ =>
 guardS v296 false (addrS 0 v299 fun v300 =>
 some (v300, h292)) h292 fun v301 _ =>
 guardS v296 false (load1 v301 h292 fun v302 =>
 some (v302, h292)) h292 fun v303 _ =>
 guardS v296 false (loadN 2 v279 h292 fun v304 =>
 some (v304, h292)) h292 fun v305 _ =>
 guardS v296 false (loadN 2 v281 h292 fun v306 =>
 some (v306, h292)) h292 fun v307 _ =>
 guardB v296 false (
 bindS (ih 26 [v303, (.int .u8 2), v305, v307] ⟨h292.t, h292.n, h292.n⟩) fun v308 h309 =>
 wroteS h292.low h309 fun h310 =>
 guardS v296 false (fldN 1 2 v308 fun v311 =>
 some (v311, h310)) h310 fun v312 _ =>
 guardS v296 false (fld1 1 v312 fun v313 =>
 some (v313, h310)) h310 fun v314 _ =>
 guardS v296 false (some (a7, h292)) h292 fun v315 _ =>
 guardS v296 false (some (a8, h292)) h292 fun v316 _ =>
 guardS v296 false (intS .sub v315 v316 fun v317 =>
 some (v317, h292)) h292 fun v318 _ =>
 guardS v296 false (intS .neq v314 v318 fun v319 =>
 some (v319, h310)) h310 fun v320 _ =>
 optS (pickV v296 (.bool true) v320) fun v321 =>
 guardS v321 false (some (a9, h310)) h310 fun v322 _ =>
 guardS v321 false (nilS v322 fun v323 =>
 some (v323, h310)) h310 fun v324 _ =>
 guardS v321 false (addrS 0 v324 fun v325 =>
 some (v325, h310)) h310 fun v326 _ =>
 guardS v321 false (load1 v326 h310 fun v327 =>
 some (v327, h310)) h310 fun v328 _ =>
 guardS v321 false (loadN 2 v279 h310 fun v329 =>
 some (v329, h310)) h310 fun v330 _ =>
 guardS v321 false (loadN 2 v281 h310 fun v331 =>
 some (v331, h310)) h310 fun v332 _ =>
 guardB v321 false (
 bindS (ih 26 [v328, (.int .u8 3), v330, v332] ⟨h310.t, h310.n, h310.n⟩) fun v333 h334 =>
 wroteS h310.low h334 fun h335 =>
 guardS v321 false (fldN 1 2 v333 fun v336 =>
 some (v336, h335)) h335 fun v337 _ =>
 guardS v321 false (fld1 1 v337 fun v338 =>
 some (v338, h335)) h335 fun v339 _ =>
 guardS v321 false (some (a7, h310)) h310 fun v340 _ =>
 guardS v321 false (some (a8, h310)) h310 fun v341 _ =>
 guardS v321 false (intS .mul v340 v341 fun v342 =>
 some (v342, h310)) h310 fun v343 _ =>
 guardS v321 false (intS .neq v339 v343 fun v344 =>
 some (v344, h335)) h335 fun v345 h346 =>
 optS (pickV v321 (.bool true) v345) fun v347 =>
 ifS v347 (
 some ((.bool false), h346)) (
 ih 91 [a9, v279, v281] h346)) (
 guardS v321 false (fldN 1 2 undefV fun v348 =>
 some (v348, h310)) h310 fun v349 _ =>
 guardS v321 false (fld1 1 v349 fun v350 =>
 some (v350, h310)) h310 fun v351 _ =>
 guardS v321 false (some (a7, h310)) h310 fun v352 _ =>
 guardS v321 false (some (a8, h310)) h310 fun v353 _ =>
 guardS v321 false (intS .mul v352 v353 fun v354 =>
 some (v354, h310)) h310 fun v355 _ =>
 guardS v321 false (intS .neq v351 v355 fun v356 =>
 some (v356, h310)) h310 fun v357 h358 =>
 optS (pickV v321 (.bool true) v357) fun v359 =>
 ifS v359 (
 some ((.bool false), h358)) (
 ih 91 [a9, v279, v281] h358))) (
 guardS v296 false (fldN 1 2 undefV fun v360 =>
 some (v360, h292)) h292 fun v361 _ =>
 guardS v296 false (fld1 1 v361 fun v362 =>
 some (v362, h292)) h292 fun v363 _ =>
 guardS v296 false (some (a7, h292)) h292 fun v364 _ =>
 guardS v296 false (some (a8, h292)) h292 fun v365 _ =>
 guardS v296 false (intS .sub v364 v365 fun v366 =>
 some (v366, h292)) h292 fun v367 _ =>
 guardS v296 false (intS .neq v363 v367 fun v368 =>
 some (v368, h292)) h292 fun v369 _ =>
 optS (pickV v296 (.bool true) v369) fun v370 =>
 guardS v370 false (some (a9, h292)) h292 fun v371 _ =>
 guardS v370 false (nilS v371 fun v372 =>
 some (v372, h292)) h292 fun v373 _ =>
 guardS v370 false (addrS 0 v373 fun v374 =>
 some (v374, h292)) h292 fun v375 _ =>
 guardS v370 false (load1 v375 h292 fun v376 =>
 some (v376, h292)) h292 fun v377 _ =>
 guardS v370 false (loadN 2 v279 h292 fun v378 =>
 some (v378, h292)) h292 fun v379 _ =>
 guardS v370 false (loadN 2 v281 h292 fun v380 =>
 some (v380, h292)) h292 fun v381 _ =>
 guardB v370 false (
 bindS (ih 26 [v377, (.int .u8 3), v379, v381] ⟨h292.t, h292.n, h292.n⟩) fun v382 h383 =>
 wroteS h292.low h383 fun h384 =>
 guardS v370 false (fldN 1 2 v382 fun v385 =>
 some (v385, h384)) h384 fun v386 _ =>
 guardS v370 false (fld1 1 v386 fun v387 =>
 some (v387, h384)) h384 fun v388 _ =>
 guardS v370 false (some (a7, h292)) h292 fun v389 _ =>
 guardS v370 false (some (a8, h292)) h292 fun v390 _ =>
 guardS v370 false (intS .mul v389 v390 fun v391 =>
 some (v391, h292)) h292 fun v392 _ =>
 guardS v370 false (intS .neq v388 v392 fun v393 =>
 some (v393, h384)) h384 fun v394 h395 =>
 optS (pickV v370 (.bool true) v394) fun v396 =>
 ifS v396 (
 some ((.bool false), h395)) (
 ih 91 [a9, v279, v281] h395)) (
 guardS v370 false (fldN 1 2 undefV fun v397 =>
 some (v397, h292)) h292 fun v398 _ =>
 guardS v370 false (fld1 1 v398 fun v399 =>
 some (v399, h292)) h292 fun v400 _ =>
 guardS v370 false (some (a7, h292)) h292 fun v401 _ =>
 guardS v370 false (some (a8, h292)) h292 fun v402 _ =>
 guardS v370 false (intS .mul v401 v402 fun v403 =>
 some (v403, h292)) h292 fun v404 _ =>
 guardS v370 false (intS .neq v400 v404 fun v405 =>
 some (v405, h292)) h292 fun v406 h407 =>
 optS (pickV v370 (.bool true) v406) fun v408 =>
 ifS v408 (
 some ((.bool false), h407)) (
 ih 91 [a9, v279, v281] h407)))
def B85 (ih : II) (a7 a8 a9 a10 a11 a12 : V) (h : Hp) : VH :=
 nilS a9 fun v409 =>
 addrS 0 v409 fun v410 =>
 load1 v410 h fun v411 =>
 loadN 2 a10 h fun v412 =>
 loadN 2 a11 h fun v413 =>
 bindS (ih 26 [v411, a12, v412, v413] h) fun v414 h415 =>
 fld1 0 v414 fun v416 =>
 intS .eql v416 (.int .u8 2) fun v417 =>
 ifS v417 (
 some ((.bool false), h415)) (
 ih 87 [a7, a8, a9, a10, a11, a12] h415)
def B87 (ih : II) (a7 a8 a9 a10 a11 a12 : V) (h : Hp) : VH :=
 intS .add a12 (.int .u8 1) fun v418 =>
 ih 77 [a7, a8, a9, a10, a11, v418] h
def B89 (ih : II) (a7 a8 a9 a10 a11 a13 : V) (h : Hp) : VH :=
 nilS a9 fun v419 =>
 addrS 0 v419 fun v420 =>
 load1 v420 h fun v421 =>
 loadN 2 a10 h fun v422 =>
 bindS (ih 28 [v421, a13, v422] h) fun v423 h424 =>
 fld1 0 v423 fun v425 =>
 intS .eql v425 (.int .u8 2) fun v426 =>
 ifS v426 (
 some ((.bool false), h424)) (
 ih 93 [a7, a8, a9, a10, a11, a13] h424)
def B91 (ih : II) (a9 a14 a15 : V) (h : Hp) : VH :=
 nilS a9 fun v427 =>
 addrS 0 v427 fun v428 =>
 load1 v428 h fun v429 =>
 loadN 2 a14 h fun v430 =>
 loadN 2 a15 h fun v431 =>
 bindS (ih 26 [v429, (.int .u8 14), v430, v431] ⟨h.t, h.n, h.n⟩) fun v432 h433 =>
 wroteS h.low h433 fun h434 =>
 fldN 1 2 v432 fun v435 =>
 bindS (ih 30 [v435] ⟨h434.t, h434.n, h434.n⟩) fun v436 h437 =>
 wroteS h434.low h437 fun h438 =>
 nilS a9 fun v439 =>
 addrS 0 v439 fun v440 =>
 load1 v440 h fun v441 =>
 cD (((pureB h434 h437) || sameA h434 h438 v440 (vcells v441).length) && (((pureB h h433) || sameA h h434 v440 (vcells v441).length) && true)) (
 loadN 2 a14 h fun v442 =>
 cD (((pureB h434 h437) || sameA h434 h438 a14 (vcells v442).length) && (((pureB h h433) || sameA h h434 a14 (vcells v442).length) && true)) (
 loadN 2 a15 h fun v443 =>
 cD (((pureB h434 h437) || sameA h434 h438 a15 (vcells v443).length) && (((pureB h h433) || sameA h h434 a15 (vcells v443).length) && true)) (
 bindS (ih 26 [v441, (.int .u8 16), v442, v443] ⟨h438.t, h438.n, h438.n⟩) fun v444 h445 =>
 wroteS h438.low h445 fun h446 =>
 fldN 1 2 v444 fun v447 =>
 bindS (ih 30 [v447] ⟨h446.t, h446.n, h446.n⟩) fun v448 h449 =>
 wroteS h446.low h449 fun h450 =>
 nilS a9 fun v451 =>
 addrS 0 v451 fun v452 =>
 load1 v452 h fun v453 =>
 cD (((pureB h446 h449) || sameA h446 h450 v452 (vcells v453).length) && (((pureB h438 h445) || sameA h438 h446 v452 (vcells v453).length) && (((pureB h434 h437) || sameA h434 h438 v452 (vcells v453).length) && (((pureB h h433) || sameA h h434 v452 (vcells v453).length) && true)))) (
 loadN 2 a14 h fun v454 =>
 cD (((pureB h446 h449) || sameA h446 h450 a14 (vcells v454).length) && (((pureB h438 h445) || sameA h438 h446 a14 (vcells v454).length) && (((pureB h434 h437) || sameA h434 h438 a14 (vcells v454).length) && (((pureB h h433) || sameA h h434 a14 (vcells v454).length) && true)))) (
 loadN 2 a15 h fun v455 =>
 cD (((pureB h446 h449) || sameA h446 h450 a15 (vcells v455).length) && (((pureB h438 h445) || sameA h438 h446 a15 (vcells v455).length) && (((pureB h434 h437) || sameA h434 h438 a15 (vcells v455).length) && (((pureB h h433) || sameA h h434 a15 (vcells v455).length) && true)))) (
 bindS (ih 26 [v453, (.int .u8 12), v454, v455] h450) fun v456 h457 =>
 fldN 1 2 v456 fun v458 =>
 bindS (ih 30 [v458] h457) fun v459 h460 =>
 bindS (bldArr h460 [(0, v436), (1, v448), (2, v459)] (.agg [(.bool false), (.bool false), (.bool false)]) 1) fun v461 h462 =>
 ih 95 [a9, a14, a15, v436, v448, (.int .i64 0), v461, (.int .i64 0)] h462) none) none) none) none) none) none
def B93 (ih : II) (a7 a8 a9 a10 a11 a13 : V) (h : Hp) : VH :=
 intS .add a13 (.int .u8 1) fun v463 =>
 ih 81 [a7, a8, a9, a10, a11, v463] h
def B95 (ih : II) (a9 a14 a15 a16 a17 a19 a200 a201 : V) (h : Hp) : VH :=
 intS .lss a201 (.int .i64 3) fun v464 =>
 ifS v464 (
 ih 97 [a9, a14, a15, a16, a17, a19, a200, a201] h) (
 intS .eql a19 (.int .i64 1) fun v465 =>
 guardS v465 true (some (a9, h)) h fun v466 _ =>
 guardS v465 true (nilS v466 fun v467 =>
 some (v467, h)) h fun v468 _ =>
 guardS v465 true (addrS 0 v468 fun v469 =>
 some (v469, h)) h fun v470 _ =>
 guardS v465 true (load1 v470 h fun v471 =>
 some (v471, h)) h fun v472 _ =>
 guardS v465 true (loadN 2 a14 h fun v473 =>
 some (v473, h)) h fun v474 _ =>
 guardS v465 true (loadN 2 a15 h fun v475 =>
 some (v475, h)) h fun v476 _ =>
 guardB v465 true (
 bindS (ih 26 [v472, (.int .u8 15), v474, v476] ⟨h.t, h.n, h.n⟩) fun v477 h478 =>
 wroteS h.low h478 fun h479 =>
 guardS v465 true (fldN 1 2 v477 fun v480 =>
 some (v480, h479)) h479 fun v481 _ =>
 guardB v465 true (
 bindS (ih 30 [v481] ⟨h479.t, h479.n, h479.n⟩) fun v482 h483 =>
 wroteS h479.low h483 fun h484 =>
 guardS v465 true (some (a17, h)) h fun v485 _ =>
 guardS v465 true (notS v485 fun v486 =>
 some (v486, h)) h fun v487 _ =>
 guardS v465 true (eqS .bool .eql v482 v487 fun v488 =>
 some (v488, h484)) h484 fun v489 _ =>
 optS (pickV v465 v489 (.bool false)) fun v490 =>
 guardS v490 true (some (a9, h484)) h484 fun v491 _ =>
 guardS v490 true (nilS v491 fun v492 =>
 some (v492, h484)) h484 fun v493 _ =>
 guardS v490 true (addrS 0 v493 fun v494 =>
 some (v494, h484)) h484 fun v495 _ =>
 guardS v490 true (load1 v495 h484 fun v496 =>
 some (v496, h484)) h484 fun v497 _ =>
 guardS v490 true (loadN 2 a14 h484 fun v498 =>
 some (v498, h484)) h484 fun v499 _ =>
 guardS v490 true (loadN 2 a15 h484 fun v500 =>
 some (v500, h484)) h484 fun v501 _ =>
 guardB v490 true (
 bindS (ih 26 [v497, (.int .u8 17), v499, v501] ⟨h484.t, h484.n, h484.n⟩) fun v502 h503 =>
 wroteS h484.low h503 fun h504 =>
 guardS v490 true (fldN 1 2 v502 fun v505 =>
 some (v505, h504)) h504 fun v506 _ =>
 guardB v490 true (
 bindS (ih 30 [v506] ⟨h504.t, h504.n, h504.n⟩) fun v507 h508 =>
 wroteS h504.low h508 fun h509 =>
 guardS v490 true (some (a16, h484)) h484 fun v510 _ =>
 guardS v490 true (notS v510 fun v511 =>
 some (v511, h484)) h484 fun v512 _ =>
 guardS v490 true (eqS .bool .eql v507 v512 fun v513 =>
 some (v513, h509)) h509 fun v514 h515 =>
 optS (pickV v490 v514 (.bool false)) fun v516 =>
 guardS v516 true (bindS (ih 22 [] h515) fun v517 h518 =>
 some (v517, h518)) h515 fun v519 h520 =>
 optS (pickV v516 v519 (.bool false)) fun v521 =>
 some (v521, h520)) (
 guardS v490 true (some (a16, h484)) h484 fun v522 _ =>
 guardS v490 true (notS v522 fun v523 =>
 some (v523, h484)) h484 fun v524 _ =>
 guardS v490 true (eqS .bool .eql undefV v524 fun v525 =>
 some (v525, h504)) h504 fun v526 h527 =>
 optS (pickV v490 v526 (.bool false)) fun v528 =>
 guardS v528 true (bindS (ih 22 [] h527) fun v529 h530 =>
 some (v529, h530)) h527 fun v531 h532 =>
 optS (pickV v528 v531 (.bool false)) fun v533 =>
 some (v533, h532))) (
 guardS v490 true (fldN 1 2 undefV fun v534 =>
 some (v534, h484)) h484 fun v535 _ =>
 guardB v490 true (
 bindS (ih 30 [v535] ⟨h484.t, h484.n, h484.n⟩) fun v536 h537 =>
 wroteS h484.low h537 fun h538 =>
 guardS v490 true (some (a16, h484)) h484 fun v539 _ =>
 guardS v490 true (notS v539 fun v540 =>
 some (v540, h484)) h484 fun v541 _ =>
 guardS v490 true (eqS .bool .eql v536 v541 fun v542 =>
 some (v542, h538)) h538 fun v543 h544 =>
 optS (pickV v490 v543 (.bool false)) fun v545 =>
 guardS v545 true (bindS (ih 22 [] h544) fun v546 h547 =>
 some (v546, h547)) h544 fun v548 h549 =>
 optS (pickV v545 v548 (.bool false)) fun v550 =>
 some (v550, h549)) (
 guardS v490 true (some (a16, h484)) h484 fun v551 _ =>
 guardS v490 true (notS v551 fun v552 =>
 some (v552, h484)) h484 fun v553 _ =>
 guardS v490 true (eqS .bool .eql undefV v553 fun v554 =>
 some (v554, h484)) h484 fun v555 h556 =>
 optS (pickV v490 v555 (.bool false)) fun v557 =>
 guardS v557 true (bindS (ih 22 [] h556) fun v558 h559 =>
 some (v558, h559)) h556 fun v560 h561 =>
 optS (pickV v557 v560 (.bool false)) fun v562 =>
 some (v562, h561)))) (
 guardS v465 true (some (a17, h)) h fun v563 _ =>
 guardS v465 true (notS v563 fun v564 =>
 some (v564, h)) h fun v565 _ =>
 guardS v465 true (eqS .bool .eql undefV v565 fun v566 =>
 some (v566, h479)) h479 fun v567 _ =>
 optS (pickV v465 v567 (.bool false)) fun v568 =>
 guardS v568 true (some (a9, h479)) h479 fun v569 _ =>
 guardS v568 true (nilS v569 fun v570 =>
 some (v570, h479)) h479 fun v571 _ =>
 guardS v568 true (addrS 0 v571 fun v572 =>
 some (v572, h479)) h479 fun v573 _ =>
 guardS v568 true (load1 v573 h479 fun v574 =>
 some (v574, h479)) h479 fun v575 _ =>
 guardS v568 true (loadN 2 a14 h479 fun v576 =>
 some (v576, h479)) h479 fun v577 _ =>
 guardS v568 true (loadN 2 a15 h479 fun v578 =>
 some (v578, h479)) h479 fun v579 _ =>
 guardB v568 true (
 bindS (ih 26 [v575, (.int .u8 17), v577, v579] ⟨h479.t, h479.n, h479.n⟩) fun v580 h581 =>
 wroteS h479.low h581 fun h582 =>
 guardS v568 true (fldN 1 2 v580 fun v583 =>
 some (v583, h582)) h582 fun v584 _ =>
 guardB v568 true (
 bindS (ih 30 [v584] ⟨h582.t, h582.n, h582.n⟩) fun v585 h586 =>
 wroteS h582.low h586 fun h587 =>
 guardS v568 true (some (a16, h479)) h479 fun v588 _ =>
 guardS v568 true (notS v588 fun v589 =>
 some (v589, h479)) h479 fun v590 _ =>
 guardS v568 true (eqS .bool .eql v585 v590 fun v591 =>
 some (v591, h587)) h587 fun v592 h593 =>
 optS (pickV v568 v592 (.bool false)) fun v594 =>
 guardS v594 true (bindS (ih 22 [] h593) fun v595 h596 =>
 some (v595, h596)) h593 fun v597 h598 =>
 optS (pickV v594 v597 (.bool false)) fun v599 =>
 some (v599, h598)) (
 guardS v568 true (some (a16, h479)) h479 fun v600 _ =>
 guardS v568 true (notS v600 fun v601 =>
 some (v601, h479)) h479 fun v602 _ =>
 guardS v568 true (eqS .bool .eql undefV v602 fun v603 =>
 some (v603, h582)) h582 fun v604 h605 =>
 optS (pickV v568 v604 (.bool false)) fun v606 =>
 guardS v606 true (bindS (ih 22 [] h605) fun v607 h608 =>
 some (v607, h608)) h605 fun v609 h610 =>
 optS (pickV v606 v609 (.bool false)) fun v611 =>
 some (v611, h610))) (
 guardS v568 true (fldN 1 2 undefV fun v612 =>
 some (v612, h479)) h479 fun v613 _ =>
 guardB v568 true (
 bindS (ih 30 [v613] ⟨h479.t, h479.n, h479.n⟩) fun v614 h615 =>
 wroteS h479.low h615 fun h616 =>
 guardS v568 true (some (a16, h479)) h479 fun v617 _ =>
 guardS v568 true (notS v617 fun v618 =>
 some (v618, h479)) h479 fun v619 _ =>
 guardS v568 true (eqS .bool .eql v614 v619 fun v620 =>
 some (v620, h616)) h616 fun v621 h622 =>
 optS (pickV v568 v621 (.bool false)) fun v623 =>
 guardS v623 true (bindS (ih 22 [] h622) fun v624 h625 =>
 some (v624, h625)) h622 fun v626 h627 =>
 optS (pickV v623 v626 (.bool false)) fun v628 =>
 some (v628, h627)) (
 guardS v568 true (some (a16, h479)) h479 fun v629 _ =>
 guardS v568 true (notS v629 fun v630 =>
 some (v630, h479)) h479 fun v631 _ =>
 guardS v568 true (eqS .bool .eql undefV v631 fun v632 =>
 some (v632, h479)) h479 fun v633 h634 =>
 optS (pickV v568 v633 (.bool false)) fun v635 =>
 guardS v635 true (bindS (ih 22 [] h634) fun v636 h637 =>
 some (v636, h637)) h634 fun v638 h639 =>
 optS (pickV v635 v638 (.bool false)) fun v640 =>
 some (v640, h639))))) (
 guardS v465 true (fldN 1 2 undefV fun v641 =>
 some (v641, h)) h fun v642 _ =>
 guardB v465 true (
 bindS (ih 30 [v642] ⟨h.t, h.n, h.n⟩) fun v643 h644 =>
 wroteS h.low h644 fun h645 =>
 guardS v465 true (some (a17, h)) h fun v646 _ =>
 guardS v465 true (notS v646 fun v647 =>
 some (v647, h)) h fun v648 _ =>
 guardS v465 true (eqS .bool .eql v643 v648 fun v649 =>
 some (v649, h645)) h645 fun v650 _ =>
 optS (pickV v465 v650 (.bool false)) fun v651 =>
 guardS v651 true (some (a9, h645)) h645 fun v652 _ =>
 guardS v651 true (nilS v652 fun v653 =>
 some (v653, h645)) h645 fun v654 _ =>
 guardS v651 true (addrS 0 v654 fun v655 =>
 some (v655, h645)) h645 fun v656 _ =>
 guardS v651 true (load1 v656 h645 fun v657 =>
 some (v657, h645)) h645 fun v658 _ =>
 guardS v651 true (loadN 2 a14 h645 fun v659 =>
 some (v659, h645)) h645 fun v660 _ =>
 guardS v651 true (loadN 2 a15 h645 fun v661 =>
 some (v661, h645)) h645 fun v662 _ =>
 guardB v651 true (
 bindS (ih 26 [v658, (.int .u8 17), v660, v662] ⟨h645.t, h645.n, h645.n⟩) fun v663 h664 =>
 wroteS h645.low h664 fun h665 =>
 guardS v651 true (fldN 1 2 v663 fun v666 =>
 some (v666, h665)) h665 fun v667 _ =>
 guardB v651 true (
 bindS (ih 30 [v667] ⟨h665.t, h665.n, h665.n⟩) fun v668 h669 =>
 wroteS h665.low h669 fun h670 =>
 guardS v651 true (some (a16, h645)) h645 fun v671 _ =>
 guardS v651 true (notS v671 fun v672 =>
 some (v672, h645)) h645 fun v673 _ =>
 guardS v651 true (eqS .bool .eql v668 v673 fun v674 =>
 some (v674, h670)) h670 fun v675 h676 =>
 optS (pickV v651 v675 (.bool false)) fun v677 =>
 guardS v677 true (bindS (ih 22 [] h676) fun v678 h679 =>
 some (v678, h679)) h676 fun v680 h681 =>
 optS (pickV v677 v680 (.bool false)) fun v682 =>
 some (v682, h681)) (
 guardS v651 true (some (a16, h645)) h645 fun v683 _ =>
 guardS v651 true (notS v683 fun v684 =>
 some (v684, h645)) h645 fun v685 _ =>
 guardS v651 true (eqS .bool .eql undefV v685 fun v686 =>
 some (v686, h665)) h665 fun v687 h688 =>
 optS (pickV v651 v687 (.bool false)) fun v689 =>
 guardS v689 true (bindS (ih 22 [] h688) fun v690 h691 =>
 some (v690, h691)) h688 fun v692 h693 =>
 optS (pickV v689 v692 (.bool false)) fun v694 =>
 some (v694, h693))) (
 guardS v651 true (fldN 1 2 undefV fun v695 =>
 some (v695, h645)) h645 fun v696 _ =>
 guardB v651 true (
 bindS (ih 30 [v696] ⟨h645.t, h645.n, h645.n⟩) fun v697 h698 =>
 wroteS h645.low h698 fun h699 =>
 guardS v651 true (some (a16, h645)) h645 fun v700 _ =>
 guardS v651 true (notS v700 fun v701 =>
 some (v701, h645)) h645 fun v702 _ =>
 guardS v651 true (eqS .bool .eql v697 v702 fun v703 =>
 some (v703, h699)) h699 fun v704 h705 =>
 optS (pickV v651 v704 (.bool false)) fun v706 =>
 guardS v706 true (bindS (ih 22 [] h705) fun v707 h708 =>
 some (v707, h708)) h705 fun v709 h710 =>
 optS (pickV v706 v709 (.bool false)) fun v711 =>
 some (v711, h710)) (
 guardS v651 true (some (a16, h645)) h645 fun v712 _ =>
 guardS v651 true (notS v712 fun v713 =>
 some (v713, h645)) h645 fun v714 _ =>
 guardS v651 true (eqS .bool .eql undefV v714 fun v715 =>
 some (v715, h645)) h645 fun v716 h717 =>
 optS (pickV v651 v716 (.bool false)) fun v718 =>
 guardS v718 true (bindS (ih 22 [] h717) fun v719 h720 =>
 some (v719, h720)) h717 fun v721 h722 =>
 optS (pickV v718 v721 (.bool false)) fun v723 =>
 some (v723, h722)))) (
 guardS v465 true (some (a17, h)) h fun v724 _ =>
 guardS v465 true (notS v724 fun v725 =>
 some (v725, h)) h fun v726 _ =>
 guardS v465 true (eqS .bool .eql undefV v726 fun v727 =>
 some (v727, h)) h fun v728 _ =>
 optS (pickV v465 v728 (.bool false)) fun v729 =>
 guardS v729 true (some (a9, h)) h fun v730 _ =>
 guardS v729 true (nilS v730 fun v731 =>
 some (v731, h)) h fun v732 _ =>
 guardS v729 true (addrS 0 v732 fun v733 =>
 some (v733, h)) h fun v734 _ =>
 guardS v729 true (load1 v734 h fun v735 =>
 some (v735, h)) h fun v736 _ =>
 guardS v729 true (loadN 2 a14 h fun v737 =>
 some (v737, h)) h fun v738 _ =>
 guardS v729 true (loadN 2 a15 h fun v739 =>
 some (v739, h)) h fun v740 _ =>
 guardB v729 true (
 bindS (ih 26 [v736, (.int .u8 17), v738, v740] ⟨h.t, h.n, h.n⟩) fun v741 h742 =>
 wroteS h.low h742 fun h743 =>
 guardS v729 true (fldN 1 2 v741 fun v744 =>
 some (v744, h743)) h743 fun v745 _ =>
 guardB v729 true (
 bindS (ih 30 [v745] ⟨h743.t, h743.n, h743.n⟩) fun v746 h747 =>
 wroteS h743.low h747 fun h748 =>
 guardS v729 true (some (a16, h)) h fun v749 _ =>
 guardS v729 true (notS v749 fun v750 =>
 some (v750, h)) h fun v751 _ =>
 guardS v729 true (eqS .bool .eql v746 v751 fun v752 =>
 some (v752, h748)) h748 fun v753 h754 =>
 optS (pickV v729 v753 (.bool false)) fun v755 =>
 guardS v755 true (bindS (ih 22 [] h754) fun v756 h757 =>
 some (v756, h757)) h754 fun v758 h759 =>
 optS (pickV v755 v758 (.bool false)) fun v760 =>
 some (v760, h759)) (
 guardS v729 true (some (a16, h)) h fun v761 _ =>
 guardS v729 true (notS v761 fun v762 =>
 some (v762, h)) h fun v763 _ =>
 guardS v729 true (eqS .bool .eql undefV v763 fun v764 =>
 some (v764, h743)) h743 fun v765 h766 =>
 optS (pickV v729 v765 (.bool false)) fun v767 =>
 guardS v767 true (bindS (ih 22 [] h766) fun v768 h769 =>
 some (v768, h769)) h766 fun v770 h771 =>
 optS (pickV v767 v770 (.bool false)) fun v772 =>
 some (v772, h771))) (
 guardS v729 true (fldN 1 2 undefV fun v773 =>
 some (v773, h)) h fun v774 _ =>
 guardB v729 true (
 bindS (ih 30 [v774] ⟨h.t, h.n, h.n⟩) fun v775 h776 =>
 wroteS h.low h776 fun h777 =>
 guardS v729 true (some (a16, h)) h fun v778 _ =>
 guardS v729 true (notS v778 fun v779 =>
 some (v779, h)) h fun v780 _ =>
 guardS v729 true (eqS .bool .eql v775 v780 fun v781 =>
 some (v781, h777)) h777 fun v782 h783 =>
 optS (pickV v729 v782 (.bool false)) fun v784 =>
 guardS v784 true (bindS (ih 22 [] h783) fun v785 h786 =>
 some (v785, h786)) h783 fun v787 h788 =>
 optS (pickV v784 v787 (.bool false)) fun v789 =>
 some (v789, h788)) (
 guardS v729 true (some (a16, h)) h fun v790 _ =>
 guardS v729 true (notS v790 fun v791 =>
 some (v791, h)) h fun v792 _ =>
 guardS v729 true (eqS .bool .eql undefV v792 fun v793 =>
 some (v793, h)) h fun v794 h795 =>
 optS (pickV v729 v794 (.bool false)) fun v796 =>
 guardS v796 true (bindS (ih 22 [] h795) fun v797 h798 =>
 some (v797, h798)) h795 fun v799 h800 =>
 optS (pickV v796 v799 (.bool false)) fun v801 =>
 some (v801, h800))))))
def B97 (ih : II) (a9 a14 a15 a16 a17 a19 a200 a201 : V) (h : Hp) : VH :=
 idxA1 1 3 a200 a201 fun v802 =>
 ifS v802 (
 intS .add a19 (.int .i64 1) fun v803 =>
 ih 99 [a9, a14, a15, a16, a17, v803, a200, a201] h) (
 ih 99 [a9, a14, a15, a16, a17, a19, a200, a201] h)
def B99 (ih : II) (a9 a14 a15 a16 a17 a19 a200 a201 : V) (h : Hp) : VH :=
 intS .add a201 (.int .i64 1) fun v804 =>
 ih 95 [a9, a14, a15, a16, a17, a19, a200, v804] h
def B30 (ih : II) (a0 : V) (h : Hp) : VH :=
 newS 31 (vcells a0) h fun v0 h1 =>
 addrS 0 v0 fun v2 =>
 load1 v2 h1 fun v3 =>
 intS .neq v3 (.int .u8 0) fun v4 =>
 guardS v4 true (addrS 0 v0 fun v5 =>
 load1 v5 h1 fun v6 =>
 intS .neq v6 (.int .u8 1) fun v7 =>
 some (v7, h1)) h1 fun v8 h9 =>
 optS (pickV v4 v8 (.bool false)) fun v10 =>
 some (v10, h9)
def B26 (ih : II) (a0 a1 a2 a3 : V) (h : Hp) : VH :=
 newS 31 (vcells a2) h fun v0 h1 =>
 newS 31 (vcells a3) h1 fun v2 h3 =>
 newS 44 [(.int .u8 0), (.int .u8 0), (.int .i64 0), (.int .u8 0), (.int .i64 0), .nilSlice, (.int .u8 0)] h3 fun v4 h5 =>
 intS .eql a1 (.int .u8 11) fun v6 =>
 ifS v6 (
 loadN 2 v0 h5 fun v7 =>
 loadN 2 v2 h5 fun v8 =>
 bindS (ih 84 [a0, v7, v8] h5) fun v9 h10 =>
 storeN 7 v4 v9 h10 fun h11 =>
 loadN 7 v4 h11 fun v12 =>
 some (v12, h11)) (
 intS .eql a1 (.int .u8 13) fun v13 =>
 ifS v13 (
 ih 105 [a0, a1, v0, v2, v4, (.int .u8 3)] h5) (
 intS .eql a1 (.int .u8 12) fun v14 =>
 ifS v14 (
 ih 105 [a0, a1, v0, v2, v4, (.int .u8 2)] h5) (
 intS .eql a1 (.int .u8 16) fun v15 =>
 ifS v15 (
 loadN 2 v2 h5 fun v16 =>
 loadN 2 v0 h5 fun v17 =>
 storeN 2 v0 v16 h5 fun h18 =>
 storeN 2 v2 v17 h18 fun h19 =>
 ih 103 [a0, v0, v2, v4] h19) (
 intS .eql a1 (.int .u8 14) fun v20 =>
 ifS v20 (
 ih 103 [a0, v0, v2, v4] h5) (
 intS .eql a1 (.int .u8 17) fun v21 =>
 ifS v21 (
 loadN 2 v2 h5 fun v22 =>
 loadN 2 v0 h5 fun v23 =>
 storeN 2 v0 v22 h5 fun h24 =>
 storeN 2 v2 v23 h24 fun h25 =>
 ih 101 [a0, v0, v2, v4] h25) (
 intS .eql a1 (.int .u8 15) fun v26 =>
 ifS v26 (
 ih 101 [a0, v0, v2, v4] h5) (
 intS .geq a1 (.int .u8 1) fun v27 =>
 guardS v27 true (intS .leq a1 (.int .u8 10) fun v28 =>
 some (v28, h5)) h5 fun v29 h30 =>
 optS (pickV v27 v29 (.bool false)) fun v31 =>
 ifS v31 (
 loadN 2 v0 h30 fun v32 =>
 loadN 2 v2 h30 fun v33 =>
 bindS (ih 92 [a0, a1, v32, v33] h30) fun v34 h35 =>
 storeN 7 v4 v34 h35 fun h36 =>
 loadN 7 v4 h36 fun v37 =>
 some (v37, h36)) (
 bindS (ih 70 [a0, (.str ⟨17, 37579152220485552510824319342481281937262⟩)] h30) fun v38 h39 =>
 storeN 7 v4 v38 h39 fun h40 =>
 loadN 7 v4 h40 fun v41 =>
 some (v41, h40)))))))))
def B101 (ih : II) (a0 a6 a7 a8 : V) (h : Hp) : VH :=
 loadN 2 a6 h fun v42 =>
 loadN 2 a7 h fun v43 =>
 bindS (ih 90 [a0, (.int .u8 15), (.str ⟨4, 1701601119⟩), v42, v43] h) fun v44 h45 =>
 storeN 7 a8 v44 h45 fun h46 =>
 loadN 7 a8 h46 fun v47 =>
 some (v47, h46)
def B103 (ih : II) (a0 a6 a7 a8 : V) (h : Hp) : VH :=
 loadN 2 a6 h fun v48 =>
 loadN 2 a7 h fun v49 =>
 bindS (ih 90 [a0, (.int .u8 14), (.str ⟨4, 1953259359⟩), v48, v49] h) fun v50 h51 =>
 storeN 7 a8 v50 h51 fun h52 =>
 loadN 7 a8 h52 fun v53 =>
 some (v53, h52)
def B105 (ih : II) (a0 a1 a6 a7 a8 a9 : V) (h : Hp) : VH :=
 loadN 2 a6 h fun v54 =>
 loadN 2 a7 h fun v55 =>
 bindS (vh h (eqOp .neq (cmpV [(0, .int .u8), (1, .int .i64)] v54 v55))) fun v56 h57 =>
 guardS v56 true (addrS 0 a6 fun v58 =>
 load1 v58 h57 fun v59 =>
 intS .eql v59 (.int .u8 5) fun v60 =>
 some (v60, h57)) h57 fun v61 h62 =>
 optS (pickV v56 v61 (.bool false)) fun v63 =>
 guardS v63 true (addrS 0 a7 fun v64 =>
 load1 v64 h62 fun v65 =>
 intS .eql v65 (.int .u8 5) fun v66 =>
 some (v66, h62)) h62 fun v67 h68 =>
 optS (pickV v63 v67 (.bool false)) fun v69 =>
 ifS v69 (
 loadN 2 a6 h68 fun v70 =>
 loadN 2 a7 h68 fun v71 =>
 bindS (ih 86 [a0, (.str ⟨4, 1902468959⟩), v70, v71] h68) fun v72 h73 =>
 newS 31 [(.int .u8 0), (.int .i64 0)] h73 fun v74 h75 =>
 storeN 2 v74 v72 h75 fun h76 =>
 addrS 0 v74 fun v77 =>
 load1 v77 h76 fun v78 =>
 intS .neq v78 (.int .u8 0) fun v79 =>
 ifS v79 (
 loadN 2 v74 h76 fun v80 =>
 loadN 2 a6 h76 fun v81 =>
 loadN 2 a7 h76 fun v82 =>
 bindS (bldSl h76 [(0, v81), (1, v82)] 31 2 2 (.agg [(.int .u8 0), (.int .i64 0)])) fun v83 h84 =>
 bindS (ih 76 [v80, a9, v83] h84) fun v85 h86 =>
 storeN 7 a8 v85 h86 fun h87 =>
 loadN 7 a8 h87 fun v88 =>
 some (v88, h87)) (
 ih 107 [a1, a6, a7, a8] h76)) (
 ih 107 [a1, a6, a7, a8] h68)
def B107 (ih : II) (a1 a6 a7 a8 : V) (h : Hp) : VH :=
 loadN 2 a6 h fun v89 =>
 loadN 2 a7 h fun v90 =>
 bindS (vh h (eqOp .eql (cmpV [(0, .int .u8), (1, .int .i64)] v89 v90))) fun v91 h92 =>
 intS .eql a1 (.int .u8 12) fun v93 =>
 eqS .bool .eql v91 v93 fun v94 =>
 bindS (ih 88 [v94] h92) fun v95 h96 =>
 bindS (ih 82 [v95] h96) fun v97 h98 =>
 storeN 7 a8 v97 h98 fun h99 =>
 loadN 7 a8 h99 fun v100 =>
 some (v100, h99)
def B28 (ih : II) (a0 a1 a2 : V) (h : Hp) : VH :=
 newS 31 (vcells a2) h fun v0 h1 =>
 newS 44 [(.int .u8 0), (.int .u8 0), (.int .i64 0), (.int .u8 0), (.int .i64 0), .nilSlice, (.int .u8 0)] h1 fun v2 h3 =>
 intS .eql a1 (.int .u8 21) fun v4 =>
 ifS v4 (
 ih 109 [a0, a1, v0, v2, (.str ⟨6, 128021942132575⟩)] h3) (
 intS .eql a1 (.int .u8 18) fun v5 =>
 ifS v5 (
 ih 109 [a0, a1, v0, v2, (.str ⟨5, 470004621151⟩)] h3) (
 intS .eql a1 (.int .u8 19) fun v6 =>
 ifS v6 (
 loadN 2 v0 h3 fun v7 =>
 bindS (ih 30 [v7] h3) fun v8 h9 =>
 notS v8 fun v10 =>
 bindS (ih 88 [v10] h9) fun v11 h12 =>
 bindS (ih 82 [v11] h12) fun v13 h14 =>
 storeN 7 v2 v13 h14 fun h15 =>
 loadN 7 v2 h15 fun v16 =>
 some (v16, h15)) (
 intS .eql a1 (.int .u8 20) fun v17 =>
 ifS v17 (
 loadN 2 v0 h3 fun v18 =>
 bindS (ih 98 [a0, v18] h3) fun v19 h20 =>
 storeN 7 v2 v19 h20 fun h21 =>
 loadN 7 v2 h21 fun v22 =>
 some (v22, h21)) (
 bindS (ih 70 [a0, (.str ⟨17, 37579152220485552510824319342481281937262⟩)] h3) fun v23 h24 =>
 storeN 7 v2 v23 h24 fun h25 =>
 loadN 7 v2 h25 fun v26 =>
 some (v26, h25)))))
def B109 (ih : II) (a0 a1 a5 a6 a7 : V) (h : Hp) : VH :=
 addrS 0 a5 fun v27 =>
 load1 v27 h fun v28 =>
 intS .eql v28 (.int .u8 3) fun v29 =>
 ifS v29 (
 addrS 1 a5 fun v30 =>
 load1 v30 h fun v31 =>
 bindS (ih 94 [a1, v31, (.int .i64 0)] h) fun v32 h33 =>
 extS 0 v32 fun v34 =>
 extS 1 v32 fun v35 =>
 bindS (bldStruct h33 [(0, (.int .u8 3)), (1, v34)] (.agg [(.int .u8 0), (.int .i64 0)]) (some [(0, 1), (1, 1)])) fun v36 h37 =>
 bindS (ih 82 [v36] h37) fun v38 h39 =>
 storeN 7 a6 v38 h39 fun h40 =>
 loadN 7 a6 h40 fun v41 =>
 some (v41, h40)) (
 newS 31 [(.int .u8 0), (.int .i64 0)] h fun v42 h43 =>
 bindS (ih 64 [a0, a7] ⟨h43.t, h43.n, h43.n⟩) fun v44 h45 =>
 cD ((pureB h43 h45 || sameLd h43 h45 (fent v42 31 [(.int .u8 0), (.int .i64 0)])) && true) (
 wroteS h43.low h45 fun h46 =>
 loadN 2 a5 h43 fun v47 =>
 cD (((pureB h43 h45) || sameA h43 h46 a5 (vcells v47).length) && true) (
 bindS (dynE ih v44 [v47] ⟨h46.t, h46.n, h46.n⟩) fun v48 h49 =>
 cD ((pureB h46 h49 || sameLd h46 h49 (fent v42 31 [(.int .u8 0), (.int .i64 0)])) && true) (
 wroteS h46.low h49 fun h50 =>
 storeN 2 v42 v48 h50 fun h51 =>
 addrS 0 v42 fun v52 =>
 load1 v52 h51 fun v53 =>
 intS .neq v53 (.int .u8 0) fun v54 =>
 ifS v54 (
 loadN 2 v42 h51 fun v55 =>
 loadN 2 a5 h51 fun v56 =>
 loadN 2 a5 h51 fun v57 =>
 bindS (bldSl h51 [(0, v56), (1, v57)] 31 2 2 (.agg [(.int .u8 0), (.int .i64 0)])) fun v58 h59 =>
 bindS (ih 76 [v55, (.int .u8 1), v58] h59) fun v60 h61 =>
 storeN 7 a6 v60 h61 fun h62 =>
 loadN 7 a6 h62 fun v63 =>
 some (v63, h62)) (
 loadN 2 a5 h51 fun v64 =>
 bindS (ih 96 [a0, a1, v64] h51) fun v65 h66 =>
 storeN 7 a6 v65 h66 fun h67 =>
 loadN 7 a6 h67 fun v68 =>
 some (v68, h67))) none) none) none)
def B88 (ih : II) (a0 : V) (h : Hp) : VH :=
 newS 31 [(.int .u8 0), (.int .i64 0)] h fun v0 h1 =>
 ifS a0 (
 bindS (bldStruct h1 [(0, (.int .u8 2))] (.agg [(.int .u8 0), (.int .i64 0)]) (some [(0, 1), (1, 1)])) fun v2 h3 =>
 storeN 2 v0 v2 h3 fun h4 =>
 loadN 2 v0 h4 fun v5 =>
 some (v5, h4)) (
 bindS (bldStruct h1 [(0, (.int .u8 1))] (.agg [(.int .u8 0), (.int .i64 0)]) (some [(0, 1), (1, 1)])) fun v6 h7 =>
 storeN 2 v0 v6 h7 fun h8 =>
 loadN 2 v0 h8 fun v9 =>
 some (v9, h8))
def B86 (ih : II) (a0 a1 a2 a3 : V) (h : Hp) : VH :=
 newS 31 (vcells a2) h fun v0 h1 =>
 newS 31 (vcells a3) h1 fun v2 h3 =>
 newS 31 [(.int .u8 0), (.int .i64 0)] h3 fun v4 h5 =>
 bindS (ih 64 [a0, a1] h5) fun v6 h7 =>
 loadN 2 v0 h7 fun v8 =>
 bindS (dynE ih v6 [v8] h7) fun v9 h10 =>
 newS 31 [(.int .u8 0), (.int .i64 0)] h10 fun v11 h12 =>
 storeN 2 v11 v9 h12 fun h13 =>
 addrS 0 v11 fun v14 =>
 load1 v14 h13 fun v15 =>
 intS .neq v15 (.int .u8 0) fun v16 =>
 ifS v16 (
 loadN 2 v11 h13 fun v17 =>
 storeN 2 v4 v17 h13 fun h18 =>
 loadN 2 v4 h18 fun v19 =>
 some (v19, h18)) (
 loadN 2 v2 h13 fun v20 =>
 bindS (dynE ih v6 [v20] h13) fun v21 h22 =>
 storeN 2 v4 v21 h22 fun h23 =>
 loadN 2 v4 h23 fun v24 =>
 some (v24, h23))
def B90 (ih : II) (a0 a1 a2 a3 a4 : V) (h : Hp) : VH :=
 newS 31 (vcells a3) h fun v0 h1 =>
 newS 31 (vcells a4) h1 fun v2 h3 =>
 newS 44 [(.int .u8 0), (.int .u8 0), (.int .i64 0), (.int .u8 0), (.int .i64 0), .nilSlice, (.int .u8 0)] h3 fun v4 h5 =>
 addrS 0 v0 fun v6 =>
 load1 v6 h5 fun v7 =>
 intS .eql v7 (.int .u8 3) fun v8 =>
 guardS v8 true (addrS 0 v2 fun v9 =>
 load1 v9 h5 fun v10 =>
 intS .eql v10 (.int .u8 3) fun v11 =>
 some (v11, h5)) h5 fun v12 h13 =>
 optS (pickV v8 v12 (.bool false)) fun v14 =>
 ifS v14 (
 addrS 1 v0 fun v15 =>
 load1 v15 h13 fun v16 =>
 addrS 1 v2 fun v17 =>
 load1 v17 h13 fun v18 =>
 bindS (ih 156 [a1, v16, v18] h13) fun v19 h20 =>
 extS 0 v19 fun v21 =>
 extS 1 v19 fun v22 =>
 bindS (ih 88 [v21] h20) fun v23 h24 =>
 bindS (ih 82 [v23] h24) fun v25 h26 =>
 storeN 7 v4 v25 h26 fun h27 =>
 loadN 7 v4 h27 fun v28 =>
 some (v28, h27)) (
 addrS 0 v0 fun v29 =>
 load1 v29 h13 fun v30 =>
 intS .eql v30 (.int .u8 4) fun v31 =>
 guardS v31 true (addrS 0 v2 fun v32 =>
 load1 v32 h13 fun v33 =>
 intS .eql v33 (.int .u8 4) fun v34 =>
 some (v34, h13)) h13 fun v35 h36 =>
 optS (pickV v31 v35 (.bool false)) fun v37 =>
 ifS v37 (
 loadN 2 v0 h36 fun v38 =>
 bindS (ih 78 [a0, v38] h36) fun v39 h40 =>
 extS 0 v39 fun v41 =>
 extS 1 v39 fun v42 =>
 loadN 2 v2 h40 fun v43 =>
 bindS (ih 78 [a0, v43] h40) fun v44 h45 =>
 extS 0 v44 fun v46 =>
 extS 1 v44 fun v47 =>
 bindS (ih 158 [v41, v46] h45) fun v48 h49 =>
 intS .lss v48 (.int .i64 0) fun v50 =>
 guardS v50 false (intS .eql v48 (.int .i64 0) fun v51 =>
 some (v51, h49)) h49 fun v52 h53 =>
 guardS v52 true (intS .eql a1 (.int .u8 15) fun v54 =>
 some (v54, h53)) h53 fun v55 h56 =>
 guardS v50 false (optS (pickV v52 v55 (.bool false)) fun v57 =>
 some (v57, h56)) h56 fun v58 h59 =>
 optS (pickV v50 (.bool true) v58) fun v60 =>
 bindS (ih 88 [v60] h59) fun v61 h62 =>
 bindS (ih 82 [v61] h62) fun v63 h64 =>
 storeN 7 v4 v63 h64 fun h65 =>
 loadN 7 v4 h65 fun v66 =>
 some (v66, h65)) (
 loadN 2 v0 h36 fun v67 =>
 loadN 2 v2 h36 fun v68 =>
 bindS (ih 86 [a0, a2, v67, v68] h36) fun v69 h70 =>
 newS 31 [(.int .u8 0), (.int .i64 0)] h70 fun v71 h72 =>
 storeN 2 v71 v69 h72 fun h73 =>
 addrS 0 v71 fun v74 =>
 load1 v74 h73 fun v75 =>
 intS .neq v75 (.int .u8 0) fun v76 =>
 ifS v76 (
 loadN 2 v71 h73 fun v77 =>
 loadN 2 v0 h73 fun v78 =>
 loadN 2 v2 h73 fun v79 =>
 bindS (bldSl h73 [(0, v78), (1, v79)] 31 2 2 (.agg [(.int .u8 0), (.int .i64 0)])) fun v80 h81 =>
 bindS (ih 76 [v77, (.int .u8 2), v80] h81) fun v82 h83 =>
 storeN 7 v4 v82 h83 fun h84 =>
 loadN 7 v4 h84 fun v85 =>
 some (v85, h84)) (
 loadN 2 v0 h73 fun v86 =>
 bindS (ih 72 [v86] ⟨h73.t, h73.n, h73.n⟩) fun v87 h88 =>
 wroteS h73.low h88 fun h89 =>
 loadN 2 v2 h73 fun v90 =>
 cD (((pureB h73 h88) || sameA h73 h89 v2 (vcells v90).length) && true) (
 bindS (ih 72 [v90] h89) fun v91 h92 =>
 strS .eql v87 v91 fun v93 =>
 ifS v93 (
 loadN 2 v0 h92 fun v94 =>
 bindS (ih 72 [v94] h92) fun v95 h96 =>
 strS .add (.str ⟨23, 3106695693918405555993810171415959555912596459491718241⟩) v95 fun v97 =>
 strS .add v97 (.str ⟨7, 32481177325631008⟩) fun v98 =>
 bindS (ih 70 [a0, v98] h96) fun v99 h100 =>
 storeN 7 v4 v99 h100 fun h101 =>
 loadN 7 v4 h101 fun v102 =>
 some (v102, h101)) (
 loadN 2 v0 h92 fun v103 =>
 bindS (ih 72 [v103] ⟨h92.t, h92.n, h92.n⟩) fun v104 h105 =>
 wroteS h92.low h105 fun h106 =>
 strS .add (.str ⟨19, 722461108940789159369092228143492898416260193⟩) v104 fun v107 =>
 strS .add v107 (.str ⟨6, 35633001756448⟩) fun v108 =>
 loadN 2 v2 h92 fun v109 =>
 cD (((pureB h92 h105) || sameA h92 h106 v2 (vcells v109).length) && true) (
 bindS (ih 72 [v109] ⟨h106.t, h106.n, h106.n⟩) fun v110 h111 =>
 wroteS h106.low h111 fun h112 =>
 strS .add v108 v110 fun v113 =>
 bindS (ih 70 [a0, v113] h112) fun v114 h115 =>
 storeN 7 v4 v114 h115 fun h116 =>
 loadN 7 v4 h116 fun v117 =>
 some (v117, h116)) none)) none)))
def B92 (ih : II) (a0 a1 a2 a3 : V) (h : Hp) : VH :=
 newS 31 (vcells a2) h fun v0 h1 =>
 newS 31 (vcells a3) h1 fun v2 h3 =>
 newS 44 [(.int .u8 0), (.int .u8 0), (.int .i64 0), (.int .u8 0), (.int .i64 0), .nilSlice, (.int .u8 0)] h3 fun v4 h5 =>
 addrS 0 v0 fun v6 =>
 load1 v6 h5 fun v7 =>
 intS .eql v7 (.int .u8 3) fun v8 =>
 guardS v8 true (addrS 0 v2 fun v9 =>
 load1 v9 h5 fun v10 =>
 intS .eql v10 (.int .u8 3) fun v11 =>
 some (v11, h5)) h5 fun v12 h13 =>
 optS (pickV v8 v12 (.bool false)) fun v14 =>
 ifS v14 (
 addrS 1 v0 fun v15 =>
 load1 v15 h13 fun v16 =>
 addrS 1 v2 fun v17 =>
 load1 v17 h13 fun v18 =>
 bindS (ih 94 [a1, v16, v18] h13) fun v19 h20 =>
 extS 0 v19 fun v21 =>
 extS 1 v19 fun v22 =>
 intS .eql v22 (.int .i64 0) fun v23 =>
 ifS v23 (
 bindS (bldStruct h20 [(0, (.int .u8 3)), (1, v21)] (.agg [(.int .u8 0), (.int .i64 0)]) (some [(0, 1), (1, 1)])) fun v24 h25 =>
 bindS (ih 82 [v24] h25) fun v26 h27 =>
 storeN 7 v4 v26 h27 fun h28 =>
 loadN 7 v4 h28 fun v29 =>
 some (v29, h28)) (
 intS .eql a1 (.int .u8 5) fun v30 =>
 ifS v30 (
 bindS (ih 70 [a0, (.str ⟨25, 245987482155735867503599629281441407907063281635310322349153⟩)] h20) fun v31 h32 =>
 storeN 7 v4 v31 h32 fun h33 =>
 loadN 7 v4 h33 fun v34 =>
 some (v34, h33)) (
 bindS (ih 70 [a0, (.str ⟨25, 245988443706893100251247573849766548603987573666448997119073⟩)] h20) fun v35 h36 =>
 storeN 7 v4 v35 h36 fun h37 =>
 loadN 7 v4 h37 fun v38 =>
 some (v38, h37)))) (
 bindS (bldArr h13 [(1, (.str ⟨5, 431180832607⟩)), (2, (.str ⟨5, 422877290335⟩)), (3, (.str ⟨5, 465826570079⟩)), (4, (.str ⟨6, 130195028270943⟩)), (5, (.str ⟨5, 431366168415⟩)), (6, (.str ⟨6, 110425243017055⟩)), (7, (.str ⟨5, 491494989663⟩)), (8, (.str ⟨6, 125823086649183⟩)), (9, (.str ⟨5, 465608859487⟩)), (10, (.str ⟨5, 491378663263⟩))] (.agg [(.str ⟨0, 0⟩), (.str ⟨0, 0⟩), (.str ⟨0, 0⟩), (.str ⟨0, 0⟩), (.str ⟨0, 0⟩), (.str ⟨0, 0⟩), (.str ⟨0, 0⟩), (.str ⟨0, 0⟩), (.str ⟨0, 0⟩), (.str ⟨0, 0⟩), (.str ⟨0, 0⟩)]) 1) fun v39 h40 =>
 newS 135 [(.str ⟨0, 0⟩), (.str ⟨0, 0⟩), (.str ⟨0, 0⟩), (.str ⟨0, 0⟩), (.str ⟨0, 0⟩), (.str ⟨0, 0⟩), (.str ⟨0, 0⟩), (.str ⟨0, 0⟩), (.str ⟨0, 0⟩), (.str ⟨0, 0⟩), (.str ⟨0, 0⟩)] h40 fun v41 h42 =>
 storeN 11 v41 v39 h42 fun h43 =>
 newS 31 [(.int .u8 0), (.int .i64 0)] h43 fun v44 h45 =>
 idxP 1 11 v41 a1 fun v46 =>
 load1 v46 h45 fun v47 =>
 loadN 2 v0 h45 fun v48 =>
 loadN 2 v2 h45 fun v49 =>
 bindS (ih 86 [a0, v47, v48, v49] ⟨h45.t, h45.n, h45.n⟩) fun v50 h51 =>
 cD ((pureB h45 h51 || sameLd h45 h51 (fent v44 31 [(.int .u8 0), (.int .i64 0)])) && true) (
 wroteS h45.low h51 fun h52 =>
 storeN 2 v44 v50 h52 fun h53 =>
 addrS 0 v44 fun v54 =>
 load1 v54 h53 fun v55 =>
 intS .neq v55 (.int .u8 0) fun v56 =>
 ifS v56 (
 loadN 2 v44 h53 fun v57 =>
 loadN 2 v0 h53 fun v58 =>
 loadN 2 v2 h53 fun v59 =>
 bindS (bldSl h53 [(0, v58), (1, v59)] 31 2 2 (.agg [(.int .u8 0), (.int .i64 0)])) fun v60 h61 =>
 bindS (ih 76 [v57, (.int .u8 1), v60] h61) fun v62 h63 =>
 storeN 7 v4 v62 h63 fun h64 =>
 loadN 7 v4 h64 fun v65 =>
 some (v65, h64)) (
 addrS 0 v0 fun v66 =>
 load1 v66 h53 fun v67 =>
 intS .eql v67 (.int .u8 3) fun v68 =>
 ifS v68 (
 loadN 2 v2 h53 fun v69 =>
 storeN 2 v0 v69 h53 fun h70 =>
 ih 111 [a0, a1, v0, v4] h70) (
 ih 111 [a0, a1, v0, v4] h53))) none)
def B111 (ih : II) (a0 a1 a6 a8 : V) (h : Hp) : VH :=
 loadN 2 a6 h fun v71 =>
 bindS (ih 96 [a0, a1, v71] h) fun v72 h73 =>
 storeN 7 a8 v72 h73 fun h74 =>
 loadN 7 a8 h74 fun v75 =>
 some (v75, h74)
def B84 (ih : II) (a0 a1 a2 : V) (h : Hp) : VH :=
 newS 31 (vcells a1) h fun v0 h1 =>
 newS 31 (vcells a2) h1 fun v2 h3 =>
 newS 44 [(.int .u8 0), (.int .u8 0), (.int .i64 0), (.int .u8 0), (.int .i64 0), .nilSlice, (.int .u8 0)] h3 fun v4 h5 =>
 loadN 2 v0 h5 fun v6 =>
 bindS (ih 154 [a0, v6] h5) fun v7 h8 =>
 extS 0 v7 fun v9 =>
 extS 1 v7 fun v10 =>
 loadN 2 v2 h8 fun v11 =>
 bindS (ih 154 [a0, v11] h8) fun v12 h13 =>
 extS 0 v12 fun v14 =>
 extS 1 v12 fun v15 =>
 guardS v10 true (some (v15, h13)) h13 fun v16 h17 =>
 optS (pickV v10 v16 (.bool false)) fun v18 =>
 ifS v18 (
 bindS (lenStr v9 fun v => some (v, h17)) fun v19 h20 =>
 bindS (lenStr v14 fun v => some (v, h20)) fun v21 h22 =>
 intS .add v19 v21 fun v23 =>
 intS .gtr v23 (.int .i64 65535) fun v24 =>
 ifS v24 (
 bindS (ih 70 [a0, (.str ⟨22, 44686031417036942490055291057966380979388468738290803⟩)] h22) fun v25 h26 =>
 storeN 7 v4 v25 h26 fun h27 =>
 loadN 7 v4 h27 fun v28 =>
 some (v28, h27)) (
 strS .add v9 v14 fun v29 =>
 bindS (ih 152 [a0, (.int .u8 1), v29] h22) fun v30 h31 =>
 storeN 7 v4 v30 h31 fun h32 =>
 loadN 7 v4 h32 fun v33 =>
 some (v33, h32))) (
 loadN 2 v0 h17 fun v34 =>
 loadN 2 v2 h17 fun v35 =>
 bindS (ih 86 [a0, (.str ⟨8, 8386093307106910047⟩), v34, v35] h17) fun v36 h37 =>
 newS 31 [(.int .u8 0), (.int .i64 0)] h37 fun v38 h39 =>
 storeN 2 v38 v36 h39 fun h40 =>
 addrS 0 v38 fun v41 =>
 load1 v41 h40 fun v42 =>
 intS .neq v42 (.int .u8 0) fun v43 =>
 ifS v43 (
 loadN 2 v38 h40 fun v44 =>
 loadN 2 v0 h40 fun v45 =>
 loadN 2 v2 h40 fun v46 =>
 bindS (bldSl h40 [(0, v45), (1, v46)] 31 2 2 (.agg [(.int .u8 0), (.int .i64 0)])) fun v47 h48 =>
 bindS (ih 76 [v44, (.int .u8 1), v47] h48) fun v49 h50 =>
 storeN 7 v4 v49 h50 fun h51 =>
 loadN 7 v4 h51 fun v52 =>
 some (v52, h51)) (
 ifS v10 (
 loadN 2 v2 h40 fun v53 =>
 storeN 2 v0 v53 h40 fun h54 =>
 ih 113 [a0, v0, v4] h54) (
 ih 113 [a0, v0, v4] h40)))
def B113 (ih : II) (a0 a4 a6 : V) (h : Hp) : VH :=
 loadN 2 a4 h fun v55 =>
 bindS (ih 72 [v55] h) fun v56 h57 =>
 strS .add (.str ⟨25, 203248791561556134511529560274819530506140544242973324637281⟩) v56 fun v58 =>
 strS .add v58 (.str ⟨6, 111555003905568⟩) fun v59 =>
 bindS (ih 70 [a0, v59] h57) fun v60 h61 =>
 storeN 7 a6 v60 h61 fun h62 =>
 loadN 7 a6 h62 fun v63 =>
 some (v63, h62)
def B96 (ih : II) (a0 a1 a2 : V) (h : Hp) : VH :=
 newS 31 (vcells a2) h fun v0 h1 =>
 newS 44 [(.int .u8 0), (.int .u8 0), (.int .i64 0), (.int .u8 0), (.int .i64 0), .nilSlice, (.int .u8 0)] h1 fun v2 h3 =>
 intS .geq a1 (.int .u8 6) fun v4 =>
 guardS v4 true (intS .leq a1 (.int .u8 10) fun v5 =>
 some (v5, h3)) h3 fun v6 h7 =>
 optS (pickV v4 v6 (.bool false)) fun v8 =>
 guardS v8 false (intS .eql a1 (.int .u8 21) fun v9 =>
 some (v9, h7)) h7 fun v10 h11 =>
 optS (pickV v8 (.bool true) v10) fun v12 =>
 ifS v12 (
 ih 115 [a0, v0, v2, (.str ⟨17, 37579152220485552510824318515597070854498⟩)] h11) (
 ih 115 [a0, v0, v2, (.str ⟨10, 469459577162010823586401⟩)] h11)
def B115 (ih : II) (a0 a5 a6 a7 : V) (h : Hp) : VH :=
 strS .add (.str ⟨19, 723158025785612837535437407093736734585025633⟩) a7 fun v13 =>
 strS .add v13 (.str ⟨6, 35601528024864⟩) fun v14 =>
 loadN 2 a5 h fun v15 =>
 bindS (ih 72 [v15] h) fun v16 h17 =>
 strS .add v14 v16 fun v18 =>
 strS .add v18 (.str ⟨6, 111555003905568⟩) fun v19 =>
 bindS (ih 70 [a0, v19] h17) fun v20 h21 =>
 storeN 7 a6 v20 h21 fun h22 =>
 loadN 7 a6 h22 fun v23 =>
 some (v23, h22)
def B94 (ih : II) (a0 a1 a2 : V) (h : Hp) : VH :=
 intS .eql a0 (.int .u8 1) fun v0 =>
 ifS v0 (
 intS .add a1 a2 fun v1 =>
 some (.tuple [v1, (.int .i64 0)], h)) (
 intS .eql a0 (.int .u8 2) fun v2 =>
 ifS v2 (
 intS .sub a1 a2 fun v3 =>
 some (.tuple [v3, (.int .i64 0)], h)) (
 intS .eql a0 (.int .u8 3) fun v4 =>
 ifS v4 (
 intS .mul a1 a2 fun v5 =>
 some (.tuple [v5, (.int .i64 0)], h)) (
 intS .eql a0 (.int .u8 4) fun v6 =>
 ifS v6 (
 ih 117 [a0, a1, a2, a0, v6] h) (
 intS .eql a0 (.int .u8 5) fun v7 =>
 ih 117 [a0, a1, a2, a0, v7] h))))
def B117 (ih : II) (a0 a1 a2 a10 a26 : V) (h : Hp) : VH :=
 ifS a26 (
 intS .eql a2 (.int .i64 0) fun v8 =>
 ifS v8 (
 some (.tuple [(.int .i64 0), (.int .i64 20)], h)) (
 bindS (ih 160 [a1, a2] h) fun v9 h10 =>
 extS 0 v9 fun v11 =>
 extS 1 v9 fun v12 =>
 intS .eql a0 (.int .u8 5) fun v13 =>
 ifS v13 (
 some (.tuple [v12, (.int .i64 0)], h10)) (
 some (.tuple [v11, (.int .i64 0)], h10)))) (
 intS .eql a10 (.int .u8 6) fun v14 =>
 ifS v14 (
 intS .and a1 a2 fun v15 =>
 some (.tuple [v15, (.int .i64 0)], h)) (
 intS .eql a10 (.int .u8 7) fun v16 =>
 ifS v16 (
 intS .or a1 a2 fun v17 =>
 some (.tuple [v17, (.int .i64 0)], h)) (
 intS .eql a10 (.int .u8 8) fun v18 =>
 ifS v18 (
 intS .xor a1 a2 fun v19 =>
 some (.tuple [v19, (.int .i64 0)], h)) (
 intS .eql a10 (.int .u8 9) fun v20 =>
 ifS v20 (
 bindS (ih 162 [a1, a2] h) fun v21 h22 =>
 some (.tuple [v21, (.int .i64 0)], h22)) (
 intS .eql a10 (.int .u8 10) fun v23 =>
 ifS v23 (
 intS .eql a2 (.int .i64 (-9223372036854775808)) fun v24 =>
 ifS v24 (
 some (.tuple [(.int .i64 0), (.int .i64 0)], h)) (
 negS a2 fun v25 =>
 bindS (ih 162 [a1, v25] h) fun v26 h27 =>
 some (.tuple [v26, (.int .i64 0)], h27))) (
 intS .eql a10 (.int .u8 18) fun v28 =>
 ifS v28 (
 negS a1 fun v29 =>
 some (.tuple [v29, (.int .i64 0)], h)) (
 intS .eql a10 (.int .u8 21) fun v30 =>
 ifS v30 (
 bindS (vh h (xorV a1)) fun v31 h32 =>
 some (.tuple [v31, (.int .i64 0)], h32)) (
 some (.tuple [(.int .i64 0), (.int .i64 2)], h)))))))))
def B98 (ih : II) (a0 a1 : V) (h : Hp) : VH :=
 newS 31 (vcells a1) h fun v0 h1 =>
 newS 44 [(.int .u8 0), (.int .u8 0), (.int .i64 0), (.int .u8 0), (.int .i64 0), .nilSlice, (.int .u8 0)] h1 fun v2 h3 =>
 addrS 0 v0 fun v4 =>
 load1 v4 h3 fun v5 =>
 intS .eql v5 (.int .u8 4) fun v6 =>
 ifS v6 (
 loadN 2 v0 h3 fun v7 =>
 bindS (ih 78 [a0, v7] h3) fun v8 h9 =>
 extS 0 v8 fun v10 =>
 extS 1 v8 fun v11 =>
 bindS (lenStr v10 fun v => some (v, h9)) fun v12 h13 =>
 bindS (bldStruct h13 [(0, (.int .u8 3)), (1, v12)] (.agg [(.int .u8 0), (.int .i64 0)]) (some [(0, 1), (1, 1)])) fun v14 h15 =>
 bindS (ih 82 [v14] h15) fun v16 h17 =>
 storeN 7 v2 v16 h17 fun h18 =>
 loadN 7 v2 h18 fun v19 =>
 some (v19, h18)) (
 newS 31 [(.int .u8 0), (.int .i64 0)] h3 fun v20 h21 =>
 bindS (ih 64 [a0, (.str ⟨5, 474148003679⟩)] ⟨h21.t, h21.n, h21.n⟩) fun v22 h23 =>
 cD ((pureB h21 h23 || sameLd h21 h23 (fent v20 31 [(.int .u8 0), (.int .i64 0)])) && true) (
 wroteS h21.low h23 fun h24 =>
 loadN 2 v0 h21 fun v25 =>
 cD (((pureB h21 h23) || sameA h21 h24 v0 (vcells v25).length) && true) (
 bindS (dynE ih v22 [v25] ⟨h24.t, h24.n, h24.n⟩) fun v26 h27 =>
 cD ((pureB h24 h27 || sameLd h24 h27 (fent v20 31 [(.int .u8 0), (.int .i64 0)])) && true) (
 wroteS h24.low h27 fun h28 =>
 storeN 2 v20 v26 h28 fun h29 =>
 addrS 0 v20 fun v30 =>
 load1 v30 h29 fun v31 =>
 intS .neq v31 (.int .u8 0) fun v32 =>
 ifS v32 (
 loadN 2 v20 h29 fun v33 =>
 loadN 2 v0 h29 fun v34 =>
 bindS (bldSl h29 [(0, v34)] 31 1 2 (.agg [(.int .u8 0), (.int .i64 0)])) fun v35 h36 =>
 bindS (ih 76 [v33, (.int .u8 1), v35] h36) fun v37 h38 =>
 storeN 7 v2 v37 h38 fun h39 =>
 loadN 7 v2 h39 fun v40 =>
 some (v40, h39)) (
 loadN 2 v0 h29 fun v41 =>
 bindS (ih 66 [a0, v41] h29) fun v42 h43 =>
 ifS v42 (
 loadN 2 v0 h43 fun v44 =>
 bindS (ih 164 [a0, v44] h43) fun v45 h46 =>
 bindS (bldStruct h46 [(0, (.int .u8 3)), (1, v45)] (.agg [(.int .u8 0), (.int .i64 0)]) (some [(0, 1), (1, 1)])) fun v47 h48 =>
 bindS (ih 82 [v47] h48) fun v49 h50 =>
 storeN 7 v2 v49 h50 fun h51 =>
 loadN 7 v2 h51 fun v52 =>
 some (v52, h51)) (
 loadN 2 v0 h43 fun v53 =>
 bindS (ih 72 [v53] h43) fun v54 h55 =>
 strS .add (.str ⟨27, 13320112827794838557772307529680967511421369293195414295954093153⟩) v54 fun v56 =>
 strS .add v56 (.str ⟨6, 111555003905568⟩) fun v57 =>
 bindS (ih 70 [a0, v57] h55) fun v58 h59 =>
 storeN 7 v2 v58 h59 fun h60 =>
 loadN 7 v2 h60 fun v61 =>
 some (v61, h60)))) none) none) none)
def B158 (ih : II) (a0 a1 : V) (h : Hp) : VH :=
 bindS (ih 196 [a0, a1] h) fun v0 h1 =>
 some (v0, h1)
def B78 (ih : II) (a0 a1 : V) (h : Hp) : VH :=
 newS 31 (vcells a1) h fun v0 h1 =>
 loadN 2 v0 h1 fun v2 =>
 bindS (ih 60 [a0, v2, (.int .u8 4)] h1) fun v3 h4 =>
 eqS (.pointer 76) .neq v3 .nilPtr fun v5 =>
 ifS v5 (
 nilS v3 fun v6 =>
 addrS 2 v6 fun v7 =>
 load1 v7 h4 fun v8 =>
 some (.tuple [v8, (.bool true)], h4)) (
 some (.tuple [(.str ⟨0, 0⟩), (.bool false)], h4))
def B156 (ih : II) (a0 a1 a2 : V) (h : Hp) : VH :=
 intS .eql a0 (.int .u8 12) fun v0 =>
 ifS v0 (
 intS .eql a1 a2 fun v1 =>
 some (.tuple [v1, (.int .i64 0)], h)) (
 intS .eql a0 (.int .u8 13) fun v2 =>
 ifS v2 (
 intS .neq a1 a2 fun v3 =>
 some (.tuple [v3, (.int .i64 0)], h)) (
 intS .eql a0 (.int .u8 14) fun v4 =>
 ifS v4 (
 intS .lss a1 a2 fun v5 =>
 some (.tuple [v5, (.int .i64 0)], h)) (
 intS .eql a0 (.int .u8 15) fun v6 =>
 ifS v6 (
 intS .leq a1 a2 fun v7 =>
 some (.tuple [v7, (.int .i64 0)], h)) (
 intS .eql a0 (.int .u8 16) fun v8 =>
 ifS v8 (
 intS .gtr a1 a2 fun v9 =>
 some (.tuple [v9, (.int .i64 0)], h)) (
 intS .eql a0 (.int .u8 17) fun v10 =>
 ifS v10 (
 intS .geq a1 a2 fun v11 =>
 some (.tuple [v11, (.int .i64 0)], h)) (
 some (.tuple [(.bool false), (.int .i64 2)], h)))))))
def B154 (ih : II) (a0 a1 : V) (h : Hp) : VH :=
 newS 31 (vcells a1) h fun v0 h1 =>
 addrS 0 v0 fun v2 =>
 load1 v2 h1 fun v3 =>
 intS .eql v3 (.int .u8 3) fun v4 =>
 ifS v4 (
 addrS 1 v0 fun v5 =>
 load1 v5 h1 fun v6 =>
 bindS (ih 194 [v6] h1) fun v7 h8 =>
 some (.tuple [v7, (.bool true)], h8)) (
 loadN 2 v0 h1 fun v9 =>
 bindS (ih 78 [a0, v9] h1) fun v10 h11 =>
 extS 0 v10 fun v12 =>
 extS 1 v10 fun v13 =>
 addrS 0 v0 fun v14 =>
 load1 v14 h11 fun v15 =>
 intS .eql v15 (.int .u8 4) fun v16 =>
 some (.tuple [v12, v16], h11))
def B162 (ih : II) (a0 a1 : V) (h : Hp) : VH :=
 intS .leq a1 (.int .i64 (-64)) fun v0 =>
 guardS v0 false (intS .geq a1 (.int .i64 64) fun v1 =>
 some (v1, h)) h fun v2 h3 =>
 optS (pickV v0 (.bool true) v2) fun v4 =>
 ifS v4 (
 some ((.int .i64 0), h3)) (
 intS .lss a1 (.int .i64 0) fun v5 =>
 ifS v5 (
 convI .u64 a0 fun v6 =>
 negS a1 fun v7 =>
 shS .shr v6 v7 fun v8 =>
 convI .i64 v8 fun v9 =>
 some (v9, h3)) (
 shS .shl a0 a1 fun v10 =>
 some (v10, h3)))
def B160 (ih : II) (a0 a1 : V) (h : Hp) : VH :=
 intS .eql a0 (.int .i64 (-9223372036854775808)) fun v0 =>
 guardS v0 true (intS .eql a1 (.int .i64 (-1)) fun v1 =>
 some (v1, h)) h fun v2 h3 =>
 optS (pickV v0 v2 (.bool false)) fun v4 =>
 ifS v4 (
 some (.tuple [a0, (.int .i64 0)], h3)) (
 intS .quo a0 a1 fun v5 =>
 intS .rem a0 a1 fun v6 =>
 intS .neq v6 (.int .i64 0) fun v7 =>
 guardS v7 true (intS .xor v6 a1 fun v8 =>
 intS .lss v8 (.int .i64 0) fun v9 =>
 some (v9, h3)) h3 fun v10 h11 =>
 optS (pickV v7 v10 (.bool false)) fun v12 =>
 ifS v12 (
 intS .sub v5 (.int .i64 1) fun v13 =>
 intS .add v6 a1 fun v14 =>
 ih 119 [v13, v14] h11) (
 ih 119 [v5, v6] h11))
def B119 (ih : II) (a6 a7 : V) (h : Hp) : VH :=
 some (.tuple [a6, a7], h)
def B164 (ih : II) (a0 a1 : V) (h : Hp) : VH :=
 newS 31 (vcells a1) h fun v0 h1 =>
 loadN 2 v0 h1 fun v2 =>
 bindS (ih 60 [a0, v2, (.int .u8 5)] h1) fun v3 h4 =>
 eqS (.pointer 76) .neq v3 .nilPtr fun v5 =>
 ifS v5 (
 nilS v3 fun v6 =>
 addrS 3 v6 fun v7 =>
 load1 v7 h4 fun v8 =>
 bindS (ih 198 [v8] h4) fun v9 h10 =>
 some (v9, h10)) (
 some ((.int .i64 0), h4))
def B194 (ih : II) (a0 : V) (h : Hp) : VH :=
 bindS (ih 206 [a0, (.int .i64 10)] h) fun v0 h1 =>
 some (v0, h1)
def B198 (ih : II) (a0 : V) (h : Hp) : VH :=
 ih 121 [a0, (.int .i64 0)] h
def B121 (ih : II) (a0 a3 : V) (h : Hp) : VH :=
 intS .add a3 (.int .i64 1) fun v0 =>
 bindS (bldStruct h [(0, (.int .u8 3)), (1, v0)] (.agg [(.int .u8 0), (.int .i64 0)]) (some [(0, 1), (1, 1)])) fun v1 h2 =>
 bindS (ih 62 [a0, v1] h2) fun v3 h4 =>
 fld1 0 v3 fun v5 =>
 intS .neq v5 (.int .u8 0) fun v6 =>
 ifS v6 (
 intS .add a3 (.int .i64 1) fun v7 =>
 ih 121 [a0, v7] h4) (
 some (a3, h4))
def B206 (ih : II) (a0 a1 : V) (h : Hp) : VH :=
 bindS (ih 212 [a0, a1] h) fun v0 h1 =>
 some (v0, h1)
def labs : Tr Lab:=(((((((((((((((((((((((((((((((((((((((((((((((((((((((((((((Tr.nil.set 0 (12, 58, [0, 4, 5, 6, 7, 12])).set 1 (12, 7475, [0, 4, 5, 6, 7, 8, 12])).set 2 (10, 58, [0, 5, 6, 7, 8, 9, 13])).set 3 (6, 31, [0])).set 4 (5, 2042, [1, 3, 5, 7, 8, 9])).set 5 (5, 4090, [1, 3, 5, 7, 8, 78, 79, 80])).set 6 (5, 65530, [1, 3, 5, 7, 23])).set 7 (5, 131066, [1, 3, 5, 7, 25])).set 8 (5, 524243, [1, 3, 5, 7, 23])).set 9 (31, 7, [4])).set 10 (29, 255, [10])).set 11 (28, 127, [10])).set 12 (27, 127, [])).set 13 (25, 58, [0, 1, 2, 6, 8])).set 14 (23, 58, [0, 1, 4, 6])).set 15 (23, 7461, [0, 4, 6])).set 16 (22, 63, [4, 8, 9])).set 17 (70, 1018, [0, 4, 5, 8, 9])).set 18 (70, 8147, [0, 4, 5, 8, 9])).set 19 (69, 58, [0, 3, 4])).set 20 (65, 122, [3, 12, 13, 14])).set 21 (65, 1959, [3, 12, 13, 14])).set 22 (63, 127, [0, 4, 5])).set 23 (63, 8110, [0, 4, 5, 83, 84, 85])).set 24 (54, 124, [0, 1, 2, 6, 8])).set 25 (54, 511, [0, 2, 6, 8])).set 26 (54, 8186, [0, 2, 6, 8, 9])).set 27 (59, 26, [0, 3, 5])).set 28 (52, 63, [0, 1, 6, 8])).set 29 (96, 26, [0, 3, 5])).set 30 (91, 122, [0, 1, 5, 6])).set 31 (91, 979, [0, 1, 5, 6])).set 32 (85, 26, [0, 1, 7, 8])).set 33 (101, 58, [0, 3, 4])).set 34 (101, 467, [0, 3, 4])).set 35 (102, 26, [0, 1, 7, 8])).set 36 (100, 254, [1, 3, 5, 6])).set 37 (4, 31, [4, 7, 8, 9])).set 38 (4, 506, [7, 8, 9, 10, 11, 12])).set 39 (4, 511, [7, 8, 9, 10, 11])).set 40 (4, 1018, [7, 8, 9, 10, 11, 13])).set 41 (4, 1023, [7, 8, 9])).set 42 (4, 2025, [7, 8, 9, 10, 11, 12])).set 43 (4, 4051, [7, 8, 9, 10, 11, 12])).set 44 (4, 4073, [7, 8, 9, 10, 11, 13])).set 45 (4, 4095, [9, 14, 15])).set 46 (4, 8147, [7, 8, 9, 10, 11, 13])).set 47 (4, 131066, [9, 14, 15, 16, 17, 19, 200, 201])).set 48 (4, 1048531, [9, 14, 15, 16, 17, 19, 200, 201])).set 49 (4, 2097063, [9, 14, 15, 16, 17, 19, 200, 201])).set 50 (13, 117, [0, 6, 7, 8])).set 51 (13, 1857, [0, 6, 7, 8])).set 52 (13, 29697, [0, 1, 6, 7, 8, 9])).set 53 (13, 118789, [1, 6, 7, 8])).set 54 (14, 1857, [0, 1, 5, 6, 7])).set 55 (46, 63, [0, 1, 6, 8])).set 56 (42, 127, [0, 4, 6])).set 57 (48, 15, [0, 5, 6, 7])).set 58 (47, 3455, [0, 1, 2, 10, 26])).set 59 (80, 31, [6, 7])).set 60 (99, 28, [0, 3]))
def cuts9 : Cuts:=[]
theorem fit9 : cutsFit labs 9 cuts9 = true:=by kernel_rfl
def cuts12 : Cuts:=[(58, 0, [0, 4, 5, 6, 7, 12]), (7475, 1, [0, 4, 5, 6, 7, 8, 12])]
theorem fit12 : cutsFit labs 12 cuts12 = true:=by kernel_rfl
def cuts10 : Cuts:=[(58, 2, [0, 5, 6, 7, 8, 9, 13])]
theorem fit10 : cutsFit labs 10 cuts10 = true:=by kernel_rfl
def cuts8 : Cuts:=[]
theorem fit8 : cutsFit labs 8 cuts8 = true:=by kernel_rfl
def cuts7 : Cuts:=[]
theorem fit7 : cutsFit labs 7 cuts7 = true:=by kernel_rfl
def cuts6 : Cuts:=[(31, 3, [0])]
theorem fit6 : cutsFit labs 6 cuts6 = true:=by kernel_rfl
def cuts5 : Cuts:=[(2042, 4, [1, 3, 5, 7, 8, 9]), (4090, 5, [1, 3, 5, 7, 8, 78, 79, 80]), (65530, 6, [1, 3, 5, 7, 23]), (131066, 7, [1, 3, 5, 7, 25]), (524243, 8, [1, 3, 5, 7, 23])]
theorem fit5 : cutsFit labs 5 cuts5 = true:=by kernel_rfl
def cuts31 : Cuts:=[(7, 9, [4])]
theorem fit31 : cutsFit labs 31 cuts31 = true:=by kernel_rfl
def cuts30 : Cuts:=[]
theorem fit30 : cutsFit labs 30 cuts30 = true:=by kernel_rfl
def cuts35 : Cuts:=[]
theorem fit35 : cutsFit labs 35 cuts35 = true:=by kernel_rfl
def cuts36 : Cuts:=[]
theorem fit36 : cutsFit labs 36 cuts36 = true:=by kernel_rfl
def cuts41 : Cuts:=[]
theorem fit41 : cutsFit labs 41 cuts41 = true:=by kernel_rfl
def cuts33 : Cuts:=[]
theorem fit33 : cutsFit labs 33 cuts33 = true:=by kernel_rfl
def cuts32 : Cuts:=[]
theorem fit32 : cutsFit labs 32 cuts32 = true:=by kernel_rfl
def cuts34 : Cuts:=[]
theorem fit34 : cutsFit labs 34 cuts34 = true:=by kernel_rfl
def cuts29 : Cuts:=[(255, 10, [10])]
theorem fit29 : cutsFit labs 29 cuts29 = true:=by kernel_rfl
def cuts28 : Cuts:=[(127, 11, [10])]
theorem fit28 : cutsFit labs 28 cuts28 = true:=by kernel_rfl
def cuts21 : Cuts:=[]
theorem fit21 : cutsFit labs 21 cuts21 = true:=by kernel_rfl
def cuts27 : Cuts:=[(127, 12, [])]
theorem fit27 : cutsFit labs 27 cuts27 = true:=by kernel_rfl
def cuts26 : Cuts:=[]
theorem fit26 : cutsFit labs 26 cuts26 = true:=by kernel_rfl
def cuts25 : Cuts:=[(58, 13, [0, 1, 2, 6, 8])]
theorem fit25 : cutsFit labs 25 cuts25 = true:=by kernel_rfl
def cuts24 : Cuts:=[]
theorem fit24 : cutsFit labs 24 cuts24 = true:=by kernel_rfl
def cuts23 : Cuts:=[(58, 14, [0, 1, 4, 6]), (7461, 15, [0, 4, 6])]
theorem fit23 : cutsFit labs 23 cuts23 = true:=by kernel_rfl
def cuts22 : Cuts:=[(63, 16, [4, 8, 9])]
theorem fit22 : cutsFit labs 22 cuts22 = true:=by kernel_rfl
def cuts20 : Cuts:=[]
theorem fit20 : cutsFit labs 20 cuts20 = true:=by kernel_rfl
def cuts19 : Cuts:=[]
theorem fit19 : cutsFit labs 19 cuts19 = true:=by kernel_rfl
def cuts18 : Cuts:=[]
theorem fit18 : cutsFit labs 18 cuts18 = true:=by kernel_rfl
def cuts17 : Cuts:=[]
theorem fit17 : cutsFit labs 17 cuts17 = true:=by kernel_rfl
def cuts16 : Cuts:=[]
theorem fit16 : cutsFit labs 16 cuts16 = true:=by kernel_rfl
def cuts72 : Cuts:=[]
theorem fit72 : cutsFit labs 72 cuts72 = true:=by kernel_rfl
def cuts71 : Cuts:=[]
theorem fit71 : cutsFit labs 71 cuts71 = true:=by kernel_rfl
def cuts76 : Cuts:=[]
theorem fit76 : cutsFit labs 76 cuts76 = true:=by kernel_rfl
def cuts75 : Cuts:=[]
theorem fit75 : cutsFit labs 75 cuts75 = true:=by kernel_rfl
def cuts74 : Cuts:=[]
theorem fit74 : cutsFit labs 74 cuts74 = true:=by kernel_rfl
def cuts73 : Cuts:=[]
theorem fit73 : cutsFit labs 73 cuts73 = true:=by kernel_rfl
def cuts70 : Cuts:=[(1018, 17, [0, 4, 5, 8, 9]), (8147, 18, [0, 4, 5, 8, 9])]
theorem fit70 : cutsFit labs 70 cuts70 = true:=by kernel_rfl
def cuts69 : Cuts:=[(58, 19, [0, 3, 4])]
theorem fit69 : cutsFit labs 69 cuts69 = true:=by kernel_rfl
def cuts68 : Cuts:=[]
theorem fit68 : cutsFit labs 68 cuts68 = true:=by kernel_rfl
def cuts67 : Cuts:=[]
theorem fit67 : cutsFit labs 67 cuts67 = true:=by kernel_rfl
def cuts66 : Cuts:=[]
theorem fit66 : cutsFit labs 66 cuts66 = true:=by kernel_rfl
def cuts60 : Cuts:=[]
theorem fit60 : cutsFit labs 60 cuts60 = true:=by kernel_rfl
def cuts55 : Cuts:=[]
theorem fit55 : cutsFit labs 55 cuts55 = true:=by kernel_rfl
def cuts64 : Cuts:=[]
theorem fit64 : cutsFit labs 64 cuts64 = true:=by kernel_rfl
def cuts65 : Cuts:=[(122, 20, [3, 12, 13, 14]), (1959, 21, [3, 12, 13, 14])]
theorem fit65 : cutsFit labs 65 cuts65 = true:=by kernel_rfl
def cuts63 : Cuts:=[(127, 22, [0, 4, 5]), (8110, 23, [0, 4, 5, 83, 84, 85])]
theorem fit63 : cutsFit labs 63 cuts63 = true:=by kernel_rfl
def cuts62 : Cuts:=[]
theorem fit62 : cutsFit labs 62 cuts62 = true:=by kernel_rfl
def cuts61 : Cuts:=[]
theorem fit61 : cutsFit labs 61 cuts61 = true:=by kernel_rfl
def cuts51 : Cuts:=[]
theorem fit51 : cutsFit labs 51 cuts51 = true:=by kernel_rfl
def cuts54 : Cuts:=[(124, 24, [0, 1, 2, 6, 8]), (511, 25, [0, 2, 6, 8]), (8186, 26, [0, 2, 6, 8, 9])]
theorem fit54 : cutsFit labs 54 cuts54 = true:=by kernel_rfl
def cuts59 : Cuts:=[(26, 27, [0, 3, 5])]
theorem fit59 : cutsFit labs 59 cuts59 = true:=by kernel_rfl
def cuts52 : Cuts:=[(63, 28, [0, 1, 6, 8])]
theorem fit52 : cutsFit labs 52 cuts52 = true:=by kernel_rfl
def cuts58 : Cuts:=[]
theorem fit58 : cutsFit labs 58 cuts58 = true:=by kernel_rfl
def cuts57 : Cuts:=[]
theorem fit57 : cutsFit labs 57 cuts57 = true:=by kernel_rfl
def cuts53 : Cuts:=[]
theorem fit53 : cutsFit labs 53 cuts53 = true:=by kernel_rfl
def cuts50 : Cuts:=[]
theorem fit50 : cutsFit labs 50 cuts50 = true:=by kernel_rfl
def cuts86 : Cuts:=[]
theorem fit86 : cutsFit labs 86 cuts86 = true:=by kernel_rfl
def cuts96 : Cuts:=[(26, 29, [0, 3, 5])]
theorem fit96 : cutsFit labs 96 cuts96 = true:=by kernel_rfl
def cuts94 : Cuts:=[]
theorem fit94 : cutsFit labs 94 cuts94 = true:=by kernel_rfl
def cuts84 : Cuts:=[]
theorem fit84 : cutsFit labs 84 cuts84 = true:=by kernel_rfl
def cuts95 : Cuts:=[]
theorem fit95 : cutsFit labs 95 cuts95 = true:=by kernel_rfl
def cuts93 : Cuts:=[]
theorem fit93 : cutsFit labs 93 cuts93 = true:=by kernel_rfl
def cuts92 : Cuts:=[]
theorem fit92 : cutsFit labs 92 cuts92 = true:=by kernel_rfl
def cuts87 : Cuts:=[]
theorem fit87 : cutsFit labs 87 cuts87 = true:=by kernel_rfl
def cuts90 : Cuts:=[]
theorem fit90 : cutsFit labs 90 cuts90 = true:=by kernel_rfl
def cuts91 : Cuts:=[(122, 30, [0, 1, 5, 6]), (979, 31, [0, 1, 5, 6])]
theorem fit91 : cutsFit labs 91 cuts91 = true:=by kernel_rfl
def cuts89 : Cuts:=[]
theorem fit89 : cutsFit labs 89 cuts89 = true:=by kernel_rfl
def cuts88 : Cuts:=[]
theorem fit88 : cutsFit labs 88 cuts88 = true:=by kernel_rfl
def cuts83 : Cuts:=[]
theorem fit83 : cutsFit labs 83 cuts83 = true:=by kernel_rfl
def cuts85 : Cuts:=[(26, 32, [0, 1, 7, 8])]
theorem fit85 : cutsFit labs 85 cuts85 = true:=by kernel_rfl
def cuts101 : Cuts:=[(58, 33, [0, 3, 4]), (467, 34, [0, 3, 4])]
theorem fit101 : cutsFit labs 101 cuts101 = true:=by kernel_rfl
def cuts102 : Cuts:=[(26, 35, [0, 1, 7, 8])]
theorem fit102 : cutsFit labs 102 cuts102 = true:=by kernel_rfl
def cuts4 : Cuts:=[(31, 37, [4, 7, 8, 9]), (506, 38, [7, 8, 9, 10, 11, 12]), (511, 39, [7, 8, 9, 10, 11]), (1018, 40, [7, 8, 9, 10, 11, 13]), (1023, 41, [7, 8, 9]), (2025, 42, [7, 8, 9, 10, 11, 12]), (4051, 43, [7, 8, 9, 10, 11, 12]), (4073, 44, [7, 8, 9, 10, 11, 13]), (4095, 45, [9, 14, 15]), (8147, 46, [7, 8, 9, 10, 11, 13]), (131066, 47, [9, 14, 15, 16, 17, 19, 200, 201]), (1048531, 48, [9, 14, 15, 16, 17, 19, 200, 201]), (2097063, 49, [9, 14, 15, 16, 17, 19, 200, 201])]
theorem fit4 : cutsFit labs 4 cuts4 = true:=by kernel_rfl
def cuts15 : Cuts:=[]
theorem fit15 : cutsFit labs 15 cuts15 = true:=by kernel_rfl
def cuts13 : Cuts:=[(117, 50, [0, 6, 7, 8]), (1857, 51, [0, 6, 7, 8]), (29697, 52, [0, 1, 6, 7, 8, 9]), (118789, 53, [1, 6, 7, 8])]
theorem fit13 : cutsFit labs 13 cuts13 = true:=by kernel_rfl
def cuts14 : Cuts:=[(1857, 54, [0, 1, 5, 6, 7])]
theorem fit14 : cutsFit labs 14 cuts14 = true:=by kernel_rfl
def cuts44 : Cuts:=[]
theorem fit44 : cutsFit labs 44 cuts44 = true:=by kernel_rfl
def cuts43 : Cuts:=[]
theorem fit43 : cutsFit labs 43 cuts43 = true:=by kernel_rfl
def cuts45 : Cuts:=[]
theorem fit45 : cutsFit labs 45 cuts45 = true:=by kernel_rfl
def cuts46 : Cuts:=[(63, 55, [0, 1, 6, 8])]
theorem fit46 : cutsFit labs 46 cuts46 = true:=by kernel_rfl
def cuts42 : Cuts:=[(127, 56, [0, 4, 6])]
theorem fit42 : cutsFit labs 42 cuts42 = true:=by kernel_rfl
def cuts48 : Cuts:=[(15, 57, [0, 5, 6, 7])]
theorem fit48 : cutsFit labs 48 cuts48 = true:=by kernel_rfl
def cuts47 : Cuts:=[(3455, 58, [0, 1, 2, 10, 26])]
theorem fit47 : cutsFit labs 47 cuts47 = true:=by kernel_rfl
def cuts49 : Cuts:=[]
theorem fit49 : cutsFit labs 49 cuts49 = true:=by kernel_rfl
def cuts79 : Cuts:=[]
theorem fit79 : cutsFit labs 79 cuts79 = true:=by kernel_rfl
def cuts39 : Cuts:=[]
theorem fit39 : cutsFit labs 39 cuts39 = true:=by kernel_rfl
def cuts78 : Cuts:=[]
theorem fit78 : cutsFit labs 78 cuts78 = true:=by kernel_rfl
def cuts77 : Cuts:=[]
theorem fit77 : cutsFit labs 77 cuts77 = true:=by kernel_rfl
def cuts81 : Cuts:=[]
theorem fit81 : cutsFit labs 81 cuts81 = true:=by kernel_rfl
def cuts80 : Cuts:=[(31, 59, [6, 7])]
theorem fit80 : cutsFit labs 80 cuts80 = true:=by kernel_rfl
def cuts82 : Cuts:=[]
theorem fit82 : cutsFit labs 82 cuts82 = true:=by kernel_rfl
def cuts97 : Cuts:=[]
theorem fit97 : cutsFit labs 97 cuts97 = true:=by kernel_rfl
def cuts99 : Cuts:=[(28, 60, [0, 3])]
theorem fit99 : cutsFit labs 99 cuts99 = true:=by kernel_rfl
def cuts103 : Cuts:=[]
theorem fit103 : cutsFit labs 103 cuts103 = true:=by kernel_rfl
end
end
end Go.MS
end
