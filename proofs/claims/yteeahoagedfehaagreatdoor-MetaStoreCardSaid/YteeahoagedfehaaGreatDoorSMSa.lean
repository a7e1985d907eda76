/- A part of the proof. -/
import Derived.Test.YteeahoagedfehaaGreatDoorSMidSS
import Derived.Test.YteeahoagedfehaaGreatDoorSMidNN
import Derived.Test.YteeahoagedfehaaGreatDoorSMidZ
import Derived.Test.YteeahoagedfehaaGreatDoorProg
import Derived.KernelRfl
set_option linter.all false
set_option warn.classDefReducibility false
noncomputable section
section
open Go Go.Mid Go.Proofs
set_option maxRecDepth 100000
namespace Go.MS
section
section
abbrev II := Nat → List V → Hp → VH
def itr0 (f : FuncId) : Option It := none
def B6 (ih : II) (a0 a1 : V) (h : Hp) : VH :=
 newS 25 (vcells a0) h fun v0 h1 =>
 newS 26 (vcells a1) h1 fun v2 h3 =>
 loadN 3 v0 h3 fun v4 =>
 bindS (ih 10 [v4] h3) fun v5 h6 =>
 eqS (.pointer 36) .eql v5 .nilPtr fun v7 =>
 ifS v7 (
 some ((.bool false), h6)) (
 newS 31 [(.int .u8 0), (.int .i64 0)] h6 fun v8 h9 =>
 newS 31 [(.int .u8 0), (.int .i64 0)] h9 fun v10 h11 =>
 newS 31 [(.int .u8 0), (.int .i64 0)] h11 fun v12 h13 =>
 nilS v5 fun v14 =>
 addrS 2 v14 fun v15 =>
 load1 v15 h13 fun v16 =>
 idxP 1 3 v2 (.int .i64 0) fun v17 =>
 load1 v17 h13 fun v18 =>
 bindS (ih 12 [v18, (.int .i64 4)] ⟨h13.t, h13.n, h13.n⟩) fun v19 h20 =>
 cD ((pureB h13 h20 || sameA h13 h20 v15 (vcells v16).length) && ((pureB h13 h20 || sameLd h13 h20 (fent v8 31 [(.int .u8 0), (.int .i64 0)])) && ((pureB h13 h20 || sameLd h13 h20 (fent v10 31 [(.int .u8 0), (.int .i64 0)])) && ((pureB h13 h20 || sameLd h13 h20 (fent v12 31 [(.int .u8 0), (.int .i64 0)])) && true)))) (
 wroteS h13.low h20 fun h21 =>
 intS .add (.int .i64 7) v19 fun v22 =>
 idxS 2 v16 v22 fun v23 =>
 loadN 2 v23 h21 fun v24 =>
 idxP 1 3 v2 (.int .i64 1) fun v25 =>
 load1 v25 h13 fun v26 =>
 cD (((pureB h13 h20) || sameA h13 h21 v25 (vcells v26).length) && true) (
 bindS (ih 14 [v5, v26] ⟨h21.t, h21.n, h21.n⟩) fun v27 h28 =>
 cD ((pureB h21 h28 || sameA h21 h28 v23 (vcells v24).length) && ((pureB h21 h28 || sameA h21 h28 v15 (vcells v16).length) && ((pureB h21 h28 || sameLd h21 h28 (fent v8 31 [(.int .u8 0), (.int .i64 0)])) && ((pureB h21 h28 || sameLd h21 h28 (fent v10 31 [(.int .u8 0), (.int .i64 0)])) && ((pureB h21 h28 || sameLd h21 h28 (fent v12 31 [(.int .u8 0), (.int .i64 0)])) && true))))) (
 wroteS h21.low h28 fun h29 =>
 idxP 1 3 v2 (.int .i64 2) fun v30 =>
 load1 v30 h13 fun v31 =>
 cD (((pureB h21 h28) || sameA h21 h29 v30 (vcells v31).length) && (((pureB h13 h20) || sameA h13 h21 v30 (vcells v31).length) && true)) (
 bindS (ih 14 [v5, v31] ⟨h29.t, h29.n, h29.n⟩) fun v32 h33 =>
 cD ((pureB h29 h33 || sameA h29 h33 v23 (vcells v24).length) && ((pureB h29 h33 || sameA h29 h33 v15 (vcells v16).length) && ((pureB h29 h33 || sameLd h29 h33 (fent v8 31 [(.int .u8 0), (.int .i64 0)])) && ((pureB h29 h33 || sameLd h29 h33 (fent v10 31 [(.int .u8 0), (.int .i64 0)])) && ((pureB h29 h33 || sameLd h29 h33 (fent v12 31 [(.int .u8 0), (.int .i64 0)])) && true))))) (
 wroteS h29.low h33 fun h34 =>
 storeN 2 v8 v24 h34 fun h35 =>
 storeN 2 v10 v27 h35 fun h36 =>
 storeN 2 v12 v32 h36 fun h37 =>
 nilS v5 fun v38 =>
 addrS 0 v38 fun v39 =>
 load1 v39 h37 fun v40 =>
 loadN 2 v8 h37 fun v41 =>
 bindS (ih 16 [v40, v41] ⟨h37.t, h37.n, h37.n⟩) fun v42 h43 =>
 wroteS h37.low h43 fun h44 =>
 bindS (bldStruct h37 [] (.agg [(.int .u8 0), (.int .i64 0)]) (some [(0, 1), (1, 1)])) fun v45 h46 =>
 bindS (vh h44 (eqOp .eql (cmpV [(0, .int .u8), (1, .int .i64)] v42 v45))) fun v47 h48 =>
 guardS v47 false (some (v5, h44)) h44 fun v49 _ =>
 guardS v47 false (nilS v49 fun v50 =>
 some (v50, h44)) h44 fun v51 _ =>
 guardS v47 false (addrS 0 v51 fun v52 =>
 some (v52, h44)) h44 fun v53 _ =>
 guardS v47 false (load1 v53 h44 fun v54 =>
 some (v54, h44)) h44 fun v55 _ =>
 guardS v47 false (loadN 2 v8 h44 fun v56 =>
 some (v56, h44)) h44 fun v57 _ =>
 guardS v47 false (loadN 2 v10 h44 fun v58 =>
 some (v58, h44)) h44 fun v59 _ =>
 guardB v47 false (
 bindS (ih 18 [v55, v57, v59] ⟨h44.t, h44.n, h44.n⟩) fun v60 h61 =>
 wroteS h44.low h61 fun h62 =>
 guardS v47 false (bindS (bldStruct h44 [] (.agg [(.int .u8 0), (.int .i64 0)]) (some [(0, 1), (1, 1)])) fun v63 h64 =>
 some (v63, h64)) h44 fun v65 _ =>
 guardS v47 false (bindS (vh h62 (eqOp .neq (cmpV [(0, .int .u8), (1, .int .i64)] v60 v65))) fun v66 h67 =>
 some (v66, h67)) h62 fun v68 h69 =>
 optS (pickV v47 (.bool true) v68) fun v70 =>
 newS 44 [(.int .u8 0), (.int .u8 0), (.int .i64 0), (.int .u8 0), (.int .i64 0), .nilSlice, (.int .u8 0)] h69 fun v71 h72 =>
 nilS v5 fun v73 =>
 addrS 0 v73 fun v74 =>
 load1 v74 h72 fun v75 =>
 loadN 2 v8 h72 fun v76 =>
 loadN 2 v10 h72 fun v77 =>
 loadN 2 v12 h72 fun v78 =>
 bindS (ih 20 [v75, v76, v77, v78] ⟨h72.t, h72.n, h72.n⟩) fun v79 h80 =>
 cD ((pureB h72 h80 || sameLd h72 h80 (fent v71 44 [(.int .u8 0), (.int .u8 0), (.int .i64 0), (.int .u8 0), (.int .i64 0), .nilSlice, (.int .u8 0)])) && true) (
 wroteS h72.low h80 fun h81 =>
 storeN 7 v71 v79 h81 fun h82 =>
 addrS 0 v71 fun v83 =>
 load1 v83 h82 fun v84 =>
 intS .neq v84 (.int .u8 1) fun v85 =>
 guardS v85 false (notS v70 fun v86 =>
 some (v86, h82)) h82 fun v87 h88 =>
 optS (pickV v85 (.bool true) v87) fun v89 =>
 guardS v89 false (loadN 2 v12 h88 fun v90 =>
 bindS (bldStruct h88 [] (.agg [(.int .u8 0), (.int .i64 0)]) (some [(0, 1), (1, 1)])) fun v91 h92 =>
 bindS (vh h92 (eqOp .eql (cmpV [(0, .int .u8), (1, .int .i64)] v90 v91))) fun v93 h94 =>
 some (v93, h94)) h88 fun v95 h96 =>
 optS (pickV v89 (.bool true) v95) fun v97 =>
 ifS v97 (
 addrS 0 v71 fun v98 =>
 load1 v98 h96 fun v99 =>
 intS .neq v99 (.int .u8 4) fun v100 =>
 guardS v100 true (bindS (ih 22 [] h96) fun v101 h102 =>
 some (v101, h102)) h96 fun v103 h104 =>
 optS (pickV v100 v103 (.bool false)) fun v105 =>
 some (v105, h104)) (
 newS 44 [(.int .u8 0), (.int .u8 0), (.int .i64 0), (.int .u8 0), (.int .i64 0), .nilSlice, (.int .u8 0)] h96 fun v106 h107 =>
 nilS v5 fun v108 =>
 addrS 0 v108 fun v109 =>
 load1 v109 h107 fun v110 =>
 loadN 2 v8 h107 fun v111 =>
 loadN 2 v10 h107 fun v112 =>
 bindS (ih 24 [v110, v111, v112] ⟨h107.t, h107.n, h107.n⟩) fun v113 h114 =>
 cD ((pureB h107 h114 || sameLd h107 h114 (fent v106 44 [(.int .u8 0), (.int .u8 0), (.int .i64 0), (.int .u8 0), (.int .i64 0), .nilSlice, (.int .u8 0)])) && true) (
 wroteS h107.low h114 fun h115 =>
 storeN 7 v106 v113 h115 fun h116 =>
 addrS 0 v106 fun v117 =>
 load1 v117 h116 fun v118 =>
 intS .eql v118 (.int .u8 1) fun v119 =>
 guardS v119 true (addrS 1 v106 fun v120 =>
 some (v120, h116)) h116 fun v121 _ =>
 guardS v119 true (loadN 2 v121 h116 fun v122 =>
 some (v122, h116)) h116 fun v123 _ =>
 guardS v119 true (loadN 2 v12 h116 fun v124 =>
 some (v124, h116)) h116 fun v125 _ =>
 guardS v119 true (bindS (vh h116 (eqOp .eql (cmpV [(0, .int .u8), (1, .int .i64)] v123 v125))) fun v126 h127 =>
 some (v126, h127)) h116 fun v128 _ =>
 optS (pickV v119 v128 (.bool false)) fun v129 =>
 guardS v129 true (some (v5, h116)) h116 fun v130 _ =>
 guardS v129 true (nilS v130 fun v131 =>
 some (v131, h116)) h116 fun v132 _ =>
 guardS v129 true (addrS 0 v132 fun v133 =>
 some (v133, h116)) h116 fun v134 _ =>
 guardS v129 true (load1 v134 h116 fun v135 =>
 some (v135, h116)) h116 fun v136 _ =>
 guardS v129 true (loadN 2 v8 h116 fun v137 =>
 some (v137, h116)) h116 fun v138 _ =>
 guardS v129 true (loadN 2 v10 h116 fun v139 =>
 some (v139, h116)) h116 fun v140 _ =>
 guardB v129 true (
 bindS (ih 18 [v136, v138, v140] ⟨h116.t, h116.n, h116.n⟩) fun v141 h142 =>
 wroteS h116.low h142 fun h143 =>
 guardB v129 true (
 loadN 2 v12 h116 fun v144 =>
 cD (((pureB h116 h142) || sameA h116 h143 v12 (vcells v144).length) && true) (
 guardS v129 true (bindS (vh h143 (eqOp .eql (cmpV [(0, .int .u8), (1, .int .i64)] v141 v144))) fun v145 h146 =>
 some (v145, h146)) h143 fun v147 h148 =>
 optS (pickV v129 v147 (.bool false)) fun v149 =>
 guardS v149 true (bindS (ih 22 [] h148) fun v150 h151 =>
 some (v150, h151)) h148 fun v152 h153 =>
 optS (pickV v149 v152 (.bool false)) fun v154 =>
 some (v154, h153)) none) (
 guardS v129 true (bindS (vh h143 (eqOp .eql (cmpV [(0, .int .u8), (1, .int .i64)] v141 undefV))) fun v155 h156 =>
 some (v155, h156)) h143 fun v157 h158 =>
 optS (pickV v129 v157 (.bool false)) fun v159 =>
 guardS v159 true (bindS (ih 22 [] h158) fun v160 h161 =>
 some (v160, h161)) h158 fun v162 h163 =>
 optS (pickV v159 v162 (.bool false)) fun v164 =>
 some (v164, h163))) (
 guardS v129 true (loadN 2 v12 h116 fun v165 =>
 some (v165, h116)) h116 fun v166 _ =>
 guardS v129 true (bindS (vh h116 (eqOp .eql (cmpV [(0, .int .u8), (1, .int .i64)] undefV v166))) fun v167 h168 =>
 some (v167, h168)) h116 fun v169 h170 =>
 optS (pickV v129 v169 (.bool false)) fun v171 =>
 guardS v171 true (bindS (ih 22 [] h170) fun v172 h173 =>
 some (v172, h173)) h170 fun v174 h175 =>
 optS (pickV v171 v174 (.bool false)) fun v176 =>
 some (v176, h175))) none)) none) (
 guardS v47 false (bindS (bldStruct h44 [] (.agg [(.int .u8 0), (.int .i64 0)]) (some [(0, 1), (1, 1)])) fun v177 h178 =>
 some (v177, h178)) h44 fun v179 _ =>
 guardS v47 false (bindS (vh h44 (eqOp .neq (cmpV [(0, .int .u8), (1, .int .i64)] undefV v179))) fun v180 h181 =>
 some (v180, h181)) h44 fun v182 h183 =>
 optS (pickV v47 (.bool true) v182) fun v184 =>
 newS 44 [(.int .u8 0), (.int .u8 0), (.int .i64 0), (.int .u8 0), (.int .i64 0), .nilSlice, (.int .u8 0)] h183 fun v185 h186 =>
 nilS v5 fun v187 =>
 addrS 0 v187 fun v188 =>
 load1 v188 h186 fun v189 =>
 loadN 2 v8 h186 fun v190 =>
 loadN 2 v10 h186 fun v191 =>
 loadN 2 v12 h186 fun v192 =>
 bindS (ih 20 [v189, v190, v191, v192] ⟨h186.t, h186.n, h186.n⟩) fun v193 h194 =>
 cD ((pureB h186 h194 || sameLd h186 h194 (fent v185 44 [(.int .u8 0), (.int .u8 0), (.int .i64 0), (.int .u8 0), (.int .i64 0), .nilSlice, (.int .u8 0)])) && true) (
 wroteS h186.low h194 fun h195 =>
 storeN 7 v185 v193 h195 fun h196 =>
 addrS 0 v185 fun v197 =>
 load1 v197 h196 fun v198 =>
 intS .neq v198 (.int .u8 1) fun v199 =>
 guardS v199 false (notS v184 fun v200 =>
 some (v200, h196)) h196 fun v201 h202 =>
 optS (pickV v199 (.bool true) v201) fun v203 =>
 guardS v203 false (loadN 2 v12 h202 fun v204 =>
 bindS (bldStruct h202 [] (.agg [(.int .u8 0), (.int .i64 0)]) (some [(0, 1), (1, 1)])) fun v205 h206 =>
 bindS (vh h206 (eqOp .eql (cmpV [(0, .int .u8), (1, .int .i64)] v204 v205))) fun v207 h208 =>
 some (v207, h208)) h202 fun v209 h210 =>
 optS (pickV v203 (.bool true) v209) fun v211 =>
 ifS v211 (
 addrS 0 v185 fun v212 =>
 load1 v212 h210 fun v213 =>
 intS .neq v213 (.int .u8 4) fun v214 =>
 guardS v214 true (bindS (ih 22 [] h210) fun v215 h216 =>
 some (v215, h216)) h210 fun v217 h218 =>
 optS (pickV v214 v217 (.bool false)) fun v219 =>
 some (v219, h218)) (
 newS 44 [(.int .u8 0), (.int .u8 0), (.int .i64 0), (.int .u8 0), (.int .i64 0), .nilSlice, (.int .u8 0)] h210 fun v220 h221 =>
 nilS v5 fun v222 =>
 addrS 0 v222 fun v223 =>
 load1 v223 h221 fun v224 =>
 loadN 2 v8 h221 fun v225 =>
 loadN 2 v10 h221 fun v226 =>
 bindS (ih 24 [v224, v225, v226] ⟨h221.t, h221.n, h221.n⟩) fun v227 h228 =>
 cD ((pureB h221 h228 || sameLd h221 h228 (fent v220 44 [(.int .u8 0), (.int .u8 0), (.int .i64 0), (.int .u8 0), (.int .i64 0), .nilSlice, (.int .u8 0)])) && true) (
 wroteS h221.low h228 fun h229 =>
 storeN 7 v220 v227 h229 fun h230 =>
 addrS 0 v220 fun v231 =>
 load1 v231 h230 fun v232 =>
 intS .eql v232 (.int .u8 1) fun v233 =>
 guardS v233 true (addrS 1 v220 fun v234 =>
 some (v234, h230)) h230 fun v235 _ =>
 guardS v233 true (loadN 2 v235 h230 fun v236 =>
 some (v236, h230)) h230 fun v237 _ =>
 guardS v233 true (loadN 2 v12 h230 fun v238 =>
 some (v238, h230)) h230 fun v239 _ =>
 guardS v233 true (bindS (vh h230 (eqOp .eql (cmpV [(0, .int .u8), (1, .int .i64)] v237 v239))) fun v240 h241 =>
 some (v240, h241)) h230 fun v242 _ =>
 optS (pickV v233 v242 (.bool false)) fun v243 =>
 guardS v243 true (some (v5, h230)) h230 fun v244 _ =>
 guardS v243 true (nilS v244 fun v245 =>
 some (v245, h230)) h230 fun v246 _ =>
 guardS v243 true (addrS 0 v246 fun v247 =>
 some (v247, h230)) h230 fun v248 _ =>
 guardS v243 true (load1 v248 h230 fun v249 =>
 some (v249, h230)) h230 fun v250 _ =>
 guardS v243 true (loadN 2 v8 h230 fun v251 =>
 some (v251, h230)) h230 fun v252 _ =>
 guardS v243 true (loadN 2 v10 h230 fun v253 =>
 some (v253, h230)) h230 fun v254 _ =>
 guardB v243 true (
 bindS (ih 18 [v250, v252, v254] ⟨h230.t, h230.n, h230.n⟩) fun v255 h256 =>
 wroteS h230.low h256 fun h257 =>
 guardB v243 true (
 loadN 2 v12 h230 fun v258 =>
 cD (((pureB h230 h256) || sameA h230 h257 v12 (vcells v258).length) && true) (
 guardS v243 true (bindS (vh h257 (eqOp .eql (cmpV [(0, .int .u8), (1, .int .i64)] v255 v258))) fun v259 h260 =>
 some (v259, h260)) h257 fun v261 h262 =>
 optS (pickV v243 v261 (.bool false)) fun v263 =>
 guardS v263 true (bindS (ih 22 [] h262) fun v264 h265 =>
 some (v264, h265)) h262 fun v266 h267 =>
 optS (pickV v263 v266 (.bool false)) fun v268 =>
 some (v268, h267)) none) (
 guardS v243 true (bindS (vh h257 (eqOp .eql (cmpV [(0, .int .u8), (1, .int .i64)] v255 undefV))) fun v269 h270 =>
 some (v269, h270)) h257 fun v271 h272 =>
 optS (pickV v243 v271 (.bool false)) fun v273 =>
 guardS v273 true (bindS (ih 22 [] h272) fun v274 h275 =>
 some (v274, h275)) h272 fun v276 h277 =>
 optS (pickV v273 v276 (.bool false)) fun v278 =>
 some (v278, h277))) (
 guardS v243 true (loadN 2 v12 h230 fun v279 =>
 some (v279, h230)) h230 fun v280 _ =>
 guardS v243 true (bindS (vh h230 (eqOp .eql (cmpV [(0, .int .u8), (1, .int .i64)] undefV v280))) fun v281 h282 =>
 some (v281, h282)) h230 fun v283 h284 =>
 optS (pickV v243 v283 (.bool false)) fun v285 =>
 guardS v285 true (bindS (ih 22 [] h284) fun v286 h287 =>
 some (v286, h287)) h284 fun v288 h289 =>
 optS (pickV v285 v288 (.bool false)) fun v290 =>
 some (v290, h289))) none)) none)) none) none) none) none) none)
def B18 (ih : II) (a0 a1 a2 : V) (h : Hp) : VH :=
 newS 31 (vcells a1) h fun v0 h1 =>
 newS 31 (vcells a2) h1 fun v2 h3 =>
 newS 31 [(.int .u8 0), (.int .i64 0)] h3 fun v4 h5 =>
 loadN 2 v0 h5 fun v6 =>
 bindS (ih 60 [a0, v6, (.int .u8 5)] h5) fun v7 h8 =>
 eqS (.pointer 76) .neq v7 .nilPtr fun v9 =>
 ifS v9 (
 nilS v7 fun v10 =>
 addrS 3 v10 fun v11 =>
 load1 v11 h8 fun v12 =>
 loadN 2 v2 h8 fun v13 =>
 bindS (ih 62 [v12, v13] h8) fun v14 h15 =>
 storeN 2 v4 v14 h15 fun h16 =>
 loadN 2 v4 h16 fun v17 =>
 some (v17, h16)) (
 bindS (bldStruct h8 [] (.agg [(.int .u8 0), (.int .i64 0)]) (some [(0, 1), (1, 1)])) fun v18 h19 =>
 storeN 2 v4 v18 h19 fun h20 =>
 loadN 2 v4 h20 fun v21 =>
 some (v21, h20))
def B24 (ih : II) (a0 a1 a2 : V) (h : Hp) : VH :=
 newS 31 (vcells a1) h fun v0 h1 =>
 newS 31 (vcells a2) h1 fun v2 h3 =>
 newS 44 [(.int .u8 0), (.int .u8 0), (.int .i64 0), (.int .u8 0), (.int .i64 0), .nilSlice, (.int .u8 0)] h3 fun v4 h5 =>
 bindS (ih 64 [a0, (.str ⟨7, 33888479228813151⟩)] h5) fun v6 h7 =>
 ih 1 [a0, v0, v2, v4, v6, (.int .i64 0)] h7
def B1 (ih : II) (a0 a4 a5 a6 a7 a12 : V) (h : Hp) : VH :=
 intS .lss a12 (.int .i64 50) fun v8 =>
 ifS v8 (
 loadN 2 a4 h fun v9 =>
 bindS (dynE ih a7 [v9] h) fun v10 h11 =>
 newS 31 [(.int .u8 0), (.int .i64 0)] h11 fun v12 h13 =>
 storeN 2 v12 v10 h13 fun h14 =>
 loadN 2 a4 h14 fun v15 =>
 bindS (ih 66 [a0, v15] h14) fun v16 h17 =>
 ifS v16 (
 loadN 2 a4 h17 fun v18 =>
 loadN 2 a5 h17 fun v19 =>
 bindS (ih 18 [a0, v18, v19] h17) fun v20 h21 =>
 newS 31 [(.int .u8 0), (.int .i64 0)] h21 fun v22 h23 =>
 storeN 2 v22 v20 h23 fun h24 =>
 addrS 0 v22 fun v25 =>
 load1 v25 h24 fun v26 =>
 intS .neq v26 (.int .u8 0) fun v27 =>
 guardS v27 false (addrS 0 v12 fun v28 =>
 load1 v28 h24 fun v29 =>
 intS .eql v29 (.int .u8 0) fun v30 =>
 some (v30, h24)) h24 fun v31 h32 =>
 optS (pickV v27 (.bool true) v31) fun v33 =>
 ifS v33 (
 loadN 2 v22 h32 fun v34 =>
 bindS (ih 82 [v34] h32) fun v35 h36 =>
 storeN 7 a6 v35 h36 fun h37 =>
 loadN 7 a6 h37 fun v38 =>
 some (v38, h37)) (
 ih 3 [a0, a4, a5, a6, a7, v12, a12] h32)) (
 addrS 0 v12 fun v39 =>
 load1 v39 h17 fun v40 =>
 intS .eql v40 (.int .u8 0) fun v41 =>
 ifS v41 (
 loadN 2 a4 h17 fun v42 =>
 bindS (ih 72 [v42] h17) fun v43 h44 =>
 strS .add (.str ⟨19, 722084787157920619979998388331317583144055905⟩) v43 fun v45 =>
 strS .add v45 (.str ⟨6, 111555003905568⟩) fun v46 =>
 bindS (ih 70 [a0, v46] h44) fun v47 h48 =>
 storeN 7 a6 v47 h48 fun h49 =>
 loadN 7 a6 h49 fun v50 =>
 some (v50, h49)) (
 ih 3 [a0, a4, a5, a6, a7, v12, a12] h17))) (
 bindS (ih 70 [a0, (.str ⟨13, 9538758901685195990329122058092⟩)] h) fun v51 h52 =>
 storeN 7 a6 v51 h52 fun h53 =>
 loadN 7 a6 h53 fun v54 =>
 some (v54, h53))
def B20 (ih : II) (a0 a1 a2 a3 : V) (h : Hp) : VH :=
 newS 31 (vcells a1) h fun v0 h1 =>
 newS 31 (vcells a2) h1 fun v2 h3 =>
 newS 31 (vcells a3) h3 fun v4 h5 =>
 newS 44 [(.int .u8 0), (.int .u8 0), (.int .i64 0), (.int .u8 0), (.int .i64 0), .nilSlice, (.int .u8 0)] h5 fun v6 h7 =>
 bindS (ih 64 [a0, (.str ⟨10, 568554335933414845079391⟩)] h7) fun v8 h9 =>
 ih 5 [a0, v0, v2, v4, v6, v8, (.int .i64 0)] h9
def B5 (ih : II) (a0 a5 a6 a7 a8 a9 a13 : V) (h : Hp) : VH :=
 intS .lss a13 (.int .i64 50) fun v10 =>
 ifS v10 (
 loadN 2 a5 h fun v11 =>
 bindS (dynE ih a9 [v11] h) fun v12 h13 =>
 newS 31 [(.int .u8 0), (.int .i64 0)] h13 fun v14 h15 =>
 storeN 2 v14 v12 h15 fun h16 =>
 loadN 2 a5 h16 fun v17 =>
 bindS (ih 66 [a0, v17] h16) fun v18 h19 =>
 guardS v18 true (addrS 0 v14 fun v20 =>
 load1 v20 h19 fun v21 =>
 intS .eql v21 (.int .u8 0) fun v22 =>
 some (v22, h19)) h19 fun v23 h24 =>
 guardS v23 false (loadN 2 a5 h24 fun v25 =>
 loadN 2 a6 h24 fun v26 =>
 bindS (ih 18 [a0, v25, v26] h24) fun v27 h28 =>
 fld1 0 v27 fun v29 =>
 intS .neq v29 (.int .u8 0) fun v30 =>
 some (v30, h28)) h24 fun v31 h32 =>
 guardS v18 true (optS (pickV v23 (.bool true) v31) fun v33 =>
 some (v33, h32)) h32 fun v34 h35 =>
 optS (pickV v18 v34 (.bool false)) fun v36 =>
 ifS v36 (
 loadN 2 a5 h35 fun v37 =>
 loadN 2 a6 h35 fun v38 =>
 loadN 2 a7 h35 fun v39 =>
 bindS (ih 68 [a0, v37, v38, v39] h35) fun v40 h41 =>
 storeN 7 a8 v40 h41 fun h42 =>
 loadN 7 a8 h42 fun v43 =>
 some (v43, h42)) (
 addrS 0 v14 fun v44 =>
 load1 v44 h35 fun v45 =>
 intS .eql v45 (.int .u8 0) fun v46 =>
 ifS v46 (
 loadN 2 a5 h35 fun v47 =>
 bindS (ih 72 [v47] h35) fun v48 h49 =>
 strS .add (.str ⟨19, 722084787157920619979998388331317583144055905⟩) v48 fun v50 =>
 strS .add v50 (.str ⟨6, 111555003905568⟩) fun v51 =>
 bindS (ih 70 [a0, v51] h49) fun v52 h53 =>
 storeN 7 a8 v52 h53 fun h54 =>
 loadN 7 a8 h54 fun v55 =>
 some (v55, h54)) (
 loadN 2 v14 h35 fun v56 =>
 bindS (ih 74 [v56] h35) fun v57 h58 =>
 ifS v57 (
 loadN 2 v14 h58 fun v59 =>
 loadN 2 a5 h58 fun v60 =>
 loadN 2 a6 h58 fun v61 =>
 loadN 2 a7 h58 fun v62 =>
 bindS (bldSl h58 [(0, v60), (1, v61), (2, v62)] 31 3 2 (.agg [(.int .u8 0), (.int .i64 0)])) fun v63 h64 =>
 bindS (ih 76 [v59, (.int .u8 4), v63] h64) fun v65 h66 =>
 storeN 7 a8 v65 h66 fun h67 =>
 loadN 7 a8 h67 fun v68 =>
 some (v68, h67)) (
 loadN 2 v14 h58 fun v69 =>
 storeN 2 a5 v69 h58 fun h70 =>
 intS .add a13 (.int .i64 1) fun v71 =>
 ih 5 [a0, a5, a6, a7, a8, a9, v71] h70)))) (
 bindS (ih 70 [a0, (.str ⟨13, 9538758901685195990329122058092⟩)] h) fun v72 h73 =>
 storeN 7 a8 v72 h73 fun h74 =>
 loadN 7 a8 h74 fun v75 =>
 some (v75, h74))
def B16 (ih : II) (a0 a1 : V) (h : Hp) : VH :=
 newS 31 (vcells a1) h fun v0 h1 =>
 newS 31 [(.int .u8 0), (.int .i64 0)] h1 fun v2 h3 =>
 loadN 2 v0 h3 fun v4 =>
 bindS (ih 60 [a0, v4, (.int .u8 5)] h3) fun v5 h6 =>
 eqS (.pointer 76) .neq v5 .nilPtr fun v7 =>
 ifS v7 (
 nilS v5 fun v8 =>
 addrS 4 v8 fun v9 =>
 loadN 2 v9 h6 fun v10 =>
 storeN 2 v2 v10 h6 fun h11 =>
 loadN 2 v2 h11 fun v12 =>
 some (v12, h11)) (
 bindS (bldStruct h6 [] (.agg [(.int .u8 0), (.int .i64 0)]) (some [(0, 1), (1, 1)])) fun v13 h14 =>
 storeN 2 v2 v13 h14 fun h15 =>
 loadN 2 v2 h15 fun v16 =>
 some (v16, h15))
def B14 (ih : II) (a0 a1 : V) (h : Hp) : VH :=
 newS 31 [(.int .u8 0), (.int .i64 0)] h fun v0 h1 =>
 nilS a0 fun v2 =>
 addrS 2 v2 fun v3 =>
 load1 v3 h1 fun v4 =>
 nilS a0 fun v5 =>
 addrS 2 v5 fun v6 =>
 load1 v6 h1 fun v7 =>
 bindS (lenSl v7 fun v => some (v, h1)) fun v8 h9 =>
 bindS (ih 12 [a1, v8] ⟨h1.t, h1.n, h1.n⟩) fun v10 h11 =>
 cD ((pureB h1 h11 || sameA h1 h11 v3 (vcells v4).length) && true) (
 wroteS h1.low h11 fun h12 =>
 idxS 2 v4 v10 fun v13 =>
 loadN 2 v13 h12 fun v14 =>
 storeN 2 v0 v14 h12 fun h15 =>
 loadN 2 v0 h15 fun v16 =>
 some (v16, h15)) none
def B12 (ih : II) (a0 a1 : V) (h : Hp) : VH :=
 intS .lss a1 (.int .i64 1) fun v0 =>
 ifS v0 (
 some ((.int .i64 0), h)) (
 intS .rem a0 a1 fun v1 =>
 intS .lss v1 (.int .i64 0) fun v2 =>
 ifS v2 (
 intS .add v1 a1 fun v3 =>
 ih 7 [v3] h) (
 ih 7 [v1] h))
def B7 (ih : II) (a0 : V) (h : Hp) : VH :=
 some (a0, h)
def B10 (ih : II) (a0 : V) (h : Hp) : VH :=
 newS 25 (vcells a0) h fun v0 h1 =>
 bindS (ih 32 [(.int .i64 1048576)] h1) fun v2 h3 =>
 extS 0 v2 fun v4 =>
 extS 1 v2 fun v5 =>
 bindS (ih 34 [(.int .i64 1048576)] h3) fun v6 h7 =>
 extS 0 v6 fun v8 =>
 extS 1 v6 fun v9 =>
 intS .neq v5 (.int .i64 0) fun v10 =>
 ifS v10 (
 some (.nilPtr, h7)) (
 bindS (bldStruct h7 [(0, v4), (1, v8)] (.agg [.nilPtr, .nilPtr, .nilSlice]) (some [(0, 1), (1, 1), (2, 1)])) fun v11 h12 =>
 newS 36 (vcells v11) h12 fun v13 h14 =>
 newS 27 [.nilPtr] h14 fun v15 h16 =>
 storeC v15 v13 h16 fun h17 =>
 load1 v15 h17 fun v18 =>
 bindS (bldStruct h17 [] (.agg [(.int .u8 0), (.int .i64 0)]) (some [(0, 1), (1, 1)])) fun v19 h20 =>
 bindS (bldStruct h20 [(0, (.int .u8 1))] (.agg [(.int .u8 0), (.int .i64 0)]) (some [(0, 1), (1, 1)])) fun v21 h22 =>
 bindS (bldStruct h22 [(0, (.int .u8 2))] (.agg [(.int .u8 0), (.int .i64 0)]) (some [(0, 1), (1, 1)])) fun v23 h24 =>
 bindS (bldStruct h24 [(0, (.int .u8 3)), (1, (.int .i64 2))] (.agg [(.int .u8 0), (.int .i64 0)]) (some [(0, 1), (1, 1)])) fun v25 h26 =>
 bindS (bldStruct h26 [(0, (.int .u8 3)), (1, (.int .i64 (-7)))] (.agg [(.int .u8 0), (.int .i64 0)]) (some [(0, 1), (1, 1)])) fun v27 h28 =>
 bindS (bldStruct h28 [(0, (.int .u8 3))] (.agg [(.int .u8 0), (.int .i64 0)]) (some [(0, 1), (1, 1)])) fun v29 h30 =>
 bindS (bldStruct h30 [(0, (.int .u8 7)), (1, (.int .i64 3))] (.agg [(.int .u8 0), (.int .i64 0)]) (some [(0, 1), (1, 1)])) fun v31 h32 =>
 bindS (bldSl h32 [(0, v19), (1, v21), (2, v23), (3, v25), (4, v27), (5, v29), (6, v31)] 31 7 2 (.agg [(.int .u8 0), (.int .i64 0)])) fun v33 h34 =>
 nilS v18 fun v35 =>
 addrS 2 v35 fun v36 =>
 storeC v36 v33 h34 fun h37 =>
 ih 9 [v0, v4, v8, v15, (.func 18 [] [v15]), (.int .i64 0)] h37)
def B9 (ih : II) (a1 a3 a5 a7 a8 a9 : V) (h : Hp) : VH :=
 intS .lss a9 (.int .i64 4) fun v38 =>
 ifS v38 (
 bindS (ih 38 [a3] h) fun v39 h40 =>
 extS 0 v39 fun v41 =>
 extS 1 v39 fun v42 =>
 newS 31 [(.int .u8 0), (.int .i64 0)] h40 fun v43 h44 =>
 storeN 2 v43 v41 h44 fun h45 =>
 bindS (ih 40 [a5] h45) fun v46 h47 =>
 extS 0 v46 fun v48 =>
 extS 1 v46 fun v49 =>
 newS 31 [(.int .u8 0), (.int .i64 0)] h47 fun v50 h51 =>
 storeN 2 v50 v48 h51 fun h52 =>
 loadN 2 v43 h52 fun v53 =>
 loadN 2 v50 h52 fun v54 =>
 bindS (dynE ih a8 [v53, v54, v42, v49] h52) fun v55 h56 =>
 notS v55 fun v57 =>
 ifS v57 (
 some (.nilPtr, h56)) (
 intS .add a9 (.int .i64 1) fun v58 =>
 ih 9 [a1, a3, a5, a7, a8, v58] h56)) (
 bindS (ih 42 [] h) fun v59 h60 =>
 bindS (bldSl h60 [(0, (.str ⟨3, 6513249⟩))] 9 1 1 (.str ⟨0, 0⟩)) fun v61 h62 =>
 bindS (appS 9 16 1 v59 v61 h62) fun v63 h64 =>
 bindS (lenSl v63 fun v => some (v, h64)) fun v65 h66 =>
 ih 11 [a1, a3, a5, a7, a8, v63, v65, (.int .i64 0)] h66)
def B11 (ih : II) (a1 a3 a5 a7 a8 a78 a79 a80 : V) (h : Hp) : VH :=
 intS .lss a80 a79 fun v67 =>
 ifS v67 (
 idxS 1 a78 a80 fun v68 =>
 load1 v68 h fun v69 =>
 bindS (ih 44 [a3, v69] h) fun v70 h71 =>
 extS 0 v70 fun v72 =>
 extS 1 v70 fun v73 =>
 newS 31 [(.int .u8 0), (.int .i64 0)] h71 fun v74 h75 =>
 storeN 2 v74 v72 h75 fun h76 =>
 bindS (ih 46 [a5, v69] h76) fun v77 h78 =>
 extS 0 v77 fun v79 =>
 extS 1 v77 fun v80 =>
 newS 31 [(.int .u8 0), (.int .i64 0)] h78 fun v81 h82 =>
 storeN 2 v81 v79 h82 fun h83 =>
 loadN 2 v74 h83 fun v84 =>
 loadN 2 v81 h83 fun v85 =>
 bindS (dynE ih a8 [v84, v85, v73, v80] h83) fun v86 h87 =>
 notS v86 fun v88 =>
 ifS v88 (
 some (.nilPtr, h87)) (
 intS .add a80 (.int .i64 1) fun v89 =>
 ih 11 [a1, a3, a5, a7, a8, a78, a79, v89] h87)) (
 bindS (ih 48 [a3, (.int .i64 1), .nilSlice] h) fun v90 h91 =>
 extS 0 v90 fun v92 =>
 extS 1 v90 fun v93 =>
 newS 31 [(.int .u8 0), (.int .i64 0)] h91 fun v94 h95 =>
 storeN 2 v94 v92 h95 fun h96 =>
 bindS (ih 50 [a5, (.int .i64 1), .nilSlice] h96) fun v97 h98 =>
 extS 0 v97 fun v99 =>
 extS 1 v97 fun v100 =>
 newS 31 [(.int .u8 0), (.int .i64 0)] h98 fun v101 h102 =>
 storeN 2 v101 v99 h102 fun h103 =>
 loadN 2 v94 h103 fun v104 =>
 loadN 2 v101 h103 fun v105 =>
 bindS (dynE ih a8 [v104, v105, v93, v100] h103) fun v106 h107 =>
 notS v106 fun v108 =>
 ifS v108 (
 some (.nilPtr, h107)) (
 ih 13 [a1, a3, a5, a7, (.int .i64 0)] h107))
def B13 (ih : II) (a1 a3 a5 a7 a23 : V) (h : Hp) : VH :=
 addrS 0 a1 fun v109 =>
 load1 v109 h fun v110 =>
 bindS (lenSl v110 fun v => some (v, h)) fun v111 h112 =>
 intS .lss a23 v111 fun v113 =>
 guardS v113 true (intS .lss a23 (.int .i64 4) fun v114 =>
 some (v114, h112)) h112 fun v115 h116 =>
 optS (pickV v113 v115 (.bool false)) fun v117 =>
 ifS v117 (
 addrS 0 a1 fun v118 =>
 load1 v118 h116 fun v119 =>
 idxS 1 v119 a23 fun v120 =>
 load1 v120 h116 fun v121 =>
 intS .geq v121 (.int .i64 0) fun v122 =>
 guardS v122 true (intS .lss v121 (.int .i64 4) fun v123 =>
 some (v123, h116)) h116 fun v124 h125 =>
 optS (pickV v122 v124 (.bool false)) fun v126 =>
 ifS v126 (
 load1 a7 h125 fun v127 =>
 nilS v127 fun v128 =>
 addrS 2 v128 fun v129 =>
 load1 v129 h125 fun v130 =>
 intS .add (.int .i64 7) a23 fun v131 =>
 idxS 2 v130 v131 fun v132 =>
 loadN 2 v132 h125 fun v133 =>
 load1 a7 h125 fun v134 =>
 nilS v134 fun v135 =>
 addrS 2 v135 fun v136 =>
 load1 v136 h125 fun v137 =>
 intS .add (.int .i64 7) v121 fun v138 =>
 idxS 2 v137 v138 fun v139 =>
 loadN 2 v139 h125 fun v140 =>
 bindS (ih 52 [a3, v133, v140] h125) fun v141 h142 =>
 load1 a7 h142 fun v143 =>
 nilS v143 fun v144 =>
 addrS 2 v144 fun v145 =>
 load1 v145 h142 fun v146 =>
 intS .add (.int .i64 7) a23 fun v147 =>
 idxS 2 v146 v147 fun v148 =>
 loadN 2 v148 h142 fun v149 =>
 load1 a7 h142 fun v150 =>
 nilS v150 fun v151 =>
 addrS 2 v151 fun v152 =>
 load1 v152 h142 fun v153 =>
 intS .add (.int .i64 7) v121 fun v154 =>
 idxS 2 v153 v154 fun v155 =>
 loadN 2 v155 h142 fun v156 =>
 bindS (ih 54 [a5, v149, v156] h142) fun v157 h158 =>
 ih 17 [a1, a3, a5, a7, a23] h158) (
 ih 17 [a1, a3, a5, a7, a23] h125)) (
 ih 15 [a1, a3, a5, a7, (.int .i64 0)] h116)
def B15 (ih : II) (a1 a3 a5 a7 a25 : V) (h : Hp) : VH :=
 addrS 1 a1 fun v159 =>
 load1 v159 h fun v160 =>
 bindS (lenSl v160 fun v => some (v, h)) fun v161 h162 =>
 intS .lss a25 v161 fun v163 =>
 guardS v163 true (intS .lss a25 (.int .i64 60) fun v164 =>
 some (v164, h162)) h162 fun v165 h166 =>
 optS (pickV v163 v165 (.bool false)) fun v167 =>
 ifS v167 (
 newS 31 [(.int .u8 0), (.int .i64 0)] h166 fun v168 h169 =>
 newS 31 [(.int .u8 0), (.int .i64 0)] h169 fun v170 h171 =>
 load1 a7 h171 fun v172 =>
 nilS v172 fun v173 =>
 addrS 2 v173 fun v174 =>
 load1 v174 h171 fun v175 =>
 addrS 1 a1 fun v176 =>
 load1 v176 h171 fun v177 =>
 idxS 3 v177 a25 fun v178 =>
 idxP 1 3 v178 (.int .i64 0) fun v179 =>
 load1 v179 h171 fun v180 =>
 bindS (ih 12 [v180, (.int .i64 4)] ⟨h171.t, h171.n, h171.n⟩) fun v181 h182 =>
 cD ((pureB h171 h182 || sameA h171 h182 v174 (vcells v175).length) && ((pureB h171 h182 || sameA h171 h182 a7 (vcells v172).length) && ((pureB h171 h182 || sameLd h171 h182 (fent v168 31 [(.int .u8 0), (.int .i64 0)])) && ((pureB h171 h182 || sameLd h171 h182 (fent v170 31 [(.int .u8 0), (.int .i64 0)])) && true)))) (
 wroteS h171.low h182 fun h183 =>
 intS .add (.int .i64 7) v181 fun v184 =>
 idxS 2 v175 v184 fun v185 =>
 loadN 2 v185 h183 fun v186 =>
 load1 a7 h171 fun v187 =>
 cD (((pureB h171 h182) || sameA h171 h183 a7 (vcells v187).length) && true) (
 nilS v187 fun v188 =>
 addrS 2 v188 fun v189 =>
 load1 v189 h171 fun v190 =>
 cD (((pureB h171 h182) || sameA h171 h183 v189 (vcells v190).length) && true) (
 addrS 1 a1 fun v191 =>
 load1 v191 h171 fun v192 =>
 cD (((pureB h171 h182) || sameA h171 h183 v191 (vcells v192).length) && true) (
 idxS 3 v192 a25 fun v193 =>
 idxP 1 3 v193 (.int .i64 1) fun v194 =>
 load1 v194 h171 fun v195 =>
 cD (((pureB h171 h182) || sameA h171 h183 v194 (vcells v195).length) && true) (
 bindS (ih 42 [] ⟨h183.t, h183.n, h183.n⟩) fun v196 h197 =>
 cD ((pureB h183 h197 || sameA h183 h197 v194 (vcells v195).length) && ((pureB h183 h197 || sameA h183 h197 v191 (vcells v192).length) && ((pureB h183 h197 || sameA h183 h197 v189 (vcells v190).length) && ((pureB h183 h197 || sameA h183 h197 a7 (vcells v187).length) && ((pureB h183 h197 || sameA h183 h197 v185 (vcells v186).length) && ((pureB h183 h197 || sameA h183 h197 v174 (vcells v175).length) && ((pureB h183 h197 || sameA h183 h197 a7 (vcells v172).length) && ((pureB h183 h197 || sameLd h183 h197 (fent v168 31 [(.int .u8 0), (.int .i64 0)])) && ((pureB h183 h197 || sameLd h183 h197 (fent v170 31 [(.int .u8 0), (.int .i64 0)])) && true))))))))) (
 wroteS h183.low h197 fun h198 =>
 bindS (lenSl v196 fun v => some (v, h198)) fun v199 h200 =>
 bindS (ih 12 [v195, v199] ⟨h198.t, h198.n, h198.n⟩) fun v201 h202 =>
 cD ((pureB h198 h202 || sameA h198 h202 v189 (vcells v190).length) && ((pureB h198 h202 || sameA h198 h202 a7 (vcells v187).length) && ((pureB h198 h202 || sameA h198 h202 v185 (vcells v186).length) && ((pureB h198 h202 || sameA h198 h202 v174 (vcells v175).length) && ((pureB h198 h202 || sameA h198 h202 a7 (vcells v172).length) && ((pureB h198 h202 || sameLd h198 h202 (fent v168 31 [(.int .u8 0), (.int .i64 0)])) && ((pureB h198 h202 || sameLd h198 h202 (fent v170 31 [(.int .u8 0), (.int .i64 0)])) && true))))))) (
 wroteS h198.low h202 fun h203 =>
 intS .add (.int .i64 11) v201 fun v204 =>
 idxS 2 v190 v204 fun v205 =>
 loadN 2 v205 h203 fun v206 =>
 ptrE v168 fun b207 o208 => storeB (storeO Tryz.prog h203 31 b207 o208 v186) fun c209 =>
 cD (offP v205 b207 && (offP v189 b207 && (offP a7 b207 && true))) (
 storeN 2 v170 v206 (h203.put b207 c209) fun h210 =>
 newS 31 [(.int .u8 0), (.int .i64 0)] h210 fun v211 h212 =>
 load1 a7 h212 fun v213 =>
 addrS 1 a1 fun v214 =>
 load1 v214 h212 fun v215 =>
 idxS 3 v215 a25 fun v216 =>
 idxP 1 3 v216 (.int .i64 2) fun v217 =>
 load1 v217 h212 fun v218 =>
 bindS (ih 14 [v213, v218] ⟨h212.t, h212.n, h212.n⟩) fun v219 h220 =>
 cD ((pureB h212 h220 || sameLd h212 h220 (fent v211 31 [(.int .u8 0), (.int .i64 0)])) && true) (
 wroteS h212.low h220 fun h221 =>
 storeN 2 v211 v219 h221 fun h222 =>
 loadN 2 v168 h222 fun v223 =>
 loadN 2 v170 h222 fun v224 =>
 loadN 2 v211 h222 fun v225 =>
 bindS (ih 56 [a3, v223, v224, v225] ⟨h222.t, h222.n, h222.n⟩) fun v226 h227 =>
 wroteS h222.low h227 fun h228 =>
 loadN 2 v168 h222 fun v229 =>
 cD (((pureB h222 h227) || sameA h222 h228 v168 (vcells v229).length) && true) (
 loadN 2 v170 h222 fun v230 =>
 cD (((pureB h222 h227) || sameA h222 h228 v170 (vcells v230).length) && true) (
 loadN 2 v211 h222 fun v231 =>
 cD (((pureB h222 h227) || sameA h222 h228 v211 (vcells v231).length) && true) (
 bindS (ih 58 [a5, v229, v230, v231] h228) fun v232 h233 =>
 intS .neq v226 v232 fun v234 =>
 ifS v234 (
 some (.nilPtr, h233)) (
 intS .add a25 (.int .i64 1) fun v235 =>
 ih 15 [a1, a3, a5, a7, v235] h233)) none) none) none) none) none) none) none) none) none) none) none) none) (
 load1 a7 h166 fun v236 =>
 some (v236, h166))
def B17 (ih : II) (a1 a3 a5 a7 a23 : V) (h : Hp) : VH :=
 intS .add a23 (.int .i64 1) fun v237 =>
 ih 13 [a1, a3, a5, a7, v237] h
def B62 (ih : II) (a0 a1 : V) (h : Hp) : VH :=
 newS 31 (vcells a1) h fun v0 h1 =>
 newS 31 [(.int .u8 0), (.int .i64 0)] h1 fun v2 h3 =>
 bindS (ih 144 [a0] h3) fun v4 h5 =>
 ifS v4 (
 nilS a0 fun v6 =>
 addrS 1 v6 fun v7 =>
 load1 v7 h5 fun v8 =>
 loadN 2 v0 h5 fun v9 =>
 bindS (vh h5 (kLook h5 (.struct [(0, .int .u8), (1, .int .i64)]) (some (.int .i64 0)) true v8 v9)) fun v10 h11 =>
 extS 0 v10 fun v12 =>
 extS 1 v10 fun v13 =>
 ifS v13 (
 nilS a0 fun v14 =>
 addrS 0 v14 fun v15 =>
 load1 v15 h5 fun v16 =>
 idxS 4 v16 v12 fun v17 =>
 addrS 2 v17 fun v18 =>
 loadN 2 v18 h5 fun v19 =>
 storeN 2 v2 v19 h5 fun h20 =>
 loadN 2 v2 h20 fun v21 =>
 some (v21, h20)) (
 ih 19 [v2] h5)) (
 ih 19 [v2] h5)
def B19 (ih : II) (a4 : V) (h : Hp) : VH :=
 bindS (bldStruct h [] (.agg [(.int .u8 0), (.int .i64 0)]) (some [(0, 1), (1, 1)])) fun v22 h23 =>
 storeN 2 a4 v22 h23 fun h24 =>
 loadN 2 a4 h24 fun v25 =>
 some (v25, h24)
def B60 (ih : II) (a0 a1 a2 : V) (h : Hp) : VH :=
 newS 31 (vcells a1) h fun v0 h1 =>
 addrS 0 v0 fun v2 =>
 load1 v2 h1 fun v3 =>
 intS .neq v3 a2 fun v4 =>
 ifS v4 (
 some (.nilPtr, h1)) (
 loadN 2 v0 h1 fun v5 =>
 bindS (ih 142 [a0, v5] h1) fun v6 h7 =>
 some (v6, h7))
def B76 (ih : II) (a0 a1 a2 : V) (h : Hp) : VH :=
 newS 31 (vcells a0) h fun v0 h1 =>
 newS 44 [(.int .u8 0), (.int .u8 0), (.int .i64 0), (.int .u8 0), (.int .i64 0), .nilSlice, (.int .u8 0)] h1 fun v2 h3 =>
 loadN 2 v0 h3 fun v4 =>
 bindS (bldStruct h3 [(0, (.int .u8 2)), (2, v4), (3, a2), (4, a1)] (.agg [(.int .u8 0), (.int .u8 0), (.int .i64 0), (.int .u8 0), (.int .i64 0), .nilSlice, (.int .u8 0)]) (some [(0, 1), (1, 2), (3, 2), (5, 1), (6, 1)])) fun v5 h6 =>
 storeN 7 v2 v5 h6 fun h7 =>
 loadN 7 v2 h7 fun v8 =>
 some (v8, h7)
def B74 (ih : II) (a0 : V) (h : Hp) : VH :=
 newS 31 (vcells a0) h fun v0 h1 =>
 addrS 0 v0 fun v2 =>
 load1 v2 h1 fun v3 =>
 intS .eql v3 (.int .u8 6) fun v4 =>
 guardS v4 false (addrS 0 v0 fun v5 =>
 load1 v5 h1 fun v6 =>
 intS .eql v6 (.int .u8 7) fun v7 =>
 some (v7, h1)) h1 fun v8 h9 =>
 optS (pickV v4 (.bool true) v8) fun v10 =>
 some (v10, h9)
def B70 (ih : II) (a0 a1 : V) (h : Hp) : VH :=
 newS 44 [(.int .u8 0), (.int .u8 0), (.int .i64 0), (.int .u8 0), (.int .i64 0), .nilSlice, (.int .u8 0)] h fun v0 h1 =>
 bindS (ih 152 [a0, (.int .u8 3), a1] h1) fun v2 h3 =>
 storeN 7 v0 v2 h3 fun h4 =>
 loadN 7 v0 h4 fun v5 =>
 some (v5, h4)
def B72 (ih : II) (a0 : V) (h : Hp) : VH :=
 newS 31 (vcells a0) h fun v0 h1 =>
 bindS (bldArr h1 [(0, (.str ⟨3, 7104878⟩)), (1, (.str ⟨7, 31069335677005666⟩)), (2, (.str ⟨7, 31069335677005666⟩)), (3, (.str ⟨6, 125779768604014⟩)), (4, (.str ⟨6, 113723913172083⟩)), (5, (.str ⟨5, 435610083700⟩)), (6, (.str ⟨8, 7957695015192261990⟩)), (7, (.str ⟨8, 7957695015192261990⟩)), (8, (.str ⟨6, 110369476601972⟩))] (.agg [(.str ⟨0, 0⟩), (.str ⟨0, 0⟩), (.str ⟨0, 0⟩), (.str ⟨0, 0⟩), (.str ⟨0, 0⟩), (.str ⟨0, 0⟩), (.str ⟨0, 0⟩), (.str ⟨0, 0⟩), (.str ⟨0, 0⟩)]) 1) fun v2 h3 =>
 newS 130 [(.str ⟨0, 0⟩), (.str ⟨0, 0⟩), (.str ⟨0, 0⟩), (.str ⟨0, 0⟩), (.str ⟨0, 0⟩), (.str ⟨0, 0⟩), (.str ⟨0, 0⟩), (.str ⟨0, 0⟩), (.str ⟨0, 0⟩)] h3 fun v4 h5 =>
 storeN 9 v4 v2 h5 fun h6 =>
 addrS 0 v0 fun v7 =>
 load1 v7 h6 fun v8 =>
 convI .i64 v8 fun v9 =>
 intS .geq v9 (.int .i64 9) fun v10 =>
 ifS v10 (
 some ((.str ⟨3, 7104878⟩), h6)) (
 addrS 0 v0 fun v11 =>
 load1 v11 h6 fun v12 =>
 idxP 1 9 v4 v12 fun v13 =>
 load1 v13 h6 fun v14 =>
 some (v14, h6))
def B82 (ih : II) (a0 : V) (h : Hp) : VH :=
 newS 31 (vcells a0) h fun v0 h1 =>
 newS 44 [(.int .u8 0), (.int .u8 0), (.int .i64 0), (.int .u8 0), (.int .i64 0), .nilSlice, (.int .u8 0)] h1 fun v2 h3 =>
 loadN 2 v0 h3 fun v4 =>
 bindS (bldStruct h3 [(0, (.int .u8 1)), (1, v4)] (.agg [(.int .u8 0), (.int .u8 0), (.int .i64 0), (.int .u8 0), (.int .i64 0), .nilSlice, (.int .u8 0)]) (some [(0, 1), (1, 2), (3, 2), (5, 1), (6, 1)])) fun v5 h6 =>
 storeN 7 v2 v5 h6 fun h7 =>
 loadN 7 v2 h7 fun v8 =>
 some (v8, h7)
def B66 (ih : II) (a0 a1 : V) (h : Hp) : VH :=
 newS 31 (vcells a1) h fun v0 h1 =>
 addrS 0 v0 fun v2 =>
 load1 v2 h1 fun v3 =>
 intS .eql v3 (.int .u8 5) fun v4 =>
 guardS v4 true (loadN 2 v0 h1 fun v5 =>
 bindS (ih 150 [a0, v5] h1) fun v6 h7 =>
 some (v6, h7)) h1 fun v8 h9 =>
 optS (pickV v4 v8 (.bool false)) fun v10 =>
 some (v10, h9)
def B64 (ih : II) (a0 a1 : V) (h : Hp) : VH :=
 newS 32 (vcells a0) h fun v0 h1 =>
 load1 v0 h1 fun v2 =>
 bindS (ih 146 [v2, a1] h1) fun v3 h4 =>
 extS 0 v3 fun v5 =>
 extS 1 v3 fun v6 =>
 newS 31 [(.int .u8 0), (.int .i64 0)] h4 fun v7 h8 =>
 newS 4 [(.bool false)] h8 fun v9 h10 =>
 storeN 2 v7 v5 h10 fun h11 =>
 storeC v9 v6 h11 fun h12 =>
 some ((.func 74 [] [v0, v9, v7]), h12)
def B68 (ih : II) (a0 a1 a2 a3 : V) (h : Hp) : VH :=
 newS 31 (vcells a1) h fun v0 h1 =>
 newS 31 (vcells a2) h1 fun v2 h3 =>
 newS 31 (vcells a3) h3 fun v4 h5 =>
 newS 44 [(.int .u8 0), (.int .u8 0), (.int .i64 0), (.int .u8 0), (.int .i64 0), .nilSlice, (.int .u8 0)] h5 fun v6 h7 =>
 addrS 0 v2 fun v8 =>
 load1 v8 h7 fun v9 =>
 intS .eql v9 (.int .u8 0) fun v10 =>
 ifS v10 (
 bindS (ih 70 [a0, (.str ⟨12, 33551838330689943393685237353⟩)] h7) fun v11 h12 =>
 storeN 7 v6 v11 h12 fun h13 =>
 loadN 7 v6 h13 fun v14 =>
 some (v14, h13)) (
 loadN 2 v0 h7 fun v15 =>
 loadN 2 v2 h7 fun v16 =>
 loadN 2 v4 h7 fun v17 =>
 bindS (ih 56 [a0, v15, v16, v17] h7) fun v18 h19 =>
 intS .eql v18 (.int .i64 0) fun v20 =>
 ifS v20 (
 bindS (bldStruct h19 [] (.agg [(.int .u8 0), (.int .i64 0)]) (some [(0, 1), (1, 1)])) fun v21 h22 =>
 bindS (ih 82 [v21] h22) fun v23 h24 =>
 storeN 7 v6 v23 h24 fun h25 =>
 loadN 7 v6 h25 fun v26 =>
 some (v26, h25)) (
 intS .eql v18 (.int .i64 152) fun v27 =>
 ifS v27 (
 bindS (bldStruct h19 [(0, (.int .u8 4))] (.agg [(.int .u8 0), (.int .u8 0), (.int .i64 0), (.int .u8 0), (.int .i64 0), .nilSlice, (.int .u8 0)]) (some [(0, 1), (1, 2), (3, 2), (5, 1), (6, 1)])) fun v28 h29 =>
 storeN 7 v6 v28 h29 fun h30 =>
 loadN 7 v6 h30 fun v31 =>
 some (v31, h30)) (
 intS .eql v18 (.int .i64 5) fun v32 =>
 ifS v32 (
 bindS (ih 70 [a0, (.str ⟨14, 2422434617105347862156227469533556⟩)] h19) fun v33 h34 =>
 storeN 7 v6 v33 h34 fun h35 =>
 loadN 7 v6 h35 fun v36 =>
 some (v36, h35)) (
 bindS (ih 70 [a0, (.str ⟨12, 33551838330689943393685237353⟩)] h19) fun v37 h38 =>
 storeN 7 v6 v37 h38 fun h39 =>
 loadN 7 v6 h39 fun v40 =>
 some (v40, h39)))))
def B58 (ih : II) (a0 a1 a2 a3 : V) (h : Hp) : VH :=
 newS 31 (vcells a1) h fun v0 h1 =>
 newS 31 (vcells a2) h1 fun v2 h3 =>
 newS 31 (vcells a3) h3 fun v4 h5 =>
 loadN 2 v0 h5 fun v6 =>
 bindS (ih 120 [a0, v6] h5) fun v7 h8 =>
 eqS (.pointer 112) .eql v7 .nilPtr fun v9 =>
 ifS v9 (
 some ((.int .i64 151), h8)) (
 loadN 2 v2 h8 fun v10 =>
 bindS (ih 132 [v10] h8) fun v11 h12 =>
 notS v11 fun v13 =>
 guardS v13 false (loadN 2 v2 h12 fun v14 =>
 bindS (ih 134 [a0, v14] h12) fun v15 h16 =>
 notS v15 fun v17 =>
 some (v17, h16)) h12 fun v18 h19 =>
 optS (pickV v13 (.bool true) v18) fun v20 =>
 guardS v20 false (loadN 2 v4 h19 fun v21 =>
 bindS (ih 134 [a0, v21] h19) fun v22 h23 =>
 notS v22 fun v24 =>
 some (v24, h23)) h19 fun v25 h26 =>
 optS (pickV v20 (.bool true) v25) fun v27 =>
 ifS v27 (
 some ((.int .i64 150), h26)) (
 nilS v7 fun v28 =>
 addrS 4 v28 fun v29 =>
 load1 v29 h26 fun v30 =>
 loadN 2 v2 h26 fun v31 =>
 bindS (ih 136 [v30, v31] ⟨h26.t, h26.n, h26.n⟩) fun v32 h33 =>
 wroteS h26.low h33 fun h34 =>
 fld1 0 v32 fun v35 =>
 intS .eql v35 (.int .u8 0) fun v36 =>
 guardS v36 true (addrS 0 v4 fun v37 =>
 some (v37, h34)) h34 fun v38 _ =>
 guardS v36 true (load1 v38 h34 fun v39 =>
 some (v39, h34)) h34 fun v40 _ =>
 guardS v36 true (intS .neq v40 (.int .u8 0) fun v41 =>
 some (v41, h34)) h34 fun v42 _ =>
 optS (pickV v36 v42 (.bool false)) fun v43 =>
 guardS v43 true (some (a0, h34)) h34 fun v44 _ =>
 guardB v43 true (
 bindS (ih 138 [v44] ⟨h34.t, h34.n, h34.n⟩) fun v45 h46 =>
 wroteS h34.low h46 fun h47 =>
 guardS v43 true (intS .add v45 (.int .i64 2) fun v48 =>
 some (v48, h47)) h47 fun v49 _ =>
 guardS v43 true (some (a0, h34)) h34 fun v50 _ =>
 guardS v43 true (nilS v50 fun v51 =>
 some (v51, h34)) h34 fun v52 _ =>
 guardS v43 true (addrS 0 v52 fun v53 =>
 some (v53, h34)) h34 fun v54 _ =>
 guardB v43 true (
 load1 v54 h34 fun v55 =>
 cD (((pureB h34 h46) || sameA h34 h47 v54 (vcells v55).length) && true) (
 guardS v43 true (intS .gtr v49 v55 fun v56 =>
 some (v56, h47)) h47 fun v57 h58 =>
 optS (pickV v43 v57 (.bool false)) fun v59 =>
 ifS v59 (
 some ((.int .i64 152), h58)) (
 nilS v7 fun v60 =>
 addrS 4 v60 fun v61 =>
 load1 v61 h58 fun v62 =>
 loadN 2 v2 h58 fun v63 =>
 loadN 2 v4 h58 fun v64 =>
 bindS (ih 140 [v62, v63, v64] h58) fun v65 h66 =>
 intS .eql v65 (.int .i64 0) fun v67 =>
 guardS v67 true (nilS a0 fun v68 =>
 addrS 3 v68 fun v69 =>
 load1 v69 h66 fun v70 =>
 some (v70, h66)) h66 fun v71 h72 =>
 optS (pickV v67 v71 (.bool false)) fun v73 =>
 ifS v73 (
 nilS v7 fun v74 =>
 addrS 12 v74 fun v75 =>
 storeC v75 (.bool true) h72 fun h76 =>
 ih 21 [v65] h76) (
 ih 21 [v65] h72))) none) (
 guardS v43 true (intS .gtr v49 undefV fun v77 =>
 some (v77, h47)) h47 fun v78 h79 =>
 optS (pickV v43 v78 (.bool false)) fun v80 =>
 ifS v80 (
 some ((.int .i64 152), h79)) (
 nilS v7 fun v81 =>
 addrS 4 v81 fun v82 =>
 load1 v82 h79 fun v83 =>
 loadN 2 v2 h79 fun v84 =>
 loadN 2 v4 h79 fun v85 =>
 bindS (ih 140 [v83, v84, v85] h79) fun v86 h87 =>
 intS .eql v86 (.int .i64 0) fun v88 =>
 guardS v88 true (nilS a0 fun v89 =>
 addrS 3 v89 fun v90 =>
 load1 v90 h87 fun v91 =>
 some (v91, h87)) h87 fun v92 h93 =>
 optS (pickV v88 v92 (.bool false)) fun v94 =>
 ifS v94 (
 nilS v7 fun v95 =>
 addrS 12 v95 fun v96 =>
 storeC v96 (.bool true) h93 fun h97 =>
 ih 21 [v86] h97) (
 ih 21 [v86] h93)))) (
 guardS v43 true (intS .add undefV (.int .i64 2) fun v98 =>
 some (v98, h34)) h34 fun v99 _ =>
 guardS v43 true (some (a0, h34)) h34 fun v100 _ =>
 guardS v43 true (nilS v100 fun v101 =>
 some (v101, h34)) h34 fun v102 _ =>
 guardS v43 true (addrS 0 v102 fun v103 =>
 some (v103, h34)) h34 fun v104 _ =>
 guardS v43 true (load1 v104 h34 fun v105 =>
 some (v105, h34)) h34 fun v106 _ =>
 guardS v43 true (intS .gtr v99 v106 fun v107 =>
 some (v107, h34)) h34 fun v108 h109 =>
 optS (pickV v43 v108 (.bool false)) fun v110 =>
 ifS v110 (
 some ((.int .i64 152), h109)) (
 nilS v7 fun v111 =>
 addrS 4 v111 fun v112 =>
 load1 v112 h109 fun v113 =>
 loadN 2 v2 h109 fun v114 =>
 loadN 2 v4 h109 fun v115 =>
 bindS (ih 140 [v113, v114, v115] h109) fun v116 h117 =>
 intS .eql v116 (.int .i64 0) fun v118 =>
 guardS v118 true (nilS a0 fun v119 =>
 addrS 3 v119 fun v120 =>
 load1 v120 h117 fun v121 =>
 some (v121, h117)) h117 fun v122 h123 =>
 optS (pickV v118 v122 (.bool false)) fun v124 =>
 ifS v124 (
 nilS v7 fun v125 =>
 addrS 12 v125 fun v126 =>
 storeC v126 (.bool true) h123 fun h127 =>
 ih 21 [v116] h127) (
 ih 21 [v116] h123)))))
def B21 (ih : II) (a10 : V) (h : Hp) : VH :=
 some (a10, h)
def B56 (ih : II) (a0 a1 a2 a3 : V) (h : Hp) : VH :=
 newS 31 (vcells a1) h fun v0 h1 =>
 newS 31 (vcells a2) h1 fun v2 h3 =>
 newS 31 (vcells a3) h3 fun v4 h5 =>
 bindS (ih 102 [a0] h5) fun v6 h7 =>
 notS v6 fun v8 =>
 ifS v8 (
 some ((.int .i64 1), h7)) (
 loadN 2 v0 h7 fun v9 =>
 bindS (ih 60 [a0, v9, (.int .u8 5)] h7) fun v10 h11 =>
 eqS (.pointer 76) .eql v10 .nilPtr fun v12 =>
 ifS v12 (
 some ((.int .i64 151), h11)) (
 addrS 0 v2 fun v13 =>
 load1 v13 h11 fun v14 =>
 intS .eql v14 (.int .u8 0) fun v15 =>
 guardS v15 false (loadN 2 v2 h11 fun v16 =>
 bindS (ih 122 [a0, v16] h11) fun v17 h18 =>
 notS v17 fun v19 =>
 some (v19, h18)) h11 fun v20 h21 =>
 optS (pickV v15 (.bool true) v20) fun v22 =>
 guardS v22 false (loadN 2 v4 h21 fun v23 =>
 bindS (ih 122 [a0, v23] h21) fun v24 h25 =>
 notS v24 fun v26 =>
 some (v26, h25)) h21 fun v27 h28 =>
 optS (pickV v22 (.bool true) v27) fun v29 =>
 ifS v29 (
 some ((.int .i64 150), h28)) (
 nilS v10 fun v30 =>
 addrS 3 v30 fun v31 =>
 load1 v31 h28 fun v32 =>
 loadN 2 v2 h28 fun v33 =>
 bindS (ih 62 [v32, v33] ⟨h28.t, h28.n, h28.n⟩) fun v34 h35 =>
 wroteS h28.low h35 fun h36 =>
 fld1 0 v34 fun v37 =>
 intS .eql v37 (.int .u8 0) fun v38 =>
 guardS v38 true (addrS 0 v4 fun v39 =>
 some (v39, h36)) h36 fun v40 _ =>
 guardS v38 true (load1 v40 h36 fun v41 =>
 some (v41, h36)) h36 fun v42 _ =>
 guardS v38 true (intS .neq v42 (.int .u8 0) fun v43 =>
 some (v43, h36)) h36 fun v44 _ =>
 optS (pickV v38 v44 (.bool false)) fun v45 =>
 guardS v45 true (some (a0, h36)) h36 fun v46 _ =>
 guardS v45 true (nilS v46 fun v47 =>
 some (v47, h36)) h36 fun v48 _ =>
 guardS v45 true (addrS 1 v48 fun v49 =>
 some (v49, h36)) h36 fun v50 _ =>
 guardS v45 true (load1 v50 h36 fun v51 =>
 some (v51, h36)) h36 fun v52 _ =>
 guardB v45 true (
 bindS (ih 124 [v52] ⟨h36.t, h36.n, h36.n⟩) fun v53 h54 =>
 wroteS h36.low h54 fun h55 =>
 guardS v45 true (intS .add v53 (.int .i64 2) fun v56 =>
 some (v56, h55)) h55 fun v57 _ =>
 guardS v45 true (some (a0, h36)) h36 fun v58 _ =>
 guardS v45 true (nilS v58 fun v59 =>
 some (v59, h36)) h36 fun v60 _ =>
 guardS v45 true (addrS 0 v60 fun v61 =>
 some (v61, h36)) h36 fun v62 _ =>
 guardB v45 true (
 load1 v62 h36 fun v63 =>
 cD (((pureB h36 h54) || sameA h36 h55 v62 (vcells v63).length) && true) (
 guardS v45 true (intS .gtr v57 v63 fun v64 =>
 some (v64, h55)) h55 fun v65 h66 =>
 optS (pickV v45 v65 (.bool false)) fun v67 =>
 ifS v67 (
 some ((.int .i64 152), h66)) (
 nilS v10 fun v68 =>
 addrS 3 v68 fun v69 =>
 load1 v69 h66 fun v70 =>
 loadN 2 v2 h66 fun v71 =>
 loadN 2 v4 h66 fun v72 =>
 bindS (ih 126 [v70, v71, v72] h66) fun v73 h74 =>
 intS .eql v73 (.int .i64 0) fun v75 =>
 ifS v75 (
 nilS a0 fun v76 =>
 addrS 1 v76 fun v77 =>
 load1 v77 h74 fun v78 =>
 addrS 1 v0 fun v79 =>
 load1 v79 h74 fun v80 =>
 nilS v10 fun v81 =>
 addrS 3 v81 fun v82 =>
 load1 v82 h74 fun v83 =>
 bindS (ih 130 [v83] ⟨h74.t, h74.n, h74.n⟩) fun v84 h85 =>
 cD ((pureB h74 h85 || sameA h74 h85 v79 (vcells v80).length) && ((pureB h74 h85 || sameA h74 h85 v77 (vcells v78).length) && true)) (
 wroteS h74.low h85 fun h86 =>
 intS .mul (.int .i64 2) v84 fun v87 =>
 intS .add (.int .i64 2) v87 fun v88 =>
 bindS (ih 128 [v78, v80, v88] h86) fun v89 h90 =>
 addrS 1 v0 fun v91 =>
 load1 v91 h90 fun v92 =>
 bindS (ih 110 [a0, v92] h90) fun v93 h94 =>
 ih 23 [v73] h94) none) (
 ih 23 [v73] h74))) none) (
 guardS v45 true (intS .gtr v57 undefV fun v95 =>
 some (v95, h55)) h55 fun v96 h97 =>
 optS (pickV v45 v96 (.bool false)) fun v98 =>
 ifS v98 (
 some ((.int .i64 152), h97)) (
 nilS v10 fun v99 =>
 addrS 3 v99 fun v100 =>
 load1 v100 h97 fun v101 =>
 loadN 2 v2 h97 fun v102 =>
 loadN 2 v4 h97 fun v103 =>
 bindS (ih 126 [v101, v102, v103] h97) fun v104 h105 =>
 intS .eql v104 (.int .i64 0) fun v106 =>
 ifS v106 (
 nilS a0 fun v107 =>
 addrS 1 v107 fun v108 =>
 load1 v108 h105 fun v109 =>
 addrS 1 v0 fun v110 =>
 load1 v110 h105 fun v111 =>
 nilS v10 fun v112 =>
 addrS 3 v112 fun v113 =>
 load1 v113 h105 fun v114 =>
 bindS (ih 130 [v114] ⟨h105.t, h105.n, h105.n⟩) fun v115 h116 =>
 cD ((pureB h105 h116 || sameA h105 h116 v110 (vcells v111).length) && ((pureB h105 h116 || sameA h105 h116 v108 (vcells v109).length) && true)) (
 wroteS h105.low h116 fun h117 =>
 intS .mul (.int .i64 2) v115 fun v118 =>
 intS .add (.int .i64 2) v118 fun v119 =>
 bindS (ih 128 [v109, v111, v119] h117) fun v120 h121 =>
 addrS 1 v0 fun v122 =>
 load1 v122 h121 fun v123 =>
 bindS (ih 110 [a0, v123] h121) fun v124 h125 =>
 ih 23 [v104] h125) none) (
 ih 23 [v104] h105)))) (
 guardS v45 true (intS .add undefV (.int .i64 2) fun v126 =>
 some (v126, h36)) h36 fun v127 _ =>
 guardS v45 true (some (a0, h36)) h36 fun v128 _ =>
 guardS v45 true (nilS v128 fun v129 =>
 some (v129, h36)) h36 fun v130 _ =>
 guardS v45 true (addrS 0 v130 fun v131 =>
 some (v131, h36)) h36 fun v132 _ =>
 guardS v45 true (load1 v132 h36 fun v133 =>
 some (v133, h36)) h36 fun v134 _ =>
 guardS v45 true (intS .gtr v127 v134 fun v135 =>
 some (v135, h36)) h36 fun v136 h137 =>
 optS (pickV v45 v136 (.bool false)) fun v138 =>
 ifS v138 (
 some ((.int .i64 152), h137)) (
 nilS v10 fun v139 =>
 addrS 3 v139 fun v140 =>
 load1 v140 h137 fun v141 =>
 loadN 2 v2 h137 fun v142 =>
 loadN 2 v4 h137 fun v143 =>
 bindS (ih 126 [v141, v142, v143] h137) fun v144 h145 =>
 intS .eql v144 (.int .i64 0) fun v146 =>
 ifS v146 (
 nilS a0 fun v147 =>
 addrS 1 v147 fun v148 =>
 load1 v148 h145 fun v149 =>
 addrS 1 v0 fun v150 =>
 load1 v150 h145 fun v151 =>
 nilS v10 fun v152 =>
 addrS 3 v152 fun v153 =>
 load1 v153 h145 fun v154 =>
 bindS (ih 130 [v154] ⟨h145.t, h145.n, h145.n⟩) fun v155 h156 =>
 cD ((pureB h145 h156 || sameA h145 h156 v150 (vcells v151).length) && ((pureB h145 h156 || sameA h145 h156 v148 (vcells v149).length) && true)) (
 wroteS h145.low h156 fun h157 =>
 intS .mul (.int .i64 2) v155 fun v158 =>
 intS .add (.int .i64 2) v158 fun v159 =>
 bindS (ih 128 [v149, v151, v159] h157) fun v160 h161 =>
 addrS 1 v0 fun v162 =>
 load1 v162 h161 fun v163 =>
 bindS (ih 110 [a0, v163] h161) fun v164 h165 =>
 ih 23 [v144] h165) none) (
 ih 23 [v144] h145))))))
def B23 (ih : II) (a10 : V) (h : Hp) : VH :=
 some (a10, h)
def B42 (ih : II) (h : Hp) : VH :=
 bindS (bldSl h [(0, (.str ⟨7, 33888479228813151⟩)), (1, (.str ⟨10, 568554335933414845079391⟩)), (2, (.str ⟨5, 431180832607⟩)), (3, (.str ⟨5, 422877290335⟩)), (4, (.str ⟨5, 465826570079⟩)), (5, (.str ⟨6, 130195028270943⟩)), (6, (.str ⟨5, 431366168415⟩)), (7, (.str ⟨6, 110425243017055⟩)), (8, (.str ⟨5, 491494989663⟩)), (9, (.str ⟨6, 125823086649183⟩)), (10, (.str ⟨5, 465608859487⟩)), (11, (.str ⟨5, 491378663263⟩)), (12, (.str ⟨8, 8386093307106910047⟩)), (13, (.str ⟨4, 1902468959⟩)), (14, (.str ⟨4, 1953259359⟩)), (15, (.str ⟨4, 1701601119⟩)), (16, (.str ⟨5, 470004621151⟩)), (17, (.str ⟨6, 128021942132575⟩)), (18, (.str ⟨5, 474148003679⟩)), (19, (.str ⟨6, 119212746170207⟩)), (20, (.str ⟨1, 120⟩)), (21, (.str ⟨1, 121⟩))] 9 22 1 (.str ⟨0, 0⟩)) fun v0 h1 =>
 some (v0, h1)
def B54 (ih : II) (a0 a1 a2 : V) (h : Hp) : VH :=
 newS 31 (vcells a1) h fun v0 h1 =>
 newS 31 (vcells a2) h1 fun v2 h3 =>
 loadN 2 v0 h3 fun v4 =>
 bindS (ih 120 [a0, v4] h3) fun v5 h6 =>
 eqS (.pointer 112) .eql v5 .nilPtr fun v7 =>
 ifS v7 (
 some ((.int .i64 151), h6)) (
 loadN 2 v2 h6 fun v8 =>
 bindS (bldStruct h6 [] (.agg [(.int .u8 0), (.int .i64 0)]) (some [(0, 1), (1, 1)])) fun v9 h10 =>
 bindS (vh h10 (eqOp .neq (cmpV [(0, .int .u8), (1, .int .i64)] v8 v9))) fun v11 h12 =>
 guardS v11 true (loadN 2 v2 h12 fun v13 =>
 bindS (ih 120 [a0, v13] h12) fun v14 h15 =>
 eqS (.pointer 112) .eql v14 .nilPtr fun v16 =>
 some (v16, h15)) h12 fun v17 h18 =>
 optS (pickV v11 v17 (.bool false)) fun v19 =>
 ifS v19 (
 some ((.int .i64 150), h18)) (
 loadN 2 v2 h18 fun v20 =>
 nilS v5 fun v21 =>
 addrS 5 v21 fun v22 =>
 storeN 2 v22 v20 h18 fun h23 =>
 nilS a0 fun v24 =>
 addrS 3 v24 fun v25 =>
 load1 v25 h23 fun v26 =>
 ifS v26 (
 nilS v5 fun v27 =>
 addrS 12 v27 fun v28 =>
 storeC v28 (.bool true) h23 fun h29 =>
 ih 25 [] h29) (
 ih 25 [] h23)))
def B25 (ih : II) (h : Hp) : VH :=
 some ((.int .i64 0), h)
def B52 (ih : II) (a0 a1 a2 : V) (h : Hp) : VH :=
 newS 31 (vcells a1) h fun v0 h1 =>
 newS 31 (vcells a2) h1 fun v2 h3 =>
 bindS (ih 102 [a0] h3) fun v4 h5 =>
 notS v4 fun v6 =>
 ifS v6 (
 some ((.int .i64 1), h5)) (
 loadN 2 v0 h5 fun v7 =>
 bindS (ih 60 [a0, v7, (.int .u8 5)] h5) fun v8 h9 =>
 eqS (.pointer 76) .eql v8 .nilPtr fun v10 =>
 ifS v10 (
 some ((.int .i64 151), h9)) (
 loadN 2 v2 h9 fun v11 =>
 bindS (bldStruct h9 [] (.agg [(.int .u8 0), (.int .i64 0)]) (some [(0, 1), (1, 1)])) fun v12 h13 =>
 bindS (vh h13 (eqOp .neq (cmpV [(0, .int .u8), (1, .int .i64)] v11 v12))) fun v14 h15 =>
 guardS v14 true (loadN 2 v2 h15 fun v16 =>
 bindS (ih 60 [a0, v16, (.int .u8 5)] h15) fun v17 h18 =>
 eqS (.pointer 76) .eql v17 .nilPtr fun v19 =>
 some (v19, h18)) h15 fun v20 h21 =>
 optS (pickV v14 v20 (.bool false)) fun v22 =>
 ifS v22 (
 some ((.int .i64 150), h21)) (
 loadN 2 v2 h21 fun v23 =>
 nilS v8 fun v24 =>
 addrS 4 v24 fun v25 =>
 storeN 2 v25 v23 h21 fun h26 =>
 addrS 1 v0 fun v27 =>
 load1 v27 h26 fun v28 =>
 bindS (ih 110 [a0, v28] h26) fun v29 h30 =>
 some ((.int .i64 0), h30))))
def B50 (ih : II) (a0 a1 a2 : V) (h : Hp) : VH :=
 newS 31 [(.int .u8 0), (.int .i64 0)] h fun v0 h1 =>
 intS .lss a1 (.int .i64 0) fun v2 =>
 guardS v2 false (bindS (lenSl a2 fun v => some (v, h1)) fun v3 h4 =>
 intS .gtr v3 (.int .i64 60) fun v5 =>
 some (v5, h4)) h1 fun v6 h7 =>
 optS (pickV v2 (.bool true) v6) fun v8 =>
 ifS v8 (
 bindS (bldStruct h7 [] (.agg [(.int .u8 0), (.int .i64 0)]) (some [(0, 1), (1, 1)])) fun v9 h10 =>
 storeN 2 v0 v9 h10 fun h11 =>
 loadN 2 v0 h11 fun v12 =>
 some (.tuple [v12, (.int .i64 150)], h11)) (
 ih 27 [a0, a1, a2, v0, (.int .i64 0)] h7)
def B27 (ih : II) (a0 a1 a2 a6 a8 : V) (h : Hp) : VH :=
 bindS (lenSl a2 fun v => some (v, h)) fun v13 h14 =>
 intS .lss a8 v13 fun v15 =>
 ifS v15 (
 idxS 2 a2 a8 fun v16 =>
 addrS 0 v16 fun v17 =>
 load1 v17 h14 fun v18 =>
 intS .neq v18 (.int .u8 9) fun v19 =>
 guardS v19 false (idxS 2 a2 a8 fun v20 =>
 loadN 2 v20 h14 fun v21 =>
 bindS (ih 118 [a0, v21] h14) fun v22 h23 =>
 eqS (.pointer 112) .eql v22 .nilPtr fun v24 =>
 some (v24, h23)) h14 fun v25 h26 =>
 optS (pickV v19 (.bool true) v25) fun v27 =>
 ifS v27 (
 bindS (bldStruct h26 [] (.agg [(.int .u8 0), (.int .i64 0)]) (some [(0, 1), (1, 1)])) fun v28 h29 =>
 storeN 2 a6 v28 h29 fun h30 =>
 loadN 2 a6 h30 fun v31 =>
 some (.tuple [v31, (.int .i64 150)], h30)) (
 intS .add a8 (.int .i64 1) fun v32 =>
 ih 27 [a0, a1, a2, a6, v32] h26)) (
 bindS (bldSl h14 [] 31 0 2 (.agg [(.int .u8 0), (.int .i64 0)])) fun v33 h34 =>
 bindS (appS 31 16 2 v33 a2 h34) fun v35 h36 =>
 bindS (bldStruct h36 [(5, a1), (6, v35)] (.agg [(.int .u8 0), (.int .i64 0), (.int .i64 0), (.str ⟨0, 0⟩), .nilPtr, (.int .u8 0), (.int .i64 0), (.int .i64 0), .nilSlice, (.int .u8 0), (.int .i64 0), .nilPtr, (.bool false)]) (some [(0, 2), (2, 1), (3, 1), (4, 1), (5, 2), (7, 1), (8, 1), (9, 2), (11, 1), (12, 1)])) fun v37 h38 =>
 newS 112 (vcells v37) h38 fun v39 h40 =>
 bindS (ih 108 [a0, (.int .u8 6), v39] h40) fun v41 h42 =>
 extS 0 v41 fun v43 =>
 extS 1 v41 fun v44 =>
 storeN 2 a6 v43 h42 fun h45 =>
 loadN 2 a6 h45 fun v46 =>
 some (.tuple [v46, v44], h45))
def B48 (ih : II) (a0 a1 a2 : V) (h : Hp) : VH :=
 newS 32 (vcells a0) h fun v0 h1 =>
 newS 31 [(.int .u8 0), (.int .i64 0)] h1 fun v2 h3 =>
 load1 v0 h3 fun v4 =>
 bindS (ih 102 [v4] h3) fun v5 h6 =>
 notS v5 fun v7 =>
 ifS v7 (
 bindS (bldStruct h6 [] (.agg [(.int .u8 0), (.int .i64 0)]) (some [(0, 1), (1, 1)])) fun v8 h9 =>
 storeN 2 v2 v8 h9 fun h10 =>
 loadN 2 v2 h10 fun v11 =>
 some (.tuple [v11, (.int .i64 1)], h10)) (
 intS .lss a1 (.int .i64 0) fun v12 =>
 guardS v12 false (bindS (lenSl a2 fun v => some (v, h6)) fun v13 h14 =>
 intS .gtr v13 (.int .i64 60) fun v15 =>
 some (v15, h14)) h6 fun v16 h17 =>
 optS (pickV v12 (.bool true) v16) fun v18 =>
 guardS v18 false (bindS (ih 114 [a2, (.func 56 [] [v0])] h17) fun v19 h20 =>
 some (v19, h20)) h17 fun v21 h22 =>
 optS (pickV v18 (.bool true) v21) fun v23 =>
 ifS v23 (
 bindS (bldStruct h22 [] (.agg [(.int .u8 0), (.int .i64 0)]) (some [(0, 1), (1, 1)])) fun v24 h25 =>
 storeN 2 v2 v24 h25 fun h26 =>
 loadN 2 v2 h26 fun v27 =>
 some (.tuple [v27, (.int .i64 150)], h26)) (
 load1 v0 h22 fun v28 =>
 bindS (ih 116 [a2] ⟨h22.t, h22.n, h22.n⟩) fun v29 h30 =>
 cD ((pureB h22 h30 || sameA h22 h30 v0 (vcells v28).length) && true) (
 wroteS h22.low h30 fun h31 =>
 bindS (bldStruct h31 [(0, (.int .u8 6)), (5, a1), (6, v29)] (.agg [(.int .u8 0), (.int .i64 0), (.str ⟨0, 0⟩), .nilPtr, (.int .u8 0), (.int .i64 0), (.int .i64 0), .nilSlice, (.int .u8 0), (.int .i64 0), .nilPtr]) (some [(0, 1), (1, 1), (2, 1), (3, 1), (4, 2), (6, 1), (7, 1), (8, 2), (10, 1)])) fun v32 h33 =>
 newS 76 (vcells v32) ⟨h31.t, h31.n, h31.n⟩ fun v34 h35 =>
 madeS h31.n h31.low h35 fun h36 =>
 bindS (lenSl a2 fun v => some (v, h22)) fun v37 h38 =>
 intS .add (.int .i64 2) v37 fun v39 =>
 bindS (ih 104 [v28, v34, v39] ⟨h36.t, h36.n, h36.n⟩) fun v40 h41 =>
 wroteS h36.low h41 fun h42 =>
 extS 0 v40 fun v43 =>
 extS 1 v40 fun v44 =>
 storeN 2 v2 v43 h42 fun h45 =>
 loadN 2 v2 h45 fun v46 =>
 some (.tuple [v46, v44], h45)) none))
def B46 (ih : II) (a0 a1 : V) (h : Hp) : VH :=
 newS 31 [(.int .u8 0), (.int .i64 0)] h fun v0 h1 =>
 bindS (lenStr a1 fun v => some (v, h1)) fun v2 h3 =>
 intS .gtr v2 (.int .i64 65535) fun v4 =>
 ifS v4 (
 bindS (bldStruct h3 [] (.agg [(.int .u8 0), (.int .i64 0)]) (some [(0, 1), (1, 1)])) fun v5 h6 =>
 storeN 2 v0 v5 h6 fun h7 =>
 loadN 2 v0 h7 fun v8 =>
 some (.tuple [v8, (.int .i64 3)], h7)) (
 ih 29 [a0, a1, v0, (.int .i64 0)] h3)
def B29 (ih : II) (a0 a1 a4 a6 : V) (h : Hp) : VH :=
 nilS a0 fun v9 =>
 addrS 1 v9 fun v10 =>
 load1 v10 h fun v11 =>
 bindS (lenSl v11 fun v => some (v, h)) fun v12 h13 =>
 intS .lss a6 v12 fun v14 =>
 ifS v14 (
 nilS a0 fun v15 =>
 addrS 1 v15 fun v16 =>
 load1 v16 h13 fun v17 =>
 idxS 1 v17 a6 fun v18 =>
 load1 v18 h13 fun v19 =>
 nilS v19 fun v20 =>
 addrS 0 v20 fun v21 =>
 addrS 0 v21 fun v22 =>
 load1 v22 h13 fun v23 =>
 intS .eql v23 (.int .u8 4) fun v24 =>
 guardS v24 true (nilS a0 fun v25 =>
 addrS 1 v25 fun v26 =>
 load1 v26 h13 fun v27 =>
 idxS 1 v27 a6 fun v28 =>
 load1 v28 h13 fun v29 =>
 nilS v29 fun v30 =>
 addrS 3 v30 fun v31 =>
 load1 v31 h13 fun v32 =>
 strS .eql v32 a1 fun v33 =>
 some (v33, h13)) h13 fun v34 h35 =>
 optS (pickV v24 v34 (.bool false)) fun v36 =>
 ifS v36 (
 nilS a0 fun v37 =>
 addrS 3 v37 fun v38 =>
 load1 v38 h35 fun v39 =>
 ifS v39 (
 nilS a0 fun v40 =>
 addrS 1 v40 fun v41 =>
 load1 v41 h35 fun v42 =>
 idxS 1 v42 a6 fun v43 =>
 load1 v43 h35 fun v44 =>
 nilS v44 fun v45 =>
 addrS 12 v45 fun v46 =>
 storeC v46 (.bool true) h35 fun h47 =>
 ih 31 [a0, a4, a6] h47) (
 ih 31 [a0, a4, a6] h35)) (
 intS .add a6 (.int .i64 1) fun v48 =>
 ih 29 [a0, a1, a4, v48] h35)) (
 bindS (bldStruct h13 [(2, a1)] (.agg [(.int .u8 0), (.int .i64 0), (.int .i64 0), (.str ⟨0, 0⟩), .nilPtr, (.int .u8 0), (.int .i64 0), (.int .i64 0), .nilSlice, (.int .u8 0), (.int .i64 0), .nilPtr, (.bool false)]) (some [(0, 2), (2, 1), (3, 1), (4, 1), (5, 2), (7, 1), (8, 1), (9, 2), (11, 1), (12, 1)])) fun v49 h50 =>
 newS 112 (vcells v49) h50 fun v51 h52 =>
 bindS (ih 108 [a0, (.int .u8 4), v51] h52) fun v53 h54 =>
 extS 0 v53 fun v55 =>
 extS 1 v53 fun v56 =>
 storeN 2 a4 v55 h54 fun h57 =>
 loadN 2 a4 h57 fun v58 =>
 some (.tuple [v58, v56], h57))
def B44 (ih : II) (a0 a1 : V) (h : Hp) : VH :=
 newS 31 [(.int .u8 0), (.int .i64 0)] h fun v0 h1 =>
 bindS (ih 102 [a0] h1) fun v2 h3 =>
 notS v2 fun v4 =>
 ifS v4 (
 bindS (bldStruct h3 [] (.agg [(.int .u8 0), (.int .i64 0)]) (some [(0, 1), (1, 1)])) fun v5 h6 =>
 storeN 2 v0 v5 h6 fun h7 =>
 loadN 2 v0 h7 fun v8 =>
 some (.tuple [v8, (.int .i64 1)], h7)) (
 bindS (lenStr a1 fun v => some (v, h3)) fun v9 h10 =>
 intS .gtr v9 (.int .i64 65535) fun v11 =>
 ifS v11 (
 bindS (bldStruct h10 [] (.agg [(.int .u8 0), (.int .i64 0)]) (some [(0, 1), (1, 1)])) fun v12 h13 =>
 storeN 2 v0 v12 h13 fun h14 =>
 loadN 2 v0 h14 fun v15 =>
 some (.tuple [v15, (.int .i64 3)], h14)) (
 nilS a0 fun v16 =>
 addrS 3 v16 fun v17 =>
 load1 v17 h10 fun v18 =>
 bindS (lookS .string (some (.int .i64 0)) true v18 a1 h10) fun v19 h20 =>
 extS 0 v19 fun v21 =>
 extS 1 v19 fun v22 =>
 ifS v22 (
 bindS (ih 110 [a0, v21] h20) fun v23 h24 =>
 bindS (bldStruct h24 [(0, (.int .u8 4)), (1, v21)] (.agg [(.int .u8 0), (.int .i64 0)]) (some [(0, 1), (1, 1)])) fun v25 h26 =>
 storeN 2 v0 v25 h26 fun h27 =>
 loadN 2 v0 h27 fun v28 =>
 some (.tuple [v28, (.int .i64 0)], h27)) (
 bindS (bldStruct h20 [(0, (.int .u8 4)), (2, a1)] (.agg [(.int .u8 0), (.int .i64 0), (.str ⟨0, 0⟩), .nilPtr, (.int .u8 0), (.int .i64 0), (.int .i64 0), .nilSlice, (.int .u8 0), (.int .i64 0), .nilPtr]) (some [(0, 1), (1, 1), (2, 1), (3, 1), (4, 2), (6, 1), (7, 1), (8, 2), (10, 1)])) fun v29 h30 =>
 newS 76 (vcells v29) h30 fun v31 h32 =>
 bindS (lenStr a1 fun v => some (v, h32)) fun v33 h34 =>
 intS .quo v33 (.int .i64 16) fun v35 =>
 intS .add (.int .i64 1) v35 fun v36 =>
 bindS (ih 104 [a0, v31, v36] h34) fun v37 h38 =>
 extS 0 v37 fun v39 =>
 extS 1 v37 fun v40 =>
 newS 31 [(.int .u8 0), (.int .i64 0)] h38 fun v41 h42 =>
 storeN 2 v41 v39 h42 fun h43 =>
 intS .eql v40 (.int .i64 0) fun v44 =>
 ifS v44 (
 nilS a0 fun v45 =>
 addrS 3 v45 fun v46 =>
 load1 v46 h43 fun v47 =>
 addrS 1 v41 fun v48 =>
 load1 v48 h43 fun v49 =>
 bindS (updS .string v47 a1 v49 h43) fun v50 h51 =>
 ih 33 [v0, v41, v40] h51) (
 ih 33 [v0, v41, v40] h43))))
def B33 (ih : II) (a4 a8 a9 : V) (h : Hp) : VH :=
 loadN 2 a8 h fun v52 =>
 storeN 2 a4 v52 h fun h53 =>
 loadN 2 a4 h53 fun v54 =>
 some (.tuple [v54, a9], h53)
def B40 (ih : II) (a0 : V) (h : Hp) : VH :=
 newS 31 [(.int .u8 0), (.int .i64 0)] h fun v0 h1 =>
 bindS (bldStruct h1 [] (.agg [.nilSlice]) (some [(0, 1)])) fun v2 h3 =>
 newS 110 (vcells v2) h3 fun v4 h5 =>
 bindS (bldStruct h5 [(3, v4)] (.agg [(.int .u8 0), (.int .i64 0), (.int .i64 0), (.str ⟨0, 0⟩), .nilPtr, (.int .u8 0), (.int .i64 0), (.int .i64 0), .nilSlice, (.int .u8 0), (.int .i64 0), .nilPtr, (.bool false)]) (some [(0, 2), (2, 1), (3, 1), (4, 1), (5, 2), (7, 1), (8, 1), (9, 2), (11, 1), (12, 1)])) fun v6 h7 =>
 newS 112 (vcells v6) h7 fun v8 h9 =>
 bindS (ih 108 [a0, (.int .u8 5), v8] h9) fun v10 h11 =>
 extS 0 v10 fun v12 =>
 extS 1 v10 fun v13 =>
 storeN 2 v0 v12 h11 fun h14 =>
 loadN 2 v0 h14 fun v15 =>
 some (.tuple [v15, v13], h14)
def B38 (ih : II) (a0 : V) (h : Hp) : VH :=
 newS 31 [(.int .u8 0), (.int .i64 0)] h fun v0 h1 =>
 bindS (ih 102 [a0] h1) fun v2 h3 =>
 notS v2 fun v4 =>
 ifS v4 (
 bindS (bldStruct h3 [] (.agg [(.int .u8 0), (.int .i64 0)]) (some [(0, 1), (1, 1)])) fun v5 h6 =>
 storeN 2 v0 v5 h6 fun h7 =>
 loadN 2 v0 h7 fun v8 =>
 some (.tuple [v8, (.int .i64 1)], h7)) (
 bindS (ih 106 [] h3) fun v9 h10 =>
 bindS (bldStruct h10 [(0, (.int .u8 5)), (3, v9)] (.agg [(.int .u8 0), (.int .i64 0), (.str ⟨0, 0⟩), .nilPtr, (.int .u8 0), (.int .i64 0), (.int .i64 0), .nilSlice, (.int .u8 0), (.int .i64 0), .nilPtr]) (some [(0, 1), (1, 1), (2, 1), (3, 1), (4, 2), (6, 1), (7, 1), (8, 2), (10, 1)])) fun v11 h12 =>
 newS 76 (vcells v11) h12 fun v13 h14 =>
 bindS (ih 104 [a0, v13, (.int .i64 2)] h14) fun v15 h16 =>
 extS 0 v15 fun v17 =>
 extS 1 v15 fun v18 =>
 storeN 2 v0 v17 h16 fun h19 =>
 loadN 2 v0 h19 fun v20 =>
 some (.tuple [v20, v18], h19))
def B36 (ih : II) (a0 a1 a2 a3 a4 : V) (h : Hp) : VH :=
 newS 31 (vcells a0) h fun v0 h1 =>
 newS 31 (vcells a1) h1 fun v2 h3 =>
 load1 a4 h3 fun v4 =>
 load1 a4 h3 fun v5 =>
 nilS v5 fun v6 =>
 addrS 2 v6 fun v7 =>
 load1 v7 h3 fun v8 =>
 loadN 2 v0 h3 fun v9 =>
 bindS (bldSl ⟨h3.t, h3.n, h3.n⟩ [(0, v9)] 31 1 2 (.agg [(.int .u8 0), (.int .i64 0)])) fun v10 h11 =>
 madeS h3.n h3.low h11 fun h12 =>
 bindS (appS 31 16 2 v8 v10 ⟨h12.t, h12.n, h12.n⟩) fun v13 h14 =>
 cD ((pureB h12 h14 || sameA h12 h14 a4 (vcells v4).length) && true) (
 wroteS h12.low h14 fun h15 =>
 nilS v4 fun v16 =>
 addrS 2 v16 fun v17 =>
 storeC v17 v13 h15 fun h18 =>
 loadN 2 v0 h18 fun v19 =>
 loadN 2 v2 h18 fun v20 =>
 bindS (vh h18 (eqOp .eql (cmpV [(0, .int .u8), (1, .int .i64)] v19 v20))) fun v21 h22 =>
 guardS v21 true (intS .eql a2 (.int .i64 0) fun v23 =>
 some (v23, h22)) h22 fun v24 h25 =>
 optS (pickV v21 v24 (.bool false)) fun v26 =>
 guardS v26 true (intS .eql a3 (.int .i64 0) fun v27 =>
 some (v27, h25)) h25 fun v28 h29 =>
 optS (pickV v26 v28 (.bool false)) fun v30 =>
 some (v30, h29)) none
def B34 (ih : II) (a0 : V) (h : Hp) : VH :=
 intS .lss a0 (.int .i64 1) fun v0 =>
 guardS v0 false (intS .gtr a0 (.int .i64 16777216) fun v1 =>
 some (v1, h)) h fun v2 h3 =>
 optS (pickV v0 (.bool true) v2) fun v4 =>
 ifS v4 (
 some (.tuple [.nilPtr, (.int .i64 2)], h3)) (
 bindS (bldStruct h3 [(0, a0)] (.agg [(.int .i64 0), .nilSlice, (.int .i64 0), (.bool false)]) (some [(0, 1), (1, 1), (2, 1), (3, 1)])) fun v5 h6 =>
 newS 102 (vcells v5) h6 fun v7 h8 =>
 some (.tuple [v7, (.int .i64 0)], h8))
def B32 (ih : II) (a0 : V) (h : Hp) : VH :=
 intS .lss a0 (.int .i64 1) fun v0 =>
 guardS v0 false (intS .gtr a0 (.int .i64 16777216) fun v1 =>
 some (v1, h)) h fun v2 h3 =>
 optS (pickV v0 (.bool true) v2) fun v4 =>
 ifS v4 (
 some (.tuple [.nilPtr, (.int .i64 2)], h3)) (
 bindS (ih 100 [a0] h3) fun v5 h6 =>
 extS 0 v5 fun v7 =>
 extS 1 v5 fun v8 =>
 intS .neq v8 (.int .i64 0) fun v9 =>
 ifS v9 (
 some (.tuple [.nilPtr, v8], h6)) (
 bindS (bldStruct (((h6.new (.map [])).new (.map [])).new (.map [])) [(0, a0), (1, v7), (2, (.map h6.n)), (3, (.map (h6.new (.map [])).n)), (6, (.map ((h6.new (.map [])).new (.map [])).n))] (.agg [(.int .i64 0), .nilPtr, .nilMap, .nilMap, (.int .i64 0), (.bool false), .nilMap]) (some [(0, 1), (1, 1), (2, 1), (3, 1), (4, 1), (5, 1), (6, 1)])) fun v10 h11 =>
 newS 99 (vcells v10) h11 fun v12 h13 =>
 some (.tuple [v12, (.int .i64 0)], h13)))
def B144 (ih : II) (a0 : V) (h : Hp) : VH :=
 eqS (.pointer 124) .neq a0 .nilPtr fun v0 =>
 guardS v0 true (nilS a0 fun v1 =>
 addrS 1 v1 fun v2 =>
 load1 v2 h fun v3 =>
 eqS (.map 31 3) .neq v3 .nilMap fun v4 =>
 some (v4, h)) h fun v5 h6 =>
 optS (pickV v0 v5 (.bool false)) fun v7 =>
 some (v7, h6)
def B142 (ih : II) (a0 a1 : V) (h : Hp) : VH :=
 newS 31 (vcells a1) h fun v0 h1 =>
 bindS (ih 102 [a0] h1) fun v2 h3 =>
 notS v2 fun v4 =>
 guardS v4 false (loadN 2 v0 h3 fun v5 =>
 bindS (ih 172 [v5] h3) fun v6 h7 =>
 notS v6 fun v8 =>
 some (v8, h7)) h3 fun v9 h10 =>
 optS (pickV v4 (.bool true) v9) fun v11 =>
 ifS v11 (
 some (.nilPtr, h10)) (
 nilS a0 fun v12 =>
 addrS 2 v12 fun v13 =>
 load1 v13 h10 fun v14 =>
 addrS 1 v0 fun v15 =>
 load1 v15 h10 fun v16 =>
 bindS (lookS (.int .i64) (some .nilPtr) false v14 v16 h10) fun v17 h18 =>
 eqS (.pointer 76) .neq v17 .nilPtr fun v19 =>
 guardS v19 true (some (v17, h18)) h18 fun v20 _ =>
 guardS v19 true (nilS v20 fun v21 =>
 some (v21, h18)) h18 fun v22 _ =>
 guardS v19 true (addrS 0 v22 fun v23 =>
 some (v23, h18)) h18 fun v24 _ =>
 guardS v19 true (load1 v24 h18 fun v25 =>
 some (v25, h18)) h18 fun v26 _ =>
 guardS v19 true (addrS 0 v0 fun v27 =>
 some (v27, h18)) h18 fun v28 _ =>
 guardS v19 true (load1 v28 h18 fun v29 =>
 some (v29, h18)) h18 fun v30 _ =>
 guardS v19 true (intS .eql v26 v30 fun v31 =>
 some (v31, h18)) h18 fun v32 h33 =>
 optS (pickV v19 v32 (.bool false)) fun v34 =>
 ifS v34 (
 some (v17, h33)) (
 some (.nilPtr, h33)))
def B152 (ih : II) (a0 a1 a2 : V) (h : Hp) : VH :=
 newS 44 [(.int .u8 0), (.int .u8 0), (.int .i64 0), (.int .u8 0), (.int .i64 0), .nilSlice, (.int .u8 0)] h fun v0 h1 =>
 bindS (ih 44 [a0, a2] h1) fun v2 h3 =>
 extS 0 v2 fun v4 =>
 extS 1 v2 fun v5 =>
 newS 31 [(.int .u8 0), (.int .i64 0)] h3 fun v6 h7 =>
 storeN 2 v6 v4 h7 fun h8 =>
 intS .neq v5 (.int .i64 0) fun v9 =>
 ifS v9 (
 bindS (bldStruct h8 [(0, (.int .u8 4))] (.agg [(.int .u8 0), (.int .u8 0), (.int .i64 0), (.int .u8 0), (.int .i64 0), .nilSlice, (.int .u8 0)]) (some [(0, 1), (1, 2), (3, 2), (5, 1), (6, 1)])) fun v10 h11 =>
 storeN 7 v0 v10 h11 fun h12 =>
 loadN 7 v0 h12 fun v13 =>
 some (v13, h12)) (
 loadN 2 v6 h8 fun v14 =>
 bindS (bldStruct h8 [(0, a1), (1, v14)] (.agg [(.int .u8 0), (.int .u8 0), (.int .i64 0), (.int .u8 0), (.int .i64 0), .nilSlice, (.int .u8 0)]) (some [(0, 1), (1, 2), (3, 2), (5, 1), (6, 1)])) fun v15 h16 =>
 storeN 7 v0 v15 h16 fun h17 =>
 loadN 7 v0 h17 fun v18 =>
 some (v18, h17))
def B150 (ih : II) (a0 a1 : V) (h : Hp) : VH :=
 newS 31 (vcells a1) h fun v0 h1 =>
 loadN 2 v0 h1 fun v2 =>
 bindS (ih 142 [a0, v2] h1) fun v3 h4 =>
 eqS (.pointer 76) .neq v3 .nilPtr fun v5 =>
 some (v5, h4)
def B148 (ih : II) (a0 a1 a2 a3 : V) (h : Hp) : VH :=
 newS 31 (vcells a0) h fun v0 h1 =>
 newS 31 [(.int .u8 0), (.int .i64 0)] h1 fun v2 h3 =>
 load1 a1 h3 fun v4 =>
 loadN 2 v0 h3 fun v5 =>
 bindS (ih 16 [v4, v5] h3) fun v6 h7 =>
 newS 31 [(.int .u8 0), (.int .i64 0)] h7 fun v8 h9 =>
 storeN 2 v8 v6 h9 fun h10 =>
 load1 a2 h10 fun v11 =>
 guardS v11 true (addrS 0 v8 fun v12 =>
 load1 v12 h10 fun v13 =>
 intS .eql v13 (.int .u8 5) fun v14 =>
 some (v14, h10)) h10 fun v15 h16 =>
 optS (pickV v11 v15 (.bool false)) fun v17 =>
 ifS v17 (
 load1 a1 h16 fun v18 =>
 loadN 2 v8 h16 fun v19 =>
 loadN 2 a3 h16 fun v20 =>
 bindS (ih 18 [v18, v19, v20] h16) fun v21 h22 =>
 storeN 2 v2 v21 h22 fun h23 =>
 loadN 2 v2 h23 fun v24 =>
 some (v24, h23)) (
 bindS (bldStruct h16 [] (.agg [(.int .u8 0), (.int .i64 0)]) (some [(0, 1), (1, 1)])) fun v25 h26 =>
 storeN 2 v2 v25 h26 fun h27 =>
 loadN 2 v2 h27 fun v28 =>
 some (v28, h27))
def B146 (ih : II) (a0 a1 : V) (h : Hp) : VH :=
 newS 31 [(.int .u8 0), (.int .i64 0)] h fun v0 h1 =>
 bindS (ih 102 [a0] h1) fun v2 h3 =>
 notS v2 fun v4 =>
 ifS v4 (
 bindS (bldStruct h3 [] (.agg [(.int .u8 0), (.int .i64 0)]) (some [(0, 1), (1, 1)])) fun v5 h6 =>
 storeN 2 v0 v5 h6 fun h7 =>
 loadN 2 v0 h7 fun v8 =>
 some (.tuple [v8, (.bool false)], h7)) (
 nilS a0 fun v9 =>
 addrS 3 v9 fun v10 =>
 load1 v10 h3 fun v11 =>
 bindS (lookS .string (some (.int .i64 0)) true v11 a1 h3) fun v12 h13 =>
 extS 0 v12 fun v14 =>
 extS 1 v12 fun v15 =>
 notS v15 fun v16 =>
 ifS v16 (
 bindS (bldStruct h13 [] (.agg [(.int .u8 0), (.int .i64 0)]) (some [(0, 1), (1, 1)])) fun v17 h18 =>
 storeN 2 v0 v17 h18 fun h19 =>
 loadN 2 v0 h19 fun v20 =>
 some (.tuple [v20, (.bool false)], h19)) (
 bindS (bldStruct h13 [(0, (.int .u8 4)), (1, v14)] (.agg [(.int .u8 0), (.int .i64 0)]) (some [(0, 1), (1, 1)])) fun v21 h22 =>
 storeN 2 v0 v21 h22 fun h23 =>
 loadN 2 v0 h23 fun v24 =>
 some (.tuple [v24, (.bool true)], h23)))
def B140 (ih : II) (a0 a1 a2 : V) (h : Hp) : VH :=
 newS 31 (vcells a1) h fun v0 h1 =>
 newS 31 (vcells a2) h1 fun v2 h3 =>
 loadN 2 v0 h3 fun v4 =>
 bindS (ih 132 [v4] h3) fun v5 h6 =>
 notS v5 fun v7 =>
 guardS v7 false (loadN 2 v2 h6 fun v8 =>
 bindS (ih 188 [v8] h6) fun v9 h10 =>
 notS v9 fun v11 =>
 some (v11, h10)) h6 fun v12 h13 =>
 optS (pickV v7 (.bool true) v12) fun v14 =>
 ifS v14 (
 some ((.int .i64 150), h13)) (
 loadN 2 v0 h13 fun v15 =>
 bindS (ih 192 [a0, v15] h13) fun v16 h17 =>
 intS .geq v16 (.int .i64 0) fun v18 =>
 ifS v18 (
 nilS a0 fun v19 =>
 addrS 0 v19 fun v20 =>
 load1 v20 h17 fun v21 =>
 loadN 2 v2 h17 fun v22 =>
 idxS 4 v21 v16 fun v23 =>
 addrS 2 v23 fun v24 =>
 storeN 2 v24 v22 h17 fun h25 =>
 some ((.int .i64 0), h25)) (
 addrS 0 v2 fun v26 =>
 load1 v26 h17 fun v27 =>
 intS .eql v27 (.int .u8 0) fun v28 =>
 ifS v28 (
 some ((.int .i64 0), h17)) (
 ih 35 [a0, v0, v2, .nilSlice, (.int .i64 0)] h17)))
def B35 (ih : II) (a0 a4 a5 a8 a9 : V) (h : Hp) : VH :=
 nilS a0 fun v29 =>
 addrS 0 v29 fun v30 =>
 load1 v30 h fun v31 =>
 bindS (lenSl v31 fun v => some (v, h)) fun v32 h33 =>
 intS .lss a9 v32 fun v34 =>
 ifS v34 (
 nilS a0 fun v35 =>
 addrS 0 v35 fun v36 =>
 load1 v36 h33 fun v37 =>
 idxS 4 v37 a9 fun v38 =>
 addrS 2 v38 fun v39 =>
 addrS 0 v39 fun v40 =>
 load1 v40 h33 fun v41 =>
 intS .neq v41 (.int .u8 0) fun v42 =>
 ifS v42 (
 nilS a0 fun v43 =>
 addrS 0 v43 fun v44 =>
 load1 v44 h33 fun v45 =>
 idxS 4 v45 a9 fun v46 =>
 loadN 4 v46 h33 fun v47 =>
 bindS (bldSl h33 [(0, v47)] 152 1 4 (.agg [(.int .u8 0), (.int .i64 0), (.int .u8 0), (.int .i64 0)])) fun v48 h49 =>
 bindS (appS 152 32 4 a8 v48 h49) fun v50 h51 =>
 ih 37 [a0, a4, a5, v50, a9] h51) (
 ih 37 [a0, a4, a5, a8, a9] h33)) (
 bindS (lenSl a8 fun v => some (v, h33)) fun v52 h53 =>
 intS .geq v52 (.int .i64 65536) fun v54 =>
 ifS v54 (
 some ((.int .i64 5), h53)) (
 loadN 2 a4 h53 fun v55 =>
 loadN 2 a5 h53 fun v56 =>
 bindS (bldStruct h53 [(0, v55), (1, v56)] (.agg [(.int .u8 0), (.int .i64 0), (.int .u8 0), (.int .i64 0)]) (some [(0, 2), (2, 2)])) fun v57 h58 =>
 bindS (bldSl h58 [(0, v57)] 152 1 4 (.agg [(.int .u8 0), (.int .i64 0), (.int .u8 0), (.int .i64 0)])) fun v59 h60 =>
 bindS (appS 152 32 4 a8 v59 h60) fun v61 h62 =>
 nilS a0 fun v63 =>
 addrS 0 v63 fun v64 =>
 storeC v64 v61 h62 fun h65 =>
 some ((.int .i64 0), h65)))
def B37 (ih : II) (a0 a4 a5 a8 a9 : V) (h : Hp) : VH :=
 intS .add a9 (.int .i64 1) fun v66 =>
 ih 35 [a0, a4, a5, a8, v66] h
def B138 (ih : II) (a0 : V) (h : Hp) : VH :=
 ih 39 [a0, (.int .i64 0), (.int .i64 0)] h
def B39 (ih : II) (a0 a3 a4 : V) (h : Hp) : VH :=
 nilS a0 fun v0 =>
 addrS 1 v0 fun v1 =>
 load1 v1 h fun v2 =>
 bindS (lenSl v2 fun v => some (v, h)) fun v3 h4 =>
 intS .lss a4 v3 fun v5 =>
 ifS v5 (
 nilS a0 fun v6 =>
 addrS 1 v6 fun v7 =>
 load1 v7 h4 fun v8 =>
 idxS 1 v8 a4 fun v9 =>
 load1 v9 h4 fun v10 =>
 bindS (ih 168 [v10] h4) fun v11 h12 =>
 intS .add a3 v11 fun v13 =>
 intS .add a4 (.int .i64 1) fun v14 =>
 ih 39 [a0, v13, v14] h12) (
 some (a3, h4))
def B136 (ih : II) (a0 a1 : V) (h : Hp) : VH :=
 newS 31 (vcells a1) h fun v0 h1 =>
 newS 31 [(.int .u8 0), (.int .i64 0)] h1 fun v2 h3 =>
 loadN 2 v0 h3 fun v4 =>
 bindS (ih 192 [a0, v4] h3) fun v5 h6 =>
 intS .lss v5 (.int .i64 0) fun v7 =>
 ifS v7 (
 bindS (bldStruct h6 [] (.agg [(.int .u8 0), (.int .i64 0)]) (some [(0, 1), (1, 1)])) fun v8 h9 =>
 storeN 2 v2 v8 h9 fun h10 =>
 loadN 2 v2 h10 fun v11 =>
 some (v11, h10)) (
 nilS a0 fun v12 =>
 addrS 0 v12 fun v13 =>
 load1 v13 h6 fun v14 =>
 idxS 4 v14 v5 fun v15 =>
 addrS 2 v15 fun v16 =>
 loadN 2 v16 h6 fun v17 =>
 storeN 2 v2 v17 h6 fun h18 =>
 loadN 2 v2 h18 fun v19 =>
 some (v19, h18))
def B134 (ih : II) (a0 a1 : V) (h : Hp) : VH :=
 newS 31 (vcells a1) h fun v0 h1 =>
 loadN 2 v0 h1 fun v2 =>
 bindS (ih 188 [v2] h1) fun v3 h4 =>
 guardS v3 true (loadN 2 v0 h4 fun v5 =>
 bindS (ih 190 [v5] h4) fun v6 h7 =>
 notS v6 fun v8 =>
 some (v8, h7)) h4 fun v9 h10 =>
 guardS v9 false (loadN 2 v0 h10 fun v11 =>
 bindS (ih 118 [a0, v11] h10) fun v12 h13 =>
 eqS (.pointer 112) .neq v12 .nilPtr fun v14 =>
 some (v14, h13)) h10 fun v15 h16 =>
 guardS v3 true (optS (pickV v9 (.bool true) v15) fun v17 =>
 some (v17, h16)) h16 fun v18 h19 =>
 optS (pickV v3 v18 (.bool false)) fun v20 =>
 some (v20, h19)
def B132 (ih : II) (a0 : V) (h : Hp) : VH :=
 newS 31 (vcells a0) h fun v0 h1 =>
 addrS 0 v0 fun v2 =>
 load1 v2 h1 fun v3 =>
 intS .geq v3 (.int .u8 1) fun v4 =>
 guardS v4 true (addrS 0 v0 fun v5 =>
 load1 v5 h1 fun v6 =>
 intS .leq v6 (.int .u8 8) fun v7 =>
 some (v7, h1)) h1 fun v8 h9 =>
 optS (pickV v4 v8 (.bool false)) fun v10 =>
 guardS v10 true (loadN 2 v0 h9 fun v11 =>
 bindS (ih 186 [v11] h9) fun v12 h13 =>
 some (v12, h13)) h9 fun v14 h15 =>
 optS (pickV v10 v14 (.bool false)) fun v16 =>
 some (v16, h15)
def B120 (ih : II) (a0 a1 : V) (h : Hp) : VH :=
 newS 31 (vcells a1) h fun v0 h1 =>
 loadN 2 v0 h1 fun v2 =>
 bindS (ih 118 [a0, v2] h1) fun v3 h4 =>
 addrS 0 v0 fun v5 =>
 load1 v5 h4 fun v6 =>
 intS .neq v6 (.int .u8 5) fun v7 =>
 ifS v7 (
 some (.nilPtr, h4)) (
 some (v3, h4))
def B110 (ih : II) (a0 a1 : V) (h : Hp) : VH :=
 nilS a0 fun v0 =>
 addrS 5 v0 fun v1 =>
 load1 v1 h fun v2 =>
 ifS v2 (
 nilS a0 fun v3 =>
 addrS 6 v3 fun v4 =>
 load1 v4 h fun v5 =>
 bindS (updS (.int .i64) v5 a1 (.bool true) h) fun v6 h7 =>
 some (.tuple [], h7)) (
 some (.tuple [], h))
def B128 (ih : II) (a0 a1 a2 : V) (h : Hp) : VH :=
 bindS (ih 174 [a0] h) fun v0 h1 =>
 ifS v0 (
 some ((.int .i64 1), h1)) (
 bindS (ih 184 [a0, a1] h1) fun v2 h3 =>
 notS v2 fun v4 =>
 guardS v4 false (intS .lss a2 (.int .i64 0) fun v5 =>
 some (v5, h3)) h3 fun v6 h7 =>
 optS (pickV v4 (.bool true) v6) fun v8 =>
 ifS v8 (
 some ((.int .i64 2), h7)) (
 nilS a0 fun v9 =>
 addrS 1 v9 fun v10 =>
 load1 v10 h7 fun v11 =>
 nilS a0 fun v12 =>
 addrS 2 v12 fun v13 =>
 load1 v13 h7 fun v14 =>
 intS .sub v11 v14 fun v15 =>
 nilS a0 fun v16 =>
 addrS 4 v16 fun v17 =>
 load1 v17 h7 fun v18 =>
 intS .sub a1 (.int .i64 1) fun v19 =>
 idxS 1 v18 v19 fun v20 =>
 load1 v20 h7 fun v21 =>
 intS .add v15 v21 fun v22 =>
 intS .gtr a2 v22 fun v23 =>
 ifS v23 (
 some ((.int .i64 5), h7)) (
 nilS a0 fun v24 =>
 addrS 2 v24 fun v25 =>
 load1 v25 h7 fun v26 =>
 nilS a0 fun v27 =>
 addrS 4 v27 fun v28 =>
 load1 v28 h7 fun v29 =>
 intS .sub a1 (.int .i64 1) fun v30 =>
 idxS 1 v29 v30 fun v31 =>
 load1 v31 h7 fun v32 =>
 intS .sub a2 v32 fun v33 =>
 intS .add v26 v33 fun v34 =>
 nilS a0 fun v35 =>
 addrS 2 v35 fun v36 =>
 storeC v36 v34 h7 fun h37 =>
 nilS a0 fun v38 =>
 addrS 4 v38 fun v39 =>
 load1 v39 h37 fun v40 =>
 intS .sub a1 (.int .i64 1) fun v41 =>
 idxS 1 v40 v41 fun v42 =>
 storeC v42 a2 h37 fun h43 =>
 some ((.int .i64 0), h43))))
def B130 (ih : II) (a0 : V) (h : Hp) : VH :=
 bindS (ih 144 [a0] h) fun v0 h1 =>
 notS v0 fun v2 =>
 ifS v2 (
 some ((.int .i64 0), h1)) (
 nilS a0 fun v3 =>
 addrS 0 v3 fun v4 =>
 load1 v4 h1 fun v5 =>
 bindS (lenSl v5 fun v => some (v, h1)) fun v6 h7 =>
 ih 41 [(.int .i64 0), v5, v6, (.int .i64 0)] h7)
def B41 (ih : II) (a3 a12 a13 a14 : V) (h : Hp) : VH :=
 intS .lss a14 a13 fun v8 =>
 ifS v8 (
 idxS 4 a12 a14 fun v9 =>
 loadN 4 v9 h fun v10 =>
 newS 126 [(.int .u8 0), (.int .i64 0), (.int .u8 0), (.int .i64 0)] h fun v11 h12 =>
 storeN 4 v11 v10 h12 fun h13 =>
 loadN 4 v11 h13 fun v14 =>
 bindS (ih 180 [v14] h13) fun v15 h16 =>
 notS v15 fun v17 =>
 ifS v17 (
 intS .add a3 (.int .i64 1) fun v18 =>
 ih 43 [v18, a12, a13, a14] h16) (
 ih 43 [a3, a12, a13, a14] h16)) (
 some (a3, h))
def B43 (ih : II) (a3 a12 a13 a14 : V) (h : Hp) : VH :=
 intS .add a14 (.int .i64 1) fun v19 =>
 ih 41 [a3, a12, a13, v19] h
def B126 (ih : II) (a0 a1 a2 : V) (h : Hp) : VH :=
 newS 31 (vcells a1) h fun v0 h1 =>
 newS 31 (vcells a2) h1 fun v2 h3 =>
 bindS (ih 144 [a0] h3) fun v4 h5 =>
 notS v4 fun v6 =>
 ifS v6 (
 some ((.int .i64 1), h5)) (
 addrS 0 v0 fun v7 =>
 load1 v7 h5 fun v8 =>
 intS .lss v8 (.int .u8 1) fun v9 =>
 guardS v9 false (addrS 0 v0 fun v10 =>
 load1 v10 h5 fun v11 =>
 intS .gtr v11 (.int .u8 8) fun v12 =>
 some (v12, h5)) h5 fun v13 h14 =>
 optS (pickV v9 (.bool true) v13) fun v15 =>
 guardS v15 false (addrS 0 v2 fun v16 =>
 load1 v16 h14 fun v17 =>
 intS .gtr v17 (.int .u8 8) fun v18 =>
 some (v18, h14)) h14 fun v19 h20 =>
 optS (pickV v15 (.bool true) v19) fun v21 =>
 guardS v21 false (loadN 2 v0 h20 fun v22 =>
 bindS (ih 176 [v22] h20) fun v23 h24 =>
 notS v23 fun v25 =>
 some (v25, h24)) h20 fun v26 h27 =>
 optS (pickV v21 (.bool true) v26) fun v28 =>
 guardS v28 false (loadN 2 v2 h27 fun v29 =>
 bindS (ih 176 [v29] h27) fun v30 h31 =>
 notS v30 fun v32 =>
 some (v32, h31)) h27 fun v33 h34 =>
 optS (pickV v28 (.bool true) v33) fun v35 =>
 ifS v35 (
 some ((.int .i64 150), h34)) (
 nilS a0 fun v36 =>
 addrS 1 v36 fun v37 =>
 load1 v37 h34 fun v38 =>
 loadN 2 v0 h34 fun v39 =>
 bindS (vh h34 (kLook h34 (.struct [(0, .int .u8), (1, .int .i64)]) (some (.int .i64 0)) true v38 v39)) fun v40 h41 =>
 extS 0 v40 fun v42 =>
 extS 1 v40 fun v43 =>
 ifS v43 (
 nilS a0 fun v44 =>
 addrS 0 v44 fun v45 =>
 load1 v45 h34 fun v46 =>
 loadN 2 v2 h34 fun v47 =>
 idxS 4 v46 v42 fun v48 =>
 addrS 2 v48 fun v49 =>
 storeN 2 v49 v47 h34 fun h50 =>
 some ((.int .i64 0), h50)) (
 addrS 0 v2 fun v51 =>
 load1 v51 h34 fun v52 =>
 intS .eql v52 (.int .u8 0) fun v53 =>
 ifS v53 (
 some ((.int .i64 0), h34)) (
 bindS (ih 130 [a0] h34) fun v54 h55 =>
 intS .geq v54 (.int .i64 65536) fun v56 =>
 ifS v56 (
 some ((.int .i64 5), h55)) (
 nilS a0 fun v57 =>
 addrS 0 v57 fun v58 =>
 load1 v58 h55 fun v59 =>
 bindS (ih 178 [v59, (.func 90 [] [])] h55) fun v60 h61 =>
 ifS v60 (
 nilS a0 fun v62 =>
 addrS 0 v62 fun v63 =>
 load1 v63 h61 fun v64 =>
 bindS (ih 182 [v64, (.func 90 [] [])] h61) fun v65 h66 =>
 nilS a0 fun v67 =>
 addrS 0 v67 fun v68 =>
 storeC v68 v65 h66 fun h69 =>
 nilS a0 fun v70 =>
 addrS 1 v70 fun v71 =>
 load1 v71 h69 fun v72 =>
 bindS (kClear h69 v72) fun v73 h74 =>
 nilS a0 fun v75 =>
 addrS 0 v75 fun v76 =>
 load1 v76 h74 fun v77 =>
 bindS (lenSl v77 fun v => some (v, h74)) fun v78 h79 =>
 ih 47 [a0, v0, v2, v77, v78, (.int .i64 0)] h79) (
 ih 45 [a0, v0, v2] h61))))))
def B45 (ih : II) (a0 a4 a5 : V) (h : Hp) : VH :=
 nilS a0 fun v80 =>
 addrS 1 v80 fun v81 =>
 load1 v81 h fun v82 =>
 loadN 2 a4 h fun v83 =>
 nilS a0 fun v84 =>
 addrS 0 v84 fun v85 =>
 load1 v85 h fun v86 =>
 bindS (lenSl v86 fun v => some (v, h)) fun v87 h88 =>
 bindS (kSet (.struct [(0, .int .u8), (1, .int .i64)]) h v82 v83 v87) fun v89 h90 =>
 nilS a0 fun v91 =>
 addrS 0 v91 fun v92 =>
 load1 v92 h90 fun v93 =>
 loadN 2 a4 h90 fun v94 =>
 loadN 2 a5 h90 fun v95 =>
 bindS (bldStruct h90 [(0, v94), (1, v95)] (.agg [(.int .u8 0), (.int .i64 0), (.int .u8 0), (.int .i64 0)]) (some [(0, 2), (2, 2)])) fun v96 h97 =>
 bindS (bldSl ⟨h90.t, h90.n, h90.n⟩ [(0, v96)] 126 1 4 (.agg [(.int .u8 0), (.int .i64 0), (.int .u8 0), (.int .i64 0)])) fun v98 h99 =>
 madeS h90.n h90.low h99 fun h100 =>
 bindS (appS 126 32 4 v93 v98 ⟨h100.t, h100.n, h100.n⟩) fun v101 h102 =>
 wroteS h100.low h102 fun h103 =>
 nilS a0 fun v104 =>
 addrS 0 v104 fun v105 =>
 storeC v105 v101 h103 fun h106 =>
 some ((.int .i64 0), h106)
def B47 (ih : II) (a0 a4 a5 a83 a84 a85 : V) (h : Hp) : VH :=
 intS .lss a85 a84 fun v107 =>
 ifS v107 (
 idxS 4 a83 a85 fun v108 =>
 loadN 4 v108 h fun v109 =>
 newS 126 [(.int .u8 0), (.int .i64 0), (.int .u8 0), (.int .i64 0)] h fun v110 h111 =>
 storeN 4 v110 v109 h111 fun h112 =>
 nilS a0 fun v113 =>
 addrS 1 v113 fun v114 =>
 load1 v114 h112 fun v115 =>
 addrS 0 v110 fun v116 =>
 loadN 2 v116 h112 fun v117 =>
 bindS (kSet (.struct [(0, .int .u8), (1, .int .i64)]) h112 v115 v117 a85) fun v118 h119 =>
 intS .add a85 (.int .i64 1) fun v120 =>
 ih 47 [a0, a4, a5, a83, a84, v120] h119) (
 ih 45 [a0, a4, a5] h)
def B124 (ih : II) (a0 : V) (h : Hp) : VH :=
 bindS (ih 174 [a0] h) fun v0 h1 =>
 ifS v0 (
 some ((.int .i64 0), h1)) (
 nilS a0 fun v2 =>
 addrS 2 v2 fun v3 =>
 load1 v3 h1 fun v4 =>
 some (v4, h1))
def B122 (ih : II) (a0 a1 : V) (h : Hp) : VH :=
 newS 31 (vcells a1) h fun v0 h1 =>
 addrS 0 v0 fun v2 =>
 load1 v2 h1 fun v3 =>
 intS .gtr v3 (.int .u8 8) fun v4 =>
 guardS v4 false (addrS 0 v0 fun v5 =>
 load1 v5 h1 fun v6 =>
 intS .leq v6 (.int .u8 2) fun v7 =>
 some (v7, h1)) h1 fun v8 h9 =>
 guardS v8 true (addrS 1 v0 fun v10 =>
 load1 v10 h9 fun v11 =>
 intS .neq v11 (.int .i64 0) fun v12 =>
 some (v12, h9)) h9 fun v13 h14 =>
 guardS v4 false (optS (pickV v8 v13 (.bool false)) fun v15 =>
 some (v15, h14)) h14 fun v16 h17 =>
 optS (pickV v4 (.bool true) v16) fun v18 =>
 ifS v18 (
 some ((.bool false), h17)) (
 loadN 2 v0 h17 fun v19 =>
 bindS (ih 172 [v19] h17) fun v20 h21 =>
 ifS v20 (
 loadN 2 v0 h21 fun v22 =>
 bindS (ih 142 [a0, v22] h21) fun v23 h24 =>
 eqS (.pointer 76) .neq v23 .nilPtr fun v25 =>
 some (v25, h24)) (
 some ((.bool true), h21)))
def B102 (ih : II) (a0 : V) (h : Hp) : VH :=
 eqS (.pointer 99) .neq a0 .nilPtr fun v0 =>
 guardS v0 true (nilS a0 fun v1 =>
 addrS 2 v1 fun v2 =>
 load1 v2 h fun v3 =>
 eqS (.map 3 71) .neq v3 .nilMap fun v4 =>
 some (v4, h)) h fun v5 h6 =>
 optS (pickV v0 v5 (.bool false)) fun v7 =>
 some (v7, h6)
def B108 (ih : II) (a0 a1 a2 : V) (h : Hp) : VH :=
 newS 31 [(.int .u8 0), (.int .i64 0)] h fun v0 h1 =>
 bindS (bldStruct h1 [(0, a1), (1, (.int .i64 1))] (.agg [(.int .u8 0), (.int .i64 0)]) (some [(0, 1), (1, 1)])) fun v2 h3 =>
 nilS a2 fun v4 =>
 addrS 0 v4 fun v5 =>
 storeN 2 v5 v2 h3 fun h6 =>
 nilS a0 fun v7 =>
 addrS 1 v7 fun v8 =>
 load1 v8 h6 fun v9 =>
 bindS (lenSl v9 fun v => some (v, h6)) fun v10 h11 =>
 intS .geq v10 (.int .i64 65536) fun v12 =>
 guardS v12 false (some (a0, h6)) h6 fun v13 _ =>
 guardB v12 false (
 bindS (ih 138 [v13] ⟨h6.t, h6.n, h6.n⟩) fun v14 h15 =>
 wroteS h6.low h15 fun h16 =>
 guardS v12 false (some (a2, h6)) h6 fun v17 _ =>
 guardB v12 false (
 bindS (ih 168 [v17] ⟨h16.t, h16.n, h16.n⟩) fun v18 h19 =>
 wroteS h16.low h19 fun h20 =>
 guardS v12 false (intS .add v14 v18 fun v21 =>
 some (v21, h20)) h20 fun v22 _ =>
 guardS v12 false (some (a0, h6)) h6 fun v23 _ =>
 guardS v12 false (nilS v23 fun v24 =>
 some (v24, h6)) h6 fun v25 _ =>
 guardS v12 false (addrS 0 v25 fun v26 =>
 some (v26, h6)) h6 fun v27 _ =>
 guardB v12 false (
 load1 v27 h6 fun v28 =>
 cD (((pureB h16 h19) || sameA h16 h20 v27 (vcells v28).length) && (((pureB h6 h15) || sameA h6 h16 v27 (vcells v28).length) && true)) (
 guardS v12 false (intS .gtr v22 v28 fun v29 =>
 some (v29, h20)) h20 fun v30 h31 =>
 optS (pickV v12 (.bool true) v30) fun v32 =>
 ifS v32 (
 bindS (bldStruct h31 [] (.agg [(.int .u8 0), (.int .i64 0)]) (some [(0, 1), (1, 1)])) fun v33 h34 =>
 storeN 2 v0 v33 h34 fun h35 =>
 loadN 2 v0 h35 fun v36 =>
 some (.tuple [v36, (.int .i64 152)], h35)) (
 ih 49 [a0, a1, a2, v0, (.int .i64 0)] h31)) none) (
 guardS v12 false (intS .gtr v22 undefV fun v37 =>
 some (v37, h20)) h20 fun v38 h39 =>
 optS (pickV v12 (.bool true) v38) fun v40 =>
 ifS v40 (
 bindS (bldStruct h39 [] (.agg [(.int .u8 0), (.int .i64 0)]) (some [(0, 1), (1, 1)])) fun v41 h42 =>
 storeN 2 v0 v41 h42 fun h43 =>
 loadN 2 v0 h43 fun v44 =>
 some (.tuple [v44, (.int .i64 152)], h43)) (
 ih 49 [a0, a1, a2, v0, (.int .i64 0)] h39))) (
 guardS v12 false (intS .add v14 undefV fun v45 =>
 some (v45, h16)) h16 fun v46 _ =>
 guardS v12 false (some (a0, h6)) h6 fun v47 _ =>
 guardS v12 false (nilS v47 fun v48 =>
 some (v48, h6)) h6 fun v49 _ =>
 guardS v12 false (addrS 0 v49 fun v50 =>
 some (v50, h6)) h6 fun v51 _ =>
 guardB v12 false (
 load1 v51 h6 fun v52 =>
 cD (((pureB h6 h15) || sameA h6 h16 v51 (vcells v52).length) && true) (
 guardS v12 false (intS .gtr v46 v52 fun v53 =>
 some (v53, h16)) h16 fun v54 h55 =>
 optS (pickV v12 (.bool true) v54) fun v56 =>
 ifS v56 (
 bindS (bldStruct h55 [] (.agg [(.int .u8 0), (.int .i64 0)]) (some [(0, 1), (1, 1)])) fun v57 h58 =>
 storeN 2 v0 v57 h58 fun h59 =>
 loadN 2 v0 h59 fun v60 =>
 some (.tuple [v60, (.int .i64 152)], h59)) (
 ih 49 [a0, a1, a2, v0, (.int .i64 0)] h55)) none) (
 guardS v12 false (intS .gtr v46 undefV fun v61 =>
 some (v61, h16)) h16 fun v62 h63 =>
 optS (pickV v12 (.bool true) v62) fun v64 =>
 ifS v64 (
 bindS (bldStruct h63 [] (.agg [(.int .u8 0), (.int .i64 0)]) (some [(0, 1), (1, 1)])) fun v65 h66 =>
 storeN 2 v0 v65 h66 fun h67 =>
 loadN 2 v0 h67 fun v68 =>
 some (.tuple [v68, (.int .i64 152)], h67)) (
 ih 49 [a0, a1, a2, v0, (.int .i64 0)] h63)))) (
 guardS v12 false (some (a2, h6)) h6 fun v69 _ =>
 guardB v12 false (
 bindS (ih 168 [v69] ⟨h6.t, h6.n, h6.n⟩) fun v70 h71 =>
 wroteS h6.low h71 fun h72 =>
 guardS v12 false (intS .add undefV v70 fun v73 =>
 some (v73, h72)) h72 fun v74 _ =>
 guardS v12 false (some (a0, h6)) h6 fun v75 _ =>
 guardS v12 false (nilS v75 fun v76 =>
 some (v76, h6)) h6 fun v77 _ =>
 guardS v12 false (addrS 0 v77 fun v78 =>
 some (v78, h6)) h6 fun v79 _ =>
 guardB v12 false (
 load1 v79 h6 fun v80 =>
 cD (((pureB h6 h71) || sameA h6 h72 v79 (vcells v80).length) && true) (
 guardS v12 false (intS .gtr v74 v80 fun v81 =>
 some (v81, h72)) h72 fun v82 h83 =>
 optS (pickV v12 (.bool true) v82) fun v84 =>
 ifS v84 (
 bindS (bldStruct h83 [] (.agg [(.int .u8 0), (.int .i64 0)]) (some [(0, 1), (1, 1)])) fun v85 h86 =>
 storeN 2 v0 v85 h86 fun h87 =>
 loadN 2 v0 h87 fun v88 =>
 some (.tuple [v88, (.int .i64 152)], h87)) (
 ih 49 [a0, a1, a2, v0, (.int .i64 0)] h83)) none) (
 guardS v12 false (intS .gtr v74 undefV fun v89 =>
 some (v89, h72)) h72 fun v90 h91 =>
 optS (pickV v12 (.bool true) v90) fun v92 =>
 ifS v92 (
 bindS (bldStruct h91 [] (.agg [(.int .u8 0), (.int .i64 0)]) (some [(0, 1), (1, 1)])) fun v93 h94 =>
 storeN 2 v0 v93 h94 fun h95 =>
 loadN 2 v0 h95 fun v96 =>
 some (.tuple [v96, (.int .i64 152)], h95)) (
 ih 49 [a0, a1, a2, v0, (.int .i64 0)] h91))) (
 guardS v12 false (intS .add undefV undefV fun v97 =>
 some (v97, h6)) h6 fun v98 _ =>
 guardS v12 false (some (a0, h6)) h6 fun v99 _ =>
 guardS v12 false (nilS v99 fun v100 =>
 some (v100, h6)) h6 fun v101 _ =>
 guardS v12 false (addrS 0 v101 fun v102 =>
 some (v102, h6)) h6 fun v103 _ =>
 guardS v12 false (load1 v103 h6 fun v104 =>
 some (v104, h6)) h6 fun v105 _ =>
 guardS v12 false (intS .gtr v98 v105 fun v106 =>
 some (v106, h6)) h6 fun v107 h108 =>
 optS (pickV v12 (.bool true) v107) fun v109 =>
 ifS v109 (
 bindS (bldStruct h108 [] (.agg [(.int .u8 0), (.int .i64 0)]) (some [(0, 1), (1, 1)])) fun v110 h111 =>
 storeN 2 v0 v110 h111 fun h112 =>
 loadN 2 v0 h112 fun v113 =>
 some (.tuple [v113, (.int .i64 152)], h112)) (
 ih 49 [a0, a1, a2, v0, (.int .i64 0)] h108)))
def B49 (ih : II) (a0 a1 a2 a6 a8 : V) (h : Hp) : VH :=
 nilS a0 fun v114 =>
 addrS 1 v114 fun v115 =>
 load1 v115 h fun v116 =>
 bindS (lenSl v116 fun v => some (v, h)) fun v117 h118 =>
 intS .lss a8 v117 fun v119 =>
 guardS v119 true (nilS a0 fun v120 =>
 addrS 1 v120 fun v121 =>
 load1 v121 h118 fun v122 =>
 idxS 1 v122 a8 fun v123 =>
 load1 v123 h118 fun v124 =>
 nilS v124 fun v125 =>
 addrS 0 v125 fun v126 =>
 addrS 1 v126 fun v127 =>
 load1 v127 h118 fun v128 =>
 intS .add a8 (.int .i64 1) fun v129 =>
 intS .eql v128 v129 fun v130 =>
 some (v130, h118)) h118 fun v131 h132 =>
 optS (pickV v119 v131 (.bool false)) fun v133 =>
 ifS v133 (
 intS .add a8 (.int .i64 1) fun v134 =>
 ih 49 [a0, a1, a2, a6, v134] h132) (
 intS .add a8 (.int .i64 1) fun v135 =>
 nilS a2 fun v136 =>
 addrS 0 v136 fun v137 =>
 addrS 1 v137 fun v138 =>
 storeC v138 v135 h132 fun h139 =>
 nilS a0 fun v140 =>
 addrS 3 v140 fun v141 =>
 load1 v141 h139 fun v142 =>
 nilS a2 fun v143 =>
 addrS 12 v143 fun v144 =>
 storeC v144 v142 h139 fun h145 =>
 intS .eql a1 (.int .u8 5) fun v146 =>
 guardS v146 false (intS .eql a1 (.int .u8 6) fun v147 =>
 some (v147, h145)) h145 fun v148 h149 =>
 optS (pickV v146 (.bool true) v148) fun v150 =>
 guardS v150 false (intS .eql a1 (.int .u8 8) fun v151 =>
 some (v151, h149)) h149 fun v152 h153 =>
 optS (pickV v150 (.bool true) v152) fun v154 =>
 ifS v154 (
 nilS a0 fun v155 =>
 addrS 2 v155 fun v156 =>
 load1 v156 h153 fun v157 =>
 intS .add v157 (.int .i64 1) fun v158 =>
 nilS a0 fun v159 =>
 addrS 2 v159 fun v160 =>
 storeC v160 v158 h153 fun h161 =>
 nilS a0 fun v162 =>
 addrS 2 v162 fun v163 =>
 load1 v163 h161 fun v164 =>
 nilS a2 fun v165 =>
 addrS 2 v165 fun v166 =>
 storeC v166 v164 h161 fun h167 =>
 ih 51 [a0, a2, a6, a8] h167) (
 ih 51 [a0, a2, a6, a8] h153))
def B51 (ih : II) (a0 a2 a6 a8 : V) (h : Hp) : VH :=
 nilS a0 fun v168 =>
 addrS 1 v168 fun v169 =>
 load1 v169 h fun v170 =>
 bindS (bldSl h [(0, a2)] 106 1 1 .nilPtr) fun v171 h172 =>
 bindS (appS 106 8 1 v170 v171 h172) fun v173 h174 =>
 nilS a0 fun v175 =>
 addrS 1 v175 fun v176 =>
 storeC v176 v173 h174 fun h177 =>
 nilS a0 fun v178 =>
 addrS 1 v178 fun v179 =>
 load1 v179 h177 fun v180 =>
 bindS (lenSl v180 fun v => some (v, h177)) fun v181 h182 =>
 intS .sub v181 (.int .i64 1) fun v183 =>
 ih 53 [a0, a2, a6, a8, v183] h182
def B53 (ih : II) (a0 a2 a6 a8 a9 : V) (h : Hp) : VH :=
 intS .gtr a9 a8 fun v184 =>
 ifS v184 (
 nilS a0 fun v185 =>
 addrS 1 v185 fun v186 =>
 load1 v186 h fun v187 =>
 nilS a0 fun v188 =>
 addrS 1 v188 fun v189 =>
 load1 v189 h fun v190 =>
 intS .sub a9 (.int .i64 1) fun v191 =>
 nilS a0 fun v192 =>
 addrS 1 v192 fun v193 =>
 load1 v193 h fun v194 =>
 intS .sub a9 (.int .i64 1) fun v195 =>
 idxS 1 v194 v195 fun v196 =>
 load1 v196 h fun v197 =>
 nilS a0 fun v198 =>
 addrS 1 v198 fun v199 =>
 load1 v199 h fun v200 =>
 idxS 1 v200 a9 fun v201 =>
 load1 v201 h fun v202 =>
 idxS 1 v187 a9 fun v203 =>
 ptrE v203 fun b204 o205 => storeB (storeO Tryz.prog h 106 b204 o205 v197) fun c206 =>
 idxS 1 v190 v191 fun v207 =>
 storeC v207 v202 (h.put b204 c206) fun h208 =>
 intS .sub a9 (.int .i64 1) fun v209 =>
 ih 53 [a0, a2, a6, a8, v209] h208) (
 nilS a2 fun v210 =>
 addrS 0 v210 fun v211 =>
 loadN 2 v211 h fun v212 =>
 storeN 2 a6 v212 h fun h213 =>
 loadN 2 a6 h213 fun v214 =>
 some (.tuple [v214, (.int .i64 0)], h213))
def B118 (ih : II) (a0 a1 : V) (h : Hp) : VH :=
 newS 31 (vcells a1) h fun v0 h1 =>
 ih 55 [a0, v0, (.int .i64 0)] h1
def B55 (ih : II) (a0 a3 a5 : V) (h : Hp) : VH :=
 nilS a0 fun v2 =>
 addrS 1 v2 fun v3 =>
 load1 v3 h fun v4 =>
 bindS (lenSl v4 fun v => some (v, h)) fun v5 h6 =>
 intS .lss a5 v5 fun v7 =>
 ifS v7 (
 nilS a0 fun v8 =>
 addrS 1 v8 fun v9 =>
 load1 v9 h6 fun v10 =>
 idxS 1 v10 a5 fun v11 =>
 load1 v11 h6 fun v12 =>
 nilS v12 fun v13 =>
 addrS 0 v13 fun v14 =>
 loadN 2 v14 h6 fun v15 =>
 loadN 2 a3 h6 fun v16 =>
 bindS (vh h6 (eqOp .eql (cmpV [(0, .int .u8), (1, .int .i64)] v15 v16))) fun v17 h18 =>
 ifS v17 (
 nilS a0 fun v19 =>
 addrS 1 v19 fun v20 =>
 load1 v20 h18 fun v21 =>
 idxS 1 v21 a5 fun v22 =>
 load1 v22 h18 fun v23 =>
 some (v23, h18)) (
 intS .add a5 (.int .i64 1) fun v24 =>
 ih 55 [a0, a3, v24] h18)) (
 some (.nilPtr, h6))
def B104 (ih : II) (a0 a1 a2 : V) (h : Hp) : VH :=
 newS 31 [(.int .u8 0), (.int .i64 0)] h fun v0 h1 =>
 nilS a0 fun v2 =>
 addrS 1 v2 fun v3 =>
 load1 v3 h1 fun v4 =>
 bindS (ih 124 [v4] ⟨h1.t, h1.n, h1.n⟩) fun v5 h6 =>
 wroteS h1.low h6 fun h7 =>
 intS .add v5 a2 fun v8 =>
 nilS a0 fun v9 =>
 addrS 0 v9 fun v10 =>
 load1 v10 h1 fun v11 =>
 cD (((pureB h1 h6) || sameA h1 h7 v10 (vcells v11).length) && true) (
 intS .gtr v8 v11 fun v12 =>
 ifS v12 (
 bindS (bldStruct h7 [] (.agg [(.int .u8 0), (.int .i64 0)]) (some [(0, 1), (1, 1)])) fun v13 h14 =>
 storeN 2 v0 v13 h14 fun h15 =>
 loadN 2 v0 h15 fun v16 =>
 some (.tuple [v16, (.int .i64 152)], h15)) (
 nilS a0 fun v17 =>
 addrS 1 v17 fun v18 =>
 load1 v18 h7 fun v19 =>
 bindS (ih 166 [v19, a2] h7) fun v20 h21 =>
 extS 0 v20 fun v22 =>
 extS 1 v20 fun v23 =>
 intS .neq v23 (.int .i64 0) fun v24 =>
 ifS v24 (
 bindS (bldStruct h21 [] (.agg [(.int .u8 0), (.int .i64 0)]) (some [(0, 1), (1, 1)])) fun v25 h26 =>
 storeN 2 v0 v25 h26 fun h27 =>
 loadN 2 v0 h27 fun v28 =>
 some (.tuple [v28, (.int .i64 152)], h27)) (
 nilS a1 fun v29 =>
 addrS 0 v29 fun v30 =>
 load1 v30 h21 fun v31 =>
 intS .eql v31 (.int .u8 5) fun v32 =>
 guardS v32 false (nilS a1 fun v33 =>
 addrS 0 v33 fun v34 =>
 load1 v34 h21 fun v35 =>
 intS .eql v35 (.int .u8 6) fun v36 =>
 some (v36, h21)) h21 fun v37 h38 =>
 optS (pickV v32 (.bool true) v37) fun v39 =>
 guardS v39 false (nilS a1 fun v40 =>
 addrS 0 v40 fun v41 =>
 load1 v41 h38 fun v42 =>
 intS .eql v42 (.int .u8 8) fun v43 =>
 some (v43, h38)) h38 fun v44 h45 =>
 optS (pickV v39 (.bool true) v44) fun v46 =>
 ifS v46 (
 nilS a0 fun v47 =>
 addrS 4 v47 fun v48 =>
 load1 v48 h45 fun v49 =>
 intS .add v49 (.int .i64 1) fun v50 =>
 nilS a0 fun v51 =>
 addrS 4 v51 fun v52 =>
 storeC v52 v50 h45 fun h53 =>
 nilS a0 fun v54 =>
 addrS 4 v54 fun v55 =>
 load1 v55 h53 fun v56 =>
 nilS a1 fun v57 =>
 addrS 1 v57 fun v58 =>
 storeC v58 v56 h53 fun h59 =>
 ih 57 [a0, a1, v0, v22] h59) (
 ih 57 [a0, a1, v0, v22] h45)))) none
def B57 (ih : II) (a0 a1 a6 a8 : V) (h : Hp) : VH :=
 nilS a0 fun v60 =>
 addrS 2 v60 fun v61 =>
 load1 v61 h fun v62 =>
 bindS (updS (.int .i64) v62 a8 a1 h) fun v63 h64 =>
 bindS (ih 110 [a0, a8] h64) fun v65 h66 =>
 nilS a1 fun v67 =>
 addrS 0 v67 fun v68 =>
 load1 v68 h66 fun v69 =>
 bindS (bldStruct h66 [(0, v69), (1, a8)] (.agg [(.int .u8 0), (.int .i64 0)]) (some [(0, 1), (1, 1)])) fun v70 h71 =>
 storeN 2 a6 v70 h71 fun h72 =>
 loadN 2 a6 h72 fun v73 =>
 some (.tuple [v73, (.int .i64 0)], h72)
def B116 (ih : II) (a0 : V) (h : Hp) : VH :=
 eqS (.slice 31) .eql a0 .nilSlice fun v0 =>
 ifS v0 (
 some (.nilSlice, h)) (
 bindS (bldSl h [] 31 0 2 (.agg [(.int .u8 0), (.int .i64 0)])) fun v1 h2 =>
 bindS (appS 31 16 2 v1 a0 h2) fun v3 h4 =>
 some (v3, h4))
def B114 (ih : II) (a0 a1 : V) (h : Hp) : VH :=
 bindS (ih 170 [a0, a1] h) fun v0 h1 =>
 intS .geq v0 (.int .i64 0) fun v2 =>
 some (v2, h1)
def B106 (ih : II) (h : Hp) : VH :=
 bindS (bldStruct (h.new (.map [])) [(1, (.map h.n))] (.agg [.nilSlice, .nilMap]) (some [(0, 1), (1, 1)])) fun v0 h1 =>
 newS 124 (vcells v0) h1 fun v2 h3 =>
 some (v2, h3)
def B100 (ih : II) (a0 : V) (h : Hp) : VH :=
 intS .lss a0 (.int .i64 0) fun v0 =>
 guardS v0 false (intS .gtr a0 (.int .i64 1073741824) fun v1 =>
 some (v1, h)) h fun v2 h3 =>
 optS (pickV v0 (.bool true) v2) fun v4 =>
 ifS v4 (
 some (.tuple [.nilPtr, (.int .i64 2)], h3)) (
 bindS (bldStruct h3 [(0, (.bool true)), (1, a0)] (.agg [(.bool false), (.int .i64 0), (.int .i64 0), (.int .i64 0), .nilSlice, .nilSlice]) (some [(0, 1), (1, 1), (2, 1), (3, 1), (4, 1), (5, 1)])) fun v5 h6 =>
 newS 141 (vcells v5) h6 fun v7 h8 =>
 some (.tuple [v7, (.int .i64 0)], h8))
def B172 (ih : II) (a0 : V) (h : Hp) : VH :=
 newS 31 (vcells a0) h fun v0 h1 =>
 addrS 0 v0 fun v2 =>
 load1 v2 h1 fun v3 =>
 intS .geq v3 (.int .u8 4) fun v4 =>
 guardS v4 true (addrS 0 v0 fun v5 =>
 load1 v5 h1 fun v6 =>
 intS .leq v6 (.int .u8 6) fun v7 =>
 some (v7, h1)) h1 fun v8 h9 =>
 optS (pickV v4 v8 (.bool false)) fun v10 =>
 guardS v10 false (addrS 0 v0 fun v11 =>
 load1 v11 h9 fun v12 =>
 intS .eql v12 (.int .u8 8) fun v13 =>
 some (v13, h9)) h9 fun v14 h15 =>
 optS (pickV v10 (.bool true) v14) fun v16 =>
 guardS v16 false (addrS 0 v0 fun v17 =>
 load1 v17 h15 fun v18 =>
 intS .eql v18 (.int .u8 9) fun v19 =>
 some (v19, h15)) h15 fun v20 h21 =>
 optS (pickV v16 (.bool true) v20) fun v22 =>
 some (v22, h21)
def B192 (ih : II) (a0 a1 : V) (h : Hp) : VH :=
 newS 31 (vcells a1) h fun v0 h1 =>
 ih 59 [a0, v0, (.int .i64 0)] h1
def B59 (ih : II) (a0 a3 a5 : V) (h : Hp) : VH :=
 nilS a0 fun v2 =>
 addrS 0 v2 fun v3 =>
 load1 v3 h fun v4 =>
 bindS (lenSl v4 fun v => some (v, h)) fun v5 h6 =>
 intS .lss a5 v5 fun v7 =>
 ifS v7 (
 nilS a0 fun v8 =>
 addrS 0 v8 fun v9 =>
 load1 v9 h6 fun v10 =>
 idxS 4 v10 a5 fun v11 =>
 addrS 0 v11 fun v12 =>
 loadN 2 v12 h6 fun v13 =>
 loadN 2 a3 h6 fun v14 =>
 bindS (vh h6 (eqOp .eql (cmpV [(0, .int .u8), (1, .int .i64)] v13 v14))) fun v15 h16 =>
 ifS v15 (
 some (a5, h16)) (
 intS .add a5 (.int .i64 1) fun v17 =>
 ih 59 [a0, a3, v17] h16)) (
 some ((.int .i64 (-1)), h6))
def B188 (ih : II) (a0 : V) (h : Hp) : VH :=
 newS 31 (vcells a0) h fun v0 h1 =>
 addrS 0 v0 fun v2 =>
 load1 v2 h1 fun v3 =>
 intS .leq v3 (.int .u8 8) fun v4 =>
 guardS v4 true (loadN 2 v0 h1 fun v5 =>
 bindS (ih 186 [v5] h1) fun v6 h7 =>
 some (v6, h7)) h1 fun v8 h9 =>
 optS (pickV v4 v8 (.bool false)) fun v10 =>
 some (v10, h9)
def B168 (ih : II) (a0 : V) (h : Hp) : VH :=
 nilS a0 fun v0 =>
 addrS 0 v0 fun v1 =>
 addrS 0 v1 fun v2 =>
 load1 v2 h fun v3 =>
 intS .eql v3 (.int .u8 4) fun v4 =>
 ifS v4 (
 nilS a0 fun v5 =>
 addrS 3 v5 fun v6 =>
 load1 v6 h fun v7 =>
 bindS (lenStr v7 fun v => some (v, h)) fun v8 h9 =>
 intS .quo v8 (.int .i64 16) fun v10 =>
 intS .add (.int .i64 1) v10 fun v11 =>
 some (v11, h9)) (
 intS .eql v3 (.int .u8 5) fun v12 =>
 ifS v12 (
 nilS a0 fun v13 =>
 addrS 4 v13 fun v14 =>
 load1 v14 h fun v15 =>
 bindS (ih 202 [v15] h) fun v16 h17 =>
 intS .mul (.int .i64 2) v16 fun v18 =>
 intS .add (.int .i64 2) v18 fun v19 =>
 some (v19, h17)) (
 intS .eql v3 (.int .u8 6) fun v20 =>
 ifS v20 (
 nilS a0 fun v21 =>
 addrS 8 v21 fun v22 =>
 load1 v22 h fun v23 =>
 bindS (lenSl v23 fun v => some (v, h)) fun v24 h25 =>
 intS .add (.int .i64 2) v24 fun v26 =>
 some (v26, h25)) (
 intS .eql v3 (.int .u8 8) fun v27 =>
 ifS v27 (
 some ((.int .i64 8), h)) (
 some ((.int .i64 1), h)))))
def B190 (ih : II) (a0 : V) (h : Hp) : VH :=
 newS 31 (vcells a0) h fun v0 h1 =>
 addrS 0 v0 fun v2 =>
 load1 v2 h1 fun v3 =>
 intS .geq v3 (.int .u8 4) fun v4 =>
 guardS v4 true (addrS 0 v0 fun v5 =>
 load1 v5 h1 fun v6 =>
 intS .leq v6 (.int .u8 6) fun v7 =>
 some (v7, h1)) h1 fun v8 h9 =>
 optS (pickV v4 v8 (.bool false)) fun v10 =>
 guardS v10 false (addrS 0 v0 fun v11 =>
 load1 v11 h9 fun v12 =>
 intS .eql v12 (.int .u8 8) fun v13 =>
 some (v13, h9)) h9 fun v14 h15 =>
 optS (pickV v10 (.bool true) v14) fun v16 =>
 guardS v16 false (addrS 0 v0 fun v17 =>
 load1 v17 h15 fun v18 =>
 intS .eql v18 (.int .u8 9) fun v19 =>
 some (v19, h15)) h15 fun v20 h21 =>
 optS (pickV v16 (.bool true) v20) fun v22 =>
 some (v22, h21)
def B186 (ih : II) (a0 : V) (h : Hp) : VH :=
 newS 31 (vcells a0) h fun v0 h1 =>
 addrS 0 v0 fun v2 =>
 load1 v2 h1 fun v3 =>
 intS .gtr v3 (.int .u8 2) fun v4 =>
 guardS v4 false (addrS 1 v0 fun v5 =>
 load1 v5 h1 fun v6 =>
 intS .eql v6 (.int .i64 0) fun v7 =>
 some (v7, h1)) h1 fun v8 h9 =>
 optS (pickV v4 (.bool true) v8) fun v10 =>
 some (v10, h9)
def B184 (ih : II) (a0 a1 : V) (h : Hp) : VH :=
 intS .geq a1 (.int .i64 1) fun v0 =>
 guardS v0 true (nilS a0 fun v1 =>
 addrS 4 v1 fun v2 =>
 load1 v2 h fun v3 =>
 bindS (lenSl v3 fun v => some (v, h)) fun v4 h5 =>
 intS .leq a1 v4 fun v6 =>
 some (v6, h5)) h fun v7 h8 =>
 optS (pickV v0 v7 (.bool false)) fun v9 =>
 guardS v9 true (nilS a0 fun v10 =>
 addrS 4 v10 fun v11 =>
 load1 v11 h8 fun v12 =>
 intS .sub a1 (.int .i64 1) fun v13 =>
 idxS 1 v12 v13 fun v14 =>
 load1 v14 h8 fun v15 =>
 intS .geq v15 (.int .i64 0) fun v16 =>
 some (v16, h8)) h8 fun v17 h18 =>
 optS (pickV v9 v17 (.bool false)) fun v19 =>
 some (v19, h18)
def B174 (ih : II) (a0 : V) (h : Hp) : VH :=
 eqS (.pointer 141) .eql a0 .nilPtr fun v0 =>
 guardS v0 false (nilS a0 fun v1 =>
 addrS 0 v1 fun v2 =>
 load1 v2 h fun v3 =>
 notS v3 fun v4 =>
 some (v4, h)) h fun v5 h6 =>
 optS (pickV v0 (.bool true) v5) fun v7 =>
 some (v7, h6)
def B180 (ih : II) (a0 : V) (h : Hp) : VH :=
 newS 126 (vcells a0) h fun v0 h1 =>
 addrS 2 v0 fun v2 =>
 addrS 0 v2 fun v3 =>
 load1 v3 h1 fun v4 =>
 intS .eql v4 (.int .u8 0) fun v5 =>
 some (v5, h1)
def B182 (ih : II) (a0 a1 : V) (h : Hp) : VH :=
 bindS (ih 204 [a0, a1] h) fun v0 h1 =>
 intS .eql v0 (.int .i64 (-1)) fun v2 =>
 ifS v2 (
 some (a0, h1)) (
 intS .add v0 (.int .i64 1) fun v3 =>
 ih 61 [a0, a1, v0, v3] h1)
def B61 (ih : II) (a0 a1 a5 a6 : V) (h : Hp) : VH :=
 bindS (lenSl a0 fun v => some (v, h)) fun v4 h5 =>
 intS .lss a6 v4 fun v6 =>
 ifS v6 (
 idxS 4 a0 a6 fun v7 =>
 loadN 4 v7 h5 fun v8 =>
 newS 126 [(.int .u8 0), (.int .i64 0), (.int .u8 0), (.int .i64 0)] h5 fun v9 h10 =>
 storeN 4 v9 v8 h10 fun h11 =>
 loadN 4 v9 h11 fun v12 =>
 bindS (dynE ih a1 [v12] h11) fun v13 h14 =>
 notS v13 fun v15 =>
 ifS v15 (
 loadN 4 v9 h14 fun v16 =>
 idxS 4 a0 a5 fun v17 =>
 storeN 4 v17 v16 h14 fun h18 =>
 intS .add a5 (.int .i64 1) fun v19 =>
 ih 63 [a0, a1, v19, a6] h18) (
 ih 63 [a0, a1, a5, a6] h14)) (
 bindS (slSlK 126 4 (some a5) none h5 a0) fun v20 h21 =>
 bindS (kZero h21 4 (some (.agg [(.int .u8 0), (.int .i64 0), (.int .u8 0), (.int .i64 0)])) v20) fun v22 h23 =>
 bindS (slSlK 126 4 none (some a5) h23 a0) fun v24 h25 =>
 some (v24, h25))
def B63 (ih : II) (a0 a1 a5 a6 : V) (h : Hp) : VH :=
 intS .add a6 (.int .i64 1) fun v26 =>
 ih 61 [a0, a1, a5, v26] h
def B178 (ih : II) (a0 a1 : V) (h : Hp) : VH :=
 bindS (ih 204 [a0, a1] h) fun v0 h1 =>
 intS .geq v0 (.int .i64 0) fun v2 =>
 some (v2, h1)
def B176 (ih : II) (a0 : V) (h : Hp) : VH :=
 newS 31 (vcells a0) h fun v0 h1 =>
 addrS 0 v0 fun v2 =>
 load1 v2 h1 fun v3 =>
 intS .gtr v3 (.int .u8 2) fun v4 =>
 guardS v4 false (addrS 1 v0 fun v5 =>
 load1 v5 h1 fun v6 =>
 intS .eql v6 (.int .i64 0) fun v7 =>
 some (v7, h1)) h1 fun v8 h9 =>
 optS (pickV v4 (.bool true) v8) fun v10 =>
 some (v10, h9)
def B166 (ih : II) (a0 a1 : V) (h : Hp) : VH :=
 bindS (ih 174 [a0] h) fun v0 h1 =>
 ifS v0 (
 some (.tuple [(.int .i64 0), (.int .i64 1)], h1)) (
 intS .lss a1 (.int .i64 0) fun v2 =>
 ifS v2 (
 some (.tuple [(.int .i64 0), (.int .i64 2)], h1)) (
 nilS a0 fun v3 =>
 addrS 1 v3 fun v4 =>
 load1 v4 h1 fun v5 =>
 nilS a0 fun v6 =>
 addrS 2 v6 fun v7 =>
 load1 v7 h1 fun v8 =>
 intS .sub v5 v8 fun v9 =>
 intS .gtr a1 v9 fun v10 =>
 guardS v10 false (nilS a0 fun v11 =>
 addrS 3 v11 fun v12 =>
 load1 v12 h1 fun v13 =>
 intS .eql v13 (.int .i64 65536) fun v14 =>
 some (v14, h1)) h1 fun v15 h16 =>
 optS (pickV v10 (.bool true) v15) fun v17 =>
 ifS v17 (
 some (.tuple [(.int .i64 0), (.int .i64 5)], h16)) (
 nilS a0 fun v18 =>
 addrS 2 v18 fun v19 =>
 load1 v19 h16 fun v20 =>
 intS .add v20 a1 fun v21 =>
 nilS a0 fun v22 =>
 addrS 2 v22 fun v23 =>
 storeC v23 v21 h16 fun h24 =>
 nilS a0 fun v25 =>
 addrS 3 v25 fun v26 =>
 load1 v26 h24 fun v27 =>
 intS .add v27 (.int .i64 1) fun v28 =>
 nilS a0 fun v29 =>
 addrS 3 v29 fun v30 =>
 storeC v30 v28 h24 fun h31 =>
 nilS a0 fun v32 =>
 addrS 5 v32 fun v33 =>
 load1 v33 h31 fun v34 =>
 bindS (lenSl v34 fun v => some (v, h31)) fun v35 h36 =>
 intS .eql v35 (.int .i64 0) fun v37 =>
 ifS v37 (
 nilS a0 fun v38 =>
 addrS 4 v38 fun v39 =>
 load1 v39 h36 fun v40 =>
 bindS (bldSl h36 [(0, a1)] 3 1 1 (.int .i64 0)) fun v41 h42 =>
 bindS (appS 3 8 1 v40 v41 h42) fun v43 h44 =>
 nilS a0 fun v45 =>
 addrS 4 v45 fun v46 =>
 storeC v46 v43 h44 fun h47 =>
 nilS a0 fun v48 =>
 addrS 4 v48 fun v49 =>
 load1 v49 h47 fun v50 =>
 bindS (lenSl v50 fun v => some (v, h47)) fun v51 h52 =>
 some (.tuple [v51, (.int .i64 0)], h52)) (
 bindS (ih 200 [a0] h36) fun v53 h54 =>
 nilS a0 fun v55 =>
 addrS 4 v55 fun v56 =>
 load1 v56 h54 fun v57 =>
 intS .sub v53 (.int .i64 1) fun v58 =>
 idxS 1 v57 v58 fun v59 =>
 storeC v59 a1 h54 fun h60 =>
 some (.tuple [v53, (.int .i64 0)], h60)))))
def B170 (ih : II) (a0 a1 : V) (h : Hp) : VH :=
 bindS (lenSl a0 fun v => some (v, h)) fun v0 h1 =>
 ih 65 [a0, a1, v0, (.int .i64 0)] h1
def B65 (ih : II) (a0 a1 a7 a8 : V) (h : Hp) : VH :=
 intS .lss a8 a7 fun v2 =>
 ifS v2 (
 idxS 2 a0 a8 fun v3 =>
 loadN 2 v3 h fun v4 =>
 bindS (dynE ih a1 [v4] h) fun v5 h6 =>
 ifS v5 (
 some (a8, h6)) (
 intS .add a8 (.int .i64 1) fun v7 =>
 ih 65 [a0, a1, a7, v7] h6)) (
 some ((.int .i64 (-1)), h))
def B202 (ih : II) (a0 : V) (h : Hp) : VH :=
 ih 67 [a0, (.int .i64 0), (.int .i64 0)] h
def B67 (ih : II) (a0 a3 a4 : V) (h : Hp) : VH :=
 nilS a0 fun v0 =>
 addrS 0 v0 fun v1 =>
 load1 v1 h fun v2 =>
 bindS (lenSl v2 fun v => some (v, h)) fun v3 h4 =>
 intS .lss a4 v3 fun v5 =>
 ifS v5 (
 nilS a0 fun v6 =>
 addrS 0 v6 fun v7 =>
 load1 v7 h4 fun v8 =>
 idxS 4 v8 a4 fun v9 =>
 addrS 2 v9 fun v10 =>
 addrS 0 v10 fun v11 =>
 load1 v11 h4 fun v12 =>
 intS .neq v12 (.int .u8 0) fun v13 =>
 ifS v13 (
 intS .add a3 (.int .i64 1) fun v14 =>
 ih 69 [a0, v14, a4] h4) (
 ih 69 [a0, a3, a4] h4)) (
 some (a3, h4))
def B69 (ih : II) (a0 a3 a4 : V) (h : Hp) : VH :=
 intS .add a4 (.int .i64 1) fun v15 =>
 ih 67 [a0, a3, v15] h
def B204 (ih : II) (a0 a1 : V) (h : Hp) : VH :=
 bindS (lenSl a0 fun v => some (v, h)) fun v0 h1 =>
 ih 71 [a0, a1, v0, (.int .i64 0)] h1
def B71 (ih : II) (a0 a1 a7 a8 : V) (h : Hp) : VH :=
 intS .lss a8 a7 fun v2 =>
 ifS v2 (
 idxS 4 a0 a8 fun v3 =>
 loadN 4 v3 h fun v4 =>
 bindS (dynE ih a1 [v4] h) fun v5 h6 =>
 ifS v5 (
 some (a8, h6)) (
 intS .add a8 (.int .i64 1) fun v7 =>
 ih 71 [a0, a1, a7, v7] h6)) (
 some ((.int .i64 (-1)), h))
def labs : Tr Lab := (((((((((((((((((((((((((((((((((((((Tr.nil.set 0 (12, 58, [0, 4, 5, 6, 7, 12])).set 1 (12, 7475, [0, 4, 5, 6, 7, 8, 12])).set 2 (10, 58, [0, 5, 6, 7, 8, 9, 13])).set 3 (6, 31, [0])).set 4 (5, 2042, [1, 3, 5, 7, 8, 9])).set 5 (5, 4090, [1, 3, 5, 7, 8, 78, 79, 80])).set 6 (5, 65530, [1, 3, 5, 7, 23])).set 7 (5, 131066, [1, 3, 5, 7, 25])).set 8 (5, 524243, [1, 3, 5, 7, 23])).set 9 (31, 7, [4])).set 10 (29, 255, [10])).set 11 (28, 127, [10])).set 12 (27, 127, [])).set 13 (25, 58, [0, 1, 2, 6, 8])).set 14 (23, 58, [0, 1, 4, 6])).set 15 (23, 7461, [0, 4, 6])).set 16 (22, 63, [4, 8, 9])).set 17 (70, 1018, [0, 4, 5, 8, 9])).set 18 (70, 8147, [0, 4, 5, 8, 9])).set 19 (69, 58, [0, 3, 4])).set 20 (65, 122, [3, 12, 13, 14])).set 21 (65, 1959, [3, 12, 13, 14])).set 22 (63, 127, [0, 4, 5])).set 23 (63, 8110, [0, 4, 5, 83, 84, 85])).set 24 (54, 124, [0, 1, 2, 6, 8])).set 25 (54, 511, [0, 2, 6, 8])).set 26 (54, 8186, [0, 2, 6, 8, 9])).set 27 (59, 26, [0, 3, 5])).set 28 (52, 63, [0, 1, 6, 8])).set 29 (96, 26, [0, 3, 5])).set 30 (91, 122, [0, 1, 5, 6])).set 31 (91, 979, [0, 1, 5, 6])).set 32 (85, 26, [0, 1, 7, 8])).set 33 (101, 58, [0, 3, 4])).set 34 (101, 467, [0, 3, 4])).set 35 (102, 26, [0, 1, 7, 8])).set 36 (100, 254, [1, 3, 5, 6]))
def cuts3 : Cuts := []
theorem fit3 : cutsFit labs 3 cuts3 = true := by kernel_rfl
def cuts9 : Cuts := []
theorem fit9 : cutsFit labs 9 cuts9 = true := by kernel_rfl
def cuts12 : Cuts := [(58, 0, [0, 4, 5, 6, 7, 12]), (7475, 1, [0, 4, 5, 6, 7, 8, 12])]
theorem fit12 : cutsFit labs 12 cuts12 = true := by kernel_rfl
def cuts10 : Cuts := [(58, 2, [0, 5, 6, 7, 8, 9, 13])]
theorem fit10 : cutsFit labs 10 cuts10 = true := by kernel_rfl
def cuts8 : Cuts := []
theorem fit8 : cutsFit labs 8 cuts8 = true := by kernel_rfl
def cuts7 : Cuts := []
theorem fit7 : cutsFit labs 7 cuts7 = true := by kernel_rfl
def cuts6 : Cuts := [(31, 3, [0])]
theorem fit6 : cutsFit labs 6 cuts6 = true := by kernel_rfl
def cuts5 : Cuts := [(2042, 4, [1, 3, 5, 7, 8, 9]), (4090, 5, [1, 3, 5, 7, 8, 78, 79, 80]), (65530, 6, [1, 3, 5, 7, 23]), (131066, 7, [1, 3, 5, 7, 25]), (524243, 8, [1, 3, 5, 7, 23])]
theorem fit5 : cutsFit labs 5 cuts5 = true := by kernel_rfl
def cuts31 : Cuts := [(7, 9, [4])]
theorem fit31 : cutsFit labs 31 cuts31 = true := by kernel_rfl
def cuts30 : Cuts := []
theorem fit30 : cutsFit labs 30 cuts30 = true := by kernel_rfl
def cuts38 : Cuts := []
theorem fit38 : cutsFit labs 38 cuts38 = true := by kernel_rfl
def cuts37 : Cuts := []
theorem fit37 : cutsFit labs 37 cuts37 = true := by kernel_rfl
def cuts35 : Cuts := []
theorem fit35 : cutsFit labs 35 cuts35 = true := by kernel_rfl
def cuts36 : Cuts := []
theorem fit36 : cutsFit labs 36 cuts36 = true := by kernel_rfl
def cuts41 : Cuts := []
theorem fit41 : cutsFit labs 41 cuts41 = true := by kernel_rfl
def cuts33 : Cuts := []
theorem fit33 : cutsFit labs 33 cuts33 = true := by kernel_rfl
def cuts32 : Cuts := []
theorem fit32 : cutsFit labs 32 cuts32 = true := by kernel_rfl
def cuts34 : Cuts := []
theorem fit34 : cutsFit labs 34 cuts34 = true := by kernel_rfl
def cuts29 : Cuts := [(255, 10, [10])]
theorem fit29 : cutsFit labs 29 cuts29 = true := by kernel_rfl
def cuts28 : Cuts := [(127, 11, [10])]
theorem fit28 : cutsFit labs 28 cuts28 = true := by kernel_rfl
def cuts21 : Cuts := []
theorem fit21 : cutsFit labs 21 cuts21 = true := by kernel_rfl
def cuts27 : Cuts := [(127, 12, [])]
theorem fit27 : cutsFit labs 27 cuts27 = true := by kernel_rfl
def cuts26 : Cuts := []
theorem fit26 : cutsFit labs 26 cuts26 = true := by kernel_rfl
def cuts25 : Cuts := [(58, 13, [0, 1, 2, 6, 8])]
theorem fit25 : cutsFit labs 25 cuts25 = true := by kernel_rfl
def cuts24 : Cuts := []
theorem fit24 : cutsFit labs 24 cuts24 = true := by kernel_rfl
def cuts23 : Cuts := [(58, 14, [0, 1, 4, 6]), (7461, 15, [0, 4, 6])]
theorem fit23 : cutsFit labs 23 cuts23 = true := by kernel_rfl
def cuts22 : Cuts := [(63, 16, [4, 8, 9])]
theorem fit22 : cutsFit labs 22 cuts22 = true := by kernel_rfl
def cuts20 : Cuts := []
theorem fit20 : cutsFit labs 20 cuts20 = true := by kernel_rfl
def cuts19 : Cuts := []
theorem fit19 : cutsFit labs 19 cuts19 = true := by kernel_rfl
def cuts18 : Cuts := []
theorem fit18 : cutsFit labs 18 cuts18 = true := by kernel_rfl
def cuts17 : Cuts := []
theorem fit17 : cutsFit labs 17 cuts17 = true := by kernel_rfl
def cuts16 : Cuts := []
theorem fit16 : cutsFit labs 16 cuts16 = true := by kernel_rfl
def cuts72 : Cuts := []
theorem fit72 : cutsFit labs 72 cuts72 = true := by kernel_rfl
def cuts71 : Cuts := []
theorem fit71 : cutsFit labs 71 cuts71 = true := by kernel_rfl
def cuts76 : Cuts := []
theorem fit76 : cutsFit labs 76 cuts76 = true := by kernel_rfl
def cuts75 : Cuts := []
theorem fit75 : cutsFit labs 75 cuts75 = true := by kernel_rfl
def cuts74 : Cuts := []
theorem fit74 : cutsFit labs 74 cuts74 = true := by kernel_rfl
def cuts73 : Cuts := []
theorem fit73 : cutsFit labs 73 cuts73 = true := by kernel_rfl
def cuts70 : Cuts := [(1018, 17, [0, 4, 5, 8, 9]), (8147, 18, [0, 4, 5, 8, 9])]
theorem fit70 : cutsFit labs 70 cuts70 = true := by kernel_rfl
def cuts69 : Cuts := [(58, 19, [0, 3, 4])]
theorem fit69 : cutsFit labs 69 cuts69 = true := by kernel_rfl
def cuts68 : Cuts := []
theorem fit68 : cutsFit labs 68 cuts68 = true := by kernel_rfl
def cuts67 : Cuts := []
theorem fit67 : cutsFit labs 67 cuts67 = true := by kernel_rfl
def cuts66 : Cuts := []
theorem fit66 : cutsFit labs 66 cuts66 = true := by kernel_rfl
def cuts60 : Cuts := []
theorem fit60 : cutsFit labs 60 cuts60 = true := by kernel_rfl
def cuts55 : Cuts := []
theorem fit55 : cutsFit labs 55 cuts55 = true := by kernel_rfl
def cuts64 : Cuts := []
theorem fit64 : cutsFit labs 64 cuts64 = true := by kernel_rfl
def cuts65 : Cuts := [(122, 20, [3, 12, 13, 14]), (1959, 21, [3, 12, 13, 14])]
theorem fit65 : cutsFit labs 65 cuts65 = true := by kernel_rfl
def cuts63 : Cuts := [(127, 22, [0, 4, 5]), (8110, 23, [0, 4, 5, 83, 84, 85])]
theorem fit63 : cutsFit labs 63 cuts63 = true := by kernel_rfl
def cuts62 : Cuts := []
theorem fit62 : cutsFit labs 62 cuts62 = true := by kernel_rfl
def cuts61 : Cuts := []
theorem fit61 : cutsFit labs 61 cuts61 = true := by kernel_rfl
def cuts51 : Cuts := []
theorem fit51 : cutsFit labs 51 cuts51 = true := by kernel_rfl
def cuts54 : Cuts := [(124, 24, [0, 1, 2, 6, 8]), (511, 25, [0, 2, 6, 8]), (8186, 26, [0, 2, 6, 8, 9])]
theorem fit54 : cutsFit labs 54 cuts54 = true := by kernel_rfl
def cuts59 : Cuts := [(26, 27, [0, 3, 5])]
theorem fit59 : cutsFit labs 59 cuts59 = true := by kernel_rfl
def cuts52 : Cuts := [(63, 28, [0, 1, 6, 8])]
theorem fit52 : cutsFit labs 52 cuts52 = true := by kernel_rfl
def cuts58 : Cuts := []
theorem fit58 : cutsFit labs 58 cuts58 = true := by kernel_rfl
def cuts57 : Cuts := []
theorem fit57 : cutsFit labs 57 cuts57 = true := by kernel_rfl
def cuts53 : Cuts := []
theorem fit53 : cutsFit labs 53 cuts53 = true := by kernel_rfl
def cuts50 : Cuts := []
theorem fit50 : cutsFit labs 50 cuts50 = true := by kernel_rfl
def cuts86 : Cuts := []
theorem fit86 : cutsFit labs 86 cuts86 = true := by kernel_rfl
def cuts96 : Cuts := [(26, 29, [0, 3, 5])]
theorem fit96 : cutsFit labs 96 cuts96 = true := by kernel_rfl
def cuts94 : Cuts := []
theorem fit94 : cutsFit labs 94 cuts94 = true := by kernel_rfl
def cuts84 : Cuts := []
theorem fit84 : cutsFit labs 84 cuts84 = true := by kernel_rfl
def cuts95 : Cuts := []
theorem fit95 : cutsFit labs 95 cuts95 = true := by kernel_rfl
def cuts93 : Cuts := []
theorem fit93 : cutsFit labs 93 cuts93 = true := by kernel_rfl
def cuts92 : Cuts := []
theorem fit92 : cutsFit labs 92 cuts92 = true := by kernel_rfl
def cuts87 : Cuts := []
theorem fit87 : cutsFit labs 87 cuts87 = true := by kernel_rfl
def cuts90 : Cuts := []
theorem fit90 : cutsFit labs 90 cuts90 = true := by kernel_rfl
def cuts91 : Cuts := [(122, 30, [0, 1, 5, 6]), (979, 31, [0, 1, 5, 6])]
theorem fit91 : cutsFit labs 91 cuts91 = true := by kernel_rfl
def cuts89 : Cuts := []
theorem fit89 : cutsFit labs 89 cuts89 = true := by kernel_rfl
def cuts88 : Cuts := []
theorem fit88 : cutsFit labs 88 cuts88 = true := by kernel_rfl
def cuts83 : Cuts := []
theorem fit83 : cutsFit labs 83 cuts83 = true := by kernel_rfl
def cuts85 : Cuts := [(26, 32, [0, 1, 7, 8])]
theorem fit85 : cutsFit labs 85 cuts85 = true := by kernel_rfl
def cuts101 : Cuts := [(58, 33, [0, 3, 4]), (467, 34, [0, 3, 4])]
theorem fit101 : cutsFit labs 101 cuts101 = true := by kernel_rfl
def cuts102 : Cuts := [(26, 35, [0, 1, 7, 8])]
theorem fit102 : cutsFit labs 102 cuts102 = true := by kernel_rfl
end
end
end Go.MS
end
