import Derived.Test.YtdiiilfokajddaaGreatDoorLMidJJ
import Derived.Test.YtdiiilfokajddaaGreatDoorLMidZ
import Derived.Test.YtdiiilfokajddaaGreatDoorProg
import Derived.KernelRfl
set_option linter.all false
open Go Go.Mid Go.Proofs
set_option maxRecDepth 100000
set_option linter.unusedVariables false
namespace Go.LN
noncomputable def us (l : List Nat) : List UInt8 := l.map UInt8.ofNat
noncomputable def U (t : TypeId) : Option TypeDesc := Tryz.prog.underlying t
noncomputable def B6 (ih : Nat → List V → Hp → VH) (h : Hp) : VH :=
bindS (ih 16 [(.int .u8 (.ofNat 1)), (.str (us [97])), (.int .i64 (.ofNat 0)), (.int .i64 (.ofNat 1))] h) fun v0 h1 =>
bindS (ih 16 [(.int .u8 (.ofNat 2)), (.str (us [101, 110, 100])), (.int .i64 (.ofNat 0)), (.int .i64 (.ofNat 2))] h1) fun v2 h3 =>
bindS (ih 16 [(.int .u8 (.ofNat 6)), (.str (us [])), (.int .i64 (.ofNat 0)), (.int .i64 (.ofNat 2))] h3) fun v4 h5 =>
bindS (bldSl h5 [(0, v0), (1, v2), (2, v4)] 25 3 4 (.agg [(.int .u8 (.ofNat 0)), (.str (us [])), (.int .i64 (.ofNat 0)), (.int .i64 (.ofNat 0))])) fun v6 h7 =>
bindS (ih 14 [(.str (us [97, 32, 45, 45, 32, 98, 10, 101, 110, 100])), v6] h7) fun v8 h9 =>
guardS v8 true (bindS (ih 16 [(.int .u8 (.ofNat 5)), (.str (us [120, 93, 93, 10])), (.int .i64 (.ofNat 0)), (.int .i64 (.ofNat 1))] h9) fun v10 h11 =>
some (v10, h11)) h9 fun v12 h13 =>
guardS v8 true (bindS (ih 16 [(.int .u8 (.ofNat 6)), (.str (us [])), (.int .i64 (.ofNat 0)), (.int .i64 (.ofNat 3))] h13) fun v14 h15 =>
some (v14, h15)) h13 fun v16 h17 =>
guardS v8 true (bindS (bldSl h17 [(0, v12), (1, v16)] 25 2 4 (.agg [(.int .u8 (.ofNat 0)), (.str (us [])), (.int .i64 (.ofNat 0)), (.int .i64 (.ofNat 0))])) fun v18 h19 =>
some (v18, h19)) h17 fun v20 h21 =>
guardS v8 true (bindS (ih 14 [(.str (us [91, 61, 61, 91, 13, 10, 120, 93, 93, 10, 93, 61, 61, 93])), v20] h21) fun v22 h23 =>
some (v22, h23)) h21 fun v24 h25 =>
optS (pickV v8 v24 (.bool false)) fun v26 =>
guardS v26 true (bindS (ih 16 [(.int .u8 (.ofNat 6)), (.str (us [])), (.int .i64 (.ofNat 0)), (.int .i64 (.ofNat 1))] h25) fun v27 h28 =>
some (v27, h28)) h25 fun v29 h30 =>
guardS v26 true (bindS (bldSl h30 [(0, v29)] 25 1 4 (.agg [(.int .u8 (.ofNat 0)), (.str (us [])), (.int .i64 (.ofNat 0)), (.int .i64 (.ofNat 0))])) fun v31 h32 =>
some (v31, h32)) h30 fun v33 h34 =>
guardS v26 true (bindS (ih 14 [(.str (us [])), v33] h34) fun v35 h36 =>
some (v35, h36)) h34 fun v37 h38 =>
optS (pickV v26 v37 (.bool false)) fun v39 =>
guardS v39 true (bindS (ih 16 [(.int .u8 (.ofNat 1)), (.str (us [120])), (.int .i64 (.ofNat 0)), (.int .i64 (.ofNat 5))] h38) fun v40 h41 =>
some (v40, h41)) h38 fun v42 h43 =>
guardS v39 true (bindS (ih 16 [(.int .u8 (.ofNat 6)), (.str (us [])), (.int .i64 (.ofNat 0)), (.int .i64 (.ofNat 5))] h43) fun v44 h45 =>
some (v44, h45)) h43 fun v46 h47 =>
guardS v39 true (bindS (bldSl h47 [(0, v42), (1, v46)] 25 2 4 (.agg [(.int .u8 (.ofNat 0)), (.str (us [])), (.int .i64 (.ofNat 0)), (.int .i64 (.ofNat 0))])) fun v48 h49 =>
some (v48, h49)) h47 fun v50 h51 =>
guardS v39 true (bindS (ih 14 [(.str (us [45, 45, 91, 61, 91, 10, 93, 93, 93, 61, 93, 13, 13, 10, 10, 13, 120])), v50] h51) fun v52 h53 =>
some (v52, h53)) h51 fun v54 h55 =>
optS (pickV v39 v54 (.bool false)) fun v56 =>
guardS v56 true (bindS (ih 16 [(.int .u8 (.ofNat 5)), (.str (us [10])), (.int .i64 (.ofNat 0)), (.int .i64 (.ofNat 1))] h55) fun v57 h58 =>
some (v57, h58)) h55 fun v59 h60 =>
guardS v56 true (bindS (ih 16 [(.int .u8 (.ofNat 6)), (.str (us [])), (.int .i64 (.ofNat 0)), (.int .i64 (.ofNat 3))] h60) fun v61 h62 =>
some (v61, h62)) h60 fun v63 h64 =>
guardS v56 true (bindS (bldSl h64 [(0, v59), (1, v63)] 25 2 4 (.agg [(.int .u8 (.ofNat 0)), (.str (us [])), (.int .i64 (.ofNat 0)), (.int .i64 (.ofNat 0))])) fun v65 h66 =>
some (v65, h66)) h64 fun v67 h68 =>
guardS v56 true (bindS (ih 14 [(.str (us [91, 91, 10, 10, 93, 93])), v67] h68) fun v69 h70 =>
some (v69, h70)) h68 fun v71 h72 =>
optS (pickV v56 v71 (.bool false)) fun v73 =>
bindS (bldSl h72 [(0, (.str (us [49, 46, 53]))), (1, (.str (us [49, 101, 51]))), (2, (.str (us [97, 47, 98]))), (3, (.str (us [57, 50, 50, 51, 51, 55, 50, 48, 51, 54, 56, 53, 52, 55, 55, 53, 56, 48, 56]))), (4, (.str (us [46, 53]))), (5, (.str (us [49, 46, 46, 50]))), (6, (.str (us [48, 120, 49, 112, 52]))), (7, (.str (us [48, 120, 46, 49]))), (8, (.str (us [49, 101, 43, 53]))), (9, (.str (us [50, 94, 51]))), (10, (.str (us [51, 46]))), (11, (.str (us [48, 120, 49, 46, 56])))] 9 12 1 (.str (us []))) fun v74 h75 =>
lenSl v74 fun v76 =>
ih 1 [v73, v74, v76, (.int .i64 (.ofNat 0))] h75
noncomputable def G6 : Sh := fun ih vs h => nilE (B6 ih  h) vs
noncomputable def B1 (ih : Nat → List V → Hp → VH) (a1 a44 a45 a46 : V) (h : Hp) : VH :=
intS .lss a46 a45 fun v77 =>
ifS v77 (
idxS 1 a44 a46 fun v78 =>
load1 v78 h fun v79 =>
bindS (ih 18 [v79, (.int .i64 (.ofNat 31)), (.int .i64 (.ofNat 1))] h) fun v80 h81 =>
notS v80 fun v82 =>
ifS v82 (
some ((.bool false), h81)) (
intS .add a46 (.int .i64 (.ofNat 1)) fun v83 =>
ih 1 [a1, a44, a45, v83] h81)) (
bindS (bldSl h [(0, (.str (us [51, 120]))), (1, (.str (us [48, 120]))), (2, (.str (us [64]))), (3, (.str (us [91, 61, 120]))), (4, (.str (us [48, 120, 103]))), (5, (.str (us [49, 50, 95]))), (6, (.str (us [39, 92, 113, 39]))), (7, (.str (us [34, 92, 52, 48, 48, 34]))), (8, (.str (us [33]))), (9, (.str (us [0]))), (10, (.str (us [195, 164])))] 9 11 1 (.str (us []))) fun v84 h85 =>
lenSl v84 fun v86 =>
ih 3 [a1, v84, v86, (.int .i64 (.ofNat 0))] h85)
noncomputable def G1 : Sh := fun ih vs h => consE (fun a1 => consE (fun a44 => consE (fun a45 => consE (fun a46 => nilE (B1 ih a1 a44 a45 a46 h))))) vs
noncomputable def B3 (ih : Nat → List V → Hp → VH) (a1 a54 a55 a56 : V) (h : Hp) : VH :=
intS .lss a56 a55 fun v87 =>
ifS v87 (
idxS 1 a54 a56 fun v88 =>
load1 v88 h fun v89 =>
bindS (ih 18 [v89, (.int .i64 (.ofNat 30)), (.int .i64 (.ofNat 1))] h) fun v90 h91 =>
notS v90 fun v92 =>
ifS v92 (
some ((.bool false), h91)) (
intS .add a56 (.int .i64 (.ofNat 1)) fun v93 =>
ih 3 [a1, a54, a55, v93] h91)) (
bindS (ih 18 [(.str (us [10, 34, 97])), (.int .i64 (.ofNat 30)), (.int .i64 (.ofNat 2))] h) fun v94 h95 =>
guardS v94 true (bindS (ih 18 [(.str (us [45, 45, 91, 91, 10, 10])), (.int .i64 (.ofNat 30)), (.int .i64 (.ofNat 1))] h95) fun v96 h97 =>
some (v96, h97)) h95 fun v98 h99 =>
optS (pickV v94 v98 (.bool false)) fun v100 =>
guardS v100 true (bindS (ih 18 [(.str (us [120, 10, 91, 91, 10, 10])), (.int .i64 (.ofNat 30)), (.int .i64 (.ofNat 2))] h99) fun v101 h102 =>
some (v101, h102)) h99 fun v103 h104 =>
optS (pickV v100 v103 (.bool false)) fun v105 =>
guardS v105 true (bindS (ih 18 [(.str (us [39, 97, 10, 98, 39])), (.int .i64 (.ofNat 30)), (.int .i64 (.ofNat 1))] h104) fun v106 h107 =>
some (v106, h107)) h104 fun v108 h109 =>
optS (pickV v105 v108 (.bool false)) fun v110 =>
guardS v110 true (bindS (ih 16 [(.int .u8 (.ofNat 5)), (.str (us [97])), (.int .i64 (.ofNat 0)), (.int .i64 (.ofNat 1))] h109) fun v111 h112 =>
some (v111, h112)) h109 fun v113 h114 =>
guardS v110 true (bindS (ih 16 [(.int .u8 (.ofNat 1)), (.str (us [120])), (.int .i64 (.ofNat 0)), (.int .i64 (.ofNat 3))] h114) fun v115 h116 =>
some (v115, h116)) h114 fun v117 h118 =>
guardS v110 true (bindS (ih 16 [(.int .u8 (.ofNat 6)), (.str (us [])), (.int .i64 (.ofNat 0)), (.int .i64 (.ofNat 3))] h118) fun v119 h120 =>
some (v119, h120)) h118 fun v121 h122 =>
guardS v110 true (bindS (bldSl h122 [(0, v113), (1, v117), (2, v121)] 25 3 4 (.agg [(.int .u8 (.ofNat 0)), (.str (us [])), (.int .i64 (.ofNat 0)), (.int .i64 (.ofNat 0))])) fun v123 h124 =>
some (v123, h124)) h122 fun v125 h126 =>
guardS v110 true (bindS (ih 14 [(.str (us [39, 92, 122, 10, 10, 32, 97, 39, 32, 120])), v125] h126) fun v127 h128 =>
some (v127, h128)) h126 fun v129 h130 =>
optS (pickV v110 v129 (.bool false)) fun v131 =>
guardS v131 true (bindS (ih 16 [(.int .u8 (.ofNat 5)), (.str (us [97, 10, 98])), (.int .i64 (.ofNat 0)), (.int .i64 (.ofNat 1))] h130) fun v132 h133 =>
some (v132, h133)) h130 fun v134 h135 =>
guardS v131 true (bindS (ih 16 [(.int .u8 (.ofNat 1)), (.str (us [121])), (.int .i64 (.ofNat 0)), (.int .i64 (.ofNat 3))] h135) fun v136 h137 =>
some (v136, h137)) h135 fun v138 h139 =>
guardS v131 true (bindS (ih 16 [(.int .u8 (.ofNat 6)), (.str (us [])), (.int .i64 (.ofNat 0)), (.int .i64 (.ofNat 3))] h139) fun v140 h141 =>
some (v140, h141)) h139 fun v142 h143 =>
guardS v131 true (bindS (bldSl h143 [(0, v134), (1, v138), (2, v142)] 25 3 4 (.agg [(.int .u8 (.ofNat 0)), (.str (us [])), (.int .i64 (.ofNat 0)), (.int .i64 (.ofNat 0))])) fun v144 h145 =>
some (v144, h145)) h143 fun v146 h147 =>
guardS v131 true (bindS (ih 14 [(.str (us [39, 97, 92, 13, 10, 98, 39, 10, 121])), v146] h147) fun v148 h149 =>
some (v148, h149)) h147 fun v150 h151 =>
optS (pickV v131 v150 (.bool false)) fun v152 =>
bindS (ih 16 [(.int .u8 (.ofNat 4)), (.str (us [])), (.int .i64 (.negSucc 0)), (.int .i64 (.ofNat 1))] h151) fun v153 h154 =>
bindS (ih 16 [(.int .u8 (.ofNat 4)), (.str (us [])), (.int .i64 (.ofNat 9223372036854775807)), (.int .i64 (.ofNat 1))] h154) fun v155 h156 =>
bindS (ih 16 [(.int .u8 (.ofNat 4)), (.str (us [])), (.int .i64 (.ofNat 7)), (.int .i64 (.ofNat 1))] h156) fun v157 h158 =>
bindS (ih 16 [(.int .u8 (.ofNat 6)), (.str (us [])), (.int .i64 (.ofNat 0)), (.int .i64 (.ofNat 1))] h158) fun v159 h160 =>
bindS (bldSl h160 [(0, v153), (1, v155), (2, v157), (3, v159)] 25 4 4 (.agg [(.int .u8 (.ofNat 0)), (.str (us [])), (.int .i64 (.ofNat 0)), (.int .i64 (.ofNat 0))])) fun v161 h162 =>
bindS (ih 14 [(.str (us [48, 120, 102, 102, 102, 102, 102, 102, 102, 102, 102, 102, 102, 102, 102, 102, 102, 102, 32, 57, 50, 50, 51, 51, 55, 50, 48, 51, 54, 56, 53, 52, 55, 55, 53, 56, 48, 55, 32, 48, 48, 55])), v161] h162) fun v163 h164 =>
guardS v163 true (bindS (ih 16 [(.int .u8 (.ofNat 6)), (.str (us [])), (.int .i64 (.ofNat 0)), (.int .i64 (.ofNat 2))] h164) fun v165 h166 =>
some (v165, h166)) h164 fun v167 h168 =>
guardS v163 true (bindS (bldSl h168 [(0, v167)] 25 1 4 (.agg [(.int .u8 (.ofNat 0)), (.str (us [])), (.int .i64 (.ofNat 0)), (.int .i64 (.ofNat 0))])) fun v169 h170 =>
some (v169, h170)) h168 fun v171 h172 =>
guardS v163 true (bindS (ih 14 [(.str (us [45, 45, 91, 120, 10])), v171] h172) fun v173 h174 =>
some (v173, h174)) h172 fun v175 h176 =>
optS (pickV v163 v175 (.bool false)) fun v177 =>
guardS v177 true (bindS (ih 16 [(.int .u8 (.ofNat 1)), (.str (us [97])), (.int .i64 (.ofNat 0)), (.int .i64 (.ofNat 1))] h176) fun v178 h179 =>
some (v178, h179)) h176 fun v180 h181 =>
guardS v177 true (bindS (ih 16 [(.int .u8 (.ofNat 3)), (.str (us [46])), (.int .i64 (.ofNat 0)), (.int .i64 (.ofNat 1))] h181) fun v182 h183 =>
some (v182, h183)) h181 fun v184 h185 =>
guardS v177 true (bindS (ih 16 [(.int .u8 (.ofNat 1)), (.str (us [98])), (.int .i64 (.ofNat 0)), (.int .i64 (.ofNat 1))] h185) fun v186 h187 =>
some (v186, h187)) h185 fun v188 h189 =>
guardS v177 true (bindS (ih 16 [(.int .u8 (.ofNat 3)), (.str (us [58])), (.int .i64 (.ofNat 0)), (.int .i64 (.ofNat 1))] h189) fun v190 h191 =>
some (v190, h191)) h189 fun v192 h193 =>
guardS v177 true (bindS (ih 16 [(.int .u8 (.ofNat 1)), (.str (us [99])), (.int .i64 (.ofNat 0)), (.int .i64 (.ofNat 1))] h193) fun v194 h195 =>
some (v194, h195)) h193 fun v196 h197 =>
guardS v177 true (bindS (ih 16 [(.int .u8 (.ofNat 3)), (.str (us [58, 58])), (.int .i64 (.ofNat 0)), (.int .i64 (.ofNat 1))] h197) fun v198 h199 =>
some (v198, h199)) h197 fun v200 h201 =>
guardS v177 true (bindS (ih 16 [(.int .u8 (.ofNat 3)), (.str (us [46, 46, 46])), (.int .i64 (.ofNat 0)), (.int .i64 (.ofNat 1))] h201) fun v202 h203 =>
some (v202, h203)) h201 fun v204 h205 =>
guardS v177 true (bindS (ih 16 [(.int .u8 (.ofNat 3)), (.str (us [60, 60])), (.int .i64 (.ofNat 0)), (.int .i64 (.ofNat 1))] h205) fun v206 h207 =>
some (v206, h207)) h205 fun v208 h209 =>
guardS v177 true (bindS (ih 16 [(.int .u8 (.ofNat 6)), (.str (us [])), (.int .i64 (.ofNat 0)), (.int .i64 (.ofNat 1))] h209) fun v210 h211 =>
some (v210, h211)) h209 fun v212 h213 =>
guardS v177 true (bindS (bldSl h213 [(0, v180), (1, v184), (2, v188), (3, v192), (4, v196), (5, v200), (6, v204), (7, v208), (8, v212)] 25 9 4 (.agg [(.int .u8 (.ofNat 0)), (.str (us [])), (.int .i64 (.ofNat 0)), (.int .i64 (.ofNat 0))])) fun v214 h215 =>
some (v214, h215)) h213 fun v216 h217 =>
guardS v177 true (bindS (ih 14 [(.str (us [97, 46, 98, 58, 99, 58, 58, 46, 46, 46, 60, 60])), v216] h217) fun v218 h219 =>
some (v218, h219)) h217 fun v220 h221 =>
optS (pickV v177 v220 (.bool false)) fun v222 =>
bindS (mkS 5 1 1 (.int .u8 (.ofNat 0)) (.int .i64 (.ofNat 65536)) (.int .i64 (.ofNat 65536)) h221) fun v223 h224 =>
lenSl v223 fun v225 =>
ih 5 [a1, v152, v222, v223, v225, (.int .i64 (.ofNat 0))] h224)
noncomputable def G3 : Sh := fun ih vs h => consE (fun a1 => consE (fun a54 => consE (fun a55 => consE (fun a56 => nilE (B3 ih a1 a54 a55 a56 h))))) vs
noncomputable def B5 (ih : Nat → List V → Hp → VH) (a1 a6 a7 a8 a114 a115 : V) (h : Hp) : VH :=
intS .lss a115 a114 fun v226 =>
ifS v226 (
idxS 1 a8 a115 fun v227 =>
storeC v227 (.int .u8 (.ofNat 120)) h fun h228 =>
intS .add a115 (.int .i64 (.ofNat 1)) fun v229 =>
ih 5 [a1, a6, a7, a8, a114, v229] h228) (
bindS (vh h (b2s h a8)) fun v230 h231 =>
bindS (ih 20 [v230] h231) fun v232 h233 =>
extS 0 v232 fun v234 =>
extS 1 v232 fun v235 =>
newS 33 [(.int .i64 (.ofNat 0)), (.int .i64 (.ofNat 0))] h233 fun v236 h237 =>
storeN 2 v236 v235 h237 fun h238 =>
bindS (slSlK 5 1 (some (.int .i64 (.ofNat 1))) none h238 a8) fun v239 h240 =>
bindS (vh h240 (b2s h240 v239)) fun v241 h242 =>
bindS (ih 20 [v241] h242) fun v243 h244 =>
extS 0 v243 fun v245 =>
extS 1 v243 fun v246 =>
newS 33 [(.int .i64 (.ofNat 0)), (.int .i64 (.ofNat 0))] h244 fun v247 h248 =>
storeN 2 v247 v246 h248 fun h249 =>
bindS (ih 22 [] h249) fun v250 h251 =>
lenSl v250 fun v252 =>
ih 7 [a1, a6, a7, v236, v245, v247, v250, v252, (.int .i64 (.ofNat 0))] h251)
noncomputable def G5 : Sh := fun ih vs h => consE (fun a1 => consE (fun a6 => consE (fun a7 => consE (fun a8 => consE (fun a114 => consE (fun a115 => nilE (B5 ih a1 a6 a7 a8 a114 a115 h))))))) vs
noncomputable def B7 (ih : Nat → List V → Hp → VH) (a1 a6 a7 a11 a12 a13 a135 a136 a137 : V) (h : Hp) : VH :=
intS .lss a137 a136 fun v253 =>
ifS v253 (
idxS 1 a135 a137 fun v254 =>
load1 v254 h fun v255 =>
bindS (ih 24 [v255] h) fun v256 h257 =>
notS v256 fun v258 =>
guardS v258 false (some (v255, h257)) h257 fun v259 h260 =>
guardS v258 false (some (v255, h260)) h260 fun v261 h262 =>
guardS v258 false (bindS (ih 16 [(.int .u8 (.ofNat 2)), v261, (.int .i64 (.ofNat 0)), (.int .i64 (.ofNat 1))] h262) fun v263 h264 =>
some (v263, h264)) h262 fun v265 h266 =>
guardS v258 false (bindS (ih 16 [(.int .u8 (.ofNat 6)), (.str (us [])), (.int .i64 (.ofNat 0)), (.int .i64 (.ofNat 1))] h266) fun v267 h268 =>
some (v267, h268)) h266 fun v269 h270 =>
guardS v258 false (bindS (bldSl h270 [(0, v265), (1, v269)] 25 2 4 (.agg [(.int .u8 (.ofNat 0)), (.str (us [])), (.int .i64 (.ofNat 0)), (.int .i64 (.ofNat 0))])) fun v271 h272 =>
some (v271, h272)) h270 fun v273 h274 =>
guardS v258 false (bindS (ih 14 [v259, v273] h274) fun v275 h276 =>
some (v275, h276)) h274 fun v277 h278 =>
guardS v258 false (notS v277 fun v279 =>
some (v279, h278)) h278 fun v280 h281 =>
optS (pickV v258 (.bool true) v280) fun v282 =>
guardS v282 false (some (v255, h281)) h281 fun v283 h284 =>
guardS v282 false (strS .add v283 (.str (us [120])) fun v285 =>
some (v285, h284)) h284 fun v286 h287 =>
guardS v282 false (bindS (ih 24 [v286] h287) fun v288 h289 =>
some (v288, h289)) h287 fun v290 h291 =>
optS (pickV v282 (.bool true) v290) fun v292 =>
ifS v292 (
some ((.bool false), h291)) (
intS .add a137 (.int .i64 (.ofNat 1)) fun v293 =>
ih 7 [a1, a6, a7, a11, a12, a13, a135, a136, v293] h291)) (
guardS a7 true (bindS (ih 16 [(.int .u8 (.ofNat 4)), (.str (us [])), (.int .i64 (.ofNat 14)), (.int .i64 (.ofNat 1))] h) fun v294 h295 =>
some (v294, h295)) h fun v296 h297 =>
guardS a7 true (bindS (ih 16 [(.int .u8 (.ofNat 3)), (.str (us [43])), (.int .i64 (.ofNat 0)), (.int .i64 (.ofNat 1))] h297) fun v298 h299 =>
some (v298, h299)) h297 fun v300 h301 =>
guardS a7 true (bindS (ih 16 [(.int .u8 (.ofNat 4)), (.str (us [])), (.int .i64 (.ofNat 1)), (.int .i64 (.ofNat 1))] h301) fun v302 h303 =>
some (v302, h303)) h301 fun v304 h305 =>
guardS a7 true (bindS (ih 16 [(.int .u8 (.ofNat 6)), (.str (us [])), (.int .i64 (.ofNat 0)), (.int .i64 (.ofNat 1))] h305) fun v306 h307 =>
some (v306, h307)) h305 fun v308 h309 =>
guardS a7 true (bindS (bldSl h309 [(0, v296), (1, v300), (2, v304), (3, v308)] 25 4 4 (.agg [(.int .u8 (.ofNat 0)), (.str (us [])), (.int .i64 (.ofNat 0)), (.int .i64 (.ofNat 0))])) fun v310 h311 =>
some (v310, h311)) h309 fun v312 h313 =>
guardS a7 true (bindS (ih 14 [(.str (us [48, 120, 101, 43, 49])), v312] h313) fun v314 h315 =>
some (v314, h315)) h313 fun v316 h317 =>
optS (pickV a7 v316 (.bool false)) fun v318 =>
guardS v318 true (bindS (ih 18 [(.str (us [48, 120, 49, 112, 43, 52])), (.int .i64 (.ofNat 31)), (.int .i64 (.ofNat 1))] h317) fun v319 h320 =>
some (v319, h320)) h317 fun v321 h322 =>
optS (pickV v318 v321 (.bool false)) fun v323 =>
guardS a1 true (some (a6, h322)) h322 fun v324 h325 =>
optS (pickV a1 v324 (.bool false)) fun v326 =>
guardS v326 true (some (v323, h325)) h325 fun v327 h328 =>
optS (pickV v326 v327 (.bool false)) fun v329 =>
guardS v329 true (loadN 2 a11 h328 fun v330 =>
some (v330, h328)) h328 fun v331 h332 =>
guardS v329 true (bindS (bldStruct h332 [(0, (.int .i64 (.ofNat 3)))] (.agg [(.int .i64 (.ofNat 0)), (.int .i64 (.ofNat 0))]) (some [(0, 1), (1, 1)])) fun v333 h334 =>
some (v333, h334)) h332 fun v335 h336 =>
guardS v329 true (bindS (vh h336 (eqOp .eql (cmpV [(0, .int .i64), (1, .int .i64)] v331 v335))) fun v337 h338 =>
some (v337, h338)) h336 fun v339 h340 =>
optS (pickV v329 v339 (.bool false)) fun v341 =>
guardS v341 true (loadN 2 a13 h340 fun v342 =>
some (v342, h340)) h340 fun v343 h344 =>
guardS v341 true (bindS (bldStruct h344 [] (.agg [(.int .i64 (.ofNat 0)), (.int .i64 (.ofNat 0))]) (some [(0, 1), (1, 1)])) fun v345 h346 =>
some (v345, h346)) h344 fun v347 h348 =>
guardS v341 true (bindS (vh h348 (eqOp .eql (cmpV [(0, .int .i64), (1, .int .i64)] v343 v347))) fun v349 h350 =>
some (v349, h350)) h348 fun v351 h352 =>
optS (pickV v341 v351 (.bool false)) fun v353 =>
guardS v353 true (some (a12, h352)) h352 fun v354 h355 =>
guardS v353 true (lenSl v354 fun v356 =>
some (v356, h355)) h355 fun v357 h358 =>
guardS v353 true (intS .eql v357 (.int .i64 (.ofNat 2)) fun v359 =>
some (v359, h358)) h358 fun v360 h361 =>
optS (pickV v353 v360 (.bool false)) fun v362 =>
guardS v362 true (bindS (ih 28 [] h361) fun v363 h364 =>
some (v363, h364)) h361 fun v365 h366 =>
guardS v362 true (bindS (ih 30 [] h366) fun v367 h368 =>
some (v367, h368)) h366 fun v369 h370 =>
guardS v362 true (bindS (ih 26 [v365, v369] h370) fun v371 h372 =>
some (v371, h372)) h370 fun v373 h374 =>
optS (pickV v362 v373 (.bool false)) fun v375 =>
guardS v375 true (bindS (ih 32 [] h374) fun v376 h377 =>
some (v376, h377)) h374 fun v378 h379 =>
optS (pickV v375 v378 (.bool false)) fun v380 =>
some (v380, h379))
noncomputable def G7 : Sh := fun ih vs h => consE (fun a1 => consE (fun a6 => consE (fun a7 => consE (fun a11 => consE (fun a12 => consE (fun a13 => consE (fun a135 => consE (fun a136 => consE (fun a137 => nilE (B7 ih a1 a6 a7 a11 a12 a13 a135 a136 a137 h)))))))))) vs
noncomputable def B32 (ih : Nat → List V → Hp → VH) (h : Hp) : VH :=
bindS (ih 16 [(.int .u8 (.ofNat 1)), (.str (us [120])), (.int .i64 (.ofNat 0)), (.int .i64 (.ofNat 1))] h) fun v0 h1 =>
bindS (ih 16 [(.int .u8 (.ofNat 3)), (.str (us [61])), (.int .i64 (.ofNat 0)), (.int .i64 (.ofNat 1))] h1) fun v2 h3 =>
bindS (ih 16 [(.int .u8 (.ofNat 4)), (.str (us [])), (.int .i64 (.ofNat 16)), (.int .i64 (.ofNat 1))] h3) fun v4 h5 =>
bindS (ih 16 [(.int .u8 (.ofNat 3)), (.str (us [46, 46])), (.int .i64 (.ofNat 0)), (.int .i64 (.ofNat 1))] h5) fun v6 h7 =>
bindS (ih 16 [(.int .u8 (.ofNat 5)), (.str (us [98])), (.int .i64 (.ofNat 0)), (.int .i64 (.ofNat 1))] h7) fun v8 h9 =>
bindS (ih 16 [(.int .u8 (.ofNat 6)), (.str (us [])), (.int .i64 (.ofNat 0)), (.int .i64 (.ofNat 1))] h9) fun v10 h11 =>
bindS (bldSl h11 [(0, v0), (1, v2), (2, v4), (3, v6), (4, v8), (5, v10)] 25 6 4 (.agg [(.int .u8 (.ofNat 0)), (.str (us [])), (.int .i64 (.ofNat 0)), (.int .i64 (.ofNat 0))])) fun v12 h13 =>
bindS (ih 14 [(.str (us [120, 61, 48, 120, 49, 48, 45, 45, 91, 91, 97, 93, 93, 46, 46, 39, 98, 39])), v12] h13) fun v14 h15 =>
guardS v14 true (bindS (ih 18 [(.str (us [49, 46, 53])), (.int .i64 (.ofNat 31)), (.int .i64 (.ofNat 1))] h15) fun v16 h17 =>
some (v16, h17)) h15 fun v18 h19 =>
optS (pickV v14 v18 (.bool false)) fun v20 =>
guardS v20 true (bindS (ih 24 [(.str (us [101, 110, 100]))] h19) fun v21 h22 =>
some (v21, h22)) h19 fun v23 h24 =>
optS (pickV v20 v23 (.bool false)) fun v25 =>
guardS v25 true (bindS (ih 24 [(.str (us []))] h24) fun v26 h27 =>
some (v26, h27)) h24 fun v28 h29 =>
guardS v25 true (notS v28 fun v30 =>
some (v30, h29)) h29 fun v31 h32 =>
optS (pickV v25 v31 (.bool false)) fun v33 =>
some (v33, h32)
noncomputable def G32 : Sh := fun ih vs h => nilE (B32 ih  h) vs
noncomputable def B26 (ih : Nat → List V → Hp → VH) (a0 a1 : V) (h : Hp) : VH :=
lenSl a0 fun v0 =>
lenSl a1 fun v1 =>
intS .neq v0 v1 fun v2 =>
ifS v2 (
some ((.bool false), h)) (
ih 9 [a0, a1, (.int .i64 (.ofNat 0))] h)
noncomputable def G26 : Sh := fun ih vs h => consE (fun a0 => consE (fun a1 => nilE (B26 ih a0 a1 h))) vs
noncomputable def B9 (ih : Nat → List V → Hp → VH) (a0 a1 a5 : V) (h : Hp) : VH :=
lenSl a0 fun v3 =>
intS .lss a5 v3 fun v4 =>
ifS v4 (
idxS 1 a0 a5 fun v5 =>
load1 v5 h fun v6 =>
idxS 1 a1 a5 fun v7 =>
load1 v7 h fun v8 =>
strS .neq v6 v8 fun v9 =>
ifS v9 (
some ((.bool false), h)) (
intS .add a5 (.int .i64 (.ofNat 1)) fun v10 =>
ih 9 [a0, a1, v10] h)) (
some ((.bool true), h))
noncomputable def G9 : Sh := fun ih vs h => consE (fun a0 => consE (fun a1 => consE (fun a5 => nilE (B9 ih a0 a1 a5 h)))) vs
noncomputable def B30 (ih : Nat → List V → Hp → VH) (h : Hp) : VH :=
bindS (bldSl h [(0, (.str (us [35]))), (1, (.str (us [37]))), (2, (.str (us [38]))), (3, (.str (us [40]))), (4, (.str (us [41]))), (5, (.str (us [42]))), (6, (.str (us [43]))), (7, (.str (us [44]))), (8, (.str (us [45]))), (9, (.str (us [46]))), (10, (.str (us [46, 46]))), (11, (.str (us [46, 46, 46]))), (12, (.str (us [47, 47]))), (13, (.str (us [58]))), (14, (.str (us [58, 58]))), (15, (.str (us [59]))), (16, (.str (us [60]))), (17, (.str (us [60, 60]))), (18, (.str (us [60, 61]))), (19, (.str (us [61]))), (20, (.str (us [61, 61]))), (21, (.str (us [62]))), (22, (.str (us [62, 61]))), (23, (.str (us [62, 62]))), (24, (.str (us [91]))), (25, (.str (us [93]))), (26, (.str (us [123]))), (27, (.str (us [124]))), (28, (.str (us [125]))), (29, (.str (us [126]))), (30, (.str (us [126, 61])))] 9 31 1 (.str (us []))) fun v0 h1 =>
some (v0, h1)
noncomputable def G30 : Sh := fun ih vs h => nilE (B30 ih  h) vs
noncomputable def B28 (ih : Nat → List V → Hp → VH) (h : Hp) : VH :=
bindS (ih 60 [(.str (us [43, 32, 45, 32, 42, 32, 37, 32, 35, 32, 38, 32, 126, 32, 124, 32, 60, 60, 32, 62, 62, 32, 47, 47, 32, 61, 61, 32, 126, 61, 32, 60, 61, 32, 62, 61, 32, 60, 32, 62, 32, 61, 32, 40, 32, 41, 32, 123, 32, 125, 32, 91, 32, 93, 32, 58, 58, 32, 59, 32, 58, 32, 44, 32, 46, 32, 46, 46, 32, 46, 46, 46]))] h) fun v0 h1 =>
bindS (ih 62 [v0] h1) fun v2 h3 =>
some (v0, h3)
noncomputable def G28 : Sh := fun ih vs h => nilE (B28 ih  h) vs
noncomputable def B18 (ih : Nat → List V → Hp → VH) (a0 a1 a2 : V) (h : Hp) : VH :=
bindS (ih 20 [a0] h) fun v0 h1 =>
extS 0 v0 fun v2 =>
extS 1 v0 fun v3 =>
newS 33 [(.int .i64 (.ofNat 0)), (.int .i64 (.ofNat 0))] h1 fun v4 h5 =>
storeN 2 v4 v3 h5 fun h6 =>
loadN 2 v4 h6 fun v7 =>
bindS (bldStruct h6 [(0, a1), (1, a2)] (.agg [(.int .i64 (.ofNat 0)), (.int .i64 (.ofNat 0))]) (some [(0, 1), (1, 1)])) fun v8 h9 =>
bindS (vh h9 (eqOp .eql (cmpV [(0, .int .i64), (1, .int .i64)] v7 v8))) fun v10 h11 =>
guardS v10 true (some (v2, h11)) h11 fun v12 h13 =>
guardS v10 true (lenSl v12 fun v14 =>
some (v14, h13)) h13 fun v15 h16 =>
guardS v10 true (intS .eql v15 (.int .i64 (.ofNat 0)) fun v17 =>
some (v17, h16)) h16 fun v18 h19 =>
optS (pickV v10 v18 (.bool false)) fun v20 =>
some (v20, h19)
noncomputable def G18 : Sh := fun ih vs h => consE (fun a0 => consE (fun a1 => consE (fun a2 => nilE (B18 ih a0 a1 a2 h)))) vs
noncomputable def B14 (ih : Nat → List V → Hp → VH) (a0 a1 : V) (h : Hp) : VH :=
bindS (ih 20 [a0] h) fun v0 h1 =>
extS 0 v0 fun v2 =>
extS 1 v0 fun v3 =>
newS 33 [(.int .i64 (.ofNat 0)), (.int .i64 (.ofNat 0))] h1 fun v4 h5 =>
storeN 2 v4 v3 h5 fun h6 =>
loadN 2 v4 h6 fun v7 =>
bindS (bldStruct h6 [] (.agg [(.int .i64 (.ofNat 0)), (.int .i64 (.ofNat 0))]) (some [(0, 1), (1, 1)])) fun v8 h9 =>
bindS (vh h9 (eqOp .eql (cmpV [(0, .int .i64), (1, .int .i64)] v7 v8))) fun v10 h11 =>
guardS v10 true (some (v2, h11)) h11 fun v12 h13 =>
guardS v10 true (some (a1, h13)) h13 fun v14 h15 =>
guardS v10 true (bindS (ih 36 [v12, v14] h15) fun v16 h17 =>
some (v16, h17)) h15 fun v18 h19 =>
optS (pickV v10 v18 (.bool false)) fun v20 =>
some (v20, h19)
noncomputable def G14 : Sh := fun ih vs h => consE (fun a0 => consE (fun a1 => nilE (B14 ih a0 a1 h))) vs
noncomputable def B16 (ih : Nat → List V → Hp → VH) (a0 a1 a2 a3 : V) (h : Hp) : VH :=
newS 25 [(.int .u8 (.ofNat 0)), (.str (us [])), (.int .i64 (.ofNat 0)), (.int .i64 (.ofNat 0))] h fun v0 h1 =>
bindS (bldStruct h1 [(0, a0), (1, a1), (2, a2), (3, a3)] (.agg [(.int .u8 (.ofNat 0)), (.str (us [])), (.int .i64 (.ofNat 0)), (.int .i64 (.ofNat 0))]) (some [(0, 1), (1, 1), (2, 1), (3, 1)])) fun v2 h3 =>
storeN 4 v0 v2 h3 fun h4 =>
loadN 4 v0 h4 fun v5 =>
some (v5, h4)
noncomputable def G16 : Sh := fun ih vs h => consE (fun a0 => consE (fun a1 => consE (fun a2 => consE (fun a3 => nilE (B16 ih a0 a1 a2 a3 h))))) vs
noncomputable def B24 (ih : Nat → List V → Hp → VH) (a0 : V) (h : Hp) : VH :=
strS .neq a0 (.str (us [])) fun v0 =>
guardS v0 true (some (a0, h)) h fun v1 h2 =>
guardS v0 true (bindS (ih 58 [v1, (.str (us [32]))] h2) fun v3 h4 =>
some (v3, h4)) h2 fun v5 h6 =>
guardS v0 true (notS v5 fun v7 =>
some (v7, h6)) h6 fun v8 h9 =>
optS (pickV v0 v8 (.bool false)) fun v10 =>
guardS v10 true (some (a0, h9)) h9 fun v11 h12 =>
guardS v10 true (strS .add (.str (us [32])) v11 fun v13 =>
some (v13, h12)) h12 fun v14 h15 =>
guardS v10 true (strS .add v14 (.str (us [32])) fun v16 =>
some (v16, h15)) h15 fun v17 h18 =>
guardS v10 true (bindS (ih 58 [(.str (us [32, 97, 110, 100, 32, 98, 114, 101, 97, 107, 32, 100, 111, 32, 101, 108, 115, 101, 32, 101, 108, 115, 101, 105, 102, 32, 101, 110, 100, 32, 102, 97, 108, 115, 101, 32, 102, 111, 114, 32, 102, 117, 110, 99, 116, 105, 111, 110, 32, 103, 111, 116, 111, 32, 105, 102, 32, 105, 110, 32, 108, 111, 99, 97, 108, 32, 110, 105, 108, 32, 110, 111, 116, 32, 111, 114, 32, 114, 101, 112, 101, 97, 116, 32, 114, 101, 116, 117, 114, 110, 32, 116, 104, 101, 110, 32, 116, 114, 117, 101, 32, 117, 110, 116, 105, 108, 32, 119, 104, 105, 108, 101, 32])), v17] h18) fun v19 h20 =>
some (v19, h20)) h18 fun v21 h22 =>
optS (pickV v10 v21 (.bool false)) fun v23 =>
some (v23, h22)
noncomputable def G24 : Sh := fun ih vs h => consE (fun a0 => nilE (B24 ih a0 h)) vs
noncomputable def B22 (ih : Nat → List V → Hp → VH) (h : Hp) : VH :=
bindS (bldSl h [(0, (.str (us [97, 110, 100]))), (1, (.str (us [98, 114, 101, 97, 107]))), (2, (.str (us [100, 111]))), (3, (.str (us [101, 108, 115, 101]))), (4, (.str (us [101, 108, 115, 101, 105, 102]))), (5, (.str (us [101, 110, 100]))), (6, (.str (us [102, 97, 108, 115, 101]))), (7, (.str (us [102, 111, 114]))), (8, (.str (us [102, 117, 110, 99, 116, 105, 111, 110]))), (9, (.str (us [103, 111, 116, 111]))), (10, (.str (us [105, 102]))), (11, (.str (us [105, 110]))), (12, (.str (us [108, 111, 99, 97, 108]))), (13, (.str (us [110, 105, 108]))), (14, (.str (us [110, 111, 116]))), (15, (.str (us [111, 114]))), (16, (.str (us [114, 101, 112, 101, 97, 116]))), (17, (.str (us [114, 101, 116, 117, 114, 110]))), (18, (.str (us [116, 104, 101, 110]))), (19, (.str (us [116, 114, 117, 101]))), (20, (.str (us [117, 110, 116, 105, 108]))), (21, (.str (us [119, 104, 105, 108, 101])))] 9 22 1 (.str (us []))) fun v0 h1 =>
some (v0, h1)
noncomputable def G22 : Sh := fun ih vs h => nilE (B22 ih  h) vs
noncomputable def B20 (ih : Nat → List V → Hp → VH) (a0 : V) (h : Hp) : VH :=
newS 33 [(.int .i64 (.ofNat 0)), (.int .i64 (.ofNat 0))] h fun v0 h1 =>
lenStr a0 fun v2 =>
intS .gtr v2 (.int .i64 (.ofNat 65535)) fun v3 =>
ifS v3 (
bindS (bldStruct h1 [(0, (.int .i64 (.ofNat 3)))] (.agg [(.int .i64 (.ofNat 0)), (.int .i64 (.ofNat 0))]) (some [(0, 1), (1, 1)])) fun v4 h5 =>
storeN 2 v0 v4 h5 fun h6 =>
loadN 2 v0 h6 fun v7 =>
some (.tuple [.nilSlice, v7], h6)) (
bindS (ih 28 [] h1) fun v8 h9 =>
bindS (bldStruct h9 [(0, a0), (2, (.int .i64 (.ofNat 1))), (3, v8)] (.agg [(.str (us [])), (.int .i64 (.ofNat 0)), (.int .i64 (.ofNat 0)), .nilSlice]) (some [(0, 1), (1, 1), (2, 1), (3, 1)])) fun v10 h11 =>
newS 47 (vcells v10) h11 fun v12 h13 =>
nilS v12 fun v14 =>
addrS 3 v14 fun v15 =>
load1 v15 h13 fun v16 =>
bindS (ih 44 [v16, (.func 23 [] [])] h13) fun v17 h18 =>
ih 11 [v0, v12, .nilSlice] h18)
noncomputable def G20 : Sh := fun ih vs h => consE (fun a0 => nilE (B20 ih a0 h)) vs
noncomputable def B11 (ih : Nat → List V → Hp → VH) (a3 a4 a5 : V) (h : Hp) : VH :=
bindS (ih 50 [a4, (.int .i64 (.ofNat 0)), (.func 26 [] [])] h) fun v19 h20 =>
bindS (ih 48 [a4, v19] h20) fun v21 h22 =>
nilS a4 fun v23 =>
addrS 1 v23 fun v24 =>
load1 v24 h22 fun v25 =>
nilS a4 fun v26 =>
addrS 0 v26 fun v27 =>
load1 v27 h22 fun v28 =>
lenStr v28 fun v29 =>
intS .eql v25 v29 fun v30 =>
ifS v30 (
nilS a4 fun v31 =>
addrS 2 v31 fun v32 =>
load1 v32 h22 fun v33 =>
bindS (bldStruct h22 [(0, (.int .u8 (.ofNat 6))), (3, v33)] (.agg [(.int .u8 (.ofNat 0)), (.str (us [])), (.int .i64 (.ofNat 0)), (.int .i64 (.ofNat 0))]) (some [(0, 1), (1, 1), (2, 1), (3, 1)])) fun v34 h35 =>
bindS (bldSl h35 [(0, v34)] 25 1 4 (.agg [(.int .u8 (.ofNat 0)), (.str (us [])), (.int .i64 (.ofNat 0)), (.int .i64 (.ofNat 0))])) fun v36 h37 =>
bindS (appS 25 40 4 a5 v36 h37) fun v38 h39 =>
bindS (bldStruct h39 [] (.agg [(.int .i64 (.ofNat 0)), (.int .i64 (.ofNat 0))]) (some [(0, 1), (1, 1)])) fun v40 h41 =>
storeN 2 a3 v40 h41 fun h42 =>
loadN 2 a3 h42 fun v43 =>
some (.tuple [v38, v43], h42)) (
bindS (ih 54 [a4] h22) fun v44 h45 =>
extS 0 v44 fun v46 =>
extS 1 v44 fun v47 =>
intS .eql v47 (.int .i64 (.ofNat 0)) fun v48 =>
guardS v48 true (some (v46, h45)) h45 fun v49 h50 =>
optS (pickV v48 v49 (.bool false)) fun v51 =>
ifS v51 (
ih 11 [a3, a4, a5] h50) (
bindS (bldStruct h50 [] (.agg [(.int .u8 (.ofNat 0)), (.str (us [])), (.int .i64 (.ofNat 0)), (.int .i64 (.ofNat 0))]) (some [(0, 1), (1, 1), (2, 1), (3, 1)])) fun v52 h53 =>
newS 25 [(.int .u8 (.ofNat 0)), (.str (us [])), (.int .i64 (.ofNat 0)), (.int .i64 (.ofNat 0))] h53 fun v54 h55 =>
storeN 4 v54 v52 h55 fun h56 =>
intS .eql v47 (.int .i64 (.ofNat 0)) fun v57 =>
ifS v57 (
bindS (ih 56 [a4] h56) fun v58 h59 =>
extS 0 v58 fun v60 =>
extS 1 v58 fun v61 =>
extS 2 v58 fun v62 =>
storeN 4 v54 v60 h59 fun h63 =>
ih 13 [a3, a4, a5, v54, v61, v62] h63) (
ih 13 [a3, a4, a5, v54, (.int .i64 (.ofNat 0)), v47] h56)))
noncomputable def G11 : Sh := fun ih vs h => consE (fun a3 => consE (fun a4 => consE (fun a5 => nilE (B11 ih a3 a4 a5 h)))) vs
noncomputable def B13 (ih : Nat → List V → Hp → VH) (a3 a4 a5 a8 a9 a10 : V) (h : Hp) : VH :=
intS .neq a10 (.int .i64 (.ofNat 0)) fun v64 =>
ifS v64 (
nilS a4 fun v65 =>
addrS 2 v65 fun v66 =>
load1 v66 h fun v67 =>
bindS (bldStruct h [(0, a10), (1, v67)] (.agg [(.int .i64 (.ofNat 0)), (.int .i64 (.ofNat 0))]) (some [(0, 1), (1, 1)])) fun v68 h69 =>
storeN 2 a3 v68 h fun h70 =>
loadN 2 a3 h70 fun v71 =>
some (.tuple [.nilSlice, v71], h70)) (
nilS a4 fun v72 =>
addrS 2 v72 fun v73 =>
load1 v73 h fun v74 =>
addrS 3 a8 fun v75 =>
storeC v75 v74 h fun h76 =>
bindS (ih 48 [a4, a9] h76) fun v77 h78 =>
loadN 4 a8 h78 fun v79 =>
bindS (bldSl h78 [(0, v79)] 25 1 4 (.agg [(.int .u8 (.ofNat 0)), (.str (us [])), (.int .i64 (.ofNat 0)), (.int .i64 (.ofNat 0))])) fun v80 h81 =>
bindS (appS 25 40 4 a5 v80 h81) fun v82 h83 =>
ih 11 [a3, a4, v82] h83)
noncomputable def G13 : Sh := fun ih vs h => consE (fun a3 => consE (fun a4 => consE (fun a5 => consE (fun a8 => consE (fun a9 => consE (fun a10 => nilE (B13 ih a3 a4 a5 a8 a9 a10 h))))))) vs
noncomputable def B62 (ih : Nat → List V → Hp → VH) (a0 : V) (h : Hp) : VH :=
lenSl a0 fun v0 =>
convI .u64 v0 fun v1 =>
bindS (ih 114 [v1] h) fun v2 h3 =>
bindS (ih 112 [a0, (.int .i64 (.ofNat 0)), v0, v2] h3) fun v4 h5 =>
some (.tuple [], h5)
noncomputable def G62 : Sh := fun ih vs h => consE (fun a0 => nilE (B62 ih a0 h)) vs
noncomputable def B60 (ih : Nat → List V → Hp → VH) (a0 : V) (h : Hp) : VH :=
ih 15 [a0, (.int .i64 (.ofNat 0)), (.int .i64 (.ofNat 1)), (.int .u8 (.ofNat 0)), (.int .i64 (.ofNat 0))] h
noncomputable def G60 : Sh := fun ih vs h => consE (fun a0 => nilE (B60 ih a0 h)) vs
noncomputable def B15 (ih : Nat → List V → Hp → VH) (a0 a3 a4 a5 a6 : V) (h : Hp) : VH :=
lenStr a0 fun v0 =>
intS .lss a6 v0 fun v1 =>
ifS v1 (
idxStr a0 a6 fun v2 =>
intS .or a5 v2 fun v3 =>
idxP 1 256 (.ptr 0 0) v2 fun v4 =>
load1 v4 h fun v5 =>
convI .i64 v5 fun v6 =>
bindS (vh h (xorV v6)) fun v7 h8 =>
intS .and a4 v7 fun v9 =>
intS .add a3 v9 fun v10 =>
intS .add a6 (.int .i64 (.ofNat 1)) fun v11 =>
ih 15 [a0, v10, v6, v3, v11] h8) (
intS .geq a5 (.int .u8 (.ofNat 128)) fun v12 =>
ifS v12 (
bindS (ih 108 [a0, (.func 55 [] [])] h) fun v13 h14 =>
some (v13, h14)) (
bindS (mkS 9 16 1 (.str (us [])) a3 a3 h) fun v15 h16 =>
ih 17 [a0, v15, (.int .i64 (.ofNat 0)), (.int .i64 (.ofNat 0))] h16))
noncomputable def G15 : Sh := fun ih vs h => consE (fun a0 => consE (fun a3 => consE (fun a4 => consE (fun a5 => consE (fun a6 => nilE (B15 ih a0 a3 a4 a5 a6 h)))))) vs
noncomputable def B17 (ih : Nat → List V → Hp → VH) (a0 a9 a10 a12 : V) (h : Hp) : VH :=
lenStr a0 fun v17 =>
intS .lss a12 v17 fun v18 =>
guardS v18 true (some (a0, h)) h fun v19 h20 =>
guardS v18 true (some (a12, h20)) h20 fun v21 h22 =>
guardS v18 true (idxStr v19 v21 fun v23 =>
some (v23, h22)) h22 fun v24 h25 =>
guardS v18 true (idxP 1 256 (.ptr 0 0) v24 fun v26 =>
some (v26, h25)) h25 fun v27 h28 =>
guardS v18 true (load1 v27 h28 fun v29 =>
some (v29, h28)) h28 fun v30 h31 =>
guardS v18 true (intS .neq v30 (.int .u8 (.ofNat 0)) fun v32 =>
some (v32, h31)) h31 fun v33 h34 =>
optS (pickV v18 v33 (.bool false)) fun v35 =>
ifS v35 (
intS .add a12 (.int .i64 (.ofNat 1)) fun v36 =>
ih 17 [a0, a9, a10, v36] h34) (
ih 19 [a0, a9, a10, a12, a12] h34)
noncomputable def G17 : Sh := fun ih vs h => consE (fun a0 => consE (fun a9 => consE (fun a10 => consE (fun a12 => nilE (B17 ih a0 a9 a10 a12 h))))) vs
noncomputable def B19 (ih : Nat → List V → Hp → VH) (a0 a9 a10 a11 a12 : V) (h : Hp) : VH :=
lenStr a0 fun v37 =>
intS .lss a12 v37 fun v38 =>
ifS v38 (
idxStr a0 a12 fun v39 =>
idxP 1 256 (.ptr 0 0) v39 fun v40 =>
load1 v40 h fun v41 =>
intS .eql v41 (.int .u8 (.ofNat 0)) fun v42 =>
ifS v42 (
intS .add a12 (.int .i64 (.ofNat 1)) fun v43 =>
ih 19 [a0, a9, a10, a11, v43] h) (
slStrK (some a11) (some a12) a0 fun v44 =>
idxS 1 a9 a10 fun v45 =>
storeC v45 v44 h fun h46 =>
intS .add a10 (.int .i64 (.ofNat 1)) fun v47 =>
intS .add a12 (.int .i64 (.ofNat 1)) fun v48 =>
ih 23 [a0, a9, v47, v48] h46)) (
lenStr a0 fun v49 =>
intS .lss a11 v49 fun v50 =>
ifS v50 (
slStrK (some a11) none a0 fun v51 =>
idxS 1 a9 a10 fun v52 =>
storeC v52 v51 h fun h53 =>
ih 21 [a9] h53) (
ih 21 [a9] h))
noncomputable def G19 : Sh := fun ih vs h => consE (fun a0 => consE (fun a9 => consE (fun a10 => consE (fun a11 => consE (fun a12 => nilE (B19 ih a0 a9 a10 a11 a12 h)))))) vs
noncomputable def B21 (ih : Nat → List V → Hp → VH) (a9 : V) (h : Hp) : VH :=
some (a9, h)
noncomputable def G21 : Sh := fun ih vs h => consE (fun a9 => nilE (B21 ih a9 h)) vs
noncomputable def B23 (ih : Nat → List V → Hp → VH) (a0 a9 a10 a12 : V) (h : Hp) : VH :=
lenStr a0 fun v54 =>
intS .lss a12 v54 fun v55 =>
guardS v55 true (some (a0, h)) h fun v56 h57 =>
guardS v55 true (some (a12, h57)) h57 fun v58 h59 =>
guardS v55 true (idxStr v56 v58 fun v60 =>
some (v60, h59)) h59 fun v61 h62 =>
guardS v55 true (idxP 1 256 (.ptr 0 0) v61 fun v63 =>
some (v63, h62)) h62 fun v64 h65 =>
guardS v55 true (load1 v64 h65 fun v66 =>
some (v66, h65)) h65 fun v67 h68 =>
guardS v55 true (intS .neq v67 (.int .u8 (.ofNat 0)) fun v69 =>
some (v69, h68)) h68 fun v70 h71 =>
optS (pickV v55 v70 (.bool false)) fun v72 =>
ifS v72 (
intS .add a12 (.int .i64 (.ofNat 1)) fun v73 =>
ih 23 [a0, a9, a10, v73] h71) (
ih 19 [a0, a9, a10, a12, a12] h71)
noncomputable def G23 : Sh := fun ih vs h => consE (fun a0 => consE (fun a9 => consE (fun a10 => consE (fun a12 => nilE (B23 ih a0 a9 a10 a12 h))))) vs
noncomputable def B36 (ih : Nat → List V → Hp → VH) (a0 a1 : V) (h : Hp) : VH :=
lenSl a0 fun v0 =>
lenSl a1 fun v1 =>
intS .neq v0 v1 fun v2 =>
ifS v2 (
some ((.bool false), h)) (
ih 25 [a0, a1, (.int .i64 (.ofNat 0))] h)
noncomputable def G36 : Sh := fun ih vs h => consE (fun a0 => consE (fun a1 => nilE (B36 ih a0 a1 h))) vs
noncomputable def B25 (ih : Nat → List V → Hp → VH) (a0 a1 a5 : V) (h : Hp) : VH :=
lenSl a0 fun v3 =>
intS .lss a5 v3 fun v4 =>
ifS v4 (
idxS 4 a0 a5 fun v5 =>
loadN 4 v5 h fun v6 =>
idxS 4 a1 a5 fun v7 =>
loadN 4 v7 h fun v8 =>
bindS (vh h (eqOp .neq (cmpV [(0, .int .u8), (1, .string), (2, .int .i64), (3, .int .i64)] v6 v8))) fun v9 h10 =>
ifS v9 (
some ((.bool false), h10)) (
intS .add a5 (.int .i64 (.ofNat 1)) fun v11 =>
ih 25 [a0, a1, v11] h10)) (
some ((.bool true), h))
noncomputable def G25 : Sh := fun ih vs h => consE (fun a0 => consE (fun a1 => consE (fun a5 => nilE (B25 ih a0 a1 a5 h)))) vs
noncomputable def B48 (ih : Nat → List V → Hp → VH) (a0 a1 : V) (h : Hp) : VH :=
nilS a0 fun v0 =>
addrS 1 v0 fun v1 =>
load1 v1 h fun v2 =>
intS .add v2 a1 fun v3 =>
ih 27 [a0, v3] h
noncomputable def G48 : Sh := fun ih vs h => consE (fun a0 => consE (fun a1 => nilE (B48 ih a0 a1 h))) vs
noncomputable def B27 (ih : Nat → List V → Hp → VH) (a0 a4 : V) (h : Hp) : VH :=
nilS a0 fun v4 =>
addrS 1 v4 fun v5 =>
load1 v5 h fun v6 =>
intS .lss v6 a4 fun v7 =>
ifS v7 (
nilS a0 fun v8 =>
addrS 0 v8 fun v9 =>
load1 v9 h fun v10 =>
nilS a0 fun v11 =>
addrS 1 v11 fun v12 =>
load1 v12 h fun v13 =>
idxStr v10 v13 fun v14 =>
bindS (ih 80 [v14] h) fun v15 h16 =>
notS v15 fun v17 =>
ifS v17 (
ih 29 [a0, a4] h16) (
nilS a0 fun v18 =>
addrS 2 v18 fun v19 =>
load1 v19 h16 fun v20 =>
intS .add v20 (.int .i64 (.ofNat 1)) fun v21 =>
nilS a0 fun v22 =>
addrS 2 v22 fun v23 =>
storeC v23 v21 h16 fun h24 =>
nilS a0 fun v25 =>
addrS 1 v25 fun v26 =>
load1 v26 h24 fun v27 =>
intS .add v27 (.int .i64 (.ofNat 1)) fun v28 =>
intS .lss v28 a4 fun v29 =>
guardS v29 true (some (a0, h24)) h24 fun v30 _ =>
guardS v29 true (nilS v30 fun v31 =>
some (v31, h24)) h24 fun v32 _ =>
guardS v29 true (addrS 0 v32 fun v33 =>
some (v33, h24)) h24 fun v34 _ =>
guardS v29 true (load1 v34 h24 fun v35 =>
some (v35, h24)) h24 fun v36 _ =>
guardS v29 true (some (a0, h24)) h24 fun v37 _ =>
guardS v29 true (nilS v37 fun v38 =>
some (v38, h24)) h24 fun v39 _ =>
guardS v29 true (addrS 1 v39 fun v40 =>
some (v40, h24)) h24 fun v41 _ =>
guardS v29 true (load1 v41 h24 fun v42 =>
some (v42, h24)) h24 fun v43 _ =>
guardS v29 true (intS .add v43 (.int .i64 (.ofNat 1)) fun v44 =>
some (v44, h24)) h24 fun v45 _ =>
guardS v29 true (idxStr v36 v45 fun v46 =>
some (v46, h24)) h24 fun v47 _ =>
guardB v29 true (
bindS (ih 80 [v47] ⟨h24.t, h24.n, h24.n⟩) fun v48 h49 =>
wroteS h24.low h49 fun h50 =>
optS (pickV v29 v48 (.bool false)) fun v51 =>
guardS v51 true (some (a0, h50)) h50 fun v52 _ =>
guardS v51 true (nilS v52 fun v53 =>
some (v53, h50)) h50 fun v54 _ =>
guardS v51 true (addrS 0 v54 fun v55 =>
some (v55, h50)) h50 fun v56 _ =>
guardS v51 true (load1 v56 h50 fun v57 =>
some (v57, h50)) h50 fun v58 _ =>
guardS v51 true (some (a0, h50)) h50 fun v59 _ =>
guardS v51 true (nilS v59 fun v60 =>
some (v60, h50)) h50 fun v61 _ =>
guardS v51 true (addrS 1 v61 fun v62 =>
some (v62, h50)) h50 fun v63 _ =>
guardS v51 true (load1 v63 h50 fun v64 =>
some (v64, h50)) h50 fun v65 _ =>
guardS v51 true (intS .add v65 (.int .i64 (.ofNat 1)) fun v66 =>
some (v66, h50)) h50 fun v67 _ =>
guardS v51 true (idxStr v58 v67 fun v68 =>
some (v68, h50)) h50 fun v69 _ =>
guardS v51 true (some (a0, h50)) h50 fun v70 _ =>
guardS v51 true (nilS v70 fun v71 =>
some (v71, h50)) h50 fun v72 _ =>
guardS v51 true (addrS 0 v72 fun v73 =>
some (v73, h50)) h50 fun v74 _ =>
guardS v51 true (load1 v74 h50 fun v75 =>
some (v75, h50)) h50 fun v76 _ =>
guardS v51 true (some (a0, h50)) h50 fun v77 _ =>
guardS v51 true (nilS v77 fun v78 =>
some (v78, h50)) h50 fun v79 _ =>
guardS v51 true (addrS 1 v79 fun v80 =>
some (v80, h50)) h50 fun v81 _ =>
guardS v51 true (load1 v81 h50 fun v82 =>
some (v82, h50)) h50 fun v83 _ =>
guardS v51 true (idxStr v76 v83 fun v84 =>
some (v84, h50)) h50 fun v85 _ =>
guardS v51 true (intS .neq v69 v85 fun v86 =>
some (v86, h50)) h50 fun v87 h88 =>
optS (pickV v51 v87 (.bool false)) fun v89 =>
ifS v89 (
nilS a0 fun v90 =>
addrS 1 v90 fun v91 =>
load1 v91 h88 fun v92 =>
intS .add v92 (.int .i64 (.ofNat 1)) fun v93 =>
nilS a0 fun v94 =>
addrS 1 v94 fun v95 =>
storeC v95 v93 h88 fun h96 =>
ih 29 [a0, a4] h96) (
ih 29 [a0, a4] h88)) (
optS (pickV v29 undefV (.bool false)) fun v97 =>
guardS v97 true (some (a0, h24)) h24 fun v98 _ =>
guardS v97 true (nilS v98 fun v99 =>
some (v99, h24)) h24 fun v100 _ =>
guardS v97 true (addrS 0 v100 fun v101 =>
some (v101, h24)) h24 fun v102 _ =>
guardS v97 true (load1 v102 h24 fun v103 =>
some (v103, h24)) h24 fun v104 _ =>
guardS v97 true (some (a0, h24)) h24 fun v105 _ =>
guardS v97 true (nilS v105 fun v106 =>
some (v106, h24)) h24 fun v107 _ =>
guardS v97 true (addrS 1 v107 fun v108 =>
some (v108, h24)) h24 fun v109 _ =>
guardS v97 true (load1 v109 h24 fun v110 =>
some (v110, h24)) h24 fun v111 _ =>
guardS v97 true (intS .add v111 (.int .i64 (.ofNat 1)) fun v112 =>
some (v112, h24)) h24 fun v113 _ =>
guardS v97 true (idxStr v104 v113 fun v114 =>
some (v114, h24)) h24 fun v115 _ =>
guardS v97 true (some (a0, h24)) h24 fun v116 _ =>
guardS v97 true (nilS v116 fun v117 =>
some (v117, h24)) h24 fun v118 _ =>
guardS v97 true (addrS 0 v118 fun v119 =>
some (v119, h24)) h24 fun v120 _ =>
guardS v97 true (load1 v120 h24 fun v121 =>
some (v121, h24)) h24 fun v122 _ =>
guardS v97 true (some (a0, h24)) h24 fun v123 _ =>
guardS v97 true (nilS v123 fun v124 =>
some (v124, h24)) h24 fun v125 _ =>
guardS v97 true (addrS 1 v125 fun v126 =>
some (v126, h24)) h24 fun v127 _ =>
guardS v97 true (load1 v127 h24 fun v128 =>
some (v128, h24)) h24 fun v129 _ =>
guardS v97 true (idxStr v122 v129 fun v130 =>
some (v130, h24)) h24 fun v131 _ =>
guardS v97 true (intS .neq v115 v131 fun v132 =>
some (v132, h24)) h24 fun v133 h134 =>
optS (pickV v97 v133 (.bool false)) fun v135 =>
ifS v135 (
nilS a0 fun v136 =>
addrS 1 v136 fun v137 =>
load1 v137 h134 fun v138 =>
intS .add v138 (.int .i64 (.ofNat 1)) fun v139 =>
nilS a0 fun v140 =>
addrS 1 v140 fun v141 =>
storeC v141 v139 h134 fun h142 =>
ih 29 [a0, a4] h142) (
ih 29 [a0, a4] h134)))) (
some (.tuple [], h))
noncomputable def G27 : Sh := fun ih vs h => consE (fun a0 => consE (fun a4 => nilE (B27 ih a0 a4 h))) vs
noncomputable def B29 (ih : Nat → List V → Hp → VH) (a0 a4 : V) (h : Hp) : VH :=
nilS a0 fun v143 =>
addrS 1 v143 fun v144 =>
load1 v144 h fun v145 =>
intS .add v145 (.int .i64 (.ofNat 1)) fun v146 =>
nilS a0 fun v147 =>
addrS 1 v147 fun v148 =>
storeC v148 v146 h fun h149 =>
ih 27 [a0, a4] h149
noncomputable def G29 : Sh := fun ih vs h => consE (fun a0 => consE (fun a4 => nilE (B29 ih a0 a4 h))) vs
noncomputable def B56 (ih : Nat → List V → Hp → VH) (a0 : V) (h : Hp) : VH :=
newS 25 [(.int .u8 (.ofNat 0)), (.str (us [])), (.int .i64 (.ofNat 0)), (.int .i64 (.ofNat 0))] h fun v0 h1 =>
nilS a0 fun v2 =>
addrS 0 v2 fun v3 =>
load1 v3 h1 fun v4 =>
nilS a0 fun v5 =>
addrS 1 v5 fun v6 =>
load1 v6 h1 fun v7 =>
idxStr v4 v7 fun v8 =>
bindS (ih 50 [a0, (.int .i64 (.ofNat 0)), (.func 45 [] [])] h1) fun v9 h10 =>
intS .gtr v9 (.int .i64 (.ofNat 0)) fun v11 =>
guardS v11 false (some (v8, h10)) h10 fun v12 h13 =>
guardS v11 false (intS .eql v12 (.int .u8 (.ofNat 46)) fun v14 =>
some (v14, h13)) h13 fun v15 h16 =>
guardS v11 false (some (v15, h16)) h16 fun v17 h18 =>
guardS v17 true (some (a0, h18)) h18 fun v19 h20 =>
guardS v17 true (bindS (ih 50 [v19, (.int .i64 (.ofNat 1)), (.func 45 [] [])] h20) fun v21 h22 =>
some (v21, h22)) h20 fun v23 h24 =>
guardS v17 true (intS .gtr v23 (.int .i64 (.ofNat 0)) fun v25 =>
some (v25, h24)) h24 fun v26 h27 =>
guardS v11 false (optS (pickV v17 v26 (.bool false)) fun v28 =>
some (v28, h27)) h27 fun v29 h30 =>
optS (pickV v11 (.bool true) v29) fun v31 =>
bindS (ih 86 [a0, (.int .i64 (.ofNat 0))] h30) fun v32 h33 =>
extS 0 v32 fun v34 =>
extS 1 v32 fun v35 =>
extS 2 v32 fun v36 =>
bindS (ih 92 [v8] h33) fun v37 h38 =>
ifS v37 (
bindS (ih 50 [a0, (.int .i64 (.ofNat 0)), (.func 47 [] [])] h38) fun v39 h40 =>
newS 25 [(.int .u8 (.ofNat 0)), (.str (us [])), (.int .i64 (.ofNat 0)), (.int .i64 (.ofNat 0))] h40 fun v41 h42 =>
nilS a0 fun v43 =>
addrS 0 v43 fun v44 =>
load1 v44 h42 fun v45 =>
nilS a0 fun v46 =>
addrS 1 v46 fun v47 =>
load1 v47 h42 fun v48 =>
nilS a0 fun v49 =>
addrS 1 v49 fun v50 =>
load1 v50 h42 fun v51 =>
intS .add v51 v39 fun v52 =>
slStrK (some v48) (some v52) v45 fun v53 =>
bindS (bldStruct h42 [(0, (.int .u8 (.ofNat 1))), (1, v53)] (.agg [(.int .u8 (.ofNat 0)), (.str (us [])), (.int .i64 (.ofNat 0)), (.int .i64 (.ofNat 0))]) (some [(0, 1), (1, 1), (2, 1), (3, 1)])) fun v54 h55 =>
storeN 4 v41 v54 h42 fun h56 =>
addrS 1 v41 fun v57 =>
load1 v57 h56 fun v58 =>
bindS (ih 24 [v58] h56) fun v59 h60 =>
ifS v59 (
addrS 0 v41 fun v61 =>
storeC v61 (.int .u8 (.ofNat 2)) h60 fun h62 =>
ih 33 [v0, v39, v41] h62) (
ih 33 [v0, v39, v41] h60)) (
ifS v31 (
bindS (ih 96 [a0] h38) fun v63 h64 =>
newS 25 [(.int .u8 (.ofNat 0)), (.str (us [])), (.int .i64 (.ofNat 0)), (.int .i64 (.ofNat 0))] h64 fun v65 h66 =>
nilS a0 fun v67 =>
addrS 0 v67 fun v68 =>
load1 v68 h66 fun v69 =>
nilS a0 fun v70 =>
addrS 1 v70 fun v71 =>
load1 v71 h66 fun v72 =>
nilS a0 fun v73 =>
addrS 1 v73 fun v74 =>
load1 v74 h66 fun v75 =>
intS .add v75 v63 fun v76 =>
slStrK (some v72) (some v76) v69 fun v77 =>
bindS (ih 98 [v77] ⟨h66.t, h66.n, h66.n⟩) fun v78 h79 =>
cD ((pureB h66 h79 || sameLd h66 h79 (fent v65 25 [(.int .u8 (.ofNat 0)), (.str (us [])), (.int .i64 (.ofNat 0)), (.int .i64 (.ofNat 0))])) && true) (
wroteS h66.low h79 fun h80 =>
extS 0 v78 fun v81 =>
extS 1 v78 fun v82 =>
ptrE v65 fun b83 o84 => storeB (storeO Tryz.prog h80 25 b83 o84 v81) fun c85 =>
loadN 4 v65 (h80.put b83 c85) fun v86 =>
storeN 4 v0 v86 (h80.put b83 c85) fun h87 =>
loadN 4 v0 h87 fun v88 =>
some (.tuple [v88, v63, v82], h87)) none) (
guardS v36 true (some (v35, h38)) h38 fun v89 h90 =>
guardS v36 true (intS .eql v89 (.int .i64 (.ofNat 0)) fun v91 =>
some (v91, h90)) h90 fun v92 h93 =>
optS (pickV v36 v92 (.bool false)) fun v94 =>
ifS v94 (
bindS (bldStruct h93 [] (.agg [(.int .u8 (.ofNat 0)), (.str (us [])), (.int .i64 (.ofNat 0)), (.int .i64 (.ofNat 0))]) (some [(0, 1), (1, 1), (2, 1), (3, 1)])) fun v95 h96 =>
storeN 4 v0 v95 h96 fun h97 =>
loadN 4 v0 h97 fun v98 =>
some (.tuple [v98, (.int .i64 (.ofNat 0)), (.int .i64 (.ofNat 30))], h97)) (
ifS v36 (
bindS (bldStruct h93 [(0, (.int .u8 (.ofNat 5))), (1, v34)] (.agg [(.int .u8 (.ofNat 0)), (.str (us [])), (.int .i64 (.ofNat 0)), (.int .i64 (.ofNat 0))]) (some [(0, 1), (1, 1), (2, 1), (3, 1)])) fun v99 h100 =>
storeN 4 v0 v99 h100 fun h101 =>
loadN 4 v0 h101 fun v102 =>
some (.tuple [v102, v35, (.int .i64 (.ofNat 0))], h101)) (
intS .eql v8 (.int .u8 (.ofNat 34)) fun v103 =>
guardS v103 false (some (v8, h93)) h93 fun v104 h105 =>
guardS v103 false (intS .eql v104 (.int .u8 (.ofNat 39)) fun v106 =>
some (v106, h105)) h105 fun v107 h108 =>
optS (pickV v103 (.bool true) v107) fun v109 =>
ifS v109 (
bindS (ih 100 [a0] h108) fun v110 h111 =>
nilS a0 fun v112 =>
addrS 0 v112 fun v113 =>
load1 v113 h111 fun v114 =>
nilS a0 fun v115 =>
addrS 1 v115 fun v116 =>
load1 v116 h111 fun v117 =>
nilS a0 fun v118 =>
addrS 1 v118 fun v119 =>
load1 v119 h111 fun v120 =>
intS .add v120 v110 fun v121 =>
slStrK (some v117) (some v121) v114 fun v122 =>
bindS (ih 102 [v122] ⟨h111.t, h111.n, h111.n⟩) fun v123 h124 =>
wroteS h111.low h124 fun h125 =>
extS 0 v123 fun v126 =>
extS 1 v123 fun v127 =>
bindS (bldStruct h125 [(0, (.int .u8 (.ofNat 5))), (1, v126)] (.agg [(.int .u8 (.ofNat 0)), (.str (us [])), (.int .i64 (.ofNat 0)), (.int .i64 (.ofNat 0))]) (some [(0, 1), (1, 1), (2, 1), (3, 1)])) fun v128 h129 =>
storeN 4 v0 v128 h129 fun h130 =>
loadN 4 v0 h130 fun v131 =>
some (.tuple [v131, v110, v127], h130)) (
nilS a0 fun v132 =>
addrS 0 v132 fun v133 =>
load1 v133 h108 fun v134 =>
nilS a0 fun v135 =>
addrS 1 v135 fun v136 =>
load1 v136 h108 fun v137 =>
slStrK (some v137) none v134 fun v138 =>
bindS (ih 104 [v138, (.str (us [91, 61]))] h108) fun v139 h140 =>
ifS v139 (
bindS (bldStruct h140 [] (.agg [(.int .u8 (.ofNat 0)), (.str (us [])), (.int .i64 (.ofNat 0)), (.int .i64 (.ofNat 0))]) (some [(0, 1), (1, 1), (2, 1), (3, 1)])) fun v141 h142 =>
storeN 4 v0 v141 h142 fun h143 =>
loadN 4 v0 h143 fun v144 =>
some (.tuple [v144, (.int .i64 (.ofNat 0)), (.int .i64 (.ofNat 30))], h143)) (
nilS a0 fun v145 =>
addrS 3 v145 fun v146 =>
load1 v146 h140 fun v147 =>
lenSl v147 fun v148 =>
ih 31 [a0, v0, v8, v147, v148, (.int .i64 (.ofNat 0))] h140))))))
noncomputable def G56 : Sh := fun ih vs h => consE (fun a0 => nilE (B56 ih a0 h)) vs
noncomputable def B31 (ih : Nat → List V → Hp → VH) (a0 a2 a5 a159 a160 a161 : V) (h : Hp) : VH :=
intS .lss a161 a160 fun v149 =>
ifS v149 (
idxS 1 a159 a161 fun v150 =>
load1 v150 h fun v151 =>
bindS (ih 84 [a0, v151] h) fun v152 h153 =>
ifS v152 (
bindS (bldStruct h153 [(0, (.int .u8 (.ofNat 3))), (1, v151)] (.agg [(.int .u8 (.ofNat 0)), (.str (us [])), (.int .i64 (.ofNat 0)), (.int .i64 (.ofNat 0))]) (some [(0, 1), (1, 1), (2, 1), (3, 1)])) fun v154 h155 =>
lenStr v151 fun v156 =>
storeN 4 a2 v154 h155 fun h157 =>
loadN 4 a2 h157 fun v158 =>
some (.tuple [v158, v156, (.int .i64 (.ofNat 0))], h157)) (
intS .add a161 (.int .i64 (.ofNat 1)) fun v159 =>
ih 31 [a0, a2, a5, a159, a160, v159] h153)) (
intS .eql a5 (.int .u8 (.ofNat 47)) fun v160 =>
guardS v160 false (some (a5, h)) h fun v161 h162 =>
guardS v160 false (intS .eql v161 (.int .u8 (.ofNat 94)) fun v163 =>
some (v163, h162)) h162 fun v164 h165 =>
optS (pickV v160 (.bool true) v164) fun v166 =>
ifS v166 (
bindS (bldStruct h165 [] (.agg [(.int .u8 (.ofNat 0)), (.str (us [])), (.int .i64 (.ofNat 0)), (.int .i64 (.ofNat 0))]) (some [(0, 1), (1, 1), (2, 1), (3, 1)])) fun v167 h168 =>
storeN 4 a2 v167 h168 fun h169 =>
loadN 4 a2 h169 fun v170 =>
some (.tuple [v170, (.int .i64 (.ofNat 0)), (.int .i64 (.ofNat 31))], h169)) (
bindS (bldStruct h165 [] (.agg [(.int .u8 (.ofNat 0)), (.str (us [])), (.int .i64 (.ofNat 0)), (.int .i64 (.ofNat 0))]) (some [(0, 1), (1, 1), (2, 1), (3, 1)])) fun v171 h172 =>
storeN 4 a2 v171 h172 fun h173 =>
loadN 4 a2 h173 fun v174 =>
some (.tuple [v174, (.int .i64 (.ofNat 0)), (.int .i64 (.ofNat 30))], h173)))
noncomputable def G31 : Sh := fun ih vs h => consE (fun a0 => consE (fun a2 => consE (fun a5 => consE (fun a159 => consE (fun a160 => consE (fun a161 => nilE (B31 ih a0 a2 a5 a159 a160 a161 h))))))) vs
noncomputable def B33 (ih : Nat → List V → Hp → VH) (a2 a10 a11 : V) (h : Hp) : VH :=
loadN 4 a11 h fun v175 =>
storeN 4 a2 v175 h fun h176 =>
loadN 4 a2 h176 fun v177 =>
some (.tuple [v177, a10, (.int .i64 (.ofNat 0))], h176)
noncomputable def G33 : Sh := fun ih vs h => consE (fun a2 => consE (fun a10 => consE (fun a11 => nilE (B33 ih a2 a10 a11 h)))) vs
noncomputable def B54 (ih : Nat → List V → Hp → VH) (a0 : V) (h : Hp) : VH :=
bindS (ih 84 [a0, (.str (us [45, 45]))] h) fun v0 h1 =>
notS v0 fun v2 =>
ifS v2 (
some (.tuple [(.bool false), (.int .i64 (.ofNat 0))], h1)) (
bindS (ih 86 [a0, (.int .i64 (.ofNat 2))] h1) fun v3 h4 =>
extS 0 v3 fun v5 =>
extS 1 v3 fun v6 =>
extS 2 v3 fun v7 =>
guardS v7 true (some (v6, h4)) h4 fun v8 h9 =>
guardS v7 true (intS .eql v8 (.int .i64 (.ofNat 0)) fun v10 =>
some (v10, h9)) h9 fun v11 h12 =>
optS (pickV v7 v11 (.bool false)) fun v13 =>
ifS v13 (
some (.tuple [(.bool true), (.int .i64 (.ofNat 30))], h12)) (
ifS v7 (
intS .add v6 (.int .i64 (.ofNat 2)) fun v14 =>
bindS (ih 48 [a0, v14] h12) fun v15 h16 =>
ih 35 [] h16) (
bindS (ih 50 [a0, (.int .i64 (.ofNat 0)), (.func 44 [] [])] h12) fun v17 h18 =>
bindS (ih 48 [a0, v17] h18) fun v19 h20 =>
ih 35 [] h20)))
noncomputable def G54 : Sh := fun ih vs h => consE (fun a0 => nilE (B54 ih a0 h)) vs
noncomputable def B35 (ih : Nat → List V → Hp → VH) (h : Hp) : VH :=
some (.tuple [(.bool true), (.int .i64 (.ofNat 0))], h)
noncomputable def G35 : Sh := fun ih vs h => nilE (B35 ih  h) vs
noncomputable def B50 (ih : Nat → List V → Hp → VH) (a0 a1 a2 : V) (h : Hp) : VH :=
ih 37 [a0, a1, a2, a1] h
noncomputable def G50 : Sh := fun ih vs h => consE (fun a0 => consE (fun a1 => consE (fun a2 => nilE (B50 ih a0 a1 a2 h)))) vs
noncomputable def B37 (ih : Nat → List V → Hp → VH) (a0 a1 a2 a7 : V) (h : Hp) : VH :=
nilS a0 fun v0 =>
addrS 1 v0 fun v1 =>
load1 v1 h fun v2 =>
intS .add v2 a7 fun v3 =>
nilS a0 fun v4 =>
addrS 0 v4 fun v5 =>
load1 v5 h fun v6 =>
lenStr v6 fun v7 =>
intS .lss v3 v7 fun v8 =>
guardS v8 true (some (a2, h)) h fun v9 _ =>
guardS v8 true (some (a0, h)) h fun v10 _ =>
guardS v8 true (nilS v10 fun v11 =>
some (v11, h)) h fun v12 _ =>
guardS v8 true (addrS 0 v12 fun v13 =>
some (v13, h)) h fun v14 _ =>
guardS v8 true (load1 v14 h fun v15 =>
some (v15, h)) h fun v16 _ =>
guardS v8 true (some (a0, h)) h fun v17 _ =>
guardS v8 true (nilS v17 fun v18 =>
some (v18, h)) h fun v19 _ =>
guardS v8 true (addrS 1 v19 fun v20 =>
some (v20, h)) h fun v21 _ =>
guardS v8 true (load1 v21 h fun v22 =>
some (v22, h)) h fun v23 _ =>
guardS v8 true (some (a7, h)) h fun v24 _ =>
guardS v8 true (intS .add v23 v24 fun v25 =>
some (v25, h)) h fun v26 _ =>
guardS v8 true (idxStr v16 v26 fun v27 =>
some (v27, h)) h fun v28 _ =>
guardS v8 true (bindS (dynE ih v9 [v28] h) fun v29 h30 =>
some (v29, h30)) h fun v31 h32 =>
optS (pickV v8 v31 (.bool false)) fun v33 =>
ifS v33 (
intS .add a7 (.int .i64 (.ofNat 1)) fun v34 =>
ih 37 [a0, a1, a2, v34] h32) (
intS .sub a7 a1 fun v35 =>
some (v35, h32))
noncomputable def G37 : Sh := fun ih vs h => consE (fun a0 => consE (fun a1 => consE (fun a2 => consE (fun a7 => nilE (B37 ih a0 a1 a2 a7 h))))) vs
noncomputable def B44 (ih : Nat → List V → Hp → VH) (a0 a1 : V) (h : Hp) : VH :=
lenSl a0 fun v0 =>
bindS (ih 78 [a0, v0, a1] h) fun v1 h2 =>
some (.tuple [], h2)
noncomputable def G44 : Sh := fun ih vs h => consE (fun a0 => consE (fun a1 => nilE (B44 ih a0 a1 h))) vs
noncomputable def B46 (ih : Nat → List V → Hp → VH) (a0 a1 : V) (h : Hp) : VH :=
lenStr a1 fun v0 =>
lenStr a0 fun v1 =>
intS .sub v0 v1 fun v2 =>
some (v2, h)
noncomputable def G46 : Sh := fun ih vs h => consE (fun a0 => consE (fun a1 => nilE (B46 ih a0 a1 h))) vs
noncomputable def B52 (ih : Nat → List V → Hp → VH) (a0 : V) (h : Hp) : VH :=
intS .eql a0 (.int .u8 (.ofNat 32)) fun v0 =>
guardS v0 false (some (a0, h)) h fun v1 h2 =>
guardS v0 false (bindS (ih 82 [(.int .u8 (.ofNat 9)), v1, (.int .u8 (.ofNat 13))] h2) fun v3 h4 =>
some (v3, h4)) h2 fun v5 h6 =>
optS (pickV v0 (.bool true) v5) fun v7 =>
some (v7, h6)
noncomputable def G52 : Sh := fun ih vs h => consE (fun a0 => nilE (B52 ih a0 h)) vs
noncomputable def B112 (ih : Nat → List V → Hp → VH) (a0 a1 a2 a3 : V) (h : Hp) : VH :=
ih 39 [a0, a1, a2, a3, (.bool true), (.bool true)] h
noncomputable def G112 : Sh := fun ih vs h => consE (fun a0 => consE (fun a1 => consE (fun a2 => consE (fun a3 => nilE (B112 ih a0 a1 a2 a3 h))))) vs
noncomputable def B39 (ih : Nat → List V → Hp → VH) (a0 a1 a2 a3 a8 a9 : V) (h : Hp) : VH :=
intS .sub a2 a1 fun v0 =>
intS .leq v0 (.int .i64 (.ofNat 12)) fun v1 =>
ifS v1 (
bindS (ih 178 [a0, a1, a2] h) fun v2 h3 =>
some (.tuple [], h3)) (
intS .eql a3 (.int .i64 (.ofNat 0)) fun v4 =>
ifS v4 (
bindS (ih 180 [a0, a1, a2] h) fun v5 h6 =>
some (.tuple [], h6)) (
notS a8 fun v7 =>
ifS v7 (
bindS (ih 182 [a0, a1, a2] h) fun v8 h9 =>
intS .sub a3 (.int .i64 (.ofNat 1)) fun v10 =>
ih 41 [a0, a1, a2, v10, a8, a9, v0] h9) (
ih 41 [a0, a1, a2, a3, a8, a9, v0] h)))
noncomputable def G39 : Sh := fun ih vs h => consE (fun a0 => consE (fun a1 => consE (fun a2 => consE (fun a3 => consE (fun a8 => consE (fun a9 => nilE (B39 ih a0 a1 a2 a3 a8 a9 h))))))) vs
noncomputable def B41 (ih : Nat → List V → Hp → VH) (a0 a1 a2 a3 a8 a9 a10 : V) (h : Hp) : VH :=
bindS (ih 184 [a0, a1, a2] h) fun v11 h12 =>
extS 0 v11 fun v13 =>
extS 1 v11 fun v14 =>
intS .eql v14 (.int .i64 (.ofNat 2)) fun v15 =>
ifS v15 (
bindS (ih 186 [a0, a1, a2] h12) fun v16 h17 =>
intS .sub a2 (.int .i64 (.ofNat 1)) fun v18 =>
intS .sub v13 a1 fun v19 =>
intS .sub v18 v19 fun v20 =>
ih 43 [a0, a1, a2, a3, a8, a9, a10, v20, (.int .i64 (.ofNat 1))] h17) (
ih 43 [a0, a1, a2, a3, a8, a9, a10, v13, v14] h12)
noncomputable def G41 : Sh := fun ih vs h => consE (fun a0 => consE (fun a1 => consE (fun a2 => consE (fun a3 => consE (fun a8 => consE (fun a9 => consE (fun a10 => nilE (B41 ih a0 a1 a2 a3 a8 a9 a10 h)))))))) vs
noncomputable def B43 (ih : Nat → List V → Hp → VH) (a0 a1 a2 a3 a8 a9 a10 a11 a12 : V) (h : Hp) : VH :=
guardS a8 true (some (a9, h)) h fun v21 h22 =>
optS (pickV a8 v21 (.bool false)) fun v23 =>
guardS v23 true (some (a12, h22)) h22 fun v24 h25 =>
guardS v23 true (intS .eql v24 (.int .i64 (.ofNat 1)) fun v26 =>
some (v26, h25)) h25 fun v27 h28 =>
optS (pickV v23 v27 (.bool false)) fun v29 =>
ifS v29 (
bindS (ih 188 [a0, a1, a2] h28) fun v30 h31 =>
ifS v30 (
some (.tuple [], h31)) (
ih 45 [a0, a1, a2, a3, a8, a9, a10, a11] h31)) (
ih 45 [a0, a1, a2, a3, a8, a9, a10, a11] h28)
noncomputable def G43 : Sh := fun ih vs h => consE (fun a0 => consE (fun a1 => consE (fun a2 => consE (fun a3 => consE (fun a8 => consE (fun a9 => consE (fun a10 => consE (fun a11 => consE (fun a12 => nilE (B43 ih a0 a1 a2 a3 a8 a9 a10 a11 a12 h)))))))))) vs
noncomputable def B45 (ih : Nat → List V → Hp → VH) (a0 a1 a2 a3 a8 a9 a10 a11 : V) (h : Hp) : VH :=
intS .gtr a1 (.int .i64 (.ofNat 0)) fun v32 =>
guardS v32 true (some (a0, h)) h fun v33 _ =>
guardS v32 true (some (a1, h)) h fun v34 _ =>
guardS v32 true (intS .sub v34 (.int .i64 (.ofNat 1)) fun v35 =>
some (v35, h)) h fun v36 _ =>
guardS v32 true (idxS 1 v33 v36 fun v37 =>
some (v37, h)) h fun v38 _ =>
guardS v32 true (load1 v38 h fun v39 =>
some (v39, h)) h fun v40 _ =>
guardS v32 true (some (a0, h)) h fun v41 _ =>
guardS v32 true (some (a11, h)) h fun v42 _ =>
guardS v32 true (idxS 1 v41 v42 fun v43 =>
some (v43, h)) h fun v44 _ =>
guardS v32 true (load1 v44 h fun v45 =>
some (v45, h)) h fun v46 _ =>
guardS v32 true (bindS (ih 190 [v40, v46] h) fun v47 h48 =>
some (v47, h48)) h fun v49 h50 =>
guardS v32 true (notS v49 fun v51 =>
some (v51, h50)) h50 fun v52 h53 =>
optS (pickV v32 v52 (.bool false)) fun v54 =>
ifS v54 (
bindS (ih 192 [a0, a1, a2, a11] h53) fun v55 h56 =>
ih 39 [a0, v55, a2, a3, a8, a9] h56) (
bindS (ih 194 [a0, a1, a2, a11] h53) fun v57 h58 =>
extS 0 v57 fun v59 =>
extS 1 v57 fun v60 =>
intS .sub v59 a1 fun v61 =>
intS .sub a2 v59 fun v62 =>
intS .quo a10 (.int .i64 (.ofNat 8)) fun v63 =>
intS .lss v61 v62 fun v64 =>
ifS v64 (
intS .geq v61 v63 fun v65 =>
bindS (ih 112 [a0, a1, v59, a3] h58) fun v66 h67 =>
intS .add v59 (.int .i64 (.ofNat 1)) fun v68 =>
ih 39 [a0, v68, a2, a3, v65, v60] h67) (
intS .geq v62 v63 fun v69 =>
intS .add v59 (.int .i64 (.ofNat 1)) fun v70 =>
bindS (ih 112 [a0, v70, a2, a3] h58) fun v71 h72 =>
ih 39 [a0, a1, v59, a3, v69, v60] h72))
noncomputable def G45 : Sh := fun ih vs h => consE (fun a0 => consE (fun a1 => consE (fun a2 => consE (fun a3 => consE (fun a8 => consE (fun a9 => consE (fun a10 => consE (fun a11 => nilE (B45 ih a0 a1 a2 a3 a8 a9 a10 a11 h))))))))) vs
noncomputable def B114 (ih : Nat → List V → Hp → VH) (a0 : V) (h : Hp) : VH :=
ifS (.bool false) (
convI .u32 a0 fun v0 =>
bindS (ih 196 [v0] h) fun v1 h2 =>
some (v1, h2)) (
bindS (ih 198 [a0] h) fun v3 h4 =>
some (v3, h4))
noncomputable def G114 : Sh := fun ih vs h => consE (fun a0 => nilE (B114 ih a0 h)) vs
noncomputable def B80 (ih : Nat → List V → Hp → VH) (a0 : V) (h : Hp) : VH :=
intS .eql a0 (.int .u8 (.ofNat 10)) fun v0 =>
guardS v0 false (some (a0, h)) h fun v1 h2 =>
guardS v0 false (intS .eql v1 (.int .u8 (.ofNat 13)) fun v3 =>
some (v3, h2)) h2 fun v4 h5 =>
optS (pickV v0 (.bool true) v4) fun v6 =>
some (v6, h5)
noncomputable def G80 : Sh := fun ih vs h => consE (fun a0 => nilE (B80 ih a0 h)) vs
noncomputable def B84 (ih : Nat → List V → Hp → VH) (a0 a1 : V) (h : Hp) : VH :=
nilS a0 fun v0 =>
addrS 0 v0 fun v1 =>
load1 v1 h fun v2 =>
nilS a0 fun v3 =>
addrS 1 v3 fun v4 =>
load1 v4 h fun v5 =>
slStrK (some v5) none v2 fun v6 =>
bindS (ih 104 [v6, a1] h) fun v7 h8 =>
some (v7, h8)
noncomputable def G84 : Sh := fun ih vs h => consE (fun a0 => consE (fun a1 => nilE (B84 ih a0 a1 h))) vs
noncomputable def B104 (ih : Nat → List V → Hp → VH) (a0 a1 : V) (h : Hp) : VH :=
bindS (ih 172 [a0, a1] h) fun v0 h1 =>
some (v0, h1)
noncomputable def G104 : Sh := fun ih vs h => consE (fun a0 => consE (fun a1 => nilE (B104 ih a0 a1 h))) vs
noncomputable def B102 (ih : Nat → List V → Hp → VH) (a0 : V) (h : Hp) : VH :=
lenStr a0 fun v0 =>
intS .lss v0 (.int .i64 (.ofNat 2)) fun v1 =>
guardS v1 false (some (a0, h)) h fun v2 h3 =>
guardS v1 false (idxStr v2 (.int .i64 (.ofNat 0)) fun v4 =>
some (v4, h3)) h3 fun v5 h6 =>
guardS v1 false (intS .neq v5 (.int .u8 (.ofNat 34)) fun v7 =>
some (v7, h6)) h6 fun v8 h9 =>
guardS v1 false (some (v8, h9)) h9 fun v10 h11 =>
guardS v10 true (some (a0, h11)) h11 fun v12 h13 =>
guardS v10 true (idxStr v12 (.int .i64 (.ofNat 0)) fun v14 =>
some (v14, h13)) h13 fun v15 h16 =>
guardS v10 true (intS .neq v15 (.int .u8 (.ofNat 39)) fun v17 =>
some (v17, h16)) h16 fun v18 h19 =>
guardS v1 false (optS (pickV v10 v18 (.bool false)) fun v20 =>
some (v20, h19)) h19 fun v21 h22 =>
optS (pickV v1 (.bool true) v21) fun v23 =>
ifS v23 (
some (.tuple [(.str (us [])), (.int .i64 (.ofNat 30))], h22)) (
newS 91 [.nilPtr, .nilSlice] h22 fun v24 h25 =>
ih 57 [a0, v24, (.int .i64 (.ofNat 1))] h25)
noncomputable def G102 : Sh := fun ih vs h => consE (fun a0 => nilE (B102 ih a0 h)) vs
noncomputable def B55 (ih : Nat → List V → Hp → VH) (a0 a4 a5 : V) (h : Hp) : VH :=
lenStr a0 fun v26 =>
intS .sub v26 (.int .i64 (.ofNat 1)) fun v27 =>
intS .neq a5 v27 fun v28 =>
ifS v28 (
some (.tuple [(.str (us [])), (.int .i64 (.ofNat 30))], h)) (
bindS (ih 146 [a4] h) fun v29 h30 =>
some (.tuple [v29, (.int .i64 (.ofNat 0))], h30))
noncomputable def G55 : Sh := fun ih vs h => consE (fun a0 => consE (fun a4 => consE (fun a5 => nilE (B55 ih a0 a4 a5 h)))) vs
noncomputable def B57 (ih : Nat → List V → Hp → VH) (a0 a4 a5 : V) (h : Hp) : VH :=
lenStr a0 fun v31 =>
intS .lss a5 v31 fun v32 =>
ifS v32 (
idxStr a0 a5 fun v33 =>
idxStr a0 (.int .i64 (.ofNat 0)) fun v34 =>
intS .eql v33 v34 fun v35 =>
ifS v35 (
ih 55 [a0, a4, a5] h) (
intS .eql v33 (.int .u8 (.ofNat 10)) fun v36 =>
guardS v36 false (some (v33, h)) h fun v37 h38 =>
guardS v36 false (intS .eql v37 (.int .u8 (.ofNat 13)) fun v39 =>
some (v39, h38)) h38 fun v40 h41 =>
optS (pickV v36 (.bool true) v40) fun v42 =>
ifS v42 (
some (.tuple [(.str (us [])), (.int .i64 (.ofNat 30))], h41)) (
intS .eql v33 (.int .u8 (.ofNat 92)) fun v43 =>
ifS v43 (
intS .add a5 (.int .i64 (.ofNat 1)) fun v44 =>
slStrK (some v44) none a0 fun v45 =>
bindS (ih 170 [v45] h41) fun v46 h47 =>
extS 0 v46 fun v48 =>
extS 1 v46 fun v49 =>
intS .eql v49 (.int .i64 (.ofNat 0)) fun v50 =>
ifS v50 (
some (.tuple [(.str (us [])), (.int .i64 (.ofNat 30))], h47)) (
bindS (ih 144 [a4, v48] h47) fun v51 h52 =>
intS .add v49 (.int .i64 (.ofNat 1)) fun v53 =>
intS .add a5 v53 fun v54 =>
ih 57 [a0, a4, v54] h52)) (
bindS (ih 142 [a4, v33] h41) fun v55 h56 =>
intS .add a5 (.int .i64 (.ofNat 1)) fun v57 =>
ih 57 [a0, a4, v57] h56)))) (
ih 55 [a0, a4, a5] h)
noncomputable def G57 : Sh := fun ih vs h => consE (fun a0 => consE (fun a4 => consE (fun a5 => nilE (B57 ih a0 a4 a5 h)))) vs
noncomputable def B100 (ih : Nat → List V → Hp → VH) (a0 : V) (h : Hp) : VH :=
ih 59 [a0, (.int .i64 (.ofNat 1))] h
noncomputable def G100 : Sh := fun ih vs h => consE (fun a0 => nilE (B100 ih a0 h)) vs
noncomputable def B59 (ih : Nat → List V → Hp → VH) (a0 a3 : V) (h : Hp) : VH :=
nilS a0 fun v0 =>
addrS 1 v0 fun v1 =>
load1 v1 h fun v2 =>
intS .add v2 a3 fun v3 =>
nilS a0 fun v4 =>
addrS 0 v4 fun v5 =>
load1 v5 h fun v6 =>
lenStr v6 fun v7 =>
intS .lss v3 v7 fun v8 =>
ifS v8 (
nilS a0 fun v9 =>
addrS 0 v9 fun v10 =>
load1 v10 h fun v11 =>
nilS a0 fun v12 =>
addrS 1 v12 fun v13 =>
load1 v13 h fun v14 =>
intS .add v14 a3 fun v15 =>
idxStr v11 v15 fun v16 =>
nilS a0 fun v17 =>
addrS 0 v17 fun v18 =>
load1 v18 h fun v19 =>
nilS a0 fun v20 =>
addrS 1 v20 fun v21 =>
load1 v21 h fun v22 =>
idxStr v19 v22 fun v23 =>
intS .eql v16 v23 fun v24 =>
ifS v24 (
intS .add a3 (.int .i64 (.ofNat 1)) fun v25 =>
some (v25, h)) (
bindS (ih 80 [v16] h) fun v26 h27 =>
ifS v26 (
some ((.int .i64 (.ofNat 0)), h27)) (
intS .eql v16 (.int .u8 (.ofNat 92)) fun v28 =>
guardS v28 true (some (a0, h27)) h27 fun v29 _ =>
guardS v28 true (nilS v29 fun v30 =>
some (v30, h27)) h27 fun v31 _ =>
guardS v28 true (addrS 1 v31 fun v32 =>
some (v32, h27)) h27 fun v33 _ =>
guardS v28 true (load1 v33 h27 fun v34 =>
some (v34, h27)) h27 fun v35 _ =>
guardS v28 true (some (a3, h27)) h27 fun v36 _ =>
guardS v28 true (intS .add v35 v36 fun v37 =>
some (v37, h27)) h27 fun v38 _ =>
guardS v28 true (intS .add v38 (.int .i64 (.ofNat 1)) fun v39 =>
some (v39, h27)) h27 fun v40 _ =>
guardS v28 true (some (a0, h27)) h27 fun v41 _ =>
guardS v28 true (nilS v41 fun v42 =>
some (v42, h27)) h27 fun v43 _ =>
guardS v28 true (addrS 0 v43 fun v44 =>
some (v44, h27)) h27 fun v45 _ =>
guardS v28 true (load1 v45 h27 fun v46 =>
some (v46, h27)) h27 fun v47 _ =>
guardS v28 true (lenStr v47 fun v48 =>
some (v48, h27)) h27 fun v49 _ =>
guardS v28 true (intS .lss v40 v49 fun v50 =>
some (v50, h27)) h27 fun v51 h52 =>
optS (pickV v28 v51 (.bool false)) fun v53 =>
ifS v53 (
intS .add a3 (.int .i64 (.ofNat 1)) fun v54 =>
bindS (ih 168 [a0, v54] h52) fun v55 h56 =>
intS .add a3 v55 fun v57 =>
ih 61 [a0, v57] h56) (
ih 61 [a0, a3] h52)))) (
some ((.int .i64 (.ofNat 0)), h))
noncomputable def G59 : Sh := fun ih vs h => consE (fun a0 => consE (fun a3 => nilE (B59 ih a0 a3 h))) vs
noncomputable def B61 (ih : Nat → List V → Hp → VH) (a0 a3 : V) (h : Hp) : VH :=
intS .add a3 (.int .i64 (.ofNat 1)) fun v58 =>
ih 59 [a0, v58] h
noncomputable def G61 : Sh := fun ih vs h => consE (fun a0 => consE (fun a3 => nilE (B61 ih a0 a3 h))) vs
noncomputable def B98 (ih : Nat → List V → Hp → VH) (a0 : V) (h : Hp) : VH :=
newS 25 [(.int .u8 (.ofNat 0)), (.str (us [])), (.int .i64 (.ofNat 0)), (.int .i64 (.ofNat 0))] h fun v0 h1 =>
bindS (ih 104 [a0, (.str (us [48, 120]))] h1) fun v2 h3 =>
guardS v2 false (some (a0, h3)) h3 fun v4 h5 =>
guardS v2 false (bindS (ih 104 [v4, (.str (us [48, 88]))] h5) fun v6 h7 =>
some (v6, h7)) h5 fun v8 h9 =>
optS (pickV v2 (.bool true) v8) fun v10 =>
bindS (ih 162 [a0, (.str (us [48, 49, 50, 51, 52, 53, 54, 55, 56, 57]))] h9) fun v11 h12 =>
strS .eql v11 (.str (us [])) fun v13 =>
bindS (ih 164 [a0] h12) fun v14 h15 =>
extS 0 v14 fun v16 =>
extS 1 v14 fun v17 =>
guardS v17 true (some (v10, h15)) h15 fun v18 h19 =>
guardS v17 true (some (v18, h19)) h19 fun v20 h21 =>
guardS v20 false (some (v13, h21)) h21 fun v22 h23 =>
guardS v17 true (optS (pickV v20 (.bool true) v22) fun v24 =>
some (v24, h23)) h23 fun v25 h26 =>
optS (pickV v17 v25 (.bool false)) fun v27 =>
ifS v27 (
bindS (bldStruct h26 [(0, (.int .u8 (.ofNat 4))), (2, v16)] (.agg [(.int .u8 (.ofNat 0)), (.str (us [])), (.int .i64 (.ofNat 0)), (.int .i64 (.ofNat 0))]) (some [(0, 1), (1, 1), (2, 1), (3, 1)])) fun v28 h29 =>
storeN 4 v0 v28 h29 fun h30 =>
loadN 4 v0 h30 fun v31 =>
some (.tuple [v31, (.int .i64 (.ofNat 0))], h30)) (
guardS v13 false (some (a0, h26)) h26 fun v32 h33 =>
guardS v13 false (bindS (ih 58 [v32, (.str (us [46]))] h33) fun v34 h35 =>
some (v34, h35)) h33 fun v36 h37 =>
optS (pickV v13 (.bool true) v36) fun v38 =>
guardS v38 false (some (v10, h37)) h37 fun v39 h40 =>
guardS v38 false (notS v39 fun v41 =>
some (v41, h40)) h40 fun v42 h43 =>
guardS v38 false (some (v42, h43)) h43 fun v44 h45 =>
guardS v44 true (some (a0, h45)) h45 fun v46 h47 =>
guardS v44 true (bindS (ih 166 [v46, (.str (us [101, 69]))] h47) fun v48 h49 =>
some (v48, h49)) h47 fun v50 h51 =>
guardS v38 false (optS (pickV v44 v50 (.bool false)) fun v52 =>
some (v52, h51)) h51 fun v53 h54 =>
optS (pickV v38 (.bool true) v53) fun v55 =>
guardS v55 false (some (v10, h54)) h54 fun v56 h57 =>
guardS v55 false (some (v56, h57)) h57 fun v58 h59 =>
guardS v58 true (some (a0, h59)) h59 fun v60 h61 =>
guardS v58 true (bindS (ih 166 [v60, (.str (us [112, 80]))] h61) fun v62 h63 =>
some (v62, h63)) h61 fun v64 h65 =>
guardS v55 false (optS (pickV v58 v64 (.bool false)) fun v66 =>
some (v66, h65)) h65 fun v67 h68 =>
optS (pickV v55 (.bool true) v67) fun v69 =>
ifS v69 (
bindS (bldStruct h68 [] (.agg [(.int .u8 (.ofNat 0)), (.str (us [])), (.int .i64 (.ofNat 0)), (.int .i64 (.ofNat 0))]) (some [(0, 1), (1, 1), (2, 1), (3, 1)])) fun v70 h71 =>
storeN 4 v0 v70 h71 fun h72 =>
loadN 4 v0 h72 fun v73 =>
some (.tuple [v73, (.int .i64 (.ofNat 31))], h72)) (
bindS (bldStruct h68 [] (.agg [(.int .u8 (.ofNat 0)), (.str (us [])), (.int .i64 (.ofNat 0)), (.int .i64 (.ofNat 0))]) (some [(0, 1), (1, 1), (2, 1), (3, 1)])) fun v74 h75 =>
storeN 4 v0 v74 h75 fun h76 =>
loadN 4 v0 h76 fun v77 =>
some (.tuple [v77, (.int .i64 (.ofNat 30))], h76)))
noncomputable def G98 : Sh := fun ih vs h => consE (fun a0 => nilE (B98 ih a0 h)) vs
noncomputable def B96 (ih : Nat → List V → Hp → VH) (a0 : V) (h : Hp) : VH :=
newS 9 [(.str (us []))] h fun v0 h1 =>
storeC v0 (.str (us [101, 69])) h1 fun h2 =>
bindS (ih 84 [a0, (.str (us [48, 120]))] h2) fun v3 h4 =>
guardS v3 false (some (a0, h4)) h4 fun v5 h6 =>
guardS v3 false (bindS (ih 84 [v5, (.str (us [48, 88]))] h6) fun v7 h8 =>
some (v7, h8)) h6 fun v9 h10 =>
optS (pickV v3 (.bool true) v9) fun v11 =>
ifS v11 (
storeC v0 (.str (us [112, 80])) h10 fun h12 =>
ih 63 [a0, v0] h12) (
ih 63 [a0, v0] h10)
noncomputable def G96 : Sh := fun ih vs h => consE (fun a0 => nilE (B96 ih a0 h)) vs
noncomputable def B63 (ih : Nat → List V → Hp → VH) (a0 a3 : V) (h : Hp) : VH :=
newS 5 [(.int .u8 (.ofNat 0))] h fun v13 h14 =>
storeC v13 (.int .u8 (.ofNat 0)) h14 fun h15 =>
bindS (ih 50 [a0, (.int .i64 (.ofNat 0)), (.func 79 [] [a3, v13])] h15) fun v16 h17 =>
some (v16, h17)
noncomputable def G63 : Sh := fun ih vs h => consE (fun a0 => consE (fun a3 => nilE (B63 ih a0 a3 h))) vs
noncomputable def B92 (ih : Nat → List V → Hp → VH) (a0 : V) (h : Hp) : VH :=
bindS (ih 82 [(.int .u8 (.ofNat 97)), a0, (.int .u8 (.ofNat 122))] h) fun v0 h1 =>
guardS v0 false (some (a0, h1)) h1 fun v2 h3 =>
guardS v0 false (bindS (ih 82 [(.int .u8 (.ofNat 65)), v2, (.int .u8 (.ofNat 90))] h3) fun v4 h5 =>
some (v4, h5)) h3 fun v6 h7 =>
optS (pickV v0 (.bool true) v6) fun v8 =>
guardS v8 false (some (a0, h7)) h7 fun v9 h10 =>
guardS v8 false (intS .eql v9 (.int .u8 (.ofNat 95)) fun v11 =>
some (v11, h10)) h10 fun v12 h13 =>
optS (pickV v8 (.bool true) v12) fun v14 =>
some (v14, h13)
noncomputable def G92 : Sh := fun ih vs h => consE (fun a0 => nilE (B92 ih a0 h)) vs
noncomputable def B86 (ih : Nat → List V → Hp → VH) (a0 a1 : V) (h : Hp) : VH :=
nilS a0 fun v0 =>
addrS 0 v0 fun v1 =>
load1 v1 h fun v2 =>
nilS a0 fun v3 =>
addrS 1 v3 fun v4 =>
load1 v4 h fun v5 =>
intS .add v5 a1 fun v6 =>
slStrK (some v6) none v2 fun v7 =>
bindS (ih 104 [v7, (.str (us [91]))] h) fun v8 h9 =>
notS v8 fun v10 =>
ifS v10 (
some (.tuple [(.str (us [])), (.int .i64 (.ofNat 0)), (.bool false)], h9)) (
slStrK (some (.int .i64 (.ofNat 1))) none v7 fun v11 =>
lenStr v11 fun v12 =>
slStrK (some (.int .i64 (.ofNat 1))) none v7 fun v13 =>
bindS (ih 152 [v13, (.str (us [61]))] ⟨h9.t, h9.n, h9.n⟩) fun v14 h15 =>
cD ((pureB h9 h15 || false) && ((pureB h9 h15 || false) && true)) (
wroteS h9.low h15 fun h16 =>
lenStr v14 fun v17 =>
intS .sub v12 v17 fun v18 =>
intS .add (.int .i64 (.ofNat 1)) v18 fun v19 =>
slStrK (some v19) none v7 fun v20 =>
bindS (ih 104 [v20, (.str (us [91]))] h16) fun v21 h22 =>
notS v21 fun v23 =>
ifS v23 (
some (.tuple [(.str (us [])), (.int .i64 (.ofNat 0)), (.bool false)], h22)) (
intS .add v18 (.int .i64 (.ofNat 2)) fun v24 =>
slStrK (some v24) none v7 fun v25 =>
intS .add (.int .i64 (.ofNat 1)) v18 fun v26 =>
slStrK (some (.int .i64 (.ofNat 1))) (some v26) v7 fun v27 =>
strS .add (.str (us [93])) v27 fun v28 =>
strS .add v28 (.str (us [93])) fun v29 =>
bindS (ih 106 [v25, v29] h22) fun v30 h31 =>
intS .lss v30 (.int .i64 (.ofNat 0)) fun v32 =>
ifS v32 (
some (.tuple [(.str (us [])), (.int .i64 (.ofNat 0)), (.bool true)], h31)) (
slStrK none (some v30) v25 fun v33 =>
bindS (ih 156 [v33] h31) fun v34 h35 =>
bindS (ih 154 [v34, (.str (us [10]))] h35) fun v36 h37 =>
intS .add v18 (.int .i64 (.ofNat 2)) fun v38 =>
intS .mul (.int .i64 (.ofNat 2)) v38 fun v39 =>
intS .add v30 v39 fun v40 =>
some (.tuple [v36, v40, (.bool true)], h37)))) none)
noncomputable def G86 : Sh := fun ih vs h => consE (fun a0 => consE (fun a1 => nilE (B86 ih a0 a1 h))) vs
noncomputable def B90 (ih : Nat → List V → Hp → VH) (a0 : V) (h : Hp) : VH :=
bindS (ih 82 [(.int .u8 (.ofNat 48)), a0, (.int .u8 (.ofNat 57))] h) fun v0 h1 =>
some (v0, h1)
noncomputable def G90 : Sh := fun ih vs h => consE (fun a0 => nilE (B90 ih a0 h)) vs
noncomputable def B94 (ih : Nat → List V → Hp → VH) (a0 : V) (h : Hp) : VH :=
bindS (ih 92 [a0] h) fun v0 h1 =>
guardS v0 false (some (a0, h1)) h1 fun v2 h3 =>
guardS v0 false (bindS (ih 90 [v2] h3) fun v4 h5 =>
some (v4, h5)) h3 fun v6 h7 =>
optS (pickV v0 (.bool true) v6) fun v8 =>
some (v8, h7)
noncomputable def G94 : Sh := fun ih vs h => consE (fun a0 => nilE (B94 ih a0 h)) vs
noncomputable def B88 (ih : Nat → List V → Hp → VH) (a0 : V) (h : Hp) : VH :=
bindS (ih 80 [a0] h) fun v0 h1 =>
notS v0 fun v2 =>
some (v2, h1)
noncomputable def G88 : Sh := fun ih vs h => consE (fun a0 => nilE (B88 ih a0 h)) vs
noncomputable def B78 (ih : Nat → List V → Hp → VH) (a0 a1 a2 : V) (h : Hp) : VH :=
ih 65 [a0, a1, a2, (.int .i64 (.ofNat 20)), (.int .i64 (.ofNat 0)), (.int .i64 (.ofNat 20))] h
noncomputable def G78 : Sh := fun ih vs h => consE (fun a0 => consE (fun a1 => consE (fun a2 => nilE (B78 ih a0 a1 a2 h)))) vs
noncomputable def B65 (ih : Nat → List V → Hp → VH) (a0 a1 a2 a6 a7 a8 : V) (h : Hp) : VH :=
intS .leq a8 a1 fun v0 =>
ifS v0 (
bindS (ih 148 [a0, a7, a8, a2] h) fun v1 h2 =>
intS .add a8 a6 fun v3 =>
ih 65 [a0, a1, a2, a6, a8, v3] h2) (
bindS (ih 148 [a0, a7, a1, a2] h) fun v4 h5 =>
ih 67 [a0, a1, a2, a6] h5)
noncomputable def G65 : Sh := fun ih vs h => consE (fun a0 => consE (fun a1 => consE (fun a2 => consE (fun a6 => consE (fun a7 => consE (fun a8 => nilE (B65 ih a0 a1 a2 a6 a7 a8 h))))))) vs
noncomputable def B67 (ih : Nat → List V → Hp → VH) (a0 a1 a2 a6 : V) (h : Hp) : VH :=
intS .lss a6 a1 fun v6 =>
ifS v6 (
intS .mul (.int .i64 (.ofNat 2)) a6 fun v7 =>
ih 69 [a0, a1, a2, a6, (.int .i64 (.ofNat 0)), v7] h) (
some (.tuple [], h))
noncomputable def G67 : Sh := fun ih vs h => consE (fun a0 => consE (fun a1 => consE (fun a2 => consE (fun a6 => nilE (B67 ih a0 a1 a2 a6 h))))) vs
noncomputable def B69 (ih : Nat → List V → Hp → VH) (a0 a1 a2 a6 a7 a8 : V) (h : Hp) : VH :=
intS .leq a8 a1 fun v8 =>
ifS v8 (
intS .add a7 a6 fun v9 =>
bindS (ih 150 [a0, a7, v9, a8, a2] h) fun v10 h11 =>
intS .mul (.int .i64 (.ofNat 2)) a6 fun v12 =>
intS .add a8 v12 fun v13 =>
ih 69 [a0, a1, a2, a6, a8, v13] h11) (
intS .add a7 a6 fun v14 =>
intS .lss v14 a1 fun v15 =>
ifS v15 (
bindS (ih 150 [a0, a7, v14, a1, a2] h) fun v16 h17 =>
ih 71 [a0, a1, a2, a6] h17) (
ih 71 [a0, a1, a2, a6] h))
noncomputable def G69 : Sh := fun ih vs h => consE (fun a0 => consE (fun a1 => consE (fun a2 => consE (fun a6 => consE (fun a7 => consE (fun a8 => nilE (B69 ih a0 a1 a2 a6 a7 a8 h))))))) vs
noncomputable def B71 (ih : Nat → List V → Hp → VH) (a0 a1 a2 a6 : V) (h : Hp) : VH :=
intS .mul a6 (.int .i64 (.ofNat 2)) fun v18 =>
ih 67 [a0, a1, a2, v18] h
noncomputable def G71 : Sh := fun ih vs h => consE (fun a0 => consE (fun a1 => consE (fun a2 => consE (fun a6 => nilE (B71 ih a0 a1 a2 a6 h))))) vs
noncomputable def B82 (ih : Nat → List V → Hp → VH) (a0 a1 a2 : V) (h : Hp) : VH :=
intS .geq a1 a0 fun v0 =>
guardS v0 true (some (a1, h)) h fun v1 h2 =>
guardS v0 true (some (a2, h2)) h2 fun v3 h4 =>
guardS v0 true (intS .leq v1 v3 fun v5 =>
some (v5, h4)) h4 fun v6 h7 =>
optS (pickV v0 v6 (.bool false)) fun v8 =>
some (v8, h7)
noncomputable def G82 : Sh := fun ih vs h => consE (fun a0 => consE (fun a1 => consE (fun a2 => nilE (B82 ih a0 a1 a2 h)))) vs
noncomputable def B194 (ih : Nat → List V → Hp → VH) (a0 a1 a2 a3 : V) (h : Hp) : VH :=
idxS 1 a0 a3 fun v0 =>
load1 v0 h fun v1 =>
idxS 1 a0 a1 fun v2 =>
load1 v2 h fun v3 =>
idxS 1 a0 a1 fun v4 =>
ptrE v4 fun b5 o6 => storeB (storeO Tryz.prog h 9 b5 o6 v1) fun c7 =>
idxS 1 a0 a3 fun v8 =>
storeC v8 v3 (h.put b5 c7) fun h9 =>
intS .add a1 (.int .i64 (.ofNat 1)) fun v10 =>
intS .sub a2 (.int .i64 (.ofNat 1)) fun v11 =>
ih 73 [a0, a1, v10, v11] h9
noncomputable def G194 : Sh := fun ih vs h => consE (fun a0 => consE (fun a1 => consE (fun a2 => consE (fun a3 => nilE (B194 ih a0 a1 a2 a3 h))))) vs
noncomputable def B73 (ih : Nat → List V → Hp → VH) (a0 a1 a10 a11 : V) (h : Hp) : VH :=
intS .leq a10 a11 fun v12 =>
guardS v12 true (some (a0, h)) h fun v13 _ =>
guardS v12 true (some (a10, h)) h fun v14 _ =>
guardS v12 true (idxS 1 v13 v14 fun v15 =>
some (v15, h)) h fun v16 _ =>
guardS v12 true (load1 v16 h fun v17 =>
some (v17, h)) h fun v18 _ =>
guardS v12 true (some (a0, h)) h fun v19 _ =>
guardS v12 true (some (a1, h)) h fun v20 _ =>
guardS v12 true (idxS 1 v19 v20 fun v21 =>
some (v21, h)) h fun v22 _ =>
guardS v12 true (load1 v22 h fun v23 =>
some (v23, h)) h fun v24 _ =>
guardS v12 true (bindS (ih 190 [v18, v24] h) fun v25 h26 =>
some (v25, h26)) h fun v27 h28 =>
optS (pickV v12 v27 (.bool false)) fun v29 =>
ifS v29 (
intS .add a10 (.int .i64 (.ofNat 1)) fun v30 =>
ih 73 [a0, a1, v30, a11] h28) (
ih 75 [a0, a1, a10, a11] h28)
noncomputable def G73 : Sh := fun ih vs h => consE (fun a0 => consE (fun a1 => consE (fun a10 => consE (fun a11 => nilE (B73 ih a0 a1 a10 a11 h))))) vs
noncomputable def B75 (ih : Nat → List V → Hp → VH) (a0 a1 a10 a11 : V) (h : Hp) : VH :=
intS .leq a10 a11 fun v31 =>
guardS v31 true (some (a0, h)) h fun v32 _ =>
guardS v31 true (some (a11, h)) h fun v33 _ =>
guardS v31 true (idxS 1 v32 v33 fun v34 =>
some (v34, h)) h fun v35 _ =>
guardS v31 true (load1 v35 h fun v36 =>
some (v36, h)) h fun v37 _ =>
guardS v31 true (some (a0, h)) h fun v38 _ =>
guardS v31 true (some (a1, h)) h fun v39 _ =>
guardS v31 true (idxS 1 v38 v39 fun v40 =>
some (v40, h)) h fun v41 _ =>
guardS v31 true (load1 v41 h fun v42 =>
some (v42, h)) h fun v43 _ =>
guardS v31 true (bindS (ih 190 [v37, v43] h) fun v44 h45 =>
some (v44, h45)) h fun v46 h47 =>
guardS v31 true (notS v46 fun v48 =>
some (v48, h47)) h47 fun v49 h50 =>
optS (pickV v31 v49 (.bool false)) fun v51 =>
ifS v51 (
intS .sub a11 (.int .i64 (.ofNat 1)) fun v52 =>
ih 75 [a0, a1, a10, v52] h50) (
intS .gtr a10 a11 fun v53 =>
ifS v53 (
idxS 1 a0 a1 fun v54 =>
load1 v54 h50 fun v55 =>
idxS 1 a0 a11 fun v56 =>
load1 v56 h50 fun v57 =>
idxS 1 a0 a11 fun v58 =>
ptrE v58 fun b59 o60 => storeB (storeO Tryz.prog h50 9 b59 o60 v55) fun c61 =>
idxS 1 a0 a1 fun v62 =>
storeC v62 v57 (h50.put b59 c61) fun h63 =>
some (.tuple [a11, (.bool true)], h63)) (
idxS 1 a0 a11 fun v64 =>
load1 v64 h50 fun v65 =>
idxS 1 a0 a10 fun v66 =>
load1 v66 h50 fun v67 =>
idxS 1 a0 a10 fun v68 =>
ptrE v68 fun b69 o70 => storeB (storeO Tryz.prog h50 9 b69 o70 v65) fun c71 =>
idxS 1 a0 a11 fun v72 =>
storeC v72 v67 (h50.put b69 c71) fun h73 =>
intS .add a10 (.int .i64 (.ofNat 1)) fun v74 =>
intS .sub a11 (.int .i64 (.ofNat 1)) fun v75 =>
ih 77 [a0, a1, v74, v75] h73))
noncomputable def G75 : Sh := fun ih vs h => consE (fun a0 => consE (fun a1 => consE (fun a10 => consE (fun a11 => nilE (B75 ih a0 a1 a10 a11 h))))) vs
noncomputable def B77 (ih : Nat → List V → Hp → VH) (a0 a1 a10 a11 : V) (h : Hp) : VH :=
ih 79 [a0, a1, a10, a11] h
noncomputable def G77 : Sh := fun ih vs h => consE (fun a0 => consE (fun a1 => consE (fun a10 => consE (fun a11 => nilE (B77 ih a0 a1 a10 a11 h))))) vs
noncomputable def B79 (ih : Nat → List V → Hp → VH) (a0 a1 a10 a11 : V) (h : Hp) : VH :=
intS .leq a10 a11 fun v76 =>
guardS v76 true (some (a0, h)) h fun v77 _ =>
guardS v76 true (some (a10, h)) h fun v78 _ =>
guardS v76 true (idxS 1 v77 v78 fun v79 =>
some (v79, h)) h fun v80 _ =>
guardS v76 true (load1 v80 h fun v81 =>
some (v81, h)) h fun v82 _ =>
guardS v76 true (some (a0, h)) h fun v83 _ =>
guardS v76 true (some (a1, h)) h fun v84 _ =>
guardS v76 true (idxS 1 v83 v84 fun v85 =>
some (v85, h)) h fun v86 _ =>
guardS v76 true (load1 v86 h fun v87 =>
some (v87, h)) h fun v88 _ =>
guardS v76 true (bindS (ih 190 [v82, v88] h) fun v89 h90 =>
some (v89, h90)) h fun v91 h92 =>
optS (pickV v76 v91 (.bool false)) fun v93 =>
ifS v93 (
intS .add a10 (.int .i64 (.ofNat 1)) fun v94 =>
ih 79 [a0, a1, v94, a11] h92) (
ih 81 [a0, a1, a10, a11] h92)
noncomputable def G79 : Sh := fun ih vs h => consE (fun a0 => consE (fun a1 => consE (fun a10 => consE (fun a11 => nilE (B79 ih a0 a1 a10 a11 h))))) vs
noncomputable def B81 (ih : Nat → List V → Hp → VH) (a0 a1 a10 a11 : V) (h : Hp) : VH :=
intS .leq a10 a11 fun v95 =>
guardS v95 true (some (a0, h)) h fun v96 _ =>
guardS v95 true (some (a11, h)) h fun v97 _ =>
guardS v95 true (idxS 1 v96 v97 fun v98 =>
some (v98, h)) h fun v99 _ =>
guardS v95 true (load1 v99 h fun v100 =>
some (v100, h)) h fun v101 _ =>
guardS v95 true (some (a0, h)) h fun v102 _ =>
guardS v95 true (some (a1, h)) h fun v103 _ =>
guardS v95 true (idxS 1 v102 v103 fun v104 =>
some (v104, h)) h fun v105 _ =>
guardS v95 true (load1 v105 h fun v106 =>
some (v106, h)) h fun v107 _ =>
guardS v95 true (bindS (ih 190 [v101, v107] h) fun v108 h109 =>
some (v108, h109)) h fun v110 h111 =>
guardS v95 true (notS v110 fun v112 =>
some (v112, h111)) h111 fun v113 h114 =>
optS (pickV v95 v113 (.bool false)) fun v115 =>
ifS v115 (
intS .sub a11 (.int .i64 (.ofNat 1)) fun v116 =>
ih 81 [a0, a1, a10, v116] h114) (
intS .gtr a10 a11 fun v117 =>
ifS v117 (
idxS 1 a0 a1 fun v118 =>
load1 v118 h114 fun v119 =>
idxS 1 a0 a11 fun v120 =>
load1 v120 h114 fun v121 =>
idxS 1 a0 a11 fun v122 =>
ptrE v122 fun b123 o124 => storeB (storeO Tryz.prog h114 9 b123 o124 v119) fun c125 =>
idxS 1 a0 a1 fun v126 =>
storeC v126 v121 (h114.put b123 c125) fun h127 =>
some (.tuple [a11, (.bool false)], h127)) (
idxS 1 a0 a11 fun v128 =>
load1 v128 h114 fun v129 =>
idxS 1 a0 a10 fun v130 =>
load1 v130 h114 fun v131 =>
idxS 1 a0 a10 fun v132 =>
ptrE v132 fun b133 o134 => storeB (storeO Tryz.prog h114 9 b133 o134 v129) fun c135 =>
idxS 1 a0 a11 fun v136 =>
storeC v136 v131 (h114.put b133 c135) fun h137 =>
intS .add a10 (.int .i64 (.ofNat 1)) fun v138 =>
intS .sub a11 (.int .i64 (.ofNat 1)) fun v139 =>
ih 77 [a0, a1, v138, v139] h137))
noncomputable def G81 : Sh := fun ih vs h => consE (fun a0 => consE (fun a1 => consE (fun a10 => consE (fun a11 => nilE (B81 ih a0 a1 a10 a11 h))))) vs
noncomputable def B190 (ih : Nat → List V → Hp → VH) (a0 a1 : V) (h : Hp) : VH :=
bindS (ih 260 [a0] h) fun v0 h1 =>
guardS v0 true (some (a1, h1)) h1 fun v2 h3 =>
guardS v0 true (bindS (ih 260 [v2] h3) fun v4 h5 =>
some (v4, h5)) h3 fun v6 h7 =>
guardS v0 true (notS v6 fun v8 =>
some (v8, h7)) h7 fun v9 h10 =>
optS (pickV v0 v9 (.bool false)) fun v11 =>
guardS v11 false (some (a0, h10)) h10 fun v12 h13 =>
guardS v11 false (some (a1, h13)) h13 fun v14 h15 =>
guardS v11 false (strS .lss v12 v14 fun v16 =>
some (v16, h15)) h15 fun v17 h18 =>
optS (pickV v11 (.bool true) v17) fun v19 =>
some (v19, h18)
noncomputable def G190 : Sh := fun ih vs h => consE (fun a0 => consE (fun a1 => nilE (B190 ih a0 a1 h))) vs
noncomputable def B184 (ih : Nat → List V → Hp → VH) (a0 a1 a2 : V) (h : Hp) : VH :=
intS .sub a2 a1 fun v0 =>
newS 3 [(.int .i64 (.ofNat 0))] h fun v1 h2 =>
intS .quo v0 (.int .i64 (.ofNat 4)) fun v3 =>
intS .mul v3 (.int .i64 (.ofNat 1)) fun v4 =>
intS .add a1 v4 fun v5 =>
intS .quo v0 (.int .i64 (.ofNat 4)) fun v6 =>
intS .mul v6 (.int .i64 (.ofNat 2)) fun v7 =>
intS .add a1 v7 fun v8 =>
intS .quo v0 (.int .i64 (.ofNat 4)) fun v9 =>
intS .mul v9 (.int .i64 (.ofNat 3)) fun v10 =>
intS .add a1 v10 fun v11 =>
intS .geq v0 (.int .i64 (.ofNat 8)) fun v12 =>
ifS v12 (
intS .geq v0 (.int .i64 (.ofNat 50)) fun v13 =>
ifS v13 (
bindS (ih 256 [a0, v5, v1] h2) fun v14 h15 =>
bindS (ih 256 [a0, v8, v1] h15) fun v16 h17 =>
bindS (ih 256 [a0, v11, v1] h17) fun v18 h19 =>
ih 105 [a0, v1, v14, v16, v18] h19) (
ih 105 [a0, v1, v5, v8, v11] h2)) (
ih 103 [v1, v8] h2)
noncomputable def G184 : Sh := fun ih vs h => consE (fun a0 => consE (fun a1 => consE (fun a2 => nilE (B184 ih a0 a1 a2 h)))) vs
noncomputable def B103 (ih : Nat → List V → Hp → VH) (a9 a11 : V) (h : Hp) : VH :=
load1 a9 h fun v20 =>
intS .eql v20 (.int .i64 (.ofNat 0)) fun v21 =>
ifS v21 (
some (.tuple [a11, (.int .i64 (.ofNat 1))], h)) (
intS .eql v20 (.int .i64 (.ofNat 12)) fun v22 =>
ifS v22 (
some (.tuple [a11, (.int .i64 (.ofNat 2))], h)) (
some (.tuple [a11, (.int .i64 (.ofNat 0))], h)))
noncomputable def G103 : Sh := fun ih vs h => consE (fun a9 => consE (fun a11 => nilE (B103 ih a9 a11 h))) vs
noncomputable def B105 (ih : Nat → List V → Hp → VH) (a0 a9 a10 a11 a12 : V) (h : Hp) : VH :=
bindS (ih 258 [a0, a10, a11, a12, a9] h) fun v23 h24 =>
ih 103 [a9, v23] h24
noncomputable def G105 : Sh := fun ih vs h => consE (fun a0 => consE (fun a9 => consE (fun a10 => consE (fun a11 => consE (fun a12 => nilE (B105 ih a0 a9 a10 a11 a12 h)))))) vs
noncomputable def B178 (ih : Nat → List V → Hp → VH) (a0 a1 a2 : V) (h : Hp) : VH :=
intS .add a1 (.int .i64 (.ofNat 1)) fun v0 =>
ih 115 [a0, a1, a2, v0] h
noncomputable def G178 : Sh := fun ih vs h => consE (fun a0 => consE (fun a1 => consE (fun a2 => nilE (B178 ih a0 a1 a2 h)))) vs
noncomputable def B115 (ih : Nat → List V → Hp → VH) (a0 a1 a2 a6 : V) (h : Hp) : VH :=
intS .lss a6 a2 fun v1 =>
ifS v1 (
ih 117 [a0, a1, a2, a6, a6] h) (
some (.tuple [], h))
noncomputable def G115 : Sh := fun ih vs h => consE (fun a0 => consE (fun a1 => consE (fun a2 => consE (fun a6 => nilE (B115 ih a0 a1 a2 a6 h))))) vs
noncomputable def B117 (ih : Nat → List V → Hp → VH) (a0 a1 a2 a6 a7 : V) (h : Hp) : VH :=
intS .gtr a7 a1 fun v2 =>
guardS v2 true (some (a0, h)) h fun v3 _ =>
guardS v2 true (some (a7, h)) h fun v4 _ =>
guardS v2 true (idxS 1 v3 v4 fun v5 =>
some (v5, h)) h fun v6 _ =>
guardS v2 true (load1 v6 h fun v7 =>
some (v7, h)) h fun v8 _ =>
guardS v2 true (some (a0, h)) h fun v9 _ =>
guardS v2 true (some (a7, h)) h fun v10 _ =>
guardS v2 true (intS .sub v10 (.int .i64 (.ofNat 1)) fun v11 =>
some (v11, h)) h fun v12 _ =>
guardS v2 true (idxS 1 v9 v12 fun v13 =>
some (v13, h)) h fun v14 _ =>
guardS v2 true (load1 v14 h fun v15 =>
some (v15, h)) h fun v16 _ =>
guardS v2 true (bindS (ih 190 [v8, v16] h) fun v17 h18 =>
some (v17, h18)) h fun v19 h20 =>
optS (pickV v2 v19 (.bool false)) fun v21 =>
ifS v21 (
intS .sub a7 (.int .i64 (.ofNat 1)) fun v22 =>
intS .sub a7 (.int .i64 (.ofNat 1)) fun v23 =>
idxS 1 a0 v23 fun v24 =>
load1 v24 h20 fun v25 =>
idxS 1 a0 a7 fun v26 =>
load1 v26 h20 fun v27 =>
idxS 1 a0 a7 fun v28 =>
ptrE v28 fun b29 o30 => storeB (storeO Tryz.prog h20 9 b29 o30 v25) fun c31 =>
idxS 1 a0 v22 fun v32 =>
storeC v32 v27 (h20.put b29 c31) fun h33 =>
intS .sub a7 (.int .i64 (.ofNat 1)) fun v34 =>
ih 117 [a0, a1, a2, a6, v34] h33) (
intS .add a6 (.int .i64 (.ofNat 1)) fun v35 =>
ih 115 [a0, a1, a2, v35] h20)
noncomputable def G117 : Sh := fun ih vs h => consE (fun a0 => consE (fun a1 => consE (fun a2 => consE (fun a6 => consE (fun a7 => nilE (B117 ih a0 a1 a2 a6 a7 h)))))) vs
noncomputable def B198 (ih : Nat → List V → Hp → VH) (a0 : V) (h : Hp) : VH :=
intS .geq a0 (.int .u64 (.ofNat 4294967296)) fun v0 =>
ifS v0 (
shS .shr a0 (.int .u64 (.ofNat 32)) fun v1 =>
ih 119 [v1, (.int .i64 (.ofNat 32))] h) (
ih 119 [a0, (.int .i64 (.ofNat 0))] h)
noncomputable def G198 : Sh := fun ih vs h => consE (fun a0 => nilE (B198 ih a0 h)) vs
noncomputable def B119 (ih : Nat → List V → Hp → VH) (a0 a2 : V) (h : Hp) : VH :=
intS .geq a0 (.int .u64 (.ofNat 65536)) fun v2 =>
ifS v2 (
shS .shr a0 (.int .u64 (.ofNat 16)) fun v3 =>
intS .add a2 (.int .i64 (.ofNat 16)) fun v4 =>
ih 121 [v3, v4] h) (
ih 121 [a0, a2] h)
noncomputable def G119 : Sh := fun ih vs h => consE (fun a0 => consE (fun a2 => nilE (B119 ih a0 a2 h))) vs
noncomputable def B121 (ih : Nat → List V → Hp → VH) (a0 a2 : V) (h : Hp) : VH :=
intS .geq a0 (.int .u64 (.ofNat 256)) fun v5 =>
ifS v5 (
shS .shr a0 (.int .u64 (.ofNat 8)) fun v6 =>
intS .add a2 (.int .i64 (.ofNat 8)) fun v7 =>
ih 123 [v6, v7] h) (
ih 123 [a0, a2] h)
noncomputable def G121 : Sh := fun ih vs h => consE (fun a0 => consE (fun a2 => nilE (B121 ih a0 a2 h))) vs
noncomputable def B123 (ih : Nat → List V → Hp → VH) (a0 a2 : V) (h : Hp) : VH :=
convI .u8 a0 fun v8 =>
idxStr (.str (us [0, 1, 2, 2, 3, 3, 3, 3, 4, 4, 4, 4, 4, 4, 4, 4, 5, 5, 5, 5, 5, 5, 5, 5, 5, 5, 5, 5, 5, 5, 5, 5, 6, 6, 6, 6, 6, 6, 6, 6, 6, 6, 6, 6, 6, 6, 6, 6, 6, 6, 6, 6, 6, 6, 6, 6, 6, 6, 6, 6, 6, 6, 6, 6, 7, 7, 7, 7, 7, 7, 7, 7, 7, 7, 7, 7, 7, 7, 7, 7, 7, 7, 7, 7, 7, 7, 7, 7, 7, 7, 7, 7, 7, 7, 7, 7, 7, 7, 7, 7, 7, 7, 7, 7, 7, 7, 7, 7, 7, 7, 7, 7, 7, 7, 7, 7, 7, 7, 7, 7, 7, 7, 7, 7, 7, 7, 7, 7, 8, 8, 8, 8, 8, 8, 8, 8, 8, 8, 8, 8, 8, 8, 8, 8, 8, 8, 8, 8, 8, 8, 8, 8, 8, 8, 8, 8, 8, 8, 8, 8, 8, 8, 8, 8, 8, 8, 8, 8, 8, 8, 8, 8, 8, 8, 8, 8, 8, 8, 8, 8, 8, 8, 8, 8, 8, 8, 8, 8, 8, 8, 8, 8, 8, 8, 8, 8, 8, 8, 8, 8, 8, 8, 8, 8, 8, 8, 8, 8, 8, 8, 8, 8, 8, 8, 8, 8, 8, 8, 8, 8, 8, 8, 8, 8, 8, 8, 8, 8, 8, 8, 8, 8, 8, 8, 8, 8, 8, 8, 8, 8, 8, 8, 8, 8, 8, 8, 8, 8, 8, 8, 8, 8, 8, 8, 8, 8])) v8 fun v9 =>
convI .i64 v9 fun v10 =>
intS .add a2 v10 fun v11 =>
some (v11, h)
noncomputable def G123 : Sh := fun ih vs h => consE (fun a0 => consE (fun a2 => nilE (B123 ih a0 a2 h))) vs
noncomputable def B172 (ih : Nat → List V → Hp → VH) (a0 a1 : V) (h : Hp) : VH :=
lenStr a0 fun v0 =>
lenStr a1 fun v1 =>
intS .geq v0 v1 fun v2 =>
guardS v2 true (some (a0, h)) h fun v3 h4 =>
guardS v2 true (some (a1, h4)) h4 fun v5 h6 =>
guardS v2 true (lenStr v5 fun v7 =>
some (v7, h6)) h6 fun v8 h9 =>
guardS v2 true (slStrK none (some v8) v3 fun v10 =>
some (v10, h9)) h9 fun v11 h12 =>
guardS v2 true (some (a1, h12)) h12 fun v13 h14 =>
guardS v2 true (strS .eql v11 v13 fun v15 =>
some (v15, h14)) h14 fun v16 h17 =>
optS (pickV v2 v16 (.bool false)) fun v18 =>
some (v18, h17)
noncomputable def G172 : Sh := fun ih vs h => consE (fun a0 => consE (fun a1 => nilE (B172 ih a0 a1 h))) vs
noncomputable def B142 (ih : Nat → List V → Hp → VH) (a0 a1 : V) (h : Hp) : VH :=
bindS (ih 206 [a0] h) fun v0 h1 =>
nilS a0 fun v2 =>
addrS 1 v2 fun v3 =>
load1 v3 h1 fun v4 =>
bindS (bldSl h1 [(0, a1)] 5 1 1 (.int .u8 (.ofNat 0))) fun v5 h6 =>
bindS (appS 5 1 1 v4 v5 h6) fun v7 h8 =>
nilS a0 fun v9 =>
addrS 1 v9 fun v10 =>
storeC v10 v7 h8 fun h11 =>
some (.nilIface, h11)
noncomputable def G142 : Sh := fun ih vs h => consE (fun a0 => consE (fun a1 => nilE (B142 ih a0 a1 h))) vs
noncomputable def B144 (ih : Nat → List V → Hp → VH) (a0 a1 : V) (h : Hp) : VH :=
bindS (ih 206 [a0] h) fun v0 h1 =>
nilS a0 fun v2 =>
addrS 1 v2 fun v3 =>
load1 v3 h1 fun v4 =>
bindS (appS 5 1 1 v4 a1 h1) fun v5 h6 =>
nilS a0 fun v7 =>
addrS 1 v7 fun v8 =>
storeC v8 v5 h6 fun h9 =>
lenStr a1 fun v10 =>
some (.tuple [v10, .nilIface], h9)
noncomputable def G144 : Sh := fun ih vs h => consE (fun a0 => consE (fun a1 => nilE (B144 ih a0 a1 h))) vs
noncomputable def B170 (ih : Nat → List V → Hp → VH) (a0 : V) (h : Hp) : VH :=
strS .eql a0 (.str (us [])) fun v0 =>
ifS v0 (
some (.tuple [(.str (us [])), (.int .i64 (.ofNat 0))], h)) (
idxStr a0 (.int .i64 (.ofNat 0)) fun v1 =>
intS .eql v1 (.int .u8 (.ofNat 10)) fun v2 =>
guardS v2 false (some (a0, h)) h fun v3 h4 =>
guardS v2 false (idxStr v3 (.int .i64 (.ofNat 0)) fun v5 =>
some (v5, h4)) h4 fun v6 h7 =>
guardS v2 false (intS .eql v6 (.int .u8 (.ofNat 13)) fun v8 =>
some (v8, h7)) h7 fun v9 h10 =>
optS (pickV v2 (.bool true) v9) fun v11 =>
ifS v11 (
lenStr a0 fun v12 =>
intS .gtr v12 (.int .i64 (.ofNat 1)) fun v13 =>
guardS v13 true (some (a0, h10)) h10 fun v14 _ =>
guardS v13 true (idxStr v14 (.int .i64 (.ofNat 1)) fun v15 =>
some (v15, h10)) h10 fun v16 _ =>
guardS v13 true (intS .eql v16 (.int .u8 (.ofNat 10)) fun v17 =>
some (v17, h10)) h10 fun v18 _ =>
guardS v13 true (some (v18, h10)) h10 fun v19 _ =>
guardS v19 false (some (a0, h10)) h10 fun v20 _ =>
guardS v19 false (idxStr v20 (.int .i64 (.ofNat 1)) fun v21 =>
some (v21, h10)) h10 fun v22 _ =>
guardS v19 false (intS .eql v22 (.int .u8 (.ofNat 13)) fun v23 =>
some (v23, h10)) h10 fun v24 _ =>
guardS v13 true (optS (pickV v19 (.bool true) v24) fun v25 =>
some (v25, h10)) h10 fun v26 _ =>
optS (pickV v13 v26 (.bool false)) fun v27 =>
guardS v27 true (some (a0, h10)) h10 fun v28 _ =>
guardS v27 true (idxStr v28 (.int .i64 (.ofNat 1)) fun v29 =>
some (v29, h10)) h10 fun v30 _ =>
guardS v27 true (some (a0, h10)) h10 fun v31 _ =>
guardS v27 true (idxStr v31 (.int .i64 (.ofNat 0)) fun v32 =>
some (v32, h10)) h10 fun v33 _ =>
guardS v27 true (intS .neq v30 v33 fun v34 =>
some (v34, h10)) h10 fun v35 h36 =>
optS (pickV v27 v35 (.bool false)) fun v37 =>
ifS v37 (
some (.tuple [(.str (us [10])), (.int .i64 (.ofNat 2))], h36)) (
some (.tuple [(.str (us [10])), (.int .i64 (.ofNat 1))], h36))) (
idxStr a0 (.int .i64 (.ofNat 0)) fun v38 =>
intS .eql v38 (.int .u8 (.ofNat 120)) fun v39 =>
ifS v39 (
slStrK (some (.int .i64 (.ofNat 1))) none a0 fun v40 =>
bindS (ih 236 [v40, (.int .i64 (.ofNat 2)), (.int .i64 (.ofNat 16))] h10) fun v41 h42 =>
extS 0 v41 fun v43 =>
extS 1 v41 fun v44 =>
intS .eql v44 (.int .i64 (.ofNat 2)) fun v45 =>
ifS v45 (
convI .u8 v43 fun v46 =>
bindS (bldSl h42 [(0, v46)] 5 1 1 (.int .u8 (.ofNat 0))) fun v47 h48 =>
bindS (vh h48 (b2s h48 v47)) fun v49 h50 =>
some (.tuple [v49, (.int .i64 (.ofNat 3))], h50)) (
ih 133 [] h42)) (
idxStr a0 (.int .i64 (.ofNat 0)) fun v51 =>
intS .eql v51 (.int .u8 (.ofNat 122)) fun v52 =>
ifS v52 (
ih 135 [a0, (.int .i64 (.ofNat 1))] h10) (
idxStr a0 (.int .i64 (.ofNat 0)) fun v53 =>
intS .eql v53 (.int .u8 (.ofNat 117)) fun v54 =>
ifS v54 (
bindS (ih 104 [a0, (.str (us [117, 123]))] h10) fun v55 h56 =>
notS v55 fun v57 =>
ifS v57 (
ih 133 [] h56) (
slStrK (some (.int .i64 (.ofNat 2))) none a0 fun v58 =>
lenStr a0 fun v59 =>
bindS (ih 236 [v58, v59, (.int .i64 (.ofNat 16))] h56) fun v60 h61 =>
extS 0 v60 fun v62 =>
extS 1 v60 fun v63 =>
bindS (ih 238 [v62] h61) fun v64 h65 =>
extS 0 v64 fun v66 =>
extS 1 v64 fun v67 =>
intS .gtr v63 (.int .i64 (.ofNat 0)) fun v68 =>
guardS v68 true (some (v67, h65)) h65 fun v69 h70 =>
guardS v68 true (intS .eql v69 (.int .i64 (.ofNat 0)) fun v71 =>
some (v71, h70)) h70 fun v72 h73 =>
optS (pickV v68 v72 (.bool false)) fun v74 =>
guardS v74 true (some (a0, h73)) h73 fun v75 h76 =>
guardS v74 true (some (v63, h76)) h76 fun v77 h78 =>
guardS v74 true (intS .add (.int .i64 (.ofNat 2)) v77 fun v79 =>
some (v79, h78)) h78 fun v80 h81 =>
guardS v74 true (slStrK (some v80) none v75 fun v82 =>
some (v82, h81)) h81 fun v83 h84 =>
guardS v74 true (bindS (ih 104 [v83, (.str (us [125]))] h84) fun v85 h86 =>
some (v85, h86)) h84 fun v87 h88 =>
optS (pickV v74 v87 (.bool false)) fun v89 =>
ifS v89 (
intS .add v63 (.int .i64 (.ofNat 3)) fun v90 =>
some (.tuple [v66, v90], h88)) (
ih 133 [] h88))) (
idxStr a0 (.int .i64 (.ofNat 0)) fun v91 =>
bindS (ih 90 [v91] h10) fun v92 h93 =>
ifS v92 (
bindS (ih 236 [a0, (.int .i64 (.ofNat 3)), (.int .i64 (.ofNat 10))] h93) fun v94 h95 =>
extS 0 v94 fun v96 =>
extS 1 v94 fun v97 =>
intS .leq v96 (.int .i64 (.ofNat 255)) fun v98 =>
ifS v98 (
convI .u8 v96 fun v99 =>
bindS (bldSl h95 [(0, v99)] 5 1 1 (.int .u8 (.ofNat 0))) fun v100 h101 =>
bindS (vh h101 (b2s h101 v100)) fun v102 h103 =>
some (.tuple [v102, v97], h103)) (
ih 133 [] h95)) (
ih 137 [a0, (.int .i64 (.ofNat 0))] h93))))))
noncomputable def G170 : Sh := fun ih vs h => consE (fun a0 => nilE (B170 ih a0 h)) vs
noncomputable def B133 (ih : Nat → List V → Hp → VH) (h : Hp) : VH :=
some (.tuple [(.str (us [])), (.int .i64 (.ofNat 0))], h)
noncomputable def G133 : Sh := fun ih vs h => nilE (B133 ih  h) vs
noncomputable def B135 (ih : Nat → List V → Hp → VH) (a0 a6 : V) (h : Hp) : VH :=
lenStr a0 fun v104 =>
intS .lss a6 v104 fun v105 =>
guardS v105 true (some (a0, h)) h fun v106 h107 =>
guardS v105 true (some (a6, h107)) h107 fun v108 h109 =>
guardS v105 true (idxStr v106 v108 fun v110 =>
some (v110, h109)) h109 fun v111 h112 =>
guardS v105 true (bindS (ih 52 [v111] h112) fun v113 h114 =>
some (v113, h114)) h112 fun v115 h116 =>
optS (pickV v105 v115 (.bool false)) fun v117 =>
ifS v117 (
intS .add a6 (.int .i64 (.ofNat 1)) fun v118 =>
ih 135 [a0, v118] h116) (
some (.tuple [(.str (us [])), a6], h116))
noncomputable def G135 : Sh := fun ih vs h => consE (fun a0 => consE (fun a6 => nilE (B135 ih a0 a6 h))) vs
noncomputable def B137 (ih : Nat → List V → Hp → VH) (a0 a13 : V) (h : Hp) : VH :=
intS .lss a13 (.int .i64 (.ofNat 20)) fun v119 =>
ifS v119 (
idxStr (.str (us [97, 7, 98, 8, 102, 12, 110, 10, 114, 13, 116, 9, 118, 11, 92, 92, 39, 39, 34, 34])) a13 fun v120 =>
idxStr a0 (.int .i64 (.ofNat 0)) fun v121 =>
intS .eql v120 v121 fun v122 =>
ifS v122 (
intS .add a13 (.int .i64 (.ofNat 1)) fun v123 =>
intS .add a13 (.int .i64 (.ofNat 2)) fun v124 =>
slStrK (some v123) (some v124) (.str (us [97, 7, 98, 8, 102, 12, 110, 10, 114, 13, 116, 9, 118, 11, 92, 92, 39, 39, 34, 34])) fun v125 =>
some (.tuple [v125, (.int .i64 (.ofNat 1))], h)) (
intS .add a13 (.int .i64 (.ofNat 2)) fun v126 =>
ih 137 [a0, v126] h)) (
ih 133 [] h)
noncomputable def G137 : Sh := fun ih vs h => consE (fun a0 => consE (fun a13 => nilE (B137 ih a0 a13 h))) vs
noncomputable def B146 (ih : Nat → List V → Hp → VH) (a0 : V) (h : Hp) : VH :=
nilS a0 fun v0 =>
addrS 1 v0 fun v1 =>
load1 v1 h fun v2 =>
bindS (vh h (headV h v2)) fun v3 h4 =>
nilS a0 fun v5 =>
addrS 1 v5 fun v6 =>
load1 v6 h fun v7 =>
lenSl v7 fun v8 =>
bindS (seeV h 5 v3 v8) fun v9 h10 =>
some (v9, h10)
noncomputable def G146 : Sh := fun ih vs h => consE (fun a0 => nilE (B146 ih a0 h)) vs
noncomputable def B168 (ih : Nat → List V → Hp → VH) (a0 a1 : V) (h : Hp) : VH :=
nilS a0 fun v0 =>
addrS 0 v0 fun v1 =>
load1 v1 h fun v2 =>
nilS a0 fun v3 =>
addrS 1 v3 fun v4 =>
load1 v4 h fun v5 =>
intS .add v5 a1 fun v6 =>
idxStr v2 v6 fun v7 =>
intS .eql v7 (.int .u8 (.ofNat 122)) fun v8 =>
ifS v8 (
intS .add a1 (.int .i64 (.ofNat 1)) fun v9 =>
bindS (ih 50 [a0, v9, (.func 26 [] [])] h) fun v10 h11 =>
intS .add (.int .i64 (.ofNat 1)) v10 fun v12 =>
some (v12, h11)) (
bindS (ih 80 [v7] ⟨h.t, h.n, h.n⟩) fun v13 h14 =>
wroteS h.low h14 fun h15 =>
guardS v13 true (some (a0, h15)) h15 fun v16 _ =>
guardS v13 true (nilS v16 fun v17 =>
some (v17, h15)) h15 fun v18 _ =>
guardS v13 true (addrS 1 v18 fun v19 =>
some (v19, h15)) h15 fun v20 _ =>
guardS v13 true (load1 v20 h15 fun v21 =>
some (v21, h15)) h15 fun v22 _ =>
guardS v13 true (some (a1, h15)) h15 fun v23 _ =>
guardS v13 true (intS .add v22 v23 fun v24 =>
some (v24, h15)) h15 fun v25 _ =>
guardS v13 true (intS .add v25 (.int .i64 (.ofNat 1)) fun v26 =>
some (v26, h15)) h15 fun v27 _ =>
guardS v13 true (some (a0, h15)) h15 fun v28 _ =>
guardS v13 true (nilS v28 fun v29 =>
some (v29, h15)) h15 fun v30 _ =>
guardS v13 true (addrS 0 v30 fun v31 =>
some (v31, h15)) h15 fun v32 _ =>
guardS v13 true (load1 v32 h15 fun v33 =>
some (v33, h15)) h15 fun v34 _ =>
guardS v13 true (lenStr v34 fun v35 =>
some (v35, h15)) h15 fun v36 _ =>
guardS v13 true (intS .lss v27 v36 fun v37 =>
some (v37, h15)) h15 fun v38 _ =>
optS (pickV v13 v38 (.bool false)) fun v39 =>
guardS v39 true (some (a0, h15)) h15 fun v40 _ =>
guardS v39 true (nilS v40 fun v41 =>
some (v41, h15)) h15 fun v42 _ =>
guardS v39 true (addrS 0 v42 fun v43 =>
some (v43, h15)) h15 fun v44 _ =>
guardS v39 true (load1 v44 h15 fun v45 =>
some (v45, h15)) h15 fun v46 _ =>
guardS v39 true (some (a0, h15)) h15 fun v47 _ =>
guardS v39 true (nilS v47 fun v48 =>
some (v48, h15)) h15 fun v49 _ =>
guardS v39 true (addrS 1 v49 fun v50 =>
some (v50, h15)) h15 fun v51 _ =>
guardS v39 true (load1 v51 h15 fun v52 =>
some (v52, h15)) h15 fun v53 _ =>
guardS v39 true (some (a1, h15)) h15 fun v54 _ =>
guardS v39 true (intS .add v53 v54 fun v55 =>
some (v55, h15)) h15 fun v56 _ =>
guardS v39 true (intS .add v56 (.int .i64 (.ofNat 1)) fun v57 =>
some (v57, h15)) h15 fun v58 _ =>
guardS v39 true (idxStr v46 v58 fun v59 =>
some (v59, h15)) h15 fun v60 _ =>
guardB v39 true (
bindS (ih 80 [v60] ⟨h15.t, h15.n, h15.n⟩) fun v61 h62 =>
wroteS h15.low h62 fun h63 =>
optS (pickV v39 v61 (.bool false)) fun v64 =>
guardS v64 true (some (a0, h63)) h63 fun v65 _ =>
guardS v64 true (nilS v65 fun v66 =>
some (v66, h63)) h63 fun v67 _ =>
guardS v64 true (addrS 0 v67 fun v68 =>
some (v68, h63)) h63 fun v69 _ =>
guardS v64 true (load1 v69 h63 fun v70 =>
some (v70, h63)) h63 fun v71 _ =>
guardS v64 true (some (a0, h63)) h63 fun v72 _ =>
guardS v64 true (nilS v72 fun v73 =>
some (v73, h63)) h63 fun v74 _ =>
guardS v64 true (addrS 1 v74 fun v75 =>
some (v75, h63)) h63 fun v76 _ =>
guardS v64 true (load1 v76 h63 fun v77 =>
some (v77, h63)) h63 fun v78 _ =>
guardS v64 true (some (a1, h63)) h63 fun v79 _ =>
guardS v64 true (intS .add v78 v79 fun v80 =>
some (v80, h63)) h63 fun v81 _ =>
guardS v64 true (intS .add v81 (.int .i64 (.ofNat 1)) fun v82 =>
some (v82, h63)) h63 fun v83 _ =>
guardS v64 true (idxStr v71 v83 fun v84 =>
some (v84, h63)) h63 fun v85 _ =>
guardS v64 true (some (v7, h63)) h63 fun v86 _ =>
guardS v64 true (intS .neq v85 v86 fun v87 =>
some (v87, h63)) h63 fun v88 h89 =>
optS (pickV v64 v88 (.bool false)) fun v90 =>
ifS v90 (
some ((.int .i64 (.ofNat 2)), h89)) (
some ((.int .i64 (.ofNat 1)), h89))) (
optS (pickV v39 undefV (.bool false)) fun v91 =>
guardS v91 true (some (a0, h15)) h15 fun v92 _ =>
guardS v91 true (nilS v92 fun v93 =>
some (v93, h15)) h15 fun v94 _ =>
guardS v91 true (addrS 0 v94 fun v95 =>
some (v95, h15)) h15 fun v96 _ =>
guardS v91 true (load1 v96 h15 fun v97 =>
some (v97, h15)) h15 fun v98 _ =>
guardS v91 true (some (a0, h15)) h15 fun v99 _ =>
guardS v91 true (nilS v99 fun v100 =>
some (v100, h15)) h15 fun v101 _ =>
guardS v91 true (addrS 1 v101 fun v102 =>
some (v102, h15)) h15 fun v103 _ =>
guardS v91 true (load1 v103 h15 fun v104 =>
some (v104, h15)) h15 fun v105 _ =>
guardS v91 true (some (a1, h15)) h15 fun v106 _ =>
guardS v91 true (intS .add v105 v106 fun v107 =>
some (v107, h15)) h15 fun v108 _ =>
guardS v91 true (intS .add v108 (.int .i64 (.ofNat 1)) fun v109 =>
some (v109, h15)) h15 fun v110 _ =>
guardS v91 true (idxStr v98 v110 fun v111 =>
some (v111, h15)) h15 fun v112 _ =>
guardS v91 true (some (v7, h15)) h15 fun v113 _ =>
guardS v91 true (intS .neq v112 v113 fun v114 =>
some (v114, h15)) h15 fun v115 h116 =>
optS (pickV v91 v115 (.bool false)) fun v117 =>
ifS v117 (
some ((.int .i64 (.ofNat 2)), h116)) (
some ((.int .i64 (.ofNat 1)), h116))))
noncomputable def G168 : Sh := fun ih vs h => consE (fun a0 => consE (fun a1 => nilE (B168 ih a0 a1 h))) vs
noncomputable def B164 (ih : Nat → List V → Hp → VH) (a0 : V) (h : Hp) : VH :=
newS 9 (vcells a0) h fun v0 h1 =>
bindS (dynE ih (.func 114 [] [v0]) [] h1) fun v2 h3 =>
load1 v0 h3 fun v4 =>
strS .neq v4 (.str (us [])) fun v5 =>
guardS v5 true (load1 v0 h3 fun v6 =>
some (v6, h3)) h3 fun v7 h8 =>
guardS v5 true (idxStr v7 (.int .i64 (.ofNat 0)) fun v9 =>
some (v9, h8)) h8 fun v10 h11 =>
guardS v5 true (intS .eql v10 (.int .u8 (.ofNat 45)) fun v12 =>
some (v12, h11)) h11 fun v13 h14 =>
guardS v5 true (some (v13, h14)) h14 fun v15 h16 =>
guardS v15 false (load1 v0 h16 fun v17 =>
some (v17, h16)) h16 fun v18 h19 =>
guardS v15 false (idxStr v18 (.int .i64 (.ofNat 0)) fun v20 =>
some (v20, h19)) h19 fun v21 h22 =>
guardS v15 false (intS .eql v21 (.int .u8 (.ofNat 43)) fun v23 =>
some (v23, h22)) h22 fun v24 h25 =>
guardS v5 true (optS (pickV v15 (.bool true) v24) fun v26 =>
some (v26, h25)) h25 fun v27 h28 =>
optS (pickV v5 v27 (.bool false)) fun v29 =>
ifS v29 (
load1 v0 h28 fun v30 =>
slStrK none (some (.int .i64 (.ofNat 1))) v30 fun v31 =>
load1 v0 h28 fun v32 =>
slStrK (some (.int .i64 (.ofNat 1))) none v32 fun v33 =>
storeC v0 v33 h28 fun h34 =>
ih 139 [v0, v31] h34) (
ih 139 [v0, (.str (us []))] h28)
noncomputable def G164 : Sh := fun ih vs h => consE (fun a0 => nilE (B164 ih a0 h)) vs
noncomputable def B139 (ih : Nat → List V → Hp → VH) (a1 a5 : V) (h : Hp) : VH :=
load1 a1 h fun v35 =>
lenStr v35 fun v36 =>
intS .geq v36 (.int .i64 (.ofNat 2)) fun v37 =>
guardS v37 true (load1 a1 h fun v38 =>
some (v38, h)) h fun v39 h40 =>
guardS v37 true (idxStr v39 (.int .i64 (.ofNat 0)) fun v41 =>
some (v41, h40)) h40 fun v42 h43 =>
guardS v37 true (intS .eql v42 (.int .u8 (.ofNat 48)) fun v44 =>
some (v44, h43)) h43 fun v45 h46 =>
optS (pickV v37 v45 (.bool false)) fun v47 =>
guardS v47 true (load1 a1 h46 fun v48 =>
some (v48, h46)) h46 fun v49 h50 =>
guardS v47 true (idxStr v49 (.int .i64 (.ofNat 1)) fun v51 =>
some (v51, h50)) h50 fun v52 h53 =>
guardS v47 true (intS .eql v52 (.int .u8 (.ofNat 120)) fun v54 =>
some (v54, h53)) h53 fun v55 h56 =>
guardS v47 true (some (v55, h56)) h56 fun v57 h58 =>
guardS v57 false (load1 a1 h58 fun v59 =>
some (v59, h58)) h58 fun v60 h61 =>
guardS v57 false (idxStr v60 (.int .i64 (.ofNat 1)) fun v62 =>
some (v62, h61)) h61 fun v63 h64 =>
guardS v57 false (intS .eql v63 (.int .u8 (.ofNat 88)) fun v65 =>
some (v65, h64)) h64 fun v66 h67 =>
guardS v47 true (optS (pickV v57 (.bool true) v66) fun v68 =>
some (v68, h67)) h67 fun v69 h70 =>
optS (pickV v47 v69 (.bool false)) fun v71 =>
ifS v71 (
load1 a1 h70 fun v72 =>
slStrK (some (.int .i64 (.ofNat 2))) none v72 fun v73 =>
bindS (ih 230 [v73] h70) fun v74 h75 =>
extS 0 v74 fun v76 =>
extS 1 v74 fun v77 =>
strS .eql a5 (.str (us [45])) fun v78 =>
ifS v78 (
negS v76 fun v79 =>
ih 143 [v79, v77] h75) (
ih 143 [v76, v77] h75)) (
load1 a1 h70 fun v80 =>
lenStr v80 fun v81 =>
ih 141 [a1, a5, v81, (.int .i64 (.ofNat 0))] h70)
noncomputable def G139 : Sh := fun ih vs h => consE (fun a1 => consE (fun a5 => nilE (B139 ih a1 a5 h))) vs
noncomputable def B141 (ih : Nat → List V → Hp → VH) (a1 a5 a63 a64 : V) (h : Hp) : VH :=
intS .lss a64 a63 fun v82 =>
ifS v82 (
load1 a1 h fun v83 =>
idxStr v83 a64 fun v84 =>
bindS (ih 90 [v84] h) fun v85 h86 =>
notS v85 fun v87 =>
ifS v87 (
some (.tuple [(.int .i64 (.ofNat 0)), (.bool false)], h86)) (
intS .add a64 (.int .i64 (.ofNat 1)) fun v88 =>
ih 141 [a1, a5, a63, v88] h86)) (
load1 a1 h fun v89 =>
strS .add a5 v89 fun v90 =>
bindS (ih 232 [v90, (.int .i64 (.ofNat 10)), (.int .i64 (.ofNat 64))] h) fun v91 h92 =>
extS 0 v91 fun v93 =>
extS 1 v91 fun v94 =>
bindS (vh h92 (eqOp .neq (cmpI Tryz.prog true v94 .nilIface))) fun v95 h96 =>
ifS v95 (
some (.tuple [(.int .i64 (.ofNat 0)), (.bool false)], h96)) (
some (.tuple [v93, (.bool true)], h96)))
noncomputable def G141 : Sh := fun ih vs h => consE (fun a1 => consE (fun a5 => consE (fun a63 => consE (fun a64 => nilE (B141 ih a1 a5 a63 a64 h))))) vs
noncomputable def B143 (ih : Nat → List V → Hp → VH) (a6 a7 : V) (h : Hp) : VH :=
notS a7 fun v97 =>
ifS v97 (
some (.tuple [(.int .i64 (.ofNat 0)), (.bool false)], h)) (
convI .i64 a6 fun v98 =>
some (.tuple [v98, (.bool true)], h))
noncomputable def G143 : Sh := fun ih vs h => consE (fun a6 => consE (fun a7 => nilE (B143 ih a6 a7 h))) vs
noncomputable def B162 (ih : Nat → List V → Hp → VH) (a0 a1 : V) (h : Hp) : VH :=
strS .eql a0 (.str (us [])) fun v0 =>
guardS v0 false (some (a1, h)) h fun v1 h2 =>
guardS v0 false (strS .eql v1 (.str (us [])) fun v3 =>
some (v3, h2)) h2 fun v4 h5 =>
optS (pickV v0 (.bool true) v4) fun v6 =>
ifS v6 (
some (a0, h5)) (
lenStr a1 fun v7 =>
intS .eql v7 (.int .i64 (.ofNat 1)) fun v8 =>
guardS v8 true (some (a1, h5)) h5 fun v9 h10 =>
guardS v8 true (idxStr v9 (.int .i64 (.ofNat 0)) fun v11 =>
some (v11, h10)) h10 fun v12 h13 =>
guardS v8 true (intS .lss v12 (.int .u8 (.ofNat 128)) fun v14 =>
some (v14, h13)) h13 fun v15 h16 =>
optS (pickV v8 v15 (.bool false)) fun v17 =>
ifS v17 (
idxStr a1 (.int .i64 (.ofNat 0)) fun v18 =>
bindS (ih 222 [a0, v18] ⟨h16.t, h16.n, h16.n⟩) fun v19 h20 =>
wroteS h16.low h20 fun h21 =>
idxStr a1 (.int .i64 (.ofNat 0)) fun v22 =>
bindS (ih 210 [v19, v22] h21) fun v23 h24 =>
some (v23, h24)) (
bindS (ih 212 [a1] h16) fun v25 h26 =>
extS 0 v25 fun v27 =>
extS 1 v25 fun v28 =>
newS 127 [(.bool false), (.bool false), (.bool false), (.bool false), (.bool false), (.bool false), (.bool false), (.bool false), (.bool false), (.bool false), (.bool false), (.bool false), (.bool false), (.bool false), (.bool false), (.bool false), (.bool false), (.bool false), (.bool false), (.bool false), (.bool false), (.bool false), (.bool false), (.bool false), (.bool false), (.bool false), (.bool false), (.bool false), (.bool false), (.bool false), (.bool false), (.bool false), (.bool false), (.bool false), (.bool false), (.bool false), (.bool false), (.bool false), (.bool false), (.bool false), (.bool false), (.bool false), (.bool false), (.bool false), (.bool false), (.bool false), (.bool false), (.bool false), (.bool false), (.bool false), (.bool false), (.bool false), (.bool false), (.bool false), (.bool false), (.bool false), (.bool false), (.bool false), (.bool false), (.bool false), (.bool false), (.bool false), (.bool false), (.bool false), (.bool false), (.bool false), (.bool false), (.bool false), (.bool false), (.bool false), (.bool false), (.bool false), (.bool false), (.bool false), (.bool false), (.bool false), (.bool false), (.bool false), (.bool false), (.bool false), (.bool false), (.bool false), (.bool false), (.bool false), (.bool false), (.bool false), (.bool false), (.bool false), (.bool false), (.bool false), (.bool false), (.bool false), (.bool false), (.bool false), (.bool false), (.bool false), (.bool false), (.bool false), (.bool false), (.bool false), (.bool false), (.bool false), (.bool false), (.bool false), (.bool false), (.bool false), (.bool false), (.bool false), (.bool false), (.bool false), (.bool false), (.bool false), (.bool false), (.bool false), (.bool false), (.bool false), (.bool false), (.bool false), (.bool false), (.bool false), (.bool false), (.bool false), (.bool false), (.bool false), (.bool false), (.bool false), (.bool false), (.bool false), (.bool false), (.bool false), (.bool false), (.bool false), (.bool false), (.bool false), (.bool false), (.bool false), (.bool false), (.bool false), (.bool false), (.bool false), (.bool false), (.bool false), (.bool false), (.bool false), (.bool false), (.bool false), (.bool false), (.bool false), (.bool false), (.bool false), (.bool false), (.bool false), (.bool false), (.bool false), (.bool false), (.bool false), (.bool false), (.bool false), (.bool false), (.bool false), (.bool false), (.bool false), (.bool false), (.bool false), (.bool false), (.bool false), (.bool false), (.bool false), (.bool false), (.bool false), (.bool false), (.bool false), (.bool false), (.bool false), (.bool false), (.bool false), (.bool false), (.bool false), (.bool false), (.bool false), (.bool false), (.bool false), (.bool false), (.bool false), (.bool false), (.bool false), (.bool false), (.bool false), (.bool false), (.bool false), (.bool false), (.bool false), (.bool false), (.bool false), (.bool false), (.bool false), (.bool false), (.bool false), (.bool false), (.bool false), (.bool false), (.bool false), (.bool false), (.bool false), (.bool false), (.bool false), (.bool false), (.bool false), (.bool false), (.bool false), (.bool false), (.bool false), (.bool false), (.bool false), (.bool false), (.bool false), (.bool false), (.bool false), (.bool false), (.bool false), (.bool false), (.bool false), (.bool false), (.bool false), (.bool false), (.bool false), (.bool false), (.bool false), (.bool false), (.bool false), (.bool false), (.bool false), (.bool false), (.bool false), (.bool false), (.bool false), (.bool false), (.bool false), (.bool false), (.bool false), (.bool false), (.bool false), (.bool false), (.bool false), (.bool false), (.bool false), (.bool false), (.bool false), (.bool false), (.bool false), (.bool false), (.bool false), (.bool false), (.bool false), (.bool false), (.bool false)] h26 fun v29 h30 =>
storeN 256 v29 v27 h30 fun h31 =>
ifS v28 (
bindS (ih 224 [a0, v29] h31) fun v32 h33 =>
bindS (ih 214 [v32, v29] h33) fun v34 h35 =>
some (v34, h35)) (
bindS (ih 226 [a0, a1] h31) fun v36 h37 =>
bindS (ih 216 [v36, a1] h37) fun v38 h39 =>
some (v38, h39))))
noncomputable def G162 : Sh := fun ih vs h => consE (fun a0 => consE (fun a1 => nilE (B162 ih a0 a1 h))) vs
noncomputable def B158 (ih : Nat → List V → Hp → VH) (a0 a1 a2 : V) (h : Hp) : VH :=
bindS (ih 90 [a0] h) fun v0 h1 =>
guardS v0 false (some (a0, h1)) h1 fun v2 h3 =>
guardS v0 false (bindS (ih 92 [v2] h3) fun v4 h5 =>
some (v4, h5)) h3 fun v6 h7 =>
optS (pickV v0 (.bool true) v6) fun v8 =>
guardS v8 false (some (a0, h7)) h7 fun v9 h10 =>
guardS v8 false (intS .eql v9 (.int .u8 (.ofNat 46)) fun v11 =>
some (v11, h10)) h10 fun v12 h13 =>
optS (pickV v8 (.bool true) v12) fun v14 =>
guardS v14 false (some (a0, h13)) h13 fun v15 h16 =>
guardS v14 false (intS .eql v15 (.int .u8 (.ofNat 43)) fun v17 =>
some (v17, h16)) h16 fun v18 h19 =>
guardS v14 false (some (v18, h19)) h19 fun v20 h21 =>
guardS v20 false (some (a0, h21)) h21 fun v22 h23 =>
guardS v20 false (intS .eql v22 (.int .u8 (.ofNat 45)) fun v24 =>
some (v24, h23)) h23 fun v25 h26 =>
guardS v14 false (optS (pickV v20 (.bool true) v25) fun v27 =>
some (v27, h26)) h26 fun v28 h29 =>
guardS v14 false (some (v28, h29)) h29 fun v30 h31 =>
guardS v30 true (load1 a1 h31 fun v32 =>
some (v32, h31)) h31 fun v33 h34 =>
guardS v30 true (load1 a2 h34 fun v35 =>
some (v35, h34)) h34 fun v36 h37 =>
guardS v30 true (bindS (ih 160 [v33, v36] h37) fun v38 h39 =>
some (v38, h39)) h37 fun v40 h41 =>
guardS v30 true (intS .geq v40 (.int .i64 (.ofNat 0)) fun v42 =>
some (v42, h41)) h41 fun v43 h44 =>
guardS v14 false (optS (pickV v30 v43 (.bool false)) fun v45 =>
some (v45, h44)) h44 fun v46 h47 =>
optS (pickV v14 (.bool true) v46) fun v48 =>
storeC a2 a0 h47 fun h49 =>
some (v48, h49)
noncomputable def G158 : Sh := fun ih vs h => consE (fun a0 => consE (fun a1 => consE (fun a2 => nilE (B158 ih a0 a1 a2 h)))) vs
noncomputable def B154 (ih : Nat → List V → Hp → VH) (a0 a1 : V) (h : Hp) : VH :=
bindS (ih 218 [a0, a1] h) fun v0 h1 =>
some (v0, h1)
noncomputable def G154 : Sh := fun ih vs h => consE (fun a0 => consE (fun a1 => nilE (B154 ih a0 a1 h))) vs
noncomputable def B156 (ih : Nat → List V → Hp → VH) (a0 : V) (h : Hp) : VH :=
newS 91 [.nilPtr, .nilSlice] h fun v0 h1 =>
ih 145 [a0, v0, (.int .i64 (.ofNat 0))] h1
noncomputable def G156 : Sh := fun ih vs h => consE (fun a0 => nilE (B156 ih a0 h)) vs
noncomputable def B145 (ih : Nat → List V → Hp → VH) (a0 a3 a4 : V) (h : Hp) : VH :=
lenStr a0 fun v2 =>
intS .lss a4 v2 fun v3 =>
ifS v3 (
idxStr a0 a4 fun v4 =>
bindS (ih 80 [v4] h) fun v5 h6 =>
notS v5 fun v7 =>
ifS v7 (
idxStr a0 a4 fun v8 =>
bindS (ih 142 [a3, v8] h6) fun v9 h10 =>
ih 147 [a0, a3, a4] h10) (
bindS (ih 142 [a3, (.int .u8 (.ofNat 10))] h6) fun v11 h12 =>
intS .add a4 (.int .i64 (.ofNat 1)) fun v13 =>
lenStr a0 fun v14 =>
intS .lss v13 v14 fun v15 =>
guardS v15 true (some (a0, h12)) h12 fun v16 _ =>
guardS v15 true (some (a4, h12)) h12 fun v17 _ =>
guardS v15 true (intS .add v17 (.int .i64 (.ofNat 1)) fun v18 =>
some (v18, h12)) h12 fun v19 _ =>
guardS v15 true (idxStr v16 v19 fun v20 =>
some (v20, h12)) h12 fun v21 _ =>
guardB v15 true (
bindS (ih 80 [v21] ⟨h12.t, h12.n, h12.n⟩) fun v22 h23 =>
wroteS h12.low h23 fun h24 =>
optS (pickV v15 v22 (.bool false)) fun v25 =>
guardS v25 true (some (a0, h24)) h24 fun v26 _ =>
guardS v25 true (some (a4, h24)) h24 fun v27 _ =>
guardS v25 true (intS .add v27 (.int .i64 (.ofNat 1)) fun v28 =>
some (v28, h24)) h24 fun v29 _ =>
guardS v25 true (idxStr v26 v29 fun v30 =>
some (v30, h24)) h24 fun v31 _ =>
guardS v25 true (some (a0, h24)) h24 fun v32 _ =>
guardS v25 true (some (a4, h24)) h24 fun v33 _ =>
guardS v25 true (idxStr v32 v33 fun v34 =>
some (v34, h24)) h24 fun v35 _ =>
guardS v25 true (intS .neq v31 v35 fun v36 =>
some (v36, h24)) h24 fun v37 h38 =>
optS (pickV v25 v37 (.bool false)) fun v39 =>
ifS v39 (
intS .add a4 (.int .i64 (.ofNat 1)) fun v40 =>
ih 147 [a0, a3, v40] h38) (
ih 147 [a0, a3, a4] h38)) (
optS (pickV v15 undefV (.bool false)) fun v41 =>
guardS v41 true (some (a0, h12)) h12 fun v42 _ =>
guardS v41 true (some (a4, h12)) h12 fun v43 _ =>
guardS v41 true (intS .add v43 (.int .i64 (.ofNat 1)) fun v44 =>
some (v44, h12)) h12 fun v45 _ =>
guardS v41 true (idxStr v42 v45 fun v46 =>
some (v46, h12)) h12 fun v47 _ =>
guardS v41 true (some (a0, h12)) h12 fun v48 _ =>
guardS v41 true (some (a4, h12)) h12 fun v49 _ =>
guardS v41 true (idxStr v48 v49 fun v50 =>
some (v50, h12)) h12 fun v51 _ =>
guardS v41 true (intS .neq v47 v51 fun v52 =>
some (v52, h12)) h12 fun v53 h54 =>
optS (pickV v41 v53 (.bool false)) fun v55 =>
ifS v55 (
intS .add a4 (.int .i64 (.ofNat 1)) fun v56 =>
ih 147 [a0, a3, v56] h54) (
ih 147 [a0, a3, a4] h54)))) (
bindS (ih 146 [a3] h) fun v57 h58 =>
some (v57, h58))
noncomputable def G145 : Sh := fun ih vs h => consE (fun a0 => consE (fun a3 => consE (fun a4 => nilE (B145 ih a0 a3 a4 h)))) vs
noncomputable def B147 (ih : Nat → List V → Hp → VH) (a0 a3 a4 : V) (h : Hp) : VH :=
intS .add a4 (.int .i64 (.ofNat 1)) fun v59 =>
ih 145 [a0, a3, v59] h
noncomputable def G147 : Sh := fun ih vs h => consE (fun a0 => consE (fun a3 => consE (fun a4 => nilE (B147 ih a0 a3 a4 h)))) vs
noncomputable def B152 (ih : Nat → List V → Hp → VH) (a0 a1 : V) (h : Hp) : VH :=
strS .eql a0 (.str (us [])) fun v0 =>
guardS v0 false (some (a1, h)) h fun v1 h2 =>
guardS v0 false (strS .eql v1 (.str (us [])) fun v3 =>
some (v3, h2)) h2 fun v4 h5 =>
optS (pickV v0 (.bool true) v4) fun v6 =>
ifS v6 (
some (a0, h5)) (
lenStr a1 fun v7 =>
intS .eql v7 (.int .i64 (.ofNat 1)) fun v8 =>
guardS v8 true (some (a1, h5)) h5 fun v9 h10 =>
guardS v8 true (idxStr v9 (.int .i64 (.ofNat 0)) fun v11 =>
some (v11, h10)) h10 fun v12 h13 =>
guardS v8 true (intS .lss v12 (.int .u8 (.ofNat 128)) fun v14 =>
some (v14, h13)) h13 fun v15 h16 =>
optS (pickV v8 v15 (.bool false)) fun v17 =>
ifS v17 (
idxStr a1 (.int .i64 (.ofNat 0)) fun v18 =>
bindS (ih 210 [a0, v18] h16) fun v19 h20 =>
some (v19, h20)) (
bindS (ih 212 [a1] h16) fun v21 h22 =>
extS 0 v21 fun v23 =>
extS 1 v21 fun v24 =>
newS 127 [(.bool false), (.bool false), (.bool false), (.bool false), (.bool false), (.bool false), (.bool false), (.bool false), (.bool false), (.bool false), (.bool false), (.bool false), (.bool false), (.bool false), (.bool false), (.bool false), (.bool false), (.bool false), (.bool false), (.bool false), (.bool false), (.bool false), (.bool false), (.bool false), (.bool false), (.bool false), (.bool false), (.bool false), (.bool false), (.bool false), (.bool false), (.bool false), (.bool false), (.bool false), (.bool false), (.bool false), (.bool false), (.bool false), (.bool false), (.bool false), (.bool false), (.bool false), (.bool false), (.bool false), (.bool false), (.bool false), (.bool false), (.bool false), (.bool false), (.bool false), (.bool false), (.bool false), (.bool false), (.bool false), (.bool false), (.bool false), (.bool false), (.bool false), (.bool false), (.bool false), (.bool false), (.bool false), (.bool false), (.bool false), (.bool false), (.bool false), (.bool false), (.bool false), (.bool false), (.bool false), (.bool false), (.bool false), (.bool false), (.bool false), (.bool false), (.bool false), (.bool false), (.bool false), (.bool false), (.bool false), (.bool false), (.bool false), (.bool false), (.bool false), (.bool false), (.bool false), (.bool false), (.bool false), (.bool false), (.bool false), (.bool false), (.bool false), (.bool false), (.bool false), (.bool false), (.bool false), (.bool false), (.bool false), (.bool false), (.bool false), (.bool false), (.bool false), (.bool false), (.bool false), (.bool false), (.bool false), (.bool false), (.bool false), (.bool false), (.bool false), (.bool false), (.bool false), (.bool false), (.bool false), (.bool false), (.bool false), (.bool false), (.bool false), (.bool false), (.bool false), (.bool false), (.bool false), (.bool false), (.bool false), (.bool false), (.bool false), (.bool false), (.bool false), (.bool false), (.bool false), (.bool false), (.bool false), (.bool false), (.bool false), (.bool false), (.bool false), (.bool false), (.bool false), (.bool false), (.bool false), (.bool false), (.bool false), (.bool false), (.bool false), (.bool false), (.bool false), (.bool false), (.bool false), (.bool false), (.bool false), (.bool false), (.bool false), (.bool false), (.bool false), (.bool false), (.bool false), (.bool false), (.bool false), (.bool false), (.bool false), (.bool false), (.bool false), (.bool false), (.bool false), (.bool false), (.bool false), (.bool false), (.bool false), (.bool false), (.bool false), (.bool false), (.bool false), (.bool false), (.bool false), (.bool false), (.bool false), (.bool false), (.bool false), (.bool false), (.bool false), (.bool false), (.bool false), (.bool false), (.bool false), (.bool false), (.bool false), (.bool false), (.bool false), (.bool false), (.bool false), (.bool false), (.bool false), (.bool false), (.bool false), (.bool false), (.bool false), (.bool false), (.bool false), (.bool false), (.bool false), (.bool false), (.bool false), (.bool false), (.bool false), (.bool false), (.bool false), (.bool false), (.bool false), (.bool false), (.bool false), (.bool false), (.bool false), (.bool false), (.bool false), (.bool false), (.bool false), (.bool false), (.bool false), (.bool false), (.bool false), (.bool false), (.bool false), (.bool false), (.bool false), (.bool false), (.bool false), (.bool false), (.bool false), (.bool false), (.bool false), (.bool false), (.bool false), (.bool false), (.bool false), (.bool false), (.bool false), (.bool false), (.bool false), (.bool false), (.bool false), (.bool false), (.bool false), (.bool false), (.bool false), (.bool false), (.bool false), (.bool false), (.bool false), (.bool false), (.bool false), (.bool false), (.bool false), (.bool false), (.bool false), (.bool false), (.bool false)] h22 fun v25 h26 =>
storeN 256 v25 v23 h26 fun h27 =>
ifS v24 (
bindS (ih 214 [a0, v25] h27) fun v28 h29 =>
some (v28, h29)) (
bindS (ih 216 [a0, a1] h27) fun v30 h31 =>
some (v30, h31))))
noncomputable def G152 : Sh := fun ih vs h => consE (fun a0 => consE (fun a1 => nilE (B152 ih a0 a1 h))) vs
noncomputable def B150 (ih : Nat → List V → Hp → VH) (a0 a1 a2 a3 a4 : V) (h : Hp) : VH :=
intS .sub a2 a1 fun v0 =>
intS .eql v0 (.int .i64 (.ofNat 1)) fun v1 =>
ifS v1 (
ih 151 [a0, a1, a4, a2, a3] h) (
intS .sub a3 a2 fun v2 =>
intS .eql v2 (.int .i64 (.ofNat 1)) fun v3 =>
ifS v3 (
ih 153 [a0, a2, a4, a1, a2] h) (
intS .add a1 a3 fun v4 =>
convI .u64 v4 fun v5 =>
shS .shr v5 (.int .u64 (.ofNat 1)) fun v6 =>
convI .i64 v6 fun v7 =>
intS .add v7 a2 fun v8 =>
intS .gtr a2 v7 fun v9 =>
ifS v9 (
intS .sub v8 a3 fun v10 =>
ih 149 [a0, a1, a2, a3, a4, v7, v8, v10, v7] h) (
ih 149 [a0, a1, a2, a3, a4, v7, v8, a1, a2] h)))
noncomputable def G150 : Sh := fun ih vs h => consE (fun a0 => consE (fun a1 => consE (fun a2 => consE (fun a3 => consE (fun a4 => nilE (B150 ih a0 a1 a2 a3 a4 h)))))) vs
noncomputable def B149 (ih : Nat → List V → Hp → VH) (a0 a1 a2 a3 a4 a18 a19 a20 a21 : V) (h : Hp) : VH :=
intS .sub a19 (.int .i64 (.ofNat 1)) fun v11 =>
ih 157 [a0, a1, a2, a3, a4, a18, a19, a20, a21, v11] h
noncomputable def G149 : Sh := fun ih vs h => consE (fun a0 => consE (fun a1 => consE (fun a2 => consE (fun a3 => consE (fun a4 => consE (fun a18 => consE (fun a19 => consE (fun a20 => consE (fun a21 => nilE (B149 ih a0 a1 a2 a3 a4 a18 a19 a20 a21 h)))))))))) vs
noncomputable def B151 (ih : Nat → List V → Hp → VH) (a0 a1 a4 a10 a11 : V) (h : Hp) : VH :=
intS .lss a10 a11 fun v12 =>
ifS v12 (
intS .add a10 a11 fun v13 =>
convI .u64 v13 fun v14 =>
shS .shr v14 (.int .u64 (.ofNat 1)) fun v15 =>
convI .i64 v15 fun v16 =>
idxS 1 a0 v16 fun v17 =>
load1 v17 h fun v18 =>
idxS 1 a0 a1 fun v19 =>
load1 v19 h fun v20 =>
bindS (dynE ih a4 [v18, v20] h) fun v21 h22 =>
intS .lss v21 (.int .i64 (.ofNat 0)) fun v23 =>
ifS v23 (
intS .add v16 (.int .i64 (.ofNat 1)) fun v24 =>
ih 151 [a0, a1, a4, v24, a11] h22) (
ih 151 [a0, a1, a4, a10, v16] h22)) (
ih 155 [a0, a10, a1] h)
noncomputable def G151 : Sh := fun ih vs h => consE (fun a0 => consE (fun a1 => consE (fun a4 => consE (fun a10 => consE (fun a11 => nilE (B151 ih a0 a1 a4 a10 a11 h)))))) vs
noncomputable def B153 (ih : Nat → List V → Hp → VH) (a0 a2 a4 a14 a15 : V) (h : Hp) : VH :=
intS .lss a14 a15 fun v25 =>
ifS v25 (
intS .add a14 a15 fun v26 =>
convI .u64 v26 fun v27 =>
shS .shr v27 (.int .u64 (.ofNat 1)) fun v28 =>
convI .i64 v28 fun v29 =>
idxS 1 a0 a2 fun v30 =>
load1 v30 h fun v31 =>
idxS 1 a0 v29 fun v32 =>
load1 v32 h fun v33 =>
bindS (dynE ih a4 [v31, v33] h) fun v34 h35 =>
intS .lss v34 (.int .i64 (.ofNat 0)) fun v36 =>
notS v36 fun v37 =>
ifS v37 (
intS .add v29 (.int .i64 (.ofNat 1)) fun v38 =>
ih 153 [a0, a2, a4, v38, a15] h35) (
ih 153 [a0, a2, a4, a14, v29] h35)) (
ih 159 [a0, a14, a2] h)
noncomputable def G153 : Sh := fun ih vs h => consE (fun a0 => consE (fun a2 => consE (fun a4 => consE (fun a14 => consE (fun a15 => nilE (B153 ih a0 a2 a4 a14 a15 h)))))) vs
noncomputable def B155 (ih : Nat → List V → Hp → VH) (a0 a10 a13 : V) (h : Hp) : VH :=
intS .sub a10 (.int .i64 (.ofNat 1)) fun v39 =>
intS .lss a13 v39 fun v40 =>
ifS v40 (
intS .add a13 (.int .i64 (.ofNat 1)) fun v41 =>
intS .add a13 (.int .i64 (.ofNat 1)) fun v42 =>
idxS 1 a0 v42 fun v43 =>
load1 v43 h fun v44 =>
idxS 1 a0 a13 fun v45 =>
load1 v45 h fun v46 =>
idxS 1 a0 a13 fun v47 =>
ptrE v47 fun b48 o49 => storeB (storeO Tryz.prog h 9 b48 o49 v44) fun c50 =>
idxS 1 a0 v41 fun v51 =>
storeC v51 v46 (h.put b48 c50) fun h52 =>
intS .add a13 (.int .i64 (.ofNat 1)) fun v53 =>
ih 155 [a0, a10, v53] h52) (
some (.tuple [], h))
noncomputable def G155 : Sh := fun ih vs h => consE (fun a0 => consE (fun a10 => consE (fun a13 => nilE (B155 ih a0 a10 a13 h)))) vs
noncomputable def B157 (ih : Nat → List V → Hp → VH) (a0 a1 a2 a3 a4 a18 a19 a20 a21 a22 : V) (h : Hp) : VH :=
intS .lss a20 a21 fun v54 =>
ifS v54 (
intS .add a20 a21 fun v55 =>
convI .u64 v55 fun v56 =>
shS .shr v56 (.int .u64 (.ofNat 1)) fun v57 =>
convI .i64 v57 fun v58 =>
intS .sub a22 v58 fun v59 =>
idxS 1 a0 v59 fun v60 =>
load1 v60 h fun v61 =>
idxS 1 a0 v58 fun v62 =>
load1 v62 h fun v63 =>
bindS (dynE ih a4 [v61, v63] h) fun v64 h65 =>
intS .lss v64 (.int .i64 (.ofNat 0)) fun v66 =>
notS v66 fun v67 =>
ifS v67 (
intS .add v58 (.int .i64 (.ofNat 1)) fun v68 =>
ih 157 [a0, a1, a2, a3, a4, a18, a19, v68, a21, a22] h65) (
ih 157 [a0, a1, a2, a3, a4, a18, a19, a20, v58, a22] h65)) (
intS .sub a19 a20 fun v69 =>
intS .lss a20 a2 fun v70 =>
guardS v70 true (some (a2, h)) h fun v71 h72 =>
guardS v70 true (some (v69, h72)) h72 fun v73 h74 =>
guardS v70 true (intS .lss v71 v73 fun v75 =>
some (v75, h74)) h74 fun v76 h77 =>
optS (pickV v70 v76 (.bool false)) fun v78 =>
ifS v78 (
bindS (ih 208 [a0, a20, a2, v69, a4] h77) fun v79 h80 =>
ih 161 [a0, a1, a3, a4, a18, a20, v69] h80) (
ih 161 [a0, a1, a3, a4, a18, a20, v69] h77))
noncomputable def G157 : Sh := fun ih vs h => consE (fun a0 => consE (fun a1 => consE (fun a2 => consE (fun a3 => consE (fun a4 => consE (fun a18 => consE (fun a19 => consE (fun a20 => consE (fun a21 => consE (fun a22 => nilE (B157 ih a0 a1 a2 a3 a4 a18 a19 a20 a21 a22 h))))))))))) vs
noncomputable def B159 (ih : Nat → List V → Hp → VH) (a0 a14 a17 : V) (h : Hp) : VH :=
intS .gtr a17 a14 fun v81 =>
ifS v81 (
intS .sub a17 (.int .i64 (.ofNat 1)) fun v82 =>
intS .sub a17 (.int .i64 (.ofNat 1)) fun v83 =>
idxS 1 a0 v83 fun v84 =>
load1 v84 h fun v85 =>
idxS 1 a0 a17 fun v86 =>
load1 v86 h fun v87 =>
idxS 1 a0 a17 fun v88 =>
ptrE v88 fun b89 o90 => storeB (storeO Tryz.prog h 9 b89 o90 v85) fun c91 =>
idxS 1 a0 v82 fun v92 =>
storeC v92 v87 (h.put b89 c91) fun h93 =>
intS .sub a17 (.int .i64 (.ofNat 1)) fun v94 =>
ih 159 [a0, a14, v94] h93) (
some (.tuple [], h))
noncomputable def G159 : Sh := fun ih vs h => consE (fun a0 => consE (fun a14 => consE (fun a17 => nilE (B159 ih a0 a14 a17 h)))) vs
noncomputable def B161 (ih : Nat → List V → Hp → VH) (a0 a1 a3 a4 a18 a20 a24 : V) (h : Hp) : VH :=
intS .lss a1 a20 fun v95 =>
guardS v95 true (some (a20, h)) h fun v96 h97 =>
guardS v95 true (some (a18, h97)) h97 fun v98 h99 =>
guardS v95 true (intS .lss v96 v98 fun v100 =>
some (v100, h99)) h99 fun v101 h102 =>
optS (pickV v95 v101 (.bool false)) fun v103 =>
ifS v103 (
bindS (ih 150 [a0, a1, a20, a18, a4] h102) fun v104 h105 =>
ih 163 [a0, a3, a4, a18, a24] h105) (
ih 163 [a0, a3, a4, a18, a24] h102)
noncomputable def G161 : Sh := fun ih vs h => consE (fun a0 => consE (fun a1 => consE (fun a3 => consE (fun a4 => consE (fun a18 => consE (fun a20 => consE (fun a24 => nilE (B161 ih a0 a1 a3 a4 a18 a20 a24 h)))))))) vs
noncomputable def B163 (ih : Nat → List V → Hp → VH) (a0 a3 a4 a18 a24 : V) (h : Hp) : VH :=
intS .lss a18 a24 fun v106 =>
guardS v106 true (some (a24, h)) h fun v107 h108 =>
guardS v106 true (some (a3, h108)) h108 fun v109 h110 =>
guardS v106 true (intS .lss v107 v109 fun v111 =>
some (v111, h110)) h110 fun v112 h113 =>
optS (pickV v106 v112 (.bool false)) fun v114 =>
ifS v114 (
bindS (ih 150 [a0, a18, a24, a3, a4] h113) fun v115 h116 =>
some (.tuple [], h116)) (
some (.tuple [], h113))
noncomputable def G163 : Sh := fun ih vs h => consE (fun a0 => consE (fun a3 => consE (fun a4 => consE (fun a18 => consE (fun a24 => nilE (B163 ih a0 a3 a4 a18 a24 h)))))) vs
noncomputable def B148 (ih : Nat → List V → Hp → VH) (a0 a1 a2 a3 : V) (h : Hp) : VH :=
intS .add a1 (.int .i64 (.ofNat 1)) fun v0 =>
ih 165 [a0, a1, a2, a3, v0] h
noncomputable def G148 : Sh := fun ih vs h => consE (fun a0 => consE (fun a1 => consE (fun a2 => consE (fun a3 => nilE (B148 ih a0 a1 a2 a3 h))))) vs
noncomputable def B165 (ih : Nat → List V → Hp → VH) (a0 a1 a2 a3 a8 : V) (h : Hp) : VH :=
intS .lss a8 a2 fun v1 =>
ifS v1 (
ih 167 [a0, a1, a2, a3, a8, a8] h) (
some (.tuple [], h))
noncomputable def G165 : Sh := fun ih vs h => consE (fun a0 => consE (fun a1 => consE (fun a2 => consE (fun a3 => consE (fun a8 => nilE (B165 ih a0 a1 a2 a3 a8 h)))))) vs
noncomputable def B167 (ih : Nat → List V → Hp → VH) (a0 a1 a2 a3 a8 a9 : V) (h : Hp) : VH :=
intS .gtr a9 a1 fun v2 =>
guardS v2 true (some (a3, h)) h fun v3 _ =>
guardS v2 true (some (a0, h)) h fun v4 _ =>
guardS v2 true (some (a9, h)) h fun v5 _ =>
guardS v2 true (idxS 1 v4 v5 fun v6 =>
some (v6, h)) h fun v7 _ =>
guardS v2 true (load1 v7 h fun v8 =>
some (v8, h)) h fun v9 _ =>
guardS v2 true (some (a0, h)) h fun v10 _ =>
guardS v2 true (some (a9, h)) h fun v11 _ =>
guardS v2 true (intS .sub v11 (.int .i64 (.ofNat 1)) fun v12 =>
some (v12, h)) h fun v13 _ =>
guardS v2 true (idxS 1 v10 v13 fun v14 =>
some (v14, h)) h fun v15 _ =>
guardS v2 true (load1 v15 h fun v16 =>
some (v16, h)) h fun v17 _ =>
guardS v2 true (bindS (dynE ih v3 [v9, v17] h) fun v18 h19 =>
some (v18, h19)) h fun v20 h21 =>
guardS v2 true (intS .lss v20 (.int .i64 (.ofNat 0)) fun v22 =>
some (v22, h21)) h21 fun v23 h24 =>
optS (pickV v2 v23 (.bool false)) fun v25 =>
ifS v25 (
intS .sub a9 (.int .i64 (.ofNat 1)) fun v26 =>
intS .sub a9 (.int .i64 (.ofNat 1)) fun v27 =>
idxS 1 a0 v27 fun v28 =>
load1 v28 h24 fun v29 =>
idxS 1 a0 a9 fun v30 =>
load1 v30 h24 fun v31 =>
idxS 1 a0 a9 fun v32 =>
ptrE v32 fun b33 o34 => storeB (storeO Tryz.prog h24 9 b33 o34 v29) fun c35 =>
idxS 1 a0 v26 fun v36 =>
storeC v36 v31 (h24.put b33 c35) fun h37 =>
intS .sub a9 (.int .i64 (.ofNat 1)) fun v38 =>
ih 167 [a0, a1, a2, a3, a8, v38] h37) (
intS .add a8 (.int .i64 (.ofNat 1)) fun v39 =>
ih 165 [a0, a1, a2, a3, v39] h24)
noncomputable def G167 : Sh := fun ih vs h => consE (fun a0 => consE (fun a1 => consE (fun a2 => consE (fun a3 => consE (fun a8 => consE (fun a9 => nilE (B167 ih a0 a1 a2 a3 a8 a9 h))))))) vs
noncomputable def B260 (ih : Nat → List V → Hp → VH) (a0 : V) (h : Hp) : VH :=
strS .neq a0 a0 fun v0 =>
some (v0, h)
noncomputable def G260 : Sh := fun ih vs h => consE (fun a0 => nilE (B260 ih a0 h)) vs
noncomputable def B258 (ih : Nat → List V → Hp → VH) (a0 a1 a2 a3 a4 : V) (h : Hp) : VH :=
bindS (ih 308 [a0, a1, a2, a4] h) fun v0 h1 =>
extS 0 v0 fun v2 =>
extS 1 v0 fun v3 =>
bindS (ih 308 [a0, v3, a3, a4] h1) fun v4 h5 =>
extS 0 v4 fun v6 =>
extS 1 v4 fun v7 =>
bindS (ih 308 [a0, v2, v6, a4] h5) fun v8 h9 =>
extS 0 v8 fun v10 =>
extS 1 v8 fun v11 =>
some (v11, h9)
noncomputable def G258 : Sh := fun ih vs h => consE (fun a0 => consE (fun a1 => consE (fun a2 => consE (fun a3 => consE (fun a4 => nilE (B258 ih a0 a1 a2 a3 a4 h)))))) vs
noncomputable def B206 (ih : Nat → List V → Hp → VH) (a0 : V) (h : Hp) : VH :=
nilS a0 fun v0 =>
addrS 0 v0 fun v1 =>
load1 v1 h fun v2 =>
eqS (.pointer 91) .eql v2 .nilPtr fun v3 =>
ifS v3 (
bindS (vh h (bareV h a0)) fun v4 h5 =>
bindS (ih 282 [v4] h5) fun v6 h7 =>
bindS (vh h7 (typedV h7 91 2 v6)) fun v8 h9 =>
nilS a0 fun v10 =>
addrS 0 v10 fun v11 =>
storeC v11 v8 h9 fun h12 =>
some (.tuple [], h12)) (
nilS a0 fun v13 =>
addrS 0 v13 fun v14 =>
load1 v14 h fun v15 =>
bindS (vh h (eqOp .neq (cmpP true v15 a0))) fun v16 h17 =>
ifS v16 (
none) (
some (.tuple [], h17)))
noncomputable def G206 : Sh := fun ih vs h => consE (fun a0 => nilE (B206 ih a0 h)) vs
noncomputable def B236 (ih : Nat → List V → Hp → VH) (a0 a1 a2 : V) (h : Hp) : VH :=
ih 187 [a0, a1, a2, (.int .i64 (.ofNat 0)), (.int .i64 (.ofNat 0))] h
noncomputable def G236 : Sh := fun ih vs h => consE (fun a0 => consE (fun a1 => consE (fun a2 => nilE (B236 ih a0 a1 a2 h)))) vs
noncomputable def B185 (ih : Nat → List V → Hp → VH) (a8 a9 : V) (h : Hp) : VH :=
some (.tuple [a8, a9], h)
noncomputable def G185 : Sh := fun ih vs h => consE (fun a8 => consE (fun a9 => nilE (B185 ih a8 a9 h))) vs
noncomputable def B187 (ih : Nat → List V → Hp → VH) (a0 a1 a2 a8 a9 : V) (h : Hp) : VH :=
lenStr a0 fun v0 =>
intS .lss a9 v0 fun v1 =>
guardS v1 true (some (a9, h)) h fun v2 h3 =>
guardS v1 true (some (a1, h3)) h3 fun v4 h5 =>
guardS v1 true (intS .lss v2 v4 fun v6 =>
some (v6, h5)) h5 fun v7 h8 =>
optS (pickV v1 v7 (.bool false)) fun v9 =>
guardS v9 true (some (a8, h8)) h8 fun v10 h11 =>
guardS v9 true (intS .lss v10 (.int .i64 (.ofNat 2147483648)) fun v12 =>
some (v12, h11)) h11 fun v13 h14 =>
optS (pickV v9 v13 (.bool false)) fun v15 =>
ifS v15 (
idxStr a0 a9 fun v16 =>
bindS (ih 296 [v16] h14) fun v17 h18 =>
extS 0 v17 fun v19 =>
extS 1 v17 fun v20 =>
notS v20 fun v21 =>
guardS v21 false (some (v19, h18)) h18 fun v22 h23 =>
guardS v21 false (some (a2, h23)) h23 fun v24 h25 =>
guardS v21 false (intS .geq v22 v24 fun v26 =>
some (v26, h25)) h25 fun v27 h28 =>
optS (pickV v21 (.bool true) v27) fun v29 =>
ifS v29 (
ih 185 [a8, a9] h28) (
intS .mul a8 a2 fun v30 =>
intS .add v30 v19 fun v31 =>
intS .add a9 (.int .i64 (.ofNat 1)) fun v32 =>
ih 187 [a0, a1, a2, v31, v32] h28)) (
ih 185 [a8, a9] h14)
noncomputable def G187 : Sh := fun ih vs h => consE (fun a0 => consE (fun a1 => consE (fun a2 => consE (fun a8 => consE (fun a9 => nilE (B187 ih a0 a1 a2 a8 a9 h)))))) vs
noncomputable def B232 (ih : Nat → List V → Hp → VH) (a0 a1 a2 : V) (h : Hp) : VH :=
bindS (ih 298 [a0, a1, a2] h) fun v0 h1 =>
extS 0 v0 fun v2 =>
extS 1 v0 fun v3 =>
bindS (vh h1 (eqOp .neq (cmpI Tryz.prog true v3 .nilIface))) fun v4 h5 =>
ifS v4 (
bindS (ih 300 [(.str (us [80, 97, 114, 115, 101, 73, 110, 116])), a0, a1, a2, v3] h5) fun v6 h7 =>
some (.tuple [v2, v6], h7)) (
some (.tuple [v2, .nilIface], h5))
noncomputable def G232 : Sh := fun ih vs h => consE (fun a0 => consE (fun a1 => consE (fun a2 => nilE (B232 ih a0 a1 a2 h)))) vs
noncomputable def B230 (ih : Nat → List V → Hp → VH) (a0 : V) (h : Hp) : VH :=
lenStr a0 fun v0 =>
ih 201 [a0, (.int .u64 (.ofNat 0)), v0, (.int .i64 (.ofNat 0))] h
noncomputable def G230 : Sh := fun ih vs h => consE (fun a0 => nilE (B230 ih a0 h)) vs
noncomputable def B201 (ih : Nat → List V → Hp → VH) (a0 a4 a9 a10 : V) (h : Hp) : VH :=
intS .lss a10 a9 fun v1 =>
ifS v1 (
idxStr a0 a10 fun v2 =>
bindS (ih 296 [v2] h) fun v3 h4 =>
extS 0 v3 fun v5 =>
extS 1 v3 fun v6 =>
notS v6 fun v7 =>
ifS v7 (
some (.tuple [(.int .u64 (.ofNat 0)), (.bool false)], h4)) (
shS .shl a4 (.int .u64 (.ofNat 4)) fun v8 =>
convI .u64 v5 fun v9 =>
intS .or v8 v9 fun v10 =>
intS .add a10 (.int .i64 (.ofNat 1)) fun v11 =>
ih 201 [a0, v10, a9, v11] h4)) (
strS .neq a0 (.str (us [])) fun v12 =>
some (.tuple [a4, v12], h))
noncomputable def G201 : Sh := fun ih vs h => consE (fun a0 => consE (fun a4 => consE (fun a9 => consE (fun a10 => nilE (B201 ih a0 a4 a9 a10 h))))) vs
noncomputable def B228 (ih : Nat → List V → Hp → VH) (a0 : V) (h : Hp) : VH :=
ih 203 [a0] h
noncomputable def G228 : Sh := fun ih vs h => consE (fun a0 => nilE (B228 ih a0 h)) vs
noncomputable def B203 (ih : Nat → List V → Hp → VH) (a0 : V) (h : Hp) : VH :=
load1 a0 h fun v0 =>
strS .neq v0 (.str (us [])) fun v1 =>
guardS v1 true (load1 a0 h fun v2 =>
some (v2, h)) h fun v3 h4 =>
guardS v1 true (idxStr v3 (.int .i64 (.ofNat 0)) fun v5 =>
some (v5, h4)) h4 fun v6 h7 =>
guardS v1 true (bindS (ih 52 [v6] h7) fun v8 h9 =>
some (v8, h9)) h7 fun v10 h11 =>
optS (pickV v1 v10 (.bool false)) fun v12 =>
ifS v12 (
load1 a0 h11 fun v13 =>
slStrK (some (.int .i64 (.ofNat 1))) none v13 fun v14 =>
storeC a0 v14 h11 fun h15 =>
ih 203 [a0] h15) (
ih 205 [a0] h11)
noncomputable def G203 : Sh := fun ih vs h => consE (fun a0 => nilE (B203 ih a0 h)) vs
noncomputable def B205 (ih : Nat → List V → Hp → VH) (a0 : V) (h : Hp) : VH :=
load1 a0 h fun v16 =>
strS .neq v16 (.str (us [])) fun v17 =>
guardS v17 true (load1 a0 h fun v18 =>
some (v18, h)) h fun v19 h20 =>
guardS v17 true (load1 a0 h20 fun v21 =>
some (v21, h20)) h20 fun v22 h23 =>
guardS v17 true (lenStr v22 fun v24 =>
some (v24, h23)) h23 fun v25 h26 =>
guardS v17 true (intS .sub v25 (.int .i64 (.ofNat 1)) fun v27 =>
some (v27, h26)) h26 fun v28 h29 =>
guardS v17 true (idxStr v19 v28 fun v30 =>
some (v30, h29)) h29 fun v31 h32 =>
guardS v17 true (bindS (ih 52 [v31] h32) fun v33 h34 =>
some (v33, h34)) h32 fun v35 h36 =>
optS (pickV v17 v35 (.bool false)) fun v37 =>
ifS v37 (
load1 a0 h36 fun v38 =>
load1 a0 h36 fun v39 =>
lenStr v39 fun v40 =>
intS .sub v40 (.int .i64 (.ofNat 1)) fun v41 =>
slStrK none (some v41) v38 fun v42 =>
storeC a0 v42 h36 fun h43 =>
ih 205 [a0] h43) (
some (.tuple [], h36))
noncomputable def G205 : Sh := fun ih vs h => consE (fun a0 => nilE (B205 ih a0 h)) vs
noncomputable def B214 (ih : Nat → List V → Hp → VH) (a0 a1 : V) (h : Hp) : VH :=
ih 219 [a0, a1] h
noncomputable def G214 : Sh := fun ih vs h => consE (fun a0 => consE (fun a1 => nilE (B214 ih a0 a1 h))) vs
noncomputable def B217 (ih : Nat → List V → Hp → VH) (a0 : V) (h : Hp) : VH :=
some (a0, h)
noncomputable def G217 : Sh := fun ih vs h => consE (fun a0 => nilE (B217 ih a0 h)) vs
noncomputable def B219 (ih : Nat → List V → Hp → VH) (a0 a1 : V) (h : Hp) : VH :=
lenStr a0 fun v0 =>
intS .gtr v0 (.int .i64 (.ofNat 0)) fun v1 =>
ifS v1 (
idxStr a0 (.int .i64 (.ofNat 0)) fun v2 =>
bindS (ih 286 [a1, v2] h) fun v3 h4 =>
notS v3 fun v5 =>
ifS v5 (
ih 217 [a0] h4) (
slStrK (some (.int .i64 (.ofNat 1))) none a0 fun v6 =>
ih 219 [v6, a1] h4)) (
ih 217 [a0] h)
noncomputable def G219 : Sh := fun ih vs h => consE (fun a0 => consE (fun a1 => nilE (B219 ih a0 a1 h))) vs
noncomputable def B224 (ih : Nat → List V → Hp → VH) (a0 a1 : V) (h : Hp) : VH :=
ih 223 [a0, a1] h
noncomputable def G224 : Sh := fun ih vs h => consE (fun a0 => consE (fun a1 => nilE (B224 ih a0 a1 h))) vs
noncomputable def B221 (ih : Nat → List V → Hp → VH) (a0 : V) (h : Hp) : VH :=
some (a0, h)
noncomputable def G221 : Sh := fun ih vs h => consE (fun a0 => nilE (B221 ih a0 h)) vs
noncomputable def B223 (ih : Nat → List V → Hp → VH) (a0 a1 : V) (h : Hp) : VH :=
lenStr a0 fun v0 =>
intS .gtr v0 (.int .i64 (.ofNat 0)) fun v1 =>
ifS v1 (
lenStr a0 fun v2 =>
intS .sub v2 (.int .i64 (.ofNat 1)) fun v3 =>
idxStr a0 v3 fun v4 =>
bindS (ih 286 [a1, v4] h) fun v5 h6 =>
notS v5 fun v7 =>
ifS v7 (
ih 221 [a0] h6) (
lenStr a0 fun v8 =>
intS .sub v8 (.int .i64 (.ofNat 1)) fun v9 =>
slStrK none (some v9) a0 fun v10 =>
ih 223 [v10, a1] h6)) (
ih 221 [a0] h)
noncomputable def G223 : Sh := fun ih vs h => consE (fun a0 => consE (fun a1 => nilE (B223 ih a0 a1 h))) vs
noncomputable def B212 (ih : Nat → List V → Hp → VH) (a0 : V) (h : Hp) : VH :=
newS 127 [(.bool false), (.bool false), (.bool false), (.bool false), (.bool false), (.bool false), (.bool false), (.bool false), (.bool false), (.bool false), (.bool false), (.bool false), (.bool false), (.bool false), (.bool false), (.bool false), (.bool false), (.bool false), (.bool false), (.bool false), (.bool false), (.bool false), (.bool false), (.bool false), (.bool false), (.bool false), (.bool false), (.bool false), (.bool false), (.bool false), (.bool false), (.bool false), (.bool false), (.bool false), (.bool false), (.bool false), (.bool false), (.bool false), (.bool false), (.bool false), (.bool false), (.bool false), (.bool false), (.bool false), (.bool false), (.bool false), (.bool false), (.bool false), (.bool false), (.bool false), (.bool false), (.bool false), (.bool false), (.bool false), (.bool false), (.bool false), (.bool false), (.bool false), (.bool false), (.bool false), (.bool false), (.bool false), (.bool false), (.bool false), (.bool false), (.bool false), (.bool false), (.bool false), (.bool false), (.bool false), (.bool false), (.bool false), (.bool false), (.bool false), (.bool false), (.bool false), (.bool false), (.bool false), (.bool false), (.bool false), (.bool false), (.bool false), (.bool false), (.bool false), (.bool false), (.bool false), (.bool false), (.bool false), (.bool false), (.bool false), (.bool false), (.bool false), (.bool false), (.bool false), (.bool false), (.bool false), (.bool false), (.bool false), (.bool false), (.bool false), (.bool false), (.bool false), (.bool false), (.bool false), (.bool false), (.bool false), (.bool false), (.bool false), (.bool false), (.bool false), (.bool false), (.bool false), (.bool false), (.bool false), (.bool false), (.bool false), (.bool false), (.bool false), (.bool false), (.bool false), (.bool false), (.bool false), (.bool false), (.bool false), (.bool false), (.bool false), (.bool false), (.bool false), (.bool false), (.bool false), (.bool false), (.bool false), (.bool false), (.bool false), (.bool false), (.bool false), (.bool false), (.bool false), (.bool false), (.bool false), (.bool false), (.bool false), (.bool false), (.bool false), (.bool false), (.bool false), (.bool false), (.bool false), (.bool false), (.bool false), (.bool false), (.bool false), (.bool false), (.bool false), (.bool false), (.bool false), (.bool false), (.bool false), (.bool false), (.bool false), (.bool false), (.bool false), (.bool false), (.bool false), (.bool false), (.bool false), (.bool false), (.bool false), (.bool false), (.bool false), (.bool false), (.bool false), (.bool false), (.bool false), (.bool false), (.bool false), (.bool false), (.bool false), (.bool false), (.bool false), (.bool false), (.bool false), (.bool false), (.bool false), (.bool false), (.bool false), (.bool false), (.bool false), (.bool false), (.bool false), (.bool false), (.bool false), (.bool false), (.bool false), (.bool false), (.bool false), (.bool false), (.bool false), (.bool false), (.bool false), (.bool false), (.bool false), (.bool false), (.bool false), (.bool false), (.bool false), (.bool false), (.bool false), (.bool false), (.bool false), (.bool false), (.bool false), (.bool false), (.bool false), (.bool false), (.bool false), (.bool false), (.bool false), (.bool false), (.bool false), (.bool false), (.bool false), (.bool false), (.bool false), (.bool false), (.bool false), (.bool false), (.bool false), (.bool false), (.bool false), (.bool false), (.bool false), (.bool false), (.bool false), (.bool false), (.bool false), (.bool false), (.bool false), (.bool false), (.bool false), (.bool false), (.bool false), (.bool false), (.bool false), (.bool false), (.bool false), (.bool false), (.bool false), (.bool false), (.bool false), (.bool false), (.bool false), (.bool false), (.bool false), (.bool false), (.bool false)] h fun v0 h1 =>
ih 225 [a0, v0, (.int .i64 (.ofNat 0))] h1
noncomputable def G212 : Sh := fun ih vs h => consE (fun a0 => nilE (B212 ih a0 h)) vs
noncomputable def B225 (ih : Nat → List V → Hp → VH) (a0 a2 a4 : V) (h : Hp) : VH :=
lenStr a0 fun v2 =>
intS .lss a4 v2 fun v3 =>
ifS v3 (
idxStr a0 a4 fun v4 =>
intS .geq v4 (.int .u8 (.ofNat 128)) fun v5 =>
ifS v5 (
loadN 256 a2 h fun v6 =>
storeN 256 a2 v6 h fun h7 =>
loadN 256 a2 h7 fun v8 =>
some (.tuple [v8, (.bool false)], h7)) (
idxP 1 256 a2 v4 fun v9 =>
storeC v9 (.bool true) h fun h10 =>
intS .add a4 (.int .i64 (.ofNat 1)) fun v11 =>
ih 225 [a0, a2, v11] h10)) (
loadN 256 a2 h fun v12 =>
storeN 256 a2 v12 h fun h13 =>
loadN 256 a2 h13 fun v14 =>
some (.tuple [v14, (.bool true)], h13))
noncomputable def G225 : Sh := fun ih vs h => consE (fun a0 => consE (fun a2 => consE (fun a4 => nilE (B225 ih a0 a2 a4 h)))) vs
noncomputable def B210 (ih : Nat → List V → Hp → VH) (a0 a1 : V) (h : Hp) : VH :=
ih 227 [a0, a1] h
noncomputable def G210 : Sh := fun ih vs h => consE (fun a0 => consE (fun a1 => nilE (B210 ih a0 a1 h))) vs
noncomputable def B227 (ih : Nat → List V → Hp → VH) (a0 a1 : V) (h : Hp) : VH :=
lenStr a0 fun v0 =>
intS .gtr v0 (.int .i64 (.ofNat 0)) fun v1 =>
guardS v1 true (some (a0, h)) h fun v2 h3 =>
guardS v1 true (idxStr v2 (.int .i64 (.ofNat 0)) fun v4 =>
some (v4, h3)) h3 fun v5 h6 =>
guardS v1 true (some (a1, h6)) h6 fun v7 h8 =>
guardS v1 true (intS .eql v5 v7 fun v9 =>
some (v9, h8)) h8 fun v10 h11 =>
optS (pickV v1 v10 (.bool false)) fun v12 =>
ifS v12 (
slStrK (some (.int .i64 (.ofNat 1))) none a0 fun v13 =>
ih 227 [v13, a1] h11) (
some (a0, h11))
noncomputable def G227 : Sh := fun ih vs h => consE (fun a0 => consE (fun a1 => nilE (B227 ih a0 a1 h))) vs
noncomputable def B218 (ih : Nat → List V → Hp → VH) (a0 a1 : V) (h : Hp) : VH :=
bindS (ih 172 [a0, a1] h) fun v0 h1 =>
ifS v0 (
lenStr a1 fun v2 =>
slStrK (some v2) none a0 fun v3 =>
some (v3, h1)) (
some (a0, h1))
noncomputable def G218 : Sh := fun ih vs h => consE (fun a0 => consE (fun a1 => nilE (B218 ih a0 a1 h))) vs
noncomputable def B208 (ih : Nat → List V → Hp → VH) (a0 a1 a2 a3 a4 : V) (h : Hp) : VH :=
intS .sub a2 a1 fun v0 =>
intS .sub a3 a2 fun v1 =>
ih 231 [a0, a2, a4, v0, v1] h
noncomputable def G208 : Sh := fun ih vs h => consE (fun a0 => consE (fun a1 => consE (fun a2 => consE (fun a3 => consE (fun a4 => nilE (B208 ih a0 a1 a2 a3 a4 h)))))) vs
noncomputable def B231 (ih : Nat → List V → Hp → VH) (a0 a2 a4 a10 a11 : V) (h : Hp) : VH :=
intS .neq a10 a11 fun v2 =>
ifS v2 (
intS .gtr a10 a11 fun v3 =>
ifS v3 (
intS .sub a2 a10 fun v4 =>
bindS (ih 284 [a0, v4, a2, a11, a4] h) fun v5 h6 =>
intS .sub a10 a11 fun v7 =>
ih 231 [a0, a2, a4, v7, a11] h6) (
intS .sub a2 a10 fun v8 =>
intS .add a2 a11 fun v9 =>
intS .sub v9 a10 fun v10 =>
bindS (ih 284 [a0, v8, v10, a10, a4] h) fun v11 h12 =>
intS .sub a11 a10 fun v13 =>
ih 231 [a0, a2, a4, a10, v13] h12)) (
intS .sub a2 a10 fun v14 =>
bindS (ih 284 [a0, v14, a2, a10, a4] h) fun v15 h16 =>
some (.tuple [], h16))
noncomputable def G231 : Sh := fun ih vs h => consE (fun a0 => consE (fun a2 => consE (fun a4 => consE (fun a10 => consE (fun a11 => nilE (B231 ih a0 a2 a4 a10 a11 h)))))) vs
noncomputable def B308 (ih : Nat → List V → Hp → VH) (a0 a1 a2 a3 : V) (h : Hp) : VH :=
idxS 1 a0 a2 fun v0 =>
load1 v0 h fun v1 =>
idxS 1 a0 a1 fun v2 =>
load1 v2 h fun v3 =>
bindS (ih 190 [v1, v3] h) fun v4 h5 =>
ifS v4 (
nilS a3 fun v6 =>
load1 v6 h5 fun v7 =>
intS .add v7 (.int .i64 (.ofNat 1)) fun v8 =>
nilS a3 fun v9 =>
storeC v9 v8 h5 fun h10 =>
some (.tuple [a2, a1], h10)) (
some (.tuple [a1, a2], h5))
noncomputable def G308 : Sh := fun ih vs h => consE (fun a0 => consE (fun a1 => consE (fun a2 => consE (fun a3 => nilE (B308 ih a0 a1 a2 a3 h))))) vs
noncomputable def B296 (ih : Nat → List V → Hp → VH) (a0 : V) (h : Hp) : VH :=
bindS (ih 90 [a0] h) fun v0 h1 =>
ifS v0 (
intS .sub a0 (.int .u8 (.ofNat 48)) fun v2 =>
convI .i64 v2 fun v3 =>
some (.tuple [v3, (.bool true)], h1)) (
bindS (ih 82 [(.int .u8 (.ofNat 97)), a0, (.int .u8 (.ofNat 102))] h1) fun v4 h5 =>
ifS v4 (
intS .sub a0 (.int .u8 (.ofNat 97)) fun v6 =>
convI .i64 v6 fun v7 =>
intS .add v7 (.int .i64 (.ofNat 10)) fun v8 =>
some (.tuple [v8, (.bool true)], h5)) (
bindS (ih 82 [(.int .u8 (.ofNat 65)), a0, (.int .u8 (.ofNat 70))] h5) fun v9 h10 =>
ifS v9 (
intS .sub a0 (.int .u8 (.ofNat 65)) fun v11 =>
convI .i64 v11 fun v12 =>
intS .add v12 (.int .i64 (.ofNat 10)) fun v13 =>
some (.tuple [v13, (.bool true)], h10)) (
some (.tuple [(.int .i64 (.ofNat 0)), (.bool false)], h10))))
noncomputable def G296 : Sh := fun ih vs h => consE (fun a0 => nilE (B296 ih a0 h)) vs
noncomputable def B286 (ih : Nat → List V → Hp → VH) (a0 a1 : V) (h : Hp) : VH :=
nilS a0 fun v0 =>
idxP 1 256 v0 a1 fun v1 =>
load1 v1 h fun v2 =>
some (v2, h)
noncomputable def G286 : Sh := fun ih vs h => consE (fun a0 => consE (fun a1 => nilE (B286 ih a0 a1 h))) vs
noncomputable def B300 (ih : Nat → List V → Hp → VH) (a0 a1 a2 a3 a4 : V) (h : Hp) : VH :=
bindS (vh h (eqOp .eql (cmpI Tryz.prog false a4 (.iface 184 (.int .i64 (.ofNat 2)))))) fun v0 h1 =>
ifS v0 (
bindS (ih 324 [a0, a1] h1) fun v2 h3 =>
some ((.iface 187 v2), h3)) (
bindS (vh h1 (eqOp .eql (cmpI Tryz.prog false a4 (.iface 184 (.int .i64 (.ofNat 1)))))) fun v4 h5 =>
ifS v4 (
bindS (ih 326 [a0, a1] h5) fun v6 h7 =>
some ((.iface 187 v6), h7)) (
bindS (vh h5 (eqOp .eql (cmpI Tryz.prog false a4 (.iface 184 (.int .i64 (.ofNat 3)))))) fun v8 h9 =>
ifS v8 (
bindS (ih 328 [a0, a1, a2] h9) fun v10 h11 =>
some ((.iface 187 v10), h11)) (
bindS (vh h9 (eqOp .eql (cmpI Tryz.prog false a4 (.iface 184 (.int .i64 (.ofNat 4)))))) fun v12 h13 =>
ifS v12 (
bindS (ih 330 [a0, a1, a3] h13) fun v14 h15 =>
some ((.iface 187 v14), h15)) (
some (a4, h13)))))
noncomputable def G300 : Sh := fun ih vs h => consE (fun a0 => consE (fun a1 => consE (fun a2 => consE (fun a3 => consE (fun a4 => nilE (B300 ih a0 a1 a2 a3 a4 h)))))) vs
noncomputable def B298 (ih : Nat → List V → Hp → VH) (a0 a1 a2 : V) (h : Hp) : VH :=
strS .eql a0 (.str (us [])) fun v0 =>
ifS v0 (
some (.tuple [(.int .i64 (.ofNat 0)), (.iface 184 (.int .i64 (.ofNat 2)))], h)) (
idxStr a0 (.int .i64 (.ofNat 0)) fun v1 =>
intS .eql v1 (.int .u8 (.ofNat 43)) fun v2 =>
ifS v2 (
slStrK (some (.int .i64 (.ofNat 1))) none a0 fun v3 =>
ih 255 [v3, a1, a2, (.bool false)] h) (
intS .eql v1 (.int .u8 (.ofNat 45)) fun v4 =>
ifS v4 (
slStrK (some (.int .i64 (.ofNat 1))) none a0 fun v5 =>
ih 255 [v5, a1, a2, (.bool true)] h) (
ih 255 [a0, a1, a2, (.bool false)] h)))
noncomputable def G298 : Sh := fun ih vs h => consE (fun a0 => consE (fun a1 => consE (fun a2 => nilE (B298 ih a0 a1 a2 h)))) vs
noncomputable def B255 (ih : Nat → List V → Hp → VH) (a0 a1 a2 a8 : V) (h : Hp) : VH :=
bindS (ih 322 [a0, a1, a2] h) fun v6 h7 =>
extS 0 v6 fun v8 =>
extS 1 v6 fun v9 =>
bindS (vh h7 (eqOp .neq (cmpI Tryz.prog true v9 .nilIface))) fun v10 h11 =>
guardS v10 true (some (v9, h11)) h11 fun v12 h13 =>
guardS v10 true (some ((.iface 184 (.int .i64 (.ofNat 1))), h13)) h13 fun v14 h15 =>
guardS v10 true (bindS (vh h15 (eqOp .neq (cmpI Tryz.prog false v12 v14))) fun v16 h17 =>
some (v16, h17)) h15 fun v18 h19 =>
optS (pickV v10 v18 (.bool false)) fun v20 =>
ifS v20 (
some (.tuple [(.int .i64 (.ofNat 0)), v9], h19)) (
intS .eql a2 (.int .i64 (.ofNat 0)) fun v21 =>
ifS v21 (
ih 257 [(.int .i64 (.ofNat 64)), a8, v8] h19) (
ih 257 [a2, a8, v8] h19))
noncomputable def G255 : Sh := fun ih vs h => consE (fun a0 => consE (fun a1 => consE (fun a2 => consE (fun a8 => nilE (B255 ih a0 a1 a2 a8 h))))) vs
noncomputable def B257 (ih : Nat → List V → Hp → VH) (a2 a8 a9 : V) (h : Hp) : VH :=
intS .sub a2 (.int .i64 (.ofNat 1)) fun v22 =>
convI .u64 v22 fun v23 =>
shS .shl (.int .u64 (.ofNat 1)) v23 fun v24 =>
notS a8 fun v25 =>
guardS v25 true (some (a9, h)) h fun v26 h27 =>
guardS v25 true (some (v24, h27)) h27 fun v28 h29 =>
guardS v25 true (intS .geq v26 v28 fun v30 =>
some (v30, h29)) h29 fun v31 h32 =>
optS (pickV v25 v31 (.bool false)) fun v33 =>
ifS v33 (
intS .sub v24 (.int .u64 (.ofNat 1)) fun v34 =>
convI .i64 v34 fun v35 =>
some (.tuple [v35, (.iface 184 (.int .i64 (.ofNat 1)))], h32)) (
guardS a8 true (some (a9, h32)) h32 fun v36 h37 =>
guardS a8 true (some (v24, h37)) h37 fun v38 h39 =>
guardS a8 true (intS .gtr v36 v38 fun v40 =>
some (v40, h39)) h39 fun v41 h42 =>
optS (pickV a8 v41 (.bool false)) fun v43 =>
ifS v43 (
convI .i64 v24 fun v44 =>
negS v44 fun v45 =>
some (.tuple [v45, (.iface 184 (.int .i64 (.ofNat 1)))], h42)) (
convI .i64 a9 fun v46 =>
ifS a8 (
negS v46 fun v47 =>
ih 259 [v47] h42) (
ih 259 [v46] h42)))
noncomputable def G257 : Sh := fun ih vs h => consE (fun a2 => consE (fun a8 => consE (fun a9 => nilE (B257 ih a2 a8 a9 h)))) vs
noncomputable def B259 (ih : Nat → List V → Hp → VH) (a11 : V) (h : Hp) : VH :=
some (.tuple [a11, .nilIface], h)
noncomputable def G259 : Sh := fun ih vs h => consE (fun a11 => nilE (B259 ih a11 h)) vs
noncomputable def B284 (ih : Nat → List V → Hp → VH) (a0 a1 a2 a3 a4 : V) (h : Hp) : VH :=
ih 267 [a0, a1, a2, a3, (.int .i64 (.ofNat 0))] h
noncomputable def G284 : Sh := fun ih vs h => consE (fun a0 => consE (fun a1 => consE (fun a2 => consE (fun a3 => consE (fun a4 => nilE (B284 ih a0 a1 a2 a3 a4 h)))))) vs
noncomputable def B267 (ih : Nat → List V → Hp → VH) (a0 a1 a2 a3 a10 : V) (h : Hp) : VH :=
intS .lss a10 a3 fun v0 =>
ifS v0 (
intS .add a1 a10 fun v1 =>
intS .add a2 a10 fun v2 =>
intS .add a2 a10 fun v3 =>
idxS 1 a0 v3 fun v4 =>
load1 v4 h fun v5 =>
intS .add a1 a10 fun v6 =>
idxS 1 a0 v6 fun v7 =>
load1 v7 h fun v8 =>
idxS 1 a0 v1 fun v9 =>
ptrE v9 fun b10 o11 => storeB (storeO Tryz.prog h 9 b10 o11 v5) fun c12 =>
idxS 1 a0 v2 fun v13 =>
storeC v13 v8 (h.put b10 c12) fun h14 =>
intS .add a10 (.int .i64 (.ofNat 1)) fun v15 =>
ih 267 [a0, a1, a2, a3, v15] h14) (
some (.tuple [], h))
noncomputable def G267 : Sh := fun ih vs h => consE (fun a0 => consE (fun a1 => consE (fun a2 => consE (fun a3 => consE (fun a10 => nilE (B267 ih a0 a1 a2 a3 a10 h)))))) vs
noncomputable def B326 (ih : Nat → List V → Hp → VH) (a0 a1 : V) (h : Hp) : VH :=
bindS (ih 342 [a1] ⟨h.t, h.n, h.n⟩) fun v0 h1 =>
wroteS h.low h1 fun h2 =>
cD ((pureB h h1) && true) (
load1 (.ptr 7 0) h fun v3 =>
bindS (bldStruct h2 [(0, a0), (1, v0), (2, v3)] (.agg [(.str (us [])), (.str (us [])), .nilIface]) (some [(0, 1), (1, 1), (2, 1)])) fun v4 h5 =>
newS 195 (vcells v4) h5 fun v6 h7 =>
some (v6, h7)) none
noncomputable def G326 : Sh := fun ih vs h => consE (fun a0 => consE (fun a1 => nilE (B326 ih a0 a1 h))) vs
noncomputable def B322 (ih : Nat → List V → Hp → VH) (a0 a1 a2 : V) (h : Hp) : VH :=
strS .eql a0 (.str (us [])) fun v0 =>
ifS v0 (
some (.tuple [(.int .u64 (.ofNat 0)), (.iface 184 (.int .i64 (.ofNat 2)))], h)) (
intS .eql a1 (.int .i64 (.ofNat 0)) fun v1 =>
intS .leq (.int .i64 (.ofNat 2)) a1 fun v2 =>
guardS v2 true (some (a1, h)) h fun v3 h4 =>
guardS v2 true (intS .leq v3 (.int .i64 (.ofNat 36)) fun v5 =>
some (v5, h4)) h4 fun v6 h7 =>
optS (pickV v2 v6 (.bool false)) fun v8 =>
ifS v8 (
ih 269 [a0, a1, a2, v1, a0] h7) (
intS .eql a1 (.int .i64 (.ofNat 0)) fun v9 =>
ifS v9 (
idxStr a0 (.int .i64 (.ofNat 0)) fun v10 =>
intS .eql v10 (.int .u8 (.ofNat 48)) fun v11 =>
ifS v11 (
lenStr a0 fun v12 =>
intS .geq v12 (.int .i64 (.ofNat 3)) fun v13 =>
guardS v13 true (some (a0, h7)) h7 fun v14 h15 =>
guardS v13 true (idxStr v14 (.int .i64 (.ofNat 1)) fun v16 =>
some (v16, h15)) h15 fun v17 h18 =>
guardS v13 true (bindS (ih 338 [v17] h18) fun v19 h20 =>
some (v19, h20)) h18 fun v21 h22 =>
guardS v13 true (intS .eql v21 (.int .u8 (.ofNat 98)) fun v23 =>
some (v23, h22)) h22 fun v24 h25 =>
optS (pickV v13 v24 (.bool false)) fun v26 =>
ifS v26 (
slStrK (some (.int .i64 (.ofNat 2))) none a0 fun v27 =>
ih 269 [v27, (.int .i64 (.ofNat 2)), a2, v1, a0] h25) (
lenStr a0 fun v28 =>
intS .geq v28 (.int .i64 (.ofNat 3)) fun v29 =>
guardS v29 true (some (a0, h25)) h25 fun v30 h31 =>
guardS v29 true (idxStr v30 (.int .i64 (.ofNat 1)) fun v32 =>
some (v32, h31)) h31 fun v33 h34 =>
guardS v29 true (bindS (ih 338 [v33] h34) fun v35 h36 =>
some (v35, h36)) h34 fun v37 h38 =>
guardS v29 true (intS .eql v37 (.int .u8 (.ofNat 111)) fun v39 =>
some (v39, h38)) h38 fun v40 h41 =>
optS (pickV v29 v40 (.bool false)) fun v42 =>
ifS v42 (
slStrK (some (.int .i64 (.ofNat 2))) none a0 fun v43 =>
ih 269 [v43, (.int .i64 (.ofNat 8)), a2, v1, a0] h41) (
lenStr a0 fun v44 =>
intS .geq v44 (.int .i64 (.ofNat 3)) fun v45 =>
guardS v45 true (some (a0, h41)) h41 fun v46 h47 =>
guardS v45 true (idxStr v46 (.int .i64 (.ofNat 1)) fun v48 =>
some (v48, h47)) h47 fun v49 h50 =>
guardS v45 true (bindS (ih 338 [v49] h50) fun v51 h52 =>
some (v51, h52)) h50 fun v53 h54 =>
guardS v45 true (intS .eql v53 (.int .u8 (.ofNat 120)) fun v55 =>
some (v55, h54)) h54 fun v56 h57 =>
optS (pickV v45 v56 (.bool false)) fun v58 =>
ifS v58 (
slStrK (some (.int .i64 (.ofNat 2))) none a0 fun v59 =>
ih 269 [v59, (.int .i64 (.ofNat 16)), a2, v1, a0] h57) (
slStrK (some (.int .i64 (.ofNat 1))) none a0 fun v60 =>
ih 269 [v60, (.int .i64 (.ofNat 8)), a2, v1, a0] h57)))) (
ih 269 [a0, (.int .i64 (.ofNat 10)), a2, v1, a0] h7)) (
some (.tuple [(.int .u64 (.ofNat 0)), (.iface 184 (.int .i64 (.ofNat 3)))], h7))))
noncomputable def G322 : Sh := fun ih vs h => consE (fun a0 => consE (fun a1 => consE (fun a2 => nilE (B322 ih a0 a1 a2 h)))) vs
noncomputable def B269 (ih : Nat → List V → Hp → VH) (a0 a1 a2 a8 a9 : V) (h : Hp) : VH :=
intS .eql a2 (.int .i64 (.ofNat 0)) fun v61 =>
ifS v61 (
ih 271 [a0, a1, (.int .i64 (.ofNat 64)), a8, a9] h) (
intS .lss a2 (.int .i64 (.ofNat 0)) fun v62 =>
guardS v62 false (some (a2, h)) h fun v63 h64 =>
guardS v62 false (intS .gtr v63 (.int .i64 (.ofNat 64)) fun v65 =>
some (v65, h64)) h64 fun v66 h67 =>
optS (pickV v62 (.bool true) v66) fun v68 =>
ifS v68 (
some (.tuple [(.int .u64 (.ofNat 0)), (.iface 184 (.int .i64 (.ofNat 4)))], h67)) (
ih 271 [a0, a1, a2, a8, a9] h67))
noncomputable def G269 : Sh := fun ih vs h => consE (fun a0 => consE (fun a1 => consE (fun a2 => consE (fun a8 => consE (fun a9 => nilE (B269 ih a0 a1 a2 a8 a9 h)))))) vs
noncomputable def B271 (ih : Nat → List V → Hp → VH) (a0 a1 a2 a8 a9 : V) (h : Hp) : VH :=
intS .eql a1 (.int .i64 (.ofNat 10)) fun v69 =>
ifS v69 (
ih 273 [a0, a1, a2, a8, a9, (.int .u64 (.ofNat 1844674407370955162))] h) (
intS .eql a1 (.int .i64 (.ofNat 16)) fun v70 =>
ifS v70 (
ih 273 [a0, a1, a2, a8, a9, (.int .u64 (.ofNat 1152921504606846976))] h) (
convI .u64 a1 fun v71 =>
intS .quo (.int .u64 (.ofNat 18446744073709551615)) v71 fun v72 =>
intS .add v72 (.int .u64 (.ofNat 1)) fun v73 =>
ih 273 [a0, a1, a2, a8, a9, v73] h))
noncomputable def G271 : Sh := fun ih vs h => consE (fun a0 => consE (fun a1 => consE (fun a2 => consE (fun a8 => consE (fun a9 => nilE (B271 ih a0 a1 a2 a8 a9 h)))))) vs
noncomputable def B273 (ih : Nat → List V → Hp → VH) (a0 a1 a2 a8 a9 a10 : V) (h : Hp) : VH :=
convI .u64 a2 fun v74 =>
shS .shl (.int .u64 (.ofNat 1)) v74 fun v75 =>
intS .sub v75 (.int .u64 (.ofNat 1)) fun v76 =>
bindS (s2b 5 h a0) fun v77 h78 =>
lenSl v77 fun v79 =>
ih 275 [a1, a8, a9, a10, v76, (.bool false), (.int .u64 (.ofNat 0)), v77, v79, (.int .i64 (.ofNat 0))] h78
noncomputable def G273 : Sh := fun ih vs h => consE (fun a0 => consE (fun a1 => consE (fun a2 => consE (fun a8 => consE (fun a9 => consE (fun a10 => nilE (B273 ih a0 a1 a2 a8 a9 a10 h))))))) vs
noncomputable def B275 (ih : Nat → List V → Hp → VH) (a1 a8 a9 a10 a11 a12 a13 a99 a100 a101 : V) (h : Hp) : VH :=
intS .lss a101 a100 fun v80 =>
ifS v80 (
idxS 1 a99 a101 fun v81 =>
load1 v81 h fun v82 =>
intS .eql v82 (.int .u8 (.ofNat 95)) fun v83 =>
guardS v83 true (some (a8, h)) h fun v84 h85 =>
optS (pickV v83 v84 (.bool false)) fun v86 =>
ifS v86 (
ih 277 [a1, a8, a9, a10, a11, (.bool true), a13, a99, a100, a101] h85) (
intS .leq (.int .u8 (.ofNat 48)) v82 fun v87 =>
guardS v87 true (some (v82, h85)) h85 fun v88 h89 =>
guardS v87 true (intS .leq v88 (.int .u8 (.ofNat 57)) fun v90 =>
some (v90, h89)) h89 fun v91 h92 =>
optS (pickV v87 v91 (.bool false)) fun v93 =>
ifS v93 (
intS .sub v82 (.int .u8 (.ofNat 48)) fun v94 =>
ih 279 [a1, a8, a9, a10, a11, a12, a13, v94, a99, a100, a101] h92) (
bindS (ih 338 [v82] h92) fun v95 h96 =>
intS .leq (.int .u8 (.ofNat 97)) v95 fun v97 =>
guardS v97 true (some (v82, h96)) h96 fun v98 h99 =>
guardS v97 true (bindS (ih 338 [v98] h99) fun v100 h101 =>
some (v100, h101)) h99 fun v102 h103 =>
guardS v97 true (intS .leq v102 (.int .u8 (.ofNat 122)) fun v104 =>
some (v104, h103)) h103 fun v105 h106 =>
optS (pickV v97 v105 (.bool false)) fun v107 =>
ifS v107 (
bindS (ih 338 [v82] h106) fun v108 h109 =>
intS .sub v108 (.int .u8 (.ofNat 97)) fun v110 =>
intS .add v110 (.int .u8 (.ofNat 10)) fun v111 =>
ih 279 [a1, a8, a9, a10, a11, a12, a13, v111, a99, a100, a101] h109) (
some (.tuple [(.int .u64 (.ofNat 0)), (.iface 184 (.int .i64 (.ofNat 2)))], h106))))) (
guardS a12 true (some (a9, h)) h fun v112 h113 =>
guardS a12 true (bindS (ih 340 [v112] h113) fun v114 h115 =>
some (v114, h115)) h113 fun v116 h117 =>
guardS a12 true (notS v116 fun v118 =>
some (v118, h117)) h117 fun v119 h120 =>
optS (pickV a12 v119 (.bool false)) fun v121 =>
ifS v121 (
some (.tuple [(.int .u64 (.ofNat 0)), (.iface 184 (.int .i64 (.ofNat 2)))], h120)) (
some (.tuple [a13, .nilIface], h120)))
noncomputable def G275 : Sh := fun ih vs h => consE (fun a1 => consE (fun a8 => consE (fun a9 => consE (fun a10 => consE (fun a11 => consE (fun a12 => consE (fun a13 => consE (fun a99 => consE (fun a100 => consE (fun a101 => nilE (B275 ih a1 a8 a9 a10 a11 a12 a13 a99 a100 a101 h))))))))))) vs
noncomputable def B277 (ih : Nat → List V → Hp → VH) (a1 a8 a9 a10 a11 a12 a13 a99 a100 a101 : V) (h : Hp) : VH :=
intS .add a101 (.int .i64 (.ofNat 1)) fun v122 =>
ih 275 [a1, a8, a9, a10, a11, a12, a13, a99, a100, v122] h
noncomputable def G277 : Sh := fun ih vs h => consE (fun a1 => consE (fun a8 => consE (fun a9 => consE (fun a10 => consE (fun a11 => consE (fun a12 => consE (fun a13 => consE (fun a99 => consE (fun a100 => consE (fun a101 => nilE (B277 ih a1 a8 a9 a10 a11 a12 a13 a99 a100 a101 h))))))))))) vs
noncomputable def B279 (ih : Nat → List V → Hp → VH) (a1 a8 a9 a10 a11 a12 a13 a16 a99 a100 a101 : V) (h : Hp) : VH :=
convI .u8 a1 fun v123 =>
intS .geq a16 v123 fun v124 =>
ifS v124 (
some (.tuple [(.int .u64 (.ofNat 0)), (.iface 184 (.int .i64 (.ofNat 2)))], h)) (
intS .geq a13 a10 fun v125 =>
ifS v125 (
some (.tuple [a11, (.iface 184 (.int .i64 (.ofNat 1)))], h)) (
convI .u64 a1 fun v126 =>
intS .mul a13 v126 fun v127 =>
convI .u64 a16 fun v128 =>
intS .add v127 v128 fun v129 =>
intS .lss v129 v127 fun v130 =>
guardS v130 false (some (v129, h)) h fun v131 h132 =>
guardS v130 false (some (a11, h132)) h132 fun v133 h134 =>
guardS v130 false (intS .gtr v131 v133 fun v135 =>
some (v135, h134)) h134 fun v136 h137 =>
optS (pickV v130 (.bool true) v136) fun v138 =>
ifS v138 (
some (.tuple [a11, (.iface 184 (.int .i64 (.ofNat 1)))], h137)) (
ih 277 [a1, a8, a9, a10, a11, a12, v129, a99, a100, a101] h137)))
noncomputable def G279 : Sh := fun ih vs h => consE (fun a1 => consE (fun a8 => consE (fun a9 => consE (fun a10 => consE (fun a11 => consE (fun a12 => consE (fun a13 => consE (fun a16 => consE (fun a99 => consE (fun a100 => consE (fun a101 => nilE (B279 ih a1 a8 a9 a10 a11 a12 a13 a16 a99 a100 a101 h)))))))))))) vs
noncomputable def B342 (ih : Nat → List V → Hp → VH) (a0 : V) (h : Hp) : VH :=
lenStr a0 fun v0 =>
intS .eql v0 (.int .i64 (.ofNat 0)) fun v1 =>
ifS v1 (
some ((.str (us [])), h)) (
lenStr a0 fun v2 =>
bindS (mkS 5 1 1 (.int .u8 (.ofNat 0)) v2 v2 h) fun v3 h4 =>
bindS (cpN h4 1 v3 a0) fun v5 h6 =>
idxS 1 v3 (.int .i64 (.ofNat 0)) fun v7 =>
lenSl v3 fun v8 =>
bindS (seeV h6 5 v7 v8) fun v9 h10 =>
some (v9, h10))
noncomputable def G342 : Sh := fun ih vs h => consE (fun a0 => nilE (B342 ih a0 h)) vs
noncomputable def labs : Tr Lab := ((((((((((((((((((((((((((((((((((((((((((((((((((((((((((((((((((((((((((((((((((((((((((((((((((((((((((((((((((((((((((((((((((((((((((((((((((((((((((Tr.nil.set 0 (3, 58, [1, 44, 45, 46])).set 1 (3, 122, [1, 54, 55, 56])).set 2 (3, 2042, [1, 6, 7, 8, 114, 115])).set 3 (3, 16378, [1, 6, 7, 11, 12, 13, 135, 136, 137])).set 4 (13, 58, [0, 1, 5])).set 5 (10, 126, [3, 4, 5])).set 6 (10, 32319, [3, 4, 5, 8, 9, 10])).set 7 (30, 250, [0, 3, 4, 5, 6])).set 8 (30, 8188, [0, 9, 10, 12])).set 9 (30, 32764, [0, 9, 10, 11, 12])).set 10 (30, 32767, [9])).set 11 (30, 16775356, [0, 9, 10, 12])).set 12 (18, 58, [0, 1, 5])).set 13 (24, 6, [0, 4])).set 14 (24, 51, [0, 4])).set 15 (28, 506, [0, 2, 5, 159, 160, 161])).set 16 (28, 3991, [2, 10, 11])).set 17 (27, 31, [])).set 18 (25, 28, [0, 1, 2, 7])).set 19 (56, 14, [0, 1, 2, 3, 8, 9])).set 20 (56, 911, [0, 1, 2, 3, 8, 9, 10])).set 21 (56, 3647, [0, 1, 2, 3, 8, 9, 10, 11, 12])).set 22 (56, 7295, [0, 1, 2, 3, 8, 9, 10, 11])).set 23 (54, 63, [0, 5])).set 24 (54, 122, [0, 1, 5, 6, 14])).set 25 (54, 1018, [0, 9, 47, 48, 49])).set 26 (55, 421, [7])).set 27 (51, 223, [0, 4, 5])).set 28 (51, 444, [0, 4, 5])).set 29 (50, 28, [0, 3])).set 30 (50, 907, [0, 3])).set 31 (48, 15, [0, 3])).set 32 (39, 28, [0, 1, 2, 6, 7, 8])).set 33 (39, 62, [0, 1, 2, 6])).set 34 (39, 3988, [0, 1, 2, 6, 7, 8])).set 35 (39, 3991, [0, 1, 2, 6])).set 36 (97, 60, [0, 1, 10, 11])).set 37 (97, 124, [0, 1, 10, 11])).set 38 (97, 4092, [0, 1, 10, 11])).set 39 (97, 65472, [0, 1, 10, 11])).set 40 (97, 130948, [0, 1, 10, 11])).set 41 (96, 60, [0, 1, 9, 10])).set 42 (96, 960, [0, 1, 9, 10])).set 43 (96, 1924, [0, 1, 9, 10])).set 44 (94, 58, [0, 1, 2, 7, 8])).set 45 (94, 467, [0, 1, 2, 7, 8])).set 46 (94, 3728, [0, 1, 2, 7, 8])).set 47 (94, 29855, [0, 1, 2, 7, 8])).set 48 (94, 477674, [0, 1, 2, 7, 8, 9])).set 49 (94, 477690, [0, 1, 2, 7, 8, 10])).set 50 (93, 14, [0, 6, 7])).set 51 (92, 255, [9, 11])).set 52 (92, 2037, [0, 9, 10, 11, 12])).set 53 (91, 238, [0, 1, 6, 7, 8, 9])).set 54 (91, 15251, [0, 1, 6, 7, 8, 9, 10])).set 55 (90, 122, [0, 6, 7, 8, 9])).set 56 (90, 126, [0, 6, 7, 10])).set 57 (89, 6, [0, 1, 2, 6])).set 58 (89, 402, [0, 1, 2, 6, 7])).set 59 (99, 7, [0, 2])).set 60 (99, 15, [0, 2])).set 61 (99, 31, [0, 2])).set 62 (98, 7, [0, 2])).set 63 (98, 15, [0, 2])).set 64 (87, 2044, [0, 1, 5, 6, 7, 8, 9, 10])).set 65 (87, 32709, [0, 1, 5, 6, 7, 8, 9, 10])).set 66 (85, 15, [])).set 67 (85, 14836, [0, 6])).set 68 (85, 118782, [0, 13])).set 69 (82, 63, [1, 5])).set 70 (82, 1018, [1, 5, 63, 64])).set 71 (82, 2027, [6, 7])).set 72 (78, 58, [0, 3, 4])).set 73 (78, 467, [0, 3, 4])).set 74 (75, 127, [0, 1, 2, 3, 4, 18, 19, 20, 21])).set 75 (75, 172, [0, 1, 4, 10, 11])).set 76 (75, 428, [0, 2, 4, 14, 15])).set 77 (75, 698, [0, 10, 13])).set 78 (75, 1020, [0, 1, 2, 3, 4, 18, 19, 20, 21, 22])).set 79 (75, 1722, [0, 14, 17])).set 80 (75, 2047, [0, 1, 3, 4, 18, 20, 24])).set 81 (75, 4095, [0, 3, 4, 18, 24])).set 82 (74, 6, [0, 1, 2, 3, 8])).set 83 (74, 402, [0, 1, 2, 3, 8, 9])).set 84 (125, 6, [0, 2, 3, 8])).set 85 (125, 199, [0, 2, 3, 8, 9])).set 86 (124, 124, [0, 1, 7, 8])).set 87 (124, 210, [0, 1, 15, 16])).set 88 (123, 124, [0, 1, 7, 8])).set 89 (123, 210, [0, 1, 19, 20])).set 90 (122, 250, [0, 1, 5, 6, 7, 8, 9])).set 91 (122, 1018, [0, 1, 5, 6, 7, 8, 10])).set 92 (118, 15, [8, 9])).set 93 (118, 28, [0, 1, 2, 8, 9])).set 94 (119, 124, [0, 4])).set 95 (119, 1018, [0, 4, 5, 6])).set 96 (117, 31, [0, 1])).set 97 (117, 235, [0, 5])).set 98 (117, 250, [1, 45])).set 99 (117, 7858, [0, 6, 8])).set 100 (115, 58, [0, 4, 9, 10])).set 101 (114, 4, [0])).set 102 (114, 6, [0])).set 103 (108, 7, [0])).set 104 (108, 12, [0, 1])).set 105 (113, 7, [0])).set 106 (113, 12, [0, 1])).set 107 (113, 395, [0, 1, 5, 6])).set 108 (107, 7, [0])).set 109 (107, 12, [0, 1])).set 110 (112, 7, [0])).set 111 (112, 12, [0, 1])).set 112 (106, 26, [0, 2, 4])).set 113 (105, 12, [0, 1])).set 114 (111, 12, [0, 1])).set 115 (104, 28, [0, 2, 4, 10, 11])).set 116 (153, 58, [0, 4, 5])).set 117 (153, 250, [4, 6, 7, 8])).set 118 (153, 8009, [4, 6, 7, 8])).set 119 (151, 882, [175])).set 120 (151, 57276, [0, 7, 8, 9])).set 121 (151, 229119, [])).set 122 (151, 1832841, [0, 7, 8, 9])).set 123 (151, 14662730, [0, 7, 8, 9, 12])).set 124 (151, 14663598, [0, 7, 8, 9, 14, 15])).set 125 (151, 117308787, [0, 7, 8, 9, 14, 15])).set 126 (151, 7507762322, [0, 7, 8, 9, 14, 15, 16])).set 127 (149, 31, [0, 1, 2, 8])).set 128 (149, 511, [2, 8, 9])).set 129 (149, 16383, [11])).set 130 (147, 511, [0, 4, 5])).set 131 (147, 1023, [0, 4, 5])).set 132 (147, 2042, [0, 4, 5, 6])).set 133 (142, 6, [0, 1, 2, 3, 10])).set 134 (161, 63, [0, 1, 2, 8, 9])).set 135 (161, 127, [0, 1, 2, 8, 9])).set 136 (161, 511, [0, 1, 2, 8, 9, 10])).set 137 (161, 32762, [1, 8, 9, 10, 11, 12, 13, 99, 100, 101])).set 138 (161, 524199, [1, 8, 9, 10, 11, 12, 13, 99, 100, 101])).set 139 (161, 8387175, [1, 8, 9, 10, 11, 12, 13, 16, 99, 100, 101])).set 140 (170, 31, [0, 3, 4])).set 141 (170, 127, [0, 3, 4, 5])).set 142 (170, 508, [0, 3, 4, 5])).set 143 (170, 4067, [0, 3, 4, 5])).set 144 (102, 431, [0, 5, 6])).set 145 (139, 12, [0, 1, 4])).set 146 (139, 31, [0, 4, 12])).set 147 (139, 63, [0, 4, 12])).set 148 (140, 7, [0, 1, 2, 3, 4, 10, 11])).set 149 (140, 63, [0, 1, 2, 3, 4, 10, 11, 12, 13])).set 150 (140, 127, [0, 3, 4, 10, 11, 12, 13])).set 151 (140, 255, [0, 4, 10, 11, 12, 13])).set 152 (140, 4060, [0, 1, 3, 4, 10, 11, 12, 13, 17])).set 153 (140, 16220, [0, 1, 3, 4, 10, 11, 12, 13, 14, 15, 16]))
noncomputable def cuts3 : Cuts := [(58, 0, [1, 44, 45, 46]), (122, 1, [1, 54, 55, 56]), (2042, 2, [1, 6, 7, 8, 114, 115]), (16378, 3, [1, 6, 7, 11, 12, 13, 135, 136, 137])]
theorem fit3 : cutsFit labs 3 cuts3 = true := by kernel_rfl
noncomputable def cuts16 : Cuts := []
theorem fit16 : cutsFit labs 16 cuts16 = true := by kernel_rfl
noncomputable def cuts13 : Cuts := [(58, 4, [0, 1, 5])]
theorem fit13 : cutsFit labs 13 cuts13 = true := by kernel_rfl
noncomputable def cuts15 : Cuts := []
theorem fit15 : cutsFit labs 15 cuts15 = true := by kernel_rfl
noncomputable def cuts14 : Cuts := []
theorem fit14 : cutsFit labs 14 cuts14 = true := by kernel_rfl
noncomputable def cuts9 : Cuts := []
theorem fit9 : cutsFit labs 9 cuts9 = true := by kernel_rfl
noncomputable def cuts7 : Cuts := []
theorem fit7 : cutsFit labs 7 cuts7 = true := by kernel_rfl
noncomputable def cuts8 : Cuts := []
theorem fit8 : cutsFit labs 8 cuts8 = true := by kernel_rfl
noncomputable def cuts12 : Cuts := []
theorem fit12 : cutsFit labs 12 cuts12 = true := by kernel_rfl
noncomputable def cuts11 : Cuts := []
theorem fit11 : cutsFit labs 11 cuts11 = true := by kernel_rfl
noncomputable def cuts10 : Cuts := [(126, 5, [3, 4, 5]), (32319, 6, [3, 4, 5, 8, 9, 10])]
theorem fit10 : cutsFit labs 10 cuts10 = true := by kernel_rfl
noncomputable def cuts31 : Cuts := []
theorem fit31 : cutsFit labs 31 cuts31 = true := by kernel_rfl
noncomputable def cuts30 : Cuts := [(250, 7, [0, 3, 4, 5, 6]), (8188, 8, [0, 9, 10, 12]), (32764, 9, [0, 9, 10, 11, 12]), (32767, 10, [9]), (16775356, 11, [0, 9, 10, 12])]
theorem fit30 : cutsFit labs 30 cuts30 = true := by kernel_rfl
noncomputable def cuts18 : Cuts := [(58, 12, [0, 1, 5])]
theorem fit18 : cutsFit labs 18 cuts18 = true := by kernel_rfl
noncomputable def cuts29 : Cuts := []
theorem fit29 : cutsFit labs 29 cuts29 = true := by kernel_rfl
noncomputable def cuts24 : Cuts := [(6, 13, [0, 4]), (51, 14, [0, 4])]
theorem fit24 : cutsFit labs 24 cuts24 = true := by kernel_rfl
noncomputable def cuts28 : Cuts := [(506, 15, [0, 2, 5, 159, 160, 161]), (3991, 16, [2, 10, 11])]
theorem fit28 : cutsFit labs 28 cuts28 = true := by kernel_rfl
noncomputable def cuts27 : Cuts := [(31, 17, [])]
theorem fit27 : cutsFit labs 27 cuts27 = true := by kernel_rfl
noncomputable def cuts25 : Cuts := [(28, 18, [0, 1, 2, 7])]
theorem fit25 : cutsFit labs 25 cuts25 = true := by kernel_rfl
noncomputable def cuts22 : Cuts := []
theorem fit22 : cutsFit labs 22 cuts22 = true := by kernel_rfl
noncomputable def cuts23 : Cuts := []
theorem fit23 : cutsFit labs 23 cuts23 = true := by kernel_rfl
noncomputable def cuts26 : Cuts := []
theorem fit26 : cutsFit labs 26 cuts26 = true := by kernel_rfl
noncomputable def cuts56 : Cuts := [(14, 19, [0, 1, 2, 3, 8, 9]), (911, 20, [0, 1, 2, 3, 8, 9, 10]), (3647, 21, [0, 1, 2, 3, 8, 9, 10, 11, 12]), (7295, 22, [0, 1, 2, 3, 8, 9, 10, 11])]
theorem fit56 : cutsFit labs 56 cuts56 = true := by kernel_rfl
noncomputable def cuts57 : Cuts := []
theorem fit57 : cutsFit labs 57 cuts57 = true := by kernel_rfl
noncomputable def cuts54 : Cuts := [(63, 23, [0, 5]), (122, 24, [0, 1, 5, 6, 14]), (1018, 25, [0, 9, 47, 48, 49])]
theorem fit54 : cutsFit labs 54 cuts54 = true := by kernel_rfl
noncomputable def cuts55 : Cuts := [(421, 26, [7])]
theorem fit55 : cutsFit labs 55 cuts55 = true := by kernel_rfl
noncomputable def cuts53 : Cuts := []
theorem fit53 : cutsFit labs 53 cuts53 = true := by kernel_rfl
noncomputable def cuts40 : Cuts := []
theorem fit40 : cutsFit labs 40 cuts40 = true := by kernel_rfl
noncomputable def cuts42 : Cuts := []
theorem fit42 : cutsFit labs 42 cuts42 = true := by kernel_rfl
noncomputable def cuts52 : Cuts := []
theorem fit52 : cutsFit labs 52 cuts52 = true := by kernel_rfl
noncomputable def cuts51 : Cuts := [(223, 27, [0, 4, 5]), (444, 28, [0, 4, 5])]
theorem fit51 : cutsFit labs 51 cuts51 = true := by kernel_rfl
noncomputable def cuts50 : Cuts := [(28, 29, [0, 3]), (907, 30, [0, 3])]
theorem fit50 : cutsFit labs 50 cuts50 = true := by kernel_rfl
noncomputable def cuts49 : Cuts := []
theorem fit49 : cutsFit labs 49 cuts49 = true := by kernel_rfl
noncomputable def cuts48 : Cuts := [(15, 31, [0, 3])]
theorem fit48 : cutsFit labs 48 cuts48 = true := by kernel_rfl
noncomputable def cuts46 : Cuts := []
theorem fit46 : cutsFit labs 46 cuts46 = true := by kernel_rfl
noncomputable def cuts43 : Cuts := []
theorem fit43 : cutsFit labs 43 cuts43 = true := by kernel_rfl
noncomputable def cuts45 : Cuts := []
theorem fit45 : cutsFit labs 45 cuts45 = true := by kernel_rfl
noncomputable def cuts47 : Cuts := []
theorem fit47 : cutsFit labs 47 cuts47 = true := by kernel_rfl
noncomputable def cuts44 : Cuts := []
theorem fit44 : cutsFit labs 44 cuts44 = true := by kernel_rfl
noncomputable def cuts39 : Cuts := [(28, 32, [0, 1, 2, 6, 7, 8]), (62, 33, [0, 1, 2, 6]), (3988, 34, [0, 1, 2, 6, 7, 8]), (3991, 35, [0, 1, 2, 6])]
theorem fit39 : cutsFit labs 39 cuts39 = true := by kernel_rfl
noncomputable def cuts41 : Cuts := []
theorem fit41 : cutsFit labs 41 cuts41 = true := by kernel_rfl
noncomputable def cuts97 : Cuts := [(60, 36, [0, 1, 10, 11]), (124, 37, [0, 1, 10, 11]), (4092, 38, [0, 1, 10, 11]), (65472, 39, [0, 1, 10, 11]), (130948, 40, [0, 1, 10, 11])]
theorem fit97 : cutsFit labs 97 cuts97 = true := by kernel_rfl
noncomputable def cuts96 : Cuts := [(60, 41, [0, 1, 9, 10]), (960, 42, [0, 1, 9, 10]), (1924, 43, [0, 1, 9, 10])]
theorem fit96 : cutsFit labs 96 cuts96 = true := by kernel_rfl
noncomputable def cuts95 : Cuts := []
theorem fit95 : cutsFit labs 95 cuts95 = true := by kernel_rfl
noncomputable def cuts94 : Cuts := [(58, 44, [0, 1, 2, 7, 8]), (467, 45, [0, 1, 2, 7, 8]), (3728, 46, [0, 1, 2, 7, 8]), (29855, 47, [0, 1, 2, 7, 8]), (477674, 48, [0, 1, 2, 7, 8, 9]), (477690, 49, [0, 1, 2, 7, 8, 10])]
theorem fit94 : cutsFit labs 94 cuts94 = true := by kernel_rfl
noncomputable def cuts93 : Cuts := [(14, 50, [0, 6, 7])]
theorem fit93 : cutsFit labs 93 cuts93 = true := by kernel_rfl
noncomputable def cuts92 : Cuts := [(255, 51, [9, 11]), (2037, 52, [0, 9, 10, 11, 12])]
theorem fit92 : cutsFit labs 92 cuts92 = true := by kernel_rfl
noncomputable def cuts91 : Cuts := [(238, 53, [0, 1, 6, 7, 8, 9]), (15251, 54, [0, 1, 6, 7, 8, 9, 10])]
theorem fit91 : cutsFit labs 91 cuts91 = true := by kernel_rfl
noncomputable def cuts90 : Cuts := [(122, 55, [0, 6, 7, 8, 9]), (126, 56, [0, 6, 7, 10])]
theorem fit90 : cutsFit labs 90 cuts90 = true := by kernel_rfl
noncomputable def cuts89 : Cuts := [(6, 57, [0, 1, 2, 6]), (402, 58, [0, 1, 2, 6, 7])]
theorem fit89 : cutsFit labs 89 cuts89 = true := by kernel_rfl
noncomputable def cuts99 : Cuts := [(7, 59, [0, 2]), (15, 60, [0, 2]), (31, 61, [0, 2])]
theorem fit99 : cutsFit labs 99 cuts99 = true := by kernel_rfl
noncomputable def cuts98 : Cuts := [(7, 62, [0, 2]), (15, 63, [0, 2])]
theorem fit98 : cutsFit labs 98 cuts98 = true := by kernel_rfl
noncomputable def cuts88 : Cuts := []
theorem fit88 : cutsFit labs 88 cuts88 = true := by kernel_rfl
noncomputable def cuts87 : Cuts := [(2044, 64, [0, 1, 5, 6, 7, 8, 9, 10]), (32709, 65, [0, 1, 5, 6, 7, 8, 9, 10])]
theorem fit87 : cutsFit labs 87 cuts87 = true := by kernel_rfl
noncomputable def cuts86 : Cuts := []
theorem fit86 : cutsFit labs 86 cuts86 = true := by kernel_rfl
noncomputable def cuts71 : Cuts := []
theorem fit71 : cutsFit labs 71 cuts71 = true := by kernel_rfl
noncomputable def cuts72 : Cuts := []
theorem fit72 : cutsFit labs 72 cuts72 = true := by kernel_rfl
noncomputable def cuts85 : Cuts := [(15, 66, []), (14836, 67, [0, 6]), (118782, 68, [0, 13])]
theorem fit85 : cutsFit labs 85 cuts85 = true := by kernel_rfl
noncomputable def cuts73 : Cuts := []
theorem fit73 : cutsFit labs 73 cuts73 = true := by kernel_rfl
noncomputable def cuts84 : Cuts := []
theorem fit84 : cutsFit labs 84 cuts84 = true := by kernel_rfl
noncomputable def cuts83 : Cuts := []
theorem fit83 : cutsFit labs 83 cuts83 = true := by kernel_rfl
noncomputable def cuts82 : Cuts := [(63, 69, [1, 5]), (1018, 70, [1, 5, 63, 64]), (2027, 71, [6, 7])]
theorem fit82 : cutsFit labs 82 cuts82 = true := by kernel_rfl
noncomputable def cuts81 : Cuts := []
theorem fit81 : cutsFit labs 81 cuts81 = true := by kernel_rfl
noncomputable def cuts79 : Cuts := []
theorem fit79 : cutsFit labs 79 cuts79 = true := by kernel_rfl
noncomputable def cuts77 : Cuts := []
theorem fit77 : cutsFit labs 77 cuts77 = true := by kernel_rfl
noncomputable def cuts78 : Cuts := [(58, 72, [0, 3, 4]), (467, 73, [0, 3, 4])]
theorem fit78 : cutsFit labs 78 cuts78 = true := by kernel_rfl
noncomputable def cuts76 : Cuts := []
theorem fit76 : cutsFit labs 76 cuts76 = true := by kernel_rfl
noncomputable def cuts75 : Cuts := [(127, 74, [0, 1, 2, 3, 4, 18, 19, 20, 21]), (172, 75, [0, 1, 4, 10, 11]), (428, 76, [0, 2, 4, 14, 15]), (698, 77, [0, 10, 13]), (1020, 78, [0, 1, 2, 3, 4, 18, 19, 20, 21, 22]), (1722, 79, [0, 14, 17]), (2047, 80, [0, 1, 3, 4, 18, 20, 24]), (4095, 81, [0, 3, 4, 18, 24])]
theorem fit75 : cutsFit labs 75 cuts75 = true := by kernel_rfl
noncomputable def cuts74 : Cuts := [(6, 82, [0, 1, 2, 3, 8]), (402, 83, [0, 1, 2, 3, 8, 9])]
theorem fit74 : cutsFit labs 74 cuts74 = true := by kernel_rfl
noncomputable def cuts130 : Cuts := []
theorem fit130 : cutsFit labs 130 cuts130 = true := by kernel_rfl
noncomputable def cuts129 : Cuts := []
theorem fit129 : cutsFit labs 129 cuts129 = true := by kernel_rfl
noncomputable def cuts128 : Cuts := []
theorem fit128 : cutsFit labs 128 cuts128 = true := by kernel_rfl
noncomputable def cuts127 : Cuts := []
theorem fit127 : cutsFit labs 127 cuts127 = true := by kernel_rfl
noncomputable def cuts126 : Cuts := []
theorem fit126 : cutsFit labs 126 cuts126 = true := by kernel_rfl
noncomputable def cuts125 : Cuts := [(6, 84, [0, 2, 3, 8]), (199, 85, [0, 2, 3, 8, 9])]
theorem fit125 : cutsFit labs 125 cuts125 = true := by kernel_rfl
noncomputable def cuts124 : Cuts := [(124, 86, [0, 1, 7, 8]), (210, 87, [0, 1, 15, 16])]
theorem fit124 : cutsFit labs 124 cuts124 = true := by kernel_rfl
noncomputable def cuts123 : Cuts := [(124, 88, [0, 1, 7, 8]), (210, 89, [0, 1, 19, 20])]
theorem fit123 : cutsFit labs 123 cuts123 = true := by kernel_rfl
noncomputable def cuts122 : Cuts := [(250, 90, [0, 1, 5, 6, 7, 8, 9]), (1018, 91, [0, 1, 5, 6, 7, 8, 10])]
theorem fit122 : cutsFit labs 122 cuts122 = true := by kernel_rfl
noncomputable def cuts121 : Cuts := []
theorem fit121 : cutsFit labs 121 cuts121 = true := by kernel_rfl
noncomputable def cuts110 : Cuts := []
theorem fit110 : cutsFit labs 110 cuts110 = true := by kernel_rfl
noncomputable def cuts103 : Cuts := []
theorem fit103 : cutsFit labs 103 cuts103 = true := by kernel_rfl
noncomputable def cuts118 : Cuts := [(15, 92, [8, 9]), (28, 93, [0, 1, 2, 8, 9])]
theorem fit118 : cutsFit labs 118 cuts118 = true := by kernel_rfl
noncomputable def cuts119 : Cuts := [(124, 94, [0, 4]), (1018, 95, [0, 4, 5, 6])]
theorem fit119 : cutsFit labs 119 cuts119 = true := by kernel_rfl
noncomputable def cuts117 : Cuts := [(31, 96, [0, 1]), (235, 97, [0, 5]), (250, 98, [1, 45]), (7858, 99, [0, 6, 8])]
theorem fit117 : cutsFit labs 117 cuts117 = true := by kernel_rfl
noncomputable def cuts116 : Cuts := []
theorem fit116 : cutsFit labs 116 cuts116 = true := by kernel_rfl
noncomputable def cuts115 : Cuts := [(58, 100, [0, 4, 9, 10])]
theorem fit115 : cutsFit labs 115 cuts115 = true := by kernel_rfl
noncomputable def cuts114 : Cuts := [(4, 101, [0]), (6, 102, [0])]
theorem fit114 : cutsFit labs 114 cuts114 = true := by kernel_rfl
noncomputable def cuts108 : Cuts := [(7, 103, [0]), (12, 104, [0, 1])]
theorem fit108 : cutsFit labs 108 cuts108 = true := by kernel_rfl
noncomputable def cuts113 : Cuts := [(7, 105, [0]), (12, 106, [0, 1]), (395, 107, [0, 1, 5, 6])]
theorem fit113 : cutsFit labs 113 cuts113 = true := by kernel_rfl
noncomputable def cuts107 : Cuts := [(7, 108, [0]), (12, 109, [0, 1])]
theorem fit107 : cutsFit labs 107 cuts107 = true := by kernel_rfl
noncomputable def cuts112 : Cuts := [(7, 110, [0]), (12, 111, [0, 1])]
theorem fit112 : cutsFit labs 112 cuts112 = true := by kernel_rfl
noncomputable def cuts106 : Cuts := [(26, 112, [0, 2, 4])]
theorem fit106 : cutsFit labs 106 cuts106 = true := by kernel_rfl
noncomputable def cuts105 : Cuts := [(12, 113, [0, 1])]
theorem fit105 : cutsFit labs 105 cuts105 = true := by kernel_rfl
noncomputable def cuts111 : Cuts := [(12, 114, [0, 1])]
theorem fit111 : cutsFit labs 111 cuts111 = true := by kernel_rfl
noncomputable def cuts80 : Cuts := []
theorem fit80 : cutsFit labs 80 cuts80 = true := by kernel_rfl
noncomputable def cuts109 : Cuts := []
theorem fit109 : cutsFit labs 109 cuts109 = true := by kernel_rfl
noncomputable def cuts104 : Cuts := [(28, 115, [0, 2, 4, 10, 11])]
theorem fit104 : cutsFit labs 104 cuts104 = true := by kernel_rfl
noncomputable def cuts154 : Cuts := []
theorem fit154 : cutsFit labs 154 cuts154 = true := by kernel_rfl
noncomputable def cuts153 : Cuts := [(58, 116, [0, 4, 5]), (250, 117, [4, 6, 7, 8]), (8009, 118, [4, 6, 7, 8])]
theorem fit153 : cutsFit labs 153 cuts153 = true := by kernel_rfl
noncomputable def cuts148 : Cuts := []
theorem fit148 : cutsFit labs 148 cuts148 = true := by kernel_rfl
noncomputable def cuts143 : Cuts := []
theorem fit143 : cutsFit labs 143 cuts143 = true := by kernel_rfl
noncomputable def cuts151 : Cuts := [(882, 119, [175]), (57276, 120, [0, 7, 8, 9]), (229119, 121, []), (1832841, 122, [0, 7, 8, 9]), (14662730, 123, [0, 7, 8, 9, 12]), (14663598, 124, [0, 7, 8, 9, 14, 15]), (117308787, 125, [0, 7, 8, 9, 14, 15]), (7507762322, 126, [0, 7, 8, 9, 14, 15, 16])]
theorem fit151 : cutsFit labs 151 cuts151 = true := by kernel_rfl
noncomputable def cuts152 : Cuts := []
theorem fit152 : cutsFit labs 152 cuts152 = true := by kernel_rfl
noncomputable def cuts150 : Cuts := []
theorem fit150 : cutsFit labs 150 cuts150 = true := by kernel_rfl
noncomputable def cuts149 : Cuts := [(31, 127, [0, 1, 2, 8]), (511, 128, [2, 8, 9]), (16383, 129, [11])]
theorem fit149 : cutsFit labs 149 cuts149 = true := by kernel_rfl
noncomputable def cuts145 : Cuts := []
theorem fit145 : cutsFit labs 145 cuts145 = true := by kernel_rfl
noncomputable def cuts144 : Cuts := []
theorem fit144 : cutsFit labs 144 cuts144 = true := by kernel_rfl
noncomputable def cuts147 : Cuts := [(511, 130, [0, 4, 5]), (1023, 131, [0, 4, 5]), (2042, 132, [0, 4, 5, 6])]
theorem fit147 : cutsFit labs 147 cuts147 = true := by kernel_rfl
noncomputable def cuts142 : Cuts := [(6, 133, [0, 1, 2, 3, 10])]
theorem fit142 : cutsFit labs 142 cuts142 = true := by kernel_rfl
noncomputable def cuts166 : Cuts := []
theorem fit166 : cutsFit labs 166 cuts166 = true := by kernel_rfl
noncomputable def cuts165 : Cuts := []
theorem fit165 : cutsFit labs 165 cuts165 = true := by kernel_rfl
noncomputable def cuts164 : Cuts := []
theorem fit164 : cutsFit labs 164 cuts164 = true := by kernel_rfl
noncomputable def cuts163 : Cuts := []
theorem fit163 : cutsFit labs 163 cuts163 = true := by kernel_rfl
noncomputable def cuts162 : Cuts := []
theorem fit162 : cutsFit labs 162 cuts162 = true := by kernel_rfl
noncomputable def cuts161 : Cuts := [(63, 134, [0, 1, 2, 8, 9]), (127, 135, [0, 1, 2, 8, 9]), (511, 136, [0, 1, 2, 8, 9, 10]), (32762, 137, [1, 8, 9, 10, 11, 12, 13, 99, 100, 101]), (524199, 138, [1, 8, 9, 10, 11, 12, 13, 99, 100, 101]), (8387175, 139, [1, 8, 9, 10, 11, 12, 13, 16, 99, 100, 101])]
theorem fit161 : cutsFit labs 161 cuts161 = true := by kernel_rfl
noncomputable def cuts159 : Cuts := []
theorem fit159 : cutsFit labs 159 cuts159 = true := by kernel_rfl
noncomputable def cuts160 : Cuts := []
theorem fit160 : cutsFit labs 160 cuts160 = true := by kernel_rfl
noncomputable def cuts172 : Cuts := []
theorem fit172 : cutsFit labs 172 cuts172 = true := by kernel_rfl
noncomputable def cuts173 : Cuts := []
theorem fit173 : cutsFit labs 173 cuts173 = true := by kernel_rfl
noncomputable def cuts171 : Cuts := []
theorem fit171 : cutsFit labs 171 cuts171 = true := by kernel_rfl
noncomputable def cuts170 : Cuts := [(31, 140, [0, 3, 4]), (127, 141, [0, 3, 4, 5]), (508, 142, [0, 3, 4, 5]), (4067, 143, [0, 3, 4, 5])]
theorem fit170 : cutsFit labs 170 cuts170 = true := by kernel_rfl
noncomputable def cuts169 : Cuts := []
theorem fit169 : cutsFit labs 169 cuts169 = true := by kernel_rfl
noncomputable def cuts174 : Cuts := []
theorem fit174 : cutsFit labs 174 cuts174 = true := by kernel_rfl
noncomputable def cuts102 : Cuts := [(431, 144, [0, 5, 6])]
theorem fit102 : cutsFit labs 102 cuts102 = true := by kernel_rfl
noncomputable def cuts139 : Cuts := [(12, 145, [0, 1, 4]), (31, 146, [0, 4, 12]), (63, 147, [0, 4, 12])]
theorem fit139 : cutsFit labs 139 cuts139 = true := by kernel_rfl
noncomputable def cuts138 : Cuts := []
theorem fit138 : cutsFit labs 138 cuts138 = true := by kernel_rfl
noncomputable def cuts140 : Cuts := [(7, 148, [0, 1, 2, 3, 4, 10, 11]), (63, 149, [0, 1, 2, 3, 4, 10, 11, 12, 13]), (127, 150, [0, 3, 4, 10, 11, 12, 13]), (255, 151, [0, 4, 10, 11, 12, 13]), (4060, 152, [0, 1, 3, 4, 10, 11, 12, 13, 17]), (16220, 153, [0, 1, 3, 4, 10, 11, 12, 13, 14, 15, 16])]
theorem fit140 : cutsFit labs 140 cuts140 = true := by kernel_rfl
noncomputable def cuts137 : Cuts := []
theorem fit137 : cutsFit labs 137 cuts137 = true := by kernel_rfl
noncomputable def cuts156 : Cuts := []
theorem fit156 : cutsFit labs 156 cuts156 = true := by kernel_rfl
noncomputable def cuts155 : Cuts := []
theorem fit155 : cutsFit labs 155 cuts155 = true := by kernel_rfl
noncomputable def cuts158 : Cuts := []
theorem fit158 : cutsFit labs 158 cuts158 = true := by kernel_rfl
noncomputable def cuts157 : Cuts := []
theorem fit157 : cutsFit labs 157 cuts157 = true := by kernel_rfl
noncomputable def cuts168 : Cuts := []
theorem fit168 : cutsFit labs 168 cuts168 = true := by kernel_rfl
noncomputable def cuts167 : Cuts := []
theorem fit167 : cutsFit labs 167 cuts167 = true := by kernel_rfl
end Go.LN
