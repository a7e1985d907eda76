import Derived.Test.YtgajpiaajkbilaaWRW3
set_option linter.all false
open Go Go.Mid Go.Proofs
set_option maxRecDepth 100000
set_option linter.unusedVariables false
namespace Go.RW
theorem arr2 (h : Hp) (m n a b : Int) : bldArr h [(0, .int .i64 m), (1, .int .i64 n)] (.agg [.int .i64 a, .int .i64 b]) 1 = some (.agg [.int .i64 m, .int .i64 n], h) := rfl
theorem arr0 (h : Hp) (a b : Int) : bldArr h [] (.agg [.int .i64 a, .int .i64 b]) 1 = some (.agg [.int .i64 a, .int .i64 b], h) := rfl
section
variable {h0 h : Hp} {S S' : Nat → Prop} {Q : V → Hp → Prop} {K : V → Hp → VH} {k : V → VH} {x : VH}
theorem Ret.idxV {s : Nat} {E : Nat → Nat → Prop} {v : V} (hv : SlV s E v) {d : IntKind} {i : Int} (h1 : 0 ≤ i) (h2 : i < slLen v) (hk : ∀ b o, E b o → Ret h0 S Q (k (.ptr b o))) : Ret h0 S Q (idxS s v (.int d i) k) := by
  obtain ⟨b, o, e, hE⟩ := slV_idx hv h1 h2 (d := d) k
  rw [e]; exact hk b o hE
theorem Ret.callU (hx : Ret h no isU8 x) (hK : ∀ n h', Kp no h h' → Ret h' no Q (K (.int .u8 n) h')) : Ret h no Q (bindS x K) :=
  Ret.bindU hx fun b h' k => Ret.of k (hK b h' k) fun _ h => h.elim
theorem Ret.drawU (hx : Ret ⟨h.t, h.n, h.n⟩ no isU8 x) (hK : ∀ n h', Kp no h h' → Ret h' no Q (K (.int .u8 n) h')) : Ret h no Q (bindS x fun v h2 => madeS h.n h.low h2 fun h3 => K v h3) :=
  Ret.draw hx fun _ h' ⟨b, e⟩ k => by subst e; exact hK b _ k
end
theorem nofork {kd : Int} (h1 : kd ≠ Int.ofNat 4) (h2 : kd ≠ Int.ofNat 6) (h3 : kd ≠ Int.ofNat 8) (h : kd = 4 ∨ kd = 6 ∨ kd = 8) : False := by
  simp only [Int.ofNat_eq_natCast] at h1 h2 h3; omega
set_option maxHeartbeats 8000000 in
theorem b42_rest {h0 h : Hp} {lb bl bs b1 b2 b3 b4 : Nat} {l : Lk} {kd : Int} {slots targets exprs : V} {next els line : Int} (x : ST h0 h lb bl bs b1 b2 b3 b4 l kd slots targets exprs next els line)
    {X : VH} (hX : X = (addrS 0 (.ptr bs 0) fun v24 =>
load1 v24 h fun v25 =>
intS .eql v25 (.int .u8 (.ofNat 4)) fun v26 =>
guardS v26 false (addrS 0 (.ptr bs 0) fun v27 =>
some (v27, h)) h fun v28 h29 =>
guardS v26 false (load1 v28 h29 fun v30 =>
some (v30, h29)) h29 fun v31 h32 =>
guardS v26 false (intS .eql v31 (.int .u8 (.ofNat 6)) fun v33 =>
some (v33, h32)) h32 fun v34 h35 =>
optS (pickV v26 (.bool true) v34) fun v36 =>
guardS v36 false (addrS 0 (.ptr bs 0) fun v37 =>
some (v37, h35)) h35 fun v38 h39 =>
guardS v36 false (load1 v38 h39 fun v40 =>
some (v40, h39)) h39 fun v41 h42 =>
guardS v36 false (intS .eql v41 (.int .u8 (.ofNat 8)) fun v43 =>
some (v43, h42)) h42 fun v44 h45 =>
optS (pickV v36 (.bool true) v44) fun v46 =>
addrS 6 (.ptr bs 0) fun v47 =>
load1 v47 h45 fun v48 =>
intS .lss v48 (.int .i64 (.ofNat 1)) fun v49 =>
guardS v49 false (some ((.func 30 [] [(.ptr bl 0)]), h45)) h45 fun v50 h51 =>
guardS v49 false (addrS 4 (.ptr bs 0) fun v52 =>
some (v52, h51)) h51 fun v53 h54 =>
guardS v49 false (load1 v53 h54 fun v55 =>
some (v55, h54)) h54 fun v56 h57 =>
guardS v49 false (bindS (dynE M v50 [v56] h57) fun v58 h59 =>
some (v58, h59)) h57 fun v60 h61 =>
guardS v49 false (notS v60 fun v62 =>
some (v62, h61)) h61 fun v63 h64 =>
optS (pickV v49 (.bool true) v63) fun v65 =>
guardS v65 false (some (v46, h64)) h64 fun v66 h67 =>
guardS v65 false (some (v66, h67)) h67 fun v68 h69 =>
guardS v68 true (some ((.func 30 [] [(.ptr bl 0)]), h69)) h69 fun v70 h71 =>
guardS v68 true (addrS 5 (.ptr bs 0) fun v72 =>
some (v72, h71)) h71 fun v73 h74 =>
guardS v68 true (load1 v73 h74 fun v75 =>
some (v75, h74)) h74 fun v76 h77 =>
guardS v68 true (bindS (dynE M v70 [v76] h77) fun v78 h79 =>
some (v78, h79)) h77 fun v80 h81 =>
guardS v68 true (notS v80 fun v82 =>
some (v82, h81)) h81 fun v83 h84 =>
guardS v65 false (optS (pickV v68 v83 (.bool false)) fun v85 =>
some (v85, h84)) h84 fun v86 h87 =>
optS (pickV v65 (.bool true) v86) fun v88 =>
guardS v88 false (some (v46, h87)) h87 fun v89 h90 =>
guardS v88 false (notS v89 fun v91 =>
some (v91, h90)) h90 fun v92 h93 =>
guardS v88 false (some (v92, h93)) h93 fun v94 h95 =>
guardS v94 true (addrS 5 (.ptr bs 0) fun v96 =>
some (v96, h95)) h95 fun v97 h98 =>
guardS v94 true (load1 v97 h98 fun v99 =>
some (v99, h98)) h98 fun v100 h101 =>
guardS v94 true (intS .neq v100 (.int .i64 (.ofNat 0)) fun v102 =>
some (v102, h101)) h101 fun v103 h104 =>
guardS v88 false (optS (pickV v94 v103 (.bool false)) fun v105 =>
some (v105, h104)) h104 fun v106 h107 =>
optS (pickV v88 (.bool true) v106) fun v108 =>
guardS v108 false (addrS 1 (.ptr bs 0) fun v109 =>
some (v109, h107)) h107 fun v110 h111 =>
guardS v108 false (load1 v110 h111 fun v112 =>
some (v112, h111)) h111 fun v113 h114 =>
guardS v108 false (some ((.func 34 [] [(.ptr bl 0)]), h114)) h114 fun v115 h116 =>
guardS v108 false (bindS (M 44 [v113, v115] h116) fun v117 h118 =>
some (v117, h118)) h116 fun v119 h120 =>
guardS v108 false (notS v119 fun v121 =>
some (v121, h120)) h120 fun v122 h123 =>
optS (pickV v108 (.bool true) v122) fun v124 =>
guardS v124 false (addrS 3 (.ptr bs 0) fun v125 =>
some (v125, h123)) h123 fun v126 h127 =>
guardS v124 false (load1 v126 h127 fun v128 =>
some (v128, h127)) h127 fun v129 h130 =>
guardS v124 false (load1 (.ptr bl 0) h130 fun v131 =>
some (v131, h130)) h130 fun v132 h133 =>
guardS v124 false (some ((.func 27 [v132] []), h133)) h133 fun v134 h135 =>
guardS v124 false (bindS (M 44 [v129, v134] h135) fun v136 h137 =>
some (v136, h137)) h135 fun v138 h139 =>
guardS v124 false (notS v138 fun v140 =>
some (v140, h139)) h139 fun v141 h142 =>
optS (pickV v124 (.bool true) v141) fun v143 =>
guardS v143 false (addrS 2 (.ptr bs 0) fun v144 =>
some (v144, h142)) h142 fun v145 h146 =>
guardS v143 false (load1 v145 h146 fun v147 =>
some (v147, h146)) h146 fun v148 h149 =>
guardS v143 false (load1 (.ptr bl 0) h149 fun v150 =>
some (v150, h149)) h149 fun v151 h152 =>
guardS v143 false (some ((.func 35 [v151] []), h152)) h152 fun v153 h154 =>
guardS v143 false (bindS (M 44 [v148, v153] h154) fun v155 h156 =>
some (v155, h156)) h154 fun v157 h158 =>
guardS v143 false (notS v157 fun v159 =>
some (v159, h158)) h158 fun v160 h161 =>
optS (pickV v143 (.bool true) v160) fun v162 =>
ifS v162 (
some ((.bool false), h161)) (
addrS 0 (.ptr bs 0) fun v163 =>
load1 v163 h161 fun v164 =>
intS .eql v164 (.int .u8 (.ofNat 1)) fun v165 =>
ifS v165 (
loadN 2 (.ptr b3 0) h161 fun v166 =>
loadN 2 (.ptr b1 0) h161 fun v167 =>
loadN 2 (.ptr b4 0) h161 fun v168 =>
bindS (dynE M (.func 31 [] [(.ptr bs 0)]) [v166, v167, v168] h161) fun v169 h170 =>
some (v169, h170)) (
intS .eql v164 (.int .u8 (.ofNat 2)) fun v171 =>
ifS v171 (
loadN 2 (.ptr b1 0) h161 fun v172 =>
loadN 2 (.ptr b3 0) h161 fun v173 =>
loadN 2 (.ptr b3 0) h161 fun v174 =>
bindS (dynE M (.func 31 [] [(.ptr bs 0)]) [v172, v173, v174] h161) fun v175 h176 =>
some (v175, h176)) (
intS .eql v164 (.int .u8 (.ofNat 3)) fun v177 =>
ifS v177 (
loadN 2 (.ptr b1 0) h161 fun v178 =>
loadN 2 (.ptr b1 0) h161 fun v179 =>
loadN 2 (.ptr b2 0) h161 fun v180 =>
bindS (dynE M (.func 31 [] [(.ptr bs 0)]) [v178, v179, v180] ⟨h161.t, h161.n, h161.n⟩) fun v181 h182 =>
madeS h161.n h161.low h182 fun h183 =>
guardS v181 true (load1 (.ptr bl 0) h183 fun v184 =>
some (v184, h183)) h183 fun v185 _ =>
guardS v181 true (addrS 3 (.ptr bs 0) fun v186 =>
some (v186, h183)) h183 fun v187 _ =>
guardS v181 true (load1 v187 h183 fun v188 =>
some (v188, h183)) h183 fun v189 _ =>
guardS v181 true (idxS 1 v189 (.int .i64 (.ofNat 0)) fun v190 =>
some (v190, h183)) h183 fun v191 _ =>
guardS v181 true (load1 v191 h183 fun v192 =>
some (v192, h183)) h183 fun v193 _ =>
guardB v181 true (
bindS (M 72 [v185, v193] ⟨h183.t, h183.n, h183.n⟩) fun v194 h195 =>
madeS h183.n h183.low h195 fun h196 =>
guardS v181 true (intS .eql v194 (.int .u8 (.ofNat 12)) fun v197 =>
some (v197, h196)) h196 fun v198 _ =>
guardS v181 true (some (v198, h196)) h196 fun v199 _ =>
guardS v199 false (load1 (.ptr bl 0) h196 fun v200 =>
some (v200, h196)) h196 fun v201 _ =>
guardS v199 false (addrS 3 (.ptr bs 0) fun v202 =>
some (v202, h196)) h196 fun v203 _ =>
guardS v199 false (load1 v203 h196 fun v204 =>
some (v204, h196)) h196 fun v205 _ =>
guardS v199 false (idxS 1 v205 (.int .i64 (.ofNat 0)) fun v206 =>
some (v206, h196)) h196 fun v207 _ =>
guardS v199 false (load1 v207 h196 fun v208 =>
some (v208, h196)) h196 fun v209 _ =>
guardS v199 false (bindS (M 72 [v201, v209] h196) fun v210 h211 =>
some (v210, h211)) h196 fun v212 h213 =>
guardS v199 false (intS .eql v212 (.int .u8 (.ofNat 13)) fun v214 =>
some (v214, h213)) h213 fun v215 h216 =>
guardS v181 true (optS (pickV v199 (.bool true) v215) fun v217 =>
some (v217, h216)) h216 fun v218 h219 =>
optS (pickV v181 v218 (.bool false)) fun v220 =>
some (v220, h219)) (
guardS v181 true (intS .eql undefV (.int .u8 (.ofNat 12)) fun v221 =>
some (v221, h183)) h183 fun v222 _ =>
guardS v181 true (some (v222, h183)) h183 fun v223 _ =>
guardS v223 false (load1 (.ptr bl 0) h183 fun v224 =>
some (v224, h183)) h183 fun v225 _ =>
guardS v223 false (addrS 3 (.ptr bs 0) fun v226 =>
some (v226, h183)) h183 fun v227 _ =>
guardS v223 false (load1 v227 h183 fun v228 =>
some (v228, h183)) h183 fun v229 _ =>
guardS v223 false (idxS 1 v229 (.int .i64 (.ofNat 0)) fun v230 =>
some (v230, h183)) h183 fun v231 _ =>
guardS v223 false (load1 v231 h183 fun v232 =>
some (v232, h183)) h183 fun v233 _ =>
guardS v223 false (bindS (M 72 [v225, v233] h183) fun v234 h235 =>
some (v234, h235)) h183 fun v236 h237 =>
guardS v223 false (intS .eql v236 (.int .u8 (.ofNat 13)) fun v238 =>
some (v238, h237)) h237 fun v239 h240 =>
guardS v181 true (optS (pickV v223 (.bool true) v239) fun v241 =>
some (v241, h240)) h240 fun v242 h243 =>
optS (pickV v181 v242 (.bool false)) fun v244 =>
some (v244, h243))) (
intS .eql v164 (.int .u8 (.ofNat 4)) fun v245 =>
ifS v245 (
loadN 2 (.ptr b1 0) h161 fun v246 =>
loadN 2 (.ptr b1 0) h161 fun v247 =>
loadN 2 (.ptr b2 0) h161 fun v248 =>
bindS (dynE M (.func 31 [] [(.ptr bs 0)]) [v246, v247, v248] h161) fun v249 h250 =>
some (v249, h250)) (
intS .eql v164 (.int .u8 (.ofNat 5)) fun v251 =>
ifS v251 (
loadN 2 (.ptr b2 0) h161 fun v252 =>
loadN 2 (.ptr b1 0) h161 fun v253 =>
bindS (bldArr h161 [(0, (.int .i64 (.ofNat 2))), (1, (.int .i64 (.ofNat 3)))] (.agg [(.int .i64 (.ofNat 0)), (.int .i64 (.ofNat 0))]) 1) fun v254 h255 =>
bindS (dynE M (.func 31 [] [(.ptr bs 0)]) [v252, v253, v254] h255) fun v256 h257 =>
guardS v256 true (some ((.func 33 [] [(.ptr bs 0), (.ptr bl 0)]), h257)) h257 fun v258 h259 =>
guardS v256 true (bindS (dynE M v258 [] h259) fun v260 h261 =>
some (v260, h261)) h259 fun v262 h263 =>
optS (pickV v256 v262 (.bool false)) fun v264 =>
some (v264, h263)) (
intS .eql v164 (.int .u8 (.ofNat 6)) fun v265 =>
ifS v265 (
bindS (bldArr h161 [(0, (.int .i64 (.ofNat 2))), (1, (.int .i64 (.ofNat 2)))] (.agg [(.int .i64 (.ofNat 0)), (.int .i64 (.ofNat 0))]) 1) fun v266 h267 =>
loadN 2 (.ptr b1 0) h267 fun v268 =>
loadN 2 (.ptr b1 0) h267 fun v269 =>
bindS (dynE M (.func 31 [] [(.ptr bs 0)]) [v266, v268, v269] h267) fun v270 h271 =>
guardS v270 true (some ((.func 33 [] [(.ptr bs 0), (.ptr bl 0)]), h271)) h271 fun v272 h273 =>
guardS v270 true (bindS (dynE M v272 [] h273) fun v274 h275 =>
some (v274, h275)) h273 fun v276 h277 =>
optS (pickV v270 v276 (.bool false)) fun v278 =>
some (v278, h277)) (
intS .eql v164 (.int .u8 (.ofNat 7)) fun v279 =>
ifS v279 (
loadN 2 (.ptr b2 0) h161 fun v280 =>
loadN 2 (.ptr b1 0) h161 fun v281 =>
loadN 2 (.ptr b3 0) h161 fun v282 =>
bindS (dynE M (.func 31 [] [(.ptr bs 0)]) [v280, v281, v282] h161) fun v283 h284 =>
guardS v283 true (some ((.func 33 [] [(.ptr bs 0), (.ptr bl 0)]), h284)) h284 fun v285 h286 =>
guardS v283 true (bindS (dynE M v285 [] h286) fun v287 h288 =>
some (v287, h288)) h286 fun v289 h290 =>
optS (pickV v283 v289 (.bool false)) fun v291 =>
some (v291, h290)) (
intS .eql v164 (.int .u8 (.ofNat 8)) fun v292 =>
ifS v292 (
bindS (bldArr h161 [(0, (.int .i64 (.ofNat 2))), (1, (.int .i64 (.ofNat 200)))] (.agg [(.int .i64 (.ofNat 0)), (.int .i64 (.ofNat 0))]) 1) fun v293 h294 =>
loadN 2 (.ptr b1 0) h294 fun v295 =>
loadN 2 (.ptr b1 0) h294 fun v296 =>
bindS (dynE M (.func 31 [] [(.ptr bs 0)]) [v293, v295, v296] h294) fun v297 h298 =>
guardS v297 true (some ((.func 33 [] [(.ptr bs 0), (.ptr bl 0)]), h298)) h298 fun v299 h300 =>
guardS v297 true (bindS (dynE M v299 [] h300) fun v301 h302 =>
some (v301, h302)) h300 fun v303 h304 =>
optS (pickV v297 v303 (.bool false)) fun v305 =>
some (v305, h304)) (
intS .eql v164 (.int .u8 (.ofNat 9)) fun v306 =>
ifS v306 (
loadN 2 (.ptr b2 0) h161 fun v307 =>
loadN 2 (.ptr b1 0) h161 fun v308 =>
loadN 2 (.ptr b2 0) h161 fun v309 =>
bindS (dynE M (.func 31 [] [(.ptr bs 0)]) [v307, v308, v309] ⟨h161.t, h161.n, h161.n⟩) fun v310 h311 =>
madeS h161.n h161.low h311 fun h312 =>
guardS v310 true (load1 (.ptr bl 0) h312 fun v313 =>
some (v313, h312)) h312 fun v314 _ =>
guardS v310 true (addrS 3 (.ptr bs 0) fun v315 =>
some (v315, h312)) h312 fun v316 _ =>
guardS v310 true (load1 v316 h312 fun v317 =>
some (v317, h312)) h312 fun v318 _ =>
guardS v310 true (idxS 1 v318 (.int .i64 (.ofNat 0)) fun v319 =>
some (v319, h312)) h312 fun v320 _ =>
guardS v310 true (load1 v320 h312 fun v321 =>
some (v321, h312)) h312 fun v322 _ =>
guardS v310 true (bindS (M 72 [v314, v322] h312) fun v323 h324 =>
some (v323, h324)) h312 fun v325 h326 =>
guardS v310 true (intS .eql v325 (.int .u8 (.ofNat 7)) fun v327 =>
some (v327, h326)) h326 fun v328 h329 =>
optS (pickV v310 v328 (.bool false)) fun v330 =>
some (v330, h329)) (
intS .eql v164 (.int .u8 (.ofNat 10)) fun v331 =>
ifS v331 (
loadN 2 (.ptr b1 0) h161 fun v332 =>
loadN 2 (.ptr b1 0) h161 fun v333 =>
loadN 2 (.ptr b4 0) h161 fun v334 =>
bindS (dynE M (.func 31 [] [(.ptr bs 0)]) [v332, v333, v334] h161) fun v335 h336 =>
guardS v335 true (addrS 4 (.ptr bs 0) fun v337 =>
some (v337, h336)) h336 fun v338 h339 =>
guardS v335 true (load1 v338 h339 fun v340 =>
some (v340, h339)) h339 fun v341 h342 =>
guardS v335 true (intS .eql v341 (.int .i64 (.negSucc 0)) fun v343 =>
some (v343, h342)) h342 fun v344 h345 =>
optS (pickV v335 v344 (.bool false)) fun v346 =>
some (v346, h345)) (
intS .eql v164 (.int .u8 (.ofNat 11)) fun v347 =>
ifS v347 (
loadN 2 (.ptr b1 0) h161 fun v348 =>
loadN 2 (.ptr b1 0) h161 fun v349 =>
loadN 2 (.ptr b1 0) h161 fun v350 =>
bindS (dynE M (.func 31 [] [(.ptr bs 0)]) [v348, v349, v350] h161) fun v351 h352 =>
some (v351, h352)) (
some ((.bool false), h161))))))))))))))) :
    Ret h no (isBP fun r => r = true → (next = -1 ∨ (0 ≤ next ∧ next < slLen l.stmts)) ∧ ((kd = 4 ∨ kd = 6 ∨ kd = 8) → els = -1 ∨ (0 ≤ els ∧ els < slLen l.stmts))) X := by
  subst hX
  have hv1 : SlV 1 (fun b o => ∃ x, h0.cell b o = some (.int .i64 x) ∧ True) slots := by
    rcases x.v1 with rfl | ⟨b, o, n, c, rfl, hn, hE⟩
    · exact .inl rfl
    · exact .inr ⟨b, o, n, c, rfl, hn, fun i hi => let ⟨y, hy⟩ := hE i hi; ⟨y, hy, trivial⟩⟩
  repeat' (first
      | (with_reducible refine Ret.eql (fun _ => ?_) fun _ => ?_)
      | (with_reducible refine Ret.neq (fun _ => ?_) fun _ => ?_)
      | (with_reducible refine Ret.lss (fun _ => ?_) fun _ => ?_)
      | (with_reducible refine Ret.leq (fun _ => ?_) fun _ => ?_)
      | (with_reducible refine Ret.gtr (fun _ => ?_) fun _ => ?_)
      | (with_reducible refine Ret.geq (fun _ => ?_) fun _ => ?_)
      | (with_reducible refine Ret.load1 x.s0 ?_)
      | (with_reducible refine Ret.load1 x.s1 ?_)
      | (with_reducible refine Ret.load1 x.s2 ?_)
      | (with_reducible refine Ret.load1 x.s3 ?_)
      | (with_reducible refine Ret.load1 x.s4 ?_)
      | (with_reducible refine Ret.load1 x.s5 ?_)
      | (with_reducible refine Ret.load1 x.s6 ?_)
      | (with_reducible refine Ret.load1 x.cl ?_)
      | (with_reducible refine Ret.load1 (x.k.old x.w hy) ?_)
      | (with_reducible refine Ret.loadN (by decide) (cells2 x.a10 x.a11) ?_)
      | (with_reducible refine Ret.loadN (by decide) (cells2 x.a20 x.a21) ?_)
      | (with_reducible refine Ret.loadN (by decide) (cells2 x.a30 x.a31) ?_)
      | (with_reducible refine Ret.loadN (by decide) (cells2 x.a40 x.a41) ?_)
      | ((with_reducible refine Ret.callP (to_ret x next) fun r h' hnext k' => ?_); replace x := x.kp k'; clear k'; cases r)
      | ((with_reducible refine Ret.callP (to_ret x els) fun r h' hels k' => ?_); replace x := x.kp k'; clear k'; cases r)
      | ((with_reducible refine Ret.callB (all_int x.w x.k (slot_good x) hv1) fun r h' k' => ?_); replace x := x.kp k'; clear k'; cases r)
      | ((with_reducible refine Ret.callB (all_int x.w x.k (value_good x) x.v3) fun r h' k' => ?_); replace x := x.kp k'; clear k'; cases r)
      | ((with_reducible refine Ret.callB (all_int x.w x.k (target_good x) x.v2) fun r h' k' => ?_); replace x := x.kp k'; clear k'; cases r)
      | ((with_reducible refine Ret.callP (slists_ret x _ _ _ _ _ _) fun r h' hls k' => ?_); replace x := x.kp k'; clear k'; cases r)
      | ((with_reducible refine Ret.drawP (slists_ret (x.kp (Kp.draw _)) _ _ _ _ _ _) fun r h' hls k' => ?_); replace x := x.kp k'; clear k'; cases r)
      | (refine Ret.callB (hidden_ret x (by have := (hls rfl).1.1; first | omega | (simp only [Int.ofNat_eq_natCast] at this; omega))) fun r h' k' => ?_; replace x := x.kp k'; clear k'; cases r)
      | (refine Ret.idxV x.v3 (by simp) (by have := (hls rfl).2.1; first | (simp; omega) | (simp only [Int.ofNat_eq_natCast] at this ⊢; omega)) fun b o ⟨y, hy, hy1, hy2⟩ => ?_)
      | ((with_reducible refine Ret.drawU (kind_ret x.w (x.k.then (Kp.draw _)) (x.lk.kp (Kp.draw _)) hy1 hy2) fun n h' k' => ?_); replace x := x.kp k'; clear k')
      | ((with_reducible refine Ret.callU (kind_ret x.w x.k x.lk hy1 hy2) fun n h' k' => ?_); replace x := x.kp k'; clear k')
      | exact Ret.boolP (fun h => (Bool.false_ne_true h).elim) (Kp.refl _ _)
      | exact Ret.boolP (fun _ => ⟨hnext rfl, fun _ => hels rfl⟩) (Kp.refl _ _)
      | exact Ret.boolP (fun _ => ⟨hnext rfl, fun hk => (nofork ‹kd ≠ Int.ofNat 4› ‹kd ≠ Int.ofNat 6› ‹kd ≠ Int.ofNat 8› hk).elim⟩) (Kp.refl _ _)
      | simp only [ifS_true, ifS_false, guard_tt, guard_ft, guard_tf, guard_ff, guard_u, bind_bind, bind_addr, bind_load1, bind_loadN, bind_intS, bind_nilS, bind_lenSl, bind_idxS, bind_idxP, bind_notS, bind_optS, bindS_at, addr_at, nil_ptr, not_at, pick_t, pick_f, Bool.not_true, Bool.not_false, guardB_tt, guardB_tf, guardB_ft, guardB_ff, guardB_u, arr2])
end Go.RW
