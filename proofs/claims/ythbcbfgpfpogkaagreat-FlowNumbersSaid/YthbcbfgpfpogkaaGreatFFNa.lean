import Derived.Test.YthbcbfgpfpogkaaGreatFMidJJ
import Derived.Test.YthbcbfgpfpogkaaGreatFMidZ
import Derived.Test.YthbcbfgpfpogkaaGreatProg
import Derived.KernelRfl
set_option linter.all false
set_option warn.classDefReducibility false
open Go Go.Mid Go.Proofs
set_option maxRecDepth 100000
set_option linter.unusedVariables false
namespace Go.FN
noncomputable abbrev ii (n : Nat) : V := .int .i64 (.ofNat n)
noncomputable abbrev uu (n : Nat) : V := .int .u8 (.ofNat n)
abbrev II := Nat → List V → Hp → VH
noncomputable def us (l : List Nat) : List UInt8 := l.map UInt8.ofNat
noncomputable def U (t : TypeId) : Option TypeDesc := Tryz.prog.underlying t
noncomputable def itr0 (f : FuncId) : Option It := (bif Nat.beq f 149 then some ⟨66, 101, 3, 4, 1, false⟩ else none)
noncomputable def B8 (ih : II) (h : Hp) : VH :=
bindS (bldSl h [(0, (uu 4)), (1, (uu 11)), (2, (uu 11)), (3, (uu 3))] 44 4 1 (uu 0)) fun v0 h1 =>
bindS (bldSl h1 [(0, (ii 1)), (1, (ii 3)), (2, (ii 0)), (3, (.int .i64 (.negSucc 0)))] 3 4 1 (ii 0)) fun v2 h3 =>
bindS (bldSl h3 [(0, (ii 3)), (1, (ii 0)), (2, (ii 0)), (3, (ii 0))] 3 4 1 (ii 0)) fun v4 h5 =>
bindS (ih 16 [(.str ⟨24, 1009193632476319138293529453391610035292375035375325374583⟩), v0, v2, v4] h5) fun v6 h7 =>
guardS v6 true (bindS (bldSl h7 [(0, (uu 1)), (1, (uu 4)), (2, (uu 11))] 44 3 1 (uu 0)) fun v8 h9 =>
bindS (bldSl h9 [(0, (ii 1)), (1, (.int .i64 (.negSucc 0))), (2, (ii 0))] 3 3 1 (ii 0)) fun v10 h11 =>
bindS (bldSl h11 [(0, (ii 0)), (1, (ii 2)), (2, (ii 0))] 3 3 1 (ii 0)) fun v12 h13 =>
bindS (ih 16 [(.str ⟨22, 36339395633319676894844927446578942577779123522921842⟩), v8, v10, v12] h13) fun v14 h15 =>
some (v14, h15)) h7 fun v16 h17 =>
optS (pickV v6 v16 (.bool false)) fun v18 =>
guardS v18 true (bindS (bldSl h17 [(0, (uu 4)), (1, (uu 3)), (2, (uu 11)), (3, (uu 4)), (4, (uu 11)), (5, (uu 3))] 44 6 1 (uu 0)) fun v19 h20 =>
bindS (bldSl h20 [(0, (ii 1)), (1, (ii 2)), (2, (.int .i64 (.negSucc 0))), (3, (ii 4)), (4, (.int .i64 (.negSucc 0))), (5, (.int .i64 (.negSucc 0)))] 3 6 1 (ii 0)) fun v21 h22 =>
bindS (bldSl h22 [(0, (ii 3)), (1, (ii 0)), (2, (ii 0)), (3, (ii 5)), (4, (ii 0)), (5, (ii 0))] 3 6 1 (ii 0)) fun v23 h24 =>
bindS (ih 16 [(.str ⟨40, 837967994008854307628363963117806920154073860905307321365466326796870085739701976814236723078761⟩), v19, v21, v23] h24) fun v25 h26 =>
some (v25, h26)) h17 fun v27 h28 =>
optS (pickV v18 v27 (.bool false)) fun v29 =>
guardS v29 true (bindS (bldSl h28 [(0, (uu 5)), (1, (uu 6)), (2, (uu 3)), (3, (uu 11))] 44 4 1 (uu 0)) fun v30 h31 =>
bindS (bldSl h31 [(0, (ii 1)), (1, (ii 2)), (2, (ii 3)), (3, (ii 1))] 3 4 1 (ii 0)) fun v32 h33 =>
bindS (bldSl h33 [(0, (ii 0)), (1, (.int .i64 (.negSucc 0))), (2, (ii 0)), (3, (ii 0))] 3 4 1 (ii 0)) fun v34 h35 =>
bindS (ih 16 [(.str ⟨23, 9619400811789974600048616111681260602506154025369628518⟩), v30, v32, v34] h35) fun v36 h37 =>
some (v36, h37)) h28 fun v38 h39 =>
optS (pickV v29 v38 (.bool false)) fun v40 =>
guardS v40 true (bindS (bldSl h39 [(0, (uu 11))] 44 1 1 (uu 0)) fun v41 h42 =>
bindS (bldSl h42 [(0, (ii 0))] 3 1 1 (ii 0)) fun v43 h44 =>
bindS (bldSl h44 [(0, (ii 0))] 3 1 1 (ii 0)) fun v45 h46 =>
bindS (ih 16 [(.str ⟨12, 30059257909427471176091908666⟩), v41, v43, v45] h46) fun v47 h48 =>
some (v47, h48)) h39 fun v49 h50 =>
optS (pickV v40 v49 (.bool false)) fun v51 =>
guardS v51 true (bindS (bldSl h50 [(0, (uu 11)), (1, (uu 1))] 44 2 1 (uu 0)) fun v52 h53 =>
bindS (bldSl h53 [(0, (.int .i64 (.negSucc 0))), (1, (.int .i64 (.negSucc 0)))] 3 2 1 (ii 0)) fun v54 h55 =>
bindS (bldSl h55 [(0, (ii 0)), (1, (ii 0))] 3 2 1 (ii 0)) fun v56 h57 =>
bindS (ih 16 [(.str ⟨20, 332423377634673944419081010170388532237429927783⟩), v52, v54, v56] h57) fun v58 h59 =>
some (v58, h59)) h50 fun v60 h61 =>
optS (pickV v51 v60 (.bool false)) fun v62 =>
guardS v62 true (bindS (ih 16 [(.str ⟨0, 0⟩), .nilSlice, .nilSlice, .nilSlice] h61) fun v63 h64 =>
some (v63, h64)) h61 fun v65 h66 =>
optS (pickV v62 v65 (.bool false)) fun v67 =>
bindS (ih 18 [(.str ⟨26, 78942330250180439319036634611256444225161475458464587319635815⟩), (ii 44), (ii 1)] h66) fun v68 h69 =>
guardS v68 true (bindS (ih 18 [(.str ⟨5, 461195539042⟩), (ii 41), (ii 1)] h69) fun v70 h71 =>
some (v70, h71)) h69 fun v72 h73 =>
optS (pickV v68 v72 (.bool false)) fun v74 =>
guardS v74 true (bindS (ih 18 [(.str ⟨18, 8748794072899406726136778557241924595563066⟩), (ii 43), (ii 1)] h73) fun v75 h76 =>
some (v75, h76)) h73 fun v77 h78 =>
optS (pickV v74 v77 (.bool false)) fun v79 =>
guardS v79 true (bindS (ih 18 [(.str ⟨19, 2165997803518899113711045149731839863020351332⟩), (ii 42), (ii 1)] h78) fun v80 h81 =>
some (v80, h81)) h78 fun v82 h83 =>
optS (pickV v79 v82 (.bool false)) fun v84 =>
guardS v84 true (bindS (ih 18 [(.str ⟨27, 41315011894234833699772802096927532026705151869816051259140896102⟩), (ii 45), (ii 1)] h83) fun v85 h86 =>
some (v85, h86)) h83 fun v87 h88 =>
optS (pickV v84 v87 (.bool false)) fun v89 =>
guardS v89 true (bindS (ih 18 [(.str ⟨39, 3273312477046886720470143834911475137110938434212338608762676124707050191180193306605855008887⟩), (ii 41), (ii 1)] h88) fun v90 h91 =>
some (v90, h91)) h88 fun v92 h93 =>
optS (pickV v89 v92 (.bool false)) fun v94 =>
guardS v94 true (bindS (ih 18 [(.str ⟨31, 177446624940547717729126966593725763058947348375736389331363795763579664954⟩), (ii 42), (ii 1)] h93) fun v95 h96 =>
some (v95, h96)) h93 fun v97 h98 =>
optS (pickV v94 v97 (.bool false)) fun v99 =>
guardS v99 true (bindS (ih 18 [(.str ⟨35, 911587165270045936978630762813619319473153117631523805044570830967598412169997215090⟩), (ii 44), (ii 1)] h98) fun v100 h101 =>
some (v100, h101)) h98 fun v102 h103 =>
optS (pickV v99 v102 (.bool false)) fun v104 =>
guardS v104 true (bindS (ih 18 [(.str ⟨31, 72719552818292391617817766135026952075569172783740379158417660630884446052⟩), (ii 44), (ii 1)] h103) fun v105 h106 =>
some (v105, h106)) h103 fun v107 h108 =>
optS (pickV v104 v107 (.bool false)) fun v109 =>
guardS v109 true (bindS (ih 18 [(.str ⟨12, 33232640924394701377974333287⟩), (ii 41), (ii 2)] h108) fun v110 h111 =>
some (v110, h111)) h108 fun v112 h113 =>
optS (pickV v109 v112 (.bool false)) fun v114 =>
guardS v114 true (bindS (ih 18 [(.str ⟨47, 24745181554440736335731504878158794319759244127296871814092642745486098983033428663928496860983679230708717481828⟩), (ii 44), (ii 1)] h113) fun v115 h116 =>
some (v115, h116)) h113 fun v117 h118 =>
optS (pickV v114 v117 (.bool false)) fun v119 =>
guardS v119 true (bindS (bldSl h118 [(0, (uu 10)), (1, (uu 3))] 44 2 1 (uu 0)) fun v120 h121 =>
bindS (bldSl h121 [(0, (.int .i64 (.negSucc 0))), (1, (.int .i64 (.negSucc 0)))] 3 2 1 (ii 0)) fun v122 h123 =>
bindS (bldSl h123 [(0, (ii 0)), (1, (ii 0))] 3 2 1 (ii 0)) fun v124 h125 =>
bindS (ih 16 [(.str ⟨17, 14005369896206986990251068133654375984996⟩), v120, v122, v124] h125) fun v126 h127 =>
some (v126, h127)) h118 fun v128 h129 =>
optS (pickV v119 v128 (.bool false)) fun v130 =>
bindS (bldSl h129 [(0, (uu 11))] 44 1 1 (uu 0)) fun v131 h132 =>
bindS (bldSl h132 [(0, (ii 0))] 3 1 1 (ii 0)) fun v133 h134 =>
bindS (bldSl h134 [(0, (ii 0))] 3 1 1 (ii 0)) fun v135 h136 =>
bindS (ih 16 [(.str ⟨25, 609674181300814174959348598880979616087913675467054049685348⟩), v131, v133, v135] h136) fun v137 h138 =>
guardS v137 true (bindS (bldSl h138 [(0, (uu 11)), (1, (uu 1)), (2, (uu 3))] 44 3 1 (uu 0)) fun v139 h140 =>
bindS (bldSl h140 [(0, (ii 2)), (1, (ii 2)), (2, (.int .i64 (.negSucc 0)))] 3 3 1 (ii 0)) fun v141 h142 =>
bindS (bldSl h142 [(0, (ii 0)), (1, (ii 0)), (2, (ii 0))] 3 3 1 (ii 0)) fun v143 h144 =>
bindS (ih 16 [(.str ⟨31, 72720065057279067479973836023420378480700270091374876433587879473915653988⟩), v139, v141, v143] h144) fun v145 h146 =>
some (v145, h146)) h138 fun v147 h148 =>
optS (pickV v137 v147 (.bool false)) fun v149 =>
guardS v149 true (bindS (bldSl h148 [(0, (uu 1)), (1, (uu 1)), (2, (uu 11))] 44 3 1 (uu 0)) fun v150 h151 =>
bindS (bldSl h151 [(0, (ii 1)), (1, (ii 2)), (2, (ii 1))] 3 3 1 (ii 0)) fun v152 h153 =>
bindS (bldSl h153 [(0, (ii 0)), (1, (ii 0)), (2, (ii 0))] 3 3 1 (ii 0)) fun v154 h155 =>
bindS (ih 16 [(.str ⟨28, 10228635429306920481081200774161978513783948873476998349604062981996⟩), v150, v152, v154] h155) fun v156 h157 =>
some (v156, h157)) h148 fun v158 h159 =>
optS (pickV v149 v158 (.bool false)) fun v160 =>
guardS v160 true (bindS (bldSl h159 [(0, (uu 4)), (1, (uu 4)), (2, (uu 11)), (3, (uu 1)), (4, (uu 11))] 44 5 1 (uu 0)) fun v161 h162 =>
bindS (bldSl h162 [(0, (ii 1)), (1, (ii 2)), (2, (ii 4)), (3, (ii 4)), (4, (ii 0))] 3 5 1 (ii 0)) fun v163 h164 =>
bindS (bldSl h164 [(0, (.int .i64 (.negSucc 0))), (1, (ii 3)), (2, (ii 0)), (3, (ii 0)), (4, (ii 0))] 3 5 1 (ii 0)) fun v165 h166 =>
bindS (ih 16 [(.str ⟨49, 3957191968781528075299357317334515762752833754761821314789245542868692760069316811729060482975305278429140253391022199⟩), v161, v163, v165] h166) fun v167 h168 =>
some (v167, h168)) h159 fun v169 h170 =>
optS (pickV v160 v169 (.bool false)) fun v171 =>
guardS v67 true (some (v130, h170)) h170 fun v172 h173 =>
optS (pickV v67 v172 (.bool false)) fun v174 =>
guardS v174 true (some (v171, h173)) h173 fun v175 h176 =>
optS (pickV v174 v175 (.bool false)) fun v177 =>
guardS v177 true (bindS (ih 20 [] h176) fun v178 h179 =>
some (v178, h179)) h176 fun v180 h181 =>
optS (pickV v177 v180 (.bool false)) fun v182 =>
guardS v182 true (bindS (ih 22 [] h181) fun v183 h184 =>
some (v183, h184)) h181 fun v185 h186 =>
optS (pickV v182 v185 (.bool false)) fun v187 =>
guardS v187 true (bindS (ih 10 [] h186) fun v188 h189 =>
some (v188, h189)) h186 fun v190 h191 =>
optS (pickV v187 v190 (.bool false)) fun v192 =>
some (v192, h191)
noncomputable def G8 : Sh := fun ih vs h => nilE (B8 ih  h) vs
noncomputable def B10 (ih : II) (h : Hp) : VH :=
bindS (ih 24 [(.str ⟨21, 177025347582219039315584857367121440526979293212524⟩)] h) fun v0 h1 =>
extS 0 v0 fun v2 =>
extS 1 v0 fun v3 =>
newS 29 [.nilSlice, .nilSlice] h1 fun v4 h5 =>
newS 32 [(ii 0), (ii 0)] h5 fun v6 h7 =>
storeN 2 v4 v2 h7 fun h8 =>
storeN 2 v6 v3 h8 fun h9 =>
bindS (bldSl h9 [(0, (.str ⟨1, 121⟩))] 9 1 1 (.str ⟨0, 0⟩)) fun v10 h11 =>
bindS (bldSl h11 [(0, (.bool false))] 4 1 1 (.bool false)) fun v12 h13 =>
bindS (bldSl h13 [(0, (ii 0))] 3 1 1 (ii 0)) fun v14 h15 =>
bindS (bldSl h15 [(0, (ii 0))] 3 1 1 (ii 0)) fun v16 h17 =>
bindS (bldStruct h17 [(0, (uu 1)), (1, v14), (3, v16), (4, (ii 1)), (6, (ii 1))] (.agg [(uu 0), .nilSlice, .nilSlice, .nilSlice, (ii 0), (ii 0), (ii 0)]) (some [(0, 1), (1, 1), (2, 1), (3, 1), (4, 1), (5, 1), (6, 1)])) fun v18 h19 =>
bindS (bldSl h19 [(0, (ii 1))] 3 1 1 (ii 0)) fun v20 h21 =>
bindS (bldSl h21 [(0, (ii 4))] 3 1 1 (ii 0)) fun v22 h23 =>
bindS (bldStruct h23 [(0, (uu 2)), (2, v20), (3, v22), (4, (.int .i64 (.negSucc 0))), (6, (ii 1))] (.agg [(uu 0), .nilSlice, .nilSlice, .nilSlice, (ii 0), (ii 0), (ii 0)]) (some [(0, 1), (1, 1), (2, 1), (3, 1), (4, 1), (5, 1), (6, 1)])) fun v24 h25 =>
bindS (bldSl h25 [(0, v18), (1, v24)] 50 2 7 (.agg [(uu 0), .nilSlice, .nilSlice, .nilSlice, (ii 0), (ii 0), (ii 0)])) fun v26 h27 =>
bindS (bldStruct h27 [(0, (uu 4)), (1, (ii 1))] (.agg [(uu 0), (ii 0), .nilSlice]) (some [(0, 1), (1, 1), (2, 1)])) fun v28 h29 =>
bindS (bldStruct h29 [(0, (uu 8))] (.agg [(uu 0), (ii 0), .nilSlice]) (some [(0, 1), (1, 1), (2, 1)])) fun v30 h31 =>
bindS (bldStruct h31 [(0, (uu 8))] (.agg [(uu 0), (ii 0), .nilSlice]) (some [(0, 1), (1, 1), (2, 1)])) fun v32 h33 =>
bindS (bldStruct h33 [(0, (uu 10))] (.agg [(uu 0), (ii 0), .nilSlice]) (some [(0, 1), (1, 1), (2, 1)])) fun v34 h35 =>
bindS (bldSl h35 [(0, (ii 2)), (1, (ii 3))] 3 2 1 (ii 0)) fun v36 h37 =>
bindS (bldStruct h37 [(0, (uu 14)), (1, (ii 1)), (2, v36)] (.agg [(uu 0), (ii 0), .nilSlice]) (some [(0, 1), (1, 1), (2, 1)])) fun v38 h39 =>
bindS (bldSl h39 [(0, v28), (1, v30), (2, v32), (3, v34), (4, v38)] 53 5 3 (.agg [(uu 0), (ii 0), .nilSlice])) fun v40 h41 =>
bindS (bldStruct h41 [(1, (.bool true)), (2, (ii 1)), (3, v12), (5, v26), (6, v40)] (.agg [(ii 0), (.bool false), (ii 0), .nilSlice, .nilSlice, .nilSlice, .nilSlice, (ii 0)]) (some [(0, 1), (1, 1), (2, 1), (3, 1), (4, 1), (5, 1), (6, 1), (7, 1)])) fun v42 h43 =>
bindS (bldSl h43 [(0, v42)] 41 1 8 (.agg [(ii 0), (.bool false), (ii 0), .nilSlice, .nilSlice, .nilSlice, .nilSlice, (ii 0)])) fun v44 h45 =>
bindS (bldStruct h45 [(0, v10), (1, v44)] (.agg [.nilSlice, .nilSlice]) (some [(0, 1), (1, 1)])) fun v46 h47 =>
newS 29 [.nilSlice, .nilSlice] h47 fun v48 h49 =>
storeN 2 v48 v46 h49 fun h50 =>
loadN 2 v6 h50 fun v51 =>
bindS (bldStruct h50 [] (.agg [(ii 0), (ii 0)]) (some [(0, 1), (1, 1)])) fun v52 h53 =>
bindS (vh h53 (eqOp .eql (cmpV [(0, .int .i64), (1, .int .i64)] v51 v52))) fun v54 h55 =>
guardS v54 true (loadN 2 v4 h55 fun v56 =>
loadN 2 v48 h55 fun v57 =>
bindS (ih 26 [v56, v57] h55) fun v58 h59 =>
some (v58, h59)) h55 fun v60 h61 =>
optS (pickV v54 v60 (.bool false)) fun v62 =>
some (v62, h61)
noncomputable def G10 : Sh := fun ih vs h => nilE (B10 ih  h) vs
noncomputable def B22 (ih : II) (h : Hp) : VH :=
bindS (dynE ih (.func 18 [] []) [(ii 120)] h) fun v0 h1 =>
bindS (ih 24 [v0] h1) fun v2 h3 =>
extS 0 v2 fun v4 =>
extS 1 v2 fun v5 =>
newS 29 [.nilSlice, .nilSlice] h3 fun v6 h7 =>
newS 32 [(ii 0), (ii 0)] h7 fun v8 h9 =>
storeN 2 v6 v4 h9 fun h10 =>
storeN 2 v8 v5 h10 fun h11 =>
bindS (dynE ih (.func 18 [] []) [(ii 60)] h11) fun v12 h13 =>
strS .add v12 (.str ⟨3, 2125668⟩) fun v14 =>
bindS (dynE ih (.func 18 [] []) [(ii 60)] h13) fun v15 h16 =>
strS .add v14 v15 fun v17 =>
strS .add v17 (.str ⟨7, 9129675085606501⟩) fun v18 =>
bindS (dynE ih (.func 18 [] []) [(ii 60)] h16) fun v19 h20 =>
strS .add v18 v19 fun v21 =>
strS .add v21 (.str ⟨3, 6581861⟩) fun v22 =>
bindS (ih 24 [v22] h20) fun v23 h24 =>
extS 0 v23 fun v25 =>
extS 1 v23 fun v26 =>
newS 29 [.nilSlice, .nilSlice] h24 fun v27 h28 =>
newS 32 [(ii 0), (ii 0)] h28 fun v29 h30 =>
storeN 2 v27 v25 h30 fun h31 =>
storeN 2 v29 v26 h31 fun h32 =>
bindS (dynE ih (.func 20 [] []) [(ii 60)] h32) fun v33 h34 =>
bindS (ih 24 [v33] h34) fun v35 h36 =>
extS 0 v35 fun v37 =>
extS 1 v35 fun v38 =>
newS 29 [.nilSlice, .nilSlice] h36 fun v39 h40 =>
newS 32 [(ii 0), (ii 0)] h40 fun v41 h42 =>
storeN 2 v39 v37 h42 fun h43 =>
storeN 2 v41 v38 h43 fun h44 =>
bindS (ih 38 [(.str ⟨19, 722372640425533124272694124133181278673248358⟩), (ii 199)] h44) fun v45 h46 =>
bindS (ih 24 [v45] h46) fun v47 h48 =>
extS 0 v47 fun v49 =>
extS 1 v47 fun v50 =>
newS 29 [.nilSlice, .nilSlice] h48 fun v51 h52 =>
newS 32 [(ii 0), (ii 0)] h52 fun v53 h54 =>
storeN 2 v51 v49 h54 fun h55 =>
storeN 2 v53 v50 h55 fun h56 =>
bindS (ih 38 [(.str ⟨19, 722372640425533124272694124133181278673248358⟩), (ii 198)] h56) fun v57 h58 =>
strS .add (.str ⟨19, 231756246057859415158908322134917325541679206⟩) v57 fun v59 =>
strS .add v59 (.str ⟨19, 2239691282573615038349091688559029883360011786⟩) fun v60 =>
bindS (ih 24 [v60] h58) fun v61 h62 =>
extS 0 v61 fun v63 =>
extS 1 v61 fun v64 =>
newS 29 [.nilSlice, .nilSlice] h62 fun v65 h66 =>
newS 32 [(ii 0), (ii 0)] h66 fun v67 h68 =>
storeN 2 v65 v63 h68 fun h69 =>
storeN 2 v67 v64 h69 fun h70 =>
bindS (dynE ih (.func 20 [] []) [(ii 61)] h70) fun v71 h72 =>
bindS (ih 24 [v71] h72) fun v73 h74 =>
extS 0 v73 fun v75 =>
extS 1 v73 fun v76 =>
newS 29 [.nilSlice, .nilSlice] h74 fun v77 h78 =>
newS 32 [(ii 0), (ii 0)] h78 fun v79 h80 =>
storeN 2 v77 v75 h80 fun h81 =>
storeN 2 v79 v76 h81 fun h82 =>
loadN 2 v8 h82 fun v83 =>
bindS (bldStruct h82 [] (.agg [(ii 0), (ii 0)]) (some [(0, 1), (1, 1)])) fun v84 h85 =>
bindS (vh h85 (eqOp .eql (cmpV [(0, .int .i64), (1, .int .i64)] v83 v84))) fun v86 h87 =>
guardS v86 true (loadN 2 v29 h87 fun v88 =>
bindS (bldStruct h87 [] (.agg [(ii 0), (ii 0)]) (some [(0, 1), (1, 1)])) fun v89 h90 =>
bindS (vh h90 (eqOp .eql (cmpV [(0, .int .i64), (1, .int .i64)] v88 v89))) fun v91 h92 =>
some (v91, h92)) h87 fun v93 h94 =>
optS (pickV v86 v93 (.bool false)) fun v95 =>
guardS v95 true (loadN 2 v41 h94 fun v96 =>
bindS (bldStruct h94 [] (.agg [(ii 0), (ii 0)]) (some [(0, 1), (1, 1)])) fun v97 h98 =>
bindS (vh h98 (eqOp .eql (cmpV [(0, .int .i64), (1, .int .i64)] v96 v97))) fun v99 h100 =>
some (v99, h100)) h94 fun v101 h102 =>
optS (pickV v95 v101 (.bool false)) fun v103 =>
guardS v103 true (loadN 2 v53 h102 fun v104 =>
bindS (bldStruct h102 [] (.agg [(ii 0), (ii 0)]) (some [(0, 1), (1, 1)])) fun v105 h106 =>
bindS (vh h106 (eqOp .eql (cmpV [(0, .int .i64), (1, .int .i64)] v104 v105))) fun v107 h108 =>
some (v107, h108)) h102 fun v109 h110 =>
optS (pickV v103 v109 (.bool false)) fun v111 =>
guardS v111 true (loadN 2 v67 h110 fun v112 =>
bindS (bldStruct h110 [(0, (ii 3)), (1, (ii 3))] (.agg [(ii 0), (ii 0)]) (some [(0, 1), (1, 1)])) fun v113 h114 =>
bindS (vh h114 (eqOp .eql (cmpV [(0, .int .i64), (1, .int .i64)] v112 v113))) fun v115 h116 =>
some (v115, h116)) h110 fun v117 h118 =>
optS (pickV v111 v117 (.bool false)) fun v119 =>
guardS v119 true (addrS 1 v65 fun v120 =>
load1 v120 h118 fun v121 =>
lenSl v121 fun v122 =>
intS .eql v122 (ii 0) fun v123 =>
some (v123, h118)) h118 fun v124 h125 =>
optS (pickV v119 v124 (.bool false)) fun v126 =>
guardS v126 true (bindS (dynE ih (.func 18 [] []) [(ii 120)] h125) fun v127 h128 =>
strS .add v127 (.str ⟨20, 573360968432201360450276988894476840125342901770⟩) fun v129 =>
bindS (ih 18 [v129, (ii 3), (ii 2)] h128) fun v130 h131 =>
some (v130, h131)) h125 fun v132 h133 =>
optS (pickV v126 v132 (.bool false)) fun v134 =>
guardS v134 true (bindS (dynE ih (.func 18 [] []) [(ii 119)] h133) fun v135 h136 =>
strS .add v135 (.str ⟨11, 119835590596809940670573578⟩) fun v137 =>
bindS (ih 18 [v137, (ii 3), (ii 2)] h136) fun v138 h139 =>
some (v138, h139)) h133 fun v140 h141 =>
optS (pickV v134 v140 (.bool false)) fun v142 =>
guardS v142 true (addrS 0 v79 fun v143 =>
load1 v143 h141 fun v144 =>
intS .eql v144 (ii 3) fun v145 =>
some (v145, h141)) h141 fun v146 h147 =>
optS (pickV v142 v146 (.bool false)) fun v148 =>
guardS v148 true (bindS (dynE ih (.func 18 [] []) [(ii 119)] h147) fun v149 h150 =>
strS .add (.str ⟨20, 183610498858282326867280434857539072333061517164⟩) v149 fun v151 =>
strS .add v151 (.str ⟨12, 31081960380258733923909987338⟩) fun v152 =>
bindS (ih 18 [v152, (ii 3), (ii 2)] h150) fun v153 h154 =>
some (v153, h154)) h147 fun v155 h156 =>
optS (pickV v148 v155 (.bool false)) fun v157 =>
some (v157, h156)
noncomputable def G22 : Sh := fun ih vs h => nilE (B22 ih  h) vs
noncomputable def B20 (ih : II) (h : Hp) : VH :=
bindS (ih 24 [(.str ⟨82, 117302150558905599212404321845906657692734637969005645217251541716830550269815919498013193963478135141087478159900006486229678494334099434797075599222834343398128999592030780975519660421338817064812⟩)] h) fun v0 h1 =>
extS 0 v0 fun v2 =>
extS 1 v0 fun v3 =>
newS 29 [.nilSlice, .nilSlice] h1 fun v4 h5 =>
newS 32 [(ii 0), (ii 0)] h5 fun v6 h7 =>
storeN 2 v4 v2 h7 fun h8 =>
storeN 2 v6 v3 h8 fun h9 =>
loadN 2 v6 h9 fun v10 =>
bindS (bldStruct h9 [] (.agg [(ii 0), (ii 0)]) (some [(0, 1), (1, 1)])) fun v11 h12 =>
bindS (vh h12 (eqOp .neq (cmpV [(0, .int .i64), (1, .int .i64)] v10 v11))) fun v13 h14 =>
guardS v13 false (addrS 1 v4 fun v15 =>
load1 v15 h14 fun v16 =>
lenSl v16 fun v17 =>
intS .neq v17 (ii 3) fun v18 =>
some (v18, h14)) h14 fun v19 h20 =>
optS (pickV v13 (.bool true) v19) fun v21 =>
ifS v21 (
some ((.bool false), h20)) (
newS 41 [(ii 0), (.bool false), (ii 0), .nilSlice, .nilSlice, .nilSlice, .nilSlice, (ii 0)] h20 fun v22 h23 =>
newS 41 [(ii 0), (.bool false), (ii 0), .nilSlice, .nilSlice, .nilSlice, .nilSlice, (ii 0)] h23 fun v24 h25 =>
newS 41 [(ii 0), (.bool false), (ii 0), .nilSlice, .nilSlice, .nilSlice, .nilSlice, (ii 0)] h25 fun v26 h27 =>
addrS 1 v4 fun v28 =>
load1 v28 h27 fun v29 =>
idxS 8 v29 (ii 0) fun v30 =>
loadN 8 v30 h27 fun v31 =>
addrS 1 v4 fun v32 =>
load1 v32 h27 fun v33 =>
idxS 8 v33 (ii 1) fun v34 =>
loadN 8 v34 h27 fun v35 =>
addrS 1 v4 fun v36 =>
load1 v36 h27 fun v37 =>
idxS 8 v37 (ii 2) fun v38 =>
loadN 8 v38 h27 fun v39 =>
ptrE v22 fun b40 o41 => storeB (storeO Tryz.prog h27 41 b40 o41 v31) fun c42 =>
cD (offP v38 b40 && (offP v36 b40 && (offP v34 b40 && (offP v32 b40 && true)))) (
ptrE v24 fun b43 o44 => storeB (storeO Tryz.prog (h27.put b40 c42) 41 b43 o44 v35) fun c45 =>
cD (offP v38 b43 && (offP v36 b43 && true)) (
storeN 8 v26 v39 ((h27.put b40 c42).put b43 c45) fun h46 =>
addrS 3 v22 fun v47 =>
load1 v47 h46 fun v48 =>
lenSl v48 fun v49 =>
intS .eql v49 (ii 2) fun v50 =>
guardS v50 true (addrS 3 v22 fun v51 =>
load1 v51 h46 fun v52 =>
idxS 1 v52 (ii 0) fun v53 =>
load1 v53 h46 fun v54 =>
some (v54, h46)) h46 fun v55 h56 =>
optS (pickV v50 v55 (.bool false)) fun v57 =>
guardS v57 true (addrS 3 v22 fun v58 =>
load1 v58 h56 fun v59 =>
idxS 1 v59 (ii 1) fun v60 =>
load1 v60 h56 fun v61 =>
some (v61, h56)) h56 fun v62 h63 =>
optS (pickV v57 v62 (.bool false)) fun v64 =>
guardS v64 true (addrS 3 v24 fun v65 =>
load1 v65 h63 fun v66 =>
lenSl v66 fun v67 =>
intS .eql v67 (ii 2) fun v68 =>
some (v68, h63)) h63 fun v69 h70 =>
optS (pickV v64 v69 (.bool false)) fun v71 =>
guardS v71 true (addrS 3 v24 fun v72 =>
load1 v72 h70 fun v73 =>
idxS 1 v73 (ii 0) fun v74 =>
load1 v74 h70 fun v75 =>
some (v75, h70)) h70 fun v76 h77 =>
optS (pickV v71 v76 (.bool false)) fun v78 =>
guardS v78 true (addrS 3 v24 fun v79 =>
load1 v79 h77 fun v80 =>
idxS 1 v80 (ii 1) fun v81 =>
load1 v81 h77 fun v82 =>
notS v82 fun v83 =>
some (v83, h77)) h77 fun v84 h85 =>
optS (pickV v78 v84 (.bool false)) fun v86 =>
guardS v86 true (addrS 3 v26 fun v87 =>
load1 v87 h85 fun v88 =>
lenSl v88 fun v89 =>
intS .eql v89 (ii 0) fun v90 =>
some (v90, h85)) h85 fun v91 h92 =>
optS (pickV v86 v91 (.bool false)) fun v93 =>
bindS (ih 24 [(.str ⟨38, 12365655558582435265870453127712538536643077480289298527820726498827313885759343627709149036⟩)] h92) fun v94 h95 =>
extS 0 v94 fun v96 =>
extS 1 v94 fun v97 =>
newS 29 [.nilSlice, .nilSlice] h95 fun v98 h99 =>
newS 32 [(ii 0), (ii 0)] h99 fun v100 h101 =>
storeN 2 v98 v96 h101 fun h102 =>
storeN 2 v100 v97 h102 fun h103 =>
loadN 2 v100 h103 fun v104 =>
bindS (bldStruct h103 [] (.agg [(ii 0), (ii 0)]) (some [(0, 1), (1, 1)])) fun v105 h106 =>
bindS (vh h106 (eqOp .neq (cmpV [(0, .int .i64), (1, .int .i64)] v104 v105))) fun v107 h108 =>
guardS v107 false (addrS 1 v98 fun v109 =>
load1 v109 h108 fun v110 =>
idxS 8 v110 (ii 0) fun v111 =>
addrS 6 v111 fun v112 =>
load1 v112 h108 fun v113 =>
lenSl v113 fun v114 =>
intS .neq v114 (ii 1) fun v115 =>
some (v115, h108)) h108 fun v116 h117 =>
optS (pickV v107 (.bool true) v116) fun v118 =>
guardS v118 false (addrS 1 v98 fun v119 =>
load1 v119 h117 fun v120 =>
idxS 8 v120 (ii 0) fun v121 =>
addrS 6 v121 fun v122 =>
load1 v122 h117 fun v123 =>
idxS 3 v123 (ii 0) fun v124 =>
addrS 0 v124 fun v125 =>
load1 v125 h117 fun v126 =>
intS .neq v126 (uu 8) fun v127 =>
some (v127, h117)) h117 fun v128 h129 =>
optS (pickV v118 (.bool true) v128) fun v130 =>
guardS v130 false (addrS 1 v98 fun v131 =>
load1 v131 h129 fun v132 =>
idxS 8 v132 (ii 0) fun v133 =>
addrS 6 v133 fun v134 =>
load1 v134 h129 fun v135 =>
idxS 3 v135 (ii 0) fun v136 =>
addrS 1 v136 fun v137 =>
load1 v137 h129 fun v138 =>
intS .neq v138 (ii 2) fun v139 =>
some (v139, h129)) h129 fun v140 h141 =>
optS (pickV v130 (.bool true) v140) fun v142 =>
ifS v142 (
some ((.bool false), h141)) (
guardS v93 true (addrS 4 v24 fun v143 =>
load1 v143 h141 fun v144 =>
lenSl v144 fun v145 =>
intS .eql v145 (ii 2) fun v146 =>
some (v146, h141)) h141 fun v147 h148 =>
optS (pickV v93 v147 (.bool false)) fun v149 =>
guardS v149 true (addrS 4 v24 fun v150 =>
load1 v150 h148 fun v151 =>
idxS 2 v151 (ii 0) fun v152 =>
loadN 2 v152 h148 fun v153 =>
bindS (bldStruct h148 [(0, (.bool true)), (1, (ii 0))] (.agg [(.bool false), (ii 0)]) (some [(0, 1), (1, 1)])) fun v154 h155 =>
bindS (vh h155 (eqOp .eql (cmpV [(0, .bool), (1, .int .i64)] v153 v154))) fun v156 h157 =>
some (v156, h157)) h148 fun v158 h159 =>
optS (pickV v149 v158 (.bool false)) fun v160 =>
guardS v160 true (addrS 4 v24 fun v161 =>
load1 v161 h159 fun v162 =>
idxS 2 v162 (ii 1) fun v163 =>
loadN 2 v163 h159 fun v164 =>
bindS (bldStruct h159 [(0, (.bool true)), (1, (ii 1))] (.agg [(.bool false), (ii 0)]) (some [(0, 1), (1, 1)])) fun v165 h166 =>
bindS (vh h166 (eqOp .eql (cmpV [(0, .bool), (1, .int .i64)] v164 v165))) fun v167 h168 =>
some (v167, h168)) h159 fun v169 h170 =>
optS (pickV v160 v169 (.bool false)) fun v171 =>
guardS v171 true (addrS 4 v26 fun v172 =>
load1 v172 h170 fun v173 =>
lenSl v173 fun v174 =>
intS .eql v174 (ii 2) fun v175 =>
some (v175, h170)) h170 fun v176 h177 =>
optS (pickV v171 v176 (.bool false)) fun v178 =>
guardS v178 true (addrS 4 v26 fun v179 =>
load1 v179 h177 fun v180 =>
idxS 2 v180 (ii 0) fun v181 =>
loadN 2 v181 h177 fun v182 =>
bindS (bldStruct h177 [(0, (.bool false)), (1, (ii 0))] (.agg [(.bool false), (ii 0)]) (some [(0, 1), (1, 1)])) fun v183 h184 =>
bindS (vh h184 (eqOp .eql (cmpV [(0, .bool), (1, .int .i64)] v182 v183))) fun v185 h186 =>
some (v185, h186)) h177 fun v187 h188 =>
optS (pickV v178 v187 (.bool false)) fun v189 =>
guardS v189 true (addrS 4 v26 fun v190 =>
load1 v190 h188 fun v191 =>
idxS 2 v191 (ii 1) fun v192 =>
loadN 2 v192 h188 fun v193 =>
bindS (bldStruct h188 [(0, (.bool true)), (1, (ii 0))] (.agg [(.bool false), (ii 0)]) (some [(0, 1), (1, 1)])) fun v194 h195 =>
bindS (vh h195 (eqOp .eql (cmpV [(0, .bool), (1, .int .i64)] v193 v194))) fun v196 h197 =>
some (v196, h197)) h188 fun v198 h199 =>
optS (pickV v189 v198 (.bool false)) fun v200 =>
guardS v200 true (addrS 0 v24 fun v201 =>
load1 v201 h199 fun v202 =>
intS .eql v202 (ii 1) fun v203 =>
some (v203, h199)) h199 fun v204 h205 =>
optS (pickV v200 v204 (.bool false)) fun v206 =>
guardS v206 true (addrS 1 v24 fun v207 =>
load1 v207 h205 fun v208 =>
notS v208 fun v209 =>
some (v209, h205)) h205 fun v210 h211 =>
optS (pickV v206 v210 (.bool false)) fun v212 =>
guardS v212 true (addrS 1 v22 fun v213 =>
load1 v213 h211 fun v214 =>
some (v214, h211)) h211 fun v215 h216 =>
optS (pickV v212 v215 (.bool false)) fun v217 =>
guardS v217 true (addrS 7 v22 fun v218 =>
load1 v218 h216 fun v219 =>
intS .eql v219 (ii 0) fun v220 =>
some (v220, h216)) h216 fun v221 h222 =>
optS (pickV v217 v221 (.bool false)) fun v223 =>
some (v223, h222))) none) none)
noncomputable def G20 : Sh := fun ih vs h => nilE (B20 ih  h) vs
noncomputable def B16 (ih : II) (a0 a1 a2 a3 : V) (h : Hp) : VH :=
bindS (ih 24 [a0] h) fun v0 h1 =>
extS 0 v0 fun v2 =>
extS 1 v0 fun v3 =>
newS 29 [.nilSlice, .nilSlice] h1 fun v4 h5 =>
newS 32 [(ii 0), (ii 0)] h5 fun v6 h7 =>
storeN 2 v4 v2 h7 fun h8 =>
storeN 2 v6 v3 h8 fun h9 =>
loadN 2 v6 h9 fun v10 =>
bindS (bldStruct h9 [] (.agg [(ii 0), (ii 0)]) (some [(0, 1), (1, 1)])) fun v11 h12 =>
bindS (vh h12 (eqOp .neq (cmpV [(0, .int .i64), (1, .int .i64)] v10 v11))) fun v13 h14 =>
guardS v13 false (addrS 1 v4 fun v15 =>
load1 v15 h14 fun v16 =>
lenSl v16 fun v17 =>
intS .eql v17 (ii 0) fun v18 =>
some (v18, h14)) h14 fun v19 h20 =>
optS (pickV v13 (.bool true) v19) fun v21 =>
guardS v21 false (addrS 1 v4 fun v22 =>
load1 v22 h20 fun v23 =>
idxS 8 v23 (ii 0) fun v24 =>
addrS 5 v24 fun v25 =>
load1 v25 h20 fun v26 =>
lenSl v26 fun v27 =>
lenSl a1 fun v28 =>
intS .neq v27 v28 fun v29 =>
some (v29, h20)) h20 fun v30 h31 =>
optS (pickV v21 (.bool true) v30) fun v32 =>
ifS v32 (
some ((.bool false), h31)) (
ih 1 [a1, a2, a3, v4, (ii 0)] h31)
noncomputable def G16 : Sh := fun ih vs h => consE (fun a0 => consE (fun a1 => consE (fun a2 => consE (fun a3 => nilE (B16 ih a0 a1 a2 a3 h))))) vs
noncomputable def B1 (ih : II) (a1 a2 a3 a9 a11 : V) (h : Hp) : VH :=
lenSl a1 fun v33 =>
intS .lss a11 v33 fun v34 =>
ifS v34 (
addrS 1 a9 fun v35 =>
load1 v35 h fun v36 =>
idxS 8 v36 (ii 0) fun v37 =>
addrS 5 v37 fun v38 =>
load1 v38 h fun v39 =>
idxS 7 v39 a11 fun v40 =>
loadN 7 v40 h fun v41 =>
newS 50 [(uu 0), .nilSlice, .nilSlice, .nilSlice, (ii 0), (ii 0), (ii 0)] h fun v42 h43 =>
storeN 7 v42 v41 h43 fun h44 =>
addrS 0 v42 fun v45 =>
load1 v45 h44 fun v46 =>
idxS 1 a1 a11 fun v47 =>
load1 v47 h44 fun v48 =>
intS .neq v46 v48 fun v49 =>
guardS v49 false (addrS 4 v42 fun v50 =>
some (v50, h44)) h44 fun v51 _ =>
guardS v49 false (load1 v51 h44 fun v52 =>
some (v52, h44)) h44 fun v53 _ =>
guardS v49 false (some (a2, h44)) h44 fun v54 _ =>
guardS v49 false (some (a11, h44)) h44 fun v55 _ =>
guardS v49 false (idxS 1 v54 v55 fun v56 =>
some (v56, h44)) h44 fun v57 _ =>
guardS v49 false (load1 v57 h44 fun v58 =>
some (v58, h44)) h44 fun v59 _ =>
guardS v49 false (intS .neq v53 v59 fun v60 =>
some (v60, h44)) h44 fun v61 _ =>
optS (pickV v49 (.bool true) v61) fun v62 =>
guardS v62 false (addrS 5 v42 fun v63 =>
some (v63, h44)) h44 fun v64 _ =>
guardS v62 false (load1 v64 h44 fun v65 =>
some (v65, h44)) h44 fun v66 _ =>
guardS v62 false (some (a3, h44)) h44 fun v67 _ =>
guardS v62 false (some (a11, h44)) h44 fun v68 _ =>
guardS v62 false (idxS 1 v67 v68 fun v69 =>
some (v69, h44)) h44 fun v70 _ =>
guardS v62 false (load1 v70 h44 fun v71 =>
some (v71, h44)) h44 fun v72 _ =>
guardS v62 false (intS .neq v66 v72 fun v73 =>
some (v73, h44)) h44 fun v74 h75 =>
optS (pickV v62 (.bool true) v74) fun v76 =>
ifS v76 (
some ((.bool false), h75)) (
intS .add a11 (ii 1) fun v77 =>
ih 1 [a1, a2, a3, a9, v77] h75)) (
some ((.bool true), h))
noncomputable def G1 : Sh := fun ih vs h => consE (fun a1 => consE (fun a2 => consE (fun a3 => consE (fun a9 => consE (fun a11 => nilE (B1 ih a1 a2 a3 a9 a11 h)))))) vs
noncomputable def B18 (ih : II) (a0 a1 a2 : V) (h : Hp) : VH :=
bindS (ih 24 [a0] h) fun v0 h1 =>
extS 0 v0 fun v2 =>
extS 1 v0 fun v3 =>
newS 29 [.nilSlice, .nilSlice] h1 fun v4 h5 =>
newS 32 [(ii 0), (ii 0)] h5 fun v6 h7 =>
storeN 2 v4 v2 h7 fun h8 =>
storeN 2 v6 v3 h8 fun h9 =>
loadN 2 v6 h9 fun v10 =>
bindS (bldStruct h9 [(0, a1), (1, a2)] (.agg [(ii 0), (ii 0)]) (some [(0, 1), (1, 1)])) fun v11 h12 =>
bindS (vh h12 (eqOp .eql (cmpV [(0, .int .i64), (1, .int .i64)] v10 v11))) fun v13 h14 =>
guardS v13 true (addrS 1 v4 fun v15 =>
load1 v15 h14 fun v16 =>
lenSl v16 fun v17 =>
intS .eql v17 (ii 0) fun v18 =>
some (v18, h14)) h14 fun v19 h20 =>
optS (pickV v13 v19 (.bool false)) fun v21 =>
some (v21, h20)
noncomputable def G18 : Sh := fun ih vs h => consE (fun a0 => consE (fun a1 => consE (fun a2 => nilE (B18 ih a0 a1 a2 h)))) vs
noncomputable def B26 (ih : II) (a0 a1 : V) (h : Hp) : VH :=
newS 29 (vcells a0) h fun v0 h1 =>
newS 29 (vcells a1) h1 fun v2 h3 =>
addrS 0 v0 fun v4 =>
load1 v4 h3 fun v5 =>
addrS 0 v2 fun v6 =>
load1 v6 h3 fun v7 =>
bindS (ih 44 [v5, v7] h3) fun v8 h9 =>
notS v8 fun v10 =>
guardS v10 false (addrS 1 v0 fun v11 =>
load1 v11 h9 fun v12 =>
lenSl v12 fun v13 =>
addrS 1 v2 fun v14 =>
load1 v14 h9 fun v15 =>
lenSl v15 fun v16 =>
intS .neq v13 v16 fun v17 =>
some (v17, h9)) h9 fun v18 h19 =>
optS (pickV v10 (.bool true) v18) fun v20 =>
ifS v20 (
some ((.bool false), h19)) (
ih 3 [v0, v2, (ii 0)] h19)
noncomputable def G26 : Sh := fun ih vs h => consE (fun a0 => consE (fun a1 => nilE (B26 ih a0 a1 h))) vs
noncomputable def B3 (ih : II) (a2 a3 a5 : V) (h : Hp) : VH :=
addrS 1 a2 fun v21 =>
load1 v21 h fun v22 =>
lenSl v22 fun v23 =>
intS .lss a5 v23 fun v24 =>
ifS v24 (
addrS 1 a2 fun v25 =>
load1 v25 h fun v26 =>
idxS 8 v26 a5 fun v27 =>
loadN 8 v27 h fun v28 =>
addrS 1 a3 fun v29 =>
load1 v29 h fun v30 =>
idxS 8 v30 a5 fun v31 =>
loadN 8 v31 h fun v32 =>
bindS (ih 46 [v28, v32] h) fun v33 h34 =>
notS v33 fun v35 =>
ifS v35 (
some ((.bool false), h34)) (
intS .add a5 (ii 1) fun v36 =>
ih 3 [a2, a3, v36] h34)) (
some ((.bool true), h))
noncomputable def G3 : Sh := fun ih vs h => consE (fun a2 => consE (fun a3 => consE (fun a5 => nilE (B3 ih a2 a3 a5 h)))) vs
noncomputable def B24 (ih : II) (a0 : V) (h : Hp) : VH :=
newS 29 [.nilSlice, .nilSlice] h fun v0 h1 =>
newS 32 [(ii 0), (ii 0)] h1 fun v2 h3 =>
bindS (ih 42 [a0] h3) fun v4 h5 =>
extS 0 v4 fun v6 =>
extS 1 v4 fun v7 =>
newS 24 [.nilSlice, (ii 0)] h5 fun v8 h9 =>
newS 32 [(ii 0), (ii 0)] h9 fun v10 h11 =>
storeN 2 v8 v6 h11 fun h12 =>
storeN 2 v10 v7 h12 fun h13 =>
addrS 0 v10 fun v14 =>
load1 v14 h13 fun v15 =>
intS .neq v15 (ii 0) fun v16 =>
ifS v16 (
bindS (bldStruct h13 [] (.agg [.nilSlice, .nilSlice]) (some [(0, 1), (1, 1)])) fun v17 h18 =>
bindS (bldStruct h18 [(0, (ii 99))] (.agg [(ii 0), (ii 0)]) (some [(0, 1), (1, 1)])) fun v19 h20 =>
storeN 2 v0 v17 h20 fun h21 =>
storeN 2 v2 v19 h21 fun h22 =>
loadN 2 v0 h22 fun v23 =>
loadN 2 v2 h22 fun v24 =>
some (.tuple [v23, v24], h22)) (
loadN 2 v8 h13 fun v25 =>
bindS (ih 12 [v25] h13) fun v26 h27 =>
extS 0 v26 fun v28 =>
extS 1 v26 fun v29 =>
storeN 2 v0 v28 h27 fun h30 =>
storeN 2 v2 v29 h30 fun h31 =>
loadN 2 v0 h31 fun v32 =>
loadN 2 v2 h31 fun v33 =>
some (.tuple [v32, v33], h31))
noncomputable def G24 : Sh := fun ih vs h => consE (fun a0 => nilE (B24 ih a0 h)) vs
noncomputable def B38 (ih : II) (a0 a1 : V) (h : Hp) : VH :=
intS .eql a1 (ii 0) fun v0 =>
ifS v0 (
some ((.str ⟨0, 0⟩), h)) (
intS .eql a1 (ii 1) fun v1 =>
ifS v1 (
some (a0, h)) (
intS .lss a1 (ii 0) fun v2 =>
ifS v2 (
none) (
ih 5 [a0, a1] h)))
noncomputable def G38 : Sh := fun ih vs h => consE (fun a0 => consE (fun a1 => nilE (B38 ih a0 a1 h))) vs
noncomputable def B36 (ih : II) (a0 : V) (h : Hp) : VH :=
bindS (ih 38 [(.str ⟨8, 2333181731817090924⟩), a0] h) fun v0 h1 =>
some (v0, h1)
noncomputable def G36 : Sh := fun ih vs h => consE (fun a0 => nilE (B36 ih a0 h)) vs
noncomputable def B40 (ih : II) (a0 : V) (h : Hp) : VH :=
ih 17 [a0, (.str ⟨0, 0⟩), (.str ⟨0, 0⟩), (ii 0)] h
noncomputable def G40 : Sh := fun ih vs h => consE (fun a0 => nilE (B40 ih a0 h)) vs
noncomputable def B17 (ih : II) (a0 a3 a4 a5 : V) (h : Hp) : VH :=
intS .lss a5 a0 fun v0 =>
ifS v0 (
intS .quo a5 (ii 26) fun v1 =>
intS .add (ii 97) v1 fun v2 =>
convI .u8 v2 fun v3 =>
intS .rem a5 (ii 26) fun v4 =>
intS .add (ii 97) v4 fun v5 =>
convI .u8 v5 fun v6 =>
bindS (bldSl h [(0, v3), (1, v6)] 5 2 1 (uu 0)) fun v7 h8 =>
bindS (vh h8 (b2s h8 v7)) fun v9 h10 =>
strS .add (.str ⟨1, 118⟩) v9 fun v11 =>
strS .add a3 (.str ⟨6, 35649862463340⟩) fun v12 =>
strS .add v12 v11 fun v13 =>
strS .add v13 (.str ⟨1, 10⟩) fun v14 =>
strS .add a4 v11 fun v15 =>
strS .add v15 (.str ⟨3, 2697226⟩) fun v16 =>
intS .add a5 (ii 1) fun v17 =>
ih 17 [a0, v14, v16, v17] h10) (
strS .add a3 (.str ⟨13, 2548038925171553294055820391782⟩) fun v18 =>
strS .add v18 a4 fun v19 =>
strS .add v19 (.str ⟨4, 1684956448⟩) fun v20 =>
some (v20, h))
noncomputable def G17 : Sh := fun ih vs h => consE (fun a0 => consE (fun a3 => consE (fun a4 => consE (fun a5 => nilE (B17 ih a0 a3 a4 a5 h))))) vs
noncomputable def B46 (ih : II) (a0 a1 : V) (h : Hp) : VH :=
newS 41 (vcells a0) h fun v0 h1 =>
newS 41 (vcells a1) h1 fun v2 h3 =>
addrS 0 v0 fun v4 =>
load1 v4 h3 fun v5 =>
addrS 0 v2 fun v6 =>
load1 v6 h3 fun v7 =>
intS .neq v5 v7 fun v8 =>
guardS v8 false (addrS 1 v0 fun v9 =>
load1 v9 h3 fun v10 =>
addrS 1 v2 fun v11 =>
load1 v11 h3 fun v12 =>
eqS .bool .neq v10 v12 fun v13 =>
some (v13, h3)) h3 fun v14 h15 =>
optS (pickV v8 (.bool true) v14) fun v16 =>
guardS v16 false (addrS 2 v0 fun v17 =>
load1 v17 h15 fun v18 =>
addrS 2 v2 fun v19 =>
load1 v19 h15 fun v20 =>
intS .neq v18 v20 fun v21 =>
some (v21, h15)) h15 fun v22 h23 =>
optS (pickV v16 (.bool true) v22) fun v24 =>
guardS v24 false (addrS 7 v0 fun v25 =>
load1 v25 h23 fun v26 =>
addrS 7 v2 fun v27 =>
load1 v27 h23 fun v28 =>
intS .neq v26 v28 fun v29 =>
some (v29, h23)) h23 fun v30 h31 =>
optS (pickV v24 (.bool true) v30) fun v32 =>
guardS v32 false (addrS 3 v0 fun v33 =>
load1 v33 h31 fun v34 =>
lenSl v34 fun v35 =>
addrS 3 v2 fun v36 =>
load1 v36 h31 fun v37 =>
lenSl v37 fun v38 =>
intS .neq v35 v38 fun v39 =>
some (v39, h31)) h31 fun v40 h41 =>
optS (pickV v32 (.bool true) v40) fun v42 =>
guardS v42 false (addrS 4 v0 fun v43 =>
load1 v43 h41 fun v44 =>
lenSl v44 fun v45 =>
addrS 4 v2 fun v46 =>
load1 v46 h41 fun v47 =>
lenSl v47 fun v48 =>
intS .neq v45 v48 fun v49 =>
some (v49, h41)) h41 fun v50 h51 =>
optS (pickV v42 (.bool true) v50) fun v52 =>
guardS v52 false (addrS 5 v0 fun v53 =>
load1 v53 h51 fun v54 =>
lenSl v54 fun v55 =>
addrS 5 v2 fun v56 =>
load1 v56 h51 fun v57 =>
lenSl v57 fun v58 =>
intS .neq v55 v58 fun v59 =>
some (v59, h51)) h51 fun v60 h61 =>
optS (pickV v52 (.bool true) v60) fun v62 =>
guardS v62 false (addrS 6 v0 fun v63 =>
load1 v63 h61 fun v64 =>
lenSl v64 fun v65 =>
addrS 6 v2 fun v66 =>
load1 v66 h61 fun v67 =>
lenSl v67 fun v68 =>
intS .neq v65 v68 fun v69 =>
some (v69, h61)) h61 fun v70 h71 =>
optS (pickV v62 (.bool true) v70) fun v72 =>
ifS v72 (
some ((.bool false), h71)) (
ih 19 [v0, v2, (ii 0)] h71)
noncomputable def G46 : Sh := fun ih vs h => consE (fun a0 => consE (fun a1 => nilE (B46 ih a0 a1 h))) vs
noncomputable def B19 (ih : II) (a2 a3 a5 : V) (h : Hp) : VH :=
addrS 3 a2 fun v73 =>
load1 v73 h fun v74 =>
lenSl v74 fun v75 =>
intS .lss a5 v75 fun v76 =>
ifS v76 (
addrS 3 a2 fun v77 =>
load1 v77 h fun v78 =>
idxS 1 v78 a5 fun v79 =>
load1 v79 h fun v80 =>
addrS 3 a3 fun v81 =>
load1 v81 h fun v82 =>
idxS 1 v82 a5 fun v83 =>
load1 v83 h fun v84 =>
eqS .bool .neq v80 v84 fun v85 =>
ifS v85 (
some ((.bool false), h)) (
intS .add a5 (ii 1) fun v86 =>
ih 19 [a2, a3, v86] h)) (
ih 21 [a2, a3, (ii 0)] h)
noncomputable def G19 : Sh := fun ih vs h => consE (fun a2 => consE (fun a3 => consE (fun a5 => nilE (B19 ih a2 a3 a5 h)))) vs
noncomputable def B21 (ih : II) (a2 a3 a6 : V) (h : Hp) : VH :=
addrS 4 a2 fun v87 =>
load1 v87 h fun v88 =>
lenSl v88 fun v89 =>
intS .lss a6 v89 fun v90 =>
ifS v90 (
addrS 4 a2 fun v91 =>
load1 v91 h fun v92 =>
idxS 2 v92 a6 fun v93 =>
loadN 2 v93 h fun v94 =>
addrS 4 a3 fun v95 =>
load1 v95 h fun v96 =>
idxS 2 v96 a6 fun v97 =>
loadN 2 v97 h fun v98 =>
bindS (vh h (eqOp .neq (cmpV [(0, .bool), (1, .int .i64)] v94 v98))) fun v99 h100 =>
ifS v99 (
some ((.bool false), h100)) (
intS .add a6 (ii 1) fun v101 =>
ih 21 [a2, a3, v101] h100)) (
ih 23 [a2, a3, (ii 0)] h)
noncomputable def G21 : Sh := fun ih vs h => consE (fun a2 => consE (fun a3 => consE (fun a6 => nilE (B21 ih a2 a3 a6 h)))) vs
noncomputable def B23 (ih : II) (a2 a3 a7 : V) (h : Hp) : VH :=
addrS 5 a2 fun v102 =>
load1 v102 h fun v103 =>
lenSl v103 fun v104 =>
intS .lss a7 v104 fun v105 =>
ifS v105 (
addrS 5 a2 fun v106 =>
load1 v106 h fun v107 =>
idxS 7 v107 a7 fun v108 =>
loadN 7 v108 h fun v109 =>
addrS 5 a3 fun v110 =>
load1 v110 h fun v111 =>
idxS 7 v111 a7 fun v112 =>
loadN 7 v112 h fun v113 =>
bindS (ih 84 [v109, v113] h) fun v114 h115 =>
notS v114 fun v116 =>
ifS v116 (
some ((.bool false), h115)) (
intS .add a7 (ii 1) fun v117 =>
ih 23 [a2, a3, v117] h115)) (
ih 25 [a2, a3, (ii 0)] h)
noncomputable def G23 : Sh := fun ih vs h => consE (fun a2 => consE (fun a3 => consE (fun a7 => nilE (B23 ih a2 a3 a7 h)))) vs
noncomputable def B25 (ih : II) (a2 a3 a8 : V) (h : Hp) : VH :=
addrS 6 a2 fun v118 =>
load1 v118 h fun v119 =>
lenSl v119 fun v120 =>
intS .lss a8 v120 fun v121 =>
ifS v121 (
addrS 6 a2 fun v122 =>
load1 v122 h fun v123 =>
idxS 3 v123 a8 fun v124 =>
addrS 0 v124 fun v125 =>
load1 v125 h fun v126 =>
addrS 6 a3 fun v127 =>
load1 v127 h fun v128 =>
idxS 3 v128 a8 fun v129 =>
addrS 0 v129 fun v130 =>
load1 v130 h fun v131 =>
intS .neq v126 v131 fun v132 =>
guardS v132 false (addrS 6 a2 fun v133 =>
some (v133, h)) h fun v134 _ =>
guardS v132 false (load1 v134 h fun v135 =>
some (v135, h)) h fun v136 _ =>
guardS v132 false (some (a8, h)) h fun v137 _ =>
guardS v132 false (idxS 3 v136 v137 fun v138 =>
some (v138, h)) h fun v139 _ =>
guardS v132 false (addrS 1 v139 fun v140 =>
some (v140, h)) h fun v141 _ =>
guardS v132 false (load1 v141 h fun v142 =>
some (v142, h)) h fun v143 _ =>
guardS v132 false (addrS 6 a3 fun v144 =>
some (v144, h)) h fun v145 _ =>
guardS v132 false (load1 v145 h fun v146 =>
some (v146, h)) h fun v147 _ =>
guardS v132 false (some (a8, h)) h fun v148 _ =>
guardS v132 false (idxS 3 v147 v148 fun v149 =>
some (v149, h)) h fun v150 _ =>
guardS v132 false (addrS 1 v150 fun v151 =>
some (v151, h)) h fun v152 _ =>
guardS v132 false (load1 v152 h fun v153 =>
some (v153, h)) h fun v154 _ =>
guardS v132 false (intS .neq v143 v154 fun v155 =>
some (v155, h)) h fun v156 _ =>
optS (pickV v132 (.bool true) v156) fun v157 =>
guardS v157 false (addrS 6 a2 fun v158 =>
some (v158, h)) h fun v159 _ =>
guardS v157 false (load1 v159 h fun v160 =>
some (v160, h)) h fun v161 _ =>
guardS v157 false (some (a8, h)) h fun v162 _ =>
guardS v157 false (idxS 3 v161 v162 fun v163 =>
some (v163, h)) h fun v164 _ =>
guardS v157 false (addrS 2 v164 fun v165 =>
some (v165, h)) h fun v166 _ =>
guardS v157 false (load1 v166 h fun v167 =>
some (v167, h)) h fun v168 _ =>
guardS v157 false (addrS 6 a3 fun v169 =>
some (v169, h)) h fun v170 _ =>
guardS v157 false (load1 v170 h fun v171 =>
some (v171, h)) h fun v172 _ =>
guardS v157 false (some (a8, h)) h fun v173 _ =>
guardS v157 false (idxS 3 v172 v173 fun v174 =>
some (v174, h)) h fun v175 _ =>
guardS v157 false (addrS 2 v175 fun v176 =>
some (v176, h)) h fun v177 _ =>
guardS v157 false (load1 v177 h fun v178 =>
some (v178, h)) h fun v179 _ =>
guardS v157 false (bindS (ih 86 [v168, v179] h) fun v180 h181 =>
notS v180 fun v182 =>
some (v182, h181)) h fun v183 h184 =>
optS (pickV v157 (.bool true) v183) fun v185 =>
ifS v185 (
some ((.bool false), h184)) (
intS .add a8 (ii 1) fun v186 =>
ih 25 [a2, a3, v186] h184)) (
some ((.bool true), h))
noncomputable def G25 : Sh := fun ih vs h => consE (fun a2 => consE (fun a3 => consE (fun a8 => nilE (B25 ih a2 a3 a8 h)))) vs
noncomputable def B44 (ih : II) (a0 a1 : V) (h : Hp) : VH :=
lenSl a0 fun v0 =>
lenSl a1 fun v1 =>
intS .neq v0 v1 fun v2 =>
ifS v2 (
some ((.bool false), h)) (
ih 27 [a0, a1, (ii 0)] h)
noncomputable def G44 : Sh := fun ih vs h => consE (fun a0 => consE (fun a1 => nilE (B44 ih a0 a1 h))) vs
noncomputable def B27 (ih : II) (a0 a1 a5 : V) (h : Hp) : VH :=
lenSl a0 fun v3 =>
intS .lss a5 v3 fun v4 =>
ifS v4 (
idxS 1 a0 a5 fun v5 =>
load1 v5 h fun v6 =>
idxS 1 a1 a5 fun v7 =>
load1 v7 h fun v8 =>
strS .neq v6 v8 fun v9 =>
ifS v9 (
some ((.bool false), h)) (
intS .add a5 (ii 1) fun v10 =>
ih 27 [a0, a1, v10] h)) (
some ((.bool true), h))
noncomputable def G27 : Sh := fun ih vs h => consE (fun a0 => consE (fun a1 => consE (fun a5 => nilE (B27 ih a0 a1 a5 h)))) vs
noncomputable def B12 (ih : II) (a0 : V) (h : Hp) : VH :=
newS 24 (vcells a0) h fun v0 h1 =>
newS 29 [.nilSlice, .nilSlice] h1 fun v2 h3 =>
newS 32 [(ii 0), (ii 0)] h3 fun v4 h5 =>
loadN 2 v0 h5 fun v6 =>
bindS (ih 28 [v6] h5) fun v7 h8 =>
notS v7 fun v9 =>
ifS v9 (
bindS (bldStruct h8 [] (.agg [.nilSlice, .nilSlice]) (some [(0, 1), (1, 1)])) fun v10 h11 =>
bindS (bldStruct h11 [(0, (ii 50))] (.agg [(ii 0), (ii 0)]) (some [(0, 1), (1, 1)])) fun v12 h13 =>
storeN 2 v2 v10 h13 fun h14 =>
storeN 2 v4 v12 h14 fun h15 =>
loadN 2 v2 h15 fun v16 =>
loadN 2 v4 h15 fun v17 =>
some (.tuple [v16, v17], h15)) (
loadN 2 v0 h8 fun v18 =>
bindS (bldStruct (h8.new (.map [])) [(0, v18), (2, (.map h8.n))] (.agg [.nilSlice, (ii 0), .nilSlice, .nilSlice, .nilMap, .nilSlice, .nilSlice, .nilSlice, (ii 0), (ii 0)]) (some [(0, 2), (2, 2), (4, 1), (5, 1), (6, 1), (7, 1), (8, 2)])) fun v19 h20 =>
newS 60 (vcells v19) h20 fun v21 h22 =>
addrS 0 v0 fun v23 =>
load1 v23 h22 fun v24 =>
addrS 1 v0 fun v25 =>
load1 v25 h22 fun v26 =>
idxS 6 v24 v26 fun v27 =>
loadN 6 v27 h22 fun v28 =>
bindS (ih 30 [v21, v28] h22) fun v29 h30 =>
nilS v21 fun v31 =>
addrS 8 v31 fun v32 =>
loadN 2 v32 h30 fun v33 =>
bindS (bldStruct h30 [] (.agg [(ii 0), (ii 0)]) (some [(0, 1), (1, 1)])) fun v34 h35 =>
bindS (vh h35 (eqOp .eql (cmpV [(0, .int .i64), (1, .int .i64)] v33 v34))) fun v36 h37 =>
ifS v36 (
nilS v21 fun v38 =>
addrS 7 v38 fun v39 =>
load1 v39 h37 fun v40 =>
lenSl v40 fun v41 =>
ih 31 [v2, v4, v21, v40, v41, (ii 0)] h37) (
ih 29 [v2, v4, v21] h37))
noncomputable def G12 : Sh := fun ih vs h => consE (fun a0 => nilE (B12 ih a0 h)) vs
noncomputable def B29 (ih : II) (a2 a3 a4 : V) (h : Hp) : VH :=
nilS a4 fun v42 =>
addrS 8 v42 fun v43 =>
loadN 2 v43 h fun v44 =>
bindS (bldStruct h [] (.agg [(ii 0), (ii 0)]) (some [(0, 1), (1, 1)])) fun v45 h46 =>
bindS (vh h46 (eqOp .neq (cmpV [(0, .int .i64), (1, .int .i64)] v44 v45))) fun v47 h48 =>
ifS v47 (
bindS (bldStruct h48 [] (.agg [.nilSlice, .nilSlice]) (some [(0, 1), (1, 1)])) fun v49 h50 =>
nilS a4 fun v51 =>
addrS 8 v51 fun v52 =>
loadN 2 v52 h48 fun v53 =>
ptrE a2 fun b54 o55 => storeB (storeO Tryz.prog h48 29 b54 o55 v49) fun c56 =>
cD (offP v52 b54 && true) (
storeN 2 a3 v53 (h48.put b54 c56) fun h57 =>
loadN 2 a2 h57 fun v58 =>
loadN 2 a3 h57 fun v59 =>
some (.tuple [v58, v59], h57)) none) (
nilS a4 fun v60 =>
addrS 6 v60 fun v61 =>
load1 v61 h48 fun v62 =>
lenSl v62 fun v63 =>
ih 33 [a2, a3, a4, v62, v63, (ii 0)] h48)
noncomputable def G29 : Sh := fun ih vs h => consE (fun a2 => consE (fun a3 => consE (fun a4 => nilE (B29 ih a2 a3 a4 h)))) vs
noncomputable def B31 (ih : II) (a2 a3 a4 a35 a36 a37 : V) (h : Hp) : VH :=
intS .lss a37 a36 fun v64 =>
ifS v64 (
idxS 6 a35 a37 fun v65 =>
loadN 6 v65 h fun v66 =>
newS 68 [.nilPtr, (.str ⟨0, 0⟩), (ii 0), (ii 0), (ii 0), .nilSlice] h fun v67 h68 =>
storeN 6 v67 v66 h68 fun h69 =>
loadN 6 v67 h69 fun v70 =>
bindS (ih 32 [a4, v70] h69) fun v71 h72 =>
intS .add a37 (ii 1) fun v73 =>
ih 31 [a2, a3, a4, a35, a36, v73] h72) (
ih 29 [a2, a3, a4] h)
noncomputable def G31 : Sh := fun ih vs h => consE (fun a2 => consE (fun a3 => consE (fun a4 => consE (fun a35 => consE (fun a36 => consE (fun a37 => nilE (B31 ih a2 a3 a4 a35 a36 a37 h))))))) vs
noncomputable def B33 (ih : II) (a2 a3 a4 a59 a60 a61 : V) (h : Hp) : VH :=
intS .lss a61 a60 fun v74 =>
ifS v74 (
idxS 1 a59 a61 fun v75 =>
load1 v75 h fun v76 =>
nilS a4 fun v77 =>
addrS 2 v77 fun v78 =>
addrS 1 v78 fun v79 =>
load1 v79 h fun v80 =>
nilS v76 fun v81 =>
addrS 0 v81 fun v82 =>
loadN 8 v82 h fun v83 =>
bindS (bldSl ⟨h.t, h.n, h.n⟩ [(0, v83)] 41 1 8 (.agg [(ii 0), (.bool false), (ii 0), .nilSlice, .nilSlice, .nilSlice, .nilSlice, (ii 0)])) fun v84 h85 =>
madeS h.n h.low h85 fun h86 =>
bindS (appS 41 128 8 v80 v84 ⟨h86.t, h86.n, h86.n⟩) fun v87 h88 =>
wroteS h86.low h88 fun h89 =>
nilS a4 fun v90 =>
addrS 2 v90 fun v91 =>
addrS 1 v91 fun v92 =>
storeC v92 v87 h89 fun h93 =>
intS .add a61 (ii 1) fun v94 =>
ih 33 [a2, a3, a4, a59, a60, v94] h93) (
nilS a4 fun v95 =>
addrS 2 v95 fun v96 =>
loadN 2 v96 h fun v97 =>
bindS (bldStruct h [] (.agg [(ii 0), (ii 0)]) (some [(0, 1), (1, 1)])) fun v98 h99 =>
storeN 2 a2 v97 h99 fun h100 =>
storeN 2 a3 v98 h100 fun h101 =>
loadN 2 a2 h101 fun v102 =>
loadN 2 a3 h101 fun v103 =>
some (.tuple [v102, v103], h101))
noncomputable def G33 : Sh := fun ih vs h => consE (fun a2 => consE (fun a3 => consE (fun a4 => consE (fun a59 => consE (fun a60 => consE (fun a61 => nilE (B33 ih a2 a3 a4 a59 a60 a61 h))))))) vs
noncomputable def B42 (ih : II) (a0 : V) (h : Hp) : VH :=
newS 24 [.nilSlice, (ii 0)] h fun v0 h1 =>
newS 32 [(ii 0), (ii 0)] h1 fun v2 h3 =>
bindS (ih 72 [a0] h3) fun v4 h5 =>
extS 0 v4 fun v6 =>
extS 1 v4 fun v7 =>
newS 32 [(ii 0), (ii 0)] h5 fun v8 h9 =>
storeN 2 v8 v7 h9 fun h10 =>
addrS 0 v8 fun v11 =>
load1 v11 h10 fun v12 =>
intS .neq v12 (ii 0) fun v13 =>
ifS v13 (
bindS (bldStruct h10 [] (.agg [.nilSlice, (ii 0)]) (some [(0, 1), (1, 1)])) fun v14 h15 =>
loadN 2 v8 h10 fun v16 =>
ptrE v0 fun b17 o18 => storeB (storeO Tryz.prog h10 24 b17 o18 v14) fun c19 =>
cD (offP v8 b17 && true) (
storeN 2 v2 v16 (h10.put b17 c19) fun h20 =>
loadN 2 v0 h20 fun v21 =>
loadN 2 v2 h20 fun v22 =>
some (.tuple [v21, v22], h20)) none) (
bindS (bldStruct h10 [(0, v6)] (.agg [.nilSlice, .nilSlice, (ii 0), (ii 0)]) (some [(0, 1), (1, 1), (2, 2)])) fun v23 h24 =>
newS 123 (vcells v23) h24 fun v25 h26 =>
bindS (ih 74 [v25, (ii 1)] h26) fun v27 h28 =>
bindS (ih 76 [v25, (uu 6)] h28) fun v29 h30 =>
notS v29 fun v31 =>
ifS v31 (
bindS (ih 78 [v25, (ii 40)] h30) fun v32 h33 =>
ih 35 [v0, v2, v25, v27] h33) (
ih 35 [v0, v2, v25, v27] h30))
noncomputable def G42 : Sh := fun ih vs h => consE (fun a0 => nilE (B42 ih a0 h)) vs
noncomputable def B35 (ih : II) (a2 a3 a6 a7 : V) (h : Hp) : VH :=
bindS (bldSl h [(0, a7)] 3 1 1 (ii 0)) fun v34 h35 =>
bindS (bldStruct h35 [(0, (uu 26)), (1, (ii 1)), (4, v34), (5, (ii 1))] (.agg [(uu 0), (ii 0), (.str ⟨0, 0⟩), .nilSlice, .nilSlice, (ii 0)]) (some [(0, 1), (1, 1), (2, 1), (3, 1), (4, 1), (5, 1)])) fun v36 h37 =>
bindS (ih 80 [a6, v36] h37) fun v38 h39 =>
bindS (ih 82 [a6] h39) fun v40 h41 =>
ifS v40 (
bindS (bldStruct h41 [] (.agg [.nilSlice, (ii 0)]) (some [(0, 1), (1, 1)])) fun v42 h43 =>
nilS a6 fun v44 =>
addrS 2 v44 fun v45 =>
loadN 2 v45 h41 fun v46 =>
ptrE a2 fun b47 o48 => storeB (storeO Tryz.prog h41 24 b47 o48 v42) fun c49 =>
cD (offP v45 b47 && true) (
storeN 2 a3 v46 (h41.put b47 c49) fun h50 =>
loadN 2 a2 h50 fun v51 =>
loadN 2 a3 h50 fun v52 =>
some (.tuple [v51, v52], h50)) none) (
nilS a6 fun v53 =>
addrS 1 v53 fun v54 =>
load1 v54 h41 fun v55 =>
bindS (bldStruct h41 [(0, v55), (1, v38)] (.agg [.nilSlice, (ii 0)]) (some [(0, 1), (1, 1)])) fun v56 h57 =>
bindS (bldStruct h57 [] (.agg [(ii 0), (ii 0)]) (some [(0, 1), (1, 1)])) fun v58 h59 =>
storeN 2 a2 v56 h59 fun h60 =>
storeN 2 a3 v58 h60 fun h61 =>
loadN 2 a2 h61 fun v62 =>
loadN 2 a3 h61 fun v63 =>
some (.tuple [v62, v63], h61))
noncomputable def G35 : Sh := fun ih vs h => consE (fun a2 => consE (fun a3 => consE (fun a6 => consE (fun a7 => nilE (B35 ih a2 a3 a6 a7 h))))) vs
noncomputable def B86 (ih : II) (a0 a1 : V) (h : Hp) : VH :=
lenSl a0 fun v0 =>
lenSl a1 fun v1 =>
intS .neq v0 v1 fun v2 =>
ifS v2 (
some ((.bool false), h)) (
ih 39 [a0, a1, (ii 0)] h)
noncomputable def G86 : Sh := fun ih vs h => consE (fun a0 => consE (fun a1 => nilE (B86 ih a0 a1 h))) vs
noncomputable def B39 (ih : II) (a0 a1 a5 : V) (h : Hp) : VH :=
lenSl a0 fun v3 =>
intS .lss a5 v3 fun v4 =>
ifS v4 (
idxS 1 a0 a5 fun v5 =>
load1 v5 h fun v6 =>
idxS 1 a1 a5 fun v7 =>
load1 v7 h fun v8 =>
intS .neq v6 v8 fun v9 =>
ifS v9 (
some ((.bool false), h)) (
intS .add a5 (ii 1) fun v10 =>
ih 39 [a0, a1, v10] h)) (
some ((.bool true), h))
noncomputable def G39 : Sh := fun ih vs h => consE (fun a0 => consE (fun a1 => consE (fun a5 => nilE (B39 ih a0 a1 a5 h)))) vs
noncomputable def B84 (ih : II) (a0 a1 : V) (h : Hp) : VH :=
newS 50 (vcells a0) h fun v0 h1 =>
newS 50 (vcells a1) h1 fun v2 h3 =>
addrS 0 v0 fun v4 =>
load1 v4 h3 fun v5 =>
addrS 0 v2 fun v6 =>
load1 v6 h3 fun v7 =>
intS .eql v5 v7 fun v8 =>
guardS v8 true (addrS 1 v0 fun v9 =>
load1 v9 h3 fun v10 =>
addrS 1 v2 fun v11 =>
load1 v11 h3 fun v12 =>
bindS (ih 86 [v10, v12] h3) fun v13 h14 =>
some (v13, h14)) h3 fun v15 h16 =>
optS (pickV v8 v15 (.bool false)) fun v17 =>
guardS v17 true (addrS 2 v0 fun v18 =>
load1 v18 h16 fun v19 =>
addrS 2 v2 fun v20 =>
load1 v20 h16 fun v21 =>
bindS (ih 86 [v19, v21] h16) fun v22 h23 =>
some (v22, h23)) h16 fun v24 h25 =>
optS (pickV v17 v24 (.bool false)) fun v26 =>
guardS v26 true (addrS 3 v0 fun v27 =>
load1 v27 h25 fun v28 =>
addrS 3 v2 fun v29 =>
load1 v29 h25 fun v30 =>
bindS (ih 86 [v28, v30] h25) fun v31 h32 =>
some (v31, h32)) h25 fun v33 h34 =>
optS (pickV v26 v33 (.bool false)) fun v35 =>
guardS v35 true (addrS 4 v0 fun v36 =>
load1 v36 h34 fun v37 =>
addrS 4 v2 fun v38 =>
load1 v38 h34 fun v39 =>
intS .eql v37 v39 fun v40 =>
some (v40, h34)) h34 fun v41 h42 =>
optS (pickV v35 v41 (.bool false)) fun v43 =>
guardS v43 true (addrS 5 v0 fun v44 =>
load1 v44 h42 fun v45 =>
addrS 5 v2 fun v46 =>
load1 v46 h42 fun v47 =>
intS .eql v45 v47 fun v48 =>
some (v48, h42)) h42 fun v49 h50 =>
optS (pickV v43 v49 (.bool false)) fun v51 =>
guardS v51 true (addrS 6 v0 fun v52 =>
load1 v52 h50 fun v53 =>
addrS 6 v2 fun v54 =>
load1 v54 h50 fun v55 =>
intS .eql v53 v55 fun v56 =>
some (v56, h50)) h50 fun v57 h58 =>
optS (pickV v51 v57 (.bool false)) fun v59 =>
some (v59, h58)
noncomputable def G84 : Sh := fun ih vs h => consE (fun a0 => consE (fun a1 => nilE (B84 ih a0 a1 h))) vs
noncomputable def B32 (ih : II) (a0 a1 : V) (h : Hp) : VH :=
newS 68 (vcells a1) h fun v0 h1 =>
addrS 0 v0 fun v2 =>
load1 v2 h1 fun v3 =>
addrS 5 v0 fun v4 =>
load1 v4 h1 fun v5 =>
lenSl v5 fun v6 =>
intS .sub v6 (ii 1) fun v7 =>
ih 41 [a0, v0, v3, v7] h1
noncomputable def G32 : Sh := fun ih vs h => consE (fun a0 => consE (fun a1 => nilE (B32 ih a0 a1 h))) vs
noncomputable def B41 (ih : II) (a0 a3 a4 a5 : V) (h : Hp) : VH :=
intS .geq a5 (ii 0) fun v8 =>
ifS v8 (
addrS 5 a3 fun v9 =>
load1 v9 h fun v10 =>
idxS 1 v10 a5 fun v11 =>
load1 v11 h fun v12 =>
nilS v12 fun v13 =>
addrS 0 v13 fun v14 =>
load1 v14 h fun v15 =>
lenSl v15 fun v16 =>
ih 43 [a0, a3, a4, a5, v15, v16, (ii 0)] h) (
addrS 3 a3 fun v17 =>
load1 v17 h fun v18 =>
bindS (ih 54 [a0, (ii 42), v18] h) fun v19 h20 =>
some (.tuple [], h20))
noncomputable def G41 : Sh := fun ih vs h => consE (fun a0 => consE (fun a3 => consE (fun a4 => consE (fun a5 => nilE (B41 ih a0 a3 a4 a5 h))))) vs
noncomputable def B43 (ih : II) (a0 a3 a4 a5 a26 a27 a28 : V) (h : Hp) : VH :=
intS .lss a28 a27 fun v21 =>
ifS v21 (
idxS 3 a26 a28 fun v22 =>
loadN 3 v22 h fun v23 =>
newS 103 [(.str ⟨0, 0⟩), (ii 0), (ii 0)] h fun v24 h25 =>
storeN 3 v24 v23 h25 fun h26 =>
addrS 0 v24 fun v27 =>
load1 v27 h26 fun v28 =>
addrS 1 a3 fun v29 =>
load1 v29 h26 fun v30 =>
strS .neq v28 v30 fun v31 =>
ifS v31 (
intS .add a28 (ii 1) fun v32 =>
ih 43 [a0, a3, a4, a5, a26, a27, v32] h26) (
addrS 4 a3 fun v33 =>
load1 v33 h26 fun v34 =>
intS .add a5 (ii 1) fun v35 =>
addrS 5 a3 fun v36 =>
load1 v36 h26 fun v37 =>
lenSl v37 fun v38 =>
intS .lss v35 v38 fun v39 =>
ifS v39 (
addrS 5 a3 fun v40 =>
load1 v40 h26 fun v41 =>
intS .add a5 (ii 1) fun v42 =>
idxS 1 v41 v42 fun v43 =>
load1 v43 h26 fun v44 =>
nilS v44 fun v45 =>
addrS 1 v45 fun v46 =>
load1 v46 h26 fun v47 =>
ih 45 [a0, a3, a4, v24, v47] h26) (
ih 45 [a0, a3, a4, v24, v34] h26))) (
intS .sub a5 (ii 1) fun v48 =>
ih 41 [a0, a3, a4, v48] h)
noncomputable def G43 : Sh := fun ih vs h => consE (fun a0 => consE (fun a3 => consE (fun a4 => consE (fun a5 => consE (fun a26 => consE (fun a27 => consE (fun a28 => nilE (B43 ih a0 a3 a4 a5 a26 a27 a28 h)))))))) vs
noncomputable def B45 (ih : II) (a0 a3 a4 a7 a8 : V) (h : Hp) : VH :=
addrS 1 a7 fun v49 =>
load1 v49 h fun v50 =>
addrS 2 a3 fun v51 =>
load1 v51 h fun v52 =>
intS .gtr v50 v52 fun v53 =>
guardS v53 true (addrS 2 a7 fun v54 =>
load1 v54 h fun v55 =>
intS .gtr v55 a8 fun v56 =>
some (v56, h)) h fun v57 h58 =>
optS (pickV v53 v57 (.bool false)) fun v59 =>
ifS v59 (
addrS 3 a3 fun v60 =>
load1 v60 h58 fun v61 =>
bindS (ih 54 [a0, (ii 44), v61] h58) fun v62 h63 =>
ih 47 [a3, a4, a7] h63) (
ih 47 [a3, a4, a7] h58)
noncomputable def G45 : Sh := fun ih vs h => consE (fun a0 => consE (fun a3 => consE (fun a4 => consE (fun a7 => consE (fun a8 => nilE (B45 ih a0 a3 a4 a7 a8 h)))))) vs
noncomputable def B47 (ih : II) (a3 a4 a7 : V) (h : Hp) : VH :=
nilS a4 fun v64 =>
addrS 0 v64 fun v65 =>
addrS 5 v65 fun v66 =>
load1 v66 h fun v67 =>
addrS 2 a3 fun v68 =>
load1 v68 h fun v69 =>
addrS 1 a7 fun v70 =>
load1 v70 h fun v71 =>
idxS 7 v67 v69 fun v72 =>
addrS 4 v72 fun v73 =>
storeC v73 v71 h fun h74 =>
addrS 1 a7 fun v75 =>
load1 v75 h74 fun v76 =>
nilS a4 fun v77 =>
addrS 0 v77 fun v78 =>
addrS 5 v78 fun v79 =>
load1 v79 h74 fun v80 =>
lenSl v80 fun v81 =>
intS .geq v76 v81 fun v82 =>
ifS v82 (
nilS a4 fun v83 =>
addrS 0 v83 fun v84 =>
addrS 5 v84 fun v85 =>
load1 v85 h74 fun v86 =>
addrS 2 a3 fun v87 =>
load1 v87 h74 fun v88 =>
idxS 7 v86 v88 fun v89 =>
addrS 4 v89 fun v90 =>
storeC v90 (.int .i64 (.negSucc 0)) h74 fun h91 =>
ih 49 [] h91) (
ih 49 [] h74)
noncomputable def G47 : Sh := fun ih vs h => consE (fun a3 => consE (fun a4 => consE (fun a7 => nilE (B47 ih a3 a4 a7 h)))) vs
noncomputable def B49 (ih : II) (h : Hp) : VH :=
some (.tuple [], h)
noncomputable def G49 : Sh := fun ih vs h => nilE (B49 ih  h) vs
noncomputable def B30 (ih : II) (a0 a1 : V) (h : Hp) : VH :=
newS 64 (vcells a1) h fun v0 h1 =>
nilS a0 fun v2 =>
addrS 6 v2 fun v3 =>
load1 v3 h1 fun v4 =>
lenSl v4 fun v5 =>
intS .eql v5 (ii 200) fun v6 =>
ifS v6 (
addrS 5 v0 fun v7 =>
load1 v7 h1 fun v8 =>
bindS (ih 54 [a0, (ii 3), v8] h1) fun v9 h10 =>
some ((ii 0), h10)) (
addrS 3 v0 fun v11 =>
load1 v11 h1 fun v12 =>
lenSl v12 fun v13 =>
addrS 1 v0 fun v14 =>
load1 v14 h1 fun v15 =>
intS .eql v15 (ii 1) fun v16 =>
bindS (bldStruct h1 [(0, v13), (1, v16)] (.agg [(ii 0), (.bool false), (ii 0), .nilSlice, .nilSlice, .nilSlice, .nilSlice, (ii 0)]) (some [(0, 1), (1, 1), (2, 1), (3, 1), (4, 1), (5, 1), (6, 1), (7, 1)])) fun v17 h18 =>
bindS (bldStruct h18 [(0, v17)] (.agg [(ii 0), (.bool false), (ii 0), .nilSlice, .nilSlice, .nilSlice, .nilSlice, (ii 0), .nilSlice, .nilSlice]) (some [(0, 8), (8, 1), (9, 1)])) fun v19 h20 =>
newS 72 (vcells v19) h20 fun v21 h22 =>
nilS a0 fun v23 =>
addrS 6 v23 fun v24 =>
load1 v24 h22 fun v25 =>
lenSl v25 fun v26 =>
nilS a0 fun v27 =>
addrS 6 v27 fun v28 =>
load1 v28 h22 fun v29 =>
bindS (bldSl h22 [(0, v21)] 65 1 1 .nilPtr) fun v30 h31 =>
bindS (appS 65 8 1 v29 v30 h31) fun v32 h33 =>
nilS a0 fun v34 =>
addrS 6 v34 fun v35 =>
storeC v35 v32 h33 fun h36 =>
nilS a0 fun v37 =>
addrS 5 v37 fun v38 =>
load1 v38 h36 fun v39 =>
bindS (bldSl h36 [(0, v21)] 65 1 1 .nilPtr) fun v40 h41 =>
bindS (appS 65 8 1 v39 v40 h41) fun v42 h43 =>
nilS a0 fun v44 =>
addrS 5 v44 fun v45 =>
storeC v45 v42 h43 fun h46 =>
addrS 3 v0 fun v47 =>
load1 v47 h46 fun v48 =>
lenSl v48 fun v49 =>
ih 51 [a0, v0, v21, v26, v48, v49, (ii 0)] h46)
noncomputable def G30 : Sh := fun ih vs h => consE (fun a0 => consE (fun a1 => nilE (B30 ih a0 a1 h))) vs
noncomputable def B51 (ih : II) (a0 a3 a5 a6 a58 a59 a60 : V) (h : Hp) : VH :=
intS .lss a60 a59 fun v50 =>
ifS v50 (
idxS 1 a58 a60 fun v51 =>
load1 v51 h fun v52 =>
addrS 5 a3 fun v53 =>
load1 v53 h fun v54 =>
bindS (ih 56 [a0, v52, v54] h) fun v55 h56 =>
intS .add a60 (ii 1) fun v57 =>
ih 51 [a0, a3, a5, a6, a58, a59, v57] h56) (
addrS 4 a3 fun v58 =>
load1 v58 h fun v59 =>
idxS 1 v59 (ii 0) fun v60 =>
load1 v60 h fun v61 =>
bindS (ih 58 [a0, v61, .nilPtr, .nilFunc] h) fun v62 h63 =>
nilS a5 fun v64 =>
addrS 0 v64 fun v65 =>
addrS 5 v65 fun v66 =>
load1 v66 h63 fun v67 =>
lenSl v67 fun v68 =>
intS .eql v68 (ii 0) fun v69 =>
ifS v69 (
nilS a5 fun v70 =>
addrS 0 v70 fun v71 =>
addrS 7 v71 fun v72 =>
storeC v72 (.int .i64 (.negSucc 0)) h63 fun h73 =>
ih 53 [a0, a5, a6] h73) (
ih 53 [a0, a5, a6] h63))
noncomputable def G51 : Sh := fun ih vs h => consE (fun a0 => consE (fun a3 => consE (fun a5 => consE (fun a6 => consE (fun a58 => consE (fun a59 => consE (fun a60 => nilE (B51 ih a0 a3 a5 a6 a58 a59 a60 h)))))))) vs
noncomputable def B53 (ih : II) (a0 a5 a6 : V) (h : Hp) : VH :=
nilS a5 fun v74 =>
addrS 0 v74 fun v75 =>
addrS 5 v75 fun v76 =>
load1 v76 h fun v77 =>
lenSl v77 fun v78 =>
ih 55 [a0, a5, a6, v78, (ii 0)] h
noncomputable def G53 : Sh := fun ih vs h => consE (fun a0 => consE (fun a5 => consE (fun a6 => nilE (B53 ih a0 a5 a6 h)))) vs
noncomputable def B55 (ih : II) (a0 a5 a6 a92 a93 : V) (h : Hp) : VH :=
intS .lss a93 a92 fun v79 =>
ifS v79 (
nilS a5 fun v80 =>
addrS 0 v80 fun v81 =>
addrS 5 v81 fun v82 =>
load1 v82 h fun v83 =>
idxS 7 v83 a93 fun v84 =>
nilS v84 fun v85 =>
addrS 4 v85 fun v86 =>
nilS v84 fun v87 =>
addrS 5 v87 fun v88 =>
bindS (bldSl ⟨h.t, h.n, h.n⟩ [(0, v86), (1, v88)] 95 2 1 .nilPtr) fun v89 h90 =>
madeS h.n h.low h90 fun h91 =>
lenSl v89 fun v92 =>
ih 57 [a0, a5, a6, a92, a93, v89, v92, (ii 0)] h91) (
nilS a0 fun v93 =>
addrS 5 v93 fun v94 =>
load1 v94 h fun v95 =>
nilS a0 fun v96 =>
addrS 5 v96 fun v97 =>
load1 v97 h fun v98 =>
lenSl v98 fun v99 =>
intS .sub v99 (ii 1) fun v100 =>
bindS (slSlK 65 1 none (some v100) h v95) fun v101 h102 =>
nilS a0 fun v103 =>
addrS 5 v103 fun v104 =>
storeC v104 v101 h fun h105 =>
some (a6, h105))
noncomputable def G55 : Sh := fun ih vs h => consE (fun a0 => consE (fun a5 => consE (fun a6 => consE (fun a92 => consE (fun a93 => nilE (B55 ih a0 a5 a6 a92 a93 h)))))) vs
noncomputable def B57 (ih : II) (a0 a5 a6 a92 a93 a109 a110 a111 : V) (h : Hp) : VH :=
intS .lss a111 a110 fun v106 =>
ifS v106 (
idxS 1 a109 a111 fun v107 =>
load1 v107 h fun v108 =>
nilS v108 fun v109 =>
load1 v109 h fun v110 =>
nilS a5 fun v111 =>
addrS 0 v111 fun v112 =>
addrS 5 v112 fun v113 =>
load1 v113 h fun v114 =>
lenSl v114 fun v115 =>
intS .geq v110 v115 fun v116 =>
ifS v116 (
nilS v108 fun v117 =>
storeC v117 (.int .i64 (.negSucc 0)) h fun h118 =>
ih 59 [a0, a5, a6, a92, a93, a109, a110, a111] h118) (
ih 59 [a0, a5, a6, a92, a93, a109, a110, a111] h)) (
intS .add a93 (ii 1) fun v119 =>
ih 55 [a0, a5, a6, a92, v119] h)
noncomputable def G57 : Sh := fun ih vs h => consE (fun a0 => consE (fun a5 => consE (fun a6 => consE (fun a92 => consE (fun a93 => consE (fun a109 => consE (fun a110 => consE (fun a111 => nilE (B57 ih a0 a5 a6 a92 a93 a109 a110 a111 h))))))))) vs
noncomputable def B59 (ih : II) (a0 a5 a6 a92 a93 a109 a110 a111 : V) (h : Hp) : VH :=
intS .add a111 (ii 1) fun v120 =>
ih 57 [a0, a5, a6, a92, a93, a109, a110, v120] h
noncomputable def G59 : Sh := fun ih vs h => consE (fun a0 => consE (fun a5 => consE (fun a6 => consE (fun a92 => consE (fun a93 => consE (fun a109 => consE (fun a110 => consE (fun a111 => nilE (B59 ih a0 a5 a6 a92 a93 a109 a110 a111 h))))))))) vs
noncomputable def B28 (ih : II) (a0 : V) (h : Hp) : VH :=
newS 24 (vcells a0) h fun v0 h1 =>
addrS 0 v0 fun v2 =>
load1 v2 h1 fun v3 =>
lenSl v3 fun v4 =>
intS .lss v4 (ii 1) fun v5 =>
guardS v5 false (addrS 0 v0 fun v6 =>
load1 v6 h1 fun v7 =>
lenSl v7 fun v8 =>
intS .gtr v8 (ii 4096) fun v9 =>
some (v9, h1)) h1 fun v10 h11 =>
optS (pickV v5 (.bool true) v10) fun v12 =>
guardS v12 false (addrS 1 v0 fun v13 =>
load1 v13 h11 fun v14 =>
intS .lss v14 (ii 0) fun v15 =>
some (v15, h11)) h11 fun v16 h17 =>
optS (pickV v12 (.bool true) v16) fun v18 =>
guardS v18 false (addrS 1 v0 fun v19 =>
load1 v19 h17 fun v20 =>
addrS 0 v0 fun v21 =>
load1 v21 h17 fun v22 =>
lenSl v22 fun v23 =>
intS .geq v20 v23 fun v24 =>
some (v24, h17)) h17 fun v25 h26 =>
optS (pickV v18 (.bool true) v25) fun v27 =>
ifS v27 (
some ((.bool false), h26)) (
addrS 0 v0 fun v28 =>
load1 v28 h26 fun v29 =>
addrS 1 v0 fun v30 =>
load1 v30 h26 fun v31 =>
idxS 6 v29 v31 fun v32 =>
loadN 6 v32 h26 fun v33 =>
newS 64 [(uu 0), (ii 0), (.str ⟨0, 0⟩), .nilSlice, .nilSlice, (ii 0)] h26 fun v34 h35 =>
storeN 6 v34 v33 h35 fun h36 =>
addrS 0 v34 fun v37 =>
load1 v37 h36 fun v38 =>
intS .neq v38 (uu 26) fun v39 =>
guardS v39 false (addrS 1 v34 fun v40 =>
load1 v40 h36 fun v41 =>
intS .neq v41 (ii 1) fun v42 =>
some (v42, h36)) h36 fun v43 h44 =>
optS (pickV v39 (.bool true) v43) fun v45 =>
guardS v45 false (addrS 3 v34 fun v46 =>
load1 v46 h44 fun v47 =>
lenSl v47 fun v48 =>
intS .neq v48 (ii 0) fun v49 =>
some (v49, h44)) h44 fun v50 h51 =>
optS (pickV v45 (.bool true) v50) fun v52 =>
ifS v52 (
some ((.bool false), h51)) (
addrS 0 v0 fun v53 =>
load1 v53 h51 fun v54 =>
lenSl v54 fun v55 =>
bindS (mkS 4 1 1 (.bool false) v55 v55 h51) fun v56 h57 =>
addrS 1 v0 fun v58 =>
load1 v58 h57 fun v59 =>
idxS 1 v56 v59 fun v60 =>
storeC v60 (.bool true) h57 fun h61 =>
loadN 2 v0 h61 fun v62 =>
bindS (bldStruct h61 [(0, v62)] (.agg [.nilSlice, (ii 0)]) (some [(0, 2)])) fun v63 h64 =>
newS 84 [.nilSlice, (ii 0)] h64 fun v65 h66 =>
storeN 2 v65 v63 h66 fun h67 =>
addrS 1 v0 fun v68 =>
load1 v68 h67 fun v69 =>
bindS (bldStruct h67 [(0, v69), (1, (ii 0))] (.agg [(ii 0), (ii 0)]) (some [(0, 1), (1, 1)])) fun v70 h71 =>
bindS (bldSl h71 [(0, v70)] 86 1 2 (.agg [(ii 0), (ii 0)])) fun v72 h73 =>
ih 61 [v0, v56, v65, v72] h73))
noncomputable def G28 : Sh := fun ih vs h => consE (fun a0 => nilE (B28 ih a0 h)) vs
noncomputable def B61 (ih : II) (a1 a4 a5 a6 : V) (h : Hp) : VH :=
lenSl a6 fun v74 =>
intS .gtr v74 (ii 0) fun v75 =>
ifS v75 (
lenSl a6 fun v76 =>
intS .sub v76 (ii 1) fun v77 =>
idxS 2 a6 v77 fun v78 =>
loadN 2 v78 h fun v79 =>
newS 86 [(ii 0), (ii 0)] h fun v80 h81 =>
storeN 2 v80 v79 h81 fun h82 =>
lenSl a6 fun v83 =>
intS .sub v83 (ii 1) fun v84 =>
bindS (slSlK 86 2 none (some v84) h82 a6) fun v85 h86 =>
addrS 0 a1 fun v87 =>
load1 v87 h86 fun v88 =>
addrS 0 v80 fun v89 =>
load1 v89 h86 fun v90 =>
idxS 6 v88 v90 fun v91 =>
loadN 6 v91 h86 fun v92 =>
newS 64 [(uu 0), (ii 0), (.str ⟨0, 0⟩), .nilSlice, .nilSlice, (ii 0)] h86 fun v93 h94 =>
storeN 6 v93 v92 h94 fun h95 =>
addrS 4 v93 fun v96 =>
load1 v96 h95 fun v97 =>
lenSl v97 fun v98 =>
ih 63 [a1, a4, a5, v85, v80, v93, v97, v98, (ii 0)] h95) (
bindS (ih 52 [a4, (.bool false)] h) fun v99 h100 =>
notS v99 fun v101 =>
some (v101, h100))
noncomputable def G61 : Sh := fun ih vs h => consE (fun a1 => consE (fun a4 => consE (fun a5 => consE (fun a6 => nilE (B61 ih a1 a4 a5 a6 h))))) vs
noncomputable def B63 (ih : II) (a1 a4 a5 a6 a7 a8 a89 a90 a91 : V) (h : Hp) : VH :=
intS .lss a91 a90 fun v102 =>
ifS v102 (
idxS 1 a89 a91 fun v103 =>
load1 v103 h fun v104 =>
intS .lss v104 (ii 0) fun v105 =>
guardS v105 false (lenSl a4 fun v106 =>
intS .geq v104 v106 fun v107 =>
some (v107, h)) h fun v108 h109 =>
optS (pickV v105 (.bool true) v108) fun v110 =>
guardS v110 false (idxS 1 a4 v104 fun v111 =>
load1 v111 h109 fun v112 =>
some (v112, h109)) h109 fun v113 h114 =>
optS (pickV v110 (.bool true) v113) fun v115 =>
ifS v115 (
some ((.bool false), h114)) (
idxS 1 a4 v104 fun v116 =>
storeC v116 (.bool true) h114 fun h117 =>
loadN 6 a8 h117 fun v118 =>
addrS 1 a7 fun v119 =>
load1 v119 h117 fun v120 =>
bindS (ih 48 [v118, a91, v120] h117) fun v121 h122 =>
bindS (bldStruct h122 [(0, v104), (1, v121)] (.agg [(ii 0), (ii 0)]) (some [(0, 1), (1, 1)])) fun v123 h124 =>
bindS (bldSl h124 [(0, v123)] 86 1 2 (.agg [(ii 0), (ii 0)])) fun v125 h126 =>
bindS (appS 86 16 2 a6 v125 h126) fun v127 h128 =>
intS .add a91 (ii 1) fun v129 =>
ih 63 [a1, a4, a5, v127, a7, a8, a89, a90, v129] h128)) (
addrS 1 a7 fun v130 =>
load1 v130 h fun v131 =>
intS .gtr v131 (ii 100) fun v132 =>
guardS v132 false (loadN 2 a5 h fun v133 =>
loadN 6 a8 h fun v134 =>
bindS (ih 50 [v133, v134] h) fun v135 h136 =>
notS v135 fun v137 =>
some (v137, h136)) h fun v138 h139 =>
optS (pickV v132 (.bool true) v138) fun v140 =>
ifS v140 (
some ((.bool false), h139)) (
ih 61 [a1, a4, a5, a6] h139))
noncomputable def G63 : Sh := fun ih vs h => consE (fun a1 => consE (fun a4 => consE (fun a5 => consE (fun a6 => consE (fun a7 => consE (fun a8 => consE (fun a89 => consE (fun a90 => consE (fun a91 => nilE (B63 ih a1 a4 a5 a6 a7 a8 a89 a90 a91 h)))))))))) vs
noncomputable def B82 (ih : II) (a0 : V) (h : Hp) : VH :=
nilS a0 fun v0 =>
addrS 2 v0 fun v1 =>
addrS 0 v1 fun v2 =>
load1 v2 h fun v3 =>
intS .neq v3 (ii 0) fun v4 =>
some (v4, h)
noncomputable def G82 : Sh := fun ih vs h => consE (fun a0 => nilE (B82 ih a0 h)) vs
noncomputable def B80 (ih : II) (a0 a1 : V) (h : Hp) : VH :=
newS 64 (vcells a1) h fun v0 h1 =>
bindS (ih 82 [a0] h1) fun v2 h3 =>
ifS v2 (
some ((ii 0), h3)) (
nilS a0 fun v4 =>
addrS 1 v4 fun v5 =>
load1 v5 h3 fun v6 =>
lenSl v6 fun v7 =>
intS .geq v7 (ii 4096) fun v8 =>
ifS v8 (
bindS (ih 78 [a0, (ii 3)] h3) fun v9 h10 =>
some ((ii 0), h10)) (
nilS a0 fun v11 =>
addrS 1 v11 fun v12 =>
load1 v12 h3 fun v13 =>
loadN 6 v0 h3 fun v14 =>
bindS (bldSl ⟨h3.t, h3.n, h3.n⟩ [(0, v14)] 64 1 6 (.agg [(uu 0), (ii 0), (.str ⟨0, 0⟩), .nilSlice, .nilSlice, (ii 0)])) fun v15 h16 =>
madeS h3.n h3.low h16 fun h17 =>
bindS (appS 64 88 6 v13 v15 ⟨h17.t, h17.n, h17.n⟩) fun v18 h19 =>
wroteS h17.low h19 fun h20 =>
nilS a0 fun v21 =>
addrS 1 v21 fun v22 =>
storeC v22 v18 h20 fun h23 =>
nilS a0 fun v24 =>
addrS 1 v24 fun v25 =>
load1 v25 h23 fun v26 =>
lenSl v26 fun v27 =>
intS .sub v27 (ii 1) fun v28 =>
some (v28, h23)))
noncomputable def G80 : Sh := fun ih vs h => consE (fun a0 => consE (fun a1 => nilE (B80 ih a0 a1 h))) vs
noncomputable def B76 (ih : II) (a0 a1 : V) (h : Hp) : VH :=
bindS (ih 82 [a0] h) fun v0 h1 =>
notS v0 fun v2 =>
guardS v2 true (nilS a0 fun v3 =>
addrS 0 v3 fun v4 =>
load1 v4 h1 fun v5 =>
idxS 4 v5 (ii 0) fun v6 =>
addrS 0 v6 fun v7 =>
load1 v7 h1 fun v8 =>
intS .eql v8 a1 fun v9 =>
some (v9, h1)) h1 fun v10 h11 =>
optS (pickV v2 v10 (.bool false)) fun v12 =>
some (v12, h11)
noncomputable def G76 : Sh := fun ih vs h => consE (fun a0 => consE (fun a1 => nilE (B76 ih a0 a1 h))) vs
noncomputable def B74 (ih : II) (a0 a1 : V) (h : Hp) : VH :=
bindS (ih 138 [a0] h) fun v0 h1 =>
bindS (bldStruct h1 [(0, (uu 1)), (5, v0)] (.agg [(uu 0), (ii 0), (.str ⟨0, 0⟩), .nilSlice, .nilSlice, (ii 0)]) (some [(0, 1), (1, 1), (2, 1), (3, 1), (4, 1), (5, 1)])) fun v2 h3 =>
newS 64 [(uu 0), (ii 0), (.str ⟨0, 0⟩), .nilSlice, .nilSlice, (ii 0)] h3 fun v4 h5 =>
storeN 6 v4 v2 h5 fun h6 =>
bindS (ih 140 [a0, a1] h6) fun v7 h8 =>
ih 67 [a0, a1, v4] h8
noncomputable def G74 : Sh := fun ih vs h => consE (fun a0 => consE (fun a1 => nilE (B74 ih a0 a1 h))) vs
noncomputable def B65 (ih : II) (a0 a5 : V) (h : Hp) : VH :=
loadN 6 a5 h fun v9 =>
bindS (ih 80 [a0, v9] h) fun v10 h11 =>
some (v10, h11)
noncomputable def G65 : Sh := fun ih vs h => consE (fun a0 => consE (fun a5 => nilE (B65 ih a0 a5 h))) vs
noncomputable def B67 (ih : II) (a0 a1 a5 : V) (h : Hp) : VH :=
bindS (ih 82 [a0] h) fun v12 h13 =>
notS v12 fun v14 =>
guardS v14 true (bindS (ih 142 [a0] h13) fun v15 h16 =>
notS v15 fun v17 =>
some (v17, h16)) h13 fun v18 h19 =>
optS (pickV v14 v18 (.bool false)) fun v20 =>
ifS v20 (
bindS (ih 144 [a0, (.str ⟨1, 59⟩)] h19) fun v21 h22 =>
ifS v21 (
bindS (ih 146 [a0] h22) fun v23 h24 =>
ih 67 [a0, a1, a5] h24) (
bindS (ih 144 [a0, (.str ⟨6, 121437875889522⟩)] h22) fun v25 h26 =>
addrS 4 a5 fun v27 =>
load1 v27 h26 fun v28 =>
intS .add a1 (ii 1) fun v29 =>
bindS (ih 148 [a0, v29] ⟨h26.t, h26.n, h26.n⟩) fun v30 h31 =>
cD ((pureB h26 h31 || sameA h26 h31 v27 (vcells v28).length) && true) (
wroteS h26.low h31 fun h32 =>
bindS (bldSl ⟨h32.t, h32.n, h32.n⟩ [(0, v30)] 3 1 1 (ii 0)) fun v33 h34 =>
madeS h32.n h32.low h34 fun h35 =>
bindS (appS 3 8 1 v28 v33 h35) fun v36 h37 =>
addrS 4 a5 fun v38 =>
storeC v38 v36 h37 fun h39 =>
ifS v25 (
ih 65 [a0, a5] h39) (
ih 67 [a0, a1, a5] h39)) none)) (
ih 65 [a0, a5] h19)
noncomputable def G67 : Sh := fun ih vs h => consE (fun a0 => consE (fun a1 => consE (fun a5 => nilE (B67 ih a0 a1 a5 h)))) vs
noncomputable def B72 (ih : II) (a0 : V) (h : Hp) : VH :=
newS 32 [(ii 0), (ii 0)] h fun v0 h1 =>
lenStr a0 fun v2 =>
intS .gtr v2 (ii 65535) fun v3 =>
ifS v3 (
bindS (bldStruct h1 [(0, (ii 3))] (.agg [(ii 0), (ii 0)]) (some [(0, 1), (1, 1)])) fun v4 h5 =>
storeN 2 v0 v4 h5 fun h6 =>
loadN 2 v0 h6 fun v7 =>
some (.tuple [.nilSlice, v7], h6)) (
ih 69 [a0, v0, .nilSlice, (ii 1), (ii 0)] h1)
noncomputable def G72 : Sh := fun ih vs h => consE (fun a0 => nilE (B72 ih a0 h)) vs
noncomputable def B69 (ih : II) (a0 a3 a4 a5 a6 : V) (h : Hp) : VH :=
ih 71 [a0, a3, a4, a5, a6, (ii 0)] h
noncomputable def G69 : Sh := fun ih vs h => consE (fun a0 => consE (fun a3 => consE (fun a4 => consE (fun a5 => consE (fun a6 => nilE (B69 ih a0 a3 a4 a5 a6 h)))))) vs
noncomputable def B71 (ih : II) (a0 a3 a4 a5 a6 a7 : V) (h : Hp) : VH :=
intS .add a6 a7 fun v8 =>
lenStr a0 fun v9 =>
intS .lss v8 v9 fun v10 =>
guardS v10 true (intS .add a6 a7 fun v11 =>
idxStr a0 v11 fun v12 =>
bindS (ih 130 [v12] h) fun v13 h14 =>
some (v13, h14)) h fun v15 h16 =>
optS (pickV v10 v15 (.bool false)) fun v17 =>
ifS v17 (
intS .add a7 (ii 1) fun v18 =>
ih 71 [a0, a3, a4, a5, a6, v18] h16) (
intS .add a6 a7 fun v19 =>
slStrK (some a6) (some v19) a0 fun v20 =>
bindS (ih 132 [v20] h16) fun v21 h22 =>
intS .add a5 v21 fun v23 =>
intS .add a6 a7 fun v24 =>
lenStr a0 fun v25 =>
intS .eql v24 v25 fun v26 =>
ifS v26 (
bindS (bldStruct h22 [(0, (uu 6)), (3, v23)] (.agg [(uu 0), (.str ⟨0, 0⟩), (ii 0), (ii 0)]) (some [(0, 1), (1, 1), (2, 1), (3, 1)])) fun v27 h28 =>
bindS (bldSl h28 [(0, v27)] 152 1 4 (.agg [(uu 0), (.str ⟨0, 0⟩), (ii 0), (ii 0)])) fun v29 h30 =>
bindS (appS 152 40 4 a4 v29 h30) fun v31 h32 =>
bindS (bldStruct h32 [] (.agg [(ii 0), (ii 0)]) (some [(0, 1), (1, 1)])) fun v33 h34 =>
storeN 2 a3 v33 h34 fun h35 =>
loadN 2 a3 h35 fun v36 =>
some (.tuple [v31, v36], h35)) (
bindS (ih 134 [a0, v24] h22) fun v37 h38 =>
extS 0 v37 fun v39 =>
extS 1 v37 fun v40 =>
ifS v40 (
intS .eql v39 (ii 0) fun v41 =>
ifS v41 (
bindS (bldStruct h38 [(0, (ii 30)), (1, v23)] (.agg [(ii 0), (ii 0)]) (some [(0, 1), (1, 1)])) fun v42 h43 =>
storeN 2 a3 v42 h43 fun h44 =>
loadN 2 a3 h44 fun v45 =>
some (.tuple [.nilSlice, v45], h44)) (
ih 73 [a0, a3, a4, v23, v24, v39] h38)) (
bindS (ih 136 [a0, v24] h38) fun v46 h47 =>
extS 0 v46 fun v48 =>
extS 1 v46 fun v49 =>
extS 2 v46 fun v50 =>
newS 152 [(uu 0), (.str ⟨0, 0⟩), (ii 0), (ii 0)] h47 fun v51 h52 =>
storeN 4 v51 v48 h52 fun h53 =>
intS .neq v50 (ii 0) fun v54 =>
ifS v54 (
bindS (bldStruct h53 [(0, v50), (1, v23)] (.agg [(ii 0), (ii 0)]) (some [(0, 1), (1, 1)])) fun v55 h56 =>
storeN 2 a3 v55 h56 fun h57 =>
loadN 2 a3 h57 fun v58 =>
some (.tuple [.nilSlice, v58], h57)) (
addrS 3 v51 fun v59 =>
storeC v59 v23 h53 fun h60 =>
loadN 4 v51 h60 fun v61 =>
bindS (bldSl h60 [(0, v61)] 152 1 4 (.agg [(uu 0), (.str ⟨0, 0⟩), (ii 0), (ii 0)])) fun v62 h63 =>
bindS (appS 152 40 4 a4 v62 h63) fun v64 h65 =>
ih 73 [a0, a3, v64, v23, v24, v49] h65))))
noncomputable def G71 : Sh := fun ih vs h => consE (fun a0 => consE (fun a3 => consE (fun a4 => consE (fun a5 => consE (fun a6 => consE (fun a7 => nilE (B71 ih a0 a3 a4 a5 a6 a7 h))))))) vs
noncomputable def B73 (ih : II) (a0 a3 a4 a5 a6 a7 : V) (h : Hp) : VH :=
intS .add a6 a7 fun v66 =>
slStrK (some a6) (some v66) a0 fun v67 =>
bindS (ih 132 [v67] h) fun v68 h69 =>
intS .add a5 v68 fun v70 =>
intS .add a6 a7 fun v71 =>
ih 69 [a0, a3, a4, v70, v71] h69
noncomputable def G73 : Sh := fun ih vs h => consE (fun a0 => consE (fun a3 => consE (fun a4 => consE (fun a5 => consE (fun a6 => consE (fun a7 => nilE (B73 ih a0 a3 a4 a5 a6 a7 h))))))) vs
noncomputable def B54 (ih : II) (a0 a1 a2 : V) (h : Hp) : VH :=
nilS a0 fun v0 =>
addrS 8 v0 fun v1 =>
loadN 2 v1 h fun v2 =>
bindS (bldStruct h [] (.agg [(ii 0), (ii 0)]) (some [(0, 1), (1, 1)])) fun v3 h4 =>
bindS (vh h4 (eqOp .eql (cmpV [(0, .int .i64), (1, .int .i64)] v2 v3))) fun v5 h6 =>
ifS v5 (
bindS (bldStruct h6 [(0, a1), (1, a2)] (.agg [(ii 0), (ii 0)]) (some [(0, 1), (1, 1)])) fun v7 h8 =>
nilS a0 fun v9 =>
addrS 8 v9 fun v10 =>
storeN 2 v10 v7 h8 fun h11 =>
some (.tuple [], h11)) (
some (.tuple [], h6))
noncomputable def G54 : Sh := fun ih vs h => consE (fun a0 => consE (fun a1 => consE (fun a2 => nilE (B54 ih a0 a1 a2 h)))) vs
noncomputable def B58 (ih : II) (a0 a1 a2 a3 : V) (h : Hp) : VH :=
newS 55 (vcells a0) h fun v0 h1 =>
load1 v0 h1 fun v2 =>
bindS (ih 108 [v2, a2] h1) fun v3 h4 =>
load1 v0 h4 fun v5 =>
nilS v5 fun v6 =>
addrS 0 v6 fun v7 =>
addrS 0 v7 fun v8 =>
load1 v8 h4 fun v9 =>
idxS 6 v9 a1 fun v10 =>
addrS 4 v10 fun v11 =>
load1 v11 h4 fun v12 =>
lenSl v12 fun v13 =>
ih 77 [a3, v0, v12, v12, v13, (ii 0)] h4
noncomputable def G58 : Sh := fun ih vs h => consE (fun a0 => consE (fun a1 => consE (fun a2 => consE (fun a3 => nilE (B58 ih a0 a1 a2 a3 h))))) vs
noncomputable def B75 (ih : II) (a4 : V) (h : Hp) : VH :=
load1 a4 h fun v14 =>
bindS (ih 118 [v14] h) fun v15 h16 =>
some (.tuple [], h16)
noncomputable def G75 : Sh := fun ih vs h => consE (fun a4 => nilE (B75 ih a4 h)) vs
noncomputable def B77 (ih : II) (a3 a4 a8 a25 a26 a27 : V) (h : Hp) : VH :=
intS .lss a27 a26 fun v17 =>
ifS v17 (
idxS 1 a25 a27 fun v18 =>
load1 v18 h fun v19 =>
load1 a4 h fun v20 =>
nilS v20 fun v21 =>
addrS 0 v21 fun v22 =>
addrS 0 v22 fun v23 =>
load1 v23 h fun v24 =>
idxS 6 v24 v19 fun v25 =>
loadN 6 v25 h fun v26 =>
newS 64 [(uu 0), (ii 0), (.str ⟨0, 0⟩), .nilSlice, .nilSlice, (ii 0)] h fun v27 h28 =>
storeN 6 v27 v26 h28 fun h29 =>
addrS 0 v27 fun v30 =>
load1 v30 h29 fun v31 =>
intS .eql v31 (uu 15) fun v32 =>
ifS v32 (
eqS (.func #[] #[] false) .eql a3 .nilFunc fun v33 =>
guardS v33 true (bindS (slSlK 3 1 (some a27) none h29 a8) fun v34 h35 =>
bindS (ih 110 [v34, (.func 56 [] [a4])] h35) fun v36 h37 =>
notS v36 fun v38 =>
some (v38, h37)) h29 fun v39 h40 =>
optS (pickV v33 v39 (.bool false)) fun v41 =>
load1 a4 h40 fun v42 =>
loadN 6 v27 h40 fun v43 =>
bindS (ih 114 [v42, v43, v41] h40) fun v44 h45 =>
ih 79 [a3, a4, a8, a25, a26, a27] h45) (
load1 a4 h29 fun v46 =>
loadN 6 v27 h29 fun v47 =>
bindS (ih 116 [v46, v47] h29) fun v48 h49 =>
ih 79 [a3, a4, a8, a25, a26, a27] h49)) (
eqS (.func #[] #[] false) .neq a3 .nilFunc fun v50 =>
ifS v50 (
bindS (dynE ih a3 [] h) fun v51 h52 =>
ih 75 [a4] h52) (
ih 75 [a4] h))
noncomputable def G77 : Sh := fun ih vs h => consE (fun a3 => consE (fun a4 => consE (fun a8 => consE (fun a25 => consE (fun a26 => consE (fun a27 => nilE (B77 ih a3 a4 a8 a25 a26 a27 h))))))) vs
noncomputable def B79 (ih : II) (a3 a4 a8 a25 a26 a27 : V) (h : Hp) : VH :=
intS .add a27 (ii 1) fun v53 =>
ih 77 [a3, a4, a8, a25, a26, v53] h
noncomputable def G79 : Sh := fun ih vs h => consE (fun a3 => consE (fun a4 => consE (fun a8 => consE (fun a25 => consE (fun a26 => consE (fun a27 => nilE (B79 ih a3 a4 a8 a25 a26 a27 h))))))) vs
noncomputable def B56 (ih : II) (a0 a1 a2 : V) (h : Hp) : VH :=
bindS (ih 106 [a0] h) fun v0 h1 =>
nilS v0 fun v2 =>
addrS 8 v2 fun v3 =>
load1 v3 h1 fun v4 =>
lenSl v4 fun v5 =>
intS .eql v5 (ii 120) fun v6 =>
ifS v6 (
bindS (ih 54 [a0, (ii 3), a2] h1) fun v7 h8 =>
some ((ii 0), h8)) (
nilS v0 fun v9 =>
addrS 8 v9 fun v10 =>
load1 v10 h1 fun v11 =>
bindS (bldStruct h1 [(0, a1)] (.agg [(.str ⟨0, 0⟩)]) (some [(0, 1)])) fun v12 h13 =>
bindS (bldSl h13 [(0, v12)] 136 1 1 (.agg [(.str ⟨0, 0⟩)])) fun v14 h15 =>
bindS (appS 136 16 1 v11 v14 h15) fun v16 h17 =>
nilS v0 fun v18 =>
addrS 8 v18 fun v19 =>
storeC v19 v16 h17 fun h20 =>
ih 81 [v0] h20)
noncomputable def G56 : Sh := fun ih vs h => consE (fun a0 => consE (fun a1 => consE (fun a2 => nilE (B56 ih a0 a1 a2 h)))) vs
noncomputable def B81 (ih : II) (a7 : V) (h : Hp) : VH :=
nilS a7 fun v21 =>
addrS 0 v21 fun v22 =>
addrS 2 v22 fun v23 =>
load1 v23 h fun v24 =>
nilS a7 fun v25 =>
addrS 8 v25 fun v26 =>
load1 v26 h fun v27 =>
lenSl v27 fun v28 =>
intS .lss v24 v28 fun v29 =>
ifS v29 (
nilS a7 fun v30 =>
addrS 0 v30 fun v31 =>
addrS 2 v31 fun v32 =>
load1 v32 h fun v33 =>
intS .add v33 (ii 1) fun v34 =>
nilS a7 fun v35 =>
addrS 0 v35 fun v36 =>
addrS 2 v36 fun v37 =>
storeC v37 v34 h fun h38 =>
nilS a7 fun v39 =>
addrS 0 v39 fun v40 =>
addrS 3 v40 fun v41 =>
load1 v41 h38 fun v42 =>
bindS (bldSl h38 [(0, (.bool false))] 4 1 1 (.bool false)) fun v43 h44 =>
bindS (appS 4 1 1 v42 v43 h44) fun v45 h46 =>
nilS a7 fun v47 =>
addrS 0 v47 fun v48 =>
addrS 3 v48 fun v49 =>
storeC v49 v45 h46 fun h50 =>
ih 81 [a7] h50) (
nilS a7 fun v51 =>
addrS 8 v51 fun v52 =>
load1 v52 h fun v53 =>
lenSl v53 fun v54 =>
intS .sub v54 (ii 1) fun v55 =>
some (v55, h))
noncomputable def G81 : Sh := fun ih vs h => consE (fun a7 => nilE (B81 ih a7 h)) vs
noncomputable def B50 (ih : II) (a0 a1 : V) (h : Hp) : VH :=
newS 84 (vcells a0) h fun v0 h1 =>
newS 64 (vcells a1) h1 fun v2 h3 =>
addrS 5 v2 fun v4 =>
load1 v4 h3 fun v5 =>
intS .lss v5 (ii 1) fun v6 =>
ifS v6 (
some ((.bool false), h3)) (
addrS 0 v2 fun v7 =>
load1 v7 h3 fun v8 =>
intS .eql v8 (uu 1) fun v9 =>
ifS v9 (
addrS 4 v2 fun v10 =>
load1 v10 h3 fun v11 =>
lenSl v11 fun v12 =>
intS .sub v12 (ii 1) fun v13 =>
loadN 6 v2 h3 fun v14 =>
bindS (ih 88 [v14, (.bool false), (.bool false), (.bool false)] h3) fun v15 h16 =>
guardS v15 true (loadN 2 v0 h16 fun v17 =>
loadN 6 v2 h16 fun v18 =>
intS .add v13 (ii 1) fun v19 =>
bindS (ih 90 [v17, v18, (ii 0), v19, (.func 46 [] [])] h16) fun v20 h21 =>
some (v20, h21)) h16 fun v22 h23 =>
optS (pickV v15 v22 (.bool false)) fun v24 =>
guardS v24 true (loadN 2 v0 h23 fun v25 =>
loadN 6 v2 h23 fun v26 =>
bindS (ih 90 [v25, v26, (ii 0), v13, (.func 47 [] [])] h23) fun v27 h28 =>
some (v27, h28)) h23 fun v29 h30 =>
optS (pickV v24 v29 (.bool false)) fun v31 =>
some (v31, h30)) (
addrS 0 v2 fun v32 =>
load1 v32 h3 fun v33 =>
bindS (ih 92 [v33] h3) fun v34 h35 =>
ifS v34 (
loadN 2 v0 h35 fun v36 =>
loadN 6 v2 h35 fun v37 =>
bindS (ih 96 [v36, v37] h35) fun v38 h39 =>
some (v38, h39)) (
addrS 0 v2 fun v40 =>
load1 v40 h35 fun v41 =>
bindS (ih 98 [v41] h35) fun v42 h43 =>
guardS v42 false (addrS 0 v2 fun v44 =>
load1 v44 h43 fun v45 =>
intS .eql v45 (uu 36) fun v46 =>
some (v46, h43)) h43 fun v47 h48 =>
optS (pickV v42 (.bool true) v47) fun v49 =>
guardS v49 false (addrS 0 v2 fun v50 =>
load1 v50 h48 fun v51 =>
intS .eql v51 (uu 37) fun v52 =>
some (v52, h48)) h48 fun v53 h54 =>
optS (pickV v49 (.bool true) v53) fun v55 =>
ifS v55 (
loadN 2 v0 h54 fun v56 =>
loadN 6 v2 h54 fun v57 =>
bindS (ih 100 [v56, v57] h54) fun v58 h59 =>
guardS v58 true (loadN 2 v0 h59 fun v60 =>
loadN 6 v2 h59 fun v61 =>
bindS (ih 102 [v60, v61] h59) fun v62 h63 =>
some (v62, h63)) h59 fun v64 h65 =>
optS (pickV v58 v64 (.bool false)) fun v66 =>
some (v66, h65)) (
some ((.bool false), h54)))))
noncomputable def G50 : Sh := fun ih vs h => consE (fun a0 => consE (fun a1 => nilE (B50 ih a0 a1 h))) vs
noncomputable def B48 (ih : II) (a0 a1 a2 : V) (h : Hp) : VH :=
newS 64 (vcells a0) h fun v0 h1 =>
addrS 0 v0 fun v2 =>
load1 v2 h1 fun v3 =>
intS .eql v3 (uu 28) fun v4 =>
ifS v4 (
ih 85 [a1, a2, v3, v4] h1) (
intS .eql v3 (uu 29) fun v5 =>
ifS v5 (
ih 85 [a1, a2, v3, v5] h1) (
intS .eql v3 (uu 30) fun v6 =>
ifS v6 (
ih 85 [a1, a2, v3, v6] h1) (
intS .eql v3 (uu 31) fun v7 =>
ifS v7 (
ih 85 [a1, a2, v3, v7] h1) (
intS .eql v3 (uu 32) fun v8 =>
ifS v8 (
ih 85 [a1, a2, v3, v8] h1) (
intS .eql v3 (uu 33) fun v9 =>
ih 85 [a1, a2, v3, v9] h1)))))
noncomputable def G48 : Sh := fun ih vs h => consE (fun a0 => consE (fun a1 => consE (fun a2 => nilE (B48 ih a0 a1 a2 h)))) vs
noncomputable def B83 (ih : II) (a2 : V) (h : Hp) : VH :=
intS .add a2 (ii 1) fun v10 =>
some (v10, h)
noncomputable def G83 : Sh := fun ih vs h => consE (fun a2 => nilE (B83 ih a2 h)) vs
noncomputable def B85 (ih : II) (a1 a2 a8 a9 : V) (h : Hp) : VH :=
ifS a9 (
intS .eql a1 (ii 0) fun v11 =>
ifS v11 (
some (a2, h)) (
ih 83 [a2] h)) (
intS .eql a8 (uu 35) fun v12 =>
ifS v12 (
ih 87 [a2, v12] h) (
intS .eql a8 (uu 1) fun v13 =>
ih 87 [a2, v13] h))
noncomputable def G85 : Sh := fun ih vs h => consE (fun a1 => consE (fun a2 => consE (fun a8 => consE (fun a9 => nilE (B85 ih a1 a2 a8 a9 h))))) vs
noncomputable def B87 (ih : II) (a2 a19 : V) (h : Hp) : VH :=
ifS a19 (
some (a2, h)) (
ih 83 [a2] h)
noncomputable def G87 : Sh := fun ih vs h => consE (fun a2 => consE (fun a19 => nilE (B87 ih a2 a19 h))) vs
noncomputable def B52 (ih : II) (a0 a1 : V) (h : Hp) : VH :=
bindS (ih 104 [a0, a1] h) fun v0 h1 =>
intS .geq v0 (ii 0) fun v2 =>
some (v2, h1)
noncomputable def G52 : Sh := fun ih vs h => consE (fun a0 => consE (fun a1 => nilE (B52 ih a0 a1 h))) vs
noncomputable def B138 (ih : II) (a0 : V) (h : Hp) : VH :=
nilS a0 fun v0 =>
addrS 0 v0 fun v1 =>
load1 v1 h fun v2 =>
idxS 4 v2 (ii 0) fun v3 =>
addrS 3 v3 fun v4 =>
load1 v4 h fun v5 =>
some (v5, h)
noncomputable def G138 : Sh := fun ih vs h => consE (fun a0 => nilE (B138 ih a0 h)) vs
noncomputable def B148 (ih : II) (a0 a1 : V) (h : Hp) : VH :=
bindS (ih 138 [a0] h) fun v0 h1 =>
bindS (bldStruct h1 [(5, v0)] (.agg [(uu 0), (ii 0), (.str ⟨0, 0⟩), .nilSlice, .nilSlice, (ii 0)]) (some [(0, 1), (1, 1), (2, 1), (3, 1), (4, 1), (5, 1)])) fun v2 h3 =>
newS 64 [(uu 0), (ii 0), (.str ⟨0, 0⟩), .nilSlice, .nilSlice, (ii 0)] h3 fun v4 h5 =>
storeN 6 v4 v2 h5 fun h6 =>
bindS (ih 144 [a0, (.str ⟨5, 435610544247⟩)] h6) fun v7 h8 =>
ifS v7 (
bindS (ih 146 [a0] h8) fun v9 h10 =>
addrS 0 v4 fun v11 =>
storeC v11 (uu 6) h10 fun h12 =>
bindS (ih 228 [a0, a1, (ii 0)] h12) fun v13 h14 =>
bindS (bldSl h14 [(0, v13)] 3 1 1 (ii 0)) fun v15 h16 =>
addrS 4 v4 fun v17 =>
storeC v17 v15 h16 fun h18 =>
bindS (ih 230 [a0, (.str ⟨2, 28516⟩)] h18) fun v19 h20 =>
addrS 4 v4 fun v21 =>
load1 v21 h20 fun v22 =>
bindS (ih 74 [a0, a1] ⟨h20.t, h20.n, h20.n⟩) fun v23 h24 =>
cD ((pureB h20 h24 || sameA h20 h24 v21 (vcells v22).length) && true) (
wroteS h20.low h24 fun h25 =>
bindS (bldSl ⟨h25.t, h25.n, h25.n⟩ [(0, v23)] 3 1 1 (ii 0)) fun v26 h27 =>
madeS h25.n h25.low h27 fun h28 =>
bindS (appS 3 8 1 v22 v26 h28) fun v29 h30 =>
addrS 4 v4 fun v31 =>
storeC v31 v29 h30 fun h32 =>
bindS (ih 230 [a0, (.str ⟨3, 6581861⟩)] h32) fun v33 h34 =>
ih 89 [a0, v4] h34) none) (
bindS (ih 144 [a0, (.str ⟨2, 28516⟩)] h8) fun v35 h36 =>
ifS v35 (
bindS (ih 146 [a0] h36) fun v37 h38 =>
addrS 0 v4 fun v39 =>
storeC v39 (uu 5) h38 fun h40 =>
bindS (ih 74 [a0, a1] h40) fun v41 h42 =>
bindS (bldSl h42 [(0, v41)] 3 1 1 (ii 0)) fun v43 h44 =>
addrS 4 v4 fun v45 =>
storeC v45 v43 h44 fun h46 =>
bindS (ih 230 [a0, (.str ⟨3, 6581861⟩)] h46) fun v47 h48 =>
ih 89 [a0, v4] h48) (
bindS (ih 144 [a0, (.str ⟨6, 127961662514546⟩)] h36) fun v49 h50 =>
ifS v49 (
bindS (ih 146 [a0] h50) fun v51 h52 =>
addrS 0 v4 fun v53 =>
storeC v53 (uu 7) h52 fun h54 =>
bindS (ih 74 [a0, a1] h54) fun v55 h56 =>
bindS (bldSl h56 [(0, v55)] 3 1 1 (ii 0)) fun v57 h58 =>
addrS 4 v4 fun v59 =>
storeC v59 v57 h58 fun h60 =>
bindS (ih 230 [a0, (.str ⟨5, 465625706101⟩)] h60) fun v61 h62 =>
addrS 4 v4 fun v63 =>
load1 v63 h62 fun v64 =>
bindS (ih 228 [a0, a1, (ii 0)] ⟨h62.t, h62.n, h62.n⟩) fun v65 h66 =>
cD ((pureB h62 h66 || sameA h62 h66 v63 (vcells v64).length) && true) (
wroteS h62.low h66 fun h67 =>
bindS (bldSl ⟨h67.t, h67.n, h67.n⟩ [(0, v65)] 3 1 1 (ii 0)) fun v68 h69 =>
madeS h67.n h67.low h69 fun h70 =>
bindS (appS 3 8 1 v64 v68 h70) fun v71 h72 =>
addrS 4 v4 fun v73 =>
storeC v73 v71 h72 fun h74 =>
ih 89 [a0, v4] h74) none) (
bindS (ih 144 [a0, (.str ⟨2, 26217⟩)] h50) fun v75 h76 =>
ifS v75 (
addrS 0 v4 fun v77 =>
storeC v77 (uu 8) h76 fun h78 =>
bindS (ih 232 [a0, a1] h78) fun v79 h80 =>
addrS 4 v4 fun v81 =>
storeC v81 v79 h80 fun h82 =>
ih 89 [a0, v4] h82) (
bindS (ih 144 [a0, (.str ⟨3, 7499622⟩)] h76) fun v83 h84 =>
ifS v83 (
bindS (ih 146 [a0] h84) fun v85 h86 =>
bindS (ih 234 [a0, v4, a1] h86) fun v87 h88 =>
ih 89 [a0, v4] h88) (
bindS (ih 144 [a0, (.str ⟨6, 121437875889522⟩)] h84) fun v89 h90 =>
ifS v89 (
bindS (ih 146 [a0] h90) fun v91 h92 =>
addrS 0 v4 fun v93 =>
storeC v93 (uu 12) h92 fun h94 =>
bindS (ih 142 [a0] h94) fun v95 h96 =>
notS v95 fun v97 =>
guardS v97 true (bindS (ih 144 [a0, (.str ⟨1, 59⟩)] h96) fun v98 h99 =>
notS v98 fun v100 =>
some (v100, h99)) h96 fun v101 h102 =>
optS (pickV v97 v101 (.bool false)) fun v103 =>
ifS v103 (
bindS (ih 236 [a0, a1] h102) fun v104 h105 =>
addrS 4 v4 fun v106 =>
storeC v106 v104 h105 fun h107 =>
ih 91 [a0, v4] h107) (
ih 91 [a0, v4] h102)) (
bindS (ih 238 [a0, v4, a1] h90) fun v108 h109 =>
ih 89 [a0, v4] h109))))))
noncomputable def G148 : Sh := fun ih vs h => consE (fun a0 => consE (fun a1 => nilE (B148 ih a0 a1 h))) vs
noncomputable def B89 (ih : II) (a0 a5 : V) (h : Hp) : VH :=
loadN 6 a5 h fun v110 =>
bindS (ih 80 [a0, v110] h) fun v111 h112 =>
some (v111, h112)
noncomputable def G89 : Sh := fun ih vs h => consE (fun a0 => consE (fun a5 => nilE (B89 ih a0 a5 h))) vs
noncomputable def B91 (ih : II) (a0 a5 : V) (h : Hp) : VH :=
loadN 6 a5 h fun v113 =>
bindS (ih 80 [a0, v113] h) fun v114 h115 =>
bindS (ih 144 [a0, (.str ⟨1, 59⟩)] h115) fun v116 h117 =>
ifS v116 (
bindS (ih 146 [a0] h117) fun v118 h119 =>
ih 93 [v114] h119) (
ih 93 [v114] h117)
noncomputable def G91 : Sh := fun ih vs h => consE (fun a0 => consE (fun a5 => nilE (B91 ih a0 a5 h))) vs
noncomputable def B93 (ih : II) (a6 : V) (h : Hp) : VH :=
some (a6, h)
noncomputable def G93 : Sh := fun ih vs h => consE (fun a6 => nilE (B93 ih a6 h)) vs
noncomputable def B144 (ih : II) (a0 a1 : V) (h : Hp) : VH :=
bindS (ih 82 [a0] h) fun v0 h1 =>
notS v0 fun v2 =>
guardS v2 true (nilS a0 fun v3 =>
addrS 0 v3 fun v4 =>
load1 v4 h1 fun v5 =>
idxS 4 v5 (ii 0) fun v6 =>
addrS 0 v6 fun v7 =>
load1 v7 h1 fun v8 =>
intS .eql v8 (uu 2) fun v9 =>
some (v9, h1)) h1 fun v10 h11 =>
guardS v10 false (nilS a0 fun v12 =>
addrS 0 v12 fun v13 =>
load1 v13 h11 fun v14 =>
idxS 4 v14 (ii 0) fun v15 =>
addrS 0 v15 fun v16 =>
load1 v16 h11 fun v17 =>
intS .eql v17 (uu 3) fun v18 =>
some (v18, h11)) h11 fun v19 h20 =>
guardS v2 true (optS (pickV v10 (.bool true) v19) fun v21 =>
some (v21, h20)) h20 fun v22 h23 =>
optS (pickV v2 v22 (.bool false)) fun v24 =>
guardS v24 true (nilS a0 fun v25 =>
addrS 0 v25 fun v26 =>
load1 v26 h23 fun v27 =>
idxS 4 v27 (ii 0) fun v28 =>
addrS 1 v28 fun v29 =>
load1 v29 h23 fun v30 =>
strS .eql v30 a1 fun v31 =>
some (v31, h23)) h23 fun v32 h33 =>
optS (pickV v24 v32 (.bool false)) fun v34 =>
some (v34, h33)
noncomputable def G144 : Sh := fun ih vs h => consE (fun a0 => consE (fun a1 => nilE (B144 ih a0 a1 h))) vs
noncomputable def B146 (ih : II) (a0 : V) (h : Hp) : VH :=
newS 152 [(uu 0), (.str ⟨0, 0⟩), (ii 0), (ii 0)] h fun v0 h1 =>
nilS a0 fun v2 =>
addrS 0 v2 fun v3 =>
load1 v3 h1 fun v4 =>
idxS 4 v4 (ii 0) fun v5 =>
loadN 4 v5 h1 fun v6 =>
newS 152 [(uu 0), (.str ⟨0, 0⟩), (ii 0), (ii 0)] h1 fun v7 h8 =>
storeN 4 v7 v6 h8 fun h9 =>
bindS (ih 82 [a0] h9) fun v10 h11 =>
notS v10 fun v12 =>
guardS v12 true (nilS a0 fun v13 =>
addrS 0 v13 fun v14 =>
load1 v14 h11 fun v15 =>
lenSl v15 fun v16 =>
intS .gtr v16 (ii 1) fun v17 =>
some (v17, h11)) h11 fun v18 h19 =>
optS (pickV v12 v18 (.bool false)) fun v20 =>
ifS v20 (
nilS a0 fun v21 =>
addrS 0 v21 fun v22 =>
load1 v22 h19 fun v23 =>
bindS (slSlK 152 4 (some (ii 1)) none h19 v23) fun v24 h25 =>
nilS a0 fun v26 =>
addrS 0 v26 fun v27 =>
storeC v27 v24 h25 fun h28 =>
ih 95 [v0, v7] h28) (
ih 95 [v0, v7] h19)
noncomputable def G146 : Sh := fun ih vs h => consE (fun a0 => nilE (B146 ih a0 h)) vs
noncomputable def B95 (ih : II) (a2 a3 : V) (h : Hp) : VH :=
loadN 4 a3 h fun v29 =>
storeN 4 a2 v29 h fun h30 =>
loadN 4 a2 h30 fun v31 =>
some (v31, h30)
noncomputable def G95 : Sh := fun ih vs h => consE (fun a2 => consE (fun a3 => nilE (B95 ih a2 a3 h))) vs
noncomputable def B142 (ih : II) (a0 : V) (h : Hp) : VH :=
bindS (ih 76 [a0, (uu 6)] h) fun v0 h1 =>
guardS v0 false (bindS (bldSl h1 [(0, (.str ⟨3, 6581861⟩)), (1, (.str ⟨4, 1702063205⟩)), (2, (.str ⟨6, 112602859662437⟩)), (3, (.str ⟨5, 465625706101⟩))] 9 4 1 (.str ⟨0, 0⟩)) fun v2 h3 =>
bindS (ih 226 [a0, v2] h3) fun v4 h5 =>
some (v4, h5)) h1 fun v6 h7 =>
optS (pickV v0 (.bool true) v6) fun v8 =>
some (v8, h7)
noncomputable def G142 : Sh := fun ih vs h => consE (fun a0 => nilE (B142 ih a0 h)) vs
noncomputable def B140 (ih : II) (a0 a1 : V) (h : Hp) : VH :=
intS .gtr a1 (ii 100) fun v0 =>
ifS v0 (
bindS (ih 78 [a0, (ii 3)] h) fun v1 h2 =>
some (.tuple [], h2)) (
some (.tuple [], h))
noncomputable def G140 : Sh := fun ih vs h => consE (fun a0 => consE (fun a1 => nilE (B140 ih a0 a1 h))) vs
noncomputable def B132 (ih : II) (a0 : V) (h : Hp) : VH :=
ih 97 [a0, (ii 0), (ii 0)] h
noncomputable def G132 : Sh := fun ih vs h => consE (fun a0 => nilE (B132 ih a0 h)) vs
noncomputable def B97 (ih : II) (a0 a3 a4 : V) (h : Hp) : VH :=
lenStr a0 fun v0 =>
intS .lss a4 v0 fun v1 =>
ifS v1 (
bindS (ih 202 [a0, a4] h) fun v2 h3 =>
intS .gtr v2 (ii 0) fun v4 =>
ifS v4 (
intS .add a3 (ii 1) fun v5 =>
intS .add a4 v2 fun v6 =>
intS .sub v6 (ii 1) fun v7 =>
ih 99 [a0, v5, v7] h3) (
ih 99 [a0, a3, a4] h3)) (
some (a3, h))
noncomputable def G97 : Sh := fun ih vs h => consE (fun a0 => consE (fun a3 => consE (fun a4 => nilE (B97 ih a0 a3 a4 h)))) vs
noncomputable def B99 (ih : II) (a0 a3 a4 : V) (h : Hp) : VH :=
intS .add a4 (ii 1) fun v8 =>
ih 97 [a0, a3, v8] h
noncomputable def G99 : Sh := fun ih vs h => consE (fun a0 => consE (fun a3 => consE (fun a4 => nilE (B99 ih a0 a3 a4 h)))) vs
noncomputable def B136 (ih : II) (a0 a1 : V) (h : Hp) : VH :=
newS 152 [(uu 0), (.str ⟨0, 0⟩), (ii 0), (ii 0)] h fun v0 h1 =>
ih 101 [a0, a1, v0, (ii 0)] h1
noncomputable def G136 : Sh := fun ih vs h => consE (fun a0 => consE (fun a1 => nilE (B136 ih a0 a1 h))) vs
noncomputable def B101 (ih : II) (a0 a1 a4 a7 : V) (h : Hp) : VH :=
intS .add a1 a7 fun v2 =>
bindS (ih 210 [a0, v2] h) fun v3 h4 =>
bindS (ih 208 [v3] h4) fun v5 h6 =>
guardS v5 false (intS .gtr a7 (ii 0) fun v7 =>
some (v7, h6)) h6 fun v8 h9 =>
guardS v8 true (intS .add a1 a7 fun v10 =>
bindS (ih 210 [a0, v10] h9) fun v11 h12 =>
bindS (ih 212 [v11] h12) fun v13 h14 =>
some (v13, h14)) h9 fun v15 h16 =>
guardS v5 false (optS (pickV v8 v15 (.bool false)) fun v17 =>
some (v17, h16)) h16 fun v18 h19 =>
optS (pickV v5 (.bool true) v18) fun v20 =>
ifS v20 (
intS .add a7 (ii 1) fun v21 =>
ih 101 [a0, a1, a4, v21] h19) (
intS .gtr a7 (ii 0) fun v22 =>
ifS v22 (
intS .add a1 a7 fun v23 =>
slStrK (some a1) (some v23) a0 fun v24 =>
bindS (bldStruct h19 [(0, (uu 1)), (1, v24)] (.agg [(uu 0), (.str ⟨0, 0⟩), (ii 0), (ii 0)]) (some [(0, 1), (1, 1), (2, 1), (3, 1)])) fun v25 h26 =>
newS 152 [(uu 0), (.str ⟨0, 0⟩), (ii 0), (ii 0)] h26 fun v27 h28 =>
storeN 4 v27 v25 h28 fun h29 =>
addrS 1 v27 fun v30 =>
load1 v30 h29 fun v31 =>
bindS (ih 214 [v31] h29) fun v32 h33 =>
ifS v32 (
addrS 0 v27 fun v34 =>
storeC v34 (uu 2) h33 fun h35 =>
ih 103 [a4, a7, v27] h35) (
ih 103 [a4, a7, v27] h33)) (
bindS (ih 216 [a0, a1] h19) fun v36 h37 =>
intS .gtr v36 (ii 0) fun v38 =>
ifS v38 (
intS .add a1 v36 fun v39 =>
slStrK (some a1) (some v39) a0 fun v40 =>
bindS (ih 218 [v40] h37) fun v41 h42 =>
extS 0 v41 fun v43 =>
extS 1 v41 fun v44 =>
bindS (bldStruct h42 [(0, (uu 4)), (2, v43)] (.agg [(uu 0), (.str ⟨0, 0⟩), (ii 0), (ii 0)]) (some [(0, 1), (1, 1), (2, 1), (3, 1)])) fun v45 h46 =>
storeN 4 a4 v45 h46 fun h47 =>
loadN 4 a4 h47 fun v48 =>
some (.tuple [v48, v36, v44], h47)) (
bindS (ih 206 [a0, a1] h37) fun v49 h50 =>
extS 0 v49 fun v51 =>
extS 1 v49 fun v52 =>
extS 2 v49 fun v53 =>
ifS v53 (
intS .eql v52 (ii 0) fun v54 =>
ifS v54 (
bindS (bldStruct h50 [] (.agg [(uu 0), (.str ⟨0, 0⟩), (ii 0), (ii 0)]) (some [(0, 1), (1, 1), (2, 1), (3, 1)])) fun v55 h56 =>
storeN 4 a4 v55 h56 fun h57 =>
loadN 4 a4 h57 fun v58 =>
some (.tuple [v58, (ii 0), (ii 30)], h57)) (
bindS (bldStruct h50 [(0, (uu 5)), (1, v51)] (.agg [(uu 0), (.str ⟨0, 0⟩), (ii 0), (ii 0)]) (some [(0, 1), (1, 1), (2, 1), (3, 1)])) fun v59 h60 =>
storeN 4 a4 v59 h60 fun h61 =>
loadN 4 a4 h61 fun v62 =>
some (.tuple [v62, v52, (ii 0)], h61))) (
idxStr a0 a1 fun v63 =>
intS .eql v63 (uu 34) fun v64 =>
guardS v64 false (idxStr a0 a1 fun v65 =>
intS .eql v65 (uu 39) fun v66 =>
some (v66, h50)) h50 fun v67 h68 =>
optS (pickV v64 (.bool true) v67) fun v69 =>
ifS v69 (
bindS (ih 220 [a0, a1] h68) fun v70 h71 =>
intS .add a1 v70 fun v72 =>
slStrK (some a1) (some v72) a0 fun v73 =>
bindS (ih 222 [v73] h71) fun v74 h75 =>
extS 0 v74 fun v76 =>
extS 1 v74 fun v77 =>
bindS (bldStruct h75 [(0, (uu 5)), (1, v76)] (.agg [(uu 0), (.str ⟨0, 0⟩), (ii 0), (ii 0)]) (some [(0, 1), (1, 1), (2, 1), (3, 1)])) fun v78 h79 =>
storeN 4 a4 v78 h79 fun h80 =>
loadN 4 a4 h80 fun v81 =>
some (.tuple [v81, v70, v77], h80)) (
bindS (ih 204 [a0, a1, (.str ⟨2, 15707⟩)] h68) fun v82 h83 =>
ifS v82 (
bindS (bldStruct h83 [] (.agg [(uu 0), (.str ⟨0, 0⟩), (ii 0), (ii 0)]) (some [(0, 1), (1, 1), (2, 1), (3, 1)])) fun v84 h85 =>
storeN 4 a4 v84 h85 fun h86 =>
loadN 4 a4 h86 fun v87 =>
some (.tuple [v87, (ii 0), (ii 30)], h86)) (
bindS (ih 224 [a0, a1] h83) fun v88 h89 =>
extS 0 v88 fun v90 =>
extS 1 v88 fun v91 =>
extS 2 v88 fun v92 =>
storeN 4 a4 v90 h89 fun h93 =>
loadN 4 a4 h93 fun v94 =>
some (.tuple [v94, v91, v92], h93)))))))
noncomputable def G101 : Sh := fun ih vs h => consE (fun a0 => consE (fun a1 => consE (fun a4 => consE (fun a7 => nilE (B101 ih a0 a1 a4 a7 h))))) vs
noncomputable def B103 (ih : II) (a4 a7 a8 : V) (h : Hp) : VH :=
loadN 4 a8 h fun v95 =>
storeN 4 a4 v95 h fun h96 =>
loadN 4 a4 h96 fun v97 =>
some (.tuple [v97, a7, (ii 0)], h96)
noncomputable def G103 : Sh := fun ih vs h => consE (fun a4 => consE (fun a7 => consE (fun a8 => nilE (B103 ih a4 a7 a8 h)))) vs
noncomputable def B134 (ih : II) (a0 a1 : V) (h : Hp) : VH :=
bindS (ih 204 [a0, a1, (.str ⟨2, 11565⟩)] h) fun v0 h1 =>
notS v0 fun v2 =>
ifS v2 (
some (.tuple [(ii 0), (.bool false)], h1)) (
intS .add a1 (ii 2) fun v3 =>
bindS (ih 206 [a0, v3] h1) fun v4 h5 =>
extS 0 v4 fun v6 =>
extS 1 v4 fun v7 =>
extS 2 v4 fun v8 =>
ifS v8 (
intS .eql v7 (ii 0) fun v9 =>
ifS v9 (
some (.tuple [(ii 0), (.bool true)], h5)) (
intS .add v7 (ii 2) fun v10 =>
some (.tuple [v10, (.bool true)], h5))) (
ih 105 [a0, a1, a1] h5))
noncomputable def G134 : Sh := fun ih vs h => consE (fun a0 => consE (fun a1 => nilE (B134 ih a0 a1 h))) vs
noncomputable def B130 (ih : II) (a0 : V) (h : Hp) : VH :=
bindS (ih 200 [a0, (.str ⟨6, 35240408713737⟩)] h) fun v0 h1 =>
some (v0, h1)
noncomputable def G130 : Sh := fun ih vs h => consE (fun a0 => nilE (B130 ih a0 h)) vs
noncomputable def B116 (ih : II) (a0 a1 : V) (h : Hp) : VH :=
newS 64 (vcells a1) h fun v0 h1 =>
bindS (ih 106 [a0] ⟨h1.t, h1.n, h1.n⟩) fun v2 h3 =>
wroteS h1.low h3 fun h4 =>
addrS 4 v0 fun v5 =>
load1 v5 h1 fun v6 =>
cD (((pureB h1 h3) || sameA h1 h4 v5 (vcells v6).length) && true) (
addrS 0 v0 fun v7 =>
load1 v7 h4 fun v8 =>
intS .eql v8 (uu 2) fun v9 =>
ifS v9 (
bindS (ih 182 [a0, v6] h4) fun v10 h11 =>
addrS 3 v0 fun v12 =>
load1 v12 h11 fun v13 =>
lenSl v13 fun v14 =>
ih 107 [a0, v0, v10, .nilSlice, v13, v14, (ii 0)] h11) (
intS .eql v8 (uu 3) fun v15 =>
ifS v15 (
addrS 1 v0 fun v16 =>
load1 v16 h4 fun v17 =>
bindS (slSlK 3 1 none (some v17) h4 v6) fun v18 h19 =>
bindS (ih 182 [a0, v18] h19) fun v20 h21 =>
addrS 1 v0 fun v22 =>
load1 v22 h21 fun v23 =>
bindS (slSlK 3 1 (some v23) none h21 v6) fun v24 h25 =>
bindS (ih 182 [a0, v24] ⟨h21.t, h21.n, h21.n⟩) fun v26 h27 =>
wroteS h21.low h27 fun h28 =>
addrS 5 v0 fun v29 =>
load1 v29 h21 fun v30 =>
cD (((pureB h21 h27) || sameA h21 h28 v29 (vcells v30).length) && true) (
bindS (bldStruct h28 [(0, (uu 2)), (2, v20), (3, v26), (6, v30)] (.agg [(uu 0), .nilSlice, .nilSlice, .nilSlice, (ii 0), (ii 0), (ii 0)]) (some [(0, 1), (1, 1), (2, 1), (3, 1), (4, 1), (5, 1), (6, 1)])) fun v31 h32 =>
bindS (ih 184 [a0, v31] h28) fun v33 h34 =>
some (.tuple [], h34)) none) (
intS .eql v8 (uu 4) fun v35 =>
ifS v35 (
bindS (ih 182 [a0, v6] ⟨h4.t, h4.n, h4.n⟩) fun v36 h37 =>
wroteS h4.low h37 fun h38 =>
addrS 5 v0 fun v39 =>
load1 v39 h4 fun v40 =>
cD (((pureB h4 h37) || sameA h4 h38 v39 (vcells v40).length) && true) (
bindS (bldStruct h38 [(0, (uu 3)), (3, v36), (6, v40)] (.agg [(uu 0), .nilSlice, .nilSlice, .nilSlice, (ii 0), (ii 0), (ii 0)]) (some [(0, 1), (1, 1), (2, 1), (3, 1), (4, 1), (5, 1), (6, 1)])) fun v41 h42 =>
bindS (ih 184 [a0, v41] h38) fun v43 h44 =>
some (.tuple [], h44)) none) (
intS .eql v8 (uu 5) fun v45 =>
ifS v45 (
idxS 1 v6 (ii 0) fun v46 =>
load1 v46 h4 fun v47 =>
bindS (ih 58 [a0, v47, .nilPtr, .nilFunc] h4) fun v48 h49 =>
some (.tuple [], h49)) (
intS .eql v8 (uu 6) fun v50 =>
ifS v50 (
ih 109 [a0, v0, v2, v6, v8, v50] h4) (
intS .eql v8 (uu 7) fun v51 =>
ifS v51 (
ih 109 [a0, v0, v2, v6, v8, v51] h4) (
intS .eql v8 (uu 9) fun v52 =>
ifS v52 (
ih 109 [a0, v0, v2, v6, v8, v52] h4) (
intS .eql v8 (uu 10) fun v53 =>
ih 109 [a0, v0, v2, v6, v8, v53] h4)))))))) none
noncomputable def G116 : Sh := fun ih vs h => consE (fun a0 => consE (fun a1 => nilE (B116 ih a0 a1 h))) vs
noncomputable def B107 (ih : II) (a0 a3 a6 a7 a26 a27 a28 : V) (h : Hp) : VH :=
intS .lss a28 a27 fun v54 =>
ifS v54 (
idxS 1 a26 a28 fun v55 =>
load1 v55 h fun v56 =>
addrS 5 a3 fun v57 =>
load1 v57 h fun v58 =>
bindS (ih 56 [a0, v56, v58] h) fun v59 h60 =>
bindS (bldSl h60 [(0, v59)] 3 1 1 (ii 0)) fun v61 h62 =>
bindS (appS 3 8 1 a7 v61 h62) fun v63 h64 =>
intS .add a28 (ii 1) fun v65 =>
ih 107 [a0, a3, a6, v63, a26, a27, v65] h64) (
addrS 5 a3 fun v66 =>
load1 v66 h fun v67 =>
bindS (bldStruct h [(0, (uu 1)), (1, a7), (3, a6), (6, v67)] (.agg [(uu 0), .nilSlice, .nilSlice, .nilSlice, (ii 0), (ii 0), (ii 0)]) (some [(0, 1), (1, 1), (2, 1), (3, 1), (4, 1), (5, 1), (6, 1)])) fun v68 h69 =>
bindS (ih 184 [a0, v68] h69) fun v70 h71 =>
some (.tuple [], h71))
noncomputable def G107 : Sh := fun ih vs h => consE (fun a0 => consE (fun a3 => consE (fun a6 => consE (fun a7 => consE (fun a26 => consE (fun a27 => consE (fun a28 => nilE (B107 ih a0 a3 a6 a7 a26 a27 a28 h)))))))) vs
noncomputable def B109 (ih : II) (a0 a3 a4 a5 a19 a85 : V) (h : Hp) : VH :=
ifS a85 (
loadN 6 a3 h fun v72 =>
bindS (ih 186 [a0, v72] h) fun v73 h74 =>
some (.tuple [], h74)) (
intS .eql a19 (uu 8) fun v75 =>
ifS v75 (
loadN 6 a3 h fun v76 =>
bindS (ih 188 [a0, v76] h) fun v77 h78 =>
some (.tuple [], h78)) (
intS .eql a19 (uu 11) fun v79 =>
ifS v79 (
addrS 3 a3 fun v80 =>
load1 v80 h fun v81 =>
idxS 1 v81 (ii 0) fun v82 =>
load1 v82 h fun v83 =>
addrS 5 a3 fun v84 =>
load1 v84 h fun v85 =>
bindS (ih 56 [a0, v83, v85] h) fun v86 h87 =>
newF 3 1 (flat [v86]) h87 fun v88 h89 =>
bindS (bldSl (floH v88) [(0, v86)] 3 1 1 (ii 0)) fun v90 h91 =>
cD (floIs v88 3 (flat [v86]) v90 h91) (
bindS (ih 182 [a0, a5] ⟨h89.t, h89.n, h89.n⟩) fun v92 h93 =>
cD ((pureB h89 h93 || sameLd h89 h93 (fent v88 3 (flat [v86]))) && true) (
wroteS h89.low h93 fun h94 =>
addrS 5 a3 fun v95 =>
load1 v95 h89 fun v96 =>
cD (((pureB h89 h93) || sameA h89 h94 v95 (vcells v96).length) && true) (
bindS (bldStruct h94 [(0, (uu 9)), (1, v88), (3, v92), (6, v96)] (.agg [(uu 0), .nilSlice, .nilSlice, .nilSlice, (ii 0), (ii 0), (ii 0)]) (some [(0, 1), (1, 1), (2, 1), (3, 1), (4, 1), (5, 1), (6, 1)])) fun v97 h98 =>
bindS (ih 184 [a0, v97] h94) fun v99 h100 =>
some (.tuple [], h100)) none) none) none) (
intS .eql a19 (uu 12) fun v101 =>
ifS v101 (
bindS (ih 182 [a0, a5] ⟨h.t, h.n, h.n⟩) fun v102 h103 =>
wroteS h.low h103 fun h104 =>
addrS 5 a3 fun v105 =>
load1 v105 h fun v106 =>
cD (((pureB h h103) || sameA h h104 v105 (vcells v106).length) && true) (
bindS (bldStruct h104 [(0, (uu 10)), (3, v102), (6, v106)] (.agg [(uu 0), .nilSlice, .nilSlice, .nilSlice, (ii 0), (ii 0), (ii 0)]) (some [(0, 1), (1, 1), (2, 1), (3, 1), (4, 1), (5, 1), (6, 1)])) fun v107 h108 =>
bindS (ih 184 [a0, v107] h104) fun v109 h110 =>
bindS (ih 190 [a0, v109] h110) fun v111 h112 =>
nilS v111 fun v113 =>
addrS 4 v113 fun v114 =>
storeC v114 (.int .i64 (.negSucc 0)) h112 fun h115 =>
some (.tuple [], h115)) none) (
intS .eql a19 (uu 13) fun v116 =>
ifS v116 (
loadN 6 a3 h fun v117 =>
bindS (ih 192 [a0, v117] h) fun v118 h119 =>
some (.tuple [], h119)) (
intS .eql a19 (uu 14) fun v120 =>
ifS v120 (
addrS 5 a3 fun v121 =>
load1 v121 h fun v122 =>
bindS (bldStruct h [(0, (uu 11)), (6, v122)] (.agg [(uu 0), .nilSlice, .nilSlice, .nilSlice, (ii 0), (ii 0), (ii 0)]) (some [(0, 1), (1, 1), (2, 1), (3, 1), (4, 1), (5, 1), (6, 1)])) fun v123 h124 =>
bindS (ih 184 [a0, v123] h124) fun v125 h126 =>
nilS a0 fun v127 =>
addrS 7 v127 fun v128 =>
load1 v128 h126 fun v129 =>
addrS 2 a3 fun v130 =>
load1 v130 h126 fun v131 =>
addrS 5 a3 fun v132 =>
load1 v132 h126 fun v133 =>
nilS a4 fun v134 =>
addrS 8 v134 fun v135 =>
load1 v135 h126 fun v136 =>
lenSl v136 fun v137 =>
nilS a4 fun v138 =>
addrS 9 v138 fun v139 =>
load1 v139 h126 fun v140 =>
bindS (ih 194 [v140] ⟨h126.t, h126.n, h126.n⟩) fun v141 h142 =>
cD ((pureB h126 h142 || false) && ((pureB h126 h142 || sameA h126 h142 v135 (vcells v136).length) && ((pureB h126 h142 || sameA h126 h142 v132 (vcells v133).length) && ((pureB h126 h142 || sameA h126 h142 v130 (vcells v131).length) && ((pureB h126 h142 || sameA h126 h142 v128 (vcells v129).length) && true))))) (
wroteS h126.low h142 fun h143 =>
bindS (bldStruct h143 [(0, a4), (1, v131), (2, v125), (3, v133), (4, v137), (5, v141)] (.agg [.nilPtr, (.str ⟨0, 0⟩), (ii 0), (ii 0), (ii 0), .nilSlice]) (some [(0, 1), (1, 1), (2, 1), (3, 1), (4, 1), (5, 1)])) fun v144 h145 =>
bindS (bldSl ⟨h143.t, h143.n, h143.n⟩ [(0, v144)] 68 1 6 (.agg [.nilPtr, (.str ⟨0, 0⟩), (ii 0), (ii 0), (ii 0), .nilSlice])) fun v146 h147 =>
madeS h143.n h143.low h147 fun h148 =>
bindS (appS 68 72 6 v129 v146 ⟨h148.t, h148.n, h148.n⟩) fun v149 h150 =>
wroteS h148.low h150 fun h151 =>
nilS a0 fun v152 =>
addrS 7 v152 fun v153 =>
storeC v153 v149 h151 fun h154 =>
some (.tuple [], h154)) none) (
some (.tuple [], h)))))))
noncomputable def G109 : Sh := fun ih vs h => consE (fun a0 => consE (fun a3 => consE (fun a4 => consE (fun a5 => consE (fun a19 => consE (fun a85 => nilE (B109 ih a0 a3 a4 a5 a19 a85 h))))))) vs
noncomputable def B114 (ih : II) (a0 a1 a2 : V) (h : Hp) : VH :=
newS 64 (vcells a1) h fun v0 h1 =>
bindS (ih 106 [a0] h1) fun v2 h3 =>
nilS v2 fun v4 =>
addrS 9 v4 fun v5 =>
load1 v5 h3 fun v6 =>
lenSl v6 fun v7 =>
ih 111 [a0, a2, v0, v2, v6, v7, (ii 0)] h3
noncomputable def G114 : Sh := fun ih vs h => consE (fun a0 => consE (fun a1 => consE (fun a2 => nilE (B114 ih a0 a1 a2 h)))) vs
noncomputable def B111 (ih : II) (a0 a2 a4 a6 a16 a17 a18 : V) (h : Hp) : VH :=
intS .lss a18 a17 fun v8 =>
ifS v8 (
idxS 1 a16 a18 fun v9 =>
load1 v9 h fun v10 =>
nilS v10 fun v11 =>
addrS 0 v11 fun v12 =>
load1 v12 h fun v13 =>
bindS (ih 176 [v13, (.func 89 [] [a4])] h) fun v14 h15 =>
ifS v14 (
addrS 5 a4 fun v16 =>
load1 v16 h15 fun v17 =>
bindS (ih 54 [a0, (ii 43), v17] h15) fun v18 h19 =>
ih 115 [a0, a2, a4, a6, a16, a17, a18] h19) (
ih 115 [a0, a2, a4, a6, a16, a17, a18] h15)) (
nilS a6 fun v20 =>
addrS 9 v20 fun v21 =>
load1 v21 h fun v22 =>
nilS a6 fun v23 =>
addrS 9 v23 fun v24 =>
load1 v24 h fun v25 =>
lenSl v25 fun v26 =>
intS .sub v26 (ii 1) fun v27 =>
idxS 1 v22 v27 fun v28 =>
load1 v28 h fun v29 =>
nilS a6 fun v30 =>
addrS 8 v30 fun v31 =>
load1 v31 h fun v32 =>
lenSl v32 fun v33 =>
ifS a2 (
nilS v29 fun v34 =>
addrS 1 v34 fun v35 =>
load1 v35 h fun v36 =>
ih 113 [a0, a4, v29, v36] h) (
ih 113 [a0, a4, v29, v33] h))
noncomputable def G111 : Sh := fun ih vs h => consE (fun a0 => consE (fun a2 => consE (fun a4 => consE (fun a6 => consE (fun a16 => consE (fun a17 => consE (fun a18 => nilE (B111 ih a0 a2 a4 a6 a16 a17 a18 h)))))))) vs
noncomputable def B113 (ih : II) (a0 a4 a9 a10 : V) (h : Hp) : VH :=
nilS a9 fun v37 =>
addrS 0 v37 fun v38 =>
load1 v38 h fun v39 =>
addrS 2 a4 fun v40 =>
load1 v40 h fun v41 =>
bindS (ih 180 [a0] ⟨h.t, h.n, h.n⟩) fun v42 h43 =>
cD ((pureB h h43 || sameA h h43 v40 (vcells v41).length) && ((pureB h h43 || sameA h h43 v38 (vcells v39).length) && true)) (
wroteS h.low h43 fun h44 =>
bindS (bldStruct h44 [(0, v41), (1, v42), (2, a10)] (.agg [(.str ⟨0, 0⟩), (ii 0), (ii 0)]) (some [(0, 1), (1, 1), (2, 1)])) fun v45 h46 =>
bindS (bldSl ⟨h44.t, h44.n, h44.n⟩ [(0, v45)] 103 1 3 (.agg [(.str ⟨0, 0⟩), (ii 0), (ii 0)])) fun v47 h48 =>
madeS h44.n h44.low h48 fun h49 =>
bindS (appS 103 32 3 v39 v47 ⟨h49.t, h49.n, h49.n⟩) fun v50 h51 =>
wroteS h49.low h51 fun h52 =>
nilS a9 fun v53 =>
addrS 0 v53 fun v54 =>
storeC v54 v50 h52 fun h55 =>
some (.tuple [], h55)) none
noncomputable def G113 : Sh := fun ih vs h => consE (fun a0 => consE (fun a4 => consE (fun a9 => consE (fun a10 => nilE (B113 ih a0 a4 a9 a10 h))))) vs
noncomputable def B115 (ih : II) (a0 a2 a4 a6 a16 a17 a18 : V) (h : Hp) : VH :=
intS .add a18 (ii 1) fun v56 =>
ih 111 [a0, a2, a4, a6, a16, a17, v56] h
noncomputable def G115 : Sh := fun ih vs h => consE (fun a0 => consE (fun a2 => consE (fun a4 => consE (fun a6 => consE (fun a16 => consE (fun a17 => consE (fun a18 => nilE (B115 ih a0 a2 a4 a6 a16 a17 a18 h)))))))) vs
noncomputable def B110 (ih : II) (a0 a1 : V) (h : Hp) : VH :=
bindS (ih 174 [a0, a1] h) fun v0 h1 =>
intS .geq v0 (ii 0) fun v2 =>
some (v2, h1)
noncomputable def G110 : Sh := fun ih vs h => consE (fun a0 => consE (fun a1 => nilE (B110 ih a0 a1 h))) vs
noncomputable def B112 (ih : II) (a0 a1 : V) (h : Hp) : VH :=
load1 a1 h fun v0 =>
nilS v0 fun v1 =>
addrS 0 v1 fun v2 =>
addrS 0 v2 fun v3 =>
load1 v3 h fun v4 =>
idxS 6 v4 a0 fun v5 =>
addrS 0 v5 fun v6 =>
load1 v6 h fun v7 =>
intS .neq v7 (uu 15) fun v8 =>
some (v8, h)
noncomputable def G112 : Sh := fun ih vs h => consE (fun a0 => consE (fun a1 => nilE (B112 ih a0 a1 h))) vs
noncomputable def B118 (ih : II) (a0 : V) (h : Hp) : VH :=
bindS (ih 106 [a0] h) fun v0 h1 =>
nilS v0 fun v2 =>
addrS 8 v2 fun v3 =>
load1 v3 h1 fun v4 =>
nilS v0 fun v5 =>
addrS 9 v5 fun v6 =>
load1 v6 h1 fun v7 =>
nilS v0 fun v8 =>
addrS 9 v8 fun v9 =>
load1 v9 h1 fun v10 =>
lenSl v10 fun v11 =>
intS .sub v11 (ii 1) fun v12 =>
idxS 1 v7 v12 fun v13 =>
load1 v13 h1 fun v14 =>
nilS v14 fun v15 =>
addrS 1 v15 fun v16 =>
load1 v16 h1 fun v17 =>
bindS (slSlK 136 1 none (some v17) h1 v4) fun v18 h19 =>
nilS v0 fun v20 =>
addrS 8 v20 fun v21 =>
storeC v21 v18 h1 fun h22 =>
nilS v0 fun v23 =>
addrS 9 v23 fun v24 =>
load1 v24 h22 fun v25 =>
nilS v0 fun v26 =>
addrS 9 v26 fun v27 =>
load1 v27 h22 fun v28 =>
lenSl v28 fun v29 =>
intS .sub v29 (ii 1) fun v30 =>
bindS (slSlK 101 1 none (some v30) h22 v25) fun v31 h32 =>
nilS v0 fun v33 =>
addrS 9 v33 fun v34 =>
storeC v34 v31 h22 fun h35 =>
some (.tuple [], h35)
noncomputable def G118 : Sh := fun ih vs h => consE (fun a0 => nilE (B118 ih a0 h)) vs
noncomputable def B108 (ih : II) (a0 a1 : V) (h : Hp) : VH :=
bindS (ih 106 [a0] h) fun v0 h1 =>
nilS v0 fun v2 =>
addrS 9 v2 fun v3 =>
load1 v3 h1 fun v4 =>
nilS v0 fun v5 =>
addrS 8 v5 fun v6 =>
load1 v6 h1 fun v7 =>
lenSl v7 fun v8 =>
bindS (bldStruct h1 [(1, v8), (2, a1)] (.agg [.nilSlice, (ii 0), .nilPtr]) (some [(0, 1), (1, 1), (2, 1)])) fun v9 h10 =>
newS 100 (vcells v9) ⟨h1.t, h1.n, h1.n⟩ fun v11 h12 =>
madeS h1.n h1.low h12 fun h13 =>
bindS (bldSl ⟨h13.t, h13.n, h13.n⟩ [(0, v11)] 101 1 1 .nilPtr) fun v14 h15 =>
madeS h13.n h13.low h15 fun h16 =>
bindS (appS 101 8 1 v4 v14 ⟨h16.t, h16.n, h16.n⟩) fun v17 h18 =>
wroteS h16.low h18 fun h19 =>
nilS v0 fun v20 =>
addrS 9 v20 fun v21 =>
storeC v21 v17 h19 fun h22 =>
some (.tuple [], h22)
noncomputable def G108 : Sh := fun ih vs h => consE (fun a0 => consE (fun a1 => nilE (B108 ih a0 a1 h))) vs
noncomputable def B106 (ih : II) (a0 : V) (h : Hp) : VH :=
nilS a0 fun v0 =>
addrS 5 v0 fun v1 =>
load1 v1 h fun v2 =>
nilS a0 fun v3 =>
addrS 5 v3 fun v4 =>
load1 v4 h fun v5 =>
lenSl v5 fun v6 =>
intS .sub v6 (ii 1) fun v7 =>
idxS 1 v2 v7 fun v8 =>
load1 v8 h fun v9 =>
some (v9, h)
noncomputable def G106 : Sh := fun ih vs h => consE (fun a0 => nilE (B106 ih a0 h)) vs
noncomputable def B102 (ih : II) (a0 a1 : V) (h : Hp) : VH :=
newS 84 (vcells a0) h fun v0 h1 =>
newS 64 (vcells a1) h1 fun v2 h3 =>
addrS 0 v2 fun v4 =>
load1 v4 h3 fun v5 =>
intS .eql v5 (uu 34) fun v6 =>
ifS v6 (
bindS (dynE ih (.func 85 [] [v0, v2]) [(ii 0)] h3) fun v7 h8 =>
intS .geq v7 (ii 11) fun v9 =>
some (v9, h8)) (
addrS 0 v2 fun v10 =>
load1 v10 h3 fun v11 =>
intS .eql v11 (uu 31) fun v12 =>
guardS v12 true (addrS 1 v2 fun v13 =>
load1 v13 h3 fun v14 =>
convI .u8 v14 fun v15 =>
intS .eql v15 (uu 11) fun v16 =>
some (v16, h3)) h3 fun v17 h18 =>
optS (pickV v12 v17 (.bool false)) fun v19 =>
ifS v19 (
bindS (dynE ih (.func 85 [] [v0, v2]) [(ii 0)] h18) fun v20 h21 =>
intS .gtr v20 (ii 8) fun v22 =>
guardS v22 true (bindS (dynE ih (.func 85 [] [v0, v2]) [(ii 1)] h21) fun v23 h24 =>
intS .geq v23 (ii 8) fun v25 =>
some (v25, h24)) h21 fun v26 h27 =>
optS (pickV v22 v26 (.bool false)) fun v28 =>
some (v28, h27)) (
addrS 0 v2 fun v29 =>
load1 v29 h18 fun v30 =>
intS .eql v30 (uu 31) fun v31 =>
guardS v31 false (addrS 0 v2 fun v32 =>
load1 v32 h18 fun v33 =>
intS .eql v33 (uu 32) fun v34 =>
some (v34, h18)) h18 fun v35 h36 =>
optS (pickV v31 (.bool true) v35) fun v37 =>
guardS v37 false (addrS 0 v2 fun v38 =>
load1 v38 h36 fun v39 =>
intS .eql v39 (uu 33) fun v40 =>
some (v40, h36)) h36 fun v41 h42 =>
optS (pickV v37 (.bool true) v41) fun v43 =>
ifS v43 (
bindS (dynE ih (.func 85 [] [v0, v2]) [(ii 0)] ⟨h42.t, h42.n, h42.n⟩) fun v44 h45 =>
wroteS h42.low h45 fun h46 =>
loadN 6 v2 h42 fun v47 =>
cD (((pureB h42 h45) || sameA h42 h46 v2 (vcells v47).length) && true) (
bindS (ih 172 [v47] ⟨h46.t, h46.n, h46.n⟩) fun v48 h49 =>
wroteS h46.low h49 fun h50 =>
intS .geq v44 v48 fun v51 =>
guardS v51 true (some ((.func 85 [] [v0, v2]), h50)) h50 fun v52 _ =>
guardB v51 true (
bindS (dynE ih v52 [(ii 1)] ⟨h50.t, h50.n, h50.n⟩) fun v53 h54 =>
wroteS h50.low h54 fun h55 =>
guardB v51 true (
loadN 6 v2 h50 fun v56 =>
cD (((pureB h50 h54) || sameA h50 h55 v2 (vcells v56).length) && true) (
guardS v51 true (bindS (ih 172 [v56] h55) fun v57 h58 =>
intS .gtr v53 v57 fun v59 =>
some (v59, h58)) h55 fun v60 h61 =>
optS (pickV v51 v60 (.bool false)) fun v62 =>
some (v62, h61)) none) (
guardS v51 true (bindS (ih 172 [undefV] h55) fun v63 h64 =>
intS .gtr v53 v63 fun v65 =>
some (v65, h64)) h55 fun v66 h67 =>
optS (pickV v51 v66 (.bool false)) fun v68 =>
some (v68, h67))) (
guardS v51 true (loadN 6 v2 h50 fun v69 =>
some (v69, h50)) h50 fun v70 _ =>
guardS v51 true (bindS (ih 172 [v70] h50) fun v71 h72 =>
intS .gtr undefV v71 fun v73 =>
some (v73, h72)) h50 fun v74 h75 =>
optS (pickV v51 v74 (.bool false)) fun v76 =>
some (v76, h75))) none) (
some ((.bool true), h42))))
noncomputable def G102 : Sh := fun ih vs h => consE (fun a0 => consE (fun a1 => nilE (B102 ih a0 a1 h))) vs
noncomputable def B100 (ih : II) (a0 a1 : V) (h : Hp) : VH :=
newS 84 (vcells a0) h fun v0 h1 =>
newS 64 (vcells a1) h1 fun v2 h3 =>
addrS 4 v2 fun v4 =>
load1 v4 h3 fun v5 =>
lenSl v5 fun v6 =>
addrS 0 v2 fun v7 =>
load1 v7 h3 fun v8 =>
intS .eql v8 (uu 20) fun v9 =>
ifS v9 (
ih 117 [v0, v2, v6, v8, v9] h3) (
intS .eql v8 (uu 21) fun v10 =>
ifS v10 (
ih 117 [v0, v2, v6, v8, v10] h3) (
intS .eql v8 (uu 22) fun v11 =>
ifS v11 (
ih 117 [v0, v2, v6, v8, v11] h3) (
intS .eql v8 (uu 25) fun v12 =>
ih 117 [v0, v2, v6, v8, v12] h3)))
noncomputable def G100 : Sh := fun ih vs h => consE (fun a0 => consE (fun a1 => nilE (B100 ih a0 a1 h))) vs
noncomputable def B117 (ih : II) (a2 a3 a5 a10 a11 : V) (h : Hp) : VH :=
ifS a11 (
loadN 6 a3 h fun v13 =>
bindS (ih 88 [v13, (.bool false), (.bool false), (.bool false)] h) fun v14 h15 =>
guardS v14 true (intS .eql a5 (ii 0) fun v16 =>
some (v16, h15)) h15 fun v17 h18 =>
optS (pickV v14 v17 (.bool false)) fun v19 =>
some (v19, h18)) (
intS .eql a10 (uu 23) fun v20 =>
ifS v20 (
loadN 6 a3 h fun v21 =>
bindS (ih 88 [v21, (.bool true), (.bool false), (.bool false)] h) fun v22 h23 =>
guardS v22 true (intS .eql a5 (ii 0) fun v24 =>
some (v24, h23)) h23 fun v25 h26 =>
optS (pickV v22 v25 (.bool false)) fun v27 =>
some (v27, h26)) (
intS .eql a10 (uu 24) fun v28 =>
ifS v28 (
loadN 6 a3 h fun v29 =>
bindS (ih 88 [v29, (.bool false), (.bool true), (.bool false)] h) fun v30 h31 =>
guardS v30 true (intS .eql a5 (ii 0) fun v32 =>
some (v32, h31)) h31 fun v33 h34 =>
optS (pickV v30 v33 (.bool false)) fun v35 =>
guardS v35 true (addrS 2 a3 fun v36 =>
load1 v36 h34 fun v37 =>
lenStr v37 fun v38 =>
intS .leq v38 (ii 65535) fun v39 =>
some (v39, h34)) h34 fun v40 h41 =>
optS (pickV v35 v40 (.bool false)) fun v42 =>
some (v42, h41)) (
intS .eql a10 (uu 27) fun v43 =>
ifS v43 (
loadN 6 a3 h fun v44 =>
bindS (ih 88 [v44, (.bool false), (.bool true), (.bool false)] h) fun v45 h46 =>
guardS v45 true (intS .eql a5 (ii 0) fun v47 =>
some (v47, h46)) h46 fun v48 h49 =>
optS (pickV v45 v48 (.bool false)) fun v50 =>
guardS v50 true (addrS 2 a3 fun v51 =>
load1 v51 h49 fun v52 =>
bindS (ih 162 [v52] h49) fun v53 h54 =>
some (v53, h54)) h49 fun v55 h56 =>
optS (pickV v50 v55 (.bool false)) fun v57 =>
some (v57, h56)) (
intS .eql a10 (uu 26) fun v58 =>
ifS v58 (
loadN 6 a3 h fun v59 =>
bindS (ih 88 [v59, (.bool true), (.bool false), (.bool true)] h) fun v60 h61 =>
guardS v60 true (addrS 1 a3 fun v62 =>
load1 v62 h61 fun v63 =>
intS .eql v63 (ii 0) fun v64 =>
some (v64, h61)) h61 fun v65 h66 =>
guardS v65 false (addrS 1 a3 fun v67 =>
load1 v67 h66 fun v68 =>
intS .eql v68 (ii 1) fun v69 =>
some (v69, h66)) h66 fun v70 h71 =>
guardS v60 true (optS (pickV v65 (.bool true) v70) fun v72 =>
some (v72, h71)) h71 fun v73 h74 =>
optS (pickV v60 v73 (.bool false)) fun v75 =>
guardS v75 true (addrS 3 a3 fun v76 =>
load1 v76 h74 fun v77 =>
bindS (ih 152 [v77, (ii 0)] h74) fun v78 h79 =>
some (v78, h79)) h74 fun v80 h81 =>
optS (pickV v75 v80 (.bool false)) fun v82 =>
guardS v82 true (intS .eql a5 (ii 1) fun v83 =>
some (v83, h81)) h81 fun v84 h85 =>
optS (pickV v82 v84 (.bool false)) fun v86 =>
guardS v86 true (loadN 2 a2 h85 fun v87 =>
loadN 6 a3 h85 fun v88 =>
bindS (ih 158 [v87, v88, (ii 0)] h85) fun v89 h90 =>
some (v89, h90)) h85 fun v91 h92 =>
optS (pickV v86 v91 (.bool false)) fun v93 =>
some (v93, h92)) (
intS .eql a10 (uu 28) fun v94 =>
ifS v94 (
loadN 6 a3 h fun v95 =>
bindS (ih 88 [v95, (.bool false), (.bool false), (.bool false)] h) fun v96 h97 =>
guardS v96 true (loadN 2 a2 h97 fun v98 =>
loadN 6 a3 h97 fun v99 =>
bindS (ih 164 [v98, v99, (ii 2)] h97) fun v100 h101 =>
some (v100, h101)) h97 fun v102 h103 =>
optS (pickV v96 v102 (.bool false)) fun v104 =>
guardS v104 true (loadN 2 a2 h103 fun v105 =>
loadN 6 a3 h103 fun v106 =>
bindS (ih 150 [v105, v106, (ii 0)] h103) fun v107 h108 =>
bindS (ih 166 [v107] h108) fun v109 h110 =>
some (v109, h110)) h103 fun v111 h112 =>
optS (pickV v104 v111 (.bool false)) fun v113 =>
some (v113, h112)) (
intS .eql a10 (uu 29) fun v114 =>
ifS v114 (
loadN 6 a3 h fun v115 =>
bindS (ih 88 [v115, (.bool false), (.bool false), (.bool false)] h) fun v116 h117 =>
guardS v116 true (intS .geq a5 (ii 1) fun v118 =>
some (v118, h117)) h117 fun v119 h120 =>
optS (pickV v116 v119 (.bool false)) fun v121 =>
guardS v121 true (loadN 2 a2 h120 fun v122 =>
loadN 6 a3 h120 fun v123 =>
bindS (ih 150 [v122, v123, (ii 0)] h120) fun v124 h125 =>
bindS (ih 166 [v124] h125) fun v126 h127 =>
some (v126, h127)) h120 fun v128 h129 =>
optS (pickV v121 v128 (.bool false)) fun v130 =>
guardS v130 true (loadN 2 a2 h129 fun v131 =>
loadN 6 a3 h129 fun v132 =>
bindS (ih 154 [v131, v132, (ii 1), a5, (ii 0)] h129) fun v133 h134 =>
some (v133, h134)) h129 fun v135 h136 =>
optS (pickV v130 v135 (.bool false)) fun v137 =>
some (v137, h136)) (
intS .eql a10 (uu 30) fun v138 =>
ifS v138 (
loadN 6 a3 h fun v139 =>
bindS (ih 88 [v139, (.bool false), (.bool true), (.bool false)] h) fun v140 h141 =>
guardS v140 true (addrS 2 a3 fun v142 =>
load1 v142 h141 fun v143 =>
bindS (ih 162 [v143] h141) fun v144 h145 =>
some (v144, h145)) h141 fun v146 h147 =>
optS (pickV v140 v146 (.bool false)) fun v148 =>
guardS v148 true (intS .geq a5 (ii 1) fun v149 =>
some (v149, h147)) h147 fun v150 h151 =>
optS (pickV v148 v150 (.bool false)) fun v152 =>
guardS v152 true (loadN 2 a2 h151 fun v153 =>
loadN 6 a3 h151 fun v154 =>
bindS (ih 150 [v153, v154, (ii 0)] h151) fun v155 h156 =>
bindS (ih 166 [v155] h156) fun v157 h158 =>
some (v157, h158)) h151 fun v159 h160 =>
optS (pickV v152 v159 (.bool false)) fun v161 =>
guardS v161 true (loadN 2 a2 h160 fun v162 =>
loadN 6 a3 h160 fun v163 =>
bindS (ih 154 [v162, v163, (ii 1), a5, (ii 0)] h160) fun v164 h165 =>
some (v164, h165)) h160 fun v166 h167 =>
optS (pickV v161 v166 (.bool false)) fun v168 =>
some (v168, h167)) (
intS .eql a10 (uu 31) fun v169 =>
ifS v169 (
loadN 6 a3 h fun v170 =>
bindS (ih 88 [v170, (.bool true), (.bool false), (.bool false)] h) fun v171 h172 =>
guardS v171 true (addrS 1 a3 fun v173 =>
load1 v173 h172 fun v174 =>
intS .geq v174 (ii 1) fun v175 =>
some (v175, h172)) h172 fun v176 h177 =>
optS (pickV v171 v176 (.bool false)) fun v178 =>
guardS v178 true (addrS 1 a3 fun v179 =>
load1 v179 h177 fun v180 =>
intS .leq v180 (ii 17) fun v181 =>
some (v181, h177)) h177 fun v182 h183 =>
optS (pickV v178 v182 (.bool false)) fun v184 =>
guardS v184 true (loadN 2 a2 h183 fun v185 =>
loadN 6 a3 h183 fun v186 =>
bindS (ih 164 [v185, v186, (ii 2)] h183) fun v187 h188 =>
some (v187, h188)) h183 fun v189 h190 =>
optS (pickV v184 v189 (.bool false)) fun v191 =>
some (v191, h190)) (
intS .eql a10 (uu 32) fun v192 =>
ifS v192 (
ih 119 [a2, a3, a5, a10, v192] h) (
intS .eql a10 (uu 33) fun v193 =>
ifS v193 (
ih 119 [a2, a3, a5, a10, v193] h) (
intS .eql a10 (uu 37) fun v194 =>
ih 119 [a2, a3, a5, a10, v194] h)))))))))))
noncomputable def G117 : Sh := fun ih vs h => consE (fun a2 => consE (fun a3 => consE (fun a5 => consE (fun a10 => consE (fun a11 => nilE (B117 ih a2 a3 a5 a10 a11 h)))))) vs
noncomputable def B98 (ih : II) (a0 : V) (h : Hp) : VH :=
intS .geq a0 (uu 20) fun v0 =>
guardS v0 true (intS .leq a0 (uu 35) fun v1 =>
some (v1, h)) h fun v2 h3 =>
optS (pickV v0 v2 (.bool false)) fun v4 =>
guardS v4 false (intS .eql a0 (uu 38) fun v5 =>
some (v5, h3)) h3 fun v6 h7 =>
optS (pickV v4 (.bool true) v6) fun v8 =>
some (v8, h7)
noncomputable def G98 : Sh := fun ih vs h => consE (fun a0 => nilE (B98 ih a0 h)) vs
noncomputable def B96 (ih : II) (a0 a1 : V) (h : Hp) : VH :=
newS 84 (vcells a0) h fun v0 h1 =>
newS 64 (vcells a1) h1 fun v2 h3 =>
addrS 4 v2 fun v4 =>
load1 v4 h3 fun v5 =>
lenSl v5 fun v6 =>
addrS 0 v2 fun v7 =>
load1 v7 h3 fun v8 =>
intS .eql v8 (uu 2) fun v9 =>
ifS v9 (
loadN 6 v2 h3 fun v10 =>
bindS (ih 88 [v10, (.bool false), (.bool false), (.bool true)] h3) fun v11 h12 =>
guardS v11 true (addrS 3 v2 fun v13 =>
load1 v13 h12 fun v14 =>
bindS (ih 152 [v14, (ii 1)] h12) fun v15 h16 =>
some (v15, h16)) h12 fun v17 h18 =>
optS (pickV v11 v17 (.bool false)) fun v19 =>
guardS v19 true (loadN 2 v0 h18 fun v20 =>
loadN 6 v2 h18 fun v21 =>
bindS (ih 154 [v20, v21, (ii 0), v6, (ii 0)] h18) fun v22 h23 =>
some (v22, h23)) h18 fun v24 h25 =>
optS (pickV v19 v24 (.bool false)) fun v26 =>
some (v26, h25)) (
intS .eql v8 (uu 3) fun v27 =>
ifS v27 (
addrS 1 v2 fun v28 =>
load1 v28 h3 fun v29 =>
loadN 6 v2 h3 fun v30 =>
bindS (ih 88 [v30, (.bool true), (.bool false), (.bool false)] h3) fun v31 h32 =>
guardS v31 true (addrS 1 v2 fun v33 =>
load1 v33 h32 fun v34 =>
intS .geq v34 (ii 1) fun v35 =>
some (v35, h32)) h32 fun v36 h37 =>
optS (pickV v31 v36 (.bool false)) fun v38 =>
guardS v38 true (addrS 1 v2 fun v39 =>
load1 v39 h37 fun v40 =>
intS .leq v40 (ii 200) fun v41 =>
some (v41, h37)) h37 fun v42 h43 =>
optS (pickV v38 v42 (.bool false)) fun v44 =>
guardS v44 true (intS .leq v29 v6 fun v45 =>
some (v45, h43)) h43 fun v46 h47 =>
optS (pickV v44 v46 (.bool false)) fun v48 =>
guardS v48 true (loadN 2 v0 h47 fun v49 =>
loadN 6 v2 h47 fun v50 =>
bindS (ih 90 [v49, v50, (ii 0), v29, (.func 78 [] [])] h47) fun v51 h52 =>
some (v51, h52)) h47 fun v53 h54 =>
optS (pickV v48 v53 (.bool false)) fun v55 =>
guardS v55 true (loadN 2 v0 h54 fun v56 =>
loadN 6 v2 h54 fun v57 =>
bindS (ih 154 [v56, v57, v29, v6, (ii 1)] h54) fun v58 h59 =>
some (v58, h59)) h54 fun v60 h61 =>
optS (pickV v55 v60 (.bool false)) fun v62 =>
some (v62, h61)) (
intS .eql v8 (uu 4) fun v63 =>
ifS v63 (
loadN 6 v2 h3 fun v64 =>
bindS (ih 88 [v64, (.bool false), (.bool false), (.bool false)] h3) fun v65 h66 =>
guardS v65 true (intS .eql v6 (ii 1) fun v67 =>
some (v67, h66)) h66 fun v68 h69 =>
optS (pickV v65 v68 (.bool false)) fun v70 =>
guardS v70 true (loadN 2 v0 h69 fun v71 =>
loadN 6 v2 h69 fun v72 =>
bindS (ih 150 [v71, v72, (ii 0)] h69) fun v73 h74 =>
intS .eql v73 (uu 29) fun v75 =>
some (v75, h74)) h69 fun v76 h77 =>
guardS v76 false (loadN 2 v0 h77 fun v78 =>
loadN 6 v2 h77 fun v79 =>
bindS (ih 150 [v78, v79, (ii 0)] h77) fun v80 h81 =>
intS .eql v80 (uu 30) fun v82 =>
some (v82, h81)) h77 fun v83 h84 =>
guardS v70 true (optS (pickV v76 (.bool true) v83) fun v85 =>
some (v85, h84)) h84 fun v86 h87 =>
optS (pickV v70 v86 (.bool false)) fun v88 =>
some (v88, h87)) (
intS .eql v8 (uu 5) fun v89 =>
ifS v89 (
loadN 6 v2 h3 fun v90 =>
bindS (ih 88 [v90, (.bool false), (.bool false), (.bool false)] h3) fun v91 h92 =>
guardS v91 true (intS .eql v6 (ii 1) fun v93 =>
some (v93, h92)) h92 fun v94 h95 =>
optS (pickV v91 v94 (.bool false)) fun v96 =>
guardS v96 true (loadN 2 v0 h95 fun v97 =>
loadN 6 v2 h95 fun v98 =>
bindS (ih 158 [v97, v98, (ii 0)] h95) fun v99 h100 =>
some (v99, h100)) h95 fun v101 h102 =>
optS (pickV v96 v101 (.bool false)) fun v103 =>
some (v103, h102)) (
intS .eql v8 (uu 6) fun v104 =>
ifS v104 (
loadN 6 v2 h3 fun v105 =>
bindS (ih 88 [v105, (.bool false), (.bool false), (.bool false)] h3) fun v106 h107 =>
guardS v106 true (intS .eql v6 (ii 2) fun v108 =>
some (v108, h107)) h107 fun v109 h110 =>
optS (pickV v106 v109 (.bool false)) fun v111 =>
guardS v111 true (loadN 2 v0 h110 fun v112 =>
loadN 6 v2 h110 fun v113 =>
bindS (ih 90 [v112, v113, (ii 0), (ii 1), (.func 49 [] [])] h110) fun v114 h115 =>
some (v114, h115)) h110 fun v116 h117 =>
optS (pickV v111 v116 (.bool false)) fun v118 =>
guardS v118 true (loadN 2 v0 h117 fun v119 =>
loadN 6 v2 h117 fun v120 =>
bindS (ih 158 [v119, v120, (ii 1)] h117) fun v121 h122 =>
some (v121, h122)) h117 fun v123 h124 =>
optS (pickV v118 v123 (.bool false)) fun v125 =>
some (v125, h124)) (
intS .eql v8 (uu 7) fun v126 =>
ifS v126 (
loadN 6 v2 h3 fun v127 =>
bindS (ih 88 [v127, (.bool false), (.bool false), (.bool false)] h3) fun v128 h129 =>
guardS v128 true (intS .eql v6 (ii 2) fun v130 =>
some (v130, h129)) h129 fun v131 h132 =>
optS (pickV v128 v131 (.bool false)) fun v133 =>
guardS v133 true (loadN 2 v0 h132 fun v134 =>
loadN 6 v2 h132 fun v135 =>
bindS (ih 158 [v134, v135, (ii 0)] h132) fun v136 h137 =>
some (v136, h137)) h132 fun v138 h139 =>
optS (pickV v133 v138 (.bool false)) fun v140 =>
guardS v140 true (loadN 2 v0 h139 fun v141 =>
loadN 6 v2 h139 fun v142 =>
bindS (ih 90 [v141, v142, (ii 1), (ii 2), (.func 49 [] [])] h139) fun v143 h144 =>
some (v143, h144)) h139 fun v145 h146 =>
optS (pickV v140 v145 (.bool false)) fun v147 =>
some (v147, h146)) (
intS .eql v8 (uu 8) fun v148 =>
ifS v148 (
loadN 6 v2 h3 fun v149 =>
bindS (ih 88 [v149, (.bool false), (.bool false), (.bool false)] h3) fun v150 h151 =>
guardS v150 true (loadN 2 v0 h151 fun v152 =>
loadN 6 v2 h151 fun v153 =>
bindS (ih 160 [v152, v153] h151) fun v154 h155 =>
some (v154, h155)) h151 fun v156 h157 =>
optS (pickV v150 v156 (.bool false)) fun v158 =>
some (v158, h157)) (
intS .eql v8 (uu 9) fun v159 =>
ifS v159 (
loadN 6 v2 h3 fun v160 =>
bindS (ih 88 [v160, (.bool false), (.bool false), (.bool true)] h3) fun v161 h162 =>
guardS v161 true (addrS 3 v2 fun v163 =>
load1 v163 h162 fun v164 =>
lenSl v164 fun v165 =>
intS .eql v165 (ii 1) fun v166 =>
some (v166, h162)) h162 fun v167 h168 =>
optS (pickV v161 v167 (.bool false)) fun v169 =>
guardS v169 true (addrS 3 v2 fun v170 =>
load1 v170 h168 fun v171 =>
idxS 1 v171 (ii 0) fun v172 =>
load1 v172 h168 fun v173 =>
bindS (ih 162 [v173] h168) fun v174 h175 =>
some (v174, h175)) h168 fun v176 h177 =>
optS (pickV v169 v176 (.bool false)) fun v178 =>
guardS v178 true (intS .eql v6 (ii 3) fun v179 =>
some (v179, h177)) h177 fun v180 h181 =>
guardS v180 false (intS .eql v6 (ii 4) fun v182 =>
some (v182, h181)) h181 fun v183 h184 =>
guardS v178 true (optS (pickV v180 (.bool true) v183) fun v185 =>
some (v185, h184)) h184 fun v186 h187 =>
optS (pickV v178 v186 (.bool false)) fun v188 =>
guardS v188 true (loadN 2 v0 h187 fun v189 =>
loadN 6 v2 h187 fun v190 =>
intS .sub v6 (ii 1) fun v191 =>
bindS (ih 90 [v189, v190, (ii 0), v191, (.func 49 [] [])] h187) fun v192 h193 =>
some (v192, h193)) h187 fun v194 h195 =>
optS (pickV v188 v194 (.bool false)) fun v196 =>
guardS v196 true (loadN 2 v0 h195 fun v197 =>
loadN 6 v2 h195 fun v198 =>
intS .sub v6 (ii 1) fun v199 =>
bindS (ih 158 [v197, v198, v199] h195) fun v200 h201 =>
some (v200, h201)) h195 fun v202 h203 =>
optS (pickV v196 v202 (.bool false)) fun v204 =>
some (v204, h203)) (
intS .eql v8 (uu 10) fun v205 =>
ifS v205 (
loadN 6 v2 h3 fun v206 =>
bindS (ih 88 [v206, (.bool false), (.bool false), (.bool true)] h3) fun v207 h208 =>
guardS v207 true (addrS 3 v2 fun v209 =>
load1 v209 h208 fun v210 =>
bindS (ih 152 [v210, (ii 1)] h208) fun v211 h212 =>
some (v211, h212)) h208 fun v213 h214 =>
optS (pickV v207 v213 (.bool false)) fun v215 =>
guardS v215 true (intS .gtr v6 (ii 1) fun v216 =>
some (v216, h214)) h214 fun v217 h218 =>
optS (pickV v215 v217 (.bool false)) fun v219 =>
guardS v219 true (loadN 2 v0 h218 fun v220 =>
loadN 6 v2 h218 fun v221 =>
intS .sub v6 (ii 1) fun v222 =>
bindS (ih 154 [v220, v221, (ii 0), v222, (ii 1)] h218) fun v223 h224 =>
some (v223, h224)) h218 fun v225 h226 =>
optS (pickV v219 v225 (.bool false)) fun v227 =>
guardS v227 true (loadN 2 v0 h226 fun v228 =>
loadN 6 v2 h226 fun v229 =>
intS .sub v6 (ii 1) fun v230 =>
bindS (ih 158 [v228, v229, v230] h226) fun v231 h232 =>
some (v231, h232)) h226 fun v233 h234 =>
optS (pickV v227 v233 (.bool false)) fun v235 =>
some (v235, h234)) (
intS .eql v8 (uu 11) fun v236 =>
ifS v236 (
loadN 6 v2 h3 fun v237 =>
bindS (ih 88 [v237, (.bool false), (.bool false), (.bool true)] h3) fun v238 h239 =>
guardS v238 true (addrS 3 v2 fun v240 =>
load1 v240 h239 fun v241 =>
lenSl v241 fun v242 =>
intS .eql v242 (ii 1) fun v243 =>
some (v243, h239)) h239 fun v244 h245 =>
optS (pickV v238 v244 (.bool false)) fun v246 =>
guardS v246 true (addrS 3 v2 fun v247 =>
load1 v247 h245 fun v248 =>
idxS 1 v248 (ii 0) fun v249 =>
load1 v249 h245 fun v250 =>
bindS (ih 162 [v250] h245) fun v251 h252 =>
some (v251, h252)) h245 fun v253 h254 =>
optS (pickV v246 v253 (.bool false)) fun v255 =>
guardS v255 true (intS .eql v6 (ii 1) fun v256 =>
some (v256, h254)) h254 fun v257 h258 =>
optS (pickV v255 v257 (.bool false)) fun v259 =>
guardS v259 true (loadN 2 v0 h258 fun v260 =>
loadN 6 v2 h258 fun v261 =>
bindS (ih 150 [v260, v261, (ii 0)] h258) fun v262 h263 =>
intS .eql v262 (uu 26) fun v264 =>
some (v264, h263)) h258 fun v265 h266 =>
optS (pickV v259 v265 (.bool false)) fun v267 =>
some (v267, h266)) (
intS .eql v8 (uu 12) fun v268 =>
ifS v268 (
loadN 6 v2 h3 fun v269 =>
bindS (ih 88 [v269, (.bool false), (.bool false), (.bool false)] h3) fun v270 h271 =>
guardS v270 true (loadN 2 v0 h271 fun v272 =>
loadN 6 v2 h271 fun v273 =>
bindS (ih 154 [v272, v273, (ii 0), v6, (ii 0)] h271) fun v274 h275 =>
some (v274, h275)) h271 fun v276 h277 =>
optS (pickV v270 v276 (.bool false)) fun v278 =>
some (v278, h277)) (
intS .eql v8 (uu 13) fun v279 =>
ifS v279 (
loadN 6 v2 h3 fun v280 =>
bindS (ih 88 [v280, (.bool false), (.bool false), (.bool false)] h3) fun v281 h282 =>
guardS v281 true (intS .eql v6 (ii 0) fun v283 =>
some (v283, h282)) h282 fun v284 h285 =>
optS (pickV v281 v284 (.bool false)) fun v286 =>
some (v286, h285)) (
loadN 6 v2 h3 fun v287 =>
bindS (ih 88 [v287, (.bool false), (.bool true), (.bool false)] h3) fun v288 h289 =>
guardS v288 true (intS .eql v6 (ii 0) fun v290 =>
some (v290, h289)) h289 fun v291 h292 =>
optS (pickV v288 v291 (.bool false)) fun v293 =>
guardS v293 true (addrS 2 v2 fun v294 =>
load1 v294 h292 fun v295 =>
bindS (ih 162 [v295] h292) fun v296 h297 =>
some (v296, h297)) h292 fun v298 h299 =>
optS (pickV v293 v298 (.bool false)) fun v300 =>
some (v300, h299)))))))))))))
noncomputable def G96 : Sh := fun ih vs h => consE (fun a0 => consE (fun a1 => nilE (B96 ih a0 a1 h))) vs
noncomputable def B92 (ih : II) (a0 : V) (h : Hp) : VH :=
intS .geq a0 (uu 2) fun v0 =>
guardS v0 true (intS .leq a0 (uu 15) fun v1 =>
some (v1, h)) h fun v2 h3 =>
optS (pickV v0 v2 (.bool false)) fun v4 =>
some (v4, h3)
noncomputable def G92 : Sh := fun ih vs h => consE (fun a0 => nilE (B92 ih a0 h)) vs
noncomputable def B90 (ih : II) (a0 a1 a2 a3 a4 : V) (h : Hp) : VH :=
newS 84 (vcells a0) h fun v0 h1 =>
newS 64 (vcells a1) h1 fun v2 h3 =>
ih 121 [a3, a4, v0, v2, a2] h3
noncomputable def G90 : Sh := fun ih vs h => consE (fun a0 => consE (fun a1 => consE (fun a2 => consE (fun a3 => consE (fun a4 => nilE (B90 ih a0 a1 a2 a3 a4 h)))))) vs
noncomputable def B121 (ih : II) (a3 a4 a5 a6 a11 : V) (h : Hp) : VH :=
intS .lss a11 a3 fun v4 =>
ifS v4 (
loadN 2 a5 h fun v5 =>
loadN 6 a6 h fun v6 =>
bindS (ih 150 [v5, v6, a11] h) fun v7 h8 =>
bindS (dynE ih a4 [v7] h8) fun v9 h10 =>
notS v9 fun v11 =>
ifS v11 (
some ((.bool false), h10)) (
intS .add a11 (ii 1) fun v12 =>
ih 121 [a3, a4, a5, a6, v12] h10)) (
some ((.bool true), h))
noncomputable def G121 : Sh := fun ih vs h => consE (fun a3 => consE (fun a4 => consE (fun a5 => consE (fun a6 => consE (fun a11 => nilE (B121 ih a3 a4 a5 a6 a11 h)))))) vs
noncomputable def B88 (ih : II) (a0 a1 a2 a3 : V) (h : Hp) : VH :=
newS 64 (vcells a0) h fun v0 h1 =>
guardS a1 false (addrS 1 v0 fun v2 =>
load1 v2 h1 fun v3 =>
intS .eql v3 (ii 0) fun v4 =>
some (v4, h1)) h1 fun v5 h6 =>
optS (pickV a1 (.bool true) v5) fun v7 =>
guardS v7 true (some (a2, h6)) h6 fun v8 h9 =>
guardS v8 false (addrS 2 v0 fun v10 =>
load1 v10 h9 fun v11 =>
strS .eql v11 (.str ⟨0, 0⟩) fun v12 =>
some (v12, h9)) h9 fun v13 h14 =>
guardS v7 true (optS (pickV v8 (.bool true) v13) fun v15 =>
some (v15, h14)) h14 fun v16 h17 =>
optS (pickV v7 v16 (.bool false)) fun v18 =>
guardS v18 true (some (a3, h17)) h17 fun v19 h20 =>
guardS v19 false (addrS 3 v0 fun v21 =>
load1 v21 h20 fun v22 =>
lenSl v22 fun v23 =>
intS .eql v23 (ii 0) fun v24 =>
some (v24, h20)) h20 fun v25 h26 =>
guardS v18 true (optS (pickV v19 (.bool true) v25) fun v27 =>
some (v27, h26)) h26 fun v28 h29 =>
optS (pickV v18 v28 (.bool false)) fun v30 =>
some (v30, h29)
noncomputable def G88 : Sh := fun ih vs h => consE (fun a0 => consE (fun a1 => consE (fun a2 => consE (fun a3 => nilE (B88 ih a0 a1 a2 a3 h))))) vs
noncomputable def B94 (ih : II) (a0 : V) (h : Hp) : VH :=
intS .neq a0 (uu 12) fun v0 =>
some (v0, h)
noncomputable def G94 : Sh := fun ih vs h => consE (fun a0 => nilE (B94 ih a0 h)) vs
noncomputable def B104 (ih : II) (a0 a1 : V) (h : Hp) : VH :=
lenSl a0 fun v0 =>
ih 123 [a0, a1, v0, (ii 0)] h
noncomputable def G104 : Sh := fun ih vs h => consE (fun a0 => consE (fun a1 => nilE (B104 ih a0 a1 h))) vs
noncomputable def B123 (ih : II) (a0 a1 a7 a8 : V) (h : Hp) : VH :=
intS .lss a8 a7 fun v1 =>
ifS v1 (
idxS 1 a0 a8 fun v2 =>
load1 v2 h fun v3 =>
eqS .bool .eql a1 v3 fun v4 =>
ifS v4 (
some (a8, h)) (
intS .add a8 (ii 1) fun v5 =>
ih 123 [a0, a1, a7, v5] h)) (
some ((.int .i64 (.negSucc 0)), h))
noncomputable def G123 : Sh := fun ih vs h => consE (fun a0 => consE (fun a1 => consE (fun a7 => consE (fun a8 => nilE (B123 ih a0 a1 a7 a8 h))))) vs
noncomputable def B238 (ih : II) (a0 a1 a2 : V) (h : Hp) : VH :=
bindS (ih 144 [a0, (.str ⟨2, 14906⟩)] h) fun v0 h1 =>
ifS v0 (
bindS (ih 146 [a0] h1) fun v2 h3 =>
nilS a1 fun v4 =>
addrS 0 v4 fun v5 =>
storeC v5 (uu 15) h3 fun h6 =>
bindS (ih 272 [a0] h6) fun v7 h8 =>
nilS a1 fun v9 =>
addrS 2 v9 fun v10 =>
storeC v10 v7 h8 fun h11 =>
bindS (ih 230 [a0, (.str ⟨2, 14906⟩)] h11) fun v12 h13 =>
some (.tuple [], h13)) (
bindS (ih 144 [a0, (.str ⟨5, 461195539042⟩)] h1) fun v14 h15 =>
ifS v14 (
bindS (ih 146 [a0] h15) fun v16 h17 =>
nilS a1 fun v18 =>
addrS 0 v18 fun v19 =>
storeC v19 (uu 13) h17 fun h20 =>
some (.tuple [], h20)) (
bindS (ih 144 [a0, (.str ⟨4, 1869901671⟩)] h15) fun v21 h22 =>
ifS v21 (
bindS (ih 146 [a0] h22) fun v23 h24 =>
nilS a1 fun v25 =>
addrS 0 v25 fun v26 =>
storeC v26 (uu 14) h24 fun h27 =>
bindS (ih 272 [a0] h27) fun v28 h29 =>
nilS a1 fun v30 =>
addrS 2 v30 fun v31 =>
storeC v31 v28 h29 fun h32 =>
some (.tuple [], h32)) (
bindS (ih 144 [a0, (.str ⟨8, 7957695015192261990⟩)] h22) fun v33 h34 =>
ifS v33 (
bindS (ih 140 [a0, a2] h34) fun v35 h36 =>
bindS (ih 146 [a0] h36) fun v37 h38 =>
bindS (ih 278 [a0, a1, a2] h38) fun v39 h40 =>
some (.tuple [], h40)) (
bindS (ih 144 [a0, (.str ⟨5, 465490374508⟩)] h34) fun v41 h42 =>
ifS v41 (
bindS (ih 146 [a0] h42) fun v43 h44 =>
bindS (ih 280 [a0, a1, a2] h44) fun v45 h46 =>
some (.tuple [], h46)) (
bindS (ih 282 [a0, a1, a2] h42) fun v47 h48 =>
some (.tuple [], h48))))))
noncomputable def G238 : Sh := fun ih vs h => consE (fun a0 => consE (fun a1 => consE (fun a2 => nilE (B238 ih a0 a1 a2 h)))) vs
noncomputable def B236 (ih : II) (a0 a1 : V) (h : Hp) : VH :=
bindS (ih 228 [a0, a1, (ii 0)] h) fun v0 h1 =>
bindS (bldSl h1 [(0, v0)] 3 1 1 (ii 0)) fun v2 h3 =>
ih 125 [a0, a1, v2] h3
noncomputable def G236 : Sh := fun ih vs h => consE (fun a0 => consE (fun a1 => nilE (B236 ih a0 a1 h))) vs
noncomputable def B125 (ih : II) (a0 a1 a5 : V) (h : Hp) : VH :=
bindS (ih 144 [a0, (.str ⟨1, 44⟩)] h) fun v4 h5 =>
ifS v4 (
bindS (ih 146 [a0] h5) fun v6 h7 =>
bindS (ih 266 [a0, a1] h7) fun v8 h9 =>
lenSl a5 fun v10 =>
bindS (ih 276 [a0, v10] h9) fun v11 h12 =>
bindS (ih 228 [a0, a1, (ii 0)] h12) fun v13 h14 =>
bindS (bldSl h14 [(0, v13)] 3 1 1 (ii 0)) fun v15 h16 =>
bindS (appS 3 8 1 a5 v15 h16) fun v17 h18 =>
ih 125 [a0, a1, v17] h18) (
some (a5, h5))
noncomputable def G125 : Sh := fun ih vs h => consE (fun a0 => consE (fun a1 => consE (fun a5 => nilE (B125 ih a0 a1 a5 h)))) vs
noncomputable def B234 (ih : II) (a0 a1 a2 : V) (h : Hp) : VH :=
bindS (ih 272 [a0] h) fun v0 h1 =>
bindS (bldSl h1 [(0, v0)] 9 1 1 (.str ⟨0, 0⟩)) fun v2 h3 =>
nilS a1 fun v4 =>
addrS 3 v4 fun v5 =>
storeC v5 v2 h3 fun h6 =>
bindS (ih 144 [a0, (.str ⟨1, 61⟩)] h6) fun v7 h8 =>
ifS v7 (
bindS (ih 146 [a0] h8) fun v9 h10 =>
nilS a1 fun v11 =>
addrS 0 v11 fun v12 =>
storeC v12 (uu 9) h10 fun h13 =>
bindS (ih 228 [a0, a2, (ii 0)] h13) fun v14 h15 =>
bindS (bldSl h15 [(0, v14)] 3 1 1 (ii 0)) fun v16 h17 =>
nilS a1 fun v18 =>
addrS 4 v18 fun v19 =>
storeC v19 v16 h17 fun h20 =>
bindS (ih 230 [a0, (.str ⟨1, 44⟩)] h20) fun v21 h22 =>
nilS a1 fun v23 =>
addrS 4 v23 fun v24 =>
load1 v24 h22 fun v25 =>
bindS (ih 228 [a0, a2, (ii 0)] ⟨h22.t, h22.n, h22.n⟩) fun v26 h27 =>
cD ((pureB h22 h27 || sameA h22 h27 v24 (vcells v25).length) && true) (
wroteS h22.low h27 fun h28 =>
bindS (bldSl ⟨h28.t, h28.n, h28.n⟩ [(0, v26)] 3 1 1 (ii 0)) fun v29 h30 =>
madeS h28.n h28.low h30 fun h31 =>
bindS (appS 3 8 1 v25 v29 ⟨h31.t, h31.n, h31.n⟩) fun v32 h33 =>
wroteS h31.low h33 fun h34 =>
nilS a1 fun v35 =>
addrS 4 v35 fun v36 =>
storeC v36 v32 h34 fun h37 =>
bindS (ih 144 [a0, (.str ⟨1, 44⟩)] h37) fun v38 h39 =>
ifS v38 (
bindS (ih 146 [a0] h39) fun v40 h41 =>
nilS a1 fun v42 =>
addrS 4 v42 fun v43 =>
load1 v43 h41 fun v44 =>
bindS (ih 228 [a0, a2, (ii 0)] ⟨h41.t, h41.n, h41.n⟩) fun v45 h46 =>
cD ((pureB h41 h46 || sameA h41 h46 v43 (vcells v44).length) && true) (
wroteS h41.low h46 fun h47 =>
bindS (bldSl ⟨h47.t, h47.n, h47.n⟩ [(0, v45)] 3 1 1 (ii 0)) fun v48 h49 =>
madeS h47.n h47.low h49 fun h50 =>
bindS (appS 3 8 1 v44 v48 ⟨h50.t, h50.n, h50.n⟩) fun v51 h52 =>
wroteS h50.low h52 fun h53 =>
nilS a1 fun v54 =>
addrS 4 v54 fun v55 =>
storeC v55 v51 h53 fun h56 =>
ih 127 [a0, a1, a2] h56) none) (
ih 127 [a0, a1, a2] h39)) none) (
nilS a1 fun v57 =>
addrS 0 v57 fun v58 =>
storeC v58 (uu 10) h8 fun h59 =>
nilS a1 fun v60 =>
addrS 3 v60 fun v61 =>
load1 v61 h59 fun v62 =>
bindS (ih 274 [a0, v62] h59) fun v63 h64 =>
nilS a1 fun v65 =>
addrS 3 v65 fun v66 =>
storeC v66 v63 h64 fun h67 =>
bindS (ih 230 [a0, (.str ⟨2, 28265⟩)] h67) fun v68 h69 =>
bindS (ih 236 [a0, a2] h69) fun v70 h71 =>
nilS a1 fun v72 =>
addrS 4 v72 fun v73 =>
storeC v73 v70 h71 fun h74 =>
ih 127 [a0, a1, a2] h74)
noncomputable def G234 : Sh := fun ih vs h => consE (fun a0 => consE (fun a1 => consE (fun a2 => nilE (B234 ih a0 a1 a2 h)))) vs
noncomputable def B127 (ih : II) (a0 a1 a2 : V) (h : Hp) : VH :=
bindS (ih 230 [a0, (.str ⟨2, 28516⟩)] h) fun v75 h76 =>
nilS a1 fun v77 =>
addrS 4 v77 fun v78 =>
load1 v78 h76 fun v79 =>
bindS (ih 74 [a0, a2] ⟨h76.t, h76.n, h76.n⟩) fun v80 h81 =>
cD ((pureB h76 h81 || sameA h76 h81 v78 (vcells v79).length) && true) (
wroteS h76.low h81 fun h82 =>
bindS (bldSl ⟨h82.t, h82.n, h82.n⟩ [(0, v80)] 3 1 1 (ii 0)) fun v83 h84 =>
madeS h82.n h82.low h84 fun h85 =>
bindS (appS 3 8 1 v79 v83 ⟨h85.t, h85.n, h85.n⟩) fun v86 h87 =>
wroteS h85.low h87 fun h88 =>
nilS a1 fun v89 =>
addrS 4 v89 fun v90 =>
storeC v90 v86 h88 fun h91 =>
bindS (ih 230 [a0, (.str ⟨3, 6581861⟩)] h91) fun v92 h93 =>
some (.tuple [], h93)) none
noncomputable def G127 : Sh := fun ih vs h => consE (fun a0 => consE (fun a1 => consE (fun a2 => nilE (B127 ih a0 a1 a2 h)))) vs
noncomputable def B232 (ih : II) (a0 a1 : V) (h : Hp) : VH :=
ih 131 [a0, a1, .nilSlice] h
noncomputable def G232 : Sh := fun ih vs h => consE (fun a0 => consE (fun a1 => nilE (B232 ih a0 a1 h))) vs
noncomputable def B129 (ih : II) (a0 a1 a5 : V) (h : Hp) : VH :=
bindS (ih 144 [a0, (.str ⟨4, 1702063205⟩)] h) fun v0 h1 =>
ifS v0 (
bindS (ih 146 [a0] h1) fun v2 h3 =>
bindS (ih 74 [a0, a1] h3) fun v4 h5 =>
bindS (bldSl h5 [(0, v4)] 3 1 1 (ii 0)) fun v6 h7 =>
bindS (appS 3 8 1 a5 v6 h7) fun v8 h9 =>
ih 133 [a0, v8] h9) (
ih 133 [a0, a5] h1)
noncomputable def G129 : Sh := fun ih vs h => consE (fun a0 => consE (fun a1 => consE (fun a5 => nilE (B129 ih a0 a1 a5 h)))) vs
noncomputable def B131 (ih : II) (a0 a1 a5 : V) (h : Hp) : VH :=
bindS (ih 144 [a0, (.str ⟨2, 26217⟩)] h) fun v10 h11 =>
guardS v10 false (bindS (ih 144 [a0, (.str ⟨6, 112602859662437⟩)] h11) fun v12 h13 =>
some (v12, h13)) h11 fun v14 h15 =>
optS (pickV v10 (.bool true) v14) fun v16 =>
ifS v16 (
bindS (ih 146 [a0] h15) fun v17 h18 =>
bindS (ih 228 [a0, a1, (ii 0)] h18) fun v19 h20 =>
bindS (bldSl h20 [(0, v19)] 3 1 1 (ii 0)) fun v21 h22 =>
bindS (appS 3 8 1 a5 v21 h22) fun v23 h24 =>
bindS (ih 230 [a0, (.str ⟨4, 1852139636⟩)] h24) fun v25 h26 =>
bindS (ih 74 [a0, a1] h26) fun v27 h28 =>
bindS (bldSl h28 [(0, v27)] 3 1 1 (ii 0)) fun v29 h30 =>
bindS (appS 3 8 1 v23 v29 h30) fun v31 h32 =>
bindS (ih 144 [a0, (.str ⟨2, 26217⟩)] h32) fun v33 h34 =>
ifS v33 (
ih 129 [a0, a1, v31] h34) (
ih 131 [a0, a1, v31] h34)) (
ih 129 [a0, a1, a5] h15)
noncomputable def G131 : Sh := fun ih vs h => consE (fun a0 => consE (fun a1 => consE (fun a5 => nilE (B131 ih a0 a1 a5 h)))) vs
noncomputable def B133 (ih : II) (a0 a5 : V) (h : Hp) : VH :=
bindS (ih 230 [a0, (.str ⟨3, 6581861⟩)] h) fun v35 h36 =>
some (a5, h36)
noncomputable def G133 : Sh := fun ih vs h => consE (fun a0 => consE (fun a5 => nilE (B133 ih a0 a5 h))) vs
noncomputable def B228 (ih : II) (a0 a1 a2 : V) (h : Hp) : VH :=
bindS (ih 266 [a0, a1] h) fun v0 h1 =>
bindS (ih 138 [a0] h1) fun v2 h3 =>
bindS (bldSl h3 [(0, (.str ⟨1, 45⟩)), (1, (.str ⟨3, 7630702⟩)), (2, (.str ⟨1, 35⟩)), (3, (.str ⟨1, 126⟩))] 9 4 1 (.str ⟨0, 0⟩)) fun v4 h5 =>
ih 137 [a0, a1, a2, v2, (ii 0), v4, (.bool false), (ii 0)] h5
noncomputable def G228 : Sh := fun ih vs h => consE (fun a0 => consE (fun a1 => consE (fun a2 => nilE (B228 ih a0 a1 a2 h)))) vs
noncomputable def B135 (ih : II) (a0 a1 a2 a7 a8 : V) (h : Hp) : VH :=
ih 141 [a0, a1, a2, a7, a8] h
noncomputable def G135 : Sh := fun ih vs h => consE (fun a0 => consE (fun a1 => consE (fun a2 => consE (fun a7 => consE (fun a8 => nilE (B135 ih a0 a1 a2 a7 a8 h)))))) vs
noncomputable def B137 (ih : II) (a0 a1 a2 a7 a8 a9 a10 a11 : V) (h : Hp) : VH :=
lenSl a9 fun v6 =>
intS .lss a11 v6 fun v7 =>
ifS v7 (
notS a10 fun v8 =>
guardS v8 true (idxS 1 a9 a11 fun v9 =>
load1 v9 h fun v10 =>
bindS (ih 144 [a0, v10] h) fun v11 h12 =>
some (v11, h12)) h fun v13 h14 =>
optS (pickV v8 v13 (.bool false)) fun v15 =>
ifS v15 (
bindS (ih 146 [a0] h14) fun v16 h17 =>
intS .add a1 (ii 1) fun v18 =>
bindS (ih 228 [a0, v18, (ii 11)] h17) fun v19 h20 =>
intS .add (ii 18) a11 fun v21 =>
bindS (bldSl h20 [(0, v19)] 3 1 1 (ii 0)) fun v22 h23 =>
bindS (bldStruct h23 [(0, (uu 34)), (1, v21), (4, v22), (5, a7)] (.agg [(uu 0), (ii 0), (.str ⟨0, 0⟩), .nilSlice, .nilSlice, (ii 0)]) (some [(0, 1), (1, 1), (2, 1), (3, 1), (4, 1), (5, 1)])) fun v24 h25 =>
bindS (ih 80 [a0, v24] h25) fun v26 h27 =>
ih 143 [a0, a1, a2, a7, v26, a9, (.bool true), a11] h27) (
ih 143 [a0, a1, a2, a7, a8, a9, a10, a11] h14)) (
notS a10 fun v28 =>
ifS v28 (
bindS (ih 268 [a0, a1] h) fun v29 h30 =>
ih 135 [a0, a1, a2, a7, v29] h30) (
ih 135 [a0, a1, a2, a7, a8] h))
noncomputable def G137 : Sh := fun ih vs h => consE (fun a0 => consE (fun a1 => consE (fun a2 => consE (fun a7 => consE (fun a8 => consE (fun a9 => consE (fun a10 => consE (fun a11 => nilE (B137 ih a0 a1 a2 a7 a8 a9 a10 a11 h))))))))) vs
noncomputable def B139 (ih : II) (a8 : V) (h : Hp) : VH :=
some (a8, h)
noncomputable def G139 : Sh := fun ih vs h => consE (fun a8 => nilE (B139 ih a8 h)) vs
noncomputable def B141 (ih : II) (a0 a1 a2 a7 a8 : V) (h : Hp) : VH :=
bindS (ih 82 [a0] h) fun v31 h32 =>
notS v31 fun v33 =>
ifS v33 (
bindS (ih 270 [a0] h32) fun v34 h35 =>
extS 0 v34 fun v36 =>
extS 1 v34 fun v37 =>
extS 2 v34 fun v38 =>
intS .eql v36 (uu 0) fun v39 =>
guardS v39 false (intS .lss v38 a2 fun v40 =>
some (v40, h35)) h35 fun v41 h42 =>
optS (pickV v39 (.bool true) v41) fun v43 =>
ifS v43 (
ih 139 [a8] h42) (
bindS (ih 146 [a0] h42) fun v44 h45 =>
intS .add v38 (ii 1) fun v46 =>
intS .eql v38 (ii 8) fun v47 =>
ifS v47 (
ih 145 [a0, a1, a2, a7, a8, v36, v37, v38] h45) (
ih 145 [a0, a1, a2, a7, a8, v36, v37, v46] h45))) (
ih 139 [a8] h32)
noncomputable def G141 : Sh := fun ih vs h => consE (fun a0 => consE (fun a1 => consE (fun a2 => consE (fun a7 => consE (fun a8 => nilE (B141 ih a0 a1 a2 a7 a8 h)))))) vs
noncomputable def B143 (ih : II) (a0 a1 a2 a7 a8 a9 a10 a11 : V) (h : Hp) : VH :=
intS .add a11 (ii 1) fun v48 =>
ih 137 [a0, a1, a2, a7, a8, a9, a10, v48] h
noncomputable def G143 : Sh := fun ih vs h => consE (fun a0 => consE (fun a1 => consE (fun a2 => consE (fun a7 => consE (fun a8 => consE (fun a9 => consE (fun a10 => consE (fun a11 => nilE (B143 ih a0 a1 a2 a7 a8 a9 a10 a11 h))))))))) vs
noncomputable def B145 (ih : II) (a0 a1 a2 a7 a8 a13 a14 a16 : V) (h : Hp) : VH :=
intS .add a1 (ii 1) fun v49 =>
bindS (ih 228 [a0, v49, a16] h) fun v50 h51 =>
bindS (bldSl h51 [(0, a8), (1, v50)] 3 2 1 (ii 0)) fun v52 h53 =>
bindS (bldStruct h53 [(0, a13), (1, a14), (4, v52), (5, a7)] (.agg [(uu 0), (ii 0), (.str ⟨0, 0⟩), .nilSlice, .nilSlice, (ii 0)]) (some [(0, 1), (1, 1), (2, 1), (3, 1), (4, 1), (5, 1)])) fun v54 h55 =>
bindS (ih 80 [a0, v54] h55) fun v56 h57 =>
ih 141 [a0, a1, a2, a7, v56] h57
noncomputable def G145 : Sh := fun ih vs h => consE (fun a0 => consE (fun a1 => consE (fun a2 => consE (fun a7 => consE (fun a8 => consE (fun a13 => consE (fun a14 => consE (fun a16 => nilE (B145 ih a0 a1 a2 a7 a8 a13 a14 a16 h))))))))) vs
noncomputable def B230 (ih : II) (a0 a1 : V) (h : Hp) : VH :=
bindS (ih 144 [a0, a1] h) fun v0 h1 =>
notS v0 fun v2 =>
ifS v2 (
bindS (ih 78 [a0, (ii 40)] h1) fun v3 h4 =>
some (.tuple [], h4)) (
bindS (ih 146 [a0] h1) fun v5 h6 =>
some (.tuple [], h6))
noncomputable def G230 : Sh := fun ih vs h => consE (fun a0 => consE (fun a1 => nilE (B230 ih a0 a1 h))) vs
noncomputable def B226 (ih : II) (a0 a1 : V) (h : Hp) : VH :=
ih 147 [a0, a1, (ii 0)] h
noncomputable def G226 : Sh := fun ih vs h => consE (fun a0 => consE (fun a1 => nilE (B226 ih a0 a1 h))) vs
noncomputable def B147 (ih : II) (a0 a1 a5 : V) (h : Hp) : VH :=
lenSl a1 fun v0 =>
intS .lss a5 v0 fun v1 =>
ifS v1 (
idxS 1 a1 a5 fun v2 =>
load1 v2 h fun v3 =>
bindS (ih 144 [a0, v3] h) fun v4 h5 =>
ifS v4 (
some ((.bool true), h5)) (
intS .add a5 (ii 1) fun v6 =>
ih 147 [a0, a1, v6] h5)) (
some ((.bool false), h))
noncomputable def G147 : Sh := fun ih vs h => consE (fun a0 => consE (fun a1 => consE (fun a5 => nilE (B147 ih a0 a1 a5 h)))) vs
noncomputable def B202 (ih : II) (a0 a1 : V) (h : Hp) : VH :=
bindS (ih 210 [a0, a1] h) fun v0 h1 =>
intS .neq v0 (uu 10) fun v2 =>
guardS v2 true (bindS (ih 210 [a0, a1] h1) fun v3 h4 =>
intS .neq v3 (uu 13) fun v5 =>
some (v5, h4)) h1 fun v6 h7 =>
optS (pickV v2 v6 (.bool false)) fun v8 =>
ifS v8 (
some ((ii 0), h7)) (
bindS (ih 210 [a0, a1] h7) fun v9 h10 =>
intS .add a1 (ii 1) fun v11 =>
bindS (ih 210 [a0, v11] h10) fun v12 h13 =>
intS .add v9 v12 fun v14 =>
intS .eql v14 (uu 23) fun v15 =>
guardS v15 true (intS .add a1 (ii 1) fun v16 =>
bindS (ih 210 [a0, v16] h13) fun v17 h18 =>
intS .eql v17 (uu 10) fun v19 =>
some (v19, h18)) h13 fun v20 h21 =>
guardS v20 false (intS .add a1 (ii 1) fun v22 =>
bindS (ih 210 [a0, v22] h21) fun v23 h24 =>
intS .eql v23 (uu 13) fun v25 =>
some (v25, h24)) h21 fun v26 h27 =>
guardS v15 true (optS (pickV v20 (.bool true) v26) fun v28 =>
some (v28, h27)) h27 fun v29 h30 =>
optS (pickV v15 v29 (.bool false)) fun v31 =>
ifS v31 (
some ((ii 2), h30)) (
some ((ii 1), h30)))
noncomputable def G202 : Sh := fun ih vs h => consE (fun a0 => consE (fun a1 => nilE (B202 ih a0 a1 h))) vs
noncomputable def B224 (ih : II) (a0 a1 : V) (h : Hp) : VH :=
newS 152 [(uu 0), (.str ⟨0, 0⟩), (ii 0), (ii 0)] h fun v0 h1 =>
bindS (ih 264 [] h1) fun v2 h3 =>
ih 149 [a0, a1, v0, (.str ⟨0, 0⟩), v2, (ii 0)] h3
noncomputable def G224 : Sh := fun ih vs h => consE (fun a0 => consE (fun a1 => nilE (B224 ih a0 a1 h))) vs
noncomputable def B149 (ih : II) (a0 a1 a4 a7 a8 a9 : V) (h : Hp) : VH :=
lenSl a8 fun v4 =>
intS .lss a9 v4 fun v5 =>
ifS v5 (
idxS 1 a8 a9 fun v6 =>
load1 v6 h fun v7 =>
bindS (ih 204 [a0, a1, v7] h) fun v8 h9 =>
guardS v8 true (idxS 1 a8 a9 fun v10 =>
load1 v10 h9 fun v11 =>
lenStr v11 fun v12 =>
lenStr a7 fun v13 =>
intS .gtr v12 v13 fun v14 =>
some (v14, h9)) h9 fun v15 h16 =>
optS (pickV v8 v15 (.bool false)) fun v17 =>
ifS v17 (
idxS 1 a8 a9 fun v18 =>
load1 v18 h16 fun v19 =>
ih 151 [a0, a1, a4, v19, a8, a9] h16) (
ih 151 [a0, a1, a4, a7, a8, a9] h16)) (
strS .neq a7 (.str ⟨0, 0⟩) fun v20 =>
ifS v20 (
bindS (bldStruct h [(0, (uu 3)), (1, a7)] (.agg [(uu 0), (.str ⟨0, 0⟩), (ii 0), (ii 0)]) (some [(0, 1), (1, 1), (2, 1), (3, 1)])) fun v21 h22 =>
lenStr a7 fun v23 =>
storeN 4 a4 v21 h22 fun h24 =>
loadN 4 a4 h24 fun v25 =>
some (.tuple [v25, v23, (ii 0)], h24)) (
idxStr a0 a1 fun v26 =>
intS .eql v26 (uu 47) fun v27 =>
guardS v27 false (idxStr a0 a1 fun v28 =>
intS .eql v28 (uu 94) fun v29 =>
some (v29, h)) h fun v30 h31 =>
optS (pickV v27 (.bool true) v30) fun v32 =>
ifS v32 (
bindS (bldStruct h31 [] (.agg [(uu 0), (.str ⟨0, 0⟩), (ii 0), (ii 0)]) (some [(0, 1), (1, 1), (2, 1), (3, 1)])) fun v33 h34 =>
storeN 4 a4 v33 h34 fun h35 =>
loadN 4 a4 h35 fun v36 =>
some (.tuple [v36, (ii 0), (ii 31)], h35)) (
bindS (bldStruct h31 [] (.agg [(uu 0), (.str ⟨0, 0⟩), (ii 0), (ii 0)]) (some [(0, 1), (1, 1), (2, 1), (3, 1)])) fun v37 h38 =>
storeN 4 a4 v37 h38 fun h39 =>
loadN 4 a4 h39 fun v40 =>
some (.tuple [v40, (ii 0), (ii 30)], h39))))
noncomputable def G149 : Sh := fun ih vs h => consE (fun a0 => consE (fun a1 => consE (fun a4 => consE (fun a7 => consE (fun a8 => consE (fun a9 => nilE (B149 ih a0 a1 a4 a7 a8 a9 h))))))) vs
noncomputable def B151 (ih : II) (a0 a1 a4 a7 a8 a9 : V) (h : Hp) : VH :=
intS .add a9 (ii 1) fun v41 =>
ih 149 [a0, a1, a4, a7, a8, v41] h
noncomputable def G151 : Sh := fun ih vs h => consE (fun a0 => consE (fun a1 => consE (fun a4 => consE (fun a7 => consE (fun a8 => consE (fun a9 => nilE (B151 ih a0 a1 a4 a7 a8 a9 h))))))) vs
noncomputable def B204 (ih : II) (a0 a1 a2 : V) (h : Hp) : VH :=
lenStr a2 fun v0 =>
intS .add a1 v0 fun v1 =>
lenStr a0 fun v2 =>
intS .leq v1 v2 fun v3 =>
guardS v3 true (lenStr a2 fun v4 =>
intS .add a1 v4 fun v5 =>
slStrK (some a1) (some v5) a0 fun v6 =>
strS .eql v6 a2 fun v7 =>
some (v7, h)) h fun v8 h9 =>
optS (pickV v3 v8 (.bool false)) fun v10 =>
some (v10, h9)
noncomputable def G204 : Sh := fun ih vs h => consE (fun a0 => consE (fun a1 => consE (fun a2 => nilE (B204 ih a0 a1 a2 h)))) vs
noncomputable def B206 (ih : II) (a0 a1 : V) (h : Hp) : VH :=
bindS (ih 210 [a0, a1] h) fun v0 h1 =>
intS .neq v0 (uu 91) fun v2 =>
ifS v2 (
some (.tuple [(.str ⟨0, 0⟩), (ii 0), (.bool false)], h1)) (
intS .add a1 (ii 1) fun v3 =>
ih 163 [a0, a1, (.str ⟨1, 93⟩), v3] h1)
noncomputable def G206 : Sh := fun ih vs h => consE (fun a0 => consE (fun a1 => nilE (B206 ih a0 a1 h))) vs
noncomputable def B218 (ih : II) (a0 : V) (h : Hp) : VH :=
bindS (ih 204 [a0, (ii 0), (.str ⟨2, 30768⟩)] h) fun v0 h1 =>
guardS v0 false (bindS (ih 204 [a0, (ii 0), (.str ⟨2, 22576⟩)] h1) fun v2 h3 =>
some (v2, h3)) h1 fun v4 h5 =>
optS (pickV v0 (.bool true) v4) fun v6 =>
ih 169 [a0, v6, (.bool true), (.bool false), (ii 0)] h5
noncomputable def G218 : Sh := fun ih vs h => consE (fun a0 => nilE (B218 ih a0 h)) vs
noncomputable def B169 (ih : II) (a0 a4 a5 a6 a7 : V) (h : Hp) : VH :=
lenStr a0 fun v7 =>
intS .lss a7 v7 fun v8 =>
ifS v8 (
idxStr a0 a7 fun v9 =>
guardS a5 true (bindS (ih 212 [v9] h) fun v10 h11 =>
some (v10, h11)) h fun v12 h13 =>
optS (pickV a5 v12 (.bool false)) fun v14 =>
guardS a6 false (intS .eql v9 (uu 46) fun v15 =>
some (v15, h13)) h13 fun v16 h17 =>
optS (pickV a6 (.bool true) v16) fun v18 =>
guardS v18 false (notS a4 fun v19 =>
some (v19, h17)) h17 fun v20 h21 =>
guardS v20 true (intS .eql v9 (uu 101) fun v22 =>
some (v22, h21)) h21 fun v23 h24 =>
guardS v23 false (intS .eql v9 (uu 69) fun v25 =>
some (v25, h24)) h24 fun v26 h27 =>
guardS v20 true (optS (pickV v23 (.bool true) v26) fun v28 =>
some (v28, h27)) h27 fun v29 h30 =>
guardS v18 false (optS (pickV v20 v29 (.bool false)) fun v31 =>
some (v31, h30)) h30 fun v32 h33 =>
optS (pickV v18 (.bool true) v32) fun v34 =>
guardS v34 false (some (a4, h33)) h33 fun v35 h36 =>
guardS v35 true (intS .eql v9 (uu 112) fun v37 =>
some (v37, h36)) h36 fun v38 h39 =>
guardS v38 false (intS .eql v9 (uu 80) fun v40 =>
some (v40, h39)) h39 fun v41 h42 =>
guardS v35 true (optS (pickV v38 (.bool true) v41) fun v43 =>
some (v43, h42)) h42 fun v44 h45 =>
guardS v34 false (optS (pickV v35 v44 (.bool false)) fun v46 =>
some (v46, h45)) h45 fun v47 h48 =>
optS (pickV v34 (.bool true) v47) fun v49 =>
intS .add a7 (ii 1) fun v50 =>
ih 169 [a0, a4, v14, v49, v50] h48) (
bindS (ih 260 [a0] h) fun v51 h52 =>
extS 0 v51 fun v53 =>
extS 1 v51 fun v54 =>
guardS v54 true (some (a4, h52)) h52 fun v55 h56 =>
guardS v55 false (some (a5, h56)) h56 fun v57 h58 =>
guardS v54 true (optS (pickV v55 (.bool true) v57) fun v59 =>
some (v59, h58)) h58 fun v60 h61 =>
optS (pickV v54 v60 (.bool false)) fun v62 =>
ifS v62 (
some (.tuple [v53, (ii 0)], h61)) (
guardS a5 false (some (a6, h61)) h61 fun v63 h64 =>
optS (pickV a5 (.bool true) v63) fun v65 =>
ifS v65 (
some (.tuple [(ii 0), (ii 31)], h64)) (
some (.tuple [(ii 0), (ii 30)], h64))))
noncomputable def G169 : Sh := fun ih vs h => consE (fun a0 => consE (fun a4 => consE (fun a5 => consE (fun a6 => consE (fun a7 => nilE (B169 ih a0 a4 a5 a6 a7 h)))))) vs
noncomputable def B216 (ih : II) (a0 a1 : V) (h : Hp) : VH :=
bindS (ih 210 [a0, a1] h) fun v0 h1 =>
bindS (ih 212 [v0] h1) fun v2 h3 =>
notS v2 fun v4 =>
guardS v4 true (bindS (ih 210 [a0, a1] h3) fun v5 h6 =>
intS .eql v5 (uu 46) fun v7 =>
some (v7, h6)) h3 fun v8 h9 =>
guardS v8 true (intS .add a1 (ii 1) fun v10 =>
bindS (ih 210 [a0, v10] h9) fun v11 h12 =>
bindS (ih 212 [v11] h12) fun v13 h14 =>
some (v13, h14)) h9 fun v15 h16 =>
guardS v4 true (optS (pickV v8 v15 (.bool false)) fun v17 =>
notS v17 fun v18 =>
some (v18, h16)) h16 fun v19 h20 =>
optS (pickV v4 v19 (.bool false)) fun v21 =>
ifS v21 (
some ((ii 0), h20)) (
bindS (ih 204 [a0, a1, (.str ⟨2, 30768⟩)] h20) fun v22 h23 =>
guardS v22 false (bindS (ih 204 [a0, a1, (.str ⟨2, 22576⟩)] h23) fun v24 h25 =>
some (v24, h25)) h23 fun v26 h27 =>
optS (pickV v22 (.bool true) v26) fun v28 =>
ih 173 [a0, a1, v28, a1] h27)
noncomputable def G216 : Sh := fun ih vs h => consE (fun a0 => consE (fun a1 => nilE (B216 ih a0 a1 h))) vs
noncomputable def B171 (ih : II) (a1 a6 : V) (h : Hp) : VH :=
intS .sub a6 a1 fun v29 =>
some (v29, h)
noncomputable def G171 : Sh := fun ih vs h => consE (fun a1 => consE (fun a6 => nilE (B171 ih a1 a6 h))) vs
noncomputable def B173 (ih : II) (a0 a1 a5 a6 : V) (h : Hp) : VH :=
lenStr a0 fun v30 =>
intS .lss a6 v30 fun v31 =>
ifS v31 (
idxStr a0 a6 fun v32 =>
intS .sub a6 (ii 1) fun v33 =>
bindS (ih 210 [a0, v33] h) fun v34 h35 =>
intS .gtr a6 a1 fun v36 =>
guardS v36 true (notS a5 fun v37 =>
some (v37, h35)) h35 fun v38 h39 =>
guardS v38 true (intS .eql v34 (uu 101) fun v40 =>
some (v40, h39)) h39 fun v41 h42 =>
guardS v41 false (intS .eql v34 (uu 69) fun v43 =>
some (v43, h42)) h42 fun v44 h45 =>
guardS v38 true (optS (pickV v41 (.bool true) v44) fun v46 =>
some (v46, h45)) h45 fun v47 h48 =>
guardS v36 true (optS (pickV v38 v47 (.bool false)) fun v49 =>
some (v49, h48)) h48 fun v50 h51 =>
guardS v50 false (some (a5, h51)) h51 fun v52 h53 =>
guardS v52 true (intS .eql v34 (uu 112) fun v54 =>
some (v54, h53)) h53 fun v55 h56 =>
guardS v55 false (intS .eql v34 (uu 80) fun v57 =>
some (v57, h56)) h56 fun v58 h59 =>
guardS v52 true (optS (pickV v55 (.bool true) v58) fun v60 =>
some (v60, h59)) h59 fun v61 h62 =>
guardS v50 false (optS (pickV v52 v61 (.bool false)) fun v63 =>
some (v63, h62)) h62 fun v64 h65 =>
guardS v36 true (optS (pickV v50 (.bool true) v64) fun v66 =>
some (v66, h65)) h65 fun v67 h68 =>
optS (pickV v36 v67 (.bool false)) fun v69 =>
bindS (ih 212 [v32] h68) fun v70 h71 =>
notS v70 fun v72 =>
guardS v72 true (bindS (ih 208 [v32] h71) fun v73 h74 =>
notS v73 fun v75 =>
some (v75, h74)) h71 fun v76 h77 =>
optS (pickV v72 v76 (.bool false)) fun v78 =>
guardS v78 true (intS .neq v32 (uu 46) fun v79 =>
some (v79, h77)) h77 fun v80 h81 =>
optS (pickV v78 v80 (.bool false)) fun v82 =>
guardS v82 true (some (v69, h81)) h81 fun v83 h84 =>
guardS v83 true (intS .eql v32 (uu 43) fun v85 =>
some (v85, h84)) h84 fun v86 h87 =>
guardS v86 false (intS .eql v32 (uu 45) fun v88 =>
some (v88, h87)) h87 fun v89 h90 =>
guardS v83 true (optS (pickV v86 (.bool true) v89) fun v91 =>
some (v91, h90)) h90 fun v92 h93 =>
guardS v82 true (optS (pickV v83 v92 (.bool false)) fun v94 =>
notS v94 fun v95 =>
some (v95, h93)) h93 fun v96 h97 =>
optS (pickV v82 v96 (.bool false)) fun v98 =>
ifS v98 (
ih 171 [a1, a6] h97) (
intS .add a6 (ii 1) fun v99 =>
ih 173 [a0, a1, a5, v99] h97)) (
ih 171 [a1, a6] h)
noncomputable def G173 : Sh := fun ih vs h => consE (fun a0 => consE (fun a1 => consE (fun a5 => consE (fun a6 => nilE (B173 ih a0 a1 a5 a6 h))))) vs
noncomputable def B214 (ih : II) (a0 : V) (h : Hp) : VH :=
bindS (ih 258 [] h) fun v0 h1 =>
ih 175 [a0, v0, (ii 0)] h1
noncomputable def G214 : Sh := fun ih vs h => consE (fun a0 => nilE (B214 ih a0 h)) vs
noncomputable def B175 (ih : II) (a0 a3 a4 : V) (h : Hp) : VH :=
lenSl a3 fun v2 =>
intS .lss a4 v2 fun v3 =>
ifS v3 (
idxS 1 a3 a4 fun v4 =>
load1 v4 h fun v5 =>
strS .eql v5 a0 fun v6 =>
ifS v6 (
some ((.bool true), h)) (
intS .add a4 (ii 1) fun v7 =>
ih 175 [a0, a3, v7] h)) (
some ((.bool false), h))
noncomputable def G175 : Sh := fun ih vs h => consE (fun a0 => consE (fun a3 => consE (fun a4 => nilE (B175 ih a0 a3 a4 h)))) vs
noncomputable def B212 (ih : II) (a0 : V) (h : Hp) : VH :=
bindS (ih 200 [a0, (.str ⟨10, 270211885617516653982000⟩)] h) fun v0 h1 =>
some (v0, h1)
noncomputable def G212 : Sh := fun ih vs h => consE (fun a0 => nilE (B212 ih a0 h)) vs
noncomputable def B210 (ih : II) (a0 a1 : V) (h : Hp) : VH :=
intS .lss a1 (ii 0) fun v0 =>
guardS v0 false (lenStr a0 fun v1 =>
intS .geq a1 v1 fun v2 =>
some (v2, h)) h fun v3 h4 =>
optS (pickV v0 (.bool true) v3) fun v5 =>
ifS v5 (
some ((uu 0), h4)) (
idxStr a0 a1 fun v6 =>
some (v6, h4))
noncomputable def G210 : Sh := fun ih vs h => consE (fun a0 => consE (fun a1 => nilE (B210 ih a0 a1 h))) vs
noncomputable def B208 (ih : II) (a0 : V) (h : Hp) : VH :=
bindS (ih 200 [a0, (.str ⟨53, 16136606909498776080527050281782755318366342791217699970627403518266764556169424560444082089293235145664849460896385073166901857⟩)] h) fun v0 h1 =>
some (v0, h1)
noncomputable def G208 : Sh := fun ih vs h => consE (fun a0 => nilE (B208 ih a0 h)) vs
noncomputable def B200 (ih : II) (a0 a1 : V) (h : Hp) : VH :=
ih 177 [a0, a1, (ii 0)] h
noncomputable def G200 : Sh := fun ih vs h => consE (fun a0 => consE (fun a1 => nilE (B200 ih a0 a1 h))) vs
noncomputable def B177 (ih : II) (a0 a1 a5 : V) (h : Hp) : VH :=
lenStr a1 fun v0 =>
intS .lss a5 v0 fun v1 =>
ifS v1 (
idxStr a1 a5 fun v2 =>
intS .eql v2 a0 fun v3 =>
ifS v3 (
some ((.bool true), h)) (
intS .add a5 (ii 1) fun v4 =>
ih 177 [a0, a1, v4] h)) (
some ((.bool false), h))
noncomputable def G177 : Sh := fun ih vs h => consE (fun a0 => consE (fun a1 => consE (fun a5 => nilE (B177 ih a0 a1 a5 h)))) vs
noncomputable def B194 (ih : II) (a0 : V) (h : Hp) : VH :=
eqS (.slice 101) .eql a0 .nilSlice fun v0 =>
ifS v0 (
some (.nilSlice, h)) (
bindS (bldSl h [] 101 0 1 .nilPtr) fun v1 h2 =>
bindS (appS 101 8 1 v1 a0 h2) fun v3 h4 =>
some (v3, h4))
noncomputable def G194 : Sh := fun ih vs h => consE (fun a0 => nilE (B194 ih a0 h)) vs
noncomputable def B184 (ih : II) (a0 a1 : V) (h : Hp) : VH :=
newS 50 (vcells a1) h fun v0 h1 =>
bindS (ih 106 [a0] h1) fun v2 h3 =>
nilS v2 fun v4 =>
addrS 0 v4 fun v5 =>
addrS 5 v5 fun v6 =>
load1 v6 h3 fun v7 =>
lenSl v7 fun v8 =>
intS .add v8 (ii 1) fun v9 =>
addrS 4 v0 fun v10 =>
storeC v10 v9 h3 fun h11 =>
nilS v2 fun v12 =>
addrS 0 v12 fun v13 =>
addrS 5 v13 fun v14 =>
load1 v14 h11 fun v15 =>
loadN 7 v0 h11 fun v16 =>
bindS (bldSl ⟨h11.t, h11.n, h11.n⟩ [(0, v16)] 50 1 7 (.agg [(uu 0), .nilSlice, .nilSlice, .nilSlice, (ii 0), (ii 0), (ii 0)])) fun v17 h18 =>
madeS h11.n h11.low h18 fun h19 =>
bindS (appS 50 104 7 v15 v17 ⟨h19.t, h19.n, h19.n⟩) fun v20 h21 =>
wroteS h19.low h21 fun h22 =>
nilS v2 fun v23 =>
addrS 0 v23 fun v24 =>
addrS 5 v24 fun v25 =>
storeC v25 v20 h22 fun h26 =>
nilS v2 fun v27 =>
addrS 0 v27 fun v28 =>
addrS 5 v28 fun v29 =>
load1 v29 h26 fun v30 =>
lenSl v30 fun v31 =>
intS .sub v31 (ii 1) fun v32 =>
some (v32, h26)
noncomputable def G184 : Sh := fun ih vs h => consE (fun a0 => consE (fun a1 => nilE (B184 ih a0 a1 h))) vs
noncomputable def B192 (ih : II) (a0 a1 : V) (h : Hp) : VH :=
newS 64 (vcells a1) h fun v0 h1 =>
addrS 5 v0 fun v2 =>
load1 v2 h1 fun v3 =>
bindS (bldStruct h1 [(0, (uu 11)), (6, v3)] (.agg [(uu 0), .nilSlice, .nilSlice, .nilSlice, (ii 0), (ii 0), (ii 0)]) (some [(0, 1), (1, 1), (2, 1), (3, 1), (4, 1), (5, 1), (6, 1)])) fun v4 h5 =>
bindS (ih 184 [a0, v4] h5) fun v6 h7 =>
newS 3 [(ii 0)] h7 fun v8 h9 =>
storeC v8 v6 h9 fun h10 =>
bindS (ih 106 [a0] h10) fun v11 h12 =>
nilS v11 fun v13 =>
addrS 9 v13 fun v14 =>
load1 v14 h12 fun v15 =>
bindS (ih 256 [v15] h12) fun v16 h17 =>
rngT itr0 v16 h17 (fun h18 =>
addrS 5 v0 fun v23 =>
load1 v23 h18 fun v24 =>
bindS (ih 54 [a0, (ii 41), v24] h18) fun v25 h26 =>
some (.tuple [], h26)) fun v19 v20 h21 n22 =>
nilS v20 fun v27 =>
addrS 2 v27 fun v28 =>
load1 v28 h21 fun v29 =>
eqS (.pointer 46) .neq v29 .nilPtr fun v30 =>
ifS v30 (
nilS v20 fun v31 =>
addrS 2 v31 fun v32 =>
load1 v32 h21 fun v33 =>
nilS v20 fun v34 =>
addrS 2 v34 fun v35 =>
load1 v35 h21 fun v36 =>
nilS v36 fun v37 =>
load1 v37 h21 fun v38 =>
load1 v8 h21 fun v39 =>
bindS (bldSl ⟨h21.t, h21.n, h21.n⟩ [(0, v39)] 3 1 1 (ii 0)) fun v40 h41 =>
madeS h21.n h21.low h41 fun h42 =>
bindS (appS 3 8 1 v38 v40 ⟨h42.t, h42.n, h42.n⟩) fun v43 h44 =>
cD ((pureB h42 h44 || sameA h42 h44 v32 (vcells v33).length) && true) (
wroteS h42.low h44 fun h45 =>
nilS v33 fun v46 =>
storeC v46 v43 h45 fun h47 =>
some (.tuple [], h47)) none) (
n22 h21)
noncomputable def G192 : Sh := fun ih vs h => consE (fun a0 => consE (fun a1 => nilE (B192 ih a0 a1 h))) vs
noncomputable def B190 (ih : II) (a0 a1 : V) (h : Hp) : VH :=
bindS (ih 106 [a0] h) fun v0 h1 =>
nilS v0 fun v2 =>
addrS 0 v2 fun v3 =>
addrS 5 v3 fun v4 =>
load1 v4 h1 fun v5 =>
idxS 7 v5 a1 fun v6 =>
some (v6, h1)
noncomputable def G190 : Sh := fun ih vs h => consE (fun a0 => consE (fun a1 => nilE (B190 ih a0 a1 h))) vs
noncomputable def B182 (ih : II) (a0 a1 : V) (h : Hp) : VH :=
lenSl a1 fun v0 =>
ih 179 [a0, .nilSlice, a1, v0, (ii 0)] h
noncomputable def G182 : Sh := fun ih vs h => consE (fun a0 => consE (fun a1 => nilE (B182 ih a0 a1 h))) vs
noncomputable def B179 (ih : II) (a0 a5 a8 a9 a10 : V) (h : Hp) : VH :=
intS .lss a10 a9 fun v1 =>
ifS v1 (
idxS 1 a8 a10 fun v2 =>
load1 v2 h fun v3 =>
bindS (ih 252 [a0, v3] h) fun v4 h5 =>
bindS (bldSl h5 [(0, v4)] 3 1 1 (ii 0)) fun v6 h7 =>
bindS (appS 3 8 1 a5 v6 h7) fun v8 h9 =>
intS .add a10 (ii 1) fun v10 =>
ih 179 [a0, v8, a8, a9, v10] h9) (
some (a5, h))
noncomputable def G179 : Sh := fun ih vs h => consE (fun a0 => consE (fun a5 => consE (fun a8 => consE (fun a9 => consE (fun a10 => nilE (B179 ih a0 a5 a8 a9 a10 h)))))) vs
noncomputable def B188 (ih : II) (a0 a1 : V) (h : Hp) : VH :=
newS 64 (vcells a1) h fun v0 h1 =>
addrS 4 v0 fun v2 =>
load1 v2 h1 fun v3 =>
ih 181 [a0, v0, .nilSlice, v3] h1
noncomputable def G188 : Sh := fun ih vs h => consE (fun a0 => consE (fun a1 => nilE (B188 ih a0 a1 h))) vs
noncomputable def B181 (ih : II) (a0 a3 a4 a5 : V) (h : Hp) : VH :=
lenSl a5 fun v4 =>
intS .gtr v4 (ii 1) fun v5 =>
ifS v5 (
idxS 1 a5 (ii 0) fun v6 =>
load1 v6 h fun v7 =>
bindS (ih 252 [a0, v7] h) fun v8 h9 =>
bindS (bldSl h9 [(0, v8)] 3 1 1 (ii 0)) fun v10 h11 =>
addrS 5 a3 fun v12 =>
load1 v12 h11 fun v13 =>
bindS (bldStruct h11 [(0, (uu 4)), (3, v10), (6, v13)] (.agg [(uu 0), .nilSlice, .nilSlice, .nilSlice, (ii 0), (ii 0), (ii 0)]) (some [(0, 1), (1, 1), (2, 1), (3, 1), (4, 1), (5, 1), (6, 1)])) fun v14 h15 =>
bindS (ih 184 [a0, v14] h15) fun v16 h17 =>
idxS 1 a5 (ii 1) fun v18 =>
load1 v18 h17 fun v19 =>
bindS (ih 58 [a0, v19, .nilPtr, .nilFunc] h17) fun v20 h21 =>
lenSl a5 fun v22 =>
intS .gtr v22 (ii 2) fun v23 =>
ifS v23 (
addrS 5 a3 fun v24 =>
load1 v24 h21 fun v25 =>
bindS (bldStruct h21 [(0, (uu 11)), (6, v25)] (.agg [(uu 0), .nilSlice, .nilSlice, .nilSlice, (ii 0), (ii 0), (ii 0)]) (some [(0, 1), (1, 1), (2, 1), (3, 1), (4, 1), (5, 1), (6, 1)])) fun v26 h27 =>
bindS (ih 184 [a0, v26] h27) fun v28 h29 =>
bindS (bldSl h29 [(0, v28)] 3 1 1 (ii 0)) fun v30 h31 =>
bindS (appS 3 8 1 a4 v30 h31) fun v32 h33 =>
ih 187 [a0, a3, v32, a5, v16] h33) (
ih 187 [a0, a3, a4, a5, v16] h21)) (
lenSl a5 fun v34 =>
intS .gtr v34 (ii 0) fun v35 =>
ifS v35 (
idxS 1 a5 (ii 0) fun v36 =>
load1 v36 h fun v37 =>
bindS (ih 58 [a0, v37, .nilPtr, .nilFunc] h) fun v38 h39 =>
ih 183 [a0, a4] h39) (
ih 183 [a0, a4] h))
noncomputable def G181 : Sh := fun ih vs h => consE (fun a0 => consE (fun a3 => consE (fun a4 => consE (fun a5 => nilE (B181 ih a0 a3 a4 a5 h))))) vs
noncomputable def B183 (ih : II) (a0 a4 : V) (h : Hp) : VH :=
lenSl a4 fun v40 =>
ih 185 [a0, a4, v40, (ii 0)] h
noncomputable def G183 : Sh := fun ih vs h => consE (fun a0 => consE (fun a4 => nilE (B183 ih a0 a4 h))) vs
noncomputable def B185 (ih : II) (a0 a60 a61 a62 : V) (h : Hp) : VH :=
intS .lss a62 a61 fun v41 =>
ifS v41 (
idxS 1 a60 a62 fun v42 =>
load1 v42 h fun v43 =>
bindS (ih 190 [a0, v43] h) fun v44 h45 =>
bindS (ih 180 [a0] h45) fun v46 h47 =>
nilS v44 fun v48 =>
addrS 4 v48 fun v49 =>
storeC v49 v46 h47 fun h50 =>
intS .add a62 (ii 1) fun v51 =>
ih 185 [a0, a60, a61, v51] h50) (
some (.tuple [], h))
noncomputable def G185 : Sh := fun ih vs h => consE (fun a0 => consE (fun a60 => consE (fun a61 => consE (fun a62 => nilE (B185 ih a0 a60 a61 a62 h))))) vs
noncomputable def B187 (ih : II) (a0 a3 a4 a5 a7 : V) (h : Hp) : VH :=
bindS (ih 190 [a0, a7] h) fun v52 h53 =>
bindS (ih 180 [a0] h53) fun v54 h55 =>
nilS v52 fun v56 =>
addrS 5 v56 fun v57 =>
storeC v57 v54 h55 fun h58 =>
bindS (slSlK 3 1 (some (ii 2)) none h58 a5) fun v59 h60 =>
ih 181 [a0, a3, a4, v59] h60
noncomputable def G187 : Sh := fun ih vs h => consE (fun a0 => consE (fun a3 => consE (fun a4 => consE (fun a5 => consE (fun a7 => nilE (B187 ih a0 a3 a4 a5 a7 h)))))) vs
noncomputable def B186 (ih : II) (a0 a1 : V) (h : Hp) : VH :=
newS 55 (vcells a0) h fun v0 h1 =>
newS 64 (vcells a1) h1 fun v2 h3 =>
newS 46 [.nilSlice] h3 fun v4 h5 =>
addrS 4 v2 fun v6 =>
load1 v6 h5 fun v7 =>
newS 46 [.nilSlice] h5 fun v8 h9 =>
storeC v8 v7 h9 fun h10 =>
load1 v8 h10 fun v11 =>
lenSl v11 fun v12 =>
intS .sub v12 (ii 1) fun v13 =>
load1 v0 h10 fun v14 =>
bindS (ih 180 [v14] h10) fun v15 h16 =>
addrS 0 v2 fun v17 =>
load1 v17 h16 fun v18 =>
intS .eql v18 (uu 6) fun v19 =>
ifS v19 (
load1 v0 h16 fun v20 =>
load1 v8 h16 fun v21 =>
idxS 1 v21 (ii 0) fun v22 =>
load1 v22 h16 fun v23 =>
bindS (ih 252 [v20, v23] h16) fun v24 h25 =>
load1 v0 h25 fun v26 =>
bindS (bldSl h25 [(0, v24)] 3 1 1 (ii 0)) fun v27 h28 =>
addrS 5 v2 fun v29 =>
load1 v29 h28 fun v30 =>
bindS (bldStruct h28 [(0, (uu 4)), (3, v27), (6, v30)] (.agg [(uu 0), .nilSlice, .nilSlice, .nilSlice, (ii 0), (ii 0), (ii 0)]) (some [(0, 1), (1, 1), (2, 1), (3, 1), (4, 1), (5, 1), (6, 1)])) fun v31 h32 =>
bindS (ih 184 [v26, v31] h32) fun v33 h34 =>
load1 v0 h34 fun v35 =>
load1 v8 h34 fun v36 =>
idxS 1 v36 (ii 1) fun v37 =>
load1 v37 h34 fun v38 =>
bindS (ih 58 [v35, v38, v4, .nilFunc] h34) fun v39 h40 =>
ih 189 [v0, v2, v4, v15, v33] h40) (
intS .eql v18 (uu 7) fun v41 =>
ifS v41 (
newS 3 [(ii 0)] h16 fun v42 h43 =>
storeC v42 (.int .i64 (.negSucc 0)) h43 fun h44 =>
load1 v0 h44 fun v45 =>
load1 v8 h44 fun v46 =>
idxS 1 v46 (ii 0) fun v47 =>
load1 v47 h44 fun v48 =>
bindS (ih 58 [v45, v48, v4, (.func 127 [] [v0, v8, v2, v42])] h44) fun v49 h50 =>
load1 v0 h50 fun v51 =>
load1 v42 h50 fun v52 =>
bindS (ih 190 [v51, v52] ⟨h50.t, h50.n, h50.n⟩) fun v53 h54 =>
wroteS h50.low h54 fun h55 =>
load1 v0 h50 fun v56 =>
cD (((pureB h50 h54) || sameA h50 h55 v0 (vcells v56).length) && true) (
load1 v42 h50 fun v57 =>
cD (((pureB h50 h54) || sameA h50 h55 v42 (vcells v57).length) && true) (
bindS (ih 190 [v56, v57] ⟨h55.t, h55.n, h55.n⟩) fun v58 h59 =>
wroteS h55.low h59 fun h60 =>
load1 v42 h50 fun v61 =>
cD (((pureB h55 h59) || sameA h55 h60 v42 (vcells v61).length) && (((pureB h50 h54) || sameA h50 h55 v42 (vcells v61).length) && true)) (
intS .add v61 (ii 2) fun v62 =>
load1 v42 h50 fun v63 =>
cD (((pureB h55 h59) || sameA h55 h60 v42 (vcells v63).length) && (((pureB h50 h54) || sameA h50 h55 v42 (vcells v63).length) && true)) (
intS .add v63 (ii 1) fun v64 =>
nilS v53 fun v65 =>
addrS 4 v65 fun v66 =>
ptrE v66 fun b67 o68 => storeB (storeO Tryz.prog h60 3 b67 o68 v62) fun c69 =>
cD (offP v42 b67 && true) (
nilS v58 fun v70 =>
addrS 5 v70 fun v71 =>
storeC v71 v64 (h60.put b67 c69) fun h72 =>
ih 189 [v0, v2, v4, v15, (.int .i64 (.negSucc 0))] h72) none) none) none) none) none) (
addrS 0 v2 fun v73 =>
load1 v73 h16 fun v74 =>
intS .eql v74 (uu 10) fun v75 =>
ifS v75 (
ih 195 [v0, v2, v4, v8, v13, (uu 7), (uu 8)] h16) (
ih 195 [v0, v2, v4, v8, v13, (uu 5), (uu 6)] h16)))
noncomputable def G186 : Sh := fun ih vs h => consE (fun a0 => consE (fun a1 => nilE (B186 ih a0 a1 h))) vs
noncomputable def B189 (ih : II) (a2 a3 a4 a7 a8 : V) (h : Hp) : VH :=
load1 a2 h fun v76 =>
addrS 5 a3 fun v77 =>
load1 v77 h fun v78 =>
bindS (bldStruct h [(0, (uu 11)), (6, v78)] (.agg [(uu 0), .nilSlice, .nilSlice, .nilSlice, (ii 0), (ii 0), (ii 0)]) (some [(0, 1), (1, 1), (2, 1), (3, 1), (4, 1), (5, 1), (6, 1)])) fun v79 h80 =>
bindS (ih 184 [v76, v79] h80) fun v81 h82 =>
load1 a2 h82 fun v83 =>
bindS (ih 190 [v83, v81] h82) fun v84 h85 =>
nilS v84 fun v86 =>
addrS 4 v86 fun v87 =>
storeC v87 a7 h85 fun h88 =>
intS .geq a8 (ii 0) fun v89 =>
ifS v89 (
load1 a2 h88 fun v90 =>
bindS (ih 190 [v90, a8] ⟨h88.t, h88.n, h88.n⟩) fun v91 h92 =>
wroteS h88.low h92 fun h93 =>
load1 a2 h88 fun v94 =>
cD (((pureB h88 h92) || sameA h88 h93 a2 (vcells v94).length) && true) (
bindS (ih 180 [v94] h93) fun v95 h96 =>
nilS v91 fun v97 =>
addrS 5 v97 fun v98 =>
storeC v98 v95 h96 fun h99 =>
ih 191 [a2, a4] h99) none) (
ih 191 [a2, a4] h88)
noncomputable def G189 : Sh := fun ih vs h => consE (fun a2 => consE (fun a3 => consE (fun a4 => consE (fun a7 => consE (fun a8 => nilE (B189 ih a2 a3 a4 a7 a8 h)))))) vs
noncomputable def B191 (ih : II) (a2 a4 : V) (h : Hp) : VH :=
load1 a4 h fun v100 =>
lenSl v100 fun v101 =>
ih 193 [a2, v100, v101, (ii 0)] h
noncomputable def G191 : Sh := fun ih vs h => consE (fun a2 => consE (fun a4 => nilE (B191 ih a2 a4 h))) vs
noncomputable def B193 (ih : II) (a2 a157 a158 a159 : V) (h : Hp) : VH :=
intS .lss a159 a158 fun v102 =>
ifS v102 (
idxS 1 a157 a159 fun v103 =>
load1 v103 h fun v104 =>
load1 a2 h fun v105 =>
bindS (ih 190 [v105, v104] ⟨h.t, h.n, h.n⟩) fun v106 h107 =>
wroteS h.low h107 fun h108 =>
load1 a2 h fun v109 =>
cD (((pureB h h107) || sameA h h108 a2 (vcells v109).length) && true) (
bindS (ih 180 [v109] h108) fun v110 h111 =>
nilS v106 fun v112 =>
addrS 4 v112 fun v113 =>
storeC v113 v110 h111 fun h114 =>
intS .add a159 (ii 1) fun v115 =>
ih 193 [a2, a157, a158, v115] h114) none) (
some (.tuple [], h))
noncomputable def G193 : Sh := fun ih vs h => consE (fun a2 => consE (fun a157 => consE (fun a158 => consE (fun a159 => nilE (B193 ih a2 a157 a158 a159 h))))) vs
noncomputable def B195 (ih : II) (a2 a3 a4 a5 a6 a11 a12 : V) (h : Hp) : VH :=
load1 a2 h fun v116 =>
load1 a5 h fun v117 =>
bindS (slSlK 3 1 none (some a6) h v117) fun v118 h119 =>
bindS (ih 182 [v116, v118] h) fun v120 h121 =>
load1 a2 h121 fun v122 =>
bindS (ih 108 [v122, a4] h121) fun v123 h124 =>
load1 a2 h124 fun v125 =>
addrS 5 a3 fun v126 =>
load1 v126 h124 fun v127 =>
bindS (ih 56 [v125, (.str ⟨0, 0⟩), v127] h124) fun v128 h129 =>
load1 a2 h129 fun v130 =>
addrS 5 a3 fun v131 =>
load1 v131 h129 fun v132 =>
bindS (ih 56 [v130, (.str ⟨0, 0⟩), v132] h129) fun v133 h134 =>
load1 a2 h134 fun v135 =>
addrS 5 a3 fun v136 =>
load1 v136 h134 fun v137 =>
bindS (ih 56 [v135, (.str ⟨0, 0⟩), v137] h134) fun v138 h139 =>
load1 a2 h139 fun v140 =>
bindS (bldSl h139 [(0, v128)] 3 1 1 (ii 0)) fun v141 h142 =>
addrS 5 a3 fun v143 =>
load1 v143 h142 fun v144 =>
bindS (bldStruct h142 [(0, a11), (1, v141), (3, v120), (6, v144)] (.agg [(uu 0), .nilSlice, .nilSlice, .nilSlice, (ii 0), (ii 0), (ii 0)]) (some [(0, 1), (1, 1), (2, 1), (3, 1), (4, 1), (5, 1), (6, 1)])) fun v145 h146 =>
bindS (ih 184 [v140, v145] h146) fun v147 h148 =>
bindS (bldSl h148 [(0, v128)] 3 1 1 (ii 0)) fun v149 h150 =>
addrS 3 a3 fun v151 =>
load1 v151 h150 fun v152 =>
lenSl v152 fun v153 =>
ih 197 [a2, a3, a4, a5, a6, a12, v149, v152, v153, (ii 0)] h150
noncomputable def G195 : Sh := fun ih vs h => consE (fun a2 => consE (fun a3 => consE (fun a4 => consE (fun a5 => consE (fun a6 => consE (fun a11 => consE (fun a12 => nilE (B195 ih a2 a3 a4 a5 a6 a11 a12 h)))))))) vs
noncomputable def B197 (ih : II) (a2 a3 a4 a5 a6 a12 a15 a64 a65 a66 : V) (h : Hp) : VH :=
intS .lss a66 a65 fun v154 =>
ifS v154 (
idxS 1 a64 a66 fun v155 =>
load1 v155 h fun v156 =>
load1 a2 h fun v157 =>
addrS 5 a3 fun v158 =>
load1 v158 h fun v159 =>
bindS (ih 56 [v157, v156, v159] h) fun v160 h161 =>
bindS (bldSl h161 [(0, v160)] 3 1 1 (ii 0)) fun v162 h163 =>
bindS (appS 3 8 1 a15 v162 h163) fun v164 h165 =>
intS .add a66 (ii 1) fun v166 =>
ih 197 [a2, a3, a4, a5, a6, a12, v164, a64, a65, v166] h165) (
load1 a2 h fun v167 =>
bindS (ih 180 [v167] h) fun v168 h169 =>
load1 a2 h169 fun v170 =>
addrS 5 a3 fun v171 =>
load1 v171 h169 fun v172 =>
bindS (bldStruct h169 [(0, a12), (1, a15), (6, v172)] (.agg [(uu 0), .nilSlice, .nilSlice, .nilSlice, (ii 0), (ii 0), (ii 0)]) (some [(0, 1), (1, 1), (2, 1), (3, 1), (4, 1), (5, 1), (6, 1)])) fun v173 h174 =>
bindS (ih 184 [v170, v173] h174) fun v175 h176 =>
load1 a2 h176 fun v177 =>
load1 a5 h176 fun v178 =>
idxS 1 v178 a6 fun v179 =>
load1 v179 h176 fun v180 =>
bindS (ih 58 [v177, v180, .nilPtr, .nilFunc] h176) fun v181 h182 =>
load1 a2 h182 fun v183 =>
bindS (ih 118 [v183] h182) fun v184 h185 =>
ih 189 [a2, a3, a4, v168, v175] h185)
noncomputable def G197 : Sh := fun ih vs h => consE (fun a2 => consE (fun a3 => consE (fun a4 => consE (fun a5 => consE (fun a6 => consE (fun a12 => consE (fun a15 => consE (fun a64 => consE (fun a65 => consE (fun a66 => nilE (B197 ih a2 a3 a4 a5 a6 a12 a15 a64 a65 a66 h))))))))))) vs
noncomputable def B180 (ih : II) (a0 : V) (h : Hp) : VH :=
bindS (ih 106 [a0] h) fun v0 h1 =>
nilS v0 fun v2 =>
addrS 0 v2 fun v3 =>
addrS 5 v3 fun v4 =>
load1 v4 h1 fun v5 =>
lenSl v5 fun v6 =>
some (v6, h1)
noncomputable def G180 : Sh := fun ih vs h => consE (fun a0 => nilE (B180 ih a0 h)) vs
noncomputable def B176 (ih : II) (a0 a1 : V) (h : Hp) : VH :=
bindS (ih 250 [a0, a1] h) fun v0 h1 =>
intS .geq v0 (ii 0) fun v2 =>
some (v2, h1)
noncomputable def G176 : Sh := fun ih vs h => consE (fun a0 => consE (fun a1 => nilE (B176 ih a0 a1 h))) vs
noncomputable def B178 (ih : II) (a0 a1 : V) (h : Hp) : VH :=
newS 103 (vcells a0) h fun v0 h1 =>
addrS 0 v0 fun v2 =>
load1 v2 h1 fun v3 =>
addrS 2 a1 fun v4 =>
load1 v4 h1 fun v5 =>
strS .eql v3 v5 fun v6 =>
some (v6, h1)
noncomputable def G178 : Sh := fun ih vs h => consE (fun a0 => consE (fun a1 => nilE (B178 ih a0 a1 h))) vs
noncomputable def B174 (ih : II) (a0 a1 : V) (h : Hp) : VH :=
lenSl a0 fun v0 =>
ih 199 [a0, a1, v0, (ii 0)] h
noncomputable def G174 : Sh := fun ih vs h => consE (fun a0 => consE (fun a1 => nilE (B174 ih a0 a1 h))) vs
noncomputable def B199 (ih : II) (a0 a1 a7 a8 : V) (h : Hp) : VH :=
intS .lss a8 a7 fun v1 =>
ifS v1 (
idxS 1 a0 a8 fun v2 =>
load1 v2 h fun v3 =>
bindS (dynE ih a1 [v3] h) fun v4 h5 =>
ifS v4 (
some (a8, h5)) (
intS .add a8 (ii 1) fun v6 =>
ih 199 [a0, a1, a7, v6] h5)) (
some ((.int .i64 (.negSucc 0)), h))
noncomputable def G199 : Sh := fun ih vs h => consE (fun a0 => consE (fun a1 => consE (fun a7 => consE (fun a8 => nilE (B199 ih a0 a1 a7 a8 h))))) vs
noncomputable def B172 (ih : II) (a0 : V) (h : Hp) : VH :=
newS 64 (vcells a0) h fun v0 h1 =>
addrS 0 v0 fun v2 =>
load1 v2 h1 fun v3 =>
intS .eql v3 (uu 33) fun v4 =>
ifS v4 (
some ((ii 1), h1)) (
intS .eql v3 (uu 32) fun v5 =>
ifS v5 (
some ((ii 2), h1)) (
intS .eql v3 (uu 34) fun v6 =>
ifS v6 (
some ((ii 11), h1)) (
intS .eql v3 (uu 31) fun v7 =>
ifS v7 (
addrS 1 v0 fun v8 =>
load1 v8 h1 fun v9 =>
convI .u8 v9 fun v10 =>
intS .geq v10 (uu 12) fun v11 =>
ifS v11 (
some ((ii 3), h1)) (
intS .eql v10 (uu 7) fun v12 =>
ifS v12 (
some ((ii 4), h1)) (
intS .eql v10 (uu 8) fun v13 =>
ifS v13 (
some ((ii 5), h1)) (
intS .eql v10 (uu 6) fun v14 =>
ifS v14 (
some ((ii 6), h1)) (
intS .eql v10 (uu 9) fun v15 =>
guardS v15 false (intS .eql v10 (uu 10) fun v16 =>
some (v16, h1)) h1 fun v17 h18 =>
optS (pickV v15 (.bool true) v17) fun v19 =>
ifS v19 (
some ((ii 7), h18)) (
intS .eql v10 (uu 11) fun v20 =>
ifS v20 (
some ((ii 8), h18)) (
intS .eql v10 (uu 1) fun v21 =>
guardS v21 false (intS .eql v10 (uu 2) fun v22 =>
some (v22, h18)) h18 fun v23 h24 =>
optS (pickV v21 (.bool true) v23) fun v25 =>
ifS v25 (
some ((ii 9), h24)) (
some ((ii 10), h24))))))))) (
some ((ii 12), h1)))))
noncomputable def G172 : Sh := fun ih vs h => consE (fun a0 => nilE (B172 ih a0 h)) vs
noncomputable def B170 (ih : II) (a0 a1 a2 : V) (h : Hp) : VH :=
addrS 0 a1 fun v0 =>
addrS 0 v0 fun v1 =>
load1 v1 h fun v2 =>
addrS 4 a2 fun v3 =>
load1 v3 h fun v4 =>
idxS 1 v4 a0 fun v5 =>
load1 v5 h fun v6 =>
idxS 6 v2 v6 fun v7 =>
loadN 6 v7 h fun v8 =>
bindS (ih 172 [v8] h) fun v9 h10 =>
some (v9, h10)
noncomputable def G170 : Sh := fun ih vs h => consE (fun a0 => consE (fun a1 => consE (fun a2 => nilE (B170 ih a0 a1 a2 h)))) vs
noncomputable def B164 (ih : II) (a0 a1 a2 : V) (h : Hp) : VH :=
newS 84 (vcells a0) h fun v0 h1 =>
newS 64 (vcells a1) h1 fun v2 h3 =>
addrS 4 v2 fun v4 =>
load1 v4 h3 fun v5 =>
lenSl v5 fun v6 =>
intS .eql v6 a2 fun v7 =>
guardS v7 true (loadN 2 v0 h3 fun v8 =>
loadN 6 v2 h3 fun v9 =>
bindS (ih 90 [v8, v9, (ii 0), a2, (.func 49 [] [])] h3) fun v10 h11 =>
some (v10, h11)) h3 fun v12 h13 =>
optS (pickV v7 v12 (.bool false)) fun v14 =>
some (v14, h13)
noncomputable def G164 : Sh := fun ih vs h => consE (fun a0 => consE (fun a1 => consE (fun a2 => nilE (B164 ih a0 a1 a2 h)))) vs
noncomputable def B154 (ih : II) (a0 a1 a2 a3 a4 : V) (h : Hp) : VH :=
newS 84 (vcells a0) h fun v0 h1 =>
newS 64 (vcells a1) h1 fun v2 h3 =>
intS .sub a3 a2 fun v4 =>
intS .geq v4 a4 fun v5 =>
guardS v5 true (intS .sub a3 a2 fun v6 =>
intS .leq v6 (ii 200) fun v7 =>
some (v7, h3)) h3 fun v8 h9 =>
optS (pickV v5 v8 (.bool false)) fun v10 =>
guardS v10 true (loadN 2 v0 h9 fun v11 =>
loadN 6 v2 h9 fun v12 =>
bindS (ih 90 [v11, v12, a2, a3, (.func 49 [] [])] h9) fun v13 h14 =>
some (v13, h14)) h9 fun v15 h16 =>
optS (pickV v10 v15 (.bool false)) fun v17 =>
some (v17, h16)
noncomputable def G154 : Sh := fun ih vs h => consE (fun a0 => consE (fun a1 => consE (fun a2 => consE (fun a3 => consE (fun a4 => nilE (B154 ih a0 a1 a2 a3 a4 h)))))) vs
noncomputable def B166 (ih : II) (a0 : V) (h : Hp) : VH :=
intS .geq a0 (uu 27) fun v0 =>
guardS v0 true (intS .leq a0 (uu 30) fun v1 =>
some (v1, h)) h fun v2 h3 =>
optS (pickV v0 v2 (.bool false)) fun v4 =>
guardS v4 false (intS .eql a0 (uu 38) fun v5 =>
some (v5, h3)) h3 fun v6 h7 =>
optS (pickV v4 (.bool true) v6) fun v8 =>
some (v8, h7)
noncomputable def G166 : Sh := fun ih vs h => consE (fun a0 => nilE (B166 ih a0 h)) vs
noncomputable def B150 (ih : II) (a0 a1 a2 : V) (h : Hp) : VH :=
newS 84 (vcells a0) h fun v0 h1 =>
newS 64 (vcells a1) h1 fun v2 h3 =>
addrS 0 v0 fun v4 =>
addrS 0 v4 fun v5 =>
load1 v5 h3 fun v6 =>
addrS 4 v2 fun v7 =>
load1 v7 h3 fun v8 =>
idxS 1 v8 a2 fun v9 =>
load1 v9 h3 fun v10 =>
idxS 6 v6 v10 fun v11 =>
addrS 0 v11 fun v12 =>
load1 v12 h3 fun v13 =>
some (v13, h3)
noncomputable def G150 : Sh := fun ih vs h => consE (fun a0 => consE (fun a1 => consE (fun a2 => nilE (B150 ih a0 a1 a2 h)))) vs
noncomputable def B162 (ih : II) (a0 : V) (h : Hp) : VH :=
strS .eql a0 (.str ⟨0, 0⟩) fun v0 =>
guardS v0 false (lenStr a0 fun v1 =>
intS .gtr v1 (ii 60) fun v2 =>
some (v2, h)) h fun v3 h4 =>
optS (pickV v0 (.bool true) v3) fun v5 =>
guardS v5 false (idxStr a0 (ii 0) fun v6 =>
bindS (ih 244 [v6] h4) fun v7 h8 =>
some (v7, h8)) h4 fun v9 h10 =>
optS (pickV v5 (.bool true) v9) fun v11 =>
guardS v11 false (bindS (ih 246 [a0] h10) fun v12 h13 =>
some (v12, h13)) h10 fun v14 h15 =>
optS (pickV v11 (.bool true) v14) fun v16 =>
ifS v16 (
some ((.bool false), h15)) (
lenStr a0 fun v17 =>
ih 201 [a0, v17, (ii 0)] h15)
noncomputable def G162 : Sh := fun ih vs h => consE (fun a0 => nilE (B162 ih a0 h)) vs
noncomputable def B201 (ih : II) (a0 a21 a22 : V) (h : Hp) : VH :=
intS .lss a22 a21 fun v18 =>
ifS v18 (
idxStr a0 a22 fun v19 =>
bindS (ih 248 [v19] h) fun v20 h21 =>
notS v20 fun v22 =>
guardS v22 true (idxStr a0 a22 fun v23 =>
bindS (ih 244 [v23] h21) fun v24 h25 =>
notS v24 fun v26 =>
some (v26, h25)) h21 fun v27 h28 =>
optS (pickV v22 v27 (.bool false)) fun v29 =>
ifS v29 (
some ((.bool false), h28)) (
intS .add a22 (ii 1) fun v30 =>
ih 201 [a0, a21, v30] h28)) (
some ((.bool true), h))
noncomputable def G201 : Sh := fun ih vs h => consE (fun a0 => consE (fun a21 => consE (fun a22 => nilE (B201 ih a0 a21 a22 h)))) vs
noncomputable def B158 (ih : II) (a0 a1 a2 : V) (h : Hp) : VH :=
newS 84 (vcells a0) h fun v0 h1 =>
newS 64 (vcells a1) h1 fun v2 h3 =>
loadN 2 v0 h3 fun v4 =>
loadN 6 v2 h3 fun v5 =>
bindS (ih 150 [v4, v5, a2] h3) fun v6 h7 =>
intS .eql v6 (uu 1) fun v8 =>
some (v8, h7)
noncomputable def G158 : Sh := fun ih vs h => consE (fun a0 => consE (fun a1 => consE (fun a2 => nilE (B158 ih a0 a1 a2 h)))) vs
noncomputable def B152 (ih : II) (a0 a1 : V) (h : Hp) : VH :=
lenSl a0 fun v0 =>
intS .geq v0 a1 fun v1 =>
guardS v1 true (lenSl a0 fun v2 =>
intS .leq v2 (ii 200) fun v3 =>
some (v3, h)) h fun v4 h5 =>
optS (pickV v1 v4 (.bool false)) fun v6 =>
guardS v6 true (bindS (ih 240 [a0, (.func 121 [] [])] h5) fun v7 h8 =>
notS v7 fun v9 =>
some (v9, h8)) h5 fun v10 h11 =>
optS (pickV v6 v10 (.bool false)) fun v12 =>
some (v12, h11)
noncomputable def G152 : Sh := fun ih vs h => consE (fun a0 => consE (fun a1 => nilE (B152 ih a0 a1 h))) vs
noncomputable def B160 (ih : II) (a0 a1 : V) (h : Hp) : VH :=
newS 84 (vcells a0) h fun v0 h1 =>
newS 64 (vcells a1) h1 fun v2 h3 =>
addrS 4 v2 fun v4 =>
load1 v4 h3 fun v5 =>
lenSl v5 fun v6 =>
ih 203 [v0, v2, v6, (ii 0)] h3
noncomputable def G160 : Sh := fun ih vs h => consE (fun a0 => consE (fun a1 => nilE (B160 ih a0 a1 h))) vs
noncomputable def B203 (ih : II) (a2 a3 a5 a6 : V) (h : Hp) : VH :=
intS .add a6 (ii 1) fun v7 =>
intS .lss v7 a5 fun v8 =>
ifS v8 (
loadN 2 a2 h fun v9 =>
loadN 6 a3 h fun v10 =>
bindS (ih 150 [v9, v10, a6] h) fun v11 h12 =>
bindS (ih 98 [v11] h12) fun v13 h14 =>
notS v13 fun v15 =>
guardS v15 false (loadN 2 a2 h14 fun v16 =>
loadN 6 a3 h14 fun v17 =>
intS .add a6 (ii 1) fun v18 =>
bindS (ih 158 [v16, v17, v18] h14) fun v19 h20 =>
notS v19 fun v21 =>
some (v21, h20)) h14 fun v22 h23 =>
optS (pickV v15 (.bool true) v22) fun v24 =>
ifS v24 (
some ((.bool false), h23)) (
intS .add a6 (ii 2) fun v25 =>
ih 203 [a2, a3, a5, v25] h23)) (
intS .geq a5 (ii 2) fun v26 =>
guardS v26 true (intS .rem a5 (ii 2) fun v27 =>
intS .eql v27 (ii 0) fun v28 =>
some (v28, h)) h fun v29 h30 =>
guardS v29 false (loadN 2 a2 h30 fun v31 =>
loadN 6 a3 h30 fun v32 =>
intS .sub a5 (ii 1) fun v33 =>
bindS (ih 158 [v31, v32, v33] h30) fun v34 h35 =>
some (v34, h35)) h30 fun v36 h37 =>
guardS v26 true (optS (pickV v29 (.bool true) v36) fun v38 =>
some (v38, h37)) h37 fun v39 h40 =>
optS (pickV v26 v39 (.bool false)) fun v41 =>
some (v41, h40))
noncomputable def G203 : Sh := fun ih vs h => consE (fun a2 => consE (fun a3 => consE (fun a5 => consE (fun a6 => nilE (B203 ih a2 a3 a5 a6 h))))) vs
noncomputable def B156 (ih : II) (a0 : V) (h : Hp) : VH :=
intS .eql a0 (uu 27) fun v0 =>
guardS v0 false (intS .eql a0 (uu 28) fun v1 =>
some (v1, h)) h fun v2 h3 =>
optS (pickV v0 (.bool true) v2) fun v4 =>
some (v4, h3)
noncomputable def G156 : Sh := fun ih vs h => consE (fun a0 => nilE (B156 ih a0 h)) vs
noncomputable def B282 (ih : II) (a0 a1 a2 : V) (h : Hp) : VH :=
bindS (ih 76 [a0, (uu 1)] h) fun v0 h1 =>
notS v0 fun v2 =>
guardS v2 true (bindS (ih 144 [a0, (.str ⟨1, 40⟩)] h1) fun v3 h4 =>
notS v3 fun v5 =>
some (v5, h4)) h1 fun v6 h7 =>
optS (pickV v2 v6 (.bool false)) fun v8 =>
ifS v8 (
bindS (ih 78 [a0, (ii 40)] h7) fun v9 h10 =>
some (.tuple [], h10)) (
bindS (ih 140 [a0, a2] h7) fun v11 h12 =>
bindS (ih 316 [a0, a2] h12) fun v13 h14 =>
bindS (bldSl h14 [(0, v13)] 3 1 1 (ii 0)) fun v15 h16 =>
nilS a1 fun v17 =>
addrS 4 v17 fun v18 =>
storeC v18 v15 h16 fun h19 =>
bindS (ih 320 [a0, v13] h19) fun v20 h21 =>
intS .eql v20 (uu 29) fun v22 =>
guardS v22 false (intS .eql v20 (uu 30) fun v23 =>
some (v23, h21)) h21 fun v24 h25 =>
optS (pickV v22 (.bool true) v24) fun v26 =>
ifS v26 (
nilS a1 fun v27 =>
addrS 0 v27 fun v28 =>
storeC v28 (uu 4) h25 fun h29 =>
some (.tuple [], h29)) (
nilS a1 fun v30 =>
addrS 0 v30 fun v31 =>
storeC v31 (uu 3) h25 fun h32 =>
ih 205 [a0, a1, a2, v20] h32))
noncomputable def G282 : Sh := fun ih vs h => consE (fun a0 => consE (fun a1 => consE (fun a2 => nilE (B282 ih a0 a1 a2 h)))) vs
noncomputable def B205 (ih : II) (a0 a1 a2 a7 : V) (h : Hp) : VH :=
intS .neq a7 (uu 27) fun v33 =>
guardS v33 true (intS .neq a7 (uu 28) fun v34 =>
some (v34, h)) h fun v35 h36 =>
optS (pickV v33 v35 (.bool false)) fun v37 =>
ifS v37 (
bindS (ih 78 [a0, (ii 40)] h36) fun v38 h39 =>
ih 207 [a0, a1, a2] h39) (
ih 207 [a0, a1, a2] h36)
noncomputable def G205 : Sh := fun ih vs h => consE (fun a0 => consE (fun a1 => consE (fun a2 => consE (fun a7 => nilE (B205 ih a0 a1 a2 a7 h))))) vs
noncomputable def B207 (ih : II) (a0 a1 a2 : V) (h : Hp) : VH :=
bindS (ih 144 [a0, (.str ⟨1, 44⟩)] h) fun v40 h41 =>
notS v40 fun v42 =>
ifS v42 (
nilS a1 fun v43 =>
addrS 4 v43 fun v44 =>
load1 v44 h41 fun v45 =>
lenSl v45 fun v46 =>
nilS a1 fun v47 =>
addrS 1 v47 fun v48 =>
storeC v48 v46 h41 fun h49 =>
bindS (ih 230 [a0, (.str ⟨1, 61⟩)] h49) fun v50 h51 =>
nilS a1 fun v52 =>
addrS 4 v52 fun v53 =>
load1 v53 h51 fun v54 =>
bindS (ih 236 [a0, a2] ⟨h51.t, h51.n, h51.n⟩) fun v55 h56 =>
cD ((pureB h51 h56 || sameA h51 h56 v53 (vcells v54).length) && true) (
wroteS h51.low h56 fun h57 =>
bindS (appS 3 8 1 v54 v55 ⟨h57.t, h57.n, h57.n⟩) fun v58 h59 =>
wroteS h57.low h59 fun h60 =>
nilS a1 fun v61 =>
addrS 4 v61 fun v62 =>
storeC v62 v58 h60 fun h63 =>
some (.tuple [], h63)) none) (
bindS (ih 146 [a0] h41) fun v64 h65 =>
bindS (ih 140 [a0, a2] h65) fun v66 h67 =>
bindS (ih 76 [a0, (uu 1)] h67) fun v68 h69 =>
notS v68 fun v70 =>
guardS v70 true (bindS (ih 144 [a0, (.str ⟨1, 40⟩)] h69) fun v71 h72 =>
notS v71 fun v73 =>
some (v73, h72)) h69 fun v74 h75 =>
optS (pickV v70 v74 (.bool false)) fun v76 =>
ifS v76 (
bindS (ih 78 [a0, (ii 40)] h75) fun v77 h78 =>
ih 209 [a0, a1, a2] h78) (
ih 209 [a0, a1, a2] h75))
noncomputable def G207 : Sh := fun ih vs h => consE (fun a0 => consE (fun a1 => consE (fun a2 => nilE (B207 ih a0 a1 a2 h)))) vs
noncomputable def B280 (ih : II) (a0 a1 a2 : V) (h : Hp) : VH :=
bindS (ih 144 [a0, (.str ⟨8, 7957695015192261990⟩)] h) fun v0 h1 =>
ifS v0 (
bindS (ih 138 [a0] h1) fun v2 h3 =>
bindS (ih 140 [a0, a2] h3) fun v4 h5 =>
bindS (ih 146 [a0] h5) fun v6 h7 =>
nilS a1 fun v8 =>
addrS 0 v8 fun v9 =>
storeC v9 (uu 11) h7 fun h10 =>
bindS (ih 272 [a0] h10) fun v11 h12 =>
bindS (bldSl h12 [(0, v11)] 9 1 1 (.str ⟨0, 0⟩)) fun v13 h14 =>
nilS a1 fun v15 =>
addrS 3 v15 fun v16 =>
storeC v16 v13 h14 fun h17 =>
bindS (ih 314 [a0, a2, v2, .nilSlice] h17) fun v18 h19 =>
bindS (bldSl h19 [(0, v18)] 3 1 1 (ii 0)) fun v20 h21 =>
nilS a1 fun v22 =>
addrS 4 v22 fun v23 =>
storeC v23 v20 h21 fun h24 =>
some (.tuple [], h24)) (
nilS a1 fun v25 =>
addrS 0 v25 fun v26 =>
storeC v26 (uu 2) h1 fun h27 =>
bindS (ih 272 [a0] h27) fun v28 h29 =>
bindS (bldSl h29 [(0, v28)] 9 1 1 (.str ⟨0, 0⟩)) fun v30 h31 =>
bindS (ih 274 [a0, v30] h31) fun v32 h33 =>
nilS a1 fun v34 =>
addrS 3 v34 fun v35 =>
storeC v35 v32 h33 fun h36 =>
bindS (ih 144 [a0, (.str ⟨1, 61⟩)] h36) fun v37 h38 =>
ifS v37 (
bindS (ih 146 [a0] h38) fun v39 h40 =>
bindS (ih 236 [a0, a2] h40) fun v41 h42 =>
nilS a1 fun v43 =>
addrS 4 v43 fun v44 =>
storeC v44 v41 h42 fun h45 =>
some (.tuple [], h45)) (
some (.tuple [], h38)))
noncomputable def G280 : Sh := fun ih vs h => consE (fun a0 => consE (fun a1 => consE (fun a2 => nilE (B280 ih a0 a1 a2 h)))) vs
noncomputable def B278 (ih : II) (a0 a1 a2 : V) (h : Hp) : VH :=
bindS (ih 138 [a0] h) fun v0 h1 =>
bindS (ih 272 [a0] h1) fun v2 h3 =>
bindS (bldStruct h3 [(0, (uu 27)), (2, v2), (5, v0)] (.agg [(uu 0), (ii 0), (.str ⟨0, 0⟩), .nilSlice, .nilSlice, (ii 0)]) (some [(0, 1), (1, 1), (2, 1), (3, 1), (4, 1), (5, 1)])) fun v4 h5 =>
bindS (ih 80 [a0, v4] h5) fun v6 h7 =>
ih 213 [a0, a1, a2, v0, v6, .nilSlice] h7
noncomputable def G278 : Sh := fun ih vs h => consE (fun a0 => consE (fun a1 => consE (fun a2 => nilE (B278 ih a0 a1 a2 h)))) vs
noncomputable def B211 (ih : II) (a0 a1 a2 a7 a8 : V) (h : Hp) : VH :=
nilS a1 fun v8 =>
addrS 0 v8 fun v9 =>
storeC v9 (uu 3) h fun h10 =>
nilS a1 fun v11 =>
addrS 1 v11 fun v12 =>
storeC v12 (ii 1) h10 fun h13 =>
nilS a1 fun v14 =>
addrS 5 v14 fun v15 =>
load1 v15 h13 fun v16 =>
bindS (ih 314 [a0, a2, v16, a8] h13) fun v17 h18 =>
bindS (bldSl h18 [(0, a7), (1, v17)] 3 2 1 (ii 0)) fun v19 h20 =>
nilS a1 fun v21 =>
addrS 4 v21 fun v22 =>
storeC v22 v19 h20 fun h23 =>
some (.tuple [], h23)
noncomputable def G211 : Sh := fun ih vs h => consE (fun a0 => consE (fun a1 => consE (fun a2 => consE (fun a7 => consE (fun a8 => nilE (B211 ih a0 a1 a2 a7 a8 h)))))) vs
noncomputable def B213 (ih : II) (a0 a1 a2 a6 a7 a8 : V) (h : Hp) : VH :=
bindS (ih 144 [a0, (.str ⟨1, 46⟩)] h) fun v24 h25 =>
guardS v24 false (bindS (ih 144 [a0, (.str ⟨1, 58⟩)] h25) fun v26 h27 =>
some (v26, h27)) h25 fun v28 h29 =>
optS (pickV v24 (.bool true) v28) fun v30 =>
ifS v30 (
bindS (ih 144 [a0, (.str ⟨1, 58⟩)] h29) fun v31 h32 =>
ifS v31 (
bindS (bldSl h32 [(0, (.str ⟨4, 1718379891⟩))] 9 1 1 (.str ⟨0, 0⟩)) fun v33 h34 =>
ih 215 [a0, a1, a2, a6, a7, v33] h34) (
ih 215 [a0, a1, a2, a6, a7, a8] h32)) (
ih 211 [a0, a1, a2, a7, a8] h29)
noncomputable def G213 : Sh := fun ih vs h => consE (fun a0 => consE (fun a1 => consE (fun a2 => consE (fun a6 => consE (fun a7 => consE (fun a8 => nilE (B213 ih a0 a1 a2 a6 a7 a8 h))))))) vs
noncomputable def B272 (ih : II) (a0 : V) (h : Hp) : VH :=
bindS (ih 76 [a0, (uu 1)] h) fun v0 h1 =>
notS v0 fun v2 =>
ifS v2 (
bindS (ih 78 [a0, (ii 40)] h1) fun v3 h4 =>
some ((.str ⟨0, 0⟩), h4)) (
nilS a0 fun v5 =>
addrS 0 v5 fun v6 =>
load1 v6 h1 fun v7 =>
idxS 4 v7 (ii 0) fun v8 =>
addrS 1 v8 fun v9 =>
load1 v9 h1 fun v10 =>
lenStr v10 fun v11 =>
intS .gtr v11 (ii 60) fun v12 =>
ifS v12 (
bindS (ih 78 [a0, (ii 3)] h1) fun v13 h14 =>
ih 217 [a0] h14) (
ih 217 [a0] h1))
noncomputable def G272 : Sh := fun ih vs h => consE (fun a0 => nilE (B272 ih a0 h)) vs
noncomputable def B217 (ih : II) (a0 : V) (h : Hp) : VH :=
bindS (ih 146 [a0] h) fun v15 h16 =>
fld1 1 v15 fun v17 =>
some (v17, h16)
noncomputable def G217 : Sh := fun ih vs h => consE (fun a0 => nilE (B217 ih a0 h)) vs
noncomputable def B276 (ih : II) (a0 a1 : V) (h : Hp) : VH :=
intS .geq a1 (ii 200) fun v0 =>
ifS v0 (
bindS (ih 78 [a0, (ii 3)] h) fun v1 h2 =>
some (.tuple [], h2)) (
some (.tuple [], h))
noncomputable def G276 : Sh := fun ih vs h => consE (fun a0 => consE (fun a1 => nilE (B276 ih a0 a1 h))) vs
noncomputable def B266 (ih : II) (a0 a1 : V) (h : Hp) : VH :=
bindS (ih 140 [a0, a1] h) fun v0 h1 =>
bindS (ih 76 [a0, (uu 1)] h1) fun v2 h3 =>
notS v2 fun v4 =>
guardS v4 true (bindS (ih 76 [a0, (uu 4)] h3) fun v5 h6 =>
notS v5 fun v7 =>
some (v7, h6)) h3 fun v8 h9 =>
optS (pickV v4 v8 (.bool false)) fun v10 =>
guardS v10 true (bindS (ih 76 [a0, (uu 5)] h9) fun v11 h12 =>
notS v11 fun v13 =>
some (v13, h12)) h9 fun v14 h15 =>
optS (pickV v10 v14 (.bool false)) fun v16 =>
guardS v16 true (bindS (bldSl h15 [(0, (.str ⟨3, 7104878⟩)), (1, (.str ⟨4, 1702195828⟩)), (2, (.str ⟨5, 435728179558⟩)), (3, (.str ⟨8, 7957695015192261990⟩)), (4, (.str ⟨3, 7630702⟩)), (5, (.str ⟨3, 3026478⟩)), (6, (.str ⟨1, 123⟩)), (7, (.str ⟨1, 40⟩)), (8, (.str ⟨1, 45⟩)), (9, (.str ⟨1, 35⟩)), (10, (.str ⟨1, 126⟩))] 9 11 1 (.str ⟨0, 0⟩)) fun v17 h18 =>
bindS (ih 226 [a0, v17] h18) fun v19 h20 =>
notS v19 fun v21 =>
some (v21, h20)) h15 fun v22 h23 =>
optS (pickV v16 v22 (.bool false)) fun v24 =>
ifS v24 (
bindS (ih 78 [a0, (ii 40)] h23) fun v25 h26 =>
some (.tuple [], h26)) (
some (.tuple [], h23))
noncomputable def G266 : Sh := fun ih vs h => consE (fun a0 => consE (fun a1 => nilE (B266 ih a0 a1 h))) vs
noncomputable def B274 (ih : II) (a0 a1 : V) (h : Hp) : VH :=
ih 219 [a0, a1] h
noncomputable def G274 : Sh := fun ih vs h => consE (fun a0 => consE (fun a1 => nilE (B274 ih a0 a1 h))) vs
noncomputable def B219 (ih : II) (a0 a1 : V) (h : Hp) : VH :=
bindS (ih 144 [a0, (.str ⟨1, 44⟩)] h) fun v0 h1 =>
ifS v0 (
bindS (ih 146 [a0] h1) fun v2 h3 =>
bindS (ih 76 [a0, (uu 1)] h3) fun v4 h5 =>
notS v4 fun v6 =>
ifS v6 (
bindS (ih 78 [a0, (ii 40)] h5) fun v7 h8 =>
ih 221 [a0, a1] h8) (
ih 221 [a0, a1] h5)) (
some (a1, h1))
noncomputable def G219 : Sh := fun ih vs h => consE (fun a0 => consE (fun a1 => nilE (B219 ih a0 a1 h))) vs
noncomputable def B221 (ih : II) (a0 a1 : V) (h : Hp) : VH :=
lenSl a1 fun v9 =>
bindS (ih 276 [a0, v9] h) fun v10 h11 =>
bindS (ih 272 [a0] h11) fun v12 h13 =>
bindS (bldSl h13 [(0, v12)] 9 1 1 (.str ⟨0, 0⟩)) fun v14 h15 =>
bindS (appS 9 16 1 a1 v14 h15) fun v16 h17 =>
ih 219 [a0, v16] h17
noncomputable def G221 : Sh := fun ih vs h => consE (fun a0 => consE (fun a1 => nilE (B221 ih a0 a1 h))) vs
noncomputable def B270 (ih : II) (a0 : V) (h : Hp) : VH :=
bindS (bldSl h [(0, (.str ⟨1, 43⟩)), (1, (.str ⟨1, 45⟩)), (2, (.str ⟨1, 42⟩)), (3, (.str ⟨2, 12079⟩)), (4, (.str ⟨1, 37⟩)), (5, (.str ⟨1, 38⟩)), (6, (.str ⟨1, 124⟩)), (7, (.str ⟨1, 126⟩)), (8, (.str ⟨2, 15420⟩)), (9, (.str ⟨2, 15934⟩)), (10, (.str ⟨2, 11822⟩)), (11, (.str ⟨2, 15677⟩)), (12, (.str ⟨2, 15742⟩)), (13, (.str ⟨1, 60⟩)), (14, (.str ⟨2, 15676⟩)), (15, (.str ⟨1, 62⟩)), (16, (.str ⟨2, 15678⟩))] 9 17 1 (.str ⟨0, 0⟩)) fun v0 h1 =>
bindS (bldSl h1 [(0, (ii 9)), (1, (ii 9)), (2, (ii 10)), (3, (ii 10)), (4, (ii 10)), (5, (ii 6)), (6, (ii 4)), (7, (ii 5)), (8, (ii 7)), (9, (ii 7)), (10, (ii 8)), (11, (ii 3)), (12, (ii 3)), (13, (ii 3)), (14, (ii 3)), (15, (ii 3)), (16, (ii 3))] 3 17 1 (ii 0)) fun v2 h3 =>
ih 223 [a0, v0, v2, (ii 0)] h3
noncomputable def G270 : Sh := fun ih vs h => consE (fun a0 => nilE (B270 ih a0 h)) vs
noncomputable def B223 (ih : II) (a0 a5 a6 a7 : V) (h : Hp) : VH :=
lenSl a5 fun v4 =>
intS .lss a7 v4 fun v5 =>
ifS v5 (
idxS 1 a5 a7 fun v6 =>
load1 v6 h fun v7 =>
bindS (ih 144 [a0, v7] h) fun v8 h9 =>
ifS v8 (
intS .add a7 (ii 1) fun v10 =>
idxS 1 a6 a7 fun v11 =>
load1 v11 h9 fun v12 =>
some (.tuple [(uu 31), v10, v12], h9)) (
intS .add a7 (ii 1) fun v13 =>
ih 223 [a0, a5, a6, v13] h9)) (
bindS (ih 144 [a0, (.str ⟨3, 6581857⟩)] h) fun v14 h15 =>
ifS v14 (
some (.tuple [(uu 32), (ii 0), (ii 2)], h15)) (
bindS (ih 144 [a0, (.str ⟨2, 29295⟩)] h15) fun v16 h17 =>
ifS v16 (
some (.tuple [(uu 33), (ii 0), (ii 1)], h17)) (
some (.tuple [(uu 0), (ii 0), (ii 0)], h17))))
noncomputable def G223 : Sh := fun ih vs h => consE (fun a0 => consE (fun a5 => consE (fun a6 => consE (fun a7 => nilE (B223 ih a0 a5 a6 a7 h))))) vs
noncomputable def B268 (ih : II) (a0 a1 : V) (h : Hp) : VH :=
nilS a0 fun v0 =>
addrS 0 v0 fun v1 =>
load1 v1 h fun v2 =>
idxS 4 v2 (ii 0) fun v3 =>
loadN 4 v3 h fun v4 =>
newS 152 [(uu 0), (.str ⟨0, 0⟩), (ii 0), (ii 0)] h fun v5 h6 =>
storeN 4 v5 v4 h6 fun h7 =>
bindS (bldSl h7 [(0, (.str ⟨3, 7104878⟩)), (1, (.str ⟨4, 1702195828⟩)), (2, (.str ⟨5, 435728179558⟩)), (3, (.str ⟨3, 3026478⟩))] 9 4 1 (.str ⟨0, 0⟩)) fun v8 h9 =>
bindS (bldSl h9 [(0, (uu 20)), (1, (uu 21)), (2, (uu 22)), (3, (uu 25))] 62 4 1 (uu 0)) fun v10 h11 =>
ih 225 [a0, a1, v5, v8, v10, (ii 0)] h11
noncomputable def G268 : Sh := fun ih vs h => consE (fun a0 => consE (fun a1 => nilE (B268 ih a0 a1 h))) vs
noncomputable def B225 (ih : II) (a0 a1 a5 a6 a7 a8 : V) (h : Hp) : VH :=
lenSl a6 fun v12 =>
intS .lss a8 v12 fun v13 =>
ifS v13 (
idxS 1 a6 a8 fun v14 =>
load1 v14 h fun v15 =>
bindS (ih 144 [a0, v15] h) fun v16 h17 =>
ifS v16 (
bindS (ih 146 [a0] h17) fun v18 h19 =>
idxS 1 a7 a8 fun v20 =>
load1 v20 h19 fun v21 =>
addrS 3 a5 fun v22 =>
load1 v22 h19 fun v23 =>
bindS (bldStruct h19 [(0, v21), (5, v23)] (.agg [(uu 0), (ii 0), (.str ⟨0, 0⟩), .nilSlice, .nilSlice, (ii 0)]) (some [(0, 1), (1, 1), (2, 1), (3, 1), (4, 1), (5, 1)])) fun v24 h25 =>
bindS (ih 80 [a0, v24] h19) fun v26 h27 =>
some (v26, h27)) (
intS .add a8 (ii 1) fun v28 =>
ih 225 [a0, a1, a5, a6, a7, v28] h17)) (
bindS (ih 76 [a0, (uu 4)] h) fun v29 h30 =>
ifS v29 (
bindS (ih 146 [a0] h30) fun v31 h32 =>
addrS 2 a5 fun v33 =>
load1 v33 h32 fun v34 =>
addrS 3 a5 fun v35 =>
load1 v35 h32 fun v36 =>
bindS (bldStruct h32 [(0, (uu 23)), (1, v34), (5, v36)] (.agg [(uu 0), (ii 0), (.str ⟨0, 0⟩), .nilSlice, .nilSlice, (ii 0)]) (some [(0, 1), (1, 1), (2, 1), (3, 1), (4, 1), (5, 1)])) fun v37 h38 =>
bindS (ih 80 [a0, v37] h38) fun v39 h40 =>
some (v39, h40)) (
bindS (ih 76 [a0, (uu 5)] h30) fun v41 h42 =>
ifS v41 (
bindS (ih 146 [a0] h42) fun v43 h44 =>
addrS 1 a5 fun v45 =>
load1 v45 h44 fun v46 =>
addrS 3 a5 fun v47 =>
load1 v47 h44 fun v48 =>
bindS (bldStruct h44 [(0, (uu 24)), (2, v46), (5, v48)] (.agg [(uu 0), (ii 0), (.str ⟨0, 0⟩), .nilSlice, .nilSlice, (ii 0)]) (some [(0, 1), (1, 1), (2, 1), (3, 1), (4, 1), (5, 1)])) fun v49 h50 =>
bindS (ih 80 [a0, v49] h50) fun v51 h52 =>
some (v51, h52)) (
bindS (ih 144 [a0, (.str ⟨1, 123⟩)] h42) fun v53 h54 =>
ifS v53 (
bindS (ih 312 [a0, a1] h54) fun v55 h56 =>
some (v55, h56)) (
bindS (ih 144 [a0, (.str ⟨8, 7957695015192261990⟩)] h54) fun v57 h58 =>
ifS v57 (
bindS (ih 146 [a0] h58) fun v59 h60 =>
addrS 3 a5 fun v61 =>
load1 v61 h60 fun v62 =>
bindS (ih 314 [a0, a1, v62, .nilSlice] h60) fun v63 h64 =>
some (v63, h64)) (
bindS (ih 316 [a0, a1] h58) fun v65 h66 =>
some (v65, h66))))))
noncomputable def G225 : Sh := fun ih vs h => consE (fun a0 => consE (fun a1 => consE (fun a5 => consE (fun a6 => consE (fun a7 => consE (fun a8 => nilE (B225 ih a0 a1 a5 a6 a7 a8 h))))))) vs
noncomputable def B264 (ih : II) (h : Hp) : VH :=
bindS (bldSl h [(0, (.str ⟨1, 35⟩)), (1, (.str ⟨1, 37⟩)), (2, (.str ⟨1, 38⟩)), (3, (.str ⟨1, 40⟩)), (4, (.str ⟨1, 41⟩)), (5, (.str ⟨1, 42⟩)), (6, (.str ⟨1, 43⟩)), (7, (.str ⟨1, 44⟩)), (8, (.str ⟨1, 45⟩)), (9, (.str ⟨1, 46⟩)), (10, (.str ⟨2, 11822⟩)), (11, (.str ⟨3, 3026478⟩)), (12, (.str ⟨2, 12079⟩)), (13, (.str ⟨1, 58⟩)), (14, (.str ⟨2, 14906⟩)), (15, (.str ⟨1, 59⟩)), (16, (.str ⟨1, 60⟩)), (17, (.str ⟨2, 15420⟩)), (18, (.str ⟨2, 15676⟩)), (19, (.str ⟨1, 61⟩)), (20, (.str ⟨2, 15677⟩)), (21, (.str ⟨1, 62⟩)), (22, (.str ⟨2, 15678⟩)), (23, (.str ⟨2, 15934⟩)), (24, (.str ⟨1, 91⟩)), (25, (.str ⟨1, 93⟩)), (26, (.str ⟨1, 123⟩)), (27, (.str ⟨1, 124⟩)), (28, (.str ⟨1, 125⟩)), (29, (.str ⟨1, 126⟩)), (30, (.str ⟨2, 15742⟩))] 9 31 1 (.str ⟨0, 0⟩)) fun v0 h1 =>
some (v0, h1)
noncomputable def G264 : Sh := fun ih vs h => nilE (B264 ih  h) vs
noncomputable def B260 (ih : II) (a0 : V) (h : Hp) : VH :=
ih 229 [a0] h
noncomputable def G260 : Sh := fun ih vs h => consE (fun a0 => nilE (B260 ih a0 h)) vs
noncomputable def B229 (ih : II) (a0 : V) (h : Hp) : VH :=
lenStr a0 fun v0 =>
intS .gtr v0 (ii 0) fun v1 =>
guardS v1 true (idxStr a0 (ii 0) fun v2 =>
bindS (ih 130 [v2] h) fun v3 h4 =>
some (v3, h4)) h fun v5 h6 =>
optS (pickV v1 v5 (.bool false)) fun v7 =>
ifS v7 (
slStrK (some (ii 1)) none a0 fun v8 =>
ih 229 [v8] h6) (
ih 231 [a0] h6)
noncomputable def G229 : Sh := fun ih vs h => consE (fun a0 => nilE (B229 ih a0 h)) vs
noncomputable def B231 (ih : II) (a0 : V) (h : Hp) : VH :=
lenStr a0 fun v9 =>
intS .gtr v9 (ii 0) fun v10 =>
guardS v10 true (lenStr a0 fun v11 =>
intS .sub v11 (ii 1) fun v12 =>
idxStr a0 v12 fun v13 =>
bindS (ih 130 [v13] h) fun v14 h15 =>
some (v14, h15)) h fun v16 h17 =>
optS (pickV v10 v16 (.bool false)) fun v18 =>
ifS v18 (
lenStr a0 fun v19 =>
intS .sub v19 (ii 1) fun v20 =>
slStrK none (some v20) a0 fun v21 =>
ih 231 [v21] h17) (
lenStr a0 fun v22 =>
intS .gtr v22 (ii 0) fun v23 =>
guardS v23 true (idxStr a0 (ii 0) fun v24 =>
intS .eql v24 (uu 45) fun v25 =>
some (v25, h17)) h17 fun v26 h27 =>
optS (pickV v23 v26 (.bool false)) fun v28 =>
guardS v28 false (lenStr a0 fun v29 =>
intS .gtr v29 (ii 0) fun v30 =>
some (v30, h27)) h27 fun v31 h32 =>
guardS v31 true (idxStr a0 (ii 0) fun v33 =>
intS .eql v33 (uu 43) fun v34 =>
some (v34, h32)) h32 fun v35 h36 =>
guardS v28 false (optS (pickV v31 v35 (.bool false)) fun v37 =>
some (v37, h36)) h36 fun v38 h39 =>
optS (pickV v28 (.bool true) v38) fun v40 =>
ifS v40 (
slStrK (some (ii 1)) none a0 fun v41 =>
ih 233 [v41, v28] h39) (
ih 233 [a0, v28] h39))
noncomputable def G231 : Sh := fun ih vs h => consE (fun a0 => nilE (B231 ih a0 h)) vs
noncomputable def B233 (ih : II) (a0 a4 : V) (h : Hp) : VH :=
lenStr a0 fun v42 =>
intS .gtr v42 (ii 1) fun v43 =>
guardS v43 true (idxStr a0 (ii 0) fun v44 =>
intS .eql v44 (uu 48) fun v45 =>
some (v45, h)) h fun v46 h47 =>
optS (pickV v43 v46 (.bool false)) fun v48 =>
guardS v48 true (idxStr a0 (ii 1) fun v49 =>
intS .eql v49 (uu 120) fun v50 =>
some (v50, h47)) h47 fun v51 h52 =>
guardS v51 false (idxStr a0 (ii 1) fun v53 =>
intS .eql v53 (uu 88) fun v54 =>
some (v54, h52)) h52 fun v55 h56 =>
guardS v48 true (optS (pickV v51 (.bool true) v55) fun v57 =>
some (v57, h56)) h56 fun v58 h59 =>
optS (pickV v48 v58 (.bool false)) fun v60 =>
ifS v60 (
slStrK (some (ii 2)) none a0 fun v61 =>
bindS (ih 300 [v61, a4] h59) fun v62 h63 =>
extS 0 v62 fun v64 =>
extS 1 v62 fun v65 =>
some (.tuple [v64, v65], h63)) (
ih 235 [a0, a4, (ii 0), (ii 0)] h59)
noncomputable def G233 : Sh := fun ih vs h => consE (fun a0 => consE (fun a4 => nilE (B233 ih a0 a4 h))) vs
noncomputable def B235 (ih : II) (a0 a4 a5 a6 : V) (h : Hp) : VH :=
lenStr a0 fun v66 =>
intS .lss a6 v66 fun v67 =>
ifS v67 (
idxStr a0 a6 fun v68 =>
bindS (ih 302 [v68] h) fun v69 h70 =>
extS 0 v69 fun v71 =>
extS 1 v69 fun v72 =>
notS v72 fun v73 =>
guardS v73 false (intS .gtr v71 (ii 9) fun v74 =>
some (v74, h70)) h70 fun v75 h76 =>
optS (pickV v73 (.bool true) v75) fun v77 =>
guardS v77 false (intS .lss a5 (.int .i64 (.negSucc 922337203685477579)) fun v78 =>
some (v78, h76)) h76 fun v79 h80 =>
optS (pickV v77 (.bool true) v79) fun v81 =>
guardS v81 false (intS .eql a5 (.int .i64 (.negSucc 922337203685477579)) fun v82 =>
some (v82, h80)) h80 fun v83 h84 =>
guardS v83 true (intS .gtr v71 (ii 8) fun v85 =>
some (v85, h84)) h84 fun v86 h87 =>
guardS v81 false (optS (pickV v83 v86 (.bool false)) fun v88 =>
some (v88, h87)) h87 fun v89 h90 =>
optS (pickV v81 (.bool true) v89) fun v91 =>
ifS v91 (
some (.tuple [(ii 0), (.bool false)], h90)) (
intS .mul (ii 10) a5 fun v92 =>
intS .sub v92 v71 fun v93 =>
intS .add a6 (ii 1) fun v94 =>
ih 235 [a0, a4, v93, v94] h90)) (
lenStr a0 fun v95 =>
intS .eql v95 (ii 0) fun v96 =>
guardS v96 false (notS a4 fun v97 =>
some (v97, h)) h fun v98 h99 =>
guardS v98 true (intS .eql a5 (.int .i64 (.negSucc 9223372036854775807)) fun v100 =>
some (v100, h99)) h99 fun v101 h102 =>
guardS v96 false (optS (pickV v98 v101 (.bool false)) fun v103 =>
some (v103, h102)) h102 fun v104 h105 =>
optS (pickV v96 (.bool true) v104) fun v106 =>
ifS v106 (
some (.tuple [(ii 0), (.bool false)], h105)) (
notS a4 fun v107 =>
ifS v107 (
intS .sub (ii 0) a5 fun v108 =>
ih 237 [v108] h105) (
ih 237 [a5] h105)))
noncomputable def G235 : Sh := fun ih vs h => consE (fun a0 => consE (fun a4 => consE (fun a5 => consE (fun a6 => nilE (B235 ih a0 a4 a5 a6 h))))) vs
noncomputable def B237 (ih : II) (a5 : V) (h : Hp) : VH :=
some (.tuple [a5, (.bool true)], h)
noncomputable def G237 : Sh := fun ih vs h => consE (fun a5 => nilE (B237 ih a5 h)) vs
noncomputable def B258 (ih : II) (h : Hp) : VH :=
bindS (bldSl h [(0, (.str ⟨3, 6581857⟩)), (1, (.str ⟨5, 461195539042⟩)), (2, (.str ⟨2, 28516⟩)), (3, (.str ⟨4, 1702063205⟩)), (4, (.str ⟨6, 112602859662437⟩)), (5, (.str ⟨3, 6581861⟩)), (6, (.str ⟨5, 435728179558⟩)), (7, (.str ⟨3, 7499622⟩)), (8, (.str ⟨8, 7957695015192261990⟩)), (9, (.str ⟨4, 1869901671⟩)), (10, (.str ⟨2, 26217⟩)), (11, (.str ⟨2, 28265⟩)), (12, (.str ⟨5, 465490374508⟩)), (13, (.str ⟨3, 7104878⟩)), (14, (.str ⟨3, 7630702⟩)), (15, (.str ⟨2, 29295⟩)), (16, (.str ⟨6, 127961662514546⟩)), (17, (.str ⟨6, 121437875889522⟩)), (18, (.str ⟨4, 1852139636⟩)), (19, (.str ⟨4, 1702195828⟩)), (20, (.str ⟨5, 465625706101⟩)), (21, (.str ⟨5, 435610544247⟩))] 9 22 1 (.str ⟨0, 0⟩)) fun v0 h1 =>
some (v0, h1)
noncomputable def G258 : Sh := fun ih vs h => nilE (B258 ih  h) vs
noncomputable def B256 (ih : II) (a0 : V) (h : Hp) : VH :=
newS 66 (vcells a0) h fun v0 h1 =>
some ((.func 149 [] [v0]), h1)
noncomputable def G256 : Sh := fun ih vs h => consE (fun a0 => nilE (B256 ih a0 h)) vs
noncomputable def B252 (ih : II) (a0 a1 : V) (h : Hp) : VH :=
nilS a0 fun v0 =>
addrS 0 v0 fun v1 =>
addrS 0 v1 fun v2 =>
load1 v2 h fun v3 =>
idxS 6 v3 a1 fun v4 =>
loadN 6 v4 h fun v5 =>
newS 64 [(uu 0), (ii 0), (.str ⟨0, 0⟩), .nilSlice, .nilSlice, (ii 0)] h fun v6 h7 =>
storeN 6 v6 v5 h7 fun h8 =>
newS 53 [(uu 0), (ii 0), .nilSlice] h8 fun v9 h10 =>
addrS 0 v6 fun v11 =>
load1 v11 h10 fun v12 =>
bindS (ih 290 [v12] ⟨h10.t, h10.n, h10.n⟩) fun v13 h14 =>
cD ((pureB h10 h14 || sameLd h10 h14 (fent v9 53 [(uu 0), (ii 0), .nilSlice])) && true) (
wroteS h10.low h14 fun h15 =>
addrS 1 v6 fun v16 =>
load1 v16 h10 fun v17 =>
cD (((pureB h10 h14) || sameA h10 h15 v16 (vcells v17).length) && true) (
bindS (bldStruct h15 [(0, v13), (1, v17)] (.agg [(uu 0), (ii 0), .nilSlice]) (some [(0, 1), (1, 1), (2, 1)])) fun v18 h19 =>
storeN 3 v9 v18 h15 fun h20 =>
addrS 0 v6 fun v21 =>
load1 v21 h20 fun v22 =>
intS .eql v22 (uu 27) fun v23 =>
ifS v23 (
loadN 6 v6 h20 fun v24 =>
bindS (ih 294 [a0, v24] h20) fun v25 h26 =>
bindS (ih 292 [a0, v25] h26) fun v27 h28 =>
some (v27, h28)) (
intS .eql v22 (uu 24) fun v29 =>
ifS v29 (
addrS 2 v6 fun v30 =>
load1 v30 h20 fun v31 =>
bindS (ih 296 [a0, v31] h20) fun v32 h33 =>
addrS 1 v9 fun v34 =>
storeC v34 v32 h33 fun h35 =>
ih 239 [a0, v9] h35) (
intS .eql v22 (uu 30) fun v36 =>
ifS v36 (
addrS 2 v6 fun v37 =>
load1 v37 h20 fun v38 =>
bindS (ih 296 [a0, v38] h20) fun v39 h40 =>
addrS 1 v9 fun v41 =>
storeC v41 v39 h40 fun h42 =>
addrS 4 v6 fun v43 =>
load1 v43 h42 fun v44 =>
bindS (ih 182 [a0, v44] h42) fun v45 h46 =>
addrS 2 v9 fun v47 =>
storeC v47 v45 h46 fun h48 =>
ih 239 [a0, v9] h48) (
intS .eql v22 (uu 26) fun v49 =>
ifS v49 (
loadN 6 v6 h20 fun v50 =>
bindS (ih 30 [a0, v50] h20) fun v51 h52 =>
addrS 1 v9 fun v53 =>
storeC v53 v51 h52 fun h54 =>
ih 239 [a0, v9] h54) (
intS .eql v22 (uu 25) fun v55 =>
ifS v55 (
bindS (ih 106 [a0] h20) fun v56 h57 =>
nilS v56 fun v58 =>
addrS 0 v58 fun v59 =>
addrS 1 v59 fun v60 =>
load1 v60 h57 fun v61 =>
notS v61 fun v62 =>
ifS v62 (
addrS 5 v6 fun v63 =>
load1 v63 h57 fun v64 =>
bindS (ih 54 [a0, (ii 45), v64] h57) fun v65 h66 =>
ih 239 [a0, v9] h66) (
ih 239 [a0, v9] h57)) (
addrS 4 v6 fun v67 =>
load1 v67 h20 fun v68 =>
bindS (ih 182 [a0, v68] h20) fun v69 h70 =>
addrS 2 v9 fun v71 =>
storeC v71 v69 h70 fun h72 =>
ih 239 [a0, v9] h72)))))) none) none
noncomputable def G252 : Sh := fun ih vs h => consE (fun a0 => consE (fun a1 => nilE (B252 ih a0 a1 h))) vs
noncomputable def B239 (ih : II) (a0 a6 : V) (h : Hp) : VH :=
loadN 3 a6 h fun v73 =>
bindS (ih 292 [a0, v73] h) fun v74 h75 =>
some (v74, h75)
noncomputable def G239 : Sh := fun ih vs h => consE (fun a0 => consE (fun a6 => nilE (B239 ih a0 a6 h))) vs
noncomputable def B254 (ih : II) (a0 a1 a2 a3 : V) (h : Hp) : VH :=
load1 a0 h fun v0 =>
load1 a1 h fun v1 =>
idxS 1 v1 (ii 1) fun v2 =>
load1 v2 h fun v3 =>
bindS (ih 252 [v0, v3] h) fun v4 h5 =>
load1 a0 h5 fun v6 =>
bindS (bldSl h5 [(0, v4)] 3 1 1 (ii 0)) fun v7 h8 =>
addrS 5 a2 fun v9 =>
load1 v9 h8 fun v10 =>
bindS (bldStruct h8 [(0, (uu 4)), (3, v7), (6, v10)] (.agg [(uu 0), .nilSlice, .nilSlice, .nilSlice, (ii 0), (ii 0), (ii 0)]) (some [(0, 1), (1, 1), (2, 1), (3, 1), (4, 1), (5, 1), (6, 1)])) fun v11 h12 =>
bindS (ih 184 [v6, v11] h12) fun v13 h14 =>
storeC a3 v13 h14 fun h15 =>
some (.tuple [], h15)
noncomputable def G254 : Sh := fun ih vs h => consE (fun a0 => consE (fun a1 => consE (fun a2 => consE (fun a3 => nilE (B254 ih a0 a1 a2 a3 h))))) vs
noncomputable def B250 (ih : II) (a0 a1 : V) (h : Hp) : VH :=
lenSl a0 fun v0 =>
ih 241 [a0, a1, v0, (ii 0)] h
noncomputable def G250 : Sh := fun ih vs h => consE (fun a0 => consE (fun a1 => nilE (B250 ih a0 a1 h))) vs
noncomputable def B241 (ih : II) (a0 a1 a7 a8 : V) (h : Hp) : VH :=
intS .lss a8 a7 fun v1 =>
ifS v1 (
idxS 3 a0 a8 fun v2 =>
loadN 3 v2 h fun v3 =>
bindS (dynE ih a1 [v3] h) fun v4 h5 =>
ifS v4 (
some (a8, h5)) (
intS .add a8 (ii 1) fun v6 =>
ih 241 [a0, a1, a7, v6] h5)) (
some ((.int .i64 (.negSucc 0)), h))
noncomputable def G241 : Sh := fun ih vs h => consE (fun a0 => consE (fun a1 => consE (fun a7 => consE (fun a8 => nilE (B241 ih a0 a1 a7 a8 h))))) vs
noncomputable def B244 (ih : II) (a0 : V) (h : Hp) : VH :=
bindS (ih 286 [(uu 48), a0, (uu 57)] h) fun v0 h1 =>
some (v0, h1)
noncomputable def G244 : Sh := fun ih vs h => consE (fun a0 => nilE (B244 ih a0 h)) vs
noncomputable def B248 (ih : II) (a0 : V) (h : Hp) : VH :=
bindS (ih 286 [(uu 97), a0, (uu 122)] h) fun v0 h1 =>
guardS v0 false (bindS (ih 286 [(uu 65), a0, (uu 90)] h1) fun v2 h3 =>
some (v2, h3)) h1 fun v4 h5 =>
optS (pickV v0 (.bool true) v4) fun v6 =>
guardS v6 false (intS .eql a0 (uu 95) fun v7 =>
some (v7, h5)) h5 fun v8 h9 =>
optS (pickV v6 (.bool true) v8) fun v10 =>
some (v10, h9)
noncomputable def G248 : Sh := fun ih vs h => consE (fun a0 => nilE (B248 ih a0 h)) vs
noncomputable def B246 (ih : II) (a0 : V) (h : Hp) : VH :=
strS .neq a0 (.str ⟨0, 0⟩) fun v0 =>
guardS v0 true (bindS (ih 288 [a0, (.str ⟨1, 32⟩)] h) fun v1 h2 =>
notS v1 fun v3 =>
some (v3, h2)) h fun v4 h5 =>
optS (pickV v0 v4 (.bool false)) fun v6 =>
guardS v6 true (strS .add (.str ⟨1, 32⟩) a0 fun v7 =>
strS .add v7 (.str ⟨1, 32⟩) fun v8 =>
bindS (ih 288 [(.str ⟨113, 17114727619812652865831592289240362729846247184396431686340976947246213244203127547449191376236204538493561187876213366597712742219312077217799013184980281018523815296416470444940759774119422513229535319500938016196420794042916494387837719131367459550913945883633037238560⟩), v8] h5) fun v9 h10 =>
some (v9, h10)) h5 fun v11 h12 =>
optS (pickV v6 v11 (.bool false)) fun v13 =>
some (v13, h12)
noncomputable def G246 : Sh := fun ih vs h => consE (fun a0 => nilE (B246 ih a0 h)) vs
noncomputable def B240 (ih : II) (a0 a1 : V) (h : Hp) : VH :=
bindS (ih 284 [a0, a1] h) fun v0 h1 =>
intS .geq v0 (ii 0) fun v2 =>
some (v2, h1)
noncomputable def G240 : Sh := fun ih vs h => consE (fun a0 => consE (fun a1 => nilE (B240 ih a0 a1 h))) vs
noncomputable def B242 (ih : II) (a0 : V) (h : Hp) : VH :=
bindS (ih 162 [a0] h) fun v0 h1 =>
notS v0 fun v2 =>
some (v2, h1)
noncomputable def G242 : Sh := fun ih vs h => consE (fun a0 => nilE (B242 ih a0 h)) vs
noncomputable def B320 (ih : II) (a0 a1 : V) (h : Hp) : VH :=
bindS (ih 82 [a0] h) fun v0 h1 =>
ifS v0 (
some ((uu 0), h1)) (
nilS a0 fun v2 =>
addrS 1 v2 fun v3 =>
load1 v3 h1 fun v4 =>
idxS 6 v4 a1 fun v5 =>
addrS 0 v5 fun v6 =>
load1 v6 h1 fun v7 =>
some (v7, h1))
noncomputable def G320 : Sh := fun ih vs h => consE (fun a0 => consE (fun a1 => nilE (B320 ih a0 a1 h))) vs
noncomputable def B316 (ih : II) (a0 a1 : V) (h : Hp) : VH :=
bindS (ih 138 [a0] h) fun v0 h1 =>
bindS (ih 144 [a0, (.str ⟨1, 40⟩)] h1) fun v2 h3 =>
ifS v2 (
bindS (ih 146 [a0] h3) fun v4 h5 =>
intS .add a1 (ii 1) fun v6 =>
bindS (ih 228 [a0, v6, (ii 0)] h5) fun v7 h8 =>
bindS (ih 230 [a0, (.str ⟨1, 41⟩)] h8) fun v9 h10 =>
bindS (bldSl h10 [(0, v7)] 3 1 1 (ii 0)) fun v11 h12 =>
bindS (bldStruct h12 [(0, (uu 38)), (4, v11), (5, v0)] (.agg [(uu 0), (ii 0), (.str ⟨0, 0⟩), .nilSlice, .nilSlice, (ii 0)]) (some [(0, 1), (1, 1), (2, 1), (3, 1), (4, 1), (5, 1)])) fun v13 h14 =>
bindS (ih 80 [a0, v13] h14) fun v15 h16 =>
ih 243 [a0, a1, v0, v15] h16) (
bindS (ih 272 [a0] h3) fun v17 h18 =>
bindS (bldStruct h18 [(0, (uu 27)), (2, v17), (5, v0)] (.agg [(uu 0), (ii 0), (.str ⟨0, 0⟩), .nilSlice, .nilSlice, (ii 0)]) (some [(0, 1), (1, 1), (2, 1), (3, 1), (4, 1), (5, 1)])) fun v19 h20 =>
bindS (ih 80 [a0, v19] h20) fun v21 h22 =>
ih 243 [a0, a1, v0, v21] h22)
noncomputable def G316 : Sh := fun ih vs h => consE (fun a0 => consE (fun a1 => nilE (B316 ih a0 a1 h))) vs
noncomputable def B243 (ih : II) (a0 a1 a5 a6 : V) (h : Hp) : VH :=
ih 245 [a0, a1, a5, a6] h
noncomputable def G243 : Sh := fun ih vs h => consE (fun a0 => consE (fun a1 => consE (fun a5 => consE (fun a6 => nilE (B243 ih a0 a1 a5 a6 h))))) vs
noncomputable def B245 (ih : II) (a0 a1 a5 a6 : V) (h : Hp) : VH :=
bindS (ih 82 [a0] h) fun v23 h24 =>
notS v23 fun v25 =>
ifS v25 (
bindS (bldSl h24 [(0, a6)] 3 1 1 (ii 0)) fun v26 h27 =>
bindS (bldStruct h27 [(4, v26), (5, a5)] (.agg [(uu 0), (ii 0), (.str ⟨0, 0⟩), .nilSlice, .nilSlice, (ii 0)]) (some [(0, 1), (1, 1), (2, 1), (3, 1), (4, 1), (5, 1)])) fun v28 h29 =>
newS 64 [(uu 0), (ii 0), (.str ⟨0, 0⟩), .nilSlice, .nilSlice, (ii 0)] h29 fun v30 h31 =>
storeN 6 v30 v28 h31 fun h32 =>
bindS (ih 144 [a0, (.str ⟨1, 46⟩)] h32) fun v33 h34 =>
ifS v33 (
bindS (ih 146 [a0] h34) fun v35 h36 =>
addrS 0 v30 fun v37 =>
storeC v37 (uu 28) h36 fun h38 =>
addrS 4 v30 fun v39 =>
load1 v39 h38 fun v40 =>
intS .add a1 (ii 1) fun v41 =>
bindS (ih 318 [a0, v41] ⟨h38.t, h38.n, h38.n⟩) fun v42 h43 =>
cD ((pureB h38 h43 || sameA h38 h43 v39 (vcells v40).length) && true) (
wroteS h38.low h43 fun h44 =>
bindS (bldSl ⟨h44.t, h44.n, h44.n⟩ [(0, v42)] 3 1 1 (ii 0)) fun v45 h46 =>
madeS h44.n h44.low h46 fun h47 =>
bindS (appS 3 8 1 v40 v45 h47) fun v48 h49 =>
addrS 4 v30 fun v50 =>
storeC v50 v48 h49 fun h51 =>
ih 247 [a0, a1, a5, v30] h51) none) (
bindS (ih 144 [a0, (.str ⟨1, 91⟩)] h34) fun v52 h53 =>
ifS v52 (
bindS (ih 146 [a0] h53) fun v54 h55 =>
addrS 0 v30 fun v56 =>
storeC v56 (uu 28) h55 fun h57 =>
addrS 4 v30 fun v58 =>
load1 v58 h57 fun v59 =>
intS .add a1 (ii 1) fun v60 =>
bindS (ih 228 [a0, v60, (ii 0)] ⟨h57.t, h57.n, h57.n⟩) fun v61 h62 =>
cD ((pureB h57 h62 || sameA h57 h62 v58 (vcells v59).length) && true) (
wroteS h57.low h62 fun h63 =>
bindS (bldSl ⟨h63.t, h63.n, h63.n⟩ [(0, v61)] 3 1 1 (ii 0)) fun v64 h65 =>
madeS h63.n h63.low h65 fun h66 =>
bindS (appS 3 8 1 v59 v64 h66) fun v67 h68 =>
addrS 4 v30 fun v69 =>
storeC v69 v67 h68 fun h70 =>
bindS (ih 230 [a0, (.str ⟨1, 93⟩)] h70) fun v71 h72 =>
ih 247 [a0, a1, a5, v30] h72) none) (
bindS (ih 144 [a0, (.str ⟨1, 58⟩)] h53) fun v73 h74 =>
ifS v73 (
bindS (ih 146 [a0] h74) fun v75 h76 =>
addrS 0 v30 fun v77 =>
storeC v77 (uu 30) h76 fun h78 =>
bindS (ih 272 [a0] h78) fun v79 h80 =>
addrS 2 v30 fun v81 =>
storeC v81 v79 h80 fun h82 =>
addrS 4 v30 fun v83 =>
load1 v83 h82 fun v84 =>
bindS (ih 330 [a0, a1] ⟨h82.t, h82.n, h82.n⟩) fun v85 h86 =>
cD ((pureB h82 h86 || sameA h82 h86 v83 (vcells v84).length) && true) (
wroteS h82.low h86 fun h87 =>
bindS (appS 3 8 1 v84 v85 h87) fun v88 h89 =>
addrS 4 v30 fun v90 =>
storeC v90 v88 h89 fun h91 =>
ih 247 [a0, a1, a5, v30] h91) none) (
bindS (ih 76 [a0, (uu 5)] h74) fun v92 h93 =>
guardS v92 false (bindS (ih 144 [a0, (.str ⟨1, 123⟩)] h93) fun v94 h95 =>
some (v94, h95)) h93 fun v96 h97 =>
optS (pickV v92 (.bool true) v96) fun v98 =>
guardS v98 false (bindS (ih 144 [a0, (.str ⟨1, 40⟩)] h97) fun v99 h100 =>
some (v99, h100)) h97 fun v101 h102 =>
optS (pickV v98 (.bool true) v101) fun v103 =>
ifS v103 (
addrS 0 v30 fun v104 =>
storeC v104 (uu 29) h102 fun h105 =>
addrS 4 v30 fun v106 =>
load1 v106 h105 fun v107 =>
bindS (ih 330 [a0, a1] ⟨h105.t, h105.n, h105.n⟩) fun v108 h109 =>
cD ((pureB h105 h109 || sameA h105 h109 v106 (vcells v107).length) && true) (
wroteS h105.low h109 fun h110 =>
bindS (appS 3 8 1 v107 v108 h110) fun v111 h112 =>
addrS 4 v30 fun v113 =>
storeC v113 v111 h112 fun h114 =>
ih 247 [a0, a1, a5, v30] h114) none) (
some (a6, h102)))))) (
some (a6, h24))
noncomputable def G245 : Sh := fun ih vs h => consE (fun a0 => consE (fun a1 => consE (fun a5 => consE (fun a6 => nilE (B245 ih a0 a1 a5 a6 h))))) vs
noncomputable def B247 (ih : II) (a0 a1 a5 a8 : V) (h : Hp) : VH :=
loadN 6 a8 h fun v115 =>
bindS (ih 80 [a0, v115] h) fun v116 h117 =>
ih 245 [a0, a1, a5, v116] h117
noncomputable def G247 : Sh := fun ih vs h => consE (fun a0 => consE (fun a1 => consE (fun a5 => consE (fun a8 => nilE (B247 ih a0 a1 a5 a8 h))))) vs
noncomputable def B314 (ih : II) (a0 a1 a2 a3 : V) (h : Hp) : VH :=
bindS (bldStruct h [(0, (uu 26)), (3, a3), (5, a2)] (.agg [(uu 0), (ii 0), (.str ⟨0, 0⟩), .nilSlice, .nilSlice, (ii 0)]) (some [(0, 1), (1, 1), (2, 1), (3, 1), (4, 1), (5, 1)])) fun v0 h1 =>
newS 64 [(uu 0), (ii 0), (.str ⟨0, 0⟩), .nilSlice, .nilSlice, (ii 0)] h1 fun v2 h3 =>
storeN 6 v2 v0 h3 fun h4 =>
bindS (ih 230 [a0, (.str ⟨1, 40⟩)] h4) fun v5 h6 =>
bindS (ih 144 [a0, (.str ⟨1, 41⟩)] h6) fun v7 h8 =>
notS v7 fun v9 =>
ifS v9 (
ih 251 [a0, a1, v2] h8) (
ih 249 [a0, a1, v2] h8)
noncomputable def G314 : Sh := fun ih vs h => consE (fun a0 => consE (fun a1 => consE (fun a2 => consE (fun a3 => nilE (B314 ih a0 a1 a2 a3 h))))) vs
noncomputable def B249 (ih : II) (a0 a1 a9 : V) (h : Hp) : VH :=
bindS (ih 230 [a0, (.str ⟨1, 41⟩)] h) fun v10 h11 =>
intS .add a1 (ii 1) fun v12 =>
bindS (ih 74 [a0, v12] h11) fun v13 h14 =>
bindS (bldSl h14 [(0, v13)] 3 1 1 (ii 0)) fun v15 h16 =>
addrS 4 a9 fun v17 =>
storeC v17 v15 h16 fun h18 =>
bindS (ih 230 [a0, (.str ⟨3, 6581861⟩)] h18) fun v19 h20 =>
loadN 6 a9 h20 fun v21 =>
bindS (ih 80 [a0, v21] h20) fun v22 h23 =>
some (v22, h23)
noncomputable def G249 : Sh := fun ih vs h => consE (fun a0 => consE (fun a1 => consE (fun a9 => nilE (B249 ih a0 a1 a9 h)))) vs
noncomputable def B251 (ih : II) (a0 a1 a9 : V) (h : Hp) : VH :=
bindS (ih 144 [a0, (.str ⟨3, 3026478⟩)] h) fun v24 h25 =>
ifS v24 (
bindS (ih 146 [a0] h25) fun v26 h27 =>
addrS 1 a9 fun v28 =>
storeC v28 (ii 1) h27 fun h29 =>
ih 249 [a0, a1, a9] h29) (
bindS (ih 76 [a0, (uu 1)] h25) fun v30 h31 =>
notS v30 fun v32 =>
ifS v32 (
bindS (ih 78 [a0, (ii 40)] h31) fun v33 h34 =>
ih 253 [a0, a1, a9] h34) (
ih 253 [a0, a1, a9] h31))
noncomputable def G251 : Sh := fun ih vs h => consE (fun a0 => consE (fun a1 => consE (fun a9 => nilE (B251 ih a0 a1 a9 h)))) vs
noncomputable def B253 (ih : II) (a0 a1 a9 : V) (h : Hp) : VH :=
addrS 3 a9 fun v35 =>
load1 v35 h fun v36 =>
lenSl v36 fun v37 =>
bindS (ih 276 [a0, v37] h) fun v38 h39 =>
addrS 3 a9 fun v40 =>
load1 v40 h39 fun v41 =>
bindS (ih 272 [a0] ⟨h39.t, h39.n, h39.n⟩) fun v42 h43 =>
cD ((pureB h39 h43 || sameA h39 h43 v40 (vcells v41).length) && true) (
wroteS h39.low h43 fun h44 =>
bindS (bldSl ⟨h44.t, h44.n, h44.n⟩ [(0, v42)] 9 1 1 (.str ⟨0, 0⟩)) fun v45 h46 =>
madeS h44.n h44.low h46 fun h47 =>
bindS (appS 9 16 1 v41 v45 h47) fun v48 h49 =>
addrS 3 a9 fun v50 =>
storeC v50 v48 h49 fun h51 =>
bindS (ih 144 [a0, (.str ⟨1, 44⟩)] h51) fun v52 h53 =>
notS v52 fun v54 =>
ifS v54 (
ih 249 [a0, a1, a9] h53) (
bindS (ih 146 [a0] h53) fun v55 h56 =>
ih 251 [a0, a1, a9] h56)) none
noncomputable def G253 : Sh := fun ih vs h => consE (fun a0 => consE (fun a1 => consE (fun a9 => nilE (B253 ih a0 a1 a9 h)))) vs
noncomputable def B302 (ih : II) (a0 : V) (h : Hp) : VH :=
ih 275 [a0, (ii 0)] h
noncomputable def G302 : Sh := fun ih vs h => consE (fun a0 => nilE (B302 ih a0 h)) vs
noncomputable def B275 (ih : II) (a0 a4 : V) (h : Hp) : VH :=
intS .lss a4 (ii 16) fun v0 =>
ifS v0 (
idxStr (.str ⟨16, 136107713667768957684761770045455085872⟩) a4 fun v1 =>
intS .eql v1 a0 fun v2 =>
guardS v2 false (idxStr (.str ⟨16, 93405612720827812017303888595717861680⟩) a4 fun v3 =>
intS .eql v3 a0 fun v4 =>
some (v4, h)) h fun v5 h6 =>
optS (pickV v2 (.bool true) v5) fun v7 =>
ifS v7 (
some (.tuple [a4, (.bool true)], h6)) (
intS .add a4 (ii 1) fun v8 =>
ih 275 [a0, v8] h6)) (
some (.tuple [(ii 0), (.bool false)], h))
noncomputable def G275 : Sh := fun ih vs h => consE (fun a0 => consE (fun a4 => nilE (B275 ih a0 a4 h))) vs
noncomputable def B292 (ih : II) (a0 a1 : V) (h : Hp) : VH :=
newS 53 (vcells a1) h fun v0 h1 =>
bindS (ih 106 [a0] h1) fun v2 h3 =>
nilS v2 fun v4 =>
addrS 0 v4 fun v5 =>
addrS 6 v5 fun v6 =>
load1 v6 h3 fun v7 =>
loadN 3 v0 h3 fun v8 =>
bindS (bldSl ⟨h3.t, h3.n, h3.n⟩ [(0, v8)] 53 1 3 (.agg [(uu 0), (ii 0), .nilSlice])) fun v9 h10 =>
madeS h3.n h3.low h10 fun h11 =>
bindS (appS 53 40 3 v7 v9 ⟨h11.t, h11.n, h11.n⟩) fun v12 h13 =>
wroteS h11.low h13 fun h14 =>
nilS v2 fun v15 =>
addrS 0 v15 fun v16 =>
addrS 6 v16 fun v17 =>
storeC v17 v12 h14 fun h18 =>
nilS v2 fun v19 =>
addrS 0 v19 fun v20 =>
addrS 6 v20 fun v21 =>
load1 v21 h18 fun v22 =>
lenSl v22 fun v23 =>
intS .sub v23 (ii 1) fun v24 =>
some (v24, h18)
noncomputable def G292 : Sh := fun ih vs h => consE (fun a0 => consE (fun a1 => nilE (B292 ih a0 a1 h))) vs
noncomputable def B296 (ih : II) (a0 a1 : V) (h : Hp) : VH :=
nilS a0 fun v0 =>
addrS 4 v0 fun v1 =>
load1 v1 h fun v2 =>
bindS (lookS .string (some (ii 0)) true v2 a1 h) fun v3 h4 =>
extS 0 v3 fun v5 =>
extS 1 v3 fun v6 =>
notS v6 fun v7 =>
ifS v7 (
nilS a0 fun v8 =>
addrS 4 v8 fun v9 =>
load1 v9 h4 fun v10 =>
nilS a0 fun v11 =>
addrS 2 v11 fun v12 =>
addrS 0 v12 fun v13 =>
load1 v13 h4 fun v14 =>
lenSl v14 fun v15 =>
bindS (updS .string v10 a1 v15 h4) fun v16 h17 =>
nilS a0 fun v18 =>
addrS 2 v18 fun v19 =>
addrS 0 v19 fun v20 =>
load1 v20 h17 fun v21 =>
bindS (bldSl h17 [(0, a1)] 9 1 1 (.str ⟨0, 0⟩)) fun v22 h23 =>
bindS (appS 9 16 1 v21 v22 h23) fun v24 h25 =>
nilS a0 fun v26 =>
addrS 2 v26 fun v27 =>
addrS 0 v27 fun v28 =>
storeC v28 v24 h25 fun h29 =>
ih 283 [a0, a1] h29) (
ih 283 [a0, a1] h4)
noncomputable def G296 : Sh := fun ih vs h => consE (fun a0 => consE (fun a1 => nilE (B296 ih a0 a1 h))) vs
noncomputable def B283 (ih : II) (a0 a1 : V) (h : Hp) : VH :=
nilS a0 fun v30 =>
addrS 4 v30 fun v31 =>
load1 v31 h fun v32 =>
bindS (lookS .string (some (ii 0)) false v32 a1 h) fun v33 h34 =>
some (v33, h34)
noncomputable def G283 : Sh := fun ih vs h => consE (fun a0 => consE (fun a1 => nilE (B283 ih a0 a1 h))) vs
noncomputable def B294 (ih : II) (a0 a1 : V) (h : Hp) : VH :=
newS 64 (vcells a1) h fun v0 h1 =>
newS 53 [(uu 0), (ii 0), .nilSlice] h1 fun v2 h3 =>
bindS (ih 106 [a0] ⟨h3.t, h3.n, h3.n⟩) fun v4 h5 =>
wroteS h3.low h5 fun h6 =>
addrS 2 v0 fun v7 =>
load1 v7 h3 fun v8 =>
cD (((pureB h3 h5) || sameA h3 h6 v7 (vcells v8).length) && true) (
bindS (ih 324 [v4, v8] h6) fun v9 h10 =>
intS .geq v9 (ii 0) fun v11 =>
ifS v11 (
bindS (bldStruct h10 [(0, (uu 8)), (1, v9)] (.agg [(uu 0), (ii 0), .nilSlice]) (some [(0, 1), (1, 1), (2, 1)])) fun v12 h13 =>
storeN 3 v2 v12 h13 fun h14 =>
loadN 3 v2 h14 fun v15 =>
some (v15, h14)) (
nilS a0 fun v16 =>
addrS 5 v16 fun v17 =>
load1 v17 h10 fun v18 =>
lenSl v18 fun v19 =>
intS .sub v19 (ii 1) fun v20 =>
addrS 2 v0 fun v21 =>
load1 v21 h10 fun v22 =>
addrS 5 v0 fun v23 =>
load1 v23 h10 fun v24 =>
bindS (ih 326 [a0, v20, v22, v24] h10) fun v25 h26 =>
intS .geq v25 (ii 0) fun v27 =>
ifS v27 (
bindS (bldStruct h26 [(0, (uu 9)), (1, v25)] (.agg [(uu 0), (ii 0), .nilSlice]) (some [(0, 1), (1, 1), (2, 1)])) fun v28 h29 =>
storeN 3 v2 v28 h29 fun h30 =>
loadN 3 v2 h30 fun v31 =>
some (v31, h30)) (
addrS 2 v0 fun v32 =>
load1 v32 h26 fun v33 =>
bindS (ih 296 [a0, v33] h26) fun v34 h35 =>
bindS (bldStruct h35 [(0, (uu 10)), (1, v34)] (.agg [(uu 0), (ii 0), .nilSlice]) (some [(0, 1), (1, 1), (2, 1)])) fun v36 h37 =>
storeN 3 v2 v36 h37 fun h38 =>
loadN 3 v2 h38 fun v39 =>
some (v39, h38)))) none
noncomputable def G294 : Sh := fun ih vs h => consE (fun a0 => consE (fun a1 => nilE (B294 ih a0 a1 h))) vs
noncomputable def B290 (ih : II) (a0 : V) (h : Hp) : VH :=
intS .eql a0 (uu 20) fun v0 =>
ifS v0 (
ih 285 [a0, a0, v0] h) (
intS .eql a0 (uu 21) fun v1 =>
ifS v1 (
ih 285 [a0, a0, v1] h) (
intS .eql a0 (uu 22) fun v2 =>
ifS v2 (
ih 285 [a0, a0, v2] h) (
intS .eql a0 (uu 23) fun v3 =>
ifS v3 (
ih 285 [a0, a0, v3] h) (
intS .eql a0 (uu 24) fun v4 =>
ifS v4 (
ih 285 [a0, a0, v4] h) (
intS .eql a0 (uu 25) fun v5 =>
ifS v5 (
ih 285 [a0, a0, v5] h) (
intS .eql a0 (uu 26) fun v6 =>
ih 285 [a0, a0, v6] h))))))
noncomputable def G290 : Sh := fun ih vs h => consE (fun a0 => nilE (B290 ih a0 h)) vs
noncomputable def B285 (ih : II) (a0 a3 a4 : V) (h : Hp) : VH :=
ifS a4 (
intS .sub a0 (uu 20) fun v7 =>
intS .add v7 (uu 1) fun v8 =>
some (v8, h)) (
intS .eql a3 (uu 28) fun v9 =>
ifS v9 (
ih 287 [a0, v9] h) (
intS .eql a3 (uu 29) fun v10 =>
ifS v10 (
ih 287 [a0, v10] h) (
intS .eql a3 (uu 30) fun v11 =>
ifS v11 (
ih 287 [a0, v11] h) (
intS .eql a3 (uu 31) fun v12 =>
ifS v12 (
ih 287 [a0, v12] h) (
intS .eql a3 (uu 32) fun v13 =>
ifS v13 (
ih 287 [a0, v13] h) (
intS .eql a3 (uu 33) fun v14 =>
ifS v14 (
ih 287 [a0, v14] h) (
intS .eql a3 (uu 34) fun v15 =>
ifS v15 (
ih 287 [a0, v15] h) (
intS .eql a3 (uu 35) fun v16 =>
ifS v16 (
ih 287 [a0, v16] h) (
intS .eql a3 (uu 36) fun v17 =>
ifS v17 (
ih 287 [a0, v17] h) (
intS .eql a3 (uu 37) fun v18 =>
ifS v18 (
ih 287 [a0, v18] h) (
intS .eql a3 (uu 38) fun v19 =>
ih 287 [a0, v19] h)))))))))))
noncomputable def G285 : Sh := fun ih vs h => consE (fun a0 => consE (fun a3 => consE (fun a4 => nilE (B285 ih a0 a3 a4 h)))) vs
noncomputable def B287 (ih : II) (a0 a15 : V) (h : Hp) : VH :=
ifS a15 (
intS .sub a0 (uu 28) fun v20 =>
intS .add v20 (uu 11) fun v21 =>
some (v21, h)) (
some ((uu 0), h))
noncomputable def G287 : Sh := fun ih vs h => consE (fun a0 => consE (fun a15 => nilE (B287 ih a0 a15 h))) vs
noncomputable def B286 (ih : II) (a0 a1 a2 : V) (h : Hp) : VH :=
intS .geq a1 a0 fun v0 =>
guardS v0 true (intS .leq a1 a2 fun v1 =>
some (v1, h)) h fun v2 h3 =>
optS (pickV v0 v2 (.bool false)) fun v4 =>
some (v4, h3)
noncomputable def G286 : Sh := fun ih vs h => consE (fun a0 => consE (fun a1 => consE (fun a2 => nilE (B286 ih a0 a1 a2 h)))) vs
noncomputable def B288 (ih : II) (a0 a1 : V) (h : Hp) : VH :=
bindS (ih 322 [a0, a1] h) fun v0 h1 =>
intS .geq v0 (ii 0) fun v2 =>
some (v2, h1)
noncomputable def G288 : Sh := fun ih vs h => consE (fun a0 => consE (fun a1 => nilE (B288 ih a0 a1 h))) vs
noncomputable def B284 (ih : II) (a0 a1 : V) (h : Hp) : VH :=
lenSl a0 fun v0 =>
ih 289 [a0, a1, v0, (ii 0)] h
noncomputable def G284 : Sh := fun ih vs h => consE (fun a0 => consE (fun a1 => nilE (B284 ih a0 a1 h))) vs
noncomputable def B289 (ih : II) (a0 a1 a7 a8 : V) (h : Hp) : VH :=
intS .lss a8 a7 fun v1 =>
ifS v1 (
idxS 1 a0 a8 fun v2 =>
load1 v2 h fun v3 =>
bindS (dynE ih a1 [v3] h) fun v4 h5 =>
ifS v4 (
some (a8, h5)) (
intS .add a8 (ii 1) fun v6 =>
ih 289 [a0, a1, a7, v6] h5)) (
some ((.int .i64 (.negSucc 0)), h))
noncomputable def G289 : Sh := fun ih vs h => consE (fun a0 => consE (fun a1 => consE (fun a7 => consE (fun a8 => nilE (B289 ih a0 a1 a7 a8 h))))) vs
noncomputable def B330 (ih : II) (a0 a1 : V) (h : Hp) : VH :=
bindS (ih 76 [a0, (uu 5)] h) fun v0 h1 =>
guardS v0 false (bindS (ih 144 [a0, (.str ⟨1, 123⟩)] h1) fun v2 h3 =>
some (v2, h3)) h1 fun v4 h5 =>
optS (pickV v0 (.bool true) v4) fun v6 =>
ifS v6 (
intS .add a1 (ii 1) fun v7 =>
bindS (ih 140 [a0, v7] h5) fun v8 h9 =>
intS .add a1 (ii 1) fun v10 =>
bindS (ih 268 [a0, v10] h9) fun v11 h12 =>
bindS (bldSl h12 [(0, v11)] 3 1 1 (ii 0)) fun v13 h14 =>
some (v13, h14)) (
bindS (ih 230 [a0, (.str ⟨1, 40⟩)] h5) fun v15 h16 =>
bindS (ih 144 [a0, (.str ⟨1, 41⟩)] h16) fun v17 h18 =>
notS v17 fun v19 =>
ifS v19 (
intS .add a1 (ii 1) fun v20 =>
bindS (ih 236 [a0, v20] h18) fun v21 h22 =>
ih 291 [a0, v21] h22) (
ih 291 [a0, .nilSlice] h18))
noncomputable def G330 : Sh := fun ih vs h => consE (fun a0 => consE (fun a1 => nilE (B330 ih a0 a1 h))) vs
noncomputable def B291 (ih : II) (a0 a5 : V) (h : Hp) : VH :=
bindS (ih 230 [a0, (.str ⟨1, 41⟩)] h) fun v23 h24 =>
some (a5, h24)
noncomputable def G291 : Sh := fun ih vs h => consE (fun a0 => consE (fun a5 => nilE (B291 ih a0 a5 h))) vs
noncomputable def B326 (ih : II) (a0 a1 a2 a3 : V) (h : Hp) : VH :=
intS .eql a1 (ii 0) fun v0 =>
ifS v0 (
some ((.int .i64 (.negSucc 0)), h)) (
nilS a0 fun v1 =>
addrS 5 v1 fun v2 =>
load1 v2 h fun v3 =>
intS .sub a1 (ii 1) fun v4 =>
idxS 1 v3 v4 fun v5 =>
load1 v5 h fun v6 =>
bindS (ih 324 [v6, a2] h) fun v7 h8 =>
bindS (bldStruct h8 [(0, (.bool true)), (1, v7)] (.agg [(.bool false), (ii 0)]) (some [(0, 1), (1, 1)])) fun v9 h10 =>
newS 75 [(.bool false), (ii 0)] h10 fun v11 h12 =>
storeN 2 v11 v9 h12 fun h13 =>
addrS 1 v11 fun v14 =>
load1 v14 h13 fun v15 =>
intS .geq v15 (ii 0) fun v16 =>
ifS v16 (
nilS a0 fun v17 =>
addrS 5 v17 fun v18 =>
load1 v18 h13 fun v19 =>
intS .sub a1 (ii 1) fun v20 =>
idxS 1 v19 v20 fun v21 =>
load1 v21 h13 fun v22 =>
nilS v22 fun v23 =>
addrS 0 v23 fun v24 =>
addrS 3 v24 fun v25 =>
load1 v25 h13 fun v26 =>
addrS 1 v11 fun v27 =>
load1 v27 h13 fun v28 =>
idxS 1 v26 v28 fun v29 =>
storeC v29 (.bool true) h13 fun h30 =>
ih 295 [a0, a1, a3, v11] h30) (
intS .sub a1 (ii 1) fun v31 =>
bindS (ih 326 [a0, v31, a2, a3] h13) fun v32 h33 =>
bindS (bldStruct h33 [(1, v32)] (.agg [(.bool false), (ii 0)]) (some [(0, 1), (1, 1)])) fun v34 h35 =>
storeN 2 v11 v34 h35 fun h36 =>
ih 295 [a0, a1, a3, v11] h36))
noncomputable def G326 : Sh := fun ih vs h => consE (fun a0 => consE (fun a1 => consE (fun a2 => consE (fun a3 => nilE (B326 ih a0 a1 a2 a3 h))))) vs
noncomputable def B295 (ih : II) (a0 a1 a3 a9 : V) (h : Hp) : VH :=
nilS a0 fun v37 =>
addrS 5 v37 fun v38 =>
load1 v38 h fun v39 =>
idxS 1 v39 a1 fun v40 =>
load1 v40 h fun v41 =>
nilS v41 fun v42 =>
addrS 0 v42 fun v43 =>
addrS 4 v43 fun v44 =>
load1 v44 h fun v45 =>
loadN 2 a9 h fun v46 =>
bindS (ih 334 [v45, v46] h) fun v47 h48 =>
addrS 1 a9 fun v49 =>
load1 v49 h48 fun v50 =>
intS .lss v50 (ii 0) fun v51 =>
ifS v51 (
some ((.int .i64 (.negSucc 0)), h48)) (
intS .geq v47 (ii 0) fun v52 =>
ifS v52 (
some (v47, h48)) (
nilS v41 fun v53 =>
addrS 0 v53 fun v54 =>
addrS 4 v54 fun v55 =>
load1 v55 h48 fun v56 =>
lenSl v56 fun v57 =>
intS .eql v57 (ii 60) fun v58 =>
ifS v58 (
bindS (ih 54 [a0, (ii 3), a3] h48) fun v59 h60 =>
some ((.int .i64 (.negSucc 0)), h60)) (
nilS v41 fun v61 =>
addrS 0 v61 fun v62 =>
addrS 4 v62 fun v63 =>
load1 v63 h48 fun v64 =>
loadN 2 a9 h48 fun v65 =>
bindS (bldSl ⟨h48.t, h48.n, h48.n⟩ [(0, v65)] 75 1 2 (.agg [(.bool false), (ii 0)])) fun v66 h67 =>
madeS h48.n h48.low h67 fun h68 =>
bindS (appS 75 16 2 v64 v66 ⟨h68.t, h68.n, h68.n⟩) fun v69 h70 =>
wroteS h68.low h70 fun h71 =>
nilS v41 fun v72 =>
addrS 0 v72 fun v73 =>
addrS 4 v73 fun v74 =>
storeC v74 v69 h71 fun h75 =>
nilS v41 fun v76 =>
addrS 0 v76 fun v77 =>
addrS 4 v77 fun v78 =>
load1 v78 h75 fun v79 =>
lenSl v79 fun v80 =>
intS .sub v80 (ii 1) fun v81 =>
some (v81, h75))))
noncomputable def G295 : Sh := fun ih vs h => consE (fun a0 => consE (fun a1 => consE (fun a3 => consE (fun a9 => nilE (B295 ih a0 a1 a3 a9 h))))) vs
noncomputable def B324 (ih : II) (a0 a1 : V) (h : Hp) : VH :=
nilS a0 fun v0 =>
addrS 8 v0 fun v1 =>
load1 v1 h fun v2 =>
lenSl v2 fun v3 =>
intS .sub v3 (ii 1) fun v4 =>
ih 297 [a0, a1, v4] h
noncomputable def G324 : Sh := fun ih vs h => consE (fun a0 => consE (fun a1 => nilE (B324 ih a0 a1 h))) vs
noncomputable def B297 (ih : II) (a0 a1 a5 : V) (h : Hp) : VH :=
intS .geq a5 (ii 0) fun v5 =>
ifS v5 (
nilS a0 fun v6 =>
addrS 8 v6 fun v7 =>
load1 v7 h fun v8 =>
idxS 1 v8 a5 fun v9 =>
addrS 0 v9 fun v10 =>
load1 v10 h fun v11 =>
strS .eql v11 a1 fun v12 =>
ifS v12 (
some (a5, h)) (
intS .sub a5 (ii 1) fun v13 =>
ih 297 [a0, a1, v13] h)) (
some ((.int .i64 (.negSucc 0)), h))
noncomputable def G297 : Sh := fun ih vs h => consE (fun a0 => consE (fun a1 => consE (fun a5 => nilE (B297 ih a0 a1 a5 h)))) vs
noncomputable def B334 (ih : II) (a0 a1 : V) (h : Hp) : VH :=
newS 75 (vcells a1) h fun v0 h1 =>
lenSl a0 fun v2 =>
ih 299 [a0, v0, v2, (ii 0)] h1
noncomputable def G334 : Sh := fun ih vs h => consE (fun a0 => consE (fun a1 => nilE (B334 ih a0 a1 h))) vs
noncomputable def B299 (ih : II) (a0 a3 a7 a8 : V) (h : Hp) : VH :=
intS .lss a8 a7 fun v3 =>
ifS v3 (
loadN 2 a3 h fun v4 =>
idxS 2 a0 a8 fun v5 =>
loadN 2 v5 h fun v6 =>
bindS (vh h (eqOp .eql (cmpV [(0, .bool), (1, .int .i64)] v4 v6))) fun v7 h8 =>
ifS v7 (
some (a8, h8)) (
intS .add a8 (ii 1) fun v9 =>
ih 299 [a0, a3, a7, v9] h8)) (
some ((.int .i64 (.negSucc 0)), h))
noncomputable def G299 : Sh := fun ih vs h => consE (fun a0 => consE (fun a3 => consE (fun a7 => consE (fun a8 => nilE (B299 ih a0 a3 a7 a8 h))))) vs
noncomputable def labs : Tr Lab := (((((((((((((((((((((((((((((((((((((((((((((((((((((((((((((((((((((((((((((((((((((((((((((((((((((((((((((((((((((((((((((((((((((((((((((((((((((((((((((Tr.nil.set 0 (8, 122, [1, 2, 3, 9, 11])).set 1 (13, 58, [2, 3, 5])).set 2 (19, 15, [0, 1])).set 3 (19, 63, [0, 6])).set 4 (19, 511, [0, 7])).set 5 (19, 2047, [0, 7, 8])).set 6 (19, 4085, [0, 7, 43])).set 7 (19, 65532, [7, 8, 9])).set 8 (20, 58, [0, 3, 4, 5])).set 9 (23, 58, [2, 3, 5])).set 10 (23, 122, [2, 3, 6])).set 11 (23, 250, [2, 3, 7])).set 12 (23, 506, [2, 3, 8])).set 13 (22, 58, [0, 1, 5])).set 14 (6, 63, [2, 3, 4])).set 15 (6, 1002, [2, 3, 4, 35, 36, 37])).set 16 (6, 1018, [2, 3, 4, 59, 60, 61])).set 17 (21, 127, [2, 3, 6, 7])).set 18 (32, 7, [0, 1])).set 19 (43, 58, [0, 1, 5])).set 20 (16, 58, [0, 3, 4, 5])).set 21 (16, 3730, [0, 3, 4, 5, 26, 27, 28])).set 22 (16, 1909967, [0, 3, 4, 7, 8])).set 23 (16, 3819935, [3, 4, 7])).set 24 (16, 15279743, [])).set 25 (15, 1018, [0, 3, 5, 6, 58, 59, 60])).set 26 (15, 1023, [0, 5, 6])).set 27 (15, 8186, [0, 5, 6, 92, 93])).set 28 (15, 4191438, [0, 5, 6, 92, 93, 109, 110, 111])).set 29 (15, 67063015, [0, 5, 6, 92, 93, 109, 110, 111])).set 30 (14, 2042, [1, 4, 5, 6])).set 31 (14, 1045690, [1, 4, 5, 6, 7, 8, 89, 90, 91])).set 32 (37, 31, [0, 5])).set 33 (37, 60, [0, 1, 5])).set 34 (36, 126, [0, 3, 4, 5, 6])).set 35 (36, 4036, [0, 3, 4, 5, 6, 7])).set 36 (36, 64639, [0, 3, 4, 5, 6, 7])).set 37 (29, 63, [4])).set 38 (29, 122, [3, 4, 8, 25, 26, 27])).set 39 (29, 1959, [3, 4, 8, 25, 26, 27])).set 40 (28, 124, [7])).set 41 (24, 7, [2])).set 42 (24, 53, [1, 2, 8, 9])).set 43 (24, 215, [2, 19])).set 44 (74, 15, [0, 5])).set 45 (74, 950263, [0, 5])).set 46 (74, 3801055, [6])).set 47 (73, 15, [2, 3])).set 48 (66, 58, [0, 3, 4])).set 49 (66, 467, [0, 3, 4])).set 50 (68, 28, [0, 1, 4, 7])).set 51 (68, 491, [4, 7, 8])).set 52 (67, 252, [0, 1, 9])).set 53 (58, 3930, [0, 3, 6, 7, 26, 27, 28])).set 54 (58, 15871, [0, 3, 4, 5, 19, 85])).set 55 (57, 58, [0, 2, 4, 6, 16, 17, 18])).set 56 (57, 127, [0, 4, 9, 10])).set 57 (57, 935, [0, 2, 4, 6, 16, 17, 18])).set 58 (50, 117, [2, 3, 5, 10, 11])).set 59 (50, 30932991, [2, 3, 5, 10, 164])).set 60 (45, 26, [3, 4, 5, 6, 11])).set 61 (52, 26, [0, 1, 7, 8])).set 62 (118, 28, [0, 1, 5])).set 63 (117, 7, [0, 1, 2])).set 64 (116, 15, [0, 1, 5])).set 65 (116, 28, [0, 1, 5])).set 66 (116, 31, [0, 5])).set 67 (114, 511, [0, 1, 2, 7, 8])).set 68 (114, 1018, [0, 1, 2, 7, 8, 9, 10, 11])).set 69 (114, 1023, [8])).set 70 (114, 2044, [0, 1, 2, 7, 8])).set 71 (114, 8147, [0, 1, 2, 7, 8, 9, 10, 11])).set 72 (114, 523359, [0, 1, 2, 7, 8, 13, 14, 16])).set 73 (113, 26, [0, 1, 5])).set 74 (112, 122, [0, 1, 4, 7, 8, 9])).set 75 (112, 979, [0, 1, 4, 7, 8, 9])).set 76 (111, 124, [0, 4, 5])).set 77 (110, 28, [0, 1, 5])).set 78 (110, 14527, [0, 1, 5, 6])).set 79 (110, 29055, [0, 1, 5, 6])).set 80 (110, 232436, [0, 1, 5, 6])).set 81 (103, 124, [0, 1, 7, 8])).set 82 (103, 8186, [0, 1, 7, 8, 9, 10])).set 83 (103, 523927, [0, 1, 7, 8, 9, 11])).set 84 (109, 250, [0, 4, 5, 6, 7])).set 85 (108, 63, [1, 6])).set 86 (108, 124, [0, 1, 5, 6])).set 87 (107, 58, [0, 3, 4])).set 88 (100, 26, [0, 1, 5])).set 89 (91, 58, [0, 5, 8, 9, 10])).set 90 (94, 60, [0, 3, 4, 5])).set 91 (94, 63, [0, 4])).set 92 (94, 254, [0, 60, 61, 62])).set 93 (94, 15439, [0, 3, 4, 5, 7])).set 94 (93, 255, [2, 3, 4, 7, 8])).set 95 (93, 2047, [2, 4])).set 96 (93, 8190, [2, 157, 158, 159])).set 97 (93, 65215, [2, 3, 4, 5, 6, 11, 12])).set 98 (93, 66781178, [2, 3, 4, 5, 6, 12, 15, 64, 65, 66])).set 99 (87, 26, [0, 1, 7, 8])).set 100 (81, 58, [0, 21, 22])).set 101 (80, 58, [2, 3, 5, 6])).set 102 (141, 1020, [0, 1, 2, 7])).set 103 (141, 8161, [0, 1, 2])).set 104 (141, 130591, [0, 1, 2])).set 105 (139, 31, [0, 1, 2, 7, 8])).set 106 (139, 60, [0, 1, 2, 6, 7, 8])).set 107 (139, 965, [0, 1, 2, 6, 7, 8])).set 108 (136, 15, [0])).set 109 (137, 12, [0, 1])).set 110 (137, 395, [0, 1])).set 111 (135, 122, [0, 5, 6, 7])).set 112 (134, 250, [0, 1, 5, 6, 7, 8])).set 113 (131, 65492, [0, 1, 12])).set 114 (130, 12, [0])).set 115 (130, 28, [0])).set 116 (130, 63, [0, 4])).set 117 (130, 2042, [0, 4, 5, 6])).set 118 (130, 2047, [5])).set 119 (126, 31, [0, 6])).set 120 (125, 26, [0, 1, 7, 8])).set 121 (158, 31, [0, 1, 5, 6])).set 122 (158, 124, [0, 1, 5, 6])).set 123 (158, 3979, [0, 1, 5, 8])).set 124 (157, 31, [0, 1, 9])).set 125 (157, 244, [0, 1, 9])).set 126 (157, 3907, [0, 1, 9])).set 127 (159, 15, [0])).set 128 (156, 31, [0, 5])).set 129 (156, 60, [0, 1, 5])).set 130 (154, 31, [10, 11])).set 131 (154, 60, [0, 1, 2, 3, 10, 11])).set 132 (155, 250, [0, 4, 5])).set 133 (155, 1018, [0, 4, 6, 7])).set 134 (155, 4090, [0, 4, 6, 8, 9])).set 135 (155, 16378, [6, 10, 11])).set 136 (153, 122, [0, 3, 4, 5])).set 137 (151, 26, [0, 4])).set 138 (150, 31, [0, 6])).set 139 (150, 58, [0, 1, 6, 7])).set 140 (149, 6, [0, 1, 3])).set 141 (148, 7, [0, 1])).set 142 (145, 53, [0, 3, 4])).set 143 (145, 215, [0, 15])).set 144 (142, 26, [0, 1, 7, 8])).set 145 (165, 63, [0, 5])).set 146 (164, 63, [0, 1, 5, 6, 7])).set 147 (163, 31, [0, 1, 3, 9])).set 148 (162, 26, [0, 1, 5])).set 149 (167, 26, [0, 3, 7, 8])).set 150 (166, 2044, [0, 1, 5, 6, 7, 8, 9, 10])).set 151 (166, 32709, [0, 1, 5, 6, 7, 8, 9, 10])).set 152 (171, 250, [0, 1, 5, 6, 7, 8, 9])).set 153 (171, 1018, [0, 1, 5, 6, 7, 8, 10])).set 154 (173, 58, [0, 4, 5])).set 155 (173, 250, [4, 6, 7, 8])).set 156 (173, 8009, [4, 6, 7, 8]))
noncomputable def cuts4 : Cuts := []
theorem fit4 : cutsFit labs 4 cuts4 = true := by kernel_rfl
noncomputable def cuts5 : Cuts := []
theorem fit5 : cutsFit labs 5 cuts5 = true := by kernel_rfl
noncomputable def cuts11 : Cuts := []
theorem fit11 : cutsFit labs 11 cuts11 = true := by kernel_rfl
noncomputable def cuts10 : Cuts := []
theorem fit10 : cutsFit labs 10 cuts10 = true := by kernel_rfl
noncomputable def cuts8 : Cuts := [(122, 0, [1, 2, 3, 9, 11])]
theorem fit8 : cutsFit labs 8 cuts8 = true := by kernel_rfl
noncomputable def cuts9 : Cuts := []
theorem fit9 : cutsFit labs 9 cuts9 = true := by kernel_rfl
noncomputable def cuts13 : Cuts := [(58, 1, [2, 3, 5])]
theorem fit13 : cutsFit labs 13 cuts13 = true := by kernel_rfl
noncomputable def cuts12 : Cuts := []
theorem fit12 : cutsFit labs 12 cuts12 = true := by kernel_rfl
noncomputable def cuts19 : Cuts := [(15, 2, [0, 1]), (63, 3, [0, 6]), (511, 4, [0, 7]), (2047, 5, [0, 7, 8]), (4085, 6, [0, 7, 43]), (65532, 7, [7, 8, 9])]
noncomputable def cuts18 : Cuts := []
theorem fit18 : cutsFit labs 18 cuts18 = true := by kernel_rfl
noncomputable def cuts20 : Cuts := [(58, 8, [0, 3, 4, 5])]
theorem fit20 : cutsFit labs 20 cuts20 = true := by kernel_rfl
noncomputable def cuts23 : Cuts := [(58, 9, [2, 3, 5]), (122, 10, [2, 3, 6]), (250, 11, [2, 3, 7]), (506, 12, [2, 3, 8])]
theorem fit23 : cutsFit labs 23 cuts23 = true := by kernel_rfl
noncomputable def cuts22 : Cuts := [(58, 13, [0, 1, 5])]
theorem fit22 : cutsFit labs 22 cuts22 = true := by kernel_rfl
noncomputable def cuts6 : Cuts := [(63, 14, [2, 3, 4]), (1002, 15, [2, 3, 4, 35, 36, 37]), (1018, 16, [2, 3, 4, 59, 60, 61])]
theorem fit6 : cutsFit labs 6 cuts6 = true := by kernel_rfl
noncomputable def cuts21 : Cuts := [(127, 17, [2, 3, 6, 7])]
theorem fit21 : cutsFit labs 21 cuts21 = true := by kernel_rfl
noncomputable def cuts35 : Cuts := []
noncomputable def cuts33 : Cuts := []
noncomputable def cuts34 : Cuts := []
noncomputable def cuts31 : Cuts := []
noncomputable def cuts32 : Cuts := [(7, 18, [0, 1])]
noncomputable def cuts30 : Cuts := []
noncomputable def cuts43 : Cuts := [(58, 19, [0, 1, 5])]
theorem fit43 : cutsFit labs 43 cuts43 = true := by kernel_rfl
noncomputable def cuts42 : Cuts := []
theorem fit42 : cutsFit labs 42 cuts42 = true := by kernel_rfl
noncomputable def cuts16 : Cuts := [(58, 20, [0, 3, 4, 5]), (3730, 21, [0, 3, 4, 5, 26, 27, 28]), (1909967, 22, [0, 3, 4, 7, 8]), (3819935, 23, [3, 4, 7]), (15279743, 24, [])]
theorem fit16 : cutsFit labs 16 cuts16 = true := by kernel_rfl
noncomputable def cuts15 : Cuts := [(1018, 25, [0, 3, 5, 6, 58, 59, 60]), (1023, 26, [0, 5, 6]), (8186, 27, [0, 5, 6, 92, 93]), (4191438, 28, [0, 5, 6, 92, 93, 109, 110, 111]), (67063015, 29, [0, 5, 6, 92, 93, 109, 110, 111])]
theorem fit15 : cutsFit labs 15 cuts15 = true := by kernel_rfl
noncomputable def cuts14 : Cuts := [(2042, 30, [1, 4, 5, 6]), (1045690, 31, [1, 4, 5, 6, 7, 8, 89, 90, 91])]
theorem fit14 : cutsFit labs 14 cuts14 = true := by kernel_rfl
noncomputable def cuts41 : Cuts := []
theorem fit41 : cutsFit labs 41 cuts41 = true := by kernel_rfl
noncomputable def cuts40 : Cuts := []
theorem fit40 : cutsFit labs 40 cuts40 = true := by kernel_rfl
noncomputable def cuts39 : Cuts := []
noncomputable def cuts38 : Cuts := []
theorem fit38 : cutsFit labs 38 cuts38 = true := by kernel_rfl
noncomputable def cuts37 : Cuts := [(31, 32, [0, 5]), (60, 33, [0, 1, 5])]
theorem fit37 : cutsFit labs 37 cuts37 = true := by kernel_rfl
noncomputable def cuts36 : Cuts := [(126, 34, [0, 3, 4, 5, 6]), (4036, 35, [0, 3, 4, 5, 6, 7]), (64639, 36, [0, 3, 4, 5, 6, 7])]
theorem fit36 : cutsFit labs 36 cuts36 = true := by kernel_rfl
noncomputable def cuts63 : Cuts := []
noncomputable def cuts62 : Cuts := []
noncomputable def cuts64 : Cuts := []
noncomputable def cuts61 : Cuts := []
noncomputable def cuts60 : Cuts := []
noncomputable def cuts27 : Cuts := []
theorem fit27 : cutsFit labs 27 cuts27 = true := by kernel_rfl
noncomputable def cuts29 : Cuts := [(63, 37, [4]), (122, 38, [3, 4, 8, 25, 26, 27]), (1959, 39, [3, 4, 8, 25, 26, 27])]
theorem fit29 : cutsFit labs 29 cuts29 = true := by kernel_rfl
noncomputable def cuts28 : Cuts := [(124, 40, [7])]
theorem fit28 : cutsFit labs 28 cuts28 = true := by kernel_rfl
noncomputable def cuts25 : Cuts := []
theorem fit25 : cutsFit labs 25 cuts25 = true := by kernel_rfl
noncomputable def cuts24 : Cuts := [(7, 41, [2]), (53, 42, [1, 2, 8, 9]), (215, 43, [2, 19])]
theorem fit24 : cutsFit labs 24 cuts24 = true := by kernel_rfl
noncomputable def cuts26 : Cuts := []
theorem fit26 : cutsFit labs 26 cuts26 = true := by kernel_rfl
noncomputable def cuts69 : Cuts := []
theorem fit69 : cutsFit labs 69 cuts69 = true := by kernel_rfl
noncomputable def cuts74 : Cuts := [(15, 44, [0, 5]), (950263, 45, [0, 5]), (3801055, 46, [6])]
theorem fit74 : cutsFit labs 74 cuts74 = true := by kernel_rfl
noncomputable def cuts72 : Cuts := []
theorem fit72 : cutsFit labs 72 cuts72 = true := by kernel_rfl
noncomputable def cuts73 : Cuts := [(15, 47, [2, 3])]
theorem fit73 : cutsFit labs 73 cuts73 = true := by kernel_rfl
noncomputable def cuts71 : Cuts := []
theorem fit71 : cutsFit labs 71 cuts71 = true := by kernel_rfl
noncomputable def cuts70 : Cuts := []
theorem fit70 : cutsFit labs 70 cuts70 = true := by kernel_rfl
noncomputable def cuts66 : Cuts := [(58, 48, [0, 3, 4]), (467, 49, [0, 3, 4])]
theorem fit66 : cutsFit labs 66 cuts66 = true := by kernel_rfl
noncomputable def cuts68 : Cuts := [(28, 50, [0, 1, 4, 7]), (491, 51, [4, 7, 8])]
theorem fit68 : cutsFit labs 68 cuts68 = true := by kernel_rfl
noncomputable def cuts67 : Cuts := [(252, 52, [0, 1, 9])]
theorem fit67 : cutsFit labs 67 cuts67 = true := by kernel_rfl
noncomputable def cuts65 : Cuts := []
theorem fit65 : cutsFit labs 65 cuts65 = true := by kernel_rfl
noncomputable def cuts58 : Cuts := [(3930, 53, [0, 3, 6, 7, 26, 27, 28]), (15871, 54, [0, 3, 4, 5, 19, 85])]
theorem fit58 : cutsFit labs 58 cuts58 = true := by kernel_rfl
noncomputable def cuts57 : Cuts := [(58, 55, [0, 2, 4, 6, 16, 17, 18]), (127, 56, [0, 4, 9, 10]), (935, 57, [0, 2, 4, 6, 16, 17, 18])]
theorem fit57 : cutsFit labs 57 cuts57 = true := by kernel_rfl
noncomputable def cuts55 : Cuts := []
theorem fit55 : cutsFit labs 55 cuts55 = true := by kernel_rfl
noncomputable def cuts56 : Cuts := []
theorem fit56 : cutsFit labs 56 cuts56 = true := by kernel_rfl
noncomputable def cuts59 : Cuts := []
theorem fit59 : cutsFit labs 59 cuts59 = true := by kernel_rfl
noncomputable def cuts54 : Cuts := []
theorem fit54 : cutsFit labs 54 cuts54 = true := by kernel_rfl
noncomputable def cuts53 : Cuts := []
theorem fit53 : cutsFit labs 53 cuts53 = true := by kernel_rfl
noncomputable def cuts51 : Cuts := []
theorem fit51 : cutsFit labs 51 cuts51 = true := by kernel_rfl
noncomputable def cuts50 : Cuts := [(117, 58, [2, 3, 5, 10, 11]), (30932991, 59, [2, 3, 5, 10, 164])]
theorem fit50 : cutsFit labs 50 cuts50 = true := by kernel_rfl
noncomputable def cuts49 : Cuts := []
theorem fit49 : cutsFit labs 49 cuts49 = true := by kernel_rfl
noncomputable def cuts48 : Cuts := []
theorem fit48 : cutsFit labs 48 cuts48 = true := by kernel_rfl
noncomputable def cuts46 : Cuts := []
theorem fit46 : cutsFit labs 46 cuts46 = true := by kernel_rfl
noncomputable def cuts45 : Cuts := [(26, 60, [3, 4, 5, 6, 11])]
theorem fit45 : cutsFit labs 45 cuts45 = true := by kernel_rfl
noncomputable def cuts44 : Cuts := []
theorem fit44 : cutsFit labs 44 cuts44 = true := by kernel_rfl
noncomputable def cuts47 : Cuts := []
theorem fit47 : cutsFit labs 47 cuts47 = true := by kernel_rfl
noncomputable def cuts52 : Cuts := [(26, 61, [0, 1, 7, 8])]
theorem fit52 : cutsFit labs 52 cuts52 = true := by kernel_rfl
noncomputable def cuts119 : Cuts := []
theorem fit119 : cutsFit labs 119 cuts119 = true := by kernel_rfl
noncomputable def cuts118 : Cuts := [(28, 62, [0, 1, 5])]
theorem fit118 : cutsFit labs 118 cuts118 = true := by kernel_rfl
noncomputable def cuts117 : Cuts := [(7, 63, [0, 1, 2])]
theorem fit117 : cutsFit labs 117 cuts117 = true := by kernel_rfl
noncomputable def cuts116 : Cuts := [(15, 64, [0, 1, 5]), (28, 65, [0, 1, 5]), (31, 66, [0, 5])]
theorem fit116 : cutsFit labs 116 cuts116 = true := by kernel_rfl
noncomputable def cuts114 : Cuts := [(511, 67, [0, 1, 2, 7, 8]), (1018, 68, [0, 1, 2, 7, 8, 9, 10, 11]), (1023, 69, [8]), (2044, 70, [0, 1, 2, 7, 8]), (8147, 71, [0, 1, 2, 7, 8, 9, 10, 11]), (523359, 72, [0, 1, 2, 7, 8, 13, 14, 16])]
theorem fit114 : cutsFit labs 114 cuts114 = true := by kernel_rfl
noncomputable def cuts115 : Cuts := []
theorem fit115 : cutsFit labs 115 cuts115 = true := by kernel_rfl
noncomputable def cuts113 : Cuts := [(26, 73, [0, 1, 5])]
theorem fit113 : cutsFit labs 113 cuts113 = true := by kernel_rfl
noncomputable def cuts101 : Cuts := []
theorem fit101 : cutsFit labs 101 cuts101 = true := by kernel_rfl
noncomputable def cuts112 : Cuts := [(122, 74, [0, 1, 4, 7, 8, 9]), (979, 75, [0, 1, 4, 7, 8, 9])]
theorem fit112 : cutsFit labs 112 cuts112 = true := by kernel_rfl
noncomputable def cuts102 : Cuts := []
theorem fit102 : cutsFit labs 102 cuts102 = true := by kernel_rfl
noncomputable def cuts111 : Cuts := [(124, 76, [0, 4, 5])]
noncomputable def cuts110 : Cuts := [(28, 77, [0, 1, 5]), (14527, 78, [0, 1, 5, 6]), (29055, 79, [0, 1, 5, 6]), (232436, 80, [0, 1, 5, 6])]
noncomputable def cuts103 : Cuts := [(124, 81, [0, 1, 7, 8]), (8186, 82, [0, 1, 7, 8, 9, 10]), (523927, 83, [0, 1, 7, 8, 9, 11])]
theorem fit103 : cutsFit labs 103 cuts103 = true := by kernel_rfl
noncomputable def cuts109 : Cuts := [(250, 84, [0, 4, 5, 6, 7])]
theorem fit109 : cutsFit labs 109 cuts109 = true := by kernel_rfl
noncomputable def cuts108 : Cuts := [(63, 85, [1, 6]), (124, 86, [0, 1, 5, 6])]
theorem fit108 : cutsFit labs 108 cuts108 = true := by kernel_rfl
noncomputable def cuts107 : Cuts := [(58, 87, [0, 3, 4])]
theorem fit107 : cutsFit labs 107 cuts107 = true := by kernel_rfl
noncomputable def cuts106 : Cuts := []
theorem fit106 : cutsFit labs 106 cuts106 = true := by kernel_rfl
noncomputable def cuts105 : Cuts := []
theorem fit105 : cutsFit labs 105 cuts105 = true := by kernel_rfl
noncomputable def cuts104 : Cuts := []
theorem fit104 : cutsFit labs 104 cuts104 = true := by kernel_rfl
noncomputable def cuts100 : Cuts := [(26, 88, [0, 1, 5])]
theorem fit100 : cutsFit labs 100 cuts100 = true := by kernel_rfl
noncomputable def cuts97 : Cuts := []
theorem fit97 : cutsFit labs 97 cuts97 = true := by kernel_rfl
noncomputable def cuts92 : Cuts := []
theorem fit92 : cutsFit labs 92 cuts92 = true := by kernel_rfl
noncomputable def cuts96 : Cuts := []
theorem fit96 : cutsFit labs 96 cuts96 = true := by kernel_rfl
noncomputable def cuts95 : Cuts := []
theorem fit95 : cutsFit labs 95 cuts95 = true := by kernel_rfl
noncomputable def cuts91 : Cuts := [(58, 89, [0, 5, 8, 9, 10])]
theorem fit91 : cutsFit labs 91 cuts91 = true := by kernel_rfl
noncomputable def cuts94 : Cuts := [(60, 90, [0, 3, 4, 5]), (63, 91, [0, 4]), (254, 92, [0, 60, 61, 62]), (15439, 93, [0, 3, 4, 5, 7])]
theorem fit94 : cutsFit labs 94 cuts94 = true := by kernel_rfl
noncomputable def cuts93 : Cuts := [(255, 94, [2, 3, 4, 7, 8]), (2047, 95, [2, 4]), (8190, 96, [2, 157, 158, 159]), (65215, 97, [2, 3, 4, 5, 6, 11, 12]), (66781178, 98, [2, 3, 4, 5, 6, 12, 15, 64, 65, 66])]
theorem fit93 : cutsFit labs 93 cuts93 = true := by kernel_rfl
noncomputable def cuts90 : Cuts := []
theorem fit90 : cutsFit labs 90 cuts90 = true := by kernel_rfl
noncomputable def cuts88 : Cuts := []
theorem fit88 : cutsFit labs 88 cuts88 = true := by kernel_rfl
noncomputable def cuts89 : Cuts := []
theorem fit89 : cutsFit labs 89 cuts89 = true := by kernel_rfl
noncomputable def cuts87 : Cuts := [(26, 99, [0, 1, 7, 8])]
theorem fit87 : cutsFit labs 87 cuts87 = true := by kernel_rfl
noncomputable def cuts86 : Cuts := []
theorem fit86 : cutsFit labs 86 cuts86 = true := by kernel_rfl
noncomputable def cuts85 : Cuts := []
theorem fit85 : cutsFit labs 85 cuts85 = true := by kernel_rfl
noncomputable def cuts82 : Cuts := []
theorem fit82 : cutsFit labs 82 cuts82 = true := by kernel_rfl
noncomputable def cuts77 : Cuts := []
theorem fit77 : cutsFit labs 77 cuts77 = true := by kernel_rfl
noncomputable def cuts83 : Cuts := []
theorem fit83 : cutsFit labs 83 cuts83 = true := by kernel_rfl
noncomputable def cuts75 : Cuts := []
theorem fit75 : cutsFit labs 75 cuts75 = true := by kernel_rfl
noncomputable def cuts81 : Cuts := [(58, 100, [0, 21, 22])]
theorem fit81 : cutsFit labs 81 cuts81 = true := by kernel_rfl
noncomputable def cuts79 : Cuts := []
theorem fit79 : cutsFit labs 79 cuts79 = true := by kernel_rfl
noncomputable def cuts76 : Cuts := []
theorem fit76 : cutsFit labs 76 cuts76 = true := by kernel_rfl
noncomputable def cuts84 : Cuts := []
noncomputable def cuts80 : Cuts := [(58, 101, [2, 3, 5, 6])]
theorem fit80 : cutsFit labs 80 cuts80 = true := by kernel_rfl
noncomputable def cuts78 : Cuts := []
theorem fit78 : cutsFit labs 78 cuts78 = true := by kernel_rfl
noncomputable def cuts141 : Cuts := [(1020, 102, [0, 1, 2, 7]), (8161, 103, [0, 1, 2]), (130591, 104, [0, 1, 2])]
theorem fit141 : cutsFit labs 141 cuts141 = true := by kernel_rfl
noncomputable def cuts140 : Cuts := []
theorem fit140 : cutsFit labs 140 cuts140 = true := by kernel_rfl
noncomputable def cuts139 : Cuts := [(31, 105, [0, 1, 2, 7, 8]), (60, 106, [0, 1, 2, 6, 7, 8]), (965, 107, [0, 1, 2, 6, 7, 8])]
theorem fit139 : cutsFit labs 139 cuts139 = true := by kernel_rfl
noncomputable def cuts136 : Cuts := [(15, 108, [0])]
theorem fit136 : cutsFit labs 136 cuts136 = true := by kernel_rfl
noncomputable def cuts138 : Cuts := []
theorem fit138 : cutsFit labs 138 cuts138 = true := by kernel_rfl
noncomputable def cuts133 : Cuts := []
theorem fit133 : cutsFit labs 133 cuts133 = true := by kernel_rfl
noncomputable def cuts137 : Cuts := [(12, 109, [0, 1]), (395, 110, [0, 1])]
theorem fit137 : cutsFit labs 137 cuts137 = true := by kernel_rfl
noncomputable def cuts135 : Cuts := [(122, 111, [0, 5, 6, 7])]
theorem fit135 : cutsFit labs 135 cuts135 = true := by kernel_rfl
noncomputable def cuts134 : Cuts := [(250, 112, [0, 1, 5, 6, 7, 8])]
theorem fit134 : cutsFit labs 134 cuts134 = true := by kernel_rfl
noncomputable def cuts132 : Cuts := []
theorem fit132 : cutsFit labs 132 cuts132 = true := by kernel_rfl
noncomputable def cuts131 : Cuts := [(65492, 113, [0, 1, 12])]
noncomputable def cuts130 : Cuts := [(12, 114, [0]), (28, 115, [0]), (63, 116, [0, 4]), (2042, 117, [0, 4, 5, 6]), (2047, 118, [5])]
theorem fit130 : cutsFit labs 130 cuts130 = true := by kernel_rfl
noncomputable def cuts129 : Cuts := []
theorem fit129 : cutsFit labs 129 cuts129 = true := by kernel_rfl
noncomputable def cuts128 : Cuts := []
theorem fit128 : cutsFit labs 128 cuts128 = true := by kernel_rfl
noncomputable def cuts126 : Cuts := [(31, 119, [0, 6])]
theorem fit126 : cutsFit labs 126 cuts126 = true := by kernel_rfl
noncomputable def cuts127 : Cuts := []
theorem fit127 : cutsFit labs 127 cuts127 = true := by kernel_rfl
noncomputable def cuts125 : Cuts := [(26, 120, [0, 1, 7, 8])]
theorem fit125 : cutsFit labs 125 cuts125 = true := by kernel_rfl
noncomputable def cuts122 : Cuts := []
theorem fit122 : cutsFit labs 122 cuts122 = true := by kernel_rfl
noncomputable def cuts124 : Cuts := []
theorem fit124 : cutsFit labs 124 cuts124 = true := by kernel_rfl
noncomputable def cuts123 : Cuts := []
theorem fit123 : cutsFit labs 123 cuts123 = true := by kernel_rfl
noncomputable def cuts120 : Cuts := []
theorem fit120 : cutsFit labs 120 cuts120 = true := by kernel_rfl
noncomputable def cuts121 : Cuts := []
theorem fit121 : cutsFit labs 121 cuts121 = true := by kernel_rfl
noncomputable def cuts160 : Cuts := []
theorem fit160 : cutsFit labs 160 cuts160 = true := by kernel_rfl
end Go.FN
