/- A part of the proof. -/
import Derived.Test.YteeahoagedfehaaGreatDoorSHU5
set_option linter.all false
set_option warn.classDefReducibility false
noncomputable section
section
open Go Go.Mid Go.Proofs
set_option maxRecDepth 100000
namespace Go.MS
section
variable {l F : List Asn} {h h0 : Hp} {ro : Bool} {Q : V → List Asn → Prop} {k : V → VH} {K : V → Hp → VH} {v lV : V} {X X' : HI} {Y Y' : DI} {Z Z' : BI} {i j : Nat}
theorem sp22 (H : St l h) : Tri h true l (rNo (.bool true)) (M 22 [] h) := by
 have e : M 22 [] h = some (.bool true, h) := by
  refine (@lim_F Tryz.prog (orc fnA Inv) labs 11 _ _ _).2 ⟨0, ?_⟩
  rfl
 rw [e]
 exact Tri.done (B := []) ⟨rfl, rfl⟩ H (Lo.refl _ _)
theorem newRx {e : Nat} {cs : List V} {k : V → Hp → VH} (H : St l h) (L : Lo ro h0 h) (hK : ∀ b h', h0.n ≤ b → St (rowx b e cs :: l) h' → Lo ro h0 h' → Tri h0 ro F Q (k (.ptr b 0) h')) :
 Tri h0 ro F Q (Mid.newS e cs h k) := by rw [newS_at]; exact hK h.n _ L.n (H.rowx_new e cs) (L.new _ _ _)
def T6 (bb b8 b10 b12 : Nat) (v184 : V) (h183 : Hp) : VH :=
 newS 44 [(.int .u8 0), (.int .u8 0), (.int .i64 0), (.int .u8 0), (.int .i64 0), .nilSlice, (.int .u8 0)] h183 fun v185 h186 =>
 nilS (.ptr bb 0) fun v187 =>
 addrS 0 v187 fun v188 =>
 load1 v188 h186 fun v189 =>
 loadN 2 (.ptr b8 0) h186 fun v190 =>
 loadN 2 (.ptr b10 0) h186 fun v191 =>
 loadN 2 (.ptr b12 0) h186 fun v192 =>
 bindS (M 20 [v189, v190, v191, v192] ⟨h186.t, h186.n, h186.n⟩) fun v193 h194 =>
 cD ((pureB h186 h194 || sameLd h186 h194 (fent v185 44 [(.int .u8 0), (.int .u8 0), (.int .i64 0), (.int .u8 0), (.int .i64 0), .nilSlice, (.int .u8 0)])) && true) (
 wroteS h186.low h194 fun h195 =>
 storeN 7 v185 v193 h195 fun h196 =>
 addrS 0 v185 fun v197 =>
 load1 v197 h196 fun v198 =>
 intS .neq v198 (.int .u8 1) fun v199 =>
 guardS v199 false (notS v184 fun v200 =>
 some (v200, h196)) h196 fun v201 h202 =>
 optS (pickV v199 (.bool true) v201) fun v203 =>
 guardS v203 false (loadN 2 (.ptr b12 0) h202 fun v204 =>
 bindS (bldStruct h202 [] (.agg [(.int .u8 0), (.int .i64 0)]) (some [(0, 1), (1, 1)])) fun v205 h206 =>
 bindS (vh h206 (eqOp .eql (cmpV [(0, .int .u8), (1, .int .i64)] v204 v205))) fun v207 h208 =>
 some (v207, h208)) h202 fun v209 h210 =>
 optS (pickV v203 (.bool true) v209) fun v211 =>
 ifS v211 (
 addrS 0 v185 fun v212 =>
 load1 v212 h210 fun v213 =>
 intS .neq v213 (.int .u8 4) fun v214 =>
 guardS v214 true (bindS (M 22 [] h210) fun v215 h216 =>
 some (v215, h216)) h210 fun v217 h218 =>
 optS (pickV v214 v217 (.bool false)) fun v219 =>
 some (v219, h218)) (
 newS 44 [(.int .u8 0), (.int .u8 0), (.int .i64 0), (.int .u8 0), (.int .i64 0), .nilSlice, (.int .u8 0)] h210 fun v220 h221 =>
 nilS (.ptr bb 0) fun v222 =>
 addrS 0 v222 fun v223 =>
 load1 v223 h221 fun v224 =>
 loadN 2 (.ptr b8 0) h221 fun v225 =>
 loadN 2 (.ptr b10 0) h221 fun v226 =>
 bindS (M 24 [v224, v225, v226] ⟨h221.t, h221.n, h221.n⟩) fun v227 h228 =>
 cD ((pureB h221 h228 || sameLd h221 h228 (fent v220 44 [(.int .u8 0), (.int .u8 0), (.int .i64 0), (.int .u8 0), (.int .i64 0), .nilSlice, (.int .u8 0)])) && true) (
 wroteS h221.low h228 fun h229 =>
 storeN 7 v220 v227 h229 fun h230 =>
 addrS 0 v220 fun v231 =>
 load1 v231 h230 fun v232 =>
 intS .eql v232 (.int .u8 1) fun v233 =>
 guardS v233 true (addrS 1 v220 fun v234 =>
 some (v234, h230)) h230 fun v235 _ =>
 guardS v233 true (loadN 2 v235 h230 fun v236 =>
 some (v236, h230)) h230 fun v237 _ =>
 guardS v233 true (loadN 2 (.ptr b12 0) h230 fun v238 =>
 some (v238, h230)) h230 fun v239 _ =>
 guardS v233 true (bindS (vh h230 (eqOp .eql (cmpV [(0, .int .u8), (1, .int .i64)] v237 v239))) fun v240 h241 =>
 some (v240, h241)) h230 fun v242 _ =>
 optS (pickV v233 v242 (.bool false)) fun v243 =>
 guardS v243 true (some ((.ptr bb 0), h230)) h230 fun v244 _ =>
 guardS v243 true (nilS v244 fun v245 =>
 some (v245, h230)) h230 fun v246 _ =>
 guardS v243 true (addrS 0 v246 fun v247 =>
 some (v247, h230)) h230 fun v248 _ =>
 guardS v243 true (load1 v248 h230 fun v249 =>
 some (v249, h230)) h230 fun v250 _ =>
 guardS v243 true (loadN 2 (.ptr b8 0) h230 fun v251 =>
 some (v251, h230)) h230 fun v252 _ =>
 guardS v243 true (loadN 2 (.ptr b10 0) h230 fun v253 =>
 some (v253, h230)) h230 fun v254 _ =>
 guardB v243 true (
 bindS (M 18 [v250, v252, v254] ⟨h230.t, h230.n, h230.n⟩) fun v255 h256 =>
 wroteS h230.low h256 fun h257 =>
 guardB v243 true (
 loadN 2 (.ptr b12 0) h230 fun v258 =>
 cD (((pureB h230 h256) || sameA h230 h257 (.ptr b12 0) (vcells v258).length) && true) (
 guardS v243 true (bindS (vh h257 (eqOp .eql (cmpV [(0, .int .u8), (1, .int .i64)] v255 v258))) fun v259 h260 =>
 some (v259, h260)) h257 fun v261 h262 =>
 optS (pickV v243 v261 (.bool false)) fun v263 =>
 guardS v263 true (bindS (M 22 [] h262) fun v264 h265 =>
 some (v264, h265)) h262 fun v266 h267 =>
 optS (pickV v263 v266 (.bool false)) fun v268 =>
 some (v268, h267)) none) (
 guardS v243 true (bindS (vh h257 (eqOp .eql (cmpV [(0, .int .u8), (1, .int .i64)] v255 undefV))) fun v269 h270 =>
 some (v269, h270)) h257 fun v271 h272 =>
 optS (pickV v243 v271 (.bool false)) fun v273 =>
 guardS v273 true (bindS (M 22 [] h272) fun v274 h275 =>
 some (v274, h275)) h272 fun v276 h277 =>
 optS (pickV v273 v276 (.bool false)) fun v278 =>
 some (v278, h277))) (
 guardS v243 true (loadN 2 (.ptr b12 0) h230 fun v279 =>
 some (v279, h230)) h230 fun v280 _ =>
 guardS v243 true (bindS (vh h230 (eqOp .eql (cmpV [(0, .int .u8), (1, .int .i64)] undefV v280))) fun v281 h282 =>
 some (v281, h282)) h230 fun v283 h284 =>
 optS (pickV v243 v283 (.bool false)) fun v285 =>
 guardS v285 true (bindS (M 22 [] h284) fun v286 h287 =>
 some (v286, h287)) h284 fun v288 h289 =>
 optS (pickV v285 v288 (.bool false)) fun v290 =>
 some (v290, h289))) none)) none
abbrev Out0 : List V := [.int .u8 0, .int .u8 0, .int .i64 0, .int .u8 0, .int .i64 0, .nilSlice, .int .u8 0]
theorem flo_out {h h' : Hp} {a : Bool} {b : Nat} (hb : h'.t.get b = some (.cells (Tr.nil.setL 0 Out0) 7 false 44)) : ((a || sameLd h h' (fent (.ptr b 0) 44 Out0)) && true) = true := by
 show ((a || (Nat.blt b h'.low || isRow (h'.t.get b) 44 Out0)) && true) = true
 rw [hb, isRow_out, Bool.or_true, Bool.or_true]; rfl
theorem ofI_upd {t : Vl} {x : IO} {lV : V} {pl : List Pl} (hx : ofI X.os t 5 = some x) : ofI (X.upd (t.2.toNat - 1) (x.wi lV pl)).os t 5 = some (x.wi lV pl) := by
 obtain ⟨h1, h2, h3⟩ := ofI_at hx
 unfold ofI at hx ⊢
 rw [if_pos h3] at hx ⊢
 obtain ⟨_, g2, g3, g4⟩ := findI_at hx
 unfold findI
 rw [if_pos ⟨g3, g4⟩]
 show (match (X.os.set (t.2.toNat - 1) (x.wi lV pl))[t.2.toNat - 1]? with
  | some y => if y.a.kd = t.1 then some y else none
  | none => none) = _
 rw [List.getElem?_set_self (List.getElem?_eq_some_iff.1 h1).1]
 simp only []
 rw [if_pos (show (x.wi lV pl).a.kd = t.1 from g2)]
theorem getI_upd {t key w : Vl} {x : IO} {lV : V} (hx : ofI X.os t 5 = some x) (hw : w.1 ≠ 0) : getI (X.upd (t.2.toNat - 1) (x.wi lV (setP x.a.pl key w))).os t key = w := by
 unfold getI
 rw [ofI_upd hx]
 exact getP_setP hw
theorem okV_ne {v : Vl} (h : okV v) (hn : v ≠ (0, 0)) : v.1 ≠ 0 := fun e => hn (Prod.ext e (h.2.2 (by omega)))
def rYes : V → List Asn → Prop := fun w B => w = .bool true ∧ B = []
theorem tail6 {t key w : Vl} {b8 b10 b12 : Nat} {pl : Bool} (R : Room X) (hv : ValsOk X) (hz : Z.hb = X.hb) (ht : okV t) (h0 : 0 ≤ key.1) (h2 : keepI X.os key = true) (h3 : keepI X.os w = true) (hw : okV w) (htt : (ofI X.os t 5).isSome = true)
 (hpl : pl = true → metaI X.os t = (0, 0) ∨ getI X.os t key ≠ (0, 0))
 (H : St (HK X :: BK Z :: Mid.row b8 (vlC t) :: Mid.row b10 (vlC key) :: Mid.row b12 (vlC w) :: l) h) : Tri h false l rYes (T6 Z.bb b8 b10 b12 (.bool pl) h) := by
 unfold T6
 have L : Lo false h h := Lo.refl _ _
 refine newRx H L fun b h hb H L => ?_
 replace H := openZ (H.out 2)
 refine Tri.nil ?_
 refine Tri.addr ?_
 refine Tri.load 0 H rfl rfl ?_
 refine Tri.loads 5 (by decide) H rfl (Nat.le_of_ble_eq_true rfl) ?_
 refine Tri.loads 6 (by decide) H rfl (Nat.le_of_ble_eq_true rfl) ?_
 refine Tri.loads 7 (by decide) H rfl (Nat.le_of_ble_eq_true rfl) ?_
 have hdir : pl = true → dirc X (knV X.as nwS) (knB X.as nwS) t key := fun e => ⟨htt, (hpl e).elim (fun c => .inl (by unfold fndI; rw [c, if_neg (fun c => absurd c.2 (by decide))])) (fun c => .inr (okV_ne (getI_ok hv t key) c))⟩
 rw [hz]
 refine Tri.wroteP (f20 (t := t) (key := key) (w := w) R hv ht h0 h2 h3 ((H.out 4).draw _)) L (fun e => e) (fun v h2 B hq H2 => flo_out (St.rowx_get (St.drop (B := B) H2) (i := 3) rfl)) fun r h2 h B hq H2 eh H L => ?_
 rcases hq with ⟨hd, hput⟩ | ⟨hnd, kd, v, fn, ag, po, rfl, ⟨h4, hag⟩, rfl⟩
 ·rcases hput with ⟨hk0, n, rfl, rfl⟩ | ⟨hk0, rfl, x, lV, hx, rfl⟩
  ·replace H := H.imp (i := 3) rfl rowx_row
   refine Tri.stores 3 (by decide) H rfl rfl (Nat.le_of_ble_eq_true rfl) L (fun e => nomatch e) (by first | rfl | assumption) fun h H L => ?_
   refine Tri.addr ?_
   refine Tri.load 3 H rfl rfl ?_
   refine Tri.neq (fun _ => ?_) (fun e => absurd e (by decide))
   refine Tri.eqv (guard_tf _ _ _) ?_
   refine Tri.eqv (pick_t _ _ _) ?_
   refine Tri.eqv (guard_tf _ _ _) ?_
   refine Tri.eqv (pick_t _ _ _) ?_
   refine Tri.ift ?_
   refine Tri.addr ?_
   refine Tri.load 3 H rfl rfl ?_
   refine Tri.neq (fun _ => ?_) (fun e => absurd e (by decide))
   refine Tri.eqv (guard_tt _ _ _) ?_
   refine Tri.eqv (bind_bind _ _ _) ?_
   refine Tri.bind (sp22 H) L (fun _ => rfl) fun v h B hq34 H L => ?_
   obtain ⟨rfl, rfl⟩ := hq34
   refine Tri.bs ?_
   refine Tri.eqv (pick_t _ _ _) ?_
   exact Tri.done (B := []) ⟨rfl, rfl⟩ H.tl.tl.tl.tl.tl.tl.tl L
  ·replace H := H.imp (i := 4) rfl rowx_row
   cases pl with
   | false =>
    refine Tri.stores 4 (by decide) H rfl rfl (Nat.le_of_ble_eq_true rfl) L (fun e => nomatch e) (by first | rfl | assumption) fun h H L => ?_
    refine Tri.addr ?_
    refine Tri.load 4 H rfl rfl ?_
    refine Tri.neq (fun e => absurd e (by decide)) (fun _ => ?_)
    refine Tri.eqv (guard_ff _ _ _) ?_
    refine Tri.eqv (bind_notS _ _) ?_
    refine Tri.not ?_
    refine Tri.bs ?_
    refine Tri.eqv (pick_f _ _ _) ?_
    refine Tri.eqv (guard_tf _ _ _) ?_
    refine Tri.eqv (pick_t _ _ _) ?_
    refine Tri.ift ?_
    refine Tri.addr ?_
    refine Tri.load 4 H rfl rfl ?_
    refine Tri.neq (fun _ => ?_) (fun e => absurd e (by decide))
    refine Tri.eqv (guard_tt _ _ _) ?_
    refine Tri.eqv (bind_bind _ _ _) ?_
    refine Tri.bind (sp22 H) L (fun _ => rfl) fun v h B hq47 H L => ?_
    obtain ⟨rfl, rfl⟩ := hq47
    refine Tri.bs ?_
    refine Tri.eqv (pick_t _ _ _) ?_
    exact Tri.done (B := []) ⟨rfl, rfl⟩ H.tl.tl.tl.tl.tl.tl.tl.tl L
   | true =>
    refine Tri.stores 4 (by decide) H rfl rfl (Nat.le_of_ble_eq_true rfl) L (fun e => nomatch e) (by first | rfl | assumption) fun h H L => ?_
    refine Tri.addr ?_
    refine Tri.load 4 H rfl rfl ?_
    refine Tri.neq (fun e => absurd e (by decide)) (fun _ => ?_)
    refine Tri.eqv (guard_ff _ _ _) ?_
    refine Tri.eqv (bind_notS _ _) ?_
    refine Tri.not ?_
    refine Tri.bs ?_
    refine Tri.eqv (pick_f _ _ _) ?_
    refine Tri.eqv (guard_ff _ _ _) ?_
    refine Tri.eqv (bind_loadN _ _) ?_
    refine Tri.loads 7 (by decide) H rfl (Nat.le_of_ble_eq_true rfl) ?_
    refine Tri.eqv (bind_bind _ _ _) ?_
    refine Tri.bldS rfl ?_
    refine Tri.eqv (bind_bind _ _ _) ?_
    refine Tri.vlEq (n := w) (m := (0, 0)) (fun e0 => ?_) (fun e0 => ?_)
    ·refine Tri.bs ?_
     refine Tri.eqv (pick_f _ _ _) ?_
     refine Tri.ift ?_
     refine Tri.addr ?_
     refine Tri.load 4 H rfl rfl ?_
     refine Tri.neq (fun _ => ?_) (fun e => absurd e (by decide))
     refine Tri.eqv (guard_tt _ _ _) ?_
     refine Tri.eqv (bind_bind _ _ _) ?_
     refine Tri.bind (sp22 H) L (fun _ => rfl) fun v h B hq58 H L => ?_
     obtain ⟨rfl, rfl⟩ := hq58
     refine Tri.bs ?_
     refine Tri.eqv (pick_t _ _ _) ?_
     exact Tri.done (B := []) ⟨rfl, rfl⟩ H.tl.tl.tl.tl.tl.tl.tl.tl L
    ·refine Tri.bs ?_
     refine Tri.eqv (pick_f _ _ _) ?_
     refine Tri.iff ?_
     refine newRx H L fun b2 h hb2 H L => ?_
     replace H := H.d1
     refine Tri.nil ?_
     refine Tri.addr ?_
     refine Tri.load 2 H rfl rfl ?_
     refine Tri.loads 6 (by decide) H rfl (Nat.le_of_ble_eq_true rfl) ?_
     refine Tri.loads 7 (by decide) H rfl (Nat.le_of_ble_eq_true rfl) ?_
     have hw0 := okV_ne hw e0
     have hg := getI_upd (key := key) (w := w) (lV := lV) hx hw0
     have hm := mem_ofI hx
     have hP : ∀ y ∈ (X.upd (t.2.toNat - 1) (x.wi lV (setP x.a.pl key w))).os, y.a.pl.length ≤ 100000 := fun y hy => by
      rcases List.mem_or_eq_of_mem_set hy with h | h
      ·have := R.pl y h; omega
      ·subst h
       have h1 := setP_len x.a.pl key w
       have h2 := R.pl x hm
       show (setP x.a.pl key w).length ≤ _
       omega
     rw [hz]
     refine Tri.wroteP (f24 (X := X.upd (t.2.toNat - 1) (x.wi lV (setP x.a.pl key w))) (t := t) (key := key) hP (by rw [hg]; exact hw0) (H.draw _)) L (fun e => e) (fun v h2 B hq H2 => flo_out (St.rowx_get (St.drop (B := B) H2) (i := 0) rfl)) fun r h2 h B hq H2 eh H L => ?_
     obtain ⟨rfl, rfl⟩ := hq
     replace H := H.imp (i := 1) rfl rowx_row
     rw [hg]
     refine Tri.stores 1 (by decide) H rfl rfl (Nat.le_of_ble_eq_true rfl) L (fun e => nomatch e) (by first | rfl | assumption) fun h H L => ?_
     refine Tri.addr ?_
     refine Tri.load 1 H rfl rfl ?_
     refine Tri.eql (fun _ => ?_) (fun e => absurd e (by decide))
     refine Tri.eqv (guard_tt _ _ _) ?_
     refine Tri.eqv (bind_addr _ _) ?_
     refine Tri.addr ?_
     refine Tri.bs ?_
     refine Tri.eqv (guard_tt _ _ _) ?_
     refine Tri.eqv (bind_loadN _ _) ?_
     refine Tri.loads 1 (by decide) H rfl (Nat.le_of_ble_eq_true rfl) ?_
     refine Tri.bs ?_
     refine Tri.eqv (guard_tt _ _ _) ?_
     refine Tri.eqv (bind_loadN _ _) ?_
     refine Tri.loads 8 (by decide) H rfl (Nat.le_of_ble_eq_true rfl) ?_
     refine Tri.bs ?_
     refine Tri.eqv (guard_tt _ _ _) ?_
     refine Tri.eqv (bind_bind _ _ _) ?_
     refine Tri.vlEq (n := w) (m := w) (fun _ => ?_) (fun e => absurd rfl e)
     refine Tri.bs ?_
     refine Tri.eqv (pick_t _ _ _) ?_
     refine Tri.eqv (guard_tt _ _ _) ?_
     refine Tri.bs ?_
     refine Tri.eqv (guard_tt _ _ _) ?_
     refine Tri.eqv (bind_nilS _ _) ?_
     refine Tri.nil ?_
     refine Tri.bs ?_
     refine Tri.eqv (guard_tt _ _ _) ?_
     refine Tri.eqv (bind_addr _ _) ?_
     refine Tri.addr ?_
     refine Tri.bs ?_
     refine Tri.eqv (guard_tt _ _ _) ?_
     refine Tri.eqv (bind_load1 _ _) ?_
     refine Tri.load 2 H rfl rfl ?_
     refine Tri.bs ?_
     refine Tri.eqv (guard_tt _ _ _) ?_
     refine Tri.eqv (bind_loadN _ _) ?_
     refine Tri.loads 6 (by decide) H rfl (Nat.le_of_ble_eq_true rfl) ?_
     refine Tri.bs ?_
     refine Tri.eqv (guard_tt _ _ _) ?_
     refine Tri.eqv (bind_loadN _ _) ?_
     refine Tri.loads 7 (by decide) H rfl (Nat.le_of_ble_eq_true rfl) ?_
     refine Tri.bs ?_
     refine Tri.eqv (guardB_tt _ _) ?_
     have Ho105 := H
     have Ho := H
     rw [hz]
     refine Tri.wrote (sp18 (X := X.upd (t.2.toNat - 1) (x.wi lV (setP x.a.pl key w))) (a := t) (key := key) hP (H.draw _)) L (fun e => nomatch e) fun v h2 h B hq H2 hn hl eh H L => ?_
     obtain ⟨rfl, rfl⟩ := hq
     rw [hg]
     refine Tri.eqv (guardB_tt _ _) ?_
     refine Tri.loads 8 (by decide) Ho rfl (Nat.le_of_ble_eq_true rfl) ?_
     refine Tri.cd (by rw [show pureB _ _ = true from Nat.ble_eq_true_of_le (hl rfl)]; rfl) ?_
     refine Tri.eqv (guard_tt _ _ _) ?_
     refine Tri.eqv (bind_bind _ _ _) ?_
     refine Tri.vlEq (n := w) (m := w) (fun _ => ?_) (fun e => absurd rfl e)
     refine Tri.bs ?_
     refine Tri.eqv (pick_t _ _ _) ?_
     refine Tri.eqv (guard_tt _ _ _) ?_
     refine Tri.eqv (bind_bind _ _ _) ?_
     refine Tri.bind (sp22 H) L (fun _ => rfl) fun v h B hq94 H L => ?_
     obtain ⟨rfl, rfl⟩ := hq94
     refine Tri.bs ?_
     refine Tri.eqv (pick_t _ _ _) ?_
     exact Tri.done (B := []) ⟨rfl, rfl⟩ H.tl.tl.tl.tl.tl.tl.tl.tl.tl L
 ·replace H := H.imp (i := 3) rfl rowx_row
  have ho : allOne [V.int .u8 kd, .int .u8 v.1, .int .i64 v.2, .int .u8 fn.1, .int .i64 fn.2, ag, .int .u8 po] = true := by
   show (true && (true && (true && (true && (true && (oneCell ag && (true && true))))))) = true
   rw [hag]; rfl
  refine Tri.stores 3 (by decide) H rfl rfl (Nat.le_of_ble_eq_true rfl) L (fun e => nomatch e) (by first | rfl | assumption) fun h H L => ?_
  refine Tri.addr ?_
  refine Tri.load 3 H rfl rfl ?_
  refine Tri.neq (fun e1 => ?_) (fun e1 => ?_)
  ·refine Tri.eqv (guard_tf _ _ _) ?_
   refine Tri.eqv (pick_t _ _ _) ?_
   refine Tri.eqv (guard_tf _ _ _) ?_
   refine Tri.eqv (pick_t _ _ _) ?_
   refine Tri.ift ?_
   refine Tri.addr ?_
   refine Tri.load 3 H rfl rfl ?_
   refine Tri.neq (fun e2 => ?_) (fun e2 => absurd e2 h4)
   refine Tri.eqv (guard_tt _ _ _) ?_
   refine Tri.eqv (bind_bind _ _ _) ?_
   refine Tri.bind (sp22 H) L (fun _ => rfl) fun v h B hq122 H L => ?_
   obtain ⟨rfl, rfl⟩ := hq122
   refine Tri.bs ?_
   refine Tri.eqv (pick_t _ _ _) ?_
   exact Tri.done (B := []) ⟨rfl, rfl⟩ H.tl.tl.tl.tl.tl.tl.tl L
  ·cases pl with
   | true => exact absurd (hdir rfl) hnd
   | false =>
    refine Tri.eqv (guard_ff _ _ _) ?_
    refine Tri.eqv (bind_notS _ _) ?_
    refine Tri.not ?_
    refine Tri.bs ?_
    refine Tri.eqv (pick_f _ _ _) ?_
    refine Tri.eqv (guard_tf _ _ _) ?_
    refine Tri.eqv (pick_t _ _ _) ?_
    refine Tri.ift ?_
    refine Tri.addr ?_
    refine Tri.load 3 H rfl rfl ?_
    refine Tri.neq (fun e2 => ?_) (fun e2 => absurd e2 h4)
    refine Tri.eqv (guard_tt _ _ _) ?_
    refine Tri.eqv (bind_bind _ _ _) ?_
    refine Tri.bind (sp22 H) L (fun _ => rfl) fun v h B hq142 H L => ?_
    obtain ⟨rfl, rfl⟩ := hq142
    refine Tri.bs ?_
    refine Tri.eqv (pick_t _ _ _) ?_
    exact Tri.done (B := []) ⟨rfl, rfl⟩ H.tl.tl.tl.tl.tl.tl.tl L
theorem store_ok {S : Mem} {ms : List Int} {ss : List T3} {mV sV : V} {r i1 i2 i3 : Int} (hms : FSl 1 (IntAt S) mV ms) (hs : FSl 3 (SetAt S) sV ss) (H : St (frz S :: l) h) :
 Tri h false l rYes (M 6 [.agg [mV, sV, .int .i64 r], .agg [.int .i64 i1, .int .i64 i2, .int .i64 i3]] h) := by
 refine t2 e6 fun L => ?_
 unfold B6
 refine Tri.newS H L fun c0 h hc0 H L => ?_
 refine Tri.newS H L fun c1 h hc1 H L => ?_
 refine Tri.loads 1 (by decide) H rfl (Nat.le_of_ble_eq_true rfl) ?_
 refine Tri.bind (f10 (r := r) hms hs (H.out 2)) L (fun e => e) fun w h B hq H L => ?_
 obtain ⟨X, Y, Z, m, hm, J, rfl, rfl⟩ := hq
 replace H := openZ (H.x1.u1)
 refine Tri.eqP ?_
 refine Tri.iff ?_
 refine Tri.newS H L fun b11 h hb11 H L => ?_
 refine Tri.newS H L fun b12 h hb12 H L => ?_
 refine Tri.newS H L fun b13 h hb13 H L => ?_
 refine Tri.nil ?_
 refine Tri.addr ?_
 refine Tri.load 3 H rfl rfl ?_
 refine Tri.idxP (by decide) (by decide) ?_
 refine Tri.load 7 H rfl rfl ?_
 have Ho := H
 refine Tri.wroteC (sp12 (n := 4) (by decide) (by decide) (H.draw _)) L (fun v h2 e => by rw [e]; rfl) fun v h2 h B hq H2 hn1 hl eh1 H L => ?_
 obtain ⟨rfl, rfl⟩ := hq
 have p0 := pick_in (x := i1) (n := 4) (by decide)
 obtain ⟨p, hp⟩ := Int.eq_ofNat_of_zero_le p0.1
 rw [hp] at p0 ⊢
 have hp4 : p < 4 := by omega
 refine Tri.addN (by omega) (by omega) ?_
 refine Tri.at_ (s := 7 + p) (by omega) (J.tab (Nat.le_refl _) hp4 (by omega)) H.tl.tl.tl fun bt hct _ => ?_
 refine Tri.loadsC (X := vlC (5, ((p + 1 : Nat) : Int))) (by decide) rfl hct ?_
 refine Tri.idxP (by decide) (by decide) ?_
 refine Tri.load 7 Ho rfl rfl ?_
 refine Tri.cd (by rw [show pureB _ h2 = true from Nat.ble_eq_true_of_le (hl rfl)]; rfl) ?_
 replace H := closeZ (((H.out 5).out 5).out 5)
 have hlz : Z.ls.length = 35 := by rw [J.ls]; exact vals_len (Nat.le_refl _)
 refine Tri.wroteC (sp14 (Z := Z) (by rw [hlz]; decide) (H.draw _)) L (fun v h2 e => by rw [e]; rfl) fun v h3 h B hq H3 hn2 hl2 eh2 H L => ?_
 obtain ⟨key, hkv, rfl, rfl⟩ := hq
 refine Tri.idxP (by decide) (by decide) ?_
 refine Tri.load 7 Ho rfl rfl ?_
 refine Tri.cd (by rw [show pureB _ h3 = true from Nat.ble_eq_true_of_le (hl2 rfl), show pureB _ h2 = true from Nat.ble_eq_true_of_le (hl rfl)]; rfl) ?_
 refine Tri.wroteC (sp14 (Z := Z) (by rw [hlz]; decide) (H.draw _)) L (fun v h2 e => by rw [e]; rfl) fun v h4 h B hq H4 hn3 hl3 eh3 H L => ?_
 obtain ⟨w, hwv, rfl, rfl⟩ := hq
 have hkm : key ∈ valsL 28 := by rw [← J.ls]; exact List.mem_of_getElem? hkv
 have hwm : w ∈ valsL 28 := by rw [← J.ls]; exact List.mem_of_getElem? hwv
 have hko := vals_ok (Nat.le_refl _) hkm
 have hwo := vals_ok (Nat.le_refl _) hwm
 have R := J.room (Nat.le_refl _) (by omega)
 have hvo := J.gx.vals
 replace H := openZ H
 refine Tri.stores 5 (by decide) H rfl rfl (Nat.le_of_ble_eq_true rfl) L (fun e => nomatch e) (by first | rfl | assumption) fun h H L => ?_
 refine Tri.stores 4 (by decide) H rfl rfl (Nat.le_of_ble_eq_true rfl) L (fun e => nomatch e) (by first | rfl | assumption) fun h H L => ?_
 refine Tri.stores 3 (by decide) H rfl rfl (Nat.le_of_ble_eq_true rfl) L (fun e => nomatch e) (by first | rfl | assumption) fun h H L => ?_
 refine Tri.nil ?_
 refine Tri.addr ?_
 refine Tri.load 0 H rfl rfl ?_
 refine Tri.loads 5 (by decide) H rfl (Nat.le_of_ble_eq_true rfl) ?_
 have Ho37 := H
 rw [J.zh]
 obtain ⟨x, hx, hxk, hxf⟩ := findI_ob J.gx (Nat.le_refl _) (show p < 28 by omega) (shp_tab hp4)
 have hof : (ofI X.os (5, ((p + 1 : Nat) : Int)) 5).isSome = true := by unfold ofI; rw [if_pos rfl, hxf]; rfl
 have hto : okV (5, ((p + 1 : Nat) : Int)) := ⟨show (0 : Int) ≤ 5 by decide, show (5 : Int) ≤ 8 by decide, fun c => absurd (show (5 : Int) ≤ 2 from c) (by decide)⟩
 have hP : ∀ x ∈ X.os, x.a.pl.length ≤ 100000 := fun x hx => by have := R.pl x hx; omega
 have k1 := keep_vals J.gx (Nat.le_refl _) hkm
 have k2 := keep_vals J.gx (Nat.le_refl _) hwm
 have hk0 : 0 ≤ key.1 := hko.1
 refine Tri.wrote (sp16 (a := (5, ((p + 1 : Nat) : Int))) ((H.out 6).draw _)) L (fun e => nomatch e) fun v h5 h B hq H5 hn4 hl4 eh4 H L => ?_
 obtain ⟨rfl, rfl⟩ := hq
 refine Tri.bldS rfl ?_
 refine Tri.vlEq (n := metaI X.os (5, ((p + 1 : Nat) : Int))) (m := (0, 0)) (fun e1 => ?_) (fun e1 => ?_)
 ·refine Tri.eqv (guard_tf _ _ _) ?_
  refine Tri.eqv (guard_tf _ _ _) ?_
  refine Tri.eqv (guard_tf _ _ _) ?_
  refine Tri.eqv (guard_tf _ _ _) ?_
  refine Tri.eqv (guard_tf _ _ _) ?_
  refine Tri.eqv (guard_tf _ _ _) ?_
  refine Tri.eqv (guardB_tf _ _) ?_
  refine Tri.eqv (guard_tf _ _ _) ?_
  refine Tri.eqv (guard_tf _ _ _) ?_
  refine Tri.eqv (pick_t _ _ _) ?_
  have H1 := ((((closeZ H.d3).u1.out 4).ins 2).out 4).ins 3
  exact Tri.tail (tail6 (Z := Z) (pl := true) R hvo J.zh hto hk0 k1 k2 hwo hof (fun _ => .inl e1) H1) L (fun e => e) fun v h B hq H L => by
   obtain ⟨rfl, rfl⟩ := hq
   exact ⟨[], ⟨rfl, rfl⟩, H.tl.tl⟩
 ·refine Tri.eqv (guard_ff _ _ _) ?_
  refine Tri.bs ?_
  refine Tri.eqv (guard_ff _ _ _) ?_
  refine Tri.eqv (bind_nilS _ _) ?_
  refine Tri.nil ?_
  refine Tri.bs ?_
  refine Tri.eqv (guard_ff _ _ _) ?_
  refine Tri.eqv (bind_addr _ _) ?_
  refine Tri.addr ?_
  refine Tri.bs ?_
  refine Tri.eqv (guard_ff _ _ _) ?_
  refine Tri.eqv (bind_load1 _ _) ?_
  refine Tri.load 1 H rfl rfl ?_
  refine Tri.bs ?_
  refine Tri.eqv (guard_ff _ _ _) ?_
  refine Tri.eqv (bind_loadN _ _) ?_
  refine Tri.loads 6 (by decide) H rfl (Nat.le_of_ble_eq_true rfl) ?_
  refine Tri.bs ?_
  refine Tri.eqv (guard_ff _ _ _) ?_
  refine Tri.eqv (bind_loadN _ _) ?_
  refine Tri.loads 5 (by decide) H rfl (Nat.le_of_ble_eq_true rfl) ?_
  refine Tri.bs ?_
  refine Tri.eqv (guardB_ff _ _) ?_
  have Ho83 := H
  rw [J.zh]
  refine Tri.wrote (sp18 (a := (5, ((p + 1 : Nat) : Int))) (key := key) hP (H.draw _)) L (fun e => nomatch e) fun v h5 h B hq H5 hn4 hl4 eh4 H L => ?_
  obtain ⟨rfl, rfl⟩ := hq
  refine Tri.eqv (guard_ff _ _ _) ?_
  refine Tri.eqv (bind_bind _ _ _) ?_
  refine Tri.bldS rfl ?_
  refine Tri.bs ?_
  refine Tri.eqv (guard_ff _ _ _) ?_
  refine Tri.eqv (bind_bind _ _ _) ?_
  refine Tri.vlNe (n := getI X.os (5, ((p + 1 : Nat) : Int)) key) (m := (0, 0)) (fun e2 => ?_) (fun e2 => ?_)
  ·refine Tri.bs ?_
   refine Tri.eqv (pick_f _ _ _) ?_
   have H1 := ((((closeZ H.d3).u1.out 4).ins 2).out 4).ins 3
   exact Tri.tail (tail6 (Z := Z) (pl := true) R hvo J.zh hto hk0 k1 k2 hwo hof (fun _ => .inr e2) H1) L (fun e => e) fun v h B hq H L => by
    obtain ⟨rfl, rfl⟩ := hq
    exact ⟨[], ⟨rfl, rfl⟩, H.tl.tl⟩
  ·refine Tri.bs ?_
   refine Tri.eqv (pick_f _ _ _) ?_
   have H1 := ((((closeZ H.d3).u1.out 4).ins 2).out 4).ins 3
   exact Tri.tail (tail6 (Z := Z) (pl := false) R hvo J.zh hto hk0 k1 k2 hwo hof (fun e => Bool.noConfusion e) H1) L (fun e => e) fun v h B hq H L => by
    obtain ⟨rfl, rfl⟩ := hq
    exact ⟨[], ⟨rfl, rfl⟩, H.tl.tl⟩
end
end Go.MS
end
