/- LexNumbers: the refused texts, reckoned by the kernel (printed). -/
import Derived.Test.YtdiiilfokajddaaGreatDoorLLNL
import Derived.KernelRfl
set_option linter.all false
open Go Go.Mid Go.Proofs
set_option maxRecDepth 100000
namespace Go.LN
theorem named : Named Tryz.prog := letI := orc fnA (Inv 0); letI := okA 0; named_of (by kernel_rfl)
noncomputable def saysA (u : TypeId) (key : Nat) (vs : List V) : Bool := match gTab tabA 100000 key vs (h0 u) with
  | some (.bool true, _) => true
  | _ => false
theorem knownA {u : TypeId} {f : FuncId} {vs : List V} (h : saysA u (2 * f) vs = true) (hp : vs.all plain = true) : Known Tryz.prog (Inv u) f vs (.bool true) := by
  unfold saysA at h
  split at h
  · rename_i h' e
    letI : Orc := orc fnA (Inv u)
    letI : OrcOk Tryz.prog := okA u
    exact known_of (by kernel_rfl) named (h0 := h0 u) (h' := h') (fun w hw => begins rfl (fun _ h => h) hw) hp rfl (lim_tab (tabA_ok (Inv u)) e)
  · cases h
noncomputable def w0 : List V := [.str (us [49,46,53]), .int .i64 (.ofNat 31), .int .i64 (.ofNat 1)]
theorem wsays0 : ∀ u, saysA u 18 w0 = true := by intro u; kernel_rfl
noncomputable def w1 : List V := [.str (us [49,101,51]), .int .i64 (.ofNat 31), .int .i64 (.ofNat 1)]
theorem wsays1 : ∀ u, saysA u 18 w1 = true := by intro u; kernel_rfl
noncomputable def w2 : List V := [.str (us [97,47,98]), .int .i64 (.ofNat 31), .int .i64 (.ofNat 1)]
theorem wsays2 : ∀ u, saysA u 18 w2 = true := by intro u; kernel_rfl
noncomputable def w3 : List V := [.str (us [57,50,50,51,51,55,50,48,51,54,56,53,52,55,55,53,56,48,56]), .int .i64 (.ofNat 31), .int .i64 (.ofNat 1)]
theorem wsays3 : ∀ u, saysA u 18 w3 = true := by intro u; kernel_rfl
noncomputable def w4 : List V := [.str (us [46,53]), .int .i64 (.ofNat 31), .int .i64 (.ofNat 1)]
theorem wsays4 : ∀ u, saysA u 18 w4 = true := by intro u; kernel_rfl
noncomputable def w5 : List V := [.str (us [49,46,46,50]), .int .i64 (.ofNat 31), .int .i64 (.ofNat 1)]
theorem wsays5 : ∀ u, saysA u 18 w5 = true := by intro u; kernel_rfl
noncomputable def w6 : List V := [.str (us [48,120,49,112,52]), .int .i64 (.ofNat 31), .int .i64 (.ofNat 1)]
theorem wsays6 : ∀ u, saysA u 18 w6 = true := by intro u; kernel_rfl
noncomputable def w7 : List V := [.str (us [48,120,46,49]), .int .i64 (.ofNat 31), .int .i64 (.ofNat 1)]
theorem wsays7 : ∀ u, saysA u 18 w7 = true := by intro u; kernel_rfl
noncomputable def w8 : List V := [.str (us [49,101,43,53]), .int .i64 (.ofNat 31), .int .i64 (.ofNat 1)]
theorem wsays8 : ∀ u, saysA u 18 w8 = true := by intro u; kernel_rfl
noncomputable def w9 : List V := [.str (us [50,94,51]), .int .i64 (.ofNat 31), .int .i64 (.ofNat 1)]
theorem wsays9 : ∀ u, saysA u 18 w9 = true := by intro u; kernel_rfl
noncomputable def w10 : List V := [.str (us [51,46]), .int .i64 (.ofNat 31), .int .i64 (.ofNat 1)]
theorem wsays10 : ∀ u, saysA u 18 w10 = true := by intro u; kernel_rfl
noncomputable def w11 : List V := [.str (us [48,120,49,46,56]), .int .i64 (.ofNat 31), .int .i64 (.ofNat 1)]
theorem wsays11 : ∀ u, saysA u 18 w11 = true := by intro u; kernel_rfl
noncomputable def w12 : List V := [.str (us [51,120]), .int .i64 (.ofNat 30), .int .i64 (.ofNat 1)]
theorem wsays12 : ∀ u, saysA u 18 w12 = true := by intro u; kernel_rfl
noncomputable def w13 : List V := [.str (us [48,120]), .int .i64 (.ofNat 30), .int .i64 (.ofNat 1)]
theorem wsays13 : ∀ u, saysA u 18 w13 = true := by intro u; kernel_rfl
noncomputable def w14 : List V := [.str (us [64]), .int .i64 (.ofNat 30), .int .i64 (.ofNat 1)]
theorem wsays14 : ∀ u, saysA u 18 w14 = true := by intro u; kernel_rfl
noncomputable def w15 : List V := [.str (us [91,61,120]), .int .i64 (.ofNat 30), .int .i64 (.ofNat 1)]
theorem wsays15 : ∀ u, saysA u 18 w15 = true := by intro u; kernel_rfl
noncomputable def w16 : List V := [.str (us [48,120,103]), .int .i64 (.ofNat 30), .int .i64 (.ofNat 1)]
theorem wsays16 : ∀ u, saysA u 18 w16 = true := by intro u; kernel_rfl
noncomputable def w17 : List V := [.str (us [49,50,95]), .int .i64 (.ofNat 30), .int .i64 (.ofNat 1)]
theorem wsays17 : ∀ u, saysA u 18 w17 = true := by intro u; kernel_rfl
noncomputable def w18 : List V := [.str (us [39,92,113,39]), .int .i64 (.ofNat 30), .int .i64 (.ofNat 1)]
theorem wsays18 : ∀ u, saysA u 18 w18 = true := by intro u; kernel_rfl
noncomputable def w19 : List V := [.str (us [34,92,52,48,48,34]), .int .i64 (.ofNat 30), .int .i64 (.ofNat 1)]
theorem wsays19 : ∀ u, saysA u 18 w19 = true := by intro u; kernel_rfl
noncomputable def w20 : List V := [.str (us [33]), .int .i64 (.ofNat 30), .int .i64 (.ofNat 1)]
theorem wsays20 : ∀ u, saysA u 18 w20 = true := by intro u; kernel_rfl
noncomputable def w21 : List V := [.str (us [0]), .int .i64 (.ofNat 30), .int .i64 (.ofNat 1)]
theorem wsays21 : ∀ u, saysA u 18 w21 = true := by intro u; kernel_rfl
noncomputable def w22 : List V := [.str (us [195,164]), .int .i64 (.ofNat 30), .int .i64 (.ofNat 1)]
theorem wsays22 : ∀ u, saysA u 18 w22 = true := by intro u; kernel_rfl
noncomputable def w23 : List V := [.str (us [10,34,97]), .int .i64 (.ofNat 30), .int .i64 (.ofNat 2)]
theorem wsays23 : ∀ u, saysA u 18 w23 = true := by intro u; kernel_rfl
noncomputable def w24 : List V := [.str (us [45,45,91,91,10,10]), .int .i64 (.ofNat 30), .int .i64 (.ofNat 1)]
theorem wsays24 : ∀ u, saysA u 18 w24 = true := by intro u; kernel_rfl
noncomputable def w25 : List V := [.str (us [120,10,91,91,10,10]), .int .i64 (.ofNat 30), .int .i64 (.ofNat 2)]
theorem wsays25 : ∀ u, saysA u 18 w25 = true := by intro u; kernel_rfl
noncomputable def w26 : List V := [.str (us [39,97,10,98,39]), .int .i64 (.ofNat 30), .int .i64 (.ofNat 1)]
theorem wsays26 : ∀ u, saysA u 18 w26 = true := by intro u; kernel_rfl
noncomputable def w27 : List V := [.str (us [48,120,49,112,43,52]), .int .i64 (.ofNat 31), .int .i64 (.ofNat 1)]
theorem wsays27 : ∀ u, saysA u 18 w27 = true := by intro u; kernel_rfl
theorem asays : ∀ u, saysA u 32 [] = true := by intro u; kernel_rfl
noncomputable def eqW (vs ws : List V) : Bool := match vs, ws with
  | [.str a, .int .i64 m, .int .i64 n], [.str b, .int .i64 p, .int .i64 q] => sEq a b && (iEq m p && iEq n q)
  | _, _ => false
theorem eqW_eq {vs ws : List V} (h : eqW vs ws = true) : vs = ws := by
  unfold eqW at h
  split at h
  · simp only [Bool.and_eq_true] at h
    obtain ⟨h1, h2, h3⟩ := h
    rw [sEq_eq] at h1
    rw [iEq_eq] at h2 h3
    rw [eq_of_beq h1, eq_of_beq h2, eq_of_beq h3]
  · cases h
noncomputable def anyW (vs : List V) : List (List V) → Bool
  | [] => false
  | w :: l => bif eqW vs w then true else anyW vs l
theorem anyW_mem {vs : List V} : ∀ {l : List (List V)}, anyW vs l = true → vs ∈ l
  | [], h => by cases h
  | w :: l, h => by
    rw [anyW] at h
    cases e : eqW vs w with
    | true => rw [eqW_eq e]; exact List.mem_cons_self
    | false => rw [e] at h; exact List.mem_cons_of_mem _ (anyW_mem h)
noncomputable def ws : List (List V) := [w0, w1, w2, w3, w4, w5, w6, w7, w8, w9, w10, w11, w12, w13, w14, w15, w16, w17, w18, w19, w20, w21, w22, w23, w24, w25, w26, w27]
noncomputable def knW (f : FuncId) (vs : List V) : Option V := bif Nat.beq f 9 then (bif anyW vs ws then some (.bool true) else none) else bif Nat.beq f 16 then (match vs with
  | [] => some (.bool true)
  | _ => none) else none
theorem knW_ok (u : TypeId) (f : FuncId) (vs : List V) (v : V) (h : knW f vs = some v) : Known Tryz.prog (Inv u) f vs v := by
  unfold knW at h
  cases hf : Nat.beq f 9 with
  | true =>
    have := Nat.eq_of_beq_eq_true hf; subst this
    simp only [hf, cond_true] at h
    cases hc : anyW vs ws with
    | false => rw [hc] at h; cases h
    | true =>
      rw [hc] at h
      simp only [cond_true, Option.some.injEq] at h
      subst h
      have := anyW_mem hc
      unfold ws at this
      simp only [List.mem_cons, List.not_mem_nil, or_false] at this
      rcases this with rfl | rfl | rfl | rfl | rfl | rfl | rfl | rfl | rfl | rfl | rfl | rfl | rfl | rfl | rfl | rfl | rfl | rfl | rfl | rfl | rfl | rfl | rfl | rfl | rfl | rfl | rfl | rfl
      · exact knownA (wsays0 u) rfl
      · exact knownA (wsays1 u) rfl
      · exact knownA (wsays2 u) rfl
      · exact knownA (wsays3 u) rfl
      · exact knownA (wsays4 u) rfl
      · exact knownA (wsays5 u) rfl
      · exact knownA (wsays6 u) rfl
      · exact knownA (wsays7 u) rfl
      · exact knownA (wsays8 u) rfl
      · exact knownA (wsays9 u) rfl
      · exact knownA (wsays10 u) rfl
      · exact knownA (wsays11 u) rfl
      · exact knownA (wsays12 u) rfl
      · exact knownA (wsays13 u) rfl
      · exact knownA (wsays14 u) rfl
      · exact knownA (wsays15 u) rfl
      · exact knownA (wsays16 u) rfl
      · exact knownA (wsays17 u) rfl
      · exact knownA (wsays18 u) rfl
      · exact knownA (wsays19 u) rfl
      · exact knownA (wsays20 u) rfl
      · exact knownA (wsays21 u) rfl
      · exact knownA (wsays22 u) rfl
      · exact knownA (wsays23 u) rfl
      · exact knownA (wsays24 u) rfl
      · exact knownA (wsays25 u) rfl
      · exact knownA (wsays26 u) rfl
      · exact knownA (wsays27 u) rfl
  | false =>
    rw [hf] at h
    simp only [cond_false] at h
    cases hg : Nat.beq f 16 with
    | false => rw [hg] at h; cases h
    | true =>
      have := Nat.eq_of_beq_eq_true hg; subst this
      simp only [hg, cond_true] at h
      split at h
      · simp only [Option.some.injEq] at h; subst h; exact knownA (asays u) rfl
      · cases h
noncomputable def fnB (f : FuncId) (vs : List V) (h : Hp) : Option (V × Hp) := match knW f vs with
  | some v => some (v, h)
  | none => fnA f vs h
theorem okB (u : TypeId) : @OrcOk Tryz.prog (orc fnB (Inv u)) := @known_ok Tryz.prog (orc fnA (Inv u)) (okA u) knW (fun _ _ h hB => Inv.later h hB) (knW_ok u)
end Go.LN
