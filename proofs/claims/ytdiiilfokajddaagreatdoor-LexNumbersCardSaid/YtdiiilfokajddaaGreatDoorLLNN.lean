/- LexNumbers: the long text is known: its tokens are two, no fault. -/
import Derived.Test.YtdiiilfokajddaaGreatDoorLLNM
import Derived.Test.YtdiiilfokajddaaGreatDoorLLNK
import Derived.KernelRfl
set_option linter.all false
open Go Go.Mid Go.Proofs
set_option maxRecDepth 100000
set_option linter.unusedVariables false
namespace Go.LN
theorem rel_tuple {ρ : Rho} {vs : List V} {x : Value} (h : Rel ρ (.tuple vs) x) : ∃ xs : List Value, x = .tuple ⟨xs⟩ ∧ RelL ρ vs xs := by
  cases h with
  | tuple h1 h2 => exact ⟨_, rfl, h1, h2⟩
theorem rel_agg {ρ : Rho} {vs : List V} {x : Value} (h : Rel ρ (.agg vs) x) : ∃ xs : List Value, x = .agg ⟨xs⟩ ∧ RelL ρ vs xs := by
  cases h with
  | agg h1 h2 => exact ⟨_, rfl, h1, h2⟩
/-- two tokens in a row of which nothing more is told, and no fault. -/
noncomputable def tv (b : Nat) : V := .tuple [.slice b 0 2 0 true, .agg [.int .i64 (.ofNat 0), .int .i64 (.ofNat 0)]]
theorem tv_names : Names tv := by
  intro ρ ρ' b b' x h hb
  obtain ⟨xs, rfl, k⟩ := rel_tuple h
  obtain ⟨y, ys, rfl, h1, k⟩ := RelL.cons_inv k
  obtain ⟨z, zs, rfl, h2, k⟩ := RelL.cons_inv k
  have := RelL.nil_inv k
  subst this
  have h1' : Rel ρ' (.slice b' 0 2 0 true) y := by
    cases h1 with
    | sliceG o n k hl =>
      rw [hb] at hl
      exact .sliceG 0 2 0 hl
  have h2' : Rel ρ' (.agg [.int .i64 (.ofNat 0), .int .i64 (.ofNat 0)]) z := by
    obtain ⟨xs2, rfl, k2⟩ := rel_agg h2
    have := RelL.plain (ρ' := ρ') (vs := [.int .i64 (.ofNat 0), .int .i64 (.ofNat 0)]) rfl k2
    exact .agg this.1 this.2
  have := RelL.cons h1' (RelL.cons h2' (RelL.nil ρ'))
  exact .tuple this.1 this.2
theorem tv_block (b : Nat) (ρ : Rho) (x : Value) (h : Rel ρ (tv b) x) : ∃ lc, ρ b = some lc := by
  obtain ⟨xs, rfl, k⟩ := rel_tuple h
  obtain ⟨y, ys, rfl, h1, k⟩ := RelL.cons_inv k
  cases h1 with
  | sliceG o n k hl => exact ⟨_, hl⟩
theorem two_some {x : VH} (h : two x = true) : ∃ b h' c n g e, x = some (tv b, h') ∧ h'.t.get b = some (.cells c n g e) := by
  unfold two at h
  split at h
  · rename_i b o n c i j h'
    split at h
    · rename_i c1 n1 g1 e1 hg
      simp only [Bool.and_eq_true] at h
      obtain ⟨⟨a1, a2⟩, a3, a4, a5⟩ := h
      have a1 := Nat.eq_of_beq_eq_true a1
      have a2 := Nat.eq_of_beq_eq_true a2
      have a3 := Nat.eq_of_beq_eq_true a3
      have a4 := Nat.eq_of_beq_eq_true a4
      have a5 := Nat.eq_of_beq_eq_true a5
      subst a1; subst a2; subst a3; subst a4; subst a5
      exact ⟨b, h', c1, n1, g1, e1, rfl, hg⟩
    · cases h
  · cases h
theorem known_long (u : TypeId) : KnownD Tryz.prog (Inv u) 10 [.str x1] tv := by
  letI : Orc := orc fnA (Inv u)
  letI : OrcOk Tryz.prog := okA u
  obtain ⟨b, h', c, n, g, e, h1, h2⟩ := two_some (says_long u)
  exact knownD_of (by kernel_rfl) named (h0 := h0 u) (h' := h') (fun w hw => begins rfl (fun _ h => h) hw) rfl tv_names (tv_block b) h2 (@lim_tabS Tryz.prog (orc fnA (Inv u)) labs tabL (tabL_ok u) _ _ _ _ _ h1)
theorem isX_eq {s : List UInt8} (h : isX s = true) : s = x1 := by
  have H := isX_xs h
  unfold x1
  refine List.ext_getElem (by rw [H.len, List.length_replicate]) fun i h1 h2 => ?_
  rw [H.at_ i h1, List.getElem_replicate]
noncomputable def knD (f : FuncId) (vs : List V) (h : Hp) : Option (V × Hp) := bif Nat.beq f 10 then (match vs with
  | [.str s] => bif isX s then some (tv h.n, h.new .dead) else none
  | _ => none) else none
theorem knD_inv {f : FuncId} {vs : List V} {h : Hp} {p : V × Hp} (e : knD f vs h = some p) : f = 10 ∧ vs = [.str x1] ∧ p = (tv h.n, h.new .dead) := by
  unfold knD at e
  cases hf : Nat.beq f 10 with
  | false => rw [hf] at e; cases e
  | true =>
    rw [hf] at e
    simp only [cond_true] at e
    split at e <;> try (cases e; done)
    rename_i s
    cases hx : isX s with
    | false => rw [hx] at e; cases e
    | true =>
      rw [hx] at e
      simp only [cond_true, Option.some.injEq] at e
      exact ⟨Nat.eq_of_beq_eq_true hf, by rw [isX_eq hx], e.symm⟩
noncomputable def fnD (f : FuncId) (vs : List V) (h : Hp) : Option (V × Hp) := match knD f vs h with
  | some p => some p
  | none => fnB f vs h
theorem okD (u : TypeId) : @OrcOk Tryz.prog (orc fnD (Inv u)) :=
  letI : Orc := orc fnB (Inv u)
  letI : OrcOk Tryz.prog := okB u
  @over_ok Tryz.prog (orc fnB (Inv u)) (okB u) knD (fun f vs h v h' e => by
    obtain ⟨_, _, h2⟩ := knD_inv e
    cases h2
    exact Fr.new _ _) (fun f vs h v h' e Z w0 w ρ xs H ha => by
    obtain ⟨rfl, rfl, h2⟩ := knD_inv e
    cases h2
    exact KnownD.sound (known_long u) (Inv.later H.base H.below) H ha)
end Go.LN
