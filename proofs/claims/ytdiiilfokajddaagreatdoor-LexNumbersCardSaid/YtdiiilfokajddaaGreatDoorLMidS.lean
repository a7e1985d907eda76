/- The whole run. -/
import Derived.Test.YtdiiilfokajddaaGreatDoorLMidQ
import Derived.Scope
import Derived.RowKit3
set_option linter.all false
namespace Go.Mid
open Go.RowKit
variable {P : Program} [Orc] [Z : Res] [OrcOk P]

theorem Post.mono {w0 : World} {N : Nat} {ρ ρ1 : Rho} {e : Ex} {t : Tr V} {h : Hp} (he : Ext ρ ρ1) {c : Code} {a : Act} {w : World} (hw : c.wp P (Post P w0 N ρ1 e t h) a w) : c.wp P (Post P w0 N ρ e t h) a w :=
  wp_mono hw fun _ _ _ hp => Post.ext he hp
theorem rounds_mono {Q Q' : Exit → Act → World → Prop} {c : Code} (hq : ∀ x a w, Q x a w → Q' x a w) : ∀ {n : Nat} {a : Act} {w : World}, Code.rounds P c Q n a w → Code.rounds P c Q' n a w
  | 0, _, _, h => h
  | n + 1, a, w, h => by
    simp only [Code.rounds] at h ⊢
    refine wp_mono h fun x a w hx => ?_
    cases x with
    | normal => exact rounds_mono hq hx
    | _ => exact hq _ _ _ hx

theorem okRegion {n : Nat} : ∀ {l : List Oper}, dstOk n l = true → ∀ (i : Nat) o d, l[i]? = some o → o.dst = some d → d < n
  | [], _, i, o, d, h, _ => by simp at h
  | x :: l, h, i, o, d, ho, hd => by
    obtain ⟨h1, h2⟩ := dstOk_cons h
    cases i with
    | zero => simp only [List.getElem?_cons_zero, Option.some.injEq] at ho; subst ho; exact h1 d hd
    | succ i => exact okRegion h2 i o d (by simpa using ho) hd
theorem dstOk_drop {n : Nat} : ∀ {l : List Oper} (k : Nat), dstOk n l = true → dstOk n (l.drop k) = true
  | _, 0, h => h
  | [], _ + 1, _ => rfl
  | _ :: l, k + 1, h => dstOk_drop (l := l) k (dstOk_cons h).2

theorem none_listed (n j : Nat) : (Array.replicate n false).getD j false = false := by
  rw [Array.getD_eq_getD_getElem?]
  rcases Nat.lt_or_ge j n with h | h
  · simp [h]
  · rw [Array.getElem?_eq_none (by simpa using h)]; rfl

theorem draw_sim (hmix : P.follows .mixedOrders = true) (hN : Named P) {n : Nat} (IH : CodeIH P n) (IO : OpsIH P n) {id : Nat} {ops : Array Oper} {t t' : Tr V} {h h' : Hp} {e : Ex} (he : drawCode P (run P n) ops t h = .ok e t' h')
    {w0 : World} {a : Act} {w : World} {ρ : Rho} (ht : TR ρ t a) (H : R P w0 w h ρ) (hdf : a.defers = []) (hok : dstOk a.tmps.size ops.toList = true) : (Code.region id ops true).wp P (Post P w0 a.tmps.size ρ e t' h') a w := by
  unfold drawCode at he
  cases hd : okDraw ops with
  | false => simp [hd] at he
  | true =>
    simp only [hd, cond_true] at he
    unfold okDraw at hd
    rw [Bool.and_eq_true] at hd
    obtain ⟨hd1, hd2⟩ := hd
    cases hs : hdAll P (masks ops) (run P n) ops (ops.toList.take (headLen ops)) 0 (some ⟨0, Tr.nil.set 0 (flo0 P (ops.toList.take (headLen ops)) 0 h).1, .nil, t, [], (flo0 P (ops.toList.take (headLen ops)) 0 h).2⟩) with
    | none => simp [hs, tailCode] at he
    | some s =>
      simp only [hs, tailCode] at he
      cases hg : s.hs.get s.c with
      | none => simp [hg] at he
      | some X =>
        simp only [hg] at he
        obtain ⟨_, hk1, hk2⟩ := tailFrom_spec (masks ops) ops.toList 0 0 (Nat.le_refl _)
        have hkl : headLen ops ≤ ops.size := by simpa [headLen] using hk1
        obtain ⟨F1, F2, F3, F4⟩ := flo0_spec (P := P) (ops.toList.take (headLen ops)) 0 h H.fresh
        have hF : ∀ (j : Nat) o, (ops.toList.take (headLen ops))[j]? = some o → ops[j]? = some o := by
          intro j o hj
          rw [List.getElem?_take] at hj
          split at hj
          · rw [← Array.getElem?_toList]; exact hj
          · cases hj
        obtain ⟨es, hes, G⟩ := hdAll_good (P := P) (run_fr n) (t0 := t) (h0 := (flo0 P (ops.toList.take (headLen ops)) 0 h).1) (es := []) (good_start fun j l hm => by
          obtain ⟨b, ty, z, o, q1, _, q3, q4, q5, _, q7, q8, q9⟩ := F4 j l hm
          exact ⟨b, ty, z, o, q1, hF j o q3, q4, q5, q7, q8, q9⟩) (fun j hj => by
          simp only [List.length_take, Array.length_toList] at hj
          rw [List.getElem?_take, if_pos (by omega)]; simp) hs
        have hes' : es.length = headLen ops := by rw [hes]; simp; omega
        have hback : ∀ (i : Nat) o, ops[i]? = some o → ∀ e ∈ o.after.toList, Region.binds .any e = true → e.on < i := by
          intro i o ho e he hb
          have := edgesBack_spec ops.toList 0 hd1 i o (by rw [Array.getElem?_toList]; exact ho) e he hb
          omega
        have hp : Pairs ops es.length := by
          intro i j x y hij hj hx hy
          have := pairsOk_spec _ 0 hd2 i j x y hij (by rw [List.getElem?_take, if_pos (by omega), Array.getElem?_toList]; exact hx) (by rw [List.getElem?_take, if_pos (by omega), Array.getElem?_toList]; exact hy)
          simpa using this
        refine wp_region_any hmix ?_
        refine wpAny_head hN IH (ρ0 := ρ) (w0 := w0) (N := a.tmps.size) G hp (fun i h1 h2 => hk2 i (by omega) (by simpa using h2) (by rw [hes'] at h1; exact h1)) hback (by omega)
          (fun i o d ho hdd => okRegion hok i o d (by rw [Array.getElem?_toList]; exact ho) hdd) ?_ ops.size _ a _ (by simp) ?_ (fun j hj => ?_) ?_
        · intro ρ1 X' a1 w1 h1 h2 h3 h4 h5 h6
          rw [hg] at h1; simp only [Option.some.injEq] at h1; subst h1
          have := IO ops _ _ _ _ _ _ he Z w0 a1 w1 ρ1 h2 h3 h5 (by rw [h6]; exact dstOk_drop _ hok) (headLen ops) (fun j hj => by rw [List.getElem?_drop, Array.getElem?_toList])
          rw [h6] at this
          rw [hes']
          have hl : (ops.toList.drop (headLen ops)).length = ops.size - headLen ops := by simp
          rw [hl] at this
          exact wpOps_mono' this fun x a w hp => Post.ext h4 hp
        · have hfl : ∀ (j : Nat) e b, es[j]? = some e → e.fl = true → e.v = .ptr b 0 → h.n ≤ b ∧ b < (flo0 P (ops.toList.take (headLen ops)) 0 h).1.n := by
            intro j e b hj hf hv
            obtain ⟨_, _, _, _, ty, z, b', _, _, hv', hm⟩ := G.flo j e hj hf
            obtain ⟨b2, ty2, z2, _, q1, _, _, _, _, q6, q7, _⟩ := F4 j _ (hdAll_agg hs hm)
            rw [hv] at hv'
            simp only [V.ptr.injEq, and_true] at hv'
            unfold fent at q1
            simp only [V.agg.injEq, List.cons.injEq, V.ptr.injEq] at q1
            obtain ⟨⟨q1, _⟩, _⟩ := q1
            omega
          refine ⟨0, 0, _, ρ, ⟨Nat.zero_le _, Nat.zero_le _, G.hs0, ?_, Ext.refl _, hdf, rfl, ?_, ?_, ?_, ?_, ?_, ?_, ?_, ?_⟩⟩
          · simp only [List.take_zero, stores]
            refine R.mono ?_ (H.drew.room F1 F2 F3)
            rintro b (hb | ⟨j, e, hj, hf, _, hv⟩)
            · exact .inl hb
            · exact .inr (hfl j e b hj hf hv)
          · intro j e _ _; rw [none_listed]; simp
          · intro j e _ _; rw [none_listed]; simp
          · intro m X' hm hX b hb
            have : m = 0 := by omega
            subst this
            rw [G.hs0] at hX; simp only [Option.some.injEq] at hX; subst hX
            exact F3 b hb
          · intro p hp; simp at hp
          · intro j e d _ hl; rw [none_listed] at hl; cases hl
          · intro u v _ hv; exact ht u v hv
          · intro i o _ hl; rw [none_listed] at hl; cases hl
          · intro j e b hj hf hv hz
            have := (H.rs b hz).2
            have := (hfl j e b hj hf hv).1
            omega
        · rw [none_listed] at hj; cases hj
        · have := List.length_filter_le (fun j => !(Array.replicate ops.size false).getD j false) (List.range ops.size)
          simpa using this

theorem code_step (hmix : P.follows .mixedOrders = true) (hN : Named P) {n : Nat} (IH : CodeIH P n) (IO : OpsIH P n) : CodeIH P (n + 1) := by
  intro c t h e t' h' he Z w0 a w ρ ht H hdf hok
  have he' : stepCode P (run P n) c t h = .ok e t' h' := he
  have plain : (∀ c', c ≠ .loop c') → c.wp P (Post P w0 a.tmps.size ρ e t' h') a w →
      c.wp P (Post P w0 a.tmps.size ρ e t' h') a w ∧ ∀ c', c = .loop c' → Code.rounds P c' (Post P w0 a.tmps.size ρ e t' h') (n + 1) a w := fun h1 h2 => ⟨h2, fun c' hc => (h1 c' hc).elim⟩
  cases c <;> simp only [stepCode, reduceCtorEq] at he'
  case skip =>
    simp only [Out.ok.injEq] at he'
    obtain ⟨rfl, rfl, rfl⟩ := he'
    exact plain (fun _ h => by cases h) (wp_skip ⟨rfl, ρ, Ext.refl _, ht, H, hdf, rfl⟩)
  case region id ops d =>
    refine plain (fun _ h => by cases h) ?_
    simp only [okCode] at hok
    cases d with
    | false =>
      simp only [regCode] at he'
      refine wp_region ?_
      have := IO ops _ _ _ _ _ _ he' Z w0 a w ρ ht H hdf hok 0 (fun j hj => by simp)
      rw [List.range_eq_range']
      simpa using this
    | true =>
      simp only [regCode] at he'
      exact draw_sim hmix hN IH IO he' ht H hdf hok
  case seq x y =>
    refine plain (fun _ h => by cases h) (wp_seq ?_)
    simp only [okCode, Bool.and_eq_true] at hok
    cases hx : run P n (.code x) t h with
    | no => simp [hx, thenCode] at he'
    | ok e1 t1 h1 =>
      rw [hx] at he'
      have W1 := (IH x _ _ _ _ _ hx Z w0 a w ρ ht H hdf hok.1).1
      refine wp_mono W1 fun ex a1 w1 hp => ?_
      obtain ⟨hex, ρ1, S⟩ := hp
      cases e1 with
      | normal =>
        subst hex
        simp only [thenCode] at he'
        have w2 := (IH y _ _ _ _ _ he' Z w0 a1 w1 ρ1 S.tr S.rr S.df (by rw [S.sz]; exact hok.2)).1
        rw [S.sz] at w2
        exact Post.mono S.ext w2
      | exit id =>
        simp only [thenCode, Out.ok.injEq] at he'
        obtain ⟨rfl, rfl, rfl⟩ := he'
        subst hex
        exact ⟨rfl, ρ1, S⟩
      | ret =>
        simp only [thenCode, Out.ok.injEq] at he'
        obtain ⟨rfl, rfl, rfl⟩ := he'
        subst hex
        exact ⟨rfl, ρ1, S⟩
  case cond c x y =>
    refine plain (fun _ h => by cases h) ?_
    simp only [okCode, Bool.and_eq_true] at hok
    cases hc : evalO t c with
    | none => simp [hc, ifCode] at he'
    | some v =>
      have hr := evalO_tr H.glob ht hc
      cases v with
      | bool b =>
        cases hv : a.eval c <;> rw [hv] at hr <;> cases hr
        cases b with
        | true => simp only [hc, ifCode] at he'; exact wp_cond_true hv (IH x _ _ _ _ _ he' Z w0 a w ρ ht H hdf hok.1).1
        | false => simp only [hc, ifCode] at he'; exact wp_cond_false hv (IH y _ _ _ _ _ he' Z w0 a w ρ ht H hdf hok.2).1
      | _ => simp [hc, ifCode] at he'
  case block id x =>
    refine plain (fun _ h => by cases h) (wp_block ?_)
    simp only [okCode] at hok
    cases hx : run P n (.code x) t h with
    | no => simp [hx, inBlk] at he'
    | ok e1 t1 h1 =>
      rw [hx] at he'
      have W1 := (IH x _ _ _ _ _ hx Z w0 a w ρ ht H hdf hok).1
      refine wp_mono W1 fun ex a1 w1 hp => ?_
      obtain ⟨hex, ρ1, S⟩ := hp
      cases e1 with
      | normal =>
        simp only [inBlk, Out.ok.injEq] at he'
        obtain ⟨rfl, rfl, rfl⟩ := he'
        subst hex
        exact ⟨rfl, ρ1, S⟩
      | exit j =>
        subst hex
        simp only [inBlk] at he'
        simp only [cx, Exit.inBlock]
        cases hj : Nat.beq j id with
        | true =>
          have := Nat.eq_of_beq_eq_true hj; subst this
          simp only [hj, cond_true, Out.ok.injEq] at he'
          obtain ⟨rfl, rfl, rfl⟩ := he'
          rw [if_pos rfl]
          exact ⟨rfl, ρ1, S⟩
        | false =>
          have hne : ¬ j = id := fun h => by subst h; simp at hj
          simp only [hj, cond_false, Out.ok.injEq] at he'
          obtain ⟨rfl, rfl, rfl⟩ := he'
          rw [if_neg hne]
          exact ⟨rfl, ρ1, S⟩
      | ret =>
        simp only [inBlk, Out.ok.injEq] at he'
        obtain ⟨rfl, rfl, rfl⟩ := he'
        subst hex
        exact ⟨rfl, ρ1, S⟩
  case loop x =>
    have key : Code.rounds P x (Post P w0 a.tmps.size ρ e t' h') (n + 1) a w := by
      simp only [okCode] at hok
      simp only [Code.rounds]
      cases hx : run P n (.code x) t h with
      | no => simp [hx, thenCode] at he'
      | ok e1 t1 h1 =>
        rw [hx] at he'
        have W1 := (IH x _ _ _ _ _ hx Z w0 a w ρ ht H hdf hok).1
        refine wp_mono W1 fun ex a1 w1 hp => ?_
        obtain ⟨hex, ρ1, S⟩ := hp
        cases e1 with
        | normal =>
          subst hex
          simp only [thenCode] at he'
          have w2 := (IH (.loop x) _ _ _ _ _ he' Z w0 a1 w1 ρ1 S.tr S.rr S.df (by rw [S.sz]; exact hok)).2 x rfl
          rw [S.sz] at w2
          exact rounds_mono (fun x a w hp => Post.ext S.ext hp) w2
        | exit id =>
          simp only [thenCode, Out.ok.injEq] at he'
          obtain ⟨rfl, rfl, rfl⟩ := he'
          subst hex
          exact ⟨rfl, ρ1, S⟩
        | ret =>
          simp only [thenCode, Out.ok.injEq] at he'
          obtain ⟨rfl, rfl, rfl⟩ := he'
          subst hex
          exact ⟨rfl, ρ1, S⟩
    exact ⟨wp_loop_rounds (n + 1) key, fun c' hc => by cases hc; exact key⟩
  case scope x =>
    simp only [okCode] at hok
    refine plain (fun _ h => by cases h) (wp_scope_straight ?_)
    refine wp_mono (IH x _ _ _ _ _ he' Z w0 a w ρ ht H hdf hok).1 fun ex a1 w1 hp => ?_
    obtain ⟨hex, hp⟩ := hp
    cases e <;> subst hex <;> exact ⟨rfl, hp⟩
  case label l =>
    simp only [Out.ok.injEq] at he'
    obtain ⟨rfl, rfl, rfl⟩ := he'
    exact plain (fun _ h => by cases h) (wp_label ⟨rfl, ρ, Ext.refl _, ht, H, hdf, rfl⟩)
  case exit id =>
    simp only [Out.ok.injEq] at he'
    obtain ⟨rfl, rfl, rfl⟩ := he'
    exact plain (fun _ h => by cases h) (wp_exit ⟨rfl, ρ, Ext.refl _, ht, H, hdf, rfl⟩)
  case ret =>
    simp only [Out.ok.injEq] at he'
    obtain ⟨rfl, rfl, rfl⟩ := he'
    exact plain (fun _ h => by cases h) (wp_ret ⟨rfl, ρ, Ext.refl _, ht, H, hdf, rfl⟩)

theorem run_sim (hmix : P.follows .mixedOrders = true) (hN : Named P) : ∀ n, CodeIH P n ∧ OpsIH P n
  | 0 => ⟨fun c t h e t' h' he => (by cases he), fun all l t h e t' h' he => (by cases he)⟩
  | n + 1 => by
    obtain ⟨h1, h2⟩ := run_sim hmix hN n
    exact ⟨code_step hmix hN h1 h2, ops_step hN h1 h2⟩

/-- at a call's beginning: blocks that are read alone. -/
theorem R.start {w0 : World} {h : Hp} {ρ : Rho} (hb : ∀ b l, ρ b = some l → b < h.n ∧ h.still b ∧ (l.base ≠ 0 ∨ l.blk < w0.heap.size)) (live : Live P ρ w0 h)
    (inj : ∀ b b' l l', ρ b = some l → ρ b' = some l' → b ≠ b' → h.alive b → h.alive b' → l.blk ≠ l'.blk) (fresh : ∀ b, h.n ≤ b → h.t.get b = none) (glob : Glob ρ) (base : Orc.inv w0) : @R _ noRes P w0 w0 h ρ :=
  @R.mk _ noRes P _ _ _ _ (Below.refl _ _) (fun b l h => ⟨(hb b l h).1, .inr (hb b l h).2.1, (hb b l h).2.2⟩) live inj fresh glob base (fun _ h => h.elim)
/-- A call that the small machine answers: the model's call answers so, and leaves what was there as it was. -/
theorem calls_of (hmix : P.follows .mixedOrders = true) (hN : Named P) {n : Nat} {f : FuncId} {as : List V} {xs : List Value} {h h' : Hp} {ρ : Rho} {w : World} {v : V} (H : R P w w h ρ) (ha : RelL ρ as xs)
    (hb : (P.funcs[f]?.bind (·.body)).isSome = true) (he : enterV P (run P n) h (some (f, as)) = some (v, h')) : Calls P f ⟨xs⟩ w fun e w' => ∃ x ρ', e = .returned x ∧ Rel ρ' v x ∧ Below w.heap.size w w' := by
  obtain ⟨_, hcalls⟩ := (call_sim (run_sim hmix hN n).1 H ha he).text hN hb
  refine hcalls.mono ?_
  rintro e w' ⟨x, ρ', rfl, h1, _, h3⟩
  exact ⟨x, ρ', rfl, h1, h3.below⟩

/-- nothing is taken from outside. -/
@[reducible] def noOrc : Orc := ⟨0, fun _ _ _ => none, fun _ => 0, fun _ _ _ => none, fun _ => True⟩
theorem noOrc_ok (P : Program) : @OrcOk P noOrc :=
  letI := noOrc
  { pure := fun _ _ _ _ _ => rfl, reads := fun _ _ _ _ _ _ h => (by cases h), make := fun _ _ _ _ _ h => (by cases h), fr := fun _ _ _ _ _ h => (by cases h), sound := fun _ _ _ _ _ h => (by cases h) }

def namedB (P : Program) : Bool := P.funcs.toList.all fun fn => !(fn.name == "runtime.NumGoroutine")
theorem named_of (h : namedB P = true) : Named P := by
  intro f fn hf
  unfold namedB at h
  rw [List.all_eq_true] at h
  have hm : fn ∈ P.funcs.toList := by
    have : P.funcs.toList[f]? = some fn := by rw [Array.getElem?_toList]; exact hf
    exact List.mem_of_getElem? this
  have := h fn hm
  cases hb : (fn.name == "runtime.NumGoroutine") with
  | false => rfl
  | true => rw [hb] at this; cases this
end Go.Mid
