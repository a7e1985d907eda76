/- The whole run. -/
import Derived.Test.YthbcbfgpfpogkaaGreatFMidMM
import Derived.Scope
import Derived.RowKit3
set_option linter.all false
set_option warn.classDefReducibility false
namespace Go.Mid
open Go.RowKit
variable {P : Program} [Orc] [Z : Res] [OrcOk P]

theorem Post.mono {r : Option Nat} {Z0 Z Z1 : Res} {w0 : World} {N : Nat} {ρ ρ1 : Rho} {e : Ex} {t : Tr V} {h : Hp} (he : Ext ρ ρ1) (hz : Res.le Z Z1) {c : Code} {a : Act} {w : World} (hw : c.wpIn (Fw r) 0 P (Post P Z0 Z1 w0 N ρ1 e t h) a w) : c.wpIn (Fw r) 0 P (Post P Z0 Z w0 N ρ e t h) a w :=
  wpIn_mono hw fun _ _ _ hp => Post.ext he hz hp
theorem okRegion {n : Nat} : ∀ {l : List Oper}, dstOk n l = true → ∀ (i : Nat) o d, l[i]? = some o → o.dst = some d → d < n
  | [], _, i, o, d, h, _ => by simp at h
  | x :: l, h, i, o, d, ho, hd => by
    obtain ⟨h1, h2⟩ := dstOk_cons h
    cases i with
    | zero => simp only [List.getElem?_cons_zero, Option.some.injEq] at ho; subst ho; exact h1 d hd
    | succ i => exact okRegion h2 i o d (by simpa using ho) hd
theorem dstOk_drop {n : Nat} : ∀ {l : List Oper} (k : Nat), dstOk n l = true → dstOk n (l.drop k) = true
  | _, 0, h => h
  | [], _ + 1, _ => rfl
  | _ :: l, k + 1, h => dstOk_drop (l := l) k (dstOk_cons h).2

theorem none_listed (n j : Nat) : (Array.replicate n false).getD j false = false := by
  rw [Array.getD_eq_getD_getElem?]
  rcases Nat.lt_or_ge j n with h | h
  · simp [h]
  · rw [Array.getElem?_eq_none (by simpa using h)]; rfl

theorem draw_sim (hmix : P.follows .mixedOrders = true) (hN : Named P) {n : Nat} (IH : CodeIH P n) (IO : OpsIH P n) {id : Nat} {ops : Array Oper} {t t' : Tr V} {h h' : Hp} {e : Ex} (he : drawCode P (run P n) ops t h = .ok e t' h')
    {r : Option Nat} {Z0 : Res} {w0 : World} {a : Act} {w : World} {ρ : Rho} (ht : TR ρ t a) (H : @R _ Z P w0 w h ρ) (hdf : Mk Z0 Z a.defers) (hok : dstOk a.tmps.size ops.toList = true) : (Code.region id ops true).wpIn (Fw r) 0 P (Post P Z0 Z w0 a.tmps.size ρ e t' h') a w := by
  letI ZI : Res := Z
  unfold drawCode at he
  cases hd : okDraw ops with
  | false => simp [hd] at he
  | true =>
    simp only [hd, cond_true] at he
    unfold okDraw at hd
    rw [Bool.and_eq_true] at hd
    obtain ⟨hd1, hd2⟩ := hd
    cases hfl0 : flo0 P (masks ops) (ops.toList.take (headLen ops)) t (ops.toList.take (headLen ops)) 0 h with
    | none => simp [hfl0, drawHd] at he
    | some q =>
    obtain ⟨h1, n1⟩ := q
    simp only [hfl0, drawHd] at he
    cases hs : hdAll P (masks ops) (run P n) ops (ops.toList.take (headLen ops)) 0 (some ⟨0, Tr.nil.set 0 h1, .nil, t, [], n1⟩) with
    | none => simp [hs, tailCode] at he
    | some s =>
      simp only [hs, tailCode] at he
      cases hg : s.hs.get s.c with
      | none => simp [hg] at he
      | some X =>
        simp only [hg] at he
        obtain ⟨_, hk1, hk2⟩ := tailFrom_spec (masks ops) ops.toList 0 0 (Nat.le_refl _)
        have hkl : headLen ops ≤ ops.size := by simpa [headLen] using hk1
        obtain ⟨F1, F2, F3, F4⟩ := flo0_spec (P := P) (ops.toList.take (headLen ops)) 0 h hfl0 H.fresh
        have hF : ∀ (j : Nat) o, (ops.toList.take (headLen ops))[j]? = some o → ops[j]? = some o := by
          intro j o hj
          rw [List.getElem?_take] at hj
          split at hj
          · rw [← Array.getElem?_toList]; exact hj
          · cases hj
        obtain ⟨es, hes, G⟩ := hdAll_good (P := P) (run_fr n) (t0 := t) (h0 := h1) (es := []) (good_start fun j l hm => by
          obtain ⟨p, b, ty, cs, o, q1, q1b, _, q3, q4, q5, _, q7, q8, q9⟩ := F4 j l hm
          exact ⟨p, b, ty, cs, o, q1, q1b, hF j o q3, q4, q5, q7, q8, q9⟩) (fun j hj => by
          simp only [List.length_take, Array.length_toList] at hj
          rw [List.getElem?_take, if_pos (by omega)]; simp) hs
        have hes' : es.length = headLen ops := by rw [hes]; simp; omega
        have hback : ∀ (i : Nat) o, ops[i]? = some o → ∀ e ∈ o.after.toList, Region.binds .any e = true → e.on < i := by
          intro i o ho e he hb
          have := edgesBack_spec ops.toList 0 hd1 i o (by rw [Array.getElem?_toList]; exact ho) e he hb
          omega
        have hp : Pairs ops es.length := by
          intro i j x y hij hj hx hy
          have := pairsOk_spec _ 0 hd2 i j x y hij (by rw [List.getElem?_take, if_pos (by omega), Array.getElem?_toList]; exact hx) (by rw [List.getElem?_take, if_pos (by omega), Array.getElem?_toList]; exact hy)
          simpa using this
        refine wpIn_region_any hmix ?_
        refine wpAny_head (Z := Z) hN IH (ρ0 := ρ) (w0 := w0) (N := a.tmps.size) (ds := a.defers) G hp (fun i h1 h2 => hk2 i (by omega) (by simpa using h2) (by rw [hes'] at h1; exact h1)) hback (by omega)
          (fun i o d ho hdd => okRegion hok i o d (by rw [Array.getElem?_toList]; exact ho) hdd) ?_ ops.size _ a _ (by simp) ?_ (fun j hj => ?_) ?_
        · intro ρ1 X' a1 w1 h1 h2 h3 h4 h5 h6
          rw [hg] at h1; simp only [Option.some.injEq] at h1; subst h1
          have := IO ops _ _ _ _ _ _ he r Z0 Z w0 a1 w1 ρ1 h2 h3 (by rw [h5]; exact hdf) (by rw [h6]; exact dstOk_drop _ hok) (headLen ops) (fun j hj => by rw [List.getElem?_drop, Array.getElem?_toList])
          rw [h6] at this
          rw [hes']
          have hl : (ops.toList.drop (headLen ops)).length = ops.size - headLen ops := by simp
          rw [hl] at this
          exact wpOps_mono' this fun x a w hp => Post.ext h4 (Res.le.refl Z) hp
        · have hfl : ∀ (j : Nat) e b, es[j]? = some e → e.fl = true → blkV e.v = some b → h.n ≤ b ∧ b < h1.n := by
            intro j e b hj hf hv
            obtain ⟨_, _, _, _, ty, cs, b', _, hv', hm⟩ := G.flo j e hj hf
            obtain ⟨p2, b2, ty2, cs2, _, q1, q1b, _, _, _, _, q6, q7, _⟩ := F4 j _ (hdAll_agg hs hm)
            obtain ⟨rfl, _, _⟩ := fent_inj q1
            rw [hv] at q1b
            simp only [Option.some.injEq] at q1b
            omega
          refine ⟨0, 0, _, ρ, ⟨Nat.zero_le _, Nat.zero_le _, G.hs0, ?_, Ext.refl _, rfl, rfl, ?_, ?_, ?_, ?_, ?_, ?_, ?_, ?_⟩⟩
          · simp only [List.take_zero, stores]
            have HR := H.drew.room F1 F2 F3
            refine R.mono ?_ ?_ HR <;> first | exact (fun _ _ h => h) | skip
            rintro b (hb | ⟨j, e, hj, hf, _, hv⟩)
            · exact .inl hb
            · exact .inr (hfl j e b hj hf hv)
          · intro j e _ _; rw [none_listed]; simp
          · intro j e _ _; rw [none_listed]; simp
          · intro m X' hm hX b hb
            have : m = 0 := by omega
            subst this
            rw [G.hs0] at hX; simp only [Option.some.injEq] at hX; subst hX
            exact F3 b hb
          · intro p hp; simp at hp
          · intro j e d _ hl; rw [none_listed] at hl; cases hl
          · intro u v _ hv; exact ht u v hv
          · intro i o _ hl; rw [none_listed] at hl; cases hl
          · intro j e b hj hf hv hz
            have := (H.rs b hz).2
            have := (hfl j e b hj hf hv).1
            omega
        · rw [none_listed] at hj; cases hj
        · have := List.length_filter_le (fun j => !(Array.replicate ops.size false).getD j false) (List.range ops.size)
          simpa using this

theorem stepR_scope {b : Frame} {a : Act} {k : List Item} {cs : List Frame} {w : World} {c : Code} : Go.step P (lone (b.atR a (.code (.scope c) :: k)) cs w) = .next (lone (b.atR a (.code c :: .inScope c :: k)) cs w) :=
  step_lone_go (by simp [stepG, stepG.exec, Frame.atR])
theorem stepR_inScope {b : Frame} {a : Act} {k : List Item} {cs : List Frame} {w : World} {c : Code} : Go.step P (lone (b.atR a (.inScope c :: k)) cs w) = .next (lone (b.atR a k) cs w) :=
  step_lone_go (by simp [stepG, stepG.exec, Frame.atR])
theorem wpIn_scope_straight {F : Fence} {n : Nat} {Q : Exit → Act → World → Prop} {a : Act} {w : World} {c : Code} (h : c.wpIn F n P (Exit.noGoto Q) a w) : (Code.scope c).wpIn F n P Q a w := by
  intro b k cs hro hb hr
  have h0 : (lone (b.atR a (.code (.scope c) :: k)) cs w).fenced P F := fenced_calm hb hr rfl
  obtain ⟨e, a₁, w₁, hq, harr⟩ := h b (.inScope c :: k) cs hro hb hr
  have hx : ∀ id, exitTo id (.inScope c :: k) = exitTo id k := fun id => by simp [exitTo]
  cases e with
  | normal => exact ⟨.normal, a₁, w₁, hq, .head h0 stepR_scope (StepsIn.trans harr (.one (fenced_calm hb hr rfl) stepR_inScope))⟩
  | exit id => exact ⟨.exit id, a₁, w₁, hq, fun k' hk => .head h0 stepR_scope (harr.1 k' (by rw [hx]; exact hk)),
      fun hr' hk => let ⟨k₁, h1, h2⟩ := harr.2 hr' (by rw [hx]; exact hk); ⟨k₁, h1, .head h0 stepR_scope h2⟩⟩
  | goto l => exact hq.elim
  | ret => exact ⟨_, a₁, w₁, hq, .of_steps (.one h0 stepR_scope) harr⟩
  | panic ch => exact ⟨_, a₁, w₁, hq, .of_steps (.one h0 stepR_scope) harr⟩
  | outgrown => exact ⟨_, a₁, w₁, hq, .of_steps (.one h0 stepR_scope) harr⟩
theorem rng_seq {r : Option Nat} {x y : Code} (h : RngOk r (.seq x y)) : RngOk r x ∧ RngOk r y := by
  rcases h with rfl | h
  · exact ⟨.inl rfl, .inl rfl⟩
  · simp only [noRng, Bool.and_eq_true] at h
    exact ⟨.inr h.1, .inr h.2⟩
theorem rng_cond {r : Option Nat} {c : Operand} {x y : Code} (h : RngOk r (.cond c x y)) : RngOk r x ∧ RngOk r y := by
  rcases h with rfl | h
  · exact ⟨.inl rfl, .inl rfl⟩
  · simp only [noRng, Bool.and_eq_true] at h
    exact ⟨.inr h.1, .inr h.2⟩
theorem code_step (hmix : P.follows .mixedOrders = true) (hN : Named P) {n : Nat} (IH : CodeIH P n) (IO : OpsIH P n) : CodeIH P (n + 1) := by
  intro c t h e t' h' he r Z0 Z w0 a w ρ ht H hdf hok hrg
  have he' : stepCode P (run P n) c t h = .ok e t' h' := he
  have plain : (∀ c', c ≠ .loop c') → c.wpIn (Fw r) 0 P (Post P Z0 Z w0 a.tmps.size ρ e t' h') a w →
      c.wpIn (Fw r) 0 P (Post P Z0 Z w0 a.tmps.size ρ e t' h') a w ∧ ∀ c', c = .loop c' → Code.roundsIn (Fw r) 0 P c' (Post P Z0 Z w0 a.tmps.size ρ e t' h') (n + 1) a w := fun h1 h2 => ⟨h2, fun c' hc => (h1 c' hc).elim⟩
  cases c <;> simp only [stepCode, reduceCtorEq] at he'
  case skip =>
    simp only [Out.ok.injEq] at he'
    obtain ⟨rfl, rfl, rfl⟩ := he'
    exact plain (fun _ h => by cases h) (wpIn_skip ⟨rfl, ρ, Z, Ext.refl _, ht, H, Res.le.refl Z, hdf, rfl⟩)
  case region id ops d =>
    refine plain (fun _ h => by cases h) ?_
    simp only [okCode] at hok
    cases d with
    | false =>
      simp only [regCode] at he'
      refine wpIn_region ?_
      have := IO ops _ _ _ _ _ _ he' r Z0 Z w0 a w ρ ht H hdf hok 0 (fun j hj => by simp)
      rw [List.range_eq_range']
      simpa using this
    | true =>
      simp only [regCode] at he'
      exact draw_sim (Z := Z) hmix hN IH IO he' ht H hdf hok
  case seq x y =>
    refine plain (fun _ h => by cases h) (wpIn_seq ?_)
    simp only [okCode, Bool.and_eq_true] at hok
    have hrg := rng_seq hrg
    cases hx : run P n (.code x) t h with
    | no => simp [hx, thenCode] at he'
    | ok e1 t1 h1 =>
      rw [hx] at he'
      have W1 := (IH x _ _ _ _ _ hx r Z0 Z w0 a w ρ ht H hdf hok.1 hrg.1).1
      refine wpIn_mono W1 fun ex a1 w1 hp => ?_
      obtain ⟨hex, ρ1, Z1, S⟩ := hp
      cases e1 with
      | normal =>
        subst hex
        simp only [thenCode] at he'
        have w2 := (IH y _ _ _ _ _ he' r Z0 Z1 w0 a1 w1 ρ1 S.tr S.rr S.df (by rw [S.sz]; exact hok.2) hrg.2).1
        rw [S.sz] at w2
        exact Post.mono S.ext S.le w2
      | exit id =>
        simp only [thenCode, Out.ok.injEq] at he'
        obtain ⟨rfl, rfl, rfl⟩ := he'
        subst hex
        exact ⟨rfl, ρ1, Z1, S⟩
      | ret =>
        simp only [thenCode, Out.ok.injEq] at he'
        obtain ⟨rfl, rfl, rfl⟩ := he'
        subst hex
        exact ⟨rfl, ρ1, Z1, S⟩
  case cond c x y =>
    refine plain (fun _ h => by cases h) ?_
    simp only [okCode, Bool.and_eq_true] at hok
    have hrg := rng_cond hrg
    cases hc : evalO t c with
    | none => simp [hc, ifCode] at he'
    | some v =>
      have hr := evalO_tr H.glob ht hc
      cases v with
      | bool b =>
        cases hv : a.eval c <;> rw [hv] at hr <;> cases hr
        cases b with
        | true => simp only [hc, ifCode] at he'; exact wpIn_cond_true hv (IH x _ _ _ _ _ he' r Z0 Z w0 a w ρ ht H hdf hok.1 hrg.1).1
        | false => simp only [hc, ifCode] at he'; exact wpIn_cond_false hv (IH y _ _ _ _ _ he' r Z0 Z w0 a w ρ ht H hdf hok.2 hrg.2).1
      | _ => simp [hc, ifCode] at he'
  case block id x =>
    refine plain (fun _ h => by cases h) (wpIn_block ?_)
    simp only [okCode] at hok
    cases hx : run P n (.code x) t h with
    | no => simp [hx, inBlk] at he'
    | ok e1 t1 h1 =>
      rw [hx] at he'
      have W1 := (IH x _ _ _ _ _ hx r Z0 Z w0 a w ρ ht H hdf hok (hrg)).1
      refine wpIn_mono W1 fun ex a1 w1 hp => ?_
      obtain ⟨hex, ρ1, Z1, S⟩ := hp
      cases e1 with
      | normal =>
        simp only [inBlk, Out.ok.injEq] at he'
        obtain ⟨rfl, rfl, rfl⟩ := he'
        subst hex
        exact ⟨rfl, ρ1, Z1, S⟩
      | exit j =>
        subst hex
        simp only [inBlk] at he'
        simp only [cx, Exit.inBlock]
        cases hj : Nat.beq j id with
        | true =>
          have := Nat.eq_of_beq_eq_true hj; subst this
          simp only [hj, cond_true, Out.ok.injEq] at he'
          obtain ⟨rfl, rfl, rfl⟩ := he'
          rw [if_pos rfl]
          exact ⟨rfl, ρ1, Z1, S⟩
        | false =>
          have hne : ¬ j = id := fun h => by subst h; simp at hj
          simp only [hj, cond_false, Out.ok.injEq] at he'
          obtain ⟨rfl, rfl, rfl⟩ := he'
          rw [if_neg hne]
          exact ⟨rfl, ρ1, Z1, S⟩
      | ret =>
        simp only [inBlk, Out.ok.injEq] at he'
        obtain ⟨rfl, rfl, rfl⟩ := he'
        subst hex
        exact ⟨rfl, ρ1, Z1, S⟩
  case loop x =>
    have key : Code.roundsIn (Fw r) 0 P x (Post P Z0 Z w0 a.tmps.size ρ e t' h') (n + 1) a w := by
      simp only [okCode] at hok
      rw [roundsIn_succ]
      cases hx : run P n (.code x) t h with
      | no => simp [hx, thenCode] at he'
      | ok e1 t1 h1 =>
        rw [hx] at he'
        have W1 := (IH x _ _ _ _ _ hx r Z0 Z w0 a w ρ ht H hdf hok (hrg)).1
        refine wpIn_mono W1 fun ex a1 w1 hp => ?_
        obtain ⟨hex, ρ1, Z1, S⟩ := hp
        cases e1 with
        | normal =>
          subst hex
          simp only [thenCode] at he'
          have w2 := (IH (.loop x) _ _ _ _ _ he' r Z0 Z1 w0 a1 w1 ρ1 S.tr S.rr S.df (by rw [S.sz]; exact hok) hrg).2 x rfl
          rw [S.sz] at w2
          exact rounds_mono (fun x a w hp => Post.ext S.ext S.le hp) w2
        | exit id =>
          simp only [thenCode, Out.ok.injEq] at he'
          obtain ⟨rfl, rfl, rfl⟩ := he'
          subst hex
          exact ⟨rfl, ρ1, Z1, S⟩
        | ret =>
          simp only [thenCode, Out.ok.injEq] at he'
          obtain ⟨rfl, rfl, rfl⟩ := he'
          subst hex
          exact ⟨rfl, ρ1, Z1, S⟩
    exact ⟨wpIn_loop_rounds (n + 1) key, fun c' hc => by cases hc; exact key⟩
  case scope x =>
    simp only [okCode] at hok
    refine plain (fun _ h => by cases h) (wpIn_scope_straight ?_)
    refine wpIn_mono (IH x _ _ _ _ _ he' r Z0 Z w0 a w ρ ht H hdf hok (hrg)).1 fun ex a1 w1 hp => ?_
    obtain ⟨hex, hp⟩ := hp
    cases e <;> subst hex <;> exact ⟨rfl, hp⟩
  case rangeFunc f ps x y =>
    rcases hrg with rfl | hrg
    · exact plain (fun _ h => by cases h) (range_sim (Z := Z) IH hN he' ht H hdf hok)
    · cases hrg
  case label l =>
    simp only [Out.ok.injEq] at he'
    obtain ⟨rfl, rfl, rfl⟩ := he'
    exact plain (fun _ h => by cases h) (wpIn_label ⟨rfl, ρ, Z, Ext.refl _, ht, H, Res.le.refl Z, hdf, rfl⟩)
  case exit id =>
    simp only [Out.ok.injEq] at he'
    obtain ⟨rfl, rfl, rfl⟩ := he'
    exact plain (fun _ h => by cases h) (wpIn_exit ⟨rfl, ρ, Z, Ext.refl _, ht, H, Res.le.refl Z, hdf, rfl⟩)
  case ret =>
    simp only [Out.ok.injEq] at he'
    obtain ⟨rfl, rfl, rfl⟩ := he'
    exact plain (fun _ h => by cases h) (wpIn_ret ⟨rfl, ρ, Z, Ext.refl _, ht, H, Res.le.refl Z, hdf, rfl⟩)

theorem run_sim (hmix : P.follows .mixedOrders = true) (hN : Named P) : ∀ n, CodeIH P n ∧ OpsIH P n
  | 0 => ⟨fun c t h e t' h' he => (by cases he), fun all l t h e t' h' he => (by cases he)⟩
  | n + 1 => by
    obtain ⟨h1, h2⟩ := run_sim hmix hN n
    exact ⟨code_step hmix hN h1 h2, ops_step hN h1 h2⟩

/-- at a call's beginning: blocks that are read alone. -/
theorem R.start {w0 : World} {h : Hp} {ρ : Rho} (hb : ∀ b l, ρ b = some l → b < h.n ∧ h.still b ∧ ((l.base ≠ 0 ∧ l.blk = 0) ∨ l.blk < w0.heap.size)) (live : Live P ρ w0 h)
    (inj : ∀ b b' l l', ρ b = some l → ρ b' = some l' → b ≠ b' → h.alive b → h.alive b' → l.blk ≠ l'.blk) (fresh : ∀ b, h.n ≤ b → h.t.get b = none) (glob : Glob ρ) (base : Orc.inv w0) : @R _ noRes P w0 w0 h ρ :=
  @R.mk _ noRes P _ _ _ _ (Below.refl _ _) (fun b l h => ⟨(hb b l h).1, .inr (hb b l h).2.1, (hb b l h).2.2⟩) live inj fresh glob base (fun _ h => h.elim) (fun _ _ h => h.elim)
/-- A call that the small machine answers: the model's call answers so, and leaves what was there as it was. -/
theorem calls_of (hmix : P.follows .mixedOrders = true) (hN : Named P) {n : Nat} {f : FuncId} {as : List V} {xs : List Value} {h h' : Hp} {ρ : Rho} {w : World} {v : V} (H : R P w w h ρ) (ha : RelL ρ as xs)
    (hb : (P.funcs[f]?.bind (·.body)).isSome = true) (he : enterV P (run P n) h (some (f, as)) = some (v, h')) : Calls P f ⟨xs⟩ w fun e w' => ∃ x ρ', e = .returned x ∧ Rel ρ' v x ∧ Below w.heap.size w w' := by
  obtain ⟨_, hcalls⟩ := (call_sim (run_sim hmix hN n).1 H ha he).text hN hb
  refine hcalls.mono ?_
  rintro e w' ⟨x, ρ', rfl, h1, _, h3⟩
  exact ⟨x, ρ', rfl, h1, h3.below⟩

/-- nothing is taken from outside. -/
@[reducible] def noOrc : Orc := ⟨0, fun _ _ _ => none, fun _ => 0, fun _ _ _ => none, fun _ => True, fun _ => none⟩
theorem noOrc_ok (P : Program) : @OrcOk P noOrc :=
  letI := noOrc
  { pure := fun _ _ _ _ _ => rfl, reads := fun _ _ _ _ _ _ h => (by cases h), make := fun _ _ _ _ _ h => (by cases h), fr := fun _ _ _ _ _ h => (by cases h), sound := fun _ _ _ _ _ h => (by cases h) }

def namedB (P : Program) : Bool := P.funcs.toList.all fun fn => !(fn.name == "runtime.NumGoroutine")
theorem named_of (h : namedB P = true) : Named P := by
  intro f fn hf
  unfold namedB at h
  rw [List.all_eq_true] at h
  have hm : fn ∈ P.funcs.toList := by
    have : P.funcs.toList[f]? = some fn := by rw [Array.getElem?_toList]; exact hf
    exact List.mem_of_getElem? this
  have := h fn hm
  cases hb : (fn.name == "runtime.NumGoroutine") with
  | false => rfl
  | true => rw [hb] at this; cases this
end Go.Mid
