/- The shallow reading is sound: whole functions, and tables of them. -/
import Derived.Test.YthbcbfgpfpogkaaGreatFMidNN
set_option linter.all false
set_option warn.classDefReducibility false
namespace Go.Mid
variable {P : Program} [Orc] {g : Nat → List V → Hp → VH}

/-! places in a code tree -/
def At (body : Code) (q : Nat) (c : Code) (κ : List Fk) : Prop := ∃ n, atN body n q = some (c, κ)
theorem atN_succ {body : Code} : ∀ {n q : Nat} {x : Code × List Fk}, atN body n q = some x → atN body (n + 1) q = some x
  | 0, _, _, h => by cases h
  | n + 1, q, x, h => by
    rw [atN] at h ⊢
    cases hq : Nat.beq q 1 <;> rw [hq] at h
    · simp only [cond_false] at h ⊢
      cases hp : atN body n (q / 2) with
      | none => rw [hp] at h; cases h
      | some y => rw [atN_succ hp]; rw [hp] at h; exact h
    · exact h
theorem atN_le {body : Code} {n m q : Nat} {x : Code × List Fk} (h : atN body n q = some x) (hm : n ≤ m) : atN body m q = some x := by
  induction hm with
  | refl => exact h
  | step _ ih => exact atN_succ ih
theorem At.unique {body : Code} {q : Nat} {c c' : Code} {κ κ' : List Fk} (h : At body q c κ) (h' : At body q c' κ') : c = c' ∧ κ = κ' := by
  obtain ⟨n, hn⟩ := h
  obtain ⟨m, hm⟩ := h'
  have h1 := atN_le hn (Nat.le_add_right n m)
  rw [atN_le hm (Nat.le_add_left m n)] at h1
  simp only [Option.some.injEq, Prod.mk.injEq] at h1
  exact ⟨h1.1.symm, h1.2.symm⟩
theorem at_root (body : Code) : At body 1 body [] := ⟨1, rfl⟩
theorem at_left {body : Code} {q : Nat} {c c' : Code} {κ κ' : List Fk} (h : At body q c κ) (hc : childL q κ c = some (c', κ')) : At body (2 * q) c' κ' := by
  obtain ⟨n, hn⟩ := h
  refine ⟨n + 1, ?_⟩
  rw [atN]
  have h1 : Nat.beq (2 * q) 1 = false := by
    cases hb : Nat.beq (2 * q) 1 with
    | false => rfl
    | true => have := Nat.eq_of_beq_eq_true hb; omega
  have h2 : 2 * q / 2 = q := by omega
  have h3 : 2 * q % 2 = 0 := by omega
  rw [h1, h2, h3, hn]
  exact hc
theorem at_pos {body : Code} : ∀ {n q : Nat} {x : Code × List Fk}, atN body n q = some x → q ≠ 0
  | 0, _, _, h => by cases h
  | n + 1, q, x, h => by
    rintro rfl
    rw [atN] at h
    have h1 : Nat.beq 0 1 = false := rfl
    rw [h1] at h
    simp only [cond_false] at h
    cases hp : atN body n (0 / 2) with
    | none => rw [hp] at h; cases h
    | some y => exact at_pos hp rfl
theorem at_right {body : Code} {q : Nat} {c c' : Code} {κ κ' : List Fk} (h : At body q c κ) (hc : childR κ c = some (c', κ')) : At body (2 * q + 1) c' κ' := by
  obtain ⟨n, hn⟩ := h
  have hq := at_pos hn
  refine ⟨n + 1, ?_⟩
  rw [atN]
  have h1 : Nat.beq (2 * q + 1) 1 = false := by
    cases hb : Nat.beq (2 * q + 1) 1 with
    | false => rfl
    | true => have := Nat.eq_of_beq_eq_true hb; omega
  have h2 : (2 * q + 1) / 2 = q := by omega
  have h3 : (2 * q + 1) % 2 = 1 := by omega
  rw [h1, h2, h3, hn]
  exact hc
def WfK (body : Code) : List Fk → Prop
  | [] => True
  | .seq b q :: κ => At body q b κ ∧ WfK body κ
  | .blk _ :: κ => WfK body κ
  | .loop c q :: κ => At body q (.loop c) κ ∧ WfK body κ
theorem wf_left {body : Code} {q : Nat} {c c' : Code} {κ κ' : List Fk} (h : At body q c κ) (hw : WfK body κ) (hc : childL q κ c = some (c', κ')) : WfK body κ' := by
  cases c <;> simp only [childL, Option.some.injEq, Prod.mk.injEq, reduceCtorEq] at hc
  · obtain ⟨_, rfl⟩ := hc; exact ⟨at_right h rfl, hw⟩
  · obtain ⟨_, rfl⟩ := hc; exact hw
  · obtain ⟨_, rfl⟩ := hc; exact hw
  · obtain ⟨_, rfl⟩ := hc; exact ⟨h, hw⟩
  · obtain ⟨_, rfl⟩ := hc; exact hw
theorem wf_right {body : Code} {c c' : Code} {κ κ' : List Fk} (hw : WfK body κ) (hc : childR κ c = some (c', κ')) : WfK body κ' := by
  cases c <;> simp only [childR, Option.some.injEq, Prod.mk.injEq, reduceCtorEq] at hc
  · obtain ⟨_, rfl⟩ := hc; exact hw
  · obtain ⟨_, rfl⟩ := hc; exact hw
theorem wf_at {body : Code} : ∀ {n q : Nat} {c : Code} {κ : List Fk}, atN body n q = some (c, κ) → WfK body κ
  | 0, _, _, _, h => by cases h
  | n + 1, q, c, κ, h => by
    rw [atN] at h
    cases hq : Nat.beq q 1 <;> rw [hq] at h
    · simp only [cond_false] at h
      cases hp : atN body n (q / 2) with
      | none => rw [hp] at h; cases h
      | some y =>
        obtain ⟨c0, κ0⟩ := y
        rw [hp] at h
        simp only [childOf] at h
        cases ho : Nat.beq (q % 2) 1 <;> rw [ho] at h
        · exact wf_left ⟨n, hp⟩ (wf_at hp) h
        · exact wf_right (wf_at hp) h
    · simp only [cond_true, Option.some.injEq, Prod.mk.injEq] at h
      obtain ⟨_, rfl⟩ := h
      exact trivial
theorem At.wf {body : Code} {q : Nat} {c : Code} {κ : List Fk} (h : At body q c κ) : WfK body κ := by
  obtain ⟨n, hn⟩ := h
  exact wf_at hn

/-! cuts -/
theorem getAll_sub {t : Tr V} : ∀ {live : List Tmp} {vs : List V}, getAll t live = some vs → Sub (setAll live vs .nil) t
  | [], vs, h => by
    simp only [getAll, Option.some.injEq] at h; subst h
    intro i v hv
    simp only [setAll, Tr.get_nil] at hv; cases hv
  | j :: live, vs, h => by
    simp only [getAll] at h
    cases hj : t.get j with
    | none => rw [hj] at h; cases h
    | some x =>
      rw [hj] at h
      simp only at h
      cases hl : getAll t live with
      | none => rw [hl] at h; cases h
      | some xs =>
        rw [hl] at h
        simp only [Option.some.injEq] at h
        subst h
        intro i v hv
        simp only [setAll] at hv
        rw [Tr.get_set] at hv
        by_cases hd : j = i
        · subst hd
          rw [if_pos rfl] at hv
          simp only [Option.some.injEq] at hv; subst hv
          exact hj
        · rw [if_neg hd] at hv
          exact getAll_sub hl i v hv
def CutsOk (P : Program) (g : Nat → List V → Hp → VH) (rs : List ResultVar) (body : Code) (cuts : Cuts) : Prop :=
  ∀ q l live, cutAt q cuts = some (l, live) → ∀ c κ, At body q c κ → ∀ vs h p, g (2 * l + 1) vs h = some p → Means P rs κ c (setAll live vs .nil) h p
variable {rs : List ResultVar} {body : Code} {cuts : Cuts} {t : Tr V} {h : Hp} {p : V × Hp}
theorem jump_sound (hc : CutsOk P g rs body cuts) {q : Nat} {c : Code} {κ : List Fk} (ha : At body q c κ) (hj : jumpTo g t h (cutAt q cuts) = some p) : Means P rs κ c t h p := by
  unfold jumpTo at hj
  split at hj
  · rename_i l live heq
    split at hj
    · rename_i vs hvs
      exact (hc q l live heq c κ ha vs h p hj).sub (getAll_sub hvs)
    · cases hj
  · cases hj
theorem denRes_some : ∀ {rs : List ResultVar} {k : List V → VH}, denRes P h t rs k = some p → ∃ vs, resV P h t rs = some vs ∧ k vs = some p
  | [], k, hd => ⟨[], rfl, hd⟩
  | .tmp i :: rs, k, hd => by
    simp only [denRes] at hd
    obtain ⟨v, hv, hd⟩ := optS_some hd
    obtain ⟨vs, h1, h2⟩ := denRes_some hd
    exact ⟨v :: vs, by simp only [resV, resOne, hv, h1], h2⟩
  | .cell a ty :: rs, k, hd => by
    simp only [denRes] at hd
    obtain ⟨a', ha, hd⟩ := optS_some hd
    have key : ∃ v, resOne P h t (.cell a ty) = some v ∧ denRes P h t rs (fun vs => k (v :: vs)) = some p := by
      obtain ⟨v, h', h1, h2⟩ := loadD_some hd
      refine ⟨v, ?_, h2⟩
      unfold exLoad at h1
      split at h1
      · rename_i b off heq
        simp only [Option.some.injEq] at heq
        subst heq
        simp only [resOne, ha]
        cases hl : loadV P h ty b off with
        | none => rw [hl] at h1; cases h1
        | some x => rw [hl] at h1; simp only [vh, Option.some.injEq, Prod.mk.injEq] at h1; rw [h1.1]
      · cases h1
    obtain ⟨v, hv, hd⟩ := key
    obtain ⟨vs, h1, h2⟩ := denRes_some hd
    exact ⟨v :: vs, by simp only [resV, hv, h1], h2⟩
theorem retS_some (hr : retS P rs t h = some p) : ∃ vs, resV P h t rs = some vs ∧ p = (one vs, h) := by
  obtain ⟨vs, h1, h2⟩ := denRes_some hr
  simp only [Option.some.injEq] at h2
  exact ⟨vs, h1, h2.symm⟩
theorem ret_sound (hr : retS P rs t h = some p) : ∀ κ, MeansE P rs κ (.ok .ret t h) p
  | [] => by
    obtain ⟨vs, h1, rfl⟩ := retS_some hr
    exact ⟨0, by simp only [kOut, backV, h1]⟩
  | .seq _ _ :: κ => ret_sound hr κ
  | .blk _ :: κ => ret_sound hr κ
  | .loop _ _ :: κ => ret_sound hr κ
variable {d : Code → Nat → List Fk → Tr V → Hp → VH}
theorem popN_sound (hc : CutsOk P g rs body cuts) (hd : ∀ c q κ t h p, At body q c κ → WfK body κ → d c q κ t h = some p → Means P rs κ c t h p) : ∀ κ, WfK body κ → popN P g cuts rs d t h κ = some p → MeansE P rs κ (.ok .normal t h) p
  | [], _, hp => by
    obtain ⟨vs, h1, rfl⟩ := retS_some hp
    exact ⟨0, by simp only [kOut, backV, h1]⟩
  | .seq b q :: κ, hw, hp => by
    simp only [popN] at hp
    split at hp
    · rename_i c heq
      rw [← heq] at hp
      exact meansE_seq (jump_sound hc hw.1 hp)
    · exact meansE_seq (hd b q κ t h p hw.1 hw.2 hp)
  | .blk _ :: κ, hw, hp => popN_sound hc hd κ hw hp
  | .loop c q :: κ, hw, hp => meansE_loop (jump_sound hc hw.1 hp)
theorem popX_sound (hc : CutsOk P g rs body cuts) (hd : ∀ c q κ t h p, At body q c κ → WfK body κ → d c q κ t h = some p → Means P rs κ c t h p) {id : Nat} : ∀ κ, WfK body κ → popX P g cuts rs d id t h κ = some p → MeansE P rs κ (.ok (.exit id) t h) p
  | [], _, hp => by cases hp
  | .seq _ _ :: κ, hw, hp => popX_sound hc hd κ hw.2 hp
  | .blk j :: κ, hw, hp => by
    simp only [popX] at hp
    simp only [cD_eq] at hp
    cases hj : Nat.beq id j <;> rw [hj] at hp
    · obtain ⟨n, hn⟩ := popX_sound hc hd κ hw hp
      exact ⟨n, by simp only [kOut, inBlk, hj, cond_false]; exact hn⟩
    · obtain ⟨n, hn⟩ := popN_sound hc hd κ hw hp
      exact ⟨n, by simp only [kOut, inBlk, hj, cond_true]; exact hn⟩
  | .loop _ _ :: κ, hw, hp => popX_sound hc hd κ hw.2 hp
theorem den_sound (hg : CallsOk P g) (hc : CutsOk P g rs body cuts) : ∀ m c q κ t h p, At body q c κ → WfK body κ → den P g cuts rs m c q κ t h = some p → Means P rs κ c t h p
  | 0, _, _, _, _, _, _, _, _, hd => by cases hd
  | m + 1, c, q, κ, t, h, p, ha, hw, hd => by
    have IH := den_sound hg hc m
    cases c <;> simp only [den, reduceCtorEq] at hd
    case skip => exact means_skip (popN_sound hc IH κ hw hd)
    case region id ops dr => exact denReg_sound hg (fun t h p hk => popN_sound hc IH κ hw hk) hd
    case seq a b => exact means_seq (IH _ _ _ _ _ _ (at_left ha rfl) (wf_left ha hw rfl) hd)
    case cond x a b =>
      obtain ⟨v, hv, hd⟩ := optS_some hd
      rcases ifS_some hd with ⟨rfl, hd⟩ | ⟨rfl, hd⟩
      · exact means_cond hv (IH _ _ _ _ _ _ (at_left ha rfl) (wf_left ha hw rfl) hd)
      · exact means_cond hv (IH _ _ _ _ _ _ (at_right ha rfl) (wf_right (c := .cond x a b) hw rfl) hd)
    case block id c => exact means_block (IH _ _ _ _ _ _ (at_left ha rfl) (wf_left ha hw rfl) hd)
    case loop c => exact jump_sound hc ha hd
    case exit id => exact means_exit (popX_sound hc IH κ hw hd)
    case ret => exact means_ret (ret_sound hd κ)
    case scope c => exact means_scope (IH _ _ _ _ _ _ (at_left ha rfl) (wf_left ha hw rfl) hd)
    case label l => exact means_label (popN_sound hc IH κ hw hd)
    case rangeFunc f ps a b =>
      obtain ⟨v, hv, hd⟩ := optS_some hd
      exact rngD_sound hg hv (fun h hk => popN_sound hc IH κ hw hk) (fun j h hk => popX_sound hc IH κ hw hk) (fun h hk => ret_sound hk κ) hd
theorem denIn_sound (hg : CallsOk P g) (hc : CutsOk P g rs body cuts) {m q : Nat} {c : Code} {κ : List Fk} (ha : At body q c κ) (hd : denIn P g cuts rs m q t h (some (c, κ)) = some p) : Means P rs κ c t h p := by
  unfold denIn at hd
  split at hd
  · rename_i c' κ' heq
    simp only [Option.some.injEq, Prod.mk.injEq] at heq
    obtain ⟨rfl, rfl⟩ := heq
    exact means_loop (q := q) (den_sound hg hc m _ _ _ _ _ _ (at_left ha rfl) (wf_left ha ha.wf rfl) hd)
  · rename_i c' κ' _ heq
    simp only [Option.some.injEq, Prod.mk.injEq] at heq
    obtain ⟨rfl, rfl⟩ := heq
    exact den_sound hg hc m _ _ _ _ _ _ ha ha.wf hd
  · rename_i heq; cases heq

/-! tables -/
abbrev Lab := FuncId × Nat × List Tmp
noncomputable def tmpsEq : List Tmp → List Tmp → Bool
  | [], [] => true
  | a :: x, b :: y => Nat.beq a b && tmpsEq x y
  | _, _ => false
theorem tmpsEq_eq : ∀ {a b : List Tmp}, tmpsEq a b = true → a = b
  | [], [], _ => rfl
  | a :: x, b :: y, h => by
    simp only [tmpsEq, Bool.and_eq_true] at h
    rw [Nat.eq_of_beq_eq_true h.1, tmpsEq_eq h.2]
  | [], _ :: _, h => by cases h
  | _ :: _, [], h => by cases h
/-- are a function's cuts the labels of the table? -/
noncomputable def cutsFit (labs : Tr Lab) (f : FuncId) : Cuts → Bool
  | [] => true
  | (q, l, live) :: cs => (match labs.get l with
    | some (f', q', live') => Nat.beq f' f && (Nat.beq q' q && tmpsEq live' live)
    | none => false) && cutsFit labs f cs
theorem cutsFit_spec {labs : Tr Lab} {f : FuncId} {q l : Nat} {live : List Tmp} : ∀ {cs : Cuts}, cutsFit labs f cs = true → cutAt q cs = some (l, live) → labs.get l = some (f, q, live)
  | [], _, h => by cases h
  | (q0, l0, live0) :: cs, hf, h => by
    simp only [cutsFit, Bool.and_eq_true] at hf
    simp only [cutAt] at h
    cases hb : Nat.beq q0 q <;> rw [hb] at h
    · exact cutsFit_spec hf.2 h
    · simp only [cond_true, Option.some.injEq, Prod.mk.injEq] at h
      obtain ⟨rfl, rfl⟩ := h
      have hq := Nat.eq_of_beq_eq_true hb
      subst hq
      have h1 := hf.1
      split at h1
      · rename_i f' q' live' heq
        simp only [Bool.and_eq_true] at h1
        obtain ⟨h2, h3, h4⟩ := h1
        rw [heq, Nat.eq_of_beq_eq_true h2, Nat.eq_of_beq_eq_true h3, tmpsEq_eq h4]
      · cases h1
abbrev Sh := (Nat → List V → Hp → VH) → List V → Hp → VH
def LabsOk (P : Program) (labs : Tr Lab) (g : Nat → List V → Hp → VH) : Prop :=
  ∀ l f q live, labs.get l = some (f, q, live) → ∀ fn body, P.funcs[f]? = some fn → fn.body = some body → ∀ c κ, At body q c κ → ∀ vs h p, g (2 * l + 1) vs h = some p → Means P fn.results.toList κ c (setAll live vs .nil) h p
theorem labs_cuts {labs : Tr Lab} (hl : LabsOk P labs g) {f : FuncId} {cs : Cuts} (hf : cutsFit labs f cs = true) {fn : Func} {body : Code} (h1 : P.funcs[f]? = some fn) (h2 : fn.body = some body) : CutsOk P g fn.results.toList body cs :=
  fun q l live hc c κ ha vs h p hp => hl l f q live (cutsFit_spec hf hc) fn body h1 h2 c κ ha vs h p hp
/-- an entry of a table of shallow texts is what its code reads as. -/
def EntOk (P : Program) (labs : Tr Lab) (key : Nat) (G : Sh) : Prop :=
  (∀ f, key = 2 * f → (∀ ih as h p, G ih as h = some p → Orc.fn f as h = some p) ∨ (∀ as h, Orc.fn f as h = none) ∧ ∃ m cs, cutsFit labs f cs = true ∧ ∀ ih as h, OLe (G ih as h) (denF P ih m cs as h (P.funcs[f]?))) ∧
  (∀ l, key = 2 * l + 1 → ∃ f q live m cs, labs.get l = some (f, q, live) ∧ cutsFit labs f cs = true ∧ ∀ ih vs h, OLe (G ih vs h) (denL P ih m cs q live vs h (P.funcs[f]?)))
noncomputable def goS (x : Option Sh) : (Nat → List V → Hp → VH) → List V → Hp → VH :=
  Option.rec (motive := fun _ => (Nat → List V → Hp → VH) → List V → Hp → VH) (fun _ _ _ => none) (fun G ih vs h => G ih vs h) x
noncomputable def gTab (tab : Tr Sh) (n : Nat) : Nat → List V → Hp → VH :=
  Nat.rec (motive := fun _ => Nat → List V → Hp → VH) (fun _ _ _ => none) (fun _ ih key vs h => goS (tab.get key) ih vs h) n
def TabOk (P : Program) (labs : Tr Lab) (tab : Tr Sh) : Prop := ∀ key G, tab.get key = some G → EntOk P labs key G
theorem tabOk_nil (P : Program) (labs : Tr Lab) : TabOk P labs .nil := fun key G h => by rw [Tr.get_nil] at h; cases h
theorem TabOk.set {labs : Tr Lab} {tab : Tr Sh} {key : Nat} {G : Sh} (h : TabOk P labs tab) (he : EntOk P labs key G) : TabOk P labs (tab.set key G) := by
  intro k G' hk
  rw [Tr.get_set] at hk
  by_cases hd : key = k
  · rw [if_pos hd] at hk
    simp only [Option.some.injEq] at hk
    subst hk; subst hd
    exact he
  · rw [if_neg hd] at hk
    exact h k G' hk
theorem gTab_sound {labs : Tr Lab} {tab : Tr Sh} (ht : TabOk P labs tab) : ∀ n, CallsOk P (gTab tab n) ∧ LabsOk P labs (gTab tab n)
  | 0 => ⟨fun f as h p hp => by (cases hp), fun l f q live _ fn body _ _ c κ _ vs h p hp => by (cases hp)⟩
  | n + 1 => by
    obtain ⟨h1, h2⟩ := gTab_sound ht n
    have step : ∀ key vs h p, gTab tab (n + 1) key vs h = some p → ∃ G, tab.get key = some G ∧ G (gTab tab n) vs h = some p := by
      intro key vs h p hp
      have hp' : goS (tab.get key) (gTab tab n) vs h = some p := hp
      cases hk : tab.get key with
      | none => rw [hk] at hp'; cases hp'
      | some G => rw [hk] at hp'; exact ⟨G, rfl, hp'⟩
    refine ⟨fun f as h p hp => ?_, fun l f q live hl fn body hfn hb c κ ha vs h p hp => ?_⟩
    · obtain ⟨G, hG, hp⟩ := step _ _ _ _ hp
      rcases (ht _ _ hG).1 f rfl with hor | ⟨hor, m, cs, hcs, hle⟩
      · exact ⟨0, by simp only [enterV, hor _ _ _ _ hp, enterO]⟩
      have hd := hle _ _ _ _ hp
      unfold denF at hd
      cases hfn : P.funcs[f]? with
      | none => rw [hfn] at hd; cases hd
      | some fn =>
        rw [hfn] at hd
        simp only at hd
        cases hb : fn.body with
        | none => rw [hb] at hd; cases hd
        | some c =>
          rw [hb] at hd
          simp only at hd
          simp only [cD_eq] at hd
          cases hok : (Nat.ble as.length fn.ntmps && okCode fn.ntmps c) <;> rw [hok] at hd
          · cases hd
          · obtain ⟨k, hk⟩ := denIn_sound h1 (labs_cuts h2 hcs hfn hb) (at_root c) hd
            refine ⟨k, ?_⟩
            simp only [enterV, hor, enterO, enterB, hfn, bodyV, hb, hok, cond_true]
            exact hk
    · obtain ⟨G, hG, hp⟩ := step _ _ _ _ hp
      obtain ⟨f', q', live', m, cs, hl', hcs, hle⟩ := (ht _ _ hG).2 l rfl
      rw [hl] at hl'
      simp only [Option.some.injEq, Prod.mk.injEq] at hl'
      obtain ⟨rfl, rfl, rfl⟩ := hl'
      have hd := hle _ _ _ _ hp
      unfold denL at hd
      rw [hfn] at hd
      simp only at hd
      rw [hb] at hd
      simp only at hd
      cases hat : atN body (q + 1) q with
      | none => rw [hat] at hd; cases hd
      | some x =>
        obtain ⟨c', κ'⟩ := x
        rw [hat] at hd
        have ha' : At body q c' κ' := ⟨_, hat⟩
        obtain ⟨rfl, rfl⟩ := ha.unique ha'
        exact denIn_sound h1 (labs_cuts h2 hcs hfn hb) ha hd

/-! arguments in a row -/
noncomputable def consE (k : V → List V → VH) (vs : List V) : VH := (fun _ : Nat => List.rec (motive := fun _ => VH) none (fun v r _ => k v r) vs) tlTop
noncomputable def nilE (x : VH) (vs : List V) : VH := (fun _ : Nat => List.rec (motive := fun _ => VH) x (fun _ _ _ => none) vs) tlTop
omit [Orc] in
theorem consE_le {k : V → List V → VH} {X : List V → VH} (h : ∀ v r, OLe (k v r) (X (v :: r))) : ∀ vs, OLe (consE k vs) (X vs)
  | [] => OLe.none _
  | v :: r => h v r
omit [Orc] in
theorem nilE_le {x : VH} {X : List V → VH} (h : x = X []) : ∀ vs, OLe (nilE x vs) (X vs)
  | [] => by intro a ha; rw [← h]; exact ha
  | _ :: _ => OLe.none _
theorem entF {labs : Tr Lab} {f : FuncId} {G : Sh} (ho : ∀ as h, Orc.fn f as h = none) (m : Nat) (cs : Cuts) (hf : cutsFit labs f cs = true) (h : ∀ ih as h, OLe (G ih as h) (denF P ih m cs as h (P.funcs[f]?))) : EntOk P labs (2 * f) G :=
  ⟨fun f' hf' => by have : f' = f := by omega
                    subst this; exact .inr ⟨ho, m, cs, hf, h⟩, fun l hl => by omega⟩
theorem entO {labs : Tr Lab} {f : FuncId} {G : Sh} (h : ∀ ih as h p, G ih as h = some p → Orc.fn f as h = some p) : EntOk P labs (2 * f) G :=
  ⟨fun f' hf' => by have : f' = f := by omega
                    subst this; exact .inl h, fun l hl => by omega⟩
theorem entL {labs : Tr Lab} {l : Nat} {G : Sh} (f : FuncId) (q : Nat) (live : List Tmp) (m : Nat) (cs : Cuts) (hl : labs.get l = some (f, q, live)) (hf : cutsFit labs f cs = true) (h : ∀ ih vs h, OLe (G ih vs h) (denL P ih m cs q live vs h (P.funcs[f]?))) : EntOk P labs (2 * l + 1) G :=
  ⟨fun f' hf' => by omega, fun l' hl' => by have : l' = l := by omega
                                            subst this; exact ⟨f, q, live, m, cs, hl, hf, h⟩⟩
/-- a function without arguments that its shallow text calls true: the small machine calls it true. -/
noncomputable def tabTrue (tab : Tr Sh) (n : Nat) (f : FuncId) : Bool :=
  match gTab tab n (2 * f) [] ⟨.nil, 0, big⟩ with
  | some (.bool true, _) => true
  | _ => false
end Go.Mid
