/- A run with more fuel, from a frame that knows more, answers the same. -/
import Derived.Test.YtdiiilfokajddaaGreatDoorKMidMM
set_option linter.all false
set_option warn.classDefReducibility false
noncomputable section
section
namespace Go.Mid
section
variable {P : Program} [Orc]
def OLe {α : Type} (x y : Option α) : Prop:=∀ a, x = some a → y = some a
omit [Orc] in
theorem OLe.refl {α : Type} (x : Option α) : OLe x x:=fun _ h => h
omit [Orc] in
theorem OLe.none {α : Type} (y : Option α) : OLe none y:=fun _ h => by cases h
omit [Orc] in
theorem OLe.or {α : Type} {x y : Option α} (h : OLe x y) : x = Option.none ∨ x = y:=by
 cases hx : x with
 | none => exact Or.inl rfl
 | some a => exact Or.inr (h a hx).symm
omit [Orc] in
theorem OLe.trans {α : Type} {x y z : Option α} (h : OLe x y) (h' : OLe y z) : OLe x z:=fun a ha => h' a (h a ha)
def Sub (t t' : Tr V) : Prop:=∀ i v, t.get i = some v → t'.get i = some v
theorem Sub.refl (t : Tr V) : Sub t t:=fun _ _ h => h
theorem Sub.set {t t' : Tr V} (h : Sub t t') (d : Nat) (v : V) : Sub (t.set d v) (t'.set d v):=by
 intro i x hx
 rw [Tr.get_set] at hx ⊢
 by_cases hd : d = i
 ·rw [if_pos hd] at hx ⊢; exact hx
 ·rw [if_neg hd] at hx ⊢; exact h i x hx
theorem Sub.put {t t' : Tr V} (h : Sub t t') (d : Option Tmp) (v : V) : Sub (putO t d v) (putO t' d v):=by
 cases d with
 | none => exact h
 | some d => exact h.set d v
variable {t t' : Tr V}
theorem evalO_le (hs : Sub t t') : ∀ x : Operand, OLe (evalO t x) (evalO t' x)
 | .tmp i => fun v h => hs i v h
 | .const _ => OLe.refl _
 | .global _ => OLe.refl _
 | .func _ => OLe.refl _
theorem evalL_le (hs : Sub t t') : ∀ l : List Operand, OLe (evalL t l) (evalL t' l)
 | [] => OLe.refl _
 | x :: xs => by
  intro a ha
  simp only [evalL] at ha ⊢
  rcases (evalO_le hs x).or with h | h
  ·rw [h] at ha; cases ha
  ·rw [h] at ha
   rcases (evalL_le hs xs).or with h' | h'
   ·rw [h'] at ha; split at ha <;> cases ha
   ·rw [h'] at ha; exact ha
theorem evalP_le (hs : Sub t t') : ∀ l : List (Nat × Operand), OLe (evalP t l) (evalP t' l)
 | [] => OLe.refl _
 | (i, x) :: xs => by
  intro a ha
  simp only [evalP] at ha ⊢
  rcases (evalO_le hs x).or with h | h
  ·rw [h] at ha; cases ha
  ·rw [h] at ha
   rcases (evalP_le hs xs).or with h' | h'
   ·rw [h'] at ha; split at ha <;> cases ha
   ·rw [h'] at ha; exact ha
theorem ole1 {α β : Type} {x y : Option α} (f : Option α → Option β) (hf : f none = none) (h : OLe x y) : OLe (f x) (f y):=by
 rcases h.or with h | h
 ·rw [h, hf]; exact OLe.none _
 ·rw [h]; exact OLe.refl _
theorem ole2 {α β γ : Type} {x y : Option α} {x' y' : Option β} (f : Option α → Option β → Option γ) (hf : ∀ b, f none b = none) (hg : ∀ a, f a none = none) (h : OLe x y) (h' : OLe x' y') : OLe (f x x') (f y y') :=
 (ole1 (f · x') (hf x') h).trans (ole1 (f y) (hg y) h')
theorem natA_le {x y : Option V} (h : OLe x y) : OLe (natA x) (natA y):=ole1 natA rfl h
theorem bound_le (hs : Sub t t') (d : Nat) : ∀ y : Option Operand, OLe (bound t d y) (bound t' d y)
 | none => OLe.refl _
 | some y => natA_le (evalO_le hs y)
theorem exPick_le (hs : Sub t t') (h : Hp) (c a b : Operand) : OLe (exPick t h c a b) (exPick t' h c a b):=by
 unfold exPick
 rcases (evalO_le hs c).or with hc | hc
 ·rw [hc]; exact OLe.none _
 ·rw [hc]
  split
  ·exact ole1 (vh h) rfl (evalO_le hs a)
  ·exact ole1 (vh h) rfl (evalO_le hs b)
  ·exact OLe.none _
theorem exStore_none (h : Hp) (ty : TypeId) (a : Option V) : exStore P h ty a none = none:=by
 unfold exStore; split <;> rfl
theorem exBin_none (h : Hp) (d : Option TypeDesc) (op : BinOp) (a : Option V) : exBin h d op a none = none:=by
 unfold exBin; split <;> rfl
theorem exMake_none (h : Hp) (ty : TypeId) (l : Option V) : exMake P h ty l none = none:=by
 unfold exMake; split <;> rfl
theorem exIndexAddr_none (h : Hp) (ty : TypeId) (i : Option Nat) : exIndexAddr P h ty none i = none:=by
 unfold exIndexAddr; split <;> rfl
theorem exIndex_none (h : Hp) (ty : TypeId) (i : Option Nat) : exIndex P h ty none i = none:=by
 unfold exIndex; split <;> rfl
theorem exLookup_none1 (h : Hp) (ty : TypeId) (ok : Bool) (k : Option V) : exLookup P h ty ok none k = none:=by
 unfold exLookup
 split
 ·split
  ·rename_i k
   cases keyOk (P.underlying _) _ <;> rfl
  ·rfl
 ·rfl
theorem exLookup_none2 (h : Hp) (ty : TypeId) (ok : Bool) (x : Option V) : exLookup P h ty ok x none = none:=by
 unfold exLookup; split <;> rfl
theorem exMapUpdate_le (h : Hp) (ty : TypeId) {m m' k k' x x' : Option V} (hm : OLe m m') (hk : OLe k k') (hx : OLe x x') : OLe (exMapUpdate P h ty m k x) (exMapUpdate P h ty m' k' x'):=by
 rcases hm.or with e | e
 ·subst e; intro a ha; simp only [exMapUpdate] at ha; split at ha <;> cases ha
 ·subst e
  rcases hk.or with e | e
  ·subst e; intro a ha; simp only [exMapUpdate] at ha; split at ha <;> (try cases ha); split at ha <;> cases ha
  ·subst e
   rcases hx.or with e | e
   ·subst e; intro a ha; simp only [exMapUpdate] at ha
    split at ha <;> (try (cases ha; done)); split at ha <;> (try (cases ha; done)); split at ha <;> (try (cases ha; done))
    rename_i kk _ _ _ _
    cases hko : keyOk (P.underlying _) _ <;> rw [hko] at ha <;> cases ha
   ·subst e; exact OLe.refl _
theorem exSlice_le (hs : Sub t t') (h : Hp) (ty : TypeId) {x x' : Option V} (hx : OLe x x') (lo hi : Option Operand) : OLe (exSlice P t h ty x lo hi) (exSlice P t' h ty x' lo hi):=by
 rcases hx.or with e | e
 ·subst e; exact OLe.none _
 ·subst e
  unfold exSlice
  split
  ·split
   ·rcases (bound_le hs 0 lo).or with e | e <;> rw [e]
    ·exact OLe.none _
    ·split
     ·first
      | exact ole1 (fun x => match x with | some r => slStr h _ _ r | none => none) rfl (bound_le hs _ hi)
      | exact ole1 (fun x => match x with | some r => slSl P h _ _ _ _ _ _ r | none => none) rfl (bound_le hs _ hi)
     ·exact OLe.none _
   ·exact OLe.none _
  ·split
   ·rcases (bound_le hs 0 lo).or with e | e <;> rw [e]
    ·exact OLe.none _
    ·split
     ·first
      | exact ole1 (fun x => match x with | some r => slStr h _ _ r | none => none) rfl (bound_le hs _ hi)
      | exact ole1 (fun x => match x with | some r => slSl P h _ _ _ _ _ _ r | none => none) rfl (bound_le hs _ hi)
     ·exact OLe.none _
   ·exact OLe.none _
  ·split
   ·split
    ·rcases (bound_le hs 0 lo).or with e | e <;> rw [e]
     ·exact OLe.none _
     ·split
      ·rcases (bound_le hs 0 hi).or with e | e <;> rw [e]
       ·exact OLe.none _
       ·exact OLe.refl _
      ·exact OLe.none _
    ·exact OLe.none _
   ·exact OLe.none _
  ·exact OLe.none _
theorem exFunc_le (hs : Sub t t') (h : Hp) (fn : Fn) (first cap : List Operand) : OLe (exFunc t h fn first cap) (exFunc t' h fn first cap):=by
 cases fn with
 | func f =>
  simp only [exFunc]
  rcases (evalL_le hs first).or with e | e <;> rw [e]
  ·exact OLe.none _
  ·rcases (evalL_le hs cap).or with e | e <;> rw [e]
   ·split <;> exact OLe.none _
   ·exact OLe.refl _
 | _ => exact OLe.refl _
theorem exBuild_le (hs : Sub t t') (h : Hp) (ty : TypeId) (parts : List (Nat × Operand)) : OLe (exBuild P t h ty parts) (exBuild P t' h ty parts):=by
 unfold exBuild
 rcases (evalP_le hs parts).or with e | e <;> rw [e]
 ·exact OLe.none _
 ·exact OLe.refl _
theorem exBuildSlice_le (hs : Sub t t') (h : Hp) (ty : TypeId) (len : Nat) (parts : List (Nat × Operand)) : OLe (exBuildSlice P t h ty len parts) (exBuildSlice P t' h ty len parts):=by
 unfold exBuildSlice
 rcases (evalP_le hs parts).or with e | e <;> rw [e]
 ·exact OLe.none _
 ·exact OLe.refl _
theorem exBuiltin_le (hs : Sub t t') (h : Hp) (b : Builtin) (args : List Operand) (tys : List TypeId) : OLe (exBuiltin P t h b args tys) (exBuiltin P t' h b args tys):=by
 cases b with
 | len => exact ole1 (exLen P h · tys) rfl (evalL_le hs args)
 | append => exact ole1 (exAppend P h · tys) rfl (evalL_le hs args)
 | _ => exact OLe.none _
theorem exCall_le (hs : Sub t t') (h : Hp) (c : Call) : OLe (exCall P t h c) (exCall P t' h c):=by
 unfold exCall
 split
 ·exact exBuiltin_le hs h _ _ _
 ·exact OLe.none _
theorem execC_le (hs : Sub t t') (h : Hp) (o : Op) : OLe (execC P t h o) (execC P t' h o):=by
 unfold execC
 split
 ·exact ole1 (vh h) rfl (evalO_le hs _)
 ·exact ole1 (vh h) rfl (evalO_le hs _)
 ·exact exPick_le hs h _ _ _
 ·exact OLe.refl _
 ·exact ole1 (exBox h _) rfl (evalO_le hs _)
 ·exact exBuild_le hs h _ _
 ·exact exBuildSlice_le hs h _ _ _
 ·exact ole1 (exLoad P h _) rfl (evalO_le hs _)
 ·exact ole2 (exStore P h _) (fun _ => rfl) (exStore_none h _) (evalO_le hs _) (evalO_le hs _)
 ·exact ole1 (exNil h) rfl (evalO_le hs _)
 ·exact ole2 (exBin h _ _) (fun _ => rfl) (exBin_none h _ _) (evalO_le hs _) (evalO_le hs _)
 ·exact ole1 (exUn h _) rfl (evalO_le hs _)
 ·exact ole1 (exConv P h _ _) rfl (evalO_le hs _)
 ·exact ole1 (exIface P h _) rfl (evalO_le hs _)
 ·exact exFunc_le hs h _ _ _
 ·exact OLe.refl _
 ·exact ole2 (exMake P h _) (fun _ => rfl) (exMake_none h _) (evalO_le hs _) (evalO_le hs _)
 ·exact exSlice_le hs h _ (evalO_le hs _) _ _
 ·exact ole1 (exFieldAddr P h _ _) rfl (evalO_le hs _)
 ·exact ole1 (exField P h _ _) rfl (evalO_le hs _)
 ·exact ole2 (exIndexAddr P h _) (exIndexAddr_none h _) (fun _ => rfl) (evalO_le hs _) (natA_le (evalO_le hs _))
 ·exact ole2 (exIndex P h _) (exIndex_none h _) (fun _ => rfl) (evalO_le hs _) (natA_le (evalO_le hs _))
 ·exact ole2 (exLookup P h _ _) (exLookup_none1 h _ _) (exLookup_none2 h _ _) (evalO_le hs _) (evalO_le hs _)
 ·exact exMapUpdate_le h _ (evalO_le hs _) (evalO_le hs _) (evalO_le hs _)
 ·exact ole1 (exExtract h _) rfl (evalO_le hs _)
 ·exact exCall_le hs h _
 ·exact OLe.none _
theorem execV_le (hs : Sub t t') (h : Hp) (o : Op) : OLe (execV P t h o) (execV P t' h o):=by
 by_cases hx : xk o = 0
 ·rw [execV_zero hx, execV_zero hx]; exact execC_le hs h o
 ·rw [execV_ne hx, execV_ne hx]
  unfold execX
  rcases (evalL_le hs o.operands.toList).or with e | e
  ·rw [e]; exact OLe.none _
  ·rw [e]; exact OLe.refl _
theorem wantO_le (hs : Sub t t') (all : Array Oper) (o : Oper) : OLe (wantO all t o) (wantO all t' o):=by
 unfold wantO
 split
 ·exact OLe.refl _
 ·split
  ·split
   ·rename_i d _
    rcases (OLe.or (x:=t.get d) (y:=t'.get d) fun v h => hs d v h) with e | e <;> rw [e]
    ·exact OLe.none _
    ·exact OLe.refl _
   ·exact OLe.refl _
  ·exact OLe.refl _
theorem calleeV_le (hs : Sub t t') (o : Oper) : OLe (calleeV t o) (calleeV t' o):=by
 unfold calleeV
 split
 ·intro a ha
  split at ha <;> (try (cases ha; done))
  rename_i h1 h2
  rw [evalO_le hs _ _ h1, evalL_le hs _ _ h2]
  exact ha
 ·exact OLe.none _
theorem resOne_le (hs : Sub t t') (h : Hp) : ∀ r, OLe (resOne P h t r) (resOne P h t' r)
 | .tmp i => fun v hv => hs i v hv
 | .cell a ty => by
  simp only [resOne]
  rcases (OLe.or (x:=t.get a) (y:=t'.get a) fun v h => hs a v h) with e | e <;> rw [e]
  ·exact OLe.none _
  ·exact OLe.refl _
theorem resV_le (hs : Sub t t') (h : Hp) : ∀ l, OLe (resV P h t l) (resV P h t' l)
 | [] => OLe.refl _
 | r :: rs => by
  intro a ha
  simp only [resV] at ha ⊢
  rcases (resOne_le hs h r).or with e | e <;> rw [e] at ha
  ·cases ha
  ·rcases (resV_le hs h rs).or with e' | e' <;> rw [e'] at ha
   ·split at ha <;> cases ha
   ·exact ha
def ULe : Out → Out → Prop
 | .no, _ => True
 | .ok e t h, .ok e' t' h' => e = e' ∧ h = h' ∧ Sub t t'
 | .ok _ _ _, .no => False
theorem ULe.refl : ∀ o, ULe o o
 | .no => trivial
 | .ok _ t _ => ⟨rfl, rfl, Sub.refl t⟩
theorem ULe.ok {o : Out} {e : Ex} {t : Tr V} {h : Hp} (hu : ULe (.ok e t h) o) : ∃ t', o = .ok e t' h ∧ Sub t t':=by
 cases o with
 | no => exact hu.elim
 | ok e' t' h' => obtain ⟨rfl, rfl, hs⟩:=hu; exact ⟨t', rfl, hs⟩
def RLe (r r' : Rn) : Prop:=∀ k t t' h, Sub t t' → ULe (r k t h) (r' k t' h)
variable {r r' : Rn}
theorem backV_le {o o' : Out} (hu : ULe o o') (rs : List ResultVar) : OLe (backV P rs o) (backV P rs o'):=by
 cases o with
 | no => exact OLe.none _
 | ok e t h =>
  obtain ⟨t', rfl, hs⟩:=hu.ok
  cases e <;> simp only [backV]
  ·rcases (resV_le hs h rs).or with e | e <;> rw [e]
   ·exact OLe.none _
   ·exact OLe.refl _
  ·exact OLe.none _
  ·rcases (resV_le hs h rs).or with e | e <;> rw [e]
   ·exact OLe.none _
   ·exact OLe.refl _
theorem bodyV_le (hr : RLe r r') (h : Hp) (as : List V) (fn : Func) : OLe (bodyV P r h as fn) (bodyV P r' h as fn):=by
 unfold bodyV
 split
 ·cases (Nat.ble as.length fn.ntmps && okCode fn.ntmps _) with
  | false => exact OLe.none _
  | true => exact backV_le (hr _ _ _ _ (Sub.refl _)) _
 ·exact OLe.none _
theorem enterV_le (hr : RLe r r') (h : Hp) {x x' : Option (FuncId × List V)} (hx : OLe x x') : OLe (enterV P r h x) (enterV P r' h x'):=by
 rcases hx.or with e | e
 ·subst e; exact OLe.none _
 ·subst e
  unfold enterV
  split
  ·rename_i f as'
   cases Orc.fn f as' h with
   | some q => exact OLe.refl _
   | none =>
    show OLe (enterB P r h f as') (enterB P r' h f as')
    unfold enterB
    split
    ·exact bodyV_le hr h _ _
    ·exact OLe.none _
  ·exact OLe.none _
theorem opV_le (hr : RLe r r') (hs : Sub t t') (h : Hp) (o : Oper) : OLe (opV P r t h o) (opV P r' t' h o):=by
 unfold opV
 cases isCall o with
 | true => exact enterV_le hr h (calleeV_le hs o)
 | false => exact execV_le hs h o.op
theorem goOps_le (hr : RLe r r') (hs : Sub t t') (all : Array Oper) (l : List Oper) (d : Option Tmp) {x x' : VH} (hx : OLe x x') : ULe (goOps r all l t d x) (goOps r' all l t' d x'):=by
 rcases hx.or with e | e
 ·subst e; exact trivial
 ·subst e
  cases x with
  | none => exact trivial
  | some p => obtain ⟨v, h⟩:=p; exact hr _ _ _ _ (hs.put d v)
theorem stepOps_le (hr : RLe r r') (hs : Sub t t') (all : Array Oper) (o : Oper) (l : List Oper) (h : Hp) {w w' : Option Bool} (hw : OLe w w') : ULe (stepOps P r all o l t h w) (stepOps P r' all o l t' h w'):=by
 rcases hw.or with e | e
 ·subst e; exact trivial
 ·subst e
  cases w with
  | none => exact trivial
  | some b =>
   cases b with
   | true => exact goOps_le hr hs all l _ (opV_le hr hs h o)
   | false => exact hr _ _ _ _ (hs.put _ _)
def HLe : Option Hd → Option Hd → Prop
 | none, _ => True
 | some s, some s' => s.c = s'.c ∧ s.hs = s'.hs ∧ s.need = s'.need ∧ Sub s.t s'.t ∧ s.st = s'.st ∧ s.nob = s'.nob
 | some _, none => False
theorem ldV_le {P : Program} {t t' : Tr V} (hs : Sub t t') {h : Hp} {o : Op} {p : V × Hp} (hx : execV P t h o = some p) (v : V) : ldV t' o v = ldV t o v:=by
 unfold ldV
 cases hk : xk o with
 | succ n => rfl
 | zero =>
  rw [execV_zero hk] at hx
  cases o <;> try rfl
  rename_i ty a
  simp only [ldC]
  simp only [execC] at hx
  cases he : evalO t a with
  | none => rw [he] at hx; simp [exLoad] at hx
  | some v => rw [evalO_le hs a v he]
theorem hdNob_le {s s' : Hd} (e : HLe (some s) (some s')) {o : Oper} (i : Nat) {v : V} (hl : ldV s'.t o.op v = ldV s.t o.op v) : hdNob s o i v = hdNob s' o i v:=by
 unfold hdNob
 rw [hl, e.2.2.2.2.2]
theorem hdRead_le (ms : Tr Nat) {s s' : Hd} (e : HLe (some s) (some s')) (o : Oper) (i m : Nat) {x x' : VH} (hx : OLe x x') (hl : ∀ p, x = some p → ldV s'.t o.op p.1 = ldV s.t o.op p.1) : HLe (hdRead ms s o i m x) (hdRead ms s' o i m x'):=by
 rcases hx.or with h | h
 ·subst h; exact trivial
 ·subst h
  cases x with
  | none => exact trivial
  | some p =>
   obtain ⟨v, h⟩:=p
   have hn:=hdNob_le e i (hl _ rfl)
   have hl0:=hl _ rfl
   simp only at hl0
   obtain ⟨h1, h2, h3, h4, h5, h6⟩:=e
   have hb : behindR ms i s' (ldV s'.t o.op v) = behindR ms i s (ldV s.t o.op v):=by
    rw [hl0]
    unfold behindR sameW
    rw [h2, h3, h6]
   simp only [hdRead]
   rw [hb]
   cases (obliv o.op || behindR ms i s (ldV s.t o.op v)) with
   | false => exact trivial
   | true => exact ⟨h1, h2, by simp only [h3], h4.put _ _, h5, hn⟩
theorem hdMade_le {s s' : Hd} (e : HLe (some s) (some s')) (o : Oper) (i : Nat) (h : Hp) {x x' : VH} (hx : OLe x x') (hl : ∀ v, ldV s'.t o.op v = ldV s.t o.op v) : HLe (hdMade s o i h x) (hdMade s' o i h x'):=by
 rcases hx.or with e' | e'
 ·subst e'; exact trivial
 ·subst e'
  cases x with
  | none => exact trivial
  | some p =>
   obtain ⟨v, h'⟩:=p
   have hn:=hdNob_le e i (hl v)
   obtain ⟨h1, h2, h3, h4, h5, h6⟩:=e
   simp only [hdMade]
   cases Nat.ble h.n h'.low with
   | false => exact trivial
   | true => exact ⟨by simp only [h1], by simp only [h1, h2], by simp only [h1, h3], h4.put _ _, h5, hn⟩
theorem hdWrote_le (ms : Tr Nat) {s s' : Hd} (e : HLe (some s) (some s')) (o : Oper) (i : Nat) (h : Hp) {x x' : VH} (hx : OLe x x') : HLe (hdWrote ms s o i h x) (hdWrote ms s' o i h x'):=by
 rcases hx.or with e' | e'
 ·subst e'; exact trivial
 ·subst e'
  cases x with
  | none => exact trivial
  | some p =>
   obtain ⟨v, h'⟩:=p
   obtain ⟨h1, h2, h3, h4, h5, h6⟩:=e
   simp only [hdWrote]
   rw [← h6]
   cases s.nob.all (fun x => (anc ms i x.1 || markV x.2) || (pureB h h' || sameLd h h' x.2)) with
   | false => exact trivial
   | true => exact ⟨by simp only [h1], by simp only [h1, h2], by simp only [h1, h3], h4.put _ _, h5, by simp only [h6]⟩
theorem hdPlain_le (ms : Tr Nat) (hr : RLe r r') {s s' : Hd} (e : HLe (some s) (some s')) (o : Oper) (i m : Nat) (h : Hp) : HLe (hdPlain P ms r s o i m h) (hdPlain P ms r' s' o i m h):=by
 have e0:=e
 obtain ⟨h1, h2, h3, h4, h5, h6⟩:=e
 unfold hdPlain
 have hf : freeM ms i s' o = freeM ms i s o:=by unfold freeM; rw [h5, h6]
 rw [hf, ← h1]
 cases (obliv o.op || freeM ms i s o) with
 | false => exact trivial
 | true =>
  cases hmk : makes o with
  | true =>
   cases Nat.beq m s.c with
   | true =>
    unfold hdMk
    cases obliv o.op with
    | false => exact hdWrote_le ms e0 o i h (opV_le hr h4 _ o)
    | true => exact hdMade_le e0 o i h (opV_le hr h4 _ o) (fun v => by rw [ldV_makes hmk, ldV_makes hmk])
   | false => exact trivial
  | false => exact hdRead_le ms e0 o i m (execV_le h4 h o.op) fun p hp => ldV_le h4 hp p.1
theorem hdStore_le (ms : Tr Nat) {s s' : Hd} (e : HLe (some s) (some s')) (o : Oper) (i m : Nat) (h : Hp) (ty : TypeId) {a a' x x' : Option V} (ha : OLe a a') (hx : OLe x x') : HLe (hdStore P ms s o i m h ty a x) (hdStore P ms s' o i m h ty a' x'):=by
 rcases ha.or with e' | e'
 ·subst e'; exact trivial
 ·subst e'
  obtain ⟨h1, h2, h3, h4, h5, h6⟩:=e
  unfold hdStore
  split
  ·rename_i b off
   rcases hx.or with e' | e'
   ·subst e'; exact trivial
   ·subst e'
    cases x with
    | none => exact trivial
    | some v =>
     simp only
     rw [← h5]
     cases storeO P (stores s.st h) ty b off v with
     | none => exact trivial
     | some ob =>
      simp only [hdPut]
      rw [← h6]
      cases s.nob.all (fun x => anc ms i x.1 || okV b x.2) with
      | false => exact trivial
      | true => exact ⟨h1, h2, by simp only [h3], h4.put _ _, by simp only [h5], by simp only [h6]⟩
  ·exact trivial
theorem hdDo_le (ms : Tr Nat) (hr : RLe r r') {s s' : Hd} (e : HLe (some s) (some s')) (o : Oper) (i m : Nat) : ∀ x, HLe (hdDo P ms r s o i m x) (hdDo P ms r' s' o i m x)
 | none => trivial
 | some h => by
  unfold hdDo
  simp only
  split
  ·exact hdStore_le ms e o i m h _ (evalO_le e.2.2.2.1 _) (evalO_le e.2.2.2.1 _)
  ·rw [← e.2.2.2.2.2]
   cases floOf s.nob i with
   | none => exact hdPlain_le ms hr e o i m h
   | some p =>
    obtain ⟨h1, h2, h3, h4, h5, h6⟩:=e
    cases p with
    | nil => exact trivial
    | cons p _ => exact ⟨h1, h2, by simp only [h3], h4.put _ _, h5, h6⟩
  ·rename_i hop
   rw [← e.2.2.2.2.2]
   unfold hdFloS
   split
   ·exact hdPlain_le ms hr e o i m h
   ·rename_i p ty cs hfl
    obtain ⟨h1, h2, h3, h4, h5, h6⟩:=e
    rcases (execC_le (P:=P) h4 (floH p) o.op).or with e' | e'
    ·rw [e']; exact trivial
    ·rw [← e']
     cases execC P s.t (floH p) o.op with
     | none => exact trivial
     | some q =>
      obtain ⟨v, hq⟩:=q
      simp only [hdFloC]
      cases floIs p ty cs v hq with
      | false => exact trivial
      | true => exact ⟨h1, h2, by simp only [h3], h4.put _ _, h5, h6⟩
   ·exact trivial
  ·exact hdPlain_le ms hr e o i m h
theorem hdOne_le (ms : Tr Nat) (hr : RLe r r') {s s' : Hd} (e : HLe (some s) (some s')) (o : Oper) (i : Nat) {w w' : Option Bool} (hw : OLe w w') : HLe (hdOne P ms r s o i w) (hdOne P ms r' s' o i w'):=by
 rcases hw.or with e' | e'
 ·subst e'; exact trivial
 ·subst e'
  cases w with
  | none => exact trivial
  | some b =>
   cases b with
   | true =>
    simp only [hdOne]
    rw [← e.2.2.1, ← e.2.1]
    exact hdDo_le ms hr e o i _ _
   | false =>
    obtain ⟨h1, h2, h3, h4, h5, h6⟩:=e
    exact ⟨h1, h2, by simp only [h3, hdSkip], h4.put _ _, h5, h6⟩
theorem hdAll_none (ms : Tr Nat) (all : Array Oper) : ∀ (l : List Oper) (i : Nat), hdAll P ms r all l i none = none
 | [], _ => rfl
 | _ :: _, _ => rfl
theorem hdAll_le (ms : Tr Nat) (hr : RLe r r') (all : Array Oper) : ∀ (l : List Oper) (i : Nat) {x x' : Option Hd}, HLe x x' → HLe (hdAll P ms r all l i x) (hdAll P ms r' all l i x')
 | l, i, none, x', _ => by rw [hdAll_none]; exact trivial
 | _, _, some s, none, h => h.elim
 | [], _, some s, some s', h => h
 | o :: l, i, some s, some s', h => by
  simp only [hdAll]
  exact hdAll_le ms hr all l (i + 1) (hdOne_le ms hr h o i (wantO_le h.2.2.2.1 all o))
theorem tailCode_le (hr : RLe r r') (ops : Array Oper) {x x' : Option Hd} (h : HLe x x') : ULe (tailCode r ops x) (tailCode r' ops x'):=by
 cases x with
 | none => exact trivial
 | some s =>
  cases x' with
  | none => exact h.elim
  | some s' =>
   obtain ⟨h1, h2, h3, h4, h5, h6⟩:=h
   simp only [tailCode]
   rw [← h1, ← h2, ← h5]
   cases s.hs.get s.c with
   | none => exact trivial
   | some X => exact hr _ _ _ _ h4
theorem evalPd_le (hs : Sub t t') (h : Hp) : ∀ x : Pd, OLe (evalPd P t h x) (evalPd P t' h x)
 | .op x => evalO_le hs x
 | .ld ty a => by
  show OLe (ldPd P h ty (evalO t a)) (ldPd P h ty (evalO t' a))
  rcases (evalO_le hs a).or with e | e
  ·rw [e]; exact OLe.none _
  ·rw [← e]; exact OLe.refl _
theorem evalPds_le (hs : Sub t t') (h : Hp) : ∀ l : List Pd, OLe (evalPds P t h l) (evalPds P t' h l)
 | [] => OLe.refl _
 | x :: xs => by
  rw [evalPds, evalPds]
  rcases (evalPd_le (P:=P) hs h x).or with e | e
  ·rw [e]; exact OLe.none _
  ·rw [← e]
   cases evalPd P t h x with
   | none => exact OLe.none _
   | some v =>
    rcases (evalPds_le hs h xs).or with e2 | e2
    ·rw [e2]; exact OLe.none _
    ·rw [← e2]; exact OLe.refl _
theorem flo0_le (ms : Tr Nat) (all : List Oper) (hs : Sub t t') : ∀ (l : List Oper) (i : Nat) (h : Hp), OLe (flo0 P ms all t l i h) (flo0 P ms all t' l i h)
 | [], _, _ => OLe.refl _
 | o :: l, i, h => by
  rw [flo0, flo0]
  split
  ·exact ole1 (consF _) rfl (flo0_le ms all hs l (i + 1) _)
  ·split
   ·rename_i e len ys _
    rcases (evalPds_le (P:=P) hs h ys).or with e' | e'
    ·rw [e']; exact OLe.none _
    ·rw [← e']
     cases evalPds P t h ys with
     | none => exact OLe.none _
     | some vs => exact ole1 (consF _) rfl (flo0_le ms all hs l (i + 1) _)
   ·exact flo0_le ms all hs l (i + 1) h
theorem drawCode_le (hr : RLe r r') (hs : Sub t t') (ops : Array Oper) (h : Hp) : ULe (drawCode P r ops t h) (drawCode P r' ops t' h):=by
 unfold drawCode
 cases okDraw ops with
 | false => exact trivial
 | true =>
  simp only [cond_true]
  rcases (flo0_le (P:=P) (masks ops) (ops.toList.take (headLen ops)) hs (ops.toList.take (headLen ops)) 0 h).or with e | e
  ·rw [e]; exact trivial
  ·rw [← e]
   cases flo0 P (masks ops) (ops.toList.take (headLen ops)) t (ops.toList.take (headLen ops)) 0 h with
   | none => exact trivial
   | some q => exact tailCode_le hr ops (hdAll_le _ hr ops _ 0 ⟨rfl, rfl, rfl, hs, rfl, rfl⟩)
theorem thenCode_le (hr : RLe r r') (b : Code) {o o' : Out} (hu : ULe o o') : ULe (thenCode r b o) (thenCode r' b o'):=by
 cases o with
 | no => exact trivial
 | ok e t h =>
  obtain ⟨t', rfl, hs⟩:=hu.ok
  cases e with
  | normal => exact hr _ _ _ _ hs
  | exit id => exact ⟨rfl, rfl, hs⟩
  | ret => exact ⟨rfl, rfl, hs⟩
theorem inBlk_le (id : Nat) {o o' : Out} (hu : ULe o o') : ULe (inBlk id o) (inBlk id o'):=by
 cases o with
 | no => exact trivial
 | ok e t h =>
  obtain ⟨t', rfl, hs⟩:=hu.ok
  cases e with
  | normal => exact ⟨rfl, rfl, hs⟩
  | exit j =>
   simp only [inBlk]
   cases Nat.beq j id <;> exact ⟨rfl, rfl, hs⟩
  | ret => exact ⟨rfl, rfl, hs⟩
theorem ifCode_le (hr : RLe r r') (hs : Sub t t') (a b : Code) (h : Hp) {x x' : Option V} (hx : OLe x x') : ULe (ifCode r a b t h x) (ifCode r' a b t' h x'):=by
 rcases hx.or with e | e
 ·subst e; exact trivial
 ·subst e
  unfold ifCode
  split
  ·exact hr _ _ _ _ hs
  ·exact hr _ _ _ _ hs
  ·exact trivial
theorem endRng_le {t t' : Tr V} (hs : Sub t t') {k k' : Hp → Out} (hk : ∀ h, ULe (k h) (k' h)) {o o' : Out} (hu : ULe o o') : ULe (endRng t k o) (endRng t' k' o'):=by
 cases o with
 | no => exact trivial
 | ok e t1 h =>
  obtain ⟨t2, rfl, _⟩:=hu.ok
  cases e with
  | normal => exact hk h
  | exit j => exact ⟨rfl, rfl, hs⟩
  | ret => exact ⟨rfl, rfl, hs⟩
theorem bodyRng_le (hr : RLe r r') (b : Code) {o o' : Out} (hu : ULe o o') : ULe (bodyRng r b o) (bodyRng r' b o'):=by
 cases o with
 | no => exact trivial
 | ok e t1 h =>
  obtain ⟨t2, rfl, hs⟩:=hu.ok
  cases e with
  | normal => exact hr _ _ _ _ hs
  | exit j => exact trivial
  | ret => exact trivial
theorem roundsR_le (hr : RLe r r') (hs : Sub t t') {it : It} {x y : Tmp} {a b : Code} {p : V} : ∀ (n : Nat) (h : Hp), ULe (roundsR it r x y a b t p n h) (roundsR it r' x y a b t' p n h)
 | 0, h => ⟨rfl, rfl, hs⟩
 | n + 1, h => by
  simp only [roundsR]
  cases rowEl it h p n with
  | none => exact trivial
  | some v => exact endRng_le hs (fun h => roundsR_le hr hs n h) (bodyRng_le hr b (hr _ _ _ _ ((hs.set _ _).set _ _)))
theorem rngR_le (hr : RLe r r') (hs : Sub t t') (ps : List Tmp) (a b : Code) (h : Hp) {v v' : Option V} (hv : OLe v v') : ULe (rngR r ps a b t h v) (rngR r' ps a b t' h v'):=by
 rcases hv.or with e | e
 ·subst e; exact trivial
 ·subst e
  unfold rngR
  split
  ·split
   ·unfold rngF
    split
    ·unfold rowsR
     split
     ·rename_i n _
      cases Nat.ble n big with
      | false => exact trivial
      | true => exact roundsR_le hr hs _ h
     ·exact trivial
    ·exact trivial
   ·exact trivial
  ·exact trivial
theorem stepCode_le (hr : RLe r r') (hs : Sub t t') (c : Code) (h : Hp) : ULe (stepCode P r c t h) (stepCode P r' c t' h):=by
 unfold stepCode
 split
 ·exact ⟨rfl, rfl, hs⟩
 ·rename_i ops d
  cases d with
  | false => exact hr _ _ _ _ hs
  | true => exact drawCode_le hr hs ops h
 ·exact thenCode_le hr _ (hr _ _ _ _ hs)
 ·exact ifCode_le hr hs _ _ h (evalO_le hs _)
 ·exact inBlk_le _ (hr _ _ _ _ hs)
 ·exact thenCode_le hr _ (hr _ _ _ _ hs)
 ·exact ⟨rfl, rfl, hs⟩
 ·exact ⟨rfl, rfl, hs⟩
 ·exact hr _ _ _ _ hs
 ·exact ⟨rfl, rfl, hs⟩
 ·exact rngR_le hr hs _ _ _ h (evalO_le hs _)
 ·exact trivial
theorem step_le (hr : RLe r r') : RLe (step P r) (step P r'):=by
 intro k t t' h hs
 cases k with
 | code c => exact stepCode_le hr hs c h
 | ops all l =>
  cases l with
  | nil => exact ⟨rfl, rfl, hs⟩
  | cons o l => exact stepOps_le hr hs all o l h (wantO_le hs all o)
theorem run_le : ∀ n m, RLe (run P n) (run P (n + m))
 | 0, _ => fun _ _ _ _ _ => trivial
 | n + 1, m => by
  have:=step_le (P:=P) (run_le n m)
  rw [show n + 1 + m = (n + m) + 1 from by omega]
  exact this
theorem run_le' {n m : Nat} (h : n ≤ m) : RLe (run P n) (run P m):=by
 have:=run_le (P:=P) n (m - n)
 rwa [show n + (m - n) = m from by omega] at this
end
end Go.Mid
end
