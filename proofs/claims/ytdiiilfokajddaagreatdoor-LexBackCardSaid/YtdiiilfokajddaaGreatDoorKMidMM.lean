/- A range over a function that goes through a row from its end: the round, the whole. -/
import Derived.Test.YtdiiilfokajddaaGreatDoorKMidP
import Derived.Scope
import Derived.RowKit3
import Derived.RangeFuncIn
set_option linter.all false
set_option warn.classDefReducibility false
noncomputable section
section
open Go.RowKit
namespace Go.Mid
section
variable {P : Program} [Orc]
def Res.with (Z : Res) (r : Nat) (O : Obj) : Res:=⟨Z.res, fun x X => Z.pin x X ∨ (x = r ∧ X = O)⟩
def Res.turn (Z : Res) (r : Nat) (O : Obj) : Res:=⟨Z.res, fun x X => (Z.pin x X ∧ x ≠ r) ∨ (x = r ∧ X = O)⟩
def Res.drop (Z : Res) (r : Nat) : Res:=⟨Z.res, fun x X => Z.pin x X ∧ x ≠ r⟩
theorem R.pinNew {Z : Res} {w0 w : World} {h : Hp} {ρ : Rho} (H : @R _ Z P w0 w h ρ) (hw : 0 < w.heap.size) (O : Obj) : @R _ (Z.with w.heap.size O) P w0 (w.alloc O) h ρ:=by
 have hsz : (w.alloc O).heap.size = w.heap.size + 1:=by simp
 refine @R.mk _ (Z.with w.heap.size O) P _ _ _ _ ((@R.below _ Z P _ _ _ _ H).alloc (@R.below _ Z P _ _ _ _ H).size O) (fun b l hb => ?_) (fun b l o hb ho => ?_) (@R.inj _ Z P _ _ _ _ H) (@R.fresh _ Z P _ _ _ _ H) (@R.glob _ Z P _ _ _ _ H) (@R.base _ Z P _ _ _ _ H) (@R.rs _ Z P _ _ _ _ H) (fun x X hx => ?_)
 ·obtain ⟨h1, h2, h3⟩ := @R.bnd _ Z P _ _ _ _ H b l hb
  exact ⟨h1, h2, h3.imp id fun h => by rw [hsz]; omega⟩
 ·have hl := @R.live _ Z P _ _ _ _ H b l o hb ho
  by_cases hd : o = .dead
  ·subst hd; trivial
  ·have := @R.lt P _ Z _ _ _ _ H b l hb ⟨o, ho, hd⟩
   exact hl.keep (Ext.refl _) (heap_alloc_old w O _ this)
 ·rcases hx with hx | ⟨rfl, rfl⟩
  ·obtain ⟨h1, h2, h3⟩ := @R.pn _ Z P _ _ _ _ H x X hx
   exact ⟨by rw [heap_alloc_old w O _ (Array.getElem?_eq_some_iff.1 h1).1]; exact h1, h2, h3⟩
  ·refine ⟨World.alloc_heap_new w _, (@R.below _ Z P _ _ _ _ H).size, fun b l hb => ?_⟩
   obtain ⟨_, _, h3⟩:=@R.bnd _ Z P _ _ _ _ H b l hb
   omega
theorem R.repin {Z : Res} {w0 w : World} {h : Hp} {ρ : Rho} (H : @R _ Z P w0 w h ρ) {r : Nat} {O : Obj} (hr : Z.pin r O) (O' : Obj) : @R _ (Z.turn r O') P w0 (w.putObj r O') h ρ:=by
 obtain ⟨h1, h2, hne⟩:=@R.pn _ Z P _ _ _ _ H r O hr
 have hlt : r < w.heap.size:=(Array.getElem?_eq_some_iff.1 h1).1
 have hw : ∀ j, j ≠ r → (w.putObj r O').heap[j]? = w.heap[j]?:=fun j hj => World.putObj_heap_other hj
 have hB : Below w0.heap.size w (w.putObj r O'):=⟨rfl, rfl, rfl, by simp, fun k hk => hw k (by omega)⟩
 have H2 : @R _ (Z.drop r) P w0 (w.putObj r O') h ρ:=R.shut H hr hB (by simp) hw (fun _ h => h) fun _ _ h => h
 refine @R.mk _ (Z.turn r O') P _ _ _ _ (@R.below _ (Z.drop r) P _ _ _ _ H2) (@R.bnd _ (Z.drop r) P _ _ _ _ H2) (@R.live _ (Z.drop r) P _ _ _ _ H2) (@R.inj _ (Z.drop r) P _ _ _ _ H2) (@R.fresh _ (Z.drop r) P _ _ _ _ H2) (@R.glob _ (Z.drop r) P _ _ _ _ H2) (@R.base _ (Z.drop r) P _ _ _ _ H2) (@R.rs _ (Z.drop r) P _ _ _ _ H2) (fun x X hx => ?_)
 rcases hx with hx | ⟨rfl, rfl⟩
 ·exact @R.pn _ (Z.drop r) P _ _ _ _ H2 x X hx
 ·exact ⟨World.putObj_heap_same hlt, h2, hne⟩
def opsV (P : Program) [Orc] (h : Hp) : List DOp → Tr V → Option (Tr V)
 | [], t => some t
 | x :: l, t => match execC P t h x.2 with
  | some (v, _) => opsV P h l (putO t x.1 v)
  | none => none
def isDefer : Op → Bool
 | .defer _ => true
 | _ => false
def looksB (n : Nat) (x : DOp) : Bool := (!makesC x.2) && !(isDefer x.2) && (match x.1 with
 | some d => decide (d < n)
 | none => false)
theorem okOps.get {a : Array Oper} {l : List DOp} (h : okOps a l) {j : Nat} {x : DOp} (hj : l[j]? = some x) : ∃ o, a[j]? = some o ∧ o.dst = x.1 ∧ o.op = x.2 ∧ o.guard = none:=by
 have:=congrArg (·[j]?) h
 simp only [List.getElem?_map, hj, Option.map_some, Array.getElem?_toList] at this
 cases ha : a[j]? with
 | none => rw [ha] at this; cases this
 | some o =>
  rw [ha] at this
  simp only [Option.map_some, Option.some.injEq, Prod.mk.injEq] at this
  exact ⟨o, rfl, this⟩
theorem okOps.size {a : Array Oper} {l : List DOp} (h : okOps a l) : a.size = l.length:=by
 have:=congrArg List.length h
 simpa using this
theorem want_none {o : Oper} {all : Array Oper} {ts : Array Value} (h : o.guard = none) : Region.wanted o (yielded all ts) = true:=by
 unfold Region.wanted; rw [h]
theorem opsV_sim {r : Option Nat} {ρ : Rho} {w : World} {h : Hp} (H : Live P ρ w h) (hG : Glob ρ) {all : Array Oper} {Q : Exit → Act → World → Prop} {rest : List Nat} :
 ∀ (l : List DOp) (k : Nat) (a : Act) (t t' : Tr V), (l.all (looksB a.tmps.size) = true) → (∀ j x, l[j]? = some x → ∃ o, all[k + j]? = some o ∧ o.dst = x.1 ∧ o.op = x.2 ∧ o.guard = none) → opsV P h l t = some t' → TR ρ t a →
  (∀ a' : Act, TR ρ t' a' → a'.defers = a.defers → a'.tmps.size = a.tmps.size → (∀ i, (∀ x ∈ l, x.1 ≠ some i) → a'.tmps.getD i undef = a.tmps.getD i undef) → wpOpsIn (Fw r) 0 P all Q rest a' w) →
  wpOpsIn (Fw r) 0 P all Q (List.range' k l.length ++ rest) a w
 | [], k, a, t, t', _, _, he, ht, hQ => by
  simp only [opsV, Option.some.injEq] at he; subst he
  exact hQ a ht rfl rfl (fun _ _ => rfl)
 | x :: l, k, a, t, t', hl, hok, he, ht, hQ => by
  obtain ⟨o, h1, h2, h3, h4⟩:=hok 0 x rfl
  simp only [List.all_cons, Bool.and_eq_true] at hl
  obtain ⟨hx, hl⟩:=hl
  simp only [opsV] at he
  cases hv : execC P t h x.2 with
  | none => rw [hv] at he; cases he
  | some p =>
   obtain ⟨v, h'⟩:=p
   rw [hv] at he
   simp only at he
   unfold looksB at hx
   simp only [Bool.and_eq_true, Bool.not_eq_true'] at hx
   obtain ⟨⟨hm, hd⟩, hdst⟩:=hx
   cases hx1 : x.1 with
   | none => rw [hx1] at hdst; cases hdst
   | some d =>
    rw [hx1] at hdst he
    have hdlt : d < a.tmps.size:=of_decide_eq_true hdst
    obtain ⟨rfl, u, hu1, hu2⟩:=read_simC (o:=o) H (TR.op hG ht _) (by rw [h3]; exact hm) (by rw [h3]; exact hv)
    have hr' : List.range' k (x :: l).length = k :: List.range' (k + 1) l.length:=by simp [List.range'_succ]
    rw [hr', List.cons_append, wpOpsIn_cons]
    unfold wpOpIn
    simp only [Nat.add_zero] at h1
    simp only [h1]
    rw [if_pos (want_none h4)]
    unfold Oper.wpIn
    refine ⟨fun _ _ => trivial, ?_⟩
    rw [Oper.semAt_eq _ _ _ (fun c hc => by rw [h3] at hc; rw [hc] at hd; cases hd), hu1, Oper.uponIn_value, h2, hx1]
    refine opsV_sim H hG l (k + 1) (a.put (some d) u) _ t' (by rw [put_size]; exact hl) (fun j y hj => by
     obtain ⟨o', k1, k2⟩:=hok (j + 1) y (by simpa using hj)
     exact ⟨o', by rw [show k + 1 + j = k + (j + 1) by omega]; exact k1, k2⟩) he (ht.put hu2 (some d) fun i hi => by cases hi; exact hdlt) fun a' k1 k2 k3 k4 => hQ a' k1 (by rw [k2, put_defers]) (by rw [k3, put_size]) fun i hi => ?_
    rw [k4 i fun y hy => hi y (List.mem_cons_of_mem _ hy), put_getD a d u i hdlt, if_neg]
    intro e
    exact hi x List.mem_cons_self (by rw [hx1, e])
def tI (p i : V) : Tr V:=(Tr.nil.set 1 p).set 3 i
def iv (k : Nat) : V:=.int .i64 ((k : Int) - 1)
theorem loadV_one {h : Hp} {ty : TypeId} {b o : Nat} {v : V} (ha : aggT P ty = some false) (hv : ldB false 1 h b o = some v) : loadV P h ty b o = some v:=by
 unfold ldB at hv
 unfold loadV
 cases hc : cellsT (h.t.get b) with
 | none => rw [hc] at hv; cases hv
 | some c => rw [hc] at hv; rw [ha]; exact hv
theorem loadV_ld {h : Hp} {ty : TypeId} {b o s : Nat} {ag : Bool} {v : V} (ha : aggT P ty = some ag) (hs : sz P ty = some s) (hv : ldB ag s h b o = some v) : loadV P h ty b o = some v:=by
 unfold ldB at hv
 unfold loadV
 cases hc : cellsT (h.t.get b) with
 | none => rw [hc] at hv; cases hv
 | some c =>
  rw [hc] at hv; rw [ha]
  cases ag with
  | false => exact hv
  | true => simp only [cond_true] at hv; rw [hs]; exact hv
theorem rowAt_some {h : Hp} {p v : V} (hr : rowAt h p = some v) : ∃ b o, p = .ptr b o ∧ ldB false 1 h b o = some v:=by
 unfold rowAt at hr
 split at hr
 ·exact ⟨_, _, rfl, hr⟩
 ·cases hr
variable {g : FuncId} {it : It}
theorem fwrap_ok {n : Nat} (hn : n ≤ 9223372036854775807) : fwrap .i64 ((n : Int) - 1) = (n : Int) - 1:=by
 cases n with
 | zero => rfl
 | succ m =>
  have e : ((m + 1 : Nat) : Int) - 1 = Int.ofNat m:=by simp
  rw [e]
  unfold fwrap
  have : Nat.ble m (kTop .i64) = true:=Nat.ble_eq_true_of_le (by show m ≤ 9223372036854775807; omega)
  simp only [this, cond_true]
theorem aggS (hI : It.Ok P g it) : aggT P it.ts = some false:=by unfold aggT; rw [hI.ts]
theorem lenAt {h : Hp} (hI : It.Ok P g it) {v : V} {n : Nat} (hn : rowLenV (some v) = some n) : exLen P h (some [v]) [it.ts] = some (.int .i64 (.ofNat n), h):=by
 unfold exLen
 simp only [hI.ts]
 cases v <;> simp only [rowLenV, reduceCtorEq, Option.some.injEq] at hn <;> subst hn <;> rfl
theorem opsV_nil (h : Hp) (t : Tr V) : opsV P h [] t = some t:=rfl
theorem opsV_step {h h' : Hp} {d : Tmp} {o : Op} {l : List DOp} {t t' : Tr V} {v : V} (h1 : execC P t h o = some (v, h')) (h2 : opsV P h l (t.set d v) = some t') : opsV P h ((some d, o) :: l) t = some t':=by
 simp only [opsV, h1]; exact h2
theorem ops0_val {h : Hp} (hI : It.Ok P g it) {p : V} {n : Nat} (hn : rowLen h p = some n) (hb : n ≤ 9223372036854775807) : ∃ t', opsV P h it.ops0 (Tr.nil.set 1 p) = some t' ∧ t'.get 1 = some p ∧ t'.get 3 = some (iv n):=by
 unfold rowLen at hn
 cases hv : rowAt h p with
 | none => rw [hv] at hn; cases hn
 | some v =>
  rw [hv] at hn
  obtain ⟨b, o, rfl, hl⟩:=rowAt_some hv
  have e1:=loadV_one (aggS hI) hl
  refine ⟨_, opsV_step (v:=v) (h':=h) ?_ (opsV_step (v:=.int .i64 (.ofNat n)) (h':=h) ?_ (opsV_step (v:=iv n) (h':=h) ?_ (opsV_step (v:=iv n) (h':=h) ?_ (opsV_nil h _)))), ?_, ?_⟩
  ·simp only [execC, evalO, Tr.get_set, if_true, exLoad, e1, vh]
  ·simp only [execC, exCall, exBuiltin, evalL, evalO, Tr.get_set, if_true]
   exact lenAt hI hn
  ·have := fwrap_ok hb
   simp only [execC, evalO, Tr.get_set, if_true, hI.ti, exBin, absV, binV, shiftB, show kEq .i64 .i64 = true from rfl, cond_false, cond_true, intOp, opSub, opGeq, subF_eq, vh, Int.ofNat_eq_natCast, this, iv]
  ·simp only [execC, evalO, Tr.get_set, if_true, vh]
  ·simp [Tr.get_set, Tr.get_nil]
  ·simp [Tr.get_set]
theorem ops1_val {h : Hp} (hI : It.Ok P g it) {p : V} (k : Nat) : ∃ t', opsV P h it.ops1 (tI p (iv k)) = some t' ∧ t'.get 1 = some p ∧ t'.get 3 = some (iv k) ∧ t'.get 8 = some (.bool (Nat.blt 0 k)):=by
 refine ⟨_, opsV_step (v:=iv k) (h':=h) ?_ (opsV_step (v:=.bool (Nat.blt 0 k)) (h':=h) ?_ (opsV_nil h _)), ?_, ?_, ?_⟩
 ·simp only [execC, evalO, tI, Tr.get_set, if_true, vh]
 ·have : iLt ((k : Int) - 1) 0 = !(Nat.blt 0 k):=by
   cases k with
   | zero => rfl
   | succ m =>
    have e : ((m + 1 : Nat) : Int) - 1 = Int.ofNat m:=by simp
    rw [e]; rfl
  simp only [execC, evalO, Tr.get_set, if_true, hI.ti, exBin, absV, iv, binV, shiftB, show kEq .i64 .i64 = true from rfl, cond_false, cond_true, intOp, opSub, opGeq, subF_eq, vh, this, Bool.not_not]
 ·simp [tI, Tr.get_set, Tr.get_nil]
 ·simp [tI, Tr.get_set]
 ·simp [Tr.get_set]
theorem ops3_val {h : Hp} (hI : It.Ok P g it) {p x : V} {i : Nat} (hx : rowEl it h p i = some x) : ∃ t', opsV P h it.ops3 (tI p (iv (i + 1))) = some t' ∧ t'.get 1 = some p ∧ t'.get 3 = some (iv (i + 1)) ∧ t'.get 12 = some (.int .i64 (.ofNat i)) ∧ t'.get 16 = some x:=by
 have e : iv (i + 1) = .int .i64 (.ofNat i):=by
  unfold iv
  have : ((i + 1 : Nat) : Int) - 1 = Int.ofNat i:=by simp
  rw [this]
 unfold rowEl at hx
 cases hv : rowAt h p with
 | none => rw [hv] at hx; cases hx
 | some v =>
  rw [hv] at hx
  obtain ⟨b, o, rfl, hl⟩:=rowAt_some hv
  have e1:=loadV_one (aggS hI) hl
  cases v <;> simp only [rowElV, reduceCtorEq] at hx
  rename_i b' o' n' c' gr
  cases hlt : Nat.blt i n' with
  | false => rw [hlt] at hx; cases hx
  | true =>
   rw [hlt] at hx
   simp only [cond_true] at hx
   have e2:=loadV_ld hI.ag hI.sz hx
   refine ⟨_, opsV_step (v:=iv (i + 1)) (h':=h) ?_ (opsV_step (v:=.slice b' o' n' c' gr) (h':=h) ?_ (opsV_step (v:=iv (i + 1)) (h':=h) ?_ (opsV_step (v:=.ptr b' (o' + i * it.s)) (h':=h) ?_ (opsV_step (v:=x) (h':=h) ?_ (opsV_nil h _))))), ?_, ?_, ?_, ?_⟩
   ·simp only [execC, evalO, tI, Tr.get_set, if_true, vh]
   ·simp [execC, evalO, tI, Tr.get_set, exLoad, e1, vh]
   ·simp [execC, evalO, tI, Tr.get_set, vh]
   ·simp [execC, evalO, tI, Tr.get_set, exIndexAddr, e, natA, natV, hI.ts, hI.sz, hlt]
   ·simp only [execC, evalO, Tr.get_set, if_true, exLoad, e2, vh]
   ·simp [tI, Tr.get_set, Tr.get_nil]
   ·simp [tI, Tr.get_set]
   ·simp [tI, Tr.get_set, e]
   ·simp [Tr.get_set]
theorem ops2_val {h : Hp} (hI : It.Ok P g it) {p : V} {i : Nat} (hb : i ≤ 9223372036854775807) : ∃ t', opsV P h it.ops2 (tI p (iv (i + 1))) = some t' ∧ t'.get 1 = some p ∧ t'.get 3 = some (iv i):=by
 have e : iv (i + 1) = .int .i64 (.ofNat i):=by
  unfold iv
  have : ((i + 1 : Nat) : Int) - 1 = Int.ofNat i:=by simp
  rw [this]
 refine ⟨_, opsV_step (v:=iv (i + 1)) (h':=h) ?_ (opsV_step (v:=iv i) (h':=h) ?_ (opsV_step (v:=iv i) (h':=h) ?_ (opsV_nil h _))), ?_, ?_⟩
 ·simp only [execC, evalO, tI, Tr.get_set, if_true, vh]
 ·have := fwrap_ok hb
  rw [e]
  simp only [execC, evalO, Tr.get_set, if_true, hI.ti, exBin, absV, binV, shiftB, show kEq .i64 .i64 = true from rfl, cond_false, cond_true, intOp, opSub, opGeq, subF_eq, vh, Int.ofNat_eq_natCast, this, iv]
 ·simp only [execC, evalO, Tr.get_set, if_true, vh]
 ·simp [tI, Tr.get_set, Tr.get_nil]
 ·simp [Tr.get_set]
theorem TR.two {ρ : Rho} {t : Tr V} {a : Act} {p i : V} (h : TR ρ t a) (h1 : t.get 1 = some p) (h3 : t.get 3 = some i) : TR ρ (tI p i) a:=by
 intro j v hv
 unfold tI at hv
 rw [Tr.get_set] at hv
 split at hv
 ·rename_i e; subst e; cases hv; exact h 3 _ h3
 ·rw [Tr.get_set] at hv
  split at hv
  ·rename_i e; subst e; cases hv; exact h 1 _ h1
  ·rw [Tr.get_nil] at hv; cases hv
theorem run_move {o : Oper} {x : Operand} (h : o.op = .move x) (a : Act) (w : World) : (execOp a.eval o).run P w = .ok (.value (a.eval x)) w:=by
 unfold execOp; rw [h]; rfl
theorem run_yieldOp {o : Oper} {tys : Array TypeId} (h : o.op = .call ⟨.value (.tmp 11), #[.tmp 12, .tmp 16], tys⟩) {a : Act} {l : Nat} {w : World} (h11 : a.tmps.getD 11 undef = .func (.yield l) #[] #[]) {r : Loop} (hl : w.heap[l]? = some (.loop r)) {x y : Tmp} (hs : r.params = #[x, y]) :
 (execOp a.eval o).run P w = .ok (.round l r.fn ((r.tmps.setIfInBounds x (a.tmps.getD 12 undef)).setIfInBounds y (a.tmps.getD 16 undef)) r.assign r.body) w:=by
 unfold execOp; rw [h]
 have e11 : a.eval (.tmp 11) = .func (.yield l) #[] #[]:=h11
 have em : (#[Operand.tmp 12, Operand.tmp 16] : Array Operand).map a.eval = #[a.tmps.getD 12 undef, a.tmps.getD 16 undef]:=by
  apply Array.ext'
  simp only [Array.toList_map, List.map]
  rfl
 have:=run_yield (P:=P) (args:=#[a.tmps.getD 12 undef, a.tmps.getD 16 undef]) hl (by rw [hs]; rfl)
 rw [hs] at this
 simp only [resolve, e11, Deferred.ofValue, pure_bind, invoke, em]
 simpa using this
def pendR : Ex → Option Code
 | .normal => none
 | .exit id => some (.exit id)
 | .ret => some .ret
def stOf : Ex → LoopState
 | .normal => .ready
 | _ => .done
def recOf (fn : FuncId) (tm : Array Value) (x y : Tmp) (A B : Code) (D : Nat) (st : LoopState) (pe : Option Code) : Loop:={ state:=st, pending:=pe, fn, tmps:=tm, params:=#[x, y], assign:=A, body:=B, defers:=D }
structure ItAct (ρ : Rho) (l : Nat) (p i : V) (a : Act) : Prop where
 sz : a.tmps.size = 19
 df : a.defers = []
 y : a.tmps.getD 0 undef = .func (.yield l) #[] #[]
 tr : TR ρ (tI p i) a
def RngEnd (P : Program) (Z : Res) (w0 : World) (h' : Hp) (ρ : Rho) (D l : Nat) (rc : LoopState → Option Code → Loop) (e : Ex) (w : World) : Prop :=
 ∃ ρ' Z', Ext ρ ρ' ∧ Res.le Z Z' ∧ Z'.pin D (.deferred (some [])) ∧ Z'.pin l (.loop (rc (stOf e) (pendR e))) ∧ @R _ Z' P w0 w h' ρ'
theorem Res.le.turn {Z Z1 : Res} (h : Res.le Z Z1) {l : Nat} (hl : ∀ O, ¬ Z.pin l O) (O : Obj) : Res.le Z (Z1.turn l O) :=
 ⟨h.res, fun r X hx => .inl ⟨h.pin r X hx, fun e => by subst e; exact hl _ hx⟩⟩
theorem Mk.none {Z Z' : Res} {ds : List Deferred} (h : Mk noRes Z ds) (hp : ∀ r, Z.pin r (.deferred (some [])) → Z'.pin r (.deferred (some []))) : Mk noRes Z' ds :=
 ⟨⟨fun _ h => h.elim, fun _ _ h => h.elim⟩, fun d hd => let ⟨r, a, b, c⟩:=h.mks d hd; ⟨r, a, hp r b, c⟩, h.nd⟩
theorem set_getD (t : Array Value) (d : Nat) (x : Value) (i : Nat) (hd : d < t.size) : (t.setIfInBounds d x).getD i undef = if d = i then x else t.getD i undef:=by
 simp only [Array.getD_eq_getD_getElem?, Array.getElem?_setIfInBounds]
 by_cases h : d = i
 ·subst h; simp [hd]
 ·simp [h]
theorem TR.setD {ρ : Rho} {t : Tr V} {tm : Array Value} {ds : List Deferred} (h : TR ρ t ⟨tm, ds⟩) {v : V} {x : Value} (hv : Rel ρ v x) {d : Nat} (hd : d < tm.size) : TR ρ (t.set d v) ⟨tm.setIfInBounds d x, ds⟩:=by
 intro i u hu
 have:=set_getD tm d x i hd
 show Rel ρ u ((tm.setIfInBounds d x).getD i undef)
 rw [this]
 rw [Tr.get_set] at hu
 split at hu
 ·cases hu; rw [if_pos (by assumption)]; exact hv
 ·rw [if_neg (by assumption)]; exact h i u hu
variable [OrcOk P]
theorem round_sim {n : Nat} (IH : CodeIH P n) {w0 : World} {D l : Nat} {fn : FuncId} {tm : Array Value} {x y : Tmp} {A B : Code} {t : Tr V} {Z : Res} {ρ0 : Rho}
 (htO : TR ρ0 t ⟨tm, []⟩) (hx : x < tm.size) (hy : y < tm.size) (hA : okCode tm.size A = true) (hB : okCode tm.size B = true) (hAn : noRng A = true) (hBn : noRng B = true) (hlZ : ∀ O, ¬ Z.pin l O)
 {i : Nat} {v : V} {h : Hp} {k : Hp → Out} {e : Ex} {t' : Tr V} {h' : Hp} (he : roundR (run P n) x y A B t i h k (some v) = .ok e t' h')
 {ρ : Rho} {Z1 : Res} {w : World} (hρ : Ext ρ0 ρ) (hle : Res.le Z Z1) (hD : Z1.pin D (.deferred (some []))) (hl : Z1.pin l (.loop (recOf fn tm x y A B D .ready none))) (H : @R _ Z1 P w0 w h ρ) {u : Value} (hu : Rel ρ v u) {R' : Ending → World → Prop}
 (hn : ∀ h2 w2 ρ2 Z2, k h2 = .ok e t' h' → Ext ρ ρ2 → Res.le Z Z2 → Z2.pin D (.deferred (some [])) → Z2.pin l (.loop (recOf fn tm x y A B D .ready none)) → @R _ Z2 P w0 w2 h2 ρ2 → R' (.returned (.bool true)) w2)
 (hs : ∀ w2, e ≠ .normal → RngEnd P Z w0 h' ρ D l (recOf fn tm x y A B D) e w2 → R' (.returned (.bool false)) w2) :
 RoundIn (Fw none) 0 P l fn ((tm.setIfInBounds x (.int .i64 (.ofNat i))).setIfInBounds y u) A B w R':=by
 have hDl : D ≠ l := fun e => by
  subst e
  have h1:=(@R.pn _ Z1 P _ _ _ _ H _ _ hD).1
  rw [(@R.pn _ Z1 P _ _ _ _ H _ _ hl).1] at h1; cases h1
 simp only [roundR] at he
 cases h1 : run P n (.code A) ((t.set x (.int .i64 (.ofNat i))).set y v) h with
 | no => rw [h1] at he; simp [bodyRng, endRng] at he
 | ok e1 t1 k1 =>
  rw [h1] at he
  cases e1 with
  | exit id => simp [bodyRng, endRng] at he
  | ret => simp [bodyRng, endRng] at he
  | normal =>
   simp only [bodyRng] at he
   have hsz : ((tm.setIfInBounds x (.int .i64 (.ofNat i))).setIfInBounds y u).size = tm.size:=by simp
   have ht1 : TR ρ ((t.set x (.int .i64 (.ofNat i))).set y v) ⟨(tm.setIfInBounds x (.int .i64 (.ofNat i))).setIfInBounds y u, []⟩:=((htO.ext hρ).setD (.int .i64 _) hx).setD hu (by simpa using hy)
   refine roundIn_of_wpIn trivial ?_
   have WA:=(IH A _ _ _ _ _ h1 (some l) noRes Z1 w0 ⟨(tm.setIfInBounds x (.int .i64 (.ofNat i))).setIfInBounds y u, []⟩ w ρ ht1 H ⟨⟨fun _ h => h.elim, fun _ _ h => h.elim⟩, fun _ h => (by cases h), List.nodup_nil⟩ (by rw [hsz]; exact hA) (.inr hAn)).1
   refine wpIn_mono WA ?_
   rintro ex a1 w1 ⟨rfl, ρ1, Z2, S1⟩
   have p1:=@R.pn _ Z2 P _ _ _ _ S1.rr _ _ (S1.le.pin _ _ hl)
   refine ⟨_, run_beginRound p1.1 rfl, ?_⟩
   have H2:=R.repin S1.rr (S1.le.pin _ _ hl) (.loop { recOf fn tm x y A B D .ready none with state:=.busy })
   cases h2 : run P n (.code B) t1 k1 with
   | no => rw [h2] at he; simp [endRng] at he
   | ok e2 t2 k2 =>
    rw [h2] at he
    have hsz1 : a1.tmps.size = tm.size:=by rw [S1.sz]; exact hsz
    have hmk : Mk noRes (Z2.turn l (.loop { recOf fn tm x y A B D .ready none with state := .busy })) a1.defers := S1.df.none fun r hr => .inl ⟨hr, fun e => by
     subst e
     have:=(@R.pn _ Z2 P _ _ _ _ S1.rr _ _ hr).1
     rw [p1.1] at this; cases this⟩
    have WB:=(IH B _ _ _ _ _ h2 (some l) noRes _ w0 a1 _ ρ1 S1.tr H2 hmk (by rw [hsz1]; exact hB) (.inr hBn)).1
    refine wpIn_mono WB ?_
    rintro ex a2 w2 ⟨rfl, ρ2, Z3, S2⟩
    have hl3 : Z3.pin l (.loop { recOf fn tm x y A B D .ready none with state:=.busy }):=S2.le.pin _ _ (.inr ⟨rfl, rfl⟩)
    have p2:=@R.pn _ Z3 P _ _ _ _ S2.rr _ _ hl3
    have hD3 : Z3.pin D (.deferred (some [])):=S2.le.pin _ _ (.inl ⟨S1.le.pin _ _ hD, hDl⟩)
    have hle3 : Res.le Z Z3:=((hle.trans S1.le).turn hlZ _).trans S2.le
    have hend:=fun j => run_endRound (P:=P) j p2.1
    have H3:=fun O => R.repin S2.rr hl3 O
    cases e2 with
    | normal =>
     simp only [endRng] at he
     exact ⟨_, _, hend none, hn _ _ _ _ he (S1.ext.trans S2.ext) (hle3.turn hlZ _) (.inl ⟨hD3, hDl⟩) (.inr ⟨rfl, rfl⟩) (H3 _)⟩
    | exit id =>
     simp only [endRng, Out.ok.injEq] at he
     obtain ⟨rfl, rfl, rfl⟩:=he
     exact ⟨_, _, hend (some (.exit id)), hs _ (by simp) ⟨ρ2, _, S1.ext.trans S2.ext, hle3.turn hlZ _, .inl ⟨hD3, hDl⟩, .inr ⟨rfl, rfl⟩, H3 _⟩⟩
    | ret =>
     simp only [endRng, Out.ok.injEq] at he
     obtain ⟨rfl, rfl, rfl⟩:=he
     exact ⟨_, _, hend (some .ret), hs _ (by simp) ⟨ρ2, _, S1.ext.trans S2.ext, hle3.turn hlZ _, .inl ⟨hD3, hDl⟩, .inr ⟨rfl, rfl⟩, H3 _⟩⟩
omit [Orc] [OrcOk P] in
theorem TR.of_eq {ρ : Rho} {t : Tr V} {a a' : Act} (h : TR ρ t a) (he : ∀ i v, t.get i = some v → a'.tmps.getD i undef = a.tmps.getD i undef) : TR ρ t a' := fun i v hv => by
 rw [he i v hv]; exact h i v hv
omit [Orc] [OrcOk P] in
theorem tI_get {p i v : V} {j : Nat} (h : (tI p i).get j = some v) : j = 1 ∨ j = 3:=by
 unfold tI at h
 rw [Tr.get_set] at h
 split at h
 ·exact .inr (by omega)
 ·rw [Tr.get_set] at h
  split at h
  ·exact .inl (by omega)
  ·rw [Tr.get_nil] at h; cases h
omit [Orc] [OrcOk P] in
theorem put_ne (a : Act) (d : Nat) (x : Value) (i : Nat) (hi : d ≠ i) : (a.put (some d) x).tmps.getD i undef = a.tmps.getD i undef:=by
 simp only [Act.put, Array.getD_eq_getD_getElem?, Array.getElem?_setIfInBounds]
 rw [if_neg hi]
omit [Orc] [OrcOk P] in
theorem rel_bool {ρ : Rho} {b : Bool} {x : Value} (h : Rel ρ (.bool b) x) : x = .bool b:=by cases h; rfl
omit [Orc] [OrcOk P] in
theorem rel_int {ρ : Rho} {k : IntKind} {n : Int} {x : Value} (h : Rel ρ (.int k n) x) : x = .int k n:=by cases h; rfl
theorem rounds_sim {n : Nat} (IH : CodeIH P n) {w0 : World} {D l : Nat} {fn : FuncId} {tm : Array Value} {x y : Tmp} {A B : Code} {t : Tr V} {p : V} {Z : Res} {ρ0 : Rho}
 (htO : TR ρ0 t ⟨tm, []⟩) (hx : x < tm.size) (hy : y < tm.size) (hA : okCode tm.size A = true) (hB : okCode tm.size B = true) (hAn : noRng A = true) (hBn : noRng B = true) (hlZ : ∀ O, ¬ Z.pin l O)
 (hI : It.Ok P g it) {a1 a3 a2 : Array Oper} {r1 r3 r2 b0 b1 : Nat} {tys : Array TypeId} (o1 : okOps a1 it.ops1)
 (o3 : okOps a3 ((some 11, .move (.tmp 0)) :: it.ops3 ++ [(some 17, .call ⟨.value (.tmp 11), #[.tmp 12, .tmp 16], tys⟩), (some 18, .unOp .not it.tb (.tmp 17))])) (o2 : okOps a2 it.ops2) {e : Ex} {t' : Tr V} {h' : Hp} :
 ∀ (k : Nat), k ≤ 9223372036854775807 → ∀ (h : Hp), roundsR it (run P n) x y A B t p k h = .ok e t' h' → ∀ (ρ : Rho) (Z1 : Res) (ai : Act) (w : World), Ext ρ0 ρ → ItAct ρ l p (iv k) ai → Res.le Z Z1 → Z1.pin D (.deferred (some [])) →
  Z1.pin l (.loop (recOf fn tm x y A B D .ready none)) → @R _ Z1 P w0 w h ρ →
  Code.roundsIn (Fw none) 0 P (.seq (.seq (.region r1 a1 false) (.cond (.tmp 8) .skip (.exit b0))) (.seq (.block b1 (.seq (.region r3 a3 false) (.cond (.tmp 18) .ret .skip))) (.region r2 a2 false)))
   (fun ex ai' w' => ((ex = .exit b0 ∧ e = .normal) ∨ (ex = .ret ∧ e ≠ .normal)) ∧ ai'.defers = [] ∧ RngEnd P Z w0 h' ρ0 D l (recOf fn tm x y A B D) e w') (k + 1) ai w:=by
 intro k
 induction k with
 | zero =>
  intro _ h he ρ Z1 ai w hρ hact hle hD hl H
  simp only [roundsR, Out.ok.injEq] at he
  obtain ⟨rfl, rfl, rfl⟩:=he
  obtain ⟨t1, hv, g1, g3, g8⟩:=ops1_val (P:=P) (h:=h) hI (p:=p) 0
  rw [roundsIn_succ]
  refine wpIn_seq (wpIn_seq (wpIn_region ?_))
  rw [o1.size, List.range_eq_range', ← List.append_nil (List.range' 0 _)]
  refine opsV_sim (@R.live _ Z1 P _ _ _ _ H) (@R.glob _ Z1 P _ _ _ _ H) it.ops1 0 ai _ t1 (by rw [hact.sz]; rfl) (fun j x hj => by simpa using o1.get hj) hv hact.tr fun a' k1 k2 k3 k4 => ?_
  refine wpIn_cond_false (rel_bool (k1 8 _ g8)) (wpIn_exit ?_)
  exact ⟨.inl ⟨rfl, rfl⟩, by rw [k2]; exact hact.df, ρ, Z1, hρ, hle, hD, hl, H⟩
 | succ i ih =>
  intro hk h he ρ Z1 ai w hρ hact hle hD hl H
  obtain ⟨t1, hv, g1, g3, g8⟩:=ops1_val (P:=P) (h:=h) hI (p:=p) (i + 1)
  rw [roundsIn_succ]
  refine wpIn_seq (wpIn_seq (wpIn_region ?_))
  rw [o1.size, List.range_eq_range', ← List.append_nil (List.range' 0 _)]
  refine opsV_sim (@R.live _ Z1 P _ _ _ _ H) (@R.glob _ Z1 P _ _ _ _ H) it.ops1 0 ai _ t1 (by rw [hact.sz]; rfl) (fun j x hj => by simpa using o1.get hj) hv hact.tr fun a' k1 k2 k3 k4 => ?_
  refine wpIn_cond_true (rel_bool (k1 8 _ g8)) (wpIn_skip ?_)
  refine wpIn_seq (wpIn_block (wpIn_seq (wpIn_region ?_)))
  simp only [roundsR] at he
  cases hel : rowEl it h p i with
  | none => rw [hel] at he; cases he
  | some v =>
   rw [hel] at he
   have hr8 : List.range a3.size = 0 :: (List.range' 1 it.ops3.length ++ [6, 7]):=by rw [o3.size]; rfl
   have ha'y : a'.tmps.getD 0 undef = .func (.yield l) #[] #[]:=by
    rw [k4 0 (fun x hx => by simp [It.ops1] at hx; rcases hx with rfl | rfl <;> simp)]; exact hact.y
   have hsz' : a'.tmps.size = 19:=by rw [k3]; exact hact.sz
   obtain ⟨o, ho, hd, hop, hg⟩:=o3.get (j:=0) rfl
   rw [hr8, wpOpsIn_cons]
   unfold wpOpIn
   simp only [ho]
   rw [if_pos (want_none hg)]
   unfold Oper.wpIn
   refine ⟨fun _ _ => trivial, ?_⟩
   rw [Oper.semAt_eq _ _ _ (fun c hc => by rw [hop] at hc; cases hc), run_move hop, Oper.uponIn_value, hd]
   obtain ⟨t3, hv3, q1, q3, q12, q16⟩:=ops3_val (P:=P) hI hel
   have hT : TR ρ (tI p (iv (i + 1))) (a'.put (some 11) (a'.eval (.tmp 0))):=(k1.two g1 g3).of_eq fun j u hj => put_ne _ _ _ _ (by rcases tI_get hj with rfl | rfl <;> decide)
   refine opsV_sim (@R.live _ Z1 P _ _ _ _ H) (@R.glob _ Z1 P _ _ _ _ H) it.ops3 1 _ _ t3 (by rw [put_size, hsz']; rfl) (fun j x hj => by
    obtain ⟨o', h1, h2⟩ := o3.get (j := j + 1) (x := x) (by
     simp only [List.cons_append, List.getElem?_cons_succ]
     rw [List.getElem?_append_left (List.getElem?_eq_some_iff.1 hj).1]; exact hj)
    exact ⟨o', by rw [Nat.add_comm]; exact h1, h2⟩) hv3 hT fun a4 m1 m2 m3 m4 => ?_
   have hsz4 : a4.tmps.size = 19:=by rw [m3, put_size]; exact hsz'
   have hdf4 : a4.defers = []:=by rw [m2, put_defers, k2]; exact hact.df
   have h11 : a4.tmps.getD 11 undef = .func (.yield l) #[] #[]:=by
    rw [m4 11 (fun x hx => by simp [It.ops3] at hx; rcases hx with rfl | rfl | rfl | rfl | rfl <;> simp), put_getD _ _ _ _ (by rw [hsz']; decide), if_pos rfl]
    exact ha'y
   have h40 : a4.tmps.getD 0 undef = .func (.yield l) #[] #[]:=by
    rw [m4 0 (fun x hx => by simp [It.ops3] at hx; rcases hx with rfl | rfl | rfl | rfl | rfl <;> simp), put_ne _ _ _ _ (by decide)]
    exact ha'y
   obtain ⟨o, ho, hd, hop, hg⟩:=o3.get (j:=6) rfl
   rw [wpOpsIn_cons]
   unfold wpOpIn
   simp only [ho]
   rw [if_pos (want_none hg)]
   unfold Oper.wpIn
   refine ⟨fun _ _ => trivial, ?_⟩
   rw [Oper.semAt_eq _ _ _ (fun c hc => by rw [hop] at hc; cases hc), run_yieldOp hop h11 (@R.pn _ Z1 P _ _ _ _ H _ _ hl).1 rfl, Oper.uponIn_round, rel_int (m1 12 _ q12), hd]
   refine ⟨fw_depth none, ?_⟩
   have tail : ∀ (b : Bool) (w2 : World) (h2 : Hp) (ρ2 : Rho) (Z2 : Res), Ext ρ ρ2 → @R _ Z2 P w0 w2 h2 ρ2 → ∀ {Q' : Exit → Act → World → Prop}, (∀ a5 : Act, TR ρ2 (tI p (iv (i + 1))) a5 → a5.tmps.size = 19 → a5.defers = [] → a5.tmps.getD 0 undef = .func (.yield l) #[] #[] →
    a5.eval (.tmp 18) = .bool (!b) → Q' .normal a5 w2) → wpOpsIn (Fw none) 0 P a3 Q' [7] (a4.put (some 17) (.bool b)) w2:=by
    intro b w2 h2 ρ2 Z2 hE H2 Q' hQ
    have hlt : 17 < a4.tmps.size:=by rw [hsz4]; decide
    have hv7 : opsV P h2 [(some 18, .unOp .not it.tb (.tmp 17))] (Tr.nil.set 17 (.bool b)) = some ((Tr.nil.set 17 (.bool b)).set 18 (.bool (!b))):=by
     simp [opsV, execC, evalO, Tr.get_set, exUn, unV, vh, putO]
    have := opsV_sim (P := P) (r := none) (all := a3) (Q := Q') (rest := []) (@R.live _ Z2 P _ _ _ _ H2) (@R.glob _ Z2 P _ _ _ _ H2) [(some 18, .unOp .not it.tb (.tmp 17))] 7 (a4.put (some 17) (.bool b)) _ _ (by rw [put_size, hsz4]; rfl)
     (fun j x hj => by
       cases j with
       | zero => cases hj; exact o3.get (j:=7) rfl
       | succ j => simp at hj) hv7 (fun j u hj => by
        rw [Tr.get_set] at hj
        split at hj
        ·rename_i e; subst e; cases hj; rw [put_getD _ _ _ _ hlt, if_pos rfl]; exact .bool b
        ·rw [Tr.get_nil] at hj; cases hj) fun a5 s1 s2 s3 s4 => ?_
    ·exact this
    ·have ne18 : ∀ j, j ≠ 17 → j ≠ 18 → a5.tmps.getD j undef = a4.tmps.getD j undef := fun j h1 h2 => by
      rw [s4 j (fun x hx => by simp at hx; subst hx; intro e; exact h2 (Option.some.inj e).symm), put_ne _ _ _ _ (Ne.symm h1)]
     refine hQ a5 ((m1.two q1 q3).ext hE |>.of_eq fun j u hj => ne18 j (by rcases tI_get hj with rfl | rfl <;> decide) (by rcases tI_get hj with rfl | rfl <;> decide)) (by rw [s3, put_size]; exact hsz4) (by rw [s2, put_defers]; exact hdf4) (by rw [ne18 0 (by decide) (by decide)]; exact h40) ?_
     exact rel_bool (s1 18 _ (by simp [Tr.get_set]))
   refine round_sim IH htO hx hy hA hB hAn hBn hlZ he hρ hle hD hl H (m1 16 _ q16) ?_ ?_
   ·intro h2 w2 ρ2 Z2 hk2 hE hle2 hD2 hl2 H2
    refine tail true w2 h2 ρ2 Z2 hE H2 fun a5 u1 u2 u3 u4 u5 => ?_
    refine wpIn_cond_false u5 (wpIn_skip ?_)
    obtain ⟨t6, hv6, z1, z3⟩:=ops2_val (P:=P) (h:=h2) hI (p:=p) (i:=i) (by omega)
    refine wpIn_region ?_
    rw [o2.size, List.range_eq_range', ← List.append_nil (List.range' 0 _)]
    refine opsV_sim (@R.live _ Z2 P _ _ _ _ H2) (@R.glob _ Z2 P _ _ _ _ H2) it.ops2 0 a5 _ t6 (by rw [u2]; rfl) (fun j x hj => by simpa using o2.get hj) hv6 u1 fun a6 v1 v2 v3 v4 => ?_
    refine ih (by omega) h2 hk2 ρ2 Z2 a6 w2 (hρ.trans hE) ⟨by rw [v3]; exact u2, by rw [v2]; exact u3, ?_, v1.two z1 z3⟩ hle2 hD2 hl2 H2
    rw [v4 0 (fun x hx => by simp [It.ops2] at hx; rcases hx with rfl | rfl | rfl <;> simp)]; exact u4
   ·intro w2 hne hend
    obtain ⟨ρ2, Z2, hE, hle2, hD2, hl2, H2⟩:=hend
    refine tail false w2 h' ρ2 Z2 hE H2 fun a5 u1 u2 u3 u4 u5 => ?_
    refine wpIn_cond_true u5 (wpIn_ret ?_)
    exact ⟨.inr ⟨rfl, hne⟩, u3, ρ2, Z2, hρ.trans hE, hle2, hD2, hl2, H2⟩
omit [Orc] [OrcOk P] in
theorem rounds_mono {F : Fence} {m : Nat} {Q Q' : Exit → Act → World → Prop} {c : Code} (hq : ∀ x a w, Q x a w → Q' x a w) : ∀ {n : Nat} {a : Act} {w : World}, Code.roundsIn F m P c Q n a w → Code.roundsIn F m P c Q' n a w
 | 0, _, _, h => h
 | n + 1, a, w, h => by
  rw [roundsIn_succ] at h ⊢
  refine wpIn_mono h fun x a w hx => ?_
  cases x with
  | normal => exact rounds_mono hq hx
  | _ => exact hq _ _ _ hx
omit [OrcOk P] in
theorem roundsR_tree {r : Rn} {it : It} {x y : Tmp} {a b : Code} {t : Tr V} {p : V} : ∀ {n : Nat} {h : Hp} {e : Ex} {t' : Tr V} {h' : Hp}, roundsR it r x y a b t p n h = .ok e t' h' → t' = t
 | 0, h, e, t', h', he => by
  simp only [roundsR, Out.ok.injEq] at he
  exact he.2.1.symm
 | n + 1, h, e, t', h', he => by
  simp only [roundsR] at he
  cases hel : rowEl it h p n with
  | none => rw [hel] at he; cases he
  | some v =>
   rw [hel] at he
   simp only [roundR] at he
   cases h1 : bodyRng r b (r (.code a) ((t.set x (.int .i64 (.ofNat n))).set y v) h) with
   | no => rw [h1] at he; cases he
   | ok e2 t2 k2 =>
    rw [h1] at he
    cases e2 <;> simp only [endRng] at he
    ·exact roundsR_tree he
    all_goals (simp only [Out.ok.injEq] at he; exact he.2.1.symm)
omit [Orc] [OrcOk P] in
theorem results_none {fn : Func} (h : fn.results = #[]) (tmps : Array Value) (w : World) : ∃ v, (results fn tmps).run P w = .ok v w:=by
 unfold results
 rw [h, Array.mapM_eq_mapM_toList]
 refine ⟨.tuple #[], ?_⟩
 simp only [List.mapM_nil, Sem.run_bind]
 rfl
omit [Orc] [OrcOk P] in
theorem two_getD (u v : Value) (X : Array Value) : (#[u, v] ++ X).getD 0 undef = u ∧ (#[u, v] ++ X).getD 1 undef = v:=by
 constructor <;> rw [Array.getD_eq_getD_getElem?, Array.getElem?_append_left (by simp)] <;> rfl
theorem range_sim {n : Nat} (IH : CodeIH P n) (hN : Named P) {f : Operand} {ps : Array Tmp} {A B : Code} {t : Tr V} {h : Hp} {e : Ex} {t' : Tr V} {h' : Hp} (he : rngR (run P n) ps.toList A B t h (evalO t f) = .ok e t' h')
 {Z0 Z : Res} {w0 : World} {a : Act} {w : World} {ρ : Rho} (ht : TR ρ t a) (H : @R _ Z P w0 w h ρ) (hdf : Mk Z0 Z a.defers) (hok : okCode a.tmps.size (.rangeFunc f ps A B) = true) :
 (Code.rangeFunc f ps A B).wpIn (Fw none) 0 P (Post P Z0 Z w0 a.tmps.size ρ e t' h') a w:=by
 obtain ⟨g, p, x, y, it, m, hf, hps, hit, hlen, hbig, he2⟩:=rngR_some he
 have htt:=roundsR_tree he2
 subst htt
 have hI:=OrcOk.itr (P:=P) g it hit
 obtain ⟨fn, a0, a1, a3, a2, r0, r1, r3, r2, b0, b1, tys, hfn, hnt, hres, hbody, o0, o1, o3, o2⟩:=hI.code
 simp only [okCode, Bool.and_eq_true, hps, List.all_cons, List.all_nil] at hok
 obtain ⟨⟨hAn, hBn⟩, ⟨hA, hB⟩, hx, hy, _⟩:=hok
 have hx:=Nat.le_of_ble_eq_true hx
 have hy:=Nat.le_of_ble_eq_true hy
 have hps' : ps = #[x, y]:=Array.ext' hps
 subst hps'
 have hrf:=evalO_tr (@R.glob _ Z P _ _ _ _ H) ht hf
 generalize hev : a.eval f = fv at hrf
 cases hrf with
 | func _ hl1 hr1 hl2 hr2 =>
 rename_i xs ys
 have hxs : xs = []:=List.length_eq_zero_iff.1 (by simpa using hl1.symm)
 subst hxs
 obtain ⟨px, rfl⟩ : ∃ px, ys = [px]:=by
  cases ys with
  | nil => simp at hl2
  | cons z zs => cases zs with
   | nil => exact ⟨z, rfl⟩
   | cons => simp at hl2
 have hpx : Rel ρ p px:=hr2 0 p px rfl rfl
 have hpos : 0 < w.heap.size:=by
  unfold rowLen at hlen
  cases hv : rowAt h p with
  | none => rw [hv] at hlen; cases hlen
  | some v =>
   obtain ⟨b, o, rfl, hld⟩:=rowAt_some hv
   cases hpx with
   | ptr _ hb =>
    refine Nat.lt_of_le_of_lt (Nat.zero_le _) (@R.lt P _ Z _ _ _ _ H b _ hb ?_)
    unfold ldB at hld
    cases ho : h.t.get b with
    | none => rw [ho] at hld; cases hld
    | some ob => exact ⟨ob, ho, fun e => by subst e; rw [ho] at hld; cases hld⟩
 have hlt : ∀ r O, Z.pin r O → r < w.heap.size:=fun r O hr => (Array.getElem?_eq_some_iff.1 (@R.pn _ Z P _ _ _ _ H r O hr).1).1
 refine wpIn_rangeFunc ?_
 intro fnn _
 have H1:=R.pinNew H hpos (.deferred (some []))
 have hs1 : (w.alloc (.deferred (some []))).heap.size = w.heap.size + 1:=by simp
 have H2:=R.pinNew H1 (by omega) (.loop (recOf fnn a.tmps x y A B w.heap.size .ready none))
 rw [hs1] at H2
 obtain ⟨W1, hW1⟩ : ∃ W1, W1 = (w.alloc (.deferred (some []))).alloc (.loop (recOf fnn a.tmps x y A B w.heap.size .ready none)):=⟨_, rfl⟩
 rw [← hW1] at H2
 obtain ⟨ZZ, hZZ⟩ : ∃ ZZ, ZZ = (Z.with w.heap.size (.deferred (some []))).with (w.heap.size + 1) (.loop (recOf fnn a.tmps x y A B w.heap.size .ready none)):=⟨_, rfl⟩
 rw [← hZZ] at H2
 have hcall : ∀ W args, (callFunc g args).run P W = .ok (.enter g args) W:=by
  intro W args
  have hb : fn.body.isNone = false:=by rw [hbody]; rfl
  simp only [callFunc, Sem.run_bind, run_program, Result.andThen_ok, hfn, hN g fn hfn, Bool.false_eq_true, if_false, hb, Sem.run_pure]
 refine ⟨w.heap.size + 1, [{ target:=.collected w.heap.size, args:=#[] }], W1, { target:=.fn (.func g) #[px], args:=#[.func (.yield (w.heap.size + 1)) #[] #[]] }, W1, g, #[.func (.yield (w.heap.size + 1)) #[] #[], px], W1, by rw [hW1]; exact run_enterLoop_outer _ _ _ _ _, ?_, fun _ _ => trivial, ?_, fw_depth none, ?_⟩
 ·simp only [resolve, hev]
  simp [Deferred.ofValue]
  rfl
 ·simp only [invoke]
  exact hcall _ _
 ·refine callsIn_of_wp_marks (F := Fw none) hfn hbody trivial ?_
  have hsz : (#[.func (.yield (w.heap.size + 1)) #[] #[], px] ++ Array.replicate (fn.ntmps - (#[.func (.yield (w.heap.size + 1)) #[] #[], px] : Array Value).size) undef : Array Value).size = 19:=by simp [hnt]
  obtain ⟨t0, hv0, z1, z3⟩:=ops0_val (P:=P) hI hlen (by unfold big at hbig; omega)
  refine wpIn_seq (wpIn_region ?_)
  rw [o0.size, List.range_eq_range', ← List.append_nil (List.range' 0 _)]
  refine opsV_sim (ρ := ρ) (@R.live _ ZZ P _ _ _ _ H2) (@R.glob _ ZZ P _ _ _ _ H2) it.ops0 0 _ _ t0 (by rw [hsz]; rfl) (fun j x hj => by simpa using o0.get hj) hv0 (fun j u hj => by
   rw [Tr.get_set] at hj
   split at hj
   ·rename_i e; subst e; cases hj; rw [(two_getD _ _ _).2]; exact hpx
   ·rw [Tr.get_nil] at hj; cases hj) fun a5 s1 s2 s3 s4 => ?_
  refine wpIn_block (wpIn_loop_rounds (m + 1) ?_)
  have hle1 : Res.le Z ZZ:=by rw [hZZ]; exact ⟨fun _ h => h, fun _ _ h => .inl (.inl h)⟩
  have hlZ : ∀ O, ¬ Z.pin (w.heap.size + 1) O:=fun O hO => by have:=hlt _ _ hO; omega
  refine rounds_mono ?_ (rounds_sim IH (Z := Z) (D := w.heap.size) (l := w.heap.size + 1) (fn := fnn) (tm := a.tmps) (ρ0 := ρ) (t := t') (fun i v hv => ht i v hv) hx hy hA hB hAn hBn hlZ hI o1 o3 o2 m (by unfold big at hbig; omega) h he2 ρ _ a5 _ (Ext.refl _)
   ⟨by rw [s3]; exact hsz, s2, by rw [s4 0 (fun x hx => by simp [It.ops0] at hx; rcases hx with rfl | rfl | rfl | rfl <;> simp)]; exact (two_getD _ _ _).1, s1.two z1 z3⟩ hle1 (by rw [hZZ]; exact .inl (.inr ⟨rfl, rfl⟩)) (by rw [hZZ]; exact .inr ⟨rfl, rfl⟩) H2)
  rintro ex a6 w6 ⟨hex, hd6, ρ', Z', hE, hle, hD', hl', H6⟩
  have p6:=@R.pn _ Z' P _ _ _ _ H6 _ _ hl'
  have hfin : LeavesInM (Fw none) 0 P fn a6.tmps (rangePost (Fw none) 0 P (w.heap.size + 1) (Post P Z0 Z w0 a.tmps.size ρ e t' h') { a with defers := [{ target := .collected w.heap.size, args := #[] }] ++ a.defers }) a6.defers .returning w6 := by
   rw [hd6]
   obtain ⟨v, hv⟩:=results_none (P:=P) hres a6.tmps w6
   refine ⟨v, hv, _, _, run_endLoop p6.1 (by cases e <;> simp [recOf, stOf]), ?_⟩
   have H7:=R.repin H6 hl' (.loop { recOf fnn a.tmps x y A B w.heap.size (stOf e) (pendR e) with state:=.exhausted })
   have hpost : Post P Z0 Z w0 a.tmps.size ρ e t' h' (cx e) { a with defers := [{ target := .collected w.heap.size, args := #[] }] ++ a.defers } _ := ⟨rfl, ρ', _, hE, (ht.ext hE), H7, hle.turn hlZ _, ⟨hdf.le.trans (hle.turn hlZ _), fun d hd => by
    rcases List.mem_cons.1 hd with rfl | hd
    ·refine ⟨w.heap.size, rfl, .inl ⟨hD', by omega⟩, fun O hO => ?_⟩
     have:=hlt _ _ (hdf.le.pin _ _ hO); omega
    ·obtain ⟨r, q1, q2, q3⟩ := hdf.mks d hd
     exact ⟨r, q1, (hle.turn hlZ _).pin _ _ q2, q3⟩, List.nodup_cons.2 ⟨fun hm => by
     obtain ⟨r, q1, q2, _⟩:=hdf.mks _ hm
     have : w.heap.size = r:=by
      have:=congrArg Deferred.target q1
      simp only [mark, Target.collected.injEq] at this
      exact this
     have:=hlt _ _ q2; omega, hdf.nd⟩⟩, rfl⟩
   cases e with
   | normal => exact hpost
   | exit id => exact wpIn_exit hpost
   | ret => exact wpIn_ret hpost
  rcases hex with ⟨rfl, _⟩ | ⟨rfl, _⟩
  ·simp only [Exit.inBlock, if_true]
   exact hfin
  ·exact hfin
end
section
variable {P : Program} [Orc] [Z : Res] [OrcOk P]
theorem Post.mono {r : Option Nat} {Z0 Z Z1 : Res} {w0 : World} {N : Nat} {ρ ρ1 : Rho} {e : Ex} {t : Tr V} {h : Hp} (he : Ext ρ ρ1) (hz : Res.le Z Z1) {c : Code} {a : Act} {w : World} (hw : c.wpIn (Fw r) 0 P (Post P Z0 Z1 w0 N ρ1 e t h) a w) : c.wpIn (Fw r) 0 P (Post P Z0 Z w0 N ρ e t h) a w :=
 wpIn_mono hw fun _ _ _ hp => Post.ext he hz hp
theorem okRegion {n : Nat} : ∀ {l : List Oper}, dstOk n l = true → ∀ (i : Nat) o d, l[i]? = some o → o.dst = some d → d < n
 | [], _, i, o, d, h, _ => by simp at h
 | x :: l, h, i, o, d, ho, hd => by
  obtain ⟨h1, h2⟩:=dstOk_cons h
  cases i with
  | zero => simp only [List.getElem?_cons_zero, Option.some.injEq] at ho; subst ho; exact h1 d hd
  | succ i => exact okRegion h2 i o d (by simpa using ho) hd
theorem dstOk_drop {n : Nat} : ∀ {l : List Oper} (k : Nat), dstOk n l = true → dstOk n (l.drop k) = true
 | _, 0, h => h
 | [], _ + 1, _ => rfl
 | _ :: l, k + 1, h => dstOk_drop (l:=l) k (dstOk_cons h).2
theorem none_listed (n j : Nat) : (Array.replicate n false).getD j false = false:=by
 rw [Array.getD_eq_getD_getElem?]
 rcases Nat.lt_or_ge j n with h | h
 ·simp [h]
 ·rw [Array.getElem?_eq_none (by simpa using h)]; rfl
theorem draw_sim (hmix : P.follows .mixedOrders = true) (hN : Named P) {n : Nat} (IH : CodeIH P n) (IO : OpsIH P n) {id : Nat} {ops : Array Oper} {t t' : Tr V} {h h' : Hp} {e : Ex} (he : drawCode P (run P n) ops t h = .ok e t' h')
 {r : Option Nat} {Z0 : Res} {w0 : World} {a : Act} {w : World} {ρ : Rho} (ht : TR ρ t a) (H : @R _ Z P w0 w h ρ) (hdf : Mk Z0 Z a.defers) (hok : dstOk a.tmps.size ops.toList = true) : (Code.region id ops true).wpIn (Fw r) 0 P (Post P Z0 Z w0 a.tmps.size ρ e t' h') a w:=by
 letI ZI : Res:=Z
 unfold drawCode at he
 cases hd : okDraw ops with
 | false => simp [hd] at he
 | true =>
  simp only [hd, cond_true] at he
  unfold okDraw at hd
  rw [Bool.and_eq_true] at hd
  obtain ⟨hd1, hd2⟩:=hd
  cases hfl0 : flo0 P (masks ops) (ops.toList.take (headLen ops)) t (ops.toList.take (headLen ops)) 0 h with
  | none => simp [hfl0, drawHd] at he
  | some q =>
  obtain ⟨h1, n1⟩:=q
  simp only [hfl0, drawHd] at he
  cases hs : hdAll P (masks ops) (run P n) ops (ops.toList.take (headLen ops)) 0 (some ⟨0, Tr.nil.set 0 h1, .nil, t, [], n1⟩) with
  | none => simp [hs, tailCode] at he
  | some s =>
   simp only [hs, tailCode] at he
   cases hg : s.hs.get s.c with
   | none => simp [hg] at he
   | some X =>
    simp only [hg] at he
    obtain ⟨_, hk1, hk2⟩:=tailFrom_spec (masks ops) ops.toList 0 0 (Nat.le_refl _)
    have hkl : headLen ops ≤ ops.size:=by simpa [headLen] using hk1
    obtain ⟨F1, F2, F3, F4⟩:=flo0_spec (P:=P) (ops.toList.take (headLen ops)) 0 h hfl0 H.fresh
    have hF : ∀ (j : Nat) o, (ops.toList.take (headLen ops))[j]? = some o → ops[j]? = some o:=by
     intro j o hj
     rw [List.getElem?_take] at hj
     split at hj
     ·rw [← Array.getElem?_toList]; exact hj
     ·cases hj
    obtain ⟨es, hes, G⟩ := hdAll_good (P := P) (run_fr n) (t0 := t) (h0 := h1) (es := []) (good_start fun j l hm => by
     obtain ⟨p, b, ty, cs, o, q1, q1b, _, q3, q4, q5, _, q7, q8, q9⟩:=F4 j l hm
     exact ⟨p, b, ty, cs, o, q1, q1b, hF j o q3, q4, q5, q7, q8, q9⟩) (fun j hj => by
     simp only [List.length_take, Array.length_toList] at hj
     rw [List.getElem?_take, if_pos (by omega)]; simp) hs
    have hes' : es.length = headLen ops:=by rw [hes]; simp; omega
    have hback : ∀ (i : Nat) o, ops[i]? = some o → ∀ e ∈ o.after.toList, Region.binds .any e = true → e.on < i:=by
     intro i o ho e he hb
     have:=edgesBack_spec ops.toList 0 hd1 i o (by rw [Array.getElem?_toList]; exact ho) e he hb
     omega
    have hp : Pairs ops es.length:=by
     intro i j x y hij hj hx hy
     have:=pairsOk_spec _ 0 hd2 i j x y hij (by rw [List.getElem?_take, if_pos (by omega), Array.getElem?_toList]; exact hx) (by rw [List.getElem?_take, if_pos (by omega), Array.getElem?_toList]; exact hy)
     simpa using this
    refine wpIn_region_any hmix ?_
    refine wpAny_head (Z := Z) hN IH (ρ0 := ρ) (w0 := w0) (N := a.tmps.size) (ds := a.defers) G hp (fun i h1 h2 => hk2 i (by omega) (by simpa using h2) (by rw [hes'] at h1; exact h1)) hback (by omega)
     (fun i o d ho hdd => okRegion hok i o d (by rw [Array.getElem?_toList]; exact ho) hdd) ?_ ops.size _ a _ (by simp) ?_ (fun j hj => ?_) ?_
    ·intro ρ1 X' a1 w1 h1 h2 h3 h4 h5 h6
     rw [hg] at h1; simp only [Option.some.injEq] at h1; subst h1
     have:=IO ops _ _ _ _ _ _ he r Z0 Z w0 a1 w1 ρ1 h2 h3 (by rw [h5]; exact hdf) (by rw [h6]; exact dstOk_drop _ hok) (headLen ops) (fun j hj => by rw [List.getElem?_drop, Array.getElem?_toList])
     rw [h6] at this
     rw [hes']
     have hl : (ops.toList.drop (headLen ops)).length = ops.size - headLen ops:=by simp
     rw [hl] at this
     exact wpOps_mono' this fun x a w hp => Post.ext h4 (Res.le.refl Z) hp
    ·have hfl : ∀ (j : Nat) e b, es[j]? = some e → e.fl = true → blkV e.v = some b → h.n ≤ b ∧ b < h1.n:=by
      intro j e b hj hf hv
      obtain ⟨_, _, _, _, ty, cs, b', _, hv', hm⟩:=G.flo j e hj hf
      obtain ⟨p2, b2, ty2, cs2, _, q1, q1b, _, _, _, _, q6, q7, _⟩:=F4 j _ (hdAll_agg hs hm)
      obtain ⟨rfl, _, _⟩:=fent_inj q1
      rw [hv] at q1b
      simp only [Option.some.injEq] at q1b
      omega
     refine ⟨0, 0, _, ρ, ⟨Nat.zero_le _, Nat.zero_le _, G.hs0, ?_, Ext.refl _, rfl, rfl, ?_, ?_, ?_, ?_, ?_, ?_, ?_, ?_⟩⟩
     ·simp only [List.take_zero, stores]
      have HR:=H.drew.room F1 F2 F3
      refine R.mono ?_ ?_ HR <;> first | exact (fun _ _ h => h) | skip
      rintro b (hb | ⟨j, e, hj, hf, _, hv⟩)
      ·exact .inl hb
      ·exact .inr (hfl j e b hj hf hv)
     ·intro j e _ _; rw [none_listed]; simp
     ·intro j e _ _; rw [none_listed]; simp
     ·intro m X' hm hX b hb
      have : m = 0:=by omega
      subst this
      rw [G.hs0] at hX; simp only [Option.some.injEq] at hX; subst hX
      exact F3 b hb
     ·intro p hp; simp at hp
     ·intro j e d _ hl; rw [none_listed] at hl; cases hl
     ·intro u v _ hv; exact ht u v hv
     ·intro i o _ hl; rw [none_listed] at hl; cases hl
     ·intro j e b hj hf hv hz
      have:=(H.rs b hz).2
      have:=(hfl j e b hj hf hv).1
      omega
    ·rw [none_listed] at hj; cases hj
    ·have := List.length_filter_le (fun j => !(Array.replicate ops.size false).getD j false) (List.range ops.size)
     simpa using this
theorem stepR_scope {b : Frame} {a : Act} {k : List Item} {cs : List Frame} {w : World} {c : Code} : Go.step P (lone (b.atR a (.code (.scope c) :: k)) cs w) = .next (lone (b.atR a (.code c :: .inScope c :: k)) cs w) :=
 step_lone_go (by simp [stepG, stepG.exec, Frame.atR])
theorem stepR_inScope {b : Frame} {a : Act} {k : List Item} {cs : List Frame} {w : World} {c : Code} : Go.step P (lone (b.atR a (.inScope c :: k)) cs w) = .next (lone (b.atR a k) cs w) :=
 step_lone_go (by simp [stepG, stepG.exec, Frame.atR])
theorem wpIn_scope_straight {F : Fence} {n : Nat} {Q : Exit → Act → World → Prop} {a : Act} {w : World} {c : Code} (h : c.wpIn F n P (Exit.noGoto Q) a w) : (Code.scope c).wpIn F n P Q a w:=by
 intro b k cs hro hb hr
 have h0 : (lone (b.atR a (.code (.scope c) :: k)) cs w).fenced P F:=fenced_calm hb hr rfl
 obtain ⟨e, a₁, w₁, hq, harr⟩:=h b (.inScope c :: k) cs hro hb hr
 have hx : ∀ id, exitTo id (.inScope c :: k) = exitTo id k:=fun id => by simp [exitTo]
 cases e with
 | normal => exact ⟨.normal, a₁, w₁, hq, .head h0 stepR_scope (StepsIn.trans harr (.one (fenced_calm hb hr rfl) stepR_inScope))⟩
 | exit id => exact ⟨.exit id, a₁, w₁, hq, fun k' hk => .head h0 stepR_scope (harr.1 k' (by rw [hx]; exact hk)),
  fun hr' hk => let ⟨k₁, h1, h2⟩:=harr.2 hr' (by rw [hx]; exact hk); ⟨k₁, h1, .head h0 stepR_scope h2⟩⟩
 | goto l => exact hq.elim
 | ret => exact ⟨_, a₁, w₁, hq, .of_steps (.one h0 stepR_scope) harr⟩
 | panic ch => exact ⟨_, a₁, w₁, hq, .of_steps (.one h0 stepR_scope) harr⟩
 | outgrown => exact ⟨_, a₁, w₁, hq, .of_steps (.one h0 stepR_scope) harr⟩
theorem rng_seq {r : Option Nat} {x y : Code} (h : RngOk r (.seq x y)) : RngOk r x ∧ RngOk r y:=by
 rcases h with rfl | h
 ·exact ⟨.inl rfl, .inl rfl⟩
 ·simp only [noRng, Bool.and_eq_true] at h
  exact ⟨.inr h.1, .inr h.2⟩
theorem rng_cond {r : Option Nat} {c : Operand} {x y : Code} (h : RngOk r (.cond c x y)) : RngOk r x ∧ RngOk r y:=by
 rcases h with rfl | h
 ·exact ⟨.inl rfl, .inl rfl⟩
 ·simp only [noRng, Bool.and_eq_true] at h
  exact ⟨.inr h.1, .inr h.2⟩
theorem code_step (hmix : P.follows .mixedOrders = true) (hN : Named P) {n : Nat} (IH : CodeIH P n) (IO : OpsIH P n) : CodeIH P (n + 1):=by
 intro c t h e t' h' he r Z0 Z w0 a w ρ ht H hdf hok hrg
 have he' : stepCode P (run P n) c t h = .ok e t' h':=he
 have plain : (∀ c', c ≠ .loop c') → c.wpIn (Fw r) 0 P (Post P Z0 Z w0 a.tmps.size ρ e t' h') a w →
  c.wpIn (Fw r) 0 P (Post P Z0 Z w0 a.tmps.size ρ e t' h') a w ∧ ∀ c', c = .loop c' → Code.roundsIn (Fw r) 0 P c' (Post P Z0 Z w0 a.tmps.size ρ e t' h') (n + 1) a w:=fun h1 h2 => ⟨h2, fun c' hc => (h1 c' hc).elim⟩
 cases c <;> simp only [stepCode, reduceCtorEq] at he'
 case skip =>
  simp only [Out.ok.injEq] at he'
  obtain ⟨rfl, rfl, rfl⟩:=he'
  exact plain (fun _ h => by cases h) (wpIn_skip ⟨rfl, ρ, Z, Ext.refl _, ht, H, Res.le.refl Z, hdf, rfl⟩)
 case region id ops d =>
  refine plain (fun _ h => by cases h) ?_
  simp only [okCode] at hok
  cases d with
  | false =>
   simp only [regCode] at he'
   refine wpIn_region ?_
   have:=IO ops _ _ _ _ _ _ he' r Z0 Z w0 a w ρ ht H hdf hok 0 (fun j hj => by simp)
   rw [List.range_eq_range']
   simpa using this
  | true =>
   simp only [regCode] at he'
   exact draw_sim (Z:=Z) hmix hN IH IO he' ht H hdf hok
 case seq x y =>
  refine plain (fun _ h => by cases h) (wpIn_seq ?_)
  simp only [okCode, Bool.and_eq_true] at hok
  have hrg:=rng_seq hrg
  cases hx : run P n (.code x) t h with
  | no => simp [hx, thenCode] at he'
  | ok e1 t1 h1 =>
   rw [hx] at he'
   have W1:=(IH x _ _ _ _ _ hx r Z0 Z w0 a w ρ ht H hdf hok.1 hrg.1).1
   refine wpIn_mono W1 fun ex a1 w1 hp => ?_
   obtain ⟨hex, ρ1, Z1, S⟩:=hp
   cases e1 with
   | normal =>
    subst hex
    simp only [thenCode] at he'
    have w2:=(IH y _ _ _ _ _ he' r Z0 Z1 w0 a1 w1 ρ1 S.tr S.rr S.df (by rw [S.sz]; exact hok.2) hrg.2).1
    rw [S.sz] at w2
    exact Post.mono S.ext S.le w2
   | exit id =>
    simp only [thenCode, Out.ok.injEq] at he'
    obtain ⟨rfl, rfl, rfl⟩:=he'
    subst hex
    exact ⟨rfl, ρ1, Z1, S⟩
   | ret =>
    simp only [thenCode, Out.ok.injEq] at he'
    obtain ⟨rfl, rfl, rfl⟩:=he'
    subst hex
    exact ⟨rfl, ρ1, Z1, S⟩
 case cond c x y =>
  refine plain (fun _ h => by cases h) ?_
  simp only [okCode, Bool.and_eq_true] at hok
  have hrg:=rng_cond hrg
  cases hc : evalO t c with
  | none => simp [hc, ifCode] at he'
  | some v =>
   have hr:=evalO_tr H.glob ht hc
   cases v with
   | bool b =>
    cases hv : a.eval c <;> rw [hv] at hr <;> cases hr
    cases b with
    | true => simp only [hc, ifCode] at he'; exact wpIn_cond_true hv (IH x _ _ _ _ _ he' r Z0 Z w0 a w ρ ht H hdf hok.1 hrg.1).1
    | false => simp only [hc, ifCode] at he'; exact wpIn_cond_false hv (IH y _ _ _ _ _ he' r Z0 Z w0 a w ρ ht H hdf hok.2 hrg.2).1
   | _ => simp [hc, ifCode] at he'
 case block id x =>
  refine plain (fun _ h => by cases h) (wpIn_block ?_)
  simp only [okCode] at hok
  cases hx : run P n (.code x) t h with
  | no => simp [hx, inBlk] at he'
  | ok e1 t1 h1 =>
   rw [hx] at he'
   have W1:=(IH x _ _ _ _ _ hx r Z0 Z w0 a w ρ ht H hdf hok (hrg)).1
   refine wpIn_mono W1 fun ex a1 w1 hp => ?_
   obtain ⟨hex, ρ1, Z1, S⟩:=hp
   cases e1 with
   | normal =>
    simp only [inBlk, Out.ok.injEq] at he'
    obtain ⟨rfl, rfl, rfl⟩:=he'
    subst hex
    exact ⟨rfl, ρ1, Z1, S⟩
   | exit j =>
    subst hex
    simp only [inBlk] at he'
    simp only [cx, Exit.inBlock]
    cases hj : Nat.beq j id with
    | true =>
     have:=Nat.eq_of_beq_eq_true hj; subst this
     simp only [hj, cond_true, Out.ok.injEq] at he'
     obtain ⟨rfl, rfl, rfl⟩:=he'
     rw [if_pos rfl]
     exact ⟨rfl, ρ1, Z1, S⟩
    | false =>
     have hne : ¬ j = id:=fun h => by subst h; simp at hj
     simp only [hj, cond_false, Out.ok.injEq] at he'
     obtain ⟨rfl, rfl, rfl⟩:=he'
     rw [if_neg hne]
     exact ⟨rfl, ρ1, Z1, S⟩
   | ret =>
    simp only [inBlk, Out.ok.injEq] at he'
    obtain ⟨rfl, rfl, rfl⟩:=he'
    subst hex
    exact ⟨rfl, ρ1, Z1, S⟩
 case loop x =>
  have key : Code.roundsIn (Fw r) 0 P x (Post P Z0 Z w0 a.tmps.size ρ e t' h') (n + 1) a w:=by
   simp only [okCode] at hok
   rw [roundsIn_succ]
   cases hx : run P n (.code x) t h with
   | no => simp [hx, thenCode] at he'
   | ok e1 t1 h1 =>
    rw [hx] at he'
    have W1:=(IH x _ _ _ _ _ hx r Z0 Z w0 a w ρ ht H hdf hok (hrg)).1
    refine wpIn_mono W1 fun ex a1 w1 hp => ?_
    obtain ⟨hex, ρ1, Z1, S⟩:=hp
    cases e1 with
    | normal =>
     subst hex
     simp only [thenCode] at he'
     have w2:=(IH (.loop x) _ _ _ _ _ he' r Z0 Z1 w0 a1 w1 ρ1 S.tr S.rr S.df (by rw [S.sz]; exact hok) hrg).2 x rfl
     rw [S.sz] at w2
     exact rounds_mono (fun x a w hp => Post.ext S.ext S.le hp) w2
    | exit id =>
     simp only [thenCode, Out.ok.injEq] at he'
     obtain ⟨rfl, rfl, rfl⟩:=he'
     subst hex
     exact ⟨rfl, ρ1, Z1, S⟩
    | ret =>
     simp only [thenCode, Out.ok.injEq] at he'
     obtain ⟨rfl, rfl, rfl⟩:=he'
     subst hex
     exact ⟨rfl, ρ1, Z1, S⟩
  exact ⟨wpIn_loop_rounds (n + 1) key, fun c' hc => by cases hc; exact key⟩
 case scope x =>
  simp only [okCode] at hok
  refine plain (fun _ h => by cases h) (wpIn_scope_straight ?_)
  refine wpIn_mono (IH x _ _ _ _ _ he' r Z0 Z w0 a w ρ ht H hdf hok (hrg)).1 fun ex a1 w1 hp => ?_
  obtain ⟨hex, hp⟩:=hp
  cases e <;> subst hex <;> exact ⟨rfl, hp⟩
 case rangeFunc f ps x y =>
  rcases hrg with rfl | hrg
  ·exact plain (fun _ h => by cases h) (range_sim (Z := Z) IH hN he' ht H hdf hok)
  ·cases hrg
 case label l =>
  simp only [Out.ok.injEq] at he'
  obtain ⟨rfl, rfl, rfl⟩:=he'
  exact plain (fun _ h => by cases h) (wpIn_label ⟨rfl, ρ, Z, Ext.refl _, ht, H, Res.le.refl Z, hdf, rfl⟩)
 case exit id =>
  simp only [Out.ok.injEq] at he'
  obtain ⟨rfl, rfl, rfl⟩:=he'
  exact plain (fun _ h => by cases h) (wpIn_exit ⟨rfl, ρ, Z, Ext.refl _, ht, H, Res.le.refl Z, hdf, rfl⟩)
 case ret =>
  simp only [Out.ok.injEq] at he'
  obtain ⟨rfl, rfl, rfl⟩:=he'
  exact plain (fun _ h => by cases h) (wpIn_ret ⟨rfl, ρ, Z, Ext.refl _, ht, H, Res.le.refl Z, hdf, rfl⟩)
theorem run_sim (hmix : P.follows .mixedOrders = true) (hN : Named P) : ∀ n, CodeIH P n ∧ OpsIH P n
 | 0 => ⟨fun c t h e t' h' he => (by cases he), fun all l t h e t' h' he => (by cases he)⟩
 | n + 1 => by
  obtain ⟨h1, h2⟩:=run_sim hmix hN n
  exact ⟨code_step hmix hN h1 h2, ops_step hN h1 h2⟩
theorem R.start {w0 : World} {h : Hp} {ρ : Rho} (hb : ∀ b l, ρ b = some l → b < h.n ∧ h.still b ∧ ((l.base ≠ 0 ∧ l.blk = 0) ∨ l.blk < w0.heap.size)) (live : Live P ρ w0 h)
 (inj : ∀ b b' l l', ρ b = some l → ρ b' = some l' → b ≠ b' → h.alive b → h.alive b' → l.blk ≠ l'.blk) (fresh : ∀ b, h.n ≤ b → h.t.get b = none) (glob : Glob ρ) (base : Orc.inv w0) : @R _ noRes P w0 w0 h ρ :=
 @R.mk _ noRes P _ _ _ _ (Below.refl _ _) (fun b l h => ⟨(hb b l h).1, .inr (hb b l h).2.1, (hb b l h).2.2⟩) live inj fresh glob base (fun _ h => h.elim) (fun _ _ h => h.elim)
theorem calls_of (hmix : P.follows .mixedOrders = true) (hN : Named P) {n : Nat} {f : FuncId} {as : List V} {xs : List Value} {h h' : Hp} {ρ : Rho} {w : World} {v : V} (H : R P w w h ρ) (ha : RelL ρ as xs)
 (hb : (P.funcs[f]?.bind (·.body)).isSome = true) (he : enterV P (run P n) h (some (f, as)) = some (v, h')) : Calls P f ⟨xs⟩ w fun e w' => ∃ x ρ', e = .returned x ∧ Rel ρ' v x ∧ Below w.heap.size w w':=by
 obtain ⟨_, hcalls⟩:=(call_sim (run_sim hmix hN n).1 H ha he).text hN hb
 refine hcalls.mono ?_
 rintro e w' ⟨x, ρ', rfl, h1, _, h3⟩
 exact ⟨x, ρ', rfl, h1, h3.below⟩
def namedB (P : Program) : Bool:=P.funcs.toList.all fun fn => !(fn.name == "runtime.NumGoroutine")
theorem named_of (h : namedB P = true) : Named P:=by
 intro f fn hf
 unfold namedB at h
 rw [List.all_eq_true] at h
 have hm : fn ∈ P.funcs.toList:=by
  have : P.funcs.toList[f]? = some fn:=by rw [Array.getElem?_toList]; exact hf
  exact List.mem_of_getElem? this
 have:=h fn hm
 cases hb : (fn.name == "runtime.NumGoroutine") with
 | false => rfl
 | true => rw [hb] at this; cases this
end
end Go.Mid
end
