/- The shallow reading is sound: what it answers, the small machine's run answers. -/
import Derived.Test.YtdiiilfokajddaaGreatDoorKMidU
set_option linter.all false
set_option warn.classDefReducibility false
noncomputable section
section
namespace Go.Mid
section
variable {P : Program} [Orc]
theorem intE_some {v : V} {k : IntKind → Int → VH} {p : V × Hp} (h : intE v k = some p) : ∃ d n, v = .int d n ∧ k d n = some p:=by
 cases v <;> first | exact ⟨_, _, rfl, h⟩ | (exact absurd h (by intro h; cases h))
theorem ptrE_some {v : V} {k : Nat → Nat → VH} {p : V × Hp} (h : ptrE v k = some p) : ∃ b o, v = .ptr b o ∧ k b o = some p:=by
 cases v <;> first | exact ⟨_, _, rfl, h⟩ | (exact absurd h (by intro h; cases h))
theorem ifS_some {v : V} {x y : VH} {p : V × Hp} (h : ifS v x y = some p) : (v = .bool true ∧ x = some p) ∨ (v = .bool false ∧ y = some p):=by
 cases v with
 | bool b =>
  cases b
  ·exact Or.inr ⟨rfl, h⟩
  ·exact Or.inl ⟨rfl, h⟩
 | _ => exact absurd h (by intro h; cases h)
theorem bindS_some {x : VH} {k : V → Hp → VH} {p : V × Hp} (h : bindS x k = some p) : ∃ v h', x = some (v, h') ∧ k v h' = some p:=by
 cases x with
 | none => exact absurd h (by intro h; cases h)
 | some q => obtain ⟨v, h'⟩:=q; exact ⟨v, h', rfl, h⟩
theorem optS_some {x : Option V} {k : V → VH} {p : V × Hp} (h : optS x k = some p) : ∃ v, x = some v ∧ k v = some p:=by
 cases x with
 | none => exact absurd h (by intro h; cases h)
 | some v => exact ⟨v, rfl, h⟩
theorem opt2_some {x y : Option V} {k : V → V → VH} {p : V × Hp} (h : opt2 x y k = some p) : ∃ a b, x = some a ∧ y = some b ∧ k a b = some p:=by
 obtain ⟨a, h1, h⟩:=optS_some h
 obtain ⟨b, h2, h⟩:=optS_some h
 exact ⟨a, b, h1, h2, h⟩
def wantV (v : V) (w : Bool) : Option Bool :=
 match v with
 | .bool b => some (bif w then b else !b)
 | .tuple [] => some false
 | _ => none
theorem guardS_some {v : V} {w : Bool} {x : VH} {h : Hp} {k : V → Hp → VH} {p : V × Hp} (hg : guardS v w x h k = some p) :
 (wantV v w = some true ∧ ∃ v h', x = some (v, h') ∧ k v h' = some p) ∨ (wantV v w = some false ∧ k undefV h = some p):=by
 cases v <;> try (cases hg; done)
 ·rename_i b
  cases b <;> cases w <;> first
   | exact Or.inl ⟨rfl, bindS_some hg⟩
   | exact Or.inr ⟨rfl, hg⟩
 ·rename_i vs
  cases vs with
  | nil => exact Or.inr ⟨rfl, hg⟩
  | cons _ _ => cases hg
theorem guardB_some {v : V} {w : Bool} {x y : VH} {p : V × Hp} (hg : guardB v w x y = some p) :
 (wantV v w = some true ∧ x = some p) ∨ (wantV v w = some false ∧ y = some p):=by
 cases v <;> try (cases hg; done)
 ·rename_i b
  cases b <;> cases w <;> first
   | exact Or.inl ⟨rfl, hg⟩
   | exact Or.inr ⟨rfl, hg⟩
 ·rename_i vs
  cases vs with
  | nil => exact Or.inr ⟨rfl, hg⟩
  | cons _ _ => cases hg
theorem wantO_none {all : Array Oper} {t : Tr V} {o : Oper} (h : o.guard = none) : wantO all t o = some true:=by unfold wantO; rw [h]
theorem wantO_some {all : Array Oper} {t : Tr V} {o : Oper} {j : Nat} {w : Bool} (h : o.guard = some (j, w)) {x : V} (hx : guardAt all t j = some x) : wantO all t o = wantV x w:=by
 unfold wantO; rw [h]; simp only
 unfold guardAt at hx
 split at hx
 ·rename_i o' ho
  rw [ho]
  simp only
  split at hx
  ·rename_i d hd
   rw [hd]; simp only [hx]
   unfold wantV
   split <;> simp_all
  ·cases hx
 ·cases hx
theorem strE_some {v : V} {k : Bs → VH} {p : V × Hp} (h : strE v k = some p) : ∃ l, v = .str l ∧ k l = some p:=by
 cases v <;> first | exact ⟨_, rfl, h⟩ | (exact absurd h (by intro h; cases h))
theorem boolE_some {v : V} {k : Bool → VH} {p : V × Hp} (h : boolE v k = some p) : ∃ b, v = .bool b ∧ k b = some p:=by
 cases v <;> first | exact ⟨_, rfl, h⟩ | (exact absurd h (by intro h; cases h))
theorem aggE_some {v : V} {k : List V → VH} {p : V × Hp} (h : aggE v k = some p) : ∃ l, v = .agg l ∧ k l = some p:=by
 cases v <;> first | exact ⟨_, rfl, h⟩ | (exact absurd h (by intro h; cases h))
theorem slE_some {v : V} {k : Nat → Nat → Nat → VH} {p : V × Hp} (h : slE v k = some p) : ∃ b o n c g, v = .slice b o n c g ∧ k b o n = some p:=by
 cases v <;> first | exact ⟨_, _, _, _, _, rfl, h⟩ | (exact absurd h (by intro h; cases h))
theorem lenE_some {v : V} {k : Nat → VH} {p : V × Hp} (h : lenE v k = some p) : (∃ b o n c g, v = .slice b o n c g ∧ k n = some p) ∨ (v = .nilSlice ∧ k 0 = some p):=by
 cases v <;> first | exact Or.inl ⟨_, _, _, _, _, rfl, h⟩ | exact Or.inr ⟨rfl, h⟩ | (exact absurd h (by intro h; cases h))
theorem soundE_some {v : V} {k : V → VH} {p : V × Hp} (h : soundE v k = some p) (hp : Hp) : exNil hp (some v) = some (v, hp) ∧ k v = some p:=by
 cases v <;> first | exact ⟨rfl, h⟩ | (exact absurd h (by intro h; cases h))
theorem natE_some {v : V} {k : Nat → VH} {p : V × Hp} (h : natE v k = some p) : ∃ n, natA (some v) = some n ∧ k n = some p:=by
 obtain ⟨d, n, rfl, h⟩:=intE_some h
 cases n with
 | ofNat m => exact ⟨m, rfl, h⟩
 | negSucc m => exact absurd h (by intro h; cases h)
theorem lstE_some {x : Option (List V)} {k : List V → VH} {p : V × Hp} (h : lstE x k = some p) : ∃ l, x = some l ∧ k l = some p:=by
 cases x <;> first | exact ⟨_, rfl, h⟩ | (exact absurd h (by intro h; cases h))
theorem natO_some {x : Option Nat} {k : Nat → VH} {p : V × Hp} (h : natO x k = some p) : ∃ l, x = some l ∧ k l = some p:=by
 cases x <;> first | exact ⟨_, rfl, h⟩ | (exact absurd h (by intro h; cases h))
theorem trO_some {x : Option (Tr V)} {k : Tr V → VH} {p : V × Hp} (h : trO x k = some p) : ∃ l, x = some l ∧ k l = some p:=by
 cases x <;> first | exact ⟨_, rfl, h⟩ | (exact absurd h (by intro h; cases h))
theorem whenE_some {b : Bool} {x : VH} {p : V × Hp} (h : whenE b x = some p) : b = true ∧ x = some p:=by
 cases b <;> first | exact ⟨rfl, h⟩ | (exact absurd h (by intro h; cases h))
theorem cellE_some {o : Option Ob} {k : Tr V → Nat → Bool → TypeId → VH} {p : V × Hp} (h : cellE o k = some p) : ∃ t n g e, o = some (.cells t n g e) ∧ k t n g e = some p:=by
 cases o with
 | none => exact absurd h (by intro h; cases h)
 | some ob => cases ob <;> first | exact ⟨_, _, _, _, rfl, h⟩ | (exact absurd h (by intro h; cases h))
theorem load1_some {a : V} {h : Hp} {k : V → VH} {p : V × Hp} {ty : TypeId} (ha : aggT P ty = some false) (hl : load1 a h k = some p) : ∃ v, exLoad P h ty (some a) = some (v, h) ∧ k v = some p:=by
 obtain ⟨b, o, rfl, hl⟩:=ptrE_some hl
 obtain ⟨c, hb, hl⟩:=trO_some hl
 obtain ⟨v, hv, hl⟩:=optS_some hl
 exact ⟨v, by simp only [exLoad, loadV, hb, ha, hv, vh], hl⟩
theorem store1_some {a x : V} {h : Hp} {k : Hp → VH} {p : V × Hp} {ty : TypeId} (hsz : sz P ty = some 1) (hx : oneCell x = true) (hl : store1 a x h k = some p) : ∃ h', exStore P h ty (some a) (some x) = some (unitV, h') ∧ k h' = some p:=by
 obtain ⟨b, o, rfl, hl⟩:=ptrE_some hl
 obtain ⟨c, n, gr, e, hb, hl⟩:=cellE_some hl
 cases hle : Nat.ble (Nat.succ o) n with
 | false => rw [hle] at hl; exact absurd hl (by intro h; cases h)
 | true =>
  rw [hle] at hl
  refine ⟨_, ?_, hl⟩
  have hc : vcells x = [x]:=by cases x <;> first | rfl | (cases hx)
  simp only [exStore, storeV, storeO, hb, hsz, hc]
  have h1 : Nat.ble (o + 1) n = true:=hle
  simp [h1, allOne, hx, Tr.setL_cons, Tr.setL_nil]
theorem storeB_some {ob : Option Ob} {k : Ob → VH} {p : V × Hp} (h : storeB ob k = some p) : ∃ o, ob = some o ∧ k o = some p:=by
 cases ob with
 | none => cases h
 | some o => exact ⟨o, rfl, h⟩
theorem madeS_some {n low : Nat} {h : Hp} {k : Hp → VH} {p : V × Hp} (hm : madeS n low h k = some p) : Nat.ble n h.low = true ∧ k ⟨h.t, h.n, low⟩ = some p:=by
 unfold madeS at hm
 cases hb : Nat.ble n h.low <;> rw [hb] at hm
 ·cases hm
 ·exact ⟨rfl, hm⟩
theorem extS_some {i : Nat} {v : V} {k : V → VH} {p : V × Hp} (h : extS i v k = some p) (hp : Hp) : ∃ x, exExtract hp i (some v) = some (x, hp) ∧ k x = some p:=by
 cases v <;> try (cases h; done)
 rename_i vs
 obtain ⟨x, hx, h⟩:=optS_some h
 rw [nth_eq] at hx
 exact ⟨x, by simp only [exExtract, hx, vh], h⟩
def CallsOk (P : Program) (g : Nat → List V → Hp → VH) : Prop:=∀ f as h p, g (2 * f) as h = some p → ∃ n, enterV P (run P n) h (some (f, as)) = some p
variable {g : Nat → List V → Hp → VH}
theorem intS_some {op : BinOp} {a b : V} {k : V → VH} {p : V × Hp} {d : Option TypeDesc} (hsh : shiftB op = false) (h : intS op a b k = some p) : ∃ v, binV d op a b = some v ∧ k v = some p:=by
 unfold intS at h
 obtain ⟨d1, m, ha, h1⟩:=intE_some h
 obtain ⟨d2, n, hb, h2⟩:=intE_some h1
 subst ha; subst hb
 cases hk : kEq d1 d2 <;> rw [hk] at h2
 ·cases h2
 ·obtain ⟨v, hv, h3⟩ := optS_some h2
  exact ⟨v, by simp only [binV, hsh, hk, cond_false, cond_true, hv], h3⟩
theorem shS_some {op : BinOp} {a b : V} {k : V → VH} {p : V × Hp} {d : Option TypeDesc} (hsh : shiftB op = true) (h : shS op a b k = some p) : ∃ v, binV d op a b = some v ∧ k v = some p:=by
 unfold shS at h
 obtain ⟨d1, m, ha, h1⟩:=intE_some h
 obtain ⟨d2, n, hb, h2⟩:=intE_some h1
 subst ha; subst hb
 obtain ⟨v, hv, h3⟩:=optS_some h2
 exact ⟨v, by simp only [binV, hsh, cond_true, hv], h3⟩
theorem strS_some {op : BinOp} {a b : V} {k : V → VH} {p : V × Hp} {d : Option TypeDesc} (h : strS op a b k = some p) : ∃ v, binV d op a b = some v ∧ k v = some p:=by
 unfold strS at h
 obtain ⟨m, rfl, h1⟩:=strE_some h
 obtain ⟨n, rfl, h2⟩:=strE_some h1
 obtain ⟨v, hv, h3⟩:=optS_some h2
 exact ⟨v, by simp only [binV, hv], h3⟩
theorem eqS_some {d : TypeDesc} {op : BinOp} {a b : V} {k : V → VH} {p : V × Hp} (h : eqS d op a b k = some p) : ∃ v, binV (some d) op a b = some v ∧ k v = some p:=by
 unfold eqS at h
 obtain ⟨v, hv, h⟩:=optS_some h
 refine ⟨v, ?_, h⟩
 have he : eqAny (some d) op a b = some v:=hv
 cases a <;> first
  | exact he
  | (cases d <;> cases op <;> exact absurd hv (by intro h; cases h))
theorem binD_some {d : Option TypeDesc} {op : BinOp} {a b : V} {k : V → VH} {p : V × Hp} (h : binD d op a b k = some p) : ∃ v, binV d op a b = some v ∧ k v = some p:=by
 unfold binD at h
 split at h
 ·simp only [cD_eq] at h
  cases hs : shiftB op <;> rw [hs] at h
  ·exact intS_some hs h
  ·exact shS_some hs h
 ·exact strS_some h
 ·exact eqS_some h
 ·cases h
theorem loadD_some {ty : TypeId} {a : V} {h : Hp} {k : V → Hp → VH} {p : V × Hp} (hl : loadD P ty a h k = some p) : ∃ v h', exLoad P h ty (some a) = some (v, h') ∧ k v h' = some p:=by
 unfold loadD at hl
 split at hl
 ·rename_i ha
  obtain ⟨v, h1, h2⟩:=load1_some ha hl
  exact ⟨v, h, h1, h2⟩
 ·rename_i ha
  split at hl
  ·rename_i s hs
   unfold loadN at hl
   obtain ⟨b, o, rfl, hl⟩:=ptrE_some hl
   obtain ⟨c, hb, hl⟩:=trO_some hl
   obtain ⟨l, hv, hl⟩:=lstE_some hl
   exact ⟨_, h, by simp only [exLoad, loadV, hb, ha, hs, hv, vh], hl⟩
  ·cases hl
 ·cases hl
theorem storeD_some {ty : TypeId} {a x : V} {h : Hp} {k : V → Hp → VH} {p : V × Hp} (hl : storeD P ty a x h k = some p) : ∃ v h', exStore P h ty (some a) (some x) = some (v, h') ∧ k v h' = some p:=by
 unfold storeD at hl
 split at hl
 ·split at hl
  ·rename_i hsz
   unfold storeC at hl
   cases hx : oneCell x <;> rw [hx] at hl
   ·cases hl
   ·obtain ⟨h', h1, h2⟩ := store1_some hsz hx hl
    exact ⟨_, h', h1, h2⟩
  ·exact bindS_some hl
 ·split at hl
  ·rename_i s hs
   unfold storeN at hl
   obtain ⟨b, o, rfl, hl⟩:=ptrE_some hl
   obtain ⟨c, n, g, e, hb, hl⟩:=cellE_some hl
   obtain ⟨hw, hl⟩:=whenE_some hl
   exact ⟨_, _, by simp only [exStore, storeV, storeO, hb, hs, hw, cond_true], hl⟩
  ·cases hl
 ·cases hl
theorem fieldAddrD_some {ty : TypeId} {f : Nat} {a : V} {k : V → VH} {p : V × Hp} (hd : fieldAddrD P (P.underlying ty) f a k = some p) (h : Hp) : ∃ v, exFieldAddr P h ty f (some a) = some (v, h) ∧ k v = some p:=by
 unfold fieldAddrD at hd
 split at hd
 ·rename_i fields hu
  split at hd
  ·rename_i fl hf
   split at hd
   ·rename_i s hs
    simp only [cD_eq] at hd
    cases hb : Nat.beq s 0 <;> rw [hb] at hd
    ·unfold addrS at hd
     simp only [cond_false] at hd
     obtain ⟨b, o, rfl, hd⟩:=ptrE_some hd
     exact ⟨_, by simp only [exFieldAddr, hu, hf, hs, hb, cond_false]; rfl, hd⟩
    ·cases hd
   ·cases hd
  ·cases hd
 ·cases hd
theorem fieldD_some {ty : TypeId} {f : Nat} {a : V} {k : V → VH} {p : V × Hp} (hd : fieldD P (P.underlying ty) f a k = some p) (h : Hp) : ∃ v, exField P h ty f (some a) = some (v, h) ∧ k v = some p:=by
 unfold fieldD at hd
 split at hd
 ·rename_i fields hu
  split at hd
  ·rename_i fl hf
   split at hd
   ·rename_i ha
    split at hd
    ·rename_i s hs
     unfold fldN at hd
     obtain ⟨l, rfl, hd⟩:=aggE_some hd
     exact ⟨_, by simp only [exField, hu, hf, partV, ha, hs, vh], hd⟩
    ·cases hd
   ·rename_i ha
    unfold fld1 at hd
    obtain ⟨l, rfl, hd⟩:=aggE_some hd
    obtain ⟨v, hv, hd⟩:=optS_some hd
    rw [nth_eq] at hv
    exact ⟨v, by simp only [exField, hu, hf, partV, ha, hv, vh], hd⟩
   ·cases hd
  ·cases hd
 ·cases hd
theorem indexAddrD_some {ty : TypeId} {x i : V} {k : V → VH} {p : V × Hp} (hd : indexAddrD P (P.underlying ty) x i k = some p) (h : Hp) : ∃ v, exIndexAddr P h ty (some x) (natA (some i)) = some (v, h) ∧ k v = some p:=by
 unfold indexAddrD at hd
 split at hd
 ·rename_i elem hu
  split at hd
  ·rename_i s hs
   unfold idxS at hd
   obtain ⟨b, o, n, c, g, rfl, hd⟩:=slE_some hd
   obtain ⟨m, hm, hd⟩:=natE_some hd
   obtain ⟨hw, hd⟩:=whenE_some hd
   exact ⟨_, by simp only [exIndexAddr, hm, hu, hs, hw, cond_true]; rfl, hd⟩
  ·cases hd
 ·rename_i len elem hu
  split at hd
  ·rename_i s hs
   unfold idxP at hd
   obtain ⟨b, o, rfl, hd⟩:=ptrE_some hd
   obtain ⟨m, hm, hd⟩:=natE_some hd
   obtain ⟨hw, hd⟩:=whenE_some hd
   exact ⟨_, by simp only [exIndexAddr, hm, hu, hs, hw, cond_true]; rfl, hd⟩
  ·cases hd
 ·cases hd
theorem indexD_some {ty : TypeId} {x i : V} {k : V → VH} {p : V × Hp} (hd : indexD P (P.underlying ty) x i k = some p) (h : Hp) : ∃ v, exIndex P h ty (some x) (natA (some i)) = some (v, h) ∧ k v = some p:=by
 unfold indexD at hd
 split at hd
 ·rename_i hu
  unfold idxStr at hd
  obtain ⟨l, rfl, hd⟩:=strE_some hd
  obtain ⟨m, hm, hd⟩:=natE_some hd
  obtain ⟨b, hb, hd⟩:=natO_some hd
  exact ⟨_, by simp only [exIndex, hm, hu, hb], hd⟩
 ·rename_i len elem hu
  split at hd
  ·rename_i s hs
   split at hd
   ·rename_i ha
    unfold idxAN at hd
    obtain ⟨l, rfl, hd⟩:=aggE_some hd
    obtain ⟨m, hm, hd⟩:=natE_some hd
    obtain ⟨hw, hd⟩:=whenE_some hd
    exact ⟨_, by simp only [exIndex, hm, hu, hs, hw, cond_true, partV, ha, vh]; rfl, hd⟩
   ·rename_i ha
    unfold idxA1 at hd
    obtain ⟨l, rfl, hd⟩:=aggE_some hd
    obtain ⟨m, hm, hd⟩:=natE_some hd
    obtain ⟨hw, hd⟩:=whenE_some hd
    obtain ⟨v, hv, hd⟩:=optS_some hd
    refine ⟨v, ?_, hd⟩
    rw [nth_eq] at hv
    have hv' : getN l (m * s) = some v:=hv
    simp only [exIndex, hm, hu, hs, hw, cond_true, partV, ha, hv', vh]
   ·cases hd
  ·cases hd
 ·cases hd
theorem lenD_some {ty : TypeId} {as : List V} {tys : List TypeId} {h : Hp} {k : V → Hp → VH} {p : V × Hp} (hd : lenD (P.underlying ty) as h k (bindS (exLen P h (some as) (ty :: tys)) k) = some p) :
 ∃ v h', exLen P h (some as) (ty :: tys) = some (v, h') ∧ k v h' = some p:=by
 unfold lenD at hd
 split at hd
 ·rename_i hu
  split at hd
  ·unfold lenStr at hd
   obtain ⟨l, rfl, hd⟩:=strE_some hd
   exact ⟨_, h, by simp only [exLen, hu, lenV], hd⟩
  ·cases hd
 ·rename_i hu
  split at hd
  ·unfold lenSl at hd
   rcases lenE_some hd with ⟨b, o, n, c, g, rfl, hd⟩ | ⟨rfl, hd⟩
   ·exact ⟨_, h, by simp only [exLen, hu, lenV], hd⟩
   ·exact ⟨_, h, by simp only [exLen, hu, lenV], hd⟩
  ·cases hd
 ·rename_i kt et hu
  split at hd
  ·rename_i x _
   unfold lenMp at hd
   obtain ⟨n, hn, hd⟩:=natO_some hd
   refine ⟨_, h, ?_, hd⟩
   have hn' : lenV h (.map kt et) x = some n:=by
    rw [← hn]; cases x <;> rfl
   simp only [exLen, hu, hn']
  ·cases hd
 ·exact bindS_some hd
theorem appD_some {ty ty2 : TypeId} {as : List V} {tys : List TypeId} {h : Hp} {k : V → Hp → VH} {p : V × Hp} (hd : appD P (P.underlying ty) (P.underlying ty2) as h k (bindS (exAppend P h (some as) (ty :: ty2 :: tys)) k) = some p) :
 ∃ v h', exAppend P h (some as) (ty :: ty2 :: tys) = some (v, h') ∧ k v h' = some p:=by
 unfold appD at hd
 split at hd
 ·rename_i elem hu
  have key : appD2 P elem as h k (bindS (exAppend P h (some as) (ty :: ty2 :: tys)) k) = some p → ((∃ e, P.underlying ty2 = some (.slice e)) ∨ P.underlying ty2 = some .string) → ∃ v h', exAppend P h (some as) (ty :: ty2 :: tys) = some (v, h') ∧ k v h' = some p:=by
   intro hd hty2
   unfold appD2 at hd
   split at hd
   ·rename_i s x
    split at hd
    ·rename_i info hi
     unfold appZ at hd
     split at hd
     ·rename_i z hz
      simp only [cD_eq] at hd
      cases hb : Nat.beq (vcells z).length info.size <;> rw [hb] at hd
      ·exact bindS_some hd
      ·obtain ⟨v, h', hv, hd⟩ := bindS_some hd
       refine ⟨v, h', ?_, hd⟩
       unfold appS at hv
       rcases hty2 with ⟨e, h2⟩ | h2
       ·simp only [exAppend, hu, h2, appendV, hi, hz, hb, cond_true, hv]
       ·simp only [exAppend, hu, h2, appendV, hi, hz, hb, cond_true, hv]
     ·cases hd
    ·cases hd
   ·cases hd
  unfold appT at hd
  split at hd
  ·rename_i e h2
   exact key hd (.inl ⟨e, h2⟩)
  ·rename_i h2
   exact key hd (.inr h2)
  ·cases hd
 ·cases hd
theorem builtinD_some {b : Builtin} {as : List V} {tys : List TypeId} {h : Hp} {k : V → Hp → VH} {p : V × Hp} (hd : builtinD P h b as tys k = some p) : ∃ v h', exBuiltinP P h b as tys = some (v, h') ∧ k v h' = some p:=by
 unfold builtinD at hd
 split at hd
 ·split at hd
  ·exact lenD_some hd
  ·cases hd
 ·split at hd
  ·exact appD_some hd
  ·cases hd
 ·cases hd
theorem buildD_some {ty : TypeId} {t : Tr V} {parts : List (Nat × Operand)} {ps : List (Nat × V)} (hp : evalP t parts = some ps) {h : Hp} {k : V → Hp → VH} {p : V × Hp} (hd : buildD P (P.underlying ty) h (zero P ty) ps k = some p) :
 ∃ v h', exBuild P t h ty parts = some (v, h') ∧ k v h' = some p:=by
 unfold buildD at hd
 split at hd
 ·cases hd
 ·rename_i z hz
  split at hd
  ·rename_i fields hu
   split at hd
   ·rename_i pl hpl
    obtain ⟨v, h', hv, hd⟩:=bindS_some hd
    exact ⟨v, h', by simp only [exBuild, hp, hz, hu, bld, hpl]; exact hv, hd⟩
   ·cases hd
  ·rename_i len elem hu
   split at hd
   ·rename_i s hs
    obtain ⟨v, h', hv, hd⟩:=bindS_some hd
    exact ⟨v, h', by simp only [exBuild, hp, hz, hu, bld, hs]; exact hv, hd⟩
   ·cases hd
  ·cases hd
theorem buildSliceD_some {ty : TypeId} {t : Tr V} {len : Nat} {parts : List (Nat × Operand)} {ps : List (Nat × V)} (hp : evalP t parts = some ps) {h : Hp} {k : V → Hp → VH} {p : V × Hp} (hd : buildSliceD P (P.underlying ty) h len ps k = some p) :
 ∃ v h', exBuildSlice P t h ty len parts = some (v, h') ∧ k v h' = some p:=by
 unfold buildSliceD at hd
 split at hd
 ·rename_i elem hu
  split at hd
  ·cases hd
  ·rename_i s hs
   split at hd
   ·cases hd
   ·rename_i z hz
    obtain ⟨v, h', hv, hd⟩:=bindS_some hd
    exact ⟨v, h', by simp only [exBuildSlice, hp, hu, hs, hz]; exact hv, hd⟩
 ·cases hd
theorem evalM_bound {t : Tr V} {y : Option Operand} {v : Option V} (h : evalM t y = some v) (d : Nat) : bound t d y = boundP d v:=by
 cases y with
 | none => simp only [evalM, Option.some.injEq] at h; subst h; rfl
 | some y =>
  simp only [evalM] at h
  split at h
  ·rename_i x hx
   simp only [Option.some.injEq] at h; subst h
   simp only [bound, hx, boundP]
  ·cases h
theorem sliceD_some {ty : TypeId} {t : Tr V} {x : V} {lo hi : Option Operand} {lo' hi' : Option V} (h1 : evalM t lo = some lo') (h2 : evalM t hi = some hi') {h : Hp} {k : V → Hp → VH} {p : V × Hp}
 (hd : sliceD P (P.underlying ty) h x lo' hi' k = some p) : ∃ v h', exSlice P t h ty (some x) lo hi = some (v, h') ∧ k v h' = some p:=by
 unfold sliceD at hd
 split at hd
 ·rename_i hu
  unfold slStrK at hd
  obtain ⟨l, rfl, hd⟩:=strE_some hd
  obtain ⟨a, ha, hd⟩:=natO_some hd
  obtain ⟨b, hb, hd⟩:=natO_some hd
  obtain ⟨hw, hd⟩:=whenE_some hd
  exact ⟨_, h, by simp only [exSlice, hu, evalM_bound h1, evalM_bound h2, ha, hb, slStr, hw, cond_true], hd⟩
 ·rename_i elem hu
  split at hd
  ·rename_i s hs
   obtain ⟨v, h', hv, hd⟩:=bindS_some hd
   refine ⟨v, h', ?_, hd⟩
   unfold slSlK at hv
   split at hv
   ·obtain ⟨a, ha, hv⟩ := natO_some hv
    obtain ⟨b, hb, hv⟩:=natO_some hv
    simp only [exSlice, hu, evalM_bound h1, evalM_bound h2, ha, hb, slSl, hs]
    exact hv
   ·obtain ⟨a, ha, hv⟩ := natO_some hv
    obtain ⟨b, hb, hv⟩:=natO_some hv
    obtain ⟨hw, hv⟩:=whenE_some hv
    simp only [Bool.and_eq_true] at hw
    have e1:=Nat.eq_of_beq_eq_true hw.1
    have e2:=Nat.eq_of_beq_eq_true hw.2
    subst e1; subst e2
    simp only [exSlice, hu, evalM_bound h1, evalM_bound h2, ha, hb, hs]
    exact hv
   ·cases hv
  ·cases hd
 ·cases hd
theorem convD_some {src dst : TypeId} {x : V} {k : V → VH} {p : V × Hp} (hd : convD (P.underlying src) (P.underlying dst) x k = some p) (h : Hp) : ∃ v, exConv P h src dst (some x) = some (v, h) ∧ k v = some p:=by
 unfold convD at hd
 split at hd
 ·rename_i hs
  split at hd
  ·rename_i ht
   unfold convI at hd
   obtain ⟨d, n, rfl, hd⟩:=intE_some hd
   exact ⟨_, by simp only [exConv, hs, ht], hd⟩
  ·cases hd
 ·rename_i hs
  split at hd
  ·rename_i ht
   unfold convS at hd
   obtain ⟨l, rfl, hd⟩:=strE_some hd
   exact ⟨_, by simp only [exConv, hs, ht], hd⟩
  ·cases hd
 ·cases hd
theorem unD_some {op : UnOp} {x : V} {k : V → VH} {p : V × Hp} (hd : unD op x k = some p) (h : Hp) : ∃ v, exUn h op (some x) = some (v, h) ∧ k v = some p:=by
 unfold unD at hd
 split at hd
 ·unfold notS at hd
  obtain ⟨b, rfl, hd⟩:=boolE_some hd
  exact ⟨_, rfl, hd⟩
 ·unfold negS at hd
  obtain ⟨d, n, rfl, hd⟩:=intE_some hd
  exact ⟨_, rfl, hd⟩
 ·cases hd
theorem ifaceD_some {ty : TypeId} {x : V} {h : Hp} {k : V → Hp → VH} {p : V × Hp} (hd : ifaceD (P.underlying ty) (k (.iface ty x) h) = some p) : exIface P h ty (some x) = some (.iface ty x, h) ∧ k (.iface ty x) h = some p:=by
 unfold ifaceD at hd
 split at hd
 ·cases hd
 ·rename_i d hne hu
  refine ⟨?_, hd⟩
  simp only [exIface, hu]
 ·cases hd
theorem makeD_some {ty : TypeId} {l c : V} {h : Hp} {k : V → Hp → VH} {p : V × Hp} (hd : makeD P (P.underlying ty) l c h k = some p) : ∃ v h', exMake P h ty (some l) (some c) = some (v, h') ∧ k v h' = some p:=by
 unfold makeD at hd
 split at hd
 ·rename_i elem hu
  split at hd
  ·rename_i info hi
   split at hd
   ·rename_i z hz
    obtain ⟨v, h', hv, hd⟩:=bindS_some hd
    unfold mkS natOf at hv
    obtain ⟨a, ha, hv⟩:=natO_some hv
    obtain ⟨b, hb, hv⟩:=natO_some hv
    exact ⟨v, h', by simp only [exMake, ha, hb, exMakeSlice, hu, hi, hz]; exact hv, hd⟩
   ·cases hd
  ·cases hd
 ·cases hd
theorem lookD_some {ty : TypeId} {ok : Bool} {x key : V} {h : Hp} {k : V → Hp → VH} {p : V × Hp} (hd : lookD P (P.underlying ty) ok x key h k = some p) : ∃ v h', exLookup P h ty ok (some x) (some key) = some (v, h') ∧ k v h' = some p:=by
 unfold lookD at hd
 split at hd
 ·rename_i kt elem hu
  split at hd
  ·rename_i d hk
   obtain ⟨v, h', hv, hd⟩:=bindS_some hd
   refine ⟨v, h', ?_, hd⟩
   unfold lookS at hv
   obtain ⟨hw, hv⟩:=whenE_some hv
   simp only [exLookup, hu, hk, hw, cond_true]
   exact hv
  ·cases hd
 ·cases hd
theorem updD_some {ty : TypeId} {m key x : V} {h : Hp} {k : V → Hp → VH} {p : V × Hp} (hd : updD P (P.underlying ty) m key x h k = some p) : ∃ v h', exMapUpdate P h ty (some m) (some key) (some x) = some (v, h') ∧ k v h' = some p:=by
 unfold updD at hd
 split at hd
 ·rename_i kt elem hu
  split at hd
  ·rename_i d hk
   obtain ⟨v, h', hv, hd⟩:=bindS_some hd
   refine ⟨v, h', ?_, hd⟩
   unfold updS at hv
   split at hv
   ·obtain ⟨hw, hv⟩ := whenE_some hv
    simp only [exMapUpdate, hu, hk, hw, cond_true]
    exact hv
   ·cases hv
  ·cases hd
 ·cases hd
theorem isCall_false {o : Oper} (h : ∀ c, o.op = .call c → ∀ f, c.callee ≠ .value f) : isCall o = false:=by
 unfold isCall callOp
 split
 ·rename_i x heq
  exact absurd rfl (h _ heq _)
 ·rfl
theorem opV_exec {r : Rn} {t : Tr V} {h : Hp} {o : Oper} (hc : isCall o = false) : opV P r t h o = execV P t h o.op:=by
 unfold opV; rw [hc]; rfl
theorem denOpC_sound (hg : CallsOk P g) {o : Oper} (hx0 : xk o.op = 0) {t : Tr V} {h : Hp} {k : V → Hp → VH} {p : V × Hp} (hd : denOpC P g o t h k = some p) : ∃ n v h', opV P (run P n) t h o = some (v, h') ∧ k v h' = some p:=by
 have plain : ∀ {v : V} {h' : Hp}, (∀ c, o.op ≠ .call c) → execC P t h o.op = some (v, h') → k v h' = some p → ∃ n v h', opV P (run P n) t h o = some (v, h') ∧ k v h' = some p :=
  fun hn h1 h2 => ⟨0, _, _, by rw [opV_exec (isCall_false (by intro c hc; exact (hn c hc).elim)), execV_zero hx0]; exact h1, h2⟩
 unfold denOpC at hd
 split at hd <;> rename_i heq
 case h_1 x =>
  obtain ⟨v, hv, hd⟩:=optS_some hd
  exact plain (by rw [heq]; simp) (by rw [heq]; simp only [execC, hv, vh]) hd
 case h_2 x =>
  obtain ⟨v, hv, hd⟩:=optS_some hd
  exact plain (by rw [heq]; simp) (by rw [heq]; simp only [execC, hv, vh]) hd
 case h_3 op ty x y _ =>
  obtain ⟨a, b, ha, hb, hd⟩:=opt2_some hd
  obtain ⟨v, hv, hd⟩:=binD_some hd
  exact plain (by rw [heq]; simp) (by rw [heq]; simp only [execC, exBin, ha, hb, hv, vh]) hd
 case h_4 ty a =>
  obtain ⟨a, ha, hd⟩:=optS_some hd
  obtain ⟨v, h', hv, hd⟩:=loadD_some hd
  exact plain (by rw [heq]; simp) (by rw [heq]; simp only [execC, ha]; exact hv) hd
 case h_5 ty a x =>
  obtain ⟨a, x, ha, hx, hd⟩:=opt2_some hd
  obtain ⟨v, h', hv, hd⟩:=storeD_some hd
  exact plain (by rw [heq]; simp) (by rw [heq]; simp only [execC, ha, hx]; exact hv) hd
 case h_6 x i =>
  obtain ⟨v, hv, hd⟩:=optS_some hd
  obtain ⟨x, hx, hd⟩:=extS_some hd h
  exact plain (by rw [heq]; simp) (by rw [heq]; simp only [execC, hv]; exact hx) hd
 case h_7 c =>
  unfold callD at hd
  split at hd
  ·rename_i f hf
   obtain ⟨v, hv, hd⟩:=optS_some hd
   split at hd
   ·rename_i as has
    obtain ⟨x, h', hx, hd⟩:=bindS_some hd
    unfold dynE at hx
    split at hx
    ·rename_i f' first cap
     obtain ⟨n, hn⟩:=hg _ _ _ _ hx
     refine ⟨n, x, h', ?_, by assumption⟩
     obtain ⟨callee, ⟨args⟩, aty⟩:=c
     simp only at hf
     subst hf
     unfold opV
     have h1 : isCall o = true:=by unfold isCall; rw [heq]; rfl
     have h2 : calleeV t o = some (f', first ++ as ++ cap):=by
      unfold calleeV; rw [heq]; simp only [hv]
      rw [show evalL t args = some as from has]
     rw [h1, h2]
     exact hn
    ·cases hx
   ·cases hd
  ·rename_i b hb
   split at hd
   ·rename_i as has
    obtain ⟨v, h', hv, hd⟩:=builtinD_some hd
    refine ⟨0, v, h', ?_, hd⟩
    rw [opV_exec (isCall_false (by rw [heq]; intro c' hc; cases hc; rw [hb]; exact fun f hf => by cases hf)), execV_zero hx0, heq]
    simp only [execC, exCall, hb]
    unfold exBuiltinP at hv
    unfold exBuiltin
    rw [has]
    exact hv
   ·cases hd
  ·cases hd
 case h_8 ty parts =>
  split at hd
  ·rename_i ps hps
   obtain ⟨v, h', hv, hd⟩:=buildD_some hps hd
   exact plain (by rw [heq]; simp) (by rw [heq]; exact hv) hd
  ·cases hd
 case h_9 ty len parts =>
  split at hd
  ·rename_i ps hps
   obtain ⟨v, h', hv, hd⟩:=buildSliceD_some hps hd
   exact plain (by rw [heq]; simp) (by rw [heq]; exact hv) hd
  ·cases hd
 case h_10 c a b =>
  obtain ⟨c, hc, hd⟩:=optS_some hd
  obtain ⟨a, b, ha, hb, hd⟩:=opt2_some hd
  obtain ⟨v, hv, hd⟩:=optS_some hd
  refine plain (v:=v) (h':=h) (by rw [heq]; simp) ?_ hd
  rw [heq]
  simp only [execC, exPick, hc]
  unfold pickV at hv
  split at hv
  ·simp only [ha, vh, hv]
  ·simp only [hb, vh, hv]
  ·cases hv
 case h_11 f first cap =>
  split at hd
  ·rename_i as has
   split at hd
   ·rename_i cs hcs
    exact plain (by rw [heq]; simp) (by rw [heq]; simp only [execC, exFunc, has, hcs]) hd
   ·cases hd
  ·cases hd
 case h_12 ty x lo hi =>
  obtain ⟨x, hx, hd⟩:=optS_some hd
  split at hd
  ·rename_i lo' hlo
   split at hd
   ·rename_i hi' hhi
    obtain ⟨v, h', hv, hd⟩:=sliceD_some hlo hhi hd
    exact plain (by rw [heq]; simp) (by rw [heq]; simp only [execC, hx]; exact hv) hd
   ·cases hd
  ·cases hd
 case h_13 e =>
  unfold allocD newS at hd
  split at hd
  ·rename_i z hz
   exact plain (by rw [heq]; simp) (by rw [heq]; simp only [execC, exAlloc, hz]) hd
  ·cases hd
 case h_14 e x =>
  obtain ⟨x, hx, hd⟩:=optS_some hd
  exact plain (by rw [heq]; simp) (by rw [heq]; simp only [execC, hx]; rfl) hd
 case h_15 x =>
  obtain ⟨x, hx, hd⟩:=optS_some hd
  obtain ⟨h1, hd⟩:=soundE_some hd h
  exact plain (by rw [heq]; simp) (by rw [heq]; simp only [execC, hx]; exact h1) hd
 case h_16 op _ x =>
  obtain ⟨x, hx, hd⟩:=optS_some hd
  obtain ⟨v, hv, hd⟩:=unD_some hd h
  exact plain (by rw [heq]; simp) (by rw [heq]; simp only [execC, hx]; exact hv) hd
 case h_17 s d x =>
  obtain ⟨x, hx, hd⟩:=optS_some hd
  obtain ⟨v, hv, hd⟩:=convD_some hd h
  exact plain (by rw [heq]; simp) (by rw [heq]; simp only [execC, hx]; exact hv) hd
 case h_18 ty x =>
  obtain ⟨x, hx, hd⟩:=optS_some hd
  obtain ⟨hv, hd⟩:=ifaceD_some hd
  exact plain (by rw [heq]; simp) (by rw [heq]; simp only [execC, hx]; exact hv) hd
 case h_19 _ =>
  exact plain (by rw [heq]; simp) (by rw [heq]; rfl) hd
 case h_20 ty l c =>
  obtain ⟨l, c, hl, hc, hd⟩:=opt2_some hd
  obtain ⟨v, h', hv, hd⟩:=makeD_some hd
  exact plain (by rw [heq]; simp) (by rw [heq]; simp only [execC, hl, hc]; exact hv) hd
 case h_21 ty x f =>
  obtain ⟨x, hx, hd⟩:=optS_some hd
  obtain ⟨v, hv, hd⟩:=fieldAddrD_some hd h
  exact plain (by rw [heq]; simp) (by rw [heq]; simp only [execC, hx]; exact hv) hd
 case h_22 ty x f =>
  obtain ⟨x, hx, hd⟩:=optS_some hd
  obtain ⟨v, hv, hd⟩:=fieldD_some hd h
  exact plain (by rw [heq]; simp) (by rw [heq]; simp only [execC, hx]; exact hv) hd
 case h_23 ty x i =>
  obtain ⟨x, i, hx, hi, hd⟩:=opt2_some hd
  obtain ⟨v, hv, hd⟩:=indexAddrD_some hd h
  exact plain (by rw [heq]; simp) (by rw [heq]; simp only [execC, hx, hi]; exact hv) hd
 case h_24 ty x i =>
  obtain ⟨x, i, hx, hi, hd⟩:=opt2_some hd
  obtain ⟨v, hv, hd⟩:=indexD_some hd h
  exact plain (by rw [heq]; simp) (by rw [heq]; simp only [execC, hx, hi]; exact hv) hd
 case h_25 ty x i ok =>
  obtain ⟨x, i, hx, hi, hd⟩:=opt2_some hd
  obtain ⟨v, h', hv, hd⟩:=lookD_some hd
  exact plain (by rw [heq]; simp) (by rw [heq]; simp only [execC, hx, hi]; exact hv) hd
 case h_26 ty m key x =>
  obtain ⟨m, hm, hd⟩:=optS_some hd
  obtain ⟨key, x, hk, hx, hd⟩:=opt2_some hd
  obtain ⟨v, h', hv, hd⟩:=updD_some hd
  exact plain (by rw [heq]; simp) (by rw [heq]; simp only [execC, hm, hk, hx]; exact hv) hd
 all_goals
  obtain ⟨v, h', hv, hd⟩:=bindS_some hd
  exact plain (by intro c hc; simp_all) hv hd
theorem denOp_sound (hg : CallsOk P g) {o : Oper} {t : Tr V} {h : Hp} {k : V → Hp → VH} {p : V × Hp} (hd : denOp P g o t h k = some p) : ∃ n v h', opV P (run P n) t h o = some (v, h') ∧ k v h' = some p:=by
 unfold denOp at hd
 rw [cD_eq] at hd
 cases hb : Nat.beq (xk o.op) 0 with
 | true =>
  rw [hb, cond_true] at hd
  exact denOpC_sound hg (Nat.eq_of_beq_eq_true hb) hd
 | false =>
  rw [hb, cond_false] at hd
  have hx : xk o.op ≠ 0:=fun e => by rw [e] at hb; cases hb
  have hc : isCall o = false:=by
   cases hc : isCall o with
   | false => rfl
   | true => exact (hx (xk_call hc)).elim
  unfold denX at hd
  split at hd
  ·rename_i as has
   obtain ⟨v, h', hv, hd⟩:=bindS_some hd
   refine ⟨0, v, h', ?_, hd⟩
   rw [opV_exec hc, execV_ne hx]
   unfold execX
   rw [has]; exact hv
  ·cases hd
end
end Go.Mid
end
