/- Every operation that calls nobody. -/
import Derived.Test.YthbcbfgpfpogkaaGreatFMidI
set_option linter.all false
set_option warn.classDefReducibility false
namespace Go.Mid
open Go.RowKit
variable {P : Program} [Orc] [Z : Res]

theorem mapSet_sim {ρ : Rho} {d : TypeDesc} {k v : V} {kx : Value} (hk : Rel ρ k kx) (hok : keyOk (some d) k = true) : ∀ {es : List (V × V)} {ents : List MapEntry} {r : Option V} (n : Nat), es.length = ents.length →
    (∀ (i : Nat) a b e, es[i]? = some (a, b) → ents[i]? = some e → Rel ρ a e.key ∧ Rel ρ b e.val) → mapGet k es = some r →
    (r = none ∧ mapSet k v es = es ++ [(k, v)]) ∨ ∃ x i e, Instr.findNow d kx ents n = some (some (n + i, x)) ∧ mapSet k v es = es.set i (k, v) ∧ ents[i]? = some e ∧ Instr.sameBits 10000 e.key kx = true
  | [], ents, r, n, hl, _, h => by
    simp only [mapGet, Option.some.injEq] at h
    exact .inl ⟨h.symm, rfl⟩
  | (k', u) :: es, [], r, n, hl, _, h => by simp at hl
  | (k', u) :: es, e :: ents, r, n, hl, hr, h => by
    have hl' : es.length = ents.length := by simpa using hl
    obtain ⟨h1, h2⟩ := hr 0 k' u e rfl rfl
    have hr' : ∀ (i : Nat) a b e, es[i]? = some (a, b) → ents[i]? = some e → Rel ρ a e.key ∧ Rel ρ b e.val := fun i a b e x y => hr (i + 1) a b e (by simpa using x) (by simpa using y)
    have next : mapGet k es = some r → Instr.sameNow d kx e.key = some false → mapSet k v ((k', u) :: es) = (k', u) :: mapSet k v es →
        (r = none ∧ mapSet k v ((k', u) :: es) = ((k', u) :: es) ++ [(k, v)]) ∨ ∃ x i e', Instr.findNow d kx (e :: ents) n = some (some (n + i, x)) ∧ mapSet k v ((k', u) :: es) = ((k', u) :: es).set i (k, v) ∧ (e :: ents)[i]? = some e' ∧ Instr.sameBits 10000 e'.key kx = true := by
      intro hm hs hset
      have hf : Instr.findNow d kx (e :: ents) n = Instr.findNow d kx ents (n + 1) := by simp only [Instr.findNow, hs]
      rw [hf, hset]
      rcases mapSet_sim hk hok (n + 1) hl' hr' hm with ⟨a, b⟩ | ⟨x, i, e', a, b, c, g⟩
      · exact .inl ⟨a, by rw [b]; rfl⟩
      · exact .inr ⟨x, i + 1, e', by rw [a]; congr 3; omega, by rw [b]; rfl, by simpa using c, g⟩
    have hit : Instr.sameNow d kx e.key = some true → mapSet k v ((k', u) :: es) = (k, v) :: es → Instr.sameBits 10000 e.key kx = true →
        (r = none ∧ mapSet k v ((k', u) :: es) = ((k', u) :: es) ++ [(k, v)]) ∨ ∃ x i e', Instr.findNow d kx (e :: ents) n = some (some (n + i, x)) ∧ mapSet k v ((k', u) :: es) = ((k', u) :: es).set i (k, v) ∧ (e :: ents)[i]? = some e' ∧ Instr.sameBits 10000 e'.key kx = true := by
      intro hs hset hb
      exact .inr ⟨e.val, 0, e, by simp only [Instr.findNow, hs, Nat.add_zero], hset, rfl, hb⟩
    have hkey : ∃ ek, ek = e.key := ⟨_, rfl⟩
    obtain ⟨ek, hek⟩ := hkey
    rw [← hek] at h1 next hit
    cases hk with
    | int a x =>
      cases d <;> simp only [keyOk, Bool.false_eq_true] at hok
      cases h1 <;> simp only [mapGet, reduceCtorEq] at h
      rename_i b y
      cases hkk : kEq a b with
      | false => simp [hkk] at h
      | true =>
        have := kEq_eq hkk; subst this
        simp only [hkk, cond_true] at h
        cases hi : iEq x y with
        | true =>
          refine hit ?_ (by simp only [mapSet, hi, cond_true]) ?_
          · rw [iEq_eq] at hi; simp only [Instr.sameNow, if_true, hi]
          · rw [iEq_eq] at hi; have : x = y := by simpa using hi
            subst this; simp [Instr.sameBits]
        | false =>
          simp only [hi, cond_false] at h
          exact next h (by rw [iEq_eq] at hi; simp only [Instr.sameNow, if_true, hi]) (by simp only [mapSet, hi, cond_false])
    | str x =>
      cases d <;> simp only [keyOk, Bool.false_eq_true] at hok
      cases h1 <;> simp only [mapGet, reduceCtorEq] at h
      rename_i y
      have hb : (ByteArray.mk ⟨x.l⟩ == ByteArray.mk ⟨y.l⟩) = x.eq y := by
        rw [beq_toListBytes, ByteArray.toList_eq, ByteArray.toList_eq, Bs.eq_eq]
      cases hi : x.eq y with
      | true =>
        refine hit (by simp only [Instr.sameNow, hb, hi]) (by simp only [mapSet, hi, cond_true]) ?_
        have e := (Bs.eq_iff x y).1 hi
        have : (ByteArray.mk ⟨y.l⟩ == ByteArray.mk ⟨x.l⟩) = true := by rw [beq_toListBytes, e]; simp
        simpa only [Instr.sameBits] using this
      | false =>
        simp only [hi, cond_false] at h
        exact next h (by simp only [Instr.sameNow, hb, hi]) (by simp only [mapSet, hi, cond_false])
    | bool x =>
      cases d <;> simp only [keyOk, Bool.false_eq_true] at hok
      cases h1 <;> simp only [mapGet, reduceCtorEq] at h
      rename_i y
      cases hi : (x == y) with
      | true =>
        refine hit (by simp only [Instr.sameNow, hi]) (by simp only [mapSet, hi, cond_true]) ?_
        have : x = y := by simpa using hi
        subst this; simp [Instr.sameBits]
      | false =>
        simp only [hi, cond_false] at h
        exact next h (by simp only [Instr.sameNow, hi]) (by simp only [mapSet, hi, cond_false])
    | _ => cases d <;> simp [keyOk] at hok

theorem range0 (f : Nat → Value) {n : Nat} (h : n = 0) : (Array.range n).map f = #[] := by subst h; simp

theorem make_simC {w0 w : World} {h h' : Hp} {ρ : Rho} {a : Act} {t : Tr V} {o : Oper} {v : V} (H : R P w0 w h ρ) (ho : OpR ρ a t o.op.operands.toList) (hc : isCall o = false) (he : execC P t h o.op = some (v, h')) :
    Made P w0 ((execOp a.eval o).run P w) v h' ρ := by
  cases hm : makesC o.op with
  | false =>
    obtain ⟨rfl, x, h1, h2⟩ := read_simC H.live ho hm he
    exact ⟨x, w, ρ, .inl h1, h2, Ext.refl _, H⟩
  | true =>
  obtain ⟨dst, op, type, pos, after, guard⟩ := o
  have take : ∀ {s : Sem Value}, (∃ x w' ρ', s.run P w = .ok x w' ∧ Rel ρ' v x ∧ Ext ρ ρ' ∧ R P w0 w' h' ρ') → Made P w0 ((do let r ← s; pure (Next.value r) : Sem Next).run P w) v h' ρ :=
    fun ⟨x, w', ρ', h1, h2, h3, h4⟩ => ⟨x, w', ρ', .inl (run_v h1), h2, h3, h4⟩
  have takeu : ∀ {s : Sem Unit}, v = unitV → (∃ w' ρ', s.run P w = .ok () w' ∧ Ext ρ ρ' ∧ R P w0 w' h' ρ') → Made P w0 ((do s; pure Next.skip : Sem Next).run P w) v h' ρ :=
    fun e ⟨w', ρ', h1, h3, h4⟩ => ⟨undef, w', ρ', .inr ⟨run_u h1, rfl⟩, by rw [e]; exact rel_unit ρ', h3, h4⟩
  have read : ∀ {x : Operand} {u : V}, x ∈ op.operands.toList → evalO t x = some u → Rel ρ u (a.eval x) := fun hx hu => ho _ hx _ hu
  cases op <;> simp only [makesC, Bool.false_eq_true] at hm <;> simp only [execC, reduceCtorEq] at he <;> simp only [Op.operands] at read ho
  case alloc e =>
    unfold exAlloc at he
    cases hz : zero P e with
    | none => simp [hz] at he
    | some z =>
      simp only [hz, Option.some.injEq, Prod.mk.injEq] at he
      obtain ⟨rfl, rfl⟩ := he
      obtain ⟨i, zx, hi, hzx, hr⟩ := info_of_zero (ρ := ρ) hz
      have hN := H.row (rest := []) e false 0 hr.cells (fun h => by cases h)
      refine take ⟨.pointer (some ⟨w.heap.size, 0, none⟩), _, _, ?_, .ptr (b := h.n) 0 (upd_same _ _ _), hN.1, hN.2⟩
      simp only [Instr.alloc, Sem.run_bind, run_zero hi hzx, Result.andThen_ok, newVar, newRow, run_newObj, Sem.run_pure, List.append_nil]
      rfl
  case box e x =>
    cases hx : evalO t x with
    | none => simp [hx, exBox] at he
    | some u =>
      simp only [hx, exBox, Option.some.injEq, Prod.mk.injEq] at he
      obtain ⟨rfl, rfl⟩ := he
      have hr := read (by simp) hx
      have hN := H.row (rest := []) e false 0 hr.cells (fun h => by cases h)
      refine take ⟨.pointer (some ⟨w.heap.size, 0, none⟩), _, _, ?_, .ptr (b := h.n) 0 (upd_same _ _ _), hN.1, hN.2⟩
      simp only [Instr.box, Sem.run_bind, Result.andThen_ok, newVar, newRow, run_newObj, Sem.run_pure, List.append_nil]
      rfl
  case buildSlice ty len parts =>
    unfold exBuildSlice at he
    cases hp : evalP t parts.toList with
    | none => simp [hp] at he
    | some ps =>
      simp only [hp] at he
      cases hu : P.underlying ty with
      | none => simp [hu] at he
      | some d =>
        cases d <;> simp only [hu, reduceCtorEq] at he
        rename_i elem
        cases hs : sz P elem with
        | none => simp [hs] at he
        | some s =>
          simp only [hs] at he
          cases hz : zero P elem with
          | none => simp [hz] at he
          | some z =>
            simp only [hz, bldSl] at he
            cases hb : (Nat.ble (len * s) 65536 && Nat.beq (vcells z).length s) with
            | false => simp [hb] at he
            | true =>
              simp only [hb, cond_true] at he
              simp only [Bool.and_eq_true] at hb
              have hb1 := Nat.le_of_ble_eq_true hb.1
              have hb2 := Nat.eq_of_beq_eq_true hb.2
              cases hf : fillV (fun i => some (i * s, s)) (mulz (vcells z) len) ps with
              | none => simp [hf] at he
              | some cs =>
                simp only [hf, Option.some.injEq, Prod.mk.injEq] at he
                obtain ⟨rfl, rfl⟩ := he
                obtain ⟨i, zx, hi, hzx, hr⟩ := info_of_zero (ρ := ρ) hz
                obtain ⟨i', hi', hsz⟩ := info_of_sz hs
                rw [hi] at hi'
                simp only [Option.some.injEq] at hi'
                subst hi'
                have hzl : zx.cells.size = s := by rw [← hb2, hr.cells.1]; simp
                have hpr : PartR ρ ps (parts.map fun (i, x) => (i, a.eval x)).toList := by
                  have := evalP_sim (ρ := ρ) (a := a) (t := t) (xs := parts.toList) (vs := ps) (by simpa using ho) hp
                  simpa using this
                obtain ⟨arr', e1, e2⟩ := fill_sim hpr (mulz_rel hr.cells len) hf
                have hN := H.row (rest := []) elem false 0 e2 (fun h => by cases h)
                refine take ⟨.slice (some ⟨w.heap.size, 0, none⟩) len len, _, _, ?_, .sliceK (b := h.n) 0 len len (upd_same _ _ _), hN.1, hN.2⟩
                simp only [List.append_nil, Array.toArray_toList]
                by_cases hpos : len * s = 0
                · have e0 : (Array.range (len * zx.cells.size)).map (zx.cells[· % zx.cells.size]!) = #[] := range0 _ (by rw [hzl, hpos])
                  rw [e0] at e1
                  simp only [Instr.buildSlice, Sem.run_bind, run_underlying hu, Result.andThen_ok, run_sz hs]
                  rw [if_neg (by omega), if_pos hpos]
                  simp only [pure_bind]
                  have e0' : ∀ z : Array Value, (Array.range (len * s)).map (z[· % z.size]!) = #[] := fun z => range0 _ hpos
                  rw [e0', e1]
                  simp only [newRow, Sem.run_bind, run_newObj, Result.andThen_ok, Sem.run_pure]
                  rfl
                · rw [hzl, ← hsz] at e1
                  have := run_buildSlice (P := P) w ty elem len (parts.map fun (i, x) => (i, a.eval x)) arr' i zx hu hi hzx (by rw [hsz]; omega) (by rw [hsz]; exact hpos) (by rw [hsz] at e1 ⊢; rw [← hzl] at e1 ⊢; exact e1)
                  exact this
  case store ty x y =>
    unfold exStore at he
    cases hx : evalO t x with
    | none => simp [hx] at he
    | some u =>
      have hr := read (x := x) (by simp) hx
      rw [hx] at he
      cases hxv : a.eval x <;> rw [hxv] at hr <;> cases hr <;> simp only [reduceCtorEq] at he
      rename_i b l off hb
      cases hy : evalO t y with
      | none => simp [hy] at he
      | some vy =>
        have hry := read (x := y) (by simp) hy
        simp only [hy] at he
        cases hst : storeV P h ty b off vy with
        | none => simp [hst] at he
        | some h2 =>
          simp only [hst, Option.some.injEq, Prod.mk.injEq] at he
          obtain ⟨rfl, rfl⟩ := he
          unfold storeV at hst
          cases hso : storeO P h ty b off vy with
          | none => simp [hso] at hst
          | some ob0 =>
          simp only [hso, Option.some.injEq] at hst
          unfold storeO at hso
          cases hg : h.t.get b with
          | none => simp [hg] at hso
          | some ob =>
            cases ob <;> simp only [hg, reduceCtorEq] at hso
            rename_i c n g e
            cases hs : sz P ty with
            | none => simp [hs] at hso
            | some s =>
              simp only [hs] at hso
              cases hcc : (Nat.beq (vcells vy).length s && Nat.ble (off + s) n && allOne (vcells vy)) with
              | false => simp [hcc] at hso
              | true =>
                simp only [hcc, cond_true, Option.some.injEq] at hso
                subst hso
                subst hst
                simp only [Bool.and_eq_true] at hcc
                have c1 := Nat.eq_of_beq_eq_true hcc.1.1
                have c2 := Nat.le_of_ble_eq_true hcc.1.2
                obtain ⟨w', e1, e2⟩ := H.write (P := P) hb hg hry.cells (allOne_mem hry.cells hcc.2) (o := off) (by omega)
                refine takeu rfl ⟨w', ρ, ?_, Ext.refl _, e2⟩
                rw [hxv]
                have hsz : (a.eval y).cells.size = s := by rw [← c1, hry.cells.1]; simp
                simp only [Instr.storeAt, Instr.sureAddr, pure_bind, storeVar, Sem.run_bind, run_sz hs, Result.andThen_ok]
                rw [if_neg (by simp [hsz])]
                exact e1
  case makeMap ty r =>
    cases r with
    | some _ => simp at he
    | none =>
      simp only [Option.some.injEq, Prod.mk.injEq] at he
      obtain ⟨rfl, rfl⟩ := he
      have hN := H.new (.map []) (.map #[] 0) 0 trivial ⟨[], 0, heap_alloc_new _ _, rfl, fun i k v e h => by simp at h⟩
      exact take ⟨.map (some w.heap.size), _, _, rfl, .map (b := h.n) (upd_same _ _ _), hN.1, hN.2⟩
  case makeSlice ty x y =>
    unfold exMake at he
    have nat : ∀ {y : Option V} {n : Nat}, natV y = some n → y = some (.int .i64 (n : Int)) := by
      intro y n h
      unfold natV at h
      split at h
      · simp only [Option.some.injEq] at h; subst h; rfl
      · cases h
    cases hx : natV (evalO t x) with
    | none => simp [hx] at he
    | some ln =>
      simp only [hx] at he
      cases hy : natV (evalO t y) with
      | none => simp [hy] at he
      | some cn =>
        simp only [hy, exMakeSlice, mkSl] at he
        have hrx := read (x := x) (by simp) (nat hx)
        have hry := read (x := y) (by simp) (nat hy)
        cases hxv : a.eval x <;> rw [hxv] at hrx <;> cases hrx
        cases hyv : a.eval y <;> rw [hyv] at hry <;> cases hry
        cases hu : P.underlying ty with
        | none => simp [hu] at he
        | some d =>
          cases d <;> simp only [hu, reduceCtorEq] at he
          rename_i elem
          cases hi : P.info? elem with
          | none => simp [hi] at he
          | some i =>
            simp only [hi] at he
            cases hz : zero P elem with
            | none => simp [hz] at he
            | some z =>
              simp only [hz] at he
              cases hb : (Nat.ble ln cn && roomB cn && roomB (cn * i.bytes) && Nat.beq (vcells z).length i.size) with
              | false => simp [hb] at he
              | true =>
                simp only [hb, cond_true, Option.some.injEq, Prod.mk.injEq] at he
                obtain ⟨rfl, rfl⟩ := he
                simp only [Bool.and_eq_true] at hb
                obtain ⟨⟨⟨b1, b2⟩, b3⟩, b4⟩ := hb
                have b1 := Nat.le_of_ble_eq_true b1
                have b2 := Nat.le_of_ble_eq_true b2
                have b3 := Nat.le_of_ble_eq_true b3
                have b4 := Nat.eq_of_beq_eq_true b4
                obtain ⟨i', zx, hi', hzx, hr⟩ := info_of_zero (ρ := ρ) hz
                rw [hi] at hi'
                simp only [Option.some.injEq] at hi'
                subst hi'
                have hzl : zx.cells.size = i.size := by rw [← b4, hr.cells.1]; simp
                have hN := H.row (rest := []) elem false 0 (mulz_rel hr.cells cn) (fun h => by cases h)
                refine take ⟨.slice (some ⟨w.heap.size, 0, none⟩) ln cn, _, _, ?_, .sliceK (b := h.n) 0 ln cn (upd_same _ _ _), hN.1, hN.2⟩
                rw [hxv, hyv]
                have := run_make (P := P) w ty elem i zx hu hi hzx .i64 .i64 (ln : Int) (cn : Int) (by omega) (by omega) (by
                  have : (i.bytes : Int) * (cn : Int) = ((cn * i.bytes : Nat) : Int) := by rw [Nat.mul_comm]; simp
                  rw [this]; omega) (by omega)
                rw [this]
                simp only [Int.toNat_natCast, List.append_nil, Array.toArray_toList, madeCells, hzl]
  case mapUpdate ty m k x =>
    unfold exMapUpdate at he
    cases hu : P.underlying ty with
    | none => simp [hu] at he
    | some d =>
      cases d <;> simp only [hu, reduceCtorEq] at he
      rename_i key elem
      cases hmv : evalO t m with
      | none => simp [hmv] at he
      | some u =>
        have hrm := read (x := m) (by simp) hmv
        rw [hmv] at he
        cases hxm : a.eval m <;> rw [hxm] at hrm <;> cases hrm <;> simp only [reduceCtorEq] at he
        rename_i b l hb
        cases hk : evalO t k with
        | none => simp [hk] at he
        | some kv =>
          have hrk := read (x := k) (by simp) hk
          simp only [hk] at he
          cases hok : keyOk (P.underlying key) kv with
          | false => simp [hok] at he
          | true =>
            simp only [hok, cond_true] at he
            cases hkd : P.underlying key with
            | none => rw [hkd] at hok; simp [keyOk] at hok
            | some kd =>
              rw [hkd] at hok
              cases hx : evalO t x with
              | none => simp [hx] at he
              | some xv =>
                have hrx := read (x := x) (by simp) hx
                simp only [hx, mapPut] at he
                cases hg : h.t.get b with
                | none => simp [hg] at he
                | some ob =>
                  cases ob <;> simp only [hg, reduceCtorEq] at he
                  rename_i es
                  cases hmg : mapGet kv es with
                  | none => simp [hmg] at he
                  | some r =>
                    simp only [hmg, Option.some.injEq, Prod.mk.injEq] at he
                    obtain ⟨rfl, rfl⟩ := he
                    obtain ⟨ents, clock, M⟩ := H.live b l _ hb hg
                    have hck := run_checkKey (P := P) hrk hkd hok false w
                    have hset : ∀ (ents' : List MapEntry) (clock' : Nat), (setObj l.blk (.map ⟨ents'⟩ clock')).run P w = .ok () { w with heap := w.heap.setIfInBounds l.blk (.map ⟨ents'⟩ clock') } :=
                      fun _ _ => MapKept.run_setObj_map _ M.at_
                    have hlt : l.blk < w.heap.size := H.lt hb ⟨_, hg, by simp⟩
                    have hupd : ∀ O : Obj, Upd w { w with heap := w.heap.setIfInBounds l.blk O } l.blk O := fun O =>
                      ⟨rfl, rfl, rfl, by simp, fun j hj => by simp [Ne.symm hj], by simp [hlt]⟩
                    have hfind := mapSet_sim (v := xv) hrk hok 0 M.len M.get hmg
                    rcases hfind with ⟨rfl, hs⟩ | ⟨x', i, e, hf, hs, hei, hsb⟩
                    · have hf : Instr.findNow kd (a.eval k) ents 0 = some none := by
                        rcases mapGet_sim hrk hok 0 M.len M.get hmg with ⟨_, h⟩ | ⟨_, _, _, h, _⟩
                        · exact h
                        · cases h
                      have hR := H.upd (O := .map ⟨ents ++ [{ key := a.eval k, val := a.eval x, born := clock }]⟩ (clock + 1)) hb ⟨_, hg, by simp⟩ (Hp.not_still hg (by simp)) (.map (mapSet kv xv es)) trivial (hupd _)
                        ⟨_, _, (hupd _).at_, by rw [hs]; simp [M.len], fun j k' v' e' h1 h2 => by
                          rw [hs] at h1
                          rcases Nat.lt_or_ge j es.length with hj | hj
                          · rw [List.getElem?_append_left hj] at h1
                            rw [List.getElem?_append_left (by rw [← M.len]; exact hj)] at h2
                            exact M.get j k' v' e' h1 h2
                          · rw [List.getElem?_append_right hj] at h1
                            rw [List.getElem?_append_right (by rw [← M.len]; exact hj)] at h2
                            rw [← M.len] at h2
                            cases hj0 : j - es.length with
                            | zero =>
                              rw [hj0] at h1 h2
                              simp only [List.getElem?_cons_zero, Option.some.injEq, Prod.mk.injEq] at h1 h2
                              obtain ⟨rfl, rfl⟩ := h1
                              subst h2
                              exact ⟨hrk, hrx⟩
                            | succ q => rw [hj0] at h1; simp at h1⟩
                      refine takeu rfl ⟨_, ρ, ?_, Ext.refl _, hR⟩
                      rw [hxm]
                      simp only [Instr.mapUpdate, Sem.run_bind, run_underlying hu, Result.andThen_ok, MapKept.run_getObj_map M.at_, hck, Instr.findKey, run_underlying hkd, hf, Sem.run_pure]
                      have := hset (ents ++ [{ key := a.eval k, val := a.eval x, born := clock }]) (clock + 1)
                      simpa using this
                    · have hR := H.upd (O := .map ⟨ents.set i { e with key := a.eval k, val := a.eval x }⟩ clock) hb ⟨_, hg, by simp⟩ (Hp.not_still hg (by simp)) (.map (mapSet kv xv es)) trivial (hupd _)
                        ⟨_, _, (hupd _).at_, by rw [hs]; simp [M.len], fun j k' v' e' h1 h2 => by
                          rw [hs] at h1
                          rw [List.getElem?_set] at h1 h2
                          by_cases hij : i = j
                          · subst hij
                            rw [if_pos rfl] at h1 h2
                            split at h1
                            · split at h2
                              · simp only [Option.some.injEq, Prod.mk.injEq] at h1 h2
                                obtain ⟨rfl, rfl⟩ := h1
                                subst h2
                                exact ⟨hrk, hrx⟩
                              · cases h2
                            · cases h1
                          · rw [if_neg hij] at h1 h2
                            exact M.get j k' v' e' h1 h2⟩
                      refine takeu rfl ⟨_, ρ, ?_, Ext.refl _, hR⟩
                      rw [hxm]
                      simp only [Instr.mapUpdate, Sem.run_bind, run_underlying hu, Result.andThen_ok, MapKept.run_getObj_map M.at_, hck, Instr.findKey, run_underlying hkd, hf, Sem.run_pure, Nat.zero_add]
                      have hei' : (⟨ents⟩ : Array MapEntry)[i]? = some e := by simpa using hei
                      simp only [hei', Option.map_some, Option.getD_some, Instr.keyThatStays, hsb, if_true, Sem.run_pure, Result.andThen_ok]
                      have := hset (ents.set i { e with key := a.eval k, val := a.eval x }) clock
                      have emod : (⟨ents⟩ : Array MapEntry).modify i (fun e => { e with key := a.eval k, val := a.eval x }) = ⟨ents.set i { e with key := a.eval k, val := a.eval x }⟩ := by
                        apply Array.ext'
                        apply List.ext_getElem?
                        intro j
                        simp only [Array.toList_modify, List.getElem?_modify, List.getElem?_set]
                        by_cases hij : i = j
                        · subst hij
                          have hlt2 : i < ents.length := by
                            rcases Nat.lt_or_ge i ents.length with h | h
                            · exact h
                            · rw [List.getElem?_eq_none h] at hei; cases hei
                          rw [hei]
                          simp [hlt2]
                        · simp [hij]
                      rw [emod]; exact this
  case call c =>
    obtain ⟨callee, args, tys⟩ := c
    cases callee <;> simp only [exCall, reduceCtorEq] at he
    rename_i b
    cases b <;> simp only [exBuiltin, reduceCtorEq] at he <;> try (simp at hm; done)
    unfold exAppend at he
    cases hl : evalL t args.toList with
    | none => simp [hl] at he
    | some vs =>
      have hrl := evalL_sim (ρ := ρ) (a := a) (t := t) (fun y hy => ho y (by simpa [Call.operands] using hy)) hl
      rw [hl] at he
      match vs, hrl with
      | [s, x], hrl =>
        simp only at he
        cases htl : tys.toList with
        | nil => simp [htl] at he
        | cons ty tyr =>
          cases tyr with
          | nil => simp [htl] at he
          | cons ty2 tyr2 =>
            simp only [htl] at he
            cases hu : P.underlying ty with
            | none => simp [hu] at he
            | some d =>
              cases d <;> simp only [hu, reduceCtorEq] at he
              rename_i elem
              cases hu2 : P.underlying ty2 with
              | none => simp [hu2] at he
              | some d2 =>
                have he' : appendV P h elem s x = some (v, h') ∧ ((∃ e2, d2 = .slice e2) ∨ d2 = .string) := by
                  cases d2 <;> simp only [hu2, reduceCtorEq] at he
                  · exact ⟨he, .inr rfl⟩
                  · exact ⟨he, .inl ⟨_, rfl⟩⟩
                obtain ⟨he, hd2⟩ := he'
                obtain ⟨sv, r1, e1, hrs, hr1⟩ := hrl.cons_inv
                obtain ⟨xv, r2, e2, hrx, hr2⟩ := hr1.cons_inv
                have := hr2.nil_inv; subst this
                subst e2
                unfold appendV at he
                cases hi : P.info? elem with
                | none => simp [hi] at he
                | some i =>
                  simp only [hi] at he
                  cases hz : zero P elem with
                  | none => simp [hz] at he
                  | some z =>
                    simp only [hz] at he
                    cases hzb : Nat.beq (vcells z).length i.size with
                    | false => simp [hzb] at he
                    | true =>
                      simp only [hzb, cond_true] at he
                      obtain ⟨i', zx, hi', hzx, hrz⟩ := info_of_zero (ρ := ρ) hz
                      rw [hi] at hi'
                      simp only [Option.some.injEq] at hi'
                      subst hi'
                      have hzl : zx.cells.size = i.size := by rw [← Nat.eq_of_beq_eq_true hzb, hrz.cells.1]; simp
                      have T : AppT P ty ty2 elem i zx := ⟨hu, by rcases hd2 with ⟨e2, rfl⟩ | rfl
                                                                  · exact .inl ⟨e2, hu2⟩
                                                                  · exact .inr hu2, hi, hzx⟩
                      have ha : args.map a.eval = #[sv, xv] := by apply Array.ext'; simpa using e1
                      have run : ∀ {x' w'}, (Builtin.append_ #[ty, ty2] type #[sv, xv]).run P w = .ok x' w' →
                          (execOp a.eval { dst, op := .call { callee := .builtin .append, args, argTypes := tys }, type, pos, after, guard }).run P w = .ok (.value x') w' := by
                        intro x' w' hr
                        simp only [execOp, resolve, pure_bind, invoke, builtin]
                        refine run_v ?_
                        rw [ha]
                        have htys : Builtin.append_ tys type #[sv, xv] = Builtin.append_ #[ty, ty2] type #[sv, xv] := by
                          unfold Builtin.append_
                          have t0 : tys[0]? = some ty := by rw [← Array.getElem?_toList, htl]; rfl
                          have t1 : tys[1]? = some ty2 := by rw [← Array.getElem?_toList, htl]; rfl
                          rw [t0, t1]; rfl
                        rw [htys]; exact hr
                      cases hnc : newCells h i.size x with
                      | none => simp [hnc, appGo] at he
                      | some p =>
                        obtain ⟨n, new⟩ := p
                        simp only [hnc, appGo] at he
                        cases h1 : allOne new with
                        | false => simp [h1] at he
                        | true =>
                          simp only [h1, cond_true] at he
                          obtain ⟨news, hlen, hn, hrn, hnl⟩ := newCells_sim H.live hrx hnc
                          cases s <;> simp only [reduceCtorEq] at he
                          · obtain ⟨x', w', ρ', g1, g2, g3, g4⟩ := appSl_sim (ty := type) H T hzl hrs hlen hn hrn hnl h1 he
                            exact ⟨x', w', ρ', .inl (run g1), g2, g3, g4⟩
                          · cases hrs
                            unfold appNil at he
                            cases hn0 : Nat.beq n 0 with
                            | true =>
                              have := Nat.eq_of_beq_eq_true hn0; subst this
                              simp only [hn0, cond_true, Option.some.injEq, Prod.mk.injEq] at he
                              obtain ⟨rfl, rfl⟩ := he
                              exact ⟨_, w, ρ, .inl (run (app_none T hlen (hn w rfl))), .nilSlice, Ext.refl _, H⟩
                            | false =>
                              simp only [hn0, cond_false] at he
                              cases hb : (roomB (n * i.bytes) && roomB n) with
                              | false => simp [hb] at he
                              | true =>
                                simp only [hb, cond_true, Option.some.injEq, Prod.mk.injEq] at he
                                obtain ⟨rfl, rfl⟩ := he
                                simp only [Bool.and_eq_true] at hb
                                have b1 := Nat.le_of_ble_eq_true hb.1
                                have b2 := Nat.le_of_ble_eq_true hb.2
                                have hnpos : 0 < n := by
                                  rcases Nat.eq_zero_or_pos n with e | e
                                  · subst e; simp at hn0
                                  · exact e
                                have hgr := app_grow (P := P) (ty := type) (news := ⟨news⟩) (olds := #[]) (sLen := 0) (sCap := 0) (w := w) (n := n) T (base := none) (by omega) hlen (hn w.drew rfl)
                                  (by simp [Builtin.firstCells]) (by omega) (by simpa using b1)
                                have hge := grownCap_ge w (0 + n) 0 elem
                                generalize hcap' : grownCap w (0 + n) 0 elem = cap' at hgr hge
                                have hcell : P.cellsOf elem = i.size := by simp [Program.cellsOf, hi]
                                have hnewl : news.length = n * i.size := by rw [← hrn.1]; exact hnl
                                have hN := H.drew.row (rest := (Builtin.zeroCells zx.cells (cap' - (0 + n))).toList) elem true cap' hrn (fun _ => by
                                  rw [hcell]
                                  refine ⟨by rw [hnl]; exact Nat.mul_le_mul_right _ (by omega), ?_⟩
                                  simp only [List.length_append, Array.length_toList, zc_size, hnewl, hzl]
                                  have : cap' * i.size = n * i.size + (cap' - (0 + n)) * i.size := by rw [← Nat.add_mul]; congr 1; omega
                                  omega)
                                refine ⟨_, _, _, .inl (run hgr), ?_, hN.1, ?_⟩
                                · have := Rel.sliceG (ρ := Mid.upd ρ h.n ⟨w.drew.heap.size, 0, cap'⟩) (b := h.n) 0 n 0 (upd_same _ _ _)
                                  simpa using this
                                · have e : ((#[] : Array Value) ++ ⟨news⟩ ++ Builtin.zeroCells zx.cells (cap' - (0 + n))) = ⟨news ++ (Builtin.zeroCells zx.cells (cap' - (0 + n))).toList⟩ := by
                                    apply Array.ext'; simp
                                  rw [e]; exact hN.2
theorem make_sim [OpOk P] {w0 w : World} {h h' : Hp} {ρ : Rho} {a : Act} {t : Tr V} {o : Oper} {v : V} (H : R P w0 w h ρ) (ho : OpR ρ a t o.op.operands.toList) (hc : isCall o = false) (he : execV P t h o.op = some (v, h')) :
    Made P w0 ((execOp a.eval o).run P w) v h' ρ := by
  by_cases hx : xk o.op = 0
  · rw [execV_zero hx] at he
    exact make_simC H ho hc he
  · rw [execV_ne hx] at he
    obtain ⟨as, h1, h2⟩ := execX_some he
    have hk := (xk_ne hx).2
    obtain ⟨_, h3⟩ := OpOk.make (P := P) _ _ _ _ _ h2 (by rw [← hk]; exact hx)
    exact h3 Z w0 w ρ a o rfl H (evalL_sim ho h1)
end Go.Mid
