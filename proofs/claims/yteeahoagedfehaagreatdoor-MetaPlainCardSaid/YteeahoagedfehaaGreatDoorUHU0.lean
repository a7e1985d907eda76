/- A part of the proof. -/
import Derived.Test.YteeahoagedfehaaGreatDoorUHT8
import Derived.KernelRfl
set_option linter.all false
set_option warn.classDefReducibility false
noncomputable section
section
open Go Go.Mid Go.Proofs
set_option maxRecDepth 100000
namespace Go.MS
section
def nmS : List Bs:=[⟨7, 33888479228813151⟩, ⟨10, 568554335933414845079391⟩, ⟨5, 431180832607⟩, ⟨5, 422877290335⟩, ⟨5, 465826570079⟩, ⟨6, 130195028270943⟩, ⟨5, 431366168415⟩, ⟨6, 110425243017055⟩, ⟨5, 491494989663⟩, ⟨6, 125823086649183⟩, ⟨5, 465608859487⟩, ⟨5, 491378663263⟩, ⟨8, 8386093307106910047⟩, ⟨4, 1902468959⟩, ⟨4, 1953259359⟩, ⟨4, 1701601119⟩, ⟨5, 470004621151⟩, ⟨6, 128021942132575⟩, ⟨5, 474148003679⟩, ⟨6, 119212746170207⟩, ⟨1, 120⟩, ⟨1, 121⟩]
def allS : List Bs:=nmS ++ [⟨3, 6513249⟩]
abbrev Shp:=Int × Bs
def shapes : List Shp:=List.replicate 4 (5, ⟨0, 0⟩) ++ allS.map (fun s => (4, s)) ++ [(6, ⟨0, 0⟩)]
def shp (a : AO) : Shp:=(a.kd, a.tx)
theorem shapes_len : shapes.length = 28:=rfl
def tgS (s : Bs) : List Shp → Nat → Option Int
 | [], _ => none
 | p :: l, i => if p.1 = 4 ∧ s.eq p.2 = true then some ((i + 1 : Nat) : Int) else tgS s l (i + 1)
theorem tget_shp (s : Bs) : ∀ (l : List AO) (i : Nat), tget s l i = tgS s (l.map shp) i
 | [], _ => rfl
 | a :: l, i => by
  rw [List.map_cons]; unfold tget tgS
  rw [tget_shp s l (i + 1)]; rfl
def freshB (s : Bs) (l : List Shp) : Bool:=l.all fun p => !(iEq p.1 4) || (!(s.eq p.2) && !(p.2.eq s))
theorem freshB_at {s : Bs} {l : List Shp} (h : freshB s l = true) {p : Shp} (hp : p ∈ l) (h4 : p.1 = 4) : s.eq p.2 = false ∧ p.2.eq s = false:=by
 have:=List.all_eq_true.1 h p hp
 rw [h4, show iEq 4 4 = true from rfl] at this
 simpa using this
theorem tgS_none {s : Bs} : ∀ {l : List Shp} {i : Nat}, freshB s l = true → tgS s l i = none
 | [], _, _ => rfl
 | p :: l, i, h => by
  have hl : freshB s l = true:=List.all_eq_true.2 fun q hq => List.all_eq_true.1 h q (List.mem_cons_of_mem _ hq)
  unfold tgS
  rw [if_neg fun c => ?_, tgS_none hl]
  have:=(freshB_at h List.mem_cons_self c.1).1
  rw [c.2] at this; exact Bool.noConfusion this
theorem all_fresh : ((List.range 23).all fun t => freshB (allS.getD t ⟨0, 0⟩) (shapes.take (4 + t))) = true:=by kernel_rfl
theorem fresh_at {t : Nat} (ht : t < 23) : freshB (allS.getD t ⟨0, 0⟩) (shapes.take (4 + t)) = true:=List.all_eq_true.1 all_fresh t (List.mem_range.2 ht)
theorem all_short : (allS.all fun s => Nat.ble s.n 10) = true:=by kernel_rfl
structure Gd (al : List AO) (i m : Nat) : Prop where
 sh : al.map shp = shapes.take i
 pl : ∀ a ∈ al, a.pl.length ≤ m
 nd : ∀ a ∈ al, (a.pl.map (·.1)).Nodup
 vs : ∀ a ∈ al, ∀ p ∈ a.pl, okV p.2
 ky : ∀ a ∈ al, ∀ p ∈ a.pl, p.1.1 = 4
variable {al : List AO} {i m j : Nat} {a b : AO}
theorem Gd.len (G : Gd al i m) (hi : i ≤ 28) : al.length = i:=by
 have:=congrArg List.length G.sh
 rw [List.length_map, List.length_take, shapes_len] at this
 omega
theorem Gd.at_ (G : Gd al i m) (h : al[j]? = some a) : shapes[j]? = some (shp a):=by
 have h1 : (al.map shp)[j]? = some (shp a):=by rw [List.getElem?_map, h]; rfl
 rw [G.sh, List.getElem?_take] at h1
 split at h1
 ·exact h1
 ·cases h1
theorem shp_short : (shapes.all fun p => Nat.ble p.2.n 10) = true:=by kernel_rfl
theorem Gd.tx (G : Gd al i m) (h : a ∈ al) : a.tx.n ≤ 10:=by
 obtain ⟨j, hj⟩:=List.mem_iff_getElem?.1 h
 have h1:=List.mem_of_getElem? (G.at_ hj)
 exact Nat.le_of_ble_eq_true (List.all_eq_true.1 shp_short _ h1)
theorem Gd.sz (G : Gd al i m) (hm : m ≤ 100) (h : a ∈ al) : a.sz ≤ 202:=by
 have h1 : live a.pl ≤ a.pl.length:=live_le a.pl
 have h2:=G.pl a h
 have h3:=G.tx h
 unfold AO.sz
 repeat' split
 all_goals omega
theorem used_le2 {k : Nat} : ∀ (l : List AO), (∀ a ∈ l, a.sz ≤ k) → used l ≤ k * (l.length : Int)
 | [], _ => by show (0 : Int) ≤ k * 0; omega
 | a :: l, h => by
  rw [used_cons, List.length_cons]
  have h1:=h a List.mem_cons_self
  have h2:=used_le2 l fun b hb => h b (List.mem_cons_of_mem _ hb)
  rw [Int.natCast_add, Int.mul_add]
  omega
theorem Gd.used (G : Gd al i m) (hi : i ≤ 28) (hm : m ≤ 100) : used al ≤ 5656:=by
 have h1:=used_le2 al fun a h => G.sz hm h
 rw [G.len hi] at h1
 omega
theorem Gd.add (G : Gd al i m) (ha : shapes[i]? = some (shp a)) (hp : a.pl = []) : Gd (al ++ [a]) (i + 1) m:=by
 have hh : ∀ {P : AO → Prop}, (∀ b ∈ al, P b) → P a → ∀ b ∈ al ++ [a], P b := fun h1 h2 b hb => by
  rcases List.mem_append.1 hb with h | h
  ·exact h1 b h
  ·rw [List.mem_singleton] at h; subst h; exact h2
 refine ⟨?_, hh G.pl (by rw [hp]; exact Nat.zero_le _), hh G.nd (by rw [hp]; exact List.nodup_nil), hh G.vs (by rw [hp]; exact fun p h => nomatch h), hh G.ky (by rw [hp]; exact fun p h => nomatch h)⟩
 rw [List.map_append, G.sh, List.take_succ, ha]; rfl
theorem pix_map (key w : Vl) : ∀ {pl : List Pl} {j : Nat}, pix key pl = some j → (pl.set j (key, w)).map (·.1) = pl.map (·.1)
 | p :: pl, j, h => by
  unfold pix at h
  by_cases e : key = p.1
  ·rw [if_pos e] at h; cases h
   rw [List.set_cons_zero, List.map_cons, List.map_cons, e]
  ·rw [if_neg e] at h
   cases h2 : pix key pl with
   | none => rw [h2] at h; cases h
   | some q =>
    rw [h2] at h; cases h
    rw [List.set_cons_succ, List.map_cons, List.map_cons, pix_map key w h2]
theorem setP_nd {pl : List Pl} {key w : Vl} (nd : (pl.map (·.1)).Nodup) : ((setP pl key w).map (·.1)).Nodup:=by
 unfold setP
 cases h : pix key pl with
 | some j => simp only []; rw [pix_map key w h]; exact nd
 | none =>
  simp only []
  split
  ·exact nd
  ·rw [List.map_append]
   refine List.nodup_append.2 ⟨nd.sublist ((alive_sub _).map _), by simp, fun x hx y hy => ?_⟩
   simp at hy; subst hy
   intro e; subst e
   exact none_pix h (((alive_sub _).map _).subset hx)
theorem setP_mem {pl : List Pl} {key w : Vl} {p : Pl} (h : p ∈ setP pl key w) : p ∈ pl ∨ (p.2 = w ∧ p.1 = key):=by
 unfold setP at h
 split at h
 ·rcases List.mem_or_eq_of_mem_set h with h | h
  ·exact .inl h
  ·rw [h]; exact .inr ⟨rfl, rfl⟩
 ·split at h
  ·exact .inl h
  ·rcases List.mem_append.1 h with h | h
   ·exact .inl ((alive_sub _).subset h)
   ·rw [List.mem_singleton] at h; rw [h]; exact .inr ⟨rfl, rfl⟩
theorem Gd.set (G : Gd al i m) (hj : al[j]? = some a) {key w : Vl} (hw : okV w) (hk : key.1 = 4) (hb : b = { a with pl := setP a.pl key w }) : Gd (al.set j b) i (m + 1) := by
 have hm:=List.mem_of_getElem? hj
 have hs : shp b = shp a:=by subst hb; rfl
 have hh : ∀ {P : AO → Prop}, (∀ b ∈ al, P b) → P b → ∀ c ∈ al.set j b, P c := fun h1 h2 c hc => by
  rcases List.mem_or_eq_of_mem_set hc with h | h
  ·exact h1 c h
  ·subst h; exact h2
 refine ⟨?_, hh (fun c h => Nat.le_succ_of_le (G.pl c h)) ?_, hh G.nd ?_, hh G.vs ?_, hh G.ky ?_⟩
 ·rw [← G.sh, List.map_set, hs]; exact set_self (by rw [List.getElem?_map, hj]; rfl)
 ·subst hb; exact Nat.le_trans (setP_len _ _ _) (Nat.succ_le_succ (G.pl a hm))
 ·subst hb; exact setP_nd (G.nd a hm)
 ·subst hb
  intro p hp
  rcases setP_mem hp with h | h
  ·exact G.vs a hm p h
  ·rw [h.1]; exact hw
 ·subst hb
  intro p hp
  rcases setP_mem hp with h | h
  ·exact G.ky a hm p h
  ·rw [h.2]; exact hk
theorem Gd.mt (G : Gd al i m) (hj : al[j]? = some a) {w : Vl} (hb : b = { a with me := w }) : Gd (al.set j b) i m := by
 have hm:=List.mem_of_getElem? hj
 have hs : shp b = shp a:=by subst hb; rfl
 have hh : ∀ {P : AO → Prop}, (∀ b ∈ al, P b) → P b → ∀ c ∈ al.set j b, P c := fun h1 h2 c hc => by
  rcases List.mem_or_eq_of_mem_set hc with h | h
  ·exact h1 c h
  ·subst h; exact h2
 refine ⟨?_, hh G.pl (by subst hb; exact G.pl a hm), hh G.nd (by subst hb; exact G.nd a hm), hh G.vs (by subst hb; exact G.vs a hm), hh G.ky (by subst hb; exact G.ky a hm)⟩
 rw [← G.sh, List.map_set, hs]; exact set_self (by rw [List.getElem?_map, hj]; rfl)
end
section
variable {al : List AO} {i m j : Nat} {a b : AO} {X : HI} {Y : DI}
def baseV : List Vl:=[(0, 0), (1, 0), (2, 0), (3, 2), (3, -7), (3, 0), (7, 3)]
def valsL (i : Nat) : List Vl:=baseV ++ (shapes.take i).zipIdx.map fun x => (x.1.1, ((x.2 + 1 : Nat) : Int))
theorem vals_len (hi : i ≤ 28) : (valsL i).length = 7 + i:=by
 unfold valsL
 rw [List.length_append, List.length_map, List.length_zipIdx, List.length_take, shapes_len]
 show 7 + _ = _; omega
theorem vals_succ {s : Shp} (hi : i < 28) (hs : shapes[i]? = some s) : valsL (i + 1) = valsL i ++ [(s.1, ((i + 1 : Nat) : Int))]:=by
 unfold valsL
 rw [List.take_succ, hs, List.append_assoc, List.zipIdx_append, List.map_append]
 congr 2
 simp [shapes_len]
 omega
theorem vals_ob (hj : j < i) (hi : i ≤ 28) {s : Shp} (hs : shapes[j]? = some s) : (valsL i)[7 + j]? = some (s.1, ((j + 1 : Nat) : Int)):=by
 unfold valsL
 rw [List.getElem?_append_right (by show 7 ≤ 7 + j; omega), show 7 + j - baseV.length = j by show 7 + j - 7 = j; omega, List.getElem?_map, List.getElem?_zipIdx, List.getElem?_take, if_pos hj, hs]
 simp
theorem vals_mem (hi : i ≤ 28) {v : Vl} (h : v ∈ valsL i) : v ∈ baseV ∨ ∃ j s, j < i ∧ shapes[j]? = some s ∧ v = (s.1, ((j + 1 : Nat) : Int)):=by
 unfold valsL at h
 rcases List.mem_append.1 h with h | h
 ·exact .inl h
 ·right
  obtain ⟨⟨s, k⟩, hx, rfl⟩:=List.mem_map.1 h
  obtain ⟨j, hj⟩:=List.mem_iff_getElem?.1 hx
  rw [List.getElem?_zipIdx, List.getElem?_take] at hj
  split at hj
  ·rename_i hlt
   cases hs : shapes[j]? with
   | none => rw [hs] at hj; cases hj
   | some s' =>
    rw [hs] at hj
    simp at hj
    obtain ⟨rfl, rfl⟩:=hj
    exact ⟨_, _, hlt, hs, rfl⟩
  ·cases hj
theorem shp_kd : (shapes.all fun p => iEq p.1 4 || iEq p.1 5 || iEq p.1 6) = true:=by kernel_rfl
theorem shp_kind {s : Shp} (hs : shapes[j]? = some s) : s.1 = 4 ∨ s.1 = 5 ∨ s.1 = 6:=by
 have:=List.all_eq_true.1 shp_kd _ (List.mem_of_getElem? hs)
 rw [iEq_eq, iEq_eq, iEq_eq] at this
 simp at this
 omega
theorem vals_ok (hi : i ≤ 28) {v : Vl} (h : v ∈ valsL i) : okV v:=by
 rcases vals_mem hi h with h | ⟨j, s, hj, hs, rfl⟩
 ·simp only [baseV, List.mem_cons, List.not_mem_nil, or_false] at h
  rcases h with rfl | rfl | rfl | rfl | rfl | rfl | rfl <;> exact ⟨by decide, by decide, by decide⟩
 ·have := shp_kind hs
  exact ⟨by show 0 ≤ s.1; omega, by show s.1 ≤ 8; omega, fun c => by have : s.1 ≤ 2:=c; omega⟩
theorem findI_ob (G : Gd X.as i m) (hi : i ≤ 28) (hj : j < i) {s : Shp} (hs : shapes[j]? = some s) : ∃ x, X.os[j]? = some x ∧ x.a.kd = s.1 ∧ findI X.os (s.1, ((j + 1 : Nat) : Int)) = some x:=by
 have hl:=G.len hi
 have hlen : X.os.length = i:=by rw [← hl]; unfold HI.as; rw [List.length_map]
 have hx : X.os[j]? = some X.os[j]:=List.getElem?_eq_getElem (by omega)
 have hk : X.os[j].a.kd = s.1:=by
  have:=G.at_ (j:=j) (a:=X.os[j].a) (by unfold HI.as; rw [List.getElem?_map, hx]; rfl)
  rw [hs] at this; cases this; rfl
 refine ⟨_, hx, hk, ?_⟩
 unfold findI
 have h1:=shp_kind hs
 rw [if_pos ⟨by show 1 ≤ ((j + 1 : Nat) : Int); omega, by show isOb s.1; unfold isOb; omega⟩]
 show (match X.os[((j + 1 : Nat) : Int).toNat - 1]? with
  | some x => if x.a.kd = s.1 then some x else none
  | none => none) = _
 rw [show ((j + 1 : Nat) : Int).toNat - 1 = j by omega, hx]
 simp only []
 rw [if_pos hk]
theorem keep_vals (G : Gd X.as i m) (hi : i ≤ 28) {v : Vl} (h : v ∈ valsL i) : keepI X.os v = true:=by
 rcases vals_mem hi h with h | ⟨j, s, hj, hs, rfl⟩
 ·simp only [baseV, List.mem_cons, List.not_mem_nil, or_false] at h
  rcases h with rfl | rfl | rfl | rfl | rfl | rfl | rfl <;> rfl
 ·obtain ⟨x, _, _, hf⟩ := findI_ob G hi hj hs
  unfold keepI
  have:=shp_kind hs
  rw [if_neg (by show ¬ (8 < s.1 ∨ (s.1 ≤ 2 ∧ _)); omega), if_pos (by show isOb s.1; unfold isOb; omega), hf]
  rfl
theorem dfnd_ob {v : Vl} : ∀ {os : List DO} {j k : Nat}, (∀ n x, os[n]? = some x → x.n = ((k + n + 1 : Nat) : Int)) → ∀ {x : DO}, os[j]? = some x → v = (x.a.kd, ((k + j + 1 : Nat) : Int)) → dfnd v os = .ptr x.ob 0
 | [], j, k, _, x, h, _ => by cases h
 | y :: os, 0, k, hn, x, h, hv => by
  cases h
  unfold dfnd
  rw [if_pos]
  rw [hv, hn 0 y rfl]
 | y :: os, j + 1, k, hn, x, h, hv => by
  unfold dfnd
  have hy:=hn 0 y rfl
  rw [if_neg]
  ·exact dfnd_ob (k := k + 1) (fun n z hz => by rw [hn (n + 1) z hz]; omega) (j := j) h (by rw [hv]; congr 2; omega)
  ·intro c
   rw [hv] at c
   have:=congrArg Prod.snd c
   have e : y.n = ((k + (j + 1) + 1 : Nat) : Int):=this
   omega
theorem dfnd_at (hN : DN Y) {x : DO} (hj : Y.os[j]? = some x) : dfnd (x.a.kd, ((j + 1 : Nat) : Int)) Y.os = .ptr x.ob 0 :=
 dfnd_ob (k:=0) (fun n z hz => by rw [hN n z hz]; omega) hj (by rw [Nat.zero_add])
theorem findD_ob (G : Gd Y.as i m) (hN : DN Y) (hi : i ≤ 28) (hj : j < i) {s : Shp} (hs : shapes[j]? = some s) : ∃ x, Y.os[j]? = some x ∧ x.a.kd = s.1 ∧ dfnd (s.1, ((j + 1 : Nat) : Int)) Y.os = .ptr x.ob 0:=by
 have hl:=G.len hi
 have hlen : Y.os.length = i:=by rw [← hl]; unfold DI.as; rw [List.length_map]
 have hx : Y.os[j]? = some Y.os[j]:=List.getElem?_eq_getElem (by omega)
 have hk : Y.os[j].a.kd = s.1:=by
  have:=G.at_ (j:=j) (a:=Y.os[j].a) (by unfold DI.as; rw [List.getElem?_map, hx]; rfl)
  rw [hs] at this; cases this; rfl
 exact ⟨_, hx, hk, by rw [← hk]; exact dfnd_at hN hx⟩
theorem keepD_vals (G : Gd Y.as i m) (hN : DN Y) (hi : i ≤ 28) {v : Vl} (h : v ∈ valsL i) : KeepD Y v:=by
 have ho:=vals_ok hi h
 refine ⟨ho.2.1, ?_, fun hb => ?_⟩
 ·unfold plain
  by_cases e : 2 < v.1
  ·exact .inl e
  ·exact .inr (ho.2.2 (by omega))
 ·rcases vals_mem hi h with h | ⟨j, s, hj, hs, rfl⟩
  ·simp only [baseV, List.mem_cons, List.not_mem_nil, or_false] at h
   exfalso
   rcases h with rfl | rfl | rfl | rfl | rfl | rfl | rfl <;> exact absurd hb (by decide)
  ·obtain ⟨x, _, _, hd⟩ := findD_ob G hN hi hj hs
   exact ⟨_, hd⟩
theorem Gd.room (G : Gd X.as i m) (hi : i ≤ 28) (hm : m ≤ 100) (hx : X.max = 1048576) (hmd : 0 ≤ X.made ∧ X.made ≤ 1000000) : Room X:=by
 have hl:=G.len hi
 have hlen : X.os.length = i:=by rw [← hl]; unfold HI.as; rw [List.length_map]
 have hu:=G.used hi hm
 have ha : ∀ x ∈ X.os, x.a ∈ X.as:=fun x h => List.mem_map_of_mem h
 exact ⟨by omega, used_pos _, by omega, by omega, hmd, fun x h => by have:=G.pl _ (ha x h); omega, fun x h => G.nd _ (ha x h)⟩
theorem Gd.vals (G : Gd X.as i m) : ValsOk X:=fun x h p hp => G.vs x.a (List.mem_map_of_mem h) p hp
theorem Gd.roomD (G : Gd Y.as i m) (hN : DN Y) (hi : i ≤ 28) (hm : m ≤ 100) (hx : Y.max = 1048576) (hmd : 0 ≤ Y.made ∧ Y.made ≤ 1000000) : RoomD Y:=by
 have hl:=G.len hi
 have hlen : Y.os.length = i:=by rw [← hl]; unfold DI.as; rw [List.length_map]
 have hu:=G.used hi hm
 have ha : ∀ x ∈ Y.os, x.a ∈ Y.as:=fun x h => List.mem_map_of_mem h
 exact ⟨by omega, by omega, by omega, hmd, fun x h => ⟨by have:=G.pl _ (ha x h); omega, by have:=G.tx (ha x h); omega⟩, hN⟩
end
end Go.MS
end
