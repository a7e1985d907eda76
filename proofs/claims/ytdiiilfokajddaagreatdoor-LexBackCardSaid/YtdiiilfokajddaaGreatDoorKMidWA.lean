/- What a heap is made of, piece by piece: pieces that lie apart; laws for walking a shallow text over them. -/
import Derived.Test.YtdiiilfokajddaaGreatDoorKMidZ
import Derived.IntWalk
set_option linter.all false
set_option warn.classDefReducibility false
noncomputable section
section
namespace Go.Mid
section
abbrev Fg:=Nat → Option Ob
abbrev Asn:=Fg → Prop
def Dj (f k : Fg) : Prop:=∀ b, f b = none ∨ k b = none
def Lf (f k : Fg) : Prop:=∀ b o, f b = some o → k b = some o
def un (f k : Fg) : Fg := fun b => match f b with
 | some o => some o
 | none => k b
def up (f : Fg) (b : Nat) (o : Ob) : Fg:=fun x => if b = x then some o else f x
def Sat : List Asn → Fg → Prop
 | [], _ => True
 | A :: l, g => ∃ f k, Dj f k ∧ Lf f g ∧ Lf k g ∧ A f ∧ Sat l k
theorem Lf.refl (f : Fg) : Lf f f:=fun _ _ h => h
theorem Lf.trans {f g k : Fg} (h1 : Lf f g) (h2 : Lf g k) : Lf f k:=fun b o h => h2 b o (h1 b o h)
theorem Sat.le : ∀ {l : List Asn} {g g' : Fg}, Lf g g' → Sat l g → Sat l g'
 | [], _, _, _, _ => trivial
 | _ :: _, _, _, hl, ⟨f, k, a, b, c, d, e⟩ => ⟨f, k, a, b.trans hl, c.trans hl, d, e⟩
theorem Sat.swap {A B : Asn} {l : List Asn} {g : Fg} (h : Sat (A :: B :: l) g) : Sat (B :: A :: l) g:=by
 obtain ⟨f, k, a1, a2, a3, a4, f2, k2, b1, b2, b3, b4, b5⟩:=h
 refine ⟨f2, un f k2, fun b => ?_, b2.trans a3, fun b o h => ?_, b4, f, k2, fun b => ?_, fun b o h => ?_, fun b o h => ?_, a4, b5⟩
 ·cases h2 : f2 b with
  | none => exact .inl rfl
  | some o =>
   right
   have hk:=b2 b o h2
   have hf : f b = none:=(a1 b).resolve_right (by rw [hk]; exact fun h => nomatch h)
   have hk2 : k2 b = none:=(b1 b).resolve_left (by rw [h2]; exact fun h => nomatch h)
   unfold un; rw [hf]; exact hk2
 ·unfold un at h
  split at h
  ·rename_i o' ho; cases h; exact a2 b _ ho
  ·exact a3 b o (b3 b o h)
 ·cases hf : f b with
  | none => exact .inl rfl
  | some o =>
   right
   have hk : k b = none:=(a1 b).resolve_left (by rw [hf]; exact fun h => nomatch h)
   cases h2 : k2 b with
   | none => rfl
   | some o => rw [b3 b o h2] at hk; cases hk
 ·unfold un; rw [h]
 ·have hk := b3 b o h
  have hf : f b = none:=(a1 b).resolve_right (by rw [hk]; exact fun h => nomatch h)
  unfold un; rw [hf]; exact h
theorem Sat.cons {A : Asn} {l l' : List Asn} {g : Fg} (hl : ∀ k, Sat l k → Sat l' k) (h : Sat (A :: l) g) : Sat (A :: l') g:=by
 obtain ⟨f, k, a, b, c, d, e⟩:=h
 exact ⟨f, k, a, b, c, d, hl k e⟩
theorem Sat.tl {A : Asn} {l : List Asn} {g : Fg} (h : Sat (A :: l) g) : Sat l g:=by
 obtain ⟨f, k, a, b, c, d, e⟩:=h
 exact e.le c
theorem Sat.hd {A : Asn} {l : List Asn} {g : Fg} (h : Sat (A :: l) g) : ∃ f, Lf f g ∧ A f:=by
 obtain ⟨f, k, a, b, c, d, e⟩:=h
 exact ⟨f, b, d⟩
theorem Sat.get {A : Asn} : ∀ {l : List Asn} {i : Nat} {g : Fg}, Sat l g → l[i]? = some A → ∃ f, Lf f g ∧ A f
 | [], _, _, _, h => by cases h
 | B :: l, 0, g, hs, h => by cases h; exact hs.hd
 | B :: l, i + 1, g, hs, h => Sat.get hs.tl (i:=i) h
theorem Sat.imp {A A' : Asn} (hA : ∀ f, A f → A' f) : ∀ {l : List Asn} {i : Nat} {g : Fg}, Sat l g → l[i]? = some A → Sat (l.set i A') g
 | [], _, _, _, h => by cases h
 | B :: l, 0, g, ⟨f, k, a, b, c, d, e⟩, h => by cases h; exact ⟨f, k, a, b, c, hA f d, e⟩
 | B :: l, i + 1, g, ⟨f, k, a, b, c, d, e⟩, h => ⟨f, k, a, b, c, d, Sat.imp hA e (i:=i) h⟩
theorem up_ne {f : Fg} {b x : Nat} {o : Ob} (h : b ≠ x) : up f b o x = f x:=if_neg h
theorem up_eq (f : Fg) (b : Nat) (o : Ob) : up f b o b = some o:=if_pos rfl
theorem Sat.put {A A' : Asn} {b : Nat} {o : Ob} (hA : ∀ f, A f → f b ≠ none ∧ A' (up f b o)) : ∀ {l : List Asn} {i : Nat} {g : Fg}, Sat l g → l[i]? = some A → Sat (l.set i A') (up g b o)
 | [], _, _, _, h => by cases h
 | B :: l, 0, g, ⟨f, k, a1, a2, a3, a4, a5⟩, h => by
  cases h
  obtain ⟨h1, h2⟩:=hA f a4
  have hk : k b = none:=(a1 b).resolve_left h1
  refine ⟨up f b o, k, fun x => ?_, fun x y hx => ?_, fun x y hx => ?_, h2, a5⟩
  ·by_cases e : b = x
   ·subst e; exact .inr hk
   ·rw [up_ne e]; exact a1 x
  ·by_cases e : b = x
   ·subst e; rw [up_eq] at hx ⊢; exact hx
   ·rw [up_ne e] at hx ⊢; exact a2 x y hx
  ·have e : b ≠ x := fun e => by subst e; rw [hk] at hx; cases hx
   rw [up_ne e]; exact a3 x y hx
 | B :: l, i + 1, g, ⟨f, k, a1, a2, a3, a4, a5⟩, h => by
  have h' : l[i]? = some A:=h
  obtain ⟨f', hf', hA'⟩:=Sat.get a5 h'
  obtain ⟨h1, _⟩:=hA f' hA'
  have hk : k b ≠ none := fun e => by
   cases hb : f' b with
   | none => exact h1 hb
   | some y => rw [hf' b y hb] at e; cases e
  have hf : f b = none:=(a1 b).resolve_right hk
  refine ⟨f, up k b o, fun x => ?_, fun x y hx => ?_, fun x y hx => ?_, a4, Sat.put hA a5 h'⟩
  ·by_cases e : b = x
   ·subst e; exact .inl hf
   ·rw [up_ne e]; exact a1 x
  ·have e : b ≠ x := fun e => by subst e; rw [hf] at hx; cases hx
   rw [up_ne e]; exact a2 x y hx
  ·by_cases e : b = x
   ·subst e; rw [up_eq] at hx ⊢; exact hx
   ·rw [up_ne e] at hx ⊢; exact a3 x y hx
theorem Sat.new {A : Asn} {l : List Asn} {g : Fg} {b : Nat} {o : Ob} (hs : Sat l g) (hb : g b = none) (hA : A (up (fun _ => none) b o)) : Sat (A :: l) (up g b o):=by
 refine ⟨up (fun _ => none) b o, g, fun x => ?_, fun x y hx => ?_, fun x y hx => ?_, hA, hs⟩
 ·by_cases e : b = x
  ·subst e; exact .inr hb
  ·rw [up_ne e]; exact .inl rfl
 ·by_cases e : b = x
  ·subst e; rw [up_eq] at hx ⊢; exact hx
  ·rw [up_ne e] at hx; cases hx
 ·have e : b ≠ x := fun e => by subst e; rw [hb] at hx; cases hx
  rw [up_ne e]; exact hx
def ands (l : List Asn) : Asn:=fun f => Sat l f
theorem Sat.app : ∀ {l l' : List Asn} {g : Fg}, Sat (ands l :: l') g → Sat (l ++ l') g
 | [], _, _, h => h.tl
 | A :: l, l', g, ⟨f, k, a1, a2, a3, ⟨f1, k1, b1, b2, b3, b4, b5⟩, a5⟩ => by
  refine ⟨f1, un k1 k, fun x => ?_, b2.trans a2, fun x y hx => ?_, b4, Sat.app ⟨k1, k, fun x => ?_, fun x y hx => ?_, fun x y hx => ?_, b5, a5⟩⟩
  ·cases h1 : f1 x with
   | none => exact .inl rfl
   | some y =>
    right
    have e1 : k1 x = none:=(b1 x).resolve_left (by rw [h1]; exact fun h => nomatch h)
    have e2 : k x = none:=(a1 x).resolve_left (by rw [b2 x y h1]; exact fun h => nomatch h)
    unfold un; rw [e1]; exact e2
  ·unfold un at hx
   split at hx
   ·rename_i o' ho; cases hx; exact a2 x _ (b3 x _ ho)
   ·exact a3 x y hx
  ·cases h1 : k1 x with
   | none => exact .inl rfl
   | some y => exact .inr ((a1 x).resolve_left (by rw [b3 x y h1]; exact fun h => nomatch h))
  ·unfold un; rw [hx]
  ·have e : k1 x = none:=by
    cases h1 : k1 x with
    | none => rfl
    | some z => have:=(a1 x).resolve_left (by rw [b3 x z h1]; exact fun h => nomatch h); rw [hx] at this; cases this
   unfold un; rw [e]; exact hx
theorem Sat.pack : ∀ {l l' : List Asn} {g : Fg}, Sat (l ++ l') g → Sat (ands l :: l') g
 | [], _, g, h => ⟨fun _ => none, g, fun _ => .inl rfl, fun _ _ h => (nomatch h), Lf.refl g, trivial, h⟩
 | A :: l, l', g, ⟨f, k, a1, a2, a3, a4, a5⟩ => by
  obtain ⟨f1, k1, b1, b2, b3, b4, b5⟩:=Sat.pack (l:=l) (l':=l') a5
  refine ⟨un f f1, k1, fun x => ?_, fun x y hx => ?_, b3.trans a3, ⟨f, f1, fun x => ?_, fun x y hx => ?_, fun x y hx => ?_, a4, b4⟩, b5⟩
  ·cases h1 : k1 x with
   | none => exact .inr rfl
   | some y =>
    left
    have e1 : f1 x = none:=(b1 x).resolve_right (by rw [h1]; exact fun h => nomatch h)
    have e2 : f x = none:=(a1 x).resolve_right (by rw [b3 x y h1]; exact fun h => nomatch h)
    unfold un; rw [e2]; exact e1
  ·unfold un at hx
   split at hx
   ·rename_i o' ho; cases hx; exact a2 x _ ho
   ·exact a3 x y (b2 x y hx)
  ·cases h1 : f1 x with
   | none => exact .inr rfl
   | some y => exact .inl ((a1 x).resolve_right (by rw [b2 x y h1]; exact fun h => nomatch h))
  ·unfold un; rw [hx]
  ·have e : f x = none:=by
    cases h1 : f x with
    | none => rfl
    | some z => have:=(a1 x).resolve_left (by rw [h1]; exact fun h => nomatch h); rw [b2 x y hx] at this; cases this
   unfold un; rw [e]; exact hx
def hf (h : Hp) : Fg:=fun b => h.t.get b
structure St (l : List Asn) (h : Hp) : Prop where
 wf : h.Wf
 sat : Sat l (hf h)
theorem hf_put (h : Hp) (b : Nat) (o : Ob) : hf (h.put b o) = up (hf h) b o:=by
 funext x; simp only [hf, up, Hp.put, Tr.get_set]
theorem hf_new (h : Hp) (o : Ob) : hf (h.new o) = up (hf h) h.n o:=by
 funext x; simp only [hf, up, Hp.new, Tr.get_set]
theorem St.tl {A : Asn} {l : List Asn} {h : Hp} (H : St (A :: l) h) : St l h:=⟨H.wf, H.sat.tl⟩
theorem St.put_wf {h : Hp} (hw : h.Wf) {b : Nat} (hb : b < h.n) (o : Ob) : (h.put b o).Wf:=by
 intro x hx
 have hx' : h.n ≤ x:=hx
 show (h.t.set b o).get x = none
 rw [Tr.get_set_ne _ _ (by omega)]; exact hw x hx'
theorem new_wf {h : Hp} (hw : h.Wf) (o : Ob) : (h.new o).Wf:=by
 intro x hx
 have hx' : h.n + 1 ≤ x:=hx
 show (h.t.set h.n o).get x = none
 rw [Tr.get_set_ne _ _ (by omega)]; exact hw x (by omega)
theorem St.lt {A : Asn} {b : Nat} {l : List Asn} {h : Hp} {i : Nat} (H : St l h) (hi : l[i]? = some A) (hA : ∀ f, A f → f b ≠ none) : b < h.n:=by
 obtain ⟨f, h1, h2⟩:=H.sat.get hi
 rcases Nat.lt_or_ge b h.n with h3 | h3
 ·exact h3
 ·cases hb : f b with
  | none => exact (hA f h2 hb).elim
  | some o => have:=h1 b o hb; unfold hf at this; rw [H.wf b h3] at this; cases this
theorem St.put {A A' : Asn} {b : Nat} {o : Ob} {l : List Asn} {h : Hp} {i : Nat} (H : St l h) (hi : l[i]? = some A) (hA : ∀ f, A f → f b ≠ none ∧ A' (up f b o)) : St (l.set i A') (h.put b o) :=
 ⟨St.put_wf H.wf (H.lt hi fun f hf => (hA f hf).1) o, by rw [hf_put]; exact H.sat.put hA hi⟩
theorem St.new {A : Asn} {o : Ob} {l : List Asn} {h : Hp} (H : St l h) (hA : A (up (fun _ => none) h.n o)) : St (A :: l) (h.new o) :=
 ⟨new_wf H.wf o, by rw [hf_new]; exact H.sat.new (H.wf h.n (Nat.le_refl _)) hA⟩
theorem St.imp {A A' : Asn} {l : List Asn} {h : Hp} {i : Nat} (H : St l h) (hi : l[i]? = some A) (hA : ∀ f, A f → A' f) : St (l.set i A') h:=⟨H.wf, H.sat.imp hA hi⟩
theorem St.imp0 {A A' : Asn} {l : List Asn} {h : Hp} (H : St (A :: l) h) (hA : ∀ f, A f → A' f) : St (A' :: l) h:=H.imp (i:=0) rfl hA
theorem St.ex {α : Type} {A : α → Asn} {l : List Asn} {h : Hp} (H : St ((fun f => ∃ x, A x f) :: l) h) : ∃ x, St (A x :: l) h:=by
 obtain ⟨f, k, a, b, c, ⟨x, d⟩, e⟩:=H.sat
 exact ⟨x, H.wf, f, k, a, b, c, d, e⟩
theorem St.pure {p : Prop} {A : Asn} {l : List Asn} {h : Hp} (H : St ((fun f => p ∧ A f) :: l) h) : p ∧ St (A :: l) h:=by
 obtain ⟨f, k, a, b, c, ⟨x, d⟩, e⟩:=H.sat
 exact ⟨x, H.wf, f, k, a, b, c, d, e⟩
theorem St.app {l l' : List Asn} {h : Hp} (H : St (ands l :: l') h) : St (l ++ l') h:=⟨H.wf, H.sat.app⟩
theorem St.pack {l l' : List Asn} {h : Hp} (H : St (l ++ l') h) : St (ands l :: l') h:=⟨H.wf, H.sat.pack⟩
section
variable {a b c d e f g i j k m o : Asn} {l : List Asn} {h : Hp}
theorem St.u1 (H : St (a :: b :: l) h) : St (b :: a :: l) h:=⟨H.wf, H.sat.swap⟩
theorem St.u2 (H : St (a :: b :: c :: l) h) : St (c :: a :: b :: l) h:=⟨H.wf, (H.sat.cons fun _ => Sat.swap).swap⟩
end
section
variable {a b c d : Asn} {l : List Asn} {h : Hp}
theorem St.d2 (H : St (a :: b :: c :: l) h) : St (b :: c :: a :: l) h:=⟨H.wf, H.sat.swap.cons fun _ => Sat.swap⟩
theorem St.d3 (H : St (a :: b :: c :: d :: l) h) : St (b :: c :: d :: a :: l) h:=⟨H.wf, H.sat.swap.cons fun _ h => h.swap.cons fun _ => Sat.swap⟩
theorem St.x1 (H : St (a :: b :: l) h) : St (a :: l) h:=⟨H.wf, H.sat.cons fun _ => Sat.tl⟩
end
end
section
def row (b : Nat) (cs : List V) : Asn:=fun f => ∃ t g e, f b = some (.cells t cs.length g e) ∧ ∀ i, i < cs.length → t.get i = cs[i]?
def frz (S : Nat → Nat → Option V) : Asn:=fun f => ∀ b o v, S b o = some v → ∃ t, cellsT (f b) = some t ∧ t.get o = some v
inductive Vec (e s : Nat) (cs : List V) : V → Asn
 | nil {f : Fg} : cs = [] → Vec e s cs .nilSlice f
 | grown {f : Fg} (b n m : Nat) (t : Tr V) : f b = some (.cells t m true e) → cs.length = n * s → n * s ≤ m → (∀ i, i < cs.length → t.get i = cs[i]?) → Vec e s cs (.slice b 0 n 0 true) f
 | full {f : Fg} (b n : Nat) (t : Tr V) : f b = some (.cells t (n * s) false e) → cs.length = n * s → (∀ i, i < cs.length → t.get i = cs[i]?) → Vec e s cs (.slice b 0 n n false) f
theorem row_own {b : Nat} {cs : List V} : ∀ f, row b cs f → f b ≠ none:=fun f ⟨t, g, e, h, _⟩ => by rw [h]; exact fun h => nomatch h
theorem setL_row (cs : List V) : ∀ i, i < cs.length → (Tr.nil.setL 0 cs).get i = cs[i]? := fun i hi => by
 rw [Tr.get_setL, if_pos ⟨Nat.zero_le _, by omega⟩]; rfl
variable {l : List Asn} {h h0 h' : Hp} {b o i : Nat} {cs : List V}
theorem St.row_cell (H : St l h) (hi : l[i]? = some (row b cs)) (ho : o < cs.length) : h.cell b o = cs[o]?:=by
 obtain ⟨f, h1, t, g, e, h2, h3⟩:=H.sat.get hi
 have:=h1 b _ h2
 unfold hf at this
 unfold Hp.cell; rw [this]; exact h3 o ho
theorem St.row_wide (H : St l h) (hi : l[i]? = some (row b cs)) : h.wide b = cs.length:=by
 obtain ⟨f, h1, t, g, e, h2, h3⟩:=H.sat.get hi
 have:=h1 b _ h2
 unfold hf at this
 unfold Hp.wide; rw [this]
theorem St.frz_cell {S : Nat → Nat → Option V} {v : V} (H : St l h) (hi : l[i]? = some (frz S)) (hS : S b o = some v) : h.cell b o = some v:=by
 obtain ⟨f, h1, h2⟩:=H.sat.get hi
 obtain ⟨t, h3, h4⟩:=h2 b o v hS
 cases hb : f b with
 | none => rw [hb] at h3; cases h3
 | some ob =>
  have:=h1 b _ hb
  unfold hf at this
  unfold Hp.cell; rw [this, ← hb, h3]; exact h4
theorem St.cells_of {n : Nat} {f : Nat → Option V} (hc : ∀ x, x < n → h.cell b (o + x) = f x) {l : List V} (hl : ∀ x, x < n → f x = l[x]?) (hn : l.length = n) : h.cells b o n = some l:=by
 induction n generalizing o f l with
 | zero => cases l with
  | nil => rfl
  | cons => cases hn
 | succ n ih =>
  cases l with
  | nil => cases hn
  | cons v l =>
   refine cells_cons ?_ (ih (f:=fun x => f (x + 1)) (fun x hx => ?_) (fun x hx => ?_) (by simpa using hn))
   ·have := hc 0 (by omega); rw [hl 0 (by omega)] at this; exact this
   ·have := hc (x + 1) (by omega); rw [← this]; congr 1; omega
   ·have := hl (x + 1) (by omega); rw [this]; rfl
theorem St.row_cells {n : Nat} (H : St l h) (hi : l[i]? = some (row b cs)) (ho : o + n ≤ cs.length) : h.cells b o n = some ((cs.drop o).take n) :=
 St.cells_of (f:=fun x => cs[o + x]?) (fun x hx => H.row_cell hi (by omega)) (fun x hx => by rw [List.getElem?_take, if_pos hx, List.getElem?_drop]) (by rw [List.length_take, List.length_drop]; omega)
theorem St.row_set {x : V} (H : St l h) (hi : l[i]? = some (row b cs)) (ho : o < cs.length) : St (l.set i (row b (cs.set o x))) (h.wr b o x):=by
 obtain ⟨f, h1, t, g, e, h2, h3⟩:=H.sat.get hi
 have hg:=h1 b _ h2
 unfold hf at hg
 rw [wr_of hg]
 refine H.put hi fun f' hf' => ⟨row_own f' hf', ?_⟩
 refine ⟨t.set o x, g, e, ?_, fun y hy => ?_⟩
 ·rw [up_eq, List.length_set]
 ·rw [List.length_set] at hy
  rw [Tr.get_set, List.getElem?_set]
  by_cases ey : o = y
  ·rw [if_pos ey, if_pos ey, if_pos ho]
  ·rw [if_neg ey, if_neg ey]; exact h3 y hy
def over (cs : List V) (o : Nat) (l : List V) : List V:=cs.take o ++ l ++ cs.drop (o + l.length)
theorem over_len {cs : List V} {o : Nat} {l : List V} (h : o + l.length ≤ cs.length) : (over cs o l).length = cs.length:=by
 unfold over; simp only [List.length_append, List.length_take, List.length_drop]; omega
theorem over_get {cs : List V} {o : Nat} {l : List V} (h : o + l.length ≤ cs.length) (y : Nat) : (over cs o l)[y]? = if o ≤ y ∧ y < o + l.length then l[y - o]? else cs[y]?:=by
 unfold over
 have e1 : (cs.take o).length = o:=by rw [List.length_take]; omega
 by_cases h1 : y < o
 ·rw [if_neg (by omega), List.append_assoc, List.getElem?_append_left (by omega), List.getElem?_take, if_pos h1]
 ·by_cases h2 : y < o + l.length
  ·rw [if_pos (by omega), List.append_assoc, List.getElem?_append_right (by omega), e1, List.getElem?_append_left (by omega)]
  ·rw [if_neg (by omega), List.getElem?_append_right (by simp only [List.length_append]; omega), List.getElem?_drop]
   congr 1; simp only [List.length_append]; omega
theorem St.row_over {L : List V} (H : St l h) (hi : l[i]? = some (row b cs)) (ho : o + L.length ≤ cs.length) (hp : 0 < cs.length) : St (l.set i (row b (over cs o L))) (h.wrL b o L):=by
 obtain ⟨f, h1, t, g, e, h2, h3⟩:=H.sat.get hi
 have hg:=h1 b _ h2
 unfold hf at hg
 rw [wrL_of hg]
 refine H.put hi fun f' hf' => ⟨row_own f' hf', ?_⟩
 refine ⟨t.setL o L, g, e, ?_, fun y hy => ?_⟩
 ·rw [up_eq, over_len ho]
 ·rw [over_len ho] at hy
  rw [Tr.get_setL, over_get ho]
  by_cases ey : o ≤ y ∧ y < o + L.length
  ·rw [if_pos ey, if_pos ey]
  ·rw [if_neg ey, if_neg ey]; exact h3 y hy
theorem St.row_new (H : St l h) (e : TypeId) (cs : List V) (g : Bool) : St (row h.n cs :: l) (h.newRow e cs g) :=
 H.new ⟨_, g, e, up_eq _ _ _, setL_row cs⟩
structure Lo (ro : Bool) (h0 h : Hp) : Prop where
 n : h0.n ≤ h.n
 low : ro = true → ∀ m, m ≤ h0.n → m ≤ h0.low → m ≤ h.low
theorem Lo.refl (ro : Bool) (h : Hp) : Lo ro h h:=⟨Nat.le_refl _, fun _ _ _ h => h⟩
theorem Lo.trans {ro : Bool} (a : Lo ro h0 h) (b : Lo ro h h') : Lo ro h0 h':=⟨Nat.le_trans a.n b.n, fun hr m h1 h2 => b.low hr m (Nat.le_trans h1 a.n) (a.low hr m h1 h2)⟩
theorem Lo.weak' {ro ro' : Bool} (a : Lo ro' h0 h) (hr : ro = true → ro' = true) : Lo ro h0 h:=⟨a.n, fun e => a.low (hr e)⟩
def Tri (h0 : Hp) (ro : Bool) (F : List Asn) (Q : V → List Asn → Prop) (x : VH) : Prop :=
 ∃ v h' B, x = some (v, h') ∧ Q v B ∧ St (B ++ F) h' ∧ Lo ro h0 h'
variable {ro ro' : Bool} {F F' : List Asn} {Q Q' : V → List Asn → Prop} {K : V → Hp → VH} {k : V → VH} {x : VH}
theorem Tri.done {v : V} {B : List Asn} (hq : Q v B) (H : St (B ++ F) h) (L : Lo ro h0 h) : Tri h0 ro F Q (some (v, h)):=⟨v, h, B, rfl, hq, H, L⟩
theorem Tri.bind (hx : Tri h ro' F' Q' x) (L : Lo ro h0 h) (hr : ro = true → ro' = true) (hK : ∀ v h' B, Q' v B → St (B ++ F') h' → Lo ro h0 h' → Tri h0 ro F Q (K v h')) : Tri h0 ro F Q (bindS x K):=by
 obtain ⟨v, h', B, rfl, hq, hs, hl⟩:=hx
 exact hK v h' B hq hs (L.trans (hl.weak' hr))
theorem Tri.tail (hx : Tri h ro' F' Q' x) (L : Lo ro h0 h) (hr : ro = true → ro' = true) (hK : ∀ v h' B, Q' v B → St (B ++ F') h' → Lo ro h0 h' → ∃ B', Q v B' ∧ St (B' ++ F) h') : Tri h0 ro F Q x:=by
 obtain ⟨v, h', B, rfl, hq, hs, hl⟩:=hx
 have L':=L.trans (hl.weak' hr)
 obtain ⟨B', h1, h2⟩:=hK v h' B hq hs L'
 exact ⟨v, h', B', rfl, h1, h2, L'⟩
theorem Tri.mono (hx : Tri h0 ro F Q' x) (hq : ∀ v B, Q' v B → Q v B) : Tri h0 ro F Q x:=let ⟨v, h', B, a, b, c⟩:=hx; ⟨v, h', B, a, hq v B b, c⟩
theorem Tri.eqv {y : VH} (e : y = x) (hx : Tri h0 ro F Q x) : Tri h0 ro F Q y:=by rw [e]; exact hx
theorem Tri.call {y : VH} (hF : ∀ p, x = some p → y = some p) (hx : Tri h0 ro F Q x) : Tri h0 ro F Q y:=by
 obtain ⟨v, h', B, e, r⟩:=hx
 exact ⟨v, h', B, hF _ e, r⟩
theorem Lo.new (L : Lo ro h0 h) (e : TypeId) (cs : List V) (g : Bool) : Lo ro h0 (h.newRow e cs g):=⟨Nat.le_trans L.n (Nat.le_succ _), fun hr m h1 h2 => L.low hr m h1 h2⟩
theorem Lo.wr (L : Lo ro h0 h) (b o : Nat) (x : V) (hb : ro = true → h0.n ≤ b) : Lo ro h0 (h.wr b o x) :=
 ⟨by rw [wr_n]; exact L.n, fun hr m h1 h2 => Nat.le_trans (Nat.le_min.2 ⟨Nat.le_trans h1 (hb hr), L.low hr m h1 h2⟩) (wr_low _ _ _ _)⟩
theorem Lo.wrL (L : Lo ro h0 h) (b o : Nat) (x : List V) (hb : ro = true → h0.n ≤ b) : Lo ro h0 (h.wrL b o x) :=
 ⟨by rw [wrL_n]; exact L.n, fun hr m h1 h2 => Nat.le_trans (Nat.le_min.2 ⟨Nat.le_trans h1 (hb hr), L.low hr m h1 h2⟩) (wrL_low _ _ _ _)⟩
theorem Tri.newS {e : Nat} (H : St l h) (L : Lo ro h0 h) (hK : ∀ b h', h0.n ≤ b → St (row b cs :: l) h' → Lo ro h0 h' → Tri h0 ro F Q (K (.ptr b 0) h')) : Tri h0 ro F Q (Mid.newS e cs h K) :=
 hK _ _ L.n (H.row_new e cs false) (L.new e cs false)
theorem Tri.load (i : Nat) {v : V} (H : St l h) (hi : l[i]? = some (row b cs)) (ho : cs[o]? = some v) (hk : Tri h0 ro F Q (k v)) : Tri h0 ro F Q (load1 (.ptr b o) h k):=by
 obtain ⟨hlt, _⟩:=List.getElem?_eq_some_iff.1 ho
 rw [load1_at, H.row_cell hi hlt, ho]; exact hk
theorem Tri.loadF (i : Nat) {S : Nat → Nat → Option V} {v : V} (H : St l h) (hi : l[i]? = some (frz S)) (hS : S b o = some v) (hk : Tri h0 ro F Q (k v)) : Tri h0 ro F Q (load1 (.ptr b o) h k):=by
 rw [load1_at, H.frz_cell hi hS]; exact hk
theorem Tri.loads (i : Nat) {s : Nat} (hs : s ≠ 0) (H : St l h) (hi : l[i]? = some (row b cs)) (ho : o + s ≤ cs.length) (hk : Tri h0 ro F Q (k (.agg ((cs.drop o).take s)))) : Tri h0 ro F Q (loadN s (.ptr b o) h k):=by
 rw [loadN_at _ _ _ _ _ hs, H.row_cells hi ho]; exact hk
theorem Tri.store (i : Nat) {x : V} {k : Hp → VH} (H : St l h) (hi : l[i]? = some (row b cs)) (ho : o < cs.length) (L : Lo ro h0 h) (hb : ro = true → h0.n ≤ b) (h1 : oneCell x = true)
 (hk : ∀ h', St (l.set i (row b (cs.set o x))) h' → Lo ro h0 h' → Tri h0 ro F Q (k h')) : Tri h0 ro F Q (storeC (.ptr b o) x h k):=by
 rw [storeC_at k h1 (by rw [H.row_wide hi]; exact ho)]
 exact hk _ (H.row_set hi ho) (L.wr b o x hb)
theorem Tri.stores (i : Nat) {s : Nat} {X : List V} {k : Hp → VH} (hs : s ≠ 0) (H : St l h) (hi : l[i]? = some (row b cs)) (hX : X.length = s) (ho : o + s ≤ cs.length) (L : Lo ro h0 h) (hb : ro = true → h0.n ≤ b) (h1 : allOne X = true)
 (hk : ∀ h', St (l.set i (row b (over cs o X))) h' → Lo ro h0 h' → Tri h0 ro F Q (k h')) : Tri h0 ro F Q (storeN s (.ptr b o) (.agg X) h k):=by
 rw [storeN_at k hs hX h1 (by rw [H.row_wide hi]; exact ho)]
 exact hk _ (H.row_over hi (by omega) (by omega)) (L.wrL b o X hb)
theorem St.draw (H : St l h) (m : Nat) : St l ⟨h.t, h.n, m⟩:=⟨H.wf, H.sat⟩
theorem Tri.eql {d : IntKind} {m n : Int} (h1 : m = n → Tri h0 ro F Q (k (.bool true))) (h2 : m ≠ n → Tri h0 ro F Q (k (.bool false))) : Tri h0 ro F Q (intS .eql (.int d m) (.int d n) k):=by
 rw [intS_at, int_eql, optS_at]; by_cases h : m = n
 ·rw [decide_eq_true h]; exact h1 h
 ·rw [decide_eq_false h]; exact h2 h
theorem Tri.neq {d : IntKind} {m n : Int} (h1 : m ≠ n → Tri h0 ro F Q (k (.bool true))) (h2 : m = n → Tri h0 ro F Q (k (.bool false))) : Tri h0 ro F Q (intS .neq (.int d m) (.int d n) k):=by
 rw [intS_at, int_neq, optS_at]; by_cases h : m = n
 ·rw [decide_eq_false (fun g => g h)]; exact h2 h
 ·rw [decide_eq_true h]; exact h1 h
theorem Tri.lss {d : IntKind} {m n : Int} (h1 : m < n → Tri h0 ro F Q (k (.bool true))) (h2 : n ≤ m → Tri h0 ro F Q (k (.bool false))) : Tri h0 ro F Q (intS .lss (.int d m) (.int d n) k):=by
 rw [intS_at, int_lss, optS_at]; by_cases h : m < n
 ·rw [decide_eq_true h]; exact h1 h
 ·rw [decide_eq_false h]; exact h2 (by omega)
theorem Tri.leq {d : IntKind} {m n : Int} (h1 : m ≤ n → Tri h0 ro F Q (k (.bool true))) (h2 : n < m → Tri h0 ro F Q (k (.bool false))) : Tri h0 ro F Q (intS .leq (.int d m) (.int d n) k):=by
 rw [intS_at, int_leq, optS_at]; by_cases h : m ≤ n
 ·rw [decide_eq_true h]; exact h1 h
 ·rw [decide_eq_false h]; exact h2 (by omega)
theorem Tri.gtr {d : IntKind} {m n : Int} (h1 : n < m → Tri h0 ro F Q (k (.bool true))) (h2 : m ≤ n → Tri h0 ro F Q (k (.bool false))) : Tri h0 ro F Q (intS .gtr (.int d m) (.int d n) k):=by
 rw [intS_at, int_gtr, optS_at]; by_cases h : n < m
 ·rw [decide_eq_true h]; exact h1 h
 ·rw [decide_eq_false h]; exact h2 (by omega)
theorem Tri.geq {d : IntKind} {m n : Int} (h1 : n ≤ m → Tri h0 ro F Q (k (.bool true))) (h2 : m < n → Tri h0 ro F Q (k (.bool false))) : Tri h0 ro F Q (intS .geq (.int d m) (.int d n) k):=by
 rw [intS_at, int_geq, optS_at]; by_cases h : n ≤ m
 ·rw [decide_eq_true h]; exact h1 h
 ·rw [decide_eq_false h]; exact h2 (by omega)
theorem Tri.add {d : IntKind} {m n : Int} (hk : Tri h0 ro F Q (k (.int d (d.wrap (m + n))))) : Tri h0 ro F Q (intS .add (.int d m) (.int d n) k):=by rw [intS_at, int_add]; exact hk
theorem Tri.sub {d : IntKind} {m n : Int} (hk : Tri h0 ro F Q (k (.int d (d.wrap (m - n))))) : Tri h0 ro F Q (intS .sub (.int d m) (.int d n) k):=by rw [intS_at, int_sub]; exact hk
theorem Tri.conv {d d' : IntKind} {n : Int} (hk : Tri h0 ro F Q (k (.int d (d.wrap n)))) : Tri h0 ro F Q (convI d (.int d' n) k):=by rw [conv_at]; exact hk
theorem Tri.addr {off b o : Nat} (hk : Tri h0 ro F Q (k (.ptr b (o + off)))) : Tri h0 ro F Q (addrS off (.ptr b o) k):=hk
theorem Tri.nil {b o : Nat} (hk : Tri h0 ro F Q (k (.ptr b o))) : Tri h0 ro F Q (nilS (.ptr b o) k):=hk
theorem Tri.ift {x y : VH} (hk : Tri h0 ro F Q x) : Tri h0 ro F Q (ifS (.bool true) x y):=hk
theorem Tri.iff {x y : VH} (hk : Tri h0 ro F Q y) : Tri h0 ro F Q (ifS (.bool false) x y):=hk
theorem Tri.ifB {b : Bool} {x y : VH} (h1 : b = true → Tri h0 ro F Q x) (h2 : b = false → Tri h0 ro F Q y) : Tri h0 ro F Q (ifS (.bool b) x y):=by
 cases b
 ·exact h2 rfl
 ·exact h1 rfl
theorem Tri.lenStr {s : Bs} (hk : Tri h0 ro F Q (k (.int .i64 (s.n : Nat)))) : Tri h0 ro F Q (Mid.lenStr (.str s) k):=hk
theorem Tri.lenSl {b o n c : Nat} {g : Bool} (hk : Tri h0 ro F Q (k (.int .i64 (n : Nat)))) : Tri h0 ro F Q (Mid.lenSl (.slice b o n c g) k):=hk
theorem Tri.bs {v : V} (hk : Tri h0 ro F Q (K v h)) : Tri h0 ro F Q (bindS (some (v, h)) K):=hk
theorem Tri.idx {s b o n c : Nat} {g : Bool} {d : IntKind} {i : Int} (h1 : 0 ≤ i) (h2 : i < n) (hk : Tri h0 ro F Q (k (.ptr b (o + i.toNat * s)))) : Tri h0 ro F Q (idxS s (.slice b o n c g) (.int d i) k):=by
 obtain ⟨j, rfl⟩ : ∃ j : Nat, i = j:=⟨i.toNat, by omega⟩
 rw [idx_at _ _ _ _ _ _ _ _ _ (by omega)]; exact hk
theorem Tri.not {b : Bool} (hk : Tri h0 ro F Q (k (.bool (!b)))) : Tri h0 ro F Q (notS (.bool b) k):=hk
theorem i64_of {n : Int} (h1 : -9223372036854775808 ≤ n) (h2 : n ≤ 9223372036854775807) : IntKind.i64.wrap n = n:=IntWalk.i64_in n ⟨by omega, by omega⟩
theorem Tri.addN {m n : Int} (h1 : -9223372036854775808 ≤ m + n) (h2 : m + n ≤ 9223372036854775807) (hk : Tri h0 ro F Q (k (.int .i64 (m + n)))) : Tri h0 ro F Q (intS .add (.int .i64 m) (.int .i64 n) k):=Tri.add (by rw [i64_of h1 h2]; exact hk)
theorem Tri.subN {m n : Int} (h1 : -9223372036854775808 ≤ m - n) (h2 : m - n ≤ 9223372036854775807) (hk : Tri h0 ro F Q (k (.int .i64 (m - n)))) : Tri h0 ro F Q (intS .sub (.int .i64 m) (.int .i64 n) k):=Tri.sub (by rw [i64_of h1 h2]; exact hk)
theorem Tri.rem {d : IntKind} {m n : Int} (hn : n ≠ 0) (hk : Tri h0 ro F Q (k (.int d (m.tmod n)))) : Tri h0 ro F Q (intS .rem (.int d m) (.int d n) k):=by rw [intS_at, int_rem _ _ _ hn]; exact hk
theorem Tri.idxStr {x : Bs} {d : IntKind} {i : Int} (h1 : 0 ≤ i) (h2 : i < (x.n : Int)) (hk : Tri h0 ro F Q (k (.int .u8 (x.byte i.toNat : Nat)))) : Tri h0 ro F Q (Mid.idxStr (.str x) (.int d i) k):=by
 obtain ⟨j, rfl⟩ : ∃ j : Nat, i = j:=⟨i.toNat, by omega⟩
 rw [idxStr_at _ _ _ _ (by omega)]; exact hk
end
section
variable {l : List Asn} {h h0 h' : Hp} {b o i : Nat} {cs : List V} {ro ro' : Bool} {F F' : List Asn} {Q Q' : V → List Asn → Prop} {K : V → Hp → VH} {k : V → VH} {x v : V} {e s : Nat} {gr : Bool}
theorem Sat.move {A X Y : Asn} : ∀ {l : List Asn} {i : Nat} {g : Fg}, Sat (X :: l.set i Y) g → l[i]? = some A → Sat (l.set i X) g
 | [], _, _, _, h => by cases h
 | B :: l, 0, g, hs, _ => hs.cons fun k hk => hk.tl
 | B :: l, i + 1, g, hs, h => by
  have h' : l[i]? = some A:=h
  have hs' : Sat (X :: B :: l.set i Y) g:=hs
  exact hs'.swap.cons fun k hk => Sat.move hk h'
inductive VecG (gr : Bool) (e s : Nat) (cs : List V) : V → Asn
 | nil {f : Fg} : cs = [] → VecG gr e s cs .nilSlice f
 | grown {f : Fg} (b n m : Nat) (t : Tr V) : f b = some (.cells t m true e) → cs.length = n * s → n * s ≤ m → (∀ i, i < cs.length → t.get i = cs[i]?) → VecG gr e s cs (.slice b 0 n 0 true) f
 | full {f : Fg} (b n c : Nat) (t : Tr V) : gr = false → f b = some (.cells t (c * s) false e) → cs.length = n * s → n ≤ c → (∀ i, i < cs.length → t.get i = cs[i]?) → VecG gr e s cs (.slice b 0 n c false) f
def vc (gr : Bool) (v : V) (e s : Nat) (cs : List V) : Asn:=VecG gr e s cs v
theorem St.vc_new (gr : Bool) (e s : Nat) (H : St l h) : St (vc gr .nilSlice e s [] :: l) h:=by
 refine ⟨H.wf, fun _ => none, hf h, fun _ => .inl rfl, fun _ _ h => (nomatch h), Lf.refl _, .nil rfl, H.sat⟩
theorem St.vc_shape (H : St l h) (hi : l[i]? = some (vc gr v e s cs)) : (v = .nilSlice ∧ cs = []) ∨ ∃ b n c g, v = .slice b 0 n c g ∧ cs.length = n * s ∧ b < h.n ∧ (gr = true → c = 0 ∧ g = true):=by
 obtain ⟨f, h1, h2⟩:=H.sat.get hi
 have hlt : ∀ b o, f b = some o → b < h.n := fun b o hb => by
  rcases Nat.lt_or_ge b h.n with h3 | h3
  ·exact h3
  ·have := h1 b o hb; unfold hf at this; rw [H.wf b h3] at this; cases this
 cases h2 with
 | nil h => exact .inl ⟨rfl, h⟩
 | grown b n m t a1 a2 a3 a4 => exact .inr ⟨b, n, 0, true, rfl, a2, hlt _ _ a1, fun _ => ⟨rfl, rfl⟩⟩
 | full b n c t a0 a1 a2 a5 a3 => exact .inr ⟨b, n, c, false, rfl, a2, hlt _ _ a1, fun e => by rw [a0] at e; cases e⟩
theorem St.vc_cell {n c : Nat} {g : Bool} (H : St l h) (hi : l[i]? = some (vc gr (.slice b 0 n c g) e s cs)) (ho : o < cs.length) : h.cell b o = cs[o]?:=by
 obtain ⟨f, h1, h2⟩:=H.sat.get hi
 unfold Hp.cell
 cases h2 with
 | grown b n m t a1 a2 a3 a4 => have:=h1 _ _ a1; unfold hf at this; rw [this]; exact a4 o ho
 | full b n c t a0 a1 a2 a5 a3 => have:=h1 _ _ a1; unfold hf at this; rw [this]; exact a3 o ho
theorem St.vc_cells {n c m : Nat} {g : Bool} (H : St l h) (hi : l[i]? = some (vc gr (.slice b 0 n c g) e s cs)) (ho : o + m ≤ cs.length) : h.cells b o m = some ((cs.drop o).take m) :=
 St.cells_of (f:=fun x => cs[o + x]?) (fun x hx => H.vc_cell hi (by omega)) (fun x hx => by rw [List.getElem?_take, if_pos hx, List.getElem?_drop]) (by rw [List.length_take, List.length_drop]; omega)
theorem St.vc_wide {n c : Nat} {g : Bool} (H : St l h) (hi : l[i]? = some (vc gr (.slice b 0 n c g) e s cs)) : cs.length ≤ h.wide b:=by
 obtain ⟨f, h1, h2⟩:=H.sat.get hi
 unfold Hp.wide
 cases h2 with
 | grown b n m t a1 a2 a3 a4 => have:=h1 _ _ a1; unfold hf at this; rw [this]; simp only; omega
 | full b n c t a0 a1 a2 a5 a3 => have:=h1 _ _ a1; unfold hf at this; rw [this]; simp only; have:=Nat.mul_le_mul_right s a5; omega
theorem St.vc_over {n c : Nat} {g : Bool} {L : List V} (H : St l h) (hi : l[i]? = some (vc gr (.slice b 0 n c g) e s cs)) (ho : o + L.length ≤ cs.length) (hp : 0 < cs.length) : St (l.set i (vc gr (.slice b 0 n c g) e s (over cs o L))) (h.wrL b o L):=by
 have key : ∀ t m g' e', h.t.get b = some (.cells t m g' e') → (∀ i, i < cs.length → t.get i = cs[i]?) → ∀ i, i < (over cs o L).length → (t.setL o L).get i = (over cs o L)[i]? := fun t m g' e' _ h4 y hy => by
  rw [over_len ho] at hy
  rw [Tr.get_setL, over_get ho]
  by_cases ey : o ≤ y ∧ y < o + L.length
  ·rw [if_pos ey, if_pos ey]
  ·rw [if_neg ey, if_neg ey]; exact h4 y hy
 obtain ⟨f, h1, h2⟩:=H.sat.get hi
 cases h2 with
 | grown b n m t a1 a2 a3 a4 =>
  have hg:=h1 _ _ a1; unfold hf at hg
  rw [wrL_of hg]
  refine H.put hi fun f' hf' => ⟨?_, .grown b n m _ (up_eq _ _ _) (by rw [over_len ho]; exact a2) a3 (key _ _ _ _ hg a4)⟩
  cases hf' with
  | grown b n m t a1 a2 a3 a4 => rw [a1]; exact fun h => nomatch h
 | full b n c t a0 a1 a2 a5 a3 =>
  have hg:=h1 _ _ a1; unfold hf at hg
  rw [wrL_of hg]
  refine H.put hi fun f' hf' => ⟨?_, .full b n c _ a0 (up_eq _ _ _) (by rw [over_len ho]; exact a2) a5 (key _ _ _ _ hg a3)⟩
  cases hf' with
  | full b n c t a0 a1 a2 a5 a3 => rw [a1]; exact fun h => nomatch h
theorem over_one {cs : List V} {o : Nat} {x : V} (h : o < cs.length) : over cs o [x] = cs.set o x:=by
 apply List.ext_getElem?
 intro y
 rw [over_get (show o + 1 ≤ cs.length from h), List.getElem?_set]
 by_cases e : o = y
 ·subst e; rw [if_pos ⟨Nat.le_refl _, by simp⟩, if_pos rfl, if_pos h, Nat.sub_self]; rfl
 ·rw [if_neg (by simp only [List.length_cons, List.length_nil]; omega), if_neg e]
theorem St.vc_set {n c : Nat} {g : Bool} (H : St l h) (hi : l[i]? = some (vc gr (.slice b 0 n c g) e s cs)) (ho : o < cs.length) : St (l.set i (vc gr (.slice b 0 n c g) e s (cs.set o x))) (h.wr b o x):=by
 have:=H.vc_over (L:=[x]) hi (show o + 1 ≤ cs.length from ho) (by omega)
 rw [over_one ho] at this
 exact this
theorem Tri.lenV (i n : Nat) (H : St l h) (hi : l[i]? = some (vc gr v e s cs)) (hs : 0 < s) (hn : cs.length = n * s) (hk : Tri h0 ro F Q (k (.int .i64 (n : Nat)))) : Tri h0 ro F Q (Mid.lenSl v k):=by
 rcases H.vc_shape hi with ⟨rfl, rfl⟩ | ⟨b, m, c, g, rfl, hm, _⟩
 ·have : n = 0 := by rcases Nat.eq_zero_or_pos n with h | h; exact h; have := Nat.mul_pos h hs; rw [← hn] at this; cases this
  subst this; exact hk
 ·have : m = n := Nat.eq_of_mul_eq_mul_right hs (by rw [← hm, hn])
  subst this; exact hk
theorem Tri.idxV (i : Nat) {d : IntKind} {j : Int} (H : St l h) (hi : l[i]? = some (vc gr v e s cs)) (h1 : 0 ≤ j) (h2 : (j.toNat + 1) * s ≤ cs.length) (hs : 0 < s) (hk : ∀ b n c g, v = .slice b 0 n c g → (gr = true → c = 0 ∧ g = true) → Tri h0 ro F Q (k (.ptr b (0 + j.toNat * s)))) : Tri h0 ro F Q (idxS s v (.int d j) k):=by
 rcases H.vc_shape hi with ⟨rfl, rfl⟩ | ⟨b, m, c, g, rfl, hm, _, hg⟩
 ·have := Nat.mul_pos (Nat.succ_pos j.toNat) hs
  exact absurd h2 (Nat.not_le.2 this)
 ·refine Tri.idx h1 ?_ (hk b m c g rfl hg)
  have : j.toNat + 1 ≤ m:=Nat.le_of_mul_le_mul_right (by rw [← hm]; exact h2) hs
  omega
theorem Tri.loadV (i : Nat) {n c : Nat} {g : Bool} {w : V} (H : St l h) (hi : l[i]? = some (vc gr (.slice b 0 n c g) e s cs)) (ho : cs[o]? = some w) (hk : Tri h0 ro F Q (k w)) : Tri h0 ro F Q (load1 (.ptr b o) h k):=by
 obtain ⟨hlt, _⟩:=List.getElem?_eq_some_iff.1 ho
 rw [load1_at, H.vc_cell hi hlt, ho]; exact hk
theorem Tri.loadsV (i : Nat) {n c m : Nat} {g : Bool} {X : List V} (hm : m ≠ 0) (H : St l h) (hi : l[i]? = some (vc gr (.slice b 0 n c g) e s cs)) (ho : o + m ≤ cs.length) (hX : (cs.drop o).take m = X) (hk : Tri h0 ro F Q (k (.agg X))) : Tri h0 ro F Q (loadN m (.ptr b o) h k):=by
 rw [loadN_at _ _ _ _ _ hm, H.vc_cells hi ho, hX]; exact hk
theorem Tri.storeV (i : Nat) {n c : Nat} {g : Bool} {k : Hp → VH} (H : St l h) (hi : l[i]? = some (vc gr (.slice b 0 n c g) e s cs)) (ho : o < cs.length) (L : Lo ro h0 h) (hb : ro = true → h0.n ≤ b) (h1 : oneCell x = true)
 (hk : ∀ h', St (l.set i (vc gr (.slice b 0 n c g) e s (cs.set o x))) h' → Lo ro h0 h' → Tri h0 ro F Q (k h')) : Tri h0 ro F Q (storeC (.ptr b o) x h k):=by
 rw [storeC_at k h1 (by have:=H.vc_wide hi; omega)]
 exact hk _ (H.vc_set hi ho) (L.wr b o x hb)
theorem Tri.bld {ps : List (Nat × V)} {len : Nat} {z : V} (H : St l h) (L : Lo ro h0 h) (hB : bldSl h ps e len s z = some (.slice h.n 0 len len false, h.newRow e cs false)) (hc : cs.length = len * s)
 (hK : ∀ b h', h0.n ≤ b → St (vc false (.slice b 0 len len false) e s cs :: l) h' → Lo ro h0 h' → Tri h0 ro F Q (K (.slice b 0 len len false) h')) : Tri h0 ro F Q (bindS (bldSl h ps e len s z) K):=by
 rw [hB]
 exact hK _ _ L.n (H.new (.full _ _ _ _ rfl (by rw [up_eq, hc]) hc (Nat.le_refl _) (setL_row cs))) (L.new _ _ _)
theorem roomB_le {n : Nat} (h : n ≤ 1073741824) : roomB n = true:=Nat.ble_eq_true_of_le h
theorem St.append {n1 n2 bytes : Nat} {new : List V} {x : V} (H : St l h) (hi : l[i]? = some (vc gr v e s cs)) (hnew : newCells h s x = some (n2, new)) (hs : 0 < s) (h1 : cs.length = n1 * s) (h2 : new.length = n2 * s)
 (hr1 : (n1 + n2) * bytes ≤ 1073741824) (hr2 : n1 + n2 ≤ 1073741824) (hall : allOne new = true) :
 ∃ v' h', appS e bytes s v x h = some (v', h') ∧ St (l.set i (vc gr v' e s (cs ++ new))) h' ∧ h.n ≤ h'.n ∧ (∀ m, m ≤ h.low → (∀ b n c g, v = .slice b 0 n c g → m ≤ b) → m ≤ h'.low) ∧ (∀ b n c g, v' = .slice b 0 n c g → v = .slice b 0 n1 c g ∨ h.n ≤ b):=by
 unfold appS
 rw [hnew]
 show ∃ v' h', (bif allOne new then (match v with
  | .nilSlice => appNil h e bytes n2 new
  | .slice b o len cap g => appSl h e bytes s b o len cap g n2 new
  | _ => none) else none) = some (v', h') ∧ _
 rw [hall]
 obtain ⟨f, f1, f2⟩:=H.sat.get hi
 have hs0 : (Nat.beq s 0) = false := by cases s with
  | zero => cases hs
  | succ s => rfl
 cases f2 with
 | nil hc =>
  subst hc
  have e1 : n1 = 0:=by rcases Nat.eq_zero_or_pos n1 with h | h; exact h; have:=Nat.mul_pos h hs; rw [← h1] at this; cases this
  subst e1
  rw [Nat.zero_add] at hr1 hr2
  show ∃ v' h', (bif Nat.beq n2 0 then some (V.nilSlice, h) else bif roomB (n2 * bytes) && roomB n2 then some (.slice h.n 0 n2 0 true, h.newRow e new true) else none) = some (v', h') ∧ _
  cases e2 : Nat.beq n2 0 with
  | true =>
   have e3 : n2 = 0:=Nat.eq_of_beq_eq_true e2
   subst e3
   have e4 : new = []:=List.eq_nil_of_length_eq_zero (by simpa using h2)
   subst e4
   refine ⟨_, _, rfl, H.imp hi fun f' hf' => hf', Nat.le_refl _, fun m hm _ => hm, fun b n c g e => nomatch e⟩
  | false =>
   rw [roomB_le hr1, roomB_le hr2]
   refine ⟨_, _, rfl, ?_, Nat.le_succ _, fun m hm _ => hm, fun b n c g e => .inr (by cases e; exact Nat.le_refl _)⟩
   have H2:=(H.imp (A':=fun _ => True) hi fun _ _ => trivial)
   have H3:=H2.new (A:=vc gr (.slice h.n 0 n2 0 true) e s ([] ++ new)) (o:=.cells (Tr.nil.setL 0 new) new.length true e) (.grown _ _ new.length _ (up_eq _ _ _) (by simpa using h2) (by omega) (by simpa using setL_row new))
   exact ⟨H3.wf, H3.sat.move hi⟩
 | grown b n m t a1 a2 a3 a4 =>
  have hg:=f1 _ _ a1; unfold hf at hg
  have en : n = n1:=Nat.eq_of_mul_eq_mul_right hs (by rw [← a2, h1])
  subst en
  show ∃ v' h', appSl h e bytes s b 0 n 0 true n2 new = some (v', h') ∧ _
  unfold appSl
  rw [hg]
  simp only [roomB_le hr1, roomB_le hr2, hs0, Nat.beq_refl, Bool.and_self, Bool.not_false, Bool.not_true, Bool.or_true, Bool.true_or, Bool.true_and, Bool.and_true, Bool.false_or, Nat.ble_eq_true_of_le a3, cond_true]
  cases e5 : Nat.ble ((n + n2) * s) m with
  | true =>
   have hm : (n + n2) * s ≤ m:=Nat.le_of_ble_eq_true e5
   have hle : (n + n2) * s = n * s + n2 * s:=Nat.add_mul _ _ _
   simp only [cond_true]
   refine ⟨.slice b 0 (n + n2) 0 true, (bif Nat.beq n2 0 then h else h.put b (.cells (t.setL (n * s) new) m true e)), rfl, ?_, ?_, ?_, fun b' n' c g e => ?_⟩
   ·have hcell : ∀ i, i < (cs ++ new).length → (t.setL (n * s) new).get i = (cs ++ new)[i]? := fun y hy => by
     rw [Tr.get_setL]
     by_cases ey : n * s ≤ y ∧ y < n * s + new.length
     ·rw [if_pos ey, List.getElem?_append_right (by omega), a2]
     ·rw [List.length_append] at hy
      rw [if_neg ey, List.getElem?_append_left (by omega)]; exact a4 y (by omega)
    cases e2 : Nat.beq n2 0 with
    | true =>
     have e3 : n2 = 0:=Nat.eq_of_beq_eq_true e2
     subst e3
     have e4 : new = []:=List.eq_nil_of_length_eq_zero (by simpa using h2)
     subst e4
     refine H.imp hi fun f' hf' => ?_
     simpa using hf'
    | false =>
     refine H.put hi fun f' hf' => ⟨?_, .grown b (n + n2) m _ (up_eq _ _ _) (by rw [List.length_append]; omega) (by omega) hcell⟩
     cases hf' with
     | grown b n m t a1 a2 a3 a4 => rw [a1]; exact fun h => nomatch h
   ·cases Nat.beq n2 0 <;> exact Nat.le_refl _
   ·intro x hx hb
    have hb':=hb b n 0 true rfl
    cases Nat.beq n2 0
    ·exact Nat.le_min.2 ⟨hb', hx⟩
    ·exact hx
   ·cases e; exact .inl rfl
  | false =>
   simp only [cond_false]
   refine ⟨_, _, rfl, ?_, Nat.le_succ _, ?_, fun b' n' c g e => .inr (by cases e; exact Nat.le_refl _)⟩
   ·have hle : (n + n2) * s = n * s + n2 * s := Nat.add_mul _ _ _
    have hown : ∀ f, vc gr (.slice b 0 n 0 true) e s cs f → f b ≠ none := fun f' hf' => by
     cases hf' with
     | grown b n m t a1 a2 a3 a4 => rw [a1]; exact fun h => nomatch h
    have H2:=H.put (A':=fun _ => True) (b:=b) (o:=.dead) hi fun f' hf' => ⟨hown f' hf', trivial⟩
    have H3 := H2.new (A := vc gr (.slice h.n 0 (n + n2) 0 true) e s (cs ++ new)) (o := .cells (t.setL (n * s) new) ((n + n2) * s) true e) (.grown _ _ _ _ (up_eq _ _ _) (by rw [List.length_append]; omega) (Nat.le_refl _) fun y hy => by
     rw [Tr.get_setL]
     by_cases ey : n * s ≤ y ∧ y < n * s + new.length
     ·rw [if_pos ey, List.getElem?_append_right (by omega), a2]
     ·rw [List.length_append] at hy
      rw [if_neg ey, List.getElem?_append_left (by omega)]; exact a4 y (by omega))
    exact ⟨H3.wf, H3.sat.move hi⟩
   ·intro x hx hb
    exact Nat.le_min.2 ⟨hb b n 0 true rfl, hx⟩
 | full b n c t a0 a1 a2 a5 a3 =>
  have hg:=f1 _ _ a1; unfold hf at hg
  have en : n = n1:=Nat.eq_of_mul_eq_mul_right hs (by rw [← a2, h1])
  subst en
  have hle : (n + n2) * s = n * s + n2 * s:=Nat.add_mul _ _ _
  show ∃ v' h', appSl h e bytes s b 0 n c false n2 new = some (v', h') ∧ _
  unfold appSl
  rw [hg]
  simp only [roomB_le hr1, roomB_le hr2, hs0, Nat.beq_refl, Bool.and_self, Bool.not_false, Bool.not_true, Bool.or_true, Bool.true_or, Bool.true_and, Bool.and_true, Bool.false_or, cond_true]
  rcases Nat.lt_or_ge c (n + n2) with e3 | e3
  ·have e5 : Nat.ble (n + n2) c = false:=by
    cases e6 : Nat.ble (n + n2) c with
    | false => rfl
    | true => have:=Nat.le_of_ble_eq_true e6; omega
   have e7 : Nat.blt c (n + n2) = true:=Nat.ble_eq_true_of_le (by omega)
   simp only [e5, e7, Bool.and_false, cond_false, cond_true]
   have hold : t.getL 0 (n * s) = some cs:=by
    rw [getL_cells_eq (h:=h) (b:=b) (by rw [hg]; rfl)]
    exact St.cells_of (f:=fun x => cs[x]?) (fun x hx => by rw [Nat.zero_add]; exact H.vc_cell (n:=n) (c:=c) (g:=false) hi (by omega)) (fun _ _ => rfl) (by omega)
   unfold appNew
   rw [hold]
   refine ⟨_, _, rfl, ?_, Nat.le_succ _, fun m hm _ => hm, fun b' n' c g e => .inr (by cases e; exact Nat.le_refl _)⟩
   have H2:=(H.imp (A':=fun _ => True) hi fun _ _ => trivial)
   have H3:=H2.new (A:=vc gr (.slice h.n 0 (n + n2) 0 true) e s (cs ++ new)) (o:=.cells (Tr.nil.setL 0 (cs ++ new)) (cs ++ new).length true e) (.grown _ _ (cs ++ new).length _ (up_eq _ _ _) (by rw [List.length_append]; omega) (by rw [List.length_append]; omega) (setL_row _))
   exact ⟨H3.wf, H3.sat.move hi⟩
  ·have hm : (n + n2) * s ≤ c * s := Nat.mul_le_mul_right s e3
   simp only [Nat.ble_eq_true_of_le e3, Nat.ble_eq_true_of_le hm, Bool.and_self, cond_true]
   refine ⟨.slice b 0 (n + n2) c false, (bif Nat.beq n2 0 then h else h.put b (.cells (t.setL (n * s) new) (c * s) false e)), rfl, ?_, ?_, ?_, fun b' n' c g e => ?_⟩
   ·have hcell : ∀ i, i < (cs ++ new).length → (t.setL (n * s) new).get i = (cs ++ new)[i]? := fun y hy => by
     rw [Tr.get_setL]
     by_cases ey : n * s ≤ y ∧ y < n * s + new.length
     ·rw [if_pos ey, List.getElem?_append_right (by omega), a2]
     ·rw [List.length_append] at hy
      rw [if_neg ey, List.getElem?_append_left (by omega)]; exact a3 y (by omega)
    cases e2 : Nat.beq n2 0 with
    | true =>
     have e3 : n2 = 0:=Nat.eq_of_beq_eq_true e2
     subst e3
     have e4 : new = []:=List.eq_nil_of_length_eq_zero (by simpa using h2)
     subst e4
     refine H.imp hi fun f' hf' => ?_
     simpa using hf'
    | false =>
     have hown : ∀ f, vc gr (.slice b 0 n c false) e s cs f → f b ≠ none := fun f' hf' => by
      cases hf' with
      | full b n c t a0 a1 a2 a5 a3 => rw [a1]; exact fun h => nomatch h
     exact H.put hi fun f' hf' => ⟨hown f' hf', .full b (n + n2) c _ a0 (up_eq _ _ _) (by rw [List.length_append]; omega) e3 hcell⟩
   ·cases Nat.beq n2 0 <;> exact Nat.le_refl _
   ·intro x hx hb
    have hb':=hb b n c false rfl
    cases Nat.beq n2 0
    ·exact Nat.le_min.2 ⟨hb', hx⟩
    ·exact hx
   ·cases e; exact .inl rfl
def Own (h0 : Hp) (ro : Bool) (v : V) : Prop:=ro = true → ∀ b n c g, v = .slice b 0 n c g → h0.n ≤ b
theorem Own.off (h0 : Hp) (v : V) : Own h0 false v:=fun e => nomatch e
theorem St.vc_one (H : St l h) (hi : l[i]? = some (vc gr v e s cs)) : oneCell v = true:=by
 rcases H.vc_shape hi with ⟨rfl, _⟩ | ⟨b, n, c, g, rfl, _⟩ <;> rfl
theorem Tri.app (i n1 n2 : Nat) {bytes : Nat} {new : List V} (H : St l h) (hi : l[i]? = some (vc gr v e s cs)) (hnew : newCells h s x = some (n2, new)) (hs : 0 < s) (h1 : cs.length = n1 * s) (h2 : new.length = n2 * s)
 (hr1 : (n1 + n2) * bytes ≤ 1073741824) (hr2 : n1 + n2 ≤ 1073741824) (hall : allOne new = true) (L : Lo ro h0 h) (hb : Own h0 ro v)
 (hK : ∀ v' h', St (l.set i (vc gr v' e s (cs ++ new))) h' → Lo ro h0 h' → Own h0 ro v' → oneCell v' = true → Tri h0 ro F Q (K v' h')) : Tri h0 ro F Q (bindS (appS e bytes s v x h) K):=by
 obtain ⟨v', h', e1, H', hn, hl, hv⟩:=H.append hi hnew hs h1 h2 hr1 hr2 hall
 rw [e1]
 obtain ⟨hlt, _⟩:=List.getElem?_eq_some_iff.1 hi
 refine hK v' h' H' ⟨Nat.le_trans L.n hn, fun hr m a1 a2 => hl m (L.low hr m a1 a2) fun b n c g ev => ?_⟩ (fun hr b n c g ev => ?_) (H'.vc_one (i:=i) (List.getElem?_set_self hlt))
 ·rcases H.vc_shape hi with ⟨rfl, _⟩ | ⟨b', n', c', g', rfl, _⟩
  ·cases ev
  ·cases ev; exact Nat.le_trans a1 (hb hr _ _ _ _ rfl)
 ·rcases hv b n c g ev with h3 | h3
  ·exact hb hr _ _ _ _ h3
  ·exact Nat.le_trans L.n h3
theorem St.newCells {n c : Nat} {g : Bool} (H : St l h) (hi : l[i]? = some (vc gr (.slice b 0 n c g) e s cs)) (hn : cs.length = n * s) : newCells h s (.slice b 0 n c g) = some (n, cs):=by
 have hc:=H.vc_cells (o:=0) (m:=n * s) hi (by omega)
 have : (cs.drop 0).take (n * s) = cs:=by rw [List.drop_zero, List.take_of_length_le (by omega)]
 rw [this] at hc
 show (match cellsT (h.t.get b) with
  | some c => (match c.getL 0 (n * s) with
   | some l => some (n, l)
   | none => none)
  | none => none) = _
 cases ht : cellsT (h.t.get b) with
 | none =>
  obtain ⟨f, f1, f2⟩:=H.sat.get hi
  cases f2 with
  | grown b n m t a1 a2 a3 a4 => have:=f1 _ _ a1; unfold hf at this; rw [this] at ht; cases ht
  | full b n c t a0 a1 a2 a5 a3 => have:=f1 _ _ a1; unfold hf at this; rw [this] at ht; cases ht
 | some t => simp only; rw [getL_cells_eq ht, hc]
theorem Tri.wrote {K : V → Hp → Hp → VH} {x : VH} (hx : Tri ⟨h.t, h.n, h.n⟩ ro' F' Q' x) (L : Lo ro h0 h) (hr : ro = true → ro' = true)
 (hK : ∀ v h2 h' B, Q' v B → St (B ++ F') h2 → h.n ≤ h2.n → (ro' = true → h.n ≤ h2.low) → h' = ⟨h2.t, h2.n, Nat.min h.low h2.low⟩ → St (B ++ F') h' → Lo ro h0 h' → Tri h0 ro F Q (K v h2 h')) : Tri h0 ro F Q (bindS x fun v h2 => wroteS h.low h2 fun h3 => K v h2 h3):=by
 obtain ⟨v, h', B, rfl, hq, hs, hl⟩:=hx
 refine hK v h' _ B hq hs hl.n (fun e => hl.low e h.n (Nat.le_refl _) (Nat.le_refl _)) rfl (hs.draw _) ⟨Nat.le_trans L.n hl.n, fun e m a1 a2 => Nat.le_min.2 ⟨L.low e m a1 a2, hl.low (hr e) m (Nat.le_trans a1 L.n) (Nat.le_trans a1 L.n)⟩⟩
theorem Tri.wroteC {K : V → Hp → Hp → VH} {c : V → Hp → Bool} {y : V → Hp → VH} {x : VH} (hx : Tri ⟨h.t, h.n, h.n⟩ true F' Q' x) (L : Lo ro h0 h) (hc : ∀ v h2, pureB h h2 = true → c v h2 = true)
 (hK : ∀ v h2 h' B, Q' v B → St (B ++ F') h2 → h.n ≤ h2.n → (true = true → h.n ≤ h2.low) → h' = ⟨h2.t, h2.n, Nat.min h.low h2.low⟩ → St (B ++ F') h' → Lo ro h0 h' → Tri h0 ro F Q (K v h2 h')) : Tri h0 ro F Q (bindS x fun v h2 => cD (c v h2) (wroteS h.low h2 fun h3 => K v h2 h3) (y v h2)):=by
 obtain ⟨v, h', B, rfl, hq, hs, hl⟩:=hx
 have hlow : h.n ≤ h'.low:=hl.low rfl h.n (Nat.le_refl _) (Nat.le_refl _)
 rw [bindS_at, hc v h' (Nat.ble_eq_true_of_le hlow)]
 exact hK v h' _ B hq hs hl.n (fun _ => hlow) rfl (hs.draw _) ⟨Nat.le_trans L.n hl.n, fun e m a1 a2 => Nat.le_min.2 ⟨L.low e m a1 a2, hl.low rfl m (Nat.le_trans a1 L.n) (Nat.le_trans a1 L.n)⟩⟩
theorem Tri.ext {off : Nat} {X : List V} {w : V} (hw : nth off X = some w) (hk : Tri h0 ro F Q (k w)) : Tri h0 ro F Q (extS off (.tuple X) k):=by
 show Tri h0 ro F Q (optS (nth off X) k)
 rw [hw]; exact hk
theorem Tri.bldS {x : VH} {w : V} (hx : x = some (w, h)) (hk : Tri h0 ro F Q (K w h)) : Tri h0 ro F Q (bindS x K):=by subst hx; exact hk
theorem rep_one (z : V) : ∀ (n : Nat) (acc : List V), rep n [z] acc = List.replicate n z ++ acc
 | 0, _ => rfl
 | n + 1, acc => by
  show rep n [z] (z :: acc) = _
  rw [rep_one z n, List.replicate_succ']; simp
theorem Tri.mk1 {d : Nat} {z : V} (H : St l h) (L : Lo ro h0 h) (n : Nat) (hz : vcells z = [z]) (h1 : n ≤ 1073741824) (h2 : n * d ≤ 1073741824)
 (hK : ∀ b h', h0.n ≤ b → St (vc false (.slice b 0 n n false) e 1 (List.replicate n z) :: l) h' → Lo ro h0 h' → Tri h0 ro F Q (K (.slice b 0 n n false) h')) :
 Tri h0 ro F Q (bindS (mkS e d 1 z (.int .i64 (n : Nat)) (.int .i64 (n : Nat)) h) K):=by
 have e1 : mkS e d 1 z (.int .i64 (n : Nat)) (.int .i64 (n : Nat)) h = some (.slice h.n 0 n n false, h.newRow e (List.replicate n z) false):=by
  show mkSl h e d 1 z n n = _
  unfold mkSl
  rw [Nat.ble_eq_true_of_le (Nat.le_refl n), roomB_le h1, roomB_le h2, hz]
  show some (V.slice h.n 0 n n false, h.newRow e (mulz [z] n) false) = _
  unfold mulz
  rw [rep_one, List.append_nil]
 rw [e1]
 have hc : (List.replicate n z).length = n * 1:=by rw [List.length_replicate, Nat.mul_one]
 exact hK _ _ L.n (H.new (.full _ _ _ _ rfl (by rw [up_eq, hc]) hc (Nat.le_refl _) (setL_row _))) (L.new _ _ _)
end
end Go.Mid
end
