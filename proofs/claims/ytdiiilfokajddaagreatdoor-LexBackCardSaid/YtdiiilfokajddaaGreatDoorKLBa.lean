/- A part of the proof. -/
import Derived.Test.YtdiiilfokajddaaGreatDoorKMidQQ
import Derived.Test.YtdiiilfokajddaaGreatDoorKMidNN
import Derived.Test.YtdiiilfokajddaaGreatDoorKMidZ
import Derived.Test.YtdiiilfokajddaaGreatDoorProg
import Derived.KernelRfl
set_option linter.all false
set_option warn.classDefReducibility false
noncomputable section
section
open Go Go.Mid Go.Proofs
set_option maxRecDepth 100000
namespace Go.LB
section
section
abbrev II:=Nat → List V → Hp → VH
def itr0 (f : FuncId) : Option It:=none
def B12 (ih : II) (a0 a1 : V) (h : Hp) : VH :=
 bindS (lenStr a0 fun v => some (v, h)) fun g h =>
 intS .gtr g (.int .i64 3000) fun i =>
 ifS i (
 bindS (ih 32 [] h) fun j h =>
 some (j, h)) (
 bindS (ih 20 [a0] h) fun b h =>
 extS 0 b fun c =>
 extS 1 b fun k =>
 newS 33 [(.int .i64 0), (.int .i64 0)] h fun d h =>
 storeN 2 d k h fun h =>
 loadN 2 d h fun l =>
 bindS (bldStruct h [] (.agg [(.int .i64 0), (.int .i64 0)]) (some [(0, 1), (1, 1)])) fun m h =>
 bindS (vh h (eqOp .neq (cmpV [(0, .int .i64), (1, .int .i64)] l m))) fun n h =>
 ifS n (
 bindS (lenSl c fun v => some (v, h)) fun o h =>
 intS .eql o (.int .i64 0) fun e =>
 guardS e true (bindS (ih 32 [] h) fun p h =>
 some (p, h)) h fun q h =>
 optS (pickV e q (.bool false)) fun r =>
 some (r, h)) (
 ih 1 [a1, c, (.str ⟨0, 0⟩), (.int .i64 0)] h))
def B1 (ih : II) (a1 a5 a7 a8 : V) (h : Hp) : VH :=
 bindS (lenSl a5 fun v => some (v, h)) fun g h =>
 intS .lss a8 g fun i =>
 ifS i (
 bindS (lenSl a1 fun v => some (v, h)) fun j h =>
 intS .gtr j (.int .i64 0) fun k =>
 ifS k (
 bindS (lenSl a1 fun v => some (v, h)) fun l h =>
 intS .rem a8 l fun m =>
 idxS 1 a1 m fun n =>
 load1 n h fun o =>
 intS .and o (.int .i64 7) fun p =>
 ih 5 [a1, a5, a7, a8, p] h) (
 ih 5 [a1, a5, a7, a8, (.int .i64 0)] h)) (
 bindS (lenStr a7 fun v => some (v, h)) fun q h =>
 intS .gtr q (.int .i64 65535) fun r =>
 ifS r (
 bindS (ih 32 [] h) fun s h =>
 some (s, h)) (
 bindS (ih 20 [a7] h) fun b h =>
 extS 0 b fun c =>
 extS 1 b fun t =>
 newS 33 [(.int .i64 0), (.int .i64 0)] h fun d h =>
 storeN 2 d t h fun h =>
 loadN 2 d h fun u =>
 bindS (bldStruct h [] (.agg [(.int .i64 0), (.int .i64 0)]) (some [(0, 1), (1, 1)])) fun w h =>
 bindS (vh h (eqOp .neq (cmpV [(0, .int .i64), (1, .int .i64)] u w))) fun e h =>
 guardS e false (bindS (lenSl c fun v => some (v, h)) fun x h =>
 bindS (lenSl a5 fun v => some (v, h)) fun y h =>
 intS .neq x y fun z =>
 some (z, h)) h fun A h =>
 optS (pickV e (.bool true) A) fun C =>
 ifS C (
 some ((.bool false), h)) (
 bindS (ih 42 [a5] h) fun D h =>
 bindS (ih 42 [c] h) fun E h =>
 ih 3 [D, E, (.int .i64 0)] h)))
def B3 (ih : II) (a13 a14 a15 : V) (h : Hp) : VH :=
 bindS (lenSl a13 fun v => some (v, h)) fun b h =>
 intS .lss a15 b fun c =>
 ifS c (
 idxS 4 a13 a15 fun d =>
 loadN 4 d h fun e =>
 idxS 4 a14 a15 fun g =>
 loadN 4 g h fun i =>
 bindS (vh h (eqOp .neq (cmpV [(0, .int .u8), (1, .string), (2, .int .i64), (3, .int .i64)] e i))) fun j h =>
 ifS j (
 some ((.bool false), h)) (
 intS .add a15 (.int .i64 1) fun k =>
 ih 3 [a13, a14, k] h)) (
 bindS (ih 32 [] h) fun l h =>
 some (l, h))
def B5 (ih : II) (a1 a5 a7 a8 a9 : V) (h : Hp) : VH :=
 bindS (bldSl h [(0, (.str ⟨1, 32⟩)), (1, (.str ⟨1, 10⟩)), (2, (.str ⟨3, 598025⟩)), (3, (.str ⟨5, 44965899552⟩)), (4, (.str ⟨9, 597023379353810840864⟩)), (5, (.str ⟨2, 2573⟩)), (6, (.str ⟨12, 28856291290715960817430113568⟩)), (7, (.str ⟨2, 3083⟩))] 9 8 1 (.str ⟨0, 0⟩)) fun b h =>
 idxS 1 b a9 fun c =>
 load1 c h fun d =>
 idxS 4 a5 a8 fun e =>
 loadN 4 e h fun g =>
 bindS (ih 40 [g] h) fun i h =>
 strS .add a7 i fun j =>
 strS .add j d fun k =>
 intS .add a8 (.int .i64 1) fun l =>
 ih 1 [a1, a5, k, l] h
def B40 (ih : II) (a0 : V) (h : Hp) : VH :=
 newS 25 (vcells a0) h fun b h =>
 addrS 0 b fun d =>
 load1 d h fun c =>
 intS .eql c (.int .u8 4) fun e =>
 ifS e (
 addrS 2 b fun g =>
 load1 g h fun i =>
 intS .lss i (.int .i64 0) fun j =>
 ifS j (
 addrS 2 b fun k =>
 load1 k h fun l =>
 bindS (ih 72 [l] h) fun m h =>
 some (m, h)) (
 addrS 2 b fun n =>
 load1 n h fun o =>
 bindS (ih 74 [o] h) fun p h =>
 some (p, h))) (
 intS .eql c (.int .u8 5) fun q =>
 ifS q (
 addrS 1 b fun r =>
 load1 r h fun s =>
 bindS (ih 76 [s] h) fun t h =>
 some (t, h)) (
 addrS 1 b fun u =>
 load1 u h fun w =>
 some (w, h)))
def B42 (ih : II) (a0 : V) (h : Hp) : VH :=
 ih 7 [a0, .nilSlice, (.int .i64 0)] h
def B7 (ih : II) (a0 a3 a4 : V) (h : Hp) : VH :=
 bindS (lenSl a0 fun v => some (v, h)) fun c h =>
 intS .lss a4 c fun d =>
 ifS d (
 idxS 4 a0 a4 fun e =>
 loadN 4 e h fun g =>
 newS 25 [(.int .u8 0), (.str ⟨0, 0⟩), (.int .i64 0), (.int .i64 0)] h fun b h =>
 storeN 4 b g h fun h =>
 addrS 3 b fun i =>
 storeC i (.int .i64 0) h fun h =>
 loadN 4 b h fun j =>
 bindS (bldSl h [(0, j)] 25 1 4 (.agg [(.int .u8 0), (.str ⟨0, 0⟩), (.int .i64 0), (.int .i64 0)])) fun k h =>
 bindS (appS 25 40 4 a3 k h) fun l h =>
 intS .add a4 (.int .i64 1) fun m =>
 ih 7 [a0, l, m] h) (
 some (a3, h))
def B20 (ih : II) (a0 : V) (h : Hp) : VH :=
 newS 33 [(.int .i64 0), (.int .i64 0)] h fun b h =>
 bindS (lenStr a0 fun v => some (v, h)) fun d h =>
 intS .gtr d (.int .i64 65535) fun e =>
 ifS e (
 bindS (bldStruct h [(0, (.int .i64 3))] (.agg [(.int .i64 0), (.int .i64 0)]) (some [(0, 1), (1, 1)])) fun g h =>
 storeN 2 b g h fun h =>
 loadN 2 b h fun i =>
 some (.tuple [.nilSlice, i], h)) (
 bindS (ih 28 [] h) fun j h =>
 bindS (bldStruct h [(0, a0), (2, (.int .i64 1)), (3, j)] (.agg [(.str ⟨0, 0⟩), (.int .i64 0), (.int .i64 0), .nilSlice]) (some [(0, 1), (1, 1), (2, 1), (3, 1)])) fun k h =>
 newS 47 (vcells k) h fun c h =>
 nilS c fun l =>
 addrS 3 l fun m =>
 load1 m h fun n =>
 bindS (ih 44 [n, (.func 23 [] [])] h) fun o h =>
 ih 9 [b, c, .nilSlice] h)
def B9 (ih : II) (a3 a4 a5 : V) (h : Hp) : VH :=
 bindS (ih 50 [a4, (.int .i64 0), (.func 26 [] [])] h) fun i h =>
 bindS (ih 48 [a4, i] h) fun J h =>
 nilS a4 fun j =>
 addrS 1 j fun k =>
 load1 k h fun l =>
 nilS a4 fun m =>
 addrS 0 m fun n =>
 load1 n h fun o =>
 bindS (lenStr o fun v => some (v, h)) fun p K =>
 intS .eql l p fun q =>
 ifS q (
 nilS a4 fun r =>
 addrS 2 r fun s =>
 load1 s h fun t =>
 bindS (bldStruct h [(0, (.int .u8 6)), (3, t)] (.agg [(.int .u8 0), (.str ⟨0, 0⟩), (.int .i64 0), (.int .i64 0)]) (some [(0, 1), (1, 1), (2, 1), (3, 1)])) fun u h =>
 bindS (bldSl h [(0, u)] 25 1 4 (.agg [(.int .u8 0), (.str ⟨0, 0⟩), (.int .i64 0), (.int .i64 0)])) fun w h =>
 bindS (appS 25 40 4 a5 w h) fun x h =>
 bindS (bldStruct h [] (.agg [(.int .i64 0), (.int .i64 0)]) (some [(0, 1), (1, 1)])) fun y h =>
 storeN 2 a3 y h fun h =>
 loadN 2 a3 h fun z =>
 some (.tuple [x, z], h)) (
 bindS (ih 54 [a4] h) fun e h =>
 extS 0 e fun A =>
 extS 1 e fun c =>
 intS .eql c (.int .i64 0) fun g =>
 guardS g true (some (A, h)) h fun C h =>
 optS (pickV g C (.bool false)) fun D =>
 ifS D (
 ih 9 [a3, a4, a5] h) (
 bindS (bldStruct h [] (.agg [(.int .u8 0), (.str ⟨0, 0⟩), (.int .i64 0), (.int .i64 0)]) (some [(0, 1), (1, 1), (2, 1), (3, 1)])) fun E h =>
 newS 25 [(.int .u8 0), (.str ⟨0, 0⟩), (.int .i64 0), (.int .i64 0)] h fun b h =>
 storeN 4 b E h fun h =>
 intS .eql c (.int .i64 0) fun F =>
 ifS F (
 bindS (ih 56 [a4] h) fun d h =>
 extS 0 d fun G =>
 extS 1 d fun H =>
 extS 2 d fun I =>
 storeN 4 b G h fun h =>
 ih 11 [a3, a4, a5, b, H, I] h) (
 ih 11 [a3, a4, a5, b, (.int .i64 0), c] h)))
def B11 (ih : II) (a3 a4 a5 a8 a9 a10 : V) (h : Hp) : VH :=
 intS .neq a10 (.int .i64 0) fun b =>
 ifS b (
 nilS a4 fun c =>
 addrS 2 c fun d =>
 load1 d h fun e =>
 bindS (bldStruct h [(0, a10), (1, e)] (.agg [(.int .i64 0), (.int .i64 0)]) (some [(0, 1), (1, 1)])) fun g q =>
 storeN 2 a3 g h fun h =>
 loadN 2 a3 h fun i =>
 some (.tuple [.nilSlice, i], h)) (
 nilS a4 fun j =>
 addrS 2 j fun k =>
 load1 k h fun l =>
 addrS 3 a8 fun m =>
 storeC m l h fun h =>
 bindS (ih 48 [a4, a9] h) fun r h =>
 loadN 4 a8 h fun n =>
 bindS (bldSl h [(0, n)] 25 1 4 (.agg [(.int .u8 0), (.str ⟨0, 0⟩), (.int .i64 0), (.int .i64 0)])) fun o h =>
 bindS (appS 25 40 4 a5 o h) fun p h =>
 ih 9 [a3, a4, p] h)
def B76 (ih : II) (a0 : V) (h : Hp) : VH :=
 newS 91 [.nilPtr, .nilSlice] h fun b h =>
 bindS (ih 142 [b, (.int .u8 34)] h) fun d h =>
 bindS (lenStr a0 fun v => some (v, h)) fun c h =>
 ih 13 [a0, b, c, (.int .i64 0)] h
def B13 (ih : II) (a0 a3 a9 a10 : V) (h : Hp) : VH :=
 intS .lss a10 a9 fun g =>
 ifS g (
 idxStr a0 a10 fun b =>
 intS .eql b (.int .u8 10) fun i =>
 ifS i (
 bindS (ih 144 [a3, (.str ⟨2, 28252⟩)] h) fun x h =>
 ih 15 [a0, a3, a9, a10] h) (
 intS .eql b (.int .u8 34) fun c =>
 guardS c false (intS .eql b (.int .u8 92) fun j =>
 some (j, h)) h fun k h =>
 optS (pickV c (.bool true) k) fun l =>
 ifS l (
 bindS (ih 142 [a3, (.int .u8 92)] h) fun y h =>
 bindS (ih 142 [a3, b] h) fun z h =>
 ih 15 [a0, a3, a9, a10] h) (
 intS .lss b (.int .u8 32) fun d =>
 guardS d false (intS .gtr b (.int .u8 126) fun m =>
 some (m, h)) h fun n h =>
 optS (pickV d (.bool true) n) fun o =>
 ifS o (
 convI .i64 b fun p =>
 bindS (ih 74 [p] h) fun q h =>
 strS .add (.str ⟨2, 12336⟩) q fun e =>
 bindS (lenStr e fun v => some (v, h)) fun r h =>
 intS .sub r (.int .i64 3) fun s =>
 slStrK (some s) none e fun t =>
 strS .add (.str ⟨1, 92⟩) t fun u =>
 bindS (ih 144 [a3, u] h) fun A h =>
 ih 15 [a0, a3, a9, a10] h) (
 bindS (ih 142 [a3, b] h) fun C h =>
 ih 15 [a0, a3, a9, a10] h)))) (
 bindS (ih 142 [a3, (.int .u8 34)] h) fun D h =>
 bindS (ih 146 [a3] h) fun w h =>
 some (w, h))
def B15 (ih : II) (a0 a3 a9 a10 : V) (h : Hp) : VH :=
 intS .add a10 (.int .i64 1) fun b =>
 ih 13 [a0, a3, a9, b] h
def B74 (ih : II) (a0 : V) (h : Hp) : VH :=
 bindS (ih 140 [a0, (.int .i64 10)] h) fun b h =>
 some (b, h)
def B72 (ih : II) (a0 : V) (h : Hp) : VH :=
 ih 17 [a0, (.str ⟨0, 0⟩), (.int .i64 0)] h
def B17 (ih : II) (a0 a3 a4 : V) (h : Hp) : VH :=
 intS .lss a4 (.int .i64 16) fun c =>
 ifS c (
 intS .and a0 (.int .i64 15) fun b =>
 intS .add b (.int .i64 1) fun d =>
 slStrK (some b) (some d) (.str ⟨16, 136107713667768957684761770045455085872⟩) fun e =>
 strS .add e a3 fun g =>
 shS .shr a0 (.int .u64 4) fun i =>
 intS .add a4 (.int .i64 1) fun j =>
 ih 17 [i, g, j] h) (
 strS .add (.str ⟨2, 30768⟩) a3 fun k =>
 some (k, h))
def B48 (ih : II) (a0 a1 : V) (h : Hp) : VH :=
 nilS a0 fun b =>
 addrS 1 b fun c =>
 load1 c h fun d =>
 intS .add d a1 fun e =>
 ih 19 [a0, e] h
def B19 (ih : II) (a0 a4 : V) (h : Hp) : VH :=
 nilS a0 fun e =>
 addrS 1 e fun g =>
 load1 g h fun i =>
 intS .lss i a4 fun j =>
 ifS j (
 nilS a0 fun k =>
 addrS 0 k fun l =>
 load1 l h fun m =>
 nilS a0 fun n =>
 addrS 1 n fun o =>
 load1 o h fun p =>
 idxStr m p fun q =>
 bindS (ih 80 [q] h) fun r h =>
 notS r fun s =>
 ifS s (
 ih 21 [a0, a4] h) (
 nilS a0 fun t =>
 addrS 2 t fun u =>
 load1 u h fun w =>
 intS .add w (.int .i64 1) fun x =>
 nilS a0 fun y =>
 addrS 2 y fun z =>
 storeC z x h fun h =>
 nilS a0 fun A =>
 addrS 1 A fun C =>
 load1 C h fun D =>
 intS .add D (.int .i64 1) fun E =>
 intS .lss E a4 fun d =>
 guardS d true (some (a0, h)) h fun F _ =>
 guardS d true (nilS F fun G =>
 some (G, h)) h fun H _ =>
 guardS d true (addrS 0 H fun I =>
 some (I, h)) h fun J _ =>
 guardS d true (load1 J h fun K =>
 some (K, h)) h fun L _ =>
 guardS d true (some (a0, h)) h fun N _ =>
 guardS d true (nilS N fun O =>
 some (O, h)) h fun P _ =>
 guardS d true (addrS 1 P fun R =>
 some (R, h)) h fun S _ =>
 guardS d true (load1 S h fun T =>
 some (T, h)) h fun U _ =>
 guardS d true (intS .add U (.int .i64 1) fun W =>
 some (W, h)) h fun X _ =>
 guardS d true (idxStr L X fun Y =>
 some (Y, h)) h fun Z _ =>
 guardB d true (
 bindS (ih 80 [Z] ⟨h.t, h.n, h.n⟩) fun b0 b1 =>
 wroteS h.low b1 fun h =>
 optS (pickV d b0 (.bool false)) fun b =>
 guardS b true (some (a0, h)) h fun b2 _ =>
 guardS b true (nilS b2 fun b3 =>
 some (b3, h)) h fun b4 _ =>
 guardS b true (addrS 0 b4 fun b5 =>
 some (b5, h)) h fun b6 _ =>
 guardS b true (load1 b6 h fun b7 =>
 some (b7, h)) h fun b8 _ =>
 guardS b true (some (a0, h)) h fun b9 _ =>
 guardS b true (nilS b9 fun c0 =>
 some (c0, h)) h fun c1 _ =>
 guardS b true (addrS 1 c1 fun c2 =>
 some (c2, h)) h fun c3 _ =>
 guardS b true (load1 c3 h fun c4 =>
 some (c4, h)) h fun c5 _ =>
 guardS b true (intS .add c5 (.int .i64 1) fun c6 =>
 some (c6, h)) h fun c7 _ =>
 guardS b true (idxStr b8 c7 fun c8 =>
 some (c8, h)) h fun c9 _ =>
 guardS b true (some (a0, h)) h fun d0 _ =>
 guardS b true (nilS d0 fun d1 =>
 some (d1, h)) h fun d2 _ =>
 guardS b true (addrS 0 d2 fun d3 =>
 some (d3, h)) h fun d4 _ =>
 guardS b true (load1 d4 h fun d5 =>
 some (d5, h)) h fun d6 _ =>
 guardS b true (some (a0, h)) h fun d7 _ =>
 guardS b true (nilS d7 fun d8 =>
 some (d8, h)) h fun d9 _ =>
 guardS b true (addrS 1 d9 fun g0 =>
 some (g0, h)) h fun g1 _ =>
 guardS b true (load1 g1 h fun g2 =>
 some (g2, h)) h fun g3 _ =>
 guardS b true (idxStr d6 g3 fun g4 =>
 some (g4, h)) h fun g5 _ =>
 guardS b true (intS .neq c9 g5 fun g6 =>
 some (g6, h)) h fun g7 h =>
 optS (pickV b g7 (.bool false)) fun g8 =>
 ifS g8 (
 nilS a0 fun g9 =>
 addrS 1 g9 fun i0 =>
 load1 i0 h fun i1 =>
 intS .add i1 (.int .i64 1) fun i2 =>
 nilS a0 fun i3 =>
 addrS 1 i3 fun i4 =>
 storeC i4 i2 h fun h =>
 ih 21 [a0, a4] h) (
 ih 21 [a0, a4] h)) (
 optS (pickV d undefV (.bool false)) fun c =>
 guardS c true (some (a0, h)) h fun i5 _ =>
 guardS c true (nilS i5 fun i6 =>
 some (i6, h)) h fun i7 _ =>
 guardS c true (addrS 0 i7 fun i8 =>
 some (i8, h)) h fun i9 _ =>
 guardS c true (load1 i9 h fun j0 =>
 some (j0, h)) h fun j1 _ =>
 guardS c true (some (a0, h)) h fun j2 _ =>
 guardS c true (nilS j2 fun j3 =>
 some (j3, h)) h fun j4 _ =>
 guardS c true (addrS 1 j4 fun j5 =>
 some (j5, h)) h fun j6 _ =>
 guardS c true (load1 j6 h fun j7 =>
 some (j7, h)) h fun j8 _ =>
 guardS c true (intS .add j8 (.int .i64 1) fun j9 =>
 some (j9, h)) h fun k0 _ =>
 guardS c true (idxStr j1 k0 fun k1 =>
 some (k1, h)) h fun k2 _ =>
 guardS c true (some (a0, h)) h fun k3 _ =>
 guardS c true (nilS k3 fun k4 =>
 some (k4, h)) h fun k5 _ =>
 guardS c true (addrS 0 k5 fun k6 =>
 some (k6, h)) h fun k7 _ =>
 guardS c true (load1 k7 h fun k8 =>
 some (k8, h)) h fun k9 _ =>
 guardS c true (some (a0, h)) h fun m0 _ =>
 guardS c true (nilS m0 fun m1 =>
 some (m1, h)) h fun m2 _ =>
 guardS c true (addrS 1 m2 fun m3 =>
 some (m3, h)) h fun m4 _ =>
 guardS c true (load1 m4 h fun m5 =>
 some (m5, h)) h fun m6 _ =>
 guardS c true (idxStr k9 m6 fun m7 =>
 some (m7, h)) h fun m8 _ =>
 guardS c true (intS .neq k2 m8 fun m9 =>
 some (m9, h)) h fun n0 h =>
 optS (pickV c n0 (.bool false)) fun n1 =>
 ifS n1 (
 nilS a0 fun n2 =>
 addrS 1 n2 fun n3 =>
 load1 n3 h fun n4 =>
 intS .add n4 (.int .i64 1) fun n5 =>
 nilS a0 fun n6 =>
 addrS 1 n6 fun n7 =>
 storeC n7 n5 h fun h =>
 ih 21 [a0, a4] h) (
 ih 21 [a0, a4] h)))) (
 some (.tuple [], h))
def B21 (ih : II) (a0 a4 : V) (h : Hp) : VH :=
 nilS a0 fun b =>
 addrS 1 b fun c =>
 load1 c h fun d =>
 intS .add d (.int .i64 1) fun e =>
 nilS a0 fun g =>
 addrS 1 g fun i =>
 storeC i e h fun h =>
 ih 19 [a0, a4] h
def B56 (ih : II) (a0 : V) (h : Hp) : VH :=
 newS 25 [(.int .u8 0), (.str ⟨0, 0⟩), (.int .i64 0), (.int .i64 0)] h fun b h =>
 nilS a0 fun u =>
 addrS 0 u fun w =>
 load1 w h fun x =>
 nilS a0 fun y =>
 addrS 1 y fun z =>
 load1 z h fun A =>
 idxStr x A fun c =>
 bindS (ih 50 [a0, (.int .i64 0), (.func 45 [] [])] h) fun C h =>
 intS .gtr C (.int .i64 0) fun e =>
 guardS e false (intS .eql c (.int .u8 46) fun D =>
 some (D, h)) h fun m h =>
 guardS m true (bindS (ih 50 [a0, (.int .i64 1), (.func 45 [] [])] h) fun E h =>
 intS .gtr E (.int .i64 0) fun F =>
 some (F, h)) h fun G h =>
 guardS e false (optS (pickV m G (.bool false)) fun H =>
 some (H, h)) h fun I h =>
 optS (pickV e (.bool true) I) fun J =>
 bindS (ih 86 [a0, (.int .i64 0)] h) fun g h =>
 extS 0 g fun K =>
 extS 1 g fun n =>
 extS 2 g fun i =>
 bindS (ih 92 [c] h) fun L h =>
 ifS L (
 bindS (ih 50 [a0, (.int .i64 0), (.func 47 [] [])] h) fun j h =>
 newS 25 [(.int .u8 0), (.str ⟨0, 0⟩), (.int .i64 0), (.int .i64 0)] h fun d h =>
 nilS a0 fun N =>
 addrS 0 N fun O =>
 load1 O h fun P =>
 nilS a0 fun R =>
 addrS 1 R fun S =>
 load1 S h fun T =>
 nilS a0 fun U =>
 addrS 1 U fun W =>
 load1 W h fun X =>
 intS .add X j fun Y =>
 slStrK (some T) (some Y) P fun Z =>
 bindS (bldStruct h [(0, (.int .u8 1)), (1, Z)] (.agg [(.int .u8 0), (.str ⟨0, 0⟩), (.int .i64 0), (.int .i64 0)]) (some [(0, 1), (1, 1), (2, 1), (3, 1)])) fun b0 j9 =>
 storeN 4 d b0 h fun h =>
 addrS 1 d fun b1 =>
 load1 b1 h fun b2 =>
 bindS (ih 24 [b2] h) fun b3 h =>
 ifS b3 (
 addrS 0 d fun b4 =>
 storeC b4 (.int .u8 2) h fun h =>
 ih 25 [b, j, d] h) (
 ih 25 [b, j, d] h)) (
 ifS J (
 bindS (ih 96 [a0] h) fun o h =>
 newS 25 [(.int .u8 0), (.str ⟨0, 0⟩), (.int .i64 0), (.int .i64 0)] h fun k h =>
 nilS a0 fun b5 =>
 addrS 0 b5 fun b6 =>
 load1 b6 h fun b7 =>
 nilS a0 fun b8 =>
 addrS 1 b8 fun b9 =>
 load1 b9 h fun c0 =>
 nilS a0 fun c1 =>
 addrS 1 c1 fun c2 =>
 load1 c2 h fun c3 =>
 intS .add c3 o fun c4 =>
 slStrK (some c0) (some c4) b7 fun c5 =>
 bindS (ih 98 [c5] ⟨h.t, h.n, h.n⟩) fun p l =>
 cD ((pureB h l || sameLd h l (fent k 25 [(.int .u8 0), (.str ⟨0, 0⟩), (.int .i64 0), (.int .i64 0)])) && true) (
 wroteS h.low l fun h =>
 extS 0 p fun c6 =>
 extS 1 p fun c7 =>
 ptrE k fun b75 o76 => storeB (storeO Tryz.prog h 25 b75 o76 c6) fun c77 =>
 loadN 4 k (h.put b75 c77) fun c8 =>
 storeN 4 b c8 (h.put b75 c77) fun h =>
 loadN 4 b h fun c9 =>
 some (.tuple [c9, o, c7], h)) none) (
 guardS i true (intS .eql n (.int .i64 0) fun d0 =>
 some (d0, h)) h fun d1 h =>
 optS (pickV i d1 (.bool false)) fun d2 =>
 ifS d2 (
 bindS (bldStruct h [] (.agg [(.int .u8 0), (.str ⟨0, 0⟩), (.int .i64 0), (.int .i64 0)]) (some [(0, 1), (1, 1), (2, 1), (3, 1)])) fun d3 h =>
 storeN 4 b d3 h fun h =>
 loadN 4 b h fun d4 =>
 some (.tuple [d4, (.int .i64 0), (.int .i64 30)], h)) (
 ifS i (
 bindS (bldStruct h [(0, (.int .u8 5)), (1, K)] (.agg [(.int .u8 0), (.str ⟨0, 0⟩), (.int .i64 0), (.int .i64 0)]) (some [(0, 1), (1, 1), (2, 1), (3, 1)])) fun d5 h =>
 storeN 4 b d5 h fun h =>
 loadN 4 b h fun d6 =>
 some (.tuple [d6, n, (.int .i64 0)], h)) (
 intS .eql c (.int .u8 34) fun q =>
 guardS q false (intS .eql c (.int .u8 39) fun d7 =>
 some (d7, h)) h fun d8 h =>
 optS (pickV q (.bool true) d8) fun d9 =>
 ifS d9 (
 bindS (ih 100 [a0] h) fun r h =>
 nilS a0 fun g0 =>
 addrS 0 g0 fun g1 =>
 load1 g1 h fun g2 =>
 nilS a0 fun g3 =>
 addrS 1 g3 fun g4 =>
 load1 g4 h fun g5 =>
 nilS a0 fun g6 =>
 addrS 1 g6 fun g7 =>
 load1 g7 h fun g8 =>
 intS .add g8 r fun g9 =>
 slStrK (some g5) (some g9) g2 fun i0 =>
 bindS (ih 102 [i0] ⟨h.t, h.n, h.n⟩) fun s i1 =>
 wroteS h.low i1 fun h =>
 extS 0 s fun i2 =>
 extS 1 s fun i3 =>
 bindS (bldStruct h [(0, (.int .u8 5)), (1, i2)] (.agg [(.int .u8 0), (.str ⟨0, 0⟩), (.int .i64 0), (.int .i64 0)]) (some [(0, 1), (1, 1), (2, 1), (3, 1)])) fun i4 h =>
 storeN 4 b i4 h fun h =>
 loadN 4 b h fun i5 =>
 some (.tuple [i5, r, i3], h)) (
 nilS a0 fun i6 =>
 addrS 0 i6 fun i7 =>
 load1 i7 h fun i8 =>
 nilS a0 fun i9 =>
 addrS 1 i9 fun j0 =>
 load1 j0 h fun j1 =>
 slStrK (some j1) none i8 fun j2 =>
 bindS (ih 104 [j2, (.str ⟨2, 15707⟩)] h) fun j3 h =>
 ifS j3 (
 bindS (bldStruct h [] (.agg [(.int .u8 0), (.str ⟨0, 0⟩), (.int .i64 0), (.int .i64 0)]) (some [(0, 1), (1, 1), (2, 1), (3, 1)])) fun j4 h =>
 storeN 4 b j4 h fun h =>
 loadN 4 b h fun j5 =>
 some (.tuple [j5, (.int .i64 0), (.int .i64 30)], h)) (
 nilS a0 fun j6 =>
 addrS 3 j6 fun j7 =>
 load1 j7 h fun t =>
 bindS (lenSl t fun v => some (v, h)) fun j8 h =>
 ih 23 [a0, b, c, t, j8, (.int .i64 0)] h))))))
def B23 (ih : II) (a0 a2 a5 a159 a160 a161 : V) (h : Hp) : VH :=
 intS .lss a161 a160 fun d =>
 ifS d (
 idxS 1 a159 a161 fun e =>
 load1 e h fun b =>
 bindS (ih 84 [a0, b] h) fun g h =>
 ifS g (
 bindS (bldStruct h [(0, (.int .u8 3)), (1, b)] (.agg [(.int .u8 0), (.str ⟨0, 0⟩), (.int .i64 0), (.int .i64 0)]) (some [(0, 1), (1, 1), (2, 1), (3, 1)])) fun i h =>
 bindS (lenStr b fun v => some (v, h)) fun j h =>
 storeN 4 a2 i h fun h =>
 loadN 4 a2 h fun k =>
 some (.tuple [k, j, (.int .i64 0)], h)) (
 intS .add a161 (.int .i64 1) fun l =>
 ih 23 [a0, a2, a5, a159, a160, l] h)) (
 intS .eql a5 (.int .u8 47) fun c =>
 guardS c false (intS .eql a5 (.int .u8 94) fun m =>
 some (m, h)) h fun n h =>
 optS (pickV c (.bool true) n) fun o =>
 ifS o (
 bindS (bldStruct h [] (.agg [(.int .u8 0), (.str ⟨0, 0⟩), (.int .i64 0), (.int .i64 0)]) (some [(0, 1), (1, 1), (2, 1), (3, 1)])) fun p h =>
 storeN 4 a2 p h fun h =>
 loadN 4 a2 h fun q =>
 some (.tuple [q, (.int .i64 0), (.int .i64 31)], h)) (
 bindS (bldStruct h [] (.agg [(.int .u8 0), (.str ⟨0, 0⟩), (.int .i64 0), (.int .i64 0)]) (some [(0, 1), (1, 1), (2, 1), (3, 1)])) fun r h =>
 storeN 4 a2 r h fun h =>
 loadN 4 a2 h fun s =>
 some (.tuple [s, (.int .i64 0), (.int .i64 30)], h)))
def B25 (ih : II) (a2 a10 a11 : V) (h : Hp) : VH :=
 loadN 4 a11 h fun b =>
 storeN 4 a2 b h fun h =>
 loadN 4 a2 h fun c =>
 some (.tuple [c, a10, (.int .i64 0)], h)
def B54 (ih : II) (a0 : V) (h : Hp) : VH :=
 bindS (ih 84 [a0, (.str ⟨2, 11565⟩)] h) fun e h =>
 notS e fun g =>
 ifS g (
 some (.tuple [(.bool false), (.int .i64 0)], h)) (
 bindS (ih 86 [a0, (.int .i64 2)] h) fun b h =>
 extS 0 b fun n =>
 extS 1 b fun d =>
 extS 2 b fun c =>
 guardS c true (intS .eql d (.int .i64 0) fun i =>
 some (i, h)) h fun j h =>
 optS (pickV c j (.bool false)) fun k =>
 ifS k (
 some (.tuple [(.bool true), (.int .i64 30)], h)) (
 ifS c (
 intS .add d (.int .i64 2) fun l =>
 bindS (ih 48 [a0, l] h) fun o h =>
 ih 27 [] h) (
 bindS (ih 50 [a0, (.int .i64 0), (.func 44 [] [])] h) fun m h =>
 bindS (ih 48 [a0, m] h) fun p h =>
 ih 27 [] h)))
def B27 (ih : II) (h : Hp) : VH :=
 some (.tuple [(.bool true), (.int .i64 0)], h)
def B50 (ih : II) (a0 a1 a2 : V) (h : Hp) : VH :=
 ih 29 [a0, a1, a2, a1] h
def B29 (ih : II) (a0 a1 a2 a7 : V) (h : Hp) : VH :=
 nilS a0 fun c =>
 addrS 1 c fun d =>
 load1 d h fun e =>
 intS .add e a7 fun g =>
 nilS a0 fun i =>
 addrS 0 i fun j =>
 load1 j h fun k =>
 bindS (lenStr k fun v => some (v, h)) fun l O =>
 intS .lss g l fun b =>
 guardS b true (some (a2, h)) h fun m _ =>
 guardS b true (some (a0, h)) h fun n _ =>
 guardS b true (nilS n fun o =>
 some (o, h)) h fun p _ =>
 guardS b true (addrS 0 p fun q =>
 some (q, h)) h fun r _ =>
 guardS b true (load1 r h fun s =>
 some (s, h)) h fun t _ =>
 guardS b true (some (a0, h)) h fun u _ =>
 guardS b true (nilS u fun w =>
 some (w, h)) h fun x _ =>
 guardS b true (addrS 1 x fun y =>
 some (y, h)) h fun z _ =>
 guardS b true (load1 z h fun A =>
 some (A, h)) h fun C _ =>
 guardS b true (some (a7, h)) h fun D _ =>
 guardS b true (intS .add C D fun E =>
 some (E, h)) h fun F _ =>
 guardS b true (idxStr t F fun G =>
 some (G, h)) h fun H _ =>
 guardS b true (bindS (dynE ih m [H] h) fun I h =>
 some (I, h)) h fun J h =>
 optS (pickV b J (.bool false)) fun K =>
 ifS K (
 intS .add a7 (.int .i64 1) fun L =>
 ih 29 [a0, a1, a2, L] h) (
 intS .sub a7 a1 fun N =>
 some (N, h))
def B44 (ih : II) (a0 a1 : V) (h : Hp) : VH :=
 bindS (lenSl a0 fun v => some (v, h)) fun b h =>
 bindS (ih 78 [a0, b, a1] h) fun c h =>
 some (.tuple [], h)
def B52 (ih : II) (a0 : V) (h : Hp) : VH :=
 intS .eql a0 (.int .u8 32) fun b =>
 guardS b false (bindS (ih 82 [(.int .u8 9), a0, (.int .u8 13)] h) fun c h =>
 some (c, h)) h fun d h =>
 optS (pickV b (.bool true) d) fun e =>
 some (e, h)
def B146 (ih : II) (a0 : V) (h : Hp) : VH :=
 nilS a0 fun b =>
 addrS 1 b fun c =>
 load1 c h fun d =>
 bindS (vh h (headV h d)) fun e m =>
 nilS a0 fun g =>
 addrS 1 g fun i =>
 load1 i h fun j =>
 bindS (lenSl j fun v => some (v, h)) fun k n =>
 bindS (seeV h 5 e k) fun l h =>
 some (l, h)
def B142 (ih : II) (a0 a1 : V) (h : Hp) : VH :=
 bindS (ih 206 [a0] h) fun k h =>
 nilS a0 fun b =>
 addrS 1 b fun c =>
 load1 c h fun d =>
 bindS (bldSl h [(0, a1)] 5 1 1 (.int .u8 0)) fun e h =>
 bindS (appS 5 1 1 d e h) fun g h =>
 nilS a0 fun i =>
 addrS 1 i fun j =>
 storeC j g h fun h =>
 some (.nilIface, h)
def B144 (ih : II) (a0 a1 : V) (h : Hp) : VH :=
 bindS (ih 206 [a0] h) fun k h =>
 nilS a0 fun b =>
 addrS 1 b fun c =>
 load1 c h fun d =>
 bindS (appS 5 1 1 d a1 h) fun e h =>
 nilS a0 fun g =>
 addrS 1 g fun i =>
 storeC i e h fun h =>
 bindS (lenStr a1 fun v => some (v, h)) fun j h =>
 some (.tuple [j, .nilIface], h)
def B80 (ih : II) (a0 : V) (h : Hp) : VH :=
 intS .eql a0 (.int .u8 10) fun b =>
 guardS b false (intS .eql a0 (.int .u8 13) fun c =>
 some (c, h)) h fun d h =>
 optS (pickV b (.bool true) d) fun e =>
 some (e, h)
def B84 (ih : II) (a0 a1 : V) (h : Hp) : VH :=
 nilS a0 fun b =>
 addrS 0 b fun c =>
 load1 c h fun d =>
 nilS a0 fun e =>
 addrS 1 e fun g =>
 load1 g h fun i =>
 slStrK (some i) none d fun j =>
 bindS (ih 104 [j, a1] h) fun k h =>
 some (k, h)
def B104 (ih : II) (a0 a1 : V) (h : Hp) : VH :=
 bindS (ih 172 [a0, a1] h) fun b h =>
 some (b, h)
def B102 (ih : II) (a0 : V) (h : Hp) : VH :=
 bindS (lenStr a0 fun v => some (v, h)) fun d h =>
 intS .lss d (.int .i64 2) fun b =>
 guardS b false (idxStr a0 (.int .i64 0) fun e =>
 intS .neq e (.int .u8 34) fun g =>
 some (g, h)) h fun c h =>
 guardS c true (idxStr a0 (.int .i64 0) fun i =>
 intS .neq i (.int .u8 39) fun j =>
 some (j, h)) h fun k h =>
 guardS b false (optS (pickV c k (.bool false)) fun l =>
 some (l, h)) h fun m h =>
 optS (pickV b (.bool true) m) fun n =>
 ifS n (
 some (.tuple [(.str ⟨0, 0⟩), (.int .i64 30)], h)) (
 newS 91 [.nilPtr, .nilSlice] h fun o h =>
 ih 33 [a0, o, (.int .i64 1)] h)
def B31 (ih : II) (a0 a4 a5 : V) (h : Hp) : VH :=
 bindS (lenStr a0 fun v => some (v, h)) fun b h =>
 intS .sub b (.int .i64 1) fun c =>
 intS .neq a5 c fun d =>
 ifS d (
 some (.tuple [(.str ⟨0, 0⟩), (.int .i64 30)], h)) (
 bindS (ih 146 [a4] h) fun e h =>
 some (.tuple [e, (.int .i64 0)], h))
def B33 (ih : II) (a0 a4 a5 : V) (h : Hp) : VH :=
 bindS (lenStr a0 fun v => some (v, h)) fun g h =>
 intS .lss a5 g fun i =>
 ifS i (
 idxStr a0 a5 fun b =>
 idxStr a0 (.int .i64 0) fun j =>
 intS .eql b j fun k =>
 ifS k (
 ih 31 [a0, a4, a5] h) (
 intS .eql b (.int .u8 10) fun c =>
 guardS c false (intS .eql b (.int .u8 13) fun l =>
 some (l, h)) h fun m h =>
 optS (pickV c (.bool true) m) fun n =>
 ifS n (
 some (.tuple [(.str ⟨0, 0⟩), (.int .i64 30)], h)) (
 intS .eql b (.int .u8 92) fun o =>
 ifS o (
 intS .add a5 (.int .i64 1) fun p =>
 slStrK (some p) none a0 fun q =>
 bindS (ih 170 [q] h) fun d h =>
 extS 0 d fun r =>
 extS 1 d fun e =>
 intS .eql e (.int .i64 0) fun s =>
 ifS s (
 some (.tuple [(.str ⟨0, 0⟩), (.int .i64 30)], h)) (
 bindS (ih 144 [a4, r] h) fun x h =>
 intS .add e (.int .i64 1) fun t =>
 intS .add a5 t fun u =>
 ih 33 [a0, a4, u] h)) (
 bindS (ih 142 [a4, b] h) fun y h =>
 intS .add a5 (.int .i64 1) fun w =>
 ih 33 [a0, a4, w] h)))) (
 ih 31 [a0, a4, a5] h)
def B100 (ih : II) (a0 : V) (h : Hp) : VH :=
 ih 35 [a0, (.int .i64 1)] h
def B35 (ih : II) (a0 a3 : V) (h : Hp) : VH :=
 nilS a0 fun d =>
 addrS 1 d fun e =>
 load1 e h fun g =>
 intS .add g a3 fun i =>
 nilS a0 fun j =>
 addrS 0 j fun k =>
 load1 k h fun l =>
 bindS (lenStr l fun v => some (v, h)) fun m c1 =>
 intS .lss i m fun n =>
 ifS n (
 nilS a0 fun o =>
 addrS 0 o fun p =>
 load1 p h fun q =>
 nilS a0 fun r =>
 addrS 1 r fun s =>
 load1 s h fun t =>
 intS .add t a3 fun u =>
 idxStr q u fun c =>
 nilS a0 fun w =>
 addrS 0 w fun x =>
 load1 x h fun y =>
 nilS a0 fun z =>
 addrS 1 z fun A =>
 load1 A h fun C =>
 idxStr y C fun D =>
 intS .eql c D fun E =>
 ifS E (
 intS .add a3 (.int .i64 1) fun F =>
 some (F, h)) (
 bindS (ih 80 [c] h) fun G h =>
 ifS G (
 some ((.int .i64 0), h)) (
 intS .eql c (.int .u8 92) fun b =>
 guardS b true (some (a0, h)) h fun H _ =>
 guardS b true (nilS H fun I =>
 some (I, h)) h fun J _ =>
 guardS b true (addrS 1 J fun K =>
 some (K, h)) h fun L _ =>
 guardS b true (load1 L h fun N =>
 some (N, h)) h fun O _ =>
 guardS b true (some (a3, h)) h fun P _ =>
 guardS b true (intS .add O P fun R =>
 some (R, h)) h fun S _ =>
 guardS b true (intS .add S (.int .i64 1) fun T =>
 some (T, h)) h fun U _ =>
 guardS b true (some (a0, h)) h fun W _ =>
 guardS b true (nilS W fun X =>
 some (X, h)) h fun Y _ =>
 guardS b true (addrS 0 Y fun Z =>
 some (Z, h)) h fun b0 _ =>
 guardS b true (load1 b0 h fun b1 =>
 some (b1, h)) h fun b2 _ =>
 guardS b true (bindS (lenStr b2 fun v => some (v, h)) fun b3 h =>
 some (b3, h)) h fun b4 _ =>
 guardS b true (intS .lss U b4 fun b5 =>
 some (b5, h)) h fun b6 h =>
 optS (pickV b b6 (.bool false)) fun b7 =>
 ifS b7 (
 intS .add a3 (.int .i64 1) fun b8 =>
 bindS (ih 168 [a0, b8] h) fun b9 h =>
 intS .add a3 b9 fun c0 =>
 ih 37 [a0, c0] h) (
 ih 37 [a0, a3] h)))) (
 some ((.int .i64 0), h))
def B37 (ih : II) (a0 a3 : V) (h : Hp) : VH :=
 intS .add a3 (.int .i64 1) fun b =>
 ih 35 [a0, b] h
def B98 (ih : II) (a0 : V) (h : Hp) : VH :=
 newS 25 [(.int .u8 0), (.str ⟨0, 0⟩), (.int .i64 0), (.int .i64 0)] h fun b h =>
 bindS (ih 104 [a0, (.str ⟨2, 30768⟩)] h) fun j h =>
 guardS j false (bindS (ih 104 [a0, (.str ⟨2, 22576⟩)] h) fun o h =>
 some (o, h)) h fun p h =>
 optS (pickV j (.bool true) p) fun c =>
 bindS (ih 162 [a0, (.str ⟨10, 270211885617516653982000⟩)] h) fun q h =>
 strS .eql q (.str ⟨0, 0⟩) fun d =>
 bindS (ih 164 [a0] h) fun k h =>
 extS 0 k fun r =>
 extS 1 k fun e =>
 guardS e true (some (c, h)) h fun l h =>
 guardS l false (some (d, h)) h fun s h =>
 guardS e true (optS (pickV l (.bool true) s) fun t =>
 some (t, h)) h fun u h =>
 optS (pickV e u (.bool false)) fun w =>
 ifS w (
 bindS (bldStruct h [(0, (.int .u8 4)), (2, r)] (.agg [(.int .u8 0), (.str ⟨0, 0⟩), (.int .i64 0), (.int .i64 0)]) (some [(0, 1), (1, 1), (2, 1), (3, 1)])) fun x h =>
 storeN 4 b x h fun h =>
 loadN 4 b h fun y =>
 some (.tuple [y, (.int .i64 0)], h)) (
 guardS d false (bindS (ih 58 [a0, (.str ⟨1, 46⟩)] h) fun z h =>
 some (z, h)) h fun A h =>
 optS (pickV d (.bool true) A) fun g =>
 guardS g false (notS c fun C =>
 some (C, h)) h fun m h =>
 guardS m true (bindS (ih 166 [a0, (.str ⟨2, 17765⟩)] h) fun D h =>
 some (D, h)) h fun E h =>
 guardS g false (optS (pickV m E (.bool false)) fun F =>
 some (F, h)) h fun G h =>
 optS (pickV g (.bool true) G) fun i =>
 guardS i false (some (c, h)) h fun n h =>
 guardS n true (bindS (ih 166 [a0, (.str ⟨2, 20592⟩)] h) fun H h =>
 some (H, h)) h fun I h =>
 guardS i false (optS (pickV n I (.bool false)) fun J =>
 some (J, h)) h fun K h =>
 optS (pickV i (.bool true) K) fun L =>
 ifS L (
 bindS (bldStruct h [] (.agg [(.int .u8 0), (.str ⟨0, 0⟩), (.int .i64 0), (.int .i64 0)]) (some [(0, 1), (1, 1), (2, 1), (3, 1)])) fun N h =>
 storeN 4 b N h fun h =>
 loadN 4 b h fun O =>
 some (.tuple [O, (.int .i64 31)], h)) (
 bindS (bldStruct h [] (.agg [(.int .u8 0), (.str ⟨0, 0⟩), (.int .i64 0), (.int .i64 0)]) (some [(0, 1), (1, 1), (2, 1), (3, 1)])) fun P h =>
 storeN 4 b P h fun h =>
 loadN 4 b h fun R =>
 some (.tuple [R, (.int .i64 30)], h)))
def B96 (ih : II) (a0 : V) (h : Hp) : VH :=
 newS 9 [(.str ⟨0, 0⟩)] h fun b h =>
 storeC b (.str ⟨2, 17765⟩) h fun h =>
 bindS (ih 84 [a0, (.str ⟨2, 30768⟩)] h) fun c h =>
 guardS c false (bindS (ih 84 [a0, (.str ⟨2, 22576⟩)] h) fun d h =>
 some (d, h)) h fun e h =>
 optS (pickV c (.bool true) e) fun g =>
 ifS g (
 storeC b (.str ⟨2, 20592⟩) h fun h =>
 ih 39 [a0, b] h) (
 ih 39 [a0, b] h)
def B39 (ih : II) (a0 a3 : V) (h : Hp) : VH :=
 newS 5 [(.int .u8 0)] h fun b h =>
 storeC b (.int .u8 0) h fun h =>
 bindS (ih 50 [a0, (.int .i64 0), (.func 79 [] [a3, b])] h) fun c h =>
 some (c, h)
def B24 (ih : II) (a0 : V) (h : Hp) : VH :=
 strS .neq a0 (.str ⟨0, 0⟩) fun b =>
 guardS b true (bindS (ih 58 [a0, (.str ⟨1, 32⟩)] h) fun d h =>
 notS d fun e =>
 some (e, h)) h fun g h =>
 optS (pickV b g (.bool false)) fun c =>
 guardS c true (strS .add (.str ⟨1, 32⟩) a0 fun i =>
 strS .add i (.str ⟨1, 32⟩) fun j =>
 bindS (ih 58 [(.str ⟨113, 17114727619812652865831592289240362729846247184396431686340976947246213244203127547449191376236204538493561187876213366597712742219312077217799013184980281018523815296416470444940759774119422513229535319500938016196420794042916494387837719131367459550913945883633037238560⟩), j] h) fun k h =>
 some (k, h)) h fun l h =>
 optS (pickV c l (.bool false)) fun m =>
 some (m, h)
def B92 (ih : II) (a0 : V) (h : Hp) : VH :=
 bindS (ih 82 [(.int .u8 97), a0, (.int .u8 122)] h) fun b h =>
 guardS b false (bindS (ih 82 [(.int .u8 65), a0, (.int .u8 90)] h) fun d h =>
 some (d, h)) h fun e h =>
 optS (pickV b (.bool true) e) fun c =>
 guardS c false (intS .eql a0 (.int .u8 95) fun g =>
 some (g, h)) h fun i h =>
 optS (pickV c (.bool true) i) fun j =>
 some (j, h)
def B86 (ih : II) (a0 a1 : V) (h : Hp) : VH :=
 nilS a0 fun i =>
 addrS 0 i fun j =>
 load1 j h fun k =>
 nilS a0 fun l =>
 addrS 1 l fun m =>
 load1 m h fun n =>
 intS .add n a1 fun o =>
 slStrK (some o) none k fun b =>
 bindS (ih 104 [b, (.str ⟨1, 91⟩)] h) fun p h =>
 notS p fun q =>
 ifS q (
 some (.tuple [(.str ⟨0, 0⟩), (.int .i64 0), (.bool false)], h)) (
 slStrK (some (.int .i64 1)) none b fun r =>
 bindS (lenStr r fun v => some (v, h)) fun s P =>
 slStrK (some (.int .i64 1)) none b fun t =>
 bindS (ih 152 [t, (.str ⟨1, 61⟩)] ⟨h.t, h.n, h.n⟩) fun u e =>
 cD ((pureB h e || false) && true) (
 wroteS h.low e fun h =>
 bindS (lenStr u fun v => some (v, h)) fun w R =>
 intS .sub s w fun c =>
 intS .add (.int .i64 1) c fun x =>
 slStrK (some x) none b fun y =>
 bindS (ih 104 [y, (.str ⟨1, 91⟩)] h) fun z h =>
 notS z fun A =>
 ifS A (
 some (.tuple [(.str ⟨0, 0⟩), (.int .i64 0), (.bool false)], h)) (
 intS .add c (.int .i64 2) fun C =>
 slStrK (some C) none b fun g =>
 intS .add (.int .i64 1) c fun D =>
 slStrK (some (.int .i64 1)) (some D) b fun E =>
 strS .add (.str ⟨1, 93⟩) E fun F =>
 strS .add F (.str ⟨1, 93⟩) fun G =>
 bindS (ih 106 [g, G] h) fun d h =>
 intS .lss d (.int .i64 0) fun H =>
 ifS H (
 some (.tuple [(.str ⟨0, 0⟩), (.int .i64 0), (.bool true)], h)) (
 slStrK none (some d) g fun I =>
 bindS (ih 156 [I] h) fun J h =>
 bindS (ih 154 [J, (.str ⟨1, 10⟩)] h) fun K h =>
 intS .add c (.int .i64 2) fun L =>
 intS .mul (.int .i64 2) L fun N =>
 intS .add d N fun O =>
 some (.tuple [K, O, (.bool true)], h)))) none)
def B90 (ih : II) (a0 : V) (h : Hp) : VH :=
 bindS (ih 82 [(.int .u8 48), a0, (.int .u8 57)] h) fun b h =>
 some (b, h)
def B94 (ih : II) (a0 : V) (h : Hp) : VH :=
 bindS (ih 92 [a0] h) fun b h =>
 guardS b false (bindS (ih 90 [a0] h) fun c h =>
 some (c, h)) h fun d h =>
 optS (pickV b (.bool true) d) fun e =>
 some (e, h)
def B88 (ih : II) (a0 : V) (h : Hp) : VH :=
 bindS (ih 80 [a0] h) fun b h =>
 notS b fun c =>
 some (c, h)
def B82 (ih : II) (a0 a1 a2 : V) (h : Hp) : VH :=
 intS .geq a1 a0 fun b =>
 guardS b true (intS .leq a1 a2 fun c =>
 some (c, h)) h fun d h =>
 optS (pickV b d (.bool false)) fun e =>
 some (e, h)
def B206 (ih : II) (a0 : V) (h : Hp) : VH :=
 nilS a0 fun b =>
 addrS 0 b fun c =>
 load1 c h fun d =>
 eqS (.pointer 91) .eql d .nilPtr fun e =>
 ifS e (
 bindS (vh h (bareV h a0)) fun g h =>
 bindS (ih 282 [g] h) fun i h =>
 bindS (vh h (typedV h 91 2 i)) fun j h =>
 nilS a0 fun k =>
 addrS 0 k fun l =>
 storeC l j h fun h =>
 some (.tuple [], h)) (
 nilS a0 fun m =>
 addrS 0 m fun n =>
 load1 n h fun o =>
 bindS (vh h (eqOp .neq (cmpP true o a0))) fun p h =>
 ifS p (
 none) (
 some (.tuple [], h)))
def B172 (ih : II) (a0 a1 : V) (h : Hp) : VH :=
 bindS (lenStr a0 fun v => some (v, h)) fun c h =>
 bindS (lenStr a1 fun v => some (v, h)) fun d h =>
 intS .geq c d fun b =>
 guardS b true (bindS (lenStr a1 fun v => some (v, h)) fun e h =>
 slStrK none (some e) a0 fun g =>
 strS .eql g a1 fun i =>
 some (i, h)) h fun j h =>
 optS (pickV b j (.bool false)) fun k =>
 some (k, h)
def B170 (ih : II) (a0 : V) (h : Hp) : VH :=
 strS .eql a0 (.str ⟨0, 0⟩) fun p =>
 ifS p (
 some (.tuple [(.str ⟨0, 0⟩), (.int .i64 0)], h)) (
 idxStr a0 (.int .i64 0) fun q =>
 intS .eql q (.int .u8 10) fun g =>
 guardS g false (idxStr a0 (.int .i64 0) fun r =>
 intS .eql r (.int .u8 13) fun s =>
 some (s, h)) h fun t h =>
 optS (pickV g (.bool true) t) fun u =>
 ifS u (
 bindS (lenStr a0 fun v => some (v, h)) fun w g1 =>
 intS .gtr w (.int .i64 1) fun b =>
 guardS b true (some (a0, h)) h fun x _ =>
 guardS b true (idxStr x (.int .i64 1) fun y =>
 some (y, h)) h fun z _ =>
 guardS b true (intS .eql z (.int .u8 10) fun A =>
 some (A, h)) h fun C _ =>
 guardS b true (some (C, h)) h fun d _ =>
 guardS d false (some (a0, h)) h fun D _ =>
 guardS d false (idxStr D (.int .i64 1) fun E =>
 some (E, h)) h fun F _ =>
 guardS d false (intS .eql F (.int .u8 13) fun G =>
 some (G, h)) h fun H _ =>
 guardS b true (optS (pickV d (.bool true) H) fun I =>
 some (I, h)) h fun J _ =>
 optS (pickV b J (.bool false)) fun c =>
 guardS c true (some (a0, h)) h fun K _ =>
 guardS c true (idxStr K (.int .i64 1) fun L =>
 some (L, h)) h fun N _ =>
 guardS c true (some (a0, h)) h fun O _ =>
 guardS c true (idxStr O (.int .i64 0) fun P =>
 some (P, h)) h fun R _ =>
 guardS c true (intS .neq N R fun S =>
 some (S, h)) h fun T h =>
 optS (pickV c T (.bool false)) fun U =>
 ifS U (
 some (.tuple [(.str ⟨1, 10⟩), (.int .i64 2)], h)) (
 some (.tuple [(.str ⟨1, 10⟩), (.int .i64 1)], h))) (
 idxStr a0 (.int .i64 0) fun W =>
 intS .eql W (.int .u8 120) fun X =>
 ifS X (
 slStrK (some (.int .i64 1)) none a0 fun Y =>
 bindS (ih 236 [Y, (.int .i64 2), (.int .i64 16)] h) fun i h =>
 extS 0 i fun Z =>
 extS 1 i fun b0 =>
 intS .eql b0 (.int .i64 2) fun b1 =>
 ifS b1 (
 convI .u8 Z fun b2 =>
 bindS (bldSl h [(0, b2)] 5 1 1 (.int .u8 0)) fun b3 h =>
 bindS (vh h (b2s h b3)) fun b4 h =>
 some (.tuple [b4, (.int .i64 3)], h)) (
 ih 41 [] h)) (
 idxStr a0 (.int .i64 0) fun b5 =>
 intS .eql b5 (.int .u8 122) fun b6 =>
 ifS b6 (
 ih 43 [a0, (.int .i64 1)] h) (
 idxStr a0 (.int .i64 0) fun b7 =>
 intS .eql b7 (.int .u8 117) fun b8 =>
 ifS b8 (
 bindS (ih 104 [a0, (.str ⟨2, 31605⟩)] h) fun b9 h =>
 notS b9 fun c0 =>
 ifS c0 (
 ih 41 [] h) (
 slStrK (some (.int .i64 2)) none a0 fun c1 =>
 bindS (lenStr a0 fun v => some (v, h)) fun c2 h =>
 bindS (ih 236 [c1, c2, (.int .i64 16)] h) fun j h =>
 extS 0 j fun c3 =>
 extS 1 j fun e =>
 bindS (ih 238 [c3] h) fun k h =>
 extS 0 k fun c4 =>
 extS 1 k fun c5 =>
 intS .gtr e (.int .i64 0) fun l =>
 guardS l true (intS .eql c5 (.int .i64 0) fun c6 =>
 some (c6, h)) h fun c7 h =>
 optS (pickV l c7 (.bool false)) fun m =>
 guardS m true (intS .add (.int .i64 2) e fun c8 =>
 slStrK (some c8) none a0 fun c9 =>
 bindS (ih 104 [c9, (.str ⟨1, 125⟩)] h) fun d0 h =>
 some (d0, h)) h fun d1 h =>
 optS (pickV m d1 (.bool false)) fun d2 =>
 ifS d2 (
 intS .add e (.int .i64 3) fun d3 =>
 some (.tuple [c4, d3], h)) (
 ih 41 [] h))) (
 idxStr a0 (.int .i64 0) fun d4 =>
 bindS (ih 90 [d4] h) fun d5 h =>
 ifS d5 (
 bindS (ih 236 [a0, (.int .i64 3), (.int .i64 10)] h) fun n h =>
 extS 0 n fun o =>
 extS 1 n fun d6 =>
 intS .leq o (.int .i64 255) fun d7 =>
 ifS d7 (
 convI .u8 o fun d8 =>
 bindS (bldSl h [(0, d8)] 5 1 1 (.int .u8 0)) fun d9 h =>
 bindS (vh h (b2s h d9)) fun g0 h =>
 some (.tuple [g0, d6], h)) (
 ih 41 [] h)) (
 ih 45 [a0, (.int .i64 0)] h))))))
def B41 (ih : II) (h : Hp) : VH :=
 some (.tuple [(.str ⟨0, 0⟩), (.int .i64 0)], h)
def B43 (ih : II) (a0 a6 : V) (h : Hp) : VH :=
 bindS (lenStr a0 fun v => some (v, h)) fun c h =>
 intS .lss a6 c fun b =>
 guardS b true (idxStr a0 a6 fun d =>
 bindS (ih 52 [d] h) fun e h =>
 some (e, h)) h fun g h =>
 optS (pickV b g (.bool false)) fun i =>
 ifS i (
 intS .add a6 (.int .i64 1) fun j =>
 ih 43 [a0, j] h) (
 some (.tuple [(.str ⟨0, 0⟩), a6], h))
def B45 (ih : II) (a0 a13 : V) (h : Hp) : VH :=
 intS .lss a13 (.int .i64 20) fun b =>
 ifS b (
 idxStr (.str ⟨20, 194867322317691132958510344948545282249320433505⟩) a13 fun c =>
 idxStr a0 (.int .i64 0) fun d =>
 intS .eql c d fun e =>
 ifS e (
 intS .add a13 (.int .i64 1) fun g =>
 intS .add a13 (.int .i64 2) fun i =>
 slStrK (some g) (some i) (.str ⟨20, 194867322317691132958510344948545282249320433505⟩) fun j =>
 some (.tuple [j, (.int .i64 1)], h)) (
 intS .add a13 (.int .i64 2) fun k =>
 ih 45 [a0, k] h)) (
 ih 41 [] h)
def B168 (ih : II) (a0 a1 : V) (h : Hp) : VH :=
 nilS a0 fun i =>
 addrS 0 i fun j =>
 load1 j h fun k =>
 nilS a0 fun l =>
 addrS 1 l fun m =>
 load1 m h fun n =>
 intS .add n a1 fun o =>
 idxStr k o fun g =>
 intS .eql g (.int .u8 122) fun p =>
 ifS p (
 intS .add a1 (.int .i64 1) fun q =>
 bindS (ih 50 [a0, q, (.func 26 [] [])] h) fun r h =>
 intS .add (.int .i64 1) r fun s =>
 some (s, h)) (
 bindS (ih 80 [g] ⟨h.t, h.n, h.n⟩) fun e t =>
 wroteS h.low t fun h =>
 guardS e true (some (a0, h)) h fun u _ =>
 guardS e true (nilS u fun w =>
 some (w, h)) h fun x _ =>
 guardS e true (addrS 1 x fun y =>
 some (y, h)) h fun z _ =>
 guardS e true (load1 z h fun A =>
 some (A, h)) h fun C _ =>
 guardS e true (some (a1, h)) h fun D _ =>
 guardS e true (intS .add C D fun E =>
 some (E, h)) h fun F _ =>
 guardS e true (intS .add F (.int .i64 1) fun G =>
 some (G, h)) h fun H _ =>
 guardS e true (some (a0, h)) h fun I _ =>
 guardS e true (nilS I fun J =>
 some (J, h)) h fun K _ =>
 guardS e true (addrS 0 K fun L =>
 some (L, h)) h fun N _ =>
 guardS e true (load1 N h fun O =>
 some (O, h)) h fun P _ =>
 guardS e true (bindS (lenStr P fun v => some (v, h)) fun R h =>
 some (R, h)) h fun S _ =>
 guardS e true (intS .lss H S fun T =>
 some (T, h)) h fun U _ =>
 optS (pickV e U (.bool false)) fun b =>
 guardS b true (some (a0, h)) h fun W _ =>
 guardS b true (nilS W fun X =>
 some (X, h)) h fun Y _ =>
 guardS b true (addrS 0 Y fun Z =>
 some (Z, h)) h fun b0 _ =>
 guardS b true (load1 b0 h fun b1 =>
 some (b1, h)) h fun b2 _ =>
 guardS b true (some (a0, h)) h fun b3 _ =>
 guardS b true (nilS b3 fun b4 =>
 some (b4, h)) h fun b5 _ =>
 guardS b true (addrS 1 b5 fun b6 =>
 some (b6, h)) h fun b7 _ =>
 guardS b true (load1 b7 h fun b8 =>
 some (b8, h)) h fun b9 _ =>
 guardS b true (some (a1, h)) h fun c0 _ =>
 guardS b true (intS .add b9 c0 fun c1 =>
 some (c1, h)) h fun c2 _ =>
 guardS b true (intS .add c2 (.int .i64 1) fun c3 =>
 some (c3, h)) h fun c4 _ =>
 guardS b true (idxStr b2 c4 fun c5 =>
 some (c5, h)) h fun c6 _ =>
 guardB b true (
 bindS (ih 80 [c6] ⟨h.t, h.n, h.n⟩) fun c7 c8 =>
 wroteS h.low c8 fun h =>
 optS (pickV b c7 (.bool false)) fun c =>
 guardS c true (some (a0, h)) h fun c9 _ =>
 guardS c true (nilS c9 fun d0 =>
 some (d0, h)) h fun d1 _ =>
 guardS c true (addrS 0 d1 fun d2 =>
 some (d2, h)) h fun d3 _ =>
 guardS c true (load1 d3 h fun d4 =>
 some (d4, h)) h fun d5 _ =>
 guardS c true (some (a0, h)) h fun d6 _ =>
 guardS c true (nilS d6 fun d7 =>
 some (d7, h)) h fun d8 _ =>
 guardS c true (addrS 1 d8 fun d9 =>
 some (d9, h)) h fun g0 _ =>
 guardS c true (load1 g0 h fun g1 =>
 some (g1, h)) h fun g2 _ =>
 guardS c true (some (a1, h)) h fun g3 _ =>
 guardS c true (intS .add g2 g3 fun g4 =>
 some (g4, h)) h fun g5 _ =>
 guardS c true (intS .add g5 (.int .i64 1) fun g6 =>
 some (g6, h)) h fun g7 _ =>
 guardS c true (idxStr d5 g7 fun g8 =>
 some (g8, h)) h fun g9 _ =>
 guardS c true (some (g, h)) h fun i0 _ =>
 guardS c true (intS .neq g9 i0 fun i1 =>
 some (i1, h)) h fun i2 h =>
 optS (pickV c i2 (.bool false)) fun i3 =>
 ifS i3 (
 some ((.int .i64 2), h)) (
 some ((.int .i64 1), h))) (
 optS (pickV b undefV (.bool false)) fun d =>
 guardS d true (some (a0, h)) h fun i4 _ =>
 guardS d true (nilS i4 fun i5 =>
 some (i5, h)) h fun i6 _ =>
 guardS d true (addrS 0 i6 fun i7 =>
 some (i7, h)) h fun i8 _ =>
 guardS d true (load1 i8 h fun i9 =>
 some (i9, h)) h fun j0 _ =>
 guardS d true (some (a0, h)) h fun j1 _ =>
 guardS d true (nilS j1 fun j2 =>
 some (j2, h)) h fun j3 _ =>
 guardS d true (addrS 1 j3 fun j4 =>
 some (j4, h)) h fun j5 _ =>
 guardS d true (load1 j5 h fun j6 =>
 some (j6, h)) h fun j7 _ =>
 guardS d true (some (a1, h)) h fun j8 _ =>
 guardS d true (intS .add j7 j8 fun j9 =>
 some (j9, h)) h fun k0 _ =>
 guardS d true (intS .add k0 (.int .i64 1) fun k1 =>
 some (k1, h)) h fun k2 _ =>
 guardS d true (idxStr j0 k2 fun k3 =>
 some (k3, h)) h fun k4 _ =>
 guardS d true (some (g, h)) h fun k5 _ =>
 guardS d true (intS .neq k4 k5 fun k6 =>
 some (k6, h)) h fun k7 h =>
 optS (pickV d k7 (.bool false)) fun k8 =>
 ifS k8 (
 some ((.int .i64 2), h)) (
 some ((.int .i64 1), h))))
def B164 (ih : II) (a0 : V) (h : Hp) : VH :=
 newS 9 (vcells a0) h fun b h =>
 bindS (dynE ih (.func 114 [] [b]) [] h) fun w h =>
 load1 b h fun e =>
 strS .neq e (.str ⟨0, 0⟩) fun c =>
 guardS c true (load1 b h fun g =>
 idxStr g (.int .i64 0) fun i =>
 intS .eql i (.int .u8 45) fun j =>
 some (j, h)) h fun d h =>
 guardS d false (load1 b h fun k =>
 idxStr k (.int .i64 0) fun l =>
 intS .eql l (.int .u8 43) fun m =>
 some (m, h)) h fun n h =>
 guardS c true (optS (pickV d (.bool true) n) fun o =>
 some (o, h)) h fun p h =>
 optS (pickV c p (.bool false)) fun q =>
 ifS q (
 load1 b h fun r =>
 slStrK none (some (.int .i64 1)) r fun s =>
 load1 b h fun t =>
 slStrK (some (.int .i64 1)) none t fun u =>
 storeC b u h fun h =>
 ih 47 [b, s] h) (
 ih 47 [b, (.str ⟨0, 0⟩)] h)
def B47 (ih : II) (a1 a5 : V) (h : Hp) : VH :=
 load1 a1 h fun j =>
 bindS (lenStr j fun v => some (v, h)) fun k h =>
 intS .geq k (.int .i64 2) fun c =>
 guardS c true (load1 a1 h fun l =>
 idxStr l (.int .i64 0) fun m =>
 intS .eql m (.int .u8 48) fun n =>
 some (n, h)) h fun o h =>
 optS (pickV c o (.bool false)) fun b =>
 guardS b true (load1 a1 h fun p =>
 idxStr p (.int .i64 1) fun q =>
 intS .eql q (.int .u8 120) fun r =>
 some (r, h)) h fun d h =>
 guardS d false (load1 a1 h fun s =>
 idxStr s (.int .i64 1) fun t =>
 intS .eql t (.int .u8 88) fun u =>
 some (u, h)) h fun w h =>
 guardS b true (optS (pickV d (.bool true) w) fun x =>
 some (x, h)) h fun y h =>
 optS (pickV b y (.bool false)) fun z =>
 ifS z (
 load1 a1 h fun A =>
 slStrK (some (.int .i64 2)) none A fun C =>
 bindS (ih 230 [C] h) fun e h =>
 extS 0 e fun g =>
 extS 1 e fun i =>
 strS .eql a5 (.str ⟨1, 45⟩) fun D =>
 ifS D (
 negS g fun E =>
 ih 51 [E, i] h) (
 ih 51 [g, i] h)) (
 load1 a1 h fun F =>
 bindS (lenStr F fun v => some (v, h)) fun G h =>
 ih 49 [a1, a5, G, (.int .i64 0)] h)
def B49 (ih : II) (a1 a5 a63 a64 : V) (h : Hp) : VH :=
 intS .lss a64 a63 fun c =>
 ifS c (
 load1 a1 h fun d =>
 idxStr d a64 fun e =>
 bindS (ih 90 [e] h) fun g h =>
 notS g fun i =>
 ifS i (
 some (.tuple [(.int .i64 0), (.bool false)], h)) (
 intS .add a64 (.int .i64 1) fun j =>
 ih 49 [a1, a5, a63, j] h)) (
 load1 a1 h fun k =>
 strS .add a5 k fun l =>
 bindS (ih 232 [l, (.int .i64 10), (.int .i64 64)] h) fun b h =>
 extS 0 b fun m =>
 extS 1 b fun n =>
 bindS (vh h (eqOp .neq (cmpI Tryz.prog true n .nilIface))) fun o h =>
 ifS o (
 some (.tuple [(.int .i64 0), (.bool false)], h)) (
 some (.tuple [m, (.bool true)], h)))
def B51 (ih : II) (a6 a7 : V) (h : Hp) : VH :=
 notS a7 fun b =>
 ifS b (
 some (.tuple [(.int .i64 0), (.bool false)], h)) (
 convI .i64 a6 fun c =>
 some (.tuple [c, (.bool true)], h))
def B158 (ih : II) (a0 a1 a2 : V) (h : Hp) : VH :=
 bindS (ih 90 [a0] h) fun c h =>
 guardS c false (bindS (ih 92 [a0] h) fun i h =>
 some (i, h)) h fun j h =>
 optS (pickV c (.bool true) j) fun d =>
 guardS d false (intS .eql a0 (.int .u8 46) fun k =>
 some (k, h)) h fun l h =>
 optS (pickV d (.bool true) l) fun b =>
 guardS b false (intS .eql a0 (.int .u8 43) fun m =>
 some (m, h)) h fun e h =>
 guardS e false (intS .eql a0 (.int .u8 45) fun n =>
 some (n, h)) h fun o h =>
 guardS b false (optS (pickV e (.bool true) o) fun p =>
 some (p, h)) h fun g h =>
 guardS g true (load1 a1 h fun q =>
 load1 a2 h fun r =>
 bindS (ih 160 [q, r] h) fun s h =>
 intS .geq s (.int .i64 0) fun t =>
 some (t, h)) h fun u h =>
 guardS b false (optS (pickV g u (.bool false)) fun w =>
 some (w, h)) h fun x h =>
 optS (pickV b (.bool true) x) fun y =>
 storeC a2 a0 h fun h =>
 some (y, h)
def B154 (ih : II) (a0 a1 : V) (h : Hp) : VH :=
 bindS (ih 218 [a0, a1] h) fun b h =>
 some (b, h)
def B156 (ih : II) (a0 : V) (h : Hp) : VH :=
 newS 91 [.nilPtr, .nilSlice] h fun b h =>
 ih 53 [a0, b, (.int .i64 0)] h
def B53 (ih : II) (a0 a3 a4 : V) (h : Hp) : VH :=
 bindS (lenStr a0 fun v => some (v, h)) fun e h =>
 intS .lss a4 e fun g =>
 ifS g (
 idxStr a0 a4 fun i =>
 bindS (ih 80 [i] h) fun j h =>
 notS j fun k =>
 ifS k (
 idxStr a0 a4 fun l =>
 bindS (ih 142 [a3, l] h) fun b4 h =>
 ih 55 [a0, a3, a4] h) (
 bindS (ih 142 [a3, (.int .u8 10)] h) fun b5 h =>
 intS .add a4 (.int .i64 1) fun m =>
 bindS (lenStr a0 fun v => some (v, h)) fun n b6 =>
 intS .lss m n fun d =>
 guardS d true (some (a0, h)) h fun o _ =>
 guardS d true (some (a4, h)) h fun p _ =>
 guardS d true (intS .add p (.int .i64 1) fun q =>
 some (q, h)) h fun r _ =>
 guardS d true (idxStr o r fun s =>
 some (s, h)) h fun t _ =>
 guardB d true (
 bindS (ih 80 [t] ⟨h.t, h.n, h.n⟩) fun u w =>
 wroteS h.low w fun h =>
 optS (pickV d u (.bool false)) fun b =>
 guardS b true (some (a0, h)) h fun x _ =>
 guardS b true (some (a4, h)) h fun y _ =>
 guardS b true (intS .add y (.int .i64 1) fun z =>
 some (z, h)) h fun A _ =>
 guardS b true (idxStr x A fun C =>
 some (C, h)) h fun D _ =>
 guardS b true (some (a0, h)) h fun E _ =>
 guardS b true (some (a4, h)) h fun F _ =>
 guardS b true (idxStr E F fun G =>
 some (G, h)) h fun H _ =>
 guardS b true (intS .neq D H fun I =>
 some (I, h)) h fun J h =>
 optS (pickV b J (.bool false)) fun K =>
 ifS K (
 intS .add a4 (.int .i64 1) fun L =>
 ih 55 [a0, a3, L] h) (
 ih 55 [a0, a3, a4] h)) (
 optS (pickV d undefV (.bool false)) fun c =>
 guardS c true (some (a0, h)) h fun N _ =>
 guardS c true (some (a4, h)) h fun O _ =>
 guardS c true (intS .add O (.int .i64 1) fun P =>
 some (P, h)) h fun R _ =>
 guardS c true (idxStr N R fun S =>
 some (S, h)) h fun T _ =>
 guardS c true (some (a0, h)) h fun U _ =>
 guardS c true (some (a4, h)) h fun W _ =>
 guardS c true (idxStr U W fun X =>
 some (X, h)) h fun Y _ =>
 guardS c true (intS .neq T Y fun Z =>
 some (Z, h)) h fun b0 h =>
 optS (pickV c b0 (.bool false)) fun b1 =>
 ifS b1 (
 intS .add a4 (.int .i64 1) fun b2 =>
 ih 55 [a0, a3, b2] h) (
 ih 55 [a0, a3, a4] h)))) (
 bindS (ih 146 [a3] h) fun b3 h =>
 some (b3, h))
def B55 (ih : II) (a0 a3 a4 : V) (h : Hp) : VH :=
 intS .add a4 (.int .i64 1) fun b =>
 ih 53 [a0, a3, b] h
def B236 (ih : II) (a0 a1 a2 : V) (h : Hp) : VH :=
 ih 59 [a0, a1, a2, (.int .i64 0), (.int .i64 0)] h
def B57 (ih : II) (a8 a9 : V) (h : Hp) : VH :=
 some (.tuple [a8, a9], h)
def B59 (ih : II) (a0 a1 a2 a8 a9 : V) (h : Hp) : VH :=
 bindS (lenStr a0 fun v => some (v, h)) fun i h =>
 intS .lss a9 i fun b =>
 guardS b true (intS .lss a9 a1 fun j =>
 some (j, h)) h fun k h =>
 optS (pickV b k (.bool false)) fun c =>
 guardS c true (intS .lss a8 (.int .i64 2147483648) fun l =>
 some (l, h)) h fun m h =>
 optS (pickV c m (.bool false)) fun n =>
 ifS n (
 idxStr a0 a9 fun o =>
 bindS (ih 296 [o] h) fun d h =>
 extS 0 d fun e =>
 extS 1 d fun p =>
 notS p fun g =>
 guardS g false (intS .geq e a2 fun q =>
 some (q, h)) h fun r h =>
 optS (pickV g (.bool true) r) fun s =>
 ifS s (
 ih 57 [a8, a9] h) (
 intS .mul a8 a2 fun t =>
 intS .add t e fun u =>
 intS .add a9 (.int .i64 1) fun w =>
 ih 59 [a0, a1, a2, u, w] h)) (
 ih 57 [a8, a9] h)
def B238 (ih : II) (a0 : V) (h : Hp) : VH :=
 intS .lss a0 (.int .i64 0) fun b =>
 guardS b false (intS .geq a0 (.int .i64 2147483648) fun c =>
 some (c, h)) h fun d h =>
 optS (pickV b (.bool true) d) fun e =>
 ifS e (
 some (.tuple [(.str ⟨0, 0⟩), (.int .i64 10)], h)) (
 intS .lss a0 (.int .i64 128) fun g =>
 ifS g (
 convI .u8 a0 fun i =>
 bindS (bldSl h [(0, i)] 5 1 1 (.int .u8 0)) fun j h =>
 bindS (vh h (b2s h j)) fun k h =>
 some (.tuple [k, (.int .i64 0)], h)) (
 ih 61 [a0, (.int .i64 2)] h))
def B61 (ih : II) (a0 a4 : V) (h : Hp) : VH :=
 intS .mul (.int .i64 5) a4 fun b =>
 intS .add b (.int .i64 1) fun c =>
 shS .shl (.int .i64 1) c fun d =>
 intS .geq a0 d fun e =>
 ifS e (
 intS .add a4 (.int .i64 1) fun g =>
 ih 61 [a0, g] h) (
 bindS (mkS 5 1 1 (.int .u8 0) a4 a4 h) fun i h =>
 intS .sub a4 (.int .i64 1) fun j =>
 ih 63 [a0, a4, i, j] h)
def B63 (ih : II) (a0 a4 a5 a6 : V) (h : Hp) : VH :=
 intS .gtr a6 (.int .i64 0) fun b =>
 ifS b (
 intS .and a0 (.int .i64 63) fun c =>
 convI .u8 c fun d =>
 intS .or (.int .u8 128) d fun e =>
 idxS 1 a5 a6 fun g =>
 storeC g e h fun h =>
 shS .shr a0 (.int .u64 6) fun i =>
 intS .sub a6 (.int .i64 1) fun j =>
 ih 63 [i, a4, a5, j] h) (
 intS .sub (.int .i64 8) a4 fun k =>
 shS .shl (.int .u8 255) k fun l =>
 convI .u8 a0 fun m =>
 intS .or l m fun n =>
 idxS 1 a5 (.int .i64 0) fun o =>
 storeC o n h fun h =>
 bindS (vh h (b2s h a5)) fun p h =>
 some (.tuple [p, (.int .i64 0)], h))
def B230 (ih : II) (a0 : V) (h : Hp) : VH :=
 bindS (lenStr a0 fun v => some (v, h)) fun b h =>
 ih 65 [a0, (.int .u64 0), b, (.int .i64 0)] h
def B65 (ih : II) (a0 a4 a9 a10 : V) (h : Hp) : VH :=
 intS .lss a10 a9 fun c =>
 ifS c (
 idxStr a0 a10 fun d =>
 bindS (ih 296 [d] h) fun b h =>
 extS 0 b fun e =>
 extS 1 b fun g =>
 notS g fun i =>
 ifS i (
 some (.tuple [(.int .u64 0), (.bool false)], h)) (
 shS .shl a4 (.int .u64 4) fun j =>
 convI .u64 e fun k =>
 intS .or j k fun l =>
 intS .add a10 (.int .i64 1) fun m =>
 ih 65 [a0, l, a9, m] h)) (
 strS .neq a0 (.str ⟨0, 0⟩) fun n =>
 some (.tuple [a4, n], h))
def B228 (ih : II) (a0 : V) (h : Hp) : VH :=
 ih 67 [a0] h
def B67 (ih : II) (a0 : V) (h : Hp) : VH :=
 load1 a0 h fun c =>
 strS .neq c (.str ⟨0, 0⟩) fun b =>
 guardS b true (load1 a0 h fun d =>
 idxStr d (.int .i64 0) fun e =>
 bindS (ih 52 [e] h) fun g h =>
 some (g, h)) h fun i h =>
 optS (pickV b i (.bool false)) fun j =>
 ifS j (
 load1 a0 h fun k =>
 slStrK (some (.int .i64 1)) none k fun l =>
 storeC a0 l h fun h =>
 ih 67 [a0] h) (
 ih 69 [a0] h)
def B69 (ih : II) (a0 : V) (h : Hp) : VH :=
 load1 a0 h fun c =>
 strS .neq c (.str ⟨0, 0⟩) fun b =>
 guardS b true (load1 a0 h fun d =>
 load1 a0 h fun e =>
 bindS (lenStr e fun v => some (v, h)) fun g h =>
 intS .sub g (.int .i64 1) fun i =>
 idxStr d i fun j =>
 bindS (ih 52 [j] h) fun k h =>
 some (k, h)) h fun l h =>
 optS (pickV b l (.bool false)) fun m =>
 ifS m (
 load1 a0 h fun n =>
 load1 a0 h fun o =>
 bindS (lenStr o fun v => some (v, h)) fun p h =>
 intS .sub p (.int .i64 1) fun q =>
 slStrK none (some q) n fun r =>
 storeC a0 r h fun h =>
 ih 69 [a0] h) (
 some (.tuple [], h))
def B218 (ih : II) (a0 a1 : V) (h : Hp) : VH :=
 bindS (ih 172 [a0, a1] h) fun b h =>
 ifS b (
 bindS (lenStr a1 fun v => some (v, h)) fun c h =>
 slStrK (some c) none a0 fun d =>
 some (d, h)) (
 some (a0, h))
def B296 (ih : II) (a0 : V) (h : Hp) : VH :=
 bindS (ih 90 [a0] h) fun b h =>
 ifS b (
 intS .sub a0 (.int .u8 48) fun c =>
 convI .i64 c fun d =>
 some (.tuple [d, (.bool true)], h)) (
 bindS (ih 82 [(.int .u8 97), a0, (.int .u8 102)] h) fun e h =>
 ifS e (
 intS .sub a0 (.int .u8 97) fun g =>
 convI .i64 g fun i =>
 intS .add i (.int .i64 10) fun j =>
 some (.tuple [j, (.bool true)], h)) (
 bindS (ih 82 [(.int .u8 65), a0, (.int .u8 70)] h) fun k h =>
 ifS k (
 intS .sub a0 (.int .u8 65) fun l =>
 convI .i64 l fun m =>
 intS .add m (.int .i64 10) fun n =>
 some (.tuple [n, (.bool true)], h)) (
 some (.tuple [(.int .i64 0), (.bool false)], h))))
def labs : Tr Lab:=(((((((((((((((((((((((((((((((((((Tr.nil.set 0 (6, 506, [1, 5, 7, 8])).set 1 (6, 16378, [13, 14, 15])).set 2 (6, 32403, [1, 5, 7, 8, 9])).set 3 (21, 58, [0, 3, 4])).set 4 (10, 126, [3, 4, 5])).set 5 (10, 32319, [3, 4, 5, 8, 9, 10])).set 6 (38, 122, [0, 3, 9, 10])).set 7 (38, 1959, [0, 3, 9, 10])).set 8 (36, 58, [0, 3, 4])).set 9 (24, 6, [0, 4])).set 10 (24, 51, [0, 4])).set 11 (28, 506, [0, 2, 5, 159, 160, 161])).set 12 (28, 3991, [2, 10, 11])).set 13 (27, 31, [])).set 14 (25, 28, [0, 1, 2, 7])).set 15 (51, 223, [0, 4, 5])).set 16 (51, 444, [0, 4, 5])).set 17 (50, 28, [0, 3])).set 18 (50, 907, [0, 3])).set 19 (48, 15, [0, 3])).set 20 (85, 15, [])).set 21 (85, 14836, [0, 6])).set 22 (85, 118782, [0, 13])).set 23 (82, 63, [1, 5])).set 24 (82, 1018, [1, 5, 63, 64])).set 25 (82, 2027, [6, 7])).set 26 (78, 58, [0, 3, 4])).set 27 (78, 467, [0, 3, 4])).set 28 (118, 15, [8, 9])).set 29 (118, 28, [0, 1, 2, 8, 9])).set 30 (119, 124, [0, 4])).set 31 (119, 1018, [0, 4, 5, 6])).set 32 (115, 58, [0, 4, 9, 10])).set 33 (114, 4, [0])).set 34 (114, 6, [0]))
def cuts6 : Cuts:=[(506, 0, [1, 5, 7, 8]), (16378, 1, [13, 14, 15]), (32403, 2, [1, 5, 7, 8, 9])]
theorem fit6 : cutsFit labs 6 cuts6 = true:=by kernel_rfl
def cuts20 : Cuts:=[]
theorem fit20 : cutsFit labs 20 cuts20 = true:=by kernel_rfl
def cuts21 : Cuts:=[(58, 3, [0, 3, 4])]
theorem fit21 : cutsFit labs 21 cuts21 = true:=by kernel_rfl
def cuts10 : Cuts:=[(126, 4, [3, 4, 5]), (32319, 5, [3, 4, 5, 8, 9, 10])]
theorem fit10 : cutsFit labs 10 cuts10 = true:=by kernel_rfl
def cuts38 : Cuts:=[(122, 6, [0, 3, 9, 10]), (1959, 7, [0, 3, 9, 10])]
theorem fit38 : cutsFit labs 38 cuts38 = true:=by kernel_rfl
def cuts37 : Cuts:=[]
theorem fit37 : cutsFit labs 37 cuts37 = true:=by kernel_rfl
def cuts36 : Cuts:=[(58, 8, [0, 3, 4])]
theorem fit36 : cutsFit labs 36 cuts36 = true:=by kernel_rfl
def cuts24 : Cuts:=[(6, 9, [0, 4]), (51, 10, [0, 4])]
theorem fit24 : cutsFit labs 24 cuts24 = true:=by kernel_rfl
def cuts28 : Cuts:=[(506, 11, [0, 2, 5, 159, 160, 161]), (3991, 12, [2, 10, 11])]
theorem fit28 : cutsFit labs 28 cuts28 = true:=by kernel_rfl
def cuts27 : Cuts:=[(31, 13, [])]
theorem fit27 : cutsFit labs 27 cuts27 = true:=by kernel_rfl
def cuts25 : Cuts:=[(28, 14, [0, 1, 2, 7])]
theorem fit25 : cutsFit labs 25 cuts25 = true:=by kernel_rfl
def cuts22 : Cuts:=[]
theorem fit22 : cutsFit labs 22 cuts22 = true:=by kernel_rfl
def cuts26 : Cuts:=[]
theorem fit26 : cutsFit labs 26 cuts26 = true:=by kernel_rfl
def cuts73 : Cuts:=[]
theorem fit73 : cutsFit labs 73 cuts73 = true:=by kernel_rfl
def cuts71 : Cuts:=[]
theorem fit71 : cutsFit labs 71 cuts71 = true:=by kernel_rfl
def cuts72 : Cuts:=[]
theorem fit72 : cutsFit labs 72 cuts72 = true:=by kernel_rfl
def cuts40 : Cuts:=[]
theorem fit40 : cutsFit labs 40 cuts40 = true:=by kernel_rfl
def cuts42 : Cuts:=[]
theorem fit42 : cutsFit labs 42 cuts42 = true:=by kernel_rfl
def cuts52 : Cuts:=[]
theorem fit52 : cutsFit labs 52 cuts52 = true:=by kernel_rfl
def cuts51 : Cuts:=[(223, 15, [0, 4, 5]), (444, 16, [0, 4, 5])]
theorem fit51 : cutsFit labs 51 cuts51 = true:=by kernel_rfl
def cuts50 : Cuts:=[(28, 17, [0, 3]), (907, 18, [0, 3])]
theorem fit50 : cutsFit labs 50 cuts50 = true:=by kernel_rfl
def cuts49 : Cuts:=[]
theorem fit49 : cutsFit labs 49 cuts49 = true:=by kernel_rfl
def cuts48 : Cuts:=[(15, 19, [0, 3])]
theorem fit48 : cutsFit labs 48 cuts48 = true:=by kernel_rfl
def cuts12 : Cuts:=[]
theorem fit12 : cutsFit labs 12 cuts12 = true:=by kernel_rfl
def cuts46 : Cuts:=[]
theorem fit46 : cutsFit labs 46 cuts46 = true:=by kernel_rfl
def cuts43 : Cuts:=[]
theorem fit43 : cutsFit labs 43 cuts43 = true:=by kernel_rfl
def cuts45 : Cuts:=[]
theorem fit45 : cutsFit labs 45 cuts45 = true:=by kernel_rfl
def cuts47 : Cuts:=[]
theorem fit47 : cutsFit labs 47 cuts47 = true:=by kernel_rfl
def cuts44 : Cuts:=[]
theorem fit44 : cutsFit labs 44 cuts44 = true:=by kernel_rfl
def cuts41 : Cuts:=[]
theorem fit41 : cutsFit labs 41 cuts41 = true:=by kernel_rfl
def cuts103 : Cuts:=[]
theorem fit103 : cutsFit labs 103 cuts103 = true:=by kernel_rfl
def cuts86 : Cuts:=[]
theorem fit86 : cutsFit labs 86 cuts86 = true:=by kernel_rfl
def cuts85 : Cuts:=[(15, 20, []), (14836, 21, [0, 6]), (118782, 22, [0, 13])]
theorem fit85 : cutsFit labs 85 cuts85 = true:=by kernel_rfl
def cuts84 : Cuts:=[]
theorem fit84 : cutsFit labs 84 cuts84 = true:=by kernel_rfl
def cuts82 : Cuts:=[(63, 23, [1, 5]), (1018, 24, [1, 5, 63, 64]), (2027, 25, [6, 7])]
theorem fit82 : cutsFit labs 82 cuts82 = true:=by kernel_rfl
def cuts79 : Cuts:=[]
theorem fit79 : cutsFit labs 79 cuts79 = true:=by kernel_rfl
def cuts77 : Cuts:=[]
theorem fit77 : cutsFit labs 77 cuts77 = true:=by kernel_rfl
def cuts78 : Cuts:=[(58, 26, [0, 3, 4]), (467, 27, [0, 3, 4])]
theorem fit78 : cutsFit labs 78 cuts78 = true:=by kernel_rfl
def cuts118 : Cuts:=[(15, 28, [8, 9]), (28, 29, [0, 1, 2, 8, 9])]
theorem fit118 : cutsFit labs 118 cuts118 = true:=by kernel_rfl
def cuts119 : Cuts:=[(124, 30, [0, 4]), (1018, 31, [0, 4, 5, 6])]
theorem fit119 : cutsFit labs 119 cuts119 = true:=by kernel_rfl
def cuts115 : Cuts:=[(58, 32, [0, 4, 9, 10])]
theorem fit115 : cutsFit labs 115 cuts115 = true:=by kernel_rfl
def cuts114 : Cuts:=[(4, 33, [0]), (6, 34, [0])]
theorem fit114 : cutsFit labs 114 cuts114 = true:=by kernel_rfl
def cuts109 : Cuts:=[]
theorem fit109 : cutsFit labs 109 cuts109 = true:=by kernel_rfl
def cuts148 : Cuts:=[]
theorem fit148 : cutsFit labs 148 cuts148 = true:=by kernel_rfl
end
end
end Go.LB
end
