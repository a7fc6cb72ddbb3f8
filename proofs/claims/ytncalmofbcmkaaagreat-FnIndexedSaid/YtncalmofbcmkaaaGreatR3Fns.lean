/- The kinds of the program's types, and what its functions compute, as typed functions. (Printed by a program of mine, wip/tools/gen.py.) -/
import Derived.Test.YtncalmofbcmkaaaGreatEv3
set_option linter.all false
set_option maxRecDepth 100000
noncomputable section
namespace Go.Proofs.YtncalmofbcmkaaaGreat
open Go Go.Proofs.YtncalmofbcmkaaaGreat.Ev
abbrev kdFilter : K := (.pair (.int .i64) (.pair .str (.pair (.int .i64) .unit)))
abbrev DFilter : Type := (Int × (ByteArray × (Int × Unit)))
abbrev kdItem : K := (.pair .str (.pair (.int .i64) (.pair (.int .i64) (.pair .str .unit))))
abbrev DItem : Type := (ByteArray × (Int × (Int × (ByteArray × Unit))))
abbrev kdPlace : K := (.pair .str (.pair (.int .i64) (.pair (.int .i64) (.pair (.int .i64) .unit))))
abbrev DPlace : Type := (ByteArray × (Int × (Int × (Int × Unit))))
abbrev kdtable : K := (.pair (.sl kdItem) (.pair (.sl kdPlace) (.pair kdFilter .unit)))
abbrev Dtable : Type := ((List DItem) × ((List DPlace) × (DFilter × Unit)))
abbrev kdtaker : K := (.pair .str (.pair .bool .unit))
abbrev Dtaker : Type := (ByteArray × (Bool × Unit))
abbrev kdl1Cur : K := (.pair (.sl (.int .u8)) (.pair (.int .i64) (.pair (.int .u64) .unit)))
abbrev Dl1Cur : Type := ((List Int) × (Int × (Int × Unit)))
abbrev ins47 : List Pm := [.mptr kdl1Cur .s]
abbrev res47 : List (K × Mk) := [((.int .i64), .s)]
abbrev f_spec_l1Cur_next_i3c : Desc := ⟨[(0, .ptr 0 []), (13, .v .bool)], [(0, ⟨kdl1Cur, .s, true⟩)]⟩
abbrev f_spec_l1Cur_next_i3v : Desc := ⟨[(3, .v (.int .i64))], []⟩
abbrev f_spec_l1Cur_next_i3e : List (Ek × Desc) := [(.norm, ⟨[(3, .v (.int .i64))], []⟩)]
def f_spec_l1Cur_next_i3 (R : Type) (c : ((Bool × Unit) × (Dl1Cur × Unit))) (v : ((Int × Unit) × Unit)) (kk : ((Bool × Unit) × (Dl1Cur × Unit)) → ((Int × Unit) × Unit) → Option R) : Option R :=
 (cond c.1.1
 (getO c.2.1.1 c.2.1.2.1 fun v1 => (kk ((c.1.1, ()), (c.2.1, ())) (((IntKind.wrap .i64 v1), ()), ())))
 (kk ((c.1.1, ()), (c.2.1, ())) ((v.1.1, ()), ())))
def f_spec_l1Cur_next (x : (Dl1Cur × Unit)) : Option ((Int × Unit) × (Dl1Cur × Unit)) :=
 (f_spec_l1Cur_next_i3 _ (((ilt x.1.2.1 (llen x.1.1)), ()), (x.1, ())) (((0 : Int), ()), ()) fun c2 o3 =>
 (cond (ile (iadd .i64 c2.2.1.2.1 (1 : Int)) (llen c2.2.1.1))
 (some ((o3.1.1, ()), ((c2.2.1.1, ((iadd .i64 c2.2.1.2.1 (1 : Int)), ((iadd .u64 (iadd .u64 (imul .u64 c2.2.1.2.2.1 (6364136223846793005 : Int)) (IntKind.wrap .u64 o3.1.1)) (1442695040888963407 : Int)), c2.2.1.2.2.2))), ())))
 (some (((IntKind.wrap .i64 (iand .u64 (ishr .u64 (iadd .u64 (iadd .u64 (imul .u64 c2.2.1.2.2.1 (6364136223846793005 : Int)) (IntKind.wrap .u64 o3.1.1)) (1442695040888963407 : Int)) (40 : Int)) (255 : Int))), ()), ((c2.2.1.1, ((iadd .i64 c2.2.1.2.1 (1 : Int)), ((iadd .u64 (iadd .u64 (imul .u64 c2.2.1.2.2.1 (6364136223846793005 : Int)) (IntKind.wrap .u64 o3.1.1)) (1442695040888963407 : Int)), c2.2.1.2.2.2))), ())))))
def sg47 : Sig := ⟨ins47, res47, f_spec_l1Cur_next⟩
abbrev ins20 : List Pm := [.mptr kdl1Cur .s, .val (.int .i64)]
abbrev res20 : List (K × Mk) := [((.int .i64), .s)]
abbrev f_spec_l1Cur_pick_i5c : Desc := ⟨[(0, .ptr 0 []), (1, .v (.int .i64)), (11, .v .bool)], []⟩
abbrev f_spec_l1Cur_pick_i5v : Desc := ⟨[(5, .v (.int .i64))], [(0, ⟨kdl1Cur, .s, true⟩)]⟩
abbrev f_spec_l1Cur_pick_i5e : List (Ek × Desc) := [(.norm, ⟨[(5, .v (.int .i64))], [(0, ⟨kdl1Cur, .s, true⟩)]⟩)]
def f_spec_l1Cur_pick_i5 (R : Type) (c : ((Int × Bool × Unit) × Unit)) (v : ((Int × Unit) × (Dl1Cur × Unit))) (kk : ((Int × Bool × Unit) × Unit) → ((Int × Unit) × (Dl1Cur × Unit)) → Option R) : Option R :=
 (cond c.1.2.1
 (bnd (f_spec_l1Cur_next (v.2.1, ())) fun r2 => (kk ((c.1.1, (c.1.2.1, ())), ()) (((iadd .i64 (imul .i64 v.1.1 (256 : Int)) r2.1.1), ()), (r2.2.1, ()))))
 (kk ((c.1.1, (c.1.2.1, ())), ()) ((v.1.1, ()), (v.2.1, ()))))
def f_spec_l1Cur_pick (x : (Dl1Cur × Int × Unit)) : Option ((Int × Unit) × (Dl1Cur × Unit)) :=
 (cond (ile x.2.1 (1 : Int))
 (some (((0 : Int), ()), (x.1, ())))
 (bnd (f_spec_l1Cur_next (x.1, ())) fun r1 => (f_spec_l1Cur_pick_i5 _ ((x.2.1, ((ilt (200 : Int) x.2.1), ())), ()) ((r1.1.1, ()), (r1.2.1, ())) fun c3 o4 =>
 (req (!decide (c3.1.1 = (0 : Int))) (some (((irem .i64 o4.1.1 c3.1.1), ()), (o4.2.1, ())))))))
def sg20 : Sig := ⟨ins20, res20, f_spec_l1Cur_pick⟩
abbrev ins45 : List Pm := [.mptr kdl1Cur .s, .val (.int .i64)]
abbrev res45 : List (K × Mk) := [(.bool, .s)]
def f_spec_l1Cur_one (x : (Dl1Cur × Int × Unit)) : Option ((Bool × Unit) × (Dl1Cur × Unit)) :=
 (bnd (f_spec_l1Cur_pick (x.1, (x.2.1, ()))) fun r1 => (some (((ieq r1.1.1 (0 : Int)), ()), (r1.2.1, ()))))
def sg45 : Sig := ⟨ins45, res45, f_spec_l1Cur_one⟩
abbrev ins71 : List Pm := [.mptr kdl1Cur .s, .mov (.sl .str) (.o .s)]
abbrev res71 : List (K × Mk) := [(.str, .s)]
def f_spec_l1Cur_of (x : (Dl1Cur × (List ByteArray) × Unit)) : Option ((ByteArray × Unit) × (Dl1Cur × Unit)) :=
 (bnd (f_spec_l1Cur_pick (x.1, ((llen x.2.1), ()))) fun r1 => (getO x.2.1 r1.1.1 fun _ => (bnd (x.2.1[(Int.toNat r1.1.1)]?) fun v3 => (some ((v3, ()), (r1.2.1, ()))))))
def sg71 : Sig := ⟨ins71, res71, f_spec_l1Cur_of⟩
abbrev ins28 : List Pm := [.mptr kdl1Cur .s]
abbrev res28 : List (K × Mk) := [(.str, .s)]
def f_spec_l1Cur_key (x : (Dl1Cur × Unit)) : Option ((ByteArray × Unit) × (Dl1Cur × Unit)) :=
 (bnd (f_spec_l1Cur_one (x.1, ((60 : Int), ()))) fun r1 => (cond r1.1.1
 (bnd (f_spec_l1Cur_of (r1.2.1, ([(⟨#[]⟩ : ByteArray), (⟨#[49, 50, 51, 52, 53, 54, 55, 56, 57, 48, 49, 50, 51, 52, 53, 54, 55]⟩ : ByteArray)], ()))) fun r2 => (some ((r2.1.1, ()), (r2.2.1, ()))))
 (bnd (f_spec_l1Cur_of (r1.2.1, ([(⟨#[97]⟩ : ByteArray), (⟨#[98]⟩ : ByteArray), (⟨#[98, 97]⟩ : ByteArray), (⟨#[99]⟩ : ByteArray), (⟨#[99, 97, 114]⟩ : ByteArray), (⟨#[100]⟩ : ByteArray), (⟨#[101]⟩ : ByteArray)], ()))) fun r3 => (some ((r3.1.1, ()), (r3.2.1, ()))))))
def sg28 : Sig := ⟨ins28, res28, f_spec_l1Cur_key⟩
abbrev ins104 : List Pm := [.mptr kdl1Cur .s, .val (.int .i64)]
abbrev res104 : List (K × Mk) := [(.str, .s)]
abbrev f_spec_l1Cur_text_l3c : Desc := ⟨[(0, .ptr 0 []), (5, .al 5 []), (10, .v (.int .i64))], []⟩
abbrev f_spec_l1Cur_text_l3v : Desc := ⟨[(11, .v (.int .i64))], [(0, ⟨kdl1Cur, .s, true⟩), (5, ⟨(.sl (.int .u8)), (.o .s), false⟩)]⟩
abbrev f_spec_l1Cur_text_l3e : List (Ek × Desc) := [(.exit 0, ⟨[], [(0, ⟨kdl1Cur, .s, true⟩), (5, ⟨(.sl (.int .u8)), (.o .s), false⟩)]⟩)]
def f_spec_l1Cur_text_l3 (R : Type) (c : ((Int × Unit) × Unit)) (v : ((Int × Unit) × (Dl1Cur × (List Int) × Unit))) (kk : ((Int × Unit) × Unit) → (((Int × Unit) × (Dl1Cur × (List Int) × Unit)) ⊕ (Unit × (Dl1Cur × (List Int) × Unit))) → Option R) : Option R :=
 (cond (ilt v.1.1 c.1.1)
 (bnd (f_spec_l1Cur_pick (v.2.1, ((256 : Int), ()))) fun r1 => (getO v.2.2.1 v.1.1 fun _ => (bnd (v.2.2.1[(Int.toNat v.1.1)]?) fun v3 => (kk ((c.1.1, ()), ()) (.inl (((iadd .i64 v.1.1 (1 : Int)), ()), (r1.2.1, ((List.set v.2.2.1 (Int.toNat v.1.1) (IntKind.wrap .u8 r1.1.1)), ()))))))))
 (kk ((c.1.1, ()), ()) (.inr ((), (v.2.1, (v.2.2.1, ()))))))
def f_spec_l1Cur_text (x : (Dl1Cur × Int × Unit)) : Option ((ByteArray × Unit) × (Dl1Cur × Unit)) :=
 (req (decide (x.2.1 = x.2.1) && (decide ((0 : Int) ≤ x.2.1) && decide (x.2.1 ≤ (68719476736 : Int)))) (loopF (c := f_spec_l1Cur_text_l3c) (v := f_spec_l1Cur_text_l3v) (ex := f_spec_l1Cur_text_l3e) f_spec_l1Cur_text_l3 _ (((llen (List.replicate (Int.toNat x.2.1) ((0 : Int) : Int))), ()), ()) (((0 : Int), ()), (x.1, ((List.replicate (Int.toNat x.2.1) ((0 : Int) : Int)), ()))) fun c4 o5 =>
 (some (((strOf o5.2.2.1), ()), (o5.2.1, ())))))
def sg104 : Sig := ⟨ins104, res104, f_spec_l1Cur_text⟩
abbrev ins105 : List Pm := [.mptr kdl1Cur .s, .mov (.sl (.int .i64)) (.o .s)]
abbrev res105 : List (K × Mk) := [((.int .i64), .s)]
def f_spec_l1Cur_among (x : (Dl1Cur × (List Int) × Unit)) : Option ((Int × Unit) × (Dl1Cur × Unit)) :=
 (bnd (f_spec_l1Cur_pick (x.1, ((llen x.2.1), ()))) fun r1 => (getO x.2.1 r1.1.1 fun _ => (bnd (x.2.1[(Int.toNat r1.1.1)]?) fun v3 => (some ((v3, ()), (r1.2.1, ()))))))
def sg105 : Sig := ⟨ins105, res105, f_spec_l1Cur_among⟩
abbrev ins81 : List Pm := [.mptr kdl1Cur .s]
abbrev res81 : List (K × Mk) := [(kdItem, .s)]
abbrev f_spec_l1Cur_item_i3c : Desc := ⟨[(0, .ptr 0 []), (2, .ptr 2 []), (3, .ptr 3 []), (14, .v .bool)], [(0, ⟨kdl1Cur, .s, true⟩), (2, ⟨kdItem, .s, true⟩)]⟩
abbrev f_spec_l1Cur_item_i3v : Desc := ⟨[], [(3, ⟨kdItem, .s, true⟩)]⟩
abbrev f_spec_l1Cur_item_i3e : List (Ek × Desc) := [(.norm, ⟨[], [(3, ⟨kdItem, .s, true⟩)]⟩)]
def f_spec_l1Cur_item_i3 (R : Type) (c : ((Bool × Unit) × (Dl1Cur × DItem × Unit))) (v : (Unit × (DItem × Unit))) (kk : ((Bool × Unit) × (Dl1Cur × DItem × Unit)) → (Unit × (DItem × Unit)) → Option R) : Option R :=
 (cond c.1.1
 (kk ((c.1.1, ()), (c.2.1, (c.2.2.1, ()))) ((), ((v.2.1.1, (v.2.1.2.1, ((0 : Int), ((⟨#[]⟩ : ByteArray), v.2.1.2.2.2.2)))), ())))
 (kk ((c.1.1, ()), (c.2.1, (c.2.2.1, ()))) ((), (v.2.1, ()))))
abbrev f_spec_l1Cur_item_i9c : Desc := ⟨[(0, .ptr 0 []), (2, .ptr 2 []), (3, .ptr 3 []), (25, .v .bool)], [(2, ⟨kdItem, .s, true⟩)]⟩
abbrev f_spec_l1Cur_item_i9v : Desc := ⟨[], [(0, ⟨kdl1Cur, .s, true⟩), (3, ⟨kdItem, .s, true⟩)]⟩
abbrev f_spec_l1Cur_item_i9e : List (Ek × Desc) := [(.norm, ⟨[], [(0, ⟨kdl1Cur, .s, true⟩), (3, ⟨kdItem, .s, true⟩)]⟩)]
def f_spec_l1Cur_item_i9 (R : Type) (c : ((Bool × Unit) × (DItem × Unit))) (v : (Unit × (Dl1Cur × DItem × Unit))) (kk : ((Bool × Unit) × (DItem × Unit)) → (Unit × (Dl1Cur × DItem × Unit)) → Option R) : Option R :=
 (cond c.1.1
 (bnd (f_spec_l1Cur_pick (v.2.1, ((2 : Int), ()))) fun r10 => (req (decide ((iadd .i64 (40 : Int) r10.1.1) = (iadd .i64 (40 : Int) r10.1.1)) && (decide ((0 : Int) ≤ (iadd .i64 (40 : Int) r10.1.1)) && decide ((iadd .i64 (40 : Int) r10.1.1) ≤ (68719476736 : Int)))) (kk ((c.1.1, ()), (c.2.1, ())) ((), (r10.2.1, ((v.2.2.1.1, (v.2.2.1.2.1, (v.2.2.1.2.2.1, ((strOf (List.replicate (Int.toNat (iadd .i64 (40 : Int) r10.1.1)) ((0 : Int) : Int))), v.2.2.1.2.2.2.2)))), ()))))))
 (kk ((c.1.1, ()), (c.2.1, ())) ((), (v.2.1, (v.2.2.1, ())))))
abbrev f_spec_l1Cur_item_i7c : Desc := ⟨[(0, .ptr 0 []), (2, .ptr 2 []), (3, .ptr 3 [])], []⟩
abbrev f_spec_l1Cur_item_i7v : Desc := ⟨[(18, .v (.int .i64)), (19, .v .bool)], [(0, ⟨kdl1Cur, .s, true⟩), (2, ⟨kdItem, .s, true⟩), (3, ⟨kdItem, .s, true⟩)]⟩
abbrev f_spec_l1Cur_item_i7e : List (Ek × Desc) := [(.norm, ⟨[], [(0, ⟨kdl1Cur, .s, true⟩), (2, ⟨kdItem, .s, true⟩), (3, ⟨kdItem, .s, true⟩)]⟩)]
def f_spec_l1Cur_item_i7 (R : Type) (c : (Unit × Unit)) (v : ((Int × Bool × Unit) × (Dl1Cur × DItem × DItem × Unit))) (kk : (Unit × Unit) → (Unit × (Dl1Cur × DItem × DItem × Unit)) → Option R) : Option R :=
 (cond v.1.2.1
 (bnd (f_spec_l1Cur_among (v.2.1, ([(-1 : Int), (1000000000 : Int), (1000000001 : Int)], ()))) fun r9 => (kk ((), ()) ((), (r9.2.1, (v.2.2.1, ((v.2.2.2.1.1, (r9.1.1, v.2.2.2.1.2.2)), ()))))))
 (f_spec_l1Cur_item_i9 _ (((ieq v.1.1 (1 : Int)), ()), (v.2.2.1, ())) ((), (v.2.1, (v.2.2.2.1, ()))) fun c10 o11 =>
 (kk ((), ()) ((), (o11.2.1, (c10.2.1, (o11.2.2.1, ())))))))
def f_spec_l1Cur_item (x : (Dl1Cur × Unit)) : Option ((DItem × Unit) × (Dl1Cur × Unit)) :=
 (bnd (f_spec_l1Cur_key (x.1, ())) fun r1 => (bnd (f_spec_l1Cur_pick (r1.2.1, ((20 : Int), ()))) fun r2 => (bnd (f_spec_l1Cur_pick (r2.2.1, ((5 : Int), ()))) fun r3 => (bnd (f_spec_l1Cur_text (r3.2.1, (r3.1.1, ()))) fun r4 => (bnd (f_spec_l1Cur_one (r4.2.1, ((4 : Int), ()))) fun r5 => (f_spec_l1Cur_item_i3 _ ((r5.1.1, ()), (r5.2.1, (((⟨#[]⟩ : ByteArray), ((0 : Int), ((0 : Int), ((⟨#[]⟩ : ByteArray), ())))), ()))) ((), ((r1.1.1, (r2.1.1, ((1 : Int), (r4.1.1, ())))), ())) fun c6 o7 =>
 (bnd (f_spec_l1Cur_pick (c6.2.1, ((60 : Int), ()))) fun r8 => (f_spec_l1Cur_item_i7 _ ((), ()) ((r8.1.1, ((ieq r8.1.1 (0 : Int)), ())), (r8.2.1, (c6.2.2.1, (o7.2.1, ())))) fun c12 o13 =>
 (some ((o13.2.2.2.1, ()), (o13.2.1, ())))))))))))
def sg81 : Sig := ⟨ins81, res81, f_spec_l1Cur_item⟩
abbrev ins58 : List Pm := [.val (.int .i64), .val (.int .i64), .val (.int .i64)]
abbrev res58 : List (K × Mk) := [(.bool, .s)]
def f_spec_l1In (x : (Int × Int × Int × Unit)) : Option ((Bool × Unit) × Unit) :=
 (cond (ile x.2.1 x.1)
 (some (((ile x.1 x.2.2.1), ()), ()))
 (some ((false, ()), ())))
def sg58 : Sig := ⟨ins58, res58, f_spec_l1In⟩
abbrev ins33 : List Pm := [.val .str]
abbrev res33 : List (K × Mk) := [(.bool, .s)]
def f_spec_l4Key (x : (ByteArray × Unit)) : Option ((Bool × Unit) × Unit) :=
 (bnd (f_spec_l1In ((slen x.1), ((1 : Int), ((16 : Int), ())))) fun r1 => (some ((r1.1.1, ()), ())))
def sg33 : Sig := ⟨ins33, res33, f_spec_l4Key⟩
abbrev ins34 : List Pm := [.val (.int .i64)]
abbrev res34 : List (K × Mk) := [(.bool, .s)]
def f_spec_l4Seq (x : (Int × Unit)) : Option ((Bool × Unit) × Unit) :=
 (bnd (f_spec_l1In (x.1, ((0 : Int), ((1000000000 : Int), ())))) fun r1 => (some ((r1.1.1, ()), ())))
def sg34 : Sig := ⟨ins34, res34, f_spec_l4Seq⟩
abbrev ins73 : List Pm := [.val kdItem]
abbrev res73 : List (K × Mk) := [(.bool, .s)]
def f_spec_GoodItem (x : (DItem × Unit)) : Option ((Bool × Unit) × Unit) :=
 (bnd (f_spec_l4Key (x.1.1, ())) fun r1 => (cond r1.1.1
 (bnd (f_spec_l4Seq (x.1.2.1, ())) fun r2 => (cond r2.1.1
 (bnd (f_spec_l1In (x.1.2.2.1, ((0 : Int), ((1 : Int), ())))) fun r3 => (cond r3.1.1
 (cond (ile (slen x.1.2.2.2.1) (40 : Int))
 (cond (ieq x.1.2.2.1 (1 : Int))
 (some ((true, ()), ()))
 (some (((seq x.1.2.2.2.1 (⟨#[]⟩ : ByteArray)), ()), ())))
 (some ((false, ()), ())))
 (some ((false, ()), ()))))
 (some ((false, ()), ()))))
 (some ((false, ()), ()))))
def sg73 : Sig := ⟨ins73, res73, f_spec_GoodItem⟩
abbrev ins74 : List Pm := [.val kdItem, .val kdItem]
abbrev res74 : List (K × Mk) := [((.int .i64), .s)]
def f_spec_l4Compare (x : (DItem × DItem × Unit)) : Option ((Int × Unit) × Unit) :=
 (cond (slt x.1.1 x.2.1.1)
 (some (((-1 : Int), ()), ()))
 (cond (seq x.1.1 x.2.1.1)
 (cond (ilt x.2.1.2.1 x.1.2.1)
 (some (((-1 : Int), ()), ()))
 (cond (seq x.1.1 x.2.1.1)
 (cond (ieq x.1.2.1 x.2.1.2.1)
 (some (((0 : Int), ()), ()))
 (some (((1 : Int), ()), ())))
 (some (((1 : Int), ()), ()))))
 (cond (seq x.1.1 x.2.1.1)
 (cond (ieq x.1.2.1 x.2.1.2.1)
 (some (((0 : Int), ()), ()))
 (some (((1 : Int), ()), ())))
 (some (((1 : Int), ()), ())))))
def sg74 : Sig := ⟨ins74, res74, f_spec_l4Compare⟩
abbrev ins35 : List Pm := [.val (.sl kdItem), .val kdItem]
abbrev res35 : List (K × Mk) := [((.int .i64), .s)]
abbrev f_spec_l6Seek_i6c : Desc := ⟨[(0, .v (.sl kdItem)), (3, .ptr 3 []), (7, .v (.int .i64)), (23, .v .bool)], [(3, ⟨kdItem, .s, true⟩)]⟩
abbrev f_spec_l6Seek_i6v : Desc := ⟨[(5, .v (.int .i64)), (6, .v (.int .i64))], []⟩
abbrev f_spec_l6Seek_i6e : List (Ek × Desc) := [(.norm, ⟨[(5, .v (.int .i64)), (6, .v (.int .i64))], []⟩)]
def f_spec_l6Seek_i6 (R : Type) (c : (((List DItem) × Int × Bool × Unit) × (DItem × Unit))) (v : ((Int × Int × Unit) × Unit)) (kk : (((List DItem) × Int × Bool × Unit) × (DItem × Unit)) → ((Int × Int × Unit) × Unit) → Option R) : Option R :=
 (cond c.1.2.2.1
 (kk ((c.1.1, (c.1.2.1, (c.1.2.2.1, ()))), (c.2.1, ())) (((iadd .i64 c.1.2.1 (1 : Int)), (v.1.2.1, ())), ()))
 (kk ((c.1.1, (c.1.2.1, (c.1.2.2.1, ()))), (c.2.1, ())) ((v.1.1, (c.1.2.1, ())), ())))
abbrev f_spec_l6Seek_l3c : Desc := ⟨[(3, .ptr 3 [])], []⟩
abbrev f_spec_l6Seek_l3v : Desc := ⟨[(0, .v (.sl kdItem)), (5, .v (.int .i64)), (6, .v (.int .i64))], [(3, ⟨kdItem, .s, true⟩)]⟩
abbrev f_spec_l6Seek_l3e : List (Ek × Desc) := [(.exit 0, ⟨[(5, .v (.int .i64))], [(3, ⟨kdItem, .s, true⟩)]⟩)]
def f_spec_l6Seek_l3 (R : Type) (c : (Unit × Unit)) (v : (((List DItem) × Int × Int × Unit) × (DItem × Unit))) (kk : (Unit × Unit) → ((((List DItem) × Int × Int × Unit) × (DItem × Unit)) ⊕ ((Int × Unit) × (DItem × Unit))) → Option R) : Option R :=
 (cond (ilt v.1.2.1 v.1.2.2.1)
 (getO v.1.1 (iquo .i64 (iadd .i64 v.1.2.1 v.1.2.2.1) (2 : Int)) fun v1 => (bnd (f_spec_l4Compare (v1, (v.2.1, ()))) fun r2 => (f_spec_l6Seek_i6 _ ((v.1.1, ((iquo .i64 (iadd .i64 v.1.2.1 v.1.2.2.1) (2 : Int)), ((ilt r2.1.1 (0 : Int)), ()))), (v.2.1, ())) ((v.1.2.1, (v.1.2.2.1, ())), ()) fun c3 o4 =>
 (kk ((), ()) (.inl ((c3.1.1, (o4.1.1, (o4.1.2.1, ()))), (c3.2.1, ())))))))
 (kk ((), ()) (.inr ((v.1.2.1, ()), (v.2.1, ())))))
def f_spec_l6Seek (x : ((List DItem) × DItem × Unit)) : Option ((Int × Unit) × Unit) :=
 (loopF (c := f_spec_l6Seek_l3c) (v := f_spec_l6Seek_l3v) (ex := f_spec_l6Seek_l3e) f_spec_l6Seek_l3 _ ((), ()) ((x.1, ((0 : Int), ((llen x.1), ()))), (x.2.1, ())) fun c5 o6 =>
 (some ((o6.1.1, ()), ())))
def sg35 : Sig := ⟨ins35, res35, f_spec_l6Seek⟩
abbrev ins82 : List Pm := [.mov (.sl kdItem) (.o .s), .val kdItem]
abbrev res82 : List (K × Mk) := [((.sl kdItem), (.o .s))]
def f_spec_l6Put (x : ((List DItem) × DItem × Unit)) : Option (((List DItem) × Unit) × Unit) :=
 (bnd (f_spec_l6Seek (x.1, (x.2.1, ()))) fun r1 => (cond (ilt r1.1.1 (llen x.1))
 (getO x.1 r1.1.1 fun _ => (bnd (x.1[(Int.toNat r1.1.1)]?) fun v3 => (bnd (f_spec_l4Compare (v3, (x.2.1, ()))) fun r4 => (cond (ieq r4.1.1 (0 : Int))
 (some ((x.1, ()), ()))
 (req (decide ((0 : Int) ≤ r1.1.1) && decide (r1.1.1 ≤ ((List.length x.1) : Int))) (req (decide (List.length ([] : List DItem) + List.length (List.take ((Int.toNat r1.1.1) - (0 : Nat)) (List.drop (0 : Nat) x.1)) ≤ 17179869184)) (req (decide (List.length (([] : List DItem) ++ (List.take ((Int.toNat r1.1.1) - (0 : Nat)) (List.drop (0 : Nat) x.1))) + List.length [x.2.1] ≤ 17179869184)) (req (decide ((0 : Int) ≤ r1.1.1) && decide (r1.1.1 ≤ ((List.length x.1) : Int))) (req (decide (List.length ((([] : List DItem) ++ (List.take ((Int.toNat r1.1.1) - (0 : Nat)) (List.drop (0 : Nat) x.1))) ++ [x.2.1]) + List.length (List.take ((List.length x.1) - (Int.toNat r1.1.1)) (List.drop (Int.toNat r1.1.1) x.1)) ≤ 17179869184)) (some (((((([] : List DItem) ++ (List.take ((Int.toNat r1.1.1) - (0 : Nat)) (List.drop (0 : Nat) x.1))) ++ [x.2.1]) ++ (List.take ((List.length x.1) - (Int.toNat r1.1.1)) (List.drop (Int.toNat r1.1.1) x.1))), ()), ())))))))))))
 (req (decide ((0 : Int) ≤ r1.1.1) && decide (r1.1.1 ≤ ((List.length x.1) : Int))) (req (decide (List.length ([] : List DItem) + List.length (List.take ((Int.toNat r1.1.1) - (0 : Nat)) (List.drop (0 : Nat) x.1)) ≤ 17179869184)) (req (decide (List.length (([] : List DItem) ++ (List.take ((Int.toNat r1.1.1) - (0 : Nat)) (List.drop (0 : Nat) x.1))) + List.length [x.2.1] ≤ 17179869184)) (req (decide ((0 : Int) ≤ r1.1.1) && decide (r1.1.1 ≤ ((List.length x.1) : Int))) (req (decide (List.length ((([] : List DItem) ++ (List.take ((Int.toNat r1.1.1) - (0 : Nat)) (List.drop (0 : Nat) x.1))) ++ [x.2.1]) + List.length (List.take ((List.length x.1) - (Int.toNat r1.1.1)) (List.drop (Int.toNat r1.1.1) x.1)) ≤ 17179869184)) (some (((((([] : List DItem) ++ (List.take ((Int.toNat r1.1.1) - (0 : Nat)) (List.drop (0 : Nat) x.1))) ++ [x.2.1]) ++ (List.take ((List.length x.1) - (Int.toNat r1.1.1)) (List.drop (Int.toNat r1.1.1) x.1))), ()), ())))))))))
def sg82 : Sig := ⟨ins82, res82, f_spec_l6Put⟩
abbrev ins46 : List Pm := [.mptr kdl1Cur .s, .val (.int .i64)]
abbrev res46 : List (K × Mk) := [((.sl kdItem), (.o .s))]
abbrev f_spec_l1Cur_run_i6c : Desc := ⟨[(0, .ptr 0 []), (1, .v (.int .i64)), (5, .al 5 []), (6, .ptr 6 []), (14, .v .bool)], [(0, ⟨kdl1Cur, .s, true⟩), (6, ⟨kdItem, .s, true⟩)]⟩
abbrev f_spec_l1Cur_run_i6v : Desc := ⟨[], [(5, ⟨(.sl kdItem), (.o .s), false⟩)]⟩
abbrev f_spec_l1Cur_run_i6e : List (Ek × Desc) := [(.norm, ⟨[], [(5, ⟨(.sl kdItem), (.o .s), false⟩)]⟩)]
def f_spec_l1Cur_run_i6 (R : Type) (c : ((Int × Bool × Unit) × (Dl1Cur × DItem × Unit))) (v : (Unit × ((List DItem) × Unit))) (kk : ((Int × Bool × Unit) × (Dl1Cur × DItem × Unit)) → (Unit × ((List DItem) × Unit)) → Option R) : Option R :=
 (cond c.1.2.1
 (bnd (f_spec_l6Put (v.2.1, (c.2.2.1, ()))) fun r3 => (kk ((c.1.1, (c.1.2.1, ())), (c.2.1, (c.2.2.1, ()))) ((), (r3.1.1, ()))))
 (kk ((c.1.1, (c.1.2.1, ())), (c.2.1, (c.2.2.1, ()))) ((), (v.2.1, ()))))
abbrev f_spec_l1Cur_run_l2c : Desc := ⟨[(0, .ptr 0 []), (5, .al 5 [])], []⟩
abbrev f_spec_l1Cur_run_l2v : Desc := ⟨[(1, .v (.int .i64))], [(0, ⟨kdl1Cur, .s, true⟩), (5, ⟨(.sl kdItem), (.o .s), false⟩)]⟩
abbrev f_spec_l1Cur_run_l2e : List (Ek × Desc) := [(.exit 0, ⟨[], [(0, ⟨kdl1Cur, .s, true⟩), (5, ⟨(.sl kdItem), (.o .s), false⟩)]⟩)]
def f_spec_l1Cur_run_l2 (R : Type) (c : (Unit × Unit)) (v : ((Int × Unit) × (Dl1Cur × (List DItem) × Unit))) (kk : (Unit × Unit) → (((Int × Unit) × (Dl1Cur × (List DItem) × Unit)) ⊕ (Unit × (Dl1Cur × (List DItem) × Unit))) → Option R) : Option R :=
 (cond (ilt (0 : Int) v.1.1)
 (bnd (f_spec_l1Cur_item (v.2.1, ())) fun r1 => (bnd (f_spec_GoodItem (r1.1.1, ())) fun r2 => (f_spec_l1Cur_run_i6 _ ((v.1.1, (r2.1.1, ())), (r1.2.1, (r1.1.1, ()))) ((), (v.2.2.1, ())) fun c3 o4 =>
 (kk ((), ()) (.inl (((isub .i64 c3.1.1 (1 : Int)), ()), (c3.2.1, (o4.2.1, ()))))))))
 (kk ((), ()) (.inr ((), (v.2.1, (v.2.2.1, ()))))))
def f_spec_l1Cur_run (x : (Dl1Cur × Int × Unit)) : Option (((List DItem) × Unit) × (Dl1Cur × Unit)) :=
 (loopF (c := f_spec_l1Cur_run_l2c) (v := f_spec_l1Cur_run_l2v) (ex := f_spec_l1Cur_run_l2e) f_spec_l1Cur_run_l2 _ ((), ()) ((x.2.1, ()), (x.1, (([] : List DItem), ()))) fun c5 o6 =>
 (some ((o6.2.2.1, ()), (o6.2.1, ()))))
def sg46 : Sig := ⟨ins46, res46, f_spec_l1Cur_run⟩
abbrev ins19 : List Pm := [.mptr kdl1Cur .s]
abbrev res19 : List (K × Mk) := [((.sl kdItem), (.o .s))]
abbrev f_spec_l1Cur_tableRun_i3c : Desc := ⟨[(0, .ptr 0 []), (9, .v .bool)], [(0, ⟨kdl1Cur, .s, true⟩)]⟩
abbrev f_spec_l1Cur_tableRun_i3v : Desc := ⟨[(3, .v (.int .i64))], []⟩
abbrev f_spec_l1Cur_tableRun_i3e : List (Ek × Desc) := [(.norm, ⟨[(3, .v (.int .i64))], []⟩)]
def f_spec_l1Cur_tableRun_i3 (R : Type) (c : ((Bool × Unit) × (Dl1Cur × Unit))) (v : ((Int × Unit) × Unit)) (kk : ((Bool × Unit) × (Dl1Cur × Unit)) → ((Int × Unit) × Unit) → Option R) : Option R :=
 (cond c.1.1
 (kk ((c.1.1, ()), (c.2.1, ())) (((60 : Int), ()), ()))
 (kk ((c.1.1, ()), (c.2.1, ())) ((v.1.1, ()), ())))
abbrev f_spec_l1Cur_tableRun_i6c : Desc := ⟨[(0, .ptr 0 []), (4, .al 4 []), (15, .v .bool)], [(0, ⟨kdl1Cur, .s, true⟩)]⟩
abbrev f_spec_l1Cur_tableRun_i6v : Desc := ⟨[], [(4, ⟨(.sl kdItem), (.o .s), false⟩)]⟩
abbrev f_spec_l1Cur_tableRun_i6e : List (Ek × Desc) := [(.norm, ⟨[], [(4, ⟨(.sl kdItem), (.o .s), false⟩)]⟩)]
def f_spec_l1Cur_tableRun_i6 (R : Type) (c : ((Bool × Unit) × (Dl1Cur × Unit))) (v : (Unit × ((List DItem) × Unit))) (kk : ((Bool × Unit) × (Dl1Cur × Unit)) → (Unit × ((List DItem) × Unit)) → Option R) : Option R :=
 (cond c.1.1
 (kk ((c.1.1, ()), (c.2.1, ())) ((), ([((⟨#[97]⟩ : ByteArray), ((0 : Int), ((1 : Int), ((⟨#[]⟩ : ByteArray), ()))))], ())))
 (kk ((c.1.1, ()), (c.2.1, ())) ((), (v.2.1, ()))))
def f_spec_l1Cur_tableRun (x : (Dl1Cur × Unit)) : Option (((List DItem) × Unit) × (Dl1Cur × Unit)) :=
 (bnd (f_spec_l1Cur_pick (x.1, ((14 : Int), ()))) fun r1 => (bnd (f_spec_l1Cur_one (r1.2.1, ((12 : Int), ()))) fun r2 => (f_spec_l1Cur_tableRun_i3 _ ((r2.1.1, ()), (r2.2.1, ())) (((iadd .i64 (1 : Int) r1.1.1), ()), ()) fun c3 o4 =>
 (bnd (f_spec_l1Cur_run (c3.2.1, (o4.1.1, ()))) fun r5 => (f_spec_l1Cur_tableRun_i6 _ (((ieq (llen r5.1.1) (0 : Int)), ()), (r5.2.1, ())) ((), (r5.1.1, ())) fun c6 o7 =>
 (some ((o7.2.1, ()), (c6.2.1, ()))))))))
def sg19 : Sig := ⟨ins19, res19, f_spec_l1Cur_tableRun⟩
abbrev ins5 : List Pm := [.val (.sl (.int .u8))]
abbrev res5 : List (K × Mk) := [((.sl kdItem), (.o .s))]
abbrev f_spec_DrawTableBytes_i7c : Desc := ⟨[(4, .al 4 []), (14, .v .bool)], []⟩
abbrev f_spec_DrawTableBytes_i7v : Desc := ⟨[], [(4, ⟨(.sl kdItem), (.o .s), false⟩)]⟩
abbrev f_spec_DrawTableBytes_i7e : List (Ek × Desc) := [(.norm, ⟨[], [(4, ⟨(.sl kdItem), (.o .s), false⟩)]⟩)]
def f_spec_DrawTableBytes_i7 (R : Type) (c : ((Bool × Unit) × Unit)) (v : (Unit × ((List DItem) × Unit))) (kk : ((Bool × Unit) × Unit) → (Unit × ((List DItem) × Unit)) → Option R) : Option R :=
 (cond c.1.1
 (getO v.2.1 (0 : Int) fun _ => (bnd (v.2.1[(Int.toNat (0 : Int))]?) fun v4 => (req (decide (List.length v.2.1 + List.length [v4] ≤ 17179869184)) (kk ((c.1.1, ()), ()) ((), ((v.2.1 ++ [v4]), ()))))))
 (kk ((c.1.1, ()), ()) ((), (v.2.1, ()))))
abbrev f_spec_DrawTableBytes_i5c : Desc := ⟨[(4, .al 4 [])], []⟩
abbrev f_spec_DrawTableBytes_i5v : Desc := ⟨[(11, .v (.int .i64)), (12, .v .bool)], [(4, ⟨(.sl kdItem), (.o .s), false⟩)]⟩
abbrev f_spec_DrawTableBytes_i5e : List (Ek × Desc) := [(.norm, ⟨[], [(4, ⟨(.sl kdItem), (.o .s), false⟩)]⟩)]
def f_spec_DrawTableBytes_i5 (R : Type) (c : (Unit × Unit)) (v : ((Int × Bool × Unit) × ((List DItem) × Unit))) (kk : (Unit × Unit) → (Unit × ((List DItem) × Unit)) → Option R) : Option R :=
 (cond v.1.2.1
 (kk ((), ()) ((), (([] : List DItem), ())))
 (f_spec_DrawTableBytes_i7 _ (((ieq v.1.1 (1 : Int)), ()), ()) ((), (v.2.1, ())) fun c3 o4 =>
 (kk ((), ()) ((), (o4.2.1, ())))))
def f_spec_DrawTableBytes (x : ((List Int) × Unit)) : Option (((List DItem) × Unit) × Unit) :=
 (bnd (f_spec_l1Cur_tableRun ((x.1, ((0 : Int), ((0 : Int), ()))), ())) fun r1 => (bnd (f_spec_l1Cur_pick (r1.2.1, ((30 : Int), ()))) fun r2 => (f_spec_DrawTableBytes_i5 _ ((), ()) ((r2.1.1, ((ieq r2.1.1 (0 : Int)), ())), (r1.1.1, ())) fun c5 o6 =>
 (some ((o6.2.1, ()), ())))))
def sg5 : Sig := ⟨ins5, res5, f_spec_DrawTableBytes⟩
abbrev ins21 : List Pm := [.val (.int .i64), .val (.int .i64), .val (.int .i64)]
abbrev res21 : List (K × Mk) := [(.bool, .s)]
def f_impl_in (x : (Int × Int × Int × Unit)) : Option ((Bool × Unit) × Unit) :=
 (cond (ile x.2.1 x.1)
 (some (((ile x.1 x.2.2.1), ()), ()))
 (some ((false, ()), ())))
def sg21 : Sig := ⟨ins21, res21, f_impl_in⟩
abbrev ins29 : List Pm := [.val .str]
abbrev res29 : List (K × Mk) := [(.bool, .s)]
def f_impl_isKey (x : (ByteArray × Unit)) : Option ((Bool × Unit) × Unit) :=
 (bnd (f_impl_in ((slen x.1), ((1 : Int), ((16 : Int), ())))) fun r1 => (some ((r1.1.1, ()), ())))
def sg29 : Sig := ⟨ins29, res29, f_impl_isKey⟩
abbrev ins30 : List Pm := [.val (.int .i64)]
abbrev res30 : List (K × Mk) := [(.bool, .s)]
def f_impl_isSeq (x : (Int × Unit)) : Option ((Bool × Unit) × Unit) :=
 (bnd (f_impl_in (x.1, ((0 : Int), ((1000000000 : Int), ())))) fun r1 => (some ((r1.1.1, ()), ())))
def sg30 : Sig := ⟨ins30, res30, f_impl_isSeq⟩
abbrev ins83 : List Pm := [.val .str]
abbrev res83 : List (K × Mk) := [(.bool, .s)]
def f_impl_isValue (x : (ByteArray × Unit)) : Option ((Bool × Unit) × Unit) :=
 (some (((ile (slen x.1) (40 : Int)), ()), ()))
def sg83 : Sig := ⟨ins83, res83, f_impl_isValue⟩
abbrev ins48 : List Pm := [.val kdItem]
abbrev res48 : List (K × Mk) := [(.bool, .s)]
def f_impl_GoodItem (x : (DItem × Unit)) : Option ((Bool × Unit) × Unit) :=
 (bnd (f_impl_isKey (x.1.1, ())) fun r1 => (cond r1.1.1
 (bnd (f_impl_isSeq (x.1.2.1, ())) fun r2 => (cond r2.1.1
 (bnd (f_impl_in (x.1.2.2.1, ((0 : Int), ((1 : Int), ())))) fun r3 => (cond r3.1.1
 (bnd (f_impl_isValue (x.1.2.2.2.1, ())) fun r4 => (cond r4.1.1
 (cond (ieq x.1.2.2.1 (1 : Int))
 (some ((true, ()), ()))
 (some (((seq x.1.2.2.2.1 (⟨#[]⟩ : ByteArray)), ()), ())))
 (some ((false, ()), ()))))
 (some ((false, ()), ()))))
 (some ((false, ()), ()))))
 (some ((false, ()), ()))))
def sg48 : Sig := ⟨ins48, res48, f_impl_GoodItem⟩
abbrev ins106 : List Pm := [.val .str]
abbrev res106 : List (K × Mk) := [(.bool, .s)]
def f_cmp_isNaN_string (x : (ByteArray × Unit)) : Option ((Bool × Unit) × Unit) :=
 (some (((!seq x.1 x.1), ()), ()))
def sg106 : Sig := ⟨ins106, res106, f_cmp_isNaN_string⟩
abbrev ins85 : List Pm := [.val .str, .val .str]
abbrev res85 : List (K × Mk) := [((.int .i64), .s)]
def f_cmp_Compare_string (x : (ByteArray × ByteArray × Unit)) : Option ((Int × Unit) × Unit) :=
 (bnd (f_cmp_isNaN_string (x.1, ())) fun r1 => (bnd (f_cmp_isNaN_string (x.2.1, ())) fun r2 => (cond r1.1.1
 (cond r2.1.1
 (some (((0 : Int), ()), ()))
 (some (((-1 : Int), ()), ())))
 (cond r2.1.1
 (some (((1 : Int), ()), ()))
 (cond (slt x.1 x.2.1)
 (some (((-1 : Int), ()), ()))
 (cond (!(slt x.1 x.2.1 || seq x.1 x.2.1))
 (some (((1 : Int), ()), ()))
 (some (((0 : Int), ()), ()))))))))
def sg85 : Sig := ⟨ins85, res85, f_cmp_Compare_string⟩
abbrev ins107 : List Pm := [.val (.int .i64)]
abbrev res107 : List (K × Mk) := [(.bool, .s)]
def f_cmp_isNaN_int (x : (Int × Unit)) : Option ((Bool × Unit) × Unit) :=
 (some (((!ieq x.1 x.1), ()), ()))
def sg107 : Sig := ⟨ins107, res107, f_cmp_isNaN_int⟩
abbrev ins86 : List Pm := [.val (.int .i64), .val (.int .i64)]
abbrev res86 : List (K × Mk) := [((.int .i64), .s)]
def f_cmp_Compare_int (x : (Int × Int × Unit)) : Option ((Int × Unit) × Unit) :=
 (bnd (f_cmp_isNaN_int (x.1, ())) fun r1 => (bnd (f_cmp_isNaN_int (x.2.1, ())) fun r2 => (cond r1.1.1
 (cond r2.1.1
 (some (((0 : Int), ()), ()))
 (some (((-1 : Int), ()), ())))
 (cond r2.1.1
 (some (((1 : Int), ()), ()))
 (cond (ilt x.1 x.2.1)
 (some (((-1 : Int), ()), ()))
 (cond (ilt x.2.1 x.1)
 (some (((1 : Int), ()), ()))
 (some (((0 : Int), ()), ()))))))))
def sg86 : Sig := ⟨ins86, res86, f_cmp_Compare_int⟩
abbrev ins84 : List Pm := [.val (.sl (.int .i64))]
abbrev res84 : List (K × Mk) := [((.int .i64), .s)]
abbrev f_cmp_Or_int_l3c : Desc := ⟨[(3, .v (.int .i64)), (6, .v (.sl (.int .i64))), (7, .v (.int .i64))], []⟩
abbrev f_cmp_Or_int_l3v : Desc := ⟨[(8, .v (.int .i64))], []⟩
abbrev f_cmp_Or_int_l3e : List (Ek × Desc) := [(.ret, ⟨[(2, .v (.int .i64))], []⟩), (.exit 0, ⟨[], []⟩)]
def f_cmp_Or_int_l3 (R : Type) (c : ((Int × (List Int) × Int × Unit) × Unit)) (v : ((Int × Unit) × Unit)) (kk : ((Int × (List Int) × Int × Unit) × Unit) → (((Int × Unit) × Unit) ⊕ (((Int × Unit) × Unit) ⊕ (Unit × Unit))) → Option R) : Option R :=
 (cond (ilt v.1.1 c.1.2.2.1)
 (getO c.1.2.1 v.1.1 fun v1 => (cond (!ieq v1 c.1.1)
 (kk ((c.1.1, (c.1.2.1, (c.1.2.2.1, ()))), ()) (.inr (.inl ((v1, ()), ()))))
 (kk ((c.1.1, (c.1.2.1, (c.1.2.2.1, ()))), ()) (.inl (((iadd .i64 v.1.1 (1 : Int)), ()), ())))))
 (kk ((c.1.1, (c.1.2.1, (c.1.2.2.1, ()))), ()) (.inr (.inr ((), ())))))
def f_cmp_Or_int (x : ((List Int) × Unit)) : Option ((Int × Unit) × Unit) :=
 (loopF (c := f_cmp_Or_int_l3c) (v := f_cmp_Or_int_l3v) (ex := f_cmp_Or_int_l3e) f_cmp_Or_int_l3 _ (((0 : Int), (x.1, ((llen x.1), ()))), ()) (((0 : Int), ()), ()) fun c2 o3 =>
 (match o3 with
 | .inl y4 => (some ((y4.1.1, ()), ()))
 | .inr z5 => (some ((c2.1.1, ()), ()))))
def sg84 : Sig := ⟨ins84, res84, f_cmp_Or_int⟩
abbrev ins49 : List Pm := [.val kdItem, .val kdItem]
abbrev res49 : List (K × Mk) := [((.int .i64), .s)]
def f_impl_itemOrder (x : (DItem × DItem × Unit)) : Option ((Int × Unit) × Unit) :=
 (bnd (f_cmp_Compare_string (x.1.1, (x.2.1.1, ()))) fun r1 => (bnd (f_cmp_Compare_int (x.2.1.2.1, (x.1.2.1, ()))) fun r2 => (bnd (f_cmp_Or_int ([r1.1.1, r2.1.1], ())) fun r3 => (some ((r3.1.1, ()), ())))))
def sg49 : Sig := ⟨ins49, res49, f_impl_itemOrder⟩
abbrev ins22 : List Pm := [.val (.sl kdItem)]
abbrev res22 : List (K × Mk) := [(.bool, .s)]
abbrev f_impl_GoodRun_l2c : Desc := ⟨[(0, .v (.sl kdItem)), (5, .v (.sl kdItem)), (6, .v (.int .i64))], []⟩
abbrev f_impl_GoodRun_l2v : Desc := ⟨[(7, .v (.int .i64))], []⟩
abbrev f_impl_GoodRun_l2e : List (Ek × Desc) := [(.ret, ⟨[(2, .v .bool)], []⟩), (.exit 0, ⟨[], []⟩)]
def f_impl_GoodRun_l2 (R : Type) (c : (((List DItem) × (List DItem) × Int × Unit) × Unit)) (v : ((Int × Unit) × Unit)) (kk : (((List DItem) × (List DItem) × Int × Unit) × Unit) → (((Int × Unit) × Unit) ⊕ (((Bool × Unit) × Unit) ⊕ (Unit × Unit))) → Option R) : Option R :=
 (cond (ilt v.1.1 c.1.2.2.1)
 (getO c.1.2.1 v.1.1 fun v1 => (bnd (f_impl_GoodItem (v1, ())) fun r2 => (cond (!r2.1.1)
 (kk ((c.1.1, (c.1.2.1, (c.1.2.2.1, ()))), ()) (.inr (.inl ((false, ()), ()))))
 (cond (ilt (0 : Int) v.1.1)
 (getO c.1.1 (isub .i64 v.1.1 (1 : Int)) fun v3 => (bnd (f_impl_itemOrder (v3, (v1, ()))) fun r4 => (cond (ile (0 : Int) r4.1.1)
 (kk ((c.1.1, (c.1.2.1, (c.1.2.2.1, ()))), ()) (.inr (.inl ((false, ()), ()))))
 (kk ((c.1.1, (c.1.2.1, (c.1.2.2.1, ()))), ()) (.inl (((iadd .i64 v.1.1 (1 : Int)), ()), ()))))))
 (kk ((c.1.1, (c.1.2.1, (c.1.2.2.1, ()))), ()) (.inl (((iadd .i64 v.1.1 (1 : Int)), ()), ())))))))
 (kk ((c.1.1, (c.1.2.1, (c.1.2.2.1, ()))), ()) (.inr (.inr ((), ())))))
def f_impl_GoodRun (x : ((List DItem) × Unit)) : Option ((Bool × Unit) × Unit) :=
 (loopF (c := f_impl_GoodRun_l2c) (v := f_impl_GoodRun_l2v) (ex := f_impl_GoodRun_l2e) f_impl_GoodRun_l2 _ ((x.1, (x.1, ((llen x.1), ()))), ()) (((0 : Int), ()), ()) fun c5 o6 =>
 (match o6 with
 | .inl y7 => (some ((y7.1.1, ()), ()))
 | .inr z8 => (some ((true, ()), ()))))
def sg22 : Sig := ⟨ins22, res22, f_impl_GoodRun⟩
abbrev ins87 : List Pm := [.val .str, .val .str]
abbrev res87 : List (K × Mk) := [((.int .i64), .s)]
abbrev f_impl_CommonOf_l2c : Desc := ⟨[(0, .v .str), (1, .v .str)], []⟩
abbrev f_impl_CommonOf_l2v : Desc := ⟨[(5, .v (.int .i64))], []⟩
abbrev f_impl_CommonOf_l2e : List (Ek × Desc) := [(.exit 0, ⟨[(5, .v (.int .i64))], []⟩)]
def f_impl_CommonOf_l2 (R : Type) (c : ((ByteArray × ByteArray × Unit) × Unit)) (v : ((Int × Unit) × Unit)) (kk : ((ByteArray × ByteArray × Unit) × Unit) → (((Int × Unit) × Unit) ⊕ ((Int × Unit) × Unit)) → Option R) : Option R :=
 (cond (ilt v.1.1 (imin (slen c.1.1) (slen c.1.2.1)))
 (getB c.1.1 v.1.1 fun v1 => (getB c.1.2.1 v.1.1 fun v2 => (cond (ieq v1 v2)
 (kk ((c.1.1, (c.1.2.1, ())), ()) (.inl (((iadd .i64 v.1.1 (1 : Int)), ()), ())))
 (kk ((c.1.1, (c.1.2.1, ())), ()) (.inr ((v.1.1, ()), ()))))))
 (kk ((c.1.1, (c.1.2.1, ())), ()) (.inr ((v.1.1, ()), ()))))
def f_impl_CommonOf (x : (ByteArray × ByteArray × Unit)) : Option ((Int × Unit) × Unit) :=
 (loopF (c := f_impl_CommonOf_l2c) (v := f_impl_CommonOf_l2v) (ex := f_impl_CommonOf_l2e) f_impl_CommonOf_l2 _ ((x.1, (x.2.1, ())), ()) (((0 : Int), ()), ()) fun c3 o4 =>
 (some ((o4.1.1, ()), ())))
def sg87 : Sig := ⟨ins87, res87, f_impl_CommonOf⟩
abbrev ins52 : List Pm := [.val (.int .i64)]
abbrev res52 : List (K × Mk) := [(.str, .s)]
abbrev f_impl_varBytes_l2c : Desc := ⟨[(3, .al 3 [])], []⟩
abbrev f_impl_varBytes_l2v : Desc := ⟨[(0, .v (.int .i64))], [(3, ⟨(.sl (.int .u8)), (.o .s), false⟩)]⟩
abbrev f_impl_varBytes_l2e : List (Ek × Desc) := [(.exit 0, ⟨[(0, .v (.int .i64))], [(3, ⟨(.sl (.int .u8)), (.o .s), false⟩)]⟩)]
def f_impl_varBytes_l2 (R : Type) (c : (Unit × Unit)) (v : ((Int × Unit) × ((List Int) × Unit))) (kk : (Unit × Unit) → (((Int × Unit) × ((List Int) × Unit)) ⊕ ((Int × Unit) × ((List Int) × Unit))) → Option R) : Option R :=
 (cond (ile (128 : Int) v.1.1)
 (req (decide (List.length v.2.1 + List.length [(iadd .u8 (IntKind.wrap .u8 (irem .i64 v.1.1 (128 : Int))) (128 : Int))] ≤ 17179869184)) (kk ((), ()) (.inl (((iquo .i64 v.1.1 (128 : Int)), ()), ((v.2.1 ++ [(iadd .u8 (IntKind.wrap .u8 (irem .i64 v.1.1 (128 : Int))) (128 : Int))]), ())))))
 (kk ((), ()) (.inr ((v.1.1, ()), (v.2.1, ())))))
def f_impl_varBytes (x : (Int × Unit)) : Option ((ByteArray × Unit) × Unit) :=
 (loopF (c := f_impl_varBytes_l2c) (v := f_impl_varBytes_l2v) (ex := f_impl_varBytes_l2e) f_impl_varBytes_l2 _ ((), ()) ((x.1, ()), (([] : List Int), ())) fun c1 o2 =>
 (req (decide (List.length o2.2.1 + List.length [(IntKind.wrap .u8 o2.1.1)] ≤ 17179869184)) (some (((strOf (o2.2.1 ++ [(IntKind.wrap .u8 o2.1.1)])), ()), ()))))
def sg52 : Sig := ⟨ins52, res52, f_impl_varBytes⟩
abbrev ins55 : List Pm := [.val (.int .u32), .val (.int .i64)]
abbrev res55 : List (K × Mk) := [(.str, .s)]
abbrev f_impl_lowFirst_l3c : Desc := ⟨[(5, .al 5 []), (7, .v (.int .i64))], []⟩
abbrev f_impl_lowFirst_l3v : Desc := ⟨[(0, .v (.int .u32)), (8, .v (.int .i64))], [(5, ⟨(.sl (.int .u8)), (.o .s), false⟩)]⟩
abbrev f_impl_lowFirst_l3e : List (Ek × Desc) := [(.exit 0, ⟨[], [(5, ⟨(.sl (.int .u8)), (.o .s), false⟩)]⟩)]
def f_impl_lowFirst_l3 (R : Type) (c : ((Int × Unit) × Unit)) (v : ((Int × Int × Unit) × ((List Int) × Unit))) (kk : ((Int × Unit) × Unit) → (((Int × Int × Unit) × ((List Int) × Unit)) ⊕ (Unit × ((List Int) × Unit))) → Option R) : Option R :=
 (cond (ilt v.1.2.1 c.1.1)
 (req (decide (List.length v.2.1 + List.length [(IntKind.wrap .u8 v.1.1)] ≤ 17179869184)) (kk ((c.1.1, ()), ()) (.inl (((ishr .u32 v.1.1 (8 : Int)), ((iadd .i64 v.1.2.1 (1 : Int)), ())), ((v.2.1 ++ [(IntKind.wrap .u8 v.1.1)]), ())))))
 (kk ((c.1.1, ()), ()) (.inr ((), (v.2.1, ())))))
def f_impl_lowFirst (x : (Int × Int × Unit)) : Option ((ByteArray × Unit) × Unit) :=
 (loopF (c := f_impl_lowFirst_l3c) (v := f_impl_lowFirst_l3v) (ex := f_impl_lowFirst_l3e) f_impl_lowFirst_l3 _ ((x.2.1, ()), ()) ((x.1, ((0 : Int), ())), (([] : List Int), ())) fun c1 o2 =>
 (some (((strOf o2.2.1), ()), ())))
def sg55 : Sig := ⟨ins55, res55, f_impl_lowFirst⟩
abbrev ins103 : List Pm := []
abbrev res103 : List (K × Mk) := [((.sl (.int .u32)), (.o .s))]
abbrev f_impl_SumTable_i10c : Desc := ⟨[(1, .al 1 []), (5, .v (.int .u32)), (8, .v (.int .i64)), (15, .v .bool)], [(1, ⟨(.sl (.int .u32)), (.o .s), false⟩)]⟩
abbrev f_impl_SumTable_i10v : Desc := ⟨[(2, .v (.int .u32))], []⟩
abbrev f_impl_SumTable_i10e : List (Ek × Desc) := [(.norm, ⟨[(2, .v (.int .u32))], []⟩)]
def f_impl_SumTable_i10 (R : Type) (c : ((Int × Int × Bool × Unit) × ((List Int) × Unit))) (v : ((Int × Unit) × Unit)) (kk : ((Int × Int × Bool × Unit) × ((List Int) × Unit)) → ((Int × Unit) × Unit) → Option R) : Option R :=
 (cond c.1.2.2.1
 (kk ((c.1.1, (c.1.2.1, (c.1.2.2.1, ()))), (c.2.1, ())) (((ixor .u32 v.1.1 (2197175160 : Int)), ()), ()))
 (kk ((c.1.1, (c.1.2.1, (c.1.2.2.1, ()))), (c.2.1, ())) ((v.1.1, ()), ())))
abbrev f_impl_SumTable_l6c : Desc := ⟨[(1, .al 1 [])], []⟩
abbrev f_impl_SumTable_l6v : Desc := ⟨[(2, .v (.int .u32)), (5, .v (.int .u32)), (8, .v (.int .i64))], [(1, ⟨(.sl (.int .u32)), (.o .s), false⟩)]⟩
abbrev f_impl_SumTable_l6e : List (Ek × Desc) := [(.exit 2, ⟨[(2, .v (.int .u32)), (5, .v (.int .u32))], [(1, ⟨(.sl (.int .u32)), (.o .s), false⟩)]⟩)]
def f_impl_SumTable_l6 (R : Type) (c : (Unit × Unit)) (v : ((Int × Int × Int × Unit) × ((List Int) × Unit))) (kk : (Unit × Unit) → (((Int × Int × Int × Unit) × ((List Int) × Unit)) ⊕ ((Int × Int × Unit) × ((List Int) × Unit))) → Option R) : Option R :=
 (cond (ilt v.1.2.2.1 (8 : Int))
 (f_impl_SumTable_i10 _ ((v.1.2.1, (v.1.2.2.1, ((ieq (iand .u32 v.1.1 (1 : Int)) (1 : Int)), ()))), (v.2.1, ())) (((ishr .u32 v.1.1 (1 : Int)), ()), ()) fun c1 o2 =>
 (kk ((), ()) (.inl ((o2.1.1, (c1.1.1, ((iadd .i64 c1.1.2.1 (1 : Int)), ()))), (c1.2.1, ())))))
 (kk ((), ()) (.inr ((v.1.1, (v.1.2.1, ())), (v.2.1, ())))))
abbrev f_impl_SumTable_l3c : Desc := ⟨[(1, .al 1 [])], []⟩
abbrev f_impl_SumTable_l3v : Desc := ⟨[(5, .v (.int .u32))], [(1, ⟨(.sl (.int .u32)), (.o .s), false⟩)]⟩
abbrev f_impl_SumTable_l3e : List (Ek × Desc) := [(.exit 0, ⟨[], [(1, ⟨(.sl (.int .u32)), (.o .s), false⟩)]⟩)]
def f_impl_SumTable_l3 (R : Type) (c : (Unit × Unit)) (v : ((Int × Unit) × ((List Int) × Unit))) (kk : (Unit × Unit) → (((Int × Unit) × ((List Int) × Unit)) ⊕ (Unit × ((List Int) × Unit))) → Option R) : Option R :=
 (cond (ilt v.1.1 (256 : Int))
 (loopF (c := f_impl_SumTable_l6c) (v := f_impl_SumTable_l6v) (ex := f_impl_SumTable_l6e) f_impl_SumTable_l6 _ ((), ()) ((v.1.1, (v.1.1, ((0 : Int), ()))), (v.2.1, ())) fun c1 o2 =>
 (req (decide (List.length o2.2.1 + List.length [o2.1.1] ≤ 17179869184)) (kk ((), ()) (.inl (((iadd .u32 o2.1.2.1 (1 : Int)), ()), ((o2.2.1 ++ [o2.1.1]), ()))))))
 (kk ((), ()) (.inr ((), (v.2.1, ())))))
def f_impl_SumTable (x : Unit) : Option (((List Int) × Unit) × Unit) :=
 (loopF (c := f_impl_SumTable_l3c) (v := f_impl_SumTable_l3v) (ex := f_impl_SumTable_l3e) f_impl_SumTable_l3 _ ((), ()) (((0 : Int), ()), (([] : List Int), ())) fun c3 o4 =>
 (some ((o4.2.1, ()), ())))
def sg103 : Sig := ⟨ins103, res103, f_impl_SumTable⟩
abbrev ins80 : List Pm := [.val (.int .u32), .val .str]
abbrev res80 : List (K × Mk) := [((.int .u32), .s)]
abbrev f_impl_SumOn_l3c : Desc := ⟨[(1, .v .str), (5, .al 5 []), (9, .v (.int .i64))], [(5, ⟨(.sl (.int .u32)), (.o .s), false⟩)]⟩
abbrev f_impl_SumOn_l3v : Desc := ⟨[(0, .v (.int .u32)), (10, .v (.int .i64))], []⟩
abbrev f_impl_SumOn_l3e : List (Ek × Desc) := [(.exit 0, ⟨[(0, .v (.int .u32))], []⟩)]
def f_impl_SumOn_l3 (R : Type) (c : ((ByteArray × Int × Unit) × ((List Int) × Unit))) (v : ((Int × Int × Unit) × Unit)) (kk : ((ByteArray × Int × Unit) × ((List Int) × Unit)) → (((Int × Int × Unit) × Unit) ⊕ ((Int × Unit) × Unit)) → Option R) : Option R :=
 (cond (ilt v.1.2.1 c.1.2.1)
 (getB c.1.1 v.1.2.1 fun v2 => (getO c.2.1 (ixor .u8 (IntKind.wrap .u8 v.1.1) v2) fun _ => (bnd (c.2.1[(Int.toNat (ixor .u8 (IntKind.wrap .u8 v.1.1) v2))]?) fun v4 => (kk ((c.1.1, (c.1.2.1, ())), (c.2.1, ())) (.inl (((ixor .u32 (ishr .u32 v.1.1 (8 : Int)) v4), ((iadd .i64 v.1.2.1 (1 : Int)), ())), ()))))))
 (kk ((c.1.1, (c.1.2.1, ())), (c.2.1, ())) (.inr ((v.1.1, ()), ()))))
def f_impl_SumOn (x : (Int × ByteArray × Unit)) : Option ((Int × Unit) × Unit) :=
 (bnd (f_impl_SumTable ()) fun r1 => (loopF (c := f_impl_SumOn_l3c) (v := f_impl_SumOn_l3v) (ex := f_impl_SumOn_l3e) f_impl_SumOn_l3 _ ((x.2.1, ((slen x.2.1), ())), (r1.1.1, ())) ((x.1, ((0 : Int), ())), ()) fun c5 o6 =>
 (some ((o6.1.1, ()), ()))))
def sg80 : Sig := ⟨ins80, res80, f_impl_SumOn⟩
abbrev ins57 : List Pm := [.val .str]
abbrev res57 : List (K × Mk) := [((.int .u32), .s)]
def f_impl_SumOf (x : (ByteArray × Unit)) : Option ((Int × Unit) × Unit) :=
 (bnd (f_impl_SumOn ((4294967295 : Int), (x.1, ()))) fun r1 => (some (((inot .u32 r1.1.1), ()), ())))
def sg57 : Sig := ⟨ins57, res57, f_impl_SumOf⟩
abbrev ins50 : List Pm := [.val (.sl kdItem)]
abbrev res50 : List (K × Mk) := [(.str, .s), ((.sl (.int .i64)), (.o .s))]
abbrev f_impl_block_i7c : Desc := ⟨[(4, .v .str), (5, .al 5 []), (8, .ptr 8 []), (13, .v (.sl kdItem)), (14, .v (.int .i64)), (15, .v (.int .i64)), (26, .v .bool)], [(8, ⟨kdItem, .s, true⟩)]⟩
abbrev f_impl_block_i7v : Desc := ⟨[(9, .v (.int .i64))], [(5, ⟨(.sl (.int .i64)), (.o .s), false⟩)]⟩
abbrev f_impl_block_i7e : List (Ek × Desc) := [(.norm, ⟨[(9, .v (.int .i64))], [(5, ⟨(.sl (.int .i64)), (.o .s), false⟩)]⟩)]
def f_impl_block_i7 (R : Type) (c : ((ByteArray × (List DItem) × Int × Int × Bool × Unit) × (DItem × Unit))) (v : ((Int × Unit) × ((List Int) × Unit))) (kk : ((ByteArray × (List DItem) × Int × Int × Bool × Unit) × (DItem × Unit)) → ((Int × Unit) × ((List Int) × Unit)) → Option R) : Option R :=
 (cond c.1.2.2.2.2.1
 (req (decide (List.length v.2.1 + List.length [(slen c.1.1)] ≤ 17179869184)) (kk ((c.1.1, (c.1.2.1, (c.1.2.2.1, (c.1.2.2.2.1, (c.1.2.2.2.2.1, ()))))), (c.2.1, ())) (((0 : Int), ()), ((v.2.1 ++ [(slen c.1.1)]), ()))))
 (kk ((c.1.1, (c.1.2.1, (c.1.2.2.1, (c.1.2.2.2.1, (c.1.2.2.2.2.1, ()))))), (c.2.1, ())) ((v.1.1, ()), (v.2.1, ()))))
abbrev f_impl_block_l3c : Desc := ⟨[(5, .al 5 [])], []⟩
abbrev f_impl_block_l3v : Desc := ⟨[(4, .v .str), (6, .v .str), (13, .v (.sl kdItem)), (14, .v (.int .i64)), (15, .v (.int .i64))], [(5, ⟨(.sl (.int .i64)), (.o .s), false⟩)]⟩
abbrev f_impl_block_l3e : List (Ek × Desc) := [(.exit 0, ⟨[(4, .v .str)], [(5, ⟨(.sl (.int .i64)), (.o .s), false⟩)]⟩)]
def f_impl_block_l3 (R : Type) (c : (Unit × Unit)) (v : ((ByteArray × ByteArray × (List DItem) × Int × Int × Unit) × ((List Int) × Unit))) (kk : (Unit × Unit) → (((ByteArray × ByteArray × (List DItem) × Int × Int × Unit) × ((List Int) × Unit)) ⊕ ((ByteArray × Unit) × ((List Int) × Unit))) → Option R) : Option R :=
 (cond (ilt v.1.2.2.2.2.1 v.1.2.2.2.1)
 (getO v.1.2.2.1 v.1.2.2.2.2.1 fun v1 => (bnd (f_impl_CommonOf (v.1.2.1, (v1.1, ()))) fun r2 => (f_impl_block_i7 _ ((v.1.1, (v.1.2.2.1, (v.1.2.2.2.1, (v.1.2.2.2.2.1, ((ieq (irem .i64 v.1.2.2.2.2.1 (4 : Int)) (0 : Int)), ()))))), (v1, ())) ((r2.1.1, ()), (v.2.1, ())) fun c3 o4 =>
 (bnd (f_impl_varBytes (o4.1.1, ())) fun r5 => (bnd (f_impl_varBytes ((isub .i64 (slen c3.2.1.1) o4.1.1), ())) fun r6 => (catO r5.1.1 r6.1.1 fun v7 => (bnd (f_impl_varBytes ((iadd .i64 (imul .i64 (2 : Int) c3.2.1.2.1) c3.2.1.2.2.1), ())) fun r8 => (catO v7 r8.1.1 fun v9 => (bnd (f_impl_varBytes ((slen c3.2.1.2.2.2.1), ())) fun r10 => (catO v9 r10.1.1 fun v11 => (req (decide ((0 : Int) ≤ o4.1.1) && decide (o4.1.1 ≤ ((ByteArray.size c3.2.1.1) : Int))) (catO v11 (ByteArray.extract c3.2.1.1 (Int.toNat o4.1.1) (ByteArray.size c3.2.1.1)) fun v12 => (catO v12 c3.2.1.2.2.2.1 fun v13 => (catO c3.1.1 v13 fun v14 => (kk ((), ()) (.inl ((v14, (c3.2.1.1, (c3.1.2.1, (c3.1.2.2.1, ((iadd .i64 c3.1.2.2.2.1 (1 : Int)), ()))))), (o4.2.1, ()))))))))))))))))))
 (kk ((), ()) (.inr ((v.1.1, ()), (v.2.1, ())))))
abbrev f_impl_block_l12c : Desc := ⟨[(5, .al 5 []), (67, .al 5 []), (68, .v (.int .i64))], [(5, ⟨(.sl (.int .i64)), (.o .s), false⟩)]⟩
abbrev f_impl_block_l12v : Desc := ⟨[(4, .v .str), (69, .v (.int .i64))], []⟩
abbrev f_impl_block_l12e : List (Ek × Desc) := [(.exit 2, ⟨[(4, .v .str)], []⟩)]
def f_impl_block_l12 (R : Type) (c : ((Int × Unit) × ((List Int) × Unit))) (v : ((ByteArray × Int × Unit) × Unit)) (kk : ((Int × Unit) × ((List Int) × Unit)) → (((ByteArray × Int × Unit) × Unit) ⊕ ((ByteArray × Unit) × Unit)) → Option R) : Option R :=
 (cond (ilt v.1.2.1 c.1.1)
 (getO c.2.1 v.1.2.1 fun _ => (bnd (c.2.1[(Int.toNat v.1.2.1)]?) fun v18 => (bnd (f_impl_lowFirst ((IntKind.wrap .u32 v18), ((2 : Int), ()))) fun r19 => (catO v.1.1 r19.1.1 fun v20 => (kk ((c.1.1, ()), (c.2.1, ())) (.inl ((v20, ((iadd .i64 v.1.2.1 (1 : Int)), ())), ())))))))
 (kk ((c.1.1, ()), (c.2.1, ())) (.inr ((v.1.1, ()), ()))))
def f_impl_block (x : ((List DItem) × Unit)) : Option ((ByteArray × (List Int) × Unit) × Unit) :=
 (loopF (c := f_impl_block_l3c) (v := f_impl_block_l3v) (ex := f_impl_block_l3e) f_impl_block_l3 _ ((), ()) (((⟨#[]⟩ : ByteArray), ((⟨#[]⟩ : ByteArray), (x.1, ((llen x.1), ((0 : Int), ()))))), (([] : List Int), ())) fun c15 o16 =>
 (loopF (c := f_impl_block_l12c) (v := f_impl_block_l12v) (ex := f_impl_block_l12e) f_impl_block_l12 _ (((llen o16.2.1), ()), (o16.2.1, ())) ((o16.1.1, ((0 : Int), ())), ()) fun c21 o22 =>
 (bnd (f_impl_lowFirst ((IntKind.wrap .u32 (llen c21.2.1)), ((2 : Int), ()))) fun r23 => (catO o22.1.1 r23.1.1 fun v24 => (bnd (f_impl_SumOf (v24, ())) fun r25 => (bnd (f_impl_lowFirst (r25.1.1, ((4 : Int), ()))) fun r26 => (catO v24 r26.1.1 fun v27 => (some ((v27, (c21.2.1, ())), ())))))))))
def sg50 : Sig := ⟨ins50, res50, f_impl_block⟩
abbrev ins51 : List Pm := [.val .str]
abbrev res51 : List (K × Mk) := [(.str, .s)]
def f_impl_sized (x : (ByteArray × Unit)) : Option ((ByteArray × Unit) × Unit) :=
 (bnd (f_impl_varBytes ((slen x.1), ())) fun r1 => (catO r1.1.1 x.1 fun v2 => (some ((v2, ()), ()))))
def sg51 : Sig := ⟨ins51, res51, f_impl_sized⟩
abbrev ins54 : List Pm := [.val (.sl kdItem)]
abbrev res54 : List (K × Mk) := [((.sl .str), (.o .s))]
abbrev f_impl_tableKeys_i6c : Desc := ⟨[(0, .v (.sl kdItem)), (3, .al 3 []), (5, .ptr 5 []), (7, .v (.sl kdItem)), (8, .v (.int .i64)), (9, .v (.int .i64)), (26, .v .bool)], [(5, ⟨kdItem, .s, true⟩)]⟩
abbrev f_impl_tableKeys_i6v : Desc := ⟨[], [(3, ⟨(.sl .str), (.o .s), false⟩)]⟩
abbrev f_impl_tableKeys_i6e : List (Ek × Desc) := [(.norm, ⟨[], [(3, ⟨(.sl .str), (.o .s), false⟩)]⟩)]
def f_impl_tableKeys_i6 (R : Type) (c : (((List DItem) × (List DItem) × Int × Int × Bool × Unit) × (DItem × Unit))) (v : (Unit × ((List ByteArray) × Unit))) (kk : (((List DItem) × (List DItem) × Int × Int × Bool × Unit) × (DItem × Unit)) → (Unit × ((List ByteArray) × Unit)) → Option R) : Option R :=
 (cond c.1.2.2.2.2.1
 (req (decide (List.length v.2.1 + List.length [c.2.1.1] ≤ 17179869184)) (kk ((c.1.1, (c.1.2.1, (c.1.2.2.1, (c.1.2.2.2.1, (c.1.2.2.2.2.1, ()))))), (c.2.1, ())) ((), ((v.2.1 ++ [c.2.1.1]), ()))))
 (kk ((c.1.1, (c.1.2.1, (c.1.2.2.1, (c.1.2.2.2.1, (c.1.2.2.2.2.1, ()))))), (c.2.1, ())) ((), (v.2.1, ()))))
abbrev f_impl_tableKeys_l3c : Desc := ⟨[(3, .al 3 [])], []⟩
abbrev f_impl_tableKeys_l3v : Desc := ⟨[(0, .v (.sl kdItem)), (7, .v (.sl kdItem)), (8, .v (.int .i64)), (9, .v (.int .i64))], [(3, ⟨(.sl .str), (.o .s), false⟩)]⟩
abbrev f_impl_tableKeys_l3e : List (Ek × Desc) := [(.exit 0, ⟨[], [(3, ⟨(.sl .str), (.o .s), false⟩)]⟩)]
def f_impl_tableKeys_l3 (R : Type) (c : (Unit × Unit)) (v : (((List DItem) × (List DItem) × Int × Int × Unit) × ((List ByteArray) × Unit))) (kk : (Unit × Unit) → ((((List DItem) × (List DItem) × Int × Int × Unit) × ((List ByteArray) × Unit)) ⊕ (Unit × ((List ByteArray) × Unit))) → Option R) : Option R :=
 (cond (ilt v.1.2.2.2.1 v.1.2.2.1)
 (getO v.1.2.1 v.1.2.2.2.1 fun v1 => (cond (ieq v.1.2.2.2.1 (0 : Int))
 (f_impl_tableKeys_i6 _ ((v.1.1, (v.1.2.1, (v.1.2.2.1, (v.1.2.2.2.1, (true, ()))))), (v1, ())) ((), (v.2.1, ())) fun c2 o3 =>
 (kk ((), ()) (.inl ((c2.1.1, (c2.1.2.1, (c2.1.2.2.1, ((iadd .i64 c2.1.2.2.2.1 (1 : Int)), ())))), (o3.2.1, ())))))
 (getO v.1.1 (isub .i64 v.1.2.2.2.1 (1 : Int)) fun v4 => (f_impl_tableKeys_i6 _ ((v.1.1, (v.1.2.1, (v.1.2.2.1, (v.1.2.2.2.1, ((!seq v4.1 v1.1), ()))))), (v1, ())) ((), (v.2.1, ())) fun c5 o6 =>
 (kk ((), ()) (.inl ((c5.1.1, (c5.1.2.1, (c5.1.2.2.1, ((iadd .i64 c5.1.2.2.2.1 (1 : Int)), ())))), (o6.2.1, ()))))))))
 (kk ((), ()) (.inr ((), (v.2.1, ())))))
def f_impl_tableKeys (x : ((List DItem) × Unit)) : Option (((List ByteArray) × Unit) × Unit) :=
 (loopF (c := f_impl_tableKeys_l3c) (v := f_impl_tableKeys_l3v) (ex := f_impl_tableKeys_l3e) f_impl_tableKeys_l3 _ ((), ()) ((x.1, (x.1, ((llen x.1), ((0 : Int), ())))), (([] : List ByteArray), ())) fun c7 o8 =>
 (some ((o8.2.1, ()), ())))
def sg54 : Sig := ⟨ins54, res54, f_impl_tableKeys⟩
abbrev ins78 : List Pm := [.val (.int .i64)]
abbrev res78 : List (K × Mk) := [(.bool, .s)]
def f_impl_hashesOk (x : (Int × Unit)) : Option ((Bool × Unit) × Unit) :=
 (bnd (f_impl_in (x.1, ((1 : Int), ((8 : Int), ())))) fun r1 => (some ((r1.1.1, ()), ())))
def sg78 : Sig := ⟨ins78, res78, f_impl_hashesOk⟩
abbrev ins88 : List Pm := [.val (.int .i64)]
abbrev res88 : List (K × Mk) := [(kdFilter, .s), (.bool, .s)]
def f_impl_NewFilter (x : (Int × Unit)) : Option ((DFilter × Bool × Unit) × Unit) :=
 (bnd (f_impl_hashesOk (x.1, ())) fun r1 => (cond (!r1.1.1)
 (some ((((0 : Int), ((⟨#[]⟩ : ByteArray), ((0 : Int), ()))), (false, ())), ()))
 (bnd (f_strings_Repeat ((⟨#[0]⟩ : ByteArray), ((32 : Int), ()))) fun r2 => (some (((x.1, (r2.1.1, ((0 : Int), ()))), (true, ())), ())))))
def sg88 : Sig := ⟨ins88, res88, f_impl_NewFilter⟩
abbrev ins40 : List Pm := [.val kdFilter]
abbrev res40 : List (K × Mk) := [(.bool, .s)]
def f_impl_GoodFilter (x : (DFilter × Unit)) : Option ((Bool × Unit) × Unit) :=
 (bnd (f_impl_hashesOk (x.1.1, ())) fun r1 => (cond r1.1.1
 (cond (ieq (slen x.1.2.1) (32 : Int))
 (bnd (f_impl_in (x.1.2.2.1, ((0 : Int), ((1000000 : Int), ())))) fun r2 => (some ((r2.1.1, ()), ())))
 (some ((false, ()), ())))
 (some ((false, ()), ()))))
def sg40 : Sig := ⟨ins40, res40, f_impl_GoodFilter⟩
abbrev ins42 : List Pm := [.val .str, .val (.int .i64)]
abbrev res42 : List (K × Mk) := [((.sl (.int .i64)), (.o .s))]
abbrev f_impl_places_l3c : Desc := ⟨[(6, .v (.int .u32)), (7, .al 7 []), (14, .v (.int .i64))], []⟩
abbrev f_impl_places_l3v : Desc := ⟨[(5, .v (.int .u32)), (15, .v (.int .i64))], [(7, ⟨(.sl (.int .i64)), (.o .s), false⟩)]⟩
abbrev f_impl_places_l3e : List (Ek × Desc) := [(.exit 0, ⟨[], [(7, ⟨(.sl (.int .i64)), (.o .s), false⟩)]⟩)]
def f_impl_places_l3 (R : Type) (c : ((Int × Int × Unit) × Unit)) (v : ((Int × Int × Unit) × ((List Int) × Unit))) (kk : ((Int × Int × Unit) × Unit) → (((Int × Int × Unit) × ((List Int) × Unit)) ⊕ (Unit × ((List Int) × Unit))) → Option R) : Option R :=
 (cond (ilt v.1.2.1 c.1.2.1)
 (req (decide (List.length v.2.1 + List.length [(IntKind.wrap .i64 (irem .u32 v.1.1 (256 : Int)))] ≤ 17179869184)) (kk ((c.1.1, (c.1.2.1, ())), ()) (.inl (((iadd .u32 v.1.1 c.1.1), ((iadd .i64 v.1.2.1 (1 : Int)), ())), ((v.2.1 ++ [(IntKind.wrap .i64 (irem .u32 v.1.1 (256 : Int)))]), ())))))
 (kk ((c.1.1, (c.1.2.1, ())), ()) (.inr ((), (v.2.1, ())))))
def f_impl_places (x : (ByteArray × Int × Unit)) : Option (((List Int) × Unit) × Unit) :=
 (bnd (f_impl_SumOf (x.1, ())) fun r1 => (bnd (f_impl_SumOn ((0 : Int), (x.1, ()))) fun r2 => (loopF (c := f_impl_places_l3c) (v := f_impl_places_l3v) (ex := f_impl_places_l3e) f_impl_places_l3 _ (((ior .u32 r2.1.1 (1 : Int)), (x.2.1, ())), ()) ((r1.1.1, ((0 : Int), ())), (([] : List Int), ())) fun c3 o4 =>
 (some ((o4.2.1, ()), ())))))
def sg42 : Sig := ⟨ins42, res42, f_impl_places⟩
abbrev ins89 : List Pm := [.val kdFilter, .val .str]
abbrev res89 : List (K × Mk) := [(kdFilter, .s), (.bool, .s)]
abbrev f_impl_AddKey_l5c : Desc := ⟨[(2, .ptr 2 []), (4, .ptr 4 []), (6, .al 6 []), (24, .al 24 []), (25, .v (.int .i64))], [(2, ⟨kdFilter, .s, true⟩), (4, ⟨kdFilter, .s, true⟩), (24, ⟨(.sl (.int .i64)), (.o .s), false⟩)]⟩
abbrev f_impl_AddKey_l5v : Desc := ⟨[(26, .v (.int .i64))], [(6, ⟨(.sl (.int .u8)), (.o .s), false⟩)]⟩
abbrev f_impl_AddKey_l5e : List (Ek × Desc) := [(.exit 0, ⟨[], [(6, ⟨(.sl (.int .u8)), (.o .s), false⟩)]⟩)]
def f_impl_AddKey_l5 (R : Type) (c : ((Int × Unit) × (DFilter × DFilter × (List Int) × Unit))) (v : ((Int × Unit) × ((List Int) × Unit))) (kk : ((Int × Unit) × (DFilter × DFilter × (List Int) × Unit)) → (((Int × Unit) × ((List Int) × Unit)) ⊕ (Unit × ((List Int) × Unit))) → Option R) : Option R :=
 (cond (ilt v.1.1 c.1.1)
 (getO c.2.2.2.1 v.1.1 fun _ => (bnd (c.2.2.2.1[(Int.toNat v.1.1)]?) fun v5 => (getO v.2.1 (iquo .i64 v5 (8 : Int)) fun _ => (bnd (v.2.1[(Int.toNat (iquo .i64 v5 (8 : Int)))]?) fun v7 => (req (ile (0 : Int) (irem .i64 v5 (8 : Int))) (getO v.2.1 (iquo .i64 v5 (8 : Int)) fun _ => (bnd (v.2.1[(Int.toNat (iquo .i64 v5 (8 : Int)))]?) fun v9 => (kk ((c.1.1, ()), (c.2.1, (c.2.2.1, (c.2.2.2.1, ())))) (.inl (((iadd .i64 v.1.1 (1 : Int)), ()), ((List.set v.2.1 (Int.toNat (iquo .i64 v5 (8 : Int))) (ior .u8 v7 (ishl .u8 (1 : Int) (irem .i64 v5 (8 : Int))))), ())))))))))))
 (kk ((c.1.1, ()), (c.2.1, (c.2.2.1, (c.2.2.2.1, ())))) (.inr ((), (v.2.1, ())))))
def f_impl_AddKey (x : (DFilter × ByteArray × Unit)) : Option ((DFilter × Bool × Unit) × Unit) :=
 (bnd (f_impl_GoodFilter (x.1, ())) fun r1 => (cond (!r1.1.1)
 (some ((((0 : Int), ((⟨#[]⟩ : ByteArray), ((0 : Int), ()))), (false, ())), ()))
 (bnd (f_impl_isKey (x.2.1, ())) fun r2 => (cond (!r2.1.1)
 (some ((((0 : Int), ((⟨#[]⟩ : ByteArray), ((0 : Int), ()))), (false, ())), ()))
 (cond (Nat.beq (ByteArray.size x.1.2.1) 0)
 none
 (bnd (f_impl_places (x.2.1, (x.1.1, ()))) fun r3 => (loopF (c := f_impl_AddKey_l5c) (v := f_impl_AddKey_l5v) (ex := f_impl_AddKey_l5e) f_impl_AddKey_l5 _ (((llen r3.1.1), ()), (x.1, (((0 : Int), ((⟨#[]⟩ : ByteArray), ((0 : Int), ()))), (r3.1.1, ())))) (((0 : Int), ()), ((bytesOf x.1.2.1), ())) fun c10 o11 =>
 (some (((c10.2.1.1, ((strOf o11.2.1), ((imin (iadd .i64 c10.2.1.2.2.1 (1 : Int)) (1000000 : Int)), ()))), (true, ())), ())))))))))
def sg89 : Sig := ⟨ins89, res89, f_impl_AddKey⟩
abbrev ins53 : List Pm := [.val (.sl .str), .val (.int .i64)]
abbrev res53 : List (K × Mk) := [(kdFilter, .s), (.bool, .s)]
abbrev f_impl_FilterOf_l5c : Desc := ⟨[(4, .ptr 4 []), (6, .ptr 6 []), (23, .v (.sl .str)), (24, .v (.int .i64))], []⟩
abbrev f_impl_FilterOf_l5v : Desc := ⟨[(25, .v (.int .i64))], [(4, ⟨kdFilter, .s, true⟩), (6, ⟨kdFilter, .s, true⟩)]⟩
abbrev f_impl_FilterOf_l5e : List (Ek × Desc) := [(.ret, ⟨[(5, .v .bool)], [(4, ⟨kdFilter, .s, true⟩), (6, ⟨kdFilter, .s, true⟩)]⟩), (.exit 0, ⟨[], [(4, ⟨kdFilter, .s, true⟩), (6, ⟨kdFilter, .s, true⟩)]⟩)]
def f_impl_FilterOf_l5 (R : Type) (c : (((List ByteArray) × Int × Unit) × Unit)) (v : ((Int × Unit) × (DFilter × DFilter × Unit))) (kk : (((List ByteArray) × Int × Unit) × Unit) → (((Int × Unit) × (DFilter × DFilter × Unit)) ⊕ (((Bool × Unit) × (DFilter × DFilter × Unit)) ⊕ (Unit × (DFilter × DFilter × Unit)))) → Option R) : Option R :=
 (cond (ilt v.1.1 c.1.2.1)
 (getO c.1.1 v.1.1 fun v2 => (bnd (f_impl_AddKey (v.2.2.1, (v2, ()))) fun r3 => (cond (!r3.1.2.1)
 (kk ((c.1.1, (c.1.2.1, ())), ()) (.inr (.inl ((false, ()), (((0 : Int), ((⟨#[]⟩ : ByteArray), ((0 : Int), ()))), (r3.1.1, ()))))))
 (kk ((c.1.1, (c.1.2.1, ())), ()) (.inl (((iadd .i64 v.1.1 (1 : Int)), ()), (v.2.1, (r3.1.1, ()))))))))
 (kk ((c.1.1, (c.1.2.1, ())), ()) (.inr (.inr ((), (v.2.1, (v.2.2.1, ())))))))
def f_impl_FilterOf (x : ((List ByteArray) × Int × Unit)) : Option ((DFilter × Bool × Unit) × Unit) :=
 (bnd (f_impl_NewFilter (x.2.1, ())) fun r1 => (cond (!r1.1.2.1)
 (some ((((0 : Int), ((⟨#[]⟩ : ByteArray), ((0 : Int), ()))), (false, ())), ()))
 (cond (ilt (200 : Int) (llen x.1))
 (some ((((0 : Int), ((⟨#[]⟩ : ByteArray), ((0 : Int), ()))), (false, ())), ()))
 (loopF (c := f_impl_FilterOf_l5c) (v := f_impl_FilterOf_l5v) (ex := f_impl_FilterOf_l5e) f_impl_FilterOf_l5 _ ((x.1, ((llen x.1), ())), ()) (((0 : Int), ()), (((0 : Int), ((⟨#[]⟩ : ByteArray), ((0 : Int), ()))), (r1.1.1, ()))) fun c4 o5 =>
 (match o5 with
 | .inl y6 => (some ((y6.2.1, (y6.1.1, ())), ()))
 | .inr z7 => (some ((z7.2.2.1, (true, ())), ())))))))
def sg53 : Sig := ⟨ins53, res53, f_impl_FilterOf⟩
abbrev ins56 : List Pm := [.val .str]
abbrev res56 : List (K × Mk) := [(.str, .s)]
def f_impl_frame (x : (ByteArray × Unit)) : Option ((ByteArray × Unit) × Unit) :=
 (bnd (f_impl_varBytes ((slen x.1), ())) fun r1 => (bnd (f_impl_SumOf (x.1, ())) fun r2 => (bnd (f_impl_lowFirst (r2.1.1, ((4 : Int), ()))) fun r3 => (catO r1.1.1 r3.1.1 fun v4 => (catO v4 x.1 fun v5 => (some ((v5, ()), ())))))))
def sg56 : Sig := ⟨ins56, res56, f_impl_frame⟩
abbrev ins23v : List Pm := [.val (.sl kdItem)]
abbrev res23v : List (K × Mk) := [(kdtable, (.pr .s (.pr (.o .s) .s))), (.str, .s)]
abbrev f_impl_build_v_l3c : Desc := ⟨[(0, .v (.sl kdItem)), (2, .ptr 2 []), (4, .ptr 4 [])], [(2, ⟨kdtable, (.pr (.o .s) (.pr (.o .s) .s)), true⟩)]⟩
abbrev f_impl_build_v_l3v : Desc := ⟨[(5, .v .str), (6, .v .str), (7, .v (.int .i64))], [(4, ⟨kdtable, (.pr .s (.pr (.o .s) .s)), true⟩)]⟩
abbrev f_impl_build_v_l3e : List (Ek × Desc) := [(.exit 0, ⟨[(5, .v .str), (6, .v .str)], [(4, ⟨kdtable, (.pr .s (.pr (.o .s) .s)), true⟩)]⟩)]
def f_impl_build_v_l3 (R : Type) (c : (((List DItem) × Unit) × (Dtable × Unit))) (v : ((ByteArray × ByteArray × Int × Unit) × (Dtable × Unit))) (kk : (((List DItem) × Unit) × (Dtable × Unit)) → (((ByteArray × ByteArray × Int × Unit) × (Dtable × Unit)) ⊕ ((ByteArray × ByteArray × Unit) × (Dtable × Unit))) → Option R) : Option R :=
 (cond (ilt v.1.2.2.1 (llen c.1.1))
 (req (decide ((0 : Int) ≤ v.1.2.2.1) && (decide (v.1.2.2.1 ≤ (imin (iadd .i64 v.1.2.2.1 (8 : Int)) (llen c.1.1))) && decide ((imin (iadd .i64 v.1.2.2.1 (8 : Int)) (llen c.1.1)) ≤ ((List.length c.1.1) : Int)))) (bnd (f_impl_block ((List.take ((Int.toNat (imin (iadd .i64 v.1.2.2.1 (8 : Int)) (llen c.1.1))) - (Int.toNat v.1.2.2.1)) (List.drop (Int.toNat v.1.2.2.1) c.1.1)), ())) fun r1 => (getO (List.take ((Int.toNat (imin (iadd .i64 v.1.2.2.1 (8 : Int)) (llen c.1.1))) - (Int.toNat v.1.2.2.1)) (List.drop (Int.toNat v.1.2.2.1) c.1.1)) (isub .i64 (llen (List.take ((Int.toNat (imin (iadd .i64 v.1.2.2.1 (8 : Int)) (llen c.1.1))) - (Int.toNat v.1.2.2.1)) (List.drop (Int.toNat v.1.2.2.1) c.1.1))) (1 : Int)) fun v2 => (req (decide (List.length v.2.1.2.1 + List.length [(v2.1, (v2.2.1, ((slen v.1.1), ((slen r1.1.1), ()))))] ≤ 17179869184)) (bnd (f_impl_sized (v2.1, ())) fun r3 => (bnd (f_impl_varBytes (v2.2.1, ())) fun r4 => (catO r3.1.1 r4.1.1 fun v5 => (bnd (f_impl_varBytes ((slen v.1.1), ())) fun r6 => (catO v5 r6.1.1 fun v7 => (bnd (f_impl_varBytes ((slen r1.1.1), ())) fun r8 => (catO v7 r8.1.1 fun v9 => (catO v.1.2.1 v9 fun v10 => (catO v.1.1 r1.1.1 fun v11 => (kk ((c.1.1, ()), (c.2.1, ())) (.inl ((v11, (v10, ((iadd .i64 v.1.2.2.1 (8 : Int)), ()))), ((v.2.1.1, ((v.2.1.2.1 ++ [(v2.1, (v2.2.1, ((slen v.1.1), ((slen r1.1.1), ()))))]), v.2.1.2.2)), ())))))))))))))))))
 (kk ((c.1.1, ()), (c.2.1, ())) (.inr ((v.1.1, (v.1.2.1, ())), (v.2.1, ())))))
def f_impl_build_v (x : ((List DItem) × Unit)) : Option ((Dtable × ByteArray × Unit) × Unit) :=
 (loopF (c := f_impl_build_v_l3c) (v := f_impl_build_v_l3v) (ex := f_impl_build_v_l3e) f_impl_build_v_l3 _ ((x.1, ()), ((([] : List DItem), (([] : List DPlace), (((0 : Int), ((⟨#[]⟩ : ByteArray), ((0 : Int), ()))), ()))), ())) (((⟨#[]⟩ : ByteArray), ((⟨#[]⟩ : ByteArray), ((0 : Int), ()))), ((x.1, (([] : List DPlace), (((0 : Int), ((⟨#[]⟩ : ByteArray), ((0 : Int), ()))), ()))), ())) fun c12 o13 =>
 (bnd (f_impl_tableKeys (c12.1.1, ())) fun r14 => (bnd (f_impl_FilterOf (r14.1.1, ((4 : Int), ()))) fun r15 => (bnd (f_impl_lowFirst ((IntKind.wrap .u32 (slen o13.1.1)), ((4 : Int), ()))) fun r16 => (bnd (f_impl_frame (o13.1.2.1, ())) fun r17 => (catO o13.1.1 r17.1.1 fun v18 => (bnd (f_impl_frame (r15.1.1.2.1, ())) fun r19 => (catO v18 r19.1.1 fun v20 => (catO v20 r16.1.1 fun v21 => (bnd (f_impl_SumOf (r16.1.1, ())) fun r22 => (bnd (f_impl_lowFirst (r22.1.1, ((4 : Int), ()))) fun r23 => (catO v21 r23.1.1 fun v24 => (some (((o13.2.1.1, (o13.2.1.2.1, (r15.1.1, o13.2.1.2.2.2))), (v24, ())), ()))))))))))))))
def sg23v : Sig := ⟨ins23v, res23v, f_impl_build_v⟩
abbrev ins6 : List Pm := [.val (.sl kdItem)]
abbrev res6 : List (K × Mk) := [(.str, .s), (.bool, .s)]
def f_impl_TableBytes (x : ((List DItem) × Unit)) : Option ((ByteArray × Bool × Unit) × Unit) :=
 (bnd (f_impl_in ((llen x.1), ((1 : Int), ((120 : Int), ())))) fun r1 => (cond (!r1.1.1)
 (some (((⟨#[]⟩ : ByteArray), (false, ())), ()))
 (bnd (f_impl_GoodRun (x.1, ())) fun r2 => (cond (!r2.1.1)
 (some (((⟨#[]⟩ : ByteArray), (false, ())), ()))
 (bnd (f_impl_build_v (x.1, ())) fun r3 => (some ((r3.1.2.1, (true, ())), ())))))))
def sg6 : Sig := ⟨ins6, res6, f_impl_TableBytes⟩
abbrev ins32 : List Pm := [.val (.sl kdItem)]
abbrev res32 : List (K × Mk) := [(.bool, .s)]
abbrev f_spec_GoodRun_l2c : Desc := ⟨[(0, .v (.sl kdItem)), (5, .v (.sl kdItem)), (6, .v (.int .i64))], []⟩
abbrev f_spec_GoodRun_l2v : Desc := ⟨[(7, .v (.int .i64))], []⟩
abbrev f_spec_GoodRun_l2e : List (Ek × Desc) := [(.ret, ⟨[(2, .v .bool)], []⟩), (.exit 0, ⟨[], []⟩)]
def f_spec_GoodRun_l2 (R : Type) (c : (((List DItem) × (List DItem) × Int × Unit) × Unit)) (v : ((Int × Unit) × Unit)) (kk : (((List DItem) × (List DItem) × Int × Unit) × Unit) → (((Int × Unit) × Unit) ⊕ (((Bool × Unit) × Unit) ⊕ (Unit × Unit))) → Option R) : Option R :=
 (cond (ilt v.1.1 c.1.2.2.1)
 (getO c.1.2.1 v.1.1 fun v1 => (bnd (f_spec_GoodItem (v1, ())) fun r2 => (cond (!r2.1.1)
 (kk ((c.1.1, (c.1.2.1, (c.1.2.2.1, ()))), ()) (.inr (.inl ((false, ()), ()))))
 (cond (ilt (0 : Int) v.1.1)
 (getO c.1.1 (isub .i64 v.1.1 (1 : Int)) fun v3 => (bnd (f_spec_l4Compare (v3, (v1, ()))) fun r4 => (cond (ile (0 : Int) r4.1.1)
 (kk ((c.1.1, (c.1.2.1, (c.1.2.2.1, ()))), ()) (.inr (.inl ((false, ()), ()))))
 (kk ((c.1.1, (c.1.2.1, (c.1.2.2.1, ()))), ()) (.inl (((iadd .i64 v.1.1 (1 : Int)), ()), ()))))))
 (kk ((c.1.1, (c.1.2.1, (c.1.2.2.1, ()))), ()) (.inl (((iadd .i64 v.1.1 (1 : Int)), ()), ())))))))
 (kk ((c.1.1, (c.1.2.1, (c.1.2.2.1, ()))), ()) (.inr (.inr ((), ())))))
def f_spec_GoodRun (x : ((List DItem) × Unit)) : Option ((Bool × Unit) × Unit) :=
 (loopF (c := f_spec_GoodRun_l2c) (v := f_spec_GoodRun_l2v) (ex := f_spec_GoodRun_l2e) f_spec_GoodRun_l2 _ ((x.1, (x.1, ((llen x.1), ()))), ()) (((0 : Int), ()), ()) fun c5 o6 =>
 (match o6 with
 | .inl y7 => (some ((y7.1.1, ()), ()))
 | .inr z8 => (some ((true, ()), ()))))
def sg32 : Sig := ⟨ins32, res32, f_spec_GoodRun⟩
abbrev ins24 : List Pm := [.val (.sl kdItem)]
abbrev res24 : List (K × Mk) := [(.bool, .s)]
def f_spec_l7Good (x : ((List DItem) × Unit)) : Option ((Bool × Unit) × Unit) :=
 (bnd (f_spec_GoodRun (x.1, ())) fun r1 => (cond r1.1.1
 (bnd (f_spec_l1In ((llen x.1), ((1 : Int), ((120 : Int), ())))) fun r2 => (some ((r2.1.1, ()), ())))
 (some ((false, ()), ()))))
def sg24 : Sig := ⟨ins24, res24, f_spec_l7Good⟩
abbrev ins90 : List Pm := [.val (.int .i64)]
abbrev res90 : List (K × Mk) := [(.str, .s)]
def f_spec_l6Two (x : (Int × Unit)) : Option ((ByteArray × Unit) × Unit) :=
 (some (((strOf [(IntKind.wrap .u8 x.1), (IntKind.wrap .u8 (ishr .i64 x.1 (8 : Int)))]), ()), ()))
def sg90 : Sig := ⟨ins90, res90, f_spec_l6Two⟩
abbrev ins91 : List Pm := [.val .str, .val .str]
abbrev res91 : List (K × Mk) := [((.int .i64), .s)]
abbrev f_spec_CommonOf_l2c : Desc := ⟨[(0, .v .str), (1, .v .str)], []⟩
abbrev f_spec_CommonOf_l2v : Desc := ⟨[(5, .v (.int .i64))], []⟩
abbrev f_spec_CommonOf_l2e : List (Ek × Desc) := [(.exit 0, ⟨[(5, .v (.int .i64))], []⟩)]
def f_spec_CommonOf_l2 (R : Type) (c : ((ByteArray × ByteArray × Unit) × Unit)) (v : ((Int × Unit) × Unit)) (kk : ((ByteArray × ByteArray × Unit) × Unit) → (((Int × Unit) × Unit) ⊕ ((Int × Unit) × Unit)) → Option R) : Option R :=
 (cond (ilt v.1.1 (slen c.1.1))
 (cond (ilt v.1.1 (slen c.1.2.1))
 (getB c.1.1 v.1.1 fun v1 => (getB c.1.2.1 v.1.1 fun v2 => (cond (ieq v1 v2)
 (kk ((c.1.1, (c.1.2.1, ())), ()) (.inl (((iadd .i64 v.1.1 (1 : Int)), ()), ())))
 (kk ((c.1.1, (c.1.2.1, ())), ()) (.inr ((v.1.1, ()), ()))))))
 (kk ((c.1.1, (c.1.2.1, ())), ()) (.inr ((v.1.1, ()), ()))))
 (kk ((c.1.1, (c.1.2.1, ())), ()) (.inr ((v.1.1, ()), ()))))
def f_spec_CommonOf (x : (ByteArray × ByteArray × Unit)) : Option ((Int × Unit) × Unit) :=
 (loopF (c := f_spec_CommonOf_l2c) (v := f_spec_CommonOf_l2v) (ex := f_spec_CommonOf_l2e) f_spec_CommonOf_l2 _ ((x.1, (x.2.1, ())), ()) (((0 : Int), ()), ()) fun c3 o4 =>
 (some ((o4.1.1, ()), ())))
def sg91 : Sig := ⟨ins91, res91, f_spec_CommonOf⟩
abbrev ins60 : List Pm := [.val (.int .i64)]
abbrev res60 : List (K × Mk) := [(.str, .s)]
abbrev f_spec_l2Var_l2c : Desc := ⟨[(3, .al 3 [])], []⟩
abbrev f_spec_l2Var_l2v : Desc := ⟨[(0, .v (.int .i64))], [(3, ⟨(.sl (.int .u8)), (.o .s), false⟩)]⟩
abbrev f_spec_l2Var_l2e : List (Ek × Desc) := [(.exit 0, ⟨[(0, .v (.int .i64))], [(3, ⟨(.sl (.int .u8)), (.o .s), false⟩)]⟩)]
def f_spec_l2Var_l2 (R : Type) (c : (Unit × Unit)) (v : ((Int × Unit) × ((List Int) × Unit))) (kk : (Unit × Unit) → (((Int × Unit) × ((List Int) × Unit)) ⊕ ((Int × Unit) × ((List Int) × Unit))) → Option R) : Option R :=
 (cond (ilt (127 : Int) v.1.1)
 (req (decide (List.length v.2.1 + List.length [(IntKind.wrap .u8 (ior .i64 (iand .i64 v.1.1 (127 : Int)) (128 : Int)))] ≤ 17179869184)) (kk ((), ()) (.inl (((ishr .i64 v.1.1 (7 : Int)), ()), ((v.2.1 ++ [(IntKind.wrap .u8 (ior .i64 (iand .i64 v.1.1 (127 : Int)) (128 : Int)))]), ())))))
 (kk ((), ()) (.inr ((v.1.1, ()), (v.2.1, ())))))
def f_spec_l2Var (x : (Int × Unit)) : Option ((ByteArray × Unit) × Unit) :=
 (loopF (c := f_spec_l2Var_l2c) (v := f_spec_l2Var_l2v) (ex := f_spec_l2Var_l2e) f_spec_l2Var_l2 _ ((), ()) ((x.1, ()), (([] : List Int), ())) fun c1 o2 =>
 (req (decide (List.length o2.2.1 + List.length [(IntKind.wrap .u8 o2.1.1)] ≤ 17179869184)) (some (((strOf (o2.2.1 ++ [(IntKind.wrap .u8 o2.1.1)])), ()), ()))))
def sg60 : Sig := ⟨ins60, res60, f_spec_l2Var⟩
abbrev ins95 : List Pm := []
abbrev res95 : List (K × Mk) := [((.sl (.int .u32)), (.o .s))]
abbrev f_spec_l2Table_i12c : Desc := ⟨[(1, .al 1 []), (2, .v (.int .i64)), (4, .v (.int .i64)), (8, .v (.int .i64)), (9, .v (.int .i64)), (23, .v .bool)], [(1, ⟨(.sl (.int .u32)), (.o .s), false⟩)]⟩
abbrev f_spec_l2Table_i12v : Desc := ⟨[(3, .v (.int .u32))], []⟩
abbrev f_spec_l2Table_i12e : List (Ek × Desc) := [(.norm, ⟨[(3, .v (.int .u32))], []⟩)]
def f_spec_l2Table_i12 (R : Type) (c : ((Int × Int × Int × Int × Bool × Unit) × ((List Int) × Unit))) (v : ((Int × Unit) × Unit)) (kk : ((Int × Int × Int × Int × Bool × Unit) × ((List Int) × Unit)) → ((Int × Unit) × Unit) → Option R) : Option R :=
 (cond c.1.2.2.2.2.1
 (kk ((c.1.1, (c.1.2.1, (c.1.2.2.1, (c.1.2.2.2.1, (c.1.2.2.2.2.1, ()))))), (c.2.1, ())) (((ixor .u32 v.1.1 (2197175160 : Int)), ()), ()))
 (kk ((c.1.1, (c.1.2.1, (c.1.2.2.1, (c.1.2.2.2.1, (c.1.2.2.2.2.1, ()))))), (c.2.1, ())) ((v.1.1, ()), ())))
abbrev f_spec_l2Table_l7c : Desc := ⟨[(1, .al 1 [])], []⟩
abbrev f_spec_l2Table_l7v : Desc := ⟨[(2, .v (.int .i64)), (3, .v (.int .u32)), (4, .v (.int .i64)), (8, .v (.int .i64)), (9, .v (.int .i64))], [(1, ⟨(.sl (.int .u32)), (.o .s), false⟩)]⟩
abbrev f_spec_l2Table_l7e : List (Ek × Desc) := [(.exit 2, ⟨[(2, .v (.int .i64)), (3, .v (.int .u32)), (8, .v (.int .i64)), (9, .v (.int .i64))], [(1, ⟨(.sl (.int .u32)), (.o .s), false⟩)]⟩)]
def f_spec_l2Table_l7 (R : Type) (c : (Unit × Unit)) (v : ((Int × Int × Int × Int × Int × Unit) × ((List Int) × Unit))) (kk : (Unit × Unit) → (((Int × Int × Int × Int × Int × Unit) × ((List Int) × Unit)) ⊕ ((Int × Int × Int × Int × Unit) × ((List Int) × Unit))) → Option R) : Option R :=
 (cond (ilt v.1.2.2.1 (8 : Int))
 (f_spec_l2Table_i12 _ ((v.1.1, (v.1.2.2.1, (v.1.2.2.2.1, (v.1.2.2.2.2.1, ((ieq (iand .u32 v.1.2.1 (1 : Int)) (1 : Int)), ()))))), (v.2.1, ())) (((ishr .u32 v.1.2.1 (1 : Int)), ()), ()) fun c1 o2 =>
 (kk ((), ()) (.inl ((c1.1.1, (o2.1.1, ((iadd .i64 c1.1.2.1 (1 : Int)), (c1.1.2.2.1, (c1.1.2.2.2.1, ()))))), (c1.2.1, ())))))
 (kk ((), ()) (.inr ((v.1.1, (v.1.2.1, (v.1.2.2.2.1, (v.1.2.2.2.2.1, ())))), (v.2.1, ())))))
abbrev f_spec_l2Table_l3c : Desc := ⟨[(1, .al 1 [])], []⟩
abbrev f_spec_l2Table_l3v : Desc := ⟨[(8, .v (.int .i64)), (9, .v (.int .i64))], [(1, ⟨(.sl (.int .u32)), (.o .s), false⟩)]⟩
abbrev f_spec_l2Table_l3e : List (Ek × Desc) := [(.exit 0, ⟨[], [(1, ⟨(.sl (.int .u32)), (.o .s), false⟩)]⟩)]
def f_spec_l2Table_l3 (R : Type) (c : (Unit × Unit)) (v : ((Int × Int × Unit) × ((List Int) × Unit))) (kk : (Unit × Unit) → (((Int × Int × Unit) × ((List Int) × Unit)) ⊕ (Unit × ((List Int) × Unit))) → Option R) : Option R :=
 (cond (ilt v.1.2.1 v.1.1)
 (loopF (c := f_spec_l2Table_l7c) (v := f_spec_l2Table_l7v) (ex := f_spec_l2Table_l7e) f_spec_l2Table_l7 _ ((), ()) ((v.1.2.1, ((IntKind.wrap .u32 v.1.2.1), ((0 : Int), (v.1.1, (v.1.2.1, ()))))), (v.2.1, ())) fun c1 o2 =>
 (getO o2.2.1 o2.1.1 fun _ => (bnd (o2.2.1[(Int.toNat o2.1.1)]?) fun v4 => (kk ((), ()) (.inl ((o2.1.2.2.1, ((iadd .i64 o2.1.2.2.2.1 (1 : Int)), ())), ((List.set o2.2.1 (Int.toNat o2.1.1) o2.1.2.1), ())))))))
 (kk ((), ()) (.inr ((), (v.2.1, ())))))
def f_spec_l2Table (x : Unit) : Option (((List Int) × Unit) × Unit) :=
 (req (decide ((256 : Int) = (256 : Int)) && (decide ((0 : Int) ≤ (256 : Int)) && decide ((256 : Int) ≤ (68719476736 : Int)))) (loopF (c := f_spec_l2Table_l3c) (v := f_spec_l2Table_l3v) (ex := f_spec_l2Table_l3e) f_spec_l2Table_l3 _ ((), ()) (((llen (List.replicate (Int.toNat (256 : Int)) ((0 : Int) : Int))), ((0 : Int), ())), ((List.replicate (Int.toNat (256 : Int)) ((0 : Int) : Int)), ())) fun c5 o6 =>
 (some ((o6.2.1, ()), ()))))
def sg95 : Sig := ⟨ins95, res95, f_spec_l2Table⟩
abbrev ins94 : List Pm := [.val (.sl (.int .u32)), .val (.int .u32), .val .str]
abbrev res94 : List (K × Mk) := [((.int .u32), .s)]
abbrev f_spec_l2On_l2c : Desc := ⟨[(0, .v (.sl (.int .u32))), (2, .v .str)], []⟩
abbrev f_spec_l2On_l2v : Desc := ⟨[(1, .v (.int .u32)), (7, .v (.int .i64))], []⟩
abbrev f_spec_l2On_l2e : List (Ek × Desc) := [(.exit 0, ⟨[(1, .v (.int .u32))], []⟩)]
def f_spec_l2On_l2 (R : Type) (c : (((List Int) × ByteArray × Unit) × Unit)) (v : ((Int × Int × Unit) × Unit)) (kk : (((List Int) × ByteArray × Unit) × Unit) → (((Int × Int × Unit) × Unit) ⊕ ((Int × Unit) × Unit)) → Option R) : Option R :=
 (cond (ilt v.1.2.1 (slen c.1.2.1))
 (getB c.1.2.1 v.1.2.1 fun v1 => (getO c.1.1 (ixor .u8 (IntKind.wrap .u8 v.1.1) v1) fun v2 => (kk ((c.1.1, (c.1.2.1, ())), ()) (.inl (((ixor .u32 v2 (ishr .u32 v.1.1 (8 : Int))), ((iadd .i64 v.1.2.1 (1 : Int)), ())), ())))))
 (kk ((c.1.1, (c.1.2.1, ())), ()) (.inr ((v.1.1, ()), ()))))
def f_spec_l2On (x : ((List Int) × Int × ByteArray × Unit)) : Option ((Int × Unit) × Unit) :=
 (loopF (c := f_spec_l2On_l2c) (v := f_spec_l2On_l2v) (ex := f_spec_l2On_l2e) f_spec_l2On_l2 _ ((x.1, (x.2.2.1, ())), ()) ((x.2.1, ((0 : Int), ())), ()) fun c3 o4 =>
 (some ((o4.1.1, ()), ())))
def sg94 : Sig := ⟨ins94, res94, f_spec_l2On⟩
abbrev ins66 : List Pm := [.val .str]
abbrev res66 : List (K × Mk) := [((.int .u32), .s)]
def f_spec_l2Sum (x : (ByteArray × Unit)) : Option ((Int × Unit) × Unit) :=
 (bnd (f_spec_l2Table ()) fun r1 => (bnd (f_spec_l2On (r1.1.1, ((4294967295 : Int), (x.1, ())))) fun r2 => (some (((inot .u32 r2.1.1), ()), ()))))
def sg66 : Sig := ⟨ins66, res66, f_spec_l2Sum⟩
abbrev ins65 : List Pm := [.val (.int .u32)]
abbrev res65 : List (K × Mk) := [(.str, .s)]
def f_spec_l2Word (x : (Int × Unit)) : Option ((ByteArray × Unit) × Unit) :=
 (some (((strOf [(IntKind.wrap .u8 x.1), (IntKind.wrap .u8 (ishr .u32 x.1 (8 : Int))), (IntKind.wrap .u8 (ishr .u32 x.1 (16 : Int))), (IntKind.wrap .u8 (ishr .u32 x.1 (24 : Int)))]), ()), ()))
def sg65 : Sig := ⟨ins65, res65, f_spec_l2Word⟩
abbrev ins59 : List Pm := [.val (.sl kdItem)]
abbrev res59 : List (K × Mk) := [(.str, .s)]
abbrev f_spec_l6Block_i8c : Desc := ⟨[(0, .v (.sl kdItem)), (3, .v .str), (5, .v (.int .i64)), (6, .ptr 6 []), (8, .v (.sl kdItem)), (9, .v (.int .i64)), (10, .v (.int .i64)), (17, .v .bool)], [(6, ⟨kdItem, .s, true⟩)]⟩
abbrev f_spec_l6Block_i8v : Desc := ⟨[(4, .v .str), (7, .v (.int .i64))], []⟩
abbrev f_spec_l6Block_i8e : List (Ek × Desc) := [(.norm, ⟨[(4, .v .str), (7, .v (.int .i64))], []⟩)]
def f_spec_l6Block_i8 (R : Type) (c : (((List DItem) × ByteArray × Int × (List DItem) × Int × Int × Bool × Unit) × (DItem × Unit))) (v : ((ByteArray × Int × Unit) × Unit)) (kk : (((List DItem) × ByteArray × Int × (List DItem) × Int × Int × Bool × Unit) × (DItem × Unit)) → ((ByteArray × Int × Unit) × Unit) → Option R) : Option R :=
 (cond c.1.2.2.2.2.2.2.1
 (bnd (f_spec_l6Two ((slen c.1.2.1), ())) fun r2 => (catO v.1.1 r2.1.1 fun v3 => (kk ((c.1.1, (c.1.2.1, (c.1.2.2.1, (c.1.2.2.2.1, (c.1.2.2.2.2.1, (c.1.2.2.2.2.2.1, (c.1.2.2.2.2.2.2.1, ()))))))), (c.2.1, ())) ((v3, (v.1.2.1, ())), ()))))
 (getO c.1.1 (isub .i64 c.1.2.2.1 (1 : Int)) fun v4 => (bnd (f_spec_CommonOf (v4.1, (c.2.1.1, ()))) fun r5 => (kk ((c.1.1, (c.1.2.1, (c.1.2.2.1, (c.1.2.2.2.1, (c.1.2.2.2.2.1, (c.1.2.2.2.2.2.1, (c.1.2.2.2.2.2.2.1, ()))))))), (c.2.1, ())) ((v.1.1, (r5.1.1, ())), ())))))
abbrev f_spec_l6Block_l4c : Desc := ⟨[], []⟩
abbrev f_spec_l6Block_l4v : Desc := ⟨[(0, .v (.sl kdItem)), (3, .v .str), (4, .v .str), (8, .v (.sl kdItem)), (9, .v (.int .i64)), (10, .v (.int .i64))], []⟩
abbrev f_spec_l6Block_l4e : List (Ek × Desc) := [(.exit 0, ⟨[(3, .v .str), (4, .v .str)], []⟩)]
def f_spec_l6Block_l4 (R : Type) (c : (Unit × Unit)) (v : (((List DItem) × ByteArray × ByteArray × (List DItem) × Int × Int × Unit) × Unit)) (kk : (Unit × Unit) → ((((List DItem) × ByteArray × ByteArray × (List DItem) × Int × Int × Unit) × Unit) ⊕ ((ByteArray × ByteArray × Unit) × Unit)) → Option R) : Option R :=
 (cond (ilt v.1.2.2.2.2.2.1 v.1.2.2.2.2.1)
 (getO v.1.2.2.2.1 v.1.2.2.2.2.2.1 fun v1 => (f_spec_l6Block_i8 _ ((v.1.1, (v.1.2.1, (v.1.2.2.2.2.2.1, (v.1.2.2.2.1, (v.1.2.2.2.2.1, (v.1.2.2.2.2.2.1, ((ieq (irem .i64 v.1.2.2.2.2.2.1 (4 : Int)) (0 : Int)), ()))))))), (v1, ())) ((v.1.2.2.1, ((0 : Int), ())), ()) fun c2 o3 =>
 (bnd (f_spec_l2Var (o3.1.2.1, ())) fun r4 => (bnd (f_spec_l2Var ((isub .i64 (slen c2.2.1.1) o3.1.2.1), ())) fun r5 => (catO r4.1.1 r5.1.1 fun v6 => (bnd (f_spec_l2Var ((iadd .i64 (imul .i64 (2 : Int) c2.2.1.2.1) c2.2.1.2.2.1), ())) fun r7 => (catO v6 r7.1.1 fun v8 => (bnd (f_spec_l2Var ((slen c2.2.1.2.2.2.1), ())) fun r9 => (catO v8 r9.1.1 fun v10 => (req (decide ((0 : Int) ≤ o3.1.2.1) && decide (o3.1.2.1 ≤ ((ByteArray.size c2.2.1.1) : Int))) (catO v10 (ByteArray.extract c2.2.1.1 (Int.toNat o3.1.2.1) (ByteArray.size c2.2.1.1)) fun v11 => (catO v11 c2.2.1.2.2.2.1 fun v12 => (catO c2.1.2.1 v12 fun v13 => (kk ((), ()) (.inl ((c2.1.1, (v13, (o3.1.1, (c2.1.2.2.2.1, (c2.1.2.2.2.2.1, ((iadd .i64 c2.1.2.2.2.2.2.1 (1 : Int)), ())))))), ()))))))))))))))))
 (kk ((), ()) (.inr ((v.1.2.1, (v.1.2.2.1, ())), ()))))
def f_spec_l6Block (x : ((List DItem) × Unit)) : Option ((ByteArray × Unit) × Unit) :=
 (loopF (c := f_spec_l6Block_l4c) (v := f_spec_l6Block_l4v) (ex := f_spec_l6Block_l4e) f_spec_l6Block_l4 _ ((), ()) ((x.1, ((⟨#[]⟩ : ByteArray), ((⟨#[]⟩ : ByteArray), (x.1, ((llen x.1), ((0 : Int), ())))))), ()) fun c14 o15 =>
 (bnd (f_spec_l6Two ((iquo .i64 (slen o15.1.2.1) (2 : Int)), ())) fun r16 => (catO o15.1.2.1 r16.1.1 fun v17 => (catO o15.1.1 v17 fun v18 => (bnd (f_spec_l2Sum (v18, ())) fun r19 => (bnd (f_spec_l2Word (r19.1.1, ())) fun r20 => (catO v18 r20.1.1 fun v21 => (some ((v21, ()), ())))))))))
def sg59 : Sig := ⟨ins59, res59, f_spec_l6Block⟩
abbrev ins62 : List Pm := [.val (.sl kdItem)]
abbrev res62 : List (K × Mk) := [((.sl .str), (.o .s))]
abbrev f_spec_l7Keys_i6c : Desc := ⟨[(0, .v (.sl kdItem)), (3, .al 3 []), (5, .ptr 5 []), (6, .v (.sl kdItem)), (7, .v (.int .i64)), (8, .v (.int .i64)), (25, .v .bool)], [(5, ⟨kdItem, .s, true⟩)]⟩
abbrev f_spec_l7Keys_i6v : Desc := ⟨[], [(3, ⟨(.sl .str), (.o .s), false⟩)]⟩
abbrev f_spec_l7Keys_i6e : List (Ek × Desc) := [(.norm, ⟨[], [(3, ⟨(.sl .str), (.o .s), false⟩)]⟩)]
def f_spec_l7Keys_i6 (R : Type) (c : (((List DItem) × (List DItem) × Int × Int × Bool × Unit) × (DItem × Unit))) (v : (Unit × ((List ByteArray) × Unit))) (kk : (((List DItem) × (List DItem) × Int × Int × Bool × Unit) × (DItem × Unit)) → (Unit × ((List ByteArray) × Unit)) → Option R) : Option R :=
 (cond c.1.2.2.2.2.1
 (req (decide (List.length v.2.1 + List.length [c.2.1.1] ≤ 17179869184)) (kk ((c.1.1, (c.1.2.1, (c.1.2.2.1, (c.1.2.2.2.1, (c.1.2.2.2.2.1, ()))))), (c.2.1, ())) ((), ((v.2.1 ++ [c.2.1.1]), ()))))
 (kk ((c.1.1, (c.1.2.1, (c.1.2.2.1, (c.1.2.2.2.1, (c.1.2.2.2.2.1, ()))))), (c.2.1, ())) ((), (v.2.1, ()))))
abbrev f_spec_l7Keys_l3c : Desc := ⟨[(3, .al 3 [])], []⟩
abbrev f_spec_l7Keys_l3v : Desc := ⟨[(0, .v (.sl kdItem)), (6, .v (.sl kdItem)), (7, .v (.int .i64)), (8, .v (.int .i64))], [(3, ⟨(.sl .str), (.o .s), false⟩)]⟩
abbrev f_spec_l7Keys_l3e : List (Ek × Desc) := [(.exit 0, ⟨[], [(3, ⟨(.sl .str), (.o .s), false⟩)]⟩)]
def f_spec_l7Keys_l3 (R : Type) (c : (Unit × Unit)) (v : (((List DItem) × (List DItem) × Int × Int × Unit) × ((List ByteArray) × Unit))) (kk : (Unit × Unit) → ((((List DItem) × (List DItem) × Int × Int × Unit) × ((List ByteArray) × Unit)) ⊕ (Unit × ((List ByteArray) × Unit))) → Option R) : Option R :=
 (cond (ilt v.1.2.2.2.1 v.1.2.2.1)
 (getO v.1.2.1 v.1.2.2.2.1 fun v1 => (cond (ieq v.1.2.2.2.1 (0 : Int))
 (f_spec_l7Keys_i6 _ ((v.1.1, (v.1.2.1, (v.1.2.2.1, (v.1.2.2.2.1, (true, ()))))), (v1, ())) ((), (v.2.1, ())) fun c2 o3 =>
 (kk ((), ()) (.inl ((c2.1.1, (c2.1.2.1, (c2.1.2.2.1, ((iadd .i64 c2.1.2.2.2.1 (1 : Int)), ())))), (o3.2.1, ())))))
 (getO v.1.1 (isub .i64 v.1.2.2.2.1 (1 : Int)) fun v4 => (f_spec_l7Keys_i6 _ ((v.1.1, (v.1.2.1, (v.1.2.2.1, (v.1.2.2.2.1, ((!seq v4.1 v1.1), ()))))), (v1, ())) ((), (v.2.1, ())) fun c5 o6 =>
 (kk ((), ()) (.inl ((c5.1.1, (c5.1.2.1, (c5.1.2.2.1, ((iadd .i64 c5.1.2.2.2.1 (1 : Int)), ())))), (o6.2.1, ()))))))))
 (kk ((), ()) (.inr ((), (v.2.1, ())))))
def f_spec_l7Keys (x : ((List DItem) × Unit)) : Option (((List ByteArray) × Unit) × Unit) :=
 (loopF (c := f_spec_l7Keys_l3c) (v := f_spec_l7Keys_l3v) (ex := f_spec_l7Keys_l3e) f_spec_l7Keys_l3 _ ((), ()) ((x.1, (x.1, ((llen x.1), ((0 : Int), ())))), (([] : List ByteArray), ())) fun c7 o8 =>
 (some ((o8.2.1, ()), ())))
def sg62 : Sig := ⟨ins62, res62, f_spec_l7Keys⟩
abbrev ins109 : List Pm := [.val (.int .i64)]
abbrev res109 : List (K × Mk) := [(.bool, .s)]
def f_spec_l5Hashes (x : (Int × Unit)) : Option ((Bool × Unit) × Unit) :=
 (bnd (f_spec_l1In (x.1, ((1 : Int), ((8 : Int), ())))) fun r1 => (some ((r1.1.1, ()), ())))
def sg109 : Sig := ⟨ins109, res109, f_spec_l5Hashes⟩
abbrev ins92 : List Pm := [.val (.int .i64)]
abbrev res92 : List (K × Mk) := [(kdFilter, .s), (.bool, .s)]
def f_spec_NewFilter (x : (Int × Unit)) : Option ((DFilter × Bool × Unit) × Unit) :=
 (bnd (f_spec_l5Hashes (x.1, ())) fun r1 => (cond (!r1.1.1)
 (some ((((0 : Int), ((⟨#[]⟩ : ByteArray), ((0 : Int), ()))), (false, ())), ()))
 (req (decide ((32 : Int) = (32 : Int)) && (decide ((0 : Int) ≤ (32 : Int)) && decide ((32 : Int) ≤ (68719476736 : Int)))) (some (((x.1, ((strOf (List.replicate (Int.toNat (32 : Int)) ((0 : Int) : Int))), ((0 : Int), ()))), (true, ())), ())))))
def sg92 : Sig := ⟨ins92, res92, f_spec_NewFilter⟩
abbrev ins110 : List Pm := [.val .str, .val (.int .i64)]
abbrev res110 : List (K × Mk) := [((.sl (.int .i64)), (.o .s))]
abbrev f_spec_l5Places_l6c : Desc := ⟨[(1, .v (.int .i64)), (7, .v (.int .u32)), (8, .al 8 [])], []⟩
abbrev f_spec_l5Places_l6v : Desc := ⟨[(6, .v (.int .u32)), (9, .v (.int .i64))], [(8, ⟨(.sl (.int .i64)), (.o .s), false⟩)]⟩
abbrev f_spec_l5Places_l6e : List (Ek × Desc) := [(.exit 0, ⟨[], [(8, ⟨(.sl (.int .i64)), (.o .s), false⟩)]⟩)]
def f_spec_l5Places_l6 (R : Type) (c : ((Int × Int × Unit) × Unit)) (v : ((Int × Int × Unit) × ((List Int) × Unit))) (kk : ((Int × Int × Unit) × Unit) → (((Int × Int × Unit) × ((List Int) × Unit)) ⊕ (Unit × ((List Int) × Unit))) → Option R) : Option R :=
 (cond (ilt v.1.2.1 c.1.1)
 (req (decide (List.length v.2.1 + List.length [(IntKind.wrap .i64 (irem .u32 v.1.1 (256 : Int)))] ≤ 17179869184)) (kk ((c.1.1, (c.1.2.1, ())), ()) (.inl (((iadd .u32 v.1.1 c.1.2.1), ((iadd .i64 v.1.2.1 (1 : Int)), ())), ((v.2.1 ++ [(IntKind.wrap .i64 (irem .u32 v.1.1 (256 : Int)))]), ())))))
 (kk ((c.1.1, (c.1.2.1, ())), ()) (.inr ((), (v.2.1, ())))))
def f_spec_l5Places (x : (ByteArray × Int × Unit)) : Option (((List Int) × Unit) × Unit) :=
 (bnd (f_spec_l2Table ()) fun r1 => (bnd (f_spec_l2On (r1.1.1, ((4294967295 : Int), (x.1, ())))) fun r2 => (bnd (f_spec_l2On (r1.1.1, ((0 : Int), (x.1, ())))) fun r3 => (loopF (c := f_spec_l5Places_l6c) (v := f_spec_l5Places_l6v) (ex := f_spec_l5Places_l6e) f_spec_l5Places_l6 _ ((x.2.1, ((ior .u32 r3.1.1 (1 : Int)), ())), ()) (((inot .u32 r2.1.1), ((0 : Int), ())), (([] : List Int), ())) fun c4 o5 =>
 (some ((o5.2.1, ()), ()))))))
def sg110 : Sig := ⟨ins110, res110, f_spec_l5Places⟩
abbrev ins93 : List Pm := [.val kdFilter, .val .str]
abbrev res93 : List (K × Mk) := [(kdFilter, .s)]
abbrev f_spec_l5Add_l3c : Desc := ⟨[(2, .ptr 2 []), (4, .ptr 4 []), (5, .al 5 []), (14, .al 14 []), (15, .v (.int .i64))], [(2, ⟨kdFilter, .s, true⟩), (4, ⟨kdFilter, .s, true⟩), (14, ⟨(.sl (.int .i64)), (.o .s), false⟩)]⟩
abbrev f_spec_l5Add_l3v : Desc := ⟨[(16, .v (.int .i64))], [(5, ⟨(.sl (.int .u8)), (.o .s), false⟩)]⟩
abbrev f_spec_l5Add_l3e : List (Ek × Desc) := [(.exit 0, ⟨[], [(5, ⟨(.sl (.int .u8)), (.o .s), false⟩)]⟩)]
def f_spec_l5Add_l3 (R : Type) (c : ((Int × Unit) × (DFilter × DFilter × (List Int) × Unit))) (v : ((Int × Unit) × ((List Int) × Unit))) (kk : ((Int × Unit) × (DFilter × DFilter × (List Int) × Unit)) → (((Int × Unit) × ((List Int) × Unit)) ⊕ (Unit × ((List Int) × Unit))) → Option R) : Option R :=
 (cond (ilt v.1.1 c.1.1)
 (getO c.2.2.2.1 v.1.1 fun _ => (bnd (c.2.2.2.1[(Int.toNat v.1.1)]?) fun v3 => (getO v.2.1 (iquo .i64 v3 (8 : Int)) fun _ => (bnd (v.2.1[(Int.toNat (iquo .i64 v3 (8 : Int)))]?) fun v5 => (req (ile (0 : Int) (IntKind.wrap .u64 (irem .i64 v3 (8 : Int)))) (getO v.2.1 (iquo .i64 v3 (8 : Int)) fun _ => (bnd (v.2.1[(Int.toNat (iquo .i64 v3 (8 : Int)))]?) fun v7 => (kk ((c.1.1, ()), (c.2.1, (c.2.2.1, (c.2.2.2.1, ())))) (.inl (((iadd .i64 v.1.1 (1 : Int)), ()), ((List.set v.2.1 (Int.toNat (iquo .i64 v3 (8 : Int))) (ior .u8 v5 (ishl .u8 (1 : Int) (IntKind.wrap .u64 (irem .i64 v3 (8 : Int)))))), ())))))))))))
 (kk ((c.1.1, ()), (c.2.1, (c.2.2.1, (c.2.2.2.1, ())))) (.inr ((), (v.2.1, ())))))
abbrev f_spec_l5Add_i9c : Desc := ⟨[(2, .ptr 2 []), (4, .ptr 4 []), (37, .v .bool)], [(4, ⟨kdFilter, .s, true⟩)]⟩
abbrev f_spec_l5Add_i9v : Desc := ⟨[], [(2, ⟨kdFilter, .s, true⟩)]⟩
abbrev f_spec_l5Add_i9e : List (Ek × Desc) := [(.norm, ⟨[], [(2, ⟨kdFilter, .s, true⟩)]⟩)]
def f_spec_l5Add_i9 (R : Type) (c : ((Bool × Unit) × (DFilter × Unit))) (v : (Unit × (DFilter × Unit))) (kk : ((Bool × Unit) × (DFilter × Unit)) → (Unit × (DFilter × Unit)) → Option R) : Option R :=
 (cond c.1.1
 (kk ((c.1.1, ()), (c.2.1, ())) ((), ((v.2.1.1, (v.2.1.2.1, ((iadd .i64 v.2.1.2.2.1 (1 : Int)), v.2.1.2.2.2))), ())))
 (kk ((c.1.1, ()), (c.2.1, ())) ((), (v.2.1, ()))))
def f_spec_l5Add (x : (DFilter × ByteArray × Unit)) : Option ((DFilter × Unit) × Unit) :=
 (cond (Nat.beq (ByteArray.size x.1.2.1) 0)
 none
 (bnd (f_spec_l5Places (x.2.1, (x.1.1, ()))) fun r1 => (loopF (c := f_spec_l5Add_l3c) (v := f_spec_l5Add_l3v) (ex := f_spec_l5Add_l3e) f_spec_l5Add_l3 _ (((llen r1.1.1), ()), (x.1, (((0 : Int), ((⟨#[]⟩ : ByteArray), ((0 : Int), ()))), (r1.1.1, ())))) (((0 : Int), ()), ((bytesOf x.1.2.1), ())) fun c8 o9 =>
 (f_spec_l5Add_i9 _ (((ilt c8.2.1.2.2.1 (1000000 : Int)), ()), (c8.2.2.1, ())) ((), ((c8.2.1.1, ((strOf o9.2.1), c8.2.1.2.2)), ())) fun c10 o11 =>
 (some ((o11.2.1, ()), ()))))))
def sg93 : Sig := ⟨ins93, res93, f_spec_l5Add⟩
abbrev ins61 : List Pm := [.val (.sl .str), .val (.int .i64)]
abbrev res61 : List (K × Mk) := [(kdFilter, .s), (.bool, .s)]
abbrev f_spec_FilterOf_l5c : Desc := ⟨[(4, .ptr 4 []), (6, .ptr 6 []), (23, .v (.sl .str)), (24, .v (.int .i64))], []⟩
abbrev f_spec_FilterOf_l5v : Desc := ⟨[(25, .v (.int .i64))], [(4, ⟨kdFilter, .s, true⟩), (6, ⟨kdFilter, .s, true⟩)]⟩
abbrev f_spec_FilterOf_l5e : List (Ek × Desc) := [(.ret, ⟨[(5, .v .bool)], [(4, ⟨kdFilter, .s, true⟩), (6, ⟨kdFilter, .s, true⟩)]⟩), (.exit 0, ⟨[], [(4, ⟨kdFilter, .s, true⟩), (6, ⟨kdFilter, .s, true⟩)]⟩)]
def f_spec_FilterOf_l5 (R : Type) (c : (((List ByteArray) × Int × Unit) × Unit)) (v : ((Int × Unit) × (DFilter × DFilter × Unit))) (kk : (((List ByteArray) × Int × Unit) × Unit) → (((Int × Unit) × (DFilter × DFilter × Unit)) ⊕ (((Bool × Unit) × (DFilter × DFilter × Unit)) ⊕ (Unit × (DFilter × DFilter × Unit)))) → Option R) : Option R :=
 (cond (ilt v.1.1 c.1.2.1)
 (getO c.1.1 v.1.1 fun v2 => (bnd (f_spec_l4Key (v2, ())) fun r3 => (cond (!r3.1.1)
 (kk ((c.1.1, (c.1.2.1, ())), ()) (.inr (.inl ((false, ()), (((0 : Int), ((⟨#[]⟩ : ByteArray), ((0 : Int), ()))), (v.2.2.1, ()))))))
 (bnd (f_spec_l5Add (v.2.2.1, (v2, ()))) fun r4 => (kk ((c.1.1, (c.1.2.1, ())), ()) (.inl (((iadd .i64 v.1.1 (1 : Int)), ()), (v.2.1, (r4.1.1, ())))))))))
 (kk ((c.1.1, (c.1.2.1, ())), ()) (.inr (.inr ((), (v.2.1, (v.2.2.1, ())))))))
def f_spec_FilterOf (x : ((List ByteArray) × Int × Unit)) : Option ((DFilter × Bool × Unit) × Unit) :=
 (bnd (f_spec_NewFilter (x.2.1, ())) fun r1 => (cond (!r1.1.2.1)
 (some ((((0 : Int), ((⟨#[]⟩ : ByteArray), ((0 : Int), ()))), (false, ())), ()))
 (cond (ilt (200 : Int) (llen x.1))
 (some ((((0 : Int), ((⟨#[]⟩ : ByteArray), ((0 : Int), ()))), (false, ())), ()))
 (loopF (c := f_spec_FilterOf_l5c) (v := f_spec_FilterOf_l5v) (ex := f_spec_FilterOf_l5e) f_spec_FilterOf_l5 _ ((x.1, ((llen x.1), ())), ()) (((0 : Int), ()), (((0 : Int), ((⟨#[]⟩ : ByteArray), ((0 : Int), ()))), (r1.1.1, ()))) fun c5 o6 =>
 (match o6 with
 | .inl y7 => (some ((y7.2.1, (y7.1.1, ())), ()))
 | .inr z8 => (some ((z8.2.2.1, (true, ())), ())))))))
def sg61 : Sig := ⟨ins61, res61, f_spec_FilterOf⟩
abbrev ins63 : List Pm := [.val (.int .i64)]
abbrev res63 : List (K × Mk) := [(.str, .s)]
def f_spec_l7Word (x : (Int × Unit)) : Option ((ByteArray × Unit) × Unit) :=
 (bnd (f_spec_l2Word ((IntKind.wrap .u32 x.1), ())) fun r1 => (some ((r1.1.1, ()), ())))
def sg63 : Sig := ⟨ins63, res63, f_spec_l7Word⟩
abbrev ins64 : List Pm := [.val .str]
abbrev res64 : List (K × Mk) := [(.str, .s)]
def f_spec_l2Frame (x : (ByteArray × Unit)) : Option ((ByteArray × Unit) × Unit) :=
 (bnd (f_spec_l2Var ((slen x.1), ())) fun r1 => (bnd (f_spec_l2Sum (x.1, ())) fun r2 => (bnd (f_spec_l2Word (r2.1.1, ())) fun r3 => (catO r1.1.1 r3.1.1 fun v4 => (catO v4 x.1 fun v5 => (some ((v5, ()), ())))))))
def sg64 : Sig := ⟨ins64, res64, f_spec_l2Frame⟩
abbrev ins25 : List Pm := [.val (.sl kdItem)]
abbrev res25 : List (K × Mk) := [(.str, .s)]
abbrev f_spec_l7Table_i8c : Desc := ⟨[(0, .v (.sl kdItem)), (3, .v .str), (4, .v .str), (5, .v (.int .i64)), (23, .v .bool)], []⟩
abbrev f_spec_l7Table_i8v : Desc := ⟨[(6, .v (.int .i64))], []⟩
abbrev f_spec_l7Table_i8e : List (Ek × Desc) := [(.norm, ⟨[(6, .v (.int .i64))], []⟩)]
def f_spec_l7Table_i8 (R : Type) (c : (((List DItem) × ByteArray × ByteArray × Int × Bool × Unit) × Unit)) (v : ((Int × Unit) × Unit)) (kk : (((List DItem) × ByteArray × ByteArray × Int × Bool × Unit) × Unit) → ((Int × Unit) × Unit) → Option R) : Option R :=
 (cond c.1.2.2.2.2.1
 (kk ((c.1.1, (c.1.2.1, (c.1.2.2.1, (c.1.2.2.2.1, (c.1.2.2.2.2.1, ()))))), ()) (((llen c.1.1), ()), ()))
 (kk ((c.1.1, (c.1.2.1, (c.1.2.2.1, (c.1.2.2.2.1, (c.1.2.2.2.2.1, ()))))), ()) ((v.1.1, ()), ())))
abbrev f_spec_l7Table_l4c : Desc := ⟨[], []⟩
abbrev f_spec_l7Table_l4v : Desc := ⟨[(0, .v (.sl kdItem)), (3, .v .str), (4, .v .str), (5, .v (.int .i64))], []⟩
abbrev f_spec_l7Table_l4e : List (Ek × Desc) := [(.exit 0, ⟨[(0, .v (.sl kdItem)), (3, .v .str), (4, .v .str)], []⟩)]
def f_spec_l7Table_l4 (R : Type) (c : (Unit × Unit)) (v : (((List DItem) × ByteArray × ByteArray × Int × Unit) × Unit)) (kk : (Unit × Unit) → ((((List DItem) × ByteArray × ByteArray × Int × Unit) × Unit) ⊕ (((List DItem) × ByteArray × ByteArray × Unit) × Unit)) → Option R) : Option R :=
 (cond (ilt v.1.2.2.2.1 (llen v.1.1))
 (f_spec_l7Table_i8 _ ((v.1.1, (v.1.2.1, (v.1.2.2.1, (v.1.2.2.2.1, ((ilt (llen v.1.1) (iadd .i64 v.1.2.2.2.1 (8 : Int))), ()))))), ()) (((iadd .i64 v.1.2.2.2.1 (8 : Int)), ()), ()) fun c1 o2 =>
 (req (decide ((0 : Int) ≤ c1.1.2.2.2.1) && (decide (c1.1.2.2.2.1 ≤ o2.1.1) && decide (o2.1.1 ≤ ((List.length c1.1.1) : Int)))) (bnd (f_spec_l6Block ((List.take ((Int.toNat o2.1.1) - (Int.toNat c1.1.2.2.2.1)) (List.drop (Int.toNat c1.1.2.2.2.1) c1.1.1)), ())) fun r3 => (getO c1.1.1 (isub .i64 o2.1.1 (1 : Int)) fun v4 => (bnd (f_spec_l2Var ((slen v4.1), ())) fun r5 => (catO r5.1.1 v4.1 fun v6 => (bnd (f_spec_l2Var (v4.2.1, ())) fun r7 => (catO v6 r7.1.1 fun v8 => (bnd (f_spec_l2Var ((slen c1.1.2.1), ())) fun r9 => (catO v8 r9.1.1 fun v10 => (bnd (f_spec_l2Var ((slen r3.1.1), ())) fun r11 => (catO v10 r11.1.1 fun v12 => (catO c1.1.2.2.1 v12 fun v13 => (catO c1.1.2.1 r3.1.1 fun v14 => (kk ((), ()) (.inl ((c1.1.1, (v14, (v13, ((iadd .i64 c1.1.2.2.2.1 (8 : Int)), ())))), ())))))))))))))))))
 (kk ((), ()) (.inr ((v.1.1, (v.1.2.1, (v.1.2.2.1, ()))), ()))))
def f_spec_l7Table (x : ((List DItem) × Unit)) : Option ((ByteArray × Unit) × Unit) :=
 (loopF (c := f_spec_l7Table_l4c) (v := f_spec_l7Table_l4v) (ex := f_spec_l7Table_l4e) f_spec_l7Table_l4 _ ((), ()) ((x.1, ((⟨#[]⟩ : ByteArray), ((⟨#[]⟩ : ByteArray), ((0 : Int), ())))), ()) fun c15 o16 =>
 (bnd (f_spec_l7Keys (o16.1.1, ())) fun r17 => (bnd (f_spec_FilterOf (r17.1.1, ((4 : Int), ()))) fun r18 => (bnd (f_spec_l7Word ((slen o16.1.2.1), ())) fun r19 => (bnd (f_spec_l2Frame (o16.1.2.2.1, ())) fun r20 => (catO o16.1.2.1 r20.1.1 fun v21 => (bnd (f_spec_l2Frame (r18.1.1.2.1, ())) fun r22 => (catO v21 r22.1.1 fun v23 => (catO v23 r19.1.1 fun v24 => (bnd (f_spec_l2Sum (r19.1.1, ())) fun r25 => (bnd (f_spec_l2Word (r25.1.1, ())) fun r26 => (catO v24 r26.1.1 fun v27 => (some ((v27, ()), ()))))))))))))))
def sg25 : Sig := ⟨ins25, res25, f_spec_l7Table⟩
abbrev ins7 : List Pm := [.val (.sl kdItem)]
abbrev res7 : List (K × Mk) := [(.str, .s), (.bool, .s)]
def f_spec_TableBytes (x : ((List DItem) × Unit)) : Option ((ByteArray × Bool × Unit) × Unit) :=
 (bnd (f_spec_l7Good (x.1, ())) fun r1 => (cond (!r1.1.1)
 (some (((⟨#[]⟩ : ByteArray), (false, ())), ()))
 (bnd (f_spec_l7Table (x.1, ())) fun r2 => (some ((r2.1.1, (true, ())), ())))))
def sg7 : Sig := ⟨ins7, res7, f_spec_TableBytes⟩
abbrev ins67 : List Pm := [.val .str]
abbrev res67 : List (K × Mk) := [((.int .i64), .s)]
abbrev f_impl_wordOf_l3c : Desc := ⟨[(0, .v .str)], []⟩
abbrev f_impl_wordOf_l3v : Desc := ⟨[(3, .v (.int .i64)), (4, .v (.int .i64))], []⟩
abbrev f_impl_wordOf_l3e : List (Ek × Desc) := [(.exit 0, ⟨[(3, .v (.int .i64))], []⟩)]
def f_impl_wordOf_l3 (R : Type) (c : ((ByteArray × Unit) × Unit)) (v : ((Int × Int × Unit) × Unit)) (kk : ((ByteArray × Unit) × Unit) → (((Int × Int × Unit) × Unit) ⊕ ((Int × Unit) × Unit)) → Option R) : Option R :=
 (cond (ile (0 : Int) v.1.2.1)
 (getB c.1.1 v.1.2.1 fun v1 => (kk ((c.1.1, ()), ()) (.inl (((ior .i64 (ishl .i64 v.1.1 (8 : Int)) (IntKind.wrap .i64 v1)), ((isub .i64 v.1.2.1 (1 : Int)), ())), ()))))
 (kk ((c.1.1, ()), ()) (.inr ((v.1.1, ()), ()))))
def f_impl_wordOf (x : (ByteArray × Unit)) : Option ((Int × Unit) × Unit) :=
 (loopF (c := f_impl_wordOf_l3c) (v := f_impl_wordOf_l3v) (ex := f_impl_wordOf_l3e) f_impl_wordOf_l3 _ ((x.1, ()), ()) (((0 : Int), ((isub .i64 (slen x.1) (1 : Int)), ())), ()) fun c2 o3 =>
 (some ((o3.1.1, ()), ())))
def sg67 : Sig := ⟨ins67, res67, f_impl_wordOf⟩
abbrev ins96 : List Pm := [.val .str]
abbrev res96 : List (K × Mk) := [((.int .i64), .s), ((.int .i64), .s)]
abbrev f_impl_TakeVar_l3c : Desc := ⟨[(0, .v .str)], []⟩
abbrev f_impl_TakeVar_l3v : Desc := ⟨[(4, .v (.int .i64)), (5, .v (.int .i64))], []⟩
abbrev f_impl_TakeVar_l3e : List (Ek × Desc) := [(.ret, ⟨[(2, .v (.int .i64)), (3, .v (.int .i64))], []⟩), (.exit 0, ⟨[], []⟩)]
def f_impl_TakeVar_l3 (R : Type) (c : ((ByteArray × Unit) × Unit)) (v : ((Int × Int × Unit) × Unit)) (kk : ((ByteArray × Unit) × Unit) → (((Int × Int × Unit) × Unit) ⊕ (((Int × Int × Unit) × Unit) ⊕ (Unit × Unit))) → Option R) : Option R :=
 (cond (ilt v.1.2.1 (imin (slen c.1.1) (9 : Int)))
 (getB c.1.1 v.1.2.1 fun v1 => (req (ile (0 : Int) (imul .i64 (7 : Int) v.1.2.1)) (cond (ilt (IntKind.wrap .i64 v1) (128 : Int))
 (cond (ilt (0 : Int) v.1.2.1)
 (cond (ieq (IntKind.wrap .i64 v1) (0 : Int))
 (kk ((c.1.1, ()), ()) (.inr (.inl (((0 : Int), ((0 : Int), ())), ()))))
 (kk ((c.1.1, ()), ()) (.inr (.inl (((ior .i64 v.1.1 (ishl .i64 (irem .i64 (IntKind.wrap .i64 v1) (128 : Int)) (imul .i64 (7 : Int) v.1.2.1))), ((iadd .i64 v.1.2.1 (1 : Int)), ())), ())))))
 (kk ((c.1.1, ()), ()) (.inr (.inl (((ior .i64 v.1.1 (ishl .i64 (irem .i64 (IntKind.wrap .i64 v1) (128 : Int)) (imul .i64 (7 : Int) v.1.2.1))), ((iadd .i64 v.1.2.1 (1 : Int)), ())), ())))))
 (kk ((c.1.1, ()), ()) (.inl (((ior .i64 v.1.1 (ishl .i64 (irem .i64 (IntKind.wrap .i64 v1) (128 : Int)) (imul .i64 (7 : Int) v.1.2.1))), ((iadd .i64 v.1.2.1 (1 : Int)), ())), ()))))))
 (kk ((c.1.1, ()), ()) (.inr (.inr ((), ())))))
def f_impl_TakeVar (x : (ByteArray × Unit)) : Option ((Int × Int × Unit) × Unit) :=
 (loopF (c := f_impl_TakeVar_l3c) (v := f_impl_TakeVar_l3v) (ex := f_impl_TakeVar_l3e) f_impl_TakeVar_l3 _ ((x.1, ()), ()) (((0 : Int), ((0 : Int), ())), ()) fun c2 o3 =>
 (match o3 with
 | .inl y4 => (some ((y4.1.1, (y4.1.2.1, ())), ()))
 | .inr z5 => (some (((0 : Int), ((0 : Int), ())), ()))))
def sg96 : Sig := ⟨ins96, res96, f_impl_TakeVar⟩
abbrev ins68 : List Pm := [.val .str]
abbrev res68 : List (K × Mk) := [(.str, .s), ((.int .i64), .s), (.bool, .s)]
def f_impl_TakeFrame (x : (ByteArray × Unit)) : Option ((ByteArray × Int × Bool × Unit) × Unit) :=
 (bnd (f_impl_TakeVar (x.1, ())) fun r1 => (cond (ieq r1.1.2.1 (0 : Int))
 (some (((⟨#[]⟩ : ByteArray), ((0 : Int), (false, ()))), ()))
 (cond (ilt (1000 : Int) r1.1.1)
 (some (((⟨#[]⟩ : ByteArray), ((0 : Int), (false, ()))), ()))
 (cond (ilt (slen x.1) (iadd .i64 (iadd .i64 r1.1.2.1 (4 : Int)) r1.1.1))
 (some (((⟨#[]⟩ : ByteArray), ((0 : Int), (false, ()))), ()))
 (req (decide ((0 : Int) ≤ (iadd .i64 r1.1.2.1 (4 : Int))) && (decide ((iadd .i64 r1.1.2.1 (4 : Int)) ≤ (iadd .i64 (iadd .i64 r1.1.2.1 (4 : Int)) r1.1.1)) && decide ((iadd .i64 (iadd .i64 r1.1.2.1 (4 : Int)) r1.1.1) ≤ ((ByteArray.size x.1) : Int)))) (bnd (f_impl_SumOf ((ByteArray.extract x.1 (Int.toNat (iadd .i64 r1.1.2.1 (4 : Int))) (Int.toNat (iadd .i64 (iadd .i64 r1.1.2.1 (4 : Int)) r1.1.1))), ())) fun r2 => (bnd (f_impl_lowFirst (r2.1.1, ((4 : Int), ()))) fun r3 => (req (decide ((0 : Int) ≤ r1.1.2.1) && (decide (r1.1.2.1 ≤ (iadd .i64 r1.1.2.1 (4 : Int))) && decide ((iadd .i64 r1.1.2.1 (4 : Int)) ≤ ((ByteArray.size x.1) : Int)))) (cond (!seq r3.1.1 (ByteArray.extract x.1 (Int.toNat r1.1.2.1) (Int.toNat (iadd .i64 r1.1.2.1 (4 : Int)))))
 (some (((⟨#[]⟩ : ByteArray), ((0 : Int), (false, ()))), ()))
 (some (((ByteArray.extract x.1 (Int.toNat (iadd .i64 r1.1.2.1 (4 : Int))) (Int.toNat (iadd .i64 (iadd .i64 r1.1.2.1 (4 : Int)) r1.1.1))), ((iadd .i64 (iadd .i64 r1.1.2.1 (4 : Int)) r1.1.1), (true, ()))), ())))))))))))
def sg68 : Sig := ⟨ins68, res68, f_impl_TakeFrame⟩
abbrev ins98 : List Pm := [.mptr kdtaker .s]
abbrev res98 : List (K × Mk) := [((.int .i64), .s)]
def f_impl_taker_number (x : (Dtaker × Unit)) : Option ((Int × Unit) × (Dtaker × Unit)) :=
 (bnd (f_impl_TakeVar (x.1.1, ())) fun r1 => (cond x.1.2.1
 (some (((0 : Int), ()), ((x.1.1, (true, x.1.2.2)), ())))
 (cond (ieq r1.1.2.1 (0 : Int))
 (some (((0 : Int), ()), ((x.1.1, ((ieq r1.1.2.1 (0 : Int)), x.1.2.2)), ())))
 (req (decide ((0 : Int) ≤ r1.1.2.1) && decide (r1.1.2.1 ≤ ((ByteArray.size x.1.1) : Int))) (some ((r1.1.1, ()), (((ByteArray.extract x.1.1 (Int.toNat r1.1.2.1) (ByteArray.size x.1.1)), ((ieq r1.1.2.1 (0 : Int)), x.1.2.2)), ())))))))
def sg98 : Sig := ⟨ins98, res98, f_impl_taker_number⟩
abbrev ins111 : List Pm := [.mptr kdtaker .s, .val (.int .i64)]
abbrev res111 : List (K × Mk) := [(.str, .s)]
def f_impl_taker_text (x : (Dtaker × Int × Unit)) : Option ((ByteArray × Unit) × (Dtaker × Unit)) :=
 (cond x.1.2.1
 (some (((⟨#[]⟩ : ByteArray), ()), ((x.1.1, (true, x.1.2.2)), ())))
 (cond (ilt (slen x.1.1) x.2.1)
 (some (((⟨#[]⟩ : ByteArray), ()), ((x.1.1, ((ilt (slen x.1.1) x.2.1), x.1.2.2)), ())))
 (req (decide ((0 : Int) ≤ x.2.1) && decide (x.2.1 ≤ ((ByteArray.size x.1.1) : Int))) (req (decide ((0 : Int) ≤ x.2.1) && decide (x.2.1 ≤ ((ByteArray.size x.1.1) : Int))) (some (((ByteArray.extract x.1.1 (0 : Nat) (Int.toNat x.2.1)), ()), (((ByteArray.extract x.1.1 (Int.toNat x.2.1) (ByteArray.size x.1.1)), ((ilt (slen x.1.1) x.2.1), x.1.2.2)), ())))))))
def sg111 : Sig := ⟨ins111, res111, f_impl_taker_text⟩
abbrev ins97 : List Pm := [.mptr kdtaker .s]
abbrev res97 : List (K × Mk) := [(.str, .s)]
def f_impl_taker_sized (x : (Dtaker × Unit)) : Option ((ByteArray × Unit) × (Dtaker × Unit)) :=
 (bnd (f_impl_taker_number (x.1, ())) fun r1 => (bnd (f_impl_taker_text (r1.2.1, (r1.1.1, ()))) fun r2 => (some ((r2.1.1, ()), (r2.2.1, ())))))
def sg97 : Sig := ⟨ins97, res97, f_impl_taker_sized⟩
abbrev ins100 : List Pm := [.mptr kdtaker .s]
abbrev res100 : List (K × Mk) := [(.bool, .s)]
def f_impl_taker_whole (x : (Dtaker × Unit)) : Option ((Bool × Unit) × (Dtaker × Unit)) :=
 (cond (!x.1.2.1)
 (some (((seq x.1.1 (⟨#[]⟩ : ByteArray)), ()), (x.1, ())))
 (some ((false, ()), (x.1, ()))))
def sg100 : Sig := ⟨ins100, res100, f_impl_taker_whole⟩
abbrev ins119 : List Pm := [.val .str]
abbrev res119 : List (K × Mk) := [((.sl kdItem), (.o .s)), (.bool, .s)]
abbrev f_impl_readItems_l2c : Desc := ⟨[(4, .ptr 15 []), (5, .al 5 [])], []⟩
abbrev f_impl_readItems_l2v : Desc := ⟨[(6, .v .str)], [(5, ⟨(.sl kdItem), (.o .s), false⟩), (15, ⟨kdtaker, .s, true⟩)]⟩
abbrev f_impl_readItems_l2e : List (Ek × Desc) := [(.ret, ⟨[(2, .al 2 []), (3, .v .bool)], [(2, ⟨(.sl kdItem), (.o .s), false⟩), (5, ⟨(.sl kdItem), (.o .s), false⟩), (15, ⟨kdtaker, .s, true⟩)]⟩), (.exit 0, ⟨[], [(5, ⟨(.sl kdItem), (.o .s), false⟩), (15, ⟨kdtaker, .s, true⟩)]⟩)]
def f_impl_readItems_l2 (R : Type) (c : (Unit × Unit)) (v : ((ByteArray × Unit) × ((List DItem) × Dtaker × Unit))) (kk : (Unit × Unit) → (((ByteArray × Unit) × ((List DItem) × Dtaker × Unit)) ⊕ (((Bool × Unit) × ((List DItem) × (List DItem) × Dtaker × Unit)) ⊕ (Unit × ((List DItem) × Dtaker × Unit)))) → Option R) : Option R :=
 (cond (!v.2.2.1.2.1)
 (cond (!seq v.2.2.1.1 (⟨#[]⟩ : ByteArray))
 (cond (ile (llen v.2.1) (40 : Int))
 (bnd (f_impl_taker_number (v.2.2.1, ())) fun r1 => (bnd (f_impl_taker_number (r1.2.1, ())) fun r2 => (bnd (f_impl_taker_number (r2.2.1, ())) fun r3 => (bnd (f_impl_taker_number (r3.2.1, ())) fun r4 => (bnd (f_impl_taker_text (r4.2.1, (r2.1.1, ()))) fun r5 => (bnd (f_impl_taker_text (r5.2.1, (r4.1.1, ()))) fun r6 => (cond r6.2.1.2.1
 (kk ((), ()) (.inr (.inl ((false, ()), (([] : List DItem), (v.2.1, ((r6.2.1.1, (true, r6.2.1.2.2)), ())))))))
 (cond (ilt (slen v.1.1) r1.1.1)
 (kk ((), ()) (.inr (.inl ((false, ()), (([] : List DItem), (v.2.1, ((r6.2.1.1, ((ilt (slen v.1.1) r1.1.1), r6.2.1.2.2)), ())))))))
 (req (decide ((0 : Int) ≤ r1.1.1) && decide (r1.1.1 ≤ ((ByteArray.size v.1.1) : Int))) (catO (ByteArray.extract v.1.1 (0 : Nat) (Int.toNat r1.1.1)) r5.1.1 fun v7 => (req (decide (List.length v.2.1 + List.length [(v7, ((iquo .i64 r3.1.1 (2 : Int)), ((irem .i64 r3.1.1 (2 : Int)), (r6.1.1, ()))))] ≤ 17179869184)) (kk ((), ()) (.inl ((v7, ()), ((v.2.1 ++ [(v7, ((iquo .i64 r3.1.1 (2 : Int)), ((irem .i64 r3.1.1 (2 : Int)), (r6.1.1, ()))))]), ((r6.2.1.1, ((ilt (slen v.1.1) r1.1.1), r6.2.1.2.2)), ()))))))))))))))))
 (kk ((), ()) (.inr (.inr ((), (v.2.1, (v.2.2.1, ())))))))
 (kk ((), ()) (.inr (.inr ((), (v.2.1, (v.2.2.1, ())))))))
 (kk ((), ()) (.inr (.inr ((), (v.2.1, (v.2.2.1, ())))))))
def f_impl_readItems (x : (ByteArray × Unit)) : Option (((List DItem) × Bool × Unit) × Unit) :=
 (loopF (c := f_impl_readItems_l2c) (v := f_impl_readItems_l2v) (ex := f_impl_readItems_l2e) f_impl_readItems_l2 _ ((), ()) (((⟨#[]⟩ : ByteArray), ()), (([] : List DItem), ((x.1, (false, ())), ()))) fun c8 o9 =>
 (match o9 with
 | .inl y10 => (some ((y10.2.1, (y10.1.1, ())), ()))
 | .inr z11 => (bnd (f_impl_taker_whole (z11.2.2.1, ())) fun r12 => (some ((z11.2.1, (r12.1.1, ())), ())))))
def sg119 : Sig := ⟨ins119, res119, f_impl_readItems⟩
abbrev ins112 : List Pm := [.val .str]
abbrev res112 : List (K × Mk) := [((.sl kdItem), (.o .s)), ((.sl (.int .i64)), (.o .s)), (.bool, .s)]
def f_impl_readBlock (x : (ByteArray × Unit)) : Option (((List DItem) × (List Int) × Bool × Unit) × Unit) :=
 (cond (ilt (isub .i64 (isub .i64 (slen x.1) (4 : Int)) (2 : Int)) (0 : Int))
 (some ((([] : List DItem), (([] : List Int), (false, ()))), ()))
 (req (decide ((0 : Int) ≤ (isub .i64 (isub .i64 (slen x.1) (4 : Int)) (2 : Int))) && (decide ((isub .i64 (isub .i64 (slen x.1) (4 : Int)) (2 : Int)) ≤ (iadd .i64 (isub .i64 (isub .i64 (slen x.1) (4 : Int)) (2 : Int)) (2 : Int))) && decide ((iadd .i64 (isub .i64 (isub .i64 (slen x.1) (4 : Int)) (2 : Int)) (2 : Int)) ≤ ((ByteArray.size x.1) : Int)))) (bnd (f_impl_wordOf ((ByteArray.extract x.1 (Int.toNat (isub .i64 (isub .i64 (slen x.1) (4 : Int)) (2 : Int))) (Int.toNat (iadd .i64 (isub .i64 (isub .i64 (slen x.1) (4 : Int)) (2 : Int)) (2 : Int)))), ())) fun r1 => (cond (ilt (isub .i64 (isub .i64 (slen x.1) (4 : Int)) (2 : Int)) (imul .i64 r1.1.1 (2 : Int)))
 (some ((([] : List DItem), (([] : List Int), (false, ()))), ()))
 (req (decide ((0 : Int) ≤ (isub .i64 (isub .i64 (isub .i64 (slen x.1) (4 : Int)) (2 : Int)) (imul .i64 r1.1.1 (2 : Int)))) && decide ((isub .i64 (isub .i64 (isub .i64 (slen x.1) (4 : Int)) (2 : Int)) (imul .i64 r1.1.1 (2 : Int))) ≤ ((ByteArray.size x.1) : Int))) (bnd (f_impl_readItems ((ByteArray.extract x.1 (0 : Nat) (Int.toNat (isub .i64 (isub .i64 (isub .i64 (slen x.1) (4 : Int)) (2 : Int)) (imul .i64 r1.1.1 (2 : Int))))), ())) fun r2 => (cond (!r2.1.2.1)
 (some ((([] : List DItem), (([] : List Int), (false, ()))), ()))
 (cond (ilt (40 : Int) (llen r2.1.1))
 (some ((([] : List DItem), (([] : List Int), (false, ()))), ()))
 (bnd (f_impl_GoodRun (r2.1.1, ())) fun r3 => (cond (!r3.1.1)
 (some ((([] : List DItem), (([] : List Int), (false, ()))), ()))
 (bnd (f_impl_block (r2.1.1, ())) fun r4 => (some ((r2.1.1, (r4.1.2.1, ((seq r4.1.1 x.1), ()))), ())))))))))))))
def sg112 : Sig := ⟨ins112, res112, f_impl_readBlock⟩
abbrev ins99 : List Pm := [.val .str]
abbrev res99 : List (K × Mk) := [((.sl kdItem), (.o .s)), (.bool, .s)]
def f_impl_ReadBlock (x : (ByteArray × Unit)) : Option (((List DItem) × Bool × Unit) × Unit) :=
 (bnd (f_impl_readBlock (x.1, ())) fun r1 => (cond (!r1.1.2.2.1)
 (some ((([] : List DItem), (false, ())), ()))
 (some ((r1.1.1, (true, ())), ()))))
def sg99 : Sig := ⟨ins99, res99, f_impl_ReadBlock⟩
abbrev ins69 : List Pm := [.val .str, .val .str, .val (.int .i64)]
abbrev res69 : List (K × Mk) := [((.sl kdItem), (.o .s)), (.bool, .s)]
abbrev f_impl_tableItems_l2c : Desc := ⟨[(0, .v .str), (2, .v (.int .i64)), (8, .ptr 17 []), (9, .al 9 [])], []⟩
abbrev f_impl_tableItems_l2v : Desc := ⟨[(10, .v (.int .i64))], [(9, ⟨(.sl kdItem), (.o .s), false⟩), (17, ⟨kdtaker, .s, true⟩)]⟩
abbrev f_impl_tableItems_l2e : List (Ek × Desc) := [(.ret, ⟨[(6, .al 6 []), (7, .v .bool)], [(6, ⟨(.sl kdItem), (.o .s), false⟩), (9, ⟨(.sl kdItem), (.o .s), false⟩), (17, ⟨kdtaker, .s, true⟩)]⟩), (.exit 0, ⟨[(10, .v (.int .i64))], [(9, ⟨(.sl kdItem), (.o .s), false⟩), (17, ⟨kdtaker, .s, true⟩)]⟩)]
def f_impl_tableItems_l2 (R : Type) (c : ((ByteArray × Int × Unit) × Unit)) (v : ((Int × Unit) × ((List DItem) × Dtaker × Unit))) (kk : ((ByteArray × Int × Unit) × Unit) → (((Int × Unit) × ((List DItem) × Dtaker × Unit)) ⊕ (((Bool × Unit) × ((List DItem) × (List DItem) × Dtaker × Unit)) ⊕ ((Int × Unit) × ((List DItem) × Dtaker × Unit)))) → Option R) : Option R :=
 (cond (!v.2.2.1.2.1)
 (cond (!seq v.2.2.1.1 (⟨#[]⟩ : ByteArray))
 (bnd (f_impl_taker_sized (v.2.2.1, ())) fun r1 => (bnd (f_impl_taker_number (r1.2.1, ())) fun r2 => (bnd (f_impl_taker_number (r2.2.1, ())) fun r3 => (bnd (f_impl_taker_number (r3.2.1, ())) fun r4 => (cond r4.2.1.2.1
 (kk ((c.1.1, (c.1.2.1, ())), ()) (.inr (.inl ((false, ()), (([] : List DItem), (v.2.1, (r4.2.1, ())))))))
 (cond (!ieq r3.1.1 v.1.1)
 (kk ((c.1.1, (c.1.2.1, ())), ()) (.inr (.inl ((false, ()), (([] : List DItem), (v.2.1, (r4.2.1, ())))))))
 (cond (ilt (isub .i64 c.1.2.1 v.1.1) r4.1.1)
 (kk ((c.1.1, (c.1.2.1, ())), ()) (.inr (.inl ((false, ()), (([] : List DItem), (v.2.1, (r4.2.1, ())))))))
 (req (decide ((0 : Int) ≤ r3.1.1) && (decide (r3.1.1 ≤ (iadd .i64 r3.1.1 r4.1.1)) && decide ((iadd .i64 r3.1.1 r4.1.1) ≤ ((ByteArray.size c.1.1) : Int)))) (bnd (f_impl_ReadBlock ((ByteArray.extract c.1.1 (Int.toNat r3.1.1) (Int.toNat (iadd .i64 r3.1.1 r4.1.1))), ())) fun r5 => (cond (!r5.1.2.1)
 (kk ((c.1.1, (c.1.2.1, ())), ()) (.inr (.inl ((false, ()), (([] : List DItem), (v.2.1, (r4.2.1, ())))))))
 (req (decide (List.length v.2.1 + List.length r5.1.1 ≤ 17179869184)) (kk ((c.1.1, (c.1.2.1, ())), ()) (.inl (((iadd .i64 v.1.1 r4.1.1), ()), ((v.2.1 ++ r5.1.1), (r4.2.1, ()))))))))))))))))
 (kk ((c.1.1, (c.1.2.1, ())), ()) (.inr (.inr ((v.1.1, ()), (v.2.1, (v.2.2.1, ())))))))
 (kk ((c.1.1, (c.1.2.1, ())), ()) (.inr (.inr ((v.1.1, ()), (v.2.1, (v.2.2.1, ())))))))
def f_impl_tableItems (x : (ByteArray × ByteArray × Int × Unit)) : Option (((List DItem) × Bool × Unit) × Unit) :=
 (loopF (c := f_impl_tableItems_l2c) (v := f_impl_tableItems_l2v) (ex := f_impl_tableItems_l2e) f_impl_tableItems_l2 _ ((x.1, (x.2.2.1, ())), ()) (((0 : Int), ()), (([] : List DItem), ((x.2.1, (false, ())), ()))) fun c6 o7 =>
 (match o7 with
 | .inl y8 => (some ((y8.2.1, (y8.1.1, ())), ()))
 | .inr z9 => (bnd (f_impl_taker_whole (z9.2.2.1, ())) fun r10 => (cond r10.1.1
 (some ((z9.2.1, ((ieq z9.1.1 c6.1.2.1), ())), ()))
 (some ((z9.2.1, (false, ())), ()))))))
def sg69 : Sig := ⟨ins69, res69, f_impl_tableItems⟩
abbrev ins23 : List Pm := [.mov (.sl kdItem) (.o .s)]
abbrev res23 : List (K × Mk) := [(kdtable, (.pr (.o .s) (.pr (.o .s) .s))), (.str, .s)]
abbrev f_impl_build_l3c : Desc := ⟨[(0, .al 4 [.fst]), (2, .ptr 2 []), (4, .ptr 4 [])], [(2, ⟨kdtable, (.pr (.o .s) (.pr (.o .s) .s)), true⟩)]⟩
abbrev f_impl_build_l3v : Desc := ⟨[(5, .v .str), (6, .v .str), (7, .v (.int .i64))], [(4, ⟨kdtable, (.pr (.o .s) (.pr (.o .s) .s)), true⟩)]⟩
abbrev f_impl_build_l3e : List (Ek × Desc) := [(.exit 0, ⟨[(5, .v .str), (6, .v .str)], [(4, ⟨kdtable, (.pr (.o .s) (.pr (.o .s) .s)), true⟩)]⟩)]
def f_impl_build_l3 (R : Type) (c : (Unit × (Dtable × Unit))) (v : ((ByteArray × ByteArray × Int × Unit) × (Dtable × Unit))) (kk : (Unit × (Dtable × Unit)) → (((ByteArray × ByteArray × Int × Unit) × (Dtable × Unit)) ⊕ ((ByteArray × ByteArray × Unit) × (Dtable × Unit))) → Option R) : Option R :=
 (cond (ilt v.1.2.2.1 (llen v.2.1.1))
 (req (decide ((0 : Int) ≤ v.1.2.2.1) && (decide (v.1.2.2.1 ≤ (imin (iadd .i64 v.1.2.2.1 (8 : Int)) (llen v.2.1.1))) && decide ((imin (iadd .i64 v.1.2.2.1 (8 : Int)) (llen v.2.1.1)) ≤ ((List.length v.2.1.1) : Int)))) (bnd (f_impl_block ((List.take ((Int.toNat (imin (iadd .i64 v.1.2.2.1 (8 : Int)) (llen v.2.1.1))) - (Int.toNat v.1.2.2.1)) (List.drop (Int.toNat v.1.2.2.1) v.2.1.1)), ())) fun r1 => (getO (List.take ((Int.toNat (imin (iadd .i64 v.1.2.2.1 (8 : Int)) (llen v.2.1.1))) - (Int.toNat v.1.2.2.1)) (List.drop (Int.toNat v.1.2.2.1) v.2.1.1)) (isub .i64 ((((Int.toNat (imin (iadd .i64 v.1.2.2.1 (8 : Int)) (llen v.2.1.1))) - (Int.toNat v.1.2.2.1)) : Nat) : Int) (1 : Int)) fun _ => (bnd (v.2.1.1[((Int.toNat v.1.2.2.1) + Int.toNat (isub .i64 ((((Int.toNat (imin (iadd .i64 v.1.2.2.1 (8 : Int)) (llen v.2.1.1))) - (Int.toNat v.1.2.2.1)) : Nat) : Int) (1 : Int)))]?) fun v3 => (req (decide (List.length v.2.1.2.1 + List.length [(v3.1, (v3.2.1, ((slen v.1.1), ((slen r1.1.1), ()))))] ≤ 17179869184)) (bnd (f_impl_sized (v3.1, ())) fun r4 => (bnd (f_impl_varBytes (v3.2.1, ())) fun r5 => (catO r4.1.1 r5.1.1 fun v6 => (bnd (f_impl_varBytes ((slen v.1.1), ())) fun r7 => (catO v6 r7.1.1 fun v8 => (bnd (f_impl_varBytes ((slen r1.1.1), ())) fun r9 => (catO v8 r9.1.1 fun v10 => (catO v.1.2.1 v10 fun v11 => (catO v.1.1 r1.1.1 fun v12 => (kk ((), (c.2.1, ())) (.inl ((v12, (v11, ((iadd .i64 v.1.2.2.1 (8 : Int)), ()))), ((v.2.1.1, ((v.2.1.2.1 ++ [(v3.1, (v3.2.1, ((slen v.1.1), ((slen r1.1.1), ()))))]), v.2.1.2.2)), ()))))))))))))))))))
 (kk ((), (c.2.1, ())) (.inr ((v.1.1, (v.1.2.1, ())), (v.2.1, ())))))
def f_impl_build (x : ((List DItem) × Unit)) : Option ((Dtable × ByteArray × Unit) × Unit) :=
 (loopF (c := f_impl_build_l3c) (v := f_impl_build_l3v) (ex := f_impl_build_l3e) f_impl_build_l3 _ ((), ((([] : List DItem), (([] : List DPlace), (((0 : Int), ((⟨#[]⟩ : ByteArray), ((0 : Int), ()))), ()))), ())) (((⟨#[]⟩ : ByteArray), ((⟨#[]⟩ : ByteArray), ((0 : Int), ()))), ((x.1, (([] : List DPlace), (((0 : Int), ((⟨#[]⟩ : ByteArray), ((0 : Int), ()))), ()))), ())) fun c13 o14 =>
 (bnd (f_impl_tableKeys (o14.2.1.1, ())) fun r15 => (bnd (f_impl_FilterOf (r15.1.1, ((4 : Int), ()))) fun r16 => (bnd (f_impl_lowFirst ((IntKind.wrap .u32 (slen o14.1.1)), ((4 : Int), ()))) fun r17 => (bnd (f_impl_frame (o14.1.2.1, ())) fun r18 => (catO o14.1.1 r18.1.1 fun v19 => (bnd (f_impl_frame (r16.1.1.2.1, ())) fun r20 => (catO v19 r20.1.1 fun v21 => (catO v21 r17.1.1 fun v22 => (bnd (f_impl_SumOf (r17.1.1, ())) fun r23 => (bnd (f_impl_lowFirst (r23.1.1, ((4 : Int), ()))) fun r24 => (catO v22 r24.1.1 fun v25 => (some (((o14.2.1.1, (o14.2.1.2.1, (r16.1.1, o14.2.1.2.2.2))), (v25, ())), ()))))))))))))))
def sg23 : Sig := ⟨ins23, res23, f_impl_build⟩
abbrev ins26 : List Pm := [.val .str]
abbrev res26 : List (K × Mk) := [(kdtable, (.pr (.o .s) (.pr (.o .s) .s))), (.bool, .s)]
def f_impl_readTable (x : (ByteArray × Unit)) : Option ((Dtable × Bool × Unit) × Unit) :=
 (cond (ilt (isub .i64 (slen x.1) (8 : Int)) (0 : Int))
 (some (((([] : List DItem), (([] : List DPlace), (((0 : Int), ((⟨#[]⟩ : ByteArray), ((0 : Int), ()))), ()))), (false, ())), ()))
 (req (decide ((0 : Int) ≤ (isub .i64 (slen x.1) (8 : Int))) && (decide ((isub .i64 (slen x.1) (8 : Int)) ≤ (iadd .i64 (isub .i64 (slen x.1) (8 : Int)) (4 : Int))) && decide ((iadd .i64 (isub .i64 (slen x.1) (8 : Int)) (4 : Int)) ≤ ((ByteArray.size x.1) : Int)))) (bnd (f_impl_wordOf ((ByteArray.extract x.1 (Int.toNat (isub .i64 (slen x.1) (8 : Int))) (Int.toNat (iadd .i64 (isub .i64 (slen x.1) (8 : Int)) (4 : Int)))), ())) fun r1 => (cond (ilt (isub .i64 (slen x.1) (8 : Int)) r1.1.1)
 (some (((([] : List DItem), (([] : List DPlace), (((0 : Int), ((⟨#[]⟩ : ByteArray), ((0 : Int), ()))), ()))), (false, ())), ()))
 (req (decide ((0 : Int) ≤ r1.1.1) && (decide (r1.1.1 ≤ (isub .i64 (slen x.1) (8 : Int))) && decide ((isub .i64 (slen x.1) (8 : Int)) ≤ ((ByteArray.size x.1) : Int)))) (bnd (f_impl_TakeFrame ((ByteArray.extract x.1 (Int.toNat r1.1.1) (Int.toNat (isub .i64 (slen x.1) (8 : Int)))), ())) fun r2 => (cond (!r2.1.2.2.1)
 (some (((([] : List DItem), (([] : List DPlace), (((0 : Int), ((⟨#[]⟩ : ByteArray), ((0 : Int), ()))), ()))), (false, ())), ()))
 (bnd (f_impl_tableItems (x.1, (r2.1.1, (r1.1.1, ())))) fun r3 => (cond (!r3.1.2.1)
 (some (((([] : List DItem), (([] : List DPlace), (((0 : Int), ((⟨#[]⟩ : ByteArray), ((0 : Int), ()))), ()))), (false, ())), ()))
 (bnd (f_impl_in ((llen r3.1.1), ((1 : Int), ((120 : Int), ())))) fun r4 => (cond (!r4.1.1)
 (some (((([] : List DItem), (([] : List DPlace), (((0 : Int), ((⟨#[]⟩ : ByteArray), ((0 : Int), ()))), ()))), (false, ())), ()))
 (bnd (f_impl_GoodRun (r3.1.1, ())) fun r5 => (cond (!r5.1.1)
 (some (((([] : List DItem), (([] : List DPlace), (((0 : Int), ((⟨#[]⟩ : ByteArray), ((0 : Int), ()))), ()))), (false, ())), ()))
 (bnd (f_impl_build (r3.1.1, ())) fun r6 => (some ((r6.1.1, ((seq r6.1.2.1 x.1), ())), ()))))))))))))))))
def sg26 : Sig := ⟨ins26, res26, f_impl_readTable⟩
abbrev ins8 : List Pm := [.val .str]
abbrev res8 : List (K × Mk) := [((.sl kdItem), (.o .s)), (.bool, .s)]
def f_impl_ReadTable (x : (ByteArray × Unit)) : Option (((List DItem) × Bool × Unit) × Unit) :=
 (bnd (f_impl_readTable (x.1, ())) fun r1 => (cond (!r1.1.2.1)
 (some ((([] : List DItem), (false, ())), ()))
 (some ((r1.1.1.1, (true, ())), ()))))
def sg8 : Sig := ⟨ins8, res8, f_impl_ReadTable⟩
abbrev ins9 : List Pm := [.val (.sl kdItem), .val (.sl kdItem)]
abbrev res9 : List (K × Mk) := [(.bool, .s)]
abbrev f_laws_sameItems_l4c : Desc := ⟨[(0, .v (.sl kdItem)), (1, .v (.sl kdItem)), (12, .v (.int .i64))], []⟩
abbrev f_laws_sameItems_l4v : Desc := ⟨[(13, .v (.int .i64))], []⟩
abbrev f_laws_sameItems_l4e : List (Ek × Desc) := [(.ret, ⟨[(4, .v .bool)], []⟩), (.exit 0, ⟨[], []⟩)]
def f_laws_sameItems_l4 (R : Type) (c : (((List DItem) × (List DItem) × Int × Unit) × Unit)) (v : ((Int × Unit) × Unit)) (kk : (((List DItem) × (List DItem) × Int × Unit) × Unit) → (((Int × Unit) × Unit) ⊕ (((Bool × Unit) × Unit) ⊕ (Unit × Unit))) → Option R) : Option R :=
 (cond (ilt v.1.1 c.1.2.2.1)
 (getO c.1.1 v.1.1 fun v1 => (getO c.1.2.1 v.1.1 fun v2 => (cond (!(eqK kdItem v1 v2))
 (kk ((c.1.1, (c.1.2.1, (c.1.2.2.1, ()))), ()) (.inr (.inl ((false, ()), ()))))
 (kk ((c.1.1, (c.1.2.1, (c.1.2.2.1, ()))), ()) (.inl (((iadd .i64 v.1.1 (1 : Int)), ()), ()))))))
 (kk ((c.1.1, (c.1.2.1, (c.1.2.2.1, ()))), ()) (.inr (.inr ((), ())))))
def f_laws_sameItems (x : ((List DItem) × (List DItem) × Unit)) : Option ((Bool × Unit) × Unit) :=
 (cond (!ieq (llen x.1) (llen x.2.1))
 (some ((false, ()), ()))
 (loopF (c := f_laws_sameItems_l4c) (v := f_laws_sameItems_l4v) (ex := f_laws_sameItems_l4e) f_laws_sameItems_l4 _ ((x.1, (x.2.1, ((llen x.1), ()))), ()) (((0 : Int), ()), ()) fun c3 o4 =>
 (match o4 with
 | .inl y5 => (some ((y5.1.1, ()), ()))
 | .inr z6 => (some ((true, ()), ())))))
def sg9 : Sig := ⟨ins9, res9, f_laws_sameItems⟩
abbrev ins70 : List Pm := [.mptr kdl1Cur .s, .val .str]
abbrev res70 : List (K × Mk) := [(.str, .s)]
abbrev f_spec_l1Cur_torn_i5c : Desc := ⟨[(0, .ptr 0 []), (1, .v .str), (17, .v .bool)], []⟩
abbrev f_spec_l1Cur_torn_i5v : Desc := ⟨[], [(0, ⟨kdl1Cur, .s, true⟩)]⟩
abbrev f_spec_l1Cur_torn_i5e : List (Ek × Desc) := [(.ret, ⟨[(4, .v .str)], [(0, ⟨kdl1Cur, .s, true⟩)]⟩), (.norm, ⟨[], [(0, ⟨kdl1Cur, .s, true⟩)]⟩)]
def f_spec_l1Cur_torn_i5 (R : Type) (c : ((ByteArray × Bool × Unit) × Unit)) (v : (Unit × (Dl1Cur × Unit))) (kk : ((ByteArray × Bool × Unit) × Unit) → (((ByteArray × Unit) × (Dl1Cur × Unit)) ⊕ (Unit × (Dl1Cur × Unit))) → Option R) : Option R :=
 (cond c.1.2.1
 (cond (Nat.beq (ByteArray.size c.1.1) 0)
 none
 (cond (ilt (0 : Int) (llen (bytesOf c.1.1)))
 (bnd (f_spec_l1Cur_pick (v.2.1, ((llen (bytesOf c.1.1)), ()))) fun r3 => (getO (bytesOf c.1.1) r3.1.1 fun _ => (bnd ((bytesOf c.1.1)[(Int.toNat r3.1.1)]?) fun v5 => (bnd (f_spec_l1Cur_pick (r3.2.1, ((8 : Int), ()))) fun r6 => (req (ile (0 : Int) (IntKind.wrap .u64 r6.1.1)) (getO (bytesOf c.1.1) r3.1.1 fun _ => (bnd ((bytesOf c.1.1)[(Int.toNat r3.1.1)]?) fun v8 => (kk ((c.1.1, (c.1.2.1, ())), ()) (.inl (((strOf (List.set (bytesOf c.1.1) (Int.toNat r3.1.1) (ixor .u8 v5 (ishl .u8 (1 : Int) (IntKind.wrap .u64 r6.1.1))))), ()), (r6.2.1, ())))))))))))
 (kk ((c.1.1, (c.1.2.1, ())), ()) (.inr ((), (v.2.1, ()))))))
 (kk ((c.1.1, (c.1.2.1, ())), ()) (.inr ((), (v.2.1, ())))))
def f_spec_l1Cur_torn (x : (Dl1Cur × ByteArray × Unit)) : Option ((ByteArray × Unit) × (Dl1Cur × Unit)) :=
 (bnd (f_spec_l1Cur_pick (x.1, ((4 : Int), ()))) fun r1 => (cond (ieq r1.1.1 (0 : Int))
 (bnd (f_spec_l1Cur_pick (r1.2.1, ((iadd .i64 (slen x.2.1) (1 : Int)), ()))) fun r2 => (req (decide ((0 : Int) ≤ r2.1.1) && decide (r2.1.1 ≤ ((ByteArray.size x.2.1) : Int))) (some (((ByteArray.extract x.2.1 (0 : Nat) (Int.toNat r2.1.1)), ()), (r2.2.1, ())))))
 (f_spec_l1Cur_torn_i5 _ ((x.2.1, ((ieq r1.1.1 (1 : Int)), ())), ()) ((), (r1.2.1, ())) fun c9 o10 =>
 (match o10 with
 | .inl y11 => (some ((y11.1.1, ()), (y11.2.1, ())))
 | .inr z12 => (some ((c9.1.1, ()), (z12.2.1, ())))))))
def sg70 : Sig := ⟨ins70, res70, f_spec_l1Cur_torn⟩
abbrev ins27 : List Pm := [.mptr kdl1Cur .s]
abbrev res27 : List (K × Mk) := [(.str, .s)]
abbrev f_spec_l1Cur_tableText_i3c : Desc := ⟨[(0, .ptr 0 []), (12, .v .bool)], []⟩
abbrev f_spec_l1Cur_tableText_i3v : Desc := ⟨[(3, .v .str)], [(0, ⟨kdl1Cur, .s, true⟩)]⟩
abbrev f_spec_l1Cur_tableText_i3e : List (Ek × Desc) := [(.norm, ⟨[(3, .v .str)], [(0, ⟨kdl1Cur, .s, true⟩)]⟩)]
def f_spec_l1Cur_tableText_i3 (R : Type) (c : ((Bool × Unit) × Unit)) (v : ((ByteArray × Unit) × (Dl1Cur × Unit))) (kk : ((Bool × Unit) × Unit) → ((ByteArray × Unit) × (Dl1Cur × Unit)) → Option R) : Option R :=
 (cond c.1.1
 (bnd (f_spec_l1Cur_torn (v.2.1, (v.1.1, ()))) fun r4 => (kk ((c.1.1, ()), ()) ((r4.1.1, ()), (r4.2.1, ()))))
 (kk ((c.1.1, ()), ()) ((v.1.1, ()), (v.2.1, ()))))
def f_spec_l1Cur_tableText (x : (Dl1Cur × Unit)) : Option ((ByteArray × Unit) × (Dl1Cur × Unit)) :=
 (bnd (f_spec_l1Cur_tableRun (x.1, ())) fun r1 => (bnd (f_spec_TableBytes (r1.1.1, ())) fun r2 => (bnd (f_spec_l1Cur_one (r1.2.1, ((3 : Int), ()))) fun r3 => (f_spec_l1Cur_tableText_i3 _ ((r3.1.1, ()), ()) ((r2.1.1, ()), (r3.2.1, ())) fun c5 o6 =>
 (some ((o6.1.1, ()), (o6.2.1, ())))))))
def sg27 : Sig := ⟨ins27, res27, f_spec_l1Cur_tableText⟩
abbrev ins10 : List Pm := [.val (.sl (.int .u8))]
abbrev res10 : List (K × Mk) := [(.str, .s), (.str, .s), ((.int .i64), .s)]
def f_spec_DrawGetFrom (x : ((List Int) × Unit)) : Option ((ByteArray × ByteArray × Int × Unit) × Unit) :=
 (bnd (f_spec_l1Cur_tableText ((x.1, ((0 : Int), ((0 : Int), ()))), ())) fun r1 => (bnd (f_spec_l1Cur_key (r1.2.1, ())) fun r2 => (bnd (f_spec_l1Cur_pick (r2.2.1, ((24 : Int), ()))) fun r3 => (some ((r1.1.1, (r2.1.1, (r3.1.1, ()))), ())))))
def sg10 : Sig := ⟨ins10, res10, f_spec_DrawGetFrom⟩
abbrev ins72 : List Pm := [.val (.sl kdItem), .val kdItem, .fn [kdItem, kdItem] [(.int .i64)]]
abbrev res72 : List (K × Mk) := [((.int .i64), .s), (.bool, .s)]
abbrev f_slices_BinarySearchFunc_Item_i6c : Desc := ⟨[(0, .v (.sl kdItem)), (2, .fv [kdItem, kdItem] [(.int .i64)]), (4, .ptr 4 []), (8, .v (.int .i64)), (11, .v (.int .i64)), (31, .v .bool)], [(4, ⟨kdItem, .s, true⟩)]⟩
abbrev f_slices_BinarySearchFunc_Item_i6v : Desc := ⟨[(9, .v (.int .i64)), (10, .v (.int .i64))], []⟩
abbrev f_slices_BinarySearchFunc_Item_i6e : List (Ek × Desc) := [(.norm, ⟨[(9, .v (.int .i64)), (10, .v (.int .i64))], []⟩)]
def f_slices_BinarySearchFunc_Item_i6 (R : Type) (c : (((List DItem) × ((DItem × DItem × Unit) → Option (Int × Unit)) × Int × Int × Bool × Unit) × (DItem × Unit))) (v : ((Int × Int × Unit) × Unit)) (kk : (((List DItem) × ((DItem × DItem × Unit) → Option (Int × Unit)) × Int × Int × Bool × Unit) × (DItem × Unit)) → ((Int × Int × Unit) × Unit) → Option R) : Option R :=
 (cond c.1.2.2.2.2.1
 (kk ((c.1.1, (c.1.2.1, (c.1.2.2.1, (c.1.2.2.2.1, (c.1.2.2.2.2.1, ()))))), (c.2.1, ())) (((iadd .i64 c.1.2.2.2.1 (1 : Int)), (v.1.2.1, ())), ()))
 (kk ((c.1.1, (c.1.2.1, (c.1.2.2.1, (c.1.2.2.2.1, (c.1.2.2.2.2.1, ()))))), (c.2.1, ())) ((v.1.1, (c.1.2.2.2.1, ())), ())))
abbrev f_slices_BinarySearchFunc_Item_l3c : Desc := ⟨[(4, .ptr 4 [])], []⟩
abbrev f_slices_BinarySearchFunc_Item_l3v : Desc := ⟨[(0, .v (.sl kdItem)), (2, .fv [kdItem, kdItem] [(.int .i64)]), (8, .v (.int .i64)), (9, .v (.int .i64)), (10, .v (.int .i64))], [(4, ⟨kdItem, .s, true⟩)]⟩
abbrev f_slices_BinarySearchFunc_Item_l3e : List (Ek × Desc) := [(.exit 0, ⟨[(0, .v (.sl kdItem)), (2, .fv [kdItem, kdItem] [(.int .i64)]), (8, .v (.int .i64)), (9, .v (.int .i64))], [(4, ⟨kdItem, .s, true⟩)]⟩)]
def f_slices_BinarySearchFunc_Item_l3 (R : Type) (c : (Unit × Unit)) (v : (((List DItem) × ((DItem × DItem × Unit) → Option (Int × Unit)) × Int × Int × Int × Unit) × (DItem × Unit))) (kk : (Unit × Unit) → ((((List DItem) × ((DItem × DItem × Unit) → Option (Int × Unit)) × Int × Int × Int × Unit) × (DItem × Unit)) ⊕ (((List DItem) × ((DItem × DItem × Unit) → Option (Int × Unit)) × Int × Int × Unit) × (DItem × Unit))) → Option R) : Option R :=
 (cond (ilt v.1.2.2.2.1 v.1.2.2.2.2.1)
 (getO v.1.1 (IntKind.wrap .i64 (ishr .u64 (IntKind.wrap .u64 (iadd .i64 v.1.2.2.2.1 v.1.2.2.2.2.1)) (1 : Int))) fun v1 => (bnd (v.1.2.1 (v1, (v.2.1, ()))) fun r2 => (f_slices_BinarySearchFunc_Item_i6 _ ((v.1.1, (v.1.2.1, (v.1.2.2.1, ((IntKind.wrap .i64 (ishr .u64 (IntKind.wrap .u64 (iadd .i64 v.1.2.2.2.1 v.1.2.2.2.2.1)) (1 : Int))), ((ilt r2.1 (0 : Int)), ()))))), (v.2.1, ())) ((v.1.2.2.2.1, (v.1.2.2.2.2.1, ())), ()) fun c3 o4 =>
 (kk ((), ()) (.inl ((c3.1.1, (c3.1.2.1, (c3.1.2.2.1, (o4.1.1, (o4.1.2.1, ()))))), (c3.2.1, ())))))))
 (kk ((), ()) (.inr ((v.1.1, (v.1.2.1, (v.1.2.2.1, (v.1.2.2.2.1, ())))), (v.2.1, ())))))
def f_slices_BinarySearchFunc_Item (x : ((List DItem) × DItem × ((DItem × DItem × Unit) → Option (Int × Unit)) × Unit)) : Option ((Int × Bool × Unit) × Unit) :=
 (loopF (c := f_slices_BinarySearchFunc_Item_l3c) (v := f_slices_BinarySearchFunc_Item_l3v) (ex := f_slices_BinarySearchFunc_Item_l3e) f_slices_BinarySearchFunc_Item_l3 _ ((), ()) ((x.1, (x.2.2.1, ((llen x.1), ((0 : Int), ((llen x.1), ()))))), (x.2.1, ())) fun c5 o6 =>
 (cond (ilt o6.1.2.2.2.1 o6.1.2.2.1)
 (getO o6.1.1 o6.1.2.2.2.1 fun v7 => (bnd (o6.1.2.1 (v7, (o6.2.1, ()))) fun r8 => (some ((o6.1.2.2.2.1, ((ieq r8.1 (0 : Int)), ())), ()))))
 (some ((o6.1.2.2.2.1, (false, ())), ()))))
def sg72 : Sig := ⟨ins72, res72, f_slices_BinarySearchFunc_Item⟩
abbrev ins31 : List Pm := [.val (.sl kdItem), .val .str, .val (.int .i64)]
abbrev res31 : List (K × Mk) := [((.int .i64), .s)]
def f_impl_seekRun (x : ((List DItem) × ByteArray × Int × Unit)) : Option ((Int × Unit) × Unit) :=
 (bnd (f_slices_BinarySearchFunc_Item (x.1, ((x.2.1, (x.2.2.1, ((0 : Int), ((⟨#[]⟩ : ByteArray), ())))), ((fun z => (bnd (f_impl_itemOrder (z.1, (z.2.1, ()))) fun r => (some r.1))), ())))) fun r1 => (some ((r1.1.1, ()), ())))
def sg31 : Sig := ⟨ins31, res31, f_impl_seekRun⟩
abbrev ins44r : List Pm := [.rp kdFilter, .val (.int .i64)]
abbrev res44r : List (K × Mk) := [(.bool, .s)]
def f_impl_Filter_has_r (x : (DFilter × Int × Unit)) : Option ((Bool × Unit) × Unit) :=
 (getB x.1.2.1 (iquo .i64 x.2.1 (8 : Int)) fun v1 => (req (ile (0 : Int) (irem .i64 x.2.1 (8 : Int))) (some (((ieq (iand .u8 (ishr .u8 v1 (irem .i64 x.2.1 (8 : Int))) (1 : Int)) (1 : Int)), ()), ()))))
def sg44r : Sig := ⟨ins44r, res44r, f_impl_Filter_has_r⟩
abbrev ins43 : List Pm := [.val (.int .i64), .rp kdFilter]
abbrev res43 : List (K × Mk) := [(.bool, .s)]
def f_impl_MayHave_1 (x : (Int × DFilter × Unit)) : Option ((Bool × Unit) × Unit) :=
 (bnd (f_impl_Filter_has_r (x.2.1, (x.1, ()))) fun r1 => (some (((!r1.1.1), ()), ())))
def sg43 : Sig := ⟨ins43, res43, f_impl_MayHave_1⟩
abbrev ins79 : List Pm := [.val (.sl (.int .i64)), .fn [(.int .i64)] [.bool]]
abbrev res79 : List (K × Mk) := [((.int .i64), .s)]
abbrev f_slices_IndexFunc_int_l2c : Desc := ⟨[(0, .v (.sl (.int .i64))), (1, .fv [(.int .i64)] [.bool]), (7, .v (.int .i64))], []⟩
abbrev f_slices_IndexFunc_int_l2v : Desc := ⟨[(8, .v (.int .i64))], []⟩
abbrev f_slices_IndexFunc_int_l2e : List (Ek × Desc) := [(.ret, ⟨[(4, .v (.int .i64))], []⟩), (.exit 0, ⟨[], []⟩)]
def f_slices_IndexFunc_int_l2 (R : Type) (c : (((List Int) × ((Int × Unit) → Option (Bool × Unit)) × Int × Unit) × Unit)) (v : ((Int × Unit) × Unit)) (kk : (((List Int) × ((Int × Unit) → Option (Bool × Unit)) × Int × Unit) × Unit) → (((Int × Unit) × Unit) ⊕ (((Int × Unit) × Unit) ⊕ (Unit × Unit))) → Option R) : Option R :=
 (cond (ilt v.1.1 c.1.2.2.1)
 (getO c.1.1 v.1.1 fun v1 => (bnd (c.1.2.1 (v1, ())) fun r2 => (cond r2.1
 (kk ((c.1.1, (c.1.2.1, (c.1.2.2.1, ()))), ()) (.inr (.inl ((v.1.1, ()), ()))))
 (kk ((c.1.1, (c.1.2.1, (c.1.2.2.1, ()))), ()) (.inl (((iadd .i64 v.1.1 (1 : Int)), ()), ()))))))
 (kk ((c.1.1, (c.1.2.1, (c.1.2.2.1, ()))), ()) (.inr (.inr ((), ())))))
def f_slices_IndexFunc_int (x : ((List Int) × ((Int × Unit) → Option (Bool × Unit)) × Unit)) : Option ((Int × Unit) × Unit) :=
 (loopF (c := f_slices_IndexFunc_int_l2c) (v := f_slices_IndexFunc_int_l2v) (ex := f_slices_IndexFunc_int_l2e) f_slices_IndexFunc_int_l2 _ ((x.1, (x.2.1, ((llen x.1), ()))), ()) (((0 : Int), ()), ()) fun c3 o4 =>
 (match o4 with
 | .inl y5 => (some ((y5.1.1, ()), ()))
 | .inr z6 => (some (((-1 : Int), ()), ()))))
def sg79 : Sig := ⟨ins79, res79, f_slices_IndexFunc_int⟩
abbrev ins41 : List Pm := [.val (.sl (.int .i64)), .fn [(.int .i64)] [.bool]]
abbrev res41 : List (K × Mk) := [(.bool, .s)]
def f_slices_ContainsFunc_int (x : ((List Int) × ((Int × Unit) → Option (Bool × Unit)) × Unit)) : Option ((Bool × Unit) × Unit) :=
 (bnd (f_slices_IndexFunc_int (x.1, (x.2.1, ()))) fun r1 => (some (((ile (0 : Int) r1.1.1), ()), ())))
def sg41 : Sig := ⟨ins41, res41, f_slices_ContainsFunc_int⟩
abbrev ins18 : List Pm := [.val kdFilter, .val .str]
abbrev res18 : List (K × Mk) := [(.bool, .s), (.bool, .s)]
def f_impl_MayHave (x : (DFilter × ByteArray × Unit)) : Option ((Bool × Bool × Unit) × Unit) :=
 (bnd (f_impl_GoodFilter (x.1, ())) fun r1 => (cond (!r1.1.1)
 (some ((false, (false, ())), ()))
 (bnd (f_impl_isKey (x.2.1, ())) fun r2 => (cond (!r2.1.1)
 (some ((false, (false, ())), ()))
 (bnd (f_impl_places (x.2.1, (x.1.1, ()))) fun r3 => (bnd (f_slices_ContainsFunc_int (r3.1.1, ((fun z => (bnd (f_impl_MayHave_1 (z.1, (x.1, ()))) fun r => (some r.1))), ()))) fun r4 => (some (((!r4.1.1), (true, ())), ()))))))))
def sg18 : Sig := ⟨ins18, res18, f_impl_MayHave⟩
abbrev ins11 : List Pm := [.val .str, .val .str, .val (.int .i64)]
abbrev res11 : List (K × Mk) := [(kdItem, .s), ((.int .i64), .s), (.bool, .s)]
def f_impl_GetFrom (x : (ByteArray × ByteArray × Int × Unit)) : Option ((DItem × Int × Bool × Unit) × Unit) :=
 (bnd (f_impl_readTable (x.1, ())) fun r1 => (cond (!r1.1.2.1)
 (some ((((⟨#[]⟩ : ByteArray), ((0 : Int), ((0 : Int), ((⟨#[]⟩ : ByteArray), ())))), ((0 : Int), (false, ()))), ()))
 (bnd (f_impl_isKey (x.2.1, ())) fun r2 => (cond (!r2.1.1)
 (some ((((⟨#[]⟩ : ByteArray), ((0 : Int), ((0 : Int), ((⟨#[]⟩ : ByteArray), ())))), ((0 : Int), (false, ()))), ()))
 (bnd (f_impl_isSeq (x.2.2.1, ())) fun r3 => (cond (!r3.1.1)
 (some ((((⟨#[]⟩ : ByteArray), ((0 : Int), ((0 : Int), ((⟨#[]⟩ : ByteArray), ())))), ((0 : Int), (false, ()))), ()))
 (bnd (f_impl_seekRun (r1.1.1.1, (x.2.1, (x.2.2.1, ())))) fun r4 => (bnd (f_impl_MayHave (r1.1.1.2.2.1, (x.2.1, ()))) fun r5 => (cond (!r5.1.1)
 (some ((((⟨#[]⟩ : ByteArray), ((0 : Int), ((0 : Int), ((⟨#[]⟩ : ByteArray), ())))), ((0 : Int), (false, ()))), ()))
 (cond (ieq r4.1.1 (llen r1.1.1.1))
 (some ((((⟨#[]⟩ : ByteArray), ((0 : Int), ((0 : Int), ((⟨#[]⟩ : ByteArray), ())))), ((0 : Int), (false, ()))), ()))
 (getO r1.1.1.1 r4.1.1 fun _ => (bnd (r1.1.1.1[(Int.toNat r4.1.1)]?) fun v7 => (bnd (r1.1.1.1[(Int.toNat r4.1.1)]?) fun v8 => (cond (!seq v8.1 x.2.1)
 (some ((((⟨#[]⟩ : ByteArray), ((0 : Int), ((0 : Int), ((⟨#[]⟩ : ByteArray), ())))), ((1 : Int), (false, ()))), ()))
 (getO r1.1.1.1 r4.1.1 fun _ => (bnd (r1.1.1.1[(Int.toNat r4.1.1)]?) fun v10 => (some ((v10, ((1 : Int), (true, ()))), ()))))))))))))))))))
def sg11 : Sig := ⟨ins11, res11, f_impl_GetFrom⟩
abbrev ins12 : List Pm := [.val (.sl kdItem), .val .str, .val (.int .i64)]
abbrev res12 : List (K × Mk) := [((.int .i64), .s), (.bool, .s)]
def f_spec_SeekRun (x : ((List DItem) × ByteArray × Int × Unit)) : Option ((Int × Bool × Unit) × Unit) :=
 (bnd (f_spec_GoodRun (x.1, ())) fun r1 => (cond (!r1.1.1)
 (some (((0 : Int), (false, ())), ()))
 (bnd (f_spec_l4Key (x.2.1, ())) fun r2 => (cond (!r2.1.1)
 (some (((0 : Int), (false, ())), ()))
 (bnd (f_spec_l4Seq (x.2.2.1, ())) fun r3 => (cond (!r3.1.1)
 (some (((0 : Int), (false, ())), ()))
 (bnd (f_spec_l6Seek (x.1, ((x.2.1, (x.2.2.1, ((0 : Int), ((⟨#[]⟩ : ByteArray), ())))), ()))) fun r4 => (some ((r4.1.1, (true, ())), ())))))))))
def sg12 : Sig := ⟨ins12, res12, f_spec_SeekRun⟩
abbrev ins3 : List Pm := [.val (.sl (.int .u8)), .val (.sl (.int .u8))]
abbrev res3 : List (K × Mk) := [(.bool, .s)]
def f_laws_FnTables (x : ((List Int) × (List Int) × Unit)) : Option ((Bool × Unit) × Unit) :=
 (cond (ilt (1048576 : Int) (iadd .i64 (llen x.1) (llen x.2.1)))
 (some ((true, ()), ()))
 (bnd (f_spec_DrawTableBytes (x.1, ())) fun r1 => (bnd (f_impl_TableBytes (r1.1.1, ())) fun r2 => (bnd (f_spec_TableBytes (r1.1.1, ())) fun r3 => (cond (!beqB r2.1.2.1 r3.1.2.1)
 (some ((false, ()), ()))
 (cond (!seq r2.1.1 r3.1.1)
 (some ((false, ()), ()))
 (cond (!r2.1.2.1)
 (some (((seq r2.1.1 (⟨#[]⟩ : ByteArray)), ()), ()))
 (bnd (f_impl_ReadTable (r2.1.1, ())) fun r4 => (cond (!r4.1.2.1)
 (some ((false, ()), ()))
 (bnd (f_laws_sameItems (r1.1.1, (r4.1.1, ()))) fun r5 => (cond (!r5.1.1)
 (some ((false, ()), ()))
 (bnd (f_spec_DrawGetFrom (x.2.1, ())) fun r6 => (bnd (f_impl_GetFrom (r2.1.1, (r6.1.2.1, (r6.1.2.2.1, ())))) fun r7 => (bnd (f_spec_SeekRun (r1.1.1, (r6.1.2.1, (r6.1.2.2.1, ())))) fun r8 => (cond (!r8.1.2.1)
 (some (((!r7.1.2.2.1), ()), ()))
 (cond (ilt r8.1.1 (llen r1.1.1))
 (getO r1.1.1 r8.1.1 fun _ => (bnd (r1.1.1[(Int.toNat r8.1.1)]?) fun v10 => (bnd (r1.1.1[(Int.toNat r8.1.1)]?) fun v11 => (cond (beqB r7.1.2.2.1 (seq v11.1 r6.1.2.1))
 (cond (ile r7.1.2.1 (1 : Int))
 (cond (!r7.1.2.2.1)
 (some ((true, ()), ()))
 (getO r1.1.1 r8.1.1 fun _ => (bnd (r1.1.1[(Int.toNat r8.1.1)]?) fun v13 => (cond (eqK kdItem r7.1.1 v13)
 (some (((ieq r7.1.2.1 (1 : Int)), ()), ()))
 (some ((false, ()), ()))))))
 (some ((false, ()), ())))
 (some ((false, ()), ()))))))
 (cond (beqB r7.1.2.2.1 false)
 (cond (ile r7.1.2.1 (1 : Int))
 (cond (!r7.1.2.2.1)
 (some ((true, ()), ()))
 (getO r1.1.1 r8.1.1 fun _ => (bnd (r1.1.1[(Int.toNat r8.1.1)]?) fun v15 => (cond (eqK kdItem r7.1.1 v15)
 (some (((ieq r7.1.2.1 (1 : Int)), ()), ()))
 (some ((false, ()), ()))))))
 (some ((false, ()), ())))
 (some ((false, ()), ())))))))))))))))))))
def sg3 : Sig := ⟨ins3, res3, f_laws_FnTables⟩
abbrev ins36 : List Pm := [.val (.sl (.int .u8))]
abbrev res36 : List (K × Mk) := [(.str, .s)]
def f_spec_DrawReadTable (x : ((List Int) × Unit)) : Option ((ByteArray × Unit) × Unit) :=
 (bnd (f_spec_l1Cur_tableText ((x.1, ((0 : Int), ((0 : Int), ()))), ())) fun r1 => (some ((r1.1.1, ()), ())))
def sg36 : Sig := ⟨ins36, res36, f_spec_DrawReadTable⟩
abbrev ins13 : List Pm := [.val (.sl (.int .u8))]
abbrev res13 : List (K × Mk) := [(.str, .s)]
def f_spec_DrawIndexOf (x : ((List Int) × Unit)) : Option ((ByteArray × Unit) × Unit) :=
 (bnd (f_spec_DrawReadTable (x.1, ())) fun r1 => (some ((r1.1.1, ()), ())))
def sg13 : Sig := ⟨ins13, res13, f_spec_DrawIndexOf⟩
abbrev ins14 : List Pm := [.val .str]
abbrev res14 : List (K × Mk) := [((.sl kdPlace), (.o .s)), (.bool, .s)]
def f_impl_IndexOf (x : (ByteArray × Unit)) : Option (((List DPlace) × Bool × Unit) × Unit) :=
 (bnd (f_impl_readTable (x.1, ())) fun r1 => (cond (!r1.1.2.1)
 (some ((([] : List DPlace), (false, ())), ()))
 (some ((r1.1.1.2.1, (true, ())), ()))))
def sg14 : Sig := ⟨ins14, res14, f_impl_IndexOf⟩
abbrev ins77 : List Pm := [.val .str]
abbrev res77 : List (K × Mk) := [((.int .i64), .s), ((.int .i64), .s)]
abbrev f_spec_l2Take_l3c : Desc := ⟨[(0, .v .str)], []⟩
abbrev f_spec_l2Take_l3v : Desc := ⟨[(4, .v (.int .i64)), (5, .v (.int .i64))], []⟩
abbrev f_spec_l2Take_l3e : List (Ek × Desc) := [(.ret, ⟨[(2, .v (.int .i64)), (3, .v (.int .i64))], []⟩), (.exit 0, ⟨[], []⟩)]
def f_spec_l2Take_l3 (R : Type) (c : ((ByteArray × Unit) × Unit)) (v : ((Int × Int × Unit) × Unit)) (kk : ((ByteArray × Unit) × Unit) → (((Int × Int × Unit) × Unit) ⊕ (((Int × Int × Unit) × Unit) ⊕ (Unit × Unit))) → Option R) : Option R :=
 (cond (ilt v.1.2.1 (9 : Int))
 (cond (ilt v.1.2.1 (slen c.1.1))
 (getB c.1.1 v.1.2.1 fun v1 => (req (ile (0 : Int) (IntKind.wrap .u64 (imul .i64 (7 : Int) v.1.2.1))) (getB c.1.1 v.1.2.1 fun v2 => (cond (ilt v2 (128 : Int))
 (cond (ilt (0 : Int) v.1.2.1)
 (getB c.1.1 v.1.2.1 fun v3 => (cond (ieq v3 (0 : Int))
 (kk ((c.1.1, ()), ()) (.inr (.inl (((0 : Int), ((0 : Int), ())), ()))))
 (kk ((c.1.1, ()), ()) (.inr (.inl (((ior .i64 v.1.1 (ishl .i64 (IntKind.wrap .i64 (iand .u8 v1 (127 : Int))) (IntKind.wrap .u64 (imul .i64 (7 : Int) v.1.2.1)))), ((iadd .i64 v.1.2.1 (1 : Int)), ())), ()))))))
 (kk ((c.1.1, ()), ()) (.inr (.inl (((ior .i64 v.1.1 (ishl .i64 (IntKind.wrap .i64 (iand .u8 v1 (127 : Int))) (IntKind.wrap .u64 (imul .i64 (7 : Int) v.1.2.1)))), ((iadd .i64 v.1.2.1 (1 : Int)), ())), ())))))
 (kk ((c.1.1, ()), ()) (.inl (((ior .i64 v.1.1 (ishl .i64 (IntKind.wrap .i64 (iand .u8 v1 (127 : Int))) (IntKind.wrap .u64 (imul .i64 (7 : Int) v.1.2.1)))), ((iadd .i64 v.1.2.1 (1 : Int)), ())), ())))))))
 (kk ((c.1.1, ()), ()) (.inr (.inr ((), ())))))
 (kk ((c.1.1, ()), ()) (.inr (.inr ((), ())))))
def f_spec_l2Take (x : (ByteArray × Unit)) : Option ((Int × Int × Unit) × Unit) :=
 (loopF (c := f_spec_l2Take_l3c) (v := f_spec_l2Take_l3v) (ex := f_spec_l2Take_l3e) f_spec_l2Take_l3 _ ((x.1, ()), ()) (((0 : Int), ((0 : Int), ())), ()) fun c4 o5 =>
 (match o5 with
 | .inl y6 => (some ((y6.1.1, (y6.1.2.1, ())), ()))
 | .inr z7 => (some (((0 : Int), ((0 : Int), ())), ()))))
def sg77 : Sig := ⟨ins77, res77, f_spec_l2Take⟩
abbrev ins76 : List Pm := [.val .str]
abbrev res76 : List (K × Mk) := [(.str, .s), ((.int .i64), .s), (.bool, .s)]
def f_spec_l2TakeFrame (x : (ByteArray × Unit)) : Option ((ByteArray × Int × Bool × Unit) × Unit) :=
 (bnd (f_spec_l2Take (x.1, ())) fun r1 => (cond (ieq r1.1.2.1 (0 : Int))
 (some (((⟨#[]⟩ : ByteArray), ((0 : Int), (false, ()))), ()))
 (cond (ilt (1000 : Int) r1.1.1)
 (some (((⟨#[]⟩ : ByteArray), ((0 : Int), (false, ()))), ()))
 (cond (ilt (slen x.1) (iadd .i64 (iadd .i64 r1.1.2.1 (4 : Int)) r1.1.1))
 (some (((⟨#[]⟩ : ByteArray), ((0 : Int), (false, ()))), ()))
 (req (decide ((0 : Int) ≤ (iadd .i64 r1.1.2.1 (4 : Int))) && (decide ((iadd .i64 r1.1.2.1 (4 : Int)) ≤ (iadd .i64 (iadd .i64 r1.1.2.1 (4 : Int)) r1.1.1)) && decide ((iadd .i64 (iadd .i64 r1.1.2.1 (4 : Int)) r1.1.1) ≤ ((ByteArray.size x.1) : Int)))) (bnd (f_spec_l2Sum ((ByteArray.extract x.1 (Int.toNat (iadd .i64 r1.1.2.1 (4 : Int))) (Int.toNat (iadd .i64 (iadd .i64 r1.1.2.1 (4 : Int)) r1.1.1))), ())) fun r2 => (bnd (f_spec_l2Word (r2.1.1, ())) fun r3 => (req (decide ((0 : Int) ≤ r1.1.2.1) && (decide (r1.1.2.1 ≤ (iadd .i64 r1.1.2.1 (4 : Int))) && decide ((iadd .i64 r1.1.2.1 (4 : Int)) ≤ ((ByteArray.size x.1) : Int)))) (cond (!seq r3.1.1 (ByteArray.extract x.1 (Int.toNat r1.1.2.1) (Int.toNat (iadd .i64 r1.1.2.1 (4 : Int)))))
 (some (((⟨#[]⟩ : ByteArray), ((0 : Int), (false, ()))), ()))
 (some (((ByteArray.extract x.1 (Int.toNat (iadd .i64 r1.1.2.1 (4 : Int))) (Int.toNat (iadd .i64 (iadd .i64 r1.1.2.1 (4 : Int)) r1.1.1))), ((iadd .i64 (iadd .i64 r1.1.2.1 (4 : Int)) r1.1.1), (true, ()))), ())))))))))))
def sg76 : Sig := ⟨ins76, res76, f_spec_l2TakeFrame⟩
abbrev ins38 : List Pm := [.val .str]
abbrev res38 : List (K × Mk) := [(.str, .s), (.str, .s), (.str, .s), (.bool, .s)]
def f_spec_l7Parts (x : (ByteArray × Unit)) : Option ((ByteArray × ByteArray × ByteArray × Bool × Unit) × Unit) :=
 (cond (ilt (isub .i64 (slen x.1) (8 : Int)) (0 : Int))
 (some (((⟨#[]⟩ : ByteArray), ((⟨#[]⟩ : ByteArray), ((⟨#[]⟩ : ByteArray), (false, ())))), ()))
 (req (decide ((0 : Int) ≤ (isub .i64 (slen x.1) (8 : Int))) && (decide ((isub .i64 (slen x.1) (8 : Int)) ≤ (iadd .i64 (isub .i64 (slen x.1) (8 : Int)) (4 : Int))) && decide ((iadd .i64 (isub .i64 (slen x.1) (8 : Int)) (4 : Int)) ≤ ((ByteArray.size x.1) : Int)))) (bnd (f_spec_l2Sum ((ByteArray.extract x.1 (Int.toNat (isub .i64 (slen x.1) (8 : Int))) (Int.toNat (iadd .i64 (isub .i64 (slen x.1) (8 : Int)) (4 : Int)))), ())) fun r1 => (bnd (f_spec_l2Word (r1.1.1, ())) fun r2 => (req (decide ((0 : Int) ≤ (iadd .i64 (isub .i64 (slen x.1) (8 : Int)) (4 : Int))) && decide ((iadd .i64 (isub .i64 (slen x.1) (8 : Int)) (4 : Int)) ≤ ((ByteArray.size x.1) : Int))) (cond (!seq r2.1.1 (ByteArray.extract x.1 (Int.toNat (iadd .i64 (isub .i64 (slen x.1) (8 : Int)) (4 : Int))) (ByteArray.size x.1)))
 (some (((⟨#[]⟩ : ByteArray), ((⟨#[]⟩ : ByteArray), ((⟨#[]⟩ : ByteArray), (false, ())))), ()))
 (getB x.1 (isub .i64 (slen x.1) (8 : Int)) fun v3 => (getB x.1 (iadd .i64 (isub .i64 (slen x.1) (8 : Int)) (1 : Int)) fun v4 => (getB x.1 (iadd .i64 (isub .i64 (slen x.1) (8 : Int)) (2 : Int)) fun v5 => (getB x.1 (iadd .i64 (isub .i64 (slen x.1) (8 : Int)) (3 : Int)) fun v6 => (cond (ilt (isub .i64 (slen x.1) (8 : Int)) (ior .i64 (ior .i64 (ior .i64 (IntKind.wrap .i64 v3) (ishl .i64 (IntKind.wrap .i64 v4) (8 : Int))) (ishl .i64 (IntKind.wrap .i64 v5) (16 : Int))) (ishl .i64 (IntKind.wrap .i64 v6) (24 : Int))))
 (some (((⟨#[]⟩ : ByteArray), ((⟨#[]⟩ : ByteArray), ((⟨#[]⟩ : ByteArray), (false, ())))), ()))
 (req (decide ((0 : Int) ≤ (ior .i64 (ior .i64 (ior .i64 (IntKind.wrap .i64 v3) (ishl .i64 (IntKind.wrap .i64 v4) (8 : Int))) (ishl .i64 (IntKind.wrap .i64 v5) (16 : Int))) (ishl .i64 (IntKind.wrap .i64 v6) (24 : Int)))) && (decide ((ior .i64 (ior .i64 (ior .i64 (IntKind.wrap .i64 v3) (ishl .i64 (IntKind.wrap .i64 v4) (8 : Int))) (ishl .i64 (IntKind.wrap .i64 v5) (16 : Int))) (ishl .i64 (IntKind.wrap .i64 v6) (24 : Int))) ≤ (isub .i64 (slen x.1) (8 : Int))) && decide ((isub .i64 (slen x.1) (8 : Int)) ≤ ((ByteArray.size x.1) : Int)))) (bnd (f_spec_l2TakeFrame ((ByteArray.extract x.1 (Int.toNat (ior .i64 (ior .i64 (ior .i64 (IntKind.wrap .i64 v3) (ishl .i64 (IntKind.wrap .i64 v4) (8 : Int))) (ishl .i64 (IntKind.wrap .i64 v5) (16 : Int))) (ishl .i64 (IntKind.wrap .i64 v6) (24 : Int)))) (Int.toNat (isub .i64 (slen x.1) (8 : Int)))), ())) fun r7 => (cond (!r7.1.2.2.1)
 (some (((⟨#[]⟩ : ByteArray), ((⟨#[]⟩ : ByteArray), ((⟨#[]⟩ : ByteArray), (false, ())))), ()))
 (req (decide ((0 : Int) ≤ (iadd .i64 (ior .i64 (ior .i64 (ior .i64 (IntKind.wrap .i64 v3) (ishl .i64 (IntKind.wrap .i64 v4) (8 : Int))) (ishl .i64 (IntKind.wrap .i64 v5) (16 : Int))) (ishl .i64 (IntKind.wrap .i64 v6) (24 : Int))) r7.1.2.1)) && (decide ((iadd .i64 (ior .i64 (ior .i64 (ior .i64 (IntKind.wrap .i64 v3) (ishl .i64 (IntKind.wrap .i64 v4) (8 : Int))) (ishl .i64 (IntKind.wrap .i64 v5) (16 : Int))) (ishl .i64 (IntKind.wrap .i64 v6) (24 : Int))) r7.1.2.1) ≤ (isub .i64 (slen x.1) (8 : Int))) && decide ((isub .i64 (slen x.1) (8 : Int)) ≤ ((ByteArray.size x.1) : Int)))) (bnd (f_spec_l2TakeFrame ((ByteArray.extract x.1 (Int.toNat (iadd .i64 (ior .i64 (ior .i64 (ior .i64 (IntKind.wrap .i64 v3) (ishl .i64 (IntKind.wrap .i64 v4) (8 : Int))) (ishl .i64 (IntKind.wrap .i64 v5) (16 : Int))) (ishl .i64 (IntKind.wrap .i64 v6) (24 : Int))) r7.1.2.1)) (Int.toNat (isub .i64 (slen x.1) (8 : Int)))), ())) fun r8 => (cond (!r8.1.2.2.1)
 (some (((⟨#[]⟩ : ByteArray), ((⟨#[]⟩ : ByteArray), ((⟨#[]⟩ : ByteArray), (false, ())))), ()))
 (cond (!ieq (iadd .i64 (iadd .i64 (ior .i64 (ior .i64 (ior .i64 (IntKind.wrap .i64 v3) (ishl .i64 (IntKind.wrap .i64 v4) (8 : Int))) (ishl .i64 (IntKind.wrap .i64 v5) (16 : Int))) (ishl .i64 (IntKind.wrap .i64 v6) (24 : Int))) r7.1.2.1) r8.1.2.1) (isub .i64 (slen x.1) (8 : Int)))
 (some (((⟨#[]⟩ : ByteArray), ((⟨#[]⟩ : ByteArray), ((⟨#[]⟩ : ByteArray), (false, ())))), ()))
 (req (decide ((0 : Int) ≤ (ior .i64 (ior .i64 (ior .i64 (IntKind.wrap .i64 v3) (ishl .i64 (IntKind.wrap .i64 v4) (8 : Int))) (ishl .i64 (IntKind.wrap .i64 v5) (16 : Int))) (ishl .i64 (IntKind.wrap .i64 v6) (24 : Int)))) && decide ((ior .i64 (ior .i64 (ior .i64 (IntKind.wrap .i64 v3) (ishl .i64 (IntKind.wrap .i64 v4) (8 : Int))) (ishl .i64 (IntKind.wrap .i64 v5) (16 : Int))) (ishl .i64 (IntKind.wrap .i64 v6) (24 : Int))) ≤ ((ByteArray.size x.1) : Int))) (some (((ByteArray.extract x.1 (0 : Nat) (Int.toNat (ior .i64 (ior .i64 (ior .i64 (IntKind.wrap .i64 v3) (ishl .i64 (IntKind.wrap .i64 v4) (8 : Int))) (ishl .i64 (IntKind.wrap .i64 v5) (16 : Int))) (ishl .i64 (IntKind.wrap .i64 v6) (24 : Int))))), (r7.1.1, (r8.1.1, (true, ())))), ())))))))))))))))))))))
def sg38 : Sig := ⟨ins38, res38, f_spec_l7Parts⟩
abbrev ins39 : List Pm := [.val .str]
abbrev res39 : List (K × Mk) := [((.sl kdPlace), (.o .s)), (.bool, .s)]
abbrev f_spec_l7Index_l2c : Desc := ⟨[(4, .al 4 [])], []⟩
abbrev f_spec_l7Index_l2v : Desc := ⟨[(0, .v .str)], [(4, ⟨(.sl kdPlace), (.o .s), false⟩)]⟩
abbrev f_spec_l7Index_l2e : List (Ek × Desc) := [(.ret, ⟨[(2, .al 2 []), (3, .v .bool)], [(2, ⟨(.sl kdPlace), (.o .s), false⟩), (4, ⟨(.sl kdPlace), (.o .s), false⟩)]⟩), (.exit 0, ⟨[], [(4, ⟨(.sl kdPlace), (.o .s), false⟩)]⟩)]
def f_spec_l7Index_l2 (R : Type) (c : (Unit × Unit)) (v : ((ByteArray × Unit) × ((List DPlace) × Unit))) (kk : (Unit × Unit) → (((ByteArray × Unit) × ((List DPlace) × Unit)) ⊕ (((Bool × Unit) × ((List DPlace) × (List DPlace) × Unit)) ⊕ (Unit × ((List DPlace) × Unit)))) → Option R) : Option R :=
 (cond (ilt (0 : Int) (slen v.1.1))
 (bnd (f_spec_l2Take (v.1.1, ())) fun r1 => (cond (ieq r1.1.2.1 (0 : Int))
 (kk ((), ()) (.inr (.inl ((false, ()), (([] : List DPlace), (v.2.1, ()))))))
 (cond (ilt (isub .i64 (slen v.1.1) r1.1.2.1) r1.1.1)
 (kk ((), ()) (.inr (.inl ((false, ()), (([] : List DPlace), (v.2.1, ()))))))
 (req (decide ((0 : Int) ≤ r1.1.2.1) && (decide (r1.1.2.1 ≤ (iadd .i64 r1.1.2.1 r1.1.1)) && decide ((iadd .i64 r1.1.2.1 r1.1.1) ≤ ((ByteArray.size v.1.1) : Int)))) (req (decide ((0 : Int) ≤ (iadd .i64 r1.1.2.1 r1.1.1)) && decide ((iadd .i64 r1.1.2.1 r1.1.1) ≤ ((ByteArray.size v.1.1) : Int))) (bnd (f_spec_l2Take ((ByteArray.extract v.1.1 (Int.toNat (iadd .i64 r1.1.2.1 r1.1.1)) (ByteArray.size v.1.1)), ())) fun r2 => (req (decide ((0 : Int) ≤ r2.1.2.1) && decide (r2.1.2.1 ≤ ((ByteArray.size (ByteArray.extract v.1.1 (Int.toNat (iadd .i64 r1.1.2.1 r1.1.1)) (ByteArray.size v.1.1))) : Int))) (bnd (f_spec_l2Take ((ByteArray.extract (ByteArray.extract v.1.1 (Int.toNat (iadd .i64 r1.1.2.1 r1.1.1)) (ByteArray.size v.1.1)) (Int.toNat r2.1.2.1) (ByteArray.size (ByteArray.extract v.1.1 (Int.toNat (iadd .i64 r1.1.2.1 r1.1.1)) (ByteArray.size v.1.1)))), ())) fun r3 => (req (decide ((0 : Int) ≤ (iadd .i64 r2.1.2.1 r3.1.2.1)) && decide ((iadd .i64 r2.1.2.1 r3.1.2.1) ≤ ((ByteArray.size (ByteArray.extract v.1.1 (Int.toNat (iadd .i64 r1.1.2.1 r1.1.1)) (ByteArray.size v.1.1))) : Int))) (bnd (f_spec_l2Take ((ByteArray.extract (ByteArray.extract v.1.1 (Int.toNat (iadd .i64 r1.1.2.1 r1.1.1)) (ByteArray.size v.1.1)) (Int.toNat (iadd .i64 r2.1.2.1 r3.1.2.1)) (ByteArray.size (ByteArray.extract v.1.1 (Int.toNat (iadd .i64 r1.1.2.1 r1.1.1)) (ByteArray.size v.1.1)))), ())) fun r4 => (cond (ieq r2.1.2.1 (0 : Int))
 (kk ((), ()) (.inr (.inl ((false, ()), (([] : List DPlace), (v.2.1, ()))))))
 (cond (ieq r3.1.2.1 (0 : Int))
 (kk ((), ()) (.inr (.inl ((false, ()), (([] : List DPlace), (v.2.1, ()))))))
 (cond (ieq r4.1.2.1 (0 : Int))
 (kk ((), ()) (.inr (.inl ((false, ()), (([] : List DPlace), (v.2.1, ()))))))
 (req (decide (List.length v.2.1 + List.length [((ByteArray.extract v.1.1 (Int.toNat r1.1.2.1) (Int.toNat (iadd .i64 r1.1.2.1 r1.1.1))), (r2.1.1, (r3.1.1, (r4.1.1, ()))))] ≤ 17179869184)) (req (decide ((0 : Int) ≤ (iadd .i64 (iadd .i64 r2.1.2.1 r3.1.2.1) r4.1.2.1)) && decide ((iadd .i64 (iadd .i64 r2.1.2.1 r3.1.2.1) r4.1.2.1) ≤ ((ByteArray.size (ByteArray.extract v.1.1 (Int.toNat (iadd .i64 r1.1.2.1 r1.1.1)) (ByteArray.size v.1.1))) : Int))) (kk ((), ()) (.inl (((ByteArray.extract (ByteArray.extract v.1.1 (Int.toNat (iadd .i64 r1.1.2.1 r1.1.1)) (ByteArray.size v.1.1)) (Int.toNat (iadd .i64 (iadd .i64 r2.1.2.1 r3.1.2.1) r4.1.2.1)) (ByteArray.size (ByteArray.extract v.1.1 (Int.toNat (iadd .i64 r1.1.2.1 r1.1.1)) (ByteArray.size v.1.1)))), ()), ((v.2.1 ++ [((ByteArray.extract v.1.1 (Int.toNat r1.1.2.1) (Int.toNat (iadd .i64 r1.1.2.1 r1.1.1))), (r2.1.1, (r3.1.1, (r4.1.1, ()))))]), ())))))))))))))))))))
 (kk ((), ()) (.inr (.inr ((), (v.2.1, ()))))))
def f_spec_l7Index (x : (ByteArray × Unit)) : Option (((List DPlace) × Bool × Unit) × Unit) :=
 (loopF (c := f_spec_l7Index_l2c) (v := f_spec_l7Index_l2v) (ex := f_spec_l7Index_l2e) f_spec_l7Index_l2 _ ((), ()) ((x.1, ()), (([] : List DPlace), ())) fun c5 o6 =>
 (match o6 with
 | .inl y7 => (some ((y7.2.1, (y7.1.1, ())), ()))
 | .inr z8 => (some ((z8.2.1, (true, ())), ()))))
def sg39 : Sig := ⟨ins39, res39, f_spec_l7Index⟩
abbrev ins101 : List Pm := [.val .str]
abbrev res101 : List (K × Mk) := [(.str, .s), ((.sl (.int .i64)), (.o .s)), (.bool, .s)]
abbrev f_spec_l6Tail_l10c : Desc := ⟨[(0, .v .str), (5, .v (.int .i64)), (7, .v (.int .i64)), (8, .al 8 [])], []⟩
abbrev f_spec_l6Tail_l10v : Desc := ⟨[(9, .v (.int .i64))], [(8, ⟨(.sl (.int .i64)), (.o .s), false⟩)]⟩
abbrev f_spec_l6Tail_l10e : List (Ek × Desc) := [(.exit 0, ⟨[], [(8, ⟨(.sl (.int .i64)), (.o .s), false⟩)]⟩)]
def f_spec_l6Tail_l10 (R : Type) (c : ((ByteArray × Int × Int × Unit) × Unit)) (v : ((Int × Unit) × ((List Int) × Unit))) (kk : ((ByteArray × Int × Int × Unit) × Unit) → (((Int × Unit) × ((List Int) × Unit)) ⊕ (Unit × ((List Int) × Unit))) → Option R) : Option R :=
 (cond (ilt v.1.1 c.1.2.1)
 (getB c.1.1 v.1.1 fun v5 => (getB c.1.1 (iadd .i64 v.1.1 (1 : Int)) fun v6 => (req (decide (List.length v.2.1 + List.length [(ior .i64 (IntKind.wrap .i64 v5) (ishl .i64 (IntKind.wrap .i64 v6) (8 : Int)))] ≤ 17179869184)) (kk ((c.1.1, (c.1.2.1, (c.1.2.2.1, ()))), ()) (.inl (((iadd .i64 v.1.1 (2 : Int)), ()), ((v.2.1 ++ [(ior .i64 (IntKind.wrap .i64 v5) (ishl .i64 (IntKind.wrap .i64 v6) (8 : Int)))]), ())))))))
 (kk ((c.1.1, (c.1.2.1, (c.1.2.2.1, ()))), ()) (.inr ((), (v.2.1, ())))))
def f_spec_l6Tail (x : (ByteArray × Unit)) : Option ((ByteArray × (List Int) × Bool × Unit) × Unit) :=
 (cond (ilt (isub .i64 (slen x.1) (6 : Int)) (0 : Int))
 (some (((⟨#[]⟩ : ByteArray), (([] : List Int), (false, ()))), ()))
 (req (decide ((0 : Int) ≤ (iadd .i64 (isub .i64 (slen x.1) (6 : Int)) (2 : Int))) && decide ((iadd .i64 (isub .i64 (slen x.1) (6 : Int)) (2 : Int)) ≤ ((ByteArray.size x.1) : Int))) (bnd (f_spec_l2Sum ((ByteArray.extract x.1 (0 : Nat) (Int.toNat (iadd .i64 (isub .i64 (slen x.1) (6 : Int)) (2 : Int)))), ())) fun r1 => (bnd (f_spec_l2Word (r1.1.1, ())) fun r2 => (req (decide ((0 : Int) ≤ (iadd .i64 (isub .i64 (slen x.1) (6 : Int)) (2 : Int))) && decide ((iadd .i64 (isub .i64 (slen x.1) (6 : Int)) (2 : Int)) ≤ ((ByteArray.size x.1) : Int))) (cond (!seq r2.1.1 (ByteArray.extract x.1 (Int.toNat (iadd .i64 (isub .i64 (slen x.1) (6 : Int)) (2 : Int))) (ByteArray.size x.1)))
 (some (((⟨#[]⟩ : ByteArray), (([] : List Int), (false, ()))), ()))
 (getB x.1 (isub .i64 (slen x.1) (6 : Int)) fun v3 => (getB x.1 (iadd .i64 (isub .i64 (slen x.1) (6 : Int)) (1 : Int)) fun v4 => (cond (ilt (isub .i64 (isub .i64 (slen x.1) (6 : Int)) (imul .i64 (2 : Int) (ior .i64 (IntKind.wrap .i64 v3) (ishl .i64 (IntKind.wrap .i64 v4) (8 : Int))))) (0 : Int))
 (some (((⟨#[]⟩ : ByteArray), (([] : List Int), (false, ()))), ()))
 (loopF (c := f_spec_l6Tail_l10c) (v := f_spec_l6Tail_l10v) (ex := f_spec_l6Tail_l10e) f_spec_l6Tail_l10 _ ((x.1, ((isub .i64 (slen x.1) (6 : Int)), ((isub .i64 (isub .i64 (slen x.1) (6 : Int)) (imul .i64 (2 : Int) (ior .i64 (IntKind.wrap .i64 v3) (ishl .i64 (IntKind.wrap .i64 v4) (8 : Int))))), ()))), ()) (((isub .i64 (isub .i64 (slen x.1) (6 : Int)) (imul .i64 (2 : Int) (ior .i64 (IntKind.wrap .i64 v3) (ishl .i64 (IntKind.wrap .i64 v4) (8 : Int))))), ()), (([] : List Int), ())) fun c7 o8 =>
 (req (decide ((0 : Int) ≤ c7.1.2.2.1) && decide (c7.1.2.2.1 ≤ ((ByteArray.size c7.1.1) : Int))) (some (((ByteArray.extract c7.1.1 (0 : Nat) (Int.toNat c7.1.2.2.1)), (o8.2.1, (true, ()))), ())))))))))))))
def sg101 : Sig := ⟨ins101, res101, f_spec_l6Tail⟩
abbrev ins102 : List Pm := [.val .str, .val .str]
abbrev res102 : List (K × Mk) := [(kdItem, .s), ((.int .i64), .s)]
def f_spec_l6Item (x : (ByteArray × ByteArray × Unit)) : Option ((DItem × Int × Unit) × Unit) :=
 (bnd (f_spec_l2Take (x.1, ())) fun r1 => (req (decide ((0 : Int) ≤ r1.1.2.1) && decide (r1.1.2.1 ≤ ((ByteArray.size x.1) : Int))) (bnd (f_spec_l2Take ((ByteArray.extract x.1 (Int.toNat r1.1.2.1) (ByteArray.size x.1)), ())) fun r2 => (req (decide ((0 : Int) ≤ (iadd .i64 r1.1.2.1 r2.1.2.1)) && decide ((iadd .i64 r1.1.2.1 r2.1.2.1) ≤ ((ByteArray.size x.1) : Int))) (bnd (f_spec_l2Take ((ByteArray.extract x.1 (Int.toNat (iadd .i64 r1.1.2.1 r2.1.2.1)) (ByteArray.size x.1)), ())) fun r3 => (req (decide ((0 : Int) ≤ (iadd .i64 (iadd .i64 r1.1.2.1 r2.1.2.1) r3.1.2.1)) && decide ((iadd .i64 (iadd .i64 r1.1.2.1 r2.1.2.1) r3.1.2.1) ≤ ((ByteArray.size x.1) : Int))) (bnd (f_spec_l2Take ((ByteArray.extract x.1 (Int.toNat (iadd .i64 (iadd .i64 r1.1.2.1 r2.1.2.1) r3.1.2.1)) (ByteArray.size x.1)), ())) fun r4 => (cond (ieq r1.1.2.1 (0 : Int))
 (some ((((⟨#[]⟩ : ByteArray), ((0 : Int), ((0 : Int), ((⟨#[]⟩ : ByteArray), ())))), ((0 : Int), ())), ()))
 (cond (ieq r2.1.2.1 (0 : Int))
 (some ((((⟨#[]⟩ : ByteArray), ((0 : Int), ((0 : Int), ((⟨#[]⟩ : ByteArray), ())))), ((0 : Int), ())), ()))
 (cond (ieq r3.1.2.1 (0 : Int))
 (some ((((⟨#[]⟩ : ByteArray), ((0 : Int), ((0 : Int), ((⟨#[]⟩ : ByteArray), ())))), ((0 : Int), ())), ()))
 (cond (ieq r4.1.2.1 (0 : Int))
 (some ((((⟨#[]⟩ : ByteArray), ((0 : Int), ((0 : Int), ((⟨#[]⟩ : ByteArray), ())))), ((0 : Int), ())), ()))
 (cond (ilt (slen x.2.1) r1.1.1)
 (some ((((⟨#[]⟩ : ByteArray), ((0 : Int), ((0 : Int), ((⟨#[]⟩ : ByteArray), ())))), ((0 : Int), ())), ()))
 (cond (ilt (16 : Int) r2.1.1)
 (some ((((⟨#[]⟩ : ByteArray), ((0 : Int), ((0 : Int), ((⟨#[]⟩ : ByteArray), ())))), ((0 : Int), ())), ()))
 (cond (ilt (40 : Int) r4.1.1)
 (some ((((⟨#[]⟩ : ByteArray), ((0 : Int), ((0 : Int), ((⟨#[]⟩ : ByteArray), ())))), ((0 : Int), ())), ()))
 (cond (ilt (slen x.1) (iadd .i64 (iadd .i64 (iadd .i64 (iadd .i64 (iadd .i64 r1.1.2.1 r2.1.2.1) r3.1.2.1) r4.1.2.1) r2.1.1) r4.1.1))
 (some ((((⟨#[]⟩ : ByteArray), ((0 : Int), ((0 : Int), ((⟨#[]⟩ : ByteArray), ())))), ((0 : Int), ())), ()))
 (req (decide ((0 : Int) ≤ r1.1.1) && decide (r1.1.1 ≤ ((ByteArray.size x.2.1) : Int))) (req (decide ((0 : Int) ≤ (iadd .i64 (iadd .i64 (iadd .i64 r1.1.2.1 r2.1.2.1) r3.1.2.1) r4.1.2.1)) && (decide ((iadd .i64 (iadd .i64 (iadd .i64 r1.1.2.1 r2.1.2.1) r3.1.2.1) r4.1.2.1) ≤ (iadd .i64 (iadd .i64 (iadd .i64 (iadd .i64 r1.1.2.1 r2.1.2.1) r3.1.2.1) r4.1.2.1) r2.1.1)) && decide ((iadd .i64 (iadd .i64 (iadd .i64 (iadd .i64 r1.1.2.1 r2.1.2.1) r3.1.2.1) r4.1.2.1) r2.1.1) ≤ ((ByteArray.size x.1) : Int)))) (catO (ByteArray.extract x.2.1 (0 : Nat) (Int.toNat r1.1.1)) (ByteArray.extract x.1 (Int.toNat (iadd .i64 (iadd .i64 (iadd .i64 r1.1.2.1 r2.1.2.1) r3.1.2.1) r4.1.2.1)) (Int.toNat (iadd .i64 (iadd .i64 (iadd .i64 (iadd .i64 r1.1.2.1 r2.1.2.1) r3.1.2.1) r4.1.2.1) r2.1.1))) fun v5 => (req (decide ((0 : Int) ≤ (iadd .i64 (iadd .i64 (iadd .i64 (iadd .i64 r1.1.2.1 r2.1.2.1) r3.1.2.1) r4.1.2.1) r2.1.1)) && (decide ((iadd .i64 (iadd .i64 (iadd .i64 (iadd .i64 r1.1.2.1 r2.1.2.1) r3.1.2.1) r4.1.2.1) r2.1.1) ≤ (iadd .i64 (iadd .i64 (iadd .i64 (iadd .i64 (iadd .i64 r1.1.2.1 r2.1.2.1) r3.1.2.1) r4.1.2.1) r2.1.1) r4.1.1)) && decide ((iadd .i64 (iadd .i64 (iadd .i64 (iadd .i64 (iadd .i64 r1.1.2.1 r2.1.2.1) r3.1.2.1) r4.1.2.1) r2.1.1) r4.1.1) ≤ ((ByteArray.size x.1) : Int)))) (some (((v5, ((iquo .i64 r3.1.1 (2 : Int)), ((irem .i64 r3.1.1 (2 : Int)), ((ByteArray.extract x.1 (Int.toNat (iadd .i64 (iadd .i64 (iadd .i64 (iadd .i64 r1.1.2.1 r2.1.2.1) r3.1.2.1) r4.1.2.1) r2.1.1)) (Int.toNat (iadd .i64 (iadd .i64 (iadd .i64 (iadd .i64 (iadd .i64 r1.1.2.1 r2.1.2.1) r3.1.2.1) r4.1.2.1) r2.1.1) r4.1.1))), ())))), ((iadd .i64 (iadd .i64 (iadd .i64 (iadd .i64 (iadd .i64 r1.1.2.1 r2.1.2.1) r3.1.2.1) r4.1.2.1) r2.1.1) r4.1.1), ())), ())))))))))))))))))))))
def sg102 : Sig := ⟨ins102, res102, f_spec_l6Item⟩
abbrev ins75 : List Pm := [.val .str]
abbrev res75 : List (K × Mk) := [((.sl kdItem), (.o .s)), (.bool, .s)]
abbrev f_spec_l6Read_l6c : Desc := ⟨[(0, .v .str), (7, .al 7 [])], []⟩
abbrev f_spec_l6Read_l6v : Desc := ⟨[(4, .v .str), (8, .v .str)], [(7, ⟨(.sl kdItem), (.o .s), false⟩)]⟩
abbrev f_spec_l6Read_l6e : List (Ek × Desc) := [(.ret, ⟨[(2, .al 2 []), (3, .v .bool)], [(2, ⟨(.sl kdItem), (.o .s), false⟩), (7, ⟨(.sl kdItem), (.o .s), false⟩)]⟩), (.exit 0, ⟨[], [(7, ⟨(.sl kdItem), (.o .s), false⟩)]⟩)]
def f_spec_l6Read_l6 (R : Type) (c : ((ByteArray × Unit) × Unit)) (v : ((ByteArray × ByteArray × Unit) × ((List DItem) × Unit))) (kk : ((ByteArray × Unit) × Unit) → (((ByteArray × ByteArray × Unit) × ((List DItem) × Unit)) ⊕ (((Bool × Unit) × ((List DItem) × (List DItem) × Unit)) ⊕ (Unit × ((List DItem) × Unit)))) → Option R) : Option R :=
 (cond (ilt (0 : Int) (slen v.1.1))
 (cond (ile (llen v.2.1) (40 : Int))
 (bnd (f_spec_l6Item (v.1.1, (v.1.2.1, ()))) fun r2 => (cond (ieq r2.1.2.1 (0 : Int))
 (kk ((c.1.1, ()), ()) (.inr (.inl ((false, ()), (([] : List DItem), (v.2.1, ()))))))
 (req (decide (List.length v.2.1 + List.length [r2.1.1] ≤ 17179869184)) (req (decide ((0 : Int) ≤ r2.1.2.1) && decide (r2.1.2.1 ≤ ((ByteArray.size v.1.1) : Int))) (kk ((c.1.1, ()), ()) (.inl (((ByteArray.extract v.1.1 (Int.toNat r2.1.2.1) (ByteArray.size v.1.1)), (r2.1.1.1, ())), ((v.2.1 ++ [r2.1.1]), ()))))))))
 (kk ((c.1.1, ()), ()) (.inr (.inr ((), (v.2.1, ()))))))
 (kk ((c.1.1, ()), ()) (.inr (.inr ((), (v.2.1, ()))))))
def f_spec_l6Read (x : (ByteArray × Unit)) : Option (((List DItem) × Bool × Unit) × Unit) :=
 (bnd (f_spec_l6Tail (x.1, ())) fun r1 => (cond (!r1.1.2.2.1)
 (some ((([] : List DItem), (false, ())), ()))
 (loopF (c := f_spec_l6Read_l6c) (v := f_spec_l6Read_l6v) (ex := f_spec_l6Read_l6e) f_spec_l6Read_l6 _ ((x.1, ()), ()) ((r1.1.1, ((⟨#[]⟩ : ByteArray), ())), (([] : List DItem), ())) fun c3 o4 =>
 (match o4 with
 | .inl y5 => (some ((y5.2.1, (y5.1.1, ())), ()))
 | .inr z6 => (bnd (f_spec_GoodRun (z6.2.1, ())) fun r7 => (cond (!r7.1.1)
 (some ((([] : List DItem), (false, ())), ()))
 (cond (ilt (40 : Int) (llen z6.2.1))
 (some ((([] : List DItem), (false, ())), ()))
 (bnd (f_spec_l6Block (z6.2.1, ())) fun r8 => (cond (!seq r8.1.1 c3.1.1)
 (some ((([] : List DItem), (false, ())), ()))
 (some ((z6.2.1, (true, ())), ())))))))))))
def sg75 : Sig := ⟨ins75, res75, f_spec_l6Read⟩
abbrev ins37 : List Pm := [.val .str]
abbrev res37 : List (K × Mk) := [((.sl kdItem), (.o .s)), (.bool, .s)]
abbrev f_spec_l7Read_l7c : Desc := ⟨[(0, .v .str), (4, .v .str), (10, .al 10 []), (33, .al 8 []), (34, .v (.int .i64))], [(8, ⟨(.sl kdPlace), (.o .s), false⟩)]⟩
abbrev f_spec_l7Read_l7v : Desc := ⟨[(35, .v (.int .i64))], [(10, ⟨(.sl kdItem), (.o .s), false⟩)]⟩
abbrev f_spec_l7Read_l7e : List (Ek × Desc) := [(.ret, ⟨[(2, .al 2 []), (3, .v .bool)], [(2, ⟨(.sl kdItem), (.o .s), false⟩), (10, ⟨(.sl kdItem), (.o .s), false⟩)]⟩), (.exit 0, ⟨[], [(10, ⟨(.sl kdItem), (.o .s), false⟩)]⟩)]
def f_spec_l7Read_l7 (R : Type) (c : ((ByteArray × ByteArray × Int × Unit) × ((List DPlace) × Unit))) (v : ((Int × Unit) × ((List DItem) × Unit))) (kk : ((ByteArray × ByteArray × Int × Unit) × ((List DPlace) × Unit)) → (((Int × Unit) × ((List DItem) × Unit)) ⊕ (((Bool × Unit) × ((List DItem) × (List DItem) × Unit)) ⊕ (Unit × ((List DItem) × Unit)))) → Option R) : Option R :=
 (cond (ilt v.1.1 c.1.2.2.1)
 (getO c.2.1 v.1.1 fun _ => (bnd (c.2.1[(Int.toNat v.1.1)]?) fun v4 => (cond (ilt (slen c.1.2.1) v4.2.2.2.1)
 (kk ((c.1.1, (c.1.2.1, (c.1.2.2.1, ()))), (c.2.1, ())) (.inr (.inl ((false, ()), (([] : List DItem), (v.2.1, ()))))))
 (cond (ilt (isub .i64 (slen c.1.2.1) v4.2.2.2.1) v4.2.2.1)
 (kk ((c.1.1, (c.1.2.1, (c.1.2.2.1, ()))), (c.2.1, ())) (.inr (.inl ((false, ()), (([] : List DItem), (v.2.1, ()))))))
 (req (decide ((0 : Int) ≤ v4.2.2.1) && (decide (v4.2.2.1 ≤ (iadd .i64 v4.2.2.1 v4.2.2.2.1)) && decide ((iadd .i64 v4.2.2.1 v4.2.2.2.1) ≤ ((ByteArray.size c.1.2.1) : Int)))) (bnd (f_spec_l6Read ((ByteArray.extract c.1.2.1 (Int.toNat v4.2.2.1) (Int.toNat (iadd .i64 v4.2.2.1 v4.2.2.2.1))), ())) fun r5 => (cond (!r5.1.2.1)
 (kk ((c.1.1, (c.1.2.1, (c.1.2.2.1, ()))), (c.2.1, ())) (.inr (.inl ((false, ()), (([] : List DItem), (v.2.1, ()))))))
 (cond (ilt (120 : Int) (llen v.2.1))
 (kk ((c.1.1, (c.1.2.1, (c.1.2.2.1, ()))), (c.2.1, ())) (.inr (.inl ((false, ()), (([] : List DItem), (v.2.1, ()))))))
 (req (decide (List.length v.2.1 + List.length r5.1.1 ≤ 17179869184)) (kk ((c.1.1, (c.1.2.1, (c.1.2.2.1, ()))), (c.2.1, ())) (.inl (((iadd .i64 v.1.1 (1 : Int)), ()), ((v.2.1 ++ r5.1.1), ())))))))))))))
 (kk ((c.1.1, (c.1.2.1, (c.1.2.2.1, ()))), (c.2.1, ())) (.inr (.inr ((), (v.2.1, ()))))))
def f_spec_l7Read (x : (ByteArray × Unit)) : Option (((List DItem) × Bool × Unit) × Unit) :=
 (bnd (f_spec_l7Parts (x.1, ())) fun r1 => (bnd (f_spec_l7Index (r1.1.2.1, ())) fun r2 => (cond (!r1.1.2.2.2.1)
 (some ((([] : List DItem), (false, ())), ()))
 (cond (!r2.1.2.1)
 (some ((([] : List DItem), (false, ())), ()))
 (loopF (c := f_spec_l7Read_l7c) (v := f_spec_l7Read_l7v) (ex := f_spec_l7Read_l7e) f_spec_l7Read_l7 _ ((x.1, (r1.1.1, ((llen r2.1.1), ()))), (r2.1.1, ())) (((0 : Int), ()), (([] : List DItem), ())) fun c6 o7 =>
 (match o7 with
 | .inl y8 => (some ((y8.2.1, (y8.1.1, ())), ()))
 | .inr z9 => (bnd (f_spec_l7Good (z9.2.1, ())) fun r10 => (cond (!r10.1.1)
 (some ((([] : List DItem), (false, ())), ()))
 (bnd (f_spec_l7Table (z9.2.1, ())) fun r11 => (cond (!seq r11.1.1 c6.1.1)
 (some ((([] : List DItem), (false, ())), ()))
 (some ((z9.2.1, (true, ())), ()))))))))))))
def sg37 : Sig := ⟨ins37, res37, f_spec_l7Read⟩
abbrev ins15 : List Pm := [.val .str]
abbrev res15 : List (K × Mk) := [((.sl kdPlace), (.o .s)), (.bool, .s)]
def f_spec_IndexOf (x : (ByteArray × Unit)) : Option (((List DPlace) × Bool × Unit) × Unit) :=
 (bnd (f_spec_l7Read (x.1, ())) fun r1 => (cond (!r1.1.2.1)
 (some ((([] : List DPlace), (false, ())), ()))
 (bnd (f_spec_l7Parts (x.1, ())) fun r2 => (bnd (f_spec_l7Index (r2.1.2.1, ())) fun r3 => (some ((r3.1.1, (r3.1.2.1, ())), ()))))))
def sg15 : Sig := ⟨ins15, res15, f_spec_IndexOf⟩
abbrev ins16 : List Pm := [.val .str]
abbrev res16 : List (K × Mk) := [(.str, .s), (.str, .s), (.bool, .s)]
def f_impl_RangeOf (x : (ByteArray × Unit)) : Option ((ByteArray × ByteArray × Bool × Unit) × Unit) :=
 (bnd (f_impl_readTable (x.1, ())) fun r1 => (cond (!r1.1.2.1)
 (some (((⟨#[]⟩ : ByteArray), ((⟨#[]⟩ : ByteArray), (false, ()))), ()))
 (getO r1.1.1.1 (0 : Int) fun _ => (bnd (r1.1.1.1[(Int.toNat (0 : Int))]?) fun v3 => (bnd (r1.1.1.1[(Int.toNat (0 : Int))]?) fun v4 => (getO r1.1.1.1 (isub .i64 (llen r1.1.1.1) (1 : Int)) fun _ => (bnd (r1.1.1.1[(Int.toNat (isub .i64 (llen r1.1.1.1) (1 : Int)))]?) fun v6 => (bnd (r1.1.1.1[(Int.toNat (isub .i64 (llen r1.1.1.1) (1 : Int)))]?) fun v7 => (some ((v4.1, (v7.1, (true, ()))), ()))))))))))
def sg16 : Sig := ⟨ins16, res16, f_impl_RangeOf⟩
abbrev ins17 : List Pm := [.val .str]
abbrev res17 : List (K × Mk) := [(kdFilter, .s), (.bool, .s)]
def f_impl_FilterIn (x : (ByteArray × Unit)) : Option ((DFilter × Bool × Unit) × Unit) :=
 (bnd (f_impl_readTable (x.1, ())) fun r1 => (cond (!r1.1.2.1)
 (some ((((0 : Int), ((⟨#[]⟩ : ByteArray), ((0 : Int), ()))), (false, ())), ()))
 (some ((r1.1.1.2.2.1, (true, ())), ()))))
def sg17 : Sig := ⟨ins17, res17, f_impl_FilterIn⟩
abbrev ins4 : List Pm := [.val (.sl (.int .u8))]
abbrev res4 : List (K × Mk) := [(.bool, .s)]
abbrev f_laws_FnIndexed_i21c : Desc := ⟨[(4, .al 4 []), (6, .al 6 []), (8, .al 8 []), (10, .v .str), (11, .v .str), (13, .ptr 13 []), (15, .v (.int .i64)), (16, .v (.int .i64)), (17, .ptr 17 []), (82, .al 4 []), (83, .v (.int .i64)), (84, .v (.int .i64)), (96, .v .bool)], [(4, ⟨(.sl kdPlace), (.o .s), false⟩), (6, ⟨(.sl kdPlace), (.o .s), false⟩), (8, ⟨(.sl kdItem), (.o .s), false⟩), (13, ⟨kdFilter, .s, true⟩), (17, ⟨kdPlace, .s, true⟩)]⟩
abbrev f_laws_FnIndexed_i21v : Desc := ⟨[(18, .v (.int .i64))], []⟩
abbrev f_laws_FnIndexed_i21e : List (Ek × Desc) := [(.norm, ⟨[(18, .v (.int .i64))], []⟩)]
def f_laws_FnIndexed_i21 (R : Type) (c : ((ByteArray × ByteArray × Int × Int × Int × Int × Bool × Unit) × ((List DPlace) × (List DPlace) × (List DItem) × DFilter × DPlace × Unit))) (v : ((Int × Unit) × Unit)) (kk : ((ByteArray × ByteArray × Int × Int × Int × Int × Bool × Unit) × ((List DPlace) × (List DPlace) × (List DItem) × DFilter × DPlace × Unit)) → ((Int × Unit) × Unit) → Option R) : Option R :=
 (cond c.1.2.2.2.2.2.2.1
 (kk ((c.1.1, (c.1.2.1, (c.1.2.2.1, (c.1.2.2.2.1, (c.1.2.2.2.2.1, (c.1.2.2.2.2.2.1, (c.1.2.2.2.2.2.2.1, ()))))))), (c.2.1, (c.2.2.1, (c.2.2.2.1, (c.2.2.2.2.1, (c.2.2.2.2.2.1, ())))))) (((isub .i64 (llen c.2.2.2.1) (1 : Int)), ()), ()))
 (kk ((c.1.1, (c.1.2.1, (c.1.2.2.1, (c.1.2.2.2.1, (c.1.2.2.2.2.1, (c.1.2.2.2.2.2.1, (c.1.2.2.2.2.2.2.1, ()))))))), (c.2.1, (c.2.2.1, (c.2.2.2.1, (c.2.2.2.2.1, (c.2.2.2.2.2.1, ())))))) ((v.1.1, ()), ())))
abbrev f_laws_FnIndexed_l17c : Desc := ⟨[(4, .al 4 []), (6, .al 6 []), (8, .al 8 []), (13, .ptr 13 []), (82, .al 4 [])], []⟩
abbrev f_laws_FnIndexed_l17v : Desc := ⟨[(10, .v .str), (11, .v .str), (15, .v (.int .i64)), (83, .v (.int .i64)), (84, .v (.int .i64))], [(4, ⟨(.sl kdPlace), (.o .s), false⟩), (6, ⟨(.sl kdPlace), (.o .s), false⟩), (8, ⟨(.sl kdItem), (.o .s), false⟩), (13, ⟨kdFilter, .s, true⟩)]⟩
abbrev f_laws_FnIndexed_l17e : List (Ek × Desc) := [(.ret, ⟨[(2, .v .bool)], [(4, ⟨(.sl kdPlace), (.o .s), false⟩), (6, ⟨(.sl kdPlace), (.o .s), false⟩), (8, ⟨(.sl kdItem), (.o .s), false⟩), (13, ⟨kdFilter, .s, true⟩)]⟩), (.exit 0, ⟨[(10, .v .str), (11, .v .str)], [(4, ⟨(.sl kdPlace), (.o .s), false⟩), (6, ⟨(.sl kdPlace), (.o .s), false⟩), (8, ⟨(.sl kdItem), (.o .s), false⟩), (13, ⟨kdFilter, .s, true⟩)]⟩)]
def f_laws_FnIndexed_l17 (R : Type) (c : (Unit × Unit)) (v : ((ByteArray × ByteArray × Int × Int × Int × Unit) × ((List DPlace) × (List DPlace) × (List DItem) × DFilter × Unit))) (kk : (Unit × Unit) → (((ByteArray × ByteArray × Int × Int × Int × Unit) × ((List DPlace) × (List DPlace) × (List DItem) × DFilter × Unit)) ⊕ (((Bool × Unit) × ((List DPlace) × (List DPlace) × (List DItem) × DFilter × Unit)) ⊕ ((ByteArray × ByteArray × Unit) × ((List DPlace) × (List DPlace) × (List DItem) × DFilter × Unit)))) → Option R) : Option R :=
 (cond (ilt v.1.2.2.2.2.1 v.1.2.2.2.1)
 (getO v.2.1 v.1.2.2.2.2.1 fun _ => (bnd (v.2.1[(Int.toNat v.1.2.2.2.2.1)]?) fun v8 => (f_laws_FnIndexed_i21 _ ((v.1.1, (v.1.2.1, (v.1.2.2.1, (v.1.2.2.2.2.1, (v.1.2.2.2.1, (v.1.2.2.2.2.1, ((ile (llen v.2.2.2.1) (isub .i64 (imul .i64 (iadd .i64 v.1.2.2.2.2.1 (1 : Int)) (8 : Int)) (1 : Int))), ()))))))), (v.2.1, (v.2.2.1, (v.2.2.2.1, (v.2.2.2.2.1, (v8, ())))))) (((isub .i64 (imul .i64 (iadd .i64 v.1.2.2.2.2.1 (1 : Int)) (8 : Int)) (1 : Int)), ()), ()) fun c9 o10 =>
 (getO c9.2.2.1 c9.1.2.2.2.1 fun _ => (bnd (c9.2.2.1[(Int.toNat c9.1.2.2.2.1)]?) fun v12 => (cond (!(eqK kdPlace c9.2.2.2.2.2.1 v12))
 (kk ((), ()) (.inr (.inl ((false, ()), (c9.2.1, (c9.2.2.1, (c9.2.2.2.1, (c9.2.2.2.2.1, ()))))))))
 (cond (!ieq c9.2.2.2.2.2.1.2.2.1 c9.1.2.2.1)
 (kk ((), ()) (.inr (.inl ((false, ()), (c9.2.1, (c9.2.2.1, (c9.2.2.2.1, (c9.2.2.2.2.1, ()))))))))
 (getO c9.2.2.2.1 o10.1.1 fun _ => (bnd (c9.2.2.2.1[(Int.toNat o10.1.1)]?) fun v14 => (bnd (c9.2.2.2.1[(Int.toNat o10.1.1)]?) fun v15 => (cond (!seq c9.2.2.2.2.2.1.1 v15.1)
 (kk ((), ()) (.inr (.inl ((false, ()), (c9.2.1, (c9.2.2.1, (c9.2.2.2.1, (c9.2.2.2.2.1, ()))))))))
 (getO c9.2.2.2.1 o10.1.1 fun _ => (bnd (c9.2.2.2.1[(Int.toNat o10.1.1)]?) fun v17 => (bnd (c9.2.2.2.1[(Int.toNat o10.1.1)]?) fun v18 => (cond (!ieq c9.2.2.2.2.2.1.2.1 v18.2.1)
 (kk ((), ()) (.inr (.inl ((false, ()), (c9.2.1, (c9.2.2.1, (c9.2.2.2.1, (c9.2.2.2.2.1, ()))))))))
 (kk ((), ()) (.inl ((c9.1.1, (c9.1.2.1, ((iadd .i64 c9.1.2.2.1 c9.2.2.2.2.2.1.2.2.2.1), (c9.1.2.2.2.2.1, ((iadd .i64 c9.1.2.2.2.2.2.1 (1 : Int)), ()))))), (c9.2.1, (c9.2.2.1, (c9.2.2.2.1, (c9.2.2.2.2.1, ()))))))))))))))))))))))
 (kk ((), ()) (.inr (.inr ((v.1.1, (v.1.2.1, ())), (v.2.1, (v.2.2.1, (v.2.2.2.1, (v.2.2.2.2.1, ())))))))))
abbrev f_laws_FnIndexed_l27c : Desc := ⟨[(4, .al 4 []), (8, .al 8 []), (10, .v .str), (11, .v .str), (13, .ptr 13 []), (137, .al 8 []), (138, .v (.int .i64))], [(4, ⟨(.sl kdPlace), (.o .s), false⟩), (8, ⟨(.sl kdItem), (.o .s), false⟩), (13, ⟨kdFilter, .s, true⟩)]⟩
abbrev f_laws_FnIndexed_l27v : Desc := ⟨[(139, .v (.int .i64))], []⟩
abbrev f_laws_FnIndexed_l27e : List (Ek × Desc) := [(.ret, ⟨[(2, .v .bool)], []⟩), (.exit 2, ⟨[], []⟩)]
def f_laws_FnIndexed_l27 (R : Type) (c : ((ByteArray × ByteArray × Int × Unit) × ((List DPlace) × (List DItem) × DFilter × Unit))) (v : ((Int × Unit) × Unit)) (kk : ((ByteArray × ByteArray × Int × Unit) × ((List DPlace) × (List DItem) × DFilter × Unit)) → (((Int × Unit) × Unit) ⊕ (((Bool × Unit) × Unit) ⊕ (Unit × Unit))) → Option R) : Option R :=
 (cond (ilt v.1.1 c.1.2.2.1)
 (getO c.2.2.1 v.1.1 fun _ => (bnd (c.2.2.1[(Int.toNat v.1.1)]?) fun v24 => (bnd (f_impl_MayHave (c.2.2.2.1, (v24.1, ()))) fun r25 => (cond (!r25.1.2.1)
 (kk ((c.1.1, (c.1.2.1, (c.1.2.2.1, ()))), (c.2.1, (c.2.2.1, (c.2.2.2.1, ())))) (.inr (.inl ((false, ()), ()))))
 (cond (!r25.1.1)
 (kk ((c.1.1, (c.1.2.1, (c.1.2.2.1, ()))), (c.2.1, (c.2.2.1, (c.2.2.2.1, ())))) (.inr (.inl ((false, ()), ()))))
 (kk ((c.1.1, (c.1.2.1, (c.1.2.2.1, ()))), (c.2.1, (c.2.2.1, (c.2.2.2.1, ())))) (.inl (((iadd .i64 v.1.1 (1 : Int)), ()), ()))))))))
 (kk ((c.1.1, (c.1.2.1, (c.1.2.2.1, ()))), (c.2.1, (c.2.2.1, (c.2.2.2.1, ())))) (.inr (.inr ((), ())))))
def f_laws_FnIndexed (x : ((List Int) × Unit)) : Option ((Bool × Unit) × Unit) :=
 (cond (ilt (1048576 : Int) (llen x.1))
 (some ((true, ()), ()))
 (bnd (f_spec_DrawIndexOf (x.1, ())) fun r1 => (bnd (f_impl_IndexOf (r1.1.1, ())) fun r2 => (bnd (f_spec_IndexOf (r1.1.1, ())) fun r3 => (bnd (f_impl_ReadTable (r1.1.1, ())) fun r4 => (cond (!beqB r2.1.2.1 r3.1.2.1)
 (some ((false, ()), ()))
 (cond (!beqB r4.1.2.1 r3.1.2.1)
 (some ((false, ()), ()))
 (cond (!ieq (llen r2.1.1) (llen r3.1.1))
 (some ((false, ()), ()))
 (bnd (f_impl_RangeOf (r1.1.1, ())) fun r5 => (bnd (f_impl_FilterIn (r1.1.1, ())) fun r6 => (cond (!beqB r5.1.2.2.1 r3.1.2.1)
 (some ((false, ()), ()))
 (cond (!beqB r6.1.2.1 r3.1.2.1)
 (some ((false, ()), ()))
 (cond (!r2.1.2.1)
 (some (((ieq (llen r4.1.1) (0 : Int)), ()), ()))
 (loopF (c := f_laws_FnIndexed_l17c) (v := f_laws_FnIndexed_l17v) (ex := f_laws_FnIndexed_l17e) f_laws_FnIndexed_l17 _ ((), ()) ((r5.1.1, (r5.1.2.1, ((0 : Int), ((llen r2.1.1), ((0 : Int), ()))))), (r2.1.1, (r3.1.1, (r4.1.1, (r6.1.1, ()))))) fun c19 o20 =>
 (match o20 with
 | .inl y21 => (some ((y21.1.1, ()), ()))
 | .inr z22 => (loopF (c := f_laws_FnIndexed_l27c) (v := f_laws_FnIndexed_l27v) (ex := f_laws_FnIndexed_l27e) f_laws_FnIndexed_l27 _ ((z22.1.1, (z22.1.2.1, ((llen z22.2.2.2.1), ()))), (z22.2.1, (z22.2.2.2.1, (z22.2.2.2.2.1, ())))) (((0 : Int), ()), ()) fun c26 o27 =>
 (match o27 with
 | .inl y28 => (some ((y28.1.1, ()), ()))
 | .inr z29 => (getO c26.2.2.1 (0 : Int) fun _ => (bnd (c26.2.2.1[(Int.toNat (0 : Int))]?) fun v31 => (bnd (c26.2.2.1[(Int.toNat (0 : Int))]?) fun v32 => (cond (seq c26.1.1 v32.1)
 (getO c26.2.2.1 (isub .i64 (llen c26.2.2.1) (1 : Int)) fun _ => (bnd (c26.2.2.1[(Int.toNat (isub .i64 (llen c26.2.2.1) (1 : Int)))]?) fun v34 => (bnd (c26.2.2.1[(Int.toNat (isub .i64 (llen c26.2.2.1) (1 : Int)))]?) fun v35 => (cond (seq c26.1.2.1 v35.1)
 (some (((ieq (llen c26.2.1) (iquo .i64 (isub .i64 (iadd .i64 (llen c26.2.2.1) (8 : Int)) (1 : Int)) (8 : Int))), ()), ()))
 (some ((false, ()), ()))))))
 (some ((false, ()), ())))))))))))))))))))))))
def sg4 : Sig := ⟨ins4, res4, f_laws_FnIndexed⟩
end Go.Proofs.YtncalmofbcmkaaaGreat
