/- The kinds of the program's types, and what its functions compute, as typed functions. (Printed by a program of mine, wip/tools/gen.py.) -/
import Derived.Test.YtbekojfgnbnpcaaEv4
set_option linter.all false
set_option maxRecDepth 100000
noncomputable section
namespace Go.Proofs.Ytbekojfgnbnpcaa
open Go Go.Proofs.Ytbekojfgnbnpcaa.Ev
abbrev kdMeta : K := (.pair (.int .i64) (.pair (.int .i64) (.pair .str (.pair .str .unit))))
abbrev DMeta : Type := (Int × (Int × (ByteArray × (ByteArray × Unit))))
abbrev kdEdit : K := (.pair (.int .i64) (.pair (.int .i64) (.pair (.sl (.int .i64)) (.pair (.sl kdMeta) .unit))))
abbrev DEdit : Type := (Int × (Int × ((List Int) × ((List DMeta) × Unit))))
abbrev kdVersion : K := (.pair (.int .i64) (.pair (.int .i64) (.pair (.sl kdMeta) .unit)))
abbrev DVersion : Type := (Int × (Int × ((List DMeta) × Unit)))
abbrev kdtaker : K := (.pair .str (.pair .bool .unit))
abbrev Dtaker : Type := (ByteArray × (Bool × Unit))
abbrev kdl1Cur : K := (.pair (.sl (.int .u8)) (.pair (.int .i64) (.pair (.int .u64) .unit)))
abbrev Dl1Cur : Type := ((List Int) × (Int × (Int × Unit)))
abbrev kdl9R : K := kdtaker
abbrev Dl9R : Type := Dtaker
abbrev ins37 : List Pm := []
abbrev res37 : List (K × Mk) := [(kdVersion, (.pr .s (.pr .s (.pr (.o .s) .s))))]
def f_spec_NewVersion (x : Unit) : Option ((DVersion × Unit) × Unit) :=
 (some ((((1 : Int), ((0 : Int), (([] : List DMeta), ()))), ()), ()))
def sg37 : Sig := ⟨ins37, res37, f_spec_NewVersion⟩
abbrev ins101 : List Pm := [.mptr kdl1Cur .s]
abbrev res101 : List (K × Mk) := [((.int .i64), .s)]
abbrev f_spec_l1Cur_next_i3c : Desc := ⟨[(0, .ptr 0 []), (13, .v .bool)], [(0, ⟨kdl1Cur, .s, true⟩)]⟩
abbrev f_spec_l1Cur_next_i3v : Desc := ⟨[(3, .v (.int .i64))], []⟩
abbrev f_spec_l1Cur_next_i3e : List (Ek × Desc) := [(.norm, ⟨[(3, .v (.int .i64))], []⟩)]
def f_spec_l1Cur_next_i3 (R : Type) (c : ((Bool × Unit) × (Dl1Cur × Unit))) (v : ((Int × Unit) × Unit)) (kk : ((Bool × Unit) × (Dl1Cur × Unit)) → ((Int × Unit) × Unit) → Option R) : Option R :=
 (cond c.1.1
 (getO c.2.1.1 c.2.1.2.1 fun v1 => (kk ((c.1.1, ()), (c.2.1, ())) (((IntKind.wrap .i64 v1), ()), ())))
 (kk ((c.1.1, ()), (c.2.1, ())) ((v.1.1, ()), ())))
def f_spec_l1Cur_next (x : (Dl1Cur × Unit)) : Option ((Int × Unit) × (Dl1Cur × Unit)) :=
 (f_spec_l1Cur_next_i3 _ (((ilt x.1.2.1 (llen x.1.1)), ()), (x.1, ())) (((0 : Int), ()), ()) fun c2 o3 =>
 (cond (ile (iadd .i64 c2.2.1.2.1 (1 : Int)) (llen c2.2.1.1))
 (some ((o3.1.1, ()), ((c2.2.1.1, ((iadd .i64 c2.2.1.2.1 (1 : Int)), ((iadd .u64 (iadd .u64 (imul .u64 c2.2.1.2.2.1 (6364136223846793005 : Int)) (IntKind.wrap .u64 o3.1.1)) (1442695040888963407 : Int)), c2.2.1.2.2.2))), ())))
 (some (((IntKind.wrap .i64 (iand .u64 (ishr .u64 (iadd .u64 (iadd .u64 (imul .u64 c2.2.1.2.2.1 (6364136223846793005 : Int)) (IntKind.wrap .u64 o3.1.1)) (1442695040888963407 : Int)) (40 : Int)) (255 : Int))), ()), ((c2.2.1.1, ((iadd .i64 c2.2.1.2.1 (1 : Int)), ((iadd .u64 (iadd .u64 (imul .u64 c2.2.1.2.2.1 (6364136223846793005 : Int)) (IntKind.wrap .u64 o3.1.1)) (1442695040888963407 : Int)), c2.2.1.2.2.2))), ())))))
def sg101 : Sig := ⟨ins101, res101, f_spec_l1Cur_next⟩
abbrev ins54 : List Pm := [.mptr kdl1Cur .s, .val (.int .i64)]
abbrev res54 : List (K × Mk) := [((.int .i64), .s)]
abbrev f_spec_l1Cur_pick_i5c : Desc := ⟨[(0, .ptr 0 []), (1, .v (.int .i64)), (11, .v .bool)], []⟩
abbrev f_spec_l1Cur_pick_i5v : Desc := ⟨[(5, .v (.int .i64))], [(0, ⟨kdl1Cur, .s, true⟩)]⟩
abbrev f_spec_l1Cur_pick_i5e : List (Ek × Desc) := [(.norm, ⟨[(5, .v (.int .i64))], [(0, ⟨kdl1Cur, .s, true⟩)]⟩)]
def f_spec_l1Cur_pick_i5 (R : Type) (c : ((Int × Bool × Unit) × Unit)) (v : ((Int × Unit) × (Dl1Cur × Unit))) (kk : ((Int × Bool × Unit) × Unit) → ((Int × Unit) × (Dl1Cur × Unit)) → Option R) : Option R :=
 (cond c.1.2.1
 (bnd (f_spec_l1Cur_next (v.2.1, ())) fun r2 => (kk ((c.1.1, (c.1.2.1, ())), ()) (((iadd .i64 (imul .i64 v.1.1 (256 : Int)) r2.1.1), ()), (r2.2.1, ()))))
 (kk ((c.1.1, (c.1.2.1, ())), ()) ((v.1.1, ()), (v.2.1, ()))))
def f_spec_l1Cur_pick (x : (Dl1Cur × Int × Unit)) : Option ((Int × Unit) × (Dl1Cur × Unit)) :=
 (cond (ile x.2.1 (1 : Int))
 (some (((0 : Int), ()), (x.1, ())))
 (bnd (f_spec_l1Cur_next (x.1, ())) fun r1 => (f_spec_l1Cur_pick_i5 _ ((x.2.1, ((ilt (200 : Int) x.2.1), ())), ()) ((r1.1.1, ()), (r1.2.1, ())) fun c3 o4 =>
 (req (!decide (c3.1.1 = (0 : Int))) (some (((irem .i64 o4.1.1 c3.1.1), ()), (o4.2.1, ())))))))
def sg54 : Sig := ⟨ins54, res54, f_spec_l1Cur_pick⟩
abbrev ins56 : List Pm := [.mptr kdl1Cur .s, .val (.int .i64)]
abbrev res56 : List (K × Mk) := [(.bool, .s)]
def f_spec_l1Cur_one (x : (Dl1Cur × Int × Unit)) : Option ((Bool × Unit) × (Dl1Cur × Unit)) :=
 (bnd (f_spec_l1Cur_pick (x.1, (x.2.1, ()))) fun r1 => (some (((ieq r1.1.1 (0 : Int)), ()), (r1.2.1, ()))))
def sg56 : Sig := ⟨ins56, res56, f_spec_l1Cur_one⟩
abbrev ins132 : List Pm := [.mptr kdl1Cur .s, .mov (.sl .str) (.o .s)]
abbrev res132 : List (K × Mk) := [(.str, .s)]
def f_spec_l1Cur_of (x : (Dl1Cur × (List ByteArray) × Unit)) : Option ((ByteArray × Unit) × (Dl1Cur × Unit)) :=
 (bnd (f_spec_l1Cur_pick (x.1, ((llen x.2.1), ()))) fun r1 => (getO x.2.1 r1.1.1 fun _ => (bnd (x.2.1[(Int.toNat r1.1.1)]?) fun v3 => (some ((v3, ()), (r1.2.1, ()))))))
def sg132 : Sig := ⟨ins132, res132, f_spec_l1Cur_of⟩
abbrev ins131 : List Pm := [.mptr kdl1Cur .s]
abbrev res131 : List (K × Mk) := [(.str, .s)]
def f_spec_l1Cur_key (x : (Dl1Cur × Unit)) : Option ((ByteArray × Unit) × (Dl1Cur × Unit)) :=
 (bnd (f_spec_l1Cur_one (x.1, ((60 : Int), ()))) fun r1 => (cond r1.1.1
 (bnd (f_spec_l1Cur_of (r1.2.1, ([(⟨#[]⟩ : ByteArray), (⟨#[49, 50, 51, 52, 53, 54, 55, 56, 57, 48, 49, 50, 51, 52, 53, 54, 55]⟩ : ByteArray)], ()))) fun r2 => (some ((r2.1.1, ()), (r2.2.1, ()))))
 (bnd (f_spec_l1Cur_of (r1.2.1, ([(⟨#[97]⟩ : ByteArray), (⟨#[98]⟩ : ByteArray), (⟨#[98, 97]⟩ : ByteArray), (⟨#[99]⟩ : ByteArray), (⟨#[99, 97, 114]⟩ : ByteArray), (⟨#[100]⟩ : ByteArray), (⟨#[101]⟩ : ByteArray)], ()))) fun r3 => (some ((r3.1.1, ()), (r3.2.1, ()))))))
def sg131 : Sig := ⟨ins131, res131, f_spec_l1Cur_key⟩
abbrev ins92 : List Pm := [.mptr kdl1Cur .s, .val (.int .i64)]
abbrev res92 : List (K × Mk) := [(kdMeta, .s)]
abbrev f_spec_l1Cur_meta_i4c : Desc := ⟨[(0, .ptr 0 []), (4, .ptr 4 []), (5, .ptr 5 []), (20, .v .bool)], [(0, ⟨kdl1Cur, .s, true⟩), (4, ⟨kdMeta, .s, true⟩)]⟩
abbrev f_spec_l1Cur_meta_i4v : Desc := ⟨[], [(5, ⟨kdMeta, .s, true⟩)]⟩
abbrev f_spec_l1Cur_meta_i4e : List (Ek × Desc) := [(.norm, ⟨[], [(5, ⟨kdMeta, .s, true⟩)]⟩)]
def f_spec_l1Cur_meta_i4 (R : Type) (c : ((Bool × Unit) × (Dl1Cur × DMeta × Unit))) (v : (Unit × (DMeta × Unit))) (kk : ((Bool × Unit) × (Dl1Cur × DMeta × Unit)) → (Unit × (DMeta × Unit)) → Option R) : Option R :=
 (cond c.1.1
 (kk ((c.1.1, ()), (c.2.1, (c.2.2.1, ()))) ((), ((v.2.1.1, ((0 : Int), v.2.1.2.2)), ())))
 (kk ((c.1.1, ()), (c.2.1, (c.2.2.1, ()))) ((), (v.2.1, ()))))
def f_spec_l1Cur_meta (x : (Dl1Cur × Int × Unit)) : Option ((DMeta × Unit) × (Dl1Cur × Unit)) :=
 (bnd (f_spec_l1Cur_pick (x.1, ((4 : Int), ()))) fun r1 => (bnd (f_spec_l1Cur_key (r1.2.1, ())) fun r2 => (bnd (f_spec_l1Cur_of (r2.2.1, ([(⟨#[]⟩ : ByteArray), (⟨#[97]⟩ : ByteArray), (⟨#[122]⟩ : ByteArray)], ()))) fun r3 => (catO r2.1.1 r3.1.1 fun v4 => (bnd (f_spec_l1Cur_one (r3.2.1, ((3 : Int), ()))) fun r5 => (f_spec_l1Cur_meta_i4 _ ((r5.1.1, ()), (r5.2.1, (((0 : Int), ((0 : Int), ((⟨#[]⟩ : ByteArray), ((⟨#[]⟩ : ByteArray), ())))), ()))) ((), ((x.2.1, (r1.1.1, (r2.1.1, (v4, ())))), ())) fun c6 o7 =>
 (some ((o7.2.1, ()), (c6.2.1, ())))))))))
def sg92 : Sig := ⟨ins92, res92, f_spec_l1Cur_meta⟩
abbrev ins96 : List Pm := [.val (.int .i64), .val (.int .i64), .val (.int .i64)]
abbrev res96 : List (K × Mk) := [(.bool, .s)]
def f_spec_l1In (x : (Int × Int × Int × Unit)) : Option ((Bool × Unit) × Unit) :=
 (cond (ile x.2.1 x.1)
 (some (((ile x.1 x.2.2.1), ()), ()))
 (some ((false, ()), ())))
def sg96 : Sig := ⟨ins96, res96, f_spec_l1In⟩
abbrev ins133 : List Pm := [.val .str]
abbrev res133 : List (K × Mk) := [(.bool, .s)]
def f_spec_l4Key (x : (ByteArray × Unit)) : Option ((Bool × Unit) × Unit) :=
 (bnd (f_spec_l1In ((slen x.1), ((1 : Int), ((16 : Int), ())))) fun r1 => (some ((r1.1.1, ()), ())))
def sg133 : Sig := ⟨ins133, res133, f_spec_l4Key⟩
abbrev ins93 : List Pm := [.val kdMeta]
abbrev res93 : List (K × Mk) := [(.bool, .s)]
def f_spec_l9Meta (x : (DMeta × Unit)) : Option ((Bool × Unit) × Unit) :=
 (bnd (f_spec_l1In (x.1.1, ((1 : Int), ((100000 : Int), ())))) fun r1 => (cond r1.1.1
 (bnd (f_spec_l1In (x.1.2.1, ((0 : Int), ((3 : Int), ())))) fun r2 => (cond r2.1.1
 (bnd (f_spec_l4Key (x.1.2.2.1, ())) fun r3 => (cond r3.1.1
 (bnd (f_spec_l4Key (x.1.2.2.2.1, ())) fun r4 => (cond r4.1.1
 (some (((slt x.1.2.2.1 x.1.2.2.2.1 || seq x.1.2.2.1 x.1.2.2.2.1), ()), ()))
 (some ((false, ()), ()))))
 (some ((false, ()), ()))))
 (some ((false, ()), ()))))
 (some ((false, ()), ()))))
def sg93 : Sig := ⟨ins93, res93, f_spec_l9Meta⟩
abbrev ins94 : List Pm := [.mptr kdl1Cur .s, .mov (.sl (.int .i64)) (.o .s)]
abbrev res94 : List (K × Mk) := [((.int .i64), .s)]
def f_spec_l1Cur_among (x : (Dl1Cur × (List Int) × Unit)) : Option ((Int × Unit) × (Dl1Cur × Unit)) :=
 (bnd (f_spec_l1Cur_pick (x.1, ((llen x.2.1), ()))) fun r1 => (getO x.2.1 r1.1.1 fun _ => (bnd (x.2.1[(Int.toNat r1.1.1)]?) fun v3 => (some ((v3, ()), (r1.2.1, ()))))))
def sg94 : Sig := ⟨ins94, res94, f_spec_l1Cur_among⟩
abbrev ins44 : List Pm := [.mptr kdl1Cur .s, .val kdVersion]
abbrev res44 : List (K × Mk) := [(kdEdit, (.pr .s (.pr .s (.pr (.o .s) (.pr (.o .s) .s)))))]
abbrev f_spec_l1Cur_edit_i6c : Desc := ⟨[(0, .ptr 0 []), (4, .ptr 4 []), (5, .ptr 5 []), (7, .ptr 7 []), (19, .v (.sl kdMeta)), (20, .v (.int .i64)), (21, .v (.int .i64)), (26, .v .bool)], [(0, ⟨kdl1Cur, .s, true⟩), (4, ⟨kdEdit, (.pr .s (.pr .s (.pr (.o .s) (.pr (.o .s) .s)))), true⟩), (7, ⟨kdMeta, .s, true⟩)]⟩
abbrev f_spec_l1Cur_edit_i6v : Desc := ⟨[], [(5, ⟨kdEdit, (.pr .s (.pr .s (.pr (.o .s) (.pr (.o .s) .s)))), true⟩)]⟩
abbrev f_spec_l1Cur_edit_i6e : List (Ek × Desc) := [(.norm, ⟨[], [(5, ⟨kdEdit, (.pr .s (.pr .s (.pr (.o .s) (.pr (.o .s) .s)))), true⟩)]⟩)]
def f_spec_l1Cur_edit_i6 (R : Type) (c : (((List DMeta) × Int × Int × Bool × Unit) × (Dl1Cur × DEdit × DMeta × Unit))) (v : (Unit × (DEdit × Unit))) (kk : (((List DMeta) × Int × Int × Bool × Unit) × (Dl1Cur × DEdit × DMeta × Unit)) → (Unit × (DEdit × Unit)) → Option R) : Option R :=
 (cond c.1.2.2.2.1
 (req (decide (List.length v.2.1.2.2.1 + List.length [c.2.2.2.1.1] ≤ 17179869184)) (kk ((c.1.1, (c.1.2.1, (c.1.2.2.1, (c.1.2.2.2.1, ())))), (c.2.1, (c.2.2.1, (c.2.2.2.1, ())))) ((), ((v.2.1.1, (v.2.1.2.1, ((v.2.1.2.2.1 ++ [c.2.2.2.1.1]), v.2.1.2.2.2))), ()))))
 (kk ((c.1.1, (c.1.2.1, (c.1.2.2.1, (c.1.2.2.2.1, ())))), (c.2.1, (c.2.2.1, (c.2.2.2.1, ())))) ((), (v.2.1, ()))))
abbrev f_spec_l1Cur_edit_l3c : Desc := ⟨[(0, .ptr 0 []), (4, .ptr 4 []), (5, .ptr 5 [])], []⟩
abbrev f_spec_l1Cur_edit_l3v : Desc := ⟨[(19, .v (.sl kdMeta)), (20, .v (.int .i64)), (21, .v (.int .i64))], [(0, ⟨kdl1Cur, .s, true⟩), (4, ⟨kdEdit, (.pr .s (.pr .s (.pr (.o .s) (.pr (.o .s) .s)))), true⟩), (5, ⟨kdEdit, (.pr .s (.pr .s (.pr (.o .s) (.pr (.o .s) .s)))), true⟩)]⟩
abbrev f_spec_l1Cur_edit_l3e : List (Ek × Desc) := [(.exit 0, ⟨[], [(0, ⟨kdl1Cur, .s, true⟩), (4, ⟨kdEdit, (.pr .s (.pr .s (.pr (.o .s) (.pr (.o .s) .s)))), true⟩), (5, ⟨kdEdit, (.pr .s (.pr .s (.pr (.o .s) (.pr (.o .s) .s)))), true⟩)]⟩)]
def f_spec_l1Cur_edit_l3 (R : Type) (c : (Unit × Unit)) (v : (((List DMeta) × Int × Int × Unit) × (Dl1Cur × DEdit × DEdit × Unit))) (kk : (Unit × Unit) → ((((List DMeta) × Int × Int × Unit) × (Dl1Cur × DEdit × DEdit × Unit)) ⊕ (Unit × (Dl1Cur × DEdit × DEdit × Unit))) → Option R) : Option R :=
 (cond (ilt v.1.2.2.1 v.1.2.1)
 (getO v.1.1 v.1.2.2.1 fun v2 => (bnd (f_spec_l1Cur_one (v.2.1, ((4 : Int), ()))) fun r3 => (f_spec_l1Cur_edit_i6 _ ((v.1.1, (v.1.2.1, (v.1.2.2.1, (r3.1.1, ())))), (r3.2.1, (v.2.2.1, (v2, ())))) ((), (v.2.2.2.1, ())) fun c4 o5 =>
 (kk ((), ()) (.inl ((c4.1.1, (c4.1.2.1, ((iadd .i64 c4.1.2.2.1 (1 : Int)), ()))), (c4.2.1, (c4.2.2.1, (o5.2.1, ())))))))))
 (kk ((), ()) (.inr ((), (v.2.1, (v.2.2.1, (v.2.2.2.1, ())))))))
abbrev f_spec_l1Cur_edit_i13c : Desc := ⟨[(0, .ptr 0 []), (4, .ptr 4 []), (5, .ptr 5 []), (8, .v (.int .i64)), (9, .ptr 9 []), (50, .v .bool)], [(0, ⟨kdl1Cur, .s, true⟩), (4, ⟨kdEdit, (.pr .s (.pr .s (.pr (.o .s) (.pr (.o .s) .s)))), true⟩), (9, ⟨kdMeta, .s, true⟩)]⟩
abbrev f_spec_l1Cur_edit_i13v : Desc := ⟨[], [(5, ⟨kdEdit, (.pr .s (.pr .s (.pr (.o .s) (.pr (.o .s) .s)))), true⟩)]⟩
abbrev f_spec_l1Cur_edit_i13e : List (Ek × Desc) := [(.norm, ⟨[], [(5, ⟨kdEdit, (.pr .s (.pr .s (.pr (.o .s) (.pr (.o .s) .s)))), true⟩)]⟩)]
def f_spec_l1Cur_edit_i13 (R : Type) (c : ((Int × Bool × Unit) × (Dl1Cur × DEdit × DMeta × Unit))) (v : (Unit × (DEdit × Unit))) (kk : ((Int × Bool × Unit) × (Dl1Cur × DEdit × DMeta × Unit)) → (Unit × (DEdit × Unit)) → Option R) : Option R :=
 (cond c.1.2.1
 (req (decide (List.length v.2.1.2.2.2.1 + List.length [c.2.2.2.1] ≤ 17179869184)) (kk ((c.1.1, (c.1.2.1, ())), (c.2.1, (c.2.2.1, (c.2.2.2.1, ())))) ((), (((iadd .i64 v.2.1.1 (1 : Int)), (v.2.1.2.1, (v.2.1.2.2.1, ((v.2.1.2.2.2.1 ++ [c.2.2.2.1]), v.2.1.2.2.2.2)))), ()))))
 (kk ((c.1.1, (c.1.2.1, ())), (c.2.1, (c.2.2.1, (c.2.2.2.1, ())))) ((), (v.2.1, ()))))
abbrev f_spec_l1Cur_edit_l9c : Desc := ⟨[(0, .ptr 0 []), (4, .ptr 4 []), (5, .ptr 5 [])], []⟩
abbrev f_spec_l1Cur_edit_l9v : Desc := ⟨[(8, .v (.int .i64))], [(0, ⟨kdl1Cur, .s, true⟩), (4, ⟨kdEdit, (.pr .s (.pr .s (.pr (.o .s) (.pr (.o .s) .s)))), true⟩), (5, ⟨kdEdit, (.pr .s (.pr .s (.pr (.o .s) (.pr (.o .s) .s)))), true⟩)]⟩
abbrev f_spec_l1Cur_edit_l9e : List (Ek × Desc) := [(.exit 2, ⟨[], [(0, ⟨kdl1Cur, .s, true⟩), (4, ⟨kdEdit, (.pr .s (.pr .s (.pr (.o .s) (.pr (.o .s) .s)))), true⟩), (5, ⟨kdEdit, (.pr .s (.pr .s (.pr (.o .s) (.pr (.o .s) .s)))), true⟩)]⟩)]
def f_spec_l1Cur_edit_l9 (R : Type) (c : (Unit × Unit)) (v : ((Int × Unit) × (Dl1Cur × DEdit × DEdit × Unit))) (kk : (Unit × Unit) → (((Int × Unit) × (Dl1Cur × DEdit × DEdit × Unit)) ⊕ (Unit × (Dl1Cur × DEdit × DEdit × Unit))) → Option R) : Option R :=
 (cond (ilt (0 : Int) v.1.1)
 (bnd (f_spec_l1Cur_meta (v.2.1, (v.2.2.2.1.1, ()))) fun r9 => (bnd (f_spec_l9Meta (r9.1.1, ())) fun r10 => (cond r10.1.1
 (f_spec_l1Cur_edit_i13 _ ((v.1.1, (true, ())), (r9.2.1, (v.2.2.1, (r9.1.1, ())))) ((), (v.2.2.2.1, ())) fun c11 o12 =>
 (kk ((), ()) (.inl (((isub .i64 c11.1.1 (1 : Int)), ()), (c11.2.1, (c11.2.2.1, (o12.2.1, ())))))))
 (bnd (f_spec_l1Cur_one (r9.2.1, ((8 : Int), ()))) fun r13 => (f_spec_l1Cur_edit_i13 _ ((v.1.1, (r13.1.1, ())), (r13.2.1, (v.2.2.1, (r9.1.1, ())))) ((), (v.2.2.2.1, ())) fun c14 o15 =>
 (kk ((), ()) (.inl (((isub .i64 c14.1.1 (1 : Int)), ()), (c14.2.1, (c14.2.2.1, (o15.2.1, ())))))))))))
 (kk ((), ()) (.inr ((), (v.2.1, (v.2.2.1, (v.2.2.2.1, ())))))))
abbrev f_spec_l1Cur_edit_i19c : Desc := ⟨[(0, .ptr 0 []), (4, .ptr 4 []), (5, .ptr 5 []), (72, .v .bool)], [(4, ⟨kdEdit, (.pr .s (.pr .s (.pr (.o .s) (.pr (.o .s) .s)))), true⟩)]⟩
abbrev f_spec_l1Cur_edit_i19v : Desc := ⟨[], [(0, ⟨kdl1Cur, .s, true⟩), (5, ⟨kdEdit, (.pr .s (.pr .s (.pr (.o .s) (.pr (.o .s) .s)))), true⟩)]⟩
abbrev f_spec_l1Cur_edit_i19e : List (Ek × Desc) := [(.norm, ⟨[], [(0, ⟨kdl1Cur, .s, true⟩), (5, ⟨kdEdit, (.pr .s (.pr .s (.pr (.o .s) (.pr (.o .s) .s)))), true⟩)]⟩)]
def f_spec_l1Cur_edit_i19 (R : Type) (c : ((Bool × Unit) × (DEdit × Unit))) (v : (Unit × (Dl1Cur × DEdit × Unit))) (kk : ((Bool × Unit) × (DEdit × Unit)) → (Unit × (Dl1Cur × DEdit × Unit)) → Option R) : Option R :=
 (cond c.1.1
 (bnd (f_spec_l1Cur_among (v.2.1, ([(0 : Int), (1 : Int), (100001 : Int), (100002 : Int)], ()))) fun r20 => (kk ((c.1.1, ()), (c.2.1, ())) ((), (r20.2.1, ((r20.1.1, v.2.2.1.2), ())))))
 (kk ((c.1.1, ()), (c.2.1, ())) ((), (v.2.1, (v.2.2.1, ())))))
abbrev f_spec_l1Cur_edit_i17c : Desc := ⟨[(0, .ptr 0 []), (4, .ptr 4 []), (5, .ptr 5 [])], []⟩
abbrev f_spec_l1Cur_edit_i17v : Desc := ⟨[(62, .v (.int .i64)), (63, .v .bool)], [(0, ⟨kdl1Cur, .s, true⟩), (4, ⟨kdEdit, (.pr .s (.pr .s (.pr (.o .s) (.pr (.o .s) .s)))), true⟩), (5, ⟨kdEdit, (.pr .s (.pr .s (.pr (.o .s) (.pr (.o .s) .s)))), true⟩)]⟩
abbrev f_spec_l1Cur_edit_i17e : List (Ek × Desc) := [(.norm, ⟨[], [(0, ⟨kdl1Cur, .s, true⟩), (4, ⟨kdEdit, (.pr .s (.pr .s (.pr (.o .s) (.pr (.o .s) .s)))), true⟩), (5, ⟨kdEdit, (.pr .s (.pr .s (.pr (.o .s) (.pr (.o .s) .s)))), true⟩)]⟩)]
def f_spec_l1Cur_edit_i17 (R : Type) (c : (Unit × Unit)) (v : ((Int × Bool × Unit) × (Dl1Cur × DEdit × DEdit × Unit))) (kk : (Unit × Unit) → (Unit × (Dl1Cur × DEdit × DEdit × Unit)) → Option R) : Option R :=
 (cond v.1.2.1
 (bnd (f_spec_l1Cur_pick (v.2.1, ((5 : Int), ()))) fun r19 => (req (decide (List.length v.2.2.2.1.2.2.1 + List.length [r19.1.1] ≤ 17179869184)) (kk ((), ()) ((), (r19.2.1, (v.2.2.1, ((v.2.2.2.1.1, (v.2.2.2.1.2.1, ((v.2.2.2.1.2.2.1 ++ [r19.1.1]), v.2.2.2.1.2.2.2))), ())))))))
 (f_spec_l1Cur_edit_i19 _ (((ieq v.1.1 (1 : Int)), ()), (v.2.2.1, ())) ((), (v.2.1, (v.2.2.2.1, ()))) fun c20 o21 =>
 (kk ((), ()) ((), (o21.2.1, (c20.2.1, (o21.2.2.1, ())))))))
def f_spec_l1Cur_edit (x : (Dl1Cur × DVersion × Unit)) : Option ((DEdit × Unit) × (Dl1Cur × Unit)) :=
 (bnd (f_spec_l1Cur_pick (x.1, ((5 : Int), ()))) fun r1 => (loopF (c := f_spec_l1Cur_edit_l3c) (v := f_spec_l1Cur_edit_l3v) (ex := f_spec_l1Cur_edit_l3e) f_spec_l1Cur_edit_l3 _ ((), ()) ((x.2.1.2.2.1, ((llen x.2.1.2.2.1), ((0 : Int), ()))), (r1.2.1, (((0 : Int), ((0 : Int), (([] : List Int), (([] : List DMeta), ())))), ((x.2.1.1, ((iadd .i64 x.2.1.2.1 r1.1.1), (([] : List Int), (([] : List DMeta), ())))), ())))) fun c6 o7 =>
 (bnd (f_spec_l1Cur_pick (o7.2.1, ((3 : Int), ()))) fun r8 => (loopF (c := f_spec_l1Cur_edit_l9c) (v := f_spec_l1Cur_edit_l9v) (ex := f_spec_l1Cur_edit_l9e) f_spec_l1Cur_edit_l9 _ ((), ()) ((r8.1.1, ()), (r8.2.1, (o7.2.2.1, (o7.2.2.2.1, ())))) fun c16 o17 =>
 (bnd (f_spec_l1Cur_pick (o17.2.1, ((40 : Int), ()))) fun r18 => (f_spec_l1Cur_edit_i17 _ ((), ()) ((r18.1.1, ((ieq r18.1.1 (0 : Int)), ())), (r18.2.1, (o17.2.2.1, (o17.2.2.2.1, ())))) fun c22 o23 =>
 (some ((o23.2.2.2.1, ()), (o23.2.1, ())))))))))
def sg44 : Sig := ⟨ins44, res44, f_spec_l1Cur_edit⟩
abbrev ins134 : List Pm := [.val (.int .i64)]
abbrev res134 : List (K × Mk) := [(.bool, .s)]
def f_spec_l4Seq (x : (Int × Unit)) : Option ((Bool × Unit) × Unit) :=
 (bnd (f_spec_l1In (x.1, ((0 : Int), ((1000000000 : Int), ())))) fun r1 => (some ((r1.1.1, ()), ())))
def sg134 : Sig := ⟨ins134, res134, f_spec_l4Seq⟩
abbrev ins97 : List Pm := [.val (.int .i64), .val (.int .i64)]
abbrev res97 : List (K × Mk) := [(.bool, .s)]
def f_spec_l9Counts (x : (Int × Int × Unit)) : Option ((Bool × Unit) × Unit) :=
 (bnd (f_spec_l1In (x.1, ((1 : Int), ((100001 : Int), ())))) fun r1 => (cond r1.1.1
 (bnd (f_spec_l4Seq (x.2.1, ())) fun r2 => (some ((r2.1.1, ()), ())))
 (some ((false, ()), ()))))
def sg97 : Sig := ⟨ins97, res97, f_spec_l9Counts⟩
abbrev ins98 : List Pm := [.val (.sl kdMeta)]
abbrev res98 : List (K × Mk) := [(.bool, .s)]
abbrev f_spec_l9Metas_l2c : Desc := ⟨[(0, .v (.sl kdMeta)), (5, .v (.sl kdMeta)), (6, .v (.int .i64))], []⟩
abbrev f_spec_l9Metas_l2v : Desc := ⟨[(7, .v (.int .i64))], []⟩
abbrev f_spec_l9Metas_l2e : List (Ek × Desc) := [(.ret, ⟨[(2, .v .bool)], []⟩), (.exit 0, ⟨[], []⟩)]
def f_spec_l9Metas_l2 (R : Type) (c : (((List DMeta) × (List DMeta) × Int × Unit) × Unit)) (v : ((Int × Unit) × Unit)) (kk : (((List DMeta) × (List DMeta) × Int × Unit) × Unit) → (((Int × Unit) × Unit) ⊕ (((Bool × Unit) × Unit) ⊕ (Unit × Unit))) → Option R) : Option R :=
 (cond (ilt v.1.1 c.1.2.2.1)
 (getO c.1.2.1 v.1.1 fun v1 => (bnd (f_spec_l9Meta (v1, ())) fun r2 => (cond (!r2.1.1)
 (kk ((c.1.1, (c.1.2.1, (c.1.2.2.1, ()))), ()) (.inr (.inl ((false, ()), ()))))
 (cond (ilt (0 : Int) v.1.1)
 (getO c.1.1 (isub .i64 v.1.1 (1 : Int)) fun v3 => (cond (ile v1.1 v3.1)
 (kk ((c.1.1, (c.1.2.1, (c.1.2.2.1, ()))), ()) (.inr (.inl ((false, ()), ()))))
 (kk ((c.1.1, (c.1.2.1, (c.1.2.2.1, ()))), ()) (.inl (((iadd .i64 v.1.1 (1 : Int)), ()), ())))))
 (kk ((c.1.1, (c.1.2.1, (c.1.2.2.1, ()))), ()) (.inl (((iadd .i64 v.1.1 (1 : Int)), ()), ())))))))
 (kk ((c.1.1, (c.1.2.1, (c.1.2.2.1, ()))), ()) (.inr (.inr ((), ())))))
def f_spec_l9Metas (x : ((List DMeta) × Unit)) : Option ((Bool × Unit) × Unit) :=
 (loopF (c := f_spec_l9Metas_l2c) (v := f_spec_l9Metas_l2v) (ex := f_spec_l9Metas_l2e) f_spec_l9Metas_l2 _ ((x.1, (x.1, ((llen x.1), ()))), ()) (((0 : Int), ()), ()) fun c4 o5 =>
 (match o5 with
 | .inl y6 => (some ((y6.1.1, ()), ()))
 | .inr z7 => (some (((ile (llen c4.1.1) (30 : Int)), ()), ()))))
def sg98 : Sig := ⟨ins98, res98, f_spec_l9Metas⟩
abbrev ins87 : List Pm := [.val kdVersion]
abbrev res87 : List (K × Mk) := [(.bool, .s)]
abbrev f_spec_GoodVersion_l9c : Desc := ⟨[(1, .ptr 1 []), (4, .ptr 4 []), (20, .v (.sl kdMeta)), (21, .v (.int .i64)), (22, .v (.int .i64)), (35, .v (.sl kdMeta)), (36, .v (.int .i64))], [(1, ⟨kdVersion, .s, true⟩), (4, ⟨kdMeta, .s, true⟩)]⟩
abbrev f_spec_GoodVersion_l9v : Desc := ⟨[(37, .v (.int .i64))], []⟩
abbrev f_spec_GoodVersion_l9e : List (Ek × Desc) := [(.ret, ⟨[(2, .v .bool)], []⟩), (.exit 2, ⟨[], []⟩)]
def f_spec_GoodVersion_l9 (R : Type) (c : (((List DMeta) × Int × Int × (List DMeta) × Int × Unit) × (DVersion × DMeta × Unit))) (v : ((Int × Unit) × Unit)) (kk : (((List DMeta) × Int × Int × (List DMeta) × Int × Unit) × (DVersion × DMeta × Unit)) → (((Int × Unit) × Unit) ⊕ (((Bool × Unit) × Unit) ⊕ (Unit × Unit))) → Option R) : Option R :=
 (cond (ilt v.1.1 c.1.2.2.2.2.1)
 (getO c.1.2.2.2.1 v.1.1 fun v4 => (cond (ilt (0 : Int) c.2.2.1.2.1)
 (cond (ieq v4.2.1 c.2.2.1.2.1)
 (cond (slt v4.2.2.1 c.2.2.1.2.2.2.1 || seq v4.2.2.1 c.2.2.1.2.2.2.1)
 (cond (slt c.2.2.1.2.2.1 v4.2.2.2.1 || seq c.2.2.1.2.2.1 v4.2.2.2.1)
 (kk ((c.1.1, (c.1.2.1, (c.1.2.2.1, (c.1.2.2.2.1, (c.1.2.2.2.2.1, ()))))), (c.2.1, (c.2.2.1, ()))) (.inr (.inl ((false, ()), ()))))
 (kk ((c.1.1, (c.1.2.1, (c.1.2.2.1, (c.1.2.2.2.1, (c.1.2.2.2.2.1, ()))))), (c.2.1, (c.2.2.1, ()))) (.inl (((iadd .i64 v.1.1 (1 : Int)), ()), ()))))
 (kk ((c.1.1, (c.1.2.1, (c.1.2.2.1, (c.1.2.2.2.1, (c.1.2.2.2.2.1, ()))))), (c.2.1, (c.2.2.1, ()))) (.inl (((iadd .i64 v.1.1 (1 : Int)), ()), ()))))
 (kk ((c.1.1, (c.1.2.1, (c.1.2.2.1, (c.1.2.2.2.1, (c.1.2.2.2.2.1, ()))))), (c.2.1, (c.2.2.1, ()))) (.inl (((iadd .i64 v.1.1 (1 : Int)), ()), ()))))
 (kk ((c.1.1, (c.1.2.1, (c.1.2.2.1, (c.1.2.2.2.1, (c.1.2.2.2.2.1, ()))))), (c.2.1, (c.2.2.1, ()))) (.inl (((iadd .i64 v.1.1 (1 : Int)), ()), ())))))
 (kk ((c.1.1, (c.1.2.1, (c.1.2.2.1, (c.1.2.2.2.1, (c.1.2.2.2.2.1, ()))))), (c.2.1, (c.2.2.1, ()))) (.inr (.inr ((), ())))))
abbrev f_spec_GoodVersion_l4c : Desc := ⟨[(1, .ptr 1 [])], []⟩
abbrev f_spec_GoodVersion_l4v : Desc := ⟨[(20, .v (.sl kdMeta)), (21, .v (.int .i64)), (22, .v (.int .i64))], [(1, ⟨kdVersion, .s, true⟩)]⟩
abbrev f_spec_GoodVersion_l4e : List (Ek × Desc) := [(.ret, ⟨[(2, .v .bool)], [(1, ⟨kdVersion, .s, true⟩)]⟩), (.exit 0, ⟨[], [(1, ⟨kdVersion, .s, true⟩)]⟩)]
def f_spec_GoodVersion_l4 (R : Type) (c : (Unit × Unit)) (v : (((List DMeta) × Int × Int × Unit) × (DVersion × Unit))) (kk : (Unit × Unit) → ((((List DMeta) × Int × Int × Unit) × (DVersion × Unit)) ⊕ (((Bool × Unit) × (DVersion × Unit)) ⊕ (Unit × (DVersion × Unit)))) → Option R) : Option R :=
 (cond (ilt v.1.2.2.1 v.1.2.1)
 (getO v.1.1 v.1.2.2.1 fun v3 => (cond (ile v.2.1.1 v3.1)
 (kk ((), ()) (.inr (.inl ((false, ()), (v.2.1, ())))))
 (req (decide ((0 : Int) ≤ v.1.2.2.1) && decide (v.1.2.2.1 ≤ ((List.length v.2.1.2.2.1) : Int))) (loopF (c := f_spec_GoodVersion_l9c) (v := f_spec_GoodVersion_l9v) (ex := f_spec_GoodVersion_l9e) f_spec_GoodVersion_l9 _ ((v.1.1, (v.1.2.1, (v.1.2.2.1, ((List.take ((Int.toNat v.1.2.2.1) - (0 : Nat)) (List.drop (0 : Nat) v.2.1.2.2.1)), ((llen (List.take ((Int.toNat v.1.2.2.1) - (0 : Nat)) (List.drop (0 : Nat) v.2.1.2.2.1))), ()))))), (v.2.1, (v3, ()))) (((0 : Int), ()), ()) fun c4 o5 =>
 (match o5 with
 | .inl y6 => (kk ((), ()) (.inr (.inl ((y6.1.1, ()), (c4.2.1, ())))))
 | .inr z7 => (kk ((), ()) (.inl ((c4.1.1, (c4.1.2.1, ((iadd .i64 c4.1.2.2.1 (1 : Int)), ()))), (c4.2.1, ())))))))))
 (kk ((), ()) (.inr (.inr ((), (v.2.1, ()))))))
def f_spec_GoodVersion (x : (DVersion × Unit)) : Option ((Bool × Unit) × Unit) :=
 (bnd (f_spec_l9Counts (x.1.1, (x.1.2.1, ()))) fun r1 => (cond (!r1.1.1)
 (some ((false, ()), ()))
 (bnd (f_spec_l9Metas (x.1.2.2.1, ())) fun r2 => (cond (!r2.1.1)
 (some ((false, ()), ()))
 (loopF (c := f_spec_GoodVersion_l4c) (v := f_spec_GoodVersion_l4v) (ex := f_spec_GoodVersion_l4e) f_spec_GoodVersion_l4 _ ((), ()) ((x.1.2.2.1, ((llen x.1.2.2.1), ((0 : Int), ()))), (x.1, ())) fun c8 o9 =>
 (match o9 with
 | .inl y10 => (some ((y10.1.1, ()), ()))
 | .inr z11 => (some ((true, ()), ()))))))))
def sg87 : Sig := ⟨ins87, res87, f_spec_GoodVersion⟩
abbrev ins49 : List Pm := [.val kdEdit]
abbrev res49 : List (K × Mk) := [(.bool, .s)]
abbrev f_spec_l9Edit_l2c : Desc := ⟨[(1, .ptr 1 []), (6, .v (.sl (.int .i64))), (7, .v (.int .i64))], [(1, ⟨kdEdit, .s, true⟩)]⟩
abbrev f_spec_l9Edit_l2v : Desc := ⟨[(8, .v (.int .i64))], []⟩
abbrev f_spec_l9Edit_l2e : List (Ek × Desc) := [(.ret, ⟨[(2, .v .bool)], []⟩), (.exit 0, ⟨[], []⟩)]
def f_spec_l9Edit_l2 (R : Type) (c : (((List Int) × Int × Unit) × (DEdit × Unit))) (v : ((Int × Unit) × Unit)) (kk : (((List Int) × Int × Unit) × (DEdit × Unit)) → (((Int × Unit) × Unit) ⊕ (((Bool × Unit) × Unit) ⊕ (Unit × Unit))) → Option R) : Option R :=
 (cond (ilt v.1.1 c.1.2.1)
 (getO c.1.1 v.1.1 fun v1 => (bnd (f_spec_l1In (v1, ((1 : Int), ((100000 : Int), ())))) fun r2 => (cond (!r2.1.1)
 (kk ((c.1.1, (c.1.2.1, ())), (c.2.1, ())) (.inr (.inl ((false, ()), ()))))
 (cond (ilt (0 : Int) v.1.1)
 (getO c.2.1.2.2.1 (isub .i64 v.1.1 (1 : Int)) fun v3 => (cond (ile v1 v3)
 (kk ((c.1.1, (c.1.2.1, ())), (c.2.1, ())) (.inr (.inl ((false, ()), ()))))
 (kk ((c.1.1, (c.1.2.1, ())), (c.2.1, ())) (.inl (((iadd .i64 v.1.1 (1 : Int)), ()), ())))))
 (kk ((c.1.1, (c.1.2.1, ())), (c.2.1, ())) (.inl (((iadd .i64 v.1.1 (1 : Int)), ()), ())))))))
 (kk ((c.1.1, (c.1.2.1, ())), (c.2.1, ())) (.inr (.inr ((), ())))))
def f_spec_l9Edit (x : (DEdit × Unit)) : Option ((Bool × Unit) × Unit) :=
 (loopF (c := f_spec_l9Edit_l2c) (v := f_spec_l9Edit_l2v) (ex := f_spec_l9Edit_l2e) f_spec_l9Edit_l2 _ ((x.1.2.2.1, ((llen x.1.2.2.1), ())), (x.1, ())) (((0 : Int), ()), ()) fun c4 o5 =>
 (match o5 with
 | .inl y6 => (some ((y6.1.1, ()), ()))
 | .inr z7 => (bnd (f_spec_l9Counts (c4.2.1.1, (c4.2.1.2.1, ()))) fun r8 => (cond r8.1.1
 (cond (ile (llen c4.2.1.2.2.1) (30 : Int))
 (bnd (f_spec_l9Metas (c4.2.1.2.2.2.1, ())) fun r9 => (some ((r9.1.1, ()), ())))
 (some ((false, ()), ())))
 (some ((false, ()), ()))))))
def sg49 : Sig := ⟨ins49, res49, f_spec_l9Edit⟩
abbrev ins39 : List Pm := [.val kdVersion, .val kdEdit]
abbrev res39 : List (K × Mk) := [(kdVersion, (.pr .s (.pr .s (.pr (.o .s) .s)))), (.bool, .s)]
abbrev f_spec_l9Apply_l10c : Desc := ⟨[(3, .ptr 3 []), (4, .ptr 4 []), (6, .al 6 []), (7, .v (.int .i64)), (9, .ptr 9 []), (37, .v (.sl kdMeta)), (38, .v (.int .i64)), (39, .v (.int .i64)), (44, .v (.sl (.int .i64))), (45, .v (.int .i64))], [(3, ⟨kdEdit, .s, true⟩), (4, ⟨kdVersion, (.pr .s (.pr .s (.pr (.o .s) .s))), true⟩), (6, ⟨(.sl kdMeta), (.o .s), false⟩), (9, ⟨kdMeta, .s, true⟩)]⟩
abbrev f_spec_l9Apply_l10v : Desc := ⟨[(10, .v .bool), (46, .v (.int .i64))], []⟩
abbrev f_spec_l9Apply_l10e : List (Ek × Desc) := [(.exit 2, ⟨[(10, .v .bool)], []⟩)]
def f_spec_l9Apply_l10 (R : Type) (c : ((Int × (List DMeta) × Int × Int × (List Int) × Int × Unit) × (DEdit × DVersion × (List DMeta) × DMeta × Unit))) (v : ((Bool × Int × Unit) × Unit)) (kk : ((Int × (List DMeta) × Int × Int × (List Int) × Int × Unit) × (DEdit × DVersion × (List DMeta) × DMeta × Unit)) → (((Bool × Int × Unit) × Unit) ⊕ ((Bool × Unit) × Unit)) → Option R) : Option R :=
 (cond (ilt v.1.2.1 c.1.2.2.2.2.2.1)
 (getO c.1.2.2.2.2.1 v.1.2.1 fun v3 => (cond v.1.1
 (kk ((c.1.1, (c.1.2.1, (c.1.2.2.1, (c.1.2.2.2.1, (c.1.2.2.2.2.1, (c.1.2.2.2.2.2.1, ())))))), (c.2.1, (c.2.2.1, (c.2.2.2.1, (c.2.2.2.2.1, ()))))) (.inl ((true, ((iadd .i64 v.1.2.1 (1 : Int)), ())), ())))
 (kk ((c.1.1, (c.1.2.1, (c.1.2.2.1, (c.1.2.2.2.1, (c.1.2.2.2.2.1, (c.1.2.2.2.2.2.1, ())))))), (c.2.1, (c.2.2.1, (c.2.2.2.1, (c.2.2.2.2.1, ()))))) (.inl (((ieq v3 c.2.2.2.2.1.1), ((iadd .i64 v.1.2.1 (1 : Int)), ())), ())))))
 (kk ((c.1.1, (c.1.2.1, (c.1.2.2.1, (c.1.2.2.2.1, (c.1.2.2.2.2.1, (c.1.2.2.2.2.2.1, ())))))), (c.2.1, (c.2.2.1, (c.2.2.2.1, (c.2.2.2.2.1, ()))))) (.inr ((v.1.1, ()), ()))))
abbrev f_spec_l9Apply_i15c : Desc := ⟨[(3, .ptr 3 []), (4, .ptr 4 []), (6, .al 6 []), (9, .ptr 9 []), (37, .v (.sl kdMeta)), (38, .v (.int .i64)), (39, .v (.int .i64)), (58, .v .bool)], [(3, ⟨kdEdit, .s, true⟩), (4, ⟨kdVersion, (.pr .s (.pr .s (.pr (.o .s) .s))), true⟩), (9, ⟨kdMeta, .s, true⟩)]⟩
abbrev f_spec_l9Apply_i15v : Desc := ⟨[(7, .v (.int .i64))], [(6, ⟨(.sl kdMeta), (.o .s), false⟩)]⟩
abbrev f_spec_l9Apply_i15e : List (Ek × Desc) := [(.norm, ⟨[(7, .v (.int .i64))], [(6, ⟨(.sl kdMeta), (.o .s), false⟩)]⟩)]
def f_spec_l9Apply_i15 (R : Type) (c : (((List DMeta) × Int × Int × Bool × Unit) × (DEdit × DVersion × DMeta × Unit))) (v : ((Int × Unit) × ((List DMeta) × Unit))) (kk : (((List DMeta) × Int × Int × Bool × Unit) × (DEdit × DVersion × DMeta × Unit)) → ((Int × Unit) × ((List DMeta) × Unit)) → Option R) : Option R :=
 (cond c.1.2.2.2.1
 (kk ((c.1.1, (c.1.2.1, (c.1.2.2.1, (c.1.2.2.2.1, ())))), (c.2.1, (c.2.2.1, (c.2.2.2.1, ())))) (((iadd .i64 v.1.1 (1 : Int)), ()), (v.2.1, ())))
 (req (decide (List.length v.2.1 + List.length [c.2.2.2.1] ≤ 17179869184)) (kk ((c.1.1, (c.1.2.1, (c.1.2.2.1, (c.1.2.2.2.1, ())))), (c.2.1, (c.2.2.1, (c.2.2.2.1, ())))) ((v.1.1, ()), ((v.2.1 ++ [c.2.2.2.1]), ())))))
abbrev f_spec_l9Apply_l6c : Desc := ⟨[(3, .ptr 3 []), (4, .ptr 4 []), (6, .al 6 [])], []⟩
abbrev f_spec_l9Apply_l6v : Desc := ⟨[(7, .v (.int .i64)), (37, .v (.sl kdMeta)), (38, .v (.int .i64)), (39, .v (.int .i64))], [(3, ⟨kdEdit, .s, true⟩), (4, ⟨kdVersion, (.pr .s (.pr .s (.pr (.o .s) .s))), true⟩), (6, ⟨(.sl kdMeta), (.o .s), false⟩)]⟩
abbrev f_spec_l9Apply_l6e : List (Ek × Desc) := [(.exit 0, ⟨[(7, .v (.int .i64))], [(3, ⟨kdEdit, .s, true⟩), (4, ⟨kdVersion, (.pr .s (.pr .s (.pr (.o .s) .s))), true⟩), (6, ⟨(.sl kdMeta), (.o .s), false⟩)]⟩)]
def f_spec_l9Apply_l6 (R : Type) (c : (Unit × Unit)) (v : ((Int × (List DMeta) × Int × Int × Unit) × (DEdit × DVersion × (List DMeta) × Unit))) (kk : (Unit × Unit) → (((Int × (List DMeta) × Int × Int × Unit) × (DEdit × DVersion × (List DMeta) × Unit)) ⊕ ((Int × Unit) × (DEdit × DVersion × (List DMeta) × Unit))) → Option R) : Option R :=
 (cond (ilt v.1.2.2.2.1 v.1.2.2.1)
 (getO v.1.2.1 v.1.2.2.2.1 fun v2 => (loopF (c := f_spec_l9Apply_l10c) (v := f_spec_l9Apply_l10v) (ex := f_spec_l9Apply_l10e) f_spec_l9Apply_l10 _ ((v.1.1, (v.1.2.1, (v.1.2.2.1, (v.1.2.2.2.1, (v.2.1.2.2.1, ((llen v.2.1.2.2.1), ())))))), (v.2.1, (v.2.2.1, (v.2.2.2.1, (v2, ()))))) ((false, ((0 : Int), ())), ()) fun c3 o4 =>
 (f_spec_l9Apply_i15 _ ((c3.1.2.1, (c3.1.2.2.1, (c3.1.2.2.2.1, (o4.1.1, ())))), (c3.2.1, (c3.2.2.1, (c3.2.2.2.2.1, ())))) ((c3.1.1, ()), (c3.2.2.2.1, ())) fun c5 o6 =>
 (kk ((), ()) (.inl ((o6.1.1, (c5.1.1, (c5.1.2.1, ((iadd .i64 c5.1.2.2.1 (1 : Int)), ())))), (c5.2.1, (c5.2.2.1, (o6.2.1, ())))))))))
 (kk ((), ()) (.inr ((v.1.1, ()), (v.2.1, (v.2.2.1, (v.2.2.2.1, ())))))))
abbrev f_spec_l9Apply_l22c : Desc := ⟨[(3, .ptr 3 []), (4, .ptr 4 []), (6, .al 6 []), (7, .v (.int .i64)), (14, .ptr 14 []), (67, .v (.sl kdMeta)), (68, .v (.int .i64)), (69, .v (.int .i64))], [(3, ⟨kdEdit, .s, true⟩), (4, ⟨kdVersion, (.pr .s (.pr .s (.pr (.o .s) .s))), true⟩), (6, ⟨(.sl kdMeta), (.o .s), false⟩), (14, ⟨kdMeta, .s, true⟩)]⟩
abbrev f_spec_l9Apply_l22v : Desc := ⟨[(15, .v (.int .i64))], []⟩
abbrev f_spec_l9Apply_l22e : List (Ek × Desc) := [(.exit 6, ⟨[(15, .v (.int .i64))], []⟩)]
def f_spec_l9Apply_l22 (R : Type) (c : ((Int × (List DMeta) × Int × Int × Unit) × (DEdit × DVersion × (List DMeta) × DMeta × Unit))) (v : ((Int × Unit) × Unit)) (kk : ((Int × (List DMeta) × Int × Int × Unit) × (DEdit × DVersion × (List DMeta) × DMeta × Unit)) → (((Int × Unit) × Unit) ⊕ ((Int × Unit) × Unit)) → Option R) : Option R :=
 (cond (ilt v.1.1 (llen c.2.2.2.1))
 (getO c.2.2.2.1 v.1.1 fun _ => (bnd (c.2.2.2.1[(Int.toNat v.1.1)]?) fun v11 => (bnd (c.2.2.2.1[(Int.toNat v.1.1)]?) fun v12 => (cond (ilt v12.1 c.2.2.2.2.1.1)
 (kk ((c.1.1, (c.1.2.1, (c.1.2.2.1, (c.1.2.2.2.1, ())))), (c.2.1, (c.2.2.1, (c.2.2.2.1, (c.2.2.2.2.1, ()))))) (.inl (((iadd .i64 v.1.1 (1 : Int)), ()), ())))
 (kk ((c.1.1, (c.1.2.1, (c.1.2.2.1, (c.1.2.2.2.1, ())))), (c.2.1, (c.2.2.1, (c.2.2.2.1, (c.2.2.2.2.1, ()))))) (.inr ((v.1.1, ()), ())))))))
 (kk ((c.1.1, (c.1.2.1, (c.1.2.2.1, (c.1.2.2.2.1, ())))), (c.2.1, (c.2.2.1, (c.2.2.2.1, (c.2.2.2.2.1, ()))))) (.inr ((v.1.1, ()), ()))))
abbrev f_spec_l9Apply_l19c : Desc := ⟨[(3, .ptr 3 []), (4, .ptr 4 []), (6, .al 6 [])], []⟩
abbrev f_spec_l9Apply_l19v : Desc := ⟨[(7, .v (.int .i64)), (67, .v (.sl kdMeta)), (68, .v (.int .i64)), (69, .v (.int .i64))], [(3, ⟨kdEdit, .s, true⟩), (4, ⟨kdVersion, (.pr .s (.pr .s (.pr (.o .s) .s))), true⟩), (6, ⟨(.sl kdMeta), (.o .s), false⟩)]⟩
abbrev f_spec_l9Apply_l19e : List (Ek × Desc) := [(.exit 4, ⟨[(7, .v (.int .i64))], [(3, ⟨kdEdit, .s, true⟩), (4, ⟨kdVersion, (.pr .s (.pr .s (.pr (.o .s) .s))), true⟩), (6, ⟨(.sl kdMeta), (.o .s), false⟩)]⟩)]
def f_spec_l9Apply_l19 (R : Type) (c : (Unit × Unit)) (v : ((Int × (List DMeta) × Int × Int × Unit) × (DEdit × DVersion × (List DMeta) × Unit))) (kk : (Unit × Unit) → (((Int × (List DMeta) × Int × Int × Unit) × (DEdit × DVersion × (List DMeta) × Unit)) ⊕ ((Int × Unit) × (DEdit × DVersion × (List DMeta) × Unit))) → Option R) : Option R :=
 (cond (ilt v.1.2.2.2.1 v.1.2.2.1)
 (getO v.1.2.1 v.1.2.2.2.1 fun v9 => (loopF (c := f_spec_l9Apply_l22c) (v := f_spec_l9Apply_l22v) (ex := f_spec_l9Apply_l22e) f_spec_l9Apply_l22 _ ((v.1.1, (v.1.2.1, (v.1.2.2.1, (v.1.2.2.2.1, ())))), (v.2.1, (v.2.2.1, (v.2.2.2.1, (v9, ()))))) (((0 : Int), ()), ()) fun c10 o11 =>
 (req (decide ((0 : Int) ≤ o11.1.1) && decide (o11.1.1 ≤ ((List.length c10.2.2.2.1) : Int))) (req (decide (List.length ([] : List DMeta) + List.length (List.take ((Int.toNat o11.1.1) - (0 : Nat)) (List.drop (0 : Nat) c10.2.2.2.1)) ≤ 17179869184)) (req (decide (List.length (([] : List DMeta) ++ (List.take ((Int.toNat o11.1.1) - (0 : Nat)) (List.drop (0 : Nat) c10.2.2.2.1))) + List.length [c10.2.2.2.2.1] ≤ 17179869184)) (req (decide ((0 : Int) ≤ o11.1.1) && decide (o11.1.1 ≤ ((List.length c10.2.2.2.1) : Int))) (req (decide (List.length ((([] : List DMeta) ++ (List.take ((Int.toNat o11.1.1) - (0 : Nat)) (List.drop (0 : Nat) c10.2.2.2.1))) ++ [c10.2.2.2.2.1]) + List.length (List.take ((List.length c10.2.2.2.1) - (Int.toNat o11.1.1)) (List.drop (Int.toNat o11.1.1) c10.2.2.2.1)) ≤ 17179869184)) (kk ((), ()) (.inl ((c10.1.1, (c10.1.2.1, (c10.1.2.2.1, ((iadd .i64 c10.1.2.2.2.1 (1 : Int)), ())))), (c10.2.1, (c10.2.2.1, ((((([] : List DMeta) ++ (List.take ((Int.toNat o11.1.1) - (0 : Nat)) (List.drop (0 : Nat) c10.2.2.2.1))) ++ [c10.2.2.2.2.1]) ++ (List.take ((List.length c10.2.2.2.1) - (Int.toNat o11.1.1)) (List.drop (Int.toNat o11.1.1) c10.2.2.2.1))), ())))))))))))))
 (kk ((), ()) (.inr ((v.1.1, ()), (v.2.1, (v.2.2.1, (v.2.2.2.1, ())))))))
def f_spec_l9Apply (x : (DVersion × DEdit × Unit)) : Option ((DVersion × Bool × Unit) × Unit) :=
 (bnd (f_spec_l9Edit (x.2.1, ())) fun r1 => (cond (!r1.1.1)
 (some ((((0 : Int), ((0 : Int), (([] : List DMeta), ()))), (false, ())), ()))
 (cond (ilt x.2.1.1 x.1.1)
 (some ((((0 : Int), ((0 : Int), (([] : List DMeta), ()))), (false, ())), ()))
 (cond (ilt x.2.1.2.1 x.1.2.1)
 (some ((((0 : Int), ((0 : Int), (([] : List DMeta), ()))), (false, ())), ()))
 (loopF (c := f_spec_l9Apply_l6c) (v := f_spec_l9Apply_l6v) (ex := f_spec_l9Apply_l6e) f_spec_l9Apply_l6 _ ((), ()) (((0 : Int), (x.1.2.2.1, ((llen x.1.2.2.1), ((0 : Int), ())))), (x.2.1, (((0 : Int), ((0 : Int), (([] : List DMeta), ()))), (([] : List DMeta), ())))) fun c7 o8 =>
 (loopF (c := f_spec_l9Apply_l19c) (v := f_spec_l9Apply_l19v) (ex := f_spec_l9Apply_l19e) f_spec_l9Apply_l19 _ ((), ()) ((o8.1.1, (o8.2.1.2.2.2.1, ((llen o8.2.1.2.2.2.1), ((0 : Int), ())))), (o8.2.1, (o8.2.2.1, (o8.2.2.2.1, ())))) fun c12 o13 =>
 (cond (!ieq o13.1.1 (llen o13.2.1.2.2.1))
 (some ((((0 : Int), ((0 : Int), (([] : List DMeta), ()))), (false, ())), ()))
 (bnd (f_spec_GoodVersion ((o13.2.1.1, (o13.2.1.2.1, (o13.2.2.2.1, ()))), ())) fun r14 => (cond (!r14.1.1)
 (some ((((0 : Int), ((0 : Int), (([] : List DMeta), ()))), (false, ())), ()))
 (some (((o13.2.1.1, (o13.2.1.2.1, (o13.2.2.2.1, ()))), (true, ())), ())))))))))))
def sg39 : Sig := ⟨ins39, res39, f_spec_l9Apply⟩
abbrev ins55 : List Pm := [.val kdVersion, .val kdEdit]
abbrev res55 : List (K × Mk) := [(kdVersion, (.pr .s (.pr .s (.pr (.o .s) .s)))), (.bool, .s)]
def f_spec_ApplyEdit (x : (DVersion × DEdit × Unit)) : Option ((DVersion × Bool × Unit) × Unit) :=
 (bnd (f_spec_GoodVersion (x.1, ())) fun r1 => (cond (!r1.1.1)
 (some ((((0 : Int), ((0 : Int), (([] : List DMeta), ()))), (false, ())), ()))
 (bnd (f_spec_l9Apply (x.1, (x.2.1, ()))) fun r2 => (some ((r2.1.1, (r2.1.2.1, ())), ())))))
def sg55 : Sig := ⟨ins55, res55, f_spec_ApplyEdit⟩
abbrev ins45 : List Pm := [.mptr kdl1Cur .s]
abbrev res45 : List (K × Mk) := [(kdVersion, (.pr .s (.pr .s (.pr (.o .s) .s))))]
abbrev f_spec_l1Cur_version_i7c : Desc := ⟨[(0, .ptr 0 []), (2, .ptr 2 []), (3, .ptr 3 []), (4, .v (.int .i64)), (22, .v .bool)], [(0, ⟨kdl1Cur, .s, true⟩), (2, ⟨kdVersion, (.pr .s (.pr .s (.pr (.o .s) .s))), true⟩)]⟩
abbrev f_spec_l1Cur_version_i7v : Desc := ⟨[(5, .ptr 5 [])], [(3, ⟨kdVersion, (.pr .s (.pr .s (.pr (.o .s) .s))), true⟩), (5, ⟨kdVersion, (.pr .s (.pr .s (.pr (.o .s) .s))), true⟩)]⟩
abbrev f_spec_l1Cur_version_i7e : List (Ek × Desc) := [(.norm, ⟨[], [(3, ⟨kdVersion, (.pr .s (.pr .s (.pr (.o .s) .s))), true⟩)]⟩)]
def f_spec_l1Cur_version_i7 (R : Type) (c : ((Int × Bool × Unit) × (Dl1Cur × DVersion × Unit))) (v : (Unit × (DVersion × DVersion × Unit))) (kk : ((Int × Bool × Unit) × (Dl1Cur × DVersion × Unit)) → (Unit × (DVersion × Unit)) → Option R) : Option R :=
 (cond c.1.2.1
 (kk ((c.1.1, (c.1.2.1, ())), (c.2.1, (c.2.2.1, ()))) ((), (v.2.2.1, ())))
 (kk ((c.1.1, (c.1.2.1, ())), (c.2.1, (c.2.2.1, ()))) ((), (v.2.1, ()))))
abbrev f_spec_l1Cur_version_l3c : Desc := ⟨[(0, .ptr 0 []), (2, .ptr 2 []), (3, .ptr 3 [])], []⟩
abbrev f_spec_l1Cur_version_l3v : Desc := ⟨[(4, .v (.int .i64))], [(0, ⟨kdl1Cur, .s, true⟩), (2, ⟨kdVersion, (.pr .s (.pr .s (.pr (.o .s) .s))), true⟩), (3, ⟨kdVersion, (.pr .s (.pr .s (.pr (.o .s) .s))), true⟩)]⟩
abbrev f_spec_l1Cur_version_l3e : List (Ek × Desc) := [(.exit 0, ⟨[], [(0, ⟨kdl1Cur, .s, true⟩), (2, ⟨kdVersion, (.pr .s (.pr .s (.pr (.o .s) .s))), true⟩), (3, ⟨kdVersion, (.pr .s (.pr .s (.pr (.o .s) .s))), true⟩)]⟩)]
def f_spec_l1Cur_version_l3 (R : Type) (c : (Unit × Unit)) (v : ((Int × Unit) × (Dl1Cur × DVersion × DVersion × Unit))) (kk : (Unit × Unit) → (((Int × Unit) × (Dl1Cur × DVersion × DVersion × Unit)) ⊕ (Unit × (Dl1Cur × DVersion × DVersion × Unit))) → Option R) : Option R :=
 (cond (ilt (0 : Int) v.1.1)
 (bnd (f_spec_l1Cur_edit (v.2.1, (v.2.2.2.1, ()))) fun r3 => (bnd (f_spec_ApplyEdit (v.2.2.2.1, (r3.1.1, ()))) fun r4 => (f_spec_l1Cur_version_i7 _ ((v.1.1, (r4.1.2.1, ())), (r3.2.1, (v.2.2.1, ()))) ((), (v.2.2.2.1, (r4.1.1, ()))) fun c5 o6 =>
 (kk ((), ()) (.inl (((isub .i64 c5.1.1 (1 : Int)), ()), (c5.2.1, (c5.2.2.1, (o6.2.1, ())))))))))
 (kk ((), ()) (.inr ((), (v.2.1, (v.2.2.1, (v.2.2.2.1, ())))))))
abbrev f_spec_l1Cur_version_i13c : Desc := ⟨[(0, .ptr 0 []), (2, .ptr 2 []), (3, .ptr 3 []), (37, .v .bool)], [(2, ⟨kdVersion, (.pr .s (.pr .s (.pr (.o .s) .s))), true⟩)]⟩
abbrev f_spec_l1Cur_version_i13v : Desc := ⟨[], [(0, ⟨kdl1Cur, .s, true⟩), (3, ⟨kdVersion, (.pr .s (.pr .s (.pr (.o .s) .s))), true⟩)]⟩
abbrev f_spec_l1Cur_version_i13e : List (Ek × Desc) := [(.norm, ⟨[], [(0, ⟨kdl1Cur, .s, true⟩), (3, ⟨kdVersion, (.pr .s (.pr .s (.pr (.o .s) .s))), true⟩)]⟩)]
def f_spec_l1Cur_version_i13 (R : Type) (c : ((Bool × Unit) × (DVersion × Unit))) (v : (Unit × (Dl1Cur × DVersion × Unit))) (kk : ((Bool × Unit) × (DVersion × Unit)) → (Unit × (Dl1Cur × DVersion × Unit)) → Option R) : Option R :=
 (cond c.1.1
 (bnd (f_spec_l1Cur_pick (v.2.1, ((3 : Int), ()))) fun r11 => (getO v.2.2.1.2.2.1 (0 : Int) fun _ => (bnd (v.2.2.1.2.2.1[(Int.toNat (0 : Int))]?) fun v13 => (bnd (v.2.2.1.2.2.1[(Int.toNat (0 : Int))]?) fun v14 => (kk ((c.1.1, ()), (c.2.1, ())) ((), (r11.2.1, ((v.2.2.1.1, (v.2.2.1.2.1, ((List.set v.2.2.1.2.2.1 (Int.toNat (0 : Int)) (v14.1, ((iadd .i64 (1 : Int) r11.1.1), v14.2.2))), v.2.2.1.2.2.2))), ()))))))))
 (kk ((c.1.1, ()), (c.2.1, ())) ((), (v.2.1, (v.2.2.1, ())))))
abbrev f_spec_l1Cur_version_i12c : Desc := ⟨[(0, .ptr 0 []), (2, .ptr 2 []), (3, .ptr 3 [])], []⟩
abbrev f_spec_l1Cur_version_i12v : Desc := ⟨[(32, .v .bool)], [(0, ⟨kdl1Cur, .s, true⟩), (2, ⟨kdVersion, (.pr .s (.pr .s (.pr (.o .s) .s))), true⟩), (3, ⟨kdVersion, (.pr .s (.pr .s (.pr (.o .s) .s))), true⟩)]⟩
abbrev f_spec_l1Cur_version_i12e : List (Ek × Desc) := [(.norm, ⟨[], [(0, ⟨kdl1Cur, .s, true⟩), (2, ⟨kdVersion, (.pr .s (.pr .s (.pr (.o .s) .s))), true⟩), (3, ⟨kdVersion, (.pr .s (.pr .s (.pr (.o .s) .s))), true⟩)]⟩)]
def f_spec_l1Cur_version_i12 (R : Type) (c : (Unit × Unit)) (v : ((Bool × Unit) × (Dl1Cur × DVersion × DVersion × Unit))) (kk : (Unit × Unit) → (Unit × (Dl1Cur × DVersion × DVersion × Unit)) → Option R) : Option R :=
 (cond v.1.1
 (f_spec_l1Cur_version_i13 _ (((ilt (0 : Int) (llen v.2.2.2.1.2.2.1)), ()), (v.2.2.1, ())) ((), (v.2.1, (v.2.2.2.1, ()))) fun c11 o12 =>
 (kk ((), ()) ((), (o12.2.1, (c11.2.1, (o12.2.2.1, ()))))))
 (kk ((), ()) ((), (v.2.1, (v.2.2.1, (v.2.2.2.1, ()))))))
abbrev f_spec_l1Cur_version_i10c : Desc := ⟨[(0, .ptr 0 []), (2, .ptr 2 []), (3, .ptr 3 [])], []⟩
abbrev f_spec_l1Cur_version_i10v : Desc := ⟨[(25, .v (.int .i64)), (26, .v .bool)], [(0, ⟨kdl1Cur, .s, true⟩), (2, ⟨kdVersion, (.pr .s (.pr .s (.pr (.o .s) .s))), true⟩), (3, ⟨kdVersion, (.pr .s (.pr .s (.pr (.o .s) .s))), true⟩)]⟩
abbrev f_spec_l1Cur_version_i10e : List (Ek × Desc) := [(.norm, ⟨[], [(0, ⟨kdl1Cur, .s, true⟩), (2, ⟨kdVersion, (.pr .s (.pr .s (.pr (.o .s) .s))), true⟩), (3, ⟨kdVersion, (.pr .s (.pr .s (.pr (.o .s) .s))), true⟩)]⟩)]
def f_spec_l1Cur_version_i10 (R : Type) (c : (Unit × Unit)) (v : ((Int × Bool × Unit) × (Dl1Cur × DVersion × DVersion × Unit))) (kk : (Unit × Unit) → (Unit × (Dl1Cur × DVersion × DVersion × Unit)) → Option R) : Option R :=
 (cond v.1.2.1
 (bnd (f_spec_l1Cur_among (v.2.1, ([(0 : Int), (1 : Int), (100001 : Int)], ()))) fun r10 => (kk ((), ()) ((), (r10.2.1, (v.2.2.1, ((r10.1.1, v.2.2.2.1.2), ()))))))
 (f_spec_l1Cur_version_i12 _ ((), ()) (((ieq v.1.1 (1 : Int)), ()), (v.2.1, (v.2.2.1, (v.2.2.2.1, ())))) fun c11 o12 =>
 (kk ((), ()) ((), (o12.2.1, (o12.2.2.1, (o12.2.2.2.1, ())))))))
def f_spec_l1Cur_version (x : (Dl1Cur × Unit)) : Option ((DVersion × Unit) × (Dl1Cur × Unit)) :=
 (bnd (f_spec_NewVersion ()) fun r1 => (bnd (f_spec_l1Cur_pick (x.1, ((8 : Int), ()))) fun r2 => (loopF (c := f_spec_l1Cur_version_l3c) (v := f_spec_l1Cur_version_l3v) (ex := f_spec_l1Cur_version_l3e) f_spec_l1Cur_version_l3 _ ((), ()) ((r2.1.1, ()), (r2.2.1, (((0 : Int), ((0 : Int), (([] : List DMeta), ()))), (r1.1.1, ())))) fun c7 o8 =>
 (bnd (f_spec_l1Cur_pick (o8.2.1, ((40 : Int), ()))) fun r9 => (f_spec_l1Cur_version_i10 _ ((), ()) ((r9.1.1, ((ieq r9.1.1 (0 : Int)), ())), (r9.2.1, (o8.2.2.1, (o8.2.2.2.1, ())))) fun c13 o14 =>
 (some ((o14.2.2.2.1, ()), (o14.2.1, ()))))))))
def sg45 : Sig := ⟨ins45, res45, f_spec_l1Cur_version⟩
abbrev ins11 : List Pm := [.val (.sl (.int .u8))]
abbrev res11 : List (K × Mk) := [(kdEdit, (.pr .s (.pr .s (.pr (.o .s) (.pr (.o .s) .s)))))]
def f_spec_DrawEditBytes (x : ((List Int) × Unit)) : Option ((DEdit × Unit) × Unit) :=
 (bnd (f_spec_l1Cur_version ((x.1, ((0 : Int), ((0 : Int), ()))), ())) fun r1 => (bnd (f_spec_l1Cur_edit (r1.2.1, (r1.1.1, ()))) fun r2 => (some ((r2.1.1, ()), ()))))
def sg11 : Sig := ⟨ins11, res11, f_spec_DrawEditBytes⟩
abbrev ins104 : List Pm := [.val (.int .i64), .val (.int .i64), .val (.int .i64)]
abbrev res104 : List (K × Mk) := [(.bool, .s)]
def f_impl_in (x : (Int × Int × Int × Unit)) : Option ((Bool × Unit) × Unit) :=
 (cond (ile x.2.1 x.1)
 (some (((ile x.1 x.2.2.1), ()), ()))
 (some ((false, ()), ())))
def sg104 : Sig := ⟨ins104, res104, f_impl_in⟩
abbrev ins105 : List Pm := [.val (.int .i64)]
abbrev res105 : List (K × Mk) := [(.bool, .s)]
def f_impl_isSeq (x : (Int × Unit)) : Option ((Bool × Unit) × Unit) :=
 (bnd (f_impl_in (x.1, ((0 : Int), ((1000000000 : Int), ())))) fun r1 => (some ((r1.1.1, ()), ())))
def sg105 : Sig := ⟨ins105, res105, f_impl_isSeq⟩
abbrev ins59 : List Pm := [.val (.int .i64), .val (.int .i64)]
abbrev res59 : List (K × Mk) := [(.bool, .s)]
def f_impl_nextOk (x : (Int × Int × Unit)) : Option ((Bool × Unit) × Unit) :=
 (bnd (f_impl_in (x.1, ((1 : Int), ((100001 : Int), ())))) fun r1 => (cond r1.1.1
 (bnd (f_impl_isSeq (x.2.1, ())) fun r2 => (some ((r2.1.1, ()), ())))
 (some ((false, ()), ()))))
def sg59 : Sig := ⟨ins59, res59, f_impl_nextOk⟩
abbrev ins137 : List Pm := [.val .str]
abbrev res137 : List (K × Mk) := [(.bool, .s)]
def f_impl_isKey (x : (ByteArray × Unit)) : Option ((Bool × Unit) × Unit) :=
 (bnd (f_impl_in ((slen x.1), ((1 : Int), ((16 : Int), ())))) fun r1 => (some ((r1.1.1, ()), ())))
def sg137 : Sig := ⟨ins137, res137, f_impl_isKey⟩
abbrev ins106 : List Pm := [.val kdMeta]
abbrev res106 : List (K × Mk) := [(.bool, .s)]
def f_impl_goodMeta (x : (DMeta × Unit)) : Option ((Bool × Unit) × Unit) :=
 (bnd (f_impl_in (x.1.1, ((1 : Int), ((100000 : Int), ())))) fun r1 => (cond r1.1.1
 (bnd (f_impl_in (x.1.2.1, ((0 : Int), ((3 : Int), ())))) fun r2 => (cond r2.1.1
 (bnd (f_impl_isKey (x.1.2.2.1, ())) fun r3 => (cond r3.1.1
 (bnd (f_impl_isKey (x.1.2.2.2.1, ())) fun r4 => (cond r4.1.1
 (some (((slt x.1.2.2.1 x.1.2.2.2.1 || seq x.1.2.2.1 x.1.2.2.2.1), ()), ()))
 (some ((false, ()), ()))))
 (some ((false, ()), ()))))
 (some ((false, ()), ()))))
 (some ((false, ()), ()))))
def sg106 : Sig := ⟨ins106, res106, f_impl_goodMeta⟩
abbrev ins60 : List Pm := [.val (.sl kdMeta)]
abbrev res60 : List (K × Mk) := [(.bool, .s)]
abbrev f_impl_metasOk_l2c : Desc := ⟨[(0, .v (.sl kdMeta)), (5, .v (.sl kdMeta)), (6, .v (.int .i64))], []⟩
abbrev f_impl_metasOk_l2v : Desc := ⟨[(7, .v (.int .i64))], []⟩
abbrev f_impl_metasOk_l2e : List (Ek × Desc) := [(.ret, ⟨[(2, .v .bool)], []⟩), (.exit 0, ⟨[], []⟩)]
def f_impl_metasOk_l2 (R : Type) (c : (((List DMeta) × (List DMeta) × Int × Unit) × Unit)) (v : ((Int × Unit) × Unit)) (kk : (((List DMeta) × (List DMeta) × Int × Unit) × Unit) → (((Int × Unit) × Unit) ⊕ (((Bool × Unit) × Unit) ⊕ (Unit × Unit))) → Option R) : Option R :=
 (cond (ilt v.1.1 c.1.2.2.1)
 (getO c.1.2.1 v.1.1 fun v1 => (bnd (f_impl_goodMeta (v1, ())) fun r2 => (cond (!r2.1.1)
 (kk ((c.1.1, (c.1.2.1, (c.1.2.2.1, ()))), ()) (.inr (.inl ((false, ()), ()))))
 (cond (ilt (0 : Int) v.1.1)
 (getO c.1.1 (isub .i64 v.1.1 (1 : Int)) fun v3 => (cond (ile v1.1 v3.1)
 (kk ((c.1.1, (c.1.2.1, (c.1.2.2.1, ()))), ()) (.inr (.inl ((false, ()), ()))))
 (kk ((c.1.1, (c.1.2.1, (c.1.2.2.1, ()))), ()) (.inl (((iadd .i64 v.1.1 (1 : Int)), ()), ())))))
 (kk ((c.1.1, (c.1.2.1, (c.1.2.2.1, ()))), ()) (.inl (((iadd .i64 v.1.1 (1 : Int)), ()), ())))))))
 (kk ((c.1.1, (c.1.2.1, (c.1.2.2.1, ()))), ()) (.inr (.inr ((), ())))))
def f_impl_metasOk (x : ((List DMeta) × Unit)) : Option ((Bool × Unit) × Unit) :=
 (loopF (c := f_impl_metasOk_l2c) (v := f_impl_metasOk_l2v) (ex := f_impl_metasOk_l2e) f_impl_metasOk_l2 _ ((x.1, (x.1, ((llen x.1), ()))), ()) (((0 : Int), ()), ()) fun c4 o5 =>
 (match o5 with
 | .inl y6 => (some ((y6.1.1, ()), ()))
 | .inr z7 => (some (((ile (llen c4.1.1) (30 : Int)), ()), ()))))
def sg60 : Sig := ⟨ins60, res60, f_impl_metasOk⟩
abbrev ins95 : List Pm := [.val (.sl (.int .i64))]
abbrev res95 : List (K × Mk) := [(.bool, .s)]
abbrev f_impl_numbersOk_l2c : Desc := ⟨[(0, .v (.sl (.int .i64))), (5, .v (.sl (.int .i64))), (6, .v (.int .i64))], []⟩
abbrev f_impl_numbersOk_l2v : Desc := ⟨[(7, .v (.int .i64))], []⟩
abbrev f_impl_numbersOk_l2e : List (Ek × Desc) := [(.ret, ⟨[(2, .v .bool)], []⟩), (.exit 0, ⟨[], []⟩)]
def f_impl_numbersOk_l2 (R : Type) (c : (((List Int) × (List Int) × Int × Unit) × Unit)) (v : ((Int × Unit) × Unit)) (kk : (((List Int) × (List Int) × Int × Unit) × Unit) → (((Int × Unit) × Unit) ⊕ (((Bool × Unit) × Unit) ⊕ (Unit × Unit))) → Option R) : Option R :=
 (cond (ilt v.1.1 c.1.2.2.1)
 (getO c.1.2.1 v.1.1 fun v1 => (bnd (f_impl_in (v1, ((1 : Int), ((100000 : Int), ())))) fun r2 => (cond (!r2.1.1)
 (kk ((c.1.1, (c.1.2.1, (c.1.2.2.1, ()))), ()) (.inr (.inl ((false, ()), ()))))
 (cond (ilt (0 : Int) v.1.1)
 (getO c.1.1 (isub .i64 v.1.1 (1 : Int)) fun v3 => (cond (ile v1 v3)
 (kk ((c.1.1, (c.1.2.1, (c.1.2.2.1, ()))), ()) (.inr (.inl ((false, ()), ()))))
 (kk ((c.1.1, (c.1.2.1, (c.1.2.2.1, ()))), ()) (.inl (((iadd .i64 v.1.1 (1 : Int)), ()), ())))))
 (kk ((c.1.1, (c.1.2.1, (c.1.2.2.1, ()))), ()) (.inl (((iadd .i64 v.1.1 (1 : Int)), ()), ())))))))
 (kk ((c.1.1, (c.1.2.1, (c.1.2.2.1, ()))), ()) (.inr (.inr ((), ())))))
def f_impl_numbersOk (x : ((List Int) × Unit)) : Option ((Bool × Unit) × Unit) :=
 (loopF (c := f_impl_numbersOk_l2c) (v := f_impl_numbersOk_l2v) (ex := f_impl_numbersOk_l2e) f_impl_numbersOk_l2 _ ((x.1, (x.1, ((llen x.1), ()))), ()) (((0 : Int), ()), ()) fun c4 o5 =>
 (match o5 with
 | .inl y6 => (some ((y6.1.1, ()), ()))
 | .inr z7 => (some ((true, ()), ()))))
def sg95 : Sig := ⟨ins95, res95, f_impl_numbersOk⟩
abbrev ins46 : List Pm := [.val kdEdit]
abbrev res46 : List (K × Mk) := [(.bool, .s)]
def f_impl_goodEdit (x : (DEdit × Unit)) : Option ((Bool × Unit) × Unit) :=
 (bnd (f_impl_nextOk (x.1.1, (x.1.2.1, ()))) fun r1 => (cond r1.1.1
 (cond (ile (llen x.1.2.2.1) (30 : Int))
 (bnd (f_impl_metasOk (x.1.2.2.2.1, ())) fun r2 => (cond r2.1.1
 (bnd (f_impl_numbersOk (x.1.2.2.1, ())) fun r3 => (some ((r3.1.1, ()), ())))
 (some ((false, ()), ()))))
 (some ((false, ()), ())))
 (some ((false, ()), ()))))
def sg46 : Sig := ⟨ins46, res46, f_impl_goodEdit⟩
abbrev ins47 : List Pm := [.val (.int .i64)]
abbrev res47 : List (K × Mk) := [(.str, .s)]
abbrev f_impl_varBytes_l2c : Desc := ⟨[(3, .al 3 [])], []⟩
abbrev f_impl_varBytes_l2v : Desc := ⟨[(0, .v (.int .i64))], [(3, ⟨(.sl (.int .u8)), (.o .s), false⟩)]⟩
abbrev f_impl_varBytes_l2e : List (Ek × Desc) := [(.exit 0, ⟨[(0, .v (.int .i64))], [(3, ⟨(.sl (.int .u8)), (.o .s), false⟩)]⟩)]
def f_impl_varBytes_l2 (R : Type) (c : (Unit × Unit)) (v : ((Int × Unit) × ((List Int) × Unit))) (kk : (Unit × Unit) → (((Int × Unit) × ((List Int) × Unit)) ⊕ ((Int × Unit) × ((List Int) × Unit))) → Option R) : Option R :=
 (cond (ile (128 : Int) v.1.1)
 (req (decide (List.length v.2.1 + List.length [(iadd .u8 (IntKind.wrap .u8 (irem .i64 v.1.1 (128 : Int))) (128 : Int))] ≤ 17179869184)) (kk ((), ()) (.inl (((iquo .i64 v.1.1 (128 : Int)), ()), ((v.2.1 ++ [(iadd .u8 (IntKind.wrap .u8 (irem .i64 v.1.1 (128 : Int))) (128 : Int))]), ())))))
 (kk ((), ()) (.inr ((v.1.1, ()), (v.2.1, ())))))
def f_impl_varBytes (x : (Int × Unit)) : Option ((ByteArray × Unit) × Unit) :=
 (loopF (c := f_impl_varBytes_l2c) (v := f_impl_varBytes_l2v) (ex := f_impl_varBytes_l2e) f_impl_varBytes_l2 _ ((), ()) ((x.1, ()), (([] : List Int), ())) fun c1 o2 =>
 (req (decide (List.length o2.2.1 + List.length [(IntKind.wrap .u8 o2.1.1)] ≤ 17179869184)) (some (((strOf (o2.2.1 ++ [(IntKind.wrap .u8 o2.1.1)])), ()), ()))))
def sg47 : Sig := ⟨ins47, res47, f_impl_varBytes⟩
abbrev ins48 : List Pm := [.val .str]
abbrev res48 : List (K × Mk) := [(.str, .s)]
def f_impl_sized (x : (ByteArray × Unit)) : Option ((ByteArray × Unit) × Unit) :=
 (bnd (f_impl_varBytes ((slen x.1), ())) fun r1 => (catO r1.1.1 x.1 fun v2 => (some ((v2, ()), ()))))
def sg48 : Sig := ⟨ins48, res48, f_impl_sized⟩
abbrev ins12 : List Pm := [.val kdEdit]
abbrev res12 : List (K × Mk) := [(.str, .s), (.bool, .s)]
abbrev f_impl_EditBytes_l5c : Desc := ⟨[(1, .ptr 1 []), (25, .v (.sl (.int .i64))), (26, .v (.int .i64))], [(1, ⟨kdEdit, .s, true⟩)]⟩
abbrev f_impl_EditBytes_l5v : Desc := ⟨[(4, .v .str), (27, .v (.int .i64))], []⟩
abbrev f_impl_EditBytes_l5e : List (Ek × Desc) := [(.exit 0, ⟨[(4, .v .str)], []⟩)]
def f_impl_EditBytes_l5 (R : Type) (c : (((List Int) × Int × Unit) × (DEdit × Unit))) (v : ((ByteArray × Int × Unit) × Unit)) (kk : (((List Int) × Int × Unit) × (DEdit × Unit)) → (((ByteArray × Int × Unit) × Unit) ⊕ ((ByteArray × Unit) × Unit)) → Option R) : Option R :=
 (cond (ilt v.1.2.1 c.1.2.1)
 (getO c.1.1 v.1.2.1 fun v7 => (bnd (f_impl_varBytes (v7, ())) fun r8 => (catO v.1.1 r8.1.1 fun v9 => (kk ((c.1.1, (c.1.2.1, ())), (c.2.1, ())) (.inl ((v9, ((iadd .i64 v.1.2.1 (1 : Int)), ())), ()))))))
 (kk ((c.1.1, (c.1.2.1, ())), (c.2.1, ())) (.inr ((v.1.1, ()), ()))))
abbrev f_impl_EditBytes_l11c : Desc := ⟨[(43, .v (.sl kdMeta)), (44, .v (.int .i64))], []⟩
abbrev f_impl_EditBytes_l11v : Desc := ⟨[(4, .v .str), (45, .v (.int .i64))], []⟩
abbrev f_impl_EditBytes_l11e : List (Ek × Desc) := [(.exit 2, ⟨[(4, .v .str)], []⟩)]
def f_impl_EditBytes_l11 (R : Type) (c : (((List DMeta) × Int × Unit) × Unit)) (v : ((ByteArray × Int × Unit) × Unit)) (kk : (((List DMeta) × Int × Unit) × Unit) → (((ByteArray × Int × Unit) × Unit) ⊕ ((ByteArray × Unit) × Unit)) → Option R) : Option R :=
 (cond (ilt v.1.2.1 c.1.2.1)
 (getO c.1.1 v.1.2.1 fun v14 => (bnd (f_impl_varBytes (v14.1, ())) fun r15 => (bnd (f_impl_varBytes (v14.2.1, ())) fun r16 => (catO r15.1.1 r16.1.1 fun v17 => (bnd (f_impl_sized (v14.2.2.1, ())) fun r18 => (catO v17 r18.1.1 fun v19 => (bnd (f_impl_sized (v14.2.2.2.1, ())) fun r20 => (catO v19 r20.1.1 fun v21 => (catO v.1.1 v21 fun v22 => (kk ((c.1.1, (c.1.2.1, ())), ()) (.inl ((v22, ((iadd .i64 v.1.2.1 (1 : Int)), ())), ()))))))))))))
 (kk ((c.1.1, (c.1.2.1, ())), ()) (.inr ((v.1.1, ()), ()))))
def f_impl_EditBytes (x : (DEdit × Unit)) : Option ((ByteArray × Bool × Unit) × Unit) :=
 (bnd (f_impl_goodEdit (x.1, ())) fun r1 => (cond (!r1.1.1)
 (some (((⟨#[]⟩ : ByteArray), (false, ())), ()))
 (bnd (f_impl_varBytes (x.1.1, ())) fun r2 => (bnd (f_impl_varBytes (x.1.2.1, ())) fun r3 => (catO r2.1.1 r3.1.1 fun v4 => (bnd (f_impl_varBytes ((llen x.1.2.2.1), ())) fun r5 => (catO v4 r5.1.1 fun v6 => (loopF (c := f_impl_EditBytes_l5c) (v := f_impl_EditBytes_l5v) (ex := f_impl_EditBytes_l5e) f_impl_EditBytes_l5 _ ((x.1.2.2.1, ((llen x.1.2.2.1), ())), (x.1, ())) ((v6, ((0 : Int), ())), ()) fun c10 o11 =>
 (bnd (f_impl_varBytes ((llen c10.2.1.2.2.2.1), ())) fun r12 => (catO o11.1.1 r12.1.1 fun v13 => (loopF (c := f_impl_EditBytes_l11c) (v := f_impl_EditBytes_l11v) (ex := f_impl_EditBytes_l11e) f_impl_EditBytes_l11 _ ((c10.2.1.2.2.2.1, ((llen c10.2.1.2.2.2.1), ())), ()) ((v13, ((0 : Int), ())), ()) fun c23 o24 =>
 (cond (ilt (1000 : Int) (slen o24.1.1))
 (some (((⟨#[]⟩ : ByteArray), (false, ())), ()))
 (some ((o24.1.1, (true, ())), ()))))))))))))))
def sg12 : Sig := ⟨ins12, res12, f_impl_EditBytes⟩
abbrev ins99 : List Pm := [.val (.int .i64)]
abbrev res99 : List (K × Mk) := [(.str, .s)]
abbrev f_spec_l2Var_l2c : Desc := ⟨[(3, .al 3 [])], []⟩
abbrev f_spec_l2Var_l2v : Desc := ⟨[(0, .v (.int .i64))], [(3, ⟨(.sl (.int .u8)), (.o .s), false⟩)]⟩
abbrev f_spec_l2Var_l2e : List (Ek × Desc) := [(.exit 0, ⟨[(0, .v (.int .i64))], [(3, ⟨(.sl (.int .u8)), (.o .s), false⟩)]⟩)]
def f_spec_l2Var_l2 (R : Type) (c : (Unit × Unit)) (v : ((Int × Unit) × ((List Int) × Unit))) (kk : (Unit × Unit) → (((Int × Unit) × ((List Int) × Unit)) ⊕ ((Int × Unit) × ((List Int) × Unit))) → Option R) : Option R :=
 (cond (ilt (127 : Int) v.1.1)
 (req (decide (List.length v.2.1 + List.length [(IntKind.wrap .u8 (ior .i64 (iand .i64 v.1.1 (127 : Int)) (128 : Int)))] ≤ 17179869184)) (kk ((), ()) (.inl (((ishr .i64 v.1.1 (7 : Int)), ()), ((v.2.1 ++ [(IntKind.wrap .u8 (ior .i64 (iand .i64 v.1.1 (127 : Int)) (128 : Int)))]), ())))))
 (kk ((), ()) (.inr ((v.1.1, ()), (v.2.1, ())))))
def f_spec_l2Var (x : (Int × Unit)) : Option ((ByteArray × Unit) × Unit) :=
 (loopF (c := f_spec_l2Var_l2c) (v := f_spec_l2Var_l2v) (ex := f_spec_l2Var_l2e) f_spec_l2Var_l2 _ ((), ()) ((x.1, ()), (([] : List Int), ())) fun c1 o2 =>
 (req (decide (List.length o2.2.1 + List.length [(IntKind.wrap .u8 o2.1.1)] ≤ 17179869184)) (some (((strOf (o2.2.1 ++ [(IntKind.wrap .u8 o2.1.1)])), ()), ()))))
def sg99 : Sig := ⟨ins99, res99, f_spec_l2Var⟩
abbrev ins50 : List Pm := [.val kdEdit]
abbrev res50 : List (K × Mk) := [(.str, .s)]
abbrev f_spec_l9Bytes_l3c : Desc := ⟨[(1, .ptr 1 []), (21, .v (.sl (.int .i64))), (22, .v (.int .i64))], [(1, ⟨kdEdit, .s, true⟩)]⟩
abbrev f_spec_l9Bytes_l3v : Desc := ⟨[(3, .v .str), (23, .v (.int .i64))], []⟩
abbrev f_spec_l9Bytes_l3e : List (Ek × Desc) := [(.exit 0, ⟨[(3, .v .str)], []⟩)]
def f_spec_l9Bytes_l3 (R : Type) (c : (((List Int) × Int × Unit) × (DEdit × Unit))) (v : ((ByteArray × Int × Unit) × Unit)) (kk : (((List Int) × Int × Unit) × (DEdit × Unit)) → (((ByteArray × Int × Unit) × Unit) ⊕ ((ByteArray × Unit) × Unit)) → Option R) : Option R :=
 (cond (ilt v.1.2.1 c.1.2.1)
 (getO c.1.1 v.1.2.1 fun v6 => (bnd (f_spec_l2Var (v6, ())) fun r7 => (catO v.1.1 r7.1.1 fun v8 => (kk ((c.1.1, (c.1.2.1, ())), (c.2.1, ())) (.inl ((v8, ((iadd .i64 v.1.2.1 (1 : Int)), ())), ()))))))
 (kk ((c.1.1, (c.1.2.1, ())), (c.2.1, ())) (.inr ((v.1.1, ()), ()))))
abbrev f_spec_l9Bytes_l9c : Desc := ⟨[(39, .v (.sl kdMeta)), (40, .v (.int .i64))], []⟩
abbrev f_spec_l9Bytes_l9v : Desc := ⟨[(3, .v .str), (41, .v (.int .i64))], []⟩
abbrev f_spec_l9Bytes_l9e : List (Ek × Desc) := [(.exit 2, ⟨[(3, .v .str)], []⟩)]
def f_spec_l9Bytes_l9 (R : Type) (c : (((List DMeta) × Int × Unit) × Unit)) (v : ((ByteArray × Int × Unit) × Unit)) (kk : (((List DMeta) × Int × Unit) × Unit) → (((ByteArray × Int × Unit) × Unit) ⊕ ((ByteArray × Unit) × Unit)) → Option R) : Option R :=
 (cond (ilt v.1.2.1 c.1.2.1)
 (getO c.1.1 v.1.2.1 fun v13 => (bnd (f_spec_l2Var (v13.1, ())) fun r14 => (bnd (f_spec_l2Var (v13.2.1, ())) fun r15 => (catO r14.1.1 r15.1.1 fun v16 => (bnd (f_spec_l2Var ((slen v13.2.2.1), ())) fun r17 => (catO v16 r17.1.1 fun v18 => (catO v18 v13.2.2.1 fun v19 => (bnd (f_spec_l2Var ((slen v13.2.2.2.1), ())) fun r20 => (catO v19 r20.1.1 fun v21 => (catO v21 v13.2.2.2.1 fun v22 => (catO v.1.1 v22 fun v23 => (kk ((c.1.1, (c.1.2.1, ())), ()) (.inl ((v23, ((iadd .i64 v.1.2.1 (1 : Int)), ())), ()))))))))))))))
 (kk ((c.1.1, (c.1.2.1, ())), ()) (.inr ((v.1.1, ()), ()))))
def f_spec_l9Bytes (x : (DEdit × Unit)) : Option ((ByteArray × Unit) × Unit) :=
 (bnd (f_spec_l2Var (x.1.1, ())) fun r1 => (bnd (f_spec_l2Var (x.1.2.1, ())) fun r2 => (catO r1.1.1 r2.1.1 fun v3 => (bnd (f_spec_l2Var ((llen x.1.2.2.1), ())) fun r4 => (catO v3 r4.1.1 fun v5 => (loopF (c := f_spec_l9Bytes_l3c) (v := f_spec_l9Bytes_l3v) (ex := f_spec_l9Bytes_l3e) f_spec_l9Bytes_l3 _ ((x.1.2.2.1, ((llen x.1.2.2.1), ())), (x.1, ())) ((v5, ((0 : Int), ())), ()) fun c9 o10 =>
 (bnd (f_spec_l2Var ((llen c9.2.1.2.2.2.1), ())) fun r11 => (catO o10.1.1 r11.1.1 fun v12 => (loopF (c := f_spec_l9Bytes_l9c) (v := f_spec_l9Bytes_l9v) (ex := f_spec_l9Bytes_l9e) f_spec_l9Bytes_l9 _ ((c9.2.1.2.2.2.1, ((llen c9.2.1.2.2.2.1), ())), ()) ((v12, ((0 : Int), ())), ()) fun c24 o25 =>
 (some ((o25.1.1, ()), ())))))))))))
def sg50 : Sig := ⟨ins50, res50, f_spec_l9Bytes⟩
abbrev ins13 : List Pm := [.val kdEdit]
abbrev res13 : List (K × Mk) := [(.str, .s), (.bool, .s)]
def f_spec_EditBytes (x : (DEdit × Unit)) : Option ((ByteArray × Bool × Unit) × Unit) :=
 (bnd (f_spec_l9Edit (x.1, ())) fun r1 => (cond (!r1.1.1)
 (some (((⟨#[]⟩ : ByteArray), (false, ())), ()))
 (bnd (f_spec_l9Bytes (x.1, ())) fun r2 => (cond (ilt (1000 : Int) (slen r2.1.1))
 (some (((⟨#[]⟩ : ByteArray), (false, ())), ()))
 (bnd (f_spec_l9Bytes (x.1, ())) fun r3 => (some ((r3.1.1, (true, ())), ())))))))
def sg13 : Sig := ⟨ins13, res13, f_spec_EditBytes⟩
abbrev ins88 : List Pm := [.val .str]
abbrev res88 : List (K × Mk) := [((.int .i64), .s), ((.int .i64), .s)]
abbrev f_impl_TakeVar_l3c : Desc := ⟨[(0, .v .str)], []⟩
abbrev f_impl_TakeVar_l3v : Desc := ⟨[(4, .v (.int .i64)), (5, .v (.int .i64))], []⟩
abbrev f_impl_TakeVar_l3e : List (Ek × Desc) := [(.ret, ⟨[(2, .v (.int .i64)), (3, .v (.int .i64))], []⟩), (.exit 0, ⟨[], []⟩)]
def f_impl_TakeVar_l3 (R : Type) (c : ((ByteArray × Unit) × Unit)) (v : ((Int × Int × Unit) × Unit)) (kk : ((ByteArray × Unit) × Unit) → (((Int × Int × Unit) × Unit) ⊕ (((Int × Int × Unit) × Unit) ⊕ (Unit × Unit))) → Option R) : Option R :=
 (cond (ilt v.1.2.1 (imin (slen c.1.1) (9 : Int)))
 (getB c.1.1 v.1.2.1 fun v1 => (req (ile (0 : Int) (imul .i64 (7 : Int) v.1.2.1)) (cond (ilt (IntKind.wrap .i64 v1) (128 : Int))
 (cond (ilt (0 : Int) v.1.2.1)
 (cond (ieq (IntKind.wrap .i64 v1) (0 : Int))
 (kk ((c.1.1, ()), ()) (.inr (.inl (((0 : Int), ((0 : Int), ())), ()))))
 (kk ((c.1.1, ()), ()) (.inr (.inl (((ior .i64 v.1.1 (ishl .i64 (irem .i64 (IntKind.wrap .i64 v1) (128 : Int)) (imul .i64 (7 : Int) v.1.2.1))), ((iadd .i64 v.1.2.1 (1 : Int)), ())), ())))))
 (kk ((c.1.1, ()), ()) (.inr (.inl (((ior .i64 v.1.1 (ishl .i64 (irem .i64 (IntKind.wrap .i64 v1) (128 : Int)) (imul .i64 (7 : Int) v.1.2.1))), ((iadd .i64 v.1.2.1 (1 : Int)), ())), ())))))
 (kk ((c.1.1, ()), ()) (.inl (((ior .i64 v.1.1 (ishl .i64 (irem .i64 (IntKind.wrap .i64 v1) (128 : Int)) (imul .i64 (7 : Int) v.1.2.1))), ((iadd .i64 v.1.2.1 (1 : Int)), ())), ()))))))
 (kk ((c.1.1, ()), ()) (.inr (.inr ((), ())))))
def f_impl_TakeVar (x : (ByteArray × Unit)) : Option ((Int × Int × Unit) × Unit) :=
 (loopF (c := f_impl_TakeVar_l3c) (v := f_impl_TakeVar_l3v) (ex := f_impl_TakeVar_l3e) f_impl_TakeVar_l3 _ ((x.1, ()), ()) (((0 : Int), ((0 : Int), ())), ()) fun c2 o3 =>
 (match o3 with
 | .inl y4 => (some ((y4.1.1, (y4.1.2.1, ())), ()))
 | .inr z5 => (some (((0 : Int), ((0 : Int), ())), ()))))
def sg88 : Sig := ⟨ins88, res88, f_impl_TakeVar⟩
abbrev ins51 : List Pm := [.mptr kdtaker .s]
abbrev res51 : List (K × Mk) := [((.int .i64), .s)]
def f_impl_taker_number (x : (Dtaker × Unit)) : Option ((Int × Unit) × (Dtaker × Unit)) :=
 (bnd (f_impl_TakeVar (x.1.1, ())) fun r1 => (cond x.1.2.1
 (some (((0 : Int), ()), ((x.1.1, (true, x.1.2.2)), ())))
 (cond (ieq r1.1.2.1 (0 : Int))
 (some (((0 : Int), ()), ((x.1.1, ((ieq r1.1.2.1 (0 : Int)), x.1.2.2)), ())))
 (req (decide ((0 : Int) ≤ r1.1.2.1) && decide (r1.1.2.1 ≤ ((ByteArray.size x.1.1) : Int))) (some ((r1.1.1, ()), (((ByteArray.extract x.1.1 (Int.toNat r1.1.2.1) (ByteArray.size x.1.1)), ((ieq r1.1.2.1 (0 : Int)), x.1.2.2)), ())))))))
def sg51 : Sig := ⟨ins51, res51, f_impl_taker_number⟩
abbrev ins100 : List Pm := [.mptr kdtaker .s, .val (.int .i64)]
abbrev res100 : List (K × Mk) := [(.str, .s)]
def f_impl_taker_text (x : (Dtaker × Int × Unit)) : Option ((ByteArray × Unit) × (Dtaker × Unit)) :=
 (cond x.1.2.1
 (some (((⟨#[]⟩ : ByteArray), ()), ((x.1.1, (true, x.1.2.2)), ())))
 (cond (ilt (slen x.1.1) x.2.1)
 (some (((⟨#[]⟩ : ByteArray), ()), ((x.1.1, ((ilt (slen x.1.1) x.2.1), x.1.2.2)), ())))
 (req (decide ((0 : Int) ≤ x.2.1) && decide (x.2.1 ≤ ((ByteArray.size x.1.1) : Int))) (req (decide ((0 : Int) ≤ x.2.1) && decide (x.2.1 ≤ ((ByteArray.size x.1.1) : Int))) (some (((ByteArray.extract x.1.1 (0 : Nat) (Int.toNat x.2.1)), ()), (((ByteArray.extract x.1.1 (Int.toNat x.2.1) (ByteArray.size x.1.1)), ((ilt (slen x.1.1) x.2.1), x.1.2.2)), ())))))))
def sg100 : Sig := ⟨ins100, res100, f_impl_taker_text⟩
abbrev ins52 : List Pm := [.mptr kdtaker .s]
abbrev res52 : List (K × Mk) := [(.str, .s)]
def f_impl_taker_sized (x : (Dtaker × Unit)) : Option ((ByteArray × Unit) × (Dtaker × Unit)) :=
 (bnd (f_impl_taker_number (x.1, ())) fun r1 => (bnd (f_impl_taker_text (r1.2.1, (r1.1.1, ()))) fun r2 => (some ((r2.1.1, ()), (r2.2.1, ())))))
def sg52 : Sig := ⟨ins52, res52, f_impl_taker_sized⟩
abbrev ins53 : List Pm := [.mptr kdtaker .s]
abbrev res53 : List (K × Mk) := [(.bool, .s)]
def f_impl_taker_whole (x : (Dtaker × Unit)) : Option ((Bool × Unit) × (Dtaker × Unit)) :=
 (cond (!x.1.2.1)
 (some (((seq x.1.1 (⟨#[]⟩ : ByteArray)), ()), (x.1, ())))
 (some ((false, ()), (x.1, ()))))
def sg53 : Sig := ⟨ins53, res53, f_impl_taker_whole⟩
abbrev ins14 : List Pm := [.val .str]
abbrev res14 : List (K × Mk) := [(kdEdit, (.pr .s (.pr .s (.pr (.o .s) (.pr (.o .s) .s))))), (.bool, .s)]
abbrev f_impl_ReadEdit_l7c : Desc := ⟨[(2, .ptr 2 []), (4, .ptr 9 []), (5, .ptr 5 []), (23, .v (.int .i64))], [(2, ⟨kdEdit, (.pr .s (.pr .s (.pr (.o .s) (.pr (.o .s) .s)))), true⟩)]⟩
abbrev f_impl_ReadEdit_l7v : Desc := ⟨[(24, .v (.int .i64))], [(5, ⟨kdEdit, (.pr .s (.pr .s (.pr (.o .s) (.pr (.o .s) .s)))), true⟩), (9, ⟨kdtaker, .s, true⟩)]⟩
abbrev f_impl_ReadEdit_l7e : List (Ek × Desc) := [(.exit 0, ⟨[], [(5, ⟨kdEdit, (.pr .s (.pr .s (.pr (.o .s) (.pr (.o .s) .s)))), true⟩), (9, ⟨kdtaker, .s, true⟩)]⟩)]
def f_impl_ReadEdit_l7 (R : Type) (c : ((Int × Unit) × (DEdit × Unit))) (v : ((Int × Unit) × (DEdit × Dtaker × Unit))) (kk : ((Int × Unit) × (DEdit × Unit)) → (((Int × Unit) × (DEdit × Dtaker × Unit)) ⊕ (Unit × (DEdit × Dtaker × Unit))) → Option R) : Option R :=
 (cond (ilt v.1.1 c.1.1)
 (bnd (f_impl_taker_number (v.2.2.1, ())) fun r4 => (req (decide (List.length v.2.1.2.2.1 + List.length [r4.1.1] ≤ 17179869184)) (kk ((c.1.1, ()), (c.2.1, ())) (.inl (((iadd .i64 v.1.1 (1 : Int)), ()), ((v.2.1.1, (v.2.1.2.1, ((v.2.1.2.2.1 ++ [r4.1.1]), v.2.1.2.2.2))), (r4.2.1, ())))))))
 (kk ((c.1.1, ()), (c.2.1, ())) (.inr ((), (v.2.1, (v.2.2.1, ()))))))
abbrev f_impl_ReadEdit_l11c : Desc := ⟨[(2, .ptr 2 []), (4, .ptr 9 []), (5, .ptr 5 []), (36, .v (.int .i64))], [(2, ⟨kdEdit, (.pr .s (.pr .s (.pr (.o .s) (.pr (.o .s) .s)))), true⟩)]⟩
abbrev f_impl_ReadEdit_l11v : Desc := ⟨[(37, .v (.int .i64))], [(5, ⟨kdEdit, (.pr .s (.pr .s (.pr (.o .s) (.pr (.o .s) .s)))), true⟩), (9, ⟨kdtaker, .s, true⟩)]⟩
abbrev f_impl_ReadEdit_l11e : List (Ek × Desc) := [(.exit 2, ⟨[], [(5, ⟨kdEdit, (.pr .s (.pr .s (.pr (.o .s) (.pr (.o .s) .s)))), true⟩), (9, ⟨kdtaker, .s, true⟩)]⟩)]
def f_impl_ReadEdit_l11 (R : Type) (c : ((Int × Unit) × (DEdit × Unit))) (v : ((Int × Unit) × (DEdit × Dtaker × Unit))) (kk : ((Int × Unit) × (DEdit × Unit)) → (((Int × Unit) × (DEdit × Dtaker × Unit)) ⊕ (Unit × (DEdit × Dtaker × Unit))) → Option R) : Option R :=
 (cond (ilt v.1.1 c.1.1)
 (bnd (f_impl_taker_number (v.2.2.1, ())) fun r8 => (bnd (f_impl_taker_number (r8.2.1, ())) fun r9 => (bnd (f_impl_taker_sized (r9.2.1, ())) fun r10 => (bnd (f_impl_taker_sized (r10.2.1, ())) fun r11 => (req (decide (List.length v.2.1.2.2.2.1 + List.length [(r8.1.1, (r9.1.1, (r10.1.1, (r11.1.1, ()))))] ≤ 17179869184)) (kk ((c.1.1, ()), (c.2.1, ())) (.inl (((iadd .i64 v.1.1 (1 : Int)), ()), ((v.2.1.1, (v.2.1.2.1, (v.2.1.2.2.1, ((v.2.1.2.2.2.1 ++ [(r8.1.1, (r9.1.1, (r10.1.1, (r11.1.1, ()))))]), v.2.1.2.2.2.2)))), (r11.2.1, ()))))))))))
 (kk ((c.1.1, ()), (c.2.1, ())) (.inr ((), (v.2.1, (v.2.2.1, ()))))))
def f_impl_ReadEdit (x : (ByteArray × Unit)) : Option ((DEdit × Bool × Unit) × Unit) :=
 (cond (ilt (1000 : Int) (slen x.1))
 (some ((((0 : Int), ((0 : Int), (([] : List Int), (([] : List DMeta), ())))), (false, ())), ()))
 (bnd (f_impl_taker_number ((x.1, (false, ())), ())) fun r1 => (bnd (f_impl_taker_number (r1.2.1, ())) fun r2 => (bnd (f_impl_taker_number (r2.2.1, ())) fun r3 => (loopF (c := f_impl_ReadEdit_l7c) (v := f_impl_ReadEdit_l7v) (ex := f_impl_ReadEdit_l7e) f_impl_ReadEdit_l7 _ (((imin r3.1.1 (31 : Int)), ()), (((0 : Int), ((0 : Int), (([] : List Int), (([] : List DMeta), ())))), ())) (((0 : Int), ()), ((r1.1.1, (r2.1.1, (([] : List Int), (([] : List DMeta), ())))), (r3.2.1, ()))) fun c5 o6 =>
 (bnd (f_impl_taker_number (o6.2.2.1, ())) fun r7 => (loopF (c := f_impl_ReadEdit_l11c) (v := f_impl_ReadEdit_l11v) (ex := f_impl_ReadEdit_l11e) f_impl_ReadEdit_l11 _ (((imin r7.1.1 (31 : Int)), ()), (c5.2.1, ())) (((0 : Int), ()), (o6.2.1, (r7.2.1, ()))) fun c12 o13 =>
 (bnd (f_impl_taker_whole (o13.2.2.1, ())) fun r14 => (cond (!r14.1.1)
 (some ((((0 : Int), ((0 : Int), (([] : List Int), (([] : List DMeta), ())))), (false, ())), ()))
 (bnd (f_impl_goodEdit (o13.2.1, ())) fun r15 => (cond (!r15.1.1)
 (some ((((0 : Int), ((0 : Int), (([] : List Int), (([] : List DMeta), ())))), (false, ())), ()))
 (some ((o13.2.1, (true, ())), ())))))))))))))
def sg14 : Sig := ⟨ins14, res14, f_impl_ReadEdit⟩
abbrev ins15 : List Pm := [.val (.sl (.int .i64)), .val (.sl (.int .i64))]
abbrev res15 : List (K × Mk) := [(.bool, .s)]
abbrev f_laws_sameInts_l4c : Desc := ⟨[(0, .v (.sl (.int .i64))), (1, .v (.sl (.int .i64))), (12, .v (.int .i64))], []⟩
abbrev f_laws_sameInts_l4v : Desc := ⟨[(13, .v (.int .i64))], []⟩
abbrev f_laws_sameInts_l4e : List (Ek × Desc) := [(.ret, ⟨[(4, .v .bool)], []⟩), (.exit 0, ⟨[], []⟩)]
def f_laws_sameInts_l4 (R : Type) (c : (((List Int) × (List Int) × Int × Unit) × Unit)) (v : ((Int × Unit) × Unit)) (kk : (((List Int) × (List Int) × Int × Unit) × Unit) → (((Int × Unit) × Unit) ⊕ (((Bool × Unit) × Unit) ⊕ (Unit × Unit))) → Option R) : Option R :=
 (cond (ilt v.1.1 c.1.2.2.1)
 (getO c.1.1 v.1.1 fun v1 => (getO c.1.2.1 v.1.1 fun v2 => (cond (!ieq v1 v2)
 (kk ((c.1.1, (c.1.2.1, (c.1.2.2.1, ()))), ()) (.inr (.inl ((false, ()), ()))))
 (kk ((c.1.1, (c.1.2.1, (c.1.2.2.1, ()))), ()) (.inl (((iadd .i64 v.1.1 (1 : Int)), ()), ()))))))
 (kk ((c.1.1, (c.1.2.1, (c.1.2.2.1, ()))), ()) (.inr (.inr ((), ())))))
def f_laws_sameInts (x : ((List Int) × (List Int) × Unit)) : Option ((Bool × Unit) × Unit) :=
 (cond (!ieq (llen x.1) (llen x.2.1))
 (some ((false, ()), ()))
 (loopF (c := f_laws_sameInts_l4c) (v := f_laws_sameInts_l4v) (ex := f_laws_sameInts_l4e) f_laws_sameInts_l4 _ ((x.1, (x.2.1, ((llen x.1), ()))), ()) (((0 : Int), ()), ()) fun c3 o4 =>
 (match o4 with
 | .inl y5 => (some ((y5.1.1, ()), ()))
 | .inr z6 => (some ((true, ()), ())))))
def sg15 : Sig := ⟨ins15, res15, f_laws_sameInts⟩
abbrev ins136 : List Pm := []
abbrev res136 : List (K × Mk) := [((.sl (.int .u32)), (.o .s))]
abbrev f_spec_l2Table_i12c : Desc := ⟨[(1, .al 1 []), (2, .v (.int .i64)), (4, .v (.int .i64)), (8, .v (.int .i64)), (9, .v (.int .i64)), (23, .v .bool)], [(1, ⟨(.sl (.int .u32)), (.o .s), false⟩)]⟩
abbrev f_spec_l2Table_i12v : Desc := ⟨[(3, .v (.int .u32))], []⟩
abbrev f_spec_l2Table_i12e : List (Ek × Desc) := [(.norm, ⟨[(3, .v (.int .u32))], []⟩)]
def f_spec_l2Table_i12 (R : Type) (c : ((Int × Int × Int × Int × Bool × Unit) × ((List Int) × Unit))) (v : ((Int × Unit) × Unit)) (kk : ((Int × Int × Int × Int × Bool × Unit) × ((List Int) × Unit)) → ((Int × Unit) × Unit) → Option R) : Option R :=
 (cond c.1.2.2.2.2.1
 (kk ((c.1.1, (c.1.2.1, (c.1.2.2.1, (c.1.2.2.2.1, (c.1.2.2.2.2.1, ()))))), (c.2.1, ())) (((ixor .u32 v.1.1 (2197175160 : Int)), ()), ()))
 (kk ((c.1.1, (c.1.2.1, (c.1.2.2.1, (c.1.2.2.2.1, (c.1.2.2.2.2.1, ()))))), (c.2.1, ())) ((v.1.1, ()), ())))
abbrev f_spec_l2Table_l7c : Desc := ⟨[(1, .al 1 [])], []⟩
abbrev f_spec_l2Table_l7v : Desc := ⟨[(2, .v (.int .i64)), (3, .v (.int .u32)), (4, .v (.int .i64)), (8, .v (.int .i64)), (9, .v (.int .i64))], [(1, ⟨(.sl (.int .u32)), (.o .s), false⟩)]⟩
abbrev f_spec_l2Table_l7e : List (Ek × Desc) := [(.exit 2, ⟨[(2, .v (.int .i64)), (3, .v (.int .u32)), (8, .v (.int .i64)), (9, .v (.int .i64))], [(1, ⟨(.sl (.int .u32)), (.o .s), false⟩)]⟩)]
def f_spec_l2Table_l7 (R : Type) (c : (Unit × Unit)) (v : ((Int × Int × Int × Int × Int × Unit) × ((List Int) × Unit))) (kk : (Unit × Unit) → (((Int × Int × Int × Int × Int × Unit) × ((List Int) × Unit)) ⊕ ((Int × Int × Int × Int × Unit) × ((List Int) × Unit))) → Option R) : Option R :=
 (cond (ilt v.1.2.2.1 (8 : Int))
 (f_spec_l2Table_i12 _ ((v.1.1, (v.1.2.2.1, (v.1.2.2.2.1, (v.1.2.2.2.2.1, ((ieq (iand .u32 v.1.2.1 (1 : Int)) (1 : Int)), ()))))), (v.2.1, ())) (((ishr .u32 v.1.2.1 (1 : Int)), ()), ()) fun c1 o2 =>
 (kk ((), ()) (.inl ((c1.1.1, (o2.1.1, ((iadd .i64 c1.1.2.1 (1 : Int)), (c1.1.2.2.1, (c1.1.2.2.2.1, ()))))), (c1.2.1, ())))))
 (kk ((), ()) (.inr ((v.1.1, (v.1.2.1, (v.1.2.2.2.1, (v.1.2.2.2.2.1, ())))), (v.2.1, ())))))
abbrev f_spec_l2Table_l3c : Desc := ⟨[(1, .al 1 [])], []⟩
abbrev f_spec_l2Table_l3v : Desc := ⟨[(8, .v (.int .i64)), (9, .v (.int .i64))], [(1, ⟨(.sl (.int .u32)), (.o .s), false⟩)]⟩
abbrev f_spec_l2Table_l3e : List (Ek × Desc) := [(.exit 0, ⟨[], [(1, ⟨(.sl (.int .u32)), (.o .s), false⟩)]⟩)]
def f_spec_l2Table_l3 (R : Type) (c : (Unit × Unit)) (v : ((Int × Int × Unit) × ((List Int) × Unit))) (kk : (Unit × Unit) → (((Int × Int × Unit) × ((List Int) × Unit)) ⊕ (Unit × ((List Int) × Unit))) → Option R) : Option R :=
 (cond (ilt v.1.2.1 v.1.1)
 (loopF (c := f_spec_l2Table_l7c) (v := f_spec_l2Table_l7v) (ex := f_spec_l2Table_l7e) f_spec_l2Table_l7 _ ((), ()) ((v.1.2.1, ((IntKind.wrap .u32 v.1.2.1), ((0 : Int), (v.1.1, (v.1.2.1, ()))))), (v.2.1, ())) fun c1 o2 =>
 (getO o2.2.1 o2.1.1 fun _ => (bnd (o2.2.1[(Int.toNat o2.1.1)]?) fun v4 => (kk ((), ()) (.inl ((o2.1.2.2.1, ((iadd .i64 o2.1.2.2.2.1 (1 : Int)), ())), ((List.set o2.2.1 (Int.toNat o2.1.1) o2.1.2.1), ())))))))
 (kk ((), ()) (.inr ((), (v.2.1, ())))))
def f_spec_l2Table (x : Unit) : Option (((List Int) × Unit) × Unit) :=
 (req (decide ((256 : Int) = (256 : Int)) && (decide ((0 : Int) ≤ (256 : Int)) && decide ((256 : Int) ≤ (68719476736 : Int)))) (loopF (c := f_spec_l2Table_l3c) (v := f_spec_l2Table_l3v) (ex := f_spec_l2Table_l3e) f_spec_l2Table_l3 _ ((), ()) (((llen (List.replicate (Int.toNat (256 : Int)) ((0 : Int) : Int))), ((0 : Int), ())), ((List.replicate (Int.toNat (256 : Int)) ((0 : Int) : Int)), ())) fun c5 o6 =>
 (some ((o6.2.1, ()), ()))))
def sg136 : Sig := ⟨ins136, res136, f_spec_l2Table⟩
abbrev ins135 : List Pm := [.val (.sl (.int .u32)), .val (.int .u32), .val .str]
abbrev res135 : List (K × Mk) := [((.int .u32), .s)]
abbrev f_spec_l2On_l2c : Desc := ⟨[(0, .v (.sl (.int .u32))), (2, .v .str)], []⟩
abbrev f_spec_l2On_l2v : Desc := ⟨[(1, .v (.int .u32)), (7, .v (.int .i64))], []⟩
abbrev f_spec_l2On_l2e : List (Ek × Desc) := [(.exit 0, ⟨[(1, .v (.int .u32))], []⟩)]
def f_spec_l2On_l2 (R : Type) (c : (((List Int) × ByteArray × Unit) × Unit)) (v : ((Int × Int × Unit) × Unit)) (kk : (((List Int) × ByteArray × Unit) × Unit) → (((Int × Int × Unit) × Unit) ⊕ ((Int × Unit) × Unit)) → Option R) : Option R :=
 (cond (ilt v.1.2.1 (slen c.1.2.1))
 (getB c.1.2.1 v.1.2.1 fun v1 => (getO c.1.1 (ixor .u8 (IntKind.wrap .u8 v.1.1) v1) fun v2 => (kk ((c.1.1, (c.1.2.1, ())), ()) (.inl (((ixor .u32 v2 (ishr .u32 v.1.1 (8 : Int))), ((iadd .i64 v.1.2.1 (1 : Int)), ())), ())))))
 (kk ((c.1.1, (c.1.2.1, ())), ()) (.inr ((v.1.1, ()), ()))))
def f_spec_l2On (x : ((List Int) × Int × ByteArray × Unit)) : Option ((Int × Unit) × Unit) :=
 (loopF (c := f_spec_l2On_l2c) (v := f_spec_l2On_l2v) (ex := f_spec_l2On_l2e) f_spec_l2On_l2 _ ((x.1, (x.2.2.1, ())), ()) ((x.2.1, ((0 : Int), ())), ()) fun c3 o4 =>
 (some ((o4.1.1, ()), ())))
def sg135 : Sig := ⟨ins135, res135, f_spec_l2On⟩
abbrev ins103 : List Pm := [.val .str]
abbrev res103 : List (K × Mk) := [((.int .u32), .s)]
def f_spec_l2Sum (x : (ByteArray × Unit)) : Option ((Int × Unit) × Unit) :=
 (bnd (f_spec_l2Table ()) fun r1 => (bnd (f_spec_l2On (r1.1.1, ((4294967295 : Int), (x.1, ())))) fun r2 => (some (((inot .u32 r2.1.1), ()), ()))))
def sg103 : Sig := ⟨ins103, res103, f_spec_l2Sum⟩
abbrev ins102 : List Pm := [.val (.int .u32)]
abbrev res102 : List (K × Mk) := [(.str, .s)]
def f_spec_l2Word (x : (Int × Unit)) : Option ((ByteArray × Unit) × Unit) :=
 (some (((strOf [(IntKind.wrap .u8 x.1), (IntKind.wrap .u8 (ishr .u32 x.1 (8 : Int))), (IntKind.wrap .u8 (ishr .u32 x.1 (16 : Int))), (IntKind.wrap .u8 (ishr .u32 x.1 (24 : Int)))]), ()), ()))
def sg102 : Sig := ⟨ins102, res102, f_spec_l2Word⟩
abbrev ins57 : List Pm := [.val .str]
abbrev res57 : List (K × Mk) := [(.str, .s)]
def f_spec_l2Frame (x : (ByteArray × Unit)) : Option ((ByteArray × Unit) × Unit) :=
 (bnd (f_spec_l2Var ((slen x.1), ())) fun r1 => (bnd (f_spec_l2Sum (x.1, ())) fun r2 => (bnd (f_spec_l2Word (r2.1.1, ())) fun r3 => (catO r1.1.1 r3.1.1 fun v4 => (catO v4 x.1 fun v5 => (some ((v5, ()), ())))))))
def sg57 : Sig := ⟨ins57, res57, f_spec_l2Frame⟩
abbrev ins58 : List Pm := [.mptr kdl1Cur .s, .val .str]
abbrev res58 : List (K × Mk) := [(.str, .s)]
abbrev f_spec_l1Cur_torn_i5c : Desc := ⟨[(0, .ptr 0 []), (1, .v .str), (17, .v .bool)], []⟩
abbrev f_spec_l1Cur_torn_i5v : Desc := ⟨[], [(0, ⟨kdl1Cur, .s, true⟩)]⟩
abbrev f_spec_l1Cur_torn_i5e : List (Ek × Desc) := [(.norm, ⟨[], [(0, ⟨kdl1Cur, .s, true⟩)]⟩), (.ret, ⟨[(4, .v .str)], [(0, ⟨kdl1Cur, .s, true⟩)]⟩)]
def f_spec_l1Cur_torn_i5 (R : Type) (c : ((ByteArray × Bool × Unit) × Unit)) (v : (Unit × (Dl1Cur × Unit))) (kk : ((ByteArray × Bool × Unit) × Unit) → ((Unit × (Dl1Cur × Unit)) ⊕ ((ByteArray × Unit) × (Dl1Cur × Unit))) → Option R) : Option R :=
 (cond c.1.2.1
 (cond (Nat.beq (ByteArray.size c.1.1) 0)
 (cond (ilt (0 : Int) (llen ([] : List Int)))
 (bnd (f_spec_l1Cur_pick (v.2.1, ((llen ([] : List Int)), ()))) fun r3 => (getO ([] : List Int) r3.1.1 fun v4 => (bnd (f_spec_l1Cur_pick (r3.2.1, ((8 : Int), ()))) fun r5 => (req (ile (0 : Int) (IntKind.wrap .u64 r5.1.1)) (getO ([] : List Int) r3.1.1 fun v6 => none)))))
 (kk ((c.1.1, (c.1.2.1, ())), ()) (.inl ((), (v.2.1, ())))))
 (cond (ilt (0 : Int) (llen (bytesOf c.1.1)))
 (bnd (f_spec_l1Cur_pick (v.2.1, ((llen (bytesOf c.1.1)), ()))) fun r7 => (getO (bytesOf c.1.1) r7.1.1 fun _ => (bnd ((bytesOf c.1.1)[(Int.toNat r7.1.1)]?) fun v9 => (bnd (f_spec_l1Cur_pick (r7.2.1, ((8 : Int), ()))) fun r10 => (req (ile (0 : Int) (IntKind.wrap .u64 r10.1.1)) (getO (bytesOf c.1.1) r7.1.1 fun _ => (bnd ((bytesOf c.1.1)[(Int.toNat r7.1.1)]?) fun v12 => (kk ((c.1.1, (c.1.2.1, ())), ()) (.inr (((strOf (List.set (bytesOf c.1.1) (Int.toNat r7.1.1) (ixor .u8 v9 (ishl .u8 (1 : Int) (IntKind.wrap .u64 r10.1.1))))), ()), (r10.2.1, ())))))))))))
 (kk ((c.1.1, (c.1.2.1, ())), ()) (.inl ((), (v.2.1, ()))))))
 (kk ((c.1.1, (c.1.2.1, ())), ()) (.inl ((), (v.2.1, ())))))
def f_spec_l1Cur_torn (x : (Dl1Cur × ByteArray × Unit)) : Option ((ByteArray × Unit) × (Dl1Cur × Unit)) :=
 (bnd (f_spec_l1Cur_pick (x.1, ((4 : Int), ()))) fun r1 => (cond (ieq r1.1.1 (0 : Int))
 (bnd (f_spec_l1Cur_pick (r1.2.1, ((iadd .i64 (slen x.2.1) (1 : Int)), ()))) fun r2 => (req (decide ((0 : Int) ≤ r2.1.1) && decide (r2.1.1 ≤ ((ByteArray.size x.2.1) : Int))) (some (((ByteArray.extract x.2.1 (0 : Nat) (Int.toNat r2.1.1)), ()), (r2.2.1, ())))))
 (f_spec_l1Cur_torn_i5 _ ((x.2.1, ((ieq r1.1.1 (1 : Int)), ())), ()) ((), (r1.2.1, ())) fun c13 o14 =>
 (match o14 with
 | .inl y15 => (some ((c13.1.1, ()), (y15.2.1, ())))
 | .inr z16 => (some ((z16.1.1, ()), (z16.2.1, ())))))))
def sg58 : Sig := ⟨ins58, res58, f_spec_l1Cur_torn⟩
abbrev ins16 : List Pm := [.val (.sl (.int .u8))]
abbrev res16 : List (K × Mk) := [(.str, .s)]
abbrev f_spec_DrawRecoverVersion_i13c : Desc := ⟨[(3, .ptr 14 []), (4, .ptr 4 []), (5, .v .str), (6, .v (.int .i64)), (51, .v .bool)], [(14, ⟨kdl1Cur, .s, true⟩)]⟩
abbrev f_spec_DrawRecoverVersion_i13v : Desc := ⟨[(8, .ptr 8 [])], [(4, ⟨kdVersion, (.pr .s (.pr .s (.pr (.o .s) .s))), true⟩), (8, ⟨kdVersion, (.pr .s (.pr .s (.pr (.o .s) .s))), true⟩)]⟩
abbrev f_spec_DrawRecoverVersion_i13e : List (Ek × Desc) := [(.norm, ⟨[], [(4, ⟨kdVersion, (.pr .s (.pr .s (.pr (.o .s) .s))), true⟩)]⟩)]
def f_spec_DrawRecoverVersion_i13 (R : Type) (c : ((ByteArray × Int × Bool × Unit) × (Dl1Cur × Unit))) (v : (Unit × (DVersion × DVersion × Unit))) (kk : ((ByteArray × Int × Bool × Unit) × (Dl1Cur × Unit)) → (Unit × (DVersion × Unit)) → Option R) : Option R :=
 (cond c.1.2.2.1
 (kk ((c.1.1, (c.1.2.1, (c.1.2.2.1, ()))), (c.2.1, ())) ((), (v.2.2.1, ())))
 (kk ((c.1.1, (c.1.2.1, (c.1.2.2.1, ()))), (c.2.1, ())) ((), (v.2.1, ()))))
abbrev f_spec_DrawRecoverVersion_i11c : Desc := ⟨[(3, .ptr 14 []), (4, .ptr 4 [])], []⟩
abbrev f_spec_DrawRecoverVersion_i11v : Desc := ⟨[(5, .v .str), (6, .v (.int .i64)), (8, .ptr 8 []), (9, .v .bool), (10, .v .str), (46, .v .bool)], [(4, ⟨kdVersion, (.pr .s (.pr .s (.pr (.o .s) .s))), true⟩), (8, ⟨kdVersion, (.pr .s (.pr .s (.pr (.o .s) .s))), true⟩), (14, ⟨kdl1Cur, .s, true⟩)]⟩
abbrev f_spec_DrawRecoverVersion_i11e : List (Ek × Desc) := [(.norm, ⟨[(5, .v .str), (6, .v (.int .i64))], [(4, ⟨kdVersion, (.pr .s (.pr .s (.pr (.o .s) .s))), true⟩), (14, ⟨kdl1Cur, .s, true⟩)]⟩)]
def f_spec_DrawRecoverVersion_i11 (R : Type) (c : (Unit × Unit)) (v : ((ByteArray × Int × Bool × ByteArray × Bool × Unit) × (DVersion × DVersion × Dl1Cur × Unit))) (kk : (Unit × Unit) → ((ByteArray × Int × Unit) × (DVersion × Dl1Cur × Unit)) → Option R) : Option R :=
 (cond v.1.2.2.2.2.1
 (bnd (f_spec_l2Frame (v.1.2.2.2.1, ())) fun r6 => (catO v.1.1 r6.1.1 fun v7 => (f_spec_DrawRecoverVersion_i13 _ ((v7, (v.1.2.1, (v.1.2.2.1, ()))), (v.2.2.2.1, ())) ((), (v.2.1, (v.2.2.1, ()))) fun c8 o9 =>
 (kk ((), ()) ((c8.1.1, (c8.1.2.1, ())), (o9.2.1, (c8.2.1, ())))))))
 (kk ((), ()) ((v.1.1, (v.1.2.1, ())), (v.2.1, (v.2.2.2.1, ())))))
abbrev f_spec_DrawRecoverVersion_l5c : Desc := ⟨[(3, .ptr 14 []), (4, .ptr 4 [])], []⟩
abbrev f_spec_DrawRecoverVersion_l5v : Desc := ⟨[(5, .v .str), (6, .v (.int .i64))], [(4, ⟨kdVersion, (.pr .s (.pr .s (.pr (.o .s) .s))), true⟩), (14, ⟨kdl1Cur, .s, true⟩)]⟩
abbrev f_spec_DrawRecoverVersion_l5e : List (Ek × Desc) := [(.exit 0, ⟨[(5, .v .str)], [(4, ⟨kdVersion, (.pr .s (.pr .s (.pr (.o .s) .s))), true⟩), (14, ⟨kdl1Cur, .s, true⟩)]⟩)]
def f_spec_DrawRecoverVersion_l5 (R : Type) (c : (Unit × Unit)) (v : ((ByteArray × Int × Unit) × (DVersion × Dl1Cur × Unit))) (kk : (Unit × Unit) → (((ByteArray × Int × Unit) × (DVersion × Dl1Cur × Unit)) ⊕ ((ByteArray × Unit) × (DVersion × Dl1Cur × Unit))) → Option R) : Option R :=
 (cond (ilt (0 : Int) v.1.2.1)
 (bnd (f_spec_l1Cur_edit (v.2.2.1, (v.2.1, ()))) fun r3 => (bnd (f_spec_ApplyEdit (v.2.1, (r3.1.1, ()))) fun r4 => (bnd (f_spec_EditBytes (r3.1.1, ())) fun r5 => (cond r4.1.2.1
 (cond r5.1.2.1
 (f_spec_DrawRecoverVersion_i11 _ ((), ()) ((v.1.1, (v.1.2.1, (r4.1.2.1, (r5.1.1, (true, ()))))), (v.2.1, (r4.1.1, (r3.2.1, ())))) fun c6 o7 =>
 (kk ((), ()) (.inl ((o7.1.1, ((isub .i64 o7.1.2.1 (1 : Int)), ())), (o7.2.1, (o7.2.2.1, ()))))))
 (cond r5.1.2.1
 (bnd (f_spec_l1Cur_one (r3.2.1, ((8 : Int), ()))) fun r8 => (f_spec_DrawRecoverVersion_i11 _ ((), ()) ((v.1.1, (v.1.2.1, (r4.1.2.1, (r5.1.1, (r8.1.1, ()))))), (v.2.1, (r4.1.1, (r8.2.1, ())))) fun c9 o10 =>
 (kk ((), ()) (.inl ((o10.1.1, ((isub .i64 o10.1.2.1 (1 : Int)), ())), (o10.2.1, (o10.2.2.1, ())))))))
 (f_spec_DrawRecoverVersion_i11 _ ((), ()) ((v.1.1, (v.1.2.1, (r4.1.2.1, (r5.1.1, (false, ()))))), (v.2.1, (r4.1.1, (r3.2.1, ())))) fun c11 o12 =>
 (kk ((), ()) (.inl ((o12.1.1, ((isub .i64 o12.1.2.1 (1 : Int)), ())), (o12.2.1, (o12.2.2.1, ()))))))))
 (cond r5.1.2.1
 (bnd (f_spec_l1Cur_one (r3.2.1, ((8 : Int), ()))) fun r13 => (f_spec_DrawRecoverVersion_i11 _ ((), ()) ((v.1.1, (v.1.2.1, (r4.1.2.1, (r5.1.1, (r13.1.1, ()))))), (v.2.1, (r4.1.1, (r13.2.1, ())))) fun c14 o15 =>
 (kk ((), ()) (.inl ((o15.1.1, ((isub .i64 o15.1.2.1 (1 : Int)), ())), (o15.2.1, (o15.2.2.1, ())))))))
 (f_spec_DrawRecoverVersion_i11 _ ((), ()) ((v.1.1, (v.1.2.1, (r4.1.2.1, (r5.1.1, (false, ()))))), (v.2.1, (r4.1.1, (r3.2.1, ())))) fun c16 o17 =>
 (kk ((), ()) (.inl ((o17.1.1, ((isub .i64 o17.1.2.1 (1 : Int)), ())), (o17.2.1, (o17.2.2.1, ())))))))))))
 (kk ((), ()) (.inr ((v.1.1, ()), (v.2.1, (v.2.2.1, ()))))))
def f_spec_DrawRecoverVersion (x : ((List Int) × Unit)) : Option ((ByteArray × Unit) × Unit) :=
 (bnd (f_spec_NewVersion ()) fun r1 => (bnd (f_spec_l1Cur_pick ((x.1, ((0 : Int), ((0 : Int), ()))), ((6 : Int), ()))) fun r2 => (loopF (c := f_spec_DrawRecoverVersion_l5c) (v := f_spec_DrawRecoverVersion_l5v) (ex := f_spec_DrawRecoverVersion_l5e) f_spec_DrawRecoverVersion_l5 _ ((), ()) (((⟨#[]⟩ : ByteArray), (r2.1.1, ())), (r1.1.1, (r2.2.1, ()))) fun c18 o19 =>
 (bnd (f_spec_l1Cur_torn (o19.2.2.1, (o19.1.1, ()))) fun r20 => (some ((r20.1.1, ()), ()))))))
def sg16 : Sig := ⟨ins16, res16, f_spec_DrawRecoverVersion⟩
abbrev ins20 : List Pm := []
abbrev res20 : List (K × Mk) := [(kdVersion, (.pr .s (.pr .s (.pr (.o .s) .s))))]
def f_impl_NewVersion (x : Unit) : Option ((DVersion × Unit) × Unit) :=
 (some ((((1 : Int), ((0 : Int), (([] : List DMeta), ()))), ()), ()))
def sg20 : Sig := ⟨ins20, res20, f_impl_NewVersion⟩
abbrev ins156 : List Pm := []
abbrev res156 : List (K × Mk) := [((.sl (.int .u32)), (.o .s))]
abbrev f_impl_SumTable_i10c : Desc := ⟨[(1, .al 1 []), (5, .v (.int .u32)), (8, .v (.int .i64)), (15, .v .bool)], [(1, ⟨(.sl (.int .u32)), (.o .s), false⟩)]⟩
abbrev f_impl_SumTable_i10v : Desc := ⟨[(2, .v (.int .u32))], []⟩
abbrev f_impl_SumTable_i10e : List (Ek × Desc) := [(.norm, ⟨[(2, .v (.int .u32))], []⟩)]
def f_impl_SumTable_i10 (R : Type) (c : ((Int × Int × Bool × Unit) × ((List Int) × Unit))) (v : ((Int × Unit) × Unit)) (kk : ((Int × Int × Bool × Unit) × ((List Int) × Unit)) → ((Int × Unit) × Unit) → Option R) : Option R :=
 (cond c.1.2.2.1
 (kk ((c.1.1, (c.1.2.1, (c.1.2.2.1, ()))), (c.2.1, ())) (((ixor .u32 v.1.1 (2197175160 : Int)), ()), ()))
 (kk ((c.1.1, (c.1.2.1, (c.1.2.2.1, ()))), (c.2.1, ())) ((v.1.1, ()), ())))
abbrev f_impl_SumTable_l6c : Desc := ⟨[(1, .al 1 [])], []⟩
abbrev f_impl_SumTable_l6v : Desc := ⟨[(2, .v (.int .u32)), (5, .v (.int .u32)), (8, .v (.int .i64))], [(1, ⟨(.sl (.int .u32)), (.o .s), false⟩)]⟩
abbrev f_impl_SumTable_l6e : List (Ek × Desc) := [(.exit 2, ⟨[(2, .v (.int .u32)), (5, .v (.int .u32))], [(1, ⟨(.sl (.int .u32)), (.o .s), false⟩)]⟩)]
def f_impl_SumTable_l6 (R : Type) (c : (Unit × Unit)) (v : ((Int × Int × Int × Unit) × ((List Int) × Unit))) (kk : (Unit × Unit) → (((Int × Int × Int × Unit) × ((List Int) × Unit)) ⊕ ((Int × Int × Unit) × ((List Int) × Unit))) → Option R) : Option R :=
 (cond (ilt v.1.2.2.1 (8 : Int))
 (f_impl_SumTable_i10 _ ((v.1.2.1, (v.1.2.2.1, ((ieq (iand .u32 v.1.1 (1 : Int)) (1 : Int)), ()))), (v.2.1, ())) (((ishr .u32 v.1.1 (1 : Int)), ()), ()) fun c1 o2 =>
 (kk ((), ()) (.inl ((o2.1.1, (c1.1.1, ((iadd .i64 c1.1.2.1 (1 : Int)), ()))), (c1.2.1, ())))))
 (kk ((), ()) (.inr ((v.1.1, (v.1.2.1, ())), (v.2.1, ())))))
abbrev f_impl_SumTable_l3c : Desc := ⟨[(1, .al 1 [])], []⟩
abbrev f_impl_SumTable_l3v : Desc := ⟨[(5, .v (.int .u32))], [(1, ⟨(.sl (.int .u32)), (.o .s), false⟩)]⟩
abbrev f_impl_SumTable_l3e : List (Ek × Desc) := [(.exit 0, ⟨[], [(1, ⟨(.sl (.int .u32)), (.o .s), false⟩)]⟩)]
def f_impl_SumTable_l3 (R : Type) (c : (Unit × Unit)) (v : ((Int × Unit) × ((List Int) × Unit))) (kk : (Unit × Unit) → (((Int × Unit) × ((List Int) × Unit)) ⊕ (Unit × ((List Int) × Unit))) → Option R) : Option R :=
 (cond (ilt v.1.1 (256 : Int))
 (loopF (c := f_impl_SumTable_l6c) (v := f_impl_SumTable_l6v) (ex := f_impl_SumTable_l6e) f_impl_SumTable_l6 _ ((), ()) ((v.1.1, (v.1.1, ((0 : Int), ()))), (v.2.1, ())) fun c1 o2 =>
 (req (decide (List.length o2.2.1 + List.length [o2.1.1] ≤ 17179869184)) (kk ((), ()) (.inl (((iadd .u32 o2.1.2.1 (1 : Int)), ()), ((o2.2.1 ++ [o2.1.1]), ()))))))
 (kk ((), ()) (.inr ((), (v.2.1, ())))))
def f_impl_SumTable (x : Unit) : Option (((List Int) × Unit) × Unit) :=
 (loopF (c := f_impl_SumTable_l3c) (v := f_impl_SumTable_l3v) (ex := f_impl_SumTable_l3e) f_impl_SumTable_l3 _ ((), ()) (((0 : Int), ()), (([] : List Int), ())) fun c3 o4 =>
 (some ((o4.2.1, ()), ())))
def sg156 : Sig := ⟨ins156, res156, f_impl_SumTable⟩
abbrev ins127 : List Pm := [.val (.int .u32), .val .str]
abbrev res127 : List (K × Mk) := [((.int .u32), .s)]
abbrev f_impl_SumOn_l3c : Desc := ⟨[(1, .v .str), (5, .al 5 []), (9, .v (.int .i64))], [(5, ⟨(.sl (.int .u32)), (.o .s), false⟩)]⟩
abbrev f_impl_SumOn_l3v : Desc := ⟨[(0, .v (.int .u32)), (10, .v (.int .i64))], []⟩
abbrev f_impl_SumOn_l3e : List (Ek × Desc) := [(.exit 0, ⟨[(0, .v (.int .u32))], []⟩)]
def f_impl_SumOn_l3 (R : Type) (c : ((ByteArray × Int × Unit) × ((List Int) × Unit))) (v : ((Int × Int × Unit) × Unit)) (kk : ((ByteArray × Int × Unit) × ((List Int) × Unit)) → (((Int × Int × Unit) × Unit) ⊕ ((Int × Unit) × Unit)) → Option R) : Option R :=
 (cond (ilt v.1.2.1 c.1.2.1)
 (getB c.1.1 v.1.2.1 fun v2 => (getO c.2.1 (ixor .u8 (IntKind.wrap .u8 v.1.1) v2) fun _ => (bnd (c.2.1[(Int.toNat (ixor .u8 (IntKind.wrap .u8 v.1.1) v2))]?) fun v4 => (kk ((c.1.1, (c.1.2.1, ())), (c.2.1, ())) (.inl (((ixor .u32 (ishr .u32 v.1.1 (8 : Int)) v4), ((iadd .i64 v.1.2.1 (1 : Int)), ())), ()))))))
 (kk ((c.1.1, (c.1.2.1, ())), (c.2.1, ())) (.inr ((v.1.1, ()), ()))))
def f_impl_SumOn (x : (Int × ByteArray × Unit)) : Option ((Int × Unit) × Unit) :=
 (bnd (f_impl_SumTable ()) fun r1 => (loopF (c := f_impl_SumOn_l3c) (v := f_impl_SumOn_l3v) (ex := f_impl_SumOn_l3e) f_impl_SumOn_l3 _ ((x.2.1, ((slen x.2.1), ())), (r1.1.1, ())) ((x.1, ((0 : Int), ())), ()) fun c5 o6 =>
 (some ((o6.1.1, ()), ()))))
def sg127 : Sig := ⟨ins127, res127, f_impl_SumOn⟩
abbrev ins80 : List Pm := [.val .str]
abbrev res80 : List (K × Mk) := [((.int .u32), .s)]
def f_impl_SumOf (x : (ByteArray × Unit)) : Option ((Int × Unit) × Unit) :=
 (bnd (f_impl_SumOn ((4294967295 : Int), (x.1, ()))) fun r1 => (some (((inot .u32 r1.1.1), ()), ())))
def sg80 : Sig := ⟨ins80, res80, f_impl_SumOf⟩
abbrev ins89 : List Pm := [.val (.int .u32), .val (.int .i64)]
abbrev res89 : List (K × Mk) := [(.str, .s)]
abbrev f_impl_lowFirst_l3c : Desc := ⟨[(5, .al 5 []), (7, .v (.int .i64))], []⟩
abbrev f_impl_lowFirst_l3v : Desc := ⟨[(0, .v (.int .u32)), (8, .v (.int .i64))], [(5, ⟨(.sl (.int .u8)), (.o .s), false⟩)]⟩
abbrev f_impl_lowFirst_l3e : List (Ek × Desc) := [(.exit 0, ⟨[], [(5, ⟨(.sl (.int .u8)), (.o .s), false⟩)]⟩)]
def f_impl_lowFirst_l3 (R : Type) (c : ((Int × Unit) × Unit)) (v : ((Int × Int × Unit) × ((List Int) × Unit))) (kk : ((Int × Unit) × Unit) → (((Int × Int × Unit) × ((List Int) × Unit)) ⊕ (Unit × ((List Int) × Unit))) → Option R) : Option R :=
 (cond (ilt v.1.2.1 c.1.1)
 (req (decide (List.length v.2.1 + List.length [(IntKind.wrap .u8 v.1.1)] ≤ 17179869184)) (kk ((c.1.1, ()), ()) (.inl (((ishr .u32 v.1.1 (8 : Int)), ((iadd .i64 v.1.2.1 (1 : Int)), ())), ((v.2.1 ++ [(IntKind.wrap .u8 v.1.1)]), ())))))
 (kk ((c.1.1, ()), ()) (.inr ((), (v.2.1, ())))))
def f_impl_lowFirst (x : (Int × Int × Unit)) : Option ((ByteArray × Unit) × Unit) :=
 (loopF (c := f_impl_lowFirst_l3c) (v := f_impl_lowFirst_l3v) (ex := f_impl_lowFirst_l3e) f_impl_lowFirst_l3 _ ((x.2.1, ()), ()) ((x.1, ((0 : Int), ())), (([] : List Int), ())) fun c1 o2 =>
 (some (((strOf o2.2.1), ()), ())))
def sg89 : Sig := ⟨ins89, res89, f_impl_lowFirst⟩
abbrev ins40 : List Pm := [.val .str]
abbrev res40 : List (K × Mk) := [(.str, .s), ((.int .i64), .s), (.bool, .s)]
def f_impl_TakeFrame (x : (ByteArray × Unit)) : Option ((ByteArray × Int × Bool × Unit) × Unit) :=
 (bnd (f_impl_TakeVar (x.1, ())) fun r1 => (cond (ieq r1.1.2.1 (0 : Int))
 (some (((⟨#[]⟩ : ByteArray), ((0 : Int), (false, ()))), ()))
 (cond (ilt (1000 : Int) r1.1.1)
 (some (((⟨#[]⟩ : ByteArray), ((0 : Int), (false, ()))), ()))
 (cond (ilt (slen x.1) (iadd .i64 (iadd .i64 r1.1.2.1 (4 : Int)) r1.1.1))
 (some (((⟨#[]⟩ : ByteArray), ((0 : Int), (false, ()))), ()))
 (req (decide ((0 : Int) ≤ (iadd .i64 r1.1.2.1 (4 : Int))) && (decide ((iadd .i64 r1.1.2.1 (4 : Int)) ≤ (iadd .i64 (iadd .i64 r1.1.2.1 (4 : Int)) r1.1.1)) && decide ((iadd .i64 (iadd .i64 r1.1.2.1 (4 : Int)) r1.1.1) ≤ ((ByteArray.size x.1) : Int)))) (bnd (f_impl_SumOf ((ByteArray.extract x.1 (Int.toNat (iadd .i64 r1.1.2.1 (4 : Int))) (Int.toNat (iadd .i64 (iadd .i64 r1.1.2.1 (4 : Int)) r1.1.1))), ())) fun r2 => (bnd (f_impl_lowFirst (r2.1.1, ((4 : Int), ()))) fun r3 => (req (decide ((0 : Int) ≤ r1.1.2.1) && (decide (r1.1.2.1 ≤ (iadd .i64 r1.1.2.1 (4 : Int))) && decide ((iadd .i64 r1.1.2.1 (4 : Int)) ≤ ((ByteArray.size x.1) : Int)))) (cond (!seq r3.1.1 (ByteArray.extract x.1 (Int.toNat r1.1.2.1) (Int.toNat (iadd .i64 r1.1.2.1 (4 : Int)))))
 (some (((⟨#[]⟩ : ByteArray), ((0 : Int), (false, ()))), ()))
 (some (((ByteArray.extract x.1 (Int.toNat (iadd .i64 r1.1.2.1 (4 : Int))) (Int.toNat (iadd .i64 (iadd .i64 r1.1.2.1 (4 : Int)) r1.1.1))), ((iadd .i64 (iadd .i64 r1.1.2.1 (4 : Int)) r1.1.1), (true, ()))), ())))))))))))
def sg40 : Sig := ⟨ins40, res40, f_impl_TakeFrame⟩
abbrev ins63 : List Pm := [.mptr kdMeta .s, .val .str, .val .str]
abbrev res63 : List (K × Mk) := [(.bool, .s)]
def f_impl_Meta_meets (x : (DMeta × ByteArray × ByteArray × Unit)) : Option ((Bool × Unit) × (DMeta × Unit)) :=
 (cond (slt x.1.2.2.1 x.2.2.1 || seq x.1.2.2.1 x.2.2.1)
 (some (((slt x.2.1 x.1.2.2.2.1 || seq x.2.1 x.1.2.2.2.1), ()), (x.1, ())))
 (some ((false, ()), (x.1, ()))))
def sg63 : Sig := ⟨ins63, res63, f_impl_Meta_meets⟩
abbrev ins62 : List Pm := [.val kdMeta, .rp kdMeta]
abbrev res62 : List (K × Mk) := [(.bool, .s)]
def f_impl_GoodVersion_1 (x : (DMeta × DMeta × Unit)) : Option ((Bool × Unit) × Unit) :=
 (cond (ieq x.1.2.1 x.2.1.2.1)
 (bnd (f_impl_Meta_meets (x.1, (x.2.1.2.2.1, (x.2.1.2.2.2.1, ())))) fun r1 => (some ((r1.1.1, ()), ())))
 (some ((false, ()), ())))
def sg62 : Sig := ⟨ins62, res62, f_impl_GoodVersion_1⟩
abbrev ins107 : List Pm := [.val (.sl kdMeta), .fn [kdMeta] [.bool]]
abbrev res107 : List (K × Mk) := [((.int .i64), .s)]
abbrev f_slices_IndexFunc_Meta_l2c : Desc := ⟨[(0, .v (.sl kdMeta)), (1, .fv [kdMeta] [.bool]), (7, .v (.int .i64))], []⟩
abbrev f_slices_IndexFunc_Meta_l2v : Desc := ⟨[(8, .v (.int .i64))], []⟩
abbrev f_slices_IndexFunc_Meta_l2e : List (Ek × Desc) := [(.ret, ⟨[(4, .v (.int .i64))], []⟩), (.exit 0, ⟨[], []⟩)]
def f_slices_IndexFunc_Meta_l2 (R : Type) (c : (((List DMeta) × ((DMeta × Unit) → Option (Bool × Unit)) × Int × Unit) × Unit)) (v : ((Int × Unit) × Unit)) (kk : (((List DMeta) × ((DMeta × Unit) → Option (Bool × Unit)) × Int × Unit) × Unit) → (((Int × Unit) × Unit) ⊕ (((Int × Unit) × Unit) ⊕ (Unit × Unit))) → Option R) : Option R :=
 (cond (ilt v.1.1 c.1.2.2.1)
 (getO c.1.1 v.1.1 fun v1 => (bnd (c.1.2.1 (v1, ())) fun r2 => (cond r2.1
 (kk ((c.1.1, (c.1.2.1, (c.1.2.2.1, ()))), ()) (.inr (.inl ((v.1.1, ()), ()))))
 (kk ((c.1.1, (c.1.2.1, (c.1.2.2.1, ()))), ()) (.inl (((iadd .i64 v.1.1 (1 : Int)), ()), ()))))))
 (kk ((c.1.1, (c.1.2.1, (c.1.2.2.1, ()))), ()) (.inr (.inr ((), ())))))
def f_slices_IndexFunc_Meta (x : ((List DMeta) × ((DMeta × Unit) → Option (Bool × Unit)) × Unit)) : Option ((Int × Unit) × Unit) :=
 (loopF (c := f_slices_IndexFunc_Meta_l2c) (v := f_slices_IndexFunc_Meta_l2v) (ex := f_slices_IndexFunc_Meta_l2e) f_slices_IndexFunc_Meta_l2 _ ((x.1, (x.2.1, ((llen x.1), ()))), ()) (((0 : Int), ()), ()) fun c3 o4 =>
 (match o4 with
 | .inl y5 => (some ((y5.1.1, ()), ()))
 | .inr z6 => (some (((-1 : Int), ()), ()))))
def sg107 : Sig := ⟨ins107, res107, f_slices_IndexFunc_Meta⟩
abbrev ins61 : List Pm := [.val (.sl kdMeta), .fn [kdMeta] [.bool]]
abbrev res61 : List (K × Mk) := [(.bool, .s)]
def f_slices_ContainsFunc_Meta (x : ((List DMeta) × ((DMeta × Unit) → Option (Bool × Unit)) × Unit)) : Option ((Bool × Unit) × Unit) :=
 (bnd (f_slices_IndexFunc_Meta (x.1, (x.2.1, ()))) fun r1 => (some (((ile (0 : Int) r1.1.1), ()), ())))
def sg61 : Sig := ⟨ins61, res61, f_slices_ContainsFunc_Meta⟩
abbrev ins18 : List Pm := [.val kdVersion]
abbrev res18 : List (K × Mk) := [(.bool, .s)]
abbrev f_impl_GoodVersion_l4c : Desc := ⟨[(1, .ptr 1 []), (18, .v (.sl kdMeta)), (19, .v (.int .i64))], [(1, ⟨kdVersion, .s, true⟩)]⟩
abbrev f_impl_GoodVersion_l4v : Desc := ⟨[(20, .v (.int .i64))], []⟩
abbrev f_impl_GoodVersion_l4e : List (Ek × Desc) := [(.ret, ⟨[(2, .v .bool)], []⟩), (.exit 0, ⟨[], []⟩)]
def f_impl_GoodVersion_l4 (R : Type) (c : (((List DMeta) × Int × Unit) × (DVersion × Unit))) (v : ((Int × Unit) × Unit)) (kk : (((List DMeta) × Int × Unit) × (DVersion × Unit)) → (((Int × Unit) × Unit) ⊕ (((Bool × Unit) × Unit) ⊕ (Unit × Unit))) → Option R) : Option R :=
 (cond (ilt v.1.1 c.1.2.1)
 (getO c.1.1 v.1.1 fun v3 => (cond (ile c.2.1.1 v3.1)
 (kk ((c.1.1, (c.1.2.1, ())), (c.2.1, ())) (.inr (.inl ((false, ()), ()))))
 (cond (ilt (0 : Int) v3.2.1)
 (req (decide ((0 : Int) ≤ v.1.1) && decide (v.1.1 ≤ ((List.length c.2.1.2.2.1) : Int))) (bnd (f_slices_ContainsFunc_Meta ((List.take ((Int.toNat v.1.1) - (0 : Nat)) (List.drop (0 : Nat) c.2.1.2.2.1)), ((fun z => (bnd (f_impl_GoodVersion_1 (z.1, (v3, ()))) fun r => (some r.1))), ()))) fun r4 => (cond r4.1.1
 (kk ((c.1.1, (c.1.2.1, ())), (c.2.1, ())) (.inr (.inl ((false, ()), ()))))
 (kk ((c.1.1, (c.1.2.1, ())), (c.2.1, ())) (.inl (((iadd .i64 v.1.1 (1 : Int)), ()), ()))))))
 (kk ((c.1.1, (c.1.2.1, ())), (c.2.1, ())) (.inl (((iadd .i64 v.1.1 (1 : Int)), ()), ()))))))
 (kk ((c.1.1, (c.1.2.1, ())), (c.2.1, ())) (.inr (.inr ((), ())))))
def f_impl_GoodVersion (x : (DVersion × Unit)) : Option ((Bool × Unit) × Unit) :=
 (bnd (f_impl_nextOk (x.1.1, (x.1.2.1, ()))) fun r1 => (cond (!r1.1.1)
 (some ((false, ()), ()))
 (bnd (f_impl_metasOk (x.1.2.2.1, ())) fun r2 => (cond (!r2.1.1)
 (some ((false, ()), ()))
 (loopF (c := f_impl_GoodVersion_l4c) (v := f_impl_GoodVersion_l4v) (ex := f_impl_GoodVersion_l4e) f_impl_GoodVersion_l4 _ ((x.1.2.2.1, ((llen x.1.2.2.1), ())), (x.1, ())) (((0 : Int), ()), ()) fun c5 o6 =>
 (match o6 with
 | .inl y7 => (some ((y7.1.1, ()), ()))
 | .inr z8 => (some ((true, ()), ()))))))))
def sg18 : Sig := ⟨ins18, res18, f_impl_GoodVersion⟩
abbrev ins64 : List Pm := [.val (.sl kdMeta)]
abbrev res64 : List (K × Mk) := [((.sl kdMeta), (.o .s))]
def f_slices_Clone_Meta (x : ((List DMeta) × Unit)) : Option (((List DMeta) × Unit) × Unit) :=
 (cond (Nat.beq (List.length x.1) 0)
 (bothK
 (some ((([] : List DMeta), ()), ()))
 (req (decide (List.length x.1 ≤ 17179869184)) (some ((x.1, ()), ()))))
 (req (decide (List.length x.1 ≤ 17179869184)) (some ((x.1, ()), ()))))
def sg64 : Sig := ⟨ins64, res64, f_slices_Clone_Meta⟩
abbrev ins108 : List Pm := [.val kdMeta, .rp (.int .i64)]
abbrev res108 : List (K × Mk) := [(.bool, .s)]
def f_impl_metaAt_1 (x : (DMeta × Int × Unit)) : Option ((Bool × Unit) × Unit) :=
 (some (((ieq x.1.1 x.2.1), ()), ()))
def sg108 : Sig := ⟨ins108, res108, f_impl_metaAt_1⟩
abbrev ins65 : List Pm := [.val (.sl kdMeta), .val (.int .i64)]
abbrev res65 : List (K × Mk) := [((.int .i64), .s)]
def f_impl_metaAt (x : ((List DMeta) × Int × Unit)) : Option ((Int × Unit) × Unit) :=
 (bnd (f_slices_IndexFunc_Meta (x.1, ((fun z => (bnd (f_impl_metaAt_1 (z.1, (x.2.1, ()))) fun r => (some r.1))), ()))) fun r1 => (some ((r1.1.1, ()), ())))
def sg65 : Sig := ⟨ins65, res65, f_impl_metaAt⟩
abbrev ins111 : List Pm := [.val (.int .i64)]
abbrev res111 : List (K × Mk) := [(.bool, .s)]
def f_cmp_isNaN_int (x : (Int × Unit)) : Option ((Bool × Unit) × Unit) :=
 (some (((!ieq x.1 x.1), ()), ()))
def sg111 : Sig := ⟨ins111, res111, f_cmp_isNaN_int⟩
abbrev ins69 : List Pm := [.val (.int .i64), .val (.int .i64)]
abbrev res69 : List (K × Mk) := [((.int .i64), .s)]
def f_cmp_Compare_int (x : (Int × Int × Unit)) : Option ((Int × Unit) × Unit) :=
 (bnd (f_cmp_isNaN_int (x.1, ())) fun r1 => (bnd (f_cmp_isNaN_int (x.2.1, ())) fun r2 => (cond r1.1.1
 (cond r2.1.1
 (some (((0 : Int), ()), ()))
 (some (((-1 : Int), ()), ())))
 (cond r2.1.1
 (some (((1 : Int), ()), ()))
 (cond (ilt x.1 x.2.1)
 (some (((-1 : Int), ()), ()))
 (cond (ilt x.2.1 x.1)
 (some (((1 : Int), ()), ()))
 (some (((0 : Int), ()), ()))))))))
def sg69 : Sig := ⟨ins69, res69, f_cmp_Compare_int⟩
abbrev ins68 : List Pm := [.val kdMeta, .val kdMeta]
abbrev res68 : List (K × Mk) := [((.int .i64), .s)]
def f_impl_ApplyEdit_1 (x : (DMeta × DMeta × Unit)) : Option ((Int × Unit) × Unit) :=
 (bnd (f_cmp_Compare_int (x.1.1, (x.2.1.1, ()))) fun r1 => (some ((r1.1.1, ()), ())))
def sg68 : Sig := ⟨ins68, res68, f_impl_ApplyEdit_1⟩
abbrev ins23 : List Pm := [.val kdVersion, .val kdEdit]
abbrev res23 : List (K × Mk) := [(kdVersion, (.pr .s (.pr .s (.pr (.o .s) .s)))), (.bool, .s)]
abbrev f_impl_ApplyEdit_l5c : Desc := ⟨[(3, .ptr 3 []), (4, .ptr 4 []), (6, .ptr 6 []), (44, .v (.sl (.int .i64))), (45, .v (.int .i64))], [(3, ⟨kdEdit, .s, true⟩)]⟩
abbrev f_impl_ApplyEdit_l5v : Desc := ⟨[(46, .v (.int .i64))], [(4, ⟨kdVersion, (.pr .s (.pr .s (.pr (.o .s) .s))), true⟩), (6, ⟨kdVersion, (.pr .s (.pr .s (.pr (.o .s) .s))), true⟩)]⟩
abbrev f_impl_ApplyEdit_l5e : List (Ek × Desc) := [(.ret, ⟨[(5, .v .bool)], [(4, ⟨kdVersion, (.pr .s (.pr .s (.pr (.o .s) .s))), true⟩), (6, ⟨kdVersion, (.pr .s (.pr .s (.pr (.o .s) .s))), true⟩)]⟩), (.exit 0, ⟨[], [(4, ⟨kdVersion, (.pr .s (.pr .s (.pr (.o .s) .s))), true⟩), (6, ⟨kdVersion, (.pr .s (.pr .s (.pr (.o .s) .s))), true⟩)]⟩)]
def f_impl_ApplyEdit_l5 (R : Type) (c : (((List Int) × Int × Unit) × (DEdit × Unit))) (v : ((Int × Unit) × (DVersion × DVersion × Unit))) (kk : (((List Int) × Int × Unit) × (DEdit × Unit)) → (((Int × Unit) × (DVersion × DVersion × Unit)) ⊕ (((Bool × Unit) × (DVersion × DVersion × Unit)) ⊕ (Unit × (DVersion × DVersion × Unit)))) → Option R) : Option R :=
 (cond (ilt v.1.1 c.1.2.1)
 (getO c.1.1 v.1.1 fun v4 => (bnd (f_impl_metaAt (v.2.2.1.2.2.1, (v4, ()))) fun r5 => (cond (ilt r5.1.1 (0 : Int))
 (kk ((c.1.1, (c.1.2.1, ())), (c.2.1, ())) (.inr (.inl ((false, ()), (((0 : Int), ((0 : Int), (([] : List DMeta), ()))), (v.2.2.1, ()))))))
 (bnd ((f_slices_Delete kdMeta) (v.2.2.1.2.2.1, (r5.1.1, ((iadd .i64 r5.1.1 (1 : Int)), ())))) fun r6 => (kk ((c.1.1, (c.1.2.1, ())), (c.2.1, ())) (.inl (((iadd .i64 v.1.1 (1 : Int)), ()), (v.2.1, ((v.2.2.1.1, (v.2.2.1.2.1, (r6.1.1, v.2.2.1.2.2.2))), ())))))))))
 (kk ((c.1.1, (c.1.2.1, ())), (c.2.1, ())) (.inr (.inr ((), (v.2.1, (v.2.2.1, ())))))))
abbrev f_impl_ApplyEdit_l13c : Desc := ⟨[(4, .ptr 4 []), (6, .ptr 6 []), (66, .v (.sl kdMeta)), (67, .v (.int .i64))], []⟩
abbrev f_impl_ApplyEdit_l13v : Desc := ⟨[(68, .v (.int .i64))], [(4, ⟨kdVersion, (.pr .s (.pr .s (.pr (.o .s) .s))), true⟩), (6, ⟨kdVersion, (.pr .s (.pr .s (.pr (.o .s) .s))), true⟩)]⟩
abbrev f_impl_ApplyEdit_l13e : List (Ek × Desc) := [(.ret, ⟨[(5, .v .bool)], [(4, ⟨kdVersion, (.pr .s (.pr .s (.pr (.o .s) .s))), true⟩), (6, ⟨kdVersion, (.pr .s (.pr .s (.pr (.o .s) .s))), true⟩)]⟩), (.exit 2, ⟨[], [(4, ⟨kdVersion, (.pr .s (.pr .s (.pr (.o .s) .s))), true⟩), (6, ⟨kdVersion, (.pr .s (.pr .s (.pr (.o .s) .s))), true⟩)]⟩)]
def f_impl_ApplyEdit_l13 (R : Type) (c : (((List DMeta) × Int × Unit) × Unit)) (v : ((Int × Unit) × (DVersion × DVersion × Unit))) (kk : (((List DMeta) × Int × Unit) × Unit) → (((Int × Unit) × (DVersion × DVersion × Unit)) ⊕ (((Bool × Unit) × (DVersion × DVersion × Unit)) ⊕ (Unit × (DVersion × DVersion × Unit)))) → Option R) : Option R :=
 (cond (ilt v.1.1 c.1.2.1)
 (getO c.1.1 v.1.1 fun v11 => (bnd (f_impl_metaAt (v.2.2.1.2.2.1, (v11.1, ()))) fun r12 => (cond (ile (0 : Int) r12.1.1)
 (kk ((c.1.1, (c.1.2.1, ())), ()) (.inr (.inl ((false, ()), (((0 : Int), ((0 : Int), (([] : List DMeta), ()))), (v.2.2.1, ()))))))
 (req (decide (List.length v.2.2.1.2.2.1 + List.length [v11] ≤ 17179869184)) (kk ((c.1.1, (c.1.2.1, ())), ()) (.inl (((iadd .i64 v.1.1 (1 : Int)), ()), (v.2.1, ((v.2.2.1.1, (v.2.2.1.2.1, ((v.2.2.1.2.2.1 ++ [v11]), v.2.2.1.2.2.2))), ())))))))))
 (kk ((c.1.1, (c.1.2.1, ())), ()) (.inr (.inr ((), (v.2.1, (v.2.2.1, ())))))))
def f_impl_ApplyEdit (x : (DVersion × DEdit × Unit)) : Option ((DVersion × Bool × Unit) × Unit) :=
 (bnd (f_impl_GoodVersion (x.1, ())) fun r1 => (cond (!r1.1.1)
 (some ((((0 : Int), ((0 : Int), (([] : List DMeta), ()))), (false, ())), ()))
 (bnd (f_impl_goodEdit (x.2.1, ())) fun r2 => (cond (!r2.1.1)
 (some ((((0 : Int), ((0 : Int), (([] : List DMeta), ()))), (false, ())), ()))
 (cond (ilt x.2.1.1 x.1.1)
 (some ((((0 : Int), ((0 : Int), (([] : List DMeta), ()))), (false, ())), ()))
 (cond (ilt x.2.1.2.1 x.1.2.1)
 (some ((((0 : Int), ((0 : Int), (([] : List DMeta), ()))), (false, ())), ()))
 (bnd (f_slices_Clone_Meta (x.1.2.2.1, ())) fun r3 => (loopF (c := f_impl_ApplyEdit_l5c) (v := f_impl_ApplyEdit_l5v) (ex := f_impl_ApplyEdit_l5e) f_impl_ApplyEdit_l5 _ ((x.2.1.2.2.1, ((llen x.2.1.2.2.1), ())), (x.2.1, ())) (((0 : Int), ()), (((0 : Int), ((0 : Int), (([] : List DMeta), ()))), ((x.2.1.1, (x.2.1.2.1, (r3.1.1, ()))), ()))) fun c7 o8 =>
 (match o8 with
 | .inl y9 => (some ((y9.2.1, (y9.1.1, ())), ()))
 | .inr z10 => (loopF (c := f_impl_ApplyEdit_l13c) (v := f_impl_ApplyEdit_l13v) (ex := f_impl_ApplyEdit_l13e) f_impl_ApplyEdit_l13 _ ((c7.2.1.2.2.2.1, ((llen c7.2.1.2.2.2.1), ())), ()) (((0 : Int), ()), (z10.2.1, (z10.2.2.1, ()))) fun c13 o14 =>
 (match o14 with
 | .inl y15 => (some ((y15.2.1, (y15.1.1, ())), ()))
 | .inr z16 => (bnd ((f_slices_SortFunc kdMeta) (z16.2.2.1.2.2.1, ((fun z => (bnd (f_impl_ApplyEdit_1 (z.1, (z.2.1, ()))) fun r => (some r.1))), ()))) fun r17 => (bnd (f_impl_GoodVersion ((z16.2.2.1.1, (z16.2.2.1.2.1, (r17.2.1, z16.2.2.1.2.2.2))), ())) fun r18 => (cond (!r18.1.1)
 (some ((((0 : Int), ((0 : Int), (([] : List DMeta), ()))), (false, ())), ()))
 (some (((z16.2.2.1.1, (z16.2.2.1.2.1, (r17.2.1, z16.2.2.1.2.2.2))), (true, ())), ()))))))))))))))))
def sg23 : Sig := ⟨ins23, res23, f_impl_ApplyEdit⟩
abbrev ins7 : List Pm := [.val .str]
abbrev res7 : List (K × Mk) := [(kdVersion, (.pr .s (.pr .s (.pr (.o .s) .s)))), ((.int .i64), .s), (.bool, .s)]
abbrev f_impl_RecoverVersion_l2c : Desc := ⟨[(2, .ptr 2 []), (5, .ptr 5 [])], [(2, ⟨kdVersion, (.pr .s (.pr .s (.pr (.o .s) .s))), true⟩)]⟩
abbrev f_impl_RecoverVersion_l2v : Desc := ⟨[(0, .v .str), (6, .v (.int .i64))], [(5, ⟨kdVersion, (.pr .s (.pr .s (.pr (.o .s) .s))), true⟩)]⟩
abbrev f_impl_RecoverVersion_l2e : List (Ek × Desc) := [(.exit 0, ⟨[(6, .v (.int .i64))], [(5, ⟨kdVersion, (.pr .s (.pr .s (.pr (.o .s) .s))), true⟩)]⟩)]
def f_impl_RecoverVersion_l2 (R : Type) (c : (Unit × (DVersion × Unit))) (v : ((ByteArray × Int × Unit) × (DVersion × Unit))) (kk : (Unit × (DVersion × Unit)) → (((ByteArray × Int × Unit) × (DVersion × Unit)) ⊕ ((Int × Unit) × (DVersion × Unit))) → Option R) : Option R :=
 (cond (ilt v.1.2.1 (60 : Int))
 (bnd (f_impl_TakeFrame (v.1.1, ())) fun r2 => (cond (!r2.1.2.2.1)
 (kk ((), (c.2.1, ())) (.inr ((v.1.2.1, ()), (v.2.1, ()))))
 (bnd (f_impl_ReadEdit (r2.1.1, ())) fun r3 => (cond (!r3.1.2.1)
 (kk ((), (c.2.1, ())) (.inr ((v.1.2.1, ()), (v.2.1, ()))))
 (bnd (f_impl_ApplyEdit (v.2.1, (r3.1.1, ()))) fun r4 => (cond (!r4.1.2.1)
 (kk ((), (c.2.1, ())) (.inr ((v.1.2.1, ()), (v.2.1, ()))))
 (req (decide ((0 : Int) ≤ r2.1.2.1) && decide (r2.1.2.1 ≤ ((ByteArray.size v.1.1) : Int))) (kk ((), (c.2.1, ())) (.inl (((ByteArray.extract v.1.1 (Int.toNat r2.1.2.1) (ByteArray.size v.1.1)), ((iadd .i64 v.1.2.1 (1 : Int)), ())), (r4.1.1, ())))))))))))
 (kk ((), (c.2.1, ())) (.inr ((v.1.2.1, ()), (v.2.1, ())))))
def f_impl_RecoverVersion (x : (ByteArray × Unit)) : Option ((DVersion × Int × Bool × Unit) × Unit) :=
 (bnd (f_impl_NewVersion ()) fun r1 => (loopF (c := f_impl_RecoverVersion_l2c) (v := f_impl_RecoverVersion_l2v) (ex := f_impl_RecoverVersion_l2e) f_impl_RecoverVersion_l2 _ ((), (((0 : Int), ((0 : Int), (([] : List DMeta), ()))), ())) ((x.1, ((0 : Int), ())), (r1.1.1, ())) fun c5 o6 =>
 (some ((o6.2.1, (o6.1.1, (true, ()))), ()))))
def sg7 : Sig := ⟨ins7, res7, f_impl_RecoverVersion⟩
abbrev ins130 : List Pm := [.val .str]
abbrev res130 : List (K × Mk) := [((.int .i64), .s), ((.int .i64), .s)]
abbrev f_spec_l2Take_l3c : Desc := ⟨[(0, .v .str)], []⟩
abbrev f_spec_l2Take_l3v : Desc := ⟨[(4, .v (.int .i64)), (5, .v (.int .i64))], []⟩
abbrev f_spec_l2Take_l3e : List (Ek × Desc) := [(.ret, ⟨[(2, .v (.int .i64)), (3, .v (.int .i64))], []⟩), (.exit 0, ⟨[], []⟩)]
def f_spec_l2Take_l3 (R : Type) (c : ((ByteArray × Unit) × Unit)) (v : ((Int × Int × Unit) × Unit)) (kk : ((ByteArray × Unit) × Unit) → (((Int × Int × Unit) × Unit) ⊕ (((Int × Int × Unit) × Unit) ⊕ (Unit × Unit))) → Option R) : Option R :=
 (cond (ilt v.1.2.1 (9 : Int))
 (cond (ilt v.1.2.1 (slen c.1.1))
 (getB c.1.1 v.1.2.1 fun v1 => (req (ile (0 : Int) (IntKind.wrap .u64 (imul .i64 (7 : Int) v.1.2.1))) (getB c.1.1 v.1.2.1 fun v2 => (cond (ilt v2 (128 : Int))
 (cond (ilt (0 : Int) v.1.2.1)
 (getB c.1.1 v.1.2.1 fun v3 => (cond (ieq v3 (0 : Int))
 (kk ((c.1.1, ()), ()) (.inr (.inl (((0 : Int), ((0 : Int), ())), ()))))
 (kk ((c.1.1, ()), ()) (.inr (.inl (((ior .i64 v.1.1 (ishl .i64 (IntKind.wrap .i64 (iand .u8 v1 (127 : Int))) (IntKind.wrap .u64 (imul .i64 (7 : Int) v.1.2.1)))), ((iadd .i64 v.1.2.1 (1 : Int)), ())), ()))))))
 (kk ((c.1.1, ()), ()) (.inr (.inl (((ior .i64 v.1.1 (ishl .i64 (IntKind.wrap .i64 (iand .u8 v1 (127 : Int))) (IntKind.wrap .u64 (imul .i64 (7 : Int) v.1.2.1)))), ((iadd .i64 v.1.2.1 (1 : Int)), ())), ())))))
 (kk ((c.1.1, ()), ()) (.inl (((ior .i64 v.1.1 (ishl .i64 (IntKind.wrap .i64 (iand .u8 v1 (127 : Int))) (IntKind.wrap .u64 (imul .i64 (7 : Int) v.1.2.1)))), ((iadd .i64 v.1.2.1 (1 : Int)), ())), ())))))))
 (kk ((c.1.1, ()), ()) (.inr (.inr ((), ())))))
 (kk ((c.1.1, ()), ()) (.inr (.inr ((), ())))))
def f_spec_l2Take (x : (ByteArray × Unit)) : Option ((Int × Int × Unit) × Unit) :=
 (loopF (c := f_spec_l2Take_l3c) (v := f_spec_l2Take_l3v) (ex := f_spec_l2Take_l3e) f_spec_l2Take_l3 _ ((x.1, ()), ()) (((0 : Int), ((0 : Int), ())), ()) fun c4 o5 =>
 (match o5 with
 | .inl y6 => (some ((y6.1.1, (y6.1.2.1, ())), ()))
 | .inr z7 => (some (((0 : Int), ((0 : Int), ())), ()))))
def sg130 : Sig := ⟨ins130, res130, f_spec_l2Take⟩
abbrev ins84 : List Pm := [.val .str]
abbrev res84 : List (K × Mk) := [(.str, .s), ((.int .i64), .s), (.bool, .s)]
def f_spec_l2TakeFrame (x : (ByteArray × Unit)) : Option ((ByteArray × Int × Bool × Unit) × Unit) :=
 (bnd (f_spec_l2Take (x.1, ())) fun r1 => (cond (ieq r1.1.2.1 (0 : Int))
 (some (((⟨#[]⟩ : ByteArray), ((0 : Int), (false, ()))), ()))
 (cond (ilt (1000 : Int) r1.1.1)
 (some (((⟨#[]⟩ : ByteArray), ((0 : Int), (false, ()))), ()))
 (cond (ilt (slen x.1) (iadd .i64 (iadd .i64 r1.1.2.1 (4 : Int)) r1.1.1))
 (some (((⟨#[]⟩ : ByteArray), ((0 : Int), (false, ()))), ()))
 (req (decide ((0 : Int) ≤ (iadd .i64 r1.1.2.1 (4 : Int))) && (decide ((iadd .i64 r1.1.2.1 (4 : Int)) ≤ (iadd .i64 (iadd .i64 r1.1.2.1 (4 : Int)) r1.1.1)) && decide ((iadd .i64 (iadd .i64 r1.1.2.1 (4 : Int)) r1.1.1) ≤ ((ByteArray.size x.1) : Int)))) (bnd (f_spec_l2Sum ((ByteArray.extract x.1 (Int.toNat (iadd .i64 r1.1.2.1 (4 : Int))) (Int.toNat (iadd .i64 (iadd .i64 r1.1.2.1 (4 : Int)) r1.1.1))), ())) fun r2 => (bnd (f_spec_l2Word (r2.1.1, ())) fun r3 => (req (decide ((0 : Int) ≤ r1.1.2.1) && (decide (r1.1.2.1 ≤ (iadd .i64 r1.1.2.1 (4 : Int))) && decide ((iadd .i64 r1.1.2.1 (4 : Int)) ≤ ((ByteArray.size x.1) : Int)))) (cond (!seq r3.1.1 (ByteArray.extract x.1 (Int.toNat r1.1.2.1) (Int.toNat (iadd .i64 r1.1.2.1 (4 : Int)))))
 (some (((⟨#[]⟩ : ByteArray), ((0 : Int), (false, ()))), ()))
 (some (((ByteArray.extract x.1 (Int.toNat (iadd .i64 r1.1.2.1 (4 : Int))) (Int.toNat (iadd .i64 (iadd .i64 r1.1.2.1 (4 : Int)) r1.1.1))), ((iadd .i64 (iadd .i64 r1.1.2.1 (4 : Int)) r1.1.1), (true, ()))), ())))))))))))
def sg84 : Sig := ⟨ins84, res84, f_spec_l2TakeFrame⟩
abbrev ins36 : List Pm := [.val .str]
abbrev res36 : List (K × Mk) := [((.sl .str), (.o .s)), ((.int .i64), .s)]
abbrev f_spec_l2Frames_l3c : Desc := ⟨[(0, .v .str), (4, .al 4 [])], []⟩
abbrev f_spec_l2Frames_l3v : Desc := ⟨[(5, .v (.int .i64))], [(4, ⟨(.sl .str), (.o .s), false⟩)]⟩
abbrev f_spec_l2Frames_l3e : List (Ek × Desc) := [(.exit 0, ⟨[(5, .v (.int .i64))], [(4, ⟨(.sl .str), (.o .s), false⟩)]⟩)]
def f_spec_l2Frames_l3 (R : Type) (c : ((ByteArray × Unit) × Unit)) (v : ((Int × Unit) × ((List ByteArray) × Unit))) (kk : ((ByteArray × Unit) × Unit) → (((Int × Unit) × ((List ByteArray) × Unit)) ⊕ ((Int × Unit) × ((List ByteArray) × Unit))) → Option R) : Option R :=
 (cond (ilt v.1.1 (slen c.1.1))
 (cond (ilt (llen v.2.1) (60 : Int))
 (req (decide ((0 : Int) ≤ v.1.1) && decide (v.1.1 ≤ ((ByteArray.size c.1.1) : Int))) (bnd (f_spec_l2TakeFrame ((ByteArray.extract c.1.1 (Int.toNat v.1.1) (ByteArray.size c.1.1)), ())) fun r1 => (cond (!r1.1.2.2.1)
 (kk ((c.1.1, ()), ()) (.inr ((v.1.1, ()), (v.2.1, ()))))
 (req (decide (List.length v.2.1 + List.length [r1.1.1] ≤ 17179869184)) (kk ((c.1.1, ()), ()) (.inl (((iadd .i64 v.1.1 r1.1.2.1), ()), ((v.2.1 ++ [r1.1.1]), ()))))))))
 (kk ((c.1.1, ()), ()) (.inr ((v.1.1, ()), (v.2.1, ())))))
 (kk ((c.1.1, ()), ()) (.inr ((v.1.1, ()), (v.2.1, ())))))
def f_spec_l2Frames (x : (ByteArray × Unit)) : Option (((List ByteArray) × Int × Unit) × Unit) :=
 (loopF (c := f_spec_l2Frames_l3c) (v := f_spec_l2Frames_l3v) (ex := f_spec_l2Frames_l3e) f_spec_l2Frames_l3 _ ((x.1, ()), ()) (((0 : Int), ()), (([] : List ByteArray), ())) fun c2 o3 =>
 (some ((o3.2.1, (o3.1.1, ())), ())))
def sg36 : Sig := ⟨ins36, res36, f_spec_l2Frames⟩
abbrev ins85 : List Pm := [.mptr kdtaker .s]
abbrev res85 : List (K × Mk) := [((.int .i64), .s)]
def f_spec_l9R_num (x : (Dtaker × Unit)) : Option ((Int × Unit) × (Dtaker × Unit)) :=
 (bnd (f_spec_l2Take (x.1.1, ())) fun r1 => (cond x.1.2.1
 (req (decide ((0 : Int) ≤ r1.1.2.1) && decide (r1.1.2.1 ≤ ((ByteArray.size x.1.1) : Int))) (some ((r1.1.1, ()), (((ByteArray.extract x.1.1 (Int.toNat r1.1.2.1) (ByteArray.size x.1.1)), (true, x.1.2.2)), ()))))
 (req (decide ((0 : Int) ≤ r1.1.2.1) && decide (r1.1.2.1 ≤ ((ByteArray.size x.1.1) : Int))) (some ((r1.1.1, ()), (((ByteArray.extract x.1.1 (Int.toNat r1.1.2.1) (ByteArray.size x.1.1)), ((ieq r1.1.2.1 (0 : Int)), x.1.2.2)), ()))))))
def sg85 : Sig := ⟨ins85, res85, f_spec_l9R_num⟩
abbrev ins86 : List Pm := [.mptr kdtaker .s]
abbrev res86 : List (K × Mk) := [(.str, .s)]
def f_spec_l9R_text (x : (Dtaker × Unit)) : Option ((ByteArray × Unit) × (Dtaker × Unit)) :=
 (bnd (f_spec_l9R_num (x.1, ())) fun r1 => (cond (ilt (slen r1.2.1.1) r1.1.1)
 (some (((⟨#[]⟩ : ByteArray), ()), ((r1.2.1.1, (true, r1.2.1.2.2)), ())))
 (req (decide ((0 : Int) ≤ r1.1.1) && decide (r1.1.1 ≤ ((ByteArray.size r1.2.1.1) : Int))) (req (decide ((0 : Int) ≤ r1.1.1) && decide (r1.1.1 ≤ ((ByteArray.size r1.2.1.1) : Int))) (some (((ByteArray.extract r1.2.1.1 (0 : Nat) (Int.toNat r1.1.1)), ()), (((ByteArray.extract r1.2.1.1 (Int.toNat r1.1.1) (ByteArray.size r1.2.1.1)), r1.2.1.2), ())))))))
def sg86 : Sig := ⟨ins86, res86, f_spec_l9R_text⟩
abbrev ins38 : List Pm := [.val .str]
abbrev res38 : List (K × Mk) := [(kdEdit, (.pr .s (.pr .s (.pr (.o .s) (.pr (.o .s) .s))))), (.bool, .s)]
abbrev f_spec_l9Read_l5c : Desc := ⟨[(0, .v .str), (2, .ptr 2 []), (4, .ptr 11 []), (5, .ptr 5 [])], [(2, ⟨kdEdit, (.pr .s (.pr .s (.pr (.o .s) (.pr (.o .s) .s)))), true⟩)]⟩
abbrev f_spec_l9Read_l5v : Desc := ⟨[(6, .v (.int .i64))], [(5, ⟨kdEdit, (.pr .s (.pr .s (.pr (.o .s) (.pr (.o .s) .s)))), true⟩), (11, ⟨kdtaker, .s, true⟩)]⟩
abbrev f_spec_l9Read_l5e : List (Ek × Desc) := [(.exit 0, ⟨[], [(5, ⟨kdEdit, (.pr .s (.pr .s (.pr (.o .s) (.pr (.o .s) .s)))), true⟩), (11, ⟨kdtaker, .s, true⟩)]⟩)]
def f_spec_l9Read_l5 (R : Type) (c : ((ByteArray × Unit) × (DEdit × Unit))) (v : ((Int × Unit) × (DEdit × Dtaker × Unit))) (kk : ((ByteArray × Unit) × (DEdit × Unit)) → (((Int × Unit) × (DEdit × Dtaker × Unit)) ⊕ (Unit × (DEdit × Dtaker × Unit))) → Option R) : Option R :=
 (cond (ilt (0 : Int) v.1.1)
 (cond (!v.2.2.1.2.1)
 (cond (ile (llen v.2.1.2.2.1) (30 : Int))
 (bnd (f_spec_l9R_num (v.2.2.1, ())) fun r4 => (req (decide (List.length v.2.1.2.2.1 + List.length [r4.1.1] ≤ 17179869184)) (kk ((c.1.1, ()), (c.2.1, ())) (.inl (((isub .i64 v.1.1 (1 : Int)), ()), ((v.2.1.1, (v.2.1.2.1, ((v.2.1.2.2.1 ++ [r4.1.1]), v.2.1.2.2.2))), (r4.2.1, ())))))))
 (kk ((c.1.1, ()), (c.2.1, ())) (.inr ((), (v.2.1, (v.2.2.1, ()))))))
 (kk ((c.1.1, ()), (c.2.1, ())) (.inr ((), (v.2.1, (v.2.2.1, ()))))))
 (kk ((c.1.1, ()), (c.2.1, ())) (.inr ((), (v.2.1, (v.2.2.1, ()))))))
abbrev f_spec_l9Read_l9c : Desc := ⟨[(0, .v .str), (2, .ptr 2 []), (4, .ptr 11 []), (5, .ptr 5 [])], [(2, ⟨kdEdit, (.pr .s (.pr .s (.pr (.o .s) (.pr (.o .s) .s)))), true⟩)]⟩
abbrev f_spec_l9Read_l9v : Desc := ⟨[(7, .v (.int .i64))], [(5, ⟨kdEdit, (.pr .s (.pr .s (.pr (.o .s) (.pr (.o .s) .s)))), true⟩), (11, ⟨kdtaker, .s, true⟩)]⟩
abbrev f_spec_l9Read_l9e : List (Ek × Desc) := [(.exit 2, ⟨[], [(5, ⟨kdEdit, (.pr .s (.pr .s (.pr (.o .s) (.pr (.o .s) .s)))), true⟩), (11, ⟨kdtaker, .s, true⟩)]⟩)]
def f_spec_l9Read_l9 (R : Type) (c : ((ByteArray × Unit) × (DEdit × Unit))) (v : ((Int × Unit) × (DEdit × Dtaker × Unit))) (kk : ((ByteArray × Unit) × (DEdit × Unit)) → (((Int × Unit) × (DEdit × Dtaker × Unit)) ⊕ (Unit × (DEdit × Dtaker × Unit))) → Option R) : Option R :=
 (cond (ilt (0 : Int) v.1.1)
 (cond (!v.2.2.1.2.1)
 (cond (ile (llen v.2.1.2.2.2.1) (30 : Int))
 (bnd (f_spec_l9R_num (v.2.2.1, ())) fun r8 => (bnd (f_spec_l9R_num (r8.2.1, ())) fun r9 => (bnd (f_spec_l9R_text (r9.2.1, ())) fun r10 => (bnd (f_spec_l9R_text (r10.2.1, ())) fun r11 => (req (decide (List.length v.2.1.2.2.2.1 + List.length [(r8.1.1, (r9.1.1, (r10.1.1, (r11.1.1, ()))))] ≤ 17179869184)) (kk ((c.1.1, ()), (c.2.1, ())) (.inl (((isub .i64 v.1.1 (1 : Int)), ()), ((v.2.1.1, (v.2.1.2.1, (v.2.1.2.2.1, ((v.2.1.2.2.2.1 ++ [(r8.1.1, (r9.1.1, (r10.1.1, (r11.1.1, ()))))]), v.2.1.2.2.2.2)))), (r11.2.1, ()))))))))))
 (kk ((c.1.1, ()), (c.2.1, ())) (.inr ((), (v.2.1, (v.2.2.1, ()))))))
 (kk ((c.1.1, ()), (c.2.1, ())) (.inr ((), (v.2.1, (v.2.2.1, ()))))))
 (kk ((c.1.1, ()), (c.2.1, ())) (.inr ((), (v.2.1, (v.2.2.1, ()))))))
def f_spec_l9Read (x : (ByteArray × Unit)) : Option ((DEdit × Bool × Unit) × Unit) :=
 (bnd (f_spec_l9R_num ((x.1, (false, ())), ())) fun r1 => (bnd (f_spec_l9R_num (r1.2.1, ())) fun r2 => (bnd (f_spec_l9R_num (r2.2.1, ())) fun r3 => (loopF (c := f_spec_l9Read_l5c) (v := f_spec_l9Read_l5v) (ex := f_spec_l9Read_l5e) f_spec_l9Read_l5 _ ((x.1, ()), (((0 : Int), ((0 : Int), (([] : List Int), (([] : List DMeta), ())))), ())) ((r3.1.1, ()), ((r1.1.1, (r2.1.1, (([] : List Int), (([] : List DMeta), ())))), (r3.2.1, ()))) fun c5 o6 =>
 (bnd (f_spec_l9R_num (o6.2.2.1, ())) fun r7 => (loopF (c := f_spec_l9Read_l9c) (v := f_spec_l9Read_l9v) (ex := f_spec_l9Read_l9e) f_spec_l9Read_l9 _ ((c5.1.1, ()), (c5.2.1, ())) ((r7.1.1, ()), (o6.2.1, (r7.2.1, ()))) fun c12 o13 =>
 (cond o13.2.2.1.2.1
 (some ((((0 : Int), ((0 : Int), (([] : List Int), (([] : List DMeta), ())))), (false, ())), ()))
 (cond (!seq o13.2.2.1.1 (⟨#[]⟩ : ByteArray))
 (some ((((0 : Int), ((0 : Int), (([] : List Int), (([] : List DMeta), ())))), (false, ())), ()))
 (bnd (f_spec_l9Edit (o13.2.1, ())) fun r14 => (cond (!r14.1.1)
 (some ((((0 : Int), ((0 : Int), (([] : List Int), (([] : List DMeta), ())))), (false, ())), ()))
 (bnd (f_spec_l9Bytes (o13.2.1, ())) fun r15 => (cond (!seq r15.1.1 c12.1.1)
 (some ((((0 : Int), ((0 : Int), (([] : List Int), (([] : List DMeta), ())))), (false, ())), ()))
 (some ((o13.2.1, (true, ())), ()))))))))))))))
def sg38 : Sig := ⟨ins38, res38, f_spec_l9Read⟩
abbrev ins6 : List Pm := [.val .str]
abbrev res6 : List (K × Mk) := [(kdVersion, (.pr .s (.pr .s (.pr (.o .s) .s)))), ((.int .i64), .s), (.bool, .s)]
abbrev f_spec_RecoverVersion_l4c : Desc := ⟨[(2, .ptr 2 []), (5, .al 5 []), (7, .ptr 7 []), (20, .al 5 []), (21, .v (.int .i64))], [(5, ⟨(.sl .str), (.o .s), false⟩)]⟩
abbrev f_spec_RecoverVersion_l4v : Desc := ⟨[(22, .v (.int .i64))], [(2, ⟨kdVersion, (.pr .s (.pr .s (.pr (.o .s) .s))), true⟩), (7, ⟨kdVersion, (.pr .s (.pr .s (.pr (.o .s) .s))), true⟩)]⟩
abbrev f_spec_RecoverVersion_l4e : List (Ek × Desc) := [(.ret, ⟨[(3, .v (.int .i64)), (4, .v .bool)], [(2, ⟨kdVersion, (.pr .s (.pr .s (.pr (.o .s) .s))), true⟩), (7, ⟨kdVersion, .d, true⟩)]⟩), (.exit 0, ⟨[], [(2, ⟨kdVersion, (.pr .s (.pr .s (.pr (.o .s) .s))), true⟩), (7, ⟨kdVersion, (.pr .s (.pr .s (.pr (.o .s) .s))), true⟩)]⟩)]
def f_spec_RecoverVersion_l4 (R : Type) (c : ((Int × Unit) × ((List ByteArray) × Unit))) (v : ((Int × Unit) × (DVersion × DVersion × Unit))) (kk : ((Int × Unit) × ((List ByteArray) × Unit)) → (((Int × Unit) × (DVersion × DVersion × Unit)) ⊕ (((Int × Bool × Unit) × (DVersion × DVersion × Unit)) ⊕ (Unit × (DVersion × DVersion × Unit)))) → Option R) : Option R :=
 (cond (ilt v.1.1 c.1.1)
 (getO c.2.1 v.1.1 fun _ => (bnd (c.2.1[(Int.toNat v.1.1)]?) fun v4 => (bnd (f_spec_l9Read (v4, ())) fun r5 => (cond (!r5.1.2.1)
 (kk ((c.1.1, ()), (c.2.1, ())) (.inr (.inl ((v.1.1, (true, ())), (v.2.2.1, (v.2.2.1, ()))))))
 (bnd (f_spec_l9Apply (v.2.2.1, (r5.1.1, ()))) fun r6 => (cond (!r6.1.2.1)
 (kk ((c.1.1, ()), (c.2.1, ())) (.inr (.inl ((v.1.1, (true, ())), (v.2.2.1, (v.2.2.1, ()))))))
 (kk ((c.1.1, ()), (c.2.1, ())) (.inl (((iadd .i64 v.1.1 (1 : Int)), ()), (v.2.1, (r6.1.1, ())))))))))))
 (kk ((c.1.1, ()), (c.2.1, ())) (.inr (.inr ((), (v.2.1, (v.2.2.1, ())))))))
def f_spec_RecoverVersion (x : (ByteArray × Unit)) : Option ((DVersion × Int × Bool × Unit) × Unit) :=
 (bnd (f_spec_l2Frames (x.1, ())) fun r1 => (bnd (f_spec_NewVersion ()) fun r2 => (loopF (c := f_spec_RecoverVersion_l4c) (v := f_spec_RecoverVersion_l4v) (ex := f_spec_RecoverVersion_l4e) f_spec_RecoverVersion_l4 _ (((llen r1.1.1), ()), (r1.1.1, ())) (((0 : Int), ()), (((0 : Int), ((0 : Int), (([] : List DMeta), ()))), (r2.1.1, ()))) fun c7 o8 =>
 (match o8 with
 | .inl y9 => (some ((y9.2.1, (y9.1.1, (y9.1.2.1, ()))), ()))
 | .inr z10 => (some ((z10.2.2.1, ((llen c7.2.1), (true, ()))), ()))))))
def sg6 : Sig := ⟨ins6, res6, f_spec_RecoverVersion⟩
abbrev ins17 : List Pm := [.val kdVersion, .val kdVersion]
abbrev res17 : List (K × Mk) := [(.bool, .s)]
abbrev f_laws_sameVersions_l4c : Desc := ⟨[(2, .ptr 2 []), (3, .ptr 3 []), (29, .v (.int .i64))], [(2, ⟨kdVersion, .s, true⟩), (3, ⟨kdVersion, .s, true⟩)]⟩
abbrev f_laws_sameVersions_l4v : Desc := ⟨[(30, .v (.int .i64))], []⟩
abbrev f_laws_sameVersions_l4e : List (Ek × Desc) := [(.ret, ⟨[(4, .v .bool)], []⟩), (.exit 0, ⟨[], []⟩)]
def f_laws_sameVersions_l4 (R : Type) (c : ((Int × Unit) × (DVersion × DVersion × Unit))) (v : ((Int × Unit) × Unit)) (kk : ((Int × Unit) × (DVersion × DVersion × Unit)) → (((Int × Unit) × Unit) ⊕ (((Bool × Unit) × Unit) ⊕ (Unit × Unit))) → Option R) : Option R :=
 (cond (ilt v.1.1 c.1.1)
 (getO c.2.1.2.2.1 v.1.1 fun v1 => (getO c.2.2.1.2.2.1 v.1.1 fun v2 => (cond (!(eqK kdMeta v1 v2))
 (kk ((c.1.1, ()), (c.2.1, (c.2.2.1, ()))) (.inr (.inl ((false, ()), ()))))
 (kk ((c.1.1, ()), (c.2.1, (c.2.2.1, ()))) (.inl (((iadd .i64 v.1.1 (1 : Int)), ()), ()))))))
 (kk ((c.1.1, ()), (c.2.1, (c.2.2.1, ()))) (.inr (.inr ((), ())))))
def f_laws_sameVersions (x : (DVersion × DVersion × Unit)) : Option ((Bool × Unit) × Unit) :=
 (cond (!ieq x.1.1 x.2.1.1)
 (some ((false, ()), ()))
 (cond (!ieq x.1.2.1 x.2.1.2.1)
 (some ((false, ()), ()))
 (cond (!ieq (llen x.1.2.2.1) (llen x.2.1.2.2.1))
 (some ((false, ()), ()))
 (loopF (c := f_laws_sameVersions_l4c) (v := f_laws_sameVersions_l4v) (ex := f_laws_sameVersions_l4e) f_laws_sameVersions_l4 _ (((llen x.1.2.2.1), ()), (x.1, (x.2.1, ()))) (((0 : Int), ()), ()) fun c3 o4 =>
 (match o4 with
 | .inl y5 => (some ((y5.1.1, ()), ()))
 | .inr z6 => (some ((true, ()), ())))))))
def sg17 : Sig := ⟨ins17, res17, f_laws_sameVersions⟩
abbrev ins19 : List Pm := [.val (.sl (.int .u8))]
abbrev res19 : List (K × Mk) := [((.int .i64), .s)]
abbrev f_laws_numberOf_l3c : Desc := ⟨[(6, .v (.sl (.int .u8))), (7, .v (.int .i64))], []⟩
abbrev f_laws_numberOf_l3v : Desc := ⟨[(3, .v (.int .i64)), (8, .v (.int .i64))], []⟩
abbrev f_laws_numberOf_l3e : List (Ek × Desc) := [(.exit 0, ⟨[(3, .v (.int .i64))], []⟩)]
def f_laws_numberOf_l3 (R : Type) (c : (((List Int) × Int × Unit) × Unit)) (v : ((Int × Int × Unit) × Unit)) (kk : (((List Int) × Int × Unit) × Unit) → (((Int × Int × Unit) × Unit) ⊕ ((Int × Unit) × Unit)) → Option R) : Option R :=
 (cond (ilt v.1.2.1 c.1.2.1)
 (getO c.1.1 v.1.2.1 fun v1 => (kk ((c.1.1, (c.1.2.1, ())), ()) (.inl (((irem .i64 (iadd .i64 (imul .i64 (31 : Int) v.1.1) (IntKind.wrap .i64 v1)) (1000003 : Int)), ((iadd .i64 v.1.2.1 (1 : Int)), ())), ()))))
 (kk ((c.1.1, (c.1.2.1, ())), ()) (.inr ((v.1.1, ()), ()))))
def f_laws_numberOf (x : ((List Int) × Unit)) : Option ((Int × Unit) × Unit) :=
 (loopF (c := f_laws_numberOf_l3c) (v := f_laws_numberOf_l3v) (ex := f_laws_numberOf_l3e) f_laws_numberOf_l3 _ ((x.1, ((llen x.1), ())), ()) (((0 : Int), ((0 : Int), ())), ()) fun c2 o3 =>
 (some ((o3.1.1, ()), ())))
def sg19 : Sig := ⟨ins19, res19, f_laws_numberOf⟩
abbrev ins21 : List Pm := [.val .str]
abbrev res21 : List (K × Mk) := [((.sl .str), (.o .s)), ((.int .i64), .s), (.bool, .s)]
def f_spec_ReadFrames (x : (ByteArray × Unit)) : Option (((List ByteArray) × Int × Bool × Unit) × Unit) :=
 (bnd (f_spec_l2Frames (x.1, ())) fun r1 => (some ((r1.1.1, (r1.1.2.1, ((ieq r1.1.2.1 (slen x.1)), ()))), ())))
def sg21 : Sig := ⟨ins21, res21, f_spec_ReadFrames⟩
abbrev ins22 : List Pm := [.val .str]
abbrev res22 : List (K × Mk) := [(kdEdit, (.pr .s (.pr .s (.pr (.o .s) (.pr (.o .s) .s))))), (.bool, .s)]
def f_spec_ReadEdit (x : (ByteArray × Unit)) : Option ((DEdit × Bool × Unit) × Unit) :=
 (cond (ilt (1000 : Int) (slen x.1))
 (some ((((0 : Int), ((0 : Int), (([] : List Int), (([] : List DMeta), ())))), (false, ())), ()))
 (bnd (f_spec_l9Read (x.1, ())) fun r1 => (some ((r1.1.1, (r1.1.2.1, ())), ()))))
def sg22 : Sig := ⟨ins22, res22, f_spec_ReadEdit⟩
abbrev ins4 : List Pm := [.val (.sl (.int .u8)), .val (.sl (.int .u8))]
abbrev res4 : List (K × Mk) := [(.bool, .s)]
abbrev f_laws_FnRecovered_i9c : Desc := ⟨[(0, .v (.sl (.int .u8))), (1, .v (.sl (.int .u8))), (5, .ptr 5 []), (6, .v .str), (60, .v .bool)], [(5, ⟨kdEdit, (.pr .s (.pr .s (.pr (.o .s) (.pr (.o .s) .s)))), true⟩)]⟩
abbrev f_laws_FnRecovered_i9v : Desc := ⟨[], []⟩
abbrev f_laws_FnRecovered_i9e : List (Ek × Desc) := [(.ret, ⟨[(4, .v .bool)], []⟩), (.norm, ⟨[], []⟩)]
def f_laws_FnRecovered_i9 (R : Type) (c : (((List Int) × (List Int) × ByteArray × Bool × Unit) × (DEdit × Unit))) (v : (Unit × Unit)) (kk : (((List Int) × (List Int) × ByteArray × Bool × Unit) × (DEdit × Unit)) → (((Bool × Unit) × Unit) ⊕ (Unit × Unit)) → Option R) : Option R :=
 (cond c.1.2.2.2.1
 (bnd (f_impl_ReadEdit (c.1.2.2.1, ())) fun r4 => (bnd (f_impl_EditBytes (r4.1.1, ())) fun r5 => (cond (!r4.1.2.1)
 (kk ((c.1.1, (c.1.2.1, (c.1.2.2.1, (c.1.2.2.2.1, ())))), (c.2.1, ())) (.inl ((false, ()), ())))
 (cond (!r5.1.2.1)
 (kk ((c.1.1, (c.1.2.1, (c.1.2.2.1, (c.1.2.2.2.1, ())))), (c.2.1, ())) (.inl ((false, ()), ())))
 (cond (!seq r5.1.1 c.1.2.2.1)
 (kk ((c.1.1, (c.1.2.1, (c.1.2.2.1, (c.1.2.2.2.1, ())))), (c.2.1, ())) (.inl ((false, ()), ())))
 (cond (!ieq r4.1.1.1 c.2.1.1)
 (kk ((c.1.1, (c.1.2.1, (c.1.2.2.1, (c.1.2.2.2.1, ())))), (c.2.1, ())) (.inl ((false, ()), ())))
 (bnd (f_laws_sameInts (r4.1.1.2.2.1, (c.2.1.2.2.1, ()))) fun r6 => (cond (!r6.1.1)
 (kk ((c.1.1, (c.1.2.1, (c.1.2.2.1, (c.1.2.2.2.1, ())))), (c.2.1, ())) (.inl ((false, ()), ())))
 (kk ((c.1.1, (c.1.2.1, (c.1.2.2.1, (c.1.2.2.2.1, ())))), (c.2.1, ())) (.inr ((), ())))))))))))
 (kk ((c.1.1, (c.1.2.1, (c.1.2.2.1, (c.1.2.2.2.1, ())))), (c.2.1, ())) (.inr ((), ()))))
abbrev f_laws_FnRecovered_i20c : Desc := ⟨[(0, .v (.sl (.int .u8))), (14, .v .str), (16, .v (.int .i64)), (19, .v (.int .i64)), (132, .v .bool)], []⟩
abbrev f_laws_FnRecovered_i20v : Desc := ⟨[(21, .v (.int .i64))], []⟩
abbrev f_laws_FnRecovered_i20e : List (Ek × Desc) := [(.norm, ⟨[(21, .v (.int .i64))], []⟩)]
def f_laws_FnRecovered_i20 (R : Type) (c : (((List Int) × ByteArray × Int × Int × Bool × Unit) × Unit)) (v : ((Int × Unit) × Unit)) (kk : (((List Int) × ByteArray × Int × Int × Bool × Unit) × Unit) → ((Int × Unit) × Unit) → Option R) : Option R :=
 (cond c.1.2.2.2.2.1
 (bnd (f_laws_numberOf (c.1.1, ())) fun r16 => (req (!decide ((iadd .i64 (slen c.1.2.1) (1 : Int)) = (0 : Int))) (kk ((c.1.1, (c.1.2.1, (c.1.2.2.1, (c.1.2.2.2.1, (c.1.2.2.2.2.1, ()))))), ()) (((irem .i64 r16.1.1 (iadd .i64 (slen c.1.2.1) (1 : Int))), ()), ()))))
 (kk ((c.1.1, (c.1.2.1, (c.1.2.2.1, (c.1.2.2.2.1, (c.1.2.2.2.2.1, ()))))), ()) ((v.1.1, ()), ())))
abbrev f_laws_FnRecovered_l27c : Desc := ⟨[(16, .v (.int .i64)), (22, .ptr 22 []), (23, .v (.int .i64)), (24, .v .bool), (25, .ptr 25 []), (26, .al 26 [])], [(22, ⟨kdVersion, (.pr .s (.pr .s (.pr (.o .s) .s))), true⟩), (26, ⟨(.sl .str), (.o .s), false⟩)]⟩
abbrev f_laws_FnRecovered_l27v : Desc := ⟨[(29, .v (.int .i64))], [(25, ⟨kdVersion, (.pr .s (.pr .s (.pr (.o .s) .s))), true⟩)]⟩
abbrev f_laws_FnRecovered_l27e : List (Ek × Desc) := [(.ret, ⟨[(4, .v .bool)], [(25, ⟨kdVersion, (.pr .s (.pr .s (.pr (.o .s) .s))), true⟩)]⟩), (.exit 0, ⟨[], [(25, ⟨kdVersion, (.pr .s (.pr .s (.pr (.o .s) .s))), true⟩)]⟩)]
def f_laws_FnRecovered_l27 (R : Type) (c : ((Int × Int × Bool × Unit) × (DVersion × (List ByteArray) × Unit))) (v : ((Int × Unit) × (DVersion × Unit))) (kk : ((Int × Int × Bool × Unit) × (DVersion × (List ByteArray) × Unit)) → (((Int × Unit) × (DVersion × Unit)) ⊕ (((Bool × Unit) × (DVersion × Unit)) ⊕ (Unit × (DVersion × Unit)))) → Option R) : Option R :=
 (cond (ilt v.1.1 c.1.2.1)
 (getO c.2.2.1 v.1.1 fun _ => (bnd (c.2.2.1[(Int.toNat v.1.1)]?) fun v23 => (bnd (f_spec_ReadEdit (v23, ())) fun r24 => (bnd (f_impl_ApplyEdit (v.2.1, (r24.1.1, ()))) fun r25 => (cond (!r24.1.2.1)
 (kk ((c.1.1, (c.1.2.1, (c.1.2.2.1, ()))), (c.2.1, (c.2.2.1, ()))) (.inr (.inl ((false, ()), (v.2.1, ())))))
 (cond (!r25.1.2.1)
 (kk ((c.1.1, (c.1.2.1, (c.1.2.2.1, ()))), (c.2.1, (c.2.2.1, ()))) (.inr (.inl ((false, ()), (v.2.1, ())))))
 (kk ((c.1.1, (c.1.2.1, (c.1.2.2.1, ()))), (c.2.1, (c.2.2.1, ()))) (.inl (((iadd .i64 v.1.1 (1 : Int)), ()), (r25.1.1, ()))))))))))
 (kk ((c.1.1, (c.1.2.1, (c.1.2.2.1, ()))), (c.2.1, (c.2.2.1, ()))) (.inr (.inr ((), (v.2.1, ()))))))
def f_laws_FnRecovered (x : ((List Int) × (List Int) × Unit)) : Option ((Bool × Unit) × Unit) :=
 (cond (ilt (1048576 : Int) (iadd .i64 (llen x.1) (llen x.2.1)))
 (some ((true, ()), ()))
 (bnd (f_spec_DrawEditBytes (x.1, ())) fun r1 => (bnd (f_impl_EditBytes (r1.1.1, ())) fun r2 => (bnd (f_spec_EditBytes (r1.1.1, ())) fun r3 => (cond (!beqB r2.1.2.1 r3.1.2.1)
 (some ((false, ()), ()))
 (cond (!seq r2.1.1 r3.1.1)
 (some ((false, ()), ()))
 (f_laws_FnRecovered_i9 _ ((x.1, (x.2.1, (r2.1.1, (r2.1.2.1, ())))), (r1.1.1, ())) ((), ()) fun c7 o8 =>
 (match o8 with
 | .inl y9 => (some ((y9.1.1, ()), ()))
 | .inr z10 => (bnd (f_spec_DrawRecoverVersion (c7.1.2.1, ())) fun r11 => (bnd (f_impl_RecoverVersion (r11.1.1, ())) fun r12 => (bnd (f_spec_RecoverVersion (r11.1.1, ())) fun r13 => (cond (!beqB r12.1.2.2.1 r13.1.2.2.1)
 (some ((false, ()), ()))
 (cond (!ieq r12.1.2.1 r13.1.2.1)
 (some ((false, ()), ()))
 (bnd (f_laws_sameVersions (r12.1.1, (r13.1.1, ()))) fun r14 => (cond (!r14.1.1)
 (some ((false, ()), ()))
 (bnd (f_impl_GoodVersion (r12.1.1, ())) fun r15 => (cond (!r15.1.1)
 (some ((false, ()), ()))
 (f_laws_FnRecovered_i20 _ ((c7.1.1, (r11.1.1, (r12.1.2.1, (r13.1.2.1, ((ilt (0 : Int) (slen r11.1.1)), ()))))), ()) (((0 : Int), ()), ()) fun c17 o18 =>
 (req (decide ((0 : Int) ≤ o18.1.1) && decide (o18.1.1 ≤ ((ByteArray.size c17.1.2.1) : Int))) (bnd (f_impl_RecoverVersion ((ByteArray.extract c17.1.2.1 (0 : Nat) (Int.toNat o18.1.1)), ())) fun r19 => (cond (ilt r19.1.2.1 (0 : Int))
 (some ((false, ()), ()))
 (cond (ilt c17.1.2.2.2.1 r19.1.2.1)
 (some ((false, ()), ()))
 (bnd (f_impl_NewVersion ()) fun r20 => (bnd (f_spec_ReadFrames (c17.1.2.1, ())) fun r21 => (loopF (c := f_laws_FnRecovered_l27c) (v := f_laws_FnRecovered_l27v) (ex := f_laws_FnRecovered_l27e) f_laws_FnRecovered_l27 _ ((c17.1.2.2.1, (r19.1.2.1, (r19.1.2.2.1, ()))), (r19.1.1, (r21.1.1, ()))) (((0 : Int), ()), (r20.1.1, ())) fun c26 o27 =>
 (match o27 with
 | .inl y28 => (some ((y28.1.1, ()), ()))
 | .inr z29 => (cond c26.1.2.2.1
 (cond (ile c26.1.2.1 c26.1.1)
 (bnd (f_laws_sameVersions (c26.2.1, (z29.2.1, ()))) fun r30 => (some ((r30.1.1, ()), ())))
 (some ((false, ()), ())))
 (some ((false, ()), ())))))))))))))))))))))))))))))
def sg4 : Sig := ⟨ins4, res4, f_laws_FnRecovered⟩
end Go.Proofs.Ytbekojfgnbnpcaa
