/- The kinds of the program's types, and what its functions compute, as typed functions. (Printed by a program of mine, wip/tools/gen.py.) -/
import Derived.Test.YtogmfilmfkepfaaEv4
set_option linter.all false
set_option maxRecDepth 100000
noncomputable section
namespace Go.Proofs.Ytogmfilmfkepfaa
open Go Go.Proofs.Ytogmfilmfkepfaa.Ev
abbrev kdCommand : K := (.pair (.int .i64) (.pair (.int .i64) (.pair (.int .i64) (.pair .str (.pair .str (.pair .str .unit))))))
abbrev DCommand : Type := (Int × (Int × (Int × (ByteArray × (ByteArray × (ByteArray × Unit))))))
abbrev kdPair : K := (.pair .str (.pair .str .unit))
abbrev DPair : Type := (ByteArray × (ByteArray × Unit))
abbrev kdReply : K := (.pair (.int .i64) (.pair .str .unit))
abbrev DReply : Type := (Int × (ByteArray × Unit))
abbrev kdSession : K := (.pair (.int .i64) (.pair (.int .i64) (.pair kdReply .unit)))
abbrev DSession : Type := (Int × (Int × (DReply × Unit)))
abbrev kdKvState : K := (.pair (.sl kdPair) (.pair (.sl kdSession) .unit))
abbrev DKvState : Type := ((List DPair) × ((List DSession) × Unit))
abbrev kdtaker : K := (.pair .str (.pair .bool .unit))
abbrev Dtaker : Type := (ByteArray × (Bool × Unit))
abbrev kdl1Cur : K := (.pair (.sl (.int .u8)) (.pair (.int .i64) (.pair (.int .u64) .unit)))
abbrev Dl1Cur : Type := ((List Int) × (Int × (Int × Unit)))
abbrev ins121 : List Pm := [.mptr kdl1Cur .s]
abbrev res121 : List (K × Mk) := [((.int .i64), .s)]
abbrev f_spec_l1Cur_next_i3c : Desc := ⟨[(0, .ptr 0 []), (13, .v .bool)], [(0, ⟨kdl1Cur, .s, true⟩)]⟩
abbrev f_spec_l1Cur_next_i3v : Desc := ⟨[(3, .v (.int .i64))], []⟩
abbrev f_spec_l1Cur_next_i3e : List (Ek × Desc) := [(.norm, ⟨[(3, .v (.int .i64))], []⟩)]
def f_spec_l1Cur_next_i3 (R : Type) (c : ((Bool × Unit) × (Dl1Cur × Unit))) (v : ((Int × Unit) × Unit)) (kk : ((Bool × Unit) × (Dl1Cur × Unit)) → ((Int × Unit) × Unit) → Option R) : Option R :=
 (cond c.1.1
 (getO c.2.1.1 c.2.1.2.1 fun v1 => (kk ((c.1.1, ()), (c.2.1, ())) (((IntKind.wrap .i64 v1), ()), ())))
 (kk ((c.1.1, ()), (c.2.1, ())) ((v.1.1, ()), ())))
def f_spec_l1Cur_next (x : (Dl1Cur × Unit)) : Option ((Int × Unit) × (Dl1Cur × Unit)) :=
 (f_spec_l1Cur_next_i3 _ (((ilt x.1.2.1 (llen x.1.1)), ()), (x.1, ())) (((0 : Int), ()), ()) fun c2 o3 =>
 (cond (ile (iadd .i64 c2.2.1.2.1 (1 : Int)) (llen c2.2.1.1))
 (some ((o3.1.1, ()), ((c2.2.1.1, ((iadd .i64 c2.2.1.2.1 (1 : Int)), ((iadd .u64 (iadd .u64 (imul .u64 c2.2.1.2.2.1 (6364136223846793005 : Int)) (IntKind.wrap .u64 o3.1.1)) (1442695040888963407 : Int)), c2.2.1.2.2.2))), ())))
 (some (((IntKind.wrap .i64 (iand .u64 (ishr .u64 (iadd .u64 (iadd .u64 (imul .u64 c2.2.1.2.2.1 (6364136223846793005 : Int)) (IntKind.wrap .u64 o3.1.1)) (1442695040888963407 : Int)) (40 : Int)) (255 : Int))), ()), ((c2.2.1.1, ((iadd .i64 c2.2.1.2.1 (1 : Int)), ((iadd .u64 (iadd .u64 (imul .u64 c2.2.1.2.2.1 (6364136223846793005 : Int)) (IntKind.wrap .u64 o3.1.1)) (1442695040888963407 : Int)), c2.2.1.2.2.2))), ())))))
def sg121 : Sig := ⟨ins121, res121, f_spec_l1Cur_next⟩
abbrev ins78 : List Pm := [.mptr kdl1Cur .s, .val (.int .i64)]
abbrev res78 : List (K × Mk) := [((.int .i64), .s)]
abbrev f_spec_l1Cur_pick_i5c : Desc := ⟨[(0, .ptr 0 []), (1, .v (.int .i64)), (11, .v .bool)], []⟩
abbrev f_spec_l1Cur_pick_i5v : Desc := ⟨[(5, .v (.int .i64))], [(0, ⟨kdl1Cur, .s, true⟩)]⟩
abbrev f_spec_l1Cur_pick_i5e : List (Ek × Desc) := [(.norm, ⟨[(5, .v (.int .i64))], [(0, ⟨kdl1Cur, .s, true⟩)]⟩)]
def f_spec_l1Cur_pick_i5 (R : Type) (c : ((Int × Bool × Unit) × Unit)) (v : ((Int × Unit) × (Dl1Cur × Unit))) (kk : ((Int × Bool × Unit) × Unit) → ((Int × Unit) × (Dl1Cur × Unit)) → Option R) : Option R :=
 (cond c.1.2.1
 (bnd (f_spec_l1Cur_next (v.2.1, ())) fun r2 => (kk ((c.1.1, (c.1.2.1, ())), ()) (((iadd .i64 (imul .i64 v.1.1 (256 : Int)) r2.1.1), ()), (r2.2.1, ()))))
 (kk ((c.1.1, (c.1.2.1, ())), ()) ((v.1.1, ()), (v.2.1, ()))))
def f_spec_l1Cur_pick (x : (Dl1Cur × Int × Unit)) : Option ((Int × Unit) × (Dl1Cur × Unit)) :=
 (cond (ile x.2.1 (1 : Int))
 (some (((0 : Int), ()), (x.1, ())))
 (bnd (f_spec_l1Cur_next (x.1, ())) fun r1 => (f_spec_l1Cur_pick_i5 _ ((x.2.1, ((ilt (200 : Int) x.2.1), ())), ()) ((r1.1.1, ()), (r1.2.1, ())) fun c3 o4 =>
 (req (!decide (c3.1.1 = (0 : Int))) (some (((irem .i64 o4.1.1 c3.1.1), ()), (o4.2.1, ())))))))
def sg78 : Sig := ⟨ins78, res78, f_spec_l1Cur_pick⟩
abbrev ins79 : List Pm := [.mptr kdl1Cur .s, .val (.int .i64)]
abbrev res79 : List (K × Mk) := [(.bool, .s)]
def f_spec_l1Cur_one (x : (Dl1Cur × Int × Unit)) : Option ((Bool × Unit) × (Dl1Cur × Unit)) :=
 (bnd (f_spec_l1Cur_pick (x.1, (x.2.1, ()))) fun r1 => (some (((ieq r1.1.1 (0 : Int)), ()), (r1.2.1, ()))))
def sg79 : Sig := ⟨ins79, res79, f_spec_l1Cur_one⟩
abbrev ins146 : List Pm := [.mptr kdl1Cur .s, .mov (.sl .str) (.o .s)]
abbrev res146 : List (K × Mk) := [(.str, .s)]
def f_spec_l1Cur_of (x : (Dl1Cur × (List ByteArray) × Unit)) : Option ((ByteArray × Unit) × (Dl1Cur × Unit)) :=
 (bnd (f_spec_l1Cur_pick (x.1, ((llen x.2.1), ()))) fun r1 => (getO x.2.1 r1.1.1 fun _ => (bnd (x.2.1[(Int.toNat r1.1.1)]?) fun v3 => (some ((v3, ()), (r1.2.1, ()))))))
def sg146 : Sig := ⟨ins146, res146, f_spec_l1Cur_of⟩
abbrev ins145 : List Pm := [.mptr kdl1Cur .s]
abbrev res145 : List (K × Mk) := [(.str, .s)]
def f_spec_l1Cur_key (x : (Dl1Cur × Unit)) : Option ((ByteArray × Unit) × (Dl1Cur × Unit)) :=
 (bnd (f_spec_l1Cur_one (x.1, ((60 : Int), ()))) fun r1 => (cond r1.1.1
 (bnd (f_spec_l1Cur_of (r1.2.1, ([(⟨#[]⟩ : ByteArray), (⟨#[49, 50, 51, 52, 53, 54, 55, 56, 57, 48, 49, 50, 51, 52, 53, 54, 55]⟩ : ByteArray)], ()))) fun r2 => (some ((r2.1.1, ()), (r2.2.1, ()))))
 (bnd (f_spec_l1Cur_of (r1.2.1, ([(⟨#[97]⟩ : ByteArray), (⟨#[98]⟩ : ByteArray), (⟨#[98, 97]⟩ : ByteArray), (⟨#[99]⟩ : ByteArray), (⟨#[99, 97, 114]⟩ : ByteArray), (⟨#[100]⟩ : ByteArray), (⟨#[101]⟩ : ByteArray)], ()))) fun r3 => (some ((r3.1.1, ()), (r3.2.1, ()))))))
def sg145 : Sig := ⟨ins145, res145, f_spec_l1Cur_key⟩
abbrev ins120 : List Pm := [.mptr kdl1Cur .s, .mov (.sl (.int .i64)) (.o .s)]
abbrev res120 : List (K × Mk) := [((.int .i64), .s)]
def f_spec_l1Cur_among (x : (Dl1Cur × (List Int) × Unit)) : Option ((Int × Unit) × (Dl1Cur × Unit)) :=
 (bnd (f_spec_l1Cur_pick (x.1, ((llen x.2.1), ()))) fun r1 => (getO x.2.1 r1.1.1 fun _ => (bnd (x.2.1[(Int.toNat r1.1.1)]?) fun v3 => (some ((v3, ()), (r1.2.1, ()))))))
def sg120 : Sig := ⟨ins120, res120, f_spec_l1Cur_among⟩
abbrev ins108 : List Pm := [.mptr kdl1Cur .s]
abbrev res108 : List (K × Mk) := [(kdCommand, .s)]
abbrev f_spec_l1Cur_command_i3c : Desc := ⟨[(0, .ptr 0 []), (2, .ptr 2 []), (3, .ptr 3 []), (22, .v .bool)], [(2, ⟨kdCommand, .s, true⟩)]⟩
abbrev f_spec_l1Cur_command_i3v : Desc := ⟨[], [(0, ⟨kdl1Cur, .s, true⟩), (3, ⟨kdCommand, .s, true⟩)]⟩
abbrev f_spec_l1Cur_command_i3e : List (Ek × Desc) := [(.norm, ⟨[], [(0, ⟨kdl1Cur, .s, true⟩), (3, ⟨kdCommand, .s, true⟩)]⟩)]
def f_spec_l1Cur_command_i3 (R : Type) (c : ((Bool × Unit) × (DCommand × Unit))) (v : (Unit × (Dl1Cur × DCommand × Unit))) (kk : ((Bool × Unit) × (DCommand × Unit)) → (Unit × (Dl1Cur × DCommand × Unit)) → Option R) : Option R :=
 (cond c.1.1
 (bnd (f_spec_l1Cur_of (v.2.1, ([(⟨#[49]⟩ : ByteArray), (⟨#[50]⟩ : ByteArray), (⟨#[51]⟩ : ByteArray), (⟨#[]⟩ : ByteArray)], ()))) fun r5 => (kk ((c.1.1, ()), (c.2.1, ())) ((), (r5.2.1, ((v.2.2.1.1, (v.2.2.1.2.1, (v.2.2.1.2.2.1, (v.2.2.1.2.2.2.1, (r5.1.1, v.2.2.1.2.2.2.2.2))))), ())))))
 (kk ((c.1.1, ()), (c.2.1, ())) ((), (v.2.1, (v.2.2.1, ())))))
abbrev f_spec_l1Cur_command_i5c : Desc := ⟨[(0, .ptr 0 []), (2, .ptr 2 []), (3, .ptr 3 []), (29, .v .bool)], [(2, ⟨kdCommand, .s, true⟩)]⟩
abbrev f_spec_l1Cur_command_i5v : Desc := ⟨[], [(0, ⟨kdl1Cur, .s, true⟩), (3, ⟨kdCommand, .s, true⟩)]⟩
abbrev f_spec_l1Cur_command_i5e : List (Ek × Desc) := [(.norm, ⟨[], [(0, ⟨kdl1Cur, .s, true⟩), (3, ⟨kdCommand, .s, true⟩)]⟩)]
def f_spec_l1Cur_command_i5 (R : Type) (c : ((Bool × Unit) × (DCommand × Unit))) (v : (Unit × (Dl1Cur × DCommand × Unit))) (kk : ((Bool × Unit) × (DCommand × Unit)) → (Unit × (Dl1Cur × DCommand × Unit)) → Option R) : Option R :=
 (cond c.1.1
 (bnd (f_spec_l1Cur_of (v.2.1, ([(⟨#[49]⟩ : ByteArray), (⟨#[50]⟩ : ByteArray), (⟨#[]⟩ : ByteArray)], ()))) fun r8 => (kk ((c.1.1, ()), (c.2.1, ())) ((), (r8.2.1, ((v.2.2.1.1, (v.2.2.1.2.1, (v.2.2.1.2.2.1, (v.2.2.1.2.2.2.1, (v.2.2.1.2.2.2.2.1, (r8.1.1, v.2.2.1.2.2.2.2.2.2)))))), ())))))
 (kk ((c.1.1, ()), (c.2.1, ())) ((), (v.2.1, (v.2.2.1, ())))))
abbrev f_spec_l1Cur_command_i12c : Desc := ⟨[(0, .ptr 0 []), (2, .ptr 2 []), (3, .ptr 3 []), (48, .v .bool)], [(2, ⟨kdCommand, .s, true⟩)]⟩
abbrev f_spec_l1Cur_command_i12v : Desc := ⟨[], [(0, ⟨kdl1Cur, .s, true⟩), (3, ⟨kdCommand, .s, true⟩)]⟩
abbrev f_spec_l1Cur_command_i12e : List (Ek × Desc) := [(.norm, ⟨[], [(0, ⟨kdl1Cur, .s, true⟩), (3, ⟨kdCommand, .s, true⟩)]⟩)]
def f_spec_l1Cur_command_i12 (R : Type) (c : ((Bool × Unit) × (DCommand × Unit))) (v : (Unit × (Dl1Cur × DCommand × Unit))) (kk : ((Bool × Unit) × (DCommand × Unit)) → (Unit × (Dl1Cur × DCommand × Unit)) → Option R) : Option R :=
 (cond c.1.1
 (bnd (f_spec_l1Cur_pick (v.2.1, ((2 : Int), ()))) fun r14 => (req (decide ((iadd .i64 (40 : Int) r14.1.1) = (iadd .i64 (40 : Int) r14.1.1)) && (decide ((0 : Int) ≤ (iadd .i64 (40 : Int) r14.1.1)) && decide ((iadd .i64 (40 : Int) r14.1.1) ≤ (68719476736 : Int)))) (kk ((c.1.1, ()), (c.2.1, ())) ((), (r14.2.1, ((v.2.2.1.1, (v.2.2.1.2.1, (v.2.2.1.2.2.1, (v.2.2.1.2.2.2.1, ((strOf (List.replicate (Int.toNat (iadd .i64 (40 : Int) r14.1.1)) ((0 : Int) : Int))), v.2.2.1.2.2.2.2.2))))), ()))))))
 (kk ((c.1.1, ()), (c.2.1, ())) ((), (v.2.1, (v.2.2.1, ())))))
abbrev f_spec_l1Cur_command_i10c : Desc := ⟨[(0, .ptr 0 []), (2, .ptr 2 []), (3, .ptr 3 [])], []⟩
abbrev f_spec_l1Cur_command_i10v : Desc := ⟨[(35, .v (.int .i64)), (42, .v .bool)], [(0, ⟨kdl1Cur, .s, true⟩), (2, ⟨kdCommand, .s, true⟩), (3, ⟨kdCommand, .s, true⟩)]⟩
abbrev f_spec_l1Cur_command_i10e : List (Ek × Desc) := [(.norm, ⟨[], [(0, ⟨kdl1Cur, .s, true⟩), (2, ⟨kdCommand, .s, true⟩), (3, ⟨kdCommand, .s, true⟩)]⟩)]
def f_spec_l1Cur_command_i10 (R : Type) (c : (Unit × Unit)) (v : ((Int × Bool × Unit) × (Dl1Cur × DCommand × DCommand × Unit))) (kk : (Unit × Unit) → (Unit × (Dl1Cur × DCommand × DCommand × Unit)) → Option R) : Option R :=
 (cond v.1.2.1
 (bnd (f_spec_l1Cur_among (v.2.1, ([(0 : Int), (1000000 : Int), (1000001 : Int)], ()))) fun r13 => (kk ((), ()) ((), (r13.2.1, (v.2.2.1, ((v.2.2.2.1.1, (r13.1.1, v.2.2.2.1.2.2)), ()))))))
 (f_spec_l1Cur_command_i12 _ (((ieq v.1.1 (2 : Int)), ()), (v.2.2.1, ())) ((), (v.2.1, (v.2.2.2.1, ()))) fun c14 o15 =>
 (kk ((), ()) ((), (o15.2.1, (c14.2.1, (o15.2.2.1, ())))))))
abbrev f_spec_l1Cur_command_i8c : Desc := ⟨[(0, .ptr 0 []), (2, .ptr 2 []), (3, .ptr 3 [])], []⟩
abbrev f_spec_l1Cur_command_i8v : Desc := ⟨[(35, .v (.int .i64)), (36, .v .bool)], [(0, ⟨kdl1Cur, .s, true⟩), (2, ⟨kdCommand, .s, true⟩), (3, ⟨kdCommand, .s, true⟩)]⟩
abbrev f_spec_l1Cur_command_i8e : List (Ek × Desc) := [(.norm, ⟨[], [(0, ⟨kdl1Cur, .s, true⟩), (2, ⟨kdCommand, .s, true⟩), (3, ⟨kdCommand, .s, true⟩)]⟩)]
def f_spec_l1Cur_command_i8 (R : Type) (c : (Unit × Unit)) (v : ((Int × Bool × Unit) × (Dl1Cur × DCommand × DCommand × Unit))) (kk : (Unit × Unit) → (Unit × (Dl1Cur × DCommand × DCommand × Unit)) → Option R) : Option R :=
 (cond v.1.2.1
 (bnd (f_spec_l1Cur_among (v.2.1, ([(-1 : Int), (99 : Int), (100 : Int)], ()))) fun r12 => (kk ((), ()) ((), (r12.2.1, (v.2.2.1, ((r12.1.1, v.2.2.2.1.2), ()))))))
 (f_spec_l1Cur_command_i10 _ ((), ()) ((v.1.1, ((ieq v.1.1 (1 : Int)), ())), (v.2.1, (v.2.2.1, (v.2.2.2.1, ())))) fun c13 o14 =>
 (kk ((), ()) ((), (o14.2.1, (o14.2.2.1, (o14.2.2.2.1, ())))))))
def f_spec_l1Cur_command (x : (Dl1Cur × Unit)) : Option ((DCommand × Unit) × (Dl1Cur × Unit)) :=
 (bnd (f_spec_l1Cur_pick (x.1, ((4 : Int), ()))) fun r1 => (bnd (f_spec_l1Cur_pick (r1.2.1, ((6 : Int), ()))) fun r2 => (bnd (f_spec_l1Cur_pick (r2.2.1, ((4 : Int), ()))) fun r3 => (bnd (f_spec_l1Cur_key (r3.2.1, ())) fun r4 => (cond (ieq (iadd .i64 (1 : Int) r3.1.1) (2 : Int))
 (f_spec_l1Cur_command_i3 _ ((true, ()), (((0 : Int), ((0 : Int), ((0 : Int), ((⟨#[]⟩ : ByteArray), ((⟨#[]⟩ : ByteArray), ((⟨#[]⟩ : ByteArray), ())))))), ())) ((), (r4.2.1, ((r1.1.1, ((iadd .i64 (1 : Int) r2.1.1), ((iadd .i64 (1 : Int) r3.1.1), (r4.1.1, ((⟨#[]⟩ : ByteArray), ((⟨#[]⟩ : ByteArray), ())))))), ()))) fun c6 o7 =>
 (f_spec_l1Cur_command_i5 _ (((ieq o7.2.2.1.2.2.1 (4 : Int)), ()), (c6.2.1, ())) ((), (o7.2.1, (o7.2.2.1, ()))) fun c9 o10 =>
 (bnd (f_spec_l1Cur_pick (o10.2.1, ((60 : Int), ()))) fun r11 => (f_spec_l1Cur_command_i8 _ ((), ()) ((r11.1.1, ((ieq r11.1.1 (0 : Int)), ())), (r11.2.1, (c9.2.1, (o10.2.2.1, ())))) fun c15 o16 =>
 (some ((o16.2.2.2.1, ()), (o16.2.1, ())))))))
 (f_spec_l1Cur_command_i3 _ (((ieq (iadd .i64 (1 : Int) r3.1.1) (4 : Int)), ()), (((0 : Int), ((0 : Int), ((0 : Int), ((⟨#[]⟩ : ByteArray), ((⟨#[]⟩ : ByteArray), ((⟨#[]⟩ : ByteArray), ())))))), ())) ((), (r4.2.1, ((r1.1.1, ((iadd .i64 (1 : Int) r2.1.1), ((iadd .i64 (1 : Int) r3.1.1), (r4.1.1, ((⟨#[]⟩ : ByteArray), ((⟨#[]⟩ : ByteArray), ())))))), ()))) fun c17 o18 =>
 (f_spec_l1Cur_command_i5 _ (((ieq o18.2.2.1.2.2.1 (4 : Int)), ()), (c17.2.1, ())) ((), (o18.2.1, (o18.2.2.1, ()))) fun c19 o20 =>
 (bnd (f_spec_l1Cur_pick (o20.2.1, ((60 : Int), ()))) fun r21 => (f_spec_l1Cur_command_i8 _ ((), ()) ((r21.1.1, ((ieq r21.1.1 (0 : Int)), ())), (r21.2.1, (c19.2.1, (o20.2.2.1, ())))) fun c22 o23 =>
 (some ((o23.2.2.2.1, ()), (o23.2.1, ()))))))))))))
def sg108 : Sig := ⟨ins108, res108, f_spec_l1Cur_command⟩
abbrev ins57 : List Pm := [.val (.sl (.int .u8))]
abbrev res57 : List (K × Mk) := [(kdCommand, .s)]
def f_spec_DrawGoodCommand (x : ((List Int) × Unit)) : Option ((DCommand × Unit) × Unit) :=
 (bnd (f_spec_l1Cur_command ((x.1, ((0 : Int), ((0 : Int), ()))), ())) fun r1 => (some ((r1.1.1, ()), ())))
def sg57 : Sig := ⟨ins57, res57, f_spec_DrawGoodCommand⟩
abbrev ins17 : List Pm := [.val (.sl (.int .u8))]
abbrev res17 : List (K × Mk) := [(kdCommand, .s)]
def f_spec_DrawCommandBytes (x : ((List Int) × Unit)) : Option ((DCommand × Unit) × Unit) :=
 (bnd (f_spec_DrawGoodCommand (x.1, ())) fun r1 => (some ((r1.1.1, ()), ())))
def sg17 : Sig := ⟨ins17, res17, f_spec_DrawCommandBytes⟩
abbrev ins81 : List Pm := [.val (.int .i64), .val (.int .i64), .val (.int .i64)]
abbrev res81 : List (K × Mk) := [(.bool, .s)]
def f_impl_in (x : (Int × Int × Int × Unit)) : Option ((Bool × Unit) × Unit) :=
 (cond (ile x.2.1 x.1)
 (some (((ile x.1 x.2.2.1), ()), ()))
 (some ((false, ()), ())))
def sg81 : Sig := ⟨ins81, res81, f_impl_in⟩
abbrev ins109 : List Pm := [.val .str]
abbrev res109 : List (K × Mk) := [(.bool, .s)]
def f_impl_isKey (x : (ByteArray × Unit)) : Option ((Bool × Unit) × Unit) :=
 (bnd (f_impl_in ((slen x.1), ((1 : Int), ((16 : Int), ())))) fun r1 => (some ((r1.1.1, ()), ())))
def sg109 : Sig := ⟨ins109, res109, f_impl_isKey⟩
abbrev ins110 : List Pm := [.val .str]
abbrev res110 : List (K × Mk) := [(.bool, .s)]
def f_impl_isValue (x : (ByteArray × Unit)) : Option ((Bool × Unit) × Unit) :=
 (some (((ile (slen x.1) (40 : Int)), ()), ()))
def sg110 : Sig := ⟨ins110, res110, f_impl_isValue⟩
abbrev ins58 : List Pm := [.val kdCommand]
abbrev res58 : List (K × Mk) := [(.bool, .s)]
def f_impl_GoodCommand (x : (DCommand × Unit)) : Option ((Bool × Unit) × Unit) :=
 (bnd (f_impl_in (x.1.1, ((0 : Int), ((99 : Int), ())))) fun r1 => (cond (!r1.1.1)
 (some ((false, ()), ()))
 (bnd (f_impl_in (x.1.2.1, ((1 : Int), ((1000000 : Int), ())))) fun r2 => (cond (!r2.1.1)
 (some ((false, ()), ()))
 (bnd (f_impl_in (x.1.2.2.1, ((1 : Int), ((4 : Int), ())))) fun r3 => (cond (!r3.1.1)
 (some ((false, ()), ()))
 (bnd (f_impl_isKey (x.1.2.2.2.1, ())) fun r4 => (cond (!r4.1.1)
 (some ((false, ()), ()))
 (bnd (f_impl_isValue (x.1.2.2.2.2.1, ())) fun r5 => (cond (!r5.1.1)
 (some ((false, ()), ()))
 (bnd (f_impl_isValue (x.1.2.2.2.2.2.1, ())) fun r6 => (cond (!r6.1.1)
 (some ((false, ()), ()))
 (cond (seq x.1.2.2.2.2.1 (⟨#[]⟩ : ByteArray))
 (cond (seq x.1.2.2.2.2.2.1 (⟨#[]⟩ : ByteArray))
 (some ((true, ()), ()))
 (some (((ieq x.1.2.2.1 (4 : Int)), ()), ())))
 (cond (ieq x.1.2.2.1 (2 : Int))
 (cond (seq x.1.2.2.2.2.2.1 (⟨#[]⟩ : ByteArray))
 (some ((true, ()), ()))
 (some (((ieq x.1.2.2.1 (4 : Int)), ()), ())))
 (cond (ieq x.1.2.2.1 (4 : Int))
 (cond (seq x.1.2.2.2.2.2.1 (⟨#[]⟩ : ByteArray))
 (some ((true, ()), ()))
 (some (((ieq x.1.2.2.1 (4 : Int)), ()), ())))
 (some ((false, ()), ())))))))))))))))))
def sg58 : Sig := ⟨ins58, res58, f_impl_GoodCommand⟩
abbrev ins59 : List Pm := [.val (.int .i64)]
abbrev res59 : List (K × Mk) := [(.str, .s)]
abbrev f_impl_varBytes_l2c : Desc := ⟨[(3, .al 3 [])], []⟩
abbrev f_impl_varBytes_l2v : Desc := ⟨[(0, .v (.int .i64))], [(3, ⟨(.sl (.int .u8)), (.o .s), false⟩)]⟩
abbrev f_impl_varBytes_l2e : List (Ek × Desc) := [(.exit 0, ⟨[(0, .v (.int .i64))], [(3, ⟨(.sl (.int .u8)), (.o .s), false⟩)]⟩)]
def f_impl_varBytes_l2 (R : Type) (c : (Unit × Unit)) (v : ((Int × Unit) × ((List Int) × Unit))) (kk : (Unit × Unit) → (((Int × Unit) × ((List Int) × Unit)) ⊕ ((Int × Unit) × ((List Int) × Unit))) → Option R) : Option R :=
 (cond (ile (128 : Int) v.1.1)
 (req (decide (List.length v.2.1 + List.length [(iadd .u8 (IntKind.wrap .u8 (irem .i64 v.1.1 (128 : Int))) (128 : Int))] ≤ 17179869184)) (kk ((), ()) (.inl (((iquo .i64 v.1.1 (128 : Int)), ()), ((v.2.1 ++ [(iadd .u8 (IntKind.wrap .u8 (irem .i64 v.1.1 (128 : Int))) (128 : Int))]), ())))))
 (kk ((), ()) (.inr ((v.1.1, ()), (v.2.1, ())))))
def f_impl_varBytes (x : (Int × Unit)) : Option ((ByteArray × Unit) × Unit) :=
 (loopF (c := f_impl_varBytes_l2c) (v := f_impl_varBytes_l2v) (ex := f_impl_varBytes_l2e) f_impl_varBytes_l2 _ ((), ()) ((x.1, ()), (([] : List Int), ())) fun c1 o2 =>
 (req (decide (List.length o2.2.1 + List.length [(IntKind.wrap .u8 o2.1.1)] ≤ 17179869184)) (some (((strOf (o2.2.1 ++ [(IntKind.wrap .u8 o2.1.1)])), ()), ()))))
def sg59 : Sig := ⟨ins59, res59, f_impl_varBytes⟩
abbrev ins60 : List Pm := [.val .str]
abbrev res60 : List (K × Mk) := [(.str, .s)]
def f_impl_sized (x : (ByteArray × Unit)) : Option ((ByteArray × Unit) × Unit) :=
 (bnd (f_impl_varBytes ((slen x.1), ())) fun r1 => (catO r1.1.1 x.1 fun v2 => (some ((v2, ()), ()))))
def sg60 : Sig := ⟨ins60, res60, f_impl_sized⟩
abbrev ins18 : List Pm := [.val kdCommand]
abbrev res18 : List (K × Mk) := [(.str, .s), (.bool, .s)]
def f_impl_CommandBytes (x : (DCommand × Unit)) : Option ((ByteArray × Bool × Unit) × Unit) :=
 (bnd (f_impl_GoodCommand (x.1, ())) fun r1 => (cond (!r1.1.1)
 (some (((⟨#[]⟩ : ByteArray), (false, ())), ()))
 (bnd (f_impl_varBytes (x.1.1, ())) fun r2 => (bnd (f_impl_varBytes (x.1.2.1, ())) fun r3 => (catO r2.1.1 r3.1.1 fun v4 => (catO v4 (strOf [(IntKind.wrap .u8 x.1.2.2.1)]) fun v5 => (bnd (f_impl_sized (x.1.2.2.2.1, ())) fun r6 => (catO v5 r6.1.1 fun v7 => (bnd (f_impl_sized (x.1.2.2.2.2.1, ())) fun r8 => (catO v7 r8.1.1 fun v9 => (bnd (f_impl_sized (x.1.2.2.2.2.2.1, ())) fun r10 => (catO v9 r10.1.1 fun v11 => (some ((v11, (true, ())), ()))))))))))))))
def sg18 : Sig := ⟨ins18, res18, f_impl_CommandBytes⟩
abbrev ins86 : List Pm := [.val (.int .i64), .val (.int .i64), .val (.int .i64)]
abbrev res86 : List (K × Mk) := [(.bool, .s)]
def f_spec_l1In (x : (Int × Int × Int × Unit)) : Option ((Bool × Unit) × Unit) :=
 (cond (ile x.2.1 x.1)
 (some (((ile x.1 x.2.2.1), ()), ()))
 (some ((false, ()), ())))
def sg86 : Sig := ⟨ins86, res86, f_spec_l1In⟩
abbrev ins111 : List Pm := [.val .str]
abbrev res111 : List (K × Mk) := [(.bool, .s)]
def f_spec_l4Key (x : (ByteArray × Unit)) : Option ((Bool × Unit) × Unit) :=
 (bnd (f_spec_l1In ((slen x.1), ((1 : Int), ((16 : Int), ())))) fun r1 => (some ((r1.1.1, ()), ())))
def sg111 : Sig := ⟨ins111, res111, f_spec_l4Key⟩
abbrev ins61 : List Pm := [.val kdCommand]
abbrev res61 : List (K × Mk) := [(.bool, .s)]
def f_spec_GoodCommand (x : (DCommand × Unit)) : Option ((Bool × Unit) × Unit) :=
 (bnd (f_spec_l1In (x.1.1, ((0 : Int), ((99 : Int), ())))) fun r1 => (cond (!r1.1.1)
 (some ((false, ()), ()))
 (bnd (f_spec_l1In (x.1.2.1, ((1 : Int), ((1000000 : Int), ())))) fun r2 => (cond (!r2.1.1)
 (some ((false, ()), ()))
 (bnd (f_spec_l1In (x.1.2.2.1, ((1 : Int), ((4 : Int), ())))) fun r3 => (cond (!r3.1.1)
 (some ((false, ()), ()))
 (bnd (f_spec_l4Key (x.1.2.2.2.1, ())) fun r4 => (cond (!r4.1.1)
 (some ((false, ()), ()))
 (cond (ilt (40 : Int) (slen x.1.2.2.2.2.1))
 (some ((false, ()), ()))
 (cond (ilt (40 : Int) (slen x.1.2.2.2.2.2.1))
 (some ((false, ()), ()))
 (cond (seq x.1.2.2.2.2.1 (⟨#[]⟩ : ByteArray))
 (cond (seq x.1.2.2.2.2.2.1 (⟨#[]⟩ : ByteArray))
 (some ((true, ()), ()))
 (some (((ieq x.1.2.2.1 (4 : Int)), ()), ())))
 (cond (ieq x.1.2.2.1 (2 : Int))
 (cond (seq x.1.2.2.2.2.2.1 (⟨#[]⟩ : ByteArray))
 (some ((true, ()), ()))
 (some (((ieq x.1.2.2.1 (4 : Int)), ()), ())))
 (cond (ieq x.1.2.2.1 (4 : Int))
 (cond (seq x.1.2.2.2.2.2.1 (⟨#[]⟩ : ByteArray))
 (some ((true, ()), ()))
 (some (((ieq x.1.2.2.1 (4 : Int)), ()), ())))
 (some ((false, ()), ())))))))))))))))
def sg61 : Sig := ⟨ins61, res61, f_spec_GoodCommand⟩
abbrev ins112 : List Pm := [.val (.int .i64)]
abbrev res112 : List (K × Mk) := [(.str, .s)]
abbrev f_spec_l2Var_l2c : Desc := ⟨[(3, .al 3 [])], []⟩
abbrev f_spec_l2Var_l2v : Desc := ⟨[(0, .v (.int .i64))], [(3, ⟨(.sl (.int .u8)), (.o .s), false⟩)]⟩
abbrev f_spec_l2Var_l2e : List (Ek × Desc) := [(.exit 0, ⟨[(0, .v (.int .i64))], [(3, ⟨(.sl (.int .u8)), (.o .s), false⟩)]⟩)]
def f_spec_l2Var_l2 (R : Type) (c : (Unit × Unit)) (v : ((Int × Unit) × ((List Int) × Unit))) (kk : (Unit × Unit) → (((Int × Unit) × ((List Int) × Unit)) ⊕ ((Int × Unit) × ((List Int) × Unit))) → Option R) : Option R :=
 (cond (ilt (127 : Int) v.1.1)
 (req (decide (List.length v.2.1 + List.length [(IntKind.wrap .u8 (ior .i64 (iand .i64 v.1.1 (127 : Int)) (128 : Int)))] ≤ 17179869184)) (kk ((), ()) (.inl (((ishr .i64 v.1.1 (7 : Int)), ()), ((v.2.1 ++ [(IntKind.wrap .u8 (ior .i64 (iand .i64 v.1.1 (127 : Int)) (128 : Int)))]), ())))))
 (kk ((), ()) (.inr ((v.1.1, ()), (v.2.1, ())))))
def f_spec_l2Var (x : (Int × Unit)) : Option ((ByteArray × Unit) × Unit) :=
 (loopF (c := f_spec_l2Var_l2c) (v := f_spec_l2Var_l2v) (ex := f_spec_l2Var_l2e) f_spec_l2Var_l2 _ ((), ()) ((x.1, ()), (([] : List Int), ())) fun c1 o2 =>
 (req (decide (List.length o2.2.1 + List.length [(IntKind.wrap .u8 o2.1.1)] ≤ 17179869184)) (some (((strOf (o2.2.1 ++ [(IntKind.wrap .u8 o2.1.1)])), ()), ()))))
def sg112 : Sig := ⟨ins112, res112, f_spec_l2Var⟩
abbrev ins62 : List Pm := [.val kdCommand]
abbrev res62 : List (K × Mk) := [(.str, .s)]
abbrev f_spec_l14Bytes_l3c : Desc := ⟨[(25, .al 25 []), (26, .v (.int .i64))], [(25, ⟨(.sl .str), (.o .s), false⟩)]⟩
abbrev f_spec_l14Bytes_l3v : Desc := ⟨[(3, .v .str), (27, .v (.int .i64))], []⟩
abbrev f_spec_l14Bytes_l3e : List (Ek × Desc) := [(.exit 0, ⟨[(3, .v .str)], []⟩)]
def f_spec_l14Bytes_l3 (R : Type) (c : ((Int × Unit) × ((List ByteArray) × Unit))) (v : ((ByteArray × Int × Unit) × Unit)) (kk : ((Int × Unit) × ((List ByteArray) × Unit)) → (((ByteArray × Int × Unit) × Unit) ⊕ ((ByteArray × Unit) × Unit)) → Option R) : Option R :=
 (cond (ilt v.1.2.1 c.1.1)
 (getO c.2.1 v.1.2.1 fun _ => (bnd (c.2.1[(Int.toNat v.1.2.1)]?) fun v6 => (bnd (f_spec_l2Var ((slen v6), ())) fun r7 => (catO r7.1.1 v6 fun v8 => (catO v.1.1 v8 fun v9 => (kk ((c.1.1, ()), (c.2.1, ())) (.inl ((v9, ((iadd .i64 v.1.2.1 (1 : Int)), ())), ()))))))))
 (kk ((c.1.1, ()), (c.2.1, ())) (.inr ((v.1.1, ()), ()))))
def f_spec_l14Bytes (x : (DCommand × Unit)) : Option ((ByteArray × Unit) × Unit) :=
 (bnd (f_spec_l2Var (x.1.1, ())) fun r1 => (bnd (f_spec_l2Var (x.1.2.1, ())) fun r2 => (catO r1.1.1 r2.1.1 fun v3 => (catO v3 (strOf [(IntKind.wrap .u8 x.1.2.2.1)]) fun v4 => (loopF (c := f_spec_l14Bytes_l3c) (v := f_spec_l14Bytes_l3v) (ex := f_spec_l14Bytes_l3e) f_spec_l14Bytes_l3 _ (((llen [x.1.2.2.2.1, x.1.2.2.2.2.1, x.1.2.2.2.2.2.1]), ()), ([x.1.2.2.2.1, x.1.2.2.2.2.1, x.1.2.2.2.2.2.1], ())) ((v4, ((0 : Int), ())), ()) fun c10 o11 =>
 (some ((o11.1.1, ()), ())))))))
def sg62 : Sig := ⟨ins62, res62, f_spec_l14Bytes⟩
abbrev ins19 : List Pm := [.val kdCommand]
abbrev res19 : List (K × Mk) := [(.str, .s), (.bool, .s)]
def f_spec_CommandBytes (x : (DCommand × Unit)) : Option ((ByteArray × Bool × Unit) × Unit) :=
 (bnd (f_spec_GoodCommand (x.1, ())) fun r1 => (cond (!r1.1.1)
 (some (((⟨#[]⟩ : ByteArray), (false, ())), ()))
 (bnd (f_spec_l14Bytes (x.1, ())) fun r2 => (some ((r2.1.1, (true, ())), ())))))
def sg19 : Sig := ⟨ins19, res19, f_spec_CommandBytes⟩
abbrev ins113 : List Pm := [.val .str]
abbrev res113 : List (K × Mk) := [((.int .i64), .s), ((.int .i64), .s)]
abbrev f_impl_TakeVar_l3c : Desc := ⟨[(0, .v .str)], []⟩
abbrev f_impl_TakeVar_l3v : Desc := ⟨[(4, .v (.int .i64)), (5, .v (.int .i64))], []⟩
abbrev f_impl_TakeVar_l3e : List (Ek × Desc) := [(.ret, ⟨[(2, .v (.int .i64)), (3, .v (.int .i64))], []⟩), (.exit 0, ⟨[], []⟩)]
def f_impl_TakeVar_l3 (R : Type) (c : ((ByteArray × Unit) × Unit)) (v : ((Int × Int × Unit) × Unit)) (kk : ((ByteArray × Unit) × Unit) → (((Int × Int × Unit) × Unit) ⊕ (((Int × Int × Unit) × Unit) ⊕ (Unit × Unit))) → Option R) : Option R :=
 (cond (ilt v.1.2.1 (imin (slen c.1.1) (9 : Int)))
 (getB c.1.1 v.1.2.1 fun v1 => (req (ile (0 : Int) (imul .i64 (7 : Int) v.1.2.1)) (cond (ilt (IntKind.wrap .i64 v1) (128 : Int))
 (cond (ilt (0 : Int) v.1.2.1)
 (cond (ieq (IntKind.wrap .i64 v1) (0 : Int))
 (kk ((c.1.1, ()), ()) (.inr (.inl (((0 : Int), ((0 : Int), ())), ()))))
 (kk ((c.1.1, ()), ()) (.inr (.inl (((ior .i64 v.1.1 (ishl .i64 (irem .i64 (IntKind.wrap .i64 v1) (128 : Int)) (imul .i64 (7 : Int) v.1.2.1))), ((iadd .i64 v.1.2.1 (1 : Int)), ())), ())))))
 (kk ((c.1.1, ()), ()) (.inr (.inl (((ior .i64 v.1.1 (ishl .i64 (irem .i64 (IntKind.wrap .i64 v1) (128 : Int)) (imul .i64 (7 : Int) v.1.2.1))), ((iadd .i64 v.1.2.1 (1 : Int)), ())), ())))))
 (kk ((c.1.1, ()), ()) (.inl (((ior .i64 v.1.1 (ishl .i64 (irem .i64 (IntKind.wrap .i64 v1) (128 : Int)) (imul .i64 (7 : Int) v.1.2.1))), ((iadd .i64 v.1.2.1 (1 : Int)), ())), ()))))))
 (kk ((c.1.1, ()), ()) (.inr (.inr ((), ())))))
def f_impl_TakeVar (x : (ByteArray × Unit)) : Option ((Int × Int × Unit) × Unit) :=
 (loopF (c := f_impl_TakeVar_l3c) (v := f_impl_TakeVar_l3v) (ex := f_impl_TakeVar_l3e) f_impl_TakeVar_l3 _ ((x.1, ()), ()) (((0 : Int), ((0 : Int), ())), ()) fun c2 o3 =>
 (match o3 with
 | .inl y4 => (some ((y4.1.1, (y4.1.2.1, ())), ()))
 | .inr z5 => (some (((0 : Int), ((0 : Int), ())), ()))))
def sg113 : Sig := ⟨ins113, res113, f_impl_TakeVar⟩
abbrev ins63 : List Pm := [.mptr kdtaker .s]
abbrev res63 : List (K × Mk) := [((.int .i64), .s)]
def f_impl_taker_number (x : (Dtaker × Unit)) : Option ((Int × Unit) × (Dtaker × Unit)) :=
 (bnd (f_impl_TakeVar (x.1.1, ())) fun r1 => (cond x.1.2.1
 (some (((0 : Int), ()), ((x.1.1, (true, x.1.2.2)), ())))
 (cond (ieq r1.1.2.1 (0 : Int))
 (some (((0 : Int), ()), ((x.1.1, ((ieq r1.1.2.1 (0 : Int)), x.1.2.2)), ())))
 (req (decide ((0 : Int) ≤ r1.1.2.1) && decide (r1.1.2.1 ≤ ((ByteArray.size x.1.1) : Int))) (some ((r1.1.1, ()), (((ByteArray.extract x.1.1 (Int.toNat r1.1.2.1) (ByteArray.size x.1.1)), ((ieq r1.1.2.1 (0 : Int)), x.1.2.2)), ())))))))
def sg63 : Sig := ⟨ins63, res63, f_impl_taker_number⟩
abbrev ins64 : List Pm := [.mptr kdtaker .s, .val (.int .i64)]
abbrev res64 : List (K × Mk) := [(.str, .s)]
def f_impl_taker_text (x : (Dtaker × Int × Unit)) : Option ((ByteArray × Unit) × (Dtaker × Unit)) :=
 (cond x.1.2.1
 (some (((⟨#[]⟩ : ByteArray), ()), ((x.1.1, (true, x.1.2.2)), ())))
 (cond (ilt (slen x.1.1) x.2.1)
 (some (((⟨#[]⟩ : ByteArray), ()), ((x.1.1, ((ilt (slen x.1.1) x.2.1), x.1.2.2)), ())))
 (req (decide ((0 : Int) ≤ x.2.1) && decide (x.2.1 ≤ ((ByteArray.size x.1.1) : Int))) (req (decide ((0 : Int) ≤ x.2.1) && decide (x.2.1 ≤ ((ByteArray.size x.1.1) : Int))) (some (((ByteArray.extract x.1.1 (0 : Nat) (Int.toNat x.2.1)), ()), (((ByteArray.extract x.1.1 (Int.toNat x.2.1) (ByteArray.size x.1.1)), ((ilt (slen x.1.1) x.2.1), x.1.2.2)), ())))))))
def sg64 : Sig := ⟨ins64, res64, f_impl_taker_text⟩
abbrev ins65 : List Pm := [.mptr kdtaker .s]
abbrev res65 : List (K × Mk) := [(.str, .s)]
def f_impl_taker_sized (x : (Dtaker × Unit)) : Option ((ByteArray × Unit) × (Dtaker × Unit)) :=
 (bnd (f_impl_taker_number (x.1, ())) fun r1 => (bnd (f_impl_taker_text (r1.2.1, (r1.1.1, ()))) fun r2 => (some ((r2.1.1, ()), (r2.2.1, ())))))
def sg65 : Sig := ⟨ins65, res65, f_impl_taker_sized⟩
abbrev ins66 : List Pm := [.mptr kdtaker .s]
abbrev res66 : List (K × Mk) := [(.bool, .s)]
def f_impl_taker_whole (x : (Dtaker × Unit)) : Option ((Bool × Unit) × (Dtaker × Unit)) :=
 (cond (!x.1.2.1)
 (some (((seq x.1.1 (⟨#[]⟩ : ByteArray)), ()), (x.1, ())))
 (some ((false, ()), (x.1, ()))))
def sg66 : Sig := ⟨ins66, res66, f_impl_taker_whole⟩
abbrev ins20 : List Pm := [.val .str]
abbrev res20 : List (K × Mk) := [(kdCommand, .s), (.bool, .s)]
abbrev f_impl_ReadCommand_i6c : Desc := ⟨[(2, .ptr 2 []), (4, .ptr 9 []), (5, .ptr 5 []), (6, .v .str), (20, .v .bool)], [(2, ⟨kdCommand, .s, true⟩), (9, ⟨kdtaker, .s, true⟩)]⟩
abbrev f_impl_ReadCommand_i6v : Desc := ⟨[], [(5, ⟨kdCommand, .s, true⟩)]⟩
abbrev f_impl_ReadCommand_i6e : List (Ek × Desc) := [(.norm, ⟨[], [(5, ⟨kdCommand, .s, true⟩)]⟩)]
def f_impl_ReadCommand_i6 (R : Type) (c : ((ByteArray × Bool × Unit) × (DCommand × Dtaker × Unit))) (v : (Unit × (DCommand × Unit))) (kk : ((ByteArray × Bool × Unit) × (DCommand × Dtaker × Unit)) → (Unit × (DCommand × Unit)) → Option R) : Option R :=
 (cond c.1.2.1
 (getB c.1.1 (0 : Int) fun v4 => (kk ((c.1.1, (c.1.2.1, ())), (c.2.1, (c.2.2.1, ()))) ((), ((v.2.1.1, (v.2.1.2.1, ((IntKind.wrap .i64 v4), v.2.1.2.2.2))), ()))))
 (kk ((c.1.1, (c.1.2.1, ())), (c.2.1, (c.2.2.1, ()))) ((), (v.2.1, ()))))
def f_impl_ReadCommand (x : (ByteArray × Unit)) : Option ((DCommand × Bool × Unit) × Unit) :=
 (bnd (f_impl_taker_number ((x.1, (false, ())), ())) fun r1 => (bnd (f_impl_taker_number (r1.2.1, ())) fun r2 => (bnd (f_impl_taker_text (r2.2.1, ((1 : Int), ()))) fun r3 => (f_impl_ReadCommand_i6 _ ((r3.1.1, ((!seq r3.1.1 (⟨#[]⟩ : ByteArray)), ())), (((0 : Int), ((0 : Int), ((0 : Int), ((⟨#[]⟩ : ByteArray), ((⟨#[]⟩ : ByteArray), ((⟨#[]⟩ : ByteArray), ())))))), (r3.2.1, ()))) ((), ((r1.1.1, (r2.1.1, ((0 : Int), ((⟨#[]⟩ : ByteArray), ((⟨#[]⟩ : ByteArray), ((⟨#[]⟩ : ByteArray), ())))))), ())) fun c5 o6 =>
 (bnd (f_impl_taker_sized (c5.2.2.1, ())) fun r7 => (bnd (f_impl_taker_sized (r7.2.1, ())) fun r8 => (bnd (f_impl_taker_sized (r8.2.1, ())) fun r9 => (bnd (f_impl_taker_whole (r9.2.1, ())) fun r10 => (cond (!r10.1.1)
 (some ((((0 : Int), ((0 : Int), ((0 : Int), ((⟨#[]⟩ : ByteArray), ((⟨#[]⟩ : ByteArray), ((⟨#[]⟩ : ByteArray), ())))))), (false, ())), ()))
 (bnd (f_impl_GoodCommand ((o6.2.1.1, (o6.2.1.2.1, (o6.2.1.2.2.1, (r7.1.1, (r8.1.1, (r9.1.1, o6.2.1.2.2.2.2.2.2)))))), ())) fun r11 => (cond (!r11.1.1)
 (some ((((0 : Int), ((0 : Int), ((0 : Int), ((⟨#[]⟩ : ByteArray), ((⟨#[]⟩ : ByteArray), ((⟨#[]⟩ : ByteArray), ())))))), (false, ())), ()))
 (some (((o6.2.1.1, (o6.2.1.2.1, (o6.2.1.2.2.1, (r7.1.1, (r8.1.1, (r9.1.1, o6.2.1.2.2.2.2.2.2)))))), (true, ())), ())))))))))))))
def sg20 : Sig := ⟨ins20, res20, f_impl_ReadCommand⟩
abbrev ins67 : List Pm := [.mptr kdl1Cur .s]
abbrev res67 : List (K × Mk) := [((.sl kdCommand), (.o .s))]
abbrev f_spec_l1Cur_commands_i5c : Desc := ⟨[(0, .ptr 0 []), (3, .al 3 []), (4, .al 4 []), (11, .v .bool)], [(3, ⟨(.sl kdCommand), (.o .s), false⟩), (4, ⟨(.sl (.int .i64)), (.o .s), false⟩)]⟩
abbrev f_spec_l1Cur_commands_i5v : Desc := ⟨[(5, .v (.int .i64))], [(0, ⟨kdl1Cur, .s, true⟩)]⟩
abbrev f_spec_l1Cur_commands_i5e : List (Ek × Desc) := [(.norm, ⟨[(5, .v (.int .i64))], [(0, ⟨kdl1Cur, .s, true⟩)]⟩)]
def f_spec_l1Cur_commands_i5 (R : Type) (c : ((Bool × Unit) × ((List DCommand) × (List Int) × Unit))) (v : ((Int × Unit) × (Dl1Cur × Unit))) (kk : ((Bool × Unit) × ((List DCommand) × (List Int) × Unit)) → ((Int × Unit) × (Dl1Cur × Unit)) → Option R) : Option R :=
 (cond c.1.1
 (bnd (f_spec_l1Cur_pick (v.2.1, ((8 : Int), ()))) fun r3 => (kk ((c.1.1, ()), (c.2.1, (c.2.2.1, ()))) (((iadd .i64 (95 : Int) r3.1.1), ()), (r3.2.1, ()))))
 (kk ((c.1.1, ()), (c.2.1, (c.2.2.1, ()))) ((v.1.1, ()), (v.2.1, ()))))
abbrev f_spec_l1Cur_commands_i10c : Desc := ⟨[(0, .ptr 0 []), (3, .al 3 []), (4, .al 4 []), (5, .v (.int .i64)), (6, .ptr 6 []), (28, .v .bool)], [(0, ⟨kdl1Cur, .s, true⟩), (3, ⟨(.sl kdCommand), (.o .s), false⟩)]⟩
abbrev f_spec_l1Cur_commands_i10v : Desc := ⟨[], [(4, ⟨(.sl (.int .i64)), (.o .s), false⟩), (6, ⟨kdCommand, .s, true⟩)]⟩
abbrev f_spec_l1Cur_commands_i10e : List (Ek × Desc) := [(.norm, ⟨[], [(4, ⟨(.sl (.int .i64)), (.o .s), false⟩), (6, ⟨kdCommand, .s, true⟩)]⟩)]
def f_spec_l1Cur_commands_i10 (R : Type) (c : ((Int × Bool × Unit) × (Dl1Cur × (List DCommand) × Unit))) (v : (Unit × ((List Int) × DCommand × Unit))) (kk : ((Int × Bool × Unit) × (Dl1Cur × (List DCommand) × Unit)) → (Unit × ((List Int) × DCommand × Unit)) → Option R) : Option R :=
 (cond c.1.2.1
 (getO v.2.1 v.2.2.1.1 fun _ => (bnd (v.2.1[(Int.toNat v.2.2.1.1)]?) fun v10 => (getO v.2.1 v.2.2.1.1 fun _ => (bnd (v.2.1[(Int.toNat v.2.2.1.1)]?) fun v12 => (getO (List.set v.2.1 (Int.toNat v.2.2.1.1) (iadd .i64 v10 (1 : Int))) v.2.2.1.1 fun _ => (bnd ((List.set v.2.1 (Int.toNat v.2.2.1.1) (iadd .i64 v10 (1 : Int)))[(Int.toNat v.2.2.1.1)]?) fun v14 => (kk ((c.1.1, (c.1.2.1, ())), (c.2.1, (c.2.2.1, ()))) ((), ((List.set v.2.1 (Int.toNat v.2.2.1.1) (iadd .i64 v10 (1 : Int))), ((v.2.2.1.1, (v14, v.2.2.1.2.2)), ()))))))))))
 (kk ((c.1.1, (c.1.2.1, ())), (c.2.1, (c.2.2.1, ()))) ((), (v.2.1, (v.2.2.1, ())))))
abbrev f_spec_l1Cur_commands_i14c : Desc := ⟨[(0, .ptr 0 []), (3, .al 3 []), (4, .al 4 []), (5, .v (.int .i64)), (52, .v .bool)], [(4, ⟨(.sl (.int .i64)), (.o .s), false⟩)]⟩
abbrev f_spec_l1Cur_commands_i14v : Desc := ⟨[], [(0, ⟨kdl1Cur, .s, true⟩), (3, ⟨(.sl kdCommand), (.o .s), false⟩)]⟩
abbrev f_spec_l1Cur_commands_i14e : List (Ek × Desc) := [(.norm, ⟨[], [(0, ⟨kdl1Cur, .s, true⟩), (3, ⟨(.sl kdCommand), (.o .s), false⟩)]⟩)]
def f_spec_l1Cur_commands_i14 (R : Type) (c : ((Int × Bool × Unit) × ((List Int) × Unit))) (v : (Unit × (Dl1Cur × (List DCommand) × Unit))) (kk : ((Int × Bool × Unit) × ((List Int) × Unit)) → (Unit × (Dl1Cur × (List DCommand) × Unit)) → Option R) : Option R :=
 (cond c.1.2.1
 (bnd (f_spec_l1Cur_pick (v.2.1, ((llen v.2.2.1), ()))) fun r18 => (getO v.2.2.1 r18.1.1 fun _ => (bnd (v.2.2.1[(Int.toNat r18.1.1)]?) fun v20 => (req (decide (List.length v.2.2.1 + List.length [v20] ≤ 17179869184)) (kk ((c.1.1, (c.1.2.1, ())), (c.2.1, ())) ((), (r18.2.1, ((v.2.2.1 ++ [v20]), ()))))))))
 (kk ((c.1.1, (c.1.2.1, ())), (c.2.1, ())) ((), (v.2.1, (v.2.2.1, ())))))
abbrev f_spec_l1Cur_commands_l6c : Desc := ⟨[(0, .ptr 0 []), (3, .al 3 []), (4, .al 4 [])], []⟩
abbrev f_spec_l1Cur_commands_l6v : Desc := ⟨[(5, .v (.int .i64))], [(0, ⟨kdl1Cur, .s, true⟩), (3, ⟨(.sl kdCommand), (.o .s), false⟩), (4, ⟨(.sl (.int .i64)), (.o .s), false⟩)]⟩
abbrev f_spec_l1Cur_commands_l6e : List (Ek × Desc) := [(.exit 0, ⟨[], [(0, ⟨kdl1Cur, .s, true⟩), (3, ⟨(.sl kdCommand), (.o .s), false⟩), (4, ⟨(.sl (.int .i64)), (.o .s), false⟩)]⟩)]
def f_spec_l1Cur_commands_l6 (R : Type) (c : (Unit × Unit)) (v : ((Int × Unit) × (Dl1Cur × (List DCommand) × (List Int) × Unit))) (kk : (Unit × Unit) → (((Int × Unit) × (Dl1Cur × (List DCommand) × (List Int) × Unit)) ⊕ (Unit × (Dl1Cur × (List DCommand) × (List Int) × Unit))) → Option R) : Option R :=
 (cond (ilt (0 : Int) v.1.1)
 (bnd (f_spec_l1Cur_command (v.2.1, ())) fun r6 => (bnd (f_spec_l1In (r6.1.1.1, ((0 : Int), ((3 : Int), ())))) fun r7 => (cond r7.1.1
 (bnd (f_spec_l1Cur_one (r6.2.1, ((5 : Int), ()))) fun r8 => (f_spec_l1Cur_commands_i10 _ ((v.1.1, ((!r8.1.1), ())), (r8.2.1, (v.2.2.1, ()))) ((), (v.2.2.2.1, (r6.1.1, ()))) fun c9 o10 =>
 (req (decide (List.length c9.2.2.1 + List.length [o10.2.2.1] ≤ 17179869184)) (bnd (f_spec_l1Cur_one (c9.2.1, ((6 : Int), ()))) fun r11 => (cond r11.1.1
 (f_spec_l1Cur_commands_i14 _ ((c9.1.1, ((ilt (1 : Int) (llen (c9.2.2.1 ++ [o10.2.2.1]))), ())), (o10.2.1, ())) ((), (r11.2.1, ((c9.2.2.1 ++ [o10.2.2.1]), ()))) fun c12 o13 =>
 (kk ((), ()) (.inl (((isub .i64 c12.1.1 (1 : Int)), ()), (o13.2.1, (o13.2.2.1, (c12.2.1, ())))))))
 (f_spec_l1Cur_commands_i14 _ ((c9.1.1, (false, ())), (o10.2.1, ())) ((), (r11.2.1, ((c9.2.2.1 ++ [o10.2.2.1]), ()))) fun c14 o15 =>
 (kk ((), ()) (.inl (((isub .i64 c14.1.1 (1 : Int)), ()), (o15.2.1, (o15.2.2.1, (c14.2.1, ()))))))))))))
 (f_spec_l1Cur_commands_i10 _ ((v.1.1, (false, ())), (r6.2.1, (v.2.2.1, ()))) ((), (v.2.2.2.1, (r6.1.1, ()))) fun c16 o17 =>
 (req (decide (List.length c16.2.2.1 + List.length [o17.2.2.1] ≤ 17179869184)) (bnd (f_spec_l1Cur_one (c16.2.1, ((6 : Int), ()))) fun r18 => (cond r18.1.1
 (f_spec_l1Cur_commands_i14 _ ((c16.1.1, ((ilt (1 : Int) (llen (c16.2.2.1 ++ [o17.2.2.1]))), ())), (o17.2.1, ())) ((), (r18.2.1, ((c16.2.2.1 ++ [o17.2.2.1]), ()))) fun c19 o20 =>
 (kk ((), ()) (.inl (((isub .i64 c19.1.1 (1 : Int)), ()), (o20.2.1, (o20.2.2.1, (c19.2.1, ())))))))
 (f_spec_l1Cur_commands_i14 _ ((c16.1.1, (false, ())), (o17.2.1, ())) ((), (r18.2.1, ((c16.2.2.1 ++ [o17.2.2.1]), ()))) fun c21 o22 =>
 (kk ((), ()) (.inl (((isub .i64 c21.1.1 (1 : Int)), ()), (o22.2.1, (o22.2.2.1, (c21.2.1, ()))))))))))))))
 (kk ((), ()) (.inr ((), (v.2.1, (v.2.2.1, (v.2.2.2.1, ())))))))
def f_spec_l1Cur_commands (x : (Dl1Cur × Unit)) : Option (((List DCommand) × Unit) × (Dl1Cur × Unit)) :=
 (req (decide ((4 : Int) = (4 : Int)) && (decide ((0 : Int) ≤ (4 : Int)) && decide ((4 : Int) ≤ (68719476736 : Int)))) (bnd (f_spec_l1Cur_pick (x.1, ((16 : Int), ()))) fun r1 => (bnd (f_spec_l1Cur_one (r1.2.1, ((20 : Int), ()))) fun r2 => (f_spec_l1Cur_commands_i5 _ ((r2.1.1, ()), (([] : List DCommand), ((List.replicate (Int.toNat (4 : Int)) ((0 : Int) : Int)), ()))) ((r1.1.1, ()), (r2.2.1, ())) fun c4 o5 =>
 (loopF (c := f_spec_l1Cur_commands_l6c) (v := f_spec_l1Cur_commands_l6v) (ex := f_spec_l1Cur_commands_l6e) f_spec_l1Cur_commands_l6 _ ((), ()) ((o5.1.1, ()), (o5.2.1, (c4.2.1, (c4.2.2.1, ())))) fun c23 o24 =>
 (some ((o24.2.2.1, ()), (o24.2.1, ()))))))))
def sg67 : Sig := ⟨ins67, res67, f_spec_l1Cur_commands⟩
abbrev ins21 : List Pm := [.val (.sl (.int .u8))]
abbrev res21 : List (K × Mk) := [((.sl kdCommand), (.o .s))]
def f_spec_DrawFoldCommands (x : ((List Int) × Unit)) : Option (((List DCommand) × Unit) × Unit) :=
 (bnd (f_spec_l1Cur_commands ((x.1, ((0 : Int), ((0 : Int), ()))), ())) fun r1 => (some ((r1.1.1, ()), ())))
def sg21 : Sig := ⟨ins21, res21, f_spec_DrawFoldCommands⟩
abbrev ins159 : List Pm := [.val (.int .i64)]
abbrev res159 : List (K × Mk) := [(.bool, .s)]
def f_cmp_isNaN_int (x : (Int × Unit)) : Option ((Bool × Unit) × Unit) :=
 (some (((!ieq x.1 x.1), ()), ()))
def sg159 : Sig := ⟨ins159, res159, f_cmp_isNaN_int⟩
abbrev ins138 : List Pm := [.val (.int .i64), .val (.int .i64)]
abbrev res138 : List (K × Mk) := [((.int .i64), .s)]
def f_cmp_Compare_int (x : (Int × Int × Unit)) : Option ((Int × Unit) × Unit) :=
 (bnd (f_cmp_isNaN_int (x.1, ())) fun r1 => (bnd (f_cmp_isNaN_int (x.2.1, ())) fun r2 => (cond r1.1.1
 (cond r2.1.1
 (some (((0 : Int), ()), ()))
 (some (((-1 : Int), ()), ())))
 (cond r2.1.1
 (some (((1 : Int), ()), ()))
 (cond (ilt x.1 x.2.1)
 (some (((-1 : Int), ()), ()))
 (cond (ilt x.2.1 x.1)
 (some (((1 : Int), ()), ()))
 (some (((0 : Int), ()), ()))))))))
def sg138 : Sig := ⟨ins138, res138, f_cmp_Compare_int⟩
abbrev ins148 : List Pm := [.val kdSession, .val (.int .i64)]
abbrev res148 : List (K × Mk) := [((.int .i64), .s)]
def f_impl_KvState_sessionAt_1 (x : (DSession × Int × Unit)) : Option ((Int × Unit) × Unit) :=
 (bnd (f_cmp_Compare_int (x.1.1, (x.2.1, ()))) fun r1 => (some ((r1.1.1, ()), ())))
def sg148 : Sig := ⟨ins148, res148, f_impl_KvState_sessionAt_1⟩
abbrev ins147 : List Pm := [.val (.sl kdSession), .val (.int .i64), .fn [kdSession, (.int .i64)] [(.int .i64)]]
abbrev res147 : List (K × Mk) := [((.int .i64), .s), (.bool, .s)]
abbrev f_slices_BinarySearchFunc_Session_int_i6c : Desc := ⟨[(0, .v (.sl kdSession)), (1, .v (.int .i64)), (2, .fv [kdSession, (.int .i64)] [(.int .i64)]), (8, .v (.int .i64)), (11, .v (.int .i64)), (31, .v .bool)], []⟩
abbrev f_slices_BinarySearchFunc_Session_int_i6v : Desc := ⟨[(9, .v (.int .i64)), (10, .v (.int .i64))], []⟩
abbrev f_slices_BinarySearchFunc_Session_int_i6e : List (Ek × Desc) := [(.norm, ⟨[(9, .v (.int .i64)), (10, .v (.int .i64))], []⟩)]
def f_slices_BinarySearchFunc_Session_int_i6 (R : Type) (c : (((List DSession) × Int × ((DSession × Int × Unit) → Option (Int × Unit)) × Int × Int × Bool × Unit) × Unit)) (v : ((Int × Int × Unit) × Unit)) (kk : (((List DSession) × Int × ((DSession × Int × Unit) → Option (Int × Unit)) × Int × Int × Bool × Unit) × Unit) → ((Int × Int × Unit) × Unit) → Option R) : Option R :=
 (cond c.1.2.2.2.2.2.1
 (kk ((c.1.1, (c.1.2.1, (c.1.2.2.1, (c.1.2.2.2.1, (c.1.2.2.2.2.1, (c.1.2.2.2.2.2.1, ())))))), ()) (((iadd .i64 c.1.2.2.2.2.1 (1 : Int)), (v.1.2.1, ())), ()))
 (kk ((c.1.1, (c.1.2.1, (c.1.2.2.1, (c.1.2.2.2.1, (c.1.2.2.2.2.1, (c.1.2.2.2.2.2.1, ())))))), ()) ((v.1.1, (c.1.2.2.2.2.1, ())), ())))
abbrev f_slices_BinarySearchFunc_Session_int_l3c : Desc := ⟨[], []⟩
abbrev f_slices_BinarySearchFunc_Session_int_l3v : Desc := ⟨[(0, .v (.sl kdSession)), (1, .v (.int .i64)), (2, .fv [kdSession, (.int .i64)] [(.int .i64)]), (8, .v (.int .i64)), (9, .v (.int .i64)), (10, .v (.int .i64))], []⟩
abbrev f_slices_BinarySearchFunc_Session_int_l3e : List (Ek × Desc) := [(.exit 0, ⟨[(0, .v (.sl kdSession)), (1, .v (.int .i64)), (2, .fv [kdSession, (.int .i64)] [(.int .i64)]), (8, .v (.int .i64)), (9, .v (.int .i64))], []⟩)]
def f_slices_BinarySearchFunc_Session_int_l3 (R : Type) (c : (Unit × Unit)) (v : (((List DSession) × Int × ((DSession × Int × Unit) → Option (Int × Unit)) × Int × Int × Int × Unit) × Unit)) (kk : (Unit × Unit) → ((((List DSession) × Int × ((DSession × Int × Unit) → Option (Int × Unit)) × Int × Int × Int × Unit) × Unit) ⊕ (((List DSession) × Int × ((DSession × Int × Unit) → Option (Int × Unit)) × Int × Int × Unit) × Unit)) → Option R) : Option R :=
 (cond (ilt v.1.2.2.2.2.1 v.1.2.2.2.2.2.1)
 (getO v.1.1 (IntKind.wrap .i64 (ishr .u64 (IntKind.wrap .u64 (iadd .i64 v.1.2.2.2.2.1 v.1.2.2.2.2.2.1)) (1 : Int))) fun v1 => (bnd (v.1.2.2.1 (v1, (v.1.2.1, ()))) fun r2 => (f_slices_BinarySearchFunc_Session_int_i6 _ ((v.1.1, (v.1.2.1, (v.1.2.2.1, (v.1.2.2.2.1, ((IntKind.wrap .i64 (ishr .u64 (IntKind.wrap .u64 (iadd .i64 v.1.2.2.2.2.1 v.1.2.2.2.2.2.1)) (1 : Int))), ((ilt r2.1 (0 : Int)), ())))))), ()) ((v.1.2.2.2.2.1, (v.1.2.2.2.2.2.1, ())), ()) fun c3 o4 =>
 (kk ((), ()) (.inl ((c3.1.1, (c3.1.2.1, (c3.1.2.2.1, (c3.1.2.2.2.1, (o4.1.1, (o4.1.2.1, ())))))), ()))))))
 (kk ((), ()) (.inr ((v.1.1, (v.1.2.1, (v.1.2.2.1, (v.1.2.2.2.1, (v.1.2.2.2.2.1, ()))))), ()))))
def f_slices_BinarySearchFunc_Session_int (x : ((List DSession) × Int × ((DSession × Int × Unit) → Option (Int × Unit)) × Unit)) : Option ((Int × Bool × Unit) × Unit) :=
 (loopF (c := f_slices_BinarySearchFunc_Session_int_l3c) (v := f_slices_BinarySearchFunc_Session_int_l3v) (ex := f_slices_BinarySearchFunc_Session_int_l3e) f_slices_BinarySearchFunc_Session_int_l3 _ ((), ()) ((x.1, (x.2.1, (x.2.2.1, ((llen x.1), ((0 : Int), ((llen x.1), ())))))), ()) fun c5 o6 =>
 (cond (ilt o6.1.2.2.2.2.1 o6.1.2.2.2.1)
 (getO o6.1.1 o6.1.2.2.2.2.1 fun v7 => (bnd (o6.1.2.2.1 (v7, (o6.1.2.1, ()))) fun r8 => (some ((o6.1.2.2.2.2.1, ((ieq r8.1 (0 : Int)), ())), ()))))
 (some ((o6.1.2.2.2.2.1, (false, ())), ()))))
def sg147 : Sig := ⟨ins147, res147, f_slices_BinarySearchFunc_Session_int⟩
abbrev ins114 : List Pm := [.mptr kdKvState (.pr (.o .s) (.pr (.o .s) .s)), .val (.int .i64)]
abbrev res114 : List (K × Mk) := [((.int .i64), .s), (.bool, .s)]
def f_impl_KvState_sessionAt (x : (DKvState × Int × Unit)) : Option ((Int × Bool × Unit) × (DKvState × Unit)) :=
 (bnd (f_slices_BinarySearchFunc_Session_int (x.1.2.1, (x.2.1, ((fun z => (bnd (f_impl_KvState_sessionAt_1 (z.1, (z.2.1, ()))) fun r => (some r.1))), ())))) fun r1 => (some ((r1.1.1, (r1.1.2.1, ())), (x.1, ()))))
def sg114 : Sig := ⟨ins114, res114, f_impl_KvState_sessionAt⟩
abbrev ins161 : List Pm := [.val .str]
abbrev res161 : List (K × Mk) := [(.bool, .s)]
def f_cmp_isNaN_string (x : (ByteArray × Unit)) : Option ((Bool × Unit) × Unit) :=
 (some (((!seq x.1 x.1), ()), ()))
def sg161 : Sig := ⟨ins161, res161, f_cmp_isNaN_string⟩
abbrev ins144 : List Pm := [.val .str, .val .str]
abbrev res144 : List (K × Mk) := [((.int .i64), .s)]
def f_cmp_Compare_string (x : (ByteArray × ByteArray × Unit)) : Option ((Int × Unit) × Unit) :=
 (bnd (f_cmp_isNaN_string (x.1, ())) fun r1 => (bnd (f_cmp_isNaN_string (x.2.1, ())) fun r2 => (cond r1.1.1
 (cond r2.1.1
 (some (((0 : Int), ()), ()))
 (some (((-1 : Int), ()), ())))
 (cond r2.1.1
 (some (((1 : Int), ()), ()))
 (cond (slt x.1 x.2.1)
 (some (((-1 : Int), ()), ()))
 (cond (!(slt x.1 x.2.1 || seq x.1 x.2.1))
 (some (((1 : Int), ()), ()))
 (some (((0 : Int), ()), ()))))))))
def sg144 : Sig := ⟨ins144, res144, f_cmp_Compare_string⟩
abbrev ins143 : List Pm := [.val kdPair, .val .str]
abbrev res143 : List (K × Mk) := [((.int .i64), .s)]
def f_impl_KvState_cellAt_1 (x : (DPair × ByteArray × Unit)) : Option ((Int × Unit) × Unit) :=
 (bnd (f_cmp_Compare_string (x.1.1, (x.2.1, ()))) fun r1 => (some ((r1.1.1, ()), ())))
def sg143 : Sig := ⟨ins143, res143, f_impl_KvState_cellAt_1⟩
abbrev ins142 : List Pm := [.val (.sl kdPair), .val .str, .fn [kdPair, .str] [(.int .i64)]]
abbrev res142 : List (K × Mk) := [((.int .i64), .s), (.bool, .s)]
abbrev f_slices_BinarySearchFunc_Pair_string_i6c : Desc := ⟨[(0, .v (.sl kdPair)), (1, .v .str), (2, .fv [kdPair, .str] [(.int .i64)]), (8, .v (.int .i64)), (11, .v (.int .i64)), (31, .v .bool)], []⟩
abbrev f_slices_BinarySearchFunc_Pair_string_i6v : Desc := ⟨[(9, .v (.int .i64)), (10, .v (.int .i64))], []⟩
abbrev f_slices_BinarySearchFunc_Pair_string_i6e : List (Ek × Desc) := [(.norm, ⟨[(9, .v (.int .i64)), (10, .v (.int .i64))], []⟩)]
def f_slices_BinarySearchFunc_Pair_string_i6 (R : Type) (c : (((List DPair) × ByteArray × ((DPair × ByteArray × Unit) → Option (Int × Unit)) × Int × Int × Bool × Unit) × Unit)) (v : ((Int × Int × Unit) × Unit)) (kk : (((List DPair) × ByteArray × ((DPair × ByteArray × Unit) → Option (Int × Unit)) × Int × Int × Bool × Unit) × Unit) → ((Int × Int × Unit) × Unit) → Option R) : Option R :=
 (cond c.1.2.2.2.2.2.1
 (kk ((c.1.1, (c.1.2.1, (c.1.2.2.1, (c.1.2.2.2.1, (c.1.2.2.2.2.1, (c.1.2.2.2.2.2.1, ())))))), ()) (((iadd .i64 c.1.2.2.2.2.1 (1 : Int)), (v.1.2.1, ())), ()))
 (kk ((c.1.1, (c.1.2.1, (c.1.2.2.1, (c.1.2.2.2.1, (c.1.2.2.2.2.1, (c.1.2.2.2.2.2.1, ())))))), ()) ((v.1.1, (c.1.2.2.2.2.1, ())), ())))
abbrev f_slices_BinarySearchFunc_Pair_string_l3c : Desc := ⟨[], []⟩
abbrev f_slices_BinarySearchFunc_Pair_string_l3v : Desc := ⟨[(0, .v (.sl kdPair)), (1, .v .str), (2, .fv [kdPair, .str] [(.int .i64)]), (8, .v (.int .i64)), (9, .v (.int .i64)), (10, .v (.int .i64))], []⟩
abbrev f_slices_BinarySearchFunc_Pair_string_l3e : List (Ek × Desc) := [(.exit 0, ⟨[(0, .v (.sl kdPair)), (1, .v .str), (2, .fv [kdPair, .str] [(.int .i64)]), (8, .v (.int .i64)), (9, .v (.int .i64))], []⟩)]
def f_slices_BinarySearchFunc_Pair_string_l3 (R : Type) (c : (Unit × Unit)) (v : (((List DPair) × ByteArray × ((DPair × ByteArray × Unit) → Option (Int × Unit)) × Int × Int × Int × Unit) × Unit)) (kk : (Unit × Unit) → ((((List DPair) × ByteArray × ((DPair × ByteArray × Unit) → Option (Int × Unit)) × Int × Int × Int × Unit) × Unit) ⊕ (((List DPair) × ByteArray × ((DPair × ByteArray × Unit) → Option (Int × Unit)) × Int × Int × Unit) × Unit)) → Option R) : Option R :=
 (cond (ilt v.1.2.2.2.2.1 v.1.2.2.2.2.2.1)
 (getO v.1.1 (IntKind.wrap .i64 (ishr .u64 (IntKind.wrap .u64 (iadd .i64 v.1.2.2.2.2.1 v.1.2.2.2.2.2.1)) (1 : Int))) fun v1 => (bnd (v.1.2.2.1 (v1, (v.1.2.1, ()))) fun r2 => (f_slices_BinarySearchFunc_Pair_string_i6 _ ((v.1.1, (v.1.2.1, (v.1.2.2.1, (v.1.2.2.2.1, ((IntKind.wrap .i64 (ishr .u64 (IntKind.wrap .u64 (iadd .i64 v.1.2.2.2.2.1 v.1.2.2.2.2.2.1)) (1 : Int))), ((ilt r2.1 (0 : Int)), ())))))), ()) ((v.1.2.2.2.2.1, (v.1.2.2.2.2.2.1, ())), ()) fun c3 o4 =>
 (kk ((), ()) (.inl ((c3.1.1, (c3.1.2.1, (c3.1.2.2.1, (c3.1.2.2.2.1, (o4.1.1, (o4.1.2.1, ())))))), ()))))))
 (kk ((), ()) (.inr ((v.1.1, (v.1.2.1, (v.1.2.2.1, (v.1.2.2.2.1, (v.1.2.2.2.2.1, ()))))), ()))))
def f_slices_BinarySearchFunc_Pair_string (x : ((List DPair) × ByteArray × ((DPair × ByteArray × Unit) → Option (Int × Unit)) × Unit)) : Option ((Int × Bool × Unit) × Unit) :=
 (loopF (c := f_slices_BinarySearchFunc_Pair_string_l3c) (v := f_slices_BinarySearchFunc_Pair_string_l3v) (ex := f_slices_BinarySearchFunc_Pair_string_l3e) f_slices_BinarySearchFunc_Pair_string_l3 _ ((), ()) ((x.1, (x.2.1, (x.2.2.1, ((llen x.1), ((0 : Int), ((llen x.1), ())))))), ()) fun c5 o6 =>
 (cond (ilt o6.1.2.2.2.2.1 o6.1.2.2.2.1)
 (getO o6.1.1 o6.1.2.2.2.2.1 fun v7 => (bnd (o6.1.2.2.1 (v7, (o6.1.2.1, ()))) fun r8 => (some ((o6.1.2.2.2.2.1, ((ieq r8.1 (0 : Int)), ())), ()))))
 (some ((o6.1.2.2.2.2.1, (false, ())), ()))))
def sg142 : Sig := ⟨ins142, res142, f_slices_BinarySearchFunc_Pair_string⟩
abbrev ins107 : List Pm := [.mptr kdKvState (.pr (.o .s) (.pr (.o .s) .s)), .val .str]
abbrev res107 : List (K × Mk) := [((.int .i64), .s), (.bool, .s)]
def f_impl_KvState_cellAt (x : (DKvState × ByteArray × Unit)) : Option ((Int × Bool × Unit) × (DKvState × Unit)) :=
 (bnd (f_slices_BinarySearchFunc_Pair_string (x.1.1, (x.2.1, ((fun z => (bnd (f_impl_KvState_cellAt_1 (z.1, (z.2.1, ()))) fun r => (some r.1))), ())))) fun r1 => (some ((r1.1.1, (r1.1.2.1, ())), (x.1, ()))))
def sg107 : Sig := ⟨ins107, res107, f_impl_KvState_cellAt⟩
abbrev ins116 : List Pm := [.mptr kdKvState (.pr (.o .s) (.pr (.o .s) .s)), .val kdCommand]
abbrev res116 : List (K × Mk) := [(kdReply, .s)]
def f_impl_KvState_do (x : (DKvState × DCommand × Unit)) : Option ((DReply × Unit) × (DKvState × Unit)) :=
 (bnd (f_impl_KvState_cellAt (x.1, (x.2.1.2.2.2.1, ()))) fun r1 => (cond (ieq x.2.1.2.2.1 (2 : Int))
 (cond r1.1.2.1
 (getO r1.2.1.1 r1.1.1 fun _ => (bnd (r1.2.1.1[(Int.toNat r1.1.1)]?) fun v3 => (bnd (r1.2.1.1[(Int.toNat r1.1.1)]?) fun v4 => (some ((((0 : Int), ((⟨#[]⟩ : ByteArray), ())), ()), (((List.set r1.2.1.1 (Int.toNat r1.1.1) (v4.1, (x.2.1.2.2.2.2.1, v4.2.2))), r1.2.1.2), ()))))))
 (cond (ieq x.2.1.2.2.1 (2 : Int))
 (cond (ieq (llen r1.2.1.1) (40 : Int))
 (some ((((4 : Int), ((⟨#[]⟩ : ByteArray), ())), ()), (r1.2.1, ())))
 (cond (ieq x.2.1.2.2.1 (2 : Int))
 (bnd ((f_slices_Insert kdPair) (r1.2.1.1, (r1.1.1, ([(x.2.1.2.2.2.1, (x.2.1.2.2.2.2.1, ()))], ())))) fun r5 => (some ((((0 : Int), ((⟨#[]⟩ : ByteArray), ())), ()), ((r5.1.1, r1.2.1.2), ()))))
 (cond (!r1.1.2.1)
 (some ((((1 : Int), ((⟨#[]⟩ : ByteArray), ())), ()), (r1.2.1, ())))
 (getO r1.2.1.1 r1.1.1 fun _ => (bnd (r1.2.1.1[(Int.toNat r1.1.1)]?) fun v7 => (bnd (r1.2.1.1[(Int.toNat r1.1.1)]?) fun v8 => (cond (ieq x.2.1.2.2.1 (1 : Int))
 (some ((((0 : Int), (v8.2.1, ())), ()), (r1.2.1, ())))
 (cond (ieq x.2.1.2.2.1 (3 : Int))
 (bnd ((f_slices_Delete kdPair) (r1.2.1.1, (r1.1.1, ((iadd .i64 r1.1.1 (1 : Int)), ())))) fun r9 => (some ((((0 : Int), (v8.2.1, ())), ()), ((r9.1.1, r1.2.1.2), ()))))
 (cond (!seq v8.2.1 x.2.1.2.2.2.2.2.1)
 (some ((((3 : Int), (v8.2.1, ())), ()), (r1.2.1, ())))
 (getO r1.2.1.1 r1.1.1 fun _ => (bnd (r1.2.1.1[(Int.toNat r1.1.1)]?) fun v11 => (bnd (r1.2.1.1[(Int.toNat r1.1.1)]?) fun v12 => (some ((((0 : Int), ((⟨#[]⟩ : ByteArray), ())), ()), (((List.set r1.2.1.1 (Int.toNat r1.1.1) (v12.1, (x.2.1.2.2.2.2.1, v12.2.2))), r1.2.1.2), ())))))))))))))))
 (cond (ieq x.2.1.2.2.1 (2 : Int))
 (bnd ((f_slices_Insert kdPair) (r1.2.1.1, (r1.1.1, ([(x.2.1.2.2.2.1, (x.2.1.2.2.2.2.1, ()))], ())))) fun r13 => (some ((((0 : Int), ((⟨#[]⟩ : ByteArray), ())), ()), ((r13.1.1, r1.2.1.2), ()))))
 (cond (!r1.1.2.1)
 (some ((((1 : Int), ((⟨#[]⟩ : ByteArray), ())), ()), (r1.2.1, ())))
 (getO r1.2.1.1 r1.1.1 fun _ => (bnd (r1.2.1.1[(Int.toNat r1.1.1)]?) fun v15 => (bnd (r1.2.1.1[(Int.toNat r1.1.1)]?) fun v16 => (cond (ieq x.2.1.2.2.1 (1 : Int))
 (some ((((0 : Int), (v16.2.1, ())), ()), (r1.2.1, ())))
 (cond (ieq x.2.1.2.2.1 (3 : Int))
 (bnd ((f_slices_Delete kdPair) (r1.2.1.1, (r1.1.1, ((iadd .i64 r1.1.1 (1 : Int)), ())))) fun r17 => (some ((((0 : Int), (v16.2.1, ())), ()), ((r17.1.1, r1.2.1.2), ()))))
 (cond (!seq v16.2.1 x.2.1.2.2.2.2.2.1)
 (some ((((3 : Int), (v16.2.1, ())), ()), (r1.2.1, ())))
 (getO r1.2.1.1 r1.1.1 fun _ => (bnd (r1.2.1.1[(Int.toNat r1.1.1)]?) fun v19 => (bnd (r1.2.1.1[(Int.toNat r1.1.1)]?) fun v20 => (some ((((0 : Int), ((⟨#[]⟩ : ByteArray), ())), ()), (((List.set r1.2.1.1 (Int.toNat r1.1.1) (v20.1, (x.2.1.2.2.2.2.1, v20.2.2))), r1.2.1.2), ()))))))))))))))))
 (cond (ieq x.2.1.2.2.1 (2 : Int))
 (cond (ieq (llen r1.2.1.1) (40 : Int))
 (some ((((4 : Int), ((⟨#[]⟩ : ByteArray), ())), ()), (r1.2.1, ())))
 (cond (ieq x.2.1.2.2.1 (2 : Int))
 (bnd ((f_slices_Insert kdPair) (r1.2.1.1, (r1.1.1, ([(x.2.1.2.2.2.1, (x.2.1.2.2.2.2.1, ()))], ())))) fun r21 => (some ((((0 : Int), ((⟨#[]⟩ : ByteArray), ())), ()), ((r21.1.1, r1.2.1.2), ()))))
 (cond (!r1.1.2.1)
 (some ((((1 : Int), ((⟨#[]⟩ : ByteArray), ())), ()), (r1.2.1, ())))
 (getO r1.2.1.1 r1.1.1 fun _ => (bnd (r1.2.1.1[(Int.toNat r1.1.1)]?) fun v23 => (bnd (r1.2.1.1[(Int.toNat r1.1.1)]?) fun v24 => (cond (ieq x.2.1.2.2.1 (1 : Int))
 (some ((((0 : Int), (v24.2.1, ())), ()), (r1.2.1, ())))
 (cond (ieq x.2.1.2.2.1 (3 : Int))
 (bnd ((f_slices_Delete kdPair) (r1.2.1.1, (r1.1.1, ((iadd .i64 r1.1.1 (1 : Int)), ())))) fun r25 => (some ((((0 : Int), (v24.2.1, ())), ()), ((r25.1.1, r1.2.1.2), ()))))
 (cond (!seq v24.2.1 x.2.1.2.2.2.2.2.1)
 (some ((((3 : Int), (v24.2.1, ())), ()), (r1.2.1, ())))
 (getO r1.2.1.1 r1.1.1 fun _ => (bnd (r1.2.1.1[(Int.toNat r1.1.1)]?) fun v27 => (bnd (r1.2.1.1[(Int.toNat r1.1.1)]?) fun v28 => (some ((((0 : Int), ((⟨#[]⟩ : ByteArray), ())), ()), (((List.set r1.2.1.1 (Int.toNat r1.1.1) (v28.1, (x.2.1.2.2.2.2.1, v28.2.2))), r1.2.1.2), ())))))))))))))))
 (cond (ieq x.2.1.2.2.1 (2 : Int))
 (bnd ((f_slices_Insert kdPair) (r1.2.1.1, (r1.1.1, ([(x.2.1.2.2.2.1, (x.2.1.2.2.2.2.1, ()))], ())))) fun r29 => (some ((((0 : Int), ((⟨#[]⟩ : ByteArray), ())), ()), ((r29.1.1, r1.2.1.2), ()))))
 (cond (!r1.1.2.1)
 (some ((((1 : Int), ((⟨#[]⟩ : ByteArray), ())), ()), (r1.2.1, ())))
 (getO r1.2.1.1 r1.1.1 fun _ => (bnd (r1.2.1.1[(Int.toNat r1.1.1)]?) fun v31 => (bnd (r1.2.1.1[(Int.toNat r1.1.1)]?) fun v32 => (cond (ieq x.2.1.2.2.1 (1 : Int))
 (some ((((0 : Int), (v32.2.1, ())), ()), (r1.2.1, ())))
 (cond (ieq x.2.1.2.2.1 (3 : Int))
 (bnd ((f_slices_Delete kdPair) (r1.2.1.1, (r1.1.1, ((iadd .i64 r1.1.1 (1 : Int)), ())))) fun r33 => (some ((((0 : Int), (v32.2.1, ())), ()), ((r33.1.1, r1.2.1.2), ()))))
 (cond (!seq v32.2.1 x.2.1.2.2.2.2.2.1)
 (some ((((3 : Int), (v32.2.1, ())), ()), (r1.2.1, ())))
 (getO r1.2.1.1 r1.1.1 fun _ => (bnd (r1.2.1.1[(Int.toNat r1.1.1)]?) fun v35 => (bnd (r1.2.1.1[(Int.toNat r1.1.1)]?) fun v36 => (some ((((0 : Int), ((⟨#[]⟩ : ByteArray), ())), ()), (((List.set r1.2.1.1 (Int.toNat r1.1.1) (v36.1, (x.2.1.2.2.2.2.1, v36.2.2))), r1.2.1.2), ())))))))))))))))))
def sg116 : Sig := ⟨ins116, res116, f_impl_KvState_do⟩
abbrev ins68 : List Pm := [.mptr kdKvState (.pr (.o .s) (.pr (.o .s) .s)), .val kdCommand]
abbrev res68 : List (K × Mk) := [(kdReply, .s)]
abbrev f_impl_KvState_apply_i11c : Desc := ⟨[(0, .ptr 0 []), (3, .ptr 3 []), (4, .ptr 4 []), (5, .v (.int .i64)), (70, .v .bool)], [(3, ⟨kdCommand, .s, true⟩), (4, ⟨kdReply, .s, true⟩)]⟩
abbrev f_impl_KvState_apply_i11v : Desc := ⟨[], [(0, ⟨kdKvState, (.pr (.o .s) (.pr (.o .s) .s)), true⟩)]⟩
abbrev f_impl_KvState_apply_i11e : List (Ek × Desc) := [(.norm, ⟨[], [(0, ⟨kdKvState, (.pr (.o .s) (.pr (.o .s) .s)), true⟩)]⟩)]
def f_impl_KvState_apply_i11 (R : Type) (c : ((Int × Bool × Unit) × (DCommand × DReply × Unit))) (v : (Unit × (DKvState × Unit))) (kk : ((Int × Bool × Unit) × (DCommand × DReply × Unit)) → (Unit × (DKvState × Unit)) → Option R) : Option R :=
 (cond c.1.2.1
 (bnd ((f_slices_Insert kdSession) (v.2.1.2.1, (c.1.1, ([(c.2.1.1, ((0 : Int), (((0 : Int), ((⟨#[]⟩ : ByteArray), ())), ())))], ())))) fun r12 => (kk ((c.1.1, (c.1.2.1, ())), (c.2.1, (c.2.2.1, ()))) ((), ((v.2.1.1, (r12.1.1, v.2.1.2.2)), ()))))
 (kk ((c.1.1, (c.1.2.1, ())), (c.2.1, (c.2.2.1, ()))) ((), (v.2.1, ()))))
def f_impl_KvState_apply (x : (DKvState × DCommand × Unit)) : Option ((DReply × Unit) × (DKvState × Unit)) :=
 (bnd (f_impl_GoodCommand (x.2.1, ())) fun r1 => (cond (!r1.1.1)
 (some ((((4 : Int), ((⟨#[]⟩ : ByteArray), ())), ()), (x.1, ())))
 (bnd (f_impl_KvState_sessionAt (x.1, (x.2.1.1, ()))) fun r2 => (cond (!r2.1.2.1)
 (cond (ieq (llen r2.2.1.2.1) (12 : Int))
 (some ((((4 : Int), ((⟨#[]⟩ : ByteArray), ())), ()), (r2.2.1, ())))
 (cond r2.1.2.1
 (getO r2.2.1.2.1 r2.1.1 fun _ => (bnd (r2.2.1.2.1[(Int.toNat r2.1.1)]?) fun v4 => (bnd (r2.2.1.2.1[(Int.toNat r2.1.1)]?) fun v5 => (cond (ieq x.2.1.2.1 v5.2.1)
 (getO r2.2.1.2.1 r2.1.1 fun _ => (bnd (r2.2.1.2.1[(Int.toNat r2.1.1)]?) fun v7 => (bnd (r2.2.1.2.1[(Int.toNat r2.1.1)]?) fun v8 => (some ((v8.2.2.1, ()), (r2.2.1, ()))))))
 (cond r2.1.2.1
 (getO r2.2.1.2.1 r2.1.1 fun _ => (bnd (r2.2.1.2.1[(Int.toNat r2.1.1)]?) fun v10 => (bnd (r2.2.1.2.1[(Int.toNat r2.1.1)]?) fun v11 => (cond (ilt x.2.1.2.1 v11.2.1)
 (some ((((2 : Int), ((⟨#[]⟩ : ByteArray), ())), ()), (r2.2.1, ())))
 (f_impl_KvState_apply_i11 _ ((r2.1.1, ((!r2.1.2.1), ())), (x.2.1, (((0 : Int), ((⟨#[]⟩ : ByteArray), ())), ()))) ((), (r2.2.1, ())) fun c13 o14 =>
 (bnd (f_impl_KvState_do (o14.2.1, (c13.2.1, ()))) fun r15 => (getO r15.2.1.2.1 c13.1.1 fun _ => (bnd (r15.2.1.2.1[(Int.toNat c13.1.1)]?) fun v17 => (bnd (r15.2.1.2.1[(Int.toNat c13.1.1)]?) fun v18 => (getO (List.set r15.2.1.2.1 (Int.toNat c13.1.1) (v18.1, (c13.2.1.2.1, v18.2.2))) c13.1.1 fun _ => (bnd ((List.set r15.2.1.2.1 (Int.toNat c13.1.1) (v18.1, (c13.2.1.2.1, v18.2.2)))[(Int.toNat c13.1.1)]?) fun v20 => (bnd ((List.set r15.2.1.2.1 (Int.toNat c13.1.1) (v18.1, (c13.2.1.2.1, v18.2.2)))[(Int.toNat c13.1.1)]?) fun v21 => (some ((r15.1.1, ()), ((r15.2.1.1, ((List.set (List.set r15.2.1.2.1 (Int.toNat c13.1.1) (v18.1, (c13.2.1.2.1, v18.2.2))) (Int.toNat c13.1.1) (v21.1, (v21.2.1, (r15.1.1, v21.2.2.2)))), r15.2.1.2.2)), ())))))))))))))))
 (f_impl_KvState_apply_i11 _ ((r2.1.1, ((!r2.1.2.1), ())), (x.2.1, (((0 : Int), ((⟨#[]⟩ : ByteArray), ())), ()))) ((), (r2.2.1, ())) fun c22 o23 =>
 (bnd (f_impl_KvState_do (o23.2.1, (c22.2.1, ()))) fun r24 => (getO r24.2.1.2.1 c22.1.1 fun _ => (bnd (r24.2.1.2.1[(Int.toNat c22.1.1)]?) fun v26 => (bnd (r24.2.1.2.1[(Int.toNat c22.1.1)]?) fun v27 => (getO (List.set r24.2.1.2.1 (Int.toNat c22.1.1) (v27.1, (c22.2.1.2.1, v27.2.2))) c22.1.1 fun _ => (bnd ((List.set r24.2.1.2.1 (Int.toNat c22.1.1) (v27.1, (c22.2.1.2.1, v27.2.2)))[(Int.toNat c22.1.1)]?) fun v29 => (bnd ((List.set r24.2.1.2.1 (Int.toNat c22.1.1) (v27.1, (c22.2.1.2.1, v27.2.2)))[(Int.toNat c22.1.1)]?) fun v30 => (some ((r24.1.1, ()), ((r24.2.1.1, ((List.set (List.set r24.2.1.2.1 (Int.toNat c22.1.1) (v27.1, (c22.2.1.2.1, v27.2.2))) (Int.toNat c22.1.1) (v30.1, (v30.2.1, (r24.1.1, v30.2.2.2)))), r24.2.1.2.2)), ()))))))))))))))))
 (cond r2.1.2.1
 (getO r2.2.1.2.1 r2.1.1 fun _ => (bnd (r2.2.1.2.1[(Int.toNat r2.1.1)]?) fun v32 => (bnd (r2.2.1.2.1[(Int.toNat r2.1.1)]?) fun v33 => (cond (ilt x.2.1.2.1 v33.2.1)
 (some ((((2 : Int), ((⟨#[]⟩ : ByteArray), ())), ()), (r2.2.1, ())))
 (f_impl_KvState_apply_i11 _ ((r2.1.1, ((!r2.1.2.1), ())), (x.2.1, (((0 : Int), ((⟨#[]⟩ : ByteArray), ())), ()))) ((), (r2.2.1, ())) fun c34 o35 =>
 (bnd (f_impl_KvState_do (o35.2.1, (c34.2.1, ()))) fun r36 => (getO r36.2.1.2.1 c34.1.1 fun _ => (bnd (r36.2.1.2.1[(Int.toNat c34.1.1)]?) fun v38 => (bnd (r36.2.1.2.1[(Int.toNat c34.1.1)]?) fun v39 => (getO (List.set r36.2.1.2.1 (Int.toNat c34.1.1) (v39.1, (c34.2.1.2.1, v39.2.2))) c34.1.1 fun _ => (bnd ((List.set r36.2.1.2.1 (Int.toNat c34.1.1) (v39.1, (c34.2.1.2.1, v39.2.2)))[(Int.toNat c34.1.1)]?) fun v41 => (bnd ((List.set r36.2.1.2.1 (Int.toNat c34.1.1) (v39.1, (c34.2.1.2.1, v39.2.2)))[(Int.toNat c34.1.1)]?) fun v42 => (some ((r36.1.1, ()), ((r36.2.1.1, ((List.set (List.set r36.2.1.2.1 (Int.toNat c34.1.1) (v39.1, (c34.2.1.2.1, v39.2.2))) (Int.toNat c34.1.1) (v42.1, (v42.2.1, (r36.1.1, v42.2.2.2)))), r36.2.1.2.2)), ())))))))))))))))
 (f_impl_KvState_apply_i11 _ ((r2.1.1, ((!r2.1.2.1), ())), (x.2.1, (((0 : Int), ((⟨#[]⟩ : ByteArray), ())), ()))) ((), (r2.2.1, ())) fun c43 o44 =>
 (bnd (f_impl_KvState_do (o44.2.1, (c43.2.1, ()))) fun r45 => (getO r45.2.1.2.1 c43.1.1 fun _ => (bnd (r45.2.1.2.1[(Int.toNat c43.1.1)]?) fun v47 => (bnd (r45.2.1.2.1[(Int.toNat c43.1.1)]?) fun v48 => (getO (List.set r45.2.1.2.1 (Int.toNat c43.1.1) (v48.1, (c43.2.1.2.1, v48.2.2))) c43.1.1 fun _ => (bnd ((List.set r45.2.1.2.1 (Int.toNat c43.1.1) (v48.1, (c43.2.1.2.1, v48.2.2)))[(Int.toNat c43.1.1)]?) fun v50 => (bnd ((List.set r45.2.1.2.1 (Int.toNat c43.1.1) (v48.1, (c43.2.1.2.1, v48.2.2)))[(Int.toNat c43.1.1)]?) fun v51 => (some ((r45.1.1, ()), ((r45.2.1.1, ((List.set (List.set r45.2.1.2.1 (Int.toNat c43.1.1) (v48.1, (c43.2.1.2.1, v48.2.2))) (Int.toNat c43.1.1) (v51.1, (v51.2.1, (r45.1.1, v51.2.2.2)))), r45.2.1.2.2)), ()))))))))))))))
 (cond r2.1.2.1
 (getO r2.2.1.2.1 r2.1.1 fun _ => (bnd (r2.2.1.2.1[(Int.toNat r2.1.1)]?) fun v53 => (bnd (r2.2.1.2.1[(Int.toNat r2.1.1)]?) fun v54 => (cond (ieq x.2.1.2.1 v54.2.1)
 (getO r2.2.1.2.1 r2.1.1 fun _ => (bnd (r2.2.1.2.1[(Int.toNat r2.1.1)]?) fun v56 => (bnd (r2.2.1.2.1[(Int.toNat r2.1.1)]?) fun v57 => (some ((v57.2.2.1, ()), (r2.2.1, ()))))))
 (cond r2.1.2.1
 (getO r2.2.1.2.1 r2.1.1 fun _ => (bnd (r2.2.1.2.1[(Int.toNat r2.1.1)]?) fun v59 => (bnd (r2.2.1.2.1[(Int.toNat r2.1.1)]?) fun v60 => (cond (ilt x.2.1.2.1 v60.2.1)
 (some ((((2 : Int), ((⟨#[]⟩ : ByteArray), ())), ()), (r2.2.1, ())))
 (f_impl_KvState_apply_i11 _ ((r2.1.1, ((!r2.1.2.1), ())), (x.2.1, (((0 : Int), ((⟨#[]⟩ : ByteArray), ())), ()))) ((), (r2.2.1, ())) fun c61 o62 =>
 (bnd (f_impl_KvState_do (o62.2.1, (c61.2.1, ()))) fun r63 => (getO r63.2.1.2.1 c61.1.1 fun _ => (bnd (r63.2.1.2.1[(Int.toNat c61.1.1)]?) fun v65 => (bnd (r63.2.1.2.1[(Int.toNat c61.1.1)]?) fun v66 => (getO (List.set r63.2.1.2.1 (Int.toNat c61.1.1) (v66.1, (c61.2.1.2.1, v66.2.2))) c61.1.1 fun _ => (bnd ((List.set r63.2.1.2.1 (Int.toNat c61.1.1) (v66.1, (c61.2.1.2.1, v66.2.2)))[(Int.toNat c61.1.1)]?) fun v68 => (bnd ((List.set r63.2.1.2.1 (Int.toNat c61.1.1) (v66.1, (c61.2.1.2.1, v66.2.2)))[(Int.toNat c61.1.1)]?) fun v69 => (some ((r63.1.1, ()), ((r63.2.1.1, ((List.set (List.set r63.2.1.2.1 (Int.toNat c61.1.1) (v66.1, (c61.2.1.2.1, v66.2.2))) (Int.toNat c61.1.1) (v69.1, (v69.2.1, (r63.1.1, v69.2.2.2)))), r63.2.1.2.2)), ())))))))))))))))
 (f_impl_KvState_apply_i11 _ ((r2.1.1, ((!r2.1.2.1), ())), (x.2.1, (((0 : Int), ((⟨#[]⟩ : ByteArray), ())), ()))) ((), (r2.2.1, ())) fun c70 o71 =>
 (bnd (f_impl_KvState_do (o71.2.1, (c70.2.1, ()))) fun r72 => (getO r72.2.1.2.1 c70.1.1 fun _ => (bnd (r72.2.1.2.1[(Int.toNat c70.1.1)]?) fun v74 => (bnd (r72.2.1.2.1[(Int.toNat c70.1.1)]?) fun v75 => (getO (List.set r72.2.1.2.1 (Int.toNat c70.1.1) (v75.1, (c70.2.1.2.1, v75.2.2))) c70.1.1 fun _ => (bnd ((List.set r72.2.1.2.1 (Int.toNat c70.1.1) (v75.1, (c70.2.1.2.1, v75.2.2)))[(Int.toNat c70.1.1)]?) fun v77 => (bnd ((List.set r72.2.1.2.1 (Int.toNat c70.1.1) (v75.1, (c70.2.1.2.1, v75.2.2)))[(Int.toNat c70.1.1)]?) fun v78 => (some ((r72.1.1, ()), ((r72.2.1.1, ((List.set (List.set r72.2.1.2.1 (Int.toNat c70.1.1) (v75.1, (c70.2.1.2.1, v75.2.2))) (Int.toNat c70.1.1) (v78.1, (v78.2.1, (r72.1.1, v78.2.2.2)))), r72.2.1.2.2)), ()))))))))))))))))
 (cond r2.1.2.1
 (getO r2.2.1.2.1 r2.1.1 fun _ => (bnd (r2.2.1.2.1[(Int.toNat r2.1.1)]?) fun v80 => (bnd (r2.2.1.2.1[(Int.toNat r2.1.1)]?) fun v81 => (cond (ilt x.2.1.2.1 v81.2.1)
 (some ((((2 : Int), ((⟨#[]⟩ : ByteArray), ())), ()), (r2.2.1, ())))
 (f_impl_KvState_apply_i11 _ ((r2.1.1, ((!r2.1.2.1), ())), (x.2.1, (((0 : Int), ((⟨#[]⟩ : ByteArray), ())), ()))) ((), (r2.2.1, ())) fun c82 o83 =>
 (bnd (f_impl_KvState_do (o83.2.1, (c82.2.1, ()))) fun r84 => (getO r84.2.1.2.1 c82.1.1 fun _ => (bnd (r84.2.1.2.1[(Int.toNat c82.1.1)]?) fun v86 => (bnd (r84.2.1.2.1[(Int.toNat c82.1.1)]?) fun v87 => (getO (List.set r84.2.1.2.1 (Int.toNat c82.1.1) (v87.1, (c82.2.1.2.1, v87.2.2))) c82.1.1 fun _ => (bnd ((List.set r84.2.1.2.1 (Int.toNat c82.1.1) (v87.1, (c82.2.1.2.1, v87.2.2)))[(Int.toNat c82.1.1)]?) fun v89 => (bnd ((List.set r84.2.1.2.1 (Int.toNat c82.1.1) (v87.1, (c82.2.1.2.1, v87.2.2)))[(Int.toNat c82.1.1)]?) fun v90 => (some ((r84.1.1, ()), ((r84.2.1.1, ((List.set (List.set r84.2.1.2.1 (Int.toNat c82.1.1) (v87.1, (c82.2.1.2.1, v87.2.2))) (Int.toNat c82.1.1) (v90.1, (v90.2.1, (r84.1.1, v90.2.2.2)))), r84.2.1.2.2)), ())))))))))))))))
 (f_impl_KvState_apply_i11 _ ((r2.1.1, ((!r2.1.2.1), ())), (x.2.1, (((0 : Int), ((⟨#[]⟩ : ByteArray), ())), ()))) ((), (r2.2.1, ())) fun c91 o92 =>
 (bnd (f_impl_KvState_do (o92.2.1, (c91.2.1, ()))) fun r93 => (getO r93.2.1.2.1 c91.1.1 fun _ => (bnd (r93.2.1.2.1[(Int.toNat c91.1.1)]?) fun v95 => (bnd (r93.2.1.2.1[(Int.toNat c91.1.1)]?) fun v96 => (getO (List.set r93.2.1.2.1 (Int.toNat c91.1.1) (v96.1, (c91.2.1.2.1, v96.2.2))) c91.1.1 fun _ => (bnd ((List.set r93.2.1.2.1 (Int.toNat c91.1.1) (v96.1, (c91.2.1.2.1, v96.2.2)))[(Int.toNat c91.1.1)]?) fun v98 => (bnd ((List.set r93.2.1.2.1 (Int.toNat c91.1.1) (v96.1, (c91.2.1.2.1, v96.2.2)))[(Int.toNat c91.1.1)]?) fun v99 => (some ((r93.1.1, ()), ((r93.2.1.1, ((List.set (List.set r93.2.1.2.1 (Int.toNat c91.1.1) (v96.1, (c91.2.1.2.1, v96.2.2))) (Int.toNat c91.1.1) (v99.1, (v99.2.1, (r93.1.1, v99.2.2.2)))), r93.2.1.2.2)), ())))))))))))))))))
def sg68 : Sig := ⟨ins68, res68, f_impl_KvState_apply⟩
abbrev ins22 : List Pm := [.val (.sl kdCommand)]
abbrev res22 : List (K × Mk) := [(kdKvState, (.pr (.o .s) (.pr (.o .s) .s))), ((.sl kdReply), (.o .s)), (.bool, .s)]
abbrev f_impl_FoldCommands_l5c : Desc := ⟨[(2, .ptr 2 []), (5, .ptr 5 []), (6, .al 6 []), (15, .v (.sl kdCommand)), (16, .v (.int .i64))], [(2, ⟨kdKvState, (.pr (.o .s) (.pr (.o .s) .s)), true⟩)]⟩
abbrev f_impl_FoldCommands_l5v : Desc := ⟨[(17, .v (.int .i64))], [(5, ⟨kdKvState, (.pr (.o .s) (.pr (.o .s) .s)), true⟩), (6, ⟨(.sl kdReply), (.o .s), false⟩)]⟩
abbrev f_impl_FoldCommands_l5e : List (Ek × Desc) := [(.exit 0, ⟨[], [(5, ⟨kdKvState, (.pr (.o .s) (.pr (.o .s) .s)), true⟩), (6, ⟨(.sl kdReply), (.o .s), false⟩)]⟩)]
def f_impl_FoldCommands_l5 (R : Type) (c : (((List DCommand) × Int × Unit) × (DKvState × Unit))) (v : ((Int × Unit) × (DKvState × (List DReply) × Unit))) (kk : (((List DCommand) × Int × Unit) × (DKvState × Unit)) → (((Int × Unit) × (DKvState × (List DReply) × Unit)) ⊕ (Unit × (DKvState × (List DReply) × Unit))) → Option R) : Option R :=
 (cond (ilt v.1.1 c.1.2.1)
 (getO c.1.1 v.1.1 fun v1 => (bnd (f_impl_KvState_apply (v.2.1, (v1, ()))) fun r2 => (req (decide (List.length v.2.2.1 + List.length [r2.1.1] ≤ 17179869184)) (kk ((c.1.1, (c.1.2.1, ())), (c.2.1, ())) (.inl (((iadd .i64 v.1.1 (1 : Int)), ()), (r2.2.1, ((v.2.2.1 ++ [r2.1.1]), ()))))))))
 (kk ((c.1.1, (c.1.2.1, ())), (c.2.1, ())) (.inr ((), (v.2.1, (v.2.2.1, ()))))))
def f_impl_FoldCommands (x : ((List DCommand) × Unit)) : Option ((DKvState × (List DReply) × Bool × Unit) × Unit) :=
 (cond (ilt (100 : Int) (llen x.1))
 (some (((([] : List DPair), (([] : List DSession), ())), (([] : List DReply), (false, ()))), ()))
 (loopF (c := f_impl_FoldCommands_l5c) (v := f_impl_FoldCommands_l5v) (ex := f_impl_FoldCommands_l5e) f_impl_FoldCommands_l5 _ ((x.1, ((llen x.1), ())), ((([] : List DPair), (([] : List DSession), ())), ())) (((0 : Int), ()), ((([] : List DPair), (([] : List DSession), ())), (([] : List DReply), ()))) fun c3 o4 =>
 (some ((o4.2.1, (o4.2.2.1, (true, ()))), ()))))
def sg22 : Sig := ⟨ins22, res22, f_impl_FoldCommands⟩
abbrev ins103 : List Pm := [.val (.sl kdSession), .val (.int .i64)]
abbrev res103 : List (K × Mk) := [((.int .i64), .s), (.bool, .s)]
abbrev f_spec_l14Session_l2c : Desc := ⟨[(0, .v (.sl kdSession)), (1, .v (.int .i64))], []⟩
abbrev f_spec_l14Session_l2v : Desc := ⟨[(6, .v (.int .i64))], []⟩
abbrev f_spec_l14Session_l2e : List (Ek × Desc) := [(.exit 0, ⟨[(6, .v (.int .i64))], []⟩)]
def f_spec_l14Session_l2 (R : Type) (c : (((List DSession) × Int × Unit) × Unit)) (v : ((Int × Unit) × Unit)) (kk : (((List DSession) × Int × Unit) × Unit) → (((Int × Unit) × Unit) ⊕ ((Int × Unit) × Unit)) → Option R) : Option R :=
 (cond (ilt v.1.1 (llen c.1.1))
 (getO c.1.1 v.1.1 fun v1 => (cond (ilt v1.1 c.1.2.1)
 (kk ((c.1.1, (c.1.2.1, ())), ()) (.inl (((iadd .i64 v.1.1 (1 : Int)), ()), ())))
 (kk ((c.1.1, (c.1.2.1, ())), ()) (.inr ((v.1.1, ()), ())))))
 (kk ((c.1.1, (c.1.2.1, ())), ()) (.inr ((v.1.1, ()), ()))))
def f_spec_l14Session (x : ((List DSession) × Int × Unit)) : Option ((Int × Bool × Unit) × Unit) :=
 (loopF (c := f_spec_l14Session_l2c) (v := f_spec_l14Session_l2v) (ex := f_spec_l14Session_l2e) f_spec_l14Session_l2 _ ((x.1, (x.2.1, ())), ()) (((0 : Int), ()), ()) fun c2 o3 =>
 (cond (ilt o3.1.1 (llen c2.1.1))
 (getO c2.1.1 o3.1.1 fun v4 => (some ((o3.1.1, ((ieq v4.1 c2.1.2.1), ())), ())))
 (some ((o3.1.1, (false, ())), ()))))
def sg103 : Sig := ⟨ins103, res103, f_spec_l14Session⟩
abbrev ins140 : List Pm := [.val (.sl kdPair), .val .str]
abbrev res140 : List (K × Mk) := [((.int .i64), .s), (.bool, .s)]
abbrev f_spec_l14Cell_l2c : Desc := ⟨[(0, .v (.sl kdPair)), (1, .v .str)], []⟩
abbrev f_spec_l14Cell_l2v : Desc := ⟨[(6, .v (.int .i64))], []⟩
abbrev f_spec_l14Cell_l2e : List (Ek × Desc) := [(.exit 0, ⟨[(6, .v (.int .i64))], []⟩)]
def f_spec_l14Cell_l2 (R : Type) (c : (((List DPair) × ByteArray × Unit) × Unit)) (v : ((Int × Unit) × Unit)) (kk : (((List DPair) × ByteArray × Unit) × Unit) → (((Int × Unit) × Unit) ⊕ ((Int × Unit) × Unit)) → Option R) : Option R :=
 (cond (ilt v.1.1 (llen c.1.1))
 (getO c.1.1 v.1.1 fun v1 => (cond (slt v1.1 c.1.2.1)
 (kk ((c.1.1, (c.1.2.1, ())), ()) (.inl (((iadd .i64 v.1.1 (1 : Int)), ()), ())))
 (kk ((c.1.1, (c.1.2.1, ())), ()) (.inr ((v.1.1, ()), ())))))
 (kk ((c.1.1, (c.1.2.1, ())), ()) (.inr ((v.1.1, ()), ()))))
def f_spec_l14Cell (x : ((List DPair) × ByteArray × Unit)) : Option ((Int × Bool × Unit) × Unit) :=
 (loopF (c := f_spec_l14Cell_l2c) (v := f_spec_l14Cell_l2v) (ex := f_spec_l14Cell_l2e) f_spec_l14Cell_l2 _ ((x.1, (x.2.1, ())), ()) (((0 : Int), ()), ()) fun c2 o3 =>
 (cond (ilt o3.1.1 (llen c2.1.1))
 (getO c2.1.1 o3.1.1 fun v4 => (some ((o3.1.1, ((seq v4.1 c2.1.2.1), ())), ())))
 (some ((o3.1.1, (false, ())), ()))))
def sg140 : Sig := ⟨ins140, res140, f_spec_l14Cell⟩
abbrev ins141 : List Pm := [.val (.sl kdPair), .val kdPair]
abbrev res141 : List (K × Mk) := [((.sl kdPair), .s)]
abbrev f_spec_l14Put_i6c : Desc := ⟨[(0, .v (.sl kdPair)), (7, .al 7 []), (24, .v .bool)], [(7, ⟨(.sl kdPair), (.o .s), false⟩)]⟩
abbrev f_spec_l14Put_i6v : Desc := ⟨[(5, .v (.int .i64))], []⟩
abbrev f_spec_l14Put_i6e : List (Ek × Desc) := [(.norm, ⟨[(5, .v (.int .i64))], []⟩)]
def f_spec_l14Put_i6 (R : Type) (c : (((List DPair) × Bool × Unit) × ((List DPair) × Unit))) (v : ((Int × Unit) × Unit)) (kk : (((List DPair) × Bool × Unit) × ((List DPair) × Unit)) → ((Int × Unit) × Unit) → Option R) : Option R :=
 (cond c.1.2.1
 (kk ((c.1.1, (c.1.2.1, ())), (c.2.1, ())) (((iadd .i64 v.1.1 (1 : Int)), ()), ()))
 (kk ((c.1.1, (c.1.2.1, ())), (c.2.1, ())) ((v.1.1, ()), ())))
def f_spec_l14Put (x : ((List DPair) × DPair × Unit)) : Option (((List DPair) × Unit) × Unit) :=
 (bnd (f_spec_l14Cell (x.1, (x.2.1.1, ()))) fun r1 => (req (decide ((0 : Int) ≤ r1.1.1) && decide (r1.1.1 ≤ ((List.length x.1) : Int))) (req (decide (List.length ([] : List DPair) + List.length (List.take ((Int.toNat r1.1.1) - (0 : Nat)) (List.drop (0 : Nat) x.1)) ≤ 17179869184)) (req (decide (List.length (([] : List DPair) ++ (List.take ((Int.toNat r1.1.1) - (0 : Nat)) (List.drop (0 : Nat) x.1))) + List.length [x.2.1] ≤ 17179869184)) (f_spec_l14Put_i6 _ ((x.1, (r1.1.2.1, ())), (((([] : List DPair) ++ (List.take ((Int.toNat r1.1.1) - (0 : Nat)) (List.drop (0 : Nat) x.1))) ++ [x.2.1]), ())) ((r1.1.1, ()), ()) fun c2 o3 =>
 (req (decide ((0 : Int) ≤ o3.1.1) && decide (o3.1.1 ≤ ((List.length c2.1.1) : Int))) (req (decide (List.length c2.2.1 + List.length (List.take ((List.length c2.1.1) - (Int.toNat o3.1.1)) (List.drop (Int.toNat o3.1.1) c2.1.1)) ≤ 17179869184)) (some (((c2.2.1 ++ (List.take ((List.length c2.1.1) - (Int.toNat o3.1.1)) (List.drop (Int.toNat o3.1.1) c2.1.1))), ()), ())))))))))
def sg141 : Sig := ⟨ins141, res141, f_spec_l14Put⟩
abbrev ins104 : List Pm := [.val (.sl kdPair), .val kdCommand]
abbrev res104 : List (K × Mk) := [((.sl kdPair), .s), (kdReply, .s)]
def f_spec_l14Do (x : ((List DPair) × DCommand × Unit)) : Option (((List DPair) × DReply × Unit) × Unit) :=
 (bnd (f_spec_l14Cell (x.1, (x.2.1.2.2.2.1, ()))) fun r1 => (cond (ieq x.2.1.2.2.1 (2 : Int))
 (cond (!r1.1.2.1)
 (cond (ieq (llen x.1) (40 : Int))
 (some ((x.1, (((4 : Int), ((⟨#[]⟩ : ByteArray), ())), ())), ()))
 (bnd (f_spec_l14Put (x.1, ((x.2.1.2.2.2.1, (x.2.1.2.2.2.2.1, ())), ()))) fun r2 => (some ((r2.1.1, (((0 : Int), ((⟨#[]⟩ : ByteArray), ())), ())), ()))))
 (bnd (f_spec_l14Put (x.1, ((x.2.1.2.2.2.1, (x.2.1.2.2.2.2.1, ())), ()))) fun r3 => (some ((r3.1.1, (((0 : Int), ((⟨#[]⟩ : ByteArray), ())), ())), ()))))
 (cond (!r1.1.2.1)
 (some ((x.1, (((1 : Int), ((⟨#[]⟩ : ByteArray), ())), ())), ()))
 (getO x.1 r1.1.1 fun v4 => (cond (ieq x.2.1.2.2.1 (1 : Int))
 (some ((x.1, (((0 : Int), (v4.2.1, ())), ())), ()))
 (cond (ieq x.2.1.2.2.1 (3 : Int))
 (req (decide ((0 : Int) ≤ r1.1.1) && decide (r1.1.1 ≤ ((List.length x.1) : Int))) (req (decide (List.length (List.take ((Int.toNat r1.1.1) - (0 : Nat)) (List.drop (0 : Nat) x.1)) ≤ 17179869184)) (req (decide ((0 : Int) ≤ (iadd .i64 r1.1.1 (1 : Int))) && decide ((iadd .i64 r1.1.1 (1 : Int)) ≤ ((List.length x.1) : Int))) (req (decide (List.length (List.take ((Int.toNat r1.1.1) - (0 : Nat)) (List.drop (0 : Nat) x.1)) + List.length (List.take ((List.length x.1) - (Int.toNat (iadd .i64 r1.1.1 (1 : Int)))) (List.drop (Int.toNat (iadd .i64 r1.1.1 (1 : Int))) x.1)) ≤ 17179869184)) (some ((((List.take ((Int.toNat r1.1.1) - (0 : Nat)) (List.drop (0 : Nat) x.1)) ++ (List.take ((List.length x.1) - (Int.toNat (iadd .i64 r1.1.1 (1 : Int)))) (List.drop (Int.toNat (iadd .i64 r1.1.1 (1 : Int))) x.1))), (((0 : Int), (v4.2.1, ())), ())), ()))))))
 (cond (!seq v4.2.1 x.2.1.2.2.2.2.2.1)
 (some ((x.1, (((3 : Int), (v4.2.1, ())), ())), ()))
 (bnd (f_spec_l14Put (x.1, ((x.2.1.2.2.2.1, (x.2.1.2.2.2.2.1, ())), ()))) fun r5 => (some ((r5.1.1, (((0 : Int), ((⟨#[]⟩ : ByteArray), ())), ())), ()))))))))))
def sg104 : Sig := ⟨ins104, res104, f_spec_l14Do⟩
abbrev ins50 : List Pm := [.val kdKvState, .val kdCommand]
abbrev res50 : List (K × Mk) := [(kdKvState, .s), (kdReply, .s)]
abbrev f_spec_l14Apply_i14c : Desc := ⟨[(2, .ptr 2 []), (4, .ptr 4 []), (5, .ptr 5 []), (9, .ptr 9 []), (10, .al 10 []), (94, .v .bool)], [(2, ⟨kdKvState, .s, true⟩), (4, ⟨kdKvState, (.pr (.o .s) (.pr (.o .s) .s)), true⟩), (5, ⟨kdReply, .s, true⟩), (9, ⟨kdReply, .s, true⟩), (10, ⟨(.sl kdSession), (.o .s), false⟩)]⟩
abbrev f_spec_l14Apply_i14v : Desc := ⟨[(6, .v (.int .i64))], []⟩
abbrev f_spec_l14Apply_i14e : List (Ek × Desc) := [(.norm, ⟨[(6, .v (.int .i64))], []⟩)]
def f_spec_l14Apply_i14 (R : Type) (c : ((Bool × Unit) × (DKvState × DKvState × DReply × DReply × (List DSession) × Unit))) (v : ((Int × Unit) × Unit)) (kk : ((Bool × Unit) × (DKvState × DKvState × DReply × DReply × (List DSession) × Unit)) → ((Int × Unit) × Unit) → Option R) : Option R :=
 (cond c.1.1
 (kk ((c.1.1, ()), (c.2.1, (c.2.2.1, (c.2.2.2.1, (c.2.2.2.2.1, (c.2.2.2.2.2.1, ())))))) (((iadd .i64 v.1.1 (1 : Int)), ()), ()))
 (kk ((c.1.1, ()), (c.2.1, (c.2.2.1, (c.2.2.2.1, (c.2.2.2.2.1, (c.2.2.2.2.2.1, ())))))) ((v.1.1, ()), ())))
def f_spec_l14Apply (x : (DKvState × DCommand × Unit)) : Option ((DKvState × DReply × Unit) × Unit) :=
 (bnd (f_spec_l14Session (x.1.2.1, (x.2.1.1, ()))) fun r1 => (bnd (f_spec_GoodCommand (x.2.1, ())) fun r2 => (cond (!r2.1.1)
 (some ((x.1, (((4 : Int), ((⟨#[]⟩ : ByteArray), ())), ())), ()))
 (cond (!r1.1.2.1)
 (cond (ieq (llen x.1.2.1) (12 : Int))
 (some ((x.1, (((4 : Int), ((⟨#[]⟩ : ByteArray), ())), ())), ()))
 (cond r1.1.2.1
 (getO x.1.2.1 r1.1.1 fun v3 => (cond (ieq v3.2.1 x.2.1.2.1)
 (getO x.1.2.1 r1.1.1 fun v4 => (some ((x.1, (v4.2.2.1, ())), ())))
 (cond r1.1.2.1
 (getO x.1.2.1 r1.1.1 fun v5 => (cond (ilt x.2.1.2.1 v5.2.1)
 (some ((x.1, (((2 : Int), ((⟨#[]⟩ : ByteArray), ())), ())), ()))
 (bnd (f_spec_l14Do (x.1.1, (x.2.1, ()))) fun r6 => (req (decide ((0 : Int) ≤ r1.1.1) && decide (r1.1.1 ≤ ((List.length x.1.2.1) : Int))) (req (decide (List.length ([] : List DSession) + List.length (List.take ((Int.toNat r1.1.1) - (0 : Nat)) (List.drop (0 : Nat) x.1.2.1)) ≤ 17179869184)) (req (decide (List.length (([] : List DSession) ++ (List.take ((Int.toNat r1.1.1) - (0 : Nat)) (List.drop (0 : Nat) x.1.2.1))) + List.length [(x.2.1.1, (x.2.1.2.1, (r6.1.2.1, ())))] ≤ 17179869184)) (f_spec_l14Apply_i14 _ ((r1.1.2.1, ()), ((r6.1.1, x.1.2), ((([] : List DPair), (([] : List DSession), ())), (((0 : Int), ((⟨#[]⟩ : ByteArray), ())), (r6.1.2.1, (((([] : List DSession) ++ (List.take ((Int.toNat r1.1.1) - (0 : Nat)) (List.drop (0 : Nat) x.1.2.1))) ++ [(x.2.1.1, (x.2.1.2.1, (r6.1.2.1, ())))]), ())))))) ((r1.1.1, ()), ()) fun c7 o8 =>
 (req (decide ((0 : Int) ≤ o8.1.1) && decide (o8.1.1 ≤ ((List.length c7.2.1.2.1) : Int))) (req (decide (List.length c7.2.2.2.2.2.1 + List.length (List.take ((List.length c7.2.1.2.1) - (Int.toNat o8.1.1)) (List.drop (Int.toNat o8.1.1) c7.2.1.2.1)) ≤ 17179869184)) (some (((c7.2.1.1, ((c7.2.2.2.2.2.1 ++ (List.take ((List.length c7.2.1.2.1) - (Int.toNat o8.1.1)) (List.drop (Int.toNat o8.1.1) c7.2.1.2.1))), c7.2.1.2.2)), (c7.2.2.2.2.1, ())), ())))))))))))
 (bnd (f_spec_l14Do (x.1.1, (x.2.1, ()))) fun r9 => (req (decide ((0 : Int) ≤ r1.1.1) && decide (r1.1.1 ≤ ((List.length x.1.2.1) : Int))) (req (decide (List.length ([] : List DSession) + List.length (List.take ((Int.toNat r1.1.1) - (0 : Nat)) (List.drop (0 : Nat) x.1.2.1)) ≤ 17179869184)) (req (decide (List.length (([] : List DSession) ++ (List.take ((Int.toNat r1.1.1) - (0 : Nat)) (List.drop (0 : Nat) x.1.2.1))) + List.length [(x.2.1.1, (x.2.1.2.1, (r9.1.2.1, ())))] ≤ 17179869184)) (f_spec_l14Apply_i14 _ ((r1.1.2.1, ()), ((r9.1.1, x.1.2), ((([] : List DPair), (([] : List DSession), ())), (((0 : Int), ((⟨#[]⟩ : ByteArray), ())), (r9.1.2.1, (((([] : List DSession) ++ (List.take ((Int.toNat r1.1.1) - (0 : Nat)) (List.drop (0 : Nat) x.1.2.1))) ++ [(x.2.1.1, (x.2.1.2.1, (r9.1.2.1, ())))]), ())))))) ((r1.1.1, ()), ()) fun c10 o11 =>
 (req (decide ((0 : Int) ≤ o11.1.1) && decide (o11.1.1 ≤ ((List.length c10.2.1.2.1) : Int))) (req (decide (List.length c10.2.2.2.2.2.1 + List.length (List.take ((List.length c10.2.1.2.1) - (Int.toNat o11.1.1)) (List.drop (Int.toNat o11.1.1) c10.2.1.2.1)) ≤ 17179869184)) (some (((c10.2.1.1, ((c10.2.2.2.2.2.1 ++ (List.take ((List.length c10.2.1.2.1) - (Int.toNat o11.1.1)) (List.drop (Int.toNat o11.1.1) c10.2.1.2.1))), c10.2.1.2.2)), (c10.2.2.2.2.1, ())), ()))))))))))))
 (cond r1.1.2.1
 (getO x.1.2.1 r1.1.1 fun v12 => (cond (ilt x.2.1.2.1 v12.2.1)
 (some ((x.1, (((2 : Int), ((⟨#[]⟩ : ByteArray), ())), ())), ()))
 (bnd (f_spec_l14Do (x.1.1, (x.2.1, ()))) fun r13 => (req (decide ((0 : Int) ≤ r1.1.1) && decide (r1.1.1 ≤ ((List.length x.1.2.1) : Int))) (req (decide (List.length ([] : List DSession) + List.length (List.take ((Int.toNat r1.1.1) - (0 : Nat)) (List.drop (0 : Nat) x.1.2.1)) ≤ 17179869184)) (req (decide (List.length (([] : List DSession) ++ (List.take ((Int.toNat r1.1.1) - (0 : Nat)) (List.drop (0 : Nat) x.1.2.1))) + List.length [(x.2.1.1, (x.2.1.2.1, (r13.1.2.1, ())))] ≤ 17179869184)) (f_spec_l14Apply_i14 _ ((r1.1.2.1, ()), ((r13.1.1, x.1.2), ((([] : List DPair), (([] : List DSession), ())), (((0 : Int), ((⟨#[]⟩ : ByteArray), ())), (r13.1.2.1, (((([] : List DSession) ++ (List.take ((Int.toNat r1.1.1) - (0 : Nat)) (List.drop (0 : Nat) x.1.2.1))) ++ [(x.2.1.1, (x.2.1.2.1, (r13.1.2.1, ())))]), ())))))) ((r1.1.1, ()), ()) fun c14 o15 =>
 (req (decide ((0 : Int) ≤ o15.1.1) && decide (o15.1.1 ≤ ((List.length c14.2.1.2.1) : Int))) (req (decide (List.length c14.2.2.2.2.2.1 + List.length (List.take ((List.length c14.2.1.2.1) - (Int.toNat o15.1.1)) (List.drop (Int.toNat o15.1.1) c14.2.1.2.1)) ≤ 17179869184)) (some (((c14.2.1.1, ((c14.2.2.2.2.2.1 ++ (List.take ((List.length c14.2.1.2.1) - (Int.toNat o15.1.1)) (List.drop (Int.toNat o15.1.1) c14.2.1.2.1))), c14.2.1.2.2)), (c14.2.2.2.2.1, ())), ())))))))))))
 (bnd (f_spec_l14Do (x.1.1, (x.2.1, ()))) fun r16 => (req (decide ((0 : Int) ≤ r1.1.1) && decide (r1.1.1 ≤ ((List.length x.1.2.1) : Int))) (req (decide (List.length ([] : List DSession) + List.length (List.take ((Int.toNat r1.1.1) - (0 : Nat)) (List.drop (0 : Nat) x.1.2.1)) ≤ 17179869184)) (req (decide (List.length (([] : List DSession) ++ (List.take ((Int.toNat r1.1.1) - (0 : Nat)) (List.drop (0 : Nat) x.1.2.1))) + List.length [(x.2.1.1, (x.2.1.2.1, (r16.1.2.1, ())))] ≤ 17179869184)) (f_spec_l14Apply_i14 _ ((r1.1.2.1, ()), ((r16.1.1, x.1.2), ((([] : List DPair), (([] : List DSession), ())), (((0 : Int), ((⟨#[]⟩ : ByteArray), ())), (r16.1.2.1, (((([] : List DSession) ++ (List.take ((Int.toNat r1.1.1) - (0 : Nat)) (List.drop (0 : Nat) x.1.2.1))) ++ [(x.2.1.1, (x.2.1.2.1, (r16.1.2.1, ())))]), ())))))) ((r1.1.1, ()), ()) fun c17 o18 =>
 (req (decide ((0 : Int) ≤ o18.1.1) && decide (o18.1.1 ≤ ((List.length c17.2.1.2.1) : Int))) (req (decide (List.length c17.2.2.2.2.2.1 + List.length (List.take ((List.length c17.2.1.2.1) - (Int.toNat o18.1.1)) (List.drop (Int.toNat o18.1.1) c17.2.1.2.1)) ≤ 17179869184)) (some (((c17.2.1.1, ((c17.2.2.2.2.2.1 ++ (List.take ((List.length c17.2.1.2.1) - (Int.toNat o18.1.1)) (List.drop (Int.toNat o18.1.1) c17.2.1.2.1))), c17.2.1.2.2)), (c17.2.2.2.2.1, ())), ()))))))))))))
 (cond r1.1.2.1
 (getO x.1.2.1 r1.1.1 fun v19 => (cond (ieq v19.2.1 x.2.1.2.1)
 (getO x.1.2.1 r1.1.1 fun v20 => (some ((x.1, (v20.2.2.1, ())), ())))
 (cond r1.1.2.1
 (getO x.1.2.1 r1.1.1 fun v21 => (cond (ilt x.2.1.2.1 v21.2.1)
 (some ((x.1, (((2 : Int), ((⟨#[]⟩ : ByteArray), ())), ())), ()))
 (bnd (f_spec_l14Do (x.1.1, (x.2.1, ()))) fun r22 => (req (decide ((0 : Int) ≤ r1.1.1) && decide (r1.1.1 ≤ ((List.length x.1.2.1) : Int))) (req (decide (List.length ([] : List DSession) + List.length (List.take ((Int.toNat r1.1.1) - (0 : Nat)) (List.drop (0 : Nat) x.1.2.1)) ≤ 17179869184)) (req (decide (List.length (([] : List DSession) ++ (List.take ((Int.toNat r1.1.1) - (0 : Nat)) (List.drop (0 : Nat) x.1.2.1))) + List.length [(x.2.1.1, (x.2.1.2.1, (r22.1.2.1, ())))] ≤ 17179869184)) (f_spec_l14Apply_i14 _ ((r1.1.2.1, ()), ((r22.1.1, x.1.2), ((([] : List DPair), (([] : List DSession), ())), (((0 : Int), ((⟨#[]⟩ : ByteArray), ())), (r22.1.2.1, (((([] : List DSession) ++ (List.take ((Int.toNat r1.1.1) - (0 : Nat)) (List.drop (0 : Nat) x.1.2.1))) ++ [(x.2.1.1, (x.2.1.2.1, (r22.1.2.1, ())))]), ())))))) ((r1.1.1, ()), ()) fun c23 o24 =>
 (req (decide ((0 : Int) ≤ o24.1.1) && decide (o24.1.1 ≤ ((List.length c23.2.1.2.1) : Int))) (req (decide (List.length c23.2.2.2.2.2.1 + List.length (List.take ((List.length c23.2.1.2.1) - (Int.toNat o24.1.1)) (List.drop (Int.toNat o24.1.1) c23.2.1.2.1)) ≤ 17179869184)) (some (((c23.2.1.1, ((c23.2.2.2.2.2.1 ++ (List.take ((List.length c23.2.1.2.1) - (Int.toNat o24.1.1)) (List.drop (Int.toNat o24.1.1) c23.2.1.2.1))), c23.2.1.2.2)), (c23.2.2.2.2.1, ())), ())))))))))))
 (bnd (f_spec_l14Do (x.1.1, (x.2.1, ()))) fun r25 => (req (decide ((0 : Int) ≤ r1.1.1) && decide (r1.1.1 ≤ ((List.length x.1.2.1) : Int))) (req (decide (List.length ([] : List DSession) + List.length (List.take ((Int.toNat r1.1.1) - (0 : Nat)) (List.drop (0 : Nat) x.1.2.1)) ≤ 17179869184)) (req (decide (List.length (([] : List DSession) ++ (List.take ((Int.toNat r1.1.1) - (0 : Nat)) (List.drop (0 : Nat) x.1.2.1))) + List.length [(x.2.1.1, (x.2.1.2.1, (r25.1.2.1, ())))] ≤ 17179869184)) (f_spec_l14Apply_i14 _ ((r1.1.2.1, ()), ((r25.1.1, x.1.2), ((([] : List DPair), (([] : List DSession), ())), (((0 : Int), ((⟨#[]⟩ : ByteArray), ())), (r25.1.2.1, (((([] : List DSession) ++ (List.take ((Int.toNat r1.1.1) - (0 : Nat)) (List.drop (0 : Nat) x.1.2.1))) ++ [(x.2.1.1, (x.2.1.2.1, (r25.1.2.1, ())))]), ())))))) ((r1.1.1, ()), ()) fun c26 o27 =>
 (req (decide ((0 : Int) ≤ o27.1.1) && decide (o27.1.1 ≤ ((List.length c26.2.1.2.1) : Int))) (req (decide (List.length c26.2.2.2.2.2.1 + List.length (List.take ((List.length c26.2.1.2.1) - (Int.toNat o27.1.1)) (List.drop (Int.toNat o27.1.1) c26.2.1.2.1)) ≤ 17179869184)) (some (((c26.2.1.1, ((c26.2.2.2.2.2.1 ++ (List.take ((List.length c26.2.1.2.1) - (Int.toNat o27.1.1)) (List.drop (Int.toNat o27.1.1) c26.2.1.2.1))), c26.2.1.2.2)), (c26.2.2.2.2.1, ())), ()))))))))))))
 (cond r1.1.2.1
 (getO x.1.2.1 r1.1.1 fun v28 => (cond (ilt x.2.1.2.1 v28.2.1)
 (some ((x.1, (((2 : Int), ((⟨#[]⟩ : ByteArray), ())), ())), ()))
 (bnd (f_spec_l14Do (x.1.1, (x.2.1, ()))) fun r29 => (req (decide ((0 : Int) ≤ r1.1.1) && decide (r1.1.1 ≤ ((List.length x.1.2.1) : Int))) (req (decide (List.length ([] : List DSession) + List.length (List.take ((Int.toNat r1.1.1) - (0 : Nat)) (List.drop (0 : Nat) x.1.2.1)) ≤ 17179869184)) (req (decide (List.length (([] : List DSession) ++ (List.take ((Int.toNat r1.1.1) - (0 : Nat)) (List.drop (0 : Nat) x.1.2.1))) + List.length [(x.2.1.1, (x.2.1.2.1, (r29.1.2.1, ())))] ≤ 17179869184)) (f_spec_l14Apply_i14 _ ((r1.1.2.1, ()), ((r29.1.1, x.1.2), ((([] : List DPair), (([] : List DSession), ())), (((0 : Int), ((⟨#[]⟩ : ByteArray), ())), (r29.1.2.1, (((([] : List DSession) ++ (List.take ((Int.toNat r1.1.1) - (0 : Nat)) (List.drop (0 : Nat) x.1.2.1))) ++ [(x.2.1.1, (x.2.1.2.1, (r29.1.2.1, ())))]), ())))))) ((r1.1.1, ()), ()) fun c30 o31 =>
 (req (decide ((0 : Int) ≤ o31.1.1) && decide (o31.1.1 ≤ ((List.length c30.2.1.2.1) : Int))) (req (decide (List.length c30.2.2.2.2.2.1 + List.length (List.take ((List.length c30.2.1.2.1) - (Int.toNat o31.1.1)) (List.drop (Int.toNat o31.1.1) c30.2.1.2.1)) ≤ 17179869184)) (some (((c30.2.1.1, ((c30.2.2.2.2.2.1 ++ (List.take ((List.length c30.2.1.2.1) - (Int.toNat o31.1.1)) (List.drop (Int.toNat o31.1.1) c30.2.1.2.1))), c30.2.1.2.2)), (c30.2.2.2.2.1, ())), ())))))))))))
 (bnd (f_spec_l14Do (x.1.1, (x.2.1, ()))) fun r32 => (req (decide ((0 : Int) ≤ r1.1.1) && decide (r1.1.1 ≤ ((List.length x.1.2.1) : Int))) (req (decide (List.length ([] : List DSession) + List.length (List.take ((Int.toNat r1.1.1) - (0 : Nat)) (List.drop (0 : Nat) x.1.2.1)) ≤ 17179869184)) (req (decide (List.length (([] : List DSession) ++ (List.take ((Int.toNat r1.1.1) - (0 : Nat)) (List.drop (0 : Nat) x.1.2.1))) + List.length [(x.2.1.1, (x.2.1.2.1, (r32.1.2.1, ())))] ≤ 17179869184)) (f_spec_l14Apply_i14 _ ((r1.1.2.1, ()), ((r32.1.1, x.1.2), ((([] : List DPair), (([] : List DSession), ())), (((0 : Int), ((⟨#[]⟩ : ByteArray), ())), (r32.1.2.1, (((([] : List DSession) ++ (List.take ((Int.toNat r1.1.1) - (0 : Nat)) (List.drop (0 : Nat) x.1.2.1))) ++ [(x.2.1.1, (x.2.1.2.1, (r32.1.2.1, ())))]), ())))))) ((r1.1.1, ()), ()) fun c33 o34 =>
 (req (decide ((0 : Int) ≤ o34.1.1) && decide (o34.1.1 ≤ ((List.length c33.2.1.2.1) : Int))) (req (decide (List.length c33.2.2.2.2.2.1 + List.length (List.take ((List.length c33.2.1.2.1) - (Int.toNat o34.1.1)) (List.drop (Int.toNat o34.1.1) c33.2.1.2.1)) ≤ 17179869184)) (some (((c33.2.1.1, ((c33.2.2.2.2.2.1 ++ (List.take ((List.length c33.2.1.2.1) - (Int.toNat o34.1.1)) (List.drop (Int.toNat o34.1.1) c33.2.1.2.1))), c33.2.1.2.2)), (c33.2.2.2.2.1, ())), ())))))))))))))))
def sg50 : Sig := ⟨ins50, res50, f_spec_l14Apply⟩
abbrev ins69 : List Pm := [.val kdKvState]
abbrev res69 : List (K × Mk) := [(kdKvState, (.pr (.o .s) (.pr (.o .s) .s)))]
def f_spec_l14Own (x : (DKvState × Unit)) : Option ((DKvState × Unit) × Unit) :=
 (req (decide (List.length x.1.1 ≤ 17179869184)) (req (decide (List.length x.1.2.1 ≤ 17179869184)) (some (((x.1.1, (x.1.2.1, x.1.2.2)), ()), ()))))
def sg69 : Sig := ⟨ins69, res69, f_spec_l14Own⟩
abbrev ins23 : List Pm := [.val (.sl kdCommand)]
abbrev res23 : List (K × Mk) := [(kdKvState, (.pr (.o .s) (.pr (.o .s) .s))), ((.sl kdReply), (.o .s)), (.bool, .s)]
abbrev f_spec_FoldCommands_l6c : Desc := ⟨[(2, .ptr 2 []), (5, .ptr 5 []), (6, .al 6 []), (16, .v (.sl kdCommand)), (17, .v (.int .i64))], [(2, ⟨kdKvState, (.pr (.o .s) (.pr (.o .s) .s)), true⟩)]⟩
abbrev f_spec_FoldCommands_l6v : Desc := ⟨[(18, .v (.int .i64))], [(5, ⟨kdKvState, .s, true⟩), (6, ⟨(.sl kdReply), (.o .s), false⟩)]⟩
abbrev f_spec_FoldCommands_l6e : List (Ek × Desc) := [(.exit 0, ⟨[], [(5, ⟨kdKvState, .s, true⟩), (6, ⟨(.sl kdReply), (.o .s), false⟩)]⟩)]
def f_spec_FoldCommands_l6 (R : Type) (c : (((List DCommand) × Int × Unit) × (DKvState × Unit))) (v : ((Int × Unit) × (DKvState × (List DReply) × Unit))) (kk : (((List DCommand) × Int × Unit) × (DKvState × Unit)) → (((Int × Unit) × (DKvState × (List DReply) × Unit)) ⊕ (Unit × (DKvState × (List DReply) × Unit))) → Option R) : Option R :=
 (cond (ilt v.1.1 c.1.2.1)
 (getO c.1.1 v.1.1 fun v1 => (bnd (f_spec_l14Apply (v.2.1, (v1, ()))) fun r2 => (req (decide (List.length v.2.2.1 + List.length [r2.1.2.1] ≤ 17179869184)) (kk ((c.1.1, (c.1.2.1, ())), (c.2.1, ())) (.inl (((iadd .i64 v.1.1 (1 : Int)), ()), (r2.1.1, ((v.2.2.1 ++ [r2.1.2.1]), ()))))))))
 (kk ((c.1.1, (c.1.2.1, ())), (c.2.1, ())) (.inr ((), (v.2.1, (v.2.2.1, ()))))))
def f_spec_FoldCommands (x : ((List DCommand) × Unit)) : Option ((DKvState × (List DReply) × Bool × Unit) × Unit) :=
 (cond (ilt (100 : Int) (llen x.1))
 (some (((([] : List DPair), (([] : List DSession), ())), (([] : List DReply), (false, ()))), ()))
 (loopF (c := f_spec_FoldCommands_l6c) (v := f_spec_FoldCommands_l6v) (ex := f_spec_FoldCommands_l6e) f_spec_FoldCommands_l6 _ ((x.1, ((llen x.1), ())), ((([] : List DPair), (([] : List DSession), ())), ())) (((0 : Int), ()), ((([] : List DPair), (([] : List DSession), ())), (([] : List DReply), ()))) fun c3 o4 =>
 (bnd (f_spec_l14Own (o4.2.1, ())) fun r5 => (some ((r5.1.1, (o4.2.2.1, (true, ()))), ())))))
def sg23 : Sig := ⟨ins23, res23, f_spec_FoldCommands⟩
abbrev ins25 : List Pm := [.val (.sl kdPair), .val (.sl kdPair)]
abbrev res25 : List (K × Mk) := [(.bool, .s)]
abbrev f_laws_samePairs_l4c : Desc := ⟨[(0, .v (.sl kdPair)), (1, .v (.sl kdPair)), (12, .v (.int .i64))], []⟩
abbrev f_laws_samePairs_l4v : Desc := ⟨[(13, .v (.int .i64))], []⟩
abbrev f_laws_samePairs_l4e : List (Ek × Desc) := [(.ret, ⟨[(4, .v .bool)], []⟩), (.exit 0, ⟨[], []⟩)]
def f_laws_samePairs_l4 (R : Type) (c : (((List DPair) × (List DPair) × Int × Unit) × Unit)) (v : ((Int × Unit) × Unit)) (kk : (((List DPair) × (List DPair) × Int × Unit) × Unit) → (((Int × Unit) × Unit) ⊕ (((Bool × Unit) × Unit) ⊕ (Unit × Unit))) → Option R) : Option R :=
 (cond (ilt v.1.1 c.1.2.2.1)
 (getO c.1.1 v.1.1 fun v1 => (getO c.1.2.1 v.1.1 fun v2 => (cond (!(eqK kdPair v1 v2))
 (kk ((c.1.1, (c.1.2.1, (c.1.2.2.1, ()))), ()) (.inr (.inl ((false, ()), ()))))
 (kk ((c.1.1, (c.1.2.1, (c.1.2.2.1, ()))), ()) (.inl (((iadd .i64 v.1.1 (1 : Int)), ()), ()))))))
 (kk ((c.1.1, (c.1.2.1, (c.1.2.2.1, ()))), ()) (.inr (.inr ((), ())))))
def f_laws_samePairs (x : ((List DPair) × (List DPair) × Unit)) : Option ((Bool × Unit) × Unit) :=
 (cond (!ieq (llen x.1) (llen x.2.1))
 (some ((false, ()), ()))
 (loopF (c := f_laws_samePairs_l4c) (v := f_laws_samePairs_l4v) (ex := f_laws_samePairs_l4e) f_laws_samePairs_l4 _ ((x.1, (x.2.1, ((llen x.1), ()))), ()) (((0 : Int), ()), ()) fun c3 o4 =>
 (match o4 with
 | .inl y5 => (some ((y5.1.1, ()), ()))
 | .inr z6 => (some ((true, ()), ())))))
def sg25 : Sig := ⟨ins25, res25, f_laws_samePairs⟩
abbrev ins24 : List Pm := [.val kdKvState, .val kdKvState]
abbrev res24 : List (K × Mk) := [(.bool, .s)]
abbrev f_laws_sameStates_l4c : Desc := ⟨[(2, .ptr 2 []), (3, .ptr 3 []), (23, .v (.int .i64))], [(2, ⟨kdKvState, .s, true⟩), (3, ⟨kdKvState, .s, true⟩)]⟩
abbrev f_laws_sameStates_l4v : Desc := ⟨[(24, .v (.int .i64))], []⟩
abbrev f_laws_sameStates_l4e : List (Ek × Desc) := [(.ret, ⟨[(4, .v .bool)], []⟩), (.exit 0, ⟨[], []⟩)]
def f_laws_sameStates_l4 (R : Type) (c : ((Int × Unit) × (DKvState × DKvState × Unit))) (v : ((Int × Unit) × Unit)) (kk : ((Int × Unit) × (DKvState × DKvState × Unit)) → (((Int × Unit) × Unit) ⊕ (((Bool × Unit) × Unit) ⊕ (Unit × Unit))) → Option R) : Option R :=
 (cond (ilt v.1.1 c.1.1)
 (getO c.2.1.2.1 v.1.1 fun v2 => (getO c.2.2.1.2.1 v.1.1 fun v3 => (cond (!(eqK kdSession v2 v3))
 (kk ((c.1.1, ()), (c.2.1, (c.2.2.1, ()))) (.inr (.inl ((false, ()), ()))))
 (kk ((c.1.1, ()), (c.2.1, (c.2.2.1, ()))) (.inl (((iadd .i64 v.1.1 (1 : Int)), ()), ()))))))
 (kk ((c.1.1, ()), (c.2.1, (c.2.2.1, ()))) (.inr (.inr ((), ())))))
def f_laws_sameStates (x : (DKvState × DKvState × Unit)) : Option ((Bool × Unit) × Unit) :=
 (bnd (f_laws_samePairs (x.1.1, (x.2.1.1, ()))) fun r1 => (cond (!r1.1.1)
 (some ((false, ()), ()))
 (cond (!ieq (llen x.1.2.1) (llen x.2.1.2.1))
 (some ((false, ()), ()))
 (loopF (c := f_laws_sameStates_l4c) (v := f_laws_sameStates_l4v) (ex := f_laws_sameStates_l4e) f_laws_sameStates_l4 _ (((llen x.1.2.1), ()), (x.1, (x.2.1, ()))) (((0 : Int), ()), ()) fun c4 o5 =>
 (match o5 with
 | .inl y6 => (some ((y6.1.1, ()), ()))
 | .inr z7 => (some ((true, ()), ())))))))
def sg24 : Sig := ⟨ins24, res24, f_laws_sameStates⟩
abbrev ins4 : List Pm := [.val (.sl (.int .u8)), .val (.sl (.int .u8))]
abbrev res4 : List (K × Mk) := [(.bool, .s)]
abbrev f_laws_FnCommands_i9c : Desc := ⟨[(1, .v (.sl (.int .u8))), (5, .ptr 5 []), (6, .v .str), (54, .v .bool)], [(5, ⟨kdCommand, .s, true⟩)]⟩
abbrev f_laws_FnCommands_i9v : Desc := ⟨[], []⟩
abbrev f_laws_FnCommands_i9e : List (Ek × Desc) := [(.ret, ⟨[(4, .v .bool)], []⟩), (.norm, ⟨[], []⟩)]
def f_laws_FnCommands_i9 (R : Type) (c : (((List Int) × ByteArray × Bool × Unit) × (DCommand × Unit))) (v : (Unit × Unit)) (kk : (((List Int) × ByteArray × Bool × Unit) × (DCommand × Unit)) → (((Bool × Unit) × Unit) ⊕ (Unit × Unit)) → Option R) : Option R :=
 (cond c.1.2.2.1
 (bnd (f_impl_ReadCommand (c.1.2.1, ())) fun r4 => (cond (!r4.1.2.1)
 (kk ((c.1.1, (c.1.2.1, (c.1.2.2.1, ()))), (c.2.1, ())) (.inl ((false, ()), ())))
 (cond (!(eqK kdCommand r4.1.1 c.2.1))
 (kk ((c.1.1, (c.1.2.1, (c.1.2.2.1, ()))), (c.2.1, ())) (.inl ((false, ()), ())))
 (kk ((c.1.1, (c.1.2.1, (c.1.2.2.1, ()))), (c.2.1, ())) (.inr ((), ()))))))
 (kk ((c.1.1, (c.1.2.1, (c.1.2.2.1, ()))), (c.2.1, ())) (.inr ((), ()))))
abbrev f_laws_FnCommands_l20c : Desc := ⟨[(12, .al 12 []), (14, .al 14 []), (17, .al 17 []), (103, .v (.int .i64))], [(12, ⟨(.sl kdCommand), (.o .s), false⟩), (14, ⟨(.sl kdReply), (.o .s), false⟩), (17, ⟨(.sl kdReply), (.o .s), false⟩)]⟩
abbrev f_laws_FnCommands_l20v : Desc := ⟨[(104, .v (.int .i64))], []⟩
abbrev f_laws_FnCommands_l20e : List (Ek × Desc) := [(.ret, ⟨[(4, .v .bool)], []⟩), (.exit 0, ⟨[], []⟩)]
def f_laws_FnCommands_l20 (R : Type) (c : ((Int × Unit) × ((List DCommand) × (List DReply) × (List DReply) × Unit))) (v : ((Int × Unit) × Unit)) (kk : ((Int × Unit) × ((List DCommand) × (List DReply) × (List DReply) × Unit)) → (((Int × Unit) × Unit) ⊕ (((Bool × Unit) × Unit) ⊕ (Unit × Unit))) → Option R) : Option R :=
 (cond (ilt v.1.1 c.1.1)
 (getO c.2.2.1 v.1.1 fun _ => (bnd (c.2.2.1[(Int.toNat v.1.1)]?) fun v14 => (getO c.2.2.2.1 v.1.1 fun _ => (bnd (c.2.2.2.1[(Int.toNat v.1.1)]?) fun v16 => (cond (!(eqK kdReply v14 v16))
 (kk ((c.1.1, ()), (c.2.1, (c.2.2.1, (c.2.2.2.1, ())))) (.inr (.inl ((false, ()), ()))))
 (kk ((c.1.1, ()), (c.2.1, (c.2.2.1, (c.2.2.2.1, ())))) (.inl (((iadd .i64 v.1.1 (1 : Int)), ()), ()))))))))
 (kk ((c.1.1, ()), (c.2.1, (c.2.2.1, (c.2.2.2.1, ())))) (.inr (.inr ((), ())))))
abbrev f_laws_FnCommands_l35c : Desc := ⟨[(12, .al 12 []), (20, .al 20 []), (21, .ptr 21 []), (22, .v (.int .i64)), (23, .ptr 23 []), (119, .v (.int .i64)), (120, .v (.int .i64)), (140, .al 20 []), (141, .v (.int .i64))], [(12, ⟨(.sl kdCommand), (.o .s), false⟩), (20, ⟨(.sl (.int .i64)), (.o .s), false⟩), (21, ⟨kdKvState, (.pr (.o .s) (.pr (.o .s) .s)), true⟩), (23, ⟨kdKvState, (.pr (.o .s) (.pr (.o .s) .s)), true⟩)]⟩
abbrev f_laws_FnCommands_l35v : Desc := ⟨[(142, .v (.int .i64))], []⟩
abbrev f_laws_FnCommands_l35e : List (Ek × Desc) := [(.ret, ⟨[(4, .v .bool)], []⟩), (.exit 4, ⟨[], []⟩)]
def f_laws_FnCommands_l35 (R : Type) (c : ((Int × Int × Int × Int × Unit) × ((List DCommand) × (List Int) × DKvState × DKvState × Unit))) (v : ((Int × Unit) × Unit)) (kk : ((Int × Int × Int × Int × Unit) × ((List DCommand) × (List Int) × DKvState × DKvState × Unit)) → (((Int × Unit) × Unit) ⊕ (((Bool × Unit) × Unit) ⊕ (Unit × Unit))) → Option R) : Option R :=
 (cond (ilt v.1.1 c.1.2.2.2.1)
 (getO c.2.2.1 v.1.1 fun _ => (bnd (c.2.2.1[(Int.toNat v.1.1)]?) fun v24 => (getO c.2.1 c.1.1 fun _ => (bnd (c.2.1[(Int.toNat c.1.1)]?) fun v26 => (bnd (c.2.1[(Int.toNat c.1.1)]?) fun v27 => (getO c.2.1 v24 fun _ => (bnd (c.2.1[(Int.toNat v24)]?) fun v29 => (bnd (c.2.1[(Int.toNat v24)]?) fun v30 => (cond (ieq v27.1 v30.1)
 (getO c.2.1 c.1.1 fun _ => (bnd (c.2.1[(Int.toNat c.1.1)]?) fun v32 => (bnd (c.2.1[(Int.toNat c.1.1)]?) fun v33 => (getO c.2.1 v24 fun _ => (bnd (c.2.1[(Int.toNat v24)]?) fun v35 => (bnd (c.2.1[(Int.toNat v24)]?) fun v36 => (cond (ieq v33.2.1 v36.2.1)
 (kk ((c.1.1, (c.1.2.1, (c.1.2.2.1, (c.1.2.2.2.1, ())))), (c.2.1, (c.2.2.1, (c.2.2.2.1, (c.2.2.2.2.1, ()))))) (.inr (.inl ((false, ()), ()))))
 (kk ((c.1.1, (c.1.2.1, (c.1.2.2.1, (c.1.2.2.2.1, ())))), (c.2.1, (c.2.2.1, (c.2.2.2.1, (c.2.2.2.2.1, ()))))) (.inl (((iadd .i64 v.1.1 (1 : Int)), ()), ()))))))))))
 (kk ((c.1.1, (c.1.2.1, (c.1.2.2.1, (c.1.2.2.2.1, ())))), (c.2.1, (c.2.2.1, (c.2.2.2.1, (c.2.2.2.2.1, ()))))) (.inl (((iadd .i64 v.1.1 (1 : Int)), ()), ()))))))))))))
 (kk ((c.1.1, (c.1.2.1, (c.1.2.2.1, (c.1.2.2.2.1, ())))), (c.2.1, (c.2.2.1, (c.2.2.2.1, (c.2.2.2.2.1, ()))))) (.inr (.inr ((), ())))))
abbrev f_laws_FnCommands_i34c : Desc := ⟨[(12, .al 12 []), (20, .al 20 []), (21, .ptr 21 []), (23, .ptr 23 [])], []⟩
abbrev f_laws_FnCommands_i34v : Desc := ⟨[(22, .v (.int .i64)), (119, .v (.int .i64)), (120, .v (.int .i64)), (139, .v .bool)], [(12, ⟨(.sl kdCommand), (.o .s), false⟩), (20, ⟨(.sl (.int .i64)), (.o .s), false⟩), (21, ⟨kdKvState, (.pr (.o .s) (.pr (.o .s) .s)), true⟩), (23, ⟨kdKvState, (.pr (.o .s) (.pr (.o .s) .s)), true⟩)]⟩
abbrev f_laws_FnCommands_i34e : List (Ek × Desc) := [(.ret, ⟨[(4, .v .bool)], [(12, ⟨(.sl kdCommand), (.o .s), false⟩), (20, ⟨(.sl (.int .i64)), (.o .s), false⟩), (21, ⟨kdKvState, (.pr (.o .s) (.pr (.o .s) .s)), true⟩), (23, ⟨kdKvState, (.pr (.o .s) (.pr (.o .s) .s)), true⟩)]⟩), (.norm, ⟨[(119, .v (.int .i64)), (120, .v (.int .i64))], [(12, ⟨(.sl kdCommand), (.o .s), false⟩), (20, ⟨(.sl (.int .i64)), (.o .s), false⟩), (21, ⟨kdKvState, (.pr (.o .s) (.pr (.o .s) .s)), true⟩), (23, ⟨kdKvState, (.pr (.o .s) (.pr (.o .s) .s)), true⟩)]⟩)]
def f_laws_FnCommands_i34 (R : Type) (c : (Unit × Unit)) (v : ((Int × Int × Int × Bool × Unit) × ((List DCommand) × (List Int) × DKvState × DKvState × Unit))) (kk : (Unit × Unit) → (((Bool × Unit) × ((List DCommand) × (List Int) × DKvState × DKvState × Unit)) ⊕ ((Int × Int × Unit) × ((List DCommand) × (List Int) × DKvState × DKvState × Unit))) → Option R) : Option R :=
 (cond v.1.2.2.2.1
 (loopF (c := f_laws_FnCommands_l35c) (v := f_laws_FnCommands_l35v) (ex := f_laws_FnCommands_l35e) f_laws_FnCommands_l35 _ ((v.1.1, (v.1.2.1, (v.1.2.2.1, ((llen v.2.2.1), ())))), (v.2.1, (v.2.2.1, (v.2.2.2.1, (v.2.2.2.2.1, ()))))) (((0 : Int), ()), ()) fun c23 o24 =>
 (match o24 with
 | .inl y25 => (kk ((), ()) (.inl ((y25.1.1, ()), (c23.2.1, (c23.2.2.1, (c23.2.2.2.1, (c23.2.2.2.2.1, ())))))))
 | .inr z26 => (req (decide (List.length c23.2.2.1 + List.length [c23.1.1] ≤ 17179869184)) (kk ((), ()) (.inr ((c23.1.2.1, (c23.1.2.2.1, ())), (c23.2.1, ((c23.2.2.1 ++ [c23.1.1]), (c23.2.2.2.1, (c23.2.2.2.2.1, ()))))))))))
 (kk ((), ()) (.inr ((v.1.2.1, (v.1.2.2.1, ())), (v.2.1, (v.2.2.1, (v.2.2.2.1, (v.2.2.2.2.1, ()))))))))
abbrev f_laws_FnCommands_l28c : Desc := ⟨[(12, .al 12 []), (20, .al 20 []), (21, .ptr 21 [])], []⟩
abbrev f_laws_FnCommands_l28v : Desc := ⟨[(119, .v (.int .i64)), (120, .v (.int .i64))], [(12, ⟨(.sl kdCommand), (.o .s), false⟩), (20, ⟨(.sl (.int .i64)), (.o .s), false⟩), (21, ⟨kdKvState, (.pr (.o .s) (.pr (.o .s) .s)), true⟩)]⟩
abbrev f_laws_FnCommands_l28e : List (Ek × Desc) := [(.ret, ⟨[(4, .v .bool)], [(12, ⟨(.sl kdCommand), (.o .s), false⟩), (20, ⟨(.sl (.int .i64)), (.o .s), false⟩), (21, ⟨kdKvState, (.pr (.o .s) (.pr (.o .s) .s)), true⟩)]⟩), (.exit 2, ⟨[], [(12, ⟨(.sl kdCommand), (.o .s), false⟩), (20, ⟨(.sl (.int .i64)), (.o .s), false⟩), (21, ⟨kdKvState, (.pr (.o .s) (.pr (.o .s) .s)), true⟩)]⟩)]
def f_laws_FnCommands_l28 (R : Type) (c : (Unit × Unit)) (v : ((Int × Int × Unit) × ((List DCommand) × (List Int) × DKvState × Unit))) (kk : (Unit × Unit) → (((Int × Int × Unit) × ((List DCommand) × (List Int) × DKvState × Unit)) ⊕ (((Bool × Unit) × ((List DCommand) × (List Int) × DKvState × Unit)) ⊕ (Unit × ((List DCommand) × (List Int) × DKvState × Unit)))) → Option R) : Option R :=
 (cond (ilt v.1.2.1 v.1.1)
 (req (decide ((0 : Int) ≤ (iadd .i64 v.1.2.1 (1 : Int))) && decide ((iadd .i64 v.1.2.1 (1 : Int)) ≤ ((List.length v.2.1) : Int))) (bnd (f_impl_FoldCommands ((List.take ((Int.toNat (iadd .i64 v.1.2.1 (1 : Int))) - (0 : Nat)) (List.drop (0 : Nat) v.2.1)), ())) fun r21 => (cond (!r21.1.2.2.1)
 (kk ((), ()) (.inr (.inl ((false, ()), (v.2.1, (v.2.2.1, (v.2.2.2.1, ())))))))
 (bnd (f_laws_samePairs (v.2.2.2.1.1, (r21.1.1.1, ()))) fun r22 => (f_laws_FnCommands_i34 _ ((), ()) ((v.1.2.1, (v.1.1, (v.1.2.1, ((!r22.1.1), ())))), (v.2.1, (v.2.2.1, (v.2.2.2.1, (r21.1.1, ()))))) fun c23 o24 =>
 (match o24 with
 | .inl y25 => (kk ((), ()) (.inr (.inl ((y25.1.1, ()), (y25.2.1, (y25.2.2.1, (y25.2.2.2.1, ())))))))
 | .inr z26 => (kk ((), ()) (.inl ((z26.1.1, ((iadd .i64 z26.1.2.1 (1 : Int)), ())), (z26.2.1, (z26.2.2.1, (z26.2.2.2.2.1, ()))))))))))))
 (kk ((), ()) (.inr (.inr ((), (v.2.1, (v.2.2.1, (v.2.2.2.1, ()))))))))
def f_laws_FnCommands (x : ((List Int) × (List Int) × Unit)) : Option ((Bool × Unit) × Unit) :=
 (cond (ilt (1048576 : Int) (iadd .i64 (llen x.1) (llen x.2.1)))
 (some ((true, ()), ()))
 (bnd (f_spec_DrawCommandBytes (x.1, ())) fun r1 => (bnd (f_impl_CommandBytes (r1.1.1, ())) fun r2 => (bnd (f_spec_CommandBytes (r1.1.1, ())) fun r3 => (cond (!beqB r2.1.2.1 r3.1.2.1)
 (some ((false, ()), ()))
 (cond (!seq r2.1.1 r3.1.1)
 (some ((false, ()), ()))
 (f_laws_FnCommands_i9 _ ((x.2.1, (r2.1.1, (r2.1.2.1, ()))), (r1.1.1, ())) ((), ()) fun c5 o6 =>
 (match o6 with
 | .inl y7 => (some ((y7.1.1, ()), ()))
 | .inr z8 => (bnd (f_spec_DrawFoldCommands (c5.1.1, ())) fun r9 => (bnd (f_impl_FoldCommands (r9.1.1, ())) fun r10 => (bnd (f_spec_FoldCommands (r9.1.1, ())) fun r11 => (cond (!beqB r10.1.2.2.1 r11.1.2.2.1)
 (some ((false, ()), ()))
 (cond (!ieq (llen r10.1.2.1) (llen r11.1.2.1))
 (some ((false, ()), ()))
 (bnd (f_laws_sameStates (r10.1.1, (r11.1.1, ()))) fun r12 => (cond (!r12.1.1)
 (some ((false, ()), ()))
 (cond (!r10.1.2.2.1)
 (some (((ieq (llen r10.1.2.1) (0 : Int)), ()), ()))
 (loopF (c := f_laws_FnCommands_l20c) (v := f_laws_FnCommands_l20v) (ex := f_laws_FnCommands_l20e) f_laws_FnCommands_l20 _ (((llen r10.1.2.1), ()), (r9.1.1, (r10.1.2.1, (r11.1.2.1, ())))) (((0 : Int), ()), ()) fun c17 o18 =>
 (match o18 with
 | .inl y19 => (some ((y19.1.1, ()), ()))
 | .inr z20 => (loopF (c := f_laws_FnCommands_l28c) (v := f_laws_FnCommands_l28v) (ex := f_laws_FnCommands_l28e) f_laws_FnCommands_l28 _ ((), ()) (((llen c17.2.1), ((0 : Int), ())), (c17.2.1, (([] : List Int), ((([] : List DPair), (([] : List DSession), ())), ())))) fun c27 o28 =>
 (match o28 with
 | .inl y29 => (some ((y29.1.1, ()), ()))
 | .inr z30 => (some ((true, ()), ()))))))))))))))))))))))
def sg4 : Sig := ⟨ins4, res4, f_laws_FnCommands⟩
end Go.Proofs.Ytogmfilmfkepfaa
