/- The kinds of the program's types, and what its functions compute, as typed functions. (Printed by a program of mine, wip/tools/gen.py.) -/
import Derived.Test.YtogmfilmfkepfaaEv4
set_option linter.all false
set_option maxRecDepth 100000
noncomputable section
namespace Go.Proofs.Ytogmfilmfkepfaa
open Go Go.Proofs.Ytogmfilmfkepfaa.Ev
abbrev kdChunk : K := (.pair (.int .i64) (.pair (.int .i64) (.pair .str (.pair (.int .u32) .unit))))
abbrev DChunk : Type := (Int × (Int × (ByteArray × (Int × Unit))))
abbrev kdWanted : K := (.pair (.int .i64) (.pair (.int .u32) .unit))
abbrev DWanted : Type := (Int × (Int × Unit))
abbrev kdTaking : K := (.pair (.sl kdWanted) (.pair (.sl kdChunk) .unit))
abbrev DTaking : Type := ((List DWanted) × ((List DChunk) × Unit))
abbrev kdl1Cur : K := (.pair (.sl (.int .u8)) (.pair (.int .i64) (.pair (.int .u64) .unit)))
abbrev Dl1Cur : Type := ((List Int) × (Int × (Int × Unit)))
abbrev ins121 : List Pm := [.mptr kdl1Cur .s]
abbrev res121 : List (K × Mk) := [((.int .i64), .s)]
abbrev f_spec_l1Cur_next_i3c : Desc := ⟨[(0, .ptr 0 []), (13, .v .bool)], [(0, ⟨kdl1Cur, .s, true⟩)]⟩
abbrev f_spec_l1Cur_next_i3v : Desc := ⟨[(3, .v (.int .i64))], []⟩
abbrev f_spec_l1Cur_next_i3e : List (Ek × Desc) := [(.norm, ⟨[(3, .v (.int .i64))], []⟩)]
def f_spec_l1Cur_next_i3 (R : Type) (c : ((Bool × Unit) × (Dl1Cur × Unit))) (v : ((Int × Unit) × Unit)) (kk : ((Bool × Unit) × (Dl1Cur × Unit)) → ((Int × Unit) × Unit) → Option R) : Option R :=
 (cond c.1.1
 (getO c.2.1.1 c.2.1.2.1 fun v1 => (kk ((c.1.1, ()), (c.2.1, ())) (((IntKind.wrap .i64 v1), ()), ())))
 (kk ((c.1.1, ()), (c.2.1, ())) ((v.1.1, ()), ())))
def f_spec_l1Cur_next (x : (Dl1Cur × Unit)) : Option ((Int × Unit) × (Dl1Cur × Unit)) :=
 (f_spec_l1Cur_next_i3 _ (((ilt x.1.2.1 (llen x.1.1)), ()), (x.1, ())) (((0 : Int), ()), ()) fun c2 o3 =>
 (cond (ile (iadd .i64 c2.2.1.2.1 (1 : Int)) (llen c2.2.1.1))
 (some ((o3.1.1, ()), ((c2.2.1.1, ((iadd .i64 c2.2.1.2.1 (1 : Int)), ((iadd .u64 (iadd .u64 (imul .u64 c2.2.1.2.2.1 (6364136223846793005 : Int)) (IntKind.wrap .u64 o3.1.1)) (1442695040888963407 : Int)), c2.2.1.2.2.2))), ())))
 (some (((IntKind.wrap .i64 (iand .u64 (ishr .u64 (iadd .u64 (iadd .u64 (imul .u64 c2.2.1.2.2.1 (6364136223846793005 : Int)) (IntKind.wrap .u64 o3.1.1)) (1442695040888963407 : Int)) (40 : Int)) (255 : Int))), ()), ((c2.2.1.1, ((iadd .i64 c2.2.1.2.1 (1 : Int)), ((iadd .u64 (iadd .u64 (imul .u64 c2.2.1.2.2.1 (6364136223846793005 : Int)) (IntKind.wrap .u64 o3.1.1)) (1442695040888963407 : Int)), c2.2.1.2.2.2))), ())))))
def sg121 : Sig := ⟨ins121, res121, f_spec_l1Cur_next⟩
abbrev ins78 : List Pm := [.mptr kdl1Cur .s, .val (.int .i64)]
abbrev res78 : List (K × Mk) := [((.int .i64), .s)]
abbrev f_spec_l1Cur_pick_i5c : Desc := ⟨[(0, .ptr 0 []), (1, .v (.int .i64)), (11, .v .bool)], []⟩
abbrev f_spec_l1Cur_pick_i5v : Desc := ⟨[(5, .v (.int .i64))], [(0, ⟨kdl1Cur, .s, true⟩)]⟩
abbrev f_spec_l1Cur_pick_i5e : List (Ek × Desc) := [(.norm, ⟨[(5, .v (.int .i64))], [(0, ⟨kdl1Cur, .s, true⟩)]⟩)]
def f_spec_l1Cur_pick_i5 (R : Type) (c : ((Int × Bool × Unit) × Unit)) (v : ((Int × Unit) × (Dl1Cur × Unit))) (kk : ((Int × Bool × Unit) × Unit) → ((Int × Unit) × (Dl1Cur × Unit)) → Option R) : Option R :=
 (cond c.1.2.1
 (bnd (f_spec_l1Cur_next (v.2.1, ())) fun r2 => (kk ((c.1.1, (c.1.2.1, ())), ()) (((iadd .i64 (imul .i64 v.1.1 (256 : Int)) r2.1.1), ()), (r2.2.1, ()))))
 (kk ((c.1.1, (c.1.2.1, ())), ()) ((v.1.1, ()), (v.2.1, ()))))
def f_spec_l1Cur_pick (x : (Dl1Cur × Int × Unit)) : Option ((Int × Unit) × (Dl1Cur × Unit)) :=
 (cond (ile x.2.1 (1 : Int))
 (some (((0 : Int), ()), (x.1, ())))
 (bnd (f_spec_l1Cur_next (x.1, ())) fun r1 => (f_spec_l1Cur_pick_i5 _ ((x.2.1, ((ilt (200 : Int) x.2.1), ())), ()) ((r1.1.1, ()), (r1.2.1, ())) fun c3 o4 =>
 (req (!decide (c3.1.1 = (0 : Int))) (some (((irem .i64 o4.1.1 c3.1.1), ()), (o4.2.1, ())))))))
def sg78 : Sig := ⟨ins78, res78, f_spec_l1Cur_pick⟩
abbrev ins79 : List Pm := [.mptr kdl1Cur .s, .val (.int .i64)]
abbrev res79 : List (K × Mk) := [(.bool, .s)]
def f_spec_l1Cur_one (x : (Dl1Cur × Int × Unit)) : Option ((Bool × Unit) × (Dl1Cur × Unit)) :=
 (bnd (f_spec_l1Cur_pick (x.1, (x.2.1, ()))) fun r1 => (some (((ieq r1.1.1 (0 : Int)), ()), (r1.2.1, ()))))
def sg79 : Sig := ⟨ins79, res79, f_spec_l1Cur_one⟩
abbrev ins120 : List Pm := [.mptr kdl1Cur .s, .mov (.sl (.int .i64)) (.o .s)]
abbrev res120 : List (K × Mk) := [((.int .i64), .s)]
def f_spec_l1Cur_among (x : (Dl1Cur × (List Int) × Unit)) : Option ((Int × Unit) × (Dl1Cur × Unit)) :=
 (bnd (f_spec_l1Cur_pick (x.1, ((llen x.2.1), ()))) fun r1 => (getO x.2.1 r1.1.1 fun _ => (bnd (x.2.1[(Int.toNat r1.1.1)]?) fun v3 => (some ((v3, ()), (r1.2.1, ()))))))
def sg120 : Sig := ⟨ins120, res120, f_spec_l1Cur_among⟩
abbrev ins119 : List Pm := [.mptr kdl1Cur .s, .val (.int .i64)]
abbrev res119 : List (K × Mk) := [(.str, .s)]
abbrev f_spec_l1Cur_text_l3c : Desc := ⟨[(0, .ptr 0 []), (5, .al 5 []), (10, .v (.int .i64))], []⟩
abbrev f_spec_l1Cur_text_l3v : Desc := ⟨[(11, .v (.int .i64))], [(0, ⟨kdl1Cur, .s, true⟩), (5, ⟨(.sl (.int .u8)), (.o .s), false⟩)]⟩
abbrev f_spec_l1Cur_text_l3e : List (Ek × Desc) := [(.exit 0, ⟨[], [(0, ⟨kdl1Cur, .s, true⟩), (5, ⟨(.sl (.int .u8)), (.o .s), false⟩)]⟩)]
def f_spec_l1Cur_text_l3 (R : Type) (c : ((Int × Unit) × Unit)) (v : ((Int × Unit) × (Dl1Cur × (List Int) × Unit))) (kk : ((Int × Unit) × Unit) → (((Int × Unit) × (Dl1Cur × (List Int) × Unit)) ⊕ (Unit × (Dl1Cur × (List Int) × Unit))) → Option R) : Option R :=
 (cond (ilt v.1.1 c.1.1)
 (bnd (f_spec_l1Cur_pick (v.2.1, ((256 : Int), ()))) fun r1 => (getO v.2.2.1 v.1.1 fun _ => (bnd (v.2.2.1[(Int.toNat v.1.1)]?) fun v3 => (kk ((c.1.1, ()), ()) (.inl (((iadd .i64 v.1.1 (1 : Int)), ()), (r1.2.1, ((List.set v.2.2.1 (Int.toNat v.1.1) (IntKind.wrap .u8 r1.1.1)), ()))))))))
 (kk ((c.1.1, ()), ()) (.inr ((), (v.2.1, (v.2.2.1, ()))))))
def f_spec_l1Cur_text (x : (Dl1Cur × Int × Unit)) : Option ((ByteArray × Unit) × (Dl1Cur × Unit)) :=
 (req (decide (x.2.1 = x.2.1) && (decide ((0 : Int) ≤ x.2.1) && decide (x.2.1 ≤ (68719476736 : Int)))) (loopF (c := f_spec_l1Cur_text_l3c) (v := f_spec_l1Cur_text_l3v) (ex := f_spec_l1Cur_text_l3e) f_spec_l1Cur_text_l3 _ (((llen (List.replicate (Int.toNat x.2.1) ((0 : Int) : Int))), ()), ()) (((0 : Int), ()), (x.1, ((List.replicate (Int.toNat x.2.1) ((0 : Int) : Int)), ()))) fun c4 o5 =>
 (some (((strOf o5.2.2.1), ()), (o5.2.1, ())))))
def sg119 : Sig := ⟨ins119, res119, f_spec_l1Cur_text⟩
abbrev ins77 : List Pm := [.mptr kdl1Cur .s]
abbrev res77 : List (K × Mk) := [((.sl .str), (.o .s))]
abbrev f_spec_l1Cur_files_i4c : Desc := ⟨[(0, .ptr 0 []), (3, .al 3 []), (8, .v .bool)], [(3, ⟨(.sl .str), (.o .s), false⟩)]⟩
abbrev f_spec_l1Cur_files_i4v : Desc := ⟨[(4, .v (.int .i64))], [(0, ⟨kdl1Cur, .s, true⟩)]⟩
abbrev f_spec_l1Cur_files_i4e : List (Ek × Desc) := [(.norm, ⟨[(4, .v (.int .i64))], [(0, ⟨kdl1Cur, .s, true⟩)]⟩)]
def f_spec_l1Cur_files_i4 (R : Type) (c : ((Bool × Unit) × ((List ByteArray) × Unit))) (v : ((Int × Unit) × (Dl1Cur × Unit))) (kk : ((Bool × Unit) × ((List ByteArray) × Unit)) → ((Int × Unit) × (Dl1Cur × Unit)) → Option R) : Option R :=
 (cond c.1.1
 (bnd (f_spec_l1Cur_pick (v.2.1, ((2 : Int), ()))) fun r3 => (kk ((c.1.1, ()), (c.2.1, ())) (((iadd .i64 (12 : Int) r3.1.1), ()), (r3.2.1, ()))))
 (kk ((c.1.1, ()), (c.2.1, ())) ((v.1.1, ()), (v.2.1, ()))))
abbrev f_spec_l1Cur_files_l5c : Desc := ⟨[(0, .ptr 0 []), (3, .al 3 [])], []⟩
abbrev f_spec_l1Cur_files_l5v : Desc := ⟨[(4, .v (.int .i64))], [(0, ⟨kdl1Cur, .s, true⟩), (3, ⟨(.sl .str), (.o .s), false⟩)]⟩
abbrev f_spec_l1Cur_files_l5e : List (Ek × Desc) := [(.exit 0, ⟨[], [(0, ⟨kdl1Cur, .s, true⟩), (3, ⟨(.sl .str), (.o .s), false⟩)]⟩)]
def f_spec_l1Cur_files_l5 (R : Type) (c : (Unit × Unit)) (v : ((Int × Unit) × (Dl1Cur × (List ByteArray) × Unit))) (kk : (Unit × Unit) → (((Int × Unit) × (Dl1Cur × (List ByteArray) × Unit)) ⊕ (Unit × (Dl1Cur × (List ByteArray) × Unit))) → Option R) : Option R :=
 (cond (ilt (0 : Int) v.1.1)
 (bnd (f_spec_l1Cur_among (v.2.1, ([(0 : Int), (1 : Int), (30 : Int), (64 : Int), (65 : Int), (130 : Int), (200 : Int)], ()))) fun r6 => (bnd (f_spec_l1Cur_text (r6.2.1, (r6.1.1, ()))) fun r7 => (req (decide (List.length v.2.2.1 + List.length [r7.1.1] ≤ 17179869184)) (kk ((), ()) (.inl (((isub .i64 v.1.1 (1 : Int)), ()), (r7.2.1, ((v.2.2.1 ++ [r7.1.1]), ()))))))))
 (kk ((), ()) (.inr ((), (v.2.1, (v.2.2.1, ()))))))
abbrev f_spec_l1Cur_files_i9c : Desc := ⟨[(0, .ptr 0 []), (3, .al 3 []), (25, .v .bool)], []⟩
abbrev f_spec_l1Cur_files_i9v : Desc := ⟨[], [(0, ⟨kdl1Cur, .s, true⟩), (3, ⟨(.sl .str), (.o .s), false⟩)]⟩
abbrev f_spec_l1Cur_files_i9e : List (Ek × Desc) := [(.norm, ⟨[], [(0, ⟨kdl1Cur, .s, true⟩), (3, ⟨(.sl .str), (.o .s), false⟩)]⟩)]
def f_spec_l1Cur_files_i9 (R : Type) (c : ((Bool × Unit) × Unit)) (v : (Unit × (Dl1Cur × (List ByteArray) × Unit))) (kk : ((Bool × Unit) × Unit) → (Unit × (Dl1Cur × (List ByteArray) × Unit)) → Option R) : Option R :=
 (cond c.1.1
 (bnd (f_spec_l1Cur_pick (v.2.1, ((2 : Int), ()))) fun r11 => (req (decide ((iadd .i64 (4000 : Int) r11.1.1) = (iadd .i64 (4000 : Int) r11.1.1)) && (decide ((0 : Int) ≤ (iadd .i64 (4000 : Int) r11.1.1)) && decide ((iadd .i64 (4000 : Int) r11.1.1) ≤ (68719476736 : Int)))) (req (decide (List.length v.2.2.1 + List.length [(strOf (List.replicate (Int.toNat (iadd .i64 (4000 : Int) r11.1.1)) ((0 : Int) : Int)))] ≤ 17179869184)) (kk ((c.1.1, ()), ()) ((), (r11.2.1, ((v.2.2.1 ++ [(strOf (List.replicate (Int.toNat (iadd .i64 (4000 : Int) r11.1.1)) ((0 : Int) : Int)))]), ())))))))
 (kk ((c.1.1, ()), ()) ((), (v.2.1, (v.2.2.1, ())))))
def f_spec_l1Cur_files (x : (Dl1Cur × Unit)) : Option (((List ByteArray) × Unit) × (Dl1Cur × Unit)) :=
 (bnd (f_spec_l1Cur_pick (x.1, ((4 : Int), ()))) fun r1 => (bnd (f_spec_l1Cur_one (r1.2.1, ((30 : Int), ()))) fun r2 => (f_spec_l1Cur_files_i4 _ ((r2.1.1, ()), (([] : List ByteArray), ())) ((r1.1.1, ()), (r2.2.1, ())) fun c4 o5 =>
 (loopF (c := f_spec_l1Cur_files_l5c) (v := f_spec_l1Cur_files_l5v) (ex := f_spec_l1Cur_files_l5e) f_spec_l1Cur_files_l5 _ ((), ()) ((o5.1.1, ()), (o5.2.1, (c4.2.1, ()))) fun c8 o9 =>
 (bnd (f_spec_l1Cur_one (o9.2.1, ((40 : Int), ()))) fun r10 => (f_spec_l1Cur_files_i9 _ ((r10.1.1, ()), ()) ((), (r10.2.1, (o9.2.2.1, ()))) fun c12 o13 =>
 (some ((o13.2.2.1, ()), (o13.2.1, ())))))))))
def sg77 : Sig := ⟨ins77, res77, f_spec_l1Cur_files⟩
abbrev ins91 : List Pm := [.val (.sl .str)]
abbrev res91 : List (K × Mk) := [(.bool, .s)]
abbrev f_spec_l13Files_l2c : Desc := ⟨[(0, .v (.sl .str)), (5, .v (.sl .str)), (6, .v (.int .i64))], []⟩
abbrev f_spec_l13Files_l2v : Desc := ⟨[(7, .v (.int .i64))], []⟩
abbrev f_spec_l13Files_l2e : List (Ek × Desc) := [(.ret, ⟨[(2, .v .bool)], []⟩), (.exit 0, ⟨[], []⟩)]
def f_spec_l13Files_l2 (R : Type) (c : (((List ByteArray) × (List ByteArray) × Int × Unit) × Unit)) (v : ((Int × Unit) × Unit)) (kk : (((List ByteArray) × (List ByteArray) × Int × Unit) × Unit) → (((Int × Unit) × Unit) ⊕ (((Bool × Unit) × Unit) ⊕ (Unit × Unit))) → Option R) : Option R :=
 (cond (ilt v.1.1 c.1.2.2.1)
 (getO c.1.2.1 v.1.1 fun v1 => (cond (ilt (4000 : Int) (slen v1))
 (kk ((c.1.1, (c.1.2.1, (c.1.2.2.1, ()))), ()) (.inr (.inl ((false, ()), ()))))
 (kk ((c.1.1, (c.1.2.1, (c.1.2.2.1, ()))), ()) (.inl (((iadd .i64 v.1.1 (1 : Int)), ()), ())))))
 (kk ((c.1.1, (c.1.2.1, (c.1.2.2.1, ()))), ()) (.inr (.inr ((), ())))))
def f_spec_l13Files (x : ((List ByteArray) × Unit)) : Option ((Bool × Unit) × Unit) :=
 (loopF (c := f_spec_l13Files_l2c) (v := f_spec_l13Files_l2v) (ex := f_spec_l13Files_l2e) f_spec_l13Files_l2 _ ((x.1, (x.1, ((llen x.1), ()))), ()) (((0 : Int), ()), ()) fun c2 o3 =>
 (match o3 with
 | .inl y4 => (some ((y4.1.1, ()), ()))
 | .inr z5 => (some (((ile (llen c2.1.1) (12 : Int)), ()), ()))))
def sg91 : Sig := ⟨ins91, res91, f_spec_l13Files⟩
abbrev ins131 : List Pm := [.val (.int .i64), .val (.int .i64)]
abbrev res131 : List (K × Mk) := [((.int .i64), .s)]
def f_spec_l13Size (x : (Int × Int × Unit)) : Option ((Int × Unit) × Unit) :=
 (cond (ilt (isub .i64 x.1 x.2.1) (64 : Int))
 (some (((isub .i64 x.1 x.2.1), ()), ()))
 (some (((64 : Int), ()), ())))
def sg131 : Sig := ⟨ins131, res131, f_spec_l13Size⟩
abbrev ins112 : List Pm := [.val (.int .i64)]
abbrev res112 : List (K × Mk) := [(.str, .s)]
abbrev f_spec_l2Var_l2c : Desc := ⟨[(3, .al 3 [])], []⟩
abbrev f_spec_l2Var_l2v : Desc := ⟨[(0, .v (.int .i64))], [(3, ⟨(.sl (.int .u8)), (.o .s), false⟩)]⟩
abbrev f_spec_l2Var_l2e : List (Ek × Desc) := [(.exit 0, ⟨[(0, .v (.int .i64))], [(3, ⟨(.sl (.int .u8)), (.o .s), false⟩)]⟩)]
def f_spec_l2Var_l2 (R : Type) (c : (Unit × Unit)) (v : ((Int × Unit) × ((List Int) × Unit))) (kk : (Unit × Unit) → (((Int × Unit) × ((List Int) × Unit)) ⊕ ((Int × Unit) × ((List Int) × Unit))) → Option R) : Option R :=
 (cond (ilt (127 : Int) v.1.1)
 (req (decide (List.length v.2.1 + List.length [(IntKind.wrap .u8 (ior .i64 (iand .i64 v.1.1 (127 : Int)) (128 : Int)))] ≤ 17179869184)) (kk ((), ()) (.inl (((ishr .i64 v.1.1 (7 : Int)), ()), ((v.2.1 ++ [(IntKind.wrap .u8 (ior .i64 (iand .i64 v.1.1 (127 : Int)) (128 : Int)))]), ())))))
 (kk ((), ()) (.inr ((v.1.1, ()), (v.2.1, ())))))
def f_spec_l2Var (x : (Int × Unit)) : Option ((ByteArray × Unit) × Unit) :=
 (loopF (c := f_spec_l2Var_l2c) (v := f_spec_l2Var_l2v) (ex := f_spec_l2Var_l2e) f_spec_l2Var_l2 _ ((), ()) ((x.1, ()), (([] : List Int), ())) fun c1 o2 =>
 (req (decide (List.length o2.2.1 + List.length [(IntKind.wrap .u8 o2.1.1)] ≤ 17179869184)) (some (((strOf (o2.2.1 ++ [(IntKind.wrap .u8 o2.1.1)])), ()), ()))))
def sg112 : Sig := ⟨ins112, res112, f_spec_l2Var⟩
abbrev ins156 : List Pm := []
abbrev res156 : List (K × Mk) := [((.sl (.int .u32)), (.o .s))]
abbrev f_spec_l2Table_i12c : Desc := ⟨[(1, .al 1 []), (2, .v (.int .i64)), (4, .v (.int .i64)), (8, .v (.int .i64)), (9, .v (.int .i64)), (23, .v .bool)], [(1, ⟨(.sl (.int .u32)), (.o .s), false⟩)]⟩
abbrev f_spec_l2Table_i12v : Desc := ⟨[(3, .v (.int .u32))], []⟩
abbrev f_spec_l2Table_i12e : List (Ek × Desc) := [(.norm, ⟨[(3, .v (.int .u32))], []⟩)]
def f_spec_l2Table_i12 (R : Type) (c : ((Int × Int × Int × Int × Bool × Unit) × ((List Int) × Unit))) (v : ((Int × Unit) × Unit)) (kk : ((Int × Int × Int × Int × Bool × Unit) × ((List Int) × Unit)) → ((Int × Unit) × Unit) → Option R) : Option R :=
 (cond c.1.2.2.2.2.1
 (kk ((c.1.1, (c.1.2.1, (c.1.2.2.1, (c.1.2.2.2.1, (c.1.2.2.2.2.1, ()))))), (c.2.1, ())) (((ixor .u32 v.1.1 (2197175160 : Int)), ()), ()))
 (kk ((c.1.1, (c.1.2.1, (c.1.2.2.1, (c.1.2.2.2.1, (c.1.2.2.2.2.1, ()))))), (c.2.1, ())) ((v.1.1, ()), ())))
abbrev f_spec_l2Table_l7c : Desc := ⟨[(1, .al 1 [])], []⟩
abbrev f_spec_l2Table_l7v : Desc := ⟨[(2, .v (.int .i64)), (3, .v (.int .u32)), (4, .v (.int .i64)), (8, .v (.int .i64)), (9, .v (.int .i64))], [(1, ⟨(.sl (.int .u32)), (.o .s), false⟩)]⟩
abbrev f_spec_l2Table_l7e : List (Ek × Desc) := [(.exit 2, ⟨[(2, .v (.int .i64)), (3, .v (.int .u32)), (8, .v (.int .i64)), (9, .v (.int .i64))], [(1, ⟨(.sl (.int .u32)), (.o .s), false⟩)]⟩)]
def f_spec_l2Table_l7 (R : Type) (c : (Unit × Unit)) (v : ((Int × Int × Int × Int × Int × Unit) × ((List Int) × Unit))) (kk : (Unit × Unit) → (((Int × Int × Int × Int × Int × Unit) × ((List Int) × Unit)) ⊕ ((Int × Int × Int × Int × Unit) × ((List Int) × Unit))) → Option R) : Option R :=
 (cond (ilt v.1.2.2.1 (8 : Int))
 (f_spec_l2Table_i12 _ ((v.1.1, (v.1.2.2.1, (v.1.2.2.2.1, (v.1.2.2.2.2.1, ((ieq (iand .u32 v.1.2.1 (1 : Int)) (1 : Int)), ()))))), (v.2.1, ())) (((ishr .u32 v.1.2.1 (1 : Int)), ()), ()) fun c1 o2 =>
 (kk ((), ()) (.inl ((c1.1.1, (o2.1.1, ((iadd .i64 c1.1.2.1 (1 : Int)), (c1.1.2.2.1, (c1.1.2.2.2.1, ()))))), (c1.2.1, ())))))
 (kk ((), ()) (.inr ((v.1.1, (v.1.2.1, (v.1.2.2.2.1, (v.1.2.2.2.2.1, ())))), (v.2.1, ())))))
abbrev f_spec_l2Table_l3c : Desc := ⟨[(1, .al 1 [])], []⟩
abbrev f_spec_l2Table_l3v : Desc := ⟨[(8, .v (.int .i64)), (9, .v (.int .i64))], [(1, ⟨(.sl (.int .u32)), (.o .s), false⟩)]⟩
abbrev f_spec_l2Table_l3e : List (Ek × Desc) := [(.exit 0, ⟨[], [(1, ⟨(.sl (.int .u32)), (.o .s), false⟩)]⟩)]
def f_spec_l2Table_l3 (R : Type) (c : (Unit × Unit)) (v : ((Int × Int × Unit) × ((List Int) × Unit))) (kk : (Unit × Unit) → (((Int × Int × Unit) × ((List Int) × Unit)) ⊕ (Unit × ((List Int) × Unit))) → Option R) : Option R :=
 (cond (ilt v.1.2.1 v.1.1)
 (loopF (c := f_spec_l2Table_l7c) (v := f_spec_l2Table_l7v) (ex := f_spec_l2Table_l7e) f_spec_l2Table_l7 _ ((), ()) ((v.1.2.1, ((IntKind.wrap .u32 v.1.2.1), ((0 : Int), (v.1.1, (v.1.2.1, ()))))), (v.2.1, ())) fun c1 o2 =>
 (getO o2.2.1 o2.1.1 fun _ => (bnd (o2.2.1[(Int.toNat o2.1.1)]?) fun v4 => (kk ((), ()) (.inl ((o2.1.2.2.1, ((iadd .i64 o2.1.2.2.2.1 (1 : Int)), ())), ((List.set o2.2.1 (Int.toNat o2.1.1) o2.1.2.1), ())))))))
 (kk ((), ()) (.inr ((), (v.2.1, ())))))
def f_spec_l2Table (x : Unit) : Option (((List Int) × Unit) × Unit) :=
 (req (decide ((256 : Int) = (256 : Int)) && (decide ((0 : Int) ≤ (256 : Int)) && decide ((256 : Int) ≤ (68719476736 : Int)))) (loopF (c := f_spec_l2Table_l3c) (v := f_spec_l2Table_l3v) (ex := f_spec_l2Table_l3e) f_spec_l2Table_l3 _ ((), ()) (((llen (List.replicate (Int.toNat (256 : Int)) ((0 : Int) : Int))), ((0 : Int), ())), ((List.replicate (Int.toNat (256 : Int)) ((0 : Int) : Int)), ())) fun c5 o6 =>
 (some ((o6.2.1, ()), ()))))
def sg156 : Sig := ⟨ins156, res156, f_spec_l2Table⟩
abbrev ins155 : List Pm := [.val (.sl (.int .u32)), .val (.int .u32), .val .str]
abbrev res155 : List (K × Mk) := [((.int .u32), .s)]
abbrev f_spec_l2On_l2c : Desc := ⟨[(0, .v (.sl (.int .u32))), (2, .v .str)], []⟩
abbrev f_spec_l2On_l2v : Desc := ⟨[(1, .v (.int .u32)), (7, .v (.int .i64))], []⟩
abbrev f_spec_l2On_l2e : List (Ek × Desc) := [(.exit 0, ⟨[(1, .v (.int .u32))], []⟩)]
def f_spec_l2On_l2 (R : Type) (c : (((List Int) × ByteArray × Unit) × Unit)) (v : ((Int × Int × Unit) × Unit)) (kk : (((List Int) × ByteArray × Unit) × Unit) → (((Int × Int × Unit) × Unit) ⊕ ((Int × Unit) × Unit)) → Option R) : Option R :=
 (cond (ilt v.1.2.1 (slen c.1.2.1))
 (getB c.1.2.1 v.1.2.1 fun v1 => (getO c.1.1 (ixor .u8 (IntKind.wrap .u8 v.1.1) v1) fun v2 => (kk ((c.1.1, (c.1.2.1, ())), ()) (.inl (((ixor .u32 v2 (ishr .u32 v.1.1 (8 : Int))), ((iadd .i64 v.1.2.1 (1 : Int)), ())), ())))))
 (kk ((c.1.1, (c.1.2.1, ())), ()) (.inr ((v.1.1, ()), ()))))
def f_spec_l2On (x : ((List Int) × Int × ByteArray × Unit)) : Option ((Int × Unit) × Unit) :=
 (loopF (c := f_spec_l2On_l2c) (v := f_spec_l2On_l2v) (ex := f_spec_l2On_l2e) f_spec_l2On_l2 _ ((x.1, (x.2.2.1, ())), ()) ((x.2.1, ((0 : Int), ())), ()) fun c3 o4 =>
 (some ((o4.1.1, ()), ())))
def sg155 : Sig := ⟨ins155, res155, f_spec_l2On⟩
abbrev ins124 : List Pm := [.val .str]
abbrev res124 : List (K × Mk) := [((.int .u32), .s)]
def f_spec_l2Sum (x : (ByteArray × Unit)) : Option ((Int × Unit) × Unit) :=
 (bnd (f_spec_l2Table ()) fun r1 => (bnd (f_spec_l2On (r1.1.1, ((4294967295 : Int), (x.1, ())))) fun r2 => (some (((inot .u32 r2.1.1), ()), ()))))
def sg124 : Sig := ⟨ins124, res124, f_spec_l2Sum⟩
abbrev ins132 : List Pm := [.val (.int .i64), .val (.int .i64), .val .str]
abbrev res132 : List (K × Mk) := [((.int .u32), .s)]
abbrev f_spec_l13Sum_i2c : Desc := ⟨[(1, .v (.int .i64)), (2, .v .str), (8, .v .bool)], []⟩
abbrev f_spec_l13Sum_i2v : Desc := ⟨[(0, .v (.int .i64))], []⟩
abbrev f_spec_l13Sum_i2e : List (Ek × Desc) := [(.norm, ⟨[(0, .v (.int .i64))], []⟩)]
def f_spec_l13Sum_i2 (R : Type) (c : ((Int × ByteArray × Bool × Unit) × Unit)) (v : ((Int × Unit) × Unit)) (kk : ((Int × ByteArray × Bool × Unit) × Unit) → ((Int × Unit) × Unit) → Option R) : Option R :=
 (cond c.1.2.2.1
 (kk ((c.1.1, (c.1.2.1, (c.1.2.2.1, ()))), ()) (((0 : Int), ()), ()))
 (kk ((c.1.1, (c.1.2.1, (c.1.2.2.1, ()))), ()) ((v.1.1, ()), ())))
abbrev f_spec_l13Sum_i4c : Desc := ⟨[(0, .v (.int .i64)), (2, .v .str), (10, .v .bool)], []⟩
abbrev f_spec_l13Sum_i4v : Desc := ⟨[(1, .v (.int .i64))], []⟩
abbrev f_spec_l13Sum_i4e : List (Ek × Desc) := [(.norm, ⟨[(1, .v (.int .i64))], []⟩)]
def f_spec_l13Sum_i4 (R : Type) (c : ((Int × ByteArray × Bool × Unit) × Unit)) (v : ((Int × Unit) × Unit)) (kk : ((Int × ByteArray × Bool × Unit) × Unit) → ((Int × Unit) × Unit) → Option R) : Option R :=
 (cond c.1.2.2.1
 (kk ((c.1.1, (c.1.2.1, (c.1.2.2.1, ()))), ()) (((0 : Int), ()), ()))
 (kk ((c.1.1, (c.1.2.1, (c.1.2.2.1, ()))), ()) ((v.1.1, ()), ())))
def f_spec_l13Sum (x : (Int × Int × ByteArray × Unit)) : Option ((Int × Unit) × Unit) :=
 (f_spec_l13Sum_i2 _ ((x.2.1, (x.2.2.1, ((ilt x.1 (0 : Int)), ()))), ()) ((x.1, ()), ()) fun c1 o2 =>
 (f_spec_l13Sum_i4 _ ((o2.1.1, (c1.1.2.1, ((ilt c1.1.1 (0 : Int)), ()))), ()) ((c1.1.1, ()), ()) fun c3 o4 =>
 (bnd (f_spec_l2Var (c3.1.1, ())) fun r5 => (bnd (f_spec_l2Var (o4.1.1, ())) fun r6 => (catO r5.1.1 r6.1.1 fun v7 => (catO v7 c3.1.2.1 fun v8 => (bnd (f_spec_l2Sum (v8, ())) fun r9 => (some ((r9.1.1, ()), ())))))))))
def sg132 : Sig := ⟨ins132, res132, f_spec_l13Sum⟩
abbrev ins92 : List Pm := [.val (.sl .str)]
abbrev res92 : List (K × Mk) := [((.sl kdChunk), (.o .s))]
abbrev f_spec_l13Chunks_l6c : Desc := ⟨[(3, .al 3 []), (4, .v (.int .i64)), (5, .v .str), (8, .v (.sl .str)), (9, .v (.int .i64)), (10, .v (.int .i64))], []⟩
abbrev f_spec_l13Chunks_l6v : Desc := ⟨[(6, .v (.int .i64))], [(3, ⟨(.sl kdChunk), (.o .s), false⟩)]⟩
abbrev f_spec_l13Chunks_l6e : List (Ek × Desc) := [(.exit 2, ⟨[], [(3, ⟨(.sl kdChunk), (.o .s), false⟩)]⟩)]
def f_spec_l13Chunks_l6 (R : Type) (c : ((Int × ByteArray × (List ByteArray) × Int × Int × Unit) × Unit)) (v : ((Int × Unit) × ((List DChunk) × Unit))) (kk : ((Int × ByteArray × (List ByteArray) × Int × Int × Unit) × Unit) → (((Int × Unit) × ((List DChunk) × Unit)) ⊕ (Unit × ((List DChunk) × Unit))) → Option R) : Option R :=
 (cond (ilt v.1.1 (slen c.1.2.1))
 (bnd (f_spec_l13Size ((slen c.1.2.1), (v.1.1, ()))) fun r2 => (req (decide ((0 : Int) ≤ v.1.1) && (decide (v.1.1 ≤ (iadd .i64 v.1.1 r2.1.1)) && decide ((iadd .i64 v.1.1 r2.1.1) ≤ ((ByteArray.size c.1.2.1) : Int)))) (bnd (f_spec_l13Sum (c.1.1, (v.1.1, ((ByteArray.extract c.1.2.1 (Int.toNat v.1.1) (Int.toNat (iadd .i64 v.1.1 r2.1.1))), ())))) fun r3 => (req (decide (List.length v.2.1 + List.length [(c.1.1, (v.1.1, ((ByteArray.extract c.1.2.1 (Int.toNat v.1.1) (Int.toNat (iadd .i64 v.1.1 r2.1.1))), (r3.1.1, ()))))] ≤ 17179869184)) (kk ((c.1.1, (c.1.2.1, (c.1.2.2.1, (c.1.2.2.2.1, (c.1.2.2.2.2.1, ()))))), ()) (.inl (((iadd .i64 v.1.1 (64 : Int)), ()), ((v.2.1 ++ [(c.1.1, (v.1.1, ((ByteArray.extract c.1.2.1 (Int.toNat v.1.1) (Int.toNat (iadd .i64 v.1.1 r2.1.1))), (r3.1.1, ()))))]), ()))))))))
 (kk ((c.1.1, (c.1.2.1, (c.1.2.2.1, (c.1.2.2.2.1, (c.1.2.2.2.2.1, ()))))), ()) (.inr ((), (v.2.1, ())))))
abbrev f_spec_l13Chunks_l3c : Desc := ⟨[(3, .al 3 [])], []⟩
abbrev f_spec_l13Chunks_l3v : Desc := ⟨[(8, .v (.sl .str)), (9, .v (.int .i64)), (10, .v (.int .i64))], [(3, ⟨(.sl kdChunk), (.o .s), false⟩)]⟩
abbrev f_spec_l13Chunks_l3e : List (Ek × Desc) := [(.exit 0, ⟨[], [(3, ⟨(.sl kdChunk), (.o .s), false⟩)]⟩)]
def f_spec_l13Chunks_l3 (R : Type) (c : (Unit × Unit)) (v : (((List ByteArray) × Int × Int × Unit) × ((List DChunk) × Unit))) (kk : (Unit × Unit) → ((((List ByteArray) × Int × Int × Unit) × ((List DChunk) × Unit)) ⊕ (Unit × ((List DChunk) × Unit))) → Option R) : Option R :=
 (cond (ilt v.1.2.2.1 v.1.2.1)
 (getO v.1.1 v.1.2.2.1 fun v1 => (loopF (c := f_spec_l13Chunks_l6c) (v := f_spec_l13Chunks_l6v) (ex := f_spec_l13Chunks_l6e) f_spec_l13Chunks_l6 _ ((v.1.2.2.1, (v1, (v.1.1, (v.1.2.1, (v.1.2.2.1, ()))))), ()) (((0 : Int), ()), (v.2.1, ())) fun c2 o3 =>
 (kk ((), ()) (.inl ((c2.1.2.2.1, (c2.1.2.2.2.1, ((iadd .i64 c2.1.2.2.2.2.1 (1 : Int)), ()))), (o3.2.1, ()))))))
 (kk ((), ()) (.inr ((), (v.2.1, ())))))
def f_spec_l13Chunks (x : ((List ByteArray) × Unit)) : Option (((List DChunk) × Unit) × Unit) :=
 (loopF (c := f_spec_l13Chunks_l3c) (v := f_spec_l13Chunks_l3v) (ex := f_spec_l13Chunks_l3e) f_spec_l13Chunks_l3 _ ((), ()) ((x.1, ((llen x.1), ((0 : Int), ()))), (([] : List DChunk), ())) fun c4 o5 =>
 (some ((o5.2.1, ()), ())))
def sg92 : Sig := ⟨ins92, res92, f_spec_l13Chunks⟩
abbrev ins37 : List Pm := [.val (.sl .str)]
abbrev res37 : List (K × Mk) := [((.sl kdChunk), (.o .s)), (.bool, .s)]
def f_spec_ChunksOf (x : ((List ByteArray) × Unit)) : Option (((List DChunk) × Bool × Unit) × Unit) :=
 (bnd (f_spec_l13Files (x.1, ())) fun r1 => (cond (!r1.1.1)
 (some ((([] : List DChunk), (false, ())), ()))
 (bnd (f_spec_l13Chunks (x.1, ())) fun r2 => (cond (ilt (200 : Int) (llen r2.1.1))
 (some ((([] : List DChunk), (false, ())), ()))
 (some ((r2.1.1, (true, ())), ()))))))
def sg37 : Sig := ⟨ins37, res37, f_spec_ChunksOf⟩
abbrev ins32 : List Pm := [.val (.sl (.int .u8))]
abbrev res32 : List (K × Mk) := [((.sl .str), (.o .s)), ((.sl (.int .i64)), (.o .s)), ((.sl (.int .i64)), (.o .s))]
abbrev f_spec_DrawPlayTaking_i11c : Desc := ⟨[(5, .ptr 16 []), (6, .al 6 []), (7, .al 7 []), (9, .al 9 []), (10, .al 10 []), (11, .v (.int .i64)), (43, .v .bool)], [(6, ⟨(.sl .str), (.o .s), false⟩), (7, ⟨(.sl kdChunk), (.o .s), false⟩), (9, ⟨(.sl (.int .i64)), (.o .s), false⟩), (10, ⟨(.sl (.int .i64)), (.o .s), false⟩)]⟩
abbrev f_spec_DrawPlayTaking_i11v : Desc := ⟨[(12, .v (.int .i64))], [(16, ⟨kdl1Cur, .s, true⟩)]⟩
abbrev f_spec_DrawPlayTaking_i11e : List (Ek × Desc) := [(.norm, ⟨[(12, .v (.int .i64))], [(16, ⟨kdl1Cur, .s, true⟩)]⟩)]
def f_spec_DrawPlayTaking_i11 (R : Type) (c : ((Int × Bool × Unit) × ((List ByteArray) × (List DChunk) × (List Int) × (List Int) × Unit))) (v : ((Int × Unit) × (Dl1Cur × Unit))) (kk : ((Int × Bool × Unit) × ((List ByteArray) × (List DChunk) × (List Int) × (List Int) × Unit)) → ((Int × Unit) × (Dl1Cur × Unit)) → Option R) : Option R :=
 (cond c.1.2.1
 (bnd (f_spec_l1Cur_pick (v.2.1, ((600 : Int), ()))) fun r6 => (kk ((c.1.1, (c.1.2.1, ())), (c.2.1, (c.2.2.1, (c.2.2.2.1, (c.2.2.2.2.1, ()))))) ((r6.1.1, ()), (r6.2.1, ()))))
 (kk ((c.1.1, (c.1.2.1, ())), (c.2.1, (c.2.2.1, (c.2.2.2.1, (c.2.2.2.2.1, ()))))) ((v.1.1, ()), (v.2.1, ()))))
abbrev f_spec_DrawPlayTaking_l6c : Desc := ⟨[(5, .ptr 16 []), (6, .al 6 []), (7, .al 7 []), (9, .al 9 []), (10, .al 10 [])], []⟩
abbrev f_spec_DrawPlayTaking_l6v : Desc := ⟨[(11, .v (.int .i64))], [(6, ⟨(.sl .str), (.o .s), false⟩), (7, ⟨(.sl kdChunk), (.o .s), false⟩), (9, ⟨(.sl (.int .i64)), (.o .s), false⟩), (10, ⟨(.sl (.int .i64)), (.o .s), false⟩), (16, ⟨kdl1Cur, .s, true⟩)]⟩
abbrev f_spec_DrawPlayTaking_l6e : List (Ek × Desc) := [(.exit 0, ⟨[], [(6, ⟨(.sl .str), (.o .s), false⟩), (7, ⟨(.sl kdChunk), (.o .s), false⟩), (9, ⟨(.sl (.int .i64)), (.o .s), false⟩), (10, ⟨(.sl (.int .i64)), (.o .s), false⟩), (16, ⟨kdl1Cur, .s, true⟩)]⟩)]
def f_spec_DrawPlayTaking_l6 (R : Type) (c : (Unit × Unit)) (v : ((Int × Unit) × ((List ByteArray) × (List DChunk) × (List Int) × (List Int) × Dl1Cur × Unit))) (kk : (Unit × Unit) → (((Int × Unit) × ((List ByteArray) × (List DChunk) × (List Int) × (List Int) × Dl1Cur × Unit)) ⊕ (Unit × ((List ByteArray) × (List DChunk) × (List Int) × (List Int) × Dl1Cur × Unit))) → Option R) : Option R :=
 (cond (ilt (0 : Int) v.1.1)
 (bnd (f_spec_l1Cur_pick (v.2.2.2.2.2.1, ((iadd .i64 (llen v.2.2.1) (1 : Int)), ()))) fun r4 => (req (decide (List.length v.2.2.2.1 + List.length [r4.1.1] ≤ 17179869184)) (bnd (f_spec_l1Cur_one (r4.2.1, ((4 : Int), ()))) fun r5 => (f_spec_DrawPlayTaking_i11 _ ((v.1.1, (r5.1.1, ())), (v.2.1, (v.2.2.1, ((v.2.2.2.1 ++ [r4.1.1]), (v.2.2.2.2.1, ()))))) (((-1 : Int), ()), (r5.2.1, ())) fun c6 o7 =>
 (req (decide (List.length c6.2.2.2.2.1 + List.length [o7.1.1] ≤ 17179869184)) (kk ((), ()) (.inl (((isub .i64 c6.1.1 (1 : Int)), ()), (c6.2.1, (c6.2.2.1, (c6.2.2.2.1, ((c6.2.2.2.2.1 ++ [o7.1.1]), (o7.2.1, ())))))))))))))
 (kk ((), ()) (.inr ((), (v.2.1, (v.2.2.1, (v.2.2.2.1, (v.2.2.2.2.1, (v.2.2.2.2.2.1, ())))))))))
abbrev f_spec_DrawPlayTaking_l15c : Desc := ⟨[(6, .al 6 []), (9, .al 9 []), (10, .al 10 [])], [(6, ⟨(.sl .str), (.o .s), false⟩)]⟩
abbrev f_spec_DrawPlayTaking_l15v : Desc := ⟨[(13, .v (.int .i64))], [(9, ⟨(.sl (.int .i64)), (.o .s), false⟩), (10, ⟨(.sl (.int .i64)), (.o .s), false⟩)]⟩
abbrev f_spec_DrawPlayTaking_l15e : List (Ek × Desc) := [(.exit 2, ⟨[], [(9, ⟨(.sl (.int .i64)), (.o .s), false⟩), (10, ⟨(.sl (.int .i64)), (.o .s), false⟩)]⟩)]
def f_spec_DrawPlayTaking_l15 (R : Type) (c : (Unit × ((List ByteArray) × Unit))) (v : ((Int × Unit) × ((List Int) × (List Int) × Unit))) (kk : (Unit × ((List ByteArray) × Unit)) → (((Int × Unit) × ((List Int) × (List Int) × Unit)) ⊕ (Unit × ((List Int) × (List Int) × Unit))) → Option R) : Option R :=
 (cond (ile (0 : Int) v.1.1)
 (req (decide (List.length v.2.1 + List.length [v.1.1] ≤ 17179869184)) (req (decide (List.length v.2.2.1 + List.length [(-1 : Int)] ≤ 17179869184)) (kk ((), (c.2.1, ())) (.inl (((isub .i64 v.1.1 (1 : Int)), ()), ((v.2.1 ++ [v.1.1]), ((v.2.2.1 ++ [(-1 : Int)]), ())))))))
 (kk ((), (c.2.1, ())) (.inr ((), (v.2.1, (v.2.2.1, ()))))))
abbrev f_spec_DrawPlayTaking_i14c : Desc := ⟨[(6, .al 6 []), (9, .al 9 []), (10, .al 10 [])], []⟩
abbrev f_spec_DrawPlayTaking_i14v : Desc := ⟨[(7, .al 7 []), (52, .v .bool)], [(6, ⟨(.sl .str), (.o .s), false⟩), (7, ⟨(.sl kdChunk), (.o .s), false⟩), (9, ⟨(.sl (.int .i64)), (.o .s), false⟩), (10, ⟨(.sl (.int .i64)), (.o .s), false⟩)]⟩
abbrev f_spec_DrawPlayTaking_i14e : List (Ek × Desc) := [(.norm, ⟨[], [(6, ⟨(.sl .str), (.o .s), false⟩), (9, ⟨(.sl (.int .i64)), (.o .s), false⟩), (10, ⟨(.sl (.int .i64)), (.o .s), false⟩)]⟩)]
def f_spec_DrawPlayTaking_i14 (R : Type) (c : (Unit × Unit)) (v : ((Bool × Unit) × ((List ByteArray) × (List DChunk) × (List Int) × (List Int) × Unit))) (kk : (Unit × Unit) → (Unit × ((List ByteArray) × (List Int) × (List Int) × Unit)) → Option R) : Option R :=
 (cond v.1.1
 (loopF (c := f_spec_DrawPlayTaking_l15c) (v := f_spec_DrawPlayTaking_l15v) (ex := f_spec_DrawPlayTaking_l15e) f_spec_DrawPlayTaking_l15 _ ((), (v.2.1, ())) (((isub .i64 (llen v.2.2.1) (1 : Int)), ()), (v.2.2.2.1, (v.2.2.2.2.1, ()))) fun c11 o12 =>
 (kk ((), ()) ((), (c11.2.1, (o12.2.1, (o12.2.2.1, ()))))))
 (kk ((), ()) ((), (v.2.1, (v.2.2.2.1, (v.2.2.2.2.1, ()))))))
def f_spec_DrawPlayTaking (x : ((List Int) × Unit)) : Option (((List ByteArray) × (List Int) × (List Int) × Unit) × Unit) :=
 (bnd (f_spec_l1Cur_files ((x.1, ((0 : Int), ((0 : Int), ()))), ())) fun r1 => (bnd (f_spec_ChunksOf (r1.1.1, ())) fun r2 => (bnd (f_spec_l1Cur_pick (r1.2.1, ((imul .i64 (3 : Int) (iadd .i64 (llen r2.1.1) (1 : Int))), ()))) fun r3 => (loopF (c := f_spec_DrawPlayTaking_l6c) (v := f_spec_DrawPlayTaking_l6v) (ex := f_spec_DrawPlayTaking_l6e) f_spec_DrawPlayTaking_l6 _ ((), ()) ((r3.1.1, ()), (r1.1.1, (r2.1.1, (([] : List Int), (([] : List Int), (r3.2.1, ())))))) fun c8 o9 =>
 (bnd (f_spec_l1Cur_one (o9.2.2.2.2.2.1, ((3 : Int), ()))) fun r10 => (f_spec_DrawPlayTaking_i14 _ ((), ()) (((!r10.1.1), ()), (o9.2.1, (o9.2.2.1, (o9.2.2.2.1, (o9.2.2.2.2.1, ()))))) fun c13 o14 =>
 (some ((o14.2.1, (o14.2.2.1, (o14.2.2.2.1, ()))), ()))))))))
def sg32 : Sig := ⟨ins32, res32, f_spec_DrawPlayTaking⟩
abbrev ins129 : List Pm := [.val .str]
abbrev res129 : List (K × Mk) := [(.bool, .s)]
def f_impl_filesOk_1 (x : (ByteArray × Unit)) : Option ((Bool × Unit) × Unit) :=
 (some (((ilt (4000 : Int) (slen x.1)), ()), ()))
def sg129 : Sig := ⟨ins129, res129, f_impl_filesOk_1⟩
abbrev ins157 : List Pm := [.val (.sl .str), .fn [.str] [.bool]]
abbrev res157 : List (K × Mk) := [((.int .i64), .s)]
abbrev f_slices_IndexFunc_string_l2c : Desc := ⟨[(0, .v (.sl .str)), (1, .fv [.str] [.bool]), (7, .v (.int .i64))], []⟩
abbrev f_slices_IndexFunc_string_l2v : Desc := ⟨[(8, .v (.int .i64))], []⟩
abbrev f_slices_IndexFunc_string_l2e : List (Ek × Desc) := [(.ret, ⟨[(4, .v (.int .i64))], []⟩), (.exit 0, ⟨[], []⟩)]
def f_slices_IndexFunc_string_l2 (R : Type) (c : (((List ByteArray) × ((ByteArray × Unit) → Option (Bool × Unit)) × Int × Unit) × Unit)) (v : ((Int × Unit) × Unit)) (kk : (((List ByteArray) × ((ByteArray × Unit) → Option (Bool × Unit)) × Int × Unit) × Unit) → (((Int × Unit) × Unit) ⊕ (((Int × Unit) × Unit) ⊕ (Unit × Unit))) → Option R) : Option R :=
 (cond (ilt v.1.1 c.1.2.2.1)
 (getO c.1.1 v.1.1 fun v1 => (bnd (c.1.2.1 (v1, ())) fun r2 => (cond r2.1
 (kk ((c.1.1, (c.1.2.1, (c.1.2.2.1, ()))), ()) (.inr (.inl ((v.1.1, ()), ()))))
 (kk ((c.1.1, (c.1.2.1, (c.1.2.2.1, ()))), ()) (.inl (((iadd .i64 v.1.1 (1 : Int)), ()), ()))))))
 (kk ((c.1.1, (c.1.2.1, (c.1.2.2.1, ()))), ()) (.inr (.inr ((), ())))))
def f_slices_IndexFunc_string (x : ((List ByteArray) × ((ByteArray × Unit) → Option (Bool × Unit)) × Unit)) : Option ((Int × Unit) × Unit) :=
 (loopF (c := f_slices_IndexFunc_string_l2c) (v := f_slices_IndexFunc_string_l2v) (ex := f_slices_IndexFunc_string_l2e) f_slices_IndexFunc_string_l2 _ ((x.1, (x.2.1, ((llen x.1), ()))), ()) (((0 : Int), ()), ()) fun c3 o4 =>
 (match o4 with
 | .inl y5 => (some ((y5.1.1, ()), ()))
 | .inr z6 => (some (((-1 : Int), ()), ()))))
def sg157 : Sig := ⟨ins157, res157, f_slices_IndexFunc_string⟩
abbrev ins128 : List Pm := [.val (.sl .str), .fn [.str] [.bool]]
abbrev res128 : List (K × Mk) := [(.bool, .s)]
def f_slices_ContainsFunc_string (x : ((List ByteArray) × ((ByteArray × Unit) → Option (Bool × Unit)) × Unit)) : Option ((Bool × Unit) × Unit) :=
 (bnd (f_slices_IndexFunc_string (x.1, (x.2.1, ()))) fun r1 => (some (((ile (0 : Int) r1.1.1), ()), ())))
def sg128 : Sig := ⟨ins128, res128, f_slices_ContainsFunc_string⟩
abbrev ins89 : List Pm := [.val (.sl .str)]
abbrev res89 : List (K × Mk) := [(.bool, .s)]
def f_impl_filesOk (x : ((List ByteArray) × Unit)) : Option ((Bool × Unit) × Unit) :=
 (cond (ile (llen x.1) (12 : Int))
 (bnd (f_slices_ContainsFunc_string (x.1, ((fun z => (bnd (f_impl_filesOk_1 (z.1, ())) fun r => (some r.1))), ()))) fun r1 => (some (((!r1.1.1), ()), ())))
 (some ((false, ()), ())))
def sg89 : Sig := ⟨ins89, res89, f_impl_filesOk⟩
abbrev ins59 : List Pm := [.val (.int .i64)]
abbrev res59 : List (K × Mk) := [(.str, .s)]
abbrev f_impl_varBytes_l2c : Desc := ⟨[(3, .al 3 [])], []⟩
abbrev f_impl_varBytes_l2v : Desc := ⟨[(0, .v (.int .i64))], [(3, ⟨(.sl (.int .u8)), (.o .s), false⟩)]⟩
abbrev f_impl_varBytes_l2e : List (Ek × Desc) := [(.exit 0, ⟨[(0, .v (.int .i64))], [(3, ⟨(.sl (.int .u8)), (.o .s), false⟩)]⟩)]
def f_impl_varBytes_l2 (R : Type) (c : (Unit × Unit)) (v : ((Int × Unit) × ((List Int) × Unit))) (kk : (Unit × Unit) → (((Int × Unit) × ((List Int) × Unit)) ⊕ ((Int × Unit) × ((List Int) × Unit))) → Option R) : Option R :=
 (cond (ile (128 : Int) v.1.1)
 (req (decide (List.length v.2.1 + List.length [(iadd .u8 (IntKind.wrap .u8 (irem .i64 v.1.1 (128 : Int))) (128 : Int))] ≤ 17179869184)) (kk ((), ()) (.inl (((iquo .i64 v.1.1 (128 : Int)), ()), ((v.2.1 ++ [(iadd .u8 (IntKind.wrap .u8 (irem .i64 v.1.1 (128 : Int))) (128 : Int))]), ())))))
 (kk ((), ()) (.inr ((v.1.1, ()), (v.2.1, ())))))
def f_impl_varBytes (x : (Int × Unit)) : Option ((ByteArray × Unit) × Unit) :=
 (loopF (c := f_impl_varBytes_l2c) (v := f_impl_varBytes_l2v) (ex := f_impl_varBytes_l2e) f_impl_varBytes_l2 _ ((), ()) ((x.1, ()), (([] : List Int), ())) fun c1 o2 =>
 (req (decide (List.length o2.2.1 + List.length [(IntKind.wrap .u8 o2.1.1)] ≤ 17179869184)) (some (((strOf (o2.2.1 ++ [(IntKind.wrap .u8 o2.1.1)])), ()), ()))))
def sg59 : Sig := ⟨ins59, res59, f_impl_varBytes⟩
abbrev ins160 : List Pm := []
abbrev res160 : List (K × Mk) := [((.sl (.int .u32)), (.o .s))]
abbrev f_impl_SumTable_i10c : Desc := ⟨[(1, .al 1 []), (5, .v (.int .u32)), (8, .v (.int .i64)), (15, .v .bool)], [(1, ⟨(.sl (.int .u32)), (.o .s), false⟩)]⟩
abbrev f_impl_SumTable_i10v : Desc := ⟨[(2, .v (.int .u32))], []⟩
abbrev f_impl_SumTable_i10e : List (Ek × Desc) := [(.norm, ⟨[(2, .v (.int .u32))], []⟩)]
def f_impl_SumTable_i10 (R : Type) (c : ((Int × Int × Bool × Unit) × ((List Int) × Unit))) (v : ((Int × Unit) × Unit)) (kk : ((Int × Int × Bool × Unit) × ((List Int) × Unit)) → ((Int × Unit) × Unit) → Option R) : Option R :=
 (cond c.1.2.2.1
 (kk ((c.1.1, (c.1.2.1, (c.1.2.2.1, ()))), (c.2.1, ())) (((ixor .u32 v.1.1 (2197175160 : Int)), ()), ()))
 (kk ((c.1.1, (c.1.2.1, (c.1.2.2.1, ()))), (c.2.1, ())) ((v.1.1, ()), ())))
abbrev f_impl_SumTable_l6c : Desc := ⟨[(1, .al 1 [])], []⟩
abbrev f_impl_SumTable_l6v : Desc := ⟨[(2, .v (.int .u32)), (5, .v (.int .u32)), (8, .v (.int .i64))], [(1, ⟨(.sl (.int .u32)), (.o .s), false⟩)]⟩
abbrev f_impl_SumTable_l6e : List (Ek × Desc) := [(.exit 2, ⟨[(2, .v (.int .u32)), (5, .v (.int .u32))], [(1, ⟨(.sl (.int .u32)), (.o .s), false⟩)]⟩)]
def f_impl_SumTable_l6 (R : Type) (c : (Unit × Unit)) (v : ((Int × Int × Int × Unit) × ((List Int) × Unit))) (kk : (Unit × Unit) → (((Int × Int × Int × Unit) × ((List Int) × Unit)) ⊕ ((Int × Int × Unit) × ((List Int) × Unit))) → Option R) : Option R :=
 (cond (ilt v.1.2.2.1 (8 : Int))
 (f_impl_SumTable_i10 _ ((v.1.2.1, (v.1.2.2.1, ((ieq (iand .u32 v.1.1 (1 : Int)) (1 : Int)), ()))), (v.2.1, ())) (((ishr .u32 v.1.1 (1 : Int)), ()), ()) fun c1 o2 =>
 (kk ((), ()) (.inl ((o2.1.1, (c1.1.1, ((iadd .i64 c1.1.2.1 (1 : Int)), ()))), (c1.2.1, ())))))
 (kk ((), ()) (.inr ((v.1.1, (v.1.2.1, ())), (v.2.1, ())))))
abbrev f_impl_SumTable_l3c : Desc := ⟨[(1, .al 1 [])], []⟩
abbrev f_impl_SumTable_l3v : Desc := ⟨[(5, .v (.int .u32))], [(1, ⟨(.sl (.int .u32)), (.o .s), false⟩)]⟩
abbrev f_impl_SumTable_l3e : List (Ek × Desc) := [(.exit 0, ⟨[], [(1, ⟨(.sl (.int .u32)), (.o .s), false⟩)]⟩)]
def f_impl_SumTable_l3 (R : Type) (c : (Unit × Unit)) (v : ((Int × Unit) × ((List Int) × Unit))) (kk : (Unit × Unit) → (((Int × Unit) × ((List Int) × Unit)) ⊕ (Unit × ((List Int) × Unit))) → Option R) : Option R :=
 (cond (ilt v.1.1 (256 : Int))
 (loopF (c := f_impl_SumTable_l6c) (v := f_impl_SumTable_l6v) (ex := f_impl_SumTable_l6e) f_impl_SumTable_l6 _ ((), ()) ((v.1.1, (v.1.1, ((0 : Int), ()))), (v.2.1, ())) fun c1 o2 =>
 (req (decide (List.length o2.2.1 + List.length [o2.1.1] ≤ 17179869184)) (kk ((), ()) (.inl (((iadd .u32 o2.1.2.1 (1 : Int)), ()), ((o2.2.1 ++ [o2.1.1]), ()))))))
 (kk ((), ()) (.inr ((), (v.2.1, ())))))
def f_impl_SumTable (x : Unit) : Option (((List Int) × Unit) × Unit) :=
 (loopF (c := f_impl_SumTable_l3c) (v := f_impl_SumTable_l3v) (ex := f_impl_SumTable_l3e) f_impl_SumTable_l3 _ ((), ()) (((0 : Int), ()), (([] : List Int), ())) fun c3 o4 =>
 (some ((o4.2.1, ()), ())))
def sg160 : Sig := ⟨ins160, res160, f_impl_SumTable⟩
abbrev ins139 : List Pm := [.val (.int .u32), .val .str]
abbrev res139 : List (K × Mk) := [((.int .u32), .s)]
abbrev f_impl_SumOn_l3c : Desc := ⟨[(1, .v .str), (5, .al 5 []), (9, .v (.int .i64))], [(5, ⟨(.sl (.int .u32)), (.o .s), false⟩)]⟩
abbrev f_impl_SumOn_l3v : Desc := ⟨[(0, .v (.int .u32)), (10, .v (.int .i64))], []⟩
abbrev f_impl_SumOn_l3e : List (Ek × Desc) := [(.exit 0, ⟨[(0, .v (.int .u32))], []⟩)]
def f_impl_SumOn_l3 (R : Type) (c : ((ByteArray × Int × Unit) × ((List Int) × Unit))) (v : ((Int × Int × Unit) × Unit)) (kk : ((ByteArray × Int × Unit) × ((List Int) × Unit)) → (((Int × Int × Unit) × Unit) ⊕ ((Int × Unit) × Unit)) → Option R) : Option R :=
 (cond (ilt v.1.2.1 c.1.2.1)
 (getB c.1.1 v.1.2.1 fun v2 => (getO c.2.1 (ixor .u8 (IntKind.wrap .u8 v.1.1) v2) fun _ => (bnd (c.2.1[(Int.toNat (ixor .u8 (IntKind.wrap .u8 v.1.1) v2))]?) fun v4 => (kk ((c.1.1, (c.1.2.1, ())), (c.2.1, ())) (.inl (((ixor .u32 (ishr .u32 v.1.1 (8 : Int)) v4), ((iadd .i64 v.1.2.1 (1 : Int)), ())), ()))))))
 (kk ((c.1.1, (c.1.2.1, ())), (c.2.1, ())) (.inr ((v.1.1, ()), ()))))
def f_impl_SumOn (x : (Int × ByteArray × Unit)) : Option ((Int × Unit) × Unit) :=
 (bnd (f_impl_SumTable ()) fun r1 => (loopF (c := f_impl_SumOn_l3c) (v := f_impl_SumOn_l3v) (ex := f_impl_SumOn_l3e) f_impl_SumOn_l3 _ ((x.2.1, ((slen x.2.1), ())), (r1.1.1, ())) ((x.1, ((0 : Int), ())), ()) fun c5 o6 =>
 (some ((o6.1.1, ()), ()))))
def sg139 : Sig := ⟨ins139, res139, f_impl_SumOn⟩
abbrev ins102 : List Pm := [.val .str]
abbrev res102 : List (K × Mk) := [((.int .u32), .s)]
def f_impl_SumOf (x : (ByteArray × Unit)) : Option ((Int × Unit) × Unit) :=
 (bnd (f_impl_SumOn ((4294967295 : Int), (x.1, ()))) fun r1 => (some (((inot .u32 r1.1.1), ()), ())))
def sg102 : Sig := ⟨ins102, res102, f_impl_SumOf⟩
abbrev ins130 : List Pm := [.val (.int .i64), .val (.int .i64), .val .str]
abbrev res130 : List (K × Mk) := [((.int .u32), .s)]
def f_impl_ChunkSum (x : (Int × Int × ByteArray × Unit)) : Option ((Int × Unit) × Unit) :=
 (bnd (f_impl_varBytes ((imax x.1 (0 : Int)), ())) fun r1 => (bnd (f_impl_varBytes ((imax x.2.1 (0 : Int)), ())) fun r2 => (catO r1.1.1 r2.1.1 fun v3 => (catO v3 x.2.2.1 fun v4 => (bnd (f_impl_SumOf (v4, ())) fun r5 => (some ((r5.1.1, ()), ())))))))
def sg130 : Sig := ⟨ins130, res130, f_impl_ChunkSum⟩
abbrev ins90 : List Pm := [.val (.sl .str)]
abbrev res90 : List (K × Mk) := [((.sl kdChunk), (.o .s))]
abbrev f_impl_chunks_l6c : Desc := ⟨[(3, .al 3 []), (4, .v (.int .i64)), (5, .v .str), (9, .v (.sl .str)), (10, .v (.int .i64)), (11, .v (.int .i64))], []⟩
abbrev f_impl_chunks_l6v : Desc := ⟨[(6, .v (.int .i64))], [(3, ⟨(.sl kdChunk), (.o .s), false⟩)]⟩
abbrev f_impl_chunks_l6e : List (Ek × Desc) := [(.exit 2, ⟨[], [(3, ⟨(.sl kdChunk), (.o .s), false⟩)]⟩)]
def f_impl_chunks_l6 (R : Type) (c : ((Int × ByteArray × (List ByteArray) × Int × Int × Unit) × Unit)) (v : ((Int × Unit) × ((List DChunk) × Unit))) (kk : ((Int × ByteArray × (List ByteArray) × Int × Int × Unit) × Unit) → (((Int × Unit) × ((List DChunk) × Unit)) ⊕ (Unit × ((List DChunk) × Unit))) → Option R) : Option R :=
 (cond (ilt v.1.1 (slen c.1.2.1))
 (req (decide ((0 : Int) ≤ v.1.1) && (decide (v.1.1 ≤ (imin (iadd .i64 v.1.1 (64 : Int)) (slen c.1.2.1))) && decide ((imin (iadd .i64 v.1.1 (64 : Int)) (slen c.1.2.1)) ≤ ((ByteArray.size c.1.2.1) : Int)))) (bnd (f_impl_ChunkSum (c.1.1, (v.1.1, ((ByteArray.extract c.1.2.1 (Int.toNat v.1.1) (Int.toNat (imin (iadd .i64 v.1.1 (64 : Int)) (slen c.1.2.1)))), ())))) fun r2 => (req (decide (List.length v.2.1 + List.length [(c.1.1, (v.1.1, ((ByteArray.extract c.1.2.1 (Int.toNat v.1.1) (Int.toNat (imin (iadd .i64 v.1.1 (64 : Int)) (slen c.1.2.1)))), (r2.1.1, ()))))] ≤ 17179869184)) (kk ((c.1.1, (c.1.2.1, (c.1.2.2.1, (c.1.2.2.2.1, (c.1.2.2.2.2.1, ()))))), ()) (.inl (((iadd .i64 v.1.1 (64 : Int)), ()), ((v.2.1 ++ [(c.1.1, (v.1.1, ((ByteArray.extract c.1.2.1 (Int.toNat v.1.1) (Int.toNat (imin (iadd .i64 v.1.1 (64 : Int)) (slen c.1.2.1)))), (r2.1.1, ()))))]), ())))))))
 (kk ((c.1.1, (c.1.2.1, (c.1.2.2.1, (c.1.2.2.2.1, (c.1.2.2.2.2.1, ()))))), ()) (.inr ((), (v.2.1, ())))))
abbrev f_impl_chunks_l3c : Desc := ⟨[(3, .al 3 [])], []⟩
abbrev f_impl_chunks_l3v : Desc := ⟨[(9, .v (.sl .str)), (10, .v (.int .i64)), (11, .v (.int .i64))], [(3, ⟨(.sl kdChunk), (.o .s), false⟩)]⟩
abbrev f_impl_chunks_l3e : List (Ek × Desc) := [(.exit 0, ⟨[], [(3, ⟨(.sl kdChunk), (.o .s), false⟩)]⟩)]
def f_impl_chunks_l3 (R : Type) (c : (Unit × Unit)) (v : (((List ByteArray) × Int × Int × Unit) × ((List DChunk) × Unit))) (kk : (Unit × Unit) → ((((List ByteArray) × Int × Int × Unit) × ((List DChunk) × Unit)) ⊕ (Unit × ((List DChunk) × Unit))) → Option R) : Option R :=
 (cond (ilt v.1.2.2.1 v.1.2.1)
 (getO v.1.1 v.1.2.2.1 fun v1 => (loopF (c := f_impl_chunks_l6c) (v := f_impl_chunks_l6v) (ex := f_impl_chunks_l6e) f_impl_chunks_l6 _ ((v.1.2.2.1, (v1, (v.1.1, (v.1.2.1, (v.1.2.2.1, ()))))), ()) (((0 : Int), ()), (v.2.1, ())) fun c2 o3 =>
 (kk ((), ()) (.inl ((c2.1.2.2.1, (c2.1.2.2.2.1, ((iadd .i64 c2.1.2.2.2.2.1 (1 : Int)), ()))), (o3.2.1, ()))))))
 (kk ((), ()) (.inr ((), (v.2.1, ())))))
def f_impl_chunks (x : ((List ByteArray) × Unit)) : Option (((List DChunk) × Unit) × Unit) :=
 (loopF (c := f_impl_chunks_l3c) (v := f_impl_chunks_l3v) (ex := f_impl_chunks_l3e) f_impl_chunks_l3 _ ((), ()) ((x.1, ((llen x.1), ((0 : Int), ()))), (([] : List DChunk), ())) fun c4 o5 =>
 (some ((o5.2.1, ()), ())))
def sg90 : Sig := ⟨ins90, res90, f_impl_chunks⟩
abbrev ins36 : List Pm := [.val (.sl .str)]
abbrev res36 : List (K × Mk) := [((.sl kdChunk), (.o .s)), (.bool, .s)]
def f_impl_ChunksOf (x : ((List ByteArray) × Unit)) : Option (((List DChunk) × Bool × Unit) × Unit) :=
 (bnd (f_impl_filesOk (x.1, ())) fun r1 => (cond (!r1.1.1)
 (some ((([] : List DChunk), (false, ())), ()))
 (bnd (f_impl_chunks (x.1, ())) fun r2 => (cond (ilt (200 : Int) (llen r2.1.1))
 (some ((([] : List DChunk), (false, ())), ()))
 (some ((r2.1.1, (true, ())), ()))))))
def sg36 : Sig := ⟨ins36, res36, f_impl_ChunksOf⟩
abbrev ins80 : List Pm := [.val (.sl .str)]
abbrev res80 : List (K × Mk) := [((.sl kdWanted), (.o .s))]
abbrev f_impl_want_l3c : Desc := ⟨[(3, .al 3 []), (7, .v (.sl .str)), (8, .v (.int .i64))], []⟩
abbrev f_impl_want_l3v : Desc := ⟨[(9, .v (.int .i64))], [(3, ⟨(.sl kdWanted), (.o .s), false⟩)]⟩
abbrev f_impl_want_l3e : List (Ek × Desc) := [(.exit 0, ⟨[], [(3, ⟨(.sl kdWanted), (.o .s), false⟩)]⟩)]
def f_impl_want_l3 (R : Type) (c : (((List ByteArray) × Int × Unit) × Unit)) (v : ((Int × Unit) × ((List DWanted) × Unit))) (kk : (((List ByteArray) × Int × Unit) × Unit) → (((Int × Unit) × ((List DWanted) × Unit)) ⊕ (Unit × ((List DWanted) × Unit))) → Option R) : Option R :=
 (cond (ilt v.1.1 c.1.2.1)
 (getO c.1.1 v.1.1 fun v1 => (bnd (f_impl_SumOf (v1, ())) fun r2 => (req (decide (List.length v.2.1 + List.length [((slen v1), (r2.1.1, ()))] ≤ 17179869184)) (kk ((c.1.1, (c.1.2.1, ())), ()) (.inl (((iadd .i64 v.1.1 (1 : Int)), ()), ((v.2.1 ++ [((slen v1), (r2.1.1, ()))]), ())))))))
 (kk ((c.1.1, (c.1.2.1, ())), ()) (.inr ((), (v.2.1, ())))))
def f_impl_want (x : ((List ByteArray) × Unit)) : Option (((List DWanted) × Unit) × Unit) :=
 (loopF (c := f_impl_want_l3c) (v := f_impl_want_l3v) (ex := f_impl_want_l3e) f_impl_want_l3 _ ((x.1, ((llen x.1), ())), ()) (((0 : Int), ()), (([] : List DWanted), ())) fun c3 o4 =>
 (some ((o4.2.1, ()), ())))
def sg80 : Sig := ⟨ins80, res80, f_impl_want⟩
abbrev ins81 : List Pm := [.val (.int .i64), .val (.int .i64), .val (.int .i64)]
abbrev res81 : List (K × Mk) := [(.bool, .s)]
def f_impl_in (x : (Int × Int × Int × Unit)) : Option ((Bool × Unit) × Unit) :=
 (cond (ile x.2.1 x.1)
 (some (((ile x.1 x.2.2.1), ()), ()))
 (some ((false, ()), ())))
def sg81 : Sig := ⟨ins81, res81, f_impl_in⟩
abbrev ins82 : List Pm := [.val .str, .val (.int .i64)]
abbrev res82 : List (K × Mk) := [(.str, .s)]
def f_impl_flipped (x : (ByteArray × Int × Unit)) : Option ((ByteArray × Unit) × Unit) :=
 (bnd (f_impl_in (x.2.1, ((0 : Int), ((isub .i64 (imul .i64 (8 : Int) (slen x.1)) (1 : Int)), ())))) fun r1 => (cond (!r1.1.1)
 (some ((x.1, ()), ()))
 (cond (Nat.beq (ByteArray.size x.1) 0)
 none
 (getO (bytesOf x.1) (iquo .i64 x.2.1 (8 : Int)) fun _ => (bnd ((bytesOf x.1)[(Int.toNat (iquo .i64 x.2.1 (8 : Int)))]?) fun v3 => (req (ile (0 : Int) (irem .i64 x.2.1 (8 : Int))) (getO (bytesOf x.1) (iquo .i64 x.2.1 (8 : Int)) fun _ => (bnd ((bytesOf x.1)[(Int.toNat (iquo .i64 x.2.1 (8 : Int)))]?) fun v5 => (some (((strOf (List.set (bytesOf x.1) (Int.toNat (iquo .i64 x.2.1 (8 : Int))) (ixor .u8 v3 (ishl .u8 (1 : Int) (irem .i64 x.2.1 (8 : Int)))))), ()), ()))))))))))
def sg82 : Sig := ⟨ins82, res82, f_impl_flipped⟩
abbrev ins100 : List Pm := [.mptr kdTaking (.pr (.o .s) (.pr (.o .s) .s)), .val kdChunk]
abbrev res100 : List (K × Mk) := [(.bool, .s)]
def f_impl_Taking_chunkOk (x : (DTaking × DChunk × Unit)) : Option ((Bool × Unit) × (DTaking × Unit)) :=
 (bnd (f_impl_in (x.2.1.1, ((0 : Int), ((isub .i64 (llen x.1.1) (1 : Int)), ())))) fun r1 => (cond (!r1.1.1)
 (some ((false, ()), (x.1, ())))
 (getO x.1.1 x.2.1.1 fun _ => (bnd (x.1.1[(Int.toNat x.2.1.1)]?) fun v3 => (bnd (x.1.1[(Int.toNat x.2.1.1)]?) fun v4 => (bnd (f_impl_in (x.2.1.2.1, ((0 : Int), ((isub .i64 v4.1 (1 : Int)), ())))) fun r5 => (cond (!r5.1.1)
 (some ((false, ()), (x.1, ())))
 (cond (!ieq (irem .i64 x.2.1.2.1 (64 : Int)) (0 : Int))
 (some ((false, ()), (x.1, ())))
 (cond (!ieq (slen x.2.1.2.2.1) (imin (64 : Int) (isub .i64 v4.1 x.2.1.2.1)))
 (some ((false, ()), (x.1, ())))
 (bnd (f_impl_ChunkSum (x.2.1.1, (x.2.1.2.1, (x.2.1.2.2.1, ())))) fun r6 => (some (((ieq x.2.1.2.2.2.1 r6.1.1), ()), (x.1, ())))))))))))))
def sg100 : Sig := ⟨ins100, res100, f_impl_Taking_chunkOk⟩
abbrev ins159 : List Pm := [.val (.int .i64)]
abbrev res159 : List (K × Mk) := [(.bool, .s)]
def f_cmp_isNaN_int (x : (Int × Unit)) : Option ((Bool × Unit) × Unit) :=
 (some (((!ieq x.1 x.1), ()), ()))
def sg159 : Sig := ⟨ins159, res159, f_cmp_isNaN_int⟩
abbrev ins138 : List Pm := [.val (.int .i64), .val (.int .i64)]
abbrev res138 : List (K × Mk) := [((.int .i64), .s)]
def f_cmp_Compare_int (x : (Int × Int × Unit)) : Option ((Int × Unit) × Unit) :=
 (bnd (f_cmp_isNaN_int (x.1, ())) fun r1 => (bnd (f_cmp_isNaN_int (x.2.1, ())) fun r2 => (cond r1.1.1
 (cond r2.1.1
 (some (((0 : Int), ()), ()))
 (some (((-1 : Int), ()), ())))
 (cond r2.1.1
 (some (((1 : Int), ()), ()))
 (cond (ilt x.1 x.2.1)
 (some (((-1 : Int), ()), ()))
 (cond (ilt x.2.1 x.1)
 (some (((1 : Int), ()), ()))
 (some (((0 : Int), ()), ()))))))))
def sg138 : Sig := ⟨ins138, res138, f_cmp_Compare_int⟩
abbrev ins137 : List Pm := [.val (.sl (.int .i64))]
abbrev res137 : List (K × Mk) := [((.int .i64), .s)]
abbrev f_cmp_Or_int_l3c : Desc := ⟨[(3, .v (.int .i64)), (6, .v (.sl (.int .i64))), (7, .v (.int .i64))], []⟩
abbrev f_cmp_Or_int_l3v : Desc := ⟨[(8, .v (.int .i64))], []⟩
abbrev f_cmp_Or_int_l3e : List (Ek × Desc) := [(.ret, ⟨[(2, .v (.int .i64))], []⟩), (.exit 0, ⟨[], []⟩)]
def f_cmp_Or_int_l3 (R : Type) (c : ((Int × (List Int) × Int × Unit) × Unit)) (v : ((Int × Unit) × Unit)) (kk : ((Int × (List Int) × Int × Unit) × Unit) → (((Int × Unit) × Unit) ⊕ (((Int × Unit) × Unit) ⊕ (Unit × Unit))) → Option R) : Option R :=
 (cond (ilt v.1.1 c.1.2.2.1)
 (getO c.1.2.1 v.1.1 fun v1 => (cond (!ieq v1 c.1.1)
 (kk ((c.1.1, (c.1.2.1, (c.1.2.2.1, ()))), ()) (.inr (.inl ((v1, ()), ()))))
 (kk ((c.1.1, (c.1.2.1, (c.1.2.2.1, ()))), ()) (.inl (((iadd .i64 v.1.1 (1 : Int)), ()), ())))))
 (kk ((c.1.1, (c.1.2.1, (c.1.2.2.1, ()))), ()) (.inr (.inr ((), ())))))
def f_cmp_Or_int (x : ((List Int) × Unit)) : Option ((Int × Unit) × Unit) :=
 (loopF (c := f_cmp_Or_int_l3c) (v := f_cmp_Or_int_l3v) (ex := f_cmp_Or_int_l3e) f_cmp_Or_int_l3 _ (((0 : Int), (x.1, ((llen x.1), ()))), ()) (((0 : Int), ()), ()) fun c2 o3 =>
 (match o3 with
 | .inl y4 => (some ((y4.1.1, ()), ()))
 | .inr z5 => (some ((c2.1.1, ()), ()))))
def sg137 : Sig := ⟨ins137, res137, f_cmp_Or_int⟩
abbrev ins101 : List Pm := [.val kdChunk, .val kdChunk]
abbrev res101 : List (K × Mk) := [((.int .i64), .s)]
def f_impl_chunkOrder (x : (DChunk × DChunk × Unit)) : Option ((Int × Unit) × Unit) :=
 (bnd (f_cmp_Compare_int (x.1.1, (x.2.1.1, ()))) fun r1 => (bnd (f_cmp_Compare_int (x.1.2.1, (x.2.1.2.1, ()))) fun r2 => (bnd (f_cmp_Or_int ([r1.1.1, r2.1.1], ())) fun r3 => (some ((r3.1.1, ()), ())))))
def sg101 : Sig := ⟨ins101, res101, f_impl_chunkOrder⟩
abbrev ins122 : List Pm := [.val (.sl kdChunk), .val kdChunk, .fn [kdChunk, kdChunk] [(.int .i64)]]
abbrev res122 : List (K × Mk) := [((.int .i64), .s), (.bool, .s)]
abbrev f_slices_BinarySearchFunc_Chunk_i6c : Desc := ⟨[(0, .v (.sl kdChunk)), (2, .fv [kdChunk, kdChunk] [(.int .i64)]), (4, .ptr 4 []), (8, .v (.int .i64)), (11, .v (.int .i64)), (31, .v .bool)], [(4, ⟨kdChunk, .s, true⟩)]⟩
abbrev f_slices_BinarySearchFunc_Chunk_i6v : Desc := ⟨[(9, .v (.int .i64)), (10, .v (.int .i64))], []⟩
abbrev f_slices_BinarySearchFunc_Chunk_i6e : List (Ek × Desc) := [(.norm, ⟨[(9, .v (.int .i64)), (10, .v (.int .i64))], []⟩)]
def f_slices_BinarySearchFunc_Chunk_i6 (R : Type) (c : (((List DChunk) × ((DChunk × DChunk × Unit) → Option (Int × Unit)) × Int × Int × Bool × Unit) × (DChunk × Unit))) (v : ((Int × Int × Unit) × Unit)) (kk : (((List DChunk) × ((DChunk × DChunk × Unit) → Option (Int × Unit)) × Int × Int × Bool × Unit) × (DChunk × Unit)) → ((Int × Int × Unit) × Unit) → Option R) : Option R :=
 (cond c.1.2.2.2.2.1
 (kk ((c.1.1, (c.1.2.1, (c.1.2.2.1, (c.1.2.2.2.1, (c.1.2.2.2.2.1, ()))))), (c.2.1, ())) (((iadd .i64 c.1.2.2.2.1 (1 : Int)), (v.1.2.1, ())), ()))
 (kk ((c.1.1, (c.1.2.1, (c.1.2.2.1, (c.1.2.2.2.1, (c.1.2.2.2.2.1, ()))))), (c.2.1, ())) ((v.1.1, (c.1.2.2.2.1, ())), ())))
abbrev f_slices_BinarySearchFunc_Chunk_l3c : Desc := ⟨[(4, .ptr 4 [])], []⟩
abbrev f_slices_BinarySearchFunc_Chunk_l3v : Desc := ⟨[(0, .v (.sl kdChunk)), (2, .fv [kdChunk, kdChunk] [(.int .i64)]), (8, .v (.int .i64)), (9, .v (.int .i64)), (10, .v (.int .i64))], [(4, ⟨kdChunk, .s, true⟩)]⟩
abbrev f_slices_BinarySearchFunc_Chunk_l3e : List (Ek × Desc) := [(.exit 0, ⟨[(0, .v (.sl kdChunk)), (2, .fv [kdChunk, kdChunk] [(.int .i64)]), (8, .v (.int .i64)), (9, .v (.int .i64))], [(4, ⟨kdChunk, .s, true⟩)]⟩)]
def f_slices_BinarySearchFunc_Chunk_l3 (R : Type) (c : (Unit × Unit)) (v : (((List DChunk) × ((DChunk × DChunk × Unit) → Option (Int × Unit)) × Int × Int × Int × Unit) × (DChunk × Unit))) (kk : (Unit × Unit) → ((((List DChunk) × ((DChunk × DChunk × Unit) → Option (Int × Unit)) × Int × Int × Int × Unit) × (DChunk × Unit)) ⊕ (((List DChunk) × ((DChunk × DChunk × Unit) → Option (Int × Unit)) × Int × Int × Unit) × (DChunk × Unit))) → Option R) : Option R :=
 (cond (ilt v.1.2.2.2.1 v.1.2.2.2.2.1)
 (getO v.1.1 (IntKind.wrap .i64 (ishr .u64 (IntKind.wrap .u64 (iadd .i64 v.1.2.2.2.1 v.1.2.2.2.2.1)) (1 : Int))) fun v1 => (bnd (v.1.2.1 (v1, (v.2.1, ()))) fun r2 => (f_slices_BinarySearchFunc_Chunk_i6 _ ((v.1.1, (v.1.2.1, (v.1.2.2.1, ((IntKind.wrap .i64 (ishr .u64 (IntKind.wrap .u64 (iadd .i64 v.1.2.2.2.1 v.1.2.2.2.2.1)) (1 : Int))), ((ilt r2.1 (0 : Int)), ()))))), (v.2.1, ())) ((v.1.2.2.2.1, (v.1.2.2.2.2.1, ())), ()) fun c3 o4 =>
 (kk ((), ()) (.inl ((c3.1.1, (c3.1.2.1, (c3.1.2.2.1, (o4.1.1, (o4.1.2.1, ()))))), (c3.2.1, ())))))))
 (kk ((), ()) (.inr ((v.1.1, (v.1.2.1, (v.1.2.2.1, (v.1.2.2.2.1, ())))), (v.2.1, ())))))
def f_slices_BinarySearchFunc_Chunk (x : ((List DChunk) × DChunk × ((DChunk × DChunk × Unit) → Option (Int × Unit)) × Unit)) : Option ((Int × Bool × Unit) × Unit) :=
 (loopF (c := f_slices_BinarySearchFunc_Chunk_l3c) (v := f_slices_BinarySearchFunc_Chunk_l3v) (ex := f_slices_BinarySearchFunc_Chunk_l3e) f_slices_BinarySearchFunc_Chunk_l3 _ ((), ()) ((x.1, (x.2.2.1, ((llen x.1), ((0 : Int), ((llen x.1), ()))))), (x.2.1, ())) fun c5 o6 =>
 (cond (ilt o6.1.2.2.2.1 o6.1.2.2.1)
 (getO o6.1.1 o6.1.2.2.2.1 fun v7 => (bnd (o6.1.2.1 (v7, (o6.2.1, ()))) fun r8 => (some ((o6.1.2.2.2.1, ((ieq r8.1 (0 : Int)), ())), ()))))
 (some ((o6.1.2.2.2.1, (false, ())), ()))))
def sg122 : Sig := ⟨ins122, res122, f_slices_BinarySearchFunc_Chunk⟩
abbrev ins83 : List Pm := [.mptr kdTaking (.pr (.o .s) (.pr (.o .s) .s)), .val kdChunk]
abbrev res83 : List (K × Mk) := [(.bool, .s)]
def f_impl_Taking_take (x : (DTaking × DChunk × Unit)) : Option ((Bool × Unit) × (DTaking × Unit)) :=
 (bnd (f_impl_Taking_chunkOk (x.1, (x.2.1, ()))) fun r1 => (cond (!r1.1.1)
 (some ((false, ()), (r1.2.1, ())))
 (bnd (f_slices_BinarySearchFunc_Chunk (r1.2.1.2.1, (x.2.1, ((fun z => (bnd (f_impl_chunkOrder (z.1, (z.2.1, ()))) fun r => (some r.1))), ())))) fun r2 => (cond r2.1.2.1
 (getO r1.2.1.2.1 r2.1.1 fun _ => (bnd (r1.2.1.2.1[(Int.toNat r2.1.1)]?) fun v4 => (bnd (r1.2.1.2.1[(Int.toNat r2.1.1)]?) fun v5 => (some (((seq v5.2.2.1 x.2.1.2.2.1), ()), (r1.2.1, ()))))))
 (cond (ieq (llen r1.2.1.2.1) (200 : Int))
 (some ((false, ()), (r1.2.1, ())))
 (bnd ((f_slices_Insert kdChunk) (r1.2.1.2.1, (r2.1.1, ([x.2.1], ())))) fun r6 => (some ((true, ()), ((r1.2.1.1, (r6.1.1, r1.2.1.2.2)), ())))))))))
def sg83 : Sig := ⟨ins83, res83, f_impl_Taking_take⟩
abbrev ins136 : List Pm := [.val kdWanted]
abbrev res136 : List (K × Mk) := [(.bool, .s)]
def f_impl_wantOk_1 (x : (DWanted × Unit)) : Option ((Bool × Unit) × Unit) :=
 (bnd (f_impl_in (x.1.1, ((0 : Int), ((4000 : Int), ())))) fun r1 => (some (((!r1.1.1), ()), ())))
def sg136 : Sig := ⟨ins136, res136, f_impl_wantOk_1⟩
abbrev ins158 : List Pm := [.val (.sl kdWanted), .fn [kdWanted] [.bool]]
abbrev res158 : List (K × Mk) := [((.int .i64), .s)]
abbrev f_slices_IndexFunc_Wanted_l2c : Desc := ⟨[(0, .v (.sl kdWanted)), (1, .fv [kdWanted] [.bool]), (7, .v (.int .i64))], []⟩
abbrev f_slices_IndexFunc_Wanted_l2v : Desc := ⟨[(8, .v (.int .i64))], []⟩
abbrev f_slices_IndexFunc_Wanted_l2e : List (Ek × Desc) := [(.ret, ⟨[(4, .v (.int .i64))], []⟩), (.exit 0, ⟨[], []⟩)]
def f_slices_IndexFunc_Wanted_l2 (R : Type) (c : (((List DWanted) × ((DWanted × Unit) → Option (Bool × Unit)) × Int × Unit) × Unit)) (v : ((Int × Unit) × Unit)) (kk : (((List DWanted) × ((DWanted × Unit) → Option (Bool × Unit)) × Int × Unit) × Unit) → (((Int × Unit) × Unit) ⊕ (((Int × Unit) × Unit) ⊕ (Unit × Unit))) → Option R) : Option R :=
 (cond (ilt v.1.1 c.1.2.2.1)
 (getO c.1.1 v.1.1 fun v1 => (bnd (c.1.2.1 (v1, ())) fun r2 => (cond r2.1
 (kk ((c.1.1, (c.1.2.1, (c.1.2.2.1, ()))), ()) (.inr (.inl ((v.1.1, ()), ()))))
 (kk ((c.1.1, (c.1.2.1, (c.1.2.2.1, ()))), ()) (.inl (((iadd .i64 v.1.1 (1 : Int)), ()), ()))))))
 (kk ((c.1.1, (c.1.2.1, (c.1.2.2.1, ()))), ()) (.inr (.inr ((), ())))))
def f_slices_IndexFunc_Wanted (x : ((List DWanted) × ((DWanted × Unit) → Option (Bool × Unit)) × Unit)) : Option ((Int × Unit) × Unit) :=
 (loopF (c := f_slices_IndexFunc_Wanted_l2c) (v := f_slices_IndexFunc_Wanted_l2v) (ex := f_slices_IndexFunc_Wanted_l2e) f_slices_IndexFunc_Wanted_l2 _ ((x.1, (x.2.1, ((llen x.1), ()))), ()) (((0 : Int), ()), ()) fun c3 o4 =>
 (match o4 with
 | .inl y5 => (some ((y5.1.1, ()), ()))
 | .inr z6 => (some (((-1 : Int), ()), ()))))
def sg158 : Sig := ⟨ins158, res158, f_slices_IndexFunc_Wanted⟩
abbrev ins135 : List Pm := [.val (.sl kdWanted), .fn [kdWanted] [.bool]]
abbrev res135 : List (K × Mk) := [(.bool, .s)]
def f_slices_ContainsFunc_Wanted (x : ((List DWanted) × ((DWanted × Unit) → Option (Bool × Unit)) × Unit)) : Option ((Bool × Unit) × Unit) :=
 (bnd (f_slices_IndexFunc_Wanted (x.1, (x.2.1, ()))) fun r1 => (some (((ile (0 : Int) r1.1.1), ()), ())))
def sg135 : Sig := ⟨ins135, res135, f_slices_ContainsFunc_Wanted⟩
abbrev ins99 : List Pm := [.val (.sl kdWanted)]
abbrev res99 : List (K × Mk) := [(.bool, .s)]
def f_impl_wantOk (x : ((List DWanted) × Unit)) : Option ((Bool × Unit) × Unit) :=
 (cond (ile (llen x.1) (12 : Int))
 (bnd (f_slices_ContainsFunc_Wanted (x.1, ((fun z => (bnd (f_impl_wantOk_1 (z.1, ())) fun r => (some r.1))), ()))) fun r1 => (some (((!r1.1.1), ()), ())))
 (some ((false, ()), ())))
def sg99 : Sig := ⟨ins99, res99, f_impl_wantOk⟩
abbrev ins100w : List Pm := [.mptr kdTaking .s, .val kdChunk]
abbrev res100w : List (K × Mk) := [(.bool, .s)]
def f_impl_Taking_chunkOk_w (x : (DTaking × DChunk × Unit)) : Option ((Bool × Unit) × (DTaking × Unit)) :=
 (bnd (f_impl_in (x.2.1.1, ((0 : Int), ((isub .i64 (llen x.1.1) (1 : Int)), ())))) fun r1 => (cond (!r1.1.1)
 (some ((false, ()), (x.1, ())))
 (getO x.1.1 x.2.1.1 fun v2 => (bnd (f_impl_in (x.2.1.2.1, ((0 : Int), ((isub .i64 v2.1 (1 : Int)), ())))) fun r3 => (cond (!r3.1.1)
 (some ((false, ()), (x.1, ())))
 (cond (!ieq (irem .i64 x.2.1.2.1 (64 : Int)) (0 : Int))
 (some ((false, ()), (x.1, ())))
 (cond (!ieq (slen x.2.1.2.2.1) (imin (64 : Int) (isub .i64 v2.1 x.2.1.2.1)))
 (some ((false, ()), (x.1, ())))
 (bnd (f_impl_ChunkSum (x.2.1.1, (x.2.1.2.1, (x.2.1.2.2.1, ())))) fun r4 => (some (((ieq x.2.1.2.2.2.1 r4.1.1), ()), (x.1, ())))))))))))
def sg100w : Sig := ⟨ins100w, res100w, f_impl_Taking_chunkOk_w⟩
abbrev ins44 : List Pm := [.val kdTaking]
abbrev res44 : List (K × Mk) := [(.bool, .s)]
abbrev f_impl_GoodTaking_l4c : Desc := ⟨[(1, .ptr 1 []), (16, .v (.sl kdChunk)), (17, .v (.int .i64))], []⟩
abbrev f_impl_GoodTaking_l4v : Desc := ⟨[(18, .v (.int .i64))], [(1, ⟨kdTaking, .s, true⟩)]⟩
abbrev f_impl_GoodTaking_l4e : List (Ek × Desc) := [(.ret, ⟨[(2, .v .bool)], [(1, ⟨kdTaking, .s, true⟩)]⟩), (.exit 0, ⟨[], [(1, ⟨kdTaking, .s, true⟩)]⟩)]
def f_impl_GoodTaking_l4 (R : Type) (c : (((List DChunk) × Int × Unit) × Unit)) (v : ((Int × Unit) × (DTaking × Unit))) (kk : (((List DChunk) × Int × Unit) × Unit) → (((Int × Unit) × (DTaking × Unit)) ⊕ (((Bool × Unit) × (DTaking × Unit)) ⊕ (Unit × (DTaking × Unit)))) → Option R) : Option R :=
 (cond (ilt v.1.1 c.1.2.1)
 (getO c.1.1 v.1.1 fun v2 => (bnd (f_impl_Taking_chunkOk_w (v.2.1, (v2, ()))) fun r3 => (cond (!r3.1.1)
 (kk ((c.1.1, (c.1.2.1, ())), ()) (.inr (.inl ((false, ()), (r3.2.1, ())))))
 (cond (ilt (0 : Int) v.1.1)
 (getO r3.2.1.2.1 (isub .i64 v.1.1 (1 : Int)) fun v4 => (bnd (f_impl_chunkOrder (v4, (v2, ()))) fun r5 => (cond (ile (0 : Int) r5.1.1)
 (kk ((c.1.1, (c.1.2.1, ())), ()) (.inr (.inl ((false, ()), (r3.2.1, ())))))
 (kk ((c.1.1, (c.1.2.1, ())), ()) (.inl (((iadd .i64 v.1.1 (1 : Int)), ()), (r3.2.1, ())))))))
 (kk ((c.1.1, (c.1.2.1, ())), ()) (.inl (((iadd .i64 v.1.1 (1 : Int)), ()), (r3.2.1, ()))))))))
 (kk ((c.1.1, (c.1.2.1, ())), ()) (.inr (.inr ((), (v.2.1, ()))))))
def f_impl_GoodTaking (x : (DTaking × Unit)) : Option ((Bool × Unit) × Unit) :=
 (bnd (f_impl_wantOk (x.1.1, ())) fun r1 => (cond (!r1.1.1)
 (some ((false, ()), ()))
 (cond (ilt (200 : Int) (llen x.1.2.1))
 (some ((false, ()), ()))
 (loopF (c := f_impl_GoodTaking_l4c) (v := f_impl_GoodTaking_l4v) (ex := f_impl_GoodTaking_l4e) f_impl_GoodTaking_l4 _ ((x.1.2.1, ((llen x.1.2.1), ())), ()) (((0 : Int), ()), (x.1, ())) fun c6 o7 =>
 (match o7 with
 | .inl y8 => (some ((y8.1.1, ()), ()))
 | .inr z9 => (some ((true, ()), ())))))))
def sg44 : Sig := ⟨ins44, res44, f_impl_GoodTaking⟩
abbrev ins97w : List Pm := [.mptr kdTaking .s]
abbrev res97w : List (K × Mk) := [((.sl kdChunk), (.o .s))]
abbrev f_impl_Taking_missing_w_i11c : Desc := ⟨[(0, .ptr 0 []), (3, .al 3 []), (4, .v (.int .i64)), (5, .ptr 5 []), (6, .v (.int .i64)), (7, .ptr 7 []), (14, .v (.sl kdWanted)), (15, .v (.int .i64)), (16, .v (.int .i64)), (40, .v .bool)], [(0, ⟨kdTaking, .s, true⟩), (5, ⟨kdWanted, .s, true⟩), (7, ⟨kdChunk, .s, true⟩)]⟩
abbrev f_impl_Taking_missing_w_i11v : Desc := ⟨[], [(3, ⟨(.sl kdChunk), (.o .s), false⟩)]⟩
abbrev f_impl_Taking_missing_w_i11e : List (Ek × Desc) := [(.norm, ⟨[], [(3, ⟨(.sl kdChunk), (.o .s), false⟩)]⟩)]
def f_impl_Taking_missing_w_i11 (R : Type) (c : ((Int × Int × (List DWanted) × Int × Int × Bool × Unit) × (DTaking × DWanted × DChunk × Unit))) (v : (Unit × ((List DChunk) × Unit))) (kk : ((Int × Int × (List DWanted) × Int × Int × Bool × Unit) × (DTaking × DWanted × DChunk × Unit)) → (Unit × ((List DChunk) × Unit)) → Option R) : Option R :=
 (cond c.1.2.2.2.2.2.1
 (req (decide (List.length v.2.1 + List.length [c.2.2.2.1] ≤ 17179869184)) (kk ((c.1.1, (c.1.2.1, (c.1.2.2.1, (c.1.2.2.2.1, (c.1.2.2.2.2.1, (c.1.2.2.2.2.2.1, ())))))), (c.2.1, (c.2.2.1, (c.2.2.2.1, ())))) ((), ((v.2.1 ++ [c.2.2.2.1]), ()))))
 (kk ((c.1.1, (c.1.2.1, (c.1.2.2.1, (c.1.2.2.2.1, (c.1.2.2.2.2.1, (c.1.2.2.2.2.2.1, ())))))), (c.2.1, (c.2.2.1, (c.2.2.2.1, ())))) ((), (v.2.1, ()))))
abbrev f_impl_Taking_missing_w_l6c : Desc := ⟨[(0, .ptr 0 []), (3, .al 3 []), (5, .ptr 5 [])], []⟩
abbrev f_impl_Taking_missing_w_l6v : Desc := ⟨[(4, .v (.int .i64)), (6, .v (.int .i64)), (14, .v (.sl kdWanted)), (15, .v (.int .i64)), (16, .v (.int .i64))], [(0, ⟨kdTaking, .s, true⟩), (3, ⟨(.sl kdChunk), (.o .s), false⟩), (5, ⟨kdWanted, .s, true⟩)]⟩
abbrev f_impl_Taking_missing_w_l6e : List (Ek × Desc) := [(.exit 2, ⟨[(14, .v (.sl kdWanted)), (15, .v (.int .i64)), (16, .v (.int .i64))], [(0, ⟨kdTaking, .s, true⟩), (3, ⟨(.sl kdChunk), (.o .s), false⟩), (5, ⟨kdWanted, .s, true⟩)]⟩)]
def f_impl_Taking_missing_w_l6 (R : Type) (c : (Unit × Unit)) (v : ((Int × Int × (List DWanted) × Int × Int × Unit) × (DTaking × (List DChunk) × DWanted × Unit))) (kk : (Unit × Unit) → (((Int × Int × (List DWanted) × Int × Int × Unit) × (DTaking × (List DChunk) × DWanted × Unit)) ⊕ (((List DWanted) × Int × Int × Unit) × (DTaking × (List DChunk) × DWanted × Unit))) → Option R) : Option R :=
 (cond (ilt v.1.2.1 v.2.2.2.1.1)
 (bnd (f_slices_BinarySearchFunc_Chunk (v.2.1.2.1, ((v.1.1, (v.1.2.1, ((⟨#[]⟩ : ByteArray), ((0 : Int), ())))), ((fun z => (bnd (f_impl_chunkOrder (z.1, (z.2.1, ()))) fun r => (some r.1))), ())))) fun r2 => (f_impl_Taking_missing_w_i11 _ ((v.1.1, (v.1.2.1, (v.1.2.2.1, (v.1.2.2.2.1, (v.1.2.2.2.2.1, ((!r2.1.2.1), ())))))), (v.2.1, (v.2.2.2.1, ((v.1.1, (v.1.2.1, ((⟨#[]⟩ : ByteArray), ((0 : Int), ())))), ())))) ((), (v.2.2.1, ())) fun c3 o4 =>
 (kk ((), ()) (.inl ((c3.1.1, ((iadd .i64 c3.1.2.1 (64 : Int)), (c3.1.2.2.1, (c3.1.2.2.2.1, (c3.1.2.2.2.2.1, ()))))), (c3.2.1, (o4.2.1, (c3.2.2.1, ()))))))))
 (kk ((), ()) (.inr ((v.1.2.2.1, (v.1.2.2.2.1, (v.1.2.2.2.2.1, ()))), (v.2.1, (v.2.2.1, (v.2.2.2.1, ())))))))
abbrev f_impl_Taking_missing_w_l3c : Desc := ⟨[(0, .ptr 0 []), (3, .al 3 [])], []⟩
abbrev f_impl_Taking_missing_w_l3v : Desc := ⟨[(14, .v (.sl kdWanted)), (15, .v (.int .i64)), (16, .v (.int .i64))], [(0, ⟨kdTaking, .s, true⟩), (3, ⟨(.sl kdChunk), (.o .s), false⟩)]⟩
abbrev f_impl_Taking_missing_w_l3e : List (Ek × Desc) := [(.exit 0, ⟨[], [(0, ⟨kdTaking, .s, true⟩), (3, ⟨(.sl kdChunk), (.o .s), false⟩)]⟩)]
def f_impl_Taking_missing_w_l3 (R : Type) (c : (Unit × Unit)) (v : (((List DWanted) × Int × Int × Unit) × (DTaking × (List DChunk) × Unit))) (kk : (Unit × Unit) → ((((List DWanted) × Int × Int × Unit) × (DTaking × (List DChunk) × Unit)) ⊕ (Unit × (DTaking × (List DChunk) × Unit))) → Option R) : Option R :=
 (cond (ilt v.1.2.2.1 v.1.2.1)
 (getO v.1.1 v.1.2.2.1 fun v1 => (loopF (c := f_impl_Taking_missing_w_l6c) (v := f_impl_Taking_missing_w_l6v) (ex := f_impl_Taking_missing_w_l6e) f_impl_Taking_missing_w_l6 _ ((), ()) ((v.1.2.2.1, ((0 : Int), (v.1.1, (v.1.2.1, (v.1.2.2.1, ()))))), (v.2.1, (v.2.2.1, (v1, ())))) fun c2 o3 =>
 (kk ((), ()) (.inl ((o3.1.1, (o3.1.2.1, ((iadd .i64 o3.1.2.2.1 (1 : Int)), ()))), (o3.2.1, (o3.2.2.1, ())))))))
 (kk ((), ()) (.inr ((), (v.2.1, (v.2.2.1, ()))))))
def f_impl_Taking_missing_w (x : (DTaking × Unit)) : Option (((List DChunk) × Unit) × (DTaking × Unit)) :=
 (loopF (c := f_impl_Taking_missing_w_l3c) (v := f_impl_Taking_missing_w_l3v) (ex := f_impl_Taking_missing_w_l3e) f_impl_Taking_missing_w_l3 _ ((), ()) ((x.1.1, ((llen x.1.1), ((0 : Int), ()))), (x.1, (([] : List DChunk), ()))) fun c4 o5 =>
 (some ((o5.2.2.1, ()), (o5.2.1, ()))))
def sg97w : Sig := ⟨ins97w, res97w, f_impl_Taking_missing_w⟩
abbrev ins46 : List Pm := [.val kdTaking]
abbrev res46 : List (K × Mk) := [((.sl .str), (.o .s)), (.bool, .s)]
abbrev f_impl_FinishTaking_l5c : Desc := ⟨[(1, .ptr 1 []), (4, .al 4 []), (22, .v (.sl kdChunk)), (23, .v (.int .i64))], [(1, ⟨kdTaking, .s, true⟩)]⟩
abbrev f_impl_FinishTaking_l5v : Desc := ⟨[(24, .v (.int .i64))], [(4, ⟨(.sl .str), (.o .s), false⟩)]⟩
abbrev f_impl_FinishTaking_l5e : List (Ek × Desc) := [(.exit 0, ⟨[], [(4, ⟨(.sl .str), (.o .s), false⟩)]⟩)]
def f_impl_FinishTaking_l5 (R : Type) (c : (((List DChunk) × Int × Unit) × (DTaking × Unit))) (v : ((Int × Unit) × ((List ByteArray) × Unit))) (kk : (((List DChunk) × Int × Unit) × (DTaking × Unit)) → (((Int × Unit) × ((List ByteArray) × Unit)) ⊕ (Unit × ((List ByteArray) × Unit))) → Option R) : Option R :=
 (cond (ilt v.1.1 c.1.2.1)
 (getO c.1.1 v.1.1 fun v3 => (getO v.2.1 v3.1 fun _ => (bnd (v.2.1[(Int.toNat v3.1)]?) fun v5 => (catO v5 v3.2.2.1 fun v6 => (getO v.2.1 v3.1 fun _ => (bnd (v.2.1[(Int.toNat v3.1)]?) fun v8 => (kk ((c.1.1, (c.1.2.1, ())), (c.2.1, ())) (.inl (((iadd .i64 v.1.1 (1 : Int)), ()), ((List.set v.2.1 (Int.toNat v3.1) v6), ()))))))))))
 (kk ((c.1.1, (c.1.2.1, ())), (c.2.1, ())) (.inr ((), (v.2.1, ())))))
abbrev f_impl_FinishTaking_l10c : Desc := ⟨[(4, .al 4 []), (39, .v (.sl kdWanted)), (40, .v (.int .i64))], [(4, ⟨(.sl .str), (.o .s), false⟩)]⟩
abbrev f_impl_FinishTaking_l10v : Desc := ⟨[(41, .v (.int .i64))], []⟩
abbrev f_impl_FinishTaking_l10e : List (Ek × Desc) := [(.ret, ⟨[(2, .al 2 []), (3, .v .bool)], [(2, ⟨(.sl .str), (.o .s), false⟩)]⟩), (.exit 2, ⟨[], []⟩)]
def f_impl_FinishTaking_l10 (R : Type) (c : (((List DWanted) × Int × Unit) × ((List ByteArray) × Unit))) (v : ((Int × Unit) × Unit)) (kk : (((List DWanted) × Int × Unit) × ((List ByteArray) × Unit)) → (((Int × Unit) × Unit) ⊕ (((Bool × Unit) × ((List ByteArray) × Unit)) ⊕ (Unit × Unit))) → Option R) : Option R :=
 (cond (ilt v.1.1 c.1.2.1)
 (getO c.1.1 v.1.1 fun v11 => (getO c.2.1 v.1.1 fun _ => (bnd (c.2.1[(Int.toNat v.1.1)]?) fun v13 => (bnd (f_impl_SumOf (v13, ())) fun r14 => (cond (!ieq r14.1.1 v11.2.1)
 (kk ((c.1.1, (c.1.2.1, ())), (c.2.1, ())) (.inr (.inl ((false, ()), (([] : List ByteArray), ())))))
 (kk ((c.1.1, (c.1.2.1, ())), (c.2.1, ())) (.inl (((iadd .i64 v.1.1 (1 : Int)), ()), ()))))))))
 (kk ((c.1.1, (c.1.2.1, ())), (c.2.1, ())) (.inr (.inr ((), ())))))
def f_impl_FinishTaking (x : (DTaking × Unit)) : Option (((List ByteArray) × Bool × Unit) × Unit) :=
 (bnd (f_impl_GoodTaking (x.1, ())) fun r1 => (cond (!r1.1.1)
 (some ((([] : List ByteArray), (false, ())), ()))
 (bnd (f_impl_Taking_missing_w (x.1, ())) fun r2 => (cond (ilt (0 : Int) (llen r2.1.1))
 (some ((([] : List ByteArray), (false, ())), ()))
 (req (decide ((llen r2.2.1.1) = (llen r2.2.1.1)) && (decide ((0 : Int) ≤ (llen r2.2.1.1)) && decide ((llen r2.2.1.1) ≤ (68719476736 : Int)))) (loopF (c := f_impl_FinishTaking_l5c) (v := f_impl_FinishTaking_l5v) (ex := f_impl_FinishTaking_l5e) f_impl_FinishTaking_l5 _ ((r2.2.1.2.1, ((llen r2.2.1.2.1), ())), (r2.2.1, ())) (((0 : Int), ()), ((List.replicate (Int.toNat (llen r2.2.1.1)) ((⟨#[]⟩ : ByteArray) : ByteArray)), ())) fun c9 o10 =>
 (loopF (c := f_impl_FinishTaking_l10c) (v := f_impl_FinishTaking_l10v) (ex := f_impl_FinishTaking_l10e) f_impl_FinishTaking_l10 _ ((c9.2.1.1, ((llen c9.2.1.1), ())), (o10.2.1, ())) (((0 : Int), ()), ()) fun c15 o16 =>
 (match o16 with
 | .inl y17 => (some ((y17.2.1, (y17.1.1, ())), ()))
 | .inr z18 => (some ((c15.2.1, (true, ())), ()))))))))))
def sg46 : Sig := ⟨ins46, res46, f_impl_FinishTaking⟩
abbrev ins33 : List Pm := [.val (.sl .str), .val (.sl (.int .i64)), .val (.sl (.int .i64))]
abbrev res33 : List (K × Mk) := [((.sl .str), (.o .s)), ((.int .i64), .s), (.bool, .s)]
abbrev f_impl_PlayTaking_i12c : Desc := ⟨[(2, .v (.sl (.int .i64))), (9, .al 9 []), (11, .ptr 11 []), (40, .v (.sl (.int .i64))), (41, .v (.int .i64)), (42, .v (.int .i64)), (66, .v .bool)], [(9, ⟨(.sl kdChunk), (.o .s), false⟩), (11, ⟨kdTaking, (.pr (.o .s) (.pr (.o .s) .s)), true⟩)]⟩
abbrev f_impl_PlayTaking_i12v : Desc := ⟨[(12, .v (.int .i64))], []⟩
abbrev f_impl_PlayTaking_i12e : List (Ek × Desc) := [(.norm, ⟨[(12, .v (.int .i64))], []⟩)]
def f_impl_PlayTaking_i12 (R : Type) (c : (((List Int) × (List Int) × Int × Int × Bool × Unit) × ((List DChunk) × DTaking × Unit))) (v : ((Int × Unit) × Unit)) (kk : (((List Int) × (List Int) × Int × Int × Bool × Unit) × ((List DChunk) × DTaking × Unit)) → ((Int × Unit) × Unit) → Option R) : Option R :=
 (cond c.1.2.2.2.2.1
 (kk ((c.1.1, (c.1.2.1, (c.1.2.2.1, (c.1.2.2.2.1, (c.1.2.2.2.2.1, ()))))), (c.2.1, (c.2.2.1, ()))) (((iadd .i64 v.1.1 (1 : Int)), ()), ()))
 (kk ((c.1.1, (c.1.2.1, (c.1.2.2.1, (c.1.2.2.2.1, (c.1.2.2.2.2.1, ()))))), (c.2.1, (c.2.2.1, ()))) ((v.1.1, ()), ())))
abbrev f_impl_PlayTaking_l6c : Desc := ⟨[(9, .al 9 []), (11, .ptr 11 [])], []⟩
abbrev f_impl_PlayTaking_l6v : Desc := ⟨[(2, .v (.sl (.int .i64))), (12, .v (.int .i64)), (40, .v (.sl (.int .i64))), (41, .v (.int .i64)), (42, .v (.int .i64))], [(9, ⟨(.sl kdChunk), (.o .s), false⟩), (11, ⟨kdTaking, (.pr (.o .s) (.pr (.o .s) .s)), true⟩)]⟩
abbrev f_impl_PlayTaking_l6e : List (Ek × Desc) := [(.exit 0, ⟨[(12, .v (.int .i64))], [(9, ⟨(.sl kdChunk), (.o .s), false⟩), (11, ⟨kdTaking, (.pr (.o .s) (.pr (.o .s) .s)), true⟩)]⟩)]
def f_impl_PlayTaking_l6 (R : Type) (c : (Unit × Unit)) (v : (((List Int) × Int × (List Int) × Int × Int × Unit) × ((List DChunk) × DTaking × Unit))) (kk : (Unit × Unit) → ((((List Int) × Int × (List Int) × Int × Int × Unit) × ((List DChunk) × DTaking × Unit)) ⊕ ((Int × Unit) × ((List DChunk) × DTaking × Unit))) → Option R) : Option R :=
 (cond (ilt v.1.2.2.2.2.1 v.1.2.2.2.1)
 (getO v.1.2.2.1 v.1.2.2.2.2.1 fun v3 => (bnd (f_impl_in (v3, ((0 : Int), ((isub .i64 (llen v.2.1) (1 : Int)), ())))) fun r4 => (cond (!r4.1.1)
 (kk ((), ()) (.inl ((v.1.1, (v.1.2.1, (v.1.2.2.1, (v.1.2.2.2.1, ((iadd .i64 v.1.2.2.2.2.1 (1 : Int)), ()))))), (v.2.1, (v.2.2.1, ())))))
 (getO v.2.1 v3 fun _ => (bnd (v.2.1[(Int.toNat v3)]?) fun v6 => (getO v.1.1 v.1.2.2.2.2.1 fun v7 => (bnd (f_impl_flipped (v6.2.2.1, (v7, ()))) fun r8 => (bnd (f_impl_Taking_take (v.2.2.1, ((v6.1, (v6.2.1, (r8.1.1, v6.2.2.2))), ()))) fun r9 => (f_impl_PlayTaking_i12 _ ((v.1.1, (v.1.2.2.1, (v.1.2.2.2.1, (v.1.2.2.2.2.1, (r9.1.1, ()))))), (v.2.1, (r9.2.1, ()))) ((v.1.2.1, ()), ()) fun c10 o11 =>
 (kk ((), ()) (.inl ((c10.1.1, (o11.1.1, (c10.1.2.1, (c10.1.2.2.1, ((iadd .i64 c10.1.2.2.2.1 (1 : Int)), ()))))), (c10.2.1, (c10.2.2.1, ()))))))))))))))
 (kk ((), ()) (.inr ((v.1.2.1, ()), (v.2.1, (v.2.2.1, ()))))))
def f_impl_PlayTaking (x : ((List ByteArray) × (List Int) × (List Int) × Unit)) : Option (((List ByteArray) × Int × Bool × Unit) × Unit) :=
 (bnd (f_impl_ChunksOf (x.1, ())) fun r1 => (cond (!r1.1.2.1)
 (some ((([] : List ByteArray), ((0 : Int), (false, ()))), ()))
 (cond (ilt (400 : Int) (llen x.2.1))
 (some ((([] : List ByteArray), ((0 : Int), (false, ()))), ()))
 (cond (!ieq (llen x.2.2.1) (llen x.2.1))
 (some ((([] : List ByteArray), ((0 : Int), (false, ()))), ()))
 (bnd (f_impl_want (x.1, ())) fun r2 => (loopF (c := f_impl_PlayTaking_l6c) (v := f_impl_PlayTaking_l6v) (ex := f_impl_PlayTaking_l6e) f_impl_PlayTaking_l6 _ ((), ()) ((x.2.2.1, ((0 : Int), (x.2.1, ((llen x.2.1), ((0 : Int), ()))))), (r1.1.1, ((r2.1.1, (([] : List DChunk), ())), ()))) fun c12 o13 =>
 (bnd (f_impl_FinishTaking (o13.2.2.1, ())) fun r14 => (some ((r14.1.1, (o13.1.1, (true, ()))), ())))))))))
def sg33 : Sig := ⟨ins33, res33, f_impl_PlayTaking⟩
abbrev ins84 : List Pm := [.val (.sl .str)]
abbrev res84 : List (K × Mk) := [((.sl kdWanted), (.o .s)), (.bool, .s)]
abbrev f_spec_WantOf_l5c : Desc := ⟨[(4, .al 4 []), (10, .v (.sl .str)), (11, .v (.int .i64))], []⟩
abbrev f_spec_WantOf_l5v : Desc := ⟨[(12, .v (.int .i64))], [(4, ⟨(.sl kdWanted), (.o .s), false⟩)]⟩
abbrev f_spec_WantOf_l5e : List (Ek × Desc) := [(.exit 0, ⟨[], [(4, ⟨(.sl kdWanted), (.o .s), false⟩)]⟩)]
def f_spec_WantOf_l5 (R : Type) (c : (((List ByteArray) × Int × Unit) × Unit)) (v : ((Int × Unit) × ((List DWanted) × Unit))) (kk : (((List ByteArray) × Int × Unit) × Unit) → (((Int × Unit) × ((List DWanted) × Unit)) ⊕ (Unit × ((List DWanted) × Unit))) → Option R) : Option R :=
 (cond (ilt v.1.1 c.1.2.1)
 (getO c.1.1 v.1.1 fun v2 => (bnd (f_spec_l2Sum (v2, ())) fun r3 => (req (decide (List.length v.2.1 + List.length [((slen v2), (r3.1.1, ()))] ≤ 17179869184)) (kk ((c.1.1, (c.1.2.1, ())), ()) (.inl (((iadd .i64 v.1.1 (1 : Int)), ()), ((v.2.1 ++ [((slen v2), (r3.1.1, ()))]), ())))))))
 (kk ((c.1.1, (c.1.2.1, ())), ()) (.inr ((), (v.2.1, ())))))
def f_spec_WantOf (x : ((List ByteArray) × Unit)) : Option (((List DWanted) × Bool × Unit) × Unit) :=
 (bnd (f_spec_l13Files (x.1, ())) fun r1 => (cond (!r1.1.1)
 (some ((([] : List DWanted), (false, ())), ()))
 (loopF (c := f_spec_WantOf_l5c) (v := f_spec_WantOf_l5v) (ex := f_spec_WantOf_l5e) f_spec_WantOf_l5 _ ((x.1, ((llen x.1), ())), ()) (((0 : Int), ()), (([] : List DWanted), ())) fun c4 o5 =>
 (some ((o5.2.1, (true, ())), ())))))
def sg84 : Sig := ⟨ins84, res84, f_spec_WantOf⟩
abbrev ins86 : List Pm := [.val (.int .i64), .val (.int .i64), .val (.int .i64)]
abbrev res86 : List (K × Mk) := [(.bool, .s)]
def f_spec_l1In (x : (Int × Int × Int × Unit)) : Option ((Bool × Unit) × Unit) :=
 (cond (ile x.2.1 x.1)
 (some (((ile x.1 x.2.2.1), ()), ()))
 (some ((false, ()), ())))
def sg86 : Sig := ⟨ins86, res86, f_spec_l1In⟩
abbrev ins125 : List Pm := [.val (.sl kdWanted)]
abbrev res125 : List (K × Mk) := [(.bool, .s)]
abbrev f_spec_l13Want_l2c : Desc := ⟨[(0, .v (.sl kdWanted)), (5, .v (.sl kdWanted)), (6, .v (.int .i64))], []⟩
abbrev f_spec_l13Want_l2v : Desc := ⟨[(7, .v (.int .i64))], []⟩
abbrev f_spec_l13Want_l2e : List (Ek × Desc) := [(.ret, ⟨[(2, .v .bool)], []⟩), (.exit 0, ⟨[], []⟩)]
def f_spec_l13Want_l2 (R : Type) (c : (((List DWanted) × (List DWanted) × Int × Unit) × Unit)) (v : ((Int × Unit) × Unit)) (kk : (((List DWanted) × (List DWanted) × Int × Unit) × Unit) → (((Int × Unit) × Unit) ⊕ (((Bool × Unit) × Unit) ⊕ (Unit × Unit))) → Option R) : Option R :=
 (cond (ilt v.1.1 c.1.2.2.1)
 (getO c.1.2.1 v.1.1 fun v1 => (bnd (f_spec_l1In (v1.1, ((0 : Int), ((4000 : Int), ())))) fun r2 => (cond (!r2.1.1)
 (kk ((c.1.1, (c.1.2.1, (c.1.2.2.1, ()))), ()) (.inr (.inl ((false, ()), ()))))
 (kk ((c.1.1, (c.1.2.1, (c.1.2.2.1, ()))), ()) (.inl (((iadd .i64 v.1.1 (1 : Int)), ()), ()))))))
 (kk ((c.1.1, (c.1.2.1, (c.1.2.2.1, ()))), ()) (.inr (.inr ((), ())))))
def f_spec_l13Want (x : ((List DWanted) × Unit)) : Option ((Bool × Unit) × Unit) :=
 (loopF (c := f_spec_l13Want_l2c) (v := f_spec_l13Want_l2v) (ex := f_spec_l13Want_l2e) f_spec_l13Want_l2 _ ((x.1, (x.1, ((llen x.1), ()))), ()) (((0 : Int), ()), ()) fun c3 o4 =>
 (match o4 with
 | .inl y5 => (some ((y5.1.1, ()), ()))
 | .inr z6 => (some (((ile (llen c3.1.1) (12 : Int)), ()), ()))))
def sg125 : Sig := ⟨ins125, res125, f_spec_l13Want⟩
abbrev ins85 : List Pm := [.val (.sl kdWanted)]
abbrev res85 : List (K × Mk) := [(kdTaking, .s), (.bool, .s)]
def f_spec_NewTaking (x : ((List DWanted) × Unit)) : Option ((DTaking × Bool × Unit) × Unit) :=
 (bnd (f_spec_l13Want (x.1, ())) fun r1 => (cond (!r1.1.1)
 (some (((([] : List DWanted), (([] : List DChunk), ())), (false, ())), ()))
 (req (decide (List.length x.1 ≤ 17179869184)) (some (((x.1, (([] : List DChunk), ())), (true, ())), ())))))
def sg85 : Sig := ⟨ins85, res85, f_spec_NewTaking⟩
abbrev ins126 : List Pm := [.val kdTaking, .val kdChunk]
abbrev res126 : List (K × Mk) := [(.bool, .s)]
def f_spec_l13Good (x : (DTaking × DChunk × Unit)) : Option ((Bool × Unit) × Unit) :=
 (bnd (f_spec_l1In (x.2.1.1, ((0 : Int), ((isub .i64 (llen x.1.1) (1 : Int)), ())))) fun r1 => (cond (!r1.1.1)
 (some ((false, ()), ()))
 (cond (ilt x.2.1.2.1 (0 : Int))
 (some ((false, ()), ()))
 (cond (!ieq (irem .i64 x.2.1.2.1 (64 : Int)) (0 : Int))
 (some ((false, ()), ()))
 (getO x.1.1 x.2.1.1 fun v2 => (cond (ile v2.1 x.2.1.2.1)
 (some ((false, ()), ()))
 (getO x.1.1 x.2.1.1 fun v3 => (bnd (f_spec_l13Size (v3.1, (x.2.1.2.1, ()))) fun r4 => (cond (ieq (slen x.2.1.2.2.1) r4.1.1)
 (bnd (f_spec_l13Sum (x.2.1.1, (x.2.1.2.1, (x.2.1.2.2.1, ())))) fun r5 => (some (((ieq x.2.1.2.2.2.1 r5.1.1), ()), ())))
 (some ((false, ()), ())))))))))))
def sg126 : Sig := ⟨ins126, res126, f_spec_l13Good⟩
abbrev ins127 : List Pm := [.val kdChunk, .val kdChunk]
abbrev res127 : List (K × Mk) := [(.bool, .s)]
def f_spec_l13Less (x : (DChunk × DChunk × Unit)) : Option ((Bool × Unit) × Unit) :=
 (cond (ilt x.1.1 x.2.1.1)
 (some ((true, ()), ()))
 (cond (ieq x.1.1 x.2.1.1)
 (some (((ilt x.1.2.1 x.2.1.2.1), ()), ()))
 (some ((false, ()), ()))))
def sg127 : Sig := ⟨ins127, res127, f_spec_l13Less⟩
abbrev ins87 : List Pm := [.val kdTaking, .val kdChunk]
abbrev res87 : List (K × Mk) := [(kdTaking, .s), (.bool, .s)]
abbrev f_spec_l13Take_l4c : Desc := ⟨[(2, .ptr 2 []), (3, .ptr 3 []), (4, .ptr 4 [])], [(2, ⟨kdTaking, .s, true⟩), (3, ⟨kdChunk, .s, true⟩), (4, ⟨kdTaking, (.pr (.o .s) (.pr (.o .s) .s)), true⟩)]⟩
abbrev f_spec_l13Take_l4v : Desc := ⟨[(6, .v (.int .i64))], []⟩
abbrev f_spec_l13Take_l4e : List (Ek × Desc) := [(.exit 0, ⟨[(6, .v (.int .i64))], []⟩)]
def f_spec_l13Take_l4 (R : Type) (c : (Unit × (DTaking × DChunk × DTaking × Unit))) (v : ((Int × Unit) × Unit)) (kk : (Unit × (DTaking × DChunk × DTaking × Unit)) → (((Int × Unit) × Unit) ⊕ ((Int × Unit) × Unit)) → Option R) : Option R :=
 (cond (ilt v.1.1 (llen c.2.1.2.1))
 (getO c.2.1.2.1 v.1.1 fun v2 => (bnd (f_spec_l13Less (v2, (c.2.2.1, ()))) fun r3 => (cond r3.1.1
 (kk ((), (c.2.1, (c.2.2.1, (c.2.2.2.1, ())))) (.inl (((iadd .i64 v.1.1 (1 : Int)), ()), ())))
 (kk ((), (c.2.1, (c.2.2.1, (c.2.2.2.1, ())))) (.inr ((v.1.1, ()), ()))))))
 (kk ((), (c.2.1, (c.2.2.1, (c.2.2.2.1, ())))) (.inr ((v.1.1, ()), ()))))
def f_spec_l13Take (x : (DTaking × DChunk × Unit)) : Option ((DTaking × Bool × Unit) × Unit) :=
 (bnd (f_spec_l13Good (x.1, (x.2.1, ()))) fun r1 => (cond (!r1.1.1)
 (some ((x.1, (false, ())), ()))
 (loopF (c := f_spec_l13Take_l4c) (v := f_spec_l13Take_l4v) (ex := f_spec_l13Take_l4e) f_spec_l13Take_l4 _ ((), (x.1, (x.2.1, ((([] : List DWanted), (([] : List DChunk), ())), ())))) (((0 : Int), ()), ()) fun c4 o5 =>
 (cond (ilt o5.1.1 (llen c4.2.1.2.1))
 (getO c4.2.1.2.1 o5.1.1 fun v6 => (bnd (f_spec_l13Less (c4.2.2.1, (v6, ()))) fun r7 => (cond (!r7.1.1)
 (getO c4.2.1.2.1 o5.1.1 fun v8 => (some ((c4.2.1, ((eqK kdChunk v8 c4.2.2.1), ())), ())))
 (cond (ieq (llen c4.2.1.2.1) (200 : Int))
 (some ((c4.2.1, (false, ())), ()))
 (req (decide ((0 : Int) ≤ o5.1.1) && decide (o5.1.1 ≤ ((List.length c4.2.1.2.1) : Int))) (req (decide (List.length ([] : List DChunk) + List.length (List.take ((Int.toNat o5.1.1) - (0 : Nat)) (List.drop (0 : Nat) c4.2.1.2.1)) ≤ 17179869184)) (req (decide (List.length (([] : List DChunk) ++ (List.take ((Int.toNat o5.1.1) - (0 : Nat)) (List.drop (0 : Nat) c4.2.1.2.1))) + List.length [c4.2.2.1] ≤ 17179869184)) (req (decide ((0 : Int) ≤ o5.1.1) && decide (o5.1.1 ≤ ((List.length c4.2.1.2.1) : Int))) (req (decide (List.length ((([] : List DChunk) ++ (List.take ((Int.toNat o5.1.1) - (0 : Nat)) (List.drop (0 : Nat) c4.2.1.2.1))) ++ [c4.2.2.1]) + List.length (List.take ((List.length c4.2.1.2.1) - (Int.toNat o5.1.1)) (List.drop (Int.toNat o5.1.1) c4.2.1.2.1)) ≤ 17179869184)) (some (((c4.2.1.1, ((((([] : List DChunk) ++ (List.take ((Int.toNat o5.1.1) - (0 : Nat)) (List.drop (0 : Nat) c4.2.1.2.1))) ++ [c4.2.2.1]) ++ (List.take ((List.length c4.2.1.2.1) - (Int.toNat o5.1.1)) (List.drop (Int.toNat o5.1.1) c4.2.1.2.1))), c4.2.1.2.2)), (true, ())), ())))))))))))
 (cond (ieq (llen c4.2.1.2.1) (200 : Int))
 (some ((c4.2.1, (false, ())), ()))
 (req (decide ((0 : Int) ≤ o5.1.1) && decide (o5.1.1 ≤ ((List.length c4.2.1.2.1) : Int))) (req (decide (List.length ([] : List DChunk) + List.length (List.take ((Int.toNat o5.1.1) - (0 : Nat)) (List.drop (0 : Nat) c4.2.1.2.1)) ≤ 17179869184)) (req (decide (List.length (([] : List DChunk) ++ (List.take ((Int.toNat o5.1.1) - (0 : Nat)) (List.drop (0 : Nat) c4.2.1.2.1))) + List.length [c4.2.2.1] ≤ 17179869184)) (req (decide ((0 : Int) ≤ o5.1.1) && decide (o5.1.1 ≤ ((List.length c4.2.1.2.1) : Int))) (req (decide (List.length ((([] : List DChunk) ++ (List.take ((Int.toNat o5.1.1) - (0 : Nat)) (List.drop (0 : Nat) c4.2.1.2.1))) ++ [c4.2.2.1]) + List.length (List.take ((List.length c4.2.1.2.1) - (Int.toNat o5.1.1)) (List.drop (Int.toNat o5.1.1) c4.2.1.2.1)) ≤ 17179869184)) (some (((c4.2.1.1, ((((([] : List DChunk) ++ (List.take ((Int.toNat o5.1.1) - (0 : Nat)) (List.drop (0 : Nat) c4.2.1.2.1))) ++ [c4.2.2.1]) ++ (List.take ((List.length c4.2.1.2.1) - (Int.toNat o5.1.1)) (List.drop (Int.toNat o5.1.1) c4.2.1.2.1))), c4.2.1.2.2)), (true, ())), ()))))))))))))
def sg87 : Sig := ⟨ins87, res87, f_spec_l13Take⟩
abbrev ins98 : List Pm := [.val kdTaking]
abbrev res98 : List (K × Mk) := [((.sl kdChunk), (.o .s))]
abbrev f_spec_l13Missing_i11c : Desc := ⟨[(1, .ptr 1 []), (3, .al 3 []), (5, .v (.int .i64)), (6, .ptr 6 []), (7, .v (.int .i64)), (8, .ptr 8 []), (10, .v (.sl kdWanted)), (11, .v (.int .i64)), (12, .v (.int .i64)), (50, .v .bool)], [(1, ⟨kdTaking, .s, true⟩), (6, ⟨kdWanted, .s, true⟩), (8, ⟨kdChunk, .s, true⟩)]⟩
abbrev f_spec_l13Missing_i11v : Desc := ⟨[(4, .v (.int .i64))], [(3, ⟨(.sl kdChunk), (.o .s), false⟩)]⟩
abbrev f_spec_l13Missing_i11e : List (Ek × Desc) := [(.norm, ⟨[(4, .v (.int .i64))], [(3, ⟨(.sl kdChunk), (.o .s), false⟩)]⟩)]
def f_spec_l13Missing_i11 (R : Type) (c : ((Int × Int × (List DWanted) × Int × Int × Bool × Unit) × (DTaking × DWanted × DChunk × Unit))) (v : ((Int × Unit) × ((List DChunk) × Unit))) (kk : ((Int × Int × (List DWanted) × Int × Int × Bool × Unit) × (DTaking × DWanted × DChunk × Unit)) → ((Int × Unit) × ((List DChunk) × Unit)) → Option R) : Option R :=
 (cond c.1.2.2.2.2.2.1
 (kk ((c.1.1, (c.1.2.1, (c.1.2.2.1, (c.1.2.2.2.1, (c.1.2.2.2.2.1, (c.1.2.2.2.2.2.1, ())))))), (c.2.1, (c.2.2.1, (c.2.2.2.1, ())))) (((iadd .i64 v.1.1 (1 : Int)), ()), (v.2.1, ())))
 (req (decide (List.length v.2.1 + List.length [c.2.2.2.1] ≤ 17179869184)) (kk ((c.1.1, (c.1.2.1, (c.1.2.2.1, (c.1.2.2.2.1, (c.1.2.2.2.2.1, (c.1.2.2.2.2.2.1, ())))))), (c.2.1, (c.2.2.1, (c.2.2.2.1, ())))) ((v.1.1, ()), ((v.2.1 ++ [c.2.2.2.1]), ())))))
abbrev f_spec_l13Missing_l7c : Desc := ⟨[(1, .ptr 1 []), (3, .al 3 []), (6, .ptr 6 [])], []⟩
abbrev f_spec_l13Missing_l7v : Desc := ⟨[(4, .v (.int .i64)), (5, .v (.int .i64)), (7, .v (.int .i64)), (10, .v (.sl kdWanted)), (11, .v (.int .i64)), (12, .v (.int .i64))], [(1, ⟨kdTaking, .s, true⟩), (3, ⟨(.sl kdChunk), (.o .s), false⟩), (6, ⟨kdWanted, .s, true⟩)]⟩
abbrev f_spec_l13Missing_l7e : List (Ek × Desc) := [(.exit 2, ⟨[(4, .v (.int .i64)), (10, .v (.sl kdWanted)), (11, .v (.int .i64)), (12, .v (.int .i64))], [(1, ⟨kdTaking, .s, true⟩), (3, ⟨(.sl kdChunk), (.o .s), false⟩), (6, ⟨kdWanted, .s, true⟩)]⟩)]
def f_spec_l13Missing_l7 (R : Type) (c : (Unit × Unit)) (v : ((Int × Int × Int × (List DWanted) × Int × Int × Unit) × (DTaking × (List DChunk) × DWanted × Unit))) (kk : (Unit × Unit) → (((Int × Int × Int × (List DWanted) × Int × Int × Unit) × (DTaking × (List DChunk) × DWanted × Unit)) ⊕ ((Int × (List DWanted) × Int × Int × Unit) × (DTaking × (List DChunk) × DWanted × Unit))) → Option R) : Option R :=
 (cond (ilt v.1.2.2.1 v.2.2.2.1.1)
 (cond (ilt v.1.1 (llen v.2.1.2.1))
 (getO v.2.1.2.1 v.1.1 fun v2 => (cond (ieq v2.1 v.1.2.1)
 (getO v.2.1.2.1 v.1.1 fun v3 => (f_spec_l13Missing_i11 _ ((v.1.2.1, (v.1.2.2.1, (v.1.2.2.2.1, (v.1.2.2.2.2.1, (v.1.2.2.2.2.2.1, ((ieq v3.2.1 v.1.2.2.1), ())))))), (v.2.1, (v.2.2.2.1, ((v.1.2.1, (v.1.2.2.1, ((⟨#[]⟩ : ByteArray), ((0 : Int), ())))), ())))) ((v.1.1, ()), (v.2.2.1, ())) fun c4 o5 =>
 (kk ((), ()) (.inl ((o5.1.1, (c4.1.1, ((iadd .i64 c4.1.2.1 (64 : Int)), (c4.1.2.2.1, (c4.1.2.2.2.1, (c4.1.2.2.2.2.1, ())))))), (c4.2.1, (o5.2.1, (c4.2.2.1, ()))))))))
 (f_spec_l13Missing_i11 _ ((v.1.2.1, (v.1.2.2.1, (v.1.2.2.2.1, (v.1.2.2.2.2.1, (v.1.2.2.2.2.2.1, (false, ())))))), (v.2.1, (v.2.2.2.1, ((v.1.2.1, (v.1.2.2.1, ((⟨#[]⟩ : ByteArray), ((0 : Int), ())))), ())))) ((v.1.1, ()), (v.2.2.1, ())) fun c6 o7 =>
 (kk ((), ()) (.inl ((o7.1.1, (c6.1.1, ((iadd .i64 c6.1.2.1 (64 : Int)), (c6.1.2.2.1, (c6.1.2.2.2.1, (c6.1.2.2.2.2.1, ())))))), (c6.2.1, (o7.2.1, (c6.2.2.1, ())))))))))
 (f_spec_l13Missing_i11 _ ((v.1.2.1, (v.1.2.2.1, (v.1.2.2.2.1, (v.1.2.2.2.2.1, (v.1.2.2.2.2.2.1, (false, ())))))), (v.2.1, (v.2.2.2.1, ((v.1.2.1, (v.1.2.2.1, ((⟨#[]⟩ : ByteArray), ((0 : Int), ())))), ())))) ((v.1.1, ()), (v.2.2.1, ())) fun c8 o9 =>
 (kk ((), ()) (.inl ((o9.1.1, (c8.1.1, ((iadd .i64 c8.1.2.1 (64 : Int)), (c8.1.2.2.1, (c8.1.2.2.2.1, (c8.1.2.2.2.2.1, ())))))), (c8.2.1, (o9.2.1, (c8.2.2.1, ()))))))))
 (kk ((), ()) (.inr ((v.1.1, (v.1.2.2.2.1, (v.1.2.2.2.2.1, (v.1.2.2.2.2.2.1, ())))), (v.2.1, (v.2.2.1, (v.2.2.2.1, ())))))))
abbrev f_spec_l13Missing_l4c : Desc := ⟨[(1, .ptr 1 []), (3, .al 3 [])], []⟩
abbrev f_spec_l13Missing_l4v : Desc := ⟨[(4, .v (.int .i64)), (10, .v (.sl kdWanted)), (11, .v (.int .i64)), (12, .v (.int .i64))], [(1, ⟨kdTaking, .s, true⟩), (3, ⟨(.sl kdChunk), (.o .s), false⟩)]⟩
abbrev f_spec_l13Missing_l4e : List (Ek × Desc) := [(.exit 0, ⟨[], [(1, ⟨kdTaking, .s, true⟩), (3, ⟨(.sl kdChunk), (.o .s), false⟩)]⟩)]
def f_spec_l13Missing_l4 (R : Type) (c : (Unit × Unit)) (v : ((Int × (List DWanted) × Int × Int × Unit) × (DTaking × (List DChunk) × Unit))) (kk : (Unit × Unit) → (((Int × (List DWanted) × Int × Int × Unit) × (DTaking × (List DChunk) × Unit)) ⊕ (Unit × (DTaking × (List DChunk) × Unit))) → Option R) : Option R :=
 (cond (ilt v.1.2.2.2.1 v.1.2.2.1)
 (getO v.1.2.1 v.1.2.2.2.1 fun v1 => (loopF (c := f_spec_l13Missing_l7c) (v := f_spec_l13Missing_l7v) (ex := f_spec_l13Missing_l7e) f_spec_l13Missing_l7 _ ((), ()) ((v.1.1, (v.1.2.2.2.1, ((0 : Int), (v.1.2.1, (v.1.2.2.1, (v.1.2.2.2.1, ())))))), (v.2.1, (v.2.2.1, (v1, ())))) fun c2 o3 =>
 (kk ((), ()) (.inl ((o3.1.1, (o3.1.2.1, (o3.1.2.2.1, ((iadd .i64 o3.1.2.2.2.1 (1 : Int)), ())))), (o3.2.1, (o3.2.2.1, ())))))))
 (kk ((), ()) (.inr ((), (v.2.1, (v.2.2.1, ()))))))
def f_spec_l13Missing (x : (DTaking × Unit)) : Option (((List DChunk) × Unit) × Unit) :=
 (loopF (c := f_spec_l13Missing_l4c) (v := f_spec_l13Missing_l4v) (ex := f_spec_l13Missing_l4e) f_spec_l13Missing_l4 _ ((), ()) (((0 : Int), (x.1.1, ((llen x.1.1), ((0 : Int), ())))), (x.1, (([] : List DChunk), ()))) fun c4 o5 =>
 (some ((o5.2.2.1, ()), ())))
def sg98 : Sig := ⟨ins98, res98, f_spec_l13Missing⟩
abbrev ins88 : List Pm := [.val kdTaking]
abbrev res88 : List (K × Mk) := [((.sl .str), (.o .s)), (.bool, .s)]
abbrev f_spec_l13Finish_l5c : Desc := ⟨[(1, .ptr 1 []), (4, .al 4 []), (18, .v (.sl kdChunk)), (19, .v (.int .i64))], [(1, ⟨kdTaking, .s, true⟩)]⟩
abbrev f_spec_l13Finish_l5v : Desc := ⟨[(20, .v (.int .i64))], [(4, ⟨(.sl .str), (.o .s), false⟩)]⟩
abbrev f_spec_l13Finish_l5e : List (Ek × Desc) := [(.exit 0, ⟨[], [(4, ⟨(.sl .str), (.o .s), false⟩)]⟩)]
def f_spec_l13Finish_l5 (R : Type) (c : (((List DChunk) × Int × Unit) × (DTaking × Unit))) (v : ((Int × Unit) × ((List ByteArray) × Unit))) (kk : (((List DChunk) × Int × Unit) × (DTaking × Unit)) → (((Int × Unit) × ((List ByteArray) × Unit)) ⊕ (Unit × ((List ByteArray) × Unit))) → Option R) : Option R :=
 (cond (ilt v.1.1 c.1.2.1)
 (getO c.1.1 v.1.1 fun v2 => (getO v.2.1 v2.1 fun _ => (bnd (v.2.1[(Int.toNat v2.1)]?) fun v4 => (catO v4 v2.2.2.1 fun v5 => (getO v.2.1 v2.1 fun _ => (bnd (v.2.1[(Int.toNat v2.1)]?) fun v7 => (kk ((c.1.1, (c.1.2.1, ())), (c.2.1, ())) (.inl (((iadd .i64 v.1.1 (1 : Int)), ()), ((List.set v.2.1 (Int.toNat v2.1) v5), ()))))))))))
 (kk ((c.1.1, (c.1.2.1, ())), (c.2.1, ())) (.inr ((), (v.2.1, ())))))
abbrev f_spec_l13Finish_l10c : Desc := ⟨[(4, .al 4 []), (35, .v (.sl kdWanted)), (36, .v (.int .i64))], [(4, ⟨(.sl .str), (.o .s), false⟩)]⟩
abbrev f_spec_l13Finish_l10v : Desc := ⟨[(37, .v (.int .i64))], []⟩
abbrev f_spec_l13Finish_l10e : List (Ek × Desc) := [(.ret, ⟨[(2, .al 2 []), (3, .v .bool)], [(2, ⟨(.sl .str), (.o .s), false⟩)]⟩), (.exit 2, ⟨[], []⟩)]
def f_spec_l13Finish_l10 (R : Type) (c : (((List DWanted) × Int × Unit) × ((List ByteArray) × Unit))) (v : ((Int × Unit) × Unit)) (kk : (((List DWanted) × Int × Unit) × ((List ByteArray) × Unit)) → (((Int × Unit) × Unit) ⊕ (((Bool × Unit) × ((List ByteArray) × Unit)) ⊕ (Unit × Unit))) → Option R) : Option R :=
 (cond (ilt v.1.1 c.1.2.1)
 (getO c.1.1 v.1.1 fun v10 => (getO c.2.1 v.1.1 fun _ => (bnd (c.2.1[(Int.toNat v.1.1)]?) fun v12 => (bnd (f_spec_l2Sum (v12, ())) fun r13 => (cond (!ieq r13.1.1 v10.2.1)
 (kk ((c.1.1, (c.1.2.1, ())), (c.2.1, ())) (.inr (.inl ((false, ()), (([] : List ByteArray), ())))))
 (kk ((c.1.1, (c.1.2.1, ())), (c.2.1, ())) (.inl (((iadd .i64 v.1.1 (1 : Int)), ()), ()))))))))
 (kk ((c.1.1, (c.1.2.1, ())), (c.2.1, ())) (.inr (.inr ((), ())))))
def f_spec_l13Finish (x : (DTaking × Unit)) : Option (((List ByteArray) × Bool × Unit) × Unit) :=
 (bnd (f_spec_l13Missing (x.1, ())) fun r1 => (cond (ilt (0 : Int) (llen r1.1.1))
 (some ((([] : List ByteArray), (false, ())), ()))
 (req (decide ((llen x.1.1) = (llen x.1.1)) && (decide ((0 : Int) ≤ (llen x.1.1)) && decide ((llen x.1.1) ≤ (68719476736 : Int)))) (loopF (c := f_spec_l13Finish_l5c) (v := f_spec_l13Finish_l5v) (ex := f_spec_l13Finish_l5e) f_spec_l13Finish_l5 _ ((x.1.2.1, ((llen x.1.2.1), ())), (x.1, ())) (((0 : Int), ()), ((List.replicate (Int.toNat (llen x.1.1)) ((⟨#[]⟩ : ByteArray) : ByteArray)), ())) fun c8 o9 =>
 (loopF (c := f_spec_l13Finish_l10c) (v := f_spec_l13Finish_l10v) (ex := f_spec_l13Finish_l10e) f_spec_l13Finish_l10 _ ((c8.2.1.1, ((llen c8.2.1.1), ())), (o9.2.1, ())) (((0 : Int), ()), ()) fun c14 o15 =>
 (match o15 with
 | .inl y16 => (some ((y16.2.1, (y16.1.1, ())), ()))
 | .inr z17 => (some ((c14.2.1, (true, ())), ()))))))))
def sg88 : Sig := ⟨ins88, res88, f_spec_l13Finish⟩
abbrev ins34 : List Pm := [.val (.sl .str), .val (.sl (.int .i64)), .val (.sl (.int .i64))]
abbrev res34 : List (K × Mk) := [((.sl .str), (.o .s)), ((.int .i64), .s), (.bool, .s)]
abbrev f_spec_PlayTaking_i14c : Desc := ⟨[(2, .v (.sl (.int .i64))), (9, .al 9 []), (13, .ptr 13 []), (15, .v (.int .i64)), (18, .ptr 18 []), (19, .v (.int .i64)), (54, .v (.sl (.int .i64))), (55, .v (.int .i64)), (56, .v (.int .i64)), (81, .v .bool)], [(9, ⟨(.sl kdChunk), (.o .s), false⟩), (13, ⟨kdTaking, .s, true⟩)]⟩
abbrev f_spec_PlayTaking_i14v : Desc := ⟨[], [(18, ⟨kdChunk, .s, true⟩)]⟩
abbrev f_spec_PlayTaking_i14e : List (Ek × Desc) := [(.norm, ⟨[], [(18, ⟨kdChunk, .s, true⟩)]⟩)]
def f_spec_PlayTaking_i14 (R : Type) (c : (((List Int) × Int × Int × (List Int) × Int × Int × Bool × Unit) × ((List DChunk) × DTaking × Unit))) (v : (Unit × (DChunk × Unit))) (kk : (((List Int) × Int × Int × (List Int) × Int × Int × Bool × Unit) × ((List DChunk) × DTaking × Unit)) → (Unit × (DChunk × Unit)) → Option R) : Option R :=
 (cond c.1.2.2.2.2.2.2.1
 (cond (Nat.beq (ByteArray.size v.2.1.2.2.1) 0)
 none
 (getO (bytesOf v.2.1.2.2.1) (iquo .i64 c.1.2.2.1 (8 : Int)) fun _ => (bnd ((bytesOf v.2.1.2.2.1)[(Int.toNat (iquo .i64 c.1.2.2.1 (8 : Int)))]?) fun v11 => (req (ile (0 : Int) (IntKind.wrap .u64 (irem .i64 c.1.2.2.1 (8 : Int)))) (getO (bytesOf v.2.1.2.2.1) (iquo .i64 c.1.2.2.1 (8 : Int)) fun _ => (bnd ((bytesOf v.2.1.2.2.1)[(Int.toNat (iquo .i64 c.1.2.2.1 (8 : Int)))]?) fun v13 => (kk ((c.1.1, (c.1.2.1, (c.1.2.2.1, (c.1.2.2.2.1, (c.1.2.2.2.2.1, (c.1.2.2.2.2.2.1, (c.1.2.2.2.2.2.2.1, ()))))))), (c.2.1, (c.2.2.1, ()))) ((), ((v.2.1.1, (v.2.1.2.1, ((strOf (List.set (bytesOf v.2.1.2.2.1) (Int.toNat (iquo .i64 c.1.2.2.1 (8 : Int))) (ixor .u8 v11 (ishl .u8 (1 : Int) (IntKind.wrap .u64 (irem .i64 c.1.2.2.1 (8 : Int))))))), v.2.1.2.2.2))), ())))))))))
 (kk ((c.1.1, (c.1.2.1, (c.1.2.2.1, (c.1.2.2.2.1, (c.1.2.2.2.2.1, (c.1.2.2.2.2.2.1, (c.1.2.2.2.2.2.2.1, ()))))))), (c.2.1, (c.2.2.1, ()))) ((), (v.2.1, ()))))
abbrev f_spec_PlayTaking_i19c : Desc := ⟨[(2, .v (.sl (.int .i64))), (9, .al 9 []), (13, .ptr 13 []), (21, .ptr 21 []), (54, .v (.sl (.int .i64))), (55, .v (.int .i64)), (56, .v (.int .i64)), (105, .v .bool)], [(9, ⟨(.sl kdChunk), (.o .s), false⟩), (21, ⟨kdTaking, .s, true⟩)]⟩
abbrev f_spec_PlayTaking_i19v : Desc := ⟨[(15, .v (.int .i64))], [(13, ⟨kdTaking, .s, true⟩)]⟩
abbrev f_spec_PlayTaking_i19e : List (Ek × Desc) := [(.norm, ⟨[(15, .v (.int .i64))], [(13, ⟨kdTaking, .s, true⟩)]⟩)]
def f_spec_PlayTaking_i19 (R : Type) (c : (((List Int) × (List Int) × Int × Int × Bool × Unit) × ((List DChunk) × DTaking × Unit))) (v : ((Int × Unit) × (DTaking × Unit))) (kk : (((List Int) × (List Int) × Int × Int × Bool × Unit) × ((List DChunk) × DTaking × Unit)) → ((Int × Unit) × (DTaking × Unit)) → Option R) : Option R :=
 (cond c.1.2.2.2.2.1
 (kk ((c.1.1, (c.1.2.1, (c.1.2.2.1, (c.1.2.2.2.1, (c.1.2.2.2.2.1, ()))))), (c.2.1, (c.2.2.1, ()))) (((iadd .i64 v.1.1 (1 : Int)), ()), (c.2.2.1, ())))
 (kk ((c.1.1, (c.1.2.1, (c.1.2.2.1, (c.1.2.2.2.1, (c.1.2.2.2.2.1, ()))))), (c.2.1, (c.2.2.1, ()))) ((v.1.1, ()), (v.2.1, ()))))
abbrev f_spec_PlayTaking_l8c : Desc := ⟨[(9, .al 9 []), (13, .ptr 13 [])], []⟩
abbrev f_spec_PlayTaking_l8v : Desc := ⟨[(2, .v (.sl (.int .i64))), (15, .v (.int .i64)), (54, .v (.sl (.int .i64))), (55, .v (.int .i64)), (56, .v (.int .i64))], [(9, ⟨(.sl kdChunk), (.o .s), false⟩), (13, ⟨kdTaking, .s, true⟩)]⟩
abbrev f_spec_PlayTaking_l8e : List (Ek × Desc) := [(.exit 0, ⟨[(15, .v (.int .i64))], [(9, ⟨(.sl kdChunk), (.o .s), false⟩), (13, ⟨kdTaking, .s, true⟩)]⟩)]
def f_spec_PlayTaking_l8 (R : Type) (c : (Unit × Unit)) (v : (((List Int) × Int × (List Int) × Int × Int × Unit) × ((List DChunk) × DTaking × Unit))) (kk : (Unit × Unit) → ((((List Int) × Int × (List Int) × Int × Int × Unit) × ((List DChunk) × DTaking × Unit)) ⊕ ((Int × Unit) × ((List DChunk) × DTaking × Unit))) → Option R) : Option R :=
 (cond (ilt v.1.2.2.2.2.1 v.1.2.2.2.1)
 (getO v.1.2.2.1 v.1.2.2.2.2.1 fun v4 => (bnd (f_spec_l1In (v4, ((0 : Int), ((isub .i64 (llen v.2.1) (1 : Int)), ())))) fun r5 => (cond (!r5.1.1)
 (kk ((), ()) (.inl ((v.1.1, (v.1.2.1, (v.1.2.2.1, (v.1.2.2.2.1, ((iadd .i64 v.1.2.2.2.2.1 (1 : Int)), ()))))), (v.2.1, (v.2.2.1, ())))))
 (getO v.2.1 v4 fun _ => (bnd (v.2.1[(Int.toNat v4)]?) fun v7 => (getO v.1.1 v.1.2.2.2.2.1 fun v8 => (bnd (f_spec_l1In (v8, ((0 : Int), ((isub .i64 (imul .i64 (8 : Int) (slen v7.2.2.1)) (1 : Int)), ())))) fun r9 => (f_spec_PlayTaking_i14 _ ((v.1.1, (v.1.2.1, (v8, (v.1.2.2.1, (v.1.2.2.2.1, (v.1.2.2.2.2.1, (r9.1.1, ()))))))), (v.2.1, (v.2.2.1, ()))) ((), (v7, ())) fun c10 o11 =>
 (bnd (f_spec_l13Take (c10.2.2.1, (o11.2.1, ()))) fun r12 => (f_spec_PlayTaking_i19 _ ((c10.1.1, (c10.1.2.2.2.1, (c10.1.2.2.2.2.1, (c10.1.2.2.2.2.2.1, (r12.1.2.1, ()))))), (c10.2.1, (r12.1.1, ()))) ((c10.1.2.1, ()), (c10.2.2.1, ())) fun c13 o14 =>
 (kk ((), ()) (.inl ((c13.1.1, (o14.1.1, (c13.1.2.1, (c13.1.2.2.1, ((iadd .i64 c13.1.2.2.2.1 (1 : Int)), ()))))), (c13.2.1, (o14.2.1, ())))))))))))))))
 (kk ((), ()) (.inr ((v.1.2.1, ()), (v.2.1, (v.2.2.1, ()))))))
abbrev f_spec_PlayTaking_i24c : Desc := ⟨[(15, .v (.int .i64)), (23, .al 23 []), (116, .v .bool)], []⟩
abbrev f_spec_PlayTaking_i24v : Desc := ⟨[], [(23, ⟨(.sl .str), (.o .s), false⟩)]⟩
abbrev f_spec_PlayTaking_i24e : List (Ek × Desc) := [(.norm, ⟨[], [(23, ⟨(.sl .str), (.o .s), false⟩)]⟩)]
def f_spec_PlayTaking_i24 (R : Type) (c : ((Int × Bool × Unit) × Unit)) (v : (Unit × ((List ByteArray) × Unit))) (kk : ((Int × Bool × Unit) × Unit) → (Unit × ((List ByteArray) × Unit)) → Option R) : Option R :=
 (cond c.1.2.1
 (kk ((c.1.1, (c.1.2.1, ())), ()) ((), (([] : List ByteArray), ())))
 (kk ((c.1.1, (c.1.2.1, ())), ()) ((), (v.2.1, ()))))
def f_spec_PlayTaking (x : ((List ByteArray) × (List Int) × (List Int) × Unit)) : Option (((List ByteArray) × Int × Bool × Unit) × Unit) :=
 (bnd (f_spec_ChunksOf (x.1, ())) fun r1 => (cond (!r1.1.2.1)
 (some ((([] : List ByteArray), ((0 : Int), (false, ()))), ()))
 (cond (ilt (400 : Int) (llen x.2.1))
 (some ((([] : List ByteArray), ((0 : Int), (false, ()))), ()))
 (cond (!ieq (llen x.2.2.1) (llen x.2.1))
 (some ((([] : List ByteArray), ((0 : Int), (false, ()))), ()))
 (bnd (f_spec_WantOf (x.1, ())) fun r2 => (bnd (f_spec_NewTaking (r2.1.1, ())) fun r3 => (loopF (c := f_spec_PlayTaking_l8c) (v := f_spec_PlayTaking_l8v) (ex := f_spec_PlayTaking_l8e) f_spec_PlayTaking_l8 _ ((), ()) ((x.2.2.1, ((0 : Int), (x.2.1, ((llen x.2.1), ((0 : Int), ()))))), (r1.1.1, (r3.1.1, ()))) fun c15 o16 =>
 (bnd (f_spec_l13Finish (o16.2.2.1, ())) fun r17 => (f_spec_PlayTaking_i24 _ ((o16.1.1, ((!r17.1.2.1), ())), ()) ((), (r17.1.1, ())) fun c18 o19 =>
 (some ((o19.2.1, (c18.1.1, (true, ()))), ())))))))))))
def sg34 : Sig := ⟨ins34, res34, f_spec_PlayTaking⟩
abbrev ins35 : List Pm := [.val (.sl .str), .val (.sl .str)]
abbrev res35 : List (K × Mk) := [(.bool, .s)]
abbrev f_laws_sameTexts_l4c : Desc := ⟨[(0, .v (.sl .str)), (1, .v (.sl .str)), (12, .v (.int .i64))], []⟩
abbrev f_laws_sameTexts_l4v : Desc := ⟨[(13, .v (.int .i64))], []⟩
abbrev f_laws_sameTexts_l4e : List (Ek × Desc) := [(.ret, ⟨[(4, .v .bool)], []⟩), (.exit 0, ⟨[], []⟩)]
def f_laws_sameTexts_l4 (R : Type) (c : (((List ByteArray) × (List ByteArray) × Int × Unit) × Unit)) (v : ((Int × Unit) × Unit)) (kk : (((List ByteArray) × (List ByteArray) × Int × Unit) × Unit) → (((Int × Unit) × Unit) ⊕ (((Bool × Unit) × Unit) ⊕ (Unit × Unit))) → Option R) : Option R :=
 (cond (ilt v.1.1 c.1.2.2.1)
 (getO c.1.1 v.1.1 fun v1 => (getO c.1.2.1 v.1.1 fun v2 => (cond (!seq v1 v2)
 (kk ((c.1.1, (c.1.2.1, (c.1.2.2.1, ()))), ()) (.inr (.inl ((false, ()), ()))))
 (kk ((c.1.1, (c.1.2.1, (c.1.2.2.1, ()))), ()) (.inl (((iadd .i64 v.1.1 (1 : Int)), ()), ()))))))
 (kk ((c.1.1, (c.1.2.1, (c.1.2.2.1, ()))), ()) (.inr (.inr ((), ())))))
def f_laws_sameTexts (x : ((List ByteArray) × (List ByteArray) × Unit)) : Option ((Bool × Unit) × Unit) :=
 (cond (!ieq (llen x.1) (llen x.2.1))
 (some ((false, ()), ()))
 (loopF (c := f_laws_sameTexts_l4c) (v := f_laws_sameTexts_l4v) (ex := f_laws_sameTexts_l4e) f_laws_sameTexts_l4 _ ((x.1, (x.2.1, ((llen x.1), ()))), ()) (((0 : Int), ()), ()) fun c3 o4 =>
 (match o4 with
 | .inl y5 => (some ((y5.1.1, ()), ()))
 | .inr z6 => (some ((true, ()), ())))))
def sg35 : Sig := ⟨ins35, res35, f_laws_sameTexts⟩
abbrev ins38 : List Pm := [.val (.sl kdChunk), .val (.sl kdChunk)]
abbrev res38 : List (K × Mk) := [(.bool, .s)]
abbrev f_laws_sameChunks_l4c : Desc := ⟨[(0, .v (.sl kdChunk)), (1, .v (.sl kdChunk)), (12, .v (.int .i64))], []⟩
abbrev f_laws_sameChunks_l4v : Desc := ⟨[(13, .v (.int .i64))], []⟩
abbrev f_laws_sameChunks_l4e : List (Ek × Desc) := [(.ret, ⟨[(4, .v .bool)], []⟩), (.exit 0, ⟨[], []⟩)]
def f_laws_sameChunks_l4 (R : Type) (c : (((List DChunk) × (List DChunk) × Int × Unit) × Unit)) (v : ((Int × Unit) × Unit)) (kk : (((List DChunk) × (List DChunk) × Int × Unit) × Unit) → (((Int × Unit) × Unit) ⊕ (((Bool × Unit) × Unit) ⊕ (Unit × Unit))) → Option R) : Option R :=
 (cond (ilt v.1.1 c.1.2.2.1)
 (getO c.1.1 v.1.1 fun v1 => (getO c.1.2.1 v.1.1 fun v2 => (cond (!(eqK kdChunk v1 v2))
 (kk ((c.1.1, (c.1.2.1, (c.1.2.2.1, ()))), ()) (.inr (.inl ((false, ()), ()))))
 (kk ((c.1.1, (c.1.2.1, (c.1.2.2.1, ()))), ()) (.inl (((iadd .i64 v.1.1 (1 : Int)), ()), ()))))))
 (kk ((c.1.1, (c.1.2.1, (c.1.2.2.1, ()))), ()) (.inr (.inr ((), ())))))
def f_laws_sameChunks (x : ((List DChunk) × (List DChunk) × Unit)) : Option ((Bool × Unit) × Unit) :=
 (cond (!ieq (llen x.1) (llen x.2.1))
 (some ((false, ()), ()))
 (loopF (c := f_laws_sameChunks_l4c) (v := f_laws_sameChunks_l4v) (ex := f_laws_sameChunks_l4e) f_laws_sameChunks_l4 _ ((x.1, (x.2.1, ((llen x.1), ()))), ()) (((0 : Int), ()), ()) fun c3 o4 =>
 (match o4 with
 | .inl y5 => (some ((y5.1.1, ()), ()))
 | .inr z6 => (some ((true, ()), ())))))
def sg38 : Sig := ⟨ins38, res38, f_laws_sameChunks⟩
abbrev ins6 : List Pm := [.val (.sl (.int .u8))]
abbrev res6 : List (K × Mk) := [(.bool, .s)]
abbrev f_laws_FnSent_l17c : Desc := ⟨[(3, .al 3 []), (5, .al 5 []), (6, .al 6 []), (7, .v (.int .i64)), (12, .al 12 []), (16, .al 16 []), (92, .al 4 []), (93, .v (.int .i64))], [(3, ⟨(.sl .str), (.o .s), false⟩), (4, ⟨(.sl (.int .i64)), (.o .s), false⟩), (5, ⟨(.sl (.int .i64)), (.o .s), false⟩), (6, ⟨(.sl .str), (.o .s), false⟩), (12, ⟨(.sl kdChunk), (.o .s), false⟩)]⟩
abbrev f_laws_FnSent_l17v : Desc := ⟨[(17, .v (.int .i64)), (94, .v (.int .i64))], [(16, ⟨(.sl .bool), (.o .s), false⟩)]⟩
abbrev f_laws_FnSent_l17e : List (Ek × Desc) := [(.exit 0, ⟨[(17, .v (.int .i64))], [(16, ⟨(.sl .bool), (.o .s), false⟩)]⟩)]
def f_laws_FnSent_l17 (R : Type) (c : ((Int × Int × Unit) × ((List ByteArray) × (List Int) × (List Int) × (List ByteArray) × (List DChunk) × Unit))) (v : ((Int × Int × Unit) × ((List Bool) × Unit))) (kk : ((Int × Int × Unit) × ((List ByteArray) × (List Int) × (List Int) × (List ByteArray) × (List DChunk) × Unit)) → (((Int × Int × Unit) × ((List Bool) × Unit)) ⊕ ((Int × Unit) × ((List Bool) × Unit))) → Option R) : Option R :=
 (cond (ilt v.1.2.1 c.1.2.1)
 (getO c.2.2.1 v.1.2.1 fun _ => (bnd (c.2.2.1[(Int.toNat v.1.2.1)]?) fun v9 => (cond (ilt v9 (0 : Int))
 (kk ((c.1.1, (c.1.2.1, ())), (c.2.1, (c.2.2.1, (c.2.2.2.1, (c.2.2.2.2.1, (c.2.2.2.2.2.1, ())))))) (.inl ((v.1.1, ((iadd .i64 v.1.2.1 (1 : Int)), ())), (v.2.1, ()))))
 (cond (ile (llen c.2.2.2.2.2.1) v9)
 (kk ((c.1.1, (c.1.2.1, ())), (c.2.1, (c.2.2.1, (c.2.2.2.1, (c.2.2.2.2.1, (c.2.2.2.2.2.1, ())))))) (.inl ((v.1.1, ((iadd .i64 v.1.2.1 (1 : Int)), ())), (v.2.1, ()))))
 (getO c.2.2.2.1 v.1.2.1 fun _ => (bnd (c.2.2.2.1[(Int.toNat v.1.2.1)]?) fun v11 => (cond (ile (0 : Int) v11)
 (getO c.2.2.2.1 v.1.2.1 fun _ => (bnd (c.2.2.2.1[(Int.toNat v.1.2.1)]?) fun v13 => (getO c.2.2.2.2.2.1 v9 fun _ => (bnd (c.2.2.2.2.2.1[(Int.toNat v9)]?) fun v15 => (bnd (c.2.2.2.2.2.1[(Int.toNat v9)]?) fun v16 => (cond (ilt v13 (imul .i64 (8 : Int) (slen v16.2.2.1)))
 (kk ((c.1.1, (c.1.2.1, ())), (c.2.1, (c.2.2.1, (c.2.2.2.1, (c.2.2.2.2.1, (c.2.2.2.2.2.1, ())))))) (.inl ((v.1.1, ((iadd .i64 v.1.2.1 (1 : Int)), ())), (v.2.1, ()))))
 (getO v.2.1 v9 fun _ => (bnd (v.2.1[(Int.toNat v9)]?) fun v18 => (kk ((c.1.1, (c.1.2.1, ())), (c.2.1, (c.2.2.1, (c.2.2.2.1, (c.2.2.2.2.1, (c.2.2.2.2.2.1, ())))))) (.inl (((iadd .i64 v.1.1 (1 : Int)), ((iadd .i64 v.1.2.1 (1 : Int)), ())), ((List.set v.2.1 (Int.toNat v9) true), ()))))))))))))
 (getO v.2.1 v9 fun _ => (bnd (v.2.1[(Int.toNat v9)]?) fun v20 => (kk ((c.1.1, (c.1.2.1, ())), (c.2.1, (c.2.2.1, (c.2.2.2.1, (c.2.2.2.2.1, (c.2.2.2.2.2.1, ())))))) (.inl (((iadd .i64 v.1.1 (1 : Int)), ((iadd .i64 v.1.2.1 (1 : Int)), ())), ((List.set v.2.1 (Int.toNat v9) true), ())))))))))))))
 (kk ((c.1.1, (c.1.2.1, ())), (c.2.1, (c.2.2.1, (c.2.2.2.1, (c.2.2.2.2.1, (c.2.2.2.2.2.1, ())))))) (.inr ((v.1.1, ()), (v.2.1, ())))))
abbrev f_laws_FnSent_l25c : Desc := ⟨[(3, .al 3 []), (6, .al 6 []), (7, .v (.int .i64)), (17, .v (.int .i64)), (134, .al 16 []), (135, .v (.int .i64))], [(3, ⟨(.sl .str), (.o .s), false⟩), (6, ⟨(.sl .str), (.o .s), false⟩), (16, ⟨(.sl .bool), (.o .s), false⟩)]⟩
abbrev f_laws_FnSent_l25v : Desc := ⟨[(20, .v .bool), (136, .v (.int .i64))], []⟩
abbrev f_laws_FnSent_l25e : List (Ek × Desc) := [(.exit 2, ⟨[(20, .v .bool)], []⟩)]
def f_laws_FnSent_l25 (R : Type) (c : ((Int × Int × Int × Unit) × ((List ByteArray) × (List ByteArray) × (List Bool) × Unit))) (v : ((Bool × Int × Unit) × Unit)) (kk : ((Int × Int × Int × Unit) × ((List ByteArray) × (List ByteArray) × (List Bool) × Unit)) → (((Bool × Int × Unit) × Unit) ⊕ ((Bool × Unit) × Unit)) → Option R) : Option R :=
 (cond (ilt v.1.2.1 c.1.2.2.1)
 (getO c.2.2.2.1 v.1.2.1 fun _ => (bnd (c.2.2.2.1[(Int.toNat v.1.2.1)]?) fun v24 => (cond v.1.1
 (kk ((c.1.1, (c.1.2.1, (c.1.2.2.1, ()))), (c.2.1, (c.2.2.1, (c.2.2.2.1, ())))) (.inl ((v24, ((iadd .i64 v.1.2.1 (1 : Int)), ())), ())))
 (kk ((c.1.1, (c.1.2.1, (c.1.2.2.1, ()))), (c.2.1, (c.2.2.1, (c.2.2.2.1, ())))) (.inl ((false, ((iadd .i64 v.1.2.1 (1 : Int)), ())), ()))))))
 (kk ((c.1.1, (c.1.2.1, (c.1.2.2.1, ()))), (c.2.1, (c.2.2.1, (c.2.2.2.1, ())))) (.inr ((v.1.1, ()), ()))))
def f_laws_FnSent (x : ((List Int) × Unit)) : Option ((Bool × Unit) × Unit) :=
 (cond (ilt (1048576 : Int) (llen x.1))
 (some ((true, ()), ()))
 (bnd (f_spec_DrawPlayTaking (x.1, ())) fun r1 => (bnd (f_impl_PlayTaking (r1.1.1, (r1.1.2.1, (r1.1.2.2.1, ())))) fun r2 => (bnd (f_spec_PlayTaking (r1.1.1, (r1.1.2.1, (r1.1.2.2.1, ())))) fun r3 => (cond (!beqB r2.1.2.2.1 r3.1.2.2.1)
 (some ((false, ()), ()))
 (cond (!ieq r2.1.2.1 r3.1.2.1)
 (some ((false, ()), ()))
 (bnd (f_laws_sameTexts (r2.1.1, (r3.1.1, ()))) fun r4 => (cond (!r4.1.1)
 (some ((false, ()), ()))
 (cond (!r2.1.2.2.1)
 (some (((ieq (llen r2.1.1) (0 : Int)), ()), ()))
 (bnd (f_impl_ChunksOf (r1.1.1, ())) fun r5 => (bnd (f_spec_ChunksOf (r1.1.1, ())) fun r6 => (cond (!r5.1.2.1)
 (some ((false, ()), ()))
 (cond (!r6.1.2.1)
 (some ((false, ()), ()))
 (bnd (f_laws_sameChunks (r5.1.1, (r6.1.1, ()))) fun r7 => (cond (!r7.1.1)
 (some ((false, ()), ()))
 (req (decide ((llen r5.1.1) = (llen r5.1.1)) && (decide ((0 : Int) ≤ (llen r5.1.1)) && decide ((llen r5.1.1) ≤ (68719476736 : Int)))) (loopF (c := f_laws_FnSent_l17c) (v := f_laws_FnSent_l17v) (ex := f_laws_FnSent_l17e) f_laws_FnSent_l17 _ ((r2.1.2.1, ((llen r1.1.2.1), ())), (r1.1.1, (r1.1.2.1, (r1.1.2.2.1, (r2.1.1, (r5.1.1, ())))))) (((0 : Int), ((0 : Int), ())), ((List.replicate (Int.toNat (llen r5.1.1)) (false : Bool)), ())) fun c21 o22 =>
 (loopF (c := f_laws_FnSent_l25c) (v := f_laws_FnSent_l25v) (ex := f_laws_FnSent_l25e) f_laws_FnSent_l25 _ ((c21.1.1, (o22.1.1, ((llen o22.2.1), ()))), (c21.2.1, (c21.2.2.2.2.1, (o22.2.1, ())))) ((true, ((0 : Int), ())), ()) fun c25 o26 =>
 (cond o26.1.1
 (cond (ieq c25.1.1 c25.1.2.1)
 (bnd (f_laws_sameTexts (c25.2.2.1, (c25.2.1, ()))) fun r27 => (some ((r27.1.1, ()), ())))
 (some ((false, ()), ())))
 (cond (ieq c25.1.1 c25.1.2.1)
 (some (((ieq (llen c25.2.2.1) (0 : Int)), ()), ()))
 (some ((false, ()), ()))))))))))))))))))))))
def sg6 : Sig := ⟨ins6, res6, f_laws_FnSent⟩
end Go.Proofs.Ytogmfilmfkepfaa
