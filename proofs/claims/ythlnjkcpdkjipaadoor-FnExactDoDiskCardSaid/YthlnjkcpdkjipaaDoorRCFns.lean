/- The kinds of the program's types, and what its functions compute, as typed functions. (Printed by a program of mine, wip/tools/gen.py.) -/
import Derived.Test.YthlnjkcpdkjipaaDoorEv4
set_option linter.all false
set_option maxRecDepth 100000
noncomputable section
namespace Go.Proofs.YthlnjkcpdkjipaaDoor.CC
open Go Go.Proofs.YthlnjkcpdkjipaaDoor.Ev
abbrev kdName : K := (.pair .str (.pair (.int .i64) .unit))
abbrev DName : Type := (ByteArray × (Int × Unit))
abbrev ins83 : List Pm := [.val (.sl (.sl kdName))]
abbrev res83 : List (K × Mk) := [((.sl kdName), (.o .s))]
abbrev f_slices_Concat_Name_i7c : Desc := ⟨[(0, .v (.sl (.sl kdName))), (3, .v (.int .i64)), (9, .v (.sl (.sl kdName))), (10, .v (.int .i64)), (11, .v (.int .i64)), (20, .v .bool)], []⟩
abbrev f_slices_Concat_Name_i7v : Desc := ⟨[], []⟩
abbrev f_slices_Concat_Name_i7e : List (Ek × Desc) := [(.norm, ⟨[], []⟩)]
def f_slices_Concat_Name_i7 (R : Type) (c : (((List (List DName)) × Int × (List (List DName)) × Int × Int × Bool × Unit) × Unit)) (v : (Unit × Unit)) (kk : (((List (List DName)) × Int × (List (List DName)) × Int × Int × Bool × Unit) × Unit) → (Unit × Unit) → Option R) : Option R :=
 (cond c.1.2.2.2.2.2.1
 none
 (kk ((c.1.1, (c.1.2.1, (c.1.2.2.1, (c.1.2.2.2.1, (c.1.2.2.2.2.1, (c.1.2.2.2.2.2.1, ())))))), ()) ((), ())))
abbrev f_slices_Concat_Name_l3c : Desc := ⟨[], []⟩
abbrev f_slices_Concat_Name_l3v : Desc := ⟨[(0, .v (.sl (.sl kdName))), (3, .v (.int .i64)), (9, .v (.sl (.sl kdName))), (10, .v (.int .i64)), (11, .v (.int .i64))], []⟩
abbrev f_slices_Concat_Name_l3e : List (Ek × Desc) := [(.exit 0, ⟨[(0, .v (.sl (.sl kdName))), (3, .v (.int .i64))], []⟩)]
def f_slices_Concat_Name_l3 (R : Type) (c : (Unit × Unit)) (v : (((List (List DName)) × Int × (List (List DName)) × Int × Int × Unit) × Unit)) (kk : (Unit × Unit) → ((((List (List DName)) × Int × (List (List DName)) × Int × Int × Unit) × Unit) ⊕ (((List (List DName)) × Int × Unit) × Unit)) → Option R) : Option R :=
 (cond (ilt v.1.2.2.2.2.1 v.1.2.2.2.1)
 (getO v.1.2.2.1 v.1.2.2.2.2.1 fun v1 => (f_slices_Concat_Name_i7 _ ((v.1.1, ((iadd .i64 v.1.2.1 (llen v1)), (v.1.2.2.1, (v.1.2.2.2.1, (v.1.2.2.2.2.1, ((ilt (iadd .i64 v.1.2.1 (llen v1)) (0 : Int)), ())))))), ()) ((), ()) fun c2 o3 =>
 (kk ((), ()) (.inl ((c2.1.1, (c2.1.2.1, (c2.1.2.2.1, (c2.1.2.2.2.1, ((iadd .i64 c2.1.2.2.2.2.1 (1 : Int)), ()))))), ())))))
 (kk ((), ()) (.inr ((v.1.1, (v.1.2.1, ())), ()))))
abbrev f_slices_Concat_Name_l11c : Desc := ⟨[(6, .al 6 []), (25, .v (.sl (.sl kdName))), (26, .v (.int .i64))], []⟩
abbrev f_slices_Concat_Name_l11v : Desc := ⟨[(27, .v (.int .i64))], [(6, ⟨(.sl kdName), (.o .s), false⟩)]⟩
abbrev f_slices_Concat_Name_l11e : List (Ek × Desc) := [(.exit 2, ⟨[], [(6, ⟨(.sl kdName), (.o .s), false⟩)]⟩)]
def f_slices_Concat_Name_l11 (R : Type) (c : (((List (List DName)) × Int × Unit) × Unit)) (v : ((Int × Unit) × ((List DName) × Unit))) (kk : (((List (List DName)) × Int × Unit) × Unit) → (((Int × Unit) × ((List DName) × Unit)) ⊕ (Unit × ((List DName) × Unit))) → Option R) : Option R :=
 (cond (ilt v.1.1 c.1.2.1)
 (getO c.1.1 v.1.1 fun v7 => (req (decide (List.length v.2.1 + List.length v7 ≤ 17179869184)) (kk ((c.1.1, (c.1.2.1, ())), ()) (.inl (((iadd .i64 v.1.1 (1 : Int)), ()), ((v.2.1 ++ v7), ()))))))
 (kk ((c.1.1, (c.1.2.1, ())), ()) (.inr ((), (v.2.1, ())))))
def f_slices_Concat_Name (x : ((List (List DName)) × Unit)) : Option (((List DName) × Unit) × Unit) :=
 (loopF (c := f_slices_Concat_Name_l3c) (v := f_slices_Concat_Name_l3v) (ex := f_slices_Concat_Name_l3e) f_slices_Concat_Name_l3 _ ((), ()) ((x.1, ((0 : Int), (x.1, ((llen x.1), ((0 : Int), ()))))), ()) fun c4 o5 =>
 (bnd ((f_slices_Grow kdName) ([], (o5.1.2.1, ()))) fun r6 => (loopF (c := f_slices_Concat_Name_l11c) (v := f_slices_Concat_Name_l11v) (ex := f_slices_Concat_Name_l11e) f_slices_Concat_Name_l11 _ ((o5.1.1, ((llen o5.1.1), ())), ()) (((0 : Int), ()), (r6.1.1, ())) fun c8 o9 =>
 (some ((o9.2.1, ()), ())))))
def sg83 : Sig := ⟨ins83, res83, f_slices_Concat_Name⟩
end Go.Proofs.YthlnjkcpdkjipaaDoor.CC
