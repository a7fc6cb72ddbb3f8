/- The kinds of the program's types, and what its functions compute, as typed functions. (Printed by a program of mine, wip/tools/gen.py.) -/
import Derived.Test.YtogmfilmfkepfaaEv4
set_option linter.all false
set_option maxRecDepth 100000
noncomputable section
namespace Go.Proofs.Ytogmfilmfkepfaa
open Go Go.Proofs.Ytogmfilmfkepfaa.Ev
abbrev kdCommand : K := (.pair (.int .i64) (.pair (.int .i64) (.pair (.int .i64) (.pair .str (.pair .str (.pair .str .unit))))))
abbrev DCommand : Type := (Int × (Int × (Int × (ByteArray × (ByteArray × (ByteArray × Unit))))))
abbrev kdPair : K := (.pair .str (.pair .str .unit))
abbrev DPair : Type := (ByteArray × (ByteArray × Unit))
abbrev kdReply : K := (.pair (.int .i64) (.pair .str .unit))
abbrev DReply : Type := (Int × (ByteArray × Unit))
abbrev kdSession : K := (.pair (.int .i64) (.pair (.int .i64) (.pair kdReply .unit)))
abbrev DSession : Type := (Int × (Int × (DReply × Unit)))
abbrev kdKvState : K := (.pair (.sl kdPair) (.pair (.sl kdSession) .unit))
abbrev DKvState : Type := ((List DPair) × ((List DSession) × Unit))
abbrev kdLCommand : K := kdCommand
abbrev DLCommand : Type := DCommand
abbrev ins49 : List Pm := [.val kdCommand, .val (.int .i64)]
abbrev res49 : List (K × Mk) := [((.int .i64), .s)]
def f_laws_szCommand (x : (DCommand × Int × Unit)) : Option ((Int × Unit) × Unit) :=
 (cond (ilt (isub .i64 x.2.1 (slen x.1.2.2.2.1)) (0 : Int))
 (some (((-1 : Int), ()), ()))
 (cond (ilt (isub .i64 (isub .i64 x.2.1 (slen x.1.2.2.2.1)) (slen x.1.2.2.2.2.1)) (0 : Int))
 (some (((-1 : Int), ()), ()))
 (cond (ilt (isub .i64 (isub .i64 (isub .i64 x.2.1 (slen x.1.2.2.2.1)) (slen x.1.2.2.2.2.1)) (slen x.1.2.2.2.2.2.1)) (0 : Int))
 (some (((-1 : Int), ()), ()))
 (some (((isub .i64 (isub .i64 (isub .i64 x.2.1 (slen x.1.2.2.2.1)) (slen x.1.2.2.2.2.1)) (slen x.1.2.2.2.2.2.1)), ()), ())))))
def sg49 : Sig := ⟨ins49, res49, f_laws_szCommand⟩
abbrev ins8 : List Pm := [.val (.sl kdCommand), .val (.int .i64)]
abbrev res8 : List (K × Mk) := [((.int .i64), .s)]
abbrev f_laws_szCommandS_l5c : Desc := ⟨[(0, .v (.sl kdCommand))], []⟩
abbrev f_laws_szCommandS_l5v : Desc := ⟨[(1, .v (.int .i64)), (5, .v (.int .i64))], []⟩
abbrev f_laws_szCommandS_l5e : List (Ek × Desc) := [(.ret, ⟨[(4, .v (.int .i64))], []⟩), (.exit 0, ⟨[(1, .v (.int .i64))], []⟩)]
def f_laws_szCommandS_l5 (R : Type) (c : (((List DCommand) × Unit) × Unit)) (v : ((Int × Int × Unit) × Unit)) (kk : (((List DCommand) × Unit) × Unit) → (((Int × Int × Unit) × Unit) ⊕ (((Int × Unit) × Unit) ⊕ ((Int × Unit) × Unit))) → Option R) : Option R :=
 (cond (ilt v.1.2.1 (llen c.1.1))
 (getO c.1.1 v.1.2.1 fun v1 => (bnd (f_laws_szCommand (v1, (v.1.1, ()))) fun r2 => (cond (ilt r2.1.1 (0 : Int))
 (kk ((c.1.1, ()), ()) (.inr (.inl (((-1 : Int), ()), ()))))
 (kk ((c.1.1, ()), ()) (.inl ((r2.1.1, ((iadd .i64 v.1.2.1 (1 : Int)), ())), ()))))))
 (kk ((c.1.1, ()), ()) (.inr (.inr ((v.1.1, ()), ())))))
def f_laws_szCommandS (x : ((List DCommand) × Int × Unit)) : Option ((Int × Unit) × Unit) :=
 (cond (ilt (isub .i64 x.2.1 (llen x.1)) (0 : Int))
 (some (((-1 : Int), ()), ()))
 (loopF (c := f_laws_szCommandS_l5c) (v := f_laws_szCommandS_l5v) (ex := f_laws_szCommandS_l5e) f_laws_szCommandS_l5 _ ((x.1, ()), ()) (((isub .i64 x.2.1 (llen x.1)), ((0 : Int), ())), ()) fun c3 o4 =>
 (match o4 with
 | .inl y5 => (some ((y5.1.1, ()), ()))
 | .inr z6 => (some ((z6.1.1, ()), ())))))
def sg8 : Sig := ⟨ins8, res8, f_laws_szCommandS⟩
abbrev ins52 : List Pm := [.val kdCommand]
abbrev res52 : List (K × Mk) := [(kdCommand, .s)]
def f_laws_toCommand (x : (DCommand × Unit)) : Option ((DCommand × Unit) × Unit) :=
 (some (((x.1.1, (x.1.2.1, (x.1.2.2.1, (x.1.2.2.2.1, (x.1.2.2.2.2.1, (x.1.2.2.2.2.2.1, ())))))), ()), ()))
def sg52 : Sig := ⟨ins52, res52, f_laws_toCommand⟩
abbrev ins10 : List Pm := [.val (.sl kdCommand)]
abbrev res10 : List (K × Mk) := [((.sl kdCommand), (.o .s))]
abbrev f_laws_toCommandS_l3c : Desc := ⟨[(0, .v (.sl kdCommand)), (3, .al 3 [])], []⟩
abbrev f_laws_toCommandS_l3v : Desc := ⟨[(4, .v (.int .i64))], [(3, ⟨(.sl kdCommand), (.o .s), false⟩)]⟩
abbrev f_laws_toCommandS_l3e : List (Ek × Desc) := [(.exit 0, ⟨[], [(3, ⟨(.sl kdCommand), (.o .s), false⟩)]⟩)]
def f_laws_toCommandS_l3 (R : Type) (c : (((List DCommand) × Unit) × Unit)) (v : ((Int × Unit) × ((List DCommand) × Unit))) (kk : (((List DCommand) × Unit) × Unit) → (((Int × Unit) × ((List DCommand) × Unit)) ⊕ (Unit × ((List DCommand) × Unit))) → Option R) : Option R :=
 (cond (ilt v.1.1 (llen c.1.1))
 (getO c.1.1 v.1.1 fun v1 => (bnd (f_laws_toCommand (v1, ())) fun r2 => (getO v.2.1 v.1.1 fun _ => (bnd (v.2.1[(Int.toNat v.1.1)]?) fun v4 => (kk ((c.1.1, ()), ()) (.inl (((iadd .i64 v.1.1 (1 : Int)), ()), ((List.set v.2.1 (Int.toNat v.1.1) r2.1.1), ()))))))))
 (kk ((c.1.1, ()), ()) (.inr ((), (v.2.1, ())))))
def f_laws_toCommandS (x : ((List DCommand) × Unit)) : Option (((List DCommand) × Unit) × Unit) :=
 (req (decide ((llen x.1) = (llen x.1)) && (decide ((0 : Int) ≤ (llen x.1)) && decide ((llen x.1) ≤ (68719476736 : Int)))) (loopF (c := f_laws_toCommandS_l3c) (v := f_laws_toCommandS_l3v) (ex := f_laws_toCommandS_l3e) f_laws_toCommandS_l3 _ ((x.1, ()), ()) (((0 : Int), ()), ((List.replicate (Int.toNat (llen x.1)) (((0 : Int), ((0 : Int), ((0 : Int), ((⟨#[]⟩ : ByteArray), ((⟨#[]⟩ : ByteArray), ((⟨#[]⟩ : ByteArray), ())))))) : DCommand)), ())) fun c5 o6 =>
 (some ((o6.2.1, ()), ()))))
def sg10 : Sig := ⟨ins10, res10, f_laws_toCommandS⟩
abbrev ins103 : List Pm := [.val (.sl kdSession), .val (.int .i64)]
abbrev res103 : List (K × Mk) := [((.int .i64), .s), (.bool, .s)]
abbrev f_spec_l14Session_l2c : Desc := ⟨[(0, .v (.sl kdSession)), (1, .v (.int .i64))], []⟩
abbrev f_spec_l14Session_l2v : Desc := ⟨[(6, .v (.int .i64))], []⟩
abbrev f_spec_l14Session_l2e : List (Ek × Desc) := [(.exit 0, ⟨[(6, .v (.int .i64))], []⟩)]
def f_spec_l14Session_l2 (R : Type) (c : (((List DSession) × Int × Unit) × Unit)) (v : ((Int × Unit) × Unit)) (kk : (((List DSession) × Int × Unit) × Unit) → (((Int × Unit) × Unit) ⊕ ((Int × Unit) × Unit)) → Option R) : Option R :=
 (cond (ilt v.1.1 (llen c.1.1))
 (getO c.1.1 v.1.1 fun v1 => (cond (ilt v1.1 c.1.2.1)
 (kk ((c.1.1, (c.1.2.1, ())), ()) (.inl (((iadd .i64 v.1.1 (1 : Int)), ()), ())))
 (kk ((c.1.1, (c.1.2.1, ())), ()) (.inr ((v.1.1, ()), ())))))
 (kk ((c.1.1, (c.1.2.1, ())), ()) (.inr ((v.1.1, ()), ()))))
def f_spec_l14Session (x : ((List DSession) × Int × Unit)) : Option ((Int × Bool × Unit) × Unit) :=
 (loopF (c := f_spec_l14Session_l2c) (v := f_spec_l14Session_l2v) (ex := f_spec_l14Session_l2e) f_spec_l14Session_l2 _ ((x.1, (x.2.1, ())), ()) (((0 : Int), ()), ()) fun c2 o3 =>
 (cond (ilt o3.1.1 (llen c2.1.1))
 (getO c2.1.1 o3.1.1 fun v4 => (some ((o3.1.1, ((ieq v4.1 c2.1.2.1), ())), ())))
 (some ((o3.1.1, (false, ())), ()))))
def sg103 : Sig := ⟨ins103, res103, f_spec_l14Session⟩
abbrev ins86 : List Pm := [.val (.int .i64), .val (.int .i64), .val (.int .i64)]
abbrev res86 : List (K × Mk) := [(.bool, .s)]
def f_spec_l1In (x : (Int × Int × Int × Unit)) : Option ((Bool × Unit) × Unit) :=
 (cond (ile x.2.1 x.1)
 (some (((ile x.1 x.2.2.1), ()), ()))
 (some ((false, ()), ())))
def sg86 : Sig := ⟨ins86, res86, f_spec_l1In⟩
abbrev ins111 : List Pm := [.val .str]
abbrev res111 : List (K × Mk) := [(.bool, .s)]
def f_spec_l4Key (x : (ByteArray × Unit)) : Option ((Bool × Unit) × Unit) :=
 (bnd (f_spec_l1In ((slen x.1), ((1 : Int), ((16 : Int), ())))) fun r1 => (some ((r1.1.1, ()), ())))
def sg111 : Sig := ⟨ins111, res111, f_spec_l4Key⟩
abbrev ins61 : List Pm := [.val kdCommand]
abbrev res61 : List (K × Mk) := [(.bool, .s)]
def f_spec_GoodCommand (x : (DCommand × Unit)) : Option ((Bool × Unit) × Unit) :=
 (bnd (f_spec_l1In (x.1.1, ((0 : Int), ((99 : Int), ())))) fun r1 => (cond (!r1.1.1)
 (some ((false, ()), ()))
 (bnd (f_spec_l1In (x.1.2.1, ((1 : Int), ((1000000 : Int), ())))) fun r2 => (cond (!r2.1.1)
 (some ((false, ()), ()))
 (bnd (f_spec_l1In (x.1.2.2.1, ((1 : Int), ((4 : Int), ())))) fun r3 => (cond (!r3.1.1)
 (some ((false, ()), ()))
 (bnd (f_spec_l4Key (x.1.2.2.2.1, ())) fun r4 => (cond (!r4.1.1)
 (some ((false, ()), ()))
 (cond (ilt (40 : Int) (slen x.1.2.2.2.2.1))
 (some ((false, ()), ()))
 (cond (ilt (40 : Int) (slen x.1.2.2.2.2.2.1))
 (some ((false, ()), ()))
 (cond (seq x.1.2.2.2.2.1 (⟨#[]⟩ : ByteArray))
 (cond (seq x.1.2.2.2.2.2.1 (⟨#[]⟩ : ByteArray))
 (some ((true, ()), ()))
 (some (((ieq x.1.2.2.1 (4 : Int)), ()), ())))
 (cond (ieq x.1.2.2.1 (2 : Int))
 (cond (seq x.1.2.2.2.2.2.1 (⟨#[]⟩ : ByteArray))
 (some ((true, ()), ()))
 (some (((ieq x.1.2.2.1 (4 : Int)), ()), ())))
 (cond (ieq x.1.2.2.1 (4 : Int))
 (cond (seq x.1.2.2.2.2.2.1 (⟨#[]⟩ : ByteArray))
 (some ((true, ()), ()))
 (some (((ieq x.1.2.2.1 (4 : Int)), ()), ())))
 (some ((false, ()), ())))))))))))))))
def sg61 : Sig := ⟨ins61, res61, f_spec_GoodCommand⟩
abbrev ins140 : List Pm := [.val (.sl kdPair), .val .str]
abbrev res140 : List (K × Mk) := [((.int .i64), .s), (.bool, .s)]
abbrev f_spec_l14Cell_l2c : Desc := ⟨[(0, .v (.sl kdPair)), (1, .v .str)], []⟩
abbrev f_spec_l14Cell_l2v : Desc := ⟨[(6, .v (.int .i64))], []⟩
abbrev f_spec_l14Cell_l2e : List (Ek × Desc) := [(.exit 0, ⟨[(6, .v (.int .i64))], []⟩)]
def f_spec_l14Cell_l2 (R : Type) (c : (((List DPair) × ByteArray × Unit) × Unit)) (v : ((Int × Unit) × Unit)) (kk : (((List DPair) × ByteArray × Unit) × Unit) → (((Int × Unit) × Unit) ⊕ ((Int × Unit) × Unit)) → Option R) : Option R :=
 (cond (ilt v.1.1 (llen c.1.1))
 (getO c.1.1 v.1.1 fun v1 => (cond (slt v1.1 c.1.2.1)
 (kk ((c.1.1, (c.1.2.1, ())), ()) (.inl (((iadd .i64 v.1.1 (1 : Int)), ()), ())))
 (kk ((c.1.1, (c.1.2.1, ())), ()) (.inr ((v.1.1, ()), ())))))
 (kk ((c.1.1, (c.1.2.1, ())), ()) (.inr ((v.1.1, ()), ()))))
def f_spec_l14Cell (x : ((List DPair) × ByteArray × Unit)) : Option ((Int × Bool × Unit) × Unit) :=
 (loopF (c := f_spec_l14Cell_l2c) (v := f_spec_l14Cell_l2v) (ex := f_spec_l14Cell_l2e) f_spec_l14Cell_l2 _ ((x.1, (x.2.1, ())), ()) (((0 : Int), ()), ()) fun c2 o3 =>
 (cond (ilt o3.1.1 (llen c2.1.1))
 (getO c2.1.1 o3.1.1 fun v4 => (some ((o3.1.1, ((seq v4.1 c2.1.2.1), ())), ())))
 (some ((o3.1.1, (false, ())), ()))))
def sg140 : Sig := ⟨ins140, res140, f_spec_l14Cell⟩
abbrev ins141 : List Pm := [.val (.sl kdPair), .val kdPair]
abbrev res141 : List (K × Mk) := [((.sl kdPair), .s)]
abbrev f_spec_l14Put_i6c : Desc := ⟨[(0, .v (.sl kdPair)), (7, .al 7 []), (24, .v .bool)], [(7, ⟨(.sl kdPair), (.o .s), false⟩)]⟩
abbrev f_spec_l14Put_i6v : Desc := ⟨[(5, .v (.int .i64))], []⟩
abbrev f_spec_l14Put_i6e : List (Ek × Desc) := [(.norm, ⟨[(5, .v (.int .i64))], []⟩)]
def f_spec_l14Put_i6 (R : Type) (c : (((List DPair) × Bool × Unit) × ((List DPair) × Unit))) (v : ((Int × Unit) × Unit)) (kk : (((List DPair) × Bool × Unit) × ((List DPair) × Unit)) → ((Int × Unit) × Unit) → Option R) : Option R :=
 (cond c.1.2.1
 (kk ((c.1.1, (c.1.2.1, ())), (c.2.1, ())) (((iadd .i64 v.1.1 (1 : Int)), ()), ()))
 (kk ((c.1.1, (c.1.2.1, ())), (c.2.1, ())) ((v.1.1, ()), ())))
def f_spec_l14Put (x : ((List DPair) × DPair × Unit)) : Option (((List DPair) × Unit) × Unit) :=
 (bnd (f_spec_l14Cell (x.1, (x.2.1.1, ()))) fun r1 => (req (decide ((0 : Int) ≤ r1.1.1) && decide (r1.1.1 ≤ ((List.length x.1) : Int))) (req (decide (List.length ([] : List DPair) + List.length (List.take ((Int.toNat r1.1.1) - (0 : Nat)) (List.drop (0 : Nat) x.1)) ≤ 17179869184)) (req (decide (List.length (([] : List DPair) ++ (List.take ((Int.toNat r1.1.1) - (0 : Nat)) (List.drop (0 : Nat) x.1))) + List.length [x.2.1] ≤ 17179869184)) (f_spec_l14Put_i6 _ ((x.1, (r1.1.2.1, ())), (((([] : List DPair) ++ (List.take ((Int.toNat r1.1.1) - (0 : Nat)) (List.drop (0 : Nat) x.1))) ++ [x.2.1]), ())) ((r1.1.1, ()), ()) fun c2 o3 =>
 (req (decide ((0 : Int) ≤ o3.1.1) && decide (o3.1.1 ≤ ((List.length c2.1.1) : Int))) (req (decide (List.length c2.2.1 + List.length (List.take ((List.length c2.1.1) - (Int.toNat o3.1.1)) (List.drop (Int.toNat o3.1.1) c2.1.1)) ≤ 17179869184)) (some (((c2.2.1 ++ (List.take ((List.length c2.1.1) - (Int.toNat o3.1.1)) (List.drop (Int.toNat o3.1.1) c2.1.1))), ()), ())))))))))
def sg141 : Sig := ⟨ins141, res141, f_spec_l14Put⟩
abbrev ins104 : List Pm := [.val (.sl kdPair), .val kdCommand]
abbrev res104 : List (K × Mk) := [((.sl kdPair), .s), (kdReply, .s)]
def f_spec_l14Do (x : ((List DPair) × DCommand × Unit)) : Option (((List DPair) × DReply × Unit) × Unit) :=
 (bnd (f_spec_l14Cell (x.1, (x.2.1.2.2.2.1, ()))) fun r1 => (cond (ieq x.2.1.2.2.1 (2 : Int))
 (cond (!r1.1.2.1)
 (cond (ieq (llen x.1) (40 : Int))
 (some ((x.1, (((4 : Int), ((⟨#[]⟩ : ByteArray), ())), ())), ()))
 (bnd (f_spec_l14Put (x.1, ((x.2.1.2.2.2.1, (x.2.1.2.2.2.2.1, ())), ()))) fun r2 => (some ((r2.1.1, (((0 : Int), ((⟨#[]⟩ : ByteArray), ())), ())), ()))))
 (bnd (f_spec_l14Put (x.1, ((x.2.1.2.2.2.1, (x.2.1.2.2.2.2.1, ())), ()))) fun r3 => (some ((r3.1.1, (((0 : Int), ((⟨#[]⟩ : ByteArray), ())), ())), ()))))
 (cond (!r1.1.2.1)
 (some ((x.1, (((1 : Int), ((⟨#[]⟩ : ByteArray), ())), ())), ()))
 (getO x.1 r1.1.1 fun v4 => (cond (ieq x.2.1.2.2.1 (1 : Int))
 (some ((x.1, (((0 : Int), (v4.2.1, ())), ())), ()))
 (cond (ieq x.2.1.2.2.1 (3 : Int))
 (req (decide ((0 : Int) ≤ r1.1.1) && decide (r1.1.1 ≤ ((List.length x.1) : Int))) (req (decide (List.length (List.take ((Int.toNat r1.1.1) - (0 : Nat)) (List.drop (0 : Nat) x.1)) ≤ 17179869184)) (req (decide ((0 : Int) ≤ (iadd .i64 r1.1.1 (1 : Int))) && decide ((iadd .i64 r1.1.1 (1 : Int)) ≤ ((List.length x.1) : Int))) (req (decide (List.length (List.take ((Int.toNat r1.1.1) - (0 : Nat)) (List.drop (0 : Nat) x.1)) + List.length (List.take ((List.length x.1) - (Int.toNat (iadd .i64 r1.1.1 (1 : Int)))) (List.drop (Int.toNat (iadd .i64 r1.1.1 (1 : Int))) x.1)) ≤ 17179869184)) (some ((((List.take ((Int.toNat r1.1.1) - (0 : Nat)) (List.drop (0 : Nat) x.1)) ++ (List.take ((List.length x.1) - (Int.toNat (iadd .i64 r1.1.1 (1 : Int)))) (List.drop (Int.toNat (iadd .i64 r1.1.1 (1 : Int))) x.1))), (((0 : Int), (v4.2.1, ())), ())), ()))))))
 (cond (!seq v4.2.1 x.2.1.2.2.2.2.2.1)
 (some ((x.1, (((3 : Int), (v4.2.1, ())), ())), ()))
 (bnd (f_spec_l14Put (x.1, ((x.2.1.2.2.2.1, (x.2.1.2.2.2.2.1, ())), ()))) fun r5 => (some ((r5.1.1, (((0 : Int), ((⟨#[]⟩ : ByteArray), ())), ())), ()))))))))))
def sg104 : Sig := ⟨ins104, res104, f_spec_l14Do⟩
abbrev ins50 : List Pm := [.val kdKvState, .val kdCommand]
abbrev res50 : List (K × Mk) := [(kdKvState, .s), (kdReply, .s)]
abbrev f_spec_l14Apply_i14c : Desc := ⟨[(2, .ptr 2 []), (4, .ptr 4 []), (5, .ptr 5 []), (9, .ptr 9 []), (10, .al 10 []), (94, .v .bool)], [(2, ⟨kdKvState, .s, true⟩), (4, ⟨kdKvState, (.pr (.o .s) (.pr (.o .s) .s)), true⟩), (5, ⟨kdReply, .s, true⟩), (9, ⟨kdReply, .s, true⟩), (10, ⟨(.sl kdSession), (.o .s), false⟩)]⟩
abbrev f_spec_l14Apply_i14v : Desc := ⟨[(6, .v (.int .i64))], []⟩
abbrev f_spec_l14Apply_i14e : List (Ek × Desc) := [(.norm, ⟨[(6, .v (.int .i64))], []⟩)]
def f_spec_l14Apply_i14 (R : Type) (c : ((Bool × Unit) × (DKvState × DKvState × DReply × DReply × (List DSession) × Unit))) (v : ((Int × Unit) × Unit)) (kk : ((Bool × Unit) × (DKvState × DKvState × DReply × DReply × (List DSession) × Unit)) → ((Int × Unit) × Unit) → Option R) : Option R :=
 (cond c.1.1
 (kk ((c.1.1, ()), (c.2.1, (c.2.2.1, (c.2.2.2.1, (c.2.2.2.2.1, (c.2.2.2.2.2.1, ())))))) (((iadd .i64 v.1.1 (1 : Int)), ()), ()))
 (kk ((c.1.1, ()), (c.2.1, (c.2.2.1, (c.2.2.2.1, (c.2.2.2.2.1, (c.2.2.2.2.2.1, ())))))) ((v.1.1, ()), ())))
def f_spec_l14Apply (x : (DKvState × DCommand × Unit)) : Option ((DKvState × DReply × Unit) × Unit) :=
 (bnd (f_spec_l14Session (x.1.2.1, (x.2.1.1, ()))) fun r1 => (bnd (f_spec_GoodCommand (x.2.1, ())) fun r2 => (cond (!r2.1.1)
 (some ((x.1, (((4 : Int), ((⟨#[]⟩ : ByteArray), ())), ())), ()))
 (cond (!r1.1.2.1)
 (cond (ieq (llen x.1.2.1) (12 : Int))
 (some ((x.1, (((4 : Int), ((⟨#[]⟩ : ByteArray), ())), ())), ()))
 (cond r1.1.2.1
 (getO x.1.2.1 r1.1.1 fun v3 => (cond (ieq v3.2.1 x.2.1.2.1)
 (getO x.1.2.1 r1.1.1 fun v4 => (some ((x.1, (v4.2.2.1, ())), ())))
 (cond r1.1.2.1
 (getO x.1.2.1 r1.1.1 fun v5 => (cond (ilt x.2.1.2.1 v5.2.1)
 (some ((x.1, (((2 : Int), ((⟨#[]⟩ : ByteArray), ())), ())), ()))
 (bnd (f_spec_l14Do (x.1.1, (x.2.1, ()))) fun r6 => (req (decide ((0 : Int) ≤ r1.1.1) && decide (r1.1.1 ≤ ((List.length x.1.2.1) : Int))) (req (decide (List.length ([] : List DSession) + List.length (List.take ((Int.toNat r1.1.1) - (0 : Nat)) (List.drop (0 : Nat) x.1.2.1)) ≤ 17179869184)) (req (decide (List.length (([] : List DSession) ++ (List.take ((Int.toNat r1.1.1) - (0 : Nat)) (List.drop (0 : Nat) x.1.2.1))) + List.length [(x.2.1.1, (x.2.1.2.1, (r6.1.2.1, ())))] ≤ 17179869184)) (f_spec_l14Apply_i14 _ ((r1.1.2.1, ()), ((r6.1.1, x.1.2), ((([] : List DPair), (([] : List DSession), ())), (((0 : Int), ((⟨#[]⟩ : ByteArray), ())), (r6.1.2.1, (((([] : List DSession) ++ (List.take ((Int.toNat r1.1.1) - (0 : Nat)) (List.drop (0 : Nat) x.1.2.1))) ++ [(x.2.1.1, (x.2.1.2.1, (r6.1.2.1, ())))]), ())))))) ((r1.1.1, ()), ()) fun c7 o8 =>
 (req (decide ((0 : Int) ≤ o8.1.1) && decide (o8.1.1 ≤ ((List.length c7.2.1.2.1) : Int))) (req (decide (List.length c7.2.2.2.2.2.1 + List.length (List.take ((List.length c7.2.1.2.1) - (Int.toNat o8.1.1)) (List.drop (Int.toNat o8.1.1) c7.2.1.2.1)) ≤ 17179869184)) (some (((c7.2.1.1, ((c7.2.2.2.2.2.1 ++ (List.take ((List.length c7.2.1.2.1) - (Int.toNat o8.1.1)) (List.drop (Int.toNat o8.1.1) c7.2.1.2.1))), c7.2.1.2.2)), (c7.2.2.2.2.1, ())), ())))))))))))
 (bnd (f_spec_l14Do (x.1.1, (x.2.1, ()))) fun r9 => (req (decide ((0 : Int) ≤ r1.1.1) && decide (r1.1.1 ≤ ((List.length x.1.2.1) : Int))) (req (decide (List.length ([] : List DSession) + List.length (List.take ((Int.toNat r1.1.1) - (0 : Nat)) (List.drop (0 : Nat) x.1.2.1)) ≤ 17179869184)) (req (decide (List.length (([] : List DSession) ++ (List.take ((Int.toNat r1.1.1) - (0 : Nat)) (List.drop (0 : Nat) x.1.2.1))) + List.length [(x.2.1.1, (x.2.1.2.1, (r9.1.2.1, ())))] ≤ 17179869184)) (f_spec_l14Apply_i14 _ ((r1.1.2.1, ()), ((r9.1.1, x.1.2), ((([] : List DPair), (([] : List DSession), ())), (((0 : Int), ((⟨#[]⟩ : ByteArray), ())), (r9.1.2.1, (((([] : List DSession) ++ (List.take ((Int.toNat r1.1.1) - (0 : Nat)) (List.drop (0 : Nat) x.1.2.1))) ++ [(x.2.1.1, (x.2.1.2.1, (r9.1.2.1, ())))]), ())))))) ((r1.1.1, ()), ()) fun c10 o11 =>
 (req (decide ((0 : Int) ≤ o11.1.1) && decide (o11.1.1 ≤ ((List.length c10.2.1.2.1) : Int))) (req (decide (List.length c10.2.2.2.2.2.1 + List.length (List.take ((List.length c10.2.1.2.1) - (Int.toNat o11.1.1)) (List.drop (Int.toNat o11.1.1) c10.2.1.2.1)) ≤ 17179869184)) (some (((c10.2.1.1, ((c10.2.2.2.2.2.1 ++ (List.take ((List.length c10.2.1.2.1) - (Int.toNat o11.1.1)) (List.drop (Int.toNat o11.1.1) c10.2.1.2.1))), c10.2.1.2.2)), (c10.2.2.2.2.1, ())), ()))))))))))))
 (cond r1.1.2.1
 (getO x.1.2.1 r1.1.1 fun v12 => (cond (ilt x.2.1.2.1 v12.2.1)
 (some ((x.1, (((2 : Int), ((⟨#[]⟩ : ByteArray), ())), ())), ()))
 (bnd (f_spec_l14Do (x.1.1, (x.2.1, ()))) fun r13 => (req (decide ((0 : Int) ≤ r1.1.1) && decide (r1.1.1 ≤ ((List.length x.1.2.1) : Int))) (req (decide (List.length ([] : List DSession) + List.length (List.take ((Int.toNat r1.1.1) - (0 : Nat)) (List.drop (0 : Nat) x.1.2.1)) ≤ 17179869184)) (req (decide (List.length (([] : List DSession) ++ (List.take ((Int.toNat r1.1.1) - (0 : Nat)) (List.drop (0 : Nat) x.1.2.1))) + List.length [(x.2.1.1, (x.2.1.2.1, (r13.1.2.1, ())))] ≤ 17179869184)) (f_spec_l14Apply_i14 _ ((r1.1.2.1, ()), ((r13.1.1, x.1.2), ((([] : List DPair), (([] : List DSession), ())), (((0 : Int), ((⟨#[]⟩ : ByteArray), ())), (r13.1.2.1, (((([] : List DSession) ++ (List.take ((Int.toNat r1.1.1) - (0 : Nat)) (List.drop (0 : Nat) x.1.2.1))) ++ [(x.2.1.1, (x.2.1.2.1, (r13.1.2.1, ())))]), ())))))) ((r1.1.1, ()), ()) fun c14 o15 =>
 (req (decide ((0 : Int) ≤ o15.1.1) && decide (o15.1.1 ≤ ((List.length c14.2.1.2.1) : Int))) (req (decide (List.length c14.2.2.2.2.2.1 + List.length (List.take ((List.length c14.2.1.2.1) - (Int.toNat o15.1.1)) (List.drop (Int.toNat o15.1.1) c14.2.1.2.1)) ≤ 17179869184)) (some (((c14.2.1.1, ((c14.2.2.2.2.2.1 ++ (List.take ((List.length c14.2.1.2.1) - (Int.toNat o15.1.1)) (List.drop (Int.toNat o15.1.1) c14.2.1.2.1))), c14.2.1.2.2)), (c14.2.2.2.2.1, ())), ())))))))))))
 (bnd (f_spec_l14Do (x.1.1, (x.2.1, ()))) fun r16 => (req (decide ((0 : Int) ≤ r1.1.1) && decide (r1.1.1 ≤ ((List.length x.1.2.1) : Int))) (req (decide (List.length ([] : List DSession) + List.length (List.take ((Int.toNat r1.1.1) - (0 : Nat)) (List.drop (0 : Nat) x.1.2.1)) ≤ 17179869184)) (req (decide (List.length (([] : List DSession) ++ (List.take ((Int.toNat r1.1.1) - (0 : Nat)) (List.drop (0 : Nat) x.1.2.1))) + List.length [(x.2.1.1, (x.2.1.2.1, (r16.1.2.1, ())))] ≤ 17179869184)) (f_spec_l14Apply_i14 _ ((r1.1.2.1, ()), ((r16.1.1, x.1.2), ((([] : List DPair), (([] : List DSession), ())), (((0 : Int), ((⟨#[]⟩ : ByteArray), ())), (r16.1.2.1, (((([] : List DSession) ++ (List.take ((Int.toNat r1.1.1) - (0 : Nat)) (List.drop (0 : Nat) x.1.2.1))) ++ [(x.2.1.1, (x.2.1.2.1, (r16.1.2.1, ())))]), ())))))) ((r1.1.1, ()), ()) fun c17 o18 =>
 (req (decide ((0 : Int) ≤ o18.1.1) && decide (o18.1.1 ≤ ((List.length c17.2.1.2.1) : Int))) (req (decide (List.length c17.2.2.2.2.2.1 + List.length (List.take ((List.length c17.2.1.2.1) - (Int.toNat o18.1.1)) (List.drop (Int.toNat o18.1.1) c17.2.1.2.1)) ≤ 17179869184)) (some (((c17.2.1.1, ((c17.2.2.2.2.2.1 ++ (List.take ((List.length c17.2.1.2.1) - (Int.toNat o18.1.1)) (List.drop (Int.toNat o18.1.1) c17.2.1.2.1))), c17.2.1.2.2)), (c17.2.2.2.2.1, ())), ()))))))))))))
 (cond r1.1.2.1
 (getO x.1.2.1 r1.1.1 fun v19 => (cond (ieq v19.2.1 x.2.1.2.1)
 (getO x.1.2.1 r1.1.1 fun v20 => (some ((x.1, (v20.2.2.1, ())), ())))
 (cond r1.1.2.1
 (getO x.1.2.1 r1.1.1 fun v21 => (cond (ilt x.2.1.2.1 v21.2.1)
 (some ((x.1, (((2 : Int), ((⟨#[]⟩ : ByteArray), ())), ())), ()))
 (bnd (f_spec_l14Do (x.1.1, (x.2.1, ()))) fun r22 => (req (decide ((0 : Int) ≤ r1.1.1) && decide (r1.1.1 ≤ ((List.length x.1.2.1) : Int))) (req (decide (List.length ([] : List DSession) + List.length (List.take ((Int.toNat r1.1.1) - (0 : Nat)) (List.drop (0 : Nat) x.1.2.1)) ≤ 17179869184)) (req (decide (List.length (([] : List DSession) ++ (List.take ((Int.toNat r1.1.1) - (0 : Nat)) (List.drop (0 : Nat) x.1.2.1))) + List.length [(x.2.1.1, (x.2.1.2.1, (r22.1.2.1, ())))] ≤ 17179869184)) (f_spec_l14Apply_i14 _ ((r1.1.2.1, ()), ((r22.1.1, x.1.2), ((([] : List DPair), (([] : List DSession), ())), (((0 : Int), ((⟨#[]⟩ : ByteArray), ())), (r22.1.2.1, (((([] : List DSession) ++ (List.take ((Int.toNat r1.1.1) - (0 : Nat)) (List.drop (0 : Nat) x.1.2.1))) ++ [(x.2.1.1, (x.2.1.2.1, (r22.1.2.1, ())))]), ())))))) ((r1.1.1, ()), ()) fun c23 o24 =>
 (req (decide ((0 : Int) ≤ o24.1.1) && decide (o24.1.1 ≤ ((List.length c23.2.1.2.1) : Int))) (req (decide (List.length c23.2.2.2.2.2.1 + List.length (List.take ((List.length c23.2.1.2.1) - (Int.toNat o24.1.1)) (List.drop (Int.toNat o24.1.1) c23.2.1.2.1)) ≤ 17179869184)) (some (((c23.2.1.1, ((c23.2.2.2.2.2.1 ++ (List.take ((List.length c23.2.1.2.1) - (Int.toNat o24.1.1)) (List.drop (Int.toNat o24.1.1) c23.2.1.2.1))), c23.2.1.2.2)), (c23.2.2.2.2.1, ())), ())))))))))))
 (bnd (f_spec_l14Do (x.1.1, (x.2.1, ()))) fun r25 => (req (decide ((0 : Int) ≤ r1.1.1) && decide (r1.1.1 ≤ ((List.length x.1.2.1) : Int))) (req (decide (List.length ([] : List DSession) + List.length (List.take ((Int.toNat r1.1.1) - (0 : Nat)) (List.drop (0 : Nat) x.1.2.1)) ≤ 17179869184)) (req (decide (List.length (([] : List DSession) ++ (List.take ((Int.toNat r1.1.1) - (0 : Nat)) (List.drop (0 : Nat) x.1.2.1))) + List.length [(x.2.1.1, (x.2.1.2.1, (r25.1.2.1, ())))] ≤ 17179869184)) (f_spec_l14Apply_i14 _ ((r1.1.2.1, ()), ((r25.1.1, x.1.2), ((([] : List DPair), (([] : List DSession), ())), (((0 : Int), ((⟨#[]⟩ : ByteArray), ())), (r25.1.2.1, (((([] : List DSession) ++ (List.take ((Int.toNat r1.1.1) - (0 : Nat)) (List.drop (0 : Nat) x.1.2.1))) ++ [(x.2.1.1, (x.2.1.2.1, (r25.1.2.1, ())))]), ())))))) ((r1.1.1, ()), ()) fun c26 o27 =>
 (req (decide ((0 : Int) ≤ o27.1.1) && decide (o27.1.1 ≤ ((List.length c26.2.1.2.1) : Int))) (req (decide (List.length c26.2.2.2.2.2.1 + List.length (List.take ((List.length c26.2.1.2.1) - (Int.toNat o27.1.1)) (List.drop (Int.toNat o27.1.1) c26.2.1.2.1)) ≤ 17179869184)) (some (((c26.2.1.1, ((c26.2.2.2.2.2.1 ++ (List.take ((List.length c26.2.1.2.1) - (Int.toNat o27.1.1)) (List.drop (Int.toNat o27.1.1) c26.2.1.2.1))), c26.2.1.2.2)), (c26.2.2.2.2.1, ())), ()))))))))))))
 (cond r1.1.2.1
 (getO x.1.2.1 r1.1.1 fun v28 => (cond (ilt x.2.1.2.1 v28.2.1)
 (some ((x.1, (((2 : Int), ((⟨#[]⟩ : ByteArray), ())), ())), ()))
 (bnd (f_spec_l14Do (x.1.1, (x.2.1, ()))) fun r29 => (req (decide ((0 : Int) ≤ r1.1.1) && decide (r1.1.1 ≤ ((List.length x.1.2.1) : Int))) (req (decide (List.length ([] : List DSession) + List.length (List.take ((Int.toNat r1.1.1) - (0 : Nat)) (List.drop (0 : Nat) x.1.2.1)) ≤ 17179869184)) (req (decide (List.length (([] : List DSession) ++ (List.take ((Int.toNat r1.1.1) - (0 : Nat)) (List.drop (0 : Nat) x.1.2.1))) + List.length [(x.2.1.1, (x.2.1.2.1, (r29.1.2.1, ())))] ≤ 17179869184)) (f_spec_l14Apply_i14 _ ((r1.1.2.1, ()), ((r29.1.1, x.1.2), ((([] : List DPair), (([] : List DSession), ())), (((0 : Int), ((⟨#[]⟩ : ByteArray), ())), (r29.1.2.1, (((([] : List DSession) ++ (List.take ((Int.toNat r1.1.1) - (0 : Nat)) (List.drop (0 : Nat) x.1.2.1))) ++ [(x.2.1.1, (x.2.1.2.1, (r29.1.2.1, ())))]), ())))))) ((r1.1.1, ()), ()) fun c30 o31 =>
 (req (decide ((0 : Int) ≤ o31.1.1) && decide (o31.1.1 ≤ ((List.length c30.2.1.2.1) : Int))) (req (decide (List.length c30.2.2.2.2.2.1 + List.length (List.take ((List.length c30.2.1.2.1) - (Int.toNat o31.1.1)) (List.drop (Int.toNat o31.1.1) c30.2.1.2.1)) ≤ 17179869184)) (some (((c30.2.1.1, ((c30.2.2.2.2.2.1 ++ (List.take ((List.length c30.2.1.2.1) - (Int.toNat o31.1.1)) (List.drop (Int.toNat o31.1.1) c30.2.1.2.1))), c30.2.1.2.2)), (c30.2.2.2.2.1, ())), ())))))))))))
 (bnd (f_spec_l14Do (x.1.1, (x.2.1, ()))) fun r32 => (req (decide ((0 : Int) ≤ r1.1.1) && decide (r1.1.1 ≤ ((List.length x.1.2.1) : Int))) (req (decide (List.length ([] : List DSession) + List.length (List.take ((Int.toNat r1.1.1) - (0 : Nat)) (List.drop (0 : Nat) x.1.2.1)) ≤ 17179869184)) (req (decide (List.length (([] : List DSession) ++ (List.take ((Int.toNat r1.1.1) - (0 : Nat)) (List.drop (0 : Nat) x.1.2.1))) + List.length [(x.2.1.1, (x.2.1.2.1, (r32.1.2.1, ())))] ≤ 17179869184)) (f_spec_l14Apply_i14 _ ((r1.1.2.1, ()), ((r32.1.1, x.1.2), ((([] : List DPair), (([] : List DSession), ())), (((0 : Int), ((⟨#[]⟩ : ByteArray), ())), (r32.1.2.1, (((([] : List DSession) ++ (List.take ((Int.toNat r1.1.1) - (0 : Nat)) (List.drop (0 : Nat) x.1.2.1))) ++ [(x.2.1.1, (x.2.1.2.1, (r32.1.2.1, ())))]), ())))))) ((r1.1.1, ()), ()) fun c33 o34 =>
 (req (decide ((0 : Int) ≤ o34.1.1) && decide (o34.1.1 ≤ ((List.length c33.2.1.2.1) : Int))) (req (decide (List.length c33.2.2.2.2.2.1 + List.length (List.take ((List.length c33.2.1.2.1) - (Int.toNat o34.1.1)) (List.drop (Int.toNat o34.1.1) c33.2.1.2.1)) ≤ 17179869184)) (some (((c33.2.1.1, ((c33.2.2.2.2.2.1 ++ (List.take ((List.length c33.2.1.2.1) - (Int.toNat o34.1.1)) (List.drop (Int.toNat o34.1.1) c33.2.1.2.1))), c33.2.1.2.2)), (c33.2.2.2.2.1, ())), ())))))))))))))))
def sg50 : Sig := ⟨ins50, res50, f_spec_l14Apply⟩
abbrev ins69 : List Pm := [.val kdKvState]
abbrev res69 : List (K × Mk) := [(kdKvState, (.pr (.o .s) (.pr (.o .s) .s)))]
def f_spec_l14Own (x : (DKvState × Unit)) : Option ((DKvState × Unit) × Unit) :=
 (req (decide (List.length x.1.1 ≤ 17179869184)) (req (decide (List.length x.1.2.1 ≤ 17179869184)) (some (((x.1.1, (x.1.2.1, x.1.2.2)), ()), ()))))
def sg69 : Sig := ⟨ins69, res69, f_spec_l14Own⟩
abbrev ins23 : List Pm := [.val (.sl kdCommand)]
abbrev res23 : List (K × Mk) := [(kdKvState, (.pr (.o .s) (.pr (.o .s) .s))), ((.sl kdReply), (.o .s)), (.bool, .s)]
abbrev f_spec_FoldCommands_l6c : Desc := ⟨[(2, .ptr 2 []), (5, .ptr 5 []), (6, .al 6 []), (16, .v (.sl kdCommand)), (17, .v (.int .i64))], [(2, ⟨kdKvState, (.pr (.o .s) (.pr (.o .s) .s)), true⟩)]⟩
abbrev f_spec_FoldCommands_l6v : Desc := ⟨[(18, .v (.int .i64))], [(5, ⟨kdKvState, .s, true⟩), (6, ⟨(.sl kdReply), (.o .s), false⟩)]⟩
abbrev f_spec_FoldCommands_l6e : List (Ek × Desc) := [(.exit 0, ⟨[], [(5, ⟨kdKvState, .s, true⟩), (6, ⟨(.sl kdReply), (.o .s), false⟩)]⟩)]
def f_spec_FoldCommands_l6 (R : Type) (c : (((List DCommand) × Int × Unit) × (DKvState × Unit))) (v : ((Int × Unit) × (DKvState × (List DReply) × Unit))) (kk : (((List DCommand) × Int × Unit) × (DKvState × Unit)) → (((Int × Unit) × (DKvState × (List DReply) × Unit)) ⊕ (Unit × (DKvState × (List DReply) × Unit))) → Option R) : Option R :=
 (cond (ilt v.1.1 c.1.2.1)
 (getO c.1.1 v.1.1 fun v1 => (bnd (f_spec_l14Apply (v.2.1, (v1, ()))) fun r2 => (req (decide (List.length v.2.2.1 + List.length [r2.1.2.1] ≤ 17179869184)) (kk ((c.1.1, (c.1.2.1, ())), (c.2.1, ())) (.inl (((iadd .i64 v.1.1 (1 : Int)), ()), (r2.1.1, ((v.2.2.1 ++ [r2.1.2.1]), ()))))))))
 (kk ((c.1.1, (c.1.2.1, ())), (c.2.1, ())) (.inr ((), (v.2.1, (v.2.2.1, ()))))))
def f_spec_FoldCommands (x : ((List DCommand) × Unit)) : Option ((DKvState × (List DReply) × Bool × Unit) × Unit) :=
 (cond (ilt (100 : Int) (llen x.1))
 (some (((([] : List DPair), (([] : List DSession), ())), (([] : List DReply), (false, ()))), ()))
 (loopF (c := f_spec_FoldCommands_l6c) (v := f_spec_FoldCommands_l6v) (ex := f_spec_FoldCommands_l6e) f_spec_FoldCommands_l6 _ ((x.1, ((llen x.1), ())), ((([] : List DPair), (([] : List DSession), ())), ())) (((0 : Int), ()), ((([] : List DPair), (([] : List DSession), ())), (([] : List DReply), ()))) fun c3 o4 =>
 (bnd (f_spec_l14Own (o4.2.1, ())) fun r5 => (some ((r5.1.1, (o4.2.2.1, (true, ()))), ())))))
def sg23 : Sig := ⟨ins23, res23, f_spec_FoldCommands⟩
abbrev ins81 : List Pm := [.val (.int .i64), .val (.int .i64), .val (.int .i64)]
abbrev res81 : List (K × Mk) := [(.bool, .s)]
def f_impl_in (x : (Int × Int × Int × Unit)) : Option ((Bool × Unit) × Unit) :=
 (cond (ile x.2.1 x.1)
 (some (((ile x.1 x.2.2.1), ()), ()))
 (some ((false, ()), ())))
def sg81 : Sig := ⟨ins81, res81, f_impl_in⟩
abbrev ins109 : List Pm := [.val .str]
abbrev res109 : List (K × Mk) := [(.bool, .s)]
def f_impl_isKey (x : (ByteArray × Unit)) : Option ((Bool × Unit) × Unit) :=
 (bnd (f_impl_in ((slen x.1), ((1 : Int), ((16 : Int), ())))) fun r1 => (some ((r1.1.1, ()), ())))
def sg109 : Sig := ⟨ins109, res109, f_impl_isKey⟩
abbrev ins110 : List Pm := [.val .str]
abbrev res110 : List (K × Mk) := [(.bool, .s)]
def f_impl_isValue (x : (ByteArray × Unit)) : Option ((Bool × Unit) × Unit) :=
 (some (((ile (slen x.1) (40 : Int)), ()), ()))
def sg110 : Sig := ⟨ins110, res110, f_impl_isValue⟩
abbrev ins58 : List Pm := [.val kdCommand]
abbrev res58 : List (K × Mk) := [(.bool, .s)]
def f_impl_GoodCommand (x : (DCommand × Unit)) : Option ((Bool × Unit) × Unit) :=
 (bnd (f_impl_in (x.1.1, ((0 : Int), ((99 : Int), ())))) fun r1 => (cond (!r1.1.1)
 (some ((false, ()), ()))
 (bnd (f_impl_in (x.1.2.1, ((1 : Int), ((1000000 : Int), ())))) fun r2 => (cond (!r2.1.1)
 (some ((false, ()), ()))
 (bnd (f_impl_in (x.1.2.2.1, ((1 : Int), ((4 : Int), ())))) fun r3 => (cond (!r3.1.1)
 (some ((false, ()), ()))
 (bnd (f_impl_isKey (x.1.2.2.2.1, ())) fun r4 => (cond (!r4.1.1)
 (some ((false, ()), ()))
 (bnd (f_impl_isValue (x.1.2.2.2.2.1, ())) fun r5 => (cond (!r5.1.1)
 (some ((false, ()), ()))
 (bnd (f_impl_isValue (x.1.2.2.2.2.2.1, ())) fun r6 => (cond (!r6.1.1)
 (some ((false, ()), ()))
 (cond (seq x.1.2.2.2.2.1 (⟨#[]⟩ : ByteArray))
 (cond (seq x.1.2.2.2.2.2.1 (⟨#[]⟩ : ByteArray))
 (some ((true, ()), ()))
 (some (((ieq x.1.2.2.1 (4 : Int)), ()), ())))
 (cond (ieq x.1.2.2.1 (2 : Int))
 (cond (seq x.1.2.2.2.2.2.1 (⟨#[]⟩ : ByteArray))
 (some ((true, ()), ()))
 (some (((ieq x.1.2.2.1 (4 : Int)), ()), ())))
 (cond (ieq x.1.2.2.1 (4 : Int))
 (cond (seq x.1.2.2.2.2.2.1 (⟨#[]⟩ : ByteArray))
 (some ((true, ()), ()))
 (some (((ieq x.1.2.2.1 (4 : Int)), ()), ())))
 (some ((false, ()), ())))))))))))))))))
def sg58 : Sig := ⟨ins58, res58, f_impl_GoodCommand⟩
abbrev ins159 : List Pm := [.val (.int .i64)]
abbrev res159 : List (K × Mk) := [(.bool, .s)]
def f_cmp_isNaN_int (x : (Int × Unit)) : Option ((Bool × Unit) × Unit) :=
 (some (((!ieq x.1 x.1), ()), ()))
def sg159 : Sig := ⟨ins159, res159, f_cmp_isNaN_int⟩
abbrev ins138 : List Pm := [.val (.int .i64), .val (.int .i64)]
abbrev res138 : List (K × Mk) := [((.int .i64), .s)]
def f_cmp_Compare_int (x : (Int × Int × Unit)) : Option ((Int × Unit) × Unit) :=
 (bnd (f_cmp_isNaN_int (x.1, ())) fun r1 => (bnd (f_cmp_isNaN_int (x.2.1, ())) fun r2 => (cond r1.1.1
 (cond r2.1.1
 (some (((0 : Int), ()), ()))
 (some (((-1 : Int), ()), ())))
 (cond r2.1.1
 (some (((1 : Int), ()), ()))
 (cond (ilt x.1 x.2.1)
 (some (((-1 : Int), ()), ()))
 (cond (ilt x.2.1 x.1)
 (some (((1 : Int), ()), ()))
 (some (((0 : Int), ()), ()))))))))
def sg138 : Sig := ⟨ins138, res138, f_cmp_Compare_int⟩
abbrev ins148 : List Pm := [.val kdSession, .val (.int .i64)]
abbrev res148 : List (K × Mk) := [((.int .i64), .s)]
def f_impl_KvState_sessionAt_1 (x : (DSession × Int × Unit)) : Option ((Int × Unit) × Unit) :=
 (bnd (f_cmp_Compare_int (x.1.1, (x.2.1, ()))) fun r1 => (some ((r1.1.1, ()), ())))
def sg148 : Sig := ⟨ins148, res148, f_impl_KvState_sessionAt_1⟩
abbrev ins147 : List Pm := [.val (.sl kdSession), .val (.int .i64), .fn [kdSession, (.int .i64)] [(.int .i64)]]
abbrev res147 : List (K × Mk) := [((.int .i64), .s), (.bool, .s)]
abbrev f_slices_BinarySearchFunc_Session_int_i6c : Desc := ⟨[(0, .v (.sl kdSession)), (1, .v (.int .i64)), (2, .fv [kdSession, (.int .i64)] [(.int .i64)]), (8, .v (.int .i64)), (11, .v (.int .i64)), (31, .v .bool)], []⟩
abbrev f_slices_BinarySearchFunc_Session_int_i6v : Desc := ⟨[(9, .v (.int .i64)), (10, .v (.int .i64))], []⟩
abbrev f_slices_BinarySearchFunc_Session_int_i6e : List (Ek × Desc) := [(.norm, ⟨[(9, .v (.int .i64)), (10, .v (.int .i64))], []⟩)]
def f_slices_BinarySearchFunc_Session_int_i6 (R : Type) (c : (((List DSession) × Int × ((DSession × Int × Unit) → Option (Int × Unit)) × Int × Int × Bool × Unit) × Unit)) (v : ((Int × Int × Unit) × Unit)) (kk : (((List DSession) × Int × ((DSession × Int × Unit) → Option (Int × Unit)) × Int × Int × Bool × Unit) × Unit) → ((Int × Int × Unit) × Unit) → Option R) : Option R :=
 (cond c.1.2.2.2.2.2.1
 (kk ((c.1.1, (c.1.2.1, (c.1.2.2.1, (c.1.2.2.2.1, (c.1.2.2.2.2.1, (c.1.2.2.2.2.2.1, ())))))), ()) (((iadd .i64 c.1.2.2.2.2.1 (1 : Int)), (v.1.2.1, ())), ()))
 (kk ((c.1.1, (c.1.2.1, (c.1.2.2.1, (c.1.2.2.2.1, (c.1.2.2.2.2.1, (c.1.2.2.2.2.2.1, ())))))), ()) ((v.1.1, (c.1.2.2.2.2.1, ())), ())))
abbrev f_slices_BinarySearchFunc_Session_int_l3c : Desc := ⟨[], []⟩
abbrev f_slices_BinarySearchFunc_Session_int_l3v : Desc := ⟨[(0, .v (.sl kdSession)), (1, .v (.int .i64)), (2, .fv [kdSession, (.int .i64)] [(.int .i64)]), (8, .v (.int .i64)), (9, .v (.int .i64)), (10, .v (.int .i64))], []⟩
abbrev f_slices_BinarySearchFunc_Session_int_l3e : List (Ek × Desc) := [(.exit 0, ⟨[(0, .v (.sl kdSession)), (1, .v (.int .i64)), (2, .fv [kdSession, (.int .i64)] [(.int .i64)]), (8, .v (.int .i64)), (9, .v (.int .i64))], []⟩)]
def f_slices_BinarySearchFunc_Session_int_l3 (R : Type) (c : (Unit × Unit)) (v : (((List DSession) × Int × ((DSession × Int × Unit) → Option (Int × Unit)) × Int × Int × Int × Unit) × Unit)) (kk : (Unit × Unit) → ((((List DSession) × Int × ((DSession × Int × Unit) → Option (Int × Unit)) × Int × Int × Int × Unit) × Unit) ⊕ (((List DSession) × Int × ((DSession × Int × Unit) → Option (Int × Unit)) × Int × Int × Unit) × Unit)) → Option R) : Option R :=
 (cond (ilt v.1.2.2.2.2.1 v.1.2.2.2.2.2.1)
 (getO v.1.1 (IntKind.wrap .i64 (ishr .u64 (IntKind.wrap .u64 (iadd .i64 v.1.2.2.2.2.1 v.1.2.2.2.2.2.1)) (1 : Int))) fun v1 => (bnd (v.1.2.2.1 (v1, (v.1.2.1, ()))) fun r2 => (f_slices_BinarySearchFunc_Session_int_i6 _ ((v.1.1, (v.1.2.1, (v.1.2.2.1, (v.1.2.2.2.1, ((IntKind.wrap .i64 (ishr .u64 (IntKind.wrap .u64 (iadd .i64 v.1.2.2.2.2.1 v.1.2.2.2.2.2.1)) (1 : Int))), ((ilt r2.1 (0 : Int)), ())))))), ()) ((v.1.2.2.2.2.1, (v.1.2.2.2.2.2.1, ())), ()) fun c3 o4 =>
 (kk ((), ()) (.inl ((c3.1.1, (c3.1.2.1, (c3.1.2.2.1, (c3.1.2.2.2.1, (o4.1.1, (o4.1.2.1, ())))))), ()))))))
 (kk ((), ()) (.inr ((v.1.1, (v.1.2.1, (v.1.2.2.1, (v.1.2.2.2.1, (v.1.2.2.2.2.1, ()))))), ()))))
def f_slices_BinarySearchFunc_Session_int (x : ((List DSession) × Int × ((DSession × Int × Unit) → Option (Int × Unit)) × Unit)) : Option ((Int × Bool × Unit) × Unit) :=
 (loopF (c := f_slices_BinarySearchFunc_Session_int_l3c) (v := f_slices_BinarySearchFunc_Session_int_l3v) (ex := f_slices_BinarySearchFunc_Session_int_l3e) f_slices_BinarySearchFunc_Session_int_l3 _ ((), ()) ((x.1, (x.2.1, (x.2.2.1, ((llen x.1), ((0 : Int), ((llen x.1), ())))))), ()) fun c5 o6 =>
 (cond (ilt o6.1.2.2.2.2.1 o6.1.2.2.2.1)
 (getO o6.1.1 o6.1.2.2.2.2.1 fun v7 => (bnd (o6.1.2.2.1 (v7, (o6.1.2.1, ()))) fun r8 => (some ((o6.1.2.2.2.2.1, ((ieq r8.1 (0 : Int)), ())), ()))))
 (some ((o6.1.2.2.2.2.1, (false, ())), ()))))
def sg147 : Sig := ⟨ins147, res147, f_slices_BinarySearchFunc_Session_int⟩
abbrev ins114 : List Pm := [.mptr kdKvState (.pr (.o .s) (.pr (.o .s) .s)), .val (.int .i64)]
abbrev res114 : List (K × Mk) := [((.int .i64), .s), (.bool, .s)]
def f_impl_KvState_sessionAt (x : (DKvState × Int × Unit)) : Option ((Int × Bool × Unit) × (DKvState × Unit)) :=
 (bnd (f_slices_BinarySearchFunc_Session_int (x.1.2.1, (x.2.1, ((fun z => (bnd (f_impl_KvState_sessionAt_1 (z.1, (z.2.1, ()))) fun r => (some r.1))), ())))) fun r1 => (some ((r1.1.1, (r1.1.2.1, ())), (x.1, ()))))
def sg114 : Sig := ⟨ins114, res114, f_impl_KvState_sessionAt⟩
abbrev ins161 : List Pm := [.val .str]
abbrev res161 : List (K × Mk) := [(.bool, .s)]
def f_cmp_isNaN_string (x : (ByteArray × Unit)) : Option ((Bool × Unit) × Unit) :=
 (some (((!seq x.1 x.1), ()), ()))
def sg161 : Sig := ⟨ins161, res161, f_cmp_isNaN_string⟩
abbrev ins144 : List Pm := [.val .str, .val .str]
abbrev res144 : List (K × Mk) := [((.int .i64), .s)]
def f_cmp_Compare_string (x : (ByteArray × ByteArray × Unit)) : Option ((Int × Unit) × Unit) :=
 (bnd (f_cmp_isNaN_string (x.1, ())) fun r1 => (bnd (f_cmp_isNaN_string (x.2.1, ())) fun r2 => (cond r1.1.1
 (cond r2.1.1
 (some (((0 : Int), ()), ()))
 (some (((-1 : Int), ()), ())))
 (cond r2.1.1
 (some (((1 : Int), ()), ()))
 (cond (slt x.1 x.2.1)
 (some (((-1 : Int), ()), ()))
 (cond (!(slt x.1 x.2.1 || seq x.1 x.2.1))
 (some (((1 : Int), ()), ()))
 (some (((0 : Int), ()), ()))))))))
def sg144 : Sig := ⟨ins144, res144, f_cmp_Compare_string⟩
abbrev ins143 : List Pm := [.val kdPair, .val .str]
abbrev res143 : List (K × Mk) := [((.int .i64), .s)]
def f_impl_KvState_cellAt_1 (x : (DPair × ByteArray × Unit)) : Option ((Int × Unit) × Unit) :=
 (bnd (f_cmp_Compare_string (x.1.1, (x.2.1, ()))) fun r1 => (some ((r1.1.1, ()), ())))
def sg143 : Sig := ⟨ins143, res143, f_impl_KvState_cellAt_1⟩
abbrev ins142 : List Pm := [.val (.sl kdPair), .val .str, .fn [kdPair, .str] [(.int .i64)]]
abbrev res142 : List (K × Mk) := [((.int .i64), .s), (.bool, .s)]
abbrev f_slices_BinarySearchFunc_Pair_string_i6c : Desc := ⟨[(0, .v (.sl kdPair)), (1, .v .str), (2, .fv [kdPair, .str] [(.int .i64)]), (8, .v (.int .i64)), (11, .v (.int .i64)), (31, .v .bool)], []⟩
abbrev f_slices_BinarySearchFunc_Pair_string_i6v : Desc := ⟨[(9, .v (.int .i64)), (10, .v (.int .i64))], []⟩
abbrev f_slices_BinarySearchFunc_Pair_string_i6e : List (Ek × Desc) := [(.norm, ⟨[(9, .v (.int .i64)), (10, .v (.int .i64))], []⟩)]
def f_slices_BinarySearchFunc_Pair_string_i6 (R : Type) (c : (((List DPair) × ByteArray × ((DPair × ByteArray × Unit) → Option (Int × Unit)) × Int × Int × Bool × Unit) × Unit)) (v : ((Int × Int × Unit) × Unit)) (kk : (((List DPair) × ByteArray × ((DPair × ByteArray × Unit) → Option (Int × Unit)) × Int × Int × Bool × Unit) × Unit) → ((Int × Int × Unit) × Unit) → Option R) : Option R :=
 (cond c.1.2.2.2.2.2.1
 (kk ((c.1.1, (c.1.2.1, (c.1.2.2.1, (c.1.2.2.2.1, (c.1.2.2.2.2.1, (c.1.2.2.2.2.2.1, ())))))), ()) (((iadd .i64 c.1.2.2.2.2.1 (1 : Int)), (v.1.2.1, ())), ()))
 (kk ((c.1.1, (c.1.2.1, (c.1.2.2.1, (c.1.2.2.2.1, (c.1.2.2.2.2.1, (c.1.2.2.2.2.2.1, ())))))), ()) ((v.1.1, (c.1.2.2.2.2.1, ())), ())))
abbrev f_slices_BinarySearchFunc_Pair_string_l3c : Desc := ⟨[], []⟩
abbrev f_slices_BinarySearchFunc_Pair_string_l3v : Desc := ⟨[(0, .v (.sl kdPair)), (1, .v .str), (2, .fv [kdPair, .str] [(.int .i64)]), (8, .v (.int .i64)), (9, .v (.int .i64)), (10, .v (.int .i64))], []⟩
abbrev f_slices_BinarySearchFunc_Pair_string_l3e : List (Ek × Desc) := [(.exit 0, ⟨[(0, .v (.sl kdPair)), (1, .v .str), (2, .fv [kdPair, .str] [(.int .i64)]), (8, .v (.int .i64)), (9, .v (.int .i64))], []⟩)]
def f_slices_BinarySearchFunc_Pair_string_l3 (R : Type) (c : (Unit × Unit)) (v : (((List DPair) × ByteArray × ((DPair × ByteArray × Unit) → Option (Int × Unit)) × Int × Int × Int × Unit) × Unit)) (kk : (Unit × Unit) → ((((List DPair) × ByteArray × ((DPair × ByteArray × Unit) → Option (Int × Unit)) × Int × Int × Int × Unit) × Unit) ⊕ (((List DPair) × ByteArray × ((DPair × ByteArray × Unit) → Option (Int × Unit)) × Int × Int × Unit) × Unit)) → Option R) : Option R :=
 (cond (ilt v.1.2.2.2.2.1 v.1.2.2.2.2.2.1)
 (getO v.1.1 (IntKind.wrap .i64 (ishr .u64 (IntKind.wrap .u64 (iadd .i64 v.1.2.2.2.2.1 v.1.2.2.2.2.2.1)) (1 : Int))) fun v1 => (bnd (v.1.2.2.1 (v1, (v.1.2.1, ()))) fun r2 => (f_slices_BinarySearchFunc_Pair_string_i6 _ ((v.1.1, (v.1.2.1, (v.1.2.2.1, (v.1.2.2.2.1, ((IntKind.wrap .i64 (ishr .u64 (IntKind.wrap .u64 (iadd .i64 v.1.2.2.2.2.1 v.1.2.2.2.2.2.1)) (1 : Int))), ((ilt r2.1 (0 : Int)), ())))))), ()) ((v.1.2.2.2.2.1, (v.1.2.2.2.2.2.1, ())), ()) fun c3 o4 =>
 (kk ((), ()) (.inl ((c3.1.1, (c3.1.2.1, (c3.1.2.2.1, (c3.1.2.2.2.1, (o4.1.1, (o4.1.2.1, ())))))), ()))))))
 (kk ((), ()) (.inr ((v.1.1, (v.1.2.1, (v.1.2.2.1, (v.1.2.2.2.1, (v.1.2.2.2.2.1, ()))))), ()))))
def f_slices_BinarySearchFunc_Pair_string (x : ((List DPair) × ByteArray × ((DPair × ByteArray × Unit) → Option (Int × Unit)) × Unit)) : Option ((Int × Bool × Unit) × Unit) :=
 (loopF (c := f_slices_BinarySearchFunc_Pair_string_l3c) (v := f_slices_BinarySearchFunc_Pair_string_l3v) (ex := f_slices_BinarySearchFunc_Pair_string_l3e) f_slices_BinarySearchFunc_Pair_string_l3 _ ((), ()) ((x.1, (x.2.1, (x.2.2.1, ((llen x.1), ((0 : Int), ((llen x.1), ())))))), ()) fun c5 o6 =>
 (cond (ilt o6.1.2.2.2.2.1 o6.1.2.2.2.1)
 (getO o6.1.1 o6.1.2.2.2.2.1 fun v7 => (bnd (o6.1.2.2.1 (v7, (o6.1.2.1, ()))) fun r8 => (some ((o6.1.2.2.2.2.1, ((ieq r8.1 (0 : Int)), ())), ()))))
 (some ((o6.1.2.2.2.2.1, (false, ())), ()))))
def sg142 : Sig := ⟨ins142, res142, f_slices_BinarySearchFunc_Pair_string⟩
abbrev ins107 : List Pm := [.mptr kdKvState (.pr (.o .s) (.pr (.o .s) .s)), .val .str]
abbrev res107 : List (K × Mk) := [((.int .i64), .s), (.bool, .s)]
def f_impl_KvState_cellAt (x : (DKvState × ByteArray × Unit)) : Option ((Int × Bool × Unit) × (DKvState × Unit)) :=
 (bnd (f_slices_BinarySearchFunc_Pair_string (x.1.1, (x.2.1, ((fun z => (bnd (f_impl_KvState_cellAt_1 (z.1, (z.2.1, ()))) fun r => (some r.1))), ())))) fun r1 => (some ((r1.1.1, (r1.1.2.1, ())), (x.1, ()))))
def sg107 : Sig := ⟨ins107, res107, f_impl_KvState_cellAt⟩
abbrev ins116 : List Pm := [.mptr kdKvState (.pr (.o .s) (.pr (.o .s) .s)), .val kdCommand]
abbrev res116 : List (K × Mk) := [(kdReply, .s)]
def f_impl_KvState_do (x : (DKvState × DCommand × Unit)) : Option ((DReply × Unit) × (DKvState × Unit)) :=
 (bnd (f_impl_KvState_cellAt (x.1, (x.2.1.2.2.2.1, ()))) fun r1 => (cond (ieq x.2.1.2.2.1 (2 : Int))
 (cond r1.1.2.1
 (getO r1.2.1.1 r1.1.1 fun _ => (bnd (r1.2.1.1[(Int.toNat r1.1.1)]?) fun v3 => (bnd (r1.2.1.1[(Int.toNat r1.1.1)]?) fun v4 => (some ((((0 : Int), ((⟨#[]⟩ : ByteArray), ())), ()), (((List.set r1.2.1.1 (Int.toNat r1.1.1) (v4.1, (x.2.1.2.2.2.2.1, v4.2.2))), r1.2.1.2), ()))))))
 (cond (ieq x.2.1.2.2.1 (2 : Int))
 (cond (ieq (llen r1.2.1.1) (40 : Int))
 (some ((((4 : Int), ((⟨#[]⟩ : ByteArray), ())), ()), (r1.2.1, ())))
 (cond (ieq x.2.1.2.2.1 (2 : Int))
 (bnd ((f_slices_Insert kdPair) (r1.2.1.1, (r1.1.1, ([(x.2.1.2.2.2.1, (x.2.1.2.2.2.2.1, ()))], ())))) fun r5 => (some ((((0 : Int), ((⟨#[]⟩ : ByteArray), ())), ()), ((r5.1.1, r1.2.1.2), ()))))
 (cond (!r1.1.2.1)
 (some ((((1 : Int), ((⟨#[]⟩ : ByteArray), ())), ()), (r1.2.1, ())))
 (getO r1.2.1.1 r1.1.1 fun _ => (bnd (r1.2.1.1[(Int.toNat r1.1.1)]?) fun v7 => (bnd (r1.2.1.1[(Int.toNat r1.1.1)]?) fun v8 => (cond (ieq x.2.1.2.2.1 (1 : Int))
 (some ((((0 : Int), (v8.2.1, ())), ()), (r1.2.1, ())))
 (cond (ieq x.2.1.2.2.1 (3 : Int))
 (bnd ((f_slices_Delete kdPair) (r1.2.1.1, (r1.1.1, ((iadd .i64 r1.1.1 (1 : Int)), ())))) fun r9 => (some ((((0 : Int), (v8.2.1, ())), ()), ((r9.1.1, r1.2.1.2), ()))))
 (cond (!seq v8.2.1 x.2.1.2.2.2.2.2.1)
 (some ((((3 : Int), (v8.2.1, ())), ()), (r1.2.1, ())))
 (getO r1.2.1.1 r1.1.1 fun _ => (bnd (r1.2.1.1[(Int.toNat r1.1.1)]?) fun v11 => (bnd (r1.2.1.1[(Int.toNat r1.1.1)]?) fun v12 => (some ((((0 : Int), ((⟨#[]⟩ : ByteArray), ())), ()), (((List.set r1.2.1.1 (Int.toNat r1.1.1) (v12.1, (x.2.1.2.2.2.2.1, v12.2.2))), r1.2.1.2), ())))))))))))))))
 (cond (ieq x.2.1.2.2.1 (2 : Int))
 (bnd ((f_slices_Insert kdPair) (r1.2.1.1, (r1.1.1, ([(x.2.1.2.2.2.1, (x.2.1.2.2.2.2.1, ()))], ())))) fun r13 => (some ((((0 : Int), ((⟨#[]⟩ : ByteArray), ())), ()), ((r13.1.1, r1.2.1.2), ()))))
 (cond (!r1.1.2.1)
 (some ((((1 : Int), ((⟨#[]⟩ : ByteArray), ())), ()), (r1.2.1, ())))
 (getO r1.2.1.1 r1.1.1 fun _ => (bnd (r1.2.1.1[(Int.toNat r1.1.1)]?) fun v15 => (bnd (r1.2.1.1[(Int.toNat r1.1.1)]?) fun v16 => (cond (ieq x.2.1.2.2.1 (1 : Int))
 (some ((((0 : Int), (v16.2.1, ())), ()), (r1.2.1, ())))
 (cond (ieq x.2.1.2.2.1 (3 : Int))
 (bnd ((f_slices_Delete kdPair) (r1.2.1.1, (r1.1.1, ((iadd .i64 r1.1.1 (1 : Int)), ())))) fun r17 => (some ((((0 : Int), (v16.2.1, ())), ()), ((r17.1.1, r1.2.1.2), ()))))
 (cond (!seq v16.2.1 x.2.1.2.2.2.2.2.1)
 (some ((((3 : Int), (v16.2.1, ())), ()), (r1.2.1, ())))
 (getO r1.2.1.1 r1.1.1 fun _ => (bnd (r1.2.1.1[(Int.toNat r1.1.1)]?) fun v19 => (bnd (r1.2.1.1[(Int.toNat r1.1.1)]?) fun v20 => (some ((((0 : Int), ((⟨#[]⟩ : ByteArray), ())), ()), (((List.set r1.2.1.1 (Int.toNat r1.1.1) (v20.1, (x.2.1.2.2.2.2.1, v20.2.2))), r1.2.1.2), ()))))))))))))))))
 (cond (ieq x.2.1.2.2.1 (2 : Int))
 (cond (ieq (llen r1.2.1.1) (40 : Int))
 (some ((((4 : Int), ((⟨#[]⟩ : ByteArray), ())), ()), (r1.2.1, ())))
 (cond (ieq x.2.1.2.2.1 (2 : Int))
 (bnd ((f_slices_Insert kdPair) (r1.2.1.1, (r1.1.1, ([(x.2.1.2.2.2.1, (x.2.1.2.2.2.2.1, ()))], ())))) fun r21 => (some ((((0 : Int), ((⟨#[]⟩ : ByteArray), ())), ()), ((r21.1.1, r1.2.1.2), ()))))
 (cond (!r1.1.2.1)
 (some ((((1 : Int), ((⟨#[]⟩ : ByteArray), ())), ()), (r1.2.1, ())))
 (getO r1.2.1.1 r1.1.1 fun _ => (bnd (r1.2.1.1[(Int.toNat r1.1.1)]?) fun v23 => (bnd (r1.2.1.1[(Int.toNat r1.1.1)]?) fun v24 => (cond (ieq x.2.1.2.2.1 (1 : Int))
 (some ((((0 : Int), (v24.2.1, ())), ()), (r1.2.1, ())))
 (cond (ieq x.2.1.2.2.1 (3 : Int))
 (bnd ((f_slices_Delete kdPair) (r1.2.1.1, (r1.1.1, ((iadd .i64 r1.1.1 (1 : Int)), ())))) fun r25 => (some ((((0 : Int), (v24.2.1, ())), ()), ((r25.1.1, r1.2.1.2), ()))))
 (cond (!seq v24.2.1 x.2.1.2.2.2.2.2.1)
 (some ((((3 : Int), (v24.2.1, ())), ()), (r1.2.1, ())))
 (getO r1.2.1.1 r1.1.1 fun _ => (bnd (r1.2.1.1[(Int.toNat r1.1.1)]?) fun v27 => (bnd (r1.2.1.1[(Int.toNat r1.1.1)]?) fun v28 => (some ((((0 : Int), ((⟨#[]⟩ : ByteArray), ())), ()), (((List.set r1.2.1.1 (Int.toNat r1.1.1) (v28.1, (x.2.1.2.2.2.2.1, v28.2.2))), r1.2.1.2), ())))))))))))))))
 (cond (ieq x.2.1.2.2.1 (2 : Int))
 (bnd ((f_slices_Insert kdPair) (r1.2.1.1, (r1.1.1, ([(x.2.1.2.2.2.1, (x.2.1.2.2.2.2.1, ()))], ())))) fun r29 => (some ((((0 : Int), ((⟨#[]⟩ : ByteArray), ())), ()), ((r29.1.1, r1.2.1.2), ()))))
 (cond (!r1.1.2.1)
 (some ((((1 : Int), ((⟨#[]⟩ : ByteArray), ())), ()), (r1.2.1, ())))
 (getO r1.2.1.1 r1.1.1 fun _ => (bnd (r1.2.1.1[(Int.toNat r1.1.1)]?) fun v31 => (bnd (r1.2.1.1[(Int.toNat r1.1.1)]?) fun v32 => (cond (ieq x.2.1.2.2.1 (1 : Int))
 (some ((((0 : Int), (v32.2.1, ())), ()), (r1.2.1, ())))
 (cond (ieq x.2.1.2.2.1 (3 : Int))
 (bnd ((f_slices_Delete kdPair) (r1.2.1.1, (r1.1.1, ((iadd .i64 r1.1.1 (1 : Int)), ())))) fun r33 => (some ((((0 : Int), (v32.2.1, ())), ()), ((r33.1.1, r1.2.1.2), ()))))
 (cond (!seq v32.2.1 x.2.1.2.2.2.2.2.1)
 (some ((((3 : Int), (v32.2.1, ())), ()), (r1.2.1, ())))
 (getO r1.2.1.1 r1.1.1 fun _ => (bnd (r1.2.1.1[(Int.toNat r1.1.1)]?) fun v35 => (bnd (r1.2.1.1[(Int.toNat r1.1.1)]?) fun v36 => (some ((((0 : Int), ((⟨#[]⟩ : ByteArray), ())), ()), (((List.set r1.2.1.1 (Int.toNat r1.1.1) (v36.1, (x.2.1.2.2.2.2.1, v36.2.2))), r1.2.1.2), ())))))))))))))))))
def sg116 : Sig := ⟨ins116, res116, f_impl_KvState_do⟩
abbrev ins68 : List Pm := [.mptr kdKvState (.pr (.o .s) (.pr (.o .s) .s)), .val kdCommand]
abbrev res68 : List (K × Mk) := [(kdReply, .s)]
abbrev f_impl_KvState_apply_i11c : Desc := ⟨[(0, .ptr 0 []), (3, .ptr 3 []), (4, .ptr 4 []), (5, .v (.int .i64)), (70, .v .bool)], [(3, ⟨kdCommand, .s, true⟩), (4, ⟨kdReply, .s, true⟩)]⟩
abbrev f_impl_KvState_apply_i11v : Desc := ⟨[], [(0, ⟨kdKvState, (.pr (.o .s) (.pr (.o .s) .s)), true⟩)]⟩
abbrev f_impl_KvState_apply_i11e : List (Ek × Desc) := [(.norm, ⟨[], [(0, ⟨kdKvState, (.pr (.o .s) (.pr (.o .s) .s)), true⟩)]⟩)]
def f_impl_KvState_apply_i11 (R : Type) (c : ((Int × Bool × Unit) × (DCommand × DReply × Unit))) (v : (Unit × (DKvState × Unit))) (kk : ((Int × Bool × Unit) × (DCommand × DReply × Unit)) → (Unit × (DKvState × Unit)) → Option R) : Option R :=
 (cond c.1.2.1
 (bnd ((f_slices_Insert kdSession) (v.2.1.2.1, (c.1.1, ([(c.2.1.1, ((0 : Int), (((0 : Int), ((⟨#[]⟩ : ByteArray), ())), ())))], ())))) fun r12 => (kk ((c.1.1, (c.1.2.1, ())), (c.2.1, (c.2.2.1, ()))) ((), ((v.2.1.1, (r12.1.1, v.2.1.2.2)), ()))))
 (kk ((c.1.1, (c.1.2.1, ())), (c.2.1, (c.2.2.1, ()))) ((), (v.2.1, ()))))
def f_impl_KvState_apply (x : (DKvState × DCommand × Unit)) : Option ((DReply × Unit) × (DKvState × Unit)) :=
 (bnd (f_impl_GoodCommand (x.2.1, ())) fun r1 => (cond (!r1.1.1)
 (some ((((4 : Int), ((⟨#[]⟩ : ByteArray), ())), ()), (x.1, ())))
 (bnd (f_impl_KvState_sessionAt (x.1, (x.2.1.1, ()))) fun r2 => (cond (!r2.1.2.1)
 (cond (ieq (llen r2.2.1.2.1) (12 : Int))
 (some ((((4 : Int), ((⟨#[]⟩ : ByteArray), ())), ()), (r2.2.1, ())))
 (cond r2.1.2.1
 (getO r2.2.1.2.1 r2.1.1 fun _ => (bnd (r2.2.1.2.1[(Int.toNat r2.1.1)]?) fun v4 => (bnd (r2.2.1.2.1[(Int.toNat r2.1.1)]?) fun v5 => (cond (ieq x.2.1.2.1 v5.2.1)
 (getO r2.2.1.2.1 r2.1.1 fun _ => (bnd (r2.2.1.2.1[(Int.toNat r2.1.1)]?) fun v7 => (bnd (r2.2.1.2.1[(Int.toNat r2.1.1)]?) fun v8 => (some ((v8.2.2.1, ()), (r2.2.1, ()))))))
 (cond r2.1.2.1
 (getO r2.2.1.2.1 r2.1.1 fun _ => (bnd (r2.2.1.2.1[(Int.toNat r2.1.1)]?) fun v10 => (bnd (r2.2.1.2.1[(Int.toNat r2.1.1)]?) fun v11 => (cond (ilt x.2.1.2.1 v11.2.1)
 (some ((((2 : Int), ((⟨#[]⟩ : ByteArray), ())), ()), (r2.2.1, ())))
 (f_impl_KvState_apply_i11 _ ((r2.1.1, ((!r2.1.2.1), ())), (x.2.1, (((0 : Int), ((⟨#[]⟩ : ByteArray), ())), ()))) ((), (r2.2.1, ())) fun c13 o14 =>
 (bnd (f_impl_KvState_do (o14.2.1, (c13.2.1, ()))) fun r15 => (getO r15.2.1.2.1 c13.1.1 fun _ => (bnd (r15.2.1.2.1[(Int.toNat c13.1.1)]?) fun v17 => (bnd (r15.2.1.2.1[(Int.toNat c13.1.1)]?) fun v18 => (getO (List.set r15.2.1.2.1 (Int.toNat c13.1.1) (v18.1, (c13.2.1.2.1, v18.2.2))) c13.1.1 fun _ => (bnd ((List.set r15.2.1.2.1 (Int.toNat c13.1.1) (v18.1, (c13.2.1.2.1, v18.2.2)))[(Int.toNat c13.1.1)]?) fun v20 => (bnd ((List.set r15.2.1.2.1 (Int.toNat c13.1.1) (v18.1, (c13.2.1.2.1, v18.2.2)))[(Int.toNat c13.1.1)]?) fun v21 => (some ((r15.1.1, ()), ((r15.2.1.1, ((List.set (List.set r15.2.1.2.1 (Int.toNat c13.1.1) (v18.1, (c13.2.1.2.1, v18.2.2))) (Int.toNat c13.1.1) (v21.1, (v21.2.1, (r15.1.1, v21.2.2.2)))), r15.2.1.2.2)), ())))))))))))))))
 (f_impl_KvState_apply_i11 _ ((r2.1.1, ((!r2.1.2.1), ())), (x.2.1, (((0 : Int), ((⟨#[]⟩ : ByteArray), ())), ()))) ((), (r2.2.1, ())) fun c22 o23 =>
 (bnd (f_impl_KvState_do (o23.2.1, (c22.2.1, ()))) fun r24 => (getO r24.2.1.2.1 c22.1.1 fun _ => (bnd (r24.2.1.2.1[(Int.toNat c22.1.1)]?) fun v26 => (bnd (r24.2.1.2.1[(Int.toNat c22.1.1)]?) fun v27 => (getO (List.set r24.2.1.2.1 (Int.toNat c22.1.1) (v27.1, (c22.2.1.2.1, v27.2.2))) c22.1.1 fun _ => (bnd ((List.set r24.2.1.2.1 (Int.toNat c22.1.1) (v27.1, (c22.2.1.2.1, v27.2.2)))[(Int.toNat c22.1.1)]?) fun v29 => (bnd ((List.set r24.2.1.2.1 (Int.toNat c22.1.1) (v27.1, (c22.2.1.2.1, v27.2.2)))[(Int.toNat c22.1.1)]?) fun v30 => (some ((r24.1.1, ()), ((r24.2.1.1, ((List.set (List.set r24.2.1.2.1 (Int.toNat c22.1.1) (v27.1, (c22.2.1.2.1, v27.2.2))) (Int.toNat c22.1.1) (v30.1, (v30.2.1, (r24.1.1, v30.2.2.2)))), r24.2.1.2.2)), ()))))))))))))))))
 (cond r2.1.2.1
 (getO r2.2.1.2.1 r2.1.1 fun _ => (bnd (r2.2.1.2.1[(Int.toNat r2.1.1)]?) fun v32 => (bnd (r2.2.1.2.1[(Int.toNat r2.1.1)]?) fun v33 => (cond (ilt x.2.1.2.1 v33.2.1)
 (some ((((2 : Int), ((⟨#[]⟩ : ByteArray), ())), ()), (r2.2.1, ())))
 (f_impl_KvState_apply_i11 _ ((r2.1.1, ((!r2.1.2.1), ())), (x.2.1, (((0 : Int), ((⟨#[]⟩ : ByteArray), ())), ()))) ((), (r2.2.1, ())) fun c34 o35 =>
 (bnd (f_impl_KvState_do (o35.2.1, (c34.2.1, ()))) fun r36 => (getO r36.2.1.2.1 c34.1.1 fun _ => (bnd (r36.2.1.2.1[(Int.toNat c34.1.1)]?) fun v38 => (bnd (r36.2.1.2.1[(Int.toNat c34.1.1)]?) fun v39 => (getO (List.set r36.2.1.2.1 (Int.toNat c34.1.1) (v39.1, (c34.2.1.2.1, v39.2.2))) c34.1.1 fun _ => (bnd ((List.set r36.2.1.2.1 (Int.toNat c34.1.1) (v39.1, (c34.2.1.2.1, v39.2.2)))[(Int.toNat c34.1.1)]?) fun v41 => (bnd ((List.set r36.2.1.2.1 (Int.toNat c34.1.1) (v39.1, (c34.2.1.2.1, v39.2.2)))[(Int.toNat c34.1.1)]?) fun v42 => (some ((r36.1.1, ()), ((r36.2.1.1, ((List.set (List.set r36.2.1.2.1 (Int.toNat c34.1.1) (v39.1, (c34.2.1.2.1, v39.2.2))) (Int.toNat c34.1.1) (v42.1, (v42.2.1, (r36.1.1, v42.2.2.2)))), r36.2.1.2.2)), ())))))))))))))))
 (f_impl_KvState_apply_i11 _ ((r2.1.1, ((!r2.1.2.1), ())), (x.2.1, (((0 : Int), ((⟨#[]⟩ : ByteArray), ())), ()))) ((), (r2.2.1, ())) fun c43 o44 =>
 (bnd (f_impl_KvState_do (o44.2.1, (c43.2.1, ()))) fun r45 => (getO r45.2.1.2.1 c43.1.1 fun _ => (bnd (r45.2.1.2.1[(Int.toNat c43.1.1)]?) fun v47 => (bnd (r45.2.1.2.1[(Int.toNat c43.1.1)]?) fun v48 => (getO (List.set r45.2.1.2.1 (Int.toNat c43.1.1) (v48.1, (c43.2.1.2.1, v48.2.2))) c43.1.1 fun _ => (bnd ((List.set r45.2.1.2.1 (Int.toNat c43.1.1) (v48.1, (c43.2.1.2.1, v48.2.2)))[(Int.toNat c43.1.1)]?) fun v50 => (bnd ((List.set r45.2.1.2.1 (Int.toNat c43.1.1) (v48.1, (c43.2.1.2.1, v48.2.2)))[(Int.toNat c43.1.1)]?) fun v51 => (some ((r45.1.1, ()), ((r45.2.1.1, ((List.set (List.set r45.2.1.2.1 (Int.toNat c43.1.1) (v48.1, (c43.2.1.2.1, v48.2.2))) (Int.toNat c43.1.1) (v51.1, (v51.2.1, (r45.1.1, v51.2.2.2)))), r45.2.1.2.2)), ()))))))))))))))
 (cond r2.1.2.1
 (getO r2.2.1.2.1 r2.1.1 fun _ => (bnd (r2.2.1.2.1[(Int.toNat r2.1.1)]?) fun v53 => (bnd (r2.2.1.2.1[(Int.toNat r2.1.1)]?) fun v54 => (cond (ieq x.2.1.2.1 v54.2.1)
 (getO r2.2.1.2.1 r2.1.1 fun _ => (bnd (r2.2.1.2.1[(Int.toNat r2.1.1)]?) fun v56 => (bnd (r2.2.1.2.1[(Int.toNat r2.1.1)]?) fun v57 => (some ((v57.2.2.1, ()), (r2.2.1, ()))))))
 (cond r2.1.2.1
 (getO r2.2.1.2.1 r2.1.1 fun _ => (bnd (r2.2.1.2.1[(Int.toNat r2.1.1)]?) fun v59 => (bnd (r2.2.1.2.1[(Int.toNat r2.1.1)]?) fun v60 => (cond (ilt x.2.1.2.1 v60.2.1)
 (some ((((2 : Int), ((⟨#[]⟩ : ByteArray), ())), ()), (r2.2.1, ())))
 (f_impl_KvState_apply_i11 _ ((r2.1.1, ((!r2.1.2.1), ())), (x.2.1, (((0 : Int), ((⟨#[]⟩ : ByteArray), ())), ()))) ((), (r2.2.1, ())) fun c61 o62 =>
 (bnd (f_impl_KvState_do (o62.2.1, (c61.2.1, ()))) fun r63 => (getO r63.2.1.2.1 c61.1.1 fun _ => (bnd (r63.2.1.2.1[(Int.toNat c61.1.1)]?) fun v65 => (bnd (r63.2.1.2.1[(Int.toNat c61.1.1)]?) fun v66 => (getO (List.set r63.2.1.2.1 (Int.toNat c61.1.1) (v66.1, (c61.2.1.2.1, v66.2.2))) c61.1.1 fun _ => (bnd ((List.set r63.2.1.2.1 (Int.toNat c61.1.1) (v66.1, (c61.2.1.2.1, v66.2.2)))[(Int.toNat c61.1.1)]?) fun v68 => (bnd ((List.set r63.2.1.2.1 (Int.toNat c61.1.1) (v66.1, (c61.2.1.2.1, v66.2.2)))[(Int.toNat c61.1.1)]?) fun v69 => (some ((r63.1.1, ()), ((r63.2.1.1, ((List.set (List.set r63.2.1.2.1 (Int.toNat c61.1.1) (v66.1, (c61.2.1.2.1, v66.2.2))) (Int.toNat c61.1.1) (v69.1, (v69.2.1, (r63.1.1, v69.2.2.2)))), r63.2.1.2.2)), ())))))))))))))))
 (f_impl_KvState_apply_i11 _ ((r2.1.1, ((!r2.1.2.1), ())), (x.2.1, (((0 : Int), ((⟨#[]⟩ : ByteArray), ())), ()))) ((), (r2.2.1, ())) fun c70 o71 =>
 (bnd (f_impl_KvState_do (o71.2.1, (c70.2.1, ()))) fun r72 => (getO r72.2.1.2.1 c70.1.1 fun _ => (bnd (r72.2.1.2.1[(Int.toNat c70.1.1)]?) fun v74 => (bnd (r72.2.1.2.1[(Int.toNat c70.1.1)]?) fun v75 => (getO (List.set r72.2.1.2.1 (Int.toNat c70.1.1) (v75.1, (c70.2.1.2.1, v75.2.2))) c70.1.1 fun _ => (bnd ((List.set r72.2.1.2.1 (Int.toNat c70.1.1) (v75.1, (c70.2.1.2.1, v75.2.2)))[(Int.toNat c70.1.1)]?) fun v77 => (bnd ((List.set r72.2.1.2.1 (Int.toNat c70.1.1) (v75.1, (c70.2.1.2.1, v75.2.2)))[(Int.toNat c70.1.1)]?) fun v78 => (some ((r72.1.1, ()), ((r72.2.1.1, ((List.set (List.set r72.2.1.2.1 (Int.toNat c70.1.1) (v75.1, (c70.2.1.2.1, v75.2.2))) (Int.toNat c70.1.1) (v78.1, (v78.2.1, (r72.1.1, v78.2.2.2)))), r72.2.1.2.2)), ()))))))))))))))))
 (cond r2.1.2.1
 (getO r2.2.1.2.1 r2.1.1 fun _ => (bnd (r2.2.1.2.1[(Int.toNat r2.1.1)]?) fun v80 => (bnd (r2.2.1.2.1[(Int.toNat r2.1.1)]?) fun v81 => (cond (ilt x.2.1.2.1 v81.2.1)
 (some ((((2 : Int), ((⟨#[]⟩ : ByteArray), ())), ()), (r2.2.1, ())))
 (f_impl_KvState_apply_i11 _ ((r2.1.1, ((!r2.1.2.1), ())), (x.2.1, (((0 : Int), ((⟨#[]⟩ : ByteArray), ())), ()))) ((), (r2.2.1, ())) fun c82 o83 =>
 (bnd (f_impl_KvState_do (o83.2.1, (c82.2.1, ()))) fun r84 => (getO r84.2.1.2.1 c82.1.1 fun _ => (bnd (r84.2.1.2.1[(Int.toNat c82.1.1)]?) fun v86 => (bnd (r84.2.1.2.1[(Int.toNat c82.1.1)]?) fun v87 => (getO (List.set r84.2.1.2.1 (Int.toNat c82.1.1) (v87.1, (c82.2.1.2.1, v87.2.2))) c82.1.1 fun _ => (bnd ((List.set r84.2.1.2.1 (Int.toNat c82.1.1) (v87.1, (c82.2.1.2.1, v87.2.2)))[(Int.toNat c82.1.1)]?) fun v89 => (bnd ((List.set r84.2.1.2.1 (Int.toNat c82.1.1) (v87.1, (c82.2.1.2.1, v87.2.2)))[(Int.toNat c82.1.1)]?) fun v90 => (some ((r84.1.1, ()), ((r84.2.1.1, ((List.set (List.set r84.2.1.2.1 (Int.toNat c82.1.1) (v87.1, (c82.2.1.2.1, v87.2.2))) (Int.toNat c82.1.1) (v90.1, (v90.2.1, (r84.1.1, v90.2.2.2)))), r84.2.1.2.2)), ())))))))))))))))
 (f_impl_KvState_apply_i11 _ ((r2.1.1, ((!r2.1.2.1), ())), (x.2.1, (((0 : Int), ((⟨#[]⟩ : ByteArray), ())), ()))) ((), (r2.2.1, ())) fun c91 o92 =>
 (bnd (f_impl_KvState_do (o92.2.1, (c91.2.1, ()))) fun r93 => (getO r93.2.1.2.1 c91.1.1 fun _ => (bnd (r93.2.1.2.1[(Int.toNat c91.1.1)]?) fun v95 => (bnd (r93.2.1.2.1[(Int.toNat c91.1.1)]?) fun v96 => (getO (List.set r93.2.1.2.1 (Int.toNat c91.1.1) (v96.1, (c91.2.1.2.1, v96.2.2))) c91.1.1 fun _ => (bnd ((List.set r93.2.1.2.1 (Int.toNat c91.1.1) (v96.1, (c91.2.1.2.1, v96.2.2)))[(Int.toNat c91.1.1)]?) fun v98 => (bnd ((List.set r93.2.1.2.1 (Int.toNat c91.1.1) (v96.1, (c91.2.1.2.1, v96.2.2)))[(Int.toNat c91.1.1)]?) fun v99 => (some ((r93.1.1, ()), ((r93.2.1.1, ((List.set (List.set r93.2.1.2.1 (Int.toNat c91.1.1) (v96.1, (c91.2.1.2.1, v96.2.2))) (Int.toNat c91.1.1) (v99.1, (v99.2.1, (r93.1.1, v99.2.2.2)))), r93.2.1.2.2)), ())))))))))))))))))
def sg68 : Sig := ⟨ins68, res68, f_impl_KvState_apply⟩
abbrev ins22 : List Pm := [.val (.sl kdCommand)]
abbrev res22 : List (K × Mk) := [(kdKvState, (.pr (.o .s) (.pr (.o .s) .s))), ((.sl kdReply), (.o .s)), (.bool, .s)]
abbrev f_impl_FoldCommands_l5c : Desc := ⟨[(2, .ptr 2 []), (5, .ptr 5 []), (6, .al 6 []), (15, .v (.sl kdCommand)), (16, .v (.int .i64))], [(2, ⟨kdKvState, (.pr (.o .s) (.pr (.o .s) .s)), true⟩)]⟩
abbrev f_impl_FoldCommands_l5v : Desc := ⟨[(17, .v (.int .i64))], [(5, ⟨kdKvState, (.pr (.o .s) (.pr (.o .s) .s)), true⟩), (6, ⟨(.sl kdReply), (.o .s), false⟩)]⟩
abbrev f_impl_FoldCommands_l5e : List (Ek × Desc) := [(.exit 0, ⟨[], [(5, ⟨kdKvState, (.pr (.o .s) (.pr (.o .s) .s)), true⟩), (6, ⟨(.sl kdReply), (.o .s), false⟩)]⟩)]
def f_impl_FoldCommands_l5 (R : Type) (c : (((List DCommand) × Int × Unit) × (DKvState × Unit))) (v : ((Int × Unit) × (DKvState × (List DReply) × Unit))) (kk : (((List DCommand) × Int × Unit) × (DKvState × Unit)) → (((Int × Unit) × (DKvState × (List DReply) × Unit)) ⊕ (Unit × (DKvState × (List DReply) × Unit))) → Option R) : Option R :=
 (cond (ilt v.1.1 c.1.2.1)
 (getO c.1.1 v.1.1 fun v1 => (bnd (f_impl_KvState_apply (v.2.1, (v1, ()))) fun r2 => (req (decide (List.length v.2.2.1 + List.length [r2.1.1] ≤ 17179869184)) (kk ((c.1.1, (c.1.2.1, ())), (c.2.1, ())) (.inl (((iadd .i64 v.1.1 (1 : Int)), ()), (r2.2.1, ((v.2.2.1 ++ [r2.1.1]), ()))))))))
 (kk ((c.1.1, (c.1.2.1, ())), (c.2.1, ())) (.inr ((), (v.2.1, (v.2.2.1, ()))))))
def f_impl_FoldCommands (x : ((List DCommand) × Unit)) : Option ((DKvState × (List DReply) × Bool × Unit) × Unit) :=
 (cond (ilt (100 : Int) (llen x.1))
 (some (((([] : List DPair), (([] : List DSession), ())), (([] : List DReply), (false, ()))), ()))
 (loopF (c := f_impl_FoldCommands_l5c) (v := f_impl_FoldCommands_l5v) (ex := f_impl_FoldCommands_l5e) f_impl_FoldCommands_l5 _ ((x.1, ((llen x.1), ())), ((([] : List DPair), (([] : List DSession), ())), ())) (((0 : Int), ()), ((([] : List DPair), (([] : List DSession), ())), (([] : List DReply), ()))) fun c3 o4 =>
 (some ((o4.2.1, (o4.2.2.1, (true, ()))), ()))))
def sg22 : Sig := ⟨ins22, res22, f_impl_FoldCommands⟩
abbrev ins117 : List Pm := [.val kdPair, .val kdPair]
abbrev res117 : List (K × Mk) := [(.bool, .s)]
def f_laws_eqPair (x : (DPair × DPair × Unit)) : Option ((Bool × Unit) × Unit) :=
 (cond (!seq x.1.1 x.2.1.1)
 (some ((false, ()), ()))
 (cond (!seq x.1.2.1 x.2.1.2.1)
 (some ((false, ()), ()))
 (some ((true, ()), ()))))
def sg117 : Sig := ⟨ins117, res117, f_laws_eqPair⟩
abbrev ins70 : List Pm := [.val (.sl kdPair), .val (.sl kdPair)]
abbrev res70 : List (K × Mk) := [(.bool, .s)]
abbrev f_laws_eqPairS_l4c : Desc := ⟨[(0, .v (.sl kdPair)), (1, .v (.sl kdPair))], []⟩
abbrev f_laws_eqPairS_l4v : Desc := ⟨[(5, .v (.int .i64))], []⟩
abbrev f_laws_eqPairS_l4e : List (Ek × Desc) := [(.ret, ⟨[(4, .v .bool)], []⟩), (.exit 0, ⟨[], []⟩)]
def f_laws_eqPairS_l4 (R : Type) (c : (((List DPair) × (List DPair) × Unit) × Unit)) (v : ((Int × Unit) × Unit)) (kk : (((List DPair) × (List DPair) × Unit) × Unit) → (((Int × Unit) × Unit) ⊕ (((Bool × Unit) × Unit) ⊕ (Unit × Unit))) → Option R) : Option R :=
 (cond (ilt v.1.1 (llen c.1.1))
 (getO c.1.1 v.1.1 fun v1 => (getO c.1.2.1 v.1.1 fun v2 => (bnd (f_laws_eqPair (v1, (v2, ()))) fun r3 => (cond (!r3.1.1)
 (kk ((c.1.1, (c.1.2.1, ())), ()) (.inr (.inl ((false, ()), ()))))
 (kk ((c.1.1, (c.1.2.1, ())), ()) (.inl (((iadd .i64 v.1.1 (1 : Int)), ()), ())))))))
 (kk ((c.1.1, (c.1.2.1, ())), ()) (.inr (.inr ((), ())))))
def f_laws_eqPairS (x : ((List DPair) × (List DPair) × Unit)) : Option ((Bool × Unit) × Unit) :=
 (cond (!ieq (llen x.1) (llen x.2.1))
 (some ((false, ()), ()))
 (loopF (c := f_laws_eqPairS_l4c) (v := f_laws_eqPairS_l4v) (ex := f_laws_eqPairS_l4e) f_laws_eqPairS_l4 _ ((x.1, (x.2.1, ())), ()) (((0 : Int), ()), ()) fun c4 o5 =>
 (match o5 with
 | .inl y6 => (some ((y6.1.1, ()), ()))
 | .inr z7 => (some ((true, ()), ())))))
def sg70 : Sig := ⟨ins70, res70, f_laws_eqPairS⟩
abbrev ins72 : List Pm := [.val kdReply, .val kdReply]
abbrev res72 : List (K × Mk) := [(.bool, .s)]
def f_laws_eqReply (x : (DReply × DReply × Unit)) : Option ((Bool × Unit) × Unit) :=
 (cond (!ieq x.1.1 x.2.1.1)
 (some ((false, ()), ()))
 (cond (!seq x.1.2.1 x.2.1.2.1)
 (some ((false, ()), ()))
 (some ((true, ()), ()))))
def sg72 : Sig := ⟨ins72, res72, f_laws_eqReply⟩
abbrev ins118 : List Pm := [.val kdSession, .val kdSession]
abbrev res118 : List (K × Mk) := [(.bool, .s)]
def f_laws_eqSession (x : (DSession × DSession × Unit)) : Option ((Bool × Unit) × Unit) :=
 (cond (!ieq x.1.1 x.2.1.1)
 (some ((false, ()), ()))
 (cond (!ieq x.1.2.1 x.2.1.2.1)
 (some ((false, ()), ()))
 (bnd (f_laws_eqReply (x.1.2.2.1, (x.2.1.2.2.1, ()))) fun r1 => (cond (!r1.1.1)
 (some ((false, ()), ()))
 (some ((true, ()), ()))))))
def sg118 : Sig := ⟨ins118, res118, f_laws_eqSession⟩
abbrev ins71 : List Pm := [.val (.sl kdSession), .val (.sl kdSession)]
abbrev res71 : List (K × Mk) := [(.bool, .s)]
abbrev f_laws_eqSessionS_l4c : Desc := ⟨[(0, .v (.sl kdSession)), (1, .v (.sl kdSession))], []⟩
abbrev f_laws_eqSessionS_l4v : Desc := ⟨[(5, .v (.int .i64))], []⟩
abbrev f_laws_eqSessionS_l4e : List (Ek × Desc) := [(.ret, ⟨[(4, .v .bool)], []⟩), (.exit 0, ⟨[], []⟩)]
def f_laws_eqSessionS_l4 (R : Type) (c : (((List DSession) × (List DSession) × Unit) × Unit)) (v : ((Int × Unit) × Unit)) (kk : (((List DSession) × (List DSession) × Unit) × Unit) → (((Int × Unit) × Unit) ⊕ (((Bool × Unit) × Unit) ⊕ (Unit × Unit))) → Option R) : Option R :=
 (cond (ilt v.1.1 (llen c.1.1))
 (getO c.1.1 v.1.1 fun v1 => (getO c.1.2.1 v.1.1 fun v2 => (bnd (f_laws_eqSession (v1, (v2, ()))) fun r3 => (cond (!r3.1.1)
 (kk ((c.1.1, (c.1.2.1, ())), ()) (.inr (.inl ((false, ()), ()))))
 (kk ((c.1.1, (c.1.2.1, ())), ()) (.inl (((iadd .i64 v.1.1 (1 : Int)), ()), ())))))))
 (kk ((c.1.1, (c.1.2.1, ())), ()) (.inr (.inr ((), ())))))
def f_laws_eqSessionS (x : ((List DSession) × (List DSession) × Unit)) : Option ((Bool × Unit) × Unit) :=
 (cond (!ieq (llen x.1) (llen x.2.1))
 (some ((false, ()), ()))
 (loopF (c := f_laws_eqSessionS_l4c) (v := f_laws_eqSessionS_l4v) (ex := f_laws_eqSessionS_l4e) f_laws_eqSessionS_l4 _ ((x.1, (x.2.1, ())), ()) (((0 : Int), ()), ()) fun c4 o5 =>
 (match o5 with
 | .inl y6 => (some ((y6.1.1, ()), ()))
 | .inr z7 => (some ((true, ()), ())))))
def sg71 : Sig := ⟨ins71, res71, f_laws_eqSessionS⟩
abbrev ins26 : List Pm := [.val kdKvState, .val kdKvState]
abbrev res26 : List (K × Mk) := [(.bool, .s)]
def f_laws_eqKvState (x : (DKvState × DKvState × Unit)) : Option ((Bool × Unit) × Unit) :=
 (bnd (f_laws_eqPairS (x.1.1, (x.2.1.1, ()))) fun r1 => (cond (!r1.1.1)
 (some ((false, ()), ()))
 (bnd (f_laws_eqSessionS (x.1.2.1, (x.2.1.2.1, ()))) fun r2 => (cond (!r2.1.1)
 (some ((false, ()), ()))
 (some ((true, ()), ()))))))
def sg26 : Sig := ⟨ins26, res26, f_laws_eqKvState⟩
abbrev ins27 : List Pm := [.val (.sl kdReply), .val (.sl kdReply)]
abbrev res27 : List (K × Mk) := [(.bool, .s)]
abbrev f_laws_eqReplyS_l4c : Desc := ⟨[(0, .v (.sl kdReply)), (1, .v (.sl kdReply))], []⟩
abbrev f_laws_eqReplyS_l4v : Desc := ⟨[(5, .v (.int .i64))], []⟩
abbrev f_laws_eqReplyS_l4e : List (Ek × Desc) := [(.ret, ⟨[(4, .v .bool)], []⟩), (.exit 0, ⟨[], []⟩)]
def f_laws_eqReplyS_l4 (R : Type) (c : (((List DReply) × (List DReply) × Unit) × Unit)) (v : ((Int × Unit) × Unit)) (kk : (((List DReply) × (List DReply) × Unit) × Unit) → (((Int × Unit) × Unit) ⊕ (((Bool × Unit) × Unit) ⊕ (Unit × Unit))) → Option R) : Option R :=
 (cond (ilt v.1.1 (llen c.1.1))
 (getO c.1.1 v.1.1 fun v1 => (getO c.1.2.1 v.1.1 fun v2 => (bnd (f_laws_eqReply (v1, (v2, ()))) fun r3 => (cond (!r3.1.1)
 (kk ((c.1.1, (c.1.2.1, ())), ()) (.inr (.inl ((false, ()), ()))))
 (kk ((c.1.1, (c.1.2.1, ())), ()) (.inl (((iadd .i64 v.1.1 (1 : Int)), ()), ())))))))
 (kk ((c.1.1, (c.1.2.1, ())), ()) (.inr (.inr ((), ())))))
def f_laws_eqReplyS (x : ((List DReply) × (List DReply) × Unit)) : Option ((Bool × Unit) × Unit) :=
 (cond (!ieq (llen x.1) (llen x.2.1))
 (some ((false, ()), ()))
 (loopF (c := f_laws_eqReplyS_l4c) (v := f_laws_eqReplyS_l4v) (ex := f_laws_eqReplyS_l4e) f_laws_eqReplyS_l4 _ ((x.1, (x.2.1, ())), ()) (((0 : Int), ()), ()) fun c4 o5 =>
 (match o5 with
 | .inl y6 => (some ((y6.1.1, ()), ()))
 | .inr z7 => (some ((true, ()), ())))))
def sg27 : Sig := ⟨ins27, res27, f_laws_eqReplyS⟩
abbrev ins55 : List Pm := [.val kdCommand, .val kdCommand]
abbrev res55 : List (K × Mk) := [(.bool, .s)]
def f_laws_eqCommand (x : (DCommand × DCommand × Unit)) : Option ((Bool × Unit) × Unit) :=
 (cond (!ieq x.1.1 x.2.1.1)
 (some ((false, ()), ()))
 (cond (!ieq x.1.2.1 x.2.1.2.1)
 (some ((false, ()), ()))
 (cond (!ieq x.1.2.2.1 x.2.1.2.2.1)
 (some ((false, ()), ()))
 (cond (!seq x.1.2.2.2.1 x.2.1.2.2.2.1)
 (some ((false, ()), ()))
 (cond (!seq x.1.2.2.2.2.1 x.2.1.2.2.2.2.1)
 (some ((false, ()), ()))
 (cond (!seq x.1.2.2.2.2.2.1 x.2.1.2.2.2.2.2.1)
 (some ((false, ()), ()))
 (some ((true, ()), ()))))))))
def sg55 : Sig := ⟨ins55, res55, f_laws_eqCommand⟩
abbrev ins13 : List Pm := [.val (.sl kdCommand), .val (.sl kdCommand)]
abbrev res13 : List (K × Mk) := [(.bool, .s)]
abbrev f_laws_eqCommandS_l4c : Desc := ⟨[(0, .v (.sl kdCommand)), (1, .v (.sl kdCommand))], []⟩
abbrev f_laws_eqCommandS_l4v : Desc := ⟨[(5, .v (.int .i64))], []⟩
abbrev f_laws_eqCommandS_l4e : List (Ek × Desc) := [(.ret, ⟨[(4, .v .bool)], []⟩), (.exit 0, ⟨[], []⟩)]
def f_laws_eqCommandS_l4 (R : Type) (c : (((List DCommand) × (List DCommand) × Unit) × Unit)) (v : ((Int × Unit) × Unit)) (kk : (((List DCommand) × (List DCommand) × Unit) × Unit) → (((Int × Unit) × Unit) ⊕ (((Bool × Unit) × Unit) ⊕ (Unit × Unit))) → Option R) : Option R :=
 (cond (ilt v.1.1 (llen c.1.1))
 (getO c.1.1 v.1.1 fun v1 => (getO c.1.2.1 v.1.1 fun v2 => (bnd (f_laws_eqCommand (v1, (v2, ()))) fun r3 => (cond (!r3.1.1)
 (kk ((c.1.1, (c.1.2.1, ())), ()) (.inr (.inl ((false, ()), ()))))
 (kk ((c.1.1, (c.1.2.1, ())), ()) (.inl (((iadd .i64 v.1.1 (1 : Int)), ()), ())))))))
 (kk ((c.1.1, (c.1.2.1, ())), ()) (.inr (.inr ((), ())))))
def f_laws_eqCommandS (x : ((List DCommand) × (List DCommand) × Unit)) : Option ((Bool × Unit) × Unit) :=
 (cond (!ieq (llen x.1) (llen x.2.1))
 (some ((false, ()), ()))
 (loopF (c := f_laws_eqCommandS_l4c) (v := f_laws_eqCommandS_l4v) (ex := f_laws_eqCommandS_l4e) f_laws_eqCommandS_l4 _ ((x.1, (x.2.1, ())), ()) (((0 : Int), ()), ()) fun c4 o5 =>
 (match o5 with
 | .inl y6 => (some ((y6.1.1, ()), ()))
 | .inr z7 => (some ((true, ()), ())))))
def sg13 : Sig := ⟨ins13, res13, f_laws_eqCommandS⟩
abbrev ins56 : List Pm := [.val (.int .i64)]
abbrev res56 : List (K × Mk) := [(.str, .s)]
abbrev f_laws_markText_l4c : Desc := ⟨[], []⟩
abbrev f_laws_markText_l4v : Desc := ⟨[(0, .v (.int .i64)), (3, .v .str)], []⟩
abbrev f_laws_markText_l4e : List (Ek × Desc) := [(.exit 0, ⟨[(3, .v .str)], []⟩)]
def f_laws_markText_l4 (R : Type) (c : (Unit × Unit)) (v : ((Int × ByteArray × Unit) × Unit)) (kk : (Unit × Unit) → (((Int × ByteArray × Unit) × Unit) ⊕ ((ByteArray × Unit) × Unit)) → Option R) : Option R :=
 (cond (ilt (0 : Int) v.1.1)
 (catO (strOf [(IntKind.wrap .u8 (iadd .i64 (48 : Int) (irem .i64 v.1.1 (10 : Int))))]) v.1.2.1 fun v1 => (kk ((), ()) (.inl (((iquo .i64 v.1.1 (10 : Int)), (v1, ())), ()))))
 (kk ((), ()) (.inr ((v.1.2.1, ()), ()))))
def f_laws_markText (x : (Int × Unit)) : Option ((ByteArray × Unit) × Unit) :=
 (cond (ile x.1 (0 : Int))
 (some (((⟨#[109, 48]⟩ : ByteArray), ()), ()))
 (loopF (c := f_laws_markText_l4c) (v := f_laws_markText_l4v) (ex := f_laws_markText_l4e) f_laws_markText_l4 _ ((), ()) ((x.1, ((⟨#[]⟩ : ByteArray), ())), ()) fun c2 o3 =>
 (catO (⟨#[109]⟩ : ByteArray) o3.1.1 fun v4 => (some ((v4, ()), ())))))
def sg56 : Sig := ⟨ins56, res56, f_laws_markText⟩
abbrev ins14 : List Pm := [.chg (.sl kdCommand) (.o .s), .val (.int .i64)]
abbrev res14 : List (K × Mk) := [((.int .i64), .s)]
abbrev f_laws_markCommandS_l2c : Desc := ⟨[(0, .al 0 [])], []⟩
abbrev f_laws_markCommandS_l2v : Desc := ⟨[(1, .v (.int .i64)), (5, .v (.int .i64))], [(0, ⟨(.sl kdCommand), (.o .s), false⟩)]⟩
abbrev f_laws_markCommandS_l2e : List (Ek × Desc) := [(.exit 0, ⟨[(1, .v (.int .i64))], [(0, ⟨(.sl kdCommand), (.o .s), false⟩)]⟩)]
def f_laws_markCommandS_l2 (R : Type) (c : (Unit × Unit)) (v : ((Int × Int × Unit) × ((List DCommand) × Unit))) (kk : (Unit × Unit) → (((Int × Int × Unit) × ((List DCommand) × Unit)) ⊕ ((Int × Unit) × ((List DCommand) × Unit))) → Option R) : Option R :=
 (cond (ilt v.1.2.1 (llen v.2.1))
 (getO v.2.1 v.1.2.1 fun _ => (bnd (v.2.1[(Int.toNat v.1.2.1)]?) fun v2 => (bnd (v.2.1[(Int.toNat v.1.2.1)]?) fun v3 => (getO (List.set v.2.1 (Int.toNat v.1.2.1) (v.1.1, v3.2)) v.1.2.1 fun _ => (bnd ((List.set v.2.1 (Int.toNat v.1.2.1) (v.1.1, v3.2))[(Int.toNat v.1.2.1)]?) fun v5 => (bnd ((List.set v.2.1 (Int.toNat v.1.2.1) (v.1.1, v3.2))[(Int.toNat v.1.2.1)]?) fun v6 => (getO (List.set (List.set v.2.1 (Int.toNat v.1.2.1) (v.1.1, v3.2)) (Int.toNat v.1.2.1) (v6.1, ((iadd .i64 v.1.1 (1 : Int)), v6.2.2))) v.1.2.1 fun _ => (bnd ((List.set (List.set v.2.1 (Int.toNat v.1.2.1) (v.1.1, v3.2)) (Int.toNat v.1.2.1) (v6.1, ((iadd .i64 v.1.1 (1 : Int)), v6.2.2)))[(Int.toNat v.1.2.1)]?) fun v8 => (bnd ((List.set (List.set v.2.1 (Int.toNat v.1.2.1) (v.1.1, v3.2)) (Int.toNat v.1.2.1) (v6.1, ((iadd .i64 v.1.1 (1 : Int)), v6.2.2)))[(Int.toNat v.1.2.1)]?) fun v9 => (bnd (f_laws_markText ((iadd .i64 (iadd .i64 (iadd .i64 v.1.1 (1 : Int)) (1 : Int)) (1 : Int)), ())) fun r10 => (getO (List.set (List.set (List.set v.2.1 (Int.toNat v.1.2.1) (v.1.1, v3.2)) (Int.toNat v.1.2.1) (v6.1, ((iadd .i64 v.1.1 (1 : Int)), v6.2.2))) (Int.toNat v.1.2.1) (v9.1, (v9.2.1, ((iadd .i64 (iadd .i64 v.1.1 (1 : Int)) (1 : Int)), v9.2.2.2)))) v.1.2.1 fun _ => (bnd ((List.set (List.set (List.set v.2.1 (Int.toNat v.1.2.1) (v.1.1, v3.2)) (Int.toNat v.1.2.1) (v6.1, ((iadd .i64 v.1.1 (1 : Int)), v6.2.2))) (Int.toNat v.1.2.1) (v9.1, (v9.2.1, ((iadd .i64 (iadd .i64 v.1.1 (1 : Int)) (1 : Int)), v9.2.2.2))))[(Int.toNat v.1.2.1)]?) fun v12 => (bnd ((List.set (List.set (List.set v.2.1 (Int.toNat v.1.2.1) (v.1.1, v3.2)) (Int.toNat v.1.2.1) (v6.1, ((iadd .i64 v.1.1 (1 : Int)), v6.2.2))) (Int.toNat v.1.2.1) (v9.1, (v9.2.1, ((iadd .i64 (iadd .i64 v.1.1 (1 : Int)) (1 : Int)), v9.2.2.2))))[(Int.toNat v.1.2.1)]?) fun v13 => (bnd (f_laws_markText ((iadd .i64 (iadd .i64 (iadd .i64 (iadd .i64 v.1.1 (1 : Int)) (1 : Int)) (1 : Int)) (1 : Int)), ())) fun r14 => (getO (List.set (List.set (List.set (List.set v.2.1 (Int.toNat v.1.2.1) (v.1.1, v3.2)) (Int.toNat v.1.2.1) (v6.1, ((iadd .i64 v.1.1 (1 : Int)), v6.2.2))) (Int.toNat v.1.2.1) (v9.1, (v9.2.1, ((iadd .i64 (iadd .i64 v.1.1 (1 : Int)) (1 : Int)), v9.2.2.2)))) (Int.toNat v.1.2.1) (v13.1, (v13.2.1, (v13.2.2.1, (r10.1.1, v13.2.2.2.2))))) v.1.2.1 fun _ => (bnd ((List.set (List.set (List.set (List.set v.2.1 (Int.toNat v.1.2.1) (v.1.1, v3.2)) (Int.toNat v.1.2.1) (v6.1, ((iadd .i64 v.1.1 (1 : Int)), v6.2.2))) (Int.toNat v.1.2.1) (v9.1, (v9.2.1, ((iadd .i64 (iadd .i64 v.1.1 (1 : Int)) (1 : Int)), v9.2.2.2)))) (Int.toNat v.1.2.1) (v13.1, (v13.2.1, (v13.2.2.1, (r10.1.1, v13.2.2.2.2)))))[(Int.toNat v.1.2.1)]?) fun v16 => (bnd ((List.set (List.set (List.set (List.set v.2.1 (Int.toNat v.1.2.1) (v.1.1, v3.2)) (Int.toNat v.1.2.1) (v6.1, ((iadd .i64 v.1.1 (1 : Int)), v6.2.2))) (Int.toNat v.1.2.1) (v9.1, (v9.2.1, ((iadd .i64 (iadd .i64 v.1.1 (1 : Int)) (1 : Int)), v9.2.2.2)))) (Int.toNat v.1.2.1) (v13.1, (v13.2.1, (v13.2.2.1, (r10.1.1, v13.2.2.2.2)))))[(Int.toNat v.1.2.1)]?) fun v17 => (bnd (f_laws_markText ((iadd .i64 (iadd .i64 (iadd .i64 (iadd .i64 (iadd .i64 v.1.1 (1 : Int)) (1 : Int)) (1 : Int)) (1 : Int)) (1 : Int)), ())) fun r18 => (getO (List.set (List.set (List.set (List.set (List.set v.2.1 (Int.toNat v.1.2.1) (v.1.1, v3.2)) (Int.toNat v.1.2.1) (v6.1, ((iadd .i64 v.1.1 (1 : Int)), v6.2.2))) (Int.toNat v.1.2.1) (v9.1, (v9.2.1, ((iadd .i64 (iadd .i64 v.1.1 (1 : Int)) (1 : Int)), v9.2.2.2)))) (Int.toNat v.1.2.1) (v13.1, (v13.2.1, (v13.2.2.1, (r10.1.1, v13.2.2.2.2))))) (Int.toNat v.1.2.1) (v17.1, (v17.2.1, (v17.2.2.1, (v17.2.2.2.1, (r14.1.1, v17.2.2.2.2.2)))))) v.1.2.1 fun _ => (bnd ((List.set (List.set (List.set (List.set (List.set v.2.1 (Int.toNat v.1.2.1) (v.1.1, v3.2)) (Int.toNat v.1.2.1) (v6.1, ((iadd .i64 v.1.1 (1 : Int)), v6.2.2))) (Int.toNat v.1.2.1) (v9.1, (v9.2.1, ((iadd .i64 (iadd .i64 v.1.1 (1 : Int)) (1 : Int)), v9.2.2.2)))) (Int.toNat v.1.2.1) (v13.1, (v13.2.1, (v13.2.2.1, (r10.1.1, v13.2.2.2.2))))) (Int.toNat v.1.2.1) (v17.1, (v17.2.1, (v17.2.2.1, (v17.2.2.2.1, (r14.1.1, v17.2.2.2.2.2))))))[(Int.toNat v.1.2.1)]?) fun v20 => (bnd ((List.set (List.set (List.set (List.set (List.set v.2.1 (Int.toNat v.1.2.1) (v.1.1, v3.2)) (Int.toNat v.1.2.1) (v6.1, ((iadd .i64 v.1.1 (1 : Int)), v6.2.2))) (Int.toNat v.1.2.1) (v9.1, (v9.2.1, ((iadd .i64 (iadd .i64 v.1.1 (1 : Int)) (1 : Int)), v9.2.2.2)))) (Int.toNat v.1.2.1) (v13.1, (v13.2.1, (v13.2.2.1, (r10.1.1, v13.2.2.2.2))))) (Int.toNat v.1.2.1) (v17.1, (v17.2.1, (v17.2.2.1, (v17.2.2.2.1, (r14.1.1, v17.2.2.2.2.2))))))[(Int.toNat v.1.2.1)]?) fun v21 => (kk ((), ()) (.inl (((iadd .i64 (iadd .i64 (iadd .i64 (iadd .i64 (iadd .i64 (iadd .i64 v.1.1 (1 : Int)) (1 : Int)) (1 : Int)) (1 : Int)) (1 : Int)) (1 : Int)), ((iadd .i64 v.1.2.1 (1 : Int)), ())), ((List.set (List.set (List.set (List.set (List.set (List.set v.2.1 (Int.toNat v.1.2.1) (v.1.1, v3.2)) (Int.toNat v.1.2.1) (v6.1, ((iadd .i64 v.1.1 (1 : Int)), v6.2.2))) (Int.toNat v.1.2.1) (v9.1, (v9.2.1, ((iadd .i64 (iadd .i64 v.1.1 (1 : Int)) (1 : Int)), v9.2.2.2)))) (Int.toNat v.1.2.1) (v13.1, (v13.2.1, (v13.2.2.1, (r10.1.1, v13.2.2.2.2))))) (Int.toNat v.1.2.1) (v17.1, (v17.2.1, (v17.2.2.1, (v17.2.2.2.1, (r14.1.1, v17.2.2.2.2.2)))))) (Int.toNat v.1.2.1) (v21.1, (v21.2.1, (v21.2.2.1, (v21.2.2.2.1, (v21.2.2.2.2.1, (r18.1.1, v21.2.2.2.2.2.2))))))), ())))))))))))))))))))))))))
 (kk ((), ()) (.inr ((v.1.1, ()), (v.2.1, ())))))
def f_laws_markCommandS (x : ((List DCommand) × Int × Unit)) : Option ((Int × Unit) × ((List DCommand) × Unit)) :=
 (loopF (c := f_laws_markCommandS_l2c) (v := f_laws_markCommandS_l2v) (ex := f_laws_markCommandS_l2e) f_laws_markCommandS_l2 _ ((), ()) ((x.2.1, ((0 : Int), ())), (x.1, ())) fun c22 o23 =>
 (some ((o23.1.1, ()), (o23.2.1, ()))))
def sg14 : Sig := ⟨ins14, res14, f_laws_markCommandS⟩
abbrev ins73 : List Pm := [.chg (.sl kdPair) (.o .s), .val (.int .i64)]
abbrev res73 : List (K × Mk) := [((.int .i64), .s)]
abbrev f_laws_markPairS_l2c : Desc := ⟨[(0, .al 0 [])], []⟩
abbrev f_laws_markPairS_l2v : Desc := ⟨[(1, .v (.int .i64)), (5, .v (.int .i64))], [(0, ⟨(.sl kdPair), (.o .s), false⟩)]⟩
abbrev f_laws_markPairS_l2e : List (Ek × Desc) := [(.exit 0, ⟨[(1, .v (.int .i64))], [(0, ⟨(.sl kdPair), (.o .s), false⟩)]⟩)]
def f_laws_markPairS_l2 (R : Type) (c : (Unit × Unit)) (v : ((Int × Int × Unit) × ((List DPair) × Unit))) (kk : (Unit × Unit) → (((Int × Int × Unit) × ((List DPair) × Unit)) ⊕ ((Int × Unit) × ((List DPair) × Unit))) → Option R) : Option R :=
 (cond (ilt v.1.2.1 (llen v.2.1))
 (bnd (f_laws_markText (v.1.1, ())) fun r1 => (getO v.2.1 v.1.2.1 fun _ => (bnd (v.2.1[(Int.toNat v.1.2.1)]?) fun v3 => (bnd (v.2.1[(Int.toNat v.1.2.1)]?) fun v4 => (bnd (f_laws_markText ((iadd .i64 v.1.1 (1 : Int)), ())) fun r5 => (getO (List.set v.2.1 (Int.toNat v.1.2.1) (r1.1.1, v4.2)) v.1.2.1 fun _ => (bnd ((List.set v.2.1 (Int.toNat v.1.2.1) (r1.1.1, v4.2))[(Int.toNat v.1.2.1)]?) fun v7 => (bnd ((List.set v.2.1 (Int.toNat v.1.2.1) (r1.1.1, v4.2))[(Int.toNat v.1.2.1)]?) fun v8 => (kk ((), ()) (.inl (((iadd .i64 (iadd .i64 v.1.1 (1 : Int)) (1 : Int)), ((iadd .i64 v.1.2.1 (1 : Int)), ())), ((List.set (List.set v.2.1 (Int.toNat v.1.2.1) (r1.1.1, v4.2)) (Int.toNat v.1.2.1) (v8.1, (r5.1.1, v8.2.2))), ()))))))))))))
 (kk ((), ()) (.inr ((v.1.1, ()), (v.2.1, ())))))
def f_laws_markPairS (x : ((List DPair) × Int × Unit)) : Option ((Int × Unit) × ((List DPair) × Unit)) :=
 (loopF (c := f_laws_markPairS_l2c) (v := f_laws_markPairS_l2v) (ex := f_laws_markPairS_l2e) f_laws_markPairS_l2 _ ((), ()) ((x.2.1, ((0 : Int), ())), (x.1, ())) fun c9 o10 =>
 (some ((o10.1.1, ()), (o10.2.1, ()))))
def sg73 : Sig := ⟨ins73, res73, f_laws_markPairS⟩
abbrev ins74 : List Pm := [.chg (.sl kdSession) (.o .s), .val (.int .i64)]
abbrev res74 : List (K × Mk) := [((.int .i64), .s)]
abbrev f_laws_markSessionS_l2c : Desc := ⟨[(0, .al 0 [])], []⟩
abbrev f_laws_markSessionS_l2v : Desc := ⟨[(1, .v (.int .i64)), (5, .v (.int .i64))], [(0, ⟨(.sl kdSession), (.o .s), false⟩)]⟩
abbrev f_laws_markSessionS_l2e : List (Ek × Desc) := [(.exit 0, ⟨[(1, .v (.int .i64))], [(0, ⟨(.sl kdSession), (.o .s), false⟩)]⟩)]
def f_laws_markSessionS_l2 (R : Type) (c : (Unit × Unit)) (v : ((Int × Int × Unit) × ((List DSession) × Unit))) (kk : (Unit × Unit) → (((Int × Int × Unit) × ((List DSession) × Unit)) ⊕ ((Int × Unit) × ((List DSession) × Unit))) → Option R) : Option R :=
 (cond (ilt v.1.2.1 (llen v.2.1))
 (getO v.2.1 v.1.2.1 fun _ => (bnd (v.2.1[(Int.toNat v.1.2.1)]?) fun v2 => (bnd (v.2.1[(Int.toNat v.1.2.1)]?) fun v3 => (getO (List.set v.2.1 (Int.toNat v.1.2.1) (v.1.1, v3.2)) v.1.2.1 fun _ => (bnd ((List.set v.2.1 (Int.toNat v.1.2.1) (v.1.1, v3.2))[(Int.toNat v.1.2.1)]?) fun v5 => (bnd ((List.set v.2.1 (Int.toNat v.1.2.1) (v.1.1, v3.2))[(Int.toNat v.1.2.1)]?) fun v6 => (getO (List.set (List.set v.2.1 (Int.toNat v.1.2.1) (v.1.1, v3.2)) (Int.toNat v.1.2.1) (v6.1, ((iadd .i64 v.1.1 (1 : Int)), v6.2.2))) v.1.2.1 fun _ => (bnd ((List.set (List.set v.2.1 (Int.toNat v.1.2.1) (v.1.1, v3.2)) (Int.toNat v.1.2.1) (v6.1, ((iadd .i64 v.1.1 (1 : Int)), v6.2.2)))[(Int.toNat v.1.2.1)]?) fun v8 => (bnd ((List.set (List.set v.2.1 (Int.toNat v.1.2.1) (v.1.1, v3.2)) (Int.toNat v.1.2.1) (v6.1, ((iadd .i64 v.1.1 (1 : Int)), v6.2.2)))[(Int.toNat v.1.2.1)]?) fun v9 => (bnd ((List.set (List.set v.2.1 (Int.toNat v.1.2.1) (v.1.1, v3.2)) (Int.toNat v.1.2.1) (v6.1, ((iadd .i64 v.1.1 (1 : Int)), v6.2.2)))[(Int.toNat v.1.2.1)]?) fun v10 => (bnd (f_laws_markText ((iadd .i64 (iadd .i64 (iadd .i64 v.1.1 (1 : Int)) (1 : Int)) (1 : Int)), ())) fun r11 => (getO (List.set (List.set (List.set v.2.1 (Int.toNat v.1.2.1) (v.1.1, v3.2)) (Int.toNat v.1.2.1) (v6.1, ((iadd .i64 v.1.1 (1 : Int)), v6.2.2))) (Int.toNat v.1.2.1) (v10.1, (v10.2.1, (((iadd .i64 (iadd .i64 v.1.1 (1 : Int)) (1 : Int)), v10.2.2.1.2), v10.2.2.2)))) v.1.2.1 fun _ => (bnd ((List.set (List.set (List.set v.2.1 (Int.toNat v.1.2.1) (v.1.1, v3.2)) (Int.toNat v.1.2.1) (v6.1, ((iadd .i64 v.1.1 (1 : Int)), v6.2.2))) (Int.toNat v.1.2.1) (v10.1, (v10.2.1, (((iadd .i64 (iadd .i64 v.1.1 (1 : Int)) (1 : Int)), v10.2.2.1.2), v10.2.2.2))))[(Int.toNat v.1.2.1)]?) fun v13 => (bnd ((List.set (List.set (List.set v.2.1 (Int.toNat v.1.2.1) (v.1.1, v3.2)) (Int.toNat v.1.2.1) (v6.1, ((iadd .i64 v.1.1 (1 : Int)), v6.2.2))) (Int.toNat v.1.2.1) (v10.1, (v10.2.1, (((iadd .i64 (iadd .i64 v.1.1 (1 : Int)) (1 : Int)), v10.2.2.1.2), v10.2.2.2))))[(Int.toNat v.1.2.1)]?) fun v14 => (bnd ((List.set (List.set (List.set v.2.1 (Int.toNat v.1.2.1) (v.1.1, v3.2)) (Int.toNat v.1.2.1) (v6.1, ((iadd .i64 v.1.1 (1 : Int)), v6.2.2))) (Int.toNat v.1.2.1) (v10.1, (v10.2.1, (((iadd .i64 (iadd .i64 v.1.1 (1 : Int)) (1 : Int)), v10.2.2.1.2), v10.2.2.2))))[(Int.toNat v.1.2.1)]?) fun v15 => (kk ((), ()) (.inl (((iadd .i64 (iadd .i64 (iadd .i64 (iadd .i64 v.1.1 (1 : Int)) (1 : Int)) (1 : Int)) (1 : Int)), ((iadd .i64 v.1.2.1 (1 : Int)), ())), ((List.set (List.set (List.set (List.set v.2.1 (Int.toNat v.1.2.1) (v.1.1, v3.2)) (Int.toNat v.1.2.1) (v6.1, ((iadd .i64 v.1.1 (1 : Int)), v6.2.2))) (Int.toNat v.1.2.1) (v10.1, (v10.2.1, (((iadd .i64 (iadd .i64 v.1.1 (1 : Int)) (1 : Int)), v10.2.2.1.2), v10.2.2.2)))) (Int.toNat v.1.2.1) (v15.1, (v15.2.1, ((v15.2.2.1.1, (r11.1.1, v15.2.2.1.2.2)), v15.2.2.2)))), ())))))))))))))))))))
 (kk ((), ()) (.inr ((v.1.1, ()), (v.2.1, ())))))
def f_laws_markSessionS (x : ((List DSession) × Int × Unit)) : Option ((Int × Unit) × ((List DSession) × Unit)) :=
 (loopF (c := f_laws_markSessionS_l2c) (v := f_laws_markSessionS_l2v) (ex := f_laws_markSessionS_l2e) f_laws_markSessionS_l2 _ ((), ()) ((x.2.1, ((0 : Int), ())), (x.1, ())) fun c16 o17 =>
 (some ((o17.1.1, ()), (o17.2.1, ()))))
def sg74 : Sig := ⟨ins74, res74, f_laws_markSessionS⟩
abbrev ins28 : List Pm := [.chg kdKvState (.pr (.o .s) (.pr (.o .s) .s)), .val (.int .i64)]
abbrev res28 : List (K × Mk) := [((.int .i64), .s)]
def f_laws_markKvState (x : (DKvState × Int × Unit)) : Option ((Int × Unit) × (DKvState × Unit)) :=
 (bnd (f_laws_markPairS (x.1.1, (x.2.1, ()))) fun r1 => (bnd (f_laws_markSessionS (x.1.2.1, (r1.1.1, ()))) fun r2 => (some ((r2.1.1, ()), ((r1.2.1, (r2.2.1, x.1.2.2)), ())))))
def sg28 : Sig := ⟨ins28, res28, f_laws_markKvState⟩
abbrev ins29 : List Pm := [.chg (.sl kdReply) (.o .s), .val (.int .i64)]
abbrev res29 : List (K × Mk) := [((.int .i64), .s)]
abbrev f_laws_markReplyS_l2c : Desc := ⟨[(0, .al 0 [])], []⟩
abbrev f_laws_markReplyS_l2v : Desc := ⟨[(1, .v (.int .i64)), (5, .v (.int .i64))], [(0, ⟨(.sl kdReply), (.o .s), false⟩)]⟩
abbrev f_laws_markReplyS_l2e : List (Ek × Desc) := [(.exit 0, ⟨[(1, .v (.int .i64))], [(0, ⟨(.sl kdReply), (.o .s), false⟩)]⟩)]
def f_laws_markReplyS_l2 (R : Type) (c : (Unit × Unit)) (v : ((Int × Int × Unit) × ((List DReply) × Unit))) (kk : (Unit × Unit) → (((Int × Int × Unit) × ((List DReply) × Unit)) ⊕ ((Int × Unit) × ((List DReply) × Unit))) → Option R) : Option R :=
 (cond (ilt v.1.2.1 (llen v.2.1))
 (getO v.2.1 v.1.2.1 fun _ => (bnd (v.2.1[(Int.toNat v.1.2.1)]?) fun v2 => (bnd (v.2.1[(Int.toNat v.1.2.1)]?) fun v3 => (bnd (f_laws_markText ((iadd .i64 v.1.1 (1 : Int)), ())) fun r4 => (getO (List.set v.2.1 (Int.toNat v.1.2.1) (v.1.1, v3.2)) v.1.2.1 fun _ => (bnd ((List.set v.2.1 (Int.toNat v.1.2.1) (v.1.1, v3.2))[(Int.toNat v.1.2.1)]?) fun v6 => (bnd ((List.set v.2.1 (Int.toNat v.1.2.1) (v.1.1, v3.2))[(Int.toNat v.1.2.1)]?) fun v7 => (kk ((), ()) (.inl (((iadd .i64 (iadd .i64 v.1.1 (1 : Int)) (1 : Int)), ((iadd .i64 v.1.2.1 (1 : Int)), ())), ((List.set (List.set v.2.1 (Int.toNat v.1.2.1) (v.1.1, v3.2)) (Int.toNat v.1.2.1) (v7.1, (r4.1.1, v7.2.2))), ())))))))))))
 (kk ((), ()) (.inr ((v.1.1, ()), (v.2.1, ())))))
def f_laws_markReplyS (x : ((List DReply) × Int × Unit)) : Option ((Int × Unit) × ((List DReply) × Unit)) :=
 (loopF (c := f_laws_markReplyS_l2c) (v := f_laws_markReplyS_l2v) (ex := f_laws_markReplyS_l2e) f_laws_markReplyS_l2 _ ((), ()) ((x.2.1, ((0 : Int), ())), (x.1, ())) fun c8 o9 =>
 (some ((o9.1.1, ()), (o9.2.1, ()))))
def sg29 : Sig := ⟨ins29, res29, f_laws_markReplyS⟩
abbrev ins75 : List Pm := [.val (.sl kdPair), .val (.int .i64)]
abbrev res75 : List (K × Mk) := [((.int .i64), .s)]
abbrev f_laws_heldPairS_l2c : Desc := ⟨[(0, .v (.sl kdPair))], []⟩
abbrev f_laws_heldPairS_l2v : Desc := ⟨[(1, .v (.int .i64)), (5, .v (.int .i64))], []⟩
abbrev f_laws_heldPairS_l2e : List (Ek × Desc) := [(.ret, ⟨[(4, .v (.int .i64))], []⟩), (.exit 0, ⟨[(1, .v (.int .i64))], []⟩)]
def f_laws_heldPairS_l2 (R : Type) (c : (((List DPair) × Unit) × Unit)) (v : ((Int × Int × Unit) × Unit)) (kk : (((List DPair) × Unit) × Unit) → (((Int × Int × Unit) × Unit) ⊕ (((Int × Unit) × Unit) ⊕ ((Int × Unit) × Unit))) → Option R) : Option R :=
 (cond (ilt v.1.2.1 (llen c.1.1))
 (getO c.1.1 v.1.2.1 fun v1 => (bnd (f_laws_markText (v.1.1, ())) fun r2 => (cond (!seq v1.1 r2.1.1)
 (kk ((c.1.1, ()), ()) (.inr (.inl (((-1 : Int), ()), ()))))
 (getO c.1.1 v.1.2.1 fun v3 => (bnd (f_laws_markText ((iadd .i64 v.1.1 (1 : Int)), ())) fun r4 => (cond (!seq v3.2.1 r4.1.1)
 (kk ((c.1.1, ()), ()) (.inr (.inl (((-1 : Int), ()), ()))))
 (kk ((c.1.1, ()), ()) (.inl (((iadd .i64 (iadd .i64 v.1.1 (1 : Int)) (1 : Int)), ((iadd .i64 v.1.2.1 (1 : Int)), ())), ())))))))))
 (kk ((c.1.1, ()), ()) (.inr (.inr ((v.1.1, ()), ())))))
def f_laws_heldPairS (x : ((List DPair) × Int × Unit)) : Option ((Int × Unit) × Unit) :=
 (loopF (c := f_laws_heldPairS_l2c) (v := f_laws_heldPairS_l2v) (ex := f_laws_heldPairS_l2e) f_laws_heldPairS_l2 _ ((x.1, ()), ()) ((x.2.1, ((0 : Int), ())), ()) fun c5 o6 =>
 (match o6 with
 | .inl y7 => (some ((y7.1.1, ()), ()))
 | .inr z8 => (some ((z8.1.1, ()), ()))))
def sg75 : Sig := ⟨ins75, res75, f_laws_heldPairS⟩
abbrev ins76 : List Pm := [.val (.sl kdSession), .val (.int .i64)]
abbrev res76 : List (K × Mk) := [((.int .i64), .s)]
abbrev f_laws_heldSessionS_l2c : Desc := ⟨[(0, .v (.sl kdSession))], []⟩
abbrev f_laws_heldSessionS_l2v : Desc := ⟨[(1, .v (.int .i64)), (5, .v (.int .i64))], []⟩
abbrev f_laws_heldSessionS_l2e : List (Ek × Desc) := [(.ret, ⟨[(4, .v (.int .i64))], []⟩), (.exit 0, ⟨[(1, .v (.int .i64))], []⟩)]
def f_laws_heldSessionS_l2 (R : Type) (c : (((List DSession) × Unit) × Unit)) (v : ((Int × Int × Unit) × Unit)) (kk : (((List DSession) × Unit) × Unit) → (((Int × Int × Unit) × Unit) ⊕ (((Int × Unit) × Unit) ⊕ ((Int × Unit) × Unit))) → Option R) : Option R :=
 (cond (ilt v.1.2.1 (llen c.1.1))
 (getO c.1.1 v.1.2.1 fun v1 => (cond (!ieq v1.1 v.1.1)
 (kk ((c.1.1, ()), ()) (.inr (.inl (((-1 : Int), ()), ()))))
 (getO c.1.1 v.1.2.1 fun v2 => (cond (!ieq v2.2.1 (iadd .i64 v.1.1 (1 : Int)))
 (kk ((c.1.1, ()), ()) (.inr (.inl (((-1 : Int), ()), ()))))
 (getO c.1.1 v.1.2.1 fun v3 => (cond (!ieq v3.2.2.1.1 (iadd .i64 (iadd .i64 v.1.1 (1 : Int)) (1 : Int)))
 (kk ((c.1.1, ()), ()) (.inr (.inl (((-1 : Int), ()), ()))))
 (getO c.1.1 v.1.2.1 fun v4 => (bnd (f_laws_markText ((iadd .i64 (iadd .i64 (iadd .i64 v.1.1 (1 : Int)) (1 : Int)) (1 : Int)), ())) fun r5 => (cond (!seq v4.2.2.1.2.1 r5.1.1)
 (kk ((c.1.1, ()), ()) (.inr (.inl (((-1 : Int), ()), ()))))
 (kk ((c.1.1, ()), ()) (.inl (((iadd .i64 (iadd .i64 (iadd .i64 (iadd .i64 v.1.1 (1 : Int)) (1 : Int)) (1 : Int)) (1 : Int)), ((iadd .i64 v.1.2.1 (1 : Int)), ())), ()))))))))))))
 (kk ((c.1.1, ()), ()) (.inr (.inr ((v.1.1, ()), ())))))
def f_laws_heldSessionS (x : ((List DSession) × Int × Unit)) : Option ((Int × Unit) × Unit) :=
 (loopF (c := f_laws_heldSessionS_l2c) (v := f_laws_heldSessionS_l2v) (ex := f_laws_heldSessionS_l2e) f_laws_heldSessionS_l2 _ ((x.1, ()), ()) ((x.2.1, ((0 : Int), ())), ()) fun c6 o7 =>
 (match o7 with
 | .inl y8 => (some ((y8.1.1, ()), ()))
 | .inr z9 => (some ((z9.1.1, ()), ()))))
def sg76 : Sig := ⟨ins76, res76, f_laws_heldSessionS⟩
abbrev ins30 : List Pm := [.val kdKvState, .val (.int .i64)]
abbrev res30 : List (K × Mk) := [((.int .i64), .s)]
def f_laws_heldKvState (x : (DKvState × Int × Unit)) : Option ((Int × Unit) × Unit) :=
 (bnd (f_laws_heldPairS (x.1.1, (x.2.1, ()))) fun r1 => (cond (ilt r1.1.1 (0 : Int))
 (some (((-1 : Int), ()), ()))
 (bnd (f_laws_heldSessionS (x.1.2.1, (r1.1.1, ()))) fun r2 => (cond (ilt r2.1.1 (0 : Int))
 (some (((-1 : Int), ()), ()))
 (some ((r2.1.1, ()), ()))))))
def sg30 : Sig := ⟨ins30, res30, f_laws_heldKvState⟩
abbrev ins31 : List Pm := [.val (.sl kdReply), .val (.int .i64)]
abbrev res31 : List (K × Mk) := [((.int .i64), .s)]
abbrev f_laws_heldReplyS_l2c : Desc := ⟨[(0, .v (.sl kdReply))], []⟩
abbrev f_laws_heldReplyS_l2v : Desc := ⟨[(1, .v (.int .i64)), (5, .v (.int .i64))], []⟩
abbrev f_laws_heldReplyS_l2e : List (Ek × Desc) := [(.ret, ⟨[(4, .v (.int .i64))], []⟩), (.exit 0, ⟨[(1, .v (.int .i64))], []⟩)]
def f_laws_heldReplyS_l2 (R : Type) (c : (((List DReply) × Unit) × Unit)) (v : ((Int × Int × Unit) × Unit)) (kk : (((List DReply) × Unit) × Unit) → (((Int × Int × Unit) × Unit) ⊕ (((Int × Unit) × Unit) ⊕ ((Int × Unit) × Unit))) → Option R) : Option R :=
 (cond (ilt v.1.2.1 (llen c.1.1))
 (getO c.1.1 v.1.2.1 fun v1 => (cond (!ieq v1.1 v.1.1)
 (kk ((c.1.1, ()), ()) (.inr (.inl (((-1 : Int), ()), ()))))
 (getO c.1.1 v.1.2.1 fun v2 => (bnd (f_laws_markText ((iadd .i64 v.1.1 (1 : Int)), ())) fun r3 => (cond (!seq v2.2.1 r3.1.1)
 (kk ((c.1.1, ()), ()) (.inr (.inl (((-1 : Int), ()), ()))))
 (kk ((c.1.1, ()), ()) (.inl (((iadd .i64 (iadd .i64 v.1.1 (1 : Int)) (1 : Int)), ((iadd .i64 v.1.2.1 (1 : Int)), ())), ()))))))))
 (kk ((c.1.1, ()), ()) (.inr (.inr ((v.1.1, ()), ())))))
def f_laws_heldReplyS (x : ((List DReply) × Int × Unit)) : Option ((Int × Unit) × Unit) :=
 (loopF (c := f_laws_heldReplyS_l2c) (v := f_laws_heldReplyS_l2v) (ex := f_laws_heldReplyS_l2e) f_laws_heldReplyS_l2 _ ((x.1, ()), ()) ((x.2.1, ((0 : Int), ())), ()) fun c4 o5 =>
 (match o5 with
 | .inl y6 => (some ((y6.1.1, ()), ()))
 | .inr z7 => (some ((z7.1.1, ()), ()))))
def sg31 : Sig := ⟨ins31, res31, f_laws_heldReplyS⟩
abbrev ins5 : List Pm := [.val (.sl kdCommand)]
abbrev res5 : List (K × Mk) := [(.bool, .s)]
def f_laws_FnExactFoldCommands (x : ((List DCommand) × Unit)) : Option ((Bool × Unit) × Unit) :=
 (bnd (f_laws_szCommandS (x.1, ((1048576 : Int), ()))) fun r1 => (cond (ilt r1.1.1 (0 : Int))
 (some ((true, ()), ()))
 (bnd (f_laws_toCommandS (x.1, ())) fun r2 => (bnd (f_spec_FoldCommands (r2.1.1, ())) fun r3 => (bnd (f_laws_toCommandS (x.1, ())) fun r4 => (bnd (f_impl_FoldCommands (r4.1.1, ())) fun r5 => (bnd (f_laws_eqKvState (r5.1.1, (r3.1.1, ()))) fun r6 => (cond (!r6.1.1)
 (some ((false, ()), ()))
 (bnd (f_laws_eqReplyS (r5.1.2.1, (r3.1.2.1, ()))) fun r7 => (cond (!r7.1.1)
 (some ((false, ()), ()))
 (cond (!beqB r5.1.2.2.1 r3.1.2.2.1)
 (some ((false, ()), ()))
 (bnd (f_laws_toCommandS (x.1, ())) fun r8 => (bnd (f_laws_eqCommandS (r4.1.1, (r8.1.1, ()))) fun r9 => (cond (!r9.1.1)
 (some ((false, ()), ()))
 (bnd (f_laws_markCommandS (r4.1.1, ((1 : Int), ()))) fun r10 => (cond (ilt r10.1.1 (0 : Int))
 (some ((false, ()), ()))
 (bnd (f_laws_eqKvState (r5.1.1, (r3.1.1, ()))) fun r11 => (cond (!r11.1.1)
 (some ((false, ()), ()))
 (bnd (f_laws_eqReplyS (r5.1.2.1, (r3.1.2.1, ()))) fun r12 => (cond (!r12.1.1)
 (some ((false, ()), ()))
 (cond (!beqB r5.1.2.2.1 r3.1.2.2.1)
 (some ((false, ()), ()))
 (bnd (f_laws_markKvState (r5.1.1, ((1 : Int), ()))) fun r13 => (bnd (f_laws_markReplyS (r5.1.2.1, (r13.1.1, ()))) fun r14 => (bnd (f_laws_heldKvState (r13.2.1, ((1 : Int), ()))) fun r15 => (cond (ilt r15.1.1 (0 : Int))
 (some ((false, ()), ()))
 (bnd (f_laws_heldReplyS (r14.2.1, (r15.1.1, ()))) fun r16 => (cond (ilt r16.1.1 (0 : Int))
 (some ((false, ()), ()))
 (cond (!ieq r16.1.1 r14.1.1)
 (some ((false, ()), ()))
 (bnd (f_laws_toCommandS (x.1, ())) fun r17 => (bnd (f_impl_FoldCommands (r17.1.1, ())) fun r18 => (bnd (f_laws_eqKvState (r18.1.1, (r3.1.1, ()))) fun r19 => (cond (!r19.1.1)
 (some ((false, ()), ()))
 (bnd (f_laws_eqReplyS (r18.1.2.1, (r3.1.2.1, ()))) fun r20 => (cond (!r20.1.1)
 (some ((false, ()), ()))
 (cond (!beqB r18.1.2.2.1 r3.1.2.2.1)
 (some ((false, ()), ()))
 (bnd (f_laws_heldKvState (r13.2.1, ((1 : Int), ()))) fun r21 => (cond (ilt r21.1.1 (0 : Int))
 (some ((false, ()), ()))
 (bnd (f_laws_heldReplyS (r14.2.1, (r21.1.1, ()))) fun r22 => (cond (ilt r22.1.1 (0 : Int))
 (some ((false, ()), ()))
 (cond (!ieq r22.1.1 r14.1.1)
 (some ((false, ()), ()))
 (some ((true, ()), ()))))))))))))))))))))))))))))))))))))))))))
def sg5 : Sig := ⟨ins5, res5, f_laws_FnExactFoldCommands⟩
end Go.Proofs.Ytogmfilmfkepfaa
