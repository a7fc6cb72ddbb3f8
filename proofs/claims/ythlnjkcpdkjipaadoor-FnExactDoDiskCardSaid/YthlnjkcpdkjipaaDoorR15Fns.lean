/- The kinds of the program's types, and what its functions compute, as typed functions. (Printed by a program of mine, wip/tools/gen.py.) -/
import Derived.Test.YthlnjkcpdkjipaaDoorRADef
set_option linter.all false
set_option maxRecDepth 100000
noncomputable section
namespace Go.Proofs.YthlnjkcpdkjipaaDoor
open Go Go.Proofs.YthlnjkcpdkjipaaDoor.Ev
abbrev kdBlob : K := (.pair .str (.pair (.int .i64) .unit))
abbrev DBlob : Type := (ByteArray × (Int × Unit))
abbrev kdName : K := kdBlob
abbrev DName : Type := DBlob
abbrev kdDisk : K := (.pair (.sl kdBlob) (.pair (.sl kdBlob) (.pair (.sl kdBlob) (.pair (.int .i64) .unit))))
abbrev DDisk : Type := ((List DBlob) × ((List DBlob) × ((List DBlob) × (Int × Unit))))
abbrev kdDiskStep : K := (.pair (.int .i64) (.pair .str (.pair .str kdBlob)))
abbrev DDiskStep : Type := (Int × (ByteArray × (ByteArray × DBlob)))
abbrev kdLBlob : K := kdBlob
abbrev DLBlob : Type := DBlob
abbrev kdLName : K := kdBlob
abbrev DLName : Type := DBlob
abbrev kdLDisk : K := kdDisk
abbrev DLDisk : Type := DDisk
abbrev kdLDiskStep : K := kdDiskStep
abbrev DLDiskStep : Type := DDiskStep
abbrev ins86 : List Pm := [.val kdBlob, .val (.int .i64)]
abbrev res86 : List (K × Mk) := [((.int .i64), .s)]
def f_laws_szBlob (x : (DBlob × Int × Unit)) : Option ((Int × Unit) × Unit) :=
 (cond (ilt (isub .i64 x.2.1 (slen x.1.1)) (0 : Int))
 (some (((-1 : Int), ()), ()))
 (some (((isub .i64 x.2.1 (slen x.1.1)), ()), ())))
def sg86 : Sig := ⟨ins86, res86, f_laws_szBlob⟩
abbrev ins59 : List Pm := [.val (.sl kdBlob), .val (.int .i64)]
abbrev res59 : List (K × Mk) := [((.int .i64), .s)]
abbrev f_laws_szBlobS_l5c : Desc := ⟨[(0, .v (.sl kdBlob))], []⟩
abbrev f_laws_szBlobS_l5v : Desc := ⟨[(1, .v (.int .i64)), (5, .v (.int .i64))], []⟩
abbrev f_laws_szBlobS_l5e : List (Ek × Desc) := [(.ret, ⟨[(4, .v (.int .i64))], []⟩), (.exit 0, ⟨[(1, .v (.int .i64))], []⟩)]
def f_laws_szBlobS_l5 (R : Type) (c : (((List DBlob) × Unit) × Unit)) (v : ((Int × Int × Unit) × Unit)) (kk : (((List DBlob) × Unit) × Unit) → (((Int × Int × Unit) × Unit) ⊕ (((Int × Unit) × Unit) ⊕ ((Int × Unit) × Unit))) → Option R) : Option R :=
 (cond (ilt v.1.2.1 (llen c.1.1))
 (getO c.1.1 v.1.2.1 fun v1 => (bnd (f_laws_szBlob (v1, (v.1.1, ()))) fun r2 => (cond (ilt r2.1.1 (0 : Int))
 (kk ((c.1.1, ()), ()) (.inr (.inl (((-1 : Int), ()), ()))))
 (kk ((c.1.1, ()), ()) (.inl ((r2.1.1, ((iadd .i64 v.1.2.1 (1 : Int)), ())), ()))))))
 (kk ((c.1.1, ()), ()) (.inr (.inr ((v.1.1, ()), ())))))
def f_laws_szBlobS (x : ((List DBlob) × Int × Unit)) : Option ((Int × Unit) × Unit) :=
 (cond (ilt (isub .i64 x.2.1 (llen x.1)) (0 : Int))
 (some (((-1 : Int), ()), ()))
 (loopF (c := f_laws_szBlobS_l5c) (v := f_laws_szBlobS_l5v) (ex := f_laws_szBlobS_l5e) f_laws_szBlobS_l5 _ ((x.1, ()), ()) (((isub .i64 x.2.1 (llen x.1)), ((0 : Int), ())), ()) fun c3 o4 =>
 (match o4 with
 | .inl y5 => (some ((y5.1.1, ()), ()))
 | .inr z6 => (some ((z6.1.1, ()), ())))))
def sg59 : Sig := ⟨ins59, res59, f_laws_szBlobS⟩
abbrev ins87 : List Pm := [.val kdBlob, .val (.int .i64)]
abbrev res87 : List (K × Mk) := [((.int .i64), .s)]
def f_laws_szName (x : (DBlob × Int × Unit)) : Option ((Int × Unit) × Unit) :=
 (cond (ilt (isub .i64 x.2.1 (slen x.1.1)) (0 : Int))
 (some (((-1 : Int), ()), ()))
 (some (((isub .i64 x.2.1 (slen x.1.1)), ()), ())))
def sg87 : Sig := ⟨ins87, res87, f_laws_szName⟩
abbrev ins60 : List Pm := [.val (.sl kdBlob), .val (.int .i64)]
abbrev res60 : List (K × Mk) := [((.int .i64), .s)]
abbrev f_laws_szNameS_l5c : Desc := ⟨[(0, .v (.sl kdBlob))], []⟩
abbrev f_laws_szNameS_l5v : Desc := ⟨[(1, .v (.int .i64)), (5, .v (.int .i64))], []⟩
abbrev f_laws_szNameS_l5e : List (Ek × Desc) := [(.ret, ⟨[(4, .v (.int .i64))], []⟩), (.exit 0, ⟨[(1, .v (.int .i64))], []⟩)]
def f_laws_szNameS_l5 (R : Type) (c : (((List DBlob) × Unit) × Unit)) (v : ((Int × Int × Unit) × Unit)) (kk : (((List DBlob) × Unit) × Unit) → (((Int × Int × Unit) × Unit) ⊕ (((Int × Unit) × Unit) ⊕ ((Int × Unit) × Unit))) → Option R) : Option R :=
 (cond (ilt v.1.2.1 (llen c.1.1))
 (getO c.1.1 v.1.2.1 fun v1 => (bnd (f_laws_szName (v1, (v.1.1, ()))) fun r2 => (cond (ilt r2.1.1 (0 : Int))
 (kk ((c.1.1, ()), ()) (.inr (.inl (((-1 : Int), ()), ()))))
 (kk ((c.1.1, ()), ()) (.inl ((r2.1.1, ((iadd .i64 v.1.2.1 (1 : Int)), ())), ()))))))
 (kk ((c.1.1, ()), ()) (.inr (.inr ((v.1.1, ()), ())))))
def f_laws_szNameS (x : ((List DBlob) × Int × Unit)) : Option ((Int × Unit) × Unit) :=
 (cond (ilt (isub .i64 x.2.1 (llen x.1)) (0 : Int))
 (some (((-1 : Int), ()), ()))
 (loopF (c := f_laws_szNameS_l5c) (v := f_laws_szNameS_l5v) (ex := f_laws_szNameS_l5e) f_laws_szNameS_l5 _ ((x.1, ()), ()) (((isub .i64 x.2.1 (llen x.1)), ((0 : Int), ())), ()) fun c3 o4 =>
 (match o4 with
 | .inl y5 => (some ((y5.1.1, ()), ()))
 | .inr z6 => (some ((z6.1.1, ()), ())))))
def sg60 : Sig := ⟨ins60, res60, f_laws_szNameS⟩
abbrev ins29 : List Pm := [.val kdDisk, .val (.int .i64)]
abbrev res29 : List (K × Mk) := [((.int .i64), .s)]
def f_laws_szDisk (x : (DDisk × Int × Unit)) : Option ((Int × Unit) × Unit) :=
 (bnd (f_laws_szBlobS (x.1.1, (x.2.1, ()))) fun r1 => (cond (ilt r1.1.1 (0 : Int))
 (some (((-1 : Int), ()), ()))
 (bnd (f_laws_szNameS (x.1.2.1, (r1.1.1, ()))) fun r2 => (cond (ilt r2.1.1 (0 : Int))
 (some (((-1 : Int), ()), ()))
 (bnd (f_laws_szNameS (x.1.2.2.1, (r2.1.1, ()))) fun r3 => (cond (ilt r3.1.1 (0 : Int))
 (some (((-1 : Int), ()), ()))
 (some ((r3.1.1, ()), ()))))))))
def sg29 : Sig := ⟨ins29, res29, f_laws_szDisk⟩
abbrev ins30 : List Pm := [.val kdDiskStep, .val (.int .i64)]
abbrev res30 : List (K × Mk) := [((.int .i64), .s)]
def f_laws_szDiskStep (x : (DDiskStep × Int × Unit)) : Option ((Int × Unit) × Unit) :=
 (cond (ilt (isub .i64 x.2.1 (slen x.1.2.1)) (0 : Int))
 (some (((-1 : Int), ()), ()))
 (cond (ilt (isub .i64 (isub .i64 x.2.1 (slen x.1.2.1)) (slen x.1.2.2.1)) (0 : Int))
 (some (((-1 : Int), ()), ()))
 (cond (ilt (isub .i64 (isub .i64 (isub .i64 x.2.1 (slen x.1.2.1)) (slen x.1.2.2.1)) (slen x.1.2.2.2.1)) (0 : Int))
 (some (((-1 : Int), ()), ()))
 (some (((isub .i64 (isub .i64 (isub .i64 x.2.1 (slen x.1.2.1)) (slen x.1.2.2.1)) (slen x.1.2.2.2.1)), ()), ())))))
def sg30 : Sig := ⟨ins30, res30, f_laws_szDiskStep⟩
abbrev ins88 : List Pm := [.val kdBlob]
abbrev res88 : List (K × Mk) := [(kdBlob, .s)]
def f_laws_toBlob (x : (DBlob × Unit)) : Option ((DBlob × Unit) × Unit) :=
 (some (((x.1.1, (x.1.2.1, ())), ()), ()))
def sg88 : Sig := ⟨ins88, res88, f_laws_toBlob⟩
abbrev ins61 : List Pm := [.val (.sl kdBlob)]
abbrev res61 : List (K × Mk) := [((.sl kdBlob), (.o .s))]
abbrev f_laws_toBlobS_l3c : Desc := ⟨[(0, .v (.sl kdBlob)), (3, .al 3 [])], []⟩
abbrev f_laws_toBlobS_l3v : Desc := ⟨[(4, .v (.int .i64))], [(3, ⟨(.sl kdBlob), (.o .s), false⟩)]⟩
abbrev f_laws_toBlobS_l3e : List (Ek × Desc) := [(.exit 0, ⟨[], [(3, ⟨(.sl kdBlob), (.o .s), false⟩)]⟩)]
def f_laws_toBlobS_l3 (R : Type) (c : (((List DBlob) × Unit) × Unit)) (v : ((Int × Unit) × ((List DBlob) × Unit))) (kk : (((List DBlob) × Unit) × Unit) → (((Int × Unit) × ((List DBlob) × Unit)) ⊕ (Unit × ((List DBlob) × Unit))) → Option R) : Option R :=
 (cond (ilt v.1.1 (llen c.1.1))
 (getO c.1.1 v.1.1 fun v1 => (bnd (f_laws_toBlob (v1, ())) fun r2 => (getO v.2.1 v.1.1 fun _ => (bnd (v.2.1[(Int.toNat v.1.1)]?) fun v4 => (kk ((c.1.1, ()), ()) (.inl (((iadd .i64 v.1.1 (1 : Int)), ()), ((List.set v.2.1 (Int.toNat v.1.1) r2.1.1), ()))))))))
 (kk ((c.1.1, ()), ()) (.inr ((), (v.2.1, ())))))
def f_laws_toBlobS (x : ((List DBlob) × Unit)) : Option (((List DBlob) × Unit) × Unit) :=
 (req (decide ((llen x.1) = (llen x.1)) && (decide ((0 : Int) ≤ (llen x.1)) && decide ((llen x.1) ≤ (68719476736 : Int)))) (loopF (c := f_laws_toBlobS_l3c) (v := f_laws_toBlobS_l3v) (ex := f_laws_toBlobS_l3e) f_laws_toBlobS_l3 _ ((x.1, ()), ()) (((0 : Int), ()), ((List.replicate (Int.toNat (llen x.1)) (((⟨#[]⟩ : ByteArray), ((0 : Int), ())) : DBlob)), ())) fun c5 o6 =>
 (some ((o6.2.1, ()), ()))))
def sg61 : Sig := ⟨ins61, res61, f_laws_toBlobS⟩
abbrev ins89 : List Pm := [.val kdBlob]
abbrev res89 : List (K × Mk) := [(kdBlob, .s)]
def f_laws_toName (x : (DBlob × Unit)) : Option ((DBlob × Unit) × Unit) :=
 (some (((x.1.1, (x.1.2.1, ())), ()), ()))
def sg89 : Sig := ⟨ins89, res89, f_laws_toName⟩
abbrev ins62 : List Pm := [.val (.sl kdBlob)]
abbrev res62 : List (K × Mk) := [((.sl kdBlob), (.o .s))]
abbrev f_laws_toNameS_l3c : Desc := ⟨[(0, .v (.sl kdBlob)), (3, .al 3 [])], []⟩
abbrev f_laws_toNameS_l3v : Desc := ⟨[(4, .v (.int .i64))], [(3, ⟨(.sl kdBlob), (.o .s), false⟩)]⟩
abbrev f_laws_toNameS_l3e : List (Ek × Desc) := [(.exit 0, ⟨[], [(3, ⟨(.sl kdBlob), (.o .s), false⟩)]⟩)]
def f_laws_toNameS_l3 (R : Type) (c : (((List DBlob) × Unit) × Unit)) (v : ((Int × Unit) × ((List DBlob) × Unit))) (kk : (((List DBlob) × Unit) × Unit) → (((Int × Unit) × ((List DBlob) × Unit)) ⊕ (Unit × ((List DBlob) × Unit))) → Option R) : Option R :=
 (cond (ilt v.1.1 (llen c.1.1))
 (getO c.1.1 v.1.1 fun v1 => (bnd (f_laws_toName (v1, ())) fun r2 => (getO v.2.1 v.1.1 fun _ => (bnd (v.2.1[(Int.toNat v.1.1)]?) fun v4 => (kk ((c.1.1, ()), ()) (.inl (((iadd .i64 v.1.1 (1 : Int)), ()), ((List.set v.2.1 (Int.toNat v.1.1) r2.1.1), ()))))))))
 (kk ((c.1.1, ()), ()) (.inr ((), (v.2.1, ())))))
def f_laws_toNameS (x : ((List DBlob) × Unit)) : Option (((List DBlob) × Unit) × Unit) :=
 (req (decide ((llen x.1) = (llen x.1)) && (decide ((0 : Int) ≤ (llen x.1)) && decide ((llen x.1) ≤ (68719476736 : Int)))) (loopF (c := f_laws_toNameS_l3c) (v := f_laws_toNameS_l3v) (ex := f_laws_toNameS_l3e) f_laws_toNameS_l3 _ ((x.1, ()), ()) (((0 : Int), ()), ((List.replicate (Int.toNat (llen x.1)) (((⟨#[]⟩ : ByteArray), ((0 : Int), ())) : DBlob)), ())) fun c5 o6 =>
 (some ((o6.2.1, ()), ()))))
def sg62 : Sig := ⟨ins62, res62, f_laws_toNameS⟩
abbrev ins31 : List Pm := [.val kdDisk]
abbrev res31 : List (K × Mk) := [(kdDisk, (.pr (.o .s) (.pr (.o .s) (.pr (.o .s) .s))))]
def f_laws_toDisk (x : (DDisk × Unit)) : Option ((DDisk × Unit) × Unit) :=
 (bnd (f_laws_toBlobS (x.1.1, ())) fun r1 => (bnd (f_laws_toNameS (x.1.2.1, ())) fun r2 => (bnd (f_laws_toNameS (x.1.2.2.1, ())) fun r3 => (some (((r1.1.1, (r2.1.1, (r3.1.1, (x.1.2.2.2.1, ())))), ()), ())))))
def sg31 : Sig := ⟨ins31, res31, f_laws_toDisk⟩
abbrev ins32 : List Pm := [.val kdDiskStep]
abbrev res32 : List (K × Mk) := [(kdDiskStep, .s)]
def f_laws_toDiskStep (x : (DDiskStep × Unit)) : Option ((DDiskStep × Unit) × Unit) :=
 (some (((x.1.1, (x.1.2.1, (x.1.2.2.1, (x.1.2.2.2.1, (x.1.2.2.2.2.1, ()))))), ()), ()))
def sg32 : Sig := ⟨ins32, res32, f_laws_toDiskStep⟩
abbrev ins50 : List Pm := [.val (.int .i64), .val (.int .i64), .val (.int .i64)]
abbrev res50 : List (K × Mk) := [(.bool, .s)]
def f_spec_l1In (x : (Int × Int × Int × Unit)) : Option ((Bool × Unit) × Unit) :=
 (cond (ile x.2.1 x.1)
 (some (((ile x.1 x.2.2.1), ()), ()))
 (some ((false, ()), ())))
def sg50 : Sig := ⟨ins50, res50, f_spec_l1In⟩
abbrev ins52 : List Pm := [.val kdDisk]
abbrev res52 : List (K × Mk) := [((.int .i64), .s)]
abbrev f_spec_l1Used_l7c : Desc := ⟨[(1, .ptr 1 []), (3, .v (.int .i64)), (4, .v (.int .i64)), (5, .ptr 5 []), (12, .v (.sl kdBlob)), (13, .v (.int .i64)), (14, .v (.int .i64)), (20, .v (.sl kdBlob)), (21, .v (.int .i64))], [(1, ⟨kdDisk, .s, true⟩), (5, ⟨kdBlob, .s, true⟩)]⟩
abbrev f_spec_l1Used_l7v : Desc := ⟨[(6, .v .bool), (22, .v (.int .i64))], []⟩
abbrev f_spec_l1Used_l7e : List (Ek × Desc) := [(.exit 2, ⟨[(6, .v .bool)], []⟩)]
def f_spec_l1Used_l7 (R : Type) (c : ((Int × Int × (List DBlob) × Int × Int × (List DBlob) × Int × Unit) × (DDisk × DBlob × Unit))) (v : ((Bool × Int × Unit) × Unit)) (kk : ((Int × Int × (List DBlob) × Int × Int × (List DBlob) × Int × Unit) × (DDisk × DBlob × Unit)) → (((Bool × Int × Unit) × Unit) ⊕ ((Bool × Unit) × Unit)) → Option R) : Option R :=
 (cond (ilt v.1.2.1 c.1.2.2.2.2.2.2.1)
 (getO c.1.2.2.2.2.2.1 v.1.2.1 fun v2 => (cond v.1.1
 (kk ((c.1.1, (c.1.2.1, (c.1.2.2.1, (c.1.2.2.2.1, (c.1.2.2.2.2.1, (c.1.2.2.2.2.2.1, (c.1.2.2.2.2.2.2.1, ()))))))), (c.2.1, (c.2.2.1, ()))) (.inl ((true, ((iadd .i64 v.1.2.1 (1 : Int)), ())), ())))
 (kk ((c.1.1, (c.1.2.1, (c.1.2.2.1, (c.1.2.2.2.1, (c.1.2.2.2.2.1, (c.1.2.2.2.2.2.1, (c.1.2.2.2.2.2.2.1, ()))))))), (c.2.1, (c.2.2.1, ()))) (.inl (((ieq v2.2.1 c.1.2.1), ((iadd .i64 v.1.2.1 (1 : Int)), ())), ())))))
 (kk ((c.1.1, (c.1.2.1, (c.1.2.2.1, (c.1.2.2.2.1, (c.1.2.2.2.2.1, (c.1.2.2.2.2.2.1, (c.1.2.2.2.2.2.2.1, ()))))))), (c.2.1, (c.2.2.1, ()))) (.inr ((v.1.1, ()), ()))))
abbrev f_spec_l1Used_l12c : Desc := ⟨[(1, .ptr 1 []), (3, .v (.int .i64)), (4, .v (.int .i64)), (5, .ptr 5 []), (12, .v (.sl kdBlob)), (13, .v (.int .i64)), (14, .v (.int .i64)), (35, .v (.sl kdBlob)), (36, .v (.int .i64))], [(1, ⟨kdDisk, .s, true⟩), (5, ⟨kdBlob, .s, true⟩)]⟩
abbrev f_spec_l1Used_l12v : Desc := ⟨[(6, .v .bool), (37, .v (.int .i64))], []⟩
abbrev f_spec_l1Used_l12e : List (Ek × Desc) := [(.exit 4, ⟨[(6, .v .bool)], []⟩)]
def f_spec_l1Used_l12 (R : Type) (c : ((Int × Int × (List DBlob) × Int × Int × (List DBlob) × Int × Unit) × (DDisk × DBlob × Unit))) (v : ((Bool × Int × Unit) × Unit)) (kk : ((Int × Int × (List DBlob) × Int × Int × (List DBlob) × Int × Unit) × (DDisk × DBlob × Unit)) → (((Bool × Int × Unit) × Unit) ⊕ ((Bool × Unit) × Unit)) → Option R) : Option R :=
 (cond (ilt v.1.2.1 c.1.2.2.2.2.2.2.1)
 (getO c.1.2.2.2.2.2.1 v.1.2.1 fun v5 => (cond v.1.1
 (kk ((c.1.1, (c.1.2.1, (c.1.2.2.1, (c.1.2.2.2.1, (c.1.2.2.2.2.1, (c.1.2.2.2.2.2.1, (c.1.2.2.2.2.2.2.1, ()))))))), (c.2.1, (c.2.2.1, ()))) (.inl ((true, ((iadd .i64 v.1.2.1 (1 : Int)), ())), ())))
 (kk ((c.1.1, (c.1.2.1, (c.1.2.2.1, (c.1.2.2.2.1, (c.1.2.2.2.2.1, (c.1.2.2.2.2.2.1, (c.1.2.2.2.2.2.2.1, ()))))))), (c.2.1, (c.2.2.1, ()))) (.inl (((ieq v5.2.1 c.1.2.1), ((iadd .i64 v.1.2.1 (1 : Int)), ())), ())))))
 (kk ((c.1.1, (c.1.2.1, (c.1.2.2.1, (c.1.2.2.2.1, (c.1.2.2.2.2.1, (c.1.2.2.2.2.2.1, (c.1.2.2.2.2.2.2.1, ()))))))), (c.2.1, (c.2.2.1, ()))) (.inr ((v.1.1, ()), ()))))
abbrev f_spec_l1Used_i17c : Desc := ⟨[(1, .ptr 1 []), (5, .ptr 5 []), (12, .v (.sl kdBlob)), (13, .v (.int .i64)), (14, .v (.int .i64)), (49, .v .bool)], [(1, ⟨kdDisk, .s, true⟩), (5, ⟨kdBlob, .s, true⟩)]⟩
abbrev f_spec_l1Used_i17v : Desc := ⟨[(3, .v (.int .i64))], []⟩
abbrev f_spec_l1Used_i17e : List (Ek × Desc) := [(.norm, ⟨[(3, .v (.int .i64))], []⟩)]
def f_spec_l1Used_i17 (R : Type) (c : (((List DBlob) × Int × Int × Bool × Unit) × (DDisk × DBlob × Unit))) (v : ((Int × Unit) × Unit)) (kk : (((List DBlob) × Int × Int × Bool × Unit) × (DDisk × DBlob × Unit)) → ((Int × Unit) × Unit) → Option R) : Option R :=
 (cond c.1.2.2.2.1
 (kk ((c.1.1, (c.1.2.1, (c.1.2.2.1, (c.1.2.2.2.1, ())))), (c.2.1, (c.2.2.1, ()))) (((iadd .i64 v.1.1 (slen c.2.2.1.1)), ()), ()))
 (kk ((c.1.1, (c.1.2.1, (c.1.2.2.1, (c.1.2.2.2.1, ())))), (c.2.1, (c.2.2.1, ()))) ((v.1.1, ()), ())))
abbrev f_spec_l1Used_l3c : Desc := ⟨[(1, .ptr 1 [])], []⟩
abbrev f_spec_l1Used_l3v : Desc := ⟨[(3, .v (.int .i64)), (12, .v (.sl kdBlob)), (13, .v (.int .i64)), (14, .v (.int .i64))], [(1, ⟨kdDisk, .s, true⟩)]⟩
abbrev f_spec_l1Used_l3e : List (Ek × Desc) := [(.exit 0, ⟨[(3, .v (.int .i64))], [(1, ⟨kdDisk, .s, true⟩)]⟩)]
def f_spec_l1Used_l3 (R : Type) (c : (Unit × Unit)) (v : ((Int × (List DBlob) × Int × Int × Unit) × (DDisk × Unit))) (kk : (Unit × Unit) → (((Int × (List DBlob) × Int × Int × Unit) × (DDisk × Unit)) ⊕ ((Int × Unit) × (DDisk × Unit))) → Option R) : Option R :=
 (cond (ilt v.1.2.2.2.1 v.1.2.2.1)
 (getO v.1.2.1 v.1.2.2.2.1 fun v1 => (loopF (c := f_spec_l1Used_l7c) (v := f_spec_l1Used_l7v) (ex := f_spec_l1Used_l7e) f_spec_l1Used_l7 _ ((v.1.1, (v.1.2.2.2.1, (v.1.2.1, (v.1.2.2.1, (v.1.2.2.2.1, (v.2.1.2.1, ((llen v.2.1.2.1), ()))))))), (v.2.1, (v1, ()))) ((false, ((0 : Int), ())), ()) fun c2 o3 =>
 (loopF (c := f_spec_l1Used_l12c) (v := f_spec_l1Used_l12v) (ex := f_spec_l1Used_l12e) f_spec_l1Used_l12 _ ((c2.1.1, (c2.1.2.1, (c2.1.2.2.1, (c2.1.2.2.2.1, (c2.1.2.2.2.2.1, (c2.2.1.2.2.1, ((llen c2.2.1.2.2.1), ()))))))), (c2.2.1, (c2.2.2.1, ()))) ((o3.1.1, ((0 : Int), ())), ()) fun c4 o5 =>
 (f_spec_l1Used_i17 _ ((c4.1.2.2.1, (c4.1.2.2.2.1, (c4.1.2.2.2.2.1, (o5.1.1, ())))), (c4.2.1, (c4.2.2.1, ()))) ((c4.1.1, ()), ()) fun c6 o7 =>
 (kk ((), ()) (.inl ((o7.1.1, (c6.1.1, (c6.1.2.1, ((iadd .i64 c6.1.2.2.1 (1 : Int)), ())))), (c6.2.1, ()))))))))
 (kk ((), ()) (.inr ((v.1.1, ()), (v.2.1, ())))))
def f_spec_l1Used (x : (DDisk × Unit)) : Option ((Int × Unit) × Unit) :=
 (loopF (c := f_spec_l1Used_l3c) (v := f_spec_l1Used_l3v) (ex := f_spec_l1Used_l3e) f_spec_l1Used_l3 _ ((), ()) (((0 : Int), (x.1.1, ((llen x.1.1), ((0 : Int), ())))), (x.1, ())) fun c8 o9 =>
 (some ((o9.1.1, ()), ())))
def sg52 : Sig := ⟨ins52, res52, f_spec_l1Used⟩
abbrev ins63 : List Pm := [.val .str]
abbrev res63 : List (K × Mk) := [(.bool, .s)]
abbrev f_spec_l1Name_l2c : Desc := ⟨[(0, .v .str)], []⟩
abbrev f_spec_l1Name_l2v : Desc := ⟨[(3, .v (.int .i64))], []⟩
abbrev f_spec_l1Name_l2e : List (Ek × Desc) := [(.ret, ⟨[(2, .v .bool)], []⟩), (.exit 0, ⟨[], []⟩)]
def f_spec_l1Name_l2 (R : Type) (c : ((ByteArray × Unit) × Unit)) (v : ((Int × Unit) × Unit)) (kk : ((ByteArray × Unit) × Unit) → (((Int × Unit) × Unit) ⊕ (((Bool × Unit) × Unit) ⊕ (Unit × Unit))) → Option R) : Option R :=
 (cond (ilt v.1.1 (slen c.1.1))
 (getB c.1.1 v.1.1 fun v1 => (cond (ile (97 : Int) v1)
 (cond (ile v1 (122 : Int))
 (kk ((c.1.1, ()), ()) (.inl (((iadd .i64 v.1.1 (1 : Int)), ()), ())))
 (cond (ile (48 : Int) v1)
 (cond (ile v1 (57 : Int))
 (kk ((c.1.1, ()), ()) (.inl (((iadd .i64 v.1.1 (1 : Int)), ()), ())))
 (cond (!(ieq v1 (46 : Int)))
 (kk ((c.1.1, ()), ()) (.inr (.inl ((false, ()), ()))))
 (kk ((c.1.1, ()), ()) (.inl (((iadd .i64 v.1.1 (1 : Int)), ()), ())))))
 (cond (!(ieq v1 (46 : Int)))
 (kk ((c.1.1, ()), ()) (.inr (.inl ((false, ()), ()))))
 (kk ((c.1.1, ()), ()) (.inl (((iadd .i64 v.1.1 (1 : Int)), ()), ()))))))
 (cond (ile (48 : Int) v1)
 (cond (ile v1 (57 : Int))
 (kk ((c.1.1, ()), ()) (.inl (((iadd .i64 v.1.1 (1 : Int)), ()), ())))
 (cond (!(ieq v1 (46 : Int)))
 (kk ((c.1.1, ()), ()) (.inr (.inl ((false, ()), ()))))
 (kk ((c.1.1, ()), ()) (.inl (((iadd .i64 v.1.1 (1 : Int)), ()), ())))))
 (cond (!(ieq v1 (46 : Int)))
 (kk ((c.1.1, ()), ()) (.inr (.inl ((false, ()), ()))))
 (kk ((c.1.1, ()), ()) (.inl (((iadd .i64 v.1.1 (1 : Int)), ()), ())))))))
 (kk ((c.1.1, ()), ()) (.inr (.inr ((), ())))))
def f_spec_l1Name (x : (ByteArray × Unit)) : Option ((Bool × Unit) × Unit) :=
 (loopF (c := f_spec_l1Name_l2c) (v := f_spec_l1Name_l2v) (ex := f_spec_l1Name_l2e) f_spec_l1Name_l2 _ ((x.1, ()), ()) (((0 : Int), ()), ()) fun c2 o3 =>
 (match o3 with
 | .inl y4 => (some ((y4.1.1, ()), ()))
 | .inr z5 => (bnd (f_spec_l1In ((slen c2.1.1), ((1 : Int), ((12 : Int), ())))) fun r6 => (some ((r6.1.1, ()), ())))))
def sg63 : Sig := ⟨ins63, res63, f_spec_l1Name⟩
abbrev ins51 : List Pm := [.val (.sl kdBlob), .val (.int .i64)]
abbrev res51 : List (K × Mk) := [(.bool, .s)]
abbrev f_spec_l1Names_l2c : Desc := ⟨[(0, .v (.sl kdBlob)), (1, .v (.int .i64)), (7, .v (.sl kdBlob)), (8, .v (.int .i64))], []⟩
abbrev f_spec_l1Names_l2v : Desc := ⟨[(9, .v (.int .i64))], []⟩
abbrev f_spec_l1Names_l2e : List (Ek × Desc) := [(.ret, ⟨[(4, .v .bool)], []⟩), (.exit 0, ⟨[], []⟩)]
def f_spec_l1Names_l2 (R : Type) (c : (((List DBlob) × Int × (List DBlob) × Int × Unit) × Unit)) (v : ((Int × Unit) × Unit)) (kk : (((List DBlob) × Int × (List DBlob) × Int × Unit) × Unit) → (((Int × Unit) × Unit) ⊕ (((Bool × Unit) × Unit) ⊕ (Unit × Unit))) → Option R) : Option R :=
 (cond (ilt v.1.1 c.1.2.2.2.1)
 (getO c.1.2.2.1 v.1.1 fun v1 => (bnd (f_spec_l1Name (v1.1, ())) fun r2 => (cond (!r2.1.1)
 (kk ((c.1.1, (c.1.2.1, (c.1.2.2.1, (c.1.2.2.2.1, ())))), ()) (.inr (.inl ((false, ()), ()))))
 (bnd (f_spec_l1In (v1.2.1, ((0 : Int), ((isub .i64 c.1.2.1 (1 : Int)), ())))) fun r3 => (cond (!r3.1.1)
 (kk ((c.1.1, (c.1.2.1, (c.1.2.2.1, (c.1.2.2.2.1, ())))), ()) (.inr (.inl ((false, ()), ()))))
 (cond (ilt (0 : Int) v.1.1)
 (getO c.1.1 (isub .i64 v.1.1 (1 : Int)) fun v4 => (cond (!slt v4.1 v1.1)
 (kk ((c.1.1, (c.1.2.1, (c.1.2.2.1, (c.1.2.2.2.1, ())))), ()) (.inr (.inl ((false, ()), ()))))
 (kk ((c.1.1, (c.1.2.1, (c.1.2.2.1, (c.1.2.2.2.1, ())))), ()) (.inl (((iadd .i64 v.1.1 (1 : Int)), ()), ())))))
 (kk ((c.1.1, (c.1.2.1, (c.1.2.2.1, (c.1.2.2.2.1, ())))), ()) (.inl (((iadd .i64 v.1.1 (1 : Int)), ()), ())))))))))
 (kk ((c.1.1, (c.1.2.1, (c.1.2.2.1, (c.1.2.2.2.1, ())))), ()) (.inr (.inr ((), ())))))
def f_spec_l1Names (x : ((List DBlob) × Int × Unit)) : Option ((Bool × Unit) × Unit) :=
 (loopF (c := f_spec_l1Names_l2c) (v := f_spec_l1Names_l2v) (ex := f_spec_l1Names_l2e) f_spec_l1Names_l2 _ ((x.1, (x.2.1, (x.1, ((llen x.1), ())))), ()) (((0 : Int), ()), ()) fun c5 o6 =>
 (match o6 with
 | .inl y7 => (some ((y7.1.1, ()), ()))
 | .inr z8 => (some (((ile (llen c5.1.1) (20 : Int)), ()), ()))))
def sg51 : Sig := ⟨ins51, res51, f_spec_l1Names⟩
abbrev ins22 : List Pm := [.val kdDisk]
abbrev res22 : List (K × Mk) := [(.bool, .s)]
abbrev f_spec_GoodDisk_l2c : Desc := ⟨[(1, .ptr 1 []), (6, .v (.sl kdBlob)), (7, .v (.int .i64))], [(1, ⟨kdDisk, .s, true⟩)]⟩
abbrev f_spec_GoodDisk_l2v : Desc := ⟨[(8, .v (.int .i64))], []⟩
abbrev f_spec_GoodDisk_l2e : List (Ek × Desc) := [(.ret, ⟨[(2, .v .bool)], []⟩), (.exit 0, ⟨[], []⟩)]
def f_spec_GoodDisk_l2 (R : Type) (c : (((List DBlob) × Int × Unit) × (DDisk × Unit))) (v : ((Int × Unit) × Unit)) (kk : (((List DBlob) × Int × Unit) × (DDisk × Unit)) → (((Int × Unit) × Unit) ⊕ (((Bool × Unit) × Unit) ⊕ (Unit × Unit))) → Option R) : Option R :=
 (cond (ilt v.1.1 c.1.2.1)
 (getO c.1.1 v.1.1 fun v1 => (cond (ilt (4000 : Int) (slen v1.1))
 (kk ((c.1.1, (c.1.2.1, ())), (c.2.1, ())) (.inr (.inl ((false, ()), ()))))
 (bnd (f_spec_l1In (v1.2.1, ((0 : Int), ((slen v1.1), ())))) fun r2 => (cond (!r2.1.1)
 (kk ((c.1.1, (c.1.2.1, ())), (c.2.1, ())) (.inr (.inl ((false, ()), ()))))
 (kk ((c.1.1, (c.1.2.1, ())), (c.2.1, ())) (.inl (((iadd .i64 v.1.1 (1 : Int)), ()), ())))))))
 (kk ((c.1.1, (c.1.2.1, ())), (c.2.1, ())) (.inr (.inr ((), ())))))
def f_spec_GoodDisk (x : (DDisk × Unit)) : Option ((Bool × Unit) × Unit) :=
 (loopF (c := f_spec_GoodDisk_l2c) (v := f_spec_GoodDisk_l2v) (ex := f_spec_GoodDisk_l2e) f_spec_GoodDisk_l2 _ ((x.1.1, ((llen x.1.1), ())), (x.1, ())) (((0 : Int), ()), ()) fun c3 o4 =>
 (match o4 with
 | .inl y5 => (some ((y5.1.1, ()), ()))
 | .inr z6 => (cond (ile (llen c3.2.1.1) (60 : Int))
 (bnd (f_spec_l1Names (c3.2.1.2.1, ((llen c3.2.1.1), ()))) fun r7 => (cond r7.1.1
 (bnd (f_spec_l1Names (c3.2.1.2.2.1, ((llen c3.2.1.1), ()))) fun r8 => (cond r8.1.1
 (bnd (f_spec_l1In (c3.2.1.2.2.2.1, ((0 : Int), ((100000 : Int), ())))) fun r9 => (cond r9.1.1
 (bnd (f_spec_l1Used (c3.2.1, ())) fun r10 => (some (((ile r10.1.1 c3.2.1.2.2.2.1), ()), ())))
 (some ((false, ()), ()))))
 (some ((false, ()), ()))))
 (some ((false, ()), ()))))
 (some ((false, ()), ())))))
def sg22 : Sig := ⟨ins22, res22, f_spec_GoodDisk⟩
abbrev ins35 : List Pm := [.val kdDisk]
abbrev res35 : List (K × Mk) := [(kdDisk, (.pr (.o .s) (.pr (.o .s) (.pr (.o .s) .s))))]
def f_spec_l1Own (x : (DDisk × Unit)) : Option ((DDisk × Unit) × Unit) :=
 (req (decide (List.length x.1.1 ≤ 17179869184)) (req (decide (List.length x.1.2.1 ≤ 17179869184)) (req (decide (List.length x.1.2.2.1 ≤ 17179869184)) (some (((x.1.1, (x.1.2.1, (x.1.2.2.1, x.1.2.2.2))), ()), ())))))
def sg35 : Sig := ⟨ins35, res35, f_spec_l1Own⟩
abbrev ins64 : List Pm := [.val (.sl kdBlob), .val .str]
abbrev res64 : List (K × Mk) := [((.int .i64), .s), (.bool, .s)]
abbrev f_spec_l1At_l2c : Desc := ⟨[(0, .v (.sl kdBlob)), (1, .v .str)], []⟩
abbrev f_spec_l1At_l2v : Desc := ⟨[(6, .v (.int .i64))], []⟩
abbrev f_spec_l1At_l2e : List (Ek × Desc) := [(.exit 0, ⟨[(6, .v (.int .i64))], []⟩)]
def f_spec_l1At_l2 (R : Type) (c : (((List DBlob) × ByteArray × Unit) × Unit)) (v : ((Int × Unit) × Unit)) (kk : (((List DBlob) × ByteArray × Unit) × Unit) → (((Int × Unit) × Unit) ⊕ ((Int × Unit) × Unit)) → Option R) : Option R :=
 (cond (ilt v.1.1 (llen c.1.1))
 (getO c.1.1 v.1.1 fun v1 => (cond (slt v1.1 c.1.2.1)
 (kk ((c.1.1, (c.1.2.1, ())), ()) (.inl (((iadd .i64 v.1.1 (1 : Int)), ()), ())))
 (kk ((c.1.1, (c.1.2.1, ())), ()) (.inr ((v.1.1, ()), ())))))
 (kk ((c.1.1, (c.1.2.1, ())), ()) (.inr ((v.1.1, ()), ()))))
def f_spec_l1At (x : ((List DBlob) × ByteArray × Unit)) : Option ((Int × Bool × Unit) × Unit) :=
 (loopF (c := f_spec_l1At_l2c) (v := f_spec_l1At_l2v) (ex := f_spec_l1At_l2e) f_spec_l1At_l2 _ ((x.1, (x.2.1, ())), ()) (((0 : Int), ()), ()) fun c2 o3 =>
 (cond (ilt o3.1.1 (llen c2.1.1))
 (getO c2.1.1 o3.1.1 fun v4 => (some ((o3.1.1, ((seq v4.1 c2.1.2.1), ())), ())))
 (some ((o3.1.1, (false, ())), ()))))
def sg64 : Sig := ⟨ins64, res64, f_spec_l1At⟩
abbrev ins65 : List Pm := [.val (.sl kdBlob), .val kdBlob]
abbrev res65 : List (K × Mk) := [((.sl kdBlob), (.o .s))]
abbrev f_spec_l1Put_i6c : Desc := ⟨[(0, .v (.sl kdBlob)), (7, .al 7 []), (24, .v .bool)], [(7, ⟨(.sl kdBlob), (.o .s), false⟩)]⟩
abbrev f_spec_l1Put_i6v : Desc := ⟨[(5, .v (.int .i64))], []⟩
abbrev f_spec_l1Put_i6e : List (Ek × Desc) := [(.norm, ⟨[(5, .v (.int .i64))], []⟩)]
def f_spec_l1Put_i6 (R : Type) (c : (((List DBlob) × Bool × Unit) × ((List DBlob) × Unit))) (v : ((Int × Unit) × Unit)) (kk : (((List DBlob) × Bool × Unit) × ((List DBlob) × Unit)) → ((Int × Unit) × Unit) → Option R) : Option R :=
 (cond c.1.2.1
 (kk ((c.1.1, (c.1.2.1, ())), (c.2.1, ())) (((iadd .i64 v.1.1 (1 : Int)), ()), ()))
 (kk ((c.1.1, (c.1.2.1, ())), (c.2.1, ())) ((v.1.1, ()), ())))
def f_spec_l1Put (x : ((List DBlob) × DBlob × Unit)) : Option (((List DBlob) × Unit) × Unit) :=
 (bnd (f_spec_l1At (x.1, (x.2.1.1, ()))) fun r1 => (req (decide ((0 : Int) ≤ r1.1.1) && decide (r1.1.1 ≤ ((List.length x.1) : Int))) (req (decide (List.length ([] : List DBlob) + List.length (List.take ((Int.toNat r1.1.1) - (0 : Nat)) (List.drop (0 : Nat) x.1)) ≤ 17179869184)) (req (decide (List.length (([] : List DBlob) ++ (List.take ((Int.toNat r1.1.1) - (0 : Nat)) (List.drop (0 : Nat) x.1))) + List.length [x.2.1] ≤ 17179869184)) (f_spec_l1Put_i6 _ ((x.1, (r1.1.2.1, ())), (((([] : List DBlob) ++ (List.take ((Int.toNat r1.1.1) - (0 : Nat)) (List.drop (0 : Nat) x.1))) ++ [x.2.1]), ())) ((r1.1.1, ()), ()) fun c2 o3 =>
 (req (decide ((0 : Int) ≤ o3.1.1) && decide (o3.1.1 ≤ ((List.length c2.1.1) : Int))) (req (decide (List.length c2.2.1 + List.length (List.take ((List.length c2.1.1) - (Int.toNat o3.1.1)) (List.drop (Int.toNat o3.1.1) c2.1.1)) ≤ 17179869184)) (some (((c2.2.1 ++ (List.take ((List.length c2.1.1) - (Int.toNat o3.1.1)) (List.drop (Int.toNat o3.1.1) c2.1.1))), ()), ())))))))))
def sg65 : Sig := ⟨ins65, res65, f_spec_l1Put⟩
abbrev ins66 : List Pm := [.mov (.sl kdBlob) (.o .s), .val .str]
abbrev res66 : List (K × Mk) := [((.sl kdBlob), (.o .s))]
def f_spec_l1Without (x : ((List DBlob) × ByteArray × Unit)) : Option (((List DBlob) × Unit) × Unit) :=
 (bnd (f_spec_l1At (x.1, (x.2.1, ()))) fun r1 => (cond (!r1.1.2.1)
 (some ((x.1, ()), ()))
 (req (decide ((0 : Int) ≤ r1.1.1) && decide (r1.1.1 ≤ ((List.length x.1) : Int))) (req (decide (List.length (List.take ((Int.toNat r1.1.1) - (0 : Nat)) (List.drop (0 : Nat) x.1)) ≤ 17179869184)) (req (decide ((0 : Int) ≤ (iadd .i64 r1.1.1 (1 : Int))) && decide ((iadd .i64 r1.1.1 (1 : Int)) ≤ ((List.length x.1) : Int))) (req (decide (List.length (List.take ((Int.toNat r1.1.1) - (0 : Nat)) (List.drop (0 : Nat) x.1)) + List.length (List.take ((List.length x.1) - (Int.toNat (iadd .i64 r1.1.1 (1 : Int)))) (List.drop (Int.toNat (iadd .i64 r1.1.1 (1 : Int))) x.1)) ≤ 17179869184)) (some ((((List.take ((Int.toNat r1.1.1) - (0 : Nat)) (List.drop (0 : Nat) x.1)) ++ (List.take ((List.length x.1) - (Int.toNat (iadd .i64 r1.1.1 (1 : Int)))) (List.drop (Int.toNat (iadd .i64 r1.1.1 (1 : Int))) x.1))), ()), ()))))))))
def sg66 : Sig := ⟨ins66, res66, f_spec_l1Without⟩
abbrev ins67 : List Pm := [.mov kdDisk (.pr (.o .s) (.pr (.o .s) (.pr (.o .s) .s))), .val (.int .i64)]
abbrev res67 : List (K × Mk) := [(kdDisk, (.pr (.o .s) (.pr (.o .s) (.pr (.o .s) .s))))]
abbrev f_spec_l1Crash_i7c : Desc := ⟨[(1, .v (.int .i64)), (2, .ptr 2 []), (4, .ptr 4 []), (5, .v (.int .i64)), (6, .ptr 6 []), (14, .al 2 [.fst]), (15, .v (.int .i64)), (16, .v (.int .i64)), (29, .v .bool)], [(2, ⟨kdDisk, (.pr (.o .s) (.pr (.o .s) (.pr (.o .s) .s))), true⟩), (4, ⟨kdDisk, (.pr (.o .s) (.pr (.o .s) (.pr (.o .s) .s))), true⟩), (6, ⟨kdBlob, .s, true⟩)]⟩
abbrev f_spec_l1Crash_i7v : Desc := ⟨[(7, .v (.int .i64))], []⟩
abbrev f_spec_l1Crash_i7e : List (Ek × Desc) := [(.norm, ⟨[(7, .v (.int .i64))], []⟩)]
def f_spec_l1Crash_i7 (R : Type) (c : ((Int × Int × Int × Int × Bool × Unit) × (DDisk × DDisk × DBlob × Unit))) (v : ((Int × Unit) × Unit)) (kk : ((Int × Int × Int × Int × Bool × Unit) × (DDisk × DDisk × DBlob × Unit)) → ((Int × Unit) × Unit) → Option R) : Option R :=
 (cond c.1.2.2.2.2.1
 (kk ((c.1.1, (c.1.2.1, (c.1.2.2.1, (c.1.2.2.2.1, (c.1.2.2.2.2.1, ()))))), (c.2.1, (c.2.2.1, (c.2.2.2.1, ())))) (((iadd .i64 c.2.2.2.1.2.1 c.1.1), ()), ()))
 (kk ((c.1.1, (c.1.2.1, (c.1.2.2.1, (c.1.2.2.2.1, (c.1.2.2.2.2.1, ()))))), (c.2.1, (c.2.2.1, (c.2.2.2.1, ())))) ((v.1.1, ()), ())))
abbrev f_spec_l1Crash_l3c : Desc := ⟨[(2, .ptr 2 []), (4, .ptr 4 []), (14, .al 2 [.fst])], []⟩
abbrev f_spec_l1Crash_l3v : Desc := ⟨[(1, .v (.int .i64)), (15, .v (.int .i64)), (16, .v (.int .i64))], [(2, ⟨kdDisk, (.pr (.o .s) (.pr (.o .s) (.pr (.o .s) .s))), true⟩), (4, ⟨kdDisk, (.pr (.o .s) (.pr (.o .s) (.pr (.o .s) .s))), true⟩)]⟩
abbrev f_spec_l1Crash_l3e : List (Ek × Desc) := [(.exit 0, ⟨[], [(2, ⟨kdDisk, (.pr (.o .s) (.pr (.o .s) (.pr (.o .s) .s))), true⟩), (4, ⟨kdDisk, (.pr (.o .s) (.pr (.o .s) (.pr (.o .s) .s))), true⟩)]⟩)]
def f_spec_l1Crash_l3 (R : Type) (c : (Unit × Unit)) (v : ((Int × Int × Int × Unit) × (DDisk × DDisk × Unit))) (kk : (Unit × Unit) → (((Int × Int × Int × Unit) × (DDisk × DDisk × Unit)) ⊕ (Unit × (DDisk × DDisk × Unit))) → Option R) : Option R :=
 (cond (ilt v.1.2.2.1 v.1.2.1)
 (getO v.2.1.1 v.1.2.2.1 fun _ => (bnd (v.2.1.1[(Int.toNat v.1.2.2.1)]?) fun v2 => (f_spec_l1Crash_i7 _ ((v.1.1, (v.1.2.2.1, (v.1.2.1, (v.1.2.2.1, ((ilt (iadd .i64 v2.2.1 v.1.1) (slen v2.1)), ()))))), (v.2.1, (v.2.2.1, (v2, ())))) (((slen v2.1), ()), ()) fun c3 o4 =>
 (req (decide ((0 : Int) ≤ o4.1.1) && decide (o4.1.1 ≤ ((ByteArray.size c3.2.2.2.1.1) : Int))) (getO c3.2.1.1 c3.1.2.1 fun _ => (bnd (c3.2.1.1[(Int.toNat c3.1.2.1)]?) fun v6 => (kk ((), ()) (.inl ((c3.1.1, (c3.1.2.2.1, ((iadd .i64 c3.1.2.2.2.1 (1 : Int)), ()))), (((List.set c3.2.1.1 (Int.toNat c3.1.2.1) ((ByteArray.extract c3.2.2.2.1.1 (0 : Nat) (Int.toNat o4.1.1)), (o4.1.1, ()))), c3.2.1.2), (c3.2.2.1, ())))))))))))
 (kk ((), ()) (.inr ((), (v.2.1, (v.2.2.1, ()))))))
def f_spec_l1Crash (x : (DDisk × Int × Unit)) : Option ((DDisk × Unit) × Unit) :=
 (req (decide (List.length x.1.2.2.1 ≤ 17179869184)) (loopF (c := f_spec_l1Crash_l3c) (v := f_spec_l1Crash_l3v) (ex := f_spec_l1Crash_l3e) f_spec_l1Crash_l3 _ ((), ()) ((x.2.1, ((llen x.1.1), ((0 : Int), ()))), ((x.1.1, (x.1.2.2.1, x.1.2.2)), ((([] : List DBlob), (([] : List DBlob), (([] : List DBlob), ((0 : Int), ())))), ()))) fun c7 o8 =>
 (some ((o8.2.1, ()), ()))))
def sg67 : Sig := ⟨ins67, res67, f_spec_l1Crash⟩
abbrev ins34 : List Pm := [.mov kdDisk (.pr (.o .s) (.pr (.o .s) (.pr (.o .s) .s))), .val kdDiskStep]
abbrev res34 : List (K × Mk) := [(kdDisk, (.pr (.o .s) (.pr (.o .s) (.pr (.o .s) .s)))), ((.int .i64), .s)]
abbrev f_spec_l1Do_i13c : Desc := ⟨[(2, .ptr 2 []), (3, .ptr 3 []), (4, .ptr 4 []), (8, .v (.int .i64)), (111, .v .bool)], [(2, ⟨kdDisk, (.pr (.o .s) (.pr (.o .s) (.pr (.o .s) .s))), true⟩), (3, ⟨kdDiskStep, .s, true⟩), (4, ⟨kdDisk, (.pr (.o .s) (.pr (.o .s) (.pr (.o .s) .s))), true⟩)]⟩
abbrev f_spec_l1Do_i13v : Desc := ⟨[(12, .v (.int .i64))], []⟩
abbrev f_spec_l1Do_i13e : List (Ek × Desc) := [(.norm, ⟨[(12, .v (.int .i64))], []⟩)]
def f_spec_l1Do_i13 (R : Type) (c : ((Int × Bool × Unit) × (DDisk × DDiskStep × DDisk × Unit))) (v : ((Int × Unit) × Unit)) (kk : ((Int × Bool × Unit) × (DDisk × DDiskStep × DDisk × Unit)) → ((Int × Unit) × Unit) → Option R) : Option R :=
 (cond c.1.2.1
 (getO c.2.1.2.1 c.1.1 fun _ => (bnd (c.2.1.2.1[(Int.toNat c.1.1)]?) fun v8 => (bnd (c.2.1.2.1[(Int.toNat c.1.1)]?) fun v9 => (kk ((c.1.1, (c.1.2.1, ())), (c.2.1, (c.2.2.1, (c.2.2.2.1, ())))) ((v9.2.1, ()), ())))))
 (kk ((c.1.1, (c.1.2.1, ())), (c.2.1, (c.2.2.1, (c.2.2.2.1, ())))) ((v.1.1, ()), ())))
abbrev f_spec_l1Do_i30c : Desc := ⟨[(2, .ptr 2 []), (3, .ptr 3 []), (4, .ptr 4 []), (200, .v .bool)], [(3, ⟨kdDiskStep, .s, true⟩), (4, ⟨kdDisk, (.pr (.o .s) (.pr (.o .s) (.pr (.o .s) .s))), true⟩)]⟩
abbrev f_spec_l1Do_i30v : Desc := ⟨[], [(2, ⟨kdDisk, (.pr (.o .s) (.pr (.o .s) (.pr (.o .s) .s))), true⟩)]⟩
abbrev f_spec_l1Do_i30e : List (Ek × Desc) := [(.norm, ⟨[], [(2, ⟨kdDisk, (.pr (.o .s) (.pr (.o .s) (.pr (.o .s) .s))), true⟩)]⟩)]
def f_spec_l1Do_i30 (R : Type) (c : ((Bool × Unit) × (DDiskStep × DDisk × Unit))) (v : (Unit × (DDisk × Unit))) (kk : ((Bool × Unit) × (DDiskStep × DDisk × Unit)) → (Unit × (DDisk × Unit)) → Option R) : Option R :=
 (cond c.1.1
 (req (decide (List.length v.2.1.2.1 ≤ 17179869184)) (kk ((c.1.1, ()), (c.2.1, (c.2.2.1, ()))) ((), ((v.2.1.1, (v.2.1.2.1, (v.2.1.2.1, v.2.1.2.2.2))), ()))))
 (bnd (f_spec_l1Crash (v.2.1, (c.2.1.2.2.2.2.1, ()))) fun r30 => (kk ((c.1.1, ()), (c.2.1, (c.2.2.1, ()))) ((), (r30.1.1, ())))))
abbrev f_spec_l1Do_i28c : Desc := ⟨[(2, .ptr 2 []), (3, .ptr 3 []), (4, .ptr 4 [])], []⟩
abbrev f_spec_l1Do_i28v : Desc := ⟨[(119, .v (.int .i64)), (192, .v .bool)], [(2, ⟨kdDisk, (.pr (.o .s) (.pr (.o .s) (.pr (.o .s) .s))), true⟩), (3, ⟨kdDiskStep, .s, true⟩), (4, ⟨kdDisk, (.pr (.o .s) (.pr (.o .s) (.pr (.o .s) .s))), true⟩)]⟩
abbrev f_spec_l1Do_i28e : List (Ek × Desc) := [(.norm, ⟨[], [(2, ⟨kdDisk, (.pr (.o .s) (.pr (.o .s) (.pr (.o .s) .s))), true⟩), (3, ⟨kdDiskStep, .s, true⟩), (4, ⟨kdDisk, (.pr (.o .s) (.pr (.o .s) (.pr (.o .s) .s))), true⟩)]⟩)]
def f_spec_l1Do_i28 (R : Type) (c : (Unit × Unit)) (v : ((Int × Bool × Unit) × (DDisk × DDiskStep × DDisk × Unit))) (kk : (Unit × Unit) → (Unit × (DDisk × DDiskStep × DDisk × Unit)) → Option R) : Option R :=
 (cond v.1.2.1
 (bnd (f_spec_l1Without (v.2.1.2.1, (v.2.2.1.2.1, ()))) fun r29 => (kk ((), ()) ((), ((v.2.1.1, (r29.1.1, v.2.1.2.2)), (v.2.2.1, (v.2.2.2.1, ()))))))
 (f_spec_l1Do_i30 _ (((ieq v.1.1 (7 : Int)), ()), (v.2.2.1, (v.2.2.2.1, ()))) ((), (v.2.1, ())) fun c30 o31 =>
 (kk ((), ()) ((), (o31.2.1, (c30.2.1, (c30.2.2.1, ())))))))
abbrev f_spec_l1Do_i26c : Desc := ⟨[(2, .ptr 2 []), (3, .ptr 3 []), (4, .ptr 4 [])], []⟩
abbrev f_spec_l1Do_i26v : Desc := ⟨[(12, .v (.int .i64)), (119, .v (.int .i64)), (182, .v .bool)], [(2, ⟨kdDisk, (.pr (.o .s) (.pr (.o .s) (.pr (.o .s) .s))), true⟩), (3, ⟨kdDiskStep, .s, true⟩), (4, ⟨kdDisk, (.pr (.o .s) (.pr (.o .s) (.pr (.o .s) .s))), true⟩)]⟩
abbrev f_spec_l1Do_i26e : List (Ek × Desc) := [(.norm, ⟨[], [(2, ⟨kdDisk, (.pr (.o .s) (.pr (.o .s) (.pr (.o .s) .s))), true⟩), (3, ⟨kdDiskStep, .s, true⟩), (4, ⟨kdDisk, (.pr (.o .s) (.pr (.o .s) (.pr (.o .s) .s))), true⟩)]⟩)]
def f_spec_l1Do_i26 (R : Type) (c : (Unit × Unit)) (v : ((Int × Int × Bool × Unit) × (DDisk × DDiskStep × DDisk × Unit))) (kk : (Unit × Unit) → (Unit × (DDisk × DDiskStep × DDisk × Unit)) → Option R) : Option R :=
 (cond v.1.2.2.1
 (bnd (f_spec_l1Put (v.2.1.2.1, ((v.2.2.1.2.2.1, (v.1.1, ())), ()))) fun r28 => (kk ((), ()) ((), ((v.2.1.1, (r28.1.1, v.2.1.2.2)), (v.2.2.1, (v.2.2.2.1, ()))))))
 (f_spec_l1Do_i28 _ ((), ()) ((v.1.2.1, ((ieq v.1.2.1 (6 : Int)), ())), (v.2.1, (v.2.2.1, (v.2.2.2.1, ())))) fun c29 o30 =>
 (kk ((), ()) ((), (o30.2.1, (o30.2.2.1, (o30.2.2.2.1, ())))))))
abbrev f_spec_l1Do_i24c : Desc := ⟨[(2, .ptr 2 []), (3, .ptr 3 []), (4, .ptr 4 [])], []⟩
abbrev f_spec_l1Do_i24v : Desc := ⟨[(12, .v (.int .i64)), (119, .v (.int .i64)), (169, .v .bool)], [(2, ⟨kdDisk, (.pr (.o .s) (.pr (.o .s) (.pr (.o .s) .s))), true⟩), (3, ⟨kdDiskStep, .s, true⟩), (4, ⟨kdDisk, (.pr (.o .s) (.pr (.o .s) (.pr (.o .s) .s))), true⟩)]⟩
abbrev f_spec_l1Do_i24e : List (Ek × Desc) := [(.norm, ⟨[], [(2, ⟨kdDisk, (.pr (.o .s) (.pr (.o .s) (.pr (.o .s) .s))), true⟩), (3, ⟨kdDiskStep, .s, true⟩), (4, ⟨kdDisk, (.pr (.o .s) (.pr (.o .s) (.pr (.o .s) .s))), true⟩)]⟩)]
def f_spec_l1Do_i24 (R : Type) (c : (Unit × Unit)) (v : ((Int × Int × Bool × Unit) × (DDisk × DDiskStep × DDisk × Unit))) (kk : (Unit × Unit) → (Unit × (DDisk × DDiskStep × DDisk × Unit)) → Option R) : Option R :=
 (cond v.1.2.2.1
 (bnd (f_spec_l1Without (v.2.1.2.1, (v.2.2.1.2.1, ()))) fun r26 => (bnd (f_spec_l1Put (r26.1.1, ((v.2.2.1.2.2.1, (v.1.1, ())), ()))) fun r27 => (kk ((), ()) ((), ((v.2.1.1, (r27.1.1, v.2.1.2.2)), (v.2.2.1, (v.2.2.2.1, ())))))))
 (f_spec_l1Do_i26 _ ((), ()) ((v.1.1, (v.1.2.1, ((ieq v.1.2.1 (5 : Int)), ()))), (v.2.1, (v.2.2.1, (v.2.2.2.1, ())))) fun c28 o29 =>
 (kk ((), ()) ((), (o29.2.1, (o29.2.2.1, (o29.2.2.2.1, ())))))))
abbrev f_spec_l1Do_i22c : Desc := ⟨[(2, .ptr 2 []), (3, .ptr 3 []), (4, .ptr 4 [])], []⟩
abbrev f_spec_l1Do_i22v : Desc := ⟨[(12, .v (.int .i64)), (119, .v (.int .i64)), (155, .v .bool)], [(2, ⟨kdDisk, (.pr (.o .s) (.pr (.o .s) (.pr (.o .s) .s))), true⟩), (3, ⟨kdDiskStep, .s, true⟩), (4, ⟨kdDisk, (.pr (.o .s) (.pr (.o .s) (.pr (.o .s) .s))), true⟩)]⟩
abbrev f_spec_l1Do_i22e : List (Ek × Desc) := [(.norm, ⟨[], [(2, ⟨kdDisk, (.pr (.o .s) (.pr (.o .s) (.pr (.o .s) .s))), true⟩), (3, ⟨kdDiskStep, .s, true⟩), (4, ⟨kdDisk, (.pr (.o .s) (.pr (.o .s) (.pr (.o .s) .s))), true⟩)]⟩)]
def f_spec_l1Do_i22 (R : Type) (c : (Unit × Unit)) (v : ((Int × Int × Bool × Unit) × (DDisk × DDiskStep × DDisk × Unit))) (kk : (Unit × Unit) → (Unit × (DDisk × DDiskStep × DDisk × Unit)) → Option R) : Option R :=
 (cond v.1.2.2.1
 (getO v.2.1.1 v.1.1 fun _ => (bnd (v.2.1.1[(Int.toNat v.1.1)]?) fun v21 => (bnd (v.2.1.1[(Int.toNat v.1.1)]?) fun v22 => (getO v.2.1.1 v.1.1 fun _ => (bnd (v.2.1.1[(Int.toNat v.1.1)]?) fun v24 => (bnd (v.2.1.1[(Int.toNat v.1.1)]?) fun v25 => (kk ((), ()) ((), (((List.set v.2.1.1 (Int.toNat v.1.1) (v25.1, ((slen v22.1), v25.2.2))), v.2.1.2), (v.2.2.1, (v.2.2.2.1, ())))))))))))
 (f_spec_l1Do_i24 _ ((), ()) ((v.1.1, (v.1.2.1, ((ieq v.1.2.1 (4 : Int)), ()))), (v.2.1, (v.2.2.1, (v.2.2.2.1, ())))) fun c26 o27 =>
 (kk ((), ()) ((), (o27.2.1, (o27.2.2.1, (o27.2.2.2.1, ())))))))
abbrev f_spec_l1Do_i20c : Desc := ⟨[(2, .ptr 2 []), (3, .ptr 3 []), (4, .ptr 4 [])], []⟩
abbrev f_spec_l1Do_i20v : Desc := ⟨[(12, .v (.int .i64)), (119, .v (.int .i64)), (142, .v .bool)], [(2, ⟨kdDisk, (.pr (.o .s) (.pr (.o .s) (.pr (.o .s) .s))), true⟩), (3, ⟨kdDiskStep, .s, true⟩), (4, ⟨kdDisk, (.pr (.o .s) (.pr (.o .s) (.pr (.o .s) .s))), true⟩)]⟩
abbrev f_spec_l1Do_i20e : List (Ek × Desc) := [(.norm, ⟨[], [(2, ⟨kdDisk, (.pr (.o .s) (.pr (.o .s) (.pr (.o .s) .s))), true⟩), (3, ⟨kdDiskStep, .s, true⟩), (4, ⟨kdDisk, (.pr (.o .s) (.pr (.o .s) (.pr (.o .s) .s))), true⟩)]⟩)]
def f_spec_l1Do_i20 (R : Type) (c : (Unit × Unit)) (v : ((Int × Int × Bool × Unit) × (DDisk × DDiskStep × DDisk × Unit))) (kk : (Unit × Unit) → (Unit × (DDisk × DDiskStep × DDisk × Unit)) → Option R) : Option R :=
 (cond v.1.2.2.1
 (getO v.2.1.1 v.1.1 fun _ => (bnd (v.2.1.1[(Int.toNat v.1.1)]?) fun v14 => (bnd (v.2.1.1[(Int.toNat v.1.1)]?) fun v15 => (catO v15.1 v.2.2.1.2.2.2.1 fun v16 => (getO v.2.1.1 v.1.1 fun _ => (bnd (v.2.1.1[(Int.toNat v.1.1)]?) fun v18 => (bnd (v.2.1.1[(Int.toNat v.1.1)]?) fun v19 => (kk ((), ()) ((), (((List.set v.2.1.1 (Int.toNat v.1.1) (v16, v19.2)), v.2.1.2), (v.2.2.1, (v.2.2.2.1, ()))))))))))))
 (f_spec_l1Do_i22 _ ((), ()) ((v.1.1, (v.1.2.1, ((ieq v.1.2.1 (3 : Int)), ()))), (v.2.1, (v.2.2.1, (v.2.2.2.1, ())))) fun c20 o21 =>
 (kk ((), ()) ((), (o21.2.1, (o21.2.2.1, (o21.2.2.2.1, ())))))))
abbrev f_spec_l1Do_i17c : Desc := ⟨[(2, .ptr 2 []), (3, .ptr 3 []), (4, .ptr 4 [])], []⟩
abbrev f_spec_l1Do_i17v : Desc := ⟨[(12, .v (.int .i64)), (119, .v (.int .i64)), (124, .v .bool)], [(2, ⟨kdDisk, (.pr (.o .s) (.pr (.o .s) (.pr (.o .s) .s))), true⟩), (3, ⟨kdDiskStep, .s, true⟩), (4, ⟨kdDisk, (.pr (.o .s) (.pr (.o .s) (.pr (.o .s) .s))), true⟩)]⟩
abbrev f_spec_l1Do_i17e : List (Ek × Desc) := [(.norm, ⟨[], [(2, ⟨kdDisk, (.pr (.o .s) (.pr (.o .s) (.pr (.o .s) .s))), true⟩), (3, ⟨kdDiskStep, .s, true⟩), (4, ⟨kdDisk, (.pr (.o .s) (.pr (.o .s) (.pr (.o .s) .s))), true⟩)]⟩)]
def f_spec_l1Do_i17 (R : Type) (c : (Unit × Unit)) (v : ((Int × Int × Bool × Unit) × (DDisk × DDiskStep × DDisk × Unit))) (kk : (Unit × Unit) → (Unit × (DDisk × DDiskStep × DDisk × Unit)) → Option R) : Option R :=
 (cond v.1.2.2.1
 (bnd (f_spec_l1Put (v.2.1.2.1, ((v.2.2.1.2.1, ((llen v.2.1.1), ())), ()))) fun r12 => (req (decide (List.length v.2.1.1 + List.length [((⟨#[]⟩ : ByteArray), ((0 : Int), ()))] ≤ 17179869184)) (kk ((), ()) ((), (((v.2.1.1 ++ [((⟨#[]⟩ : ByteArray), ((0 : Int), ()))]), (r12.1.1, v.2.1.2.2)), (v.2.2.1, (v.2.2.2.1, ())))))))
 (f_spec_l1Do_i20 _ ((), ()) ((v.1.1, (v.1.2.1, ((ieq v.1.2.1 (2 : Int)), ()))), (v.2.1, (v.2.2.1, (v.2.2.2.1, ())))) fun c13 o14 =>
 (kk ((), ()) ((), (o14.2.1, (o14.2.2.1, (o14.2.2.2.1, ())))))))
def f_spec_l1Do_j24 (x : (DDisk × DDiskStep × Unit)) (r906 : (Int × Bool × Unit) × Unit) : Option ((DDisk × Int × Unit) × Unit) :=
 (f_spec_l1Do_i13 _ ((r906.1.1, (r906.1.2.1, ())), (x.1, (x.2.1, ((([] : List DBlob), (([] : List DBlob), (([] : List DBlob), ((0 : Int), ())))), ())))) (((0 : Int), ()), ()) fun c923 o924 => (f_spec_l1Do_i17 _ ((), ()) ((o924.1.1, (c923.2.2.1.1, ((ieq c923.2.2.1.1 (1 : Int)), ()))), (c923.2.1, (c923.2.2.1, (c923.2.2.2.1, ())))) fun c925 o926 => (bnd (f_spec_GoodDisk (o926.2.1, ())) fun r927 => (cond (!r927.1.1) (some ((o926.2.1, ((4 : Int), ())), ())) (some ((o926.2.1, ((0 : Int), ())), ()))))))
def f_spec_l1Do_j23 (x : (DDisk × DDiskStep × Unit)) (r907 : (Int × Bool × Unit) × Unit) (r906 : (Int × Bool × Unit) × Unit) : Option ((DDisk × Int × Unit) × Unit) :=
 (cond r907.1.2.1 (some ((x.1, ((3 : Int), ())), ())) (f_spec_l1Do_j24 x r906))
def f_spec_l1Do_j21 (x : (DDisk × DDiskStep × Unit)) (r907 : (Int × Bool × Unit) × Unit) (r906 : (Int × Bool × Unit) × Unit) : Option ((DDisk × Int × Unit) × Unit) :=
 (cond (ieq x.2.1.1 (5 : Int)) (f_spec_l1Do_j23 x r907 r906) (f_spec_l1Do_j24 x r906))
def f_spec_l1Do_j20 (x : (DDisk × DDiskStep × Unit)) (r906 : (Int × Bool × Unit) × Unit) (r907 : (Int × Bool × Unit) × Unit) : Option ((DDisk × Int × Unit) × Unit) :=
 (cond r906.1.2.1 (some ((x.1, ((3 : Int), ())), ())) (f_spec_l1Do_j21 x r907 r906))
def f_spec_l1Do_j18 (x : (DDisk × DDiskStep × Unit)) (r906 : (Int × Bool × Unit) × Unit) (r907 : (Int × Bool × Unit) × Unit) : Option ((DDisk × Int × Unit) × Unit) :=
 (cond (ieq x.2.1.1 (1 : Int)) (f_spec_l1Do_j20 x r906 r907) (f_spec_l1Do_j21 x r907 r906))
def f_spec_l1Do_j15 (x : (DDisk × DDiskStep × Unit)) (r906 : (Int × Bool × Unit) × Unit) : Option ((DDisk × Int × Unit) × Unit) :=
 (bnd (f_spec_l1At (x.1.2.1, (x.2.1.2.2.1, ()))) fun r907 => (f_spec_l1Do_j18 x r906 r907))
def f_spec_l1Do_j22 (x : (DDisk × DDiskStep × Unit)) (r466 : (Int × Bool × Unit) × Unit) : Option ((DDisk × Int × Unit) × Unit) :=
 (cond (!r466.1.2.1) (some ((x.1, ((2 : Int), ())), ())) (f_spec_l1Do_j15 x r466))
def f_spec_l1Do_j19 (x : (DDisk × DDiskStep × Unit)) (r466 : (Int × Bool × Unit) × Unit) : Option ((DDisk × Int × Unit) × Unit) :=
 (cond (!ieq x.2.1.1 (1 : Int)) (f_spec_l1Do_j22 x r466) (f_spec_l1Do_j15 x r466))
def f_spec_l1Do_j17 (x : (DDisk × DDiskStep × Unit)) (r466 : (Int × Bool × Unit) × Unit) : Option ((DDisk × Int × Unit) × Unit) :=
 (cond (!ieq x.2.1.1 (8 : Int)) (f_spec_l1Do_j19 x r466) (f_spec_l1Do_j15 x r466))
def f_spec_l1Do_j13 (x : (DDisk × DDiskStep × Unit)) : Option ((DDisk × Int × Unit) × Unit) :=
 (bnd (f_spec_l1At (x.1.2.1, (x.2.1.2.1, ()))) fun r466 => (f_spec_l1Do_j17 x r466))
def f_spec_l1Do_j16 (x : (DDisk × DDiskStep × Unit)) (r401 : (Bool × Unit) × Unit) : Option ((DDisk × Int × Unit) × Unit) :=
 (cond (!r401.1.1) (some ((x.1, ((1 : Int), ())), ())) (f_spec_l1Do_j13 x))
def f_spec_l1Do_j12 (x : (DDisk × DDiskStep × Unit)) : Option ((DDisk × Int × Unit) × Unit) :=
 (bnd (f_spec_l1In (x.2.1.2.2.2.2.1, ((0 : Int), ((4000 : Int), ())))) fun r401 => (f_spec_l1Do_j16 x r401))
def f_spec_l1Do_j9 (x : (DDisk × DDiskStep × Unit)) : Option ((DDisk × Int × Unit) × Unit) :=
 (cond (ieq x.2.1.1 (8 : Int)) (f_spec_l1Do_j12 x) (f_spec_l1Do_j13 x))
def f_spec_l1Do_j6 (x : (DDisk × DDiskStep × Unit)) : Option ((DDisk × Int × Unit) × Unit) :=
 (cond (ilt (4000 : Int) (slen x.2.1.2.2.2.1)) (some ((x.1, ((1 : Int), ())), ())) (f_spec_l1Do_j9 x))
def f_spec_l1Do_j5 (x : (DDisk × DDiskStep × Unit)) (r3 : (Bool × Unit) × Unit) : Option ((DDisk × Int × Unit) × Unit) :=
 (cond (!r3.1.1) (some ((x.1, ((1 : Int), ())), ())) (f_spec_l1Do_j6 x))
def f_spec_l1Do_j1 (x : (DDisk × DDiskStep × Unit)) : Option ((DDisk × Int × Unit) × Unit) :=
 (bnd (f_spec_l1Name (x.2.1.2.2.1, ())) fun r3 => (f_spec_l1Do_j5 x r3))
def f_spec_l1Do_j2 (x : (DDisk × DDiskStep × Unit)) : Option ((DDisk × Int × Unit) × Unit) :=
 (cond (ieq x.2.1.1 (5 : Int)) (f_spec_l1Do_j1 x) (f_spec_l1Do_j6 x))
def f_spec_l1Do_j11 (x : (DDisk × DDiskStep × Unit)) : Option ((DDisk × Int × Unit) × Unit) :=
 (bnd (f_spec_l1At (x.1.2.1, (x.2.1.2.1, ()))) fun r906 => (f_spec_l1Do_j15 x r906))
def f_spec_l1Do_j14 (x : (DDisk × DDiskStep × Unit)) (r883 : (Bool × Unit) × Unit) : Option ((DDisk × Int × Unit) × Unit) :=
 (cond (!r883.1.1) (some ((x.1, ((1 : Int), ())), ())) (f_spec_l1Do_j11 x))
def f_spec_l1Do_j10 (x : (DDisk × DDiskStep × Unit)) : Option ((DDisk × Int × Unit) × Unit) :=
 (bnd (f_spec_l1In (x.2.1.2.2.2.2.1, ((0 : Int), ((4000 : Int), ())))) fun r883 => (f_spec_l1Do_j14 x r883))
def f_spec_l1Do_j8 (x : (DDisk × DDiskStep × Unit)) : Option ((DDisk × Int × Unit) × Unit) :=
 (cond (ieq x.2.1.1 (8 : Int)) (f_spec_l1Do_j10 x) (f_spec_l1Do_j11 x))
def f_spec_l1Do_j4 (x : (DDisk × DDiskStep × Unit)) : Option ((DDisk × Int × Unit) × Unit) :=
 (cond (ilt (4000 : Int) (slen x.2.1.2.2.2.1)) (some ((x.1, ((1 : Int), ())), ())) (f_spec_l1Do_j8 x))
def f_spec_l1Do_j7 (x : (DDisk × DDiskStep × Unit)) (r790 : (Bool × Unit) × Unit) : Option ((DDisk × Int × Unit) × Unit) :=
 (cond (!r790.1.1) (some ((x.1, ((1 : Int), ())), ())) (f_spec_l1Do_j4 x))
def f_spec_l1Do_j3 (x : (DDisk × DDiskStep × Unit)) : Option ((DDisk × Int × Unit) × Unit) :=
 (bnd (f_spec_l1Name (x.2.1.2.2.1, ())) fun r790 => (f_spec_l1Do_j7 x r790))
def f_spec_l1Do (x : (DDisk × DDiskStep × Unit)) : Option ((DDisk × Int × Unit) × Unit) :=
 (cond (!ieq x.2.1.1 (7 : Int)) (cond (ieq x.2.1.1 (4 : Int)) (bnd (f_spec_l1In (x.2.1.1, ((1 : Int), ((8 : Int), ())))) fun r1 => (cond (!r1.1.1) (some ((x.1, ((1 : Int), ())), ())) (cond (!ieq x.2.1.1 (8 : Int)) (bnd (f_spec_l1Name (x.2.1.2.1, ())) fun r2 => (cond (!r2.1.1) (some ((x.1, ((1 : Int), ())), ())) (f_spec_l1Do_j1 x))) (f_spec_l1Do_j1 x)))) (bnd (f_spec_l1In (x.2.1.1, ((1 : Int), ((8 : Int), ())))) fun r269 => (cond (!r269.1.1) (some ((x.1, ((1 : Int), ())), ())) (cond (!ieq x.2.1.1 (8 : Int)) (bnd (f_spec_l1Name (x.2.1.2.1, ())) fun r270 => (cond (!r270.1.1) (some ((x.1, ((1 : Int), ())), ())) (f_spec_l1Do_j2 x))) (f_spec_l1Do_j2 x))))) (cond (ieq x.2.1.1 (4 : Int)) (bnd (f_spec_l1In (x.2.1.1, ((1 : Int), ((8 : Int), ())))) fun r789 => (cond (!r789.1.1) (some ((x.1, ((1 : Int), ())), ())) (f_spec_l1Do_j3 x))) (bnd (f_spec_l1In (x.2.1.1, ((1 : Int), ((8 : Int), ())))) fun r836 => (cond (!r836.1.1) (some ((x.1, ((1 : Int), ())), ())) (cond (ieq x.2.1.1 (5 : Int)) (f_spec_l1Do_j3 x) (f_spec_l1Do_j4 x))))))
def sg34 : Sig := ⟨ins34, res34, f_spec_l1Do⟩
abbrev ins21 : List Pm := [.val kdDisk, .val kdDiskStep]
abbrev res21 : List (K × Mk) := [(kdDisk, (.pr (.o .s) (.pr (.o .s) (.pr (.o .s) .s)))), ((.int .i64), .s)]
def f_spec_DoDisk (x : (DDisk × DDiskStep × Unit)) : Option ((DDisk × Int × Unit) × Unit) :=
 (bnd (f_spec_GoodDisk (x.1, ())) fun r1 => (cond (!r1.1.1)
 (some (((([] : List DBlob), (([] : List DBlob), (([] : List DBlob), ((0 : Int), ())))), ((1 : Int), ())), ()))
 (bnd (f_spec_l1Own (x.1, ())) fun r2 => (bnd (f_spec_l1Do (r2.1.1, (x.2.1, ()))) fun r3 => (cond (!ieq r3.1.2.1 (0 : Int))
 (bnd (f_spec_l1Own (x.1, ())) fun r4 => (some ((r4.1.1, (r3.1.2.1, ())), ())))
 (some ((r3.1.1, ((0 : Int), ())), ())))))))
def sg21 : Sig := ⟨ins21, res21, f_spec_DoDisk⟩
abbrev ins55 : List Pm := [.val (.int .i64), .val (.int .i64), .val (.int .i64)]
abbrev res55 : List (K × Mk) := [(.bool, .s)]
def f_impl_in (x : (Int × Int × Int × Unit)) : Option ((Bool × Unit) × Unit) :=
 (cond (ile x.2.1 x.1)
 (some (((ile x.1 x.2.2.1), ()), ()))
 (some ((false, ()), ())))
def sg55 : Sig := ⟨ins55, res55, f_impl_in⟩
abbrev ins54 : List Pm := [.val kdBlob]
abbrev res54 : List (K × Mk) := [(.bool, .s)]
def f_impl_GoodDisk_1 (x : (DBlob × Unit)) : Option ((Bool × Unit) × Unit) :=
 (cond (ilt (4000 : Int) (slen x.1.1))
 (some ((true, ()), ()))
 (bnd (f_impl_in (x.1.2.1, ((0 : Int), ((slen x.1.1), ())))) fun r1 => (some (((!r1.1.1), ()), ()))))
def sg54 : Sig := ⟨ins54, res54, f_impl_GoodDisk_1⟩
abbrev ins82 : List Pm := [.val (.sl kdBlob), .fn [kdBlob] [.bool]]
abbrev res82 : List (K × Mk) := [((.int .i64), .s)]
abbrev f_slices_IndexFunc_Blob_l2c : Desc := ⟨[(0, .v (.sl kdBlob)), (1, .fv [kdBlob] [.bool]), (7, .v (.int .i64))], []⟩
abbrev f_slices_IndexFunc_Blob_l2v : Desc := ⟨[(8, .v (.int .i64))], []⟩
abbrev f_slices_IndexFunc_Blob_l2e : List (Ek × Desc) := [(.ret, ⟨[(4, .v (.int .i64))], []⟩), (.exit 0, ⟨[], []⟩)]
def f_slices_IndexFunc_Blob_l2 (R : Type) (c : (((List DBlob) × ((DBlob × Unit) → Option (Bool × Unit)) × Int × Unit) × Unit)) (v : ((Int × Unit) × Unit)) (kk : (((List DBlob) × ((DBlob × Unit) → Option (Bool × Unit)) × Int × Unit) × Unit) → (((Int × Unit) × Unit) ⊕ (((Int × Unit) × Unit) ⊕ (Unit × Unit))) → Option R) : Option R :=
 (cond (ilt v.1.1 c.1.2.2.1)
 (getO c.1.1 v.1.1 fun v1 => (bnd (c.1.2.1 (v1, ())) fun r2 => (cond r2.1
 (kk ((c.1.1, (c.1.2.1, (c.1.2.2.1, ()))), ()) (.inr (.inl ((v.1.1, ()), ()))))
 (kk ((c.1.1, (c.1.2.1, (c.1.2.2.1, ()))), ()) (.inl (((iadd .i64 v.1.1 (1 : Int)), ()), ()))))))
 (kk ((c.1.1, (c.1.2.1, (c.1.2.2.1, ()))), ()) (.inr (.inr ((), ())))))
def f_slices_IndexFunc_Blob (x : ((List DBlob) × ((DBlob × Unit) → Option (Bool × Unit)) × Unit)) : Option ((Int × Unit) × Unit) :=
 (loopF (c := f_slices_IndexFunc_Blob_l2c) (v := f_slices_IndexFunc_Blob_l2v) (ex := f_slices_IndexFunc_Blob_l2e) f_slices_IndexFunc_Blob_l2 _ ((x.1, (x.2.1, ((llen x.1), ()))), ()) (((0 : Int), ()), ()) fun c3 o4 =>
 (match o4 with
 | .inl y5 => (some ((y5.1.1, ()), ()))
 | .inr z6 => (some (((-1 : Int), ()), ()))))
def sg82 : Sig := ⟨ins82, res82, f_slices_IndexFunc_Blob⟩
abbrev ins53 : List Pm := [.val (.sl kdBlob), .fn [kdBlob] [.bool]]
abbrev res53 : List (K × Mk) := [(.bool, .s)]
def f_slices_ContainsFunc_Blob (x : ((List DBlob) × ((DBlob × Unit) → Option (Bool × Unit)) × Unit)) : Option ((Bool × Unit) × Unit) :=
 (bnd (f_slices_IndexFunc_Blob (x.1, (x.2.1, ()))) fun r1 => (some (((ile (0 : Int) r1.1.1), ()), ())))
def sg53 : Sig := ⟨ins53, res53, f_slices_ContainsFunc_Blob⟩
abbrev ins76 : List Pm := [.val .str]
abbrev res76 : List (K × Mk) := [(.bool, .s)]
def f_impl_isFileName (x : (ByteArray × Unit)) : Option ((Bool × Unit) × Unit) :=
 (bnd (f_impl_in ((slen x.1), ((1 : Int), ((12 : Int), ())))) fun r1 => (cond r1.1.1
 (bnd (f_strings_Trim (x.1, ((⟨#[97, 98, 99, 100, 101, 102, 103, 104, 105, 106, 107, 108, 109, 110, 111, 112, 113, 114, 115, 116, 117, 118, 119, 120, 121, 122, 48, 49, 50, 51, 52, 53, 54, 55, 56, 57, 46]⟩ : ByteArray), ()))) fun r2 => (some (((seq r2.1.1 (⟨#[]⟩ : ByteArray)), ()), ())))
 (some ((false, ()), ()))))
def sg76 : Sig := ⟨ins76, res76, f_impl_isFileName⟩
abbrev ins56r : List Pm := [.rp kdDisk, .val (.sl kdBlob)]
abbrev res56r : List (K × Mk) := [(.bool, .s)]
abbrev f_impl_Disk_namesOk_r_l2c : Desc := ⟨[(0, .sp kdDisk), (1, .v (.sl kdBlob)), (7, .v (.sl kdBlob)), (8, .v (.int .i64))], []⟩
abbrev f_impl_Disk_namesOk_r_l2v : Desc := ⟨[(9, .v (.int .i64))], []⟩
abbrev f_impl_Disk_namesOk_r_l2e : List (Ek × Desc) := [(.ret, ⟨[(4, .v .bool)], []⟩), (.exit 0, ⟨[], []⟩)]
def f_impl_Disk_namesOk_r_l2 (R : Type) (c : ((DDisk × (List DBlob) × (List DBlob) × Int × Unit) × Unit)) (v : ((Int × Unit) × Unit)) (kk : ((DDisk × (List DBlob) × (List DBlob) × Int × Unit) × Unit) → (((Int × Unit) × Unit) ⊕ (((Bool × Unit) × Unit) ⊕ (Unit × Unit))) → Option R) : Option R :=
 (cond (ilt v.1.1 c.1.2.2.2.1)
 (getO c.1.2.2.1 v.1.1 fun v1 => (bnd (f_impl_isFileName (v1.1, ())) fun r2 => (cond (!r2.1.1)
 (kk ((c.1.1, (c.1.2.1, (c.1.2.2.1, (c.1.2.2.2.1, ())))), ()) (.inr (.inl ((false, ()), ()))))
 (bnd (f_impl_in (v1.2.1, ((0 : Int), ((isub .i64 (llen c.1.1.1) (1 : Int)), ())))) fun r3 => (cond (!r3.1.1)
 (kk ((c.1.1, (c.1.2.1, (c.1.2.2.1, (c.1.2.2.2.1, ())))), ()) (.inr (.inl ((false, ()), ()))))
 (cond (ilt (0 : Int) v.1.1)
 (getO c.1.2.1 (isub .i64 v.1.1 (1 : Int)) fun v4 => (cond (!slt v4.1 v1.1)
 (kk ((c.1.1, (c.1.2.1, (c.1.2.2.1, (c.1.2.2.2.1, ())))), ()) (.inr (.inl ((false, ()), ()))))
 (kk ((c.1.1, (c.1.2.1, (c.1.2.2.1, (c.1.2.2.2.1, ())))), ()) (.inl (((iadd .i64 v.1.1 (1 : Int)), ()), ())))))
 (kk ((c.1.1, (c.1.2.1, (c.1.2.2.1, (c.1.2.2.2.1, ())))), ()) (.inl (((iadd .i64 v.1.1 (1 : Int)), ()), ())))))))))
 (kk ((c.1.1, (c.1.2.1, (c.1.2.2.1, (c.1.2.2.2.1, ())))), ()) (.inr (.inr ((), ())))))
def f_impl_Disk_namesOk_r (x : (DDisk × (List DBlob) × Unit)) : Option ((Bool × Unit) × Unit) :=
 (loopF (c := f_impl_Disk_namesOk_r_l2c) (v := f_impl_Disk_namesOk_r_l2v) (ex := f_impl_Disk_namesOk_r_l2e) f_impl_Disk_namesOk_r_l2 _ ((x.1, (x.2.1, (x.2.1, ((llen x.2.1), ())))), ()) (((0 : Int), ()), ()) fun c5 o6 =>
 (match o6 with
 | .inl y7 => (some ((y7.1.1, ()), ()))
 | .inr z8 => (some (((ile (llen c5.1.2.1) (20 : Int)), ()), ()))))
def sg56r : Sig := ⟨ins56r, res56r, f_impl_Disk_namesOk_r⟩
abbrev ins23 : List Pm := [.val kdDisk]
abbrev res23 : List (K × Mk) := [(.bool, .s)]
def f_impl_GoodDisk (x : (DDisk × Unit)) : Option ((Bool × Unit) × Unit) :=
 (bnd (f_slices_ContainsFunc_Blob (x.1.1, ((fun z => (bnd (f_impl_GoodDisk_1 (z.1, ())) fun r => (some r.1))), ()))) fun r1 => (cond (ilt (60 : Int) (llen x.1.1))
 (some ((false, ()), ()))
 (cond r1.1.1
 (some ((false, ()), ()))
 (bnd (f_impl_in (x.1.2.2.2.1, ((0 : Int), ((100000 : Int), ())))) fun r2 => (cond (!r2.1.1)
 (some ((false, ()), ()))
 (bnd (f_impl_Disk_namesOk_r (x.1, (x.1.2.1, ()))) fun r3 => (cond r3.1.1
 (bnd (f_impl_Disk_namesOk_r (x.1, (x.1.2.2.1, ()))) fun r4 => (cond r4.1.1
 (bnd (f_impl_Disk_used (x.1, ())) fun r5 => (some (((ile r5.1.1 x.1.2.2.2.1), ()), ())))
 (some ((false, ()), ()))))
 (some ((false, ()), ())))))))))
def sg23 : Sig := ⟨ins23, res23, f_impl_GoodDisk⟩
abbrev ins85 : List Pm := [.val kdBlob, .rp .str]
abbrev res85 : List (K × Mk) := [(.bool, .s)]
def f_impl_nameAt_1 (x : (DBlob × ByteArray × Unit)) : Option ((Bool × Unit) × Unit) :=
 (some (((seq x.1.1 x.2.1), ()), ()))
def sg85 : Sig := ⟨ins85, res85, f_impl_nameAt_1⟩
abbrev ins84 : List Pm := [.val (.sl kdBlob), .fn [kdBlob] [.bool]]
abbrev res84 : List (K × Mk) := [((.int .i64), .s)]
abbrev f_slices_IndexFunc_Name_l2c : Desc := ⟨[(0, .v (.sl kdBlob)), (1, .fv [kdBlob] [.bool]), (7, .v (.int .i64))], []⟩
abbrev f_slices_IndexFunc_Name_l2v : Desc := ⟨[(8, .v (.int .i64))], []⟩
abbrev f_slices_IndexFunc_Name_l2e : List (Ek × Desc) := [(.ret, ⟨[(4, .v (.int .i64))], []⟩), (.exit 0, ⟨[], []⟩)]
def f_slices_IndexFunc_Name_l2 (R : Type) (c : (((List DBlob) × ((DBlob × Unit) → Option (Bool × Unit)) × Int × Unit) × Unit)) (v : ((Int × Unit) × Unit)) (kk : (((List DBlob) × ((DBlob × Unit) → Option (Bool × Unit)) × Int × Unit) × Unit) → (((Int × Unit) × Unit) ⊕ (((Int × Unit) × Unit) ⊕ (Unit × Unit))) → Option R) : Option R :=
 (cond (ilt v.1.1 c.1.2.2.1)
 (getO c.1.1 v.1.1 fun v1 => (bnd (c.1.2.1 (v1, ())) fun r2 => (cond r2.1
 (kk ((c.1.1, (c.1.2.1, (c.1.2.2.1, ()))), ()) (.inr (.inl ((v.1.1, ()), ()))))
 (kk ((c.1.1, (c.1.2.1, (c.1.2.2.1, ()))), ()) (.inl (((iadd .i64 v.1.1 (1 : Int)), ()), ()))))))
 (kk ((c.1.1, (c.1.2.1, (c.1.2.2.1, ()))), ()) (.inr (.inr ((), ())))))
def f_slices_IndexFunc_Name (x : ((List DBlob) × ((DBlob × Unit) → Option (Bool × Unit)) × Unit)) : Option ((Int × Unit) × Unit) :=
 (loopF (c := f_slices_IndexFunc_Name_l2c) (v := f_slices_IndexFunc_Name_l2v) (ex := f_slices_IndexFunc_Name_l2e) f_slices_IndexFunc_Name_l2 _ ((x.1, (x.2.1, ((llen x.1), ()))), ()) (((0 : Int), ()), ()) fun c3 o4 =>
 (match o4 with
 | .inl y5 => (some ((y5.1.1, ()), ()))
 | .inr z6 => (some (((-1 : Int), ()), ()))))
def sg84 : Sig := ⟨ins84, res84, f_slices_IndexFunc_Name⟩
abbrev ins58 : List Pm := [.val (.sl kdBlob), .val .str]
abbrev res58 : List (K × Mk) := [((.int .i64), .s)]
def f_impl_nameAt (x : ((List DBlob) × ByteArray × Unit)) : Option ((Int × Unit) × Unit) :=
 (bnd (f_slices_IndexFunc_Name (x.1, ((fun z => (bnd (f_impl_nameAt_1 (z.1, (x.2.1, ()))) fun r => (some r.1))), ()))) fun r1 => (some ((r1.1.1, ()), ())))
def sg58 : Sig := ⟨ins58, res58, f_impl_nameAt⟩
abbrev ins47r : List Pm := [.rp kdDisk, .val kdDiskStep]
abbrev res47r : List (K × Mk) := [((.int .i64), .s)]
def f_impl_Disk_stepFault_r_j14 (x : (DDisk × DDiskStep × Unit)) (r90 : (Int × Unit) × Unit) : Option ((Int × Unit) × Unit) :=
 (cond (ile (0 : Int) r90.1.1) (some (((3 : Int), ()), ())) (cond (ieq x.2.1.1 (5 : Int)) (bnd (f_impl_nameAt (x.1.2.1, (x.2.1.2.2.1, ()))) fun r91 => (cond (ile (0 : Int) r91.1.1) (some (((3 : Int), ()), ())) (some (((0 : Int), ()), ())))) (some (((0 : Int), ()), ()))))
def f_impl_Disk_stepFault_r_j12 (x : (DDisk × DDiskStep × Unit)) : Option ((Int × Unit) × Unit) :=
 (bnd (f_impl_nameAt (x.1.2.1, (x.2.1.2.1, ()))) fun r90 => (f_impl_Disk_stepFault_r_j14 x r90))
def f_impl_Disk_stepFault_r_j10 (x : (DDisk × DDiskStep × Unit)) : Option ((Int × Unit) × Unit) :=
 (cond (ieq x.2.1.1 (1 : Int)) (f_impl_Disk_stepFault_r_j12 x) (cond (ieq x.2.1.1 (5 : Int)) (bnd (f_impl_nameAt (x.1.2.1, (x.2.1.2.2.1, ()))) fun r92 => (cond (ile (0 : Int) r92.1.1) (some (((3 : Int), ()), ())) (some (((0 : Int), ()), ())))) (some (((0 : Int), ()), ()))))
def f_impl_Disk_stepFault_r_j13 (x : (DDisk × DDiskStep × Unit)) (r83 : (Int × Unit) × Unit) : Option ((Int × Unit) × Unit) :=
 (cond (ilt r83.1.1 (0 : Int)) (some (((2 : Int), ()), ())) (f_impl_Disk_stepFault_r_j10 x))
def f_impl_Disk_stepFault_r_j11 (x : (DDisk × DDiskStep × Unit)) : Option ((Int × Unit) × Unit) :=
 (bnd (f_impl_nameAt (x.1.2.1, (x.2.1.2.1, ()))) fun r83 => (f_impl_Disk_stepFault_r_j13 x r83))
def f_impl_Disk_stepFault_r_j9 (x : (DDisk × DDiskStep × Unit)) : Option ((Int × Unit) × Unit) :=
 (cond (!ieq x.2.1.1 (1 : Int)) (f_impl_Disk_stepFault_r_j11 x) (f_impl_Disk_stepFault_r_j10 x))
def f_impl_Disk_stepFault_r_j7 (x : (DDisk × DDiskStep × Unit)) (r1 : (Bool × Unit) × Unit) : Option ((Int × Unit) × Unit) :=
 (cond r1.1.1 (f_impl_Disk_stepFault_r_j9 x) (f_impl_Disk_stepFault_r_j10 x))
def f_impl_Disk_stepFault_r_j8 (x : (DDisk × DDiskStep × Unit)) (r72 : (Bool × Unit) × Unit) (r1 : (Bool × Unit) × Unit) : Option ((Int × Unit) × Unit) :=
 (cond (!r72.1.1) (some (((1 : Int), ()), ())) (f_impl_Disk_stepFault_r_j7 x r1))
def f_impl_Disk_stepFault_r_j6 (x : (DDisk × DDiskStep × Unit)) (r1 : (Bool × Unit) × Unit) : Option ((Int × Unit) × Unit) :=
 (bnd (f_impl_in (x.2.1.2.2.2.2.1, ((0 : Int), ((4000 : Int), ())))) fun r72 => (f_impl_Disk_stepFault_r_j8 x r72 r1))
def f_impl_Disk_stepFault_r_j5 (x : (DDisk × DDiskStep × Unit)) (r1 : (Bool × Unit) × Unit) : Option ((Int × Unit) × Unit) :=
 (cond (ieq x.2.1.1 (8 : Int)) (f_impl_Disk_stepFault_r_j6 x r1) (f_impl_Disk_stepFault_r_j7 x r1))
def f_impl_Disk_stepFault_r_j4 (x : (DDisk × DDiskStep × Unit)) (r1 : (Bool × Unit) × Unit) : Option ((Int × Unit) × Unit) :=
 (cond (ilt (4000 : Int) (slen x.2.1.2.2.2.1)) (some (((1 : Int), ()), ())) (f_impl_Disk_stepFault_r_j5 x r1))
def f_impl_Disk_stepFault_r_j3 (x : (DDisk × DDiskStep × Unit)) (r4 : (Bool × Unit) × Unit) (r1 : (Bool × Unit) × Unit) : Option ((Int × Unit) × Unit) :=
 (cond (!r4.1.1) (some (((1 : Int), ()), ())) (f_impl_Disk_stepFault_r_j4 x r1))
def f_impl_Disk_stepFault_r_j1 (x : (DDisk × DDiskStep × Unit)) (r1 : (Bool × Unit) × Unit) : Option ((Int × Unit) × Unit) :=
 (bnd (f_impl_isFileName (x.2.1.2.2.1, ())) fun r4 => (f_impl_Disk_stepFault_r_j3 x r4 r1))
def f_impl_Disk_stepFault_r_j2 (x : (DDisk × DDiskStep × Unit)) (r1 : (Bool × Unit) × Unit) : Option ((Int × Unit) × Unit) :=
 (cond (ieq x.2.1.1 (5 : Int)) (f_impl_Disk_stepFault_r_j1 x r1) (f_impl_Disk_stepFault_r_j4 x r1))
def f_impl_Disk_stepFault_r (x : (DDisk × DDiskStep × Unit)) : Option ((Int × Unit) × Unit) :=
 (bnd (f_impl_in (x.2.1.1, ((1 : Int), ((6 : Int), ())))) fun r1 => (cond (ieq x.2.1.1 (4 : Int)) (bnd (f_impl_in (x.2.1.1, ((1 : Int), ((8 : Int), ())))) fun r2 => (cond (!r2.1.1) (some (((1 : Int), ()), ())) (cond r1.1.1 (bnd (f_impl_isFileName (x.2.1.2.1, ())) fun r3 => (cond (!r3.1.1) (some (((1 : Int), ()), ())) (f_impl_Disk_stepFault_r_j1 x r1))) (f_impl_Disk_stepFault_r_j1 x r1)))) (bnd (f_impl_in (x.2.1.1, ((1 : Int), ((8 : Int), ())))) fun r48 => (cond (!r48.1.1) (some (((1 : Int), ()), ())) (cond r1.1.1 (bnd (f_impl_isFileName (x.2.1.2.1, ())) fun r49 => (cond (!r49.1.1) (some (((1 : Int), ()), ())) (f_impl_Disk_stepFault_r_j2 x r1))) (f_impl_Disk_stepFault_r_j2 x r1))))))
def sg47r : Sig := ⟨ins47r, res47r, f_impl_Disk_stepFault_r⟩
abbrev ins77 : List Pm := [.val (.sl kdBlob)]
abbrev res77 : List (K × Mk) := [((.sl kdBlob), (.o .s))]
def f_slices_Clone_Blob (x : ((List DBlob) × Unit)) : Option (((List DBlob) × Unit) × Unit) :=
 (cond (Nat.beq (List.length x.1) 0)
 (bothK
 (some ((([] : List DBlob), ()), ()))
 (req (decide (List.length x.1 ≤ 17179869184)) (some ((x.1, ()), ()))))
 (req (decide (List.length x.1 ≤ 17179869184)) (some ((x.1, ()), ()))))
def sg77 : Sig := ⟨ins77, res77, f_slices_Clone_Blob⟩
abbrev ins78 : List Pm := [.val (.sl kdBlob)]
abbrev res78 : List (K × Mk) := [((.sl kdBlob), (.o .s))]
def f_slices_Clone_Name (x : ((List DBlob) × Unit)) : Option (((List DBlob) × Unit) × Unit) :=
 (cond (Nat.beq (List.length x.1) 0)
 (bothK
 (some ((([] : List DBlob), ()), ()))
 (req (decide (List.length x.1 ≤ 17179869184)) (some ((x.1, ()), ()))))
 (req (decide (List.length x.1 ≤ 17179869184)) (some ((x.1, ()), ()))))
def sg78 : Sig := ⟨ins78, res78, f_slices_Clone_Name⟩
abbrev ins48 : List Pm := [.val kdDisk]
abbrev res48 : List (K × Mk) := [(kdDisk, (.pr (.o .s) (.pr (.o .s) (.pr (.o .s) .s))))]
def f_impl_cloneDisk (x : (DDisk × Unit)) : Option ((DDisk × Unit) × Unit) :=
 (bnd (f_slices_Clone_Blob (x.1.1, ())) fun r1 => (bnd (f_slices_Clone_Name (x.1.2.1, ())) fun r2 => (bnd (f_slices_Clone_Name (x.1.2.2.1, ())) fun r3 => (some (((r1.1.1, (r2.1.1, (r3.1.1, x.1.2.2.2))), ()), ())))))
def sg48 : Sig := ⟨ins48, res48, f_impl_cloneDisk⟩
abbrev ins79 : List Pm := [.mptr kdDisk (.pr (.o .s) (.pr (.o .s) (.pr (.o .s) .s))), .val .str, .val (.int .i64)]
abbrev res79 : List (K × Mk) := []
abbrev f_impl_Disk_mean_l4c : Desc := ⟨[(0, .ptr 0 []), (1, .v .str), (2, .v (.int .i64))], [(0, ⟨kdDisk, (.pr (.o .s) (.pr (.o .s) (.pr (.o .s) .s))), true⟩)]⟩
abbrev f_impl_Disk_mean_l4v : Desc := ⟨[(7, .v (.int .i64))], []⟩
abbrev f_impl_Disk_mean_l4e : List (Ek × Desc) := [(.exit 0, ⟨[(7, .v (.int .i64))], []⟩)]
def f_impl_Disk_mean_l4 (R : Type) (c : ((ByteArray × Int × Unit) × (DDisk × Unit))) (v : ((Int × Unit) × Unit)) (kk : ((ByteArray × Int × Unit) × (DDisk × Unit)) → (((Int × Unit) × Unit) ⊕ ((Int × Unit) × Unit)) → Option R) : Option R :=
 (cond (ilt v.1.1 (llen c.2.1.2.1))
 (getO c.2.1.2.1 v.1.1 fun _ => (bnd (c.2.1.2.1[(Int.toNat v.1.1)]?) fun v6 => (bnd (c.2.1.2.1[(Int.toNat v.1.1)]?) fun v7 => (cond (slt v7.1 c.1.1)
 (kk ((c.1.1, (c.1.2.1, ())), (c.2.1, ())) (.inl (((iadd .i64 v.1.1 (1 : Int)), ()), ())))
 (kk ((c.1.1, (c.1.2.1, ())), (c.2.1, ())) (.inr ((v.1.1, ()), ())))))))
 (kk ((c.1.1, (c.1.2.1, ())), (c.2.1, ())) (.inr ((v.1.1, ()), ()))))
def f_impl_Disk_mean (x : (DDisk × ByteArray × Int × Unit)) : Option (Unit × (DDisk × Unit)) :=
 (bnd (f_impl_nameAt (x.1.2.1, (x.2.1, ()))) fun r1 => (cond (ile (0 : Int) r1.1.1)
 (getO x.1.2.1 r1.1.1 fun _ => (bnd (x.1.2.1[(Int.toNat r1.1.1)]?) fun v3 => (bnd (x.1.2.1[(Int.toNat r1.1.1)]?) fun v4 => (some ((), ((x.1.1, ((List.set x.1.2.1 (Int.toNat r1.1.1) (v4.1, (x.2.2.1, v4.2.2))), x.1.2.2)), ()))))))
 (loopF (c := f_impl_Disk_mean_l4c) (v := f_impl_Disk_mean_l4v) (ex := f_impl_Disk_mean_l4e) f_impl_Disk_mean_l4 _ ((x.2.1, (x.2.2.1, ())), (x.1, ())) (((0 : Int), ()), ()) fun c8 o9 =>
 (bnd ((f_slices_Insert kdBlob) (c8.2.1.2.1, (o9.1.1, ([(c8.1.1, (c8.1.2.1, ()))], ())))) fun r10 => (some ((), ((c8.2.1.1, (r10.1.1, c8.2.1.2.2)), ())))))))
def sg79 : Sig := ⟨ins79, res79, f_impl_Disk_mean⟩
abbrev ins80 : List Pm := [.mptr kdDisk (.pr (.o .s) (.pr (.o .s) (.pr (.o .s) .s))), .val .str]
abbrev res80 : List (K × Mk) := []
def f_impl_Disk_forget (x : (DDisk × ByteArray × Unit)) : Option (Unit × (DDisk × Unit)) :=
 (bnd (f_impl_nameAt (x.1.2.1, (x.2.1, ()))) fun r1 => (bnd ((f_slices_Delete kdBlob) (x.1.2.1, (r1.1.1, ((iadd .i64 r1.1.1 (1 : Int)), ())))) fun r2 => (some ((), ((x.1.1, (r2.1.1, x.1.2.2)), ())))))
def sg80 : Sig := ⟨ins80, res80, f_impl_Disk_forget⟩
abbrev ins81 : List Pm := [.mptr kdDisk (.pr (.o .s) (.pr (.o .s) (.pr (.o .s) .s))), .val (.int .i64)]
abbrev res81 : List (K × Mk) := []
abbrev f_impl_Disk_crash_l2c : Desc := ⟨[(0, .ptr 0 []), (1, .v (.int .i64)), (18, .v (.int .i64))], []⟩
abbrev f_impl_Disk_crash_l2v : Desc := ⟨[(19, .v (.int .i64))], [(0, ⟨kdDisk, (.pr (.o .s) (.pr (.o .s) (.pr (.o .s) .s))), true⟩)]⟩
abbrev f_impl_Disk_crash_l2e : List (Ek × Desc) := [(.exit 0, ⟨[], [(0, ⟨kdDisk, (.pr (.o .s) (.pr (.o .s) (.pr (.o .s) .s))), true⟩)]⟩)]
def f_impl_Disk_crash_l2 (R : Type) (c : ((Int × Int × Unit) × Unit)) (v : ((Int × Unit) × (DDisk × Unit))) (kk : ((Int × Int × Unit) × Unit) → (((Int × Unit) × (DDisk × Unit)) ⊕ (Unit × (DDisk × Unit))) → Option R) : Option R :=
 (cond (ilt v.1.1 c.1.2.1)
 (getO v.2.1.1 v.1.1 fun _ => (bnd (v.2.1.1[(Int.toNat v.1.1)]?) fun v3 => (bnd (v.2.1.1[(Int.toNat v.1.1)]?) fun v4 => (bnd (v.2.1.1[(Int.toNat v.1.1)]?) fun v5 => (bnd (v.2.1.1[(Int.toNat v.1.1)]?) fun v6 => (bnd (v.2.1.1[(Int.toNat v.1.1)]?) fun v7 => (bnd (v.2.1.1[(Int.toNat v.1.1)]?) fun v8 => (req (decide ((0 : Int) ≤ (imin (iadd .i64 v6.2.1 c.1.1) (slen v8.1))) && decide ((imin (iadd .i64 v6.2.1 c.1.1) (slen v8.1)) ≤ ((ByteArray.size v4.1) : Int))) (bnd (v.2.1.1[(Int.toNat v.1.1)]?) fun v9 => (bnd (v.2.1.1[(Int.toNat v.1.1)]?) fun v10 => (bnd ((List.set v.2.1.1 (Int.toNat v.1.1) ((ByteArray.extract v4.1 (0 : Nat) (Int.toNat (imin (iadd .i64 v6.2.1 c.1.1) (slen v8.1)))), v10.2))[(Int.toNat v.1.1)]?) fun v11 => (bnd ((List.set v.2.1.1 (Int.toNat v.1.1) ((ByteArray.extract v4.1 (0 : Nat) (Int.toNat (imin (iadd .i64 v6.2.1 c.1.1) (slen v8.1)))), v10.2))[(Int.toNat v.1.1)]?) fun v12 => (bnd ((List.set v.2.1.1 (Int.toNat v.1.1) ((ByteArray.extract v4.1 (0 : Nat) (Int.toNat (imin (iadd .i64 v6.2.1 c.1.1) (slen v8.1)))), v10.2))[(Int.toNat v.1.1)]?) fun v13 => (bnd ((List.set v.2.1.1 (Int.toNat v.1.1) ((ByteArray.extract v4.1 (0 : Nat) (Int.toNat (imin (iadd .i64 v6.2.1 c.1.1) (slen v8.1)))), v10.2))[(Int.toNat v.1.1)]?) fun v14 => (kk ((c.1.1, (c.1.2.1, ())), ()) (.inl (((iadd .i64 v.1.1 (1 : Int)), ()), (((List.set (List.set v.2.1.1 (Int.toNat v.1.1) ((ByteArray.extract v4.1 (0 : Nat) (Int.toNat (imin (iadd .i64 v6.2.1 c.1.1) (slen v8.1)))), v10.2)) (Int.toNat v.1.1) (v14.1, ((slen v12.1), v14.2.2))), v.2.1.2), ()))))))))))))))))))
 (kk ((c.1.1, (c.1.2.1, ())), ()) (.inr ((), (v.2.1, ())))))
def f_impl_Disk_crash (x : (DDisk × Int × Unit)) : Option (Unit × (DDisk × Unit)) :=
 (bnd (f_slices_Clone_Name (x.1.2.2.1, ())) fun r1 => (loopF (c := f_impl_Disk_crash_l2c) (v := f_impl_Disk_crash_l2v) (ex := f_impl_Disk_crash_l2e) f_impl_Disk_crash_l2 _ ((x.2.1, ((llen x.1.1), ())), ()) (((0 : Int), ()), ((x.1.1, (r1.1.1, x.1.2.2)), ())) fun c15 o16 =>
 (some ((), (o16.2.1, ())))))
def sg81 : Sig := ⟨ins81, res81, f_impl_Disk_crash⟩
abbrev ins49 : List Pm := [.mptr kdDisk (.pr (.o .s) (.pr (.o .s) (.pr (.o .s) .s))), .val kdDiskStep]
abbrev res49 : List (K × Mk) := []
abbrev f_impl_Disk_do_i4c : Desc := ⟨[(0, .ptr 0 []), (3, .ptr 3 []), (5, .v (.int .i64)), (14, .v .bool)], [(0, ⟨kdDisk, (.pr (.o .s) (.pr (.o .s) (.pr (.o .s) .s))), true⟩), (3, ⟨kdDiskStep, .s, true⟩)]⟩
abbrev f_impl_Disk_do_i4v : Desc := ⟨[(4, .v (.int .i64))], []⟩
abbrev f_impl_Disk_do_i4e : List (Ek × Desc) := [(.norm, ⟨[(4, .v (.int .i64))], []⟩)]
def f_impl_Disk_do_i4 (R : Type) (c : ((Int × Bool × Unit) × (DDisk × DDiskStep × Unit))) (v : ((Int × Unit) × Unit)) (kk : ((Int × Bool × Unit) × (DDisk × DDiskStep × Unit)) → ((Int × Unit) × Unit) → Option R) : Option R :=
 (cond c.1.2.1
 (getO c.2.1.2.1 c.1.1 fun _ => (bnd (c.2.1.2.1[(Int.toNat c.1.1)]?) fun v3 => (bnd (c.2.1.2.1[(Int.toNat c.1.1)]?) fun v4 => (kk ((c.1.1, (c.1.2.1, ())), (c.2.1, (c.2.2.1, ()))) ((v4.2.1, ()), ())))))
 (kk ((c.1.1, (c.1.2.1, ())), (c.2.1, (c.2.2.1, ()))) ((v.1.1, ()), ())))
abbrev f_impl_Disk_do_i15c : Desc := ⟨[(0, .ptr 0 []), (3, .ptr 3 []), (4, .v (.int .i64)), (86, .v .bool)], [(3, ⟨kdDiskStep, .s, true⟩)]⟩
abbrev f_impl_Disk_do_i15v : Desc := ⟨[], [(0, ⟨kdDisk, (.pr (.o .s) (.pr (.o .s) (.pr (.o .s) .s))), true⟩)]⟩
abbrev f_impl_Disk_do_i15e : List (Ek × Desc) := [(.norm, ⟨[], [(0, ⟨kdDisk, (.pr (.o .s) (.pr (.o .s) (.pr (.o .s) .s))), true⟩)]⟩)]
def f_impl_Disk_do_i15 (R : Type) (c : ((Int × Bool × Unit) × (DDiskStep × Unit))) (v : (Unit × (DDisk × Unit))) (kk : ((Int × Bool × Unit) × (DDiskStep × Unit)) → (Unit × (DDisk × Unit)) → Option R) : Option R :=
 (cond c.1.2.1
 (bnd (f_impl_Disk_mean (v.2.1, (c.2.1.2.2.1, (c.1.1, ())))) fun r21 => (bnd (f_impl_Disk_forget (r21.2.1, (c.2.1.2.1, ()))) fun r22 => (kk ((c.1.1, (c.1.2.1, ())), (c.2.1, ())) ((), (r22.2.1, ())))))
 (kk ((c.1.1, (c.1.2.1, ())), (c.2.1, ())) ((), (v.2.1, ()))))
abbrev f_impl_Disk_do_i24c : Desc := ⟨[(0, .ptr 0 []), (3, .ptr 3 []), (119, .v .bool)], [(3, ⟨kdDiskStep, .s, true⟩)]⟩
abbrev f_impl_Disk_do_i24v : Desc := ⟨[], [(0, ⟨kdDisk, (.pr (.o .s) (.pr (.o .s) (.pr (.o .s) .s))), true⟩)]⟩
abbrev f_impl_Disk_do_i24e : List (Ek × Desc) := [(.norm, ⟨[], [(0, ⟨kdDisk, (.pr (.o .s) (.pr (.o .s) (.pr (.o .s) .s))), true⟩)]⟩)]
def f_impl_Disk_do_i24 (R : Type) (c : ((Bool × Unit) × (DDiskStep × Unit))) (v : (Unit × (DDisk × Unit))) (kk : ((Bool × Unit) × (DDiskStep × Unit)) → (Unit × (DDisk × Unit)) → Option R) : Option R :=
 (cond c.1.1
 (bnd (f_impl_Disk_crash (v.2.1, (c.2.1.2.2.2.2.1, ()))) fun r28 => (kk ((c.1.1, ()), (c.2.1, ())) ((), (r28.2.1, ()))))
 (kk ((c.1.1, ()), (c.2.1, ())) ((), (v.2.1, ()))))
abbrev f_impl_Disk_do_i22c : Desc := ⟨[(0, .ptr 0 []), (3, .ptr 3 [])], []⟩
abbrev f_impl_Disk_do_i22v : Desc := ⟨[(24, .v (.int .i64)), (109, .v .bool)], [(0, ⟨kdDisk, (.pr (.o .s) (.pr (.o .s) (.pr (.o .s) .s))), true⟩), (3, ⟨kdDiskStep, .s, true⟩)]⟩
abbrev f_impl_Disk_do_i22e : List (Ek × Desc) := [(.norm, ⟨[], [(0, ⟨kdDisk, (.pr (.o .s) (.pr (.o .s) (.pr (.o .s) .s))), true⟩), (3, ⟨kdDiskStep, .s, true⟩)]⟩)]
def f_impl_Disk_do_i22 (R : Type) (c : (Unit × Unit)) (v : ((Int × Bool × Unit) × (DDisk × DDiskStep × Unit))) (kk : (Unit × Unit) → (Unit × (DDisk × DDiskStep × Unit)) → Option R) : Option R :=
 (cond v.1.2.1
 (bnd (f_slices_Clone_Name (v.2.1.2.1, ())) fun r27 => (kk ((), ()) ((), ((v.2.1.1, (v.2.1.2.1, (r27.1.1, v.2.1.2.2.2))), (v.2.2.1, ())))))
 (f_impl_Disk_do_i24 _ (((ieq v.1.1 (8 : Int)), ()), (v.2.2.1, ())) ((), (v.2.1, ())) fun c28 o29 =>
 (kk ((), ()) ((), (o29.2.1, (c28.2.1, ()))))))
abbrev f_impl_Disk_do_i20c : Desc := ⟨[(0, .ptr 0 []), (3, .ptr 3 [])], []⟩
abbrev f_impl_Disk_do_i20v : Desc := ⟨[(24, .v (.int .i64)), (103, .v .bool)], [(0, ⟨kdDisk, (.pr (.o .s) (.pr (.o .s) (.pr (.o .s) .s))), true⟩), (3, ⟨kdDiskStep, .s, true⟩)]⟩
abbrev f_impl_Disk_do_i20e : List (Ek × Desc) := [(.norm, ⟨[], [(0, ⟨kdDisk, (.pr (.o .s) (.pr (.o .s) (.pr (.o .s) .s))), true⟩), (3, ⟨kdDiskStep, .s, true⟩)]⟩)]
def f_impl_Disk_do_i20 (R : Type) (c : (Unit × Unit)) (v : ((Int × Bool × Unit) × (DDisk × DDiskStep × Unit))) (kk : (Unit × Unit) → (Unit × (DDisk × DDiskStep × Unit)) → Option R) : Option R :=
 (cond v.1.2.1
 (bnd (f_impl_Disk_forget (v.2.1, (v.2.2.1.2.1, ()))) fun r26 => (kk ((), ()) ((), (r26.2.1, (v.2.2.1, ())))))
 (f_impl_Disk_do_i22 _ ((), ()) ((v.1.1, ((ieq v.1.1 (7 : Int)), ())), (v.2.1, (v.2.2.1, ()))) fun c27 o28 =>
 (kk ((), ()) ((), (o28.2.1, (o28.2.2.1, ()))))))
abbrev f_impl_Disk_do_i18c : Desc := ⟨[(0, .ptr 0 []), (3, .ptr 3 [])], []⟩
abbrev f_impl_Disk_do_i18v : Desc := ⟨[(4, .v (.int .i64)), (24, .v (.int .i64)), (96, .v .bool)], [(0, ⟨kdDisk, (.pr (.o .s) (.pr (.o .s) (.pr (.o .s) .s))), true⟩), (3, ⟨kdDiskStep, .s, true⟩)]⟩
abbrev f_impl_Disk_do_i18e : List (Ek × Desc) := [(.norm, ⟨[], [(0, ⟨kdDisk, (.pr (.o .s) (.pr (.o .s) (.pr (.o .s) .s))), true⟩), (3, ⟨kdDiskStep, .s, true⟩)]⟩)]
def f_impl_Disk_do_i18 (R : Type) (c : (Unit × Unit)) (v : ((Int × Int × Bool × Unit) × (DDisk × DDiskStep × Unit))) (kk : (Unit × Unit) → (Unit × (DDisk × DDiskStep × Unit)) → Option R) : Option R :=
 (cond v.1.2.2.1
 (bnd (f_impl_Disk_mean (v.2.1, (v.2.2.1.2.2.1, (v.1.1, ())))) fun r25 => (kk ((), ()) ((), (r25.2.1, (v.2.2.1, ())))))
 (f_impl_Disk_do_i20 _ ((), ()) ((v.1.2.1, ((ieq v.1.2.1 (6 : Int)), ())), (v.2.1, (v.2.2.1, ()))) fun c26 o27 =>
 (kk ((), ()) ((), (o27.2.1, (o27.2.2.1, ()))))))
abbrev f_impl_Disk_do_i14c : Desc := ⟨[(0, .ptr 0 []), (3, .ptr 3 [])], []⟩
abbrev f_impl_Disk_do_i14v : Desc := ⟨[(4, .v (.int .i64)), (24, .v (.int .i64)), (80, .v .bool)], [(0, ⟨kdDisk, (.pr (.o .s) (.pr (.o .s) (.pr (.o .s) .s))), true⟩), (3, ⟨kdDiskStep, .s, true⟩)]⟩
abbrev f_impl_Disk_do_i14e : List (Ek × Desc) := [(.norm, ⟨[], [(0, ⟨kdDisk, (.pr (.o .s) (.pr (.o .s) (.pr (.o .s) .s))), true⟩), (3, ⟨kdDiskStep, .s, true⟩)]⟩)]
def f_impl_Disk_do_i14 (R : Type) (c : (Unit × Unit)) (v : ((Int × Int × Bool × Unit) × (DDisk × DDiskStep × Unit))) (kk : (Unit × Unit) → (Unit × (DDisk × DDiskStep × Unit)) → Option R) : Option R :=
 (cond v.1.2.2.1
 (f_impl_Disk_do_i15 _ ((v.1.1, ((!seq v.2.2.1.2.1 v.2.2.1.2.2.1), ())), (v.2.2.1, ())) ((), (v.2.1, ())) fun c21 o22 =>
 (kk ((), ()) ((), (o22.2.1, (c21.2.1, ())))))
 (f_impl_Disk_do_i18 _ ((), ()) ((v.1.1, (v.1.2.1, ((ieq v.1.2.1 (5 : Int)), ()))), (v.2.1, (v.2.2.1, ()))) fun c23 o24 =>
 (kk ((), ()) ((), (o24.2.1, (o24.2.2.1, ()))))))
abbrev f_impl_Disk_do_i12c : Desc := ⟨[(0, .ptr 0 []), (3, .ptr 3 [])], []⟩
abbrev f_impl_Disk_do_i12v : Desc := ⟨[(4, .v (.int .i64)), (24, .v (.int .i64)), (62, .v .bool)], [(0, ⟨kdDisk, (.pr (.o .s) (.pr (.o .s) (.pr (.o .s) .s))), true⟩), (3, ⟨kdDiskStep, .s, true⟩)]⟩
abbrev f_impl_Disk_do_i12e : List (Ek × Desc) := [(.norm, ⟨[], [(0, ⟨kdDisk, (.pr (.o .s) (.pr (.o .s) (.pr (.o .s) .s))), true⟩), (3, ⟨kdDiskStep, .s, true⟩)]⟩)]
def f_impl_Disk_do_i12 (R : Type) (c : (Unit × Unit)) (v : ((Int × Int × Bool × Unit) × (DDisk × DDiskStep × Unit))) (kk : (Unit × Unit) → (Unit × (DDisk × DDiskStep × Unit)) → Option R) : Option R :=
 (cond v.1.2.2.1
 (getO v.2.1.1 v.1.1 fun _ => (bnd (v.2.1.1[(Int.toNat v.1.1)]?) fun v16 => (bnd (v.2.1.1[(Int.toNat v.1.1)]?) fun v17 => (getO v.2.1.1 v.1.1 fun _ => (bnd (v.2.1.1[(Int.toNat v.1.1)]?) fun v19 => (bnd (v.2.1.1[(Int.toNat v.1.1)]?) fun v20 => (kk ((), ()) ((), (((List.set v.2.1.1 (Int.toNat v.1.1) (v20.1, ((slen v17.1), v20.2.2))), v.2.1.2), (v.2.2.1, ()))))))))))
 (f_impl_Disk_do_i14 _ ((), ()) ((v.1.1, (v.1.2.1, ((ieq v.1.2.1 (4 : Int)), ()))), (v.2.1, (v.2.2.1, ()))) fun c21 o22 =>
 (kk ((), ()) ((), (o22.2.1, (o22.2.2.1, ()))))))
abbrev f_impl_Disk_do_i10c : Desc := ⟨[(0, .ptr 0 []), (3, .ptr 3 [])], []⟩
abbrev f_impl_Disk_do_i10v : Desc := ⟨[(4, .v (.int .i64)), (24, .v (.int .i64)), (47, .v .bool)], [(0, ⟨kdDisk, (.pr (.o .s) (.pr (.o .s) (.pr (.o .s) .s))), true⟩), (3, ⟨kdDiskStep, .s, true⟩)]⟩
abbrev f_impl_Disk_do_i10e : List (Ek × Desc) := [(.norm, ⟨[], [(0, ⟨kdDisk, (.pr (.o .s) (.pr (.o .s) (.pr (.o .s) .s))), true⟩), (3, ⟨kdDiskStep, .s, true⟩)]⟩)]
def f_impl_Disk_do_i10 (R : Type) (c : (Unit × Unit)) (v : ((Int × Int × Bool × Unit) × (DDisk × DDiskStep × Unit))) (kk : (Unit × Unit) → (Unit × (DDisk × DDiskStep × Unit)) → Option R) : Option R :=
 (cond v.1.2.2.1
 (getO v.2.1.1 v.1.1 fun _ => (bnd (v.2.1.1[(Int.toNat v.1.1)]?) fun v9 => (bnd (v.2.1.1[(Int.toNat v.1.1)]?) fun v10 => (catO v10.1 v.2.2.1.2.2.2.1 fun v11 => (getO v.2.1.1 v.1.1 fun _ => (bnd (v.2.1.1[(Int.toNat v.1.1)]?) fun v13 => (bnd (v.2.1.1[(Int.toNat v.1.1)]?) fun v14 => (kk ((), ()) ((), (((List.set v.2.1.1 (Int.toNat v.1.1) (v11, v14.2)), v.2.1.2), (v.2.2.1, ())))))))))))
 (f_impl_Disk_do_i12 _ ((), ()) ((v.1.1, (v.1.2.1, ((ieq v.1.2.1 (3 : Int)), ()))), (v.2.1, (v.2.2.1, ()))) fun c15 o16 =>
 (kk ((), ()) ((), (o16.2.1, (o16.2.2.1, ()))))))
abbrev f_impl_Disk_do_i7c : Desc := ⟨[(0, .ptr 0 []), (3, .ptr 3 [])], []⟩
abbrev f_impl_Disk_do_i7v : Desc := ⟨[(4, .v (.int .i64)), (24, .v (.int .i64)), (25, .v .bool)], [(0, ⟨kdDisk, (.pr (.o .s) (.pr (.o .s) (.pr (.o .s) .s))), true⟩), (3, ⟨kdDiskStep, .s, true⟩)]⟩
abbrev f_impl_Disk_do_i7e : List (Ek × Desc) := [(.norm, ⟨[], [(0, ⟨kdDisk, (.pr (.o .s) (.pr (.o .s) (.pr (.o .s) .s))), true⟩), (3, ⟨kdDiskStep, .s, true⟩)]⟩)]
def f_impl_Disk_do_i7 (R : Type) (c : (Unit × Unit)) (v : ((Int × Int × Bool × Unit) × (DDisk × DDiskStep × Unit))) (kk : (Unit × Unit) → (Unit × (DDisk × DDiskStep × Unit)) → Option R) : Option R :=
 (cond v.1.2.2.1
 (req (decide (List.length v.2.1.1 + List.length [((⟨#[]⟩ : ByteArray), ((0 : Int), ()))] ≤ 17179869184)) (bnd (f_impl_Disk_mean (((v.2.1.1 ++ [((⟨#[]⟩ : ByteArray), ((0 : Int), ()))]), v.2.1.2), (v.2.2.1.2.1, ((isub .i64 (llen (v.2.1.1 ++ [((⟨#[]⟩ : ByteArray), ((0 : Int), ()))])) (1 : Int)), ())))) fun r7 => (kk ((), ()) ((), (r7.2.1, (v.2.2.1, ()))))))
 (f_impl_Disk_do_i10 _ ((), ()) ((v.1.1, (v.1.2.1, ((ieq v.1.2.1 (2 : Int)), ()))), (v.2.1, (v.2.2.1, ()))) fun c8 o9 =>
 (kk ((), ()) ((), (o9.2.1, (o9.2.2.1, ()))))))
def f_impl_Disk_do (x : (DDisk × DDiskStep × Unit)) : Option (Unit × (DDisk × Unit)) :=
 (bnd (f_impl_nameAt (x.1.2.1, (x.2.1.2.1, ()))) fun r1 => (f_impl_Disk_do_i4 _ ((r1.1.1, ((ile (0 : Int) r1.1.1), ())), (x.1, (x.2.1, ()))) (((-1 : Int), ()), ()) fun c5 o6 =>
 (f_impl_Disk_do_i7 _ ((), ()) ((o6.1.1, (c5.2.2.1.1, ((ieq c5.2.2.1.1 (1 : Int)), ()))), (c5.2.1, (c5.2.2.1, ()))) fun c10 o11 =>
 (some ((), (o11.2.1, ()))))))
def sg49 : Sig := ⟨ins49, res49, f_impl_Disk_do⟩
abbrev ins20 : List Pm := [.val kdDisk, .val kdDiskStep]
abbrev res20 : List (K × Mk) := [(kdDisk, (.pr (.o .s) (.pr (.o .s) (.pr (.o .s) .s)))), ((.int .i64), .s)]
def f_impl_DoDisk (x : (DDisk × DDiskStep × Unit)) : Option ((DDisk × Int × Unit) × Unit) :=
 (bnd (f_impl_GoodDisk (x.1, ())) fun r1 => (cond (!r1.1.1)
 (some (((([] : List DBlob), (([] : List DBlob), (([] : List DBlob), ((0 : Int), ())))), ((1 : Int), ())), ()))
 (bnd (f_impl_Disk_stepFault_r (x.1, (x.2.1, ()))) fun r2 => (cond (!ieq r2.1.1 (0 : Int))
 (bnd (f_impl_cloneDisk (x.1, ())) fun r3 => (some ((r3.1.1, (r2.1.1, ())), ())))
 (bnd (f_impl_cloneDisk (x.1, ())) fun r4 => (bnd (f_impl_Disk_do (r4.1.1, (x.2.1, ()))) fun r5 => (bnd (f_impl_GoodDisk (r5.2.1, ())) fun r6 => (cond (!r6.1.1)
 (bnd (f_impl_cloneDisk (x.1, ())) fun r7 => (some ((r7.1.1, ((4 : Int), ())), ())))
 (some ((r5.2.1, ((0 : Int), ())), ()))))))))))
def sg20 : Sig := ⟨ins20, res20, f_impl_DoDisk⟩
abbrev ins68 : List Pm := [.val kdBlob, .val kdBlob]
abbrev res68 : List (K × Mk) := [(.bool, .s)]
def f_laws_eqBlob (x : (DBlob × DBlob × Unit)) : Option ((Bool × Unit) × Unit) :=
 (cond (!seq x.1.1 x.2.1.1)
 (some ((false, ()), ()))
 (cond (!ieq x.1.2.1 x.2.1.2.1)
 (some ((false, ()), ()))
 (some ((true, ()), ()))))
def sg68 : Sig := ⟨ins68, res68, f_laws_eqBlob⟩
abbrev ins37 : List Pm := [.val (.sl kdBlob), .val (.sl kdBlob)]
abbrev res37 : List (K × Mk) := [(.bool, .s)]
abbrev f_laws_eqBlobS_l4c : Desc := ⟨[(0, .v (.sl kdBlob)), (1, .v (.sl kdBlob))], []⟩
abbrev f_laws_eqBlobS_l4v : Desc := ⟨[(5, .v (.int .i64))], []⟩
abbrev f_laws_eqBlobS_l4e : List (Ek × Desc) := [(.ret, ⟨[(4, .v .bool)], []⟩), (.exit 0, ⟨[], []⟩)]
def f_laws_eqBlobS_l4 (R : Type) (c : (((List DBlob) × (List DBlob) × Unit) × Unit)) (v : ((Int × Unit) × Unit)) (kk : (((List DBlob) × (List DBlob) × Unit) × Unit) → (((Int × Unit) × Unit) ⊕ (((Bool × Unit) × Unit) ⊕ (Unit × Unit))) → Option R) : Option R :=
 (cond (ilt v.1.1 (llen c.1.1))
 (getO c.1.1 v.1.1 fun v1 => (getO c.1.2.1 v.1.1 fun v2 => (bnd (f_laws_eqBlob (v1, (v2, ()))) fun r3 => (cond (!r3.1.1)
 (kk ((c.1.1, (c.1.2.1, ())), ()) (.inr (.inl ((false, ()), ()))))
 (kk ((c.1.1, (c.1.2.1, ())), ()) (.inl (((iadd .i64 v.1.1 (1 : Int)), ()), ())))))))
 (kk ((c.1.1, (c.1.2.1, ())), ()) (.inr (.inr ((), ())))))
def f_laws_eqBlobS (x : ((List DBlob) × (List DBlob) × Unit)) : Option ((Bool × Unit) × Unit) :=
 (cond (!ieq (llen x.1) (llen x.2.1))
 (some ((false, ()), ()))
 (loopF (c := f_laws_eqBlobS_l4c) (v := f_laws_eqBlobS_l4v) (ex := f_laws_eqBlobS_l4e) f_laws_eqBlobS_l4 _ ((x.1, (x.2.1, ())), ()) (((0 : Int), ()), ()) fun c4 o5 =>
 (match o5 with
 | .inl y6 => (some ((y6.1.1, ()), ()))
 | .inr z7 => (some ((true, ()), ())))))
def sg37 : Sig := ⟨ins37, res37, f_laws_eqBlobS⟩
abbrev ins69 : List Pm := [.val kdBlob, .val kdBlob]
abbrev res69 : List (K × Mk) := [(.bool, .s)]
def f_laws_eqName (x : (DBlob × DBlob × Unit)) : Option ((Bool × Unit) × Unit) :=
 (cond (!seq x.1.1 x.2.1.1)
 (some ((false, ()), ()))
 (cond (!ieq x.1.2.1 x.2.1.2.1)
 (some ((false, ()), ()))
 (some ((true, ()), ()))))
def sg69 : Sig := ⟨ins69, res69, f_laws_eqName⟩
abbrev ins38 : List Pm := [.val (.sl kdBlob), .val (.sl kdBlob)]
abbrev res38 : List (K × Mk) := [(.bool, .s)]
abbrev f_laws_eqNameS_l4c : Desc := ⟨[(0, .v (.sl kdBlob)), (1, .v (.sl kdBlob))], []⟩
abbrev f_laws_eqNameS_l4v : Desc := ⟨[(5, .v (.int .i64))], []⟩
abbrev f_laws_eqNameS_l4e : List (Ek × Desc) := [(.ret, ⟨[(4, .v .bool)], []⟩), (.exit 0, ⟨[], []⟩)]
def f_laws_eqNameS_l4 (R : Type) (c : (((List DBlob) × (List DBlob) × Unit) × Unit)) (v : ((Int × Unit) × Unit)) (kk : (((List DBlob) × (List DBlob) × Unit) × Unit) → (((Int × Unit) × Unit) ⊕ (((Bool × Unit) × Unit) ⊕ (Unit × Unit))) → Option R) : Option R :=
 (cond (ilt v.1.1 (llen c.1.1))
 (getO c.1.1 v.1.1 fun v1 => (getO c.1.2.1 v.1.1 fun v2 => (bnd (f_laws_eqName (v1, (v2, ()))) fun r3 => (cond (!r3.1.1)
 (kk ((c.1.1, (c.1.2.1, ())), ()) (.inr (.inl ((false, ()), ()))))
 (kk ((c.1.1, (c.1.2.1, ())), ()) (.inl (((iadd .i64 v.1.1 (1 : Int)), ()), ())))))))
 (kk ((c.1.1, (c.1.2.1, ())), ()) (.inr (.inr ((), ())))))
def f_laws_eqNameS (x : ((List DBlob) × (List DBlob) × Unit)) : Option ((Bool × Unit) × Unit) :=
 (cond (!ieq (llen x.1) (llen x.2.1))
 (some ((false, ()), ()))
 (loopF (c := f_laws_eqNameS_l4c) (v := f_laws_eqNameS_l4v) (ex := f_laws_eqNameS_l4e) f_laws_eqNameS_l4 _ ((x.1, (x.2.1, ())), ()) (((0 : Int), ()), ()) fun c4 o5 =>
 (match o5 with
 | .inl y6 => (some ((y6.1.1, ()), ()))
 | .inr z7 => (some ((true, ()), ())))))
def sg38 : Sig := ⟨ins38, res38, f_laws_eqNameS⟩
abbrev ins11 : List Pm := [.val kdDisk, .val kdDisk]
abbrev res11 : List (K × Mk) := [(.bool, .s)]
def f_laws_eqDisk (x : (DDisk × DDisk × Unit)) : Option ((Bool × Unit) × Unit) :=
 (bnd (f_laws_eqBlobS (x.1.1, (x.2.1.1, ()))) fun r1 => (cond (!r1.1.1)
 (some ((false, ()), ()))
 (bnd (f_laws_eqNameS (x.1.2.1, (x.2.1.2.1, ()))) fun r2 => (cond (!r2.1.1)
 (some ((false, ()), ()))
 (bnd (f_laws_eqNameS (x.1.2.2.1, (x.2.1.2.2.1, ()))) fun r3 => (cond (!r3.1.1)
 (some ((false, ()), ()))
 (cond (!ieq x.1.2.2.2.1 x.2.1.2.2.2.1)
 (some ((false, ()), ()))
 (some ((true, ()), ())))))))))
def sg11 : Sig := ⟨ins11, res11, f_laws_eqDisk⟩
abbrev ins40 : List Pm := [.val (.int .i64)]
abbrev res40 : List (K × Mk) := [(.str, .s)]
abbrev f_laws_markText_l4c : Desc := ⟨[], []⟩
abbrev f_laws_markText_l4v : Desc := ⟨[(0, .v (.int .i64)), (3, .v .str)], []⟩
abbrev f_laws_markText_l4e : List (Ek × Desc) := [(.exit 0, ⟨[(3, .v .str)], []⟩)]
def f_laws_markText_l4 (R : Type) (c : (Unit × Unit)) (v : ((Int × ByteArray × Unit) × Unit)) (kk : (Unit × Unit) → (((Int × ByteArray × Unit) × Unit) ⊕ ((ByteArray × Unit) × Unit)) → Option R) : Option R :=
 (cond (ilt (0 : Int) v.1.1)
 (catO (strOf [(IntKind.wrap .u8 (iadd .i64 (48 : Int) (irem .i64 v.1.1 (10 : Int))))]) v.1.2.1 fun v1 => (kk ((), ()) (.inl (((iquo .i64 v.1.1 (10 : Int)), (v1, ())), ()))))
 (kk ((), ()) (.inr ((v.1.2.1, ()), ()))))
def f_laws_markText (x : (Int × Unit)) : Option ((ByteArray × Unit) × Unit) :=
 (cond (ile x.1 (0 : Int))
 (some (((⟨#[109, 48]⟩ : ByteArray), ()), ()))
 (loopF (c := f_laws_markText_l4c) (v := f_laws_markText_l4v) (ex := f_laws_markText_l4e) f_laws_markText_l4 _ ((), ()) ((x.1, ((⟨#[]⟩ : ByteArray), ())), ()) fun c2 o3 =>
 (catO (⟨#[109]⟩ : ByteArray) o3.1.1 fun v4 => (some ((v4, ()), ())))))
def sg40 : Sig := ⟨ins40, res40, f_laws_markText⟩
abbrev ins41 : List Pm := [.chg (.sl kdBlob) (.o .s), .val (.int .i64)]
abbrev res41 : List (K × Mk) := [((.int .i64), .s)]
abbrev f_laws_markBlobS_l2c : Desc := ⟨[(0, .al 0 [])], []⟩
abbrev f_laws_markBlobS_l2v : Desc := ⟨[(1, .v (.int .i64)), (5, .v (.int .i64))], [(0, ⟨(.sl kdBlob), (.o .s), false⟩)]⟩
abbrev f_laws_markBlobS_l2e : List (Ek × Desc) := [(.exit 0, ⟨[(1, .v (.int .i64))], [(0, ⟨(.sl kdBlob), (.o .s), false⟩)]⟩)]
def f_laws_markBlobS_l2 (R : Type) (c : (Unit × Unit)) (v : ((Int × Int × Unit) × ((List DBlob) × Unit))) (kk : (Unit × Unit) → (((Int × Int × Unit) × ((List DBlob) × Unit)) ⊕ ((Int × Unit) × ((List DBlob) × Unit))) → Option R) : Option R :=
 (cond (ilt v.1.2.1 (llen v.2.1))
 (bnd (f_laws_markText (v.1.1, ())) fun r1 => (getO v.2.1 v.1.2.1 fun _ => (bnd (v.2.1[(Int.toNat v.1.2.1)]?) fun v3 => (bnd (v.2.1[(Int.toNat v.1.2.1)]?) fun v4 => (getO (List.set v.2.1 (Int.toNat v.1.2.1) (r1.1.1, v4.2)) v.1.2.1 fun _ => (bnd ((List.set v.2.1 (Int.toNat v.1.2.1) (r1.1.1, v4.2))[(Int.toNat v.1.2.1)]?) fun v6 => (bnd ((List.set v.2.1 (Int.toNat v.1.2.1) (r1.1.1, v4.2))[(Int.toNat v.1.2.1)]?) fun v7 => (kk ((), ()) (.inl (((iadd .i64 (iadd .i64 v.1.1 (1 : Int)) (1 : Int)), ((iadd .i64 v.1.2.1 (1 : Int)), ())), ((List.set (List.set v.2.1 (Int.toNat v.1.2.1) (r1.1.1, v4.2)) (Int.toNat v.1.2.1) (v7.1, ((iadd .i64 v.1.1 (1 : Int)), v7.2.2))), ())))))))))))
 (kk ((), ()) (.inr ((v.1.1, ()), (v.2.1, ())))))
def f_laws_markBlobS (x : ((List DBlob) × Int × Unit)) : Option ((Int × Unit) × ((List DBlob) × Unit)) :=
 (loopF (c := f_laws_markBlobS_l2c) (v := f_laws_markBlobS_l2v) (ex := f_laws_markBlobS_l2e) f_laws_markBlobS_l2 _ ((), ()) ((x.2.1, ((0 : Int), ())), (x.1, ())) fun c8 o9 =>
 (some ((o9.1.1, ()), (o9.2.1, ()))))
def sg41 : Sig := ⟨ins41, res41, f_laws_markBlobS⟩
abbrev ins42 : List Pm := [.chg (.sl kdBlob) (.o .s), .val (.int .i64)]
abbrev res42 : List (K × Mk) := [((.int .i64), .s)]
abbrev f_laws_markNameS_l2c : Desc := ⟨[(0, .al 0 [])], []⟩
abbrev f_laws_markNameS_l2v : Desc := ⟨[(1, .v (.int .i64)), (5, .v (.int .i64))], [(0, ⟨(.sl kdBlob), (.o .s), false⟩)]⟩
abbrev f_laws_markNameS_l2e : List (Ek × Desc) := [(.exit 0, ⟨[(1, .v (.int .i64))], [(0, ⟨(.sl kdBlob), (.o .s), false⟩)]⟩)]
def f_laws_markNameS_l2 (R : Type) (c : (Unit × Unit)) (v : ((Int × Int × Unit) × ((List DBlob) × Unit))) (kk : (Unit × Unit) → (((Int × Int × Unit) × ((List DBlob) × Unit)) ⊕ ((Int × Unit) × ((List DBlob) × Unit))) → Option R) : Option R :=
 (cond (ilt v.1.2.1 (llen v.2.1))
 (bnd (f_laws_markText (v.1.1, ())) fun r1 => (getO v.2.1 v.1.2.1 fun _ => (bnd (v.2.1[(Int.toNat v.1.2.1)]?) fun v3 => (bnd (v.2.1[(Int.toNat v.1.2.1)]?) fun v4 => (getO (List.set v.2.1 (Int.toNat v.1.2.1) (r1.1.1, v4.2)) v.1.2.1 fun _ => (bnd ((List.set v.2.1 (Int.toNat v.1.2.1) (r1.1.1, v4.2))[(Int.toNat v.1.2.1)]?) fun v6 => (bnd ((List.set v.2.1 (Int.toNat v.1.2.1) (r1.1.1, v4.2))[(Int.toNat v.1.2.1)]?) fun v7 => (kk ((), ()) (.inl (((iadd .i64 (iadd .i64 v.1.1 (1 : Int)) (1 : Int)), ((iadd .i64 v.1.2.1 (1 : Int)), ())), ((List.set (List.set v.2.1 (Int.toNat v.1.2.1) (r1.1.1, v4.2)) (Int.toNat v.1.2.1) (v7.1, ((iadd .i64 v.1.1 (1 : Int)), v7.2.2))), ())))))))))))
 (kk ((), ()) (.inr ((v.1.1, ()), (v.2.1, ())))))
def f_laws_markNameS (x : ((List DBlob) × Int × Unit)) : Option ((Int × Unit) × ((List DBlob) × Unit)) :=
 (loopF (c := f_laws_markNameS_l2c) (v := f_laws_markNameS_l2v) (ex := f_laws_markNameS_l2e) f_laws_markNameS_l2 _ ((), ()) ((x.2.1, ((0 : Int), ())), (x.1, ())) fun c8 o9 =>
 (some ((o9.1.1, ()), (o9.2.1, ()))))
def sg42 : Sig := ⟨ins42, res42, f_laws_markNameS⟩
abbrev ins15 : List Pm := [.chg kdDisk (.pr (.o .s) (.pr (.o .s) (.pr (.o .s) .s))), .val (.int .i64)]
abbrev res15 : List (K × Mk) := [((.int .i64), .s)]
def f_laws_markDisk (x : (DDisk × Int × Unit)) : Option ((Int × Unit) × (DDisk × Unit)) :=
 (bnd (f_laws_markBlobS (x.1.1, (x.2.1, ()))) fun r1 => (bnd (f_laws_markNameS (x.1.2.1, (r1.1.1, ()))) fun r2 => (bnd (f_laws_markNameS (x.1.2.2.1, (r2.1.1, ()))) fun r3 => (some ((r3.1.1, ()), ((r1.2.1, (r2.2.1, (r3.2.1, x.1.2.2.2))), ()))))))
def sg15 : Sig := ⟨ins15, res15, f_laws_markDisk⟩
abbrev ins43 : List Pm := [.val (.sl kdBlob), .val (.int .i64)]
abbrev res43 : List (K × Mk) := [((.int .i64), .s)]
abbrev f_laws_heldBlobS_l2c : Desc := ⟨[(0, .v (.sl kdBlob))], []⟩
abbrev f_laws_heldBlobS_l2v : Desc := ⟨[(1, .v (.int .i64)), (5, .v (.int .i64))], []⟩
abbrev f_laws_heldBlobS_l2e : List (Ek × Desc) := [(.ret, ⟨[(4, .v (.int .i64))], []⟩), (.exit 0, ⟨[(1, .v (.int .i64))], []⟩)]
def f_laws_heldBlobS_l2 (R : Type) (c : (((List DBlob) × Unit) × Unit)) (v : ((Int × Int × Unit) × Unit)) (kk : (((List DBlob) × Unit) × Unit) → (((Int × Int × Unit) × Unit) ⊕ (((Int × Unit) × Unit) ⊕ ((Int × Unit) × Unit))) → Option R) : Option R :=
 (cond (ilt v.1.2.1 (llen c.1.1))
 (getO c.1.1 v.1.2.1 fun v1 => (bnd (f_laws_markText (v.1.1, ())) fun r2 => (cond (!seq v1.1 r2.1.1)
 (kk ((c.1.1, ()), ()) (.inr (.inl (((-1 : Int), ()), ()))))
 (getO c.1.1 v.1.2.1 fun v3 => (cond (!ieq v3.2.1 (iadd .i64 v.1.1 (1 : Int)))
 (kk ((c.1.1, ()), ()) (.inr (.inl (((-1 : Int), ()), ()))))
 (kk ((c.1.1, ()), ()) (.inl (((iadd .i64 (iadd .i64 v.1.1 (1 : Int)) (1 : Int)), ((iadd .i64 v.1.2.1 (1 : Int)), ())), ()))))))))
 (kk ((c.1.1, ()), ()) (.inr (.inr ((v.1.1, ()), ())))))
def f_laws_heldBlobS (x : ((List DBlob) × Int × Unit)) : Option ((Int × Unit) × Unit) :=
 (loopF (c := f_laws_heldBlobS_l2c) (v := f_laws_heldBlobS_l2v) (ex := f_laws_heldBlobS_l2e) f_laws_heldBlobS_l2 _ ((x.1, ()), ()) ((x.2.1, ((0 : Int), ())), ()) fun c4 o5 =>
 (match o5 with
 | .inl y6 => (some ((y6.1.1, ()), ()))
 | .inr z7 => (some ((z7.1.1, ()), ()))))
def sg43 : Sig := ⟨ins43, res43, f_laws_heldBlobS⟩
abbrev ins44 : List Pm := [.val (.sl kdBlob), .val (.int .i64)]
abbrev res44 : List (K × Mk) := [((.int .i64), .s)]
abbrev f_laws_heldNameS_l2c : Desc := ⟨[(0, .v (.sl kdBlob))], []⟩
abbrev f_laws_heldNameS_l2v : Desc := ⟨[(1, .v (.int .i64)), (5, .v (.int .i64))], []⟩
abbrev f_laws_heldNameS_l2e : List (Ek × Desc) := [(.ret, ⟨[(4, .v (.int .i64))], []⟩), (.exit 0, ⟨[(1, .v (.int .i64))], []⟩)]
def f_laws_heldNameS_l2 (R : Type) (c : (((List DBlob) × Unit) × Unit)) (v : ((Int × Int × Unit) × Unit)) (kk : (((List DBlob) × Unit) × Unit) → (((Int × Int × Unit) × Unit) ⊕ (((Int × Unit) × Unit) ⊕ ((Int × Unit) × Unit))) → Option R) : Option R :=
 (cond (ilt v.1.2.1 (llen c.1.1))
 (getO c.1.1 v.1.2.1 fun v1 => (bnd (f_laws_markText (v.1.1, ())) fun r2 => (cond (!seq v1.1 r2.1.1)
 (kk ((c.1.1, ()), ()) (.inr (.inl (((-1 : Int), ()), ()))))
 (getO c.1.1 v.1.2.1 fun v3 => (cond (!ieq v3.2.1 (iadd .i64 v.1.1 (1 : Int)))
 (kk ((c.1.1, ()), ()) (.inr (.inl (((-1 : Int), ()), ()))))
 (kk ((c.1.1, ()), ()) (.inl (((iadd .i64 (iadd .i64 v.1.1 (1 : Int)) (1 : Int)), ((iadd .i64 v.1.2.1 (1 : Int)), ())), ()))))))))
 (kk ((c.1.1, ()), ()) (.inr (.inr ((v.1.1, ()), ())))))
def f_laws_heldNameS (x : ((List DBlob) × Int × Unit)) : Option ((Int × Unit) × Unit) :=
 (loopF (c := f_laws_heldNameS_l2c) (v := f_laws_heldNameS_l2v) (ex := f_laws_heldNameS_l2e) f_laws_heldNameS_l2 _ ((x.1, ()), ()) ((x.2.1, ((0 : Int), ())), ()) fun c4 o5 =>
 (match o5 with
 | .inl y6 => (some ((y6.1.1, ()), ()))
 | .inr z7 => (some ((z7.1.1, ()), ()))))
def sg44 : Sig := ⟨ins44, res44, f_laws_heldNameS⟩
abbrev ins17 : List Pm := [.val kdDisk, .val (.int .i64)]
abbrev res17 : List (K × Mk) := [((.int .i64), .s)]
def f_laws_heldDisk (x : (DDisk × Int × Unit)) : Option ((Int × Unit) × Unit) :=
 (bnd (f_laws_heldBlobS (x.1.1, (x.2.1, ()))) fun r1 => (cond (ilt r1.1.1 (0 : Int))
 (some (((-1 : Int), ()), ()))
 (bnd (f_laws_heldNameS (x.1.2.1, (r1.1.1, ()))) fun r2 => (cond (ilt r2.1.1 (0 : Int))
 (some (((-1 : Int), ()), ()))
 (bnd (f_laws_heldNameS (x.1.2.2.1, (r2.1.1, ()))) fun r3 => (cond (ilt r3.1.1 (0 : Int))
 (some (((-1 : Int), ()), ()))
 (some ((r3.1.1, ()), ()))))))))
def sg17 : Sig := ⟨ins17, res17, f_laws_heldDisk⟩
abbrev ins6 : List Pm := [.val kdDisk, .val kdDiskStep]
abbrev res6 : List (K × Mk) := [(.bool, .s)]
def f_laws_FnExactDoDisk (x : (DDisk × DDiskStep × Unit)) : Option ((Bool × Unit) × Unit) :=
 (bnd (f_laws_szDisk (x.1, ((1048576 : Int), ()))) fun r1 => (cond (ilt r1.1.1 (0 : Int))
 (some ((true, ()), ()))
 (bnd (f_laws_szDiskStep (x.2.1, (r1.1.1, ()))) fun r2 => (cond (ilt r2.1.1 (0 : Int))
 (some ((true, ()), ()))
 (bnd (f_laws_toDisk (x.1, ())) fun r3 => (bnd (f_laws_toDiskStep (x.2.1, ())) fun r4 => (bnd (f_spec_DoDisk (r3.1.1, (r4.1.1, ()))) fun r5 => (bnd (f_laws_toDisk (x.1, ())) fun r6 => (bnd (f_laws_toDiskStep (x.2.1, ())) fun r7 => (bnd (f_impl_DoDisk (r6.1.1, (r7.1.1, ()))) fun r8 => (bnd (f_laws_eqDisk (r8.1.1, (r5.1.1, ()))) fun r9 => (cond (!r9.1.1)
 (some ((false, ()), ()))
 (cond (!ieq r8.1.2.1 r5.1.2.1)
 (some ((false, ()), ()))
 (bnd (f_laws_toDisk (x.1, ())) fun r10 => (bnd (f_laws_eqDisk (r6.1.1, (r10.1.1, ()))) fun r11 => (cond (!r11.1.1)
 (some ((false, ()), ()))
 (bnd (f_laws_markDisk (r6.1.1, ((1 : Int), ()))) fun r12 => (cond (ilt r12.1.1 (0 : Int))
 (some ((false, ()), ()))
 (bnd (f_laws_eqDisk (r8.1.1, (r5.1.1, ()))) fun r13 => (cond (!r13.1.1)
 (some ((false, ()), ()))
 (cond (!ieq r8.1.2.1 r5.1.2.1)
 (some ((false, ()), ()))
 (bnd (f_laws_markDisk (r8.1.1, ((1 : Int), ()))) fun r14 => (bnd (f_laws_heldDisk (r14.2.1, ((1 : Int), ()))) fun r15 => (cond (ilt r15.1.1 (0 : Int))
 (some ((false, ()), ()))
 (cond (!ieq r15.1.1 r14.1.1)
 (some ((false, ()), ()))
 (bnd (f_laws_toDisk (x.1, ())) fun r16 => (bnd (f_laws_toDiskStep (x.2.1, ())) fun r17 => (bnd (f_impl_DoDisk (r16.1.1, (r17.1.1, ()))) fun r18 => (bnd (f_laws_eqDisk (r18.1.1, (r5.1.1, ()))) fun r19 => (cond (!r19.1.1)
 (some ((false, ()), ()))
 (cond (!ieq r18.1.2.1 r5.1.2.1)
 (some ((false, ()), ()))
 (bnd (f_laws_heldDisk (r14.2.1, ((1 : Int), ()))) fun r20 => (cond (ilt r20.1.1 (0 : Int))
 (some ((false, ()), ()))
 (cond (!ieq r20.1.1 r14.1.1)
 (some ((false, ()), ()))
 (some ((true, ()), ()))))))))))))))))))))))))))))))))))))
def sg6 : Sig := ⟨ins6, res6, f_laws_FnExactDoDisk⟩
end Go.Proofs.YthlnjkcpdkjipaaDoor
