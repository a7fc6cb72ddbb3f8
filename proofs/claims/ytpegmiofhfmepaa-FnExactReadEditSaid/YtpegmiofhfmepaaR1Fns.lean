/- The kinds of the program's types, and what its functions compute, as typed functions. (Printed by a program of mine, wip/tools/gen.py.) -/
import Derived.Test.YtpegmiofhfmepaaEv3
set_option linter.all false
set_option maxRecDepth 100000
noncomputable section
namespace Go.Proofs.Ytpegmiofhfmepaa
open Go Go.Proofs.Ytpegmiofhfmepaa.Ev
abbrev kd23 : K := (.pair (.int .i64) (.pair (.int .i64) (.pair (.int .i64) (.pair .str (.pair .str (.pair .str .unit))))))
abbrev D23 : Type := (Int × (Int × (Int × (ByteArray × (ByteArray × (ByteArray × Unit))))))
abbrev kd62 : K := (.pair (.int .i64) (.pair (.int .i64) (.pair .str (.pair .str .unit))))
abbrev D62 : Type := (Int × (Int × (ByteArray × (ByteArray × Unit))))
abbrev kd31 : K := (.pair (.int .i64) (.pair (.int .i64) (.pair (.sl (.int .i64)) (.pair (.sl kd62) .unit))))
abbrev D31 : Type := (Int × (Int × ((List Int) × ((List D62) × Unit))))
abbrev kd51 : K := (.pair .str (.pair (.int .i64) (.pair (.int .i64) (.pair .str .unit))))
abbrev D51 : Type := (ByteArray × (Int × (Int × (ByteArray × Unit))))
abbrev kd55 : K := (.pair .str (.pair .bool .unit))
abbrev D55 : Type := (ByteArray × (Bool × Unit))
abbrev kd96 : K := (.pair (.sl (.int .u8)) (.pair (.int .i64) (.pair (.int .u64) .unit)))
abbrev D96 : Type := ((List Int) × (Int × (Int × Unit)))
/-! loop.example/g00224/spec.l2Take -/
abbrev ins84 : List Pm := [.val .str]
abbrev res84 : List (K × Mk) := [((.int .i64), .s), ((.int .i64), .s)]
abbrev t84l3c : Desc := ⟨[(0, .v .str)], []⟩
abbrev t84l3v : Desc := ⟨[(4, .v (.int .i64)), (5, .v (.int .i64))], []⟩
abbrev t84l3e : List (Ek × Desc) := [(.ret, ⟨[(2, .v (.int .i64)), (3, .v (.int .i64))], []⟩), (.exit 0, ⟨[], []⟩)]
def t84l3 (R : Type) (c : ((ByteArray × Unit) × Unit)) (v : ((Int × Int × Unit) × Unit)) (kk : ((ByteArray × Unit) × Unit) → (((Int × Int × Unit) × Unit) ⊕ (((Int × Int × Unit) × Unit) ⊕ (Unit × Unit))) → Option R) : Option R :=
 (cond (ilt v.1.2.1 (9 : Int))
 (cond (ilt v.1.2.1 (slen c.1.1))
 (getB c.1.1 v.1.2.1 fun v1 => (req (ile (0 : Int) (IntKind.wrap .u64 (imul .i64 (7 : Int) v.1.2.1))) (getB c.1.1 v.1.2.1 fun v2 => (cond (ilt v2 (128 : Int))
 (cond (ilt (0 : Int) v.1.2.1)
 (getB c.1.1 v.1.2.1 fun v3 => (cond (ieq v3 (0 : Int))
 (kk ((c.1.1, ()), ()) (.inr (.inl (((0 : Int), ((0 : Int), ())), ()))))
 (kk ((c.1.1, ()), ()) (.inr (.inl (((ior .i64 v.1.1 (ishl .i64 (IntKind.wrap .i64 (iand .u8 v1 (127 : Int))) (IntKind.wrap .u64 (imul .i64 (7 : Int) v.1.2.1)))), ((iadd .i64 v.1.2.1 (1 : Int)), ())), ()))))))
 (kk ((c.1.1, ()), ()) (.inr (.inl (((ior .i64 v.1.1 (ishl .i64 (IntKind.wrap .i64 (iand .u8 v1 (127 : Int))) (IntKind.wrap .u64 (imul .i64 (7 : Int) v.1.2.1)))), ((iadd .i64 v.1.2.1 (1 : Int)), ())), ())))))
 (kk ((c.1.1, ()), ()) (.inl (((ior .i64 v.1.1 (ishl .i64 (IntKind.wrap .i64 (iand .u8 v1 (127 : Int))) (IntKind.wrap .u64 (imul .i64 (7 : Int) v.1.2.1)))), ((iadd .i64 v.1.2.1 (1 : Int)), ())), ())))))))
 (kk ((c.1.1, ()), ()) (.inr (.inr ((), ())))))
 (kk ((c.1.1, ()), ()) (.inr (.inr ((), ())))))
def t84 (x : (ByteArray × Unit)) : Option ((Int × Int × Unit) × Unit) :=
 (loopF (c := t84l3c) (v := t84l3v) (ex := t84l3e) t84l3 _ ((x.1, ()), ()) (((0 : Int), ((0 : Int), ())), ()) fun c4 o5 =>
 (match o5 with
 | .inl y6 => (some ((y6.1.1, (y6.1.2.1, ())), ()))
 | .inr z7 => (some (((0 : Int), ((0 : Int), ())), ()))))
def sg84 : Sig := ⟨ins84, res84, t84⟩
/-! (*loop.example/g00224/spec.l9R).num -/
abbrev ins54 : List Pm := [.mptr kd55 .s]
abbrev res54 : List (K × Mk) := [((.int .i64), .s)]
def t54 (x : (D55 × Unit)) : Option ((Int × Unit) × (D55 × Unit)) :=
 (bnd (t84 (x.1.1, ())) fun r1 => (cond x.1.2.1
 (req (decide ((0 : Int) ≤ r1.1.2.1) && decide (r1.1.2.1 ≤ ((ByteArray.size x.1.1) : Int))) (some ((r1.1.1, ()), (((ByteArray.extract x.1.1 (Int.toNat r1.1.2.1) (ByteArray.size x.1.1)), (true, x.1.2.2)), ()))))
 (req (decide ((0 : Int) ≤ r1.1.2.1) && decide (r1.1.2.1 ≤ ((ByteArray.size x.1.1) : Int))) (some ((r1.1.1, ()), (((ByteArray.extract x.1.1 (Int.toNat r1.1.2.1) (ByteArray.size x.1.1)), ((ieq r1.1.2.1 (0 : Int)), x.1.2.2)), ()))))))
def sg54 : Sig := ⟨ins54, res54, t54⟩
/-! (*loop.example/g00224/spec.l9R).text -/
abbrev ins55 : List Pm := [.mptr kd55 .s]
abbrev res55 : List (K × Mk) := [(.str, .s)]
def t55 (x : (D55 × Unit)) : Option ((ByteArray × Unit) × (D55 × Unit)) :=
 (bnd (t54 (x.1, ())) fun r1 => (cond (ilt (slen r1.2.1.1) r1.1.1)
 (some (((⟨#[]⟩ : ByteArray), ()), ((r1.2.1.1, (true, r1.2.1.2.2)), ())))
 (req (decide ((0 : Int) ≤ r1.1.1) && decide (r1.1.1 ≤ ((ByteArray.size r1.2.1.1) : Int))) (req (decide ((0 : Int) ≤ r1.1.1) && decide (r1.1.1 ≤ ((ByteArray.size r1.2.1.1) : Int))) (some (((ByteArray.extract r1.2.1.1 (0 : Nat) (Int.toNat r1.1.1)), ()), (((ByteArray.extract r1.2.1.1 (Int.toNat r1.1.1) (ByteArray.size r1.2.1.1)), r1.2.1.2), ())))))))
def sg55 : Sig := ⟨ins55, res55, t55⟩
/-! loop.example/g00224/spec.l1In -/
abbrev ins85 : List Pm := [.val (.int .i64), .val (.int .i64), .val (.int .i64)]
abbrev res85 : List (K × Mk) := [(.bool, .s)]
def t85 (x : (Int × Int × Int × Unit)) : Option ((Bool × Unit) × Unit) :=
 (cond (ile x.2.1 x.1)
 (some (((ile x.1 x.2.2.1), ()), ()))
 (some ((false, ()), ())))
def sg85 : Sig := ⟨ins85, res85, t85⟩
/-! loop.example/g00224/spec.l4Key -/
abbrev ins86 : List Pm := [.val .str]
abbrev res86 : List (K × Mk) := [(.bool, .s)]
def t86 (x : (ByteArray × Unit)) : Option ((Bool × Unit) × Unit) :=
 (bnd (t85 ((slen x.1), ((1 : Int), ((16 : Int), ())))) fun r1 => (some ((r1.1.1, ()), ())))
def sg86 : Sig := ⟨ins86, res86, t86⟩
/-! loop.example/g00224/spec.GoodCommand -/
abbrev ins56 : List Pm := [.val kd23]
abbrev res56 : List (K × Mk) := [(.bool, .s)]
def t56 (x : (D23 × Unit)) : Option ((Bool × Unit) × Unit) :=
 (bnd (t85 (x.1.1, ((0 : Int), ((99 : Int), ())))) fun r1 => (cond (!r1.1.1)
 (some ((false, ()), ()))
 (bnd (t85 (x.1.2.1, ((1 : Int), ((1000000 : Int), ())))) fun r2 => (cond (!r2.1.1)
 (some ((false, ()), ()))
 (bnd (t85 (x.1.2.2.1, ((1 : Int), ((4 : Int), ())))) fun r3 => (cond (!r3.1.1)
 (some ((false, ()), ()))
 (bnd (t86 (x.1.2.2.2.1, ())) fun r4 => (cond (!r4.1.1)
 (some ((false, ()), ()))
 (cond (ilt (40 : Int) (slen x.1.2.2.2.2.1))
 (some ((false, ()), ()))
 (cond (ilt (40 : Int) (slen x.1.2.2.2.2.2.1))
 (some ((false, ()), ()))
 (cond (seq x.1.2.2.2.2.1 (⟨#[]⟩ : ByteArray))
 (cond (seq x.1.2.2.2.2.2.1 (⟨#[]⟩ : ByteArray))
 (some ((true, ()), ()))
 (some (((ieq x.1.2.2.1 (4 : Int)), ()), ())))
 (cond (ieq x.1.2.2.1 (2 : Int))
 (cond (seq x.1.2.2.2.2.2.1 (⟨#[]⟩ : ByteArray))
 (some ((true, ()), ()))
 (some (((ieq x.1.2.2.1 (4 : Int)), ()), ())))
 (cond (ieq x.1.2.2.1 (4 : Int))
 (cond (seq x.1.2.2.2.2.2.1 (⟨#[]⟩ : ByteArray))
 (some ((true, ()), ()))
 (some (((ieq x.1.2.2.1 (4 : Int)), ()), ())))
 (some ((false, ()), ())))))))))))))))
def sg56 : Sig := ⟨ins56, res56, t56⟩
/-! loop.example/g00224/spec.l14Read -/
abbrev ins33 : List Pm := [.val .str]
abbrev res33 : List (K × Mk) := [(kd23, .s), (.bool, .s)]
def t33 (x : (ByteArray × Unit)) : Option ((D23 × Bool × Unit) × Unit) :=
 (bnd (t54 ((x.1, (false, ())), ())) fun r1 => (bnd (t54 (r1.2.1, ())) fun r2 => (cond r2.2.1.2.1
 (some ((((0 : Int), ((0 : Int), ((0 : Int), ((⟨#[]⟩ : ByteArray), ((⟨#[]⟩ : ByteArray), ((⟨#[]⟩ : ByteArray), ())))))), (false, ())), ()))
 (cond (seq r2.2.1.1 (⟨#[]⟩ : ByteArray))
 (some ((((0 : Int), ((0 : Int), ((0 : Int), ((⟨#[]⟩ : ByteArray), ((⟨#[]⟩ : ByteArray), ((⟨#[]⟩ : ByteArray), ())))))), (false, ())), ()))
 (getB r2.2.1.1 (0 : Int) fun v3 => (req (decide ((0 : Int) ≤ (1 : Int)) && decide ((1 : Int) ≤ ((ByteArray.size r2.2.1.1) : Int))) (bnd (t55 (((ByteArray.extract r2.2.1.1 (Int.toNat (1 : Int)) (ByteArray.size r2.2.1.1)), r2.2.1.2), ())) fun r4 => (bnd (t55 (r4.2.1, ())) fun r5 => (bnd (t55 (r5.2.1, ())) fun r6 => (cond r6.2.1.2.1
 (some ((((0 : Int), ((0 : Int), ((0 : Int), ((⟨#[]⟩ : ByteArray), ((⟨#[]⟩ : ByteArray), ((⟨#[]⟩ : ByteArray), ())))))), (false, ())), ()))
 (cond (!seq r6.2.1.1 (⟨#[]⟩ : ByteArray))
 (some ((((0 : Int), ((0 : Int), ((0 : Int), ((⟨#[]⟩ : ByteArray), ((⟨#[]⟩ : ByteArray), ((⟨#[]⟩ : ByteArray), ())))))), (false, ())), ()))
 (bnd (t56 ((r1.1.1, (r2.1.1, ((IntKind.wrap .i64 v3), (r4.1.1, (r5.1.1, (r6.1.1, ())))))), ())) fun r7 => (cond (!r7.1.1)
 (some ((((0 : Int), ((0 : Int), ((0 : Int), ((⟨#[]⟩ : ByteArray), ((⟨#[]⟩ : ByteArray), ((⟨#[]⟩ : ByteArray), ())))))), (false, ())), ()))
 (some (((r1.1.1, (r2.1.1, ((IntKind.wrap .i64 v3), (r4.1.1, (r5.1.1, (r6.1.1, ())))))), (true, ())), ())))))))))))))))
def sg33 : Sig := ⟨ins33, res33, t33⟩
/-! loop.example/g00224/spec.ReadCommand -/
abbrev ins9 : List Pm := [.val .str]
abbrev res9 : List (K × Mk) := [(kd23, .s), (.bool, .s)]
def t9 (x : (ByteArray × Unit)) : Option ((D23 × Bool × Unit) × Unit) :=
 (bnd (t33 (x.1, ())) fun r1 => (some ((r1.1.1, (r1.1.2.1, ())), ())))
def sg9 : Sig := ⟨ins9, res9, t9⟩
/-! loop.example/g00224/impl.TakeVar -/
abbrev ins57 : List Pm := [.val .str]
abbrev res57 : List (K × Mk) := [((.int .i64), .s), ((.int .i64), .s)]
abbrev t57l3c : Desc := ⟨[(0, .v .str)], []⟩
abbrev t57l3v : Desc := ⟨[(4, .v (.int .i64)), (5, .v (.int .i64))], []⟩
abbrev t57l3e : List (Ek × Desc) := [(.ret, ⟨[(2, .v (.int .i64)), (3, .v (.int .i64))], []⟩), (.exit 0, ⟨[], []⟩)]
def t57l3 (R : Type) (c : ((ByteArray × Unit) × Unit)) (v : ((Int × Int × Unit) × Unit)) (kk : ((ByteArray × Unit) × Unit) → (((Int × Int × Unit) × Unit) ⊕ (((Int × Int × Unit) × Unit) ⊕ (Unit × Unit))) → Option R) : Option R :=
 (cond (ilt v.1.2.1 (imin (slen c.1.1) (9 : Int)))
 (getB c.1.1 v.1.2.1 fun v1 => (req (ile (0 : Int) (imul .i64 (7 : Int) v.1.2.1)) (cond (ilt (IntKind.wrap .i64 v1) (128 : Int))
 (cond (ilt (0 : Int) v.1.2.1)
 (cond (ieq (IntKind.wrap .i64 v1) (0 : Int))
 (kk ((c.1.1, ()), ()) (.inr (.inl (((0 : Int), ((0 : Int), ())), ()))))
 (kk ((c.1.1, ()), ()) (.inr (.inl (((ior .i64 v.1.1 (ishl .i64 (irem .i64 (IntKind.wrap .i64 v1) (128 : Int)) (imul .i64 (7 : Int) v.1.2.1))), ((iadd .i64 v.1.2.1 (1 : Int)), ())), ())))))
 (kk ((c.1.1, ()), ()) (.inr (.inl (((ior .i64 v.1.1 (ishl .i64 (irem .i64 (IntKind.wrap .i64 v1) (128 : Int)) (imul .i64 (7 : Int) v.1.2.1))), ((iadd .i64 v.1.2.1 (1 : Int)), ())), ())))))
 (kk ((c.1.1, ()), ()) (.inl (((ior .i64 v.1.1 (ishl .i64 (irem .i64 (IntKind.wrap .i64 v1) (128 : Int)) (imul .i64 (7 : Int) v.1.2.1))), ((iadd .i64 v.1.2.1 (1 : Int)), ())), ()))))))
 (kk ((c.1.1, ()), ()) (.inr (.inr ((), ())))))
def t57 (x : (ByteArray × Unit)) : Option ((Int × Int × Unit) × Unit) :=
 (loopF (c := t57l3c) (v := t57l3v) (ex := t57l3e) t57l3 _ ((x.1, ()), ()) (((0 : Int), ((0 : Int), ())), ()) fun c2 o3 =>
 (match o3 with
 | .inl y4 => (some ((y4.1.1, (y4.1.2.1, ())), ()))
 | .inr z5 => (some (((0 : Int), ((0 : Int), ())), ()))))
def sg57 : Sig := ⟨ins57, res57, t57⟩
/-! (*loop.example/g00224/impl.taker).number -/
abbrev ins34 : List Pm := [.mptr kd55 .s]
abbrev res34 : List (K × Mk) := [((.int .i64), .s)]
def t34 (x : (D55 × Unit)) : Option ((Int × Unit) × (D55 × Unit)) :=
 (bnd (t57 (x.1.1, ())) fun r1 => (cond x.1.2.1
 (some (((0 : Int), ()), ((x.1.1, (true, x.1.2.2)), ())))
 (cond (ieq r1.1.2.1 (0 : Int))
 (some (((0 : Int), ()), ((x.1.1, ((ieq r1.1.2.1 (0 : Int)), x.1.2.2)), ())))
 (req (decide ((0 : Int) ≤ r1.1.2.1) && decide (r1.1.2.1 ≤ ((ByteArray.size x.1.1) : Int))) (some ((r1.1.1, ()), (((ByteArray.extract x.1.1 (Int.toNat r1.1.2.1) (ByteArray.size x.1.1)), ((ieq r1.1.2.1 (0 : Int)), x.1.2.2)), ())))))))
def sg34 : Sig := ⟨ins34, res34, t34⟩
/-! (*loop.example/g00224/impl.taker).text -/
abbrev ins35 : List Pm := [.mptr kd55 .s, .val (.int .i64)]
abbrev res35 : List (K × Mk) := [(.str, .s)]
def t35 (x : (D55 × Int × Unit)) : Option ((ByteArray × Unit) × (D55 × Unit)) :=
 (cond x.1.2.1
 (some (((⟨#[]⟩ : ByteArray), ()), ((x.1.1, (true, x.1.2.2)), ())))
 (cond (ilt (slen x.1.1) x.2.1)
 (some (((⟨#[]⟩ : ByteArray), ()), ((x.1.1, ((ilt (slen x.1.1) x.2.1), x.1.2.2)), ())))
 (req (decide ((0 : Int) ≤ x.2.1) && decide (x.2.1 ≤ ((ByteArray.size x.1.1) : Int))) (req (decide ((0 : Int) ≤ x.2.1) && decide (x.2.1 ≤ ((ByteArray.size x.1.1) : Int))) (some (((ByteArray.extract x.1.1 (0 : Nat) (Int.toNat x.2.1)), ()), (((ByteArray.extract x.1.1 (Int.toNat x.2.1) (ByteArray.size x.1.1)), ((ilt (slen x.1.1) x.2.1), x.1.2.2)), ())))))))
def sg35 : Sig := ⟨ins35, res35, t35⟩
/-! (*loop.example/g00224/impl.taker).sized -/
abbrev ins36 : List Pm := [.mptr kd55 .s]
abbrev res36 : List (K × Mk) := [(.str, .s)]
def t36 (x : (D55 × Unit)) : Option ((ByteArray × Unit) × (D55 × Unit)) :=
 (bnd (t34 (x.1, ())) fun r1 => (bnd (t35 (r1.2.1, (r1.1.1, ()))) fun r2 => (some ((r2.1.1, ()), (r2.2.1, ())))))
def sg36 : Sig := ⟨ins36, res36, t36⟩
/-! (*loop.example/g00224/impl.taker).whole -/
abbrev ins37 : List Pm := [.mptr kd55 .s]
abbrev res37 : List (K × Mk) := [(.bool, .s)]
def t37 (x : (D55 × Unit)) : Option ((Bool × Unit) × (D55 × Unit)) :=
 (cond (!x.1.2.1)
 (some (((seq x.1.1 (⟨#[]⟩ : ByteArray)), ()), (x.1, ())))
 (some ((false, ()), (x.1, ()))))
def sg37 : Sig := ⟨ins37, res37, t37⟩
/-! loop.example/g00224/impl.in -/
abbrev ins58 : List Pm := [.val (.int .i64), .val (.int .i64), .val (.int .i64)]
abbrev res58 : List (K × Mk) := [(.bool, .s)]
def t58 (x : (Int × Int × Int × Unit)) : Option ((Bool × Unit) × Unit) :=
 (cond (ile x.2.1 x.1)
 (some (((ile x.1 x.2.2.1), ()), ()))
 (some ((false, ()), ())))
def sg58 : Sig := ⟨ins58, res58, t58⟩
/-! loop.example/g00224/impl.isKey -/
abbrev ins59 : List Pm := [.val .str]
abbrev res59 : List (K × Mk) := [(.bool, .s)]
def t59 (x : (ByteArray × Unit)) : Option ((Bool × Unit) × Unit) :=
 (bnd (t58 ((slen x.1), ((1 : Int), ((16 : Int), ())))) fun r1 => (some ((r1.1.1, ()), ())))
def sg59 : Sig := ⟨ins59, res59, t59⟩
/-! loop.example/g00224/impl.isValue -/
abbrev ins60 : List Pm := [.val .str]
abbrev res60 : List (K × Mk) := [(.bool, .s)]
def t60 (x : (ByteArray × Unit)) : Option ((Bool × Unit) × Unit) :=
 (some (((ile (slen x.1) (40 : Int)), ()), ()))
def sg60 : Sig := ⟨ins60, res60, t60⟩
/-! loop.example/g00224/impl.GoodCommand -/
abbrev ins38 : List Pm := [.val kd23]
abbrev res38 : List (K × Mk) := [(.bool, .s)]
def t38 (x : (D23 × Unit)) : Option ((Bool × Unit) × Unit) :=
 (bnd (t58 (x.1.1, ((0 : Int), ((99 : Int), ())))) fun r1 => (cond (!r1.1.1)
 (some ((false, ()), ()))
 (bnd (t58 (x.1.2.1, ((1 : Int), ((1000000 : Int), ())))) fun r2 => (cond (!r2.1.1)
 (some ((false, ()), ()))
 (bnd (t58 (x.1.2.2.1, ((1 : Int), ((4 : Int), ())))) fun r3 => (cond (!r3.1.1)
 (some ((false, ()), ()))
 (bnd (t59 (x.1.2.2.2.1, ())) fun r4 => (cond (!r4.1.1)
 (some ((false, ()), ()))
 (bnd (t60 (x.1.2.2.2.2.1, ())) fun r5 => (cond (!r5.1.1)
 (some ((false, ()), ()))
 (bnd (t60 (x.1.2.2.2.2.2.1, ())) fun r6 => (cond (!r6.1.1)
 (some ((false, ()), ()))
 (cond (seq x.1.2.2.2.2.1 (⟨#[]⟩ : ByteArray))
 (cond (seq x.1.2.2.2.2.2.1 (⟨#[]⟩ : ByteArray))
 (some ((true, ()), ()))
 (some (((ieq x.1.2.2.1 (4 : Int)), ()), ())))
 (cond (ieq x.1.2.2.1 (2 : Int))
 (cond (seq x.1.2.2.2.2.2.1 (⟨#[]⟩ : ByteArray))
 (some ((true, ()), ()))
 (some (((ieq x.1.2.2.1 (4 : Int)), ()), ())))
 (cond (ieq x.1.2.2.1 (4 : Int))
 (cond (seq x.1.2.2.2.2.2.1 (⟨#[]⟩ : ByteArray))
 (some ((true, ()), ()))
 (some (((ieq x.1.2.2.1 (4 : Int)), ()), ())))
 (some ((false, ()), ())))))))))))))))))
def sg38 : Sig := ⟨ins38, res38, t38⟩
/-! loop.example/g00224/impl.ReadCommand -/
abbrev ins10 : List Pm := [.val .str]
abbrev res10 : List (K × Mk) := [(kd23, .s), (.bool, .s)]
abbrev t10i6c : Desc := ⟨[(2, .ptr 2 []), (4, .ptr 9 []), (5, .ptr 5 []), (6, .v .str), (20, .v .bool)], [(2, ⟨kd23, .s, true⟩), (9, ⟨kd55, .s, true⟩)]⟩
abbrev t10i6v : Desc := ⟨[], [(5, ⟨kd23, .s, true⟩)]⟩
abbrev t10i6e : List (Ek × Desc) := [(.norm, ⟨[], [(5, ⟨kd23, .s, true⟩)]⟩)]
def t10i6 (R : Type) (c : ((ByteArray × Bool × Unit) × (D23 × D55 × Unit))) (v : (Unit × (D23 × Unit))) (kk : ((ByteArray × Bool × Unit) × (D23 × D55 × Unit)) → (Unit × (D23 × Unit)) → Option R) : Option R :=
 (cond c.1.2.1
 (getB c.1.1 (0 : Int) fun v4 => (kk ((c.1.1, (c.1.2.1, ())), (c.2.1, (c.2.2.1, ()))) ((), ((v.2.1.1, (v.2.1.2.1, ((IntKind.wrap .i64 v4), v.2.1.2.2.2))), ()))))
 (kk ((c.1.1, (c.1.2.1, ())), (c.2.1, (c.2.2.1, ()))) ((), (v.2.1, ()))))
def t10 (x : (ByteArray × Unit)) : Option ((D23 × Bool × Unit) × Unit) :=
 (bnd (t34 ((x.1, (false, ())), ())) fun r1 => (bnd (t34 (r1.2.1, ())) fun r2 => (bnd (t35 (r2.2.1, ((1 : Int), ()))) fun r3 => (t10i6 _ ((r3.1.1, ((!seq r3.1.1 (⟨#[]⟩ : ByteArray)), ())), (((0 : Int), ((0 : Int), ((0 : Int), ((⟨#[]⟩ : ByteArray), ((⟨#[]⟩ : ByteArray), ((⟨#[]⟩ : ByteArray), ())))))), (r3.2.1, ()))) ((), ((r1.1.1, (r2.1.1, ((0 : Int), ((⟨#[]⟩ : ByteArray), ((⟨#[]⟩ : ByteArray), ((⟨#[]⟩ : ByteArray), ())))))), ())) fun c5 o6 =>
 (bnd (t36 (c5.2.2.1, ())) fun r7 => (bnd (t36 (r7.2.1, ())) fun r8 => (bnd (t36 (r8.2.1, ())) fun r9 => (bnd (t37 (r9.2.1, ())) fun r10 => (cond (!r10.1.1)
 (some ((((0 : Int), ((0 : Int), ((0 : Int), ((⟨#[]⟩ : ByteArray), ((⟨#[]⟩ : ByteArray), ((⟨#[]⟩ : ByteArray), ())))))), (false, ())), ()))
 (bnd (t38 ((o6.2.1.1, (o6.2.1.2.1, (o6.2.1.2.2.1, (r7.1.1, (r8.1.1, (r9.1.1, o6.2.1.2.2.2.2.2.2)))))), ())) fun r11 => (cond (!r11.1.1)
 (some ((((0 : Int), ((0 : Int), ((0 : Int), ((⟨#[]⟩ : ByteArray), ((⟨#[]⟩ : ByteArray), ((⟨#[]⟩ : ByteArray), ())))))), (false, ())), ()))
 (some (((o6.2.1.1, (o6.2.1.2.1, (o6.2.1.2.2.1, (r7.1.1, (r8.1.1, (r9.1.1, o6.2.1.2.2.2.2.2.2)))))), (true, ())), ())))))))))))))
def sg10 : Sig := ⟨ins10, res10, t10⟩
/-! loop.example/g00224/laws.eqCommand -/
abbrev ins11 : List Pm := [.val kd23, .val kd23]
abbrev res11 : List (K × Mk) := [(.bool, .s)]
def t11 (x : (D23 × D23 × Unit)) : Option ((Bool × Unit) × Unit) :=
 (cond (!ieq x.1.1 x.2.1.1)
 (some ((false, ()), ()))
 (cond (!ieq x.1.2.1 x.2.1.2.1)
 (some ((false, ()), ()))
 (cond (!ieq x.1.2.2.1 x.2.1.2.2.1)
 (some ((false, ()), ()))
 (cond (!seq x.1.2.2.2.1 x.2.1.2.2.2.1)
 (some ((false, ()), ()))
 (cond (!seq x.1.2.2.2.2.1 x.2.1.2.2.2.2.1)
 (some ((false, ()), ()))
 (cond (!seq x.1.2.2.2.2.2.1 x.2.1.2.2.2.2.2.1)
 (some ((false, ()), ()))
 (some ((true, ()), ()))))))))
def sg11 : Sig := ⟨ins11, res11, t11⟩
/-! loop.example/g00224/laws.FnExactReadCommand -/
abbrev ins3 : List Pm := [.val .str]
abbrev res3 : List (K × Mk) := [(.bool, .s)]
def t3 (x : (ByteArray × Unit)) : Option ((Bool × Unit) × Unit) :=
 (cond (ilt (1048576 : Int) (slen x.1))
 (some ((true, ()), ()))
 (bnd (t9 (x.1, ())) fun r1 => (bnd (t10 (x.1, ())) fun r2 => (bnd (t11 (r2.1.1, (r1.1.1, ()))) fun r3 => (cond (!r3.1.1)
 (some ((false, ()), ()))
 (cond (!beqB r2.1.2.1 r1.1.2.1)
 (some ((false, ()), ()))
 (some ((true, ()), ()))))))))
def sg3 : Sig := ⟨ins3, res3, t3⟩
/-! loop.example/g00224/spec.l4Seq -/
abbrev ins100 : List Pm := [.val (.int .i64)]
abbrev res100 : List (K × Mk) := [(.bool, .s)]
def t100 (x : (Int × Unit)) : Option ((Bool × Unit) × Unit) :=
 (bnd (t85 (x.1, ((0 : Int), ((1000000000 : Int), ())))) fun r1 => (some ((r1.1.1, ()), ())))
def sg100 : Sig := ⟨ins100, res100, t100⟩
/-! loop.example/g00224/spec.l9Counts -/
abbrev ins87 : List Pm := [.val (.int .i64), .val (.int .i64)]
abbrev res87 : List (K × Mk) := [(.bool, .s)]
def t87 (x : (Int × Int × Unit)) : Option ((Bool × Unit) × Unit) :=
 (bnd (t85 (x.1, ((1 : Int), ((100001 : Int), ())))) fun r1 => (cond r1.1.1
 (bnd (t100 (x.2.1, ())) fun r2 => (some ((r2.1.1, ()), ())))
 (some ((false, ()), ()))))
def sg87 : Sig := ⟨ins87, res87, t87⟩
/-! loop.example/g00224/spec.l9Meta -/
abbrev ins101 : List Pm := [.val kd62]
abbrev res101 : List (K × Mk) := [(.bool, .s)]
def t101 (x : (D62 × Unit)) : Option ((Bool × Unit) × Unit) :=
 (bnd (t85 (x.1.1, ((1 : Int), ((100000 : Int), ())))) fun r1 => (cond r1.1.1
 (bnd (t85 (x.1.2.1, ((0 : Int), ((3 : Int), ())))) fun r2 => (cond r2.1.1
 (bnd (t86 (x.1.2.2.1, ())) fun r3 => (cond r3.1.1
 (bnd (t86 (x.1.2.2.2.1, ())) fun r4 => (cond r4.1.1
 (some (((slt x.1.2.2.1 x.1.2.2.2.1 || seq x.1.2.2.1 x.1.2.2.2.1), ()), ()))
 (some ((false, ()), ()))))
 (some ((false, ()), ()))))
 (some ((false, ()), ()))))
 (some ((false, ()), ()))))
def sg101 : Sig := ⟨ins101, res101, t101⟩
/-! loop.example/g00224/spec.l9Metas -/
abbrev ins88 : List Pm := [.val (.sl kd62)]
abbrev res88 : List (K × Mk) := [(.bool, .s)]
abbrev t88l2c : Desc := ⟨[(0, .v (.sl kd62)), (5, .v (.sl kd62)), (6, .v (.int .i64))], []⟩
abbrev t88l2v : Desc := ⟨[(7, .v (.int .i64))], []⟩
abbrev t88l2e : List (Ek × Desc) := [(.ret, ⟨[(2, .v .bool)], []⟩), (.exit 0, ⟨[], []⟩)]
def t88l2 (R : Type) (c : (((List D62) × (List D62) × Int × Unit) × Unit)) (v : ((Int × Unit) × Unit)) (kk : (((List D62) × (List D62) × Int × Unit) × Unit) → (((Int × Unit) × Unit) ⊕ (((Bool × Unit) × Unit) ⊕ (Unit × Unit))) → Option R) : Option R :=
 (cond (ilt v.1.1 c.1.2.2.1)
 (getO c.1.2.1 v.1.1 fun v1 => (bnd (t101 (v1, ())) fun r2 => (cond (!r2.1.1)
 (kk ((c.1.1, (c.1.2.1, (c.1.2.2.1, ()))), ()) (.inr (.inl ((false, ()), ()))))
 (cond (ilt (0 : Int) v.1.1)
 (getO c.1.1 (isub .i64 v.1.1 (1 : Int)) fun v3 => (cond (ile v1.1 v3.1)
 (kk ((c.1.1, (c.1.2.1, (c.1.2.2.1, ()))), ()) (.inr (.inl ((false, ()), ()))))
 (kk ((c.1.1, (c.1.2.1, (c.1.2.2.1, ()))), ()) (.inl (((iadd .i64 v.1.1 (1 : Int)), ()), ())))))
 (kk ((c.1.1, (c.1.2.1, (c.1.2.2.1, ()))), ()) (.inl (((iadd .i64 v.1.1 (1 : Int)), ()), ())))))))
 (kk ((c.1.1, (c.1.2.1, (c.1.2.2.1, ()))), ()) (.inr (.inr ((), ())))))
def t88 (x : ((List D62) × Unit)) : Option ((Bool × Unit) × Unit) :=
 (loopF (c := t88l2c) (v := t88l2v) (ex := t88l2e) t88l2 _ ((x.1, (x.1, ((llen x.1), ()))), ()) (((0 : Int), ()), ()) fun c4 o5 =>
 (match o5 with
 | .inl y6 => (some ((y6.1.1, ()), ()))
 | .inr z7 => (some (((ile (llen c4.1.1) (30 : Int)), ()), ()))))
def sg88 : Sig := ⟨ins88, res88, t88⟩
/-! loop.example/g00224/spec.l9Edit -/
abbrev ins61 : List Pm := [.val kd31]
abbrev res61 : List (K × Mk) := [(.bool, .s)]
abbrev t61l2c : Desc := ⟨[(1, .ptr 1 []), (6, .v (.sl (.int .i64))), (7, .v (.int .i64))], [(1, ⟨kd31, .s, true⟩)]⟩
abbrev t61l2v : Desc := ⟨[(8, .v (.int .i64))], []⟩
abbrev t61l2e : List (Ek × Desc) := [(.ret, ⟨[(2, .v .bool)], []⟩), (.exit 0, ⟨[], []⟩)]
def t61l2 (R : Type) (c : (((List Int) × Int × Unit) × (D31 × Unit))) (v : ((Int × Unit) × Unit)) (kk : (((List Int) × Int × Unit) × (D31 × Unit)) → (((Int × Unit) × Unit) ⊕ (((Bool × Unit) × Unit) ⊕ (Unit × Unit))) → Option R) : Option R :=
 (cond (ilt v.1.1 c.1.2.1)
 (getO c.1.1 v.1.1 fun v1 => (bnd (t85 (v1, ((1 : Int), ((100000 : Int), ())))) fun r2 => (cond (!r2.1.1)
 (kk ((c.1.1, (c.1.2.1, ())), (c.2.1, ())) (.inr (.inl ((false, ()), ()))))
 (cond (ilt (0 : Int) v.1.1)
 (getO c.2.1.2.2.1 (isub .i64 v.1.1 (1 : Int)) fun v3 => (cond (ile v1 v3)
 (kk ((c.1.1, (c.1.2.1, ())), (c.2.1, ())) (.inr (.inl ((false, ()), ()))))
 (kk ((c.1.1, (c.1.2.1, ())), (c.2.1, ())) (.inl (((iadd .i64 v.1.1 (1 : Int)), ()), ())))))
 (kk ((c.1.1, (c.1.2.1, ())), (c.2.1, ())) (.inl (((iadd .i64 v.1.1 (1 : Int)), ()), ())))))))
 (kk ((c.1.1, (c.1.2.1, ())), (c.2.1, ())) (.inr (.inr ((), ())))))
def t61 (x : (D31 × Unit)) : Option ((Bool × Unit) × Unit) :=
 (loopF (c := t61l2c) (v := t61l2v) (ex := t61l2e) t61l2 _ ((x.1.2.2.1, ((llen x.1.2.2.1), ())), (x.1, ())) (((0 : Int), ()), ()) fun c4 o5 =>
 (match o5 with
 | .inl y6 => (some ((y6.1.1, ()), ()))
 | .inr z7 => (bnd (t87 (c4.2.1.1, (c4.2.1.2.1, ()))) fun r8 => (cond r8.1.1
 (cond (ile (llen c4.2.1.2.2.1) (30 : Int))
 (bnd (t88 (c4.2.1.2.2.2.1, ())) fun r9 => (some ((r9.1.1, ()), ())))
 (some ((false, ()), ())))
 (some ((false, ()), ()))))))
def sg61 : Sig := ⟨ins61, res61, t61⟩
/-! loop.example/g00224/spec.l2Var -/
abbrev ins83 : List Pm := [.val (.int .i64)]
abbrev res83 : List (K × Mk) := [(.str, .s)]
abbrev t83l2c : Desc := ⟨[(3, .al 3 [])], []⟩
abbrev t83l2v : Desc := ⟨[(0, .v (.int .i64))], [(3, ⟨(.sl (.int .u8)), (.o .s), false⟩)]⟩
abbrev t83l2e : List (Ek × Desc) := [(.exit 0, ⟨[(0, .v (.int .i64))], [(3, ⟨(.sl (.int .u8)), (.o .s), false⟩)]⟩)]
def t83l2 (R : Type) (c : (Unit × Unit)) (v : ((Int × Unit) × ((List Int) × Unit))) (kk : (Unit × Unit) → (((Int × Unit) × ((List Int) × Unit)) ⊕ ((Int × Unit) × ((List Int) × Unit))) → Option R) : Option R :=
 (cond (ilt (127 : Int) v.1.1)
 (req (decide (List.length v.2.1 + List.length [(IntKind.wrap .u8 (ior .i64 (iand .i64 v.1.1 (127 : Int)) (128 : Int)))] ≤ 17179869184)) (kk ((), ()) (.inl (((ishr .i64 v.1.1 (7 : Int)), ()), ((v.2.1 ++ [(IntKind.wrap .u8 (ior .i64 (iand .i64 v.1.1 (127 : Int)) (128 : Int)))]), ())))))
 (kk ((), ()) (.inr ((v.1.1, ()), (v.2.1, ())))))
def t83 (x : (Int × Unit)) : Option ((ByteArray × Unit) × Unit) :=
 (loopF (c := t83l2c) (v := t83l2v) (ex := t83l2e) t83l2 _ ((), ()) ((x.1, ()), (([] : List Int), ())) fun c1 o2 =>
 (req (decide (List.length o2.2.1 + List.length [(IntKind.wrap .u8 o2.1.1)] ≤ 17179869184)) (some (((strOf (o2.2.1 ++ [(IntKind.wrap .u8 o2.1.1)])), ()), ()))))
def sg83 : Sig := ⟨ins83, res83, t83⟩
/-! loop.example/g00224/spec.l9Bytes -/
abbrev ins62 : List Pm := [.val kd31]
abbrev res62 : List (K × Mk) := [(.str, .s)]
abbrev t62l3c : Desc := ⟨[(1, .ptr 1 []), (21, .v (.sl (.int .i64))), (22, .v (.int .i64))], [(1, ⟨kd31, .s, true⟩)]⟩
abbrev t62l3v : Desc := ⟨[(3, .v .str), (23, .v (.int .i64))], []⟩
abbrev t62l3e : List (Ek × Desc) := [(.exit 0, ⟨[(3, .v .str)], []⟩)]
def t62l3 (R : Type) (c : (((List Int) × Int × Unit) × (D31 × Unit))) (v : ((ByteArray × Int × Unit) × Unit)) (kk : (((List Int) × Int × Unit) × (D31 × Unit)) → (((ByteArray × Int × Unit) × Unit) ⊕ ((ByteArray × Unit) × Unit)) → Option R) : Option R :=
 (cond (ilt v.1.2.1 c.1.2.1)
 (getO c.1.1 v.1.2.1 fun v6 => (bnd (t83 (v6, ())) fun r7 => (catO v.1.1 r7.1.1 fun v8 => (kk ((c.1.1, (c.1.2.1, ())), (c.2.1, ())) (.inl ((v8, ((iadd .i64 v.1.2.1 (1 : Int)), ())), ()))))))
 (kk ((c.1.1, (c.1.2.1, ())), (c.2.1, ())) (.inr ((v.1.1, ()), ()))))
abbrev t62l9c : Desc := ⟨[(39, .v (.sl kd62)), (40, .v (.int .i64))], []⟩
abbrev t62l9v : Desc := ⟨[(3, .v .str), (41, .v (.int .i64))], []⟩
abbrev t62l9e : List (Ek × Desc) := [(.exit 2, ⟨[(3, .v .str)], []⟩)]
def t62l9 (R : Type) (c : (((List D62) × Int × Unit) × Unit)) (v : ((ByteArray × Int × Unit) × Unit)) (kk : (((List D62) × Int × Unit) × Unit) → (((ByteArray × Int × Unit) × Unit) ⊕ ((ByteArray × Unit) × Unit)) → Option R) : Option R :=
 (cond (ilt v.1.2.1 c.1.2.1)
 (getO c.1.1 v.1.2.1 fun v13 => (bnd (t83 (v13.1, ())) fun r14 => (bnd (t83 (v13.2.1, ())) fun r15 => (catO r14.1.1 r15.1.1 fun v16 => (bnd (t83 ((slen v13.2.2.1), ())) fun r17 => (catO v16 r17.1.1 fun v18 => (catO v18 v13.2.2.1 fun v19 => (bnd (t83 ((slen v13.2.2.2.1), ())) fun r20 => (catO v19 r20.1.1 fun v21 => (catO v21 v13.2.2.2.1 fun v22 => (catO v.1.1 v22 fun v23 => (kk ((c.1.1, (c.1.2.1, ())), ()) (.inl ((v23, ((iadd .i64 v.1.2.1 (1 : Int)), ())), ()))))))))))))))
 (kk ((c.1.1, (c.1.2.1, ())), ()) (.inr ((v.1.1, ()), ()))))
def t62 (x : (D31 × Unit)) : Option ((ByteArray × Unit) × Unit) :=
 (bnd (t83 (x.1.1, ())) fun r1 => (bnd (t83 (x.1.2.1, ())) fun r2 => (catO r1.1.1 r2.1.1 fun v3 => (bnd (t83 ((llen x.1.2.2.1), ())) fun r4 => (catO v3 r4.1.1 fun v5 => (loopF (c := t62l3c) (v := t62l3v) (ex := t62l3e) t62l3 _ ((x.1.2.2.1, ((llen x.1.2.2.1), ())), (x.1, ())) ((v5, ((0 : Int), ())), ()) fun c9 o10 =>
 (bnd (t83 ((llen c9.2.1.2.2.2.1), ())) fun r11 => (catO o10.1.1 r11.1.1 fun v12 => (loopF (c := t62l9c) (v := t62l9v) (ex := t62l9e) t62l9 _ ((c9.2.1.2.2.2.1, ((llen c9.2.1.2.2.2.1), ())), ()) ((v12, ((0 : Int), ())), ()) fun c24 o25 =>
 (some ((o25.1.1, ()), ())))))))))))
def sg62 : Sig := ⟨ins62, res62, t62⟩
/-! loop.example/g00224/spec.l9Read -/
abbrev ins39 : List Pm := [.val .str]
abbrev res39 : List (K × Mk) := [(kd31, (.pr .s (.pr .s (.pr (.o .s) (.pr (.o .s) .s))))), (.bool, .s)]
abbrev t39l5c : Desc := ⟨[(0, .v .str), (2, .ptr 2 []), (4, .ptr 11 []), (5, .ptr 5 [])], [(2, ⟨kd31, (.pr .s (.pr .s (.pr (.o .s) (.pr (.o .s) .s)))), true⟩)]⟩
abbrev t39l5v : Desc := ⟨[(6, .v (.int .i64))], [(5, ⟨kd31, (.pr .s (.pr .s (.pr (.o .s) (.pr (.o .s) .s)))), true⟩), (11, ⟨kd55, .s, true⟩)]⟩
abbrev t39l5e : List (Ek × Desc) := [(.exit 0, ⟨[], [(5, ⟨kd31, (.pr .s (.pr .s (.pr (.o .s) (.pr (.o .s) .s)))), true⟩), (11, ⟨kd55, .s, true⟩)]⟩)]
def t39l5 (R : Type) (c : ((ByteArray × Unit) × (D31 × Unit))) (v : ((Int × Unit) × (D31 × D55 × Unit))) (kk : ((ByteArray × Unit) × (D31 × Unit)) → (((Int × Unit) × (D31 × D55 × Unit)) ⊕ (Unit × (D31 × D55 × Unit))) → Option R) : Option R :=
 (cond (ilt (0 : Int) v.1.1)
 (cond (!v.2.2.1.2.1)
 (cond (ile (llen v.2.1.2.2.1) (30 : Int))
 (bnd (t54 (v.2.2.1, ())) fun r4 => (req (decide (List.length v.2.1.2.2.1 + List.length [r4.1.1] ≤ 17179869184)) (kk ((c.1.1, ()), (c.2.1, ())) (.inl (((isub .i64 v.1.1 (1 : Int)), ()), ((v.2.1.1, (v.2.1.2.1, ((v.2.1.2.2.1 ++ [r4.1.1]), v.2.1.2.2.2))), (r4.2.1, ())))))))
 (kk ((c.1.1, ()), (c.2.1, ())) (.inr ((), (v.2.1, (v.2.2.1, ()))))))
 (kk ((c.1.1, ()), (c.2.1, ())) (.inr ((), (v.2.1, (v.2.2.1, ()))))))
 (kk ((c.1.1, ()), (c.2.1, ())) (.inr ((), (v.2.1, (v.2.2.1, ()))))))
abbrev t39l9c : Desc := ⟨[(0, .v .str), (2, .ptr 2 []), (4, .ptr 11 []), (5, .ptr 5 [])], [(2, ⟨kd31, (.pr .s (.pr .s (.pr (.o .s) (.pr (.o .s) .s)))), true⟩)]⟩
abbrev t39l9v : Desc := ⟨[(7, .v (.int .i64))], [(5, ⟨kd31, (.pr .s (.pr .s (.pr (.o .s) (.pr (.o .s) .s)))), true⟩), (11, ⟨kd55, .s, true⟩)]⟩
abbrev t39l9e : List (Ek × Desc) := [(.exit 2, ⟨[], [(5, ⟨kd31, (.pr .s (.pr .s (.pr (.o .s) (.pr (.o .s) .s)))), true⟩), (11, ⟨kd55, .s, true⟩)]⟩)]
def t39l9 (R : Type) (c : ((ByteArray × Unit) × (D31 × Unit))) (v : ((Int × Unit) × (D31 × D55 × Unit))) (kk : ((ByteArray × Unit) × (D31 × Unit)) → (((Int × Unit) × (D31 × D55 × Unit)) ⊕ (Unit × (D31 × D55 × Unit))) → Option R) : Option R :=
 (cond (ilt (0 : Int) v.1.1)
 (cond (!v.2.2.1.2.1)
 (cond (ile (llen v.2.1.2.2.2.1) (30 : Int))
 (bnd (t54 (v.2.2.1, ())) fun r8 => (bnd (t54 (r8.2.1, ())) fun r9 => (bnd (t55 (r9.2.1, ())) fun r10 => (bnd (t55 (r10.2.1, ())) fun r11 => (req (decide (List.length v.2.1.2.2.2.1 + List.length [(r8.1.1, (r9.1.1, (r10.1.1, (r11.1.1, ()))))] ≤ 17179869184)) (kk ((c.1.1, ()), (c.2.1, ())) (.inl (((isub .i64 v.1.1 (1 : Int)), ()), ((v.2.1.1, (v.2.1.2.1, (v.2.1.2.2.1, ((v.2.1.2.2.2.1 ++ [(r8.1.1, (r9.1.1, (r10.1.1, (r11.1.1, ()))))]), v.2.1.2.2.2.2)))), (r11.2.1, ()))))))))))
 (kk ((c.1.1, ()), (c.2.1, ())) (.inr ((), (v.2.1, (v.2.2.1, ()))))))
 (kk ((c.1.1, ()), (c.2.1, ())) (.inr ((), (v.2.1, (v.2.2.1, ()))))))
 (kk ((c.1.1, ()), (c.2.1, ())) (.inr ((), (v.2.1, (v.2.2.1, ()))))))
def t39 (x : (ByteArray × Unit)) : Option ((D31 × Bool × Unit) × Unit) :=
 (bnd (t54 ((x.1, (false, ())), ())) fun r1 => (bnd (t54 (r1.2.1, ())) fun r2 => (bnd (t54 (r2.2.1, ())) fun r3 => (loopF (c := t39l5c) (v := t39l5v) (ex := t39l5e) t39l5 _ ((x.1, ()), (((0 : Int), ((0 : Int), (([] : List Int), (([] : List D62), ())))), ())) ((r3.1.1, ()), ((r1.1.1, (r2.1.1, (([] : List Int), (([] : List D62), ())))), (r3.2.1, ()))) fun c5 o6 =>
 (bnd (t54 (o6.2.2.1, ())) fun r7 => (loopF (c := t39l9c) (v := t39l9v) (ex := t39l9e) t39l9 _ ((c5.1.1, ()), (c5.2.1, ())) ((r7.1.1, ()), (o6.2.1, (r7.2.1, ()))) fun c12 o13 =>
 (cond o13.2.2.1.2.1
 (some ((((0 : Int), ((0 : Int), (([] : List Int), (([] : List D62), ())))), (false, ())), ()))
 (cond (!seq o13.2.2.1.1 (⟨#[]⟩ : ByteArray))
 (some ((((0 : Int), ((0 : Int), (([] : List Int), (([] : List D62), ())))), (false, ())), ()))
 (bnd (t61 (o13.2.1, ())) fun r14 => (cond (!r14.1.1)
 (some ((((0 : Int), ((0 : Int), (([] : List Int), (([] : List D62), ())))), (false, ())), ()))
 (bnd (t62 (o13.2.1, ())) fun r15 => (cond (!seq r15.1.1 c12.1.1)
 (some ((((0 : Int), ((0 : Int), (([] : List Int), (([] : List D62), ())))), (false, ())), ()))
 (some ((o13.2.1, (true, ())), ()))))))))))))))
def sg39 : Sig := ⟨ins39, res39, t39⟩
/-! loop.example/g00224/spec.ReadEdit -/
abbrev ins12 : List Pm := [.val .str]
abbrev res12 : List (K × Mk) := [(kd31, (.pr .s (.pr .s (.pr (.o .s) (.pr (.o .s) .s))))), (.bool, .s)]
def t12 (x : (ByteArray × Unit)) : Option ((D31 × Bool × Unit) × Unit) :=
 (cond (ilt (1000 : Int) (slen x.1))
 (some ((((0 : Int), ((0 : Int), (([] : List Int), (([] : List D62), ())))), (false, ())), ()))
 (bnd (t39 (x.1, ())) fun r1 => (some ((r1.1.1, (r1.1.2.1, ())), ()))))
def sg12 : Sig := ⟨ins12, res12, t12⟩
/-! loop.example/g00224/impl.isSeq -/
abbrev ins89 : List Pm := [.val (.int .i64)]
abbrev res89 : List (K × Mk) := [(.bool, .s)]
def t89 (x : (Int × Unit)) : Option ((Bool × Unit) × Unit) :=
 (bnd (t58 (x.1, ((0 : Int), ((1000000000 : Int), ())))) fun r1 => (some ((r1.1.1, ()), ())))
def sg89 : Sig := ⟨ins89, res89, t89⟩
/-! loop.example/g00224/impl.nextOk -/
abbrev ins63 : List Pm := [.val (.int .i64), .val (.int .i64)]
abbrev res63 : List (K × Mk) := [(.bool, .s)]
def t63 (x : (Int × Int × Unit)) : Option ((Bool × Unit) × Unit) :=
 (bnd (t58 (x.1, ((1 : Int), ((100001 : Int), ())))) fun r1 => (cond r1.1.1
 (bnd (t89 (x.2.1, ())) fun r2 => (some ((r2.1.1, ()), ())))
 (some ((false, ()), ()))))
def sg63 : Sig := ⟨ins63, res63, t63⟩
/-! loop.example/g00224/impl.goodMeta -/
abbrev ins90 : List Pm := [.val kd62]
abbrev res90 : List (K × Mk) := [(.bool, .s)]
def t90 (x : (D62 × Unit)) : Option ((Bool × Unit) × Unit) :=
 (bnd (t58 (x.1.1, ((1 : Int), ((100000 : Int), ())))) fun r1 => (cond r1.1.1
 (bnd (t58 (x.1.2.1, ((0 : Int), ((3 : Int), ())))) fun r2 => (cond r2.1.1
 (bnd (t59 (x.1.2.2.1, ())) fun r3 => (cond r3.1.1
 (bnd (t59 (x.1.2.2.2.1, ())) fun r4 => (cond r4.1.1
 (some (((slt x.1.2.2.1 x.1.2.2.2.1 || seq x.1.2.2.1 x.1.2.2.2.1), ()), ()))
 (some ((false, ()), ()))))
 (some ((false, ()), ()))))
 (some ((false, ()), ()))))
 (some ((false, ()), ()))))
def sg90 : Sig := ⟨ins90, res90, t90⟩
/-! loop.example/g00224/impl.metasOk -/
abbrev ins64 : List Pm := [.val (.sl kd62)]
abbrev res64 : List (K × Mk) := [(.bool, .s)]
abbrev t64l2c : Desc := ⟨[(0, .v (.sl kd62)), (5, .v (.sl kd62)), (6, .v (.int .i64))], []⟩
abbrev t64l2v : Desc := ⟨[(7, .v (.int .i64))], []⟩
abbrev t64l2e : List (Ek × Desc) := [(.ret, ⟨[(2, .v .bool)], []⟩), (.exit 0, ⟨[], []⟩)]
def t64l2 (R : Type) (c : (((List D62) × (List D62) × Int × Unit) × Unit)) (v : ((Int × Unit) × Unit)) (kk : (((List D62) × (List D62) × Int × Unit) × Unit) → (((Int × Unit) × Unit) ⊕ (((Bool × Unit) × Unit) ⊕ (Unit × Unit))) → Option R) : Option R :=
 (cond (ilt v.1.1 c.1.2.2.1)
 (getO c.1.2.1 v.1.1 fun v1 => (bnd (t90 (v1, ())) fun r2 => (cond (!r2.1.1)
 (kk ((c.1.1, (c.1.2.1, (c.1.2.2.1, ()))), ()) (.inr (.inl ((false, ()), ()))))
 (cond (ilt (0 : Int) v.1.1)
 (getO c.1.1 (isub .i64 v.1.1 (1 : Int)) fun v3 => (cond (ile v1.1 v3.1)
 (kk ((c.1.1, (c.1.2.1, (c.1.2.2.1, ()))), ()) (.inr (.inl ((false, ()), ()))))
 (kk ((c.1.1, (c.1.2.1, (c.1.2.2.1, ()))), ()) (.inl (((iadd .i64 v.1.1 (1 : Int)), ()), ())))))
 (kk ((c.1.1, (c.1.2.1, (c.1.2.2.1, ()))), ()) (.inl (((iadd .i64 v.1.1 (1 : Int)), ()), ())))))))
 (kk ((c.1.1, (c.1.2.1, (c.1.2.2.1, ()))), ()) (.inr (.inr ((), ())))))
def t64 (x : ((List D62) × Unit)) : Option ((Bool × Unit) × Unit) :=
 (loopF (c := t64l2c) (v := t64l2v) (ex := t64l2e) t64l2 _ ((x.1, (x.1, ((llen x.1), ()))), ()) (((0 : Int), ()), ()) fun c4 o5 =>
 (match o5 with
 | .inl y6 => (some ((y6.1.1, ()), ()))
 | .inr z7 => (some (((ile (llen c4.1.1) (30 : Int)), ()), ()))))
def sg64 : Sig := ⟨ins64, res64, t64⟩
/-! loop.example/g00224/impl.numbersOk -/
abbrev ins65 : List Pm := [.val (.sl (.int .i64))]
abbrev res65 : List (K × Mk) := [(.bool, .s)]
abbrev t65l2c : Desc := ⟨[(0, .v (.sl (.int .i64))), (5, .v (.sl (.int .i64))), (6, .v (.int .i64))], []⟩
abbrev t65l2v : Desc := ⟨[(7, .v (.int .i64))], []⟩
abbrev t65l2e : List (Ek × Desc) := [(.ret, ⟨[(2, .v .bool)], []⟩), (.exit 0, ⟨[], []⟩)]
def t65l2 (R : Type) (c : (((List Int) × (List Int) × Int × Unit) × Unit)) (v : ((Int × Unit) × Unit)) (kk : (((List Int) × (List Int) × Int × Unit) × Unit) → (((Int × Unit) × Unit) ⊕ (((Bool × Unit) × Unit) ⊕ (Unit × Unit))) → Option R) : Option R :=
 (cond (ilt v.1.1 c.1.2.2.1)
 (getO c.1.2.1 v.1.1 fun v1 => (bnd (t58 (v1, ((1 : Int), ((100000 : Int), ())))) fun r2 => (cond (!r2.1.1)
 (kk ((c.1.1, (c.1.2.1, (c.1.2.2.1, ()))), ()) (.inr (.inl ((false, ()), ()))))
 (cond (ilt (0 : Int) v.1.1)
 (getO c.1.1 (isub .i64 v.1.1 (1 : Int)) fun v3 => (cond (ile v1 v3)
 (kk ((c.1.1, (c.1.2.1, (c.1.2.2.1, ()))), ()) (.inr (.inl ((false, ()), ()))))
 (kk ((c.1.1, (c.1.2.1, (c.1.2.2.1, ()))), ()) (.inl (((iadd .i64 v.1.1 (1 : Int)), ()), ())))))
 (kk ((c.1.1, (c.1.2.1, (c.1.2.2.1, ()))), ()) (.inl (((iadd .i64 v.1.1 (1 : Int)), ()), ())))))))
 (kk ((c.1.1, (c.1.2.1, (c.1.2.2.1, ()))), ()) (.inr (.inr ((), ())))))
def t65 (x : ((List Int) × Unit)) : Option ((Bool × Unit) × Unit) :=
 (loopF (c := t65l2c) (v := t65l2v) (ex := t65l2e) t65l2 _ ((x.1, (x.1, ((llen x.1), ()))), ()) (((0 : Int), ()), ()) fun c4 o5 =>
 (match o5 with
 | .inl y6 => (some ((y6.1.1, ()), ()))
 | .inr z7 => (some ((true, ()), ()))))
def sg65 : Sig := ⟨ins65, res65, t65⟩
/-! loop.example/g00224/impl.goodEdit -/
abbrev ins40 : List Pm := [.val kd31]
abbrev res40 : List (K × Mk) := [(.bool, .s)]
def t40 (x : (D31 × Unit)) : Option ((Bool × Unit) × Unit) :=
 (bnd (t63 (x.1.1, (x.1.2.1, ()))) fun r1 => (cond r1.1.1
 (cond (ile (llen x.1.2.2.1) (30 : Int))
 (bnd (t64 (x.1.2.2.2.1, ())) fun r2 => (cond r2.1.1
 (bnd (t65 (x.1.2.2.1, ())) fun r3 => (some ((r3.1.1, ()), ())))
 (some ((false, ()), ()))))
 (some ((false, ()), ())))
 (some ((false, ()), ()))))
def sg40 : Sig := ⟨ins40, res40, t40⟩
/-! loop.example/g00224/impl.ReadEdit -/
abbrev ins13 : List Pm := [.val .str]
abbrev res13 : List (K × Mk) := [(kd31, (.pr .s (.pr .s (.pr (.o .s) (.pr (.o .s) .s))))), (.bool, .s)]
abbrev t13l7c : Desc := ⟨[(2, .ptr 2 []), (4, .ptr 9 []), (5, .ptr 5 []), (23, .v (.int .i64))], [(2, ⟨kd31, (.pr .s (.pr .s (.pr (.o .s) (.pr (.o .s) .s)))), true⟩)]⟩
abbrev t13l7v : Desc := ⟨[(24, .v (.int .i64))], [(5, ⟨kd31, (.pr .s (.pr .s (.pr (.o .s) (.pr (.o .s) .s)))), true⟩), (9, ⟨kd55, .s, true⟩)]⟩
abbrev t13l7e : List (Ek × Desc) := [(.exit 0, ⟨[], [(5, ⟨kd31, (.pr .s (.pr .s (.pr (.o .s) (.pr (.o .s) .s)))), true⟩), (9, ⟨kd55, .s, true⟩)]⟩)]
def t13l7 (R : Type) (c : ((Int × Unit) × (D31 × Unit))) (v : ((Int × Unit) × (D31 × D55 × Unit))) (kk : ((Int × Unit) × (D31 × Unit)) → (((Int × Unit) × (D31 × D55 × Unit)) ⊕ (Unit × (D31 × D55 × Unit))) → Option R) : Option R :=
 (cond (ilt v.1.1 c.1.1)
 (bnd (t34 (v.2.2.1, ())) fun r4 => (req (decide (List.length v.2.1.2.2.1 + List.length [r4.1.1] ≤ 17179869184)) (kk ((c.1.1, ()), (c.2.1, ())) (.inl (((iadd .i64 v.1.1 (1 : Int)), ()), ((v.2.1.1, (v.2.1.2.1, ((v.2.1.2.2.1 ++ [r4.1.1]), v.2.1.2.2.2))), (r4.2.1, ())))))))
 (kk ((c.1.1, ()), (c.2.1, ())) (.inr ((), (v.2.1, (v.2.2.1, ()))))))
abbrev t13l11c : Desc := ⟨[(2, .ptr 2 []), (4, .ptr 9 []), (5, .ptr 5 []), (36, .v (.int .i64))], [(2, ⟨kd31, (.pr .s (.pr .s (.pr (.o .s) (.pr (.o .s) .s)))), true⟩)]⟩
abbrev t13l11v : Desc := ⟨[(37, .v (.int .i64))], [(5, ⟨kd31, (.pr .s (.pr .s (.pr (.o .s) (.pr (.o .s) .s)))), true⟩), (9, ⟨kd55, .s, true⟩)]⟩
abbrev t13l11e : List (Ek × Desc) := [(.exit 2, ⟨[], [(5, ⟨kd31, (.pr .s (.pr .s (.pr (.o .s) (.pr (.o .s) .s)))), true⟩), (9, ⟨kd55, .s, true⟩)]⟩)]
def t13l11 (R : Type) (c : ((Int × Unit) × (D31 × Unit))) (v : ((Int × Unit) × (D31 × D55 × Unit))) (kk : ((Int × Unit) × (D31 × Unit)) → (((Int × Unit) × (D31 × D55 × Unit)) ⊕ (Unit × (D31 × D55 × Unit))) → Option R) : Option R :=
 (cond (ilt v.1.1 c.1.1)
 (bnd (t34 (v.2.2.1, ())) fun r8 => (bnd (t34 (r8.2.1, ())) fun r9 => (bnd (t36 (r9.2.1, ())) fun r10 => (bnd (t36 (r10.2.1, ())) fun r11 => (req (decide (List.length v.2.1.2.2.2.1 + List.length [(r8.1.1, (r9.1.1, (r10.1.1, (r11.1.1, ()))))] ≤ 17179869184)) (kk ((c.1.1, ()), (c.2.1, ())) (.inl (((iadd .i64 v.1.1 (1 : Int)), ()), ((v.2.1.1, (v.2.1.2.1, (v.2.1.2.2.1, ((v.2.1.2.2.2.1 ++ [(r8.1.1, (r9.1.1, (r10.1.1, (r11.1.1, ()))))]), v.2.1.2.2.2.2)))), (r11.2.1, ()))))))))))
 (kk ((c.1.1, ()), (c.2.1, ())) (.inr ((), (v.2.1, (v.2.2.1, ()))))))
def t13 (x : (ByteArray × Unit)) : Option ((D31 × Bool × Unit) × Unit) :=
 (cond (ilt (1000 : Int) (slen x.1))
 (some ((((0 : Int), ((0 : Int), (([] : List Int), (([] : List D62), ())))), (false, ())), ()))
 (bnd (t34 ((x.1, (false, ())), ())) fun r1 => (bnd (t34 (r1.2.1, ())) fun r2 => (bnd (t34 (r2.2.1, ())) fun r3 => (loopF (c := t13l7c) (v := t13l7v) (ex := t13l7e) t13l7 _ (((imin r3.1.1 (31 : Int)), ()), (((0 : Int), ((0 : Int), (([] : List Int), (([] : List D62), ())))), ())) (((0 : Int), ()), ((r1.1.1, (r2.1.1, (([] : List Int), (([] : List D62), ())))), (r3.2.1, ()))) fun c5 o6 =>
 (bnd (t34 (o6.2.2.1, ())) fun r7 => (loopF (c := t13l11c) (v := t13l11v) (ex := t13l11e) t13l11 _ (((imin r7.1.1 (31 : Int)), ()), (c5.2.1, ())) (((0 : Int), ()), (o6.2.1, (r7.2.1, ()))) fun c12 o13 =>
 (bnd (t37 (o13.2.2.1, ())) fun r14 => (cond (!r14.1.1)
 (some ((((0 : Int), ((0 : Int), (([] : List Int), (([] : List D62), ())))), (false, ())), ()))
 (bnd (t40 (o13.2.1, ())) fun r15 => (cond (!r15.1.1)
 (some ((((0 : Int), ((0 : Int), (([] : List Int), (([] : List D62), ())))), (false, ())), ()))
 (some ((o13.2.1, (true, ())), ())))))))))))))
def sg13 : Sig := ⟨ins13, res13, t13⟩
/-! loop.example/g00224/laws.eqIntS -/
abbrev ins21 : List Pm := [.val (.sl (.int .i64)), .val (.sl (.int .i64))]
abbrev res21 : List (K × Mk) := [(.bool, .s)]
abbrev t21l4c : Desc := ⟨[(0, .v (.sl (.int .i64))), (1, .v (.sl (.int .i64)))], []⟩
abbrev t21l4v : Desc := ⟨[(5, .v (.int .i64))], []⟩
abbrev t21l4e : List (Ek × Desc) := [(.ret, ⟨[(4, .v .bool)], []⟩), (.exit 0, ⟨[], []⟩)]
def t21l4 (R : Type) (c : (((List Int) × (List Int) × Unit) × Unit)) (v : ((Int × Unit) × Unit)) (kk : (((List Int) × (List Int) × Unit) × Unit) → (((Int × Unit) × Unit) ⊕ (((Bool × Unit) × Unit) ⊕ (Unit × Unit))) → Option R) : Option R :=
 (cond (ilt v.1.1 (llen c.1.1))
 (getO c.1.1 v.1.1 fun v1 => (getO c.1.2.1 v.1.1 fun v2 => (cond (!ieq v1 v2)
 (kk ((c.1.1, (c.1.2.1, ())), ()) (.inr (.inl ((false, ()), ()))))
 (kk ((c.1.1, (c.1.2.1, ())), ()) (.inl (((iadd .i64 v.1.1 (1 : Int)), ()), ()))))))
 (kk ((c.1.1, (c.1.2.1, ())), ()) (.inr (.inr ((), ())))))
def t21 (x : ((List Int) × (List Int) × Unit)) : Option ((Bool × Unit) × Unit) :=
 (cond (!ieq (llen x.1) (llen x.2.1))
 (some ((false, ()), ()))
 (loopF (c := t21l4c) (v := t21l4v) (ex := t21l4e) t21l4 _ ((x.1, (x.2.1, ())), ()) (((0 : Int), ()), ()) fun c3 o4 =>
 (match o4 with
 | .inl y5 => (some ((y5.1.1, ()), ()))
 | .inr z6 => (some ((true, ()), ())))))
def sg21 : Sig := ⟨ins21, res21, t21⟩
/-! loop.example/g00224/laws.eqMeta -/
abbrev ins66 : List Pm := [.val kd62, .val kd62]
abbrev res66 : List (K × Mk) := [(.bool, .s)]
def t66 (x : (D62 × D62 × Unit)) : Option ((Bool × Unit) × Unit) :=
 (cond (!ieq x.1.1 x.2.1.1)
 (some ((false, ()), ()))
 (cond (!ieq x.1.2.1 x.2.1.2.1)
 (some ((false, ()), ()))
 (cond (!seq x.1.2.2.1 x.2.1.2.2.1)
 (some ((false, ()), ()))
 (cond (!seq x.1.2.2.2.1 x.2.1.2.2.2.1)
 (some ((false, ()), ()))
 (some ((true, ()), ()))))))
def sg66 : Sig := ⟨ins66, res66, t66⟩
/-! loop.example/g00224/laws.eqMetaS -/
abbrev ins41 : List Pm := [.val (.sl kd62), .val (.sl kd62)]
abbrev res41 : List (K × Mk) := [(.bool, .s)]
abbrev t41l4c : Desc := ⟨[(0, .v (.sl kd62)), (1, .v (.sl kd62))], []⟩
abbrev t41l4v : Desc := ⟨[(5, .v (.int .i64))], []⟩
abbrev t41l4e : List (Ek × Desc) := [(.ret, ⟨[(4, .v .bool)], []⟩), (.exit 0, ⟨[], []⟩)]
def t41l4 (R : Type) (c : (((List D62) × (List D62) × Unit) × Unit)) (v : ((Int × Unit) × Unit)) (kk : (((List D62) × (List D62) × Unit) × Unit) → (((Int × Unit) × Unit) ⊕ (((Bool × Unit) × Unit) ⊕ (Unit × Unit))) → Option R) : Option R :=
 (cond (ilt v.1.1 (llen c.1.1))
 (getO c.1.1 v.1.1 fun v1 => (getO c.1.2.1 v.1.1 fun v2 => (bnd (t66 (v1, (v2, ()))) fun r3 => (cond (!r3.1.1)
 (kk ((c.1.1, (c.1.2.1, ())), ()) (.inr (.inl ((false, ()), ()))))
 (kk ((c.1.1, (c.1.2.1, ())), ()) (.inl (((iadd .i64 v.1.1 (1 : Int)), ()), ())))))))
 (kk ((c.1.1, (c.1.2.1, ())), ()) (.inr (.inr ((), ())))))
def t41 (x : ((List D62) × (List D62) × Unit)) : Option ((Bool × Unit) × Unit) :=
 (cond (!ieq (llen x.1) (llen x.2.1))
 (some ((false, ()), ()))
 (loopF (c := t41l4c) (v := t41l4v) (ex := t41l4e) t41l4 _ ((x.1, (x.2.1, ())), ()) (((0 : Int), ()), ()) fun c4 o5 =>
 (match o5 with
 | .inl y6 => (some ((y6.1.1, ()), ()))
 | .inr z7 => (some ((true, ()), ())))))
def sg41 : Sig := ⟨ins41, res41, t41⟩
/-! loop.example/g00224/laws.eqEdit -/
abbrev ins14 : List Pm := [.val kd31, .val kd31]
abbrev res14 : List (K × Mk) := [(.bool, .s)]
def t14 (x : (D31 × D31 × Unit)) : Option ((Bool × Unit) × Unit) :=
 (cond (!ieq x.1.1 x.2.1.1)
 (some ((false, ()), ()))
 (cond (!ieq x.1.2.1 x.2.1.2.1)
 (some ((false, ()), ()))
 (bnd (t21 (x.1.2.2.1, (x.2.1.2.2.1, ()))) fun r1 => (cond (!r1.1.1)
 (some ((false, ()), ()))
 (bnd (t41 (x.1.2.2.2.1, (x.2.1.2.2.2.1, ()))) fun r2 => (cond (!r2.1.1)
 (some ((false, ()), ()))
 (some ((true, ()), ()))))))))
def sg14 : Sig := ⟨ins14, res14, t14⟩
/-! loop.example/g00224/laws.markIntS -/
abbrev ins22 : List Pm := [.chg (.sl (.int .i64)) (.o .s), .val (.int .i64)]
abbrev res22 : List (K × Mk) := [((.int .i64), .s)]
abbrev t22l2c : Desc := ⟨[(0, .al 0 [])], []⟩
abbrev t22l2v : Desc := ⟨[(1, .v (.int .i64)), (5, .v (.int .i64))], [(0, ⟨(.sl (.int .i64)), (.o .s), false⟩)]⟩
abbrev t22l2e : List (Ek × Desc) := [(.exit 0, ⟨[(1, .v (.int .i64))], [(0, ⟨(.sl (.int .i64)), (.o .s), false⟩)]⟩)]
def t22l2 (R : Type) (c : (Unit × Unit)) (v : ((Int × Int × Unit) × ((List Int) × Unit))) (kk : (Unit × Unit) → (((Int × Int × Unit) × ((List Int) × Unit)) ⊕ ((Int × Unit) × ((List Int) × Unit))) → Option R) : Option R :=
 (cond (ilt v.1.2.1 (llen v.2.1))
 (getO v.2.1 v.1.2.1 fun _ => (bnd (v.2.1[(Int.toNat v.1.2.1)]?) fun v2 => (kk ((), ()) (.inl (((iadd .i64 v.1.1 (1 : Int)), ((iadd .i64 v.1.2.1 (1 : Int)), ())), ((List.set v.2.1 (Int.toNat v.1.2.1) v.1.1), ()))))))
 (kk ((), ()) (.inr ((v.1.1, ()), (v.2.1, ())))))
def t22 (x : ((List Int) × Int × Unit)) : Option ((Int × Unit) × ((List Int) × Unit)) :=
 (loopF (c := t22l2c) (v := t22l2v) (ex := t22l2e) t22l2 _ ((), ()) ((x.2.1, ((0 : Int), ())), (x.1, ())) fun c3 o4 =>
 (some ((o4.1.1, ()), (o4.2.1, ()))))
def sg22 : Sig := ⟨ins22, res22, t22⟩
/-! loop.example/g00224/laws.markText -/
abbrev ins48 : List Pm := [.val (.int .i64)]
abbrev res48 : List (K × Mk) := [(.str, .s)]
abbrev t48l4c : Desc := ⟨[], []⟩
abbrev t48l4v : Desc := ⟨[(0, .v (.int .i64)), (3, .v .str)], []⟩
abbrev t48l4e : List (Ek × Desc) := [(.exit 0, ⟨[(3, .v .str)], []⟩)]
def t48l4 (R : Type) (c : (Unit × Unit)) (v : ((Int × ByteArray × Unit) × Unit)) (kk : (Unit × Unit) → (((Int × ByteArray × Unit) × Unit) ⊕ ((ByteArray × Unit) × Unit)) → Option R) : Option R :=
 (cond (ilt (0 : Int) v.1.1)
 (catO (strOf [(IntKind.wrap .u8 (iadd .i64 (48 : Int) (irem .i64 v.1.1 (10 : Int))))]) v.1.2.1 fun v1 => (kk ((), ()) (.inl (((iquo .i64 v.1.1 (10 : Int)), (v1, ())), ()))))
 (kk ((), ()) (.inr ((v.1.2.1, ()), ()))))
def t48 (x : (Int × Unit)) : Option ((ByteArray × Unit) × Unit) :=
 (cond (ile x.1 (0 : Int))
 (some (((⟨#[109, 48]⟩ : ByteArray), ()), ()))
 (loopF (c := t48l4c) (v := t48l4v) (ex := t48l4e) t48l4 _ ((), ()) ((x.1, ((⟨#[]⟩ : ByteArray), ())), ()) fun c2 o3 =>
 (catO (⟨#[109]⟩ : ByteArray) o3.1.1 fun v4 => (some ((v4, ()), ())))))
def sg48 : Sig := ⟨ins48, res48, t48⟩
/-! loop.example/g00224/laws.markMetaS -/
abbrev ins42 : List Pm := [.chg (.sl kd62) (.o .s), .val (.int .i64)]
abbrev res42 : List (K × Mk) := [((.int .i64), .s)]
abbrev t42l2c : Desc := ⟨[(0, .al 0 [])], []⟩
abbrev t42l2v : Desc := ⟨[(1, .v (.int .i64)), (5, .v (.int .i64))], [(0, ⟨(.sl kd62), (.o .s), false⟩)]⟩
abbrev t42l2e : List (Ek × Desc) := [(.exit 0, ⟨[(1, .v (.int .i64))], [(0, ⟨(.sl kd62), (.o .s), false⟩)]⟩)]
def t42l2 (R : Type) (c : (Unit × Unit)) (v : ((Int × Int × Unit) × ((List D62) × Unit))) (kk : (Unit × Unit) → (((Int × Int × Unit) × ((List D62) × Unit)) ⊕ ((Int × Unit) × ((List D62) × Unit))) → Option R) : Option R :=
 (cond (ilt v.1.2.1 (llen v.2.1))
 (getO v.2.1 v.1.2.1 fun _ => (bnd (v.2.1[(Int.toNat v.1.2.1)]?) fun v2 => (bnd (v.2.1[(Int.toNat v.1.2.1)]?) fun v3 => (getO (List.set v.2.1 (Int.toNat v.1.2.1) (v.1.1, v3.2)) v.1.2.1 fun _ => (bnd ((List.set v.2.1 (Int.toNat v.1.2.1) (v.1.1, v3.2))[(Int.toNat v.1.2.1)]?) fun v5 => (bnd ((List.set v.2.1 (Int.toNat v.1.2.1) (v.1.1, v3.2))[(Int.toNat v.1.2.1)]?) fun v6 => (bnd (t48 ((iadd .i64 (iadd .i64 v.1.1 (1 : Int)) (1 : Int)), ())) fun r7 => (getO (List.set (List.set v.2.1 (Int.toNat v.1.2.1) (v.1.1, v3.2)) (Int.toNat v.1.2.1) (v6.1, ((iadd .i64 v.1.1 (1 : Int)), v6.2.2))) v.1.2.1 fun _ => (bnd ((List.set (List.set v.2.1 (Int.toNat v.1.2.1) (v.1.1, v3.2)) (Int.toNat v.1.2.1) (v6.1, ((iadd .i64 v.1.1 (1 : Int)), v6.2.2)))[(Int.toNat v.1.2.1)]?) fun v9 => (bnd ((List.set (List.set v.2.1 (Int.toNat v.1.2.1) (v.1.1, v3.2)) (Int.toNat v.1.2.1) (v6.1, ((iadd .i64 v.1.1 (1 : Int)), v6.2.2)))[(Int.toNat v.1.2.1)]?) fun v10 => (bnd (t48 ((iadd .i64 (iadd .i64 (iadd .i64 v.1.1 (1 : Int)) (1 : Int)) (1 : Int)), ())) fun r11 => (getO (List.set (List.set (List.set v.2.1 (Int.toNat v.1.2.1) (v.1.1, v3.2)) (Int.toNat v.1.2.1) (v6.1, ((iadd .i64 v.1.1 (1 : Int)), v6.2.2))) (Int.toNat v.1.2.1) (v10.1, (v10.2.1, (r7.1.1, v10.2.2.2)))) v.1.2.1 fun _ => (bnd ((List.set (List.set (List.set v.2.1 (Int.toNat v.1.2.1) (v.1.1, v3.2)) (Int.toNat v.1.2.1) (v6.1, ((iadd .i64 v.1.1 (1 : Int)), v6.2.2))) (Int.toNat v.1.2.1) (v10.1, (v10.2.1, (r7.1.1, v10.2.2.2))))[(Int.toNat v.1.2.1)]?) fun v13 => (bnd ((List.set (List.set (List.set v.2.1 (Int.toNat v.1.2.1) (v.1.1, v3.2)) (Int.toNat v.1.2.1) (v6.1, ((iadd .i64 v.1.1 (1 : Int)), v6.2.2))) (Int.toNat v.1.2.1) (v10.1, (v10.2.1, (r7.1.1, v10.2.2.2))))[(Int.toNat v.1.2.1)]?) fun v14 => (kk ((), ()) (.inl (((iadd .i64 (iadd .i64 (iadd .i64 (iadd .i64 v.1.1 (1 : Int)) (1 : Int)) (1 : Int)) (1 : Int)), ((iadd .i64 v.1.2.1 (1 : Int)), ())), ((List.set (List.set (List.set (List.set v.2.1 (Int.toNat v.1.2.1) (v.1.1, v3.2)) (Int.toNat v.1.2.1) (v6.1, ((iadd .i64 v.1.1 (1 : Int)), v6.2.2))) (Int.toNat v.1.2.1) (v10.1, (v10.2.1, (r7.1.1, v10.2.2.2)))) (Int.toNat v.1.2.1) (v14.1, (v14.2.1, (v14.2.2.1, (r11.1.1, v14.2.2.2.2))))), ()))))))))))))))))))
 (kk ((), ()) (.inr ((v.1.1, ()), (v.2.1, ())))))
def t42 (x : ((List D62) × Int × Unit)) : Option ((Int × Unit) × ((List D62) × Unit)) :=
 (loopF (c := t42l2c) (v := t42l2v) (ex := t42l2e) t42l2 _ ((), ()) ((x.2.1, ((0 : Int), ())), (x.1, ())) fun c15 o16 =>
 (some ((o16.1.1, ()), (o16.2.1, ()))))
def sg42 : Sig := ⟨ins42, res42, t42⟩
/-! loop.example/g00224/laws.markEdit -/
abbrev ins15 : List Pm := [.chg kd31 (.pr .s (.pr .s (.pr (.o .s) (.pr (.o .s) .s)))), .val (.int .i64)]
abbrev res15 : List (K × Mk) := [((.int .i64), .s)]
def t15 (x : (D31 × Int × Unit)) : Option ((Int × Unit) × (D31 × Unit)) :=
 (bnd (t22 (x.1.2.2.1, (x.2.1, ()))) fun r1 => (bnd (t42 (x.1.2.2.2.1, (r1.1.1, ()))) fun r2 => (some ((r2.1.1, ()), ((x.1.1, (x.1.2.1, (r1.2.1, (r2.2.1, x.1.2.2.2.2)))), ())))))
def sg15 : Sig := ⟨ins15, res15, t15⟩
/-! loop.example/g00224/laws.heldIntS -/
abbrev ins23 : List Pm := [.val (.sl (.int .i64)), .val (.int .i64)]
abbrev res23 : List (K × Mk) := [((.int .i64), .s)]
abbrev t23l2c : Desc := ⟨[(0, .v (.sl (.int .i64)))], []⟩
abbrev t23l2v : Desc := ⟨[(1, .v (.int .i64)), (5, .v (.int .i64))], []⟩
abbrev t23l2e : List (Ek × Desc) := [(.ret, ⟨[(4, .v (.int .i64))], []⟩), (.exit 0, ⟨[(1, .v (.int .i64))], []⟩)]
def t23l2 (R : Type) (c : (((List Int) × Unit) × Unit)) (v : ((Int × Int × Unit) × Unit)) (kk : (((List Int) × Unit) × Unit) → (((Int × Int × Unit) × Unit) ⊕ (((Int × Unit) × Unit) ⊕ ((Int × Unit) × Unit))) → Option R) : Option R :=
 (cond (ilt v.1.2.1 (llen c.1.1))
 (getO c.1.1 v.1.2.1 fun v1 => (cond (!ieq v1 v.1.1)
 (kk ((c.1.1, ()), ()) (.inr (.inl (((-1 : Int), ()), ()))))
 (kk ((c.1.1, ()), ()) (.inl (((iadd .i64 v.1.1 (1 : Int)), ((iadd .i64 v.1.2.1 (1 : Int)), ())), ())))))
 (kk ((c.1.1, ()), ()) (.inr (.inr ((v.1.1, ()), ())))))
def t23 (x : ((List Int) × Int × Unit)) : Option ((Int × Unit) × Unit) :=
 (loopF (c := t23l2c) (v := t23l2v) (ex := t23l2e) t23l2 _ ((x.1, ()), ()) ((x.2.1, ((0 : Int), ())), ()) fun c2 o3 =>
 (match o3 with
 | .inl y4 => (some ((y4.1.1, ()), ()))
 | .inr z5 => (some ((z5.1.1, ()), ()))))
def sg23 : Sig := ⟨ins23, res23, t23⟩
/-! loop.example/g00224/laws.heldMetaS -/
abbrev ins43 : List Pm := [.val (.sl kd62), .val (.int .i64)]
abbrev res43 : List (K × Mk) := [((.int .i64), .s)]
abbrev t43l2c : Desc := ⟨[(0, .v (.sl kd62))], []⟩
abbrev t43l2v : Desc := ⟨[(1, .v (.int .i64)), (5, .v (.int .i64))], []⟩
abbrev t43l2e : List (Ek × Desc) := [(.ret, ⟨[(4, .v (.int .i64))], []⟩), (.exit 0, ⟨[(1, .v (.int .i64))], []⟩)]
def t43l2 (R : Type) (c : (((List D62) × Unit) × Unit)) (v : ((Int × Int × Unit) × Unit)) (kk : (((List D62) × Unit) × Unit) → (((Int × Int × Unit) × Unit) ⊕ (((Int × Unit) × Unit) ⊕ ((Int × Unit) × Unit))) → Option R) : Option R :=
 (cond (ilt v.1.2.1 (llen c.1.1))
 (getO c.1.1 v.1.2.1 fun v1 => (cond (!ieq v1.1 v.1.1)
 (kk ((c.1.1, ()), ()) (.inr (.inl (((-1 : Int), ()), ()))))
 (getO c.1.1 v.1.2.1 fun v2 => (cond (!ieq v2.2.1 (iadd .i64 v.1.1 (1 : Int)))
 (kk ((c.1.1, ()), ()) (.inr (.inl (((-1 : Int), ()), ()))))
 (getO c.1.1 v.1.2.1 fun v3 => (bnd (t48 ((iadd .i64 (iadd .i64 v.1.1 (1 : Int)) (1 : Int)), ())) fun r4 => (cond (!seq v3.2.2.1 r4.1.1)
 (kk ((c.1.1, ()), ()) (.inr (.inl (((-1 : Int), ()), ()))))
 (getO c.1.1 v.1.2.1 fun v5 => (bnd (t48 ((iadd .i64 (iadd .i64 (iadd .i64 v.1.1 (1 : Int)) (1 : Int)) (1 : Int)), ())) fun r6 => (cond (!seq v5.2.2.2.1 r6.1.1)
 (kk ((c.1.1, ()), ()) (.inr (.inl (((-1 : Int), ()), ()))))
 (kk ((c.1.1, ()), ()) (.inl (((iadd .i64 (iadd .i64 (iadd .i64 (iadd .i64 v.1.1 (1 : Int)) (1 : Int)) (1 : Int)) (1 : Int)), ((iadd .i64 v.1.2.1 (1 : Int)), ())), ())))))))))))))
 (kk ((c.1.1, ()), ()) (.inr (.inr ((v.1.1, ()), ())))))
def t43 (x : ((List D62) × Int × Unit)) : Option ((Int × Unit) × Unit) :=
 (loopF (c := t43l2c) (v := t43l2v) (ex := t43l2e) t43l2 _ ((x.1, ()), ()) ((x.2.1, ((0 : Int), ())), ()) fun c7 o8 =>
 (match o8 with
 | .inl y9 => (some ((y9.1.1, ()), ()))
 | .inr z10 => (some ((z10.1.1, ()), ()))))
def sg43 : Sig := ⟨ins43, res43, t43⟩
/-! loop.example/g00224/laws.heldEdit -/
abbrev ins16 : List Pm := [.val kd31, .val (.int .i64)]
abbrev res16 : List (K × Mk) := [((.int .i64), .s)]
def t16 (x : (D31 × Int × Unit)) : Option ((Int × Unit) × Unit) :=
 (bnd (t23 (x.1.2.2.1, (x.2.1, ()))) fun r1 => (cond (ilt r1.1.1 (0 : Int))
 (some (((-1 : Int), ()), ()))
 (bnd (t43 (x.1.2.2.2.1, (r1.1.1, ()))) fun r2 => (cond (ilt r2.1.1 (0 : Int))
 (some (((-1 : Int), ()), ()))
 (some ((r2.1.1, ()), ()))))))
def sg16 : Sig := ⟨ins16, res16, t16⟩
/-! loop.example/g00224/laws.FnExactReadEdit -/
abbrev ins4 : List Pm := [.val .str]
abbrev res4 : List (K × Mk) := [(.bool, .s)]
def t4 (x : (ByteArray × Unit)) : Option ((Bool × Unit) × Unit) :=
 (cond (ilt (1048576 : Int) (slen x.1))
 (some ((true, ()), ()))
 (bnd (t12 (x.1, ())) fun r1 => (bnd (t13 (x.1, ())) fun r2 => (bnd (t14 (r2.1.1, (r1.1.1, ()))) fun r3 => (cond (!r3.1.1)
 (some ((false, ()), ()))
 (cond (!beqB r2.1.2.1 r1.1.2.1)
 (some ((false, ()), ()))
 (bnd (t15 (r2.1.1, ((1 : Int), ()))) fun r4 => (bnd (t16 (r4.2.1, ((1 : Int), ()))) fun r5 => (cond (ilt r5.1.1 (0 : Int))
 (some ((false, ()), ()))
 (cond (!ieq r5.1.1 r4.1.1)
 (some ((false, ()), ()))
 (bnd (t13 (x.1, ())) fun r6 => (bnd (t14 (r6.1.1, (r1.1.1, ()))) fun r7 => (cond (!r7.1.1)
 (some ((false, ()), ()))
 (cond (!beqB r6.1.2.1 r1.1.2.1)
 (some ((false, ()), ()))
 (bnd (t16 (r4.2.1, ((1 : Int), ()))) fun r8 => (cond (ilt r8.1.1 (0 : Int))
 (some ((false, ()), ()))
 (cond (!ieq r8.1.1 r4.1.1)
 (some ((false, ()), ()))
 (some ((true, ()), ())))))))))))))))))))
def sg4 : Sig := ⟨ins4, res4, t4⟩
/-! loop.example/g00224/spec.l2Table -/
abbrev ins92 : List Pm := []
abbrev res92 : List (K × Mk) := [((.sl (.int .u32)), (.o .s))]
abbrev t92i12c : Desc := ⟨[(1, .al 1 []), (2, .v (.int .i64)), (4, .v (.int .i64)), (8, .v (.int .i64)), (9, .v (.int .i64)), (23, .v .bool)], [(1, ⟨(.sl (.int .u32)), (.o .s), false⟩)]⟩
abbrev t92i12v : Desc := ⟨[(3, .v (.int .u32))], []⟩
abbrev t92i12e : List (Ek × Desc) := [(.norm, ⟨[(3, .v (.int .u32))], []⟩)]
def t92i12 (R : Type) (c : ((Int × Int × Int × Int × Bool × Unit) × ((List Int) × Unit))) (v : ((Int × Unit) × Unit)) (kk : ((Int × Int × Int × Int × Bool × Unit) × ((List Int) × Unit)) → ((Int × Unit) × Unit) → Option R) : Option R :=
 (cond c.1.2.2.2.2.1
 (kk ((c.1.1, (c.1.2.1, (c.1.2.2.1, (c.1.2.2.2.1, (c.1.2.2.2.2.1, ()))))), (c.2.1, ())) (((ixor .u32 v.1.1 (2197175160 : Int)), ()), ()))
 (kk ((c.1.1, (c.1.2.1, (c.1.2.2.1, (c.1.2.2.2.1, (c.1.2.2.2.2.1, ()))))), (c.2.1, ())) ((v.1.1, ()), ())))
abbrev t92l7c : Desc := ⟨[(1, .al 1 [])], []⟩
abbrev t92l7v : Desc := ⟨[(2, .v (.int .i64)), (3, .v (.int .u32)), (4, .v (.int .i64)), (8, .v (.int .i64)), (9, .v (.int .i64))], [(1, ⟨(.sl (.int .u32)), (.o .s), false⟩)]⟩
abbrev t92l7e : List (Ek × Desc) := [(.exit 2, ⟨[(2, .v (.int .i64)), (3, .v (.int .u32)), (8, .v (.int .i64)), (9, .v (.int .i64))], [(1, ⟨(.sl (.int .u32)), (.o .s), false⟩)]⟩)]
def t92l7 (R : Type) (c : (Unit × Unit)) (v : ((Int × Int × Int × Int × Int × Unit) × ((List Int) × Unit))) (kk : (Unit × Unit) → (((Int × Int × Int × Int × Int × Unit) × ((List Int) × Unit)) ⊕ ((Int × Int × Int × Int × Unit) × ((List Int) × Unit))) → Option R) : Option R :=
 (cond (ilt v.1.2.2.1 (8 : Int))
 (t92i12 _ ((v.1.1, (v.1.2.2.1, (v.1.2.2.2.1, (v.1.2.2.2.2.1, ((ieq (iand .u32 v.1.2.1 (1 : Int)) (1 : Int)), ()))))), (v.2.1, ())) (((ishr .u32 v.1.2.1 (1 : Int)), ()), ()) fun c1 o2 =>
 (kk ((), ()) (.inl ((c1.1.1, (o2.1.1, ((iadd .i64 c1.1.2.1 (1 : Int)), (c1.1.2.2.1, (c1.1.2.2.2.1, ()))))), (c1.2.1, ())))))
 (kk ((), ()) (.inr ((v.1.1, (v.1.2.1, (v.1.2.2.2.1, (v.1.2.2.2.2.1, ())))), (v.2.1, ())))))
abbrev t92l3c : Desc := ⟨[(1, .al 1 [])], []⟩
abbrev t92l3v : Desc := ⟨[(8, .v (.int .i64)), (9, .v (.int .i64))], [(1, ⟨(.sl (.int .u32)), (.o .s), false⟩)]⟩
abbrev t92l3e : List (Ek × Desc) := [(.exit 0, ⟨[], [(1, ⟨(.sl (.int .u32)), (.o .s), false⟩)]⟩)]
def t92l3 (R : Type) (c : (Unit × Unit)) (v : ((Int × Int × Unit) × ((List Int) × Unit))) (kk : (Unit × Unit) → (((Int × Int × Unit) × ((List Int) × Unit)) ⊕ (Unit × ((List Int) × Unit))) → Option R) : Option R :=
 (cond (ilt v.1.2.1 v.1.1)
 (loopF (c := t92l7c) (v := t92l7v) (ex := t92l7e) t92l7 _ ((), ()) ((v.1.2.1, ((IntKind.wrap .u32 v.1.2.1), ((0 : Int), (v.1.1, (v.1.2.1, ()))))), (v.2.1, ())) fun c1 o2 =>
 (getO o2.2.1 o2.1.1 fun _ => (bnd (o2.2.1[(Int.toNat o2.1.1)]?) fun v4 => (kk ((), ()) (.inl ((o2.1.2.2.1, ((iadd .i64 o2.1.2.2.2.1 (1 : Int)), ())), ((List.set o2.2.1 (Int.toNat o2.1.1) o2.1.2.1), ())))))))
 (kk ((), ()) (.inr ((), (v.2.1, ())))))
def t92 (x : Unit) : Option (((List Int) × Unit) × Unit) :=
 (req (decide ((256 : Int) = (256 : Int)) && (decide ((0 : Int) ≤ (256 : Int)) && decide ((256 : Int) ≤ (68719476736 : Int)))) (loopF (c := t92l3c) (v := t92l3v) (ex := t92l3e) t92l3 _ ((), ()) (((llen (List.replicate (Int.toNat (256 : Int)) ((0 : Int) : Int))), ((0 : Int), ())), ((List.replicate (Int.toNat (256 : Int)) ((0 : Int) : Int)), ())) fun c5 o6 =>
 (some ((o6.2.1, ()), ()))))
def sg92 : Sig := ⟨ins92, res92, t92⟩
/-! loop.example/g00224/spec.l2On -/
abbrev ins91 : List Pm := [.val (.sl (.int .u32)), .val (.int .u32), .val .str]
abbrev res91 : List (K × Mk) := [((.int .u32), .s)]
abbrev t91l2c : Desc := ⟨[(0, .v (.sl (.int .u32))), (2, .v .str)], []⟩
abbrev t91l2v : Desc := ⟨[(1, .v (.int .u32)), (7, .v (.int .i64))], []⟩
abbrev t91l2e : List (Ek × Desc) := [(.exit 0, ⟨[(1, .v (.int .u32))], []⟩)]
def t91l2 (R : Type) (c : (((List Int) × ByteArray × Unit) × Unit)) (v : ((Int × Int × Unit) × Unit)) (kk : (((List Int) × ByteArray × Unit) × Unit) → (((Int × Int × Unit) × Unit) ⊕ ((Int × Unit) × Unit)) → Option R) : Option R :=
 (cond (ilt v.1.2.1 (slen c.1.2.1))
 (getB c.1.2.1 v.1.2.1 fun v1 => (getO c.1.1 (ixor .u8 (IntKind.wrap .u8 v.1.1) v1) fun v2 => (kk ((c.1.1, (c.1.2.1, ())), ()) (.inl (((ixor .u32 v2 (ishr .u32 v.1.1 (8 : Int))), ((iadd .i64 v.1.2.1 (1 : Int)), ())), ())))))
 (kk ((c.1.1, (c.1.2.1, ())), ()) (.inr ((v.1.1, ()), ()))))
def t91 (x : ((List Int) × Int × ByteArray × Unit)) : Option ((Int × Unit) × Unit) :=
 (loopF (c := t91l2c) (v := t91l2v) (ex := t91l2e) t91l2 _ ((x.1, (x.2.2.1, ())), ()) ((x.2.1, ((0 : Int), ())), ()) fun c3 o4 =>
 (some ((o4.1.1, ()), ())))
def sg91 : Sig := ⟨ins91, res91, t91⟩
/-! loop.example/g00224/spec.l2Sum -/
abbrev ins69 : List Pm := [.val .str]
abbrev res69 : List (K × Mk) := [((.int .u32), .s)]
def t69 (x : (ByteArray × Unit)) : Option ((Int × Unit) × Unit) :=
 (bnd (t92 ()) fun r1 => (bnd (t91 (r1.1.1, ((4294967295 : Int), (x.1, ())))) fun r2 => (some (((inot .u32 r2.1.1), ()), ()))))
def sg69 : Sig := ⟨ins69, res69, t69⟩
/-! loop.example/g00224/spec.l2Word -/
abbrev ins68 : List Pm := [.val (.int .u32)]
abbrev res68 : List (K × Mk) := [(.str, .s)]
def t68 (x : (Int × Unit)) : Option ((ByteArray × Unit) × Unit) :=
 (some (((strOf [(IntKind.wrap .u8 x.1), (IntKind.wrap .u8 (ishr .u32 x.1 (8 : Int))), (IntKind.wrap .u8 (ishr .u32 x.1 (16 : Int))), (IntKind.wrap .u8 (ishr .u32 x.1 (24 : Int)))]), ()), ()))
def sg68 : Sig := ⟨ins68, res68, t68⟩
/-! loop.example/g00224/spec.l6Tail -/
abbrev ins45 : List Pm := [.val .str]
abbrev res45 : List (K × Mk) := [(.str, .s), ((.sl (.int .i64)), (.o .s)), (.bool, .s)]
abbrev t45l10c : Desc := ⟨[(0, .v .str), (5, .v (.int .i64)), (7, .v (.int .i64)), (8, .al 8 [])], []⟩
abbrev t45l10v : Desc := ⟨[(9, .v (.int .i64))], [(8, ⟨(.sl (.int .i64)), (.o .s), false⟩)]⟩
abbrev t45l10e : List (Ek × Desc) := [(.exit 0, ⟨[], [(8, ⟨(.sl (.int .i64)), (.o .s), false⟩)]⟩)]
def t45l10 (R : Type) (c : ((ByteArray × Int × Int × Unit) × Unit)) (v : ((Int × Unit) × ((List Int) × Unit))) (kk : ((ByteArray × Int × Int × Unit) × Unit) → (((Int × Unit) × ((List Int) × Unit)) ⊕ (Unit × ((List Int) × Unit))) → Option R) : Option R :=
 (cond (ilt v.1.1 c.1.2.1)
 (getB c.1.1 v.1.1 fun v5 => (getB c.1.1 (iadd .i64 v.1.1 (1 : Int)) fun v6 => (req (decide (List.length v.2.1 + List.length [(ior .i64 (IntKind.wrap .i64 v5) (ishl .i64 (IntKind.wrap .i64 v6) (8 : Int)))] ≤ 17179869184)) (kk ((c.1.1, (c.1.2.1, (c.1.2.2.1, ()))), ()) (.inl (((iadd .i64 v.1.1 (2 : Int)), ()), ((v.2.1 ++ [(ior .i64 (IntKind.wrap .i64 v5) (ishl .i64 (IntKind.wrap .i64 v6) (8 : Int)))]), ())))))))
 (kk ((c.1.1, (c.1.2.1, (c.1.2.2.1, ()))), ()) (.inr ((), (v.2.1, ())))))
def t45 (x : (ByteArray × Unit)) : Option ((ByteArray × (List Int) × Bool × Unit) × Unit) :=
 (cond (ilt (isub .i64 (slen x.1) (6 : Int)) (0 : Int))
 (some (((⟨#[]⟩ : ByteArray), (([] : List Int), (false, ()))), ()))
 (req (decide ((0 : Int) ≤ (iadd .i64 (isub .i64 (slen x.1) (6 : Int)) (2 : Int))) && decide ((iadd .i64 (isub .i64 (slen x.1) (6 : Int)) (2 : Int)) ≤ ((ByteArray.size x.1) : Int))) (bnd (t69 ((ByteArray.extract x.1 (0 : Nat) (Int.toNat (iadd .i64 (isub .i64 (slen x.1) (6 : Int)) (2 : Int)))), ())) fun r1 => (bnd (t68 (r1.1.1, ())) fun r2 => (req (decide ((0 : Int) ≤ (iadd .i64 (isub .i64 (slen x.1) (6 : Int)) (2 : Int))) && decide ((iadd .i64 (isub .i64 (slen x.1) (6 : Int)) (2 : Int)) ≤ ((ByteArray.size x.1) : Int))) (cond (!seq r2.1.1 (ByteArray.extract x.1 (Int.toNat (iadd .i64 (isub .i64 (slen x.1) (6 : Int)) (2 : Int))) (ByteArray.size x.1)))
 (some (((⟨#[]⟩ : ByteArray), (([] : List Int), (false, ()))), ()))
 (getB x.1 (isub .i64 (slen x.1) (6 : Int)) fun v3 => (getB x.1 (iadd .i64 (isub .i64 (slen x.1) (6 : Int)) (1 : Int)) fun v4 => (cond (ilt (isub .i64 (isub .i64 (slen x.1) (6 : Int)) (imul .i64 (2 : Int) (ior .i64 (IntKind.wrap .i64 v3) (ishl .i64 (IntKind.wrap .i64 v4) (8 : Int))))) (0 : Int))
 (some (((⟨#[]⟩ : ByteArray), (([] : List Int), (false, ()))), ()))
 (loopF (c := t45l10c) (v := t45l10v) (ex := t45l10e) t45l10 _ ((x.1, ((isub .i64 (slen x.1) (6 : Int)), ((isub .i64 (isub .i64 (slen x.1) (6 : Int)) (imul .i64 (2 : Int) (ior .i64 (IntKind.wrap .i64 v3) (ishl .i64 (IntKind.wrap .i64 v4) (8 : Int))))), ()))), ()) (((isub .i64 (isub .i64 (slen x.1) (6 : Int)) (imul .i64 (2 : Int) (ior .i64 (IntKind.wrap .i64 v3) (ishl .i64 (IntKind.wrap .i64 v4) (8 : Int))))), ()), (([] : List Int), ())) fun c7 o8 =>
 (req (decide ((0 : Int) ≤ c7.1.2.2.1) && decide (c7.1.2.2.1 ≤ ((ByteArray.size c7.1.1) : Int))) (some (((ByteArray.extract c7.1.1 (0 : Nat) (Int.toNat c7.1.2.2.1)), (o8.2.1, (true, ()))), ())))))))))))))
def sg45 : Sig := ⟨ins45, res45, t45⟩
/-! loop.example/g00224/spec.l6Item -/
abbrev ins67 : List Pm := [.val .str, .val .str]
abbrev res67 : List (K × Mk) := [(kd51, .s), ((.int .i64), .s)]
def t67 (x : (ByteArray × ByteArray × Unit)) : Option ((D51 × Int × Unit) × Unit) :=
 (bnd (t84 (x.1, ())) fun r1 => (req (decide ((0 : Int) ≤ r1.1.2.1) && decide (r1.1.2.1 ≤ ((ByteArray.size x.1) : Int))) (bnd (t84 ((ByteArray.extract x.1 (Int.toNat r1.1.2.1) (ByteArray.size x.1)), ())) fun r2 => (req (decide ((0 : Int) ≤ (iadd .i64 r1.1.2.1 r2.1.2.1)) && decide ((iadd .i64 r1.1.2.1 r2.1.2.1) ≤ ((ByteArray.size x.1) : Int))) (bnd (t84 ((ByteArray.extract x.1 (Int.toNat (iadd .i64 r1.1.2.1 r2.1.2.1)) (ByteArray.size x.1)), ())) fun r3 => (req (decide ((0 : Int) ≤ (iadd .i64 (iadd .i64 r1.1.2.1 r2.1.2.1) r3.1.2.1)) && decide ((iadd .i64 (iadd .i64 r1.1.2.1 r2.1.2.1) r3.1.2.1) ≤ ((ByteArray.size x.1) : Int))) (bnd (t84 ((ByteArray.extract x.1 (Int.toNat (iadd .i64 (iadd .i64 r1.1.2.1 r2.1.2.1) r3.1.2.1)) (ByteArray.size x.1)), ())) fun r4 => (cond (ieq r1.1.2.1 (0 : Int))
 (some ((((⟨#[]⟩ : ByteArray), ((0 : Int), ((0 : Int), ((⟨#[]⟩ : ByteArray), ())))), ((0 : Int), ())), ()))
 (cond (ieq r2.1.2.1 (0 : Int))
 (some ((((⟨#[]⟩ : ByteArray), ((0 : Int), ((0 : Int), ((⟨#[]⟩ : ByteArray), ())))), ((0 : Int), ())), ()))
 (cond (ieq r3.1.2.1 (0 : Int))
 (some ((((⟨#[]⟩ : ByteArray), ((0 : Int), ((0 : Int), ((⟨#[]⟩ : ByteArray), ())))), ((0 : Int), ())), ()))
 (cond (ieq r4.1.2.1 (0 : Int))
 (some ((((⟨#[]⟩ : ByteArray), ((0 : Int), ((0 : Int), ((⟨#[]⟩ : ByteArray), ())))), ((0 : Int), ())), ()))
 (cond (ilt (slen x.2.1) r1.1.1)
 (some ((((⟨#[]⟩ : ByteArray), ((0 : Int), ((0 : Int), ((⟨#[]⟩ : ByteArray), ())))), ((0 : Int), ())), ()))
 (cond (ilt (16 : Int) r2.1.1)
 (some ((((⟨#[]⟩ : ByteArray), ((0 : Int), ((0 : Int), ((⟨#[]⟩ : ByteArray), ())))), ((0 : Int), ())), ()))
 (cond (ilt (40 : Int) r4.1.1)
 (some ((((⟨#[]⟩ : ByteArray), ((0 : Int), ((0 : Int), ((⟨#[]⟩ : ByteArray), ())))), ((0 : Int), ())), ()))
 (cond (ilt (slen x.1) (iadd .i64 (iadd .i64 (iadd .i64 (iadd .i64 (iadd .i64 r1.1.2.1 r2.1.2.1) r3.1.2.1) r4.1.2.1) r2.1.1) r4.1.1))
 (some ((((⟨#[]⟩ : ByteArray), ((0 : Int), ((0 : Int), ((⟨#[]⟩ : ByteArray), ())))), ((0 : Int), ())), ()))
 (req (decide ((0 : Int) ≤ r1.1.1) && decide (r1.1.1 ≤ ((ByteArray.size x.2.1) : Int))) (req (decide ((0 : Int) ≤ (iadd .i64 (iadd .i64 (iadd .i64 r1.1.2.1 r2.1.2.1) r3.1.2.1) r4.1.2.1)) && (decide ((iadd .i64 (iadd .i64 (iadd .i64 r1.1.2.1 r2.1.2.1) r3.1.2.1) r4.1.2.1) ≤ (iadd .i64 (iadd .i64 (iadd .i64 (iadd .i64 r1.1.2.1 r2.1.2.1) r3.1.2.1) r4.1.2.1) r2.1.1)) && decide ((iadd .i64 (iadd .i64 (iadd .i64 (iadd .i64 r1.1.2.1 r2.1.2.1) r3.1.2.1) r4.1.2.1) r2.1.1) ≤ ((ByteArray.size x.1) : Int)))) (catO (ByteArray.extract x.2.1 (0 : Nat) (Int.toNat r1.1.1)) (ByteArray.extract x.1 (Int.toNat (iadd .i64 (iadd .i64 (iadd .i64 r1.1.2.1 r2.1.2.1) r3.1.2.1) r4.1.2.1)) (Int.toNat (iadd .i64 (iadd .i64 (iadd .i64 (iadd .i64 r1.1.2.1 r2.1.2.1) r3.1.2.1) r4.1.2.1) r2.1.1))) fun v5 => (req (decide ((0 : Int) ≤ (iadd .i64 (iadd .i64 (iadd .i64 (iadd .i64 r1.1.2.1 r2.1.2.1) r3.1.2.1) r4.1.2.1) r2.1.1)) && (decide ((iadd .i64 (iadd .i64 (iadd .i64 (iadd .i64 r1.1.2.1 r2.1.2.1) r3.1.2.1) r4.1.2.1) r2.1.1) ≤ (iadd .i64 (iadd .i64 (iadd .i64 (iadd .i64 (iadd .i64 r1.1.2.1 r2.1.2.1) r3.1.2.1) r4.1.2.1) r2.1.1) r4.1.1)) && decide ((iadd .i64 (iadd .i64 (iadd .i64 (iadd .i64 (iadd .i64 r1.1.2.1 r2.1.2.1) r3.1.2.1) r4.1.2.1) r2.1.1) r4.1.1) ≤ ((ByteArray.size x.1) : Int)))) (some (((v5, ((iquo .i64 r3.1.1 (2 : Int)), ((irem .i64 r3.1.1 (2 : Int)), ((ByteArray.extract x.1 (Int.toNat (iadd .i64 (iadd .i64 (iadd .i64 (iadd .i64 r1.1.2.1 r2.1.2.1) r3.1.2.1) r4.1.2.1) r2.1.1)) (Int.toNat (iadd .i64 (iadd .i64 (iadd .i64 (iadd .i64 (iadd .i64 r1.1.2.1 r2.1.2.1) r3.1.2.1) r4.1.2.1) r2.1.1) r4.1.1))), ())))), ((iadd .i64 (iadd .i64 (iadd .i64 (iadd .i64 (iadd .i64 r1.1.2.1 r2.1.2.1) r3.1.2.1) r4.1.2.1) r2.1.1) r4.1.1), ())), ())))))))))))))))))))))
def sg67 : Sig := ⟨ins67, res67, t67⟩
/-! loop.example/g00224/spec.GoodItem -/
abbrev ins79 : List Pm := [.val kd51]
abbrev res79 : List (K × Mk) := [(.bool, .s)]
def t79 (x : (D51 × Unit)) : Option ((Bool × Unit) × Unit) :=
 (bnd (t86 (x.1.1, ())) fun r1 => (cond r1.1.1
 (bnd (t100 (x.1.2.1, ())) fun r2 => (cond r2.1.1
 (bnd (t85 (x.1.2.2.1, ((0 : Int), ((1 : Int), ())))) fun r3 => (cond r3.1.1
 (cond (ile (slen x.1.2.2.2.1) (40 : Int))
 (cond (ieq x.1.2.2.1 (1 : Int))
 (some ((true, ()), ()))
 (some (((seq x.1.2.2.2.1 (⟨#[]⟩ : ByteArray)), ()), ())))
 (some ((false, ()), ())))
 (some ((false, ()), ()))))
 (some ((false, ()), ()))))
 (some ((false, ()), ()))))
def sg79 : Sig := ⟨ins79, res79, t79⟩
/-! loop.example/g00224/spec.l4Compare -/
abbrev ins80 : List Pm := [.val kd51, .val kd51]
abbrev res80 : List (K × Mk) := [((.int .i64), .s)]
def t80 (x : (D51 × D51 × Unit)) : Option ((Int × Unit) × Unit) :=
 (cond (slt x.1.1 x.2.1.1)
 (some (((-1 : Int), ()), ()))
 (cond (seq x.1.1 x.2.1.1)
 (cond (ilt x.2.1.2.1 x.1.2.1)
 (some (((-1 : Int), ()), ()))
 (cond (seq x.1.1 x.2.1.1)
 (cond (ieq x.1.2.1 x.2.1.2.1)
 (some (((0 : Int), ()), ()))
 (some (((1 : Int), ()), ())))
 (some (((1 : Int), ()), ()))))
 (cond (seq x.1.1 x.2.1.1)
 (cond (ieq x.1.2.1 x.2.1.2.1)
 (some (((0 : Int), ()), ()))
 (some (((1 : Int), ()), ())))
 (some (((1 : Int), ()), ())))))
def sg80 : Sig := ⟨ins80, res80, t80⟩
/-! loop.example/g00224/spec.GoodRun -/
abbrev ins52 : List Pm := [.val (.sl kd51)]
abbrev res52 : List (K × Mk) := [(.bool, .s)]
abbrev t52l2c : Desc := ⟨[(0, .v (.sl kd51)), (5, .v (.sl kd51)), (6, .v (.int .i64))], []⟩
abbrev t52l2v : Desc := ⟨[(7, .v (.int .i64))], []⟩
abbrev t52l2e : List (Ek × Desc) := [(.ret, ⟨[(2, .v .bool)], []⟩), (.exit 0, ⟨[], []⟩)]
def t52l2 (R : Type) (c : (((List D51) × (List D51) × Int × Unit) × Unit)) (v : ((Int × Unit) × Unit)) (kk : (((List D51) × (List D51) × Int × Unit) × Unit) → (((Int × Unit) × Unit) ⊕ (((Bool × Unit) × Unit) ⊕ (Unit × Unit))) → Option R) : Option R :=
 (cond (ilt v.1.1 c.1.2.2.1)
 (getO c.1.2.1 v.1.1 fun v1 => (bnd (t79 (v1, ())) fun r2 => (cond (!r2.1.1)
 (kk ((c.1.1, (c.1.2.1, (c.1.2.2.1, ()))), ()) (.inr (.inl ((false, ()), ()))))
 (cond (ilt (0 : Int) v.1.1)
 (getO c.1.1 (isub .i64 v.1.1 (1 : Int)) fun v3 => (bnd (t80 (v3, (v1, ()))) fun r4 => (cond (ile (0 : Int) r4.1.1)
 (kk ((c.1.1, (c.1.2.1, (c.1.2.2.1, ()))), ()) (.inr (.inl ((false, ()), ()))))
 (kk ((c.1.1, (c.1.2.1, (c.1.2.2.1, ()))), ()) (.inl (((iadd .i64 v.1.1 (1 : Int)), ()), ()))))))
 (kk ((c.1.1, (c.1.2.1, (c.1.2.2.1, ()))), ()) (.inl (((iadd .i64 v.1.1 (1 : Int)), ()), ())))))))
 (kk ((c.1.1, (c.1.2.1, (c.1.2.2.1, ()))), ()) (.inr (.inr ((), ())))))
def t52 (x : ((List D51) × Unit)) : Option ((Bool × Unit) × Unit) :=
 (loopF (c := t52l2c) (v := t52l2v) (ex := t52l2e) t52l2 _ ((x.1, (x.1, ((llen x.1), ()))), ()) (((0 : Int), ()), ()) fun c5 o6 =>
 (match o6 with
 | .inl y7 => (some ((y7.1.1, ()), ()))
 | .inr z8 => (some ((true, ()), ()))))
def sg52 : Sig := ⟨ins52, res52, t52⟩
/-! loop.example/g00224/spec.l6Two -/
abbrev ins81 : List Pm := [.val (.int .i64)]
abbrev res81 : List (K × Mk) := [(.str, .s)]
def t81 (x : (Int × Unit)) : Option ((ByteArray × Unit) × Unit) :=
 (some (((strOf [(IntKind.wrap .u8 x.1), (IntKind.wrap .u8 (ishr .i64 x.1 (8 : Int)))]), ()), ()))
def sg81 : Sig := ⟨ins81, res81, t81⟩
/-! loop.example/g00224/spec.CommonOf -/
abbrev ins82 : List Pm := [.val .str, .val .str]
abbrev res82 : List (K × Mk) := [((.int .i64), .s)]
abbrev t82l2c : Desc := ⟨[(0, .v .str), (1, .v .str)], []⟩
abbrev t82l2v : Desc := ⟨[(5, .v (.int .i64))], []⟩
abbrev t82l2e : List (Ek × Desc) := [(.exit 0, ⟨[(5, .v (.int .i64))], []⟩)]
def t82l2 (R : Type) (c : ((ByteArray × ByteArray × Unit) × Unit)) (v : ((Int × Unit) × Unit)) (kk : ((ByteArray × ByteArray × Unit) × Unit) → (((Int × Unit) × Unit) ⊕ ((Int × Unit) × Unit)) → Option R) : Option R :=
 (cond (ilt v.1.1 (slen c.1.1))
 (cond (ilt v.1.1 (slen c.1.2.1))
 (getB c.1.1 v.1.1 fun v1 => (getB c.1.2.1 v.1.1 fun v2 => (cond (ieq v1 v2)
 (kk ((c.1.1, (c.1.2.1, ())), ()) (.inl (((iadd .i64 v.1.1 (1 : Int)), ()), ())))
 (kk ((c.1.1, (c.1.2.1, ())), ()) (.inr ((v.1.1, ()), ()))))))
 (kk ((c.1.1, (c.1.2.1, ())), ()) (.inr ((v.1.1, ()), ()))))
 (kk ((c.1.1, (c.1.2.1, ())), ()) (.inr ((v.1.1, ()), ()))))
def t82 (x : (ByteArray × ByteArray × Unit)) : Option ((Int × Unit) × Unit) :=
 (loopF (c := t82l2c) (v := t82l2v) (ex := t82l2e) t82l2 _ ((x.1, (x.2.1, ())), ()) (((0 : Int), ()), ()) fun c3 o4 =>
 (some ((o4.1.1, ()), ())))
def sg82 : Sig := ⟨ins82, res82, t82⟩
/-! loop.example/g00224/spec.l6Block -/
abbrev ins53 : List Pm := [.val (.sl kd51)]
abbrev res53 : List (K × Mk) := [(.str, .s)]
abbrev t53i8c : Desc := ⟨[(0, .v (.sl kd51)), (3, .v .str), (5, .v (.int .i64)), (6, .ptr 6 []), (8, .v (.sl kd51)), (9, .v (.int .i64)), (10, .v (.int .i64)), (17, .v .bool)], [(6, ⟨kd51, .s, true⟩)]⟩
abbrev t53i8v : Desc := ⟨[(4, .v .str), (7, .v (.int .i64))], []⟩
abbrev t53i8e : List (Ek × Desc) := [(.norm, ⟨[(4, .v .str), (7, .v (.int .i64))], []⟩)]
def t53i8 (R : Type) (c : (((List D51) × ByteArray × Int × (List D51) × Int × Int × Bool × Unit) × (D51 × Unit))) (v : ((ByteArray × Int × Unit) × Unit)) (kk : (((List D51) × ByteArray × Int × (List D51) × Int × Int × Bool × Unit) × (D51 × Unit)) → ((ByteArray × Int × Unit) × Unit) → Option R) : Option R :=
 (cond c.1.2.2.2.2.2.2.1
 (bnd (t81 ((slen c.1.2.1), ())) fun r2 => (catO v.1.1 r2.1.1 fun v3 => (kk ((c.1.1, (c.1.2.1, (c.1.2.2.1, (c.1.2.2.2.1, (c.1.2.2.2.2.1, (c.1.2.2.2.2.2.1, (c.1.2.2.2.2.2.2.1, ()))))))), (c.2.1, ())) ((v3, (v.1.2.1, ())), ()))))
 (getO c.1.1 (isub .i64 c.1.2.2.1 (1 : Int)) fun v4 => (bnd (t82 (v4.1, (c.2.1.1, ()))) fun r5 => (kk ((c.1.1, (c.1.2.1, (c.1.2.2.1, (c.1.2.2.2.1, (c.1.2.2.2.2.1, (c.1.2.2.2.2.2.1, (c.1.2.2.2.2.2.2.1, ()))))))), (c.2.1, ())) ((v.1.1, (r5.1.1, ())), ())))))
abbrev t53l4c : Desc := ⟨[], []⟩
abbrev t53l4v : Desc := ⟨[(0, .v (.sl kd51)), (3, .v .str), (4, .v .str), (8, .v (.sl kd51)), (9, .v (.int .i64)), (10, .v (.int .i64))], []⟩
abbrev t53l4e : List (Ek × Desc) := [(.exit 0, ⟨[(3, .v .str), (4, .v .str)], []⟩)]
def t53l4 (R : Type) (c : (Unit × Unit)) (v : (((List D51) × ByteArray × ByteArray × (List D51) × Int × Int × Unit) × Unit)) (kk : (Unit × Unit) → ((((List D51) × ByteArray × ByteArray × (List D51) × Int × Int × Unit) × Unit) ⊕ ((ByteArray × ByteArray × Unit) × Unit)) → Option R) : Option R :=
 (cond (ilt v.1.2.2.2.2.2.1 v.1.2.2.2.2.1)
 (getO v.1.2.2.2.1 v.1.2.2.2.2.2.1 fun v1 => (t53i8 _ ((v.1.1, (v.1.2.1, (v.1.2.2.2.2.2.1, (v.1.2.2.2.1, (v.1.2.2.2.2.1, (v.1.2.2.2.2.2.1, ((ieq (irem .i64 v.1.2.2.2.2.2.1 (4 : Int)) (0 : Int)), ()))))))), (v1, ())) ((v.1.2.2.1, ((0 : Int), ())), ()) fun c2 o3 =>
 (bnd (t83 (o3.1.2.1, ())) fun r4 => (bnd (t83 ((isub .i64 (slen c2.2.1.1) o3.1.2.1), ())) fun r5 => (catO r4.1.1 r5.1.1 fun v6 => (bnd (t83 ((iadd .i64 (imul .i64 (2 : Int) c2.2.1.2.1) c2.2.1.2.2.1), ())) fun r7 => (catO v6 r7.1.1 fun v8 => (bnd (t83 ((slen c2.2.1.2.2.2.1), ())) fun r9 => (catO v8 r9.1.1 fun v10 => (req (decide ((0 : Int) ≤ o3.1.2.1) && decide (o3.1.2.1 ≤ ((ByteArray.size c2.2.1.1) : Int))) (catO v10 (ByteArray.extract c2.2.1.1 (Int.toNat o3.1.2.1) (ByteArray.size c2.2.1.1)) fun v11 => (catO v11 c2.2.1.2.2.2.1 fun v12 => (catO c2.1.2.1 v12 fun v13 => (kk ((), ()) (.inl ((c2.1.1, (v13, (o3.1.1, (c2.1.2.2.2.1, (c2.1.2.2.2.2.1, ((iadd .i64 c2.1.2.2.2.2.2.1 (1 : Int)), ())))))), ()))))))))))))))))
 (kk ((), ()) (.inr ((v.1.2.1, (v.1.2.2.1, ())), ()))))
def t53 (x : ((List D51) × Unit)) : Option ((ByteArray × Unit) × Unit) :=
 (loopF (c := t53l4c) (v := t53l4v) (ex := t53l4e) t53l4 _ ((), ()) ((x.1, ((⟨#[]⟩ : ByteArray), ((⟨#[]⟩ : ByteArray), (x.1, ((llen x.1), ((0 : Int), ())))))), ()) fun c14 o15 =>
 (bnd (t81 ((iquo .i64 (slen o15.1.2.1) (2 : Int)), ())) fun r16 => (catO o15.1.2.1 r16.1.1 fun v17 => (catO o15.1.1 v17 fun v18 => (bnd (t69 (v18, ())) fun r19 => (bnd (t68 (r19.1.1, ())) fun r20 => (catO v18 r20.1.1 fun v21 => (some ((v21, ()), ())))))))))
def sg53 : Sig := ⟨ins53, res53, t53⟩
/-! loop.example/g00224/spec.l6Read -/
abbrev ins44 : List Pm := [.val .str]
abbrev res44 : List (K × Mk) := [((.sl kd51), (.o .s)), (.bool, .s)]
abbrev t44l6c : Desc := ⟨[(0, .v .str), (7, .al 7 [])], []⟩
abbrev t44l6v : Desc := ⟨[(4, .v .str), (8, .v .str)], [(7, ⟨(.sl kd51), (.o .s), false⟩)]⟩
abbrev t44l6e : List (Ek × Desc) := [(.ret, ⟨[(2, .al 2 []), (3, .v .bool)], [(2, ⟨(.sl kd51), (.o .s), false⟩), (7, ⟨(.sl kd51), (.o .s), false⟩)]⟩), (.exit 0, ⟨[], [(7, ⟨(.sl kd51), (.o .s), false⟩)]⟩)]
def t44l6 (R : Type) (c : ((ByteArray × Unit) × Unit)) (v : ((ByteArray × ByteArray × Unit) × ((List D51) × Unit))) (kk : ((ByteArray × Unit) × Unit) → (((ByteArray × ByteArray × Unit) × ((List D51) × Unit)) ⊕ (((Bool × Unit) × ((List D51) × (List D51) × Unit)) ⊕ (Unit × ((List D51) × Unit)))) → Option R) : Option R :=
 (cond (ilt (0 : Int) (slen v.1.1))
 (cond (ile (llen v.2.1) (40 : Int))
 (bnd (t67 (v.1.1, (v.1.2.1, ()))) fun r2 => (cond (ieq r2.1.2.1 (0 : Int))
 (kk ((c.1.1, ()), ()) (.inr (.inl ((false, ()), (([] : List D51), (v.2.1, ()))))))
 (req (decide (List.length v.2.1 + List.length [r2.1.1] ≤ 17179869184)) (req (decide ((0 : Int) ≤ r2.1.2.1) && decide (r2.1.2.1 ≤ ((ByteArray.size v.1.1) : Int))) (kk ((c.1.1, ()), ()) (.inl (((ByteArray.extract v.1.1 (Int.toNat r2.1.2.1) (ByteArray.size v.1.1)), (r2.1.1.1, ())), ((v.2.1 ++ [r2.1.1]), ()))))))))
 (kk ((c.1.1, ()), ()) (.inr (.inr ((), (v.2.1, ()))))))
 (kk ((c.1.1, ()), ()) (.inr (.inr ((), (v.2.1, ()))))))
def t44 (x : (ByteArray × Unit)) : Option (((List D51) × Bool × Unit) × Unit) :=
 (bnd (t45 (x.1, ())) fun r1 => (cond (!r1.1.2.2.1)
 (some ((([] : List D51), (false, ())), ()))
 (loopF (c := t44l6c) (v := t44l6v) (ex := t44l6e) t44l6 _ ((x.1, ()), ()) ((r1.1.1, ((⟨#[]⟩ : ByteArray), ())), (([] : List D51), ())) fun c3 o4 =>
 (match o4 with
 | .inl y5 => (some ((y5.2.1, (y5.1.1, ())), ()))
 | .inr z6 => (bnd (t52 (z6.2.1, ())) fun r7 => (cond (!r7.1.1)
 (some ((([] : List D51), (false, ())), ()))
 (cond (ilt (40 : Int) (llen z6.2.1))
 (some ((([] : List D51), (false, ())), ()))
 (bnd (t53 (z6.2.1, ())) fun r8 => (cond (!seq r8.1.1 c3.1.1)
 (some ((([] : List D51), (false, ())), ()))
 (some ((z6.2.1, (true, ())), ())))))))))))
def sg44 : Sig := ⟨ins44, res44, t44⟩
/-! loop.example/g00224/spec.FirstIn -/
abbrev ins17 : List Pm := [.val .str]
abbrev res17 : List (K × Mk) := [(.str, .s), (.bool, .s)]
def t17 (x : (ByteArray × Unit)) : Option ((ByteArray × Bool × Unit) × Unit) :=
 (bnd (t44 (x.1, ())) fun r1 => (cond (!r1.1.2.1)
 (some (((⟨#[]⟩ : ByteArray), (false, ())), ()))
 (cond (ieq (llen r1.1.1) (0 : Int))
 (some (((⟨#[]⟩ : ByteArray), (false, ())), ()))
 (getO r1.1.1 (0 : Int) fun _ => (bnd (r1.1.1[(Int.toNat (0 : Int))]?) fun v3 => (bnd (r1.1.1[(Int.toNat (0 : Int))]?) fun v4 => (some ((v4.1, (true, ())), ()))))))))
def sg17 : Sig := ⟨ins17, res17, t17⟩
/-! loop.example/g00224/impl.wordOf -/
abbrev ins70 : List Pm := [.val .str]
abbrev res70 : List (K × Mk) := [((.int .i64), .s)]
abbrev t70l3c : Desc := ⟨[(0, .v .str)], []⟩
abbrev t70l3v : Desc := ⟨[(3, .v (.int .i64)), (4, .v (.int .i64))], []⟩
abbrev t70l3e : List (Ek × Desc) := [(.exit 0, ⟨[(3, .v (.int .i64))], []⟩)]
def t70l3 (R : Type) (c : ((ByteArray × Unit) × Unit)) (v : ((Int × Int × Unit) × Unit)) (kk : ((ByteArray × Unit) × Unit) → (((Int × Int × Unit) × Unit) ⊕ ((Int × Unit) × Unit)) → Option R) : Option R :=
 (cond (ile (0 : Int) v.1.2.1)
 (getB c.1.1 v.1.2.1 fun v1 => (kk ((c.1.1, ()), ()) (.inl (((ior .i64 (ishl .i64 v.1.1 (8 : Int)) (IntKind.wrap .i64 v1)), ((isub .i64 v.1.2.1 (1 : Int)), ())), ()))))
 (kk ((c.1.1, ()), ()) (.inr ((v.1.1, ()), ()))))
def t70 (x : (ByteArray × Unit)) : Option ((Int × Unit) × Unit) :=
 (loopF (c := t70l3c) (v := t70l3v) (ex := t70l3e) t70l3 _ ((x.1, ()), ()) (((0 : Int), ((isub .i64 (slen x.1) (1 : Int)), ())), ()) fun c2 o3 =>
 (some ((o3.1.1, ()), ())))
def sg70 : Sig := ⟨ins70, res70, t70⟩
/-! loop.example/g00224/impl.readItems -/
abbrev ins71 : List Pm := [.val .str]
abbrev res71 : List (K × Mk) := [((.sl kd51), (.o .s)), (.bool, .s)]
abbrev t71l2c : Desc := ⟨[(4, .ptr 15 []), (5, .al 5 [])], []⟩
abbrev t71l2v : Desc := ⟨[(6, .v .str)], [(5, ⟨(.sl kd51), (.o .s), false⟩), (15, ⟨kd55, .s, true⟩)]⟩
abbrev t71l2e : List (Ek × Desc) := [(.ret, ⟨[(2, .al 2 []), (3, .v .bool)], [(2, ⟨(.sl kd51), (.o .s), false⟩), (5, ⟨(.sl kd51), (.o .s), false⟩), (15, ⟨kd55, .s, true⟩)]⟩), (.exit 0, ⟨[], [(5, ⟨(.sl kd51), (.o .s), false⟩), (15, ⟨kd55, .s, true⟩)]⟩)]
def t71l2 (R : Type) (c : (Unit × Unit)) (v : ((ByteArray × Unit) × ((List D51) × D55 × Unit))) (kk : (Unit × Unit) → (((ByteArray × Unit) × ((List D51) × D55 × Unit)) ⊕ (((Bool × Unit) × ((List D51) × (List D51) × D55 × Unit)) ⊕ (Unit × ((List D51) × D55 × Unit)))) → Option R) : Option R :=
 (cond (!v.2.2.1.2.1)
 (cond (!seq v.2.2.1.1 (⟨#[]⟩ : ByteArray))
 (cond (ile (llen v.2.1) (40 : Int))
 (bnd (t34 (v.2.2.1, ())) fun r1 => (bnd (t34 (r1.2.1, ())) fun r2 => (bnd (t34 (r2.2.1, ())) fun r3 => (bnd (t34 (r3.2.1, ())) fun r4 => (bnd (t35 (r4.2.1, (r2.1.1, ()))) fun r5 => (bnd (t35 (r5.2.1, (r4.1.1, ()))) fun r6 => (cond r6.2.1.2.1
 (kk ((), ()) (.inr (.inl ((false, ()), (([] : List D51), (v.2.1, ((r6.2.1.1, (true, r6.2.1.2.2)), ())))))))
 (cond (ilt (slen v.1.1) r1.1.1)
 (kk ((), ()) (.inr (.inl ((false, ()), (([] : List D51), (v.2.1, ((r6.2.1.1, ((ilt (slen v.1.1) r1.1.1), r6.2.1.2.2)), ())))))))
 (req (decide ((0 : Int) ≤ r1.1.1) && decide (r1.1.1 ≤ ((ByteArray.size v.1.1) : Int))) (catO (ByteArray.extract v.1.1 (0 : Nat) (Int.toNat r1.1.1)) r5.1.1 fun v7 => (req (decide (List.length v.2.1 + List.length [(v7, ((iquo .i64 r3.1.1 (2 : Int)), ((irem .i64 r3.1.1 (2 : Int)), (r6.1.1, ()))))] ≤ 17179869184)) (kk ((), ()) (.inl ((v7, ()), ((v.2.1 ++ [(v7, ((iquo .i64 r3.1.1 (2 : Int)), ((irem .i64 r3.1.1 (2 : Int)), (r6.1.1, ()))))]), ((r6.2.1.1, ((ilt (slen v.1.1) r1.1.1), r6.2.1.2.2)), ()))))))))))))))))
 (kk ((), ()) (.inr (.inr ((), (v.2.1, (v.2.2.1, ())))))))
 (kk ((), ()) (.inr (.inr ((), (v.2.1, (v.2.2.1, ())))))))
 (kk ((), ()) (.inr (.inr ((), (v.2.1, (v.2.2.1, ())))))))
def t71 (x : (ByteArray × Unit)) : Option (((List D51) × Bool × Unit) × Unit) :=
 (loopF (c := t71l2c) (v := t71l2v) (ex := t71l2e) t71l2 _ ((), ()) (((⟨#[]⟩ : ByteArray), ()), (([] : List D51), ((x.1, (false, ())), ()))) fun c8 o9 =>
 (match o9 with
 | .inl y10 => (some ((y10.2.1, (y10.1.1, ())), ()))
 | .inr z11 => (bnd (t37 (z11.2.2.1, ())) fun r12 => (some ((z11.2.1, (r12.1.1, ())), ())))))
def sg71 : Sig := ⟨ins71, res71, t71⟩
/-! loop.example/g00224/impl.GoodItem -/
abbrev ins73 : List Pm := [.val kd51]
abbrev res73 : List (K × Mk) := [(.bool, .s)]
def t73 (x : (D51 × Unit)) : Option ((Bool × Unit) × Unit) :=
 (bnd (t59 (x.1.1, ())) fun r1 => (cond r1.1.1
 (bnd (t89 (x.1.2.1, ())) fun r2 => (cond r2.1.1
 (bnd (t58 (x.1.2.2.1, ((0 : Int), ((1 : Int), ())))) fun r3 => (cond r3.1.1
 (bnd (t60 (x.1.2.2.2.1, ())) fun r4 => (cond r4.1.1
 (cond (ieq x.1.2.2.1 (1 : Int))
 (some ((true, ()), ()))
 (some (((seq x.1.2.2.2.1 (⟨#[]⟩ : ByteArray)), ()), ())))
 (some ((false, ()), ()))))
 (some ((false, ()), ()))))
 (some ((false, ()), ()))))
 (some ((false, ()), ()))))
def sg73 : Sig := ⟨ins73, res73, t73⟩
/-! cmp.isNaN[string] -/
abbrev ins105 : List Pm := [.val .str]
abbrev res105 : List (K × Mk) := [(.bool, .s)]
def t105 (x : (ByteArray × Unit)) : Option ((Bool × Unit) × Unit) :=
 (some (((!seq x.1 x.1), ()), ()))
def sg105 : Sig := ⟨ins105, res105, t105⟩
/-! cmp.Compare[string] -/
abbrev ins97 : List Pm := [.val .str, .val .str]
abbrev res97 : List (K × Mk) := [((.int .i64), .s)]
def t97 (x : (ByteArray × ByteArray × Unit)) : Option ((Int × Unit) × Unit) :=
 (bnd (t105 (x.1, ())) fun r1 => (bnd (t105 (x.2.1, ())) fun r2 => (cond r1.1.1
 (cond r2.1.1
 (some (((0 : Int), ()), ()))
 (some (((-1 : Int), ()), ())))
 (cond r2.1.1
 (some (((1 : Int), ()), ()))
 (cond (slt x.1 x.2.1)
 (some (((-1 : Int), ()), ()))
 (cond (!(slt x.1 x.2.1 || seq x.1 x.2.1))
 (some (((1 : Int), ()), ()))
 (some (((0 : Int), ()), ()))))))))
def sg97 : Sig := ⟨ins97, res97, t97⟩
/-! cmp.isNaN[int] -/
abbrev ins106 : List Pm := [.val (.int .i64)]
abbrev res106 : List (K × Mk) := [(.bool, .s)]
def t106 (x : (Int × Unit)) : Option ((Bool × Unit) × Unit) :=
 (some (((!ieq x.1 x.1), ()), ()))
def sg106 : Sig := ⟨ins106, res106, t106⟩
/-! cmp.Compare[int] -/
abbrev ins98 : List Pm := [.val (.int .i64), .val (.int .i64)]
abbrev res98 : List (K × Mk) := [((.int .i64), .s)]
def t98 (x : (Int × Int × Unit)) : Option ((Int × Unit) × Unit) :=
 (bnd (t106 (x.1, ())) fun r1 => (bnd (t106 (x.2.1, ())) fun r2 => (cond r1.1.1
 (cond r2.1.1
 (some (((0 : Int), ()), ()))
 (some (((-1 : Int), ()), ())))
 (cond r2.1.1
 (some (((1 : Int), ()), ()))
 (cond (ilt x.1 x.2.1)
 (some (((-1 : Int), ()), ()))
 (cond (ilt x.2.1 x.1)
 (some (((1 : Int), ()), ()))
 (some (((0 : Int), ()), ()))))))))
def sg98 : Sig := ⟨ins98, res98, t98⟩
/-! cmp.Or[int] -/
abbrev ins96 : List Pm := [.val (.sl (.int .i64))]
abbrev res96 : List (K × Mk) := [((.int .i64), .s)]
abbrev t96l3c : Desc := ⟨[(3, .v (.int .i64)), (6, .v (.sl (.int .i64))), (7, .v (.int .i64))], []⟩
abbrev t96l3v : Desc := ⟨[(8, .v (.int .i64))], []⟩
abbrev t96l3e : List (Ek × Desc) := [(.ret, ⟨[(2, .v (.int .i64))], []⟩), (.exit 0, ⟨[], []⟩)]
def t96l3 (R : Type) (c : ((Int × (List Int) × Int × Unit) × Unit)) (v : ((Int × Unit) × Unit)) (kk : ((Int × (List Int) × Int × Unit) × Unit) → (((Int × Unit) × Unit) ⊕ (((Int × Unit) × Unit) ⊕ (Unit × Unit))) → Option R) : Option R :=
 (cond (ilt v.1.1 c.1.2.2.1)
 (getO c.1.2.1 v.1.1 fun v1 => (cond (!ieq v1 c.1.1)
 (kk ((c.1.1, (c.1.2.1, (c.1.2.2.1, ()))), ()) (.inr (.inl ((v1, ()), ()))))
 (kk ((c.1.1, (c.1.2.1, (c.1.2.2.1, ()))), ()) (.inl (((iadd .i64 v.1.1 (1 : Int)), ()), ())))))
 (kk ((c.1.1, (c.1.2.1, (c.1.2.2.1, ()))), ()) (.inr (.inr ((), ())))))
def t96 (x : ((List Int) × Unit)) : Option ((Int × Unit) × Unit) :=
 (loopF (c := t96l3c) (v := t96l3v) (ex := t96l3e) t96l3 _ (((0 : Int), (x.1, ((llen x.1), ()))), ()) (((0 : Int), ()), ()) fun c2 o3 =>
 (match o3 with
 | .inl y4 => (some ((y4.1.1, ()), ()))
 | .inr z5 => (some ((c2.1.1, ()), ()))))
def sg96 : Sig := ⟨ins96, res96, t96⟩
/-! loop.example/g00224/impl.itemOrder -/
abbrev ins74 : List Pm := [.val kd51, .val kd51]
abbrev res74 : List (K × Mk) := [((.int .i64), .s)]
def t74 (x : (D51 × D51 × Unit)) : Option ((Int × Unit) × Unit) :=
 (bnd (t97 (x.1.1, (x.2.1.1, ()))) fun r1 => (bnd (t98 (x.2.1.2.1, (x.1.2.1, ()))) fun r2 => (bnd (t96 ([r1.1.1, r2.1.1], ())) fun r3 => (some ((r3.1.1, ()), ())))))
def sg74 : Sig := ⟨ins74, res74, t74⟩
/-! loop.example/g00224/impl.GoodRun -/
abbrev ins50 : List Pm := [.val (.sl kd51)]
abbrev res50 : List (K × Mk) := [(.bool, .s)]
abbrev t50l2c : Desc := ⟨[(0, .v (.sl kd51)), (5, .v (.sl kd51)), (6, .v (.int .i64))], []⟩
abbrev t50l2v : Desc := ⟨[(7, .v (.int .i64))], []⟩
abbrev t50l2e : List (Ek × Desc) := [(.ret, ⟨[(2, .v .bool)], []⟩), (.exit 0, ⟨[], []⟩)]
def t50l2 (R : Type) (c : (((List D51) × (List D51) × Int × Unit) × Unit)) (v : ((Int × Unit) × Unit)) (kk : (((List D51) × (List D51) × Int × Unit) × Unit) → (((Int × Unit) × Unit) ⊕ (((Bool × Unit) × Unit) ⊕ (Unit × Unit))) → Option R) : Option R :=
 (cond (ilt v.1.1 c.1.2.2.1)
 (getO c.1.2.1 v.1.1 fun v1 => (bnd (t73 (v1, ())) fun r2 => (cond (!r2.1.1)
 (kk ((c.1.1, (c.1.2.1, (c.1.2.2.1, ()))), ()) (.inr (.inl ((false, ()), ()))))
 (cond (ilt (0 : Int) v.1.1)
 (getO c.1.1 (isub .i64 v.1.1 (1 : Int)) fun v3 => (bnd (t74 (v3, (v1, ()))) fun r4 => (cond (ile (0 : Int) r4.1.1)
 (kk ((c.1.1, (c.1.2.1, (c.1.2.2.1, ()))), ()) (.inr (.inl ((false, ()), ()))))
 (kk ((c.1.1, (c.1.2.1, (c.1.2.2.1, ()))), ()) (.inl (((iadd .i64 v.1.1 (1 : Int)), ()), ()))))))
 (kk ((c.1.1, (c.1.2.1, (c.1.2.2.1, ()))), ()) (.inl (((iadd .i64 v.1.1 (1 : Int)), ()), ())))))))
 (kk ((c.1.1, (c.1.2.1, (c.1.2.2.1, ()))), ()) (.inr (.inr ((), ())))))
def t50 (x : ((List D51) × Unit)) : Option ((Bool × Unit) × Unit) :=
 (loopF (c := t50l2c) (v := t50l2v) (ex := t50l2e) t50l2 _ ((x.1, (x.1, ((llen x.1), ()))), ()) (((0 : Int), ()), ()) fun c5 o6 =>
 (match o6 with
 | .inl y7 => (some ((y7.1.1, ()), ()))
 | .inr z8 => (some ((true, ()), ()))))
def sg50 : Sig := ⟨ins50, res50, t50⟩
/-! loop.example/g00224/impl.CommonOf -/
abbrev ins75 : List Pm := [.val .str, .val .str]
abbrev res75 : List (K × Mk) := [((.int .i64), .s)]
abbrev t75l2c : Desc := ⟨[(0, .v .str), (1, .v .str)], []⟩
abbrev t75l2v : Desc := ⟨[(5, .v (.int .i64))], []⟩
abbrev t75l2e : List (Ek × Desc) := [(.exit 0, ⟨[(5, .v (.int .i64))], []⟩)]
def t75l2 (R : Type) (c : ((ByteArray × ByteArray × Unit) × Unit)) (v : ((Int × Unit) × Unit)) (kk : ((ByteArray × ByteArray × Unit) × Unit) → (((Int × Unit) × Unit) ⊕ ((Int × Unit) × Unit)) → Option R) : Option R :=
 (cond (ilt v.1.1 (imin (slen c.1.1) (slen c.1.2.1)))
 (getB c.1.1 v.1.1 fun v1 => (getB c.1.2.1 v.1.1 fun v2 => (cond (ieq v1 v2)
 (kk ((c.1.1, (c.1.2.1, ())), ()) (.inl (((iadd .i64 v.1.1 (1 : Int)), ()), ())))
 (kk ((c.1.1, (c.1.2.1, ())), ()) (.inr ((v.1.1, ()), ()))))))
 (kk ((c.1.1, (c.1.2.1, ())), ()) (.inr ((v.1.1, ()), ()))))
def t75 (x : (ByteArray × ByteArray × Unit)) : Option ((Int × Unit) × Unit) :=
 (loopF (c := t75l2c) (v := t75l2v) (ex := t75l2e) t75l2 _ ((x.1, (x.2.1, ())), ()) (((0 : Int), ()), ()) fun c3 o4 =>
 (some ((o4.1.1, ()), ())))
def sg75 : Sig := ⟨ins75, res75, t75⟩
/-! loop.example/g00224/impl.varBytes -/
abbrev ins76 : List Pm := [.val (.int .i64)]
abbrev res76 : List (K × Mk) := [(.str, .s)]
abbrev t76l2c : Desc := ⟨[(3, .al 3 [])], []⟩
abbrev t76l2v : Desc := ⟨[(0, .v (.int .i64))], [(3, ⟨(.sl (.int .u8)), (.o .s), false⟩)]⟩
abbrev t76l2e : List (Ek × Desc) := [(.exit 0, ⟨[(0, .v (.int .i64))], [(3, ⟨(.sl (.int .u8)), (.o .s), false⟩)]⟩)]
def t76l2 (R : Type) (c : (Unit × Unit)) (v : ((Int × Unit) × ((List Int) × Unit))) (kk : (Unit × Unit) → (((Int × Unit) × ((List Int) × Unit)) ⊕ ((Int × Unit) × ((List Int) × Unit))) → Option R) : Option R :=
 (cond (ile (128 : Int) v.1.1)
 (req (decide (List.length v.2.1 + List.length [(iadd .u8 (IntKind.wrap .u8 (irem .i64 v.1.1 (128 : Int))) (128 : Int))] ≤ 17179869184)) (kk ((), ()) (.inl (((iquo .i64 v.1.1 (128 : Int)), ()), ((v.2.1 ++ [(iadd .u8 (IntKind.wrap .u8 (irem .i64 v.1.1 (128 : Int))) (128 : Int))]), ())))))
 (kk ((), ()) (.inr ((v.1.1, ()), (v.2.1, ())))))
def t76 (x : (Int × Unit)) : Option ((ByteArray × Unit) × Unit) :=
 (loopF (c := t76l2c) (v := t76l2v) (ex := t76l2e) t76l2 _ ((), ()) ((x.1, ()), (([] : List Int), ())) fun c1 o2 =>
 (req (decide (List.length o2.2.1 + List.length [(IntKind.wrap .u8 o2.1.1)] ≤ 17179869184)) (some (((strOf (o2.2.1 ++ [(IntKind.wrap .u8 o2.1.1)])), ()), ()))))
def sg76 : Sig := ⟨ins76, res76, t76⟩
/-! loop.example/g00224/impl.lowFirst -/
abbrev ins77 : List Pm := [.val (.int .u32), .val (.int .i64)]
abbrev res77 : List (K × Mk) := [(.str, .s)]
abbrev t77l3c : Desc := ⟨[(5, .al 5 []), (7, .v (.int .i64))], []⟩
abbrev t77l3v : Desc := ⟨[(0, .v (.int .u32)), (8, .v (.int .i64))], [(5, ⟨(.sl (.int .u8)), (.o .s), false⟩)]⟩
abbrev t77l3e : List (Ek × Desc) := [(.exit 0, ⟨[], [(5, ⟨(.sl (.int .u8)), (.o .s), false⟩)]⟩)]
def t77l3 (R : Type) (c : ((Int × Unit) × Unit)) (v : ((Int × Int × Unit) × ((List Int) × Unit))) (kk : ((Int × Unit) × Unit) → (((Int × Int × Unit) × ((List Int) × Unit)) ⊕ (Unit × ((List Int) × Unit))) → Option R) : Option R :=
 (cond (ilt v.1.2.1 c.1.1)
 (req (decide (List.length v.2.1 + List.length [(IntKind.wrap .u8 v.1.1)] ≤ 17179869184)) (kk ((c.1.1, ()), ()) (.inl (((ishr .u32 v.1.1 (8 : Int)), ((iadd .i64 v.1.2.1 (1 : Int)), ())), ((v.2.1 ++ [(IntKind.wrap .u8 v.1.1)]), ())))))
 (kk ((c.1.1, ()), ()) (.inr ((), (v.2.1, ())))))
def t77 (x : (Int × Int × Unit)) : Option ((ByteArray × Unit) × Unit) :=
 (loopF (c := t77l3c) (v := t77l3v) (ex := t77l3e) t77l3 _ ((x.2.1, ()), ()) ((x.1, ((0 : Int), ())), (([] : List Int), ())) fun c1 o2 =>
 (some (((strOf o2.2.1), ()), ())))
def sg77 : Sig := ⟨ins77, res77, t77⟩
/-! loop.example/g00224/impl.SumTable -/
abbrev ins107 : List Pm := []
abbrev res107 : List (K × Mk) := [((.sl (.int .u32)), (.o .s))]
abbrev t107i10c : Desc := ⟨[(1, .al 1 []), (5, .v (.int .u32)), (8, .v (.int .i64)), (15, .v .bool)], [(1, ⟨(.sl (.int .u32)), (.o .s), false⟩)]⟩
abbrev t107i10v : Desc := ⟨[(2, .v (.int .u32))], []⟩
abbrev t107i10e : List (Ek × Desc) := [(.norm, ⟨[(2, .v (.int .u32))], []⟩)]
def t107i10 (R : Type) (c : ((Int × Int × Bool × Unit) × ((List Int) × Unit))) (v : ((Int × Unit) × Unit)) (kk : ((Int × Int × Bool × Unit) × ((List Int) × Unit)) → ((Int × Unit) × Unit) → Option R) : Option R :=
 (cond c.1.2.2.1
 (kk ((c.1.1, (c.1.2.1, (c.1.2.2.1, ()))), (c.2.1, ())) (((ixor .u32 v.1.1 (2197175160 : Int)), ()), ()))
 (kk ((c.1.1, (c.1.2.1, (c.1.2.2.1, ()))), (c.2.1, ())) ((v.1.1, ()), ())))
abbrev t107l6c : Desc := ⟨[(1, .al 1 [])], []⟩
abbrev t107l6v : Desc := ⟨[(2, .v (.int .u32)), (5, .v (.int .u32)), (8, .v (.int .i64))], [(1, ⟨(.sl (.int .u32)), (.o .s), false⟩)]⟩
abbrev t107l6e : List (Ek × Desc) := [(.exit 2, ⟨[(2, .v (.int .u32)), (5, .v (.int .u32))], [(1, ⟨(.sl (.int .u32)), (.o .s), false⟩)]⟩)]
def t107l6 (R : Type) (c : (Unit × Unit)) (v : ((Int × Int × Int × Unit) × ((List Int) × Unit))) (kk : (Unit × Unit) → (((Int × Int × Int × Unit) × ((List Int) × Unit)) ⊕ ((Int × Int × Unit) × ((List Int) × Unit))) → Option R) : Option R :=
 (cond (ilt v.1.2.2.1 (8 : Int))
 (t107i10 _ ((v.1.2.1, (v.1.2.2.1, ((ieq (iand .u32 v.1.1 (1 : Int)) (1 : Int)), ()))), (v.2.1, ())) (((ishr .u32 v.1.1 (1 : Int)), ()), ()) fun c1 o2 =>
 (kk ((), ()) (.inl ((o2.1.1, (c1.1.1, ((iadd .i64 c1.1.2.1 (1 : Int)), ()))), (c1.2.1, ())))))
 (kk ((), ()) (.inr ((v.1.1, (v.1.2.1, ())), (v.2.1, ())))))
abbrev t107l3c : Desc := ⟨[(1, .al 1 [])], []⟩
abbrev t107l3v : Desc := ⟨[(5, .v (.int .u32))], [(1, ⟨(.sl (.int .u32)), (.o .s), false⟩)]⟩
abbrev t107l3e : List (Ek × Desc) := [(.exit 0, ⟨[], [(1, ⟨(.sl (.int .u32)), (.o .s), false⟩)]⟩)]
def t107l3 (R : Type) (c : (Unit × Unit)) (v : ((Int × Unit) × ((List Int) × Unit))) (kk : (Unit × Unit) → (((Int × Unit) × ((List Int) × Unit)) ⊕ (Unit × ((List Int) × Unit))) → Option R) : Option R :=
 (cond (ilt v.1.1 (256 : Int))
 (loopF (c := t107l6c) (v := t107l6v) (ex := t107l6e) t107l6 _ ((), ()) ((v.1.1, (v.1.1, ((0 : Int), ()))), (v.2.1, ())) fun c1 o2 =>
 (req (decide (List.length o2.2.1 + List.length [o2.1.1] ≤ 17179869184)) (kk ((), ()) (.inl (((iadd .u32 o2.1.2.1 (1 : Int)), ()), ((o2.2.1 ++ [o2.1.1]), ()))))))
 (kk ((), ()) (.inr ((), (v.2.1, ())))))
def t107 (x : Unit) : Option (((List Int) × Unit) × Unit) :=
 (loopF (c := t107l3c) (v := t107l3v) (ex := t107l3e) t107l3 _ ((), ()) (((0 : Int), ()), (([] : List Int), ())) fun c3 o4 =>
 (some ((o4.2.1, ()), ())))
def sg107 : Sig := ⟨ins107, res107, t107⟩
/-! loop.example/g00224/impl.SumOn -/
abbrev ins99 : List Pm := [.val (.int .u32), .val .str]
abbrev res99 : List (K × Mk) := [((.int .u32), .s)]
abbrev t99l3c : Desc := ⟨[(1, .v .str), (5, .al 5 []), (9, .v (.int .i64))], [(5, ⟨(.sl (.int .u32)), (.o .s), false⟩)]⟩
abbrev t99l3v : Desc := ⟨[(0, .v (.int .u32)), (10, .v (.int .i64))], []⟩
abbrev t99l3e : List (Ek × Desc) := [(.exit 0, ⟨[(0, .v (.int .u32))], []⟩)]
def t99l3 (R : Type) (c : ((ByteArray × Int × Unit) × ((List Int) × Unit))) (v : ((Int × Int × Unit) × Unit)) (kk : ((ByteArray × Int × Unit) × ((List Int) × Unit)) → (((Int × Int × Unit) × Unit) ⊕ ((Int × Unit) × Unit)) → Option R) : Option R :=
 (cond (ilt v.1.2.1 c.1.2.1)
 (getB c.1.1 v.1.2.1 fun v2 => (getO c.2.1 (ixor .u8 (IntKind.wrap .u8 v.1.1) v2) fun _ => (bnd (c.2.1[(Int.toNat (ixor .u8 (IntKind.wrap .u8 v.1.1) v2))]?) fun v4 => (kk ((c.1.1, (c.1.2.1, ())), (c.2.1, ())) (.inl (((ixor .u32 (ishr .u32 v.1.1 (8 : Int)) v4), ((iadd .i64 v.1.2.1 (1 : Int)), ())), ()))))))
 (kk ((c.1.1, (c.1.2.1, ())), (c.2.1, ())) (.inr ((v.1.1, ()), ()))))
def t99 (x : (Int × ByteArray × Unit)) : Option ((Int × Unit) × Unit) :=
 (bnd (t107 ()) fun r1 => (loopF (c := t99l3c) (v := t99l3v) (ex := t99l3e) t99l3 _ ((x.2.1, ((slen x.2.1), ())), (r1.1.1, ())) ((x.1, ((0 : Int), ())), ()) fun c5 o6 =>
 (some ((o6.1.1, ()), ()))))
def sg99 : Sig := ⟨ins99, res99, t99⟩
/-! loop.example/g00224/impl.SumOf -/
abbrev ins78 : List Pm := [.val .str]
abbrev res78 : List (K × Mk) := [((.int .u32), .s)]
def t78 (x : (ByteArray × Unit)) : Option ((Int × Unit) × Unit) :=
 (bnd (t99 ((4294967295 : Int), (x.1, ()))) fun r1 => (some (((inot .u32 r1.1.1), ()), ())))
def sg78 : Sig := ⟨ins78, res78, t78⟩
/-! loop.example/g00224/impl.block -/
abbrev ins51 : List Pm := [.val (.sl kd51)]
abbrev res51 : List (K × Mk) := [(.str, .s), ((.sl (.int .i64)), (.o .s))]
abbrev t51i7c : Desc := ⟨[(4, .v .str), (5, .al 5 []), (8, .ptr 8 []), (13, .v (.sl kd51)), (14, .v (.int .i64)), (15, .v (.int .i64)), (26, .v .bool)], [(8, ⟨kd51, .s, true⟩)]⟩
abbrev t51i7v : Desc := ⟨[(9, .v (.int .i64))], [(5, ⟨(.sl (.int .i64)), (.o .s), false⟩)]⟩
abbrev t51i7e : List (Ek × Desc) := [(.norm, ⟨[(9, .v (.int .i64))], [(5, ⟨(.sl (.int .i64)), (.o .s), false⟩)]⟩)]
def t51i7 (R : Type) (c : ((ByteArray × (List D51) × Int × Int × Bool × Unit) × (D51 × Unit))) (v : ((Int × Unit) × ((List Int) × Unit))) (kk : ((ByteArray × (List D51) × Int × Int × Bool × Unit) × (D51 × Unit)) → ((Int × Unit) × ((List Int) × Unit)) → Option R) : Option R :=
 (cond c.1.2.2.2.2.1
 (req (decide (List.length v.2.1 + List.length [(slen c.1.1)] ≤ 17179869184)) (kk ((c.1.1, (c.1.2.1, (c.1.2.2.1, (c.1.2.2.2.1, (c.1.2.2.2.2.1, ()))))), (c.2.1, ())) (((0 : Int), ()), ((v.2.1 ++ [(slen c.1.1)]), ()))))
 (kk ((c.1.1, (c.1.2.1, (c.1.2.2.1, (c.1.2.2.2.1, (c.1.2.2.2.2.1, ()))))), (c.2.1, ())) ((v.1.1, ()), (v.2.1, ()))))
abbrev t51l3c : Desc := ⟨[(5, .al 5 [])], []⟩
abbrev t51l3v : Desc := ⟨[(4, .v .str), (6, .v .str), (13, .v (.sl kd51)), (14, .v (.int .i64)), (15, .v (.int .i64))], [(5, ⟨(.sl (.int .i64)), (.o .s), false⟩)]⟩
abbrev t51l3e : List (Ek × Desc) := [(.exit 0, ⟨[(4, .v .str)], [(5, ⟨(.sl (.int .i64)), (.o .s), false⟩)]⟩)]
def t51l3 (R : Type) (c : (Unit × Unit)) (v : ((ByteArray × ByteArray × (List D51) × Int × Int × Unit) × ((List Int) × Unit))) (kk : (Unit × Unit) → (((ByteArray × ByteArray × (List D51) × Int × Int × Unit) × ((List Int) × Unit)) ⊕ ((ByteArray × Unit) × ((List Int) × Unit))) → Option R) : Option R :=
 (cond (ilt v.1.2.2.2.2.1 v.1.2.2.2.1)
 (getO v.1.2.2.1 v.1.2.2.2.2.1 fun v1 => (bnd (t75 (v.1.2.1, (v1.1, ()))) fun r2 => (t51i7 _ ((v.1.1, (v.1.2.2.1, (v.1.2.2.2.1, (v.1.2.2.2.2.1, ((ieq (irem .i64 v.1.2.2.2.2.1 (4 : Int)) (0 : Int)), ()))))), (v1, ())) ((r2.1.1, ()), (v.2.1, ())) fun c3 o4 =>
 (bnd (t76 (o4.1.1, ())) fun r5 => (bnd (t76 ((isub .i64 (slen c3.2.1.1) o4.1.1), ())) fun r6 => (catO r5.1.1 r6.1.1 fun v7 => (bnd (t76 ((iadd .i64 (imul .i64 (2 : Int) c3.2.1.2.1) c3.2.1.2.2.1), ())) fun r8 => (catO v7 r8.1.1 fun v9 => (bnd (t76 ((slen c3.2.1.2.2.2.1), ())) fun r10 => (catO v9 r10.1.1 fun v11 => (req (decide ((0 : Int) ≤ o4.1.1) && decide (o4.1.1 ≤ ((ByteArray.size c3.2.1.1) : Int))) (catO v11 (ByteArray.extract c3.2.1.1 (Int.toNat o4.1.1) (ByteArray.size c3.2.1.1)) fun v12 => (catO v12 c3.2.1.2.2.2.1 fun v13 => (catO c3.1.1 v13 fun v14 => (kk ((), ()) (.inl ((v14, (c3.2.1.1, (c3.1.2.1, (c3.1.2.2.1, ((iadd .i64 c3.1.2.2.2.1 (1 : Int)), ()))))), (o4.2.1, ()))))))))))))))))))
 (kk ((), ()) (.inr ((v.1.1, ()), (v.2.1, ())))))
abbrev t51l12c : Desc := ⟨[(5, .al 5 []), (67, .al 5 []), (68, .v (.int .i64))], [(5, ⟨(.sl (.int .i64)), (.o .s), false⟩)]⟩
abbrev t51l12v : Desc := ⟨[(4, .v .str), (69, .v (.int .i64))], []⟩
abbrev t51l12e : List (Ek × Desc) := [(.exit 2, ⟨[(4, .v .str)], []⟩)]
def t51l12 (R : Type) (c : ((Int × Unit) × ((List Int) × Unit))) (v : ((ByteArray × Int × Unit) × Unit)) (kk : ((Int × Unit) × ((List Int) × Unit)) → (((ByteArray × Int × Unit) × Unit) ⊕ ((ByteArray × Unit) × Unit)) → Option R) : Option R :=
 (cond (ilt v.1.2.1 c.1.1)
 (getO c.2.1 v.1.2.1 fun _ => (bnd (c.2.1[(Int.toNat v.1.2.1)]?) fun v18 => (bnd (t77 ((IntKind.wrap .u32 v18), ((2 : Int), ()))) fun r19 => (catO v.1.1 r19.1.1 fun v20 => (kk ((c.1.1, ()), (c.2.1, ())) (.inl ((v20, ((iadd .i64 v.1.2.1 (1 : Int)), ())), ())))))))
 (kk ((c.1.1, ()), (c.2.1, ())) (.inr ((v.1.1, ()), ()))))
def t51 (x : ((List D51) × Unit)) : Option ((ByteArray × (List Int) × Unit) × Unit) :=
 (loopF (c := t51l3c) (v := t51l3v) (ex := t51l3e) t51l3 _ ((), ()) (((⟨#[]⟩ : ByteArray), ((⟨#[]⟩ : ByteArray), (x.1, ((llen x.1), ((0 : Int), ()))))), (([] : List Int), ())) fun c15 o16 =>
 (loopF (c := t51l12c) (v := t51l12v) (ex := t51l12e) t51l12 _ (((llen o16.2.1), ()), (o16.2.1, ())) ((o16.1.1, ((0 : Int), ())), ()) fun c21 o22 =>
 (bnd (t77 ((IntKind.wrap .u32 (llen c21.2.1)), ((2 : Int), ()))) fun r23 => (catO o22.1.1 r23.1.1 fun v24 => (bnd (t78 (v24, ())) fun r25 => (bnd (t77 (r25.1.1, ((4 : Int), ()))) fun r26 => (catO v24 r26.1.1 fun v27 => (some ((v27, (c21.2.1, ())), ())))))))))
def sg51 : Sig := ⟨ins51, res51, t51⟩
/-! loop.example/g00224/impl.readBlock -/
abbrev ins46 : List Pm := [.val .str]
abbrev res46 : List (K × Mk) := [((.sl kd51), (.o .s)), ((.sl (.int .i64)), (.o .s)), (.bool, .s)]
def t46 (x : (ByteArray × Unit)) : Option (((List D51) × (List Int) × Bool × Unit) × Unit) :=
 (cond (ilt (isub .i64 (isub .i64 (slen x.1) (4 : Int)) (2 : Int)) (0 : Int))
 (some ((([] : List D51), (([] : List Int), (false, ()))), ()))
 (req (decide ((0 : Int) ≤ (isub .i64 (isub .i64 (slen x.1) (4 : Int)) (2 : Int))) && (decide ((isub .i64 (isub .i64 (slen x.1) (4 : Int)) (2 : Int)) ≤ (iadd .i64 (isub .i64 (isub .i64 (slen x.1) (4 : Int)) (2 : Int)) (2 : Int))) && decide ((iadd .i64 (isub .i64 (isub .i64 (slen x.1) (4 : Int)) (2 : Int)) (2 : Int)) ≤ ((ByteArray.size x.1) : Int)))) (bnd (t70 ((ByteArray.extract x.1 (Int.toNat (isub .i64 (isub .i64 (slen x.1) (4 : Int)) (2 : Int))) (Int.toNat (iadd .i64 (isub .i64 (isub .i64 (slen x.1) (4 : Int)) (2 : Int)) (2 : Int)))), ())) fun r1 => (cond (ilt (isub .i64 (isub .i64 (slen x.1) (4 : Int)) (2 : Int)) (imul .i64 r1.1.1 (2 : Int)))
 (some ((([] : List D51), (([] : List Int), (false, ()))), ()))
 (req (decide ((0 : Int) ≤ (isub .i64 (isub .i64 (isub .i64 (slen x.1) (4 : Int)) (2 : Int)) (imul .i64 r1.1.1 (2 : Int)))) && decide ((isub .i64 (isub .i64 (isub .i64 (slen x.1) (4 : Int)) (2 : Int)) (imul .i64 r1.1.1 (2 : Int))) ≤ ((ByteArray.size x.1) : Int))) (bnd (t71 ((ByteArray.extract x.1 (0 : Nat) (Int.toNat (isub .i64 (isub .i64 (isub .i64 (slen x.1) (4 : Int)) (2 : Int)) (imul .i64 r1.1.1 (2 : Int))))), ())) fun r2 => (cond (!r2.1.2.1)
 (some ((([] : List D51), (([] : List Int), (false, ()))), ()))
 (cond (ilt (40 : Int) (llen r2.1.1))
 (some ((([] : List D51), (([] : List Int), (false, ()))), ()))
 (bnd (t50 (r2.1.1, ())) fun r3 => (cond (!r3.1.1)
 (some ((([] : List D51), (([] : List Int), (false, ()))), ()))
 (bnd (t51 (r2.1.1, ())) fun r4 => (some ((r2.1.1, (r4.1.2.1, ((seq r4.1.1 x.1), ()))), ())))))))))))))
def sg46 : Sig := ⟨ins46, res46, t46⟩
/-! loop.example/g00224/impl.ReadBlock -/
abbrev ins25 : List Pm := [.val .str]
abbrev res25 : List (K × Mk) := [((.sl kd51), (.o .s)), (.bool, .s)]
def t25 (x : (ByteArray × Unit)) : Option (((List D51) × Bool × Unit) × Unit) :=
 (bnd (t46 (x.1, ())) fun r1 => (cond (!r1.1.2.2.1)
 (some ((([] : List D51), (false, ())), ()))
 (some ((r1.1.1, (true, ())), ()))))
def sg25 : Sig := ⟨ins25, res25, t25⟩
/-! loop.example/g00224/impl.FirstIn -/
abbrev ins18 : List Pm := [.val .str]
abbrev res18 : List (K × Mk) := [(.str, .s), (.bool, .s)]
def t18 (x : (ByteArray × Unit)) : Option ((ByteArray × Bool × Unit) × Unit) :=
 (bnd (t25 (x.1, ())) fun r1 => (cond (!r1.1.2.1)
 (some (((⟨#[]⟩ : ByteArray), (false, ())), ()))
 (cond (ieq (llen r1.1.1) (0 : Int))
 (some (((⟨#[]⟩ : ByteArray), (false, ())), ()))
 (getO r1.1.1 (0 : Int) fun _ => (bnd (r1.1.1[(Int.toNat (0 : Int))]?) fun v3 => (bnd (r1.1.1[(Int.toNat (0 : Int))]?) fun v4 => (some ((v4.1, (true, ())), ()))))))))
def sg18 : Sig := ⟨ins18, res18, t18⟩
/-! loop.example/g00224/laws.FnExactFirstIn -/
abbrev ins5 : List Pm := [.val .str]
abbrev res5 : List (K × Mk) := [(.bool, .s)]
def t5 (x : (ByteArray × Unit)) : Option ((Bool × Unit) × Unit) :=
 (cond (ilt (1048576 : Int) (slen x.1))
 (some ((true, ()), ()))
 (bnd (t17 (x.1, ())) fun r1 => (bnd (t18 (x.1, ())) fun r2 => (cond (!seq r2.1.1 r1.1.1)
 (some ((false, ()), ()))
 (cond (!beqB r2.1.2.1 r1.1.2.1)
 (some ((false, ()), ()))
 (some ((true, ()), ())))))))
def sg5 : Sig := ⟨ins5, res5, t5⟩
/-! loop.example/g00224/spec.RestartsOf -/
abbrev ins19 : List Pm := [.val .str]
abbrev res19 : List (K × Mk) := [((.sl (.int .i64)), (.o .s)), (.bool, .s)]
def t19 (x : (ByteArray × Unit)) : Option (((List Int) × Bool × Unit) × Unit) :=
 (bnd (t44 (x.1, ())) fun r1 => (cond (!r1.1.2.1)
 (some ((([] : List Int), (false, ())), ()))
 (bnd (t45 (x.1, ())) fun r2 => (some ((r2.1.2.1, (true, ())), ())))))
def sg19 : Sig := ⟨ins19, res19, t19⟩
/-! loop.example/g00224/impl.RestartsOf -/
abbrev ins20 : List Pm := [.val .str]
abbrev res20 : List (K × Mk) := [((.sl (.int .i64)), (.o .s)), (.bool, .s)]
def t20 (x : (ByteArray × Unit)) : Option (((List Int) × Bool × Unit) × Unit) :=
 (bnd (t46 (x.1, ())) fun r1 => (cond (!r1.1.2.2.1)
 (some ((([] : List Int), (false, ())), ()))
 (some ((r1.1.2.1, (true, ())), ()))))
def sg20 : Sig := ⟨ins20, res20, t20⟩
/-! loop.example/g00224/laws.FnExactRestartsOf -/
abbrev ins6 : List Pm := [.val .str]
abbrev res6 : List (K × Mk) := [(.bool, .s)]
def t6 (x : (ByteArray × Unit)) : Option ((Bool × Unit) × Unit) :=
 (cond (ilt (1048576 : Int) (slen x.1))
 (some ((true, ()), ()))
 (bnd (t19 (x.1, ())) fun r1 => (bnd (t20 (x.1, ())) fun r2 => (bnd (t21 (r2.1.1, (r1.1.1, ()))) fun r3 => (cond (!r3.1.1)
 (some ((false, ()), ()))
 (cond (!beqB r2.1.2.1 r1.1.2.1)
 (some ((false, ()), ()))
 (bnd (t22 (r2.1.1, ((1 : Int), ()))) fun r4 => (bnd (t23 (r4.2.1, ((1 : Int), ()))) fun r5 => (cond (ilt r5.1.1 (0 : Int))
 (some ((false, ()), ()))
 (cond (!ieq r5.1.1 r4.1.1)
 (some ((false, ()), ()))
 (bnd (t20 (x.1, ())) fun r6 => (bnd (t21 (r6.1.1, (r1.1.1, ()))) fun r7 => (cond (!r7.1.1)
 (some ((false, ()), ()))
 (cond (!beqB r6.1.2.1 r1.1.2.1)
 (some ((false, ()), ()))
 (bnd (t23 (r4.2.1, ((1 : Int), ()))) fun r8 => (cond (ilt r8.1.1 (0 : Int))
 (some ((false, ()), ()))
 (cond (!ieq r8.1.1 r4.1.1)
 (some ((false, ()), ()))
 (some ((true, ()), ())))))))))))))))))))
def sg6 : Sig := ⟨ins6, res6, t6⟩
/-! loop.example/g00224/spec.ReadBlock -/
abbrev ins24 : List Pm := [.val .str]
abbrev res24 : List (K × Mk) := [((.sl kd51), (.o .s)), (.bool, .s)]
def t24 (x : (ByteArray × Unit)) : Option (((List D51) × Bool × Unit) × Unit) :=
 (bnd (t44 (x.1, ())) fun r1 => (some ((r1.1.1, (r1.1.2.1, ())), ())))
def sg24 : Sig := ⟨ins24, res24, t24⟩
/-! loop.example/g00224/laws.eqItem -/
abbrev ins47 : List Pm := [.val kd51, .val kd51]
abbrev res47 : List (K × Mk) := [(.bool, .s)]
def t47 (x : (D51 × D51 × Unit)) : Option ((Bool × Unit) × Unit) :=
 (cond (!seq x.1.1 x.2.1.1)
 (some ((false, ()), ()))
 (cond (!ieq x.1.2.1 x.2.1.2.1)
 (some ((false, ()), ()))
 (cond (!ieq x.1.2.2.1 x.2.1.2.2.1)
 (some ((false, ()), ()))
 (cond (!seq x.1.2.2.2.1 x.2.1.2.2.2.1)
 (some ((false, ()), ()))
 (some ((true, ()), ()))))))
def sg47 : Sig := ⟨ins47, res47, t47⟩
/-! loop.example/g00224/laws.eqItemS -/
abbrev ins26 : List Pm := [.val (.sl kd51), .val (.sl kd51)]
abbrev res26 : List (K × Mk) := [(.bool, .s)]
abbrev t26l4c : Desc := ⟨[(0, .v (.sl kd51)), (1, .v (.sl kd51))], []⟩
abbrev t26l4v : Desc := ⟨[(5, .v (.int .i64))], []⟩
abbrev t26l4e : List (Ek × Desc) := [(.ret, ⟨[(4, .v .bool)], []⟩), (.exit 0, ⟨[], []⟩)]
def t26l4 (R : Type) (c : (((List D51) × (List D51) × Unit) × Unit)) (v : ((Int × Unit) × Unit)) (kk : (((List D51) × (List D51) × Unit) × Unit) → (((Int × Unit) × Unit) ⊕ (((Bool × Unit) × Unit) ⊕ (Unit × Unit))) → Option R) : Option R :=
 (cond (ilt v.1.1 (llen c.1.1))
 (getO c.1.1 v.1.1 fun v1 => (getO c.1.2.1 v.1.1 fun v2 => (bnd (t47 (v1, (v2, ()))) fun r3 => (cond (!r3.1.1)
 (kk ((c.1.1, (c.1.2.1, ())), ()) (.inr (.inl ((false, ()), ()))))
 (kk ((c.1.1, (c.1.2.1, ())), ()) (.inl (((iadd .i64 v.1.1 (1 : Int)), ()), ())))))))
 (kk ((c.1.1, (c.1.2.1, ())), ()) (.inr (.inr ((), ())))))
def t26 (x : ((List D51) × (List D51) × Unit)) : Option ((Bool × Unit) × Unit) :=
 (cond (!ieq (llen x.1) (llen x.2.1))
 (some ((false, ()), ()))
 (loopF (c := t26l4c) (v := t26l4v) (ex := t26l4e) t26l4 _ ((x.1, (x.2.1, ())), ()) (((0 : Int), ()), ()) fun c4 o5 =>
 (match o5 with
 | .inl y6 => (some ((y6.1.1, ()), ()))
 | .inr z7 => (some ((true, ()), ())))))
def sg26 : Sig := ⟨ins26, res26, t26⟩
/-! loop.example/g00224/laws.markItemS -/
abbrev ins27 : List Pm := [.chg (.sl kd51) (.o .s), .val (.int .i64)]
abbrev res27 : List (K × Mk) := [((.int .i64), .s)]
abbrev t27l2c : Desc := ⟨[(0, .al 0 [])], []⟩
abbrev t27l2v : Desc := ⟨[(1, .v (.int .i64)), (5, .v (.int .i64))], [(0, ⟨(.sl kd51), (.o .s), false⟩)]⟩
abbrev t27l2e : List (Ek × Desc) := [(.exit 0, ⟨[(1, .v (.int .i64))], [(0, ⟨(.sl kd51), (.o .s), false⟩)]⟩)]
def t27l2 (R : Type) (c : (Unit × Unit)) (v : ((Int × Int × Unit) × ((List D51) × Unit))) (kk : (Unit × Unit) → (((Int × Int × Unit) × ((List D51) × Unit)) ⊕ ((Int × Unit) × ((List D51) × Unit))) → Option R) : Option R :=
 (cond (ilt v.1.2.1 (llen v.2.1))
 (bnd (t48 (v.1.1, ())) fun r1 => (getO v.2.1 v.1.2.1 fun _ => (bnd (v.2.1[(Int.toNat v.1.2.1)]?) fun v3 => (bnd (v.2.1[(Int.toNat v.1.2.1)]?) fun v4 => (getO (List.set v.2.1 (Int.toNat v.1.2.1) (r1.1.1, v4.2)) v.1.2.1 fun _ => (bnd ((List.set v.2.1 (Int.toNat v.1.2.1) (r1.1.1, v4.2))[(Int.toNat v.1.2.1)]?) fun v6 => (bnd ((List.set v.2.1 (Int.toNat v.1.2.1) (r1.1.1, v4.2))[(Int.toNat v.1.2.1)]?) fun v7 => (getO (List.set (List.set v.2.1 (Int.toNat v.1.2.1) (r1.1.1, v4.2)) (Int.toNat v.1.2.1) (v7.1, ((iadd .i64 v.1.1 (1 : Int)), v7.2.2))) v.1.2.1 fun _ => (bnd ((List.set (List.set v.2.1 (Int.toNat v.1.2.1) (r1.1.1, v4.2)) (Int.toNat v.1.2.1) (v7.1, ((iadd .i64 v.1.1 (1 : Int)), v7.2.2)))[(Int.toNat v.1.2.1)]?) fun v9 => (bnd ((List.set (List.set v.2.1 (Int.toNat v.1.2.1) (r1.1.1, v4.2)) (Int.toNat v.1.2.1) (v7.1, ((iadd .i64 v.1.1 (1 : Int)), v7.2.2)))[(Int.toNat v.1.2.1)]?) fun v10 => (bnd (t48 ((iadd .i64 (iadd .i64 (iadd .i64 v.1.1 (1 : Int)) (1 : Int)) (1 : Int)), ())) fun r11 => (getO (List.set (List.set (List.set v.2.1 (Int.toNat v.1.2.1) (r1.1.1, v4.2)) (Int.toNat v.1.2.1) (v7.1, ((iadd .i64 v.1.1 (1 : Int)), v7.2.2))) (Int.toNat v.1.2.1) (v10.1, (v10.2.1, ((iadd .i64 (iadd .i64 v.1.1 (1 : Int)) (1 : Int)), v10.2.2.2)))) v.1.2.1 fun _ => (bnd ((List.set (List.set (List.set v.2.1 (Int.toNat v.1.2.1) (r1.1.1, v4.2)) (Int.toNat v.1.2.1) (v7.1, ((iadd .i64 v.1.1 (1 : Int)), v7.2.2))) (Int.toNat v.1.2.1) (v10.1, (v10.2.1, ((iadd .i64 (iadd .i64 v.1.1 (1 : Int)) (1 : Int)), v10.2.2.2))))[(Int.toNat v.1.2.1)]?) fun v13 => (bnd ((List.set (List.set (List.set v.2.1 (Int.toNat v.1.2.1) (r1.1.1, v4.2)) (Int.toNat v.1.2.1) (v7.1, ((iadd .i64 v.1.1 (1 : Int)), v7.2.2))) (Int.toNat v.1.2.1) (v10.1, (v10.2.1, ((iadd .i64 (iadd .i64 v.1.1 (1 : Int)) (1 : Int)), v10.2.2.2))))[(Int.toNat v.1.2.1)]?) fun v14 => (kk ((), ()) (.inl (((iadd .i64 (iadd .i64 (iadd .i64 (iadd .i64 v.1.1 (1 : Int)) (1 : Int)) (1 : Int)) (1 : Int)), ((iadd .i64 v.1.2.1 (1 : Int)), ())), ((List.set (List.set (List.set (List.set v.2.1 (Int.toNat v.1.2.1) (r1.1.1, v4.2)) (Int.toNat v.1.2.1) (v7.1, ((iadd .i64 v.1.1 (1 : Int)), v7.2.2))) (Int.toNat v.1.2.1) (v10.1, (v10.2.1, ((iadd .i64 (iadd .i64 v.1.1 (1 : Int)) (1 : Int)), v10.2.2.2)))) (Int.toNat v.1.2.1) (v14.1, (v14.2.1, (v14.2.2.1, (r11.1.1, v14.2.2.2.2))))), ()))))))))))))))))))
 (kk ((), ()) (.inr ((v.1.1, ()), (v.2.1, ())))))
def t27 (x : ((List D51) × Int × Unit)) : Option ((Int × Unit) × ((List D51) × Unit)) :=
 (loopF (c := t27l2c) (v := t27l2v) (ex := t27l2e) t27l2 _ ((), ()) ((x.2.1, ((0 : Int), ())), (x.1, ())) fun c15 o16 =>
 (some ((o16.1.1, ()), (o16.2.1, ()))))
def sg27 : Sig := ⟨ins27, res27, t27⟩
/-! loop.example/g00224/laws.heldItemS -/
abbrev ins28 : List Pm := [.val (.sl kd51), .val (.int .i64)]
abbrev res28 : List (K × Mk) := [((.int .i64), .s)]
abbrev t28l2c : Desc := ⟨[(0, .v (.sl kd51))], []⟩
abbrev t28l2v : Desc := ⟨[(1, .v (.int .i64)), (5, .v (.int .i64))], []⟩
abbrev t28l2e : List (Ek × Desc) := [(.ret, ⟨[(4, .v (.int .i64))], []⟩), (.exit 0, ⟨[(1, .v (.int .i64))], []⟩)]
def t28l2 (R : Type) (c : (((List D51) × Unit) × Unit)) (v : ((Int × Int × Unit) × Unit)) (kk : (((List D51) × Unit) × Unit) → (((Int × Int × Unit) × Unit) ⊕ (((Int × Unit) × Unit) ⊕ ((Int × Unit) × Unit))) → Option R) : Option R :=
 (cond (ilt v.1.2.1 (llen c.1.1))
 (getO c.1.1 v.1.2.1 fun v1 => (bnd (t48 (v.1.1, ())) fun r2 => (cond (!seq v1.1 r2.1.1)
 (kk ((c.1.1, ()), ()) (.inr (.inl (((-1 : Int), ()), ()))))
 (getO c.1.1 v.1.2.1 fun v3 => (cond (!ieq v3.2.1 (iadd .i64 v.1.1 (1 : Int)))
 (kk ((c.1.1, ()), ()) (.inr (.inl (((-1 : Int), ()), ()))))
 (getO c.1.1 v.1.2.1 fun v4 => (cond (!ieq v4.2.2.1 (iadd .i64 (iadd .i64 v.1.1 (1 : Int)) (1 : Int)))
 (kk ((c.1.1, ()), ()) (.inr (.inl (((-1 : Int), ()), ()))))
 (getO c.1.1 v.1.2.1 fun v5 => (bnd (t48 ((iadd .i64 (iadd .i64 (iadd .i64 v.1.1 (1 : Int)) (1 : Int)) (1 : Int)), ())) fun r6 => (cond (!seq v5.2.2.2.1 r6.1.1)
 (kk ((c.1.1, ()), ()) (.inr (.inl (((-1 : Int), ()), ()))))
 (kk ((c.1.1, ()), ()) (.inl (((iadd .i64 (iadd .i64 (iadd .i64 (iadd .i64 v.1.1 (1 : Int)) (1 : Int)) (1 : Int)) (1 : Int)), ((iadd .i64 v.1.2.1 (1 : Int)), ())), ())))))))))))))
 (kk ((c.1.1, ()), ()) (.inr (.inr ((v.1.1, ()), ())))))
def t28 (x : ((List D51) × Int × Unit)) : Option ((Int × Unit) × Unit) :=
 (loopF (c := t28l2c) (v := t28l2v) (ex := t28l2e) t28l2 _ ((x.1, ()), ()) ((x.2.1, ((0 : Int), ())), ()) fun c7 o8 =>
 (match o8 with
 | .inl y9 => (some ((y9.1.1, ()), ()))
 | .inr z10 => (some ((z10.1.1, ()), ()))))
def sg28 : Sig := ⟨ins28, res28, t28⟩
/-! loop.example/g00224/laws.FnExactReadBlock -/
abbrev ins7 : List Pm := [.val .str]
abbrev res7 : List (K × Mk) := [(.bool, .s)]
def t7 (x : (ByteArray × Unit)) : Option ((Bool × Unit) × Unit) :=
 (cond (ilt (1048576 : Int) (slen x.1))
 (some ((true, ()), ()))
 (bnd (t24 (x.1, ())) fun r1 => (bnd (t25 (x.1, ())) fun r2 => (bnd (t26 (r2.1.1, (r1.1.1, ()))) fun r3 => (cond (!r3.1.1)
 (some ((false, ()), ()))
 (cond (!beqB r2.1.2.1 r1.1.2.1)
 (some ((false, ()), ()))
 (bnd (t27 (r2.1.1, ((1 : Int), ()))) fun r4 => (bnd (t28 (r4.2.1, ((1 : Int), ()))) fun r5 => (cond (ilt r5.1.1 (0 : Int))
 (some ((false, ()), ()))
 (cond (!ieq r5.1.1 r4.1.1)
 (some ((false, ()), ()))
 (bnd (t25 (x.1, ())) fun r6 => (bnd (t26 (r6.1.1, (r1.1.1, ()))) fun r7 => (cond (!r7.1.1)
 (some ((false, ()), ()))
 (cond (!beqB r6.1.2.1 r1.1.2.1)
 (some ((false, ()), ()))
 (bnd (t28 (r4.2.1, ((1 : Int), ()))) fun r8 => (cond (ilt r8.1.1 (0 : Int))
 (some ((false, ()), ()))
 (cond (!ieq r8.1.1 r4.1.1)
 (some ((false, ()), ()))
 (some ((true, ()), ())))))))))))))))))))
def sg7 : Sig := ⟨ins7, res7, t7⟩
/-! (*loop.example/g00224/spec.l1Cur).next -/
abbrev ins102 : List Pm := [.mptr kd96 .s]
abbrev res102 : List (K × Mk) := [((.int .i64), .s)]
abbrev t102i3c : Desc := ⟨[(0, .ptr 0 []), (13, .v .bool)], [(0, ⟨kd96, .s, true⟩)]⟩
abbrev t102i3v : Desc := ⟨[(3, .v (.int .i64))], []⟩
abbrev t102i3e : List (Ek × Desc) := [(.norm, ⟨[(3, .v (.int .i64))], []⟩)]
def t102i3 (R : Type) (c : ((Bool × Unit) × (D96 × Unit))) (v : ((Int × Unit) × Unit)) (kk : ((Bool × Unit) × (D96 × Unit)) → ((Int × Unit) × Unit) → Option R) : Option R :=
 (cond c.1.1
 (getO c.2.1.1 c.2.1.2.1 fun v1 => (kk ((c.1.1, ()), (c.2.1, ())) (((IntKind.wrap .i64 v1), ()), ())))
 (kk ((c.1.1, ()), (c.2.1, ())) ((v.1.1, ()), ())))
def t102 (x : (D96 × Unit)) : Option ((Int × Unit) × (D96 × Unit)) :=
 (t102i3 _ (((ilt x.1.2.1 (llen x.1.1)), ()), (x.1, ())) (((0 : Int), ()), ()) fun c2 o3 =>
 (cond (ile (iadd .i64 c2.2.1.2.1 (1 : Int)) (llen c2.2.1.1))
 (some ((o3.1.1, ()), ((c2.2.1.1, ((iadd .i64 c2.2.1.2.1 (1 : Int)), ((iadd .u64 (iadd .u64 (imul .u64 c2.2.1.2.2.1 (6364136223846793005 : Int)) (IntKind.wrap .u64 o3.1.1)) (1442695040888963407 : Int)), c2.2.1.2.2.2))), ())))
 (some (((IntKind.wrap .i64 (iand .u64 (ishr .u64 (iadd .u64 (iadd .u64 (imul .u64 c2.2.1.2.2.1 (6364136223846793005 : Int)) (IntKind.wrap .u64 o3.1.1)) (1442695040888963407 : Int)) (40 : Int)) (255 : Int))), ()), ((c2.2.1.1, ((iadd .i64 c2.2.1.2.1 (1 : Int)), ((iadd .u64 (iadd .u64 (imul .u64 c2.2.1.2.2.1 (6364136223846793005 : Int)) (IntKind.wrap .u64 o3.1.1)) (1442695040888963407 : Int)), c2.2.1.2.2.2))), ())))))
def sg102 : Sig := ⟨ins102, res102, t102⟩
/-! (*loop.example/g00224/spec.l1Cur).pick -/
abbrev ins93 : List Pm := [.mptr kd96 .s, .val (.int .i64)]
abbrev res93 : List (K × Mk) := [((.int .i64), .s)]
abbrev t93i5c : Desc := ⟨[(0, .ptr 0 []), (1, .v (.int .i64)), (11, .v .bool)], []⟩
abbrev t93i5v : Desc := ⟨[(5, .v (.int .i64))], [(0, ⟨kd96, .s, true⟩)]⟩
abbrev t93i5e : List (Ek × Desc) := [(.norm, ⟨[(5, .v (.int .i64))], [(0, ⟨kd96, .s, true⟩)]⟩)]
def t93i5 (R : Type) (c : ((Int × Bool × Unit) × Unit)) (v : ((Int × Unit) × (D96 × Unit))) (kk : ((Int × Bool × Unit) × Unit) → ((Int × Unit) × (D96 × Unit)) → Option R) : Option R :=
 (cond c.1.2.1
 (bnd (t102 (v.2.1, ())) fun r2 => (kk ((c.1.1, (c.1.2.1, ())), ()) (((iadd .i64 (imul .i64 v.1.1 (256 : Int)) r2.1.1), ()), (r2.2.1, ()))))
 (kk ((c.1.1, (c.1.2.1, ())), ()) ((v.1.1, ()), (v.2.1, ()))))
def t93 (x : (D96 × Int × Unit)) : Option ((Int × Unit) × (D96 × Unit)) :=
 (cond (ile x.2.1 (1 : Int))
 (some (((0 : Int), ()), (x.1, ())))
 (bnd (t102 (x.1, ())) fun r1 => (t93i5 _ ((x.2.1, ((ilt (200 : Int) x.2.1), ())), ()) ((r1.1.1, ()), (r1.2.1, ())) fun c3 o4 =>
 (req (!decide (c3.1.1 = (0 : Int))) (some (((irem .i64 o4.1.1 c3.1.1), ()), (o4.2.1, ())))))))
def sg93 : Sig := ⟨ins93, res93, t93⟩
/-! (*loop.example/g00224/spec.l1Cur).one -/
abbrev ins94 : List Pm := [.mptr kd96 .s, .val (.int .i64)]
abbrev res94 : List (K × Mk) := [(.bool, .s)]
def t94 (x : (D96 × Int × Unit)) : Option ((Bool × Unit) × (D96 × Unit)) :=
 (bnd (t93 (x.1, (x.2.1, ()))) fun r1 => (some (((ieq r1.1.1 (0 : Int)), ()), (r1.2.1, ()))))
def sg94 : Sig := ⟨ins94, res94, t94⟩
/-! (*loop.example/g00224/spec.l1Cur).of -/
abbrev ins112 : List Pm := [.mptr kd96 .s, .mov (.sl .str) (.o .s)]
abbrev res112 : List (K × Mk) := [(.str, .s)]
def t112 (x : (D96 × (List ByteArray) × Unit)) : Option ((ByteArray × Unit) × (D96 × Unit)) :=
 (bnd (t93 (x.1, ((llen x.2.1), ()))) fun r1 => (getO x.2.1 r1.1.1 fun _ => (bnd (x.2.1[(Int.toNat r1.1.1)]?) fun v3 => (some ((v3, ()), (r1.2.1, ()))))))
def sg112 : Sig := ⟨ins112, res112, t112⟩
/-! (*loop.example/g00224/spec.l1Cur).key -/
abbrev ins108 : List Pm := [.mptr kd96 .s]
abbrev res108 : List (K × Mk) := [(.str, .s)]
def t108 (x : (D96 × Unit)) : Option ((ByteArray × Unit) × (D96 × Unit)) :=
 (bnd (t94 (x.1, ((60 : Int), ()))) fun r1 => (cond r1.1.1
 (bnd (t112 (r1.2.1, ([(⟨#[]⟩ : ByteArray), (⟨#[49, 50, 51, 52, 53, 54, 55, 56, 57, 48, 49, 50, 51, 52, 53, 54, 55]⟩ : ByteArray)], ()))) fun r2 => (some ((r2.1.1, ()), (r2.2.1, ()))))
 (bnd (t112 (r1.2.1, ([(⟨#[97]⟩ : ByteArray), (⟨#[98]⟩ : ByteArray), (⟨#[98, 97]⟩ : ByteArray), (⟨#[99]⟩ : ByteArray), (⟨#[99, 97, 114]⟩ : ByteArray), (⟨#[100]⟩ : ByteArray), (⟨#[101]⟩ : ByteArray)], ()))) fun r3 => (some ((r3.1.1, ()), (r3.2.1, ()))))))
def sg108 : Sig := ⟨ins108, res108, t108⟩
/-! (*loop.example/g00224/spec.l1Cur).text -/
abbrev ins109 : List Pm := [.mptr kd96 .s, .val (.int .i64)]
abbrev res109 : List (K × Mk) := [(.str, .s)]
abbrev t109l3c : Desc := ⟨[(0, .ptr 0 []), (5, .al 5 []), (10, .v (.int .i64))], []⟩
abbrev t109l3v : Desc := ⟨[(11, .v (.int .i64))], [(0, ⟨kd96, .s, true⟩), (5, ⟨(.sl (.int .u8)), (.o .s), false⟩)]⟩
abbrev t109l3e : List (Ek × Desc) := [(.exit 0, ⟨[], [(0, ⟨kd96, .s, true⟩), (5, ⟨(.sl (.int .u8)), (.o .s), false⟩)]⟩)]
def t109l3 (R : Type) (c : ((Int × Unit) × Unit)) (v : ((Int × Unit) × (D96 × (List Int) × Unit))) (kk : ((Int × Unit) × Unit) → (((Int × Unit) × (D96 × (List Int) × Unit)) ⊕ (Unit × (D96 × (List Int) × Unit))) → Option R) : Option R :=
 (cond (ilt v.1.1 c.1.1)
 (bnd (t93 (v.2.1, ((256 : Int), ()))) fun r1 => (getO v.2.2.1 v.1.1 fun _ => (bnd (v.2.2.1[(Int.toNat v.1.1)]?) fun v3 => (kk ((c.1.1, ()), ()) (.inl (((iadd .i64 v.1.1 (1 : Int)), ()), (r1.2.1, ((List.set v.2.2.1 (Int.toNat v.1.1) (IntKind.wrap .u8 r1.1.1)), ()))))))))
 (kk ((c.1.1, ()), ()) (.inr ((), (v.2.1, (v.2.2.1, ()))))))
def t109 (x : (D96 × Int × Unit)) : Option ((ByteArray × Unit) × (D96 × Unit)) :=
 (req (decide (x.2.1 = x.2.1) && (decide ((0 : Int) ≤ x.2.1) && decide (x.2.1 ≤ (68719476736 : Int)))) (loopF (c := t109l3c) (v := t109l3v) (ex := t109l3e) t109l3 _ (((llen (List.replicate (Int.toNat x.2.1) ((0 : Int) : Int))), ()), ()) (((0 : Int), ()), (x.1, ((List.replicate (Int.toNat x.2.1) ((0 : Int) : Int)), ()))) fun c4 o5 =>
 (some (((strOf o5.2.2.1), ()), (o5.2.1, ())))))
def sg109 : Sig := ⟨ins109, res109, t109⟩
/-! (*loop.example/g00224/spec.l1Cur).among -/
abbrev ins110 : List Pm := [.mptr kd96 .s, .mov (.sl (.int .i64)) (.o .s)]
abbrev res110 : List (K × Mk) := [((.int .i64), .s)]
def t110 (x : (D96 × (List Int) × Unit)) : Option ((Int × Unit) × (D96 × Unit)) :=
 (bnd (t93 (x.1, ((llen x.2.1), ()))) fun r1 => (getO x.2.1 r1.1.1 fun _ => (bnd (x.2.1[(Int.toNat r1.1.1)]?) fun v3 => (some ((v3, ()), (r1.2.1, ()))))))
def sg110 : Sig := ⟨ins110, res110, t110⟩
/-! (*loop.example/g00224/spec.l1Cur).item -/
abbrev ins103 : List Pm := [.mptr kd96 .s]
abbrev res103 : List (K × Mk) := [(kd51, .s)]
abbrev t103i3c : Desc := ⟨[(0, .ptr 0 []), (2, .ptr 2 []), (3, .ptr 3 []), (14, .v .bool)], [(0, ⟨kd96, .s, true⟩), (2, ⟨kd51, .s, true⟩)]⟩
abbrev t103i3v : Desc := ⟨[], [(3, ⟨kd51, .s, true⟩)]⟩
abbrev t103i3e : List (Ek × Desc) := [(.norm, ⟨[], [(3, ⟨kd51, .s, true⟩)]⟩)]
def t103i3 (R : Type) (c : ((Bool × Unit) × (D96 × D51 × Unit))) (v : (Unit × (D51 × Unit))) (kk : ((Bool × Unit) × (D96 × D51 × Unit)) → (Unit × (D51 × Unit)) → Option R) : Option R :=
 (cond c.1.1
 (kk ((c.1.1, ()), (c.2.1, (c.2.2.1, ()))) ((), ((v.2.1.1, (v.2.1.2.1, ((0 : Int), ((⟨#[]⟩ : ByteArray), v.2.1.2.2.2.2)))), ())))
 (kk ((c.1.1, ()), (c.2.1, (c.2.2.1, ()))) ((), (v.2.1, ()))))
abbrev t103i9c : Desc := ⟨[(0, .ptr 0 []), (2, .ptr 2 []), (3, .ptr 3 []), (25, .v .bool)], [(2, ⟨kd51, .s, true⟩)]⟩
abbrev t103i9v : Desc := ⟨[], [(0, ⟨kd96, .s, true⟩), (3, ⟨kd51, .s, true⟩)]⟩
abbrev t103i9e : List (Ek × Desc) := [(.norm, ⟨[], [(0, ⟨kd96, .s, true⟩), (3, ⟨kd51, .s, true⟩)]⟩)]
def t103i9 (R : Type) (c : ((Bool × Unit) × (D51 × Unit))) (v : (Unit × (D96 × D51 × Unit))) (kk : ((Bool × Unit) × (D51 × Unit)) → (Unit × (D96 × D51 × Unit)) → Option R) : Option R :=
 (cond c.1.1
 (bnd (t93 (v.2.1, ((2 : Int), ()))) fun r10 => (req (decide ((iadd .i64 (40 : Int) r10.1.1) = (iadd .i64 (40 : Int) r10.1.1)) && (decide ((0 : Int) ≤ (iadd .i64 (40 : Int) r10.1.1)) && decide ((iadd .i64 (40 : Int) r10.1.1) ≤ (68719476736 : Int)))) (kk ((c.1.1, ()), (c.2.1, ())) ((), (r10.2.1, ((v.2.2.1.1, (v.2.2.1.2.1, (v.2.2.1.2.2.1, ((strOf (List.replicate (Int.toNat (iadd .i64 (40 : Int) r10.1.1)) ((0 : Int) : Int))), v.2.2.1.2.2.2.2)))), ()))))))
 (kk ((c.1.1, ()), (c.2.1, ())) ((), (v.2.1, (v.2.2.1, ())))))
abbrev t103i7c : Desc := ⟨[(0, .ptr 0 []), (2, .ptr 2 []), (3, .ptr 3 [])], []⟩
abbrev t103i7v : Desc := ⟨[(18, .v (.int .i64)), (19, .v .bool)], [(0, ⟨kd96, .s, true⟩), (2, ⟨kd51, .s, true⟩), (3, ⟨kd51, .s, true⟩)]⟩
abbrev t103i7e : List (Ek × Desc) := [(.norm, ⟨[], [(0, ⟨kd96, .s, true⟩), (2, ⟨kd51, .s, true⟩), (3, ⟨kd51, .s, true⟩)]⟩)]
def t103i7 (R : Type) (c : (Unit × Unit)) (v : ((Int × Bool × Unit) × (D96 × D51 × D51 × Unit))) (kk : (Unit × Unit) → (Unit × (D96 × D51 × D51 × Unit)) → Option R) : Option R :=
 (cond v.1.2.1
 (bnd (t110 (v.2.1, ([(-1 : Int), (1000000000 : Int), (1000000001 : Int)], ()))) fun r9 => (kk ((), ()) ((), (r9.2.1, (v.2.2.1, ((v.2.2.2.1.1, (r9.1.1, v.2.2.2.1.2.2)), ()))))))
 (t103i9 _ (((ieq v.1.1 (1 : Int)), ()), (v.2.2.1, ())) ((), (v.2.1, (v.2.2.2.1, ()))) fun c10 o11 =>
 (kk ((), ()) ((), (o11.2.1, (c10.2.1, (o11.2.2.1, ())))))))
def t103 (x : (D96 × Unit)) : Option ((D51 × Unit) × (D96 × Unit)) :=
 (bnd (t108 (x.1, ())) fun r1 => (bnd (t93 (r1.2.1, ((20 : Int), ()))) fun r2 => (bnd (t93 (r2.2.1, ((5 : Int), ()))) fun r3 => (bnd (t109 (r3.2.1, (r3.1.1, ()))) fun r4 => (bnd (t94 (r4.2.1, ((4 : Int), ()))) fun r5 => (t103i3 _ ((r5.1.1, ()), (r5.2.1, (((⟨#[]⟩ : ByteArray), ((0 : Int), ((0 : Int), ((⟨#[]⟩ : ByteArray), ())))), ()))) ((), ((r1.1.1, (r2.1.1, ((1 : Int), (r4.1.1, ())))), ())) fun c6 o7 =>
 (bnd (t93 (c6.2.1, ((60 : Int), ()))) fun r8 => (t103i7 _ ((), ()) ((r8.1.1, ((ieq r8.1.1 (0 : Int)), ())), (r8.2.1, (c6.2.2.1, (o7.2.1, ())))) fun c12 o13 =>
 (some ((o13.2.2.2.1, ()), (o13.2.1, ())))))))))))
def sg103 : Sig := ⟨ins103, res103, t103⟩
/-! loop.example/g00224/spec.l6Seek -/
abbrev ins111 : List Pm := [.val (.sl kd51), .val kd51]
abbrev res111 : List (K × Mk) := [((.int .i64), .s)]
abbrev t111i6c : Desc := ⟨[(0, .v (.sl kd51)), (3, .ptr 3 []), (7, .v (.int .i64)), (23, .v .bool)], [(3, ⟨kd51, .s, true⟩)]⟩
abbrev t111i6v : Desc := ⟨[(5, .v (.int .i64)), (6, .v (.int .i64))], []⟩
abbrev t111i6e : List (Ek × Desc) := [(.norm, ⟨[(5, .v (.int .i64)), (6, .v (.int .i64))], []⟩)]
def t111i6 (R : Type) (c : (((List D51) × Int × Bool × Unit) × (D51 × Unit))) (v : ((Int × Int × Unit) × Unit)) (kk : (((List D51) × Int × Bool × Unit) × (D51 × Unit)) → ((Int × Int × Unit) × Unit) → Option R) : Option R :=
 (cond c.1.2.2.1
 (kk ((c.1.1, (c.1.2.1, (c.1.2.2.1, ()))), (c.2.1, ())) (((iadd .i64 c.1.2.1 (1 : Int)), (v.1.2.1, ())), ()))
 (kk ((c.1.1, (c.1.2.1, (c.1.2.2.1, ()))), (c.2.1, ())) ((v.1.1, (c.1.2.1, ())), ())))
abbrev t111l3c : Desc := ⟨[(3, .ptr 3 [])], []⟩
abbrev t111l3v : Desc := ⟨[(0, .v (.sl kd51)), (5, .v (.int .i64)), (6, .v (.int .i64))], [(3, ⟨kd51, .s, true⟩)]⟩
abbrev t111l3e : List (Ek × Desc) := [(.exit 0, ⟨[(5, .v (.int .i64))], [(3, ⟨kd51, .s, true⟩)]⟩)]
def t111l3 (R : Type) (c : (Unit × Unit)) (v : (((List D51) × Int × Int × Unit) × (D51 × Unit))) (kk : (Unit × Unit) → ((((List D51) × Int × Int × Unit) × (D51 × Unit)) ⊕ ((Int × Unit) × (D51 × Unit))) → Option R) : Option R :=
 (cond (ilt v.1.2.1 v.1.2.2.1)
 (getO v.1.1 (iquo .i64 (iadd .i64 v.1.2.1 v.1.2.2.1) (2 : Int)) fun v1 => (bnd (t80 (v1, (v.2.1, ()))) fun r2 => (t111i6 _ ((v.1.1, ((iquo .i64 (iadd .i64 v.1.2.1 v.1.2.2.1) (2 : Int)), ((ilt r2.1.1 (0 : Int)), ()))), (v.2.1, ())) ((v.1.2.1, (v.1.2.2.1, ())), ()) fun c3 o4 =>
 (kk ((), ()) (.inl ((c3.1.1, (o4.1.1, (o4.1.2.1, ()))), (c3.2.1, ())))))))
 (kk ((), ()) (.inr ((v.1.2.1, ()), (v.2.1, ())))))
def t111 (x : ((List D51) × D51 × Unit)) : Option ((Int × Unit) × Unit) :=
 (loopF (c := t111l3c) (v := t111l3v) (ex := t111l3e) t111l3 _ ((), ()) ((x.1, ((0 : Int), ((llen x.1), ()))), (x.2.1, ())) fun c5 o6 =>
 (some ((o6.1.1, ()), ())))
def sg111 : Sig := ⟨ins111, res111, t111⟩
/-! loop.example/g00224/spec.l6Put -/
abbrev ins104 : List Pm := [.mov (.sl kd51) (.o .s), .val kd51]
abbrev res104 : List (K × Mk) := [((.sl kd51), (.o .s))]
def t104 (x : ((List D51) × D51 × Unit)) : Option (((List D51) × Unit) × Unit) :=
 (bnd (t111 (x.1, (x.2.1, ()))) fun r1 => (cond (ilt r1.1.1 (llen x.1))
 (getO x.1 r1.1.1 fun _ => (bnd (x.1[(Int.toNat r1.1.1)]?) fun v3 => (bnd (t80 (v3, (x.2.1, ()))) fun r4 => (cond (ieq r4.1.1 (0 : Int))
 (some ((x.1, ()), ()))
 (req (decide ((0 : Int) ≤ r1.1.1) && decide (r1.1.1 ≤ ((List.length x.1) : Int))) (req (decide (List.length ([] : List D51) + List.length (List.take ((Int.toNat r1.1.1) - (0 : Nat)) (List.drop (0 : Nat) x.1)) ≤ 17179869184)) (req (decide (List.length (([] : List D51) ++ (List.take ((Int.toNat r1.1.1) - (0 : Nat)) (List.drop (0 : Nat) x.1))) + List.length [x.2.1] ≤ 17179869184)) (req (decide ((0 : Int) ≤ r1.1.1) && decide (r1.1.1 ≤ ((List.length x.1) : Int))) (req (decide (List.length ((([] : List D51) ++ (List.take ((Int.toNat r1.1.1) - (0 : Nat)) (List.drop (0 : Nat) x.1))) ++ [x.2.1]) + List.length (List.take ((List.length x.1) - (Int.toNat r1.1.1)) (List.drop (Int.toNat r1.1.1) x.1)) ≤ 17179869184)) (some (((((([] : List D51) ++ (List.take ((Int.toNat r1.1.1) - (0 : Nat)) (List.drop (0 : Nat) x.1))) ++ [x.2.1]) ++ (List.take ((List.length x.1) - (Int.toNat r1.1.1)) (List.drop (Int.toNat r1.1.1) x.1))), ()), ())))))))))))
 (req (decide ((0 : Int) ≤ r1.1.1) && decide (r1.1.1 ≤ ((List.length x.1) : Int))) (req (decide (List.length ([] : List D51) + List.length (List.take ((Int.toNat r1.1.1) - (0 : Nat)) (List.drop (0 : Nat) x.1)) ≤ 17179869184)) (req (decide (List.length (([] : List D51) ++ (List.take ((Int.toNat r1.1.1) - (0 : Nat)) (List.drop (0 : Nat) x.1))) + List.length [x.2.1] ≤ 17179869184)) (req (decide ((0 : Int) ≤ r1.1.1) && decide (r1.1.1 ≤ ((List.length x.1) : Int))) (req (decide (List.length ((([] : List D51) ++ (List.take ((Int.toNat r1.1.1) - (0 : Nat)) (List.drop (0 : Nat) x.1))) ++ [x.2.1]) + List.length (List.take ((List.length x.1) - (Int.toNat r1.1.1)) (List.drop (Int.toNat r1.1.1) x.1)) ≤ 17179869184)) (some (((((([] : List D51) ++ (List.take ((Int.toNat r1.1.1) - (0 : Nat)) (List.drop (0 : Nat) x.1))) ++ [x.2.1]) ++ (List.take ((List.length x.1) - (Int.toNat r1.1.1)) (List.drop (Int.toNat r1.1.1) x.1))), ()), ())))))))))
def sg104 : Sig := ⟨ins104, res104, t104⟩
/-! (*loop.example/g00224/spec.l1Cur).run -/
abbrev ins95 : List Pm := [.mptr kd96 .s, .val (.int .i64)]
abbrev res95 : List (K × Mk) := [((.sl kd51), (.o .s))]
abbrev t95i6c : Desc := ⟨[(0, .ptr 0 []), (1, .v (.int .i64)), (5, .al 5 []), (6, .ptr 6 []), (14, .v .bool)], [(0, ⟨kd96, .s, true⟩), (6, ⟨kd51, .s, true⟩)]⟩
abbrev t95i6v : Desc := ⟨[], [(5, ⟨(.sl kd51), (.o .s), false⟩)]⟩
abbrev t95i6e : List (Ek × Desc) := [(.norm, ⟨[], [(5, ⟨(.sl kd51), (.o .s), false⟩)]⟩)]
def t95i6 (R : Type) (c : ((Int × Bool × Unit) × (D96 × D51 × Unit))) (v : (Unit × ((List D51) × Unit))) (kk : ((Int × Bool × Unit) × (D96 × D51 × Unit)) → (Unit × ((List D51) × Unit)) → Option R) : Option R :=
 (cond c.1.2.1
 (bnd (t104 (v.2.1, (c.2.2.1, ()))) fun r3 => (kk ((c.1.1, (c.1.2.1, ())), (c.2.1, (c.2.2.1, ()))) ((), (r3.1.1, ()))))
 (kk ((c.1.1, (c.1.2.1, ())), (c.2.1, (c.2.2.1, ()))) ((), (v.2.1, ()))))
abbrev t95l2c : Desc := ⟨[(0, .ptr 0 []), (5, .al 5 [])], []⟩
abbrev t95l2v : Desc := ⟨[(1, .v (.int .i64))], [(0, ⟨kd96, .s, true⟩), (5, ⟨(.sl kd51), (.o .s), false⟩)]⟩
abbrev t95l2e : List (Ek × Desc) := [(.exit 0, ⟨[], [(0, ⟨kd96, .s, true⟩), (5, ⟨(.sl kd51), (.o .s), false⟩)]⟩)]
def t95l2 (R : Type) (c : (Unit × Unit)) (v : ((Int × Unit) × (D96 × (List D51) × Unit))) (kk : (Unit × Unit) → (((Int × Unit) × (D96 × (List D51) × Unit)) ⊕ (Unit × (D96 × (List D51) × Unit))) → Option R) : Option R :=
 (cond (ilt (0 : Int) v.1.1)
 (bnd (t103 (v.2.1, ())) fun r1 => (bnd (t79 (r1.1.1, ())) fun r2 => (t95i6 _ ((v.1.1, (r2.1.1, ())), (r1.2.1, (r1.1.1, ()))) ((), (v.2.2.1, ())) fun c3 o4 =>
 (kk ((), ()) (.inl (((isub .i64 c3.1.1 (1 : Int)), ()), (c3.2.1, (o4.2.1, ()))))))))
 (kk ((), ()) (.inr ((), (v.2.1, (v.2.2.1, ()))))))
def t95 (x : (D96 × Int × Unit)) : Option (((List D51) × Unit) × (D96 × Unit)) :=
 (loopF (c := t95l2c) (v := t95l2v) (ex := t95l2e) t95l2 _ ((), ()) ((x.2.1, ()), (x.1, (([] : List D51), ()))) fun c5 o6 =>
 (some ((o6.2.2.1, ()), (o6.2.1, ()))))
def sg95 : Sig := ⟨ins95, res95, t95⟩
/-! (*loop.example/g00224/spec.l1Cur).block -/
abbrev ins72 : List Pm := [.mptr kd96 .s]
abbrev res72 : List (K × Mk) := [((.sl kd51), (.o .s))]
abbrev t72i3c : Desc := ⟨[(0, .ptr 0 []), (8, .v .bool)], [(0, ⟨kd96, .s, true⟩)]⟩
abbrev t72i3v : Desc := ⟨[(3, .v (.int .i64))], []⟩
abbrev t72i3e : List (Ek × Desc) := [(.norm, ⟨[(3, .v (.int .i64))], []⟩)]
def t72i3 (R : Type) (c : ((Bool × Unit) × (D96 × Unit))) (v : ((Int × Unit) × Unit)) (kk : ((Bool × Unit) × (D96 × Unit)) → ((Int × Unit) × Unit) → Option R) : Option R :=
 (cond c.1.1
 (kk ((c.1.1, ()), (c.2.1, ())) (((70 : Int), ()), ()))
 (kk ((c.1.1, ()), (c.2.1, ())) ((v.1.1, ()), ())))
abbrev t72i6c : Desc := ⟨[(0, .ptr 0 []), (4, .al 4 []), (18, .v .bool)], [(0, ⟨kd96, .s, true⟩)]⟩
abbrev t72i6v : Desc := ⟨[], [(4, ⟨(.sl kd51), (.o .s), false⟩)]⟩
abbrev t72i6e : List (Ek × Desc) := [(.norm, ⟨[], [(4, ⟨(.sl kd51), (.o .s), false⟩)]⟩)]
def t72i6 (R : Type) (c : ((Bool × Unit) × (D96 × Unit))) (v : (Unit × ((List D51) × Unit))) (kk : ((Bool × Unit) × (D96 × Unit)) → (Unit × ((List D51) × Unit)) → Option R) : Option R :=
 (cond c.1.1
 (getO v.2.1 (1 : Int) fun _ => (bnd (v.2.1[(Int.toNat (1 : Int))]?) fun v8 => (getO v.2.1 (0 : Int) fun _ => (bnd (v.2.1[(Int.toNat (0 : Int))]?) fun v10 => (kk ((c.1.1, ()), (c.2.1, ())) ((), ((List.set v.2.1 (Int.toNat (0 : Int)) v8), ())))))))
 (kk ((c.1.1, ()), (c.2.1, ())) ((), (v.2.1, ()))))
def t72 (x : (D96 × Unit)) : Option (((List D51) × Unit) × (D96 × Unit)) :=
 (bnd (t93 (x.1, ((10 : Int), ()))) fun r1 => (bnd (t94 (r1.2.1, ((12 : Int), ()))) fun r2 => (t72i3 _ ((r2.1.1, ()), (r2.2.1, ())) ((r1.1.1, ()), ()) fun c3 o4 =>
 (bnd (t95 (c3.2.1, (o4.1.1, ()))) fun r5 => (cond (ilt (1 : Int) (llen r5.1.1))
 (bnd (t94 (r5.2.1, ((30 : Int), ()))) fun r6 => (t72i6 _ ((r6.1.1, ()), (r6.2.1, ())) ((), (r5.1.1, ())) fun c11 o12 =>
 (some ((o12.2.1, ()), (c11.2.1, ())))))
 (t72i6 _ ((false, ()), (r5.2.1, ())) ((), (r5.1.1, ())) fun c13 o14 =>
 (some ((o14.2.1, ()), (c13.2.1, ())))))))))
def sg72 : Sig := ⟨ins72, res72, t72⟩
/-! loop.example/g00224/spec.DrawGoodRun -/
abbrev ins49 : List Pm := [.val (.sl (.int .u8))]
abbrev res49 : List (K × Mk) := [((.sl kd51), (.o .s))]
def t49 (x : ((List Int) × Unit)) : Option (((List D51) × Unit) × Unit) :=
 (bnd (t72 ((x.1, ((0 : Int), ((0 : Int), ()))), ())) fun r1 => (some ((r1.1.1, ()), ())))
def sg49 : Sig := ⟨ins49, res49, t49⟩
/-! loop.example/g00224/spec.DrawBlockBytes -/
abbrev ins29 : List Pm := [.val (.sl (.int .u8))]
abbrev res29 : List (K × Mk) := [((.sl kd51), (.o .s))]
def t29 (x : ((List Int) × Unit)) : Option (((List D51) × Unit) × Unit) :=
 (bnd (t49 (x.1, ())) fun r1 => (some ((r1.1.1, ()), ())))
def sg29 : Sig := ⟨ins29, res29, t29⟩
/-! loop.example/g00224/impl.BlockBytes -/
abbrev ins30 : List Pm := [.val (.sl kd51)]
abbrev res30 : List (K × Mk) := [(.str, .s), (.bool, .s)]
def t30 (x : ((List D51) × Unit)) : Option ((ByteArray × Bool × Unit) × Unit) :=
 (cond (ilt (40 : Int) (llen x.1))
 (some (((⟨#[]⟩ : ByteArray), (false, ())), ()))
 (bnd (t50 (x.1, ())) fun r1 => (cond (!r1.1.1)
 (some (((⟨#[]⟩ : ByteArray), (false, ())), ()))
 (bnd (t51 (x.1, ())) fun r2 => (some ((r2.1.1, (true, ())), ()))))))
def sg30 : Sig := ⟨ins30, res30, t30⟩
/-! loop.example/g00224/spec.BlockBytes -/
abbrev ins31 : List Pm := [.val (.sl kd51)]
abbrev res31 : List (K × Mk) := [(.str, .s), (.bool, .s)]
def t31 (x : ((List D51) × Unit)) : Option ((ByteArray × Bool × Unit) × Unit) :=
 (bnd (t52 (x.1, ())) fun r1 => (cond (!r1.1.1)
 (some (((⟨#[]⟩ : ByteArray), (false, ())), ()))
 (cond (ilt (40 : Int) (llen x.1))
 (some (((⟨#[]⟩ : ByteArray), (false, ())), ()))
 (bnd (t53 (x.1, ())) fun r2 => (some ((r2.1.1, (true, ())), ()))))))
def sg31 : Sig := ⟨ins31, res31, t31⟩
/-! loop.example/g00224/laws.sameItems -/
abbrev ins32 : List Pm := [.val (.sl kd51), .val (.sl kd51)]
abbrev res32 : List (K × Mk) := [(.bool, .s)]
abbrev t32l4c : Desc := ⟨[(0, .v (.sl kd51)), (1, .v (.sl kd51)), (12, .v (.int .i64))], []⟩
abbrev t32l4v : Desc := ⟨[(13, .v (.int .i64))], []⟩
abbrev t32l4e : List (Ek × Desc) := [(.ret, ⟨[(4, .v .bool)], []⟩), (.exit 0, ⟨[], []⟩)]
def t32l4 (R : Type) (c : (((List D51) × (List D51) × Int × Unit) × Unit)) (v : ((Int × Unit) × Unit)) (kk : (((List D51) × (List D51) × Int × Unit) × Unit) → (((Int × Unit) × Unit) ⊕ (((Bool × Unit) × Unit) ⊕ (Unit × Unit))) → Option R) : Option R :=
 (cond (ilt v.1.1 c.1.2.2.1)
 (getO c.1.1 v.1.1 fun v1 => (getO c.1.2.1 v.1.1 fun v2 => (cond (!(eqK kd51 v1 v2))
 (kk ((c.1.1, (c.1.2.1, (c.1.2.2.1, ()))), ()) (.inr (.inl ((false, ()), ()))))
 (kk ((c.1.1, (c.1.2.1, (c.1.2.2.1, ()))), ()) (.inl (((iadd .i64 v.1.1 (1 : Int)), ()), ()))))))
 (kk ((c.1.1, (c.1.2.1, (c.1.2.2.1, ()))), ()) (.inr (.inr ((), ())))))
def t32 (x : ((List D51) × (List D51) × Unit)) : Option ((Bool × Unit) × Unit) :=
 (cond (!ieq (llen x.1) (llen x.2.1))
 (some ((false, ()), ()))
 (loopF (c := t32l4c) (v := t32l4v) (ex := t32l4e) t32l4 _ ((x.1, (x.2.1, ((llen x.1), ()))), ()) (((0 : Int), ()), ()) fun c3 o4 =>
 (match o4 with
 | .inl y5 => (some ((y5.1.1, ()), ()))
 | .inr z6 => (some ((true, ()), ())))))
def sg32 : Sig := ⟨ins32, res32, t32⟩
/-! loop.example/g00224/laws.FnBlocks -/
abbrev ins8 : List Pm := [.val (.sl (.int .u8))]
abbrev res8 : List (K × Mk) := [(.bool, .s)]
abbrev t8l16c : Desc := ⟨[(3, .al 3 []), (10, .al 10 []), (12, .v .str), (13, .v .bool)], [(3, ⟨(.sl kd51), (.o .s), false⟩), (10, ⟨(.sl (.int .i64)), (.o .s), false⟩)]⟩
abbrev t8l16v : Desc := ⟨[(14, .v (.int .i64))], []⟩
abbrev t8l16e : List (Ek × Desc) := [(.ret, ⟨[(2, .v .bool)], []⟩), (.exit 0, ⟨[], []⟩)]
def t8l16 (R : Type) (c : ((ByteArray × Bool × Unit) × ((List D51) × (List Int) × Unit))) (v : ((Int × Unit) × Unit)) (kk : ((ByteArray × Bool × Unit) × ((List D51) × (List Int) × Unit)) → (((Int × Unit) × Unit) ⊕ (((Bool × Unit) × Unit) ⊕ (Unit × Unit))) → Option R) : Option R :=
 (cond (ilt v.1.1 (llen c.2.2.1))
 (getO c.2.2.1 v.1.1 fun _ => (bnd (c.2.2.1[(Int.toNat v.1.1)]?) fun v9 => (getO c.2.2.1 (isub .i64 v.1.1 (1 : Int)) fun _ => (bnd (c.2.2.1[(Int.toNat (isub .i64 v.1.1 (1 : Int)))]?) fun v11 => (cond (ile v9 v11)
 (kk ((c.1.1, (c.1.2.1, ())), (c.2.1, (c.2.2.1, ()))) (.inr (.inl ((false, ()), ()))))
 (kk ((c.1.1, (c.1.2.1, ())), (c.2.1, (c.2.2.1, ()))) (.inl (((iadd .i64 v.1.1 (1 : Int)), ()), ()))))))))
 (kk ((c.1.1, (c.1.2.1, ())), (c.2.1, (c.2.2.1, ()))) (.inr (.inr ((), ())))))
def t8 (x : ((List Int) × Unit)) : Option ((Bool × Unit) × Unit) :=
 (cond (ilt (1048576 : Int) (llen x.1))
 (some ((true, ()), ()))
 (bnd (t29 (x.1, ())) fun r1 => (bnd (t30 (r1.1.1, ())) fun r2 => (bnd (t31 (r1.1.1, ())) fun r3 => (cond (!beqB r2.1.2.1 r3.1.2.1)
 (some ((false, ()), ()))
 (cond (!seq r2.1.1 r3.1.1)
 (some ((false, ()), ()))
 (cond (!r2.1.2.1)
 (some (((seq r2.1.1 (⟨#[]⟩ : ByteArray)), ()), ()))
 (bnd (t25 (r2.1.1, ())) fun r4 => (bnd (t20 (r2.1.1, ())) fun r5 => (bnd (t18 (r2.1.1, ())) fun r6 => (cond (!r4.1.2.1)
 (some ((false, ()), ()))
 (cond (!r5.1.2.1)
 (some ((false, ()), ()))
 (bnd (t32 (r1.1.1, (r4.1.1, ()))) fun r7 => (cond (!r7.1.1)
 (some ((false, ()), ()))
 (cond (!ieq (llen r5.1.1) (iquo .i64 (iadd .i64 (llen r1.1.1) (3 : Int)) (4 : Int)))
 (some ((false, ()), ()))
 (cond (!beqB r6.1.2.1 (ilt (0 : Int) (llen r1.1.1)))
 (some ((false, ()), ()))
 (loopF (c := t8l16c) (v := t8l16v) (ex := t8l16e) t8l16 _ ((r6.1.1, (r6.1.2.1, ())), (r1.1.1, (r5.1.1, ()))) (((1 : Int), ()), ()) fun c12 o13 =>
 (match o13 with
 | .inl y14 => (some ((y14.1.1, ()), ()))
 | .inr z15 => (cond (!c12.1.2.1)
 (some ((true, ()), ()))
 (getO c12.2.1 (0 : Int) fun _ => (bnd (c12.2.1[(Int.toNat (0 : Int))]?) fun v17 => (bnd (c12.2.1[(Int.toNat (0 : Int))]?) fun v18 => (cond (seq c12.1.1 v18.1)
 (getO c12.2.2.1 (0 : Int) fun _ => (bnd (c12.2.2.1[(Int.toNat (0 : Int))]?) fun v20 => (some (((ieq v20 (0 : Int)), ()), ()))))
 (some ((false, ()), ())))))))))))))))))))))))))
def sg8 : Sig := ⟨ins8, res8, t8⟩
end Go.Proofs.Ytpegmiofhfmepaa
