/- The kinds of the program's types, and what its functions compute, as typed functions. (Printed by a program of mine, wip/tools/gen.py.) -/
import Derived.Test.YtpegmiofhfmepaaEv3
set_option linter.all false
set_option maxRecDepth 100000
noncomputable section
namespace Go.Proofs.Ytpegmiofhfmepaa
open Go Go.Proofs.Ytpegmiofhfmepaa.Ev
abbrev kd23 : K := (.pair (.int .i64) (.pair (.int .i64) (.pair (.int .i64) (.pair .str (.pair .str (.pair .str .unit))))))
abbrev D23 : Type := (Int × (Int × (Int × (ByteArray × (ByteArray × (ByteArray × Unit))))))
abbrev kd55 : K := (.pair .str (.pair .bool .unit))
abbrev D55 : Type := (ByteArray × (Bool × Unit))
/-! loop.example/g00224/spec.l2Take -/
abbrev ins84 : List Pm := [.val .str]
abbrev res84 : List (K × Mk) := [((.int .i64), .s), ((.int .i64), .s)]
abbrev t84l3c : Desc := ⟨[(0, .v .str)], []⟩
abbrev t84l3v : Desc := ⟨[(4, .v (.int .i64)), (5, .v (.int .i64))], []⟩
abbrev t84l3e : List (Ek × Desc) := [(.ret, ⟨[(2, .v (.int .i64)), (3, .v (.int .i64))], []⟩), (.exit 0, ⟨[], []⟩)]
def t84l3 (R : Type) (c : ((ByteArray × Unit) × Unit)) (v : ((Int × Int × Unit) × Unit)) (kk : ((ByteArray × Unit) × Unit) → (((Int × Int × Unit) × Unit) ⊕ (((Int × Int × Unit) × Unit) ⊕ (Unit × Unit))) → Option R) : Option R :=
 (cond (ilt v.1.2.1 (9 : Int))
 (cond (ilt v.1.2.1 (slen c.1.1))
 (getB c.1.1 v.1.2.1 fun v1 => (req (ile (0 : Int) (IntKind.wrap .u64 (imul .i64 (7 : Int) v.1.2.1))) (getB c.1.1 v.1.2.1 fun v2 => (cond (ilt v2 (128 : Int))
 (cond (ilt (0 : Int) v.1.2.1)
 (getB c.1.1 v.1.2.1 fun v3 => (cond (ieq v3 (0 : Int))
 (kk ((c.1.1, ()), ()) (.inr (.inl (((0 : Int), ((0 : Int), ())), ()))))
 (kk ((c.1.1, ()), ()) (.inr (.inl (((ior .i64 v.1.1 (ishl .i64 (IntKind.wrap .i64 (iand .u8 v1 (127 : Int))) (IntKind.wrap .u64 (imul .i64 (7 : Int) v.1.2.1)))), ((iadd .i64 v.1.2.1 (1 : Int)), ())), ()))))))
 (kk ((c.1.1, ()), ()) (.inr (.inl (((ior .i64 v.1.1 (ishl .i64 (IntKind.wrap .i64 (iand .u8 v1 (127 : Int))) (IntKind.wrap .u64 (imul .i64 (7 : Int) v.1.2.1)))), ((iadd .i64 v.1.2.1 (1 : Int)), ())), ())))))
 (kk ((c.1.1, ()), ()) (.inl (((ior .i64 v.1.1 (ishl .i64 (IntKind.wrap .i64 (iand .u8 v1 (127 : Int))) (IntKind.wrap .u64 (imul .i64 (7 : Int) v.1.2.1)))), ((iadd .i64 v.1.2.1 (1 : Int)), ())), ())))))))
 (kk ((c.1.1, ()), ()) (.inr (.inr ((), ())))))
 (kk ((c.1.1, ()), ()) (.inr (.inr ((), ())))))
def t84 (x : (ByteArray × Unit)) : Option ((Int × Int × Unit) × Unit) :=
 (loopF (c := t84l3c) (v := t84l3v) (ex := t84l3e) t84l3 _ ((x.1, ()), ()) (((0 : Int), ((0 : Int), ())), ()) fun c4 o5 =>
 (match o5 with
 | .inl y6 => (some ((y6.1.1, (y6.1.2.1, ())), ()))
 | .inr z7 => (some (((0 : Int), ((0 : Int), ())), ()))))
def sg84 : Sig := ⟨ins84, res84, t84⟩
/-! (*loop.example/g00224/spec.l9R).num -/
abbrev ins54 : List Pm := [.mptr kd55 .s]
abbrev res54 : List (K × Mk) := [((.int .i64), .s)]
def t54 (x : (D55 × Unit)) : Option ((Int × Unit) × (D55 × Unit)) :=
 (bnd (t84 (x.1.1, ())) fun r1 => (cond x.1.2.1
 (req (decide ((0 : Int) ≤ r1.1.2.1) && decide (r1.1.2.1 ≤ ((ByteArray.size x.1.1) : Int))) (some ((r1.1.1, ()), (((ByteArray.extract x.1.1 (Int.toNat r1.1.2.1) (ByteArray.size x.1.1)), (true, x.1.2.2)), ()))))
 (req (decide ((0 : Int) ≤ r1.1.2.1) && decide (r1.1.2.1 ≤ ((ByteArray.size x.1.1) : Int))) (some ((r1.1.1, ()), (((ByteArray.extract x.1.1 (Int.toNat r1.1.2.1) (ByteArray.size x.1.1)), ((ieq r1.1.2.1 (0 : Int)), x.1.2.2)), ()))))))
def sg54 : Sig := ⟨ins54, res54, t54⟩
/-! (*loop.example/g00224/spec.l9R).text -/
abbrev ins55 : List Pm := [.mptr kd55 .s]
abbrev res55 : List (K × Mk) := [(.str, .s)]
def t55 (x : (D55 × Unit)) : Option ((ByteArray × Unit) × (D55 × Unit)) :=
 (bnd (t54 (x.1, ())) fun r1 => (cond (ilt (slen r1.2.1.1) r1.1.1)
 (some (((⟨#[]⟩ : ByteArray), ()), ((r1.2.1.1, (true, r1.2.1.2.2)), ())))
 (req (decide ((0 : Int) ≤ r1.1.1) && decide (r1.1.1 ≤ ((ByteArray.size r1.2.1.1) : Int))) (req (decide ((0 : Int) ≤ r1.1.1) && decide (r1.1.1 ≤ ((ByteArray.size r1.2.1.1) : Int))) (some (((ByteArray.extract r1.2.1.1 (0 : Nat) (Int.toNat r1.1.1)), ()), (((ByteArray.extract r1.2.1.1 (Int.toNat r1.1.1) (ByteArray.size r1.2.1.1)), r1.2.1.2), ())))))))
def sg55 : Sig := ⟨ins55, res55, t55⟩
/-! loop.example/g00224/spec.l1In -/
abbrev ins85 : List Pm := [.val (.int .i64), .val (.int .i64), .val (.int .i64)]
abbrev res85 : List (K × Mk) := [(.bool, .s)]
def t85 (x : (Int × Int × Int × Unit)) : Option ((Bool × Unit) × Unit) :=
 (cond (ile x.2.1 x.1)
 (some (((ile x.1 x.2.2.1), ()), ()))
 (some ((false, ()), ())))
def sg85 : Sig := ⟨ins85, res85, t85⟩
/-! loop.example/g00224/spec.l4Key -/
abbrev ins86 : List Pm := [.val .str]
abbrev res86 : List (K × Mk) := [(.bool, .s)]
def t86 (x : (ByteArray × Unit)) : Option ((Bool × Unit) × Unit) :=
 (bnd (t85 ((slen x.1), ((1 : Int), ((16 : Int), ())))) fun r1 => (some ((r1.1.1, ()), ())))
def sg86 : Sig := ⟨ins86, res86, t86⟩
/-! loop.example/g00224/spec.GoodCommand -/
abbrev ins56 : List Pm := [.val kd23]
abbrev res56 : List (K × Mk) := [(.bool, .s)]
def t56 (x : (D23 × Unit)) : Option ((Bool × Unit) × Unit) :=
 (bnd (t85 (x.1.1, ((0 : Int), ((99 : Int), ())))) fun r1 => (cond (!r1.1.1)
 (some ((false, ()), ()))
 (bnd (t85 (x.1.2.1, ((1 : Int), ((1000000 : Int), ())))) fun r2 => (cond (!r2.1.1)
 (some ((false, ()), ()))
 (bnd (t85 (x.1.2.2.1, ((1 : Int), ((4 : Int), ())))) fun r3 => (cond (!r3.1.1)
 (some ((false, ()), ()))
 (bnd (t86 (x.1.2.2.2.1, ())) fun r4 => (cond (!r4.1.1)
 (some ((false, ()), ()))
 (cond (ilt (40 : Int) (slen x.1.2.2.2.2.1))
 (some ((false, ()), ()))
 (cond (ilt (40 : Int) (slen x.1.2.2.2.2.2.1))
 (some ((false, ()), ()))
 (cond (seq x.1.2.2.2.2.1 (⟨#[]⟩ : ByteArray))
 (cond (seq x.1.2.2.2.2.2.1 (⟨#[]⟩ : ByteArray))
 (some ((true, ()), ()))
 (some (((ieq x.1.2.2.1 (4 : Int)), ()), ())))
 (cond (ieq x.1.2.2.1 (2 : Int))
 (cond (seq x.1.2.2.2.2.2.1 (⟨#[]⟩ : ByteArray))
 (some ((true, ()), ()))
 (some (((ieq x.1.2.2.1 (4 : Int)), ()), ())))
 (cond (ieq x.1.2.2.1 (4 : Int))
 (cond (seq x.1.2.2.2.2.2.1 (⟨#[]⟩ : ByteArray))
 (some ((true, ()), ()))
 (some (((ieq x.1.2.2.1 (4 : Int)), ()), ())))
 (some ((false, ()), ())))))))))))))))
def sg56 : Sig := ⟨ins56, res56, t56⟩
/-! loop.example/g00224/spec.l14Read -/
abbrev ins33 : List Pm := [.val .str]
abbrev res33 : List (K × Mk) := [(kd23, .s), (.bool, .s)]
def t33 (x : (ByteArray × Unit)) : Option ((D23 × Bool × Unit) × Unit) :=
 (bnd (t54 ((x.1, (false, ())), ())) fun r1 => (bnd (t54 (r1.2.1, ())) fun r2 => (cond r2.2.1.2.1
 (some ((((0 : Int), ((0 : Int), ((0 : Int), ((⟨#[]⟩ : ByteArray), ((⟨#[]⟩ : ByteArray), ((⟨#[]⟩ : ByteArray), ())))))), (false, ())), ()))
 (cond (seq r2.2.1.1 (⟨#[]⟩ : ByteArray))
 (some ((((0 : Int), ((0 : Int), ((0 : Int), ((⟨#[]⟩ : ByteArray), ((⟨#[]⟩ : ByteArray), ((⟨#[]⟩ : ByteArray), ())))))), (false, ())), ()))
 (getB r2.2.1.1 (0 : Int) fun v3 => (req (decide ((0 : Int) ≤ (1 : Int)) && decide ((1 : Int) ≤ ((ByteArray.size r2.2.1.1) : Int))) (bnd (t55 (((ByteArray.extract r2.2.1.1 (Int.toNat (1 : Int)) (ByteArray.size r2.2.1.1)), r2.2.1.2), ())) fun r4 => (bnd (t55 (r4.2.1, ())) fun r5 => (bnd (t55 (r5.2.1, ())) fun r6 => (cond r6.2.1.2.1
 (some ((((0 : Int), ((0 : Int), ((0 : Int), ((⟨#[]⟩ : ByteArray), ((⟨#[]⟩ : ByteArray), ((⟨#[]⟩ : ByteArray), ())))))), (false, ())), ()))
 (cond (!seq r6.2.1.1 (⟨#[]⟩ : ByteArray))
 (some ((((0 : Int), ((0 : Int), ((0 : Int), ((⟨#[]⟩ : ByteArray), ((⟨#[]⟩ : ByteArray), ((⟨#[]⟩ : ByteArray), ())))))), (false, ())), ()))
 (bnd (t56 ((r1.1.1, (r2.1.1, ((IntKind.wrap .i64 v3), (r4.1.1, (r5.1.1, (r6.1.1, ())))))), ())) fun r7 => (cond (!r7.1.1)
 (some ((((0 : Int), ((0 : Int), ((0 : Int), ((⟨#[]⟩ : ByteArray), ((⟨#[]⟩ : ByteArray), ((⟨#[]⟩ : ByteArray), ())))))), (false, ())), ()))
 (some (((r1.1.1, (r2.1.1, ((IntKind.wrap .i64 v3), (r4.1.1, (r5.1.1, (r6.1.1, ())))))), (true, ())), ())))))))))))))))
def sg33 : Sig := ⟨ins33, res33, t33⟩
/-! loop.example/g00224/spec.ReadCommand -/
abbrev ins9 : List Pm := [.val .str]
abbrev res9 : List (K × Mk) := [(kd23, .s), (.bool, .s)]
def t9 (x : (ByteArray × Unit)) : Option ((D23 × Bool × Unit) × Unit) :=
 (bnd (t33 (x.1, ())) fun r1 => (some ((r1.1.1, (r1.1.2.1, ())), ())))
def sg9 : Sig := ⟨ins9, res9, t9⟩
/-! loop.example/g00224/impl.TakeVar -/
abbrev ins57 : List Pm := [.val .str]
abbrev res57 : List (K × Mk) := [((.int .i64), .s), ((.int .i64), .s)]
abbrev t57l3c : Desc := ⟨[(0, .v .str)], []⟩
abbrev t57l3v : Desc := ⟨[(4, .v (.int .i64)), (5, .v (.int .i64))], []⟩
abbrev t57l3e : List (Ek × Desc) := [(.ret, ⟨[(2, .v (.int .i64)), (3, .v (.int .i64))], []⟩), (.exit 0, ⟨[], []⟩)]
def t57l3 (R : Type) (c : ((ByteArray × Unit) × Unit)) (v : ((Int × Int × Unit) × Unit)) (kk : ((ByteArray × Unit) × Unit) → (((Int × Int × Unit) × Unit) ⊕ (((Int × Int × Unit) × Unit) ⊕ (Unit × Unit))) → Option R) : Option R :=
 (cond (ilt v.1.2.1 (imin (slen c.1.1) (9 : Int)))
 (getB c.1.1 v.1.2.1 fun v1 => (req (ile (0 : Int) (imul .i64 (7 : Int) v.1.2.1)) (cond (ilt (IntKind.wrap .i64 v1) (128 : Int))
 (cond (ilt (0 : Int) v.1.2.1)
 (cond (ieq (IntKind.wrap .i64 v1) (0 : Int))
 (kk ((c.1.1, ()), ()) (.inr (.inl (((0 : Int), ((0 : Int), ())), ()))))
 (kk ((c.1.1, ()), ()) (.inr (.inl (((ior .i64 v.1.1 (ishl .i64 (irem .i64 (IntKind.wrap .i64 v1) (128 : Int)) (imul .i64 (7 : Int) v.1.2.1))), ((iadd .i64 v.1.2.1 (1 : Int)), ())), ())))))
 (kk ((c.1.1, ()), ()) (.inr (.inl (((ior .i64 v.1.1 (ishl .i64 (irem .i64 (IntKind.wrap .i64 v1) (128 : Int)) (imul .i64 (7 : Int) v.1.2.1))), ((iadd .i64 v.1.2.1 (1 : Int)), ())), ())))))
 (kk ((c.1.1, ()), ()) (.inl (((ior .i64 v.1.1 (ishl .i64 (irem .i64 (IntKind.wrap .i64 v1) (128 : Int)) (imul .i64 (7 : Int) v.1.2.1))), ((iadd .i64 v.1.2.1 (1 : Int)), ())), ()))))))
 (kk ((c.1.1, ()), ()) (.inr (.inr ((), ())))))
def t57 (x : (ByteArray × Unit)) : Option ((Int × Int × Unit) × Unit) :=
 (loopF (c := t57l3c) (v := t57l3v) (ex := t57l3e) t57l3 _ ((x.1, ()), ()) (((0 : Int), ((0 : Int), ())), ()) fun c2 o3 =>
 (match o3 with
 | .inl y4 => (some ((y4.1.1, (y4.1.2.1, ())), ()))
 | .inr z5 => (some (((0 : Int), ((0 : Int), ())), ()))))
def sg57 : Sig := ⟨ins57, res57, t57⟩
/-! (*loop.example/g00224/impl.taker).number -/
abbrev ins34 : List Pm := [.mptr kd55 .s]
abbrev res34 : List (K × Mk) := [((.int .i64), .s)]
def t34 (x : (D55 × Unit)) : Option ((Int × Unit) × (D55 × Unit)) :=
 (bnd (t57 (x.1.1, ())) fun r1 => (cond x.1.2.1
 (some (((0 : Int), ()), ((x.1.1, (true, x.1.2.2)), ())))
 (cond (ieq r1.1.2.1 (0 : Int))
 (some (((0 : Int), ()), ((x.1.1, ((ieq r1.1.2.1 (0 : Int)), x.1.2.2)), ())))
 (req (decide ((0 : Int) ≤ r1.1.2.1) && decide (r1.1.2.1 ≤ ((ByteArray.size x.1.1) : Int))) (some ((r1.1.1, ()), (((ByteArray.extract x.1.1 (Int.toNat r1.1.2.1) (ByteArray.size x.1.1)), ((ieq r1.1.2.1 (0 : Int)), x.1.2.2)), ())))))))
def sg34 : Sig := ⟨ins34, res34, t34⟩
/-! (*loop.example/g00224/impl.taker).text -/
abbrev ins35 : List Pm := [.mptr kd55 .s, .val (.int .i64)]
abbrev res35 : List (K × Mk) := [(.str, .s)]
def t35 (x : (D55 × Int × Unit)) : Option ((ByteArray × Unit) × (D55 × Unit)) :=
 (cond x.1.2.1
 (some (((⟨#[]⟩ : ByteArray), ()), ((x.1.1, (true, x.1.2.2)), ())))
 (cond (ilt (slen x.1.1) x.2.1)
 (some (((⟨#[]⟩ : ByteArray), ()), ((x.1.1, ((ilt (slen x.1.1) x.2.1), x.1.2.2)), ())))
 (req (decide ((0 : Int) ≤ x.2.1) && decide (x.2.1 ≤ ((ByteArray.size x.1.1) : Int))) (req (decide ((0 : Int) ≤ x.2.1) && decide (x.2.1 ≤ ((ByteArray.size x.1.1) : Int))) (some (((ByteArray.extract x.1.1 (0 : Nat) (Int.toNat x.2.1)), ()), (((ByteArray.extract x.1.1 (Int.toNat x.2.1) (ByteArray.size x.1.1)), ((ilt (slen x.1.1) x.2.1), x.1.2.2)), ())))))))
def sg35 : Sig := ⟨ins35, res35, t35⟩
/-! (*loop.example/g00224/impl.taker).sized -/
abbrev ins36 : List Pm := [.mptr kd55 .s]
abbrev res36 : List (K × Mk) := [(.str, .s)]
def t36 (x : (D55 × Unit)) : Option ((ByteArray × Unit) × (D55 × Unit)) :=
 (bnd (t34 (x.1, ())) fun r1 => (bnd (t35 (r1.2.1, (r1.1.1, ()))) fun r2 => (some ((r2.1.1, ()), (r2.2.1, ())))))
def sg36 : Sig := ⟨ins36, res36, t36⟩
/-! (*loop.example/g00224/impl.taker).whole -/
abbrev ins37 : List Pm := [.mptr kd55 .s]
abbrev res37 : List (K × Mk) := [(.bool, .s)]
def t37 (x : (D55 × Unit)) : Option ((Bool × Unit) × (D55 × Unit)) :=
 (cond (!x.1.2.1)
 (some (((seq x.1.1 (⟨#[]⟩ : ByteArray)), ()), (x.1, ())))
 (some ((false, ()), (x.1, ()))))
def sg37 : Sig := ⟨ins37, res37, t37⟩
/-! loop.example/g00224/impl.in -/
abbrev ins58 : List Pm := [.val (.int .i64), .val (.int .i64), .val (.int .i64)]
abbrev res58 : List (K × Mk) := [(.bool, .s)]
def t58 (x : (Int × Int × Int × Unit)) : Option ((Bool × Unit) × Unit) :=
 (cond (ile x.2.1 x.1)
 (some (((ile x.1 x.2.2.1), ()), ()))
 (some ((false, ()), ())))
def sg58 : Sig := ⟨ins58, res58, t58⟩
/-! loop.example/g00224/impl.isKey -/
abbrev ins59 : List Pm := [.val .str]
abbrev res59 : List (K × Mk) := [(.bool, .s)]
def t59 (x : (ByteArray × Unit)) : Option ((Bool × Unit) × Unit) :=
 (bnd (t58 ((slen x.1), ((1 : Int), ((16 : Int), ())))) fun r1 => (some ((r1.1.1, ()), ())))
def sg59 : Sig := ⟨ins59, res59, t59⟩
/-! loop.example/g00224/impl.isValue -/
abbrev ins60 : List Pm := [.val .str]
abbrev res60 : List (K × Mk) := [(.bool, .s)]
def t60 (x : (ByteArray × Unit)) : Option ((Bool × Unit) × Unit) :=
 (some (((ile (slen x.1) (40 : Int)), ()), ()))
def sg60 : Sig := ⟨ins60, res60, t60⟩
/-! loop.example/g00224/impl.GoodCommand -/
abbrev ins38 : List Pm := [.val kd23]
abbrev res38 : List (K × Mk) := [(.bool, .s)]
def t38 (x : (D23 × Unit)) : Option ((Bool × Unit) × Unit) :=
 (bnd (t58 (x.1.1, ((0 : Int), ((99 : Int), ())))) fun r1 => (cond (!r1.1.1)
 (some ((false, ()), ()))
 (bnd (t58 (x.1.2.1, ((1 : Int), ((1000000 : Int), ())))) fun r2 => (cond (!r2.1.1)
 (some ((false, ()), ()))
 (bnd (t58 (x.1.2.2.1, ((1 : Int), ((4 : Int), ())))) fun r3 => (cond (!r3.1.1)
 (some ((false, ()), ()))
 (bnd (t59 (x.1.2.2.2.1, ())) fun r4 => (cond (!r4.1.1)
 (some ((false, ()), ()))
 (bnd (t60 (x.1.2.2.2.2.1, ())) fun r5 => (cond (!r5.1.1)
 (some ((false, ()), ()))
 (bnd (t60 (x.1.2.2.2.2.2.1, ())) fun r6 => (cond (!r6.1.1)
 (some ((false, ()), ()))
 (cond (seq x.1.2.2.2.2.1 (⟨#[]⟩ : ByteArray))
 (cond (seq x.1.2.2.2.2.2.1 (⟨#[]⟩ : ByteArray))
 (some ((true, ()), ()))
 (some (((ieq x.1.2.2.1 (4 : Int)), ()), ())))
 (cond (ieq x.1.2.2.1 (2 : Int))
 (cond (seq x.1.2.2.2.2.2.1 (⟨#[]⟩ : ByteArray))
 (some ((true, ()), ()))
 (some (((ieq x.1.2.2.1 (4 : Int)), ()), ())))
 (cond (ieq x.1.2.2.1 (4 : Int))
 (cond (seq x.1.2.2.2.2.2.1 (⟨#[]⟩ : ByteArray))
 (some ((true, ()), ()))
 (some (((ieq x.1.2.2.1 (4 : Int)), ()), ())))
 (some ((false, ()), ())))))))))))))))))
def sg38 : Sig := ⟨ins38, res38, t38⟩
/-! loop.example/g00224/impl.ReadCommand -/
abbrev ins10 : List Pm := [.val .str]
abbrev res10 : List (K × Mk) := [(kd23, .s), (.bool, .s)]
abbrev t10i6c : Desc := ⟨[(2, .ptr 2 []), (4, .ptr 9 []), (5, .ptr 5 []), (6, .v .str), (20, .v .bool)], [(2, ⟨kd23, .s, true⟩), (9, ⟨kd55, .s, true⟩)]⟩
abbrev t10i6v : Desc := ⟨[], [(5, ⟨kd23, .s, true⟩)]⟩
abbrev t10i6e : List (Ek × Desc) := [(.norm, ⟨[], [(5, ⟨kd23, .s, true⟩)]⟩)]
def t10i6 (R : Type) (c : ((ByteArray × Bool × Unit) × (D23 × D55 × Unit))) (v : (Unit × (D23 × Unit))) (kk : ((ByteArray × Bool × Unit) × (D23 × D55 × Unit)) → (Unit × (D23 × Unit)) → Option R) : Option R :=
 (cond c.1.2.1
 (getB c.1.1 (0 : Int) fun v4 => (kk ((c.1.1, (c.1.2.1, ())), (c.2.1, (c.2.2.1, ()))) ((), ((v.2.1.1, (v.2.1.2.1, ((IntKind.wrap .i64 v4), v.2.1.2.2.2))), ()))))
 (kk ((c.1.1, (c.1.2.1, ())), (c.2.1, (c.2.2.1, ()))) ((), (v.2.1, ()))))
def t10 (x : (ByteArray × Unit)) : Option ((D23 × Bool × Unit) × Unit) :=
 (bnd (t34 ((x.1, (false, ())), ())) fun r1 => (bnd (t34 (r1.2.1, ())) fun r2 => (bnd (t35 (r2.2.1, ((1 : Int), ()))) fun r3 => (t10i6 _ ((r3.1.1, ((!seq r3.1.1 (⟨#[]⟩ : ByteArray)), ())), (((0 : Int), ((0 : Int), ((0 : Int), ((⟨#[]⟩ : ByteArray), ((⟨#[]⟩ : ByteArray), ((⟨#[]⟩ : ByteArray), ())))))), (r3.2.1, ()))) ((), ((r1.1.1, (r2.1.1, ((0 : Int), ((⟨#[]⟩ : ByteArray), ((⟨#[]⟩ : ByteArray), ((⟨#[]⟩ : ByteArray), ())))))), ())) fun c5 o6 =>
 (bnd (t36 (c5.2.2.1, ())) fun r7 => (bnd (t36 (r7.2.1, ())) fun r8 => (bnd (t36 (r8.2.1, ())) fun r9 => (bnd (t37 (r9.2.1, ())) fun r10 => (cond (!r10.1.1)
 (some ((((0 : Int), ((0 : Int), ((0 : Int), ((⟨#[]⟩ : ByteArray), ((⟨#[]⟩ : ByteArray), ((⟨#[]⟩ : ByteArray), ())))))), (false, ())), ()))
 (bnd (t38 ((o6.2.1.1, (o6.2.1.2.1, (o6.2.1.2.2.1, (r7.1.1, (r8.1.1, (r9.1.1, o6.2.1.2.2.2.2.2.2)))))), ())) fun r11 => (cond (!r11.1.1)
 (some ((((0 : Int), ((0 : Int), ((0 : Int), ((⟨#[]⟩ : ByteArray), ((⟨#[]⟩ : ByteArray), ((⟨#[]⟩ : ByteArray), ())))))), (false, ())), ()))
 (some (((o6.2.1.1, (o6.2.1.2.1, (o6.2.1.2.2.1, (r7.1.1, (r8.1.1, (r9.1.1, o6.2.1.2.2.2.2.2.2)))))), (true, ())), ())))))))))))))
def sg10 : Sig := ⟨ins10, res10, t10⟩
/-! loop.example/g00224/laws.eqCommand -/
abbrev ins11 : List Pm := [.val kd23, .val kd23]
abbrev res11 : List (K × Mk) := [(.bool, .s)]
def t11 (x : (D23 × D23 × Unit)) : Option ((Bool × Unit) × Unit) :=
 (cond (!ieq x.1.1 x.2.1.1)
 (some ((false, ()), ()))
 (cond (!ieq x.1.2.1 x.2.1.2.1)
 (some ((false, ()), ()))
 (cond (!ieq x.1.2.2.1 x.2.1.2.2.1)
 (some ((false, ()), ()))
 (cond (!seq x.1.2.2.2.1 x.2.1.2.2.2.1)
 (some ((false, ()), ()))
 (cond (!seq x.1.2.2.2.2.1 x.2.1.2.2.2.2.1)
 (some ((false, ()), ()))
 (cond (!seq x.1.2.2.2.2.2.1 x.2.1.2.2.2.2.2.1)
 (some ((false, ()), ()))
 (some ((true, ()), ()))))))))
def sg11 : Sig := ⟨ins11, res11, t11⟩
/-! loop.example/g00224/laws.FnExactReadCommand -/
abbrev ins3 : List Pm := [.val .str]
abbrev res3 : List (K × Mk) := [(.bool, .s)]
def t3 (x : (ByteArray × Unit)) : Option ((Bool × Unit) × Unit) :=
 (cond (ilt (1048576 : Int) (slen x.1))
 (some ((true, ()), ()))
 (bnd (t9 (x.1, ())) fun r1 => (bnd (t10 (x.1, ())) fun r2 => (bnd (t11 (r2.1.1, (r1.1.1, ()))) fun r3 => (cond (!r3.1.1)
 (some ((false, ()), ()))
 (cond (!beqB r2.1.2.1 r1.1.2.1)
 (some ((false, ()), ()))
 (some ((true, ()), ()))))))))
def sg3 : Sig := ⟨ins3, res3, t3⟩
end Go.Proofs.Ytpegmiofhfmepaa
