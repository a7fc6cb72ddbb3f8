/- The typed functions are what the program's code says. (Printed by a program of mine, wip/tools/gen.py.) -/
import Derived.Test.YtpegmiofhfmepaaProg
import Derived.Test.YtpegmiofhfmepaaR1Fns
set_option linter.all false
set_option maxRecDepth 100000
noncomputable section
namespace Go.Proofs.Ytpegmiofhfmepaa
open Go Go.Proofs.Ytpegmiofhfmepaa.Ev
theorem ty3 : TyOk Try.prog 3 (.int .i64) := ⟨⟨by kernel_rfl, by kernel_rfl⟩, by kernel_rfl⟩
theorem ty4 : TyOk Try.prog 4 .bool := ⟨⟨by kernel_rfl, by kernel_rfl⟩, by kernel_rfl⟩
theorem ty5 : TyOk Try.prog 5 (.int .u8) := ⟨⟨by kernel_rfl, by kernel_rfl⟩, by kernel_rfl⟩
theorem ty9 : TyOk Try.prog 9 .str := ⟨⟨by kernel_rfl, by kernel_rfl⟩, by kernel_rfl⟩
theorem ty23 : TyOk Try.prog 23 kd23 := ty_struct (f := (⟨ "Session", 3, 0, false, "", "", 0⟩ : Field)) (l := [(⟨ "N", 3, 1, false, "", "", 8⟩ : Field), (⟨ "Op", 3, 2, false, "", "", 16⟩ : Field), (⟨ "Key", 9, 3, false, "", "", 24⟩ : Field), (⟨ "Value", 9, 4, false, "", "", 40⟩ : Field), (⟨ "Old", 9, 5, false, "", "", 56⟩ : Field)]) ⟨by kernel_rfl, by kernel_rfl⟩ (by kernel_rfl) (by kernel_rfl) ⟨rfl, by decide, ty3, ⟨rfl, by decide, ty3, ⟨rfl, by decide, ty3, ⟨rfl, by decide, ty9, ⟨rfl, by decide, ty9, ⟨rfl, by decide, ty9, rfl⟩⟩⟩⟩⟩⟩
theorem ty28 : TyOk Try.prog 28 (.sl (.int .i64)) := ty_sl ⟨by kernel_rfl, by kernel_rfl⟩ (by kernel_rfl) ty3
theorem ty62 : TyOk Try.prog 62 kd62 := ty_struct (f := (⟨ "Number", 3, 0, false, "", "", 0⟩ : Field)) (l := [(⟨ "Level", 3, 1, false, "", "", 8⟩ : Field), (⟨ "Least", 9, 2, false, "", "", 16⟩ : Field), (⟨ "Most", 9, 3, false, "", "", 32⟩ : Field)]) ⟨by kernel_rfl, by kernel_rfl⟩ (by kernel_rfl) (by kernel_rfl) ⟨rfl, by decide, ty3, ⟨rfl, by decide, ty3, ⟨rfl, by decide, ty9, ⟨rfl, by decide, ty9, rfl⟩⟩⟩⟩
theorem ty29 : TyOk Try.prog 29 (.sl kd62) := ty_sl ⟨by kernel_rfl, by kernel_rfl⟩ (by kernel_rfl) ty62
theorem ty31 : TyOk Try.prog 31 kd31 := ty_struct (f := (⟨ "Next", 3, 0, false, "", "", 0⟩ : Field)) (l := [(⟨ "Seq", 3, 1, false, "", "", 8⟩ : Field), (⟨ "Drop", 28, 2, false, "", "", 16⟩ : Field), (⟨ "Add", 29, 3, false, "", "", 40⟩ : Field)]) ⟨by kernel_rfl, by kernel_rfl⟩ (by kernel_rfl) (by kernel_rfl) ⟨rfl, by decide, ty3, ⟨rfl, by decide, ty3, ⟨rfl, by decide, ty28, ⟨rfl, by decide, ty29, rfl⟩⟩⟩⟩
theorem ty51 : TyOk Try.prog 51 kd51 := ty_struct (f := (⟨ "Key", 9, 0, false, "", "", 0⟩ : Field)) (l := [(⟨ "Seq", 3, 1, false, "", "", 16⟩ : Field), (⟨ "Kind", 3, 2, false, "", "", 24⟩ : Field), (⟨ "Value", 9, 3, false, "", "", 32⟩ : Field)]) ⟨by kernel_rfl, by kernel_rfl⟩ (by kernel_rfl) (by kernel_rfl) ⟨rfl, by decide, ty9, ⟨rfl, by decide, ty3, ⟨rfl, by decide, ty3, ⟨rfl, by decide, ty9, rfl⟩⟩⟩⟩
theorem ty42 : TyOk Try.prog 42 (.sl kd51) := ty_sl ⟨by kernel_rfl, by kernel_rfl⟩ (by kernel_rfl) ty51
theorem ty47 : TyOk Try.prog 47 (.sl (.int .u8)) := ty_sl ⟨by kernel_rfl, by kernel_rfl⟩ (by kernel_rfl) ty5
theorem ty55 : TyOk Try.prog 55 kd55 := ty_struct (f := (⟨ "left", 9, 0, false, "", "loop.example/g00224/impl", 0⟩ : Field)) (l := [(⟨ "bad", 4, 1, false, "", "loop.example/g00224/impl", 16⟩ : Field)]) ⟨by kernel_rfl, by kernel_rfl⟩ (by kernel_rfl) (by kernel_rfl) ⟨rfl, by decide, ty9, ⟨rfl, by decide, ty4, rfl⟩⟩
theorem ty77 : TyOk Try.prog 77 kd55 := ty_struct (f := (⟨ "s", 9, 0, false, "", "loop.example/g00224/spec", 0⟩ : Field)) (l := [(⟨ "bad", 4, 1, false, "", "loop.example/g00224/spec", 16⟩ : Field)]) ⟨by kernel_rfl, by kernel_rfl⟩ (by kernel_rfl) (by kernel_rfl) ⟨rfl, by decide, ty9, ⟨rfl, by decide, ty4, rfl⟩⟩
theorem ty89 : TyOk Try.prog 89 (.int .u32) := ⟨⟨by kernel_rfl, by kernel_rfl⟩, by kernel_rfl⟩
theorem ty91 : TyOk Try.prog 91 (.int .u64) := ⟨⟨by kernel_rfl, by kernel_rfl⟩, by kernel_rfl⟩
theorem ty94 : TyOk Try.prog 94 (.int .u64) := ⟨⟨by kernel_rfl, by kernel_rfl⟩, by kernel_rfl⟩
theorem ty96 : TyOk Try.prog 96 kd96 := ty_struct (f := (⟨ "code", 47, 0, false, "", "loop.example/g00224/spec", 0⟩ : Field)) (l := [(⟨ "at", 3, 1, false, "", "loop.example/g00224/spec", 24⟩ : Field), (⟨ "seed", 94, 2, false, "", "loop.example/g00224/spec", 32⟩ : Field)]) ⟨by kernel_rfl, by kernel_rfl⟩ (by kernel_rfl) (by kernel_rfl) ⟨rfl, by decide, ty47, ⟨rfl, by decide, ty3, ⟨rfl, by decide, ty94, rfl⟩⟩⟩
theorem ty105 : TyOk Try.prog 105 (.sl (.int .u32)) := ty_sl ⟨by kernel_rfl, by kernel_rfl⟩ (by kernel_rfl) ty89
theorem ty117 : TyOk Try.prog 117 (.sl .str) := ty_sl ⟨by kernel_rfl, by kernel_rfl⟩ (by kernel_rfl) ty9
def tyL : List (Nat × K) := [(3, (.int .i64)), (4, .bool), (5, (.int .u8)), (9, .str), (23, kd23), (28, (.sl (.int .i64))), (62, kd62), (29, (.sl kd62)), (31, kd31), (51, kd51), (42, (.sl kd51)), (47, (.sl (.int .u8))), (55, kd55), (77, kd55), (89, (.int .u32)), (91, (.int .u64)), (94, (.int .u64)), (96, kd96), (105, (.sl (.int .u32))), (117, (.sl .str))]
theorem tyL_ok : AllTy Try.prog tyL := ⟨ty3, ⟨ty4, ⟨ty5, ⟨ty9, ⟨ty23, ⟨ty28, ⟨ty62, ⟨ty29, ⟨ty31, ⟨ty51, ⟨ty42, ⟨ty47, ⟨ty55, ⟨ty77, ⟨ty89, ⟨ty91, ⟨ty94, ⟨ty96, ⟨ty105, ⟨ty117, trivial⟩⟩⟩⟩⟩⟩⟩⟩⟩⟩⟩⟩⟩⟩⟩⟩⟩⟩⟩⟩
/-! loop.example/g00224/spec.l2Take -/
def fl84 : List (Nat × Sig) := []
def en84 : Env := { n := 42, ty := assocN tyL, fns := assocN fl84, lo := 0 }
def su84 : Bool → Nat → Option Sub | true, 3 => some ⟨t84l3c, t84l3v, t84l3e, loopF t84l3⟩ | _, _ => none
theorem ok84 : EnvOk Try.prog en84 := envOk_of rfl rfl tyL_ok (trivial)
theorem t84l3Eq (R : Type) (c : Vars t84l3c) (v : Vars t84l3v) (kk : Vars t84l3c → (Vars t84l3v ⊕ Oc t84l3e) → Option R) : evC en84 su84 (loopAt 3 Try.f84) (Desc.mk2 t84l3v v (Desc.mk2 t84l3c c .empty)) (fun o => bodyK t84l3c t84l3v t84l3e o kk) = t84l3 R c v kk := by kernel_rfl
theorem t84l3Ok {X : Cx} (hX : en84.lo = X.lo) : SubOk Try.prog X 42 ⟨t84l3c, t84l3v, t84l3e, loopF t84l3⟩ (.loop (loopAt 3 Try.f84)) :=
  sub_loop (subs := su84) ok84 rfl hX (GoodN.good (K := True) (Eq.mpr (show GoodN Try.prog X 42 en84 su84 (loopAt 3 Try.f84) True = (True) by kernel_rfl) trivial)).1 (by decide) (by decide) t84l3Eq
theorem t84Eq (x : Ps ins84) : evF en84 su84 Try.f84 ins84 res84 x = t84 x := by kernel_rfl
theorem so84 : Sound Try.prog 84 sg84 :=
  sound_of (fn := Try.f84) (c := bodyOf Try.f84) (subs := su84) (E := en84) (by kernel_rfl) (by kernel_rfl) (by decide) ok84 (by kernel_rfl) (by kernel_rfl) (by decide)
    (fun X hX => (GoodN.good (K := True) (Eq.mpr (show GoodN Try.prog X 42 en84 su84 (bodyOf Try.f84) True = (SubOk Try.prog X 42 ⟨t84l3c, t84l3v, t84l3e, loopF t84l3⟩ (.loop (loopAt 3 Try.f84)) ∧ True) by kernel_rfl) ⟨(t84l3Ok hX), trivial⟩)).1)
    (fun x r h => (t84Eq x).trans h)
/-! (*loop.example/g00224/spec.l9R).num -/
def fl54 : List (Nat × Sig) := [(84, sg84)]
def en54 : Env := { n := 34, ty := assocN tyL, fns := assocN fl54, lo := 1 }
def su54 : Bool → Nat → Option Sub | _, _ => none
theorem ok54 : EnvOk Try.prog en54 := envOk_of rfl rfl tyL_ok (⟨so84, trivial⟩)
theorem t54Eq (x : Ps ins54) : evF en54 su54 Try.f54 ins54 res54 x = t54 x := by kernel_rfl
theorem so54 : Sound Try.prog 54 sg54 :=
  sound_of (fn := Try.f54) (c := bodyOf Try.f54) (subs := su54) (E := en54) (by kernel_rfl) (by kernel_rfl) (by decide) ok54 (by kernel_rfl) (by kernel_rfl) (by decide)
    (fun X hX => (GoodN.good (K := True) (Eq.mpr (show GoodN Try.prog X 34 en54 su54 (bodyOf Try.f54) True = (True) by kernel_rfl) trivial)).1)
    (fun x r h => (t54Eq x).trans h)
/-! (*loop.example/g00224/spec.l9R).text -/
def fl55 : List (Nat × Sig) := [(54, sg54)]
def en55 : Env := { n := 33, ty := assocN tyL, fns := assocN fl55, lo := 1 }
def su55 : Bool → Nat → Option Sub | _, _ => none
theorem ok55 : EnvOk Try.prog en55 := envOk_of rfl rfl tyL_ok (⟨so54, trivial⟩)
theorem t55Eq (x : Ps ins55) : evF en55 su55 Try.f55 ins55 res55 x = t55 x := by kernel_rfl
theorem so55 : Sound Try.prog 55 sg55 :=
  sound_of (fn := Try.f55) (c := bodyOf Try.f55) (subs := su55) (E := en55) (by kernel_rfl) (by kernel_rfl) (by decide) ok55 (by kernel_rfl) (by kernel_rfl) (by decide)
    (fun X hX => (GoodN.good (K := True) (Eq.mpr (show GoodN Try.prog X 33 en55 su55 (bodyOf Try.f55) True = (True) by kernel_rfl) trivial)).1)
    (fun x r h => (t55Eq x).trans h)
/-! loop.example/g00224/spec.l1In -/
def fl85 : List (Nat × Sig) := []
def en85 : Env := { n := 15, ty := assocN tyL, fns := assocN fl85, lo := 0 }
def su85 : Bool → Nat → Option Sub | _, _ => none
theorem ok85 : EnvOk Try.prog en85 := envOk_of rfl rfl tyL_ok (trivial)
theorem t85Eq (x : Ps ins85) : evF en85 su85 Try.f85 ins85 res85 x = t85 x := by kernel_rfl
theorem so85 : Sound Try.prog 85 sg85 :=
  sound_of (fn := Try.f85) (c := bodyOf Try.f85) (subs := su85) (E := en85) (by kernel_rfl) (by kernel_rfl) (by decide) ok85 (by kernel_rfl) (by kernel_rfl) (by decide)
    (fun X hX => (GoodN.good (K := True) (Eq.mpr (show GoodN Try.prog X 15 en85 su85 (bodyOf Try.f85) True = (True) by kernel_rfl) trivial)).1)
    (fun x r h => (t85Eq x).trans h)
/-! loop.example/g00224/spec.l4Key -/
def fl86 : List (Nat × Sig) := [(85, sg85)]
def en86 : Env := { n := 6, ty := assocN tyL, fns := assocN fl86, lo := 0 }
def su86 : Bool → Nat → Option Sub | _, _ => none
theorem ok86 : EnvOk Try.prog en86 := envOk_of rfl rfl tyL_ok (⟨so85, trivial⟩)
theorem t86Eq (x : Ps ins86) : evF en86 su86 Try.f86 ins86 res86 x = t86 x := by kernel_rfl
theorem so86 : Sound Try.prog 86 sg86 :=
  sound_of (fn := Try.f86) (c := bodyOf Try.f86) (subs := su86) (E := en86) (by kernel_rfl) (by kernel_rfl) (by decide) ok86 (by kernel_rfl) (by kernel_rfl) (by decide)
    (fun X hX => (GoodN.good (K := True) (Eq.mpr (show GoodN Try.prog X 6 en86 su86 (bodyOf Try.f86) True = (True) by kernel_rfl) trivial)).1)
    (fun x r h => (t86Eq x).trans h)
/-! loop.example/g00224/spec.GoodCommand -/
def fl56 : List (Nat × Sig) := [(85, sg85), (86, sg86)]
def en56 : Env := { n := 60, ty := assocN tyL, fns := assocN fl56, lo := 0 }
def su56 : Bool → Nat → Option Sub | _, _ => none
theorem ok56 : EnvOk Try.prog en56 := envOk_of rfl rfl tyL_ok (⟨so85, ⟨so86, trivial⟩⟩)
theorem t56Eq (x : Ps ins56) : evF en56 su56 Try.f56 ins56 res56 x = t56 x := by kernel_rfl
theorem so56 : Sound Try.prog 56 sg56 :=
  sound_of (fn := Try.f56) (c := bodyOf Try.f56) (subs := su56) (E := en56) (by kernel_rfl) (by kernel_rfl) (by decide) ok56 (by kernel_rfl) (by kernel_rfl) (by decide)
    (fun X hX => (GoodN.good (K := True) (Eq.mpr (show GoodN Try.prog X 60 en56 su56 (bodyOf Try.f56) True = (True) by kernel_rfl) trivial)).1)
    (fun x r h => (t56Eq x).trans h)
/-! loop.example/g00224/spec.l14Read -/
def fl33 : List (Nat × Sig) := [(54, sg54), (55, sg55), (56, sg56)]
def en33 : Env := { n := 69, ty := assocN tyL, fns := assocN fl33, lo := 0 }
def su33 : Bool → Nat → Option Sub | _, _ => none
theorem ok33 : EnvOk Try.prog en33 := envOk_of rfl rfl tyL_ok (⟨so54, ⟨so55, ⟨so56, trivial⟩⟩⟩)
theorem t33Eq (x : Ps ins33) : evF en33 su33 Try.f33 ins33 res33 x = t33 x := by kernel_rfl
theorem so33 : Sound Try.prog 33 sg33 :=
  sound_of (fn := Try.f33) (c := bodyOf Try.f33) (subs := su33) (E := en33) (by kernel_rfl) (by kernel_rfl) (by decide) ok33 (by kernel_rfl) (by kernel_rfl) (by decide)
    (fun X hX => (GoodN.good (K := True) (Eq.mpr (show GoodN Try.prog X 69 en33 su33 (bodyOf Try.f33) True = (True) by kernel_rfl) trivial)).1)
    (fun x r h => (t33Eq x).trans h)
/-! loop.example/g00224/spec.ReadCommand -/
def fl9 : List (Nat × Sig) := [(33, sg33)]
def en9 : Env := { n := 8, ty := assocN tyL, fns := assocN fl9, lo := 0 }
def su9 : Bool → Nat → Option Sub | _, _ => none
theorem ok9 : EnvOk Try.prog en9 := envOk_of rfl rfl tyL_ok (⟨so33, trivial⟩)
theorem t9Eq (x : Ps ins9) : evF en9 su9 Try.f9 ins9 res9 x = t9 x := by kernel_rfl
theorem so9 : Sound Try.prog 9 sg9 :=
  sound_of (fn := Try.f9) (c := bodyOf Try.f9) (subs := su9) (E := en9) (by kernel_rfl) (by kernel_rfl) (by decide) ok9 (by kernel_rfl) (by kernel_rfl) (by decide)
    (fun X hX => (GoodN.good (K := True) (Eq.mpr (show GoodN Try.prog X 8 en9 su9 (bodyOf Try.f9) True = (True) by kernel_rfl) trivial)).1)
    (fun x r h => (t9Eq x).trans h)
/-! loop.example/g00224/impl.TakeVar -/
def fl57 : List (Nat × Sig) := []
def en57 : Env := { n := 36, ty := assocN tyL, fns := assocN fl57, lo := 0 }
def su57 : Bool → Nat → Option Sub | true, 3 => some ⟨t57l3c, t57l3v, t57l3e, loopF t57l3⟩ | _, _ => none
theorem ok57 : EnvOk Try.prog en57 := envOk_of rfl rfl tyL_ok (trivial)
theorem t57l3Eq (R : Type) (c : Vars t57l3c) (v : Vars t57l3v) (kk : Vars t57l3c → (Vars t57l3v ⊕ Oc t57l3e) → Option R) : evC en57 su57 (loopAt 3 Try.f57) (Desc.mk2 t57l3v v (Desc.mk2 t57l3c c .empty)) (fun o => bodyK t57l3c t57l3v t57l3e o kk) = t57l3 R c v kk := by kernel_rfl
theorem t57l3Ok {X : Cx} (hX : en57.lo = X.lo) : SubOk Try.prog X 36 ⟨t57l3c, t57l3v, t57l3e, loopF t57l3⟩ (.loop (loopAt 3 Try.f57)) :=
  sub_loop (subs := su57) ok57 rfl hX (GoodN.good (K := True) (Eq.mpr (show GoodN Try.prog X 36 en57 su57 (loopAt 3 Try.f57) True = (True) by kernel_rfl) trivial)).1 (by decide) (by decide) t57l3Eq
theorem t57Eq (x : Ps ins57) : evF en57 su57 Try.f57 ins57 res57 x = t57 x := by kernel_rfl
theorem so57 : Sound Try.prog 57 sg57 :=
  sound_of (fn := Try.f57) (c := bodyOf Try.f57) (subs := su57) (E := en57) (by kernel_rfl) (by kernel_rfl) (by decide) ok57 (by kernel_rfl) (by kernel_rfl) (by decide)
    (fun X hX => (GoodN.good (K := True) (Eq.mpr (show GoodN Try.prog X 36 en57 su57 (bodyOf Try.f57) True = (SubOk Try.prog X 36 ⟨t57l3c, t57l3v, t57l3e, loopF t57l3⟩ (.loop (loopAt 3 Try.f57)) ∧ True) by kernel_rfl) ⟨(t57l3Ok hX), trivial⟩)).1)
    (fun x r h => (t57Eq x).trans h)
/-! (*loop.example/g00224/impl.taker).number -/
def fl34 : List (Nat × Sig) := [(57, sg57)]
def en34 : Env := { n := 38, ty := assocN tyL, fns := assocN fl34, lo := 1 }
def su34 : Bool → Nat → Option Sub | _, _ => none
theorem ok34 : EnvOk Try.prog en34 := envOk_of rfl rfl tyL_ok (⟨so57, trivial⟩)
theorem t34Eq (x : Ps ins34) : evF en34 su34 Try.f34 ins34 res34 x = t34 x := by kernel_rfl
theorem so34 : Sound Try.prog 34 sg34 :=
  sound_of (fn := Try.f34) (c := bodyOf Try.f34) (subs := su34) (E := en34) (by kernel_rfl) (by kernel_rfl) (by decide) ok34 (by kernel_rfl) (by kernel_rfl) (by decide)
    (fun X hX => (GoodN.good (K := True) (Eq.mpr (show GoodN Try.prog X 38 en34 su34 (bodyOf Try.f34) True = (True) by kernel_rfl) trivial)).1)
    (fun x r h => (t34Eq x).trans h)
/-! (*loop.example/g00224/impl.taker).text -/
def fl35 : List (Nat × Sig) := []
def en35 : Env := { n := 42, ty := assocN tyL, fns := assocN fl35, lo := 1 }
def su35 : Bool → Nat → Option Sub | _, _ => none
theorem ok35 : EnvOk Try.prog en35 := envOk_of rfl rfl tyL_ok (trivial)
theorem t35Eq (x : Ps ins35) : evF en35 su35 Try.f35 ins35 res35 x = t35 x := by kernel_rfl
theorem so35 : Sound Try.prog 35 sg35 :=
  sound_of (fn := Try.f35) (c := bodyOf Try.f35) (subs := su35) (E := en35) (by kernel_rfl) (by kernel_rfl) (by decide) ok35 (by kernel_rfl) (by kernel_rfl) (by decide)
    (fun X hX => (GoodN.good (K := True) (Eq.mpr (show GoodN Try.prog X 42 en35 su35 (bodyOf Try.f35) True = (True) by kernel_rfl) trivial)).1)
    (fun x r h => (t35Eq x).trans h)
/-! (*loop.example/g00224/impl.taker).sized -/
def fl36 : List (Nat × Sig) := [(34, sg34), (35, sg35)]
def en36 : Env := { n := 7, ty := assocN tyL, fns := assocN fl36, lo := 1 }
def su36 : Bool → Nat → Option Sub | _, _ => none
theorem ok36 : EnvOk Try.prog en36 := envOk_of rfl rfl tyL_ok (⟨so34, ⟨so35, trivial⟩⟩)
theorem t36Eq (x : Ps ins36) : evF en36 su36 Try.f36 ins36 res36 x = t36 x := by kernel_rfl
theorem so36 : Sound Try.prog 36 sg36 :=
  sound_of (fn := Try.f36) (c := bodyOf Try.f36) (subs := su36) (E := en36) (by kernel_rfl) (by kernel_rfl) (by decide) ok36 (by kernel_rfl) (by kernel_rfl) (by decide)
    (fun X hX => (GoodN.good (K := True) (Eq.mpr (show GoodN Try.prog X 7 en36 su36 (bodyOf Try.f36) True = (True) by kernel_rfl) trivial)).1)
    (fun x r h => (t36Eq x).trans h)
/-! (*loop.example/g00224/impl.taker).whole -/
def fl37 : List (Nat × Sig) := []
def en37 : Env := { n := 15, ty := assocN tyL, fns := assocN fl37, lo := 1 }
def su37 : Bool → Nat → Option Sub | _, _ => none
theorem ok37 : EnvOk Try.prog en37 := envOk_of rfl rfl tyL_ok (trivial)
theorem t37Eq (x : Ps ins37) : evF en37 su37 Try.f37 ins37 res37 x = t37 x := by kernel_rfl
theorem so37 : Sound Try.prog 37 sg37 :=
  sound_of (fn := Try.f37) (c := bodyOf Try.f37) (subs := su37) (E := en37) (by kernel_rfl) (by kernel_rfl) (by decide) ok37 (by kernel_rfl) (by kernel_rfl) (by decide)
    (fun X hX => (GoodN.good (K := True) (Eq.mpr (show GoodN Try.prog X 15 en37 su37 (bodyOf Try.f37) True = (True) by kernel_rfl) trivial)).1)
    (fun x r h => (t37Eq x).trans h)
/-! loop.example/g00224/impl.in -/
def fl58 : List (Nat × Sig) := []
def en58 : Env := { n := 15, ty := assocN tyL, fns := assocN fl58, lo := 0 }
def su58 : Bool → Nat → Option Sub | _, _ => none
theorem ok58 : EnvOk Try.prog en58 := envOk_of rfl rfl tyL_ok (trivial)
theorem t58Eq (x : Ps ins58) : evF en58 su58 Try.f58 ins58 res58 x = t58 x := by kernel_rfl
theorem so58 : Sound Try.prog 58 sg58 :=
  sound_of (fn := Try.f58) (c := bodyOf Try.f58) (subs := su58) (E := en58) (by kernel_rfl) (by kernel_rfl) (by decide) ok58 (by kernel_rfl) (by kernel_rfl) (by decide)
    (fun X hX => (GoodN.good (K := True) (Eq.mpr (show GoodN Try.prog X 15 en58 su58 (bodyOf Try.f58) True = (True) by kernel_rfl) trivial)).1)
    (fun x r h => (t58Eq x).trans h)
/-! loop.example/g00224/impl.isKey -/
def fl59 : List (Nat × Sig) := [(58, sg58)]
def en59 : Env := { n := 6, ty := assocN tyL, fns := assocN fl59, lo := 0 }
def su59 : Bool → Nat → Option Sub | _, _ => none
theorem ok59 : EnvOk Try.prog en59 := envOk_of rfl rfl tyL_ok (⟨so58, trivial⟩)
theorem t59Eq (x : Ps ins59) : evF en59 su59 Try.f59 ins59 res59 x = t59 x := by kernel_rfl
theorem so59 : Sound Try.prog 59 sg59 :=
  sound_of (fn := Try.f59) (c := bodyOf Try.f59) (subs := su59) (E := en59) (by kernel_rfl) (by kernel_rfl) (by decide) ok59 (by kernel_rfl) (by kernel_rfl) (by decide)
    (fun X hX => (GoodN.good (K := True) (Eq.mpr (show GoodN Try.prog X 6 en59 su59 (bodyOf Try.f59) True = (True) by kernel_rfl) trivial)).1)
    (fun x r h => (t59Eq x).trans h)
/-! loop.example/g00224/impl.isValue -/
def fl60 : List (Nat × Sig) := []
def en60 : Env := { n := 6, ty := assocN tyL, fns := assocN fl60, lo := 0 }
def su60 : Bool → Nat → Option Sub | _, _ => none
theorem ok60 : EnvOk Try.prog en60 := envOk_of rfl rfl tyL_ok (trivial)
theorem t60Eq (x : Ps ins60) : evF en60 su60 Try.f60 ins60 res60 x = t60 x := by kernel_rfl
theorem so60 : Sound Try.prog 60 sg60 :=
  sound_of (fn := Try.f60) (c := bodyOf Try.f60) (subs := su60) (E := en60) (by kernel_rfl) (by kernel_rfl) (by decide) ok60 (by kernel_rfl) (by kernel_rfl) (by decide)
    (fun X hX => (GoodN.good (K := True) (Eq.mpr (show GoodN Try.prog X 6 en60 su60 (bodyOf Try.f60) True = (True) by kernel_rfl) trivial)).1)
    (fun x r h => (t60Eq x).trans h)
/-! loop.example/g00224/impl.GoodCommand -/
def fl38 : List (Nat × Sig) := [(58, sg58), (59, sg59), (60, sg60)]
def en38 : Env := { n := 60, ty := assocN tyL, fns := assocN fl38, lo := 0 }
def su38 : Bool → Nat → Option Sub | _, _ => none
theorem ok38 : EnvOk Try.prog en38 := envOk_of rfl rfl tyL_ok (⟨so58, ⟨so59, ⟨so60, trivial⟩⟩⟩)
theorem t38Eq (x : Ps ins38) : evF en38 su38 Try.f38 ins38 res38 x = t38 x := by kernel_rfl
theorem so38 : Sound Try.prog 38 sg38 :=
  sound_of (fn := Try.f38) (c := bodyOf Try.f38) (subs := su38) (E := en38) (by kernel_rfl) (by kernel_rfl) (by decide) ok38 (by kernel_rfl) (by kernel_rfl) (by decide)
    (fun X hX => (GoodN.good (K := True) (Eq.mpr (show GoodN Try.prog X 60 en38 su38 (bodyOf Try.f38) True = (True) by kernel_rfl) trivial)).1)
    (fun x r h => (t38Eq x).trans h)
/-! loop.example/g00224/impl.ReadCommand -/
def fl10 : List (Nat × Sig) := [(34, sg34), (35, sg35), (36, sg36), (37, sg37), (38, sg38)]
def en10 : Env := { n := 44, ty := assocN tyL, fns := assocN fl10, lo := 0 }
def su10 : Bool → Nat → Option Sub | false, 6 => some ⟨t10i6c, t10i6v, t10i6e, t10i6⟩ | _, _ => none
theorem ok10 : EnvOk Try.prog en10 := envOk_of rfl rfl tyL_ok (⟨so34, ⟨so35, ⟨so36, ⟨so37, ⟨so38, trivial⟩⟩⟩⟩⟩)
def su10i6 : Bool → Nat → Option Sub | _, _ => none
theorem t10i6Eq (R : Type) (c : Vars t10i6c) (v : Vars t10i6v) (kk : Vars t10i6c → Oc t10i6e → Option R) : evC en10 su10i6 (ifAt 6 Try.f10) (Desc.mk2 t10i6v v (Desc.mk2 t10i6c c .empty)) (fun o => chk t10i6c t10i6e o kk) = t10i6 R c v kk := by kernel_rfl
theorem t10i6Ok {X : Cx} (hX : en10.lo = X.lo) : SubOk Try.prog X 44 ⟨t10i6c, t10i6v, t10i6e, t10i6⟩ (ifAt 6 Try.f10) :=
  sub_if (u := ⟨t10i6c, t10i6v, t10i6e, t10i6⟩) (subs := su10i6) ok10 rfl hX (GoodN.good (K := True) (Eq.mpr (show GoodN Try.prog X 44 en10 su10i6 (ifAt 6 Try.f10) True = (True) by kernel_rfl) trivial)).1 (by decide) (by decide) t10i6Eq
theorem t10Eq (x : Ps ins10) : evF en10 su10 Try.f10 ins10 res10 x = t10 x := by kernel_rfl
theorem so10 : Sound Try.prog 10 sg10 :=
  sound_of (fn := Try.f10) (c := bodyOf Try.f10) (subs := su10) (E := en10) (by kernel_rfl) (by kernel_rfl) (by decide) ok10 (by kernel_rfl) (by kernel_rfl) (by decide)
    (fun X hX => (GoodN.good (K := True) (Eq.mpr (show GoodN Try.prog X 44 en10 su10 (bodyOf Try.f10) True = (SubOk Try.prog X 44 ⟨t10i6c, t10i6v, t10i6e, t10i6⟩ (ifAt 6 Try.f10) ∧ True) by kernel_rfl) ⟨(t10i6Ok hX), trivial⟩)).1)
    (fun x r h => (t10Eq x).trans h)
/-! loop.example/g00224/laws.eqCommand -/
def fl11 : List (Nat × Sig) := []
def en11 : Env := { n := 35, ty := assocN tyL, fns := assocN fl11, lo := 0 }
def su11 : Bool → Nat → Option Sub | _, _ => none
theorem ok11 : EnvOk Try.prog en11 := envOk_of rfl rfl tyL_ok (trivial)
theorem t11Eq (x : Ps ins11) : evF en11 su11 Try.f11 ins11 res11 x = t11 x := by kernel_rfl
theorem so11 : Sound Try.prog 11 sg11 :=
  sound_of (fn := Try.f11) (c := bodyOf Try.f11) (subs := su11) (E := en11) (by kernel_rfl) (by kernel_rfl) (by decide) ok11 (by kernel_rfl) (by kernel_rfl) (by decide)
    (fun X hX => (GoodN.good (K := True) (Eq.mpr (show GoodN Try.prog X 35 en11 su11 (bodyOf Try.f11) True = (True) by kernel_rfl) trivial)).1)
    (fun x r h => (t11Eq x).trans h)
/-! loop.example/g00224/laws.FnExactReadCommand -/
def fl3 : List (Nat × Sig) := [(9, sg9), (10, sg10), (11, sg11)]
def en3 : Env := { n := 29, ty := assocN tyL, fns := assocN fl3, lo := 0 }
def su3 : Bool → Nat → Option Sub | _, _ => none
theorem ok3 : EnvOk Try.prog en3 := envOk_of rfl rfl tyL_ok (⟨so9, ⟨so10, ⟨so11, trivial⟩⟩⟩)
theorem t3Eq (x : Ps ins3) : evF en3 su3 Try.f3 ins3 res3 x = t3 x := by kernel_rfl
theorem so3 : Sound Try.prog 3 sg3 :=
  sound_of (fn := Try.f3) (c := bodyOf Try.f3) (subs := su3) (E := en3) (by kernel_rfl) (by kernel_rfl) (by decide) ok3 (by kernel_rfl) (by kernel_rfl) (by decide)
    (fun X hX => (GoodN.good (K := True) (Eq.mpr (show GoodN Try.prog X 29 en3 su3 (bodyOf Try.f3) True = (True) by kernel_rfl) trivial)).1)
    (fun x r h => (t3Eq x).trans h)
/-! loop.example/g00224/spec.l4Seq -/
def fl100 : List (Nat × Sig) := [(85, sg85)]
def en100 : Env := { n := 5, ty := assocN tyL, fns := assocN fl100, lo := 0 }
def su100 : Bool → Nat → Option Sub | _, _ => none
theorem ok100 : EnvOk Try.prog en100 := envOk_of rfl rfl tyL_ok (⟨so85, trivial⟩)
theorem t100Eq (x : Ps ins100) : evF en100 su100 Try.f100 ins100 res100 x = t100 x := by kernel_rfl
theorem so100 : Sound Try.prog 100 sg100 :=
  sound_of (fn := Try.f100) (c := bodyOf Try.f100) (subs := su100) (E := en100) (by kernel_rfl) (by kernel_rfl) (by decide) ok100 (by kernel_rfl) (by kernel_rfl) (by decide)
    (fun X hX => (GoodN.good (K := True) (Eq.mpr (show GoodN Try.prog X 5 en100 su100 (bodyOf Try.f100) True = (True) by kernel_rfl) trivial)).1)
    (fun x r h => (t100Eq x).trans h)
/-! loop.example/g00224/spec.l9Counts -/
def fl87 : List (Nat × Sig) := [(85, sg85), (100, sg100)]
def en87 : Env := { n := 11, ty := assocN tyL, fns := assocN fl87, lo := 0 }
def su87 : Bool → Nat → Option Sub | _, _ => none
theorem ok87 : EnvOk Try.prog en87 := envOk_of rfl rfl tyL_ok (⟨so85, ⟨so100, trivial⟩⟩)
theorem t87Eq (x : Ps ins87) : evF en87 su87 Try.f87 ins87 res87 x = t87 x := by kernel_rfl
theorem so87 : Sound Try.prog 87 sg87 :=
  sound_of (fn := Try.f87) (c := bodyOf Try.f87) (subs := su87) (E := en87) (by kernel_rfl) (by kernel_rfl) (by decide) ok87 (by kernel_rfl) (by kernel_rfl) (by decide)
    (fun X hX => (GoodN.good (K := True) (Eq.mpr (show GoodN Try.prog X 11 en87 su87 (bodyOf Try.f87) True = (True) by kernel_rfl) trivial)).1)
    (fun x r h => (t87Eq x).trans h)
/-! loop.example/g00224/spec.l9Meta -/
def fl101 : List (Nat × Sig) := [(85, sg85), (86, sg86)]
def en101 : Env := { n := 28, ty := assocN tyL, fns := assocN fl101, lo := 0 }
def su101 : Bool → Nat → Option Sub | _, _ => none
theorem ok101 : EnvOk Try.prog en101 := envOk_of rfl rfl tyL_ok (⟨so85, ⟨so86, trivial⟩⟩)
theorem t101Eq (x : Ps ins101) : evF en101 su101 Try.f101 ins101 res101 x = t101 x := by kernel_rfl
theorem so101 : Sound Try.prog 101 sg101 :=
  sound_of (fn := Try.f101) (c := bodyOf Try.f101) (subs := su101) (E := en101) (by kernel_rfl) (by kernel_rfl) (by decide) ok101 (by kernel_rfl) (by kernel_rfl) (by decide)
    (fun X hX => (GoodN.good (K := True) (Eq.mpr (show GoodN Try.prog X 28 en101 su101 (bodyOf Try.f101) True = (True) by kernel_rfl) trivial)).1)
    (fun x r h => (t101Eq x).trans h)
/-! loop.example/g00224/spec.l9Metas -/
def fl88 : List (Nat × Sig) := [(101, sg101)]
def en88 : Env := { n := 34, ty := assocN tyL, fns := assocN fl88, lo := 0 }
def su88 : Bool → Nat → Option Sub | true, 2 => some ⟨t88l2c, t88l2v, t88l2e, loopF t88l2⟩ | _, _ => none
theorem ok88 : EnvOk Try.prog en88 := envOk_of rfl rfl tyL_ok (⟨so101, trivial⟩)
theorem dr88r4 {X : Cx} (hX : en88.lo = X.lo) : RegOk Try.prog X 34 en88 4 (regAt 4 Try.f88) := regOk_of ok88 rfl hX (by kernel_rfl) (by kernel_rfl)
theorem t88l2Eq (R : Type) (c : Vars t88l2c) (v : Vars t88l2v) (kk : Vars t88l2c → (Vars t88l2v ⊕ Oc t88l2e) → Option R) : evC en88 su88 (loopAt 2 Try.f88) (Desc.mk2 t88l2v v (Desc.mk2 t88l2c c .empty)) (fun o => bodyK t88l2c t88l2v t88l2e o kk) = t88l2 R c v kk := by kernel_rfl
theorem t88l2Ok {X : Cx} (hX : en88.lo = X.lo) : SubOk Try.prog X 34 ⟨t88l2c, t88l2v, t88l2e, loopF t88l2⟩ (.loop (loopAt 2 Try.f88)) :=
  sub_loop (subs := su88) ok88 rfl hX (GoodN.good (K := True) (Eq.mpr (show GoodN Try.prog X 34 en88 su88 (loopAt 2 Try.f88) True = (RegOk Try.prog X 34 en88 4 (regAt 4 Try.f88) ∧ True) by kernel_rfl) ⟨(dr88r4 hX), trivial⟩)).1 (by decide) (by decide) t88l2Eq
theorem t88Eq (x : Ps ins88) : evF en88 su88 Try.f88 ins88 res88 x = t88 x := by kernel_rfl
theorem so88 : Sound Try.prog 88 sg88 :=
  sound_of (fn := Try.f88) (c := bodyOf Try.f88) (subs := su88) (E := en88) (by kernel_rfl) (by kernel_rfl) (by decide) ok88 (by kernel_rfl) (by kernel_rfl) (by decide)
    (fun X hX => (GoodN.good (K := True) (Eq.mpr (show GoodN Try.prog X 34 en88 su88 (bodyOf Try.f88) True = (SubOk Try.prog X 34 ⟨t88l2c, t88l2v, t88l2e, loopF t88l2⟩ (.loop (loopAt 2 Try.f88)) ∧ True) by kernel_rfl) ⟨(t88l2Ok hX), trivial⟩)).1)
    (fun x r h => (t88Eq x).trans h)
/-! loop.example/g00224/spec.l9Edit -/
def fl61 : List (Nat × Sig) := [(85, sg85), (87, sg87), (88, sg88)]
def en61 : Env := { n := 47, ty := assocN tyL, fns := assocN fl61, lo := 0 }
def su61 : Bool → Nat → Option Sub | true, 2 => some ⟨t61l2c, t61l2v, t61l2e, loopF t61l2⟩ | _, _ => none
theorem ok61 : EnvOk Try.prog en61 := envOk_of rfl rfl tyL_ok (⟨so85, ⟨so87, ⟨so88, trivial⟩⟩⟩)
theorem t61l2Eq (R : Type) (c : Vars t61l2c) (v : Vars t61l2v) (kk : Vars t61l2c → (Vars t61l2v ⊕ Oc t61l2e) → Option R) : evC en61 su61 (loopAt 2 Try.f61) (Desc.mk2 t61l2v v (Desc.mk2 t61l2c c .empty)) (fun o => bodyK t61l2c t61l2v t61l2e o kk) = t61l2 R c v kk := by kernel_rfl
theorem t61l2Ok {X : Cx} (hX : en61.lo = X.lo) : SubOk Try.prog X 47 ⟨t61l2c, t61l2v, t61l2e, loopF t61l2⟩ (.loop (loopAt 2 Try.f61)) :=
  sub_loop (subs := su61) ok61 rfl hX (GoodN.good (K := True) (Eq.mpr (show GoodN Try.prog X 47 en61 su61 (loopAt 2 Try.f61) True = (True) by kernel_rfl) trivial)).1 (by decide) (by decide) t61l2Eq
theorem t61Eq (x : Ps ins61) : evF en61 su61 Try.f61 ins61 res61 x = t61 x := by kernel_rfl
theorem so61 : Sound Try.prog 61 sg61 :=
  sound_of (fn := Try.f61) (c := bodyOf Try.f61) (subs := su61) (E := en61) (by kernel_rfl) (by kernel_rfl) (by decide) ok61 (by kernel_rfl) (by kernel_rfl) (by decide)
    (fun X hX => (GoodN.good (K := True) (Eq.mpr (show GoodN Try.prog X 47 en61 su61 (bodyOf Try.f61) True = (SubOk Try.prog X 47 ⟨t61l2c, t61l2v, t61l2e, loopF t61l2⟩ (.loop (loopAt 2 Try.f61)) ∧ True) by kernel_rfl) ⟨(t61l2Ok hX), trivial⟩)).1)
    (fun x r h => (t61Eq x).trans h)
/-! loop.example/g00224/spec.l2Var -/
def fl83 : List (Nat × Sig) := []
def hi83 : List (Nat × (K × Mk)) := [(3, ((.sl (.int .u8)), (.o .s)))]
def en83 : Env := { n := 21, ty := assocN tyL, fns := assocN fl83, lo := 0, hint := assocN hi83 }
def su83 : Bool → Nat → Option Sub | true, 2 => some ⟨t83l2c, t83l2v, t83l2e, loopF t83l2⟩ | _, _ => none
theorem ok83 : EnvOk Try.prog en83 := envOk_of rfl rfl tyL_ok (trivial)
theorem t83l2Eq (R : Type) (c : Vars t83l2c) (v : Vars t83l2v) (kk : Vars t83l2c → (Vars t83l2v ⊕ Oc t83l2e) → Option R) : evC en83 su83 (loopAt 2 Try.f83) (Desc.mk2 t83l2v v (Desc.mk2 t83l2c c .empty)) (fun o => bodyK t83l2c t83l2v t83l2e o kk) = t83l2 R c v kk := by kernel_rfl
theorem t83l2Ok {X : Cx} (hX : en83.lo = X.lo) : SubOk Try.prog X 21 ⟨t83l2c, t83l2v, t83l2e, loopF t83l2⟩ (.loop (loopAt 2 Try.f83)) :=
  sub_loop (subs := su83) ok83 rfl hX (GoodN.good (K := True) (Eq.mpr (show GoodN Try.prog X 21 en83 su83 (loopAt 2 Try.f83) True = (True) by kernel_rfl) trivial)).1 (by decide) (by decide) t83l2Eq
theorem t83Eq (x : Ps ins83) : evF en83 su83 Try.f83 ins83 res83 x = t83 x := by kernel_rfl
theorem so83 : Sound Try.prog 83 sg83 :=
  sound_of (fn := Try.f83) (c := bodyOf Try.f83) (subs := su83) (E := en83) (by kernel_rfl) (by kernel_rfl) (by decide) ok83 (by kernel_rfl) (by kernel_rfl) (by decide)
    (fun X hX => (GoodN.good (K := True) (Eq.mpr (show GoodN Try.prog X 21 en83 su83 (bodyOf Try.f83) True = (SubOk Try.prog X 21 ⟨t83l2c, t83l2v, t83l2e, loopF t83l2⟩ (.loop (loopAt 2 Try.f83)) ∧ True) by kernel_rfl) ⟨(t83l2Ok hX), trivial⟩)).1)
    (fun x r h => (t83Eq x).trans h)
/-! loop.example/g00224/spec.l9Bytes -/
def fl62 : List (Nat × Sig) := [(83, sg83)]
def en62 : Env := { n := 72, ty := assocN tyL, fns := assocN fl62, lo := 0 }
def su62 : Bool → Nat → Option Sub | true, 3 => some ⟨t62l3c, t62l3v, t62l3e, loopF t62l3⟩ | true, 9 => some ⟨t62l9c, t62l9v, t62l9e, loopF t62l9⟩ | _, _ => none
theorem ok62 : EnvOk Try.prog en62 := envOk_of rfl rfl tyL_ok (⟨so83, trivial⟩)
theorem dr62r1 {X : Cx} (hX : en62.lo = X.lo) : RegOk Try.prog X 72 en62 1 (regAt 1 Try.f62) := regOk_of ok62 rfl hX (by kernel_rfl) (by kernel_rfl)
theorem dr62r11 {X : Cx} (hX : en62.lo = X.lo) : RegOk Try.prog X 72 en62 11 (regAt 11 Try.f62) := regOk_of ok62 rfl hX (by kernel_rfl) (by kernel_rfl)
theorem t62l3Eq (R : Type) (c : Vars t62l3c) (v : Vars t62l3v) (kk : Vars t62l3c → (Vars t62l3v ⊕ Oc t62l3e) → Option R) : evC en62 su62 (loopAt 3 Try.f62) (Desc.mk2 t62l3v v (Desc.mk2 t62l3c c .empty)) (fun o => bodyK t62l3c t62l3v t62l3e o kk) = t62l3 R c v kk := by kernel_rfl
theorem t62l3Ok {X : Cx} (hX : en62.lo = X.lo) : SubOk Try.prog X 72 ⟨t62l3c, t62l3v, t62l3e, loopF t62l3⟩ (.loop (loopAt 3 Try.f62)) :=
  sub_loop (subs := su62) ok62 rfl hX (GoodN.good (K := True) (Eq.mpr (show GoodN Try.prog X 72 en62 su62 (loopAt 3 Try.f62) True = (True) by kernel_rfl) trivial)).1 (by decide) (by decide) t62l3Eq
theorem t62l9Eq (R : Type) (c : Vars t62l9c) (v : Vars t62l9v) (kk : Vars t62l9c → (Vars t62l9v ⊕ Oc t62l9e) → Option R) : evC en62 su62 (loopAt 9 Try.f62) (Desc.mk2 t62l9v v (Desc.mk2 t62l9c c .empty)) (fun o => bodyK t62l9c t62l9v t62l9e o kk) = t62l9 R c v kk := by kernel_rfl
theorem t62l9Ok {X : Cx} (hX : en62.lo = X.lo) : SubOk Try.prog X 72 ⟨t62l9c, t62l9v, t62l9e, loopF t62l9⟩ (.loop (loopAt 9 Try.f62)) :=
  sub_loop (subs := su62) ok62 rfl hX (GoodN.good (K := True) (Eq.mpr (show GoodN Try.prog X 72 en62 su62 (loopAt 9 Try.f62) True = (RegOk Try.prog X 72 en62 11 (regAt 11 Try.f62) ∧ True) by kernel_rfl) ⟨(dr62r11 hX), trivial⟩)).1 (by decide) (by decide) t62l9Eq
theorem t62Eq (x : Ps ins62) : evF en62 su62 Try.f62 ins62 res62 x = t62 x := by kernel_rfl
theorem so62 : Sound Try.prog 62 sg62 :=
  sound_of (fn := Try.f62) (c := bodyOf Try.f62) (subs := su62) (E := en62) (by kernel_rfl) (by kernel_rfl) (by decide) ok62 (by kernel_rfl) (by kernel_rfl) (by decide)
    (fun X hX => (GoodN.good (K := True) (Eq.mpr (show GoodN Try.prog X 72 en62 su62 (bodyOf Try.f62) True = (RegOk Try.prog X 72 en62 1 (regAt 1 Try.f62) ∧ SubOk Try.prog X 72 ⟨t62l3c, t62l3v, t62l3e, loopF t62l3⟩ (.loop (loopAt 3 Try.f62)) ∧ SubOk Try.prog X 72 ⟨t62l9c, t62l9v, t62l9e, loopF t62l9⟩ (.loop (loopAt 9 Try.f62)) ∧ True) by kernel_rfl) ⟨(dr62r1 hX), (t62l3Ok hX), (t62l9Ok hX), trivial⟩)).1)
    (fun x r h => (t62Eq x).trans h)
/-! loop.example/g00224/spec.l9Read -/
def fl39 : List (Nat × Sig) := [(54, sg54), (55, sg55), (61, sg61), (62, sg62)]
def dw39 : List (Nat × List (List Nat)) := [(7, [[5, 37], [5, 38], [11, 39], [11, 40], [41], [5, 41, 42], [5, 43], [5, 42]])]
def en39 : Env := { n := 105, ty := assocN tyL, fns := assocN fl39, lo := 0, draw := drawOf dw39 }
def su39 : Bool → Nat → Option Sub | true, 5 => some ⟨t39l5c, t39l5v, t39l5e, loopF t39l5⟩ | true, 9 => some ⟨t39l9c, t39l9v, t39l9e, loopF t39l9⟩ | _, _ => none
theorem ok39 : EnvOk Try.prog en39 := envOk_of rfl rfl tyL_ok (⟨so54, ⟨so55, ⟨so61, ⟨so62, trivial⟩⟩⟩⟩)
theorem dr39r7 {X : Cx} (hX : en39.lo = X.lo) : RegOk Try.prog X 105 en39 7 (regAt 7 Try.f39) := regOk_of ok39 rfl hX (by kernel_rfl) (by kernel_rfl)
theorem t39l5Eq (R : Type) (c : Vars t39l5c) (v : Vars t39l5v) (kk : Vars t39l5c → (Vars t39l5v ⊕ Oc t39l5e) → Option R) : evC en39 su39 (loopAt 5 Try.f39) (Desc.mk2 t39l5v v (Desc.mk2 t39l5c c .empty)) (fun o => bodyK t39l5c t39l5v t39l5e o kk) = t39l5 R c v kk := by kernel_rfl
theorem t39l5Ok {X : Cx} (hX : en39.lo = X.lo) : SubOk Try.prog X 105 ⟨t39l5c, t39l5v, t39l5e, loopF t39l5⟩ (.loop (loopAt 5 Try.f39)) :=
  sub_loop (subs := su39) ok39 rfl hX (GoodN.good (K := True) (Eq.mpr (show GoodN Try.prog X 105 en39 su39 (loopAt 5 Try.f39) True = (RegOk Try.prog X 105 en39 7 (regAt 7 Try.f39) ∧ True) by kernel_rfl) ⟨(dr39r7 hX), trivial⟩)).1 (by decide) (by decide) t39l5Eq
theorem t39l9Eq (R : Type) (c : Vars t39l9c) (v : Vars t39l9v) (kk : Vars t39l9c → (Vars t39l9v ⊕ Oc t39l9e) → Option R) : evC en39 su39 (loopAt 9 Try.f39) (Desc.mk2 t39l9v v (Desc.mk2 t39l9c c .empty)) (fun o => bodyK t39l9c t39l9v t39l9e o kk) = t39l9 R c v kk := by kernel_rfl
theorem t39l9Ok {X : Cx} (hX : en39.lo = X.lo) : SubOk Try.prog X 105 ⟨t39l9c, t39l9v, t39l9e, loopF t39l9⟩ (.loop (loopAt 9 Try.f39)) :=
  sub_loop (subs := su39) ok39 rfl hX (GoodN.good (K := True) (Eq.mpr (show GoodN Try.prog X 105 en39 su39 (loopAt 9 Try.f39) True = (True) by kernel_rfl) trivial)).1 (by decide) (by decide) t39l9Eq
theorem t39Eq (x : Ps ins39) : evF en39 su39 Try.f39 ins39 res39 x = t39 x := by kernel_rfl
theorem so39 : Sound Try.prog 39 sg39 :=
  sound_of (fn := Try.f39) (c := bodyOf Try.f39) (subs := su39) (E := en39) (by kernel_rfl) (by kernel_rfl) (by decide) ok39 (by kernel_rfl) (by kernel_rfl) (by decide)
    (fun X hX => (GoodN.good (K := True) (Eq.mpr (show GoodN Try.prog X 105 en39 su39 (bodyOf Try.f39) True = (SubOk Try.prog X 105 ⟨t39l5c, t39l5v, t39l5e, loopF t39l5⟩ (.loop (loopAt 5 Try.f39)) ∧ SubOk Try.prog X 105 ⟨t39l9c, t39l9v, t39l9e, loopF t39l9⟩ (.loop (loopAt 9 Try.f39)) ∧ True) by kernel_rfl) ⟨(t39l5Ok hX), (t39l9Ok hX), trivial⟩)).1)
    (fun x r h => (t39Eq x).trans h)
/-! loop.example/g00224/spec.ReadEdit -/
def fl12 : List (Nat × Sig) := [(39, sg39)]
def en12 : Env := { n := 12, ty := assocN tyL, fns := assocN fl12, lo := 0 }
def su12 : Bool → Nat → Option Sub | _, _ => none
theorem ok12 : EnvOk Try.prog en12 := envOk_of rfl rfl tyL_ok (⟨so39, trivial⟩)
theorem t12Eq (x : Ps ins12) : evF en12 su12 Try.f12 ins12 res12 x = t12 x := by kernel_rfl
theorem so12 : Sound Try.prog 12 sg12 :=
  sound_of (fn := Try.f12) (c := bodyOf Try.f12) (subs := su12) (E := en12) (by kernel_rfl) (by kernel_rfl) (by decide) ok12 (by kernel_rfl) (by kernel_rfl) (by decide)
    (fun X hX => (GoodN.good (K := True) (Eq.mpr (show GoodN Try.prog X 12 en12 su12 (bodyOf Try.f12) True = (True) by kernel_rfl) trivial)).1)
    (fun x r h => (t12Eq x).trans h)
/-! loop.example/g00224/impl.isSeq -/
def fl89 : List (Nat × Sig) := [(58, sg58)]
def en89 : Env := { n := 5, ty := assocN tyL, fns := assocN fl89, lo := 0 }
def su89 : Bool → Nat → Option Sub | _, _ => none
theorem ok89 : EnvOk Try.prog en89 := envOk_of rfl rfl tyL_ok (⟨so58, trivial⟩)
theorem t89Eq (x : Ps ins89) : evF en89 su89 Try.f89 ins89 res89 x = t89 x := by kernel_rfl
theorem so89 : Sound Try.prog 89 sg89 :=
  sound_of (fn := Try.f89) (c := bodyOf Try.f89) (subs := su89) (E := en89) (by kernel_rfl) (by kernel_rfl) (by decide) ok89 (by kernel_rfl) (by kernel_rfl) (by decide)
    (fun X hX => (GoodN.good (K := True) (Eq.mpr (show GoodN Try.prog X 5 en89 su89 (bodyOf Try.f89) True = (True) by kernel_rfl) trivial)).1)
    (fun x r h => (t89Eq x).trans h)
/-! loop.example/g00224/impl.nextOk -/
def fl63 : List (Nat × Sig) := [(58, sg58), (89, sg89)]
def en63 : Env := { n := 11, ty := assocN tyL, fns := assocN fl63, lo := 0 }
def su63 : Bool → Nat → Option Sub | _, _ => none
theorem ok63 : EnvOk Try.prog en63 := envOk_of rfl rfl tyL_ok (⟨so58, ⟨so89, trivial⟩⟩)
theorem t63Eq (x : Ps ins63) : evF en63 su63 Try.f63 ins63 res63 x = t63 x := by kernel_rfl
theorem so63 : Sound Try.prog 63 sg63 :=
  sound_of (fn := Try.f63) (c := bodyOf Try.f63) (subs := su63) (E := en63) (by kernel_rfl) (by kernel_rfl) (by decide) ok63 (by kernel_rfl) (by kernel_rfl) (by decide)
    (fun X hX => (GoodN.good (K := True) (Eq.mpr (show GoodN Try.prog X 11 en63 su63 (bodyOf Try.f63) True = (True) by kernel_rfl) trivial)).1)
    (fun x r h => (t63Eq x).trans h)
/-! loop.example/g00224/impl.goodMeta -/
def fl90 : List (Nat × Sig) := [(58, sg58), (59, sg59)]
def en90 : Env := { n := 28, ty := assocN tyL, fns := assocN fl90, lo := 0 }
def su90 : Bool → Nat → Option Sub | _, _ => none
theorem ok90 : EnvOk Try.prog en90 := envOk_of rfl rfl tyL_ok (⟨so58, ⟨so59, trivial⟩⟩)
theorem t90Eq (x : Ps ins90) : evF en90 su90 Try.f90 ins90 res90 x = t90 x := by kernel_rfl
theorem so90 : Sound Try.prog 90 sg90 :=
  sound_of (fn := Try.f90) (c := bodyOf Try.f90) (subs := su90) (E := en90) (by kernel_rfl) (by kernel_rfl) (by decide) ok90 (by kernel_rfl) (by kernel_rfl) (by decide)
    (fun X hX => (GoodN.good (K := True) (Eq.mpr (show GoodN Try.prog X 28 en90 su90 (bodyOf Try.f90) True = (True) by kernel_rfl) trivial)).1)
    (fun x r h => (t90Eq x).trans h)
/-! loop.example/g00224/impl.metasOk -/
def fl64 : List (Nat × Sig) := [(90, sg90)]
def en64 : Env := { n := 34, ty := assocN tyL, fns := assocN fl64, lo := 0 }
def su64 : Bool → Nat → Option Sub | true, 2 => some ⟨t64l2c, t64l2v, t64l2e, loopF t64l2⟩ | _, _ => none
theorem ok64 : EnvOk Try.prog en64 := envOk_of rfl rfl tyL_ok (⟨so90, trivial⟩)
theorem dr64r4 {X : Cx} (hX : en64.lo = X.lo) : RegOk Try.prog X 34 en64 4 (regAt 4 Try.f64) := regOk_of ok64 rfl hX (by kernel_rfl) (by kernel_rfl)
theorem t64l2Eq (R : Type) (c : Vars t64l2c) (v : Vars t64l2v) (kk : Vars t64l2c → (Vars t64l2v ⊕ Oc t64l2e) → Option R) : evC en64 su64 (loopAt 2 Try.f64) (Desc.mk2 t64l2v v (Desc.mk2 t64l2c c .empty)) (fun o => bodyK t64l2c t64l2v t64l2e o kk) = t64l2 R c v kk := by kernel_rfl
theorem t64l2Ok {X : Cx} (hX : en64.lo = X.lo) : SubOk Try.prog X 34 ⟨t64l2c, t64l2v, t64l2e, loopF t64l2⟩ (.loop (loopAt 2 Try.f64)) :=
  sub_loop (subs := su64) ok64 rfl hX (GoodN.good (K := True) (Eq.mpr (show GoodN Try.prog X 34 en64 su64 (loopAt 2 Try.f64) True = (RegOk Try.prog X 34 en64 4 (regAt 4 Try.f64) ∧ True) by kernel_rfl) ⟨(dr64r4 hX), trivial⟩)).1 (by decide) (by decide) t64l2Eq
theorem t64Eq (x : Ps ins64) : evF en64 su64 Try.f64 ins64 res64 x = t64 x := by kernel_rfl
theorem so64 : Sound Try.prog 64 sg64 :=
  sound_of (fn := Try.f64) (c := bodyOf Try.f64) (subs := su64) (E := en64) (by kernel_rfl) (by kernel_rfl) (by decide) ok64 (by kernel_rfl) (by kernel_rfl) (by decide)
    (fun X hX => (GoodN.good (K := True) (Eq.mpr (show GoodN Try.prog X 34 en64 su64 (bodyOf Try.f64) True = (SubOk Try.prog X 34 ⟨t64l2c, t64l2v, t64l2e, loopF t64l2⟩ (.loop (loopAt 2 Try.f64)) ∧ True) by kernel_rfl) ⟨(t64l2Ok hX), trivial⟩)).1)
    (fun x r h => (t64Eq x).trans h)
/-! loop.example/g00224/impl.numbersOk -/
def fl65 : List (Nat × Sig) := [(58, sg58)]
def en65 : Env := { n := 29, ty := assocN tyL, fns := assocN fl65, lo := 0 }
def su65 : Bool → Nat → Option Sub | true, 2 => some ⟨t65l2c, t65l2v, t65l2e, loopF t65l2⟩ | _, _ => none
theorem ok65 : EnvOk Try.prog en65 := envOk_of rfl rfl tyL_ok (⟨so58, trivial⟩)
theorem t65l2Eq (R : Type) (c : Vars t65l2c) (v : Vars t65l2v) (kk : Vars t65l2c → (Vars t65l2v ⊕ Oc t65l2e) → Option R) : evC en65 su65 (loopAt 2 Try.f65) (Desc.mk2 t65l2v v (Desc.mk2 t65l2c c .empty)) (fun o => bodyK t65l2c t65l2v t65l2e o kk) = t65l2 R c v kk := by kernel_rfl
theorem t65l2Ok {X : Cx} (hX : en65.lo = X.lo) : SubOk Try.prog X 29 ⟨t65l2c, t65l2v, t65l2e, loopF t65l2⟩ (.loop (loopAt 2 Try.f65)) :=
  sub_loop (subs := su65) ok65 rfl hX (GoodN.good (K := True) (Eq.mpr (show GoodN Try.prog X 29 en65 su65 (loopAt 2 Try.f65) True = (True) by kernel_rfl) trivial)).1 (by decide) (by decide) t65l2Eq
theorem t65Eq (x : Ps ins65) : evF en65 su65 Try.f65 ins65 res65 x = t65 x := by kernel_rfl
theorem so65 : Sound Try.prog 65 sg65 :=
  sound_of (fn := Try.f65) (c := bodyOf Try.f65) (subs := su65) (E := en65) (by kernel_rfl) (by kernel_rfl) (by decide) ok65 (by kernel_rfl) (by kernel_rfl) (by decide)
    (fun X hX => (GoodN.good (K := True) (Eq.mpr (show GoodN Try.prog X 29 en65 su65 (bodyOf Try.f65) True = (SubOk Try.prog X 29 ⟨t65l2c, t65l2v, t65l2e, loopF t65l2⟩ (.loop (loopAt 2 Try.f65)) ∧ True) by kernel_rfl) ⟨(t65l2Ok hX), trivial⟩)).1)
    (fun x r h => (t65Eq x).trans h)
/-! loop.example/g00224/impl.goodEdit -/
def fl40 : List (Nat × Sig) := [(63, sg63), (64, sg64), (65, sg65)]
def en40 : Env := { n := 24, ty := assocN tyL, fns := assocN fl40, lo := 0 }
def su40 : Bool → Nat → Option Sub | _, _ => none
theorem ok40 : EnvOk Try.prog en40 := envOk_of rfl rfl tyL_ok (⟨so63, ⟨so64, ⟨so65, trivial⟩⟩⟩)
theorem t40Eq (x : Ps ins40) : evF en40 su40 Try.f40 ins40 res40 x = t40 x := by kernel_rfl
theorem so40 : Sound Try.prog 40 sg40 :=
  sound_of (fn := Try.f40) (c := bodyOf Try.f40) (subs := su40) (E := en40) (by kernel_rfl) (by kernel_rfl) (by decide) ok40 (by kernel_rfl) (by kernel_rfl) (by decide)
    (fun X hX => (GoodN.good (K := True) (Eq.mpr (show GoodN Try.prog X 24 en40 su40 (bodyOf Try.f40) True = (True) by kernel_rfl) trivial)).1)
    (fun x r h => (t40Eq x).trans h)
/-! loop.example/g00224/impl.ReadEdit -/
def fl13 : List (Nat × Sig) := [(34, sg34), (36, sg36), (37, sg37), (40, sg40)]
def dw13 : List (Nat × List (List Nat)) := [(8, [[5, 26], [5, 27], [9, 28], [9, 29], [30], [5, 30, 31], [5, 32], [5, 31]])]
def en13 : Env := { n := 68, ty := assocN tyL, fns := assocN fl13, lo := 0, draw := drawOf dw13 }
def su13 : Bool → Nat → Option Sub | true, 7 => some ⟨t13l7c, t13l7v, t13l7e, loopF t13l7⟩ | true, 11 => some ⟨t13l11c, t13l11v, t13l11e, loopF t13l11⟩ | _, _ => none
theorem ok13 : EnvOk Try.prog en13 := envOk_of rfl rfl tyL_ok (⟨so34, ⟨so36, ⟨so37, ⟨so40, trivial⟩⟩⟩⟩)
theorem dr13r8 {X : Cx} (hX : en13.lo = X.lo) : RegOk Try.prog X 68 en13 8 (regAt 8 Try.f13) := regOk_of ok13 rfl hX (by kernel_rfl) (by kernel_rfl)
theorem t13l7Eq (R : Type) (c : Vars t13l7c) (v : Vars t13l7v) (kk : Vars t13l7c → (Vars t13l7v ⊕ Oc t13l7e) → Option R) : evC en13 su13 (loopAt 7 Try.f13) (Desc.mk2 t13l7v v (Desc.mk2 t13l7c c .empty)) (fun o => bodyK t13l7c t13l7v t13l7e o kk) = t13l7 R c v kk := by kernel_rfl
theorem t13l7Ok {X : Cx} (hX : en13.lo = X.lo) : SubOk Try.prog X 68 ⟨t13l7c, t13l7v, t13l7e, loopF t13l7⟩ (.loop (loopAt 7 Try.f13)) :=
  sub_loop (subs := su13) ok13 rfl hX (GoodN.good (K := True) (Eq.mpr (show GoodN Try.prog X 68 en13 su13 (loopAt 7 Try.f13) True = (RegOk Try.prog X 68 en13 8 (regAt 8 Try.f13) ∧ True) by kernel_rfl) ⟨(dr13r8 hX), trivial⟩)).1 (by decide) (by decide) t13l7Eq
theorem t13l11Eq (R : Type) (c : Vars t13l11c) (v : Vars t13l11v) (kk : Vars t13l11c → (Vars t13l11v ⊕ Oc t13l11e) → Option R) : evC en13 su13 (loopAt 11 Try.f13) (Desc.mk2 t13l11v v (Desc.mk2 t13l11c c .empty)) (fun o => bodyK t13l11c t13l11v t13l11e o kk) = t13l11 R c v kk := by kernel_rfl
theorem t13l11Ok {X : Cx} (hX : en13.lo = X.lo) : SubOk Try.prog X 68 ⟨t13l11c, t13l11v, t13l11e, loopF t13l11⟩ (.loop (loopAt 11 Try.f13)) :=
  sub_loop (subs := su13) ok13 rfl hX (GoodN.good (K := True) (Eq.mpr (show GoodN Try.prog X 68 en13 su13 (loopAt 11 Try.f13) True = (True) by kernel_rfl) trivial)).1 (by decide) (by decide) t13l11Eq
theorem t13Eq (x : Ps ins13) : evF en13 su13 Try.f13 ins13 res13 x = t13 x := by kernel_rfl
theorem so13 : Sound Try.prog 13 sg13 :=
  sound_of (fn := Try.f13) (c := bodyOf Try.f13) (subs := su13) (E := en13) (by kernel_rfl) (by kernel_rfl) (by decide) ok13 (by kernel_rfl) (by kernel_rfl) (by decide)
    (fun X hX => (GoodN.good (K := True) (Eq.mpr (show GoodN Try.prog X 68 en13 su13 (bodyOf Try.f13) True = (SubOk Try.prog X 68 ⟨t13l7c, t13l7v, t13l7e, loopF t13l7⟩ (.loop (loopAt 7 Try.f13)) ∧ SubOk Try.prog X 68 ⟨t13l11c, t13l11v, t13l11e, loopF t13l11⟩ (.loop (loopAt 11 Try.f13)) ∧ True) by kernel_rfl) ⟨(t13l7Ok hX), (t13l11Ok hX), trivial⟩)).1)
    (fun x r h => (t13Eq x).trans h)
/-! loop.example/g00224/laws.eqIntS -/
def fl21 : List (Nat × Sig) := []
def en21 : Env := { n := 26, ty := assocN tyL, fns := assocN fl21, lo := 0 }
def su21 : Bool → Nat → Option Sub | true, 4 => some ⟨t21l4c, t21l4v, t21l4e, loopF t21l4⟩ | _, _ => none
theorem ok21 : EnvOk Try.prog en21 := envOk_of rfl rfl tyL_ok (trivial)
theorem dr21r6 {X : Cx} (hX : en21.lo = X.lo) : RegOk Try.prog X 26 en21 6 (regAt 6 Try.f21) := regOk_of ok21 rfl hX (by kernel_rfl) (by kernel_rfl)
theorem t21l4Eq (R : Type) (c : Vars t21l4c) (v : Vars t21l4v) (kk : Vars t21l4c → (Vars t21l4v ⊕ Oc t21l4e) → Option R) : evC en21 su21 (loopAt 4 Try.f21) (Desc.mk2 t21l4v v (Desc.mk2 t21l4c c .empty)) (fun o => bodyK t21l4c t21l4v t21l4e o kk) = t21l4 R c v kk := by kernel_rfl
theorem t21l4Ok {X : Cx} (hX : en21.lo = X.lo) : SubOk Try.prog X 26 ⟨t21l4c, t21l4v, t21l4e, loopF t21l4⟩ (.loop (loopAt 4 Try.f21)) :=
  sub_loop (subs := su21) ok21 rfl hX (GoodN.good (K := True) (Eq.mpr (show GoodN Try.prog X 26 en21 su21 (loopAt 4 Try.f21) True = (RegOk Try.prog X 26 en21 6 (regAt 6 Try.f21) ∧ True) by kernel_rfl) ⟨(dr21r6 hX), trivial⟩)).1 (by decide) (by decide) t21l4Eq
theorem t21Eq (x : Ps ins21) : evF en21 su21 Try.f21 ins21 res21 x = t21 x := by kernel_rfl
theorem so21 : Sound Try.prog 21 sg21 :=
  sound_of (fn := Try.f21) (c := bodyOf Try.f21) (subs := su21) (E := en21) (by kernel_rfl) (by kernel_rfl) (by decide) ok21 (by kernel_rfl) (by kernel_rfl) (by decide)
    (fun X hX => (GoodN.good (K := True) (Eq.mpr (show GoodN Try.prog X 26 en21 su21 (bodyOf Try.f21) True = (SubOk Try.prog X 26 ⟨t21l4c, t21l4v, t21l4e, loopF t21l4⟩ (.loop (loopAt 4 Try.f21)) ∧ True) by kernel_rfl) ⟨(t21l4Ok hX), trivial⟩)).1)
    (fun x r h => (t21Eq x).trans h)
/-! loop.example/g00224/laws.eqMeta -/
def fl66 : List (Nat × Sig) := []
def en66 : Env := { n := 25, ty := assocN tyL, fns := assocN fl66, lo := 0 }
def su66 : Bool → Nat → Option Sub | _, _ => none
theorem ok66 : EnvOk Try.prog en66 := envOk_of rfl rfl tyL_ok (trivial)
theorem t66Eq (x : Ps ins66) : evF en66 su66 Try.f66 ins66 res66 x = t66 x := by kernel_rfl
theorem so66 : Sound Try.prog 66 sg66 :=
  sound_of (fn := Try.f66) (c := bodyOf Try.f66) (subs := su66) (E := en66) (by kernel_rfl) (by kernel_rfl) (by decide) ok66 (by kernel_rfl) (by kernel_rfl) (by decide)
    (fun X hX => (GoodN.good (K := True) (Eq.mpr (show GoodN Try.prog X 25 en66 su66 (bodyOf Try.f66) True = (True) by kernel_rfl) trivial)).1)
    (fun x r h => (t66Eq x).trans h)
/-! loop.example/g00224/laws.eqMetaS -/
def fl41 : List (Nat × Sig) := [(66, sg66)]
def en41 : Env := { n := 27, ty := assocN tyL, fns := assocN fl41, lo := 0 }
def su41 : Bool → Nat → Option Sub | true, 4 => some ⟨t41l4c, t41l4v, t41l4e, loopF t41l4⟩ | _, _ => none
theorem ok41 : EnvOk Try.prog en41 := envOk_of rfl rfl tyL_ok (⟨so66, trivial⟩)
theorem dr41r6 {X : Cx} (hX : en41.lo = X.lo) : RegOk Try.prog X 27 en41 6 (regAt 6 Try.f41) := regOk_of ok41 rfl hX (by kernel_rfl) (by kernel_rfl)
theorem t41l4Eq (R : Type) (c : Vars t41l4c) (v : Vars t41l4v) (kk : Vars t41l4c → (Vars t41l4v ⊕ Oc t41l4e) → Option R) : evC en41 su41 (loopAt 4 Try.f41) (Desc.mk2 t41l4v v (Desc.mk2 t41l4c c .empty)) (fun o => bodyK t41l4c t41l4v t41l4e o kk) = t41l4 R c v kk := by kernel_rfl
theorem t41l4Ok {X : Cx} (hX : en41.lo = X.lo) : SubOk Try.prog X 27 ⟨t41l4c, t41l4v, t41l4e, loopF t41l4⟩ (.loop (loopAt 4 Try.f41)) :=
  sub_loop (subs := su41) ok41 rfl hX (GoodN.good (K := True) (Eq.mpr (show GoodN Try.prog X 27 en41 su41 (loopAt 4 Try.f41) True = (RegOk Try.prog X 27 en41 6 (regAt 6 Try.f41) ∧ True) by kernel_rfl) ⟨(dr41r6 hX), trivial⟩)).1 (by decide) (by decide) t41l4Eq
theorem t41Eq (x : Ps ins41) : evF en41 su41 Try.f41 ins41 res41 x = t41 x := by kernel_rfl
theorem so41 : Sound Try.prog 41 sg41 :=
  sound_of (fn := Try.f41) (c := bodyOf Try.f41) (subs := su41) (E := en41) (by kernel_rfl) (by kernel_rfl) (by decide) ok41 (by kernel_rfl) (by kernel_rfl) (by decide)
    (fun X hX => (GoodN.good (K := True) (Eq.mpr (show GoodN Try.prog X 27 en41 su41 (bodyOf Try.f41) True = (SubOk Try.prog X 27 ⟨t41l4c, t41l4v, t41l4e, loopF t41l4⟩ (.loop (loopAt 4 Try.f41)) ∧ True) by kernel_rfl) ⟨(t41l4Ok hX), trivial⟩)).1)
    (fun x r h => (t41Eq x).trans h)
/-! loop.example/g00224/laws.eqEdit -/
def fl14 : List (Nat × Sig) := [(21, sg21), (41, sg41)]
def en14 : Env := { n := 27, ty := assocN tyL, fns := assocN fl14, lo := 0 }
def su14 : Bool → Nat → Option Sub | _, _ => none
theorem ok14 : EnvOk Try.prog en14 := envOk_of rfl rfl tyL_ok (⟨so21, ⟨so41, trivial⟩⟩)
theorem t14Eq (x : Ps ins14) : evF en14 su14 Try.f14 ins14 res14 x = t14 x := by kernel_rfl
theorem so14 : Sound Try.prog 14 sg14 :=
  sound_of (fn := Try.f14) (c := bodyOf Try.f14) (subs := su14) (E := en14) (by kernel_rfl) (by kernel_rfl) (by decide) ok14 (by kernel_rfl) (by kernel_rfl) (by decide)
    (fun X hX => (GoodN.good (K := True) (Eq.mpr (show GoodN Try.prog X 27 en14 su14 (bodyOf Try.f14) True = (True) by kernel_rfl) trivial)).1)
    (fun x r h => (t14Eq x).trans h)
/-! loop.example/g00224/laws.markIntS -/
def fl22 : List (Nat × Sig) := []
def en22 : Env := { n := 19, ty := assocN tyL, fns := assocN fl22, lo := 1 }
def su22 : Bool → Nat → Option Sub | true, 2 => some ⟨t22l2c, t22l2v, t22l2e, loopF t22l2⟩ | _, _ => none
theorem ok22 : EnvOk Try.prog en22 := envOk_of rfl rfl tyL_ok (trivial)
theorem t22l2Eq (R : Type) (c : Vars t22l2c) (v : Vars t22l2v) (kk : Vars t22l2c → (Vars t22l2v ⊕ Oc t22l2e) → Option R) : evC en22 su22 (loopAt 2 Try.f22) (Desc.mk2 t22l2v v (Desc.mk2 t22l2c c .empty)) (fun o => bodyK t22l2c t22l2v t22l2e o kk) = t22l2 R c v kk := by kernel_rfl
theorem t22l2Ok {X : Cx} (hX : en22.lo = X.lo) : SubOk Try.prog X 19 ⟨t22l2c, t22l2v, t22l2e, loopF t22l2⟩ (.loop (loopAt 2 Try.f22)) :=
  sub_loop (subs := su22) ok22 rfl hX (GoodN.good (K := True) (Eq.mpr (show GoodN Try.prog X 19 en22 su22 (loopAt 2 Try.f22) True = (True) by kernel_rfl) trivial)).1 (by decide) (by decide) t22l2Eq
theorem t22Eq (x : Ps ins22) : evF en22 su22 Try.f22 ins22 res22 x = t22 x := by kernel_rfl
theorem so22 : Sound Try.prog 22 sg22 :=
  sound_of (fn := Try.f22) (c := bodyOf Try.f22) (subs := su22) (E := en22) (by kernel_rfl) (by kernel_rfl) (by decide) ok22 (by kernel_rfl) (by kernel_rfl) (by decide)
    (fun X hX => (GoodN.good (K := True) (Eq.mpr (show GoodN Try.prog X 19 en22 su22 (bodyOf Try.f22) True = (SubOk Try.prog X 19 ⟨t22l2c, t22l2v, t22l2e, loopF t22l2⟩ (.loop (loopAt 2 Try.f22)) ∧ True) by kernel_rfl) ⟨(t22l2Ok hX), trivial⟩)).1)
    (fun x r h => (t22Eq x).trans h)
/-! loop.example/g00224/laws.markText -/
def fl48 : List (Nat × Sig) := []
def en48 : Env := { n := 20, ty := assocN tyL, fns := assocN fl48, lo := 0 }
def su48 : Bool → Nat → Option Sub | true, 4 => some ⟨t48l4c, t48l4v, t48l4e, loopF t48l4⟩ | _, _ => none
theorem ok48 : EnvOk Try.prog en48 := envOk_of rfl rfl tyL_ok (trivial)
theorem t48l4Eq (R : Type) (c : Vars t48l4c) (v : Vars t48l4v) (kk : Vars t48l4c → (Vars t48l4v ⊕ Oc t48l4e) → Option R) : evC en48 su48 (loopAt 4 Try.f48) (Desc.mk2 t48l4v v (Desc.mk2 t48l4c c .empty)) (fun o => bodyK t48l4c t48l4v t48l4e o kk) = t48l4 R c v kk := by kernel_rfl
theorem t48l4Ok {X : Cx} (hX : en48.lo = X.lo) : SubOk Try.prog X 20 ⟨t48l4c, t48l4v, t48l4e, loopF t48l4⟩ (.loop (loopAt 4 Try.f48)) :=
  sub_loop (subs := su48) ok48 rfl hX (GoodN.good (K := True) (Eq.mpr (show GoodN Try.prog X 20 en48 su48 (loopAt 4 Try.f48) True = (True) by kernel_rfl) trivial)).1 (by decide) (by decide) t48l4Eq
theorem t48Eq (x : Ps ins48) : evF en48 su48 Try.f48 ins48 res48 x = t48 x := by kernel_rfl
theorem so48 : Sound Try.prog 48 sg48 :=
  sound_of (fn := Try.f48) (c := bodyOf Try.f48) (subs := su48) (E := en48) (by kernel_rfl) (by kernel_rfl) (by decide) ok48 (by kernel_rfl) (by kernel_rfl) (by decide)
    (fun X hX => (GoodN.good (K := True) (Eq.mpr (show GoodN Try.prog X 20 en48 su48 (bodyOf Try.f48) True = (SubOk Try.prog X 20 ⟨t48l4c, t48l4v, t48l4e, loopF t48l4⟩ (.loop (loopAt 4 Try.f48)) ∧ True) by kernel_rfl) ⟨(t48l4Ok hX), trivial⟩)).1)
    (fun x r h => (t48Eq x).trans h)
/-! loop.example/g00224/laws.markMetaS -/
def fl42 : List (Nat × Sig) := [(48, sg48)]
def en42 : Env := { n := 43, ty := assocN tyL, fns := assocN fl42, lo := 1 }
def su42 : Bool → Nat → Option Sub | true, 2 => some ⟨t42l2c, t42l2v, t42l2e, loopF t42l2⟩ | _, _ => none
theorem ok42 : EnvOk Try.prog en42 := envOk_of rfl rfl tyL_ok (⟨so48, trivial⟩)
theorem t42l2Eq (R : Type) (c : Vars t42l2c) (v : Vars t42l2v) (kk : Vars t42l2c → (Vars t42l2v ⊕ Oc t42l2e) → Option R) : evC en42 su42 (loopAt 2 Try.f42) (Desc.mk2 t42l2v v (Desc.mk2 t42l2c c .empty)) (fun o => bodyK t42l2c t42l2v t42l2e o kk) = t42l2 R c v kk := by kernel_rfl
theorem t42l2Ok {X : Cx} (hX : en42.lo = X.lo) : SubOk Try.prog X 43 ⟨t42l2c, t42l2v, t42l2e, loopF t42l2⟩ (.loop (loopAt 2 Try.f42)) :=
  sub_loop (subs := su42) ok42 rfl hX (GoodN.good (K := True) (Eq.mpr (show GoodN Try.prog X 43 en42 su42 (loopAt 2 Try.f42) True = (True) by kernel_rfl) trivial)).1 (by decide) (by decide) t42l2Eq
theorem t42Eq (x : Ps ins42) : evF en42 su42 Try.f42 ins42 res42 x = t42 x := by kernel_rfl
theorem so42 : Sound Try.prog 42 sg42 :=
  sound_of (fn := Try.f42) (c := bodyOf Try.f42) (subs := su42) (E := en42) (by kernel_rfl) (by kernel_rfl) (by decide) ok42 (by kernel_rfl) (by kernel_rfl) (by decide)
    (fun X hX => (GoodN.good (K := True) (Eq.mpr (show GoodN Try.prog X 43 en42 su42 (bodyOf Try.f42) True = (SubOk Try.prog X 43 ⟨t42l2c, t42l2v, t42l2e, loopF t42l2⟩ (.loop (loopAt 2 Try.f42)) ∧ True) by kernel_rfl) ⟨(t42l2Ok hX), trivial⟩)).1)
    (fun x r h => (t42Eq x).trans h)
/-! loop.example/g00224/laws.markEdit -/
def fl15 : List (Nat × Sig) := [(22, sg22), (42, sg42)]
def en15 : Env := { n := 14, ty := assocN tyL, fns := assocN fl15, lo := 1 }
def su15 : Bool → Nat → Option Sub | _, _ => none
theorem ok15 : EnvOk Try.prog en15 := envOk_of rfl rfl tyL_ok (⟨so22, ⟨so42, trivial⟩⟩)
theorem t15Eq (x : Ps ins15) : evF en15 su15 Try.f15 ins15 res15 x = t15 x := by kernel_rfl
theorem so15 : Sound Try.prog 15 sg15 :=
  sound_of (fn := Try.f15) (c := bodyOf Try.f15) (subs := su15) (E := en15) (by kernel_rfl) (by kernel_rfl) (by decide) ok15 (by kernel_rfl) (by kernel_rfl) (by decide)
    (fun X hX => (GoodN.good (K := True) (Eq.mpr (show GoodN Try.prog X 14 en15 su15 (bodyOf Try.f15) True = (True) by kernel_rfl) trivial)).1)
    (fun x r h => (t15Eq x).trans h)
/-! loop.example/g00224/laws.heldIntS -/
def fl23 : List (Nat × Sig) := []
def en23 : Env := { n := 21, ty := assocN tyL, fns := assocN fl23, lo := 0 }
def su23 : Bool → Nat → Option Sub | true, 2 => some ⟨t23l2c, t23l2v, t23l2e, loopF t23l2⟩ | _, _ => none
theorem ok23 : EnvOk Try.prog en23 := envOk_of rfl rfl tyL_ok (trivial)
theorem t23l2Eq (R : Type) (c : Vars t23l2c) (v : Vars t23l2v) (kk : Vars t23l2c → (Vars t23l2v ⊕ Oc t23l2e) → Option R) : evC en23 su23 (loopAt 2 Try.f23) (Desc.mk2 t23l2v v (Desc.mk2 t23l2c c .empty)) (fun o => bodyK t23l2c t23l2v t23l2e o kk) = t23l2 R c v kk := by kernel_rfl
theorem t23l2Ok {X : Cx} (hX : en23.lo = X.lo) : SubOk Try.prog X 21 ⟨t23l2c, t23l2v, t23l2e, loopF t23l2⟩ (.loop (loopAt 2 Try.f23)) :=
  sub_loop (subs := su23) ok23 rfl hX (GoodN.good (K := True) (Eq.mpr (show GoodN Try.prog X 21 en23 su23 (loopAt 2 Try.f23) True = (True) by kernel_rfl) trivial)).1 (by decide) (by decide) t23l2Eq
theorem t23Eq (x : Ps ins23) : evF en23 su23 Try.f23 ins23 res23 x = t23 x := by kernel_rfl
theorem so23 : Sound Try.prog 23 sg23 :=
  sound_of (fn := Try.f23) (c := bodyOf Try.f23) (subs := su23) (E := en23) (by kernel_rfl) (by kernel_rfl) (by decide) ok23 (by kernel_rfl) (by kernel_rfl) (by decide)
    (fun X hX => (GoodN.good (K := True) (Eq.mpr (show GoodN Try.prog X 21 en23 su23 (bodyOf Try.f23) True = (SubOk Try.prog X 21 ⟨t23l2c, t23l2v, t23l2e, loopF t23l2⟩ (.loop (loopAt 2 Try.f23)) ∧ True) by kernel_rfl) ⟨(t23l2Ok hX), trivial⟩)).1)
    (fun x r h => (t23Eq x).trans h)
/-! loop.example/g00224/laws.heldMetaS -/
def fl43 : List (Nat × Sig) := [(48, sg48)]
def en43 : Env := { n := 51, ty := assocN tyL, fns := assocN fl43, lo := 0 }
def su43 : Bool → Nat → Option Sub | true, 2 => some ⟨t43l2c, t43l2v, t43l2e, loopF t43l2⟩ | _, _ => none
theorem ok43 : EnvOk Try.prog en43 := envOk_of rfl rfl tyL_ok (⟨so48, trivial⟩)
theorem dr43r10 {X : Cx} (hX : en43.lo = X.lo) : RegOk Try.prog X 51 en43 10 (regAt 10 Try.f43) := regOk_of ok43 rfl hX (by kernel_rfl) (by kernel_rfl)
theorem dr43r13 {X : Cx} (hX : en43.lo = X.lo) : RegOk Try.prog X 51 en43 13 (regAt 13 Try.f43) := regOk_of ok43 rfl hX (by kernel_rfl) (by kernel_rfl)
theorem t43l2Eq (R : Type) (c : Vars t43l2c) (v : Vars t43l2v) (kk : Vars t43l2c → (Vars t43l2v ⊕ Oc t43l2e) → Option R) : evC en43 su43 (loopAt 2 Try.f43) (Desc.mk2 t43l2v v (Desc.mk2 t43l2c c .empty)) (fun o => bodyK t43l2c t43l2v t43l2e o kk) = t43l2 R c v kk := by kernel_rfl
theorem t43l2Ok {X : Cx} (hX : en43.lo = X.lo) : SubOk Try.prog X 51 ⟨t43l2c, t43l2v, t43l2e, loopF t43l2⟩ (.loop (loopAt 2 Try.f43)) :=
  sub_loop (subs := su43) ok43 rfl hX (GoodN.good (K := True) (Eq.mpr (show GoodN Try.prog X 51 en43 su43 (loopAt 2 Try.f43) True = (RegOk Try.prog X 51 en43 10 (regAt 10 Try.f43) ∧ RegOk Try.prog X 51 en43 13 (regAt 13 Try.f43) ∧ True) by kernel_rfl) ⟨(dr43r10 hX), (dr43r13 hX), trivial⟩)).1 (by decide) (by decide) t43l2Eq
theorem t43Eq (x : Ps ins43) : evF en43 su43 Try.f43 ins43 res43 x = t43 x := by kernel_rfl
theorem so43 : Sound Try.prog 43 sg43 :=
  sound_of (fn := Try.f43) (c := bodyOf Try.f43) (subs := su43) (E := en43) (by kernel_rfl) (by kernel_rfl) (by decide) ok43 (by kernel_rfl) (by kernel_rfl) (by decide)
    (fun X hX => (GoodN.good (K := True) (Eq.mpr (show GoodN Try.prog X 51 en43 su43 (bodyOf Try.f43) True = (SubOk Try.prog X 51 ⟨t43l2c, t43l2v, t43l2e, loopF t43l2⟩ (.loop (loopAt 2 Try.f43)) ∧ True) by kernel_rfl) ⟨(t43l2Ok hX), trivial⟩)).1)
    (fun x r h => (t43Eq x).trans h)
/-! loop.example/g00224/laws.heldEdit -/
def fl16 : List (Nat × Sig) := [(23, sg23), (43, sg43)]
def en16 : Env := { n := 18, ty := assocN tyL, fns := assocN fl16, lo := 0 }
def su16 : Bool → Nat → Option Sub | _, _ => none
theorem ok16 : EnvOk Try.prog en16 := envOk_of rfl rfl tyL_ok (⟨so23, ⟨so43, trivial⟩⟩)
theorem t16Eq (x : Ps ins16) : evF en16 su16 Try.f16 ins16 res16 x = t16 x := by kernel_rfl
theorem so16 : Sound Try.prog 16 sg16 :=
  sound_of (fn := Try.f16) (c := bodyOf Try.f16) (subs := su16) (E := en16) (by kernel_rfl) (by kernel_rfl) (by decide) ok16 (by kernel_rfl) (by kernel_rfl) (by decide)
    (fun X hX => (GoodN.good (K := True) (Eq.mpr (show GoodN Try.prog X 18 en16 su16 (bodyOf Try.f16) True = (True) by kernel_rfl) trivial)).1)
    (fun x r h => (t16Eq x).trans h)
/-! loop.example/g00224/laws.FnExactReadEdit -/
def fl4 : List (Nat × Sig) := [(12, sg12), (13, sg13), (14, sg14), (15, sg15), (16, sg16)]
def en4 : Env := { n := 66, ty := assocN tyL, fns := assocN fl4, lo := 0 }
def su4 : Bool → Nat → Option Sub | _, _ => none
theorem ok4 : EnvOk Try.prog en4 := envOk_of rfl rfl tyL_ok (⟨so12, ⟨so13, ⟨so14, ⟨so15, ⟨so16, trivial⟩⟩⟩⟩⟩)
theorem t4Eq (x : Ps ins4) : evF en4 su4 Try.f4 ins4 res4 x = t4 x := by kernel_rfl
theorem so4 : Sound Try.prog 4 sg4 :=
  sound_of (fn := Try.f4) (c := bodyOf Try.f4) (subs := su4) (E := en4) (by kernel_rfl) (by kernel_rfl) (by decide) ok4 (by kernel_rfl) (by kernel_rfl) (by decide)
    (fun X hX => (GoodN.good (K := True) (Eq.mpr (show GoodN Try.prog X 66 en4 su4 (bodyOf Try.f4) True = (True) by kernel_rfl) trivial)).1)
    (fun x r h => (t4Eq x).trans h)
/-! loop.example/g00224/spec.l2Table -/
def fl92 : List (Nat × Sig) := []
def hi92 : List (Nat × (K × Mk)) := [(0, ((.sl (.int .u32)), (.o .s))), (1, ((.sl (.int .u32)), (.o .s)))]
def en92 : Env := { n := 32, ty := assocN tyL, fns := assocN fl92, lo := 0, hint := assocN hi92 }
def su92 : Bool → Nat → Option Sub | false, 12 => some ⟨t92i12c, t92i12v, t92i12e, t92i12⟩ | true, 7 => some ⟨t92l7c, t92l7v, t92l7e, loopF t92l7⟩ | true, 3 => some ⟨t92l3c, t92l3v, t92l3e, loopF t92l3⟩ | _, _ => none
theorem ok92 : EnvOk Try.prog en92 := envOk_of rfl rfl tyL_ok (trivial)
def su92i12 : Bool → Nat → Option Sub | true, 7 => some ⟨t92l7c, t92l7v, t92l7e, loopF t92l7⟩ | true, 3 => some ⟨t92l3c, t92l3v, t92l3e, loopF t92l3⟩ | _, _ => none
theorem t92i12Eq (R : Type) (c : Vars t92i12c) (v : Vars t92i12v) (kk : Vars t92i12c → Oc t92i12e → Option R) : evC en92 su92i12 (ifAt 12 Try.f92) (Desc.mk2 t92i12v v (Desc.mk2 t92i12c c .empty)) (fun o => chk t92i12c t92i12e o kk) = t92i12 R c v kk := by kernel_rfl
theorem t92i12Ok {X : Cx} (hX : en92.lo = X.lo) : SubOk Try.prog X 32 ⟨t92i12c, t92i12v, t92i12e, t92i12⟩ (ifAt 12 Try.f92) :=
  sub_if (u := ⟨t92i12c, t92i12v, t92i12e, t92i12⟩) (subs := su92i12) ok92 rfl hX (GoodN.good (K := True) (Eq.mpr (show GoodN Try.prog X 32 en92 su92i12 (ifAt 12 Try.f92) True = (True) by kernel_rfl) trivial)).1 (by decide) (by decide) t92i12Eq
theorem t92l7Eq (R : Type) (c : Vars t92l7c) (v : Vars t92l7v) (kk : Vars t92l7c → (Vars t92l7v ⊕ Oc t92l7e) → Option R) : evC en92 su92 (loopAt 7 Try.f92) (Desc.mk2 t92l7v v (Desc.mk2 t92l7c c .empty)) (fun o => bodyK t92l7c t92l7v t92l7e o kk) = t92l7 R c v kk := by kernel_rfl
theorem t92l7Ok {X : Cx} (hX : en92.lo = X.lo) : SubOk Try.prog X 32 ⟨t92l7c, t92l7v, t92l7e, loopF t92l7⟩ (.loop (loopAt 7 Try.f92)) :=
  sub_loop (subs := su92) ok92 rfl hX (GoodN.good (K := True) (Eq.mpr (show GoodN Try.prog X 32 en92 su92 (loopAt 7 Try.f92) True = (SubOk Try.prog X 32 ⟨t92i12c, t92i12v, t92i12e, t92i12⟩ (ifAt 12 Try.f92) ∧ True) by kernel_rfl) ⟨(t92i12Ok hX), trivial⟩)).1 (by decide) (by decide) t92l7Eq
theorem t92l3Eq (R : Type) (c : Vars t92l3c) (v : Vars t92l3v) (kk : Vars t92l3c → (Vars t92l3v ⊕ Oc t92l3e) → Option R) : evC en92 su92 (loopAt 3 Try.f92) (Desc.mk2 t92l3v v (Desc.mk2 t92l3c c .empty)) (fun o => bodyK t92l3c t92l3v t92l3e o kk) = t92l3 R c v kk := by kernel_rfl
theorem t92l3Ok {X : Cx} (hX : en92.lo = X.lo) : SubOk Try.prog X 32 ⟨t92l3c, t92l3v, t92l3e, loopF t92l3⟩ (.loop (loopAt 3 Try.f92)) :=
  sub_loop (subs := su92) ok92 rfl hX (GoodN.good (K := True) (Eq.mpr (show GoodN Try.prog X 32 en92 su92 (loopAt 3 Try.f92) True = (SubOk Try.prog X 32 ⟨t92l7c, t92l7v, t92l7e, loopF t92l7⟩ (.loop (loopAt 7 Try.f92)) ∧ True) by kernel_rfl) ⟨(t92l7Ok hX), trivial⟩)).1 (by decide) (by decide) t92l3Eq
theorem t92Eq (x : Ps ins92) : evF en92 su92 Try.f92 ins92 res92 x = t92 x := by kernel_rfl
theorem so92 : Sound Try.prog 92 sg92 :=
  sound_of (fn := Try.f92) (c := bodyOf Try.f92) (subs := su92) (E := en92) (by kernel_rfl) (by kernel_rfl) (by decide) ok92 (by kernel_rfl) (by kernel_rfl) (by decide)
    (fun X hX => (GoodN.good (K := True) (Eq.mpr (show GoodN Try.prog X 32 en92 su92 (bodyOf Try.f92) True = (SubOk Try.prog X 32 ⟨t92l3c, t92l3v, t92l3e, loopF t92l3⟩ (.loop (loopAt 3 Try.f92)) ∧ True) by kernel_rfl) ⟨(t92l3Ok hX), trivial⟩)).1)
    (fun x r h => (t92Eq x).trans h)
/-! loop.example/g00224/spec.l2On -/
def fl91 : List (Nat × Sig) := []
def en91 : Env := { n := 27, ty := assocN tyL, fns := assocN fl91, lo := 0 }
def su91 : Bool → Nat → Option Sub | true, 2 => some ⟨t91l2c, t91l2v, t91l2e, loopF t91l2⟩ | _, _ => none
theorem ok91 : EnvOk Try.prog en91 := envOk_of rfl rfl tyL_ok (trivial)
theorem t91l2Eq (R : Type) (c : Vars t91l2c) (v : Vars t91l2v) (kk : Vars t91l2c → (Vars t91l2v ⊕ Oc t91l2e) → Option R) : evC en91 su91 (loopAt 2 Try.f91) (Desc.mk2 t91l2v v (Desc.mk2 t91l2c c .empty)) (fun o => bodyK t91l2c t91l2v t91l2e o kk) = t91l2 R c v kk := by kernel_rfl
theorem t91l2Ok {X : Cx} (hX : en91.lo = X.lo) : SubOk Try.prog X 27 ⟨t91l2c, t91l2v, t91l2e, loopF t91l2⟩ (.loop (loopAt 2 Try.f91)) :=
  sub_loop (subs := su91) ok91 rfl hX (GoodN.good (K := True) (Eq.mpr (show GoodN Try.prog X 27 en91 su91 (loopAt 2 Try.f91) True = (True) by kernel_rfl) trivial)).1 (by decide) (by decide) t91l2Eq
theorem t91Eq (x : Ps ins91) : evF en91 su91 Try.f91 ins91 res91 x = t91 x := by kernel_rfl
theorem so91 : Sound Try.prog 91 sg91 :=
  sound_of (fn := Try.f91) (c := bodyOf Try.f91) (subs := su91) (E := en91) (by kernel_rfl) (by kernel_rfl) (by decide) ok91 (by kernel_rfl) (by kernel_rfl) (by decide)
    (fun X hX => (GoodN.good (K := True) (Eq.mpr (show GoodN Try.prog X 27 en91 su91 (bodyOf Try.f91) True = (SubOk Try.prog X 27 ⟨t91l2c, t91l2v, t91l2e, loopF t91l2⟩ (.loop (loopAt 2 Try.f91)) ∧ True) by kernel_rfl) ⟨(t91l2Ok hX), trivial⟩)).1)
    (fun x r h => (t91Eq x).trans h)
/-! loop.example/g00224/spec.l2Sum -/
def fl69 : List (Nat × Sig) := [(92, sg92), (91, sg91)]
def en69 : Env := { n := 7, ty := assocN tyL, fns := assocN fl69, lo := 0 }
def su69 : Bool → Nat → Option Sub | _, _ => none
theorem ok69 : EnvOk Try.prog en69 := envOk_of rfl rfl tyL_ok (⟨so92, ⟨so91, trivial⟩⟩)
theorem t69Eq (x : Ps ins69) : evF en69 su69 Try.f69 ins69 res69 x = t69 x := by kernel_rfl
theorem so69 : Sound Try.prog 69 sg69 :=
  sound_of (fn := Try.f69) (c := bodyOf Try.f69) (subs := su69) (E := en69) (by kernel_rfl) (by kernel_rfl) (by decide) ok69 (by kernel_rfl) (by kernel_rfl) (by decide)
    (fun X hX => (GoodN.good (K := True) (Eq.mpr (show GoodN Try.prog X 7 en69 su69 (bodyOf Try.f69) True = (True) by kernel_rfl) trivial)).1)
    (fun x r h => (t69Eq x).trans h)
/-! loop.example/g00224/spec.l2Word -/
def fl68 : List (Nat × Sig) := []
def en68 : Env := { n := 16, ty := assocN tyL, fns := assocN fl68, lo := 0 }
def su68 : Bool → Nat → Option Sub | _, _ => none
theorem ok68 : EnvOk Try.prog en68 := envOk_of rfl rfl tyL_ok (trivial)
theorem t68Eq (x : Ps ins68) : evF en68 su68 Try.f68 ins68 res68 x = t68 x := by kernel_rfl
theorem so68 : Sound Try.prog 68 sg68 :=
  sound_of (fn := Try.f68) (c := bodyOf Try.f68) (subs := su68) (E := en68) (by kernel_rfl) (by kernel_rfl) (by decide) ok68 (by kernel_rfl) (by kernel_rfl) (by decide)
    (fun X hX => (GoodN.good (K := True) (Eq.mpr (show GoodN Try.prog X 16 en68 su68 (bodyOf Try.f68) True = (True) by kernel_rfl) trivial)).1)
    (fun x r h => (t68Eq x).trans h)
/-! loop.example/g00224/spec.l6Tail -/
def fl45 : List (Nat × Sig) := [(69, sg69), (68, sg68)]
def hi45 : List (Nat × (K × Mk)) := [(3, ((.sl (.int .i64)), (.o .s))), (8, ((.sl (.int .i64)), (.o .s)))]
def dw45 : List (Nat × List (List Nat)) := [(12, [[8, 51], [52], [53], [54], [55], [56], [57], [58], [59], [60], [61], [62], [63], [8, 63, 64], [8, 64]])]
def en45 : Env := { n := 69, ty := assocN tyL, fns := assocN fl45, lo := 0, hint := assocN hi45, draw := drawOf dw45 }
def su45 : Bool → Nat → Option Sub | true, 10 => some ⟨t45l10c, t45l10v, t45l10e, loopF t45l10⟩ | _, _ => none
theorem ok45 : EnvOk Try.prog en45 := envOk_of rfl rfl tyL_ok (⟨so69, ⟨so68, trivial⟩⟩)
theorem dr45r2 {X : Cx} (hX : en45.lo = X.lo) : RegOk Try.prog X 69 en45 2 (regAt 2 Try.f45) := regOk_of ok45 rfl hX (by kernel_rfl) (by kernel_rfl)
theorem dr45r4 {X : Cx} (hX : en45.lo = X.lo) : RegOk Try.prog X 69 en45 4 (regAt 4 Try.f45) := regOk_of ok45 rfl hX (by kernel_rfl) (by kernel_rfl)
theorem dr45r12 {X : Cx} (hX : en45.lo = X.lo) : RegOk Try.prog X 69 en45 12 (regAt 12 Try.f45) := regOk_of ok45 rfl hX (by kernel_rfl) (by kernel_rfl)
theorem t45l10Eq (R : Type) (c : Vars t45l10c) (v : Vars t45l10v) (kk : Vars t45l10c → (Vars t45l10v ⊕ Oc t45l10e) → Option R) : evC en45 su45 (loopAt 10 Try.f45) (Desc.mk2 t45l10v v (Desc.mk2 t45l10c c .empty)) (fun o => bodyK t45l10c t45l10v t45l10e o kk) = t45l10 R c v kk := by kernel_rfl
theorem t45l10Ok {X : Cx} (hX : en45.lo = X.lo) : SubOk Try.prog X 69 ⟨t45l10c, t45l10v, t45l10e, loopF t45l10⟩ (.loop (loopAt 10 Try.f45)) :=
  sub_loop (subs := su45) ok45 rfl hX (GoodN.good (K := True) (Eq.mpr (show GoodN Try.prog X 69 en45 su45 (loopAt 10 Try.f45) True = (RegOk Try.prog X 69 en45 12 (regAt 12 Try.f45) ∧ True) by kernel_rfl) ⟨(dr45r12 hX), trivial⟩)).1 (by decide) (by decide) t45l10Eq
theorem t45Eq (x : Ps ins45) : evF en45 su45 Try.f45 ins45 res45 x = t45 x := by kernel_rfl
theorem so45 : Sound Try.prog 45 sg45 :=
  sound_of (fn := Try.f45) (c := bodyOf Try.f45) (subs := su45) (E := en45) (by kernel_rfl) (by kernel_rfl) (by decide) ok45 (by kernel_rfl) (by kernel_rfl) (by decide)
    (fun X hX => (GoodN.good (K := True) (Eq.mpr (show GoodN Try.prog X 69 en45 su45 (bodyOf Try.f45) True = (RegOk Try.prog X 69 en45 2 (regAt 2 Try.f45) ∧ RegOk Try.prog X 69 en45 4 (regAt 4 Try.f45) ∧ SubOk Try.prog X 69 ⟨t45l10c, t45l10v, t45l10e, loopF t45l10⟩ (.loop (loopAt 10 Try.f45)) ∧ True) by kernel_rfl) ⟨(dr45r2 hX), (dr45r4 hX), (t45l10Ok hX), trivial⟩)).1)
    (fun x r h => (t45Eq x).trans h)
/-! loop.example/g00224/spec.l6Item -/
def fl67 : List (Nat × Sig) := [(84, sg84)]
def dw67 : List (Nat × List (List Nat)) := [(8, [[93], [94], [95], [96], [97], [98], [99], [100], [101], [102], [103], [104], [105], [106], [107], [108], [109], [110], [111], [112], [113], [114], [115], [116], [117], [118], [119], [120], [121], [122], [4], [5]])]
def en67 : Env := { n := 123, ty := assocN tyL, fns := assocN fl67, lo := 0, draw := drawOf dw67 }
def su67 : Bool → Nat → Option Sub | _, _ => none
theorem ok67 : EnvOk Try.prog en67 := envOk_of rfl rfl tyL_ok (⟨so84, trivial⟩)
theorem dr67r8 {X : Cx} (hX : en67.lo = X.lo) : RegOk Try.prog X 123 en67 8 (regAt 8 Try.f67) := regOk_of ok67 rfl hX (by kernel_rfl) (by kernel_rfl)
theorem t67Eq (x : Ps ins67) : evF en67 su67 Try.f67 ins67 res67 x = t67 x := by kernel_rfl
theorem so67 : Sound Try.prog 67 sg67 :=
  sound_of (fn := Try.f67) (c := bodyOf Try.f67) (subs := su67) (E := en67) (by kernel_rfl) (by kernel_rfl) (by decide) ok67 (by kernel_rfl) (by kernel_rfl) (by decide)
    (fun X hX => (GoodN.good (K := True) (Eq.mpr (show GoodN Try.prog X 123 en67 su67 (bodyOf Try.f67) True = (RegOk Try.prog X 123 en67 8 (regAt 8 Try.f67) ∧ True) by kernel_rfl) ⟨(dr67r8 hX), trivial⟩)).1)
    (fun x r h => (t67Eq x).trans h)
/-! loop.example/g00224/spec.GoodItem -/
def fl79 : List (Nat × Sig) := [(86, sg86), (100, sg100), (85, sg85)]
def en79 : Env := { n := 32, ty := assocN tyL, fns := assocN fl79, lo := 0 }
def su79 : Bool → Nat → Option Sub | _, _ => none
theorem ok79 : EnvOk Try.prog en79 := envOk_of rfl rfl tyL_ok (⟨so86, ⟨so100, ⟨so85, trivial⟩⟩⟩)
theorem t79Eq (x : Ps ins79) : evF en79 su79 Try.f79 ins79 res79 x = t79 x := by kernel_rfl
theorem so79 : Sound Try.prog 79 sg79 :=
  sound_of (fn := Try.f79) (c := bodyOf Try.f79) (subs := su79) (E := en79) (by kernel_rfl) (by kernel_rfl) (by decide) ok79 (by kernel_rfl) (by kernel_rfl) (by decide)
    (fun X hX => (GoodN.good (K := True) (Eq.mpr (show GoodN Try.prog X 32 en79 su79 (bodyOf Try.f79) True = (True) by kernel_rfl) trivial)).1)
    (fun x r h => (t79Eq x).trans h)
/-! loop.example/g00224/spec.l4Compare -/
def fl80 : List (Nat × Sig) := []
def en80 : Env := { n := 38, ty := assocN tyL, fns := assocN fl80, lo := 0 }
def su80 : Bool → Nat → Option Sub | _, _ => none
theorem ok80 : EnvOk Try.prog en80 := envOk_of rfl rfl tyL_ok (trivial)
theorem t80Eq (x : Ps ins80) : evF en80 su80 Try.f80 ins80 res80 x = t80 x := by kernel_rfl
theorem so80 : Sound Try.prog 80 sg80 :=
  sound_of (fn := Try.f80) (c := bodyOf Try.f80) (subs := su80) (E := en80) (by kernel_rfl) (by kernel_rfl) (by decide) ok80 (by kernel_rfl) (by kernel_rfl) (by decide)
    (fun X hX => (GoodN.good (K := True) (Eq.mpr (show GoodN Try.prog X 38 en80 su80 (bodyOf Try.f80) True = (True) by kernel_rfl) trivial)).1)
    (fun x r h => (t80Eq x).trans h)
/-! loop.example/g00224/spec.GoodRun -/
def fl52 : List (Nat × Sig) := [(79, sg79), (80, sg80)]
def en52 : Env := { n := 30, ty := assocN tyL, fns := assocN fl52, lo := 0 }
def su52 : Bool → Nat → Option Sub | true, 2 => some ⟨t52l2c, t52l2v, t52l2e, loopF t52l2⟩ | _, _ => none
theorem ok52 : EnvOk Try.prog en52 := envOk_of rfl rfl tyL_ok (⟨so79, ⟨so80, trivial⟩⟩)
theorem dr52r4 {X : Cx} (hX : en52.lo = X.lo) : RegOk Try.prog X 30 en52 4 (regAt 4 Try.f52) := regOk_of ok52 rfl hX (by kernel_rfl) (by kernel_rfl)
theorem t52l2Eq (R : Type) (c : Vars t52l2c) (v : Vars t52l2v) (kk : Vars t52l2c → (Vars t52l2v ⊕ Oc t52l2e) → Option R) : evC en52 su52 (loopAt 2 Try.f52) (Desc.mk2 t52l2v v (Desc.mk2 t52l2c c .empty)) (fun o => bodyK t52l2c t52l2v t52l2e o kk) = t52l2 R c v kk := by kernel_rfl
theorem t52l2Ok {X : Cx} (hX : en52.lo = X.lo) : SubOk Try.prog X 30 ⟨t52l2c, t52l2v, t52l2e, loopF t52l2⟩ (.loop (loopAt 2 Try.f52)) :=
  sub_loop (subs := su52) ok52 rfl hX (GoodN.good (K := True) (Eq.mpr (show GoodN Try.prog X 30 en52 su52 (loopAt 2 Try.f52) True = (RegOk Try.prog X 30 en52 4 (regAt 4 Try.f52) ∧ True) by kernel_rfl) ⟨(dr52r4 hX), trivial⟩)).1 (by decide) (by decide) t52l2Eq
theorem t52Eq (x : Ps ins52) : evF en52 su52 Try.f52 ins52 res52 x = t52 x := by kernel_rfl
theorem so52 : Sound Try.prog 52 sg52 :=
  sound_of (fn := Try.f52) (c := bodyOf Try.f52) (subs := su52) (E := en52) (by kernel_rfl) (by kernel_rfl) (by decide) ok52 (by kernel_rfl) (by kernel_rfl) (by decide)
    (fun X hX => (GoodN.good (K := True) (Eq.mpr (show GoodN Try.prog X 30 en52 su52 (bodyOf Try.f52) True = (SubOk Try.prog X 30 ⟨t52l2c, t52l2v, t52l2e, loopF t52l2⟩ (.loop (loopAt 2 Try.f52)) ∧ True) by kernel_rfl) ⟨(t52l2Ok hX), trivial⟩)).1)
    (fun x r h => (t52Eq x).trans h)
/-! loop.example/g00224/spec.l6Two -/
def fl81 : List (Nat × Sig) := []
def en81 : Env := { n := 10, ty := assocN tyL, fns := assocN fl81, lo := 0 }
def su81 : Bool → Nat → Option Sub | _, _ => none
theorem ok81 : EnvOk Try.prog en81 := envOk_of rfl rfl tyL_ok (trivial)
theorem t81Eq (x : Ps ins81) : evF en81 su81 Try.f81 ins81 res81 x = t81 x := by kernel_rfl
theorem so81 : Sound Try.prog 81 sg81 :=
  sound_of (fn := Try.f81) (c := bodyOf Try.f81) (subs := su81) (E := en81) (by kernel_rfl) (by kernel_rfl) (by decide) ok81 (by kernel_rfl) (by kernel_rfl) (by decide)
    (fun X hX => (GoodN.good (K := True) (Eq.mpr (show GoodN Try.prog X 10 en81 su81 (bodyOf Try.f81) True = (True) by kernel_rfl) trivial)).1)
    (fun x r h => (t81Eq x).trans h)
/-! loop.example/g00224/spec.CommonOf -/
def fl82 : List (Nat × Sig) := []
def en82 : Env := { n := 28, ty := assocN tyL, fns := assocN fl82, lo := 0 }
def su82 : Bool → Nat → Option Sub | true, 2 => some ⟨t82l2c, t82l2v, t82l2e, loopF t82l2⟩ | _, _ => none
theorem ok82 : EnvOk Try.prog en82 := envOk_of rfl rfl tyL_ok (trivial)
theorem dr82r2 {X : Cx} (hX : en82.lo = X.lo) : RegOk Try.prog X 28 en82 2 (regAt 2 Try.f82) := regOk_of ok82 rfl hX (by kernel_rfl) (by kernel_rfl)
theorem t82l2Eq (R : Type) (c : Vars t82l2c) (v : Vars t82l2v) (kk : Vars t82l2c → (Vars t82l2v ⊕ Oc t82l2e) → Option R) : evC en82 su82 (loopAt 2 Try.f82) (Desc.mk2 t82l2v v (Desc.mk2 t82l2c c .empty)) (fun o => bodyK t82l2c t82l2v t82l2e o kk) = t82l2 R c v kk := by kernel_rfl
theorem t82l2Ok {X : Cx} (hX : en82.lo = X.lo) : SubOk Try.prog X 28 ⟨t82l2c, t82l2v, t82l2e, loopF t82l2⟩ (.loop (loopAt 2 Try.f82)) :=
  sub_loop (subs := su82) ok82 rfl hX (GoodN.good (K := True) (Eq.mpr (show GoodN Try.prog X 28 en82 su82 (loopAt 2 Try.f82) True = (RegOk Try.prog X 28 en82 2 (regAt 2 Try.f82) ∧ True) by kernel_rfl) ⟨(dr82r2 hX), trivial⟩)).1 (by decide) (by decide) t82l2Eq
theorem t82Eq (x : Ps ins82) : evF en82 su82 Try.f82 ins82 res82 x = t82 x := by kernel_rfl
theorem so82 : Sound Try.prog 82 sg82 :=
  sound_of (fn := Try.f82) (c := bodyOf Try.f82) (subs := su82) (E := en82) (by kernel_rfl) (by kernel_rfl) (by decide) ok82 (by kernel_rfl) (by kernel_rfl) (by decide)
    (fun X hX => (GoodN.good (K := True) (Eq.mpr (show GoodN Try.prog X 28 en82 su82 (bodyOf Try.f82) True = (SubOk Try.prog X 28 ⟨t82l2c, t82l2v, t82l2e, loopF t82l2⟩ (.loop (loopAt 2 Try.f82)) ∧ True) by kernel_rfl) ⟨(t82l2Ok hX), trivial⟩)).1)
    (fun x r h => (t82Eq x).trans h)
/-! loop.example/g00224/spec.l6Block -/
def fl53 : List (Nat × Sig) := [(81, sg81), (82, sg82), (83, sg83), (69, sg69), (68, sg68)]
def en53 : Env := { n := 78, ty := assocN tyL, fns := assocN fl53, lo := 0 }
def su53 : Bool → Nat → Option Sub | false, 8 => some ⟨t53i8c, t53i8v, t53i8e, t53i8⟩ | true, 4 => some ⟨t53l4c, t53l4v, t53l4e, loopF t53l4⟩ | _, _ => none
theorem ok53 : EnvOk Try.prog en53 := envOk_of rfl rfl tyL_ok (⟨so81, ⟨so82, ⟨so83, ⟨so69, ⟨so68, trivial⟩⟩⟩⟩⟩)
theorem dr53r9 {X : Cx} (hX : en53.lo = X.lo) : RegOk Try.prog X 78 en53 9 (regAt 9 Try.f53) := regOk_of ok53 rfl hX (by kernel_rfl) (by kernel_rfl)
theorem dr53r10 {X : Cx} (hX : en53.lo = X.lo) : RegOk Try.prog X 78 en53 10 (regAt 10 Try.f53) := regOk_of ok53 rfl hX (by kernel_rfl) (by kernel_rfl)
def su53i8 : Bool → Nat → Option Sub | true, 4 => some ⟨t53l4c, t53l4v, t53l4e, loopF t53l4⟩ | _, _ => none
theorem t53i8Eq (R : Type) (c : Vars t53i8c) (v : Vars t53i8v) (kk : Vars t53i8c → Oc t53i8e → Option R) : evC en53 su53i8 (ifAt 8 Try.f53) (Desc.mk2 t53i8v v (Desc.mk2 t53i8c c .empty)) (fun o => chk t53i8c t53i8e o kk) = t53i8 R c v kk := by kernel_rfl
theorem t53i8Ok {X : Cx} (hX : en53.lo = X.lo) : SubOk Try.prog X 78 ⟨t53i8c, t53i8v, t53i8e, t53i8⟩ (ifAt 8 Try.f53) :=
  sub_if (u := ⟨t53i8c, t53i8v, t53i8e, t53i8⟩) (subs := su53i8) ok53 rfl hX (GoodN.good (K := True) (Eq.mpr (show GoodN Try.prog X 78 en53 su53i8 (ifAt 8 Try.f53) True = (RegOk Try.prog X 78 en53 9 (regAt 9 Try.f53) ∧ True) by kernel_rfl) ⟨(dr53r9 hX), trivial⟩)).1 (by decide) (by decide) t53i8Eq
theorem t53l4Eq (R : Type) (c : Vars t53l4c) (v : Vars t53l4v) (kk : Vars t53l4c → (Vars t53l4v ⊕ Oc t53l4e) → Option R) : evC en53 su53 (loopAt 4 Try.f53) (Desc.mk2 t53l4v v (Desc.mk2 t53l4c c .empty)) (fun o => bodyK t53l4c t53l4v t53l4e o kk) = t53l4 R c v kk := by kernel_rfl
theorem t53l4Ok {X : Cx} (hX : en53.lo = X.lo) : SubOk Try.prog X 78 ⟨t53l4c, t53l4v, t53l4e, loopF t53l4⟩ (.loop (loopAt 4 Try.f53)) :=
  sub_loop (subs := su53) ok53 rfl hX (GoodN.good (K := True) (Eq.mpr (show GoodN Try.prog X 78 en53 su53 (loopAt 4 Try.f53) True = (SubOk Try.prog X 78 ⟨t53i8c, t53i8v, t53i8e, t53i8⟩ (ifAt 8 Try.f53) ∧ RegOk Try.prog X 78 en53 10 (regAt 10 Try.f53) ∧ True) by kernel_rfl) ⟨(t53i8Ok hX), (dr53r10 hX), trivial⟩)).1 (by decide) (by decide) t53l4Eq
theorem t53Eq (x : Ps ins53) : evF en53 su53 Try.f53 ins53 res53 x = t53 x := by kernel_rfl
theorem so53 : Sound Try.prog 53 sg53 :=
  sound_of (fn := Try.f53) (c := bodyOf Try.f53) (subs := su53) (E := en53) (by kernel_rfl) (by kernel_rfl) (by decide) ok53 (by kernel_rfl) (by kernel_rfl) (by decide)
    (fun X hX => (GoodN.good (K := True) (Eq.mpr (show GoodN Try.prog X 78 en53 su53 (bodyOf Try.f53) True = (SubOk Try.prog X 78 ⟨t53l4c, t53l4v, t53l4e, loopF t53l4⟩ (.loop (loopAt 4 Try.f53)) ∧ True) by kernel_rfl) ⟨(t53l4Ok hX), trivial⟩)).1)
    (fun x r h => (t53Eq x).trans h)
/-! loop.example/g00224/spec.l6Read -/
def fl44 : List (Nat × Sig) := [(45, sg45), (67, sg67), (52, sg52), (53, sg53)]
def hi44 : List (Nat × (K × Mk)) := [(2, ((.sl kd51), (.o .s))), (5, ((.sl (.int .i64)), (.o .s))), (7, ((.sl kd51), (.o .s)))]
def en44 : Env := { n := 59, ty := assocN tyL, fns := assocN fl44, lo := 0, hint := assocN hi44 }
def su44 : Bool → Nat → Option Sub | true, 6 => some ⟨t44l6c, t44l6v, t44l6e, loopF t44l6⟩ | _, _ => none
theorem ok44 : EnvOk Try.prog en44 := envOk_of rfl rfl tyL_ok (⟨so45, ⟨so67, ⟨so52, ⟨so53, trivial⟩⟩⟩⟩)
theorem t44l6Eq (R : Type) (c : Vars t44l6c) (v : Vars t44l6v) (kk : Vars t44l6c → (Vars t44l6v ⊕ Oc t44l6e) → Option R) : evC en44 su44 (loopAt 6 Try.f44) (Desc.mk2 t44l6v v (Desc.mk2 t44l6c c .empty)) (fun o => bodyK t44l6c t44l6v t44l6e o kk) = t44l6 R c v kk := by kernel_rfl
theorem t44l6Ok {X : Cx} (hX : en44.lo = X.lo) : SubOk Try.prog X 59 ⟨t44l6c, t44l6v, t44l6e, loopF t44l6⟩ (.loop (loopAt 6 Try.f44)) :=
  sub_loop (subs := su44) ok44 rfl hX (GoodN.good (K := True) (Eq.mpr (show GoodN Try.prog X 59 en44 su44 (loopAt 6 Try.f44) True = (True) by kernel_rfl) trivial)).1 (by decide) (by decide) t44l6Eq
theorem t44Eq (x : Ps ins44) : evF en44 su44 Try.f44 ins44 res44 x = t44 x := by kernel_rfl
theorem so44 : Sound Try.prog 44 sg44 :=
  sound_of (fn := Try.f44) (c := bodyOf Try.f44) (subs := su44) (E := en44) (by kernel_rfl) (by kernel_rfl) (by decide) ok44 (by kernel_rfl) (by kernel_rfl) (by decide)
    (fun X hX => (GoodN.good (K := True) (Eq.mpr (show GoodN Try.prog X 59 en44 su44 (bodyOf Try.f44) True = (SubOk Try.prog X 59 ⟨t44l6c, t44l6v, t44l6e, loopF t44l6⟩ (.loop (loopAt 6 Try.f44)) ∧ True) by kernel_rfl) ⟨(t44l6Ok hX), trivial⟩)).1)
    (fun x r h => (t44Eq x).trans h)
/-! loop.example/g00224/spec.FirstIn -/
def fl17 : List (Nat × Sig) := [(44, sg44)]
def hi17 : List (Nat × (K × Mk)) := [(4, ((.sl kd51), (.o .s)))]
def en17 : Env := { n := 22, ty := assocN tyL, fns := assocN fl17, lo := 0, hint := assocN hi17 }
def su17 : Bool → Nat → Option Sub | _, _ => none
theorem ok17 : EnvOk Try.prog en17 := envOk_of rfl rfl tyL_ok (⟨so44, trivial⟩)
theorem t17Eq (x : Ps ins17) : evF en17 su17 Try.f17 ins17 res17 x = t17 x := by kernel_rfl
theorem so17 : Sound Try.prog 17 sg17 :=
  sound_of (fn := Try.f17) (c := bodyOf Try.f17) (subs := su17) (E := en17) (by kernel_rfl) (by kernel_rfl) (by decide) ok17 (by kernel_rfl) (by kernel_rfl) (by decide)
    (fun X hX => (GoodN.good (K := True) (Eq.mpr (show GoodN Try.prog X 22 en17 su17 (bodyOf Try.f17) True = (True) by kernel_rfl) trivial)).1)
    (fun x r h => (t17Eq x).trans h)
/-! loop.example/g00224/impl.wordOf -/
def fl70 : List (Nat × Sig) := []
def en70 : Env := { n := 20, ty := assocN tyL, fns := assocN fl70, lo := 0 }
def su70 : Bool → Nat → Option Sub | true, 3 => some ⟨t70l3c, t70l3v, t70l3e, loopF t70l3⟩ | _, _ => none
theorem ok70 : EnvOk Try.prog en70 := envOk_of rfl rfl tyL_ok (trivial)
theorem t70l3Eq (R : Type) (c : Vars t70l3c) (v : Vars t70l3v) (kk : Vars t70l3c → (Vars t70l3v ⊕ Oc t70l3e) → Option R) : evC en70 su70 (loopAt 3 Try.f70) (Desc.mk2 t70l3v v (Desc.mk2 t70l3c c .empty)) (fun o => bodyK t70l3c t70l3v t70l3e o kk) = t70l3 R c v kk := by kernel_rfl
theorem t70l3Ok {X : Cx} (hX : en70.lo = X.lo) : SubOk Try.prog X 20 ⟨t70l3c, t70l3v, t70l3e, loopF t70l3⟩ (.loop (loopAt 3 Try.f70)) :=
  sub_loop (subs := su70) ok70 rfl hX (GoodN.good (K := True) (Eq.mpr (show GoodN Try.prog X 20 en70 su70 (loopAt 3 Try.f70) True = (True) by kernel_rfl) trivial)).1 (by decide) (by decide) t70l3Eq
theorem t70Eq (x : Ps ins70) : evF en70 su70 Try.f70 ins70 res70 x = t70 x := by kernel_rfl
theorem so70 : Sound Try.prog 70 sg70 :=
  sound_of (fn := Try.f70) (c := bodyOf Try.f70) (subs := su70) (E := en70) (by kernel_rfl) (by kernel_rfl) (by decide) ok70 (by kernel_rfl) (by kernel_rfl) (by decide)
    (fun X hX => (GoodN.good (K := True) (Eq.mpr (show GoodN Try.prog X 20 en70 su70 (bodyOf Try.f70) True = (SubOk Try.prog X 20 ⟨t70l3c, t70l3v, t70l3e, loopF t70l3⟩ (.loop (loopAt 3 Try.f70)) ∧ True) by kernel_rfl) ⟨(t70l3Ok hX), trivial⟩)).1)
    (fun x r h => (t70Eq x).trans h)
/-! loop.example/g00224/impl.readItems -/
def fl71 : List (Nat × Sig) := [(34, sg34), (35, sg35), (37, sg37)]
def hi71 : List (Nat × (K × Mk)) := [(2, ((.sl kd51), (.o .s))), (5, ((.sl kd51), (.o .s)))]
def en71 : Env := { n := 83, ty := assocN tyL, fns := assocN fl71, lo := 0, hint := assocN hi71 }
def su71 : Bool → Nat → Option Sub | true, 2 => some ⟨t71l2c, t71l2v, t71l2e, loopF t71l2⟩ | _, _ => none
theorem ok71 : EnvOk Try.prog en71 := envOk_of rfl rfl tyL_ok (⟨so34, ⟨so35, ⟨so37, trivial⟩⟩⟩)
theorem t71l2Eq (R : Type) (c : Vars t71l2c) (v : Vars t71l2v) (kk : Vars t71l2c → (Vars t71l2v ⊕ Oc t71l2e) → Option R) : evC en71 su71 (loopAt 2 Try.f71) (Desc.mk2 t71l2v v (Desc.mk2 t71l2c c .empty)) (fun o => bodyK t71l2c t71l2v t71l2e o kk) = t71l2 R c v kk := by kernel_rfl
theorem t71l2Ok {X : Cx} (hX : en71.lo = X.lo) : SubOk Try.prog X 83 ⟨t71l2c, t71l2v, t71l2e, loopF t71l2⟩ (.loop (loopAt 2 Try.f71)) :=
  sub_loop (subs := su71) ok71 rfl hX (GoodN.good (K := True) (Eq.mpr (show GoodN Try.prog X 83 en71 su71 (loopAt 2 Try.f71) True = (True) by kernel_rfl) trivial)).1 (by decide) (by decide) t71l2Eq
theorem t71Eq (x : Ps ins71) : evF en71 su71 Try.f71 ins71 res71 x = t71 x := by kernel_rfl
theorem so71 : Sound Try.prog 71 sg71 :=
  sound_of (fn := Try.f71) (c := bodyOf Try.f71) (subs := su71) (E := en71) (by kernel_rfl) (by kernel_rfl) (by decide) ok71 (by kernel_rfl) (by kernel_rfl) (by decide)
    (fun X hX => (GoodN.good (K := True) (Eq.mpr (show GoodN Try.prog X 83 en71 su71 (bodyOf Try.f71) True = (SubOk Try.prog X 83 ⟨t71l2c, t71l2v, t71l2e, loopF t71l2⟩ (.loop (loopAt 2 Try.f71)) ∧ True) by kernel_rfl) ⟨(t71l2Ok hX), trivial⟩)).1)
    (fun x r h => (t71Eq x).trans h)
/-! loop.example/g00224/impl.GoodItem -/
def fl73 : List (Nat × Sig) := [(59, sg59), (89, sg89), (58, sg58), (60, sg60)]
def en73 : Env := { n := 31, ty := assocN tyL, fns := assocN fl73, lo := 0 }
def su73 : Bool → Nat → Option Sub | _, _ => none
theorem ok73 : EnvOk Try.prog en73 := envOk_of rfl rfl tyL_ok (⟨so59, ⟨so89, ⟨so58, ⟨so60, trivial⟩⟩⟩⟩)
theorem t73Eq (x : Ps ins73) : evF en73 su73 Try.f73 ins73 res73 x = t73 x := by kernel_rfl
theorem so73 : Sound Try.prog 73 sg73 :=
  sound_of (fn := Try.f73) (c := bodyOf Try.f73) (subs := su73) (E := en73) (by kernel_rfl) (by kernel_rfl) (by decide) ok73 (by kernel_rfl) (by kernel_rfl) (by decide)
    (fun X hX => (GoodN.good (K := True) (Eq.mpr (show GoodN Try.prog X 31 en73 su73 (bodyOf Try.f73) True = (True) by kernel_rfl) trivial)).1)
    (fun x r h => (t73Eq x).trans h)
/-! cmp.isNaN[string] -/
def fl105 : List (Nat × Sig) := []
def en105 : Env := { n := 6, ty := assocN tyL, fns := assocN fl105, lo := 0 }
def su105 : Bool → Nat → Option Sub | _, _ => none
theorem ok105 : EnvOk Try.prog en105 := envOk_of rfl rfl tyL_ok (trivial)
theorem t105Eq (x : Ps ins105) : evF en105 su105 Try.f105 ins105 res105 x = t105 x := by kernel_rfl
theorem so105 : Sound Try.prog 105 sg105 :=
  sound_of (fn := Try.f105) (c := bodyOf Try.f105) (subs := su105) (E := en105) (by kernel_rfl) (by kernel_rfl) (by decide) ok105 (by kernel_rfl) (by kernel_rfl) (by decide)
    (fun X hX => (GoodN.good (K := True) (Eq.mpr (show GoodN Try.prog X 6 en105 su105 (bodyOf Try.f105) True = (True) by kernel_rfl) trivial)).1)
    (fun x r h => (t105Eq x).trans h)
/-! cmp.Compare[string] -/
def fl97 : List (Nat × Sig) := [(105, sg105)]
def en97 : Env := { n := 20, ty := assocN tyL, fns := assocN fl97, lo := 0 }
def su97 : Bool → Nat → Option Sub | _, _ => none
theorem ok97 : EnvOk Try.prog en97 := envOk_of rfl rfl tyL_ok (⟨so105, trivial⟩)
theorem t97Eq (x : Ps ins97) : evF en97 su97 Try.f97 ins97 res97 x = t97 x := by kernel_rfl
theorem so97 : Sound Try.prog 97 sg97 :=
  sound_of (fn := Try.f97) (c := bodyOf Try.f97) (subs := su97) (E := en97) (by kernel_rfl) (by kernel_rfl) (by decide) ok97 (by kernel_rfl) (by kernel_rfl) (by decide)
    (fun X hX => (GoodN.good (K := True) (Eq.mpr (show GoodN Try.prog X 20 en97 su97 (bodyOf Try.f97) True = (True) by kernel_rfl) trivial)).1)
    (fun x r h => (t97Eq x).trans h)
/-! cmp.isNaN[int] -/
def fl106 : List (Nat × Sig) := []
def en106 : Env := { n := 6, ty := assocN tyL, fns := assocN fl106, lo := 0 }
def su106 : Bool → Nat → Option Sub | _, _ => none
theorem ok106 : EnvOk Try.prog en106 := envOk_of rfl rfl tyL_ok (trivial)
theorem t106Eq (x : Ps ins106) : evF en106 su106 Try.f106 ins106 res106 x = t106 x := by kernel_rfl
theorem so106 : Sound Try.prog 106 sg106 :=
  sound_of (fn := Try.f106) (c := bodyOf Try.f106) (subs := su106) (E := en106) (by kernel_rfl) (by kernel_rfl) (by decide) ok106 (by kernel_rfl) (by kernel_rfl) (by decide)
    (fun X hX => (GoodN.good (K := True) (Eq.mpr (show GoodN Try.prog X 6 en106 su106 (bodyOf Try.f106) True = (True) by kernel_rfl) trivial)).1)
    (fun x r h => (t106Eq x).trans h)
/-! cmp.Compare[int] -/
def fl98 : List (Nat × Sig) := [(106, sg106)]
def en98 : Env := { n := 20, ty := assocN tyL, fns := assocN fl98, lo := 0 }
def su98 : Bool → Nat → Option Sub | _, _ => none
theorem ok98 : EnvOk Try.prog en98 := envOk_of rfl rfl tyL_ok (⟨so106, trivial⟩)
theorem t98Eq (x : Ps ins98) : evF en98 su98 Try.f98 ins98 res98 x = t98 x := by kernel_rfl
theorem so98 : Sound Try.prog 98 sg98 :=
  sound_of (fn := Try.f98) (c := bodyOf Try.f98) (subs := su98) (E := en98) (by kernel_rfl) (by kernel_rfl) (by decide) ok98 (by kernel_rfl) (by kernel_rfl) (by decide)
    (fun X hX => (GoodN.good (K := True) (Eq.mpr (show GoodN Try.prog X 20 en98 su98 (bodyOf Try.f98) True = (True) by kernel_rfl) trivial)).1)
    (fun x r h => (t98Eq x).trans h)
/-! cmp.Or[int] -/
def fl96 : List (Nat × Sig) := []
def en96 : Env := { n := 18, ty := assocN tyL, fns := assocN fl96, lo := 0 }
def su96 : Bool → Nat → Option Sub | true, 3 => some ⟨t96l3c, t96l3v, t96l3e, loopF t96l3⟩ | _, _ => none
theorem ok96 : EnvOk Try.prog en96 := envOk_of rfl rfl tyL_ok (trivial)
theorem t96l3Eq (R : Type) (c : Vars t96l3c) (v : Vars t96l3v) (kk : Vars t96l3c → (Vars t96l3v ⊕ Oc t96l3e) → Option R) : evC en96 su96 (loopAt 3 Try.f96) (Desc.mk2 t96l3v v (Desc.mk2 t96l3c c .empty)) (fun o => bodyK t96l3c t96l3v t96l3e o kk) = t96l3 R c v kk := by kernel_rfl
theorem t96l3Ok {X : Cx} (hX : en96.lo = X.lo) : SubOk Try.prog X 18 ⟨t96l3c, t96l3v, t96l3e, loopF t96l3⟩ (.loop (loopAt 3 Try.f96)) :=
  sub_loop (subs := su96) ok96 rfl hX (GoodN.good (K := True) (Eq.mpr (show GoodN Try.prog X 18 en96 su96 (loopAt 3 Try.f96) True = (True) by kernel_rfl) trivial)).1 (by decide) (by decide) t96l3Eq
theorem t96Eq (x : Ps ins96) : evF en96 su96 Try.f96 ins96 res96 x = t96 x := by kernel_rfl
theorem so96 : Sound Try.prog 96 sg96 :=
  sound_of (fn := Try.f96) (c := bodyOf Try.f96) (subs := su96) (E := en96) (by kernel_rfl) (by kernel_rfl) (by decide) ok96 (by kernel_rfl) (by kernel_rfl) (by decide)
    (fun X hX => (GoodN.good (K := True) (Eq.mpr (show GoodN Try.prog X 18 en96 su96 (bodyOf Try.f96) True = (SubOk Try.prog X 18 ⟨t96l3c, t96l3v, t96l3e, loopF t96l3⟩ (.loop (loopAt 3 Try.f96)) ∧ True) by kernel_rfl) ⟨(t96l3Ok hX), trivial⟩)).1)
    (fun x r h => (t96Eq x).trans h)
/-! loop.example/g00224/impl.itemOrder -/
def fl74 : List (Nat × Sig) := [(97, sg97), (98, sg98), (96, sg96)]
def en74 : Env := { n := 17, ty := assocN tyL, fns := assocN fl74, lo := 0 }
def su74 : Bool → Nat → Option Sub | _, _ => none
theorem ok74 : EnvOk Try.prog en74 := envOk_of rfl rfl tyL_ok (⟨so97, ⟨so98, ⟨so96, trivial⟩⟩⟩)
theorem dr74r1 {X : Cx} (hX : en74.lo = X.lo) : RegOk Try.prog X 17 en74 1 (regAt 1 Try.f74) := regOk_of ok74 rfl hX (by kernel_rfl) (by kernel_rfl)
theorem t74Eq (x : Ps ins74) : evF en74 su74 Try.f74 ins74 res74 x = t74 x := by kernel_rfl
theorem so74 : Sound Try.prog 74 sg74 :=
  sound_of (fn := Try.f74) (c := bodyOf Try.f74) (subs := su74) (E := en74) (by kernel_rfl) (by kernel_rfl) (by decide) ok74 (by kernel_rfl) (by kernel_rfl) (by decide)
    (fun X hX => (GoodN.good (K := True) (Eq.mpr (show GoodN Try.prog X 17 en74 su74 (bodyOf Try.f74) True = (RegOk Try.prog X 17 en74 1 (regAt 1 Try.f74) ∧ True) by kernel_rfl) ⟨(dr74r1 hX), trivial⟩)).1)
    (fun x r h => (t74Eq x).trans h)
/-! loop.example/g00224/impl.GoodRun -/
def fl50 : List (Nat × Sig) := [(73, sg73), (74, sg74)]
def en50 : Env := { n := 30, ty := assocN tyL, fns := assocN fl50, lo := 0 }
def su50 : Bool → Nat → Option Sub | true, 2 => some ⟨t50l2c, t50l2v, t50l2e, loopF t50l2⟩ | _, _ => none
theorem ok50 : EnvOk Try.prog en50 := envOk_of rfl rfl tyL_ok (⟨so73, ⟨so74, trivial⟩⟩)
theorem dr50r4 {X : Cx} (hX : en50.lo = X.lo) : RegOk Try.prog X 30 en50 4 (regAt 4 Try.f50) := regOk_of ok50 rfl hX (by kernel_rfl) (by kernel_rfl)
theorem t50l2Eq (R : Type) (c : Vars t50l2c) (v : Vars t50l2v) (kk : Vars t50l2c → (Vars t50l2v ⊕ Oc t50l2e) → Option R) : evC en50 su50 (loopAt 2 Try.f50) (Desc.mk2 t50l2v v (Desc.mk2 t50l2c c .empty)) (fun o => bodyK t50l2c t50l2v t50l2e o kk) = t50l2 R c v kk := by kernel_rfl
theorem t50l2Ok {X : Cx} (hX : en50.lo = X.lo) : SubOk Try.prog X 30 ⟨t50l2c, t50l2v, t50l2e, loopF t50l2⟩ (.loop (loopAt 2 Try.f50)) :=
  sub_loop (subs := su50) ok50 rfl hX (GoodN.good (K := True) (Eq.mpr (show GoodN Try.prog X 30 en50 su50 (loopAt 2 Try.f50) True = (RegOk Try.prog X 30 en50 4 (regAt 4 Try.f50) ∧ True) by kernel_rfl) ⟨(dr50r4 hX), trivial⟩)).1 (by decide) (by decide) t50l2Eq
theorem t50Eq (x : Ps ins50) : evF en50 su50 Try.f50 ins50 res50 x = t50 x := by kernel_rfl
theorem so50 : Sound Try.prog 50 sg50 :=
  sound_of (fn := Try.f50) (c := bodyOf Try.f50) (subs := su50) (E := en50) (by kernel_rfl) (by kernel_rfl) (by decide) ok50 (by kernel_rfl) (by kernel_rfl) (by decide)
    (fun X hX => (GoodN.good (K := True) (Eq.mpr (show GoodN Try.prog X 30 en50 su50 (bodyOf Try.f50) True = (SubOk Try.prog X 30 ⟨t50l2c, t50l2v, t50l2e, loopF t50l2⟩ (.loop (loopAt 2 Try.f50)) ∧ True) by kernel_rfl) ⟨(t50l2Ok hX), trivial⟩)).1)
    (fun x r h => (t50Eq x).trans h)
/-! loop.example/g00224/impl.CommonOf -/
def fl75 : List (Nat × Sig) := []
def en75 : Env := { n := 25, ty := assocN tyL, fns := assocN fl75, lo := 0 }
def su75 : Bool → Nat → Option Sub | true, 2 => some ⟨t75l2c, t75l2v, t75l2e, loopF t75l2⟩ | _, _ => none
theorem ok75 : EnvOk Try.prog en75 := envOk_of rfl rfl tyL_ok (trivial)
theorem dr75r2 {X : Cx} (hX : en75.lo = X.lo) : RegOk Try.prog X 25 en75 2 (regAt 2 Try.f75) := regOk_of ok75 rfl hX (by kernel_rfl) (by kernel_rfl)
theorem t75l2Eq (R : Type) (c : Vars t75l2c) (v : Vars t75l2v) (kk : Vars t75l2c → (Vars t75l2v ⊕ Oc t75l2e) → Option R) : evC en75 su75 (loopAt 2 Try.f75) (Desc.mk2 t75l2v v (Desc.mk2 t75l2c c .empty)) (fun o => bodyK t75l2c t75l2v t75l2e o kk) = t75l2 R c v kk := by kernel_rfl
theorem t75l2Ok {X : Cx} (hX : en75.lo = X.lo) : SubOk Try.prog X 25 ⟨t75l2c, t75l2v, t75l2e, loopF t75l2⟩ (.loop (loopAt 2 Try.f75)) :=
  sub_loop (subs := su75) ok75 rfl hX (GoodN.good (K := True) (Eq.mpr (show GoodN Try.prog X 25 en75 su75 (loopAt 2 Try.f75) True = (RegOk Try.prog X 25 en75 2 (regAt 2 Try.f75) ∧ True) by kernel_rfl) ⟨(dr75r2 hX), trivial⟩)).1 (by decide) (by decide) t75l2Eq
theorem t75Eq (x : Ps ins75) : evF en75 su75 Try.f75 ins75 res75 x = t75 x := by kernel_rfl
theorem so75 : Sound Try.prog 75 sg75 :=
  sound_of (fn := Try.f75) (c := bodyOf Try.f75) (subs := su75) (E := en75) (by kernel_rfl) (by kernel_rfl) (by decide) ok75 (by kernel_rfl) (by kernel_rfl) (by decide)
    (fun X hX => (GoodN.good (K := True) (Eq.mpr (show GoodN Try.prog X 25 en75 su75 (bodyOf Try.f75) True = (SubOk Try.prog X 25 ⟨t75l2c, t75l2v, t75l2e, loopF t75l2⟩ (.loop (loopAt 2 Try.f75)) ∧ True) by kernel_rfl) ⟨(t75l2Ok hX), trivial⟩)).1)
    (fun x r h => (t75Eq x).trans h)
/-! loop.example/g00224/impl.varBytes -/
def fl76 : List (Nat × Sig) := []
def hi76 : List (Nat × (K × Mk)) := [(3, ((.sl (.int .u8)), (.o .s)))]
def en76 : Env := { n := 22, ty := assocN tyL, fns := assocN fl76, lo := 0, hint := assocN hi76 }
def su76 : Bool → Nat → Option Sub | true, 2 => some ⟨t76l2c, t76l2v, t76l2e, loopF t76l2⟩ | _, _ => none
theorem ok76 : EnvOk Try.prog en76 := envOk_of rfl rfl tyL_ok (trivial)
theorem t76l2Eq (R : Type) (c : Vars t76l2c) (v : Vars t76l2v) (kk : Vars t76l2c → (Vars t76l2v ⊕ Oc t76l2e) → Option R) : evC en76 su76 (loopAt 2 Try.f76) (Desc.mk2 t76l2v v (Desc.mk2 t76l2c c .empty)) (fun o => bodyK t76l2c t76l2v t76l2e o kk) = t76l2 R c v kk := by kernel_rfl
theorem t76l2Ok {X : Cx} (hX : en76.lo = X.lo) : SubOk Try.prog X 22 ⟨t76l2c, t76l2v, t76l2e, loopF t76l2⟩ (.loop (loopAt 2 Try.f76)) :=
  sub_loop (subs := su76) ok76 rfl hX (GoodN.good (K := True) (Eq.mpr (show GoodN Try.prog X 22 en76 su76 (loopAt 2 Try.f76) True = (True) by kernel_rfl) trivial)).1 (by decide) (by decide) t76l2Eq
theorem t76Eq (x : Ps ins76) : evF en76 su76 Try.f76 ins76 res76 x = t76 x := by kernel_rfl
theorem so76 : Sound Try.prog 76 sg76 :=
  sound_of (fn := Try.f76) (c := bodyOf Try.f76) (subs := su76) (E := en76) (by kernel_rfl) (by kernel_rfl) (by decide) ok76 (by kernel_rfl) (by kernel_rfl) (by decide)
    (fun X hX => (GoodN.good (K := True) (Eq.mpr (show GoodN Try.prog X 22 en76 su76 (bodyOf Try.f76) True = (SubOk Try.prog X 22 ⟨t76l2c, t76l2v, t76l2e, loopF t76l2⟩ (.loop (loopAt 2 Try.f76)) ∧ True) by kernel_rfl) ⟨(t76l2Ok hX), trivial⟩)).1)
    (fun x r h => (t76Eq x).trans h)
/-! loop.example/g00224/impl.lowFirst -/
def fl77 : List (Nat × Sig) := []
def hi77 : List (Nat × (K × Mk)) := [(5, ((.sl (.int .u8)), (.o .s)))]
def en77 : Env := { n := 20, ty := assocN tyL, fns := assocN fl77, lo := 0, hint := assocN hi77 }
def su77 : Bool → Nat → Option Sub | true, 3 => some ⟨t77l3c, t77l3v, t77l3e, loopF t77l3⟩ | _, _ => none
theorem ok77 : EnvOk Try.prog en77 := envOk_of rfl rfl tyL_ok (trivial)
theorem t77l3Eq (R : Type) (c : Vars t77l3c) (v : Vars t77l3v) (kk : Vars t77l3c → (Vars t77l3v ⊕ Oc t77l3e) → Option R) : evC en77 su77 (loopAt 3 Try.f77) (Desc.mk2 t77l3v v (Desc.mk2 t77l3c c .empty)) (fun o => bodyK t77l3c t77l3v t77l3e o kk) = t77l3 R c v kk := by kernel_rfl
theorem t77l3Ok {X : Cx} (hX : en77.lo = X.lo) : SubOk Try.prog X 20 ⟨t77l3c, t77l3v, t77l3e, loopF t77l3⟩ (.loop (loopAt 3 Try.f77)) :=
  sub_loop (subs := su77) ok77 rfl hX (GoodN.good (K := True) (Eq.mpr (show GoodN Try.prog X 20 en77 su77 (loopAt 3 Try.f77) True = (True) by kernel_rfl) trivial)).1 (by decide) (by decide) t77l3Eq
theorem t77Eq (x : Ps ins77) : evF en77 su77 Try.f77 ins77 res77 x = t77 x := by kernel_rfl
theorem so77 : Sound Try.prog 77 sg77 :=
  sound_of (fn := Try.f77) (c := bodyOf Try.f77) (subs := su77) (E := en77) (by kernel_rfl) (by kernel_rfl) (by decide) ok77 (by kernel_rfl) (by kernel_rfl) (by decide)
    (fun X hX => (GoodN.good (K := True) (Eq.mpr (show GoodN Try.prog X 20 en77 su77 (bodyOf Try.f77) True = (SubOk Try.prog X 20 ⟨t77l3c, t77l3v, t77l3e, loopF t77l3⟩ (.loop (loopAt 3 Try.f77)) ∧ True) by kernel_rfl) ⟨(t77l3Ok hX), trivial⟩)).1)
    (fun x r h => (t77Eq x).trans h)
/-! loop.example/g00224/impl.SumTable -/
def fl107 : List (Nat × Sig) := []
def hi107 : List (Nat × (K × Mk)) := [(0, ((.sl (.int .u32)), (.o .s))), (1, ((.sl (.int .u32)), (.o .s)))]
def en107 : Env := { n := 25, ty := assocN tyL, fns := assocN fl107, lo := 0, hint := assocN hi107 }
def su107 : Bool → Nat → Option Sub | false, 10 => some ⟨t107i10c, t107i10v, t107i10e, t107i10⟩ | true, 6 => some ⟨t107l6c, t107l6v, t107l6e, loopF t107l6⟩ | true, 3 => some ⟨t107l3c, t107l3v, t107l3e, loopF t107l3⟩ | _, _ => none
theorem ok107 : EnvOk Try.prog en107 := envOk_of rfl rfl tyL_ok (trivial)
def su107i10 : Bool → Nat → Option Sub | true, 6 => some ⟨t107l6c, t107l6v, t107l6e, loopF t107l6⟩ | true, 3 => some ⟨t107l3c, t107l3v, t107l3e, loopF t107l3⟩ | _, _ => none
theorem t107i10Eq (R : Type) (c : Vars t107i10c) (v : Vars t107i10v) (kk : Vars t107i10c → Oc t107i10e → Option R) : evC en107 su107i10 (ifAt 10 Try.f107) (Desc.mk2 t107i10v v (Desc.mk2 t107i10c c .empty)) (fun o => chk t107i10c t107i10e o kk) = t107i10 R c v kk := by kernel_rfl
theorem t107i10Ok {X : Cx} (hX : en107.lo = X.lo) : SubOk Try.prog X 25 ⟨t107i10c, t107i10v, t107i10e, t107i10⟩ (ifAt 10 Try.f107) :=
  sub_if (u := ⟨t107i10c, t107i10v, t107i10e, t107i10⟩) (subs := su107i10) ok107 rfl hX (GoodN.good (K := True) (Eq.mpr (show GoodN Try.prog X 25 en107 su107i10 (ifAt 10 Try.f107) True = (True) by kernel_rfl) trivial)).1 (by decide) (by decide) t107i10Eq
theorem t107l6Eq (R : Type) (c : Vars t107l6c) (v : Vars t107l6v) (kk : Vars t107l6c → (Vars t107l6v ⊕ Oc t107l6e) → Option R) : evC en107 su107 (loopAt 6 Try.f107) (Desc.mk2 t107l6v v (Desc.mk2 t107l6c c .empty)) (fun o => bodyK t107l6c t107l6v t107l6e o kk) = t107l6 R c v kk := by kernel_rfl
theorem t107l6Ok {X : Cx} (hX : en107.lo = X.lo) : SubOk Try.prog X 25 ⟨t107l6c, t107l6v, t107l6e, loopF t107l6⟩ (.loop (loopAt 6 Try.f107)) :=
  sub_loop (subs := su107) ok107 rfl hX (GoodN.good (K := True) (Eq.mpr (show GoodN Try.prog X 25 en107 su107 (loopAt 6 Try.f107) True = (SubOk Try.prog X 25 ⟨t107i10c, t107i10v, t107i10e, t107i10⟩ (ifAt 10 Try.f107) ∧ True) by kernel_rfl) ⟨(t107i10Ok hX), trivial⟩)).1 (by decide) (by decide) t107l6Eq
theorem t107l3Eq (R : Type) (c : Vars t107l3c) (v : Vars t107l3v) (kk : Vars t107l3c → (Vars t107l3v ⊕ Oc t107l3e) → Option R) : evC en107 su107 (loopAt 3 Try.f107) (Desc.mk2 t107l3v v (Desc.mk2 t107l3c c .empty)) (fun o => bodyK t107l3c t107l3v t107l3e o kk) = t107l3 R c v kk := by kernel_rfl
theorem t107l3Ok {X : Cx} (hX : en107.lo = X.lo) : SubOk Try.prog X 25 ⟨t107l3c, t107l3v, t107l3e, loopF t107l3⟩ (.loop (loopAt 3 Try.f107)) :=
  sub_loop (subs := su107) ok107 rfl hX (GoodN.good (K := True) (Eq.mpr (show GoodN Try.prog X 25 en107 su107 (loopAt 3 Try.f107) True = (SubOk Try.prog X 25 ⟨t107l6c, t107l6v, t107l6e, loopF t107l6⟩ (.loop (loopAt 6 Try.f107)) ∧ True) by kernel_rfl) ⟨(t107l6Ok hX), trivial⟩)).1 (by decide) (by decide) t107l3Eq
theorem t107Eq (x : Ps ins107) : evF en107 su107 Try.f107 ins107 res107 x = t107 x := by kernel_rfl
theorem so107 : Sound Try.prog 107 sg107 :=
  sound_of (fn := Try.f107) (c := bodyOf Try.f107) (subs := su107) (E := en107) (by kernel_rfl) (by kernel_rfl) (by decide) ok107 (by kernel_rfl) (by kernel_rfl) (by decide)
    (fun X hX => (GoodN.good (K := True) (Eq.mpr (show GoodN Try.prog X 25 en107 su107 (bodyOf Try.f107) True = (SubOk Try.prog X 25 ⟨t107l3c, t107l3v, t107l3e, loopF t107l3⟩ (.loop (loopAt 3 Try.f107)) ∧ True) by kernel_rfl) ⟨(t107l3Ok hX), trivial⟩)).1)
    (fun x r h => (t107Eq x).trans h)
/-! loop.example/g00224/impl.SumOn -/
def fl99 : List (Nat × Sig) := [(107, sg107)]
def hi99 : List (Nat × (K × Mk)) := [(5, ((.sl (.int .u32)), (.o .s)))]
def en99 : Env := { n := 27, ty := assocN tyL, fns := assocN fl99, lo := 0, hint := assocN hi99 }
def su99 : Bool → Nat → Option Sub | true, 3 => some ⟨t99l3c, t99l3v, t99l3e, loopF t99l3⟩ | _, _ => none
theorem ok99 : EnvOk Try.prog en99 := envOk_of rfl rfl tyL_ok (⟨so107, trivial⟩)
theorem t99l3Eq (R : Type) (c : Vars t99l3c) (v : Vars t99l3v) (kk : Vars t99l3c → (Vars t99l3v ⊕ Oc t99l3e) → Option R) : evC en99 su99 (loopAt 3 Try.f99) (Desc.mk2 t99l3v v (Desc.mk2 t99l3c c .empty)) (fun o => bodyK t99l3c t99l3v t99l3e o kk) = t99l3 R c v kk := by kernel_rfl
theorem t99l3Ok {X : Cx} (hX : en99.lo = X.lo) : SubOk Try.prog X 27 ⟨t99l3c, t99l3v, t99l3e, loopF t99l3⟩ (.loop (loopAt 3 Try.f99)) :=
  sub_loop (subs := su99) ok99 rfl hX (GoodN.good (K := True) (Eq.mpr (show GoodN Try.prog X 27 en99 su99 (loopAt 3 Try.f99) True = (True) by kernel_rfl) trivial)).1 (by decide) (by decide) t99l3Eq
theorem t99Eq (x : Ps ins99) : evF en99 su99 Try.f99 ins99 res99 x = t99 x := by kernel_rfl
theorem so99 : Sound Try.prog 99 sg99 :=
  sound_of (fn := Try.f99) (c := bodyOf Try.f99) (subs := su99) (E := en99) (by kernel_rfl) (by kernel_rfl) (by decide) ok99 (by kernel_rfl) (by kernel_rfl) (by decide)
    (fun X hX => (GoodN.good (K := True) (Eq.mpr (show GoodN Try.prog X 27 en99 su99 (bodyOf Try.f99) True = (SubOk Try.prog X 27 ⟨t99l3c, t99l3v, t99l3e, loopF t99l3⟩ (.loop (loopAt 3 Try.f99)) ∧ True) by kernel_rfl) ⟨(t99l3Ok hX), trivial⟩)).1)
    (fun x r h => (t99Eq x).trans h)
/-! loop.example/g00224/impl.SumOf -/
def fl78 : List (Nat × Sig) := [(99, sg99)]
def en78 : Env := { n := 6, ty := assocN tyL, fns := assocN fl78, lo := 0 }
def su78 : Bool → Nat → Option Sub | _, _ => none
theorem ok78 : EnvOk Try.prog en78 := envOk_of rfl rfl tyL_ok (⟨so99, trivial⟩)
theorem t78Eq (x : Ps ins78) : evF en78 su78 Try.f78 ins78 res78 x = t78 x := by kernel_rfl
theorem so78 : Sound Try.prog 78 sg78 :=
  sound_of (fn := Try.f78) (c := bodyOf Try.f78) (subs := su78) (E := en78) (by kernel_rfl) (by kernel_rfl) (by decide) ok78 (by kernel_rfl) (by kernel_rfl) (by decide)
    (fun X hX => (GoodN.good (K := True) (Eq.mpr (show GoodN Try.prog X 6 en78 su78 (bodyOf Try.f78) True = (True) by kernel_rfl) trivial)).1)
    (fun x r h => (t78Eq x).trans h)
/-! loop.example/g00224/impl.block -/
def fl51 : List (Nat × Sig) := [(75, sg75), (76, sg76), (77, sg77), (78, sg78)]
def hi51 : List (Nat × (K × Mk)) := [(3, ((.sl (.int .i64)), (.o .s))), (5, ((.sl (.int .i64)), (.o .s)))]
def en51 : Env := { n := 91, ty := assocN tyL, fns := assocN fl51, lo := 0, hint := assocN hi51 }
def su51 : Bool → Nat → Option Sub | false, 7 => some ⟨t51i7c, t51i7v, t51i7e, t51i7⟩ | true, 3 => some ⟨t51l3c, t51l3v, t51l3e, loopF t51l3⟩ | true, 12 => some ⟨t51l12c, t51l12v, t51l12e, loopF t51l12⟩ | _, _ => none
theorem ok51 : EnvOk Try.prog en51 := envOk_of rfl rfl tyL_ok (⟨so75, ⟨so76, ⟨so77, ⟨so78, trivial⟩⟩⟩⟩)
theorem dr51r8 {X : Cx} (hX : en51.lo = X.lo) : RegOk Try.prog X 91 en51 8 (regAt 8 Try.f51) := regOk_of ok51 rfl hX (by kernel_rfl) (by kernel_rfl)
def su51i7 : Bool → Nat → Option Sub | true, 3 => some ⟨t51l3c, t51l3v, t51l3e, loopF t51l3⟩ | true, 12 => some ⟨t51l12c, t51l12v, t51l12e, loopF t51l12⟩ | _, _ => none
theorem t51i7Eq (R : Type) (c : Vars t51i7c) (v : Vars t51i7v) (kk : Vars t51i7c → Oc t51i7e → Option R) : evC en51 su51i7 (ifAt 7 Try.f51) (Desc.mk2 t51i7v v (Desc.mk2 t51i7c c .empty)) (fun o => chk t51i7c t51i7e o kk) = t51i7 R c v kk := by kernel_rfl
theorem t51i7Ok {X : Cx} (hX : en51.lo = X.lo) : SubOk Try.prog X 91 ⟨t51i7c, t51i7v, t51i7e, t51i7⟩ (ifAt 7 Try.f51) :=
  sub_if (u := ⟨t51i7c, t51i7v, t51i7e, t51i7⟩) (subs := su51i7) ok51 rfl hX (GoodN.good (K := True) (Eq.mpr (show GoodN Try.prog X 91 en51 su51i7 (ifAt 7 Try.f51) True = (True) by kernel_rfl) trivial)).1 (by decide) (by decide) t51i7Eq
theorem t51l3Eq (R : Type) (c : Vars t51l3c) (v : Vars t51l3v) (kk : Vars t51l3c → (Vars t51l3v ⊕ Oc t51l3e) → Option R) : evC en51 su51 (loopAt 3 Try.f51) (Desc.mk2 t51l3v v (Desc.mk2 t51l3c c .empty)) (fun o => bodyK t51l3c t51l3v t51l3e o kk) = t51l3 R c v kk := by kernel_rfl
theorem t51l3Ok {X : Cx} (hX : en51.lo = X.lo) : SubOk Try.prog X 91 ⟨t51l3c, t51l3v, t51l3e, loopF t51l3⟩ (.loop (loopAt 3 Try.f51)) :=
  sub_loop (subs := su51) ok51 rfl hX (GoodN.good (K := True) (Eq.mpr (show GoodN Try.prog X 91 en51 su51 (loopAt 3 Try.f51) True = (SubOk Try.prog X 91 ⟨t51i7c, t51i7v, t51i7e, t51i7⟩ (ifAt 7 Try.f51) ∧ RegOk Try.prog X 91 en51 8 (regAt 8 Try.f51) ∧ True) by kernel_rfl) ⟨(t51i7Ok hX), (dr51r8 hX), trivial⟩)).1 (by decide) (by decide) t51l3Eq
theorem t51l12Eq (R : Type) (c : Vars t51l12c) (v : Vars t51l12v) (kk : Vars t51l12c → (Vars t51l12v ⊕ Oc t51l12e) → Option R) : evC en51 su51 (loopAt 12 Try.f51) (Desc.mk2 t51l12v v (Desc.mk2 t51l12c c .empty)) (fun o => bodyK t51l12c t51l12v t51l12e o kk) = t51l12 R c v kk := by kernel_rfl
theorem t51l12Ok {X : Cx} (hX : en51.lo = X.lo) : SubOk Try.prog X 91 ⟨t51l12c, t51l12v, t51l12e, loopF t51l12⟩ (.loop (loopAt 12 Try.f51)) :=
  sub_loop (subs := su51) ok51 rfl hX (GoodN.good (K := True) (Eq.mpr (show GoodN Try.prog X 91 en51 su51 (loopAt 12 Try.f51) True = (True) by kernel_rfl) trivial)).1 (by decide) (by decide) t51l12Eq
theorem t51Eq (x : Ps ins51) : evF en51 su51 Try.f51 ins51 res51 x = t51 x := by kernel_rfl
theorem so51 : Sound Try.prog 51 sg51 :=
  sound_of (fn := Try.f51) (c := bodyOf Try.f51) (subs := su51) (E := en51) (by kernel_rfl) (by kernel_rfl) (by decide) ok51 (by kernel_rfl) (by kernel_rfl) (by decide)
    (fun X hX => (GoodN.good (K := True) (Eq.mpr (show GoodN Try.prog X 91 en51 su51 (bodyOf Try.f51) True = (SubOk Try.prog X 91 ⟨t51l3c, t51l3v, t51l3e, loopF t51l3⟩ (.loop (loopAt 3 Try.f51)) ∧ SubOk Try.prog X 91 ⟨t51l12c, t51l12v, t51l12e, loopF t51l12⟩ (.loop (loopAt 12 Try.f51)) ∧ True) by kernel_rfl) ⟨(t51l3Ok hX), (t51l12Ok hX), trivial⟩)).1)
    (fun x r h => (t51Eq x).trans h)
/-! loop.example/g00224/impl.readBlock -/
def fl46 : List (Nat × Sig) := [(70, sg70), (71, sg71), (50, sg50), (51, sg51)]
def hi46 : List (Nat × (K × Mk)) := [(2, ((.sl kd51), (.o .s))), (3, ((.sl (.int .i64)), (.o .s))), (7, ((.sl kd51), (.o .s))), (10, ((.sl (.int .i64)), (.o .s)))]
def en46 : Env := { n := 59, ty := assocN tyL, fns := assocN fl46, lo := 0, hint := assocN hi46 }
def su46 : Bool → Nat → Option Sub | _, _ => none
theorem ok46 : EnvOk Try.prog en46 := envOk_of rfl rfl tyL_ok (⟨so70, ⟨so71, ⟨so50, ⟨so51, trivial⟩⟩⟩⟩)
theorem t46Eq (x : Ps ins46) : evF en46 su46 Try.f46 ins46 res46 x = t46 x := by kernel_rfl
theorem so46 : Sound Try.prog 46 sg46 :=
  sound_of (fn := Try.f46) (c := bodyOf Try.f46) (subs := su46) (E := en46) (by kernel_rfl) (by kernel_rfl) (by decide) ok46 (by kernel_rfl) (by kernel_rfl) (by decide)
    (fun X hX => (GoodN.good (K := True) (Eq.mpr (show GoodN Try.prog X 59 en46 su46 (bodyOf Try.f46) True = (True) by kernel_rfl) trivial)).1)
    (fun x r h => (t46Eq x).trans h)
/-! loop.example/g00224/impl.ReadBlock -/
def fl25 : List (Nat × Sig) := [(46, sg46)]
def hi25 : List (Nat × (K × Mk)) := [(2, ((.sl kd51), (.o .s))), (4, ((.sl kd51), (.o .s))), (5, ((.sl (.int .i64)), (.o .s)))]
def en25 : Env := { n := 16, ty := assocN tyL, fns := assocN fl25, lo := 0, hint := assocN hi25 }
def su25 : Bool → Nat → Option Sub | _, _ => none
theorem ok25 : EnvOk Try.prog en25 := envOk_of rfl rfl tyL_ok (⟨so46, trivial⟩)
theorem t25Eq (x : Ps ins25) : evF en25 su25 Try.f25 ins25 res25 x = t25 x := by kernel_rfl
theorem so25 : Sound Try.prog 25 sg25 :=
  sound_of (fn := Try.f25) (c := bodyOf Try.f25) (subs := su25) (E := en25) (by kernel_rfl) (by kernel_rfl) (by decide) ok25 (by kernel_rfl) (by kernel_rfl) (by decide)
    (fun X hX => (GoodN.good (K := True) (Eq.mpr (show GoodN Try.prog X 16 en25 su25 (bodyOf Try.f25) True = (True) by kernel_rfl) trivial)).1)
    (fun x r h => (t25Eq x).trans h)
/-! loop.example/g00224/impl.FirstIn -/
def fl18 : List (Nat × Sig) := [(25, sg25)]
def hi18 : List (Nat × (K × Mk)) := [(4, ((.sl kd51), (.o .s)))]
def en18 : Env := { n := 22, ty := assocN tyL, fns := assocN fl18, lo := 0, hint := assocN hi18 }
def su18 : Bool → Nat → Option Sub | _, _ => none
theorem ok18 : EnvOk Try.prog en18 := envOk_of rfl rfl tyL_ok (⟨so25, trivial⟩)
theorem t18Eq (x : Ps ins18) : evF en18 su18 Try.f18 ins18 res18 x = t18 x := by kernel_rfl
theorem so18 : Sound Try.prog 18 sg18 :=
  sound_of (fn := Try.f18) (c := bodyOf Try.f18) (subs := su18) (E := en18) (by kernel_rfl) (by kernel_rfl) (by decide) ok18 (by kernel_rfl) (by kernel_rfl) (by decide)
    (fun X hX => (GoodN.good (K := True) (Eq.mpr (show GoodN Try.prog X 22 en18 su18 (bodyOf Try.f18) True = (True) by kernel_rfl) trivial)).1)
    (fun x r h => (t18Eq x).trans h)
/-! loop.example/g00224/laws.FnExactFirstIn -/
def fl5 : List (Nat × Sig) := [(17, sg17), (18, sg18)]
def en5 : Env := { n := 28, ty := assocN tyL, fns := assocN fl5, lo := 0 }
def su5 : Bool → Nat → Option Sub | _, _ => none
theorem ok5 : EnvOk Try.prog en5 := envOk_of rfl rfl tyL_ok (⟨so17, ⟨so18, trivial⟩⟩)
theorem t5Eq (x : Ps ins5) : evF en5 su5 Try.f5 ins5 res5 x = t5 x := by kernel_rfl
theorem so5 : Sound Try.prog 5 sg5 :=
  sound_of (fn := Try.f5) (c := bodyOf Try.f5) (subs := su5) (E := en5) (by kernel_rfl) (by kernel_rfl) (by decide) ok5 (by kernel_rfl) (by kernel_rfl) (by decide)
    (fun X hX => (GoodN.good (K := True) (Eq.mpr (show GoodN Try.prog X 28 en5 su5 (bodyOf Try.f5) True = (True) by kernel_rfl) trivial)).1)
    (fun x r h => (t5Eq x).trans h)
/-! loop.example/g00224/spec.RestartsOf -/
def fl19 : List (Nat × Sig) := [(44, sg44), (45, sg45)]
def hi19 : List (Nat × (K × Mk)) := [(2, ((.sl (.int .i64)), (.o .s))), (4, ((.sl kd51), (.o .s))), (7, ((.sl (.int .i64)), (.o .s)))]
def en19 : Env := { n := 23, ty := assocN tyL, fns := assocN fl19, lo := 0, hint := assocN hi19 }
def su19 : Bool → Nat → Option Sub | _, _ => none
theorem ok19 : EnvOk Try.prog en19 := envOk_of rfl rfl tyL_ok (⟨so44, ⟨so45, trivial⟩⟩)
theorem t19Eq (x : Ps ins19) : evF en19 su19 Try.f19 ins19 res19 x = t19 x := by kernel_rfl
theorem so19 : Sound Try.prog 19 sg19 :=
  sound_of (fn := Try.f19) (c := bodyOf Try.f19) (subs := su19) (E := en19) (by kernel_rfl) (by kernel_rfl) (by decide) ok19 (by kernel_rfl) (by kernel_rfl) (by decide)
    (fun X hX => (GoodN.good (K := True) (Eq.mpr (show GoodN Try.prog X 23 en19 su19 (bodyOf Try.f19) True = (True) by kernel_rfl) trivial)).1)
    (fun x r h => (t19Eq x).trans h)
/-! loop.example/g00224/impl.RestartsOf -/
def fl20 : List (Nat × Sig) := [(46, sg46)]
def hi20 : List (Nat × (K × Mk)) := [(2, ((.sl (.int .i64)), (.o .s))), (4, ((.sl kd51), (.o .s))), (5, ((.sl (.int .i64)), (.o .s)))]
def en20 : Env := { n := 16, ty := assocN tyL, fns := assocN fl20, lo := 0, hint := assocN hi20 }
def su20 : Bool → Nat → Option Sub | _, _ => none
theorem ok20 : EnvOk Try.prog en20 := envOk_of rfl rfl tyL_ok (⟨so46, trivial⟩)
theorem t20Eq (x : Ps ins20) : evF en20 su20 Try.f20 ins20 res20 x = t20 x := by kernel_rfl
theorem so20 : Sound Try.prog 20 sg20 :=
  sound_of (fn := Try.f20) (c := bodyOf Try.f20) (subs := su20) (E := en20) (by kernel_rfl) (by kernel_rfl) (by decide) ok20 (by kernel_rfl) (by kernel_rfl) (by decide)
    (fun X hX => (GoodN.good (K := True) (Eq.mpr (show GoodN Try.prog X 16 en20 su20 (bodyOf Try.f20) True = (True) by kernel_rfl) trivial)).1)
    (fun x r h => (t20Eq x).trans h)
/-! loop.example/g00224/laws.FnExactRestartsOf -/
def fl6 : List (Nat × Sig) := [(19, sg19), (20, sg20), (21, sg21), (22, sg22), (23, sg23)]
def hi6 : List (Nat × (K × Mk)) := [(3, ((.sl (.int .i64)), (.o .s))), (5, ((.sl (.int .i64)), (.o .s))), (9, ((.sl (.int .i64)), (.o .s)))]
def en6 : Env := { n := 66, ty := assocN tyL, fns := assocN fl6, lo := 0, hint := assocN hi6 }
def su6 : Bool → Nat → Option Sub | _, _ => none
theorem ok6 : EnvOk Try.prog en6 := envOk_of rfl rfl tyL_ok (⟨so19, ⟨so20, ⟨so21, ⟨so22, ⟨so23, trivial⟩⟩⟩⟩⟩)
theorem t6Eq (x : Ps ins6) : evF en6 su6 Try.f6 ins6 res6 x = t6 x := by kernel_rfl
theorem so6 : Sound Try.prog 6 sg6 :=
  sound_of (fn := Try.f6) (c := bodyOf Try.f6) (subs := su6) (E := en6) (by kernel_rfl) (by kernel_rfl) (by decide) ok6 (by kernel_rfl) (by kernel_rfl) (by decide)
    (fun X hX => (GoodN.good (K := True) (Eq.mpr (show GoodN Try.prog X 66 en6 su6 (bodyOf Try.f6) True = (True) by kernel_rfl) trivial)).1)
    (fun x r h => (t6Eq x).trans h)
/-! loop.example/g00224/spec.ReadBlock -/
def fl24 : List (Nat × Sig) := [(44, sg44)]
def hi24 : List (Nat × (K × Mk)) := [(2, ((.sl kd51), (.o .s)))]
def en24 : Env := { n := 8, ty := assocN tyL, fns := assocN fl24, lo := 0, hint := assocN hi24 }
def su24 : Bool → Nat → Option Sub | _, _ => none
theorem ok24 : EnvOk Try.prog en24 := envOk_of rfl rfl tyL_ok (⟨so44, trivial⟩)
theorem t24Eq (x : Ps ins24) : evF en24 su24 Try.f24 ins24 res24 x = t24 x := by kernel_rfl
theorem so24 : Sound Try.prog 24 sg24 :=
  sound_of (fn := Try.f24) (c := bodyOf Try.f24) (subs := su24) (E := en24) (by kernel_rfl) (by kernel_rfl) (by decide) ok24 (by kernel_rfl) (by kernel_rfl) (by decide)
    (fun X hX => (GoodN.good (K := True) (Eq.mpr (show GoodN Try.prog X 8 en24 su24 (bodyOf Try.f24) True = (True) by kernel_rfl) trivial)).1)
    (fun x r h => (t24Eq x).trans h)
/-! loop.example/g00224/laws.eqItem -/
def fl47 : List (Nat × Sig) := []
def en47 : Env := { n := 25, ty := assocN tyL, fns := assocN fl47, lo := 0 }
def su47 : Bool → Nat → Option Sub | _, _ => none
theorem ok47 : EnvOk Try.prog en47 := envOk_of rfl rfl tyL_ok (trivial)
theorem t47Eq (x : Ps ins47) : evF en47 su47 Try.f47 ins47 res47 x = t47 x := by kernel_rfl
theorem so47 : Sound Try.prog 47 sg47 :=
  sound_of (fn := Try.f47) (c := bodyOf Try.f47) (subs := su47) (E := en47) (by kernel_rfl) (by kernel_rfl) (by decide) ok47 (by kernel_rfl) (by kernel_rfl) (by decide)
    (fun X hX => (GoodN.good (K := True) (Eq.mpr (show GoodN Try.prog X 25 en47 su47 (bodyOf Try.f47) True = (True) by kernel_rfl) trivial)).1)
    (fun x r h => (t47Eq x).trans h)
/-! loop.example/g00224/laws.eqItemS -/
def fl26 : List (Nat × Sig) := [(47, sg47)]
def en26 : Env := { n := 27, ty := assocN tyL, fns := assocN fl26, lo := 0 }
def su26 : Bool → Nat → Option Sub | true, 4 => some ⟨t26l4c, t26l4v, t26l4e, loopF t26l4⟩ | _, _ => none
theorem ok26 : EnvOk Try.prog en26 := envOk_of rfl rfl tyL_ok (⟨so47, trivial⟩)
theorem dr26r6 {X : Cx} (hX : en26.lo = X.lo) : RegOk Try.prog X 27 en26 6 (regAt 6 Try.f26) := regOk_of ok26 rfl hX (by kernel_rfl) (by kernel_rfl)
theorem t26l4Eq (R : Type) (c : Vars t26l4c) (v : Vars t26l4v) (kk : Vars t26l4c → (Vars t26l4v ⊕ Oc t26l4e) → Option R) : evC en26 su26 (loopAt 4 Try.f26) (Desc.mk2 t26l4v v (Desc.mk2 t26l4c c .empty)) (fun o => bodyK t26l4c t26l4v t26l4e o kk) = t26l4 R c v kk := by kernel_rfl
theorem t26l4Ok {X : Cx} (hX : en26.lo = X.lo) : SubOk Try.prog X 27 ⟨t26l4c, t26l4v, t26l4e, loopF t26l4⟩ (.loop (loopAt 4 Try.f26)) :=
  sub_loop (subs := su26) ok26 rfl hX (GoodN.good (K := True) (Eq.mpr (show GoodN Try.prog X 27 en26 su26 (loopAt 4 Try.f26) True = (RegOk Try.prog X 27 en26 6 (regAt 6 Try.f26) ∧ True) by kernel_rfl) ⟨(dr26r6 hX), trivial⟩)).1 (by decide) (by decide) t26l4Eq
theorem t26Eq (x : Ps ins26) : evF en26 su26 Try.f26 ins26 res26 x = t26 x := by kernel_rfl
theorem so26 : Sound Try.prog 26 sg26 :=
  sound_of (fn := Try.f26) (c := bodyOf Try.f26) (subs := su26) (E := en26) (by kernel_rfl) (by kernel_rfl) (by decide) ok26 (by kernel_rfl) (by kernel_rfl) (by decide)
    (fun X hX => (GoodN.good (K := True) (Eq.mpr (show GoodN Try.prog X 27 en26 su26 (bodyOf Try.f26) True = (SubOk Try.prog X 27 ⟨t26l4c, t26l4v, t26l4e, loopF t26l4⟩ (.loop (loopAt 4 Try.f26)) ∧ True) by kernel_rfl) ⟨(t26l4Ok hX), trivial⟩)).1)
    (fun x r h => (t26Eq x).trans h)
/-! loop.example/g00224/laws.markItemS -/
def fl27 : List (Nat × Sig) := [(48, sg48)]
def en27 : Env := { n := 43, ty := assocN tyL, fns := assocN fl27, lo := 1 }
def su27 : Bool → Nat → Option Sub | true, 2 => some ⟨t27l2c, t27l2v, t27l2e, loopF t27l2⟩ | _, _ => none
theorem ok27 : EnvOk Try.prog en27 := envOk_of rfl rfl tyL_ok (⟨so48, trivial⟩)
theorem t27l2Eq (R : Type) (c : Vars t27l2c) (v : Vars t27l2v) (kk : Vars t27l2c → (Vars t27l2v ⊕ Oc t27l2e) → Option R) : evC en27 su27 (loopAt 2 Try.f27) (Desc.mk2 t27l2v v (Desc.mk2 t27l2c c .empty)) (fun o => bodyK t27l2c t27l2v t27l2e o kk) = t27l2 R c v kk := by kernel_rfl
theorem t27l2Ok {X : Cx} (hX : en27.lo = X.lo) : SubOk Try.prog X 43 ⟨t27l2c, t27l2v, t27l2e, loopF t27l2⟩ (.loop (loopAt 2 Try.f27)) :=
  sub_loop (subs := su27) ok27 rfl hX (GoodN.good (K := True) (Eq.mpr (show GoodN Try.prog X 43 en27 su27 (loopAt 2 Try.f27) True = (True) by kernel_rfl) trivial)).1 (by decide) (by decide) t27l2Eq
theorem t27Eq (x : Ps ins27) : evF en27 su27 Try.f27 ins27 res27 x = t27 x := by kernel_rfl
theorem so27 : Sound Try.prog 27 sg27 :=
  sound_of (fn := Try.f27) (c := bodyOf Try.f27) (subs := su27) (E := en27) (by kernel_rfl) (by kernel_rfl) (by decide) ok27 (by kernel_rfl) (by kernel_rfl) (by decide)
    (fun X hX => (GoodN.good (K := True) (Eq.mpr (show GoodN Try.prog X 43 en27 su27 (bodyOf Try.f27) True = (SubOk Try.prog X 43 ⟨t27l2c, t27l2v, t27l2e, loopF t27l2⟩ (.loop (loopAt 2 Try.f27)) ∧ True) by kernel_rfl) ⟨(t27l2Ok hX), trivial⟩)).1)
    (fun x r h => (t27Eq x).trans h)
/-! loop.example/g00224/laws.heldItemS -/
def fl28 : List (Nat × Sig) := [(48, sg48)]
def en28 : Env := { n := 51, ty := assocN tyL, fns := assocN fl28, lo := 0 }
def su28 : Bool → Nat → Option Sub | true, 2 => some ⟨t28l2c, t28l2v, t28l2e, loopF t28l2⟩ | _, _ => none
theorem ok28 : EnvOk Try.prog en28 := envOk_of rfl rfl tyL_ok (⟨so48, trivial⟩)
theorem dr28r4 {X : Cx} (hX : en28.lo = X.lo) : RegOk Try.prog X 51 en28 4 (regAt 4 Try.f28) := regOk_of ok28 rfl hX (by kernel_rfl) (by kernel_rfl)
theorem dr28r13 {X : Cx} (hX : en28.lo = X.lo) : RegOk Try.prog X 51 en28 13 (regAt 13 Try.f28) := regOk_of ok28 rfl hX (by kernel_rfl) (by kernel_rfl)
theorem t28l2Eq (R : Type) (c : Vars t28l2c) (v : Vars t28l2v) (kk : Vars t28l2c → (Vars t28l2v ⊕ Oc t28l2e) → Option R) : evC en28 su28 (loopAt 2 Try.f28) (Desc.mk2 t28l2v v (Desc.mk2 t28l2c c .empty)) (fun o => bodyK t28l2c t28l2v t28l2e o kk) = t28l2 R c v kk := by kernel_rfl
theorem t28l2Ok {X : Cx} (hX : en28.lo = X.lo) : SubOk Try.prog X 51 ⟨t28l2c, t28l2v, t28l2e, loopF t28l2⟩ (.loop (loopAt 2 Try.f28)) :=
  sub_loop (subs := su28) ok28 rfl hX (GoodN.good (K := True) (Eq.mpr (show GoodN Try.prog X 51 en28 su28 (loopAt 2 Try.f28) True = (RegOk Try.prog X 51 en28 4 (regAt 4 Try.f28) ∧ RegOk Try.prog X 51 en28 13 (regAt 13 Try.f28) ∧ True) by kernel_rfl) ⟨(dr28r4 hX), (dr28r13 hX), trivial⟩)).1 (by decide) (by decide) t28l2Eq
theorem t28Eq (x : Ps ins28) : evF en28 su28 Try.f28 ins28 res28 x = t28 x := by kernel_rfl
theorem so28 : Sound Try.prog 28 sg28 :=
  sound_of (fn := Try.f28) (c := bodyOf Try.f28) (subs := su28) (E := en28) (by kernel_rfl) (by kernel_rfl) (by decide) ok28 (by kernel_rfl) (by kernel_rfl) (by decide)
    (fun X hX => (GoodN.good (K := True) (Eq.mpr (show GoodN Try.prog X 51 en28 su28 (bodyOf Try.f28) True = (SubOk Try.prog X 51 ⟨t28l2c, t28l2v, t28l2e, loopF t28l2⟩ (.loop (loopAt 2 Try.f28)) ∧ True) by kernel_rfl) ⟨(t28l2Ok hX), trivial⟩)).1)
    (fun x r h => (t28Eq x).trans h)
/-! loop.example/g00224/laws.FnExactReadBlock -/
def fl7 : List (Nat × Sig) := [(24, sg24), (25, sg25), (26, sg26), (27, sg27), (28, sg28)]
def hi7 : List (Nat × (K × Mk)) := [(3, ((.sl kd51), (.o .s))), (5, ((.sl kd51), (.o .s))), (9, ((.sl kd51), (.o .s)))]
def en7 : Env := { n := 66, ty := assocN tyL, fns := assocN fl7, lo := 0, hint := assocN hi7 }
def su7 : Bool → Nat → Option Sub | _, _ => none
theorem ok7 : EnvOk Try.prog en7 := envOk_of rfl rfl tyL_ok (⟨so24, ⟨so25, ⟨so26, ⟨so27, ⟨so28, trivial⟩⟩⟩⟩⟩)
theorem t7Eq (x : Ps ins7) : evF en7 su7 Try.f7 ins7 res7 x = t7 x := by kernel_rfl
theorem so7 : Sound Try.prog 7 sg7 :=
  sound_of (fn := Try.f7) (c := bodyOf Try.f7) (subs := su7) (E := en7) (by kernel_rfl) (by kernel_rfl) (by decide) ok7 (by kernel_rfl) (by kernel_rfl) (by decide)
    (fun X hX => (GoodN.good (K := True) (Eq.mpr (show GoodN Try.prog X 66 en7 su7 (bodyOf Try.f7) True = (True) by kernel_rfl) trivial)).1)
    (fun x r h => (t7Eq x).trans h)
/-! (*loop.example/g00224/spec.l1Cur).next -/
def fl102 : List (Nat × Sig) := []
def en102 : Env := { n := 62, ty := assocN tyL, fns := assocN fl102, lo := 1 }
def su102 : Bool → Nat → Option Sub | false, 3 => some ⟨t102i3c, t102i3v, t102i3e, t102i3⟩ | _, _ => none
theorem ok102 : EnvOk Try.prog en102 := envOk_of rfl rfl tyL_ok (trivial)
theorem dr102r2 {X : Cx} (hX : en102.lo = X.lo) : RegOk Try.prog X 62 en102 2 (regAt 2 Try.f102) := regOk_of ok102 rfl hX (by kernel_rfl) (by kernel_rfl)
theorem dr102r3 {X : Cx} (hX : en102.lo = X.lo) : RegOk Try.prog X 62 en102 3 (regAt 3 Try.f102) := regOk_of ok102 rfl hX (by kernel_rfl) (by kernel_rfl)
theorem dr102r6 {X : Cx} (hX : en102.lo = X.lo) : RegOk Try.prog X 62 en102 6 (regAt 6 Try.f102) := regOk_of ok102 rfl hX (by kernel_rfl) (by kernel_rfl)
def su102i3 : Bool → Nat → Option Sub | _, _ => none
theorem t102i3Eq (R : Type) (c : Vars t102i3c) (v : Vars t102i3v) (kk : Vars t102i3c → Oc t102i3e → Option R) : evC en102 su102i3 (ifAt 3 Try.f102) (Desc.mk2 t102i3v v (Desc.mk2 t102i3c c .empty)) (fun o => chk t102i3c t102i3e o kk) = t102i3 R c v kk := by kernel_rfl
theorem t102i3Ok {X : Cx} (hX : en102.lo = X.lo) : SubOk Try.prog X 62 ⟨t102i3c, t102i3v, t102i3e, t102i3⟩ (ifAt 3 Try.f102) :=
  sub_if (u := ⟨t102i3c, t102i3v, t102i3e, t102i3⟩) (subs := su102i3) ok102 rfl hX (GoodN.good (K := True) (Eq.mpr (show GoodN Try.prog X 62 en102 su102i3 (ifAt 3 Try.f102) True = (RegOk Try.prog X 62 en102 3 (regAt 3 Try.f102) ∧ True) by kernel_rfl) ⟨(dr102r3 hX), trivial⟩)).1 (by decide) (by decide) t102i3Eq
theorem t102Eq (x : Ps ins102) : evF en102 su102 Try.f102 ins102 res102 x = t102 x := by kernel_rfl
theorem so102 : Sound Try.prog 102 sg102 :=
  sound_of (fn := Try.f102) (c := bodyOf Try.f102) (subs := su102) (E := en102) (by kernel_rfl) (by kernel_rfl) (by decide) ok102 (by kernel_rfl) (by kernel_rfl) (by decide)
    (fun X hX => (GoodN.good (K := True) (Eq.mpr (show GoodN Try.prog X 62 en102 su102 (bodyOf Try.f102) True = (RegOk Try.prog X 62 en102 2 (regAt 2 Try.f102) ∧ SubOk Try.prog X 62 ⟨t102i3c, t102i3v, t102i3e, t102i3⟩ (ifAt 3 Try.f102) ∧ RegOk Try.prog X 62 en102 6 (regAt 6 Try.f102) ∧ True) by kernel_rfl) ⟨(dr102r2 hX), (t102i3Ok hX), (dr102r6 hX), trivial⟩)).1)
    (fun x r h => (t102Eq x).trans h)
/-! (*loop.example/g00224/spec.l1Cur).pick -/
def fl93 : List (Nat × Sig) := [(102, sg102)]
def en93 : Env := { n := 20, ty := assocN tyL, fns := assocN fl93, lo := 1 }
def su93 : Bool → Nat → Option Sub | false, 5 => some ⟨t93i5c, t93i5v, t93i5e, t93i5⟩ | _, _ => none
theorem ok93 : EnvOk Try.prog en93 := envOk_of rfl rfl tyL_ok (⟨so102, trivial⟩)
def su93i5 : Bool → Nat → Option Sub | _, _ => none
theorem t93i5Eq (R : Type) (c : Vars t93i5c) (v : Vars t93i5v) (kk : Vars t93i5c → Oc t93i5e → Option R) : evC en93 su93i5 (ifAt 5 Try.f93) (Desc.mk2 t93i5v v (Desc.mk2 t93i5c c .empty)) (fun o => chk t93i5c t93i5e o kk) = t93i5 R c v kk := by kernel_rfl
theorem t93i5Ok {X : Cx} (hX : en93.lo = X.lo) : SubOk Try.prog X 20 ⟨t93i5c, t93i5v, t93i5e, t93i5⟩ (ifAt 5 Try.f93) :=
  sub_if (u := ⟨t93i5c, t93i5v, t93i5e, t93i5⟩) (subs := su93i5) ok93 rfl hX (GoodN.good (K := True) (Eq.mpr (show GoodN Try.prog X 20 en93 su93i5 (ifAt 5 Try.f93) True = (True) by kernel_rfl) trivial)).1 (by decide) (by decide) t93i5Eq
theorem t93Eq (x : Ps ins93) : evF en93 su93 Try.f93 ins93 res93 x = t93 x := by kernel_rfl
theorem so93 : Sound Try.prog 93 sg93 :=
  sound_of (fn := Try.f93) (c := bodyOf Try.f93) (subs := su93) (E := en93) (by kernel_rfl) (by kernel_rfl) (by decide) ok93 (by kernel_rfl) (by kernel_rfl) (by decide)
    (fun X hX => (GoodN.good (K := True) (Eq.mpr (show GoodN Try.prog X 20 en93 su93 (bodyOf Try.f93) True = (SubOk Try.prog X 20 ⟨t93i5c, t93i5v, t93i5e, t93i5⟩ (ifAt 5 Try.f93) ∧ True) by kernel_rfl) ⟨(t93i5Ok hX), trivial⟩)).1)
    (fun x r h => (t93Eq x).trans h)
/-! (*loop.example/g00224/spec.l1Cur).one -/
def fl94 : List (Nat × Sig) := [(93, sg93)]
def en94 : Env := { n := 9, ty := assocN tyL, fns := assocN fl94, lo := 1 }
def su94 : Bool → Nat → Option Sub | _, _ => none
theorem ok94 : EnvOk Try.prog en94 := envOk_of rfl rfl tyL_ok (⟨so93, trivial⟩)
theorem t94Eq (x : Ps ins94) : evF en94 su94 Try.f94 ins94 res94 x = t94 x := by kernel_rfl
theorem so94 : Sound Try.prog 94 sg94 :=
  sound_of (fn := Try.f94) (c := bodyOf Try.f94) (subs := su94) (E := en94) (by kernel_rfl) (by kernel_rfl) (by decide) ok94 (by kernel_rfl) (by kernel_rfl) (by decide)
    (fun X hX => (GoodN.good (K := True) (Eq.mpr (show GoodN Try.prog X 9 en94 su94 (bodyOf Try.f94) True = (True) by kernel_rfl) trivial)).1)
    (fun x r h => (t94Eq x).trans h)
/-! (*loop.example/g00224/spec.l1Cur).of -/
def fl112 : List (Nat × Sig) := [(93, sg93)]
def en112 : Env := { n := 12, ty := assocN tyL, fns := assocN fl112, lo := 1 }
def su112 : Bool → Nat → Option Sub | _, _ => none
theorem ok112 : EnvOk Try.prog en112 := envOk_of rfl rfl tyL_ok (⟨so93, trivial⟩)
theorem t112Eq (x : Ps ins112) : evF en112 su112 Try.f112 ins112 res112 x = t112 x := by kernel_rfl
theorem so112 : Sound Try.prog 112 sg112 :=
  sound_of (fn := Try.f112) (c := bodyOf Try.f112) (subs := su112) (E := en112) (by kernel_rfl) (by kernel_rfl) (by decide) ok112 (by kernel_rfl) (by kernel_rfl) (by decide)
    (fun X hX => (GoodN.good (K := True) (Eq.mpr (show GoodN Try.prog X 12 en112 su112 (bodyOf Try.f112) True = (True) by kernel_rfl) trivial)).1)
    (fun x r h => (t112Eq x).trans h)
/-! (*loop.example/g00224/spec.l1Cur).key -/
def fl108 : List (Nat × Sig) := [(94, sg94), (112, sg112)]
def en108 : Env := { n := 11, ty := assocN tyL, fns := assocN fl108, lo := 1 }
def su108 : Bool → Nat → Option Sub | _, _ => none
theorem ok108 : EnvOk Try.prog en108 := envOk_of rfl rfl tyL_ok (⟨so94, ⟨so112, trivial⟩⟩)
theorem t108Eq (x : Ps ins108) : evF en108 su108 Try.f108 ins108 res108 x = t108 x := by kernel_rfl
theorem so108 : Sound Try.prog 108 sg108 :=
  sound_of (fn := Try.f108) (c := bodyOf Try.f108) (subs := su108) (E := en108) (by kernel_rfl) (by kernel_rfl) (by decide) ok108 (by kernel_rfl) (by kernel_rfl) (by decide)
    (fun X hX => (GoodN.good (K := True) (Eq.mpr (show GoodN Try.prog X 11 en108 su108 (bodyOf Try.f108) True = (True) by kernel_rfl) trivial)).1)
    (fun x r h => (t108Eq x).trans h)
/-! (*loop.example/g00224/spec.l1Cur).text -/
def fl109 : List (Nat × Sig) := [(93, sg93)]
def hi109 : List (Nat × (K × Mk)) := [(5, ((.sl (.int .u8)), (.o .s)))]
def en109 : Env := { n := 23, ty := assocN tyL, fns := assocN fl109, lo := 1, hint := assocN hi109 }
def su109 : Bool → Nat → Option Sub | true, 3 => some ⟨t109l3c, t109l3v, t109l3e, loopF t109l3⟩ | _, _ => none
theorem ok109 : EnvOk Try.prog en109 := envOk_of rfl rfl tyL_ok (⟨so93, trivial⟩)
theorem t109l3Eq (R : Type) (c : Vars t109l3c) (v : Vars t109l3v) (kk : Vars t109l3c → (Vars t109l3v ⊕ Oc t109l3e) → Option R) : evC en109 su109 (loopAt 3 Try.f109) (Desc.mk2 t109l3v v (Desc.mk2 t109l3c c .empty)) (fun o => bodyK t109l3c t109l3v t109l3e o kk) = t109l3 R c v kk := by kernel_rfl
theorem t109l3Ok {X : Cx} (hX : en109.lo = X.lo) : SubOk Try.prog X 23 ⟨t109l3c, t109l3v, t109l3e, loopF t109l3⟩ (.loop (loopAt 3 Try.f109)) :=
  sub_loop (subs := su109) ok109 rfl hX (GoodN.good (K := True) (Eq.mpr (show GoodN Try.prog X 23 en109 su109 (loopAt 3 Try.f109) True = (True) by kernel_rfl) trivial)).1 (by decide) (by decide) t109l3Eq
theorem t109Eq (x : Ps ins109) : evF en109 su109 Try.f109 ins109 res109 x = t109 x := by kernel_rfl
theorem so109 : Sound Try.prog 109 sg109 :=
  sound_of (fn := Try.f109) (c := bodyOf Try.f109) (subs := su109) (E := en109) (by kernel_rfl) (by kernel_rfl) (by decide) ok109 (by kernel_rfl) (by kernel_rfl) (by decide)
    (fun X hX => (GoodN.good (K := True) (Eq.mpr (show GoodN Try.prog X 23 en109 su109 (bodyOf Try.f109) True = (SubOk Try.prog X 23 ⟨t109l3c, t109l3v, t109l3e, loopF t109l3⟩ (.loop (loopAt 3 Try.f109)) ∧ True) by kernel_rfl) ⟨(t109l3Ok hX), trivial⟩)).1)
    (fun x r h => (t109Eq x).trans h)
/-! (*loop.example/g00224/spec.l1Cur).among -/
def fl110 : List (Nat × Sig) := [(93, sg93)]
def en110 : Env := { n := 12, ty := assocN tyL, fns := assocN fl110, lo := 1 }
def su110 : Bool → Nat → Option Sub | _, _ => none
theorem ok110 : EnvOk Try.prog en110 := envOk_of rfl rfl tyL_ok (⟨so93, trivial⟩)
theorem t110Eq (x : Ps ins110) : evF en110 su110 Try.f110 ins110 res110 x = t110 x := by kernel_rfl
theorem so110 : Sound Try.prog 110 sg110 :=
  sound_of (fn := Try.f110) (c := bodyOf Try.f110) (subs := su110) (E := en110) (by kernel_rfl) (by kernel_rfl) (by decide) ok110 (by kernel_rfl) (by kernel_rfl) (by decide)
    (fun X hX => (GoodN.good (K := True) (Eq.mpr (show GoodN Try.prog X 12 en110 su110 (bodyOf Try.f110) True = (True) by kernel_rfl) trivial)).1)
    (fun x r h => (t110Eq x).trans h)
/-! (*loop.example/g00224/spec.l1Cur).item -/
def fl103 : List (Nat × Sig) := [(108, sg108), (93, sg93), (109, sg109), (94, sg94), (110, sg110)]
def en103 : Env := { n := 34, ty := assocN tyL, fns := assocN fl103, lo := 1 }
def su103 : Bool → Nat → Option Sub | false, 3 => some ⟨t103i3c, t103i3v, t103i3e, t103i3⟩ | false, 9 => some ⟨t103i9c, t103i9v, t103i9e, t103i9⟩ | false, 7 => some ⟨t103i7c, t103i7v, t103i7e, t103i7⟩ | _, _ => none
theorem ok103 : EnvOk Try.prog en103 := envOk_of rfl rfl tyL_ok (⟨so108, ⟨so93, ⟨so109, ⟨so94, ⟨so110, trivial⟩⟩⟩⟩⟩)
def su103i3 : Bool → Nat → Option Sub | false, 9 => some ⟨t103i9c, t103i9v, t103i9e, t103i9⟩ | false, 7 => some ⟨t103i7c, t103i7v, t103i7e, t103i7⟩ | _, _ => none
theorem t103i3Eq (R : Type) (c : Vars t103i3c) (v : Vars t103i3v) (kk : Vars t103i3c → Oc t103i3e → Option R) : evC en103 su103i3 (ifAt 3 Try.f103) (Desc.mk2 t103i3v v (Desc.mk2 t103i3c c .empty)) (fun o => chk t103i3c t103i3e o kk) = t103i3 R c v kk := by kernel_rfl
theorem t103i3Ok {X : Cx} (hX : en103.lo = X.lo) : SubOk Try.prog X 34 ⟨t103i3c, t103i3v, t103i3e, t103i3⟩ (ifAt 3 Try.f103) :=
  sub_if (u := ⟨t103i3c, t103i3v, t103i3e, t103i3⟩) (subs := su103i3) ok103 rfl hX (GoodN.good (K := True) (Eq.mpr (show GoodN Try.prog X 34 en103 su103i3 (ifAt 3 Try.f103) True = (True) by kernel_rfl) trivial)).1 (by decide) (by decide) t103i3Eq
def su103i9 : Bool → Nat → Option Sub | false, 3 => some ⟨t103i3c, t103i3v, t103i3e, t103i3⟩ | false, 7 => some ⟨t103i7c, t103i7v, t103i7e, t103i7⟩ | _, _ => none
theorem t103i9Eq (R : Type) (c : Vars t103i9c) (v : Vars t103i9v) (kk : Vars t103i9c → Oc t103i9e → Option R) : evC en103 su103i9 (ifAt 9 Try.f103) (Desc.mk2 t103i9v v (Desc.mk2 t103i9c c .empty)) (fun o => chk t103i9c t103i9e o kk) = t103i9 R c v kk := by kernel_rfl
theorem t103i9Ok {X : Cx} (hX : en103.lo = X.lo) : SubOk Try.prog X 34 ⟨t103i9c, t103i9v, t103i9e, t103i9⟩ (ifAt 9 Try.f103) :=
  sub_if (u := ⟨t103i9c, t103i9v, t103i9e, t103i9⟩) (subs := su103i9) ok103 rfl hX (GoodN.good (K := True) (Eq.mpr (show GoodN Try.prog X 34 en103 su103i9 (ifAt 9 Try.f103) True = (True) by kernel_rfl) trivial)).1 (by decide) (by decide) t103i9Eq
def su103i7 : Bool → Nat → Option Sub | false, 3 => some ⟨t103i3c, t103i3v, t103i3e, t103i3⟩ | false, 9 => some ⟨t103i9c, t103i9v, t103i9e, t103i9⟩ | _, _ => none
theorem t103i7Eq (R : Type) (c : Vars t103i7c) (v : Vars t103i7v) (kk : Vars t103i7c → Oc t103i7e → Option R) : evC en103 su103i7 (ifAt 7 Try.f103) (Desc.mk2 t103i7v v (Desc.mk2 t103i7c c .empty)) (fun o => chk t103i7c t103i7e o kk) = t103i7 R c v kk := by kernel_rfl
theorem t103i7Ok {X : Cx} (hX : en103.lo = X.lo) : SubOk Try.prog X 34 ⟨t103i7c, t103i7v, t103i7e, t103i7⟩ (ifAt 7 Try.f103) :=
  sub_if (u := ⟨t103i7c, t103i7v, t103i7e, t103i7⟩) (subs := su103i7) ok103 rfl hX (GoodN.good (K := True) (Eq.mpr (show GoodN Try.prog X 34 en103 su103i7 (ifAt 7 Try.f103) True = (SubOk Try.prog X 34 ⟨t103i9c, t103i9v, t103i9e, t103i9⟩ (ifAt 9 Try.f103) ∧ True) by kernel_rfl) ⟨(t103i9Ok hX), trivial⟩)).1 (by decide) (by decide) t103i7Eq
theorem t103Eq (x : Ps ins103) : evF en103 su103 Try.f103 ins103 res103 x = t103 x := by kernel_rfl
theorem so103 : Sound Try.prog 103 sg103 :=
  sound_of (fn := Try.f103) (c := bodyOf Try.f103) (subs := su103) (E := en103) (by kernel_rfl) (by kernel_rfl) (by decide) ok103 (by kernel_rfl) (by kernel_rfl) (by decide)
    (fun X hX => (GoodN.good (K := True) (Eq.mpr (show GoodN Try.prog X 34 en103 su103 (bodyOf Try.f103) True = (SubOk Try.prog X 34 ⟨t103i3c, t103i3v, t103i3e, t103i3⟩ (ifAt 3 Try.f103) ∧ SubOk Try.prog X 34 ⟨t103i7c, t103i7v, t103i7e, t103i7⟩ (ifAt 7 Try.f103) ∧ True) by kernel_rfl) ⟨(t103i3Ok hX), (t103i7Ok hX), trivial⟩)).1)
    (fun x r h => (t103Eq x).trans h)
/-! loop.example/g00224/spec.l6Seek -/
def fl111 : List (Nat × Sig) := [(80, sg80)]
def en111 : Env := { n := 28, ty := assocN tyL, fns := assocN fl111, lo := 0 }
def su111 : Bool → Nat → Option Sub | false, 6 => some ⟨t111i6c, t111i6v, t111i6e, t111i6⟩ | true, 3 => some ⟨t111l3c, t111l3v, t111l3e, loopF t111l3⟩ | _, _ => none
theorem ok111 : EnvOk Try.prog en111 := envOk_of rfl rfl tyL_ok (⟨so80, trivial⟩)
theorem dr111r5 {X : Cx} (hX : en111.lo = X.lo) : RegOk Try.prog X 28 en111 5 (regAt 5 Try.f111) := regOk_of ok111 rfl hX (by kernel_rfl) (by kernel_rfl)
def su111i6 : Bool → Nat → Option Sub | true, 3 => some ⟨t111l3c, t111l3v, t111l3e, loopF t111l3⟩ | _, _ => none
theorem t111i6Eq (R : Type) (c : Vars t111i6c) (v : Vars t111i6v) (kk : Vars t111i6c → Oc t111i6e → Option R) : evC en111 su111i6 (ifAt 6 Try.f111) (Desc.mk2 t111i6v v (Desc.mk2 t111i6c c .empty)) (fun o => chk t111i6c t111i6e o kk) = t111i6 R c v kk := by kernel_rfl
theorem t111i6Ok {X : Cx} (hX : en111.lo = X.lo) : SubOk Try.prog X 28 ⟨t111i6c, t111i6v, t111i6e, t111i6⟩ (ifAt 6 Try.f111) :=
  sub_if (u := ⟨t111i6c, t111i6v, t111i6e, t111i6⟩) (subs := su111i6) ok111 rfl hX (GoodN.good (K := True) (Eq.mpr (show GoodN Try.prog X 28 en111 su111i6 (ifAt 6 Try.f111) True = (True) by kernel_rfl) trivial)).1 (by decide) (by decide) t111i6Eq
theorem t111l3Eq (R : Type) (c : Vars t111l3c) (v : Vars t111l3v) (kk : Vars t111l3c → (Vars t111l3v ⊕ Oc t111l3e) → Option R) : evC en111 su111 (loopAt 3 Try.f111) (Desc.mk2 t111l3v v (Desc.mk2 t111l3c c .empty)) (fun o => bodyK t111l3c t111l3v t111l3e o kk) = t111l3 R c v kk := by kernel_rfl
theorem t111l3Ok {X : Cx} (hX : en111.lo = X.lo) : SubOk Try.prog X 28 ⟨t111l3c, t111l3v, t111l3e, loopF t111l3⟩ (.loop (loopAt 3 Try.f111)) :=
  sub_loop (subs := su111) ok111 rfl hX (GoodN.good (K := True) (Eq.mpr (show GoodN Try.prog X 28 en111 su111 (loopAt 3 Try.f111) True = (RegOk Try.prog X 28 en111 5 (regAt 5 Try.f111) ∧ SubOk Try.prog X 28 ⟨t111i6c, t111i6v, t111i6e, t111i6⟩ (ifAt 6 Try.f111) ∧ True) by kernel_rfl) ⟨(dr111r5 hX), (t111i6Ok hX), trivial⟩)).1 (by decide) (by decide) t111l3Eq
theorem t111Eq (x : Ps ins111) : evF en111 su111 Try.f111 ins111 res111 x = t111 x := by kernel_rfl
theorem so111 : Sound Try.prog 111 sg111 :=
  sound_of (fn := Try.f111) (c := bodyOf Try.f111) (subs := su111) (E := en111) (by kernel_rfl) (by kernel_rfl) (by decide) ok111 (by kernel_rfl) (by kernel_rfl) (by decide)
    (fun X hX => (GoodN.good (K := True) (Eq.mpr (show GoodN Try.prog X 28 en111 su111 (bodyOf Try.f111) True = (SubOk Try.prog X 28 ⟨t111l3c, t111l3v, t111l3e, loopF t111l3⟩ (.loop (loopAt 3 Try.f111)) ∧ True) by kernel_rfl) ⟨(t111l3Ok hX), trivial⟩)).1)
    (fun x r h => (t111Eq x).trans h)
/-! loop.example/g00224/spec.l6Put -/
def fl104 : List (Nat × Sig) := [(111, sg111), (80, sg80)]
def hi104 : List (Nat × (K × Mk)) := [(4, ((.sl kd51), (.o .s))), (6, ((.sl kd51), (.o .s)))]
def en104 : Env := { n := 38, ty := assocN tyL, fns := assocN fl104, lo := 0, hint := assocN hi104 }
def su104 : Bool → Nat → Option Sub | _, _ => none
theorem ok104 : EnvOk Try.prog en104 := envOk_of rfl rfl tyL_ok (⟨so111, ⟨so80, trivial⟩⟩)
theorem dr104r2 {X : Cx} (hX : en104.lo = X.lo) : RegOk Try.prog X 38 en104 2 (regAt 2 Try.f104) := regOk_of ok104 rfl hX (by kernel_rfl) (by kernel_rfl)
theorem t104Eq (x : Ps ins104) : evF en104 su104 Try.f104 ins104 res104 x = t104 x := by kernel_rfl
theorem so104 : Sound Try.prog 104 sg104 :=
  sound_of (fn := Try.f104) (c := bodyOf Try.f104) (subs := su104) (E := en104) (by kernel_rfl) (by kernel_rfl) (by decide) ok104 (by kernel_rfl) (by kernel_rfl) (by decide)
    (fun X hX => (GoodN.good (K := True) (Eq.mpr (show GoodN Try.prog X 38 en104 su104 (bodyOf Try.f104) True = (RegOk Try.prog X 38 en104 2 (regAt 2 Try.f104) ∧ True) by kernel_rfl) ⟨(dr104r2 hX), trivial⟩)).1)
    (fun x r h => (t104Eq x).trans h)
/-! (*loop.example/g00224/spec.l1Cur).run -/
def fl95 : List (Nat × Sig) := [(103, sg103), (79, sg79), (104, sg104)]
def hi95 : List (Nat × (K × Mk)) := [(4, ((.sl kd51), (.o .s))), (5, ((.sl kd51), (.o .s)))]
def en95 : Env := { n := 19, ty := assocN tyL, fns := assocN fl95, lo := 1, hint := assocN hi95 }
def su95 : Bool → Nat → Option Sub | false, 6 => some ⟨t95i6c, t95i6v, t95i6e, t95i6⟩ | true, 2 => some ⟨t95l2c, t95l2v, t95l2e, loopF t95l2⟩ | _, _ => none
theorem ok95 : EnvOk Try.prog en95 := envOk_of rfl rfl tyL_ok (⟨so103, ⟨so79, ⟨so104, trivial⟩⟩⟩)
def su95i6 : Bool → Nat → Option Sub | true, 2 => some ⟨t95l2c, t95l2v, t95l2e, loopF t95l2⟩ | _, _ => none
theorem t95i6Eq (R : Type) (c : Vars t95i6c) (v : Vars t95i6v) (kk : Vars t95i6c → Oc t95i6e → Option R) : evC en95 su95i6 (ifAt 6 Try.f95) (Desc.mk2 t95i6v v (Desc.mk2 t95i6c c .empty)) (fun o => chk t95i6c t95i6e o kk) = t95i6 R c v kk := by kernel_rfl
theorem t95i6Ok {X : Cx} (hX : en95.lo = X.lo) : SubOk Try.prog X 19 ⟨t95i6c, t95i6v, t95i6e, t95i6⟩ (ifAt 6 Try.f95) :=
  sub_if (u := ⟨t95i6c, t95i6v, t95i6e, t95i6⟩) (subs := su95i6) ok95 rfl hX (GoodN.good (K := True) (Eq.mpr (show GoodN Try.prog X 19 en95 su95i6 (ifAt 6 Try.f95) True = (True) by kernel_rfl) trivial)).1 (by decide) (by decide) t95i6Eq
theorem t95l2Eq (R : Type) (c : Vars t95l2c) (v : Vars t95l2v) (kk : Vars t95l2c → (Vars t95l2v ⊕ Oc t95l2e) → Option R) : evC en95 su95 (loopAt 2 Try.f95) (Desc.mk2 t95l2v v (Desc.mk2 t95l2c c .empty)) (fun o => bodyK t95l2c t95l2v t95l2e o kk) = t95l2 R c v kk := by kernel_rfl
theorem t95l2Ok {X : Cx} (hX : en95.lo = X.lo) : SubOk Try.prog X 19 ⟨t95l2c, t95l2v, t95l2e, loopF t95l2⟩ (.loop (loopAt 2 Try.f95)) :=
  sub_loop (subs := su95) ok95 rfl hX (GoodN.good (K := True) (Eq.mpr (show GoodN Try.prog X 19 en95 su95 (loopAt 2 Try.f95) True = (SubOk Try.prog X 19 ⟨t95i6c, t95i6v, t95i6e, t95i6⟩ (ifAt 6 Try.f95) ∧ True) by kernel_rfl) ⟨(t95i6Ok hX), trivial⟩)).1 (by decide) (by decide) t95l2Eq
theorem t95Eq (x : Ps ins95) : evF en95 su95 Try.f95 ins95 res95 x = t95 x := by kernel_rfl
theorem so95 : Sound Try.prog 95 sg95 :=
  sound_of (fn := Try.f95) (c := bodyOf Try.f95) (subs := su95) (E := en95) (by kernel_rfl) (by kernel_rfl) (by decide) ok95 (by kernel_rfl) (by kernel_rfl) (by decide)
    (fun X hX => (GoodN.good (K := True) (Eq.mpr (show GoodN Try.prog X 19 en95 su95 (bodyOf Try.f95) True = (SubOk Try.prog X 19 ⟨t95l2c, t95l2v, t95l2e, loopF t95l2⟩ (.loop (loopAt 2 Try.f95)) ∧ True) by kernel_rfl) ⟨(t95l2Ok hX), trivial⟩)).1)
    (fun x r h => (t95Eq x).trans h)
/-! (*loop.example/g00224/spec.l1Cur).block -/
def fl72 : List (Nat × Sig) := [(93, sg93), (94, sg94), (95, sg95)]
def hi72 : List (Nat × (K × Mk)) := [(2, ((.sl kd51), (.o .s))), (4, ((.sl kd51), (.o .s)))]
def en72 : Env := { n := 25, ty := assocN tyL, fns := assocN fl72, lo := 1, hint := assocN hi72 }
def su72 : Bool → Nat → Option Sub | false, 3 => some ⟨t72i3c, t72i3v, t72i3e, t72i3⟩ | false, 6 => some ⟨t72i6c, t72i6v, t72i6e, t72i6⟩ | _, _ => none
theorem ok72 : EnvOk Try.prog en72 := envOk_of rfl rfl tyL_ok (⟨so93, ⟨so94, ⟨so95, trivial⟩⟩⟩)
def su72i3 : Bool → Nat → Option Sub | false, 6 => some ⟨t72i6c, t72i6v, t72i6e, t72i6⟩ | _, _ => none
theorem t72i3Eq (R : Type) (c : Vars t72i3c) (v : Vars t72i3v) (kk : Vars t72i3c → Oc t72i3e → Option R) : evC en72 su72i3 (ifAt 3 Try.f72) (Desc.mk2 t72i3v v (Desc.mk2 t72i3c c .empty)) (fun o => chk t72i3c t72i3e o kk) = t72i3 R c v kk := by kernel_rfl
theorem t72i3Ok {X : Cx} (hX : en72.lo = X.lo) : SubOk Try.prog X 25 ⟨t72i3c, t72i3v, t72i3e, t72i3⟩ (ifAt 3 Try.f72) :=
  sub_if (u := ⟨t72i3c, t72i3v, t72i3e, t72i3⟩) (subs := su72i3) ok72 rfl hX (GoodN.good (K := True) (Eq.mpr (show GoodN Try.prog X 25 en72 su72i3 (ifAt 3 Try.f72) True = (True) by kernel_rfl) trivial)).1 (by decide) (by decide) t72i3Eq
def su72i6 : Bool → Nat → Option Sub | false, 3 => some ⟨t72i3c, t72i3v, t72i3e, t72i3⟩ | _, _ => none
theorem t72i6Eq (R : Type) (c : Vars t72i6c) (v : Vars t72i6v) (kk : Vars t72i6c → Oc t72i6e → Option R) : evC en72 su72i6 (ifAt 6 Try.f72) (Desc.mk2 t72i6v v (Desc.mk2 t72i6c c .empty)) (fun o => chk t72i6c t72i6e o kk) = t72i6 R c v kk := by kernel_rfl
theorem t72i6Ok {X : Cx} (hX : en72.lo = X.lo) : SubOk Try.prog X 25 ⟨t72i6c, t72i6v, t72i6e, t72i6⟩ (ifAt 6 Try.f72) :=
  sub_if (u := ⟨t72i6c, t72i6v, t72i6e, t72i6⟩) (subs := su72i6) ok72 rfl hX (GoodN.good (K := True) (Eq.mpr (show GoodN Try.prog X 25 en72 su72i6 (ifAt 6 Try.f72) True = (True) by kernel_rfl) trivial)).1 (by decide) (by decide) t72i6Eq
theorem t72Eq (x : Ps ins72) : evF en72 su72 Try.f72 ins72 res72 x = t72 x := by kernel_rfl
theorem so72 : Sound Try.prog 72 sg72 :=
  sound_of (fn := Try.f72) (c := bodyOf Try.f72) (subs := su72) (E := en72) (by kernel_rfl) (by kernel_rfl) (by decide) ok72 (by kernel_rfl) (by kernel_rfl) (by decide)
    (fun X hX => (GoodN.good (K := True) (Eq.mpr (show GoodN Try.prog X 25 en72 su72 (bodyOf Try.f72) True = (SubOk Try.prog X 25 ⟨t72i3c, t72i3v, t72i3e, t72i3⟩ (ifAt 3 Try.f72) ∧ SubOk Try.prog X 25 ⟨t72i6c, t72i6v, t72i6e, t72i6⟩ (ifAt 6 Try.f72) ∧ True) by kernel_rfl) ⟨(t72i3Ok hX), (t72i6Ok hX), trivial⟩)).1)
    (fun x r h => (t72Eq x).trans h)
/-! loop.example/g00224/spec.DrawGoodRun -/
def fl49 : List (Nat × Sig) := [(72, sg72)]
def hi49 : List (Nat × (K × Mk)) := [(2, ((.sl kd51), (.o .s)))]
def en49 : Env := { n := 9, ty := assocN tyL, fns := assocN fl49, lo := 0, hint := assocN hi49 }
def su49 : Bool → Nat → Option Sub | _, _ => none
theorem ok49 : EnvOk Try.prog en49 := envOk_of rfl rfl tyL_ok (⟨so72, trivial⟩)
theorem t49Eq (x : Ps ins49) : evF en49 su49 Try.f49 ins49 res49 x = t49 x := by kernel_rfl
theorem so49 : Sound Try.prog 49 sg49 :=
  sound_of (fn := Try.f49) (c := bodyOf Try.f49) (subs := su49) (E := en49) (by kernel_rfl) (by kernel_rfl) (by decide) ok49 (by kernel_rfl) (by kernel_rfl) (by decide)
    (fun X hX => (GoodN.good (K := True) (Eq.mpr (show GoodN Try.prog X 9 en49 su49 (bodyOf Try.f49) True = (True) by kernel_rfl) trivial)).1)
    (fun x r h => (t49Eq x).trans h)
/-! loop.example/g00224/spec.DrawBlockBytes -/
def fl29 : List (Nat × Sig) := [(49, sg49)]
def hi29 : List (Nat × (K × Mk)) := [(2, ((.sl kd51), (.o .s)))]
def en29 : Env := { n := 5, ty := assocN tyL, fns := assocN fl29, lo := 0, hint := assocN hi29 }
def su29 : Bool → Nat → Option Sub | _, _ => none
theorem ok29 : EnvOk Try.prog en29 := envOk_of rfl rfl tyL_ok (⟨so49, trivial⟩)
theorem t29Eq (x : Ps ins29) : evF en29 su29 Try.f29 ins29 res29 x = t29 x := by kernel_rfl
theorem so29 : Sound Try.prog 29 sg29 :=
  sound_of (fn := Try.f29) (c := bodyOf Try.f29) (subs := su29) (E := en29) (by kernel_rfl) (by kernel_rfl) (by decide) ok29 (by kernel_rfl) (by kernel_rfl) (by decide)
    (fun X hX => (GoodN.good (K := True) (Eq.mpr (show GoodN Try.prog X 5 en29 su29 (bodyOf Try.f29) True = (True) by kernel_rfl) trivial)).1)
    (fun x r h => (t29Eq x).trans h)
/-! loop.example/g00224/impl.BlockBytes -/
def fl30 : List (Nat × Sig) := [(50, sg50), (51, sg51)]
def hi30 : List (Nat × (K × Mk)) := [(5, ((.sl (.int .i64)), (.o .s)))]
def en30 : Env := { n := 20, ty := assocN tyL, fns := assocN fl30, lo := 0, hint := assocN hi30 }
def su30 : Bool → Nat → Option Sub | _, _ => none
theorem ok30 : EnvOk Try.prog en30 := envOk_of rfl rfl tyL_ok (⟨so50, ⟨so51, trivial⟩⟩)
theorem t30Eq (x : Ps ins30) : evF en30 su30 Try.f30 ins30 res30 x = t30 x := by kernel_rfl
theorem so30 : Sound Try.prog 30 sg30 :=
  sound_of (fn := Try.f30) (c := bodyOf Try.f30) (subs := su30) (E := en30) (by kernel_rfl) (by kernel_rfl) (by decide) ok30 (by kernel_rfl) (by kernel_rfl) (by decide)
    (fun X hX => (GoodN.good (K := True) (Eq.mpr (show GoodN Try.prog X 20 en30 su30 (bodyOf Try.f30) True = (True) by kernel_rfl) trivial)).1)
    (fun x r h => (t30Eq x).trans h)
/-! loop.example/g00224/spec.BlockBytes -/
def fl31 : List (Nat × Sig) := [(52, sg52), (53, sg53)]
def en31 : Env := { n := 14, ty := assocN tyL, fns := assocN fl31, lo := 0 }
def su31 : Bool → Nat → Option Sub | _, _ => none
theorem ok31 : EnvOk Try.prog en31 := envOk_of rfl rfl tyL_ok (⟨so52, ⟨so53, trivial⟩⟩)
theorem t31Eq (x : Ps ins31) : evF en31 su31 Try.f31 ins31 res31 x = t31 x := by kernel_rfl
theorem so31 : Sound Try.prog 31 sg31 :=
  sound_of (fn := Try.f31) (c := bodyOf Try.f31) (subs := su31) (E := en31) (by kernel_rfl) (by kernel_rfl) (by decide) ok31 (by kernel_rfl) (by kernel_rfl) (by decide)
    (fun X hX => (GoodN.good (K := True) (Eq.mpr (show GoodN Try.prog X 14 en31 su31 (bodyOf Try.f31) True = (True) by kernel_rfl) trivial)).1)
    (fun x r h => (t31Eq x).trans h)
/-! loop.example/g00224/laws.sameItems -/
def fl32 : List (Nat × Sig) := []
def en32 : Env := { n := 26, ty := assocN tyL, fns := assocN fl32, lo := 0 }
def su32 : Bool → Nat → Option Sub | true, 4 => some ⟨t32l4c, t32l4v, t32l4e, loopF t32l4⟩ | _, _ => none
theorem ok32 : EnvOk Try.prog en32 := envOk_of rfl rfl tyL_ok (trivial)
theorem dr32r6 {X : Cx} (hX : en32.lo = X.lo) : RegOk Try.prog X 26 en32 6 (regAt 6 Try.f32) := regOk_of ok32 rfl hX (by kernel_rfl) (by kernel_rfl)
theorem t32l4Eq (R : Type) (c : Vars t32l4c) (v : Vars t32l4v) (kk : Vars t32l4c → (Vars t32l4v ⊕ Oc t32l4e) → Option R) : evC en32 su32 (loopAt 4 Try.f32) (Desc.mk2 t32l4v v (Desc.mk2 t32l4c c .empty)) (fun o => bodyK t32l4c t32l4v t32l4e o kk) = t32l4 R c v kk := by kernel_rfl
theorem t32l4Ok {X : Cx} (hX : en32.lo = X.lo) : SubOk Try.prog X 26 ⟨t32l4c, t32l4v, t32l4e, loopF t32l4⟩ (.loop (loopAt 4 Try.f32)) :=
  sub_loop (subs := su32) ok32 rfl hX (GoodN.good (K := True) (Eq.mpr (show GoodN Try.prog X 26 en32 su32 (loopAt 4 Try.f32) True = (RegOk Try.prog X 26 en32 6 (regAt 6 Try.f32) ∧ True) by kernel_rfl) ⟨(dr32r6 hX), trivial⟩)).1 (by decide) (by decide) t32l4Eq
theorem t32Eq (x : Ps ins32) : evF en32 su32 Try.f32 ins32 res32 x = t32 x := by kernel_rfl
theorem so32 : Sound Try.prog 32 sg32 :=
  sound_of (fn := Try.f32) (c := bodyOf Try.f32) (subs := su32) (E := en32) (by kernel_rfl) (by kernel_rfl) (by decide) ok32 (by kernel_rfl) (by kernel_rfl) (by decide)
    (fun X hX => (GoodN.good (K := True) (Eq.mpr (show GoodN Try.prog X 26 en32 su32 (bodyOf Try.f32) True = (SubOk Try.prog X 26 ⟨t32l4c, t32l4v, t32l4e, loopF t32l4⟩ (.loop (loopAt 4 Try.f32)) ∧ True) by kernel_rfl) ⟨(t32l4Ok hX), trivial⟩)).1)
    (fun x r h => (t32Eq x).trans h)
/-! loop.example/g00224/laws.FnBlocks -/
def fl8 : List (Nat × Sig) := [(29, sg29), (30, sg30), (31, sg31), (25, sg25), (20, sg20), (18, sg18), (32, sg32)]
def hi8 : List (Nat × (K × Mk)) := [(3, ((.sl kd51), (.o .s))), (8, ((.sl kd51), (.o .s))), (10, ((.sl (.int .i64)), (.o .s)))]
def en8 : Env := { n := 117, ty := assocN tyL, fns := assocN fl8, lo := 0, hint := assocN hi8 }
def su8 : Bool → Nat → Option Sub | true, 16 => some ⟨t8l16c, t8l16v, t8l16e, loopF t8l16⟩ | _, _ => none
theorem ok8 : EnvOk Try.prog en8 := envOk_of rfl rfl tyL_ok (⟨so29, ⟨so30, ⟨so31, ⟨so25, ⟨so20, ⟨so18, ⟨so32, trivial⟩⟩⟩⟩⟩⟩⟩)
theorem dr8r18 {X : Cx} (hX : en8.lo = X.lo) : RegOk Try.prog X 117 en8 18 (regAt 18 Try.f8) := regOk_of ok8 rfl hX (by kernel_rfl) (by kernel_rfl)
theorem t8l16Eq (R : Type) (c : Vars t8l16c) (v : Vars t8l16v) (kk : Vars t8l16c → (Vars t8l16v ⊕ Oc t8l16e) → Option R) : evC en8 su8 (loopAt 16 Try.f8) (Desc.mk2 t8l16v v (Desc.mk2 t8l16c c .empty)) (fun o => bodyK t8l16c t8l16v t8l16e o kk) = t8l16 R c v kk := by kernel_rfl
theorem t8l16Ok {X : Cx} (hX : en8.lo = X.lo) : SubOk Try.prog X 117 ⟨t8l16c, t8l16v, t8l16e, loopF t8l16⟩ (.loop (loopAt 16 Try.f8)) :=
  sub_loop (subs := su8) ok8 rfl hX (GoodN.good (K := True) (Eq.mpr (show GoodN Try.prog X 117 en8 su8 (loopAt 16 Try.f8) True = (RegOk Try.prog X 117 en8 18 (regAt 18 Try.f8) ∧ True) by kernel_rfl) ⟨(dr8r18 hX), trivial⟩)).1 (by decide) (by decide) t8l16Eq
theorem t8Eq (x : Ps ins8) : evF en8 su8 Try.f8 ins8 res8 x = t8 x := by kernel_rfl
theorem so8 : Sound Try.prog 8 sg8 :=
  sound_of (fn := Try.f8) (c := bodyOf Try.f8) (subs := su8) (E := en8) (by kernel_rfl) (by kernel_rfl) (by decide) ok8 (by kernel_rfl) (by kernel_rfl) (by decide)
    (fun X hX => (GoodN.good (K := True) (Eq.mpr (show GoodN Try.prog X 117 en8 su8 (bodyOf Try.f8) True = (SubOk Try.prog X 117 ⟨t8l16c, t8l16v, t8l16e, loopF t8l16⟩ (.loop (loopAt 16 Try.f8)) ∧ True) by kernel_rfl) ⟨(t8l16Ok hX), trivial⟩)).1)
    (fun x r h => (t8Eq x).trans h)
end Go.Proofs.Ytpegmiofhfmepaa
