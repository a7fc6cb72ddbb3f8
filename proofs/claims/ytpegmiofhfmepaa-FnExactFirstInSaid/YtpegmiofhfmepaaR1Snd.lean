/- The typed functions are what the program's code says. (Printed by a program of mine, wip/tools/gen.py.) -/
import Derived.Test.YtpegmiofhfmepaaProg
import Derived.Test.YtpegmiofhfmepaaR1Fns
set_option linter.all false
set_option maxRecDepth 100000
noncomputable section
namespace Go.Proofs.Ytpegmiofhfmepaa
open Go Go.Proofs.Ytpegmiofhfmepaa.Ev
theorem ty3 : TyOk Try.prog 3 (.int .i64) := ⟨⟨by kernel_rfl, by kernel_rfl⟩, by kernel_rfl⟩
theorem ty4 : TyOk Try.prog 4 .bool := ⟨⟨by kernel_rfl, by kernel_rfl⟩, by kernel_rfl⟩
theorem ty5 : TyOk Try.prog 5 (.int .u8) := ⟨⟨by kernel_rfl, by kernel_rfl⟩, by kernel_rfl⟩
theorem ty9 : TyOk Try.prog 9 .str := ⟨⟨by kernel_rfl, by kernel_rfl⟩, by kernel_rfl⟩
theorem ty23 : TyOk Try.prog 23 kd23 := ty_struct (f := (⟨ "Session", 3, 0, false, "", "", 0⟩ : Field)) (l := [(⟨ "N", 3, 1, false, "", "", 8⟩ : Field), (⟨ "Op", 3, 2, false, "", "", 16⟩ : Field), (⟨ "Key", 9, 3, false, "", "", 24⟩ : Field), (⟨ "Value", 9, 4, false, "", "", 40⟩ : Field), (⟨ "Old", 9, 5, false, "", "", 56⟩ : Field)]) ⟨by kernel_rfl, by kernel_rfl⟩ (by kernel_rfl) (by kernel_rfl) ⟨rfl, by decide, ty3, ⟨rfl, by decide, ty3, ⟨rfl, by decide, ty3, ⟨rfl, by decide, ty9, ⟨rfl, by decide, ty9, ⟨rfl, by decide, ty9, rfl⟩⟩⟩⟩⟩⟩
theorem ty28 : TyOk Try.prog 28 (.sl (.int .i64)) := ty_sl ⟨by kernel_rfl, by kernel_rfl⟩ (by kernel_rfl) ty3
theorem ty51 : TyOk Try.prog 51 kd51 := ty_struct (f := (⟨ "Key", 9, 0, false, "", "", 0⟩ : Field)) (l := [(⟨ "Seq", 3, 1, false, "", "", 16⟩ : Field), (⟨ "Kind", 3, 2, false, "", "", 24⟩ : Field), (⟨ "Value", 9, 3, false, "", "", 32⟩ : Field)]) ⟨by kernel_rfl, by kernel_rfl⟩ (by kernel_rfl) (by kernel_rfl) ⟨rfl, by decide, ty9, ⟨rfl, by decide, ty3, ⟨rfl, by decide, ty3, ⟨rfl, by decide, ty9, rfl⟩⟩⟩⟩
theorem ty42 : TyOk Try.prog 42 (.sl kd51) := ty_sl ⟨by kernel_rfl, by kernel_rfl⟩ (by kernel_rfl) ty51
theorem ty47 : TyOk Try.prog 47 (.sl (.int .u8)) := ty_sl ⟨by kernel_rfl, by kernel_rfl⟩ (by kernel_rfl) ty5
theorem ty55 : TyOk Try.prog 55 kd55 := ty_struct (f := (⟨ "left", 9, 0, false, "", "loop.example/g00224/impl", 0⟩ : Field)) (l := [(⟨ "bad", 4, 1, false, "", "loop.example/g00224/impl", 16⟩ : Field)]) ⟨by kernel_rfl, by kernel_rfl⟩ (by kernel_rfl) (by kernel_rfl) ⟨rfl, by decide, ty9, ⟨rfl, by decide, ty4, rfl⟩⟩
theorem ty77 : TyOk Try.prog 77 kd55 := ty_struct (f := (⟨ "s", 9, 0, false, "", "loop.example/g00224/spec", 0⟩ : Field)) (l := [(⟨ "bad", 4, 1, false, "", "loop.example/g00224/spec", 16⟩ : Field)]) ⟨by kernel_rfl, by kernel_rfl⟩ (by kernel_rfl) (by kernel_rfl) ⟨rfl, by decide, ty9, ⟨rfl, by decide, ty4, rfl⟩⟩
theorem ty89 : TyOk Try.prog 89 (.int .u32) := ⟨⟨by kernel_rfl, by kernel_rfl⟩, by kernel_rfl⟩
theorem ty91 : TyOk Try.prog 91 (.int .u64) := ⟨⟨by kernel_rfl, by kernel_rfl⟩, by kernel_rfl⟩
theorem ty105 : TyOk Try.prog 105 (.sl (.int .u32)) := ty_sl ⟨by kernel_rfl, by kernel_rfl⟩ (by kernel_rfl) ty89
def tyL : List (Nat × K) := [(3, (.int .i64)), (4, .bool), (5, (.int .u8)), (9, .str), (23, kd23), (28, (.sl (.int .i64))), (51, kd51), (42, (.sl kd51)), (47, (.sl (.int .u8))), (55, kd55), (77, kd55), (89, (.int .u32)), (91, (.int .u64)), (105, (.sl (.int .u32)))]
theorem tyL_ok : AllTy Try.prog tyL := ⟨ty3, ⟨ty4, ⟨ty5, ⟨ty9, ⟨ty23, ⟨ty28, ⟨ty51, ⟨ty42, ⟨ty47, ⟨ty55, ⟨ty77, ⟨ty89, ⟨ty91, ⟨ty105, trivial⟩⟩⟩⟩⟩⟩⟩⟩⟩⟩⟩⟩⟩⟩
/-! loop.example/g00224/spec.l2Take -/
def fl84 : List (Nat × Sig) := []
def en84 : Env := { n := 42, ty := assocN tyL, fns := assocN fl84, lo := 0 }
def su84 : Bool → Nat → Option Sub | true, 3 => some ⟨t84l3c, t84l3v, t84l3e, loopF t84l3⟩ | _, _ => none
theorem ok84 : EnvOk Try.prog en84 := envOk_of rfl rfl tyL_ok (trivial)
theorem t84l3Eq (R : Type) (c : Vars t84l3c) (v : Vars t84l3v) (kk : Vars t84l3c → (Vars t84l3v ⊕ Oc t84l3e) → Option R) : evC en84 su84 (loopAt 3 Try.f84) (Desc.mk2 t84l3v v (Desc.mk2 t84l3c c .empty)) (fun o => bodyK t84l3c t84l3v t84l3e o kk) = t84l3 R c v kk := by kernel_rfl
theorem t84l3Ok {X : Cx} (hX : en84.lo = X.lo) : SubOk Try.prog X 42 ⟨t84l3c, t84l3v, t84l3e, loopF t84l3⟩ (.loop (loopAt 3 Try.f84)) :=
  sub_loop (subs := su84) ok84 rfl hX (GoodN.good (K := True) (Eq.mpr (show GoodN Try.prog X 42 en84 su84 (loopAt 3 Try.f84) True = (True) by kernel_rfl) trivial)).1 (by decide) (by decide) t84l3Eq
theorem t84Eq (x : Ps ins84) : evF en84 su84 Try.f84 ins84 res84 x = t84 x := by kernel_rfl
theorem so84 : Sound Try.prog 84 sg84 :=
  sound_of (fn := Try.f84) (c := bodyOf Try.f84) (subs := su84) (E := en84) (by kernel_rfl) (by kernel_rfl) (by decide) ok84 (by kernel_rfl) (by kernel_rfl) (by decide)
    (fun X hX => (GoodN.good (K := True) (Eq.mpr (show GoodN Try.prog X 42 en84 su84 (bodyOf Try.f84) True = (SubOk Try.prog X 42 ⟨t84l3c, t84l3v, t84l3e, loopF t84l3⟩ (.loop (loopAt 3 Try.f84)) ∧ True) by kernel_rfl) ⟨(t84l3Ok hX), trivial⟩)).1)
    (fun x r h => (t84Eq x).trans h)
/-! (*loop.example/g00224/spec.l9R).num -/
def fl54 : List (Nat × Sig) := [(84, sg84)]
def en54 : Env := { n := 34, ty := assocN tyL, fns := assocN fl54, lo := 1 }
def su54 : Bool → Nat → Option Sub | _, _ => none
theorem ok54 : EnvOk Try.prog en54 := envOk_of rfl rfl tyL_ok (⟨so84, trivial⟩)
theorem t54Eq (x : Ps ins54) : evF en54 su54 Try.f54 ins54 res54 x = t54 x := by kernel_rfl
theorem so54 : Sound Try.prog 54 sg54 :=
  sound_of (fn := Try.f54) (c := bodyOf Try.f54) (subs := su54) (E := en54) (by kernel_rfl) (by kernel_rfl) (by decide) ok54 (by kernel_rfl) (by kernel_rfl) (by decide)
    (fun X hX => (GoodN.good (K := True) (Eq.mpr (show GoodN Try.prog X 34 en54 su54 (bodyOf Try.f54) True = (True) by kernel_rfl) trivial)).1)
    (fun x r h => (t54Eq x).trans h)
/-! (*loop.example/g00224/spec.l9R).text -/
def fl55 : List (Nat × Sig) := [(54, sg54)]
def en55 : Env := { n := 33, ty := assocN tyL, fns := assocN fl55, lo := 1 }
def su55 : Bool → Nat → Option Sub | _, _ => none
theorem ok55 : EnvOk Try.prog en55 := envOk_of rfl rfl tyL_ok (⟨so54, trivial⟩)
theorem t55Eq (x : Ps ins55) : evF en55 su55 Try.f55 ins55 res55 x = t55 x := by kernel_rfl
theorem so55 : Sound Try.prog 55 sg55 :=
  sound_of (fn := Try.f55) (c := bodyOf Try.f55) (subs := su55) (E := en55) (by kernel_rfl) (by kernel_rfl) (by decide) ok55 (by kernel_rfl) (by kernel_rfl) (by decide)
    (fun X hX => (GoodN.good (K := True) (Eq.mpr (show GoodN Try.prog X 33 en55 su55 (bodyOf Try.f55) True = (True) by kernel_rfl) trivial)).1)
    (fun x r h => (t55Eq x).trans h)
/-! loop.example/g00224/spec.l1In -/
def fl85 : List (Nat × Sig) := []
def en85 : Env := { n := 15, ty := assocN tyL, fns := assocN fl85, lo := 0 }
def su85 : Bool → Nat → Option Sub | _, _ => none
theorem ok85 : EnvOk Try.prog en85 := envOk_of rfl rfl tyL_ok (trivial)
theorem t85Eq (x : Ps ins85) : evF en85 su85 Try.f85 ins85 res85 x = t85 x := by kernel_rfl
theorem so85 : Sound Try.prog 85 sg85 :=
  sound_of (fn := Try.f85) (c := bodyOf Try.f85) (subs := su85) (E := en85) (by kernel_rfl) (by kernel_rfl) (by decide) ok85 (by kernel_rfl) (by kernel_rfl) (by decide)
    (fun X hX => (GoodN.good (K := True) (Eq.mpr (show GoodN Try.prog X 15 en85 su85 (bodyOf Try.f85) True = (True) by kernel_rfl) trivial)).1)
    (fun x r h => (t85Eq x).trans h)
/-! loop.example/g00224/spec.l4Key -/
def fl86 : List (Nat × Sig) := [(85, sg85)]
def en86 : Env := { n := 6, ty := assocN tyL, fns := assocN fl86, lo := 0 }
def su86 : Bool → Nat → Option Sub | _, _ => none
theorem ok86 : EnvOk Try.prog en86 := envOk_of rfl rfl tyL_ok (⟨so85, trivial⟩)
theorem t86Eq (x : Ps ins86) : evF en86 su86 Try.f86 ins86 res86 x = t86 x := by kernel_rfl
theorem so86 : Sound Try.prog 86 sg86 :=
  sound_of (fn := Try.f86) (c := bodyOf Try.f86) (subs := su86) (E := en86) (by kernel_rfl) (by kernel_rfl) (by decide) ok86 (by kernel_rfl) (by kernel_rfl) (by decide)
    (fun X hX => (GoodN.good (K := True) (Eq.mpr (show GoodN Try.prog X 6 en86 su86 (bodyOf Try.f86) True = (True) by kernel_rfl) trivial)).1)
    (fun x r h => (t86Eq x).trans h)
/-! loop.example/g00224/spec.GoodCommand -/
def fl56 : List (Nat × Sig) := [(85, sg85), (86, sg86)]
def en56 : Env := { n := 60, ty := assocN tyL, fns := assocN fl56, lo := 0 }
def su56 : Bool → Nat → Option Sub | _, _ => none
theorem ok56 : EnvOk Try.prog en56 := envOk_of rfl rfl tyL_ok (⟨so85, ⟨so86, trivial⟩⟩)
theorem t56Eq (x : Ps ins56) : evF en56 su56 Try.f56 ins56 res56 x = t56 x := by kernel_rfl
theorem so56 : Sound Try.prog 56 sg56 :=
  sound_of (fn := Try.f56) (c := bodyOf Try.f56) (subs := su56) (E := en56) (by kernel_rfl) (by kernel_rfl) (by decide) ok56 (by kernel_rfl) (by kernel_rfl) (by decide)
    (fun X hX => (GoodN.good (K := True) (Eq.mpr (show GoodN Try.prog X 60 en56 su56 (bodyOf Try.f56) True = (True) by kernel_rfl) trivial)).1)
    (fun x r h => (t56Eq x).trans h)
/-! loop.example/g00224/spec.l14Read -/
def fl33 : List (Nat × Sig) := [(54, sg54), (55, sg55), (56, sg56)]
def en33 : Env := { n := 69, ty := assocN tyL, fns := assocN fl33, lo := 0 }
def su33 : Bool → Nat → Option Sub | _, _ => none
theorem ok33 : EnvOk Try.prog en33 := envOk_of rfl rfl tyL_ok (⟨so54, ⟨so55, ⟨so56, trivial⟩⟩⟩)
theorem t33Eq (x : Ps ins33) : evF en33 su33 Try.f33 ins33 res33 x = t33 x := by kernel_rfl
theorem so33 : Sound Try.prog 33 sg33 :=
  sound_of (fn := Try.f33) (c := bodyOf Try.f33) (subs := su33) (E := en33) (by kernel_rfl) (by kernel_rfl) (by decide) ok33 (by kernel_rfl) (by kernel_rfl) (by decide)
    (fun X hX => (GoodN.good (K := True) (Eq.mpr (show GoodN Try.prog X 69 en33 su33 (bodyOf Try.f33) True = (True) by kernel_rfl) trivial)).1)
    (fun x r h => (t33Eq x).trans h)
/-! loop.example/g00224/spec.ReadCommand -/
def fl9 : List (Nat × Sig) := [(33, sg33)]
def en9 : Env := { n := 8, ty := assocN tyL, fns := assocN fl9, lo := 0 }
def su9 : Bool → Nat → Option Sub | _, _ => none
theorem ok9 : EnvOk Try.prog en9 := envOk_of rfl rfl tyL_ok (⟨so33, trivial⟩)
theorem t9Eq (x : Ps ins9) : evF en9 su9 Try.f9 ins9 res9 x = t9 x := by kernel_rfl
theorem so9 : Sound Try.prog 9 sg9 :=
  sound_of (fn := Try.f9) (c := bodyOf Try.f9) (subs := su9) (E := en9) (by kernel_rfl) (by kernel_rfl) (by decide) ok9 (by kernel_rfl) (by kernel_rfl) (by decide)
    (fun X hX => (GoodN.good (K := True) (Eq.mpr (show GoodN Try.prog X 8 en9 su9 (bodyOf Try.f9) True = (True) by kernel_rfl) trivial)).1)
    (fun x r h => (t9Eq x).trans h)
/-! loop.example/g00224/impl.TakeVar -/
def fl57 : List (Nat × Sig) := []
def en57 : Env := { n := 36, ty := assocN tyL, fns := assocN fl57, lo := 0 }
def su57 : Bool → Nat → Option Sub | true, 3 => some ⟨t57l3c, t57l3v, t57l3e, loopF t57l3⟩ | _, _ => none
theorem ok57 : EnvOk Try.prog en57 := envOk_of rfl rfl tyL_ok (trivial)
theorem t57l3Eq (R : Type) (c : Vars t57l3c) (v : Vars t57l3v) (kk : Vars t57l3c → (Vars t57l3v ⊕ Oc t57l3e) → Option R) : evC en57 su57 (loopAt 3 Try.f57) (Desc.mk2 t57l3v v (Desc.mk2 t57l3c c .empty)) (fun o => bodyK t57l3c t57l3v t57l3e o kk) = t57l3 R c v kk := by kernel_rfl
theorem t57l3Ok {X : Cx} (hX : en57.lo = X.lo) : SubOk Try.prog X 36 ⟨t57l3c, t57l3v, t57l3e, loopF t57l3⟩ (.loop (loopAt 3 Try.f57)) :=
  sub_loop (subs := su57) ok57 rfl hX (GoodN.good (K := True) (Eq.mpr (show GoodN Try.prog X 36 en57 su57 (loopAt 3 Try.f57) True = (True) by kernel_rfl) trivial)).1 (by decide) (by decide) t57l3Eq
theorem t57Eq (x : Ps ins57) : evF en57 su57 Try.f57 ins57 res57 x = t57 x := by kernel_rfl
theorem so57 : Sound Try.prog 57 sg57 :=
  sound_of (fn := Try.f57) (c := bodyOf Try.f57) (subs := su57) (E := en57) (by kernel_rfl) (by kernel_rfl) (by decide) ok57 (by kernel_rfl) (by kernel_rfl) (by decide)
    (fun X hX => (GoodN.good (K := True) (Eq.mpr (show GoodN Try.prog X 36 en57 su57 (bodyOf Try.f57) True = (SubOk Try.prog X 36 ⟨t57l3c, t57l3v, t57l3e, loopF t57l3⟩ (.loop (loopAt 3 Try.f57)) ∧ True) by kernel_rfl) ⟨(t57l3Ok hX), trivial⟩)).1)
    (fun x r h => (t57Eq x).trans h)
/-! (*loop.example/g00224/impl.taker).number -/
def fl34 : List (Nat × Sig) := [(57, sg57)]
def en34 : Env := { n := 38, ty := assocN tyL, fns := assocN fl34, lo := 1 }
def su34 : Bool → Nat → Option Sub | _, _ => none
theorem ok34 : EnvOk Try.prog en34 := envOk_of rfl rfl tyL_ok (⟨so57, trivial⟩)
theorem t34Eq (x : Ps ins34) : evF en34 su34 Try.f34 ins34 res34 x = t34 x := by kernel_rfl
theorem so34 : Sound Try.prog 34 sg34 :=
  sound_of (fn := Try.f34) (c := bodyOf Try.f34) (subs := su34) (E := en34) (by kernel_rfl) (by kernel_rfl) (by decide) ok34 (by kernel_rfl) (by kernel_rfl) (by decide)
    (fun X hX => (GoodN.good (K := True) (Eq.mpr (show GoodN Try.prog X 38 en34 su34 (bodyOf Try.f34) True = (True) by kernel_rfl) trivial)).1)
    (fun x r h => (t34Eq x).trans h)
/-! (*loop.example/g00224/impl.taker).text -/
def fl35 : List (Nat × Sig) := []
def en35 : Env := { n := 42, ty := assocN tyL, fns := assocN fl35, lo := 1 }
def su35 : Bool → Nat → Option Sub | _, _ => none
theorem ok35 : EnvOk Try.prog en35 := envOk_of rfl rfl tyL_ok (trivial)
theorem t35Eq (x : Ps ins35) : evF en35 su35 Try.f35 ins35 res35 x = t35 x := by kernel_rfl
theorem so35 : Sound Try.prog 35 sg35 :=
  sound_of (fn := Try.f35) (c := bodyOf Try.f35) (subs := su35) (E := en35) (by kernel_rfl) (by kernel_rfl) (by decide) ok35 (by kernel_rfl) (by kernel_rfl) (by decide)
    (fun X hX => (GoodN.good (K := True) (Eq.mpr (show GoodN Try.prog X 42 en35 su35 (bodyOf Try.f35) True = (True) by kernel_rfl) trivial)).1)
    (fun x r h => (t35Eq x).trans h)
/-! (*loop.example/g00224/impl.taker).sized -/
def fl36 : List (Nat × Sig) := [(34, sg34), (35, sg35)]
def en36 : Env := { n := 7, ty := assocN tyL, fns := assocN fl36, lo := 1 }
def su36 : Bool → Nat → Option Sub | _, _ => none
theorem ok36 : EnvOk Try.prog en36 := envOk_of rfl rfl tyL_ok (⟨so34, ⟨so35, trivial⟩⟩)
theorem t36Eq (x : Ps ins36) : evF en36 su36 Try.f36 ins36 res36 x = t36 x := by kernel_rfl
theorem so36 : Sound Try.prog 36 sg36 :=
  sound_of (fn := Try.f36) (c := bodyOf Try.f36) (subs := su36) (E := en36) (by kernel_rfl) (by kernel_rfl) (by decide) ok36 (by kernel_rfl) (by kernel_rfl) (by decide)
    (fun X hX => (GoodN.good (K := True) (Eq.mpr (show GoodN Try.prog X 7 en36 su36 (bodyOf Try.f36) True = (True) by kernel_rfl) trivial)).1)
    (fun x r h => (t36Eq x).trans h)
/-! (*loop.example/g00224/impl.taker).whole -/
def fl37 : List (Nat × Sig) := []
def en37 : Env := { n := 15, ty := assocN tyL, fns := assocN fl37, lo := 1 }
def su37 : Bool → Nat → Option Sub | _, _ => none
theorem ok37 : EnvOk Try.prog en37 := envOk_of rfl rfl tyL_ok (trivial)
theorem t37Eq (x : Ps ins37) : evF en37 su37 Try.f37 ins37 res37 x = t37 x := by kernel_rfl
theorem so37 : Sound Try.prog 37 sg37 :=
  sound_of (fn := Try.f37) (c := bodyOf Try.f37) (subs := su37) (E := en37) (by kernel_rfl) (by kernel_rfl) (by decide) ok37 (by kernel_rfl) (by kernel_rfl) (by decide)
    (fun X hX => (GoodN.good (K := True) (Eq.mpr (show GoodN Try.prog X 15 en37 su37 (bodyOf Try.f37) True = (True) by kernel_rfl) trivial)).1)
    (fun x r h => (t37Eq x).trans h)
/-! loop.example/g00224/impl.in -/
def fl58 : List (Nat × Sig) := []
def en58 : Env := { n := 15, ty := assocN tyL, fns := assocN fl58, lo := 0 }
def su58 : Bool → Nat → Option Sub | _, _ => none
theorem ok58 : EnvOk Try.prog en58 := envOk_of rfl rfl tyL_ok (trivial)
theorem t58Eq (x : Ps ins58) : evF en58 su58 Try.f58 ins58 res58 x = t58 x := by kernel_rfl
theorem so58 : Sound Try.prog 58 sg58 :=
  sound_of (fn := Try.f58) (c := bodyOf Try.f58) (subs := su58) (E := en58) (by kernel_rfl) (by kernel_rfl) (by decide) ok58 (by kernel_rfl) (by kernel_rfl) (by decide)
    (fun X hX => (GoodN.good (K := True) (Eq.mpr (show GoodN Try.prog X 15 en58 su58 (bodyOf Try.f58) True = (True) by kernel_rfl) trivial)).1)
    (fun x r h => (t58Eq x).trans h)
/-! loop.example/g00224/impl.isKey -/
def fl59 : List (Nat × Sig) := [(58, sg58)]
def en59 : Env := { n := 6, ty := assocN tyL, fns := assocN fl59, lo := 0 }
def su59 : Bool → Nat → Option Sub | _, _ => none
theorem ok59 : EnvOk Try.prog en59 := envOk_of rfl rfl tyL_ok (⟨so58, trivial⟩)
theorem t59Eq (x : Ps ins59) : evF en59 su59 Try.f59 ins59 res59 x = t59 x := by kernel_rfl
theorem so59 : Sound Try.prog 59 sg59 :=
  sound_of (fn := Try.f59) (c := bodyOf Try.f59) (subs := su59) (E := en59) (by kernel_rfl) (by kernel_rfl) (by decide) ok59 (by kernel_rfl) (by kernel_rfl) (by decide)
    (fun X hX => (GoodN.good (K := True) (Eq.mpr (show GoodN Try.prog X 6 en59 su59 (bodyOf Try.f59) True = (True) by kernel_rfl) trivial)).1)
    (fun x r h => (t59Eq x).trans h)
/-! loop.example/g00224/impl.isValue -/
def fl60 : List (Nat × Sig) := []
def en60 : Env := { n := 6, ty := assocN tyL, fns := assocN fl60, lo := 0 }
def su60 : Bool → Nat → Option Sub | _, _ => none
theorem ok60 : EnvOk Try.prog en60 := envOk_of rfl rfl tyL_ok (trivial)
theorem t60Eq (x : Ps ins60) : evF en60 su60 Try.f60 ins60 res60 x = t60 x := by kernel_rfl
theorem so60 : Sound Try.prog 60 sg60 :=
  sound_of (fn := Try.f60) (c := bodyOf Try.f60) (subs := su60) (E := en60) (by kernel_rfl) (by kernel_rfl) (by decide) ok60 (by kernel_rfl) (by kernel_rfl) (by decide)
    (fun X hX => (GoodN.good (K := True) (Eq.mpr (show GoodN Try.prog X 6 en60 su60 (bodyOf Try.f60) True = (True) by kernel_rfl) trivial)).1)
    (fun x r h => (t60Eq x).trans h)
/-! loop.example/g00224/impl.GoodCommand -/
def fl38 : List (Nat × Sig) := [(58, sg58), (59, sg59), (60, sg60)]
def en38 : Env := { n := 60, ty := assocN tyL, fns := assocN fl38, lo := 0 }
def su38 : Bool → Nat → Option Sub | _, _ => none
theorem ok38 : EnvOk Try.prog en38 := envOk_of rfl rfl tyL_ok (⟨so58, ⟨so59, ⟨so60, trivial⟩⟩⟩)
theorem t38Eq (x : Ps ins38) : evF en38 su38 Try.f38 ins38 res38 x = t38 x := by kernel_rfl
theorem so38 : Sound Try.prog 38 sg38 :=
  sound_of (fn := Try.f38) (c := bodyOf Try.f38) (subs := su38) (E := en38) (by kernel_rfl) (by kernel_rfl) (by decide) ok38 (by kernel_rfl) (by kernel_rfl) (by decide)
    (fun X hX => (GoodN.good (K := True) (Eq.mpr (show GoodN Try.prog X 60 en38 su38 (bodyOf Try.f38) True = (True) by kernel_rfl) trivial)).1)
    (fun x r h => (t38Eq x).trans h)
/-! loop.example/g00224/impl.ReadCommand -/
def fl10 : List (Nat × Sig) := [(34, sg34), (35, sg35), (36, sg36), (37, sg37), (38, sg38)]
def en10 : Env := { n := 44, ty := assocN tyL, fns := assocN fl10, lo := 0 }
def su10 : Bool → Nat → Option Sub | false, 6 => some ⟨t10i6c, t10i6v, t10i6e, t10i6⟩ | _, _ => none
theorem ok10 : EnvOk Try.prog en10 := envOk_of rfl rfl tyL_ok (⟨so34, ⟨so35, ⟨so36, ⟨so37, ⟨so38, trivial⟩⟩⟩⟩⟩)
def su10i6 : Bool → Nat → Option Sub | _, _ => none
theorem t10i6Eq (R : Type) (c : Vars t10i6c) (v : Vars t10i6v) (kk : Vars t10i6c → Oc t10i6e → Option R) : evC en10 su10i6 (ifAt 6 Try.f10) (Desc.mk2 t10i6v v (Desc.mk2 t10i6c c .empty)) (fun o => chk t10i6c t10i6e o kk) = t10i6 R c v kk := by kernel_rfl
theorem t10i6Ok {X : Cx} (hX : en10.lo = X.lo) : SubOk Try.prog X 44 ⟨t10i6c, t10i6v, t10i6e, t10i6⟩ (ifAt 6 Try.f10) :=
  sub_if (u := ⟨t10i6c, t10i6v, t10i6e, t10i6⟩) (subs := su10i6) ok10 rfl hX (GoodN.good (K := True) (Eq.mpr (show GoodN Try.prog X 44 en10 su10i6 (ifAt 6 Try.f10) True = (True) by kernel_rfl) trivial)).1 (by decide) (by decide) t10i6Eq
theorem t10Eq (x : Ps ins10) : evF en10 su10 Try.f10 ins10 res10 x = t10 x := by kernel_rfl
theorem so10 : Sound Try.prog 10 sg10 :=
  sound_of (fn := Try.f10) (c := bodyOf Try.f10) (subs := su10) (E := en10) (by kernel_rfl) (by kernel_rfl) (by decide) ok10 (by kernel_rfl) (by kernel_rfl) (by decide)
    (fun X hX => (GoodN.good (K := True) (Eq.mpr (show GoodN Try.prog X 44 en10 su10 (bodyOf Try.f10) True = (SubOk Try.prog X 44 ⟨t10i6c, t10i6v, t10i6e, t10i6⟩ (ifAt 6 Try.f10) ∧ True) by kernel_rfl) ⟨(t10i6Ok hX), trivial⟩)).1)
    (fun x r h => (t10Eq x).trans h)
/-! loop.example/g00224/laws.eqCommand -/
def fl11 : List (Nat × Sig) := []
def en11 : Env := { n := 35, ty := assocN tyL, fns := assocN fl11, lo := 0 }
def su11 : Bool → Nat → Option Sub | _, _ => none
theorem ok11 : EnvOk Try.prog en11 := envOk_of rfl rfl tyL_ok (trivial)
theorem t11Eq (x : Ps ins11) : evF en11 su11 Try.f11 ins11 res11 x = t11 x := by kernel_rfl
theorem so11 : Sound Try.prog 11 sg11 :=
  sound_of (fn := Try.f11) (c := bodyOf Try.f11) (subs := su11) (E := en11) (by kernel_rfl) (by kernel_rfl) (by decide) ok11 (by kernel_rfl) (by kernel_rfl) (by decide)
    (fun X hX => (GoodN.good (K := True) (Eq.mpr (show GoodN Try.prog X 35 en11 su11 (bodyOf Try.f11) True = (True) by kernel_rfl) trivial)).1)
    (fun x r h => (t11Eq x).trans h)
/-! loop.example/g00224/laws.FnExactReadCommand -/
def fl3 : List (Nat × Sig) := [(9, sg9), (10, sg10), (11, sg11)]
def en3 : Env := { n := 29, ty := assocN tyL, fns := assocN fl3, lo := 0 }
def su3 : Bool → Nat → Option Sub | _, _ => none
theorem ok3 : EnvOk Try.prog en3 := envOk_of rfl rfl tyL_ok (⟨so9, ⟨so10, ⟨so11, trivial⟩⟩⟩)
theorem t3Eq (x : Ps ins3) : evF en3 su3 Try.f3 ins3 res3 x = t3 x := by kernel_rfl
theorem so3 : Sound Try.prog 3 sg3 :=
  sound_of (fn := Try.f3) (c := bodyOf Try.f3) (subs := su3) (E := en3) (by kernel_rfl) (by kernel_rfl) (by decide) ok3 (by kernel_rfl) (by kernel_rfl) (by decide)
    (fun X hX => (GoodN.good (K := True) (Eq.mpr (show GoodN Try.prog X 29 en3 su3 (bodyOf Try.f3) True = (True) by kernel_rfl) trivial)).1)
    (fun x r h => (t3Eq x).trans h)
/-! loop.example/g00224/spec.l2Table -/
def fl92 : List (Nat × Sig) := []
def hi92 : List (Nat × (K × Mk)) := [(0, ((.sl (.int .u32)), (.o .s))), (1, ((.sl (.int .u32)), (.o .s)))]
def en92 : Env := { n := 32, ty := assocN tyL, fns := assocN fl92, lo := 0, hint := assocN hi92 }
def su92 : Bool → Nat → Option Sub | false, 12 => some ⟨t92i12c, t92i12v, t92i12e, t92i12⟩ | true, 7 => some ⟨t92l7c, t92l7v, t92l7e, loopF t92l7⟩ | true, 3 => some ⟨t92l3c, t92l3v, t92l3e, loopF t92l3⟩ | _, _ => none
theorem ok92 : EnvOk Try.prog en92 := envOk_of rfl rfl tyL_ok (trivial)
def su92i12 : Bool → Nat → Option Sub | true, 7 => some ⟨t92l7c, t92l7v, t92l7e, loopF t92l7⟩ | true, 3 => some ⟨t92l3c, t92l3v, t92l3e, loopF t92l3⟩ | _, _ => none
theorem t92i12Eq (R : Type) (c : Vars t92i12c) (v : Vars t92i12v) (kk : Vars t92i12c → Oc t92i12e → Option R) : evC en92 su92i12 (ifAt 12 Try.f92) (Desc.mk2 t92i12v v (Desc.mk2 t92i12c c .empty)) (fun o => chk t92i12c t92i12e o kk) = t92i12 R c v kk := by kernel_rfl
theorem t92i12Ok {X : Cx} (hX : en92.lo = X.lo) : SubOk Try.prog X 32 ⟨t92i12c, t92i12v, t92i12e, t92i12⟩ (ifAt 12 Try.f92) :=
  sub_if (u := ⟨t92i12c, t92i12v, t92i12e, t92i12⟩) (subs := su92i12) ok92 rfl hX (GoodN.good (K := True) (Eq.mpr (show GoodN Try.prog X 32 en92 su92i12 (ifAt 12 Try.f92) True = (True) by kernel_rfl) trivial)).1 (by decide) (by decide) t92i12Eq
theorem t92l7Eq (R : Type) (c : Vars t92l7c) (v : Vars t92l7v) (kk : Vars t92l7c → (Vars t92l7v ⊕ Oc t92l7e) → Option R) : evC en92 su92 (loopAt 7 Try.f92) (Desc.mk2 t92l7v v (Desc.mk2 t92l7c c .empty)) (fun o => bodyK t92l7c t92l7v t92l7e o kk) = t92l7 R c v kk := by kernel_rfl
theorem t92l7Ok {X : Cx} (hX : en92.lo = X.lo) : SubOk Try.prog X 32 ⟨t92l7c, t92l7v, t92l7e, loopF t92l7⟩ (.loop (loopAt 7 Try.f92)) :=
  sub_loop (subs := su92) ok92 rfl hX (GoodN.good (K := True) (Eq.mpr (show GoodN Try.prog X 32 en92 su92 (loopAt 7 Try.f92) True = (SubOk Try.prog X 32 ⟨t92i12c, t92i12v, t92i12e, t92i12⟩ (ifAt 12 Try.f92) ∧ True) by kernel_rfl) ⟨(t92i12Ok hX), trivial⟩)).1 (by decide) (by decide) t92l7Eq
theorem t92l3Eq (R : Type) (c : Vars t92l3c) (v : Vars t92l3v) (kk : Vars t92l3c → (Vars t92l3v ⊕ Oc t92l3e) → Option R) : evC en92 su92 (loopAt 3 Try.f92) (Desc.mk2 t92l3v v (Desc.mk2 t92l3c c .empty)) (fun o => bodyK t92l3c t92l3v t92l3e o kk) = t92l3 R c v kk := by kernel_rfl
theorem t92l3Ok {X : Cx} (hX : en92.lo = X.lo) : SubOk Try.prog X 32 ⟨t92l3c, t92l3v, t92l3e, loopF t92l3⟩ (.loop (loopAt 3 Try.f92)) :=
  sub_loop (subs := su92) ok92 rfl hX (GoodN.good (K := True) (Eq.mpr (show GoodN Try.prog X 32 en92 su92 (loopAt 3 Try.f92) True = (SubOk Try.prog X 32 ⟨t92l7c, t92l7v, t92l7e, loopF t92l7⟩ (.loop (loopAt 7 Try.f92)) ∧ True) by kernel_rfl) ⟨(t92l7Ok hX), trivial⟩)).1 (by decide) (by decide) t92l3Eq
theorem t92Eq (x : Ps ins92) : evF en92 su92 Try.f92 ins92 res92 x = t92 x := by kernel_rfl
theorem so92 : Sound Try.prog 92 sg92 :=
  sound_of (fn := Try.f92) (c := bodyOf Try.f92) (subs := su92) (E := en92) (by kernel_rfl) (by kernel_rfl) (by decide) ok92 (by kernel_rfl) (by kernel_rfl) (by decide)
    (fun X hX => (GoodN.good (K := True) (Eq.mpr (show GoodN Try.prog X 32 en92 su92 (bodyOf Try.f92) True = (SubOk Try.prog X 32 ⟨t92l3c, t92l3v, t92l3e, loopF t92l3⟩ (.loop (loopAt 3 Try.f92)) ∧ True) by kernel_rfl) ⟨(t92l3Ok hX), trivial⟩)).1)
    (fun x r h => (t92Eq x).trans h)
/-! loop.example/g00224/spec.l2On -/
def fl91 : List (Nat × Sig) := []
def en91 : Env := { n := 27, ty := assocN tyL, fns := assocN fl91, lo := 0 }
def su91 : Bool → Nat → Option Sub | true, 2 => some ⟨t91l2c, t91l2v, t91l2e, loopF t91l2⟩ | _, _ => none
theorem ok91 : EnvOk Try.prog en91 := envOk_of rfl rfl tyL_ok (trivial)
theorem t91l2Eq (R : Type) (c : Vars t91l2c) (v : Vars t91l2v) (kk : Vars t91l2c → (Vars t91l2v ⊕ Oc t91l2e) → Option R) : evC en91 su91 (loopAt 2 Try.f91) (Desc.mk2 t91l2v v (Desc.mk2 t91l2c c .empty)) (fun o => bodyK t91l2c t91l2v t91l2e o kk) = t91l2 R c v kk := by kernel_rfl
theorem t91l2Ok {X : Cx} (hX : en91.lo = X.lo) : SubOk Try.prog X 27 ⟨t91l2c, t91l2v, t91l2e, loopF t91l2⟩ (.loop (loopAt 2 Try.f91)) :=
  sub_loop (subs := su91) ok91 rfl hX (GoodN.good (K := True) (Eq.mpr (show GoodN Try.prog X 27 en91 su91 (loopAt 2 Try.f91) True = (True) by kernel_rfl) trivial)).1 (by decide) (by decide) t91l2Eq
theorem t91Eq (x : Ps ins91) : evF en91 su91 Try.f91 ins91 res91 x = t91 x := by kernel_rfl
theorem so91 : Sound Try.prog 91 sg91 :=
  sound_of (fn := Try.f91) (c := bodyOf Try.f91) (subs := su91) (E := en91) (by kernel_rfl) (by kernel_rfl) (by decide) ok91 (by kernel_rfl) (by kernel_rfl) (by decide)
    (fun X hX => (GoodN.good (K := True) (Eq.mpr (show GoodN Try.prog X 27 en91 su91 (bodyOf Try.f91) True = (SubOk Try.prog X 27 ⟨t91l2c, t91l2v, t91l2e, loopF t91l2⟩ (.loop (loopAt 2 Try.f91)) ∧ True) by kernel_rfl) ⟨(t91l2Ok hX), trivial⟩)).1)
    (fun x r h => (t91Eq x).trans h)
/-! loop.example/g00224/spec.l2Sum -/
def fl69 : List (Nat × Sig) := [(92, sg92), (91, sg91)]
def en69 : Env := { n := 7, ty := assocN tyL, fns := assocN fl69, lo := 0 }
def su69 : Bool → Nat → Option Sub | _, _ => none
theorem ok69 : EnvOk Try.prog en69 := envOk_of rfl rfl tyL_ok (⟨so92, ⟨so91, trivial⟩⟩)
theorem t69Eq (x : Ps ins69) : evF en69 su69 Try.f69 ins69 res69 x = t69 x := by kernel_rfl
theorem so69 : Sound Try.prog 69 sg69 :=
  sound_of (fn := Try.f69) (c := bodyOf Try.f69) (subs := su69) (E := en69) (by kernel_rfl) (by kernel_rfl) (by decide) ok69 (by kernel_rfl) (by kernel_rfl) (by decide)
    (fun X hX => (GoodN.good (K := True) (Eq.mpr (show GoodN Try.prog X 7 en69 su69 (bodyOf Try.f69) True = (True) by kernel_rfl) trivial)).1)
    (fun x r h => (t69Eq x).trans h)
/-! loop.example/g00224/spec.l2Word -/
def fl68 : List (Nat × Sig) := []
def en68 : Env := { n := 16, ty := assocN tyL, fns := assocN fl68, lo := 0 }
def su68 : Bool → Nat → Option Sub | _, _ => none
theorem ok68 : EnvOk Try.prog en68 := envOk_of rfl rfl tyL_ok (trivial)
theorem t68Eq (x : Ps ins68) : evF en68 su68 Try.f68 ins68 res68 x = t68 x := by kernel_rfl
theorem so68 : Sound Try.prog 68 sg68 :=
  sound_of (fn := Try.f68) (c := bodyOf Try.f68) (subs := su68) (E := en68) (by kernel_rfl) (by kernel_rfl) (by decide) ok68 (by kernel_rfl) (by kernel_rfl) (by decide)
    (fun X hX => (GoodN.good (K := True) (Eq.mpr (show GoodN Try.prog X 16 en68 su68 (bodyOf Try.f68) True = (True) by kernel_rfl) trivial)).1)
    (fun x r h => (t68Eq x).trans h)
/-! loop.example/g00224/spec.l6Tail -/
def fl45 : List (Nat × Sig) := [(69, sg69), (68, sg68)]
def hi45 : List (Nat × (K × Mk)) := [(3, ((.sl (.int .i64)), (.o .s))), (8, ((.sl (.int .i64)), (.o .s)))]
def dw45 : List (Nat × List (List Nat)) := [(12, [[8, 51], [52], [53], [54], [55], [56], [57], [58], [59], [60], [61], [62], [63], [8, 63, 64], [8, 64]])]
def en45 : Env := { n := 69, ty := assocN tyL, fns := assocN fl45, lo := 0, hint := assocN hi45, draw := drawOf dw45 }
def su45 : Bool → Nat → Option Sub | true, 10 => some ⟨t45l10c, t45l10v, t45l10e, loopF t45l10⟩ | _, _ => none
theorem ok45 : EnvOk Try.prog en45 := envOk_of rfl rfl tyL_ok (⟨so69, ⟨so68, trivial⟩⟩)
theorem dr45r2 {X : Cx} (hX : en45.lo = X.lo) : RegOk Try.prog X 69 en45 2 (regAt 2 Try.f45) := regOk_of ok45 rfl hX (by kernel_rfl) (by kernel_rfl)
theorem dr45r4 {X : Cx} (hX : en45.lo = X.lo) : RegOk Try.prog X 69 en45 4 (regAt 4 Try.f45) := regOk_of ok45 rfl hX (by kernel_rfl) (by kernel_rfl)
theorem dr45r12 {X : Cx} (hX : en45.lo = X.lo) : RegOk Try.prog X 69 en45 12 (regAt 12 Try.f45) := regOk_of ok45 rfl hX (by kernel_rfl) (by kernel_rfl)
theorem t45l10Eq (R : Type) (c : Vars t45l10c) (v : Vars t45l10v) (kk : Vars t45l10c → (Vars t45l10v ⊕ Oc t45l10e) → Option R) : evC en45 su45 (loopAt 10 Try.f45) (Desc.mk2 t45l10v v (Desc.mk2 t45l10c c .empty)) (fun o => bodyK t45l10c t45l10v t45l10e o kk) = t45l10 R c v kk := by kernel_rfl
theorem t45l10Ok {X : Cx} (hX : en45.lo = X.lo) : SubOk Try.prog X 69 ⟨t45l10c, t45l10v, t45l10e, loopF t45l10⟩ (.loop (loopAt 10 Try.f45)) :=
  sub_loop (subs := su45) ok45 rfl hX (GoodN.good (K := True) (Eq.mpr (show GoodN Try.prog X 69 en45 su45 (loopAt 10 Try.f45) True = (RegOk Try.prog X 69 en45 12 (regAt 12 Try.f45) ∧ True) by kernel_rfl) ⟨(dr45r12 hX), trivial⟩)).1 (by decide) (by decide) t45l10Eq
theorem t45Eq (x : Ps ins45) : evF en45 su45 Try.f45 ins45 res45 x = t45 x := by kernel_rfl
theorem so45 : Sound Try.prog 45 sg45 :=
  sound_of (fn := Try.f45) (c := bodyOf Try.f45) (subs := su45) (E := en45) (by kernel_rfl) (by kernel_rfl) (by decide) ok45 (by kernel_rfl) (by kernel_rfl) (by decide)
    (fun X hX => (GoodN.good (K := True) (Eq.mpr (show GoodN Try.prog X 69 en45 su45 (bodyOf Try.f45) True = (RegOk Try.prog X 69 en45 2 (regAt 2 Try.f45) ∧ RegOk Try.prog X 69 en45 4 (regAt 4 Try.f45) ∧ SubOk Try.prog X 69 ⟨t45l10c, t45l10v, t45l10e, loopF t45l10⟩ (.loop (loopAt 10 Try.f45)) ∧ True) by kernel_rfl) ⟨(dr45r2 hX), (dr45r4 hX), (t45l10Ok hX), trivial⟩)).1)
    (fun x r h => (t45Eq x).trans h)
/-! loop.example/g00224/spec.l6Item -/
def fl67 : List (Nat × Sig) := [(84, sg84)]
def dw67 : List (Nat × List (List Nat)) := [(8, [[93], [94], [95], [96], [97], [98], [99], [100], [101], [102], [103], [104], [105], [106], [107], [108], [109], [110], [111], [112], [113], [114], [115], [116], [117], [118], [119], [120], [121], [122], [4], [5]])]
def en67 : Env := { n := 123, ty := assocN tyL, fns := assocN fl67, lo := 0, draw := drawOf dw67 }
def su67 : Bool → Nat → Option Sub | _, _ => none
theorem ok67 : EnvOk Try.prog en67 := envOk_of rfl rfl tyL_ok (⟨so84, trivial⟩)
theorem dr67r8 {X : Cx} (hX : en67.lo = X.lo) : RegOk Try.prog X 123 en67 8 (regAt 8 Try.f67) := regOk_of ok67 rfl hX (by kernel_rfl) (by kernel_rfl)
theorem t67Eq (x : Ps ins67) : evF en67 su67 Try.f67 ins67 res67 x = t67 x := by kernel_rfl
theorem so67 : Sound Try.prog 67 sg67 :=
  sound_of (fn := Try.f67) (c := bodyOf Try.f67) (subs := su67) (E := en67) (by kernel_rfl) (by kernel_rfl) (by decide) ok67 (by kernel_rfl) (by kernel_rfl) (by decide)
    (fun X hX => (GoodN.good (K := True) (Eq.mpr (show GoodN Try.prog X 123 en67 su67 (bodyOf Try.f67) True = (RegOk Try.prog X 123 en67 8 (regAt 8 Try.f67) ∧ True) by kernel_rfl) ⟨(dr67r8 hX), trivial⟩)).1)
    (fun x r h => (t67Eq x).trans h)
/-! loop.example/g00224/spec.l4Seq -/
def fl100 : List (Nat × Sig) := [(85, sg85)]
def en100 : Env := { n := 5, ty := assocN tyL, fns := assocN fl100, lo := 0 }
def su100 : Bool → Nat → Option Sub | _, _ => none
theorem ok100 : EnvOk Try.prog en100 := envOk_of rfl rfl tyL_ok (⟨so85, trivial⟩)
theorem t100Eq (x : Ps ins100) : evF en100 su100 Try.f100 ins100 res100 x = t100 x := by kernel_rfl
theorem so100 : Sound Try.prog 100 sg100 :=
  sound_of (fn := Try.f100) (c := bodyOf Try.f100) (subs := su100) (E := en100) (by kernel_rfl) (by kernel_rfl) (by decide) ok100 (by kernel_rfl) (by kernel_rfl) (by decide)
    (fun X hX => (GoodN.good (K := True) (Eq.mpr (show GoodN Try.prog X 5 en100 su100 (bodyOf Try.f100) True = (True) by kernel_rfl) trivial)).1)
    (fun x r h => (t100Eq x).trans h)
/-! loop.example/g00224/spec.GoodItem -/
def fl79 : List (Nat × Sig) := [(86, sg86), (100, sg100), (85, sg85)]
def en79 : Env := { n := 32, ty := assocN tyL, fns := assocN fl79, lo := 0 }
def su79 : Bool → Nat → Option Sub | _, _ => none
theorem ok79 : EnvOk Try.prog en79 := envOk_of rfl rfl tyL_ok (⟨so86, ⟨so100, ⟨so85, trivial⟩⟩⟩)
theorem t79Eq (x : Ps ins79) : evF en79 su79 Try.f79 ins79 res79 x = t79 x := by kernel_rfl
theorem so79 : Sound Try.prog 79 sg79 :=
  sound_of (fn := Try.f79) (c := bodyOf Try.f79) (subs := su79) (E := en79) (by kernel_rfl) (by kernel_rfl) (by decide) ok79 (by kernel_rfl) (by kernel_rfl) (by decide)
    (fun X hX => (GoodN.good (K := True) (Eq.mpr (show GoodN Try.prog X 32 en79 su79 (bodyOf Try.f79) True = (True) by kernel_rfl) trivial)).1)
    (fun x r h => (t79Eq x).trans h)
/-! loop.example/g00224/spec.l4Compare -/
def fl80 : List (Nat × Sig) := []
def en80 : Env := { n := 38, ty := assocN tyL, fns := assocN fl80, lo := 0 }
def su80 : Bool → Nat → Option Sub | _, _ => none
theorem ok80 : EnvOk Try.prog en80 := envOk_of rfl rfl tyL_ok (trivial)
theorem t80Eq (x : Ps ins80) : evF en80 su80 Try.f80 ins80 res80 x = t80 x := by kernel_rfl
theorem so80 : Sound Try.prog 80 sg80 :=
  sound_of (fn := Try.f80) (c := bodyOf Try.f80) (subs := su80) (E := en80) (by kernel_rfl) (by kernel_rfl) (by decide) ok80 (by kernel_rfl) (by kernel_rfl) (by decide)
    (fun X hX => (GoodN.good (K := True) (Eq.mpr (show GoodN Try.prog X 38 en80 su80 (bodyOf Try.f80) True = (True) by kernel_rfl) trivial)).1)
    (fun x r h => (t80Eq x).trans h)
/-! loop.example/g00224/spec.GoodRun -/
def fl52 : List (Nat × Sig) := [(79, sg79), (80, sg80)]
def en52 : Env := { n := 30, ty := assocN tyL, fns := assocN fl52, lo := 0 }
def su52 : Bool → Nat → Option Sub | true, 2 => some ⟨t52l2c, t52l2v, t52l2e, loopF t52l2⟩ | _, _ => none
theorem ok52 : EnvOk Try.prog en52 := envOk_of rfl rfl tyL_ok (⟨so79, ⟨so80, trivial⟩⟩)
theorem dr52r4 {X : Cx} (hX : en52.lo = X.lo) : RegOk Try.prog X 30 en52 4 (regAt 4 Try.f52) := regOk_of ok52 rfl hX (by kernel_rfl) (by kernel_rfl)
theorem t52l2Eq (R : Type) (c : Vars t52l2c) (v : Vars t52l2v) (kk : Vars t52l2c → (Vars t52l2v ⊕ Oc t52l2e) → Option R) : evC en52 su52 (loopAt 2 Try.f52) (Desc.mk2 t52l2v v (Desc.mk2 t52l2c c .empty)) (fun o => bodyK t52l2c t52l2v t52l2e o kk) = t52l2 R c v kk := by kernel_rfl
theorem t52l2Ok {X : Cx} (hX : en52.lo = X.lo) : SubOk Try.prog X 30 ⟨t52l2c, t52l2v, t52l2e, loopF t52l2⟩ (.loop (loopAt 2 Try.f52)) :=
  sub_loop (subs := su52) ok52 rfl hX (GoodN.good (K := True) (Eq.mpr (show GoodN Try.prog X 30 en52 su52 (loopAt 2 Try.f52) True = (RegOk Try.prog X 30 en52 4 (regAt 4 Try.f52) ∧ True) by kernel_rfl) ⟨(dr52r4 hX), trivial⟩)).1 (by decide) (by decide) t52l2Eq
theorem t52Eq (x : Ps ins52) : evF en52 su52 Try.f52 ins52 res52 x = t52 x := by kernel_rfl
theorem so52 : Sound Try.prog 52 sg52 :=
  sound_of (fn := Try.f52) (c := bodyOf Try.f52) (subs := su52) (E := en52) (by kernel_rfl) (by kernel_rfl) (by decide) ok52 (by kernel_rfl) (by kernel_rfl) (by decide)
    (fun X hX => (GoodN.good (K := True) (Eq.mpr (show GoodN Try.prog X 30 en52 su52 (bodyOf Try.f52) True = (SubOk Try.prog X 30 ⟨t52l2c, t52l2v, t52l2e, loopF t52l2⟩ (.loop (loopAt 2 Try.f52)) ∧ True) by kernel_rfl) ⟨(t52l2Ok hX), trivial⟩)).1)
    (fun x r h => (t52Eq x).trans h)
/-! loop.example/g00224/spec.l6Two -/
def fl81 : List (Nat × Sig) := []
def en81 : Env := { n := 10, ty := assocN tyL, fns := assocN fl81, lo := 0 }
def su81 : Bool → Nat → Option Sub | _, _ => none
theorem ok81 : EnvOk Try.prog en81 := envOk_of rfl rfl tyL_ok (trivial)
theorem t81Eq (x : Ps ins81) : evF en81 su81 Try.f81 ins81 res81 x = t81 x := by kernel_rfl
theorem so81 : Sound Try.prog 81 sg81 :=
  sound_of (fn := Try.f81) (c := bodyOf Try.f81) (subs := su81) (E := en81) (by kernel_rfl) (by kernel_rfl) (by decide) ok81 (by kernel_rfl) (by kernel_rfl) (by decide)
    (fun X hX => (GoodN.good (K := True) (Eq.mpr (show GoodN Try.prog X 10 en81 su81 (bodyOf Try.f81) True = (True) by kernel_rfl) trivial)).1)
    (fun x r h => (t81Eq x).trans h)
/-! loop.example/g00224/spec.CommonOf -/
def fl82 : List (Nat × Sig) := []
def en82 : Env := { n := 28, ty := assocN tyL, fns := assocN fl82, lo := 0 }
def su82 : Bool → Nat → Option Sub | true, 2 => some ⟨t82l2c, t82l2v, t82l2e, loopF t82l2⟩ | _, _ => none
theorem ok82 : EnvOk Try.prog en82 := envOk_of rfl rfl tyL_ok (trivial)
theorem dr82r2 {X : Cx} (hX : en82.lo = X.lo) : RegOk Try.prog X 28 en82 2 (regAt 2 Try.f82) := regOk_of ok82 rfl hX (by kernel_rfl) (by kernel_rfl)
theorem t82l2Eq (R : Type) (c : Vars t82l2c) (v : Vars t82l2v) (kk : Vars t82l2c → (Vars t82l2v ⊕ Oc t82l2e) → Option R) : evC en82 su82 (loopAt 2 Try.f82) (Desc.mk2 t82l2v v (Desc.mk2 t82l2c c .empty)) (fun o => bodyK t82l2c t82l2v t82l2e o kk) = t82l2 R c v kk := by kernel_rfl
theorem t82l2Ok {X : Cx} (hX : en82.lo = X.lo) : SubOk Try.prog X 28 ⟨t82l2c, t82l2v, t82l2e, loopF t82l2⟩ (.loop (loopAt 2 Try.f82)) :=
  sub_loop (subs := su82) ok82 rfl hX (GoodN.good (K := True) (Eq.mpr (show GoodN Try.prog X 28 en82 su82 (loopAt 2 Try.f82) True = (RegOk Try.prog X 28 en82 2 (regAt 2 Try.f82) ∧ True) by kernel_rfl) ⟨(dr82r2 hX), trivial⟩)).1 (by decide) (by decide) t82l2Eq
theorem t82Eq (x : Ps ins82) : evF en82 su82 Try.f82 ins82 res82 x = t82 x := by kernel_rfl
theorem so82 : Sound Try.prog 82 sg82 :=
  sound_of (fn := Try.f82) (c := bodyOf Try.f82) (subs := su82) (E := en82) (by kernel_rfl) (by kernel_rfl) (by decide) ok82 (by kernel_rfl) (by kernel_rfl) (by decide)
    (fun X hX => (GoodN.good (K := True) (Eq.mpr (show GoodN Try.prog X 28 en82 su82 (bodyOf Try.f82) True = (SubOk Try.prog X 28 ⟨t82l2c, t82l2v, t82l2e, loopF t82l2⟩ (.loop (loopAt 2 Try.f82)) ∧ True) by kernel_rfl) ⟨(t82l2Ok hX), trivial⟩)).1)
    (fun x r h => (t82Eq x).trans h)
/-! loop.example/g00224/spec.l2Var -/
def fl83 : List (Nat × Sig) := []
def hi83 : List (Nat × (K × Mk)) := [(3, ((.sl (.int .u8)), (.o .s)))]
def en83 : Env := { n := 21, ty := assocN tyL, fns := assocN fl83, lo := 0, hint := assocN hi83 }
def su83 : Bool → Nat → Option Sub | true, 2 => some ⟨t83l2c, t83l2v, t83l2e, loopF t83l2⟩ | _, _ => none
theorem ok83 : EnvOk Try.prog en83 := envOk_of rfl rfl tyL_ok (trivial)
theorem t83l2Eq (R : Type) (c : Vars t83l2c) (v : Vars t83l2v) (kk : Vars t83l2c → (Vars t83l2v ⊕ Oc t83l2e) → Option R) : evC en83 su83 (loopAt 2 Try.f83) (Desc.mk2 t83l2v v (Desc.mk2 t83l2c c .empty)) (fun o => bodyK t83l2c t83l2v t83l2e o kk) = t83l2 R c v kk := by kernel_rfl
theorem t83l2Ok {X : Cx} (hX : en83.lo = X.lo) : SubOk Try.prog X 21 ⟨t83l2c, t83l2v, t83l2e, loopF t83l2⟩ (.loop (loopAt 2 Try.f83)) :=
  sub_loop (subs := su83) ok83 rfl hX (GoodN.good (K := True) (Eq.mpr (show GoodN Try.prog X 21 en83 su83 (loopAt 2 Try.f83) True = (True) by kernel_rfl) trivial)).1 (by decide) (by decide) t83l2Eq
theorem t83Eq (x : Ps ins83) : evF en83 su83 Try.f83 ins83 res83 x = t83 x := by kernel_rfl
theorem so83 : Sound Try.prog 83 sg83 :=
  sound_of (fn := Try.f83) (c := bodyOf Try.f83) (subs := su83) (E := en83) (by kernel_rfl) (by kernel_rfl) (by decide) ok83 (by kernel_rfl) (by kernel_rfl) (by decide)
    (fun X hX => (GoodN.good (K := True) (Eq.mpr (show GoodN Try.prog X 21 en83 su83 (bodyOf Try.f83) True = (SubOk Try.prog X 21 ⟨t83l2c, t83l2v, t83l2e, loopF t83l2⟩ (.loop (loopAt 2 Try.f83)) ∧ True) by kernel_rfl) ⟨(t83l2Ok hX), trivial⟩)).1)
    (fun x r h => (t83Eq x).trans h)
/-! loop.example/g00224/spec.l6Block -/
def fl53 : List (Nat × Sig) := [(81, sg81), (82, sg82), (83, sg83), (69, sg69), (68, sg68)]
def en53 : Env := { n := 78, ty := assocN tyL, fns := assocN fl53, lo := 0 }
def su53 : Bool → Nat → Option Sub | false, 8 => some ⟨t53i8c, t53i8v, t53i8e, t53i8⟩ | true, 4 => some ⟨t53l4c, t53l4v, t53l4e, loopF t53l4⟩ | _, _ => none
theorem ok53 : EnvOk Try.prog en53 := envOk_of rfl rfl tyL_ok (⟨so81, ⟨so82, ⟨so83, ⟨so69, ⟨so68, trivial⟩⟩⟩⟩⟩)
theorem dr53r9 {X : Cx} (hX : en53.lo = X.lo) : RegOk Try.prog X 78 en53 9 (regAt 9 Try.f53) := regOk_of ok53 rfl hX (by kernel_rfl) (by kernel_rfl)
theorem dr53r10 {X : Cx} (hX : en53.lo = X.lo) : RegOk Try.prog X 78 en53 10 (regAt 10 Try.f53) := regOk_of ok53 rfl hX (by kernel_rfl) (by kernel_rfl)
def su53i8 : Bool → Nat → Option Sub | true, 4 => some ⟨t53l4c, t53l4v, t53l4e, loopF t53l4⟩ | _, _ => none
theorem t53i8Eq (R : Type) (c : Vars t53i8c) (v : Vars t53i8v) (kk : Vars t53i8c → Oc t53i8e → Option R) : evC en53 su53i8 (ifAt 8 Try.f53) (Desc.mk2 t53i8v v (Desc.mk2 t53i8c c .empty)) (fun o => chk t53i8c t53i8e o kk) = t53i8 R c v kk := by kernel_rfl
theorem t53i8Ok {X : Cx} (hX : en53.lo = X.lo) : SubOk Try.prog X 78 ⟨t53i8c, t53i8v, t53i8e, t53i8⟩ (ifAt 8 Try.f53) :=
  sub_if (u := ⟨t53i8c, t53i8v, t53i8e, t53i8⟩) (subs := su53i8) ok53 rfl hX (GoodN.good (K := True) (Eq.mpr (show GoodN Try.prog X 78 en53 su53i8 (ifAt 8 Try.f53) True = (RegOk Try.prog X 78 en53 9 (regAt 9 Try.f53) ∧ True) by kernel_rfl) ⟨(dr53r9 hX), trivial⟩)).1 (by decide) (by decide) t53i8Eq
theorem t53l4Eq (R : Type) (c : Vars t53l4c) (v : Vars t53l4v) (kk : Vars t53l4c → (Vars t53l4v ⊕ Oc t53l4e) → Option R) : evC en53 su53 (loopAt 4 Try.f53) (Desc.mk2 t53l4v v (Desc.mk2 t53l4c c .empty)) (fun o => bodyK t53l4c t53l4v t53l4e o kk) = t53l4 R c v kk := by kernel_rfl
theorem t53l4Ok {X : Cx} (hX : en53.lo = X.lo) : SubOk Try.prog X 78 ⟨t53l4c, t53l4v, t53l4e, loopF t53l4⟩ (.loop (loopAt 4 Try.f53)) :=
  sub_loop (subs := su53) ok53 rfl hX (GoodN.good (K := True) (Eq.mpr (show GoodN Try.prog X 78 en53 su53 (loopAt 4 Try.f53) True = (SubOk Try.prog X 78 ⟨t53i8c, t53i8v, t53i8e, t53i8⟩ (ifAt 8 Try.f53) ∧ RegOk Try.prog X 78 en53 10 (regAt 10 Try.f53) ∧ True) by kernel_rfl) ⟨(t53i8Ok hX), (dr53r10 hX), trivial⟩)).1 (by decide) (by decide) t53l4Eq
theorem t53Eq (x : Ps ins53) : evF en53 su53 Try.f53 ins53 res53 x = t53 x := by kernel_rfl
theorem so53 : Sound Try.prog 53 sg53 :=
  sound_of (fn := Try.f53) (c := bodyOf Try.f53) (subs := su53) (E := en53) (by kernel_rfl) (by kernel_rfl) (by decide) ok53 (by kernel_rfl) (by kernel_rfl) (by decide)
    (fun X hX => (GoodN.good (K := True) (Eq.mpr (show GoodN Try.prog X 78 en53 su53 (bodyOf Try.f53) True = (SubOk Try.prog X 78 ⟨t53l4c, t53l4v, t53l4e, loopF t53l4⟩ (.loop (loopAt 4 Try.f53)) ∧ True) by kernel_rfl) ⟨(t53l4Ok hX), trivial⟩)).1)
    (fun x r h => (t53Eq x).trans h)
/-! loop.example/g00224/spec.l6Read -/
def fl44 : List (Nat × Sig) := [(45, sg45), (67, sg67), (52, sg52), (53, sg53)]
def hi44 : List (Nat × (K × Mk)) := [(2, ((.sl kd51), (.o .s))), (5, ((.sl (.int .i64)), (.o .s))), (7, ((.sl kd51), (.o .s)))]
def en44 : Env := { n := 59, ty := assocN tyL, fns := assocN fl44, lo := 0, hint := assocN hi44 }
def su44 : Bool → Nat → Option Sub | true, 6 => some ⟨t44l6c, t44l6v, t44l6e, loopF t44l6⟩ | _, _ => none
theorem ok44 : EnvOk Try.prog en44 := envOk_of rfl rfl tyL_ok (⟨so45, ⟨so67, ⟨so52, ⟨so53, trivial⟩⟩⟩⟩)
theorem t44l6Eq (R : Type) (c : Vars t44l6c) (v : Vars t44l6v) (kk : Vars t44l6c → (Vars t44l6v ⊕ Oc t44l6e) → Option R) : evC en44 su44 (loopAt 6 Try.f44) (Desc.mk2 t44l6v v (Desc.mk2 t44l6c c .empty)) (fun o => bodyK t44l6c t44l6v t44l6e o kk) = t44l6 R c v kk := by kernel_rfl
theorem t44l6Ok {X : Cx} (hX : en44.lo = X.lo) : SubOk Try.prog X 59 ⟨t44l6c, t44l6v, t44l6e, loopF t44l6⟩ (.loop (loopAt 6 Try.f44)) :=
  sub_loop (subs := su44) ok44 rfl hX (GoodN.good (K := True) (Eq.mpr (show GoodN Try.prog X 59 en44 su44 (loopAt 6 Try.f44) True = (True) by kernel_rfl) trivial)).1 (by decide) (by decide) t44l6Eq
theorem t44Eq (x : Ps ins44) : evF en44 su44 Try.f44 ins44 res44 x = t44 x := by kernel_rfl
theorem so44 : Sound Try.prog 44 sg44 :=
  sound_of (fn := Try.f44) (c := bodyOf Try.f44) (subs := su44) (E := en44) (by kernel_rfl) (by kernel_rfl) (by decide) ok44 (by kernel_rfl) (by kernel_rfl) (by decide)
    (fun X hX => (GoodN.good (K := True) (Eq.mpr (show GoodN Try.prog X 59 en44 su44 (bodyOf Try.f44) True = (SubOk Try.prog X 59 ⟨t44l6c, t44l6v, t44l6e, loopF t44l6⟩ (.loop (loopAt 6 Try.f44)) ∧ True) by kernel_rfl) ⟨(t44l6Ok hX), trivial⟩)).1)
    (fun x r h => (t44Eq x).trans h)
/-! loop.example/g00224/spec.FirstIn -/
def fl17 : List (Nat × Sig) := [(44, sg44)]
def hi17 : List (Nat × (K × Mk)) := [(4, ((.sl kd51), (.o .s)))]
def en17 : Env := { n := 22, ty := assocN tyL, fns := assocN fl17, lo := 0, hint := assocN hi17 }
def su17 : Bool → Nat → Option Sub | _, _ => none
theorem ok17 : EnvOk Try.prog en17 := envOk_of rfl rfl tyL_ok (⟨so44, trivial⟩)
theorem t17Eq (x : Ps ins17) : evF en17 su17 Try.f17 ins17 res17 x = t17 x := by kernel_rfl
theorem so17 : Sound Try.prog 17 sg17 :=
  sound_of (fn := Try.f17) (c := bodyOf Try.f17) (subs := su17) (E := en17) (by kernel_rfl) (by kernel_rfl) (by decide) ok17 (by kernel_rfl) (by kernel_rfl) (by decide)
    (fun X hX => (GoodN.good (K := True) (Eq.mpr (show GoodN Try.prog X 22 en17 su17 (bodyOf Try.f17) True = (True) by kernel_rfl) trivial)).1)
    (fun x r h => (t17Eq x).trans h)
/-! loop.example/g00224/impl.wordOf -/
def fl70 : List (Nat × Sig) := []
def en70 : Env := { n := 20, ty := assocN tyL, fns := assocN fl70, lo := 0 }
def su70 : Bool → Nat → Option Sub | true, 3 => some ⟨t70l3c, t70l3v, t70l3e, loopF t70l3⟩ | _, _ => none
theorem ok70 : EnvOk Try.prog en70 := envOk_of rfl rfl tyL_ok (trivial)
theorem t70l3Eq (R : Type) (c : Vars t70l3c) (v : Vars t70l3v) (kk : Vars t70l3c → (Vars t70l3v ⊕ Oc t70l3e) → Option R) : evC en70 su70 (loopAt 3 Try.f70) (Desc.mk2 t70l3v v (Desc.mk2 t70l3c c .empty)) (fun o => bodyK t70l3c t70l3v t70l3e o kk) = t70l3 R c v kk := by kernel_rfl
theorem t70l3Ok {X : Cx} (hX : en70.lo = X.lo) : SubOk Try.prog X 20 ⟨t70l3c, t70l3v, t70l3e, loopF t70l3⟩ (.loop (loopAt 3 Try.f70)) :=
  sub_loop (subs := su70) ok70 rfl hX (GoodN.good (K := True) (Eq.mpr (show GoodN Try.prog X 20 en70 su70 (loopAt 3 Try.f70) True = (True) by kernel_rfl) trivial)).1 (by decide) (by decide) t70l3Eq
theorem t70Eq (x : Ps ins70) : evF en70 su70 Try.f70 ins70 res70 x = t70 x := by kernel_rfl
theorem so70 : Sound Try.prog 70 sg70 :=
  sound_of (fn := Try.f70) (c := bodyOf Try.f70) (subs := su70) (E := en70) (by kernel_rfl) (by kernel_rfl) (by decide) ok70 (by kernel_rfl) (by kernel_rfl) (by decide)
    (fun X hX => (GoodN.good (K := True) (Eq.mpr (show GoodN Try.prog X 20 en70 su70 (bodyOf Try.f70) True = (SubOk Try.prog X 20 ⟨t70l3c, t70l3v, t70l3e, loopF t70l3⟩ (.loop (loopAt 3 Try.f70)) ∧ True) by kernel_rfl) ⟨(t70l3Ok hX), trivial⟩)).1)
    (fun x r h => (t70Eq x).trans h)
/-! loop.example/g00224/impl.readItems -/
def fl71 : List (Nat × Sig) := [(34, sg34), (35, sg35), (37, sg37)]
def hi71 : List (Nat × (K × Mk)) := [(2, ((.sl kd51), (.o .s))), (5, ((.sl kd51), (.o .s)))]
def en71 : Env := { n := 83, ty := assocN tyL, fns := assocN fl71, lo := 0, hint := assocN hi71 }
def su71 : Bool → Nat → Option Sub | true, 2 => some ⟨t71l2c, t71l2v, t71l2e, loopF t71l2⟩ | _, _ => none
theorem ok71 : EnvOk Try.prog en71 := envOk_of rfl rfl tyL_ok (⟨so34, ⟨so35, ⟨so37, trivial⟩⟩⟩)
theorem t71l2Eq (R : Type) (c : Vars t71l2c) (v : Vars t71l2v) (kk : Vars t71l2c → (Vars t71l2v ⊕ Oc t71l2e) → Option R) : evC en71 su71 (loopAt 2 Try.f71) (Desc.mk2 t71l2v v (Desc.mk2 t71l2c c .empty)) (fun o => bodyK t71l2c t71l2v t71l2e o kk) = t71l2 R c v kk := by kernel_rfl
theorem t71l2Ok {X : Cx} (hX : en71.lo = X.lo) : SubOk Try.prog X 83 ⟨t71l2c, t71l2v, t71l2e, loopF t71l2⟩ (.loop (loopAt 2 Try.f71)) :=
  sub_loop (subs := su71) ok71 rfl hX (GoodN.good (K := True) (Eq.mpr (show GoodN Try.prog X 83 en71 su71 (loopAt 2 Try.f71) True = (True) by kernel_rfl) trivial)).1 (by decide) (by decide) t71l2Eq
theorem t71Eq (x : Ps ins71) : evF en71 su71 Try.f71 ins71 res71 x = t71 x := by kernel_rfl
theorem so71 : Sound Try.prog 71 sg71 :=
  sound_of (fn := Try.f71) (c := bodyOf Try.f71) (subs := su71) (E := en71) (by kernel_rfl) (by kernel_rfl) (by decide) ok71 (by kernel_rfl) (by kernel_rfl) (by decide)
    (fun X hX => (GoodN.good (K := True) (Eq.mpr (show GoodN Try.prog X 83 en71 su71 (bodyOf Try.f71) True = (SubOk Try.prog X 83 ⟨t71l2c, t71l2v, t71l2e, loopF t71l2⟩ (.loop (loopAt 2 Try.f71)) ∧ True) by kernel_rfl) ⟨(t71l2Ok hX), trivial⟩)).1)
    (fun x r h => (t71Eq x).trans h)
/-! loop.example/g00224/impl.isSeq -/
def fl89 : List (Nat × Sig) := [(58, sg58)]
def en89 : Env := { n := 5, ty := assocN tyL, fns := assocN fl89, lo := 0 }
def su89 : Bool → Nat → Option Sub | _, _ => none
theorem ok89 : EnvOk Try.prog en89 := envOk_of rfl rfl tyL_ok (⟨so58, trivial⟩)
theorem t89Eq (x : Ps ins89) : evF en89 su89 Try.f89 ins89 res89 x = t89 x := by kernel_rfl
theorem so89 : Sound Try.prog 89 sg89 :=
  sound_of (fn := Try.f89) (c := bodyOf Try.f89) (subs := su89) (E := en89) (by kernel_rfl) (by kernel_rfl) (by decide) ok89 (by kernel_rfl) (by kernel_rfl) (by decide)
    (fun X hX => (GoodN.good (K := True) (Eq.mpr (show GoodN Try.prog X 5 en89 su89 (bodyOf Try.f89) True = (True) by kernel_rfl) trivial)).1)
    (fun x r h => (t89Eq x).trans h)
/-! loop.example/g00224/impl.GoodItem -/
def fl73 : List (Nat × Sig) := [(59, sg59), (89, sg89), (58, sg58), (60, sg60)]
def en73 : Env := { n := 31, ty := assocN tyL, fns := assocN fl73, lo := 0 }
def su73 : Bool → Nat → Option Sub | _, _ => none
theorem ok73 : EnvOk Try.prog en73 := envOk_of rfl rfl tyL_ok (⟨so59, ⟨so89, ⟨so58, ⟨so60, trivial⟩⟩⟩⟩)
theorem t73Eq (x : Ps ins73) : evF en73 su73 Try.f73 ins73 res73 x = t73 x := by kernel_rfl
theorem so73 : Sound Try.prog 73 sg73 :=
  sound_of (fn := Try.f73) (c := bodyOf Try.f73) (subs := su73) (E := en73) (by kernel_rfl) (by kernel_rfl) (by decide) ok73 (by kernel_rfl) (by kernel_rfl) (by decide)
    (fun X hX => (GoodN.good (K := True) (Eq.mpr (show GoodN Try.prog X 31 en73 su73 (bodyOf Try.f73) True = (True) by kernel_rfl) trivial)).1)
    (fun x r h => (t73Eq x).trans h)
/-! cmp.isNaN[string] -/
def fl105 : List (Nat × Sig) := []
def en105 : Env := { n := 6, ty := assocN tyL, fns := assocN fl105, lo := 0 }
def su105 : Bool → Nat → Option Sub | _, _ => none
theorem ok105 : EnvOk Try.prog en105 := envOk_of rfl rfl tyL_ok (trivial)
theorem t105Eq (x : Ps ins105) : evF en105 su105 Try.f105 ins105 res105 x = t105 x := by kernel_rfl
theorem so105 : Sound Try.prog 105 sg105 :=
  sound_of (fn := Try.f105) (c := bodyOf Try.f105) (subs := su105) (E := en105) (by kernel_rfl) (by kernel_rfl) (by decide) ok105 (by kernel_rfl) (by kernel_rfl) (by decide)
    (fun X hX => (GoodN.good (K := True) (Eq.mpr (show GoodN Try.prog X 6 en105 su105 (bodyOf Try.f105) True = (True) by kernel_rfl) trivial)).1)
    (fun x r h => (t105Eq x).trans h)
/-! cmp.Compare[string] -/
def fl97 : List (Nat × Sig) := [(105, sg105)]
def en97 : Env := { n := 20, ty := assocN tyL, fns := assocN fl97, lo := 0 }
def su97 : Bool → Nat → Option Sub | _, _ => none
theorem ok97 : EnvOk Try.prog en97 := envOk_of rfl rfl tyL_ok (⟨so105, trivial⟩)
theorem t97Eq (x : Ps ins97) : evF en97 su97 Try.f97 ins97 res97 x = t97 x := by kernel_rfl
theorem so97 : Sound Try.prog 97 sg97 :=
  sound_of (fn := Try.f97) (c := bodyOf Try.f97) (subs := su97) (E := en97) (by kernel_rfl) (by kernel_rfl) (by decide) ok97 (by kernel_rfl) (by kernel_rfl) (by decide)
    (fun X hX => (GoodN.good (K := True) (Eq.mpr (show GoodN Try.prog X 20 en97 su97 (bodyOf Try.f97) True = (True) by kernel_rfl) trivial)).1)
    (fun x r h => (t97Eq x).trans h)
/-! cmp.isNaN[int] -/
def fl106 : List (Nat × Sig) := []
def en106 : Env := { n := 6, ty := assocN tyL, fns := assocN fl106, lo := 0 }
def su106 : Bool → Nat → Option Sub | _, _ => none
theorem ok106 : EnvOk Try.prog en106 := envOk_of rfl rfl tyL_ok (trivial)
theorem t106Eq (x : Ps ins106) : evF en106 su106 Try.f106 ins106 res106 x = t106 x := by kernel_rfl
theorem so106 : Sound Try.prog 106 sg106 :=
  sound_of (fn := Try.f106) (c := bodyOf Try.f106) (subs := su106) (E := en106) (by kernel_rfl) (by kernel_rfl) (by decide) ok106 (by kernel_rfl) (by kernel_rfl) (by decide)
    (fun X hX => (GoodN.good (K := True) (Eq.mpr (show GoodN Try.prog X 6 en106 su106 (bodyOf Try.f106) True = (True) by kernel_rfl) trivial)).1)
    (fun x r h => (t106Eq x).trans h)
/-! cmp.Compare[int] -/
def fl98 : List (Nat × Sig) := [(106, sg106)]
def en98 : Env := { n := 20, ty := assocN tyL, fns := assocN fl98, lo := 0 }
def su98 : Bool → Nat → Option Sub | _, _ => none
theorem ok98 : EnvOk Try.prog en98 := envOk_of rfl rfl tyL_ok (⟨so106, trivial⟩)
theorem t98Eq (x : Ps ins98) : evF en98 su98 Try.f98 ins98 res98 x = t98 x := by kernel_rfl
theorem so98 : Sound Try.prog 98 sg98 :=
  sound_of (fn := Try.f98) (c := bodyOf Try.f98) (subs := su98) (E := en98) (by kernel_rfl) (by kernel_rfl) (by decide) ok98 (by kernel_rfl) (by kernel_rfl) (by decide)
    (fun X hX => (GoodN.good (K := True) (Eq.mpr (show GoodN Try.prog X 20 en98 su98 (bodyOf Try.f98) True = (True) by kernel_rfl) trivial)).1)
    (fun x r h => (t98Eq x).trans h)
/-! cmp.Or[int] -/
def fl96 : List (Nat × Sig) := []
def en96 : Env := { n := 18, ty := assocN tyL, fns := assocN fl96, lo := 0 }
def su96 : Bool → Nat → Option Sub | true, 3 => some ⟨t96l3c, t96l3v, t96l3e, loopF t96l3⟩ | _, _ => none
theorem ok96 : EnvOk Try.prog en96 := envOk_of rfl rfl tyL_ok (trivial)
theorem t96l3Eq (R : Type) (c : Vars t96l3c) (v : Vars t96l3v) (kk : Vars t96l3c → (Vars t96l3v ⊕ Oc t96l3e) → Option R) : evC en96 su96 (loopAt 3 Try.f96) (Desc.mk2 t96l3v v (Desc.mk2 t96l3c c .empty)) (fun o => bodyK t96l3c t96l3v t96l3e o kk) = t96l3 R c v kk := by kernel_rfl
theorem t96l3Ok {X : Cx} (hX : en96.lo = X.lo) : SubOk Try.prog X 18 ⟨t96l3c, t96l3v, t96l3e, loopF t96l3⟩ (.loop (loopAt 3 Try.f96)) :=
  sub_loop (subs := su96) ok96 rfl hX (GoodN.good (K := True) (Eq.mpr (show GoodN Try.prog X 18 en96 su96 (loopAt 3 Try.f96) True = (True) by kernel_rfl) trivial)).1 (by decide) (by decide) t96l3Eq
theorem t96Eq (x : Ps ins96) : evF en96 su96 Try.f96 ins96 res96 x = t96 x := by kernel_rfl
theorem so96 : Sound Try.prog 96 sg96 :=
  sound_of (fn := Try.f96) (c := bodyOf Try.f96) (subs := su96) (E := en96) (by kernel_rfl) (by kernel_rfl) (by decide) ok96 (by kernel_rfl) (by kernel_rfl) (by decide)
    (fun X hX => (GoodN.good (K := True) (Eq.mpr (show GoodN Try.prog X 18 en96 su96 (bodyOf Try.f96) True = (SubOk Try.prog X 18 ⟨t96l3c, t96l3v, t96l3e, loopF t96l3⟩ (.loop (loopAt 3 Try.f96)) ∧ True) by kernel_rfl) ⟨(t96l3Ok hX), trivial⟩)).1)
    (fun x r h => (t96Eq x).trans h)
/-! loop.example/g00224/impl.itemOrder -/
def fl74 : List (Nat × Sig) := [(97, sg97), (98, sg98), (96, sg96)]
def en74 : Env := { n := 17, ty := assocN tyL, fns := assocN fl74, lo := 0 }
def su74 : Bool → Nat → Option Sub | _, _ => none
theorem ok74 : EnvOk Try.prog en74 := envOk_of rfl rfl tyL_ok (⟨so97, ⟨so98, ⟨so96, trivial⟩⟩⟩)
theorem dr74r1 {X : Cx} (hX : en74.lo = X.lo) : RegOk Try.prog X 17 en74 1 (regAt 1 Try.f74) := regOk_of ok74 rfl hX (by kernel_rfl) (by kernel_rfl)
theorem t74Eq (x : Ps ins74) : evF en74 su74 Try.f74 ins74 res74 x = t74 x := by kernel_rfl
theorem so74 : Sound Try.prog 74 sg74 :=
  sound_of (fn := Try.f74) (c := bodyOf Try.f74) (subs := su74) (E := en74) (by kernel_rfl) (by kernel_rfl) (by decide) ok74 (by kernel_rfl) (by kernel_rfl) (by decide)
    (fun X hX => (GoodN.good (K := True) (Eq.mpr (show GoodN Try.prog X 17 en74 su74 (bodyOf Try.f74) True = (RegOk Try.prog X 17 en74 1 (regAt 1 Try.f74) ∧ True) by kernel_rfl) ⟨(dr74r1 hX), trivial⟩)).1)
    (fun x r h => (t74Eq x).trans h)
/-! loop.example/g00224/impl.GoodRun -/
def fl50 : List (Nat × Sig) := [(73, sg73), (74, sg74)]
def en50 : Env := { n := 30, ty := assocN tyL, fns := assocN fl50, lo := 0 }
def su50 : Bool → Nat → Option Sub | true, 2 => some ⟨t50l2c, t50l2v, t50l2e, loopF t50l2⟩ | _, _ => none
theorem ok50 : EnvOk Try.prog en50 := envOk_of rfl rfl tyL_ok (⟨so73, ⟨so74, trivial⟩⟩)
theorem dr50r4 {X : Cx} (hX : en50.lo = X.lo) : RegOk Try.prog X 30 en50 4 (regAt 4 Try.f50) := regOk_of ok50 rfl hX (by kernel_rfl) (by kernel_rfl)
theorem t50l2Eq (R : Type) (c : Vars t50l2c) (v : Vars t50l2v) (kk : Vars t50l2c → (Vars t50l2v ⊕ Oc t50l2e) → Option R) : evC en50 su50 (loopAt 2 Try.f50) (Desc.mk2 t50l2v v (Desc.mk2 t50l2c c .empty)) (fun o => bodyK t50l2c t50l2v t50l2e o kk) = t50l2 R c v kk := by kernel_rfl
theorem t50l2Ok {X : Cx} (hX : en50.lo = X.lo) : SubOk Try.prog X 30 ⟨t50l2c, t50l2v, t50l2e, loopF t50l2⟩ (.loop (loopAt 2 Try.f50)) :=
  sub_loop (subs := su50) ok50 rfl hX (GoodN.good (K := True) (Eq.mpr (show GoodN Try.prog X 30 en50 su50 (loopAt 2 Try.f50) True = (RegOk Try.prog X 30 en50 4 (regAt 4 Try.f50) ∧ True) by kernel_rfl) ⟨(dr50r4 hX), trivial⟩)).1 (by decide) (by decide) t50l2Eq
theorem t50Eq (x : Ps ins50) : evF en50 su50 Try.f50 ins50 res50 x = t50 x := by kernel_rfl
theorem so50 : Sound Try.prog 50 sg50 :=
  sound_of (fn := Try.f50) (c := bodyOf Try.f50) (subs := su50) (E := en50) (by kernel_rfl) (by kernel_rfl) (by decide) ok50 (by kernel_rfl) (by kernel_rfl) (by decide)
    (fun X hX => (GoodN.good (K := True) (Eq.mpr (show GoodN Try.prog X 30 en50 su50 (bodyOf Try.f50) True = (SubOk Try.prog X 30 ⟨t50l2c, t50l2v, t50l2e, loopF t50l2⟩ (.loop (loopAt 2 Try.f50)) ∧ True) by kernel_rfl) ⟨(t50l2Ok hX), trivial⟩)).1)
    (fun x r h => (t50Eq x).trans h)
/-! loop.example/g00224/impl.CommonOf -/
def fl75 : List (Nat × Sig) := []
def en75 : Env := { n := 25, ty := assocN tyL, fns := assocN fl75, lo := 0 }
def su75 : Bool → Nat → Option Sub | true, 2 => some ⟨t75l2c, t75l2v, t75l2e, loopF t75l2⟩ | _, _ => none
theorem ok75 : EnvOk Try.prog en75 := envOk_of rfl rfl tyL_ok (trivial)
theorem dr75r2 {X : Cx} (hX : en75.lo = X.lo) : RegOk Try.prog X 25 en75 2 (regAt 2 Try.f75) := regOk_of ok75 rfl hX (by kernel_rfl) (by kernel_rfl)
theorem t75l2Eq (R : Type) (c : Vars t75l2c) (v : Vars t75l2v) (kk : Vars t75l2c → (Vars t75l2v ⊕ Oc t75l2e) → Option R) : evC en75 su75 (loopAt 2 Try.f75) (Desc.mk2 t75l2v v (Desc.mk2 t75l2c c .empty)) (fun o => bodyK t75l2c t75l2v t75l2e o kk) = t75l2 R c v kk := by kernel_rfl
theorem t75l2Ok {X : Cx} (hX : en75.lo = X.lo) : SubOk Try.prog X 25 ⟨t75l2c, t75l2v, t75l2e, loopF t75l2⟩ (.loop (loopAt 2 Try.f75)) :=
  sub_loop (subs := su75) ok75 rfl hX (GoodN.good (K := True) (Eq.mpr (show GoodN Try.prog X 25 en75 su75 (loopAt 2 Try.f75) True = (RegOk Try.prog X 25 en75 2 (regAt 2 Try.f75) ∧ True) by kernel_rfl) ⟨(dr75r2 hX), trivial⟩)).1 (by decide) (by decide) t75l2Eq
theorem t75Eq (x : Ps ins75) : evF en75 su75 Try.f75 ins75 res75 x = t75 x := by kernel_rfl
theorem so75 : Sound Try.prog 75 sg75 :=
  sound_of (fn := Try.f75) (c := bodyOf Try.f75) (subs := su75) (E := en75) (by kernel_rfl) (by kernel_rfl) (by decide) ok75 (by kernel_rfl) (by kernel_rfl) (by decide)
    (fun X hX => (GoodN.good (K := True) (Eq.mpr (show GoodN Try.prog X 25 en75 su75 (bodyOf Try.f75) True = (SubOk Try.prog X 25 ⟨t75l2c, t75l2v, t75l2e, loopF t75l2⟩ (.loop (loopAt 2 Try.f75)) ∧ True) by kernel_rfl) ⟨(t75l2Ok hX), trivial⟩)).1)
    (fun x r h => (t75Eq x).trans h)
/-! loop.example/g00224/impl.varBytes -/
def fl76 : List (Nat × Sig) := []
def hi76 : List (Nat × (K × Mk)) := [(3, ((.sl (.int .u8)), (.o .s)))]
def en76 : Env := { n := 22, ty := assocN tyL, fns := assocN fl76, lo := 0, hint := assocN hi76 }
def su76 : Bool → Nat → Option Sub | true, 2 => some ⟨t76l2c, t76l2v, t76l2e, loopF t76l2⟩ | _, _ => none
theorem ok76 : EnvOk Try.prog en76 := envOk_of rfl rfl tyL_ok (trivial)
theorem t76l2Eq (R : Type) (c : Vars t76l2c) (v : Vars t76l2v) (kk : Vars t76l2c → (Vars t76l2v ⊕ Oc t76l2e) → Option R) : evC en76 su76 (loopAt 2 Try.f76) (Desc.mk2 t76l2v v (Desc.mk2 t76l2c c .empty)) (fun o => bodyK t76l2c t76l2v t76l2e o kk) = t76l2 R c v kk := by kernel_rfl
theorem t76l2Ok {X : Cx} (hX : en76.lo = X.lo) : SubOk Try.prog X 22 ⟨t76l2c, t76l2v, t76l2e, loopF t76l2⟩ (.loop (loopAt 2 Try.f76)) :=
  sub_loop (subs := su76) ok76 rfl hX (GoodN.good (K := True) (Eq.mpr (show GoodN Try.prog X 22 en76 su76 (loopAt 2 Try.f76) True = (True) by kernel_rfl) trivial)).1 (by decide) (by decide) t76l2Eq
theorem t76Eq (x : Ps ins76) : evF en76 su76 Try.f76 ins76 res76 x = t76 x := by kernel_rfl
theorem so76 : Sound Try.prog 76 sg76 :=
  sound_of (fn := Try.f76) (c := bodyOf Try.f76) (subs := su76) (E := en76) (by kernel_rfl) (by kernel_rfl) (by decide) ok76 (by kernel_rfl) (by kernel_rfl) (by decide)
    (fun X hX => (GoodN.good (K := True) (Eq.mpr (show GoodN Try.prog X 22 en76 su76 (bodyOf Try.f76) True = (SubOk Try.prog X 22 ⟨t76l2c, t76l2v, t76l2e, loopF t76l2⟩ (.loop (loopAt 2 Try.f76)) ∧ True) by kernel_rfl) ⟨(t76l2Ok hX), trivial⟩)).1)
    (fun x r h => (t76Eq x).trans h)
/-! loop.example/g00224/impl.lowFirst -/
def fl77 : List (Nat × Sig) := []
def hi77 : List (Nat × (K × Mk)) := [(5, ((.sl (.int .u8)), (.o .s)))]
def en77 : Env := { n := 20, ty := assocN tyL, fns := assocN fl77, lo := 0, hint := assocN hi77 }
def su77 : Bool → Nat → Option Sub | true, 3 => some ⟨t77l3c, t77l3v, t77l3e, loopF t77l3⟩ | _, _ => none
theorem ok77 : EnvOk Try.prog en77 := envOk_of rfl rfl tyL_ok (trivial)
theorem t77l3Eq (R : Type) (c : Vars t77l3c) (v : Vars t77l3v) (kk : Vars t77l3c → (Vars t77l3v ⊕ Oc t77l3e) → Option R) : evC en77 su77 (loopAt 3 Try.f77) (Desc.mk2 t77l3v v (Desc.mk2 t77l3c c .empty)) (fun o => bodyK t77l3c t77l3v t77l3e o kk) = t77l3 R c v kk := by kernel_rfl
theorem t77l3Ok {X : Cx} (hX : en77.lo = X.lo) : SubOk Try.prog X 20 ⟨t77l3c, t77l3v, t77l3e, loopF t77l3⟩ (.loop (loopAt 3 Try.f77)) :=
  sub_loop (subs := su77) ok77 rfl hX (GoodN.good (K := True) (Eq.mpr (show GoodN Try.prog X 20 en77 su77 (loopAt 3 Try.f77) True = (True) by kernel_rfl) trivial)).1 (by decide) (by decide) t77l3Eq
theorem t77Eq (x : Ps ins77) : evF en77 su77 Try.f77 ins77 res77 x = t77 x := by kernel_rfl
theorem so77 : Sound Try.prog 77 sg77 :=
  sound_of (fn := Try.f77) (c := bodyOf Try.f77) (subs := su77) (E := en77) (by kernel_rfl) (by kernel_rfl) (by decide) ok77 (by kernel_rfl) (by kernel_rfl) (by decide)
    (fun X hX => (GoodN.good (K := True) (Eq.mpr (show GoodN Try.prog X 20 en77 su77 (bodyOf Try.f77) True = (SubOk Try.prog X 20 ⟨t77l3c, t77l3v, t77l3e, loopF t77l3⟩ (.loop (loopAt 3 Try.f77)) ∧ True) by kernel_rfl) ⟨(t77l3Ok hX), trivial⟩)).1)
    (fun x r h => (t77Eq x).trans h)
/-! loop.example/g00224/impl.SumTable -/
def fl107 : List (Nat × Sig) := []
def hi107 : List (Nat × (K × Mk)) := [(0, ((.sl (.int .u32)), (.o .s))), (1, ((.sl (.int .u32)), (.o .s)))]
def en107 : Env := { n := 25, ty := assocN tyL, fns := assocN fl107, lo := 0, hint := assocN hi107 }
def su107 : Bool → Nat → Option Sub | false, 10 => some ⟨t107i10c, t107i10v, t107i10e, t107i10⟩ | true, 6 => some ⟨t107l6c, t107l6v, t107l6e, loopF t107l6⟩ | true, 3 => some ⟨t107l3c, t107l3v, t107l3e, loopF t107l3⟩ | _, _ => none
theorem ok107 : EnvOk Try.prog en107 := envOk_of rfl rfl tyL_ok (trivial)
def su107i10 : Bool → Nat → Option Sub | true, 6 => some ⟨t107l6c, t107l6v, t107l6e, loopF t107l6⟩ | true, 3 => some ⟨t107l3c, t107l3v, t107l3e, loopF t107l3⟩ | _, _ => none
theorem t107i10Eq (R : Type) (c : Vars t107i10c) (v : Vars t107i10v) (kk : Vars t107i10c → Oc t107i10e → Option R) : evC en107 su107i10 (ifAt 10 Try.f107) (Desc.mk2 t107i10v v (Desc.mk2 t107i10c c .empty)) (fun o => chk t107i10c t107i10e o kk) = t107i10 R c v kk := by kernel_rfl
theorem t107i10Ok {X : Cx} (hX : en107.lo = X.lo) : SubOk Try.prog X 25 ⟨t107i10c, t107i10v, t107i10e, t107i10⟩ (ifAt 10 Try.f107) :=
  sub_if (u := ⟨t107i10c, t107i10v, t107i10e, t107i10⟩) (subs := su107i10) ok107 rfl hX (GoodN.good (K := True) (Eq.mpr (show GoodN Try.prog X 25 en107 su107i10 (ifAt 10 Try.f107) True = (True) by kernel_rfl) trivial)).1 (by decide) (by decide) t107i10Eq
theorem t107l6Eq (R : Type) (c : Vars t107l6c) (v : Vars t107l6v) (kk : Vars t107l6c → (Vars t107l6v ⊕ Oc t107l6e) → Option R) : evC en107 su107 (loopAt 6 Try.f107) (Desc.mk2 t107l6v v (Desc.mk2 t107l6c c .empty)) (fun o => bodyK t107l6c t107l6v t107l6e o kk) = t107l6 R c v kk := by kernel_rfl
theorem t107l6Ok {X : Cx} (hX : en107.lo = X.lo) : SubOk Try.prog X 25 ⟨t107l6c, t107l6v, t107l6e, loopF t107l6⟩ (.loop (loopAt 6 Try.f107)) :=
  sub_loop (subs := su107) ok107 rfl hX (GoodN.good (K := True) (Eq.mpr (show GoodN Try.prog X 25 en107 su107 (loopAt 6 Try.f107) True = (SubOk Try.prog X 25 ⟨t107i10c, t107i10v, t107i10e, t107i10⟩ (ifAt 10 Try.f107) ∧ True) by kernel_rfl) ⟨(t107i10Ok hX), trivial⟩)).1 (by decide) (by decide) t107l6Eq
theorem t107l3Eq (R : Type) (c : Vars t107l3c) (v : Vars t107l3v) (kk : Vars t107l3c → (Vars t107l3v ⊕ Oc t107l3e) → Option R) : evC en107 su107 (loopAt 3 Try.f107) (Desc.mk2 t107l3v v (Desc.mk2 t107l3c c .empty)) (fun o => bodyK t107l3c t107l3v t107l3e o kk) = t107l3 R c v kk := by kernel_rfl
theorem t107l3Ok {X : Cx} (hX : en107.lo = X.lo) : SubOk Try.prog X 25 ⟨t107l3c, t107l3v, t107l3e, loopF t107l3⟩ (.loop (loopAt 3 Try.f107)) :=
  sub_loop (subs := su107) ok107 rfl hX (GoodN.good (K := True) (Eq.mpr (show GoodN Try.prog X 25 en107 su107 (loopAt 3 Try.f107) True = (SubOk Try.prog X 25 ⟨t107l6c, t107l6v, t107l6e, loopF t107l6⟩ (.loop (loopAt 6 Try.f107)) ∧ True) by kernel_rfl) ⟨(t107l6Ok hX), trivial⟩)).1 (by decide) (by decide) t107l3Eq
theorem t107Eq (x : Ps ins107) : evF en107 su107 Try.f107 ins107 res107 x = t107 x := by kernel_rfl
theorem so107 : Sound Try.prog 107 sg107 :=
  sound_of (fn := Try.f107) (c := bodyOf Try.f107) (subs := su107) (E := en107) (by kernel_rfl) (by kernel_rfl) (by decide) ok107 (by kernel_rfl) (by kernel_rfl) (by decide)
    (fun X hX => (GoodN.good (K := True) (Eq.mpr (show GoodN Try.prog X 25 en107 su107 (bodyOf Try.f107) True = (SubOk Try.prog X 25 ⟨t107l3c, t107l3v, t107l3e, loopF t107l3⟩ (.loop (loopAt 3 Try.f107)) ∧ True) by kernel_rfl) ⟨(t107l3Ok hX), trivial⟩)).1)
    (fun x r h => (t107Eq x).trans h)
/-! loop.example/g00224/impl.SumOn -/
def fl99 : List (Nat × Sig) := [(107, sg107)]
def hi99 : List (Nat × (K × Mk)) := [(5, ((.sl (.int .u32)), (.o .s)))]
def en99 : Env := { n := 27, ty := assocN tyL, fns := assocN fl99, lo := 0, hint := assocN hi99 }
def su99 : Bool → Nat → Option Sub | true, 3 => some ⟨t99l3c, t99l3v, t99l3e, loopF t99l3⟩ | _, _ => none
theorem ok99 : EnvOk Try.prog en99 := envOk_of rfl rfl tyL_ok (⟨so107, trivial⟩)
theorem t99l3Eq (R : Type) (c : Vars t99l3c) (v : Vars t99l3v) (kk : Vars t99l3c → (Vars t99l3v ⊕ Oc t99l3e) → Option R) : evC en99 su99 (loopAt 3 Try.f99) (Desc.mk2 t99l3v v (Desc.mk2 t99l3c c .empty)) (fun o => bodyK t99l3c t99l3v t99l3e o kk) = t99l3 R c v kk := by kernel_rfl
theorem t99l3Ok {X : Cx} (hX : en99.lo = X.lo) : SubOk Try.prog X 27 ⟨t99l3c, t99l3v, t99l3e, loopF t99l3⟩ (.loop (loopAt 3 Try.f99)) :=
  sub_loop (subs := su99) ok99 rfl hX (GoodN.good (K := True) (Eq.mpr (show GoodN Try.prog X 27 en99 su99 (loopAt 3 Try.f99) True = (True) by kernel_rfl) trivial)).1 (by decide) (by decide) t99l3Eq
theorem t99Eq (x : Ps ins99) : evF en99 su99 Try.f99 ins99 res99 x = t99 x := by kernel_rfl
theorem so99 : Sound Try.prog 99 sg99 :=
  sound_of (fn := Try.f99) (c := bodyOf Try.f99) (subs := su99) (E := en99) (by kernel_rfl) (by kernel_rfl) (by decide) ok99 (by kernel_rfl) (by kernel_rfl) (by decide)
    (fun X hX => (GoodN.good (K := True) (Eq.mpr (show GoodN Try.prog X 27 en99 su99 (bodyOf Try.f99) True = (SubOk Try.prog X 27 ⟨t99l3c, t99l3v, t99l3e, loopF t99l3⟩ (.loop (loopAt 3 Try.f99)) ∧ True) by kernel_rfl) ⟨(t99l3Ok hX), trivial⟩)).1)
    (fun x r h => (t99Eq x).trans h)
/-! loop.example/g00224/impl.SumOf -/
def fl78 : List (Nat × Sig) := [(99, sg99)]
def en78 : Env := { n := 6, ty := assocN tyL, fns := assocN fl78, lo := 0 }
def su78 : Bool → Nat → Option Sub | _, _ => none
theorem ok78 : EnvOk Try.prog en78 := envOk_of rfl rfl tyL_ok (⟨so99, trivial⟩)
theorem t78Eq (x : Ps ins78) : evF en78 su78 Try.f78 ins78 res78 x = t78 x := by kernel_rfl
theorem so78 : Sound Try.prog 78 sg78 :=
  sound_of (fn := Try.f78) (c := bodyOf Try.f78) (subs := su78) (E := en78) (by kernel_rfl) (by kernel_rfl) (by decide) ok78 (by kernel_rfl) (by kernel_rfl) (by decide)
    (fun X hX => (GoodN.good (K := True) (Eq.mpr (show GoodN Try.prog X 6 en78 su78 (bodyOf Try.f78) True = (True) by kernel_rfl) trivial)).1)
    (fun x r h => (t78Eq x).trans h)
/-! loop.example/g00224/impl.block -/
def fl51 : List (Nat × Sig) := [(75, sg75), (76, sg76), (77, sg77), (78, sg78)]
def hi51 : List (Nat × (K × Mk)) := [(3, ((.sl (.int .i64)), (.o .s))), (5, ((.sl (.int .i64)), (.o .s)))]
def en51 : Env := { n := 91, ty := assocN tyL, fns := assocN fl51, lo := 0, hint := assocN hi51 }
def su51 : Bool → Nat → Option Sub | false, 7 => some ⟨t51i7c, t51i7v, t51i7e, t51i7⟩ | true, 3 => some ⟨t51l3c, t51l3v, t51l3e, loopF t51l3⟩ | true, 12 => some ⟨t51l12c, t51l12v, t51l12e, loopF t51l12⟩ | _, _ => none
theorem ok51 : EnvOk Try.prog en51 := envOk_of rfl rfl tyL_ok (⟨so75, ⟨so76, ⟨so77, ⟨so78, trivial⟩⟩⟩⟩)
theorem dr51r8 {X : Cx} (hX : en51.lo = X.lo) : RegOk Try.prog X 91 en51 8 (regAt 8 Try.f51) := regOk_of ok51 rfl hX (by kernel_rfl) (by kernel_rfl)
def su51i7 : Bool → Nat → Option Sub | true, 3 => some ⟨t51l3c, t51l3v, t51l3e, loopF t51l3⟩ | true, 12 => some ⟨t51l12c, t51l12v, t51l12e, loopF t51l12⟩ | _, _ => none
theorem t51i7Eq (R : Type) (c : Vars t51i7c) (v : Vars t51i7v) (kk : Vars t51i7c → Oc t51i7e → Option R) : evC en51 su51i7 (ifAt 7 Try.f51) (Desc.mk2 t51i7v v (Desc.mk2 t51i7c c .empty)) (fun o => chk t51i7c t51i7e o kk) = t51i7 R c v kk := by kernel_rfl
theorem t51i7Ok {X : Cx} (hX : en51.lo = X.lo) : SubOk Try.prog X 91 ⟨t51i7c, t51i7v, t51i7e, t51i7⟩ (ifAt 7 Try.f51) :=
  sub_if (u := ⟨t51i7c, t51i7v, t51i7e, t51i7⟩) (subs := su51i7) ok51 rfl hX (GoodN.good (K := True) (Eq.mpr (show GoodN Try.prog X 91 en51 su51i7 (ifAt 7 Try.f51) True = (True) by kernel_rfl) trivial)).1 (by decide) (by decide) t51i7Eq
theorem t51l3Eq (R : Type) (c : Vars t51l3c) (v : Vars t51l3v) (kk : Vars t51l3c → (Vars t51l3v ⊕ Oc t51l3e) → Option R) : evC en51 su51 (loopAt 3 Try.f51) (Desc.mk2 t51l3v v (Desc.mk2 t51l3c c .empty)) (fun o => bodyK t51l3c t51l3v t51l3e o kk) = t51l3 R c v kk := by kernel_rfl
theorem t51l3Ok {X : Cx} (hX : en51.lo = X.lo) : SubOk Try.prog X 91 ⟨t51l3c, t51l3v, t51l3e, loopF t51l3⟩ (.loop (loopAt 3 Try.f51)) :=
  sub_loop (subs := su51) ok51 rfl hX (GoodN.good (K := True) (Eq.mpr (show GoodN Try.prog X 91 en51 su51 (loopAt 3 Try.f51) True = (SubOk Try.prog X 91 ⟨t51i7c, t51i7v, t51i7e, t51i7⟩ (ifAt 7 Try.f51) ∧ RegOk Try.prog X 91 en51 8 (regAt 8 Try.f51) ∧ True) by kernel_rfl) ⟨(t51i7Ok hX), (dr51r8 hX), trivial⟩)).1 (by decide) (by decide) t51l3Eq
theorem t51l12Eq (R : Type) (c : Vars t51l12c) (v : Vars t51l12v) (kk : Vars t51l12c → (Vars t51l12v ⊕ Oc t51l12e) → Option R) : evC en51 su51 (loopAt 12 Try.f51) (Desc.mk2 t51l12v v (Desc.mk2 t51l12c c .empty)) (fun o => bodyK t51l12c t51l12v t51l12e o kk) = t51l12 R c v kk := by kernel_rfl
theorem t51l12Ok {X : Cx} (hX : en51.lo = X.lo) : SubOk Try.prog X 91 ⟨t51l12c, t51l12v, t51l12e, loopF t51l12⟩ (.loop (loopAt 12 Try.f51)) :=
  sub_loop (subs := su51) ok51 rfl hX (GoodN.good (K := True) (Eq.mpr (show GoodN Try.prog X 91 en51 su51 (loopAt 12 Try.f51) True = (True) by kernel_rfl) trivial)).1 (by decide) (by decide) t51l12Eq
theorem t51Eq (x : Ps ins51) : evF en51 su51 Try.f51 ins51 res51 x = t51 x := by kernel_rfl
theorem so51 : Sound Try.prog 51 sg51 :=
  sound_of (fn := Try.f51) (c := bodyOf Try.f51) (subs := su51) (E := en51) (by kernel_rfl) (by kernel_rfl) (by decide) ok51 (by kernel_rfl) (by kernel_rfl) (by decide)
    (fun X hX => (GoodN.good (K := True) (Eq.mpr (show GoodN Try.prog X 91 en51 su51 (bodyOf Try.f51) True = (SubOk Try.prog X 91 ⟨t51l3c, t51l3v, t51l3e, loopF t51l3⟩ (.loop (loopAt 3 Try.f51)) ∧ SubOk Try.prog X 91 ⟨t51l12c, t51l12v, t51l12e, loopF t51l12⟩ (.loop (loopAt 12 Try.f51)) ∧ True) by kernel_rfl) ⟨(t51l3Ok hX), (t51l12Ok hX), trivial⟩)).1)
    (fun x r h => (t51Eq x).trans h)
/-! loop.example/g00224/impl.readBlock -/
def fl46 : List (Nat × Sig) := [(70, sg70), (71, sg71), (50, sg50), (51, sg51)]
def hi46 : List (Nat × (K × Mk)) := [(2, ((.sl kd51), (.o .s))), (3, ((.sl (.int .i64)), (.o .s))), (7, ((.sl kd51), (.o .s))), (10, ((.sl (.int .i64)), (.o .s)))]
def en46 : Env := { n := 59, ty := assocN tyL, fns := assocN fl46, lo := 0, hint := assocN hi46 }
def su46 : Bool → Nat → Option Sub | _, _ => none
theorem ok46 : EnvOk Try.prog en46 := envOk_of rfl rfl tyL_ok (⟨so70, ⟨so71, ⟨so50, ⟨so51, trivial⟩⟩⟩⟩)
theorem t46Eq (x : Ps ins46) : evF en46 su46 Try.f46 ins46 res46 x = t46 x := by kernel_rfl
theorem so46 : Sound Try.prog 46 sg46 :=
  sound_of (fn := Try.f46) (c := bodyOf Try.f46) (subs := su46) (E := en46) (by kernel_rfl) (by kernel_rfl) (by decide) ok46 (by kernel_rfl) (by kernel_rfl) (by decide)
    (fun X hX => (GoodN.good (K := True) (Eq.mpr (show GoodN Try.prog X 59 en46 su46 (bodyOf Try.f46) True = (True) by kernel_rfl) trivial)).1)
    (fun x r h => (t46Eq x).trans h)
/-! loop.example/g00224/impl.ReadBlock -/
def fl25 : List (Nat × Sig) := [(46, sg46)]
def hi25 : List (Nat × (K × Mk)) := [(2, ((.sl kd51), (.o .s))), (4, ((.sl kd51), (.o .s))), (5, ((.sl (.int .i64)), (.o .s)))]
def en25 : Env := { n := 16, ty := assocN tyL, fns := assocN fl25, lo := 0, hint := assocN hi25 }
def su25 : Bool → Nat → Option Sub | _, _ => none
theorem ok25 : EnvOk Try.prog en25 := envOk_of rfl rfl tyL_ok (⟨so46, trivial⟩)
theorem t25Eq (x : Ps ins25) : evF en25 su25 Try.f25 ins25 res25 x = t25 x := by kernel_rfl
theorem so25 : Sound Try.prog 25 sg25 :=
  sound_of (fn := Try.f25) (c := bodyOf Try.f25) (subs := su25) (E := en25) (by kernel_rfl) (by kernel_rfl) (by decide) ok25 (by kernel_rfl) (by kernel_rfl) (by decide)
    (fun X hX => (GoodN.good (K := True) (Eq.mpr (show GoodN Try.prog X 16 en25 su25 (bodyOf Try.f25) True = (True) by kernel_rfl) trivial)).1)
    (fun x r h => (t25Eq x).trans h)
/-! loop.example/g00224/impl.FirstIn -/
def fl18 : List (Nat × Sig) := [(25, sg25)]
def hi18 : List (Nat × (K × Mk)) := [(4, ((.sl kd51), (.o .s)))]
def en18 : Env := { n := 22, ty := assocN tyL, fns := assocN fl18, lo := 0, hint := assocN hi18 }
def su18 : Bool → Nat → Option Sub | _, _ => none
theorem ok18 : EnvOk Try.prog en18 := envOk_of rfl rfl tyL_ok (⟨so25, trivial⟩)
theorem t18Eq (x : Ps ins18) : evF en18 su18 Try.f18 ins18 res18 x = t18 x := by kernel_rfl
theorem so18 : Sound Try.prog 18 sg18 :=
  sound_of (fn := Try.f18) (c := bodyOf Try.f18) (subs := su18) (E := en18) (by kernel_rfl) (by kernel_rfl) (by decide) ok18 (by kernel_rfl) (by kernel_rfl) (by decide)
    (fun X hX => (GoodN.good (K := True) (Eq.mpr (show GoodN Try.prog X 22 en18 su18 (bodyOf Try.f18) True = (True) by kernel_rfl) trivial)).1)
    (fun x r h => (t18Eq x).trans h)
/-! loop.example/g00224/laws.FnExactFirstIn -/
def fl5 : List (Nat × Sig) := [(17, sg17), (18, sg18)]
def en5 : Env := { n := 28, ty := assocN tyL, fns := assocN fl5, lo := 0 }
def su5 : Bool → Nat → Option Sub | _, _ => none
theorem ok5 : EnvOk Try.prog en5 := envOk_of rfl rfl tyL_ok (⟨so17, ⟨so18, trivial⟩⟩)
theorem t5Eq (x : Ps ins5) : evF en5 su5 Try.f5 ins5 res5 x = t5 x := by kernel_rfl
theorem so5 : Sound Try.prog 5 sg5 :=
  sound_of (fn := Try.f5) (c := bodyOf Try.f5) (subs := su5) (E := en5) (by kernel_rfl) (by kernel_rfl) (by decide) ok5 (by kernel_rfl) (by kernel_rfl) (by decide)
    (fun X hX => (GoodN.good (K := True) (Eq.mpr (show GoodN Try.prog X 28 en5 su5 (bodyOf Try.f5) True = (True) by kernel_rfl) trivial)).1)
    (fun x r h => (t5Eq x).trans h)
end Go.Proofs.Ytpegmiofhfmepaa
