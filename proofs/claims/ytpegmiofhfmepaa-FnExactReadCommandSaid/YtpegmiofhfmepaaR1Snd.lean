/- The typed functions are what the program's code says. (Printed by a program of mine, wip/tools/gen.py.) -/
import Derived.Test.YtpegmiofhfmepaaProg
import Derived.Test.YtpegmiofhfmepaaR1Fns
set_option linter.all false
set_option maxRecDepth 100000
noncomputable section
namespace Go.Proofs.Ytpegmiofhfmepaa
open Go Go.Proofs.Ytpegmiofhfmepaa.Ev
theorem ty3 : TyOk Try.prog 3 (.int .i64) := ⟨⟨by kernel_rfl, by kernel_rfl⟩, by kernel_rfl⟩
theorem ty4 : TyOk Try.prog 4 .bool := ⟨⟨by kernel_rfl, by kernel_rfl⟩, by kernel_rfl⟩
theorem ty5 : TyOk Try.prog 5 (.int .u8) := ⟨⟨by kernel_rfl, by kernel_rfl⟩, by kernel_rfl⟩
theorem ty9 : TyOk Try.prog 9 .str := ⟨⟨by kernel_rfl, by kernel_rfl⟩, by kernel_rfl⟩
theorem ty23 : TyOk Try.prog 23 kd23 := ty_struct (f := (⟨ "Session", 3, 0, false, "", "", 0⟩ : Field)) (l := [(⟨ "N", 3, 1, false, "", "", 8⟩ : Field), (⟨ "Op", 3, 2, false, "", "", 16⟩ : Field), (⟨ "Key", 9, 3, false, "", "", 24⟩ : Field), (⟨ "Value", 9, 4, false, "", "", 40⟩ : Field), (⟨ "Old", 9, 5, false, "", "", 56⟩ : Field)]) ⟨by kernel_rfl, by kernel_rfl⟩ (by kernel_rfl) (by kernel_rfl) ⟨rfl, by decide, ty3, ⟨rfl, by decide, ty3, ⟨rfl, by decide, ty3, ⟨rfl, by decide, ty9, ⟨rfl, by decide, ty9, ⟨rfl, by decide, ty9, rfl⟩⟩⟩⟩⟩⟩
theorem ty55 : TyOk Try.prog 55 kd55 := ty_struct (f := (⟨ "left", 9, 0, false, "", "loop.example/g00224/impl", 0⟩ : Field)) (l := [(⟨ "bad", 4, 1, false, "", "loop.example/g00224/impl", 16⟩ : Field)]) ⟨by kernel_rfl, by kernel_rfl⟩ (by kernel_rfl) (by kernel_rfl) ⟨rfl, by decide, ty9, ⟨rfl, by decide, ty4, rfl⟩⟩
theorem ty77 : TyOk Try.prog 77 kd55 := ty_struct (f := (⟨ "s", 9, 0, false, "", "loop.example/g00224/spec", 0⟩ : Field)) (l := [(⟨ "bad", 4, 1, false, "", "loop.example/g00224/spec", 16⟩ : Field)]) ⟨by kernel_rfl, by kernel_rfl⟩ (by kernel_rfl) (by kernel_rfl) ⟨rfl, by decide, ty9, ⟨rfl, by decide, ty4, rfl⟩⟩
theorem ty91 : TyOk Try.prog 91 (.int .u64) := ⟨⟨by kernel_rfl, by kernel_rfl⟩, by kernel_rfl⟩
def tyL : List (Nat × K) := [(3, (.int .i64)), (4, .bool), (5, (.int .u8)), (9, .str), (23, kd23), (55, kd55), (77, kd55), (91, (.int .u64))]
theorem tyL_ok : AllTy Try.prog tyL := ⟨ty3, ⟨ty4, ⟨ty5, ⟨ty9, ⟨ty23, ⟨ty55, ⟨ty77, ⟨ty91, trivial⟩⟩⟩⟩⟩⟩⟩⟩
/-! loop.example/g00224/spec.l2Take -/
def fl84 : List (Nat × Sig) := []
def en84 : Env := { n := 42, ty := assocN tyL, fns := assocN fl84, lo := 1 }
def su84 : Bool → Nat → Option Sub | true, 3 => some ⟨t84l3c, t84l3v, t84l3e, loopF t84l3⟩ | _, _ => none
theorem ok84 : EnvOk Try.prog en84 := envOk_of rfl rfl tyL_ok (trivial)
theorem t84l3Eq (R : Type) (c : Vars t84l3c) (v : Vars t84l3v) (kk : Vars t84l3c → (Vars t84l3v ⊕ Oc t84l3e) → Option R) : evC en84 su84 (loopAt 3 Try.f84) (Desc.mk2 t84l3v v (Desc.mk2 t84l3c c .empty)) (fun o => bodyK t84l3c t84l3v t84l3e o kk) = t84l3 R c v kk := by kernel_rfl
theorem t84l3Ok {X : Cx} (hX : en84.lo = X.lo) : SubOk Try.prog X 42 ⟨t84l3c, t84l3v, t84l3e, loopF t84l3⟩ (.loop (loopAt 3 Try.f84)) :=
  sub_loop (subs := su84) ok84 rfl hX (GoodN.good (K := True) (Eq.mpr (show GoodN Try.prog X 42 en84 su84 (loopAt 3 Try.f84) True = (True) by kernel_rfl) trivial)).1 (by decide) (by decide) t84l3Eq
theorem t84Eq (x : Ps ins84) : evF en84 su84 Try.f84 ins84 res84 x = t84 x := by kernel_rfl
theorem so84 : Sound Try.prog 84 sg84 :=
  sound_of (fn := Try.f84) (c := bodyOf Try.f84) (subs := su84) (E := en84) (by kernel_rfl) (by kernel_rfl) (by decide) ok84 (by kernel_rfl) (by kernel_rfl) (by decide)
    (fun X hX => (GoodN.good (K := True) (Eq.mpr (show GoodN Try.prog X 42 en84 su84 (bodyOf Try.f84) True = (SubOk Try.prog X 42 ⟨t84l3c, t84l3v, t84l3e, loopF t84l3⟩ (.loop (loopAt 3 Try.f84)) ∧ True) by kernel_rfl) ⟨(t84l3Ok hX), trivial⟩)).1)
    (fun x r h => (t84Eq x).trans h)
/-! (*loop.example/g00224/spec.l9R).num -/
def fl54 : List (Nat × Sig) := [(84, sg84)]
def en54 : Env := { n := 34, ty := assocN tyL, fns := assocN fl54, lo := 1 }
def su54 : Bool → Nat → Option Sub | _, _ => none
theorem ok54 : EnvOk Try.prog en54 := envOk_of rfl rfl tyL_ok (⟨so84, trivial⟩)
theorem t54Eq (x : Ps ins54) : evF en54 su54 Try.f54 ins54 res54 x = t54 x := by kernel_rfl
theorem so54 : Sound Try.prog 54 sg54 :=
  sound_of (fn := Try.f54) (c := bodyOf Try.f54) (subs := su54) (E := en54) (by kernel_rfl) (by kernel_rfl) (by decide) ok54 (by kernel_rfl) (by kernel_rfl) (by decide)
    (fun X hX => (GoodN.good (K := True) (Eq.mpr (show GoodN Try.prog X 34 en54 su54 (bodyOf Try.f54) True = (True) by kernel_rfl) trivial)).1)
    (fun x r h => (t54Eq x).trans h)
/-! (*loop.example/g00224/spec.l9R).text -/
def fl55 : List (Nat × Sig) := [(54, sg54)]
def en55 : Env := { n := 33, ty := assocN tyL, fns := assocN fl55, lo := 1 }
def su55 : Bool → Nat → Option Sub | _, _ => none
theorem ok55 : EnvOk Try.prog en55 := envOk_of rfl rfl tyL_ok (⟨so54, trivial⟩)
theorem t55Eq (x : Ps ins55) : evF en55 su55 Try.f55 ins55 res55 x = t55 x := by kernel_rfl
theorem so55 : Sound Try.prog 55 sg55 :=
  sound_of (fn := Try.f55) (c := bodyOf Try.f55) (subs := su55) (E := en55) (by kernel_rfl) (by kernel_rfl) (by decide) ok55 (by kernel_rfl) (by kernel_rfl) (by decide)
    (fun X hX => (GoodN.good (K := True) (Eq.mpr (show GoodN Try.prog X 33 en55 su55 (bodyOf Try.f55) True = (True) by kernel_rfl) trivial)).1)
    (fun x r h => (t55Eq x).trans h)
/-! loop.example/g00224/spec.l1In -/
def fl85 : List (Nat × Sig) := []
def en85 : Env := { n := 15, ty := assocN tyL, fns := assocN fl85, lo := 3 }
def su85 : Bool → Nat → Option Sub | _, _ => none
theorem ok85 : EnvOk Try.prog en85 := envOk_of rfl rfl tyL_ok (trivial)
theorem t85Eq (x : Ps ins85) : evF en85 su85 Try.f85 ins85 res85 x = t85 x := by kernel_rfl
theorem so85 : Sound Try.prog 85 sg85 :=
  sound_of (fn := Try.f85) (c := bodyOf Try.f85) (subs := su85) (E := en85) (by kernel_rfl) (by kernel_rfl) (by decide) ok85 (by kernel_rfl) (by kernel_rfl) (by decide)
    (fun X hX => (GoodN.good (K := True) (Eq.mpr (show GoodN Try.prog X 15 en85 su85 (bodyOf Try.f85) True = (True) by kernel_rfl) trivial)).1)
    (fun x r h => (t85Eq x).trans h)
/-! loop.example/g00224/spec.l4Key -/
def fl86 : List (Nat × Sig) := [(85, sg85)]
def en86 : Env := { n := 6, ty := assocN tyL, fns := assocN fl86, lo := 1 }
def su86 : Bool → Nat → Option Sub | _, _ => none
theorem ok86 : EnvOk Try.prog en86 := envOk_of rfl rfl tyL_ok (⟨so85, trivial⟩)
theorem t86Eq (x : Ps ins86) : evF en86 su86 Try.f86 ins86 res86 x = t86 x := by kernel_rfl
theorem so86 : Sound Try.prog 86 sg86 :=
  sound_of (fn := Try.f86) (c := bodyOf Try.f86) (subs := su86) (E := en86) (by kernel_rfl) (by kernel_rfl) (by decide) ok86 (by kernel_rfl) (by kernel_rfl) (by decide)
    (fun X hX => (GoodN.good (K := True) (Eq.mpr (show GoodN Try.prog X 6 en86 su86 (bodyOf Try.f86) True = (True) by kernel_rfl) trivial)).1)
    (fun x r h => (t86Eq x).trans h)
/-! loop.example/g00224/spec.GoodCommand -/
def fl56 : List (Nat × Sig) := [(85, sg85), (86, sg86)]
def en56 : Env := { n := 60, ty := assocN tyL, fns := assocN fl56, lo := 1 }
def su56 : Bool → Nat → Option Sub | _, _ => none
theorem ok56 : EnvOk Try.prog en56 := envOk_of rfl rfl tyL_ok (⟨so85, ⟨so86, trivial⟩⟩)
theorem t56Eq (x : Ps ins56) : evF en56 su56 Try.f56 ins56 res56 x = t56 x := by kernel_rfl
theorem so56 : Sound Try.prog 56 sg56 :=
  sound_of (fn := Try.f56) (c := bodyOf Try.f56) (subs := su56) (E := en56) (by kernel_rfl) (by kernel_rfl) (by decide) ok56 (by kernel_rfl) (by kernel_rfl) (by decide)
    (fun X hX => (GoodN.good (K := True) (Eq.mpr (show GoodN Try.prog X 60 en56 su56 (bodyOf Try.f56) True = (True) by kernel_rfl) trivial)).1)
    (fun x r h => (t56Eq x).trans h)
/-! loop.example/g00224/spec.l14Read -/
def fl33 : List (Nat × Sig) := [(54, sg54), (55, sg55), (56, sg56)]
def en33 : Env := { n := 69, ty := assocN tyL, fns := assocN fl33, lo := 1 }
def su33 : Bool → Nat → Option Sub | _, _ => none
theorem ok33 : EnvOk Try.prog en33 := envOk_of rfl rfl tyL_ok (⟨so54, ⟨so55, ⟨so56, trivial⟩⟩⟩)
theorem t33Eq (x : Ps ins33) : evF en33 su33 Try.f33 ins33 res33 x = t33 x := by kernel_rfl
theorem so33 : Sound Try.prog 33 sg33 :=
  sound_of (fn := Try.f33) (c := bodyOf Try.f33) (subs := su33) (E := en33) (by kernel_rfl) (by kernel_rfl) (by decide) ok33 (by kernel_rfl) (by kernel_rfl) (by decide)
    (fun X hX => (GoodN.good (K := True) (Eq.mpr (show GoodN Try.prog X 69 en33 su33 (bodyOf Try.f33) True = (True) by kernel_rfl) trivial)).1)
    (fun x r h => (t33Eq x).trans h)
/-! loop.example/g00224/spec.ReadCommand -/
def fl9 : List (Nat × Sig) := [(33, sg33)]
def en9 : Env := { n := 8, ty := assocN tyL, fns := assocN fl9, lo := 1 }
def su9 : Bool → Nat → Option Sub | _, _ => none
theorem ok9 : EnvOk Try.prog en9 := envOk_of rfl rfl tyL_ok (⟨so33, trivial⟩)
theorem t9Eq (x : Ps ins9) : evF en9 su9 Try.f9 ins9 res9 x = t9 x := by kernel_rfl
theorem so9 : Sound Try.prog 9 sg9 :=
  sound_of (fn := Try.f9) (c := bodyOf Try.f9) (subs := su9) (E := en9) (by kernel_rfl) (by kernel_rfl) (by decide) ok9 (by kernel_rfl) (by kernel_rfl) (by decide)
    (fun X hX => (GoodN.good (K := True) (Eq.mpr (show GoodN Try.prog X 8 en9 su9 (bodyOf Try.f9) True = (True) by kernel_rfl) trivial)).1)
    (fun x r h => (t9Eq x).trans h)
/-! loop.example/g00224/impl.TakeVar -/
def fl57 : List (Nat × Sig) := []
def en57 : Env := { n := 36, ty := assocN tyL, fns := assocN fl57, lo := 1 }
def su57 : Bool → Nat → Option Sub | true, 3 => some ⟨t57l3c, t57l3v, t57l3e, loopF t57l3⟩ | _, _ => none
theorem ok57 : EnvOk Try.prog en57 := envOk_of rfl rfl tyL_ok (trivial)
theorem t57l3Eq (R : Type) (c : Vars t57l3c) (v : Vars t57l3v) (kk : Vars t57l3c → (Vars t57l3v ⊕ Oc t57l3e) → Option R) : evC en57 su57 (loopAt 3 Try.f57) (Desc.mk2 t57l3v v (Desc.mk2 t57l3c c .empty)) (fun o => bodyK t57l3c t57l3v t57l3e o kk) = t57l3 R c v kk := by kernel_rfl
theorem t57l3Ok {X : Cx} (hX : en57.lo = X.lo) : SubOk Try.prog X 36 ⟨t57l3c, t57l3v, t57l3e, loopF t57l3⟩ (.loop (loopAt 3 Try.f57)) :=
  sub_loop (subs := su57) ok57 rfl hX (GoodN.good (K := True) (Eq.mpr (show GoodN Try.prog X 36 en57 su57 (loopAt 3 Try.f57) True = (True) by kernel_rfl) trivial)).1 (by decide) (by decide) t57l3Eq
theorem t57Eq (x : Ps ins57) : evF en57 su57 Try.f57 ins57 res57 x = t57 x := by kernel_rfl
theorem so57 : Sound Try.prog 57 sg57 :=
  sound_of (fn := Try.f57) (c := bodyOf Try.f57) (subs := su57) (E := en57) (by kernel_rfl) (by kernel_rfl) (by decide) ok57 (by kernel_rfl) (by kernel_rfl) (by decide)
    (fun X hX => (GoodN.good (K := True) (Eq.mpr (show GoodN Try.prog X 36 en57 su57 (bodyOf Try.f57) True = (SubOk Try.prog X 36 ⟨t57l3c, t57l3v, t57l3e, loopF t57l3⟩ (.loop (loopAt 3 Try.f57)) ∧ True) by kernel_rfl) ⟨(t57l3Ok hX), trivial⟩)).1)
    (fun x r h => (t57Eq x).trans h)
/-! (*loop.example/g00224/impl.taker).number -/
def fl34 : List (Nat × Sig) := [(57, sg57)]
def en34 : Env := { n := 38, ty := assocN tyL, fns := assocN fl34, lo := 1 }
def su34 : Bool → Nat → Option Sub | _, _ => none
theorem ok34 : EnvOk Try.prog en34 := envOk_of rfl rfl tyL_ok (⟨so57, trivial⟩)
theorem t34Eq (x : Ps ins34) : evF en34 su34 Try.f34 ins34 res34 x = t34 x := by kernel_rfl
theorem so34 : Sound Try.prog 34 sg34 :=
  sound_of (fn := Try.f34) (c := bodyOf Try.f34) (subs := su34) (E := en34) (by kernel_rfl) (by kernel_rfl) (by decide) ok34 (by kernel_rfl) (by kernel_rfl) (by decide)
    (fun X hX => (GoodN.good (K := True) (Eq.mpr (show GoodN Try.prog X 38 en34 su34 (bodyOf Try.f34) True = (True) by kernel_rfl) trivial)).1)
    (fun x r h => (t34Eq x).trans h)
/-! (*loop.example/g00224/impl.taker).text -/
def fl35 : List (Nat × Sig) := []
def en35 : Env := { n := 42, ty := assocN tyL, fns := assocN fl35, lo := 2 }
def su35 : Bool → Nat → Option Sub | _, _ => none
theorem ok35 : EnvOk Try.prog en35 := envOk_of rfl rfl tyL_ok (trivial)
theorem t35Eq (x : Ps ins35) : evF en35 su35 Try.f35 ins35 res35 x = t35 x := by kernel_rfl
theorem so35 : Sound Try.prog 35 sg35 :=
  sound_of (fn := Try.f35) (c := bodyOf Try.f35) (subs := su35) (E := en35) (by kernel_rfl) (by kernel_rfl) (by decide) ok35 (by kernel_rfl) (by kernel_rfl) (by decide)
    (fun X hX => (GoodN.good (K := True) (Eq.mpr (show GoodN Try.prog X 42 en35 su35 (bodyOf Try.f35) True = (True) by kernel_rfl) trivial)).1)
    (fun x r h => (t35Eq x).trans h)
/-! (*loop.example/g00224/impl.taker).sized -/
def fl36 : List (Nat × Sig) := [(34, sg34), (35, sg35)]
def en36 : Env := { n := 7, ty := assocN tyL, fns := assocN fl36, lo := 1 }
def su36 : Bool → Nat → Option Sub | _, _ => none
theorem ok36 : EnvOk Try.prog en36 := envOk_of rfl rfl tyL_ok (⟨so34, ⟨so35, trivial⟩⟩)
theorem t36Eq (x : Ps ins36) : evF en36 su36 Try.f36 ins36 res36 x = t36 x := by kernel_rfl
theorem so36 : Sound Try.prog 36 sg36 :=
  sound_of (fn := Try.f36) (c := bodyOf Try.f36) (subs := su36) (E := en36) (by kernel_rfl) (by kernel_rfl) (by decide) ok36 (by kernel_rfl) (by kernel_rfl) (by decide)
    (fun X hX => (GoodN.good (K := True) (Eq.mpr (show GoodN Try.prog X 7 en36 su36 (bodyOf Try.f36) True = (True) by kernel_rfl) trivial)).1)
    (fun x r h => (t36Eq x).trans h)
/-! (*loop.example/g00224/impl.taker).whole -/
def fl37 : List (Nat × Sig) := []
def en37 : Env := { n := 15, ty := assocN tyL, fns := assocN fl37, lo := 1 }
def su37 : Bool → Nat → Option Sub | _, _ => none
theorem ok37 : EnvOk Try.prog en37 := envOk_of rfl rfl tyL_ok (trivial)
theorem t37Eq (x : Ps ins37) : evF en37 su37 Try.f37 ins37 res37 x = t37 x := by kernel_rfl
theorem so37 : Sound Try.prog 37 sg37 :=
  sound_of (fn := Try.f37) (c := bodyOf Try.f37) (subs := su37) (E := en37) (by kernel_rfl) (by kernel_rfl) (by decide) ok37 (by kernel_rfl) (by kernel_rfl) (by decide)
    (fun X hX => (GoodN.good (K := True) (Eq.mpr (show GoodN Try.prog X 15 en37 su37 (bodyOf Try.f37) True = (True) by kernel_rfl) trivial)).1)
    (fun x r h => (t37Eq x).trans h)
/-! loop.example/g00224/impl.in -/
def fl58 : List (Nat × Sig) := []
def en58 : Env := { n := 15, ty := assocN tyL, fns := assocN fl58, lo := 3 }
def su58 : Bool → Nat → Option Sub | _, _ => none
theorem ok58 : EnvOk Try.prog en58 := envOk_of rfl rfl tyL_ok (trivial)
theorem t58Eq (x : Ps ins58) : evF en58 su58 Try.f58 ins58 res58 x = t58 x := by kernel_rfl
theorem so58 : Sound Try.prog 58 sg58 :=
  sound_of (fn := Try.f58) (c := bodyOf Try.f58) (subs := su58) (E := en58) (by kernel_rfl) (by kernel_rfl) (by decide) ok58 (by kernel_rfl) (by kernel_rfl) (by decide)
    (fun X hX => (GoodN.good (K := True) (Eq.mpr (show GoodN Try.prog X 15 en58 su58 (bodyOf Try.f58) True = (True) by kernel_rfl) trivial)).1)
    (fun x r h => (t58Eq x).trans h)
/-! loop.example/g00224/impl.isKey -/
def fl59 : List (Nat × Sig) := [(58, sg58)]
def en59 : Env := { n := 6, ty := assocN tyL, fns := assocN fl59, lo := 1 }
def su59 : Bool → Nat → Option Sub | _, _ => none
theorem ok59 : EnvOk Try.prog en59 := envOk_of rfl rfl tyL_ok (⟨so58, trivial⟩)
theorem t59Eq (x : Ps ins59) : evF en59 su59 Try.f59 ins59 res59 x = t59 x := by kernel_rfl
theorem so59 : Sound Try.prog 59 sg59 :=
  sound_of (fn := Try.f59) (c := bodyOf Try.f59) (subs := su59) (E := en59) (by kernel_rfl) (by kernel_rfl) (by decide) ok59 (by kernel_rfl) (by kernel_rfl) (by decide)
    (fun X hX => (GoodN.good (K := True) (Eq.mpr (show GoodN Try.prog X 6 en59 su59 (bodyOf Try.f59) True = (True) by kernel_rfl) trivial)).1)
    (fun x r h => (t59Eq x).trans h)
/-! loop.example/g00224/impl.isValue -/
def fl60 : List (Nat × Sig) := []
def en60 : Env := { n := 6, ty := assocN tyL, fns := assocN fl60, lo := 1 }
def su60 : Bool → Nat → Option Sub | _, _ => none
theorem ok60 : EnvOk Try.prog en60 := envOk_of rfl rfl tyL_ok (trivial)
theorem t60Eq (x : Ps ins60) : evF en60 su60 Try.f60 ins60 res60 x = t60 x := by kernel_rfl
theorem so60 : Sound Try.prog 60 sg60 :=
  sound_of (fn := Try.f60) (c := bodyOf Try.f60) (subs := su60) (E := en60) (by kernel_rfl) (by kernel_rfl) (by decide) ok60 (by kernel_rfl) (by kernel_rfl) (by decide)
    (fun X hX => (GoodN.good (K := True) (Eq.mpr (show GoodN Try.prog X 6 en60 su60 (bodyOf Try.f60) True = (True) by kernel_rfl) trivial)).1)
    (fun x r h => (t60Eq x).trans h)
/-! loop.example/g00224/impl.GoodCommand -/
def fl38 : List (Nat × Sig) := [(58, sg58), (59, sg59), (60, sg60)]
def en38 : Env := { n := 60, ty := assocN tyL, fns := assocN fl38, lo := 1 }
def su38 : Bool → Nat → Option Sub | _, _ => none
theorem ok38 : EnvOk Try.prog en38 := envOk_of rfl rfl tyL_ok (⟨so58, ⟨so59, ⟨so60, trivial⟩⟩⟩)
theorem t38Eq (x : Ps ins38) : evF en38 su38 Try.f38 ins38 res38 x = t38 x := by kernel_rfl
theorem so38 : Sound Try.prog 38 sg38 :=
  sound_of (fn := Try.f38) (c := bodyOf Try.f38) (subs := su38) (E := en38) (by kernel_rfl) (by kernel_rfl) (by decide) ok38 (by kernel_rfl) (by kernel_rfl) (by decide)
    (fun X hX => (GoodN.good (K := True) (Eq.mpr (show GoodN Try.prog X 60 en38 su38 (bodyOf Try.f38) True = (True) by kernel_rfl) trivial)).1)
    (fun x r h => (t38Eq x).trans h)
/-! loop.example/g00224/impl.ReadCommand -/
def fl10 : List (Nat × Sig) := [(34, sg34), (35, sg35), (36, sg36), (37, sg37), (38, sg38)]
def en10 : Env := { n := 44, ty := assocN tyL, fns := assocN fl10, lo := 1 }
def su10 : Bool → Nat → Option Sub | false, 6 => some ⟨t10i6c, t10i6v, t10i6e, t10i6⟩ | _, _ => none
theorem ok10 : EnvOk Try.prog en10 := envOk_of rfl rfl tyL_ok (⟨so34, ⟨so35, ⟨so36, ⟨so37, ⟨so38, trivial⟩⟩⟩⟩⟩)
def su10i6 : Bool → Nat → Option Sub | _, _ => none
theorem t10i6Eq (R : Type) (c : Vars t10i6c) (v : Vars t10i6v) (kk : Vars t10i6c → Oc t10i6e → Option R) : evC en10 su10i6 (ifAt 6 Try.f10) (Desc.mk2 t10i6v v (Desc.mk2 t10i6c c .empty)) (fun o => chk t10i6c t10i6e o kk) = t10i6 R c v kk := by kernel_rfl
theorem t10i6Ok {X : Cx} (hX : en10.lo = X.lo) : SubOk Try.prog X 44 ⟨t10i6c, t10i6v, t10i6e, t10i6⟩ (ifAt 6 Try.f10) :=
  sub_if (u := ⟨t10i6c, t10i6v, t10i6e, t10i6⟩) (subs := su10i6) ok10 rfl hX (GoodN.good (K := True) (Eq.mpr (show GoodN Try.prog X 44 en10 su10i6 (ifAt 6 Try.f10) True = (True) by kernel_rfl) trivial)).1 (by decide) (by decide) t10i6Eq
theorem t10Eq (x : Ps ins10) : evF en10 su10 Try.f10 ins10 res10 x = t10 x := by kernel_rfl
theorem so10 : Sound Try.prog 10 sg10 :=
  sound_of (fn := Try.f10) (c := bodyOf Try.f10) (subs := su10) (E := en10) (by kernel_rfl) (by kernel_rfl) (by decide) ok10 (by kernel_rfl) (by kernel_rfl) (by decide)
    (fun X hX => (GoodN.good (K := True) (Eq.mpr (show GoodN Try.prog X 44 en10 su10 (bodyOf Try.f10) True = (SubOk Try.prog X 44 ⟨t10i6c, t10i6v, t10i6e, t10i6⟩ (ifAt 6 Try.f10) ∧ True) by kernel_rfl) ⟨(t10i6Ok hX), trivial⟩)).1)
    (fun x r h => (t10Eq x).trans h)
/-! loop.example/g00224/laws.eqCommand -/
def fl11 : List (Nat × Sig) := []
def en11 : Env := { n := 35, ty := assocN tyL, fns := assocN fl11, lo := 2 }
def su11 : Bool → Nat → Option Sub | _, _ => none
theorem ok11 : EnvOk Try.prog en11 := envOk_of rfl rfl tyL_ok (trivial)
theorem t11Eq (x : Ps ins11) : evF en11 su11 Try.f11 ins11 res11 x = t11 x := by kernel_rfl
theorem so11 : Sound Try.prog 11 sg11 :=
  sound_of (fn := Try.f11) (c := bodyOf Try.f11) (subs := su11) (E := en11) (by kernel_rfl) (by kernel_rfl) (by decide) ok11 (by kernel_rfl) (by kernel_rfl) (by decide)
    (fun X hX => (GoodN.good (K := True) (Eq.mpr (show GoodN Try.prog X 35 en11 su11 (bodyOf Try.f11) True = (True) by kernel_rfl) trivial)).1)
    (fun x r h => (t11Eq x).trans h)
/-! loop.example/g00224/laws.FnExactReadCommand -/
def fl3 : List (Nat × Sig) := [(9, sg9), (10, sg10), (11, sg11)]
def en3 : Env := { n := 29, ty := assocN tyL, fns := assocN fl3, lo := 1 }
def su3 : Bool → Nat → Option Sub | _, _ => none
theorem ok3 : EnvOk Try.prog en3 := envOk_of rfl rfl tyL_ok (⟨so9, ⟨so10, ⟨so11, trivial⟩⟩⟩)
theorem t3Eq (x : Ps ins3) : evF en3 su3 Try.f3 ins3 res3 x = t3 x := by kernel_rfl
theorem so3 : Sound Try.prog 3 sg3 :=
  sound_of (fn := Try.f3) (c := bodyOf Try.f3) (subs := su3) (E := en3) (by kernel_rfl) (by kernel_rfl) (by decide) ok3 (by kernel_rfl) (by kernel_rfl) (by decide)
    (fun X hX => (GoodN.good (K := True) (Eq.mpr (show GoodN Try.prog X 29 en3 su3 (bodyOf Try.f3) True = (True) by kernel_rfl) trivial)).1)
    (fun x r h => (t3Eq x).trans h)
end Go.Proofs.Ytpegmiofhfmepaa
