/- The typed functions are what the program's code says. (Printed by a program of mine, wip/tools/gen.py.) -/
import Derived.Test.YthlnjkcpdkjipaaDoorProg
import Derived.Test.YthlnjkcpdkjipaaDoorRCFns
set_option linter.all false
set_option maxRecDepth 100000
noncomputable section
namespace Go.Proofs.YthlnjkcpdkjipaaDoor.CC
open Go Go.Proofs.YthlnjkcpdkjipaaDoor.Ev
theorem ty9 : TyOk Tryd.prog 9 .str := ⟨⟨by kernel_rfl, by kernel_rfl⟩, by kernel_rfl⟩
theorem ty3 : TyOk Tryd.prog 3 (.int .i64) := ⟨⟨by kernel_rfl, by kernel_rfl⟩, by kernel_rfl⟩
theorem ty53 : TyOk Tryd.prog 53 kdName := ty_struct (f := (⟨ "Name", 9, 0, false, "", "", 0⟩ : Field)) (l := [(⟨ "Blob", 3, 1, false, "", "", 16⟩ : Field)]) ⟨by kernel_rfl, by kernel_rfl⟩ (by kernel_rfl) (by kernel_rfl) ⟨rfl, by decide, ty9, ⟨rfl, by decide, ty3, rfl⟩⟩
theorem ty25 : TyOk Tryd.prog 25 (.sl kdName) := ty_sl ⟨by kernel_rfl, by kernel_rfl⟩ (by kernel_rfl) ty53
theorem ty134 : TyOk Tryd.prog 134 (.sl (.sl kdName)) := ty_sl ⟨by kernel_rfl, by kernel_rfl⟩ (by kernel_rfl) ty25
def tyL : List (Nat × K) := [(9, .str), (3, (.int .i64)), (53, kdName), (25, (.sl kdName)), (134, (.sl (.sl kdName)))]
theorem tyL_ok : AllTy Tryd.prog tyL := ⟨ty9, ⟨ty3, ⟨ty53, ⟨ty25, ⟨ty134, trivial⟩⟩⟩⟩⟩
def rn95 : Go.Shelf.Ren where
  f := fun x => match x with | 4 => 95 | n => n
  t := fun x => match x with | 25 => 53 | 22 => 25 | 20 => 20 | n => n
  g := fun x => x
theorem soGrow95 : Sound Tryd.prog 95 (sgf_slices_Grow kdName) := sound_Grow (ρ := rn95)
  { lay := { mixed := by kernel_rfl, f4 := ⟨Tryd.f95.name, by decide, by kernel_rfl⟩, t0 := Tryd.underlying0, a0 := Tryd.isAgg0, z0 := Tryd.sizeOf0, v0 := Tryd.zeroValue0, t3 := Tryd.underlying3, a3 := Tryd.isAgg3, z3 := Tryd.sizeOf3, v3 := Tryd.zeroValue3, t4 := Tryd.underlying4, a4 := Tryd.isAgg4, z4 := Tryd.sizeOf4, v4 := Tryd.zeroValue4, t9 := Tryd.underlying9, a9 := Tryd.isAgg9, z9 := Tryd.sizeOf9, v9 := Tryd.zeroValue9, t20 := Tryd.underlying20, a20 := Tryd.isAgg20, z20 := Tryd.sizeOf20, v20 := Tryd.zeroValue20, t22 := Tryd.underlying25, a22 := Tryd.isAgg25, z22 := Tryd.sizeOf25, v22 := Tryd.zeroValue25 }
    t25 := ty53, fl := by decide, ne := by decide, nb := by decide }
def fl83 : List (Nat × Sig) := [(95, sgf_slices_Grow kdName)]
def hi83 : List (Nat × (K × Mk)) := [(2, ((.sl kdName), (.o .s))), (5, ((.sl kdName), (.o .s))), (6, ((.sl kdName), (.o .s))), (8, ((.sl kdName), (.o .s)))]
def en83 : Env := { n := 36, ty := assocN tyL, fns := assocN fl83, lo := 0, hint := assocN hi83 }
def su83 : Bool → Nat → Option Sub | false, 7 => some ⟨f_slices_Concat_Name_i7c, f_slices_Concat_Name_i7v, f_slices_Concat_Name_i7e, f_slices_Concat_Name_i7⟩ | true, 3 => some ⟨f_slices_Concat_Name_l3c, f_slices_Concat_Name_l3v, f_slices_Concat_Name_l3e, loopF f_slices_Concat_Name_l3⟩ | true, 11 => some ⟨f_slices_Concat_Name_l11c, f_slices_Concat_Name_l11v, f_slices_Concat_Name_l11e, loopF f_slices_Concat_Name_l11⟩ | _, _ => none
theorem ok83 : EnvOk Tryd.prog en83 := envOk_of rfl rfl tyL_ok (⟨soGrow95, trivial⟩)
def su83i7 : Bool → Nat → Option Sub | true, 3 => some ⟨f_slices_Concat_Name_l3c, f_slices_Concat_Name_l3v, f_slices_Concat_Name_l3e, loopF f_slices_Concat_Name_l3⟩ | true, 11 => some ⟨f_slices_Concat_Name_l11c, f_slices_Concat_Name_l11v, f_slices_Concat_Name_l11e, loopF f_slices_Concat_Name_l11⟩ | _, _ => none
theorem f_slices_Concat_Name_i7Eq (R : Type) (c : Vars f_slices_Concat_Name_i7c) (v : Vars f_slices_Concat_Name_i7v) (kk : Vars f_slices_Concat_Name_i7c → Oc f_slices_Concat_Name_i7e → Option R) : evC en83 su83i7 (ifAt 7 Tryd.f83) (Desc.mk2 f_slices_Concat_Name_i7v v (Desc.mk2 f_slices_Concat_Name_i7c c .empty)) (fun o => chk f_slices_Concat_Name_i7c f_slices_Concat_Name_i7e o kk) = f_slices_Concat_Name_i7 R c v kk := by kernel_rfl
theorem f_slices_Concat_Name_i7Ok {X : Cx} (hX : en83.lo = X.lo) : SubOk Tryd.prog X 36 ⟨f_slices_Concat_Name_i7c, f_slices_Concat_Name_i7v, f_slices_Concat_Name_i7e, f_slices_Concat_Name_i7⟩ (ifAt 7 Tryd.f83) :=
  sub_if (u := ⟨f_slices_Concat_Name_i7c, f_slices_Concat_Name_i7v, f_slices_Concat_Name_i7e, f_slices_Concat_Name_i7⟩) (subs := su83i7) ok83 rfl hX (GoodN.good (K := True) (Eq.mpr (show GoodN Tryd.prog X 36 en83 su83i7 (ifAt 7 Tryd.f83) True = (True) by kernel_rfl) trivial)).1 (by decide) (by decide) f_slices_Concat_Name_i7Eq
theorem f_slices_Concat_Name_l3Eq (R : Type) (c : Vars f_slices_Concat_Name_l3c) (v : Vars f_slices_Concat_Name_l3v) (kk : Vars f_slices_Concat_Name_l3c → (Vars f_slices_Concat_Name_l3v ⊕ Oc f_slices_Concat_Name_l3e) → Option R) : evC en83 su83 (loopAt 3 Tryd.f83) (Desc.mk2 f_slices_Concat_Name_l3v v (Desc.mk2 f_slices_Concat_Name_l3c c .empty)) (fun o => bodyK f_slices_Concat_Name_l3c f_slices_Concat_Name_l3v f_slices_Concat_Name_l3e o kk) = f_slices_Concat_Name_l3 R c v kk := by kernel_rfl
theorem f_slices_Concat_Name_l3Ok {X : Cx} (hX : en83.lo = X.lo) : SubOk Tryd.prog X 36 ⟨f_slices_Concat_Name_l3c, f_slices_Concat_Name_l3v, f_slices_Concat_Name_l3e, loopF f_slices_Concat_Name_l3⟩ (.loop (loopAt 3 Tryd.f83)) :=
  sub_loop (subs := su83) ok83 rfl hX (GoodN.good (K := True) (Eq.mpr (show GoodN Tryd.prog X 36 en83 su83 (loopAt 3 Tryd.f83) True = (SubOk Tryd.prog X 36 ⟨f_slices_Concat_Name_i7c, f_slices_Concat_Name_i7v, f_slices_Concat_Name_i7e, f_slices_Concat_Name_i7⟩ (ifAt 7 Tryd.f83) ∧ True) by kernel_rfl) ⟨(f_slices_Concat_Name_i7Ok hX), trivial⟩)).1 (by decide) (by decide) f_slices_Concat_Name_l3Eq
theorem f_slices_Concat_Name_l11Eq (R : Type) (c : Vars f_slices_Concat_Name_l11c) (v : Vars f_slices_Concat_Name_l11v) (kk : Vars f_slices_Concat_Name_l11c → (Vars f_slices_Concat_Name_l11v ⊕ Oc f_slices_Concat_Name_l11e) → Option R) : evC en83 su83 (loopAt 11 Tryd.f83) (Desc.mk2 f_slices_Concat_Name_l11v v (Desc.mk2 f_slices_Concat_Name_l11c c .empty)) (fun o => bodyK f_slices_Concat_Name_l11c f_slices_Concat_Name_l11v f_slices_Concat_Name_l11e o kk) = f_slices_Concat_Name_l11 R c v kk := by kernel_rfl
theorem f_slices_Concat_Name_l11Ok {X : Cx} (hX : en83.lo = X.lo) : SubOk Tryd.prog X 36 ⟨f_slices_Concat_Name_l11c, f_slices_Concat_Name_l11v, f_slices_Concat_Name_l11e, loopF f_slices_Concat_Name_l11⟩ (.loop (loopAt 11 Tryd.f83)) :=
  sub_loop (subs := su83) ok83 rfl hX (GoodN.good (K := True) (Eq.mpr (show GoodN Tryd.prog X 36 en83 su83 (loopAt 11 Tryd.f83) True = (True) by kernel_rfl) trivial)).1 (by decide) (by decide) f_slices_Concat_Name_l11Eq
theorem f_slices_Concat_NameEq (x : Ps ins83) : evF en83 su83 Tryd.f83 ins83 res83 x = f_slices_Concat_Name x := by kernel_rfl
theorem so83 : Sound Tryd.prog 83 sg83 :=
  sound_of (fn := Tryd.f83) (c := bodyOf Tryd.f83) (subs := su83) (E := en83) (by kernel_rfl) (by kernel_rfl) (by decide) ok83 (by kernel_rfl) (by kernel_rfl) (by decide)
    (fun X hX => (GoodN.good (K := True) (Eq.mpr (show GoodN Tryd.prog X 36 en83 su83 (bodyOf Tryd.f83) True = (SubOk Tryd.prog X 36 ⟨f_slices_Concat_Name_l3c, f_slices_Concat_Name_l3v, f_slices_Concat_Name_l3e, loopF f_slices_Concat_Name_l3⟩ (.loop (loopAt 3 Tryd.f83)) ∧ SubOk Tryd.prog X 36 ⟨f_slices_Concat_Name_l11c, f_slices_Concat_Name_l11v, f_slices_Concat_Name_l11e, loopF f_slices_Concat_Name_l11⟩ (.loop (loopAt 11 Tryd.f83)) ∧ True) by kernel_rfl) ⟨(f_slices_Concat_Name_l3Ok hX), (f_slices_Concat_Name_l11Ok hX), trivial⟩)).1)
    (fun x r h => (f_slices_Concat_NameEq x).trans h)
end Go.Proofs.YthlnjkcpdkjipaaDoor.CC
