/- The typed functions are what the program's code says. (Printed by a program of mine, wip/tools/gen.py.) -/
import Derived.Test.YtogmfilmfkepfaaProg
import Derived.Test.YtogmfilmfkepfaaR4Fns
set_option linter.all false
set_option maxRecDepth 100000
noncomputable section
namespace Go.Proofs.Ytogmfilmfkepfaa
open Go Go.Proofs.Ytogmfilmfkepfaa.Ev
theorem ty3 : TyOk Try.prog 3 (.int .i64) := ⟨⟨by kernel_rfl, by kernel_rfl⟩, by kernel_rfl⟩
theorem ty9 : TyOk Try.prog 9 .str := ⟨⟨by kernel_rfl, by kernel_rfl⟩, by kernel_rfl⟩
theorem ty36 : TyOk Try.prog 36 kdCommand := ty_struct (f := (⟨ "Session", 3, 0, false, "", "", 0⟩ : Field)) (l := [(⟨ "N", 3, 1, false, "", "", 8⟩ : Field), (⟨ "Op", 3, 2, false, "", "", 16⟩ : Field), (⟨ "Key", 9, 3, false, "", "", 24⟩ : Field), (⟨ "Value", 9, 4, false, "", "", 40⟩ : Field), (⟨ "Old", 9, 5, false, "", "", 56⟩ : Field)]) ⟨by kernel_rfl, by kernel_rfl⟩ (by kernel_rfl) (by kernel_rfl) ⟨rfl, by decide, ty3, ⟨rfl, by decide, ty3, ⟨rfl, by decide, ty3, ⟨rfl, by decide, ty9, ⟨rfl, by decide, ty9, ⟨rfl, by decide, ty9, rfl⟩⟩⟩⟩⟩⟩
theorem ty119 : TyOk Try.prog 119 kdPair := ty_struct (f := (⟨ "Key", 9, 0, false, "", "", 0⟩ : Field)) (l := [(⟨ "Value", 9, 1, false, "", "", 16⟩ : Field)]) ⟨by kernel_rfl, by kernel_rfl⟩ (by kernel_rfl) (by kernel_rfl) ⟨rfl, by decide, ty9, ⟨rfl, by decide, ty9, rfl⟩⟩
theorem ty43 : TyOk Try.prog 43 (.sl kdPair) := ty_sl ⟨by kernel_rfl, by kernel_rfl⟩ (by kernel_rfl) ty119
theorem ty52 : TyOk Try.prog 52 kdReply := ty_struct (f := (⟨ "Code", 3, 0, false, "", "", 0⟩ : Field)) (l := [(⟨ "Value", 9, 1, false, "", "", 8⟩ : Field)]) ⟨by kernel_rfl, by kernel_rfl⟩ (by kernel_rfl) (by kernel_rfl) ⟨rfl, by decide, ty3, ⟨rfl, by decide, ty9, rfl⟩⟩
theorem ty117 : TyOk Try.prog 117 kdSession := ty_struct (f := (⟨ "Id", 3, 0, false, "", "", 0⟩ : Field)) (l := [(⟨ "Last", 3, 1, false, "", "", 8⟩ : Field), (⟨ "Reply", 52, 2, false, "", "", 16⟩ : Field)]) ⟨by kernel_rfl, by kernel_rfl⟩ (by kernel_rfl) (by kernel_rfl) ⟨rfl, by decide, ty3, ⟨rfl, by decide, ty3, ⟨rfl, by decide, ty52, rfl⟩⟩⟩
theorem ty44 : TyOk Try.prog 44 (.sl kdSession) := ty_sl ⟨by kernel_rfl, by kernel_rfl⟩ (by kernel_rfl) ty117
theorem ty46 : TyOk Try.prog 46 kdKvState := ty_struct (f := (⟨ "Cells", 43, 0, false, "", "", 0⟩ : Field)) (l := [(⟨ "Sessions", 44, 1, false, "", "", 24⟩ : Field)]) ⟨by kernel_rfl, by kernel_rfl⟩ (by kernel_rfl) (by kernel_rfl) ⟨rfl, by decide, ty43, ⟨rfl, by decide, ty44, rfl⟩⟩
theorem ty90 : TyOk Try.prog 90 kdCommand := ty_struct (f := (⟨ "Session", 3, 0, false, "", "", 0⟩ : Field)) (l := [(⟨ "N", 3, 1, false, "", "", 8⟩ : Field), (⟨ "Op", 3, 2, false, "", "", 16⟩ : Field), (⟨ "Key", 9, 3, false, "", "", 24⟩ : Field), (⟨ "Value", 9, 4, false, "", "", 40⟩ : Field), (⟨ "Old", 9, 5, false, "", "", 56⟩ : Field)]) ⟨by kernel_rfl, by kernel_rfl⟩ (by kernel_rfl) (by kernel_rfl) ⟨rfl, by decide, ty3, ⟨rfl, by decide, ty3, ⟨rfl, by decide, ty3, ⟨rfl, by decide, ty9, ⟨rfl, by decide, ty9, ⟨rfl, by decide, ty9, rfl⟩⟩⟩⟩⟩⟩
theorem ty27 : TyOk Try.prog 27 (.sl kdCommand) := ty_sl ⟨by kernel_rfl, by kernel_rfl⟩ (by kernel_rfl) ty36
theorem ty47 : TyOk Try.prog 47 (.sl kdReply) := ty_sl ⟨by kernel_rfl, by kernel_rfl⟩ (by kernel_rfl) ty52
theorem ty22 : TyOk Try.prog 22 (.sl kdCommand) := ty_sl ⟨by kernel_rfl, by kernel_rfl⟩ (by kernel_rfl) ty90
theorem ty5 : TyOk Try.prog 5 (.int .u8) := ⟨⟨by kernel_rfl, by kernel_rfl⟩, by kernel_rfl⟩
theorem ty34 : TyOk Try.prog 34 (.sl (.int .u8)) := ty_sl ⟨by kernel_rfl, by kernel_rfl⟩ (by kernel_rfl) ty5
theorem ty4 : TyOk Try.prog 4 .bool := ⟨⟨by kernel_rfl, by kernel_rfl⟩, by kernel_rfl⟩
theorem ty132 : TyOk Try.prog 132 (.int .u64) := ⟨⟨by kernel_rfl, by kernel_rfl⟩, by kernel_rfl⟩
def tyL : List (Nat × K) := [(3, (.int .i64)), (9, .str), (36, kdCommand), (119, kdPair), (43, (.sl kdPair)), (52, kdReply), (117, kdSession), (44, (.sl kdSession)), (46, kdKvState), (90, kdCommand), (27, (.sl kdCommand)), (47, (.sl kdReply)), (22, (.sl kdCommand)), (5, (.int .u8)), (34, (.sl (.int .u8))), (4, .bool), (132, (.int .u64))]
theorem tyL_ok : AllTy Try.prog tyL := ⟨ty3, ⟨ty9, ⟨ty36, ⟨ty119, ⟨ty43, ⟨ty52, ⟨ty117, ⟨ty44, ⟨ty46, ⟨ty90, ⟨ty27, ⟨ty47, ⟨ty22, ⟨ty5, ⟨ty34, ⟨ty4, ⟨ty132, trivial⟩⟩⟩⟩⟩⟩⟩⟩⟩⟩⟩⟩⟩⟩⟩⟩⟩
def rn115 : Go.Shelf.Ren where
  f := fun x => match x with | 22 => 115 | 29 => 149 | 30 => 150 | n => n
  t := fun x => match x with | 9 => 117 | 24 => 44 | n => n
  g := fun x => x
theorem soInsert115 : Sound Try.prog 115 (sgf_slices_Insert kdSession) := sound_Insert (ρ := rn115)
  { mixed := by kernel_rfl, f22 := ⟨Try.f115.name, by decide, by kernel_rfl⟩, f29 := ⟨Try.f149, by kernel_rfl, by kernel_rfl, by kernel_rfl, by kernel_rfl, by kernel_rfl⟩, t0 := Try.underlying0, a0 := Try.isAgg0, z0 := Try.sizeOf0, v0 := Try.zeroValue0
    t3 := ty3, t4 := ty4, t9 := ty117, t24 := Try.underlying44, t24k := ty44, fl := by decide, ne := by decide, nb := by decide }
def rn151 : Go.Shelf.Ren where
  f := fun x => match x with | 22 => 151 | 29 => 163 | 30 => 164 | n => n
  t := fun x => match x with | 9 => 119 | 24 => 43 | n => n
  g := fun x => x
theorem soInsert151 : Sound Try.prog 151 (sgf_slices_Insert kdPair) := sound_Insert (ρ := rn151)
  { mixed := by kernel_rfl, f22 := ⟨Try.f151.name, by decide, by kernel_rfl⟩, f29 := ⟨Try.f163, by kernel_rfl, by kernel_rfl, by kernel_rfl, by kernel_rfl, by kernel_rfl⟩, t0 := Try.underlying0, a0 := Try.isAgg0, z0 := Try.sizeOf0, v0 := Try.zeroValue0
    t3 := ty3, t4 := ty4, t9 := ty119, t24 := Try.underlying43, t24k := ty43, fl := by decide, ne := by decide, nb := by decide }
def rn152 : Go.Shelf.Ren where
  f := fun x => match x with | 24 => 152 | n => n
  t := fun x => match x with | 9 => 119 | 24 => 43 | n => n
  g := fun x => x
theorem soDelete152 : Sound Try.prog 152 (sgf_slices_Delete kdPair) := sound_Delete (ρ := rn152)
  { mixed := by kernel_rfl, f24 := ⟨Try.f152.name, by decide, by kernel_rfl⟩, t0 := Try.underlying0, a0 := Try.isAgg0, z0 := Try.sizeOf0, v0 := Try.zeroValue0
    t3 := ty3, t4 := ty4, t9 := ty119, t24 := Try.underlying43, t24k := ty43, fl := by decide, ne := by decide, nb := by decide }
def fl49 : List (Nat × Sig) := []
def en49 : Env := { n := 27, ty := assocN tyL, fns := assocN fl49, lo := 0 }
def su49 : Bool → Nat → Option Sub | _, _ => none
theorem ok49 : EnvOk Try.prog en49 := envOk_of rfl rfl tyL_ok (trivial)
theorem f_laws_szCommandEq (x : Ps ins49) : evF en49 su49 Try.f49 ins49 res49 x = f_laws_szCommand x := by kernel_rfl
theorem so49 : Sound Try.prog 49 sg49 :=
  sound_of (fn := Try.f49) (c := bodyOf Try.f49) (subs := su49) (E := en49) (by kernel_rfl) (by kernel_rfl) (by decide) ok49 (by kernel_rfl) (by kernel_rfl) (by decide)
    (fun X hX => (GoodN.good (K := True) (Eq.mpr (show GoodN Try.prog X 27 en49 su49 (bodyOf Try.f49) True = (True) by kernel_rfl) trivial)).1)
    (fun x r h => (f_laws_szCommandEq x).trans h)
def fl8 : List (Nat × Sig) := [(49, sg49)]
def en8 : Env := { n := 27, ty := assocN tyL, fns := assocN fl8, lo := 0 }
def su8 : Bool → Nat → Option Sub | true, 5 => some ⟨f_laws_szCommandS_l5c, f_laws_szCommandS_l5v, f_laws_szCommandS_l5e, loopF f_laws_szCommandS_l5⟩ | _, _ => none
theorem ok8 : EnvOk Try.prog en8 := envOk_of rfl rfl tyL_ok (⟨so49, trivial⟩)
theorem f_laws_szCommandS_l5Eq (R : Type) (c : Vars f_laws_szCommandS_l5c) (v : Vars f_laws_szCommandS_l5v) (kk : Vars f_laws_szCommandS_l5c → (Vars f_laws_szCommandS_l5v ⊕ Oc f_laws_szCommandS_l5e) → Option R) : evC en8 su8 (loopAt 5 Try.f8) (Desc.mk2 f_laws_szCommandS_l5v v (Desc.mk2 f_laws_szCommandS_l5c c .empty)) (fun o => bodyK f_laws_szCommandS_l5c f_laws_szCommandS_l5v f_laws_szCommandS_l5e o kk) = f_laws_szCommandS_l5 R c v kk := by kernel_rfl
theorem f_laws_szCommandS_l5Ok {X : Cx} (hX : en8.lo = X.lo) : SubOk Try.prog X 27 ⟨f_laws_szCommandS_l5c, f_laws_szCommandS_l5v, f_laws_szCommandS_l5e, loopF f_laws_szCommandS_l5⟩ (.loop (loopAt 5 Try.f8)) :=
  sub_loop (subs := su8) ok8 rfl hX (GoodN.good (K := True) (Eq.mpr (show GoodN Try.prog X 27 en8 su8 (loopAt 5 Try.f8) True = (True) by kernel_rfl) trivial)).1 (by decide) (by decide) f_laws_szCommandS_l5Eq
theorem f_laws_szCommandSEq (x : Ps ins8) : evF en8 su8 Try.f8 ins8 res8 x = f_laws_szCommandS x := by kernel_rfl
theorem so8 : Sound Try.prog 8 sg8 :=
  sound_of (fn := Try.f8) (c := bodyOf Try.f8) (subs := su8) (E := en8) (by kernel_rfl) (by kernel_rfl) (by decide) ok8 (by kernel_rfl) (by kernel_rfl) (by decide)
    (fun X hX => (GoodN.good (K := True) (Eq.mpr (show GoodN Try.prog X 27 en8 su8 (bodyOf Try.f8) True = (SubOk Try.prog X 27 ⟨f_laws_szCommandS_l5c, f_laws_szCommandS_l5v, f_laws_szCommandS_l5e, loopF f_laws_szCommandS_l5⟩ (.loop (loopAt 5 Try.f8)) ∧ True) by kernel_rfl) ⟨(f_laws_szCommandS_l5Ok hX), trivial⟩)).1)
    (fun x r h => (f_laws_szCommandSEq x).trans h)
def fl52 : List (Nat × Sig) := []
def en52 : Env := { n := 23, ty := assocN tyL, fns := assocN fl52, lo := 0 }
def su52 : Bool → Nat → Option Sub | _, _ => none
theorem ok52 : EnvOk Try.prog en52 := envOk_of rfl rfl tyL_ok (trivial)
theorem f_laws_toCommandEq (x : Ps ins52) : evF en52 su52 Try.f52 ins52 res52 x = f_laws_toCommand x := by kernel_rfl
theorem so52 : Sound Try.prog 52 sg52 :=
  sound_of (fn := Try.f52) (c := bodyOf Try.f52) (subs := su52) (E := en52) (by kernel_rfl) (by kernel_rfl) (by decide) ok52 (by kernel_rfl) (by kernel_rfl) (by decide)
    (fun X hX => (GoodN.good (K := True) (Eq.mpr (show GoodN Try.prog X 23 en52 su52 (bodyOf Try.f52) True = (True) by kernel_rfl) trivial)).1)
    (fun x r h => (f_laws_toCommandEq x).trans h)
def fl10 : List (Nat × Sig) := [(52, sg52)]
def hi10 : List (Nat × (K × Mk)) := [(2, ((.sl kdCommand), (.o .s))), (3, ((.sl kdCommand), (.o .s)))]
def en10 : Env := { n := 23, ty := assocN tyL, fns := assocN fl10, lo := 0, hint := assocN hi10 }
def su10 : Bool → Nat → Option Sub | true, 3 => some ⟨f_laws_toCommandS_l3c, f_laws_toCommandS_l3v, f_laws_toCommandS_l3e, loopF f_laws_toCommandS_l3⟩ | _, _ => none
theorem ok10 : EnvOk Try.prog en10 := envOk_of rfl rfl tyL_ok (⟨so52, trivial⟩)
theorem f_laws_toCommandS_l3Eq (R : Type) (c : Vars f_laws_toCommandS_l3c) (v : Vars f_laws_toCommandS_l3v) (kk : Vars f_laws_toCommandS_l3c → (Vars f_laws_toCommandS_l3v ⊕ Oc f_laws_toCommandS_l3e) → Option R) : evC en10 su10 (loopAt 3 Try.f10) (Desc.mk2 f_laws_toCommandS_l3v v (Desc.mk2 f_laws_toCommandS_l3c c .empty)) (fun o => bodyK f_laws_toCommandS_l3c f_laws_toCommandS_l3v f_laws_toCommandS_l3e o kk) = f_laws_toCommandS_l3 R c v kk := by kernel_rfl
theorem f_laws_toCommandS_l3Ok {X : Cx} (hX : en10.lo = X.lo) : SubOk Try.prog X 23 ⟨f_laws_toCommandS_l3c, f_laws_toCommandS_l3v, f_laws_toCommandS_l3e, loopF f_laws_toCommandS_l3⟩ (.loop (loopAt 3 Try.f10)) :=
  sub_loop (subs := su10) ok10 rfl hX (GoodN.good (K := True) (Eq.mpr (show GoodN Try.prog X 23 en10 su10 (loopAt 3 Try.f10) True = (True) by kernel_rfl) trivial)).1 (by decide) (by decide) f_laws_toCommandS_l3Eq
theorem f_laws_toCommandSEq (x : Ps ins10) : evF en10 su10 Try.f10 ins10 res10 x = f_laws_toCommandS x := by kernel_rfl
theorem so10 : Sound Try.prog 10 sg10 :=
  sound_of (fn := Try.f10) (c := bodyOf Try.f10) (subs := su10) (E := en10) (by kernel_rfl) (by kernel_rfl) (by decide) ok10 (by kernel_rfl) (by kernel_rfl) (by decide)
    (fun X hX => (GoodN.good (K := True) (Eq.mpr (show GoodN Try.prog X 23 en10 su10 (bodyOf Try.f10) True = (SubOk Try.prog X 23 ⟨f_laws_toCommandS_l3c, f_laws_toCommandS_l3v, f_laws_toCommandS_l3e, loopF f_laws_toCommandS_l3⟩ (.loop (loopAt 3 Try.f10)) ∧ True) by kernel_rfl) ⟨(f_laws_toCommandS_l3Ok hX), trivial⟩)).1)
    (fun x r h => (f_laws_toCommandSEq x).trans h)
def fl103 : List (Nat × Sig) := []
def en103 : Env := { n := 36, ty := assocN tyL, fns := assocN fl103, lo := 0 }
def su103 : Bool → Nat → Option Sub | true, 2 => some ⟨f_spec_l14Session_l2c, f_spec_l14Session_l2v, f_spec_l14Session_l2e, loopF f_spec_l14Session_l2⟩ | _, _ => none
theorem ok103 : EnvOk Try.prog en103 := envOk_of rfl rfl tyL_ok (trivial)
theorem dr103r4 {X : Cx} (hX : en103.lo = X.lo) : RegOk Try.prog X 36 en103 4 (regAt 4 Try.f103) := regOk_of ok103 rfl hX (by kernel_rfl) (by kernel_rfl)
theorem f_spec_l14Session_l2Eq (R : Type) (c : Vars f_spec_l14Session_l2c) (v : Vars f_spec_l14Session_l2v) (kk : Vars f_spec_l14Session_l2c → (Vars f_spec_l14Session_l2v ⊕ Oc f_spec_l14Session_l2e) → Option R) : evC en103 su103 (loopAt 2 Try.f103) (Desc.mk2 f_spec_l14Session_l2v v (Desc.mk2 f_spec_l14Session_l2c c .empty)) (fun o => bodyK f_spec_l14Session_l2c f_spec_l14Session_l2v f_spec_l14Session_l2e o kk) = f_spec_l14Session_l2 R c v kk := by kernel_rfl
theorem f_spec_l14Session_l2Ok {X : Cx} (hX : en103.lo = X.lo) : SubOk Try.prog X 36 ⟨f_spec_l14Session_l2c, f_spec_l14Session_l2v, f_spec_l14Session_l2e, loopF f_spec_l14Session_l2⟩ (.loop (loopAt 2 Try.f103)) :=
  sub_loop (subs := su103) ok103 rfl hX (GoodN.good (K := True) (Eq.mpr (show GoodN Try.prog X 36 en103 su103 (loopAt 2 Try.f103) True = (True) by kernel_rfl) trivial)).1 (by decide) (by decide) f_spec_l14Session_l2Eq
theorem f_spec_l14SessionEq (x : Ps ins103) : evF en103 su103 Try.f103 ins103 res103 x = f_spec_l14Session x := by kernel_rfl
theorem so103 : Sound Try.prog 103 sg103 :=
  sound_of (fn := Try.f103) (c := bodyOf Try.f103) (subs := su103) (E := en103) (by kernel_rfl) (by kernel_rfl) (by decide) ok103 (by kernel_rfl) (by kernel_rfl) (by decide)
    (fun X hX => (GoodN.good (K := True) (Eq.mpr (show GoodN Try.prog X 36 en103 su103 (bodyOf Try.f103) True = (SubOk Try.prog X 36 ⟨f_spec_l14Session_l2c, f_spec_l14Session_l2v, f_spec_l14Session_l2e, loopF f_spec_l14Session_l2⟩ (.loop (loopAt 2 Try.f103)) ∧ RegOk Try.prog X 36 en103 4 (regAt 4 Try.f103) ∧ True) by kernel_rfl) ⟨(f_spec_l14Session_l2Ok hX), (dr103r4 hX), trivial⟩)).1)
    (fun x r h => (f_spec_l14SessionEq x).trans h)
def fl86 : List (Nat × Sig) := []
def en86 : Env := { n := 15, ty := assocN tyL, fns := assocN fl86, lo := 0 }
def su86 : Bool → Nat → Option Sub | _, _ => none
theorem ok86 : EnvOk Try.prog en86 := envOk_of rfl rfl tyL_ok (trivial)
theorem f_spec_l1InEq (x : Ps ins86) : evF en86 su86 Try.f86 ins86 res86 x = f_spec_l1In x := by kernel_rfl
theorem so86 : Sound Try.prog 86 sg86 :=
  sound_of (fn := Try.f86) (c := bodyOf Try.f86) (subs := su86) (E := en86) (by kernel_rfl) (by kernel_rfl) (by decide) ok86 (by kernel_rfl) (by kernel_rfl) (by decide)
    (fun X hX => (GoodN.good (K := True) (Eq.mpr (show GoodN Try.prog X 15 en86 su86 (bodyOf Try.f86) True = (True) by kernel_rfl) trivial)).1)
    (fun x r h => (f_spec_l1InEq x).trans h)
def fl111 : List (Nat × Sig) := [(86, sg86)]
def en111 : Env := { n := 6, ty := assocN tyL, fns := assocN fl111, lo := 0 }
def su111 : Bool → Nat → Option Sub | _, _ => none
theorem ok111 : EnvOk Try.prog en111 := envOk_of rfl rfl tyL_ok (⟨so86, trivial⟩)
theorem f_spec_l4KeyEq (x : Ps ins111) : evF en111 su111 Try.f111 ins111 res111 x = f_spec_l4Key x := by kernel_rfl
theorem so111 : Sound Try.prog 111 sg111 :=
  sound_of (fn := Try.f111) (c := bodyOf Try.f111) (subs := su111) (E := en111) (by kernel_rfl) (by kernel_rfl) (by decide) ok111 (by kernel_rfl) (by kernel_rfl) (by decide)
    (fun X hX => (GoodN.good (K := True) (Eq.mpr (show GoodN Try.prog X 6 en111 su111 (bodyOf Try.f111) True = (True) by kernel_rfl) trivial)).1)
    (fun x r h => (f_spec_l4KeyEq x).trans h)
def fl61 : List (Nat × Sig) := [(86, sg86), (111, sg111)]
def en61 : Env := { n := 60, ty := assocN tyL, fns := assocN fl61, lo := 0 }
def su61 : Bool → Nat → Option Sub | _, _ => none
theorem ok61 : EnvOk Try.prog en61 := envOk_of rfl rfl tyL_ok (⟨so86, ⟨so111, trivial⟩⟩)
theorem f_spec_GoodCommandEq (x : Ps ins61) : evF en61 su61 Try.f61 ins61 res61 x = f_spec_GoodCommand x := by kernel_rfl
theorem so61 : Sound Try.prog 61 sg61 :=
  sound_of (fn := Try.f61) (c := bodyOf Try.f61) (subs := su61) (E := en61) (by kernel_rfl) (by kernel_rfl) (by decide) ok61 (by kernel_rfl) (by kernel_rfl) (by decide)
    (fun X hX => (GoodN.good (K := True) (Eq.mpr (show GoodN Try.prog X 60 en61 su61 (bodyOf Try.f61) True = (True) by kernel_rfl) trivial)).1)
    (fun x r h => (f_spec_GoodCommandEq x).trans h)
def fl140 : List (Nat × Sig) := []
def en140 : Env := { n := 36, ty := assocN tyL, fns := assocN fl140, lo := 0 }
def su140 : Bool → Nat → Option Sub | true, 2 => some ⟨f_spec_l14Cell_l2c, f_spec_l14Cell_l2v, f_spec_l14Cell_l2e, loopF f_spec_l14Cell_l2⟩ | _, _ => none
theorem ok140 : EnvOk Try.prog en140 := envOk_of rfl rfl tyL_ok (trivial)
theorem dr140r4 {X : Cx} (hX : en140.lo = X.lo) : RegOk Try.prog X 36 en140 4 (regAt 4 Try.f140) := regOk_of ok140 rfl hX (by kernel_rfl) (by kernel_rfl)
theorem f_spec_l14Cell_l2Eq (R : Type) (c : Vars f_spec_l14Cell_l2c) (v : Vars f_spec_l14Cell_l2v) (kk : Vars f_spec_l14Cell_l2c → (Vars f_spec_l14Cell_l2v ⊕ Oc f_spec_l14Cell_l2e) → Option R) : evC en140 su140 (loopAt 2 Try.f140) (Desc.mk2 f_spec_l14Cell_l2v v (Desc.mk2 f_spec_l14Cell_l2c c .empty)) (fun o => bodyK f_spec_l14Cell_l2c f_spec_l14Cell_l2v f_spec_l14Cell_l2e o kk) = f_spec_l14Cell_l2 R c v kk := by kernel_rfl
theorem f_spec_l14Cell_l2Ok {X : Cx} (hX : en140.lo = X.lo) : SubOk Try.prog X 36 ⟨f_spec_l14Cell_l2c, f_spec_l14Cell_l2v, f_spec_l14Cell_l2e, loopF f_spec_l14Cell_l2⟩ (.loop (loopAt 2 Try.f140)) :=
  sub_loop (subs := su140) ok140 rfl hX (GoodN.good (K := True) (Eq.mpr (show GoodN Try.prog X 36 en140 su140 (loopAt 2 Try.f140) True = (True) by kernel_rfl) trivial)).1 (by decide) (by decide) f_spec_l14Cell_l2Eq
theorem f_spec_l14CellEq (x : Ps ins140) : evF en140 su140 Try.f140 ins140 res140 x = f_spec_l14Cell x := by kernel_rfl
theorem so140 : Sound Try.prog 140 sg140 :=
  sound_of (fn := Try.f140) (c := bodyOf Try.f140) (subs := su140) (E := en140) (by kernel_rfl) (by kernel_rfl) (by decide) ok140 (by kernel_rfl) (by kernel_rfl) (by decide)
    (fun X hX => (GoodN.good (K := True) (Eq.mpr (show GoodN Try.prog X 36 en140 su140 (bodyOf Try.f140) True = (SubOk Try.prog X 36 ⟨f_spec_l14Cell_l2c, f_spec_l14Cell_l2v, f_spec_l14Cell_l2e, loopF f_spec_l14Cell_l2⟩ (.loop (loopAt 2 Try.f140)) ∧ RegOk Try.prog X 36 en140 4 (regAt 4 Try.f140) ∧ True) by kernel_rfl) ⟨(f_spec_l14Cell_l2Ok hX), (dr140r4 hX), trivial⟩)).1)
    (fun x r h => (f_spec_l14CellEq x).trans h)
def fl141 : List (Nat × Sig) := [(140, sg140)]
def hi141 : List (Nat × (K × Mk)) := [(4, ((.sl kdPair), (.o .s))), (7, ((.sl kdPair), (.o .s)))]
def en141 : Env := { n := 32, ty := assocN tyL, fns := assocN fl141, lo := 0, hint := assocN hi141 }
def su141 : Bool → Nat → Option Sub | false, 6 => some ⟨f_spec_l14Put_i6c, f_spec_l14Put_i6v, f_spec_l14Put_i6e, f_spec_l14Put_i6⟩ | _, _ => none
theorem ok141 : EnvOk Try.prog en141 := envOk_of rfl rfl tyL_ok (⟨so140, trivial⟩)
def su141i6 : Bool → Nat → Option Sub | _, _ => none
theorem f_spec_l14Put_i6Eq (R : Type) (c : Vars f_spec_l14Put_i6c) (v : Vars f_spec_l14Put_i6v) (kk : Vars f_spec_l14Put_i6c → Oc f_spec_l14Put_i6e → Option R) : evC en141 su141i6 (ifAt 6 Try.f141) (Desc.mk2 f_spec_l14Put_i6v v (Desc.mk2 f_spec_l14Put_i6c c .empty)) (fun o => chk f_spec_l14Put_i6c f_spec_l14Put_i6e o kk) = f_spec_l14Put_i6 R c v kk := by kernel_rfl
theorem f_spec_l14Put_i6Ok {X : Cx} (hX : en141.lo = X.lo) : SubOk Try.prog X 32 ⟨f_spec_l14Put_i6c, f_spec_l14Put_i6v, f_spec_l14Put_i6e, f_spec_l14Put_i6⟩ (ifAt 6 Try.f141) :=
  sub_if (u := ⟨f_spec_l14Put_i6c, f_spec_l14Put_i6v, f_spec_l14Put_i6e, f_spec_l14Put_i6⟩) (subs := su141i6) ok141 rfl hX (GoodN.good (K := True) (Eq.mpr (show GoodN Try.prog X 32 en141 su141i6 (ifAt 6 Try.f141) True = (True) by kernel_rfl) trivial)).1 (by decide) (by decide) f_spec_l14Put_i6Eq
theorem f_spec_l14PutEq (x : Ps ins141) : evF en141 su141 Try.f141 ins141 res141 x = f_spec_l14Put x := by kernel_rfl
theorem so141 : Sound Try.prog 141 sg141 :=
  sound_of (fn := Try.f141) (c := bodyOf Try.f141) (subs := su141) (E := en141) (by kernel_rfl) (by kernel_rfl) (by decide) ok141 (by kernel_rfl) (by kernel_rfl) (by decide)
    (fun X hX => (GoodN.good (K := True) (Eq.mpr (show GoodN Try.prog X 32 en141 su141 (bodyOf Try.f141) True = (SubOk Try.prog X 32 ⟨f_spec_l14Put_i6c, f_spec_l14Put_i6v, f_spec_l14Put_i6e, f_spec_l14Put_i6⟩ (ifAt 6 Try.f141) ∧ True) by kernel_rfl) ⟨(f_spec_l14Put_i6Ok hX), trivial⟩)).1)
    (fun x r h => (f_spec_l14PutEq x).trans h)
def fl104 : List (Nat × Sig) := [(140, sg140), (141, sg141)]
def hi104 : List (Nat × (K × Mk)) := [(4, ((.sl kdPair), (.o .s)))]
def dw104 : List (Nat × List (List Nat)) := [(12, [[56], [], [], [59], [60], [], [], [63], [64], [60, 65], [], [67], [4, 65], [5]])]
def en104 : Env := { n := 84, ty := assocN tyL, fns := assocN fl104, lo := 0, hint := assocN hi104, draw := drawOf dw104 }
def su104 : Bool → Nat → Option Sub | _, _ => none
theorem ok104 : EnvOk Try.prog en104 := envOk_of rfl rfl tyL_ok (⟨so140, ⟨so141, trivial⟩⟩)
theorem dr104r12 {X : Cx} (hX : en104.lo = X.lo) : RegOk Try.prog X 84 en104 12 (regAt 12 Try.f104) := regOk_of ok104 rfl hX (by kernel_rfl) (by kernel_rfl)
theorem f_spec_l14DoEq (x : Ps ins104) : evF en104 su104 Try.f104 ins104 res104 x = f_spec_l14Do x := by kernel_rfl
theorem so104 : Sound Try.prog 104 sg104 :=
  sound_of (fn := Try.f104) (c := bodyOf Try.f104) (subs := su104) (E := en104) (by kernel_rfl) (by kernel_rfl) (by decide) ok104 (by kernel_rfl) (by kernel_rfl) (by decide)
    (fun X hX => (GoodN.good (K := True) (Eq.mpr (show GoodN Try.prog X 84 en104 su104 (bodyOf Try.f104) True = (RegOk Try.prog X 84 en104 12 (regAt 12 Try.f104) ∧ True) by kernel_rfl) ⟨(dr104r12 hX), trivial⟩)).1)
    (fun x r h => (f_spec_l14DoEq x).trans h)
def fl50 : List (Nat × Sig) := [(61, sg61), (103, sg103), (104, sg104)]
def hi50 : List (Nat × (K × Mk)) := [(8, ((.sl kdPair), (.o .s))), (10, ((.sl kdSession), (.o .s)))]
def dw50 : List (Nat × List (List Nat)) := [(5, [[2, 48], [2, 49], [2, 50], [], [52], [53], [54], [4], [5]]), (16, [[2, 104], [9, 105], [2, 4], [5]])]
def en50 : Env := { n := 106, ty := assocN tyL, fns := assocN fl50, lo := 0, hint := assocN hi50, draw := drawOf dw50 }
def su50 : Bool → Nat → Option Sub | false, 14 => some ⟨f_spec_l14Apply_i14c, f_spec_l14Apply_i14v, f_spec_l14Apply_i14e, f_spec_l14Apply_i14⟩ | _, _ => none
theorem ok50 : EnvOk Try.prog en50 := envOk_of rfl rfl tyL_ok (⟨so61, ⟨so103, ⟨so104, trivial⟩⟩⟩)
theorem dr50r4 {X : Cx} (hX : en50.lo = X.lo) : RegOk Try.prog X 106 en50 4 (regAt 4 Try.f50) := regOk_of ok50 rfl hX (by kernel_rfl) (by kernel_rfl)
theorem dr50r5 {X : Cx} (hX : en50.lo = X.lo) : RegOk Try.prog X 106 en50 5 (regAt 5 Try.f50) := regOk_of ok50 rfl hX (by kernel_rfl) (by kernel_rfl)
theorem dr50r6 {X : Cx} (hX : en50.lo = X.lo) : RegOk Try.prog X 106 en50 6 (regAt 6 Try.f50) := regOk_of ok50 rfl hX (by kernel_rfl) (by kernel_rfl)
theorem dr50r16 {X : Cx} (hX : en50.lo = X.lo) : RegOk Try.prog X 106 en50 16 (regAt 16 Try.f50) := regOk_of ok50 rfl hX (by kernel_rfl) (by kernel_rfl)
def su50i14 : Bool → Nat → Option Sub | _, _ => none
theorem f_spec_l14Apply_i14Eq (R : Type) (c : Vars f_spec_l14Apply_i14c) (v : Vars f_spec_l14Apply_i14v) (kk : Vars f_spec_l14Apply_i14c → Oc f_spec_l14Apply_i14e → Option R) : evC en50 su50i14 (ifAt 14 Try.f50) (Desc.mk2 f_spec_l14Apply_i14v v (Desc.mk2 f_spec_l14Apply_i14c c .empty)) (fun o => chk f_spec_l14Apply_i14c f_spec_l14Apply_i14e o kk) = f_spec_l14Apply_i14 R c v kk := by kernel_rfl
theorem f_spec_l14Apply_i14Ok {X : Cx} (hX : en50.lo = X.lo) : SubOk Try.prog X 106 ⟨f_spec_l14Apply_i14c, f_spec_l14Apply_i14v, f_spec_l14Apply_i14e, f_spec_l14Apply_i14⟩ (ifAt 14 Try.f50) :=
  sub_if (u := ⟨f_spec_l14Apply_i14c, f_spec_l14Apply_i14v, f_spec_l14Apply_i14e, f_spec_l14Apply_i14⟩) (subs := su50i14) ok50 rfl hX (GoodN.good (K := True) (Eq.mpr (show GoodN Try.prog X 106 en50 su50i14 (ifAt 14 Try.f50) True = (True) by kernel_rfl) trivial)).1 (by decide) (by decide) f_spec_l14Apply_i14Eq
theorem f_spec_l14ApplyEq (x : Ps ins50) : evF en50 su50 Try.f50 ins50 res50 x = f_spec_l14Apply x := by kernel_rfl
theorem so50 : Sound Try.prog 50 sg50 :=
  sound_of (fn := Try.f50) (c := bodyOf Try.f50) (subs := su50) (E := en50) (by kernel_rfl) (by kernel_rfl) (by decide) ok50 (by kernel_rfl) (by kernel_rfl) (by decide)
    (fun X hX => (GoodN.good (K := True) (Eq.mpr (show GoodN Try.prog X 106 en50 su50 (bodyOf Try.f50) True = (RegOk Try.prog X 106 en50 4 (regAt 4 Try.f50) ∧ RegOk Try.prog X 106 en50 5 (regAt 5 Try.f50) ∧ RegOk Try.prog X 106 en50 6 (regAt 6 Try.f50) ∧ SubOk Try.prog X 106 ⟨f_spec_l14Apply_i14c, f_spec_l14Apply_i14v, f_spec_l14Apply_i14e, f_spec_l14Apply_i14⟩ (ifAt 14 Try.f50) ∧ RegOk Try.prog X 106 en50 16 (regAt 16 Try.f50) ∧ True) by kernel_rfl) ⟨(dr50r4 hX), (dr50r5 hX), (dr50r6 hX), (f_spec_l14Apply_i14Ok hX), (dr50r16 hX), trivial⟩)).1)
    (fun x r h => (f_spec_l14ApplyEq x).trans h)
def fl69 : List (Nat × Sig) := []
def en69 : Env := { n := 14, ty := assocN tyL, fns := assocN fl69, lo := 0 }
def su69 : Bool → Nat → Option Sub | _, _ => none
theorem ok69 : EnvOk Try.prog en69 := envOk_of rfl rfl tyL_ok (trivial)
theorem f_spec_l14OwnEq (x : Ps ins69) : evF en69 su69 Try.f69 ins69 res69 x = f_spec_l14Own x := by kernel_rfl
theorem so69 : Sound Try.prog 69 sg69 :=
  sound_of (fn := Try.f69) (c := bodyOf Try.f69) (subs := su69) (E := en69) (by kernel_rfl) (by kernel_rfl) (by decide) ok69 (by kernel_rfl) (by kernel_rfl) (by decide)
    (fun X hX => (GoodN.good (K := True) (Eq.mpr (show GoodN Try.prog X 14 en69 su69 (bodyOf Try.f69) True = (True) by kernel_rfl) trivial)).1)
    (fun x r h => (f_spec_l14OwnEq x).trans h)
def fl23 : List (Nat × Sig) := [(50, sg50), (69, sg69)]
def hi23 : List (Nat × (K × Mk)) := [(3, ((.sl kdReply), (.o .s))), (6, ((.sl kdReply), (.o .s)))]
def en23 : Env := { n := 37, ty := assocN tyL, fns := assocN fl23, lo := 0, hint := assocN hi23, frz := frzOf [(3, [5])] }
def su23 : Bool → Nat → Option Sub | true, 6 => some ⟨f_spec_FoldCommands_l6c, f_spec_FoldCommands_l6v, f_spec_FoldCommands_l6e, loopF f_spec_FoldCommands_l6⟩ | _, _ => none
theorem ok23 : EnvOk Try.prog en23 := envOk_of rfl rfl tyL_ok (⟨so50, ⟨so69, trivial⟩⟩)
theorem f_spec_FoldCommands_l6Eq (R : Type) (c : Vars f_spec_FoldCommands_l6c) (v : Vars f_spec_FoldCommands_l6v) (kk : Vars f_spec_FoldCommands_l6c → (Vars f_spec_FoldCommands_l6v ⊕ Oc f_spec_FoldCommands_l6e) → Option R) : evC en23 su23 (loopAt 6 Try.f23) (Desc.mk2 f_spec_FoldCommands_l6v v (Desc.mk2 f_spec_FoldCommands_l6c c .empty)) (fun o => bodyK f_spec_FoldCommands_l6c f_spec_FoldCommands_l6v f_spec_FoldCommands_l6e o kk) = f_spec_FoldCommands_l6 R c v kk := by kernel_rfl
theorem f_spec_FoldCommands_l6Ok {X : Cx} (hX : en23.lo = X.lo) : SubOk Try.prog X 37 ⟨f_spec_FoldCommands_l6c, f_spec_FoldCommands_l6v, f_spec_FoldCommands_l6e, loopF f_spec_FoldCommands_l6⟩ (.loop (loopAt 6 Try.f23)) :=
  sub_loop (subs := su23) ok23 rfl hX (GoodN.good (K := True) (Eq.mpr (show GoodN Try.prog X 37 en23 su23 (loopAt 6 Try.f23) True = (True) by kernel_rfl) trivial)).1 (by decide) (by decide) f_spec_FoldCommands_l6Eq
theorem f_spec_FoldCommandsEq (x : Ps ins23) : evF en23 su23 Try.f23 ins23 res23 x = f_spec_FoldCommands x := by kernel_rfl
theorem so23 : Sound Try.prog 23 sg23 :=
  sound_of (fn := Try.f23) (c := bodyOf Try.f23) (subs := su23) (E := en23) (by kernel_rfl) (by kernel_rfl) (by decide) ok23 (by kernel_rfl) (by kernel_rfl) (by decide)
    (fun X hX => (GoodN.good (K := True) (Eq.mpr (show GoodN Try.prog X 37 en23 su23 (bodyOf Try.f23) True = (SubOk Try.prog X 37 ⟨f_spec_FoldCommands_l6c, f_spec_FoldCommands_l6v, f_spec_FoldCommands_l6e, loopF f_spec_FoldCommands_l6⟩ (.loop (loopAt 6 Try.f23)) ∧ True) by kernel_rfl) ⟨(f_spec_FoldCommands_l6Ok hX), trivial⟩)).1)
    (fun x r h => (f_spec_FoldCommandsEq x).trans h)
def fl81 : List (Nat × Sig) := []
def en81 : Env := { n := 15, ty := assocN tyL, fns := assocN fl81, lo := 0 }
def su81 : Bool → Nat → Option Sub | _, _ => none
theorem ok81 : EnvOk Try.prog en81 := envOk_of rfl rfl tyL_ok (trivial)
theorem f_impl_inEq (x : Ps ins81) : evF en81 su81 Try.f81 ins81 res81 x = f_impl_in x := by kernel_rfl
theorem so81 : Sound Try.prog 81 sg81 :=
  sound_of (fn := Try.f81) (c := bodyOf Try.f81) (subs := su81) (E := en81) (by kernel_rfl) (by kernel_rfl) (by decide) ok81 (by kernel_rfl) (by kernel_rfl) (by decide)
    (fun X hX => (GoodN.good (K := True) (Eq.mpr (show GoodN Try.prog X 15 en81 su81 (bodyOf Try.f81) True = (True) by kernel_rfl) trivial)).1)
    (fun x r h => (f_impl_inEq x).trans h)
def fl109 : List (Nat × Sig) := [(81, sg81)]
def en109 : Env := { n := 6, ty := assocN tyL, fns := assocN fl109, lo := 0 }
def su109 : Bool → Nat → Option Sub | _, _ => none
theorem ok109 : EnvOk Try.prog en109 := envOk_of rfl rfl tyL_ok (⟨so81, trivial⟩)
theorem f_impl_isKeyEq (x : Ps ins109) : evF en109 su109 Try.f109 ins109 res109 x = f_impl_isKey x := by kernel_rfl
theorem so109 : Sound Try.prog 109 sg109 :=
  sound_of (fn := Try.f109) (c := bodyOf Try.f109) (subs := su109) (E := en109) (by kernel_rfl) (by kernel_rfl) (by decide) ok109 (by kernel_rfl) (by kernel_rfl) (by decide)
    (fun X hX => (GoodN.good (K := True) (Eq.mpr (show GoodN Try.prog X 6 en109 su109 (bodyOf Try.f109) True = (True) by kernel_rfl) trivial)).1)
    (fun x r h => (f_impl_isKeyEq x).trans h)
def fl110 : List (Nat × Sig) := []
def en110 : Env := { n := 6, ty := assocN tyL, fns := assocN fl110, lo := 0 }
def su110 : Bool → Nat → Option Sub | _, _ => none
theorem ok110 : EnvOk Try.prog en110 := envOk_of rfl rfl tyL_ok (trivial)
theorem f_impl_isValueEq (x : Ps ins110) : evF en110 su110 Try.f110 ins110 res110 x = f_impl_isValue x := by kernel_rfl
theorem so110 : Sound Try.prog 110 sg110 :=
  sound_of (fn := Try.f110) (c := bodyOf Try.f110) (subs := su110) (E := en110) (by kernel_rfl) (by kernel_rfl) (by decide) ok110 (by kernel_rfl) (by kernel_rfl) (by decide)
    (fun X hX => (GoodN.good (K := True) (Eq.mpr (show GoodN Try.prog X 6 en110 su110 (bodyOf Try.f110) True = (True) by kernel_rfl) trivial)).1)
    (fun x r h => (f_impl_isValueEq x).trans h)
def fl58 : List (Nat × Sig) := [(81, sg81), (109, sg109), (110, sg110)]
def en58 : Env := { n := 60, ty := assocN tyL, fns := assocN fl58, lo := 0 }
def su58 : Bool → Nat → Option Sub | _, _ => none
theorem ok58 : EnvOk Try.prog en58 := envOk_of rfl rfl tyL_ok (⟨so81, ⟨so109, ⟨so110, trivial⟩⟩⟩)
theorem f_impl_GoodCommandEq (x : Ps ins58) : evF en58 su58 Try.f58 ins58 res58 x = f_impl_GoodCommand x := by kernel_rfl
theorem so58 : Sound Try.prog 58 sg58 :=
  sound_of (fn := Try.f58) (c := bodyOf Try.f58) (subs := su58) (E := en58) (by kernel_rfl) (by kernel_rfl) (by decide) ok58 (by kernel_rfl) (by kernel_rfl) (by decide)
    (fun X hX => (GoodN.good (K := True) (Eq.mpr (show GoodN Try.prog X 60 en58 su58 (bodyOf Try.f58) True = (True) by kernel_rfl) trivial)).1)
    (fun x r h => (f_impl_GoodCommandEq x).trans h)
def fl159 : List (Nat × Sig) := []
def en159 : Env := { n := 6, ty := assocN tyL, fns := assocN fl159, lo := 0 }
def su159 : Bool → Nat → Option Sub | _, _ => none
theorem ok159 : EnvOk Try.prog en159 := envOk_of rfl rfl tyL_ok (trivial)
theorem f_cmp_isNaN_intEq (x : Ps ins159) : evF en159 su159 Try.f159 ins159 res159 x = f_cmp_isNaN_int x := by kernel_rfl
theorem so159 : Sound Try.prog 159 sg159 :=
  sound_of (fn := Try.f159) (c := bodyOf Try.f159) (subs := su159) (E := en159) (by kernel_rfl) (by kernel_rfl) (by decide) ok159 (by kernel_rfl) (by kernel_rfl) (by decide)
    (fun X hX => (GoodN.good (K := True) (Eq.mpr (show GoodN Try.prog X 6 en159 su159 (bodyOf Try.f159) True = (True) by kernel_rfl) trivial)).1)
    (fun x r h => (f_cmp_isNaN_intEq x).trans h)
def fl138 : List (Nat × Sig) := [(159, sg159)]
def en138 : Env := { n := 20, ty := assocN tyL, fns := assocN fl138, lo := 0 }
def su138 : Bool → Nat → Option Sub | _, _ => none
theorem ok138 : EnvOk Try.prog en138 := envOk_of rfl rfl tyL_ok (⟨so159, trivial⟩)
theorem f_cmp_Compare_intEq (x : Ps ins138) : evF en138 su138 Try.f138 ins138 res138 x = f_cmp_Compare_int x := by kernel_rfl
theorem so138 : Sound Try.prog 138 sg138 :=
  sound_of (fn := Try.f138) (c := bodyOf Try.f138) (subs := su138) (E := en138) (by kernel_rfl) (by kernel_rfl) (by decide) ok138 (by kernel_rfl) (by kernel_rfl) (by decide)
    (fun X hX => (GoodN.good (K := True) (Eq.mpr (show GoodN Try.prog X 20 en138 su138 (bodyOf Try.f138) True = (True) by kernel_rfl) trivial)).1)
    (fun x r h => (f_cmp_Compare_intEq x).trans h)
def fl148 : List (Nat × Sig) := [(138, sg138)]
def en148 : Env := { n := 9, ty := assocN tyL, fns := assocN fl148, lo := 0 }
def su148 : Bool → Nat → Option Sub | _, _ => none
theorem ok148 : EnvOk Try.prog en148 := envOk_of rfl rfl tyL_ok (⟨so138, trivial⟩)
theorem f_impl_KvState_sessionAt_1Eq (x : Ps ins148) : evF en148 su148 Try.f148 ins148 res148 x = f_impl_KvState_sessionAt_1 x := by kernel_rfl
theorem so148 : Sound Try.prog 148 sg148 :=
  sound_of (fn := Try.f148) (c := bodyOf Try.f148) (subs := su148) (E := en148) (by kernel_rfl) (by kernel_rfl) (by decide) ok148 (by kernel_rfl) (by kernel_rfl) (by decide)
    (fun X hX => (GoodN.good (K := True) (Eq.mpr (show GoodN Try.prog X 9 en148 su148 (bodyOf Try.f148) True = (True) by kernel_rfl) trivial)).1)
    (fun x r h => (f_impl_KvState_sessionAt_1Eq x).trans h)
def fl147 : List (Nat × Sig) := []
def en147 : Env := { n := 49, ty := assocN tyL, fns := assocN fl147, lo := 0 }
def su147 : Bool → Nat → Option Sub | false, 6 => some ⟨f_slices_BinarySearchFunc_Session_int_i6c, f_slices_BinarySearchFunc_Session_int_i6v, f_slices_BinarySearchFunc_Session_int_i6e, f_slices_BinarySearchFunc_Session_int_i6⟩ | true, 3 => some ⟨f_slices_BinarySearchFunc_Session_int_l3c, f_slices_BinarySearchFunc_Session_int_l3v, f_slices_BinarySearchFunc_Session_int_l3e, loopF f_slices_BinarySearchFunc_Session_int_l3⟩ | _, _ => none
theorem ok147 : EnvOk Try.prog en147 := envOk_of rfl rfl tyL_ok (trivial)
def su147i6 : Bool → Nat → Option Sub | true, 3 => some ⟨f_slices_BinarySearchFunc_Session_int_l3c, f_slices_BinarySearchFunc_Session_int_l3v, f_slices_BinarySearchFunc_Session_int_l3e, loopF f_slices_BinarySearchFunc_Session_int_l3⟩ | _, _ => none
theorem f_slices_BinarySearchFunc_Session_int_i6Eq (R : Type) (c : Vars f_slices_BinarySearchFunc_Session_int_i6c) (v : Vars f_slices_BinarySearchFunc_Session_int_i6v) (kk : Vars f_slices_BinarySearchFunc_Session_int_i6c → Oc f_slices_BinarySearchFunc_Session_int_i6e → Option R) : evC en147 su147i6 (ifAt 6 Try.f147) (Desc.mk2 f_slices_BinarySearchFunc_Session_int_i6v v (Desc.mk2 f_slices_BinarySearchFunc_Session_int_i6c c .empty)) (fun o => chk f_slices_BinarySearchFunc_Session_int_i6c f_slices_BinarySearchFunc_Session_int_i6e o kk) = f_slices_BinarySearchFunc_Session_int_i6 R c v kk := by kernel_rfl
theorem f_slices_BinarySearchFunc_Session_int_i6Ok {X : Cx} (hX : en147.lo = X.lo) : SubOk Try.prog X 49 ⟨f_slices_BinarySearchFunc_Session_int_i6c, f_slices_BinarySearchFunc_Session_int_i6v, f_slices_BinarySearchFunc_Session_int_i6e, f_slices_BinarySearchFunc_Session_int_i6⟩ (ifAt 6 Try.f147) :=
  sub_if (u := ⟨f_slices_BinarySearchFunc_Session_int_i6c, f_slices_BinarySearchFunc_Session_int_i6v, f_slices_BinarySearchFunc_Session_int_i6e, f_slices_BinarySearchFunc_Session_int_i6⟩) (subs := su147i6) ok147 rfl hX (GoodN.good (K := True) (Eq.mpr (show GoodN Try.prog X 49 en147 su147i6 (ifAt 6 Try.f147) True = (True) by kernel_rfl) trivial)).1 (by decide) (by decide) f_slices_BinarySearchFunc_Session_int_i6Eq
theorem f_slices_BinarySearchFunc_Session_int_l3Eq (R : Type) (c : Vars f_slices_BinarySearchFunc_Session_int_l3c) (v : Vars f_slices_BinarySearchFunc_Session_int_l3v) (kk : Vars f_slices_BinarySearchFunc_Session_int_l3c → (Vars f_slices_BinarySearchFunc_Session_int_l3v ⊕ Oc f_slices_BinarySearchFunc_Session_int_l3e) → Option R) : evC en147 su147 (loopAt 3 Try.f147) (Desc.mk2 f_slices_BinarySearchFunc_Session_int_l3v v (Desc.mk2 f_slices_BinarySearchFunc_Session_int_l3c c .empty)) (fun o => bodyK f_slices_BinarySearchFunc_Session_int_l3c f_slices_BinarySearchFunc_Session_int_l3v f_slices_BinarySearchFunc_Session_int_l3e o kk) = f_slices_BinarySearchFunc_Session_int_l3 R c v kk := by kernel_rfl
theorem f_slices_BinarySearchFunc_Session_int_l3Ok {X : Cx} (hX : en147.lo = X.lo) : SubOk Try.prog X 49 ⟨f_slices_BinarySearchFunc_Session_int_l3c, f_slices_BinarySearchFunc_Session_int_l3v, f_slices_BinarySearchFunc_Session_int_l3e, loopF f_slices_BinarySearchFunc_Session_int_l3⟩ (.loop (loopAt 3 Try.f147)) :=
  sub_loop (subs := su147) ok147 rfl hX (GoodN.good (K := True) (Eq.mpr (show GoodN Try.prog X 49 en147 su147 (loopAt 3 Try.f147) True = (SubOk Try.prog X 49 ⟨f_slices_BinarySearchFunc_Session_int_i6c, f_slices_BinarySearchFunc_Session_int_i6v, f_slices_BinarySearchFunc_Session_int_i6e, f_slices_BinarySearchFunc_Session_int_i6⟩ (ifAt 6 Try.f147) ∧ True) by kernel_rfl) ⟨(f_slices_BinarySearchFunc_Session_int_i6Ok hX), trivial⟩)).1 (by decide) (by decide) f_slices_BinarySearchFunc_Session_int_l3Eq
theorem f_slices_BinarySearchFunc_Session_intEq (x : Ps ins147) : evF en147 su147 Try.f147 ins147 res147 x = f_slices_BinarySearchFunc_Session_int x := by kernel_rfl
theorem so147 : Sound Try.prog 147 sg147 :=
  sound_of (fn := Try.f147) (c := bodyOf Try.f147) (subs := su147) (E := en147) (by kernel_rfl) (by kernel_rfl) (by decide) ok147 (by kernel_rfl) (by kernel_rfl) (by decide)
    (fun X hX => (GoodN.good (K := True) (Eq.mpr (show GoodN Try.prog X 49 en147 su147 (bodyOf Try.f147) True = (SubOk Try.prog X 49 ⟨f_slices_BinarySearchFunc_Session_int_l3c, f_slices_BinarySearchFunc_Session_int_l3v, f_slices_BinarySearchFunc_Session_int_l3e, loopF f_slices_BinarySearchFunc_Session_int_l3⟩ (.loop (loopAt 3 Try.f147)) ∧ True) by kernel_rfl) ⟨(f_slices_BinarySearchFunc_Session_int_l3Ok hX), trivial⟩)).1)
    (fun x r h => (f_slices_BinarySearchFunc_Session_intEq x).trans h)
def fl114 : List (Nat × Sig) := [(147, sg147), (148, sg148)]
def en114 : Env := { n := 14, ty := assocN tyL, fns := assocN fl114, lo := 1 }
def su114 : Bool → Nat → Option Sub | _, _ => none
theorem ok114 : EnvOk Try.prog en114 := envOk_of rfl rfl tyL_ok (⟨so147, ⟨so148, trivial⟩⟩)
theorem f_impl_KvState_sessionAtEq (x : Ps ins114) : evF en114 su114 Try.f114 ins114 res114 x = f_impl_KvState_sessionAt x := by kernel_rfl
theorem so114 : Sound Try.prog 114 sg114 :=
  sound_of (fn := Try.f114) (c := bodyOf Try.f114) (subs := su114) (E := en114) (by kernel_rfl) (by kernel_rfl) (by decide) ok114 (by kernel_rfl) (by kernel_rfl) (by decide)
    (fun X hX => (GoodN.good (K := True) (Eq.mpr (show GoodN Try.prog X 14 en114 su114 (bodyOf Try.f114) True = (True) by kernel_rfl) trivial)).1)
    (fun x r h => (f_impl_KvState_sessionAtEq x).trans h)
def fl161 : List (Nat × Sig) := []
def en161 : Env := { n := 6, ty := assocN tyL, fns := assocN fl161, lo := 0 }
def su161 : Bool → Nat → Option Sub | _, _ => none
theorem ok161 : EnvOk Try.prog en161 := envOk_of rfl rfl tyL_ok (trivial)
theorem f_cmp_isNaN_stringEq (x : Ps ins161) : evF en161 su161 Try.f161 ins161 res161 x = f_cmp_isNaN_string x := by kernel_rfl
theorem so161 : Sound Try.prog 161 sg161 :=
  sound_of (fn := Try.f161) (c := bodyOf Try.f161) (subs := su161) (E := en161) (by kernel_rfl) (by kernel_rfl) (by decide) ok161 (by kernel_rfl) (by kernel_rfl) (by decide)
    (fun X hX => (GoodN.good (K := True) (Eq.mpr (show GoodN Try.prog X 6 en161 su161 (bodyOf Try.f161) True = (True) by kernel_rfl) trivial)).1)
    (fun x r h => (f_cmp_isNaN_stringEq x).trans h)
def fl144 : List (Nat × Sig) := [(161, sg161)]
def en144 : Env := { n := 20, ty := assocN tyL, fns := assocN fl144, lo := 0 }
def su144 : Bool → Nat → Option Sub | _, _ => none
theorem ok144 : EnvOk Try.prog en144 := envOk_of rfl rfl tyL_ok (⟨so161, trivial⟩)
theorem f_cmp_Compare_stringEq (x : Ps ins144) : evF en144 su144 Try.f144 ins144 res144 x = f_cmp_Compare_string x := by kernel_rfl
theorem so144 : Sound Try.prog 144 sg144 :=
  sound_of (fn := Try.f144) (c := bodyOf Try.f144) (subs := su144) (E := en144) (by kernel_rfl) (by kernel_rfl) (by decide) ok144 (by kernel_rfl) (by kernel_rfl) (by decide)
    (fun X hX => (GoodN.good (K := True) (Eq.mpr (show GoodN Try.prog X 20 en144 su144 (bodyOf Try.f144) True = (True) by kernel_rfl) trivial)).1)
    (fun x r h => (f_cmp_Compare_stringEq x).trans h)
def fl143 : List (Nat × Sig) := [(144, sg144)]
def en143 : Env := { n := 9, ty := assocN tyL, fns := assocN fl143, lo := 0 }
def su143 : Bool → Nat → Option Sub | _, _ => none
theorem ok143 : EnvOk Try.prog en143 := envOk_of rfl rfl tyL_ok (⟨so144, trivial⟩)
theorem f_impl_KvState_cellAt_1Eq (x : Ps ins143) : evF en143 su143 Try.f143 ins143 res143 x = f_impl_KvState_cellAt_1 x := by kernel_rfl
theorem so143 : Sound Try.prog 143 sg143 :=
  sound_of (fn := Try.f143) (c := bodyOf Try.f143) (subs := su143) (E := en143) (by kernel_rfl) (by kernel_rfl) (by decide) ok143 (by kernel_rfl) (by kernel_rfl) (by decide)
    (fun X hX => (GoodN.good (K := True) (Eq.mpr (show GoodN Try.prog X 9 en143 su143 (bodyOf Try.f143) True = (True) by kernel_rfl) trivial)).1)
    (fun x r h => (f_impl_KvState_cellAt_1Eq x).trans h)
def fl142 : List (Nat × Sig) := []
def en142 : Env := { n := 49, ty := assocN tyL, fns := assocN fl142, lo := 0 }
def su142 : Bool → Nat → Option Sub | false, 6 => some ⟨f_slices_BinarySearchFunc_Pair_string_i6c, f_slices_BinarySearchFunc_Pair_string_i6v, f_slices_BinarySearchFunc_Pair_string_i6e, f_slices_BinarySearchFunc_Pair_string_i6⟩ | true, 3 => some ⟨f_slices_BinarySearchFunc_Pair_string_l3c, f_slices_BinarySearchFunc_Pair_string_l3v, f_slices_BinarySearchFunc_Pair_string_l3e, loopF f_slices_BinarySearchFunc_Pair_string_l3⟩ | _, _ => none
theorem ok142 : EnvOk Try.prog en142 := envOk_of rfl rfl tyL_ok (trivial)
def su142i6 : Bool → Nat → Option Sub | true, 3 => some ⟨f_slices_BinarySearchFunc_Pair_string_l3c, f_slices_BinarySearchFunc_Pair_string_l3v, f_slices_BinarySearchFunc_Pair_string_l3e, loopF f_slices_BinarySearchFunc_Pair_string_l3⟩ | _, _ => none
theorem f_slices_BinarySearchFunc_Pair_string_i6Eq (R : Type) (c : Vars f_slices_BinarySearchFunc_Pair_string_i6c) (v : Vars f_slices_BinarySearchFunc_Pair_string_i6v) (kk : Vars f_slices_BinarySearchFunc_Pair_string_i6c → Oc f_slices_BinarySearchFunc_Pair_string_i6e → Option R) : evC en142 su142i6 (ifAt 6 Try.f142) (Desc.mk2 f_slices_BinarySearchFunc_Pair_string_i6v v (Desc.mk2 f_slices_BinarySearchFunc_Pair_string_i6c c .empty)) (fun o => chk f_slices_BinarySearchFunc_Pair_string_i6c f_slices_BinarySearchFunc_Pair_string_i6e o kk) = f_slices_BinarySearchFunc_Pair_string_i6 R c v kk := by kernel_rfl
theorem f_slices_BinarySearchFunc_Pair_string_i6Ok {X : Cx} (hX : en142.lo = X.lo) : SubOk Try.prog X 49 ⟨f_slices_BinarySearchFunc_Pair_string_i6c, f_slices_BinarySearchFunc_Pair_string_i6v, f_slices_BinarySearchFunc_Pair_string_i6e, f_slices_BinarySearchFunc_Pair_string_i6⟩ (ifAt 6 Try.f142) :=
  sub_if (u := ⟨f_slices_BinarySearchFunc_Pair_string_i6c, f_slices_BinarySearchFunc_Pair_string_i6v, f_slices_BinarySearchFunc_Pair_string_i6e, f_slices_BinarySearchFunc_Pair_string_i6⟩) (subs := su142i6) ok142 rfl hX (GoodN.good (K := True) (Eq.mpr (show GoodN Try.prog X 49 en142 su142i6 (ifAt 6 Try.f142) True = (True) by kernel_rfl) trivial)).1 (by decide) (by decide) f_slices_BinarySearchFunc_Pair_string_i6Eq
theorem f_slices_BinarySearchFunc_Pair_string_l3Eq (R : Type) (c : Vars f_slices_BinarySearchFunc_Pair_string_l3c) (v : Vars f_slices_BinarySearchFunc_Pair_string_l3v) (kk : Vars f_slices_BinarySearchFunc_Pair_string_l3c → (Vars f_slices_BinarySearchFunc_Pair_string_l3v ⊕ Oc f_slices_BinarySearchFunc_Pair_string_l3e) → Option R) : evC en142 su142 (loopAt 3 Try.f142) (Desc.mk2 f_slices_BinarySearchFunc_Pair_string_l3v v (Desc.mk2 f_slices_BinarySearchFunc_Pair_string_l3c c .empty)) (fun o => bodyK f_slices_BinarySearchFunc_Pair_string_l3c f_slices_BinarySearchFunc_Pair_string_l3v f_slices_BinarySearchFunc_Pair_string_l3e o kk) = f_slices_BinarySearchFunc_Pair_string_l3 R c v kk := by kernel_rfl
theorem f_slices_BinarySearchFunc_Pair_string_l3Ok {X : Cx} (hX : en142.lo = X.lo) : SubOk Try.prog X 49 ⟨f_slices_BinarySearchFunc_Pair_string_l3c, f_slices_BinarySearchFunc_Pair_string_l3v, f_slices_BinarySearchFunc_Pair_string_l3e, loopF f_slices_BinarySearchFunc_Pair_string_l3⟩ (.loop (loopAt 3 Try.f142)) :=
  sub_loop (subs := su142) ok142 rfl hX (GoodN.good (K := True) (Eq.mpr (show GoodN Try.prog X 49 en142 su142 (loopAt 3 Try.f142) True = (SubOk Try.prog X 49 ⟨f_slices_BinarySearchFunc_Pair_string_i6c, f_slices_BinarySearchFunc_Pair_string_i6v, f_slices_BinarySearchFunc_Pair_string_i6e, f_slices_BinarySearchFunc_Pair_string_i6⟩ (ifAt 6 Try.f142) ∧ True) by kernel_rfl) ⟨(f_slices_BinarySearchFunc_Pair_string_i6Ok hX), trivial⟩)).1 (by decide) (by decide) f_slices_BinarySearchFunc_Pair_string_l3Eq
theorem f_slices_BinarySearchFunc_Pair_stringEq (x : Ps ins142) : evF en142 su142 Try.f142 ins142 res142 x = f_slices_BinarySearchFunc_Pair_string x := by kernel_rfl
theorem so142 : Sound Try.prog 142 sg142 :=
  sound_of (fn := Try.f142) (c := bodyOf Try.f142) (subs := su142) (E := en142) (by kernel_rfl) (by kernel_rfl) (by decide) ok142 (by kernel_rfl) (by kernel_rfl) (by decide)
    (fun X hX => (GoodN.good (K := True) (Eq.mpr (show GoodN Try.prog X 49 en142 su142 (bodyOf Try.f142) True = (SubOk Try.prog X 49 ⟨f_slices_BinarySearchFunc_Pair_string_l3c, f_slices_BinarySearchFunc_Pair_string_l3v, f_slices_BinarySearchFunc_Pair_string_l3e, loopF f_slices_BinarySearchFunc_Pair_string_l3⟩ (.loop (loopAt 3 Try.f142)) ∧ True) by kernel_rfl) ⟨(f_slices_BinarySearchFunc_Pair_string_l3Ok hX), trivial⟩)).1)
    (fun x r h => (f_slices_BinarySearchFunc_Pair_stringEq x).trans h)
def fl107 : List (Nat × Sig) := [(142, sg142), (143, sg143)]
def en107 : Env := { n := 14, ty := assocN tyL, fns := assocN fl107, lo := 1 }
def su107 : Bool → Nat → Option Sub | _, _ => none
theorem ok107 : EnvOk Try.prog en107 := envOk_of rfl rfl tyL_ok (⟨so142, ⟨so143, trivial⟩⟩)
theorem f_impl_KvState_cellAtEq (x : Ps ins107) : evF en107 su107 Try.f107 ins107 res107 x = f_impl_KvState_cellAt x := by kernel_rfl
theorem so107 : Sound Try.prog 107 sg107 :=
  sound_of (fn := Try.f107) (c := bodyOf Try.f107) (subs := su107) (E := en107) (by kernel_rfl) (by kernel_rfl) (by decide) ok107 (by kernel_rfl) (by kernel_rfl) (by decide)
    (fun X hX => (GoodN.good (K := True) (Eq.mpr (show GoodN Try.prog X 14 en107 su107 (bodyOf Try.f107) True = (True) by kernel_rfl) trivial)).1)
    (fun x r h => (f_impl_KvState_cellAtEq x).trans h)
def fl116 : List (Nat × Sig) := [(107, sg107), (151, sgf_slices_Insert kdPair), (152, sgf_slices_Delete kdPair)]
def dw116 : List (Nat × List (List Nat)) := [(8, [[], [], [0, 51], [0, 52], [0, 53], [], [3, 55], [3, 56], [3, 57], [3, 58], [59], [60], [0, 60, 61], [0, 62], [0, 63], [0, 61]])]
def en116 : Env := { n := 117, ty := assocN tyL, fns := assocN fl116, lo := 1, draw := drawOf dw116 }
def su116 : Bool → Nat → Option Sub | _, _ => none
theorem ok116 : EnvOk Try.prog en116 := envOk_of rfl rfl tyL_ok (⟨so107, ⟨soInsert151, ⟨soDelete152, trivial⟩⟩⟩)
theorem dr116r3 {X : Cx} (hX : en116.lo = X.lo) : RegOk Try.prog X 117 en116 3 (regAt 3 Try.f116) := regOk_of ok116 rfl hX (by kernel_rfl) (by kernel_rfl)
theorem dr116r8 {X : Cx} (hX : en116.lo = X.lo) : RegOk Try.prog X 117 en116 8 (regAt 8 Try.f116) := regOk_of ok116 rfl hX (by kernel_rfl) (by kernel_rfl)
theorem dr116r20 {X : Cx} (hX : en116.lo = X.lo) : RegOk Try.prog X 117 en116 20 (regAt 20 Try.f116) := regOk_of ok116 rfl hX (by kernel_rfl) (by kernel_rfl)
theorem f_impl_KvState_doEq (x : Ps ins116) : evF en116 su116 Try.f116 ins116 res116 x = f_impl_KvState_do x := by kernel_rfl
theorem so116 : Sound Try.prog 116 sg116 :=
  sound_of (fn := Try.f116) (c := bodyOf Try.f116) (subs := su116) (E := en116) (by kernel_rfl) (by kernel_rfl) (by decide) ok116 (by kernel_rfl) (by kernel_rfl) (by decide)
    (fun X hX => (GoodN.good (K := True) (Eq.mpr (show GoodN Try.prog X 117 en116 su116 (bodyOf Try.f116) True = (RegOk Try.prog X 117 en116 3 (regAt 3 Try.f116) ∧ RegOk Try.prog X 117 en116 8 (regAt 8 Try.f116) ∧ RegOk Try.prog X 117 en116 20 (regAt 20 Try.f116) ∧ True) by kernel_rfl) ⟨(dr116r3 hX), (dr116r8 hX), (dr116r20 hX), trivial⟩)).1)
    (fun x r h => (f_impl_KvState_doEq x).trans h)
def fl68 : List (Nat × Sig) := [(58, sg58), (114, sg114), (115, sgf_slices_Insert kdSession), (116, sg116)]
def dw68 : List (Nat × List (List Nat)) := [(11, [[], [], [0, 75], [0, 76], [0, 77], [], [3, 79], [3, 80], [81], [82], [0, 82, 83], [0, 84], [0, 85], [0, 83]]), (13, [[], [0, 90], [0, 91], [0, 92], [], [], [0, 95], [0, 96], [0, 97], [], [3, 99], [3, 100], [7, 101], [0, 102], [0, 103], [0], [0, 104], [0, 105], [0]])]
def en68 : Env := { n := 107, ty := assocN tyL, fns := assocN fl68, lo := 1, draw := drawOf dw68 }
def su68 : Bool → Nat → Option Sub | false, 11 => some ⟨f_impl_KvState_apply_i11c, f_impl_KvState_apply_i11v, f_impl_KvState_apply_i11e, f_impl_KvState_apply_i11⟩ | _, _ => none
theorem ok68 : EnvOk Try.prog en68 := envOk_of rfl rfl tyL_ok (⟨so58, ⟨so114, ⟨soInsert115, ⟨so116, trivial⟩⟩⟩⟩)
theorem dr68r6 {X : Cx} (hX : en68.lo = X.lo) : RegOk Try.prog X 107 en68 6 (regAt 6 Try.f68) := regOk_of ok68 rfl hX (by kernel_rfl) (by kernel_rfl)
theorem dr68r8 {X : Cx} (hX : en68.lo = X.lo) : RegOk Try.prog X 107 en68 8 (regAt 8 Try.f68) := regOk_of ok68 rfl hX (by kernel_rfl) (by kernel_rfl)
theorem dr68r11 {X : Cx} (hX : en68.lo = X.lo) : RegOk Try.prog X 107 en68 11 (regAt 11 Try.f68) := regOk_of ok68 rfl hX (by kernel_rfl) (by kernel_rfl)
theorem dr68r13 {X : Cx} (hX : en68.lo = X.lo) : RegOk Try.prog X 107 en68 13 (regAt 13 Try.f68) := regOk_of ok68 rfl hX (by kernel_rfl) (by kernel_rfl)
def su68i11 : Bool → Nat → Option Sub | _, _ => none
theorem f_impl_KvState_apply_i11Eq (R : Type) (c : Vars f_impl_KvState_apply_i11c) (v : Vars f_impl_KvState_apply_i11v) (kk : Vars f_impl_KvState_apply_i11c → Oc f_impl_KvState_apply_i11e → Option R) : evC en68 su68i11 (ifAt 11 Try.f68) (Desc.mk2 f_impl_KvState_apply_i11v v (Desc.mk2 f_impl_KvState_apply_i11c c .empty)) (fun o => chk f_impl_KvState_apply_i11c f_impl_KvState_apply_i11e o kk) = f_impl_KvState_apply_i11 R c v kk := by kernel_rfl
theorem f_impl_KvState_apply_i11Ok {X : Cx} (hX : en68.lo = X.lo) : SubOk Try.prog X 107 ⟨f_impl_KvState_apply_i11c, f_impl_KvState_apply_i11v, f_impl_KvState_apply_i11e, f_impl_KvState_apply_i11⟩ (ifAt 11 Try.f68) :=
  sub_if (u := ⟨f_impl_KvState_apply_i11c, f_impl_KvState_apply_i11v, f_impl_KvState_apply_i11e, f_impl_KvState_apply_i11⟩) (subs := su68i11) ok68 rfl hX (GoodN.good (K := True) (Eq.mpr (show GoodN Try.prog X 107 en68 su68i11 (ifAt 11 Try.f68) True = (RegOk Try.prog X 107 en68 11 (regAt 11 Try.f68) ∧ True) by kernel_rfl) ⟨(dr68r11 hX), trivial⟩)).1 (by decide) (by decide) f_impl_KvState_apply_i11Eq
theorem f_impl_KvState_applyEq (x : Ps ins68) : evF en68 su68 Try.f68 ins68 res68 x = f_impl_KvState_apply x := by kernel_rfl
theorem so68 : Sound Try.prog 68 sg68 :=
  sound_of (fn := Try.f68) (c := bodyOf Try.f68) (subs := su68) (E := en68) (by kernel_rfl) (by kernel_rfl) (by decide) ok68 (by kernel_rfl) (by kernel_rfl) (by decide)
    (fun X hX => (GoodN.good (K := True) (Eq.mpr (show GoodN Try.prog X 107 en68 su68 (bodyOf Try.f68) True = (RegOk Try.prog X 107 en68 6 (regAt 6 Try.f68) ∧ RegOk Try.prog X 107 en68 8 (regAt 8 Try.f68) ∧ SubOk Try.prog X 107 ⟨f_impl_KvState_apply_i11c, f_impl_KvState_apply_i11v, f_impl_KvState_apply_i11e, f_impl_KvState_apply_i11⟩ (ifAt 11 Try.f68) ∧ RegOk Try.prog X 107 en68 13 (regAt 13 Try.f68) ∧ True) by kernel_rfl) ⟨(dr68r6 hX), (dr68r8 hX), (f_impl_KvState_apply_i11Ok hX), (dr68r13 hX), trivial⟩)).1)
    (fun x r h => (f_impl_KvState_applyEq x).trans h)
def fl22 : List (Nat × Sig) := [(68, sg68)]
def hi22 : List (Nat × (K × Mk)) := [(3, ((.sl kdReply), (.o .s))), (6, ((.sl kdReply), (.o .s)))]
def en22 : Env := { n := 29, ty := assocN tyL, fns := assocN fl22, lo := 0, hint := assocN hi22 }
def su22 : Bool → Nat → Option Sub | true, 5 => some ⟨f_impl_FoldCommands_l5c, f_impl_FoldCommands_l5v, f_impl_FoldCommands_l5e, loopF f_impl_FoldCommands_l5⟩ | _, _ => none
theorem ok22 : EnvOk Try.prog en22 := envOk_of rfl rfl tyL_ok (⟨so68, trivial⟩)
theorem f_impl_FoldCommands_l5Eq (R : Type) (c : Vars f_impl_FoldCommands_l5c) (v : Vars f_impl_FoldCommands_l5v) (kk : Vars f_impl_FoldCommands_l5c → (Vars f_impl_FoldCommands_l5v ⊕ Oc f_impl_FoldCommands_l5e) → Option R) : evC en22 su22 (loopAt 5 Try.f22) (Desc.mk2 f_impl_FoldCommands_l5v v (Desc.mk2 f_impl_FoldCommands_l5c c .empty)) (fun o => bodyK f_impl_FoldCommands_l5c f_impl_FoldCommands_l5v f_impl_FoldCommands_l5e o kk) = f_impl_FoldCommands_l5 R c v kk := by kernel_rfl
theorem f_impl_FoldCommands_l5Ok {X : Cx} (hX : en22.lo = X.lo) : SubOk Try.prog X 29 ⟨f_impl_FoldCommands_l5c, f_impl_FoldCommands_l5v, f_impl_FoldCommands_l5e, loopF f_impl_FoldCommands_l5⟩ (.loop (loopAt 5 Try.f22)) :=
  sub_loop (subs := su22) ok22 rfl hX (GoodN.good (K := True) (Eq.mpr (show GoodN Try.prog X 29 en22 su22 (loopAt 5 Try.f22) True = (True) by kernel_rfl) trivial)).1 (by decide) (by decide) f_impl_FoldCommands_l5Eq
theorem f_impl_FoldCommandsEq (x : Ps ins22) : evF en22 su22 Try.f22 ins22 res22 x = f_impl_FoldCommands x := by kernel_rfl
theorem so22 : Sound Try.prog 22 sg22 :=
  sound_of (fn := Try.f22) (c := bodyOf Try.f22) (subs := su22) (E := en22) (by kernel_rfl) (by kernel_rfl) (by decide) ok22 (by kernel_rfl) (by kernel_rfl) (by decide)
    (fun X hX => (GoodN.good (K := True) (Eq.mpr (show GoodN Try.prog X 29 en22 su22 (bodyOf Try.f22) True = (SubOk Try.prog X 29 ⟨f_impl_FoldCommands_l5c, f_impl_FoldCommands_l5v, f_impl_FoldCommands_l5e, loopF f_impl_FoldCommands_l5⟩ (.loop (loopAt 5 Try.f22)) ∧ True) by kernel_rfl) ⟨(f_impl_FoldCommands_l5Ok hX), trivial⟩)).1)
    (fun x r h => (f_impl_FoldCommandsEq x).trans h)
def fl117 : List (Nat × Sig) := []
def en117 : Env := { n := 15, ty := assocN tyL, fns := assocN fl117, lo := 0 }
def su117 : Bool → Nat → Option Sub | _, _ => none
theorem ok117 : EnvOk Try.prog en117 := envOk_of rfl rfl tyL_ok (trivial)
theorem f_laws_eqPairEq (x : Ps ins117) : evF en117 su117 Try.f117 ins117 res117 x = f_laws_eqPair x := by kernel_rfl
theorem so117 : Sound Try.prog 117 sg117 :=
  sound_of (fn := Try.f117) (c := bodyOf Try.f117) (subs := su117) (E := en117) (by kernel_rfl) (by kernel_rfl) (by decide) ok117 (by kernel_rfl) (by kernel_rfl) (by decide)
    (fun X hX => (GoodN.good (K := True) (Eq.mpr (show GoodN Try.prog X 15 en117 su117 (bodyOf Try.f117) True = (True) by kernel_rfl) trivial)).1)
    (fun x r h => (f_laws_eqPairEq x).trans h)
def fl70 : List (Nat × Sig) := [(117, sg117)]
def en70 : Env := { n := 27, ty := assocN tyL, fns := assocN fl70, lo := 0 }
def su70 : Bool → Nat → Option Sub | true, 4 => some ⟨f_laws_eqPairS_l4c, f_laws_eqPairS_l4v, f_laws_eqPairS_l4e, loopF f_laws_eqPairS_l4⟩ | _, _ => none
theorem ok70 : EnvOk Try.prog en70 := envOk_of rfl rfl tyL_ok (⟨so117, trivial⟩)
theorem dr70r6 {X : Cx} (hX : en70.lo = X.lo) : RegOk Try.prog X 27 en70 6 (regAt 6 Try.f70) := regOk_of ok70 rfl hX (by kernel_rfl) (by kernel_rfl)
theorem f_laws_eqPairS_l4Eq (R : Type) (c : Vars f_laws_eqPairS_l4c) (v : Vars f_laws_eqPairS_l4v) (kk : Vars f_laws_eqPairS_l4c → (Vars f_laws_eqPairS_l4v ⊕ Oc f_laws_eqPairS_l4e) → Option R) : evC en70 su70 (loopAt 4 Try.f70) (Desc.mk2 f_laws_eqPairS_l4v v (Desc.mk2 f_laws_eqPairS_l4c c .empty)) (fun o => bodyK f_laws_eqPairS_l4c f_laws_eqPairS_l4v f_laws_eqPairS_l4e o kk) = f_laws_eqPairS_l4 R c v kk := by kernel_rfl
theorem f_laws_eqPairS_l4Ok {X : Cx} (hX : en70.lo = X.lo) : SubOk Try.prog X 27 ⟨f_laws_eqPairS_l4c, f_laws_eqPairS_l4v, f_laws_eqPairS_l4e, loopF f_laws_eqPairS_l4⟩ (.loop (loopAt 4 Try.f70)) :=
  sub_loop (subs := su70) ok70 rfl hX (GoodN.good (K := True) (Eq.mpr (show GoodN Try.prog X 27 en70 su70 (loopAt 4 Try.f70) True = (RegOk Try.prog X 27 en70 6 (regAt 6 Try.f70) ∧ True) by kernel_rfl) ⟨(dr70r6 hX), trivial⟩)).1 (by decide) (by decide) f_laws_eqPairS_l4Eq
theorem f_laws_eqPairSEq (x : Ps ins70) : evF en70 su70 Try.f70 ins70 res70 x = f_laws_eqPairS x := by kernel_rfl
theorem so70 : Sound Try.prog 70 sg70 :=
  sound_of (fn := Try.f70) (c := bodyOf Try.f70) (subs := su70) (E := en70) (by kernel_rfl) (by kernel_rfl) (by decide) ok70 (by kernel_rfl) (by kernel_rfl) (by decide)
    (fun X hX => (GoodN.good (K := True) (Eq.mpr (show GoodN Try.prog X 27 en70 su70 (bodyOf Try.f70) True = (SubOk Try.prog X 27 ⟨f_laws_eqPairS_l4c, f_laws_eqPairS_l4v, f_laws_eqPairS_l4e, loopF f_laws_eqPairS_l4⟩ (.loop (loopAt 4 Try.f70)) ∧ True) by kernel_rfl) ⟨(f_laws_eqPairS_l4Ok hX), trivial⟩)).1)
    (fun x r h => (f_laws_eqPairSEq x).trans h)
def fl72 : List (Nat × Sig) := []
def en72 : Env := { n := 15, ty := assocN tyL, fns := assocN fl72, lo := 0 }
def su72 : Bool → Nat → Option Sub | _, _ => none
theorem ok72 : EnvOk Try.prog en72 := envOk_of rfl rfl tyL_ok (trivial)
theorem f_laws_eqReplyEq (x : Ps ins72) : evF en72 su72 Try.f72 ins72 res72 x = f_laws_eqReply x := by kernel_rfl
theorem so72 : Sound Try.prog 72 sg72 :=
  sound_of (fn := Try.f72) (c := bodyOf Try.f72) (subs := su72) (E := en72) (by kernel_rfl) (by kernel_rfl) (by decide) ok72 (by kernel_rfl) (by kernel_rfl) (by decide)
    (fun X hX => (GoodN.good (K := True) (Eq.mpr (show GoodN Try.prog X 15 en72 su72 (bodyOf Try.f72) True = (True) by kernel_rfl) trivial)).1)
    (fun x r h => (f_laws_eqReplyEq x).trans h)
def fl118 : List (Nat × Sig) := [(72, sg72)]
def en118 : Env := { n := 21, ty := assocN tyL, fns := assocN fl118, lo := 0 }
def su118 : Bool → Nat → Option Sub | _, _ => none
theorem ok118 : EnvOk Try.prog en118 := envOk_of rfl rfl tyL_ok (⟨so72, trivial⟩)
theorem f_laws_eqSessionEq (x : Ps ins118) : evF en118 su118 Try.f118 ins118 res118 x = f_laws_eqSession x := by kernel_rfl
theorem so118 : Sound Try.prog 118 sg118 :=
  sound_of (fn := Try.f118) (c := bodyOf Try.f118) (subs := su118) (E := en118) (by kernel_rfl) (by kernel_rfl) (by decide) ok118 (by kernel_rfl) (by kernel_rfl) (by decide)
    (fun X hX => (GoodN.good (K := True) (Eq.mpr (show GoodN Try.prog X 21 en118 su118 (bodyOf Try.f118) True = (True) by kernel_rfl) trivial)).1)
    (fun x r h => (f_laws_eqSessionEq x).trans h)
def fl71 : List (Nat × Sig) := [(118, sg118)]
def en71 : Env := { n := 27, ty := assocN tyL, fns := assocN fl71, lo := 0 }
def su71 : Bool → Nat → Option Sub | true, 4 => some ⟨f_laws_eqSessionS_l4c, f_laws_eqSessionS_l4v, f_laws_eqSessionS_l4e, loopF f_laws_eqSessionS_l4⟩ | _, _ => none
theorem ok71 : EnvOk Try.prog en71 := envOk_of rfl rfl tyL_ok (⟨so118, trivial⟩)
theorem dr71r6 {X : Cx} (hX : en71.lo = X.lo) : RegOk Try.prog X 27 en71 6 (regAt 6 Try.f71) := regOk_of ok71 rfl hX (by kernel_rfl) (by kernel_rfl)
theorem f_laws_eqSessionS_l4Eq (R : Type) (c : Vars f_laws_eqSessionS_l4c) (v : Vars f_laws_eqSessionS_l4v) (kk : Vars f_laws_eqSessionS_l4c → (Vars f_laws_eqSessionS_l4v ⊕ Oc f_laws_eqSessionS_l4e) → Option R) : evC en71 su71 (loopAt 4 Try.f71) (Desc.mk2 f_laws_eqSessionS_l4v v (Desc.mk2 f_laws_eqSessionS_l4c c .empty)) (fun o => bodyK f_laws_eqSessionS_l4c f_laws_eqSessionS_l4v f_laws_eqSessionS_l4e o kk) = f_laws_eqSessionS_l4 R c v kk := by kernel_rfl
theorem f_laws_eqSessionS_l4Ok {X : Cx} (hX : en71.lo = X.lo) : SubOk Try.prog X 27 ⟨f_laws_eqSessionS_l4c, f_laws_eqSessionS_l4v, f_laws_eqSessionS_l4e, loopF f_laws_eqSessionS_l4⟩ (.loop (loopAt 4 Try.f71)) :=
  sub_loop (subs := su71) ok71 rfl hX (GoodN.good (K := True) (Eq.mpr (show GoodN Try.prog X 27 en71 su71 (loopAt 4 Try.f71) True = (RegOk Try.prog X 27 en71 6 (regAt 6 Try.f71) ∧ True) by kernel_rfl) ⟨(dr71r6 hX), trivial⟩)).1 (by decide) (by decide) f_laws_eqSessionS_l4Eq
theorem f_laws_eqSessionSEq (x : Ps ins71) : evF en71 su71 Try.f71 ins71 res71 x = f_laws_eqSessionS x := by kernel_rfl
theorem so71 : Sound Try.prog 71 sg71 :=
  sound_of (fn := Try.f71) (c := bodyOf Try.f71) (subs := su71) (E := en71) (by kernel_rfl) (by kernel_rfl) (by decide) ok71 (by kernel_rfl) (by kernel_rfl) (by decide)
    (fun X hX => (GoodN.good (K := True) (Eq.mpr (show GoodN Try.prog X 27 en71 su71 (bodyOf Try.f71) True = (SubOk Try.prog X 27 ⟨f_laws_eqSessionS_l4c, f_laws_eqSessionS_l4v, f_laws_eqSessionS_l4e, loopF f_laws_eqSessionS_l4⟩ (.loop (loopAt 4 Try.f71)) ∧ True) by kernel_rfl) ⟨(f_laws_eqSessionS_l4Ok hX), trivial⟩)).1)
    (fun x r h => (f_laws_eqSessionSEq x).trans h)
def fl26 : List (Nat × Sig) := [(70, sg70), (71, sg71)]
def en26 : Env := { n := 17, ty := assocN tyL, fns := assocN fl26, lo := 0 }
def su26 : Bool → Nat → Option Sub | _, _ => none
theorem ok26 : EnvOk Try.prog en26 := envOk_of rfl rfl tyL_ok (⟨so70, ⟨so71, trivial⟩⟩)
theorem f_laws_eqKvStateEq (x : Ps ins26) : evF en26 su26 Try.f26 ins26 res26 x = f_laws_eqKvState x := by kernel_rfl
theorem so26 : Sound Try.prog 26 sg26 :=
  sound_of (fn := Try.f26) (c := bodyOf Try.f26) (subs := su26) (E := en26) (by kernel_rfl) (by kernel_rfl) (by decide) ok26 (by kernel_rfl) (by kernel_rfl) (by decide)
    (fun X hX => (GoodN.good (K := True) (Eq.mpr (show GoodN Try.prog X 17 en26 su26 (bodyOf Try.f26) True = (True) by kernel_rfl) trivial)).1)
    (fun x r h => (f_laws_eqKvStateEq x).trans h)
def fl27 : List (Nat × Sig) := [(72, sg72)]
def en27 : Env := { n := 27, ty := assocN tyL, fns := assocN fl27, lo := 0 }
def su27 : Bool → Nat → Option Sub | true, 4 => some ⟨f_laws_eqReplyS_l4c, f_laws_eqReplyS_l4v, f_laws_eqReplyS_l4e, loopF f_laws_eqReplyS_l4⟩ | _, _ => none
theorem ok27 : EnvOk Try.prog en27 := envOk_of rfl rfl tyL_ok (⟨so72, trivial⟩)
theorem dr27r6 {X : Cx} (hX : en27.lo = X.lo) : RegOk Try.prog X 27 en27 6 (regAt 6 Try.f27) := regOk_of ok27 rfl hX (by kernel_rfl) (by kernel_rfl)
theorem f_laws_eqReplyS_l4Eq (R : Type) (c : Vars f_laws_eqReplyS_l4c) (v : Vars f_laws_eqReplyS_l4v) (kk : Vars f_laws_eqReplyS_l4c → (Vars f_laws_eqReplyS_l4v ⊕ Oc f_laws_eqReplyS_l4e) → Option R) : evC en27 su27 (loopAt 4 Try.f27) (Desc.mk2 f_laws_eqReplyS_l4v v (Desc.mk2 f_laws_eqReplyS_l4c c .empty)) (fun o => bodyK f_laws_eqReplyS_l4c f_laws_eqReplyS_l4v f_laws_eqReplyS_l4e o kk) = f_laws_eqReplyS_l4 R c v kk := by kernel_rfl
theorem f_laws_eqReplyS_l4Ok {X : Cx} (hX : en27.lo = X.lo) : SubOk Try.prog X 27 ⟨f_laws_eqReplyS_l4c, f_laws_eqReplyS_l4v, f_laws_eqReplyS_l4e, loopF f_laws_eqReplyS_l4⟩ (.loop (loopAt 4 Try.f27)) :=
  sub_loop (subs := su27) ok27 rfl hX (GoodN.good (K := True) (Eq.mpr (show GoodN Try.prog X 27 en27 su27 (loopAt 4 Try.f27) True = (RegOk Try.prog X 27 en27 6 (regAt 6 Try.f27) ∧ True) by kernel_rfl) ⟨(dr27r6 hX), trivial⟩)).1 (by decide) (by decide) f_laws_eqReplyS_l4Eq
theorem f_laws_eqReplySEq (x : Ps ins27) : evF en27 su27 Try.f27 ins27 res27 x = f_laws_eqReplyS x := by kernel_rfl
theorem so27 : Sound Try.prog 27 sg27 :=
  sound_of (fn := Try.f27) (c := bodyOf Try.f27) (subs := su27) (E := en27) (by kernel_rfl) (by kernel_rfl) (by decide) ok27 (by kernel_rfl) (by kernel_rfl) (by decide)
    (fun X hX => (GoodN.good (K := True) (Eq.mpr (show GoodN Try.prog X 27 en27 su27 (bodyOf Try.f27) True = (SubOk Try.prog X 27 ⟨f_laws_eqReplyS_l4c, f_laws_eqReplyS_l4v, f_laws_eqReplyS_l4e, loopF f_laws_eqReplyS_l4⟩ (.loop (loopAt 4 Try.f27)) ∧ True) by kernel_rfl) ⟨(f_laws_eqReplyS_l4Ok hX), trivial⟩)).1)
    (fun x r h => (f_laws_eqReplySEq x).trans h)
def fl55 : List (Nat × Sig) := []
def en55 : Env := { n := 35, ty := assocN tyL, fns := assocN fl55, lo := 0 }
def su55 : Bool → Nat → Option Sub | _, _ => none
theorem ok55 : EnvOk Try.prog en55 := envOk_of rfl rfl tyL_ok (trivial)
theorem f_laws_eqCommandEq (x : Ps ins55) : evF en55 su55 Try.f55 ins55 res55 x = f_laws_eqCommand x := by kernel_rfl
theorem so55 : Sound Try.prog 55 sg55 :=
  sound_of (fn := Try.f55) (c := bodyOf Try.f55) (subs := su55) (E := en55) (by kernel_rfl) (by kernel_rfl) (by decide) ok55 (by kernel_rfl) (by kernel_rfl) (by decide)
    (fun X hX => (GoodN.good (K := True) (Eq.mpr (show GoodN Try.prog X 35 en55 su55 (bodyOf Try.f55) True = (True) by kernel_rfl) trivial)).1)
    (fun x r h => (f_laws_eqCommandEq x).trans h)
def fl13 : List (Nat × Sig) := [(55, sg55)]
def en13 : Env := { n := 27, ty := assocN tyL, fns := assocN fl13, lo := 0 }
def su13 : Bool → Nat → Option Sub | true, 4 => some ⟨f_laws_eqCommandS_l4c, f_laws_eqCommandS_l4v, f_laws_eqCommandS_l4e, loopF f_laws_eqCommandS_l4⟩ | _, _ => none
theorem ok13 : EnvOk Try.prog en13 := envOk_of rfl rfl tyL_ok (⟨so55, trivial⟩)
theorem dr13r6 {X : Cx} (hX : en13.lo = X.lo) : RegOk Try.prog X 27 en13 6 (regAt 6 Try.f13) := regOk_of ok13 rfl hX (by kernel_rfl) (by kernel_rfl)
theorem f_laws_eqCommandS_l4Eq (R : Type) (c : Vars f_laws_eqCommandS_l4c) (v : Vars f_laws_eqCommandS_l4v) (kk : Vars f_laws_eqCommandS_l4c → (Vars f_laws_eqCommandS_l4v ⊕ Oc f_laws_eqCommandS_l4e) → Option R) : evC en13 su13 (loopAt 4 Try.f13) (Desc.mk2 f_laws_eqCommandS_l4v v (Desc.mk2 f_laws_eqCommandS_l4c c .empty)) (fun o => bodyK f_laws_eqCommandS_l4c f_laws_eqCommandS_l4v f_laws_eqCommandS_l4e o kk) = f_laws_eqCommandS_l4 R c v kk := by kernel_rfl
theorem f_laws_eqCommandS_l4Ok {X : Cx} (hX : en13.lo = X.lo) : SubOk Try.prog X 27 ⟨f_laws_eqCommandS_l4c, f_laws_eqCommandS_l4v, f_laws_eqCommandS_l4e, loopF f_laws_eqCommandS_l4⟩ (.loop (loopAt 4 Try.f13)) :=
  sub_loop (subs := su13) ok13 rfl hX (GoodN.good (K := True) (Eq.mpr (show GoodN Try.prog X 27 en13 su13 (loopAt 4 Try.f13) True = (RegOk Try.prog X 27 en13 6 (regAt 6 Try.f13) ∧ True) by kernel_rfl) ⟨(dr13r6 hX), trivial⟩)).1 (by decide) (by decide) f_laws_eqCommandS_l4Eq
theorem f_laws_eqCommandSEq (x : Ps ins13) : evF en13 su13 Try.f13 ins13 res13 x = f_laws_eqCommandS x := by kernel_rfl
theorem so13 : Sound Try.prog 13 sg13 :=
  sound_of (fn := Try.f13) (c := bodyOf Try.f13) (subs := su13) (E := en13) (by kernel_rfl) (by kernel_rfl) (by decide) ok13 (by kernel_rfl) (by kernel_rfl) (by decide)
    (fun X hX => (GoodN.good (K := True) (Eq.mpr (show GoodN Try.prog X 27 en13 su13 (bodyOf Try.f13) True = (SubOk Try.prog X 27 ⟨f_laws_eqCommandS_l4c, f_laws_eqCommandS_l4v, f_laws_eqCommandS_l4e, loopF f_laws_eqCommandS_l4⟩ (.loop (loopAt 4 Try.f13)) ∧ True) by kernel_rfl) ⟨(f_laws_eqCommandS_l4Ok hX), trivial⟩)).1)
    (fun x r h => (f_laws_eqCommandSEq x).trans h)
def fl56 : List (Nat × Sig) := []
def en56 : Env := { n := 20, ty := assocN tyL, fns := assocN fl56, lo := 0 }
def su56 : Bool → Nat → Option Sub | true, 4 => some ⟨f_laws_markText_l4c, f_laws_markText_l4v, f_laws_markText_l4e, loopF f_laws_markText_l4⟩ | _, _ => none
theorem ok56 : EnvOk Try.prog en56 := envOk_of rfl rfl tyL_ok (trivial)
theorem f_laws_markText_l4Eq (R : Type) (c : Vars f_laws_markText_l4c) (v : Vars f_laws_markText_l4v) (kk : Vars f_laws_markText_l4c → (Vars f_laws_markText_l4v ⊕ Oc f_laws_markText_l4e) → Option R) : evC en56 su56 (loopAt 4 Try.f56) (Desc.mk2 f_laws_markText_l4v v (Desc.mk2 f_laws_markText_l4c c .empty)) (fun o => bodyK f_laws_markText_l4c f_laws_markText_l4v f_laws_markText_l4e o kk) = f_laws_markText_l4 R c v kk := by kernel_rfl
theorem f_laws_markText_l4Ok {X : Cx} (hX : en56.lo = X.lo) : SubOk Try.prog X 20 ⟨f_laws_markText_l4c, f_laws_markText_l4v, f_laws_markText_l4e, loopF f_laws_markText_l4⟩ (.loop (loopAt 4 Try.f56)) :=
  sub_loop (subs := su56) ok56 rfl hX (GoodN.good (K := True) (Eq.mpr (show GoodN Try.prog X 20 en56 su56 (loopAt 4 Try.f56) True = (True) by kernel_rfl) trivial)).1 (by decide) (by decide) f_laws_markText_l4Eq
theorem f_laws_markTextEq (x : Ps ins56) : evF en56 su56 Try.f56 ins56 res56 x = f_laws_markText x := by kernel_rfl
theorem so56 : Sound Try.prog 56 sg56 :=
  sound_of (fn := Try.f56) (c := bodyOf Try.f56) (subs := su56) (E := en56) (by kernel_rfl) (by kernel_rfl) (by decide) ok56 (by kernel_rfl) (by kernel_rfl) (by decide)
    (fun X hX => (GoodN.good (K := True) (Eq.mpr (show GoodN Try.prog X 20 en56 su56 (bodyOf Try.f56) True = (SubOk Try.prog X 20 ⟨f_laws_markText_l4c, f_laws_markText_l4v, f_laws_markText_l4e, loopF f_laws_markText_l4⟩ (.loop (loopAt 4 Try.f56)) ∧ True) by kernel_rfl) ⟨(f_laws_markText_l4Ok hX), trivial⟩)).1)
    (fun x r h => (f_laws_markTextEq x).trans h)
def fl14 : List (Nat × Sig) := [(56, sg56)]
def en14 : Env := { n := 58, ty := assocN tyL, fns := assocN fl14, lo := 1 }
def su14 : Bool → Nat → Option Sub | true, 2 => some ⟨f_laws_markCommandS_l2c, f_laws_markCommandS_l2v, f_laws_markCommandS_l2e, loopF f_laws_markCommandS_l2⟩ | _, _ => none
theorem ok14 : EnvOk Try.prog en14 := envOk_of rfl rfl tyL_ok (⟨so56, trivial⟩)
theorem f_laws_markCommandS_l2Eq (R : Type) (c : Vars f_laws_markCommandS_l2c) (v : Vars f_laws_markCommandS_l2v) (kk : Vars f_laws_markCommandS_l2c → (Vars f_laws_markCommandS_l2v ⊕ Oc f_laws_markCommandS_l2e) → Option R) : evC en14 su14 (loopAt 2 Try.f14) (Desc.mk2 f_laws_markCommandS_l2v v (Desc.mk2 f_laws_markCommandS_l2c c .empty)) (fun o => bodyK f_laws_markCommandS_l2c f_laws_markCommandS_l2v f_laws_markCommandS_l2e o kk) = f_laws_markCommandS_l2 R c v kk := by kernel_rfl
theorem f_laws_markCommandS_l2Ok {X : Cx} (hX : en14.lo = X.lo) : SubOk Try.prog X 58 ⟨f_laws_markCommandS_l2c, f_laws_markCommandS_l2v, f_laws_markCommandS_l2e, loopF f_laws_markCommandS_l2⟩ (.loop (loopAt 2 Try.f14)) :=
  sub_loop (subs := su14) ok14 rfl hX (GoodN.good (K := True) (Eq.mpr (show GoodN Try.prog X 58 en14 su14 (loopAt 2 Try.f14) True = (True) by kernel_rfl) trivial)).1 (by decide) (by decide) f_laws_markCommandS_l2Eq
theorem f_laws_markCommandSEq (x : Ps ins14) : evF en14 su14 Try.f14 ins14 res14 x = f_laws_markCommandS x := by kernel_rfl
theorem so14 : Sound Try.prog 14 sg14 :=
  sound_of (fn := Try.f14) (c := bodyOf Try.f14) (subs := su14) (E := en14) (by kernel_rfl) (by kernel_rfl) (by decide) ok14 (by kernel_rfl) (by kernel_rfl) (by decide)
    (fun X hX => (GoodN.good (K := True) (Eq.mpr (show GoodN Try.prog X 58 en14 su14 (bodyOf Try.f14) True = (SubOk Try.prog X 58 ⟨f_laws_markCommandS_l2c, f_laws_markCommandS_l2v, f_laws_markCommandS_l2e, loopF f_laws_markCommandS_l2⟩ (.loop (loopAt 2 Try.f14)) ∧ True) by kernel_rfl) ⟨(f_laws_markCommandS_l2Ok hX), trivial⟩)).1)
    (fun x r h => (f_laws_markCommandSEq x).trans h)
def fl73 : List (Nat × Sig) := [(56, sg56)]
def en73 : Env := { n := 29, ty := assocN tyL, fns := assocN fl73, lo := 1 }
def su73 : Bool → Nat → Option Sub | true, 2 => some ⟨f_laws_markPairS_l2c, f_laws_markPairS_l2v, f_laws_markPairS_l2e, loopF f_laws_markPairS_l2⟩ | _, _ => none
theorem ok73 : EnvOk Try.prog en73 := envOk_of rfl rfl tyL_ok (⟨so56, trivial⟩)
theorem f_laws_markPairS_l2Eq (R : Type) (c : Vars f_laws_markPairS_l2c) (v : Vars f_laws_markPairS_l2v) (kk : Vars f_laws_markPairS_l2c → (Vars f_laws_markPairS_l2v ⊕ Oc f_laws_markPairS_l2e) → Option R) : evC en73 su73 (loopAt 2 Try.f73) (Desc.mk2 f_laws_markPairS_l2v v (Desc.mk2 f_laws_markPairS_l2c c .empty)) (fun o => bodyK f_laws_markPairS_l2c f_laws_markPairS_l2v f_laws_markPairS_l2e o kk) = f_laws_markPairS_l2 R c v kk := by kernel_rfl
theorem f_laws_markPairS_l2Ok {X : Cx} (hX : en73.lo = X.lo) : SubOk Try.prog X 29 ⟨f_laws_markPairS_l2c, f_laws_markPairS_l2v, f_laws_markPairS_l2e, loopF f_laws_markPairS_l2⟩ (.loop (loopAt 2 Try.f73)) :=
  sub_loop (subs := su73) ok73 rfl hX (GoodN.good (K := True) (Eq.mpr (show GoodN Try.prog X 29 en73 su73 (loopAt 2 Try.f73) True = (True) by kernel_rfl) trivial)).1 (by decide) (by decide) f_laws_markPairS_l2Eq
theorem f_laws_markPairSEq (x : Ps ins73) : evF en73 su73 Try.f73 ins73 res73 x = f_laws_markPairS x := by kernel_rfl
theorem so73 : Sound Try.prog 73 sg73 :=
  sound_of (fn := Try.f73) (c := bodyOf Try.f73) (subs := su73) (E := en73) (by kernel_rfl) (by kernel_rfl) (by decide) ok73 (by kernel_rfl) (by kernel_rfl) (by decide)
    (fun X hX => (GoodN.good (K := True) (Eq.mpr (show GoodN Try.prog X 29 en73 su73 (bodyOf Try.f73) True = (SubOk Try.prog X 29 ⟨f_laws_markPairS_l2c, f_laws_markPairS_l2v, f_laws_markPairS_l2e, loopF f_laws_markPairS_l2⟩ (.loop (loopAt 2 Try.f73)) ∧ True) by kernel_rfl) ⟨(f_laws_markPairS_l2Ok hX), trivial⟩)).1)
    (fun x r h => (f_laws_markPairSEq x).trans h)
def fl74 : List (Nat × Sig) := [(56, sg56)]
def en74 : Env := { n := 44, ty := assocN tyL, fns := assocN fl74, lo := 1 }
def su74 : Bool → Nat → Option Sub | true, 2 => some ⟨f_laws_markSessionS_l2c, f_laws_markSessionS_l2v, f_laws_markSessionS_l2e, loopF f_laws_markSessionS_l2⟩ | _, _ => none
theorem ok74 : EnvOk Try.prog en74 := envOk_of rfl rfl tyL_ok (⟨so56, trivial⟩)
theorem f_laws_markSessionS_l2Eq (R : Type) (c : Vars f_laws_markSessionS_l2c) (v : Vars f_laws_markSessionS_l2v) (kk : Vars f_laws_markSessionS_l2c → (Vars f_laws_markSessionS_l2v ⊕ Oc f_laws_markSessionS_l2e) → Option R) : evC en74 su74 (loopAt 2 Try.f74) (Desc.mk2 f_laws_markSessionS_l2v v (Desc.mk2 f_laws_markSessionS_l2c c .empty)) (fun o => bodyK f_laws_markSessionS_l2c f_laws_markSessionS_l2v f_laws_markSessionS_l2e o kk) = f_laws_markSessionS_l2 R c v kk := by kernel_rfl
theorem f_laws_markSessionS_l2Ok {X : Cx} (hX : en74.lo = X.lo) : SubOk Try.prog X 44 ⟨f_laws_markSessionS_l2c, f_laws_markSessionS_l2v, f_laws_markSessionS_l2e, loopF f_laws_markSessionS_l2⟩ (.loop (loopAt 2 Try.f74)) :=
  sub_loop (subs := su74) ok74 rfl hX (GoodN.good (K := True) (Eq.mpr (show GoodN Try.prog X 44 en74 su74 (loopAt 2 Try.f74) True = (True) by kernel_rfl) trivial)).1 (by decide) (by decide) f_laws_markSessionS_l2Eq
theorem f_laws_markSessionSEq (x : Ps ins74) : evF en74 su74 Try.f74 ins74 res74 x = f_laws_markSessionS x := by kernel_rfl
theorem so74 : Sound Try.prog 74 sg74 :=
  sound_of (fn := Try.f74) (c := bodyOf Try.f74) (subs := su74) (E := en74) (by kernel_rfl) (by kernel_rfl) (by decide) ok74 (by kernel_rfl) (by kernel_rfl) (by decide)
    (fun X hX => (GoodN.good (K := True) (Eq.mpr (show GoodN Try.prog X 44 en74 su74 (bodyOf Try.f74) True = (SubOk Try.prog X 44 ⟨f_laws_markSessionS_l2c, f_laws_markSessionS_l2v, f_laws_markSessionS_l2e, loopF f_laws_markSessionS_l2⟩ (.loop (loopAt 2 Try.f74)) ∧ True) by kernel_rfl) ⟨(f_laws_markSessionS_l2Ok hX), trivial⟩)).1)
    (fun x r h => (f_laws_markSessionSEq x).trans h)
def fl28 : List (Nat × Sig) := [(73, sg73), (74, sg74)]
def en28 : Env := { n := 14, ty := assocN tyL, fns := assocN fl28, lo := 1 }
def su28 : Bool → Nat → Option Sub | _, _ => none
theorem ok28 : EnvOk Try.prog en28 := envOk_of rfl rfl tyL_ok (⟨so73, ⟨so74, trivial⟩⟩)
theorem f_laws_markKvStateEq (x : Ps ins28) : evF en28 su28 Try.f28 ins28 res28 x = f_laws_markKvState x := by kernel_rfl
theorem so28 : Sound Try.prog 28 sg28 :=
  sound_of (fn := Try.f28) (c := bodyOf Try.f28) (subs := su28) (E := en28) (by kernel_rfl) (by kernel_rfl) (by decide) ok28 (by kernel_rfl) (by kernel_rfl) (by decide)
    (fun X hX => (GoodN.good (K := True) (Eq.mpr (show GoodN Try.prog X 14 en28 su28 (bodyOf Try.f28) True = (True) by kernel_rfl) trivial)).1)
    (fun x r h => (f_laws_markKvStateEq x).trans h)
def fl29 : List (Nat × Sig) := [(56, sg56)]
def en29 : Env := { n := 28, ty := assocN tyL, fns := assocN fl29, lo := 1 }
def su29 : Bool → Nat → Option Sub | true, 2 => some ⟨f_laws_markReplyS_l2c, f_laws_markReplyS_l2v, f_laws_markReplyS_l2e, loopF f_laws_markReplyS_l2⟩ | _, _ => none
theorem ok29 : EnvOk Try.prog en29 := envOk_of rfl rfl tyL_ok (⟨so56, trivial⟩)
theorem f_laws_markReplyS_l2Eq (R : Type) (c : Vars f_laws_markReplyS_l2c) (v : Vars f_laws_markReplyS_l2v) (kk : Vars f_laws_markReplyS_l2c → (Vars f_laws_markReplyS_l2v ⊕ Oc f_laws_markReplyS_l2e) → Option R) : evC en29 su29 (loopAt 2 Try.f29) (Desc.mk2 f_laws_markReplyS_l2v v (Desc.mk2 f_laws_markReplyS_l2c c .empty)) (fun o => bodyK f_laws_markReplyS_l2c f_laws_markReplyS_l2v f_laws_markReplyS_l2e o kk) = f_laws_markReplyS_l2 R c v kk := by kernel_rfl
theorem f_laws_markReplyS_l2Ok {X : Cx} (hX : en29.lo = X.lo) : SubOk Try.prog X 28 ⟨f_laws_markReplyS_l2c, f_laws_markReplyS_l2v, f_laws_markReplyS_l2e, loopF f_laws_markReplyS_l2⟩ (.loop (loopAt 2 Try.f29)) :=
  sub_loop (subs := su29) ok29 rfl hX (GoodN.good (K := True) (Eq.mpr (show GoodN Try.prog X 28 en29 su29 (loopAt 2 Try.f29) True = (True) by kernel_rfl) trivial)).1 (by decide) (by decide) f_laws_markReplyS_l2Eq
theorem f_laws_markReplySEq (x : Ps ins29) : evF en29 su29 Try.f29 ins29 res29 x = f_laws_markReplyS x := by kernel_rfl
theorem so29 : Sound Try.prog 29 sg29 :=
  sound_of (fn := Try.f29) (c := bodyOf Try.f29) (subs := su29) (E := en29) (by kernel_rfl) (by kernel_rfl) (by decide) ok29 (by kernel_rfl) (by kernel_rfl) (by decide)
    (fun X hX => (GoodN.good (K := True) (Eq.mpr (show GoodN Try.prog X 28 en29 su29 (bodyOf Try.f29) True = (SubOk Try.prog X 28 ⟨f_laws_markReplyS_l2c, f_laws_markReplyS_l2v, f_laws_markReplyS_l2e, loopF f_laws_markReplyS_l2⟩ (.loop (loopAt 2 Try.f29)) ∧ True) by kernel_rfl) ⟨(f_laws_markReplyS_l2Ok hX), trivial⟩)).1)
    (fun x r h => (f_laws_markReplySEq x).trans h)
def fl75 : List (Nat × Sig) := [(56, sg56)]
def en75 : Env := { n := 33, ty := assocN tyL, fns := assocN fl75, lo := 0 }
def su75 : Bool → Nat → Option Sub | true, 2 => some ⟨f_laws_heldPairS_l2c, f_laws_heldPairS_l2v, f_laws_heldPairS_l2e, loopF f_laws_heldPairS_l2⟩ | _, _ => none
theorem ok75 : EnvOk Try.prog en75 := envOk_of rfl rfl tyL_ok (⟨so56, trivial⟩)
theorem dr75r4 {X : Cx} (hX : en75.lo = X.lo) : RegOk Try.prog X 33 en75 4 (regAt 4 Try.f75) := regOk_of ok75 rfl hX (by kernel_rfl) (by kernel_rfl)
theorem dr75r7 {X : Cx} (hX : en75.lo = X.lo) : RegOk Try.prog X 33 en75 7 (regAt 7 Try.f75) := regOk_of ok75 rfl hX (by kernel_rfl) (by kernel_rfl)
theorem f_laws_heldPairS_l2Eq (R : Type) (c : Vars f_laws_heldPairS_l2c) (v : Vars f_laws_heldPairS_l2v) (kk : Vars f_laws_heldPairS_l2c → (Vars f_laws_heldPairS_l2v ⊕ Oc f_laws_heldPairS_l2e) → Option R) : evC en75 su75 (loopAt 2 Try.f75) (Desc.mk2 f_laws_heldPairS_l2v v (Desc.mk2 f_laws_heldPairS_l2c c .empty)) (fun o => bodyK f_laws_heldPairS_l2c f_laws_heldPairS_l2v f_laws_heldPairS_l2e o kk) = f_laws_heldPairS_l2 R c v kk := by kernel_rfl
theorem f_laws_heldPairS_l2Ok {X : Cx} (hX : en75.lo = X.lo) : SubOk Try.prog X 33 ⟨f_laws_heldPairS_l2c, f_laws_heldPairS_l2v, f_laws_heldPairS_l2e, loopF f_laws_heldPairS_l2⟩ (.loop (loopAt 2 Try.f75)) :=
  sub_loop (subs := su75) ok75 rfl hX (GoodN.good (K := True) (Eq.mpr (show GoodN Try.prog X 33 en75 su75 (loopAt 2 Try.f75) True = (RegOk Try.prog X 33 en75 4 (regAt 4 Try.f75) ∧ RegOk Try.prog X 33 en75 7 (regAt 7 Try.f75) ∧ True) by kernel_rfl) ⟨(dr75r4 hX), (dr75r7 hX), trivial⟩)).1 (by decide) (by decide) f_laws_heldPairS_l2Eq
theorem f_laws_heldPairSEq (x : Ps ins75) : evF en75 su75 Try.f75 ins75 res75 x = f_laws_heldPairS x := by kernel_rfl
theorem so75 : Sound Try.prog 75 sg75 :=
  sound_of (fn := Try.f75) (c := bodyOf Try.f75) (subs := su75) (E := en75) (by kernel_rfl) (by kernel_rfl) (by decide) ok75 (by kernel_rfl) (by kernel_rfl) (by decide)
    (fun X hX => (GoodN.good (K := True) (Eq.mpr (show GoodN Try.prog X 33 en75 su75 (bodyOf Try.f75) True = (SubOk Try.prog X 33 ⟨f_laws_heldPairS_l2c, f_laws_heldPairS_l2v, f_laws_heldPairS_l2e, loopF f_laws_heldPairS_l2⟩ (.loop (loopAt 2 Try.f75)) ∧ True) by kernel_rfl) ⟨(f_laws_heldPairS_l2Ok hX), trivial⟩)).1)
    (fun x r h => (f_laws_heldPairSEq x).trans h)
def fl76 : List (Nat × Sig) := [(56, sg56)]
def en76 : Env := { n := 52, ty := assocN tyL, fns := assocN fl76, lo := 0 }
def su76 : Bool → Nat → Option Sub | true, 2 => some ⟨f_laws_heldSessionS_l2c, f_laws_heldSessionS_l2v, f_laws_heldSessionS_l2e, loopF f_laws_heldSessionS_l2⟩ | _, _ => none
theorem ok76 : EnvOk Try.prog en76 := envOk_of rfl rfl tyL_ok (⟨so56, trivial⟩)
theorem dr76r13 {X : Cx} (hX : en76.lo = X.lo) : RegOk Try.prog X 52 en76 13 (regAt 13 Try.f76) := regOk_of ok76 rfl hX (by kernel_rfl) (by kernel_rfl)
theorem f_laws_heldSessionS_l2Eq (R : Type) (c : Vars f_laws_heldSessionS_l2c) (v : Vars f_laws_heldSessionS_l2v) (kk : Vars f_laws_heldSessionS_l2c → (Vars f_laws_heldSessionS_l2v ⊕ Oc f_laws_heldSessionS_l2e) → Option R) : evC en76 su76 (loopAt 2 Try.f76) (Desc.mk2 f_laws_heldSessionS_l2v v (Desc.mk2 f_laws_heldSessionS_l2c c .empty)) (fun o => bodyK f_laws_heldSessionS_l2c f_laws_heldSessionS_l2v f_laws_heldSessionS_l2e o kk) = f_laws_heldSessionS_l2 R c v kk := by kernel_rfl
theorem f_laws_heldSessionS_l2Ok {X : Cx} (hX : en76.lo = X.lo) : SubOk Try.prog X 52 ⟨f_laws_heldSessionS_l2c, f_laws_heldSessionS_l2v, f_laws_heldSessionS_l2e, loopF f_laws_heldSessionS_l2⟩ (.loop (loopAt 2 Try.f76)) :=
  sub_loop (subs := su76) ok76 rfl hX (GoodN.good (K := True) (Eq.mpr (show GoodN Try.prog X 52 en76 su76 (loopAt 2 Try.f76) True = (RegOk Try.prog X 52 en76 13 (regAt 13 Try.f76) ∧ True) by kernel_rfl) ⟨(dr76r13 hX), trivial⟩)).1 (by decide) (by decide) f_laws_heldSessionS_l2Eq
theorem f_laws_heldSessionSEq (x : Ps ins76) : evF en76 su76 Try.f76 ins76 res76 x = f_laws_heldSessionS x := by kernel_rfl
theorem so76 : Sound Try.prog 76 sg76 :=
  sound_of (fn := Try.f76) (c := bodyOf Try.f76) (subs := su76) (E := en76) (by kernel_rfl) (by kernel_rfl) (by decide) ok76 (by kernel_rfl) (by kernel_rfl) (by decide)
    (fun X hX => (GoodN.good (K := True) (Eq.mpr (show GoodN Try.prog X 52 en76 su76 (bodyOf Try.f76) True = (SubOk Try.prog X 52 ⟨f_laws_heldSessionS_l2c, f_laws_heldSessionS_l2v, f_laws_heldSessionS_l2e, loopF f_laws_heldSessionS_l2⟩ (.loop (loopAt 2 Try.f76)) ∧ True) by kernel_rfl) ⟨(f_laws_heldSessionS_l2Ok hX), trivial⟩)).1)
    (fun x r h => (f_laws_heldSessionSEq x).trans h)
def fl30 : List (Nat × Sig) := [(75, sg75), (76, sg76)]
def en30 : Env := { n := 18, ty := assocN tyL, fns := assocN fl30, lo := 0 }
def su30 : Bool → Nat → Option Sub | _, _ => none
theorem ok30 : EnvOk Try.prog en30 := envOk_of rfl rfl tyL_ok (⟨so75, ⟨so76, trivial⟩⟩)
theorem f_laws_heldKvStateEq (x : Ps ins30) : evF en30 su30 Try.f30 ins30 res30 x = f_laws_heldKvState x := by kernel_rfl
theorem so30 : Sound Try.prog 30 sg30 :=
  sound_of (fn := Try.f30) (c := bodyOf Try.f30) (subs := su30) (E := en30) (by kernel_rfl) (by kernel_rfl) (by decide) ok30 (by kernel_rfl) (by kernel_rfl) (by decide)
    (fun X hX => (GoodN.good (K := True) (Eq.mpr (show GoodN Try.prog X 18 en30 su30 (bodyOf Try.f30) True = (True) by kernel_rfl) trivial)).1)
    (fun x r h => (f_laws_heldKvStateEq x).trans h)
def fl31 : List (Nat × Sig) := [(56, sg56)]
def en31 : Env := { n := 32, ty := assocN tyL, fns := assocN fl31, lo := 0 }
def su31 : Bool → Nat → Option Sub | true, 2 => some ⟨f_laws_heldReplyS_l2c, f_laws_heldReplyS_l2v, f_laws_heldReplyS_l2e, loopF f_laws_heldReplyS_l2⟩ | _, _ => none
theorem ok31 : EnvOk Try.prog en31 := envOk_of rfl rfl tyL_ok (⟨so56, trivial⟩)
theorem dr31r7 {X : Cx} (hX : en31.lo = X.lo) : RegOk Try.prog X 32 en31 7 (regAt 7 Try.f31) := regOk_of ok31 rfl hX (by kernel_rfl) (by kernel_rfl)
theorem f_laws_heldReplyS_l2Eq (R : Type) (c : Vars f_laws_heldReplyS_l2c) (v : Vars f_laws_heldReplyS_l2v) (kk : Vars f_laws_heldReplyS_l2c → (Vars f_laws_heldReplyS_l2v ⊕ Oc f_laws_heldReplyS_l2e) → Option R) : evC en31 su31 (loopAt 2 Try.f31) (Desc.mk2 f_laws_heldReplyS_l2v v (Desc.mk2 f_laws_heldReplyS_l2c c .empty)) (fun o => bodyK f_laws_heldReplyS_l2c f_laws_heldReplyS_l2v f_laws_heldReplyS_l2e o kk) = f_laws_heldReplyS_l2 R c v kk := by kernel_rfl
theorem f_laws_heldReplyS_l2Ok {X : Cx} (hX : en31.lo = X.lo) : SubOk Try.prog X 32 ⟨f_laws_heldReplyS_l2c, f_laws_heldReplyS_l2v, f_laws_heldReplyS_l2e, loopF f_laws_heldReplyS_l2⟩ (.loop (loopAt 2 Try.f31)) :=
  sub_loop (subs := su31) ok31 rfl hX (GoodN.good (K := True) (Eq.mpr (show GoodN Try.prog X 32 en31 su31 (loopAt 2 Try.f31) True = (RegOk Try.prog X 32 en31 7 (regAt 7 Try.f31) ∧ True) by kernel_rfl) ⟨(dr31r7 hX), trivial⟩)).1 (by decide) (by decide) f_laws_heldReplyS_l2Eq
theorem f_laws_heldReplySEq (x : Ps ins31) : evF en31 su31 Try.f31 ins31 res31 x = f_laws_heldReplyS x := by kernel_rfl
theorem so31 : Sound Try.prog 31 sg31 :=
  sound_of (fn := Try.f31) (c := bodyOf Try.f31) (subs := su31) (E := en31) (by kernel_rfl) (by kernel_rfl) (by decide) ok31 (by kernel_rfl) (by kernel_rfl) (by decide)
    (fun X hX => (GoodN.good (K := True) (Eq.mpr (show GoodN Try.prog X 32 en31 su31 (bodyOf Try.f31) True = (SubOk Try.prog X 32 ⟨f_laws_heldReplyS_l2c, f_laws_heldReplyS_l2v, f_laws_heldReplyS_l2e, loopF f_laws_heldReplyS_l2⟩ (.loop (loopAt 2 Try.f31)) ∧ True) by kernel_rfl) ⟨(f_laws_heldReplyS_l2Ok hX), trivial⟩)).1)
    (fun x r h => (f_laws_heldReplySEq x).trans h)
def fl5 : List (Nat × Sig) := [(8, sg8), (10, sg10), (13, sg13), (14, sg14), (22, sg22), (23, sg23), (26, sg26), (27, sg27), (28, sg28), (29, sg29), (30, sg30), (31, sg31)]
def hi5 : List (Nat × (K × Mk)) := [(5, ((.sl kdReply), (.o .s))), (7, ((.sl kdCommand), (.o .s))), (9, ((.sl kdReply), (.o .s))), (15, ((.sl kdReply), (.o .s)))]
def en5 : Env := { n := 133, ty := assocN tyL, fns := assocN fl5, lo := 0, hint := assocN hi5 }
def su5 : Bool → Nat → Option Sub | _, _ => none
theorem ok5 : EnvOk Try.prog en5 := envOk_of rfl rfl tyL_ok (⟨so8, ⟨so10, ⟨so13, ⟨so14, ⟨so22, ⟨so23, ⟨so26, ⟨so27, ⟨so28, ⟨so29, ⟨so30, ⟨so31, trivial⟩⟩⟩⟩⟩⟩⟩⟩⟩⟩⟩⟩)
theorem f_laws_FnExactFoldCommandsEq (x : Ps ins5) : evF en5 su5 Try.f5 ins5 res5 x = f_laws_FnExactFoldCommands x := by kernel_rfl
theorem so5 : Sound Try.prog 5 sg5 :=
  sound_of (fn := Try.f5) (c := bodyOf Try.f5) (subs := su5) (E := en5) (by kernel_rfl) (by kernel_rfl) (by decide) ok5 (by kernel_rfl) (by kernel_rfl) (by decide)
    (fun X hX => (GoodN.good (K := True) (Eq.mpr (show GoodN Try.prog X 133 en5 su5 (bodyOf Try.f5) True = (True) by kernel_rfl) trivial)).1)
    (fun x r h => (f_laws_FnExactFoldCommandsEq x).trans h)
end Go.Proofs.Ytogmfilmfkepfaa
