/- The typed functions are what the program's code says. (Printed by a program of mine, wip/tools/gen.py.) -/
import Derived.Test.YthlnjkcpdkjipaaDoorProg
import Derived.Test.YthlnjkcpdkjipaaDoorRATrim
import Derived.Test.YthlnjkcpdkjipaaDoorRAUsed
import Derived.Test.YthlnjkcpdkjipaaDoorR15Fns
set_option linter.all false
set_option maxRecDepth 100000
noncomputable section
namespace Go.Proofs.YthlnjkcpdkjipaaDoor
open Go Go.Proofs.YthlnjkcpdkjipaaDoor.Ev
theorem ty9 : TyOk Tryd.prog 9 .str := ⟨⟨by kernel_rfl, by kernel_rfl⟩, by kernel_rfl⟩
theorem ty3 : TyOk Tryd.prog 3 (.int .i64) := ⟨⟨by kernel_rfl, by kernel_rfl⟩, by kernel_rfl⟩
theorem ty57 : TyOk Tryd.prog 57 kdBlob := ty_struct (f := (⟨ "Data", 9, 0, false, "", "", 0⟩ : Field)) (l := [(⟨ "Synced", 3, 1, false, "", "", 16⟩ : Field)]) ⟨by kernel_rfl, by kernel_rfl⟩ (by kernel_rfl) (by kernel_rfl) ⟨rfl, by decide, ty9, ⟨rfl, by decide, ty3, rfl⟩⟩
theorem ty24 : TyOk Tryd.prog 24 (.sl kdBlob) := ty_sl ⟨by kernel_rfl, by kernel_rfl⟩ (by kernel_rfl) ty57
theorem ty53 : TyOk Tryd.prog 53 kdBlob := ty_struct (f := (⟨ "Name", 9, 0, false, "", "", 0⟩ : Field)) (l := [(⟨ "Blob", 3, 1, false, "", "", 16⟩ : Field)]) ⟨by kernel_rfl, by kernel_rfl⟩ (by kernel_rfl) (by kernel_rfl) ⟨rfl, by decide, ty9, ⟨rfl, by decide, ty3, rfl⟩⟩
theorem ty25 : TyOk Tryd.prog 25 (.sl kdBlob) := ty_sl ⟨by kernel_rfl, by kernel_rfl⟩ (by kernel_rfl) ty53
theorem ty27 : TyOk Tryd.prog 27 kdDisk := ty_struct (f := (⟨ "Blobs", 24, 0, false, "", "", 0⟩ : Field)) (l := [(⟨ "Live", 25, 1, false, "", "", 24⟩ : Field), (⟨ "Safe", 25, 2, false, "", "", 48⟩ : Field), (⟨ "Room", 3, 3, false, "", "", 72⟩ : Field)]) ⟨by kernel_rfl, by kernel_rfl⟩ (by kernel_rfl) (by kernel_rfl) ⟨rfl, by decide, ty24, ⟨rfl, by decide, ty25, ⟨rfl, by decide, ty25, ⟨rfl, by decide, ty3, rfl⟩⟩⟩⟩
theorem ty42 : TyOk Tryd.prog 42 kdDiskStep := ty_struct (f := (⟨ "Kind", 3, 0, false, "", "", 0⟩ : Field)) (l := [(⟨ "Name", 9, 1, false, "", "", 8⟩ : Field), (⟨ "Other", 9, 2, false, "", "", 24⟩ : Field), (⟨ "Data", 9, 3, false, "", "", 40⟩ : Field), (⟨ "Keep", 3, 4, false, "", "", 56⟩ : Field)]) ⟨by kernel_rfl, by kernel_rfl⟩ (by kernel_rfl) (by kernel_rfl) ⟨rfl, by decide, ty3, ⟨rfl, by decide, ty9, ⟨rfl, by decide, ty9, ⟨rfl, by decide, ty9, ⟨rfl, by decide, ty3, rfl⟩⟩⟩⟩⟩
theorem ty124 : TyOk Tryd.prog 124 kdBlob := ty_struct (f := (⟨ "Data", 9, 0, false, "", "", 0⟩ : Field)) (l := [(⟨ "Synced", 3, 1, false, "", "", 16⟩ : Field)]) ⟨by kernel_rfl, by kernel_rfl⟩ (by kernel_rfl) (by kernel_rfl) ⟨rfl, by decide, ty9, ⟨rfl, by decide, ty3, rfl⟩⟩
theorem ty60 : TyOk Tryd.prog 60 (.sl kdBlob) := ty_sl ⟨by kernel_rfl, by kernel_rfl⟩ (by kernel_rfl) ty124
theorem ty126 : TyOk Tryd.prog 126 kdBlob := ty_struct (f := (⟨ "Name", 9, 0, false, "", "", 0⟩ : Field)) (l := [(⟨ "Blob", 3, 1, false, "", "", 16⟩ : Field)]) ⟨by kernel_rfl, by kernel_rfl⟩ (by kernel_rfl) (by kernel_rfl) ⟨rfl, by decide, ty9, ⟨rfl, by decide, ty3, rfl⟩⟩
theorem ty61 : TyOk Tryd.prog 61 (.sl kdBlob) := ty_sl ⟨by kernel_rfl, by kernel_rfl⟩ (by kernel_rfl) ty126
theorem ty63 : TyOk Tryd.prog 63 kdDisk := ty_struct (f := (⟨ "Blobs", 60, 0, false, "", "", 0⟩ : Field)) (l := [(⟨ "Live", 61, 1, false, "", "", 24⟩ : Field), (⟨ "Safe", 61, 2, false, "", "", 48⟩ : Field), (⟨ "Room", 3, 3, false, "", "", 72⟩ : Field)]) ⟨by kernel_rfl, by kernel_rfl⟩ (by kernel_rfl) (by kernel_rfl) ⟨rfl, by decide, ty60, ⟨rfl, by decide, ty61, ⟨rfl, by decide, ty61, ⟨rfl, by decide, ty3, rfl⟩⟩⟩⟩
theorem ty64 : TyOk Tryd.prog 64 kdDiskStep := ty_struct (f := (⟨ "Kind", 3, 0, false, "", "", 0⟩ : Field)) (l := [(⟨ "Name", 9, 1, false, "", "", 8⟩ : Field), (⟨ "Other", 9, 2, false, "", "", 24⟩ : Field), (⟨ "Data", 9, 3, false, "", "", 40⟩ : Field), (⟨ "Keep", 3, 4, false, "", "", 56⟩ : Field)]) ⟨by kernel_rfl, by kernel_rfl⟩ (by kernel_rfl) (by kernel_rfl) ⟨rfl, by decide, ty3, ⟨rfl, by decide, ty9, ⟨rfl, by decide, ty9, ⟨rfl, by decide, ty9, ⟨rfl, by decide, ty3, rfl⟩⟩⟩⟩⟩
theorem ty5 : TyOk Tryd.prog 5 (.int .u8) := ⟨⟨by kernel_rfl, by kernel_rfl⟩, by kernel_rfl⟩
theorem ty40 : TyOk Tryd.prog 40 (.sl (.int .u8)) := ty_sl ⟨by kernel_rfl, by kernel_rfl⟩ (by kernel_rfl) ty5
theorem ty4 : TyOk Tryd.prog 4 .bool := ⟨⟨by kernel_rfl, by kernel_rfl⟩, by kernel_rfl⟩
def tyL : List (Nat × K) := [(9, .str), (3, (.int .i64)), (57, kdBlob), (24, (.sl kdBlob)), (53, kdBlob), (25, (.sl kdBlob)), (27, kdDisk), (42, kdDiskStep), (124, kdBlob), (60, (.sl kdBlob)), (126, kdBlob), (61, (.sl kdBlob)), (63, kdDisk), (64, kdDiskStep), (5, (.int .u8)), (40, (.sl (.int .u8))), (4, .bool)]
theorem tyL_ok : AllTy Tryd.prog tyL := ⟨ty9, ⟨ty3, ⟨ty57, ⟨ty24, ⟨ty53, ⟨ty25, ⟨ty27, ⟨ty42, ⟨ty124, ⟨ty60, ⟨ty126, ⟨ty61, ⟨ty63, ⟨ty64, ⟨ty5, ⟨ty40, ⟨ty4, trivial⟩⟩⟩⟩⟩⟩⟩⟩⟩⟩⟩⟩⟩⟩⟩⟩⟩
def rn93 : Go.Shelf.Ren where
  f := fun x => match x with | 22 => 93 | 29 => 103 | 30 => 104 | n => n
  t := fun x => match x with | 9 => 53 | 24 => 25 | n => n
  g := fun x => x
theorem soInsert93 : Sound Tryd.prog 93 (sgf_slices_Insert kdBlob) := sound_Insert (ρ := rn93)
  { mixed := by kernel_rfl, f22 := ⟨Tryd.f93.name, by decide, by kernel_rfl⟩, f29 := ⟨Tryd.f103, by kernel_rfl, by kernel_rfl, by kernel_rfl, by kernel_rfl, by kernel_rfl⟩, t0 := Tryd.underlying0, a0 := Tryd.isAgg0, z0 := Tryd.sizeOf0, v0 := Tryd.zeroValue0
    t3 := ty3, t4 := ty4, t9 := ty53, t24 := Tryd.underlying25, t24k := ty25, fl := by decide, ne := by decide, nb := by decide }
def rn94 : Go.Shelf.Ren where
  f := fun x => match x with | 24 => 94 | n => n
  t := fun x => match x with | 9 => 53 | 24 => 25 | n => n
  g := fun x => x
theorem soDelete94 : Sound Tryd.prog 94 (sgf_slices_Delete kdBlob) := sound_Delete (ρ := rn94)
  { mixed := by kernel_rfl, f24 := ⟨Tryd.f94.name, by decide, by kernel_rfl⟩, t0 := Tryd.underlying0, a0 := Tryd.isAgg0, z0 := Tryd.sizeOf0, v0 := Tryd.zeroValue0
    t3 := ty3, t4 := ty4, t9 := ty53, t24 := Tryd.underlying25, t24k := ty25, fl := by decide, ne := by decide, nb := by decide }
def fl86 : List (Nat × Sig) := []
def en86 : Env := { n := 13, ty := assocN tyL, fns := assocN fl86, lo := 0 }
def su86 : Bool → Nat → Option Sub | _, _ => none
theorem ok86 : EnvOk Tryd.prog en86 := envOk_of rfl rfl tyL_ok (trivial)
theorem f_laws_szBlobEq (x : Ps ins86) : evF en86 su86 Tryd.f86 ins86 res86 x = f_laws_szBlob x := by kernel_rfl
theorem so86 : Sound Tryd.prog 86 sg86 :=
  sound_of (fn := Tryd.f86) (c := bodyOf Tryd.f86) (subs := su86) (E := en86) (by kernel_rfl) (by kernel_rfl) (by decide) ok86 (by kernel_rfl) (by kernel_rfl) (by decide)
    (fun X hX => (GoodN.good (K := True) (Eq.mpr (show GoodN Tryd.prog X 13 en86 su86 (bodyOf Tryd.f86) True = (True) by kernel_rfl) trivial)).1)
    (fun x r h => (f_laws_szBlobEq x).trans h)
def fl59 : List (Nat × Sig) := [(86, sg86)]
def en59 : Env := { n := 27, ty := assocN tyL, fns := assocN fl59, lo := 0 }
def su59 : Bool → Nat → Option Sub | true, 5 => some ⟨f_laws_szBlobS_l5c, f_laws_szBlobS_l5v, f_laws_szBlobS_l5e, loopF f_laws_szBlobS_l5⟩ | _, _ => none
theorem ok59 : EnvOk Tryd.prog en59 := envOk_of rfl rfl tyL_ok (⟨so86, trivial⟩)
theorem f_laws_szBlobS_l5Eq (R : Type) (c : Vars f_laws_szBlobS_l5c) (v : Vars f_laws_szBlobS_l5v) (kk : Vars f_laws_szBlobS_l5c → (Vars f_laws_szBlobS_l5v ⊕ Oc f_laws_szBlobS_l5e) → Option R) : evC en59 su59 (loopAt 5 Tryd.f59) (Desc.mk2 f_laws_szBlobS_l5v v (Desc.mk2 f_laws_szBlobS_l5c c .empty)) (fun o => bodyK f_laws_szBlobS_l5c f_laws_szBlobS_l5v f_laws_szBlobS_l5e o kk) = f_laws_szBlobS_l5 R c v kk := by kernel_rfl
theorem f_laws_szBlobS_l5Ok {X : Cx} (hX : en59.lo = X.lo) : SubOk Tryd.prog X 27 ⟨f_laws_szBlobS_l5c, f_laws_szBlobS_l5v, f_laws_szBlobS_l5e, loopF f_laws_szBlobS_l5⟩ (.loop (loopAt 5 Tryd.f59)) :=
  sub_loop (subs := su59) ok59 rfl hX (GoodN.good (K := True) (Eq.mpr (show GoodN Tryd.prog X 27 en59 su59 (loopAt 5 Tryd.f59) True = (True) by kernel_rfl) trivial)).1 (by decide) (by decide) f_laws_szBlobS_l5Eq
theorem f_laws_szBlobSEq (x : Ps ins59) : evF en59 su59 Tryd.f59 ins59 res59 x = f_laws_szBlobS x := by kernel_rfl
theorem so59 : Sound Tryd.prog 59 sg59 :=
  sound_of (fn := Tryd.f59) (c := bodyOf Tryd.f59) (subs := su59) (E := en59) (by kernel_rfl) (by kernel_rfl) (by decide) ok59 (by kernel_rfl) (by kernel_rfl) (by decide)
    (fun X hX => (GoodN.good (K := True) (Eq.mpr (show GoodN Tryd.prog X 27 en59 su59 (bodyOf Tryd.f59) True = (SubOk Tryd.prog X 27 ⟨f_laws_szBlobS_l5c, f_laws_szBlobS_l5v, f_laws_szBlobS_l5e, loopF f_laws_szBlobS_l5⟩ (.loop (loopAt 5 Tryd.f59)) ∧ True) by kernel_rfl) ⟨(f_laws_szBlobS_l5Ok hX), trivial⟩)).1)
    (fun x r h => (f_laws_szBlobSEq x).trans h)
def fl87 : List (Nat × Sig) := []
def en87 : Env := { n := 13, ty := assocN tyL, fns := assocN fl87, lo := 0 }
def su87 : Bool → Nat → Option Sub | _, _ => none
theorem ok87 : EnvOk Tryd.prog en87 := envOk_of rfl rfl tyL_ok (trivial)
theorem f_laws_szNameEq (x : Ps ins87) : evF en87 su87 Tryd.f87 ins87 res87 x = f_laws_szName x := by kernel_rfl
theorem so87 : Sound Tryd.prog 87 sg87 :=
  sound_of (fn := Tryd.f87) (c := bodyOf Tryd.f87) (subs := su87) (E := en87) (by kernel_rfl) (by kernel_rfl) (by decide) ok87 (by kernel_rfl) (by kernel_rfl) (by decide)
    (fun X hX => (GoodN.good (K := True) (Eq.mpr (show GoodN Tryd.prog X 13 en87 su87 (bodyOf Tryd.f87) True = (True) by kernel_rfl) trivial)).1)
    (fun x r h => (f_laws_szNameEq x).trans h)
def fl60 : List (Nat × Sig) := [(87, sg87)]
def en60 : Env := { n := 27, ty := assocN tyL, fns := assocN fl60, lo := 0 }
def su60 : Bool → Nat → Option Sub | true, 5 => some ⟨f_laws_szNameS_l5c, f_laws_szNameS_l5v, f_laws_szNameS_l5e, loopF f_laws_szNameS_l5⟩ | _, _ => none
theorem ok60 : EnvOk Tryd.prog en60 := envOk_of rfl rfl tyL_ok (⟨so87, trivial⟩)
theorem f_laws_szNameS_l5Eq (R : Type) (c : Vars f_laws_szNameS_l5c) (v : Vars f_laws_szNameS_l5v) (kk : Vars f_laws_szNameS_l5c → (Vars f_laws_szNameS_l5v ⊕ Oc f_laws_szNameS_l5e) → Option R) : evC en60 su60 (loopAt 5 Tryd.f60) (Desc.mk2 f_laws_szNameS_l5v v (Desc.mk2 f_laws_szNameS_l5c c .empty)) (fun o => bodyK f_laws_szNameS_l5c f_laws_szNameS_l5v f_laws_szNameS_l5e o kk) = f_laws_szNameS_l5 R c v kk := by kernel_rfl
theorem f_laws_szNameS_l5Ok {X : Cx} (hX : en60.lo = X.lo) : SubOk Tryd.prog X 27 ⟨f_laws_szNameS_l5c, f_laws_szNameS_l5v, f_laws_szNameS_l5e, loopF f_laws_szNameS_l5⟩ (.loop (loopAt 5 Tryd.f60)) :=
  sub_loop (subs := su60) ok60 rfl hX (GoodN.good (K := True) (Eq.mpr (show GoodN Tryd.prog X 27 en60 su60 (loopAt 5 Tryd.f60) True = (True) by kernel_rfl) trivial)).1 (by decide) (by decide) f_laws_szNameS_l5Eq
theorem f_laws_szNameSEq (x : Ps ins60) : evF en60 su60 Tryd.f60 ins60 res60 x = f_laws_szNameS x := by kernel_rfl
theorem so60 : Sound Tryd.prog 60 sg60 :=
  sound_of (fn := Tryd.f60) (c := bodyOf Tryd.f60) (subs := su60) (E := en60) (by kernel_rfl) (by kernel_rfl) (by decide) ok60 (by kernel_rfl) (by kernel_rfl) (by decide)
    (fun X hX => (GoodN.good (K := True) (Eq.mpr (show GoodN Tryd.prog X 27 en60 su60 (bodyOf Tryd.f60) True = (SubOk Tryd.prog X 27 ⟨f_laws_szNameS_l5c, f_laws_szNameS_l5v, f_laws_szNameS_l5e, loopF f_laws_szNameS_l5⟩ (.loop (loopAt 5 Tryd.f60)) ∧ True) by kernel_rfl) ⟨(f_laws_szNameS_l5Ok hX), trivial⟩)).1)
    (fun x r h => (f_laws_szNameSEq x).trans h)
def fl29 : List (Nat × Sig) := [(59, sg59), (60, sg60)]
def en29 : Env := { n := 24, ty := assocN tyL, fns := assocN fl29, lo := 0 }
def su29 : Bool → Nat → Option Sub | _, _ => none
theorem ok29 : EnvOk Tryd.prog en29 := envOk_of rfl rfl tyL_ok (⟨so59, ⟨so60, trivial⟩⟩)
theorem f_laws_szDiskEq (x : Ps ins29) : evF en29 su29 Tryd.f29 ins29 res29 x = f_laws_szDisk x := by kernel_rfl
theorem so29 : Sound Tryd.prog 29 sg29 :=
  sound_of (fn := Tryd.f29) (c := bodyOf Tryd.f29) (subs := su29) (E := en29) (by kernel_rfl) (by kernel_rfl) (by decide) ok29 (by kernel_rfl) (by kernel_rfl) (by decide)
    (fun X hX => (GoodN.good (K := True) (Eq.mpr (show GoodN Tryd.prog X 24 en29 su29 (bodyOf Tryd.f29) True = (True) by kernel_rfl) trivial)).1)
    (fun x r h => (f_laws_szDiskEq x).trans h)
def fl30 : List (Nat × Sig) := []
def en30 : Env := { n := 27, ty := assocN tyL, fns := assocN fl30, lo := 0 }
def su30 : Bool → Nat → Option Sub | _, _ => none
theorem ok30 : EnvOk Tryd.prog en30 := envOk_of rfl rfl tyL_ok (trivial)
theorem f_laws_szDiskStepEq (x : Ps ins30) : evF en30 su30 Tryd.f30 ins30 res30 x = f_laws_szDiskStep x := by kernel_rfl
theorem so30 : Sound Tryd.prog 30 sg30 :=
  sound_of (fn := Tryd.f30) (c := bodyOf Tryd.f30) (subs := su30) (E := en30) (by kernel_rfl) (by kernel_rfl) (by decide) ok30 (by kernel_rfl) (by kernel_rfl) (by decide)
    (fun X hX => (GoodN.good (K := True) (Eq.mpr (show GoodN Tryd.prog X 27 en30 su30 (bodyOf Tryd.f30) True = (True) by kernel_rfl) trivial)).1)
    (fun x r h => (f_laws_szDiskStepEq x).trans h)
def fl88 : List (Nat × Sig) := []
def en88 : Env := { n := 11, ty := assocN tyL, fns := assocN fl88, lo := 0 }
def su88 : Bool → Nat → Option Sub | _, _ => none
theorem ok88 : EnvOk Tryd.prog en88 := envOk_of rfl rfl tyL_ok (trivial)
theorem f_laws_toBlobEq (x : Ps ins88) : evF en88 su88 Tryd.f88 ins88 res88 x = f_laws_toBlob x := by kernel_rfl
theorem so88 : Sound Tryd.prog 88 sg88 :=
  sound_of (fn := Tryd.f88) (c := bodyOf Tryd.f88) (subs := su88) (E := en88) (by kernel_rfl) (by kernel_rfl) (by decide) ok88 (by kernel_rfl) (by kernel_rfl) (by decide)
    (fun X hX => (GoodN.good (K := True) (Eq.mpr (show GoodN Tryd.prog X 11 en88 su88 (bodyOf Tryd.f88) True = (True) by kernel_rfl) trivial)).1)
    (fun x r h => (f_laws_toBlobEq x).trans h)
def fl61 : List (Nat × Sig) := [(88, sg88)]
def hi61 : List (Nat × (K × Mk)) := [(2, ((.sl kdBlob), (.o .s))), (3, ((.sl kdBlob), (.o .s)))]
def en61 : Env := { n := 23, ty := assocN tyL, fns := assocN fl61, lo := 0, hint := assocN hi61 }
def su61 : Bool → Nat → Option Sub | true, 3 => some ⟨f_laws_toBlobS_l3c, f_laws_toBlobS_l3v, f_laws_toBlobS_l3e, loopF f_laws_toBlobS_l3⟩ | _, _ => none
theorem ok61 : EnvOk Tryd.prog en61 := envOk_of rfl rfl tyL_ok (⟨so88, trivial⟩)
theorem f_laws_toBlobS_l3Eq (R : Type) (c : Vars f_laws_toBlobS_l3c) (v : Vars f_laws_toBlobS_l3v) (kk : Vars f_laws_toBlobS_l3c → (Vars f_laws_toBlobS_l3v ⊕ Oc f_laws_toBlobS_l3e) → Option R) : evC en61 su61 (loopAt 3 Tryd.f61) (Desc.mk2 f_laws_toBlobS_l3v v (Desc.mk2 f_laws_toBlobS_l3c c .empty)) (fun o => bodyK f_laws_toBlobS_l3c f_laws_toBlobS_l3v f_laws_toBlobS_l3e o kk) = f_laws_toBlobS_l3 R c v kk := by kernel_rfl
theorem f_laws_toBlobS_l3Ok {X : Cx} (hX : en61.lo = X.lo) : SubOk Tryd.prog X 23 ⟨f_laws_toBlobS_l3c, f_laws_toBlobS_l3v, f_laws_toBlobS_l3e, loopF f_laws_toBlobS_l3⟩ (.loop (loopAt 3 Tryd.f61)) :=
  sub_loop (subs := su61) ok61 rfl hX (GoodN.good (K := True) (Eq.mpr (show GoodN Tryd.prog X 23 en61 su61 (loopAt 3 Tryd.f61) True = (True) by kernel_rfl) trivial)).1 (by decide) (by decide) f_laws_toBlobS_l3Eq
theorem f_laws_toBlobSEq (x : Ps ins61) : evF en61 su61 Tryd.f61 ins61 res61 x = f_laws_toBlobS x := by kernel_rfl
theorem so61 : Sound Tryd.prog 61 sg61 :=
  sound_of (fn := Tryd.f61) (c := bodyOf Tryd.f61) (subs := su61) (E := en61) (by kernel_rfl) (by kernel_rfl) (by decide) ok61 (by kernel_rfl) (by kernel_rfl) (by decide)
    (fun X hX => (GoodN.good (K := True) (Eq.mpr (show GoodN Tryd.prog X 23 en61 su61 (bodyOf Tryd.f61) True = (SubOk Tryd.prog X 23 ⟨f_laws_toBlobS_l3c, f_laws_toBlobS_l3v, f_laws_toBlobS_l3e, loopF f_laws_toBlobS_l3⟩ (.loop (loopAt 3 Tryd.f61)) ∧ True) by kernel_rfl) ⟨(f_laws_toBlobS_l3Ok hX), trivial⟩)).1)
    (fun x r h => (f_laws_toBlobSEq x).trans h)
def fl89 : List (Nat × Sig) := []
def en89 : Env := { n := 11, ty := assocN tyL, fns := assocN fl89, lo := 0 }
def su89 : Bool → Nat → Option Sub | _, _ => none
theorem ok89 : EnvOk Tryd.prog en89 := envOk_of rfl rfl tyL_ok (trivial)
theorem f_laws_toNameEq (x : Ps ins89) : evF en89 su89 Tryd.f89 ins89 res89 x = f_laws_toName x := by kernel_rfl
theorem so89 : Sound Tryd.prog 89 sg89 :=
  sound_of (fn := Tryd.f89) (c := bodyOf Tryd.f89) (subs := su89) (E := en89) (by kernel_rfl) (by kernel_rfl) (by decide) ok89 (by kernel_rfl) (by kernel_rfl) (by decide)
    (fun X hX => (GoodN.good (K := True) (Eq.mpr (show GoodN Tryd.prog X 11 en89 su89 (bodyOf Tryd.f89) True = (True) by kernel_rfl) trivial)).1)
    (fun x r h => (f_laws_toNameEq x).trans h)
def fl62 : List (Nat × Sig) := [(89, sg89)]
def hi62 : List (Nat × (K × Mk)) := [(2, ((.sl kdBlob), (.o .s))), (3, ((.sl kdBlob), (.o .s)))]
def en62 : Env := { n := 23, ty := assocN tyL, fns := assocN fl62, lo := 0, hint := assocN hi62 }
def su62 : Bool → Nat → Option Sub | true, 3 => some ⟨f_laws_toNameS_l3c, f_laws_toNameS_l3v, f_laws_toNameS_l3e, loopF f_laws_toNameS_l3⟩ | _, _ => none
theorem ok62 : EnvOk Tryd.prog en62 := envOk_of rfl rfl tyL_ok (⟨so89, trivial⟩)
theorem f_laws_toNameS_l3Eq (R : Type) (c : Vars f_laws_toNameS_l3c) (v : Vars f_laws_toNameS_l3v) (kk : Vars f_laws_toNameS_l3c → (Vars f_laws_toNameS_l3v ⊕ Oc f_laws_toNameS_l3e) → Option R) : evC en62 su62 (loopAt 3 Tryd.f62) (Desc.mk2 f_laws_toNameS_l3v v (Desc.mk2 f_laws_toNameS_l3c c .empty)) (fun o => bodyK f_laws_toNameS_l3c f_laws_toNameS_l3v f_laws_toNameS_l3e o kk) = f_laws_toNameS_l3 R c v kk := by kernel_rfl
theorem f_laws_toNameS_l3Ok {X : Cx} (hX : en62.lo = X.lo) : SubOk Tryd.prog X 23 ⟨f_laws_toNameS_l3c, f_laws_toNameS_l3v, f_laws_toNameS_l3e, loopF f_laws_toNameS_l3⟩ (.loop (loopAt 3 Tryd.f62)) :=
  sub_loop (subs := su62) ok62 rfl hX (GoodN.good (K := True) (Eq.mpr (show GoodN Tryd.prog X 23 en62 su62 (loopAt 3 Tryd.f62) True = (True) by kernel_rfl) trivial)).1 (by decide) (by decide) f_laws_toNameS_l3Eq
theorem f_laws_toNameSEq (x : Ps ins62) : evF en62 su62 Tryd.f62 ins62 res62 x = f_laws_toNameS x := by kernel_rfl
theorem so62 : Sound Tryd.prog 62 sg62 :=
  sound_of (fn := Tryd.f62) (c := bodyOf Tryd.f62) (subs := su62) (E := en62) (by kernel_rfl) (by kernel_rfl) (by decide) ok62 (by kernel_rfl) (by kernel_rfl) (by decide)
    (fun X hX => (GoodN.good (K := True) (Eq.mpr (show GoodN Tryd.prog X 23 en62 su62 (bodyOf Tryd.f62) True = (SubOk Tryd.prog X 23 ⟨f_laws_toNameS_l3c, f_laws_toNameS_l3v, f_laws_toNameS_l3e, loopF f_laws_toNameS_l3⟩ (.loop (loopAt 3 Tryd.f62)) ∧ True) by kernel_rfl) ⟨(f_laws_toNameS_l3Ok hX), trivial⟩)).1)
    (fun x r h => (f_laws_toNameSEq x).trans h)
def fl31 : List (Nat × Sig) := [(61, sg61), (62, sg62)]
def en31 : Env := { n := 20, ty := assocN tyL, fns := assocN fl31, lo := 0 }
def su31 : Bool → Nat → Option Sub | _, _ => none
theorem ok31 : EnvOk Tryd.prog en31 := envOk_of rfl rfl tyL_ok (⟨so61, ⟨so62, trivial⟩⟩)
theorem f_laws_toDiskEq (x : Ps ins31) : evF en31 su31 Tryd.f31 ins31 res31 x = f_laws_toDisk x := by kernel_rfl
theorem so31 : Sound Tryd.prog 31 sg31 :=
  sound_of (fn := Tryd.f31) (c := bodyOf Tryd.f31) (subs := su31) (E := en31) (by kernel_rfl) (by kernel_rfl) (by decide) ok31 (by kernel_rfl) (by kernel_rfl) (by decide)
    (fun X hX => (GoodN.good (K := True) (Eq.mpr (show GoodN Tryd.prog X 20 en31 su31 (bodyOf Tryd.f31) True = (True) by kernel_rfl) trivial)).1)
    (fun x r h => (f_laws_toDiskEq x).trans h)
def fl32 : List (Nat × Sig) := []
def en32 : Env := { n := 20, ty := assocN tyL, fns := assocN fl32, lo := 0 }
def su32 : Bool → Nat → Option Sub | _, _ => none
theorem ok32 : EnvOk Tryd.prog en32 := envOk_of rfl rfl tyL_ok (trivial)
theorem f_laws_toDiskStepEq (x : Ps ins32) : evF en32 su32 Tryd.f32 ins32 res32 x = f_laws_toDiskStep x := by kernel_rfl
theorem so32 : Sound Tryd.prog 32 sg32 :=
  sound_of (fn := Tryd.f32) (c := bodyOf Tryd.f32) (subs := su32) (E := en32) (by kernel_rfl) (by kernel_rfl) (by decide) ok32 (by kernel_rfl) (by kernel_rfl) (by decide)
    (fun X hX => (GoodN.good (K := True) (Eq.mpr (show GoodN Tryd.prog X 20 en32 su32 (bodyOf Tryd.f32) True = (True) by kernel_rfl) trivial)).1)
    (fun x r h => (f_laws_toDiskStepEq x).trans h)
def fl50 : List (Nat × Sig) := []
def en50 : Env := { n := 15, ty := assocN tyL, fns := assocN fl50, lo := 0 }
def su50 : Bool → Nat → Option Sub | _, _ => none
theorem ok50 : EnvOk Tryd.prog en50 := envOk_of rfl rfl tyL_ok (trivial)
theorem f_spec_l1InEq (x : Ps ins50) : evF en50 su50 Tryd.f50 ins50 res50 x = f_spec_l1In x := by kernel_rfl
theorem so50 : Sound Tryd.prog 50 sg50 :=
  sound_of (fn := Tryd.f50) (c := bodyOf Tryd.f50) (subs := su50) (E := en50) (by kernel_rfl) (by kernel_rfl) (by decide) ok50 (by kernel_rfl) (by kernel_rfl) (by decide)
    (fun X hX => (GoodN.good (K := True) (Eq.mpr (show GoodN Tryd.prog X 15 en50 su50 (bodyOf Tryd.f50) True = (True) by kernel_rfl) trivial)).1)
    (fun x r h => (f_spec_l1InEq x).trans h)
def fl52 : List (Nat × Sig) := []
def en52 : Env := { n := 57, ty := assocN tyL, fns := assocN fl52, lo := 0 }
def su52 : Bool → Nat → Option Sub | true, 7 => some ⟨f_spec_l1Used_l7c, f_spec_l1Used_l7v, f_spec_l1Used_l7e, loopF f_spec_l1Used_l7⟩ | true, 12 => some ⟨f_spec_l1Used_l12c, f_spec_l1Used_l12v, f_spec_l1Used_l12e, loopF f_spec_l1Used_l12⟩ | false, 17 => some ⟨f_spec_l1Used_i17c, f_spec_l1Used_i17v, f_spec_l1Used_i17e, f_spec_l1Used_i17⟩ | true, 3 => some ⟨f_spec_l1Used_l3c, f_spec_l1Used_l3v, f_spec_l1Used_l3e, loopF f_spec_l1Used_l3⟩ | _, _ => none
theorem ok52 : EnvOk Tryd.prog en52 := envOk_of rfl rfl tyL_ok (trivial)
theorem f_spec_l1Used_l7Eq (R : Type) (c : Vars f_spec_l1Used_l7c) (v : Vars f_spec_l1Used_l7v) (kk : Vars f_spec_l1Used_l7c → (Vars f_spec_l1Used_l7v ⊕ Oc f_spec_l1Used_l7e) → Option R) : evC en52 su52 (loopAt 7 Tryd.f52) (Desc.mk2 f_spec_l1Used_l7v v (Desc.mk2 f_spec_l1Used_l7c c .empty)) (fun o => bodyK f_spec_l1Used_l7c f_spec_l1Used_l7v f_spec_l1Used_l7e o kk) = f_spec_l1Used_l7 R c v kk := by kernel_rfl
theorem f_spec_l1Used_l7Ok {X : Cx} (hX : en52.lo = X.lo) : SubOk Tryd.prog X 57 ⟨f_spec_l1Used_l7c, f_spec_l1Used_l7v, f_spec_l1Used_l7e, loopF f_spec_l1Used_l7⟩ (.loop (loopAt 7 Tryd.f52)) :=
  sub_loop (subs := su52) ok52 rfl hX (GoodN.good (K := True) (Eq.mpr (show GoodN Tryd.prog X 57 en52 su52 (loopAt 7 Tryd.f52) True = (True) by kernel_rfl) trivial)).1 (by decide) (by decide) f_spec_l1Used_l7Eq
theorem f_spec_l1Used_l12Eq (R : Type) (c : Vars f_spec_l1Used_l12c) (v : Vars f_spec_l1Used_l12v) (kk : Vars f_spec_l1Used_l12c → (Vars f_spec_l1Used_l12v ⊕ Oc f_spec_l1Used_l12e) → Option R) : evC en52 su52 (loopAt 12 Tryd.f52) (Desc.mk2 f_spec_l1Used_l12v v (Desc.mk2 f_spec_l1Used_l12c c .empty)) (fun o => bodyK f_spec_l1Used_l12c f_spec_l1Used_l12v f_spec_l1Used_l12e o kk) = f_spec_l1Used_l12 R c v kk := by kernel_rfl
theorem f_spec_l1Used_l12Ok {X : Cx} (hX : en52.lo = X.lo) : SubOk Tryd.prog X 57 ⟨f_spec_l1Used_l12c, f_spec_l1Used_l12v, f_spec_l1Used_l12e, loopF f_spec_l1Used_l12⟩ (.loop (loopAt 12 Tryd.f52)) :=
  sub_loop (subs := su52) ok52 rfl hX (GoodN.good (K := True) (Eq.mpr (show GoodN Tryd.prog X 57 en52 su52 (loopAt 12 Tryd.f52) True = (True) by kernel_rfl) trivial)).1 (by decide) (by decide) f_spec_l1Used_l12Eq
def su52i17 : Bool → Nat → Option Sub | true, 7 => some ⟨f_spec_l1Used_l7c, f_spec_l1Used_l7v, f_spec_l1Used_l7e, loopF f_spec_l1Used_l7⟩ | true, 12 => some ⟨f_spec_l1Used_l12c, f_spec_l1Used_l12v, f_spec_l1Used_l12e, loopF f_spec_l1Used_l12⟩ | true, 3 => some ⟨f_spec_l1Used_l3c, f_spec_l1Used_l3v, f_spec_l1Used_l3e, loopF f_spec_l1Used_l3⟩ | _, _ => none
theorem f_spec_l1Used_i17Eq (R : Type) (c : Vars f_spec_l1Used_i17c) (v : Vars f_spec_l1Used_i17v) (kk : Vars f_spec_l1Used_i17c → Oc f_spec_l1Used_i17e → Option R) : evC en52 su52i17 (ifAt 17 Tryd.f52) (Desc.mk2 f_spec_l1Used_i17v v (Desc.mk2 f_spec_l1Used_i17c c .empty)) (fun o => chk f_spec_l1Used_i17c f_spec_l1Used_i17e o kk) = f_spec_l1Used_i17 R c v kk := by kernel_rfl
theorem f_spec_l1Used_i17Ok {X : Cx} (hX : en52.lo = X.lo) : SubOk Tryd.prog X 57 ⟨f_spec_l1Used_i17c, f_spec_l1Used_i17v, f_spec_l1Used_i17e, f_spec_l1Used_i17⟩ (ifAt 17 Tryd.f52) :=
  sub_if (u := ⟨f_spec_l1Used_i17c, f_spec_l1Used_i17v, f_spec_l1Used_i17e, f_spec_l1Used_i17⟩) (subs := su52i17) ok52 rfl hX (GoodN.good (K := True) (Eq.mpr (show GoodN Tryd.prog X 57 en52 su52i17 (ifAt 17 Tryd.f52) True = (True) by kernel_rfl) trivial)).1 (by decide) (by decide) f_spec_l1Used_i17Eq
theorem f_spec_l1Used_l3Eq (R : Type) (c : Vars f_spec_l1Used_l3c) (v : Vars f_spec_l1Used_l3v) (kk : Vars f_spec_l1Used_l3c → (Vars f_spec_l1Used_l3v ⊕ Oc f_spec_l1Used_l3e) → Option R) : evC en52 su52 (loopAt 3 Tryd.f52) (Desc.mk2 f_spec_l1Used_l3v v (Desc.mk2 f_spec_l1Used_l3c c .empty)) (fun o => bodyK f_spec_l1Used_l3c f_spec_l1Used_l3v f_spec_l1Used_l3e o kk) = f_spec_l1Used_l3 R c v kk := by kernel_rfl
theorem f_spec_l1Used_l3Ok {X : Cx} (hX : en52.lo = X.lo) : SubOk Tryd.prog X 57 ⟨f_spec_l1Used_l3c, f_spec_l1Used_l3v, f_spec_l1Used_l3e, loopF f_spec_l1Used_l3⟩ (.loop (loopAt 3 Tryd.f52)) :=
  sub_loop (subs := su52) ok52 rfl hX (GoodN.good (K := True) (Eq.mpr (show GoodN Tryd.prog X 57 en52 su52 (loopAt 3 Tryd.f52) True = (SubOk Tryd.prog X 57 ⟨f_spec_l1Used_l7c, f_spec_l1Used_l7v, f_spec_l1Used_l7e, loopF f_spec_l1Used_l7⟩ (.loop (loopAt 7 Tryd.f52)) ∧ SubOk Tryd.prog X 57 ⟨f_spec_l1Used_l12c, f_spec_l1Used_l12v, f_spec_l1Used_l12e, loopF f_spec_l1Used_l12⟩ (.loop (loopAt 12 Tryd.f52)) ∧ SubOk Tryd.prog X 57 ⟨f_spec_l1Used_i17c, f_spec_l1Used_i17v, f_spec_l1Used_i17e, f_spec_l1Used_i17⟩ (ifAt 17 Tryd.f52) ∧ True) by kernel_rfl) ⟨(f_spec_l1Used_l7Ok hX), (f_spec_l1Used_l12Ok hX), (f_spec_l1Used_i17Ok hX), trivial⟩)).1 (by decide) (by decide) f_spec_l1Used_l3Eq
theorem f_spec_l1UsedEq (x : Ps ins52) : evF en52 su52 Tryd.f52 ins52 res52 x = f_spec_l1Used x := by kernel_rfl
theorem so52 : Sound Tryd.prog 52 sg52 :=
  sound_of (fn := Tryd.f52) (c := bodyOf Tryd.f52) (subs := su52) (E := en52) (by kernel_rfl) (by kernel_rfl) (by decide) ok52 (by kernel_rfl) (by kernel_rfl) (by decide)
    (fun X hX => (GoodN.good (K := True) (Eq.mpr (show GoodN Tryd.prog X 57 en52 su52 (bodyOf Tryd.f52) True = (SubOk Tryd.prog X 57 ⟨f_spec_l1Used_l3c, f_spec_l1Used_l3v, f_spec_l1Used_l3e, loopF f_spec_l1Used_l3⟩ (.loop (loopAt 3 Tryd.f52)) ∧ True) by kernel_rfl) ⟨(f_spec_l1Used_l3Ok hX), trivial⟩)).1)
    (fun x r h => (f_spec_l1UsedEq x).trans h)
def fl63 : List (Nat × Sig) := [(50, sg50)]
def en63 : Env := { n := 36, ty := assocN tyL, fns := assocN fl63, lo := 0 }
def su63 : Bool → Nat → Option Sub | true, 2 => some ⟨f_spec_l1Name_l2c, f_spec_l1Name_l2v, f_spec_l1Name_l2e, loopF f_spec_l1Name_l2⟩ | _, _ => none
theorem ok63 : EnvOk Tryd.prog en63 := envOk_of rfl rfl tyL_ok (⟨so50, trivial⟩)
theorem f_spec_l1Name_l2Eq (R : Type) (c : Vars f_spec_l1Name_l2c) (v : Vars f_spec_l1Name_l2v) (kk : Vars f_spec_l1Name_l2c → (Vars f_spec_l1Name_l2v ⊕ Oc f_spec_l1Name_l2e) → Option R) : evC en63 su63 (loopAt 2 Tryd.f63) (Desc.mk2 f_spec_l1Name_l2v v (Desc.mk2 f_spec_l1Name_l2c c .empty)) (fun o => bodyK f_spec_l1Name_l2c f_spec_l1Name_l2v f_spec_l1Name_l2e o kk) = f_spec_l1Name_l2 R c v kk := by kernel_rfl
theorem f_spec_l1Name_l2Ok {X : Cx} (hX : en63.lo = X.lo) : SubOk Tryd.prog X 36 ⟨f_spec_l1Name_l2c, f_spec_l1Name_l2v, f_spec_l1Name_l2e, loopF f_spec_l1Name_l2⟩ (.loop (loopAt 2 Tryd.f63)) :=
  sub_loop (subs := su63) ok63 rfl hX (GoodN.good (K := True) (Eq.mpr (show GoodN Tryd.prog X 36 en63 su63 (loopAt 2 Tryd.f63) True = (True) by kernel_rfl) trivial)).1 (by decide) (by decide) f_spec_l1Name_l2Eq
theorem f_spec_l1NameEq (x : Ps ins63) : evF en63 su63 Tryd.f63 ins63 res63 x = f_spec_l1Name x := by kernel_rfl
theorem so63 : Sound Tryd.prog 63 sg63 :=
  sound_of (fn := Tryd.f63) (c := bodyOf Tryd.f63) (subs := su63) (E := en63) (by kernel_rfl) (by kernel_rfl) (by decide) ok63 (by kernel_rfl) (by kernel_rfl) (by decide)
    (fun X hX => (GoodN.good (K := True) (Eq.mpr (show GoodN Tryd.prog X 36 en63 su63 (bodyOf Tryd.f63) True = (SubOk Tryd.prog X 36 ⟨f_spec_l1Name_l2c, f_spec_l1Name_l2v, f_spec_l1Name_l2e, loopF f_spec_l1Name_l2⟩ (.loop (loopAt 2 Tryd.f63)) ∧ True) by kernel_rfl) ⟨(f_spec_l1Name_l2Ok hX), trivial⟩)).1)
    (fun x r h => (f_spec_l1NameEq x).trans h)
def fl51 : List (Nat × Sig) := [(50, sg50), (63, sg63)]
def en51 : Env := { n := 45, ty := assocN tyL, fns := assocN fl51, lo := 0 }
def su51 : Bool → Nat → Option Sub | true, 2 => some ⟨f_spec_l1Names_l2c, f_spec_l1Names_l2v, f_spec_l1Names_l2e, loopF f_spec_l1Names_l2⟩ | _, _ => none
theorem ok51 : EnvOk Tryd.prog en51 := envOk_of rfl rfl tyL_ok (⟨so50, ⟨so63, trivial⟩⟩)
theorem dr51r4 {X : Cx} (hX : en51.lo = X.lo) : RegOk Tryd.prog X 45 en51 4 (regAt 4 Tryd.f51) := regOk_of ok51 rfl hX (by kernel_rfl) (by kernel_rfl)
theorem f_spec_l1Names_l2Eq (R : Type) (c : Vars f_spec_l1Names_l2c) (v : Vars f_spec_l1Names_l2v) (kk : Vars f_spec_l1Names_l2c → (Vars f_spec_l1Names_l2v ⊕ Oc f_spec_l1Names_l2e) → Option R) : evC en51 su51 (loopAt 2 Tryd.f51) (Desc.mk2 f_spec_l1Names_l2v v (Desc.mk2 f_spec_l1Names_l2c c .empty)) (fun o => bodyK f_spec_l1Names_l2c f_spec_l1Names_l2v f_spec_l1Names_l2e o kk) = f_spec_l1Names_l2 R c v kk := by kernel_rfl
theorem f_spec_l1Names_l2Ok {X : Cx} (hX : en51.lo = X.lo) : SubOk Tryd.prog X 45 ⟨f_spec_l1Names_l2c, f_spec_l1Names_l2v, f_spec_l1Names_l2e, loopF f_spec_l1Names_l2⟩ (.loop (loopAt 2 Tryd.f51)) :=
  sub_loop (subs := su51) ok51 rfl hX (GoodN.good (K := True) (Eq.mpr (show GoodN Tryd.prog X 45 en51 su51 (loopAt 2 Tryd.f51) True = (RegOk Tryd.prog X 45 en51 4 (regAt 4 Tryd.f51) ∧ True) by kernel_rfl) ⟨(dr51r4 hX), trivial⟩)).1 (by decide) (by decide) f_spec_l1Names_l2Eq
theorem f_spec_l1NamesEq (x : Ps ins51) : evF en51 su51 Tryd.f51 ins51 res51 x = f_spec_l1Names x := by kernel_rfl
theorem so51 : Sound Tryd.prog 51 sg51 :=
  sound_of (fn := Tryd.f51) (c := bodyOf Tryd.f51) (subs := su51) (E := en51) (by kernel_rfl) (by kernel_rfl) (by decide) ok51 (by kernel_rfl) (by kernel_rfl) (by decide)
    (fun X hX => (GoodN.good (K := True) (Eq.mpr (show GoodN Tryd.prog X 45 en51 su51 (bodyOf Tryd.f51) True = (SubOk Tryd.prog X 45 ⟨f_spec_l1Names_l2c, f_spec_l1Names_l2v, f_spec_l1Names_l2e, loopF f_spec_l1Names_l2⟩ (.loop (loopAt 2 Tryd.f51)) ∧ True) by kernel_rfl) ⟨(f_spec_l1Names_l2Ok hX), trivial⟩)).1)
    (fun x r h => (f_spec_l1NamesEq x).trans h)
def fl22 : List (Nat × Sig) := [(50, sg50), (51, sg51), (52, sg52)]
def en22 : Env := { n := 58, ty := assocN tyL, fns := assocN fl22, lo := 0 }
def su22 : Bool → Nat → Option Sub | true, 2 => some ⟨f_spec_GoodDisk_l2c, f_spec_GoodDisk_l2v, f_spec_GoodDisk_l2e, loopF f_spec_GoodDisk_l2⟩ | _, _ => none
theorem ok22 : EnvOk Tryd.prog en22 := envOk_of rfl rfl tyL_ok (⟨so50, ⟨so51, ⟨so52, trivial⟩⟩⟩)
theorem dr22r7 {X : Cx} (hX : en22.lo = X.lo) : RegOk Tryd.prog X 58 en22 7 (regAt 7 Tryd.f22) := regOk_of ok22 rfl hX (by kernel_rfl) (by kernel_rfl)
theorem f_spec_GoodDisk_l2Eq (R : Type) (c : Vars f_spec_GoodDisk_l2c) (v : Vars f_spec_GoodDisk_l2v) (kk : Vars f_spec_GoodDisk_l2c → (Vars f_spec_GoodDisk_l2v ⊕ Oc f_spec_GoodDisk_l2e) → Option R) : evC en22 su22 (loopAt 2 Tryd.f22) (Desc.mk2 f_spec_GoodDisk_l2v v (Desc.mk2 f_spec_GoodDisk_l2c c .empty)) (fun o => bodyK f_spec_GoodDisk_l2c f_spec_GoodDisk_l2v f_spec_GoodDisk_l2e o kk) = f_spec_GoodDisk_l2 R c v kk := by kernel_rfl
theorem f_spec_GoodDisk_l2Ok {X : Cx} (hX : en22.lo = X.lo) : SubOk Tryd.prog X 58 ⟨f_spec_GoodDisk_l2c, f_spec_GoodDisk_l2v, f_spec_GoodDisk_l2e, loopF f_spec_GoodDisk_l2⟩ (.loop (loopAt 2 Tryd.f22)) :=
  sub_loop (subs := su22) ok22 rfl hX (GoodN.good (K := True) (Eq.mpr (show GoodN Tryd.prog X 58 en22 su22 (loopAt 2 Tryd.f22) True = (True) by kernel_rfl) trivial)).1 (by decide) (by decide) f_spec_GoodDisk_l2Eq
theorem f_spec_GoodDiskEq (x : Ps ins22) : evF en22 su22 Tryd.f22 ins22 res22 x = f_spec_GoodDisk x := by kernel_rfl
theorem so22 : Sound Tryd.prog 22 sg22 :=
  sound_of (fn := Tryd.f22) (c := bodyOf Tryd.f22) (subs := su22) (E := en22) (by kernel_rfl) (by kernel_rfl) (by decide) ok22 (by kernel_rfl) (by kernel_rfl) (by decide)
    (fun X hX => (GoodN.good (K := True) (Eq.mpr (show GoodN Tryd.prog X 58 en22 su22 (bodyOf Tryd.f22) True = (SubOk Tryd.prog X 58 ⟨f_spec_GoodDisk_l2c, f_spec_GoodDisk_l2v, f_spec_GoodDisk_l2e, loopF f_spec_GoodDisk_l2⟩ (.loop (loopAt 2 Tryd.f22)) ∧ RegOk Tryd.prog X 58 en22 7 (regAt 7 Tryd.f22) ∧ True) by kernel_rfl) ⟨(f_spec_GoodDisk_l2Ok hX), (dr22r7 hX), trivial⟩)).1)
    (fun x r h => (f_spec_GoodDiskEq x).trans h)
def fl35 : List (Nat × Sig) := []
def en35 : Env := { n := 19, ty := assocN tyL, fns := assocN fl35, lo := 0 }
def su35 : Bool → Nat → Option Sub | _, _ => none
theorem ok35 : EnvOk Tryd.prog en35 := envOk_of rfl rfl tyL_ok (trivial)
theorem f_spec_l1OwnEq (x : Ps ins35) : evF en35 su35 Tryd.f35 ins35 res35 x = f_spec_l1Own x := by kernel_rfl
theorem so35 : Sound Tryd.prog 35 sg35 :=
  sound_of (fn := Tryd.f35) (c := bodyOf Tryd.f35) (subs := su35) (E := en35) (by kernel_rfl) (by kernel_rfl) (by decide) ok35 (by kernel_rfl) (by kernel_rfl) (by decide)
    (fun X hX => (GoodN.good (K := True) (Eq.mpr (show GoodN Tryd.prog X 19 en35 su35 (bodyOf Tryd.f35) True = (True) by kernel_rfl) trivial)).1)
    (fun x r h => (f_spec_l1OwnEq x).trans h)
def fl64 : List (Nat × Sig) := []
def en64 : Env := { n := 36, ty := assocN tyL, fns := assocN fl64, lo := 0 }
def su64 : Bool → Nat → Option Sub | true, 2 => some ⟨f_spec_l1At_l2c, f_spec_l1At_l2v, f_spec_l1At_l2e, loopF f_spec_l1At_l2⟩ | _, _ => none
theorem ok64 : EnvOk Tryd.prog en64 := envOk_of rfl rfl tyL_ok (trivial)
theorem dr64r4 {X : Cx} (hX : en64.lo = X.lo) : RegOk Tryd.prog X 36 en64 4 (regAt 4 Tryd.f64) := regOk_of ok64 rfl hX (by kernel_rfl) (by kernel_rfl)
theorem f_spec_l1At_l2Eq (R : Type) (c : Vars f_spec_l1At_l2c) (v : Vars f_spec_l1At_l2v) (kk : Vars f_spec_l1At_l2c → (Vars f_spec_l1At_l2v ⊕ Oc f_spec_l1At_l2e) → Option R) : evC en64 su64 (loopAt 2 Tryd.f64) (Desc.mk2 f_spec_l1At_l2v v (Desc.mk2 f_spec_l1At_l2c c .empty)) (fun o => bodyK f_spec_l1At_l2c f_spec_l1At_l2v f_spec_l1At_l2e o kk) = f_spec_l1At_l2 R c v kk := by kernel_rfl
theorem f_spec_l1At_l2Ok {X : Cx} (hX : en64.lo = X.lo) : SubOk Tryd.prog X 36 ⟨f_spec_l1At_l2c, f_spec_l1At_l2v, f_spec_l1At_l2e, loopF f_spec_l1At_l2⟩ (.loop (loopAt 2 Tryd.f64)) :=
  sub_loop (subs := su64) ok64 rfl hX (GoodN.good (K := True) (Eq.mpr (show GoodN Tryd.prog X 36 en64 su64 (loopAt 2 Tryd.f64) True = (True) by kernel_rfl) trivial)).1 (by decide) (by decide) f_spec_l1At_l2Eq
theorem f_spec_l1AtEq (x : Ps ins64) : evF en64 su64 Tryd.f64 ins64 res64 x = f_spec_l1At x := by kernel_rfl
theorem so64 : Sound Tryd.prog 64 sg64 :=
  sound_of (fn := Tryd.f64) (c := bodyOf Tryd.f64) (subs := su64) (E := en64) (by kernel_rfl) (by kernel_rfl) (by decide) ok64 (by kernel_rfl) (by kernel_rfl) (by decide)
    (fun X hX => (GoodN.good (K := True) (Eq.mpr (show GoodN Tryd.prog X 36 en64 su64 (bodyOf Tryd.f64) True = (SubOk Tryd.prog X 36 ⟨f_spec_l1At_l2c, f_spec_l1At_l2v, f_spec_l1At_l2e, loopF f_spec_l1At_l2⟩ (.loop (loopAt 2 Tryd.f64)) ∧ RegOk Tryd.prog X 36 en64 4 (regAt 4 Tryd.f64) ∧ True) by kernel_rfl) ⟨(f_spec_l1At_l2Ok hX), (dr64r4 hX), trivial⟩)).1)
    (fun x r h => (f_spec_l1AtEq x).trans h)
def fl65 : List (Nat × Sig) := [(64, sg64)]
def hi65 : List (Nat × (K × Mk)) := [(4, ((.sl kdBlob), (.o .s))), (7, ((.sl kdBlob), (.o .s)))]
def en65 : Env := { n := 32, ty := assocN tyL, fns := assocN fl65, lo := 0, hint := assocN hi65 }
def su65 : Bool → Nat → Option Sub | false, 6 => some ⟨f_spec_l1Put_i6c, f_spec_l1Put_i6v, f_spec_l1Put_i6e, f_spec_l1Put_i6⟩ | _, _ => none
theorem ok65 : EnvOk Tryd.prog en65 := envOk_of rfl rfl tyL_ok (⟨so64, trivial⟩)
def su65i6 : Bool → Nat → Option Sub | _, _ => none
theorem f_spec_l1Put_i6Eq (R : Type) (c : Vars f_spec_l1Put_i6c) (v : Vars f_spec_l1Put_i6v) (kk : Vars f_spec_l1Put_i6c → Oc f_spec_l1Put_i6e → Option R) : evC en65 su65i6 (ifAt 6 Tryd.f65) (Desc.mk2 f_spec_l1Put_i6v v (Desc.mk2 f_spec_l1Put_i6c c .empty)) (fun o => chk f_spec_l1Put_i6c f_spec_l1Put_i6e o kk) = f_spec_l1Put_i6 R c v kk := by kernel_rfl
theorem f_spec_l1Put_i6Ok {X : Cx} (hX : en65.lo = X.lo) : SubOk Tryd.prog X 32 ⟨f_spec_l1Put_i6c, f_spec_l1Put_i6v, f_spec_l1Put_i6e, f_spec_l1Put_i6⟩ (ifAt 6 Tryd.f65) :=
  sub_if (u := ⟨f_spec_l1Put_i6c, f_spec_l1Put_i6v, f_spec_l1Put_i6e, f_spec_l1Put_i6⟩) (subs := su65i6) ok65 rfl hX (GoodN.good (K := True) (Eq.mpr (show GoodN Tryd.prog X 32 en65 su65i6 (ifAt 6 Tryd.f65) True = (True) by kernel_rfl) trivial)).1 (by decide) (by decide) f_spec_l1Put_i6Eq
theorem f_spec_l1PutEq (x : Ps ins65) : evF en65 su65 Tryd.f65 ins65 res65 x = f_spec_l1Put x := by kernel_rfl
theorem so65 : Sound Tryd.prog 65 sg65 :=
  sound_of (fn := Tryd.f65) (c := bodyOf Tryd.f65) (subs := su65) (E := en65) (by kernel_rfl) (by kernel_rfl) (by decide) ok65 (by kernel_rfl) (by kernel_rfl) (by decide)
    (fun X hX => (GoodN.good (K := True) (Eq.mpr (show GoodN Tryd.prog X 32 en65 su65 (bodyOf Tryd.f65) True = (SubOk Tryd.prog X 32 ⟨f_spec_l1Put_i6c, f_spec_l1Put_i6v, f_spec_l1Put_i6e, f_spec_l1Put_i6⟩ (ifAt 6 Tryd.f65) ∧ True) by kernel_rfl) ⟨(f_spec_l1Put_i6Ok hX), trivial⟩)).1)
    (fun x r h => (f_spec_l1PutEq x).trans h)
def fl66 : List (Nat × Sig) := [(64, sg64)]
def hi66 : List (Nat × (K × Mk)) := [(4, ((.sl kdBlob), (.o .s)))]
def dw66 : List (Nat × List (List Nat × List Nat)) := [(4, [([16], []), ([], []), ([], []), ([0, 19], []), ([20], [0]), ([], []), ([], []), ([23], []), ([0, 24], []), ([20, 25], [0]), ([4, 25], [])])]
def en66 : Env := { n := 26, ty := assocN tyL, fns := assocN fl66, lo := 0, hint := assocN hi66, draw := drawOf dw66 }
def su66 : Bool → Nat → Option Sub | _, _ => none
theorem ok66 : EnvOk Tryd.prog en66 := envOk_of rfl rfl tyL_ok (⟨so64, trivial⟩)
theorem dr66r4 {X : Cx} (hX : en66.lo = X.lo) : RegOk Tryd.prog X 26 en66 4 (regAt 4 Tryd.f66) := regOk_of ok66 rfl hX (by kernel_rfl) (by kernel_rfl)
theorem f_spec_l1WithoutEq (x : Ps ins66) : evF en66 su66 Tryd.f66 ins66 res66 x = f_spec_l1Without x := by kernel_rfl
theorem so66 : Sound Tryd.prog 66 sg66 :=
  sound_of (fn := Tryd.f66) (c := bodyOf Tryd.f66) (subs := su66) (E := en66) (by kernel_rfl) (by kernel_rfl) (by decide) ok66 (by kernel_rfl) (by kernel_rfl) (by decide)
    (fun X hX => (GoodN.good (K := True) (Eq.mpr (show GoodN Tryd.prog X 26 en66 su66 (bodyOf Tryd.f66) True = (RegOk Tryd.prog X 26 en66 4 (regAt 4 Tryd.f66) ∧ True) by kernel_rfl) ⟨(dr66r4 hX), trivial⟩)).1)
    (fun x r h => (f_spec_l1WithoutEq x).trans h)
def fl67 : List (Nat × Sig) := []
def en67 : Env := { n := 46, ty := assocN tyL, fns := assocN fl67, lo := 0 }
def su67 : Bool → Nat → Option Sub | false, 7 => some ⟨f_spec_l1Crash_i7c, f_spec_l1Crash_i7v, f_spec_l1Crash_i7e, f_spec_l1Crash_i7⟩ | true, 3 => some ⟨f_spec_l1Crash_l3c, f_spec_l1Crash_l3v, f_spec_l1Crash_l3e, loopF f_spec_l1Crash_l3⟩ | _, _ => none
theorem ok67 : EnvOk Tryd.prog en67 := envOk_of rfl rfl tyL_ok (trivial)
theorem dr67r8 {X : Cx} (hX : en67.lo = X.lo) : RegOk Tryd.prog X 46 en67 8 (regAt 8 Tryd.f67) := regOk_of ok67 rfl hX (by kernel_rfl) (by kernel_rfl)
def su67i7 : Bool → Nat → Option Sub | true, 3 => some ⟨f_spec_l1Crash_l3c, f_spec_l1Crash_l3v, f_spec_l1Crash_l3e, loopF f_spec_l1Crash_l3⟩ | _, _ => none
theorem f_spec_l1Crash_i7Eq (R : Type) (c : Vars f_spec_l1Crash_i7c) (v : Vars f_spec_l1Crash_i7v) (kk : Vars f_spec_l1Crash_i7c → Oc f_spec_l1Crash_i7e → Option R) : evC en67 su67i7 (ifAt 7 Tryd.f67) (Desc.mk2 f_spec_l1Crash_i7v v (Desc.mk2 f_spec_l1Crash_i7c c .empty)) (fun o => chk f_spec_l1Crash_i7c f_spec_l1Crash_i7e o kk) = f_spec_l1Crash_i7 R c v kk := by kernel_rfl
theorem f_spec_l1Crash_i7Ok {X : Cx} (hX : en67.lo = X.lo) : SubOk Tryd.prog X 46 ⟨f_spec_l1Crash_i7c, f_spec_l1Crash_i7v, f_spec_l1Crash_i7e, f_spec_l1Crash_i7⟩ (ifAt 7 Tryd.f67) :=
  sub_if (u := ⟨f_spec_l1Crash_i7c, f_spec_l1Crash_i7v, f_spec_l1Crash_i7e, f_spec_l1Crash_i7⟩) (subs := su67i7) ok67 rfl hX (GoodN.good (K := True) (Eq.mpr (show GoodN Tryd.prog X 46 en67 su67i7 (ifAt 7 Tryd.f67) True = (True) by kernel_rfl) trivial)).1 (by decide) (by decide) f_spec_l1Crash_i7Eq
theorem f_spec_l1Crash_l3Eq (R : Type) (c : Vars f_spec_l1Crash_l3c) (v : Vars f_spec_l1Crash_l3v) (kk : Vars f_spec_l1Crash_l3c → (Vars f_spec_l1Crash_l3v ⊕ Oc f_spec_l1Crash_l3e) → Option R) : evC en67 su67 (loopAt 3 Tryd.f67) (Desc.mk2 f_spec_l1Crash_l3v v (Desc.mk2 f_spec_l1Crash_l3c c .empty)) (fun o => bodyK f_spec_l1Crash_l3c f_spec_l1Crash_l3v f_spec_l1Crash_l3e o kk) = f_spec_l1Crash_l3 R c v kk := by kernel_rfl
theorem f_spec_l1Crash_l3Ok {X : Cx} (hX : en67.lo = X.lo) : SubOk Tryd.prog X 46 ⟨f_spec_l1Crash_l3c, f_spec_l1Crash_l3v, f_spec_l1Crash_l3e, loopF f_spec_l1Crash_l3⟩ (.loop (loopAt 3 Tryd.f67)) :=
  sub_loop (subs := su67) ok67 rfl hX (GoodN.good (K := True) (Eq.mpr (show GoodN Tryd.prog X 46 en67 su67 (loopAt 3 Tryd.f67) True = (SubOk Tryd.prog X 46 ⟨f_spec_l1Crash_i7c, f_spec_l1Crash_i7v, f_spec_l1Crash_i7e, f_spec_l1Crash_i7⟩ (ifAt 7 Tryd.f67) ∧ RegOk Tryd.prog X 46 en67 8 (regAt 8 Tryd.f67) ∧ True) by kernel_rfl) ⟨(f_spec_l1Crash_i7Ok hX), (dr67r8 hX), trivial⟩)).1 (by decide) (by decide) f_spec_l1Crash_l3Eq
theorem f_spec_l1CrashEq (x : Ps ins67) : evF en67 su67 Tryd.f67 ins67 res67 x = f_spec_l1Crash x := by kernel_rfl
theorem so67 : Sound Tryd.prog 67 sg67 :=
  sound_of (fn := Tryd.f67) (c := bodyOf Tryd.f67) (subs := su67) (E := en67) (by kernel_rfl) (by kernel_rfl) (by decide) ok67 (by kernel_rfl) (by kernel_rfl) (by decide)
    (fun X hX => (GoodN.good (K := True) (Eq.mpr (show GoodN Tryd.prog X 46 en67 su67 (bodyOf Tryd.f67) True = (SubOk Tryd.prog X 46 ⟨f_spec_l1Crash_l3c, f_spec_l1Crash_l3v, f_spec_l1Crash_l3e, loopF f_spec_l1Crash_l3⟩ (.loop (loopAt 3 Tryd.f67)) ∧ True) by kernel_rfl) ⟨(f_spec_l1Crash_l3Ok hX), trivial⟩)).1)
    (fun x r h => (f_spec_l1CrashEq x).trans h)
def fl34 : List (Nat × Sig) := [(22, sg22), (50, sg50), (63, sg63), (64, sg64), (65, sg65), (66, sg66), (67, sg67)]
def dw34 : List (Nat × List (List Nat × List Nat)) := [(24, [([2, 171], []), ([2, 172], []), ([3, 173], []), ([3, 174], []), ([2, 175], []), ([3, 176], []), ([3, 177], []), ([], []), ([179], []), ([180], [175]), ([2, 181], []), ([2, 180], [])])]
def en34 : Env := { n := 212, ty := assocN tyL, fns := assocN fl34, lo := 0, draw := drawOf dw34 }
def su34 : Bool → Nat → Option Sub | false, 13 => some ⟨f_spec_l1Do_i13c, f_spec_l1Do_i13v, f_spec_l1Do_i13e, f_spec_l1Do_i13⟩ | false, 30 => some ⟨f_spec_l1Do_i30c, f_spec_l1Do_i30v, f_spec_l1Do_i30e, f_spec_l1Do_i30⟩ | false, 28 => some ⟨f_spec_l1Do_i28c, f_spec_l1Do_i28v, f_spec_l1Do_i28e, f_spec_l1Do_i28⟩ | false, 26 => some ⟨f_spec_l1Do_i26c, f_spec_l1Do_i26v, f_spec_l1Do_i26e, f_spec_l1Do_i26⟩ | false, 24 => some ⟨f_spec_l1Do_i24c, f_spec_l1Do_i24v, f_spec_l1Do_i24e, f_spec_l1Do_i24⟩ | false, 22 => some ⟨f_spec_l1Do_i22c, f_spec_l1Do_i22v, f_spec_l1Do_i22e, f_spec_l1Do_i22⟩ | false, 20 => some ⟨f_spec_l1Do_i20c, f_spec_l1Do_i20v, f_spec_l1Do_i20e, f_spec_l1Do_i20⟩ | false, 17 => some ⟨f_spec_l1Do_i17c, f_spec_l1Do_i17v, f_spec_l1Do_i17e, f_spec_l1Do_i17⟩ | _, _ => none
theorem ok34 : EnvOk Tryd.prog en34 := envOk_of rfl rfl tyL_ok (⟨so22, ⟨so50, ⟨so63, ⟨so64, ⟨so65, ⟨so66, ⟨so67, trivial⟩⟩⟩⟩⟩⟩⟩)
theorem dr34r20 {X : Cx} (hX : en34.lo = X.lo) : RegOk Tryd.prog X 212 en34 20 (regAt 20 Tryd.f34) := regOk_of ok34 rfl hX (by kernel_rfl) (by kernel_rfl)
theorem dr34r22 {X : Cx} (hX : en34.lo = X.lo) : RegOk Tryd.prog X 212 en34 22 (regAt 22 Tryd.f34) := regOk_of ok34 rfl hX (by kernel_rfl) (by kernel_rfl)
theorem dr34r24 {X : Cx} (hX : en34.lo = X.lo) : RegOk Tryd.prog X 212 en34 24 (regAt 24 Tryd.f34) := regOk_of ok34 rfl hX (by kernel_rfl) (by kernel_rfl)
def su34i13 : Bool → Nat → Option Sub | false, 30 => some ⟨f_spec_l1Do_i30c, f_spec_l1Do_i30v, f_spec_l1Do_i30e, f_spec_l1Do_i30⟩ | false, 28 => some ⟨f_spec_l1Do_i28c, f_spec_l1Do_i28v, f_spec_l1Do_i28e, f_spec_l1Do_i28⟩ | false, 26 => some ⟨f_spec_l1Do_i26c, f_spec_l1Do_i26v, f_spec_l1Do_i26e, f_spec_l1Do_i26⟩ | false, 24 => some ⟨f_spec_l1Do_i24c, f_spec_l1Do_i24v, f_spec_l1Do_i24e, f_spec_l1Do_i24⟩ | false, 22 => some ⟨f_spec_l1Do_i22c, f_spec_l1Do_i22v, f_spec_l1Do_i22e, f_spec_l1Do_i22⟩ | false, 20 => some ⟨f_spec_l1Do_i20c, f_spec_l1Do_i20v, f_spec_l1Do_i20e, f_spec_l1Do_i20⟩ | false, 17 => some ⟨f_spec_l1Do_i17c, f_spec_l1Do_i17v, f_spec_l1Do_i17e, f_spec_l1Do_i17⟩ | _, _ => none
theorem f_spec_l1Do_i13Eq (R : Type) (c : Vars f_spec_l1Do_i13c) (v : Vars f_spec_l1Do_i13v) (kk : Vars f_spec_l1Do_i13c → Oc f_spec_l1Do_i13e → Option R) : evC en34 su34i13 (ifAt 13 Tryd.f34) (Desc.mk2 f_spec_l1Do_i13v v (Desc.mk2 f_spec_l1Do_i13c c .empty)) (fun o => chk f_spec_l1Do_i13c f_spec_l1Do_i13e o kk) = f_spec_l1Do_i13 R c v kk := by kernel_rfl
theorem f_spec_l1Do_i13Ok {X : Cx} (hX : en34.lo = X.lo) : SubOk Tryd.prog X 212 ⟨f_spec_l1Do_i13c, f_spec_l1Do_i13v, f_spec_l1Do_i13e, f_spec_l1Do_i13⟩ (ifAt 13 Tryd.f34) :=
  sub_if (u := ⟨f_spec_l1Do_i13c, f_spec_l1Do_i13v, f_spec_l1Do_i13e, f_spec_l1Do_i13⟩) (subs := su34i13) ok34 rfl hX (GoodN.good (K := True) (Eq.mpr (show GoodN Tryd.prog X 212 en34 su34i13 (ifAt 13 Tryd.f34) True = (True) by kernel_rfl) trivial)).1 (by decide) (by decide) f_spec_l1Do_i13Eq
def su34i30 : Bool → Nat → Option Sub | false, 13 => some ⟨f_spec_l1Do_i13c, f_spec_l1Do_i13v, f_spec_l1Do_i13e, f_spec_l1Do_i13⟩ | false, 28 => some ⟨f_spec_l1Do_i28c, f_spec_l1Do_i28v, f_spec_l1Do_i28e, f_spec_l1Do_i28⟩ | false, 26 => some ⟨f_spec_l1Do_i26c, f_spec_l1Do_i26v, f_spec_l1Do_i26e, f_spec_l1Do_i26⟩ | false, 24 => some ⟨f_spec_l1Do_i24c, f_spec_l1Do_i24v, f_spec_l1Do_i24e, f_spec_l1Do_i24⟩ | false, 22 => some ⟨f_spec_l1Do_i22c, f_spec_l1Do_i22v, f_spec_l1Do_i22e, f_spec_l1Do_i22⟩ | false, 20 => some ⟨f_spec_l1Do_i20c, f_spec_l1Do_i20v, f_spec_l1Do_i20e, f_spec_l1Do_i20⟩ | false, 17 => some ⟨f_spec_l1Do_i17c, f_spec_l1Do_i17v, f_spec_l1Do_i17e, f_spec_l1Do_i17⟩ | _, _ => none
theorem f_spec_l1Do_i30Eq (R : Type) (c : Vars f_spec_l1Do_i30c) (v : Vars f_spec_l1Do_i30v) (kk : Vars f_spec_l1Do_i30c → Oc f_spec_l1Do_i30e → Option R) : evC en34 su34i30 (ifAt 30 Tryd.f34) (Desc.mk2 f_spec_l1Do_i30v v (Desc.mk2 f_spec_l1Do_i30c c .empty)) (fun o => chk f_spec_l1Do_i30c f_spec_l1Do_i30e o kk) = f_spec_l1Do_i30 R c v kk := by kernel_rfl
theorem f_spec_l1Do_i30Ok {X : Cx} (hX : en34.lo = X.lo) : SubOk Tryd.prog X 212 ⟨f_spec_l1Do_i30c, f_spec_l1Do_i30v, f_spec_l1Do_i30e, f_spec_l1Do_i30⟩ (ifAt 30 Tryd.f34) :=
  sub_if (u := ⟨f_spec_l1Do_i30c, f_spec_l1Do_i30v, f_spec_l1Do_i30e, f_spec_l1Do_i30⟩) (subs := su34i30) ok34 rfl hX (GoodN.good (K := True) (Eq.mpr (show GoodN Tryd.prog X 212 en34 su34i30 (ifAt 30 Tryd.f34) True = (True) by kernel_rfl) trivial)).1 (by decide) (by decide) f_spec_l1Do_i30Eq
def su34i28 : Bool → Nat → Option Sub | false, 13 => some ⟨f_spec_l1Do_i13c, f_spec_l1Do_i13v, f_spec_l1Do_i13e, f_spec_l1Do_i13⟩ | false, 30 => some ⟨f_spec_l1Do_i30c, f_spec_l1Do_i30v, f_spec_l1Do_i30e, f_spec_l1Do_i30⟩ | false, 26 => some ⟨f_spec_l1Do_i26c, f_spec_l1Do_i26v, f_spec_l1Do_i26e, f_spec_l1Do_i26⟩ | false, 24 => some ⟨f_spec_l1Do_i24c, f_spec_l1Do_i24v, f_spec_l1Do_i24e, f_spec_l1Do_i24⟩ | false, 22 => some ⟨f_spec_l1Do_i22c, f_spec_l1Do_i22v, f_spec_l1Do_i22e, f_spec_l1Do_i22⟩ | false, 20 => some ⟨f_spec_l1Do_i20c, f_spec_l1Do_i20v, f_spec_l1Do_i20e, f_spec_l1Do_i20⟩ | false, 17 => some ⟨f_spec_l1Do_i17c, f_spec_l1Do_i17v, f_spec_l1Do_i17e, f_spec_l1Do_i17⟩ | _, _ => none
theorem f_spec_l1Do_i28Eq (R : Type) (c : Vars f_spec_l1Do_i28c) (v : Vars f_spec_l1Do_i28v) (kk : Vars f_spec_l1Do_i28c → Oc f_spec_l1Do_i28e → Option R) : evC en34 su34i28 (ifAt 28 Tryd.f34) (Desc.mk2 f_spec_l1Do_i28v v (Desc.mk2 f_spec_l1Do_i28c c .empty)) (fun o => chk f_spec_l1Do_i28c f_spec_l1Do_i28e o kk) = f_spec_l1Do_i28 R c v kk := by kernel_rfl
theorem f_spec_l1Do_i28Ok {X : Cx} (hX : en34.lo = X.lo) : SubOk Tryd.prog X 212 ⟨f_spec_l1Do_i28c, f_spec_l1Do_i28v, f_spec_l1Do_i28e, f_spec_l1Do_i28⟩ (ifAt 28 Tryd.f34) :=
  sub_if (u := ⟨f_spec_l1Do_i28c, f_spec_l1Do_i28v, f_spec_l1Do_i28e, f_spec_l1Do_i28⟩) (subs := su34i28) ok34 rfl hX (GoodN.good (K := True) (Eq.mpr (show GoodN Tryd.prog X 212 en34 su34i28 (ifAt 28 Tryd.f34) True = (SubOk Tryd.prog X 212 ⟨f_spec_l1Do_i30c, f_spec_l1Do_i30v, f_spec_l1Do_i30e, f_spec_l1Do_i30⟩ (ifAt 30 Tryd.f34) ∧ True) by kernel_rfl) ⟨(f_spec_l1Do_i30Ok hX), trivial⟩)).1 (by decide) (by decide) f_spec_l1Do_i28Eq
def su34i26 : Bool → Nat → Option Sub | false, 13 => some ⟨f_spec_l1Do_i13c, f_spec_l1Do_i13v, f_spec_l1Do_i13e, f_spec_l1Do_i13⟩ | false, 30 => some ⟨f_spec_l1Do_i30c, f_spec_l1Do_i30v, f_spec_l1Do_i30e, f_spec_l1Do_i30⟩ | false, 28 => some ⟨f_spec_l1Do_i28c, f_spec_l1Do_i28v, f_spec_l1Do_i28e, f_spec_l1Do_i28⟩ | false, 24 => some ⟨f_spec_l1Do_i24c, f_spec_l1Do_i24v, f_spec_l1Do_i24e, f_spec_l1Do_i24⟩ | false, 22 => some ⟨f_spec_l1Do_i22c, f_spec_l1Do_i22v, f_spec_l1Do_i22e, f_spec_l1Do_i22⟩ | false, 20 => some ⟨f_spec_l1Do_i20c, f_spec_l1Do_i20v, f_spec_l1Do_i20e, f_spec_l1Do_i20⟩ | false, 17 => some ⟨f_spec_l1Do_i17c, f_spec_l1Do_i17v, f_spec_l1Do_i17e, f_spec_l1Do_i17⟩ | _, _ => none
theorem f_spec_l1Do_i26Eq (R : Type) (c : Vars f_spec_l1Do_i26c) (v : Vars f_spec_l1Do_i26v) (kk : Vars f_spec_l1Do_i26c → Oc f_spec_l1Do_i26e → Option R) : evC en34 su34i26 (ifAt 26 Tryd.f34) (Desc.mk2 f_spec_l1Do_i26v v (Desc.mk2 f_spec_l1Do_i26c c .empty)) (fun o => chk f_spec_l1Do_i26c f_spec_l1Do_i26e o kk) = f_spec_l1Do_i26 R c v kk := by kernel_rfl
theorem f_spec_l1Do_i26Ok {X : Cx} (hX : en34.lo = X.lo) : SubOk Tryd.prog X 212 ⟨f_spec_l1Do_i26c, f_spec_l1Do_i26v, f_spec_l1Do_i26e, f_spec_l1Do_i26⟩ (ifAt 26 Tryd.f34) :=
  sub_if (u := ⟨f_spec_l1Do_i26c, f_spec_l1Do_i26v, f_spec_l1Do_i26e, f_spec_l1Do_i26⟩) (subs := su34i26) ok34 rfl hX (GoodN.good (K := True) (Eq.mpr (show GoodN Tryd.prog X 212 en34 su34i26 (ifAt 26 Tryd.f34) True = (SubOk Tryd.prog X 212 ⟨f_spec_l1Do_i28c, f_spec_l1Do_i28v, f_spec_l1Do_i28e, f_spec_l1Do_i28⟩ (ifAt 28 Tryd.f34) ∧ True) by kernel_rfl) ⟨(f_spec_l1Do_i28Ok hX), trivial⟩)).1 (by decide) (by decide) f_spec_l1Do_i26Eq
def su34i24 : Bool → Nat → Option Sub | false, 13 => some ⟨f_spec_l1Do_i13c, f_spec_l1Do_i13v, f_spec_l1Do_i13e, f_spec_l1Do_i13⟩ | false, 30 => some ⟨f_spec_l1Do_i30c, f_spec_l1Do_i30v, f_spec_l1Do_i30e, f_spec_l1Do_i30⟩ | false, 28 => some ⟨f_spec_l1Do_i28c, f_spec_l1Do_i28v, f_spec_l1Do_i28e, f_spec_l1Do_i28⟩ | false, 26 => some ⟨f_spec_l1Do_i26c, f_spec_l1Do_i26v, f_spec_l1Do_i26e, f_spec_l1Do_i26⟩ | false, 22 => some ⟨f_spec_l1Do_i22c, f_spec_l1Do_i22v, f_spec_l1Do_i22e, f_spec_l1Do_i22⟩ | false, 20 => some ⟨f_spec_l1Do_i20c, f_spec_l1Do_i20v, f_spec_l1Do_i20e, f_spec_l1Do_i20⟩ | false, 17 => some ⟨f_spec_l1Do_i17c, f_spec_l1Do_i17v, f_spec_l1Do_i17e, f_spec_l1Do_i17⟩ | _, _ => none
theorem f_spec_l1Do_i24Eq (R : Type) (c : Vars f_spec_l1Do_i24c) (v : Vars f_spec_l1Do_i24v) (kk : Vars f_spec_l1Do_i24c → Oc f_spec_l1Do_i24e → Option R) : evC en34 su34i24 (ifAt 24 Tryd.f34) (Desc.mk2 f_spec_l1Do_i24v v (Desc.mk2 f_spec_l1Do_i24c c .empty)) (fun o => chk f_spec_l1Do_i24c f_spec_l1Do_i24e o kk) = f_spec_l1Do_i24 R c v kk := by kernel_rfl
theorem f_spec_l1Do_i24Ok {X : Cx} (hX : en34.lo = X.lo) : SubOk Tryd.prog X 212 ⟨f_spec_l1Do_i24c, f_spec_l1Do_i24v, f_spec_l1Do_i24e, f_spec_l1Do_i24⟩ (ifAt 24 Tryd.f34) :=
  sub_if (u := ⟨f_spec_l1Do_i24c, f_spec_l1Do_i24v, f_spec_l1Do_i24e, f_spec_l1Do_i24⟩) (subs := su34i24) ok34 rfl hX (GoodN.good (K := True) (Eq.mpr (show GoodN Tryd.prog X 212 en34 su34i24 (ifAt 24 Tryd.f34) True = (RegOk Tryd.prog X 212 en34 24 (regAt 24 Tryd.f34) ∧ SubOk Tryd.prog X 212 ⟨f_spec_l1Do_i26c, f_spec_l1Do_i26v, f_spec_l1Do_i26e, f_spec_l1Do_i26⟩ (ifAt 26 Tryd.f34) ∧ True) by kernel_rfl) ⟨(dr34r24 hX), (f_spec_l1Do_i26Ok hX), trivial⟩)).1 (by decide) (by decide) f_spec_l1Do_i24Eq
def su34i22 : Bool → Nat → Option Sub | false, 13 => some ⟨f_spec_l1Do_i13c, f_spec_l1Do_i13v, f_spec_l1Do_i13e, f_spec_l1Do_i13⟩ | false, 30 => some ⟨f_spec_l1Do_i30c, f_spec_l1Do_i30v, f_spec_l1Do_i30e, f_spec_l1Do_i30⟩ | false, 28 => some ⟨f_spec_l1Do_i28c, f_spec_l1Do_i28v, f_spec_l1Do_i28e, f_spec_l1Do_i28⟩ | false, 26 => some ⟨f_spec_l1Do_i26c, f_spec_l1Do_i26v, f_spec_l1Do_i26e, f_spec_l1Do_i26⟩ | false, 24 => some ⟨f_spec_l1Do_i24c, f_spec_l1Do_i24v, f_spec_l1Do_i24e, f_spec_l1Do_i24⟩ | false, 20 => some ⟨f_spec_l1Do_i20c, f_spec_l1Do_i20v, f_spec_l1Do_i20e, f_spec_l1Do_i20⟩ | false, 17 => some ⟨f_spec_l1Do_i17c, f_spec_l1Do_i17v, f_spec_l1Do_i17e, f_spec_l1Do_i17⟩ | _, _ => none
theorem f_spec_l1Do_i22Eq (R : Type) (c : Vars f_spec_l1Do_i22c) (v : Vars f_spec_l1Do_i22v) (kk : Vars f_spec_l1Do_i22c → Oc f_spec_l1Do_i22e → Option R) : evC en34 su34i22 (ifAt 22 Tryd.f34) (Desc.mk2 f_spec_l1Do_i22v v (Desc.mk2 f_spec_l1Do_i22c c .empty)) (fun o => chk f_spec_l1Do_i22c f_spec_l1Do_i22e o kk) = f_spec_l1Do_i22 R c v kk := by kernel_rfl
theorem f_spec_l1Do_i22Ok {X : Cx} (hX : en34.lo = X.lo) : SubOk Tryd.prog X 212 ⟨f_spec_l1Do_i22c, f_spec_l1Do_i22v, f_spec_l1Do_i22e, f_spec_l1Do_i22⟩ (ifAt 22 Tryd.f34) :=
  sub_if (u := ⟨f_spec_l1Do_i22c, f_spec_l1Do_i22v, f_spec_l1Do_i22e, f_spec_l1Do_i22⟩) (subs := su34i22) ok34 rfl hX (GoodN.good (K := True) (Eq.mpr (show GoodN Tryd.prog X 212 en34 su34i22 (ifAt 22 Tryd.f34) True = (RegOk Tryd.prog X 212 en34 22 (regAt 22 Tryd.f34) ∧ SubOk Tryd.prog X 212 ⟨f_spec_l1Do_i24c, f_spec_l1Do_i24v, f_spec_l1Do_i24e, f_spec_l1Do_i24⟩ (ifAt 24 Tryd.f34) ∧ True) by kernel_rfl) ⟨(dr34r22 hX), (f_spec_l1Do_i24Ok hX), trivial⟩)).1 (by decide) (by decide) f_spec_l1Do_i22Eq
def su34i20 : Bool → Nat → Option Sub | false, 13 => some ⟨f_spec_l1Do_i13c, f_spec_l1Do_i13v, f_spec_l1Do_i13e, f_spec_l1Do_i13⟩ | false, 30 => some ⟨f_spec_l1Do_i30c, f_spec_l1Do_i30v, f_spec_l1Do_i30e, f_spec_l1Do_i30⟩ | false, 28 => some ⟨f_spec_l1Do_i28c, f_spec_l1Do_i28v, f_spec_l1Do_i28e, f_spec_l1Do_i28⟩ | false, 26 => some ⟨f_spec_l1Do_i26c, f_spec_l1Do_i26v, f_spec_l1Do_i26e, f_spec_l1Do_i26⟩ | false, 24 => some ⟨f_spec_l1Do_i24c, f_spec_l1Do_i24v, f_spec_l1Do_i24e, f_spec_l1Do_i24⟩ | false, 22 => some ⟨f_spec_l1Do_i22c, f_spec_l1Do_i22v, f_spec_l1Do_i22e, f_spec_l1Do_i22⟩ | false, 17 => some ⟨f_spec_l1Do_i17c, f_spec_l1Do_i17v, f_spec_l1Do_i17e, f_spec_l1Do_i17⟩ | _, _ => none
theorem f_spec_l1Do_i20Eq (R : Type) (c : Vars f_spec_l1Do_i20c) (v : Vars f_spec_l1Do_i20v) (kk : Vars f_spec_l1Do_i20c → Oc f_spec_l1Do_i20e → Option R) : evC en34 su34i20 (ifAt 20 Tryd.f34) (Desc.mk2 f_spec_l1Do_i20v v (Desc.mk2 f_spec_l1Do_i20c c .empty)) (fun o => chk f_spec_l1Do_i20c f_spec_l1Do_i20e o kk) = f_spec_l1Do_i20 R c v kk := by kernel_rfl
theorem f_spec_l1Do_i20Ok {X : Cx} (hX : en34.lo = X.lo) : SubOk Tryd.prog X 212 ⟨f_spec_l1Do_i20c, f_spec_l1Do_i20v, f_spec_l1Do_i20e, f_spec_l1Do_i20⟩ (ifAt 20 Tryd.f34) :=
  sub_if (u := ⟨f_spec_l1Do_i20c, f_spec_l1Do_i20v, f_spec_l1Do_i20e, f_spec_l1Do_i20⟩) (subs := su34i20) ok34 rfl hX (GoodN.good (K := True) (Eq.mpr (show GoodN Tryd.prog X 212 en34 su34i20 (ifAt 20 Tryd.f34) True = (RegOk Tryd.prog X 212 en34 20 (regAt 20 Tryd.f34) ∧ SubOk Tryd.prog X 212 ⟨f_spec_l1Do_i22c, f_spec_l1Do_i22v, f_spec_l1Do_i22e, f_spec_l1Do_i22⟩ (ifAt 22 Tryd.f34) ∧ True) by kernel_rfl) ⟨(dr34r20 hX), (f_spec_l1Do_i22Ok hX), trivial⟩)).1 (by decide) (by decide) f_spec_l1Do_i20Eq
def su34i17 : Bool → Nat → Option Sub | false, 13 => some ⟨f_spec_l1Do_i13c, f_spec_l1Do_i13v, f_spec_l1Do_i13e, f_spec_l1Do_i13⟩ | false, 30 => some ⟨f_spec_l1Do_i30c, f_spec_l1Do_i30v, f_spec_l1Do_i30e, f_spec_l1Do_i30⟩ | false, 28 => some ⟨f_spec_l1Do_i28c, f_spec_l1Do_i28v, f_spec_l1Do_i28e, f_spec_l1Do_i28⟩ | false, 26 => some ⟨f_spec_l1Do_i26c, f_spec_l1Do_i26v, f_spec_l1Do_i26e, f_spec_l1Do_i26⟩ | false, 24 => some ⟨f_spec_l1Do_i24c, f_spec_l1Do_i24v, f_spec_l1Do_i24e, f_spec_l1Do_i24⟩ | false, 22 => some ⟨f_spec_l1Do_i22c, f_spec_l1Do_i22v, f_spec_l1Do_i22e, f_spec_l1Do_i22⟩ | false, 20 => some ⟨f_spec_l1Do_i20c, f_spec_l1Do_i20v, f_spec_l1Do_i20e, f_spec_l1Do_i20⟩ | _, _ => none
theorem f_spec_l1Do_i17Eq (R : Type) (c : Vars f_spec_l1Do_i17c) (v : Vars f_spec_l1Do_i17v) (kk : Vars f_spec_l1Do_i17c → Oc f_spec_l1Do_i17e → Option R) : evC en34 su34i17 (ifAt 17 Tryd.f34) (Desc.mk2 f_spec_l1Do_i17v v (Desc.mk2 f_spec_l1Do_i17c c .empty)) (fun o => chk f_spec_l1Do_i17c f_spec_l1Do_i17e o kk) = f_spec_l1Do_i17 R c v kk := by kernel_rfl
theorem f_spec_l1Do_i17Ok {X : Cx} (hX : en34.lo = X.lo) : SubOk Tryd.prog X 212 ⟨f_spec_l1Do_i17c, f_spec_l1Do_i17v, f_spec_l1Do_i17e, f_spec_l1Do_i17⟩ (ifAt 17 Tryd.f34) :=
  sub_if (u := ⟨f_spec_l1Do_i17c, f_spec_l1Do_i17v, f_spec_l1Do_i17e, f_spec_l1Do_i17⟩) (subs := su34i17) ok34 rfl hX (GoodN.good (K := True) (Eq.mpr (show GoodN Tryd.prog X 212 en34 su34i17 (ifAt 17 Tryd.f34) True = (SubOk Tryd.prog X 212 ⟨f_spec_l1Do_i20c, f_spec_l1Do_i20v, f_spec_l1Do_i20e, f_spec_l1Do_i20⟩ (ifAt 20 Tryd.f34) ∧ True) by kernel_rfl) ⟨(f_spec_l1Do_i20Ok hX), trivial⟩)).1 (by decide) (by decide) f_spec_l1Do_i17Eq
theorem f_spec_l1DoEq (x : Ps ins34) : evF en34 su34 Tryd.f34 ins34 res34 x = f_spec_l1Do x := by kernel_rfl
theorem so34 : Sound Tryd.prog 34 sg34 :=
  sound_of (fn := Tryd.f34) (c := bodyOf Tryd.f34) (subs := su34) (E := en34) (by kernel_rfl) (by kernel_rfl) (by decide) ok34 (by kernel_rfl) (by kernel_rfl) (by decide)
    (fun X hX => (GoodN.good (K := True) (Eq.mpr (show GoodN Tryd.prog X 212 en34 su34 (bodyOf Tryd.f34) True = (SubOk Tryd.prog X 212 ⟨f_spec_l1Do_i13c, f_spec_l1Do_i13v, f_spec_l1Do_i13e, f_spec_l1Do_i13⟩ (ifAt 13 Tryd.f34) ∧ SubOk Tryd.prog X 212 ⟨f_spec_l1Do_i17c, f_spec_l1Do_i17v, f_spec_l1Do_i17e, f_spec_l1Do_i17⟩ (ifAt 17 Tryd.f34) ∧ True) by kernel_rfl) ⟨(f_spec_l1Do_i13Ok hX), (f_spec_l1Do_i17Ok hX), trivial⟩)).1)
    (fun x r h => (f_spec_l1DoEq x).trans h)
def fl21 : List (Nat × Sig) := [(22, sg22), (34, sg34), (35, sg35)]
def dw21 : List (Nat × List (List Nat × List Nat)) := [(3, [([2, 13], []), ([14], []), ([3, 15], []), ([14, 16], []), ([], []), ([], []), ([], []), ([6], []), ([6, 16], []), ([7], [])])]
def en21 : Env := { n := 25, ty := assocN tyL, fns := assocN fl21, lo := 0, draw := drawOf dw21 }
def su21 : Bool → Nat → Option Sub | _, _ => none
theorem ok21 : EnvOk Tryd.prog en21 := envOk_of rfl rfl tyL_ok (⟨so22, ⟨so34, ⟨so35, trivial⟩⟩⟩)
theorem dr21r3 {X : Cx} (hX : en21.lo = X.lo) : RegOk Tryd.prog X 25 en21 3 (regAt 3 Tryd.f21) := regOk_of ok21 rfl hX (by kernel_rfl) (by kernel_rfl)
theorem f_spec_DoDiskEq (x : Ps ins21) : evF en21 su21 Tryd.f21 ins21 res21 x = f_spec_DoDisk x := by kernel_rfl
theorem so21 : Sound Tryd.prog 21 sg21 :=
  sound_of (fn := Tryd.f21) (c := bodyOf Tryd.f21) (subs := su21) (E := en21) (by kernel_rfl) (by kernel_rfl) (by decide) ok21 (by kernel_rfl) (by kernel_rfl) (by decide)
    (fun X hX => (GoodN.good (K := True) (Eq.mpr (show GoodN Tryd.prog X 25 en21 su21 (bodyOf Tryd.f21) True = (RegOk Tryd.prog X 25 en21 3 (regAt 3 Tryd.f21) ∧ True) by kernel_rfl) ⟨(dr21r3 hX), trivial⟩)).1)
    (fun x r h => (f_spec_DoDiskEq x).trans h)
def fl55 : List (Nat × Sig) := []
def en55 : Env := { n := 15, ty := assocN tyL, fns := assocN fl55, lo := 0 }
def su55 : Bool → Nat → Option Sub | _, _ => none
theorem ok55 : EnvOk Tryd.prog en55 := envOk_of rfl rfl tyL_ok (trivial)
theorem f_impl_inEq (x : Ps ins55) : evF en55 su55 Tryd.f55 ins55 res55 x = f_impl_in x := by kernel_rfl
theorem so55 : Sound Tryd.prog 55 sg55 :=
  sound_of (fn := Tryd.f55) (c := bodyOf Tryd.f55) (subs := su55) (E := en55) (by kernel_rfl) (by kernel_rfl) (by decide) ok55 (by kernel_rfl) (by kernel_rfl) (by decide)
    (fun X hX => (GoodN.good (K := True) (Eq.mpr (show GoodN Tryd.prog X 15 en55 su55 (bodyOf Tryd.f55) True = (True) by kernel_rfl) trivial)).1)
    (fun x r h => (f_impl_inEq x).trans h)
def fl54 : List (Nat × Sig) := [(55, sg55)]
def en54 : Env := { n := 16, ty := assocN tyL, fns := assocN fl54, lo := 0 }
def su54 : Bool → Nat → Option Sub | _, _ => none
theorem ok54 : EnvOk Tryd.prog en54 := envOk_of rfl rfl tyL_ok (⟨so55, trivial⟩)
theorem f_impl_GoodDisk_1Eq (x : Ps ins54) : evF en54 su54 Tryd.f54 ins54 res54 x = f_impl_GoodDisk_1 x := by kernel_rfl
theorem so54 : Sound Tryd.prog 54 sg54 :=
  sound_of (fn := Tryd.f54) (c := bodyOf Tryd.f54) (subs := su54) (E := en54) (by kernel_rfl) (by kernel_rfl) (by decide) ok54 (by kernel_rfl) (by kernel_rfl) (by decide)
    (fun X hX => (GoodN.good (K := True) (Eq.mpr (show GoodN Tryd.prog X 16 en54 su54 (bodyOf Tryd.f54) True = (True) by kernel_rfl) trivial)).1)
    (fun x r h => (f_impl_GoodDisk_1Eq x).trans h)
def fl82 : List (Nat × Sig) := []
def en82 : Env := { n := 19, ty := assocN tyL, fns := assocN fl82, lo := 0 }
def su82 : Bool → Nat → Option Sub | true, 2 => some ⟨f_slices_IndexFunc_Blob_l2c, f_slices_IndexFunc_Blob_l2v, f_slices_IndexFunc_Blob_l2e, loopF f_slices_IndexFunc_Blob_l2⟩ | _, _ => none
theorem ok82 : EnvOk Tryd.prog en82 := envOk_of rfl rfl tyL_ok (trivial)
theorem f_slices_IndexFunc_Blob_l2Eq (R : Type) (c : Vars f_slices_IndexFunc_Blob_l2c) (v : Vars f_slices_IndexFunc_Blob_l2v) (kk : Vars f_slices_IndexFunc_Blob_l2c → (Vars f_slices_IndexFunc_Blob_l2v ⊕ Oc f_slices_IndexFunc_Blob_l2e) → Option R) : evC en82 su82 (loopAt 2 Tryd.f82) (Desc.mk2 f_slices_IndexFunc_Blob_l2v v (Desc.mk2 f_slices_IndexFunc_Blob_l2c c .empty)) (fun o => bodyK f_slices_IndexFunc_Blob_l2c f_slices_IndexFunc_Blob_l2v f_slices_IndexFunc_Blob_l2e o kk) = f_slices_IndexFunc_Blob_l2 R c v kk := by kernel_rfl
theorem f_slices_IndexFunc_Blob_l2Ok {X : Cx} (hX : en82.lo = X.lo) : SubOk Tryd.prog X 19 ⟨f_slices_IndexFunc_Blob_l2c, f_slices_IndexFunc_Blob_l2v, f_slices_IndexFunc_Blob_l2e, loopF f_slices_IndexFunc_Blob_l2⟩ (.loop (loopAt 2 Tryd.f82)) :=
  sub_loop (subs := su82) ok82 rfl hX (GoodN.good (K := True) (Eq.mpr (show GoodN Tryd.prog X 19 en82 su82 (loopAt 2 Tryd.f82) True = (True) by kernel_rfl) trivial)).1 (by decide) (by decide) f_slices_IndexFunc_Blob_l2Eq
theorem f_slices_IndexFunc_BlobEq (x : Ps ins82) : evF en82 su82 Tryd.f82 ins82 res82 x = f_slices_IndexFunc_Blob x := by kernel_rfl
theorem so82 : Sound Tryd.prog 82 sg82 :=
  sound_of (fn := Tryd.f82) (c := bodyOf Tryd.f82) (subs := su82) (E := en82) (by kernel_rfl) (by kernel_rfl) (by decide) ok82 (by kernel_rfl) (by kernel_rfl) (by decide)
    (fun X hX => (GoodN.good (K := True) (Eq.mpr (show GoodN Tryd.prog X 19 en82 su82 (bodyOf Tryd.f82) True = (SubOk Tryd.prog X 19 ⟨f_slices_IndexFunc_Blob_l2c, f_slices_IndexFunc_Blob_l2v, f_slices_IndexFunc_Blob_l2e, loopF f_slices_IndexFunc_Blob_l2⟩ (.loop (loopAt 2 Tryd.f82)) ∧ True) by kernel_rfl) ⟨(f_slices_IndexFunc_Blob_l2Ok hX), trivial⟩)).1)
    (fun x r h => (f_slices_IndexFunc_BlobEq x).trans h)
def fl53 : List (Nat × Sig) := [(82, sg82)]
def en53 : Env := { n := 9, ty := assocN tyL, fns := assocN fl53, lo := 0 }
def su53 : Bool → Nat → Option Sub | _, _ => none
theorem ok53 : EnvOk Tryd.prog en53 := envOk_of rfl rfl tyL_ok (⟨so82, trivial⟩)
theorem f_slices_ContainsFunc_BlobEq (x : Ps ins53) : evF en53 su53 Tryd.f53 ins53 res53 x = f_slices_ContainsFunc_Blob x := by kernel_rfl
theorem so53 : Sound Tryd.prog 53 sg53 :=
  sound_of (fn := Tryd.f53) (c := bodyOf Tryd.f53) (subs := su53) (E := en53) (by kernel_rfl) (by kernel_rfl) (by decide) ok53 (by kernel_rfl) (by kernel_rfl) (by decide)
    (fun X hX => (GoodN.good (K := True) (Eq.mpr (show GoodN Tryd.prog X 9 en53 su53 (bodyOf Tryd.f53) True = (True) by kernel_rfl) trivial)).1)
    (fun x r h => (f_slices_ContainsFunc_BlobEq x).trans h)
def fl76 : List (Nat × Sig) := [(55, sg55), (92, sgf_strings_Trim)]
def en76 : Env := { n := 11, ty := assocN tyL, fns := assocN fl76, lo := 0 }
def su76 : Bool → Nat → Option Sub | _, _ => none
theorem ok76 : EnvOk Tryd.prog en76 := envOk_of rfl rfl tyL_ok (⟨so55, ⟨soTrim, trivial⟩⟩)
theorem f_impl_isFileNameEq (x : Ps ins76) : evF en76 su76 Tryd.f76 ins76 res76 x = f_impl_isFileName x := by kernel_rfl
theorem so76 : Sound Tryd.prog 76 sg76 :=
  sound_of (fn := Tryd.f76) (c := bodyOf Tryd.f76) (subs := su76) (E := en76) (by kernel_rfl) (by kernel_rfl) (by decide) ok76 (by kernel_rfl) (by kernel_rfl) (by decide)
    (fun X hX => (GoodN.good (K := True) (Eq.mpr (show GoodN Tryd.prog X 11 en76 su76 (bodyOf Tryd.f76) True = (True) by kernel_rfl) trivial)).1)
    (fun x r h => (f_impl_isFileNameEq x).trans h)
def fl56r : List (Nat × Sig) := [(55, sg55), (76, sg76)]
def en56r : Env := { n := 49, ty := assocN tyL, fns := assocN fl56r, lo := 0 }
def su56r : Bool → Nat → Option Sub | true, 2 => some ⟨f_impl_Disk_namesOk_r_l2c, f_impl_Disk_namesOk_r_l2v, f_impl_Disk_namesOk_r_l2e, loopF f_impl_Disk_namesOk_r_l2⟩ | _, _ => none
theorem ok56r : EnvOk Tryd.prog en56r := envOk_of rfl rfl tyL_ok (⟨so55, ⟨so76, trivial⟩⟩)
theorem dr56rr4 {X : Cx} (hX : en56r.lo = X.lo) : RegOk Tryd.prog X 49 en56r 4 (regAt 4 Tryd.f56) := regOk_of ok56r rfl hX (by kernel_rfl) (by kernel_rfl)
theorem f_impl_Disk_namesOk_r_l2Eq (R : Type) (c : Vars f_impl_Disk_namesOk_r_l2c) (v : Vars f_impl_Disk_namesOk_r_l2v) (kk : Vars f_impl_Disk_namesOk_r_l2c → (Vars f_impl_Disk_namesOk_r_l2v ⊕ Oc f_impl_Disk_namesOk_r_l2e) → Option R) : evC en56r su56r (loopAt 2 Tryd.f56) (Desc.mk2 f_impl_Disk_namesOk_r_l2v v (Desc.mk2 f_impl_Disk_namesOk_r_l2c c .empty)) (fun o => bodyK f_impl_Disk_namesOk_r_l2c f_impl_Disk_namesOk_r_l2v f_impl_Disk_namesOk_r_l2e o kk) = f_impl_Disk_namesOk_r_l2 R c v kk := by kernel_rfl
theorem f_impl_Disk_namesOk_r_l2Ok {X : Cx} (hX : en56r.lo = X.lo) : SubOk Tryd.prog X 49 ⟨f_impl_Disk_namesOk_r_l2c, f_impl_Disk_namesOk_r_l2v, f_impl_Disk_namesOk_r_l2e, loopF f_impl_Disk_namesOk_r_l2⟩ (.loop (loopAt 2 Tryd.f56)) :=
  sub_loop (subs := su56r) ok56r rfl hX (GoodN.good (K := True) (Eq.mpr (show GoodN Tryd.prog X 49 en56r su56r (loopAt 2 Tryd.f56) True = (RegOk Tryd.prog X 49 en56r 4 (regAt 4 Tryd.f56) ∧ True) by kernel_rfl) ⟨(dr56rr4 hX), trivial⟩)).1 (by decide) (by decide) f_impl_Disk_namesOk_r_l2Eq
theorem f_impl_Disk_namesOk_rEq (x : Ps ins56r) : evF en56r su56r Tryd.f56 ins56r res56r x = f_impl_Disk_namesOk_r x := by kernel_rfl
theorem so56r : Sound Tryd.prog 56 sg56r :=
  sound_of (fn := Tryd.f56) (c := bodyOf Tryd.f56) (subs := su56r) (E := en56r) (by kernel_rfl) (by kernel_rfl) (by decide) ok56r (by kernel_rfl) (by kernel_rfl) (by decide)
    (fun X hX => (GoodN.good (K := True) (Eq.mpr (show GoodN Tryd.prog X 49 en56r su56r (bodyOf Tryd.f56) True = (SubOk Tryd.prog X 49 ⟨f_impl_Disk_namesOk_r_l2c, f_impl_Disk_namesOk_r_l2v, f_impl_Disk_namesOk_r_l2e, loopF f_impl_Disk_namesOk_r_l2⟩ (.loop (loopAt 2 Tryd.f56)) ∧ True) by kernel_rfl) ⟨(f_impl_Disk_namesOk_r_l2Ok hX), trivial⟩)).1)
    (fun x r h => (f_impl_Disk_namesOk_rEq x).trans h)
def fl23 : List (Nat × Sig) := [(53, sg53), (54, sg54), (55, sg55), (56, sg56r), (57, sgf_impl_Disk_used)]
def dw23 : List (Nat × List (List Nat × List Nat)) := [(4, [([20], []), ([21], []), ([22], []), ([], []), ([24], []), ([25], []), ([26], []), ([27], []), ([], []), ([29], []), ([30], []), ([31], []), ([32], []), ([33], []), ([2], [])])]
def en23 : Env := { n := 34, ty := assocN tyL, fns := assocN fl23, lo := 0, draw := drawOf dw23, frz := frzOf [(0, [1])] }
def su23 : Bool → Nat → Option Sub | _, _ => none
theorem ok23 : EnvOk Tryd.prog en23 := envOk_of rfl rfl tyL_ok (⟨so53, ⟨so54, ⟨so55, ⟨so56r, ⟨soUsed, trivial⟩⟩⟩⟩⟩)
theorem dr23r4 {X : Cx} (hX : en23.lo = X.lo) : RegOk Tryd.prog X 34 en23 4 (regAt 4 Tryd.f23) := regOk_of ok23 rfl hX (by kernel_rfl) (by kernel_rfl)
theorem f_impl_GoodDiskEq (x : Ps ins23) : evF en23 su23 Tryd.f23 ins23 res23 x = f_impl_GoodDisk x := by kernel_rfl
theorem so23 : Sound Tryd.prog 23 sg23 :=
  sound_of (fn := Tryd.f23) (c := bodyOf Tryd.f23) (subs := su23) (E := en23) (by kernel_rfl) (by kernel_rfl) (by decide) ok23 (by kernel_rfl) (by kernel_rfl) (by decide)
    (fun X hX => (GoodN.good (K := True) (Eq.mpr (show GoodN Tryd.prog X 34 en23 su23 (bodyOf Tryd.f23) True = (RegOk Tryd.prog X 34 en23 4 (regAt 4 Tryd.f23) ∧ True) by kernel_rfl) ⟨(dr23r4 hX), trivial⟩)).1)
    (fun x r h => (f_impl_GoodDiskEq x).trans h)
def fl85 : List (Nat × Sig) := []
def en85 : Env := { n := 8, ty := assocN tyL, fns := assocN fl85, lo := 0 }
def su85 : Bool → Nat → Option Sub | _, _ => none
theorem ok85 : EnvOk Tryd.prog en85 := envOk_of rfl rfl tyL_ok (trivial)
theorem f_impl_nameAt_1Eq (x : Ps ins85) : evF en85 su85 Tryd.f85 ins85 res85 x = f_impl_nameAt_1 x := by kernel_rfl
theorem so85 : Sound Tryd.prog 85 sg85 :=
  sound_of (fn := Tryd.f85) (c := bodyOf Tryd.f85) (subs := su85) (E := en85) (by kernel_rfl) (by kernel_rfl) (by decide) ok85 (by kernel_rfl) (by kernel_rfl) (by decide)
    (fun X hX => (GoodN.good (K := True) (Eq.mpr (show GoodN Tryd.prog X 8 en85 su85 (bodyOf Tryd.f85) True = (True) by kernel_rfl) trivial)).1)
    (fun x r h => (f_impl_nameAt_1Eq x).trans h)
def fl84 : List (Nat × Sig) := []
def en84 : Env := { n := 19, ty := assocN tyL, fns := assocN fl84, lo := 0 }
def su84 : Bool → Nat → Option Sub | true, 2 => some ⟨f_slices_IndexFunc_Name_l2c, f_slices_IndexFunc_Name_l2v, f_slices_IndexFunc_Name_l2e, loopF f_slices_IndexFunc_Name_l2⟩ | _, _ => none
theorem ok84 : EnvOk Tryd.prog en84 := envOk_of rfl rfl tyL_ok (trivial)
theorem f_slices_IndexFunc_Name_l2Eq (R : Type) (c : Vars f_slices_IndexFunc_Name_l2c) (v : Vars f_slices_IndexFunc_Name_l2v) (kk : Vars f_slices_IndexFunc_Name_l2c → (Vars f_slices_IndexFunc_Name_l2v ⊕ Oc f_slices_IndexFunc_Name_l2e) → Option R) : evC en84 su84 (loopAt 2 Tryd.f84) (Desc.mk2 f_slices_IndexFunc_Name_l2v v (Desc.mk2 f_slices_IndexFunc_Name_l2c c .empty)) (fun o => bodyK f_slices_IndexFunc_Name_l2c f_slices_IndexFunc_Name_l2v f_slices_IndexFunc_Name_l2e o kk) = f_slices_IndexFunc_Name_l2 R c v kk := by kernel_rfl
theorem f_slices_IndexFunc_Name_l2Ok {X : Cx} (hX : en84.lo = X.lo) : SubOk Tryd.prog X 19 ⟨f_slices_IndexFunc_Name_l2c, f_slices_IndexFunc_Name_l2v, f_slices_IndexFunc_Name_l2e, loopF f_slices_IndexFunc_Name_l2⟩ (.loop (loopAt 2 Tryd.f84)) :=
  sub_loop (subs := su84) ok84 rfl hX (GoodN.good (K := True) (Eq.mpr (show GoodN Tryd.prog X 19 en84 su84 (loopAt 2 Tryd.f84) True = (True) by kernel_rfl) trivial)).1 (by decide) (by decide) f_slices_IndexFunc_Name_l2Eq
theorem f_slices_IndexFunc_NameEq (x : Ps ins84) : evF en84 su84 Tryd.f84 ins84 res84 x = f_slices_IndexFunc_Name x := by kernel_rfl
theorem so84 : Sound Tryd.prog 84 sg84 :=
  sound_of (fn := Tryd.f84) (c := bodyOf Tryd.f84) (subs := su84) (E := en84) (by kernel_rfl) (by kernel_rfl) (by decide) ok84 (by kernel_rfl) (by kernel_rfl) (by decide)
    (fun X hX => (GoodN.good (K := True) (Eq.mpr (show GoodN Tryd.prog X 19 en84 su84 (bodyOf Tryd.f84) True = (SubOk Tryd.prog X 19 ⟨f_slices_IndexFunc_Name_l2c, f_slices_IndexFunc_Name_l2v, f_slices_IndexFunc_Name_l2e, loopF f_slices_IndexFunc_Name_l2⟩ (.loop (loopAt 2 Tryd.f84)) ∧ True) by kernel_rfl) ⟨(f_slices_IndexFunc_Name_l2Ok hX), trivial⟩)).1)
    (fun x r h => (f_slices_IndexFunc_NameEq x).trans h)
def fl58 : List (Nat × Sig) := [(84, sg84), (85, sg85)]
def en58 : Env := { n := 8, ty := assocN tyL, fns := assocN fl58, lo := 0 }
def su58 : Bool → Nat → Option Sub | _, _ => none
theorem ok58 : EnvOk Tryd.prog en58 := envOk_of rfl rfl tyL_ok (⟨so84, ⟨so85, trivial⟩⟩)
theorem f_impl_nameAtEq (x : Ps ins58) : evF en58 su58 Tryd.f58 ins58 res58 x = f_impl_nameAt x := by kernel_rfl
theorem so58 : Sound Tryd.prog 58 sg58 :=
  sound_of (fn := Tryd.f58) (c := bodyOf Tryd.f58) (subs := su58) (E := en58) (by kernel_rfl) (by kernel_rfl) (by decide) ok58 (by kernel_rfl) (by kernel_rfl) (by decide)
    (fun X hX => (GoodN.good (K := True) (Eq.mpr (show GoodN Tryd.prog X 8 en58 su58 (bodyOf Tryd.f58) True = (True) by kernel_rfl) trivial)).1)
    (fun x r h => (f_impl_nameAtEq x).trans h)
def fl47r : List (Nat × Sig) := [(55, sg55), (58, sg58), (76, sg76)]
def en47r : Env := { n := 106, ty := assocN tyL, fns := assocN fl47r, lo := 0 }
def su47r : Bool → Nat → Option Sub | _, _ => none
theorem ok47r : EnvOk Tryd.prog en47r := envOk_of rfl rfl tyL_ok (⟨so55, ⟨so58, ⟨so76, trivial⟩⟩⟩)
theorem dr47rr6 {X : Cx} (hX : en47r.lo = X.lo) : RegOk Tryd.prog X 106 en47r 6 (regAt 6 Tryd.f47) := regOk_of ok47r rfl hX (by kernel_rfl) (by kernel_rfl)
theorem dr47rr8 {X : Cx} (hX : en47r.lo = X.lo) : RegOk Tryd.prog X 106 en47r 8 (regAt 8 Tryd.f47) := regOk_of ok47r rfl hX (by kernel_rfl) (by kernel_rfl)
theorem f_impl_Disk_stepFault_rEq (x : Ps ins47r) : evF en47r su47r Tryd.f47 ins47r res47r x = f_impl_Disk_stepFault_r x := by kernel_rfl
theorem so47r : Sound Tryd.prog 47 sg47r :=
  sound_of (fn := Tryd.f47) (c := bodyOf Tryd.f47) (subs := su47r) (E := en47r) (by kernel_rfl) (by kernel_rfl) (by decide) ok47r (by kernel_rfl) (by kernel_rfl) (by decide)
    (fun X hX => (GoodN.good (K := True) (Eq.mpr (show GoodN Tryd.prog X 106 en47r su47r (bodyOf Tryd.f47) True = (RegOk Tryd.prog X 106 en47r 6 (regAt 6 Tryd.f47) ∧ RegOk Tryd.prog X 106 en47r 8 (regAt 8 Tryd.f47) ∧ True) by kernel_rfl) ⟨(dr47rr6 hX), (dr47rr8 hX), trivial⟩)).1)
    (fun x r h => (f_impl_Disk_stepFault_rEq x).trans h)
def fl77 : List (Nat × Sig) := []
def hi77 : List (Nat × (K × Mk)) := [(2, ((.sl kdBlob), (.o .s)))]
def en77 : Env := { n := 8, ty := assocN tyL, fns := assocN fl77, lo := 0, hint := assocN hi77 }
def su77 : Bool → Nat → Option Sub | _, _ => none
theorem ok77 : EnvOk Tryd.prog en77 := envOk_of rfl rfl tyL_ok (trivial)
theorem f_slices_Clone_BlobEq (x : Ps ins77) : evF en77 su77 Tryd.f77 ins77 res77 x = f_slices_Clone_Blob x := by kernel_rfl
theorem so77 : Sound Tryd.prog 77 sg77 :=
  sound_of (fn := Tryd.f77) (c := bodyOf Tryd.f77) (subs := su77) (E := en77) (by kernel_rfl) (by kernel_rfl) (by decide) ok77 (by kernel_rfl) (by kernel_rfl) (by decide)
    (fun X hX => (GoodN.good (K := True) (Eq.mpr (show GoodN Tryd.prog X 8 en77 su77 (bodyOf Tryd.f77) True = (True) by kernel_rfl) trivial)).1)
    (fun x r h => (f_slices_Clone_BlobEq x).trans h)
def fl78 : List (Nat × Sig) := []
def hi78 : List (Nat × (K × Mk)) := [(2, ((.sl kdBlob), (.o .s)))]
def en78 : Env := { n := 8, ty := assocN tyL, fns := assocN fl78, lo := 0, hint := assocN hi78 }
def su78 : Bool → Nat → Option Sub | _, _ => none
theorem ok78 : EnvOk Tryd.prog en78 := envOk_of rfl rfl tyL_ok (trivial)
theorem f_slices_Clone_NameEq (x : Ps ins78) : evF en78 su78 Tryd.f78 ins78 res78 x = f_slices_Clone_Name x := by kernel_rfl
theorem so78 : Sound Tryd.prog 78 sg78 :=
  sound_of (fn := Tryd.f78) (c := bodyOf Tryd.f78) (subs := su78) (E := en78) (by kernel_rfl) (by kernel_rfl) (by decide) ok78 (by kernel_rfl) (by kernel_rfl) (by decide)
    (fun X hX => (GoodN.good (K := True) (Eq.mpr (show GoodN Tryd.prog X 8 en78 su78 (bodyOf Tryd.f78) True = (True) by kernel_rfl) trivial)).1)
    (fun x r h => (f_slices_Clone_NameEq x).trans h)
def fl48 : List (Nat × Sig) := [(77, sg77), (78, sg78)]
def dw48 : List (Nat × List (List Nat × List Nat)) := [(1, [([1, 3], []), ([1, 4], []), ([5], []), ([1, 6], []), ([1, 7], []), ([8], []), ([1, 9], []), ([1, 10], []), ([11], []), ([1, 12], []), ([1, 5], []), ([1, 13], []), ([1, 8], []), ([1, 14], []), ([1, 11], [])])]
def en48 : Env := { n := 16, ty := assocN tyL, fns := assocN fl48, lo := 0, draw := drawOf dw48 }
def su48 : Bool → Nat → Option Sub | _, _ => none
theorem ok48 : EnvOk Tryd.prog en48 := envOk_of rfl rfl tyL_ok (⟨so77, ⟨so78, trivial⟩⟩)
theorem dr48r1 {X : Cx} (hX : en48.lo = X.lo) : RegOk Tryd.prog X 16 en48 1 (regAt 1 Tryd.f48) := regOk_of ok48 rfl hX (by kernel_rfl) (by kernel_rfl)
theorem f_impl_cloneDiskEq (x : Ps ins48) : evF en48 su48 Tryd.f48 ins48 res48 x = f_impl_cloneDisk x := by kernel_rfl
theorem so48 : Sound Tryd.prog 48 sg48 :=
  sound_of (fn := Tryd.f48) (c := bodyOf Tryd.f48) (subs := su48) (E := en48) (by kernel_rfl) (by kernel_rfl) (by decide) ok48 (by kernel_rfl) (by kernel_rfl) (by decide)
    (fun X hX => (GoodN.good (K := True) (Eq.mpr (show GoodN Tryd.prog X 16 en48 su48 (bodyOf Tryd.f48) True = (RegOk Tryd.prog X 16 en48 1 (regAt 1 Tryd.f48) ∧ True) by kernel_rfl) ⟨(dr48r1 hX), trivial⟩)).1)
    (fun x r h => (f_impl_cloneDiskEq x).trans h)
def fl79 : List (Nat × Sig) := [(58, sg58), (93, sgf_slices_Insert kdBlob)]
def en79 : Env := { n := 58, ty := assocN tyL, fns := assocN fl79, lo := 1 }
def su79 : Bool → Nat → Option Sub | true, 4 => some ⟨f_impl_Disk_mean_l4c, f_impl_Disk_mean_l4v, f_impl_Disk_mean_l4e, loopF f_impl_Disk_mean_l4⟩ | _, _ => none
theorem ok79 : EnvOk Tryd.prog en79 := envOk_of rfl rfl tyL_ok (⟨so58, ⟨soInsert93, trivial⟩⟩)
theorem f_impl_Disk_mean_l4Eq (R : Type) (c : Vars f_impl_Disk_mean_l4c) (v : Vars f_impl_Disk_mean_l4v) (kk : Vars f_impl_Disk_mean_l4c → (Vars f_impl_Disk_mean_l4v ⊕ Oc f_impl_Disk_mean_l4e) → Option R) : evC en79 su79 (loopAt 4 Tryd.f79) (Desc.mk2 f_impl_Disk_mean_l4v v (Desc.mk2 f_impl_Disk_mean_l4c c .empty)) (fun o => bodyK f_impl_Disk_mean_l4c f_impl_Disk_mean_l4v f_impl_Disk_mean_l4e o kk) = f_impl_Disk_mean_l4 R c v kk := by kernel_rfl
theorem f_impl_Disk_mean_l4Ok {X : Cx} (hX : en79.lo = X.lo) : SubOk Tryd.prog X 58 ⟨f_impl_Disk_mean_l4c, f_impl_Disk_mean_l4v, f_impl_Disk_mean_l4e, loopF f_impl_Disk_mean_l4⟩ (.loop (loopAt 4 Tryd.f79)) :=
  sub_loop (subs := su79) ok79 rfl hX (GoodN.good (K := True) (Eq.mpr (show GoodN Tryd.prog X 58 en79 su79 (loopAt 4 Tryd.f79) True = (True) by kernel_rfl) trivial)).1 (by decide) (by decide) f_impl_Disk_mean_l4Eq
theorem f_impl_Disk_meanEq (x : Ps ins79) : evF en79 su79 Tryd.f79 ins79 res79 x = f_impl_Disk_mean x := by kernel_rfl
theorem so79 : Sound Tryd.prog 79 sg79 :=
  sound_of (fn := Tryd.f79) (c := bodyOf Tryd.f79) (subs := su79) (E := en79) (by kernel_rfl) (by kernel_rfl) (by decide) ok79 (by kernel_rfl) (by kernel_rfl) (by decide)
    (fun X hX => (GoodN.good (K := True) (Eq.mpr (show GoodN Tryd.prog X 58 en79 su79 (bodyOf Tryd.f79) True = (SubOk Tryd.prog X 58 ⟨f_impl_Disk_mean_l4c, f_impl_Disk_mean_l4v, f_impl_Disk_mean_l4e, loopF f_impl_Disk_mean_l4⟩ (.loop (loopAt 4 Tryd.f79)) ∧ True) by kernel_rfl) ⟨(f_impl_Disk_mean_l4Ok hX), trivial⟩)).1)
    (fun x r h => (f_impl_Disk_meanEq x).trans h)
def fl80 : List (Nat × Sig) := [(58, sg58), (94, sgf_slices_Delete kdBlob)]
def en80 : Env := { n := 22, ty := assocN tyL, fns := assocN fl80, lo := 1 }
def su80 : Bool → Nat → Option Sub | _, _ => none
theorem ok80 : EnvOk Tryd.prog en80 := envOk_of rfl rfl tyL_ok (⟨so58, ⟨soDelete94, trivial⟩⟩)
theorem f_impl_Disk_forgetEq (x : Ps ins80) : evF en80 su80 Tryd.f80 ins80 res80 x = f_impl_Disk_forget x := by kernel_rfl
theorem so80 : Sound Tryd.prog 80 sg80 :=
  sound_of (fn := Tryd.f80) (c := bodyOf Tryd.f80) (subs := su80) (E := en80) (by kernel_rfl) (by kernel_rfl) (by decide) ok80 (by kernel_rfl) (by kernel_rfl) (by decide)
    (fun X hX => (GoodN.good (K := True) (Eq.mpr (show GoodN Tryd.prog X 22 en80 su80 (bodyOf Tryd.f80) True = (True) by kernel_rfl) trivial)).1)
    (fun x r h => (f_impl_Disk_forgetEq x).trans h)
def fl81 : List (Nat × Sig) := [(78, sg78)]
def en81 : Env := { n := 57, ty := assocN tyL, fns := assocN fl81, lo := 1 }
def su81 : Bool → Nat → Option Sub | true, 2 => some ⟨f_impl_Disk_crash_l2c, f_impl_Disk_crash_l2v, f_impl_Disk_crash_l2e, loopF f_impl_Disk_crash_l2⟩ | _, _ => none
theorem ok81 : EnvOk Tryd.prog en81 := envOk_of rfl rfl tyL_ok (⟨so78, trivial⟩)
theorem dr81r5 {X : Cx} (hX : en81.lo = X.lo) : RegOk Tryd.prog X 57 en81 5 (regAt 5 Tryd.f81) := regOk_of ok81 rfl hX (by kernel_rfl) (by kernel_rfl)
theorem f_impl_Disk_crash_l2Eq (R : Type) (c : Vars f_impl_Disk_crash_l2c) (v : Vars f_impl_Disk_crash_l2v) (kk : Vars f_impl_Disk_crash_l2c → (Vars f_impl_Disk_crash_l2v ⊕ Oc f_impl_Disk_crash_l2e) → Option R) : evC en81 su81 (loopAt 2 Tryd.f81) (Desc.mk2 f_impl_Disk_crash_l2v v (Desc.mk2 f_impl_Disk_crash_l2c c .empty)) (fun o => bodyK f_impl_Disk_crash_l2c f_impl_Disk_crash_l2v f_impl_Disk_crash_l2e o kk) = f_impl_Disk_crash_l2 R c v kk := by kernel_rfl
theorem f_impl_Disk_crash_l2Ok {X : Cx} (hX : en81.lo = X.lo) : SubOk Tryd.prog X 57 ⟨f_impl_Disk_crash_l2c, f_impl_Disk_crash_l2v, f_impl_Disk_crash_l2e, loopF f_impl_Disk_crash_l2⟩ (.loop (loopAt 2 Tryd.f81)) :=
  sub_loop (subs := su81) ok81 rfl hX (GoodN.good (K := True) (Eq.mpr (show GoodN Tryd.prog X 57 en81 su81 (loopAt 2 Tryd.f81) True = (RegOk Tryd.prog X 57 en81 5 (regAt 5 Tryd.f81) ∧ True) by kernel_rfl) ⟨(dr81r5 hX), trivial⟩)).1 (by decide) (by decide) f_impl_Disk_crash_l2Eq
theorem f_impl_Disk_crashEq (x : Ps ins81) : evF en81 su81 Tryd.f81 ins81 res81 x = f_impl_Disk_crash x := by kernel_rfl
theorem so81 : Sound Tryd.prog 81 sg81 :=
  sound_of (fn := Tryd.f81) (c := bodyOf Tryd.f81) (subs := su81) (E := en81) (by kernel_rfl) (by kernel_rfl) (by decide) ok81 (by kernel_rfl) (by kernel_rfl) (by decide)
    (fun X hX => (GoodN.good (K := True) (Eq.mpr (show GoodN Tryd.prog X 57 en81 su81 (bodyOf Tryd.f81) True = (SubOk Tryd.prog X 57 ⟨f_impl_Disk_crash_l2c, f_impl_Disk_crash_l2v, f_impl_Disk_crash_l2e, loopF f_impl_Disk_crash_l2⟩ (.loop (loopAt 2 Tryd.f81)) ∧ True) by kernel_rfl) ⟨(f_impl_Disk_crash_l2Ok hX), trivial⟩)).1)
    (fun x r h => (f_impl_Disk_crashEq x).trans h)
def fl49 : List (Nat × Sig) := [(58, sg58), (78, sg78), (79, sg79), (80, sg80), (81, sg81)]
def en49 : Env := { n := 125, ty := assocN tyL, fns := assocN fl49, lo := 1 }
def su49 : Bool → Nat → Option Sub | false, 4 => some ⟨f_impl_Disk_do_i4c, f_impl_Disk_do_i4v, f_impl_Disk_do_i4e, f_impl_Disk_do_i4⟩ | false, 15 => some ⟨f_impl_Disk_do_i15c, f_impl_Disk_do_i15v, f_impl_Disk_do_i15e, f_impl_Disk_do_i15⟩ | false, 24 => some ⟨f_impl_Disk_do_i24c, f_impl_Disk_do_i24v, f_impl_Disk_do_i24e, f_impl_Disk_do_i24⟩ | false, 22 => some ⟨f_impl_Disk_do_i22c, f_impl_Disk_do_i22v, f_impl_Disk_do_i22e, f_impl_Disk_do_i22⟩ | false, 20 => some ⟨f_impl_Disk_do_i20c, f_impl_Disk_do_i20v, f_impl_Disk_do_i20e, f_impl_Disk_do_i20⟩ | false, 18 => some ⟨f_impl_Disk_do_i18c, f_impl_Disk_do_i18v, f_impl_Disk_do_i18e, f_impl_Disk_do_i18⟩ | false, 14 => some ⟨f_impl_Disk_do_i14c, f_impl_Disk_do_i14v, f_impl_Disk_do_i14e, f_impl_Disk_do_i14⟩ | false, 12 => some ⟨f_impl_Disk_do_i12c, f_impl_Disk_do_i12v, f_impl_Disk_do_i12e, f_impl_Disk_do_i12⟩ | false, 10 => some ⟨f_impl_Disk_do_i10c, f_impl_Disk_do_i10v, f_impl_Disk_do_i10e, f_impl_Disk_do_i10⟩ | false, 7 => some ⟨f_impl_Disk_do_i7c, f_impl_Disk_do_i7v, f_impl_Disk_do_i7e, f_impl_Disk_do_i7⟩ | _, _ => none
theorem ok49 : EnvOk Tryd.prog en49 := envOk_of rfl rfl tyL_ok (⟨so58, ⟨so78, ⟨so79, ⟨so80, ⟨so81, trivial⟩⟩⟩⟩⟩)
theorem dr49r2 {X : Cx} (hX : en49.lo = X.lo) : RegOk Tryd.prog X 125 en49 2 (regAt 2 Tryd.f49) := regOk_of ok49 rfl hX (by kernel_rfl) (by kernel_rfl)
theorem dr49r8 {X : Cx} (hX : en49.lo = X.lo) : RegOk Tryd.prog X 125 en49 8 (regAt 8 Tryd.f49) := regOk_of ok49 rfl hX (by kernel_rfl) (by kernel_rfl)
theorem dr49r10 {X : Cx} (hX : en49.lo = X.lo) : RegOk Tryd.prog X 125 en49 10 (regAt 10 Tryd.f49) := regOk_of ok49 rfl hX (by kernel_rfl) (by kernel_rfl)
theorem dr49r12 {X : Cx} (hX : en49.lo = X.lo) : RegOk Tryd.prog X 125 en49 12 (regAt 12 Tryd.f49) := regOk_of ok49 rfl hX (by kernel_rfl) (by kernel_rfl)
def su49i4 : Bool → Nat → Option Sub | false, 15 => some ⟨f_impl_Disk_do_i15c, f_impl_Disk_do_i15v, f_impl_Disk_do_i15e, f_impl_Disk_do_i15⟩ | false, 24 => some ⟨f_impl_Disk_do_i24c, f_impl_Disk_do_i24v, f_impl_Disk_do_i24e, f_impl_Disk_do_i24⟩ | false, 22 => some ⟨f_impl_Disk_do_i22c, f_impl_Disk_do_i22v, f_impl_Disk_do_i22e, f_impl_Disk_do_i22⟩ | false, 20 => some ⟨f_impl_Disk_do_i20c, f_impl_Disk_do_i20v, f_impl_Disk_do_i20e, f_impl_Disk_do_i20⟩ | false, 18 => some ⟨f_impl_Disk_do_i18c, f_impl_Disk_do_i18v, f_impl_Disk_do_i18e, f_impl_Disk_do_i18⟩ | false, 14 => some ⟨f_impl_Disk_do_i14c, f_impl_Disk_do_i14v, f_impl_Disk_do_i14e, f_impl_Disk_do_i14⟩ | false, 12 => some ⟨f_impl_Disk_do_i12c, f_impl_Disk_do_i12v, f_impl_Disk_do_i12e, f_impl_Disk_do_i12⟩ | false, 10 => some ⟨f_impl_Disk_do_i10c, f_impl_Disk_do_i10v, f_impl_Disk_do_i10e, f_impl_Disk_do_i10⟩ | false, 7 => some ⟨f_impl_Disk_do_i7c, f_impl_Disk_do_i7v, f_impl_Disk_do_i7e, f_impl_Disk_do_i7⟩ | _, _ => none
theorem f_impl_Disk_do_i4Eq (R : Type) (c : Vars f_impl_Disk_do_i4c) (v : Vars f_impl_Disk_do_i4v) (kk : Vars f_impl_Disk_do_i4c → Oc f_impl_Disk_do_i4e → Option R) : evC en49 su49i4 (ifAt 4 Tryd.f49) (Desc.mk2 f_impl_Disk_do_i4v v (Desc.mk2 f_impl_Disk_do_i4c c .empty)) (fun o => chk f_impl_Disk_do_i4c f_impl_Disk_do_i4e o kk) = f_impl_Disk_do_i4 R c v kk := by kernel_rfl
theorem f_impl_Disk_do_i4Ok {X : Cx} (hX : en49.lo = X.lo) : SubOk Tryd.prog X 125 ⟨f_impl_Disk_do_i4c, f_impl_Disk_do_i4v, f_impl_Disk_do_i4e, f_impl_Disk_do_i4⟩ (ifAt 4 Tryd.f49) :=
  sub_if (u := ⟨f_impl_Disk_do_i4c, f_impl_Disk_do_i4v, f_impl_Disk_do_i4e, f_impl_Disk_do_i4⟩) (subs := su49i4) ok49 rfl hX (GoodN.good (K := True) (Eq.mpr (show GoodN Tryd.prog X 125 en49 su49i4 (ifAt 4 Tryd.f49) True = (True) by kernel_rfl) trivial)).1 (by decide) (by decide) f_impl_Disk_do_i4Eq
def su49i15 : Bool → Nat → Option Sub | false, 4 => some ⟨f_impl_Disk_do_i4c, f_impl_Disk_do_i4v, f_impl_Disk_do_i4e, f_impl_Disk_do_i4⟩ | false, 24 => some ⟨f_impl_Disk_do_i24c, f_impl_Disk_do_i24v, f_impl_Disk_do_i24e, f_impl_Disk_do_i24⟩ | false, 22 => some ⟨f_impl_Disk_do_i22c, f_impl_Disk_do_i22v, f_impl_Disk_do_i22e, f_impl_Disk_do_i22⟩ | false, 20 => some ⟨f_impl_Disk_do_i20c, f_impl_Disk_do_i20v, f_impl_Disk_do_i20e, f_impl_Disk_do_i20⟩ | false, 18 => some ⟨f_impl_Disk_do_i18c, f_impl_Disk_do_i18v, f_impl_Disk_do_i18e, f_impl_Disk_do_i18⟩ | false, 14 => some ⟨f_impl_Disk_do_i14c, f_impl_Disk_do_i14v, f_impl_Disk_do_i14e, f_impl_Disk_do_i14⟩ | false, 12 => some ⟨f_impl_Disk_do_i12c, f_impl_Disk_do_i12v, f_impl_Disk_do_i12e, f_impl_Disk_do_i12⟩ | false, 10 => some ⟨f_impl_Disk_do_i10c, f_impl_Disk_do_i10v, f_impl_Disk_do_i10e, f_impl_Disk_do_i10⟩ | false, 7 => some ⟨f_impl_Disk_do_i7c, f_impl_Disk_do_i7v, f_impl_Disk_do_i7e, f_impl_Disk_do_i7⟩ | _, _ => none
theorem f_impl_Disk_do_i15Eq (R : Type) (c : Vars f_impl_Disk_do_i15c) (v : Vars f_impl_Disk_do_i15v) (kk : Vars f_impl_Disk_do_i15c → Oc f_impl_Disk_do_i15e → Option R) : evC en49 su49i15 (ifAt 15 Tryd.f49) (Desc.mk2 f_impl_Disk_do_i15v v (Desc.mk2 f_impl_Disk_do_i15c c .empty)) (fun o => chk f_impl_Disk_do_i15c f_impl_Disk_do_i15e o kk) = f_impl_Disk_do_i15 R c v kk := by kernel_rfl
theorem f_impl_Disk_do_i15Ok {X : Cx} (hX : en49.lo = X.lo) : SubOk Tryd.prog X 125 ⟨f_impl_Disk_do_i15c, f_impl_Disk_do_i15v, f_impl_Disk_do_i15e, f_impl_Disk_do_i15⟩ (ifAt 15 Tryd.f49) :=
  sub_if (u := ⟨f_impl_Disk_do_i15c, f_impl_Disk_do_i15v, f_impl_Disk_do_i15e, f_impl_Disk_do_i15⟩) (subs := su49i15) ok49 rfl hX (GoodN.good (K := True) (Eq.mpr (show GoodN Tryd.prog X 125 en49 su49i15 (ifAt 15 Tryd.f49) True = (True) by kernel_rfl) trivial)).1 (by decide) (by decide) f_impl_Disk_do_i15Eq
def su49i24 : Bool → Nat → Option Sub | false, 4 => some ⟨f_impl_Disk_do_i4c, f_impl_Disk_do_i4v, f_impl_Disk_do_i4e, f_impl_Disk_do_i4⟩ | false, 15 => some ⟨f_impl_Disk_do_i15c, f_impl_Disk_do_i15v, f_impl_Disk_do_i15e, f_impl_Disk_do_i15⟩ | false, 22 => some ⟨f_impl_Disk_do_i22c, f_impl_Disk_do_i22v, f_impl_Disk_do_i22e, f_impl_Disk_do_i22⟩ | false, 20 => some ⟨f_impl_Disk_do_i20c, f_impl_Disk_do_i20v, f_impl_Disk_do_i20e, f_impl_Disk_do_i20⟩ | false, 18 => some ⟨f_impl_Disk_do_i18c, f_impl_Disk_do_i18v, f_impl_Disk_do_i18e, f_impl_Disk_do_i18⟩ | false, 14 => some ⟨f_impl_Disk_do_i14c, f_impl_Disk_do_i14v, f_impl_Disk_do_i14e, f_impl_Disk_do_i14⟩ | false, 12 => some ⟨f_impl_Disk_do_i12c, f_impl_Disk_do_i12v, f_impl_Disk_do_i12e, f_impl_Disk_do_i12⟩ | false, 10 => some ⟨f_impl_Disk_do_i10c, f_impl_Disk_do_i10v, f_impl_Disk_do_i10e, f_impl_Disk_do_i10⟩ | false, 7 => some ⟨f_impl_Disk_do_i7c, f_impl_Disk_do_i7v, f_impl_Disk_do_i7e, f_impl_Disk_do_i7⟩ | _, _ => none
theorem f_impl_Disk_do_i24Eq (R : Type) (c : Vars f_impl_Disk_do_i24c) (v : Vars f_impl_Disk_do_i24v) (kk : Vars f_impl_Disk_do_i24c → Oc f_impl_Disk_do_i24e → Option R) : evC en49 su49i24 (ifAt 24 Tryd.f49) (Desc.mk2 f_impl_Disk_do_i24v v (Desc.mk2 f_impl_Disk_do_i24c c .empty)) (fun o => chk f_impl_Disk_do_i24c f_impl_Disk_do_i24e o kk) = f_impl_Disk_do_i24 R c v kk := by kernel_rfl
theorem f_impl_Disk_do_i24Ok {X : Cx} (hX : en49.lo = X.lo) : SubOk Tryd.prog X 125 ⟨f_impl_Disk_do_i24c, f_impl_Disk_do_i24v, f_impl_Disk_do_i24e, f_impl_Disk_do_i24⟩ (ifAt 24 Tryd.f49) :=
  sub_if (u := ⟨f_impl_Disk_do_i24c, f_impl_Disk_do_i24v, f_impl_Disk_do_i24e, f_impl_Disk_do_i24⟩) (subs := su49i24) ok49 rfl hX (GoodN.good (K := True) (Eq.mpr (show GoodN Tryd.prog X 125 en49 su49i24 (ifAt 24 Tryd.f49) True = (True) by kernel_rfl) trivial)).1 (by decide) (by decide) f_impl_Disk_do_i24Eq
def su49i22 : Bool → Nat → Option Sub | false, 4 => some ⟨f_impl_Disk_do_i4c, f_impl_Disk_do_i4v, f_impl_Disk_do_i4e, f_impl_Disk_do_i4⟩ | false, 15 => some ⟨f_impl_Disk_do_i15c, f_impl_Disk_do_i15v, f_impl_Disk_do_i15e, f_impl_Disk_do_i15⟩ | false, 24 => some ⟨f_impl_Disk_do_i24c, f_impl_Disk_do_i24v, f_impl_Disk_do_i24e, f_impl_Disk_do_i24⟩ | false, 20 => some ⟨f_impl_Disk_do_i20c, f_impl_Disk_do_i20v, f_impl_Disk_do_i20e, f_impl_Disk_do_i20⟩ | false, 18 => some ⟨f_impl_Disk_do_i18c, f_impl_Disk_do_i18v, f_impl_Disk_do_i18e, f_impl_Disk_do_i18⟩ | false, 14 => some ⟨f_impl_Disk_do_i14c, f_impl_Disk_do_i14v, f_impl_Disk_do_i14e, f_impl_Disk_do_i14⟩ | false, 12 => some ⟨f_impl_Disk_do_i12c, f_impl_Disk_do_i12v, f_impl_Disk_do_i12e, f_impl_Disk_do_i12⟩ | false, 10 => some ⟨f_impl_Disk_do_i10c, f_impl_Disk_do_i10v, f_impl_Disk_do_i10e, f_impl_Disk_do_i10⟩ | false, 7 => some ⟨f_impl_Disk_do_i7c, f_impl_Disk_do_i7v, f_impl_Disk_do_i7e, f_impl_Disk_do_i7⟩ | _, _ => none
theorem f_impl_Disk_do_i22Eq (R : Type) (c : Vars f_impl_Disk_do_i22c) (v : Vars f_impl_Disk_do_i22v) (kk : Vars f_impl_Disk_do_i22c → Oc f_impl_Disk_do_i22e → Option R) : evC en49 su49i22 (ifAt 22 Tryd.f49) (Desc.mk2 f_impl_Disk_do_i22v v (Desc.mk2 f_impl_Disk_do_i22c c .empty)) (fun o => chk f_impl_Disk_do_i22c f_impl_Disk_do_i22e o kk) = f_impl_Disk_do_i22 R c v kk := by kernel_rfl
theorem f_impl_Disk_do_i22Ok {X : Cx} (hX : en49.lo = X.lo) : SubOk Tryd.prog X 125 ⟨f_impl_Disk_do_i22c, f_impl_Disk_do_i22v, f_impl_Disk_do_i22e, f_impl_Disk_do_i22⟩ (ifAt 22 Tryd.f49) :=
  sub_if (u := ⟨f_impl_Disk_do_i22c, f_impl_Disk_do_i22v, f_impl_Disk_do_i22e, f_impl_Disk_do_i22⟩) (subs := su49i22) ok49 rfl hX (GoodN.good (K := True) (Eq.mpr (show GoodN Tryd.prog X 125 en49 su49i22 (ifAt 22 Tryd.f49) True = (SubOk Tryd.prog X 125 ⟨f_impl_Disk_do_i24c, f_impl_Disk_do_i24v, f_impl_Disk_do_i24e, f_impl_Disk_do_i24⟩ (ifAt 24 Tryd.f49) ∧ True) by kernel_rfl) ⟨(f_impl_Disk_do_i24Ok hX), trivial⟩)).1 (by decide) (by decide) f_impl_Disk_do_i22Eq
def su49i20 : Bool → Nat → Option Sub | false, 4 => some ⟨f_impl_Disk_do_i4c, f_impl_Disk_do_i4v, f_impl_Disk_do_i4e, f_impl_Disk_do_i4⟩ | false, 15 => some ⟨f_impl_Disk_do_i15c, f_impl_Disk_do_i15v, f_impl_Disk_do_i15e, f_impl_Disk_do_i15⟩ | false, 24 => some ⟨f_impl_Disk_do_i24c, f_impl_Disk_do_i24v, f_impl_Disk_do_i24e, f_impl_Disk_do_i24⟩ | false, 22 => some ⟨f_impl_Disk_do_i22c, f_impl_Disk_do_i22v, f_impl_Disk_do_i22e, f_impl_Disk_do_i22⟩ | false, 18 => some ⟨f_impl_Disk_do_i18c, f_impl_Disk_do_i18v, f_impl_Disk_do_i18e, f_impl_Disk_do_i18⟩ | false, 14 => some ⟨f_impl_Disk_do_i14c, f_impl_Disk_do_i14v, f_impl_Disk_do_i14e, f_impl_Disk_do_i14⟩ | false, 12 => some ⟨f_impl_Disk_do_i12c, f_impl_Disk_do_i12v, f_impl_Disk_do_i12e, f_impl_Disk_do_i12⟩ | false, 10 => some ⟨f_impl_Disk_do_i10c, f_impl_Disk_do_i10v, f_impl_Disk_do_i10e, f_impl_Disk_do_i10⟩ | false, 7 => some ⟨f_impl_Disk_do_i7c, f_impl_Disk_do_i7v, f_impl_Disk_do_i7e, f_impl_Disk_do_i7⟩ | _, _ => none
theorem f_impl_Disk_do_i20Eq (R : Type) (c : Vars f_impl_Disk_do_i20c) (v : Vars f_impl_Disk_do_i20v) (kk : Vars f_impl_Disk_do_i20c → Oc f_impl_Disk_do_i20e → Option R) : evC en49 su49i20 (ifAt 20 Tryd.f49) (Desc.mk2 f_impl_Disk_do_i20v v (Desc.mk2 f_impl_Disk_do_i20c c .empty)) (fun o => chk f_impl_Disk_do_i20c f_impl_Disk_do_i20e o kk) = f_impl_Disk_do_i20 R c v kk := by kernel_rfl
theorem f_impl_Disk_do_i20Ok {X : Cx} (hX : en49.lo = X.lo) : SubOk Tryd.prog X 125 ⟨f_impl_Disk_do_i20c, f_impl_Disk_do_i20v, f_impl_Disk_do_i20e, f_impl_Disk_do_i20⟩ (ifAt 20 Tryd.f49) :=
  sub_if (u := ⟨f_impl_Disk_do_i20c, f_impl_Disk_do_i20v, f_impl_Disk_do_i20e, f_impl_Disk_do_i20⟩) (subs := su49i20) ok49 rfl hX (GoodN.good (K := True) (Eq.mpr (show GoodN Tryd.prog X 125 en49 su49i20 (ifAt 20 Tryd.f49) True = (SubOk Tryd.prog X 125 ⟨f_impl_Disk_do_i22c, f_impl_Disk_do_i22v, f_impl_Disk_do_i22e, f_impl_Disk_do_i22⟩ (ifAt 22 Tryd.f49) ∧ True) by kernel_rfl) ⟨(f_impl_Disk_do_i22Ok hX), trivial⟩)).1 (by decide) (by decide) f_impl_Disk_do_i20Eq
def su49i18 : Bool → Nat → Option Sub | false, 4 => some ⟨f_impl_Disk_do_i4c, f_impl_Disk_do_i4v, f_impl_Disk_do_i4e, f_impl_Disk_do_i4⟩ | false, 15 => some ⟨f_impl_Disk_do_i15c, f_impl_Disk_do_i15v, f_impl_Disk_do_i15e, f_impl_Disk_do_i15⟩ | false, 24 => some ⟨f_impl_Disk_do_i24c, f_impl_Disk_do_i24v, f_impl_Disk_do_i24e, f_impl_Disk_do_i24⟩ | false, 22 => some ⟨f_impl_Disk_do_i22c, f_impl_Disk_do_i22v, f_impl_Disk_do_i22e, f_impl_Disk_do_i22⟩ | false, 20 => some ⟨f_impl_Disk_do_i20c, f_impl_Disk_do_i20v, f_impl_Disk_do_i20e, f_impl_Disk_do_i20⟩ | false, 14 => some ⟨f_impl_Disk_do_i14c, f_impl_Disk_do_i14v, f_impl_Disk_do_i14e, f_impl_Disk_do_i14⟩ | false, 12 => some ⟨f_impl_Disk_do_i12c, f_impl_Disk_do_i12v, f_impl_Disk_do_i12e, f_impl_Disk_do_i12⟩ | false, 10 => some ⟨f_impl_Disk_do_i10c, f_impl_Disk_do_i10v, f_impl_Disk_do_i10e, f_impl_Disk_do_i10⟩ | false, 7 => some ⟨f_impl_Disk_do_i7c, f_impl_Disk_do_i7v, f_impl_Disk_do_i7e, f_impl_Disk_do_i7⟩ | _, _ => none
theorem f_impl_Disk_do_i18Eq (R : Type) (c : Vars f_impl_Disk_do_i18c) (v : Vars f_impl_Disk_do_i18v) (kk : Vars f_impl_Disk_do_i18c → Oc f_impl_Disk_do_i18e → Option R) : evC en49 su49i18 (ifAt 18 Tryd.f49) (Desc.mk2 f_impl_Disk_do_i18v v (Desc.mk2 f_impl_Disk_do_i18c c .empty)) (fun o => chk f_impl_Disk_do_i18c f_impl_Disk_do_i18e o kk) = f_impl_Disk_do_i18 R c v kk := by kernel_rfl
theorem f_impl_Disk_do_i18Ok {X : Cx} (hX : en49.lo = X.lo) : SubOk Tryd.prog X 125 ⟨f_impl_Disk_do_i18c, f_impl_Disk_do_i18v, f_impl_Disk_do_i18e, f_impl_Disk_do_i18⟩ (ifAt 18 Tryd.f49) :=
  sub_if (u := ⟨f_impl_Disk_do_i18c, f_impl_Disk_do_i18v, f_impl_Disk_do_i18e, f_impl_Disk_do_i18⟩) (subs := su49i18) ok49 rfl hX (GoodN.good (K := True) (Eq.mpr (show GoodN Tryd.prog X 125 en49 su49i18 (ifAt 18 Tryd.f49) True = (SubOk Tryd.prog X 125 ⟨f_impl_Disk_do_i20c, f_impl_Disk_do_i20v, f_impl_Disk_do_i20e, f_impl_Disk_do_i20⟩ (ifAt 20 Tryd.f49) ∧ True) by kernel_rfl) ⟨(f_impl_Disk_do_i20Ok hX), trivial⟩)).1 (by decide) (by decide) f_impl_Disk_do_i18Eq
def su49i14 : Bool → Nat → Option Sub | false, 4 => some ⟨f_impl_Disk_do_i4c, f_impl_Disk_do_i4v, f_impl_Disk_do_i4e, f_impl_Disk_do_i4⟩ | false, 15 => some ⟨f_impl_Disk_do_i15c, f_impl_Disk_do_i15v, f_impl_Disk_do_i15e, f_impl_Disk_do_i15⟩ | false, 24 => some ⟨f_impl_Disk_do_i24c, f_impl_Disk_do_i24v, f_impl_Disk_do_i24e, f_impl_Disk_do_i24⟩ | false, 22 => some ⟨f_impl_Disk_do_i22c, f_impl_Disk_do_i22v, f_impl_Disk_do_i22e, f_impl_Disk_do_i22⟩ | false, 20 => some ⟨f_impl_Disk_do_i20c, f_impl_Disk_do_i20v, f_impl_Disk_do_i20e, f_impl_Disk_do_i20⟩ | false, 18 => some ⟨f_impl_Disk_do_i18c, f_impl_Disk_do_i18v, f_impl_Disk_do_i18e, f_impl_Disk_do_i18⟩ | false, 12 => some ⟨f_impl_Disk_do_i12c, f_impl_Disk_do_i12v, f_impl_Disk_do_i12e, f_impl_Disk_do_i12⟩ | false, 10 => some ⟨f_impl_Disk_do_i10c, f_impl_Disk_do_i10v, f_impl_Disk_do_i10e, f_impl_Disk_do_i10⟩ | false, 7 => some ⟨f_impl_Disk_do_i7c, f_impl_Disk_do_i7v, f_impl_Disk_do_i7e, f_impl_Disk_do_i7⟩ | _, _ => none
theorem f_impl_Disk_do_i14Eq (R : Type) (c : Vars f_impl_Disk_do_i14c) (v : Vars f_impl_Disk_do_i14v) (kk : Vars f_impl_Disk_do_i14c → Oc f_impl_Disk_do_i14e → Option R) : evC en49 su49i14 (ifAt 14 Tryd.f49) (Desc.mk2 f_impl_Disk_do_i14v v (Desc.mk2 f_impl_Disk_do_i14c c .empty)) (fun o => chk f_impl_Disk_do_i14c f_impl_Disk_do_i14e o kk) = f_impl_Disk_do_i14 R c v kk := by kernel_rfl
theorem f_impl_Disk_do_i14Ok {X : Cx} (hX : en49.lo = X.lo) : SubOk Tryd.prog X 125 ⟨f_impl_Disk_do_i14c, f_impl_Disk_do_i14v, f_impl_Disk_do_i14e, f_impl_Disk_do_i14⟩ (ifAt 14 Tryd.f49) :=
  sub_if (u := ⟨f_impl_Disk_do_i14c, f_impl_Disk_do_i14v, f_impl_Disk_do_i14e, f_impl_Disk_do_i14⟩) (subs := su49i14) ok49 rfl hX (GoodN.good (K := True) (Eq.mpr (show GoodN Tryd.prog X 125 en49 su49i14 (ifAt 14 Tryd.f49) True = (SubOk Tryd.prog X 125 ⟨f_impl_Disk_do_i15c, f_impl_Disk_do_i15v, f_impl_Disk_do_i15e, f_impl_Disk_do_i15⟩ (ifAt 15 Tryd.f49) ∧ SubOk Tryd.prog X 125 ⟨f_impl_Disk_do_i18c, f_impl_Disk_do_i18v, f_impl_Disk_do_i18e, f_impl_Disk_do_i18⟩ (ifAt 18 Tryd.f49) ∧ True) by kernel_rfl) ⟨(f_impl_Disk_do_i15Ok hX), (f_impl_Disk_do_i18Ok hX), trivial⟩)).1 (by decide) (by decide) f_impl_Disk_do_i14Eq
def su49i12 : Bool → Nat → Option Sub | false, 4 => some ⟨f_impl_Disk_do_i4c, f_impl_Disk_do_i4v, f_impl_Disk_do_i4e, f_impl_Disk_do_i4⟩ | false, 15 => some ⟨f_impl_Disk_do_i15c, f_impl_Disk_do_i15v, f_impl_Disk_do_i15e, f_impl_Disk_do_i15⟩ | false, 24 => some ⟨f_impl_Disk_do_i24c, f_impl_Disk_do_i24v, f_impl_Disk_do_i24e, f_impl_Disk_do_i24⟩ | false, 22 => some ⟨f_impl_Disk_do_i22c, f_impl_Disk_do_i22v, f_impl_Disk_do_i22e, f_impl_Disk_do_i22⟩ | false, 20 => some ⟨f_impl_Disk_do_i20c, f_impl_Disk_do_i20v, f_impl_Disk_do_i20e, f_impl_Disk_do_i20⟩ | false, 18 => some ⟨f_impl_Disk_do_i18c, f_impl_Disk_do_i18v, f_impl_Disk_do_i18e, f_impl_Disk_do_i18⟩ | false, 14 => some ⟨f_impl_Disk_do_i14c, f_impl_Disk_do_i14v, f_impl_Disk_do_i14e, f_impl_Disk_do_i14⟩ | false, 10 => some ⟨f_impl_Disk_do_i10c, f_impl_Disk_do_i10v, f_impl_Disk_do_i10e, f_impl_Disk_do_i10⟩ | false, 7 => some ⟨f_impl_Disk_do_i7c, f_impl_Disk_do_i7v, f_impl_Disk_do_i7e, f_impl_Disk_do_i7⟩ | _, _ => none
theorem f_impl_Disk_do_i12Eq (R : Type) (c : Vars f_impl_Disk_do_i12c) (v : Vars f_impl_Disk_do_i12v) (kk : Vars f_impl_Disk_do_i12c → Oc f_impl_Disk_do_i12e → Option R) : evC en49 su49i12 (ifAt 12 Tryd.f49) (Desc.mk2 f_impl_Disk_do_i12v v (Desc.mk2 f_impl_Disk_do_i12c c .empty)) (fun o => chk f_impl_Disk_do_i12c f_impl_Disk_do_i12e o kk) = f_impl_Disk_do_i12 R c v kk := by kernel_rfl
theorem f_impl_Disk_do_i12Ok {X : Cx} (hX : en49.lo = X.lo) : SubOk Tryd.prog X 125 ⟨f_impl_Disk_do_i12c, f_impl_Disk_do_i12v, f_impl_Disk_do_i12e, f_impl_Disk_do_i12⟩ (ifAt 12 Tryd.f49) :=
  sub_if (u := ⟨f_impl_Disk_do_i12c, f_impl_Disk_do_i12v, f_impl_Disk_do_i12e, f_impl_Disk_do_i12⟩) (subs := su49i12) ok49 rfl hX (GoodN.good (K := True) (Eq.mpr (show GoodN Tryd.prog X 125 en49 su49i12 (ifAt 12 Tryd.f49) True = (RegOk Tryd.prog X 125 en49 12 (regAt 12 Tryd.f49) ∧ SubOk Tryd.prog X 125 ⟨f_impl_Disk_do_i14c, f_impl_Disk_do_i14v, f_impl_Disk_do_i14e, f_impl_Disk_do_i14⟩ (ifAt 14 Tryd.f49) ∧ True) by kernel_rfl) ⟨(dr49r12 hX), (f_impl_Disk_do_i14Ok hX), trivial⟩)).1 (by decide) (by decide) f_impl_Disk_do_i12Eq
def su49i10 : Bool → Nat → Option Sub | false, 4 => some ⟨f_impl_Disk_do_i4c, f_impl_Disk_do_i4v, f_impl_Disk_do_i4e, f_impl_Disk_do_i4⟩ | false, 15 => some ⟨f_impl_Disk_do_i15c, f_impl_Disk_do_i15v, f_impl_Disk_do_i15e, f_impl_Disk_do_i15⟩ | false, 24 => some ⟨f_impl_Disk_do_i24c, f_impl_Disk_do_i24v, f_impl_Disk_do_i24e, f_impl_Disk_do_i24⟩ | false, 22 => some ⟨f_impl_Disk_do_i22c, f_impl_Disk_do_i22v, f_impl_Disk_do_i22e, f_impl_Disk_do_i22⟩ | false, 20 => some ⟨f_impl_Disk_do_i20c, f_impl_Disk_do_i20v, f_impl_Disk_do_i20e, f_impl_Disk_do_i20⟩ | false, 18 => some ⟨f_impl_Disk_do_i18c, f_impl_Disk_do_i18v, f_impl_Disk_do_i18e, f_impl_Disk_do_i18⟩ | false, 14 => some ⟨f_impl_Disk_do_i14c, f_impl_Disk_do_i14v, f_impl_Disk_do_i14e, f_impl_Disk_do_i14⟩ | false, 12 => some ⟨f_impl_Disk_do_i12c, f_impl_Disk_do_i12v, f_impl_Disk_do_i12e, f_impl_Disk_do_i12⟩ | false, 7 => some ⟨f_impl_Disk_do_i7c, f_impl_Disk_do_i7v, f_impl_Disk_do_i7e, f_impl_Disk_do_i7⟩ | _, _ => none
theorem f_impl_Disk_do_i10Eq (R : Type) (c : Vars f_impl_Disk_do_i10c) (v : Vars f_impl_Disk_do_i10v) (kk : Vars f_impl_Disk_do_i10c → Oc f_impl_Disk_do_i10e → Option R) : evC en49 su49i10 (ifAt 10 Tryd.f49) (Desc.mk2 f_impl_Disk_do_i10v v (Desc.mk2 f_impl_Disk_do_i10c c .empty)) (fun o => chk f_impl_Disk_do_i10c f_impl_Disk_do_i10e o kk) = f_impl_Disk_do_i10 R c v kk := by kernel_rfl
theorem f_impl_Disk_do_i10Ok {X : Cx} (hX : en49.lo = X.lo) : SubOk Tryd.prog X 125 ⟨f_impl_Disk_do_i10c, f_impl_Disk_do_i10v, f_impl_Disk_do_i10e, f_impl_Disk_do_i10⟩ (ifAt 10 Tryd.f49) :=
  sub_if (u := ⟨f_impl_Disk_do_i10c, f_impl_Disk_do_i10v, f_impl_Disk_do_i10e, f_impl_Disk_do_i10⟩) (subs := su49i10) ok49 rfl hX (GoodN.good (K := True) (Eq.mpr (show GoodN Tryd.prog X 125 en49 su49i10 (ifAt 10 Tryd.f49) True = (RegOk Tryd.prog X 125 en49 10 (regAt 10 Tryd.f49) ∧ SubOk Tryd.prog X 125 ⟨f_impl_Disk_do_i12c, f_impl_Disk_do_i12v, f_impl_Disk_do_i12e, f_impl_Disk_do_i12⟩ (ifAt 12 Tryd.f49) ∧ True) by kernel_rfl) ⟨(dr49r10 hX), (f_impl_Disk_do_i12Ok hX), trivial⟩)).1 (by decide) (by decide) f_impl_Disk_do_i10Eq
def su49i7 : Bool → Nat → Option Sub | false, 4 => some ⟨f_impl_Disk_do_i4c, f_impl_Disk_do_i4v, f_impl_Disk_do_i4e, f_impl_Disk_do_i4⟩ | false, 15 => some ⟨f_impl_Disk_do_i15c, f_impl_Disk_do_i15v, f_impl_Disk_do_i15e, f_impl_Disk_do_i15⟩ | false, 24 => some ⟨f_impl_Disk_do_i24c, f_impl_Disk_do_i24v, f_impl_Disk_do_i24e, f_impl_Disk_do_i24⟩ | false, 22 => some ⟨f_impl_Disk_do_i22c, f_impl_Disk_do_i22v, f_impl_Disk_do_i22e, f_impl_Disk_do_i22⟩ | false, 20 => some ⟨f_impl_Disk_do_i20c, f_impl_Disk_do_i20v, f_impl_Disk_do_i20e, f_impl_Disk_do_i20⟩ | false, 18 => some ⟨f_impl_Disk_do_i18c, f_impl_Disk_do_i18v, f_impl_Disk_do_i18e, f_impl_Disk_do_i18⟩ | false, 14 => some ⟨f_impl_Disk_do_i14c, f_impl_Disk_do_i14v, f_impl_Disk_do_i14e, f_impl_Disk_do_i14⟩ | false, 12 => some ⟨f_impl_Disk_do_i12c, f_impl_Disk_do_i12v, f_impl_Disk_do_i12e, f_impl_Disk_do_i12⟩ | false, 10 => some ⟨f_impl_Disk_do_i10c, f_impl_Disk_do_i10v, f_impl_Disk_do_i10e, f_impl_Disk_do_i10⟩ | _, _ => none
theorem f_impl_Disk_do_i7Eq (R : Type) (c : Vars f_impl_Disk_do_i7c) (v : Vars f_impl_Disk_do_i7v) (kk : Vars f_impl_Disk_do_i7c → Oc f_impl_Disk_do_i7e → Option R) : evC en49 su49i7 (ifAt 7 Tryd.f49) (Desc.mk2 f_impl_Disk_do_i7v v (Desc.mk2 f_impl_Disk_do_i7c c .empty)) (fun o => chk f_impl_Disk_do_i7c f_impl_Disk_do_i7e o kk) = f_impl_Disk_do_i7 R c v kk := by kernel_rfl
theorem f_impl_Disk_do_i7Ok {X : Cx} (hX : en49.lo = X.lo) : SubOk Tryd.prog X 125 ⟨f_impl_Disk_do_i7c, f_impl_Disk_do_i7v, f_impl_Disk_do_i7e, f_impl_Disk_do_i7⟩ (ifAt 7 Tryd.f49) :=
  sub_if (u := ⟨f_impl_Disk_do_i7c, f_impl_Disk_do_i7v, f_impl_Disk_do_i7e, f_impl_Disk_do_i7⟩) (subs := su49i7) ok49 rfl hX (GoodN.good (K := True) (Eq.mpr (show GoodN Tryd.prog X 125 en49 su49i7 (ifAt 7 Tryd.f49) True = (RegOk Tryd.prog X 125 en49 8 (regAt 8 Tryd.f49) ∧ SubOk Tryd.prog X 125 ⟨f_impl_Disk_do_i10c, f_impl_Disk_do_i10v, f_impl_Disk_do_i10e, f_impl_Disk_do_i10⟩ (ifAt 10 Tryd.f49) ∧ True) by kernel_rfl) ⟨(dr49r8 hX), (f_impl_Disk_do_i10Ok hX), trivial⟩)).1 (by decide) (by decide) f_impl_Disk_do_i7Eq
theorem f_impl_Disk_doEq (x : Ps ins49) : evF en49 su49 Tryd.f49 ins49 res49 x = f_impl_Disk_do x := by kernel_rfl
theorem so49 : Sound Tryd.prog 49 sg49 :=
  sound_of (fn := Tryd.f49) (c := bodyOf Tryd.f49) (subs := su49) (E := en49) (by kernel_rfl) (by kernel_rfl) (by decide) ok49 (by kernel_rfl) (by kernel_rfl) (by decide)
    (fun X hX => (GoodN.good (K := True) (Eq.mpr (show GoodN Tryd.prog X 125 en49 su49 (bodyOf Tryd.f49) True = (RegOk Tryd.prog X 125 en49 2 (regAt 2 Tryd.f49) ∧ SubOk Tryd.prog X 125 ⟨f_impl_Disk_do_i4c, f_impl_Disk_do_i4v, f_impl_Disk_do_i4e, f_impl_Disk_do_i4⟩ (ifAt 4 Tryd.f49) ∧ SubOk Tryd.prog X 125 ⟨f_impl_Disk_do_i7c, f_impl_Disk_do_i7v, f_impl_Disk_do_i7e, f_impl_Disk_do_i7⟩ (ifAt 7 Tryd.f49) ∧ True) by kernel_rfl) ⟨(dr49r2 hX), (f_impl_Disk_do_i4Ok hX), (f_impl_Disk_do_i7Ok hX), trivial⟩)).1)
    (fun x r h => (f_impl_Disk_doEq x).trans h)
def fl20 : List (Nat × Sig) := [(23, sg23), (47, sg47r), (48, sg48), (49, sg49)]
def en20 : Env := { n := 29, ty := assocN tyL, fns := assocN fl20, lo := 0, frz := frzOf [(0, [2])] }
def su20 : Bool → Nat → Option Sub | _, _ => none
theorem ok20 : EnvOk Tryd.prog en20 := envOk_of rfl rfl tyL_ok (⟨so23, ⟨so47r, ⟨so48, ⟨so49, trivial⟩⟩⟩⟩)
theorem f_impl_DoDiskEq (x : Ps ins20) : evF en20 su20 Tryd.f20 ins20 res20 x = f_impl_DoDisk x := by kernel_rfl
theorem so20 : Sound Tryd.prog 20 sg20 :=
  sound_of (fn := Tryd.f20) (c := bodyOf Tryd.f20) (subs := su20) (E := en20) (by kernel_rfl) (by kernel_rfl) (by decide) ok20 (by kernel_rfl) (by kernel_rfl) (by decide)
    (fun X hX => (GoodN.good (K := True) (Eq.mpr (show GoodN Tryd.prog X 29 en20 su20 (bodyOf Tryd.f20) True = (True) by kernel_rfl) trivial)).1)
    (fun x r h => (f_impl_DoDiskEq x).trans h)
def fl68 : List (Nat × Sig) := []
def en68 : Env := { n := 15, ty := assocN tyL, fns := assocN fl68, lo := 0 }
def su68 : Bool → Nat → Option Sub | _, _ => none
theorem ok68 : EnvOk Tryd.prog en68 := envOk_of rfl rfl tyL_ok (trivial)
theorem f_laws_eqBlobEq (x : Ps ins68) : evF en68 su68 Tryd.f68 ins68 res68 x = f_laws_eqBlob x := by kernel_rfl
theorem so68 : Sound Tryd.prog 68 sg68 :=
  sound_of (fn := Tryd.f68) (c := bodyOf Tryd.f68) (subs := su68) (E := en68) (by kernel_rfl) (by kernel_rfl) (by decide) ok68 (by kernel_rfl) (by kernel_rfl) (by decide)
    (fun X hX => (GoodN.good (K := True) (Eq.mpr (show GoodN Tryd.prog X 15 en68 su68 (bodyOf Tryd.f68) True = (True) by kernel_rfl) trivial)).1)
    (fun x r h => (f_laws_eqBlobEq x).trans h)
def fl37 : List (Nat × Sig) := [(68, sg68)]
def en37 : Env := { n := 27, ty := assocN tyL, fns := assocN fl37, lo := 0 }
def su37 : Bool → Nat → Option Sub | true, 4 => some ⟨f_laws_eqBlobS_l4c, f_laws_eqBlobS_l4v, f_laws_eqBlobS_l4e, loopF f_laws_eqBlobS_l4⟩ | _, _ => none
theorem ok37 : EnvOk Tryd.prog en37 := envOk_of rfl rfl tyL_ok (⟨so68, trivial⟩)
theorem dr37r6 {X : Cx} (hX : en37.lo = X.lo) : RegOk Tryd.prog X 27 en37 6 (regAt 6 Tryd.f37) := regOk_of ok37 rfl hX (by kernel_rfl) (by kernel_rfl)
theorem f_laws_eqBlobS_l4Eq (R : Type) (c : Vars f_laws_eqBlobS_l4c) (v : Vars f_laws_eqBlobS_l4v) (kk : Vars f_laws_eqBlobS_l4c → (Vars f_laws_eqBlobS_l4v ⊕ Oc f_laws_eqBlobS_l4e) → Option R) : evC en37 su37 (loopAt 4 Tryd.f37) (Desc.mk2 f_laws_eqBlobS_l4v v (Desc.mk2 f_laws_eqBlobS_l4c c .empty)) (fun o => bodyK f_laws_eqBlobS_l4c f_laws_eqBlobS_l4v f_laws_eqBlobS_l4e o kk) = f_laws_eqBlobS_l4 R c v kk := by kernel_rfl
theorem f_laws_eqBlobS_l4Ok {X : Cx} (hX : en37.lo = X.lo) : SubOk Tryd.prog X 27 ⟨f_laws_eqBlobS_l4c, f_laws_eqBlobS_l4v, f_laws_eqBlobS_l4e, loopF f_laws_eqBlobS_l4⟩ (.loop (loopAt 4 Tryd.f37)) :=
  sub_loop (subs := su37) ok37 rfl hX (GoodN.good (K := True) (Eq.mpr (show GoodN Tryd.prog X 27 en37 su37 (loopAt 4 Tryd.f37) True = (RegOk Tryd.prog X 27 en37 6 (regAt 6 Tryd.f37) ∧ True) by kernel_rfl) ⟨(dr37r6 hX), trivial⟩)).1 (by decide) (by decide) f_laws_eqBlobS_l4Eq
theorem f_laws_eqBlobSEq (x : Ps ins37) : evF en37 su37 Tryd.f37 ins37 res37 x = f_laws_eqBlobS x := by kernel_rfl
theorem so37 : Sound Tryd.prog 37 sg37 :=
  sound_of (fn := Tryd.f37) (c := bodyOf Tryd.f37) (subs := su37) (E := en37) (by kernel_rfl) (by kernel_rfl) (by decide) ok37 (by kernel_rfl) (by kernel_rfl) (by decide)
    (fun X hX => (GoodN.good (K := True) (Eq.mpr (show GoodN Tryd.prog X 27 en37 su37 (bodyOf Tryd.f37) True = (SubOk Tryd.prog X 27 ⟨f_laws_eqBlobS_l4c, f_laws_eqBlobS_l4v, f_laws_eqBlobS_l4e, loopF f_laws_eqBlobS_l4⟩ (.loop (loopAt 4 Tryd.f37)) ∧ True) by kernel_rfl) ⟨(f_laws_eqBlobS_l4Ok hX), trivial⟩)).1)
    (fun x r h => (f_laws_eqBlobSEq x).trans h)
def fl69 : List (Nat × Sig) := []
def en69 : Env := { n := 15, ty := assocN tyL, fns := assocN fl69, lo := 0 }
def su69 : Bool → Nat → Option Sub | _, _ => none
theorem ok69 : EnvOk Tryd.prog en69 := envOk_of rfl rfl tyL_ok (trivial)
theorem f_laws_eqNameEq (x : Ps ins69) : evF en69 su69 Tryd.f69 ins69 res69 x = f_laws_eqName x := by kernel_rfl
theorem so69 : Sound Tryd.prog 69 sg69 :=
  sound_of (fn := Tryd.f69) (c := bodyOf Tryd.f69) (subs := su69) (E := en69) (by kernel_rfl) (by kernel_rfl) (by decide) ok69 (by kernel_rfl) (by kernel_rfl) (by decide)
    (fun X hX => (GoodN.good (K := True) (Eq.mpr (show GoodN Tryd.prog X 15 en69 su69 (bodyOf Tryd.f69) True = (True) by kernel_rfl) trivial)).1)
    (fun x r h => (f_laws_eqNameEq x).trans h)
def fl38 : List (Nat × Sig) := [(69, sg69)]
def en38 : Env := { n := 27, ty := assocN tyL, fns := assocN fl38, lo := 0 }
def su38 : Bool → Nat → Option Sub | true, 4 => some ⟨f_laws_eqNameS_l4c, f_laws_eqNameS_l4v, f_laws_eqNameS_l4e, loopF f_laws_eqNameS_l4⟩ | _, _ => none
theorem ok38 : EnvOk Tryd.prog en38 := envOk_of rfl rfl tyL_ok (⟨so69, trivial⟩)
theorem dr38r6 {X : Cx} (hX : en38.lo = X.lo) : RegOk Tryd.prog X 27 en38 6 (regAt 6 Tryd.f38) := regOk_of ok38 rfl hX (by kernel_rfl) (by kernel_rfl)
theorem f_laws_eqNameS_l4Eq (R : Type) (c : Vars f_laws_eqNameS_l4c) (v : Vars f_laws_eqNameS_l4v) (kk : Vars f_laws_eqNameS_l4c → (Vars f_laws_eqNameS_l4v ⊕ Oc f_laws_eqNameS_l4e) → Option R) : evC en38 su38 (loopAt 4 Tryd.f38) (Desc.mk2 f_laws_eqNameS_l4v v (Desc.mk2 f_laws_eqNameS_l4c c .empty)) (fun o => bodyK f_laws_eqNameS_l4c f_laws_eqNameS_l4v f_laws_eqNameS_l4e o kk) = f_laws_eqNameS_l4 R c v kk := by kernel_rfl
theorem f_laws_eqNameS_l4Ok {X : Cx} (hX : en38.lo = X.lo) : SubOk Tryd.prog X 27 ⟨f_laws_eqNameS_l4c, f_laws_eqNameS_l4v, f_laws_eqNameS_l4e, loopF f_laws_eqNameS_l4⟩ (.loop (loopAt 4 Tryd.f38)) :=
  sub_loop (subs := su38) ok38 rfl hX (GoodN.good (K := True) (Eq.mpr (show GoodN Tryd.prog X 27 en38 su38 (loopAt 4 Tryd.f38) True = (RegOk Tryd.prog X 27 en38 6 (regAt 6 Tryd.f38) ∧ True) by kernel_rfl) ⟨(dr38r6 hX), trivial⟩)).1 (by decide) (by decide) f_laws_eqNameS_l4Eq
theorem f_laws_eqNameSEq (x : Ps ins38) : evF en38 su38 Tryd.f38 ins38 res38 x = f_laws_eqNameS x := by kernel_rfl
theorem so38 : Sound Tryd.prog 38 sg38 :=
  sound_of (fn := Tryd.f38) (c := bodyOf Tryd.f38) (subs := su38) (E := en38) (by kernel_rfl) (by kernel_rfl) (by decide) ok38 (by kernel_rfl) (by kernel_rfl) (by decide)
    (fun X hX => (GoodN.good (K := True) (Eq.mpr (show GoodN Tryd.prog X 27 en38 su38 (bodyOf Tryd.f38) True = (SubOk Tryd.prog X 27 ⟨f_laws_eqNameS_l4c, f_laws_eqNameS_l4v, f_laws_eqNameS_l4e, loopF f_laws_eqNameS_l4⟩ (.loop (loopAt 4 Tryd.f38)) ∧ True) by kernel_rfl) ⟨(f_laws_eqNameS_l4Ok hX), trivial⟩)).1)
    (fun x r h => (f_laws_eqNameSEq x).trans h)
def fl11 : List (Nat × Sig) := [(37, sg37), (38, sg38)]
def en11 : Env := { n := 28, ty := assocN tyL, fns := assocN fl11, lo := 0 }
def su11 : Bool → Nat → Option Sub | _, _ => none
theorem ok11 : EnvOk Tryd.prog en11 := envOk_of rfl rfl tyL_ok (⟨so37, ⟨so38, trivial⟩⟩)
theorem f_laws_eqDiskEq (x : Ps ins11) : evF en11 su11 Tryd.f11 ins11 res11 x = f_laws_eqDisk x := by kernel_rfl
theorem so11 : Sound Tryd.prog 11 sg11 :=
  sound_of (fn := Tryd.f11) (c := bodyOf Tryd.f11) (subs := su11) (E := en11) (by kernel_rfl) (by kernel_rfl) (by decide) ok11 (by kernel_rfl) (by kernel_rfl) (by decide)
    (fun X hX => (GoodN.good (K := True) (Eq.mpr (show GoodN Tryd.prog X 28 en11 su11 (bodyOf Tryd.f11) True = (True) by kernel_rfl) trivial)).1)
    (fun x r h => (f_laws_eqDiskEq x).trans h)
def fl40 : List (Nat × Sig) := []
def en40 : Env := { n := 20, ty := assocN tyL, fns := assocN fl40, lo := 0 }
def su40 : Bool → Nat → Option Sub | true, 4 => some ⟨f_laws_markText_l4c, f_laws_markText_l4v, f_laws_markText_l4e, loopF f_laws_markText_l4⟩ | _, _ => none
theorem ok40 : EnvOk Tryd.prog en40 := envOk_of rfl rfl tyL_ok (trivial)
theorem f_laws_markText_l4Eq (R : Type) (c : Vars f_laws_markText_l4c) (v : Vars f_laws_markText_l4v) (kk : Vars f_laws_markText_l4c → (Vars f_laws_markText_l4v ⊕ Oc f_laws_markText_l4e) → Option R) : evC en40 su40 (loopAt 4 Tryd.f40) (Desc.mk2 f_laws_markText_l4v v (Desc.mk2 f_laws_markText_l4c c .empty)) (fun o => bodyK f_laws_markText_l4c f_laws_markText_l4v f_laws_markText_l4e o kk) = f_laws_markText_l4 R c v kk := by kernel_rfl
theorem f_laws_markText_l4Ok {X : Cx} (hX : en40.lo = X.lo) : SubOk Tryd.prog X 20 ⟨f_laws_markText_l4c, f_laws_markText_l4v, f_laws_markText_l4e, loopF f_laws_markText_l4⟩ (.loop (loopAt 4 Tryd.f40)) :=
  sub_loop (subs := su40) ok40 rfl hX (GoodN.good (K := True) (Eq.mpr (show GoodN Tryd.prog X 20 en40 su40 (loopAt 4 Tryd.f40) True = (True) by kernel_rfl) trivial)).1 (by decide) (by decide) f_laws_markText_l4Eq
theorem f_laws_markTextEq (x : Ps ins40) : evF en40 su40 Tryd.f40 ins40 res40 x = f_laws_markText x := by kernel_rfl
theorem so40 : Sound Tryd.prog 40 sg40 :=
  sound_of (fn := Tryd.f40) (c := bodyOf Tryd.f40) (subs := su40) (E := en40) (by kernel_rfl) (by kernel_rfl) (by decide) ok40 (by kernel_rfl) (by kernel_rfl) (by decide)
    (fun X hX => (GoodN.good (K := True) (Eq.mpr (show GoodN Tryd.prog X 20 en40 su40 (bodyOf Tryd.f40) True = (SubOk Tryd.prog X 20 ⟨f_laws_markText_l4c, f_laws_markText_l4v, f_laws_markText_l4e, loopF f_laws_markText_l4⟩ (.loop (loopAt 4 Tryd.f40)) ∧ True) by kernel_rfl) ⟨(f_laws_markText_l4Ok hX), trivial⟩)).1)
    (fun x r h => (f_laws_markTextEq x).trans h)
def fl41 : List (Nat × Sig) := [(40, sg40)]
def en41 : Env := { n := 28, ty := assocN tyL, fns := assocN fl41, lo := 1 }
def su41 : Bool → Nat → Option Sub | true, 2 => some ⟨f_laws_markBlobS_l2c, f_laws_markBlobS_l2v, f_laws_markBlobS_l2e, loopF f_laws_markBlobS_l2⟩ | _, _ => none
theorem ok41 : EnvOk Tryd.prog en41 := envOk_of rfl rfl tyL_ok (⟨so40, trivial⟩)
theorem f_laws_markBlobS_l2Eq (R : Type) (c : Vars f_laws_markBlobS_l2c) (v : Vars f_laws_markBlobS_l2v) (kk : Vars f_laws_markBlobS_l2c → (Vars f_laws_markBlobS_l2v ⊕ Oc f_laws_markBlobS_l2e) → Option R) : evC en41 su41 (loopAt 2 Tryd.f41) (Desc.mk2 f_laws_markBlobS_l2v v (Desc.mk2 f_laws_markBlobS_l2c c .empty)) (fun o => bodyK f_laws_markBlobS_l2c f_laws_markBlobS_l2v f_laws_markBlobS_l2e o kk) = f_laws_markBlobS_l2 R c v kk := by kernel_rfl
theorem f_laws_markBlobS_l2Ok {X : Cx} (hX : en41.lo = X.lo) : SubOk Tryd.prog X 28 ⟨f_laws_markBlobS_l2c, f_laws_markBlobS_l2v, f_laws_markBlobS_l2e, loopF f_laws_markBlobS_l2⟩ (.loop (loopAt 2 Tryd.f41)) :=
  sub_loop (subs := su41) ok41 rfl hX (GoodN.good (K := True) (Eq.mpr (show GoodN Tryd.prog X 28 en41 su41 (loopAt 2 Tryd.f41) True = (True) by kernel_rfl) trivial)).1 (by decide) (by decide) f_laws_markBlobS_l2Eq
theorem f_laws_markBlobSEq (x : Ps ins41) : evF en41 su41 Tryd.f41 ins41 res41 x = f_laws_markBlobS x := by kernel_rfl
theorem so41 : Sound Tryd.prog 41 sg41 :=
  sound_of (fn := Tryd.f41) (c := bodyOf Tryd.f41) (subs := su41) (E := en41) (by kernel_rfl) (by kernel_rfl) (by decide) ok41 (by kernel_rfl) (by kernel_rfl) (by decide)
    (fun X hX => (GoodN.good (K := True) (Eq.mpr (show GoodN Tryd.prog X 28 en41 su41 (bodyOf Tryd.f41) True = (SubOk Tryd.prog X 28 ⟨f_laws_markBlobS_l2c, f_laws_markBlobS_l2v, f_laws_markBlobS_l2e, loopF f_laws_markBlobS_l2⟩ (.loop (loopAt 2 Tryd.f41)) ∧ True) by kernel_rfl) ⟨(f_laws_markBlobS_l2Ok hX), trivial⟩)).1)
    (fun x r h => (f_laws_markBlobSEq x).trans h)
def fl42 : List (Nat × Sig) := [(40, sg40)]
def en42 : Env := { n := 28, ty := assocN tyL, fns := assocN fl42, lo := 1 }
def su42 : Bool → Nat → Option Sub | true, 2 => some ⟨f_laws_markNameS_l2c, f_laws_markNameS_l2v, f_laws_markNameS_l2e, loopF f_laws_markNameS_l2⟩ | _, _ => none
theorem ok42 : EnvOk Tryd.prog en42 := envOk_of rfl rfl tyL_ok (⟨so40, trivial⟩)
theorem f_laws_markNameS_l2Eq (R : Type) (c : Vars f_laws_markNameS_l2c) (v : Vars f_laws_markNameS_l2v) (kk : Vars f_laws_markNameS_l2c → (Vars f_laws_markNameS_l2v ⊕ Oc f_laws_markNameS_l2e) → Option R) : evC en42 su42 (loopAt 2 Tryd.f42) (Desc.mk2 f_laws_markNameS_l2v v (Desc.mk2 f_laws_markNameS_l2c c .empty)) (fun o => bodyK f_laws_markNameS_l2c f_laws_markNameS_l2v f_laws_markNameS_l2e o kk) = f_laws_markNameS_l2 R c v kk := by kernel_rfl
theorem f_laws_markNameS_l2Ok {X : Cx} (hX : en42.lo = X.lo) : SubOk Tryd.prog X 28 ⟨f_laws_markNameS_l2c, f_laws_markNameS_l2v, f_laws_markNameS_l2e, loopF f_laws_markNameS_l2⟩ (.loop (loopAt 2 Tryd.f42)) :=
  sub_loop (subs := su42) ok42 rfl hX (GoodN.good (K := True) (Eq.mpr (show GoodN Tryd.prog X 28 en42 su42 (loopAt 2 Tryd.f42) True = (True) by kernel_rfl) trivial)).1 (by decide) (by decide) f_laws_markNameS_l2Eq
theorem f_laws_markNameSEq (x : Ps ins42) : evF en42 su42 Tryd.f42 ins42 res42 x = f_laws_markNameS x := by kernel_rfl
theorem so42 : Sound Tryd.prog 42 sg42 :=
  sound_of (fn := Tryd.f42) (c := bodyOf Tryd.f42) (subs := su42) (E := en42) (by kernel_rfl) (by kernel_rfl) (by decide) ok42 (by kernel_rfl) (by kernel_rfl) (by decide)
    (fun X hX => (GoodN.good (K := True) (Eq.mpr (show GoodN Tryd.prog X 28 en42 su42 (bodyOf Tryd.f42) True = (SubOk Tryd.prog X 28 ⟨f_laws_markNameS_l2c, f_laws_markNameS_l2v, f_laws_markNameS_l2e, loopF f_laws_markNameS_l2⟩ (.loop (loopAt 2 Tryd.f42)) ∧ True) by kernel_rfl) ⟨(f_laws_markNameS_l2Ok hX), trivial⟩)).1)
    (fun x r h => (f_laws_markNameSEq x).trans h)
def fl15 : List (Nat × Sig) := [(41, sg41), (42, sg42)]
def en15 : Env := { n := 18, ty := assocN tyL, fns := assocN fl15, lo := 1 }
def su15 : Bool → Nat → Option Sub | _, _ => none
theorem ok15 : EnvOk Tryd.prog en15 := envOk_of rfl rfl tyL_ok (⟨so41, ⟨so42, trivial⟩⟩)
theorem f_laws_markDiskEq (x : Ps ins15) : evF en15 su15 Tryd.f15 ins15 res15 x = f_laws_markDisk x := by kernel_rfl
theorem so15 : Sound Tryd.prog 15 sg15 :=
  sound_of (fn := Tryd.f15) (c := bodyOf Tryd.f15) (subs := su15) (E := en15) (by kernel_rfl) (by kernel_rfl) (by decide) ok15 (by kernel_rfl) (by kernel_rfl) (by decide)
    (fun X hX => (GoodN.good (K := True) (Eq.mpr (show GoodN Tryd.prog X 18 en15 su15 (bodyOf Tryd.f15) True = (True) by kernel_rfl) trivial)).1)
    (fun x r h => (f_laws_markDiskEq x).trans h)
def fl43 : List (Nat × Sig) := [(40, sg40)]
def en43 : Env := { n := 32, ty := assocN tyL, fns := assocN fl43, lo := 0 }
def su43 : Bool → Nat → Option Sub | true, 2 => some ⟨f_laws_heldBlobS_l2c, f_laws_heldBlobS_l2v, f_laws_heldBlobS_l2e, loopF f_laws_heldBlobS_l2⟩ | _, _ => none
theorem ok43 : EnvOk Tryd.prog en43 := envOk_of rfl rfl tyL_ok (⟨so40, trivial⟩)
theorem dr43r4 {X : Cx} (hX : en43.lo = X.lo) : RegOk Tryd.prog X 32 en43 4 (regAt 4 Tryd.f43) := regOk_of ok43 rfl hX (by kernel_rfl) (by kernel_rfl)
theorem f_laws_heldBlobS_l2Eq (R : Type) (c : Vars f_laws_heldBlobS_l2c) (v : Vars f_laws_heldBlobS_l2v) (kk : Vars f_laws_heldBlobS_l2c → (Vars f_laws_heldBlobS_l2v ⊕ Oc f_laws_heldBlobS_l2e) → Option R) : evC en43 su43 (loopAt 2 Tryd.f43) (Desc.mk2 f_laws_heldBlobS_l2v v (Desc.mk2 f_laws_heldBlobS_l2c c .empty)) (fun o => bodyK f_laws_heldBlobS_l2c f_laws_heldBlobS_l2v f_laws_heldBlobS_l2e o kk) = f_laws_heldBlobS_l2 R c v kk := by kernel_rfl
theorem f_laws_heldBlobS_l2Ok {X : Cx} (hX : en43.lo = X.lo) : SubOk Tryd.prog X 32 ⟨f_laws_heldBlobS_l2c, f_laws_heldBlobS_l2v, f_laws_heldBlobS_l2e, loopF f_laws_heldBlobS_l2⟩ (.loop (loopAt 2 Tryd.f43)) :=
  sub_loop (subs := su43) ok43 rfl hX (GoodN.good (K := True) (Eq.mpr (show GoodN Tryd.prog X 32 en43 su43 (loopAt 2 Tryd.f43) True = (RegOk Tryd.prog X 32 en43 4 (regAt 4 Tryd.f43) ∧ True) by kernel_rfl) ⟨(dr43r4 hX), trivial⟩)).1 (by decide) (by decide) f_laws_heldBlobS_l2Eq
theorem f_laws_heldBlobSEq (x : Ps ins43) : evF en43 su43 Tryd.f43 ins43 res43 x = f_laws_heldBlobS x := by kernel_rfl
theorem so43 : Sound Tryd.prog 43 sg43 :=
  sound_of (fn := Tryd.f43) (c := bodyOf Tryd.f43) (subs := su43) (E := en43) (by kernel_rfl) (by kernel_rfl) (by decide) ok43 (by kernel_rfl) (by kernel_rfl) (by decide)
    (fun X hX => (GoodN.good (K := True) (Eq.mpr (show GoodN Tryd.prog X 32 en43 su43 (bodyOf Tryd.f43) True = (SubOk Tryd.prog X 32 ⟨f_laws_heldBlobS_l2c, f_laws_heldBlobS_l2v, f_laws_heldBlobS_l2e, loopF f_laws_heldBlobS_l2⟩ (.loop (loopAt 2 Tryd.f43)) ∧ True) by kernel_rfl) ⟨(f_laws_heldBlobS_l2Ok hX), trivial⟩)).1)
    (fun x r h => (f_laws_heldBlobSEq x).trans h)
def fl44 : List (Nat × Sig) := [(40, sg40)]
def en44 : Env := { n := 32, ty := assocN tyL, fns := assocN fl44, lo := 0 }
def su44 : Bool → Nat → Option Sub | true, 2 => some ⟨f_laws_heldNameS_l2c, f_laws_heldNameS_l2v, f_laws_heldNameS_l2e, loopF f_laws_heldNameS_l2⟩ | _, _ => none
theorem ok44 : EnvOk Tryd.prog en44 := envOk_of rfl rfl tyL_ok (⟨so40, trivial⟩)
theorem dr44r4 {X : Cx} (hX : en44.lo = X.lo) : RegOk Tryd.prog X 32 en44 4 (regAt 4 Tryd.f44) := regOk_of ok44 rfl hX (by kernel_rfl) (by kernel_rfl)
theorem f_laws_heldNameS_l2Eq (R : Type) (c : Vars f_laws_heldNameS_l2c) (v : Vars f_laws_heldNameS_l2v) (kk : Vars f_laws_heldNameS_l2c → (Vars f_laws_heldNameS_l2v ⊕ Oc f_laws_heldNameS_l2e) → Option R) : evC en44 su44 (loopAt 2 Tryd.f44) (Desc.mk2 f_laws_heldNameS_l2v v (Desc.mk2 f_laws_heldNameS_l2c c .empty)) (fun o => bodyK f_laws_heldNameS_l2c f_laws_heldNameS_l2v f_laws_heldNameS_l2e o kk) = f_laws_heldNameS_l2 R c v kk := by kernel_rfl
theorem f_laws_heldNameS_l2Ok {X : Cx} (hX : en44.lo = X.lo) : SubOk Tryd.prog X 32 ⟨f_laws_heldNameS_l2c, f_laws_heldNameS_l2v, f_laws_heldNameS_l2e, loopF f_laws_heldNameS_l2⟩ (.loop (loopAt 2 Tryd.f44)) :=
  sub_loop (subs := su44) ok44 rfl hX (GoodN.good (K := True) (Eq.mpr (show GoodN Tryd.prog X 32 en44 su44 (loopAt 2 Tryd.f44) True = (RegOk Tryd.prog X 32 en44 4 (regAt 4 Tryd.f44) ∧ True) by kernel_rfl) ⟨(dr44r4 hX), trivial⟩)).1 (by decide) (by decide) f_laws_heldNameS_l2Eq
theorem f_laws_heldNameSEq (x : Ps ins44) : evF en44 su44 Tryd.f44 ins44 res44 x = f_laws_heldNameS x := by kernel_rfl
theorem so44 : Sound Tryd.prog 44 sg44 :=
  sound_of (fn := Tryd.f44) (c := bodyOf Tryd.f44) (subs := su44) (E := en44) (by kernel_rfl) (by kernel_rfl) (by decide) ok44 (by kernel_rfl) (by kernel_rfl) (by decide)
    (fun X hX => (GoodN.good (K := True) (Eq.mpr (show GoodN Tryd.prog X 32 en44 su44 (bodyOf Tryd.f44) True = (SubOk Tryd.prog X 32 ⟨f_laws_heldNameS_l2c, f_laws_heldNameS_l2v, f_laws_heldNameS_l2e, loopF f_laws_heldNameS_l2⟩ (.loop (loopAt 2 Tryd.f44)) ∧ True) by kernel_rfl) ⟨(f_laws_heldNameS_l2Ok hX), trivial⟩)).1)
    (fun x r h => (f_laws_heldNameSEq x).trans h)
def fl17 : List (Nat × Sig) := [(43, sg43), (44, sg44)]
def en17 : Env := { n := 24, ty := assocN tyL, fns := assocN fl17, lo := 0 }
def su17 : Bool → Nat → Option Sub | _, _ => none
theorem ok17 : EnvOk Tryd.prog en17 := envOk_of rfl rfl tyL_ok (⟨so43, ⟨so44, trivial⟩⟩)
theorem f_laws_heldDiskEq (x : Ps ins17) : evF en17 su17 Tryd.f17 ins17 res17 x = f_laws_heldDisk x := by kernel_rfl
theorem so17 : Sound Tryd.prog 17 sg17 :=
  sound_of (fn := Tryd.f17) (c := bodyOf Tryd.f17) (subs := su17) (E := en17) (by kernel_rfl) (by kernel_rfl) (by decide) ok17 (by kernel_rfl) (by kernel_rfl) (by decide)
    (fun X hX => (GoodN.good (K := True) (Eq.mpr (show GoodN Tryd.prog X 24 en17 su17 (bodyOf Tryd.f17) True = (True) by kernel_rfl) trivial)).1)
    (fun x r h => (f_laws_heldDiskEq x).trans h)
def fl6 : List (Nat × Sig) := [(11, sg11), (15, sg15), (17, sg17), (20, sg20), (21, sg21), (29, sg29), (30, sg30), (31, sg31), (32, sg32)]
def dw6 : List (Nat × List (List Nat × List Nat)) := [(8, [([2, 27], []), ([28], []), ([3, 29], []), ([30], []), ([31], [28]), ([], []), ([], []), ([], []), ([6], []), ([6, 31], []), ([7], [])]), (10, [([8, 37], []), ([3, 38], []), ([39], []), ([40], [8]), ([], []), ([], []), ([], []), ([9], []), ([9, 40], []), ([10], [])]), (13, [([8, 52], []), ([2, 53], []), ([54], []), ([55], [8, 54]), ([56], [])]), (27, [([2, 85], []), ([86], []), ([3, 87], []), ([88], []), ([89], [86]), ([], []), ([], []), ([], []), ([14], []), ([14, 89], []), ([15], [])])]
def en6 : Env := { n := 109, ty := assocN tyL, fns := assocN fl6, lo := 0, draw := drawOf dw6 }
def su6 : Bool → Nat → Option Sub | _, _ => none
theorem ok6 : EnvOk Tryd.prog en6 := envOk_of rfl rfl tyL_ok (⟨so11, ⟨so15, ⟨so17, ⟨so20, ⟨so21, ⟨so29, ⟨so30, ⟨so31, ⟨so32, trivial⟩⟩⟩⟩⟩⟩⟩⟩⟩)
theorem dr6r8 {X : Cx} (hX : en6.lo = X.lo) : RegOk Tryd.prog X 109 en6 8 (regAt 8 Tryd.f6) := regOk_of ok6 rfl hX (by kernel_rfl) (by kernel_rfl)
theorem dr6r10 {X : Cx} (hX : en6.lo = X.lo) : RegOk Tryd.prog X 109 en6 10 (regAt 10 Tryd.f6) := regOk_of ok6 rfl hX (by kernel_rfl) (by kernel_rfl)
theorem dr6r13 {X : Cx} (hX : en6.lo = X.lo) : RegOk Tryd.prog X 109 en6 13 (regAt 13 Tryd.f6) := regOk_of ok6 rfl hX (by kernel_rfl) (by kernel_rfl)
theorem dr6r27 {X : Cx} (hX : en6.lo = X.lo) : RegOk Tryd.prog X 109 en6 27 (regAt 27 Tryd.f6) := regOk_of ok6 rfl hX (by kernel_rfl) (by kernel_rfl)
theorem f_laws_FnExactDoDiskEq (x : Ps ins6) : evF en6 su6 Tryd.f6 ins6 res6 x = f_laws_FnExactDoDisk x := by kernel_rfl
theorem so6 : Sound Tryd.prog 6 sg6 :=
  sound_of (fn := Tryd.f6) (c := bodyOf Tryd.f6) (subs := su6) (E := en6) (by kernel_rfl) (by kernel_rfl) (by decide) ok6 (by kernel_rfl) (by kernel_rfl) (by decide)
    (fun X hX => (GoodN.good (K := True) (Eq.mpr (show GoodN Tryd.prog X 109 en6 su6 (bodyOf Tryd.f6) True = (RegOk Tryd.prog X 109 en6 8 (regAt 8 Tryd.f6) ∧ RegOk Tryd.prog X 109 en6 10 (regAt 10 Tryd.f6) ∧ RegOk Tryd.prog X 109 en6 13 (regAt 13 Tryd.f6) ∧ RegOk Tryd.prog X 109 en6 27 (regAt 27 Tryd.f6) ∧ True) by kernel_rfl) ⟨(dr6r8 hX), (dr6r10 hX), (dr6r13 hX), (dr6r27 hX), trivial⟩)).1)
    (fun x r h => (f_laws_FnExactDoDiskEq x).trans h)
end Go.Proofs.YthlnjkcpdkjipaaDoor
