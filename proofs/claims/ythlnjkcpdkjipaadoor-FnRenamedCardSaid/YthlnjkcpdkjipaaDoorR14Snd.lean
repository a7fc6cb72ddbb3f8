/- The typed functions are what the program's code says. (Printed by a program of mine, wip/tools/gen.py.) -/
import Derived.Test.YthlnjkcpdkjipaaDoorProg
import Derived.Test.YthlnjkcpdkjipaaDoorRATrim
import Derived.Test.YthlnjkcpdkjipaaDoorRAUsed
import Derived.Test.YthlnjkcpdkjipaaDoorR14Fns
set_option linter.all false
set_option maxRecDepth 100000
noncomputable section
namespace Go.Proofs.YthlnjkcpdkjipaaDoor
open Go Go.Proofs.YthlnjkcpdkjipaaDoor.Ev
theorem ty9 : TyOk Tryd.prog 9 .str := ⟨⟨by kernel_rfl, by kernel_rfl⟩, by kernel_rfl⟩
theorem ty3 : TyOk Tryd.prog 3 (.int .i64) := ⟨⟨by kernel_rfl, by kernel_rfl⟩, by kernel_rfl⟩
theorem ty57 : TyOk Tryd.prog 57 kdBlob := ty_struct (f := (⟨ "Data", 9, 0, false, "", "", 0⟩ : Field)) (l := [(⟨ "Synced", 3, 1, false, "", "", 16⟩ : Field)]) ⟨by kernel_rfl, by kernel_rfl⟩ (by kernel_rfl) (by kernel_rfl) ⟨rfl, by decide, ty9, ⟨rfl, by decide, ty3, rfl⟩⟩
theorem ty24 : TyOk Tryd.prog 24 (.sl kdBlob) := ty_sl ⟨by kernel_rfl, by kernel_rfl⟩ (by kernel_rfl) ty57
theorem ty53 : TyOk Tryd.prog 53 kdBlob := ty_struct (f := (⟨ "Name", 9, 0, false, "", "", 0⟩ : Field)) (l := [(⟨ "Blob", 3, 1, false, "", "", 16⟩ : Field)]) ⟨by kernel_rfl, by kernel_rfl⟩ (by kernel_rfl) (by kernel_rfl) ⟨rfl, by decide, ty9, ⟨rfl, by decide, ty3, rfl⟩⟩
theorem ty25 : TyOk Tryd.prog 25 (.sl kdBlob) := ty_sl ⟨by kernel_rfl, by kernel_rfl⟩ (by kernel_rfl) ty53
theorem ty27 : TyOk Tryd.prog 27 kdDisk := ty_struct (f := (⟨ "Blobs", 24, 0, false, "", "", 0⟩ : Field)) (l := [(⟨ "Live", 25, 1, false, "", "", 24⟩ : Field), (⟨ "Safe", 25, 2, false, "", "", 48⟩ : Field), (⟨ "Room", 3, 3, false, "", "", 72⟩ : Field)]) ⟨by kernel_rfl, by kernel_rfl⟩ (by kernel_rfl) (by kernel_rfl) ⟨rfl, by decide, ty24, ⟨rfl, by decide, ty25, ⟨rfl, by decide, ty25, ⟨rfl, by decide, ty3, rfl⟩⟩⟩⟩
theorem ty42 : TyOk Tryd.prog 42 kdDiskStep := ty_struct (f := (⟨ "Kind", 3, 0, false, "", "", 0⟩ : Field)) (l := [(⟨ "Name", 9, 1, false, "", "", 8⟩ : Field), (⟨ "Other", 9, 2, false, "", "", 24⟩ : Field), (⟨ "Data", 9, 3, false, "", "", 40⟩ : Field), (⟨ "Keep", 3, 4, false, "", "", 56⟩ : Field)]) ⟨by kernel_rfl, by kernel_rfl⟩ (by kernel_rfl) (by kernel_rfl) ⟨rfl, by decide, ty3, ⟨rfl, by decide, ty9, ⟨rfl, by decide, ty9, ⟨rfl, by decide, ty9, ⟨rfl, by decide, ty3, rfl⟩⟩⟩⟩⟩
theorem ty5 : TyOk Tryd.prog 5 (.int .u8) := ⟨⟨by kernel_rfl, by kernel_rfl⟩, by kernel_rfl⟩
theorem ty40 : TyOk Tryd.prog 40 (.sl (.int .u8)) := ty_sl ⟨by kernel_rfl, by kernel_rfl⟩ (by kernel_rfl) ty5
theorem ty80 : TyOk Tryd.prog 80 (.int .u64) := ⟨⟨by kernel_rfl, by kernel_rfl⟩, by kernel_rfl⟩
theorem ty82 : TyOk Tryd.prog 82 kdl1Cur := ty_struct (f := (⟨ "code", 40, 0, false, "", "loop.example/g00224/spec", 0⟩ : Field)) (l := [(⟨ "at", 3, 1, false, "", "loop.example/g00224/spec", 24⟩ : Field), (⟨ "seed", 80, 2, false, "", "loop.example/g00224/spec", 32⟩ : Field)]) ⟨by kernel_rfl, by kernel_rfl⟩ (by kernel_rfl) (by kernel_rfl) ⟨rfl, by decide, ty40, ⟨rfl, by decide, ty3, ⟨rfl, by decide, ty80, rfl⟩⟩⟩
theorem ty31 : TyOk Tryd.prog 31 (.sl kdDiskStep) := ty_sl ⟨by kernel_rfl, by kernel_rfl⟩ (by kernel_rfl) ty42
theorem ty28 : TyOk Tryd.prog 28 (.sl (.int .i64)) := ty_sl ⟨by kernel_rfl, by kernel_rfl⟩ (by kernel_rfl) ty3
theorem ty49 : TyOk Tryd.prog 49 (.sl .str) := ty_sl ⟨by kernel_rfl, by kernel_rfl⟩ (by kernel_rfl) ty9
theorem ty4 : TyOk Tryd.prog 4 .bool := ⟨⟨by kernel_rfl, by kernel_rfl⟩, by kernel_rfl⟩
def tyL : List (Nat × K) := [(9, .str), (3, (.int .i64)), (57, kdBlob), (24, (.sl kdBlob)), (53, kdBlob), (25, (.sl kdBlob)), (27, kdDisk), (42, kdDiskStep), (5, (.int .u8)), (40, (.sl (.int .u8))), (80, (.int .u64)), (82, kdl1Cur), (31, (.sl kdDiskStep)), (28, (.sl (.int .i64))), (49, (.sl .str)), (4, .bool)]
theorem tyL_ok : AllTy Tryd.prog tyL := ⟨ty9, ⟨ty3, ⟨ty57, ⟨ty24, ⟨ty53, ⟨ty25, ⟨ty27, ⟨ty42, ⟨ty5, ⟨ty40, ⟨ty80, ⟨ty82, ⟨ty31, ⟨ty28, ⟨ty49, ⟨ty4, trivial⟩⟩⟩⟩⟩⟩⟩⟩⟩⟩⟩⟩⟩⟩⟩⟩
def rn93 : Go.Shelf.Ren where
  f := fun x => match x with | 22 => 93 | 29 => 103 | 30 => 104 | n => n
  t := fun x => match x with | 9 => 53 | 24 => 25 | n => n
  g := fun x => x
theorem soInsert93 : Sound Tryd.prog 93 (sgf_slices_Insert kdBlob) := sound_Insert (ρ := rn93)
  { mixed := by kernel_rfl, f22 := ⟨Tryd.f93.name, by decide, by kernel_rfl⟩, f29 := ⟨Tryd.f103, by kernel_rfl, by kernel_rfl, by kernel_rfl, by kernel_rfl, by kernel_rfl⟩, t0 := Tryd.underlying0, a0 := Tryd.isAgg0, z0 := Tryd.sizeOf0, v0 := Tryd.zeroValue0
    t3 := ty3, t4 := ty4, t9 := ty53, t24 := Tryd.underlying25, t24k := ty25, fl := by decide, ne := by decide, nb := by decide }
def rn94 : Go.Shelf.Ren where
  f := fun x => match x with | 24 => 94 | n => n
  t := fun x => match x with | 9 => 53 | 24 => 25 | n => n
  g := fun x => x
theorem soDelete94 : Sound Tryd.prog 94 (sgf_slices_Delete kdBlob) := sound_Delete (ρ := rn94)
  { mixed := by kernel_rfl, f24 := ⟨Tryd.f94.name, by decide, by kernel_rfl⟩, t0 := Tryd.underlying0, a0 := Tryd.isAgg0, z0 := Tryd.sizeOf0, v0 := Tryd.zeroValue0
    t3 := ty3, t4 := ty4, t9 := ty53, t24 := Tryd.underlying25, t24k := ty25, fl := by decide, ne := by decide, nb := by decide }
def fl90 : List (Nat × Sig) := []
def en90 : Env := { n := 62, ty := assocN tyL, fns := assocN fl90, lo := 1 }
def su90 : Bool → Nat → Option Sub | false, 3 => some ⟨f_spec_l1Cur_next_i3c, f_spec_l1Cur_next_i3v, f_spec_l1Cur_next_i3e, f_spec_l1Cur_next_i3⟩ | _, _ => none
theorem ok90 : EnvOk Tryd.prog en90 := envOk_of rfl rfl tyL_ok (trivial)
theorem dr90r2 {X : Cx} (hX : en90.lo = X.lo) : RegOk Tryd.prog X 62 en90 2 (regAt 2 Tryd.f90) := regOk_of ok90 rfl hX (by kernel_rfl) (by kernel_rfl)
theorem dr90r3 {X : Cx} (hX : en90.lo = X.lo) : RegOk Tryd.prog X 62 en90 3 (regAt 3 Tryd.f90) := regOk_of ok90 rfl hX (by kernel_rfl) (by kernel_rfl)
theorem dr90r6 {X : Cx} (hX : en90.lo = X.lo) : RegOk Tryd.prog X 62 en90 6 (regAt 6 Tryd.f90) := regOk_of ok90 rfl hX (by kernel_rfl) (by kernel_rfl)
def su90i3 : Bool → Nat → Option Sub | _, _ => none
theorem f_spec_l1Cur_next_i3Eq (R : Type) (c : Vars f_spec_l1Cur_next_i3c) (v : Vars f_spec_l1Cur_next_i3v) (kk : Vars f_spec_l1Cur_next_i3c → Oc f_spec_l1Cur_next_i3e → Option R) : evC en90 su90i3 (ifAt 3 Tryd.f90) (Desc.mk2 f_spec_l1Cur_next_i3v v (Desc.mk2 f_spec_l1Cur_next_i3c c .empty)) (fun o => chk f_spec_l1Cur_next_i3c f_spec_l1Cur_next_i3e o kk) = f_spec_l1Cur_next_i3 R c v kk := by kernel_rfl
theorem f_spec_l1Cur_next_i3Ok {X : Cx} (hX : en90.lo = X.lo) : SubOk Tryd.prog X 62 ⟨f_spec_l1Cur_next_i3c, f_spec_l1Cur_next_i3v, f_spec_l1Cur_next_i3e, f_spec_l1Cur_next_i3⟩ (ifAt 3 Tryd.f90) :=
  sub_if (u := ⟨f_spec_l1Cur_next_i3c, f_spec_l1Cur_next_i3v, f_spec_l1Cur_next_i3e, f_spec_l1Cur_next_i3⟩) (subs := su90i3) ok90 rfl hX (GoodN.good (K := True) (Eq.mpr (show GoodN Tryd.prog X 62 en90 su90i3 (ifAt 3 Tryd.f90) True = (RegOk Tryd.prog X 62 en90 3 (regAt 3 Tryd.f90) ∧ True) by kernel_rfl) ⟨(dr90r3 hX), trivial⟩)).1 (by decide) (by decide) f_spec_l1Cur_next_i3Eq
theorem f_spec_l1Cur_nextEq (x : Ps ins90) : evF en90 su90 Tryd.f90 ins90 res90 x = f_spec_l1Cur_next x := by kernel_rfl
theorem so90 : Sound Tryd.prog 90 sg90 :=
  sound_of (fn := Tryd.f90) (c := bodyOf Tryd.f90) (subs := su90) (E := en90) (by kernel_rfl) (by kernel_rfl) (by decide) ok90 (by kernel_rfl) (by kernel_rfl) (by decide)
    (fun X hX => (GoodN.good (K := True) (Eq.mpr (show GoodN Tryd.prog X 62 en90 su90 (bodyOf Tryd.f90) True = (RegOk Tryd.prog X 62 en90 2 (regAt 2 Tryd.f90) ∧ SubOk Tryd.prog X 62 ⟨f_spec_l1Cur_next_i3c, f_spec_l1Cur_next_i3v, f_spec_l1Cur_next_i3e, f_spec_l1Cur_next_i3⟩ (ifAt 3 Tryd.f90) ∧ RegOk Tryd.prog X 62 en90 6 (regAt 6 Tryd.f90) ∧ True) by kernel_rfl) ⟨(dr90r2 hX), (f_spec_l1Cur_next_i3Ok hX), (dr90r6 hX), trivial⟩)).1)
    (fun x r h => (f_spec_l1Cur_nextEq x).trans h)
def fl72 : List (Nat × Sig) := [(90, sg90)]
def en72 : Env := { n := 20, ty := assocN tyL, fns := assocN fl72, lo := 1 }
def su72 : Bool → Nat → Option Sub | false, 5 => some ⟨f_spec_l1Cur_pick_i5c, f_spec_l1Cur_pick_i5v, f_spec_l1Cur_pick_i5e, f_spec_l1Cur_pick_i5⟩ | _, _ => none
theorem ok72 : EnvOk Tryd.prog en72 := envOk_of rfl rfl tyL_ok (⟨so90, trivial⟩)
def su72i5 : Bool → Nat → Option Sub | _, _ => none
theorem f_spec_l1Cur_pick_i5Eq (R : Type) (c : Vars f_spec_l1Cur_pick_i5c) (v : Vars f_spec_l1Cur_pick_i5v) (kk : Vars f_spec_l1Cur_pick_i5c → Oc f_spec_l1Cur_pick_i5e → Option R) : evC en72 su72i5 (ifAt 5 Tryd.f72) (Desc.mk2 f_spec_l1Cur_pick_i5v v (Desc.mk2 f_spec_l1Cur_pick_i5c c .empty)) (fun o => chk f_spec_l1Cur_pick_i5c f_spec_l1Cur_pick_i5e o kk) = f_spec_l1Cur_pick_i5 R c v kk := by kernel_rfl
theorem f_spec_l1Cur_pick_i5Ok {X : Cx} (hX : en72.lo = X.lo) : SubOk Tryd.prog X 20 ⟨f_spec_l1Cur_pick_i5c, f_spec_l1Cur_pick_i5v, f_spec_l1Cur_pick_i5e, f_spec_l1Cur_pick_i5⟩ (ifAt 5 Tryd.f72) :=
  sub_if (u := ⟨f_spec_l1Cur_pick_i5c, f_spec_l1Cur_pick_i5v, f_spec_l1Cur_pick_i5e, f_spec_l1Cur_pick_i5⟩) (subs := su72i5) ok72 rfl hX (GoodN.good (K := True) (Eq.mpr (show GoodN Tryd.prog X 20 en72 su72i5 (ifAt 5 Tryd.f72) True = (True) by kernel_rfl) trivial)).1 (by decide) (by decide) f_spec_l1Cur_pick_i5Eq
theorem f_spec_l1Cur_pickEq (x : Ps ins72) : evF en72 su72 Tryd.f72 ins72 res72 x = f_spec_l1Cur_pick x := by kernel_rfl
theorem so72 : Sound Tryd.prog 72 sg72 :=
  sound_of (fn := Tryd.f72) (c := bodyOf Tryd.f72) (subs := su72) (E := en72) (by kernel_rfl) (by kernel_rfl) (by decide) ok72 (by kernel_rfl) (by kernel_rfl) (by decide)
    (fun X hX => (GoodN.good (K := True) (Eq.mpr (show GoodN Tryd.prog X 20 en72 su72 (bodyOf Tryd.f72) True = (SubOk Tryd.prog X 20 ⟨f_spec_l1Cur_pick_i5c, f_spec_l1Cur_pick_i5v, f_spec_l1Cur_pick_i5e, f_spec_l1Cur_pick_i5⟩ (ifAt 5 Tryd.f72) ∧ True) by kernel_rfl) ⟨(f_spec_l1Cur_pick_i5Ok hX), trivial⟩)).1)
    (fun x r h => (f_spec_l1Cur_pickEq x).trans h)
def fl75 : List (Nat × Sig) := [(72, sg72)]
def en75 : Env := { n := 9, ty := assocN tyL, fns := assocN fl75, lo := 1 }
def su75 : Bool → Nat → Option Sub | _, _ => none
theorem ok75 : EnvOk Tryd.prog en75 := envOk_of rfl rfl tyL_ok (⟨so72, trivial⟩)
theorem f_spec_l1Cur_oneEq (x : Ps ins75) : evF en75 su75 Tryd.f75 ins75 res75 x = f_spec_l1Cur_one x := by kernel_rfl
theorem so75 : Sound Tryd.prog 75 sg75 :=
  sound_of (fn := Tryd.f75) (c := bodyOf Tryd.f75) (subs := su75) (E := en75) (by kernel_rfl) (by kernel_rfl) (by decide) ok75 (by kernel_rfl) (by kernel_rfl) (by decide)
    (fun X hX => (GoodN.good (K := True) (Eq.mpr (show GoodN Tryd.prog X 9 en75 su75 (bodyOf Tryd.f75) True = (True) by kernel_rfl) trivial)).1)
    (fun x r h => (f_spec_l1Cur_oneEq x).trans h)
def fl71 : List (Nat × Sig) := [(72, sg72)]
def en71 : Env := { n := 12, ty := assocN tyL, fns := assocN fl71, lo := 1 }
def su71 : Bool → Nat → Option Sub | _, _ => none
theorem ok71 : EnvOk Tryd.prog en71 := envOk_of rfl rfl tyL_ok (⟨so72, trivial⟩)
theorem f_spec_l1Cur_amongEq (x : Ps ins71) : evF en71 su71 Tryd.f71 ins71 res71 x = f_spec_l1Cur_among x := by kernel_rfl
theorem so71 : Sound Tryd.prog 71 sg71 :=
  sound_of (fn := Tryd.f71) (c := bodyOf Tryd.f71) (subs := su71) (E := en71) (by kernel_rfl) (by kernel_rfl) (by decide) ok71 (by kernel_rfl) (by kernel_rfl) (by decide)
    (fun X hX => (GoodN.good (K := True) (Eq.mpr (show GoodN Tryd.prog X 12 en71 su71 (bodyOf Tryd.f71) True = (True) by kernel_rfl) trivial)).1)
    (fun x r h => (f_spec_l1Cur_amongEq x).trans h)
def fl91 : List (Nat × Sig) := [(72, sg72)]
def en91 : Env := { n := 12, ty := assocN tyL, fns := assocN fl91, lo := 1 }
def su91 : Bool → Nat → Option Sub | _, _ => none
theorem ok91 : EnvOk Tryd.prog en91 := envOk_of rfl rfl tyL_ok (⟨so72, trivial⟩)
theorem f_spec_l1Cur_ofEq (x : Ps ins91) : evF en91 su91 Tryd.f91 ins91 res91 x = f_spec_l1Cur_of x := by kernel_rfl
theorem so91 : Sound Tryd.prog 91 sg91 :=
  sound_of (fn := Tryd.f91) (c := bodyOf Tryd.f91) (subs := su91) (E := en91) (by kernel_rfl) (by kernel_rfl) (by decide) ok91 (by kernel_rfl) (by kernel_rfl) (by decide)
    (fun X hX => (GoodN.good (K := True) (Eq.mpr (show GoodN Tryd.prog X 12 en91 su91 (bodyOf Tryd.f91) True = (True) by kernel_rfl) trivial)).1)
    (fun x r h => (f_spec_l1Cur_ofEq x).trans h)
def fl73 : List (Nat × Sig) := [(75, sg75), (91, sg91)]
def en73 : Env := { n := 11, ty := assocN tyL, fns := assocN fl73, lo := 1 }
def su73 : Bool → Nat → Option Sub | _, _ => none
theorem ok73 : EnvOk Tryd.prog en73 := envOk_of rfl rfl tyL_ok (⟨so75, ⟨so91, trivial⟩⟩)
theorem f_spec_l1Cur_fileNameEq (x : Ps ins73) : evF en73 su73 Tryd.f73 ins73 res73 x = f_spec_l1Cur_fileName x := by kernel_rfl
theorem so73 : Sound Tryd.prog 73 sg73 :=
  sound_of (fn := Tryd.f73) (c := bodyOf Tryd.f73) (subs := su73) (E := en73) (by kernel_rfl) (by kernel_rfl) (by decide) ok73 (by kernel_rfl) (by kernel_rfl) (by decide)
    (fun X hX => (GoodN.good (K := True) (Eq.mpr (show GoodN Tryd.prog X 11 en73 su73 (bodyOf Tryd.f73) True = (True) by kernel_rfl) trivial)).1)
    (fun x r h => (f_spec_l1Cur_fileNameEq x).trans h)
def fl74 : List (Nat × Sig) := [(72, sg72)]
def hi74 : List (Nat × (K × Mk)) := [(5, ((.sl (.int .u8)), (.o .s)))]
def en74 : Env := { n := 23, ty := assocN tyL, fns := assocN fl74, lo := 1, hint := assocN hi74 }
def su74 : Bool → Nat → Option Sub | true, 3 => some ⟨f_spec_l1Cur_text_l3c, f_spec_l1Cur_text_l3v, f_spec_l1Cur_text_l3e, loopF f_spec_l1Cur_text_l3⟩ | _, _ => none
theorem ok74 : EnvOk Tryd.prog en74 := envOk_of rfl rfl tyL_ok (⟨so72, trivial⟩)
theorem f_spec_l1Cur_text_l3Eq (R : Type) (c : Vars f_spec_l1Cur_text_l3c) (v : Vars f_spec_l1Cur_text_l3v) (kk : Vars f_spec_l1Cur_text_l3c → (Vars f_spec_l1Cur_text_l3v ⊕ Oc f_spec_l1Cur_text_l3e) → Option R) : evC en74 su74 (loopAt 3 Tryd.f74) (Desc.mk2 f_spec_l1Cur_text_l3v v (Desc.mk2 f_spec_l1Cur_text_l3c c .empty)) (fun o => bodyK f_spec_l1Cur_text_l3c f_spec_l1Cur_text_l3v f_spec_l1Cur_text_l3e o kk) = f_spec_l1Cur_text_l3 R c v kk := by kernel_rfl
theorem f_spec_l1Cur_text_l3Ok {X : Cx} (hX : en74.lo = X.lo) : SubOk Tryd.prog X 23 ⟨f_spec_l1Cur_text_l3c, f_spec_l1Cur_text_l3v, f_spec_l1Cur_text_l3e, loopF f_spec_l1Cur_text_l3⟩ (.loop (loopAt 3 Tryd.f74)) :=
  sub_loop (subs := su74) ok74 rfl hX (GoodN.good (K := True) (Eq.mpr (show GoodN Tryd.prog X 23 en74 su74 (loopAt 3 Tryd.f74) True = (True) by kernel_rfl) trivial)).1 (by decide) (by decide) f_spec_l1Cur_text_l3Eq
theorem f_spec_l1Cur_textEq (x : Ps ins74) : evF en74 su74 Tryd.f74 ins74 res74 x = f_spec_l1Cur_text x := by kernel_rfl
theorem so74 : Sound Tryd.prog 74 sg74 :=
  sound_of (fn := Tryd.f74) (c := bodyOf Tryd.f74) (subs := su74) (E := en74) (by kernel_rfl) (by kernel_rfl) (by decide) ok74 (by kernel_rfl) (by kernel_rfl) (by decide)
    (fun X hX => (GoodN.good (K := True) (Eq.mpr (show GoodN Tryd.prog X 23 en74 su74 (bodyOf Tryd.f74) True = (SubOk Tryd.prog X 23 ⟨f_spec_l1Cur_text_l3c, f_spec_l1Cur_text_l3v, f_spec_l1Cur_text_l3e, loopF f_spec_l1Cur_text_l3⟩ (.loop (loopAt 3 Tryd.f74)) ∧ True) by kernel_rfl) ⟨(f_spec_l1Cur_text_l3Ok hX), trivial⟩)).1)
    (fun x r h => (f_spec_l1Cur_textEq x).trans h)
def fl46 : List (Nat × Sig) := [(71, sg71), (72, sg72), (73, sg73), (74, sg74), (75, sg75)]
def en46 : Env := { n := 39, ty := assocN tyL, fns := assocN fl46, lo := 1 }
def su46 : Bool → Nat → Option Sub | false, 7 => some ⟨f_spec_l1Cur_diskStep_i7c, f_spec_l1Cur_diskStep_i7v, f_spec_l1Cur_diskStep_i7e, f_spec_l1Cur_diskStep_i7⟩ | false, 4 => some ⟨f_spec_l1Cur_diskStep_i4c, f_spec_l1Cur_diskStep_i4v, f_spec_l1Cur_diskStep_i4e, f_spec_l1Cur_diskStep_i4⟩ | false, 9 => some ⟨f_spec_l1Cur_diskStep_i9c, f_spec_l1Cur_diskStep_i9v, f_spec_l1Cur_diskStep_i9e, f_spec_l1Cur_diskStep_i9⟩ | _, _ => none
theorem ok46 : EnvOk Tryd.prog en46 := envOk_of rfl rfl tyL_ok (⟨so71, ⟨so72, ⟨so73, ⟨so74, ⟨so75, trivial⟩⟩⟩⟩⟩)
def su46i7 : Bool → Nat → Option Sub | false, 4 => some ⟨f_spec_l1Cur_diskStep_i4c, f_spec_l1Cur_diskStep_i4v, f_spec_l1Cur_diskStep_i4e, f_spec_l1Cur_diskStep_i4⟩ | false, 9 => some ⟨f_spec_l1Cur_diskStep_i9c, f_spec_l1Cur_diskStep_i9v, f_spec_l1Cur_diskStep_i9e, f_spec_l1Cur_diskStep_i9⟩ | _, _ => none
theorem f_spec_l1Cur_diskStep_i7Eq (R : Type) (c : Vars f_spec_l1Cur_diskStep_i7c) (v : Vars f_spec_l1Cur_diskStep_i7v) (kk : Vars f_spec_l1Cur_diskStep_i7c → Oc f_spec_l1Cur_diskStep_i7e → Option R) : evC en46 su46i7 (ifAt 7 Tryd.f46) (Desc.mk2 f_spec_l1Cur_diskStep_i7v v (Desc.mk2 f_spec_l1Cur_diskStep_i7c c .empty)) (fun o => chk f_spec_l1Cur_diskStep_i7c f_spec_l1Cur_diskStep_i7e o kk) = f_spec_l1Cur_diskStep_i7 R c v kk := by kernel_rfl
theorem f_spec_l1Cur_diskStep_i7Ok {X : Cx} (hX : en46.lo = X.lo) : SubOk Tryd.prog X 39 ⟨f_spec_l1Cur_diskStep_i7c, f_spec_l1Cur_diskStep_i7v, f_spec_l1Cur_diskStep_i7e, f_spec_l1Cur_diskStep_i7⟩ (ifAt 7 Tryd.f46) :=
  sub_if (u := ⟨f_spec_l1Cur_diskStep_i7c, f_spec_l1Cur_diskStep_i7v, f_spec_l1Cur_diskStep_i7e, f_spec_l1Cur_diskStep_i7⟩) (subs := su46i7) ok46 rfl hX (GoodN.good (K := True) (Eq.mpr (show GoodN Tryd.prog X 39 en46 su46i7 (ifAt 7 Tryd.f46) True = (True) by kernel_rfl) trivial)).1 (by decide) (by decide) f_spec_l1Cur_diskStep_i7Eq
def su46i4 : Bool → Nat → Option Sub | false, 7 => some ⟨f_spec_l1Cur_diskStep_i7c, f_spec_l1Cur_diskStep_i7v, f_spec_l1Cur_diskStep_i7e, f_spec_l1Cur_diskStep_i7⟩ | false, 9 => some ⟨f_spec_l1Cur_diskStep_i9c, f_spec_l1Cur_diskStep_i9v, f_spec_l1Cur_diskStep_i9e, f_spec_l1Cur_diskStep_i9⟩ | _, _ => none
theorem f_spec_l1Cur_diskStep_i4Eq (R : Type) (c : Vars f_spec_l1Cur_diskStep_i4c) (v : Vars f_spec_l1Cur_diskStep_i4v) (kk : Vars f_spec_l1Cur_diskStep_i4c → Oc f_spec_l1Cur_diskStep_i4e → Option R) : evC en46 su46i4 (ifAt 4 Tryd.f46) (Desc.mk2 f_spec_l1Cur_diskStep_i4v v (Desc.mk2 f_spec_l1Cur_diskStep_i4c c .empty)) (fun o => chk f_spec_l1Cur_diskStep_i4c f_spec_l1Cur_diskStep_i4e o kk) = f_spec_l1Cur_diskStep_i4 R c v kk := by kernel_rfl
theorem f_spec_l1Cur_diskStep_i4Ok {X : Cx} (hX : en46.lo = X.lo) : SubOk Tryd.prog X 39 ⟨f_spec_l1Cur_diskStep_i4c, f_spec_l1Cur_diskStep_i4v, f_spec_l1Cur_diskStep_i4e, f_spec_l1Cur_diskStep_i4⟩ (ifAt 4 Tryd.f46) :=
  sub_if (u := ⟨f_spec_l1Cur_diskStep_i4c, f_spec_l1Cur_diskStep_i4v, f_spec_l1Cur_diskStep_i4e, f_spec_l1Cur_diskStep_i4⟩) (subs := su46i4) ok46 rfl hX (GoodN.good (K := True) (Eq.mpr (show GoodN Tryd.prog X 39 en46 su46i4 (ifAt 4 Tryd.f46) True = (SubOk Tryd.prog X 39 ⟨f_spec_l1Cur_diskStep_i7c, f_spec_l1Cur_diskStep_i7v, f_spec_l1Cur_diskStep_i7e, f_spec_l1Cur_diskStep_i7⟩ (ifAt 7 Tryd.f46) ∧ True) by kernel_rfl) ⟨(f_spec_l1Cur_diskStep_i7Ok hX), trivial⟩)).1 (by decide) (by decide) f_spec_l1Cur_diskStep_i4Eq
def su46i9 : Bool → Nat → Option Sub | false, 7 => some ⟨f_spec_l1Cur_diskStep_i7c, f_spec_l1Cur_diskStep_i7v, f_spec_l1Cur_diskStep_i7e, f_spec_l1Cur_diskStep_i7⟩ | false, 4 => some ⟨f_spec_l1Cur_diskStep_i4c, f_spec_l1Cur_diskStep_i4v, f_spec_l1Cur_diskStep_i4e, f_spec_l1Cur_diskStep_i4⟩ | _, _ => none
theorem f_spec_l1Cur_diskStep_i9Eq (R : Type) (c : Vars f_spec_l1Cur_diskStep_i9c) (v : Vars f_spec_l1Cur_diskStep_i9v) (kk : Vars f_spec_l1Cur_diskStep_i9c → Oc f_spec_l1Cur_diskStep_i9e → Option R) : evC en46 su46i9 (ifAt 9 Tryd.f46) (Desc.mk2 f_spec_l1Cur_diskStep_i9v v (Desc.mk2 f_spec_l1Cur_diskStep_i9c c .empty)) (fun o => chk f_spec_l1Cur_diskStep_i9c f_spec_l1Cur_diskStep_i9e o kk) = f_spec_l1Cur_diskStep_i9 R c v kk := by kernel_rfl
theorem f_spec_l1Cur_diskStep_i9Ok {X : Cx} (hX : en46.lo = X.lo) : SubOk Tryd.prog X 39 ⟨f_spec_l1Cur_diskStep_i9c, f_spec_l1Cur_diskStep_i9v, f_spec_l1Cur_diskStep_i9e, f_spec_l1Cur_diskStep_i9⟩ (ifAt 9 Tryd.f46) :=
  sub_if (u := ⟨f_spec_l1Cur_diskStep_i9c, f_spec_l1Cur_diskStep_i9v, f_spec_l1Cur_diskStep_i9e, f_spec_l1Cur_diskStep_i9⟩) (subs := su46i9) ok46 rfl hX (GoodN.good (K := True) (Eq.mpr (show GoodN Tryd.prog X 39 en46 su46i9 (ifAt 9 Tryd.f46) True = (True) by kernel_rfl) trivial)).1 (by decide) (by decide) f_spec_l1Cur_diskStep_i9Eq
theorem f_spec_l1Cur_diskStepEq (x : Ps ins46) : evF en46 su46 Tryd.f46 ins46 res46 x = f_spec_l1Cur_diskStep x := by kernel_rfl
theorem so46 : Sound Tryd.prog 46 sg46 :=
  sound_of (fn := Tryd.f46) (c := bodyOf Tryd.f46) (subs := su46) (E := en46) (by kernel_rfl) (by kernel_rfl) (by decide) ok46 (by kernel_rfl) (by kernel_rfl) (by decide)
    (fun X hX => (GoodN.good (K := True) (Eq.mpr (show GoodN Tryd.prog X 39 en46 su46 (bodyOf Tryd.f46) True = (SubOk Tryd.prog X 39 ⟨f_spec_l1Cur_diskStep_i4c, f_spec_l1Cur_diskStep_i4v, f_spec_l1Cur_diskStep_i4e, f_spec_l1Cur_diskStep_i4⟩ (ifAt 4 Tryd.f46) ∧ SubOk Tryd.prog X 39 ⟨f_spec_l1Cur_diskStep_i9c, f_spec_l1Cur_diskStep_i9v, f_spec_l1Cur_diskStep_i9e, f_spec_l1Cur_diskStep_i9⟩ (ifAt 9 Tryd.f46) ∧ True) by kernel_rfl) ⟨(f_spec_l1Cur_diskStep_i4Ok hX), (f_spec_l1Cur_diskStep_i9Ok hX), trivial⟩)).1)
    (fun x r h => (f_spec_l1Cur_diskStepEq x).trans h)
def fl70 : List (Nat × Sig) := [(46, sg46), (72, sg72), (75, sg75)]
def hi70 : List (Nat × (K × Mk)) := [(2, ((.sl kdDiskStep), (.o .s))), (3, ((.sl kdDiskStep), (.o .s)))]
def en70 : Env := { n := 22, ty := assocN tyL, fns := assocN fl70, lo := 1, hint := assocN hi70 }
def su70 : Bool → Nat → Option Sub | false, 4 => some ⟨f_spec_l1Cur_diskSteps_i4c, f_spec_l1Cur_diskSteps_i4v, f_spec_l1Cur_diskSteps_i4e, f_spec_l1Cur_diskSteps_i4⟩ | true, 5 => some ⟨f_spec_l1Cur_diskSteps_l5c, f_spec_l1Cur_diskSteps_l5v, f_spec_l1Cur_diskSteps_l5e, loopF f_spec_l1Cur_diskSteps_l5⟩ | _, _ => none
theorem ok70 : EnvOk Tryd.prog en70 := envOk_of rfl rfl tyL_ok (⟨so46, ⟨so72, ⟨so75, trivial⟩⟩⟩)
def su70i4 : Bool → Nat → Option Sub | true, 5 => some ⟨f_spec_l1Cur_diskSteps_l5c, f_spec_l1Cur_diskSteps_l5v, f_spec_l1Cur_diskSteps_l5e, loopF f_spec_l1Cur_diskSteps_l5⟩ | _, _ => none
theorem f_spec_l1Cur_diskSteps_i4Eq (R : Type) (c : Vars f_spec_l1Cur_diskSteps_i4c) (v : Vars f_spec_l1Cur_diskSteps_i4v) (kk : Vars f_spec_l1Cur_diskSteps_i4c → Oc f_spec_l1Cur_diskSteps_i4e → Option R) : evC en70 su70i4 (ifAt 4 Tryd.f70) (Desc.mk2 f_spec_l1Cur_diskSteps_i4v v (Desc.mk2 f_spec_l1Cur_diskSteps_i4c c .empty)) (fun o => chk f_spec_l1Cur_diskSteps_i4c f_spec_l1Cur_diskSteps_i4e o kk) = f_spec_l1Cur_diskSteps_i4 R c v kk := by kernel_rfl
theorem f_spec_l1Cur_diskSteps_i4Ok {X : Cx} (hX : en70.lo = X.lo) : SubOk Tryd.prog X 22 ⟨f_spec_l1Cur_diskSteps_i4c, f_spec_l1Cur_diskSteps_i4v, f_spec_l1Cur_diskSteps_i4e, f_spec_l1Cur_diskSteps_i4⟩ (ifAt 4 Tryd.f70) :=
  sub_if (u := ⟨f_spec_l1Cur_diskSteps_i4c, f_spec_l1Cur_diskSteps_i4v, f_spec_l1Cur_diskSteps_i4e, f_spec_l1Cur_diskSteps_i4⟩) (subs := su70i4) ok70 rfl hX (GoodN.good (K := True) (Eq.mpr (show GoodN Tryd.prog X 22 en70 su70i4 (ifAt 4 Tryd.f70) True = (True) by kernel_rfl) trivial)).1 (by decide) (by decide) f_spec_l1Cur_diskSteps_i4Eq
theorem f_spec_l1Cur_diskSteps_l5Eq (R : Type) (c : Vars f_spec_l1Cur_diskSteps_l5c) (v : Vars f_spec_l1Cur_diskSteps_l5v) (kk : Vars f_spec_l1Cur_diskSteps_l5c → (Vars f_spec_l1Cur_diskSteps_l5v ⊕ Oc f_spec_l1Cur_diskSteps_l5e) → Option R) : evC en70 su70 (loopAt 5 Tryd.f70) (Desc.mk2 f_spec_l1Cur_diskSteps_l5v v (Desc.mk2 f_spec_l1Cur_diskSteps_l5c c .empty)) (fun o => bodyK f_spec_l1Cur_diskSteps_l5c f_spec_l1Cur_diskSteps_l5v f_spec_l1Cur_diskSteps_l5e o kk) = f_spec_l1Cur_diskSteps_l5 R c v kk := by kernel_rfl
theorem f_spec_l1Cur_diskSteps_l5Ok {X : Cx} (hX : en70.lo = X.lo) : SubOk Tryd.prog X 22 ⟨f_spec_l1Cur_diskSteps_l5c, f_spec_l1Cur_diskSteps_l5v, f_spec_l1Cur_diskSteps_l5e, loopF f_spec_l1Cur_diskSteps_l5⟩ (.loop (loopAt 5 Tryd.f70)) :=
  sub_loop (subs := su70) ok70 rfl hX (GoodN.good (K := True) (Eq.mpr (show GoodN Tryd.prog X 22 en70 su70 (loopAt 5 Tryd.f70) True = (True) by kernel_rfl) trivial)).1 (by decide) (by decide) f_spec_l1Cur_diskSteps_l5Eq
theorem f_spec_l1Cur_diskStepsEq (x : Ps ins70) : evF en70 su70 Tryd.f70 ins70 res70 x = f_spec_l1Cur_diskSteps x := by kernel_rfl
theorem so70 : Sound Tryd.prog 70 sg70 :=
  sound_of (fn := Tryd.f70) (c := bodyOf Tryd.f70) (subs := su70) (E := en70) (by kernel_rfl) (by kernel_rfl) (by decide) ok70 (by kernel_rfl) (by kernel_rfl) (by decide)
    (fun X hX => (GoodN.good (K := True) (Eq.mpr (show GoodN Tryd.prog X 22 en70 su70 (bodyOf Tryd.f70) True = (SubOk Tryd.prog X 22 ⟨f_spec_l1Cur_diskSteps_i4c, f_spec_l1Cur_diskSteps_i4v, f_spec_l1Cur_diskSteps_i4e, f_spec_l1Cur_diskSteps_i4⟩ (ifAt 4 Tryd.f70) ∧ SubOk Tryd.prog X 22 ⟨f_spec_l1Cur_diskSteps_l5c, f_spec_l1Cur_diskSteps_l5v, f_spec_l1Cur_diskSteps_l5e, loopF f_spec_l1Cur_diskSteps_l5⟩ (.loop (loopAt 5 Tryd.f70)) ∧ True) by kernel_rfl) ⟨(f_spec_l1Cur_diskSteps_i4Ok hX), (f_spec_l1Cur_diskSteps_l5Ok hX), trivial⟩)).1)
    (fun x r h => (f_spec_l1Cur_diskStepsEq x).trans h)
def fl50 : List (Nat × Sig) := []
def en50 : Env := { n := 15, ty := assocN tyL, fns := assocN fl50, lo := 0 }
def su50 : Bool → Nat → Option Sub | _, _ => none
theorem ok50 : EnvOk Tryd.prog en50 := envOk_of rfl rfl tyL_ok (trivial)
theorem f_spec_l1InEq (x : Ps ins50) : evF en50 su50 Tryd.f50 ins50 res50 x = f_spec_l1In x := by kernel_rfl
theorem so50 : Sound Tryd.prog 50 sg50 :=
  sound_of (fn := Tryd.f50) (c := bodyOf Tryd.f50) (subs := su50) (E := en50) (by kernel_rfl) (by kernel_rfl) (by decide) ok50 (by kernel_rfl) (by kernel_rfl) (by decide)
    (fun X hX => (GoodN.good (K := True) (Eq.mpr (show GoodN Tryd.prog X 15 en50 su50 (bodyOf Tryd.f50) True = (True) by kernel_rfl) trivial)).1)
    (fun x r h => (f_spec_l1InEq x).trans h)
def fl33 : List (Nat × Sig) := [(50, sg50)]
def en33 : Env := { n := 10, ty := assocN tyL, fns := assocN fl33, lo := 0 }
def su33 : Bool → Nat → Option Sub | _, _ => none
theorem ok33 : EnvOk Tryd.prog en33 := envOk_of rfl rfl tyL_ok (⟨so50, trivial⟩)
theorem f_spec_NewDiskEq (x : Ps ins33) : evF en33 su33 Tryd.f33 ins33 res33 x = f_spec_NewDisk x := by kernel_rfl
theorem so33 : Sound Tryd.prog 33 sg33 :=
  sound_of (fn := Tryd.f33) (c := bodyOf Tryd.f33) (subs := su33) (E := en33) (by kernel_rfl) (by kernel_rfl) (by decide) ok33 (by kernel_rfl) (by kernel_rfl) (by decide)
    (fun X hX => (GoodN.good (K := True) (Eq.mpr (show GoodN Tryd.prog X 10 en33 su33 (bodyOf Tryd.f33) True = (True) by kernel_rfl) trivial)).1)
    (fun x r h => (f_spec_NewDiskEq x).trans h)
def fl35 : List (Nat × Sig) := []
def en35 : Env := { n := 19, ty := assocN tyL, fns := assocN fl35, lo := 0 }
def su35 : Bool → Nat → Option Sub | _, _ => none
theorem ok35 : EnvOk Tryd.prog en35 := envOk_of rfl rfl tyL_ok (trivial)
theorem f_spec_l1OwnEq (x : Ps ins35) : evF en35 su35 Tryd.f35 ins35 res35 x = f_spec_l1Own x := by kernel_rfl
theorem so35 : Sound Tryd.prog 35 sg35 :=
  sound_of (fn := Tryd.f35) (c := bodyOf Tryd.f35) (subs := su35) (E := en35) (by kernel_rfl) (by kernel_rfl) (by decide) ok35 (by kernel_rfl) (by kernel_rfl) (by decide)
    (fun X hX => (GoodN.good (K := True) (Eq.mpr (show GoodN Tryd.prog X 19 en35 su35 (bodyOf Tryd.f35) True = (True) by kernel_rfl) trivial)).1)
    (fun x r h => (f_spec_l1OwnEq x).trans h)
def fl63 : List (Nat × Sig) := [(50, sg50)]
def en63 : Env := { n := 36, ty := assocN tyL, fns := assocN fl63, lo := 0 }
def su63 : Bool → Nat → Option Sub | true, 2 => some ⟨f_spec_l1Name_l2c, f_spec_l1Name_l2v, f_spec_l1Name_l2e, loopF f_spec_l1Name_l2⟩ | _, _ => none
theorem ok63 : EnvOk Tryd.prog en63 := envOk_of rfl rfl tyL_ok (⟨so50, trivial⟩)
theorem f_spec_l1Name_l2Eq (R : Type) (c : Vars f_spec_l1Name_l2c) (v : Vars f_spec_l1Name_l2v) (kk : Vars f_spec_l1Name_l2c → (Vars f_spec_l1Name_l2v ⊕ Oc f_spec_l1Name_l2e) → Option R) : evC en63 su63 (loopAt 2 Tryd.f63) (Desc.mk2 f_spec_l1Name_l2v v (Desc.mk2 f_spec_l1Name_l2c c .empty)) (fun o => bodyK f_spec_l1Name_l2c f_spec_l1Name_l2v f_spec_l1Name_l2e o kk) = f_spec_l1Name_l2 R c v kk := by kernel_rfl
theorem f_spec_l1Name_l2Ok {X : Cx} (hX : en63.lo = X.lo) : SubOk Tryd.prog X 36 ⟨f_spec_l1Name_l2c, f_spec_l1Name_l2v, f_spec_l1Name_l2e, loopF f_spec_l1Name_l2⟩ (.loop (loopAt 2 Tryd.f63)) :=
  sub_loop (subs := su63) ok63 rfl hX (GoodN.good (K := True) (Eq.mpr (show GoodN Tryd.prog X 36 en63 su63 (loopAt 2 Tryd.f63) True = (True) by kernel_rfl) trivial)).1 (by decide) (by decide) f_spec_l1Name_l2Eq
theorem f_spec_l1NameEq (x : Ps ins63) : evF en63 su63 Tryd.f63 ins63 res63 x = f_spec_l1Name x := by kernel_rfl
theorem so63 : Sound Tryd.prog 63 sg63 :=
  sound_of (fn := Tryd.f63) (c := bodyOf Tryd.f63) (subs := su63) (E := en63) (by kernel_rfl) (by kernel_rfl) (by decide) ok63 (by kernel_rfl) (by kernel_rfl) (by decide)
    (fun X hX => (GoodN.good (K := True) (Eq.mpr (show GoodN Tryd.prog X 36 en63 su63 (bodyOf Tryd.f63) True = (SubOk Tryd.prog X 36 ⟨f_spec_l1Name_l2c, f_spec_l1Name_l2v, f_spec_l1Name_l2e, loopF f_spec_l1Name_l2⟩ (.loop (loopAt 2 Tryd.f63)) ∧ True) by kernel_rfl) ⟨(f_spec_l1Name_l2Ok hX), trivial⟩)).1)
    (fun x r h => (f_spec_l1NameEq x).trans h)
def fl64 : List (Nat × Sig) := []
def en64 : Env := { n := 36, ty := assocN tyL, fns := assocN fl64, lo := 0 }
def su64 : Bool → Nat → Option Sub | true, 2 => some ⟨f_spec_l1At_l2c, f_spec_l1At_l2v, f_spec_l1At_l2e, loopF f_spec_l1At_l2⟩ | _, _ => none
theorem ok64 : EnvOk Tryd.prog en64 := envOk_of rfl rfl tyL_ok (trivial)
theorem dr64r4 {X : Cx} (hX : en64.lo = X.lo) : RegOk Tryd.prog X 36 en64 4 (regAt 4 Tryd.f64) := regOk_of ok64 rfl hX (by kernel_rfl) (by kernel_rfl)
theorem f_spec_l1At_l2Eq (R : Type) (c : Vars f_spec_l1At_l2c) (v : Vars f_spec_l1At_l2v) (kk : Vars f_spec_l1At_l2c → (Vars f_spec_l1At_l2v ⊕ Oc f_spec_l1At_l2e) → Option R) : evC en64 su64 (loopAt 2 Tryd.f64) (Desc.mk2 f_spec_l1At_l2v v (Desc.mk2 f_spec_l1At_l2c c .empty)) (fun o => bodyK f_spec_l1At_l2c f_spec_l1At_l2v f_spec_l1At_l2e o kk) = f_spec_l1At_l2 R c v kk := by kernel_rfl
theorem f_spec_l1At_l2Ok {X : Cx} (hX : en64.lo = X.lo) : SubOk Tryd.prog X 36 ⟨f_spec_l1At_l2c, f_spec_l1At_l2v, f_spec_l1At_l2e, loopF f_spec_l1At_l2⟩ (.loop (loopAt 2 Tryd.f64)) :=
  sub_loop (subs := su64) ok64 rfl hX (GoodN.good (K := True) (Eq.mpr (show GoodN Tryd.prog X 36 en64 su64 (loopAt 2 Tryd.f64) True = (True) by kernel_rfl) trivial)).1 (by decide) (by decide) f_spec_l1At_l2Eq
theorem f_spec_l1AtEq (x : Ps ins64) : evF en64 su64 Tryd.f64 ins64 res64 x = f_spec_l1At x := by kernel_rfl
theorem so64 : Sound Tryd.prog 64 sg64 :=
  sound_of (fn := Tryd.f64) (c := bodyOf Tryd.f64) (subs := su64) (E := en64) (by kernel_rfl) (by kernel_rfl) (by decide) ok64 (by kernel_rfl) (by kernel_rfl) (by decide)
    (fun X hX => (GoodN.good (K := True) (Eq.mpr (show GoodN Tryd.prog X 36 en64 su64 (bodyOf Tryd.f64) True = (SubOk Tryd.prog X 36 ⟨f_spec_l1At_l2c, f_spec_l1At_l2v, f_spec_l1At_l2e, loopF f_spec_l1At_l2⟩ (.loop (loopAt 2 Tryd.f64)) ∧ RegOk Tryd.prog X 36 en64 4 (regAt 4 Tryd.f64) ∧ True) by kernel_rfl) ⟨(f_spec_l1At_l2Ok hX), (dr64r4 hX), trivial⟩)).1)
    (fun x r h => (f_spec_l1AtEq x).trans h)
def fl65 : List (Nat × Sig) := [(64, sg64)]
def hi65 : List (Nat × (K × Mk)) := [(4, ((.sl kdBlob), (.o .s))), (7, ((.sl kdBlob), (.o .s)))]
def en65 : Env := { n := 32, ty := assocN tyL, fns := assocN fl65, lo := 0, hint := assocN hi65 }
def su65 : Bool → Nat → Option Sub | false, 6 => some ⟨f_spec_l1Put_i6c, f_spec_l1Put_i6v, f_spec_l1Put_i6e, f_spec_l1Put_i6⟩ | _, _ => none
theorem ok65 : EnvOk Tryd.prog en65 := envOk_of rfl rfl tyL_ok (⟨so64, trivial⟩)
def su65i6 : Bool → Nat → Option Sub | _, _ => none
theorem f_spec_l1Put_i6Eq (R : Type) (c : Vars f_spec_l1Put_i6c) (v : Vars f_spec_l1Put_i6v) (kk : Vars f_spec_l1Put_i6c → Oc f_spec_l1Put_i6e → Option R) : evC en65 su65i6 (ifAt 6 Tryd.f65) (Desc.mk2 f_spec_l1Put_i6v v (Desc.mk2 f_spec_l1Put_i6c c .empty)) (fun o => chk f_spec_l1Put_i6c f_spec_l1Put_i6e o kk) = f_spec_l1Put_i6 R c v kk := by kernel_rfl
theorem f_spec_l1Put_i6Ok {X : Cx} (hX : en65.lo = X.lo) : SubOk Tryd.prog X 32 ⟨f_spec_l1Put_i6c, f_spec_l1Put_i6v, f_spec_l1Put_i6e, f_spec_l1Put_i6⟩ (ifAt 6 Tryd.f65) :=
  sub_if (u := ⟨f_spec_l1Put_i6c, f_spec_l1Put_i6v, f_spec_l1Put_i6e, f_spec_l1Put_i6⟩) (subs := su65i6) ok65 rfl hX (GoodN.good (K := True) (Eq.mpr (show GoodN Tryd.prog X 32 en65 su65i6 (ifAt 6 Tryd.f65) True = (True) by kernel_rfl) trivial)).1 (by decide) (by decide) f_spec_l1Put_i6Eq
theorem f_spec_l1PutEq (x : Ps ins65) : evF en65 su65 Tryd.f65 ins65 res65 x = f_spec_l1Put x := by kernel_rfl
theorem so65 : Sound Tryd.prog 65 sg65 :=
  sound_of (fn := Tryd.f65) (c := bodyOf Tryd.f65) (subs := su65) (E := en65) (by kernel_rfl) (by kernel_rfl) (by decide) ok65 (by kernel_rfl) (by kernel_rfl) (by decide)
    (fun X hX => (GoodN.good (K := True) (Eq.mpr (show GoodN Tryd.prog X 32 en65 su65 (bodyOf Tryd.f65) True = (SubOk Tryd.prog X 32 ⟨f_spec_l1Put_i6c, f_spec_l1Put_i6v, f_spec_l1Put_i6e, f_spec_l1Put_i6⟩ (ifAt 6 Tryd.f65) ∧ True) by kernel_rfl) ⟨(f_spec_l1Put_i6Ok hX), trivial⟩)).1)
    (fun x r h => (f_spec_l1PutEq x).trans h)
def fl66 : List (Nat × Sig) := [(64, sg64)]
def hi66 : List (Nat × (K × Mk)) := [(4, ((.sl kdBlob), (.o .s)))]
def dw66 : List (Nat × List (List Nat × List Nat)) := [(4, [([16], []), ([], []), ([], []), ([0, 19], []), ([20], [0]), ([], []), ([], []), ([23], []), ([0, 24], []), ([20, 25], [0]), ([4, 25], [])])]
def en66 : Env := { n := 26, ty := assocN tyL, fns := assocN fl66, lo := 0, hint := assocN hi66, draw := drawOf dw66 }
def su66 : Bool → Nat → Option Sub | _, _ => none
theorem ok66 : EnvOk Tryd.prog en66 := envOk_of rfl rfl tyL_ok (⟨so64, trivial⟩)
theorem dr66r4 {X : Cx} (hX : en66.lo = X.lo) : RegOk Tryd.prog X 26 en66 4 (regAt 4 Tryd.f66) := regOk_of ok66 rfl hX (by kernel_rfl) (by kernel_rfl)
theorem f_spec_l1WithoutEq (x : Ps ins66) : evF en66 su66 Tryd.f66 ins66 res66 x = f_spec_l1Without x := by kernel_rfl
theorem so66 : Sound Tryd.prog 66 sg66 :=
  sound_of (fn := Tryd.f66) (c := bodyOf Tryd.f66) (subs := su66) (E := en66) (by kernel_rfl) (by kernel_rfl) (by decide) ok66 (by kernel_rfl) (by kernel_rfl) (by decide)
    (fun X hX => (GoodN.good (K := True) (Eq.mpr (show GoodN Tryd.prog X 26 en66 su66 (bodyOf Tryd.f66) True = (RegOk Tryd.prog X 26 en66 4 (regAt 4 Tryd.f66) ∧ True) by kernel_rfl) ⟨(dr66r4 hX), trivial⟩)).1)
    (fun x r h => (f_spec_l1WithoutEq x).trans h)
def fl67 : List (Nat × Sig) := []
def en67 : Env := { n := 46, ty := assocN tyL, fns := assocN fl67, lo := 0 }
def su67 : Bool → Nat → Option Sub | false, 7 => some ⟨f_spec_l1Crash_i7c, f_spec_l1Crash_i7v, f_spec_l1Crash_i7e, f_spec_l1Crash_i7⟩ | true, 3 => some ⟨f_spec_l1Crash_l3c, f_spec_l1Crash_l3v, f_spec_l1Crash_l3e, loopF f_spec_l1Crash_l3⟩ | _, _ => none
theorem ok67 : EnvOk Tryd.prog en67 := envOk_of rfl rfl tyL_ok (trivial)
theorem dr67r8 {X : Cx} (hX : en67.lo = X.lo) : RegOk Tryd.prog X 46 en67 8 (regAt 8 Tryd.f67) := regOk_of ok67 rfl hX (by kernel_rfl) (by kernel_rfl)
def su67i7 : Bool → Nat → Option Sub | true, 3 => some ⟨f_spec_l1Crash_l3c, f_spec_l1Crash_l3v, f_spec_l1Crash_l3e, loopF f_spec_l1Crash_l3⟩ | _, _ => none
theorem f_spec_l1Crash_i7Eq (R : Type) (c : Vars f_spec_l1Crash_i7c) (v : Vars f_spec_l1Crash_i7v) (kk : Vars f_spec_l1Crash_i7c → Oc f_spec_l1Crash_i7e → Option R) : evC en67 su67i7 (ifAt 7 Tryd.f67) (Desc.mk2 f_spec_l1Crash_i7v v (Desc.mk2 f_spec_l1Crash_i7c c .empty)) (fun o => chk f_spec_l1Crash_i7c f_spec_l1Crash_i7e o kk) = f_spec_l1Crash_i7 R c v kk := by kernel_rfl
theorem f_spec_l1Crash_i7Ok {X : Cx} (hX : en67.lo = X.lo) : SubOk Tryd.prog X 46 ⟨f_spec_l1Crash_i7c, f_spec_l1Crash_i7v, f_spec_l1Crash_i7e, f_spec_l1Crash_i7⟩ (ifAt 7 Tryd.f67) :=
  sub_if (u := ⟨f_spec_l1Crash_i7c, f_spec_l1Crash_i7v, f_spec_l1Crash_i7e, f_spec_l1Crash_i7⟩) (subs := su67i7) ok67 rfl hX (GoodN.good (K := True) (Eq.mpr (show GoodN Tryd.prog X 46 en67 su67i7 (ifAt 7 Tryd.f67) True = (True) by kernel_rfl) trivial)).1 (by decide) (by decide) f_spec_l1Crash_i7Eq
theorem f_spec_l1Crash_l3Eq (R : Type) (c : Vars f_spec_l1Crash_l3c) (v : Vars f_spec_l1Crash_l3v) (kk : Vars f_spec_l1Crash_l3c → (Vars f_spec_l1Crash_l3v ⊕ Oc f_spec_l1Crash_l3e) → Option R) : evC en67 su67 (loopAt 3 Tryd.f67) (Desc.mk2 f_spec_l1Crash_l3v v (Desc.mk2 f_spec_l1Crash_l3c c .empty)) (fun o => bodyK f_spec_l1Crash_l3c f_spec_l1Crash_l3v f_spec_l1Crash_l3e o kk) = f_spec_l1Crash_l3 R c v kk := by kernel_rfl
theorem f_spec_l1Crash_l3Ok {X : Cx} (hX : en67.lo = X.lo) : SubOk Tryd.prog X 46 ⟨f_spec_l1Crash_l3c, f_spec_l1Crash_l3v, f_spec_l1Crash_l3e, loopF f_spec_l1Crash_l3⟩ (.loop (loopAt 3 Tryd.f67)) :=
  sub_loop (subs := su67) ok67 rfl hX (GoodN.good (K := True) (Eq.mpr (show GoodN Tryd.prog X 46 en67 su67 (loopAt 3 Tryd.f67) True = (SubOk Tryd.prog X 46 ⟨f_spec_l1Crash_i7c, f_spec_l1Crash_i7v, f_spec_l1Crash_i7e, f_spec_l1Crash_i7⟩ (ifAt 7 Tryd.f67) ∧ RegOk Tryd.prog X 46 en67 8 (regAt 8 Tryd.f67) ∧ True) by kernel_rfl) ⟨(f_spec_l1Crash_i7Ok hX), (dr67r8 hX), trivial⟩)).1 (by decide) (by decide) f_spec_l1Crash_l3Eq
theorem f_spec_l1CrashEq (x : Ps ins67) : evF en67 su67 Tryd.f67 ins67 res67 x = f_spec_l1Crash x := by kernel_rfl
theorem so67 : Sound Tryd.prog 67 sg67 :=
  sound_of (fn := Tryd.f67) (c := bodyOf Tryd.f67) (subs := su67) (E := en67) (by kernel_rfl) (by kernel_rfl) (by decide) ok67 (by kernel_rfl) (by kernel_rfl) (by decide)
    (fun X hX => (GoodN.good (K := True) (Eq.mpr (show GoodN Tryd.prog X 46 en67 su67 (bodyOf Tryd.f67) True = (SubOk Tryd.prog X 46 ⟨f_spec_l1Crash_l3c, f_spec_l1Crash_l3v, f_spec_l1Crash_l3e, loopF f_spec_l1Crash_l3⟩ (.loop (loopAt 3 Tryd.f67)) ∧ True) by kernel_rfl) ⟨(f_spec_l1Crash_l3Ok hX), trivial⟩)).1)
    (fun x r h => (f_spec_l1CrashEq x).trans h)
def fl52 : List (Nat × Sig) := []
def en52 : Env := { n := 57, ty := assocN tyL, fns := assocN fl52, lo := 0 }
def su52 : Bool → Nat → Option Sub | true, 7 => some ⟨f_spec_l1Used_l7c, f_spec_l1Used_l7v, f_spec_l1Used_l7e, loopF f_spec_l1Used_l7⟩ | true, 12 => some ⟨f_spec_l1Used_l12c, f_spec_l1Used_l12v, f_spec_l1Used_l12e, loopF f_spec_l1Used_l12⟩ | false, 17 => some ⟨f_spec_l1Used_i17c, f_spec_l1Used_i17v, f_spec_l1Used_i17e, f_spec_l1Used_i17⟩ | true, 3 => some ⟨f_spec_l1Used_l3c, f_spec_l1Used_l3v, f_spec_l1Used_l3e, loopF f_spec_l1Used_l3⟩ | _, _ => none
theorem ok52 : EnvOk Tryd.prog en52 := envOk_of rfl rfl tyL_ok (trivial)
theorem f_spec_l1Used_l7Eq (R : Type) (c : Vars f_spec_l1Used_l7c) (v : Vars f_spec_l1Used_l7v) (kk : Vars f_spec_l1Used_l7c → (Vars f_spec_l1Used_l7v ⊕ Oc f_spec_l1Used_l7e) → Option R) : evC en52 su52 (loopAt 7 Tryd.f52) (Desc.mk2 f_spec_l1Used_l7v v (Desc.mk2 f_spec_l1Used_l7c c .empty)) (fun o => bodyK f_spec_l1Used_l7c f_spec_l1Used_l7v f_spec_l1Used_l7e o kk) = f_spec_l1Used_l7 R c v kk := by kernel_rfl
theorem f_spec_l1Used_l7Ok {X : Cx} (hX : en52.lo = X.lo) : SubOk Tryd.prog X 57 ⟨f_spec_l1Used_l7c, f_spec_l1Used_l7v, f_spec_l1Used_l7e, loopF f_spec_l1Used_l7⟩ (.loop (loopAt 7 Tryd.f52)) :=
  sub_loop (subs := su52) ok52 rfl hX (GoodN.good (K := True) (Eq.mpr (show GoodN Tryd.prog X 57 en52 su52 (loopAt 7 Tryd.f52) True = (True) by kernel_rfl) trivial)).1 (by decide) (by decide) f_spec_l1Used_l7Eq
theorem f_spec_l1Used_l12Eq (R : Type) (c : Vars f_spec_l1Used_l12c) (v : Vars f_spec_l1Used_l12v) (kk : Vars f_spec_l1Used_l12c → (Vars f_spec_l1Used_l12v ⊕ Oc f_spec_l1Used_l12e) → Option R) : evC en52 su52 (loopAt 12 Tryd.f52) (Desc.mk2 f_spec_l1Used_l12v v (Desc.mk2 f_spec_l1Used_l12c c .empty)) (fun o => bodyK f_spec_l1Used_l12c f_spec_l1Used_l12v f_spec_l1Used_l12e o kk) = f_spec_l1Used_l12 R c v kk := by kernel_rfl
theorem f_spec_l1Used_l12Ok {X : Cx} (hX : en52.lo = X.lo) : SubOk Tryd.prog X 57 ⟨f_spec_l1Used_l12c, f_spec_l1Used_l12v, f_spec_l1Used_l12e, loopF f_spec_l1Used_l12⟩ (.loop (loopAt 12 Tryd.f52)) :=
  sub_loop (subs := su52) ok52 rfl hX (GoodN.good (K := True) (Eq.mpr (show GoodN Tryd.prog X 57 en52 su52 (loopAt 12 Tryd.f52) True = (True) by kernel_rfl) trivial)).1 (by decide) (by decide) f_spec_l1Used_l12Eq
def su52i17 : Bool → Nat → Option Sub | true, 7 => some ⟨f_spec_l1Used_l7c, f_spec_l1Used_l7v, f_spec_l1Used_l7e, loopF f_spec_l1Used_l7⟩ | true, 12 => some ⟨f_spec_l1Used_l12c, f_spec_l1Used_l12v, f_spec_l1Used_l12e, loopF f_spec_l1Used_l12⟩ | true, 3 => some ⟨f_spec_l1Used_l3c, f_spec_l1Used_l3v, f_spec_l1Used_l3e, loopF f_spec_l1Used_l3⟩ | _, _ => none
theorem f_spec_l1Used_i17Eq (R : Type) (c : Vars f_spec_l1Used_i17c) (v : Vars f_spec_l1Used_i17v) (kk : Vars f_spec_l1Used_i17c → Oc f_spec_l1Used_i17e → Option R) : evC en52 su52i17 (ifAt 17 Tryd.f52) (Desc.mk2 f_spec_l1Used_i17v v (Desc.mk2 f_spec_l1Used_i17c c .empty)) (fun o => chk f_spec_l1Used_i17c f_spec_l1Used_i17e o kk) = f_spec_l1Used_i17 R c v kk := by kernel_rfl
theorem f_spec_l1Used_i17Ok {X : Cx} (hX : en52.lo = X.lo) : SubOk Tryd.prog X 57 ⟨f_spec_l1Used_i17c, f_spec_l1Used_i17v, f_spec_l1Used_i17e, f_spec_l1Used_i17⟩ (ifAt 17 Tryd.f52) :=
  sub_if (u := ⟨f_spec_l1Used_i17c, f_spec_l1Used_i17v, f_spec_l1Used_i17e, f_spec_l1Used_i17⟩) (subs := su52i17) ok52 rfl hX (GoodN.good (K := True) (Eq.mpr (show GoodN Tryd.prog X 57 en52 su52i17 (ifAt 17 Tryd.f52) True = (True) by kernel_rfl) trivial)).1 (by decide) (by decide) f_spec_l1Used_i17Eq
theorem f_spec_l1Used_l3Eq (R : Type) (c : Vars f_spec_l1Used_l3c) (v : Vars f_spec_l1Used_l3v) (kk : Vars f_spec_l1Used_l3c → (Vars f_spec_l1Used_l3v ⊕ Oc f_spec_l1Used_l3e) → Option R) : evC en52 su52 (loopAt 3 Tryd.f52) (Desc.mk2 f_spec_l1Used_l3v v (Desc.mk2 f_spec_l1Used_l3c c .empty)) (fun o => bodyK f_spec_l1Used_l3c f_spec_l1Used_l3v f_spec_l1Used_l3e o kk) = f_spec_l1Used_l3 R c v kk := by kernel_rfl
theorem f_spec_l1Used_l3Ok {X : Cx} (hX : en52.lo = X.lo) : SubOk Tryd.prog X 57 ⟨f_spec_l1Used_l3c, f_spec_l1Used_l3v, f_spec_l1Used_l3e, loopF f_spec_l1Used_l3⟩ (.loop (loopAt 3 Tryd.f52)) :=
  sub_loop (subs := su52) ok52 rfl hX (GoodN.good (K := True) (Eq.mpr (show GoodN Tryd.prog X 57 en52 su52 (loopAt 3 Tryd.f52) True = (SubOk Tryd.prog X 57 ⟨f_spec_l1Used_l7c, f_spec_l1Used_l7v, f_spec_l1Used_l7e, loopF f_spec_l1Used_l7⟩ (.loop (loopAt 7 Tryd.f52)) ∧ SubOk Tryd.prog X 57 ⟨f_spec_l1Used_l12c, f_spec_l1Used_l12v, f_spec_l1Used_l12e, loopF f_spec_l1Used_l12⟩ (.loop (loopAt 12 Tryd.f52)) ∧ SubOk Tryd.prog X 57 ⟨f_spec_l1Used_i17c, f_spec_l1Used_i17v, f_spec_l1Used_i17e, f_spec_l1Used_i17⟩ (ifAt 17 Tryd.f52) ∧ True) by kernel_rfl) ⟨(f_spec_l1Used_l7Ok hX), (f_spec_l1Used_l12Ok hX), (f_spec_l1Used_i17Ok hX), trivial⟩)).1 (by decide) (by decide) f_spec_l1Used_l3Eq
theorem f_spec_l1UsedEq (x : Ps ins52) : evF en52 su52 Tryd.f52 ins52 res52 x = f_spec_l1Used x := by kernel_rfl
theorem so52 : Sound Tryd.prog 52 sg52 :=
  sound_of (fn := Tryd.f52) (c := bodyOf Tryd.f52) (subs := su52) (E := en52) (by kernel_rfl) (by kernel_rfl) (by decide) ok52 (by kernel_rfl) (by kernel_rfl) (by decide)
    (fun X hX => (GoodN.good (K := True) (Eq.mpr (show GoodN Tryd.prog X 57 en52 su52 (bodyOf Tryd.f52) True = (SubOk Tryd.prog X 57 ⟨f_spec_l1Used_l3c, f_spec_l1Used_l3v, f_spec_l1Used_l3e, loopF f_spec_l1Used_l3⟩ (.loop (loopAt 3 Tryd.f52)) ∧ True) by kernel_rfl) ⟨(f_spec_l1Used_l3Ok hX), trivial⟩)).1)
    (fun x r h => (f_spec_l1UsedEq x).trans h)
def fl51 : List (Nat × Sig) := [(50, sg50), (63, sg63)]
def en51 : Env := { n := 45, ty := assocN tyL, fns := assocN fl51, lo := 0 }
def su51 : Bool → Nat → Option Sub | true, 2 => some ⟨f_spec_l1Names_l2c, f_spec_l1Names_l2v, f_spec_l1Names_l2e, loopF f_spec_l1Names_l2⟩ | _, _ => none
theorem ok51 : EnvOk Tryd.prog en51 := envOk_of rfl rfl tyL_ok (⟨so50, ⟨so63, trivial⟩⟩)
theorem dr51r4 {X : Cx} (hX : en51.lo = X.lo) : RegOk Tryd.prog X 45 en51 4 (regAt 4 Tryd.f51) := regOk_of ok51 rfl hX (by kernel_rfl) (by kernel_rfl)
theorem f_spec_l1Names_l2Eq (R : Type) (c : Vars f_spec_l1Names_l2c) (v : Vars f_spec_l1Names_l2v) (kk : Vars f_spec_l1Names_l2c → (Vars f_spec_l1Names_l2v ⊕ Oc f_spec_l1Names_l2e) → Option R) : evC en51 su51 (loopAt 2 Tryd.f51) (Desc.mk2 f_spec_l1Names_l2v v (Desc.mk2 f_spec_l1Names_l2c c .empty)) (fun o => bodyK f_spec_l1Names_l2c f_spec_l1Names_l2v f_spec_l1Names_l2e o kk) = f_spec_l1Names_l2 R c v kk := by kernel_rfl
theorem f_spec_l1Names_l2Ok {X : Cx} (hX : en51.lo = X.lo) : SubOk Tryd.prog X 45 ⟨f_spec_l1Names_l2c, f_spec_l1Names_l2v, f_spec_l1Names_l2e, loopF f_spec_l1Names_l2⟩ (.loop (loopAt 2 Tryd.f51)) :=
  sub_loop (subs := su51) ok51 rfl hX (GoodN.good (K := True) (Eq.mpr (show GoodN Tryd.prog X 45 en51 su51 (loopAt 2 Tryd.f51) True = (RegOk Tryd.prog X 45 en51 4 (regAt 4 Tryd.f51) ∧ True) by kernel_rfl) ⟨(dr51r4 hX), trivial⟩)).1 (by decide) (by decide) f_spec_l1Names_l2Eq
theorem f_spec_l1NamesEq (x : Ps ins51) : evF en51 su51 Tryd.f51 ins51 res51 x = f_spec_l1Names x := by kernel_rfl
theorem so51 : Sound Tryd.prog 51 sg51 :=
  sound_of (fn := Tryd.f51) (c := bodyOf Tryd.f51) (subs := su51) (E := en51) (by kernel_rfl) (by kernel_rfl) (by decide) ok51 (by kernel_rfl) (by kernel_rfl) (by decide)
    (fun X hX => (GoodN.good (K := True) (Eq.mpr (show GoodN Tryd.prog X 45 en51 su51 (bodyOf Tryd.f51) True = (SubOk Tryd.prog X 45 ⟨f_spec_l1Names_l2c, f_spec_l1Names_l2v, f_spec_l1Names_l2e, loopF f_spec_l1Names_l2⟩ (.loop (loopAt 2 Tryd.f51)) ∧ True) by kernel_rfl) ⟨(f_spec_l1Names_l2Ok hX), trivial⟩)).1)
    (fun x r h => (f_spec_l1NamesEq x).trans h)
def fl22 : List (Nat × Sig) := [(50, sg50), (51, sg51), (52, sg52)]
def en22 : Env := { n := 58, ty := assocN tyL, fns := assocN fl22, lo := 0 }
def su22 : Bool → Nat → Option Sub | true, 2 => some ⟨f_spec_GoodDisk_l2c, f_spec_GoodDisk_l2v, f_spec_GoodDisk_l2e, loopF f_spec_GoodDisk_l2⟩ | _, _ => none
theorem ok22 : EnvOk Tryd.prog en22 := envOk_of rfl rfl tyL_ok (⟨so50, ⟨so51, ⟨so52, trivial⟩⟩⟩)
theorem dr22r7 {X : Cx} (hX : en22.lo = X.lo) : RegOk Tryd.prog X 58 en22 7 (regAt 7 Tryd.f22) := regOk_of ok22 rfl hX (by kernel_rfl) (by kernel_rfl)
theorem f_spec_GoodDisk_l2Eq (R : Type) (c : Vars f_spec_GoodDisk_l2c) (v : Vars f_spec_GoodDisk_l2v) (kk : Vars f_spec_GoodDisk_l2c → (Vars f_spec_GoodDisk_l2v ⊕ Oc f_spec_GoodDisk_l2e) → Option R) : evC en22 su22 (loopAt 2 Tryd.f22) (Desc.mk2 f_spec_GoodDisk_l2v v (Desc.mk2 f_spec_GoodDisk_l2c c .empty)) (fun o => bodyK f_spec_GoodDisk_l2c f_spec_GoodDisk_l2v f_spec_GoodDisk_l2e o kk) = f_spec_GoodDisk_l2 R c v kk := by kernel_rfl
theorem f_spec_GoodDisk_l2Ok {X : Cx} (hX : en22.lo = X.lo) : SubOk Tryd.prog X 58 ⟨f_spec_GoodDisk_l2c, f_spec_GoodDisk_l2v, f_spec_GoodDisk_l2e, loopF f_spec_GoodDisk_l2⟩ (.loop (loopAt 2 Tryd.f22)) :=
  sub_loop (subs := su22) ok22 rfl hX (GoodN.good (K := True) (Eq.mpr (show GoodN Tryd.prog X 58 en22 su22 (loopAt 2 Tryd.f22) True = (True) by kernel_rfl) trivial)).1 (by decide) (by decide) f_spec_GoodDisk_l2Eq
theorem f_spec_GoodDiskEq (x : Ps ins22) : evF en22 su22 Tryd.f22 ins22 res22 x = f_spec_GoodDisk x := by kernel_rfl
theorem so22 : Sound Tryd.prog 22 sg22 :=
  sound_of (fn := Tryd.f22) (c := bodyOf Tryd.f22) (subs := su22) (E := en22) (by kernel_rfl) (by kernel_rfl) (by decide) ok22 (by kernel_rfl) (by kernel_rfl) (by decide)
    (fun X hX => (GoodN.good (K := True) (Eq.mpr (show GoodN Tryd.prog X 58 en22 su22 (bodyOf Tryd.f22) True = (SubOk Tryd.prog X 58 ⟨f_spec_GoodDisk_l2c, f_spec_GoodDisk_l2v, f_spec_GoodDisk_l2e, loopF f_spec_GoodDisk_l2⟩ (.loop (loopAt 2 Tryd.f22)) ∧ RegOk Tryd.prog X 58 en22 7 (regAt 7 Tryd.f22) ∧ True) by kernel_rfl) ⟨(f_spec_GoodDisk_l2Ok hX), (dr22r7 hX), trivial⟩)).1)
    (fun x r h => (f_spec_GoodDiskEq x).trans h)
def fl34 : List (Nat × Sig) := [(22, sg22), (50, sg50), (63, sg63), (64, sg64), (65, sg65), (66, sg66), (67, sg67)]
def dw34 : List (Nat × List (List Nat × List Nat)) := [(24, [([2, 171], []), ([2, 172], []), ([3, 173], []), ([3, 174], []), ([2, 175], []), ([3, 176], []), ([3, 177], []), ([], []), ([179], []), ([180], [175]), ([2, 181], []), ([2, 180], [])])]
def en34 : Env := { n := 212, ty := assocN tyL, fns := assocN fl34, lo := 0, draw := drawOf dw34 }
def su34 : Bool → Nat → Option Sub | false, 13 => some ⟨f_spec_l1Do_i13c, f_spec_l1Do_i13v, f_spec_l1Do_i13e, f_spec_l1Do_i13⟩ | false, 30 => some ⟨f_spec_l1Do_i30c, f_spec_l1Do_i30v, f_spec_l1Do_i30e, f_spec_l1Do_i30⟩ | false, 28 => some ⟨f_spec_l1Do_i28c, f_spec_l1Do_i28v, f_spec_l1Do_i28e, f_spec_l1Do_i28⟩ | false, 26 => some ⟨f_spec_l1Do_i26c, f_spec_l1Do_i26v, f_spec_l1Do_i26e, f_spec_l1Do_i26⟩ | false, 24 => some ⟨f_spec_l1Do_i24c, f_spec_l1Do_i24v, f_spec_l1Do_i24e, f_spec_l1Do_i24⟩ | false, 22 => some ⟨f_spec_l1Do_i22c, f_spec_l1Do_i22v, f_spec_l1Do_i22e, f_spec_l1Do_i22⟩ | false, 20 => some ⟨f_spec_l1Do_i20c, f_spec_l1Do_i20v, f_spec_l1Do_i20e, f_spec_l1Do_i20⟩ | false, 17 => some ⟨f_spec_l1Do_i17c, f_spec_l1Do_i17v, f_spec_l1Do_i17e, f_spec_l1Do_i17⟩ | _, _ => none
theorem ok34 : EnvOk Tryd.prog en34 := envOk_of rfl rfl tyL_ok (⟨so22, ⟨so50, ⟨so63, ⟨so64, ⟨so65, ⟨so66, ⟨so67, trivial⟩⟩⟩⟩⟩⟩⟩)
theorem dr34r20 {X : Cx} (hX : en34.lo = X.lo) : RegOk Tryd.prog X 212 en34 20 (regAt 20 Tryd.f34) := regOk_of ok34 rfl hX (by kernel_rfl) (by kernel_rfl)
theorem dr34r22 {X : Cx} (hX : en34.lo = X.lo) : RegOk Tryd.prog X 212 en34 22 (regAt 22 Tryd.f34) := regOk_of ok34 rfl hX (by kernel_rfl) (by kernel_rfl)
theorem dr34r24 {X : Cx} (hX : en34.lo = X.lo) : RegOk Tryd.prog X 212 en34 24 (regAt 24 Tryd.f34) := regOk_of ok34 rfl hX (by kernel_rfl) (by kernel_rfl)
def su34i13 : Bool → Nat → Option Sub | false, 30 => some ⟨f_spec_l1Do_i30c, f_spec_l1Do_i30v, f_spec_l1Do_i30e, f_spec_l1Do_i30⟩ | false, 28 => some ⟨f_spec_l1Do_i28c, f_spec_l1Do_i28v, f_spec_l1Do_i28e, f_spec_l1Do_i28⟩ | false, 26 => some ⟨f_spec_l1Do_i26c, f_spec_l1Do_i26v, f_spec_l1Do_i26e, f_spec_l1Do_i26⟩ | false, 24 => some ⟨f_spec_l1Do_i24c, f_spec_l1Do_i24v, f_spec_l1Do_i24e, f_spec_l1Do_i24⟩ | false, 22 => some ⟨f_spec_l1Do_i22c, f_spec_l1Do_i22v, f_spec_l1Do_i22e, f_spec_l1Do_i22⟩ | false, 20 => some ⟨f_spec_l1Do_i20c, f_spec_l1Do_i20v, f_spec_l1Do_i20e, f_spec_l1Do_i20⟩ | false, 17 => some ⟨f_spec_l1Do_i17c, f_spec_l1Do_i17v, f_spec_l1Do_i17e, f_spec_l1Do_i17⟩ | _, _ => none
theorem f_spec_l1Do_i13Eq (R : Type) (c : Vars f_spec_l1Do_i13c) (v : Vars f_spec_l1Do_i13v) (kk : Vars f_spec_l1Do_i13c → Oc f_spec_l1Do_i13e → Option R) : evC en34 su34i13 (ifAt 13 Tryd.f34) (Desc.mk2 f_spec_l1Do_i13v v (Desc.mk2 f_spec_l1Do_i13c c .empty)) (fun o => chk f_spec_l1Do_i13c f_spec_l1Do_i13e o kk) = f_spec_l1Do_i13 R c v kk := by kernel_rfl
theorem f_spec_l1Do_i13Ok {X : Cx} (hX : en34.lo = X.lo) : SubOk Tryd.prog X 212 ⟨f_spec_l1Do_i13c, f_spec_l1Do_i13v, f_spec_l1Do_i13e, f_spec_l1Do_i13⟩ (ifAt 13 Tryd.f34) :=
  sub_if (u := ⟨f_spec_l1Do_i13c, f_spec_l1Do_i13v, f_spec_l1Do_i13e, f_spec_l1Do_i13⟩) (subs := su34i13) ok34 rfl hX (GoodN.good (K := True) (Eq.mpr (show GoodN Tryd.prog X 212 en34 su34i13 (ifAt 13 Tryd.f34) True = (True) by kernel_rfl) trivial)).1 (by decide) (by decide) f_spec_l1Do_i13Eq
def su34i30 : Bool → Nat → Option Sub | false, 13 => some ⟨f_spec_l1Do_i13c, f_spec_l1Do_i13v, f_spec_l1Do_i13e, f_spec_l1Do_i13⟩ | false, 28 => some ⟨f_spec_l1Do_i28c, f_spec_l1Do_i28v, f_spec_l1Do_i28e, f_spec_l1Do_i28⟩ | false, 26 => some ⟨f_spec_l1Do_i26c, f_spec_l1Do_i26v, f_spec_l1Do_i26e, f_spec_l1Do_i26⟩ | false, 24 => some ⟨f_spec_l1Do_i24c, f_spec_l1Do_i24v, f_spec_l1Do_i24e, f_spec_l1Do_i24⟩ | false, 22 => some ⟨f_spec_l1Do_i22c, f_spec_l1Do_i22v, f_spec_l1Do_i22e, f_spec_l1Do_i22⟩ | false, 20 => some ⟨f_spec_l1Do_i20c, f_spec_l1Do_i20v, f_spec_l1Do_i20e, f_spec_l1Do_i20⟩ | false, 17 => some ⟨f_spec_l1Do_i17c, f_spec_l1Do_i17v, f_spec_l1Do_i17e, f_spec_l1Do_i17⟩ | _, _ => none
theorem f_spec_l1Do_i30Eq (R : Type) (c : Vars f_spec_l1Do_i30c) (v : Vars f_spec_l1Do_i30v) (kk : Vars f_spec_l1Do_i30c → Oc f_spec_l1Do_i30e → Option R) : evC en34 su34i30 (ifAt 30 Tryd.f34) (Desc.mk2 f_spec_l1Do_i30v v (Desc.mk2 f_spec_l1Do_i30c c .empty)) (fun o => chk f_spec_l1Do_i30c f_spec_l1Do_i30e o kk) = f_spec_l1Do_i30 R c v kk := by kernel_rfl
theorem f_spec_l1Do_i30Ok {X : Cx} (hX : en34.lo = X.lo) : SubOk Tryd.prog X 212 ⟨f_spec_l1Do_i30c, f_spec_l1Do_i30v, f_spec_l1Do_i30e, f_spec_l1Do_i30⟩ (ifAt 30 Tryd.f34) :=
  sub_if (u := ⟨f_spec_l1Do_i30c, f_spec_l1Do_i30v, f_spec_l1Do_i30e, f_spec_l1Do_i30⟩) (subs := su34i30) ok34 rfl hX (GoodN.good (K := True) (Eq.mpr (show GoodN Tryd.prog X 212 en34 su34i30 (ifAt 30 Tryd.f34) True = (True) by kernel_rfl) trivial)).1 (by decide) (by decide) f_spec_l1Do_i30Eq
def su34i28 : Bool → Nat → Option Sub | false, 13 => some ⟨f_spec_l1Do_i13c, f_spec_l1Do_i13v, f_spec_l1Do_i13e, f_spec_l1Do_i13⟩ | false, 30 => some ⟨f_spec_l1Do_i30c, f_spec_l1Do_i30v, f_spec_l1Do_i30e, f_spec_l1Do_i30⟩ | false, 26 => some ⟨f_spec_l1Do_i26c, f_spec_l1Do_i26v, f_spec_l1Do_i26e, f_spec_l1Do_i26⟩ | false, 24 => some ⟨f_spec_l1Do_i24c, f_spec_l1Do_i24v, f_spec_l1Do_i24e, f_spec_l1Do_i24⟩ | false, 22 => some ⟨f_spec_l1Do_i22c, f_spec_l1Do_i22v, f_spec_l1Do_i22e, f_spec_l1Do_i22⟩ | false, 20 => some ⟨f_spec_l1Do_i20c, f_spec_l1Do_i20v, f_spec_l1Do_i20e, f_spec_l1Do_i20⟩ | false, 17 => some ⟨f_spec_l1Do_i17c, f_spec_l1Do_i17v, f_spec_l1Do_i17e, f_spec_l1Do_i17⟩ | _, _ => none
theorem f_spec_l1Do_i28Eq (R : Type) (c : Vars f_spec_l1Do_i28c) (v : Vars f_spec_l1Do_i28v) (kk : Vars f_spec_l1Do_i28c → Oc f_spec_l1Do_i28e → Option R) : evC en34 su34i28 (ifAt 28 Tryd.f34) (Desc.mk2 f_spec_l1Do_i28v v (Desc.mk2 f_spec_l1Do_i28c c .empty)) (fun o => chk f_spec_l1Do_i28c f_spec_l1Do_i28e o kk) = f_spec_l1Do_i28 R c v kk := by kernel_rfl
theorem f_spec_l1Do_i28Ok {X : Cx} (hX : en34.lo = X.lo) : SubOk Tryd.prog X 212 ⟨f_spec_l1Do_i28c, f_spec_l1Do_i28v, f_spec_l1Do_i28e, f_spec_l1Do_i28⟩ (ifAt 28 Tryd.f34) :=
  sub_if (u := ⟨f_spec_l1Do_i28c, f_spec_l1Do_i28v, f_spec_l1Do_i28e, f_spec_l1Do_i28⟩) (subs := su34i28) ok34 rfl hX (GoodN.good (K := True) (Eq.mpr (show GoodN Tryd.prog X 212 en34 su34i28 (ifAt 28 Tryd.f34) True = (SubOk Tryd.prog X 212 ⟨f_spec_l1Do_i30c, f_spec_l1Do_i30v, f_spec_l1Do_i30e, f_spec_l1Do_i30⟩ (ifAt 30 Tryd.f34) ∧ True) by kernel_rfl) ⟨(f_spec_l1Do_i30Ok hX), trivial⟩)).1 (by decide) (by decide) f_spec_l1Do_i28Eq
def su34i26 : Bool → Nat → Option Sub | false, 13 => some ⟨f_spec_l1Do_i13c, f_spec_l1Do_i13v, f_spec_l1Do_i13e, f_spec_l1Do_i13⟩ | false, 30 => some ⟨f_spec_l1Do_i30c, f_spec_l1Do_i30v, f_spec_l1Do_i30e, f_spec_l1Do_i30⟩ | false, 28 => some ⟨f_spec_l1Do_i28c, f_spec_l1Do_i28v, f_spec_l1Do_i28e, f_spec_l1Do_i28⟩ | false, 24 => some ⟨f_spec_l1Do_i24c, f_spec_l1Do_i24v, f_spec_l1Do_i24e, f_spec_l1Do_i24⟩ | false, 22 => some ⟨f_spec_l1Do_i22c, f_spec_l1Do_i22v, f_spec_l1Do_i22e, f_spec_l1Do_i22⟩ | false, 20 => some ⟨f_spec_l1Do_i20c, f_spec_l1Do_i20v, f_spec_l1Do_i20e, f_spec_l1Do_i20⟩ | false, 17 => some ⟨f_spec_l1Do_i17c, f_spec_l1Do_i17v, f_spec_l1Do_i17e, f_spec_l1Do_i17⟩ | _, _ => none
theorem f_spec_l1Do_i26Eq (R : Type) (c : Vars f_spec_l1Do_i26c) (v : Vars f_spec_l1Do_i26v) (kk : Vars f_spec_l1Do_i26c → Oc f_spec_l1Do_i26e → Option R) : evC en34 su34i26 (ifAt 26 Tryd.f34) (Desc.mk2 f_spec_l1Do_i26v v (Desc.mk2 f_spec_l1Do_i26c c .empty)) (fun o => chk f_spec_l1Do_i26c f_spec_l1Do_i26e o kk) = f_spec_l1Do_i26 R c v kk := by kernel_rfl
theorem f_spec_l1Do_i26Ok {X : Cx} (hX : en34.lo = X.lo) : SubOk Tryd.prog X 212 ⟨f_spec_l1Do_i26c, f_spec_l1Do_i26v, f_spec_l1Do_i26e, f_spec_l1Do_i26⟩ (ifAt 26 Tryd.f34) :=
  sub_if (u := ⟨f_spec_l1Do_i26c, f_spec_l1Do_i26v, f_spec_l1Do_i26e, f_spec_l1Do_i26⟩) (subs := su34i26) ok34 rfl hX (GoodN.good (K := True) (Eq.mpr (show GoodN Tryd.prog X 212 en34 su34i26 (ifAt 26 Tryd.f34) True = (SubOk Tryd.prog X 212 ⟨f_spec_l1Do_i28c, f_spec_l1Do_i28v, f_spec_l1Do_i28e, f_spec_l1Do_i28⟩ (ifAt 28 Tryd.f34) ∧ True) by kernel_rfl) ⟨(f_spec_l1Do_i28Ok hX), trivial⟩)).1 (by decide) (by decide) f_spec_l1Do_i26Eq
def su34i24 : Bool → Nat → Option Sub | false, 13 => some ⟨f_spec_l1Do_i13c, f_spec_l1Do_i13v, f_spec_l1Do_i13e, f_spec_l1Do_i13⟩ | false, 30 => some ⟨f_spec_l1Do_i30c, f_spec_l1Do_i30v, f_spec_l1Do_i30e, f_spec_l1Do_i30⟩ | false, 28 => some ⟨f_spec_l1Do_i28c, f_spec_l1Do_i28v, f_spec_l1Do_i28e, f_spec_l1Do_i28⟩ | false, 26 => some ⟨f_spec_l1Do_i26c, f_spec_l1Do_i26v, f_spec_l1Do_i26e, f_spec_l1Do_i26⟩ | false, 22 => some ⟨f_spec_l1Do_i22c, f_spec_l1Do_i22v, f_spec_l1Do_i22e, f_spec_l1Do_i22⟩ | false, 20 => some ⟨f_spec_l1Do_i20c, f_spec_l1Do_i20v, f_spec_l1Do_i20e, f_spec_l1Do_i20⟩ | false, 17 => some ⟨f_spec_l1Do_i17c, f_spec_l1Do_i17v, f_spec_l1Do_i17e, f_spec_l1Do_i17⟩ | _, _ => none
theorem f_spec_l1Do_i24Eq (R : Type) (c : Vars f_spec_l1Do_i24c) (v : Vars f_spec_l1Do_i24v) (kk : Vars f_spec_l1Do_i24c → Oc f_spec_l1Do_i24e → Option R) : evC en34 su34i24 (ifAt 24 Tryd.f34) (Desc.mk2 f_spec_l1Do_i24v v (Desc.mk2 f_spec_l1Do_i24c c .empty)) (fun o => chk f_spec_l1Do_i24c f_spec_l1Do_i24e o kk) = f_spec_l1Do_i24 R c v kk := by kernel_rfl
theorem f_spec_l1Do_i24Ok {X : Cx} (hX : en34.lo = X.lo) : SubOk Tryd.prog X 212 ⟨f_spec_l1Do_i24c, f_spec_l1Do_i24v, f_spec_l1Do_i24e, f_spec_l1Do_i24⟩ (ifAt 24 Tryd.f34) :=
  sub_if (u := ⟨f_spec_l1Do_i24c, f_spec_l1Do_i24v, f_spec_l1Do_i24e, f_spec_l1Do_i24⟩) (subs := su34i24) ok34 rfl hX (GoodN.good (K := True) (Eq.mpr (show GoodN Tryd.prog X 212 en34 su34i24 (ifAt 24 Tryd.f34) True = (RegOk Tryd.prog X 212 en34 24 (regAt 24 Tryd.f34) ∧ SubOk Tryd.prog X 212 ⟨f_spec_l1Do_i26c, f_spec_l1Do_i26v, f_spec_l1Do_i26e, f_spec_l1Do_i26⟩ (ifAt 26 Tryd.f34) ∧ True) by kernel_rfl) ⟨(dr34r24 hX), (f_spec_l1Do_i26Ok hX), trivial⟩)).1 (by decide) (by decide) f_spec_l1Do_i24Eq
def su34i22 : Bool → Nat → Option Sub | false, 13 => some ⟨f_spec_l1Do_i13c, f_spec_l1Do_i13v, f_spec_l1Do_i13e, f_spec_l1Do_i13⟩ | false, 30 => some ⟨f_spec_l1Do_i30c, f_spec_l1Do_i30v, f_spec_l1Do_i30e, f_spec_l1Do_i30⟩ | false, 28 => some ⟨f_spec_l1Do_i28c, f_spec_l1Do_i28v, f_spec_l1Do_i28e, f_spec_l1Do_i28⟩ | false, 26 => some ⟨f_spec_l1Do_i26c, f_spec_l1Do_i26v, f_spec_l1Do_i26e, f_spec_l1Do_i26⟩ | false, 24 => some ⟨f_spec_l1Do_i24c, f_spec_l1Do_i24v, f_spec_l1Do_i24e, f_spec_l1Do_i24⟩ | false, 20 => some ⟨f_spec_l1Do_i20c, f_spec_l1Do_i20v, f_spec_l1Do_i20e, f_spec_l1Do_i20⟩ | false, 17 => some ⟨f_spec_l1Do_i17c, f_spec_l1Do_i17v, f_spec_l1Do_i17e, f_spec_l1Do_i17⟩ | _, _ => none
theorem f_spec_l1Do_i22Eq (R : Type) (c : Vars f_spec_l1Do_i22c) (v : Vars f_spec_l1Do_i22v) (kk : Vars f_spec_l1Do_i22c → Oc f_spec_l1Do_i22e → Option R) : evC en34 su34i22 (ifAt 22 Tryd.f34) (Desc.mk2 f_spec_l1Do_i22v v (Desc.mk2 f_spec_l1Do_i22c c .empty)) (fun o => chk f_spec_l1Do_i22c f_spec_l1Do_i22e o kk) = f_spec_l1Do_i22 R c v kk := by kernel_rfl
theorem f_spec_l1Do_i22Ok {X : Cx} (hX : en34.lo = X.lo) : SubOk Tryd.prog X 212 ⟨f_spec_l1Do_i22c, f_spec_l1Do_i22v, f_spec_l1Do_i22e, f_spec_l1Do_i22⟩ (ifAt 22 Tryd.f34) :=
  sub_if (u := ⟨f_spec_l1Do_i22c, f_spec_l1Do_i22v, f_spec_l1Do_i22e, f_spec_l1Do_i22⟩) (subs := su34i22) ok34 rfl hX (GoodN.good (K := True) (Eq.mpr (show GoodN Tryd.prog X 212 en34 su34i22 (ifAt 22 Tryd.f34) True = (RegOk Tryd.prog X 212 en34 22 (regAt 22 Tryd.f34) ∧ SubOk Tryd.prog X 212 ⟨f_spec_l1Do_i24c, f_spec_l1Do_i24v, f_spec_l1Do_i24e, f_spec_l1Do_i24⟩ (ifAt 24 Tryd.f34) ∧ True) by kernel_rfl) ⟨(dr34r22 hX), (f_spec_l1Do_i24Ok hX), trivial⟩)).1 (by decide) (by decide) f_spec_l1Do_i22Eq
def su34i20 : Bool → Nat → Option Sub | false, 13 => some ⟨f_spec_l1Do_i13c, f_spec_l1Do_i13v, f_spec_l1Do_i13e, f_spec_l1Do_i13⟩ | false, 30 => some ⟨f_spec_l1Do_i30c, f_spec_l1Do_i30v, f_spec_l1Do_i30e, f_spec_l1Do_i30⟩ | false, 28 => some ⟨f_spec_l1Do_i28c, f_spec_l1Do_i28v, f_spec_l1Do_i28e, f_spec_l1Do_i28⟩ | false, 26 => some ⟨f_spec_l1Do_i26c, f_spec_l1Do_i26v, f_spec_l1Do_i26e, f_spec_l1Do_i26⟩ | false, 24 => some ⟨f_spec_l1Do_i24c, f_spec_l1Do_i24v, f_spec_l1Do_i24e, f_spec_l1Do_i24⟩ | false, 22 => some ⟨f_spec_l1Do_i22c, f_spec_l1Do_i22v, f_spec_l1Do_i22e, f_spec_l1Do_i22⟩ | false, 17 => some ⟨f_spec_l1Do_i17c, f_spec_l1Do_i17v, f_spec_l1Do_i17e, f_spec_l1Do_i17⟩ | _, _ => none
theorem f_spec_l1Do_i20Eq (R : Type) (c : Vars f_spec_l1Do_i20c) (v : Vars f_spec_l1Do_i20v) (kk : Vars f_spec_l1Do_i20c → Oc f_spec_l1Do_i20e → Option R) : evC en34 su34i20 (ifAt 20 Tryd.f34) (Desc.mk2 f_spec_l1Do_i20v v (Desc.mk2 f_spec_l1Do_i20c c .empty)) (fun o => chk f_spec_l1Do_i20c f_spec_l1Do_i20e o kk) = f_spec_l1Do_i20 R c v kk := by kernel_rfl
theorem f_spec_l1Do_i20Ok {X : Cx} (hX : en34.lo = X.lo) : SubOk Tryd.prog X 212 ⟨f_spec_l1Do_i20c, f_spec_l1Do_i20v, f_spec_l1Do_i20e, f_spec_l1Do_i20⟩ (ifAt 20 Tryd.f34) :=
  sub_if (u := ⟨f_spec_l1Do_i20c, f_spec_l1Do_i20v, f_spec_l1Do_i20e, f_spec_l1Do_i20⟩) (subs := su34i20) ok34 rfl hX (GoodN.good (K := True) (Eq.mpr (show GoodN Tryd.prog X 212 en34 su34i20 (ifAt 20 Tryd.f34) True = (RegOk Tryd.prog X 212 en34 20 (regAt 20 Tryd.f34) ∧ SubOk Tryd.prog X 212 ⟨f_spec_l1Do_i22c, f_spec_l1Do_i22v, f_spec_l1Do_i22e, f_spec_l1Do_i22⟩ (ifAt 22 Tryd.f34) ∧ True) by kernel_rfl) ⟨(dr34r20 hX), (f_spec_l1Do_i22Ok hX), trivial⟩)).1 (by decide) (by decide) f_spec_l1Do_i20Eq
def su34i17 : Bool → Nat → Option Sub | false, 13 => some ⟨f_spec_l1Do_i13c, f_spec_l1Do_i13v, f_spec_l1Do_i13e, f_spec_l1Do_i13⟩ | false, 30 => some ⟨f_spec_l1Do_i30c, f_spec_l1Do_i30v, f_spec_l1Do_i30e, f_spec_l1Do_i30⟩ | false, 28 => some ⟨f_spec_l1Do_i28c, f_spec_l1Do_i28v, f_spec_l1Do_i28e, f_spec_l1Do_i28⟩ | false, 26 => some ⟨f_spec_l1Do_i26c, f_spec_l1Do_i26v, f_spec_l1Do_i26e, f_spec_l1Do_i26⟩ | false, 24 => some ⟨f_spec_l1Do_i24c, f_spec_l1Do_i24v, f_spec_l1Do_i24e, f_spec_l1Do_i24⟩ | false, 22 => some ⟨f_spec_l1Do_i22c, f_spec_l1Do_i22v, f_spec_l1Do_i22e, f_spec_l1Do_i22⟩ | false, 20 => some ⟨f_spec_l1Do_i20c, f_spec_l1Do_i20v, f_spec_l1Do_i20e, f_spec_l1Do_i20⟩ | _, _ => none
theorem f_spec_l1Do_i17Eq (R : Type) (c : Vars f_spec_l1Do_i17c) (v : Vars f_spec_l1Do_i17v) (kk : Vars f_spec_l1Do_i17c → Oc f_spec_l1Do_i17e → Option R) : evC en34 su34i17 (ifAt 17 Tryd.f34) (Desc.mk2 f_spec_l1Do_i17v v (Desc.mk2 f_spec_l1Do_i17c c .empty)) (fun o => chk f_spec_l1Do_i17c f_spec_l1Do_i17e o kk) = f_spec_l1Do_i17 R c v kk := by kernel_rfl
theorem f_spec_l1Do_i17Ok {X : Cx} (hX : en34.lo = X.lo) : SubOk Tryd.prog X 212 ⟨f_spec_l1Do_i17c, f_spec_l1Do_i17v, f_spec_l1Do_i17e, f_spec_l1Do_i17⟩ (ifAt 17 Tryd.f34) :=
  sub_if (u := ⟨f_spec_l1Do_i17c, f_spec_l1Do_i17v, f_spec_l1Do_i17e, f_spec_l1Do_i17⟩) (subs := su34i17) ok34 rfl hX (GoodN.good (K := True) (Eq.mpr (show GoodN Tryd.prog X 212 en34 su34i17 (ifAt 17 Tryd.f34) True = (SubOk Tryd.prog X 212 ⟨f_spec_l1Do_i20c, f_spec_l1Do_i20v, f_spec_l1Do_i20e, f_spec_l1Do_i20⟩ (ifAt 20 Tryd.f34) ∧ True) by kernel_rfl) ⟨(f_spec_l1Do_i20Ok hX), trivial⟩)).1 (by decide) (by decide) f_spec_l1Do_i17Eq
theorem f_spec_l1DoEq (x : Ps ins34) : evF en34 su34 Tryd.f34 ins34 res34 x = f_spec_l1Do x := by kernel_rfl
theorem so34 : Sound Tryd.prog 34 sg34 :=
  sound_of (fn := Tryd.f34) (c := bodyOf Tryd.f34) (subs := su34) (E := en34) (by kernel_rfl) (by kernel_rfl) (by decide) ok34 (by kernel_rfl) (by kernel_rfl) (by decide)
    (fun X hX => (GoodN.good (K := True) (Eq.mpr (show GoodN Tryd.prog X 212 en34 su34 (bodyOf Tryd.f34) True = (SubOk Tryd.prog X 212 ⟨f_spec_l1Do_i13c, f_spec_l1Do_i13v, f_spec_l1Do_i13e, f_spec_l1Do_i13⟩ (ifAt 13 Tryd.f34) ∧ SubOk Tryd.prog X 212 ⟨f_spec_l1Do_i17c, f_spec_l1Do_i17v, f_spec_l1Do_i17e, f_spec_l1Do_i17⟩ (ifAt 17 Tryd.f34) ∧ True) by kernel_rfl) ⟨(f_spec_l1Do_i13Ok hX), (f_spec_l1Do_i17Ok hX), trivial⟩)).1)
    (fun x r h => (f_spec_l1DoEq x).trans h)
def fl8 : List (Nat × Sig) := [(33, sg33), (34, sg34), (35, sg35)]
def hi8 : List (Nat × (K × Mk)) := [(5, ((.sl (.int .i64)), (.o .s))), (9, ((.sl (.int .i64)), (.o .s)))]
def dw8 : List (Nat × List (List Nat × List Nat)) := [(8, [([7, 34], []), ([35], [7]), ([11, 36], []), ([35, 37], []), ([], []), ([], []), ([], []), ([12], []), ([12, 37], []), ([13], [])])]
def en8 : Env := { n := 51, ty := assocN tyL, fns := assocN fl8, lo := 0, hint := assocN hi8, draw := drawOf dw8 }
def su8 : Bool → Nat → Option Sub | false, 10 => some ⟨f_spec_PlayDisk_i10c, f_spec_PlayDisk_i10v, f_spec_PlayDisk_i10e, f_spec_PlayDisk_i10⟩ | true, 6 => some ⟨f_spec_PlayDisk_l6c, f_spec_PlayDisk_l6v, f_spec_PlayDisk_l6e, loopF f_spec_PlayDisk_l6⟩ | _, _ => none
theorem ok8 : EnvOk Tryd.prog en8 := envOk_of rfl rfl tyL_ok (⟨so33, ⟨so34, ⟨so35, trivial⟩⟩⟩)
theorem dr8r8 {X : Cx} (hX : en8.lo = X.lo) : RegOk Tryd.prog X 51 en8 8 (regAt 8 Tryd.f8) := regOk_of ok8 rfl hX (by kernel_rfl) (by kernel_rfl)
def su8i10 : Bool → Nat → Option Sub | true, 6 => some ⟨f_spec_PlayDisk_l6c, f_spec_PlayDisk_l6v, f_spec_PlayDisk_l6e, loopF f_spec_PlayDisk_l6⟩ | _, _ => none
theorem f_spec_PlayDisk_i10Eq (R : Type) (c : Vars f_spec_PlayDisk_i10c) (v : Vars f_spec_PlayDisk_i10v) (kk : Vars f_spec_PlayDisk_i10c → Oc f_spec_PlayDisk_i10e → Option R) : evC en8 su8i10 (ifAt 10 Tryd.f8) (Desc.mk2 f_spec_PlayDisk_i10v v (Desc.mk2 f_spec_PlayDisk_i10c c .empty)) (fun o => chk f_spec_PlayDisk_i10c f_spec_PlayDisk_i10e o kk) = f_spec_PlayDisk_i10 R c v kk := by kernel_rfl
theorem f_spec_PlayDisk_i10Ok {X : Cx} (hX : en8.lo = X.lo) : SubOk Tryd.prog X 51 ⟨f_spec_PlayDisk_i10c, f_spec_PlayDisk_i10v, f_spec_PlayDisk_i10e, f_spec_PlayDisk_i10⟩ (ifAt 10 Tryd.f8) :=
  sub_if (u := ⟨f_spec_PlayDisk_i10c, f_spec_PlayDisk_i10v, f_spec_PlayDisk_i10e, f_spec_PlayDisk_i10⟩) (subs := su8i10) ok8 rfl hX (GoodN.good (K := True) (Eq.mpr (show GoodN Tryd.prog X 51 en8 su8i10 (ifAt 10 Tryd.f8) True = (True) by kernel_rfl) trivial)).1 (by decide) (by decide) f_spec_PlayDisk_i10Eq
theorem f_spec_PlayDisk_l6Eq (R : Type) (c : Vars f_spec_PlayDisk_l6c) (v : Vars f_spec_PlayDisk_l6v) (kk : Vars f_spec_PlayDisk_l6c → (Vars f_spec_PlayDisk_l6v ⊕ Oc f_spec_PlayDisk_l6e) → Option R) : evC en8 su8 (loopAt 6 Tryd.f8) (Desc.mk2 f_spec_PlayDisk_l6v v (Desc.mk2 f_spec_PlayDisk_l6c c .empty)) (fun o => bodyK f_spec_PlayDisk_l6c f_spec_PlayDisk_l6v f_spec_PlayDisk_l6e o kk) = f_spec_PlayDisk_l6 R c v kk := by kernel_rfl
theorem f_spec_PlayDisk_l6Ok {X : Cx} (hX : en8.lo = X.lo) : SubOk Tryd.prog X 51 ⟨f_spec_PlayDisk_l6c, f_spec_PlayDisk_l6v, f_spec_PlayDisk_l6e, loopF f_spec_PlayDisk_l6⟩ (.loop (loopAt 6 Tryd.f8)) :=
  sub_loop (subs := su8) ok8 rfl hX (GoodN.good (K := True) (Eq.mpr (show GoodN Tryd.prog X 51 en8 su8 (loopAt 6 Tryd.f8) True = (RegOk Tryd.prog X 51 en8 8 (regAt 8 Tryd.f8) ∧ SubOk Tryd.prog X 51 ⟨f_spec_PlayDisk_i10c, f_spec_PlayDisk_i10v, f_spec_PlayDisk_i10e, f_spec_PlayDisk_i10⟩ (ifAt 10 Tryd.f8) ∧ True) by kernel_rfl) ⟨(dr8r8 hX), (f_spec_PlayDisk_i10Ok hX), trivial⟩)).1 (by decide) (by decide) f_spec_PlayDisk_l6Eq
theorem f_spec_PlayDiskEq (x : Ps ins8) : evF en8 su8 Tryd.f8 ins8 res8 x = f_spec_PlayDisk x := by kernel_rfl
theorem so8 : Sound Tryd.prog 8 sg8 :=
  sound_of (fn := Tryd.f8) (c := bodyOf Tryd.f8) (subs := su8) (E := en8) (by kernel_rfl) (by kernel_rfl) (by decide) ok8 (by kernel_rfl) (by kernel_rfl) (by decide)
    (fun X hX => (GoodN.good (K := True) (Eq.mpr (show GoodN Tryd.prog X 51 en8 su8 (bodyOf Tryd.f8) True = (SubOk Tryd.prog X 51 ⟨f_spec_PlayDisk_l6c, f_spec_PlayDisk_l6v, f_spec_PlayDisk_l6e, loopF f_spec_PlayDisk_l6⟩ (.loop (loopAt 6 Tryd.f8)) ∧ True) by kernel_rfl) ⟨(f_spec_PlayDisk_l6Ok hX), trivial⟩)).1)
    (fun x r h => (f_spec_PlayDiskEq x).trans h)
def fl45 : List (Nat × Sig) := [(8, sg8), (70, sg70), (71, sg71), (72, sg72)]
def hi45 : List (Nat × (K × Mk)) := [(3, ((.sl kdDiskStep), (.o .s))), (5, ((.sl (.int .i64)), (.o .s)))]
def dw45 : List (Nat × List (List Nat × List Nat)) := [(7, [([4, 27], []), ([4, 28], []), ([], []), ([0, 30], []), ([31], []), ([32], []), ([4, 33], [32]), ([4, 34], []), ([4, 33], [])]), (12, [([4, 47], []), ([4, 48], []), ([], []), ([0, 50], []), ([51], []), ([4, 52], []), ([4, 53], []), ([4], [])])]
def en45 : Env := { n := 55, ty := assocN tyL, fns := assocN fl45, lo := 1, hint := assocN hi45, draw := drawOf dw45, frz := frzOf [(1, [3])] }
def su45 : Bool → Nat → Option Sub | false, 3 => some ⟨f_spec_l1Cur_disk_i3c, f_spec_l1Cur_disk_i3v, f_spec_l1Cur_disk_i3e, f_spec_l1Cur_disk_i3⟩ | false, 12 => some ⟨f_spec_l1Cur_disk_i12c, f_spec_l1Cur_disk_i12v, f_spec_l1Cur_disk_i12e, f_spec_l1Cur_disk_i12⟩ | false, 11 => some ⟨f_spec_l1Cur_disk_i11c, f_spec_l1Cur_disk_i11v, f_spec_l1Cur_disk_i11e, f_spec_l1Cur_disk_i11⟩ | false, 9 => some ⟨f_spec_l1Cur_disk_i9c, f_spec_l1Cur_disk_i9v, f_spec_l1Cur_disk_i9e, f_spec_l1Cur_disk_i9⟩ | false, 7 => some ⟨f_spec_l1Cur_disk_i7c, f_spec_l1Cur_disk_i7v, f_spec_l1Cur_disk_i7e, f_spec_l1Cur_disk_i7⟩ | _, _ => none
theorem ok45 : EnvOk Tryd.prog en45 := envOk_of rfl rfl tyL_ok (⟨so8, ⟨so70, ⟨so71, ⟨so72, trivial⟩⟩⟩⟩)
theorem dr45r7 {X : Cx} (hX : en45.lo = X.lo) : RegOk Tryd.prog X 55 en45 7 (regAt 7 Tryd.f45) := regOk_of ok45 rfl hX (by kernel_rfl) (by kernel_rfl)
theorem dr45r12 {X : Cx} (hX : en45.lo = X.lo) : RegOk Tryd.prog X 55 en45 12 (regAt 12 Tryd.f45) := regOk_of ok45 rfl hX (by kernel_rfl) (by kernel_rfl)
def su45i3 : Bool → Nat → Option Sub | false, 12 => some ⟨f_spec_l1Cur_disk_i12c, f_spec_l1Cur_disk_i12v, f_spec_l1Cur_disk_i12e, f_spec_l1Cur_disk_i12⟩ | false, 11 => some ⟨f_spec_l1Cur_disk_i11c, f_spec_l1Cur_disk_i11v, f_spec_l1Cur_disk_i11e, f_spec_l1Cur_disk_i11⟩ | false, 9 => some ⟨f_spec_l1Cur_disk_i9c, f_spec_l1Cur_disk_i9v, f_spec_l1Cur_disk_i9e, f_spec_l1Cur_disk_i9⟩ | false, 7 => some ⟨f_spec_l1Cur_disk_i7c, f_spec_l1Cur_disk_i7v, f_spec_l1Cur_disk_i7e, f_spec_l1Cur_disk_i7⟩ | _, _ => none
theorem f_spec_l1Cur_disk_i3Eq (R : Type) (c : Vars f_spec_l1Cur_disk_i3c) (v : Vars f_spec_l1Cur_disk_i3v) (kk : Vars f_spec_l1Cur_disk_i3c → Oc f_spec_l1Cur_disk_i3e → Option R) : evC en45 su45i3 (ifAt 3 Tryd.f45) (Desc.mk2 f_spec_l1Cur_disk_i3v v (Desc.mk2 f_spec_l1Cur_disk_i3c c .empty)) (fun o => chk f_spec_l1Cur_disk_i3c f_spec_l1Cur_disk_i3e o kk) = f_spec_l1Cur_disk_i3 R c v kk := by kernel_rfl
theorem f_spec_l1Cur_disk_i3Ok {X : Cx} (hX : en45.lo = X.lo) : SubOk Tryd.prog X 55 ⟨f_spec_l1Cur_disk_i3c, f_spec_l1Cur_disk_i3v, f_spec_l1Cur_disk_i3e, f_spec_l1Cur_disk_i3⟩ (ifAt 3 Tryd.f45) :=
  sub_if (u := ⟨f_spec_l1Cur_disk_i3c, f_spec_l1Cur_disk_i3v, f_spec_l1Cur_disk_i3e, f_spec_l1Cur_disk_i3⟩) (subs := su45i3) ok45 rfl hX (GoodN.good (K := True) (Eq.mpr (show GoodN Tryd.prog X 55 en45 su45i3 (ifAt 3 Tryd.f45) True = (True) by kernel_rfl) trivial)).1 (by decide) (by decide) f_spec_l1Cur_disk_i3Eq
def su45i12 : Bool → Nat → Option Sub | false, 3 => some ⟨f_spec_l1Cur_disk_i3c, f_spec_l1Cur_disk_i3v, f_spec_l1Cur_disk_i3e, f_spec_l1Cur_disk_i3⟩ | false, 11 => some ⟨f_spec_l1Cur_disk_i11c, f_spec_l1Cur_disk_i11v, f_spec_l1Cur_disk_i11e, f_spec_l1Cur_disk_i11⟩ | false, 9 => some ⟨f_spec_l1Cur_disk_i9c, f_spec_l1Cur_disk_i9v, f_spec_l1Cur_disk_i9e, f_spec_l1Cur_disk_i9⟩ | false, 7 => some ⟨f_spec_l1Cur_disk_i7c, f_spec_l1Cur_disk_i7v, f_spec_l1Cur_disk_i7e, f_spec_l1Cur_disk_i7⟩ | _, _ => none
theorem f_spec_l1Cur_disk_i12Eq (R : Type) (c : Vars f_spec_l1Cur_disk_i12c) (v : Vars f_spec_l1Cur_disk_i12v) (kk : Vars f_spec_l1Cur_disk_i12c → Oc f_spec_l1Cur_disk_i12e → Option R) : evC en45 su45i12 (ifAt 12 Tryd.f45) (Desc.mk2 f_spec_l1Cur_disk_i12v v (Desc.mk2 f_spec_l1Cur_disk_i12c c .empty)) (fun o => chk f_spec_l1Cur_disk_i12c f_spec_l1Cur_disk_i12e o kk) = f_spec_l1Cur_disk_i12 R c v kk := by kernel_rfl
theorem f_spec_l1Cur_disk_i12Ok {X : Cx} (hX : en45.lo = X.lo) : SubOk Tryd.prog X 55 ⟨f_spec_l1Cur_disk_i12c, f_spec_l1Cur_disk_i12v, f_spec_l1Cur_disk_i12e, f_spec_l1Cur_disk_i12⟩ (ifAt 12 Tryd.f45) :=
  sub_if (u := ⟨f_spec_l1Cur_disk_i12c, f_spec_l1Cur_disk_i12v, f_spec_l1Cur_disk_i12e, f_spec_l1Cur_disk_i12⟩) (subs := su45i12) ok45 rfl hX (GoodN.good (K := True) (Eq.mpr (show GoodN Tryd.prog X 55 en45 su45i12 (ifAt 12 Tryd.f45) True = (RegOk Tryd.prog X 55 en45 12 (regAt 12 Tryd.f45) ∧ True) by kernel_rfl) ⟨(dr45r12 hX), trivial⟩)).1 (by decide) (by decide) f_spec_l1Cur_disk_i12Eq
def su45i11 : Bool → Nat → Option Sub | false, 3 => some ⟨f_spec_l1Cur_disk_i3c, f_spec_l1Cur_disk_i3v, f_spec_l1Cur_disk_i3e, f_spec_l1Cur_disk_i3⟩ | false, 12 => some ⟨f_spec_l1Cur_disk_i12c, f_spec_l1Cur_disk_i12v, f_spec_l1Cur_disk_i12e, f_spec_l1Cur_disk_i12⟩ | false, 9 => some ⟨f_spec_l1Cur_disk_i9c, f_spec_l1Cur_disk_i9v, f_spec_l1Cur_disk_i9e, f_spec_l1Cur_disk_i9⟩ | false, 7 => some ⟨f_spec_l1Cur_disk_i7c, f_spec_l1Cur_disk_i7v, f_spec_l1Cur_disk_i7e, f_spec_l1Cur_disk_i7⟩ | _, _ => none
theorem f_spec_l1Cur_disk_i11Eq (R : Type) (c : Vars f_spec_l1Cur_disk_i11c) (v : Vars f_spec_l1Cur_disk_i11v) (kk : Vars f_spec_l1Cur_disk_i11c → Oc f_spec_l1Cur_disk_i11e → Option R) : evC en45 su45i11 (ifAt 11 Tryd.f45) (Desc.mk2 f_spec_l1Cur_disk_i11v v (Desc.mk2 f_spec_l1Cur_disk_i11c c .empty)) (fun o => chk f_spec_l1Cur_disk_i11c f_spec_l1Cur_disk_i11e o kk) = f_spec_l1Cur_disk_i11 R c v kk := by kernel_rfl
theorem f_spec_l1Cur_disk_i11Ok {X : Cx} (hX : en45.lo = X.lo) : SubOk Tryd.prog X 55 ⟨f_spec_l1Cur_disk_i11c, f_spec_l1Cur_disk_i11v, f_spec_l1Cur_disk_i11e, f_spec_l1Cur_disk_i11⟩ (ifAt 11 Tryd.f45) :=
  sub_if (u := ⟨f_spec_l1Cur_disk_i11c, f_spec_l1Cur_disk_i11v, f_spec_l1Cur_disk_i11e, f_spec_l1Cur_disk_i11⟩) (subs := su45i11) ok45 rfl hX (GoodN.good (K := True) (Eq.mpr (show GoodN Tryd.prog X 55 en45 su45i11 (ifAt 11 Tryd.f45) True = (SubOk Tryd.prog X 55 ⟨f_spec_l1Cur_disk_i12c, f_spec_l1Cur_disk_i12v, f_spec_l1Cur_disk_i12e, f_spec_l1Cur_disk_i12⟩ (ifAt 12 Tryd.f45) ∧ True) by kernel_rfl) ⟨(f_spec_l1Cur_disk_i12Ok hX), trivial⟩)).1 (by decide) (by decide) f_spec_l1Cur_disk_i11Eq
def su45i9 : Bool → Nat → Option Sub | false, 3 => some ⟨f_spec_l1Cur_disk_i3c, f_spec_l1Cur_disk_i3v, f_spec_l1Cur_disk_i3e, f_spec_l1Cur_disk_i3⟩ | false, 12 => some ⟨f_spec_l1Cur_disk_i12c, f_spec_l1Cur_disk_i12v, f_spec_l1Cur_disk_i12e, f_spec_l1Cur_disk_i12⟩ | false, 11 => some ⟨f_spec_l1Cur_disk_i11c, f_spec_l1Cur_disk_i11v, f_spec_l1Cur_disk_i11e, f_spec_l1Cur_disk_i11⟩ | false, 7 => some ⟨f_spec_l1Cur_disk_i7c, f_spec_l1Cur_disk_i7v, f_spec_l1Cur_disk_i7e, f_spec_l1Cur_disk_i7⟩ | _, _ => none
theorem f_spec_l1Cur_disk_i9Eq (R : Type) (c : Vars f_spec_l1Cur_disk_i9c) (v : Vars f_spec_l1Cur_disk_i9v) (kk : Vars f_spec_l1Cur_disk_i9c → Oc f_spec_l1Cur_disk_i9e → Option R) : evC en45 su45i9 (ifAt 9 Tryd.f45) (Desc.mk2 f_spec_l1Cur_disk_i9v v (Desc.mk2 f_spec_l1Cur_disk_i9c c .empty)) (fun o => chk f_spec_l1Cur_disk_i9c f_spec_l1Cur_disk_i9e o kk) = f_spec_l1Cur_disk_i9 R c v kk := by kernel_rfl
theorem f_spec_l1Cur_disk_i9Ok {X : Cx} (hX : en45.lo = X.lo) : SubOk Tryd.prog X 55 ⟨f_spec_l1Cur_disk_i9c, f_spec_l1Cur_disk_i9v, f_spec_l1Cur_disk_i9e, f_spec_l1Cur_disk_i9⟩ (ifAt 9 Tryd.f45) :=
  sub_if (u := ⟨f_spec_l1Cur_disk_i9c, f_spec_l1Cur_disk_i9v, f_spec_l1Cur_disk_i9e, f_spec_l1Cur_disk_i9⟩) (subs := su45i9) ok45 rfl hX (GoodN.good (K := True) (Eq.mpr (show GoodN Tryd.prog X 55 en45 su45i9 (ifAt 9 Tryd.f45) True = (SubOk Tryd.prog X 55 ⟨f_spec_l1Cur_disk_i11c, f_spec_l1Cur_disk_i11v, f_spec_l1Cur_disk_i11e, f_spec_l1Cur_disk_i11⟩ (ifAt 11 Tryd.f45) ∧ True) by kernel_rfl) ⟨(f_spec_l1Cur_disk_i11Ok hX), trivial⟩)).1 (by decide) (by decide) f_spec_l1Cur_disk_i9Eq
def su45i7 : Bool → Nat → Option Sub | false, 3 => some ⟨f_spec_l1Cur_disk_i3c, f_spec_l1Cur_disk_i3v, f_spec_l1Cur_disk_i3e, f_spec_l1Cur_disk_i3⟩ | false, 12 => some ⟨f_spec_l1Cur_disk_i12c, f_spec_l1Cur_disk_i12v, f_spec_l1Cur_disk_i12e, f_spec_l1Cur_disk_i12⟩ | false, 11 => some ⟨f_spec_l1Cur_disk_i11c, f_spec_l1Cur_disk_i11v, f_spec_l1Cur_disk_i11e, f_spec_l1Cur_disk_i11⟩ | false, 9 => some ⟨f_spec_l1Cur_disk_i9c, f_spec_l1Cur_disk_i9v, f_spec_l1Cur_disk_i9e, f_spec_l1Cur_disk_i9⟩ | _, _ => none
theorem f_spec_l1Cur_disk_i7Eq (R : Type) (c : Vars f_spec_l1Cur_disk_i7c) (v : Vars f_spec_l1Cur_disk_i7v) (kk : Vars f_spec_l1Cur_disk_i7c → Oc f_spec_l1Cur_disk_i7e → Option R) : evC en45 su45i7 (ifAt 7 Tryd.f45) (Desc.mk2 f_spec_l1Cur_disk_i7v v (Desc.mk2 f_spec_l1Cur_disk_i7c c .empty)) (fun o => chk f_spec_l1Cur_disk_i7c f_spec_l1Cur_disk_i7e o kk) = f_spec_l1Cur_disk_i7 R c v kk := by kernel_rfl
theorem f_spec_l1Cur_disk_i7Ok {X : Cx} (hX : en45.lo = X.lo) : SubOk Tryd.prog X 55 ⟨f_spec_l1Cur_disk_i7c, f_spec_l1Cur_disk_i7v, f_spec_l1Cur_disk_i7e, f_spec_l1Cur_disk_i7⟩ (ifAt 7 Tryd.f45) :=
  sub_if (u := ⟨f_spec_l1Cur_disk_i7c, f_spec_l1Cur_disk_i7v, f_spec_l1Cur_disk_i7e, f_spec_l1Cur_disk_i7⟩) (subs := su45i7) ok45 rfl hX (GoodN.good (K := True) (Eq.mpr (show GoodN Tryd.prog X 55 en45 su45i7 (ifAt 7 Tryd.f45) True = (RegOk Tryd.prog X 55 en45 7 (regAt 7 Tryd.f45) ∧ SubOk Tryd.prog X 55 ⟨f_spec_l1Cur_disk_i9c, f_spec_l1Cur_disk_i9v, f_spec_l1Cur_disk_i9e, f_spec_l1Cur_disk_i9⟩ (ifAt 9 Tryd.f45) ∧ True) by kernel_rfl) ⟨(dr45r7 hX), (f_spec_l1Cur_disk_i9Ok hX), trivial⟩)).1 (by decide) (by decide) f_spec_l1Cur_disk_i7Eq
theorem f_spec_l1Cur_diskEq (x : Ps ins45) : evF en45 su45 Tryd.f45 ins45 res45 x = f_spec_l1Cur_disk x := by kernel_rfl
theorem so45 : Sound Tryd.prog 45 sg45 :=
  sound_of (fn := Tryd.f45) (c := bodyOf Tryd.f45) (subs := su45) (E := en45) (by kernel_rfl) (by kernel_rfl) (by decide) ok45 (by kernel_rfl) (by kernel_rfl) (by decide)
    (fun X hX => (GoodN.good (K := True) (Eq.mpr (show GoodN Tryd.prog X 55 en45 su45 (bodyOf Tryd.f45) True = (SubOk Tryd.prog X 55 ⟨f_spec_l1Cur_disk_i3c, f_spec_l1Cur_disk_i3v, f_spec_l1Cur_disk_i3e, f_spec_l1Cur_disk_i3⟩ (ifAt 3 Tryd.f45) ∧ SubOk Tryd.prog X 55 ⟨f_spec_l1Cur_disk_i7c, f_spec_l1Cur_disk_i7v, f_spec_l1Cur_disk_i7e, f_spec_l1Cur_disk_i7⟩ (ifAt 7 Tryd.f45) ∧ True) by kernel_rfl) ⟨(f_spec_l1Cur_disk_i3Ok hX), (f_spec_l1Cur_disk_i7Ok hX), trivial⟩)).1)
    (fun x r h => (f_spec_l1Cur_diskEq x).trans h)
def fl19 : List (Nat × Sig) := [(45, sg45), (46, sg46)]
def en19 : Env := { n := 12, ty := assocN tyL, fns := assocN fl19, lo := 0 }
def su19 : Bool → Nat → Option Sub | _, _ => none
theorem ok19 : EnvOk Tryd.prog en19 := envOk_of rfl rfl tyL_ok (⟨so45, ⟨so46, trivial⟩⟩)
theorem f_spec_DrawDoDiskEq (x : Ps ins19) : evF en19 su19 Tryd.f19 ins19 res19 x = f_spec_DrawDoDisk x := by kernel_rfl
theorem so19 : Sound Tryd.prog 19 sg19 :=
  sound_of (fn := Tryd.f19) (c := bodyOf Tryd.f19) (subs := su19) (E := en19) (by kernel_rfl) (by kernel_rfl) (by decide) ok19 (by kernel_rfl) (by kernel_rfl) (by decide)
    (fun X hX => (GoodN.good (K := True) (Eq.mpr (show GoodN Tryd.prog X 12 en19 su19 (bodyOf Tryd.f19) True = (True) by kernel_rfl) trivial)).1)
    (fun x r h => (f_spec_DrawDoDiskEq x).trans h)
def fl55 : List (Nat × Sig) := []
def en55 : Env := { n := 15, ty := assocN tyL, fns := assocN fl55, lo := 0 }
def su55 : Bool → Nat → Option Sub | _, _ => none
theorem ok55 : EnvOk Tryd.prog en55 := envOk_of rfl rfl tyL_ok (trivial)
theorem f_impl_inEq (x : Ps ins55) : evF en55 su55 Tryd.f55 ins55 res55 x = f_impl_in x := by kernel_rfl
theorem so55 : Sound Tryd.prog 55 sg55 :=
  sound_of (fn := Tryd.f55) (c := bodyOf Tryd.f55) (subs := su55) (E := en55) (by kernel_rfl) (by kernel_rfl) (by decide) ok55 (by kernel_rfl) (by kernel_rfl) (by decide)
    (fun X hX => (GoodN.good (K := True) (Eq.mpr (show GoodN Tryd.prog X 15 en55 su55 (bodyOf Tryd.f55) True = (True) by kernel_rfl) trivial)).1)
    (fun x r h => (f_impl_inEq x).trans h)
def fl54 : List (Nat × Sig) := [(55, sg55)]
def en54 : Env := { n := 16, ty := assocN tyL, fns := assocN fl54, lo := 0 }
def su54 : Bool → Nat → Option Sub | _, _ => none
theorem ok54 : EnvOk Tryd.prog en54 := envOk_of rfl rfl tyL_ok (⟨so55, trivial⟩)
theorem f_impl_GoodDisk_1Eq (x : Ps ins54) : evF en54 su54 Tryd.f54 ins54 res54 x = f_impl_GoodDisk_1 x := by kernel_rfl
theorem so54 : Sound Tryd.prog 54 sg54 :=
  sound_of (fn := Tryd.f54) (c := bodyOf Tryd.f54) (subs := su54) (E := en54) (by kernel_rfl) (by kernel_rfl) (by decide) ok54 (by kernel_rfl) (by kernel_rfl) (by decide)
    (fun X hX => (GoodN.good (K := True) (Eq.mpr (show GoodN Tryd.prog X 16 en54 su54 (bodyOf Tryd.f54) True = (True) by kernel_rfl) trivial)).1)
    (fun x r h => (f_impl_GoodDisk_1Eq x).trans h)
def fl82 : List (Nat × Sig) := []
def en82 : Env := { n := 19, ty := assocN tyL, fns := assocN fl82, lo := 0 }
def su82 : Bool → Nat → Option Sub | true, 2 => some ⟨f_slices_IndexFunc_Blob_l2c, f_slices_IndexFunc_Blob_l2v, f_slices_IndexFunc_Blob_l2e, loopF f_slices_IndexFunc_Blob_l2⟩ | _, _ => none
theorem ok82 : EnvOk Tryd.prog en82 := envOk_of rfl rfl tyL_ok (trivial)
theorem f_slices_IndexFunc_Blob_l2Eq (R : Type) (c : Vars f_slices_IndexFunc_Blob_l2c) (v : Vars f_slices_IndexFunc_Blob_l2v) (kk : Vars f_slices_IndexFunc_Blob_l2c → (Vars f_slices_IndexFunc_Blob_l2v ⊕ Oc f_slices_IndexFunc_Blob_l2e) → Option R) : evC en82 su82 (loopAt 2 Tryd.f82) (Desc.mk2 f_slices_IndexFunc_Blob_l2v v (Desc.mk2 f_slices_IndexFunc_Blob_l2c c .empty)) (fun o => bodyK f_slices_IndexFunc_Blob_l2c f_slices_IndexFunc_Blob_l2v f_slices_IndexFunc_Blob_l2e o kk) = f_slices_IndexFunc_Blob_l2 R c v kk := by kernel_rfl
theorem f_slices_IndexFunc_Blob_l2Ok {X : Cx} (hX : en82.lo = X.lo) : SubOk Tryd.prog X 19 ⟨f_slices_IndexFunc_Blob_l2c, f_slices_IndexFunc_Blob_l2v, f_slices_IndexFunc_Blob_l2e, loopF f_slices_IndexFunc_Blob_l2⟩ (.loop (loopAt 2 Tryd.f82)) :=
  sub_loop (subs := su82) ok82 rfl hX (GoodN.good (K := True) (Eq.mpr (show GoodN Tryd.prog X 19 en82 su82 (loopAt 2 Tryd.f82) True = (True) by kernel_rfl) trivial)).1 (by decide) (by decide) f_slices_IndexFunc_Blob_l2Eq
theorem f_slices_IndexFunc_BlobEq (x : Ps ins82) : evF en82 su82 Tryd.f82 ins82 res82 x = f_slices_IndexFunc_Blob x := by kernel_rfl
theorem so82 : Sound Tryd.prog 82 sg82 :=
  sound_of (fn := Tryd.f82) (c := bodyOf Tryd.f82) (subs := su82) (E := en82) (by kernel_rfl) (by kernel_rfl) (by decide) ok82 (by kernel_rfl) (by kernel_rfl) (by decide)
    (fun X hX => (GoodN.good (K := True) (Eq.mpr (show GoodN Tryd.prog X 19 en82 su82 (bodyOf Tryd.f82) True = (SubOk Tryd.prog X 19 ⟨f_slices_IndexFunc_Blob_l2c, f_slices_IndexFunc_Blob_l2v, f_slices_IndexFunc_Blob_l2e, loopF f_slices_IndexFunc_Blob_l2⟩ (.loop (loopAt 2 Tryd.f82)) ∧ True) by kernel_rfl) ⟨(f_slices_IndexFunc_Blob_l2Ok hX), trivial⟩)).1)
    (fun x r h => (f_slices_IndexFunc_BlobEq x).trans h)
def fl53 : List (Nat × Sig) := [(82, sg82)]
def en53 : Env := { n := 9, ty := assocN tyL, fns := assocN fl53, lo := 0 }
def su53 : Bool → Nat → Option Sub | _, _ => none
theorem ok53 : EnvOk Tryd.prog en53 := envOk_of rfl rfl tyL_ok (⟨so82, trivial⟩)
theorem f_slices_ContainsFunc_BlobEq (x : Ps ins53) : evF en53 su53 Tryd.f53 ins53 res53 x = f_slices_ContainsFunc_Blob x := by kernel_rfl
theorem so53 : Sound Tryd.prog 53 sg53 :=
  sound_of (fn := Tryd.f53) (c := bodyOf Tryd.f53) (subs := su53) (E := en53) (by kernel_rfl) (by kernel_rfl) (by decide) ok53 (by kernel_rfl) (by kernel_rfl) (by decide)
    (fun X hX => (GoodN.good (K := True) (Eq.mpr (show GoodN Tryd.prog X 9 en53 su53 (bodyOf Tryd.f53) True = (True) by kernel_rfl) trivial)).1)
    (fun x r h => (f_slices_ContainsFunc_BlobEq x).trans h)
def fl76 : List (Nat × Sig) := [(55, sg55), (92, sgf_strings_Trim)]
def en76 : Env := { n := 11, ty := assocN tyL, fns := assocN fl76, lo := 0 }
def su76 : Bool → Nat → Option Sub | _, _ => none
theorem ok76 : EnvOk Tryd.prog en76 := envOk_of rfl rfl tyL_ok (⟨so55, ⟨soTrim, trivial⟩⟩)
theorem f_impl_isFileNameEq (x : Ps ins76) : evF en76 su76 Tryd.f76 ins76 res76 x = f_impl_isFileName x := by kernel_rfl
theorem so76 : Sound Tryd.prog 76 sg76 :=
  sound_of (fn := Tryd.f76) (c := bodyOf Tryd.f76) (subs := su76) (E := en76) (by kernel_rfl) (by kernel_rfl) (by decide) ok76 (by kernel_rfl) (by kernel_rfl) (by decide)
    (fun X hX => (GoodN.good (K := True) (Eq.mpr (show GoodN Tryd.prog X 11 en76 su76 (bodyOf Tryd.f76) True = (True) by kernel_rfl) trivial)).1)
    (fun x r h => (f_impl_isFileNameEq x).trans h)
def fl56r : List (Nat × Sig) := [(55, sg55), (76, sg76)]
def en56r : Env := { n := 49, ty := assocN tyL, fns := assocN fl56r, lo := 0 }
def su56r : Bool → Nat → Option Sub | true, 2 => some ⟨f_impl_Disk_namesOk_r_l2c, f_impl_Disk_namesOk_r_l2v, f_impl_Disk_namesOk_r_l2e, loopF f_impl_Disk_namesOk_r_l2⟩ | _, _ => none
theorem ok56r : EnvOk Tryd.prog en56r := envOk_of rfl rfl tyL_ok (⟨so55, ⟨so76, trivial⟩⟩)
theorem dr56rr4 {X : Cx} (hX : en56r.lo = X.lo) : RegOk Tryd.prog X 49 en56r 4 (regAt 4 Tryd.f56) := regOk_of ok56r rfl hX (by kernel_rfl) (by kernel_rfl)
theorem f_impl_Disk_namesOk_r_l2Eq (R : Type) (c : Vars f_impl_Disk_namesOk_r_l2c) (v : Vars f_impl_Disk_namesOk_r_l2v) (kk : Vars f_impl_Disk_namesOk_r_l2c → (Vars f_impl_Disk_namesOk_r_l2v ⊕ Oc f_impl_Disk_namesOk_r_l2e) → Option R) : evC en56r su56r (loopAt 2 Tryd.f56) (Desc.mk2 f_impl_Disk_namesOk_r_l2v v (Desc.mk2 f_impl_Disk_namesOk_r_l2c c .empty)) (fun o => bodyK f_impl_Disk_namesOk_r_l2c f_impl_Disk_namesOk_r_l2v f_impl_Disk_namesOk_r_l2e o kk) = f_impl_Disk_namesOk_r_l2 R c v kk := by kernel_rfl
theorem f_impl_Disk_namesOk_r_l2Ok {X : Cx} (hX : en56r.lo = X.lo) : SubOk Tryd.prog X 49 ⟨f_impl_Disk_namesOk_r_l2c, f_impl_Disk_namesOk_r_l2v, f_impl_Disk_namesOk_r_l2e, loopF f_impl_Disk_namesOk_r_l2⟩ (.loop (loopAt 2 Tryd.f56)) :=
  sub_loop (subs := su56r) ok56r rfl hX (GoodN.good (K := True) (Eq.mpr (show GoodN Tryd.prog X 49 en56r su56r (loopAt 2 Tryd.f56) True = (RegOk Tryd.prog X 49 en56r 4 (regAt 4 Tryd.f56) ∧ True) by kernel_rfl) ⟨(dr56rr4 hX), trivial⟩)).1 (by decide) (by decide) f_impl_Disk_namesOk_r_l2Eq
theorem f_impl_Disk_namesOk_rEq (x : Ps ins56r) : evF en56r su56r Tryd.f56 ins56r res56r x = f_impl_Disk_namesOk_r x := by kernel_rfl
theorem so56r : Sound Tryd.prog 56 sg56r :=
  sound_of (fn := Tryd.f56) (c := bodyOf Tryd.f56) (subs := su56r) (E := en56r) (by kernel_rfl) (by kernel_rfl) (by decide) ok56r (by kernel_rfl) (by kernel_rfl) (by decide)
    (fun X hX => (GoodN.good (K := True) (Eq.mpr (show GoodN Tryd.prog X 49 en56r su56r (bodyOf Tryd.f56) True = (SubOk Tryd.prog X 49 ⟨f_impl_Disk_namesOk_r_l2c, f_impl_Disk_namesOk_r_l2v, f_impl_Disk_namesOk_r_l2e, loopF f_impl_Disk_namesOk_r_l2⟩ (.loop (loopAt 2 Tryd.f56)) ∧ True) by kernel_rfl) ⟨(f_impl_Disk_namesOk_r_l2Ok hX), trivial⟩)).1)
    (fun x r h => (f_impl_Disk_namesOk_rEq x).trans h)
def fl23 : List (Nat × Sig) := [(53, sg53), (54, sg54), (55, sg55), (56, sg56r), (57, sgf_impl_Disk_used)]
def dw23 : List (Nat × List (List Nat × List Nat)) := [(4, [([20], []), ([21], []), ([22], []), ([], []), ([24], []), ([25], []), ([26], []), ([27], []), ([], []), ([29], []), ([30], []), ([31], []), ([32], []), ([33], []), ([2], [])])]
def en23 : Env := { n := 34, ty := assocN tyL, fns := assocN fl23, lo := 0, draw := drawOf dw23, frz := frzOf [(0, [1])] }
def su23 : Bool → Nat → Option Sub | _, _ => none
theorem ok23 : EnvOk Tryd.prog en23 := envOk_of rfl rfl tyL_ok (⟨so53, ⟨so54, ⟨so55, ⟨so56r, ⟨soUsed, trivial⟩⟩⟩⟩⟩)
theorem dr23r4 {X : Cx} (hX : en23.lo = X.lo) : RegOk Tryd.prog X 34 en23 4 (regAt 4 Tryd.f23) := regOk_of ok23 rfl hX (by kernel_rfl) (by kernel_rfl)
theorem f_impl_GoodDiskEq (x : Ps ins23) : evF en23 su23 Tryd.f23 ins23 res23 x = f_impl_GoodDisk x := by kernel_rfl
theorem so23 : Sound Tryd.prog 23 sg23 :=
  sound_of (fn := Tryd.f23) (c := bodyOf Tryd.f23) (subs := su23) (E := en23) (by kernel_rfl) (by kernel_rfl) (by decide) ok23 (by kernel_rfl) (by kernel_rfl) (by decide)
    (fun X hX => (GoodN.good (K := True) (Eq.mpr (show GoodN Tryd.prog X 34 en23 su23 (bodyOf Tryd.f23) True = (RegOk Tryd.prog X 34 en23 4 (regAt 4 Tryd.f23) ∧ True) by kernel_rfl) ⟨(dr23r4 hX), trivial⟩)).1)
    (fun x r h => (f_impl_GoodDiskEq x).trans h)
def fl85 : List (Nat × Sig) := []
def en85 : Env := { n := 8, ty := assocN tyL, fns := assocN fl85, lo := 0 }
def su85 : Bool → Nat → Option Sub | _, _ => none
theorem ok85 : EnvOk Tryd.prog en85 := envOk_of rfl rfl tyL_ok (trivial)
theorem f_impl_nameAt_1Eq (x : Ps ins85) : evF en85 su85 Tryd.f85 ins85 res85 x = f_impl_nameAt_1 x := by kernel_rfl
theorem so85 : Sound Tryd.prog 85 sg85 :=
  sound_of (fn := Tryd.f85) (c := bodyOf Tryd.f85) (subs := su85) (E := en85) (by kernel_rfl) (by kernel_rfl) (by decide) ok85 (by kernel_rfl) (by kernel_rfl) (by decide)
    (fun X hX => (GoodN.good (K := True) (Eq.mpr (show GoodN Tryd.prog X 8 en85 su85 (bodyOf Tryd.f85) True = (True) by kernel_rfl) trivial)).1)
    (fun x r h => (f_impl_nameAt_1Eq x).trans h)
def fl84 : List (Nat × Sig) := []
def en84 : Env := { n := 19, ty := assocN tyL, fns := assocN fl84, lo := 0 }
def su84 : Bool → Nat → Option Sub | true, 2 => some ⟨f_slices_IndexFunc_Name_l2c, f_slices_IndexFunc_Name_l2v, f_slices_IndexFunc_Name_l2e, loopF f_slices_IndexFunc_Name_l2⟩ | _, _ => none
theorem ok84 : EnvOk Tryd.prog en84 := envOk_of rfl rfl tyL_ok (trivial)
theorem f_slices_IndexFunc_Name_l2Eq (R : Type) (c : Vars f_slices_IndexFunc_Name_l2c) (v : Vars f_slices_IndexFunc_Name_l2v) (kk : Vars f_slices_IndexFunc_Name_l2c → (Vars f_slices_IndexFunc_Name_l2v ⊕ Oc f_slices_IndexFunc_Name_l2e) → Option R) : evC en84 su84 (loopAt 2 Tryd.f84) (Desc.mk2 f_slices_IndexFunc_Name_l2v v (Desc.mk2 f_slices_IndexFunc_Name_l2c c .empty)) (fun o => bodyK f_slices_IndexFunc_Name_l2c f_slices_IndexFunc_Name_l2v f_slices_IndexFunc_Name_l2e o kk) = f_slices_IndexFunc_Name_l2 R c v kk := by kernel_rfl
theorem f_slices_IndexFunc_Name_l2Ok {X : Cx} (hX : en84.lo = X.lo) : SubOk Tryd.prog X 19 ⟨f_slices_IndexFunc_Name_l2c, f_slices_IndexFunc_Name_l2v, f_slices_IndexFunc_Name_l2e, loopF f_slices_IndexFunc_Name_l2⟩ (.loop (loopAt 2 Tryd.f84)) :=
  sub_loop (subs := su84) ok84 rfl hX (GoodN.good (K := True) (Eq.mpr (show GoodN Tryd.prog X 19 en84 su84 (loopAt 2 Tryd.f84) True = (True) by kernel_rfl) trivial)).1 (by decide) (by decide) f_slices_IndexFunc_Name_l2Eq
theorem f_slices_IndexFunc_NameEq (x : Ps ins84) : evF en84 su84 Tryd.f84 ins84 res84 x = f_slices_IndexFunc_Name x := by kernel_rfl
theorem so84 : Sound Tryd.prog 84 sg84 :=
  sound_of (fn := Tryd.f84) (c := bodyOf Tryd.f84) (subs := su84) (E := en84) (by kernel_rfl) (by kernel_rfl) (by decide) ok84 (by kernel_rfl) (by kernel_rfl) (by decide)
    (fun X hX => (GoodN.good (K := True) (Eq.mpr (show GoodN Tryd.prog X 19 en84 su84 (bodyOf Tryd.f84) True = (SubOk Tryd.prog X 19 ⟨f_slices_IndexFunc_Name_l2c, f_slices_IndexFunc_Name_l2v, f_slices_IndexFunc_Name_l2e, loopF f_slices_IndexFunc_Name_l2⟩ (.loop (loopAt 2 Tryd.f84)) ∧ True) by kernel_rfl) ⟨(f_slices_IndexFunc_Name_l2Ok hX), trivial⟩)).1)
    (fun x r h => (f_slices_IndexFunc_NameEq x).trans h)
def fl58 : List (Nat × Sig) := [(84, sg84), (85, sg85)]
def en58 : Env := { n := 8, ty := assocN tyL, fns := assocN fl58, lo := 0 }
def su58 : Bool → Nat → Option Sub | _, _ => none
theorem ok58 : EnvOk Tryd.prog en58 := envOk_of rfl rfl tyL_ok (⟨so84, ⟨so85, trivial⟩⟩)
theorem f_impl_nameAtEq (x : Ps ins58) : evF en58 su58 Tryd.f58 ins58 res58 x = f_impl_nameAt x := by kernel_rfl
theorem so58 : Sound Tryd.prog 58 sg58 :=
  sound_of (fn := Tryd.f58) (c := bodyOf Tryd.f58) (subs := su58) (E := en58) (by kernel_rfl) (by kernel_rfl) (by decide) ok58 (by kernel_rfl) (by kernel_rfl) (by decide)
    (fun X hX => (GoodN.good (K := True) (Eq.mpr (show GoodN Tryd.prog X 8 en58 su58 (bodyOf Tryd.f58) True = (True) by kernel_rfl) trivial)).1)
    (fun x r h => (f_impl_nameAtEq x).trans h)
def fl47r : List (Nat × Sig) := [(55, sg55), (58, sg58), (76, sg76)]
def en47r : Env := { n := 106, ty := assocN tyL, fns := assocN fl47r, lo := 0 }
def su47r : Bool → Nat → Option Sub | _, _ => none
theorem ok47r : EnvOk Tryd.prog en47r := envOk_of rfl rfl tyL_ok (⟨so55, ⟨so58, ⟨so76, trivial⟩⟩⟩)
theorem dr47rr6 {X : Cx} (hX : en47r.lo = X.lo) : RegOk Tryd.prog X 106 en47r 6 (regAt 6 Tryd.f47) := regOk_of ok47r rfl hX (by kernel_rfl) (by kernel_rfl)
theorem dr47rr8 {X : Cx} (hX : en47r.lo = X.lo) : RegOk Tryd.prog X 106 en47r 8 (regAt 8 Tryd.f47) := regOk_of ok47r rfl hX (by kernel_rfl) (by kernel_rfl)
theorem f_impl_Disk_stepFault_rEq (x : Ps ins47r) : evF en47r su47r Tryd.f47 ins47r res47r x = f_impl_Disk_stepFault_r x := by kernel_rfl
theorem so47r : Sound Tryd.prog 47 sg47r :=
  sound_of (fn := Tryd.f47) (c := bodyOf Tryd.f47) (subs := su47r) (E := en47r) (by kernel_rfl) (by kernel_rfl) (by decide) ok47r (by kernel_rfl) (by kernel_rfl) (by decide)
    (fun X hX => (GoodN.good (K := True) (Eq.mpr (show GoodN Tryd.prog X 106 en47r su47r (bodyOf Tryd.f47) True = (RegOk Tryd.prog X 106 en47r 6 (regAt 6 Tryd.f47) ∧ RegOk Tryd.prog X 106 en47r 8 (regAt 8 Tryd.f47) ∧ True) by kernel_rfl) ⟨(dr47rr6 hX), (dr47rr8 hX), trivial⟩)).1)
    (fun x r h => (f_impl_Disk_stepFault_rEq x).trans h)
def fl77 : List (Nat × Sig) := []
def hi77 : List (Nat × (K × Mk)) := [(2, ((.sl kdBlob), (.o .s)))]
def en77 : Env := { n := 8, ty := assocN tyL, fns := assocN fl77, lo := 0, hint := assocN hi77 }
def su77 : Bool → Nat → Option Sub | _, _ => none
theorem ok77 : EnvOk Tryd.prog en77 := envOk_of rfl rfl tyL_ok (trivial)
theorem f_slices_Clone_BlobEq (x : Ps ins77) : evF en77 su77 Tryd.f77 ins77 res77 x = f_slices_Clone_Blob x := by kernel_rfl
theorem so77 : Sound Tryd.prog 77 sg77 :=
  sound_of (fn := Tryd.f77) (c := bodyOf Tryd.f77) (subs := su77) (E := en77) (by kernel_rfl) (by kernel_rfl) (by decide) ok77 (by kernel_rfl) (by kernel_rfl) (by decide)
    (fun X hX => (GoodN.good (K := True) (Eq.mpr (show GoodN Tryd.prog X 8 en77 su77 (bodyOf Tryd.f77) True = (True) by kernel_rfl) trivial)).1)
    (fun x r h => (f_slices_Clone_BlobEq x).trans h)
def fl78 : List (Nat × Sig) := []
def hi78 : List (Nat × (K × Mk)) := [(2, ((.sl kdBlob), (.o .s)))]
def en78 : Env := { n := 8, ty := assocN tyL, fns := assocN fl78, lo := 0, hint := assocN hi78 }
def su78 : Bool → Nat → Option Sub | _, _ => none
theorem ok78 : EnvOk Tryd.prog en78 := envOk_of rfl rfl tyL_ok (trivial)
theorem f_slices_Clone_NameEq (x : Ps ins78) : evF en78 su78 Tryd.f78 ins78 res78 x = f_slices_Clone_Name x := by kernel_rfl
theorem so78 : Sound Tryd.prog 78 sg78 :=
  sound_of (fn := Tryd.f78) (c := bodyOf Tryd.f78) (subs := su78) (E := en78) (by kernel_rfl) (by kernel_rfl) (by decide) ok78 (by kernel_rfl) (by kernel_rfl) (by decide)
    (fun X hX => (GoodN.good (K := True) (Eq.mpr (show GoodN Tryd.prog X 8 en78 su78 (bodyOf Tryd.f78) True = (True) by kernel_rfl) trivial)).1)
    (fun x r h => (f_slices_Clone_NameEq x).trans h)
def fl48 : List (Nat × Sig) := [(77, sg77), (78, sg78)]
def dw48 : List (Nat × List (List Nat × List Nat)) := [(1, [([1, 3], []), ([1, 4], []), ([5], []), ([1, 6], []), ([1, 7], []), ([8], []), ([1, 9], []), ([1, 10], []), ([11], []), ([1, 12], []), ([1, 5], []), ([1, 13], []), ([1, 8], []), ([1, 14], []), ([1, 11], [])])]
def en48 : Env := { n := 16, ty := assocN tyL, fns := assocN fl48, lo := 0, draw := drawOf dw48 }
def su48 : Bool → Nat → Option Sub | _, _ => none
theorem ok48 : EnvOk Tryd.prog en48 := envOk_of rfl rfl tyL_ok (⟨so77, ⟨so78, trivial⟩⟩)
theorem dr48r1 {X : Cx} (hX : en48.lo = X.lo) : RegOk Tryd.prog X 16 en48 1 (regAt 1 Tryd.f48) := regOk_of ok48 rfl hX (by kernel_rfl) (by kernel_rfl)
theorem f_impl_cloneDiskEq (x : Ps ins48) : evF en48 su48 Tryd.f48 ins48 res48 x = f_impl_cloneDisk x := by kernel_rfl
theorem so48 : Sound Tryd.prog 48 sg48 :=
  sound_of (fn := Tryd.f48) (c := bodyOf Tryd.f48) (subs := su48) (E := en48) (by kernel_rfl) (by kernel_rfl) (by decide) ok48 (by kernel_rfl) (by kernel_rfl) (by decide)
    (fun X hX => (GoodN.good (K := True) (Eq.mpr (show GoodN Tryd.prog X 16 en48 su48 (bodyOf Tryd.f48) True = (RegOk Tryd.prog X 16 en48 1 (regAt 1 Tryd.f48) ∧ True) by kernel_rfl) ⟨(dr48r1 hX), trivial⟩)).1)
    (fun x r h => (f_impl_cloneDiskEq x).trans h)
def fl79 : List (Nat × Sig) := [(58, sg58), (93, sgf_slices_Insert kdBlob)]
def en79 : Env := { n := 58, ty := assocN tyL, fns := assocN fl79, lo := 1 }
def su79 : Bool → Nat → Option Sub | true, 4 => some ⟨f_impl_Disk_mean_l4c, f_impl_Disk_mean_l4v, f_impl_Disk_mean_l4e, loopF f_impl_Disk_mean_l4⟩ | _, _ => none
theorem ok79 : EnvOk Tryd.prog en79 := envOk_of rfl rfl tyL_ok (⟨so58, ⟨soInsert93, trivial⟩⟩)
theorem f_impl_Disk_mean_l4Eq (R : Type) (c : Vars f_impl_Disk_mean_l4c) (v : Vars f_impl_Disk_mean_l4v) (kk : Vars f_impl_Disk_mean_l4c → (Vars f_impl_Disk_mean_l4v ⊕ Oc f_impl_Disk_mean_l4e) → Option R) : evC en79 su79 (loopAt 4 Tryd.f79) (Desc.mk2 f_impl_Disk_mean_l4v v (Desc.mk2 f_impl_Disk_mean_l4c c .empty)) (fun o => bodyK f_impl_Disk_mean_l4c f_impl_Disk_mean_l4v f_impl_Disk_mean_l4e o kk) = f_impl_Disk_mean_l4 R c v kk := by kernel_rfl
theorem f_impl_Disk_mean_l4Ok {X : Cx} (hX : en79.lo = X.lo) : SubOk Tryd.prog X 58 ⟨f_impl_Disk_mean_l4c, f_impl_Disk_mean_l4v, f_impl_Disk_mean_l4e, loopF f_impl_Disk_mean_l4⟩ (.loop (loopAt 4 Tryd.f79)) :=
  sub_loop (subs := su79) ok79 rfl hX (GoodN.good (K := True) (Eq.mpr (show GoodN Tryd.prog X 58 en79 su79 (loopAt 4 Tryd.f79) True = (True) by kernel_rfl) trivial)).1 (by decide) (by decide) f_impl_Disk_mean_l4Eq
theorem f_impl_Disk_meanEq (x : Ps ins79) : evF en79 su79 Tryd.f79 ins79 res79 x = f_impl_Disk_mean x := by kernel_rfl
theorem so79 : Sound Tryd.prog 79 sg79 :=
  sound_of (fn := Tryd.f79) (c := bodyOf Tryd.f79) (subs := su79) (E := en79) (by kernel_rfl) (by kernel_rfl) (by decide) ok79 (by kernel_rfl) (by kernel_rfl) (by decide)
    (fun X hX => (GoodN.good (K := True) (Eq.mpr (show GoodN Tryd.prog X 58 en79 su79 (bodyOf Tryd.f79) True = (SubOk Tryd.prog X 58 ⟨f_impl_Disk_mean_l4c, f_impl_Disk_mean_l4v, f_impl_Disk_mean_l4e, loopF f_impl_Disk_mean_l4⟩ (.loop (loopAt 4 Tryd.f79)) ∧ True) by kernel_rfl) ⟨(f_impl_Disk_mean_l4Ok hX), trivial⟩)).1)
    (fun x r h => (f_impl_Disk_meanEq x).trans h)
def fl80 : List (Nat × Sig) := [(58, sg58), (94, sgf_slices_Delete kdBlob)]
def en80 : Env := { n := 22, ty := assocN tyL, fns := assocN fl80, lo := 1 }
def su80 : Bool → Nat → Option Sub | _, _ => none
theorem ok80 : EnvOk Tryd.prog en80 := envOk_of rfl rfl tyL_ok (⟨so58, ⟨soDelete94, trivial⟩⟩)
theorem f_impl_Disk_forgetEq (x : Ps ins80) : evF en80 su80 Tryd.f80 ins80 res80 x = f_impl_Disk_forget x := by kernel_rfl
theorem so80 : Sound Tryd.prog 80 sg80 :=
  sound_of (fn := Tryd.f80) (c := bodyOf Tryd.f80) (subs := su80) (E := en80) (by kernel_rfl) (by kernel_rfl) (by decide) ok80 (by kernel_rfl) (by kernel_rfl) (by decide)
    (fun X hX => (GoodN.good (K := True) (Eq.mpr (show GoodN Tryd.prog X 22 en80 su80 (bodyOf Tryd.f80) True = (True) by kernel_rfl) trivial)).1)
    (fun x r h => (f_impl_Disk_forgetEq x).trans h)
def fl81 : List (Nat × Sig) := [(78, sg78)]
def en81 : Env := { n := 57, ty := assocN tyL, fns := assocN fl81, lo := 1 }
def su81 : Bool → Nat → Option Sub | true, 2 => some ⟨f_impl_Disk_crash_l2c, f_impl_Disk_crash_l2v, f_impl_Disk_crash_l2e, loopF f_impl_Disk_crash_l2⟩ | _, _ => none
theorem ok81 : EnvOk Tryd.prog en81 := envOk_of rfl rfl tyL_ok (⟨so78, trivial⟩)
theorem dr81r5 {X : Cx} (hX : en81.lo = X.lo) : RegOk Tryd.prog X 57 en81 5 (regAt 5 Tryd.f81) := regOk_of ok81 rfl hX (by kernel_rfl) (by kernel_rfl)
theorem f_impl_Disk_crash_l2Eq (R : Type) (c : Vars f_impl_Disk_crash_l2c) (v : Vars f_impl_Disk_crash_l2v) (kk : Vars f_impl_Disk_crash_l2c → (Vars f_impl_Disk_crash_l2v ⊕ Oc f_impl_Disk_crash_l2e) → Option R) : evC en81 su81 (loopAt 2 Tryd.f81) (Desc.mk2 f_impl_Disk_crash_l2v v (Desc.mk2 f_impl_Disk_crash_l2c c .empty)) (fun o => bodyK f_impl_Disk_crash_l2c f_impl_Disk_crash_l2v f_impl_Disk_crash_l2e o kk) = f_impl_Disk_crash_l2 R c v kk := by kernel_rfl
theorem f_impl_Disk_crash_l2Ok {X : Cx} (hX : en81.lo = X.lo) : SubOk Tryd.prog X 57 ⟨f_impl_Disk_crash_l2c, f_impl_Disk_crash_l2v, f_impl_Disk_crash_l2e, loopF f_impl_Disk_crash_l2⟩ (.loop (loopAt 2 Tryd.f81)) :=
  sub_loop (subs := su81) ok81 rfl hX (GoodN.good (K := True) (Eq.mpr (show GoodN Tryd.prog X 57 en81 su81 (loopAt 2 Tryd.f81) True = (RegOk Tryd.prog X 57 en81 5 (regAt 5 Tryd.f81) ∧ True) by kernel_rfl) ⟨(dr81r5 hX), trivial⟩)).1 (by decide) (by decide) f_impl_Disk_crash_l2Eq
theorem f_impl_Disk_crashEq (x : Ps ins81) : evF en81 su81 Tryd.f81 ins81 res81 x = f_impl_Disk_crash x := by kernel_rfl
theorem so81 : Sound Tryd.prog 81 sg81 :=
  sound_of (fn := Tryd.f81) (c := bodyOf Tryd.f81) (subs := su81) (E := en81) (by kernel_rfl) (by kernel_rfl) (by decide) ok81 (by kernel_rfl) (by kernel_rfl) (by decide)
    (fun X hX => (GoodN.good (K := True) (Eq.mpr (show GoodN Tryd.prog X 57 en81 su81 (bodyOf Tryd.f81) True = (SubOk Tryd.prog X 57 ⟨f_impl_Disk_crash_l2c, f_impl_Disk_crash_l2v, f_impl_Disk_crash_l2e, loopF f_impl_Disk_crash_l2⟩ (.loop (loopAt 2 Tryd.f81)) ∧ True) by kernel_rfl) ⟨(f_impl_Disk_crash_l2Ok hX), trivial⟩)).1)
    (fun x r h => (f_impl_Disk_crashEq x).trans h)
def fl49 : List (Nat × Sig) := [(58, sg58), (78, sg78), (79, sg79), (80, sg80), (81, sg81)]
def en49 : Env := { n := 125, ty := assocN tyL, fns := assocN fl49, lo := 1 }
def su49 : Bool → Nat → Option Sub | false, 4 => some ⟨f_impl_Disk_do_i4c, f_impl_Disk_do_i4v, f_impl_Disk_do_i4e, f_impl_Disk_do_i4⟩ | false, 15 => some ⟨f_impl_Disk_do_i15c, f_impl_Disk_do_i15v, f_impl_Disk_do_i15e, f_impl_Disk_do_i15⟩ | false, 24 => some ⟨f_impl_Disk_do_i24c, f_impl_Disk_do_i24v, f_impl_Disk_do_i24e, f_impl_Disk_do_i24⟩ | false, 22 => some ⟨f_impl_Disk_do_i22c, f_impl_Disk_do_i22v, f_impl_Disk_do_i22e, f_impl_Disk_do_i22⟩ | false, 20 => some ⟨f_impl_Disk_do_i20c, f_impl_Disk_do_i20v, f_impl_Disk_do_i20e, f_impl_Disk_do_i20⟩ | false, 18 => some ⟨f_impl_Disk_do_i18c, f_impl_Disk_do_i18v, f_impl_Disk_do_i18e, f_impl_Disk_do_i18⟩ | false, 14 => some ⟨f_impl_Disk_do_i14c, f_impl_Disk_do_i14v, f_impl_Disk_do_i14e, f_impl_Disk_do_i14⟩ | false, 12 => some ⟨f_impl_Disk_do_i12c, f_impl_Disk_do_i12v, f_impl_Disk_do_i12e, f_impl_Disk_do_i12⟩ | false, 10 => some ⟨f_impl_Disk_do_i10c, f_impl_Disk_do_i10v, f_impl_Disk_do_i10e, f_impl_Disk_do_i10⟩ | false, 7 => some ⟨f_impl_Disk_do_i7c, f_impl_Disk_do_i7v, f_impl_Disk_do_i7e, f_impl_Disk_do_i7⟩ | _, _ => none
theorem ok49 : EnvOk Tryd.prog en49 := envOk_of rfl rfl tyL_ok (⟨so58, ⟨so78, ⟨so79, ⟨so80, ⟨so81, trivial⟩⟩⟩⟩⟩)
theorem dr49r2 {X : Cx} (hX : en49.lo = X.lo) : RegOk Tryd.prog X 125 en49 2 (regAt 2 Tryd.f49) := regOk_of ok49 rfl hX (by kernel_rfl) (by kernel_rfl)
theorem dr49r8 {X : Cx} (hX : en49.lo = X.lo) : RegOk Tryd.prog X 125 en49 8 (regAt 8 Tryd.f49) := regOk_of ok49 rfl hX (by kernel_rfl) (by kernel_rfl)
theorem dr49r10 {X : Cx} (hX : en49.lo = X.lo) : RegOk Tryd.prog X 125 en49 10 (regAt 10 Tryd.f49) := regOk_of ok49 rfl hX (by kernel_rfl) (by kernel_rfl)
theorem dr49r12 {X : Cx} (hX : en49.lo = X.lo) : RegOk Tryd.prog X 125 en49 12 (regAt 12 Tryd.f49) := regOk_of ok49 rfl hX (by kernel_rfl) (by kernel_rfl)
def su49i4 : Bool → Nat → Option Sub | false, 15 => some ⟨f_impl_Disk_do_i15c, f_impl_Disk_do_i15v, f_impl_Disk_do_i15e, f_impl_Disk_do_i15⟩ | false, 24 => some ⟨f_impl_Disk_do_i24c, f_impl_Disk_do_i24v, f_impl_Disk_do_i24e, f_impl_Disk_do_i24⟩ | false, 22 => some ⟨f_impl_Disk_do_i22c, f_impl_Disk_do_i22v, f_impl_Disk_do_i22e, f_impl_Disk_do_i22⟩ | false, 20 => some ⟨f_impl_Disk_do_i20c, f_impl_Disk_do_i20v, f_impl_Disk_do_i20e, f_impl_Disk_do_i20⟩ | false, 18 => some ⟨f_impl_Disk_do_i18c, f_impl_Disk_do_i18v, f_impl_Disk_do_i18e, f_impl_Disk_do_i18⟩ | false, 14 => some ⟨f_impl_Disk_do_i14c, f_impl_Disk_do_i14v, f_impl_Disk_do_i14e, f_impl_Disk_do_i14⟩ | false, 12 => some ⟨f_impl_Disk_do_i12c, f_impl_Disk_do_i12v, f_impl_Disk_do_i12e, f_impl_Disk_do_i12⟩ | false, 10 => some ⟨f_impl_Disk_do_i10c, f_impl_Disk_do_i10v, f_impl_Disk_do_i10e, f_impl_Disk_do_i10⟩ | false, 7 => some ⟨f_impl_Disk_do_i7c, f_impl_Disk_do_i7v, f_impl_Disk_do_i7e, f_impl_Disk_do_i7⟩ | _, _ => none
theorem f_impl_Disk_do_i4Eq (R : Type) (c : Vars f_impl_Disk_do_i4c) (v : Vars f_impl_Disk_do_i4v) (kk : Vars f_impl_Disk_do_i4c → Oc f_impl_Disk_do_i4e → Option R) : evC en49 su49i4 (ifAt 4 Tryd.f49) (Desc.mk2 f_impl_Disk_do_i4v v (Desc.mk2 f_impl_Disk_do_i4c c .empty)) (fun o => chk f_impl_Disk_do_i4c f_impl_Disk_do_i4e o kk) = f_impl_Disk_do_i4 R c v kk := by kernel_rfl
theorem f_impl_Disk_do_i4Ok {X : Cx} (hX : en49.lo = X.lo) : SubOk Tryd.prog X 125 ⟨f_impl_Disk_do_i4c, f_impl_Disk_do_i4v, f_impl_Disk_do_i4e, f_impl_Disk_do_i4⟩ (ifAt 4 Tryd.f49) :=
  sub_if (u := ⟨f_impl_Disk_do_i4c, f_impl_Disk_do_i4v, f_impl_Disk_do_i4e, f_impl_Disk_do_i4⟩) (subs := su49i4) ok49 rfl hX (GoodN.good (K := True) (Eq.mpr (show GoodN Tryd.prog X 125 en49 su49i4 (ifAt 4 Tryd.f49) True = (True) by kernel_rfl) trivial)).1 (by decide) (by decide) f_impl_Disk_do_i4Eq
def su49i15 : Bool → Nat → Option Sub | false, 4 => some ⟨f_impl_Disk_do_i4c, f_impl_Disk_do_i4v, f_impl_Disk_do_i4e, f_impl_Disk_do_i4⟩ | false, 24 => some ⟨f_impl_Disk_do_i24c, f_impl_Disk_do_i24v, f_impl_Disk_do_i24e, f_impl_Disk_do_i24⟩ | false, 22 => some ⟨f_impl_Disk_do_i22c, f_impl_Disk_do_i22v, f_impl_Disk_do_i22e, f_impl_Disk_do_i22⟩ | false, 20 => some ⟨f_impl_Disk_do_i20c, f_impl_Disk_do_i20v, f_impl_Disk_do_i20e, f_impl_Disk_do_i20⟩ | false, 18 => some ⟨f_impl_Disk_do_i18c, f_impl_Disk_do_i18v, f_impl_Disk_do_i18e, f_impl_Disk_do_i18⟩ | false, 14 => some ⟨f_impl_Disk_do_i14c, f_impl_Disk_do_i14v, f_impl_Disk_do_i14e, f_impl_Disk_do_i14⟩ | false, 12 => some ⟨f_impl_Disk_do_i12c, f_impl_Disk_do_i12v, f_impl_Disk_do_i12e, f_impl_Disk_do_i12⟩ | false, 10 => some ⟨f_impl_Disk_do_i10c, f_impl_Disk_do_i10v, f_impl_Disk_do_i10e, f_impl_Disk_do_i10⟩ | false, 7 => some ⟨f_impl_Disk_do_i7c, f_impl_Disk_do_i7v, f_impl_Disk_do_i7e, f_impl_Disk_do_i7⟩ | _, _ => none
theorem f_impl_Disk_do_i15Eq (R : Type) (c : Vars f_impl_Disk_do_i15c) (v : Vars f_impl_Disk_do_i15v) (kk : Vars f_impl_Disk_do_i15c → Oc f_impl_Disk_do_i15e → Option R) : evC en49 su49i15 (ifAt 15 Tryd.f49) (Desc.mk2 f_impl_Disk_do_i15v v (Desc.mk2 f_impl_Disk_do_i15c c .empty)) (fun o => chk f_impl_Disk_do_i15c f_impl_Disk_do_i15e o kk) = f_impl_Disk_do_i15 R c v kk := by kernel_rfl
theorem f_impl_Disk_do_i15Ok {X : Cx} (hX : en49.lo = X.lo) : SubOk Tryd.prog X 125 ⟨f_impl_Disk_do_i15c, f_impl_Disk_do_i15v, f_impl_Disk_do_i15e, f_impl_Disk_do_i15⟩ (ifAt 15 Tryd.f49) :=
  sub_if (u := ⟨f_impl_Disk_do_i15c, f_impl_Disk_do_i15v, f_impl_Disk_do_i15e, f_impl_Disk_do_i15⟩) (subs := su49i15) ok49 rfl hX (GoodN.good (K := True) (Eq.mpr (show GoodN Tryd.prog X 125 en49 su49i15 (ifAt 15 Tryd.f49) True = (True) by kernel_rfl) trivial)).1 (by decide) (by decide) f_impl_Disk_do_i15Eq
def su49i24 : Bool → Nat → Option Sub | false, 4 => some ⟨f_impl_Disk_do_i4c, f_impl_Disk_do_i4v, f_impl_Disk_do_i4e, f_impl_Disk_do_i4⟩ | false, 15 => some ⟨f_impl_Disk_do_i15c, f_impl_Disk_do_i15v, f_impl_Disk_do_i15e, f_impl_Disk_do_i15⟩ | false, 22 => some ⟨f_impl_Disk_do_i22c, f_impl_Disk_do_i22v, f_impl_Disk_do_i22e, f_impl_Disk_do_i22⟩ | false, 20 => some ⟨f_impl_Disk_do_i20c, f_impl_Disk_do_i20v, f_impl_Disk_do_i20e, f_impl_Disk_do_i20⟩ | false, 18 => some ⟨f_impl_Disk_do_i18c, f_impl_Disk_do_i18v, f_impl_Disk_do_i18e, f_impl_Disk_do_i18⟩ | false, 14 => some ⟨f_impl_Disk_do_i14c, f_impl_Disk_do_i14v, f_impl_Disk_do_i14e, f_impl_Disk_do_i14⟩ | false, 12 => some ⟨f_impl_Disk_do_i12c, f_impl_Disk_do_i12v, f_impl_Disk_do_i12e, f_impl_Disk_do_i12⟩ | false, 10 => some ⟨f_impl_Disk_do_i10c, f_impl_Disk_do_i10v, f_impl_Disk_do_i10e, f_impl_Disk_do_i10⟩ | false, 7 => some ⟨f_impl_Disk_do_i7c, f_impl_Disk_do_i7v, f_impl_Disk_do_i7e, f_impl_Disk_do_i7⟩ | _, _ => none
theorem f_impl_Disk_do_i24Eq (R : Type) (c : Vars f_impl_Disk_do_i24c) (v : Vars f_impl_Disk_do_i24v) (kk : Vars f_impl_Disk_do_i24c → Oc f_impl_Disk_do_i24e → Option R) : evC en49 su49i24 (ifAt 24 Tryd.f49) (Desc.mk2 f_impl_Disk_do_i24v v (Desc.mk2 f_impl_Disk_do_i24c c .empty)) (fun o => chk f_impl_Disk_do_i24c f_impl_Disk_do_i24e o kk) = f_impl_Disk_do_i24 R c v kk := by kernel_rfl
theorem f_impl_Disk_do_i24Ok {X : Cx} (hX : en49.lo = X.lo) : SubOk Tryd.prog X 125 ⟨f_impl_Disk_do_i24c, f_impl_Disk_do_i24v, f_impl_Disk_do_i24e, f_impl_Disk_do_i24⟩ (ifAt 24 Tryd.f49) :=
  sub_if (u := ⟨f_impl_Disk_do_i24c, f_impl_Disk_do_i24v, f_impl_Disk_do_i24e, f_impl_Disk_do_i24⟩) (subs := su49i24) ok49 rfl hX (GoodN.good (K := True) (Eq.mpr (show GoodN Tryd.prog X 125 en49 su49i24 (ifAt 24 Tryd.f49) True = (True) by kernel_rfl) trivial)).1 (by decide) (by decide) f_impl_Disk_do_i24Eq
def su49i22 : Bool → Nat → Option Sub | false, 4 => some ⟨f_impl_Disk_do_i4c, f_impl_Disk_do_i4v, f_impl_Disk_do_i4e, f_impl_Disk_do_i4⟩ | false, 15 => some ⟨f_impl_Disk_do_i15c, f_impl_Disk_do_i15v, f_impl_Disk_do_i15e, f_impl_Disk_do_i15⟩ | false, 24 => some ⟨f_impl_Disk_do_i24c, f_impl_Disk_do_i24v, f_impl_Disk_do_i24e, f_impl_Disk_do_i24⟩ | false, 20 => some ⟨f_impl_Disk_do_i20c, f_impl_Disk_do_i20v, f_impl_Disk_do_i20e, f_impl_Disk_do_i20⟩ | false, 18 => some ⟨f_impl_Disk_do_i18c, f_impl_Disk_do_i18v, f_impl_Disk_do_i18e, f_impl_Disk_do_i18⟩ | false, 14 => some ⟨f_impl_Disk_do_i14c, f_impl_Disk_do_i14v, f_impl_Disk_do_i14e, f_impl_Disk_do_i14⟩ | false, 12 => some ⟨f_impl_Disk_do_i12c, f_impl_Disk_do_i12v, f_impl_Disk_do_i12e, f_impl_Disk_do_i12⟩ | false, 10 => some ⟨f_impl_Disk_do_i10c, f_impl_Disk_do_i10v, f_impl_Disk_do_i10e, f_impl_Disk_do_i10⟩ | false, 7 => some ⟨f_impl_Disk_do_i7c, f_impl_Disk_do_i7v, f_impl_Disk_do_i7e, f_impl_Disk_do_i7⟩ | _, _ => none
theorem f_impl_Disk_do_i22Eq (R : Type) (c : Vars f_impl_Disk_do_i22c) (v : Vars f_impl_Disk_do_i22v) (kk : Vars f_impl_Disk_do_i22c → Oc f_impl_Disk_do_i22e → Option R) : evC en49 su49i22 (ifAt 22 Tryd.f49) (Desc.mk2 f_impl_Disk_do_i22v v (Desc.mk2 f_impl_Disk_do_i22c c .empty)) (fun o => chk f_impl_Disk_do_i22c f_impl_Disk_do_i22e o kk) = f_impl_Disk_do_i22 R c v kk := by kernel_rfl
theorem f_impl_Disk_do_i22Ok {X : Cx} (hX : en49.lo = X.lo) : SubOk Tryd.prog X 125 ⟨f_impl_Disk_do_i22c, f_impl_Disk_do_i22v, f_impl_Disk_do_i22e, f_impl_Disk_do_i22⟩ (ifAt 22 Tryd.f49) :=
  sub_if (u := ⟨f_impl_Disk_do_i22c, f_impl_Disk_do_i22v, f_impl_Disk_do_i22e, f_impl_Disk_do_i22⟩) (subs := su49i22) ok49 rfl hX (GoodN.good (K := True) (Eq.mpr (show GoodN Tryd.prog X 125 en49 su49i22 (ifAt 22 Tryd.f49) True = (SubOk Tryd.prog X 125 ⟨f_impl_Disk_do_i24c, f_impl_Disk_do_i24v, f_impl_Disk_do_i24e, f_impl_Disk_do_i24⟩ (ifAt 24 Tryd.f49) ∧ True) by kernel_rfl) ⟨(f_impl_Disk_do_i24Ok hX), trivial⟩)).1 (by decide) (by decide) f_impl_Disk_do_i22Eq
def su49i20 : Bool → Nat → Option Sub | false, 4 => some ⟨f_impl_Disk_do_i4c, f_impl_Disk_do_i4v, f_impl_Disk_do_i4e, f_impl_Disk_do_i4⟩ | false, 15 => some ⟨f_impl_Disk_do_i15c, f_impl_Disk_do_i15v, f_impl_Disk_do_i15e, f_impl_Disk_do_i15⟩ | false, 24 => some ⟨f_impl_Disk_do_i24c, f_impl_Disk_do_i24v, f_impl_Disk_do_i24e, f_impl_Disk_do_i24⟩ | false, 22 => some ⟨f_impl_Disk_do_i22c, f_impl_Disk_do_i22v, f_impl_Disk_do_i22e, f_impl_Disk_do_i22⟩ | false, 18 => some ⟨f_impl_Disk_do_i18c, f_impl_Disk_do_i18v, f_impl_Disk_do_i18e, f_impl_Disk_do_i18⟩ | false, 14 => some ⟨f_impl_Disk_do_i14c, f_impl_Disk_do_i14v, f_impl_Disk_do_i14e, f_impl_Disk_do_i14⟩ | false, 12 => some ⟨f_impl_Disk_do_i12c, f_impl_Disk_do_i12v, f_impl_Disk_do_i12e, f_impl_Disk_do_i12⟩ | false, 10 => some ⟨f_impl_Disk_do_i10c, f_impl_Disk_do_i10v, f_impl_Disk_do_i10e, f_impl_Disk_do_i10⟩ | false, 7 => some ⟨f_impl_Disk_do_i7c, f_impl_Disk_do_i7v, f_impl_Disk_do_i7e, f_impl_Disk_do_i7⟩ | _, _ => none
theorem f_impl_Disk_do_i20Eq (R : Type) (c : Vars f_impl_Disk_do_i20c) (v : Vars f_impl_Disk_do_i20v) (kk : Vars f_impl_Disk_do_i20c → Oc f_impl_Disk_do_i20e → Option R) : evC en49 su49i20 (ifAt 20 Tryd.f49) (Desc.mk2 f_impl_Disk_do_i20v v (Desc.mk2 f_impl_Disk_do_i20c c .empty)) (fun o => chk f_impl_Disk_do_i20c f_impl_Disk_do_i20e o kk) = f_impl_Disk_do_i20 R c v kk := by kernel_rfl
theorem f_impl_Disk_do_i20Ok {X : Cx} (hX : en49.lo = X.lo) : SubOk Tryd.prog X 125 ⟨f_impl_Disk_do_i20c, f_impl_Disk_do_i20v, f_impl_Disk_do_i20e, f_impl_Disk_do_i20⟩ (ifAt 20 Tryd.f49) :=
  sub_if (u := ⟨f_impl_Disk_do_i20c, f_impl_Disk_do_i20v, f_impl_Disk_do_i20e, f_impl_Disk_do_i20⟩) (subs := su49i20) ok49 rfl hX (GoodN.good (K := True) (Eq.mpr (show GoodN Tryd.prog X 125 en49 su49i20 (ifAt 20 Tryd.f49) True = (SubOk Tryd.prog X 125 ⟨f_impl_Disk_do_i22c, f_impl_Disk_do_i22v, f_impl_Disk_do_i22e, f_impl_Disk_do_i22⟩ (ifAt 22 Tryd.f49) ∧ True) by kernel_rfl) ⟨(f_impl_Disk_do_i22Ok hX), trivial⟩)).1 (by decide) (by decide) f_impl_Disk_do_i20Eq
def su49i18 : Bool → Nat → Option Sub | false, 4 => some ⟨f_impl_Disk_do_i4c, f_impl_Disk_do_i4v, f_impl_Disk_do_i4e, f_impl_Disk_do_i4⟩ | false, 15 => some ⟨f_impl_Disk_do_i15c, f_impl_Disk_do_i15v, f_impl_Disk_do_i15e, f_impl_Disk_do_i15⟩ | false, 24 => some ⟨f_impl_Disk_do_i24c, f_impl_Disk_do_i24v, f_impl_Disk_do_i24e, f_impl_Disk_do_i24⟩ | false, 22 => some ⟨f_impl_Disk_do_i22c, f_impl_Disk_do_i22v, f_impl_Disk_do_i22e, f_impl_Disk_do_i22⟩ | false, 20 => some ⟨f_impl_Disk_do_i20c, f_impl_Disk_do_i20v, f_impl_Disk_do_i20e, f_impl_Disk_do_i20⟩ | false, 14 => some ⟨f_impl_Disk_do_i14c, f_impl_Disk_do_i14v, f_impl_Disk_do_i14e, f_impl_Disk_do_i14⟩ | false, 12 => some ⟨f_impl_Disk_do_i12c, f_impl_Disk_do_i12v, f_impl_Disk_do_i12e, f_impl_Disk_do_i12⟩ | false, 10 => some ⟨f_impl_Disk_do_i10c, f_impl_Disk_do_i10v, f_impl_Disk_do_i10e, f_impl_Disk_do_i10⟩ | false, 7 => some ⟨f_impl_Disk_do_i7c, f_impl_Disk_do_i7v, f_impl_Disk_do_i7e, f_impl_Disk_do_i7⟩ | _, _ => none
theorem f_impl_Disk_do_i18Eq (R : Type) (c : Vars f_impl_Disk_do_i18c) (v : Vars f_impl_Disk_do_i18v) (kk : Vars f_impl_Disk_do_i18c → Oc f_impl_Disk_do_i18e → Option R) : evC en49 su49i18 (ifAt 18 Tryd.f49) (Desc.mk2 f_impl_Disk_do_i18v v (Desc.mk2 f_impl_Disk_do_i18c c .empty)) (fun o => chk f_impl_Disk_do_i18c f_impl_Disk_do_i18e o kk) = f_impl_Disk_do_i18 R c v kk := by kernel_rfl
theorem f_impl_Disk_do_i18Ok {X : Cx} (hX : en49.lo = X.lo) : SubOk Tryd.prog X 125 ⟨f_impl_Disk_do_i18c, f_impl_Disk_do_i18v, f_impl_Disk_do_i18e, f_impl_Disk_do_i18⟩ (ifAt 18 Tryd.f49) :=
  sub_if (u := ⟨f_impl_Disk_do_i18c, f_impl_Disk_do_i18v, f_impl_Disk_do_i18e, f_impl_Disk_do_i18⟩) (subs := su49i18) ok49 rfl hX (GoodN.good (K := True) (Eq.mpr (show GoodN Tryd.prog X 125 en49 su49i18 (ifAt 18 Tryd.f49) True = (SubOk Tryd.prog X 125 ⟨f_impl_Disk_do_i20c, f_impl_Disk_do_i20v, f_impl_Disk_do_i20e, f_impl_Disk_do_i20⟩ (ifAt 20 Tryd.f49) ∧ True) by kernel_rfl) ⟨(f_impl_Disk_do_i20Ok hX), trivial⟩)).1 (by decide) (by decide) f_impl_Disk_do_i18Eq
def su49i14 : Bool → Nat → Option Sub | false, 4 => some ⟨f_impl_Disk_do_i4c, f_impl_Disk_do_i4v, f_impl_Disk_do_i4e, f_impl_Disk_do_i4⟩ | false, 15 => some ⟨f_impl_Disk_do_i15c, f_impl_Disk_do_i15v, f_impl_Disk_do_i15e, f_impl_Disk_do_i15⟩ | false, 24 => some ⟨f_impl_Disk_do_i24c, f_impl_Disk_do_i24v, f_impl_Disk_do_i24e, f_impl_Disk_do_i24⟩ | false, 22 => some ⟨f_impl_Disk_do_i22c, f_impl_Disk_do_i22v, f_impl_Disk_do_i22e, f_impl_Disk_do_i22⟩ | false, 20 => some ⟨f_impl_Disk_do_i20c, f_impl_Disk_do_i20v, f_impl_Disk_do_i20e, f_impl_Disk_do_i20⟩ | false, 18 => some ⟨f_impl_Disk_do_i18c, f_impl_Disk_do_i18v, f_impl_Disk_do_i18e, f_impl_Disk_do_i18⟩ | false, 12 => some ⟨f_impl_Disk_do_i12c, f_impl_Disk_do_i12v, f_impl_Disk_do_i12e, f_impl_Disk_do_i12⟩ | false, 10 => some ⟨f_impl_Disk_do_i10c, f_impl_Disk_do_i10v, f_impl_Disk_do_i10e, f_impl_Disk_do_i10⟩ | false, 7 => some ⟨f_impl_Disk_do_i7c, f_impl_Disk_do_i7v, f_impl_Disk_do_i7e, f_impl_Disk_do_i7⟩ | _, _ => none
theorem f_impl_Disk_do_i14Eq (R : Type) (c : Vars f_impl_Disk_do_i14c) (v : Vars f_impl_Disk_do_i14v) (kk : Vars f_impl_Disk_do_i14c → Oc f_impl_Disk_do_i14e → Option R) : evC en49 su49i14 (ifAt 14 Tryd.f49) (Desc.mk2 f_impl_Disk_do_i14v v (Desc.mk2 f_impl_Disk_do_i14c c .empty)) (fun o => chk f_impl_Disk_do_i14c f_impl_Disk_do_i14e o kk) = f_impl_Disk_do_i14 R c v kk := by kernel_rfl
theorem f_impl_Disk_do_i14Ok {X : Cx} (hX : en49.lo = X.lo) : SubOk Tryd.prog X 125 ⟨f_impl_Disk_do_i14c, f_impl_Disk_do_i14v, f_impl_Disk_do_i14e, f_impl_Disk_do_i14⟩ (ifAt 14 Tryd.f49) :=
  sub_if (u := ⟨f_impl_Disk_do_i14c, f_impl_Disk_do_i14v, f_impl_Disk_do_i14e, f_impl_Disk_do_i14⟩) (subs := su49i14) ok49 rfl hX (GoodN.good (K := True) (Eq.mpr (show GoodN Tryd.prog X 125 en49 su49i14 (ifAt 14 Tryd.f49) True = (SubOk Tryd.prog X 125 ⟨f_impl_Disk_do_i15c, f_impl_Disk_do_i15v, f_impl_Disk_do_i15e, f_impl_Disk_do_i15⟩ (ifAt 15 Tryd.f49) ∧ SubOk Tryd.prog X 125 ⟨f_impl_Disk_do_i18c, f_impl_Disk_do_i18v, f_impl_Disk_do_i18e, f_impl_Disk_do_i18⟩ (ifAt 18 Tryd.f49) ∧ True) by kernel_rfl) ⟨(f_impl_Disk_do_i15Ok hX), (f_impl_Disk_do_i18Ok hX), trivial⟩)).1 (by decide) (by decide) f_impl_Disk_do_i14Eq
def su49i12 : Bool → Nat → Option Sub | false, 4 => some ⟨f_impl_Disk_do_i4c, f_impl_Disk_do_i4v, f_impl_Disk_do_i4e, f_impl_Disk_do_i4⟩ | false, 15 => some ⟨f_impl_Disk_do_i15c, f_impl_Disk_do_i15v, f_impl_Disk_do_i15e, f_impl_Disk_do_i15⟩ | false, 24 => some ⟨f_impl_Disk_do_i24c, f_impl_Disk_do_i24v, f_impl_Disk_do_i24e, f_impl_Disk_do_i24⟩ | false, 22 => some ⟨f_impl_Disk_do_i22c, f_impl_Disk_do_i22v, f_impl_Disk_do_i22e, f_impl_Disk_do_i22⟩ | false, 20 => some ⟨f_impl_Disk_do_i20c, f_impl_Disk_do_i20v, f_impl_Disk_do_i20e, f_impl_Disk_do_i20⟩ | false, 18 => some ⟨f_impl_Disk_do_i18c, f_impl_Disk_do_i18v, f_impl_Disk_do_i18e, f_impl_Disk_do_i18⟩ | false, 14 => some ⟨f_impl_Disk_do_i14c, f_impl_Disk_do_i14v, f_impl_Disk_do_i14e, f_impl_Disk_do_i14⟩ | false, 10 => some ⟨f_impl_Disk_do_i10c, f_impl_Disk_do_i10v, f_impl_Disk_do_i10e, f_impl_Disk_do_i10⟩ | false, 7 => some ⟨f_impl_Disk_do_i7c, f_impl_Disk_do_i7v, f_impl_Disk_do_i7e, f_impl_Disk_do_i7⟩ | _, _ => none
theorem f_impl_Disk_do_i12Eq (R : Type) (c : Vars f_impl_Disk_do_i12c) (v : Vars f_impl_Disk_do_i12v) (kk : Vars f_impl_Disk_do_i12c → Oc f_impl_Disk_do_i12e → Option R) : evC en49 su49i12 (ifAt 12 Tryd.f49) (Desc.mk2 f_impl_Disk_do_i12v v (Desc.mk2 f_impl_Disk_do_i12c c .empty)) (fun o => chk f_impl_Disk_do_i12c f_impl_Disk_do_i12e o kk) = f_impl_Disk_do_i12 R c v kk := by kernel_rfl
theorem f_impl_Disk_do_i12Ok {X : Cx} (hX : en49.lo = X.lo) : SubOk Tryd.prog X 125 ⟨f_impl_Disk_do_i12c, f_impl_Disk_do_i12v, f_impl_Disk_do_i12e, f_impl_Disk_do_i12⟩ (ifAt 12 Tryd.f49) :=
  sub_if (u := ⟨f_impl_Disk_do_i12c, f_impl_Disk_do_i12v, f_impl_Disk_do_i12e, f_impl_Disk_do_i12⟩) (subs := su49i12) ok49 rfl hX (GoodN.good (K := True) (Eq.mpr (show GoodN Tryd.prog X 125 en49 su49i12 (ifAt 12 Tryd.f49) True = (RegOk Tryd.prog X 125 en49 12 (regAt 12 Tryd.f49) ∧ SubOk Tryd.prog X 125 ⟨f_impl_Disk_do_i14c, f_impl_Disk_do_i14v, f_impl_Disk_do_i14e, f_impl_Disk_do_i14⟩ (ifAt 14 Tryd.f49) ∧ True) by kernel_rfl) ⟨(dr49r12 hX), (f_impl_Disk_do_i14Ok hX), trivial⟩)).1 (by decide) (by decide) f_impl_Disk_do_i12Eq
def su49i10 : Bool → Nat → Option Sub | false, 4 => some ⟨f_impl_Disk_do_i4c, f_impl_Disk_do_i4v, f_impl_Disk_do_i4e, f_impl_Disk_do_i4⟩ | false, 15 => some ⟨f_impl_Disk_do_i15c, f_impl_Disk_do_i15v, f_impl_Disk_do_i15e, f_impl_Disk_do_i15⟩ | false, 24 => some ⟨f_impl_Disk_do_i24c, f_impl_Disk_do_i24v, f_impl_Disk_do_i24e, f_impl_Disk_do_i24⟩ | false, 22 => some ⟨f_impl_Disk_do_i22c, f_impl_Disk_do_i22v, f_impl_Disk_do_i22e, f_impl_Disk_do_i22⟩ | false, 20 => some ⟨f_impl_Disk_do_i20c, f_impl_Disk_do_i20v, f_impl_Disk_do_i20e, f_impl_Disk_do_i20⟩ | false, 18 => some ⟨f_impl_Disk_do_i18c, f_impl_Disk_do_i18v, f_impl_Disk_do_i18e, f_impl_Disk_do_i18⟩ | false, 14 => some ⟨f_impl_Disk_do_i14c, f_impl_Disk_do_i14v, f_impl_Disk_do_i14e, f_impl_Disk_do_i14⟩ | false, 12 => some ⟨f_impl_Disk_do_i12c, f_impl_Disk_do_i12v, f_impl_Disk_do_i12e, f_impl_Disk_do_i12⟩ | false, 7 => some ⟨f_impl_Disk_do_i7c, f_impl_Disk_do_i7v, f_impl_Disk_do_i7e, f_impl_Disk_do_i7⟩ | _, _ => none
theorem f_impl_Disk_do_i10Eq (R : Type) (c : Vars f_impl_Disk_do_i10c) (v : Vars f_impl_Disk_do_i10v) (kk : Vars f_impl_Disk_do_i10c → Oc f_impl_Disk_do_i10e → Option R) : evC en49 su49i10 (ifAt 10 Tryd.f49) (Desc.mk2 f_impl_Disk_do_i10v v (Desc.mk2 f_impl_Disk_do_i10c c .empty)) (fun o => chk f_impl_Disk_do_i10c f_impl_Disk_do_i10e o kk) = f_impl_Disk_do_i10 R c v kk := by kernel_rfl
theorem f_impl_Disk_do_i10Ok {X : Cx} (hX : en49.lo = X.lo) : SubOk Tryd.prog X 125 ⟨f_impl_Disk_do_i10c, f_impl_Disk_do_i10v, f_impl_Disk_do_i10e, f_impl_Disk_do_i10⟩ (ifAt 10 Tryd.f49) :=
  sub_if (u := ⟨f_impl_Disk_do_i10c, f_impl_Disk_do_i10v, f_impl_Disk_do_i10e, f_impl_Disk_do_i10⟩) (subs := su49i10) ok49 rfl hX (GoodN.good (K := True) (Eq.mpr (show GoodN Tryd.prog X 125 en49 su49i10 (ifAt 10 Tryd.f49) True = (RegOk Tryd.prog X 125 en49 10 (regAt 10 Tryd.f49) ∧ SubOk Tryd.prog X 125 ⟨f_impl_Disk_do_i12c, f_impl_Disk_do_i12v, f_impl_Disk_do_i12e, f_impl_Disk_do_i12⟩ (ifAt 12 Tryd.f49) ∧ True) by kernel_rfl) ⟨(dr49r10 hX), (f_impl_Disk_do_i12Ok hX), trivial⟩)).1 (by decide) (by decide) f_impl_Disk_do_i10Eq
def su49i7 : Bool → Nat → Option Sub | false, 4 => some ⟨f_impl_Disk_do_i4c, f_impl_Disk_do_i4v, f_impl_Disk_do_i4e, f_impl_Disk_do_i4⟩ | false, 15 => some ⟨f_impl_Disk_do_i15c, f_impl_Disk_do_i15v, f_impl_Disk_do_i15e, f_impl_Disk_do_i15⟩ | false, 24 => some ⟨f_impl_Disk_do_i24c, f_impl_Disk_do_i24v, f_impl_Disk_do_i24e, f_impl_Disk_do_i24⟩ | false, 22 => some ⟨f_impl_Disk_do_i22c, f_impl_Disk_do_i22v, f_impl_Disk_do_i22e, f_impl_Disk_do_i22⟩ | false, 20 => some ⟨f_impl_Disk_do_i20c, f_impl_Disk_do_i20v, f_impl_Disk_do_i20e, f_impl_Disk_do_i20⟩ | false, 18 => some ⟨f_impl_Disk_do_i18c, f_impl_Disk_do_i18v, f_impl_Disk_do_i18e, f_impl_Disk_do_i18⟩ | false, 14 => some ⟨f_impl_Disk_do_i14c, f_impl_Disk_do_i14v, f_impl_Disk_do_i14e, f_impl_Disk_do_i14⟩ | false, 12 => some ⟨f_impl_Disk_do_i12c, f_impl_Disk_do_i12v, f_impl_Disk_do_i12e, f_impl_Disk_do_i12⟩ | false, 10 => some ⟨f_impl_Disk_do_i10c, f_impl_Disk_do_i10v, f_impl_Disk_do_i10e, f_impl_Disk_do_i10⟩ | _, _ => none
theorem f_impl_Disk_do_i7Eq (R : Type) (c : Vars f_impl_Disk_do_i7c) (v : Vars f_impl_Disk_do_i7v) (kk : Vars f_impl_Disk_do_i7c → Oc f_impl_Disk_do_i7e → Option R) : evC en49 su49i7 (ifAt 7 Tryd.f49) (Desc.mk2 f_impl_Disk_do_i7v v (Desc.mk2 f_impl_Disk_do_i7c c .empty)) (fun o => chk f_impl_Disk_do_i7c f_impl_Disk_do_i7e o kk) = f_impl_Disk_do_i7 R c v kk := by kernel_rfl
theorem f_impl_Disk_do_i7Ok {X : Cx} (hX : en49.lo = X.lo) : SubOk Tryd.prog X 125 ⟨f_impl_Disk_do_i7c, f_impl_Disk_do_i7v, f_impl_Disk_do_i7e, f_impl_Disk_do_i7⟩ (ifAt 7 Tryd.f49) :=
  sub_if (u := ⟨f_impl_Disk_do_i7c, f_impl_Disk_do_i7v, f_impl_Disk_do_i7e, f_impl_Disk_do_i7⟩) (subs := su49i7) ok49 rfl hX (GoodN.good (K := True) (Eq.mpr (show GoodN Tryd.prog X 125 en49 su49i7 (ifAt 7 Tryd.f49) True = (RegOk Tryd.prog X 125 en49 8 (regAt 8 Tryd.f49) ∧ SubOk Tryd.prog X 125 ⟨f_impl_Disk_do_i10c, f_impl_Disk_do_i10v, f_impl_Disk_do_i10e, f_impl_Disk_do_i10⟩ (ifAt 10 Tryd.f49) ∧ True) by kernel_rfl) ⟨(dr49r8 hX), (f_impl_Disk_do_i10Ok hX), trivial⟩)).1 (by decide) (by decide) f_impl_Disk_do_i7Eq
theorem f_impl_Disk_doEq (x : Ps ins49) : evF en49 su49 Tryd.f49 ins49 res49 x = f_impl_Disk_do x := by kernel_rfl
theorem so49 : Sound Tryd.prog 49 sg49 :=
  sound_of (fn := Tryd.f49) (c := bodyOf Tryd.f49) (subs := su49) (E := en49) (by kernel_rfl) (by kernel_rfl) (by decide) ok49 (by kernel_rfl) (by kernel_rfl) (by decide)
    (fun X hX => (GoodN.good (K := True) (Eq.mpr (show GoodN Tryd.prog X 125 en49 su49 (bodyOf Tryd.f49) True = (RegOk Tryd.prog X 125 en49 2 (regAt 2 Tryd.f49) ∧ SubOk Tryd.prog X 125 ⟨f_impl_Disk_do_i4c, f_impl_Disk_do_i4v, f_impl_Disk_do_i4e, f_impl_Disk_do_i4⟩ (ifAt 4 Tryd.f49) ∧ SubOk Tryd.prog X 125 ⟨f_impl_Disk_do_i7c, f_impl_Disk_do_i7v, f_impl_Disk_do_i7e, f_impl_Disk_do_i7⟩ (ifAt 7 Tryd.f49) ∧ True) by kernel_rfl) ⟨(dr49r2 hX), (f_impl_Disk_do_i4Ok hX), (f_impl_Disk_do_i7Ok hX), trivial⟩)).1)
    (fun x r h => (f_impl_Disk_doEq x).trans h)
def fl20 : List (Nat × Sig) := [(23, sg23), (47, sg47r), (48, sg48), (49, sg49)]
def en20 : Env := { n := 29, ty := assocN tyL, fns := assocN fl20, lo := 0, frz := frzOf [(0, [2])] }
def su20 : Bool → Nat → Option Sub | _, _ => none
theorem ok20 : EnvOk Tryd.prog en20 := envOk_of rfl rfl tyL_ok (⟨so23, ⟨so47r, ⟨so48, ⟨so49, trivial⟩⟩⟩⟩)
theorem f_impl_DoDiskEq (x : Ps ins20) : evF en20 su20 Tryd.f20 ins20 res20 x = f_impl_DoDisk x := by kernel_rfl
theorem so20 : Sound Tryd.prog 20 sg20 :=
  sound_of (fn := Tryd.f20) (c := bodyOf Tryd.f20) (subs := su20) (E := en20) (by kernel_rfl) (by kernel_rfl) (by decide) ok20 (by kernel_rfl) (by kernel_rfl) (by decide)
    (fun X hX => (GoodN.good (K := True) (Eq.mpr (show GoodN Tryd.prog X 29 en20 su20 (bodyOf Tryd.f20) True = (True) by kernel_rfl) trivial)).1)
    (fun x r h => (f_impl_DoDiskEq x).trans h)
def fl21 : List (Nat × Sig) := [(22, sg22), (34, sg34), (35, sg35)]
def dw21 : List (Nat × List (List Nat × List Nat)) := [(3, [([2, 13], []), ([14], []), ([3, 15], []), ([14, 16], []), ([], []), ([], []), ([], []), ([6], []), ([6, 16], []), ([7], [])])]
def en21 : Env := { n := 25, ty := assocN tyL, fns := assocN fl21, lo := 0, draw := drawOf dw21 }
def su21 : Bool → Nat → Option Sub | _, _ => none
theorem ok21 : EnvOk Tryd.prog en21 := envOk_of rfl rfl tyL_ok (⟨so22, ⟨so34, ⟨so35, trivial⟩⟩⟩)
theorem dr21r3 {X : Cx} (hX : en21.lo = X.lo) : RegOk Tryd.prog X 25 en21 3 (regAt 3 Tryd.f21) := regOk_of ok21 rfl hX (by kernel_rfl) (by kernel_rfl)
theorem f_spec_DoDiskEq (x : Ps ins21) : evF en21 su21 Tryd.f21 ins21 res21 x = f_spec_DoDisk x := by kernel_rfl
theorem so21 : Sound Tryd.prog 21 sg21 :=
  sound_of (fn := Tryd.f21) (c := bodyOf Tryd.f21) (subs := su21) (E := en21) (by kernel_rfl) (by kernel_rfl) (by decide) ok21 (by kernel_rfl) (by kernel_rfl) (by decide)
    (fun X hX => (GoodN.good (K := True) (Eq.mpr (show GoodN Tryd.prog X 25 en21 su21 (bodyOf Tryd.f21) True = (RegOk Tryd.prog X 25 en21 3 (regAt 3 Tryd.f21) ∧ True) by kernel_rfl) ⟨(dr21r3 hX), trivial⟩)).1)
    (fun x r h => (f_spec_DoDiskEq x).trans h)
def fl24 : List (Nat × Sig) := []
def en24 : Env := { n := 20, ty := assocN tyL, fns := assocN fl24, lo := 0 }
def su24 : Bool → Nat → Option Sub | true, 3 => some ⟨f_laws_numberOf_l3c, f_laws_numberOf_l3v, f_laws_numberOf_l3e, loopF f_laws_numberOf_l3⟩ | _, _ => none
theorem ok24 : EnvOk Tryd.prog en24 := envOk_of rfl rfl tyL_ok (trivial)
theorem f_laws_numberOf_l3Eq (R : Type) (c : Vars f_laws_numberOf_l3c) (v : Vars f_laws_numberOf_l3v) (kk : Vars f_laws_numberOf_l3c → (Vars f_laws_numberOf_l3v ⊕ Oc f_laws_numberOf_l3e) → Option R) : evC en24 su24 (loopAt 3 Tryd.f24) (Desc.mk2 f_laws_numberOf_l3v v (Desc.mk2 f_laws_numberOf_l3c c .empty)) (fun o => bodyK f_laws_numberOf_l3c f_laws_numberOf_l3v f_laws_numberOf_l3e o kk) = f_laws_numberOf_l3 R c v kk := by kernel_rfl
theorem f_laws_numberOf_l3Ok {X : Cx} (hX : en24.lo = X.lo) : SubOk Tryd.prog X 20 ⟨f_laws_numberOf_l3c, f_laws_numberOf_l3v, f_laws_numberOf_l3e, loopF f_laws_numberOf_l3⟩ (.loop (loopAt 3 Tryd.f24)) :=
  sub_loop (subs := su24) ok24 rfl hX (GoodN.good (K := True) (Eq.mpr (show GoodN Tryd.prog X 20 en24 su24 (loopAt 3 Tryd.f24) True = (True) by kernel_rfl) trivial)).1 (by decide) (by decide) f_laws_numberOf_l3Eq
theorem f_laws_numberOfEq (x : Ps ins24) : evF en24 su24 Tryd.f24 ins24 res24 x = f_laws_numberOf x := by kernel_rfl
theorem so24 : Sound Tryd.prog 24 sg24 :=
  sound_of (fn := Tryd.f24) (c := bodyOf Tryd.f24) (subs := su24) (E := en24) (by kernel_rfl) (by kernel_rfl) (by decide) ok24 (by kernel_rfl) (by kernel_rfl) (by decide)
    (fun X hX => (GoodN.good (K := True) (Eq.mpr (show GoodN Tryd.prog X 20 en24 su24 (bodyOf Tryd.f24) True = (SubOk Tryd.prog X 20 ⟨f_laws_numberOf_l3c, f_laws_numberOf_l3v, f_laws_numberOf_l3e, loopF f_laws_numberOf_l3⟩ (.loop (loopAt 3 Tryd.f24)) ∧ True) by kernel_rfl) ⟨(f_laws_numberOf_l3Ok hX), trivial⟩)).1)
    (fun x r h => (f_laws_numberOfEq x).trans h)
def fl27 : List (Nat × Sig) := [(23, sg23), (58, sg58)]
def en27 : Env := { n := 29, ty := assocN tyL, fns := assocN fl27, lo := 0 }
def su27 : Bool → Nat → Option Sub | _, _ => none
theorem ok27 : EnvOk Tryd.prog en27 := envOk_of rfl rfl tyL_ok (⟨so23, ⟨so58, trivial⟩⟩)
theorem dr27r4 {X : Cx} (hX : en27.lo = X.lo) : RegOk Tryd.prog X 29 en27 4 (regAt 4 Tryd.f27) := regOk_of ok27 rfl hX (by kernel_rfl) (by kernel_rfl)
theorem f_impl_ReadFileEq (x : Ps ins27) : evF en27 su27 Tryd.f27 ins27 res27 x = f_impl_ReadFile x := by kernel_rfl
theorem so27 : Sound Tryd.prog 27 sg27 :=
  sound_of (fn := Tryd.f27) (c := bodyOf Tryd.f27) (subs := su27) (E := en27) (by kernel_rfl) (by kernel_rfl) (by decide) ok27 (by kernel_rfl) (by kernel_rfl) (by decide)
    (fun X hX => (GoodN.good (K := True) (Eq.mpr (show GoodN Tryd.prog X 29 en27 su27 (bodyOf Tryd.f27) True = (RegOk Tryd.prog X 29 en27 4 (regAt 4 Tryd.f27) ∧ True) by kernel_rfl) ⟨(dr27r4 hX), trivial⟩)).1)
    (fun x r h => (f_impl_ReadFileEq x).trans h)
def fl25 : List (Nat × Sig) := [(23, sg23)]
def hi25 : List (Nat × (K × Mk)) := [(2, ((.sl .str), (.o .s))), (4, ((.sl .str), (.o .s)))]
def en25 : Env := { n := 25, ty := assocN tyL, fns := assocN fl25, lo := 0, hint := assocN hi25 }
def su25 : Bool → Nat → Option Sub | true, 5 => some ⟨f_impl_NamesOf_l5c, f_impl_NamesOf_l5v, f_impl_NamesOf_l5e, loopF f_impl_NamesOf_l5⟩ | _, _ => none
theorem ok25 : EnvOk Tryd.prog en25 := envOk_of rfl rfl tyL_ok (⟨so23, trivial⟩)
theorem f_impl_NamesOf_l5Eq (R : Type) (c : Vars f_impl_NamesOf_l5c) (v : Vars f_impl_NamesOf_l5v) (kk : Vars f_impl_NamesOf_l5c → (Vars f_impl_NamesOf_l5v ⊕ Oc f_impl_NamesOf_l5e) → Option R) : evC en25 su25 (loopAt 5 Tryd.f25) (Desc.mk2 f_impl_NamesOf_l5v v (Desc.mk2 f_impl_NamesOf_l5c c .empty)) (fun o => bodyK f_impl_NamesOf_l5c f_impl_NamesOf_l5v f_impl_NamesOf_l5e o kk) = f_impl_NamesOf_l5 R c v kk := by kernel_rfl
theorem f_impl_NamesOf_l5Ok {X : Cx} (hX : en25.lo = X.lo) : SubOk Tryd.prog X 25 ⟨f_impl_NamesOf_l5c, f_impl_NamesOf_l5v, f_impl_NamesOf_l5e, loopF f_impl_NamesOf_l5⟩ (.loop (loopAt 5 Tryd.f25)) :=
  sub_loop (subs := su25) ok25 rfl hX (GoodN.good (K := True) (Eq.mpr (show GoodN Tryd.prog X 25 en25 su25 (loopAt 5 Tryd.f25) True = (True) by kernel_rfl) trivial)).1 (by decide) (by decide) f_impl_NamesOf_l5Eq
theorem f_impl_NamesOfEq (x : Ps ins25) : evF en25 su25 Tryd.f25 ins25 res25 x = f_impl_NamesOf x := by kernel_rfl
theorem so25 : Sound Tryd.prog 25 sg25 :=
  sound_of (fn := Tryd.f25) (c := bodyOf Tryd.f25) (subs := su25) (E := en25) (by kernel_rfl) (by kernel_rfl) (by decide) ok25 (by kernel_rfl) (by kernel_rfl) (by decide)
    (fun X hX => (GoodN.good (K := True) (Eq.mpr (show GoodN Tryd.prog X 25 en25 su25 (bodyOf Tryd.f25) True = (SubOk Tryd.prog X 25 ⟨f_impl_NamesOf_l5c, f_impl_NamesOf_l5v, f_impl_NamesOf_l5e, loopF f_impl_NamesOf_l5⟩ (.loop (loopAt 5 Tryd.f25)) ∧ True) by kernel_rfl) ⟨(f_impl_NamesOf_l5Ok hX), trivial⟩)).1)
    (fun x r h => (f_impl_NamesOfEq x).trans h)
def fl28 : List (Nat × Sig) := []
def en28 : Env := { n := 26, ty := assocN tyL, fns := assocN fl28, lo := 0 }
def su28 : Bool → Nat → Option Sub | true, 4 => some ⟨f_laws_sameTexts_l4c, f_laws_sameTexts_l4v, f_laws_sameTexts_l4e, loopF f_laws_sameTexts_l4⟩ | _, _ => none
theorem ok28 : EnvOk Tryd.prog en28 := envOk_of rfl rfl tyL_ok (trivial)
theorem dr28r6 {X : Cx} (hX : en28.lo = X.lo) : RegOk Tryd.prog X 26 en28 6 (regAt 6 Tryd.f28) := regOk_of ok28 rfl hX (by kernel_rfl) (by kernel_rfl)
theorem f_laws_sameTexts_l4Eq (R : Type) (c : Vars f_laws_sameTexts_l4c) (v : Vars f_laws_sameTexts_l4v) (kk : Vars f_laws_sameTexts_l4c → (Vars f_laws_sameTexts_l4v ⊕ Oc f_laws_sameTexts_l4e) → Option R) : evC en28 su28 (loopAt 4 Tryd.f28) (Desc.mk2 f_laws_sameTexts_l4v v (Desc.mk2 f_laws_sameTexts_l4c c .empty)) (fun o => bodyK f_laws_sameTexts_l4c f_laws_sameTexts_l4v f_laws_sameTexts_l4e o kk) = f_laws_sameTexts_l4 R c v kk := by kernel_rfl
theorem f_laws_sameTexts_l4Ok {X : Cx} (hX : en28.lo = X.lo) : SubOk Tryd.prog X 26 ⟨f_laws_sameTexts_l4c, f_laws_sameTexts_l4v, f_laws_sameTexts_l4e, loopF f_laws_sameTexts_l4⟩ (.loop (loopAt 4 Tryd.f28)) :=
  sub_loop (subs := su28) ok28 rfl hX (GoodN.good (K := True) (Eq.mpr (show GoodN Tryd.prog X 26 en28 su28 (loopAt 4 Tryd.f28) True = (RegOk Tryd.prog X 26 en28 6 (regAt 6 Tryd.f28) ∧ True) by kernel_rfl) ⟨(dr28r6 hX), trivial⟩)).1 (by decide) (by decide) f_laws_sameTexts_l4Eq
theorem f_laws_sameTextsEq (x : Ps ins28) : evF en28 su28 Tryd.f28 ins28 res28 x = f_laws_sameTexts x := by kernel_rfl
theorem so28 : Sound Tryd.prog 28 sg28 :=
  sound_of (fn := Tryd.f28) (c := bodyOf Tryd.f28) (subs := su28) (E := en28) (by kernel_rfl) (by kernel_rfl) (by decide) ok28 (by kernel_rfl) (by kernel_rfl) (by decide)
    (fun X hX => (GoodN.good (K := True) (Eq.mpr (show GoodN Tryd.prog X 26 en28 su28 (bodyOf Tryd.f28) True = (SubOk Tryd.prog X 26 ⟨f_laws_sameTexts_l4c, f_laws_sameTexts_l4v, f_laws_sameTexts_l4e, loopF f_laws_sameTexts_l4⟩ (.loop (loopAt 4 Tryd.f28)) ∧ True) by kernel_rfl) ⟨(f_laws_sameTexts_l4Ok hX), trivial⟩)).1)
    (fun x r h => (f_laws_sameTextsEq x).trans h)
def fl26 : List (Nat × Sig) := [(23, sg23), (58, sg58)]
def dw26 : List (Nat × List (List Nat × List Nat)) := [(4, [([2, 19], []), ([2, 20], []), ([2, 21], []), ([2, 22], []), ([], []), ([24], []), ([25], []), ([26], []), ([27], []), ([28], []), ([7], []), ([7], [])])]
def en26 : Env := { n := 34, ty := assocN tyL, fns := assocN fl26, lo := 0, draw := drawOf dw26 }
def su26 : Bool → Nat → Option Sub | _, _ => none
theorem ok26 : EnvOk Tryd.prog en26 := envOk_of rfl rfl tyL_ok (⟨so23, ⟨so58, trivial⟩⟩)
theorem dr26r4 {X : Cx} (hX : en26.lo = X.lo) : RegOk Tryd.prog X 34 en26 4 (regAt 4 Tryd.f26) := regOk_of ok26 rfl hX (by kernel_rfl) (by kernel_rfl)
theorem f_impl_SafeFileEq (x : Ps ins26) : evF en26 su26 Tryd.f26 ins26 res26 x = f_impl_SafeFile x := by kernel_rfl
theorem so26 : Sound Tryd.prog 26 sg26 :=
  sound_of (fn := Tryd.f26) (c := bodyOf Tryd.f26) (subs := su26) (E := en26) (by kernel_rfl) (by kernel_rfl) (by decide) ok26 (by kernel_rfl) (by kernel_rfl) (by decide)
    (fun X hX => (GoodN.good (K := True) (Eq.mpr (show GoodN Tryd.prog X 34 en26 su26 (bodyOf Tryd.f26) True = (RegOk Tryd.prog X 34 en26 4 (regAt 4 Tryd.f26) ∧ True) by kernel_rfl) ⟨(dr26r4 hX), trivial⟩)).1)
    (fun x r h => (f_impl_SafeFileEq x).trans h)
def fl5 : List (Nat × Sig) := [(19, sg19), (20, sg20), (21, sg21), (22, sg22), (24, sg24), (25, sg25), (26, sg26), (27, sg27), (28, sg28)]
def hi5 : List (Nat × (K × Mk)) := [(27, ((.sl .str), (.o .s))), (29, ((.sl .str), (.o .s)))]
def en5 : Env := { n := 227, ty := assocN tyL, fns := assocN fl5, lo := 0, hint := assocN hi5 }
def su5 : Bool → Nat → Option Sub | _, _ => none
theorem ok5 : EnvOk Tryd.prog en5 := envOk_of rfl rfl tyL_ok (⟨so19, ⟨so20, ⟨so21, ⟨so22, ⟨so24, ⟨so25, ⟨so26, ⟨so27, ⟨so28, trivial⟩⟩⟩⟩⟩⟩⟩⟩⟩)
theorem dr5r8 {X : Cx} (hX : en5.lo = X.lo) : RegOk Tryd.prog X 227 en5 8 (regAt 8 Tryd.f5) := regOk_of ok5 rfl hX (by kernel_rfl) (by kernel_rfl)
theorem f_laws_FnRenamedEq (x : Ps ins5) : evF en5 su5 Tryd.f5 ins5 res5 x = f_laws_FnRenamed x := by kernel_rfl
theorem so5 : Sound Tryd.prog 5 sg5 :=
  sound_of (fn := Tryd.f5) (c := bodyOf Tryd.f5) (subs := su5) (E := en5) (by kernel_rfl) (by kernel_rfl) (by decide) ok5 (by kernel_rfl) (by kernel_rfl) (by decide)
    (fun X hX => (GoodN.good (K := True) (Eq.mpr (show GoodN Tryd.prog X 227 en5 su5 (bodyOf Tryd.f5) True = (RegOk Tryd.prog X 227 en5 8 (regAt 8 Tryd.f5) ∧ True) by kernel_rfl) ⟨(dr5r8 hX), trivial⟩)).1)
    (fun x r h => (f_laws_FnRenamedEq x).trans h)
end Go.Proofs.YthlnjkcpdkjipaaDoor
