/- The typed functions are what the program's code says. (Printed by a program of mine, wip/tools/gen.py.) -/
import Derived.Test.YtncalmofbcmkaaaGreatProg
import Derived.Test.YtncalmofbcmkaaaGreatR3Lib
import Derived.Test.YtncalmofbcmkaaaGreatR3Fns
set_option linter.all false
set_option maxRecDepth 100000
noncomputable section
namespace Go.Proofs.YtncalmofbcmkaaaGreat
open Go Go.Proofs.YtncalmofbcmkaaaGreat.Ev
theorem ty3 : TyOk Tryz.prog 3 (.int .i64) := ⟨⟨by kernel_rfl, by kernel_rfl⟩, by kernel_rfl⟩
theorem ty9 : TyOk Tryz.prog 9 .str := ⟨⟨by kernel_rfl, by kernel_rfl⟩, by kernel_rfl⟩
theorem ty46 : TyOk Tryz.prog 46 kdFilter := ty_struct (f := (⟨ "Hashes", 3, 0, false, "", "", 0⟩ : Field)) (l := [(⟨ "Bits", 9, 1, false, "", "", 8⟩ : Field), (⟨ "Many", 3, 2, false, "", "", 24⟩ : Field)]) ⟨by kernel_rfl, by kernel_rfl⟩ (by kernel_rfl) (by kernel_rfl) ⟨rfl, by decide, ty3, ⟨rfl, by decide, ty9, ⟨rfl, by decide, ty3, rfl⟩⟩⟩
theorem ty33 : TyOk Tryz.prog 33 kdItem := ty_struct (f := (⟨ "Key", 9, 0, false, "", "", 0⟩ : Field)) (l := [(⟨ "Seq", 3, 1, false, "", "", 16⟩ : Field), (⟨ "Kind", 3, 2, false, "", "", 24⟩ : Field), (⟨ "Value", 9, 3, false, "", "", 32⟩ : Field)]) ⟨by kernel_rfl, by kernel_rfl⟩ (by kernel_rfl) (by kernel_rfl) ⟨rfl, by decide, ty9, ⟨rfl, by decide, ty3, ⟨rfl, by decide, ty3, ⟨rfl, by decide, ty9, rfl⟩⟩⟩⟩
theorem ty50 : TyOk Tryz.prog 50 kdPlace := ty_struct (f := (⟨ "Last", 9, 0, false, "", "", 0⟩ : Field)) (l := [(⟨ "Seq", 3, 1, false, "", "", 16⟩ : Field), (⟨ "At", 3, 2, false, "", "", 24⟩ : Field), (⟨ "Size", 3, 3, false, "", "", 32⟩ : Field)]) ⟨by kernel_rfl, by kernel_rfl⟩ (by kernel_rfl) (by kernel_rfl) ⟨rfl, by decide, ty9, ⟨rfl, by decide, ty3, ⟨rfl, by decide, ty3, ⟨rfl, by decide, ty3, rfl⟩⟩⟩⟩
theorem ty23 : TyOk Tryz.prog 23 (.sl kdItem) := ty_sl ⟨by kernel_rfl, by kernel_rfl⟩ (by kernel_rfl) ty33
theorem ty40 : TyOk Tryz.prog 40 (.sl kdPlace) := ty_sl ⟨by kernel_rfl, by kernel_rfl⟩ (by kernel_rfl) ty50
theorem ty63 : TyOk Tryz.prog 63 kdtable := ty_struct (f := (⟨ "items", 23, 0, false, "", "loop.example/g00224/impl", 0⟩ : Field)) (l := [(⟨ "index", 40, 1, false, "", "loop.example/g00224/impl", 24⟩ : Field), (⟨ "filter", 46, 2, false, "", "loop.example/g00224/impl", 48⟩ : Field)]) ⟨by kernel_rfl, by kernel_rfl⟩ (by kernel_rfl) (by kernel_rfl) ⟨rfl, by decide, ty23, ⟨rfl, by decide, ty40, ⟨rfl, by decide, ty46, rfl⟩⟩⟩
theorem ty4 : TyOk Tryz.prog 4 .bool := ⟨⟨by kernel_rfl, by kernel_rfl⟩, by kernel_rfl⟩
theorem ty120 : TyOk Tryz.prog 120 kdtaker := ty_struct (f := (⟨ "left", 9, 0, false, "", "loop.example/g00224/impl", 0⟩ : Field)) (l := [(⟨ "bad", 4, 1, false, "", "loop.example/g00224/impl", 16⟩ : Field)]) ⟨by kernel_rfl, by kernel_rfl⟩ (by kernel_rfl) (by kernel_rfl) ⟨rfl, by decide, ty9, ⟨rfl, by decide, ty4, rfl⟩⟩
theorem ty5 : TyOk Tryz.prog 5 (.int .u8) := ⟨⟨by kernel_rfl, by kernel_rfl⟩, by kernel_rfl⟩
theorem ty22 : TyOk Tryz.prog 22 (.sl (.int .u8)) := ty_sl ⟨by kernel_rfl, by kernel_rfl⟩ (by kernel_rfl) ty5
theorem ty55 : TyOk Tryz.prog 55 (.int .u64) := ⟨⟨by kernel_rfl, by kernel_rfl⟩, by kernel_rfl⟩
theorem ty57 : TyOk Tryz.prog 57 kdl1Cur := ty_struct (f := (⟨ "code", 22, 0, false, "", "loop.example/g00224/spec", 0⟩ : Field)) (l := [(⟨ "at", 3, 1, false, "", "loop.example/g00224/spec", 24⟩ : Field), (⟨ "seed", 55, 2, false, "", "loop.example/g00224/spec", 32⟩ : Field)]) ⟨by kernel_rfl, by kernel_rfl⟩ (by kernel_rfl) (by kernel_rfl) ⟨rfl, by decide, ty22, ⟨rfl, by decide, ty3, ⟨rfl, by decide, ty55, rfl⟩⟩⟩
theorem ty78 : TyOk Tryz.prog 78 (.sl (.int .i64)) := ty_sl ⟨by kernel_rfl, by kernel_rfl⟩ (by kernel_rfl) ty3
theorem ty89 : TyOk Tryz.prog 89 (.sl .str) := ty_sl ⟨by kernel_rfl, by kernel_rfl⟩ (by kernel_rfl) ty9
theorem ty92 : TyOk Tryz.prog 92 (.int .u32) := ⟨⟨by kernel_rfl, by kernel_rfl⟩, by kernel_rfl⟩
theorem ty116 : TyOk Tryz.prog 116 (.sl (.int .u32)) := ty_sl ⟨by kernel_rfl, by kernel_rfl⟩ (by kernel_rfl) ty92
theorem ty101 : TyOk Tryz.prog 101 (.int .u64) := ⟨⟨by kernel_rfl, by kernel_rfl⟩, by kernel_rfl⟩
def tyL : List (Nat × K) := [(3, (.int .i64)), (9, .str), (46, kdFilter), (33, kdItem), (50, kdPlace), (23, (.sl kdItem)), (40, (.sl kdPlace)), (63, kdtable), (4, .bool), (120, kdtaker), (5, (.int .u8)), (22, (.sl (.int .u8))), (55, (.int .u64)), (57, kdl1Cur), (78, (.sl (.int .i64))), (89, (.sl .str)), (92, (.int .u32)), (116, (.sl (.int .u32))), (101, (.int .u64))]
theorem tyL_ok : AllTy Tryz.prog tyL := ⟨ty3, ⟨ty9, ⟨ty46, ⟨ty33, ⟨ty50, ⟨ty23, ⟨ty40, ⟨ty63, ⟨ty4, ⟨ty120, ⟨ty5, ⟨ty22, ⟨ty55, ⟨ty57, ⟨ty78, ⟨ty89, ⟨ty92, ⟨ty116, ⟨ty101, trivial⟩⟩⟩⟩⟩⟩⟩⟩⟩⟩⟩⟩⟩⟩⟩⟩⟩⟩⟩
def fl47 : List (Nat × Sig) := []
def en47 : Env := { n := 62, ty := assocN tyL, fns := assocN fl47, lo := 1 }
def su47 : Bool → Nat → Option Sub | false, 3 => some ⟨f_spec_l1Cur_next_i3c, f_spec_l1Cur_next_i3v, f_spec_l1Cur_next_i3e, f_spec_l1Cur_next_i3⟩ | _, _ => none
theorem ok47 : EnvOk Tryz.prog en47 := envOk_of rfl rfl tyL_ok (trivial)
theorem dr47r2 {X : Cx} (hX : en47.lo = X.lo) : RegOk Tryz.prog X 62 en47 2 (regAt 2 Tryz.f47) := regOk_of ok47 rfl hX (by kernel_rfl) (by kernel_rfl)
theorem dr47r3 {X : Cx} (hX : en47.lo = X.lo) : RegOk Tryz.prog X 62 en47 3 (regAt 3 Tryz.f47) := regOk_of ok47 rfl hX (by kernel_rfl) (by kernel_rfl)
theorem dr47r6 {X : Cx} (hX : en47.lo = X.lo) : RegOk Tryz.prog X 62 en47 6 (regAt 6 Tryz.f47) := regOk_of ok47 rfl hX (by kernel_rfl) (by kernel_rfl)
def su47i3 : Bool → Nat → Option Sub | _, _ => none
theorem f_spec_l1Cur_next_i3Eq (R : Type) (c : Vars f_spec_l1Cur_next_i3c) (v : Vars f_spec_l1Cur_next_i3v) (kk : Vars f_spec_l1Cur_next_i3c → Oc f_spec_l1Cur_next_i3e → Option R) : evC en47 su47i3 (ifAt 3 Tryz.f47) (Desc.mk2 f_spec_l1Cur_next_i3v v (Desc.mk2 f_spec_l1Cur_next_i3c c .empty)) (fun o => chk f_spec_l1Cur_next_i3c f_spec_l1Cur_next_i3e o kk) = f_spec_l1Cur_next_i3 R c v kk := by kernel_rfl
theorem f_spec_l1Cur_next_i3Ok {X : Cx} (hX : en47.lo = X.lo) : SubOk Tryz.prog X 62 ⟨f_spec_l1Cur_next_i3c, f_spec_l1Cur_next_i3v, f_spec_l1Cur_next_i3e, f_spec_l1Cur_next_i3⟩ (ifAt 3 Tryz.f47) :=
  sub_if (u := ⟨f_spec_l1Cur_next_i3c, f_spec_l1Cur_next_i3v, f_spec_l1Cur_next_i3e, f_spec_l1Cur_next_i3⟩) (subs := su47i3) ok47 rfl hX (GoodN.good (K := True) (Eq.mpr (show GoodN Tryz.prog X 62 en47 su47i3 (ifAt 3 Tryz.f47) True = (RegOk Tryz.prog X 62 en47 3 (regAt 3 Tryz.f47) ∧ True) by kernel_rfl) ⟨(dr47r3 hX), trivial⟩)).1 (by decide) (by decide) f_spec_l1Cur_next_i3Eq
theorem f_spec_l1Cur_nextEq (x : Ps ins47) : evF en47 su47 Tryz.f47 ins47 res47 x = f_spec_l1Cur_next x := by kernel_rfl
theorem so47 : Sound Tryz.prog 47 sg47 :=
  sound_of (fn := Tryz.f47) (c := bodyOf Tryz.f47) (subs := su47) (E := en47) (by kernel_rfl) (by kernel_rfl) (by decide) ok47 (by kernel_rfl) (by kernel_rfl) (by decide)
    (fun X hX => (GoodN.good (K := True) (Eq.mpr (show GoodN Tryz.prog X 62 en47 su47 (bodyOf Tryz.f47) True = (RegOk Tryz.prog X 62 en47 2 (regAt 2 Tryz.f47) ∧ SubOk Tryz.prog X 62 ⟨f_spec_l1Cur_next_i3c, f_spec_l1Cur_next_i3v, f_spec_l1Cur_next_i3e, f_spec_l1Cur_next_i3⟩ (ifAt 3 Tryz.f47) ∧ RegOk Tryz.prog X 62 en47 6 (regAt 6 Tryz.f47) ∧ True) by kernel_rfl) ⟨(dr47r2 hX), (f_spec_l1Cur_next_i3Ok hX), (dr47r6 hX), trivial⟩)).1)
    (fun x r h => (f_spec_l1Cur_nextEq x).trans h)
def fl20 : List (Nat × Sig) := [(47, sg47)]
def en20 : Env := { n := 20, ty := assocN tyL, fns := assocN fl20, lo := 1 }
def su20 : Bool → Nat → Option Sub | false, 5 => some ⟨f_spec_l1Cur_pick_i5c, f_spec_l1Cur_pick_i5v, f_spec_l1Cur_pick_i5e, f_spec_l1Cur_pick_i5⟩ | _, _ => none
theorem ok20 : EnvOk Tryz.prog en20 := envOk_of rfl rfl tyL_ok (⟨so47, trivial⟩)
def su20i5 : Bool → Nat → Option Sub | _, _ => none
theorem f_spec_l1Cur_pick_i5Eq (R : Type) (c : Vars f_spec_l1Cur_pick_i5c) (v : Vars f_spec_l1Cur_pick_i5v) (kk : Vars f_spec_l1Cur_pick_i5c → Oc f_spec_l1Cur_pick_i5e → Option R) : evC en20 su20i5 (ifAt 5 Tryz.f20) (Desc.mk2 f_spec_l1Cur_pick_i5v v (Desc.mk2 f_spec_l1Cur_pick_i5c c .empty)) (fun o => chk f_spec_l1Cur_pick_i5c f_spec_l1Cur_pick_i5e o kk) = f_spec_l1Cur_pick_i5 R c v kk := by kernel_rfl
theorem f_spec_l1Cur_pick_i5Ok {X : Cx} (hX : en20.lo = X.lo) : SubOk Tryz.prog X 20 ⟨f_spec_l1Cur_pick_i5c, f_spec_l1Cur_pick_i5v, f_spec_l1Cur_pick_i5e, f_spec_l1Cur_pick_i5⟩ (ifAt 5 Tryz.f20) :=
  sub_if (u := ⟨f_spec_l1Cur_pick_i5c, f_spec_l1Cur_pick_i5v, f_spec_l1Cur_pick_i5e, f_spec_l1Cur_pick_i5⟩) (subs := su20i5) ok20 rfl hX (GoodN.good (K := True) (Eq.mpr (show GoodN Tryz.prog X 20 en20 su20i5 (ifAt 5 Tryz.f20) True = (True) by kernel_rfl) trivial)).1 (by decide) (by decide) f_spec_l1Cur_pick_i5Eq
theorem f_spec_l1Cur_pickEq (x : Ps ins20) : evF en20 su20 Tryz.f20 ins20 res20 x = f_spec_l1Cur_pick x := by kernel_rfl
theorem so20 : Sound Tryz.prog 20 sg20 :=
  sound_of (fn := Tryz.f20) (c := bodyOf Tryz.f20) (subs := su20) (E := en20) (by kernel_rfl) (by kernel_rfl) (by decide) ok20 (by kernel_rfl) (by kernel_rfl) (by decide)
    (fun X hX => (GoodN.good (K := True) (Eq.mpr (show GoodN Tryz.prog X 20 en20 su20 (bodyOf Tryz.f20) True = (SubOk Tryz.prog X 20 ⟨f_spec_l1Cur_pick_i5c, f_spec_l1Cur_pick_i5v, f_spec_l1Cur_pick_i5e, f_spec_l1Cur_pick_i5⟩ (ifAt 5 Tryz.f20) ∧ True) by kernel_rfl) ⟨(f_spec_l1Cur_pick_i5Ok hX), trivial⟩)).1)
    (fun x r h => (f_spec_l1Cur_pickEq x).trans h)
def fl45 : List (Nat × Sig) := [(20, sg20)]
def en45 : Env := { n := 9, ty := assocN tyL, fns := assocN fl45, lo := 1 }
def su45 : Bool → Nat → Option Sub | _, _ => none
theorem ok45 : EnvOk Tryz.prog en45 := envOk_of rfl rfl tyL_ok (⟨so20, trivial⟩)
theorem f_spec_l1Cur_oneEq (x : Ps ins45) : evF en45 su45 Tryz.f45 ins45 res45 x = f_spec_l1Cur_one x := by kernel_rfl
theorem so45 : Sound Tryz.prog 45 sg45 :=
  sound_of (fn := Tryz.f45) (c := bodyOf Tryz.f45) (subs := su45) (E := en45) (by kernel_rfl) (by kernel_rfl) (by decide) ok45 (by kernel_rfl) (by kernel_rfl) (by decide)
    (fun X hX => (GoodN.good (K := True) (Eq.mpr (show GoodN Tryz.prog X 9 en45 su45 (bodyOf Tryz.f45) True = (True) by kernel_rfl) trivial)).1)
    (fun x r h => (f_spec_l1Cur_oneEq x).trans h)
def fl71 : List (Nat × Sig) := [(20, sg20)]
def en71 : Env := { n := 12, ty := assocN tyL, fns := assocN fl71, lo := 1 }
def su71 : Bool → Nat → Option Sub | _, _ => none
theorem ok71 : EnvOk Tryz.prog en71 := envOk_of rfl rfl tyL_ok (⟨so20, trivial⟩)
theorem f_spec_l1Cur_ofEq (x : Ps ins71) : evF en71 su71 Tryz.f71 ins71 res71 x = f_spec_l1Cur_of x := by kernel_rfl
theorem so71 : Sound Tryz.prog 71 sg71 :=
  sound_of (fn := Tryz.f71) (c := bodyOf Tryz.f71) (subs := su71) (E := en71) (by kernel_rfl) (by kernel_rfl) (by decide) ok71 (by kernel_rfl) (by kernel_rfl) (by decide)
    (fun X hX => (GoodN.good (K := True) (Eq.mpr (show GoodN Tryz.prog X 12 en71 su71 (bodyOf Tryz.f71) True = (True) by kernel_rfl) trivial)).1)
    (fun x r h => (f_spec_l1Cur_ofEq x).trans h)
def fl28 : List (Nat × Sig) := [(45, sg45), (71, sg71)]
def en28 : Env := { n := 11, ty := assocN tyL, fns := assocN fl28, lo := 1 }
def su28 : Bool → Nat → Option Sub | _, _ => none
theorem ok28 : EnvOk Tryz.prog en28 := envOk_of rfl rfl tyL_ok (⟨so45, ⟨so71, trivial⟩⟩)
theorem f_spec_l1Cur_keyEq (x : Ps ins28) : evF en28 su28 Tryz.f28 ins28 res28 x = f_spec_l1Cur_key x := by kernel_rfl
theorem so28 : Sound Tryz.prog 28 sg28 :=
  sound_of (fn := Tryz.f28) (c := bodyOf Tryz.f28) (subs := su28) (E := en28) (by kernel_rfl) (by kernel_rfl) (by decide) ok28 (by kernel_rfl) (by kernel_rfl) (by decide)
    (fun X hX => (GoodN.good (K := True) (Eq.mpr (show GoodN Tryz.prog X 11 en28 su28 (bodyOf Tryz.f28) True = (True) by kernel_rfl) trivial)).1)
    (fun x r h => (f_spec_l1Cur_keyEq x).trans h)
def fl104 : List (Nat × Sig) := [(20, sg20)]
def hi104 : List (Nat × (K × Mk)) := [(5, ((.sl (.int .u8)), (.o .s)))]
def en104 : Env := { n := 23, ty := assocN tyL, fns := assocN fl104, lo := 1, hint := assocN hi104 }
def su104 : Bool → Nat → Option Sub | true, 3 => some ⟨f_spec_l1Cur_text_l3c, f_spec_l1Cur_text_l3v, f_spec_l1Cur_text_l3e, loopF f_spec_l1Cur_text_l3⟩ | _, _ => none
theorem ok104 : EnvOk Tryz.prog en104 := envOk_of rfl rfl tyL_ok (⟨so20, trivial⟩)
theorem f_spec_l1Cur_text_l3Eq (R : Type) (c : Vars f_spec_l1Cur_text_l3c) (v : Vars f_spec_l1Cur_text_l3v) (kk : Vars f_spec_l1Cur_text_l3c → (Vars f_spec_l1Cur_text_l3v ⊕ Oc f_spec_l1Cur_text_l3e) → Option R) : evC en104 su104 (loopAt 3 Tryz.f104) (Desc.mk2 f_spec_l1Cur_text_l3v v (Desc.mk2 f_spec_l1Cur_text_l3c c .empty)) (fun o => bodyK f_spec_l1Cur_text_l3c f_spec_l1Cur_text_l3v f_spec_l1Cur_text_l3e o kk) = f_spec_l1Cur_text_l3 R c v kk := by kernel_rfl
theorem f_spec_l1Cur_text_l3Ok {X : Cx} (hX : en104.lo = X.lo) : SubOk Tryz.prog X 23 ⟨f_spec_l1Cur_text_l3c, f_spec_l1Cur_text_l3v, f_spec_l1Cur_text_l3e, loopF f_spec_l1Cur_text_l3⟩ (.loop (loopAt 3 Tryz.f104)) :=
  sub_loop (subs := su104) ok104 rfl hX (GoodN.good (K := True) (Eq.mpr (show GoodN Tryz.prog X 23 en104 su104 (loopAt 3 Tryz.f104) True = (True) by kernel_rfl) trivial)).1 (by decide) (by decide) f_spec_l1Cur_text_l3Eq
theorem f_spec_l1Cur_textEq (x : Ps ins104) : evF en104 su104 Tryz.f104 ins104 res104 x = f_spec_l1Cur_text x := by kernel_rfl
theorem so104 : Sound Tryz.prog 104 sg104 :=
  sound_of (fn := Tryz.f104) (c := bodyOf Tryz.f104) (subs := su104) (E := en104) (by kernel_rfl) (by kernel_rfl) (by decide) ok104 (by kernel_rfl) (by kernel_rfl) (by decide)
    (fun X hX => (GoodN.good (K := True) (Eq.mpr (show GoodN Tryz.prog X 23 en104 su104 (bodyOf Tryz.f104) True = (SubOk Tryz.prog X 23 ⟨f_spec_l1Cur_text_l3c, f_spec_l1Cur_text_l3v, f_spec_l1Cur_text_l3e, loopF f_spec_l1Cur_text_l3⟩ (.loop (loopAt 3 Tryz.f104)) ∧ True) by kernel_rfl) ⟨(f_spec_l1Cur_text_l3Ok hX), trivial⟩)).1)
    (fun x r h => (f_spec_l1Cur_textEq x).trans h)
def fl105 : List (Nat × Sig) := [(20, sg20)]
def en105 : Env := { n := 12, ty := assocN tyL, fns := assocN fl105, lo := 1 }
def su105 : Bool → Nat → Option Sub | _, _ => none
theorem ok105 : EnvOk Tryz.prog en105 := envOk_of rfl rfl tyL_ok (⟨so20, trivial⟩)
theorem f_spec_l1Cur_amongEq (x : Ps ins105) : evF en105 su105 Tryz.f105 ins105 res105 x = f_spec_l1Cur_among x := by kernel_rfl
theorem so105 : Sound Tryz.prog 105 sg105 :=
  sound_of (fn := Tryz.f105) (c := bodyOf Tryz.f105) (subs := su105) (E := en105) (by kernel_rfl) (by kernel_rfl) (by decide) ok105 (by kernel_rfl) (by kernel_rfl) (by decide)
    (fun X hX => (GoodN.good (K := True) (Eq.mpr (show GoodN Tryz.prog X 12 en105 su105 (bodyOf Tryz.f105) True = (True) by kernel_rfl) trivial)).1)
    (fun x r h => (f_spec_l1Cur_amongEq x).trans h)
def fl81 : List (Nat × Sig) := [(20, sg20), (28, sg28), (45, sg45), (104, sg104), (105, sg105)]
def en81 : Env := { n := 34, ty := assocN tyL, fns := assocN fl81, lo := 1 }
def su81 : Bool → Nat → Option Sub | false, 3 => some ⟨f_spec_l1Cur_item_i3c, f_spec_l1Cur_item_i3v, f_spec_l1Cur_item_i3e, f_spec_l1Cur_item_i3⟩ | false, 9 => some ⟨f_spec_l1Cur_item_i9c, f_spec_l1Cur_item_i9v, f_spec_l1Cur_item_i9e, f_spec_l1Cur_item_i9⟩ | false, 7 => some ⟨f_spec_l1Cur_item_i7c, f_spec_l1Cur_item_i7v, f_spec_l1Cur_item_i7e, f_spec_l1Cur_item_i7⟩ | _, _ => none
theorem ok81 : EnvOk Tryz.prog en81 := envOk_of rfl rfl tyL_ok (⟨so20, ⟨so28, ⟨so45, ⟨so104, ⟨so105, trivial⟩⟩⟩⟩⟩)
def su81i3 : Bool → Nat → Option Sub | false, 9 => some ⟨f_spec_l1Cur_item_i9c, f_spec_l1Cur_item_i9v, f_spec_l1Cur_item_i9e, f_spec_l1Cur_item_i9⟩ | false, 7 => some ⟨f_spec_l1Cur_item_i7c, f_spec_l1Cur_item_i7v, f_spec_l1Cur_item_i7e, f_spec_l1Cur_item_i7⟩ | _, _ => none
theorem f_spec_l1Cur_item_i3Eq (R : Type) (c : Vars f_spec_l1Cur_item_i3c) (v : Vars f_spec_l1Cur_item_i3v) (kk : Vars f_spec_l1Cur_item_i3c → Oc f_spec_l1Cur_item_i3e → Option R) : evC en81 su81i3 (ifAt 3 Tryz.f81) (Desc.mk2 f_spec_l1Cur_item_i3v v (Desc.mk2 f_spec_l1Cur_item_i3c c .empty)) (fun o => chk f_spec_l1Cur_item_i3c f_spec_l1Cur_item_i3e o kk) = f_spec_l1Cur_item_i3 R c v kk := by kernel_rfl
theorem f_spec_l1Cur_item_i3Ok {X : Cx} (hX : en81.lo = X.lo) : SubOk Tryz.prog X 34 ⟨f_spec_l1Cur_item_i3c, f_spec_l1Cur_item_i3v, f_spec_l1Cur_item_i3e, f_spec_l1Cur_item_i3⟩ (ifAt 3 Tryz.f81) :=
  sub_if (u := ⟨f_spec_l1Cur_item_i3c, f_spec_l1Cur_item_i3v, f_spec_l1Cur_item_i3e, f_spec_l1Cur_item_i3⟩) (subs := su81i3) ok81 rfl hX (GoodN.good (K := True) (Eq.mpr (show GoodN Tryz.prog X 34 en81 su81i3 (ifAt 3 Tryz.f81) True = (True) by kernel_rfl) trivial)).1 (by decide) (by decide) f_spec_l1Cur_item_i3Eq
def su81i9 : Bool → Nat → Option Sub | false, 3 => some ⟨f_spec_l1Cur_item_i3c, f_spec_l1Cur_item_i3v, f_spec_l1Cur_item_i3e, f_spec_l1Cur_item_i3⟩ | false, 7 => some ⟨f_spec_l1Cur_item_i7c, f_spec_l1Cur_item_i7v, f_spec_l1Cur_item_i7e, f_spec_l1Cur_item_i7⟩ | _, _ => none
theorem f_spec_l1Cur_item_i9Eq (R : Type) (c : Vars f_spec_l1Cur_item_i9c) (v : Vars f_spec_l1Cur_item_i9v) (kk : Vars f_spec_l1Cur_item_i9c → Oc f_spec_l1Cur_item_i9e → Option R) : evC en81 su81i9 (ifAt 9 Tryz.f81) (Desc.mk2 f_spec_l1Cur_item_i9v v (Desc.mk2 f_spec_l1Cur_item_i9c c .empty)) (fun o => chk f_spec_l1Cur_item_i9c f_spec_l1Cur_item_i9e o kk) = f_spec_l1Cur_item_i9 R c v kk := by kernel_rfl
theorem f_spec_l1Cur_item_i9Ok {X : Cx} (hX : en81.lo = X.lo) : SubOk Tryz.prog X 34 ⟨f_spec_l1Cur_item_i9c, f_spec_l1Cur_item_i9v, f_spec_l1Cur_item_i9e, f_spec_l1Cur_item_i9⟩ (ifAt 9 Tryz.f81) :=
  sub_if (u := ⟨f_spec_l1Cur_item_i9c, f_spec_l1Cur_item_i9v, f_spec_l1Cur_item_i9e, f_spec_l1Cur_item_i9⟩) (subs := su81i9) ok81 rfl hX (GoodN.good (K := True) (Eq.mpr (show GoodN Tryz.prog X 34 en81 su81i9 (ifAt 9 Tryz.f81) True = (True) by kernel_rfl) trivial)).1 (by decide) (by decide) f_spec_l1Cur_item_i9Eq
def su81i7 : Bool → Nat → Option Sub | false, 3 => some ⟨f_spec_l1Cur_item_i3c, f_spec_l1Cur_item_i3v, f_spec_l1Cur_item_i3e, f_spec_l1Cur_item_i3⟩ | false, 9 => some ⟨f_spec_l1Cur_item_i9c, f_spec_l1Cur_item_i9v, f_spec_l1Cur_item_i9e, f_spec_l1Cur_item_i9⟩ | _, _ => none
theorem f_spec_l1Cur_item_i7Eq (R : Type) (c : Vars f_spec_l1Cur_item_i7c) (v : Vars f_spec_l1Cur_item_i7v) (kk : Vars f_spec_l1Cur_item_i7c → Oc f_spec_l1Cur_item_i7e → Option R) : evC en81 su81i7 (ifAt 7 Tryz.f81) (Desc.mk2 f_spec_l1Cur_item_i7v v (Desc.mk2 f_spec_l1Cur_item_i7c c .empty)) (fun o => chk f_spec_l1Cur_item_i7c f_spec_l1Cur_item_i7e o kk) = f_spec_l1Cur_item_i7 R c v kk := by kernel_rfl
theorem f_spec_l1Cur_item_i7Ok {X : Cx} (hX : en81.lo = X.lo) : SubOk Tryz.prog X 34 ⟨f_spec_l1Cur_item_i7c, f_spec_l1Cur_item_i7v, f_spec_l1Cur_item_i7e, f_spec_l1Cur_item_i7⟩ (ifAt 7 Tryz.f81) :=
  sub_if (u := ⟨f_spec_l1Cur_item_i7c, f_spec_l1Cur_item_i7v, f_spec_l1Cur_item_i7e, f_spec_l1Cur_item_i7⟩) (subs := su81i7) ok81 rfl hX (GoodN.good (K := True) (Eq.mpr (show GoodN Tryz.prog X 34 en81 su81i7 (ifAt 7 Tryz.f81) True = (SubOk Tryz.prog X 34 ⟨f_spec_l1Cur_item_i9c, f_spec_l1Cur_item_i9v, f_spec_l1Cur_item_i9e, f_spec_l1Cur_item_i9⟩ (ifAt 9 Tryz.f81) ∧ True) by kernel_rfl) ⟨(f_spec_l1Cur_item_i9Ok hX), trivial⟩)).1 (by decide) (by decide) f_spec_l1Cur_item_i7Eq
theorem f_spec_l1Cur_itemEq (x : Ps ins81) : evF en81 su81 Tryz.f81 ins81 res81 x = f_spec_l1Cur_item x := by kernel_rfl
theorem so81 : Sound Tryz.prog 81 sg81 :=
  sound_of (fn := Tryz.f81) (c := bodyOf Tryz.f81) (subs := su81) (E := en81) (by kernel_rfl) (by kernel_rfl) (by decide) ok81 (by kernel_rfl) (by kernel_rfl) (by decide)
    (fun X hX => (GoodN.good (K := True) (Eq.mpr (show GoodN Tryz.prog X 34 en81 su81 (bodyOf Tryz.f81) True = (SubOk Tryz.prog X 34 ⟨f_spec_l1Cur_item_i3c, f_spec_l1Cur_item_i3v, f_spec_l1Cur_item_i3e, f_spec_l1Cur_item_i3⟩ (ifAt 3 Tryz.f81) ∧ SubOk Tryz.prog X 34 ⟨f_spec_l1Cur_item_i7c, f_spec_l1Cur_item_i7v, f_spec_l1Cur_item_i7e, f_spec_l1Cur_item_i7⟩ (ifAt 7 Tryz.f81) ∧ True) by kernel_rfl) ⟨(f_spec_l1Cur_item_i3Ok hX), (f_spec_l1Cur_item_i7Ok hX), trivial⟩)).1)
    (fun x r h => (f_spec_l1Cur_itemEq x).trans h)
def fl58 : List (Nat × Sig) := []
def en58 : Env := { n := 15, ty := assocN tyL, fns := assocN fl58, lo := 0 }
def su58 : Bool → Nat → Option Sub | _, _ => none
theorem ok58 : EnvOk Tryz.prog en58 := envOk_of rfl rfl tyL_ok (trivial)
theorem f_spec_l1InEq (x : Ps ins58) : evF en58 su58 Tryz.f58 ins58 res58 x = f_spec_l1In x := by kernel_rfl
theorem so58 : Sound Tryz.prog 58 sg58 :=
  sound_of (fn := Tryz.f58) (c := bodyOf Tryz.f58) (subs := su58) (E := en58) (by kernel_rfl) (by kernel_rfl) (by decide) ok58 (by kernel_rfl) (by kernel_rfl) (by decide)
    (fun X hX => (GoodN.good (K := True) (Eq.mpr (show GoodN Tryz.prog X 15 en58 su58 (bodyOf Tryz.f58) True = (True) by kernel_rfl) trivial)).1)
    (fun x r h => (f_spec_l1InEq x).trans h)
def fl33 : List (Nat × Sig) := [(58, sg58)]
def en33 : Env := { n := 6, ty := assocN tyL, fns := assocN fl33, lo := 0 }
def su33 : Bool → Nat → Option Sub | _, _ => none
theorem ok33 : EnvOk Tryz.prog en33 := envOk_of rfl rfl tyL_ok (⟨so58, trivial⟩)
theorem f_spec_l4KeyEq (x : Ps ins33) : evF en33 su33 Tryz.f33 ins33 res33 x = f_spec_l4Key x := by kernel_rfl
theorem so33 : Sound Tryz.prog 33 sg33 :=
  sound_of (fn := Tryz.f33) (c := bodyOf Tryz.f33) (subs := su33) (E := en33) (by kernel_rfl) (by kernel_rfl) (by decide) ok33 (by kernel_rfl) (by kernel_rfl) (by decide)
    (fun X hX => (GoodN.good (K := True) (Eq.mpr (show GoodN Tryz.prog X 6 en33 su33 (bodyOf Tryz.f33) True = (True) by kernel_rfl) trivial)).1)
    (fun x r h => (f_spec_l4KeyEq x).trans h)
def fl34 : List (Nat × Sig) := [(58, sg58)]
def en34 : Env := { n := 5, ty := assocN tyL, fns := assocN fl34, lo := 0 }
def su34 : Bool → Nat → Option Sub | _, _ => none
theorem ok34 : EnvOk Tryz.prog en34 := envOk_of rfl rfl tyL_ok (⟨so58, trivial⟩)
theorem f_spec_l4SeqEq (x : Ps ins34) : evF en34 su34 Tryz.f34 ins34 res34 x = f_spec_l4Seq x := by kernel_rfl
theorem so34 : Sound Tryz.prog 34 sg34 :=
  sound_of (fn := Tryz.f34) (c := bodyOf Tryz.f34) (subs := su34) (E := en34) (by kernel_rfl) (by kernel_rfl) (by decide) ok34 (by kernel_rfl) (by kernel_rfl) (by decide)
    (fun X hX => (GoodN.good (K := True) (Eq.mpr (show GoodN Tryz.prog X 5 en34 su34 (bodyOf Tryz.f34) True = (True) by kernel_rfl) trivial)).1)
    (fun x r h => (f_spec_l4SeqEq x).trans h)
def fl73 : List (Nat × Sig) := [(33, sg33), (34, sg34), (58, sg58)]
def en73 : Env := { n := 32, ty := assocN tyL, fns := assocN fl73, lo := 0 }
def su73 : Bool → Nat → Option Sub | _, _ => none
theorem ok73 : EnvOk Tryz.prog en73 := envOk_of rfl rfl tyL_ok (⟨so33, ⟨so34, ⟨so58, trivial⟩⟩⟩)
theorem f_spec_GoodItemEq (x : Ps ins73) : evF en73 su73 Tryz.f73 ins73 res73 x = f_spec_GoodItem x := by kernel_rfl
theorem so73 : Sound Tryz.prog 73 sg73 :=
  sound_of (fn := Tryz.f73) (c := bodyOf Tryz.f73) (subs := su73) (E := en73) (by kernel_rfl) (by kernel_rfl) (by decide) ok73 (by kernel_rfl) (by kernel_rfl) (by decide)
    (fun X hX => (GoodN.good (K := True) (Eq.mpr (show GoodN Tryz.prog X 32 en73 su73 (bodyOf Tryz.f73) True = (True) by kernel_rfl) trivial)).1)
    (fun x r h => (f_spec_GoodItemEq x).trans h)
def fl74 : List (Nat × Sig) := []
def en74 : Env := { n := 38, ty := assocN tyL, fns := assocN fl74, lo := 0 }
def su74 : Bool → Nat → Option Sub | _, _ => none
theorem ok74 : EnvOk Tryz.prog en74 := envOk_of rfl rfl tyL_ok (trivial)
theorem f_spec_l4CompareEq (x : Ps ins74) : evF en74 su74 Tryz.f74 ins74 res74 x = f_spec_l4Compare x := by kernel_rfl
theorem so74 : Sound Tryz.prog 74 sg74 :=
  sound_of (fn := Tryz.f74) (c := bodyOf Tryz.f74) (subs := su74) (E := en74) (by kernel_rfl) (by kernel_rfl) (by decide) ok74 (by kernel_rfl) (by kernel_rfl) (by decide)
    (fun X hX => (GoodN.good (K := True) (Eq.mpr (show GoodN Tryz.prog X 38 en74 su74 (bodyOf Tryz.f74) True = (True) by kernel_rfl) trivial)).1)
    (fun x r h => (f_spec_l4CompareEq x).trans h)
def fl35 : List (Nat × Sig) := [(74, sg74)]
def en35 : Env := { n := 28, ty := assocN tyL, fns := assocN fl35, lo := 0 }
def su35 : Bool → Nat → Option Sub | false, 6 => some ⟨f_spec_l6Seek_i6c, f_spec_l6Seek_i6v, f_spec_l6Seek_i6e, f_spec_l6Seek_i6⟩ | true, 3 => some ⟨f_spec_l6Seek_l3c, f_spec_l6Seek_l3v, f_spec_l6Seek_l3e, loopF f_spec_l6Seek_l3⟩ | _, _ => none
theorem ok35 : EnvOk Tryz.prog en35 := envOk_of rfl rfl tyL_ok (⟨so74, trivial⟩)
theorem dr35r5 {X : Cx} (hX : en35.lo = X.lo) : RegOk Tryz.prog X 28 en35 5 (regAt 5 Tryz.f35) := regOk_of ok35 rfl hX (by kernel_rfl) (by kernel_rfl)
def su35i6 : Bool → Nat → Option Sub | true, 3 => some ⟨f_spec_l6Seek_l3c, f_spec_l6Seek_l3v, f_spec_l6Seek_l3e, loopF f_spec_l6Seek_l3⟩ | _, _ => none
theorem f_spec_l6Seek_i6Eq (R : Type) (c : Vars f_spec_l6Seek_i6c) (v : Vars f_spec_l6Seek_i6v) (kk : Vars f_spec_l6Seek_i6c → Oc f_spec_l6Seek_i6e → Option R) : evC en35 su35i6 (ifAt 6 Tryz.f35) (Desc.mk2 f_spec_l6Seek_i6v v (Desc.mk2 f_spec_l6Seek_i6c c .empty)) (fun o => chk f_spec_l6Seek_i6c f_spec_l6Seek_i6e o kk) = f_spec_l6Seek_i6 R c v kk := by kernel_rfl
theorem f_spec_l6Seek_i6Ok {X : Cx} (hX : en35.lo = X.lo) : SubOk Tryz.prog X 28 ⟨f_spec_l6Seek_i6c, f_spec_l6Seek_i6v, f_spec_l6Seek_i6e, f_spec_l6Seek_i6⟩ (ifAt 6 Tryz.f35) :=
  sub_if (u := ⟨f_spec_l6Seek_i6c, f_spec_l6Seek_i6v, f_spec_l6Seek_i6e, f_spec_l6Seek_i6⟩) (subs := su35i6) ok35 rfl hX (GoodN.good (K := True) (Eq.mpr (show GoodN Tryz.prog X 28 en35 su35i6 (ifAt 6 Tryz.f35) True = (True) by kernel_rfl) trivial)).1 (by decide) (by decide) f_spec_l6Seek_i6Eq
theorem f_spec_l6Seek_l3Eq (R : Type) (c : Vars f_spec_l6Seek_l3c) (v : Vars f_spec_l6Seek_l3v) (kk : Vars f_spec_l6Seek_l3c → (Vars f_spec_l6Seek_l3v ⊕ Oc f_spec_l6Seek_l3e) → Option R) : evC en35 su35 (loopAt 3 Tryz.f35) (Desc.mk2 f_spec_l6Seek_l3v v (Desc.mk2 f_spec_l6Seek_l3c c .empty)) (fun o => bodyK f_spec_l6Seek_l3c f_spec_l6Seek_l3v f_spec_l6Seek_l3e o kk) = f_spec_l6Seek_l3 R c v kk := by kernel_rfl
theorem f_spec_l6Seek_l3Ok {X : Cx} (hX : en35.lo = X.lo) : SubOk Tryz.prog X 28 ⟨f_spec_l6Seek_l3c, f_spec_l6Seek_l3v, f_spec_l6Seek_l3e, loopF f_spec_l6Seek_l3⟩ (.loop (loopAt 3 Tryz.f35)) :=
  sub_loop (subs := su35) ok35 rfl hX (GoodN.good (K := True) (Eq.mpr (show GoodN Tryz.prog X 28 en35 su35 (loopAt 3 Tryz.f35) True = (RegOk Tryz.prog X 28 en35 5 (regAt 5 Tryz.f35) ∧ SubOk Tryz.prog X 28 ⟨f_spec_l6Seek_i6c, f_spec_l6Seek_i6v, f_spec_l6Seek_i6e, f_spec_l6Seek_i6⟩ (ifAt 6 Tryz.f35) ∧ True) by kernel_rfl) ⟨(dr35r5 hX), (f_spec_l6Seek_i6Ok hX), trivial⟩)).1 (by decide) (by decide) f_spec_l6Seek_l3Eq
theorem f_spec_l6SeekEq (x : Ps ins35) : evF en35 su35 Tryz.f35 ins35 res35 x = f_spec_l6Seek x := by kernel_rfl
theorem so35 : Sound Tryz.prog 35 sg35 :=
  sound_of (fn := Tryz.f35) (c := bodyOf Tryz.f35) (subs := su35) (E := en35) (by kernel_rfl) (by kernel_rfl) (by decide) ok35 (by kernel_rfl) (by kernel_rfl) (by decide)
    (fun X hX => (GoodN.good (K := True) (Eq.mpr (show GoodN Tryz.prog X 28 en35 su35 (bodyOf Tryz.f35) True = (SubOk Tryz.prog X 28 ⟨f_spec_l6Seek_l3c, f_spec_l6Seek_l3v, f_spec_l6Seek_l3e, loopF f_spec_l6Seek_l3⟩ (.loop (loopAt 3 Tryz.f35)) ∧ True) by kernel_rfl) ⟨(f_spec_l6Seek_l3Ok hX), trivial⟩)).1)
    (fun x r h => (f_spec_l6SeekEq x).trans h)
def fl82 : List (Nat × Sig) := [(35, sg35), (74, sg74)]
def hi82 : List (Nat × (K × Mk)) := [(4, ((.sl kdItem), (.o .s))), (6, ((.sl kdItem), (.o .s)))]
def en82 : Env := { n := 38, ty := assocN tyL, fns := assocN fl82, lo := 0, hint := assocN hi82 }
def su82 : Bool → Nat → Option Sub | _, _ => none
theorem ok82 : EnvOk Tryz.prog en82 := envOk_of rfl rfl tyL_ok (⟨so35, ⟨so74, trivial⟩⟩)
theorem dr82r2 {X : Cx} (hX : en82.lo = X.lo) : RegOk Tryz.prog X 38 en82 2 (regAt 2 Tryz.f82) := regOk_of ok82 rfl hX (by kernel_rfl) (by kernel_rfl)
theorem f_spec_l6PutEq (x : Ps ins82) : evF en82 su82 Tryz.f82 ins82 res82 x = f_spec_l6Put x := by kernel_rfl
theorem so82 : Sound Tryz.prog 82 sg82 :=
  sound_of (fn := Tryz.f82) (c := bodyOf Tryz.f82) (subs := su82) (E := en82) (by kernel_rfl) (by kernel_rfl) (by decide) ok82 (by kernel_rfl) (by kernel_rfl) (by decide)
    (fun X hX => (GoodN.good (K := True) (Eq.mpr (show GoodN Tryz.prog X 38 en82 su82 (bodyOf Tryz.f82) True = (RegOk Tryz.prog X 38 en82 2 (regAt 2 Tryz.f82) ∧ True) by kernel_rfl) ⟨(dr82r2 hX), trivial⟩)).1)
    (fun x r h => (f_spec_l6PutEq x).trans h)
def fl46 : List (Nat × Sig) := [(73, sg73), (81, sg81), (82, sg82)]
def hi46 : List (Nat × (K × Mk)) := [(4, ((.sl kdItem), (.o .s))), (5, ((.sl kdItem), (.o .s)))]
def en46 : Env := { n := 19, ty := assocN tyL, fns := assocN fl46, lo := 1, hint := assocN hi46 }
def su46 : Bool → Nat → Option Sub | false, 6 => some ⟨f_spec_l1Cur_run_i6c, f_spec_l1Cur_run_i6v, f_spec_l1Cur_run_i6e, f_spec_l1Cur_run_i6⟩ | true, 2 => some ⟨f_spec_l1Cur_run_l2c, f_spec_l1Cur_run_l2v, f_spec_l1Cur_run_l2e, loopF f_spec_l1Cur_run_l2⟩ | _, _ => none
theorem ok46 : EnvOk Tryz.prog en46 := envOk_of rfl rfl tyL_ok (⟨so73, ⟨so81, ⟨so82, trivial⟩⟩⟩)
def su46i6 : Bool → Nat → Option Sub | true, 2 => some ⟨f_spec_l1Cur_run_l2c, f_spec_l1Cur_run_l2v, f_spec_l1Cur_run_l2e, loopF f_spec_l1Cur_run_l2⟩ | _, _ => none
theorem f_spec_l1Cur_run_i6Eq (R : Type) (c : Vars f_spec_l1Cur_run_i6c) (v : Vars f_spec_l1Cur_run_i6v) (kk : Vars f_spec_l1Cur_run_i6c → Oc f_spec_l1Cur_run_i6e → Option R) : evC en46 su46i6 (ifAt 6 Tryz.f46) (Desc.mk2 f_spec_l1Cur_run_i6v v (Desc.mk2 f_spec_l1Cur_run_i6c c .empty)) (fun o => chk f_spec_l1Cur_run_i6c f_spec_l1Cur_run_i6e o kk) = f_spec_l1Cur_run_i6 R c v kk := by kernel_rfl
theorem f_spec_l1Cur_run_i6Ok {X : Cx} (hX : en46.lo = X.lo) : SubOk Tryz.prog X 19 ⟨f_spec_l1Cur_run_i6c, f_spec_l1Cur_run_i6v, f_spec_l1Cur_run_i6e, f_spec_l1Cur_run_i6⟩ (ifAt 6 Tryz.f46) :=
  sub_if (u := ⟨f_spec_l1Cur_run_i6c, f_spec_l1Cur_run_i6v, f_spec_l1Cur_run_i6e, f_spec_l1Cur_run_i6⟩) (subs := su46i6) ok46 rfl hX (GoodN.good (K := True) (Eq.mpr (show GoodN Tryz.prog X 19 en46 su46i6 (ifAt 6 Tryz.f46) True = (True) by kernel_rfl) trivial)).1 (by decide) (by decide) f_spec_l1Cur_run_i6Eq
theorem f_spec_l1Cur_run_l2Eq (R : Type) (c : Vars f_spec_l1Cur_run_l2c) (v : Vars f_spec_l1Cur_run_l2v) (kk : Vars f_spec_l1Cur_run_l2c → (Vars f_spec_l1Cur_run_l2v ⊕ Oc f_spec_l1Cur_run_l2e) → Option R) : evC en46 su46 (loopAt 2 Tryz.f46) (Desc.mk2 f_spec_l1Cur_run_l2v v (Desc.mk2 f_spec_l1Cur_run_l2c c .empty)) (fun o => bodyK f_spec_l1Cur_run_l2c f_spec_l1Cur_run_l2v f_spec_l1Cur_run_l2e o kk) = f_spec_l1Cur_run_l2 R c v kk := by kernel_rfl
theorem f_spec_l1Cur_run_l2Ok {X : Cx} (hX : en46.lo = X.lo) : SubOk Tryz.prog X 19 ⟨f_spec_l1Cur_run_l2c, f_spec_l1Cur_run_l2v, f_spec_l1Cur_run_l2e, loopF f_spec_l1Cur_run_l2⟩ (.loop (loopAt 2 Tryz.f46)) :=
  sub_loop (subs := su46) ok46 rfl hX (GoodN.good (K := True) (Eq.mpr (show GoodN Tryz.prog X 19 en46 su46 (loopAt 2 Tryz.f46) True = (SubOk Tryz.prog X 19 ⟨f_spec_l1Cur_run_i6c, f_spec_l1Cur_run_i6v, f_spec_l1Cur_run_i6e, f_spec_l1Cur_run_i6⟩ (ifAt 6 Tryz.f46) ∧ True) by kernel_rfl) ⟨(f_spec_l1Cur_run_i6Ok hX), trivial⟩)).1 (by decide) (by decide) f_spec_l1Cur_run_l2Eq
theorem f_spec_l1Cur_runEq (x : Ps ins46) : evF en46 su46 Tryz.f46 ins46 res46 x = f_spec_l1Cur_run x := by kernel_rfl
theorem so46 : Sound Tryz.prog 46 sg46 :=
  sound_of (fn := Tryz.f46) (c := bodyOf Tryz.f46) (subs := su46) (E := en46) (by kernel_rfl) (by kernel_rfl) (by decide) ok46 (by kernel_rfl) (by kernel_rfl) (by decide)
    (fun X hX => (GoodN.good (K := True) (Eq.mpr (show GoodN Tryz.prog X 19 en46 su46 (bodyOf Tryz.f46) True = (SubOk Tryz.prog X 19 ⟨f_spec_l1Cur_run_l2c, f_spec_l1Cur_run_l2v, f_spec_l1Cur_run_l2e, loopF f_spec_l1Cur_run_l2⟩ (.loop (loopAt 2 Tryz.f46)) ∧ True) by kernel_rfl) ⟨(f_spec_l1Cur_run_l2Ok hX), trivial⟩)).1)
    (fun x r h => (f_spec_l1Cur_runEq x).trans h)
def fl19 : List (Nat × Sig) := [(20, sg20), (45, sg45), (46, sg46)]
def hi19 : List (Nat × (K × Mk)) := [(2, ((.sl kdItem), (.o .s))), (4, ((.sl kdItem), (.o .s)))]
def en19 : Env := { n := 19, ty := assocN tyL, fns := assocN fl19, lo := 1, hint := assocN hi19 }
def su19 : Bool → Nat → Option Sub | false, 3 => some ⟨f_spec_l1Cur_tableRun_i3c, f_spec_l1Cur_tableRun_i3v, f_spec_l1Cur_tableRun_i3e, f_spec_l1Cur_tableRun_i3⟩ | false, 6 => some ⟨f_spec_l1Cur_tableRun_i6c, f_spec_l1Cur_tableRun_i6v, f_spec_l1Cur_tableRun_i6e, f_spec_l1Cur_tableRun_i6⟩ | _, _ => none
theorem ok19 : EnvOk Tryz.prog en19 := envOk_of rfl rfl tyL_ok (⟨so20, ⟨so45, ⟨so46, trivial⟩⟩⟩)
def su19i3 : Bool → Nat → Option Sub | false, 6 => some ⟨f_spec_l1Cur_tableRun_i6c, f_spec_l1Cur_tableRun_i6v, f_spec_l1Cur_tableRun_i6e, f_spec_l1Cur_tableRun_i6⟩ | _, _ => none
theorem f_spec_l1Cur_tableRun_i3Eq (R : Type) (c : Vars f_spec_l1Cur_tableRun_i3c) (v : Vars f_spec_l1Cur_tableRun_i3v) (kk : Vars f_spec_l1Cur_tableRun_i3c → Oc f_spec_l1Cur_tableRun_i3e → Option R) : evC en19 su19i3 (ifAt 3 Tryz.f19) (Desc.mk2 f_spec_l1Cur_tableRun_i3v v (Desc.mk2 f_spec_l1Cur_tableRun_i3c c .empty)) (fun o => chk f_spec_l1Cur_tableRun_i3c f_spec_l1Cur_tableRun_i3e o kk) = f_spec_l1Cur_tableRun_i3 R c v kk := by kernel_rfl
theorem f_spec_l1Cur_tableRun_i3Ok {X : Cx} (hX : en19.lo = X.lo) : SubOk Tryz.prog X 19 ⟨f_spec_l1Cur_tableRun_i3c, f_spec_l1Cur_tableRun_i3v, f_spec_l1Cur_tableRun_i3e, f_spec_l1Cur_tableRun_i3⟩ (ifAt 3 Tryz.f19) :=
  sub_if (u := ⟨f_spec_l1Cur_tableRun_i3c, f_spec_l1Cur_tableRun_i3v, f_spec_l1Cur_tableRun_i3e, f_spec_l1Cur_tableRun_i3⟩) (subs := su19i3) ok19 rfl hX (GoodN.good (K := True) (Eq.mpr (show GoodN Tryz.prog X 19 en19 su19i3 (ifAt 3 Tryz.f19) True = (True) by kernel_rfl) trivial)).1 (by decide) (by decide) f_spec_l1Cur_tableRun_i3Eq
def su19i6 : Bool → Nat → Option Sub | false, 3 => some ⟨f_spec_l1Cur_tableRun_i3c, f_spec_l1Cur_tableRun_i3v, f_spec_l1Cur_tableRun_i3e, f_spec_l1Cur_tableRun_i3⟩ | _, _ => none
theorem f_spec_l1Cur_tableRun_i6Eq (R : Type) (c : Vars f_spec_l1Cur_tableRun_i6c) (v : Vars f_spec_l1Cur_tableRun_i6v) (kk : Vars f_spec_l1Cur_tableRun_i6c → Oc f_spec_l1Cur_tableRun_i6e → Option R) : evC en19 su19i6 (ifAt 6 Tryz.f19) (Desc.mk2 f_spec_l1Cur_tableRun_i6v v (Desc.mk2 f_spec_l1Cur_tableRun_i6c c .empty)) (fun o => chk f_spec_l1Cur_tableRun_i6c f_spec_l1Cur_tableRun_i6e o kk) = f_spec_l1Cur_tableRun_i6 R c v kk := by kernel_rfl
theorem f_spec_l1Cur_tableRun_i6Ok {X : Cx} (hX : en19.lo = X.lo) : SubOk Tryz.prog X 19 ⟨f_spec_l1Cur_tableRun_i6c, f_spec_l1Cur_tableRun_i6v, f_spec_l1Cur_tableRun_i6e, f_spec_l1Cur_tableRun_i6⟩ (ifAt 6 Tryz.f19) :=
  sub_if (u := ⟨f_spec_l1Cur_tableRun_i6c, f_spec_l1Cur_tableRun_i6v, f_spec_l1Cur_tableRun_i6e, f_spec_l1Cur_tableRun_i6⟩) (subs := su19i6) ok19 rfl hX (GoodN.good (K := True) (Eq.mpr (show GoodN Tryz.prog X 19 en19 su19i6 (ifAt 6 Tryz.f19) True = (True) by kernel_rfl) trivial)).1 (by decide) (by decide) f_spec_l1Cur_tableRun_i6Eq
theorem f_spec_l1Cur_tableRunEq (x : Ps ins19) : evF en19 su19 Tryz.f19 ins19 res19 x = f_spec_l1Cur_tableRun x := by kernel_rfl
theorem so19 : Sound Tryz.prog 19 sg19 :=
  sound_of (fn := Tryz.f19) (c := bodyOf Tryz.f19) (subs := su19) (E := en19) (by kernel_rfl) (by kernel_rfl) (by decide) ok19 (by kernel_rfl) (by kernel_rfl) (by decide)
    (fun X hX => (GoodN.good (K := True) (Eq.mpr (show GoodN Tryz.prog X 19 en19 su19 (bodyOf Tryz.f19) True = (SubOk Tryz.prog X 19 ⟨f_spec_l1Cur_tableRun_i3c, f_spec_l1Cur_tableRun_i3v, f_spec_l1Cur_tableRun_i3e, f_spec_l1Cur_tableRun_i3⟩ (ifAt 3 Tryz.f19) ∧ SubOk Tryz.prog X 19 ⟨f_spec_l1Cur_tableRun_i6c, f_spec_l1Cur_tableRun_i6v, f_spec_l1Cur_tableRun_i6e, f_spec_l1Cur_tableRun_i6⟩ (ifAt 6 Tryz.f19) ∧ True) by kernel_rfl) ⟨(f_spec_l1Cur_tableRun_i3Ok hX), (f_spec_l1Cur_tableRun_i6Ok hX), trivial⟩)).1)
    (fun x r h => (f_spec_l1Cur_tableRunEq x).trans h)
def fl5 : List (Nat × Sig) := [(19, sg19), (20, sg20)]
def hi5 : List (Nat × (K × Mk)) := [(2, ((.sl kdItem), (.o .s))), (4, ((.sl kdItem), (.o .s)))]
def en5 : Env := { n := 23, ty := assocN tyL, fns := assocN fl5, lo := 0, hint := assocN hi5 }
def su5 : Bool → Nat → Option Sub | false, 7 => some ⟨f_spec_DrawTableBytes_i7c, f_spec_DrawTableBytes_i7v, f_spec_DrawTableBytes_i7e, f_spec_DrawTableBytes_i7⟩ | false, 5 => some ⟨f_spec_DrawTableBytes_i5c, f_spec_DrawTableBytes_i5v, f_spec_DrawTableBytes_i5e, f_spec_DrawTableBytes_i5⟩ | _, _ => none
theorem ok5 : EnvOk Tryz.prog en5 := envOk_of rfl rfl tyL_ok (⟨so19, ⟨so20, trivial⟩⟩)
def su5i7 : Bool → Nat → Option Sub | false, 5 => some ⟨f_spec_DrawTableBytes_i5c, f_spec_DrawTableBytes_i5v, f_spec_DrawTableBytes_i5e, f_spec_DrawTableBytes_i5⟩ | _, _ => none
theorem f_spec_DrawTableBytes_i7Eq (R : Type) (c : Vars f_spec_DrawTableBytes_i7c) (v : Vars f_spec_DrawTableBytes_i7v) (kk : Vars f_spec_DrawTableBytes_i7c → Oc f_spec_DrawTableBytes_i7e → Option R) : evC en5 su5i7 (ifAt 7 Tryz.f5) (Desc.mk2 f_spec_DrawTableBytes_i7v v (Desc.mk2 f_spec_DrawTableBytes_i7c c .empty)) (fun o => chk f_spec_DrawTableBytes_i7c f_spec_DrawTableBytes_i7e o kk) = f_spec_DrawTableBytes_i7 R c v kk := by kernel_rfl
theorem f_spec_DrawTableBytes_i7Ok {X : Cx} (hX : en5.lo = X.lo) : SubOk Tryz.prog X 23 ⟨f_spec_DrawTableBytes_i7c, f_spec_DrawTableBytes_i7v, f_spec_DrawTableBytes_i7e, f_spec_DrawTableBytes_i7⟩ (ifAt 7 Tryz.f5) :=
  sub_if (u := ⟨f_spec_DrawTableBytes_i7c, f_spec_DrawTableBytes_i7v, f_spec_DrawTableBytes_i7e, f_spec_DrawTableBytes_i7⟩) (subs := su5i7) ok5 rfl hX (GoodN.good (K := True) (Eq.mpr (show GoodN Tryz.prog X 23 en5 su5i7 (ifAt 7 Tryz.f5) True = (True) by kernel_rfl) trivial)).1 (by decide) (by decide) f_spec_DrawTableBytes_i7Eq
def su5i5 : Bool → Nat → Option Sub | false, 7 => some ⟨f_spec_DrawTableBytes_i7c, f_spec_DrawTableBytes_i7v, f_spec_DrawTableBytes_i7e, f_spec_DrawTableBytes_i7⟩ | _, _ => none
theorem f_spec_DrawTableBytes_i5Eq (R : Type) (c : Vars f_spec_DrawTableBytes_i5c) (v : Vars f_spec_DrawTableBytes_i5v) (kk : Vars f_spec_DrawTableBytes_i5c → Oc f_spec_DrawTableBytes_i5e → Option R) : evC en5 su5i5 (ifAt 5 Tryz.f5) (Desc.mk2 f_spec_DrawTableBytes_i5v v (Desc.mk2 f_spec_DrawTableBytes_i5c c .empty)) (fun o => chk f_spec_DrawTableBytes_i5c f_spec_DrawTableBytes_i5e o kk) = f_spec_DrawTableBytes_i5 R c v kk := by kernel_rfl
theorem f_spec_DrawTableBytes_i5Ok {X : Cx} (hX : en5.lo = X.lo) : SubOk Tryz.prog X 23 ⟨f_spec_DrawTableBytes_i5c, f_spec_DrawTableBytes_i5v, f_spec_DrawTableBytes_i5e, f_spec_DrawTableBytes_i5⟩ (ifAt 5 Tryz.f5) :=
  sub_if (u := ⟨f_spec_DrawTableBytes_i5c, f_spec_DrawTableBytes_i5v, f_spec_DrawTableBytes_i5e, f_spec_DrawTableBytes_i5⟩) (subs := su5i5) ok5 rfl hX (GoodN.good (K := True) (Eq.mpr (show GoodN Tryz.prog X 23 en5 su5i5 (ifAt 5 Tryz.f5) True = (SubOk Tryz.prog X 23 ⟨f_spec_DrawTableBytes_i7c, f_spec_DrawTableBytes_i7v, f_spec_DrawTableBytes_i7e, f_spec_DrawTableBytes_i7⟩ (ifAt 7 Tryz.f5) ∧ True) by kernel_rfl) ⟨(f_spec_DrawTableBytes_i7Ok hX), trivial⟩)).1 (by decide) (by decide) f_spec_DrawTableBytes_i5Eq
theorem f_spec_DrawTableBytesEq (x : Ps ins5) : evF en5 su5 Tryz.f5 ins5 res5 x = f_spec_DrawTableBytes x := by kernel_rfl
theorem so5 : Sound Tryz.prog 5 sg5 :=
  sound_of (fn := Tryz.f5) (c := bodyOf Tryz.f5) (subs := su5) (E := en5) (by kernel_rfl) (by kernel_rfl) (by decide) ok5 (by kernel_rfl) (by kernel_rfl) (by decide)
    (fun X hX => (GoodN.good (K := True) (Eq.mpr (show GoodN Tryz.prog X 23 en5 su5 (bodyOf Tryz.f5) True = (SubOk Tryz.prog X 23 ⟨f_spec_DrawTableBytes_i5c, f_spec_DrawTableBytes_i5v, f_spec_DrawTableBytes_i5e, f_spec_DrawTableBytes_i5⟩ (ifAt 5 Tryz.f5) ∧ True) by kernel_rfl) ⟨(f_spec_DrawTableBytes_i5Ok hX), trivial⟩)).1)
    (fun x r h => (f_spec_DrawTableBytesEq x).trans h)
def fl21 : List (Nat × Sig) := []
def en21 : Env := { n := 15, ty := assocN tyL, fns := assocN fl21, lo := 0 }
def su21 : Bool → Nat → Option Sub | _, _ => none
theorem ok21 : EnvOk Tryz.prog en21 := envOk_of rfl rfl tyL_ok (trivial)
theorem f_impl_inEq (x : Ps ins21) : evF en21 su21 Tryz.f21 ins21 res21 x = f_impl_in x := by kernel_rfl
theorem so21 : Sound Tryz.prog 21 sg21 :=
  sound_of (fn := Tryz.f21) (c := bodyOf Tryz.f21) (subs := su21) (E := en21) (by kernel_rfl) (by kernel_rfl) (by decide) ok21 (by kernel_rfl) (by kernel_rfl) (by decide)
    (fun X hX => (GoodN.good (K := True) (Eq.mpr (show GoodN Tryz.prog X 15 en21 su21 (bodyOf Tryz.f21) True = (True) by kernel_rfl) trivial)).1)
    (fun x r h => (f_impl_inEq x).trans h)
def fl29 : List (Nat × Sig) := [(21, sg21)]
def en29 : Env := { n := 6, ty := assocN tyL, fns := assocN fl29, lo := 0 }
def su29 : Bool → Nat → Option Sub | _, _ => none
theorem ok29 : EnvOk Tryz.prog en29 := envOk_of rfl rfl tyL_ok (⟨so21, trivial⟩)
theorem f_impl_isKeyEq (x : Ps ins29) : evF en29 su29 Tryz.f29 ins29 res29 x = f_impl_isKey x := by kernel_rfl
theorem so29 : Sound Tryz.prog 29 sg29 :=
  sound_of (fn := Tryz.f29) (c := bodyOf Tryz.f29) (subs := su29) (E := en29) (by kernel_rfl) (by kernel_rfl) (by decide) ok29 (by kernel_rfl) (by kernel_rfl) (by decide)
    (fun X hX => (GoodN.good (K := True) (Eq.mpr (show GoodN Tryz.prog X 6 en29 su29 (bodyOf Tryz.f29) True = (True) by kernel_rfl) trivial)).1)
    (fun x r h => (f_impl_isKeyEq x).trans h)
def fl30 : List (Nat × Sig) := [(21, sg21)]
def en30 : Env := { n := 5, ty := assocN tyL, fns := assocN fl30, lo := 0 }
def su30 : Bool → Nat → Option Sub | _, _ => none
theorem ok30 : EnvOk Tryz.prog en30 := envOk_of rfl rfl tyL_ok (⟨so21, trivial⟩)
theorem f_impl_isSeqEq (x : Ps ins30) : evF en30 su30 Tryz.f30 ins30 res30 x = f_impl_isSeq x := by kernel_rfl
theorem so30 : Sound Tryz.prog 30 sg30 :=
  sound_of (fn := Tryz.f30) (c := bodyOf Tryz.f30) (subs := su30) (E := en30) (by kernel_rfl) (by kernel_rfl) (by decide) ok30 (by kernel_rfl) (by kernel_rfl) (by decide)
    (fun X hX => (GoodN.good (K := True) (Eq.mpr (show GoodN Tryz.prog X 5 en30 su30 (bodyOf Tryz.f30) True = (True) by kernel_rfl) trivial)).1)
    (fun x r h => (f_impl_isSeqEq x).trans h)
def fl83 : List (Nat × Sig) := []
def en83 : Env := { n := 6, ty := assocN tyL, fns := assocN fl83, lo := 0 }
def su83 : Bool → Nat → Option Sub | _, _ => none
theorem ok83 : EnvOk Tryz.prog en83 := envOk_of rfl rfl tyL_ok (trivial)
theorem f_impl_isValueEq (x : Ps ins83) : evF en83 su83 Tryz.f83 ins83 res83 x = f_impl_isValue x := by kernel_rfl
theorem so83 : Sound Tryz.prog 83 sg83 :=
  sound_of (fn := Tryz.f83) (c := bodyOf Tryz.f83) (subs := su83) (E := en83) (by kernel_rfl) (by kernel_rfl) (by decide) ok83 (by kernel_rfl) (by kernel_rfl) (by decide)
    (fun X hX => (GoodN.good (K := True) (Eq.mpr (show GoodN Tryz.prog X 6 en83 su83 (bodyOf Tryz.f83) True = (True) by kernel_rfl) trivial)).1)
    (fun x r h => (f_impl_isValueEq x).trans h)
def fl48 : List (Nat × Sig) := [(21, sg21), (29, sg29), (30, sg30), (83, sg83)]
def en48 : Env := { n := 31, ty := assocN tyL, fns := assocN fl48, lo := 0 }
def su48 : Bool → Nat → Option Sub | _, _ => none
theorem ok48 : EnvOk Tryz.prog en48 := envOk_of rfl rfl tyL_ok (⟨so21, ⟨so29, ⟨so30, ⟨so83, trivial⟩⟩⟩⟩)
theorem f_impl_GoodItemEq (x : Ps ins48) : evF en48 su48 Tryz.f48 ins48 res48 x = f_impl_GoodItem x := by kernel_rfl
theorem so48 : Sound Tryz.prog 48 sg48 :=
  sound_of (fn := Tryz.f48) (c := bodyOf Tryz.f48) (subs := su48) (E := en48) (by kernel_rfl) (by kernel_rfl) (by decide) ok48 (by kernel_rfl) (by kernel_rfl) (by decide)
    (fun X hX => (GoodN.good (K := True) (Eq.mpr (show GoodN Tryz.prog X 31 en48 su48 (bodyOf Tryz.f48) True = (True) by kernel_rfl) trivial)).1)
    (fun x r h => (f_impl_GoodItemEq x).trans h)
def fl106 : List (Nat × Sig) := []
def en106 : Env := { n := 6, ty := assocN tyL, fns := assocN fl106, lo := 0 }
def su106 : Bool → Nat → Option Sub | _, _ => none
theorem ok106 : EnvOk Tryz.prog en106 := envOk_of rfl rfl tyL_ok (trivial)
theorem f_cmp_isNaN_stringEq (x : Ps ins106) : evF en106 su106 Tryz.f106 ins106 res106 x = f_cmp_isNaN_string x := by kernel_rfl
theorem so106 : Sound Tryz.prog 106 sg106 :=
  sound_of (fn := Tryz.f106) (c := bodyOf Tryz.f106) (subs := su106) (E := en106) (by kernel_rfl) (by kernel_rfl) (by decide) ok106 (by kernel_rfl) (by kernel_rfl) (by decide)
    (fun X hX => (GoodN.good (K := True) (Eq.mpr (show GoodN Tryz.prog X 6 en106 su106 (bodyOf Tryz.f106) True = (True) by kernel_rfl) trivial)).1)
    (fun x r h => (f_cmp_isNaN_stringEq x).trans h)
def fl85 : List (Nat × Sig) := [(106, sg106)]
def en85 : Env := { n := 20, ty := assocN tyL, fns := assocN fl85, lo := 0 }
def su85 : Bool → Nat → Option Sub | _, _ => none
theorem ok85 : EnvOk Tryz.prog en85 := envOk_of rfl rfl tyL_ok (⟨so106, trivial⟩)
theorem f_cmp_Compare_stringEq (x : Ps ins85) : evF en85 su85 Tryz.f85 ins85 res85 x = f_cmp_Compare_string x := by kernel_rfl
theorem so85 : Sound Tryz.prog 85 sg85 :=
  sound_of (fn := Tryz.f85) (c := bodyOf Tryz.f85) (subs := su85) (E := en85) (by kernel_rfl) (by kernel_rfl) (by decide) ok85 (by kernel_rfl) (by kernel_rfl) (by decide)
    (fun X hX => (GoodN.good (K := True) (Eq.mpr (show GoodN Tryz.prog X 20 en85 su85 (bodyOf Tryz.f85) True = (True) by kernel_rfl) trivial)).1)
    (fun x r h => (f_cmp_Compare_stringEq x).trans h)
def fl107 : List (Nat × Sig) := []
def en107 : Env := { n := 6, ty := assocN tyL, fns := assocN fl107, lo := 0 }
def su107 : Bool → Nat → Option Sub | _, _ => none
theorem ok107 : EnvOk Tryz.prog en107 := envOk_of rfl rfl tyL_ok (trivial)
theorem f_cmp_isNaN_intEq (x : Ps ins107) : evF en107 su107 Tryz.f107 ins107 res107 x = f_cmp_isNaN_int x := by kernel_rfl
theorem so107 : Sound Tryz.prog 107 sg107 :=
  sound_of (fn := Tryz.f107) (c := bodyOf Tryz.f107) (subs := su107) (E := en107) (by kernel_rfl) (by kernel_rfl) (by decide) ok107 (by kernel_rfl) (by kernel_rfl) (by decide)
    (fun X hX => (GoodN.good (K := True) (Eq.mpr (show GoodN Tryz.prog X 6 en107 su107 (bodyOf Tryz.f107) True = (True) by kernel_rfl) trivial)).1)
    (fun x r h => (f_cmp_isNaN_intEq x).trans h)
def fl86 : List (Nat × Sig) := [(107, sg107)]
def en86 : Env := { n := 20, ty := assocN tyL, fns := assocN fl86, lo := 0 }
def su86 : Bool → Nat → Option Sub | _, _ => none
theorem ok86 : EnvOk Tryz.prog en86 := envOk_of rfl rfl tyL_ok (⟨so107, trivial⟩)
theorem f_cmp_Compare_intEq (x : Ps ins86) : evF en86 su86 Tryz.f86 ins86 res86 x = f_cmp_Compare_int x := by kernel_rfl
theorem so86 : Sound Tryz.prog 86 sg86 :=
  sound_of (fn := Tryz.f86) (c := bodyOf Tryz.f86) (subs := su86) (E := en86) (by kernel_rfl) (by kernel_rfl) (by decide) ok86 (by kernel_rfl) (by kernel_rfl) (by decide)
    (fun X hX => (GoodN.good (K := True) (Eq.mpr (show GoodN Tryz.prog X 20 en86 su86 (bodyOf Tryz.f86) True = (True) by kernel_rfl) trivial)).1)
    (fun x r h => (f_cmp_Compare_intEq x).trans h)
def fl84 : List (Nat × Sig) := []
def en84 : Env := { n := 18, ty := assocN tyL, fns := assocN fl84, lo := 0 }
def su84 : Bool → Nat → Option Sub | true, 3 => some ⟨f_cmp_Or_int_l3c, f_cmp_Or_int_l3v, f_cmp_Or_int_l3e, loopF f_cmp_Or_int_l3⟩ | _, _ => none
theorem ok84 : EnvOk Tryz.prog en84 := envOk_of rfl rfl tyL_ok (trivial)
theorem f_cmp_Or_int_l3Eq (R : Type) (c : Vars f_cmp_Or_int_l3c) (v : Vars f_cmp_Or_int_l3v) (kk : Vars f_cmp_Or_int_l3c → (Vars f_cmp_Or_int_l3v ⊕ Oc f_cmp_Or_int_l3e) → Option R) : evC en84 su84 (loopAt 3 Tryz.f84) (Desc.mk2 f_cmp_Or_int_l3v v (Desc.mk2 f_cmp_Or_int_l3c c .empty)) (fun o => bodyK f_cmp_Or_int_l3c f_cmp_Or_int_l3v f_cmp_Or_int_l3e o kk) = f_cmp_Or_int_l3 R c v kk := by kernel_rfl
theorem f_cmp_Or_int_l3Ok {X : Cx} (hX : en84.lo = X.lo) : SubOk Tryz.prog X 18 ⟨f_cmp_Or_int_l3c, f_cmp_Or_int_l3v, f_cmp_Or_int_l3e, loopF f_cmp_Or_int_l3⟩ (.loop (loopAt 3 Tryz.f84)) :=
  sub_loop (subs := su84) ok84 rfl hX (GoodN.good (K := True) (Eq.mpr (show GoodN Tryz.prog X 18 en84 su84 (loopAt 3 Tryz.f84) True = (True) by kernel_rfl) trivial)).1 (by decide) (by decide) f_cmp_Or_int_l3Eq
theorem f_cmp_Or_intEq (x : Ps ins84) : evF en84 su84 Tryz.f84 ins84 res84 x = f_cmp_Or_int x := by kernel_rfl
theorem so84 : Sound Tryz.prog 84 sg84 :=
  sound_of (fn := Tryz.f84) (c := bodyOf Tryz.f84) (subs := su84) (E := en84) (by kernel_rfl) (by kernel_rfl) (by decide) ok84 (by kernel_rfl) (by kernel_rfl) (by decide)
    (fun X hX => (GoodN.good (K := True) (Eq.mpr (show GoodN Tryz.prog X 18 en84 su84 (bodyOf Tryz.f84) True = (SubOk Tryz.prog X 18 ⟨f_cmp_Or_int_l3c, f_cmp_Or_int_l3v, f_cmp_Or_int_l3e, loopF f_cmp_Or_int_l3⟩ (.loop (loopAt 3 Tryz.f84)) ∧ True) by kernel_rfl) ⟨(f_cmp_Or_int_l3Ok hX), trivial⟩)).1)
    (fun x r h => (f_cmp_Or_intEq x).trans h)
def fl49 : List (Nat × Sig) := [(84, sg84), (85, sg85), (86, sg86)]
def en49 : Env := { n := 17, ty := assocN tyL, fns := assocN fl49, lo := 0 }
def su49 : Bool → Nat → Option Sub | _, _ => none
theorem ok49 : EnvOk Tryz.prog en49 := envOk_of rfl rfl tyL_ok (⟨so84, ⟨so85, ⟨so86, trivial⟩⟩⟩)
theorem dr49r1 {X : Cx} (hX : en49.lo = X.lo) : RegOk Tryz.prog X 17 en49 1 (regAt 1 Tryz.f49) := regOk_of ok49 rfl hX (by kernel_rfl) (by kernel_rfl)
theorem f_impl_itemOrderEq (x : Ps ins49) : evF en49 su49 Tryz.f49 ins49 res49 x = f_impl_itemOrder x := by kernel_rfl
theorem so49 : Sound Tryz.prog 49 sg49 :=
  sound_of (fn := Tryz.f49) (c := bodyOf Tryz.f49) (subs := su49) (E := en49) (by kernel_rfl) (by kernel_rfl) (by decide) ok49 (by kernel_rfl) (by kernel_rfl) (by decide)
    (fun X hX => (GoodN.good (K := True) (Eq.mpr (show GoodN Tryz.prog X 17 en49 su49 (bodyOf Tryz.f49) True = (RegOk Tryz.prog X 17 en49 1 (regAt 1 Tryz.f49) ∧ True) by kernel_rfl) ⟨(dr49r1 hX), trivial⟩)).1)
    (fun x r h => (f_impl_itemOrderEq x).trans h)
def fl22 : List (Nat × Sig) := [(48, sg48), (49, sg49)]
def en22 : Env := { n := 30, ty := assocN tyL, fns := assocN fl22, lo := 0 }
def su22 : Bool → Nat → Option Sub | true, 2 => some ⟨f_impl_GoodRun_l2c, f_impl_GoodRun_l2v, f_impl_GoodRun_l2e, loopF f_impl_GoodRun_l2⟩ | _, _ => none
theorem ok22 : EnvOk Tryz.prog en22 := envOk_of rfl rfl tyL_ok (⟨so48, ⟨so49, trivial⟩⟩)
theorem dr22r4 {X : Cx} (hX : en22.lo = X.lo) : RegOk Tryz.prog X 30 en22 4 (regAt 4 Tryz.f22) := regOk_of ok22 rfl hX (by kernel_rfl) (by kernel_rfl)
theorem f_impl_GoodRun_l2Eq (R : Type) (c : Vars f_impl_GoodRun_l2c) (v : Vars f_impl_GoodRun_l2v) (kk : Vars f_impl_GoodRun_l2c → (Vars f_impl_GoodRun_l2v ⊕ Oc f_impl_GoodRun_l2e) → Option R) : evC en22 su22 (loopAt 2 Tryz.f22) (Desc.mk2 f_impl_GoodRun_l2v v (Desc.mk2 f_impl_GoodRun_l2c c .empty)) (fun o => bodyK f_impl_GoodRun_l2c f_impl_GoodRun_l2v f_impl_GoodRun_l2e o kk) = f_impl_GoodRun_l2 R c v kk := by kernel_rfl
theorem f_impl_GoodRun_l2Ok {X : Cx} (hX : en22.lo = X.lo) : SubOk Tryz.prog X 30 ⟨f_impl_GoodRun_l2c, f_impl_GoodRun_l2v, f_impl_GoodRun_l2e, loopF f_impl_GoodRun_l2⟩ (.loop (loopAt 2 Tryz.f22)) :=
  sub_loop (subs := su22) ok22 rfl hX (GoodN.good (K := True) (Eq.mpr (show GoodN Tryz.prog X 30 en22 su22 (loopAt 2 Tryz.f22) True = (RegOk Tryz.prog X 30 en22 4 (regAt 4 Tryz.f22) ∧ True) by kernel_rfl) ⟨(dr22r4 hX), trivial⟩)).1 (by decide) (by decide) f_impl_GoodRun_l2Eq
theorem f_impl_GoodRunEq (x : Ps ins22) : evF en22 su22 Tryz.f22 ins22 res22 x = f_impl_GoodRun x := by kernel_rfl
theorem so22 : Sound Tryz.prog 22 sg22 :=
  sound_of (fn := Tryz.f22) (c := bodyOf Tryz.f22) (subs := su22) (E := en22) (by kernel_rfl) (by kernel_rfl) (by decide) ok22 (by kernel_rfl) (by kernel_rfl) (by decide)
    (fun X hX => (GoodN.good (K := True) (Eq.mpr (show GoodN Tryz.prog X 30 en22 su22 (bodyOf Tryz.f22) True = (SubOk Tryz.prog X 30 ⟨f_impl_GoodRun_l2c, f_impl_GoodRun_l2v, f_impl_GoodRun_l2e, loopF f_impl_GoodRun_l2⟩ (.loop (loopAt 2 Tryz.f22)) ∧ True) by kernel_rfl) ⟨(f_impl_GoodRun_l2Ok hX), trivial⟩)).1)
    (fun x r h => (f_impl_GoodRunEq x).trans h)
def fl87 : List (Nat × Sig) := []
def en87 : Env := { n := 25, ty := assocN tyL, fns := assocN fl87, lo := 0 }
def su87 : Bool → Nat → Option Sub | true, 2 => some ⟨f_impl_CommonOf_l2c, f_impl_CommonOf_l2v, f_impl_CommonOf_l2e, loopF f_impl_CommonOf_l2⟩ | _, _ => none
theorem ok87 : EnvOk Tryz.prog en87 := envOk_of rfl rfl tyL_ok (trivial)
theorem dr87r2 {X : Cx} (hX : en87.lo = X.lo) : RegOk Tryz.prog X 25 en87 2 (regAt 2 Tryz.f87) := regOk_of ok87 rfl hX (by kernel_rfl) (by kernel_rfl)
theorem f_impl_CommonOf_l2Eq (R : Type) (c : Vars f_impl_CommonOf_l2c) (v : Vars f_impl_CommonOf_l2v) (kk : Vars f_impl_CommonOf_l2c → (Vars f_impl_CommonOf_l2v ⊕ Oc f_impl_CommonOf_l2e) → Option R) : evC en87 su87 (loopAt 2 Tryz.f87) (Desc.mk2 f_impl_CommonOf_l2v v (Desc.mk2 f_impl_CommonOf_l2c c .empty)) (fun o => bodyK f_impl_CommonOf_l2c f_impl_CommonOf_l2v f_impl_CommonOf_l2e o kk) = f_impl_CommonOf_l2 R c v kk := by kernel_rfl
theorem f_impl_CommonOf_l2Ok {X : Cx} (hX : en87.lo = X.lo) : SubOk Tryz.prog X 25 ⟨f_impl_CommonOf_l2c, f_impl_CommonOf_l2v, f_impl_CommonOf_l2e, loopF f_impl_CommonOf_l2⟩ (.loop (loopAt 2 Tryz.f87)) :=
  sub_loop (subs := su87) ok87 rfl hX (GoodN.good (K := True) (Eq.mpr (show GoodN Tryz.prog X 25 en87 su87 (loopAt 2 Tryz.f87) True = (RegOk Tryz.prog X 25 en87 2 (regAt 2 Tryz.f87) ∧ True) by kernel_rfl) ⟨(dr87r2 hX), trivial⟩)).1 (by decide) (by decide) f_impl_CommonOf_l2Eq
theorem f_impl_CommonOfEq (x : Ps ins87) : evF en87 su87 Tryz.f87 ins87 res87 x = f_impl_CommonOf x := by kernel_rfl
theorem so87 : Sound Tryz.prog 87 sg87 :=
  sound_of (fn := Tryz.f87) (c := bodyOf Tryz.f87) (subs := su87) (E := en87) (by kernel_rfl) (by kernel_rfl) (by decide) ok87 (by kernel_rfl) (by kernel_rfl) (by decide)
    (fun X hX => (GoodN.good (K := True) (Eq.mpr (show GoodN Tryz.prog X 25 en87 su87 (bodyOf Tryz.f87) True = (SubOk Tryz.prog X 25 ⟨f_impl_CommonOf_l2c, f_impl_CommonOf_l2v, f_impl_CommonOf_l2e, loopF f_impl_CommonOf_l2⟩ (.loop (loopAt 2 Tryz.f87)) ∧ True) by kernel_rfl) ⟨(f_impl_CommonOf_l2Ok hX), trivial⟩)).1)
    (fun x r h => (f_impl_CommonOfEq x).trans h)
def fl52 : List (Nat × Sig) := []
def hi52 : List (Nat × (K × Mk)) := [(3, ((.sl (.int .u8)), (.o .s)))]
def en52 : Env := { n := 22, ty := assocN tyL, fns := assocN fl52, lo := 0, hint := assocN hi52 }
def su52 : Bool → Nat → Option Sub | true, 2 => some ⟨f_impl_varBytes_l2c, f_impl_varBytes_l2v, f_impl_varBytes_l2e, loopF f_impl_varBytes_l2⟩ | _, _ => none
theorem ok52 : EnvOk Tryz.prog en52 := envOk_of rfl rfl tyL_ok (trivial)
theorem f_impl_varBytes_l2Eq (R : Type) (c : Vars f_impl_varBytes_l2c) (v : Vars f_impl_varBytes_l2v) (kk : Vars f_impl_varBytes_l2c → (Vars f_impl_varBytes_l2v ⊕ Oc f_impl_varBytes_l2e) → Option R) : evC en52 su52 (loopAt 2 Tryz.f52) (Desc.mk2 f_impl_varBytes_l2v v (Desc.mk2 f_impl_varBytes_l2c c .empty)) (fun o => bodyK f_impl_varBytes_l2c f_impl_varBytes_l2v f_impl_varBytes_l2e o kk) = f_impl_varBytes_l2 R c v kk := by kernel_rfl
theorem f_impl_varBytes_l2Ok {X : Cx} (hX : en52.lo = X.lo) : SubOk Tryz.prog X 22 ⟨f_impl_varBytes_l2c, f_impl_varBytes_l2v, f_impl_varBytes_l2e, loopF f_impl_varBytes_l2⟩ (.loop (loopAt 2 Tryz.f52)) :=
  sub_loop (subs := su52) ok52 rfl hX (GoodN.good (K := True) (Eq.mpr (show GoodN Tryz.prog X 22 en52 su52 (loopAt 2 Tryz.f52) True = (True) by kernel_rfl) trivial)).1 (by decide) (by decide) f_impl_varBytes_l2Eq
theorem f_impl_varBytesEq (x : Ps ins52) : evF en52 su52 Tryz.f52 ins52 res52 x = f_impl_varBytes x := by kernel_rfl
theorem so52 : Sound Tryz.prog 52 sg52 :=
  sound_of (fn := Tryz.f52) (c := bodyOf Tryz.f52) (subs := su52) (E := en52) (by kernel_rfl) (by kernel_rfl) (by decide) ok52 (by kernel_rfl) (by kernel_rfl) (by decide)
    (fun X hX => (GoodN.good (K := True) (Eq.mpr (show GoodN Tryz.prog X 22 en52 su52 (bodyOf Tryz.f52) True = (SubOk Tryz.prog X 22 ⟨f_impl_varBytes_l2c, f_impl_varBytes_l2v, f_impl_varBytes_l2e, loopF f_impl_varBytes_l2⟩ (.loop (loopAt 2 Tryz.f52)) ∧ True) by kernel_rfl) ⟨(f_impl_varBytes_l2Ok hX), trivial⟩)).1)
    (fun x r h => (f_impl_varBytesEq x).trans h)
def fl55 : List (Nat × Sig) := []
def hi55 : List (Nat × (K × Mk)) := [(5, ((.sl (.int .u8)), (.o .s)))]
def en55 : Env := { n := 20, ty := assocN tyL, fns := assocN fl55, lo := 0, hint := assocN hi55 }
def su55 : Bool → Nat → Option Sub | true, 3 => some ⟨f_impl_lowFirst_l3c, f_impl_lowFirst_l3v, f_impl_lowFirst_l3e, loopF f_impl_lowFirst_l3⟩ | _, _ => none
theorem ok55 : EnvOk Tryz.prog en55 := envOk_of rfl rfl tyL_ok (trivial)
theorem f_impl_lowFirst_l3Eq (R : Type) (c : Vars f_impl_lowFirst_l3c) (v : Vars f_impl_lowFirst_l3v) (kk : Vars f_impl_lowFirst_l3c → (Vars f_impl_lowFirst_l3v ⊕ Oc f_impl_lowFirst_l3e) → Option R) : evC en55 su55 (loopAt 3 Tryz.f55) (Desc.mk2 f_impl_lowFirst_l3v v (Desc.mk2 f_impl_lowFirst_l3c c .empty)) (fun o => bodyK f_impl_lowFirst_l3c f_impl_lowFirst_l3v f_impl_lowFirst_l3e o kk) = f_impl_lowFirst_l3 R c v kk := by kernel_rfl
theorem f_impl_lowFirst_l3Ok {X : Cx} (hX : en55.lo = X.lo) : SubOk Tryz.prog X 20 ⟨f_impl_lowFirst_l3c, f_impl_lowFirst_l3v, f_impl_lowFirst_l3e, loopF f_impl_lowFirst_l3⟩ (.loop (loopAt 3 Tryz.f55)) :=
  sub_loop (subs := su55) ok55 rfl hX (GoodN.good (K := True) (Eq.mpr (show GoodN Tryz.prog X 20 en55 su55 (loopAt 3 Tryz.f55) True = (True) by kernel_rfl) trivial)).1 (by decide) (by decide) f_impl_lowFirst_l3Eq
theorem f_impl_lowFirstEq (x : Ps ins55) : evF en55 su55 Tryz.f55 ins55 res55 x = f_impl_lowFirst x := by kernel_rfl
theorem so55 : Sound Tryz.prog 55 sg55 :=
  sound_of (fn := Tryz.f55) (c := bodyOf Tryz.f55) (subs := su55) (E := en55) (by kernel_rfl) (by kernel_rfl) (by decide) ok55 (by kernel_rfl) (by kernel_rfl) (by decide)
    (fun X hX => (GoodN.good (K := True) (Eq.mpr (show GoodN Tryz.prog X 20 en55 su55 (bodyOf Tryz.f55) True = (SubOk Tryz.prog X 20 ⟨f_impl_lowFirst_l3c, f_impl_lowFirst_l3v, f_impl_lowFirst_l3e, loopF f_impl_lowFirst_l3⟩ (.loop (loopAt 3 Tryz.f55)) ∧ True) by kernel_rfl) ⟨(f_impl_lowFirst_l3Ok hX), trivial⟩)).1)
    (fun x r h => (f_impl_lowFirstEq x).trans h)
def fl103 : List (Nat × Sig) := []
def hi103 : List (Nat × (K × Mk)) := [(0, ((.sl (.int .u32)), (.o .s))), (1, ((.sl (.int .u32)), (.o .s)))]
def en103 : Env := { n := 25, ty := assocN tyL, fns := assocN fl103, lo := 0, hint := assocN hi103 }
def su103 : Bool → Nat → Option Sub | false, 10 => some ⟨f_impl_SumTable_i10c, f_impl_SumTable_i10v, f_impl_SumTable_i10e, f_impl_SumTable_i10⟩ | true, 6 => some ⟨f_impl_SumTable_l6c, f_impl_SumTable_l6v, f_impl_SumTable_l6e, loopF f_impl_SumTable_l6⟩ | true, 3 => some ⟨f_impl_SumTable_l3c, f_impl_SumTable_l3v, f_impl_SumTable_l3e, loopF f_impl_SumTable_l3⟩ | _, _ => none
theorem ok103 : EnvOk Tryz.prog en103 := envOk_of rfl rfl tyL_ok (trivial)
def su103i10 : Bool → Nat → Option Sub | true, 6 => some ⟨f_impl_SumTable_l6c, f_impl_SumTable_l6v, f_impl_SumTable_l6e, loopF f_impl_SumTable_l6⟩ | true, 3 => some ⟨f_impl_SumTable_l3c, f_impl_SumTable_l3v, f_impl_SumTable_l3e, loopF f_impl_SumTable_l3⟩ | _, _ => none
theorem f_impl_SumTable_i10Eq (R : Type) (c : Vars f_impl_SumTable_i10c) (v : Vars f_impl_SumTable_i10v) (kk : Vars f_impl_SumTable_i10c → Oc f_impl_SumTable_i10e → Option R) : evC en103 su103i10 (ifAt 10 Tryz.f103) (Desc.mk2 f_impl_SumTable_i10v v (Desc.mk2 f_impl_SumTable_i10c c .empty)) (fun o => chk f_impl_SumTable_i10c f_impl_SumTable_i10e o kk) = f_impl_SumTable_i10 R c v kk := by kernel_rfl
theorem f_impl_SumTable_i10Ok {X : Cx} (hX : en103.lo = X.lo) : SubOk Tryz.prog X 25 ⟨f_impl_SumTable_i10c, f_impl_SumTable_i10v, f_impl_SumTable_i10e, f_impl_SumTable_i10⟩ (ifAt 10 Tryz.f103) :=
  sub_if (u := ⟨f_impl_SumTable_i10c, f_impl_SumTable_i10v, f_impl_SumTable_i10e, f_impl_SumTable_i10⟩) (subs := su103i10) ok103 rfl hX (GoodN.good (K := True) (Eq.mpr (show GoodN Tryz.prog X 25 en103 su103i10 (ifAt 10 Tryz.f103) True = (True) by kernel_rfl) trivial)).1 (by decide) (by decide) f_impl_SumTable_i10Eq
theorem f_impl_SumTable_l6Eq (R : Type) (c : Vars f_impl_SumTable_l6c) (v : Vars f_impl_SumTable_l6v) (kk : Vars f_impl_SumTable_l6c → (Vars f_impl_SumTable_l6v ⊕ Oc f_impl_SumTable_l6e) → Option R) : evC en103 su103 (loopAt 6 Tryz.f103) (Desc.mk2 f_impl_SumTable_l6v v (Desc.mk2 f_impl_SumTable_l6c c .empty)) (fun o => bodyK f_impl_SumTable_l6c f_impl_SumTable_l6v f_impl_SumTable_l6e o kk) = f_impl_SumTable_l6 R c v kk := by kernel_rfl
theorem f_impl_SumTable_l6Ok {X : Cx} (hX : en103.lo = X.lo) : SubOk Tryz.prog X 25 ⟨f_impl_SumTable_l6c, f_impl_SumTable_l6v, f_impl_SumTable_l6e, loopF f_impl_SumTable_l6⟩ (.loop (loopAt 6 Tryz.f103)) :=
  sub_loop (subs := su103) ok103 rfl hX (GoodN.good (K := True) (Eq.mpr (show GoodN Tryz.prog X 25 en103 su103 (loopAt 6 Tryz.f103) True = (SubOk Tryz.prog X 25 ⟨f_impl_SumTable_i10c, f_impl_SumTable_i10v, f_impl_SumTable_i10e, f_impl_SumTable_i10⟩ (ifAt 10 Tryz.f103) ∧ True) by kernel_rfl) ⟨(f_impl_SumTable_i10Ok hX), trivial⟩)).1 (by decide) (by decide) f_impl_SumTable_l6Eq
theorem f_impl_SumTable_l3Eq (R : Type) (c : Vars f_impl_SumTable_l3c) (v : Vars f_impl_SumTable_l3v) (kk : Vars f_impl_SumTable_l3c → (Vars f_impl_SumTable_l3v ⊕ Oc f_impl_SumTable_l3e) → Option R) : evC en103 su103 (loopAt 3 Tryz.f103) (Desc.mk2 f_impl_SumTable_l3v v (Desc.mk2 f_impl_SumTable_l3c c .empty)) (fun o => bodyK f_impl_SumTable_l3c f_impl_SumTable_l3v f_impl_SumTable_l3e o kk) = f_impl_SumTable_l3 R c v kk := by kernel_rfl
theorem f_impl_SumTable_l3Ok {X : Cx} (hX : en103.lo = X.lo) : SubOk Tryz.prog X 25 ⟨f_impl_SumTable_l3c, f_impl_SumTable_l3v, f_impl_SumTable_l3e, loopF f_impl_SumTable_l3⟩ (.loop (loopAt 3 Tryz.f103)) :=
  sub_loop (subs := su103) ok103 rfl hX (GoodN.good (K := True) (Eq.mpr (show GoodN Tryz.prog X 25 en103 su103 (loopAt 3 Tryz.f103) True = (SubOk Tryz.prog X 25 ⟨f_impl_SumTable_l6c, f_impl_SumTable_l6v, f_impl_SumTable_l6e, loopF f_impl_SumTable_l6⟩ (.loop (loopAt 6 Tryz.f103)) ∧ True) by kernel_rfl) ⟨(f_impl_SumTable_l6Ok hX), trivial⟩)).1 (by decide) (by decide) f_impl_SumTable_l3Eq
theorem f_impl_SumTableEq (x : Ps ins103) : evF en103 su103 Tryz.f103 ins103 res103 x = f_impl_SumTable x := by kernel_rfl
theorem so103 : Sound Tryz.prog 103 sg103 :=
  sound_of (fn := Tryz.f103) (c := bodyOf Tryz.f103) (subs := su103) (E := en103) (by kernel_rfl) (by kernel_rfl) (by decide) ok103 (by kernel_rfl) (by kernel_rfl) (by decide)
    (fun X hX => (GoodN.good (K := True) (Eq.mpr (show GoodN Tryz.prog X 25 en103 su103 (bodyOf Tryz.f103) True = (SubOk Tryz.prog X 25 ⟨f_impl_SumTable_l3c, f_impl_SumTable_l3v, f_impl_SumTable_l3e, loopF f_impl_SumTable_l3⟩ (.loop (loopAt 3 Tryz.f103)) ∧ True) by kernel_rfl) ⟨(f_impl_SumTable_l3Ok hX), trivial⟩)).1)
    (fun x r h => (f_impl_SumTableEq x).trans h)
def fl80 : List (Nat × Sig) := [(103, sg103)]
def hi80 : List (Nat × (K × Mk)) := [(5, ((.sl (.int .u32)), (.o .s)))]
def en80 : Env := { n := 27, ty := assocN tyL, fns := assocN fl80, lo := 0, hint := assocN hi80 }
def su80 : Bool → Nat → Option Sub | true, 3 => some ⟨f_impl_SumOn_l3c, f_impl_SumOn_l3v, f_impl_SumOn_l3e, loopF f_impl_SumOn_l3⟩ | _, _ => none
theorem ok80 : EnvOk Tryz.prog en80 := envOk_of rfl rfl tyL_ok (⟨so103, trivial⟩)
theorem f_impl_SumOn_l3Eq (R : Type) (c : Vars f_impl_SumOn_l3c) (v : Vars f_impl_SumOn_l3v) (kk : Vars f_impl_SumOn_l3c → (Vars f_impl_SumOn_l3v ⊕ Oc f_impl_SumOn_l3e) → Option R) : evC en80 su80 (loopAt 3 Tryz.f80) (Desc.mk2 f_impl_SumOn_l3v v (Desc.mk2 f_impl_SumOn_l3c c .empty)) (fun o => bodyK f_impl_SumOn_l3c f_impl_SumOn_l3v f_impl_SumOn_l3e o kk) = f_impl_SumOn_l3 R c v kk := by kernel_rfl
theorem f_impl_SumOn_l3Ok {X : Cx} (hX : en80.lo = X.lo) : SubOk Tryz.prog X 27 ⟨f_impl_SumOn_l3c, f_impl_SumOn_l3v, f_impl_SumOn_l3e, loopF f_impl_SumOn_l3⟩ (.loop (loopAt 3 Tryz.f80)) :=
  sub_loop (subs := su80) ok80 rfl hX (GoodN.good (K := True) (Eq.mpr (show GoodN Tryz.prog X 27 en80 su80 (loopAt 3 Tryz.f80) True = (True) by kernel_rfl) trivial)).1 (by decide) (by decide) f_impl_SumOn_l3Eq
theorem f_impl_SumOnEq (x : Ps ins80) : evF en80 su80 Tryz.f80 ins80 res80 x = f_impl_SumOn x := by kernel_rfl
theorem so80 : Sound Tryz.prog 80 sg80 :=
  sound_of (fn := Tryz.f80) (c := bodyOf Tryz.f80) (subs := su80) (E := en80) (by kernel_rfl) (by kernel_rfl) (by decide) ok80 (by kernel_rfl) (by kernel_rfl) (by decide)
    (fun X hX => (GoodN.good (K := True) (Eq.mpr (show GoodN Tryz.prog X 27 en80 su80 (bodyOf Tryz.f80) True = (SubOk Tryz.prog X 27 ⟨f_impl_SumOn_l3c, f_impl_SumOn_l3v, f_impl_SumOn_l3e, loopF f_impl_SumOn_l3⟩ (.loop (loopAt 3 Tryz.f80)) ∧ True) by kernel_rfl) ⟨(f_impl_SumOn_l3Ok hX), trivial⟩)).1)
    (fun x r h => (f_impl_SumOnEq x).trans h)
def fl57 : List (Nat × Sig) := [(80, sg80)]
def en57 : Env := { n := 6, ty := assocN tyL, fns := assocN fl57, lo := 0 }
def su57 : Bool → Nat → Option Sub | _, _ => none
theorem ok57 : EnvOk Tryz.prog en57 := envOk_of rfl rfl tyL_ok (⟨so80, trivial⟩)
theorem f_impl_SumOfEq (x : Ps ins57) : evF en57 su57 Tryz.f57 ins57 res57 x = f_impl_SumOf x := by kernel_rfl
theorem so57 : Sound Tryz.prog 57 sg57 :=
  sound_of (fn := Tryz.f57) (c := bodyOf Tryz.f57) (subs := su57) (E := en57) (by kernel_rfl) (by kernel_rfl) (by decide) ok57 (by kernel_rfl) (by kernel_rfl) (by decide)
    (fun X hX => (GoodN.good (K := True) (Eq.mpr (show GoodN Tryz.prog X 6 en57 su57 (bodyOf Tryz.f57) True = (True) by kernel_rfl) trivial)).1)
    (fun x r h => (f_impl_SumOfEq x).trans h)
def fl50 : List (Nat × Sig) := [(52, sg52), (55, sg55), (57, sg57), (87, sg87)]
def hi50 : List (Nat × (K × Mk)) := [(3, ((.sl (.int .i64)), (.o .s))), (5, ((.sl (.int .i64)), (.o .s)))]
def en50 : Env := { n := 91, ty := assocN tyL, fns := assocN fl50, lo := 0, hint := assocN hi50 }
def su50 : Bool → Nat → Option Sub | false, 7 => some ⟨f_impl_block_i7c, f_impl_block_i7v, f_impl_block_i7e, f_impl_block_i7⟩ | true, 3 => some ⟨f_impl_block_l3c, f_impl_block_l3v, f_impl_block_l3e, loopF f_impl_block_l3⟩ | true, 12 => some ⟨f_impl_block_l12c, f_impl_block_l12v, f_impl_block_l12e, loopF f_impl_block_l12⟩ | _, _ => none
theorem ok50 : EnvOk Tryz.prog en50 := envOk_of rfl rfl tyL_ok (⟨so52, ⟨so55, ⟨so57, ⟨so87, trivial⟩⟩⟩⟩)
theorem dr50r8 {X : Cx} (hX : en50.lo = X.lo) : RegOk Tryz.prog X 91 en50 8 (regAt 8 Tryz.f50) := regOk_of ok50 rfl hX (by kernel_rfl) (by kernel_rfl)
def su50i7 : Bool → Nat → Option Sub | true, 3 => some ⟨f_impl_block_l3c, f_impl_block_l3v, f_impl_block_l3e, loopF f_impl_block_l3⟩ | true, 12 => some ⟨f_impl_block_l12c, f_impl_block_l12v, f_impl_block_l12e, loopF f_impl_block_l12⟩ | _, _ => none
theorem f_impl_block_i7Eq (R : Type) (c : Vars f_impl_block_i7c) (v : Vars f_impl_block_i7v) (kk : Vars f_impl_block_i7c → Oc f_impl_block_i7e → Option R) : evC en50 su50i7 (ifAt 7 Tryz.f50) (Desc.mk2 f_impl_block_i7v v (Desc.mk2 f_impl_block_i7c c .empty)) (fun o => chk f_impl_block_i7c f_impl_block_i7e o kk) = f_impl_block_i7 R c v kk := by kernel_rfl
theorem f_impl_block_i7Ok {X : Cx} (hX : en50.lo = X.lo) : SubOk Tryz.prog X 91 ⟨f_impl_block_i7c, f_impl_block_i7v, f_impl_block_i7e, f_impl_block_i7⟩ (ifAt 7 Tryz.f50) :=
  sub_if (u := ⟨f_impl_block_i7c, f_impl_block_i7v, f_impl_block_i7e, f_impl_block_i7⟩) (subs := su50i7) ok50 rfl hX (GoodN.good (K := True) (Eq.mpr (show GoodN Tryz.prog X 91 en50 su50i7 (ifAt 7 Tryz.f50) True = (True) by kernel_rfl) trivial)).1 (by decide) (by decide) f_impl_block_i7Eq
theorem f_impl_block_l3Eq (R : Type) (c : Vars f_impl_block_l3c) (v : Vars f_impl_block_l3v) (kk : Vars f_impl_block_l3c → (Vars f_impl_block_l3v ⊕ Oc f_impl_block_l3e) → Option R) : evC en50 su50 (loopAt 3 Tryz.f50) (Desc.mk2 f_impl_block_l3v v (Desc.mk2 f_impl_block_l3c c .empty)) (fun o => bodyK f_impl_block_l3c f_impl_block_l3v f_impl_block_l3e o kk) = f_impl_block_l3 R c v kk := by kernel_rfl
theorem f_impl_block_l3Ok {X : Cx} (hX : en50.lo = X.lo) : SubOk Tryz.prog X 91 ⟨f_impl_block_l3c, f_impl_block_l3v, f_impl_block_l3e, loopF f_impl_block_l3⟩ (.loop (loopAt 3 Tryz.f50)) :=
  sub_loop (subs := su50) ok50 rfl hX (GoodN.good (K := True) (Eq.mpr (show GoodN Tryz.prog X 91 en50 su50 (loopAt 3 Tryz.f50) True = (SubOk Tryz.prog X 91 ⟨f_impl_block_i7c, f_impl_block_i7v, f_impl_block_i7e, f_impl_block_i7⟩ (ifAt 7 Tryz.f50) ∧ RegOk Tryz.prog X 91 en50 8 (regAt 8 Tryz.f50) ∧ True) by kernel_rfl) ⟨(f_impl_block_i7Ok hX), (dr50r8 hX), trivial⟩)).1 (by decide) (by decide) f_impl_block_l3Eq
theorem f_impl_block_l12Eq (R : Type) (c : Vars f_impl_block_l12c) (v : Vars f_impl_block_l12v) (kk : Vars f_impl_block_l12c → (Vars f_impl_block_l12v ⊕ Oc f_impl_block_l12e) → Option R) : evC en50 su50 (loopAt 12 Tryz.f50) (Desc.mk2 f_impl_block_l12v v (Desc.mk2 f_impl_block_l12c c .empty)) (fun o => bodyK f_impl_block_l12c f_impl_block_l12v f_impl_block_l12e o kk) = f_impl_block_l12 R c v kk := by kernel_rfl
theorem f_impl_block_l12Ok {X : Cx} (hX : en50.lo = X.lo) : SubOk Tryz.prog X 91 ⟨f_impl_block_l12c, f_impl_block_l12v, f_impl_block_l12e, loopF f_impl_block_l12⟩ (.loop (loopAt 12 Tryz.f50)) :=
  sub_loop (subs := su50) ok50 rfl hX (GoodN.good (K := True) (Eq.mpr (show GoodN Tryz.prog X 91 en50 su50 (loopAt 12 Tryz.f50) True = (True) by kernel_rfl) trivial)).1 (by decide) (by decide) f_impl_block_l12Eq
theorem f_impl_blockEq (x : Ps ins50) : evF en50 su50 Tryz.f50 ins50 res50 x = f_impl_block x := by kernel_rfl
theorem so50 : Sound Tryz.prog 50 sg50 :=
  sound_of (fn := Tryz.f50) (c := bodyOf Tryz.f50) (subs := su50) (E := en50) (by kernel_rfl) (by kernel_rfl) (by decide) ok50 (by kernel_rfl) (by kernel_rfl) (by decide)
    (fun X hX => (GoodN.good (K := True) (Eq.mpr (show GoodN Tryz.prog X 91 en50 su50 (bodyOf Tryz.f50) True = (SubOk Tryz.prog X 91 ⟨f_impl_block_l3c, f_impl_block_l3v, f_impl_block_l3e, loopF f_impl_block_l3⟩ (.loop (loopAt 3 Tryz.f50)) ∧ SubOk Tryz.prog X 91 ⟨f_impl_block_l12c, f_impl_block_l12v, f_impl_block_l12e, loopF f_impl_block_l12⟩ (.loop (loopAt 12 Tryz.f50)) ∧ True) by kernel_rfl) ⟨(f_impl_block_l3Ok hX), (f_impl_block_l12Ok hX), trivial⟩)).1)
    (fun x r h => (f_impl_blockEq x).trans h)
def fl51 : List (Nat × Sig) := [(52, sg52)]
def en51 : Env := { n := 8, ty := assocN tyL, fns := assocN fl51, lo := 0 }
def su51 : Bool → Nat → Option Sub | _, _ => none
theorem ok51 : EnvOk Tryz.prog en51 := envOk_of rfl rfl tyL_ok (⟨so52, trivial⟩)
theorem f_impl_sizedEq (x : Ps ins51) : evF en51 su51 Tryz.f51 ins51 res51 x = f_impl_sized x := by kernel_rfl
theorem so51 : Sound Tryz.prog 51 sg51 :=
  sound_of (fn := Tryz.f51) (c := bodyOf Tryz.f51) (subs := su51) (E := en51) (by kernel_rfl) (by kernel_rfl) (by decide) ok51 (by kernel_rfl) (by kernel_rfl) (by decide)
    (fun X hX => (GoodN.good (K := True) (Eq.mpr (show GoodN Tryz.prog X 8 en51 su51 (bodyOf Tryz.f51) True = (True) by kernel_rfl) trivial)).1)
    (fun x r h => (f_impl_sizedEq x).trans h)
def fl54 : List (Nat × Sig) := []
def hi54 : List (Nat × (K × Mk)) := [(2, ((.sl .str), (.o .s))), (3, ((.sl .str), (.o .s)))]
def en54 : Env := { n := 34, ty := assocN tyL, fns := assocN fl54, lo := 0, hint := assocN hi54 }
def su54 : Bool → Nat → Option Sub | false, 6 => some ⟨f_impl_tableKeys_i6c, f_impl_tableKeys_i6v, f_impl_tableKeys_i6e, f_impl_tableKeys_i6⟩ | true, 3 => some ⟨f_impl_tableKeys_l3c, f_impl_tableKeys_l3v, f_impl_tableKeys_l3e, loopF f_impl_tableKeys_l3⟩ | _, _ => none
theorem ok54 : EnvOk Tryz.prog en54 := envOk_of rfl rfl tyL_ok (trivial)
theorem dr54r5 {X : Cx} (hX : en54.lo = X.lo) : RegOk Tryz.prog X 34 en54 5 (regAt 5 Tryz.f54) := regOk_of ok54 rfl hX (by kernel_rfl) (by kernel_rfl)
def su54i6 : Bool → Nat → Option Sub | true, 3 => some ⟨f_impl_tableKeys_l3c, f_impl_tableKeys_l3v, f_impl_tableKeys_l3e, loopF f_impl_tableKeys_l3⟩ | _, _ => none
theorem f_impl_tableKeys_i6Eq (R : Type) (c : Vars f_impl_tableKeys_i6c) (v : Vars f_impl_tableKeys_i6v) (kk : Vars f_impl_tableKeys_i6c → Oc f_impl_tableKeys_i6e → Option R) : evC en54 su54i6 (ifAt 6 Tryz.f54) (Desc.mk2 f_impl_tableKeys_i6v v (Desc.mk2 f_impl_tableKeys_i6c c .empty)) (fun o => chk f_impl_tableKeys_i6c f_impl_tableKeys_i6e o kk) = f_impl_tableKeys_i6 R c v kk := by kernel_rfl
theorem f_impl_tableKeys_i6Ok {X : Cx} (hX : en54.lo = X.lo) : SubOk Tryz.prog X 34 ⟨f_impl_tableKeys_i6c, f_impl_tableKeys_i6v, f_impl_tableKeys_i6e, f_impl_tableKeys_i6⟩ (ifAt 6 Tryz.f54) :=
  sub_if (u := ⟨f_impl_tableKeys_i6c, f_impl_tableKeys_i6v, f_impl_tableKeys_i6e, f_impl_tableKeys_i6⟩) (subs := su54i6) ok54 rfl hX (GoodN.good (K := True) (Eq.mpr (show GoodN Tryz.prog X 34 en54 su54i6 (ifAt 6 Tryz.f54) True = (True) by kernel_rfl) trivial)).1 (by decide) (by decide) f_impl_tableKeys_i6Eq
theorem f_impl_tableKeys_l3Eq (R : Type) (c : Vars f_impl_tableKeys_l3c) (v : Vars f_impl_tableKeys_l3v) (kk : Vars f_impl_tableKeys_l3c → (Vars f_impl_tableKeys_l3v ⊕ Oc f_impl_tableKeys_l3e) → Option R) : evC en54 su54 (loopAt 3 Tryz.f54) (Desc.mk2 f_impl_tableKeys_l3v v (Desc.mk2 f_impl_tableKeys_l3c c .empty)) (fun o => bodyK f_impl_tableKeys_l3c f_impl_tableKeys_l3v f_impl_tableKeys_l3e o kk) = f_impl_tableKeys_l3 R c v kk := by kernel_rfl
theorem f_impl_tableKeys_l3Ok {X : Cx} (hX : en54.lo = X.lo) : SubOk Tryz.prog X 34 ⟨f_impl_tableKeys_l3c, f_impl_tableKeys_l3v, f_impl_tableKeys_l3e, loopF f_impl_tableKeys_l3⟩ (.loop (loopAt 3 Tryz.f54)) :=
  sub_loop (subs := su54) ok54 rfl hX (GoodN.good (K := True) (Eq.mpr (show GoodN Tryz.prog X 34 en54 su54 (loopAt 3 Tryz.f54) True = (RegOk Tryz.prog X 34 en54 5 (regAt 5 Tryz.f54) ∧ SubOk Tryz.prog X 34 ⟨f_impl_tableKeys_i6c, f_impl_tableKeys_i6v, f_impl_tableKeys_i6e, f_impl_tableKeys_i6⟩ (ifAt 6 Tryz.f54) ∧ True) by kernel_rfl) ⟨(dr54r5 hX), (f_impl_tableKeys_i6Ok hX), trivial⟩)).1 (by decide) (by decide) f_impl_tableKeys_l3Eq
theorem f_impl_tableKeysEq (x : Ps ins54) : evF en54 su54 Tryz.f54 ins54 res54 x = f_impl_tableKeys x := by kernel_rfl
theorem so54 : Sound Tryz.prog 54 sg54 :=
  sound_of (fn := Tryz.f54) (c := bodyOf Tryz.f54) (subs := su54) (E := en54) (by kernel_rfl) (by kernel_rfl) (by decide) ok54 (by kernel_rfl) (by kernel_rfl) (by decide)
    (fun X hX => (GoodN.good (K := True) (Eq.mpr (show GoodN Tryz.prog X 34 en54 su54 (bodyOf Tryz.f54) True = (SubOk Tryz.prog X 34 ⟨f_impl_tableKeys_l3c, f_impl_tableKeys_l3v, f_impl_tableKeys_l3e, loopF f_impl_tableKeys_l3⟩ (.loop (loopAt 3 Tryz.f54)) ∧ True) by kernel_rfl) ⟨(f_impl_tableKeys_l3Ok hX), trivial⟩)).1)
    (fun x r h => (f_impl_tableKeysEq x).trans h)
def fl78 : List (Nat × Sig) := [(21, sg21)]
def en78 : Env := { n := 5, ty := assocN tyL, fns := assocN fl78, lo := 0 }
def su78 : Bool → Nat → Option Sub | _, _ => none
theorem ok78 : EnvOk Tryz.prog en78 := envOk_of rfl rfl tyL_ok (⟨so21, trivial⟩)
theorem f_impl_hashesOkEq (x : Ps ins78) : evF en78 su78 Tryz.f78 ins78 res78 x = f_impl_hashesOk x := by kernel_rfl
theorem so78 : Sound Tryz.prog 78 sg78 :=
  sound_of (fn := Tryz.f78) (c := bodyOf Tryz.f78) (subs := su78) (E := en78) (by kernel_rfl) (by kernel_rfl) (by decide) ok78 (by kernel_rfl) (by kernel_rfl) (by decide)
    (fun X hX => (GoodN.good (K := True) (Eq.mpr (show GoodN Tryz.prog X 5 en78 su78 (bodyOf Tryz.f78) True = (True) by kernel_rfl) trivial)).1)
    (fun x r h => (f_impl_hashesOkEq x).trans h)
def fl88 : List (Nat × Sig) := [(78, sg78), (108, sgf_strings_Repeat)]
def en88 : Env := { n := 11, ty := assocN tyL, fns := assocN fl88, lo := 0 }
def su88 : Bool → Nat → Option Sub | _, _ => none
theorem ok88 : EnvOk Tryz.prog en88 := envOk_of rfl rfl tyL_ok (⟨so78, ⟨soRepeat, trivial⟩⟩)
theorem f_impl_NewFilterEq (x : Ps ins88) : evF en88 su88 Tryz.f88 ins88 res88 x = f_impl_NewFilter x := by kernel_rfl
theorem so88 : Sound Tryz.prog 88 sg88 :=
  sound_of (fn := Tryz.f88) (c := bodyOf Tryz.f88) (subs := su88) (E := en88) (by kernel_rfl) (by kernel_rfl) (by decide) ok88 (by kernel_rfl) (by kernel_rfl) (by decide)
    (fun X hX => (GoodN.good (K := True) (Eq.mpr (show GoodN Tryz.prog X 11 en88 su88 (bodyOf Tryz.f88) True = (True) by kernel_rfl) trivial)).1)
    (fun x r h => (f_impl_NewFilterEq x).trans h)
def fl40 : List (Nat × Sig) := [(21, sg21), (78, sg78)]
def en40 : Env := { n := 17, ty := assocN tyL, fns := assocN fl40, lo := 0 }
def su40 : Bool → Nat → Option Sub | _, _ => none
theorem ok40 : EnvOk Tryz.prog en40 := envOk_of rfl rfl tyL_ok (⟨so21, ⟨so78, trivial⟩⟩)
theorem f_impl_GoodFilterEq (x : Ps ins40) : evF en40 su40 Tryz.f40 ins40 res40 x = f_impl_GoodFilter x := by kernel_rfl
theorem so40 : Sound Tryz.prog 40 sg40 :=
  sound_of (fn := Tryz.f40) (c := bodyOf Tryz.f40) (subs := su40) (E := en40) (by kernel_rfl) (by kernel_rfl) (by decide) ok40 (by kernel_rfl) (by kernel_rfl) (by decide)
    (fun X hX => (GoodN.good (K := True) (Eq.mpr (show GoodN Tryz.prog X 17 en40 su40 (bodyOf Tryz.f40) True = (True) by kernel_rfl) trivial)).1)
    (fun x r h => (f_impl_GoodFilterEq x).trans h)
def fl42 : List (Nat × Sig) := [(57, sg57), (80, sg80)]
def hi42 : List (Nat × (K × Mk)) := [(4, ((.sl (.int .i64)), (.o .s))), (7, ((.sl (.int .i64)), (.o .s)))]
def en42 : Env := { n := 28, ty := assocN tyL, fns := assocN fl42, lo := 0, hint := assocN hi42 }
def su42 : Bool → Nat → Option Sub | true, 3 => some ⟨f_impl_places_l3c, f_impl_places_l3v, f_impl_places_l3e, loopF f_impl_places_l3⟩ | _, _ => none
theorem ok42 : EnvOk Tryz.prog en42 := envOk_of rfl rfl tyL_ok (⟨so57, ⟨so80, trivial⟩⟩)
theorem f_impl_places_l3Eq (R : Type) (c : Vars f_impl_places_l3c) (v : Vars f_impl_places_l3v) (kk : Vars f_impl_places_l3c → (Vars f_impl_places_l3v ⊕ Oc f_impl_places_l3e) → Option R) : evC en42 su42 (loopAt 3 Tryz.f42) (Desc.mk2 f_impl_places_l3v v (Desc.mk2 f_impl_places_l3c c .empty)) (fun o => bodyK f_impl_places_l3c f_impl_places_l3v f_impl_places_l3e o kk) = f_impl_places_l3 R c v kk := by kernel_rfl
theorem f_impl_places_l3Ok {X : Cx} (hX : en42.lo = X.lo) : SubOk Tryz.prog X 28 ⟨f_impl_places_l3c, f_impl_places_l3v, f_impl_places_l3e, loopF f_impl_places_l3⟩ (.loop (loopAt 3 Tryz.f42)) :=
  sub_loop (subs := su42) ok42 rfl hX (GoodN.good (K := True) (Eq.mpr (show GoodN Tryz.prog X 28 en42 su42 (loopAt 3 Tryz.f42) True = (True) by kernel_rfl) trivial)).1 (by decide) (by decide) f_impl_places_l3Eq
theorem f_impl_placesEq (x : Ps ins42) : evF en42 su42 Tryz.f42 ins42 res42 x = f_impl_places x := by kernel_rfl
theorem so42 : Sound Tryz.prog 42 sg42 :=
  sound_of (fn := Tryz.f42) (c := bodyOf Tryz.f42) (subs := su42) (E := en42) (by kernel_rfl) (by kernel_rfl) (by decide) ok42 (by kernel_rfl) (by kernel_rfl) (by decide)
    (fun X hX => (GoodN.good (K := True) (Eq.mpr (show GoodN Tryz.prog X 28 en42 su42 (bodyOf Tryz.f42) True = (SubOk Tryz.prog X 28 ⟨f_impl_places_l3c, f_impl_places_l3v, f_impl_places_l3e, loopF f_impl_places_l3⟩ (.loop (loopAt 3 Tryz.f42)) ∧ True) by kernel_rfl) ⟨(f_impl_places_l3Ok hX), trivial⟩)).1)
    (fun x r h => (f_impl_placesEq x).trans h)
def fl89 : List (Nat × Sig) := [(29, sg29), (40, sg40), (42, sg42)]
def hi89 : List (Nat × (K × Mk)) := [(6, ((.sl (.int .u8)), (.o .s)))]
def en89 : Env := { n := 50, ty := assocN tyL, fns := assocN fl89, lo := 0, hint := assocN hi89 }
def su89 : Bool → Nat → Option Sub | true, 5 => some ⟨f_impl_AddKey_l5c, f_impl_AddKey_l5v, f_impl_AddKey_l5e, loopF f_impl_AddKey_l5⟩ | _, _ => none
theorem ok89 : EnvOk Tryz.prog en89 := envOk_of rfl rfl tyL_ok (⟨so29, ⟨so40, ⟨so42, trivial⟩⟩⟩)
theorem dr89r7 {X : Cx} (hX : en89.lo = X.lo) : RegOk Tryz.prog X 50 en89 7 (regAt 7 Tryz.f89) := regOk_of ok89 rfl hX (by kernel_rfl) (by kernel_rfl)
theorem f_impl_AddKey_l5Eq (R : Type) (c : Vars f_impl_AddKey_l5c) (v : Vars f_impl_AddKey_l5v) (kk : Vars f_impl_AddKey_l5c → (Vars f_impl_AddKey_l5v ⊕ Oc f_impl_AddKey_l5e) → Option R) : evC en89 su89 (loopAt 5 Tryz.f89) (Desc.mk2 f_impl_AddKey_l5v v (Desc.mk2 f_impl_AddKey_l5c c .empty)) (fun o => bodyK f_impl_AddKey_l5c f_impl_AddKey_l5v f_impl_AddKey_l5e o kk) = f_impl_AddKey_l5 R c v kk := by kernel_rfl
theorem f_impl_AddKey_l5Ok {X : Cx} (hX : en89.lo = X.lo) : SubOk Tryz.prog X 50 ⟨f_impl_AddKey_l5c, f_impl_AddKey_l5v, f_impl_AddKey_l5e, loopF f_impl_AddKey_l5⟩ (.loop (loopAt 5 Tryz.f89)) :=
  sub_loop (subs := su89) ok89 rfl hX (GoodN.good (K := True) (Eq.mpr (show GoodN Tryz.prog X 50 en89 su89 (loopAt 5 Tryz.f89) True = (RegOk Tryz.prog X 50 en89 7 (regAt 7 Tryz.f89) ∧ True) by kernel_rfl) ⟨(dr89r7 hX), trivial⟩)).1 (by decide) (by decide) f_impl_AddKey_l5Eq
theorem f_impl_AddKeyEq (x : Ps ins89) : evF en89 su89 Tryz.f89 ins89 res89 x = f_impl_AddKey x := by kernel_rfl
theorem so89 : Sound Tryz.prog 89 sg89 :=
  sound_of (fn := Tryz.f89) (c := bodyOf Tryz.f89) (subs := su89) (E := en89) (by kernel_rfl) (by kernel_rfl) (by decide) ok89 (by kernel_rfl) (by kernel_rfl) (by decide)
    (fun X hX => (GoodN.good (K := True) (Eq.mpr (show GoodN Tryz.prog X 50 en89 su89 (bodyOf Tryz.f89) True = (SubOk Tryz.prog X 50 ⟨f_impl_AddKey_l5c, f_impl_AddKey_l5v, f_impl_AddKey_l5e, loopF f_impl_AddKey_l5⟩ (.loop (loopAt 5 Tryz.f89)) ∧ True) by kernel_rfl) ⟨(f_impl_AddKey_l5Ok hX), trivial⟩)).1)
    (fun x r h => (f_impl_AddKeyEq x).trans h)
def fl53 : List (Nat × Sig) := [(88, sg88), (89, sg89)]
def en53 : Env := { n := 40, ty := assocN tyL, fns := assocN fl53, lo := 0 }
def su53 : Bool → Nat → Option Sub | true, 5 => some ⟨f_impl_FilterOf_l5c, f_impl_FilterOf_l5v, f_impl_FilterOf_l5e, loopF f_impl_FilterOf_l5⟩ | _, _ => none
theorem ok53 : EnvOk Tryz.prog en53 := envOk_of rfl rfl tyL_ok (⟨so88, ⟨so89, trivial⟩⟩)
theorem f_impl_FilterOf_l5Eq (R : Type) (c : Vars f_impl_FilterOf_l5c) (v : Vars f_impl_FilterOf_l5v) (kk : Vars f_impl_FilterOf_l5c → (Vars f_impl_FilterOf_l5v ⊕ Oc f_impl_FilterOf_l5e) → Option R) : evC en53 su53 (loopAt 5 Tryz.f53) (Desc.mk2 f_impl_FilterOf_l5v v (Desc.mk2 f_impl_FilterOf_l5c c .empty)) (fun o => bodyK f_impl_FilterOf_l5c f_impl_FilterOf_l5v f_impl_FilterOf_l5e o kk) = f_impl_FilterOf_l5 R c v kk := by kernel_rfl
theorem f_impl_FilterOf_l5Ok {X : Cx} (hX : en53.lo = X.lo) : SubOk Tryz.prog X 40 ⟨f_impl_FilterOf_l5c, f_impl_FilterOf_l5v, f_impl_FilterOf_l5e, loopF f_impl_FilterOf_l5⟩ (.loop (loopAt 5 Tryz.f53)) :=
  sub_loop (subs := su53) ok53 rfl hX (GoodN.good (K := True) (Eq.mpr (show GoodN Tryz.prog X 40 en53 su53 (loopAt 5 Tryz.f53) True = (True) by kernel_rfl) trivial)).1 (by decide) (by decide) f_impl_FilterOf_l5Eq
theorem f_impl_FilterOfEq (x : Ps ins53) : evF en53 su53 Tryz.f53 ins53 res53 x = f_impl_FilterOf x := by kernel_rfl
theorem so53 : Sound Tryz.prog 53 sg53 :=
  sound_of (fn := Tryz.f53) (c := bodyOf Tryz.f53) (subs := su53) (E := en53) (by kernel_rfl) (by kernel_rfl) (by decide) ok53 (by kernel_rfl) (by kernel_rfl) (by decide)
    (fun X hX => (GoodN.good (K := True) (Eq.mpr (show GoodN Tryz.prog X 40 en53 su53 (bodyOf Tryz.f53) True = (SubOk Tryz.prog X 40 ⟨f_impl_FilterOf_l5c, f_impl_FilterOf_l5v, f_impl_FilterOf_l5e, loopF f_impl_FilterOf_l5⟩ (.loop (loopAt 5 Tryz.f53)) ∧ True) by kernel_rfl) ⟨(f_impl_FilterOf_l5Ok hX), trivial⟩)).1)
    (fun x r h => (f_impl_FilterOfEq x).trans h)
def fl56 : List (Nat × Sig) := [(52, sg52), (55, sg55), (57, sg57)]
def en56 : Env := { n := 12, ty := assocN tyL, fns := assocN fl56, lo := 0 }
def su56 : Bool → Nat → Option Sub | _, _ => none
theorem ok56 : EnvOk Tryz.prog en56 := envOk_of rfl rfl tyL_ok (⟨so52, ⟨so55, ⟨so57, trivial⟩⟩⟩)
theorem f_impl_frameEq (x : Ps ins56) : evF en56 su56 Tryz.f56 ins56 res56 x = f_impl_frame x := by kernel_rfl
theorem so56 : Sound Tryz.prog 56 sg56 :=
  sound_of (fn := Tryz.f56) (c := bodyOf Tryz.f56) (subs := su56) (E := en56) (by kernel_rfl) (by kernel_rfl) (by decide) ok56 (by kernel_rfl) (by kernel_rfl) (by decide)
    (fun X hX => (GoodN.good (K := True) (Eq.mpr (show GoodN Tryz.prog X 12 en56 su56 (bodyOf Tryz.f56) True = (True) by kernel_rfl) trivial)).1)
    (fun x r h => (f_impl_frameEq x).trans h)
def fl23v : List (Nat × Sig) := [(50, sg50), (51, sg51), (52, sg52), (53, sg53), (54, sg54), (55, sg55), (56, sg56), (57, sg57)]
def hi23v : List (Nat × (K × Mk)) := [(8, ((.sl kdItem), (.o .s))), (10, ((.sl (.int .i64)), (.o .s)))]
def dw23v : List (Nat × List (List Nat)) := [(13, [[4, 85], [], [], [88], [89], [4, 90], [4, 91], [4, 92], [93], [94], [], [96], [], [98], [99], [100], [2, 4], [3]])]
def en23v : Env := { n := 101, ty := assocN tyL, fns := assocN fl23v, lo := 0, hint := assocN hi23v, draw := drawOf dw23v, keep := fun n => [14].any (Nat.beq n) }
def su23v : Bool → Nat → Option Sub | true, 3 => some ⟨f_impl_build_v_l3c, f_impl_build_v_l3v, f_impl_build_v_l3e, loopF f_impl_build_v_l3⟩ | _, _ => none
theorem ok23v : EnvOk Tryz.prog en23v := envOk_of rfl rfl tyL_ok (⟨so50, ⟨so51, ⟨so52, ⟨so53, ⟨so54, ⟨so55, ⟨so56, ⟨so57, trivial⟩⟩⟩⟩⟩⟩⟩⟩)
theorem dr23vr9 {X : Cx} (hX : en23v.lo = X.lo) : RegOk Tryz.prog X 101 en23v 9 (regAt 9 Tryz.f23) := regOk_of ok23v rfl hX (by kernel_rfl) (by kernel_rfl)
theorem dr23vr13 {X : Cx} (hX : en23v.lo = X.lo) : RegOk Tryz.prog X 101 en23v 13 (regAt 13 Tryz.f23) := regOk_of ok23v rfl hX (by kernel_rfl) (by kernel_rfl)
theorem f_impl_build_v_l3Eq (R : Type) (c : Vars f_impl_build_v_l3c) (v : Vars f_impl_build_v_l3v) (kk : Vars f_impl_build_v_l3c → (Vars f_impl_build_v_l3v ⊕ Oc f_impl_build_v_l3e) → Option R) : evC en23v su23v (loopAt 3 Tryz.f23) (Desc.mk2 f_impl_build_v_l3v v (Desc.mk2 f_impl_build_v_l3c c .empty)) (fun o => bodyK f_impl_build_v_l3c f_impl_build_v_l3v f_impl_build_v_l3e o kk) = f_impl_build_v_l3 R c v kk := by kernel_rfl
theorem f_impl_build_v_l3Ok {X : Cx} (hX : en23v.lo = X.lo) : SubOk Tryz.prog X 101 ⟨f_impl_build_v_l3c, f_impl_build_v_l3v, f_impl_build_v_l3e, loopF f_impl_build_v_l3⟩ (.loop (loopAt 3 Tryz.f23)) :=
  sub_loop (subs := su23v) ok23v rfl hX (GoodN.good (K := True) (Eq.mpr (show GoodN Tryz.prog X 101 en23v su23v (loopAt 3 Tryz.f23) True = (RegOk Tryz.prog X 101 en23v 9 (regAt 9 Tryz.f23) ∧ True) by kernel_rfl) ⟨(dr23vr9 hX), trivial⟩)).1 (by decide) (by decide) f_impl_build_v_l3Eq
theorem f_impl_build_vEq (x : Ps ins23v) : evF en23v su23v Tryz.f23 ins23v res23v x = f_impl_build_v x := by kernel_rfl
theorem so23v : Sound Tryz.prog 23 sg23v :=
  sound_of (fn := Tryz.f23) (c := bodyOf Tryz.f23) (subs := su23v) (E := en23v) (by kernel_rfl) (by kernel_rfl) (by decide) ok23v (by kernel_rfl) (by kernel_rfl) (by decide)
    (fun X hX => (GoodN.good (K := True) (Eq.mpr (show GoodN Tryz.prog X 101 en23v su23v (bodyOf Tryz.f23) True = (SubOk Tryz.prog X 101 ⟨f_impl_build_v_l3c, f_impl_build_v_l3v, f_impl_build_v_l3e, loopF f_impl_build_v_l3⟩ (.loop (loopAt 3 Tryz.f23)) ∧ RegOk Tryz.prog X 101 en23v 13 (regAt 13 Tryz.f23) ∧ True) by kernel_rfl) ⟨(f_impl_build_v_l3Ok hX), (dr23vr13 hX), trivial⟩)).1)
    (fun x r h => (f_impl_build_vEq x).trans h)
def fl6 : List (Nat × Sig) := [(21, sg21), (22, sg22), (23, sg23v)]
def en6 : Env := { n := 21, ty := assocN tyL, fns := assocN fl6, lo := 0 }
def su6 : Bool → Nat → Option Sub | _, _ => none
theorem ok6 : EnvOk Tryz.prog en6 := envOk_of rfl rfl tyL_ok (⟨so21, ⟨so22, ⟨so23v, trivial⟩⟩⟩)
theorem f_impl_TableBytesEq (x : Ps ins6) : evF en6 su6 Tryz.f6 ins6 res6 x = f_impl_TableBytes x := by kernel_rfl
theorem so6 : Sound Tryz.prog 6 sg6 :=
  sound_of (fn := Tryz.f6) (c := bodyOf Tryz.f6) (subs := su6) (E := en6) (by kernel_rfl) (by kernel_rfl) (by decide) ok6 (by kernel_rfl) (by kernel_rfl) (by decide)
    (fun X hX => (GoodN.good (K := True) (Eq.mpr (show GoodN Tryz.prog X 21 en6 su6 (bodyOf Tryz.f6) True = (True) by kernel_rfl) trivial)).1)
    (fun x r h => (f_impl_TableBytesEq x).trans h)
def fl32 : List (Nat × Sig) := [(73, sg73), (74, sg74)]
def en32 : Env := { n := 30, ty := assocN tyL, fns := assocN fl32, lo := 0 }
def su32 : Bool → Nat → Option Sub | true, 2 => some ⟨f_spec_GoodRun_l2c, f_spec_GoodRun_l2v, f_spec_GoodRun_l2e, loopF f_spec_GoodRun_l2⟩ | _, _ => none
theorem ok32 : EnvOk Tryz.prog en32 := envOk_of rfl rfl tyL_ok (⟨so73, ⟨so74, trivial⟩⟩)
theorem dr32r4 {X : Cx} (hX : en32.lo = X.lo) : RegOk Tryz.prog X 30 en32 4 (regAt 4 Tryz.f32) := regOk_of ok32 rfl hX (by kernel_rfl) (by kernel_rfl)
theorem f_spec_GoodRun_l2Eq (R : Type) (c : Vars f_spec_GoodRun_l2c) (v : Vars f_spec_GoodRun_l2v) (kk : Vars f_spec_GoodRun_l2c → (Vars f_spec_GoodRun_l2v ⊕ Oc f_spec_GoodRun_l2e) → Option R) : evC en32 su32 (loopAt 2 Tryz.f32) (Desc.mk2 f_spec_GoodRun_l2v v (Desc.mk2 f_spec_GoodRun_l2c c .empty)) (fun o => bodyK f_spec_GoodRun_l2c f_spec_GoodRun_l2v f_spec_GoodRun_l2e o kk) = f_spec_GoodRun_l2 R c v kk := by kernel_rfl
theorem f_spec_GoodRun_l2Ok {X : Cx} (hX : en32.lo = X.lo) : SubOk Tryz.prog X 30 ⟨f_spec_GoodRun_l2c, f_spec_GoodRun_l2v, f_spec_GoodRun_l2e, loopF f_spec_GoodRun_l2⟩ (.loop (loopAt 2 Tryz.f32)) :=
  sub_loop (subs := su32) ok32 rfl hX (GoodN.good (K := True) (Eq.mpr (show GoodN Tryz.prog X 30 en32 su32 (loopAt 2 Tryz.f32) True = (RegOk Tryz.prog X 30 en32 4 (regAt 4 Tryz.f32) ∧ True) by kernel_rfl) ⟨(dr32r4 hX), trivial⟩)).1 (by decide) (by decide) f_spec_GoodRun_l2Eq
theorem f_spec_GoodRunEq (x : Ps ins32) : evF en32 su32 Tryz.f32 ins32 res32 x = f_spec_GoodRun x := by kernel_rfl
theorem so32 : Sound Tryz.prog 32 sg32 :=
  sound_of (fn := Tryz.f32) (c := bodyOf Tryz.f32) (subs := su32) (E := en32) (by kernel_rfl) (by kernel_rfl) (by decide) ok32 (by kernel_rfl) (by kernel_rfl) (by decide)
    (fun X hX => (GoodN.good (K := True) (Eq.mpr (show GoodN Tryz.prog X 30 en32 su32 (bodyOf Tryz.f32) True = (SubOk Tryz.prog X 30 ⟨f_spec_GoodRun_l2c, f_spec_GoodRun_l2v, f_spec_GoodRun_l2e, loopF f_spec_GoodRun_l2⟩ (.loop (loopAt 2 Tryz.f32)) ∧ True) by kernel_rfl) ⟨(f_spec_GoodRun_l2Ok hX), trivial⟩)).1)
    (fun x r h => (f_spec_GoodRunEq x).trans h)
def fl24 : List (Nat × Sig) := [(32, sg32), (58, sg58)]
def en24 : Env := { n := 10, ty := assocN tyL, fns := assocN fl24, lo := 0 }
def su24 : Bool → Nat → Option Sub | _, _ => none
theorem ok24 : EnvOk Tryz.prog en24 := envOk_of rfl rfl tyL_ok (⟨so32, ⟨so58, trivial⟩⟩)
theorem f_spec_l7GoodEq (x : Ps ins24) : evF en24 su24 Tryz.f24 ins24 res24 x = f_spec_l7Good x := by kernel_rfl
theorem so24 : Sound Tryz.prog 24 sg24 :=
  sound_of (fn := Tryz.f24) (c := bodyOf Tryz.f24) (subs := su24) (E := en24) (by kernel_rfl) (by kernel_rfl) (by decide) ok24 (by kernel_rfl) (by kernel_rfl) (by decide)
    (fun X hX => (GoodN.good (K := True) (Eq.mpr (show GoodN Tryz.prog X 10 en24 su24 (bodyOf Tryz.f24) True = (True) by kernel_rfl) trivial)).1)
    (fun x r h => (f_spec_l7GoodEq x).trans h)
def fl90 : List (Nat × Sig) := []
def en90 : Env := { n := 10, ty := assocN tyL, fns := assocN fl90, lo := 0 }
def su90 : Bool → Nat → Option Sub | _, _ => none
theorem ok90 : EnvOk Tryz.prog en90 := envOk_of rfl rfl tyL_ok (trivial)
theorem f_spec_l6TwoEq (x : Ps ins90) : evF en90 su90 Tryz.f90 ins90 res90 x = f_spec_l6Two x := by kernel_rfl
theorem so90 : Sound Tryz.prog 90 sg90 :=
  sound_of (fn := Tryz.f90) (c := bodyOf Tryz.f90) (subs := su90) (E := en90) (by kernel_rfl) (by kernel_rfl) (by decide) ok90 (by kernel_rfl) (by kernel_rfl) (by decide)
    (fun X hX => (GoodN.good (K := True) (Eq.mpr (show GoodN Tryz.prog X 10 en90 su90 (bodyOf Tryz.f90) True = (True) by kernel_rfl) trivial)).1)
    (fun x r h => (f_spec_l6TwoEq x).trans h)
def fl91 : List (Nat × Sig) := []
def en91 : Env := { n := 28, ty := assocN tyL, fns := assocN fl91, lo := 0 }
def su91 : Bool → Nat → Option Sub | true, 2 => some ⟨f_spec_CommonOf_l2c, f_spec_CommonOf_l2v, f_spec_CommonOf_l2e, loopF f_spec_CommonOf_l2⟩ | _, _ => none
theorem ok91 : EnvOk Tryz.prog en91 := envOk_of rfl rfl tyL_ok (trivial)
theorem dr91r2 {X : Cx} (hX : en91.lo = X.lo) : RegOk Tryz.prog X 28 en91 2 (regAt 2 Tryz.f91) := regOk_of ok91 rfl hX (by kernel_rfl) (by kernel_rfl)
theorem f_spec_CommonOf_l2Eq (R : Type) (c : Vars f_spec_CommonOf_l2c) (v : Vars f_spec_CommonOf_l2v) (kk : Vars f_spec_CommonOf_l2c → (Vars f_spec_CommonOf_l2v ⊕ Oc f_spec_CommonOf_l2e) → Option R) : evC en91 su91 (loopAt 2 Tryz.f91) (Desc.mk2 f_spec_CommonOf_l2v v (Desc.mk2 f_spec_CommonOf_l2c c .empty)) (fun o => bodyK f_spec_CommonOf_l2c f_spec_CommonOf_l2v f_spec_CommonOf_l2e o kk) = f_spec_CommonOf_l2 R c v kk := by kernel_rfl
theorem f_spec_CommonOf_l2Ok {X : Cx} (hX : en91.lo = X.lo) : SubOk Tryz.prog X 28 ⟨f_spec_CommonOf_l2c, f_spec_CommonOf_l2v, f_spec_CommonOf_l2e, loopF f_spec_CommonOf_l2⟩ (.loop (loopAt 2 Tryz.f91)) :=
  sub_loop (subs := su91) ok91 rfl hX (GoodN.good (K := True) (Eq.mpr (show GoodN Tryz.prog X 28 en91 su91 (loopAt 2 Tryz.f91) True = (RegOk Tryz.prog X 28 en91 2 (regAt 2 Tryz.f91) ∧ True) by kernel_rfl) ⟨(dr91r2 hX), trivial⟩)).1 (by decide) (by decide) f_spec_CommonOf_l2Eq
theorem f_spec_CommonOfEq (x : Ps ins91) : evF en91 su91 Tryz.f91 ins91 res91 x = f_spec_CommonOf x := by kernel_rfl
theorem so91 : Sound Tryz.prog 91 sg91 :=
  sound_of (fn := Tryz.f91) (c := bodyOf Tryz.f91) (subs := su91) (E := en91) (by kernel_rfl) (by kernel_rfl) (by decide) ok91 (by kernel_rfl) (by kernel_rfl) (by decide)
    (fun X hX => (GoodN.good (K := True) (Eq.mpr (show GoodN Tryz.prog X 28 en91 su91 (bodyOf Tryz.f91) True = (SubOk Tryz.prog X 28 ⟨f_spec_CommonOf_l2c, f_spec_CommonOf_l2v, f_spec_CommonOf_l2e, loopF f_spec_CommonOf_l2⟩ (.loop (loopAt 2 Tryz.f91)) ∧ True) by kernel_rfl) ⟨(f_spec_CommonOf_l2Ok hX), trivial⟩)).1)
    (fun x r h => (f_spec_CommonOfEq x).trans h)
def fl60 : List (Nat × Sig) := []
def hi60 : List (Nat × (K × Mk)) := [(3, ((.sl (.int .u8)), (.o .s)))]
def en60 : Env := { n := 21, ty := assocN tyL, fns := assocN fl60, lo := 0, hint := assocN hi60 }
def su60 : Bool → Nat → Option Sub | true, 2 => some ⟨f_spec_l2Var_l2c, f_spec_l2Var_l2v, f_spec_l2Var_l2e, loopF f_spec_l2Var_l2⟩ | _, _ => none
theorem ok60 : EnvOk Tryz.prog en60 := envOk_of rfl rfl tyL_ok (trivial)
theorem f_spec_l2Var_l2Eq (R : Type) (c : Vars f_spec_l2Var_l2c) (v : Vars f_spec_l2Var_l2v) (kk : Vars f_spec_l2Var_l2c → (Vars f_spec_l2Var_l2v ⊕ Oc f_spec_l2Var_l2e) → Option R) : evC en60 su60 (loopAt 2 Tryz.f60) (Desc.mk2 f_spec_l2Var_l2v v (Desc.mk2 f_spec_l2Var_l2c c .empty)) (fun o => bodyK f_spec_l2Var_l2c f_spec_l2Var_l2v f_spec_l2Var_l2e o kk) = f_spec_l2Var_l2 R c v kk := by kernel_rfl
theorem f_spec_l2Var_l2Ok {X : Cx} (hX : en60.lo = X.lo) : SubOk Tryz.prog X 21 ⟨f_spec_l2Var_l2c, f_spec_l2Var_l2v, f_spec_l2Var_l2e, loopF f_spec_l2Var_l2⟩ (.loop (loopAt 2 Tryz.f60)) :=
  sub_loop (subs := su60) ok60 rfl hX (GoodN.good (K := True) (Eq.mpr (show GoodN Tryz.prog X 21 en60 su60 (loopAt 2 Tryz.f60) True = (True) by kernel_rfl) trivial)).1 (by decide) (by decide) f_spec_l2Var_l2Eq
theorem f_spec_l2VarEq (x : Ps ins60) : evF en60 su60 Tryz.f60 ins60 res60 x = f_spec_l2Var x := by kernel_rfl
theorem so60 : Sound Tryz.prog 60 sg60 :=
  sound_of (fn := Tryz.f60) (c := bodyOf Tryz.f60) (subs := su60) (E := en60) (by kernel_rfl) (by kernel_rfl) (by decide) ok60 (by kernel_rfl) (by kernel_rfl) (by decide)
    (fun X hX => (GoodN.good (K := True) (Eq.mpr (show GoodN Tryz.prog X 21 en60 su60 (bodyOf Tryz.f60) True = (SubOk Tryz.prog X 21 ⟨f_spec_l2Var_l2c, f_spec_l2Var_l2v, f_spec_l2Var_l2e, loopF f_spec_l2Var_l2⟩ (.loop (loopAt 2 Tryz.f60)) ∧ True) by kernel_rfl) ⟨(f_spec_l2Var_l2Ok hX), trivial⟩)).1)
    (fun x r h => (f_spec_l2VarEq x).trans h)
def fl95 : List (Nat × Sig) := []
def hi95 : List (Nat × (K × Mk)) := [(0, ((.sl (.int .u32)), (.o .s))), (1, ((.sl (.int .u32)), (.o .s)))]
def en95 : Env := { n := 32, ty := assocN tyL, fns := assocN fl95, lo := 0, hint := assocN hi95 }
def su95 : Bool → Nat → Option Sub | false, 12 => some ⟨f_spec_l2Table_i12c, f_spec_l2Table_i12v, f_spec_l2Table_i12e, f_spec_l2Table_i12⟩ | true, 7 => some ⟨f_spec_l2Table_l7c, f_spec_l2Table_l7v, f_spec_l2Table_l7e, loopF f_spec_l2Table_l7⟩ | true, 3 => some ⟨f_spec_l2Table_l3c, f_spec_l2Table_l3v, f_spec_l2Table_l3e, loopF f_spec_l2Table_l3⟩ | _, _ => none
theorem ok95 : EnvOk Tryz.prog en95 := envOk_of rfl rfl tyL_ok (trivial)
def su95i12 : Bool → Nat → Option Sub | true, 7 => some ⟨f_spec_l2Table_l7c, f_spec_l2Table_l7v, f_spec_l2Table_l7e, loopF f_spec_l2Table_l7⟩ | true, 3 => some ⟨f_spec_l2Table_l3c, f_spec_l2Table_l3v, f_spec_l2Table_l3e, loopF f_spec_l2Table_l3⟩ | _, _ => none
theorem f_spec_l2Table_i12Eq (R : Type) (c : Vars f_spec_l2Table_i12c) (v : Vars f_spec_l2Table_i12v) (kk : Vars f_spec_l2Table_i12c → Oc f_spec_l2Table_i12e → Option R) : evC en95 su95i12 (ifAt 12 Tryz.f95) (Desc.mk2 f_spec_l2Table_i12v v (Desc.mk2 f_spec_l2Table_i12c c .empty)) (fun o => chk f_spec_l2Table_i12c f_spec_l2Table_i12e o kk) = f_spec_l2Table_i12 R c v kk := by kernel_rfl
theorem f_spec_l2Table_i12Ok {X : Cx} (hX : en95.lo = X.lo) : SubOk Tryz.prog X 32 ⟨f_spec_l2Table_i12c, f_spec_l2Table_i12v, f_spec_l2Table_i12e, f_spec_l2Table_i12⟩ (ifAt 12 Tryz.f95) :=
  sub_if (u := ⟨f_spec_l2Table_i12c, f_spec_l2Table_i12v, f_spec_l2Table_i12e, f_spec_l2Table_i12⟩) (subs := su95i12) ok95 rfl hX (GoodN.good (K := True) (Eq.mpr (show GoodN Tryz.prog X 32 en95 su95i12 (ifAt 12 Tryz.f95) True = (True) by kernel_rfl) trivial)).1 (by decide) (by decide) f_spec_l2Table_i12Eq
theorem f_spec_l2Table_l7Eq (R : Type) (c : Vars f_spec_l2Table_l7c) (v : Vars f_spec_l2Table_l7v) (kk : Vars f_spec_l2Table_l7c → (Vars f_spec_l2Table_l7v ⊕ Oc f_spec_l2Table_l7e) → Option R) : evC en95 su95 (loopAt 7 Tryz.f95) (Desc.mk2 f_spec_l2Table_l7v v (Desc.mk2 f_spec_l2Table_l7c c .empty)) (fun o => bodyK f_spec_l2Table_l7c f_spec_l2Table_l7v f_spec_l2Table_l7e o kk) = f_spec_l2Table_l7 R c v kk := by kernel_rfl
theorem f_spec_l2Table_l7Ok {X : Cx} (hX : en95.lo = X.lo) : SubOk Tryz.prog X 32 ⟨f_spec_l2Table_l7c, f_spec_l2Table_l7v, f_spec_l2Table_l7e, loopF f_spec_l2Table_l7⟩ (.loop (loopAt 7 Tryz.f95)) :=
  sub_loop (subs := su95) ok95 rfl hX (GoodN.good (K := True) (Eq.mpr (show GoodN Tryz.prog X 32 en95 su95 (loopAt 7 Tryz.f95) True = (SubOk Tryz.prog X 32 ⟨f_spec_l2Table_i12c, f_spec_l2Table_i12v, f_spec_l2Table_i12e, f_spec_l2Table_i12⟩ (ifAt 12 Tryz.f95) ∧ True) by kernel_rfl) ⟨(f_spec_l2Table_i12Ok hX), trivial⟩)).1 (by decide) (by decide) f_spec_l2Table_l7Eq
theorem f_spec_l2Table_l3Eq (R : Type) (c : Vars f_spec_l2Table_l3c) (v : Vars f_spec_l2Table_l3v) (kk : Vars f_spec_l2Table_l3c → (Vars f_spec_l2Table_l3v ⊕ Oc f_spec_l2Table_l3e) → Option R) : evC en95 su95 (loopAt 3 Tryz.f95) (Desc.mk2 f_spec_l2Table_l3v v (Desc.mk2 f_spec_l2Table_l3c c .empty)) (fun o => bodyK f_spec_l2Table_l3c f_spec_l2Table_l3v f_spec_l2Table_l3e o kk) = f_spec_l2Table_l3 R c v kk := by kernel_rfl
theorem f_spec_l2Table_l3Ok {X : Cx} (hX : en95.lo = X.lo) : SubOk Tryz.prog X 32 ⟨f_spec_l2Table_l3c, f_spec_l2Table_l3v, f_spec_l2Table_l3e, loopF f_spec_l2Table_l3⟩ (.loop (loopAt 3 Tryz.f95)) :=
  sub_loop (subs := su95) ok95 rfl hX (GoodN.good (K := True) (Eq.mpr (show GoodN Tryz.prog X 32 en95 su95 (loopAt 3 Tryz.f95) True = (SubOk Tryz.prog X 32 ⟨f_spec_l2Table_l7c, f_spec_l2Table_l7v, f_spec_l2Table_l7e, loopF f_spec_l2Table_l7⟩ (.loop (loopAt 7 Tryz.f95)) ∧ True) by kernel_rfl) ⟨(f_spec_l2Table_l7Ok hX), trivial⟩)).1 (by decide) (by decide) f_spec_l2Table_l3Eq
theorem f_spec_l2TableEq (x : Ps ins95) : evF en95 su95 Tryz.f95 ins95 res95 x = f_spec_l2Table x := by kernel_rfl
theorem so95 : Sound Tryz.prog 95 sg95 :=
  sound_of (fn := Tryz.f95) (c := bodyOf Tryz.f95) (subs := su95) (E := en95) (by kernel_rfl) (by kernel_rfl) (by decide) ok95 (by kernel_rfl) (by kernel_rfl) (by decide)
    (fun X hX => (GoodN.good (K := True) (Eq.mpr (show GoodN Tryz.prog X 32 en95 su95 (bodyOf Tryz.f95) True = (SubOk Tryz.prog X 32 ⟨f_spec_l2Table_l3c, f_spec_l2Table_l3v, f_spec_l2Table_l3e, loopF f_spec_l2Table_l3⟩ (.loop (loopAt 3 Tryz.f95)) ∧ True) by kernel_rfl) ⟨(f_spec_l2Table_l3Ok hX), trivial⟩)).1)
    (fun x r h => (f_spec_l2TableEq x).trans h)
def fl94 : List (Nat × Sig) := []
def en94 : Env := { n := 27, ty := assocN tyL, fns := assocN fl94, lo := 0 }
def su94 : Bool → Nat → Option Sub | true, 2 => some ⟨f_spec_l2On_l2c, f_spec_l2On_l2v, f_spec_l2On_l2e, loopF f_spec_l2On_l2⟩ | _, _ => none
theorem ok94 : EnvOk Tryz.prog en94 := envOk_of rfl rfl tyL_ok (trivial)
theorem f_spec_l2On_l2Eq (R : Type) (c : Vars f_spec_l2On_l2c) (v : Vars f_spec_l2On_l2v) (kk : Vars f_spec_l2On_l2c → (Vars f_spec_l2On_l2v ⊕ Oc f_spec_l2On_l2e) → Option R) : evC en94 su94 (loopAt 2 Tryz.f94) (Desc.mk2 f_spec_l2On_l2v v (Desc.mk2 f_spec_l2On_l2c c .empty)) (fun o => bodyK f_spec_l2On_l2c f_spec_l2On_l2v f_spec_l2On_l2e o kk) = f_spec_l2On_l2 R c v kk := by kernel_rfl
theorem f_spec_l2On_l2Ok {X : Cx} (hX : en94.lo = X.lo) : SubOk Tryz.prog X 27 ⟨f_spec_l2On_l2c, f_spec_l2On_l2v, f_spec_l2On_l2e, loopF f_spec_l2On_l2⟩ (.loop (loopAt 2 Tryz.f94)) :=
  sub_loop (subs := su94) ok94 rfl hX (GoodN.good (K := True) (Eq.mpr (show GoodN Tryz.prog X 27 en94 su94 (loopAt 2 Tryz.f94) True = (True) by kernel_rfl) trivial)).1 (by decide) (by decide) f_spec_l2On_l2Eq
theorem f_spec_l2OnEq (x : Ps ins94) : evF en94 su94 Tryz.f94 ins94 res94 x = f_spec_l2On x := by kernel_rfl
theorem so94 : Sound Tryz.prog 94 sg94 :=
  sound_of (fn := Tryz.f94) (c := bodyOf Tryz.f94) (subs := su94) (E := en94) (by kernel_rfl) (by kernel_rfl) (by decide) ok94 (by kernel_rfl) (by kernel_rfl) (by decide)
    (fun X hX => (GoodN.good (K := True) (Eq.mpr (show GoodN Tryz.prog X 27 en94 su94 (bodyOf Tryz.f94) True = (SubOk Tryz.prog X 27 ⟨f_spec_l2On_l2c, f_spec_l2On_l2v, f_spec_l2On_l2e, loopF f_spec_l2On_l2⟩ (.loop (loopAt 2 Tryz.f94)) ∧ True) by kernel_rfl) ⟨(f_spec_l2On_l2Ok hX), trivial⟩)).1)
    (fun x r h => (f_spec_l2OnEq x).trans h)
def fl66 : List (Nat × Sig) := [(94, sg94), (95, sg95)]
def en66 : Env := { n := 7, ty := assocN tyL, fns := assocN fl66, lo := 0 }
def su66 : Bool → Nat → Option Sub | _, _ => none
theorem ok66 : EnvOk Tryz.prog en66 := envOk_of rfl rfl tyL_ok (⟨so94, ⟨so95, trivial⟩⟩)
theorem f_spec_l2SumEq (x : Ps ins66) : evF en66 su66 Tryz.f66 ins66 res66 x = f_spec_l2Sum x := by kernel_rfl
theorem so66 : Sound Tryz.prog 66 sg66 :=
  sound_of (fn := Tryz.f66) (c := bodyOf Tryz.f66) (subs := su66) (E := en66) (by kernel_rfl) (by kernel_rfl) (by decide) ok66 (by kernel_rfl) (by kernel_rfl) (by decide)
    (fun X hX => (GoodN.good (K := True) (Eq.mpr (show GoodN Tryz.prog X 7 en66 su66 (bodyOf Tryz.f66) True = (True) by kernel_rfl) trivial)).1)
    (fun x r h => (f_spec_l2SumEq x).trans h)
def fl65 : List (Nat × Sig) := []
def en65 : Env := { n := 16, ty := assocN tyL, fns := assocN fl65, lo := 0 }
def su65 : Bool → Nat → Option Sub | _, _ => none
theorem ok65 : EnvOk Tryz.prog en65 := envOk_of rfl rfl tyL_ok (trivial)
theorem f_spec_l2WordEq (x : Ps ins65) : evF en65 su65 Tryz.f65 ins65 res65 x = f_spec_l2Word x := by kernel_rfl
theorem so65 : Sound Tryz.prog 65 sg65 :=
  sound_of (fn := Tryz.f65) (c := bodyOf Tryz.f65) (subs := su65) (E := en65) (by kernel_rfl) (by kernel_rfl) (by decide) ok65 (by kernel_rfl) (by kernel_rfl) (by decide)
    (fun X hX => (GoodN.good (K := True) (Eq.mpr (show GoodN Tryz.prog X 16 en65 su65 (bodyOf Tryz.f65) True = (True) by kernel_rfl) trivial)).1)
    (fun x r h => (f_spec_l2WordEq x).trans h)
def fl59 : List (Nat × Sig) := [(60, sg60), (65, sg65), (66, sg66), (90, sg90), (91, sg91)]
def en59 : Env := { n := 78, ty := assocN tyL, fns := assocN fl59, lo := 0 }
def su59 : Bool → Nat → Option Sub | false, 8 => some ⟨f_spec_l6Block_i8c, f_spec_l6Block_i8v, f_spec_l6Block_i8e, f_spec_l6Block_i8⟩ | true, 4 => some ⟨f_spec_l6Block_l4c, f_spec_l6Block_l4v, f_spec_l6Block_l4e, loopF f_spec_l6Block_l4⟩ | _, _ => none
theorem ok59 : EnvOk Tryz.prog en59 := envOk_of rfl rfl tyL_ok (⟨so60, ⟨so65, ⟨so66, ⟨so90, ⟨so91, trivial⟩⟩⟩⟩⟩)
theorem dr59r9 {X : Cx} (hX : en59.lo = X.lo) : RegOk Tryz.prog X 78 en59 9 (regAt 9 Tryz.f59) := regOk_of ok59 rfl hX (by kernel_rfl) (by kernel_rfl)
theorem dr59r10 {X : Cx} (hX : en59.lo = X.lo) : RegOk Tryz.prog X 78 en59 10 (regAt 10 Tryz.f59) := regOk_of ok59 rfl hX (by kernel_rfl) (by kernel_rfl)
def su59i8 : Bool → Nat → Option Sub | true, 4 => some ⟨f_spec_l6Block_l4c, f_spec_l6Block_l4v, f_spec_l6Block_l4e, loopF f_spec_l6Block_l4⟩ | _, _ => none
theorem f_spec_l6Block_i8Eq (R : Type) (c : Vars f_spec_l6Block_i8c) (v : Vars f_spec_l6Block_i8v) (kk : Vars f_spec_l6Block_i8c → Oc f_spec_l6Block_i8e → Option R) : evC en59 su59i8 (ifAt 8 Tryz.f59) (Desc.mk2 f_spec_l6Block_i8v v (Desc.mk2 f_spec_l6Block_i8c c .empty)) (fun o => chk f_spec_l6Block_i8c f_spec_l6Block_i8e o kk) = f_spec_l6Block_i8 R c v kk := by kernel_rfl
theorem f_spec_l6Block_i8Ok {X : Cx} (hX : en59.lo = X.lo) : SubOk Tryz.prog X 78 ⟨f_spec_l6Block_i8c, f_spec_l6Block_i8v, f_spec_l6Block_i8e, f_spec_l6Block_i8⟩ (ifAt 8 Tryz.f59) :=
  sub_if (u := ⟨f_spec_l6Block_i8c, f_spec_l6Block_i8v, f_spec_l6Block_i8e, f_spec_l6Block_i8⟩) (subs := su59i8) ok59 rfl hX (GoodN.good (K := True) (Eq.mpr (show GoodN Tryz.prog X 78 en59 su59i8 (ifAt 8 Tryz.f59) True = (RegOk Tryz.prog X 78 en59 9 (regAt 9 Tryz.f59) ∧ True) by kernel_rfl) ⟨(dr59r9 hX), trivial⟩)).1 (by decide) (by decide) f_spec_l6Block_i8Eq
theorem f_spec_l6Block_l4Eq (R : Type) (c : Vars f_spec_l6Block_l4c) (v : Vars f_spec_l6Block_l4v) (kk : Vars f_spec_l6Block_l4c → (Vars f_spec_l6Block_l4v ⊕ Oc f_spec_l6Block_l4e) → Option R) : evC en59 su59 (loopAt 4 Tryz.f59) (Desc.mk2 f_spec_l6Block_l4v v (Desc.mk2 f_spec_l6Block_l4c c .empty)) (fun o => bodyK f_spec_l6Block_l4c f_spec_l6Block_l4v f_spec_l6Block_l4e o kk) = f_spec_l6Block_l4 R c v kk := by kernel_rfl
theorem f_spec_l6Block_l4Ok {X : Cx} (hX : en59.lo = X.lo) : SubOk Tryz.prog X 78 ⟨f_spec_l6Block_l4c, f_spec_l6Block_l4v, f_spec_l6Block_l4e, loopF f_spec_l6Block_l4⟩ (.loop (loopAt 4 Tryz.f59)) :=
  sub_loop (subs := su59) ok59 rfl hX (GoodN.good (K := True) (Eq.mpr (show GoodN Tryz.prog X 78 en59 su59 (loopAt 4 Tryz.f59) True = (SubOk Tryz.prog X 78 ⟨f_spec_l6Block_i8c, f_spec_l6Block_i8v, f_spec_l6Block_i8e, f_spec_l6Block_i8⟩ (ifAt 8 Tryz.f59) ∧ RegOk Tryz.prog X 78 en59 10 (regAt 10 Tryz.f59) ∧ True) by kernel_rfl) ⟨(f_spec_l6Block_i8Ok hX), (dr59r10 hX), trivial⟩)).1 (by decide) (by decide) f_spec_l6Block_l4Eq
theorem f_spec_l6BlockEq (x : Ps ins59) : evF en59 su59 Tryz.f59 ins59 res59 x = f_spec_l6Block x := by kernel_rfl
theorem so59 : Sound Tryz.prog 59 sg59 :=
  sound_of (fn := Tryz.f59) (c := bodyOf Tryz.f59) (subs := su59) (E := en59) (by kernel_rfl) (by kernel_rfl) (by decide) ok59 (by kernel_rfl) (by kernel_rfl) (by decide)
    (fun X hX => (GoodN.good (K := True) (Eq.mpr (show GoodN Tryz.prog X 78 en59 su59 (bodyOf Tryz.f59) True = (SubOk Tryz.prog X 78 ⟨f_spec_l6Block_l4c, f_spec_l6Block_l4v, f_spec_l6Block_l4e, loopF f_spec_l6Block_l4⟩ (.loop (loopAt 4 Tryz.f59)) ∧ True) by kernel_rfl) ⟨(f_spec_l6Block_l4Ok hX), trivial⟩)).1)
    (fun x r h => (f_spec_l6BlockEq x).trans h)
def fl62 : List (Nat × Sig) := []
def hi62 : List (Nat × (K × Mk)) := [(2, ((.sl .str), (.o .s))), (3, ((.sl .str), (.o .s)))]
def en62 : Env := { n := 33, ty := assocN tyL, fns := assocN fl62, lo := 0, hint := assocN hi62 }
def su62 : Bool → Nat → Option Sub | false, 6 => some ⟨f_spec_l7Keys_i6c, f_spec_l7Keys_i6v, f_spec_l7Keys_i6e, f_spec_l7Keys_i6⟩ | true, 3 => some ⟨f_spec_l7Keys_l3c, f_spec_l7Keys_l3v, f_spec_l7Keys_l3e, loopF f_spec_l7Keys_l3⟩ | _, _ => none
theorem ok62 : EnvOk Tryz.prog en62 := envOk_of rfl rfl tyL_ok (trivial)
theorem dr62r5 {X : Cx} (hX : en62.lo = X.lo) : RegOk Tryz.prog X 33 en62 5 (regAt 5 Tryz.f62) := regOk_of ok62 rfl hX (by kernel_rfl) (by kernel_rfl)
def su62i6 : Bool → Nat → Option Sub | true, 3 => some ⟨f_spec_l7Keys_l3c, f_spec_l7Keys_l3v, f_spec_l7Keys_l3e, loopF f_spec_l7Keys_l3⟩ | _, _ => none
theorem f_spec_l7Keys_i6Eq (R : Type) (c : Vars f_spec_l7Keys_i6c) (v : Vars f_spec_l7Keys_i6v) (kk : Vars f_spec_l7Keys_i6c → Oc f_spec_l7Keys_i6e → Option R) : evC en62 su62i6 (ifAt 6 Tryz.f62) (Desc.mk2 f_spec_l7Keys_i6v v (Desc.mk2 f_spec_l7Keys_i6c c .empty)) (fun o => chk f_spec_l7Keys_i6c f_spec_l7Keys_i6e o kk) = f_spec_l7Keys_i6 R c v kk := by kernel_rfl
theorem f_spec_l7Keys_i6Ok {X : Cx} (hX : en62.lo = X.lo) : SubOk Tryz.prog X 33 ⟨f_spec_l7Keys_i6c, f_spec_l7Keys_i6v, f_spec_l7Keys_i6e, f_spec_l7Keys_i6⟩ (ifAt 6 Tryz.f62) :=
  sub_if (u := ⟨f_spec_l7Keys_i6c, f_spec_l7Keys_i6v, f_spec_l7Keys_i6e, f_spec_l7Keys_i6⟩) (subs := su62i6) ok62 rfl hX (GoodN.good (K := True) (Eq.mpr (show GoodN Tryz.prog X 33 en62 su62i6 (ifAt 6 Tryz.f62) True = (True) by kernel_rfl) trivial)).1 (by decide) (by decide) f_spec_l7Keys_i6Eq
theorem f_spec_l7Keys_l3Eq (R : Type) (c : Vars f_spec_l7Keys_l3c) (v : Vars f_spec_l7Keys_l3v) (kk : Vars f_spec_l7Keys_l3c → (Vars f_spec_l7Keys_l3v ⊕ Oc f_spec_l7Keys_l3e) → Option R) : evC en62 su62 (loopAt 3 Tryz.f62) (Desc.mk2 f_spec_l7Keys_l3v v (Desc.mk2 f_spec_l7Keys_l3c c .empty)) (fun o => bodyK f_spec_l7Keys_l3c f_spec_l7Keys_l3v f_spec_l7Keys_l3e o kk) = f_spec_l7Keys_l3 R c v kk := by kernel_rfl
theorem f_spec_l7Keys_l3Ok {X : Cx} (hX : en62.lo = X.lo) : SubOk Tryz.prog X 33 ⟨f_spec_l7Keys_l3c, f_spec_l7Keys_l3v, f_spec_l7Keys_l3e, loopF f_spec_l7Keys_l3⟩ (.loop (loopAt 3 Tryz.f62)) :=
  sub_loop (subs := su62) ok62 rfl hX (GoodN.good (K := True) (Eq.mpr (show GoodN Tryz.prog X 33 en62 su62 (loopAt 3 Tryz.f62) True = (RegOk Tryz.prog X 33 en62 5 (regAt 5 Tryz.f62) ∧ SubOk Tryz.prog X 33 ⟨f_spec_l7Keys_i6c, f_spec_l7Keys_i6v, f_spec_l7Keys_i6e, f_spec_l7Keys_i6⟩ (ifAt 6 Tryz.f62) ∧ True) by kernel_rfl) ⟨(dr62r5 hX), (f_spec_l7Keys_i6Ok hX), trivial⟩)).1 (by decide) (by decide) f_spec_l7Keys_l3Eq
theorem f_spec_l7KeysEq (x : Ps ins62) : evF en62 su62 Tryz.f62 ins62 res62 x = f_spec_l7Keys x := by kernel_rfl
theorem so62 : Sound Tryz.prog 62 sg62 :=
  sound_of (fn := Tryz.f62) (c := bodyOf Tryz.f62) (subs := su62) (E := en62) (by kernel_rfl) (by kernel_rfl) (by decide) ok62 (by kernel_rfl) (by kernel_rfl) (by decide)
    (fun X hX => (GoodN.good (K := True) (Eq.mpr (show GoodN Tryz.prog X 33 en62 su62 (bodyOf Tryz.f62) True = (SubOk Tryz.prog X 33 ⟨f_spec_l7Keys_l3c, f_spec_l7Keys_l3v, f_spec_l7Keys_l3e, loopF f_spec_l7Keys_l3⟩ (.loop (loopAt 3 Tryz.f62)) ∧ True) by kernel_rfl) ⟨(f_spec_l7Keys_l3Ok hX), trivial⟩)).1)
    (fun x r h => (f_spec_l7KeysEq x).trans h)
def fl109 : List (Nat × Sig) := [(58, sg58)]
def en109 : Env := { n := 5, ty := assocN tyL, fns := assocN fl109, lo := 0 }
def su109 : Bool → Nat → Option Sub | _, _ => none
theorem ok109 : EnvOk Tryz.prog en109 := envOk_of rfl rfl tyL_ok (⟨so58, trivial⟩)
theorem f_spec_l5HashesEq (x : Ps ins109) : evF en109 su109 Tryz.f109 ins109 res109 x = f_spec_l5Hashes x := by kernel_rfl
theorem so109 : Sound Tryz.prog 109 sg109 :=
  sound_of (fn := Tryz.f109) (c := bodyOf Tryz.f109) (subs := su109) (E := en109) (by kernel_rfl) (by kernel_rfl) (by decide) ok109 (by kernel_rfl) (by kernel_rfl) (by decide)
    (fun X hX => (GoodN.good (K := True) (Eq.mpr (show GoodN Tryz.prog X 5 en109 su109 (bodyOf Tryz.f109) True = (True) by kernel_rfl) trivial)).1)
    (fun x r h => (f_spec_l5HashesEq x).trans h)
def fl92 : List (Nat × Sig) := [(109, sg109)]
def en92 : Env := { n := 12, ty := assocN tyL, fns := assocN fl92, lo := 0 }
def su92 : Bool → Nat → Option Sub | _, _ => none
theorem ok92 : EnvOk Tryz.prog en92 := envOk_of rfl rfl tyL_ok (⟨so109, trivial⟩)
theorem f_spec_NewFilterEq (x : Ps ins92) : evF en92 su92 Tryz.f92 ins92 res92 x = f_spec_NewFilter x := by kernel_rfl
theorem so92 : Sound Tryz.prog 92 sg92 :=
  sound_of (fn := Tryz.f92) (c := bodyOf Tryz.f92) (subs := su92) (E := en92) (by kernel_rfl) (by kernel_rfl) (by decide) ok92 (by kernel_rfl) (by kernel_rfl) (by decide)
    (fun X hX => (GoodN.good (K := True) (Eq.mpr (show GoodN Tryz.prog X 12 en92 su92 (bodyOf Tryz.f92) True = (True) by kernel_rfl) trivial)).1)
    (fun x r h => (f_spec_NewFilterEq x).trans h)
def fl110 : List (Nat × Sig) := [(94, sg94), (95, sg95)]
def hi110 : List (Nat × (K × Mk)) := [(4, ((.sl (.int .i64)), (.o .s))), (5, ((.sl (.int .u32)), (.o .s))), (8, ((.sl (.int .i64)), (.o .s)))]
def en110 : Env := { n := 34, ty := assocN tyL, fns := assocN fl110, lo := 0, hint := assocN hi110 }
def su110 : Bool → Nat → Option Sub | true, 6 => some ⟨f_spec_l5Places_l6c, f_spec_l5Places_l6v, f_spec_l5Places_l6e, loopF f_spec_l5Places_l6⟩ | _, _ => none
theorem ok110 : EnvOk Tryz.prog en110 := envOk_of rfl rfl tyL_ok (⟨so94, ⟨so95, trivial⟩⟩)
theorem f_spec_l5Places_l6Eq (R : Type) (c : Vars f_spec_l5Places_l6c) (v : Vars f_spec_l5Places_l6v) (kk : Vars f_spec_l5Places_l6c → (Vars f_spec_l5Places_l6v ⊕ Oc f_spec_l5Places_l6e) → Option R) : evC en110 su110 (loopAt 6 Tryz.f110) (Desc.mk2 f_spec_l5Places_l6v v (Desc.mk2 f_spec_l5Places_l6c c .empty)) (fun o => bodyK f_spec_l5Places_l6c f_spec_l5Places_l6v f_spec_l5Places_l6e o kk) = f_spec_l5Places_l6 R c v kk := by kernel_rfl
theorem f_spec_l5Places_l6Ok {X : Cx} (hX : en110.lo = X.lo) : SubOk Tryz.prog X 34 ⟨f_spec_l5Places_l6c, f_spec_l5Places_l6v, f_spec_l5Places_l6e, loopF f_spec_l5Places_l6⟩ (.loop (loopAt 6 Tryz.f110)) :=
  sub_loop (subs := su110) ok110 rfl hX (GoodN.good (K := True) (Eq.mpr (show GoodN Tryz.prog X 34 en110 su110 (loopAt 6 Tryz.f110) True = (True) by kernel_rfl) trivial)).1 (by decide) (by decide) f_spec_l5Places_l6Eq
theorem f_spec_l5PlacesEq (x : Ps ins110) : evF en110 su110 Tryz.f110 ins110 res110 x = f_spec_l5Places x := by kernel_rfl
theorem so110 : Sound Tryz.prog 110 sg110 :=
  sound_of (fn := Tryz.f110) (c := bodyOf Tryz.f110) (subs := su110) (E := en110) (by kernel_rfl) (by kernel_rfl) (by decide) ok110 (by kernel_rfl) (by kernel_rfl) (by decide)
    (fun X hX => (GoodN.good (K := True) (Eq.mpr (show GoodN Tryz.prog X 34 en110 su110 (bodyOf Tryz.f110) True = (SubOk Tryz.prog X 34 ⟨f_spec_l5Places_l6c, f_spec_l5Places_l6v, f_spec_l5Places_l6e, loopF f_spec_l5Places_l6⟩ (.loop (loopAt 6 Tryz.f110)) ∧ True) by kernel_rfl) ⟨(f_spec_l5Places_l6Ok hX), trivial⟩)).1)
    (fun x r h => (f_spec_l5PlacesEq x).trans h)
def fl93 : List (Nat × Sig) := [(110, sg110)]
def hi93 : List (Nat × (K × Mk)) := [(5, ((.sl (.int .u8)), (.o .s)))]
def en93 : Env := { n := 43, ty := assocN tyL, fns := assocN fl93, lo := 0, hint := assocN hi93 }
def su93 : Bool → Nat → Option Sub | true, 3 => some ⟨f_spec_l5Add_l3c, f_spec_l5Add_l3v, f_spec_l5Add_l3e, loopF f_spec_l5Add_l3⟩ | false, 9 => some ⟨f_spec_l5Add_i9c, f_spec_l5Add_i9v, f_spec_l5Add_i9e, f_spec_l5Add_i9⟩ | _, _ => none
theorem ok93 : EnvOk Tryz.prog en93 := envOk_of rfl rfl tyL_ok (⟨so110, trivial⟩)
theorem f_spec_l5Add_l3Eq (R : Type) (c : Vars f_spec_l5Add_l3c) (v : Vars f_spec_l5Add_l3v) (kk : Vars f_spec_l5Add_l3c → (Vars f_spec_l5Add_l3v ⊕ Oc f_spec_l5Add_l3e) → Option R) : evC en93 su93 (loopAt 3 Tryz.f93) (Desc.mk2 f_spec_l5Add_l3v v (Desc.mk2 f_spec_l5Add_l3c c .empty)) (fun o => bodyK f_spec_l5Add_l3c f_spec_l5Add_l3v f_spec_l5Add_l3e o kk) = f_spec_l5Add_l3 R c v kk := by kernel_rfl
theorem f_spec_l5Add_l3Ok {X : Cx} (hX : en93.lo = X.lo) : SubOk Tryz.prog X 43 ⟨f_spec_l5Add_l3c, f_spec_l5Add_l3v, f_spec_l5Add_l3e, loopF f_spec_l5Add_l3⟩ (.loop (loopAt 3 Tryz.f93)) :=
  sub_loop (subs := su93) ok93 rfl hX (GoodN.good (K := True) (Eq.mpr (show GoodN Tryz.prog X 43 en93 su93 (loopAt 3 Tryz.f93) True = (True) by kernel_rfl) trivial)).1 (by decide) (by decide) f_spec_l5Add_l3Eq
def su93i9 : Bool → Nat → Option Sub | true, 3 => some ⟨f_spec_l5Add_l3c, f_spec_l5Add_l3v, f_spec_l5Add_l3e, loopF f_spec_l5Add_l3⟩ | _, _ => none
theorem f_spec_l5Add_i9Eq (R : Type) (c : Vars f_spec_l5Add_i9c) (v : Vars f_spec_l5Add_i9v) (kk : Vars f_spec_l5Add_i9c → Oc f_spec_l5Add_i9e → Option R) : evC en93 su93i9 (ifAt 9 Tryz.f93) (Desc.mk2 f_spec_l5Add_i9v v (Desc.mk2 f_spec_l5Add_i9c c .empty)) (fun o => chk f_spec_l5Add_i9c f_spec_l5Add_i9e o kk) = f_spec_l5Add_i9 R c v kk := by kernel_rfl
theorem f_spec_l5Add_i9Ok {X : Cx} (hX : en93.lo = X.lo) : SubOk Tryz.prog X 43 ⟨f_spec_l5Add_i9c, f_spec_l5Add_i9v, f_spec_l5Add_i9e, f_spec_l5Add_i9⟩ (ifAt 9 Tryz.f93) :=
  sub_if (u := ⟨f_spec_l5Add_i9c, f_spec_l5Add_i9v, f_spec_l5Add_i9e, f_spec_l5Add_i9⟩) (subs := su93i9) ok93 rfl hX (GoodN.good (K := True) (Eq.mpr (show GoodN Tryz.prog X 43 en93 su93i9 (ifAt 9 Tryz.f93) True = (True) by kernel_rfl) trivial)).1 (by decide) (by decide) f_spec_l5Add_i9Eq
theorem f_spec_l5AddEq (x : Ps ins93) : evF en93 su93 Tryz.f93 ins93 res93 x = f_spec_l5Add x := by kernel_rfl
theorem so93 : Sound Tryz.prog 93 sg93 :=
  sound_of (fn := Tryz.f93) (c := bodyOf Tryz.f93) (subs := su93) (E := en93) (by kernel_rfl) (by kernel_rfl) (by decide) ok93 (by kernel_rfl) (by kernel_rfl) (by decide)
    (fun X hX => (GoodN.good (K := True) (Eq.mpr (show GoodN Tryz.prog X 43 en93 su93 (bodyOf Tryz.f93) True = (SubOk Tryz.prog X 43 ⟨f_spec_l5Add_l3c, f_spec_l5Add_l3v, f_spec_l5Add_l3e, loopF f_spec_l5Add_l3⟩ (.loop (loopAt 3 Tryz.f93)) ∧ SubOk Tryz.prog X 43 ⟨f_spec_l5Add_i9c, f_spec_l5Add_i9v, f_spec_l5Add_i9e, f_spec_l5Add_i9⟩ (ifAt 9 Tryz.f93) ∧ True) by kernel_rfl) ⟨(f_spec_l5Add_l3Ok hX), (f_spec_l5Add_i9Ok hX), trivial⟩)).1)
    (fun x r h => (f_spec_l5AddEq x).trans h)
def fl61 : List (Nat × Sig) := [(33, sg33), (92, sg92), (93, sg93)]
def en61 : Env := { n := 38, ty := assocN tyL, fns := assocN fl61, lo := 0 }
def su61 : Bool → Nat → Option Sub | true, 5 => some ⟨f_spec_FilterOf_l5c, f_spec_FilterOf_l5v, f_spec_FilterOf_l5e, loopF f_spec_FilterOf_l5⟩ | _, _ => none
theorem ok61 : EnvOk Tryz.prog en61 := envOk_of rfl rfl tyL_ok (⟨so33, ⟨so92, ⟨so93, trivial⟩⟩⟩)
theorem f_spec_FilterOf_l5Eq (R : Type) (c : Vars f_spec_FilterOf_l5c) (v : Vars f_spec_FilterOf_l5v) (kk : Vars f_spec_FilterOf_l5c → (Vars f_spec_FilterOf_l5v ⊕ Oc f_spec_FilterOf_l5e) → Option R) : evC en61 su61 (loopAt 5 Tryz.f61) (Desc.mk2 f_spec_FilterOf_l5v v (Desc.mk2 f_spec_FilterOf_l5c c .empty)) (fun o => bodyK f_spec_FilterOf_l5c f_spec_FilterOf_l5v f_spec_FilterOf_l5e o kk) = f_spec_FilterOf_l5 R c v kk := by kernel_rfl
theorem f_spec_FilterOf_l5Ok {X : Cx} (hX : en61.lo = X.lo) : SubOk Tryz.prog X 38 ⟨f_spec_FilterOf_l5c, f_spec_FilterOf_l5v, f_spec_FilterOf_l5e, loopF f_spec_FilterOf_l5⟩ (.loop (loopAt 5 Tryz.f61)) :=
  sub_loop (subs := su61) ok61 rfl hX (GoodN.good (K := True) (Eq.mpr (show GoodN Tryz.prog X 38 en61 su61 (loopAt 5 Tryz.f61) True = (True) by kernel_rfl) trivial)).1 (by decide) (by decide) f_spec_FilterOf_l5Eq
theorem f_spec_FilterOfEq (x : Ps ins61) : evF en61 su61 Tryz.f61 ins61 res61 x = f_spec_FilterOf x := by kernel_rfl
theorem so61 : Sound Tryz.prog 61 sg61 :=
  sound_of (fn := Tryz.f61) (c := bodyOf Tryz.f61) (subs := su61) (E := en61) (by kernel_rfl) (by kernel_rfl) (by decide) ok61 (by kernel_rfl) (by kernel_rfl) (by decide)
    (fun X hX => (GoodN.good (K := True) (Eq.mpr (show GoodN Tryz.prog X 38 en61 su61 (bodyOf Tryz.f61) True = (SubOk Tryz.prog X 38 ⟨f_spec_FilterOf_l5c, f_spec_FilterOf_l5v, f_spec_FilterOf_l5e, loopF f_spec_FilterOf_l5⟩ (.loop (loopAt 5 Tryz.f61)) ∧ True) by kernel_rfl) ⟨(f_spec_FilterOf_l5Ok hX), trivial⟩)).1)
    (fun x r h => (f_spec_FilterOfEq x).trans h)
def fl63 : List (Nat × Sig) := [(65, sg65)]
def en63 : Env := { n := 6, ty := assocN tyL, fns := assocN fl63, lo := 0 }
def su63 : Bool → Nat → Option Sub | _, _ => none
theorem ok63 : EnvOk Tryz.prog en63 := envOk_of rfl rfl tyL_ok (⟨so65, trivial⟩)
theorem f_spec_l7WordEq (x : Ps ins63) : evF en63 su63 Tryz.f63 ins63 res63 x = f_spec_l7Word x := by kernel_rfl
theorem so63 : Sound Tryz.prog 63 sg63 :=
  sound_of (fn := Tryz.f63) (c := bodyOf Tryz.f63) (subs := su63) (E := en63) (by kernel_rfl) (by kernel_rfl) (by decide) ok63 (by kernel_rfl) (by kernel_rfl) (by decide)
    (fun X hX => (GoodN.good (K := True) (Eq.mpr (show GoodN Tryz.prog X 6 en63 su63 (bodyOf Tryz.f63) True = (True) by kernel_rfl) trivial)).1)
    (fun x r h => (f_spec_l7WordEq x).trans h)
def fl64 : List (Nat × Sig) := [(60, sg60), (65, sg65), (66, sg66)]
def en64 : Env := { n := 12, ty := assocN tyL, fns := assocN fl64, lo := 0 }
def su64 : Bool → Nat → Option Sub | _, _ => none
theorem ok64 : EnvOk Tryz.prog en64 := envOk_of rfl rfl tyL_ok (⟨so60, ⟨so65, ⟨so66, trivial⟩⟩⟩)
theorem f_spec_l2FrameEq (x : Ps ins64) : evF en64 su64 Tryz.f64 ins64 res64 x = f_spec_l2Frame x := by kernel_rfl
theorem so64 : Sound Tryz.prog 64 sg64 :=
  sound_of (fn := Tryz.f64) (c := bodyOf Tryz.f64) (subs := su64) (E := en64) (by kernel_rfl) (by kernel_rfl) (by decide) ok64 (by kernel_rfl) (by kernel_rfl) (by decide)
    (fun X hX => (GoodN.good (K := True) (Eq.mpr (show GoodN Tryz.prog X 12 en64 su64 (bodyOf Tryz.f64) True = (True) by kernel_rfl) trivial)).1)
    (fun x r h => (f_spec_l2FrameEq x).trans h)
def fl25 : List (Nat × Sig) := [(59, sg59), (60, sg60), (61, sg61), (62, sg62), (63, sg63), (64, sg64), (65, sg65), (66, sg66)]
def en25 : Env := { n := 83, ty := assocN tyL, fns := assocN fl25, lo := 0 }
def su25 : Bool → Nat → Option Sub | false, 8 => some ⟨f_spec_l7Table_i8c, f_spec_l7Table_i8v, f_spec_l7Table_i8e, f_spec_l7Table_i8⟩ | true, 4 => some ⟨f_spec_l7Table_l4c, f_spec_l7Table_l4v, f_spec_l7Table_l4e, loopF f_spec_l7Table_l4⟩ | _, _ => none
theorem ok25 : EnvOk Tryz.prog en25 := envOk_of rfl rfl tyL_ok (⟨so59, ⟨so60, ⟨so61, ⟨so62, ⟨so63, ⟨so64, ⟨so65, ⟨so66, trivial⟩⟩⟩⟩⟩⟩⟩⟩)
theorem dr25r11 {X : Cx} (hX : en25.lo = X.lo) : RegOk Tryz.prog X 83 en25 11 (regAt 11 Tryz.f25) := regOk_of ok25 rfl hX (by kernel_rfl) (by kernel_rfl)
theorem dr25r15 {X : Cx} (hX : en25.lo = X.lo) : RegOk Tryz.prog X 83 en25 15 (regAt 15 Tryz.f25) := regOk_of ok25 rfl hX (by kernel_rfl) (by kernel_rfl)
def su25i8 : Bool → Nat → Option Sub | true, 4 => some ⟨f_spec_l7Table_l4c, f_spec_l7Table_l4v, f_spec_l7Table_l4e, loopF f_spec_l7Table_l4⟩ | _, _ => none
theorem f_spec_l7Table_i8Eq (R : Type) (c : Vars f_spec_l7Table_i8c) (v : Vars f_spec_l7Table_i8v) (kk : Vars f_spec_l7Table_i8c → Oc f_spec_l7Table_i8e → Option R) : evC en25 su25i8 (ifAt 8 Tryz.f25) (Desc.mk2 f_spec_l7Table_i8v v (Desc.mk2 f_spec_l7Table_i8c c .empty)) (fun o => chk f_spec_l7Table_i8c f_spec_l7Table_i8e o kk) = f_spec_l7Table_i8 R c v kk := by kernel_rfl
theorem f_spec_l7Table_i8Ok {X : Cx} (hX : en25.lo = X.lo) : SubOk Tryz.prog X 83 ⟨f_spec_l7Table_i8c, f_spec_l7Table_i8v, f_spec_l7Table_i8e, f_spec_l7Table_i8⟩ (ifAt 8 Tryz.f25) :=
  sub_if (u := ⟨f_spec_l7Table_i8c, f_spec_l7Table_i8v, f_spec_l7Table_i8e, f_spec_l7Table_i8⟩) (subs := su25i8) ok25 rfl hX (GoodN.good (K := True) (Eq.mpr (show GoodN Tryz.prog X 83 en25 su25i8 (ifAt 8 Tryz.f25) True = (True) by kernel_rfl) trivial)).1 (by decide) (by decide) f_spec_l7Table_i8Eq
theorem f_spec_l7Table_l4Eq (R : Type) (c : Vars f_spec_l7Table_l4c) (v : Vars f_spec_l7Table_l4v) (kk : Vars f_spec_l7Table_l4c → (Vars f_spec_l7Table_l4v ⊕ Oc f_spec_l7Table_l4e) → Option R) : evC en25 su25 (loopAt 4 Tryz.f25) (Desc.mk2 f_spec_l7Table_l4v v (Desc.mk2 f_spec_l7Table_l4c c .empty)) (fun o => bodyK f_spec_l7Table_l4c f_spec_l7Table_l4v f_spec_l7Table_l4e o kk) = f_spec_l7Table_l4 R c v kk := by kernel_rfl
theorem f_spec_l7Table_l4Ok {X : Cx} (hX : en25.lo = X.lo) : SubOk Tryz.prog X 83 ⟨f_spec_l7Table_l4c, f_spec_l7Table_l4v, f_spec_l7Table_l4e, loopF f_spec_l7Table_l4⟩ (.loop (loopAt 4 Tryz.f25)) :=
  sub_loop (subs := su25) ok25 rfl hX (GoodN.good (K := True) (Eq.mpr (show GoodN Tryz.prog X 83 en25 su25 (loopAt 4 Tryz.f25) True = (SubOk Tryz.prog X 83 ⟨f_spec_l7Table_i8c, f_spec_l7Table_i8v, f_spec_l7Table_i8e, f_spec_l7Table_i8⟩ (ifAt 8 Tryz.f25) ∧ RegOk Tryz.prog X 83 en25 11 (regAt 11 Tryz.f25) ∧ True) by kernel_rfl) ⟨(f_spec_l7Table_i8Ok hX), (dr25r11 hX), trivial⟩)).1 (by decide) (by decide) f_spec_l7Table_l4Eq
theorem f_spec_l7TableEq (x : Ps ins25) : evF en25 su25 Tryz.f25 ins25 res25 x = f_spec_l7Table x := by kernel_rfl
theorem so25 : Sound Tryz.prog 25 sg25 :=
  sound_of (fn := Tryz.f25) (c := bodyOf Tryz.f25) (subs := su25) (E := en25) (by kernel_rfl) (by kernel_rfl) (by decide) ok25 (by kernel_rfl) (by kernel_rfl) (by decide)
    (fun X hX => (GoodN.good (K := True) (Eq.mpr (show GoodN Tryz.prog X 83 en25 su25 (bodyOf Tryz.f25) True = (SubOk Tryz.prog X 83 ⟨f_spec_l7Table_l4c, f_spec_l7Table_l4v, f_spec_l7Table_l4e, loopF f_spec_l7Table_l4⟩ (.loop (loopAt 4 Tryz.f25)) ∧ RegOk Tryz.prog X 83 en25 15 (regAt 15 Tryz.f25) ∧ True) by kernel_rfl) ⟨(f_spec_l7Table_l4Ok hX), (dr25r15 hX), trivial⟩)).1)
    (fun x r h => (f_spec_l7TableEq x).trans h)
def fl7 : List (Nat × Sig) := [(24, sg24), (25, sg25)]
def en7 : Env := { n := 9, ty := assocN tyL, fns := assocN fl7, lo := 0 }
def su7 : Bool → Nat → Option Sub | _, _ => none
theorem ok7 : EnvOk Tryz.prog en7 := envOk_of rfl rfl tyL_ok (⟨so24, ⟨so25, trivial⟩⟩)
theorem f_spec_TableBytesEq (x : Ps ins7) : evF en7 su7 Tryz.f7 ins7 res7 x = f_spec_TableBytes x := by kernel_rfl
theorem so7 : Sound Tryz.prog 7 sg7 :=
  sound_of (fn := Tryz.f7) (c := bodyOf Tryz.f7) (subs := su7) (E := en7) (by kernel_rfl) (by kernel_rfl) (by decide) ok7 (by kernel_rfl) (by kernel_rfl) (by decide)
    (fun X hX => (GoodN.good (K := True) (Eq.mpr (show GoodN Tryz.prog X 9 en7 su7 (bodyOf Tryz.f7) True = (True) by kernel_rfl) trivial)).1)
    (fun x r h => (f_spec_TableBytesEq x).trans h)
def fl67 : List (Nat × Sig) := []
def en67 : Env := { n := 20, ty := assocN tyL, fns := assocN fl67, lo := 0 }
def su67 : Bool → Nat → Option Sub | true, 3 => some ⟨f_impl_wordOf_l3c, f_impl_wordOf_l3v, f_impl_wordOf_l3e, loopF f_impl_wordOf_l3⟩ | _, _ => none
theorem ok67 : EnvOk Tryz.prog en67 := envOk_of rfl rfl tyL_ok (trivial)
theorem f_impl_wordOf_l3Eq (R : Type) (c : Vars f_impl_wordOf_l3c) (v : Vars f_impl_wordOf_l3v) (kk : Vars f_impl_wordOf_l3c → (Vars f_impl_wordOf_l3v ⊕ Oc f_impl_wordOf_l3e) → Option R) : evC en67 su67 (loopAt 3 Tryz.f67) (Desc.mk2 f_impl_wordOf_l3v v (Desc.mk2 f_impl_wordOf_l3c c .empty)) (fun o => bodyK f_impl_wordOf_l3c f_impl_wordOf_l3v f_impl_wordOf_l3e o kk) = f_impl_wordOf_l3 R c v kk := by kernel_rfl
theorem f_impl_wordOf_l3Ok {X : Cx} (hX : en67.lo = X.lo) : SubOk Tryz.prog X 20 ⟨f_impl_wordOf_l3c, f_impl_wordOf_l3v, f_impl_wordOf_l3e, loopF f_impl_wordOf_l3⟩ (.loop (loopAt 3 Tryz.f67)) :=
  sub_loop (subs := su67) ok67 rfl hX (GoodN.good (K := True) (Eq.mpr (show GoodN Tryz.prog X 20 en67 su67 (loopAt 3 Tryz.f67) True = (True) by kernel_rfl) trivial)).1 (by decide) (by decide) f_impl_wordOf_l3Eq
theorem f_impl_wordOfEq (x : Ps ins67) : evF en67 su67 Tryz.f67 ins67 res67 x = f_impl_wordOf x := by kernel_rfl
theorem so67 : Sound Tryz.prog 67 sg67 :=
  sound_of (fn := Tryz.f67) (c := bodyOf Tryz.f67) (subs := su67) (E := en67) (by kernel_rfl) (by kernel_rfl) (by decide) ok67 (by kernel_rfl) (by kernel_rfl) (by decide)
    (fun X hX => (GoodN.good (K := True) (Eq.mpr (show GoodN Tryz.prog X 20 en67 su67 (bodyOf Tryz.f67) True = (SubOk Tryz.prog X 20 ⟨f_impl_wordOf_l3c, f_impl_wordOf_l3v, f_impl_wordOf_l3e, loopF f_impl_wordOf_l3⟩ (.loop (loopAt 3 Tryz.f67)) ∧ True) by kernel_rfl) ⟨(f_impl_wordOf_l3Ok hX), trivial⟩)).1)
    (fun x r h => (f_impl_wordOfEq x).trans h)
def fl96 : List (Nat × Sig) := []
def en96 : Env := { n := 36, ty := assocN tyL, fns := assocN fl96, lo := 0 }
def su96 : Bool → Nat → Option Sub | true, 3 => some ⟨f_impl_TakeVar_l3c, f_impl_TakeVar_l3v, f_impl_TakeVar_l3e, loopF f_impl_TakeVar_l3⟩ | _, _ => none
theorem ok96 : EnvOk Tryz.prog en96 := envOk_of rfl rfl tyL_ok (trivial)
theorem f_impl_TakeVar_l3Eq (R : Type) (c : Vars f_impl_TakeVar_l3c) (v : Vars f_impl_TakeVar_l3v) (kk : Vars f_impl_TakeVar_l3c → (Vars f_impl_TakeVar_l3v ⊕ Oc f_impl_TakeVar_l3e) → Option R) : evC en96 su96 (loopAt 3 Tryz.f96) (Desc.mk2 f_impl_TakeVar_l3v v (Desc.mk2 f_impl_TakeVar_l3c c .empty)) (fun o => bodyK f_impl_TakeVar_l3c f_impl_TakeVar_l3v f_impl_TakeVar_l3e o kk) = f_impl_TakeVar_l3 R c v kk := by kernel_rfl
theorem f_impl_TakeVar_l3Ok {X : Cx} (hX : en96.lo = X.lo) : SubOk Tryz.prog X 36 ⟨f_impl_TakeVar_l3c, f_impl_TakeVar_l3v, f_impl_TakeVar_l3e, loopF f_impl_TakeVar_l3⟩ (.loop (loopAt 3 Tryz.f96)) :=
  sub_loop (subs := su96) ok96 rfl hX (GoodN.good (K := True) (Eq.mpr (show GoodN Tryz.prog X 36 en96 su96 (loopAt 3 Tryz.f96) True = (True) by kernel_rfl) trivial)).1 (by decide) (by decide) f_impl_TakeVar_l3Eq
theorem f_impl_TakeVarEq (x : Ps ins96) : evF en96 su96 Tryz.f96 ins96 res96 x = f_impl_TakeVar x := by kernel_rfl
theorem so96 : Sound Tryz.prog 96 sg96 :=
  sound_of (fn := Tryz.f96) (c := bodyOf Tryz.f96) (subs := su96) (E := en96) (by kernel_rfl) (by kernel_rfl) (by decide) ok96 (by kernel_rfl) (by kernel_rfl) (by decide)
    (fun X hX => (GoodN.good (K := True) (Eq.mpr (show GoodN Tryz.prog X 36 en96 su96 (bodyOf Tryz.f96) True = (SubOk Tryz.prog X 36 ⟨f_impl_TakeVar_l3c, f_impl_TakeVar_l3v, f_impl_TakeVar_l3e, loopF f_impl_TakeVar_l3⟩ (.loop (loopAt 3 Tryz.f96)) ∧ True) by kernel_rfl) ⟨(f_impl_TakeVar_l3Ok hX), trivial⟩)).1)
    (fun x r h => (f_impl_TakeVarEq x).trans h)
def fl68 : List (Nat × Sig) := [(55, sg55), (57, sg57), (96, sg96)]
def en68 : Env := { n := 49, ty := assocN tyL, fns := assocN fl68, lo := 0 }
def su68 : Bool → Nat → Option Sub | _, _ => none
theorem ok68 : EnvOk Tryz.prog en68 := envOk_of rfl rfl tyL_ok (⟨so55, ⟨so57, ⟨so96, trivial⟩⟩⟩)
theorem dr68r6 {X : Cx} (hX : en68.lo = X.lo) : RegOk Tryz.prog X 49 en68 6 (regAt 6 Tryz.f68) := regOk_of ok68 rfl hX (by kernel_rfl) (by kernel_rfl)
theorem f_impl_TakeFrameEq (x : Ps ins68) : evF en68 su68 Tryz.f68 ins68 res68 x = f_impl_TakeFrame x := by kernel_rfl
theorem so68 : Sound Tryz.prog 68 sg68 :=
  sound_of (fn := Tryz.f68) (c := bodyOf Tryz.f68) (subs := su68) (E := en68) (by kernel_rfl) (by kernel_rfl) (by decide) ok68 (by kernel_rfl) (by kernel_rfl) (by decide)
    (fun X hX => (GoodN.good (K := True) (Eq.mpr (show GoodN Tryz.prog X 49 en68 su68 (bodyOf Tryz.f68) True = (RegOk Tryz.prog X 49 en68 6 (regAt 6 Tryz.f68) ∧ True) by kernel_rfl) ⟨(dr68r6 hX), trivial⟩)).1)
    (fun x r h => (f_impl_TakeFrameEq x).trans h)
def fl98 : List (Nat × Sig) := [(96, sg96)]
def en98 : Env := { n := 38, ty := assocN tyL, fns := assocN fl98, lo := 1 }
def su98 : Bool → Nat → Option Sub | _, _ => none
theorem ok98 : EnvOk Tryz.prog en98 := envOk_of rfl rfl tyL_ok (⟨so96, trivial⟩)
theorem f_impl_taker_numberEq (x : Ps ins98) : evF en98 su98 Tryz.f98 ins98 res98 x = f_impl_taker_number x := by kernel_rfl
theorem so98 : Sound Tryz.prog 98 sg98 :=
  sound_of (fn := Tryz.f98) (c := bodyOf Tryz.f98) (subs := su98) (E := en98) (by kernel_rfl) (by kernel_rfl) (by decide) ok98 (by kernel_rfl) (by kernel_rfl) (by decide)
    (fun X hX => (GoodN.good (K := True) (Eq.mpr (show GoodN Tryz.prog X 38 en98 su98 (bodyOf Tryz.f98) True = (True) by kernel_rfl) trivial)).1)
    (fun x r h => (f_impl_taker_numberEq x).trans h)
def fl111 : List (Nat × Sig) := []
def en111 : Env := { n := 42, ty := assocN tyL, fns := assocN fl111, lo := 1 }
def su111 : Bool → Nat → Option Sub | _, _ => none
theorem ok111 : EnvOk Tryz.prog en111 := envOk_of rfl rfl tyL_ok (trivial)
theorem f_impl_taker_textEq (x : Ps ins111) : evF en111 su111 Tryz.f111 ins111 res111 x = f_impl_taker_text x := by kernel_rfl
theorem so111 : Sound Tryz.prog 111 sg111 :=
  sound_of (fn := Tryz.f111) (c := bodyOf Tryz.f111) (subs := su111) (E := en111) (by kernel_rfl) (by kernel_rfl) (by decide) ok111 (by kernel_rfl) (by kernel_rfl) (by decide)
    (fun X hX => (GoodN.good (K := True) (Eq.mpr (show GoodN Tryz.prog X 42 en111 su111 (bodyOf Tryz.f111) True = (True) by kernel_rfl) trivial)).1)
    (fun x r h => (f_impl_taker_textEq x).trans h)
def fl97 : List (Nat × Sig) := [(98, sg98), (111, sg111)]
def en97 : Env := { n := 7, ty := assocN tyL, fns := assocN fl97, lo := 1 }
def su97 : Bool → Nat → Option Sub | _, _ => none
theorem ok97 : EnvOk Tryz.prog en97 := envOk_of rfl rfl tyL_ok (⟨so98, ⟨so111, trivial⟩⟩)
theorem f_impl_taker_sizedEq (x : Ps ins97) : evF en97 su97 Tryz.f97 ins97 res97 x = f_impl_taker_sized x := by kernel_rfl
theorem so97 : Sound Tryz.prog 97 sg97 :=
  sound_of (fn := Tryz.f97) (c := bodyOf Tryz.f97) (subs := su97) (E := en97) (by kernel_rfl) (by kernel_rfl) (by decide) ok97 (by kernel_rfl) (by kernel_rfl) (by decide)
    (fun X hX => (GoodN.good (K := True) (Eq.mpr (show GoodN Tryz.prog X 7 en97 su97 (bodyOf Tryz.f97) True = (True) by kernel_rfl) trivial)).1)
    (fun x r h => (f_impl_taker_sizedEq x).trans h)
def fl100 : List (Nat × Sig) := []
def en100 : Env := { n := 15, ty := assocN tyL, fns := assocN fl100, lo := 1 }
def su100 : Bool → Nat → Option Sub | _, _ => none
theorem ok100 : EnvOk Tryz.prog en100 := envOk_of rfl rfl tyL_ok (trivial)
theorem f_impl_taker_wholeEq (x : Ps ins100) : evF en100 su100 Tryz.f100 ins100 res100 x = f_impl_taker_whole x := by kernel_rfl
theorem so100 : Sound Tryz.prog 100 sg100 :=
  sound_of (fn := Tryz.f100) (c := bodyOf Tryz.f100) (subs := su100) (E := en100) (by kernel_rfl) (by kernel_rfl) (by decide) ok100 (by kernel_rfl) (by kernel_rfl) (by decide)
    (fun X hX => (GoodN.good (K := True) (Eq.mpr (show GoodN Tryz.prog X 15 en100 su100 (bodyOf Tryz.f100) True = (True) by kernel_rfl) trivial)).1)
    (fun x r h => (f_impl_taker_wholeEq x).trans h)
def fl119 : List (Nat × Sig) := [(98, sg98), (100, sg100), (111, sg111)]
def hi119 : List (Nat × (K × Mk)) := [(2, ((.sl kdItem), (.o .s))), (5, ((.sl kdItem), (.o .s)))]
def en119 : Env := { n := 83, ty := assocN tyL, fns := assocN fl119, lo := 0, hint := assocN hi119 }
def su119 : Bool → Nat → Option Sub | true, 2 => some ⟨f_impl_readItems_l2c, f_impl_readItems_l2v, f_impl_readItems_l2e, loopF f_impl_readItems_l2⟩ | _, _ => none
theorem ok119 : EnvOk Tryz.prog en119 := envOk_of rfl rfl tyL_ok (⟨so98, ⟨so100, ⟨so111, trivial⟩⟩⟩)
theorem f_impl_readItems_l2Eq (R : Type) (c : Vars f_impl_readItems_l2c) (v : Vars f_impl_readItems_l2v) (kk : Vars f_impl_readItems_l2c → (Vars f_impl_readItems_l2v ⊕ Oc f_impl_readItems_l2e) → Option R) : evC en119 su119 (loopAt 2 Tryz.f119) (Desc.mk2 f_impl_readItems_l2v v (Desc.mk2 f_impl_readItems_l2c c .empty)) (fun o => bodyK f_impl_readItems_l2c f_impl_readItems_l2v f_impl_readItems_l2e o kk) = f_impl_readItems_l2 R c v kk := by kernel_rfl
theorem f_impl_readItems_l2Ok {X : Cx} (hX : en119.lo = X.lo) : SubOk Tryz.prog X 83 ⟨f_impl_readItems_l2c, f_impl_readItems_l2v, f_impl_readItems_l2e, loopF f_impl_readItems_l2⟩ (.loop (loopAt 2 Tryz.f119)) :=
  sub_loop (subs := su119) ok119 rfl hX (GoodN.good (K := True) (Eq.mpr (show GoodN Tryz.prog X 83 en119 su119 (loopAt 2 Tryz.f119) True = (True) by kernel_rfl) trivial)).1 (by decide) (by decide) f_impl_readItems_l2Eq
theorem f_impl_readItemsEq (x : Ps ins119) : evF en119 su119 Tryz.f119 ins119 res119 x = f_impl_readItems x := by kernel_rfl
theorem so119 : Sound Tryz.prog 119 sg119 :=
  sound_of (fn := Tryz.f119) (c := bodyOf Tryz.f119) (subs := su119) (E := en119) (by kernel_rfl) (by kernel_rfl) (by decide) ok119 (by kernel_rfl) (by kernel_rfl) (by decide)
    (fun X hX => (GoodN.good (K := True) (Eq.mpr (show GoodN Tryz.prog X 83 en119 su119 (bodyOf Tryz.f119) True = (SubOk Tryz.prog X 83 ⟨f_impl_readItems_l2c, f_impl_readItems_l2v, f_impl_readItems_l2e, loopF f_impl_readItems_l2⟩ (.loop (loopAt 2 Tryz.f119)) ∧ True) by kernel_rfl) ⟨(f_impl_readItems_l2Ok hX), trivial⟩)).1)
    (fun x r h => (f_impl_readItemsEq x).trans h)
def fl112 : List (Nat × Sig) := [(22, sg22), (50, sg50), (67, sg67), (119, sg119)]
def hi112 : List (Nat × (K × Mk)) := [(2, ((.sl kdItem), (.o .s))), (3, ((.sl (.int .i64)), (.o .s))), (7, ((.sl kdItem), (.o .s))), (10, ((.sl (.int .i64)), (.o .s)))]
def en112 : Env := { n := 59, ty := assocN tyL, fns := assocN fl112, lo := 0, hint := assocN hi112 }
def su112 : Bool → Nat → Option Sub | _, _ => none
theorem ok112 : EnvOk Tryz.prog en112 := envOk_of rfl rfl tyL_ok (⟨so22, ⟨so50, ⟨so67, ⟨so119, trivial⟩⟩⟩⟩)
theorem f_impl_readBlockEq (x : Ps ins112) : evF en112 su112 Tryz.f112 ins112 res112 x = f_impl_readBlock x := by kernel_rfl
theorem so112 : Sound Tryz.prog 112 sg112 :=
  sound_of (fn := Tryz.f112) (c := bodyOf Tryz.f112) (subs := su112) (E := en112) (by kernel_rfl) (by kernel_rfl) (by decide) ok112 (by kernel_rfl) (by kernel_rfl) (by decide)
    (fun X hX => (GoodN.good (K := True) (Eq.mpr (show GoodN Tryz.prog X 59 en112 su112 (bodyOf Tryz.f112) True = (True) by kernel_rfl) trivial)).1)
    (fun x r h => (f_impl_readBlockEq x).trans h)
def fl99 : List (Nat × Sig) := [(112, sg112)]
def hi99 : List (Nat × (K × Mk)) := [(2, ((.sl kdItem), (.o .s))), (4, ((.sl kdItem), (.o .s))), (5, ((.sl (.int .i64)), (.o .s)))]
def en99 : Env := { n := 16, ty := assocN tyL, fns := assocN fl99, lo := 0, hint := assocN hi99 }
def su99 : Bool → Nat → Option Sub | _, _ => none
theorem ok99 : EnvOk Tryz.prog en99 := envOk_of rfl rfl tyL_ok (⟨so112, trivial⟩)
theorem f_impl_ReadBlockEq (x : Ps ins99) : evF en99 su99 Tryz.f99 ins99 res99 x = f_impl_ReadBlock x := by kernel_rfl
theorem so99 : Sound Tryz.prog 99 sg99 :=
  sound_of (fn := Tryz.f99) (c := bodyOf Tryz.f99) (subs := su99) (E := en99) (by kernel_rfl) (by kernel_rfl) (by decide) ok99 (by kernel_rfl) (by kernel_rfl) (by decide)
    (fun X hX => (GoodN.good (K := True) (Eq.mpr (show GoodN Tryz.prog X 16 en99 su99 (bodyOf Tryz.f99) True = (True) by kernel_rfl) trivial)).1)
    (fun x r h => (f_impl_ReadBlockEq x).trans h)
def fl69 : List (Nat × Sig) := [(97, sg97), (98, sg98), (99, sg99), (100, sg100)]
def hi69 : List (Nat × (K × Mk)) := [(6, ((.sl kdItem), (.o .s))), (9, ((.sl kdItem), (.o .s))), (13, ((.sl kdItem), (.o .s)))]
def en69 : Env := { n := 81, ty := assocN tyL, fns := assocN fl69, lo := 0, hint := assocN hi69 }
def su69 : Bool → Nat → Option Sub | true, 2 => some ⟨f_impl_tableItems_l2c, f_impl_tableItems_l2v, f_impl_tableItems_l2e, loopF f_impl_tableItems_l2⟩ | _, _ => none
theorem ok69 : EnvOk Tryz.prog en69 := envOk_of rfl rfl tyL_ok (⟨so97, ⟨so98, ⟨so99, ⟨so100, trivial⟩⟩⟩⟩)
theorem f_impl_tableItems_l2Eq (R : Type) (c : Vars f_impl_tableItems_l2c) (v : Vars f_impl_tableItems_l2v) (kk : Vars f_impl_tableItems_l2c → (Vars f_impl_tableItems_l2v ⊕ Oc f_impl_tableItems_l2e) → Option R) : evC en69 su69 (loopAt 2 Tryz.f69) (Desc.mk2 f_impl_tableItems_l2v v (Desc.mk2 f_impl_tableItems_l2c c .empty)) (fun o => bodyK f_impl_tableItems_l2c f_impl_tableItems_l2v f_impl_tableItems_l2e o kk) = f_impl_tableItems_l2 R c v kk := by kernel_rfl
theorem f_impl_tableItems_l2Ok {X : Cx} (hX : en69.lo = X.lo) : SubOk Tryz.prog X 81 ⟨f_impl_tableItems_l2c, f_impl_tableItems_l2v, f_impl_tableItems_l2e, loopF f_impl_tableItems_l2⟩ (.loop (loopAt 2 Tryz.f69)) :=
  sub_loop (subs := su69) ok69 rfl hX (GoodN.good (K := True) (Eq.mpr (show GoodN Tryz.prog X 81 en69 su69 (loopAt 2 Tryz.f69) True = (True) by kernel_rfl) trivial)).1 (by decide) (by decide) f_impl_tableItems_l2Eq
theorem f_impl_tableItemsEq (x : Ps ins69) : evF en69 su69 Tryz.f69 ins69 res69 x = f_impl_tableItems x := by kernel_rfl
theorem so69 : Sound Tryz.prog 69 sg69 :=
  sound_of (fn := Tryz.f69) (c := bodyOf Tryz.f69) (subs := su69) (E := en69) (by kernel_rfl) (by kernel_rfl) (by decide) ok69 (by kernel_rfl) (by kernel_rfl) (by decide)
    (fun X hX => (GoodN.good (K := True) (Eq.mpr (show GoodN Tryz.prog X 81 en69 su69 (bodyOf Tryz.f69) True = (SubOk Tryz.prog X 81 ⟨f_impl_tableItems_l2c, f_impl_tableItems_l2v, f_impl_tableItems_l2e, loopF f_impl_tableItems_l2⟩ (.loop (loopAt 2 Tryz.f69)) ∧ True) by kernel_rfl) ⟨(f_impl_tableItems_l2Ok hX), trivial⟩)).1)
    (fun x r h => (f_impl_tableItemsEq x).trans h)
def fl23 : List (Nat × Sig) := [(50, sg50), (51, sg51), (52, sg52), (53, sg53), (54, sg54), (55, sg55), (56, sg56), (57, sg57)]
def hi23 : List (Nat × (K × Mk)) := [(8, ((.sl kdItem), (.o .s))), (10, ((.sl (.int .i64)), (.o .s)))]
def dw23 : List (Nat × List (List Nat)) := [(13, [[4, 85], [], [], [88], [89], [4, 90], [4, 91], [4, 92], [93], [94], [], [96], [], [98], [99], [100], [2, 4], [3]])]
def en23 : Env := { n := 101, ty := assocN tyL, fns := assocN fl23, lo := 0, hint := assocN hi23, draw := drawOf dw23, keep := fun n => [14].any (Nat.beq n) }
def su23 : Bool → Nat → Option Sub | true, 3 => some ⟨f_impl_build_l3c, f_impl_build_l3v, f_impl_build_l3e, loopF f_impl_build_l3⟩ | _, _ => none
theorem ok23 : EnvOk Tryz.prog en23 := envOk_of rfl rfl tyL_ok (⟨so50, ⟨so51, ⟨so52, ⟨so53, ⟨so54, ⟨so55, ⟨so56, ⟨so57, trivial⟩⟩⟩⟩⟩⟩⟩⟩)
theorem dr23r9 {X : Cx} (hX : en23.lo = X.lo) : RegOk Tryz.prog X 101 en23 9 (regAt 9 Tryz.f23) := regOk_of ok23 rfl hX (by kernel_rfl) (by kernel_rfl)
theorem dr23r13 {X : Cx} (hX : en23.lo = X.lo) : RegOk Tryz.prog X 101 en23 13 (regAt 13 Tryz.f23) := regOk_of ok23 rfl hX (by kernel_rfl) (by kernel_rfl)
theorem f_impl_build_l3Eq (R : Type) (c : Vars f_impl_build_l3c) (v : Vars f_impl_build_l3v) (kk : Vars f_impl_build_l3c → (Vars f_impl_build_l3v ⊕ Oc f_impl_build_l3e) → Option R) : evC en23 su23 (loopAt 3 Tryz.f23) (Desc.mk2 f_impl_build_l3v v (Desc.mk2 f_impl_build_l3c c .empty)) (fun o => bodyK f_impl_build_l3c f_impl_build_l3v f_impl_build_l3e o kk) = f_impl_build_l3 R c v kk := by kernel_rfl
theorem f_impl_build_l3Ok {X : Cx} (hX : en23.lo = X.lo) : SubOk Tryz.prog X 101 ⟨f_impl_build_l3c, f_impl_build_l3v, f_impl_build_l3e, loopF f_impl_build_l3⟩ (.loop (loopAt 3 Tryz.f23)) :=
  sub_loop (subs := su23) ok23 rfl hX (GoodN.good (K := True) (Eq.mpr (show GoodN Tryz.prog X 101 en23 su23 (loopAt 3 Tryz.f23) True = (RegOk Tryz.prog X 101 en23 9 (regAt 9 Tryz.f23) ∧ True) by kernel_rfl) ⟨(dr23r9 hX), trivial⟩)).1 (by decide) (by decide) f_impl_build_l3Eq
theorem f_impl_buildEq (x : Ps ins23) : evF en23 su23 Tryz.f23 ins23 res23 x = f_impl_build x := by kernel_rfl
theorem so23 : Sound Tryz.prog 23 sg23 :=
  sound_of (fn := Tryz.f23) (c := bodyOf Tryz.f23) (subs := su23) (E := en23) (by kernel_rfl) (by kernel_rfl) (by decide) ok23 (by kernel_rfl) (by kernel_rfl) (by decide)
    (fun X hX => (GoodN.good (K := True) (Eq.mpr (show GoodN Tryz.prog X 101 en23 su23 (bodyOf Tryz.f23) True = (SubOk Tryz.prog X 101 ⟨f_impl_build_l3c, f_impl_build_l3v, f_impl_build_l3e, loopF f_impl_build_l3⟩ (.loop (loopAt 3 Tryz.f23)) ∧ RegOk Tryz.prog X 101 en23 13 (regAt 13 Tryz.f23) ∧ True) by kernel_rfl) ⟨(f_impl_build_l3Ok hX), (dr23r13 hX), trivial⟩)).1)
    (fun x r h => (f_impl_buildEq x).trans h)
def fl26 : List (Nat × Sig) := [(21, sg21), (22, sg22), (23, sg23), (67, sg67), (68, sg68), (69, sg69)]
def hi26 : List (Nat × (K × Mk)) := [(9, ((.sl kdItem), (.o .s)))]
def en26 : Env := { n := 70, ty := assocN tyL, fns := assocN fl26, lo := 0, hint := assocN hi26 }
def su26 : Bool → Nat → Option Sub | _, _ => none
theorem ok26 : EnvOk Tryz.prog en26 := envOk_of rfl rfl tyL_ok (⟨so21, ⟨so22, ⟨so23, ⟨so67, ⟨so68, ⟨so69, trivial⟩⟩⟩⟩⟩⟩)
theorem f_impl_readTableEq (x : Ps ins26) : evF en26 su26 Tryz.f26 ins26 res26 x = f_impl_readTable x := by kernel_rfl
theorem so26 : Sound Tryz.prog 26 sg26 :=
  sound_of (fn := Tryz.f26) (c := bodyOf Tryz.f26) (subs := su26) (E := en26) (by kernel_rfl) (by kernel_rfl) (by decide) ok26 (by kernel_rfl) (by kernel_rfl) (by decide)
    (fun X hX => (GoodN.good (K := True) (Eq.mpr (show GoodN Tryz.prog X 70 en26 su26 (bodyOf Tryz.f26) True = (True) by kernel_rfl) trivial)).1)
    (fun x r h => (f_impl_readTableEq x).trans h)
def fl8 : List (Nat × Sig) := [(26, sg26)]
def hi8 : List (Nat × (K × Mk)) := [(2, ((.sl kdItem), (.o .s)))]
def en8 : Env := { n := 15, ty := assocN tyL, fns := assocN fl8, lo := 0, hint := assocN hi8 }
def su8 : Bool → Nat → Option Sub | _, _ => none
theorem ok8 : EnvOk Tryz.prog en8 := envOk_of rfl rfl tyL_ok (⟨so26, trivial⟩)
theorem f_impl_ReadTableEq (x : Ps ins8) : evF en8 su8 Tryz.f8 ins8 res8 x = f_impl_ReadTable x := by kernel_rfl
theorem so8 : Sound Tryz.prog 8 sg8 :=
  sound_of (fn := Tryz.f8) (c := bodyOf Tryz.f8) (subs := su8) (E := en8) (by kernel_rfl) (by kernel_rfl) (by decide) ok8 (by kernel_rfl) (by kernel_rfl) (by decide)
    (fun X hX => (GoodN.good (K := True) (Eq.mpr (show GoodN Tryz.prog X 15 en8 su8 (bodyOf Tryz.f8) True = (True) by kernel_rfl) trivial)).1)
    (fun x r h => (f_impl_ReadTableEq x).trans h)
def fl9 : List (Nat × Sig) := []
def en9 : Env := { n := 26, ty := assocN tyL, fns := assocN fl9, lo := 0 }
def su9 : Bool → Nat → Option Sub | true, 4 => some ⟨f_laws_sameItems_l4c, f_laws_sameItems_l4v, f_laws_sameItems_l4e, loopF f_laws_sameItems_l4⟩ | _, _ => none
theorem ok9 : EnvOk Tryz.prog en9 := envOk_of rfl rfl tyL_ok (trivial)
theorem dr9r6 {X : Cx} (hX : en9.lo = X.lo) : RegOk Tryz.prog X 26 en9 6 (regAt 6 Tryz.f9) := regOk_of ok9 rfl hX (by kernel_rfl) (by kernel_rfl)
theorem f_laws_sameItems_l4Eq (R : Type) (c : Vars f_laws_sameItems_l4c) (v : Vars f_laws_sameItems_l4v) (kk : Vars f_laws_sameItems_l4c → (Vars f_laws_sameItems_l4v ⊕ Oc f_laws_sameItems_l4e) → Option R) : evC en9 su9 (loopAt 4 Tryz.f9) (Desc.mk2 f_laws_sameItems_l4v v (Desc.mk2 f_laws_sameItems_l4c c .empty)) (fun o => bodyK f_laws_sameItems_l4c f_laws_sameItems_l4v f_laws_sameItems_l4e o kk) = f_laws_sameItems_l4 R c v kk := by kernel_rfl
theorem f_laws_sameItems_l4Ok {X : Cx} (hX : en9.lo = X.lo) : SubOk Tryz.prog X 26 ⟨f_laws_sameItems_l4c, f_laws_sameItems_l4v, f_laws_sameItems_l4e, loopF f_laws_sameItems_l4⟩ (.loop (loopAt 4 Tryz.f9)) :=
  sub_loop (subs := su9) ok9 rfl hX (GoodN.good (K := True) (Eq.mpr (show GoodN Tryz.prog X 26 en9 su9 (loopAt 4 Tryz.f9) True = (RegOk Tryz.prog X 26 en9 6 (regAt 6 Tryz.f9) ∧ True) by kernel_rfl) ⟨(dr9r6 hX), trivial⟩)).1 (by decide) (by decide) f_laws_sameItems_l4Eq
theorem f_laws_sameItemsEq (x : Ps ins9) : evF en9 su9 Tryz.f9 ins9 res9 x = f_laws_sameItems x := by kernel_rfl
theorem so9 : Sound Tryz.prog 9 sg9 :=
  sound_of (fn := Tryz.f9) (c := bodyOf Tryz.f9) (subs := su9) (E := en9) (by kernel_rfl) (by kernel_rfl) (by decide) ok9 (by kernel_rfl) (by kernel_rfl) (by decide)
    (fun X hX => (GoodN.good (K := True) (Eq.mpr (show GoodN Tryz.prog X 26 en9 su9 (bodyOf Tryz.f9) True = (SubOk Tryz.prog X 26 ⟨f_laws_sameItems_l4c, f_laws_sameItems_l4v, f_laws_sameItems_l4e, loopF f_laws_sameItems_l4⟩ (.loop (loopAt 4 Tryz.f9)) ∧ True) by kernel_rfl) ⟨(f_laws_sameItems_l4Ok hX), trivial⟩)).1)
    (fun x r h => (f_laws_sameItemsEq x).trans h)
def fl70 : List (Nat × Sig) := [(20, sg20)]
def hi70 : List (Nat × (K × Mk)) := [(5, ((.sl (.int .u8)), (.o .s)))]
def dw70 : List (Nat × List (List Nat)) := [(7, [[], [], [], [5, 27], [0, 28], [5, 29], [5, 30], [], [0, 32], [33], [34], [35], [5, 36], [5]])]
def en70 : Env := { n := 40, ty := assocN tyL, fns := assocN fl70, lo := 1, hint := assocN hi70, draw := drawOf dw70 }
def su70 : Bool → Nat → Option Sub | false, 5 => some ⟨f_spec_l1Cur_torn_i5c, f_spec_l1Cur_torn_i5v, f_spec_l1Cur_torn_i5e, f_spec_l1Cur_torn_i5⟩ | _, _ => none
theorem ok70 : EnvOk Tryz.prog en70 := envOk_of rfl rfl tyL_ok (⟨so20, trivial⟩)
theorem dr70r7 {X : Cx} (hX : en70.lo = X.lo) : RegOk Tryz.prog X 40 en70 7 (regAt 7 Tryz.f70) := regOk_of ok70 rfl hX (by kernel_rfl) (by kernel_rfl)
def su70i5 : Bool → Nat → Option Sub | _, _ => none
theorem f_spec_l1Cur_torn_i5Eq (R : Type) (c : Vars f_spec_l1Cur_torn_i5c) (v : Vars f_spec_l1Cur_torn_i5v) (kk : Vars f_spec_l1Cur_torn_i5c → Oc f_spec_l1Cur_torn_i5e → Option R) : evC en70 su70i5 (ifAt 5 Tryz.f70) (Desc.mk2 f_spec_l1Cur_torn_i5v v (Desc.mk2 f_spec_l1Cur_torn_i5c c .empty)) (fun o => chk f_spec_l1Cur_torn_i5c f_spec_l1Cur_torn_i5e o kk) = f_spec_l1Cur_torn_i5 R c v kk := by kernel_rfl
theorem f_spec_l1Cur_torn_i5Ok {X : Cx} (hX : en70.lo = X.lo) : SubOk Tryz.prog X 40 ⟨f_spec_l1Cur_torn_i5c, f_spec_l1Cur_torn_i5v, f_spec_l1Cur_torn_i5e, f_spec_l1Cur_torn_i5⟩ (ifAt 5 Tryz.f70) :=
  sub_if (u := ⟨f_spec_l1Cur_torn_i5c, f_spec_l1Cur_torn_i5v, f_spec_l1Cur_torn_i5e, f_spec_l1Cur_torn_i5⟩) (subs := su70i5) ok70 rfl hX (GoodN.good (K := True) (Eq.mpr (show GoodN Tryz.prog X 40 en70 su70i5 (ifAt 5 Tryz.f70) True = (RegOk Tryz.prog X 40 en70 7 (regAt 7 Tryz.f70) ∧ True) by kernel_rfl) ⟨(dr70r7 hX), trivial⟩)).1 (by decide) (by decide) f_spec_l1Cur_torn_i5Eq
theorem f_spec_l1Cur_tornEq (x : Ps ins70) : evF en70 su70 Tryz.f70 ins70 res70 x = f_spec_l1Cur_torn x := by kernel_rfl
theorem so70 : Sound Tryz.prog 70 sg70 :=
  sound_of (fn := Tryz.f70) (c := bodyOf Tryz.f70) (subs := su70) (E := en70) (by kernel_rfl) (by kernel_rfl) (by decide) ok70 (by kernel_rfl) (by kernel_rfl) (by decide)
    (fun X hX => (GoodN.good (K := True) (Eq.mpr (show GoodN Tryz.prog X 40 en70 su70 (bodyOf Tryz.f70) True = (SubOk Tryz.prog X 40 ⟨f_spec_l1Cur_torn_i5c, f_spec_l1Cur_torn_i5v, f_spec_l1Cur_torn_i5e, f_spec_l1Cur_torn_i5⟩ (ifAt 5 Tryz.f70) ∧ True) by kernel_rfl) ⟨(f_spec_l1Cur_torn_i5Ok hX), trivial⟩)).1)
    (fun x r h => (f_spec_l1Cur_tornEq x).trans h)
def fl27 : List (Nat × Sig) := [(7, sg7), (19, sg19), (45, sg45), (70, sg70)]
def en27 : Env := { n := 17, ty := assocN tyL, fns := assocN fl27, lo := 1 }
def su27 : Bool → Nat → Option Sub | false, 3 => some ⟨f_spec_l1Cur_tableText_i3c, f_spec_l1Cur_tableText_i3v, f_spec_l1Cur_tableText_i3e, f_spec_l1Cur_tableText_i3⟩ | _, _ => none
theorem ok27 : EnvOk Tryz.prog en27 := envOk_of rfl rfl tyL_ok (⟨so7, ⟨so19, ⟨so45, ⟨so70, trivial⟩⟩⟩⟩)
def su27i3 : Bool → Nat → Option Sub | _, _ => none
theorem f_spec_l1Cur_tableText_i3Eq (R : Type) (c : Vars f_spec_l1Cur_tableText_i3c) (v : Vars f_spec_l1Cur_tableText_i3v) (kk : Vars f_spec_l1Cur_tableText_i3c → Oc f_spec_l1Cur_tableText_i3e → Option R) : evC en27 su27i3 (ifAt 3 Tryz.f27) (Desc.mk2 f_spec_l1Cur_tableText_i3v v (Desc.mk2 f_spec_l1Cur_tableText_i3c c .empty)) (fun o => chk f_spec_l1Cur_tableText_i3c f_spec_l1Cur_tableText_i3e o kk) = f_spec_l1Cur_tableText_i3 R c v kk := by kernel_rfl
theorem f_spec_l1Cur_tableText_i3Ok {X : Cx} (hX : en27.lo = X.lo) : SubOk Tryz.prog X 17 ⟨f_spec_l1Cur_tableText_i3c, f_spec_l1Cur_tableText_i3v, f_spec_l1Cur_tableText_i3e, f_spec_l1Cur_tableText_i3⟩ (ifAt 3 Tryz.f27) :=
  sub_if (u := ⟨f_spec_l1Cur_tableText_i3c, f_spec_l1Cur_tableText_i3v, f_spec_l1Cur_tableText_i3e, f_spec_l1Cur_tableText_i3⟩) (subs := su27i3) ok27 rfl hX (GoodN.good (K := True) (Eq.mpr (show GoodN Tryz.prog X 17 en27 su27i3 (ifAt 3 Tryz.f27) True = (True) by kernel_rfl) trivial)).1 (by decide) (by decide) f_spec_l1Cur_tableText_i3Eq
theorem f_spec_l1Cur_tableTextEq (x : Ps ins27) : evF en27 su27 Tryz.f27 ins27 res27 x = f_spec_l1Cur_tableText x := by kernel_rfl
theorem so27 : Sound Tryz.prog 27 sg27 :=
  sound_of (fn := Tryz.f27) (c := bodyOf Tryz.f27) (subs := su27) (E := en27) (by kernel_rfl) (by kernel_rfl) (by decide) ok27 (by kernel_rfl) (by kernel_rfl) (by decide)
    (fun X hX => (GoodN.good (K := True) (Eq.mpr (show GoodN Tryz.prog X 17 en27 su27 (bodyOf Tryz.f27) True = (SubOk Tryz.prog X 17 ⟨f_spec_l1Cur_tableText_i3c, f_spec_l1Cur_tableText_i3v, f_spec_l1Cur_tableText_i3e, f_spec_l1Cur_tableText_i3⟩ (ifAt 3 Tryz.f27) ∧ True) by kernel_rfl) ⟨(f_spec_l1Cur_tableText_i3Ok hX), trivial⟩)).1)
    (fun x r h => (f_spec_l1Cur_tableTextEq x).trans h)
def fl10 : List (Nat × Sig) := [(20, sg20), (27, sg27), (28, sg28)]
def en10 : Env := { n := 15, ty := assocN tyL, fns := assocN fl10, lo := 0 }
def su10 : Bool → Nat → Option Sub | _, _ => none
theorem ok10 : EnvOk Tryz.prog en10 := envOk_of rfl rfl tyL_ok (⟨so20, ⟨so27, ⟨so28, trivial⟩⟩⟩)
theorem f_spec_DrawGetFromEq (x : Ps ins10) : evF en10 su10 Tryz.f10 ins10 res10 x = f_spec_DrawGetFrom x := by kernel_rfl
theorem so10 : Sound Tryz.prog 10 sg10 :=
  sound_of (fn := Tryz.f10) (c := bodyOf Tryz.f10) (subs := su10) (E := en10) (by kernel_rfl) (by kernel_rfl) (by decide) ok10 (by kernel_rfl) (by kernel_rfl) (by decide)
    (fun X hX => (GoodN.good (K := True) (Eq.mpr (show GoodN Tryz.prog X 15 en10 su10 (bodyOf Tryz.f10) True = (True) by kernel_rfl) trivial)).1)
    (fun x r h => (f_spec_DrawGetFromEq x).trans h)
def fl72 : List (Nat × Sig) := []
def en72 : Env := { n := 49, ty := assocN tyL, fns := assocN fl72, lo := 0 }
def su72 : Bool → Nat → Option Sub | false, 6 => some ⟨f_slices_BinarySearchFunc_Item_i6c, f_slices_BinarySearchFunc_Item_i6v, f_slices_BinarySearchFunc_Item_i6e, f_slices_BinarySearchFunc_Item_i6⟩ | true, 3 => some ⟨f_slices_BinarySearchFunc_Item_l3c, f_slices_BinarySearchFunc_Item_l3v, f_slices_BinarySearchFunc_Item_l3e, loopF f_slices_BinarySearchFunc_Item_l3⟩ | _, _ => none
theorem ok72 : EnvOk Tryz.prog en72 := envOk_of rfl rfl tyL_ok (trivial)
theorem dr72r5 {X : Cx} (hX : en72.lo = X.lo) : RegOk Tryz.prog X 49 en72 5 (regAt 5 Tryz.f72) := regOk_of ok72 rfl hX (by kernel_rfl) (by kernel_rfl)
theorem dr72r8 {X : Cx} (hX : en72.lo = X.lo) : RegOk Tryz.prog X 49 en72 8 (regAt 8 Tryz.f72) := regOk_of ok72 rfl hX (by kernel_rfl) (by kernel_rfl)
def su72i6 : Bool → Nat → Option Sub | true, 3 => some ⟨f_slices_BinarySearchFunc_Item_l3c, f_slices_BinarySearchFunc_Item_l3v, f_slices_BinarySearchFunc_Item_l3e, loopF f_slices_BinarySearchFunc_Item_l3⟩ | _, _ => none
theorem f_slices_BinarySearchFunc_Item_i6Eq (R : Type) (c : Vars f_slices_BinarySearchFunc_Item_i6c) (v : Vars f_slices_BinarySearchFunc_Item_i6v) (kk : Vars f_slices_BinarySearchFunc_Item_i6c → Oc f_slices_BinarySearchFunc_Item_i6e → Option R) : evC en72 su72i6 (ifAt 6 Tryz.f72) (Desc.mk2 f_slices_BinarySearchFunc_Item_i6v v (Desc.mk2 f_slices_BinarySearchFunc_Item_i6c c .empty)) (fun o => chk f_slices_BinarySearchFunc_Item_i6c f_slices_BinarySearchFunc_Item_i6e o kk) = f_slices_BinarySearchFunc_Item_i6 R c v kk := by kernel_rfl
theorem f_slices_BinarySearchFunc_Item_i6Ok {X : Cx} (hX : en72.lo = X.lo) : SubOk Tryz.prog X 49 ⟨f_slices_BinarySearchFunc_Item_i6c, f_slices_BinarySearchFunc_Item_i6v, f_slices_BinarySearchFunc_Item_i6e, f_slices_BinarySearchFunc_Item_i6⟩ (ifAt 6 Tryz.f72) :=
  sub_if (u := ⟨f_slices_BinarySearchFunc_Item_i6c, f_slices_BinarySearchFunc_Item_i6v, f_slices_BinarySearchFunc_Item_i6e, f_slices_BinarySearchFunc_Item_i6⟩) (subs := su72i6) ok72 rfl hX (GoodN.good (K := True) (Eq.mpr (show GoodN Tryz.prog X 49 en72 su72i6 (ifAt 6 Tryz.f72) True = (True) by kernel_rfl) trivial)).1 (by decide) (by decide) f_slices_BinarySearchFunc_Item_i6Eq
theorem f_slices_BinarySearchFunc_Item_l3Eq (R : Type) (c : Vars f_slices_BinarySearchFunc_Item_l3c) (v : Vars f_slices_BinarySearchFunc_Item_l3v) (kk : Vars f_slices_BinarySearchFunc_Item_l3c → (Vars f_slices_BinarySearchFunc_Item_l3v ⊕ Oc f_slices_BinarySearchFunc_Item_l3e) → Option R) : evC en72 su72 (loopAt 3 Tryz.f72) (Desc.mk2 f_slices_BinarySearchFunc_Item_l3v v (Desc.mk2 f_slices_BinarySearchFunc_Item_l3c c .empty)) (fun o => bodyK f_slices_BinarySearchFunc_Item_l3c f_slices_BinarySearchFunc_Item_l3v f_slices_BinarySearchFunc_Item_l3e o kk) = f_slices_BinarySearchFunc_Item_l3 R c v kk := by kernel_rfl
theorem f_slices_BinarySearchFunc_Item_l3Ok {X : Cx} (hX : en72.lo = X.lo) : SubOk Tryz.prog X 49 ⟨f_slices_BinarySearchFunc_Item_l3c, f_slices_BinarySearchFunc_Item_l3v, f_slices_BinarySearchFunc_Item_l3e, loopF f_slices_BinarySearchFunc_Item_l3⟩ (.loop (loopAt 3 Tryz.f72)) :=
  sub_loop (subs := su72) ok72 rfl hX (GoodN.good (K := True) (Eq.mpr (show GoodN Tryz.prog X 49 en72 su72 (loopAt 3 Tryz.f72) True = (RegOk Tryz.prog X 49 en72 5 (regAt 5 Tryz.f72) ∧ SubOk Tryz.prog X 49 ⟨f_slices_BinarySearchFunc_Item_i6c, f_slices_BinarySearchFunc_Item_i6v, f_slices_BinarySearchFunc_Item_i6e, f_slices_BinarySearchFunc_Item_i6⟩ (ifAt 6 Tryz.f72) ∧ True) by kernel_rfl) ⟨(dr72r5 hX), (f_slices_BinarySearchFunc_Item_i6Ok hX), trivial⟩)).1 (by decide) (by decide) f_slices_BinarySearchFunc_Item_l3Eq
theorem f_slices_BinarySearchFunc_ItemEq (x : Ps ins72) : evF en72 su72 Tryz.f72 ins72 res72 x = f_slices_BinarySearchFunc_Item x := by kernel_rfl
theorem so72 : Sound Tryz.prog 72 sg72 :=
  sound_of (fn := Tryz.f72) (c := bodyOf Tryz.f72) (subs := su72) (E := en72) (by kernel_rfl) (by kernel_rfl) (by decide) ok72 (by kernel_rfl) (by kernel_rfl) (by decide)
    (fun X hX => (GoodN.good (K := True) (Eq.mpr (show GoodN Tryz.prog X 49 en72 su72 (bodyOf Tryz.f72) True = (SubOk Tryz.prog X 49 ⟨f_slices_BinarySearchFunc_Item_l3c, f_slices_BinarySearchFunc_Item_l3v, f_slices_BinarySearchFunc_Item_l3e, loopF f_slices_BinarySearchFunc_Item_l3⟩ (.loop (loopAt 3 Tryz.f72)) ∧ RegOk Tryz.prog X 49 en72 8 (regAt 8 Tryz.f72) ∧ True) by kernel_rfl) ⟨(f_slices_BinarySearchFunc_Item_l3Ok hX), (dr72r8 hX), trivial⟩)).1)
    (fun x r h => (f_slices_BinarySearchFunc_ItemEq x).trans h)
def fl31 : List (Nat × Sig) := [(49, sg49), (72, sg72)]
def en31 : Env := { n := 18, ty := assocN tyL, fns := assocN fl31, lo := 0 }
def su31 : Bool → Nat → Option Sub | _, _ => none
theorem ok31 : EnvOk Tryz.prog en31 := envOk_of rfl rfl tyL_ok (⟨so49, ⟨so72, trivial⟩⟩)
theorem f_impl_seekRunEq (x : Ps ins31) : evF en31 su31 Tryz.f31 ins31 res31 x = f_impl_seekRun x := by kernel_rfl
theorem so31 : Sound Tryz.prog 31 sg31 :=
  sound_of (fn := Tryz.f31) (c := bodyOf Tryz.f31) (subs := su31) (E := en31) (by kernel_rfl) (by kernel_rfl) (by decide) ok31 (by kernel_rfl) (by kernel_rfl) (by decide)
    (fun X hX => (GoodN.good (K := True) (Eq.mpr (show GoodN Tryz.prog X 18 en31 su31 (bodyOf Tryz.f31) True = (True) by kernel_rfl) trivial)).1)
    (fun x r h => (f_impl_seekRunEq x).trans h)
def fl44r : List (Nat × Sig) := []
def en44r : Env := { n := 17, ty := assocN tyL, fns := assocN fl44r, lo := 0 }
def su44r : Bool → Nat → Option Sub | _, _ => none
theorem ok44r : EnvOk Tryz.prog en44r := envOk_of rfl rfl tyL_ok (trivial)
theorem f_impl_Filter_has_rEq (x : Ps ins44r) : evF en44r su44r Tryz.f44 ins44r res44r x = f_impl_Filter_has_r x := by kernel_rfl
theorem so44r : Sound Tryz.prog 44 sg44r :=
  sound_of (fn := Tryz.f44) (c := bodyOf Tryz.f44) (subs := su44r) (E := en44r) (by kernel_rfl) (by kernel_rfl) (by decide) ok44r (by kernel_rfl) (by kernel_rfl) (by decide)
    (fun X hX => (GoodN.good (K := True) (Eq.mpr (show GoodN Tryz.prog X 17 en44r su44r (bodyOf Tryz.f44) True = (True) by kernel_rfl) trivial)).1)
    (fun x r h => (f_impl_Filter_has_rEq x).trans h)
def fl43 : List (Nat × Sig) := [(44, sg44r)]
def en43 : Env := { n := 7, ty := assocN tyL, fns := assocN fl43, lo := 0 }
def su43 : Bool → Nat → Option Sub | _, _ => none
theorem ok43 : EnvOk Tryz.prog en43 := envOk_of rfl rfl tyL_ok (⟨so44r, trivial⟩)
theorem f_impl_MayHave_1Eq (x : Ps ins43) : evF en43 su43 Tryz.f43 ins43 res43 x = f_impl_MayHave_1 x := by kernel_rfl
theorem so43 : Sound Tryz.prog 43 sg43 :=
  sound_of (fn := Tryz.f43) (c := bodyOf Tryz.f43) (subs := su43) (E := en43) (by kernel_rfl) (by kernel_rfl) (by decide) ok43 (by kernel_rfl) (by kernel_rfl) (by decide)
    (fun X hX => (GoodN.good (K := True) (Eq.mpr (show GoodN Tryz.prog X 7 en43 su43 (bodyOf Tryz.f43) True = (True) by kernel_rfl) trivial)).1)
    (fun x r h => (f_impl_MayHave_1Eq x).trans h)
def fl79 : List (Nat × Sig) := []
def en79 : Env := { n := 19, ty := assocN tyL, fns := assocN fl79, lo := 0 }
def su79 : Bool → Nat → Option Sub | true, 2 => some ⟨f_slices_IndexFunc_int_l2c, f_slices_IndexFunc_int_l2v, f_slices_IndexFunc_int_l2e, loopF f_slices_IndexFunc_int_l2⟩ | _, _ => none
theorem ok79 : EnvOk Tryz.prog en79 := envOk_of rfl rfl tyL_ok (trivial)
theorem f_slices_IndexFunc_int_l2Eq (R : Type) (c : Vars f_slices_IndexFunc_int_l2c) (v : Vars f_slices_IndexFunc_int_l2v) (kk : Vars f_slices_IndexFunc_int_l2c → (Vars f_slices_IndexFunc_int_l2v ⊕ Oc f_slices_IndexFunc_int_l2e) → Option R) : evC en79 su79 (loopAt 2 Tryz.f79) (Desc.mk2 f_slices_IndexFunc_int_l2v v (Desc.mk2 f_slices_IndexFunc_int_l2c c .empty)) (fun o => bodyK f_slices_IndexFunc_int_l2c f_slices_IndexFunc_int_l2v f_slices_IndexFunc_int_l2e o kk) = f_slices_IndexFunc_int_l2 R c v kk := by kernel_rfl
theorem f_slices_IndexFunc_int_l2Ok {X : Cx} (hX : en79.lo = X.lo) : SubOk Tryz.prog X 19 ⟨f_slices_IndexFunc_int_l2c, f_slices_IndexFunc_int_l2v, f_slices_IndexFunc_int_l2e, loopF f_slices_IndexFunc_int_l2⟩ (.loop (loopAt 2 Tryz.f79)) :=
  sub_loop (subs := su79) ok79 rfl hX (GoodN.good (K := True) (Eq.mpr (show GoodN Tryz.prog X 19 en79 su79 (loopAt 2 Tryz.f79) True = (True) by kernel_rfl) trivial)).1 (by decide) (by decide) f_slices_IndexFunc_int_l2Eq
theorem f_slices_IndexFunc_intEq (x : Ps ins79) : evF en79 su79 Tryz.f79 ins79 res79 x = f_slices_IndexFunc_int x := by kernel_rfl
theorem so79 : Sound Tryz.prog 79 sg79 :=
  sound_of (fn := Tryz.f79) (c := bodyOf Tryz.f79) (subs := su79) (E := en79) (by kernel_rfl) (by kernel_rfl) (by decide) ok79 (by kernel_rfl) (by kernel_rfl) (by decide)
    (fun X hX => (GoodN.good (K := True) (Eq.mpr (show GoodN Tryz.prog X 19 en79 su79 (bodyOf Tryz.f79) True = (SubOk Tryz.prog X 19 ⟨f_slices_IndexFunc_int_l2c, f_slices_IndexFunc_int_l2v, f_slices_IndexFunc_int_l2e, loopF f_slices_IndexFunc_int_l2⟩ (.loop (loopAt 2 Tryz.f79)) ∧ True) by kernel_rfl) ⟨(f_slices_IndexFunc_int_l2Ok hX), trivial⟩)).1)
    (fun x r h => (f_slices_IndexFunc_intEq x).trans h)
def fl41 : List (Nat × Sig) := [(79, sg79)]
def en41 : Env := { n := 9, ty := assocN tyL, fns := assocN fl41, lo := 0 }
def su41 : Bool → Nat → Option Sub | _, _ => none
theorem ok41 : EnvOk Tryz.prog en41 := envOk_of rfl rfl tyL_ok (⟨so79, trivial⟩)
theorem f_slices_ContainsFunc_intEq (x : Ps ins41) : evF en41 su41 Tryz.f41 ins41 res41 x = f_slices_ContainsFunc_int x := by kernel_rfl
theorem so41 : Sound Tryz.prog 41 sg41 :=
  sound_of (fn := Tryz.f41) (c := bodyOf Tryz.f41) (subs := su41) (E := en41) (by kernel_rfl) (by kernel_rfl) (by decide) ok41 (by kernel_rfl) (by kernel_rfl) (by decide)
    (fun X hX => (GoodN.good (K := True) (Eq.mpr (show GoodN Tryz.prog X 9 en41 su41 (bodyOf Tryz.f41) True = (True) by kernel_rfl) trivial)).1)
    (fun x r h => (f_slices_ContainsFunc_intEq x).trans h)
def fl18 : List (Nat × Sig) := [(29, sg29), (40, sg40), (41, sg41), (42, sg42), (43, sg43)]
def en18 : Env := { n := 21, ty := assocN tyL, fns := assocN fl18, lo := 0 }
def su18 : Bool → Nat → Option Sub | _, _ => none
theorem ok18 : EnvOk Tryz.prog en18 := envOk_of rfl rfl tyL_ok (⟨so29, ⟨so40, ⟨so41, ⟨so42, ⟨so43, trivial⟩⟩⟩⟩⟩)
theorem f_impl_MayHaveEq (x : Ps ins18) : evF en18 su18 Tryz.f18 ins18 res18 x = f_impl_MayHave x := by kernel_rfl
theorem so18 : Sound Tryz.prog 18 sg18 :=
  sound_of (fn := Tryz.f18) (c := bodyOf Tryz.f18) (subs := su18) (E := en18) (by kernel_rfl) (by kernel_rfl) (by decide) ok18 (by kernel_rfl) (by kernel_rfl) (by decide)
    (fun X hX => (GoodN.good (K := True) (Eq.mpr (show GoodN Tryz.prog X 21 en18 su18 (bodyOf Tryz.f18) True = (True) by kernel_rfl) trivial)).1)
    (fun x r h => (f_impl_MayHaveEq x).trans h)
def fl11 : List (Nat × Sig) := [(18, sg18), (26, sg26), (29, sg29), (30, sg30), (31, sg31)]
def en11 : Env := { n := 68, ty := assocN tyL, fns := assocN fl11, lo := 0 }
def su11 : Bool → Nat → Option Sub | _, _ => none
theorem ok11 : EnvOk Tryz.prog en11 := envOk_of rfl rfl tyL_ok (⟨so18, ⟨so26, ⟨so29, ⟨so30, ⟨so31, trivial⟩⟩⟩⟩⟩)
theorem f_impl_GetFromEq (x : Ps ins11) : evF en11 su11 Tryz.f11 ins11 res11 x = f_impl_GetFrom x := by kernel_rfl
theorem so11 : Sound Tryz.prog 11 sg11 :=
  sound_of (fn := Tryz.f11) (c := bodyOf Tryz.f11) (subs := su11) (E := en11) (by kernel_rfl) (by kernel_rfl) (by decide) ok11 (by kernel_rfl) (by kernel_rfl) (by decide)
    (fun X hX => (GoodN.good (K := True) (Eq.mpr (show GoodN Tryz.prog X 68 en11 su11 (bodyOf Tryz.f11) True = (True) by kernel_rfl) trivial)).1)
    (fun x r h => (f_impl_GetFromEq x).trans h)
def fl12 : List (Nat × Sig) := [(32, sg32), (33, sg33), (34, sg34), (35, sg35)]
def en12 : Env := { n := 26, ty := assocN tyL, fns := assocN fl12, lo := 0 }
def su12 : Bool → Nat → Option Sub | _, _ => none
theorem ok12 : EnvOk Tryz.prog en12 := envOk_of rfl rfl tyL_ok (⟨so32, ⟨so33, ⟨so34, ⟨so35, trivial⟩⟩⟩⟩)
theorem f_spec_SeekRunEq (x : Ps ins12) : evF en12 su12 Tryz.f12 ins12 res12 x = f_spec_SeekRun x := by kernel_rfl
theorem so12 : Sound Tryz.prog 12 sg12 :=
  sound_of (fn := Tryz.f12) (c := bodyOf Tryz.f12) (subs := su12) (E := en12) (by kernel_rfl) (by kernel_rfl) (by decide) ok12 (by kernel_rfl) (by kernel_rfl) (by decide)
    (fun X hX => (GoodN.good (K := True) (Eq.mpr (show GoodN Tryz.prog X 26 en12 su12 (bodyOf Tryz.f12) True = (True) by kernel_rfl) trivial)).1)
    (fun x r h => (f_spec_SeekRunEq x).trans h)
def fl3 : List (Nat × Sig) := [(5, sg5), (6, sg6), (7, sg7), (8, sg8), (9, sg9), (10, sg10), (11, sg11), (12, sg12)]
def hi3 : List (Nat × (K × Mk)) := [(5, ((.sl kdItem), (.o .s))), (10, ((.sl kdItem), (.o .s)))]
def en3 : Env := { n := 125, ty := assocN tyL, fns := assocN fl3, lo := 0, hint := assocN hi3 }
def su3 : Bool → Nat → Option Sub | _, _ => none
theorem ok3 : EnvOk Tryz.prog en3 := envOk_of rfl rfl tyL_ok (⟨so5, ⟨so6, ⟨so7, ⟨so8, ⟨so9, ⟨so10, ⟨so11, ⟨so12, trivial⟩⟩⟩⟩⟩⟩⟩⟩)
theorem dr3r19 {X : Cx} (hX : en3.lo = X.lo) : RegOk Tryz.prog X 125 en3 19 (regAt 19 Tryz.f3) := regOk_of ok3 rfl hX (by kernel_rfl) (by kernel_rfl)
theorem f_laws_FnTablesEq (x : Ps ins3) : evF en3 su3 Tryz.f3 ins3 res3 x = f_laws_FnTables x := by kernel_rfl
theorem so3 : Sound Tryz.prog 3 sg3 :=
  sound_of (fn := Tryz.f3) (c := bodyOf Tryz.f3) (subs := su3) (E := en3) (by kernel_rfl) (by kernel_rfl) (by decide) ok3 (by kernel_rfl) (by kernel_rfl) (by decide)
    (fun X hX => (GoodN.good (K := True) (Eq.mpr (show GoodN Tryz.prog X 125 en3 su3 (bodyOf Tryz.f3) True = (RegOk Tryz.prog X 125 en3 19 (regAt 19 Tryz.f3) ∧ True) by kernel_rfl) ⟨(dr3r19 hX), trivial⟩)).1)
    (fun x r h => (f_laws_FnTablesEq x).trans h)
def fl36 : List (Nat × Sig) := [(27, sg27)]
def en36 : Env := { n := 9, ty := assocN tyL, fns := assocN fl36, lo := 0 }
def su36 : Bool → Nat → Option Sub | _, _ => none
theorem ok36 : EnvOk Tryz.prog en36 := envOk_of rfl rfl tyL_ok (⟨so27, trivial⟩)
theorem f_spec_DrawReadTableEq (x : Ps ins36) : evF en36 su36 Tryz.f36 ins36 res36 x = f_spec_DrawReadTable x := by kernel_rfl
theorem so36 : Sound Tryz.prog 36 sg36 :=
  sound_of (fn := Tryz.f36) (c := bodyOf Tryz.f36) (subs := su36) (E := en36) (by kernel_rfl) (by kernel_rfl) (by decide) ok36 (by kernel_rfl) (by kernel_rfl) (by decide)
    (fun X hX => (GoodN.good (K := True) (Eq.mpr (show GoodN Tryz.prog X 9 en36 su36 (bodyOf Tryz.f36) True = (True) by kernel_rfl) trivial)).1)
    (fun x r h => (f_spec_DrawReadTableEq x).trans h)
def fl13 : List (Nat × Sig) := [(36, sg36)]
def en13 : Env := { n := 5, ty := assocN tyL, fns := assocN fl13, lo := 0 }
def su13 : Bool → Nat → Option Sub | _, _ => none
theorem ok13 : EnvOk Tryz.prog en13 := envOk_of rfl rfl tyL_ok (⟨so36, trivial⟩)
theorem f_spec_DrawIndexOfEq (x : Ps ins13) : evF en13 su13 Tryz.f13 ins13 res13 x = f_spec_DrawIndexOf x := by kernel_rfl
theorem so13 : Sound Tryz.prog 13 sg13 :=
  sound_of (fn := Tryz.f13) (c := bodyOf Tryz.f13) (subs := su13) (E := en13) (by kernel_rfl) (by kernel_rfl) (by decide) ok13 (by kernel_rfl) (by kernel_rfl) (by decide)
    (fun X hX => (GoodN.good (K := True) (Eq.mpr (show GoodN Tryz.prog X 5 en13 su13 (bodyOf Tryz.f13) True = (True) by kernel_rfl) trivial)).1)
    (fun x r h => (f_spec_DrawIndexOfEq x).trans h)
def fl14 : List (Nat × Sig) := [(26, sg26)]
def hi14 : List (Nat × (K × Mk)) := [(2, ((.sl kdPlace), (.o .s)))]
def en14 : Env := { n := 15, ty := assocN tyL, fns := assocN fl14, lo := 0, hint := assocN hi14 }
def su14 : Bool → Nat → Option Sub | _, _ => none
theorem ok14 : EnvOk Tryz.prog en14 := envOk_of rfl rfl tyL_ok (⟨so26, trivial⟩)
theorem f_impl_IndexOfEq (x : Ps ins14) : evF en14 su14 Tryz.f14 ins14 res14 x = f_impl_IndexOf x := by kernel_rfl
theorem so14 : Sound Tryz.prog 14 sg14 :=
  sound_of (fn := Tryz.f14) (c := bodyOf Tryz.f14) (subs := su14) (E := en14) (by kernel_rfl) (by kernel_rfl) (by decide) ok14 (by kernel_rfl) (by kernel_rfl) (by decide)
    (fun X hX => (GoodN.good (K := True) (Eq.mpr (show GoodN Tryz.prog X 15 en14 su14 (bodyOf Tryz.f14) True = (True) by kernel_rfl) trivial)).1)
    (fun x r h => (f_impl_IndexOfEq x).trans h)
def fl77 : List (Nat × Sig) := []
def en77 : Env := { n := 42, ty := assocN tyL, fns := assocN fl77, lo := 0 }
def su77 : Bool → Nat → Option Sub | true, 3 => some ⟨f_spec_l2Take_l3c, f_spec_l2Take_l3v, f_spec_l2Take_l3e, loopF f_spec_l2Take_l3⟩ | _, _ => none
theorem ok77 : EnvOk Tryz.prog en77 := envOk_of rfl rfl tyL_ok (trivial)
theorem f_spec_l2Take_l3Eq (R : Type) (c : Vars f_spec_l2Take_l3c) (v : Vars f_spec_l2Take_l3v) (kk : Vars f_spec_l2Take_l3c → (Vars f_spec_l2Take_l3v ⊕ Oc f_spec_l2Take_l3e) → Option R) : evC en77 su77 (loopAt 3 Tryz.f77) (Desc.mk2 f_spec_l2Take_l3v v (Desc.mk2 f_spec_l2Take_l3c c .empty)) (fun o => bodyK f_spec_l2Take_l3c f_spec_l2Take_l3v f_spec_l2Take_l3e o kk) = f_spec_l2Take_l3 R c v kk := by kernel_rfl
theorem f_spec_l2Take_l3Ok {X : Cx} (hX : en77.lo = X.lo) : SubOk Tryz.prog X 42 ⟨f_spec_l2Take_l3c, f_spec_l2Take_l3v, f_spec_l2Take_l3e, loopF f_spec_l2Take_l3⟩ (.loop (loopAt 3 Tryz.f77)) :=
  sub_loop (subs := su77) ok77 rfl hX (GoodN.good (K := True) (Eq.mpr (show GoodN Tryz.prog X 42 en77 su77 (loopAt 3 Tryz.f77) True = (True) by kernel_rfl) trivial)).1 (by decide) (by decide) f_spec_l2Take_l3Eq
theorem f_spec_l2TakeEq (x : Ps ins77) : evF en77 su77 Tryz.f77 ins77 res77 x = f_spec_l2Take x := by kernel_rfl
theorem so77 : Sound Tryz.prog 77 sg77 :=
  sound_of (fn := Tryz.f77) (c := bodyOf Tryz.f77) (subs := su77) (E := en77) (by kernel_rfl) (by kernel_rfl) (by decide) ok77 (by kernel_rfl) (by kernel_rfl) (by decide)
    (fun X hX => (GoodN.good (K := True) (Eq.mpr (show GoodN Tryz.prog X 42 en77 su77 (bodyOf Tryz.f77) True = (SubOk Tryz.prog X 42 ⟨f_spec_l2Take_l3c, f_spec_l2Take_l3v, f_spec_l2Take_l3e, loopF f_spec_l2Take_l3⟩ (.loop (loopAt 3 Tryz.f77)) ∧ True) by kernel_rfl) ⟨(f_spec_l2Take_l3Ok hX), trivial⟩)).1)
    (fun x r h => (f_spec_l2TakeEq x).trans h)
def fl76 : List (Nat × Sig) := [(65, sg65), (66, sg66), (77, sg77)]
def en76 : Env := { n := 49, ty := assocN tyL, fns := assocN fl76, lo := 0 }
def su76 : Bool → Nat → Option Sub | _, _ => none
theorem ok76 : EnvOk Tryz.prog en76 := envOk_of rfl rfl tyL_ok (⟨so65, ⟨so66, ⟨so77, trivial⟩⟩⟩)
theorem dr76r6 {X : Cx} (hX : en76.lo = X.lo) : RegOk Tryz.prog X 49 en76 6 (regAt 6 Tryz.f76) := regOk_of ok76 rfl hX (by kernel_rfl) (by kernel_rfl)
theorem f_spec_l2TakeFrameEq (x : Ps ins76) : evF en76 su76 Tryz.f76 ins76 res76 x = f_spec_l2TakeFrame x := by kernel_rfl
theorem so76 : Sound Tryz.prog 76 sg76 :=
  sound_of (fn := Tryz.f76) (c := bodyOf Tryz.f76) (subs := su76) (E := en76) (by kernel_rfl) (by kernel_rfl) (by decide) ok76 (by kernel_rfl) (by kernel_rfl) (by decide)
    (fun X hX => (GoodN.good (K := True) (Eq.mpr (show GoodN Tryz.prog X 49 en76 su76 (bodyOf Tryz.f76) True = (RegOk Tryz.prog X 49 en76 6 (regAt 6 Tryz.f76) ∧ True) by kernel_rfl) ⟨(dr76r6 hX), trivial⟩)).1)
    (fun x r h => (f_spec_l2TakeFrameEq x).trans h)
def fl38 : List (Nat × Sig) := [(65, sg65), (66, sg66), (76, sg76)]
def en38 : Env := { n := 99, ty := assocN tyL, fns := assocN fl38, lo := 0 }
def su38 : Bool → Nat → Option Sub | _, _ => none
theorem ok38 : EnvOk Tryz.prog en38 := envOk_of rfl rfl tyL_ok (⟨so65, ⟨so66, ⟨so76, trivial⟩⟩⟩)
theorem dr38r2 {X : Cx} (hX : en38.lo = X.lo) : RegOk Tryz.prog X 99 en38 2 (regAt 2 Tryz.f38) := regOk_of ok38 rfl hX (by kernel_rfl) (by kernel_rfl)
theorem dr38r4 {X : Cx} (hX : en38.lo = X.lo) : RegOk Tryz.prog X 99 en38 4 (regAt 4 Tryz.f38) := regOk_of ok38 rfl hX (by kernel_rfl) (by kernel_rfl)
theorem f_spec_l7PartsEq (x : Ps ins38) : evF en38 su38 Tryz.f38 ins38 res38 x = f_spec_l7Parts x := by kernel_rfl
theorem so38 : Sound Tryz.prog 38 sg38 :=
  sound_of (fn := Tryz.f38) (c := bodyOf Tryz.f38) (subs := su38) (E := en38) (by kernel_rfl) (by kernel_rfl) (by decide) ok38 (by kernel_rfl) (by kernel_rfl) (by decide)
    (fun X hX => (GoodN.good (K := True) (Eq.mpr (show GoodN Tryz.prog X 99 en38 su38 (bodyOf Tryz.f38) True = (RegOk Tryz.prog X 99 en38 2 (regAt 2 Tryz.f38) ∧ RegOk Tryz.prog X 99 en38 4 (regAt 4 Tryz.f38) ∧ True) by kernel_rfl) ⟨(dr38r2 hX), (dr38r4 hX), trivial⟩)).1)
    (fun x r h => (f_spec_l7PartsEq x).trans h)
def fl39 : List (Nat × Sig) := [(77, sg77)]
def hi39 : List (Nat × (K × Mk)) := [(2, ((.sl kdPlace), (.o .s))), (4, ((.sl kdPlace), (.o .s)))]
def en39 : Env := { n := 93, ty := assocN tyL, fns := assocN fl39, lo := 0, hint := assocN hi39 }
def su39 : Bool → Nat → Option Sub | true, 2 => some ⟨f_spec_l7Index_l2c, f_spec_l7Index_l2v, f_spec_l7Index_l2e, loopF f_spec_l7Index_l2⟩ | _, _ => none
theorem ok39 : EnvOk Tryz.prog en39 := envOk_of rfl rfl tyL_ok (⟨so77, trivial⟩)
theorem f_spec_l7Index_l2Eq (R : Type) (c : Vars f_spec_l7Index_l2c) (v : Vars f_spec_l7Index_l2v) (kk : Vars f_spec_l7Index_l2c → (Vars f_spec_l7Index_l2v ⊕ Oc f_spec_l7Index_l2e) → Option R) : evC en39 su39 (loopAt 2 Tryz.f39) (Desc.mk2 f_spec_l7Index_l2v v (Desc.mk2 f_spec_l7Index_l2c c .empty)) (fun o => bodyK f_spec_l7Index_l2c f_spec_l7Index_l2v f_spec_l7Index_l2e o kk) = f_spec_l7Index_l2 R c v kk := by kernel_rfl
theorem f_spec_l7Index_l2Ok {X : Cx} (hX : en39.lo = X.lo) : SubOk Tryz.prog X 93 ⟨f_spec_l7Index_l2c, f_spec_l7Index_l2v, f_spec_l7Index_l2e, loopF f_spec_l7Index_l2⟩ (.loop (loopAt 2 Tryz.f39)) :=
  sub_loop (subs := su39) ok39 rfl hX (GoodN.good (K := True) (Eq.mpr (show GoodN Tryz.prog X 93 en39 su39 (loopAt 2 Tryz.f39) True = (True) by kernel_rfl) trivial)).1 (by decide) (by decide) f_spec_l7Index_l2Eq
theorem f_spec_l7IndexEq (x : Ps ins39) : evF en39 su39 Tryz.f39 ins39 res39 x = f_spec_l7Index x := by kernel_rfl
theorem so39 : Sound Tryz.prog 39 sg39 :=
  sound_of (fn := Tryz.f39) (c := bodyOf Tryz.f39) (subs := su39) (E := en39) (by kernel_rfl) (by kernel_rfl) (by decide) ok39 (by kernel_rfl) (by kernel_rfl) (by decide)
    (fun X hX => (GoodN.good (K := True) (Eq.mpr (show GoodN Tryz.prog X 93 en39 su39 (bodyOf Tryz.f39) True = (SubOk Tryz.prog X 93 ⟨f_spec_l7Index_l2c, f_spec_l7Index_l2v, f_spec_l7Index_l2e, loopF f_spec_l7Index_l2⟩ (.loop (loopAt 2 Tryz.f39)) ∧ True) by kernel_rfl) ⟨(f_spec_l7Index_l2Ok hX), trivial⟩)).1)
    (fun x r h => (f_spec_l7IndexEq x).trans h)
def fl101 : List (Nat × Sig) := [(65, sg65), (66, sg66)]
def hi101 : List (Nat × (K × Mk)) := [(3, ((.sl (.int .i64)), (.o .s))), (8, ((.sl (.int .i64)), (.o .s)))]
def dw101 : List (Nat × List (List Nat)) := [(12, [[], [], [], [54], [55], [], [], [58], [59], [60], [61], [62], [63], [8, 63, 64], [8, 64]])]
def en101 : Env := { n := 69, ty := assocN tyL, fns := assocN fl101, lo := 0, hint := assocN hi101, draw := drawOf dw101 }
def su101 : Bool → Nat → Option Sub | true, 10 => some ⟨f_spec_l6Tail_l10c, f_spec_l6Tail_l10v, f_spec_l6Tail_l10e, loopF f_spec_l6Tail_l10⟩ | _, _ => none
theorem ok101 : EnvOk Tryz.prog en101 := envOk_of rfl rfl tyL_ok (⟨so65, ⟨so66, trivial⟩⟩)
theorem dr101r2 {X : Cx} (hX : en101.lo = X.lo) : RegOk Tryz.prog X 69 en101 2 (regAt 2 Tryz.f101) := regOk_of ok101 rfl hX (by kernel_rfl) (by kernel_rfl)
theorem dr101r4 {X : Cx} (hX : en101.lo = X.lo) : RegOk Tryz.prog X 69 en101 4 (regAt 4 Tryz.f101) := regOk_of ok101 rfl hX (by kernel_rfl) (by kernel_rfl)
theorem dr101r12 {X : Cx} (hX : en101.lo = X.lo) : RegOk Tryz.prog X 69 en101 12 (regAt 12 Tryz.f101) := regOk_of ok101 rfl hX (by kernel_rfl) (by kernel_rfl)
theorem f_spec_l6Tail_l10Eq (R : Type) (c : Vars f_spec_l6Tail_l10c) (v : Vars f_spec_l6Tail_l10v) (kk : Vars f_spec_l6Tail_l10c → (Vars f_spec_l6Tail_l10v ⊕ Oc f_spec_l6Tail_l10e) → Option R) : evC en101 su101 (loopAt 10 Tryz.f101) (Desc.mk2 f_spec_l6Tail_l10v v (Desc.mk2 f_spec_l6Tail_l10c c .empty)) (fun o => bodyK f_spec_l6Tail_l10c f_spec_l6Tail_l10v f_spec_l6Tail_l10e o kk) = f_spec_l6Tail_l10 R c v kk := by kernel_rfl
theorem f_spec_l6Tail_l10Ok {X : Cx} (hX : en101.lo = X.lo) : SubOk Tryz.prog X 69 ⟨f_spec_l6Tail_l10c, f_spec_l6Tail_l10v, f_spec_l6Tail_l10e, loopF f_spec_l6Tail_l10⟩ (.loop (loopAt 10 Tryz.f101)) :=
  sub_loop (subs := su101) ok101 rfl hX (GoodN.good (K := True) (Eq.mpr (show GoodN Tryz.prog X 69 en101 su101 (loopAt 10 Tryz.f101) True = (RegOk Tryz.prog X 69 en101 12 (regAt 12 Tryz.f101) ∧ True) by kernel_rfl) ⟨(dr101r12 hX), trivial⟩)).1 (by decide) (by decide) f_spec_l6Tail_l10Eq
theorem f_spec_l6TailEq (x : Ps ins101) : evF en101 su101 Tryz.f101 ins101 res101 x = f_spec_l6Tail x := by kernel_rfl
theorem so101 : Sound Tryz.prog 101 sg101 :=
  sound_of (fn := Tryz.f101) (c := bodyOf Tryz.f101) (subs := su101) (E := en101) (by kernel_rfl) (by kernel_rfl) (by decide) ok101 (by kernel_rfl) (by kernel_rfl) (by decide)
    (fun X hX => (GoodN.good (K := True) (Eq.mpr (show GoodN Tryz.prog X 69 en101 su101 (bodyOf Tryz.f101) True = (RegOk Tryz.prog X 69 en101 2 (regAt 2 Tryz.f101) ∧ RegOk Tryz.prog X 69 en101 4 (regAt 4 Tryz.f101) ∧ SubOk Tryz.prog X 69 ⟨f_spec_l6Tail_l10c, f_spec_l6Tail_l10v, f_spec_l6Tail_l10e, loopF f_spec_l6Tail_l10⟩ (.loop (loopAt 10 Tryz.f101)) ∧ True) by kernel_rfl) ⟨(dr101r2 hX), (dr101r4 hX), (f_spec_l6Tail_l10Ok hX), trivial⟩)).1)
    (fun x r h => (f_spec_l6TailEq x).trans h)
def fl102 : List (Nat × Sig) := [(77, sg77)]
def dw102 : List (Nat × List (List Nat)) := [(8, [[], [], [95], [], [], [], [], [100], [101], [102], [], [104], [], [106], [], [], [], [110], [], [], [113], [], [115], [116], [117], [], [], [120], [], [122], [4], [5]])]
def en102 : Env := { n := 123, ty := assocN tyL, fns := assocN fl102, lo := 0, draw := drawOf dw102 }
def su102 : Bool → Nat → Option Sub | _, _ => none
theorem ok102 : EnvOk Tryz.prog en102 := envOk_of rfl rfl tyL_ok (⟨so77, trivial⟩)
theorem dr102r8 {X : Cx} (hX : en102.lo = X.lo) : RegOk Tryz.prog X 123 en102 8 (regAt 8 Tryz.f102) := regOk_of ok102 rfl hX (by kernel_rfl) (by kernel_rfl)
theorem f_spec_l6ItemEq (x : Ps ins102) : evF en102 su102 Tryz.f102 ins102 res102 x = f_spec_l6Item x := by kernel_rfl
theorem so102 : Sound Tryz.prog 102 sg102 :=
  sound_of (fn := Tryz.f102) (c := bodyOf Tryz.f102) (subs := su102) (E := en102) (by kernel_rfl) (by kernel_rfl) (by decide) ok102 (by kernel_rfl) (by kernel_rfl) (by decide)
    (fun X hX => (GoodN.good (K := True) (Eq.mpr (show GoodN Tryz.prog X 123 en102 su102 (bodyOf Tryz.f102) True = (RegOk Tryz.prog X 123 en102 8 (regAt 8 Tryz.f102) ∧ True) by kernel_rfl) ⟨(dr102r8 hX), trivial⟩)).1)
    (fun x r h => (f_spec_l6ItemEq x).trans h)
def fl75 : List (Nat × Sig) := [(32, sg32), (59, sg59), (101, sg101), (102, sg102)]
def hi75 : List (Nat × (K × Mk)) := [(2, ((.sl kdItem), (.o .s))), (5, ((.sl (.int .i64)), (.o .s))), (7, ((.sl kdItem), (.o .s)))]
def en75 : Env := { n := 59, ty := assocN tyL, fns := assocN fl75, lo := 0, hint := assocN hi75 }
def su75 : Bool → Nat → Option Sub | true, 6 => some ⟨f_spec_l6Read_l6c, f_spec_l6Read_l6v, f_spec_l6Read_l6e, loopF f_spec_l6Read_l6⟩ | _, _ => none
theorem ok75 : EnvOk Tryz.prog en75 := envOk_of rfl rfl tyL_ok (⟨so32, ⟨so59, ⟨so101, ⟨so102, trivial⟩⟩⟩⟩)
theorem f_spec_l6Read_l6Eq (R : Type) (c : Vars f_spec_l6Read_l6c) (v : Vars f_spec_l6Read_l6v) (kk : Vars f_spec_l6Read_l6c → (Vars f_spec_l6Read_l6v ⊕ Oc f_spec_l6Read_l6e) → Option R) : evC en75 su75 (loopAt 6 Tryz.f75) (Desc.mk2 f_spec_l6Read_l6v v (Desc.mk2 f_spec_l6Read_l6c c .empty)) (fun o => bodyK f_spec_l6Read_l6c f_spec_l6Read_l6v f_spec_l6Read_l6e o kk) = f_spec_l6Read_l6 R c v kk := by kernel_rfl
theorem f_spec_l6Read_l6Ok {X : Cx} (hX : en75.lo = X.lo) : SubOk Tryz.prog X 59 ⟨f_spec_l6Read_l6c, f_spec_l6Read_l6v, f_spec_l6Read_l6e, loopF f_spec_l6Read_l6⟩ (.loop (loopAt 6 Tryz.f75)) :=
  sub_loop (subs := su75) ok75 rfl hX (GoodN.good (K := True) (Eq.mpr (show GoodN Tryz.prog X 59 en75 su75 (loopAt 6 Tryz.f75) True = (True) by kernel_rfl) trivial)).1 (by decide) (by decide) f_spec_l6Read_l6Eq
theorem f_spec_l6ReadEq (x : Ps ins75) : evF en75 su75 Tryz.f75 ins75 res75 x = f_spec_l6Read x := by kernel_rfl
theorem so75 : Sound Tryz.prog 75 sg75 :=
  sound_of (fn := Tryz.f75) (c := bodyOf Tryz.f75) (subs := su75) (E := en75) (by kernel_rfl) (by kernel_rfl) (by decide) ok75 (by kernel_rfl) (by kernel_rfl) (by decide)
    (fun X hX => (GoodN.good (K := True) (Eq.mpr (show GoodN Tryz.prog X 59 en75 su75 (bodyOf Tryz.f75) True = (SubOk Tryz.prog X 59 ⟨f_spec_l6Read_l6c, f_spec_l6Read_l6v, f_spec_l6Read_l6e, loopF f_spec_l6Read_l6⟩ (.loop (loopAt 6 Tryz.f75)) ∧ True) by kernel_rfl) ⟨(f_spec_l6Read_l6Ok hX), trivial⟩)).1)
    (fun x r h => (f_spec_l6ReadEq x).trans h)
def fl37 : List (Nat × Sig) := [(24, sg24), (25, sg25), (38, sg38), (39, sg39), (75, sg75)]
def hi37 : List (Nat × (K × Mk)) := [(2, ((.sl kdItem), (.o .s))), (8, ((.sl kdPlace), (.o .s))), (10, ((.sl kdItem), (.o .s))), (13, ((.sl kdItem), (.o .s)))]
def en37 : Env := { n := 88, ty := assocN tyL, fns := assocN fl37, lo := 0, hint := assocN hi37 }
def su37 : Bool → Nat → Option Sub | true, 7 => some ⟨f_spec_l7Read_l7c, f_spec_l7Read_l7v, f_spec_l7Read_l7e, loopF f_spec_l7Read_l7⟩ | _, _ => none
theorem ok37 : EnvOk Tryz.prog en37 := envOk_of rfl rfl tyL_ok (⟨so24, ⟨so25, ⟨so38, ⟨so39, ⟨so75, trivial⟩⟩⟩⟩⟩)
theorem f_spec_l7Read_l7Eq (R : Type) (c : Vars f_spec_l7Read_l7c) (v : Vars f_spec_l7Read_l7v) (kk : Vars f_spec_l7Read_l7c → (Vars f_spec_l7Read_l7v ⊕ Oc f_spec_l7Read_l7e) → Option R) : evC en37 su37 (loopAt 7 Tryz.f37) (Desc.mk2 f_spec_l7Read_l7v v (Desc.mk2 f_spec_l7Read_l7c c .empty)) (fun o => bodyK f_spec_l7Read_l7c f_spec_l7Read_l7v f_spec_l7Read_l7e o kk) = f_spec_l7Read_l7 R c v kk := by kernel_rfl
theorem f_spec_l7Read_l7Ok {X : Cx} (hX : en37.lo = X.lo) : SubOk Tryz.prog X 88 ⟨f_spec_l7Read_l7c, f_spec_l7Read_l7v, f_spec_l7Read_l7e, loopF f_spec_l7Read_l7⟩ (.loop (loopAt 7 Tryz.f37)) :=
  sub_loop (subs := su37) ok37 rfl hX (GoodN.good (K := True) (Eq.mpr (show GoodN Tryz.prog X 88 en37 su37 (loopAt 7 Tryz.f37) True = (True) by kernel_rfl) trivial)).1 (by decide) (by decide) f_spec_l7Read_l7Eq
theorem f_spec_l7ReadEq (x : Ps ins37) : evF en37 su37 Tryz.f37 ins37 res37 x = f_spec_l7Read x := by kernel_rfl
theorem so37 : Sound Tryz.prog 37 sg37 :=
  sound_of (fn := Tryz.f37) (c := bodyOf Tryz.f37) (subs := su37) (E := en37) (by kernel_rfl) (by kernel_rfl) (by decide) ok37 (by kernel_rfl) (by kernel_rfl) (by decide)
    (fun X hX => (GoodN.good (K := True) (Eq.mpr (show GoodN Tryz.prog X 88 en37 su37 (bodyOf Tryz.f37) True = (SubOk Tryz.prog X 88 ⟨f_spec_l7Read_l7c, f_spec_l7Read_l7v, f_spec_l7Read_l7e, loopF f_spec_l7Read_l7⟩ (.loop (loopAt 7 Tryz.f37)) ∧ True) by kernel_rfl) ⟨(f_spec_l7Read_l7Ok hX), trivial⟩)).1)
    (fun x r h => (f_spec_l7ReadEq x).trans h)
def fl15 : List (Nat × Sig) := [(37, sg37), (38, sg38), (39, sg39)]
def hi15 : List (Nat × (K × Mk)) := [(2, ((.sl kdPlace), (.o .s))), (4, ((.sl kdItem), (.o .s)))]
def en15 : Env := { n := 28, ty := assocN tyL, fns := assocN fl15, lo := 0, hint := assocN hi15 }
def su15 : Bool → Nat → Option Sub | _, _ => none
theorem ok15 : EnvOk Tryz.prog en15 := envOk_of rfl rfl tyL_ok (⟨so37, ⟨so38, ⟨so39, trivial⟩⟩⟩)
theorem f_spec_IndexOfEq (x : Ps ins15) : evF en15 su15 Tryz.f15 ins15 res15 x = f_spec_IndexOf x := by kernel_rfl
theorem so15 : Sound Tryz.prog 15 sg15 :=
  sound_of (fn := Tryz.f15) (c := bodyOf Tryz.f15) (subs := su15) (E := en15) (by kernel_rfl) (by kernel_rfl) (by decide) ok15 (by kernel_rfl) (by kernel_rfl) (by decide)
    (fun X hX => (GoodN.good (K := True) (Eq.mpr (show GoodN Tryz.prog X 28 en15 su15 (bodyOf Tryz.f15) True = (True) by kernel_rfl) trivial)).1)
    (fun x r h => (f_spec_IndexOfEq x).trans h)
def fl16 : List (Nat × Sig) := [(26, sg26)]
def en16 : Env := { n := 28, ty := assocN tyL, fns := assocN fl16, lo := 0 }
def su16 : Bool → Nat → Option Sub | _, _ => none
theorem ok16 : EnvOk Tryz.prog en16 := envOk_of rfl rfl tyL_ok (⟨so26, trivial⟩)
theorem dr16r4 {X : Cx} (hX : en16.lo = X.lo) : RegOk Tryz.prog X 28 en16 4 (regAt 4 Tryz.f16) := regOk_of ok16 rfl hX (by kernel_rfl) (by kernel_rfl)
theorem f_impl_RangeOfEq (x : Ps ins16) : evF en16 su16 Tryz.f16 ins16 res16 x = f_impl_RangeOf x := by kernel_rfl
theorem so16 : Sound Tryz.prog 16 sg16 :=
  sound_of (fn := Tryz.f16) (c := bodyOf Tryz.f16) (subs := su16) (E := en16) (by kernel_rfl) (by kernel_rfl) (by decide) ok16 (by kernel_rfl) (by kernel_rfl) (by decide)
    (fun X hX => (GoodN.good (K := True) (Eq.mpr (show GoodN Tryz.prog X 28 en16 su16 (bodyOf Tryz.f16) True = (RegOk Tryz.prog X 28 en16 4 (regAt 4 Tryz.f16) ∧ True) by kernel_rfl) ⟨(dr16r4 hX), trivial⟩)).1)
    (fun x r h => (f_impl_RangeOfEq x).trans h)
def fl17 : List (Nat × Sig) := [(26, sg26)]
def en17 : Env := { n := 16, ty := assocN tyL, fns := assocN fl17, lo := 0 }
def su17 : Bool → Nat → Option Sub | _, _ => none
theorem ok17 : EnvOk Tryz.prog en17 := envOk_of rfl rfl tyL_ok (⟨so26, trivial⟩)
theorem f_impl_FilterInEq (x : Ps ins17) : evF en17 su17 Tryz.f17 ins17 res17 x = f_impl_FilterIn x := by kernel_rfl
theorem so17 : Sound Tryz.prog 17 sg17 :=
  sound_of (fn := Tryz.f17) (c := bodyOf Tryz.f17) (subs := su17) (E := en17) (by kernel_rfl) (by kernel_rfl) (by decide) ok17 (by kernel_rfl) (by kernel_rfl) (by decide)
    (fun X hX => (GoodN.good (K := True) (Eq.mpr (show GoodN Tryz.prog X 16 en17 su17 (bodyOf Tryz.f17) True = (True) by kernel_rfl) trivial)).1)
    (fun x r h => (f_impl_FilterInEq x).trans h)
def fl4 : List (Nat × Sig) := [(8, sg8), (13, sg13), (14, sg14), (15, sg15), (16, sg16), (17, sg17), (18, sg18)]
def hi4 : List (Nat × (K × Mk)) := [(4, ((.sl kdPlace), (.o .s))), (6, ((.sl kdPlace), (.o .s))), (8, ((.sl kdItem), (.o .s)))]
def en4 : Env := { n := 184, ty := assocN tyL, fns := assocN fl4, lo := 0, hint := assocN hi4 }
def su4 : Bool → Nat → Option Sub | false, 21 => some ⟨f_laws_FnIndexed_i21c, f_laws_FnIndexed_i21v, f_laws_FnIndexed_i21e, f_laws_FnIndexed_i21⟩ | true, 17 => some ⟨f_laws_FnIndexed_l17c, f_laws_FnIndexed_l17v, f_laws_FnIndexed_l17e, loopF f_laws_FnIndexed_l17⟩ | true, 27 => some ⟨f_laws_FnIndexed_l27c, f_laws_FnIndexed_l27v, f_laws_FnIndexed_l27e, loopF f_laws_FnIndexed_l27⟩ | _, _ => none
theorem ok4 : EnvOk Tryz.prog en4 := envOk_of rfl rfl tyL_ok (⟨so8, ⟨so13, ⟨so14, ⟨so15, ⟨so16, ⟨so17, ⟨so18, trivial⟩⟩⟩⟩⟩⟩⟩)
theorem dr4r22 {X : Cx} (hX : en4.lo = X.lo) : RegOk Tryz.prog X 184 en4 22 (regAt 22 Tryz.f4) := regOk_of ok4 rfl hX (by kernel_rfl) (by kernel_rfl)
def su4i21 : Bool → Nat → Option Sub | true, 17 => some ⟨f_laws_FnIndexed_l17c, f_laws_FnIndexed_l17v, f_laws_FnIndexed_l17e, loopF f_laws_FnIndexed_l17⟩ | true, 27 => some ⟨f_laws_FnIndexed_l27c, f_laws_FnIndexed_l27v, f_laws_FnIndexed_l27e, loopF f_laws_FnIndexed_l27⟩ | _, _ => none
theorem f_laws_FnIndexed_i21Eq (R : Type) (c : Vars f_laws_FnIndexed_i21c) (v : Vars f_laws_FnIndexed_i21v) (kk : Vars f_laws_FnIndexed_i21c → Oc f_laws_FnIndexed_i21e → Option R) : evC en4 su4i21 (ifAt 21 Tryz.f4) (Desc.mk2 f_laws_FnIndexed_i21v v (Desc.mk2 f_laws_FnIndexed_i21c c .empty)) (fun o => chk f_laws_FnIndexed_i21c f_laws_FnIndexed_i21e o kk) = f_laws_FnIndexed_i21 R c v kk := by kernel_rfl
theorem f_laws_FnIndexed_i21Ok {X : Cx} (hX : en4.lo = X.lo) : SubOk Tryz.prog X 184 ⟨f_laws_FnIndexed_i21c, f_laws_FnIndexed_i21v, f_laws_FnIndexed_i21e, f_laws_FnIndexed_i21⟩ (ifAt 21 Tryz.f4) :=
  sub_if (u := ⟨f_laws_FnIndexed_i21c, f_laws_FnIndexed_i21v, f_laws_FnIndexed_i21e, f_laws_FnIndexed_i21⟩) (subs := su4i21) ok4 rfl hX (GoodN.good (K := True) (Eq.mpr (show GoodN Tryz.prog X 184 en4 su4i21 (ifAt 21 Tryz.f4) True = (True) by kernel_rfl) trivial)).1 (by decide) (by decide) f_laws_FnIndexed_i21Eq
theorem f_laws_FnIndexed_l17Eq (R : Type) (c : Vars f_laws_FnIndexed_l17c) (v : Vars f_laws_FnIndexed_l17v) (kk : Vars f_laws_FnIndexed_l17c → (Vars f_laws_FnIndexed_l17v ⊕ Oc f_laws_FnIndexed_l17e) → Option R) : evC en4 su4 (loopAt 17 Tryz.f4) (Desc.mk2 f_laws_FnIndexed_l17v v (Desc.mk2 f_laws_FnIndexed_l17c c .empty)) (fun o => bodyK f_laws_FnIndexed_l17c f_laws_FnIndexed_l17v f_laws_FnIndexed_l17e o kk) = f_laws_FnIndexed_l17 R c v kk := by kernel_rfl
theorem f_laws_FnIndexed_l17Ok {X : Cx} (hX : en4.lo = X.lo) : SubOk Tryz.prog X 184 ⟨f_laws_FnIndexed_l17c, f_laws_FnIndexed_l17v, f_laws_FnIndexed_l17e, loopF f_laws_FnIndexed_l17⟩ (.loop (loopAt 17 Tryz.f4)) :=
  sub_loop (subs := su4) ok4 rfl hX (GoodN.good (K := True) (Eq.mpr (show GoodN Tryz.prog X 184 en4 su4 (loopAt 17 Tryz.f4) True = (SubOk Tryz.prog X 184 ⟨f_laws_FnIndexed_i21c, f_laws_FnIndexed_i21v, f_laws_FnIndexed_i21e, f_laws_FnIndexed_i21⟩ (ifAt 21 Tryz.f4) ∧ RegOk Tryz.prog X 184 en4 22 (regAt 22 Tryz.f4) ∧ True) by kernel_rfl) ⟨(f_laws_FnIndexed_i21Ok hX), (dr4r22 hX), trivial⟩)).1 (by decide) (by decide) f_laws_FnIndexed_l17Eq
theorem f_laws_FnIndexed_l27Eq (R : Type) (c : Vars f_laws_FnIndexed_l27c) (v : Vars f_laws_FnIndexed_l27v) (kk : Vars f_laws_FnIndexed_l27c → (Vars f_laws_FnIndexed_l27v ⊕ Oc f_laws_FnIndexed_l27e) → Option R) : evC en4 su4 (loopAt 27 Tryz.f4) (Desc.mk2 f_laws_FnIndexed_l27v v (Desc.mk2 f_laws_FnIndexed_l27c c .empty)) (fun o => bodyK f_laws_FnIndexed_l27c f_laws_FnIndexed_l27v f_laws_FnIndexed_l27e o kk) = f_laws_FnIndexed_l27 R c v kk := by kernel_rfl
theorem f_laws_FnIndexed_l27Ok {X : Cx} (hX : en4.lo = X.lo) : SubOk Tryz.prog X 184 ⟨f_laws_FnIndexed_l27c, f_laws_FnIndexed_l27v, f_laws_FnIndexed_l27e, loopF f_laws_FnIndexed_l27⟩ (.loop (loopAt 27 Tryz.f4)) :=
  sub_loop (subs := su4) ok4 rfl hX (GoodN.good (K := True) (Eq.mpr (show GoodN Tryz.prog X 184 en4 su4 (loopAt 27 Tryz.f4) True = (True) by kernel_rfl) trivial)).1 (by decide) (by decide) f_laws_FnIndexed_l27Eq
theorem f_laws_FnIndexedEq (x : Ps ins4) : evF en4 su4 Tryz.f4 ins4 res4 x = f_laws_FnIndexed x := by kernel_rfl
theorem so4 : Sound Tryz.prog 4 sg4 :=
  sound_of (fn := Tryz.f4) (c := bodyOf Tryz.f4) (subs := su4) (E := en4) (by kernel_rfl) (by kernel_rfl) (by decide) ok4 (by kernel_rfl) (by kernel_rfl) (by decide)
    (fun X hX => (GoodN.good (K := True) (Eq.mpr (show GoodN Tryz.prog X 184 en4 su4 (bodyOf Tryz.f4) True = (SubOk Tryz.prog X 184 ⟨f_laws_FnIndexed_l17c, f_laws_FnIndexed_l17v, f_laws_FnIndexed_l17e, loopF f_laws_FnIndexed_l17⟩ (.loop (loopAt 17 Tryz.f4)) ∧ SubOk Tryz.prog X 184 ⟨f_laws_FnIndexed_l27c, f_laws_FnIndexed_l27v, f_laws_FnIndexed_l27e, loopF f_laws_FnIndexed_l27⟩ (.loop (loopAt 27 Tryz.f4)) ∧ True) by kernel_rfl) ⟨(f_laws_FnIndexed_l17Ok hX), (f_laws_FnIndexed_l27Ok hX), trivial⟩)).1)
    (fun x r h => (f_laws_FnIndexedEq x).trans h)
end Go.Proofs.YtncalmofbcmkaaaGreat
