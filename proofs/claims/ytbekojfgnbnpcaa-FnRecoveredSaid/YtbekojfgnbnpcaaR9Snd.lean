/- The typed functions are what the program's code says. (Printed by a program of mine, wip/tools/gen.py.) -/
import Derived.Test.YtbekojfgnbnpcaaProg
import Derived.Test.YtbekojfgnbnpcaaR8Lib
import Derived.Test.YtbekojfgnbnpcaaR9Fns
set_option linter.all false
set_option maxRecDepth 100000
noncomputable section
namespace Go.Proofs.Ytbekojfgnbnpcaa
open Go Go.Proofs.Ytbekojfgnbnpcaa.Ev
theorem ty3 : TyOk Try.prog 3 (.int .i64) := ⟨⟨by kernel_rfl, by kernel_rfl⟩, by kernel_rfl⟩
theorem ty31 : TyOk Try.prog 31 (.sl (.int .i64)) := ty_sl ⟨by kernel_rfl, by kernel_rfl⟩ (by kernel_rfl) ty3
theorem ty9 : TyOk Try.prog 9 .str := ⟨⟨by kernel_rfl, by kernel_rfl⟩, by kernel_rfl⟩
theorem ty87 : TyOk Try.prog 87 kdMeta := ty_struct (f := (⟨ "Number", 3, 0, false, "", "", 0⟩ : Field)) (l := [(⟨ "Level", 3, 1, false, "", "", 8⟩ : Field), (⟨ "Least", 9, 2, false, "", "", 16⟩ : Field), (⟨ "Most", 9, 3, false, "", "", 32⟩ : Field)]) ⟨by kernel_rfl, by kernel_rfl⟩ (by kernel_rfl) (by kernel_rfl) ⟨rfl, by decide, ty3, ⟨rfl, by decide, ty3, ⟨rfl, by decide, ty9, ⟨rfl, by decide, ty9, rfl⟩⟩⟩⟩
theorem ty22 : TyOk Try.prog 22 (.sl kdMeta) := ty_sl ⟨by kernel_rfl, by kernel_rfl⟩ (by kernel_rfl) ty87
theorem ty33 : TyOk Try.prog 33 kdEdit := ty_struct (f := (⟨ "Next", 3, 0, false, "", "", 0⟩ : Field)) (l := [(⟨ "Seq", 3, 1, false, "", "", 8⟩ : Field), (⟨ "Drop", 31, 2, false, "", "", 16⟩ : Field), (⟨ "Add", 22, 3, false, "", "", 40⟩ : Field)]) ⟨by kernel_rfl, by kernel_rfl⟩ (by kernel_rfl) (by kernel_rfl) ⟨rfl, by decide, ty3, ⟨rfl, by decide, ty3, ⟨rfl, by decide, ty31, ⟨rfl, by decide, ty22, rfl⟩⟩⟩⟩
theorem ty24 : TyOk Try.prog 24 kdVersion := ty_struct (f := (⟨ "Next", 3, 0, false, "", "", 0⟩ : Field)) (l := [(⟨ "Seq", 3, 1, false, "", "", 8⟩ : Field), (⟨ "Metas", 22, 2, false, "", "", 16⟩ : Field)]) ⟨by kernel_rfl, by kernel_rfl⟩ (by kernel_rfl) (by kernel_rfl) ⟨rfl, by decide, ty3, ⟨rfl, by decide, ty3, ⟨rfl, by decide, ty22, rfl⟩⟩⟩
theorem ty4 : TyOk Try.prog 4 .bool := ⟨⟨by kernel_rfl, by kernel_rfl⟩, by kernel_rfl⟩
theorem ty92 : TyOk Try.prog 92 kdtaker := ty_struct (f := (⟨ "left", 9, 0, false, "", "loop.example/g00224/impl", 0⟩ : Field)) (l := [(⟨ "bad", 4, 1, false, "", "loop.example/g00224/impl", 16⟩ : Field)]) ⟨by kernel_rfl, by kernel_rfl⟩ (by kernel_rfl) (by kernel_rfl) ⟨rfl, by decide, ty9, ⟨rfl, by decide, ty4, rfl⟩⟩
theorem ty5 : TyOk Try.prog 5 (.int .u8) := ⟨⟨by kernel_rfl, by kernel_rfl⟩, by kernel_rfl⟩
theorem ty30 : TyOk Try.prog 30 (.sl (.int .u8)) := ty_sl ⟨by kernel_rfl, by kernel_rfl⟩ (by kernel_rfl) ty5
theorem ty80 : TyOk Try.prog 80 (.int .u64) := ⟨⟨by kernel_rfl, by kernel_rfl⟩, by kernel_rfl⟩
theorem ty82 : TyOk Try.prog 82 kdl1Cur := ty_struct (f := (⟨ "code", 30, 0, false, "", "loop.example/g00224/spec", 0⟩ : Field)) (l := [(⟨ "at", 3, 1, false, "", "loop.example/g00224/spec", 24⟩ : Field), (⟨ "seed", 80, 2, false, "", "loop.example/g00224/spec", 32⟩ : Field)]) ⟨by kernel_rfl, by kernel_rfl⟩ (by kernel_rfl) (by kernel_rfl) ⟨rfl, by decide, ty30, ⟨rfl, by decide, ty3, ⟨rfl, by decide, ty80, rfl⟩⟩⟩
theorem ty121 : TyOk Try.prog 121 kdtaker := ty_struct (f := (⟨ "s", 9, 0, false, "", "loop.example/g00224/spec", 0⟩ : Field)) (l := [(⟨ "bad", 4, 1, false, "", "loop.example/g00224/spec", 16⟩ : Field)]) ⟨by kernel_rfl, by kernel_rfl⟩ (by kernel_rfl) (by kernel_rfl) ⟨rfl, by decide, ty9, ⟨rfl, by decide, ty4, rfl⟩⟩
theorem ty44 : TyOk Try.prog 44 (.sl .str) := ty_sl ⟨by kernel_rfl, by kernel_rfl⟩ (by kernel_rfl) ty9
theorem ty54 : TyOk Try.prog 54 (.int .u32) := ⟨⟨by kernel_rfl, by kernel_rfl⟩, by kernel_rfl⟩
theorem ty155 : TyOk Try.prog 155 (.sl (.int .u32)) := ty_sl ⟨by kernel_rfl, by kernel_rfl⟩ (by kernel_rfl) ty54
theorem ty131 : TyOk Try.prog 131 (.int .u64) := ⟨⟨by kernel_rfl, by kernel_rfl⟩, by kernel_rfl⟩
def tyL : List (Nat × K) := [(3, (.int .i64)), (31, (.sl (.int .i64))), (9, .str), (87, kdMeta), (22, (.sl kdMeta)), (33, kdEdit), (24, kdVersion), (4, .bool), (92, kdtaker), (5, (.int .u8)), (30, (.sl (.int .u8))), (80, (.int .u64)), (82, kdl1Cur), (121, kdtaker), (44, (.sl .str)), (54, (.int .u32)), (155, (.sl (.int .u32))), (131, (.int .u64))]
theorem tyL_ok : AllTy Try.prog tyL := ⟨ty3, ⟨ty31, ⟨ty9, ⟨ty87, ⟨ty22, ⟨ty33, ⟨ty24, ⟨ty4, ⟨ty92, ⟨ty5, ⟨ty30, ⟨ty80, ⟨ty82, ⟨ty121, ⟨ty44, ⟨ty54, ⟨ty155, ⟨ty131, trivial⟩⟩⟩⟩⟩⟩⟩⟩⟩⟩⟩⟩⟩⟩⟩⟩⟩⟩
def rn66 : Go.Shelf.Ren where
  f := fun x => match x with | 24 => 66 | n => n
  t := fun x => match x with | 9 => 87 | 24 => 22 | n => n
  g := fun x => x
theorem soDelete66 : Sound Try.prog 66 (sgf_slices_Delete kdMeta) := sound_Delete (ρ := rn66)
  { mixed := by kernel_rfl, f24 := ⟨Try.f66.name, by decide, by kernel_rfl⟩, t0 := Try.underlying0, a0 := Try.isAgg0, z0 := Try.sizeOf0, v0 := Try.zeroValue0
    t3 := ty3, t4 := ty4, t9 := ty87, t24 := Try.underlying22, t24k := ty22, fl := by decide, ne := by decide, nb := by decide }
theorem soSortFunc67 : Sound Try.prog 67 (sgf_slices_SortFunc kdMeta) := sound_SortFunc (ρ := Try.sort67_ren) { lay := Try.sort67, t24 := ty87, fl := by decide, st := by decide, ne := by decide, nb := by decide }
def fl37 : List (Nat × Sig) := []
def en37 : Env := { n := 2, ty := assocN tyL, fns := assocN fl37, lo := 0 }
def su37 : Bool → Nat → Option Sub | _, _ => none
theorem ok37 : EnvOk Try.prog en37 := envOk_of rfl rfl tyL_ok (trivial)
theorem f_spec_NewVersionEq (x : Ps ins37) : evF en37 su37 Try.f37 ins37 res37 x = f_spec_NewVersion x := by kernel_rfl
theorem so37 : Sound Try.prog 37 sg37 :=
  sound_of (fn := Try.f37) (c := bodyOf Try.f37) (subs := su37) (E := en37) (by kernel_rfl) (by kernel_rfl) (by decide) ok37 (by kernel_rfl) (by kernel_rfl) (by decide)
    (fun X hX => (GoodN.good (K := True) (Eq.mpr (show GoodN Try.prog X 2 en37 su37 (bodyOf Try.f37) True = (True) by kernel_rfl) trivial)).1)
    (fun x r h => (f_spec_NewVersionEq x).trans h)
def fl101 : List (Nat × Sig) := []
def en101 : Env := { n := 62, ty := assocN tyL, fns := assocN fl101, lo := 1 }
def su101 : Bool → Nat → Option Sub | false, 3 => some ⟨f_spec_l1Cur_next_i3c, f_spec_l1Cur_next_i3v, f_spec_l1Cur_next_i3e, f_spec_l1Cur_next_i3⟩ | _, _ => none
theorem ok101 : EnvOk Try.prog en101 := envOk_of rfl rfl tyL_ok (trivial)
theorem dr101r2 {X : Cx} (hX : en101.lo = X.lo) : RegOk Try.prog X 62 en101 2 (regAt 2 Try.f101) := regOk_of ok101 rfl hX (by kernel_rfl) (by kernel_rfl)
theorem dr101r3 {X : Cx} (hX : en101.lo = X.lo) : RegOk Try.prog X 62 en101 3 (regAt 3 Try.f101) := regOk_of ok101 rfl hX (by kernel_rfl) (by kernel_rfl)
theorem dr101r6 {X : Cx} (hX : en101.lo = X.lo) : RegOk Try.prog X 62 en101 6 (regAt 6 Try.f101) := regOk_of ok101 rfl hX (by kernel_rfl) (by kernel_rfl)
def su101i3 : Bool → Nat → Option Sub | _, _ => none
theorem f_spec_l1Cur_next_i3Eq (R : Type) (c : Vars f_spec_l1Cur_next_i3c) (v : Vars f_spec_l1Cur_next_i3v) (kk : Vars f_spec_l1Cur_next_i3c → Oc f_spec_l1Cur_next_i3e → Option R) : evC en101 su101i3 (ifAt 3 Try.f101) (Desc.mk2 f_spec_l1Cur_next_i3v v (Desc.mk2 f_spec_l1Cur_next_i3c c .empty)) (fun o => chk f_spec_l1Cur_next_i3c f_spec_l1Cur_next_i3e o kk) = f_spec_l1Cur_next_i3 R c v kk := by kernel_rfl
theorem f_spec_l1Cur_next_i3Ok {X : Cx} (hX : en101.lo = X.lo) : SubOk Try.prog X 62 ⟨f_spec_l1Cur_next_i3c, f_spec_l1Cur_next_i3v, f_spec_l1Cur_next_i3e, f_spec_l1Cur_next_i3⟩ (ifAt 3 Try.f101) :=
  sub_if (u := ⟨f_spec_l1Cur_next_i3c, f_spec_l1Cur_next_i3v, f_spec_l1Cur_next_i3e, f_spec_l1Cur_next_i3⟩) (subs := su101i3) ok101 rfl hX (GoodN.good (K := True) (Eq.mpr (show GoodN Try.prog X 62 en101 su101i3 (ifAt 3 Try.f101) True = (RegOk Try.prog X 62 en101 3 (regAt 3 Try.f101) ∧ True) by kernel_rfl) ⟨(dr101r3 hX), trivial⟩)).1 (by decide) (by decide) f_spec_l1Cur_next_i3Eq
theorem f_spec_l1Cur_nextEq (x : Ps ins101) : evF en101 su101 Try.f101 ins101 res101 x = f_spec_l1Cur_next x := by kernel_rfl
theorem so101 : Sound Try.prog 101 sg101 :=
  sound_of (fn := Try.f101) (c := bodyOf Try.f101) (subs := su101) (E := en101) (by kernel_rfl) (by kernel_rfl) (by decide) ok101 (by kernel_rfl) (by kernel_rfl) (by decide)
    (fun X hX => (GoodN.good (K := True) (Eq.mpr (show GoodN Try.prog X 62 en101 su101 (bodyOf Try.f101) True = (RegOk Try.prog X 62 en101 2 (regAt 2 Try.f101) ∧ SubOk Try.prog X 62 ⟨f_spec_l1Cur_next_i3c, f_spec_l1Cur_next_i3v, f_spec_l1Cur_next_i3e, f_spec_l1Cur_next_i3⟩ (ifAt 3 Try.f101) ∧ RegOk Try.prog X 62 en101 6 (regAt 6 Try.f101) ∧ True) by kernel_rfl) ⟨(dr101r2 hX), (f_spec_l1Cur_next_i3Ok hX), (dr101r6 hX), trivial⟩)).1)
    (fun x r h => (f_spec_l1Cur_nextEq x).trans h)
def fl54 : List (Nat × Sig) := [(101, sg101)]
def en54 : Env := { n := 20, ty := assocN tyL, fns := assocN fl54, lo := 1 }
def su54 : Bool → Nat → Option Sub | false, 5 => some ⟨f_spec_l1Cur_pick_i5c, f_spec_l1Cur_pick_i5v, f_spec_l1Cur_pick_i5e, f_spec_l1Cur_pick_i5⟩ | _, _ => none
theorem ok54 : EnvOk Try.prog en54 := envOk_of rfl rfl tyL_ok (⟨so101, trivial⟩)
def su54i5 : Bool → Nat → Option Sub | _, _ => none
theorem f_spec_l1Cur_pick_i5Eq (R : Type) (c : Vars f_spec_l1Cur_pick_i5c) (v : Vars f_spec_l1Cur_pick_i5v) (kk : Vars f_spec_l1Cur_pick_i5c → Oc f_spec_l1Cur_pick_i5e → Option R) : evC en54 su54i5 (ifAt 5 Try.f54) (Desc.mk2 f_spec_l1Cur_pick_i5v v (Desc.mk2 f_spec_l1Cur_pick_i5c c .empty)) (fun o => chk f_spec_l1Cur_pick_i5c f_spec_l1Cur_pick_i5e o kk) = f_spec_l1Cur_pick_i5 R c v kk := by kernel_rfl
theorem f_spec_l1Cur_pick_i5Ok {X : Cx} (hX : en54.lo = X.lo) : SubOk Try.prog X 20 ⟨f_spec_l1Cur_pick_i5c, f_spec_l1Cur_pick_i5v, f_spec_l1Cur_pick_i5e, f_spec_l1Cur_pick_i5⟩ (ifAt 5 Try.f54) :=
  sub_if (u := ⟨f_spec_l1Cur_pick_i5c, f_spec_l1Cur_pick_i5v, f_spec_l1Cur_pick_i5e, f_spec_l1Cur_pick_i5⟩) (subs := su54i5) ok54 rfl hX (GoodN.good (K := True) (Eq.mpr (show GoodN Try.prog X 20 en54 su54i5 (ifAt 5 Try.f54) True = (True) by kernel_rfl) trivial)).1 (by decide) (by decide) f_spec_l1Cur_pick_i5Eq
theorem f_spec_l1Cur_pickEq (x : Ps ins54) : evF en54 su54 Try.f54 ins54 res54 x = f_spec_l1Cur_pick x := by kernel_rfl
theorem so54 : Sound Try.prog 54 sg54 :=
  sound_of (fn := Try.f54) (c := bodyOf Try.f54) (subs := su54) (E := en54) (by kernel_rfl) (by kernel_rfl) (by decide) ok54 (by kernel_rfl) (by kernel_rfl) (by decide)
    (fun X hX => (GoodN.good (K := True) (Eq.mpr (show GoodN Try.prog X 20 en54 su54 (bodyOf Try.f54) True = (SubOk Try.prog X 20 ⟨f_spec_l1Cur_pick_i5c, f_spec_l1Cur_pick_i5v, f_spec_l1Cur_pick_i5e, f_spec_l1Cur_pick_i5⟩ (ifAt 5 Try.f54) ∧ True) by kernel_rfl) ⟨(f_spec_l1Cur_pick_i5Ok hX), trivial⟩)).1)
    (fun x r h => (f_spec_l1Cur_pickEq x).trans h)
def fl56 : List (Nat × Sig) := [(54, sg54)]
def en56 : Env := { n := 9, ty := assocN tyL, fns := assocN fl56, lo := 1 }
def su56 : Bool → Nat → Option Sub | _, _ => none
theorem ok56 : EnvOk Try.prog en56 := envOk_of rfl rfl tyL_ok (⟨so54, trivial⟩)
theorem f_spec_l1Cur_oneEq (x : Ps ins56) : evF en56 su56 Try.f56 ins56 res56 x = f_spec_l1Cur_one x := by kernel_rfl
theorem so56 : Sound Try.prog 56 sg56 :=
  sound_of (fn := Try.f56) (c := bodyOf Try.f56) (subs := su56) (E := en56) (by kernel_rfl) (by kernel_rfl) (by decide) ok56 (by kernel_rfl) (by kernel_rfl) (by decide)
    (fun X hX => (GoodN.good (K := True) (Eq.mpr (show GoodN Try.prog X 9 en56 su56 (bodyOf Try.f56) True = (True) by kernel_rfl) trivial)).1)
    (fun x r h => (f_spec_l1Cur_oneEq x).trans h)
def fl132 : List (Nat × Sig) := [(54, sg54)]
def en132 : Env := { n := 12, ty := assocN tyL, fns := assocN fl132, lo := 1 }
def su132 : Bool → Nat → Option Sub | _, _ => none
theorem ok132 : EnvOk Try.prog en132 := envOk_of rfl rfl tyL_ok (⟨so54, trivial⟩)
theorem f_spec_l1Cur_ofEq (x : Ps ins132) : evF en132 su132 Try.f132 ins132 res132 x = f_spec_l1Cur_of x := by kernel_rfl
theorem so132 : Sound Try.prog 132 sg132 :=
  sound_of (fn := Try.f132) (c := bodyOf Try.f132) (subs := su132) (E := en132) (by kernel_rfl) (by kernel_rfl) (by decide) ok132 (by kernel_rfl) (by kernel_rfl) (by decide)
    (fun X hX => (GoodN.good (K := True) (Eq.mpr (show GoodN Try.prog X 12 en132 su132 (bodyOf Try.f132) True = (True) by kernel_rfl) trivial)).1)
    (fun x r h => (f_spec_l1Cur_ofEq x).trans h)
def fl131 : List (Nat × Sig) := [(56, sg56), (132, sg132)]
def en131 : Env := { n := 11, ty := assocN tyL, fns := assocN fl131, lo := 1 }
def su131 : Bool → Nat → Option Sub | _, _ => none
theorem ok131 : EnvOk Try.prog en131 := envOk_of rfl rfl tyL_ok (⟨so56, ⟨so132, trivial⟩⟩)
theorem f_spec_l1Cur_keyEq (x : Ps ins131) : evF en131 su131 Try.f131 ins131 res131 x = f_spec_l1Cur_key x := by kernel_rfl
theorem so131 : Sound Try.prog 131 sg131 :=
  sound_of (fn := Try.f131) (c := bodyOf Try.f131) (subs := su131) (E := en131) (by kernel_rfl) (by kernel_rfl) (by decide) ok131 (by kernel_rfl) (by kernel_rfl) (by decide)
    (fun X hX => (GoodN.good (K := True) (Eq.mpr (show GoodN Try.prog X 11 en131 su131 (bodyOf Try.f131) True = (True) by kernel_rfl) trivial)).1)
    (fun x r h => (f_spec_l1Cur_keyEq x).trans h)
def fl92 : List (Nat × Sig) := [(54, sg54), (56, sg56), (131, sg131), (132, sg132)]
def dw92 : List (Nat × List (List Nat × List Nat)) := [(2, [([5, 12], []), ([5, 13], []), ([], []), ([15], []), ([0, 15, 16], []), ([17], []), ([5, 18], []), ([5], [])])]
def en92 : Env := { n := 23, ty := assocN tyL, fns := assocN fl92, lo := 1, draw := drawOf dw92 }
def su92 : Bool → Nat → Option Sub | false, 4 => some ⟨f_spec_l1Cur_meta_i4c, f_spec_l1Cur_meta_i4v, f_spec_l1Cur_meta_i4e, f_spec_l1Cur_meta_i4⟩ | _, _ => none
theorem ok92 : EnvOk Try.prog en92 := envOk_of rfl rfl tyL_ok (⟨so54, ⟨so56, ⟨so131, ⟨so132, trivial⟩⟩⟩⟩)
theorem dr92r2 {X : Cx} (hX : en92.lo = X.lo) : RegOk Try.prog X 23 en92 2 (regAt 2 Try.f92) := regOk_of ok92 rfl hX (by kernel_rfl) (by kernel_rfl)
def su92i4 : Bool → Nat → Option Sub | _, _ => none
theorem f_spec_l1Cur_meta_i4Eq (R : Type) (c : Vars f_spec_l1Cur_meta_i4c) (v : Vars f_spec_l1Cur_meta_i4v) (kk : Vars f_spec_l1Cur_meta_i4c → Oc f_spec_l1Cur_meta_i4e → Option R) : evC en92 su92i4 (ifAt 4 Try.f92) (Desc.mk2 f_spec_l1Cur_meta_i4v v (Desc.mk2 f_spec_l1Cur_meta_i4c c .empty)) (fun o => chk f_spec_l1Cur_meta_i4c f_spec_l1Cur_meta_i4e o kk) = f_spec_l1Cur_meta_i4 R c v kk := by kernel_rfl
theorem f_spec_l1Cur_meta_i4Ok {X : Cx} (hX : en92.lo = X.lo) : SubOk Try.prog X 23 ⟨f_spec_l1Cur_meta_i4c, f_spec_l1Cur_meta_i4v, f_spec_l1Cur_meta_i4e, f_spec_l1Cur_meta_i4⟩ (ifAt 4 Try.f92) :=
  sub_if (u := ⟨f_spec_l1Cur_meta_i4c, f_spec_l1Cur_meta_i4v, f_spec_l1Cur_meta_i4e, f_spec_l1Cur_meta_i4⟩) (subs := su92i4) ok92 rfl hX (GoodN.good (K := True) (Eq.mpr (show GoodN Try.prog X 23 en92 su92i4 (ifAt 4 Try.f92) True = (True) by kernel_rfl) trivial)).1 (by decide) (by decide) f_spec_l1Cur_meta_i4Eq
theorem f_spec_l1Cur_metaEq (x : Ps ins92) : evF en92 su92 Try.f92 ins92 res92 x = f_spec_l1Cur_meta x := by kernel_rfl
theorem so92 : Sound Try.prog 92 sg92 :=
  sound_of (fn := Try.f92) (c := bodyOf Try.f92) (subs := su92) (E := en92) (by kernel_rfl) (by kernel_rfl) (by decide) ok92 (by kernel_rfl) (by kernel_rfl) (by decide)
    (fun X hX => (GoodN.good (K := True) (Eq.mpr (show GoodN Try.prog X 23 en92 su92 (bodyOf Try.f92) True = (RegOk Try.prog X 23 en92 2 (regAt 2 Try.f92) ∧ SubOk Try.prog X 23 ⟨f_spec_l1Cur_meta_i4c, f_spec_l1Cur_meta_i4v, f_spec_l1Cur_meta_i4e, f_spec_l1Cur_meta_i4⟩ (ifAt 4 Try.f92) ∧ True) by kernel_rfl) ⟨(dr92r2 hX), (f_spec_l1Cur_meta_i4Ok hX), trivial⟩)).1)
    (fun x r h => (f_spec_l1Cur_metaEq x).trans h)
def fl96 : List (Nat × Sig) := []
def en96 : Env := { n := 15, ty := assocN tyL, fns := assocN fl96, lo := 0 }
def su96 : Bool → Nat → Option Sub | _, _ => none
theorem ok96 : EnvOk Try.prog en96 := envOk_of rfl rfl tyL_ok (trivial)
theorem f_spec_l1InEq (x : Ps ins96) : evF en96 su96 Try.f96 ins96 res96 x = f_spec_l1In x := by kernel_rfl
theorem so96 : Sound Try.prog 96 sg96 :=
  sound_of (fn := Try.f96) (c := bodyOf Try.f96) (subs := su96) (E := en96) (by kernel_rfl) (by kernel_rfl) (by decide) ok96 (by kernel_rfl) (by kernel_rfl) (by decide)
    (fun X hX => (GoodN.good (K := True) (Eq.mpr (show GoodN Try.prog X 15 en96 su96 (bodyOf Try.f96) True = (True) by kernel_rfl) trivial)).1)
    (fun x r h => (f_spec_l1InEq x).trans h)
def fl133 : List (Nat × Sig) := [(96, sg96)]
def en133 : Env := { n := 6, ty := assocN tyL, fns := assocN fl133, lo := 0 }
def su133 : Bool → Nat → Option Sub | _, _ => none
theorem ok133 : EnvOk Try.prog en133 := envOk_of rfl rfl tyL_ok (⟨so96, trivial⟩)
theorem f_spec_l4KeyEq (x : Ps ins133) : evF en133 su133 Try.f133 ins133 res133 x = f_spec_l4Key x := by kernel_rfl
theorem so133 : Sound Try.prog 133 sg133 :=
  sound_of (fn := Try.f133) (c := bodyOf Try.f133) (subs := su133) (E := en133) (by kernel_rfl) (by kernel_rfl) (by decide) ok133 (by kernel_rfl) (by kernel_rfl) (by decide)
    (fun X hX => (GoodN.good (K := True) (Eq.mpr (show GoodN Try.prog X 6 en133 su133 (bodyOf Try.f133) True = (True) by kernel_rfl) trivial)).1)
    (fun x r h => (f_spec_l4KeyEq x).trans h)
def fl93 : List (Nat × Sig) := [(96, sg96), (133, sg133)]
def en93 : Env := { n := 28, ty := assocN tyL, fns := assocN fl93, lo := 0 }
def su93 : Bool → Nat → Option Sub | _, _ => none
theorem ok93 : EnvOk Try.prog en93 := envOk_of rfl rfl tyL_ok (⟨so96, ⟨so133, trivial⟩⟩)
theorem f_spec_l9MetaEq (x : Ps ins93) : evF en93 su93 Try.f93 ins93 res93 x = f_spec_l9Meta x := by kernel_rfl
theorem so93 : Sound Try.prog 93 sg93 :=
  sound_of (fn := Try.f93) (c := bodyOf Try.f93) (subs := su93) (E := en93) (by kernel_rfl) (by kernel_rfl) (by decide) ok93 (by kernel_rfl) (by kernel_rfl) (by decide)
    (fun X hX => (GoodN.good (K := True) (Eq.mpr (show GoodN Try.prog X 28 en93 su93 (bodyOf Try.f93) True = (True) by kernel_rfl) trivial)).1)
    (fun x r h => (f_spec_l9MetaEq x).trans h)
def fl94 : List (Nat × Sig) := [(54, sg54)]
def en94 : Env := { n := 12, ty := assocN tyL, fns := assocN fl94, lo := 1 }
def su94 : Bool → Nat → Option Sub | _, _ => none
theorem ok94 : EnvOk Try.prog en94 := envOk_of rfl rfl tyL_ok (⟨so54, trivial⟩)
theorem f_spec_l1Cur_amongEq (x : Ps ins94) : evF en94 su94 Try.f94 ins94 res94 x = f_spec_l1Cur_among x := by kernel_rfl
theorem so94 : Sound Try.prog 94 sg94 :=
  sound_of (fn := Try.f94) (c := bodyOf Try.f94) (subs := su94) (E := en94) (by kernel_rfl) (by kernel_rfl) (by decide) ok94 (by kernel_rfl) (by kernel_rfl) (by decide)
    (fun X hX => (GoodN.good (K := True) (Eq.mpr (show GoodN Try.prog X 12 en94 su94 (bodyOf Try.f94) True = (True) by kernel_rfl) trivial)).1)
    (fun x r h => (f_spec_l1Cur_amongEq x).trans h)
def fl44 : List (Nat × Sig) := [(54, sg54), (56, sg56), (92, sg92), (93, sg93), (94, sg94)]
def dw44 : List (Nat × List (List Nat × List Nat)) := [(1, [([3, 10], []), ([3, 11], []), ([3, 12], []), ([3, 13], []), ([], []), ([0, 15], []), ([16], []), ([17], []), ([5], []), ([5, 17], [])]), (17, [([5, 65], []), ([5, 66], []), ([], []), ([0, 68], []), ([69], []), ([5, 69, 70], []), ([5, 71], []), ([5, 70], [])])]
def en44 : Env := { n := 79, ty := assocN tyL, fns := assocN fl44, lo := 1, draw := drawOf dw44 }
def su44 : Bool → Nat → Option Sub | false, 6 => some ⟨f_spec_l1Cur_edit_i6c, f_spec_l1Cur_edit_i6v, f_spec_l1Cur_edit_i6e, f_spec_l1Cur_edit_i6⟩ | true, 3 => some ⟨f_spec_l1Cur_edit_l3c, f_spec_l1Cur_edit_l3v, f_spec_l1Cur_edit_l3e, loopF f_spec_l1Cur_edit_l3⟩ | false, 13 => some ⟨f_spec_l1Cur_edit_i13c, f_spec_l1Cur_edit_i13v, f_spec_l1Cur_edit_i13e, f_spec_l1Cur_edit_i13⟩ | true, 9 => some ⟨f_spec_l1Cur_edit_l9c, f_spec_l1Cur_edit_l9v, f_spec_l1Cur_edit_l9e, loopF f_spec_l1Cur_edit_l9⟩ | false, 19 => some ⟨f_spec_l1Cur_edit_i19c, f_spec_l1Cur_edit_i19v, f_spec_l1Cur_edit_i19e, f_spec_l1Cur_edit_i19⟩ | false, 17 => some ⟨f_spec_l1Cur_edit_i17c, f_spec_l1Cur_edit_i17v, f_spec_l1Cur_edit_i17e, f_spec_l1Cur_edit_i17⟩ | _, _ => none
theorem ok44 : EnvOk Try.prog en44 := envOk_of rfl rfl tyL_ok (⟨so54, ⟨so56, ⟨so92, ⟨so93, ⟨so94, trivial⟩⟩⟩⟩⟩)
theorem dr44r1 {X : Cx} (hX : en44.lo = X.lo) : RegOk Try.prog X 79 en44 1 (regAt 1 Try.f44) := regOk_of ok44 rfl hX (by kernel_rfl) (by kernel_rfl)
theorem dr44r17 {X : Cx} (hX : en44.lo = X.lo) : RegOk Try.prog X 79 en44 17 (regAt 17 Try.f44) := regOk_of ok44 rfl hX (by kernel_rfl) (by kernel_rfl)
def su44i6 : Bool → Nat → Option Sub | true, 3 => some ⟨f_spec_l1Cur_edit_l3c, f_spec_l1Cur_edit_l3v, f_spec_l1Cur_edit_l3e, loopF f_spec_l1Cur_edit_l3⟩ | false, 13 => some ⟨f_spec_l1Cur_edit_i13c, f_spec_l1Cur_edit_i13v, f_spec_l1Cur_edit_i13e, f_spec_l1Cur_edit_i13⟩ | true, 9 => some ⟨f_spec_l1Cur_edit_l9c, f_spec_l1Cur_edit_l9v, f_spec_l1Cur_edit_l9e, loopF f_spec_l1Cur_edit_l9⟩ | false, 19 => some ⟨f_spec_l1Cur_edit_i19c, f_spec_l1Cur_edit_i19v, f_spec_l1Cur_edit_i19e, f_spec_l1Cur_edit_i19⟩ | false, 17 => some ⟨f_spec_l1Cur_edit_i17c, f_spec_l1Cur_edit_i17v, f_spec_l1Cur_edit_i17e, f_spec_l1Cur_edit_i17⟩ | _, _ => none
theorem f_spec_l1Cur_edit_i6Eq (R : Type) (c : Vars f_spec_l1Cur_edit_i6c) (v : Vars f_spec_l1Cur_edit_i6v) (kk : Vars f_spec_l1Cur_edit_i6c → Oc f_spec_l1Cur_edit_i6e → Option R) : evC en44 su44i6 (ifAt 6 Try.f44) (Desc.mk2 f_spec_l1Cur_edit_i6v v (Desc.mk2 f_spec_l1Cur_edit_i6c c .empty)) (fun o => chk f_spec_l1Cur_edit_i6c f_spec_l1Cur_edit_i6e o kk) = f_spec_l1Cur_edit_i6 R c v kk := by kernel_rfl
theorem f_spec_l1Cur_edit_i6Ok {X : Cx} (hX : en44.lo = X.lo) : SubOk Try.prog X 79 ⟨f_spec_l1Cur_edit_i6c, f_spec_l1Cur_edit_i6v, f_spec_l1Cur_edit_i6e, f_spec_l1Cur_edit_i6⟩ (ifAt 6 Try.f44) :=
  sub_if (u := ⟨f_spec_l1Cur_edit_i6c, f_spec_l1Cur_edit_i6v, f_spec_l1Cur_edit_i6e, f_spec_l1Cur_edit_i6⟩) (subs := su44i6) ok44 rfl hX (GoodN.good (K := True) (Eq.mpr (show GoodN Try.prog X 79 en44 su44i6 (ifAt 6 Try.f44) True = (True) by kernel_rfl) trivial)).1 (by decide) (by decide) f_spec_l1Cur_edit_i6Eq
theorem f_spec_l1Cur_edit_l3Eq (R : Type) (c : Vars f_spec_l1Cur_edit_l3c) (v : Vars f_spec_l1Cur_edit_l3v) (kk : Vars f_spec_l1Cur_edit_l3c → (Vars f_spec_l1Cur_edit_l3v ⊕ Oc f_spec_l1Cur_edit_l3e) → Option R) : evC en44 su44 (loopAt 3 Try.f44) (Desc.mk2 f_spec_l1Cur_edit_l3v v (Desc.mk2 f_spec_l1Cur_edit_l3c c .empty)) (fun o => bodyK f_spec_l1Cur_edit_l3c f_spec_l1Cur_edit_l3v f_spec_l1Cur_edit_l3e o kk) = f_spec_l1Cur_edit_l3 R c v kk := by kernel_rfl
theorem f_spec_l1Cur_edit_l3Ok {X : Cx} (hX : en44.lo = X.lo) : SubOk Try.prog X 79 ⟨f_spec_l1Cur_edit_l3c, f_spec_l1Cur_edit_l3v, f_spec_l1Cur_edit_l3e, loopF f_spec_l1Cur_edit_l3⟩ (.loop (loopAt 3 Try.f44)) :=
  sub_loop (subs := su44) ok44 rfl hX (GoodN.good (K := True) (Eq.mpr (show GoodN Try.prog X 79 en44 su44 (loopAt 3 Try.f44) True = (SubOk Try.prog X 79 ⟨f_spec_l1Cur_edit_i6c, f_spec_l1Cur_edit_i6v, f_spec_l1Cur_edit_i6e, f_spec_l1Cur_edit_i6⟩ (ifAt 6 Try.f44) ∧ True) by kernel_rfl) ⟨(f_spec_l1Cur_edit_i6Ok hX), trivial⟩)).1 (by decide) (by decide) f_spec_l1Cur_edit_l3Eq
def su44i13 : Bool → Nat → Option Sub | false, 6 => some ⟨f_spec_l1Cur_edit_i6c, f_spec_l1Cur_edit_i6v, f_spec_l1Cur_edit_i6e, f_spec_l1Cur_edit_i6⟩ | true, 3 => some ⟨f_spec_l1Cur_edit_l3c, f_spec_l1Cur_edit_l3v, f_spec_l1Cur_edit_l3e, loopF f_spec_l1Cur_edit_l3⟩ | true, 9 => some ⟨f_spec_l1Cur_edit_l9c, f_spec_l1Cur_edit_l9v, f_spec_l1Cur_edit_l9e, loopF f_spec_l1Cur_edit_l9⟩ | false, 19 => some ⟨f_spec_l1Cur_edit_i19c, f_spec_l1Cur_edit_i19v, f_spec_l1Cur_edit_i19e, f_spec_l1Cur_edit_i19⟩ | false, 17 => some ⟨f_spec_l1Cur_edit_i17c, f_spec_l1Cur_edit_i17v, f_spec_l1Cur_edit_i17e, f_spec_l1Cur_edit_i17⟩ | _, _ => none
theorem f_spec_l1Cur_edit_i13Eq (R : Type) (c : Vars f_spec_l1Cur_edit_i13c) (v : Vars f_spec_l1Cur_edit_i13v) (kk : Vars f_spec_l1Cur_edit_i13c → Oc f_spec_l1Cur_edit_i13e → Option R) : evC en44 su44i13 (ifAt 13 Try.f44) (Desc.mk2 f_spec_l1Cur_edit_i13v v (Desc.mk2 f_spec_l1Cur_edit_i13c c .empty)) (fun o => chk f_spec_l1Cur_edit_i13c f_spec_l1Cur_edit_i13e o kk) = f_spec_l1Cur_edit_i13 R c v kk := by kernel_rfl
theorem f_spec_l1Cur_edit_i13Ok {X : Cx} (hX : en44.lo = X.lo) : SubOk Try.prog X 79 ⟨f_spec_l1Cur_edit_i13c, f_spec_l1Cur_edit_i13v, f_spec_l1Cur_edit_i13e, f_spec_l1Cur_edit_i13⟩ (ifAt 13 Try.f44) :=
  sub_if (u := ⟨f_spec_l1Cur_edit_i13c, f_spec_l1Cur_edit_i13v, f_spec_l1Cur_edit_i13e, f_spec_l1Cur_edit_i13⟩) (subs := su44i13) ok44 rfl hX (GoodN.good (K := True) (Eq.mpr (show GoodN Try.prog X 79 en44 su44i13 (ifAt 13 Try.f44) True = (True) by kernel_rfl) trivial)).1 (by decide) (by decide) f_spec_l1Cur_edit_i13Eq
theorem f_spec_l1Cur_edit_l9Eq (R : Type) (c : Vars f_spec_l1Cur_edit_l9c) (v : Vars f_spec_l1Cur_edit_l9v) (kk : Vars f_spec_l1Cur_edit_l9c → (Vars f_spec_l1Cur_edit_l9v ⊕ Oc f_spec_l1Cur_edit_l9e) → Option R) : evC en44 su44 (loopAt 9 Try.f44) (Desc.mk2 f_spec_l1Cur_edit_l9v v (Desc.mk2 f_spec_l1Cur_edit_l9c c .empty)) (fun o => bodyK f_spec_l1Cur_edit_l9c f_spec_l1Cur_edit_l9v f_spec_l1Cur_edit_l9e o kk) = f_spec_l1Cur_edit_l9 R c v kk := by kernel_rfl
theorem f_spec_l1Cur_edit_l9Ok {X : Cx} (hX : en44.lo = X.lo) : SubOk Try.prog X 79 ⟨f_spec_l1Cur_edit_l9c, f_spec_l1Cur_edit_l9v, f_spec_l1Cur_edit_l9e, loopF f_spec_l1Cur_edit_l9⟩ (.loop (loopAt 9 Try.f44)) :=
  sub_loop (subs := su44) ok44 rfl hX (GoodN.good (K := True) (Eq.mpr (show GoodN Try.prog X 79 en44 su44 (loopAt 9 Try.f44) True = (SubOk Try.prog X 79 ⟨f_spec_l1Cur_edit_i13c, f_spec_l1Cur_edit_i13v, f_spec_l1Cur_edit_i13e, f_spec_l1Cur_edit_i13⟩ (ifAt 13 Try.f44) ∧ True) by kernel_rfl) ⟨(f_spec_l1Cur_edit_i13Ok hX), trivial⟩)).1 (by decide) (by decide) f_spec_l1Cur_edit_l9Eq
def su44i19 : Bool → Nat → Option Sub | false, 6 => some ⟨f_spec_l1Cur_edit_i6c, f_spec_l1Cur_edit_i6v, f_spec_l1Cur_edit_i6e, f_spec_l1Cur_edit_i6⟩ | true, 3 => some ⟨f_spec_l1Cur_edit_l3c, f_spec_l1Cur_edit_l3v, f_spec_l1Cur_edit_l3e, loopF f_spec_l1Cur_edit_l3⟩ | false, 13 => some ⟨f_spec_l1Cur_edit_i13c, f_spec_l1Cur_edit_i13v, f_spec_l1Cur_edit_i13e, f_spec_l1Cur_edit_i13⟩ | true, 9 => some ⟨f_spec_l1Cur_edit_l9c, f_spec_l1Cur_edit_l9v, f_spec_l1Cur_edit_l9e, loopF f_spec_l1Cur_edit_l9⟩ | false, 17 => some ⟨f_spec_l1Cur_edit_i17c, f_spec_l1Cur_edit_i17v, f_spec_l1Cur_edit_i17e, f_spec_l1Cur_edit_i17⟩ | _, _ => none
theorem f_spec_l1Cur_edit_i19Eq (R : Type) (c : Vars f_spec_l1Cur_edit_i19c) (v : Vars f_spec_l1Cur_edit_i19v) (kk : Vars f_spec_l1Cur_edit_i19c → Oc f_spec_l1Cur_edit_i19e → Option R) : evC en44 su44i19 (ifAt 19 Try.f44) (Desc.mk2 f_spec_l1Cur_edit_i19v v (Desc.mk2 f_spec_l1Cur_edit_i19c c .empty)) (fun o => chk f_spec_l1Cur_edit_i19c f_spec_l1Cur_edit_i19e o kk) = f_spec_l1Cur_edit_i19 R c v kk := by kernel_rfl
theorem f_spec_l1Cur_edit_i19Ok {X : Cx} (hX : en44.lo = X.lo) : SubOk Try.prog X 79 ⟨f_spec_l1Cur_edit_i19c, f_spec_l1Cur_edit_i19v, f_spec_l1Cur_edit_i19e, f_spec_l1Cur_edit_i19⟩ (ifAt 19 Try.f44) :=
  sub_if (u := ⟨f_spec_l1Cur_edit_i19c, f_spec_l1Cur_edit_i19v, f_spec_l1Cur_edit_i19e, f_spec_l1Cur_edit_i19⟩) (subs := su44i19) ok44 rfl hX (GoodN.good (K := True) (Eq.mpr (show GoodN Try.prog X 79 en44 su44i19 (ifAt 19 Try.f44) True = (True) by kernel_rfl) trivial)).1 (by decide) (by decide) f_spec_l1Cur_edit_i19Eq
def su44i17 : Bool → Nat → Option Sub | false, 6 => some ⟨f_spec_l1Cur_edit_i6c, f_spec_l1Cur_edit_i6v, f_spec_l1Cur_edit_i6e, f_spec_l1Cur_edit_i6⟩ | true, 3 => some ⟨f_spec_l1Cur_edit_l3c, f_spec_l1Cur_edit_l3v, f_spec_l1Cur_edit_l3e, loopF f_spec_l1Cur_edit_l3⟩ | false, 13 => some ⟨f_spec_l1Cur_edit_i13c, f_spec_l1Cur_edit_i13v, f_spec_l1Cur_edit_i13e, f_spec_l1Cur_edit_i13⟩ | true, 9 => some ⟨f_spec_l1Cur_edit_l9c, f_spec_l1Cur_edit_l9v, f_spec_l1Cur_edit_l9e, loopF f_spec_l1Cur_edit_l9⟩ | false, 19 => some ⟨f_spec_l1Cur_edit_i19c, f_spec_l1Cur_edit_i19v, f_spec_l1Cur_edit_i19e, f_spec_l1Cur_edit_i19⟩ | _, _ => none
theorem f_spec_l1Cur_edit_i17Eq (R : Type) (c : Vars f_spec_l1Cur_edit_i17c) (v : Vars f_spec_l1Cur_edit_i17v) (kk : Vars f_spec_l1Cur_edit_i17c → Oc f_spec_l1Cur_edit_i17e → Option R) : evC en44 su44i17 (ifAt 17 Try.f44) (Desc.mk2 f_spec_l1Cur_edit_i17v v (Desc.mk2 f_spec_l1Cur_edit_i17c c .empty)) (fun o => chk f_spec_l1Cur_edit_i17c f_spec_l1Cur_edit_i17e o kk) = f_spec_l1Cur_edit_i17 R c v kk := by kernel_rfl
theorem f_spec_l1Cur_edit_i17Ok {X : Cx} (hX : en44.lo = X.lo) : SubOk Try.prog X 79 ⟨f_spec_l1Cur_edit_i17c, f_spec_l1Cur_edit_i17v, f_spec_l1Cur_edit_i17e, f_spec_l1Cur_edit_i17⟩ (ifAt 17 Try.f44) :=
  sub_if (u := ⟨f_spec_l1Cur_edit_i17c, f_spec_l1Cur_edit_i17v, f_spec_l1Cur_edit_i17e, f_spec_l1Cur_edit_i17⟩) (subs := su44i17) ok44 rfl hX (GoodN.good (K := True) (Eq.mpr (show GoodN Try.prog X 79 en44 su44i17 (ifAt 17 Try.f44) True = (RegOk Try.prog X 79 en44 17 (regAt 17 Try.f44) ∧ SubOk Try.prog X 79 ⟨f_spec_l1Cur_edit_i19c, f_spec_l1Cur_edit_i19v, f_spec_l1Cur_edit_i19e, f_spec_l1Cur_edit_i19⟩ (ifAt 19 Try.f44) ∧ True) by kernel_rfl) ⟨(dr44r17 hX), (f_spec_l1Cur_edit_i19Ok hX), trivial⟩)).1 (by decide) (by decide) f_spec_l1Cur_edit_i17Eq
theorem f_spec_l1Cur_editEq (x : Ps ins44) : evF en44 su44 Try.f44 ins44 res44 x = f_spec_l1Cur_edit x := by kernel_rfl
theorem so44 : Sound Try.prog 44 sg44 :=
  sound_of (fn := Try.f44) (c := bodyOf Try.f44) (subs := su44) (E := en44) (by kernel_rfl) (by kernel_rfl) (by decide) ok44 (by kernel_rfl) (by kernel_rfl) (by decide)
    (fun X hX => (GoodN.good (K := True) (Eq.mpr (show GoodN Try.prog X 79 en44 su44 (bodyOf Try.f44) True = (RegOk Try.prog X 79 en44 1 (regAt 1 Try.f44) ∧ SubOk Try.prog X 79 ⟨f_spec_l1Cur_edit_l3c, f_spec_l1Cur_edit_l3v, f_spec_l1Cur_edit_l3e, loopF f_spec_l1Cur_edit_l3⟩ (.loop (loopAt 3 Try.f44)) ∧ SubOk Try.prog X 79 ⟨f_spec_l1Cur_edit_l9c, f_spec_l1Cur_edit_l9v, f_spec_l1Cur_edit_l9e, loopF f_spec_l1Cur_edit_l9⟩ (.loop (loopAt 9 Try.f44)) ∧ SubOk Try.prog X 79 ⟨f_spec_l1Cur_edit_i17c, f_spec_l1Cur_edit_i17v, f_spec_l1Cur_edit_i17e, f_spec_l1Cur_edit_i17⟩ (ifAt 17 Try.f44) ∧ True) by kernel_rfl) ⟨(dr44r1 hX), (f_spec_l1Cur_edit_l3Ok hX), (f_spec_l1Cur_edit_l9Ok hX), (f_spec_l1Cur_edit_i17Ok hX), trivial⟩)).1)
    (fun x r h => (f_spec_l1Cur_editEq x).trans h)
def fl134 : List (Nat × Sig) := [(96, sg96)]
def en134 : Env := { n := 5, ty := assocN tyL, fns := assocN fl134, lo := 0 }
def su134 : Bool → Nat → Option Sub | _, _ => none
theorem ok134 : EnvOk Try.prog en134 := envOk_of rfl rfl tyL_ok (⟨so96, trivial⟩)
theorem f_spec_l4SeqEq (x : Ps ins134) : evF en134 su134 Try.f134 ins134 res134 x = f_spec_l4Seq x := by kernel_rfl
theorem so134 : Sound Try.prog 134 sg134 :=
  sound_of (fn := Try.f134) (c := bodyOf Try.f134) (subs := su134) (E := en134) (by kernel_rfl) (by kernel_rfl) (by decide) ok134 (by kernel_rfl) (by kernel_rfl) (by decide)
    (fun X hX => (GoodN.good (K := True) (Eq.mpr (show GoodN Try.prog X 5 en134 su134 (bodyOf Try.f134) True = (True) by kernel_rfl) trivial)).1)
    (fun x r h => (f_spec_l4SeqEq x).trans h)
def fl97 : List (Nat × Sig) := [(96, sg96), (134, sg134)]
def en97 : Env := { n := 11, ty := assocN tyL, fns := assocN fl97, lo := 0 }
def su97 : Bool → Nat → Option Sub | _, _ => none
theorem ok97 : EnvOk Try.prog en97 := envOk_of rfl rfl tyL_ok (⟨so96, ⟨so134, trivial⟩⟩)
theorem f_spec_l9CountsEq (x : Ps ins97) : evF en97 su97 Try.f97 ins97 res97 x = f_spec_l9Counts x := by kernel_rfl
theorem so97 : Sound Try.prog 97 sg97 :=
  sound_of (fn := Try.f97) (c := bodyOf Try.f97) (subs := su97) (E := en97) (by kernel_rfl) (by kernel_rfl) (by decide) ok97 (by kernel_rfl) (by kernel_rfl) (by decide)
    (fun X hX => (GoodN.good (K := True) (Eq.mpr (show GoodN Try.prog X 11 en97 su97 (bodyOf Try.f97) True = (True) by kernel_rfl) trivial)).1)
    (fun x r h => (f_spec_l9CountsEq x).trans h)
def fl98 : List (Nat × Sig) := [(93, sg93)]
def en98 : Env := { n := 34, ty := assocN tyL, fns := assocN fl98, lo := 0 }
def su98 : Bool → Nat → Option Sub | true, 2 => some ⟨f_spec_l9Metas_l2c, f_spec_l9Metas_l2v, f_spec_l9Metas_l2e, loopF f_spec_l9Metas_l2⟩ | _, _ => none
theorem ok98 : EnvOk Try.prog en98 := envOk_of rfl rfl tyL_ok (⟨so93, trivial⟩)
theorem dr98r4 {X : Cx} (hX : en98.lo = X.lo) : RegOk Try.prog X 34 en98 4 (regAt 4 Try.f98) := regOk_of ok98 rfl hX (by kernel_rfl) (by kernel_rfl)
theorem f_spec_l9Metas_l2Eq (R : Type) (c : Vars f_spec_l9Metas_l2c) (v : Vars f_spec_l9Metas_l2v) (kk : Vars f_spec_l9Metas_l2c → (Vars f_spec_l9Metas_l2v ⊕ Oc f_spec_l9Metas_l2e) → Option R) : evC en98 su98 (loopAt 2 Try.f98) (Desc.mk2 f_spec_l9Metas_l2v v (Desc.mk2 f_spec_l9Metas_l2c c .empty)) (fun o => bodyK f_spec_l9Metas_l2c f_spec_l9Metas_l2v f_spec_l9Metas_l2e o kk) = f_spec_l9Metas_l2 R c v kk := by kernel_rfl
theorem f_spec_l9Metas_l2Ok {X : Cx} (hX : en98.lo = X.lo) : SubOk Try.prog X 34 ⟨f_spec_l9Metas_l2c, f_spec_l9Metas_l2v, f_spec_l9Metas_l2e, loopF f_spec_l9Metas_l2⟩ (.loop (loopAt 2 Try.f98)) :=
  sub_loop (subs := su98) ok98 rfl hX (GoodN.good (K := True) (Eq.mpr (show GoodN Try.prog X 34 en98 su98 (loopAt 2 Try.f98) True = (RegOk Try.prog X 34 en98 4 (regAt 4 Try.f98) ∧ True) by kernel_rfl) ⟨(dr98r4 hX), trivial⟩)).1 (by decide) (by decide) f_spec_l9Metas_l2Eq
theorem f_spec_l9MetasEq (x : Ps ins98) : evF en98 su98 Try.f98 ins98 res98 x = f_spec_l9Metas x := by kernel_rfl
theorem so98 : Sound Try.prog 98 sg98 :=
  sound_of (fn := Try.f98) (c := bodyOf Try.f98) (subs := su98) (E := en98) (by kernel_rfl) (by kernel_rfl) (by decide) ok98 (by kernel_rfl) (by kernel_rfl) (by decide)
    (fun X hX => (GoodN.good (K := True) (Eq.mpr (show GoodN Try.prog X 34 en98 su98 (bodyOf Try.f98) True = (SubOk Try.prog X 34 ⟨f_spec_l9Metas_l2c, f_spec_l9Metas_l2v, f_spec_l9Metas_l2e, loopF f_spec_l9Metas_l2⟩ (.loop (loopAt 2 Try.f98)) ∧ True) by kernel_rfl) ⟨(f_spec_l9Metas_l2Ok hX), trivial⟩)).1)
    (fun x r h => (f_spec_l9MetasEq x).trans h)
def fl87 : List (Nat × Sig) := [(97, sg97), (98, sg98)]
def en87 : Env := { n := 67, ty := assocN tyL, fns := assocN fl87, lo := 0 }
def su87 : Bool → Nat → Option Sub | true, 9 => some ⟨f_spec_GoodVersion_l9c, f_spec_GoodVersion_l9v, f_spec_GoodVersion_l9e, loopF f_spec_GoodVersion_l9⟩ | true, 4 => some ⟨f_spec_GoodVersion_l4c, f_spec_GoodVersion_l4v, f_spec_GoodVersion_l4e, loopF f_spec_GoodVersion_l4⟩ | _, _ => none
theorem ok87 : EnvOk Try.prog en87 := envOk_of rfl rfl tyL_ok (⟨so97, ⟨so98, trivial⟩⟩)
theorem f_spec_GoodVersion_l9Eq (R : Type) (c : Vars f_spec_GoodVersion_l9c) (v : Vars f_spec_GoodVersion_l9v) (kk : Vars f_spec_GoodVersion_l9c → (Vars f_spec_GoodVersion_l9v ⊕ Oc f_spec_GoodVersion_l9e) → Option R) : evC en87 su87 (loopAt 9 Try.f87) (Desc.mk2 f_spec_GoodVersion_l9v v (Desc.mk2 f_spec_GoodVersion_l9c c .empty)) (fun o => bodyK f_spec_GoodVersion_l9c f_spec_GoodVersion_l9v f_spec_GoodVersion_l9e o kk) = f_spec_GoodVersion_l9 R c v kk := by kernel_rfl
theorem f_spec_GoodVersion_l9Ok {X : Cx} (hX : en87.lo = X.lo) : SubOk Try.prog X 67 ⟨f_spec_GoodVersion_l9c, f_spec_GoodVersion_l9v, f_spec_GoodVersion_l9e, loopF f_spec_GoodVersion_l9⟩ (.loop (loopAt 9 Try.f87)) :=
  sub_loop (subs := su87) ok87 rfl hX (GoodN.good (K := True) (Eq.mpr (show GoodN Try.prog X 67 en87 su87 (loopAt 9 Try.f87) True = (True) by kernel_rfl) trivial)).1 (by decide) (by decide) f_spec_GoodVersion_l9Eq
theorem f_spec_GoodVersion_l4Eq (R : Type) (c : Vars f_spec_GoodVersion_l4c) (v : Vars f_spec_GoodVersion_l4v) (kk : Vars f_spec_GoodVersion_l4c → (Vars f_spec_GoodVersion_l4v ⊕ Oc f_spec_GoodVersion_l4e) → Option R) : evC en87 su87 (loopAt 4 Try.f87) (Desc.mk2 f_spec_GoodVersion_l4v v (Desc.mk2 f_spec_GoodVersion_l4c c .empty)) (fun o => bodyK f_spec_GoodVersion_l4c f_spec_GoodVersion_l4v f_spec_GoodVersion_l4e o kk) = f_spec_GoodVersion_l4 R c v kk := by kernel_rfl
theorem f_spec_GoodVersion_l4Ok {X : Cx} (hX : en87.lo = X.lo) : SubOk Try.prog X 67 ⟨f_spec_GoodVersion_l4c, f_spec_GoodVersion_l4v, f_spec_GoodVersion_l4e, loopF f_spec_GoodVersion_l4⟩ (.loop (loopAt 4 Try.f87)) :=
  sub_loop (subs := su87) ok87 rfl hX (GoodN.good (K := True) (Eq.mpr (show GoodN Try.prog X 67 en87 su87 (loopAt 4 Try.f87) True = (SubOk Try.prog X 67 ⟨f_spec_GoodVersion_l9c, f_spec_GoodVersion_l9v, f_spec_GoodVersion_l9e, loopF f_spec_GoodVersion_l9⟩ (.loop (loopAt 9 Try.f87)) ∧ True) by kernel_rfl) ⟨(f_spec_GoodVersion_l9Ok hX), trivial⟩)).1 (by decide) (by decide) f_spec_GoodVersion_l4Eq
theorem f_spec_GoodVersionEq (x : Ps ins87) : evF en87 su87 Try.f87 ins87 res87 x = f_spec_GoodVersion x := by kernel_rfl
theorem so87 : Sound Try.prog 87 sg87 :=
  sound_of (fn := Try.f87) (c := bodyOf Try.f87) (subs := su87) (E := en87) (by kernel_rfl) (by kernel_rfl) (by decide) ok87 (by kernel_rfl) (by kernel_rfl) (by decide)
    (fun X hX => (GoodN.good (K := True) (Eq.mpr (show GoodN Try.prog X 67 en87 su87 (bodyOf Try.f87) True = (SubOk Try.prog X 67 ⟨f_spec_GoodVersion_l4c, f_spec_GoodVersion_l4v, f_spec_GoodVersion_l4e, loopF f_spec_GoodVersion_l4⟩ (.loop (loopAt 4 Try.f87)) ∧ True) by kernel_rfl) ⟨(f_spec_GoodVersion_l4Ok hX), trivial⟩)).1)
    (fun x r h => (f_spec_GoodVersionEq x).trans h)
def fl49 : List (Nat × Sig) := [(96, sg96), (97, sg97), (98, sg98)]
def en49 : Env := { n := 47, ty := assocN tyL, fns := assocN fl49, lo := 0 }
def su49 : Bool → Nat → Option Sub | true, 2 => some ⟨f_spec_l9Edit_l2c, f_spec_l9Edit_l2v, f_spec_l9Edit_l2e, loopF f_spec_l9Edit_l2⟩ | _, _ => none
theorem ok49 : EnvOk Try.prog en49 := envOk_of rfl rfl tyL_ok (⟨so96, ⟨so97, ⟨so98, trivial⟩⟩⟩)
theorem f_spec_l9Edit_l2Eq (R : Type) (c : Vars f_spec_l9Edit_l2c) (v : Vars f_spec_l9Edit_l2v) (kk : Vars f_spec_l9Edit_l2c → (Vars f_spec_l9Edit_l2v ⊕ Oc f_spec_l9Edit_l2e) → Option R) : evC en49 su49 (loopAt 2 Try.f49) (Desc.mk2 f_spec_l9Edit_l2v v (Desc.mk2 f_spec_l9Edit_l2c c .empty)) (fun o => bodyK f_spec_l9Edit_l2c f_spec_l9Edit_l2v f_spec_l9Edit_l2e o kk) = f_spec_l9Edit_l2 R c v kk := by kernel_rfl
theorem f_spec_l9Edit_l2Ok {X : Cx} (hX : en49.lo = X.lo) : SubOk Try.prog X 47 ⟨f_spec_l9Edit_l2c, f_spec_l9Edit_l2v, f_spec_l9Edit_l2e, loopF f_spec_l9Edit_l2⟩ (.loop (loopAt 2 Try.f49)) :=
  sub_loop (subs := su49) ok49 rfl hX (GoodN.good (K := True) (Eq.mpr (show GoodN Try.prog X 47 en49 su49 (loopAt 2 Try.f49) True = (True) by kernel_rfl) trivial)).1 (by decide) (by decide) f_spec_l9Edit_l2Eq
theorem f_spec_l9EditEq (x : Ps ins49) : evF en49 su49 Try.f49 ins49 res49 x = f_spec_l9Edit x := by kernel_rfl
theorem so49 : Sound Try.prog 49 sg49 :=
  sound_of (fn := Try.f49) (c := bodyOf Try.f49) (subs := su49) (E := en49) (by kernel_rfl) (by kernel_rfl) (by decide) ok49 (by kernel_rfl) (by kernel_rfl) (by decide)
    (fun X hX => (GoodN.good (K := True) (Eq.mpr (show GoodN Try.prog X 47 en49 su49 (bodyOf Try.f49) True = (SubOk Try.prog X 47 ⟨f_spec_l9Edit_l2c, f_spec_l9Edit_l2v, f_spec_l9Edit_l2e, loopF f_spec_l9Edit_l2⟩ (.loop (loopAt 2 Try.f49)) ∧ True) by kernel_rfl) ⟨(f_spec_l9Edit_l2Ok hX), trivial⟩)).1)
    (fun x r h => (f_spec_l9EditEq x).trans h)
def fl39 : List (Nat × Sig) := [(49, sg49), (87, sg87)]
def hi39 : List (Nat × (K × Mk)) := [(6, ((.sl kdMeta), (.o .s))), (16, ((.sl kdMeta), (.o .s)))]
def en39 : Env := { n := 122, ty := assocN tyL, fns := assocN fl39, lo := 0, hint := assocN hi39 }
def su39 : Bool → Nat → Option Sub | true, 10 => some ⟨f_spec_l9Apply_l10c, f_spec_l9Apply_l10v, f_spec_l9Apply_l10e, loopF f_spec_l9Apply_l10⟩ | false, 15 => some ⟨f_spec_l9Apply_i15c, f_spec_l9Apply_i15v, f_spec_l9Apply_i15e, f_spec_l9Apply_i15⟩ | true, 6 => some ⟨f_spec_l9Apply_l6c, f_spec_l9Apply_l6v, f_spec_l9Apply_l6e, loopF f_spec_l9Apply_l6⟩ | true, 22 => some ⟨f_spec_l9Apply_l22c, f_spec_l9Apply_l22v, f_spec_l9Apply_l22e, loopF f_spec_l9Apply_l22⟩ | true, 19 => some ⟨f_spec_l9Apply_l19c, f_spec_l9Apply_l19v, f_spec_l9Apply_l19e, loopF f_spec_l9Apply_l19⟩ | _, _ => none
theorem ok39 : EnvOk Try.prog en39 := envOk_of rfl rfl tyL_ok (⟨so49, ⟨so87, trivial⟩⟩)
theorem dr39r22 {X : Cx} (hX : en39.lo = X.lo) : RegOk Try.prog X 122 en39 22 (regAt 22 Try.f39) := regOk_of ok39 rfl hX (by kernel_rfl) (by kernel_rfl)
theorem f_spec_l9Apply_l10Eq (R : Type) (c : Vars f_spec_l9Apply_l10c) (v : Vars f_spec_l9Apply_l10v) (kk : Vars f_spec_l9Apply_l10c → (Vars f_spec_l9Apply_l10v ⊕ Oc f_spec_l9Apply_l10e) → Option R) : evC en39 su39 (loopAt 10 Try.f39) (Desc.mk2 f_spec_l9Apply_l10v v (Desc.mk2 f_spec_l9Apply_l10c c .empty)) (fun o => bodyK f_spec_l9Apply_l10c f_spec_l9Apply_l10v f_spec_l9Apply_l10e o kk) = f_spec_l9Apply_l10 R c v kk := by kernel_rfl
theorem f_spec_l9Apply_l10Ok {X : Cx} (hX : en39.lo = X.lo) : SubOk Try.prog X 122 ⟨f_spec_l9Apply_l10c, f_spec_l9Apply_l10v, f_spec_l9Apply_l10e, loopF f_spec_l9Apply_l10⟩ (.loop (loopAt 10 Try.f39)) :=
  sub_loop (subs := su39) ok39 rfl hX (GoodN.good (K := True) (Eq.mpr (show GoodN Try.prog X 122 en39 su39 (loopAt 10 Try.f39) True = (True) by kernel_rfl) trivial)).1 (by decide) (by decide) f_spec_l9Apply_l10Eq
def su39i15 : Bool → Nat → Option Sub | true, 10 => some ⟨f_spec_l9Apply_l10c, f_spec_l9Apply_l10v, f_spec_l9Apply_l10e, loopF f_spec_l9Apply_l10⟩ | true, 6 => some ⟨f_spec_l9Apply_l6c, f_spec_l9Apply_l6v, f_spec_l9Apply_l6e, loopF f_spec_l9Apply_l6⟩ | true, 22 => some ⟨f_spec_l9Apply_l22c, f_spec_l9Apply_l22v, f_spec_l9Apply_l22e, loopF f_spec_l9Apply_l22⟩ | true, 19 => some ⟨f_spec_l9Apply_l19c, f_spec_l9Apply_l19v, f_spec_l9Apply_l19e, loopF f_spec_l9Apply_l19⟩ | _, _ => none
theorem f_spec_l9Apply_i15Eq (R : Type) (c : Vars f_spec_l9Apply_i15c) (v : Vars f_spec_l9Apply_i15v) (kk : Vars f_spec_l9Apply_i15c → Oc f_spec_l9Apply_i15e → Option R) : evC en39 su39i15 (ifAt 15 Try.f39) (Desc.mk2 f_spec_l9Apply_i15v v (Desc.mk2 f_spec_l9Apply_i15c c .empty)) (fun o => chk f_spec_l9Apply_i15c f_spec_l9Apply_i15e o kk) = f_spec_l9Apply_i15 R c v kk := by kernel_rfl
theorem f_spec_l9Apply_i15Ok {X : Cx} (hX : en39.lo = X.lo) : SubOk Try.prog X 122 ⟨f_spec_l9Apply_i15c, f_spec_l9Apply_i15v, f_spec_l9Apply_i15e, f_spec_l9Apply_i15⟩ (ifAt 15 Try.f39) :=
  sub_if (u := ⟨f_spec_l9Apply_i15c, f_spec_l9Apply_i15v, f_spec_l9Apply_i15e, f_spec_l9Apply_i15⟩) (subs := su39i15) ok39 rfl hX (GoodN.good (K := True) (Eq.mpr (show GoodN Try.prog X 122 en39 su39i15 (ifAt 15 Try.f39) True = (True) by kernel_rfl) trivial)).1 (by decide) (by decide) f_spec_l9Apply_i15Eq
theorem f_spec_l9Apply_l6Eq (R : Type) (c : Vars f_spec_l9Apply_l6c) (v : Vars f_spec_l9Apply_l6v) (kk : Vars f_spec_l9Apply_l6c → (Vars f_spec_l9Apply_l6v ⊕ Oc f_spec_l9Apply_l6e) → Option R) : evC en39 su39 (loopAt 6 Try.f39) (Desc.mk2 f_spec_l9Apply_l6v v (Desc.mk2 f_spec_l9Apply_l6c c .empty)) (fun o => bodyK f_spec_l9Apply_l6c f_spec_l9Apply_l6v f_spec_l9Apply_l6e o kk) = f_spec_l9Apply_l6 R c v kk := by kernel_rfl
theorem f_spec_l9Apply_l6Ok {X : Cx} (hX : en39.lo = X.lo) : SubOk Try.prog X 122 ⟨f_spec_l9Apply_l6c, f_spec_l9Apply_l6v, f_spec_l9Apply_l6e, loopF f_spec_l9Apply_l6⟩ (.loop (loopAt 6 Try.f39)) :=
  sub_loop (subs := su39) ok39 rfl hX (GoodN.good (K := True) (Eq.mpr (show GoodN Try.prog X 122 en39 su39 (loopAt 6 Try.f39) True = (SubOk Try.prog X 122 ⟨f_spec_l9Apply_l10c, f_spec_l9Apply_l10v, f_spec_l9Apply_l10e, loopF f_spec_l9Apply_l10⟩ (.loop (loopAt 10 Try.f39)) ∧ SubOk Try.prog X 122 ⟨f_spec_l9Apply_i15c, f_spec_l9Apply_i15v, f_spec_l9Apply_i15e, f_spec_l9Apply_i15⟩ (ifAt 15 Try.f39) ∧ True) by kernel_rfl) ⟨(f_spec_l9Apply_l10Ok hX), (f_spec_l9Apply_i15Ok hX), trivial⟩)).1 (by decide) (by decide) f_spec_l9Apply_l6Eq
theorem f_spec_l9Apply_l22Eq (R : Type) (c : Vars f_spec_l9Apply_l22c) (v : Vars f_spec_l9Apply_l22v) (kk : Vars f_spec_l9Apply_l22c → (Vars f_spec_l9Apply_l22v ⊕ Oc f_spec_l9Apply_l22e) → Option R) : evC en39 su39 (loopAt 22 Try.f39) (Desc.mk2 f_spec_l9Apply_l22v v (Desc.mk2 f_spec_l9Apply_l22c c .empty)) (fun o => bodyK f_spec_l9Apply_l22c f_spec_l9Apply_l22v f_spec_l9Apply_l22e o kk) = f_spec_l9Apply_l22 R c v kk := by kernel_rfl
theorem f_spec_l9Apply_l22Ok {X : Cx} (hX : en39.lo = X.lo) : SubOk Try.prog X 122 ⟨f_spec_l9Apply_l22c, f_spec_l9Apply_l22v, f_spec_l9Apply_l22e, loopF f_spec_l9Apply_l22⟩ (.loop (loopAt 22 Try.f39)) :=
  sub_loop (subs := su39) ok39 rfl hX (GoodN.good (K := True) (Eq.mpr (show GoodN Try.prog X 122 en39 su39 (loopAt 22 Try.f39) True = (RegOk Try.prog X 122 en39 22 (regAt 22 Try.f39) ∧ True) by kernel_rfl) ⟨(dr39r22 hX), trivial⟩)).1 (by decide) (by decide) f_spec_l9Apply_l22Eq
theorem f_spec_l9Apply_l19Eq (R : Type) (c : Vars f_spec_l9Apply_l19c) (v : Vars f_spec_l9Apply_l19v) (kk : Vars f_spec_l9Apply_l19c → (Vars f_spec_l9Apply_l19v ⊕ Oc f_spec_l9Apply_l19e) → Option R) : evC en39 su39 (loopAt 19 Try.f39) (Desc.mk2 f_spec_l9Apply_l19v v (Desc.mk2 f_spec_l9Apply_l19c c .empty)) (fun o => bodyK f_spec_l9Apply_l19c f_spec_l9Apply_l19v f_spec_l9Apply_l19e o kk) = f_spec_l9Apply_l19 R c v kk := by kernel_rfl
theorem f_spec_l9Apply_l19Ok {X : Cx} (hX : en39.lo = X.lo) : SubOk Try.prog X 122 ⟨f_spec_l9Apply_l19c, f_spec_l9Apply_l19v, f_spec_l9Apply_l19e, loopF f_spec_l9Apply_l19⟩ (.loop (loopAt 19 Try.f39)) :=
  sub_loop (subs := su39) ok39 rfl hX (GoodN.good (K := True) (Eq.mpr (show GoodN Try.prog X 122 en39 su39 (loopAt 19 Try.f39) True = (SubOk Try.prog X 122 ⟨f_spec_l9Apply_l22c, f_spec_l9Apply_l22v, f_spec_l9Apply_l22e, loopF f_spec_l9Apply_l22⟩ (.loop (loopAt 22 Try.f39)) ∧ True) by kernel_rfl) ⟨(f_spec_l9Apply_l22Ok hX), trivial⟩)).1 (by decide) (by decide) f_spec_l9Apply_l19Eq
theorem f_spec_l9ApplyEq (x : Ps ins39) : evF en39 su39 Try.f39 ins39 res39 x = f_spec_l9Apply x := by kernel_rfl
theorem so39 : Sound Try.prog 39 sg39 :=
  sound_of (fn := Try.f39) (c := bodyOf Try.f39) (subs := su39) (E := en39) (by kernel_rfl) (by kernel_rfl) (by decide) ok39 (by kernel_rfl) (by kernel_rfl) (by decide)
    (fun X hX => (GoodN.good (K := True) (Eq.mpr (show GoodN Try.prog X 122 en39 su39 (bodyOf Try.f39) True = (SubOk Try.prog X 122 ⟨f_spec_l9Apply_l6c, f_spec_l9Apply_l6v, f_spec_l9Apply_l6e, loopF f_spec_l9Apply_l6⟩ (.loop (loopAt 6 Try.f39)) ∧ SubOk Try.prog X 122 ⟨f_spec_l9Apply_l19c, f_spec_l9Apply_l19v, f_spec_l9Apply_l19e, loopF f_spec_l9Apply_l19⟩ (.loop (loopAt 19 Try.f39)) ∧ True) by kernel_rfl) ⟨(f_spec_l9Apply_l6Ok hX), (f_spec_l9Apply_l19Ok hX), trivial⟩)).1)
    (fun x r h => (f_spec_l9ApplyEq x).trans h)
def fl55 : List (Nat × Sig) := [(39, sg39), (87, sg87)]
def en55 : Env := { n := 15, ty := assocN tyL, fns := assocN fl55, lo := 0 }
def su55 : Bool → Nat → Option Sub | _, _ => none
theorem ok55 : EnvOk Try.prog en55 := envOk_of rfl rfl tyL_ok (⟨so39, ⟨so87, trivial⟩⟩)
theorem f_spec_ApplyEditEq (x : Ps ins55) : evF en55 su55 Try.f55 ins55 res55 x = f_spec_ApplyEdit x := by kernel_rfl
theorem so55 : Sound Try.prog 55 sg55 :=
  sound_of (fn := Try.f55) (c := bodyOf Try.f55) (subs := su55) (E := en55) (by kernel_rfl) (by kernel_rfl) (by decide) ok55 (by kernel_rfl) (by kernel_rfl) (by decide)
    (fun X hX => (GoodN.good (K := True) (Eq.mpr (show GoodN Try.prog X 15 en55 su55 (bodyOf Try.f55) True = (True) by kernel_rfl) trivial)).1)
    (fun x r h => (f_spec_ApplyEditEq x).trans h)
def fl45 : List (Nat × Sig) := [(37, sg37), (44, sg44), (54, sg54), (55, sg55), (94, sg94)]
def dw45 : List (Nat × List (List Nat × List Nat)) := [(5, [([3, 15], []), ([], []), ([3, 17], []), ([0, 18], [3]), ([19], [3, 18]), ([], []), ([], []), ([], []), ([5], []), ([5, 19], []), ([6], [])]), (13, [([3, 38], []), ([3, 39], []), ([], []), ([0, 41], []), ([42], []), ([3, 43], []), ([3, 44], []), ([3], [])])]
def en45 : Env := { n := 46, ty := assocN tyL, fns := assocN fl45, lo := 1, draw := drawOf dw45 }
def su45 : Bool → Nat → Option Sub | false, 7 => some ⟨f_spec_l1Cur_version_i7c, f_spec_l1Cur_version_i7v, f_spec_l1Cur_version_i7e, f_spec_l1Cur_version_i7⟩ | true, 3 => some ⟨f_spec_l1Cur_version_l3c, f_spec_l1Cur_version_l3v, f_spec_l1Cur_version_l3e, loopF f_spec_l1Cur_version_l3⟩ | false, 13 => some ⟨f_spec_l1Cur_version_i13c, f_spec_l1Cur_version_i13v, f_spec_l1Cur_version_i13e, f_spec_l1Cur_version_i13⟩ | false, 12 => some ⟨f_spec_l1Cur_version_i12c, f_spec_l1Cur_version_i12v, f_spec_l1Cur_version_i12e, f_spec_l1Cur_version_i12⟩ | false, 10 => some ⟨f_spec_l1Cur_version_i10c, f_spec_l1Cur_version_i10v, f_spec_l1Cur_version_i10e, f_spec_l1Cur_version_i10⟩ | _, _ => none
theorem ok45 : EnvOk Try.prog en45 := envOk_of rfl rfl tyL_ok (⟨so37, ⟨so44, ⟨so54, ⟨so55, ⟨so94, trivial⟩⟩⟩⟩⟩)
theorem dr45r5 {X : Cx} (hX : en45.lo = X.lo) : RegOk Try.prog X 46 en45 5 (regAt 5 Try.f45) := regOk_of ok45 rfl hX (by kernel_rfl) (by kernel_rfl)
theorem dr45r13 {X : Cx} (hX : en45.lo = X.lo) : RegOk Try.prog X 46 en45 13 (regAt 13 Try.f45) := regOk_of ok45 rfl hX (by kernel_rfl) (by kernel_rfl)
def su45i7 : Bool → Nat → Option Sub | true, 3 => some ⟨f_spec_l1Cur_version_l3c, f_spec_l1Cur_version_l3v, f_spec_l1Cur_version_l3e, loopF f_spec_l1Cur_version_l3⟩ | false, 13 => some ⟨f_spec_l1Cur_version_i13c, f_spec_l1Cur_version_i13v, f_spec_l1Cur_version_i13e, f_spec_l1Cur_version_i13⟩ | false, 12 => some ⟨f_spec_l1Cur_version_i12c, f_spec_l1Cur_version_i12v, f_spec_l1Cur_version_i12e, f_spec_l1Cur_version_i12⟩ | false, 10 => some ⟨f_spec_l1Cur_version_i10c, f_spec_l1Cur_version_i10v, f_spec_l1Cur_version_i10e, f_spec_l1Cur_version_i10⟩ | _, _ => none
theorem f_spec_l1Cur_version_i7Eq (R : Type) (c : Vars f_spec_l1Cur_version_i7c) (v : Vars f_spec_l1Cur_version_i7v) (kk : Vars f_spec_l1Cur_version_i7c → Oc f_spec_l1Cur_version_i7e → Option R) : evC en45 su45i7 (ifAt 7 Try.f45) (Desc.mk2 f_spec_l1Cur_version_i7v v (Desc.mk2 f_spec_l1Cur_version_i7c c .empty)) (fun o => chk f_spec_l1Cur_version_i7c f_spec_l1Cur_version_i7e o kk) = f_spec_l1Cur_version_i7 R c v kk := by kernel_rfl
theorem f_spec_l1Cur_version_i7Ok {X : Cx} (hX : en45.lo = X.lo) : SubOk Try.prog X 46 ⟨f_spec_l1Cur_version_i7c, f_spec_l1Cur_version_i7v, f_spec_l1Cur_version_i7e, f_spec_l1Cur_version_i7⟩ (ifAt 7 Try.f45) :=
  sub_if (u := ⟨f_spec_l1Cur_version_i7c, f_spec_l1Cur_version_i7v, f_spec_l1Cur_version_i7e, f_spec_l1Cur_version_i7⟩) (subs := su45i7) ok45 rfl hX (GoodN.good (K := True) (Eq.mpr (show GoodN Try.prog X 46 en45 su45i7 (ifAt 7 Try.f45) True = (True) by kernel_rfl) trivial)).1 (by decide) (by decide) f_spec_l1Cur_version_i7Eq
theorem f_spec_l1Cur_version_l3Eq (R : Type) (c : Vars f_spec_l1Cur_version_l3c) (v : Vars f_spec_l1Cur_version_l3v) (kk : Vars f_spec_l1Cur_version_l3c → (Vars f_spec_l1Cur_version_l3v ⊕ Oc f_spec_l1Cur_version_l3e) → Option R) : evC en45 su45 (loopAt 3 Try.f45) (Desc.mk2 f_spec_l1Cur_version_l3v v (Desc.mk2 f_spec_l1Cur_version_l3c c .empty)) (fun o => bodyK f_spec_l1Cur_version_l3c f_spec_l1Cur_version_l3v f_spec_l1Cur_version_l3e o kk) = f_spec_l1Cur_version_l3 R c v kk := by kernel_rfl
theorem f_spec_l1Cur_version_l3Ok {X : Cx} (hX : en45.lo = X.lo) : SubOk Try.prog X 46 ⟨f_spec_l1Cur_version_l3c, f_spec_l1Cur_version_l3v, f_spec_l1Cur_version_l3e, loopF f_spec_l1Cur_version_l3⟩ (.loop (loopAt 3 Try.f45)) :=
  sub_loop (subs := su45) ok45 rfl hX (GoodN.good (K := True) (Eq.mpr (show GoodN Try.prog X 46 en45 su45 (loopAt 3 Try.f45) True = (RegOk Try.prog X 46 en45 5 (regAt 5 Try.f45) ∧ SubOk Try.prog X 46 ⟨f_spec_l1Cur_version_i7c, f_spec_l1Cur_version_i7v, f_spec_l1Cur_version_i7e, f_spec_l1Cur_version_i7⟩ (ifAt 7 Try.f45) ∧ True) by kernel_rfl) ⟨(dr45r5 hX), (f_spec_l1Cur_version_i7Ok hX), trivial⟩)).1 (by decide) (by decide) f_spec_l1Cur_version_l3Eq
def su45i13 : Bool → Nat → Option Sub | false, 7 => some ⟨f_spec_l1Cur_version_i7c, f_spec_l1Cur_version_i7v, f_spec_l1Cur_version_i7e, f_spec_l1Cur_version_i7⟩ | true, 3 => some ⟨f_spec_l1Cur_version_l3c, f_spec_l1Cur_version_l3v, f_spec_l1Cur_version_l3e, loopF f_spec_l1Cur_version_l3⟩ | false, 12 => some ⟨f_spec_l1Cur_version_i12c, f_spec_l1Cur_version_i12v, f_spec_l1Cur_version_i12e, f_spec_l1Cur_version_i12⟩ | false, 10 => some ⟨f_spec_l1Cur_version_i10c, f_spec_l1Cur_version_i10v, f_spec_l1Cur_version_i10e, f_spec_l1Cur_version_i10⟩ | _, _ => none
theorem f_spec_l1Cur_version_i13Eq (R : Type) (c : Vars f_spec_l1Cur_version_i13c) (v : Vars f_spec_l1Cur_version_i13v) (kk : Vars f_spec_l1Cur_version_i13c → Oc f_spec_l1Cur_version_i13e → Option R) : evC en45 su45i13 (ifAt 13 Try.f45) (Desc.mk2 f_spec_l1Cur_version_i13v v (Desc.mk2 f_spec_l1Cur_version_i13c c .empty)) (fun o => chk f_spec_l1Cur_version_i13c f_spec_l1Cur_version_i13e o kk) = f_spec_l1Cur_version_i13 R c v kk := by kernel_rfl
theorem f_spec_l1Cur_version_i13Ok {X : Cx} (hX : en45.lo = X.lo) : SubOk Try.prog X 46 ⟨f_spec_l1Cur_version_i13c, f_spec_l1Cur_version_i13v, f_spec_l1Cur_version_i13e, f_spec_l1Cur_version_i13⟩ (ifAt 13 Try.f45) :=
  sub_if (u := ⟨f_spec_l1Cur_version_i13c, f_spec_l1Cur_version_i13v, f_spec_l1Cur_version_i13e, f_spec_l1Cur_version_i13⟩) (subs := su45i13) ok45 rfl hX (GoodN.good (K := True) (Eq.mpr (show GoodN Try.prog X 46 en45 su45i13 (ifAt 13 Try.f45) True = (RegOk Try.prog X 46 en45 13 (regAt 13 Try.f45) ∧ True) by kernel_rfl) ⟨(dr45r13 hX), trivial⟩)).1 (by decide) (by decide) f_spec_l1Cur_version_i13Eq
def su45i12 : Bool → Nat → Option Sub | false, 7 => some ⟨f_spec_l1Cur_version_i7c, f_spec_l1Cur_version_i7v, f_spec_l1Cur_version_i7e, f_spec_l1Cur_version_i7⟩ | true, 3 => some ⟨f_spec_l1Cur_version_l3c, f_spec_l1Cur_version_l3v, f_spec_l1Cur_version_l3e, loopF f_spec_l1Cur_version_l3⟩ | false, 13 => some ⟨f_spec_l1Cur_version_i13c, f_spec_l1Cur_version_i13v, f_spec_l1Cur_version_i13e, f_spec_l1Cur_version_i13⟩ | false, 10 => some ⟨f_spec_l1Cur_version_i10c, f_spec_l1Cur_version_i10v, f_spec_l1Cur_version_i10e, f_spec_l1Cur_version_i10⟩ | _, _ => none
theorem f_spec_l1Cur_version_i12Eq (R : Type) (c : Vars f_spec_l1Cur_version_i12c) (v : Vars f_spec_l1Cur_version_i12v) (kk : Vars f_spec_l1Cur_version_i12c → Oc f_spec_l1Cur_version_i12e → Option R) : evC en45 su45i12 (ifAt 12 Try.f45) (Desc.mk2 f_spec_l1Cur_version_i12v v (Desc.mk2 f_spec_l1Cur_version_i12c c .empty)) (fun o => chk f_spec_l1Cur_version_i12c f_spec_l1Cur_version_i12e o kk) = f_spec_l1Cur_version_i12 R c v kk := by kernel_rfl
theorem f_spec_l1Cur_version_i12Ok {X : Cx} (hX : en45.lo = X.lo) : SubOk Try.prog X 46 ⟨f_spec_l1Cur_version_i12c, f_spec_l1Cur_version_i12v, f_spec_l1Cur_version_i12e, f_spec_l1Cur_version_i12⟩ (ifAt 12 Try.f45) :=
  sub_if (u := ⟨f_spec_l1Cur_version_i12c, f_spec_l1Cur_version_i12v, f_spec_l1Cur_version_i12e, f_spec_l1Cur_version_i12⟩) (subs := su45i12) ok45 rfl hX (GoodN.good (K := True) (Eq.mpr (show GoodN Try.prog X 46 en45 su45i12 (ifAt 12 Try.f45) True = (SubOk Try.prog X 46 ⟨f_spec_l1Cur_version_i13c, f_spec_l1Cur_version_i13v, f_spec_l1Cur_version_i13e, f_spec_l1Cur_version_i13⟩ (ifAt 13 Try.f45) ∧ True) by kernel_rfl) ⟨(f_spec_l1Cur_version_i13Ok hX), trivial⟩)).1 (by decide) (by decide) f_spec_l1Cur_version_i12Eq
def su45i10 : Bool → Nat → Option Sub | false, 7 => some ⟨f_spec_l1Cur_version_i7c, f_spec_l1Cur_version_i7v, f_spec_l1Cur_version_i7e, f_spec_l1Cur_version_i7⟩ | true, 3 => some ⟨f_spec_l1Cur_version_l3c, f_spec_l1Cur_version_l3v, f_spec_l1Cur_version_l3e, loopF f_spec_l1Cur_version_l3⟩ | false, 13 => some ⟨f_spec_l1Cur_version_i13c, f_spec_l1Cur_version_i13v, f_spec_l1Cur_version_i13e, f_spec_l1Cur_version_i13⟩ | false, 12 => some ⟨f_spec_l1Cur_version_i12c, f_spec_l1Cur_version_i12v, f_spec_l1Cur_version_i12e, f_spec_l1Cur_version_i12⟩ | _, _ => none
theorem f_spec_l1Cur_version_i10Eq (R : Type) (c : Vars f_spec_l1Cur_version_i10c) (v : Vars f_spec_l1Cur_version_i10v) (kk : Vars f_spec_l1Cur_version_i10c → Oc f_spec_l1Cur_version_i10e → Option R) : evC en45 su45i10 (ifAt 10 Try.f45) (Desc.mk2 f_spec_l1Cur_version_i10v v (Desc.mk2 f_spec_l1Cur_version_i10c c .empty)) (fun o => chk f_spec_l1Cur_version_i10c f_spec_l1Cur_version_i10e o kk) = f_spec_l1Cur_version_i10 R c v kk := by kernel_rfl
theorem f_spec_l1Cur_version_i10Ok {X : Cx} (hX : en45.lo = X.lo) : SubOk Try.prog X 46 ⟨f_spec_l1Cur_version_i10c, f_spec_l1Cur_version_i10v, f_spec_l1Cur_version_i10e, f_spec_l1Cur_version_i10⟩ (ifAt 10 Try.f45) :=
  sub_if (u := ⟨f_spec_l1Cur_version_i10c, f_spec_l1Cur_version_i10v, f_spec_l1Cur_version_i10e, f_spec_l1Cur_version_i10⟩) (subs := su45i10) ok45 rfl hX (GoodN.good (K := True) (Eq.mpr (show GoodN Try.prog X 46 en45 su45i10 (ifAt 10 Try.f45) True = (SubOk Try.prog X 46 ⟨f_spec_l1Cur_version_i12c, f_spec_l1Cur_version_i12v, f_spec_l1Cur_version_i12e, f_spec_l1Cur_version_i12⟩ (ifAt 12 Try.f45) ∧ True) by kernel_rfl) ⟨(f_spec_l1Cur_version_i12Ok hX), trivial⟩)).1 (by decide) (by decide) f_spec_l1Cur_version_i10Eq
theorem f_spec_l1Cur_versionEq (x : Ps ins45) : evF en45 su45 Try.f45 ins45 res45 x = f_spec_l1Cur_version x := by kernel_rfl
theorem so45 : Sound Try.prog 45 sg45 :=
  sound_of (fn := Try.f45) (c := bodyOf Try.f45) (subs := su45) (E := en45) (by kernel_rfl) (by kernel_rfl) (by decide) ok45 (by kernel_rfl) (by kernel_rfl) (by decide)
    (fun X hX => (GoodN.good (K := True) (Eq.mpr (show GoodN Try.prog X 46 en45 su45 (bodyOf Try.f45) True = (SubOk Try.prog X 46 ⟨f_spec_l1Cur_version_l3c, f_spec_l1Cur_version_l3v, f_spec_l1Cur_version_l3e, loopF f_spec_l1Cur_version_l3⟩ (.loop (loopAt 3 Try.f45)) ∧ SubOk Try.prog X 46 ⟨f_spec_l1Cur_version_i10c, f_spec_l1Cur_version_i10v, f_spec_l1Cur_version_i10e, f_spec_l1Cur_version_i10⟩ (ifAt 10 Try.f45) ∧ True) by kernel_rfl) ⟨(f_spec_l1Cur_version_l3Ok hX), (f_spec_l1Cur_version_i10Ok hX), trivial⟩)).1)
    (fun x r h => (f_spec_l1Cur_versionEq x).trans h)
def fl11 : List (Nat × Sig) := [(44, sg44), (45, sg45)]
def en11 : Env := { n := 11, ty := assocN tyL, fns := assocN fl11, lo := 0 }
def su11 : Bool → Nat → Option Sub | _, _ => none
theorem ok11 : EnvOk Try.prog en11 := envOk_of rfl rfl tyL_ok (⟨so44, ⟨so45, trivial⟩⟩)
theorem f_spec_DrawEditBytesEq (x : Ps ins11) : evF en11 su11 Try.f11 ins11 res11 x = f_spec_DrawEditBytes x := by kernel_rfl
theorem so11 : Sound Try.prog 11 sg11 :=
  sound_of (fn := Try.f11) (c := bodyOf Try.f11) (subs := su11) (E := en11) (by kernel_rfl) (by kernel_rfl) (by decide) ok11 (by kernel_rfl) (by kernel_rfl) (by decide)
    (fun X hX => (GoodN.good (K := True) (Eq.mpr (show GoodN Try.prog X 11 en11 su11 (bodyOf Try.f11) True = (True) by kernel_rfl) trivial)).1)
    (fun x r h => (f_spec_DrawEditBytesEq x).trans h)
def fl104 : List (Nat × Sig) := []
def en104 : Env := { n := 15, ty := assocN tyL, fns := assocN fl104, lo := 0 }
def su104 : Bool → Nat → Option Sub | _, _ => none
theorem ok104 : EnvOk Try.prog en104 := envOk_of rfl rfl tyL_ok (trivial)
theorem f_impl_inEq (x : Ps ins104) : evF en104 su104 Try.f104 ins104 res104 x = f_impl_in x := by kernel_rfl
theorem so104 : Sound Try.prog 104 sg104 :=
  sound_of (fn := Try.f104) (c := bodyOf Try.f104) (subs := su104) (E := en104) (by kernel_rfl) (by kernel_rfl) (by decide) ok104 (by kernel_rfl) (by kernel_rfl) (by decide)
    (fun X hX => (GoodN.good (K := True) (Eq.mpr (show GoodN Try.prog X 15 en104 su104 (bodyOf Try.f104) True = (True) by kernel_rfl) trivial)).1)
    (fun x r h => (f_impl_inEq x).trans h)
def fl105 : List (Nat × Sig) := [(104, sg104)]
def en105 : Env := { n := 5, ty := assocN tyL, fns := assocN fl105, lo := 0 }
def su105 : Bool → Nat → Option Sub | _, _ => none
theorem ok105 : EnvOk Try.prog en105 := envOk_of rfl rfl tyL_ok (⟨so104, trivial⟩)
theorem f_impl_isSeqEq (x : Ps ins105) : evF en105 su105 Try.f105 ins105 res105 x = f_impl_isSeq x := by kernel_rfl
theorem so105 : Sound Try.prog 105 sg105 :=
  sound_of (fn := Try.f105) (c := bodyOf Try.f105) (subs := su105) (E := en105) (by kernel_rfl) (by kernel_rfl) (by decide) ok105 (by kernel_rfl) (by kernel_rfl) (by decide)
    (fun X hX => (GoodN.good (K := True) (Eq.mpr (show GoodN Try.prog X 5 en105 su105 (bodyOf Try.f105) True = (True) by kernel_rfl) trivial)).1)
    (fun x r h => (f_impl_isSeqEq x).trans h)
def fl59 : List (Nat × Sig) := [(104, sg104), (105, sg105)]
def en59 : Env := { n := 11, ty := assocN tyL, fns := assocN fl59, lo := 0 }
def su59 : Bool → Nat → Option Sub | _, _ => none
theorem ok59 : EnvOk Try.prog en59 := envOk_of rfl rfl tyL_ok (⟨so104, ⟨so105, trivial⟩⟩)
theorem f_impl_nextOkEq (x : Ps ins59) : evF en59 su59 Try.f59 ins59 res59 x = f_impl_nextOk x := by kernel_rfl
theorem so59 : Sound Try.prog 59 sg59 :=
  sound_of (fn := Try.f59) (c := bodyOf Try.f59) (subs := su59) (E := en59) (by kernel_rfl) (by kernel_rfl) (by decide) ok59 (by kernel_rfl) (by kernel_rfl) (by decide)
    (fun X hX => (GoodN.good (K := True) (Eq.mpr (show GoodN Try.prog X 11 en59 su59 (bodyOf Try.f59) True = (True) by kernel_rfl) trivial)).1)
    (fun x r h => (f_impl_nextOkEq x).trans h)
def fl137 : List (Nat × Sig) := [(104, sg104)]
def en137 : Env := { n := 6, ty := assocN tyL, fns := assocN fl137, lo := 0 }
def su137 : Bool → Nat → Option Sub | _, _ => none
theorem ok137 : EnvOk Try.prog en137 := envOk_of rfl rfl tyL_ok (⟨so104, trivial⟩)
theorem f_impl_isKeyEq (x : Ps ins137) : evF en137 su137 Try.f137 ins137 res137 x = f_impl_isKey x := by kernel_rfl
theorem so137 : Sound Try.prog 137 sg137 :=
  sound_of (fn := Try.f137) (c := bodyOf Try.f137) (subs := su137) (E := en137) (by kernel_rfl) (by kernel_rfl) (by decide) ok137 (by kernel_rfl) (by kernel_rfl) (by decide)
    (fun X hX => (GoodN.good (K := True) (Eq.mpr (show GoodN Try.prog X 6 en137 su137 (bodyOf Try.f137) True = (True) by kernel_rfl) trivial)).1)
    (fun x r h => (f_impl_isKeyEq x).trans h)
def fl106 : List (Nat × Sig) := [(104, sg104), (137, sg137)]
def en106 : Env := { n := 28, ty := assocN tyL, fns := assocN fl106, lo := 0 }
def su106 : Bool → Nat → Option Sub | _, _ => none
theorem ok106 : EnvOk Try.prog en106 := envOk_of rfl rfl tyL_ok (⟨so104, ⟨so137, trivial⟩⟩)
theorem f_impl_goodMetaEq (x : Ps ins106) : evF en106 su106 Try.f106 ins106 res106 x = f_impl_goodMeta x := by kernel_rfl
theorem so106 : Sound Try.prog 106 sg106 :=
  sound_of (fn := Try.f106) (c := bodyOf Try.f106) (subs := su106) (E := en106) (by kernel_rfl) (by kernel_rfl) (by decide) ok106 (by kernel_rfl) (by kernel_rfl) (by decide)
    (fun X hX => (GoodN.good (K := True) (Eq.mpr (show GoodN Try.prog X 28 en106 su106 (bodyOf Try.f106) True = (True) by kernel_rfl) trivial)).1)
    (fun x r h => (f_impl_goodMetaEq x).trans h)
def fl60 : List (Nat × Sig) := [(106, sg106)]
def en60 : Env := { n := 34, ty := assocN tyL, fns := assocN fl60, lo := 0 }
def su60 : Bool → Nat → Option Sub | true, 2 => some ⟨f_impl_metasOk_l2c, f_impl_metasOk_l2v, f_impl_metasOk_l2e, loopF f_impl_metasOk_l2⟩ | _, _ => none
theorem ok60 : EnvOk Try.prog en60 := envOk_of rfl rfl tyL_ok (⟨so106, trivial⟩)
theorem dr60r4 {X : Cx} (hX : en60.lo = X.lo) : RegOk Try.prog X 34 en60 4 (regAt 4 Try.f60) := regOk_of ok60 rfl hX (by kernel_rfl) (by kernel_rfl)
theorem f_impl_metasOk_l2Eq (R : Type) (c : Vars f_impl_metasOk_l2c) (v : Vars f_impl_metasOk_l2v) (kk : Vars f_impl_metasOk_l2c → (Vars f_impl_metasOk_l2v ⊕ Oc f_impl_metasOk_l2e) → Option R) : evC en60 su60 (loopAt 2 Try.f60) (Desc.mk2 f_impl_metasOk_l2v v (Desc.mk2 f_impl_metasOk_l2c c .empty)) (fun o => bodyK f_impl_metasOk_l2c f_impl_metasOk_l2v f_impl_metasOk_l2e o kk) = f_impl_metasOk_l2 R c v kk := by kernel_rfl
theorem f_impl_metasOk_l2Ok {X : Cx} (hX : en60.lo = X.lo) : SubOk Try.prog X 34 ⟨f_impl_metasOk_l2c, f_impl_metasOk_l2v, f_impl_metasOk_l2e, loopF f_impl_metasOk_l2⟩ (.loop (loopAt 2 Try.f60)) :=
  sub_loop (subs := su60) ok60 rfl hX (GoodN.good (K := True) (Eq.mpr (show GoodN Try.prog X 34 en60 su60 (loopAt 2 Try.f60) True = (RegOk Try.prog X 34 en60 4 (regAt 4 Try.f60) ∧ True) by kernel_rfl) ⟨(dr60r4 hX), trivial⟩)).1 (by decide) (by decide) f_impl_metasOk_l2Eq
theorem f_impl_metasOkEq (x : Ps ins60) : evF en60 su60 Try.f60 ins60 res60 x = f_impl_metasOk x := by kernel_rfl
theorem so60 : Sound Try.prog 60 sg60 :=
  sound_of (fn := Try.f60) (c := bodyOf Try.f60) (subs := su60) (E := en60) (by kernel_rfl) (by kernel_rfl) (by decide) ok60 (by kernel_rfl) (by kernel_rfl) (by decide)
    (fun X hX => (GoodN.good (K := True) (Eq.mpr (show GoodN Try.prog X 34 en60 su60 (bodyOf Try.f60) True = (SubOk Try.prog X 34 ⟨f_impl_metasOk_l2c, f_impl_metasOk_l2v, f_impl_metasOk_l2e, loopF f_impl_metasOk_l2⟩ (.loop (loopAt 2 Try.f60)) ∧ True) by kernel_rfl) ⟨(f_impl_metasOk_l2Ok hX), trivial⟩)).1)
    (fun x r h => (f_impl_metasOkEq x).trans h)
def fl95 : List (Nat × Sig) := [(104, sg104)]
def en95 : Env := { n := 29, ty := assocN tyL, fns := assocN fl95, lo := 0 }
def su95 : Bool → Nat → Option Sub | true, 2 => some ⟨f_impl_numbersOk_l2c, f_impl_numbersOk_l2v, f_impl_numbersOk_l2e, loopF f_impl_numbersOk_l2⟩ | _, _ => none
theorem ok95 : EnvOk Try.prog en95 := envOk_of rfl rfl tyL_ok (⟨so104, trivial⟩)
theorem f_impl_numbersOk_l2Eq (R : Type) (c : Vars f_impl_numbersOk_l2c) (v : Vars f_impl_numbersOk_l2v) (kk : Vars f_impl_numbersOk_l2c → (Vars f_impl_numbersOk_l2v ⊕ Oc f_impl_numbersOk_l2e) → Option R) : evC en95 su95 (loopAt 2 Try.f95) (Desc.mk2 f_impl_numbersOk_l2v v (Desc.mk2 f_impl_numbersOk_l2c c .empty)) (fun o => bodyK f_impl_numbersOk_l2c f_impl_numbersOk_l2v f_impl_numbersOk_l2e o kk) = f_impl_numbersOk_l2 R c v kk := by kernel_rfl
theorem f_impl_numbersOk_l2Ok {X : Cx} (hX : en95.lo = X.lo) : SubOk Try.prog X 29 ⟨f_impl_numbersOk_l2c, f_impl_numbersOk_l2v, f_impl_numbersOk_l2e, loopF f_impl_numbersOk_l2⟩ (.loop (loopAt 2 Try.f95)) :=
  sub_loop (subs := su95) ok95 rfl hX (GoodN.good (K := True) (Eq.mpr (show GoodN Try.prog X 29 en95 su95 (loopAt 2 Try.f95) True = (True) by kernel_rfl) trivial)).1 (by decide) (by decide) f_impl_numbersOk_l2Eq
theorem f_impl_numbersOkEq (x : Ps ins95) : evF en95 su95 Try.f95 ins95 res95 x = f_impl_numbersOk x := by kernel_rfl
theorem so95 : Sound Try.prog 95 sg95 :=
  sound_of (fn := Try.f95) (c := bodyOf Try.f95) (subs := su95) (E := en95) (by kernel_rfl) (by kernel_rfl) (by decide) ok95 (by kernel_rfl) (by kernel_rfl) (by decide)
    (fun X hX => (GoodN.good (K := True) (Eq.mpr (show GoodN Try.prog X 29 en95 su95 (bodyOf Try.f95) True = (SubOk Try.prog X 29 ⟨f_impl_numbersOk_l2c, f_impl_numbersOk_l2v, f_impl_numbersOk_l2e, loopF f_impl_numbersOk_l2⟩ (.loop (loopAt 2 Try.f95)) ∧ True) by kernel_rfl) ⟨(f_impl_numbersOk_l2Ok hX), trivial⟩)).1)
    (fun x r h => (f_impl_numbersOkEq x).trans h)
def fl46 : List (Nat × Sig) := [(59, sg59), (60, sg60), (95, sg95)]
def en46 : Env := { n := 24, ty := assocN tyL, fns := assocN fl46, lo := 0 }
def su46 : Bool → Nat → Option Sub | _, _ => none
theorem ok46 : EnvOk Try.prog en46 := envOk_of rfl rfl tyL_ok (⟨so59, ⟨so60, ⟨so95, trivial⟩⟩⟩)
theorem f_impl_goodEditEq (x : Ps ins46) : evF en46 su46 Try.f46 ins46 res46 x = f_impl_goodEdit x := by kernel_rfl
theorem so46 : Sound Try.prog 46 sg46 :=
  sound_of (fn := Try.f46) (c := bodyOf Try.f46) (subs := su46) (E := en46) (by kernel_rfl) (by kernel_rfl) (by decide) ok46 (by kernel_rfl) (by kernel_rfl) (by decide)
    (fun X hX => (GoodN.good (K := True) (Eq.mpr (show GoodN Try.prog X 24 en46 su46 (bodyOf Try.f46) True = (True) by kernel_rfl) trivial)).1)
    (fun x r h => (f_impl_goodEditEq x).trans h)
def fl47 : List (Nat × Sig) := []
def hi47 : List (Nat × (K × Mk)) := [(3, ((.sl (.int .u8)), (.o .s)))]
def en47 : Env := { n := 22, ty := assocN tyL, fns := assocN fl47, lo := 0, hint := assocN hi47 }
def su47 : Bool → Nat → Option Sub | true, 2 => some ⟨f_impl_varBytes_l2c, f_impl_varBytes_l2v, f_impl_varBytes_l2e, loopF f_impl_varBytes_l2⟩ | _, _ => none
theorem ok47 : EnvOk Try.prog en47 := envOk_of rfl rfl tyL_ok (trivial)
theorem f_impl_varBytes_l2Eq (R : Type) (c : Vars f_impl_varBytes_l2c) (v : Vars f_impl_varBytes_l2v) (kk : Vars f_impl_varBytes_l2c → (Vars f_impl_varBytes_l2v ⊕ Oc f_impl_varBytes_l2e) → Option R) : evC en47 su47 (loopAt 2 Try.f47) (Desc.mk2 f_impl_varBytes_l2v v (Desc.mk2 f_impl_varBytes_l2c c .empty)) (fun o => bodyK f_impl_varBytes_l2c f_impl_varBytes_l2v f_impl_varBytes_l2e o kk) = f_impl_varBytes_l2 R c v kk := by kernel_rfl
theorem f_impl_varBytes_l2Ok {X : Cx} (hX : en47.lo = X.lo) : SubOk Try.prog X 22 ⟨f_impl_varBytes_l2c, f_impl_varBytes_l2v, f_impl_varBytes_l2e, loopF f_impl_varBytes_l2⟩ (.loop (loopAt 2 Try.f47)) :=
  sub_loop (subs := su47) ok47 rfl hX (GoodN.good (K := True) (Eq.mpr (show GoodN Try.prog X 22 en47 su47 (loopAt 2 Try.f47) True = (True) by kernel_rfl) trivial)).1 (by decide) (by decide) f_impl_varBytes_l2Eq
theorem f_impl_varBytesEq (x : Ps ins47) : evF en47 su47 Try.f47 ins47 res47 x = f_impl_varBytes x := by kernel_rfl
theorem so47 : Sound Try.prog 47 sg47 :=
  sound_of (fn := Try.f47) (c := bodyOf Try.f47) (subs := su47) (E := en47) (by kernel_rfl) (by kernel_rfl) (by decide) ok47 (by kernel_rfl) (by kernel_rfl) (by decide)
    (fun X hX => (GoodN.good (K := True) (Eq.mpr (show GoodN Try.prog X 22 en47 su47 (bodyOf Try.f47) True = (SubOk Try.prog X 22 ⟨f_impl_varBytes_l2c, f_impl_varBytes_l2v, f_impl_varBytes_l2e, loopF f_impl_varBytes_l2⟩ (.loop (loopAt 2 Try.f47)) ∧ True) by kernel_rfl) ⟨(f_impl_varBytes_l2Ok hX), trivial⟩)).1)
    (fun x r h => (f_impl_varBytesEq x).trans h)
def fl48 : List (Nat × Sig) := [(47, sg47)]
def en48 : Env := { n := 8, ty := assocN tyL, fns := assocN fl48, lo := 0 }
def su48 : Bool → Nat → Option Sub | _, _ => none
theorem ok48 : EnvOk Try.prog en48 := envOk_of rfl rfl tyL_ok (⟨so47, trivial⟩)
theorem f_impl_sizedEq (x : Ps ins48) : evF en48 su48 Try.f48 ins48 res48 x = f_impl_sized x := by kernel_rfl
theorem so48 : Sound Try.prog 48 sg48 :=
  sound_of (fn := Try.f48) (c := bodyOf Try.f48) (subs := su48) (E := en48) (by kernel_rfl) (by kernel_rfl) (by decide) ok48 (by kernel_rfl) (by kernel_rfl) (by decide)
    (fun X hX => (GoodN.good (K := True) (Eq.mpr (show GoodN Try.prog X 8 en48 su48 (bodyOf Try.f48) True = (True) by kernel_rfl) trivial)).1)
    (fun x r h => (f_impl_sizedEq x).trans h)
def fl12 : List (Nat × Sig) := [(46, sg46), (47, sg47), (48, sg48)]
def en12 : Env := { n := 71, ty := assocN tyL, fns := assocN fl12, lo := 0 }
def su12 : Bool → Nat → Option Sub | true, 5 => some ⟨f_impl_EditBytes_l5c, f_impl_EditBytes_l5v, f_impl_EditBytes_l5e, loopF f_impl_EditBytes_l5⟩ | true, 11 => some ⟨f_impl_EditBytes_l11c, f_impl_EditBytes_l11v, f_impl_EditBytes_l11e, loopF f_impl_EditBytes_l11⟩ | _, _ => none
theorem ok12 : EnvOk Try.prog en12 := envOk_of rfl rfl tyL_ok (⟨so46, ⟨so47, ⟨so48, trivial⟩⟩⟩)
theorem dr12r3 {X : Cx} (hX : en12.lo = X.lo) : RegOk Try.prog X 71 en12 3 (regAt 3 Try.f12) := regOk_of ok12 rfl hX (by kernel_rfl) (by kernel_rfl)
theorem dr12r13 {X : Cx} (hX : en12.lo = X.lo) : RegOk Try.prog X 71 en12 13 (regAt 13 Try.f12) := regOk_of ok12 rfl hX (by kernel_rfl) (by kernel_rfl)
theorem f_impl_EditBytes_l5Eq (R : Type) (c : Vars f_impl_EditBytes_l5c) (v : Vars f_impl_EditBytes_l5v) (kk : Vars f_impl_EditBytes_l5c → (Vars f_impl_EditBytes_l5v ⊕ Oc f_impl_EditBytes_l5e) → Option R) : evC en12 su12 (loopAt 5 Try.f12) (Desc.mk2 f_impl_EditBytes_l5v v (Desc.mk2 f_impl_EditBytes_l5c c .empty)) (fun o => bodyK f_impl_EditBytes_l5c f_impl_EditBytes_l5v f_impl_EditBytes_l5e o kk) = f_impl_EditBytes_l5 R c v kk := by kernel_rfl
theorem f_impl_EditBytes_l5Ok {X : Cx} (hX : en12.lo = X.lo) : SubOk Try.prog X 71 ⟨f_impl_EditBytes_l5c, f_impl_EditBytes_l5v, f_impl_EditBytes_l5e, loopF f_impl_EditBytes_l5⟩ (.loop (loopAt 5 Try.f12)) :=
  sub_loop (subs := su12) ok12 rfl hX (GoodN.good (K := True) (Eq.mpr (show GoodN Try.prog X 71 en12 su12 (loopAt 5 Try.f12) True = (True) by kernel_rfl) trivial)).1 (by decide) (by decide) f_impl_EditBytes_l5Eq
theorem f_impl_EditBytes_l11Eq (R : Type) (c : Vars f_impl_EditBytes_l11c) (v : Vars f_impl_EditBytes_l11v) (kk : Vars f_impl_EditBytes_l11c → (Vars f_impl_EditBytes_l11v ⊕ Oc f_impl_EditBytes_l11e) → Option R) : evC en12 su12 (loopAt 11 Try.f12) (Desc.mk2 f_impl_EditBytes_l11v v (Desc.mk2 f_impl_EditBytes_l11c c .empty)) (fun o => bodyK f_impl_EditBytes_l11c f_impl_EditBytes_l11v f_impl_EditBytes_l11e o kk) = f_impl_EditBytes_l11 R c v kk := by kernel_rfl
theorem f_impl_EditBytes_l11Ok {X : Cx} (hX : en12.lo = X.lo) : SubOk Try.prog X 71 ⟨f_impl_EditBytes_l11c, f_impl_EditBytes_l11v, f_impl_EditBytes_l11e, loopF f_impl_EditBytes_l11⟩ (.loop (loopAt 11 Try.f12)) :=
  sub_loop (subs := su12) ok12 rfl hX (GoodN.good (K := True) (Eq.mpr (show GoodN Try.prog X 71 en12 su12 (loopAt 11 Try.f12) True = (RegOk Try.prog X 71 en12 13 (regAt 13 Try.f12) ∧ True) by kernel_rfl) ⟨(dr12r13 hX), trivial⟩)).1 (by decide) (by decide) f_impl_EditBytes_l11Eq
theorem f_impl_EditBytesEq (x : Ps ins12) : evF en12 su12 Try.f12 ins12 res12 x = f_impl_EditBytes x := by kernel_rfl
theorem so12 : Sound Try.prog 12 sg12 :=
  sound_of (fn := Try.f12) (c := bodyOf Try.f12) (subs := su12) (E := en12) (by kernel_rfl) (by kernel_rfl) (by decide) ok12 (by kernel_rfl) (by kernel_rfl) (by decide)
    (fun X hX => (GoodN.good (K := True) (Eq.mpr (show GoodN Try.prog X 71 en12 su12 (bodyOf Try.f12) True = (RegOk Try.prog X 71 en12 3 (regAt 3 Try.f12) ∧ SubOk Try.prog X 71 ⟨f_impl_EditBytes_l5c, f_impl_EditBytes_l5v, f_impl_EditBytes_l5e, loopF f_impl_EditBytes_l5⟩ (.loop (loopAt 5 Try.f12)) ∧ SubOk Try.prog X 71 ⟨f_impl_EditBytes_l11c, f_impl_EditBytes_l11v, f_impl_EditBytes_l11e, loopF f_impl_EditBytes_l11⟩ (.loop (loopAt 11 Try.f12)) ∧ True) by kernel_rfl) ⟨(dr12r3 hX), (f_impl_EditBytes_l5Ok hX), (f_impl_EditBytes_l11Ok hX), trivial⟩)).1)
    (fun x r h => (f_impl_EditBytesEq x).trans h)
def fl99 : List (Nat × Sig) := []
def hi99 : List (Nat × (K × Mk)) := [(3, ((.sl (.int .u8)), (.o .s)))]
def en99 : Env := { n := 21, ty := assocN tyL, fns := assocN fl99, lo := 0, hint := assocN hi99 }
def su99 : Bool → Nat → Option Sub | true, 2 => some ⟨f_spec_l2Var_l2c, f_spec_l2Var_l2v, f_spec_l2Var_l2e, loopF f_spec_l2Var_l2⟩ | _, _ => none
theorem ok99 : EnvOk Try.prog en99 := envOk_of rfl rfl tyL_ok (trivial)
theorem f_spec_l2Var_l2Eq (R : Type) (c : Vars f_spec_l2Var_l2c) (v : Vars f_spec_l2Var_l2v) (kk : Vars f_spec_l2Var_l2c → (Vars f_spec_l2Var_l2v ⊕ Oc f_spec_l2Var_l2e) → Option R) : evC en99 su99 (loopAt 2 Try.f99) (Desc.mk2 f_spec_l2Var_l2v v (Desc.mk2 f_spec_l2Var_l2c c .empty)) (fun o => bodyK f_spec_l2Var_l2c f_spec_l2Var_l2v f_spec_l2Var_l2e o kk) = f_spec_l2Var_l2 R c v kk := by kernel_rfl
theorem f_spec_l2Var_l2Ok {X : Cx} (hX : en99.lo = X.lo) : SubOk Try.prog X 21 ⟨f_spec_l2Var_l2c, f_spec_l2Var_l2v, f_spec_l2Var_l2e, loopF f_spec_l2Var_l2⟩ (.loop (loopAt 2 Try.f99)) :=
  sub_loop (subs := su99) ok99 rfl hX (GoodN.good (K := True) (Eq.mpr (show GoodN Try.prog X 21 en99 su99 (loopAt 2 Try.f99) True = (True) by kernel_rfl) trivial)).1 (by decide) (by decide) f_spec_l2Var_l2Eq
theorem f_spec_l2VarEq (x : Ps ins99) : evF en99 su99 Try.f99 ins99 res99 x = f_spec_l2Var x := by kernel_rfl
theorem so99 : Sound Try.prog 99 sg99 :=
  sound_of (fn := Try.f99) (c := bodyOf Try.f99) (subs := su99) (E := en99) (by kernel_rfl) (by kernel_rfl) (by decide) ok99 (by kernel_rfl) (by kernel_rfl) (by decide)
    (fun X hX => (GoodN.good (K := True) (Eq.mpr (show GoodN Try.prog X 21 en99 su99 (bodyOf Try.f99) True = (SubOk Try.prog X 21 ⟨f_spec_l2Var_l2c, f_spec_l2Var_l2v, f_spec_l2Var_l2e, loopF f_spec_l2Var_l2⟩ (.loop (loopAt 2 Try.f99)) ∧ True) by kernel_rfl) ⟨(f_spec_l2Var_l2Ok hX), trivial⟩)).1)
    (fun x r h => (f_spec_l2VarEq x).trans h)
def fl50 : List (Nat × Sig) := [(99, sg99)]
def en50 : Env := { n := 72, ty := assocN tyL, fns := assocN fl50, lo := 0 }
def su50 : Bool → Nat → Option Sub | true, 3 => some ⟨f_spec_l9Bytes_l3c, f_spec_l9Bytes_l3v, f_spec_l9Bytes_l3e, loopF f_spec_l9Bytes_l3⟩ | true, 9 => some ⟨f_spec_l9Bytes_l9c, f_spec_l9Bytes_l9v, f_spec_l9Bytes_l9e, loopF f_spec_l9Bytes_l9⟩ | _, _ => none
theorem ok50 : EnvOk Try.prog en50 := envOk_of rfl rfl tyL_ok (⟨so99, trivial⟩)
theorem dr50r1 {X : Cx} (hX : en50.lo = X.lo) : RegOk Try.prog X 72 en50 1 (regAt 1 Try.f50) := regOk_of ok50 rfl hX (by kernel_rfl) (by kernel_rfl)
theorem dr50r11 {X : Cx} (hX : en50.lo = X.lo) : RegOk Try.prog X 72 en50 11 (regAt 11 Try.f50) := regOk_of ok50 rfl hX (by kernel_rfl) (by kernel_rfl)
theorem f_spec_l9Bytes_l3Eq (R : Type) (c : Vars f_spec_l9Bytes_l3c) (v : Vars f_spec_l9Bytes_l3v) (kk : Vars f_spec_l9Bytes_l3c → (Vars f_spec_l9Bytes_l3v ⊕ Oc f_spec_l9Bytes_l3e) → Option R) : evC en50 su50 (loopAt 3 Try.f50) (Desc.mk2 f_spec_l9Bytes_l3v v (Desc.mk2 f_spec_l9Bytes_l3c c .empty)) (fun o => bodyK f_spec_l9Bytes_l3c f_spec_l9Bytes_l3v f_spec_l9Bytes_l3e o kk) = f_spec_l9Bytes_l3 R c v kk := by kernel_rfl
theorem f_spec_l9Bytes_l3Ok {X : Cx} (hX : en50.lo = X.lo) : SubOk Try.prog X 72 ⟨f_spec_l9Bytes_l3c, f_spec_l9Bytes_l3v, f_spec_l9Bytes_l3e, loopF f_spec_l9Bytes_l3⟩ (.loop (loopAt 3 Try.f50)) :=
  sub_loop (subs := su50) ok50 rfl hX (GoodN.good (K := True) (Eq.mpr (show GoodN Try.prog X 72 en50 su50 (loopAt 3 Try.f50) True = (True) by kernel_rfl) trivial)).1 (by decide) (by decide) f_spec_l9Bytes_l3Eq
theorem f_spec_l9Bytes_l9Eq (R : Type) (c : Vars f_spec_l9Bytes_l9c) (v : Vars f_spec_l9Bytes_l9v) (kk : Vars f_spec_l9Bytes_l9c → (Vars f_spec_l9Bytes_l9v ⊕ Oc f_spec_l9Bytes_l9e) → Option R) : evC en50 su50 (loopAt 9 Try.f50) (Desc.mk2 f_spec_l9Bytes_l9v v (Desc.mk2 f_spec_l9Bytes_l9c c .empty)) (fun o => bodyK f_spec_l9Bytes_l9c f_spec_l9Bytes_l9v f_spec_l9Bytes_l9e o kk) = f_spec_l9Bytes_l9 R c v kk := by kernel_rfl
theorem f_spec_l9Bytes_l9Ok {X : Cx} (hX : en50.lo = X.lo) : SubOk Try.prog X 72 ⟨f_spec_l9Bytes_l9c, f_spec_l9Bytes_l9v, f_spec_l9Bytes_l9e, loopF f_spec_l9Bytes_l9⟩ (.loop (loopAt 9 Try.f50)) :=
  sub_loop (subs := su50) ok50 rfl hX (GoodN.good (K := True) (Eq.mpr (show GoodN Try.prog X 72 en50 su50 (loopAt 9 Try.f50) True = (RegOk Try.prog X 72 en50 11 (regAt 11 Try.f50) ∧ True) by kernel_rfl) ⟨(dr50r11 hX), trivial⟩)).1 (by decide) (by decide) f_spec_l9Bytes_l9Eq
theorem f_spec_l9BytesEq (x : Ps ins50) : evF en50 su50 Try.f50 ins50 res50 x = f_spec_l9Bytes x := by kernel_rfl
theorem so50 : Sound Try.prog 50 sg50 :=
  sound_of (fn := Try.f50) (c := bodyOf Try.f50) (subs := su50) (E := en50) (by kernel_rfl) (by kernel_rfl) (by decide) ok50 (by kernel_rfl) (by kernel_rfl) (by decide)
    (fun X hX => (GoodN.good (K := True) (Eq.mpr (show GoodN Try.prog X 72 en50 su50 (bodyOf Try.f50) True = (RegOk Try.prog X 72 en50 1 (regAt 1 Try.f50) ∧ SubOk Try.prog X 72 ⟨f_spec_l9Bytes_l3c, f_spec_l9Bytes_l3v, f_spec_l9Bytes_l3e, loopF f_spec_l9Bytes_l3⟩ (.loop (loopAt 3 Try.f50)) ∧ SubOk Try.prog X 72 ⟨f_spec_l9Bytes_l9c, f_spec_l9Bytes_l9v, f_spec_l9Bytes_l9e, loopF f_spec_l9Bytes_l9⟩ (.loop (loopAt 9 Try.f50)) ∧ True) by kernel_rfl) ⟨(dr50r1 hX), (f_spec_l9Bytes_l3Ok hX), (f_spec_l9Bytes_l9Ok hX), trivial⟩)).1)
    (fun x r h => (f_spec_l9BytesEq x).trans h)
def fl13 : List (Nat × Sig) := [(49, sg49), (50, sg50)]
def en13 : Env := { n := 15, ty := assocN tyL, fns := assocN fl13, lo := 0 }
def su13 : Bool → Nat → Option Sub | _, _ => none
theorem ok13 : EnvOk Try.prog en13 := envOk_of rfl rfl tyL_ok (⟨so49, ⟨so50, trivial⟩⟩)
theorem f_spec_EditBytesEq (x : Ps ins13) : evF en13 su13 Try.f13 ins13 res13 x = f_spec_EditBytes x := by kernel_rfl
theorem so13 : Sound Try.prog 13 sg13 :=
  sound_of (fn := Try.f13) (c := bodyOf Try.f13) (subs := su13) (E := en13) (by kernel_rfl) (by kernel_rfl) (by decide) ok13 (by kernel_rfl) (by kernel_rfl) (by decide)
    (fun X hX => (GoodN.good (K := True) (Eq.mpr (show GoodN Try.prog X 15 en13 su13 (bodyOf Try.f13) True = (True) by kernel_rfl) trivial)).1)
    (fun x r h => (f_spec_EditBytesEq x).trans h)
def fl88 : List (Nat × Sig) := []
def en88 : Env := { n := 36, ty := assocN tyL, fns := assocN fl88, lo := 0 }
def su88 : Bool → Nat → Option Sub | true, 3 => some ⟨f_impl_TakeVar_l3c, f_impl_TakeVar_l3v, f_impl_TakeVar_l3e, loopF f_impl_TakeVar_l3⟩ | _, _ => none
theorem ok88 : EnvOk Try.prog en88 := envOk_of rfl rfl tyL_ok (trivial)
theorem f_impl_TakeVar_l3Eq (R : Type) (c : Vars f_impl_TakeVar_l3c) (v : Vars f_impl_TakeVar_l3v) (kk : Vars f_impl_TakeVar_l3c → (Vars f_impl_TakeVar_l3v ⊕ Oc f_impl_TakeVar_l3e) → Option R) : evC en88 su88 (loopAt 3 Try.f88) (Desc.mk2 f_impl_TakeVar_l3v v (Desc.mk2 f_impl_TakeVar_l3c c .empty)) (fun o => bodyK f_impl_TakeVar_l3c f_impl_TakeVar_l3v f_impl_TakeVar_l3e o kk) = f_impl_TakeVar_l3 R c v kk := by kernel_rfl
theorem f_impl_TakeVar_l3Ok {X : Cx} (hX : en88.lo = X.lo) : SubOk Try.prog X 36 ⟨f_impl_TakeVar_l3c, f_impl_TakeVar_l3v, f_impl_TakeVar_l3e, loopF f_impl_TakeVar_l3⟩ (.loop (loopAt 3 Try.f88)) :=
  sub_loop (subs := su88) ok88 rfl hX (GoodN.good (K := True) (Eq.mpr (show GoodN Try.prog X 36 en88 su88 (loopAt 3 Try.f88) True = (True) by kernel_rfl) trivial)).1 (by decide) (by decide) f_impl_TakeVar_l3Eq
theorem f_impl_TakeVarEq (x : Ps ins88) : evF en88 su88 Try.f88 ins88 res88 x = f_impl_TakeVar x := by kernel_rfl
theorem so88 : Sound Try.prog 88 sg88 :=
  sound_of (fn := Try.f88) (c := bodyOf Try.f88) (subs := su88) (E := en88) (by kernel_rfl) (by kernel_rfl) (by decide) ok88 (by kernel_rfl) (by kernel_rfl) (by decide)
    (fun X hX => (GoodN.good (K := True) (Eq.mpr (show GoodN Try.prog X 36 en88 su88 (bodyOf Try.f88) True = (SubOk Try.prog X 36 ⟨f_impl_TakeVar_l3c, f_impl_TakeVar_l3v, f_impl_TakeVar_l3e, loopF f_impl_TakeVar_l3⟩ (.loop (loopAt 3 Try.f88)) ∧ True) by kernel_rfl) ⟨(f_impl_TakeVar_l3Ok hX), trivial⟩)).1)
    (fun x r h => (f_impl_TakeVarEq x).trans h)
def fl51 : List (Nat × Sig) := [(88, sg88)]
def en51 : Env := { n := 38, ty := assocN tyL, fns := assocN fl51, lo := 1 }
def su51 : Bool → Nat → Option Sub | _, _ => none
theorem ok51 : EnvOk Try.prog en51 := envOk_of rfl rfl tyL_ok (⟨so88, trivial⟩)
theorem f_impl_taker_numberEq (x : Ps ins51) : evF en51 su51 Try.f51 ins51 res51 x = f_impl_taker_number x := by kernel_rfl
theorem so51 : Sound Try.prog 51 sg51 :=
  sound_of (fn := Try.f51) (c := bodyOf Try.f51) (subs := su51) (E := en51) (by kernel_rfl) (by kernel_rfl) (by decide) ok51 (by kernel_rfl) (by kernel_rfl) (by decide)
    (fun X hX => (GoodN.good (K := True) (Eq.mpr (show GoodN Try.prog X 38 en51 su51 (bodyOf Try.f51) True = (True) by kernel_rfl) trivial)).1)
    (fun x r h => (f_impl_taker_numberEq x).trans h)
def fl100 : List (Nat × Sig) := []
def en100 : Env := { n := 42, ty := assocN tyL, fns := assocN fl100, lo := 1 }
def su100 : Bool → Nat → Option Sub | _, _ => none
theorem ok100 : EnvOk Try.prog en100 := envOk_of rfl rfl tyL_ok (trivial)
theorem f_impl_taker_textEq (x : Ps ins100) : evF en100 su100 Try.f100 ins100 res100 x = f_impl_taker_text x := by kernel_rfl
theorem so100 : Sound Try.prog 100 sg100 :=
  sound_of (fn := Try.f100) (c := bodyOf Try.f100) (subs := su100) (E := en100) (by kernel_rfl) (by kernel_rfl) (by decide) ok100 (by kernel_rfl) (by kernel_rfl) (by decide)
    (fun X hX => (GoodN.good (K := True) (Eq.mpr (show GoodN Try.prog X 42 en100 su100 (bodyOf Try.f100) True = (True) by kernel_rfl) trivial)).1)
    (fun x r h => (f_impl_taker_textEq x).trans h)
def fl52 : List (Nat × Sig) := [(51, sg51), (100, sg100)]
def en52 : Env := { n := 7, ty := assocN tyL, fns := assocN fl52, lo := 1 }
def su52 : Bool → Nat → Option Sub | _, _ => none
theorem ok52 : EnvOk Try.prog en52 := envOk_of rfl rfl tyL_ok (⟨so51, ⟨so100, trivial⟩⟩)
theorem f_impl_taker_sizedEq (x : Ps ins52) : evF en52 su52 Try.f52 ins52 res52 x = f_impl_taker_sized x := by kernel_rfl
theorem so52 : Sound Try.prog 52 sg52 :=
  sound_of (fn := Try.f52) (c := bodyOf Try.f52) (subs := su52) (E := en52) (by kernel_rfl) (by kernel_rfl) (by decide) ok52 (by kernel_rfl) (by kernel_rfl) (by decide)
    (fun X hX => (GoodN.good (K := True) (Eq.mpr (show GoodN Try.prog X 7 en52 su52 (bodyOf Try.f52) True = (True) by kernel_rfl) trivial)).1)
    (fun x r h => (f_impl_taker_sizedEq x).trans h)
def fl53 : List (Nat × Sig) := []
def en53 : Env := { n := 15, ty := assocN tyL, fns := assocN fl53, lo := 1 }
def su53 : Bool → Nat → Option Sub | _, _ => none
theorem ok53 : EnvOk Try.prog en53 := envOk_of rfl rfl tyL_ok (trivial)
theorem f_impl_taker_wholeEq (x : Ps ins53) : evF en53 su53 Try.f53 ins53 res53 x = f_impl_taker_whole x := by kernel_rfl
theorem so53 : Sound Try.prog 53 sg53 :=
  sound_of (fn := Try.f53) (c := bodyOf Try.f53) (subs := su53) (E := en53) (by kernel_rfl) (by kernel_rfl) (by decide) ok53 (by kernel_rfl) (by kernel_rfl) (by decide)
    (fun X hX => (GoodN.good (K := True) (Eq.mpr (show GoodN Try.prog X 15 en53 su53 (bodyOf Try.f53) True = (True) by kernel_rfl) trivial)).1)
    (fun x r h => (f_impl_taker_wholeEq x).trans h)
def fl14 : List (Nat × Sig) := [(46, sg46), (51, sg51), (52, sg52), (53, sg53)]
def dw14 : List (Nat × List (List Nat × List Nat)) := [(8, [([5, 26], []), ([5, 27], []), ([], []), ([9, 29], []), ([30], []), ([5, 30, 31], []), ([5, 32], []), ([5, 31], [])])]
def en14 : Env := { n := 68, ty := assocN tyL, fns := assocN fl14, lo := 0, draw := drawOf dw14 }
def su14 : Bool → Nat → Option Sub | true, 7 => some ⟨f_impl_ReadEdit_l7c, f_impl_ReadEdit_l7v, f_impl_ReadEdit_l7e, loopF f_impl_ReadEdit_l7⟩ | true, 11 => some ⟨f_impl_ReadEdit_l11c, f_impl_ReadEdit_l11v, f_impl_ReadEdit_l11e, loopF f_impl_ReadEdit_l11⟩ | _, _ => none
theorem ok14 : EnvOk Try.prog en14 := envOk_of rfl rfl tyL_ok (⟨so46, ⟨so51, ⟨so52, ⟨so53, trivial⟩⟩⟩⟩)
theorem dr14r8 {X : Cx} (hX : en14.lo = X.lo) : RegOk Try.prog X 68 en14 8 (regAt 8 Try.f14) := regOk_of ok14 rfl hX (by kernel_rfl) (by kernel_rfl)
theorem f_impl_ReadEdit_l7Eq (R : Type) (c : Vars f_impl_ReadEdit_l7c) (v : Vars f_impl_ReadEdit_l7v) (kk : Vars f_impl_ReadEdit_l7c → (Vars f_impl_ReadEdit_l7v ⊕ Oc f_impl_ReadEdit_l7e) → Option R) : evC en14 su14 (loopAt 7 Try.f14) (Desc.mk2 f_impl_ReadEdit_l7v v (Desc.mk2 f_impl_ReadEdit_l7c c .empty)) (fun o => bodyK f_impl_ReadEdit_l7c f_impl_ReadEdit_l7v f_impl_ReadEdit_l7e o kk) = f_impl_ReadEdit_l7 R c v kk := by kernel_rfl
theorem f_impl_ReadEdit_l7Ok {X : Cx} (hX : en14.lo = X.lo) : SubOk Try.prog X 68 ⟨f_impl_ReadEdit_l7c, f_impl_ReadEdit_l7v, f_impl_ReadEdit_l7e, loopF f_impl_ReadEdit_l7⟩ (.loop (loopAt 7 Try.f14)) :=
  sub_loop (subs := su14) ok14 rfl hX (GoodN.good (K := True) (Eq.mpr (show GoodN Try.prog X 68 en14 su14 (loopAt 7 Try.f14) True = (RegOk Try.prog X 68 en14 8 (regAt 8 Try.f14) ∧ True) by kernel_rfl) ⟨(dr14r8 hX), trivial⟩)).1 (by decide) (by decide) f_impl_ReadEdit_l7Eq
theorem f_impl_ReadEdit_l11Eq (R : Type) (c : Vars f_impl_ReadEdit_l11c) (v : Vars f_impl_ReadEdit_l11v) (kk : Vars f_impl_ReadEdit_l11c → (Vars f_impl_ReadEdit_l11v ⊕ Oc f_impl_ReadEdit_l11e) → Option R) : evC en14 su14 (loopAt 11 Try.f14) (Desc.mk2 f_impl_ReadEdit_l11v v (Desc.mk2 f_impl_ReadEdit_l11c c .empty)) (fun o => bodyK f_impl_ReadEdit_l11c f_impl_ReadEdit_l11v f_impl_ReadEdit_l11e o kk) = f_impl_ReadEdit_l11 R c v kk := by kernel_rfl
theorem f_impl_ReadEdit_l11Ok {X : Cx} (hX : en14.lo = X.lo) : SubOk Try.prog X 68 ⟨f_impl_ReadEdit_l11c, f_impl_ReadEdit_l11v, f_impl_ReadEdit_l11e, loopF f_impl_ReadEdit_l11⟩ (.loop (loopAt 11 Try.f14)) :=
  sub_loop (subs := su14) ok14 rfl hX (GoodN.good (K := True) (Eq.mpr (show GoodN Try.prog X 68 en14 su14 (loopAt 11 Try.f14) True = (True) by kernel_rfl) trivial)).1 (by decide) (by decide) f_impl_ReadEdit_l11Eq
theorem f_impl_ReadEditEq (x : Ps ins14) : evF en14 su14 Try.f14 ins14 res14 x = f_impl_ReadEdit x := by kernel_rfl
theorem so14 : Sound Try.prog 14 sg14 :=
  sound_of (fn := Try.f14) (c := bodyOf Try.f14) (subs := su14) (E := en14) (by kernel_rfl) (by kernel_rfl) (by decide) ok14 (by kernel_rfl) (by kernel_rfl) (by decide)
    (fun X hX => (GoodN.good (K := True) (Eq.mpr (show GoodN Try.prog X 68 en14 su14 (bodyOf Try.f14) True = (SubOk Try.prog X 68 ⟨f_impl_ReadEdit_l7c, f_impl_ReadEdit_l7v, f_impl_ReadEdit_l7e, loopF f_impl_ReadEdit_l7⟩ (.loop (loopAt 7 Try.f14)) ∧ SubOk Try.prog X 68 ⟨f_impl_ReadEdit_l11c, f_impl_ReadEdit_l11v, f_impl_ReadEdit_l11e, loopF f_impl_ReadEdit_l11⟩ (.loop (loopAt 11 Try.f14)) ∧ True) by kernel_rfl) ⟨(f_impl_ReadEdit_l7Ok hX), (f_impl_ReadEdit_l11Ok hX), trivial⟩)).1)
    (fun x r h => (f_impl_ReadEditEq x).trans h)
def fl15 : List (Nat × Sig) := []
def en15 : Env := { n := 26, ty := assocN tyL, fns := assocN fl15, lo := 0 }
def su15 : Bool → Nat → Option Sub | true, 4 => some ⟨f_laws_sameInts_l4c, f_laws_sameInts_l4v, f_laws_sameInts_l4e, loopF f_laws_sameInts_l4⟩ | _, _ => none
theorem ok15 : EnvOk Try.prog en15 := envOk_of rfl rfl tyL_ok (trivial)
theorem dr15r6 {X : Cx} (hX : en15.lo = X.lo) : RegOk Try.prog X 26 en15 6 (regAt 6 Try.f15) := regOk_of ok15 rfl hX (by kernel_rfl) (by kernel_rfl)
theorem f_laws_sameInts_l4Eq (R : Type) (c : Vars f_laws_sameInts_l4c) (v : Vars f_laws_sameInts_l4v) (kk : Vars f_laws_sameInts_l4c → (Vars f_laws_sameInts_l4v ⊕ Oc f_laws_sameInts_l4e) → Option R) : evC en15 su15 (loopAt 4 Try.f15) (Desc.mk2 f_laws_sameInts_l4v v (Desc.mk2 f_laws_sameInts_l4c c .empty)) (fun o => bodyK f_laws_sameInts_l4c f_laws_sameInts_l4v f_laws_sameInts_l4e o kk) = f_laws_sameInts_l4 R c v kk := by kernel_rfl
theorem f_laws_sameInts_l4Ok {X : Cx} (hX : en15.lo = X.lo) : SubOk Try.prog X 26 ⟨f_laws_sameInts_l4c, f_laws_sameInts_l4v, f_laws_sameInts_l4e, loopF f_laws_sameInts_l4⟩ (.loop (loopAt 4 Try.f15)) :=
  sub_loop (subs := su15) ok15 rfl hX (GoodN.good (K := True) (Eq.mpr (show GoodN Try.prog X 26 en15 su15 (loopAt 4 Try.f15) True = (RegOk Try.prog X 26 en15 6 (regAt 6 Try.f15) ∧ True) by kernel_rfl) ⟨(dr15r6 hX), trivial⟩)).1 (by decide) (by decide) f_laws_sameInts_l4Eq
theorem f_laws_sameIntsEq (x : Ps ins15) : evF en15 su15 Try.f15 ins15 res15 x = f_laws_sameInts x := by kernel_rfl
theorem so15 : Sound Try.prog 15 sg15 :=
  sound_of (fn := Try.f15) (c := bodyOf Try.f15) (subs := su15) (E := en15) (by kernel_rfl) (by kernel_rfl) (by decide) ok15 (by kernel_rfl) (by kernel_rfl) (by decide)
    (fun X hX => (GoodN.good (K := True) (Eq.mpr (show GoodN Try.prog X 26 en15 su15 (bodyOf Try.f15) True = (SubOk Try.prog X 26 ⟨f_laws_sameInts_l4c, f_laws_sameInts_l4v, f_laws_sameInts_l4e, loopF f_laws_sameInts_l4⟩ (.loop (loopAt 4 Try.f15)) ∧ True) by kernel_rfl) ⟨(f_laws_sameInts_l4Ok hX), trivial⟩)).1)
    (fun x r h => (f_laws_sameIntsEq x).trans h)
def fl136 : List (Nat × Sig) := []
def hi136 : List (Nat × (K × Mk)) := [(0, ((.sl (.int .u32)), (.o .s))), (1, ((.sl (.int .u32)), (.o .s)))]
def en136 : Env := { n := 32, ty := assocN tyL, fns := assocN fl136, lo := 0, hint := assocN hi136 }
def su136 : Bool → Nat → Option Sub | false, 12 => some ⟨f_spec_l2Table_i12c, f_spec_l2Table_i12v, f_spec_l2Table_i12e, f_spec_l2Table_i12⟩ | true, 7 => some ⟨f_spec_l2Table_l7c, f_spec_l2Table_l7v, f_spec_l2Table_l7e, loopF f_spec_l2Table_l7⟩ | true, 3 => some ⟨f_spec_l2Table_l3c, f_spec_l2Table_l3v, f_spec_l2Table_l3e, loopF f_spec_l2Table_l3⟩ | _, _ => none
theorem ok136 : EnvOk Try.prog en136 := envOk_of rfl rfl tyL_ok (trivial)
def su136i12 : Bool → Nat → Option Sub | true, 7 => some ⟨f_spec_l2Table_l7c, f_spec_l2Table_l7v, f_spec_l2Table_l7e, loopF f_spec_l2Table_l7⟩ | true, 3 => some ⟨f_spec_l2Table_l3c, f_spec_l2Table_l3v, f_spec_l2Table_l3e, loopF f_spec_l2Table_l3⟩ | _, _ => none
theorem f_spec_l2Table_i12Eq (R : Type) (c : Vars f_spec_l2Table_i12c) (v : Vars f_spec_l2Table_i12v) (kk : Vars f_spec_l2Table_i12c → Oc f_spec_l2Table_i12e → Option R) : evC en136 su136i12 (ifAt 12 Try.f136) (Desc.mk2 f_spec_l2Table_i12v v (Desc.mk2 f_spec_l2Table_i12c c .empty)) (fun o => chk f_spec_l2Table_i12c f_spec_l2Table_i12e o kk) = f_spec_l2Table_i12 R c v kk := by kernel_rfl
theorem f_spec_l2Table_i12Ok {X : Cx} (hX : en136.lo = X.lo) : SubOk Try.prog X 32 ⟨f_spec_l2Table_i12c, f_spec_l2Table_i12v, f_spec_l2Table_i12e, f_spec_l2Table_i12⟩ (ifAt 12 Try.f136) :=
  sub_if (u := ⟨f_spec_l2Table_i12c, f_spec_l2Table_i12v, f_spec_l2Table_i12e, f_spec_l2Table_i12⟩) (subs := su136i12) ok136 rfl hX (GoodN.good (K := True) (Eq.mpr (show GoodN Try.prog X 32 en136 su136i12 (ifAt 12 Try.f136) True = (True) by kernel_rfl) trivial)).1 (by decide) (by decide) f_spec_l2Table_i12Eq
theorem f_spec_l2Table_l7Eq (R : Type) (c : Vars f_spec_l2Table_l7c) (v : Vars f_spec_l2Table_l7v) (kk : Vars f_spec_l2Table_l7c → (Vars f_spec_l2Table_l7v ⊕ Oc f_spec_l2Table_l7e) → Option R) : evC en136 su136 (loopAt 7 Try.f136) (Desc.mk2 f_spec_l2Table_l7v v (Desc.mk2 f_spec_l2Table_l7c c .empty)) (fun o => bodyK f_spec_l2Table_l7c f_spec_l2Table_l7v f_spec_l2Table_l7e o kk) = f_spec_l2Table_l7 R c v kk := by kernel_rfl
theorem f_spec_l2Table_l7Ok {X : Cx} (hX : en136.lo = X.lo) : SubOk Try.prog X 32 ⟨f_spec_l2Table_l7c, f_spec_l2Table_l7v, f_spec_l2Table_l7e, loopF f_spec_l2Table_l7⟩ (.loop (loopAt 7 Try.f136)) :=
  sub_loop (subs := su136) ok136 rfl hX (GoodN.good (K := True) (Eq.mpr (show GoodN Try.prog X 32 en136 su136 (loopAt 7 Try.f136) True = (SubOk Try.prog X 32 ⟨f_spec_l2Table_i12c, f_spec_l2Table_i12v, f_spec_l2Table_i12e, f_spec_l2Table_i12⟩ (ifAt 12 Try.f136) ∧ True) by kernel_rfl) ⟨(f_spec_l2Table_i12Ok hX), trivial⟩)).1 (by decide) (by decide) f_spec_l2Table_l7Eq
theorem f_spec_l2Table_l3Eq (R : Type) (c : Vars f_spec_l2Table_l3c) (v : Vars f_spec_l2Table_l3v) (kk : Vars f_spec_l2Table_l3c → (Vars f_spec_l2Table_l3v ⊕ Oc f_spec_l2Table_l3e) → Option R) : evC en136 su136 (loopAt 3 Try.f136) (Desc.mk2 f_spec_l2Table_l3v v (Desc.mk2 f_spec_l2Table_l3c c .empty)) (fun o => bodyK f_spec_l2Table_l3c f_spec_l2Table_l3v f_spec_l2Table_l3e o kk) = f_spec_l2Table_l3 R c v kk := by kernel_rfl
theorem f_spec_l2Table_l3Ok {X : Cx} (hX : en136.lo = X.lo) : SubOk Try.prog X 32 ⟨f_spec_l2Table_l3c, f_spec_l2Table_l3v, f_spec_l2Table_l3e, loopF f_spec_l2Table_l3⟩ (.loop (loopAt 3 Try.f136)) :=
  sub_loop (subs := su136) ok136 rfl hX (GoodN.good (K := True) (Eq.mpr (show GoodN Try.prog X 32 en136 su136 (loopAt 3 Try.f136) True = (SubOk Try.prog X 32 ⟨f_spec_l2Table_l7c, f_spec_l2Table_l7v, f_spec_l2Table_l7e, loopF f_spec_l2Table_l7⟩ (.loop (loopAt 7 Try.f136)) ∧ True) by kernel_rfl) ⟨(f_spec_l2Table_l7Ok hX), trivial⟩)).1 (by decide) (by decide) f_spec_l2Table_l3Eq
theorem f_spec_l2TableEq (x : Ps ins136) : evF en136 su136 Try.f136 ins136 res136 x = f_spec_l2Table x := by kernel_rfl
theorem so136 : Sound Try.prog 136 sg136 :=
  sound_of (fn := Try.f136) (c := bodyOf Try.f136) (subs := su136) (E := en136) (by kernel_rfl) (by kernel_rfl) (by decide) ok136 (by kernel_rfl) (by kernel_rfl) (by decide)
    (fun X hX => (GoodN.good (K := True) (Eq.mpr (show GoodN Try.prog X 32 en136 su136 (bodyOf Try.f136) True = (SubOk Try.prog X 32 ⟨f_spec_l2Table_l3c, f_spec_l2Table_l3v, f_spec_l2Table_l3e, loopF f_spec_l2Table_l3⟩ (.loop (loopAt 3 Try.f136)) ∧ True) by kernel_rfl) ⟨(f_spec_l2Table_l3Ok hX), trivial⟩)).1)
    (fun x r h => (f_spec_l2TableEq x).trans h)
def fl135 : List (Nat × Sig) := []
def en135 : Env := { n := 27, ty := assocN tyL, fns := assocN fl135, lo := 0 }
def su135 : Bool → Nat → Option Sub | true, 2 => some ⟨f_spec_l2On_l2c, f_spec_l2On_l2v, f_spec_l2On_l2e, loopF f_spec_l2On_l2⟩ | _, _ => none
theorem ok135 : EnvOk Try.prog en135 := envOk_of rfl rfl tyL_ok (trivial)
theorem f_spec_l2On_l2Eq (R : Type) (c : Vars f_spec_l2On_l2c) (v : Vars f_spec_l2On_l2v) (kk : Vars f_spec_l2On_l2c → (Vars f_spec_l2On_l2v ⊕ Oc f_spec_l2On_l2e) → Option R) : evC en135 su135 (loopAt 2 Try.f135) (Desc.mk2 f_spec_l2On_l2v v (Desc.mk2 f_spec_l2On_l2c c .empty)) (fun o => bodyK f_spec_l2On_l2c f_spec_l2On_l2v f_spec_l2On_l2e o kk) = f_spec_l2On_l2 R c v kk := by kernel_rfl
theorem f_spec_l2On_l2Ok {X : Cx} (hX : en135.lo = X.lo) : SubOk Try.prog X 27 ⟨f_spec_l2On_l2c, f_spec_l2On_l2v, f_spec_l2On_l2e, loopF f_spec_l2On_l2⟩ (.loop (loopAt 2 Try.f135)) :=
  sub_loop (subs := su135) ok135 rfl hX (GoodN.good (K := True) (Eq.mpr (show GoodN Try.prog X 27 en135 su135 (loopAt 2 Try.f135) True = (True) by kernel_rfl) trivial)).1 (by decide) (by decide) f_spec_l2On_l2Eq
theorem f_spec_l2OnEq (x : Ps ins135) : evF en135 su135 Try.f135 ins135 res135 x = f_spec_l2On x := by kernel_rfl
theorem so135 : Sound Try.prog 135 sg135 :=
  sound_of (fn := Try.f135) (c := bodyOf Try.f135) (subs := su135) (E := en135) (by kernel_rfl) (by kernel_rfl) (by decide) ok135 (by kernel_rfl) (by kernel_rfl) (by decide)
    (fun X hX => (GoodN.good (K := True) (Eq.mpr (show GoodN Try.prog X 27 en135 su135 (bodyOf Try.f135) True = (SubOk Try.prog X 27 ⟨f_spec_l2On_l2c, f_spec_l2On_l2v, f_spec_l2On_l2e, loopF f_spec_l2On_l2⟩ (.loop (loopAt 2 Try.f135)) ∧ True) by kernel_rfl) ⟨(f_spec_l2On_l2Ok hX), trivial⟩)).1)
    (fun x r h => (f_spec_l2OnEq x).trans h)
def fl103 : List (Nat × Sig) := [(135, sg135), (136, sg136)]
def en103 : Env := { n := 7, ty := assocN tyL, fns := assocN fl103, lo := 0 }
def su103 : Bool → Nat → Option Sub | _, _ => none
theorem ok103 : EnvOk Try.prog en103 := envOk_of rfl rfl tyL_ok (⟨so135, ⟨so136, trivial⟩⟩)
theorem f_spec_l2SumEq (x : Ps ins103) : evF en103 su103 Try.f103 ins103 res103 x = f_spec_l2Sum x := by kernel_rfl
theorem so103 : Sound Try.prog 103 sg103 :=
  sound_of (fn := Try.f103) (c := bodyOf Try.f103) (subs := su103) (E := en103) (by kernel_rfl) (by kernel_rfl) (by decide) ok103 (by kernel_rfl) (by kernel_rfl) (by decide)
    (fun X hX => (GoodN.good (K := True) (Eq.mpr (show GoodN Try.prog X 7 en103 su103 (bodyOf Try.f103) True = (True) by kernel_rfl) trivial)).1)
    (fun x r h => (f_spec_l2SumEq x).trans h)
def fl102 : List (Nat × Sig) := []
def en102 : Env := { n := 16, ty := assocN tyL, fns := assocN fl102, lo := 0 }
def su102 : Bool → Nat → Option Sub | _, _ => none
theorem ok102 : EnvOk Try.prog en102 := envOk_of rfl rfl tyL_ok (trivial)
theorem f_spec_l2WordEq (x : Ps ins102) : evF en102 su102 Try.f102 ins102 res102 x = f_spec_l2Word x := by kernel_rfl
theorem so102 : Sound Try.prog 102 sg102 :=
  sound_of (fn := Try.f102) (c := bodyOf Try.f102) (subs := su102) (E := en102) (by kernel_rfl) (by kernel_rfl) (by decide) ok102 (by kernel_rfl) (by kernel_rfl) (by decide)
    (fun X hX => (GoodN.good (K := True) (Eq.mpr (show GoodN Try.prog X 16 en102 su102 (bodyOf Try.f102) True = (True) by kernel_rfl) trivial)).1)
    (fun x r h => (f_spec_l2WordEq x).trans h)
def fl57 : List (Nat × Sig) := [(99, sg99), (102, sg102), (103, sg103)]
def en57 : Env := { n := 12, ty := assocN tyL, fns := assocN fl57, lo := 0 }
def su57 : Bool → Nat → Option Sub | _, _ => none
theorem ok57 : EnvOk Try.prog en57 := envOk_of rfl rfl tyL_ok (⟨so99, ⟨so102, ⟨so103, trivial⟩⟩⟩)
theorem f_spec_l2FrameEq (x : Ps ins57) : evF en57 su57 Try.f57 ins57 res57 x = f_spec_l2Frame x := by kernel_rfl
theorem so57 : Sound Try.prog 57 sg57 :=
  sound_of (fn := Try.f57) (c := bodyOf Try.f57) (subs := su57) (E := en57) (by kernel_rfl) (by kernel_rfl) (by decide) ok57 (by kernel_rfl) (by kernel_rfl) (by decide)
    (fun X hX => (GoodN.good (K := True) (Eq.mpr (show GoodN Try.prog X 12 en57 su57 (bodyOf Try.f57) True = (True) by kernel_rfl) trivial)).1)
    (fun x r h => (f_spec_l2FrameEq x).trans h)
def fl58 : List (Nat × Sig) := [(54, sg54)]
def hi58 : List (Nat × (K × Mk)) := [(5, ((.sl (.int .u8)), (.o .s)))]
def dw58 : List (Nat × List (List Nat × List Nat)) := [(7, [([], []), ([], []), ([], []), ([5, 27], []), ([0, 28], []), ([5, 29], []), ([5, 30], []), ([], []), ([0, 32], []), ([33], []), ([34], []), ([35], []), ([5, 36], []), ([5], [])])]
def en58 : Env := { n := 40, ty := assocN tyL, fns := assocN fl58, lo := 1, hint := assocN hi58, draw := drawOf dw58 }
def su58 : Bool → Nat → Option Sub | false, 5 => some ⟨f_spec_l1Cur_torn_i5c, f_spec_l1Cur_torn_i5v, f_spec_l1Cur_torn_i5e, f_spec_l1Cur_torn_i5⟩ | _, _ => none
theorem ok58 : EnvOk Try.prog en58 := envOk_of rfl rfl tyL_ok (⟨so54, trivial⟩)
theorem dr58r7 {X : Cx} (hX : en58.lo = X.lo) : RegOk Try.prog X 40 en58 7 (regAt 7 Try.f58) := regOk_of ok58 rfl hX (by kernel_rfl) (by kernel_rfl)
def su58i5 : Bool → Nat → Option Sub | _, _ => none
theorem f_spec_l1Cur_torn_i5Eq (R : Type) (c : Vars f_spec_l1Cur_torn_i5c) (v : Vars f_spec_l1Cur_torn_i5v) (kk : Vars f_spec_l1Cur_torn_i5c → Oc f_spec_l1Cur_torn_i5e → Option R) : evC en58 su58i5 (ifAt 5 Try.f58) (Desc.mk2 f_spec_l1Cur_torn_i5v v (Desc.mk2 f_spec_l1Cur_torn_i5c c .empty)) (fun o => chk f_spec_l1Cur_torn_i5c f_spec_l1Cur_torn_i5e o kk) = f_spec_l1Cur_torn_i5 R c v kk := by kernel_rfl
theorem f_spec_l1Cur_torn_i5Ok {X : Cx} (hX : en58.lo = X.lo) : SubOk Try.prog X 40 ⟨f_spec_l1Cur_torn_i5c, f_spec_l1Cur_torn_i5v, f_spec_l1Cur_torn_i5e, f_spec_l1Cur_torn_i5⟩ (ifAt 5 Try.f58) :=
  sub_if (u := ⟨f_spec_l1Cur_torn_i5c, f_spec_l1Cur_torn_i5v, f_spec_l1Cur_torn_i5e, f_spec_l1Cur_torn_i5⟩) (subs := su58i5) ok58 rfl hX (GoodN.good (K := True) (Eq.mpr (show GoodN Try.prog X 40 en58 su58i5 (ifAt 5 Try.f58) True = (RegOk Try.prog X 40 en58 7 (regAt 7 Try.f58) ∧ True) by kernel_rfl) ⟨(dr58r7 hX), trivial⟩)).1 (by decide) (by decide) f_spec_l1Cur_torn_i5Eq
theorem f_spec_l1Cur_tornEq (x : Ps ins58) : evF en58 su58 Try.f58 ins58 res58 x = f_spec_l1Cur_torn x := by kernel_rfl
theorem so58 : Sound Try.prog 58 sg58 :=
  sound_of (fn := Try.f58) (c := bodyOf Try.f58) (subs := su58) (E := en58) (by kernel_rfl) (by kernel_rfl) (by decide) ok58 (by kernel_rfl) (by kernel_rfl) (by decide)
    (fun X hX => (GoodN.good (K := True) (Eq.mpr (show GoodN Try.prog X 40 en58 su58 (bodyOf Try.f58) True = (SubOk Try.prog X 40 ⟨f_spec_l1Cur_torn_i5c, f_spec_l1Cur_torn_i5v, f_spec_l1Cur_torn_i5e, f_spec_l1Cur_torn_i5⟩ (ifAt 5 Try.f58) ∧ True) by kernel_rfl) ⟨(f_spec_l1Cur_torn_i5Ok hX), trivial⟩)).1)
    (fun x r h => (f_spec_l1Cur_tornEq x).trans h)
def fl16 : List (Nat × Sig) := [(13, sg13), (37, sg37), (44, sg44), (54, sg54), (55, sg55), (56, sg56), (57, sg57), (58, sg58)]
def en16 : Env := { n := 56, ty := assocN tyL, fns := assocN fl16, lo := 0 }
def su16 : Bool → Nat → Option Sub | false, 13 => some ⟨f_spec_DrawRecoverVersion_i13c, f_spec_DrawRecoverVersion_i13v, f_spec_DrawRecoverVersion_i13e, f_spec_DrawRecoverVersion_i13⟩ | false, 11 => some ⟨f_spec_DrawRecoverVersion_i11c, f_spec_DrawRecoverVersion_i11v, f_spec_DrawRecoverVersion_i11e, f_spec_DrawRecoverVersion_i11⟩ | true, 5 => some ⟨f_spec_DrawRecoverVersion_l5c, f_spec_DrawRecoverVersion_l5v, f_spec_DrawRecoverVersion_l5e, loopF f_spec_DrawRecoverVersion_l5⟩ | _, _ => none
theorem ok16 : EnvOk Try.prog en16 := envOk_of rfl rfl tyL_ok (⟨so13, ⟨so37, ⟨so44, ⟨so54, ⟨so55, ⟨so56, ⟨so57, ⟨so58, trivial⟩⟩⟩⟩⟩⟩⟩⟩)
def su16i13 : Bool → Nat → Option Sub | false, 11 => some ⟨f_spec_DrawRecoverVersion_i11c, f_spec_DrawRecoverVersion_i11v, f_spec_DrawRecoverVersion_i11e, f_spec_DrawRecoverVersion_i11⟩ | true, 5 => some ⟨f_spec_DrawRecoverVersion_l5c, f_spec_DrawRecoverVersion_l5v, f_spec_DrawRecoverVersion_l5e, loopF f_spec_DrawRecoverVersion_l5⟩ | _, _ => none
theorem f_spec_DrawRecoverVersion_i13Eq (R : Type) (c : Vars f_spec_DrawRecoverVersion_i13c) (v : Vars f_spec_DrawRecoverVersion_i13v) (kk : Vars f_spec_DrawRecoverVersion_i13c → Oc f_spec_DrawRecoverVersion_i13e → Option R) : evC en16 su16i13 (ifAt 13 Try.f16) (Desc.mk2 f_spec_DrawRecoverVersion_i13v v (Desc.mk2 f_spec_DrawRecoverVersion_i13c c .empty)) (fun o => chk f_spec_DrawRecoverVersion_i13c f_spec_DrawRecoverVersion_i13e o kk) = f_spec_DrawRecoverVersion_i13 R c v kk := by kernel_rfl
theorem f_spec_DrawRecoverVersion_i13Ok {X : Cx} (hX : en16.lo = X.lo) : SubOk Try.prog X 56 ⟨f_spec_DrawRecoverVersion_i13c, f_spec_DrawRecoverVersion_i13v, f_spec_DrawRecoverVersion_i13e, f_spec_DrawRecoverVersion_i13⟩ (ifAt 13 Try.f16) :=
  sub_if (u := ⟨f_spec_DrawRecoverVersion_i13c, f_spec_DrawRecoverVersion_i13v, f_spec_DrawRecoverVersion_i13e, f_spec_DrawRecoverVersion_i13⟩) (subs := su16i13) ok16 rfl hX (GoodN.good (K := True) (Eq.mpr (show GoodN Try.prog X 56 en16 su16i13 (ifAt 13 Try.f16) True = (True) by kernel_rfl) trivial)).1 (by decide) (by decide) f_spec_DrawRecoverVersion_i13Eq
def su16i11 : Bool → Nat → Option Sub | false, 13 => some ⟨f_spec_DrawRecoverVersion_i13c, f_spec_DrawRecoverVersion_i13v, f_spec_DrawRecoverVersion_i13e, f_spec_DrawRecoverVersion_i13⟩ | true, 5 => some ⟨f_spec_DrawRecoverVersion_l5c, f_spec_DrawRecoverVersion_l5v, f_spec_DrawRecoverVersion_l5e, loopF f_spec_DrawRecoverVersion_l5⟩ | _, _ => none
theorem f_spec_DrawRecoverVersion_i11Eq (R : Type) (c : Vars f_spec_DrawRecoverVersion_i11c) (v : Vars f_spec_DrawRecoverVersion_i11v) (kk : Vars f_spec_DrawRecoverVersion_i11c → Oc f_spec_DrawRecoverVersion_i11e → Option R) : evC en16 su16i11 (ifAt 11 Try.f16) (Desc.mk2 f_spec_DrawRecoverVersion_i11v v (Desc.mk2 f_spec_DrawRecoverVersion_i11c c .empty)) (fun o => chk f_spec_DrawRecoverVersion_i11c f_spec_DrawRecoverVersion_i11e o kk) = f_spec_DrawRecoverVersion_i11 R c v kk := by kernel_rfl
theorem f_spec_DrawRecoverVersion_i11Ok {X : Cx} (hX : en16.lo = X.lo) : SubOk Try.prog X 56 ⟨f_spec_DrawRecoverVersion_i11c, f_spec_DrawRecoverVersion_i11v, f_spec_DrawRecoverVersion_i11e, f_spec_DrawRecoverVersion_i11⟩ (ifAt 11 Try.f16) :=
  sub_if (u := ⟨f_spec_DrawRecoverVersion_i11c, f_spec_DrawRecoverVersion_i11v, f_spec_DrawRecoverVersion_i11e, f_spec_DrawRecoverVersion_i11⟩) (subs := su16i11) ok16 rfl hX (GoodN.good (K := True) (Eq.mpr (show GoodN Try.prog X 56 en16 su16i11 (ifAt 11 Try.f16) True = (SubOk Try.prog X 56 ⟨f_spec_DrawRecoverVersion_i13c, f_spec_DrawRecoverVersion_i13v, f_spec_DrawRecoverVersion_i13e, f_spec_DrawRecoverVersion_i13⟩ (ifAt 13 Try.f16) ∧ True) by kernel_rfl) ⟨(f_spec_DrawRecoverVersion_i13Ok hX), trivial⟩)).1 (by decide) (by decide) f_spec_DrawRecoverVersion_i11Eq
theorem f_spec_DrawRecoverVersion_l5Eq (R : Type) (c : Vars f_spec_DrawRecoverVersion_l5c) (v : Vars f_spec_DrawRecoverVersion_l5v) (kk : Vars f_spec_DrawRecoverVersion_l5c → (Vars f_spec_DrawRecoverVersion_l5v ⊕ Oc f_spec_DrawRecoverVersion_l5e) → Option R) : evC en16 su16 (loopAt 5 Try.f16) (Desc.mk2 f_spec_DrawRecoverVersion_l5v v (Desc.mk2 f_spec_DrawRecoverVersion_l5c c .empty)) (fun o => bodyK f_spec_DrawRecoverVersion_l5c f_spec_DrawRecoverVersion_l5v f_spec_DrawRecoverVersion_l5e o kk) = f_spec_DrawRecoverVersion_l5 R c v kk := by kernel_rfl
theorem f_spec_DrawRecoverVersion_l5Ok {X : Cx} (hX : en16.lo = X.lo) : SubOk Try.prog X 56 ⟨f_spec_DrawRecoverVersion_l5c, f_spec_DrawRecoverVersion_l5v, f_spec_DrawRecoverVersion_l5e, loopF f_spec_DrawRecoverVersion_l5⟩ (.loop (loopAt 5 Try.f16)) :=
  sub_loop (subs := su16) ok16 rfl hX (GoodN.good (K := True) (Eq.mpr (show GoodN Try.prog X 56 en16 su16 (loopAt 5 Try.f16) True = (SubOk Try.prog X 56 ⟨f_spec_DrawRecoverVersion_i11c, f_spec_DrawRecoverVersion_i11v, f_spec_DrawRecoverVersion_i11e, f_spec_DrawRecoverVersion_i11⟩ (ifAt 11 Try.f16) ∧ True) by kernel_rfl) ⟨(f_spec_DrawRecoverVersion_i11Ok hX), trivial⟩)).1 (by decide) (by decide) f_spec_DrawRecoverVersion_l5Eq
theorem f_spec_DrawRecoverVersionEq (x : Ps ins16) : evF en16 su16 Try.f16 ins16 res16 x = f_spec_DrawRecoverVersion x := by kernel_rfl
theorem so16 : Sound Try.prog 16 sg16 :=
  sound_of (fn := Try.f16) (c := bodyOf Try.f16) (subs := su16) (E := en16) (by kernel_rfl) (by kernel_rfl) (by decide) ok16 (by kernel_rfl) (by kernel_rfl) (by decide)
    (fun X hX => (GoodN.good (K := True) (Eq.mpr (show GoodN Try.prog X 56 en16 su16 (bodyOf Try.f16) True = (SubOk Try.prog X 56 ⟨f_spec_DrawRecoverVersion_l5c, f_spec_DrawRecoverVersion_l5v, f_spec_DrawRecoverVersion_l5e, loopF f_spec_DrawRecoverVersion_l5⟩ (.loop (loopAt 5 Try.f16)) ∧ True) by kernel_rfl) ⟨(f_spec_DrawRecoverVersion_l5Ok hX), trivial⟩)).1)
    (fun x r h => (f_spec_DrawRecoverVersionEq x).trans h)
def fl20 : List (Nat × Sig) := []
def en20 : Env := { n := 2, ty := assocN tyL, fns := assocN fl20, lo := 0 }
def su20 : Bool → Nat → Option Sub | _, _ => none
theorem ok20 : EnvOk Try.prog en20 := envOk_of rfl rfl tyL_ok (trivial)
theorem f_impl_NewVersionEq (x : Ps ins20) : evF en20 su20 Try.f20 ins20 res20 x = f_impl_NewVersion x := by kernel_rfl
theorem so20 : Sound Try.prog 20 sg20 :=
  sound_of (fn := Try.f20) (c := bodyOf Try.f20) (subs := su20) (E := en20) (by kernel_rfl) (by kernel_rfl) (by decide) ok20 (by kernel_rfl) (by kernel_rfl) (by decide)
    (fun X hX => (GoodN.good (K := True) (Eq.mpr (show GoodN Try.prog X 2 en20 su20 (bodyOf Try.f20) True = (True) by kernel_rfl) trivial)).1)
    (fun x r h => (f_impl_NewVersionEq x).trans h)
def fl156 : List (Nat × Sig) := []
def hi156 : List (Nat × (K × Mk)) := [(0, ((.sl (.int .u32)), (.o .s))), (1, ((.sl (.int .u32)), (.o .s)))]
def en156 : Env := { n := 25, ty := assocN tyL, fns := assocN fl156, lo := 0, hint := assocN hi156 }
def su156 : Bool → Nat → Option Sub | false, 10 => some ⟨f_impl_SumTable_i10c, f_impl_SumTable_i10v, f_impl_SumTable_i10e, f_impl_SumTable_i10⟩ | true, 6 => some ⟨f_impl_SumTable_l6c, f_impl_SumTable_l6v, f_impl_SumTable_l6e, loopF f_impl_SumTable_l6⟩ | true, 3 => some ⟨f_impl_SumTable_l3c, f_impl_SumTable_l3v, f_impl_SumTable_l3e, loopF f_impl_SumTable_l3⟩ | _, _ => none
theorem ok156 : EnvOk Try.prog en156 := envOk_of rfl rfl tyL_ok (trivial)
def su156i10 : Bool → Nat → Option Sub | true, 6 => some ⟨f_impl_SumTable_l6c, f_impl_SumTable_l6v, f_impl_SumTable_l6e, loopF f_impl_SumTable_l6⟩ | true, 3 => some ⟨f_impl_SumTable_l3c, f_impl_SumTable_l3v, f_impl_SumTable_l3e, loopF f_impl_SumTable_l3⟩ | _, _ => none
theorem f_impl_SumTable_i10Eq (R : Type) (c : Vars f_impl_SumTable_i10c) (v : Vars f_impl_SumTable_i10v) (kk : Vars f_impl_SumTable_i10c → Oc f_impl_SumTable_i10e → Option R) : evC en156 su156i10 (ifAt 10 Try.f156) (Desc.mk2 f_impl_SumTable_i10v v (Desc.mk2 f_impl_SumTable_i10c c .empty)) (fun o => chk f_impl_SumTable_i10c f_impl_SumTable_i10e o kk) = f_impl_SumTable_i10 R c v kk := by kernel_rfl
theorem f_impl_SumTable_i10Ok {X : Cx} (hX : en156.lo = X.lo) : SubOk Try.prog X 25 ⟨f_impl_SumTable_i10c, f_impl_SumTable_i10v, f_impl_SumTable_i10e, f_impl_SumTable_i10⟩ (ifAt 10 Try.f156) :=
  sub_if (u := ⟨f_impl_SumTable_i10c, f_impl_SumTable_i10v, f_impl_SumTable_i10e, f_impl_SumTable_i10⟩) (subs := su156i10) ok156 rfl hX (GoodN.good (K := True) (Eq.mpr (show GoodN Try.prog X 25 en156 su156i10 (ifAt 10 Try.f156) True = (True) by kernel_rfl) trivial)).1 (by decide) (by decide) f_impl_SumTable_i10Eq
theorem f_impl_SumTable_l6Eq (R : Type) (c : Vars f_impl_SumTable_l6c) (v : Vars f_impl_SumTable_l6v) (kk : Vars f_impl_SumTable_l6c → (Vars f_impl_SumTable_l6v ⊕ Oc f_impl_SumTable_l6e) → Option R) : evC en156 su156 (loopAt 6 Try.f156) (Desc.mk2 f_impl_SumTable_l6v v (Desc.mk2 f_impl_SumTable_l6c c .empty)) (fun o => bodyK f_impl_SumTable_l6c f_impl_SumTable_l6v f_impl_SumTable_l6e o kk) = f_impl_SumTable_l6 R c v kk := by kernel_rfl
theorem f_impl_SumTable_l6Ok {X : Cx} (hX : en156.lo = X.lo) : SubOk Try.prog X 25 ⟨f_impl_SumTable_l6c, f_impl_SumTable_l6v, f_impl_SumTable_l6e, loopF f_impl_SumTable_l6⟩ (.loop (loopAt 6 Try.f156)) :=
  sub_loop (subs := su156) ok156 rfl hX (GoodN.good (K := True) (Eq.mpr (show GoodN Try.prog X 25 en156 su156 (loopAt 6 Try.f156) True = (SubOk Try.prog X 25 ⟨f_impl_SumTable_i10c, f_impl_SumTable_i10v, f_impl_SumTable_i10e, f_impl_SumTable_i10⟩ (ifAt 10 Try.f156) ∧ True) by kernel_rfl) ⟨(f_impl_SumTable_i10Ok hX), trivial⟩)).1 (by decide) (by decide) f_impl_SumTable_l6Eq
theorem f_impl_SumTable_l3Eq (R : Type) (c : Vars f_impl_SumTable_l3c) (v : Vars f_impl_SumTable_l3v) (kk : Vars f_impl_SumTable_l3c → (Vars f_impl_SumTable_l3v ⊕ Oc f_impl_SumTable_l3e) → Option R) : evC en156 su156 (loopAt 3 Try.f156) (Desc.mk2 f_impl_SumTable_l3v v (Desc.mk2 f_impl_SumTable_l3c c .empty)) (fun o => bodyK f_impl_SumTable_l3c f_impl_SumTable_l3v f_impl_SumTable_l3e o kk) = f_impl_SumTable_l3 R c v kk := by kernel_rfl
theorem f_impl_SumTable_l3Ok {X : Cx} (hX : en156.lo = X.lo) : SubOk Try.prog X 25 ⟨f_impl_SumTable_l3c, f_impl_SumTable_l3v, f_impl_SumTable_l3e, loopF f_impl_SumTable_l3⟩ (.loop (loopAt 3 Try.f156)) :=
  sub_loop (subs := su156) ok156 rfl hX (GoodN.good (K := True) (Eq.mpr (show GoodN Try.prog X 25 en156 su156 (loopAt 3 Try.f156) True = (SubOk Try.prog X 25 ⟨f_impl_SumTable_l6c, f_impl_SumTable_l6v, f_impl_SumTable_l6e, loopF f_impl_SumTable_l6⟩ (.loop (loopAt 6 Try.f156)) ∧ True) by kernel_rfl) ⟨(f_impl_SumTable_l6Ok hX), trivial⟩)).1 (by decide) (by decide) f_impl_SumTable_l3Eq
theorem f_impl_SumTableEq (x : Ps ins156) : evF en156 su156 Try.f156 ins156 res156 x = f_impl_SumTable x := by kernel_rfl
theorem so156 : Sound Try.prog 156 sg156 :=
  sound_of (fn := Try.f156) (c := bodyOf Try.f156) (subs := su156) (E := en156) (by kernel_rfl) (by kernel_rfl) (by decide) ok156 (by kernel_rfl) (by kernel_rfl) (by decide)
    (fun X hX => (GoodN.good (K := True) (Eq.mpr (show GoodN Try.prog X 25 en156 su156 (bodyOf Try.f156) True = (SubOk Try.prog X 25 ⟨f_impl_SumTable_l3c, f_impl_SumTable_l3v, f_impl_SumTable_l3e, loopF f_impl_SumTable_l3⟩ (.loop (loopAt 3 Try.f156)) ∧ True) by kernel_rfl) ⟨(f_impl_SumTable_l3Ok hX), trivial⟩)).1)
    (fun x r h => (f_impl_SumTableEq x).trans h)
def fl127 : List (Nat × Sig) := [(156, sg156)]
def hi127 : List (Nat × (K × Mk)) := [(5, ((.sl (.int .u32)), (.o .s)))]
def en127 : Env := { n := 27, ty := assocN tyL, fns := assocN fl127, lo := 0, hint := assocN hi127 }
def su127 : Bool → Nat → Option Sub | true, 3 => some ⟨f_impl_SumOn_l3c, f_impl_SumOn_l3v, f_impl_SumOn_l3e, loopF f_impl_SumOn_l3⟩ | _, _ => none
theorem ok127 : EnvOk Try.prog en127 := envOk_of rfl rfl tyL_ok (⟨so156, trivial⟩)
theorem f_impl_SumOn_l3Eq (R : Type) (c : Vars f_impl_SumOn_l3c) (v : Vars f_impl_SumOn_l3v) (kk : Vars f_impl_SumOn_l3c → (Vars f_impl_SumOn_l3v ⊕ Oc f_impl_SumOn_l3e) → Option R) : evC en127 su127 (loopAt 3 Try.f127) (Desc.mk2 f_impl_SumOn_l3v v (Desc.mk2 f_impl_SumOn_l3c c .empty)) (fun o => bodyK f_impl_SumOn_l3c f_impl_SumOn_l3v f_impl_SumOn_l3e o kk) = f_impl_SumOn_l3 R c v kk := by kernel_rfl
theorem f_impl_SumOn_l3Ok {X : Cx} (hX : en127.lo = X.lo) : SubOk Try.prog X 27 ⟨f_impl_SumOn_l3c, f_impl_SumOn_l3v, f_impl_SumOn_l3e, loopF f_impl_SumOn_l3⟩ (.loop (loopAt 3 Try.f127)) :=
  sub_loop (subs := su127) ok127 rfl hX (GoodN.good (K := True) (Eq.mpr (show GoodN Try.prog X 27 en127 su127 (loopAt 3 Try.f127) True = (True) by kernel_rfl) trivial)).1 (by decide) (by decide) f_impl_SumOn_l3Eq
theorem f_impl_SumOnEq (x : Ps ins127) : evF en127 su127 Try.f127 ins127 res127 x = f_impl_SumOn x := by kernel_rfl
theorem so127 : Sound Try.prog 127 sg127 :=
  sound_of (fn := Try.f127) (c := bodyOf Try.f127) (subs := su127) (E := en127) (by kernel_rfl) (by kernel_rfl) (by decide) ok127 (by kernel_rfl) (by kernel_rfl) (by decide)
    (fun X hX => (GoodN.good (K := True) (Eq.mpr (show GoodN Try.prog X 27 en127 su127 (bodyOf Try.f127) True = (SubOk Try.prog X 27 ⟨f_impl_SumOn_l3c, f_impl_SumOn_l3v, f_impl_SumOn_l3e, loopF f_impl_SumOn_l3⟩ (.loop (loopAt 3 Try.f127)) ∧ True) by kernel_rfl) ⟨(f_impl_SumOn_l3Ok hX), trivial⟩)).1)
    (fun x r h => (f_impl_SumOnEq x).trans h)
def fl80 : List (Nat × Sig) := [(127, sg127)]
def en80 : Env := { n := 6, ty := assocN tyL, fns := assocN fl80, lo := 0 }
def su80 : Bool → Nat → Option Sub | _, _ => none
theorem ok80 : EnvOk Try.prog en80 := envOk_of rfl rfl tyL_ok (⟨so127, trivial⟩)
theorem f_impl_SumOfEq (x : Ps ins80) : evF en80 su80 Try.f80 ins80 res80 x = f_impl_SumOf x := by kernel_rfl
theorem so80 : Sound Try.prog 80 sg80 :=
  sound_of (fn := Try.f80) (c := bodyOf Try.f80) (subs := su80) (E := en80) (by kernel_rfl) (by kernel_rfl) (by decide) ok80 (by kernel_rfl) (by kernel_rfl) (by decide)
    (fun X hX => (GoodN.good (K := True) (Eq.mpr (show GoodN Try.prog X 6 en80 su80 (bodyOf Try.f80) True = (True) by kernel_rfl) trivial)).1)
    (fun x r h => (f_impl_SumOfEq x).trans h)
def fl89 : List (Nat × Sig) := []
def hi89 : List (Nat × (K × Mk)) := [(5, ((.sl (.int .u8)), (.o .s)))]
def en89 : Env := { n := 20, ty := assocN tyL, fns := assocN fl89, lo := 0, hint := assocN hi89 }
def su89 : Bool → Nat → Option Sub | true, 3 => some ⟨f_impl_lowFirst_l3c, f_impl_lowFirst_l3v, f_impl_lowFirst_l3e, loopF f_impl_lowFirst_l3⟩ | _, _ => none
theorem ok89 : EnvOk Try.prog en89 := envOk_of rfl rfl tyL_ok (trivial)
theorem f_impl_lowFirst_l3Eq (R : Type) (c : Vars f_impl_lowFirst_l3c) (v : Vars f_impl_lowFirst_l3v) (kk : Vars f_impl_lowFirst_l3c → (Vars f_impl_lowFirst_l3v ⊕ Oc f_impl_lowFirst_l3e) → Option R) : evC en89 su89 (loopAt 3 Try.f89) (Desc.mk2 f_impl_lowFirst_l3v v (Desc.mk2 f_impl_lowFirst_l3c c .empty)) (fun o => bodyK f_impl_lowFirst_l3c f_impl_lowFirst_l3v f_impl_lowFirst_l3e o kk) = f_impl_lowFirst_l3 R c v kk := by kernel_rfl
theorem f_impl_lowFirst_l3Ok {X : Cx} (hX : en89.lo = X.lo) : SubOk Try.prog X 20 ⟨f_impl_lowFirst_l3c, f_impl_lowFirst_l3v, f_impl_lowFirst_l3e, loopF f_impl_lowFirst_l3⟩ (.loop (loopAt 3 Try.f89)) :=
  sub_loop (subs := su89) ok89 rfl hX (GoodN.good (K := True) (Eq.mpr (show GoodN Try.prog X 20 en89 su89 (loopAt 3 Try.f89) True = (True) by kernel_rfl) trivial)).1 (by decide) (by decide) f_impl_lowFirst_l3Eq
theorem f_impl_lowFirstEq (x : Ps ins89) : evF en89 su89 Try.f89 ins89 res89 x = f_impl_lowFirst x := by kernel_rfl
theorem so89 : Sound Try.prog 89 sg89 :=
  sound_of (fn := Try.f89) (c := bodyOf Try.f89) (subs := su89) (E := en89) (by kernel_rfl) (by kernel_rfl) (by decide) ok89 (by kernel_rfl) (by kernel_rfl) (by decide)
    (fun X hX => (GoodN.good (K := True) (Eq.mpr (show GoodN Try.prog X 20 en89 su89 (bodyOf Try.f89) True = (SubOk Try.prog X 20 ⟨f_impl_lowFirst_l3c, f_impl_lowFirst_l3v, f_impl_lowFirst_l3e, loopF f_impl_lowFirst_l3⟩ (.loop (loopAt 3 Try.f89)) ∧ True) by kernel_rfl) ⟨(f_impl_lowFirst_l3Ok hX), trivial⟩)).1)
    (fun x r h => (f_impl_lowFirstEq x).trans h)
def fl40 : List (Nat × Sig) := [(80, sg80), (88, sg88), (89, sg89)]
def en40 : Env := { n := 49, ty := assocN tyL, fns := assocN fl40, lo := 0 }
def su40 : Bool → Nat → Option Sub | _, _ => none
theorem ok40 : EnvOk Try.prog en40 := envOk_of rfl rfl tyL_ok (⟨so80, ⟨so88, ⟨so89, trivial⟩⟩⟩)
theorem dr40r6 {X : Cx} (hX : en40.lo = X.lo) : RegOk Try.prog X 49 en40 6 (regAt 6 Try.f40) := regOk_of ok40 rfl hX (by kernel_rfl) (by kernel_rfl)
theorem f_impl_TakeFrameEq (x : Ps ins40) : evF en40 su40 Try.f40 ins40 res40 x = f_impl_TakeFrame x := by kernel_rfl
theorem so40 : Sound Try.prog 40 sg40 :=
  sound_of (fn := Try.f40) (c := bodyOf Try.f40) (subs := su40) (E := en40) (by kernel_rfl) (by kernel_rfl) (by decide) ok40 (by kernel_rfl) (by kernel_rfl) (by decide)
    (fun X hX => (GoodN.good (K := True) (Eq.mpr (show GoodN Try.prog X 49 en40 su40 (bodyOf Try.f40) True = (RegOk Try.prog X 49 en40 6 (regAt 6 Try.f40) ∧ True) by kernel_rfl) ⟨(dr40r6 hX), trivial⟩)).1)
    (fun x r h => (f_impl_TakeFrameEq x).trans h)
def fl63 : List (Nat × Sig) := []
def en63 : Env := { n := 21, ty := assocN tyL, fns := assocN fl63, lo := 1 }
def su63 : Bool → Nat → Option Sub | _, _ => none
theorem ok63 : EnvOk Try.prog en63 := envOk_of rfl rfl tyL_ok (trivial)
theorem f_impl_Meta_meetsEq (x : Ps ins63) : evF en63 su63 Try.f63 ins63 res63 x = f_impl_Meta_meets x := by kernel_rfl
theorem so63 : Sound Try.prog 63 sg63 :=
  sound_of (fn := Try.f63) (c := bodyOf Try.f63) (subs := su63) (E := en63) (by kernel_rfl) (by kernel_rfl) (by decide) ok63 (by kernel_rfl) (by kernel_rfl) (by decide)
    (fun X hX => (GoodN.good (K := True) (Eq.mpr (show GoodN Try.prog X 21 en63 su63 (bodyOf Try.f63) True = (True) by kernel_rfl) trivial)).1)
    (fun x r h => (f_impl_Meta_meetsEq x).trans h)
def fl62 : List (Nat × Sig) := [(63, sg63)]
def en62 : Env := { n := 16, ty := assocN tyL, fns := assocN fl62, lo := 0 }
def su62 : Bool → Nat → Option Sub | _, _ => none
theorem ok62 : EnvOk Try.prog en62 := envOk_of rfl rfl tyL_ok (⟨so63, trivial⟩)
theorem f_impl_GoodVersion_1Eq (x : Ps ins62) : evF en62 su62 Try.f62 ins62 res62 x = f_impl_GoodVersion_1 x := by kernel_rfl
theorem so62 : Sound Try.prog 62 sg62 :=
  sound_of (fn := Try.f62) (c := bodyOf Try.f62) (subs := su62) (E := en62) (by kernel_rfl) (by kernel_rfl) (by decide) ok62 (by kernel_rfl) (by kernel_rfl) (by decide)
    (fun X hX => (GoodN.good (K := True) (Eq.mpr (show GoodN Try.prog X 16 en62 su62 (bodyOf Try.f62) True = (True) by kernel_rfl) trivial)).1)
    (fun x r h => (f_impl_GoodVersion_1Eq x).trans h)
def fl107 : List (Nat × Sig) := []
def en107 : Env := { n := 19, ty := assocN tyL, fns := assocN fl107, lo := 0 }
def su107 : Bool → Nat → Option Sub | true, 2 => some ⟨f_slices_IndexFunc_Meta_l2c, f_slices_IndexFunc_Meta_l2v, f_slices_IndexFunc_Meta_l2e, loopF f_slices_IndexFunc_Meta_l2⟩ | _, _ => none
theorem ok107 : EnvOk Try.prog en107 := envOk_of rfl rfl tyL_ok (trivial)
theorem f_slices_IndexFunc_Meta_l2Eq (R : Type) (c : Vars f_slices_IndexFunc_Meta_l2c) (v : Vars f_slices_IndexFunc_Meta_l2v) (kk : Vars f_slices_IndexFunc_Meta_l2c → (Vars f_slices_IndexFunc_Meta_l2v ⊕ Oc f_slices_IndexFunc_Meta_l2e) → Option R) : evC en107 su107 (loopAt 2 Try.f107) (Desc.mk2 f_slices_IndexFunc_Meta_l2v v (Desc.mk2 f_slices_IndexFunc_Meta_l2c c .empty)) (fun o => bodyK f_slices_IndexFunc_Meta_l2c f_slices_IndexFunc_Meta_l2v f_slices_IndexFunc_Meta_l2e o kk) = f_slices_IndexFunc_Meta_l2 R c v kk := by kernel_rfl
theorem f_slices_IndexFunc_Meta_l2Ok {X : Cx} (hX : en107.lo = X.lo) : SubOk Try.prog X 19 ⟨f_slices_IndexFunc_Meta_l2c, f_slices_IndexFunc_Meta_l2v, f_slices_IndexFunc_Meta_l2e, loopF f_slices_IndexFunc_Meta_l2⟩ (.loop (loopAt 2 Try.f107)) :=
  sub_loop (subs := su107) ok107 rfl hX (GoodN.good (K := True) (Eq.mpr (show GoodN Try.prog X 19 en107 su107 (loopAt 2 Try.f107) True = (True) by kernel_rfl) trivial)).1 (by decide) (by decide) f_slices_IndexFunc_Meta_l2Eq
theorem f_slices_IndexFunc_MetaEq (x : Ps ins107) : evF en107 su107 Try.f107 ins107 res107 x = f_slices_IndexFunc_Meta x := by kernel_rfl
theorem so107 : Sound Try.prog 107 sg107 :=
  sound_of (fn := Try.f107) (c := bodyOf Try.f107) (subs := su107) (E := en107) (by kernel_rfl) (by kernel_rfl) (by decide) ok107 (by kernel_rfl) (by kernel_rfl) (by decide)
    (fun X hX => (GoodN.good (K := True) (Eq.mpr (show GoodN Try.prog X 19 en107 su107 (bodyOf Try.f107) True = (SubOk Try.prog X 19 ⟨f_slices_IndexFunc_Meta_l2c, f_slices_IndexFunc_Meta_l2v, f_slices_IndexFunc_Meta_l2e, loopF f_slices_IndexFunc_Meta_l2⟩ (.loop (loopAt 2 Try.f107)) ∧ True) by kernel_rfl) ⟨(f_slices_IndexFunc_Meta_l2Ok hX), trivial⟩)).1)
    (fun x r h => (f_slices_IndexFunc_MetaEq x).trans h)
def fl61 : List (Nat × Sig) := [(107, sg107)]
def en61 : Env := { n := 9, ty := assocN tyL, fns := assocN fl61, lo := 0 }
def su61 : Bool → Nat → Option Sub | _, _ => none
theorem ok61 : EnvOk Try.prog en61 := envOk_of rfl rfl tyL_ok (⟨so107, trivial⟩)
theorem f_slices_ContainsFunc_MetaEq (x : Ps ins61) : evF en61 su61 Try.f61 ins61 res61 x = f_slices_ContainsFunc_Meta x := by kernel_rfl
theorem so61 : Sound Try.prog 61 sg61 :=
  sound_of (fn := Try.f61) (c := bodyOf Try.f61) (subs := su61) (E := en61) (by kernel_rfl) (by kernel_rfl) (by decide) ok61 (by kernel_rfl) (by kernel_rfl) (by decide)
    (fun X hX => (GoodN.good (K := True) (Eq.mpr (show GoodN Try.prog X 9 en61 su61 (bodyOf Try.f61) True = (True) by kernel_rfl) trivial)).1)
    (fun x r h => (f_slices_ContainsFunc_MetaEq x).trans h)
def fl18 : List (Nat × Sig) := [(59, sg59), (60, sg60), (61, sg61), (62, sg62)]
def en18 : Env := { n := 42, ty := assocN tyL, fns := assocN fl18, lo := 0 }
def su18 : Bool → Nat → Option Sub | true, 4 => some ⟨f_impl_GoodVersion_l4c, f_impl_GoodVersion_l4v, f_impl_GoodVersion_l4e, loopF f_impl_GoodVersion_l4⟩ | _, _ => none
theorem ok18 : EnvOk Try.prog en18 := envOk_of rfl rfl tyL_ok (⟨so59, ⟨so60, ⟨so61, ⟨so62, trivial⟩⟩⟩⟩)
theorem f_impl_GoodVersion_l4Eq (R : Type) (c : Vars f_impl_GoodVersion_l4c) (v : Vars f_impl_GoodVersion_l4v) (kk : Vars f_impl_GoodVersion_l4c → (Vars f_impl_GoodVersion_l4v ⊕ Oc f_impl_GoodVersion_l4e) → Option R) : evC en18 su18 (loopAt 4 Try.f18) (Desc.mk2 f_impl_GoodVersion_l4v v (Desc.mk2 f_impl_GoodVersion_l4c c .empty)) (fun o => bodyK f_impl_GoodVersion_l4c f_impl_GoodVersion_l4v f_impl_GoodVersion_l4e o kk) = f_impl_GoodVersion_l4 R c v kk := by kernel_rfl
theorem f_impl_GoodVersion_l4Ok {X : Cx} (hX : en18.lo = X.lo) : SubOk Try.prog X 42 ⟨f_impl_GoodVersion_l4c, f_impl_GoodVersion_l4v, f_impl_GoodVersion_l4e, loopF f_impl_GoodVersion_l4⟩ (.loop (loopAt 4 Try.f18)) :=
  sub_loop (subs := su18) ok18 rfl hX (GoodN.good (K := True) (Eq.mpr (show GoodN Try.prog X 42 en18 su18 (loopAt 4 Try.f18) True = (True) by kernel_rfl) trivial)).1 (by decide) (by decide) f_impl_GoodVersion_l4Eq
theorem f_impl_GoodVersionEq (x : Ps ins18) : evF en18 su18 Try.f18 ins18 res18 x = f_impl_GoodVersion x := by kernel_rfl
theorem so18 : Sound Try.prog 18 sg18 :=
  sound_of (fn := Try.f18) (c := bodyOf Try.f18) (subs := su18) (E := en18) (by kernel_rfl) (by kernel_rfl) (by decide) ok18 (by kernel_rfl) (by kernel_rfl) (by decide)
    (fun X hX => (GoodN.good (K := True) (Eq.mpr (show GoodN Try.prog X 42 en18 su18 (bodyOf Try.f18) True = (SubOk Try.prog X 42 ⟨f_impl_GoodVersion_l4c, f_impl_GoodVersion_l4v, f_impl_GoodVersion_l4e, loopF f_impl_GoodVersion_l4⟩ (.loop (loopAt 4 Try.f18)) ∧ True) by kernel_rfl) ⟨(f_impl_GoodVersion_l4Ok hX), trivial⟩)).1)
    (fun x r h => (f_impl_GoodVersionEq x).trans h)
def fl64 : List (Nat × Sig) := []
def hi64 : List (Nat × (K × Mk)) := [(2, ((.sl kdMeta), (.o .s)))]
def en64 : Env := { n := 8, ty := assocN tyL, fns := assocN fl64, lo := 0, hint := assocN hi64 }
def su64 : Bool → Nat → Option Sub | _, _ => none
theorem ok64 : EnvOk Try.prog en64 := envOk_of rfl rfl tyL_ok (trivial)
theorem f_slices_Clone_MetaEq (x : Ps ins64) : evF en64 su64 Try.f64 ins64 res64 x = f_slices_Clone_Meta x := by kernel_rfl
theorem so64 : Sound Try.prog 64 sg64 :=
  sound_of (fn := Try.f64) (c := bodyOf Try.f64) (subs := su64) (E := en64) (by kernel_rfl) (by kernel_rfl) (by decide) ok64 (by kernel_rfl) (by kernel_rfl) (by decide)
    (fun X hX => (GoodN.good (K := True) (Eq.mpr (show GoodN Try.prog X 8 en64 su64 (bodyOf Try.f64) True = (True) by kernel_rfl) trivial)).1)
    (fun x r h => (f_slices_Clone_MetaEq x).trans h)
def fl108 : List (Nat × Sig) := []
def en108 : Env := { n := 8, ty := assocN tyL, fns := assocN fl108, lo := 0 }
def su108 : Bool → Nat → Option Sub | _, _ => none
theorem ok108 : EnvOk Try.prog en108 := envOk_of rfl rfl tyL_ok (trivial)
theorem f_impl_metaAt_1Eq (x : Ps ins108) : evF en108 su108 Try.f108 ins108 res108 x = f_impl_metaAt_1 x := by kernel_rfl
theorem so108 : Sound Try.prog 108 sg108 :=
  sound_of (fn := Try.f108) (c := bodyOf Try.f108) (subs := su108) (E := en108) (by kernel_rfl) (by kernel_rfl) (by decide) ok108 (by kernel_rfl) (by kernel_rfl) (by decide)
    (fun X hX => (GoodN.good (K := True) (Eq.mpr (show GoodN Try.prog X 8 en108 su108 (bodyOf Try.f108) True = (True) by kernel_rfl) trivial)).1)
    (fun x r h => (f_impl_metaAt_1Eq x).trans h)
def fl65 : List (Nat × Sig) := [(107, sg107), (108, sg108)]
def en65 : Env := { n := 8, ty := assocN tyL, fns := assocN fl65, lo := 0 }
def su65 : Bool → Nat → Option Sub | _, _ => none
theorem ok65 : EnvOk Try.prog en65 := envOk_of rfl rfl tyL_ok (⟨so107, ⟨so108, trivial⟩⟩)
theorem f_impl_metaAtEq (x : Ps ins65) : evF en65 su65 Try.f65 ins65 res65 x = f_impl_metaAt x := by kernel_rfl
theorem so65 : Sound Try.prog 65 sg65 :=
  sound_of (fn := Try.f65) (c := bodyOf Try.f65) (subs := su65) (E := en65) (by kernel_rfl) (by kernel_rfl) (by decide) ok65 (by kernel_rfl) (by kernel_rfl) (by decide)
    (fun X hX => (GoodN.good (K := True) (Eq.mpr (show GoodN Try.prog X 8 en65 su65 (bodyOf Try.f65) True = (True) by kernel_rfl) trivial)).1)
    (fun x r h => (f_impl_metaAtEq x).trans h)
def fl111 : List (Nat × Sig) := []
def en111 : Env := { n := 6, ty := assocN tyL, fns := assocN fl111, lo := 0 }
def su111 : Bool → Nat → Option Sub | _, _ => none
theorem ok111 : EnvOk Try.prog en111 := envOk_of rfl rfl tyL_ok (trivial)
theorem f_cmp_isNaN_intEq (x : Ps ins111) : evF en111 su111 Try.f111 ins111 res111 x = f_cmp_isNaN_int x := by kernel_rfl
theorem so111 : Sound Try.prog 111 sg111 :=
  sound_of (fn := Try.f111) (c := bodyOf Try.f111) (subs := su111) (E := en111) (by kernel_rfl) (by kernel_rfl) (by decide) ok111 (by kernel_rfl) (by kernel_rfl) (by decide)
    (fun X hX => (GoodN.good (K := True) (Eq.mpr (show GoodN Try.prog X 6 en111 su111 (bodyOf Try.f111) True = (True) by kernel_rfl) trivial)).1)
    (fun x r h => (f_cmp_isNaN_intEq x).trans h)
def fl69 : List (Nat × Sig) := [(111, sg111)]
def en69 : Env := { n := 20, ty := assocN tyL, fns := assocN fl69, lo := 0 }
def su69 : Bool → Nat → Option Sub | _, _ => none
theorem ok69 : EnvOk Try.prog en69 := envOk_of rfl rfl tyL_ok (⟨so111, trivial⟩)
theorem f_cmp_Compare_intEq (x : Ps ins69) : evF en69 su69 Try.f69 ins69 res69 x = f_cmp_Compare_int x := by kernel_rfl
theorem so69 : Sound Try.prog 69 sg69 :=
  sound_of (fn := Try.f69) (c := bodyOf Try.f69) (subs := su69) (E := en69) (by kernel_rfl) (by kernel_rfl) (by decide) ok69 (by kernel_rfl) (by kernel_rfl) (by decide)
    (fun X hX => (GoodN.good (K := True) (Eq.mpr (show GoodN Try.prog X 20 en69 su69 (bodyOf Try.f69) True = (True) by kernel_rfl) trivial)).1)
    (fun x r h => (f_cmp_Compare_intEq x).trans h)
def fl68 : List (Nat × Sig) := [(69, sg69)]
def en68 : Env := { n := 10, ty := assocN tyL, fns := assocN fl68, lo := 0 }
def su68 : Bool → Nat → Option Sub | _, _ => none
theorem ok68 : EnvOk Try.prog en68 := envOk_of rfl rfl tyL_ok (⟨so69, trivial⟩)
theorem f_impl_ApplyEdit_1Eq (x : Ps ins68) : evF en68 su68 Try.f68 ins68 res68 x = f_impl_ApplyEdit_1 x := by kernel_rfl
theorem so68 : Sound Try.prog 68 sg68 :=
  sound_of (fn := Try.f68) (c := bodyOf Try.f68) (subs := su68) (E := en68) (by kernel_rfl) (by kernel_rfl) (by decide) ok68 (by kernel_rfl) (by kernel_rfl) (by decide)
    (fun X hX => (GoodN.good (K := True) (Eq.mpr (show GoodN Try.prog X 10 en68 su68 (bodyOf Try.f68) True = (True) by kernel_rfl) trivial)).1)
    (fun x r h => (f_impl_ApplyEdit_1Eq x).trans h)
def fl23 : List (Nat × Sig) := [(18, sg18), (46, sg46), (64, sg64), (65, sg65), (66, sgf_slices_Delete kdMeta), (67, sgf_slices_SortFunc kdMeta), (68, sg68)]
def dw23 : List (Nat × List (List Nat × List Nat)) := [(3, [([3, 35], []), ([3, 36], []), ([3, 37], []), ([3, 38], []), ([2, 39], []), ([2, 40], []), ([41], []), ([41, 42], []), ([6], []), ([6, 42], [])])]
def en23 : Env := { n := 94, ty := assocN tyL, fns := assocN fl23, lo := 0, draw := drawOf dw23 }
def su23 : Bool → Nat → Option Sub | true, 5 => some ⟨f_impl_ApplyEdit_l5c, f_impl_ApplyEdit_l5v, f_impl_ApplyEdit_l5e, loopF f_impl_ApplyEdit_l5⟩ | true, 13 => some ⟨f_impl_ApplyEdit_l13c, f_impl_ApplyEdit_l13v, f_impl_ApplyEdit_l13e, loopF f_impl_ApplyEdit_l13⟩ | _, _ => none
theorem ok23 : EnvOk Try.prog en23 := envOk_of rfl rfl tyL_ok (⟨so18, ⟨so46, ⟨so64, ⟨so65, ⟨soDelete66, ⟨soSortFunc67, ⟨so68, trivial⟩⟩⟩⟩⟩⟩⟩)
theorem dr23r3 {X : Cx} (hX : en23.lo = X.lo) : RegOk Try.prog X 94 en23 3 (regAt 3 Try.f23) := regOk_of ok23 rfl hX (by kernel_rfl) (by kernel_rfl)
theorem f_impl_ApplyEdit_l5Eq (R : Type) (c : Vars f_impl_ApplyEdit_l5c) (v : Vars f_impl_ApplyEdit_l5v) (kk : Vars f_impl_ApplyEdit_l5c → (Vars f_impl_ApplyEdit_l5v ⊕ Oc f_impl_ApplyEdit_l5e) → Option R) : evC en23 su23 (loopAt 5 Try.f23) (Desc.mk2 f_impl_ApplyEdit_l5v v (Desc.mk2 f_impl_ApplyEdit_l5c c .empty)) (fun o => bodyK f_impl_ApplyEdit_l5c f_impl_ApplyEdit_l5v f_impl_ApplyEdit_l5e o kk) = f_impl_ApplyEdit_l5 R c v kk := by kernel_rfl
theorem f_impl_ApplyEdit_l5Ok {X : Cx} (hX : en23.lo = X.lo) : SubOk Try.prog X 94 ⟨f_impl_ApplyEdit_l5c, f_impl_ApplyEdit_l5v, f_impl_ApplyEdit_l5e, loopF f_impl_ApplyEdit_l5⟩ (.loop (loopAt 5 Try.f23)) :=
  sub_loop (subs := su23) ok23 rfl hX (GoodN.good (K := True) (Eq.mpr (show GoodN Try.prog X 94 en23 su23 (loopAt 5 Try.f23) True = (True) by kernel_rfl) trivial)).1 (by decide) (by decide) f_impl_ApplyEdit_l5Eq
theorem f_impl_ApplyEdit_l13Eq (R : Type) (c : Vars f_impl_ApplyEdit_l13c) (v : Vars f_impl_ApplyEdit_l13v) (kk : Vars f_impl_ApplyEdit_l13c → (Vars f_impl_ApplyEdit_l13v ⊕ Oc f_impl_ApplyEdit_l13e) → Option R) : evC en23 su23 (loopAt 13 Try.f23) (Desc.mk2 f_impl_ApplyEdit_l13v v (Desc.mk2 f_impl_ApplyEdit_l13c c .empty)) (fun o => bodyK f_impl_ApplyEdit_l13c f_impl_ApplyEdit_l13v f_impl_ApplyEdit_l13e o kk) = f_impl_ApplyEdit_l13 R c v kk := by kernel_rfl
theorem f_impl_ApplyEdit_l13Ok {X : Cx} (hX : en23.lo = X.lo) : SubOk Try.prog X 94 ⟨f_impl_ApplyEdit_l13c, f_impl_ApplyEdit_l13v, f_impl_ApplyEdit_l13e, loopF f_impl_ApplyEdit_l13⟩ (.loop (loopAt 13 Try.f23)) :=
  sub_loop (subs := su23) ok23 rfl hX (GoodN.good (K := True) (Eq.mpr (show GoodN Try.prog X 94 en23 su23 (loopAt 13 Try.f23) True = (True) by kernel_rfl) trivial)).1 (by decide) (by decide) f_impl_ApplyEdit_l13Eq
theorem f_impl_ApplyEditEq (x : Ps ins23) : evF en23 su23 Try.f23 ins23 res23 x = f_impl_ApplyEdit x := by kernel_rfl
theorem so23 : Sound Try.prog 23 sg23 :=
  sound_of (fn := Try.f23) (c := bodyOf Try.f23) (subs := su23) (E := en23) (by kernel_rfl) (by kernel_rfl) (by decide) ok23 (by kernel_rfl) (by kernel_rfl) (by decide)
    (fun X hX => (GoodN.good (K := True) (Eq.mpr (show GoodN Try.prog X 94 en23 su23 (bodyOf Try.f23) True = (RegOk Try.prog X 94 en23 3 (regAt 3 Try.f23) ∧ SubOk Try.prog X 94 ⟨f_impl_ApplyEdit_l5c, f_impl_ApplyEdit_l5v, f_impl_ApplyEdit_l5e, loopF f_impl_ApplyEdit_l5⟩ (.loop (loopAt 5 Try.f23)) ∧ SubOk Try.prog X 94 ⟨f_impl_ApplyEdit_l13c, f_impl_ApplyEdit_l13v, f_impl_ApplyEdit_l13e, loopF f_impl_ApplyEdit_l13⟩ (.loop (loopAt 13 Try.f23)) ∧ True) by kernel_rfl) ⟨(dr23r3 hX), (f_impl_ApplyEdit_l5Ok hX), (f_impl_ApplyEdit_l13Ok hX), trivial⟩)).1)
    (fun x r h => (f_impl_ApplyEditEq x).trans h)
def fl7 : List (Nat × Sig) := [(14, sg14), (20, sg20), (23, sg23), (40, sg40)]
def dw7 : List (Nat × List (List Nat × List Nat)) := [(9, [([11, 38], []), ([], []), ([40], []), ([], []), ([], []), ([43], []), ([5, 11], []), ([6], []), ([0], [])])]
def en7 : Env := { n := 46, ty := assocN tyL, fns := assocN fl7, lo := 0, draw := drawOf dw7 }
def su7 : Bool → Nat → Option Sub | true, 2 => some ⟨f_impl_RecoverVersion_l2c, f_impl_RecoverVersion_l2v, f_impl_RecoverVersion_l2e, loopF f_impl_RecoverVersion_l2⟩ | _, _ => none
theorem ok7 : EnvOk Try.prog en7 := envOk_of rfl rfl tyL_ok (⟨so14, ⟨so20, ⟨so23, ⟨so40, trivial⟩⟩⟩⟩)
theorem dr7r9 {X : Cx} (hX : en7.lo = X.lo) : RegOk Try.prog X 46 en7 9 (regAt 9 Try.f7) := regOk_of ok7 rfl hX (by kernel_rfl) (by kernel_rfl)
theorem f_impl_RecoverVersion_l2Eq (R : Type) (c : Vars f_impl_RecoverVersion_l2c) (v : Vars f_impl_RecoverVersion_l2v) (kk : Vars f_impl_RecoverVersion_l2c → (Vars f_impl_RecoverVersion_l2v ⊕ Oc f_impl_RecoverVersion_l2e) → Option R) : evC en7 su7 (loopAt 2 Try.f7) (Desc.mk2 f_impl_RecoverVersion_l2v v (Desc.mk2 f_impl_RecoverVersion_l2c c .empty)) (fun o => bodyK f_impl_RecoverVersion_l2c f_impl_RecoverVersion_l2v f_impl_RecoverVersion_l2e o kk) = f_impl_RecoverVersion_l2 R c v kk := by kernel_rfl
theorem f_impl_RecoverVersion_l2Ok {X : Cx} (hX : en7.lo = X.lo) : SubOk Try.prog X 46 ⟨f_impl_RecoverVersion_l2c, f_impl_RecoverVersion_l2v, f_impl_RecoverVersion_l2e, loopF f_impl_RecoverVersion_l2⟩ (.loop (loopAt 2 Try.f7)) :=
  sub_loop (subs := su7) ok7 rfl hX (GoodN.good (K := True) (Eq.mpr (show GoodN Try.prog X 46 en7 su7 (loopAt 2 Try.f7) True = (RegOk Try.prog X 46 en7 9 (regAt 9 Try.f7) ∧ True) by kernel_rfl) ⟨(dr7r9 hX), trivial⟩)).1 (by decide) (by decide) f_impl_RecoverVersion_l2Eq
theorem f_impl_RecoverVersionEq (x : Ps ins7) : evF en7 su7 Try.f7 ins7 res7 x = f_impl_RecoverVersion x := by kernel_rfl
theorem so7 : Sound Try.prog 7 sg7 :=
  sound_of (fn := Try.f7) (c := bodyOf Try.f7) (subs := su7) (E := en7) (by kernel_rfl) (by kernel_rfl) (by decide) ok7 (by kernel_rfl) (by kernel_rfl) (by decide)
    (fun X hX => (GoodN.good (K := True) (Eq.mpr (show GoodN Try.prog X 46 en7 su7 (bodyOf Try.f7) True = (SubOk Try.prog X 46 ⟨f_impl_RecoverVersion_l2c, f_impl_RecoverVersion_l2v, f_impl_RecoverVersion_l2e, loopF f_impl_RecoverVersion_l2⟩ (.loop (loopAt 2 Try.f7)) ∧ True) by kernel_rfl) ⟨(f_impl_RecoverVersion_l2Ok hX), trivial⟩)).1)
    (fun x r h => (f_impl_RecoverVersionEq x).trans h)
def fl130 : List (Nat × Sig) := []
def en130 : Env := { n := 42, ty := assocN tyL, fns := assocN fl130, lo := 0 }
def su130 : Bool → Nat → Option Sub | true, 3 => some ⟨f_spec_l2Take_l3c, f_spec_l2Take_l3v, f_spec_l2Take_l3e, loopF f_spec_l2Take_l3⟩ | _, _ => none
theorem ok130 : EnvOk Try.prog en130 := envOk_of rfl rfl tyL_ok (trivial)
theorem f_spec_l2Take_l3Eq (R : Type) (c : Vars f_spec_l2Take_l3c) (v : Vars f_spec_l2Take_l3v) (kk : Vars f_spec_l2Take_l3c → (Vars f_spec_l2Take_l3v ⊕ Oc f_spec_l2Take_l3e) → Option R) : evC en130 su130 (loopAt 3 Try.f130) (Desc.mk2 f_spec_l2Take_l3v v (Desc.mk2 f_spec_l2Take_l3c c .empty)) (fun o => bodyK f_spec_l2Take_l3c f_spec_l2Take_l3v f_spec_l2Take_l3e o kk) = f_spec_l2Take_l3 R c v kk := by kernel_rfl
theorem f_spec_l2Take_l3Ok {X : Cx} (hX : en130.lo = X.lo) : SubOk Try.prog X 42 ⟨f_spec_l2Take_l3c, f_spec_l2Take_l3v, f_spec_l2Take_l3e, loopF f_spec_l2Take_l3⟩ (.loop (loopAt 3 Try.f130)) :=
  sub_loop (subs := su130) ok130 rfl hX (GoodN.good (K := True) (Eq.mpr (show GoodN Try.prog X 42 en130 su130 (loopAt 3 Try.f130) True = (True) by kernel_rfl) trivial)).1 (by decide) (by decide) f_spec_l2Take_l3Eq
theorem f_spec_l2TakeEq (x : Ps ins130) : evF en130 su130 Try.f130 ins130 res130 x = f_spec_l2Take x := by kernel_rfl
theorem so130 : Sound Try.prog 130 sg130 :=
  sound_of (fn := Try.f130) (c := bodyOf Try.f130) (subs := su130) (E := en130) (by kernel_rfl) (by kernel_rfl) (by decide) ok130 (by kernel_rfl) (by kernel_rfl) (by decide)
    (fun X hX => (GoodN.good (K := True) (Eq.mpr (show GoodN Try.prog X 42 en130 su130 (bodyOf Try.f130) True = (SubOk Try.prog X 42 ⟨f_spec_l2Take_l3c, f_spec_l2Take_l3v, f_spec_l2Take_l3e, loopF f_spec_l2Take_l3⟩ (.loop (loopAt 3 Try.f130)) ∧ True) by kernel_rfl) ⟨(f_spec_l2Take_l3Ok hX), trivial⟩)).1)
    (fun x r h => (f_spec_l2TakeEq x).trans h)
def fl84 : List (Nat × Sig) := [(102, sg102), (103, sg103), (130, sg130)]
def en84 : Env := { n := 49, ty := assocN tyL, fns := assocN fl84, lo := 0 }
def su84 : Bool → Nat → Option Sub | _, _ => none
theorem ok84 : EnvOk Try.prog en84 := envOk_of rfl rfl tyL_ok (⟨so102, ⟨so103, ⟨so130, trivial⟩⟩⟩)
theorem dr84r6 {X : Cx} (hX : en84.lo = X.lo) : RegOk Try.prog X 49 en84 6 (regAt 6 Try.f84) := regOk_of ok84 rfl hX (by kernel_rfl) (by kernel_rfl)
theorem f_spec_l2TakeFrameEq (x : Ps ins84) : evF en84 su84 Try.f84 ins84 res84 x = f_spec_l2TakeFrame x := by kernel_rfl
theorem so84 : Sound Try.prog 84 sg84 :=
  sound_of (fn := Try.f84) (c := bodyOf Try.f84) (subs := su84) (E := en84) (by kernel_rfl) (by kernel_rfl) (by decide) ok84 (by kernel_rfl) (by kernel_rfl) (by decide)
    (fun X hX => (GoodN.good (K := True) (Eq.mpr (show GoodN Try.prog X 49 en84 su84 (bodyOf Try.f84) True = (RegOk Try.prog X 49 en84 6 (regAt 6 Try.f84) ∧ True) by kernel_rfl) ⟨(dr84r6 hX), trivial⟩)).1)
    (fun x r h => (f_spec_l2TakeFrameEq x).trans h)
def fl36 : List (Nat × Sig) := [(84, sg84)]
def hi36 : List (Nat × (K × Mk)) := [(2, ((.sl .str), (.o .s))), (4, ((.sl .str), (.o .s)))]
def en36 : Env := { n := 37, ty := assocN tyL, fns := assocN fl36, lo := 0, hint := assocN hi36 }
def su36 : Bool → Nat → Option Sub | true, 3 => some ⟨f_spec_l2Frames_l3c, f_spec_l2Frames_l3v, f_spec_l2Frames_l3e, loopF f_spec_l2Frames_l3⟩ | _, _ => none
theorem ok36 : EnvOk Try.prog en36 := envOk_of rfl rfl tyL_ok (⟨so84, trivial⟩)
theorem f_spec_l2Frames_l3Eq (R : Type) (c : Vars f_spec_l2Frames_l3c) (v : Vars f_spec_l2Frames_l3v) (kk : Vars f_spec_l2Frames_l3c → (Vars f_spec_l2Frames_l3v ⊕ Oc f_spec_l2Frames_l3e) → Option R) : evC en36 su36 (loopAt 3 Try.f36) (Desc.mk2 f_spec_l2Frames_l3v v (Desc.mk2 f_spec_l2Frames_l3c c .empty)) (fun o => bodyK f_spec_l2Frames_l3c f_spec_l2Frames_l3v f_spec_l2Frames_l3e o kk) = f_spec_l2Frames_l3 R c v kk := by kernel_rfl
theorem f_spec_l2Frames_l3Ok {X : Cx} (hX : en36.lo = X.lo) : SubOk Try.prog X 37 ⟨f_spec_l2Frames_l3c, f_spec_l2Frames_l3v, f_spec_l2Frames_l3e, loopF f_spec_l2Frames_l3⟩ (.loop (loopAt 3 Try.f36)) :=
  sub_loop (subs := su36) ok36 rfl hX (GoodN.good (K := True) (Eq.mpr (show GoodN Try.prog X 37 en36 su36 (loopAt 3 Try.f36) True = (True) by kernel_rfl) trivial)).1 (by decide) (by decide) f_spec_l2Frames_l3Eq
theorem f_spec_l2FramesEq (x : Ps ins36) : evF en36 su36 Try.f36 ins36 res36 x = f_spec_l2Frames x := by kernel_rfl
theorem so36 : Sound Try.prog 36 sg36 :=
  sound_of (fn := Try.f36) (c := bodyOf Try.f36) (subs := su36) (E := en36) (by kernel_rfl) (by kernel_rfl) (by decide) ok36 (by kernel_rfl) (by kernel_rfl) (by decide)
    (fun X hX => (GoodN.good (K := True) (Eq.mpr (show GoodN Try.prog X 37 en36 su36 (bodyOf Try.f36) True = (SubOk Try.prog X 37 ⟨f_spec_l2Frames_l3c, f_spec_l2Frames_l3v, f_spec_l2Frames_l3e, loopF f_spec_l2Frames_l3⟩ (.loop (loopAt 3 Try.f36)) ∧ True) by kernel_rfl) ⟨(f_spec_l2Frames_l3Ok hX), trivial⟩)).1)
    (fun x r h => (f_spec_l2FramesEq x).trans h)
def fl85 : List (Nat × Sig) := [(130, sg130)]
def en85 : Env := { n := 34, ty := assocN tyL, fns := assocN fl85, lo := 1 }
def su85 : Bool → Nat → Option Sub | _, _ => none
theorem ok85 : EnvOk Try.prog en85 := envOk_of rfl rfl tyL_ok (⟨so130, trivial⟩)
theorem f_spec_l9R_numEq (x : Ps ins85) : evF en85 su85 Try.f85 ins85 res85 x = f_spec_l9R_num x := by kernel_rfl
theorem so85 : Sound Try.prog 85 sg85 :=
  sound_of (fn := Try.f85) (c := bodyOf Try.f85) (subs := su85) (E := en85) (by kernel_rfl) (by kernel_rfl) (by decide) ok85 (by kernel_rfl) (by kernel_rfl) (by decide)
    (fun X hX => (GoodN.good (K := True) (Eq.mpr (show GoodN Try.prog X 34 en85 su85 (bodyOf Try.f85) True = (True) by kernel_rfl) trivial)).1)
    (fun x r h => (f_spec_l9R_numEq x).trans h)
def fl86 : List (Nat × Sig) := [(85, sg85)]
def en86 : Env := { n := 33, ty := assocN tyL, fns := assocN fl86, lo := 1 }
def su86 : Bool → Nat → Option Sub | _, _ => none
theorem ok86 : EnvOk Try.prog en86 := envOk_of rfl rfl tyL_ok (⟨so85, trivial⟩)
theorem f_spec_l9R_textEq (x : Ps ins86) : evF en86 su86 Try.f86 ins86 res86 x = f_spec_l9R_text x := by kernel_rfl
theorem so86 : Sound Try.prog 86 sg86 :=
  sound_of (fn := Try.f86) (c := bodyOf Try.f86) (subs := su86) (E := en86) (by kernel_rfl) (by kernel_rfl) (by decide) ok86 (by kernel_rfl) (by kernel_rfl) (by decide)
    (fun X hX => (GoodN.good (K := True) (Eq.mpr (show GoodN Try.prog X 33 en86 su86 (bodyOf Try.f86) True = (True) by kernel_rfl) trivial)).1)
    (fun x r h => (f_spec_l9R_textEq x).trans h)
def fl38 : List (Nat × Sig) := [(49, sg49), (50, sg50), (85, sg85), (86, sg86)]
def dw38 : List (Nat × List (List Nat × List Nat)) := [(7, [([5, 37], []), ([5, 38], []), ([], []), ([11, 40], []), ([41], []), ([5, 41, 42], []), ([5, 43], []), ([5, 42], [])])]
def en38 : Env := { n := 105, ty := assocN tyL, fns := assocN fl38, lo := 0, draw := drawOf dw38 }
def su38 : Bool → Nat → Option Sub | true, 5 => some ⟨f_spec_l9Read_l5c, f_spec_l9Read_l5v, f_spec_l9Read_l5e, loopF f_spec_l9Read_l5⟩ | true, 9 => some ⟨f_spec_l9Read_l9c, f_spec_l9Read_l9v, f_spec_l9Read_l9e, loopF f_spec_l9Read_l9⟩ | _, _ => none
theorem ok38 : EnvOk Try.prog en38 := envOk_of rfl rfl tyL_ok (⟨so49, ⟨so50, ⟨so85, ⟨so86, trivial⟩⟩⟩⟩)
theorem dr38r7 {X : Cx} (hX : en38.lo = X.lo) : RegOk Try.prog X 105 en38 7 (regAt 7 Try.f38) := regOk_of ok38 rfl hX (by kernel_rfl) (by kernel_rfl)
theorem f_spec_l9Read_l5Eq (R : Type) (c : Vars f_spec_l9Read_l5c) (v : Vars f_spec_l9Read_l5v) (kk : Vars f_spec_l9Read_l5c → (Vars f_spec_l9Read_l5v ⊕ Oc f_spec_l9Read_l5e) → Option R) : evC en38 su38 (loopAt 5 Try.f38) (Desc.mk2 f_spec_l9Read_l5v v (Desc.mk2 f_spec_l9Read_l5c c .empty)) (fun o => bodyK f_spec_l9Read_l5c f_spec_l9Read_l5v f_spec_l9Read_l5e o kk) = f_spec_l9Read_l5 R c v kk := by kernel_rfl
theorem f_spec_l9Read_l5Ok {X : Cx} (hX : en38.lo = X.lo) : SubOk Try.prog X 105 ⟨f_spec_l9Read_l5c, f_spec_l9Read_l5v, f_spec_l9Read_l5e, loopF f_spec_l9Read_l5⟩ (.loop (loopAt 5 Try.f38)) :=
  sub_loop (subs := su38) ok38 rfl hX (GoodN.good (K := True) (Eq.mpr (show GoodN Try.prog X 105 en38 su38 (loopAt 5 Try.f38) True = (RegOk Try.prog X 105 en38 7 (regAt 7 Try.f38) ∧ True) by kernel_rfl) ⟨(dr38r7 hX), trivial⟩)).1 (by decide) (by decide) f_spec_l9Read_l5Eq
theorem f_spec_l9Read_l9Eq (R : Type) (c : Vars f_spec_l9Read_l9c) (v : Vars f_spec_l9Read_l9v) (kk : Vars f_spec_l9Read_l9c → (Vars f_spec_l9Read_l9v ⊕ Oc f_spec_l9Read_l9e) → Option R) : evC en38 su38 (loopAt 9 Try.f38) (Desc.mk2 f_spec_l9Read_l9v v (Desc.mk2 f_spec_l9Read_l9c c .empty)) (fun o => bodyK f_spec_l9Read_l9c f_spec_l9Read_l9v f_spec_l9Read_l9e o kk) = f_spec_l9Read_l9 R c v kk := by kernel_rfl
theorem f_spec_l9Read_l9Ok {X : Cx} (hX : en38.lo = X.lo) : SubOk Try.prog X 105 ⟨f_spec_l9Read_l9c, f_spec_l9Read_l9v, f_spec_l9Read_l9e, loopF f_spec_l9Read_l9⟩ (.loop (loopAt 9 Try.f38)) :=
  sub_loop (subs := su38) ok38 rfl hX (GoodN.good (K := True) (Eq.mpr (show GoodN Try.prog X 105 en38 su38 (loopAt 9 Try.f38) True = (True) by kernel_rfl) trivial)).1 (by decide) (by decide) f_spec_l9Read_l9Eq
theorem f_spec_l9ReadEq (x : Ps ins38) : evF en38 su38 Try.f38 ins38 res38 x = f_spec_l9Read x := by kernel_rfl
theorem so38 : Sound Try.prog 38 sg38 :=
  sound_of (fn := Try.f38) (c := bodyOf Try.f38) (subs := su38) (E := en38) (by kernel_rfl) (by kernel_rfl) (by decide) ok38 (by kernel_rfl) (by kernel_rfl) (by decide)
    (fun X hX => (GoodN.good (K := True) (Eq.mpr (show GoodN Try.prog X 105 en38 su38 (bodyOf Try.f38) True = (SubOk Try.prog X 105 ⟨f_spec_l9Read_l5c, f_spec_l9Read_l5v, f_spec_l9Read_l5e, loopF f_spec_l9Read_l5⟩ (.loop (loopAt 5 Try.f38)) ∧ SubOk Try.prog X 105 ⟨f_spec_l9Read_l9c, f_spec_l9Read_l9v, f_spec_l9Read_l9e, loopF f_spec_l9Read_l9⟩ (.loop (loopAt 9 Try.f38)) ∧ True) by kernel_rfl) ⟨(f_spec_l9Read_l5Ok hX), (f_spec_l9Read_l9Ok hX), trivial⟩)).1)
    (fun x r h => (f_spec_l9ReadEq x).trans h)
def fl6 : List (Nat × Sig) := [(36, sg36), (37, sg37), (38, sg38), (39, sg39)]
def hi6 : List (Nat × (K × Mk)) := [(5, ((.sl .str), (.o .s)))]
def en6 : Env := { n := 51, ty := assocN tyL, fns := assocN fl6, lo := 0, hint := assocN hi6 }
def su6 : Bool → Nat → Option Sub | true, 4 => some ⟨f_spec_RecoverVersion_l4c, f_spec_RecoverVersion_l4v, f_spec_RecoverVersion_l4e, loopF f_spec_RecoverVersion_l4⟩ | _, _ => none
theorem ok6 : EnvOk Try.prog en6 := envOk_of rfl rfl tyL_ok (⟨so36, ⟨so37, ⟨so38, ⟨so39, trivial⟩⟩⟩⟩)
theorem f_spec_RecoverVersion_l4Eq (R : Type) (c : Vars f_spec_RecoverVersion_l4c) (v : Vars f_spec_RecoverVersion_l4v) (kk : Vars f_spec_RecoverVersion_l4c → (Vars f_spec_RecoverVersion_l4v ⊕ Oc f_spec_RecoverVersion_l4e) → Option R) : evC en6 su6 (loopAt 4 Try.f6) (Desc.mk2 f_spec_RecoverVersion_l4v v (Desc.mk2 f_spec_RecoverVersion_l4c c .empty)) (fun o => bodyK f_spec_RecoverVersion_l4c f_spec_RecoverVersion_l4v f_spec_RecoverVersion_l4e o kk) = f_spec_RecoverVersion_l4 R c v kk := by kernel_rfl
theorem f_spec_RecoverVersion_l4Ok {X : Cx} (hX : en6.lo = X.lo) : SubOk Try.prog X 51 ⟨f_spec_RecoverVersion_l4c, f_spec_RecoverVersion_l4v, f_spec_RecoverVersion_l4e, loopF f_spec_RecoverVersion_l4⟩ (.loop (loopAt 4 Try.f6)) :=
  sub_loop (subs := su6) ok6 rfl hX (GoodN.good (K := True) (Eq.mpr (show GoodN Try.prog X 51 en6 su6 (loopAt 4 Try.f6) True = (True) by kernel_rfl) trivial)).1 (by decide) (by decide) f_spec_RecoverVersion_l4Eq
theorem f_spec_RecoverVersionEq (x : Ps ins6) : evF en6 su6 Try.f6 ins6 res6 x = f_spec_RecoverVersion x := by kernel_rfl
theorem so6 : Sound Try.prog 6 sg6 :=
  sound_of (fn := Try.f6) (c := bodyOf Try.f6) (subs := su6) (E := en6) (by kernel_rfl) (by kernel_rfl) (by decide) ok6 (by kernel_rfl) (by kernel_rfl) (by decide)
    (fun X hX => (GoodN.good (K := True) (Eq.mpr (show GoodN Try.prog X 51 en6 su6 (bodyOf Try.f6) True = (SubOk Try.prog X 51 ⟨f_spec_RecoverVersion_l4c, f_spec_RecoverVersion_l4v, f_spec_RecoverVersion_l4e, loopF f_spec_RecoverVersion_l4⟩ (.loop (loopAt 4 Try.f6)) ∧ True) by kernel_rfl) ⟨(f_spec_RecoverVersion_l4Ok hX), trivial⟩)).1)
    (fun x r h => (f_spec_RecoverVersionEq x).trans h)
def fl17 : List (Nat × Sig) := []
def en17 : Env := { n := 45, ty := assocN tyL, fns := assocN fl17, lo := 0 }
def su17 : Bool → Nat → Option Sub | true, 4 => some ⟨f_laws_sameVersions_l4c, f_laws_sameVersions_l4v, f_laws_sameVersions_l4e, loopF f_laws_sameVersions_l4⟩ | _, _ => none
theorem ok17 : EnvOk Try.prog en17 := envOk_of rfl rfl tyL_ok (trivial)
theorem dr17r6 {X : Cx} (hX : en17.lo = X.lo) : RegOk Try.prog X 45 en17 6 (regAt 6 Try.f17) := regOk_of ok17 rfl hX (by kernel_rfl) (by kernel_rfl)
theorem f_laws_sameVersions_l4Eq (R : Type) (c : Vars f_laws_sameVersions_l4c) (v : Vars f_laws_sameVersions_l4v) (kk : Vars f_laws_sameVersions_l4c → (Vars f_laws_sameVersions_l4v ⊕ Oc f_laws_sameVersions_l4e) → Option R) : evC en17 su17 (loopAt 4 Try.f17) (Desc.mk2 f_laws_sameVersions_l4v v (Desc.mk2 f_laws_sameVersions_l4c c .empty)) (fun o => bodyK f_laws_sameVersions_l4c f_laws_sameVersions_l4v f_laws_sameVersions_l4e o kk) = f_laws_sameVersions_l4 R c v kk := by kernel_rfl
theorem f_laws_sameVersions_l4Ok {X : Cx} (hX : en17.lo = X.lo) : SubOk Try.prog X 45 ⟨f_laws_sameVersions_l4c, f_laws_sameVersions_l4v, f_laws_sameVersions_l4e, loopF f_laws_sameVersions_l4⟩ (.loop (loopAt 4 Try.f17)) :=
  sub_loop (subs := su17) ok17 rfl hX (GoodN.good (K := True) (Eq.mpr (show GoodN Try.prog X 45 en17 su17 (loopAt 4 Try.f17) True = (RegOk Try.prog X 45 en17 6 (regAt 6 Try.f17) ∧ True) by kernel_rfl) ⟨(dr17r6 hX), trivial⟩)).1 (by decide) (by decide) f_laws_sameVersions_l4Eq
theorem f_laws_sameVersionsEq (x : Ps ins17) : evF en17 su17 Try.f17 ins17 res17 x = f_laws_sameVersions x := by kernel_rfl
theorem so17 : Sound Try.prog 17 sg17 :=
  sound_of (fn := Try.f17) (c := bodyOf Try.f17) (subs := su17) (E := en17) (by kernel_rfl) (by kernel_rfl) (by decide) ok17 (by kernel_rfl) (by kernel_rfl) (by decide)
    (fun X hX => (GoodN.good (K := True) (Eq.mpr (show GoodN Try.prog X 45 en17 su17 (bodyOf Try.f17) True = (SubOk Try.prog X 45 ⟨f_laws_sameVersions_l4c, f_laws_sameVersions_l4v, f_laws_sameVersions_l4e, loopF f_laws_sameVersions_l4⟩ (.loop (loopAt 4 Try.f17)) ∧ True) by kernel_rfl) ⟨(f_laws_sameVersions_l4Ok hX), trivial⟩)).1)
    (fun x r h => (f_laws_sameVersionsEq x).trans h)
def fl19 : List (Nat × Sig) := []
def en19 : Env := { n := 20, ty := assocN tyL, fns := assocN fl19, lo := 0 }
def su19 : Bool → Nat → Option Sub | true, 3 => some ⟨f_laws_numberOf_l3c, f_laws_numberOf_l3v, f_laws_numberOf_l3e, loopF f_laws_numberOf_l3⟩ | _, _ => none
theorem ok19 : EnvOk Try.prog en19 := envOk_of rfl rfl tyL_ok (trivial)
theorem f_laws_numberOf_l3Eq (R : Type) (c : Vars f_laws_numberOf_l3c) (v : Vars f_laws_numberOf_l3v) (kk : Vars f_laws_numberOf_l3c → (Vars f_laws_numberOf_l3v ⊕ Oc f_laws_numberOf_l3e) → Option R) : evC en19 su19 (loopAt 3 Try.f19) (Desc.mk2 f_laws_numberOf_l3v v (Desc.mk2 f_laws_numberOf_l3c c .empty)) (fun o => bodyK f_laws_numberOf_l3c f_laws_numberOf_l3v f_laws_numberOf_l3e o kk) = f_laws_numberOf_l3 R c v kk := by kernel_rfl
theorem f_laws_numberOf_l3Ok {X : Cx} (hX : en19.lo = X.lo) : SubOk Try.prog X 20 ⟨f_laws_numberOf_l3c, f_laws_numberOf_l3v, f_laws_numberOf_l3e, loopF f_laws_numberOf_l3⟩ (.loop (loopAt 3 Try.f19)) :=
  sub_loop (subs := su19) ok19 rfl hX (GoodN.good (K := True) (Eq.mpr (show GoodN Try.prog X 20 en19 su19 (loopAt 3 Try.f19) True = (True) by kernel_rfl) trivial)).1 (by decide) (by decide) f_laws_numberOf_l3Eq
theorem f_laws_numberOfEq (x : Ps ins19) : evF en19 su19 Try.f19 ins19 res19 x = f_laws_numberOf x := by kernel_rfl
theorem so19 : Sound Try.prog 19 sg19 :=
  sound_of (fn := Try.f19) (c := bodyOf Try.f19) (subs := su19) (E := en19) (by kernel_rfl) (by kernel_rfl) (by decide) ok19 (by kernel_rfl) (by kernel_rfl) (by decide)
    (fun X hX => (GoodN.good (K := True) (Eq.mpr (show GoodN Try.prog X 20 en19 su19 (bodyOf Try.f19) True = (SubOk Try.prog X 20 ⟨f_laws_numberOf_l3c, f_laws_numberOf_l3v, f_laws_numberOf_l3e, loopF f_laws_numberOf_l3⟩ (.loop (loopAt 3 Try.f19)) ∧ True) by kernel_rfl) ⟨(f_laws_numberOf_l3Ok hX), trivial⟩)).1)
    (fun x r h => (f_laws_numberOfEq x).trans h)
def fl21 : List (Nat × Sig) := [(36, sg36)]
def hi21 : List (Nat × (K × Mk)) := [(2, ((.sl .str), (.o .s))), (5, ((.sl .str), (.o .s)))]
def en21 : Env := { n := 18, ty := assocN tyL, fns := assocN fl21, lo := 0, hint := assocN hi21 }
def su21 : Bool → Nat → Option Sub | _, _ => none
theorem ok21 : EnvOk Try.prog en21 := envOk_of rfl rfl tyL_ok (⟨so36, trivial⟩)
theorem f_spec_ReadFramesEq (x : Ps ins21) : evF en21 su21 Try.f21 ins21 res21 x = f_spec_ReadFrames x := by kernel_rfl
theorem so21 : Sound Try.prog 21 sg21 :=
  sound_of (fn := Try.f21) (c := bodyOf Try.f21) (subs := su21) (E := en21) (by kernel_rfl) (by kernel_rfl) (by decide) ok21 (by kernel_rfl) (by kernel_rfl) (by decide)
    (fun X hX => (GoodN.good (K := True) (Eq.mpr (show GoodN Try.prog X 18 en21 su21 (bodyOf Try.f21) True = (True) by kernel_rfl) trivial)).1)
    (fun x r h => (f_spec_ReadFramesEq x).trans h)
def fl22 : List (Nat × Sig) := [(38, sg38)]
def en22 : Env := { n := 12, ty := assocN tyL, fns := assocN fl22, lo := 0 }
def su22 : Bool → Nat → Option Sub | _, _ => none
theorem ok22 : EnvOk Try.prog en22 := envOk_of rfl rfl tyL_ok (⟨so38, trivial⟩)
theorem f_spec_ReadEditEq (x : Ps ins22) : evF en22 su22 Try.f22 ins22 res22 x = f_spec_ReadEdit x := by kernel_rfl
theorem so22 : Sound Try.prog 22 sg22 :=
  sound_of (fn := Try.f22) (c := bodyOf Try.f22) (subs := su22) (E := en22) (by kernel_rfl) (by kernel_rfl) (by decide) ok22 (by kernel_rfl) (by kernel_rfl) (by decide)
    (fun X hX => (GoodN.good (K := True) (Eq.mpr (show GoodN Try.prog X 12 en22 su22 (bodyOf Try.f22) True = (True) by kernel_rfl) trivial)).1)
    (fun x r h => (f_spec_ReadEditEq x).trans h)
def fl4 : List (Nat × Sig) := [(6, sg6), (7, sg7), (11, sg11), (12, sg12), (13, sg13), (14, sg14), (15, sg15), (16, sg16), (17, sg17), (18, sg18), (19, sg19), (20, sg20), (21, sg21), (22, sg22), (23, sg23)]
def hi4 : List (Nat × (K × Mk)) := [(26, ((.sl .str), (.o .s)))]
def en4 : Env := { n := 198, ty := assocN tyL, fns := assocN fl4, lo := 0, hint := assocN hi4 }
def su4 : Bool → Nat → Option Sub | false, 9 => some ⟨f_laws_FnRecovered_i9c, f_laws_FnRecovered_i9v, f_laws_FnRecovered_i9e, f_laws_FnRecovered_i9⟩ | false, 20 => some ⟨f_laws_FnRecovered_i20c, f_laws_FnRecovered_i20v, f_laws_FnRecovered_i20e, f_laws_FnRecovered_i20⟩ | true, 27 => some ⟨f_laws_FnRecovered_l27c, f_laws_FnRecovered_l27v, f_laws_FnRecovered_l27e, loopF f_laws_FnRecovered_l27⟩ | _, _ => none
theorem ok4 : EnvOk Try.prog en4 := envOk_of rfl rfl tyL_ok (⟨so6, ⟨so7, ⟨so11, ⟨so12, ⟨so13, ⟨so14, ⟨so15, ⟨so16, ⟨so17, ⟨so18, ⟨so19, ⟨so20, ⟨so21, ⟨so22, ⟨so23, trivial⟩⟩⟩⟩⟩⟩⟩⟩⟩⟩⟩⟩⟩⟩⟩)
def su4i9 : Bool → Nat → Option Sub | false, 20 => some ⟨f_laws_FnRecovered_i20c, f_laws_FnRecovered_i20v, f_laws_FnRecovered_i20e, f_laws_FnRecovered_i20⟩ | true, 27 => some ⟨f_laws_FnRecovered_l27c, f_laws_FnRecovered_l27v, f_laws_FnRecovered_l27e, loopF f_laws_FnRecovered_l27⟩ | _, _ => none
theorem f_laws_FnRecovered_i9Eq (R : Type) (c : Vars f_laws_FnRecovered_i9c) (v : Vars f_laws_FnRecovered_i9v) (kk : Vars f_laws_FnRecovered_i9c → Oc f_laws_FnRecovered_i9e → Option R) : evC en4 su4i9 (ifAt 9 Try.f4) (Desc.mk2 f_laws_FnRecovered_i9v v (Desc.mk2 f_laws_FnRecovered_i9c c .empty)) (fun o => chk f_laws_FnRecovered_i9c f_laws_FnRecovered_i9e o kk) = f_laws_FnRecovered_i9 R c v kk := by kernel_rfl
theorem f_laws_FnRecovered_i9Ok {X : Cx} (hX : en4.lo = X.lo) : SubOk Try.prog X 198 ⟨f_laws_FnRecovered_i9c, f_laws_FnRecovered_i9v, f_laws_FnRecovered_i9e, f_laws_FnRecovered_i9⟩ (ifAt 9 Try.f4) :=
  sub_if (u := ⟨f_laws_FnRecovered_i9c, f_laws_FnRecovered_i9v, f_laws_FnRecovered_i9e, f_laws_FnRecovered_i9⟩) (subs := su4i9) ok4 rfl hX (GoodN.good (K := True) (Eq.mpr (show GoodN Try.prog X 198 en4 su4i9 (ifAt 9 Try.f4) True = (True) by kernel_rfl) trivial)).1 (by decide) (by decide) f_laws_FnRecovered_i9Eq
def su4i20 : Bool → Nat → Option Sub | false, 9 => some ⟨f_laws_FnRecovered_i9c, f_laws_FnRecovered_i9v, f_laws_FnRecovered_i9e, f_laws_FnRecovered_i9⟩ | true, 27 => some ⟨f_laws_FnRecovered_l27c, f_laws_FnRecovered_l27v, f_laws_FnRecovered_l27e, loopF f_laws_FnRecovered_l27⟩ | _, _ => none
theorem f_laws_FnRecovered_i20Eq (R : Type) (c : Vars f_laws_FnRecovered_i20c) (v : Vars f_laws_FnRecovered_i20v) (kk : Vars f_laws_FnRecovered_i20c → Oc f_laws_FnRecovered_i20e → Option R) : evC en4 su4i20 (ifAt 20 Try.f4) (Desc.mk2 f_laws_FnRecovered_i20v v (Desc.mk2 f_laws_FnRecovered_i20c c .empty)) (fun o => chk f_laws_FnRecovered_i20c f_laws_FnRecovered_i20e o kk) = f_laws_FnRecovered_i20 R c v kk := by kernel_rfl
theorem f_laws_FnRecovered_i20Ok {X : Cx} (hX : en4.lo = X.lo) : SubOk Try.prog X 198 ⟨f_laws_FnRecovered_i20c, f_laws_FnRecovered_i20v, f_laws_FnRecovered_i20e, f_laws_FnRecovered_i20⟩ (ifAt 20 Try.f4) :=
  sub_if (u := ⟨f_laws_FnRecovered_i20c, f_laws_FnRecovered_i20v, f_laws_FnRecovered_i20e, f_laws_FnRecovered_i20⟩) (subs := su4i20) ok4 rfl hX (GoodN.good (K := True) (Eq.mpr (show GoodN Try.prog X 198 en4 su4i20 (ifAt 20 Try.f4) True = (True) by kernel_rfl) trivial)).1 (by decide) (by decide) f_laws_FnRecovered_i20Eq
theorem f_laws_FnRecovered_l27Eq (R : Type) (c : Vars f_laws_FnRecovered_l27c) (v : Vars f_laws_FnRecovered_l27v) (kk : Vars f_laws_FnRecovered_l27c → (Vars f_laws_FnRecovered_l27v ⊕ Oc f_laws_FnRecovered_l27e) → Option R) : evC en4 su4 (loopAt 27 Try.f4) (Desc.mk2 f_laws_FnRecovered_l27v v (Desc.mk2 f_laws_FnRecovered_l27c c .empty)) (fun o => bodyK f_laws_FnRecovered_l27c f_laws_FnRecovered_l27v f_laws_FnRecovered_l27e o kk) = f_laws_FnRecovered_l27 R c v kk := by kernel_rfl
theorem f_laws_FnRecovered_l27Ok {X : Cx} (hX : en4.lo = X.lo) : SubOk Try.prog X 198 ⟨f_laws_FnRecovered_l27c, f_laws_FnRecovered_l27v, f_laws_FnRecovered_l27e, loopF f_laws_FnRecovered_l27⟩ (.loop (loopAt 27 Try.f4)) :=
  sub_loop (subs := su4) ok4 rfl hX (GoodN.good (K := True) (Eq.mpr (show GoodN Try.prog X 198 en4 su4 (loopAt 27 Try.f4) True = (True) by kernel_rfl) trivial)).1 (by decide) (by decide) f_laws_FnRecovered_l27Eq
theorem f_laws_FnRecoveredEq (x : Ps ins4) : evF en4 su4 Try.f4 ins4 res4 x = f_laws_FnRecovered x := by kernel_rfl
theorem so4 : Sound Try.prog 4 sg4 :=
  sound_of (fn := Try.f4) (c := bodyOf Try.f4) (subs := su4) (E := en4) (by kernel_rfl) (by kernel_rfl) (by decide) ok4 (by kernel_rfl) (by kernel_rfl) (by decide)
    (fun X hX => (GoodN.good (K := True) (Eq.mpr (show GoodN Try.prog X 198 en4 su4 (bodyOf Try.f4) True = (SubOk Try.prog X 198 ⟨f_laws_FnRecovered_i9c, f_laws_FnRecovered_i9v, f_laws_FnRecovered_i9e, f_laws_FnRecovered_i9⟩ (ifAt 9 Try.f4) ∧ SubOk Try.prog X 198 ⟨f_laws_FnRecovered_i20c, f_laws_FnRecovered_i20v, f_laws_FnRecovered_i20e, f_laws_FnRecovered_i20⟩ (ifAt 20 Try.f4) ∧ SubOk Try.prog X 198 ⟨f_laws_FnRecovered_l27c, f_laws_FnRecovered_l27v, f_laws_FnRecovered_l27e, loopF f_laws_FnRecovered_l27⟩ (.loop (loopAt 27 Try.f4)) ∧ True) by kernel_rfl) ⟨(f_laws_FnRecovered_i9Ok hX), (f_laws_FnRecovered_i20Ok hX), (f_laws_FnRecovered_l27Ok hX), trivial⟩)).1)
    (fun x r h => (f_laws_FnRecoveredEq x).trans h)
end Go.Proofs.Ytbekojfgnbnpcaa
