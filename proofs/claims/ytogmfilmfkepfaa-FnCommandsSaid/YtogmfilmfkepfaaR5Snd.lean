/- The typed functions are what the program's code says. (Printed by a program of mine, wip/tools/gen.py.) -/
import Derived.Test.YtogmfilmfkepfaaProg
import Derived.Test.YtogmfilmfkepfaaR5Fns
set_option linter.all false
set_option maxRecDepth 100000
noncomputable section
namespace Go.Proofs.Ytogmfilmfkepfaa
open Go Go.Proofs.Ytogmfilmfkepfaa.Ev
theorem ty3 : TyOk Try.prog 3 (.int .i64) := ⟨⟨by kernel_rfl, by kernel_rfl⟩, by kernel_rfl⟩
theorem ty9 : TyOk Try.prog 9 .str := ⟨⟨by kernel_rfl, by kernel_rfl⟩, by kernel_rfl⟩
theorem ty36 : TyOk Try.prog 36 kdCommand := ty_struct (f := (⟨ "Session", 3, 0, false, "", "", 0⟩ : Field)) (l := [(⟨ "N", 3, 1, false, "", "", 8⟩ : Field), (⟨ "Op", 3, 2, false, "", "", 16⟩ : Field), (⟨ "Key", 9, 3, false, "", "", 24⟩ : Field), (⟨ "Value", 9, 4, false, "", "", 40⟩ : Field), (⟨ "Old", 9, 5, false, "", "", 56⟩ : Field)]) ⟨by kernel_rfl, by kernel_rfl⟩ (by kernel_rfl) (by kernel_rfl) ⟨rfl, by decide, ty3, ⟨rfl, by decide, ty3, ⟨rfl, by decide, ty3, ⟨rfl, by decide, ty9, ⟨rfl, by decide, ty9, ⟨rfl, by decide, ty9, rfl⟩⟩⟩⟩⟩⟩
theorem ty119 : TyOk Try.prog 119 kdPair := ty_struct (f := (⟨ "Key", 9, 0, false, "", "", 0⟩ : Field)) (l := [(⟨ "Value", 9, 1, false, "", "", 16⟩ : Field)]) ⟨by kernel_rfl, by kernel_rfl⟩ (by kernel_rfl) (by kernel_rfl) ⟨rfl, by decide, ty9, ⟨rfl, by decide, ty9, rfl⟩⟩
theorem ty43 : TyOk Try.prog 43 (.sl kdPair) := ty_sl ⟨by kernel_rfl, by kernel_rfl⟩ (by kernel_rfl) ty119
theorem ty52 : TyOk Try.prog 52 kdReply := ty_struct (f := (⟨ "Code", 3, 0, false, "", "", 0⟩ : Field)) (l := [(⟨ "Value", 9, 1, false, "", "", 8⟩ : Field)]) ⟨by kernel_rfl, by kernel_rfl⟩ (by kernel_rfl) (by kernel_rfl) ⟨rfl, by decide, ty3, ⟨rfl, by decide, ty9, rfl⟩⟩
theorem ty117 : TyOk Try.prog 117 kdSession := ty_struct (f := (⟨ "Id", 3, 0, false, "", "", 0⟩ : Field)) (l := [(⟨ "Last", 3, 1, false, "", "", 8⟩ : Field), (⟨ "Reply", 52, 2, false, "", "", 16⟩ : Field)]) ⟨by kernel_rfl, by kernel_rfl⟩ (by kernel_rfl) (by kernel_rfl) ⟨rfl, by decide, ty3, ⟨rfl, by decide, ty3, ⟨rfl, by decide, ty52, rfl⟩⟩⟩
theorem ty44 : TyOk Try.prog 44 (.sl kdSession) := ty_sl ⟨by kernel_rfl, by kernel_rfl⟩ (by kernel_rfl) ty117
theorem ty46 : TyOk Try.prog 46 kdKvState := ty_struct (f := (⟨ "Cells", 43, 0, false, "", "", 0⟩ : Field)) (l := [(⟨ "Sessions", 44, 1, false, "", "", 24⟩ : Field)]) ⟨by kernel_rfl, by kernel_rfl⟩ (by kernel_rfl) (by kernel_rfl) ⟨rfl, by decide, ty43, ⟨rfl, by decide, ty44, rfl⟩⟩
theorem ty4 : TyOk Try.prog 4 .bool := ⟨⟨by kernel_rfl, by kernel_rfl⟩, by kernel_rfl⟩
theorem ty105 : TyOk Try.prog 105 kdtaker := ty_struct (f := (⟨ "left", 9, 0, false, "", "loop.example/g00224/impl", 0⟩ : Field)) (l := [(⟨ "bad", 4, 1, false, "", "loop.example/g00224/impl", 16⟩ : Field)]) ⟨by kernel_rfl, by kernel_rfl⟩ (by kernel_rfl) (by kernel_rfl) ⟨rfl, by decide, ty9, ⟨rfl, by decide, ty4, rfl⟩⟩
theorem ty5 : TyOk Try.prog 5 (.int .u8) := ⟨⟨by kernel_rfl, by kernel_rfl⟩, by kernel_rfl⟩
theorem ty34 : TyOk Try.prog 34 (.sl (.int .u8)) := ty_sl ⟨by kernel_rfl, by kernel_rfl⟩ (by kernel_rfl) ty5
theorem ty110 : TyOk Try.prog 110 (.int .u64) := ⟨⟨by kernel_rfl, by kernel_rfl⟩, by kernel_rfl⟩
theorem ty112 : TyOk Try.prog 112 kdl1Cur := ty_struct (f := (⟨ "code", 34, 0, false, "", "loop.example/g00224/spec", 0⟩ : Field)) (l := [(⟨ "at", 3, 1, false, "", "loop.example/g00224/spec", 24⟩ : Field), (⟨ "seed", 110, 2, false, "", "loop.example/g00224/spec", 32⟩ : Field)]) ⟨by kernel_rfl, by kernel_rfl⟩ (by kernel_rfl) (by kernel_rfl) ⟨rfl, by decide, ty34, ⟨rfl, by decide, ty3, ⟨rfl, by decide, ty110, rfl⟩⟩⟩
theorem ty27 : TyOk Try.prog 27 (.sl kdCommand) := ty_sl ⟨by kernel_rfl, by kernel_rfl⟩ (by kernel_rfl) ty36
theorem ty47 : TyOk Try.prog 47 (.sl kdReply) := ty_sl ⟨by kernel_rfl, by kernel_rfl⟩ (by kernel_rfl) ty52
theorem ty24 : TyOk Try.prog 24 (.sl (.int .i64)) := ty_sl ⟨by kernel_rfl, by kernel_rfl⟩ (by kernel_rfl) ty3
theorem ty58 : TyOk Try.prog 58 (.sl .str) := ty_sl ⟨by kernel_rfl, by kernel_rfl⟩ (by kernel_rfl) ty9
theorem ty132 : TyOk Try.prog 132 (.int .u64) := ⟨⟨by kernel_rfl, by kernel_rfl⟩, by kernel_rfl⟩
def tyL : List (Nat × K) := [(3, (.int .i64)), (9, .str), (36, kdCommand), (119, kdPair), (43, (.sl kdPair)), (52, kdReply), (117, kdSession), (44, (.sl kdSession)), (46, kdKvState), (4, .bool), (105, kdtaker), (5, (.int .u8)), (34, (.sl (.int .u8))), (110, (.int .u64)), (112, kdl1Cur), (27, (.sl kdCommand)), (47, (.sl kdReply)), (24, (.sl (.int .i64))), (58, (.sl .str)), (132, (.int .u64))]
theorem tyL_ok : AllTy Try.prog tyL := ⟨ty3, ⟨ty9, ⟨ty36, ⟨ty119, ⟨ty43, ⟨ty52, ⟨ty117, ⟨ty44, ⟨ty46, ⟨ty4, ⟨ty105, ⟨ty5, ⟨ty34, ⟨ty110, ⟨ty112, ⟨ty27, ⟨ty47, ⟨ty24, ⟨ty58, ⟨ty132, trivial⟩⟩⟩⟩⟩⟩⟩⟩⟩⟩⟩⟩⟩⟩⟩⟩⟩⟩⟩⟩
def rn115 : Go.Shelf.Ren where
  f := fun x => match x with | 22 => 115 | 29 => 149 | 30 => 150 | n => n
  t := fun x => match x with | 9 => 117 | 24 => 44 | n => n
  g := fun x => x
theorem soInsert115 : Sound Try.prog 115 (sgf_slices_Insert kdSession) := sound_Insert (ρ := rn115)
  { mixed := by kernel_rfl, f22 := ⟨Try.f115.name, by decide, by kernel_rfl⟩, f29 := ⟨Try.f149, by kernel_rfl, by kernel_rfl, by kernel_rfl, by kernel_rfl, by kernel_rfl⟩, t0 := Try.underlying0, a0 := Try.isAgg0, z0 := Try.sizeOf0, v0 := Try.zeroValue0
    t3 := ty3, t4 := ty4, t9 := ty117, t24 := Try.underlying44, t24k := ty44, fl := by decide, ne := by decide, nb := by decide }
def rn151 : Go.Shelf.Ren where
  f := fun x => match x with | 22 => 151 | 29 => 163 | 30 => 164 | n => n
  t := fun x => match x with | 9 => 119 | 24 => 43 | n => n
  g := fun x => x
theorem soInsert151 : Sound Try.prog 151 (sgf_slices_Insert kdPair) := sound_Insert (ρ := rn151)
  { mixed := by kernel_rfl, f22 := ⟨Try.f151.name, by decide, by kernel_rfl⟩, f29 := ⟨Try.f163, by kernel_rfl, by kernel_rfl, by kernel_rfl, by kernel_rfl, by kernel_rfl⟩, t0 := Try.underlying0, a0 := Try.isAgg0, z0 := Try.sizeOf0, v0 := Try.zeroValue0
    t3 := ty3, t4 := ty4, t9 := ty119, t24 := Try.underlying43, t24k := ty43, fl := by decide, ne := by decide, nb := by decide }
def rn152 : Go.Shelf.Ren where
  f := fun x => match x with | 24 => 152 | n => n
  t := fun x => match x with | 9 => 119 | 24 => 43 | n => n
  g := fun x => x
theorem soDelete152 : Sound Try.prog 152 (sgf_slices_Delete kdPair) := sound_Delete (ρ := rn152)
  { mixed := by kernel_rfl, f24 := ⟨Try.f152.name, by decide, by kernel_rfl⟩, t0 := Try.underlying0, a0 := Try.isAgg0, z0 := Try.sizeOf0, v0 := Try.zeroValue0
    t3 := ty3, t4 := ty4, t9 := ty119, t24 := Try.underlying43, t24k := ty43, fl := by decide, ne := by decide, nb := by decide }
def fl121 : List (Nat × Sig) := []
def en121 : Env := { n := 62, ty := assocN tyL, fns := assocN fl121, lo := 1 }
def su121 : Bool → Nat → Option Sub | false, 3 => some ⟨f_spec_l1Cur_next_i3c, f_spec_l1Cur_next_i3v, f_spec_l1Cur_next_i3e, f_spec_l1Cur_next_i3⟩ | _, _ => none
theorem ok121 : EnvOk Try.prog en121 := envOk_of rfl rfl tyL_ok (trivial)
theorem dr121r2 {X : Cx} (hX : en121.lo = X.lo) : RegOk Try.prog X 62 en121 2 (regAt 2 Try.f121) := regOk_of ok121 rfl hX (by kernel_rfl) (by kernel_rfl)
theorem dr121r3 {X : Cx} (hX : en121.lo = X.lo) : RegOk Try.prog X 62 en121 3 (regAt 3 Try.f121) := regOk_of ok121 rfl hX (by kernel_rfl) (by kernel_rfl)
theorem dr121r6 {X : Cx} (hX : en121.lo = X.lo) : RegOk Try.prog X 62 en121 6 (regAt 6 Try.f121) := regOk_of ok121 rfl hX (by kernel_rfl) (by kernel_rfl)
def su121i3 : Bool → Nat → Option Sub | _, _ => none
theorem f_spec_l1Cur_next_i3Eq (R : Type) (c : Vars f_spec_l1Cur_next_i3c) (v : Vars f_spec_l1Cur_next_i3v) (kk : Vars f_spec_l1Cur_next_i3c → Oc f_spec_l1Cur_next_i3e → Option R) : evC en121 su121i3 (ifAt 3 Try.f121) (Desc.mk2 f_spec_l1Cur_next_i3v v (Desc.mk2 f_spec_l1Cur_next_i3c c .empty)) (fun o => chk f_spec_l1Cur_next_i3c f_spec_l1Cur_next_i3e o kk) = f_spec_l1Cur_next_i3 R c v kk := by kernel_rfl
theorem f_spec_l1Cur_next_i3Ok {X : Cx} (hX : en121.lo = X.lo) : SubOk Try.prog X 62 ⟨f_spec_l1Cur_next_i3c, f_spec_l1Cur_next_i3v, f_spec_l1Cur_next_i3e, f_spec_l1Cur_next_i3⟩ (ifAt 3 Try.f121) :=
  sub_if (u := ⟨f_spec_l1Cur_next_i3c, f_spec_l1Cur_next_i3v, f_spec_l1Cur_next_i3e, f_spec_l1Cur_next_i3⟩) (subs := su121i3) ok121 rfl hX (GoodN.good (K := True) (Eq.mpr (show GoodN Try.prog X 62 en121 su121i3 (ifAt 3 Try.f121) True = (RegOk Try.prog X 62 en121 3 (regAt 3 Try.f121) ∧ True) by kernel_rfl) ⟨(dr121r3 hX), trivial⟩)).1 (by decide) (by decide) f_spec_l1Cur_next_i3Eq
theorem f_spec_l1Cur_nextEq (x : Ps ins121) : evF en121 su121 Try.f121 ins121 res121 x = f_spec_l1Cur_next x := by kernel_rfl
theorem so121 : Sound Try.prog 121 sg121 :=
  sound_of (fn := Try.f121) (c := bodyOf Try.f121) (subs := su121) (E := en121) (by kernel_rfl) (by kernel_rfl) (by decide) ok121 (by kernel_rfl) (by kernel_rfl) (by decide)
    (fun X hX => (GoodN.good (K := True) (Eq.mpr (show GoodN Try.prog X 62 en121 su121 (bodyOf Try.f121) True = (RegOk Try.prog X 62 en121 2 (regAt 2 Try.f121) ∧ SubOk Try.prog X 62 ⟨f_spec_l1Cur_next_i3c, f_spec_l1Cur_next_i3v, f_spec_l1Cur_next_i3e, f_spec_l1Cur_next_i3⟩ (ifAt 3 Try.f121) ∧ RegOk Try.prog X 62 en121 6 (regAt 6 Try.f121) ∧ True) by kernel_rfl) ⟨(dr121r2 hX), (f_spec_l1Cur_next_i3Ok hX), (dr121r6 hX), trivial⟩)).1)
    (fun x r h => (f_spec_l1Cur_nextEq x).trans h)
def fl78 : List (Nat × Sig) := [(121, sg121)]
def en78 : Env := { n := 20, ty := assocN tyL, fns := assocN fl78, lo := 1 }
def su78 : Bool → Nat → Option Sub | false, 5 => some ⟨f_spec_l1Cur_pick_i5c, f_spec_l1Cur_pick_i5v, f_spec_l1Cur_pick_i5e, f_spec_l1Cur_pick_i5⟩ | _, _ => none
theorem ok78 : EnvOk Try.prog en78 := envOk_of rfl rfl tyL_ok (⟨so121, trivial⟩)
def su78i5 : Bool → Nat → Option Sub | _, _ => none
theorem f_spec_l1Cur_pick_i5Eq (R : Type) (c : Vars f_spec_l1Cur_pick_i5c) (v : Vars f_spec_l1Cur_pick_i5v) (kk : Vars f_spec_l1Cur_pick_i5c → Oc f_spec_l1Cur_pick_i5e → Option R) : evC en78 su78i5 (ifAt 5 Try.f78) (Desc.mk2 f_spec_l1Cur_pick_i5v v (Desc.mk2 f_spec_l1Cur_pick_i5c c .empty)) (fun o => chk f_spec_l1Cur_pick_i5c f_spec_l1Cur_pick_i5e o kk) = f_spec_l1Cur_pick_i5 R c v kk := by kernel_rfl
theorem f_spec_l1Cur_pick_i5Ok {X : Cx} (hX : en78.lo = X.lo) : SubOk Try.prog X 20 ⟨f_spec_l1Cur_pick_i5c, f_spec_l1Cur_pick_i5v, f_spec_l1Cur_pick_i5e, f_spec_l1Cur_pick_i5⟩ (ifAt 5 Try.f78) :=
  sub_if (u := ⟨f_spec_l1Cur_pick_i5c, f_spec_l1Cur_pick_i5v, f_spec_l1Cur_pick_i5e, f_spec_l1Cur_pick_i5⟩) (subs := su78i5) ok78 rfl hX (GoodN.good (K := True) (Eq.mpr (show GoodN Try.prog X 20 en78 su78i5 (ifAt 5 Try.f78) True = (True) by kernel_rfl) trivial)).1 (by decide) (by decide) f_spec_l1Cur_pick_i5Eq
theorem f_spec_l1Cur_pickEq (x : Ps ins78) : evF en78 su78 Try.f78 ins78 res78 x = f_spec_l1Cur_pick x := by kernel_rfl
theorem so78 : Sound Try.prog 78 sg78 :=
  sound_of (fn := Try.f78) (c := bodyOf Try.f78) (subs := su78) (E := en78) (by kernel_rfl) (by kernel_rfl) (by decide) ok78 (by kernel_rfl) (by kernel_rfl) (by decide)
    (fun X hX => (GoodN.good (K := True) (Eq.mpr (show GoodN Try.prog X 20 en78 su78 (bodyOf Try.f78) True = (SubOk Try.prog X 20 ⟨f_spec_l1Cur_pick_i5c, f_spec_l1Cur_pick_i5v, f_spec_l1Cur_pick_i5e, f_spec_l1Cur_pick_i5⟩ (ifAt 5 Try.f78) ∧ True) by kernel_rfl) ⟨(f_spec_l1Cur_pick_i5Ok hX), trivial⟩)).1)
    (fun x r h => (f_spec_l1Cur_pickEq x).trans h)
def fl79 : List (Nat × Sig) := [(78, sg78)]
def en79 : Env := { n := 9, ty := assocN tyL, fns := assocN fl79, lo := 1 }
def su79 : Bool → Nat → Option Sub | _, _ => none
theorem ok79 : EnvOk Try.prog en79 := envOk_of rfl rfl tyL_ok (⟨so78, trivial⟩)
theorem f_spec_l1Cur_oneEq (x : Ps ins79) : evF en79 su79 Try.f79 ins79 res79 x = f_spec_l1Cur_one x := by kernel_rfl
theorem so79 : Sound Try.prog 79 sg79 :=
  sound_of (fn := Try.f79) (c := bodyOf Try.f79) (subs := su79) (E := en79) (by kernel_rfl) (by kernel_rfl) (by decide) ok79 (by kernel_rfl) (by kernel_rfl) (by decide)
    (fun X hX => (GoodN.good (K := True) (Eq.mpr (show GoodN Try.prog X 9 en79 su79 (bodyOf Try.f79) True = (True) by kernel_rfl) trivial)).1)
    (fun x r h => (f_spec_l1Cur_oneEq x).trans h)
def fl146 : List (Nat × Sig) := [(78, sg78)]
def en146 : Env := { n := 12, ty := assocN tyL, fns := assocN fl146, lo := 1 }
def su146 : Bool → Nat → Option Sub | _, _ => none
theorem ok146 : EnvOk Try.prog en146 := envOk_of rfl rfl tyL_ok (⟨so78, trivial⟩)
theorem f_spec_l1Cur_ofEq (x : Ps ins146) : evF en146 su146 Try.f146 ins146 res146 x = f_spec_l1Cur_of x := by kernel_rfl
theorem so146 : Sound Try.prog 146 sg146 :=
  sound_of (fn := Try.f146) (c := bodyOf Try.f146) (subs := su146) (E := en146) (by kernel_rfl) (by kernel_rfl) (by decide) ok146 (by kernel_rfl) (by kernel_rfl) (by decide)
    (fun X hX => (GoodN.good (K := True) (Eq.mpr (show GoodN Try.prog X 12 en146 su146 (bodyOf Try.f146) True = (True) by kernel_rfl) trivial)).1)
    (fun x r h => (f_spec_l1Cur_ofEq x).trans h)
def fl145 : List (Nat × Sig) := [(79, sg79), (146, sg146)]
def en145 : Env := { n := 11, ty := assocN tyL, fns := assocN fl145, lo := 1 }
def su145 : Bool → Nat → Option Sub | _, _ => none
theorem ok145 : EnvOk Try.prog en145 := envOk_of rfl rfl tyL_ok (⟨so79, ⟨so146, trivial⟩⟩)
theorem f_spec_l1Cur_keyEq (x : Ps ins145) : evF en145 su145 Try.f145 ins145 res145 x = f_spec_l1Cur_key x := by kernel_rfl
theorem so145 : Sound Try.prog 145 sg145 :=
  sound_of (fn := Try.f145) (c := bodyOf Try.f145) (subs := su145) (E := en145) (by kernel_rfl) (by kernel_rfl) (by decide) ok145 (by kernel_rfl) (by kernel_rfl) (by decide)
    (fun X hX => (GoodN.good (K := True) (Eq.mpr (show GoodN Try.prog X 11 en145 su145 (bodyOf Try.f145) True = (True) by kernel_rfl) trivial)).1)
    (fun x r h => (f_spec_l1Cur_keyEq x).trans h)
def fl120 : List (Nat × Sig) := [(78, sg78)]
def en120 : Env := { n := 12, ty := assocN tyL, fns := assocN fl120, lo := 1 }
def su120 : Bool → Nat → Option Sub | _, _ => none
theorem ok120 : EnvOk Try.prog en120 := envOk_of rfl rfl tyL_ok (⟨so78, trivial⟩)
theorem f_spec_l1Cur_amongEq (x : Ps ins120) : evF en120 su120 Try.f120 ins120 res120 x = f_spec_l1Cur_among x := by kernel_rfl
theorem so120 : Sound Try.prog 120 sg120 :=
  sound_of (fn := Try.f120) (c := bodyOf Try.f120) (subs := su120) (E := en120) (by kernel_rfl) (by kernel_rfl) (by decide) ok120 (by kernel_rfl) (by kernel_rfl) (by decide)
    (fun X hX => (GoodN.good (K := True) (Eq.mpr (show GoodN Try.prog X 12 en120 su120 (bodyOf Try.f120) True = (True) by kernel_rfl) trivial)).1)
    (fun x r h => (f_spec_l1Cur_amongEq x).trans h)
def fl108 : List (Nat × Sig) := [(78, sg78), (120, sg120), (145, sg145), (146, sg146)]
def en108 : Env := { n := 57, ty := assocN tyL, fns := assocN fl108, lo := 1 }
def su108 : Bool → Nat → Option Sub | false, 3 => some ⟨f_spec_l1Cur_command_i3c, f_spec_l1Cur_command_i3v, f_spec_l1Cur_command_i3e, f_spec_l1Cur_command_i3⟩ | false, 5 => some ⟨f_spec_l1Cur_command_i5c, f_spec_l1Cur_command_i5v, f_spec_l1Cur_command_i5e, f_spec_l1Cur_command_i5⟩ | false, 12 => some ⟨f_spec_l1Cur_command_i12c, f_spec_l1Cur_command_i12v, f_spec_l1Cur_command_i12e, f_spec_l1Cur_command_i12⟩ | false, 10 => some ⟨f_spec_l1Cur_command_i10c, f_spec_l1Cur_command_i10v, f_spec_l1Cur_command_i10e, f_spec_l1Cur_command_i10⟩ | false, 8 => some ⟨f_spec_l1Cur_command_i8c, f_spec_l1Cur_command_i8v, f_spec_l1Cur_command_i8e, f_spec_l1Cur_command_i8⟩ | _, _ => none
theorem ok108 : EnvOk Try.prog en108 := envOk_of rfl rfl tyL_ok (⟨so78, ⟨so120, ⟨so145, ⟨so146, trivial⟩⟩⟩⟩)
def su108i3 : Bool → Nat → Option Sub | false, 5 => some ⟨f_spec_l1Cur_command_i5c, f_spec_l1Cur_command_i5v, f_spec_l1Cur_command_i5e, f_spec_l1Cur_command_i5⟩ | false, 12 => some ⟨f_spec_l1Cur_command_i12c, f_spec_l1Cur_command_i12v, f_spec_l1Cur_command_i12e, f_spec_l1Cur_command_i12⟩ | false, 10 => some ⟨f_spec_l1Cur_command_i10c, f_spec_l1Cur_command_i10v, f_spec_l1Cur_command_i10e, f_spec_l1Cur_command_i10⟩ | false, 8 => some ⟨f_spec_l1Cur_command_i8c, f_spec_l1Cur_command_i8v, f_spec_l1Cur_command_i8e, f_spec_l1Cur_command_i8⟩ | _, _ => none
theorem f_spec_l1Cur_command_i3Eq (R : Type) (c : Vars f_spec_l1Cur_command_i3c) (v : Vars f_spec_l1Cur_command_i3v) (kk : Vars f_spec_l1Cur_command_i3c → Oc f_spec_l1Cur_command_i3e → Option R) : evC en108 su108i3 (ifAt 3 Try.f108) (Desc.mk2 f_spec_l1Cur_command_i3v v (Desc.mk2 f_spec_l1Cur_command_i3c c .empty)) (fun o => chk f_spec_l1Cur_command_i3c f_spec_l1Cur_command_i3e o kk) = f_spec_l1Cur_command_i3 R c v kk := by kernel_rfl
theorem f_spec_l1Cur_command_i3Ok {X : Cx} (hX : en108.lo = X.lo) : SubOk Try.prog X 57 ⟨f_spec_l1Cur_command_i3c, f_spec_l1Cur_command_i3v, f_spec_l1Cur_command_i3e, f_spec_l1Cur_command_i3⟩ (ifAt 3 Try.f108) :=
  sub_if (u := ⟨f_spec_l1Cur_command_i3c, f_spec_l1Cur_command_i3v, f_spec_l1Cur_command_i3e, f_spec_l1Cur_command_i3⟩) (subs := su108i3) ok108 rfl hX (GoodN.good (K := True) (Eq.mpr (show GoodN Try.prog X 57 en108 su108i3 (ifAt 3 Try.f108) True = (True) by kernel_rfl) trivial)).1 (by decide) (by decide) f_spec_l1Cur_command_i3Eq
def su108i5 : Bool → Nat → Option Sub | false, 3 => some ⟨f_spec_l1Cur_command_i3c, f_spec_l1Cur_command_i3v, f_spec_l1Cur_command_i3e, f_spec_l1Cur_command_i3⟩ | false, 12 => some ⟨f_spec_l1Cur_command_i12c, f_spec_l1Cur_command_i12v, f_spec_l1Cur_command_i12e, f_spec_l1Cur_command_i12⟩ | false, 10 => some ⟨f_spec_l1Cur_command_i10c, f_spec_l1Cur_command_i10v, f_spec_l1Cur_command_i10e, f_spec_l1Cur_command_i10⟩ | false, 8 => some ⟨f_spec_l1Cur_command_i8c, f_spec_l1Cur_command_i8v, f_spec_l1Cur_command_i8e, f_spec_l1Cur_command_i8⟩ | _, _ => none
theorem f_spec_l1Cur_command_i5Eq (R : Type) (c : Vars f_spec_l1Cur_command_i5c) (v : Vars f_spec_l1Cur_command_i5v) (kk : Vars f_spec_l1Cur_command_i5c → Oc f_spec_l1Cur_command_i5e → Option R) : evC en108 su108i5 (ifAt 5 Try.f108) (Desc.mk2 f_spec_l1Cur_command_i5v v (Desc.mk2 f_spec_l1Cur_command_i5c c .empty)) (fun o => chk f_spec_l1Cur_command_i5c f_spec_l1Cur_command_i5e o kk) = f_spec_l1Cur_command_i5 R c v kk := by kernel_rfl
theorem f_spec_l1Cur_command_i5Ok {X : Cx} (hX : en108.lo = X.lo) : SubOk Try.prog X 57 ⟨f_spec_l1Cur_command_i5c, f_spec_l1Cur_command_i5v, f_spec_l1Cur_command_i5e, f_spec_l1Cur_command_i5⟩ (ifAt 5 Try.f108) :=
  sub_if (u := ⟨f_spec_l1Cur_command_i5c, f_spec_l1Cur_command_i5v, f_spec_l1Cur_command_i5e, f_spec_l1Cur_command_i5⟩) (subs := su108i5) ok108 rfl hX (GoodN.good (K := True) (Eq.mpr (show GoodN Try.prog X 57 en108 su108i5 (ifAt 5 Try.f108) True = (True) by kernel_rfl) trivial)).1 (by decide) (by decide) f_spec_l1Cur_command_i5Eq
def su108i12 : Bool → Nat → Option Sub | false, 3 => some ⟨f_spec_l1Cur_command_i3c, f_spec_l1Cur_command_i3v, f_spec_l1Cur_command_i3e, f_spec_l1Cur_command_i3⟩ | false, 5 => some ⟨f_spec_l1Cur_command_i5c, f_spec_l1Cur_command_i5v, f_spec_l1Cur_command_i5e, f_spec_l1Cur_command_i5⟩ | false, 10 => some ⟨f_spec_l1Cur_command_i10c, f_spec_l1Cur_command_i10v, f_spec_l1Cur_command_i10e, f_spec_l1Cur_command_i10⟩ | false, 8 => some ⟨f_spec_l1Cur_command_i8c, f_spec_l1Cur_command_i8v, f_spec_l1Cur_command_i8e, f_spec_l1Cur_command_i8⟩ | _, _ => none
theorem f_spec_l1Cur_command_i12Eq (R : Type) (c : Vars f_spec_l1Cur_command_i12c) (v : Vars f_spec_l1Cur_command_i12v) (kk : Vars f_spec_l1Cur_command_i12c → Oc f_spec_l1Cur_command_i12e → Option R) : evC en108 su108i12 (ifAt 12 Try.f108) (Desc.mk2 f_spec_l1Cur_command_i12v v (Desc.mk2 f_spec_l1Cur_command_i12c c .empty)) (fun o => chk f_spec_l1Cur_command_i12c f_spec_l1Cur_command_i12e o kk) = f_spec_l1Cur_command_i12 R c v kk := by kernel_rfl
theorem f_spec_l1Cur_command_i12Ok {X : Cx} (hX : en108.lo = X.lo) : SubOk Try.prog X 57 ⟨f_spec_l1Cur_command_i12c, f_spec_l1Cur_command_i12v, f_spec_l1Cur_command_i12e, f_spec_l1Cur_command_i12⟩ (ifAt 12 Try.f108) :=
  sub_if (u := ⟨f_spec_l1Cur_command_i12c, f_spec_l1Cur_command_i12v, f_spec_l1Cur_command_i12e, f_spec_l1Cur_command_i12⟩) (subs := su108i12) ok108 rfl hX (GoodN.good (K := True) (Eq.mpr (show GoodN Try.prog X 57 en108 su108i12 (ifAt 12 Try.f108) True = (True) by kernel_rfl) trivial)).1 (by decide) (by decide) f_spec_l1Cur_command_i12Eq
def su108i10 : Bool → Nat → Option Sub | false, 3 => some ⟨f_spec_l1Cur_command_i3c, f_spec_l1Cur_command_i3v, f_spec_l1Cur_command_i3e, f_spec_l1Cur_command_i3⟩ | false, 5 => some ⟨f_spec_l1Cur_command_i5c, f_spec_l1Cur_command_i5v, f_spec_l1Cur_command_i5e, f_spec_l1Cur_command_i5⟩ | false, 12 => some ⟨f_spec_l1Cur_command_i12c, f_spec_l1Cur_command_i12v, f_spec_l1Cur_command_i12e, f_spec_l1Cur_command_i12⟩ | false, 8 => some ⟨f_spec_l1Cur_command_i8c, f_spec_l1Cur_command_i8v, f_spec_l1Cur_command_i8e, f_spec_l1Cur_command_i8⟩ | _, _ => none
theorem f_spec_l1Cur_command_i10Eq (R : Type) (c : Vars f_spec_l1Cur_command_i10c) (v : Vars f_spec_l1Cur_command_i10v) (kk : Vars f_spec_l1Cur_command_i10c → Oc f_spec_l1Cur_command_i10e → Option R) : evC en108 su108i10 (ifAt 10 Try.f108) (Desc.mk2 f_spec_l1Cur_command_i10v v (Desc.mk2 f_spec_l1Cur_command_i10c c .empty)) (fun o => chk f_spec_l1Cur_command_i10c f_spec_l1Cur_command_i10e o kk) = f_spec_l1Cur_command_i10 R c v kk := by kernel_rfl
theorem f_spec_l1Cur_command_i10Ok {X : Cx} (hX : en108.lo = X.lo) : SubOk Try.prog X 57 ⟨f_spec_l1Cur_command_i10c, f_spec_l1Cur_command_i10v, f_spec_l1Cur_command_i10e, f_spec_l1Cur_command_i10⟩ (ifAt 10 Try.f108) :=
  sub_if (u := ⟨f_spec_l1Cur_command_i10c, f_spec_l1Cur_command_i10v, f_spec_l1Cur_command_i10e, f_spec_l1Cur_command_i10⟩) (subs := su108i10) ok108 rfl hX (GoodN.good (K := True) (Eq.mpr (show GoodN Try.prog X 57 en108 su108i10 (ifAt 10 Try.f108) True = (SubOk Try.prog X 57 ⟨f_spec_l1Cur_command_i12c, f_spec_l1Cur_command_i12v, f_spec_l1Cur_command_i12e, f_spec_l1Cur_command_i12⟩ (ifAt 12 Try.f108) ∧ True) by kernel_rfl) ⟨(f_spec_l1Cur_command_i12Ok hX), trivial⟩)).1 (by decide) (by decide) f_spec_l1Cur_command_i10Eq
def su108i8 : Bool → Nat → Option Sub | false, 3 => some ⟨f_spec_l1Cur_command_i3c, f_spec_l1Cur_command_i3v, f_spec_l1Cur_command_i3e, f_spec_l1Cur_command_i3⟩ | false, 5 => some ⟨f_spec_l1Cur_command_i5c, f_spec_l1Cur_command_i5v, f_spec_l1Cur_command_i5e, f_spec_l1Cur_command_i5⟩ | false, 12 => some ⟨f_spec_l1Cur_command_i12c, f_spec_l1Cur_command_i12v, f_spec_l1Cur_command_i12e, f_spec_l1Cur_command_i12⟩ | false, 10 => some ⟨f_spec_l1Cur_command_i10c, f_spec_l1Cur_command_i10v, f_spec_l1Cur_command_i10e, f_spec_l1Cur_command_i10⟩ | _, _ => none
theorem f_spec_l1Cur_command_i8Eq (R : Type) (c : Vars f_spec_l1Cur_command_i8c) (v : Vars f_spec_l1Cur_command_i8v) (kk : Vars f_spec_l1Cur_command_i8c → Oc f_spec_l1Cur_command_i8e → Option R) : evC en108 su108i8 (ifAt 8 Try.f108) (Desc.mk2 f_spec_l1Cur_command_i8v v (Desc.mk2 f_spec_l1Cur_command_i8c c .empty)) (fun o => chk f_spec_l1Cur_command_i8c f_spec_l1Cur_command_i8e o kk) = f_spec_l1Cur_command_i8 R c v kk := by kernel_rfl
theorem f_spec_l1Cur_command_i8Ok {X : Cx} (hX : en108.lo = X.lo) : SubOk Try.prog X 57 ⟨f_spec_l1Cur_command_i8c, f_spec_l1Cur_command_i8v, f_spec_l1Cur_command_i8e, f_spec_l1Cur_command_i8⟩ (ifAt 8 Try.f108) :=
  sub_if (u := ⟨f_spec_l1Cur_command_i8c, f_spec_l1Cur_command_i8v, f_spec_l1Cur_command_i8e, f_spec_l1Cur_command_i8⟩) (subs := su108i8) ok108 rfl hX (GoodN.good (K := True) (Eq.mpr (show GoodN Try.prog X 57 en108 su108i8 (ifAt 8 Try.f108) True = (SubOk Try.prog X 57 ⟨f_spec_l1Cur_command_i10c, f_spec_l1Cur_command_i10v, f_spec_l1Cur_command_i10e, f_spec_l1Cur_command_i10⟩ (ifAt 10 Try.f108) ∧ True) by kernel_rfl) ⟨(f_spec_l1Cur_command_i10Ok hX), trivial⟩)).1 (by decide) (by decide) f_spec_l1Cur_command_i8Eq
theorem f_spec_l1Cur_commandEq (x : Ps ins108) : evF en108 su108 Try.f108 ins108 res108 x = f_spec_l1Cur_command x := by kernel_rfl
theorem so108 : Sound Try.prog 108 sg108 :=
  sound_of (fn := Try.f108) (c := bodyOf Try.f108) (subs := su108) (E := en108) (by kernel_rfl) (by kernel_rfl) (by decide) ok108 (by kernel_rfl) (by kernel_rfl) (by decide)
    (fun X hX => (GoodN.good (K := True) (Eq.mpr (show GoodN Try.prog X 57 en108 su108 (bodyOf Try.f108) True = (SubOk Try.prog X 57 ⟨f_spec_l1Cur_command_i3c, f_spec_l1Cur_command_i3v, f_spec_l1Cur_command_i3e, f_spec_l1Cur_command_i3⟩ (ifAt 3 Try.f108) ∧ SubOk Try.prog X 57 ⟨f_spec_l1Cur_command_i5c, f_spec_l1Cur_command_i5v, f_spec_l1Cur_command_i5e, f_spec_l1Cur_command_i5⟩ (ifAt 5 Try.f108) ∧ SubOk Try.prog X 57 ⟨f_spec_l1Cur_command_i8c, f_spec_l1Cur_command_i8v, f_spec_l1Cur_command_i8e, f_spec_l1Cur_command_i8⟩ (ifAt 8 Try.f108) ∧ True) by kernel_rfl) ⟨(f_spec_l1Cur_command_i3Ok hX), (f_spec_l1Cur_command_i5Ok hX), (f_spec_l1Cur_command_i8Ok hX), trivial⟩)).1)
    (fun x r h => (f_spec_l1Cur_commandEq x).trans h)
def fl57 : List (Nat × Sig) := [(108, sg108)]
def en57 : Env := { n := 9, ty := assocN tyL, fns := assocN fl57, lo := 0 }
def su57 : Bool → Nat → Option Sub | _, _ => none
theorem ok57 : EnvOk Try.prog en57 := envOk_of rfl rfl tyL_ok (⟨so108, trivial⟩)
theorem f_spec_DrawGoodCommandEq (x : Ps ins57) : evF en57 su57 Try.f57 ins57 res57 x = f_spec_DrawGoodCommand x := by kernel_rfl
theorem so57 : Sound Try.prog 57 sg57 :=
  sound_of (fn := Try.f57) (c := bodyOf Try.f57) (subs := su57) (E := en57) (by kernel_rfl) (by kernel_rfl) (by decide) ok57 (by kernel_rfl) (by kernel_rfl) (by decide)
    (fun X hX => (GoodN.good (K := True) (Eq.mpr (show GoodN Try.prog X 9 en57 su57 (bodyOf Try.f57) True = (True) by kernel_rfl) trivial)).1)
    (fun x r h => (f_spec_DrawGoodCommandEq x).trans h)
def fl17 : List (Nat × Sig) := [(57, sg57)]
def en17 : Env := { n := 5, ty := assocN tyL, fns := assocN fl17, lo := 0 }
def su17 : Bool → Nat → Option Sub | _, _ => none
theorem ok17 : EnvOk Try.prog en17 := envOk_of rfl rfl tyL_ok (⟨so57, trivial⟩)
theorem f_spec_DrawCommandBytesEq (x : Ps ins17) : evF en17 su17 Try.f17 ins17 res17 x = f_spec_DrawCommandBytes x := by kernel_rfl
theorem so17 : Sound Try.prog 17 sg17 :=
  sound_of (fn := Try.f17) (c := bodyOf Try.f17) (subs := su17) (E := en17) (by kernel_rfl) (by kernel_rfl) (by decide) ok17 (by kernel_rfl) (by kernel_rfl) (by decide)
    (fun X hX => (GoodN.good (K := True) (Eq.mpr (show GoodN Try.prog X 5 en17 su17 (bodyOf Try.f17) True = (True) by kernel_rfl) trivial)).1)
    (fun x r h => (f_spec_DrawCommandBytesEq x).trans h)
def fl81 : List (Nat × Sig) := []
def en81 : Env := { n := 15, ty := assocN tyL, fns := assocN fl81, lo := 0 }
def su81 : Bool → Nat → Option Sub | _, _ => none
theorem ok81 : EnvOk Try.prog en81 := envOk_of rfl rfl tyL_ok (trivial)
theorem f_impl_inEq (x : Ps ins81) : evF en81 su81 Try.f81 ins81 res81 x = f_impl_in x := by kernel_rfl
theorem so81 : Sound Try.prog 81 sg81 :=
  sound_of (fn := Try.f81) (c := bodyOf Try.f81) (subs := su81) (E := en81) (by kernel_rfl) (by kernel_rfl) (by decide) ok81 (by kernel_rfl) (by kernel_rfl) (by decide)
    (fun X hX => (GoodN.good (K := True) (Eq.mpr (show GoodN Try.prog X 15 en81 su81 (bodyOf Try.f81) True = (True) by kernel_rfl) trivial)).1)
    (fun x r h => (f_impl_inEq x).trans h)
def fl109 : List (Nat × Sig) := [(81, sg81)]
def en109 : Env := { n := 6, ty := assocN tyL, fns := assocN fl109, lo := 0 }
def su109 : Bool → Nat → Option Sub | _, _ => none
theorem ok109 : EnvOk Try.prog en109 := envOk_of rfl rfl tyL_ok (⟨so81, trivial⟩)
theorem f_impl_isKeyEq (x : Ps ins109) : evF en109 su109 Try.f109 ins109 res109 x = f_impl_isKey x := by kernel_rfl
theorem so109 : Sound Try.prog 109 sg109 :=
  sound_of (fn := Try.f109) (c := bodyOf Try.f109) (subs := su109) (E := en109) (by kernel_rfl) (by kernel_rfl) (by decide) ok109 (by kernel_rfl) (by kernel_rfl) (by decide)
    (fun X hX => (GoodN.good (K := True) (Eq.mpr (show GoodN Try.prog X 6 en109 su109 (bodyOf Try.f109) True = (True) by kernel_rfl) trivial)).1)
    (fun x r h => (f_impl_isKeyEq x).trans h)
def fl110 : List (Nat × Sig) := []
def en110 : Env := { n := 6, ty := assocN tyL, fns := assocN fl110, lo := 0 }
def su110 : Bool → Nat → Option Sub | _, _ => none
theorem ok110 : EnvOk Try.prog en110 := envOk_of rfl rfl tyL_ok (trivial)
theorem f_impl_isValueEq (x : Ps ins110) : evF en110 su110 Try.f110 ins110 res110 x = f_impl_isValue x := by kernel_rfl
theorem so110 : Sound Try.prog 110 sg110 :=
  sound_of (fn := Try.f110) (c := bodyOf Try.f110) (subs := su110) (E := en110) (by kernel_rfl) (by kernel_rfl) (by decide) ok110 (by kernel_rfl) (by kernel_rfl) (by decide)
    (fun X hX => (GoodN.good (K := True) (Eq.mpr (show GoodN Try.prog X 6 en110 su110 (bodyOf Try.f110) True = (True) by kernel_rfl) trivial)).1)
    (fun x r h => (f_impl_isValueEq x).trans h)
def fl58 : List (Nat × Sig) := [(81, sg81), (109, sg109), (110, sg110)]
def en58 : Env := { n := 60, ty := assocN tyL, fns := assocN fl58, lo := 0 }
def su58 : Bool → Nat → Option Sub | _, _ => none
theorem ok58 : EnvOk Try.prog en58 := envOk_of rfl rfl tyL_ok (⟨so81, ⟨so109, ⟨so110, trivial⟩⟩⟩)
theorem f_impl_GoodCommandEq (x : Ps ins58) : evF en58 su58 Try.f58 ins58 res58 x = f_impl_GoodCommand x := by kernel_rfl
theorem so58 : Sound Try.prog 58 sg58 :=
  sound_of (fn := Try.f58) (c := bodyOf Try.f58) (subs := su58) (E := en58) (by kernel_rfl) (by kernel_rfl) (by decide) ok58 (by kernel_rfl) (by kernel_rfl) (by decide)
    (fun X hX => (GoodN.good (K := True) (Eq.mpr (show GoodN Try.prog X 60 en58 su58 (bodyOf Try.f58) True = (True) by kernel_rfl) trivial)).1)
    (fun x r h => (f_impl_GoodCommandEq x).trans h)
def fl59 : List (Nat × Sig) := []
def hi59 : List (Nat × (K × Mk)) := [(3, ((.sl (.int .u8)), (.o .s)))]
def en59 : Env := { n := 22, ty := assocN tyL, fns := assocN fl59, lo := 0, hint := assocN hi59 }
def su59 : Bool → Nat → Option Sub | true, 2 => some ⟨f_impl_varBytes_l2c, f_impl_varBytes_l2v, f_impl_varBytes_l2e, loopF f_impl_varBytes_l2⟩ | _, _ => none
theorem ok59 : EnvOk Try.prog en59 := envOk_of rfl rfl tyL_ok (trivial)
theorem f_impl_varBytes_l2Eq (R : Type) (c : Vars f_impl_varBytes_l2c) (v : Vars f_impl_varBytes_l2v) (kk : Vars f_impl_varBytes_l2c → (Vars f_impl_varBytes_l2v ⊕ Oc f_impl_varBytes_l2e) → Option R) : evC en59 su59 (loopAt 2 Try.f59) (Desc.mk2 f_impl_varBytes_l2v v (Desc.mk2 f_impl_varBytes_l2c c .empty)) (fun o => bodyK f_impl_varBytes_l2c f_impl_varBytes_l2v f_impl_varBytes_l2e o kk) = f_impl_varBytes_l2 R c v kk := by kernel_rfl
theorem f_impl_varBytes_l2Ok {X : Cx} (hX : en59.lo = X.lo) : SubOk Try.prog X 22 ⟨f_impl_varBytes_l2c, f_impl_varBytes_l2v, f_impl_varBytes_l2e, loopF f_impl_varBytes_l2⟩ (.loop (loopAt 2 Try.f59)) :=
  sub_loop (subs := su59) ok59 rfl hX (GoodN.good (K := True) (Eq.mpr (show GoodN Try.prog X 22 en59 su59 (loopAt 2 Try.f59) True = (True) by kernel_rfl) trivial)).1 (by decide) (by decide) f_impl_varBytes_l2Eq
theorem f_impl_varBytesEq (x : Ps ins59) : evF en59 su59 Try.f59 ins59 res59 x = f_impl_varBytes x := by kernel_rfl
theorem so59 : Sound Try.prog 59 sg59 :=
  sound_of (fn := Try.f59) (c := bodyOf Try.f59) (subs := su59) (E := en59) (by kernel_rfl) (by kernel_rfl) (by decide) ok59 (by kernel_rfl) (by kernel_rfl) (by decide)
    (fun X hX => (GoodN.good (K := True) (Eq.mpr (show GoodN Try.prog X 22 en59 su59 (bodyOf Try.f59) True = (SubOk Try.prog X 22 ⟨f_impl_varBytes_l2c, f_impl_varBytes_l2v, f_impl_varBytes_l2e, loopF f_impl_varBytes_l2⟩ (.loop (loopAt 2 Try.f59)) ∧ True) by kernel_rfl) ⟨(f_impl_varBytes_l2Ok hX), trivial⟩)).1)
    (fun x r h => (f_impl_varBytesEq x).trans h)
def fl60 : List (Nat × Sig) := [(59, sg59)]
def en60 : Env := { n := 8, ty := assocN tyL, fns := assocN fl60, lo := 0 }
def su60 : Bool → Nat → Option Sub | _, _ => none
theorem ok60 : EnvOk Try.prog en60 := envOk_of rfl rfl tyL_ok (⟨so59, trivial⟩)
theorem f_impl_sizedEq (x : Ps ins60) : evF en60 su60 Try.f60 ins60 res60 x = f_impl_sized x := by kernel_rfl
theorem so60 : Sound Try.prog 60 sg60 :=
  sound_of (fn := Try.f60) (c := bodyOf Try.f60) (subs := su60) (E := en60) (by kernel_rfl) (by kernel_rfl) (by decide) ok60 (by kernel_rfl) (by kernel_rfl) (by decide)
    (fun X hX => (GoodN.good (K := True) (Eq.mpr (show GoodN Try.prog X 8 en60 su60 (bodyOf Try.f60) True = (True) by kernel_rfl) trivial)).1)
    (fun x r h => (f_impl_sizedEq x).trans h)
def fl18 : List (Nat × Sig) := [(58, sg58), (59, sg59), (60, sg60)]
def dw18 : List (Nat × List (List Nat)) := [(3, [[1, 7], [1, 8], [9], [1, 10], [1, 11], [12], [13], [1, 14], [1, 15], [16], [17], [17, 18], [19], [1, 20], [1, 21], [22], [23], [1, 24], [1, 25], [26], [27], [1, 28], [1, 29], [30], [31], [2], [3]])]
def en18 : Env := { n := 32, ty := assocN tyL, fns := assocN fl18, lo := 0, draw := drawOf dw18 }
def su18 : Bool → Nat → Option Sub | _, _ => none
theorem ok18 : EnvOk Try.prog en18 := envOk_of rfl rfl tyL_ok (⟨so58, ⟨so59, ⟨so60, trivial⟩⟩⟩)
theorem dr18r3 {X : Cx} (hX : en18.lo = X.lo) : RegOk Try.prog X 32 en18 3 (regAt 3 Try.f18) := regOk_of ok18 rfl hX (by kernel_rfl) (by kernel_rfl)
theorem f_impl_CommandBytesEq (x : Ps ins18) : evF en18 su18 Try.f18 ins18 res18 x = f_impl_CommandBytes x := by kernel_rfl
theorem so18 : Sound Try.prog 18 sg18 :=
  sound_of (fn := Try.f18) (c := bodyOf Try.f18) (subs := su18) (E := en18) (by kernel_rfl) (by kernel_rfl) (by decide) ok18 (by kernel_rfl) (by kernel_rfl) (by decide)
    (fun X hX => (GoodN.good (K := True) (Eq.mpr (show GoodN Try.prog X 32 en18 su18 (bodyOf Try.f18) True = (RegOk Try.prog X 32 en18 3 (regAt 3 Try.f18) ∧ True) by kernel_rfl) ⟨(dr18r3 hX), trivial⟩)).1)
    (fun x r h => (f_impl_CommandBytesEq x).trans h)
def fl86 : List (Nat × Sig) := []
def en86 : Env := { n := 15, ty := assocN tyL, fns := assocN fl86, lo := 0 }
def su86 : Bool → Nat → Option Sub | _, _ => none
theorem ok86 : EnvOk Try.prog en86 := envOk_of rfl rfl tyL_ok (trivial)
theorem f_spec_l1InEq (x : Ps ins86) : evF en86 su86 Try.f86 ins86 res86 x = f_spec_l1In x := by kernel_rfl
theorem so86 : Sound Try.prog 86 sg86 :=
  sound_of (fn := Try.f86) (c := bodyOf Try.f86) (subs := su86) (E := en86) (by kernel_rfl) (by kernel_rfl) (by decide) ok86 (by kernel_rfl) (by kernel_rfl) (by decide)
    (fun X hX => (GoodN.good (K := True) (Eq.mpr (show GoodN Try.prog X 15 en86 su86 (bodyOf Try.f86) True = (True) by kernel_rfl) trivial)).1)
    (fun x r h => (f_spec_l1InEq x).trans h)
def fl111 : List (Nat × Sig) := [(86, sg86)]
def en111 : Env := { n := 6, ty := assocN tyL, fns := assocN fl111, lo := 0 }
def su111 : Bool → Nat → Option Sub | _, _ => none
theorem ok111 : EnvOk Try.prog en111 := envOk_of rfl rfl tyL_ok (⟨so86, trivial⟩)
theorem f_spec_l4KeyEq (x : Ps ins111) : evF en111 su111 Try.f111 ins111 res111 x = f_spec_l4Key x := by kernel_rfl
theorem so111 : Sound Try.prog 111 sg111 :=
  sound_of (fn := Try.f111) (c := bodyOf Try.f111) (subs := su111) (E := en111) (by kernel_rfl) (by kernel_rfl) (by decide) ok111 (by kernel_rfl) (by kernel_rfl) (by decide)
    (fun X hX => (GoodN.good (K := True) (Eq.mpr (show GoodN Try.prog X 6 en111 su111 (bodyOf Try.f111) True = (True) by kernel_rfl) trivial)).1)
    (fun x r h => (f_spec_l4KeyEq x).trans h)
def fl61 : List (Nat × Sig) := [(86, sg86), (111, sg111)]
def en61 : Env := { n := 60, ty := assocN tyL, fns := assocN fl61, lo := 0 }
def su61 : Bool → Nat → Option Sub | _, _ => none
theorem ok61 : EnvOk Try.prog en61 := envOk_of rfl rfl tyL_ok (⟨so86, ⟨so111, trivial⟩⟩)
theorem f_spec_GoodCommandEq (x : Ps ins61) : evF en61 su61 Try.f61 ins61 res61 x = f_spec_GoodCommand x := by kernel_rfl
theorem so61 : Sound Try.prog 61 sg61 :=
  sound_of (fn := Try.f61) (c := bodyOf Try.f61) (subs := su61) (E := en61) (by kernel_rfl) (by kernel_rfl) (by decide) ok61 (by kernel_rfl) (by kernel_rfl) (by decide)
    (fun X hX => (GoodN.good (K := True) (Eq.mpr (show GoodN Try.prog X 60 en61 su61 (bodyOf Try.f61) True = (True) by kernel_rfl) trivial)).1)
    (fun x r h => (f_spec_GoodCommandEq x).trans h)
def fl112 : List (Nat × Sig) := []
def hi112 : List (Nat × (K × Mk)) := [(3, ((.sl (.int .u8)), (.o .s)))]
def en112 : Env := { n := 21, ty := assocN tyL, fns := assocN fl112, lo := 0, hint := assocN hi112 }
def su112 : Bool → Nat → Option Sub | true, 2 => some ⟨f_spec_l2Var_l2c, f_spec_l2Var_l2v, f_spec_l2Var_l2e, loopF f_spec_l2Var_l2⟩ | _, _ => none
theorem ok112 : EnvOk Try.prog en112 := envOk_of rfl rfl tyL_ok (trivial)
theorem f_spec_l2Var_l2Eq (R : Type) (c : Vars f_spec_l2Var_l2c) (v : Vars f_spec_l2Var_l2v) (kk : Vars f_spec_l2Var_l2c → (Vars f_spec_l2Var_l2v ⊕ Oc f_spec_l2Var_l2e) → Option R) : evC en112 su112 (loopAt 2 Try.f112) (Desc.mk2 f_spec_l2Var_l2v v (Desc.mk2 f_spec_l2Var_l2c c .empty)) (fun o => bodyK f_spec_l2Var_l2c f_spec_l2Var_l2v f_spec_l2Var_l2e o kk) = f_spec_l2Var_l2 R c v kk := by kernel_rfl
theorem f_spec_l2Var_l2Ok {X : Cx} (hX : en112.lo = X.lo) : SubOk Try.prog X 21 ⟨f_spec_l2Var_l2c, f_spec_l2Var_l2v, f_spec_l2Var_l2e, loopF f_spec_l2Var_l2⟩ (.loop (loopAt 2 Try.f112)) :=
  sub_loop (subs := su112) ok112 rfl hX (GoodN.good (K := True) (Eq.mpr (show GoodN Try.prog X 21 en112 su112 (loopAt 2 Try.f112) True = (True) by kernel_rfl) trivial)).1 (by decide) (by decide) f_spec_l2Var_l2Eq
theorem f_spec_l2VarEq (x : Ps ins112) : evF en112 su112 Try.f112 ins112 res112 x = f_spec_l2Var x := by kernel_rfl
theorem so112 : Sound Try.prog 112 sg112 :=
  sound_of (fn := Try.f112) (c := bodyOf Try.f112) (subs := su112) (E := en112) (by kernel_rfl) (by kernel_rfl) (by decide) ok112 (by kernel_rfl) (by kernel_rfl) (by decide)
    (fun X hX => (GoodN.good (K := True) (Eq.mpr (show GoodN Try.prog X 21 en112 su112 (bodyOf Try.f112) True = (SubOk Try.prog X 21 ⟨f_spec_l2Var_l2c, f_spec_l2Var_l2v, f_spec_l2Var_l2e, loopF f_spec_l2Var_l2⟩ (.loop (loopAt 2 Try.f112)) ∧ True) by kernel_rfl) ⟨(f_spec_l2Var_l2Ok hX), trivial⟩)).1)
    (fun x r h => (f_spec_l2VarEq x).trans h)
def fl62 : List (Nat × Sig) := [(112, sg112)]
def dw62 : List (Nat × List (List Nat)) := [(1, [[1, 6], [1, 7], [8], [1, 9], [1, 10], [11], [12], [1, 13], [1, 14], [15], [16], [16, 17], [18], [3]])]
def en62 : Env := { n := 40, ty := assocN tyL, fns := assocN fl62, lo := 0, draw := drawOf dw62 }
def su62 : Bool → Nat → Option Sub | true, 3 => some ⟨f_spec_l14Bytes_l3c, f_spec_l14Bytes_l3v, f_spec_l14Bytes_l3e, loopF f_spec_l14Bytes_l3⟩ | _, _ => none
theorem ok62 : EnvOk Try.prog en62 := envOk_of rfl rfl tyL_ok (⟨so112, trivial⟩)
theorem dr62r1 {X : Cx} (hX : en62.lo = X.lo) : RegOk Try.prog X 40 en62 1 (regAt 1 Try.f62) := regOk_of ok62 rfl hX (by kernel_rfl) (by kernel_rfl)
theorem f_spec_l14Bytes_l3Eq (R : Type) (c : Vars f_spec_l14Bytes_l3c) (v : Vars f_spec_l14Bytes_l3v) (kk : Vars f_spec_l14Bytes_l3c → (Vars f_spec_l14Bytes_l3v ⊕ Oc f_spec_l14Bytes_l3e) → Option R) : evC en62 su62 (loopAt 3 Try.f62) (Desc.mk2 f_spec_l14Bytes_l3v v (Desc.mk2 f_spec_l14Bytes_l3c c .empty)) (fun o => bodyK f_spec_l14Bytes_l3c f_spec_l14Bytes_l3v f_spec_l14Bytes_l3e o kk) = f_spec_l14Bytes_l3 R c v kk := by kernel_rfl
theorem f_spec_l14Bytes_l3Ok {X : Cx} (hX : en62.lo = X.lo) : SubOk Try.prog X 40 ⟨f_spec_l14Bytes_l3c, f_spec_l14Bytes_l3v, f_spec_l14Bytes_l3e, loopF f_spec_l14Bytes_l3⟩ (.loop (loopAt 3 Try.f62)) :=
  sub_loop (subs := su62) ok62 rfl hX (GoodN.good (K := True) (Eq.mpr (show GoodN Try.prog X 40 en62 su62 (loopAt 3 Try.f62) True = (True) by kernel_rfl) trivial)).1 (by decide) (by decide) f_spec_l14Bytes_l3Eq
theorem f_spec_l14BytesEq (x : Ps ins62) : evF en62 su62 Try.f62 ins62 res62 x = f_spec_l14Bytes x := by kernel_rfl
theorem so62 : Sound Try.prog 62 sg62 :=
  sound_of (fn := Try.f62) (c := bodyOf Try.f62) (subs := su62) (E := en62) (by kernel_rfl) (by kernel_rfl) (by decide) ok62 (by kernel_rfl) (by kernel_rfl) (by decide)
    (fun X hX => (GoodN.good (K := True) (Eq.mpr (show GoodN Try.prog X 40 en62 su62 (bodyOf Try.f62) True = (RegOk Try.prog X 40 en62 1 (regAt 1 Try.f62) ∧ SubOk Try.prog X 40 ⟨f_spec_l14Bytes_l3c, f_spec_l14Bytes_l3v, f_spec_l14Bytes_l3e, loopF f_spec_l14Bytes_l3⟩ (.loop (loopAt 3 Try.f62)) ∧ True) by kernel_rfl) ⟨(dr62r1 hX), (f_spec_l14Bytes_l3Ok hX), trivial⟩)).1)
    (fun x r h => (f_spec_l14BytesEq x).trans h)
def fl19 : List (Nat × Sig) := [(61, sg61), (62, sg62)]
def en19 : Env := { n := 9, ty := assocN tyL, fns := assocN fl19, lo := 0 }
def su19 : Bool → Nat → Option Sub | _, _ => none
theorem ok19 : EnvOk Try.prog en19 := envOk_of rfl rfl tyL_ok (⟨so61, ⟨so62, trivial⟩⟩)
theorem f_spec_CommandBytesEq (x : Ps ins19) : evF en19 su19 Try.f19 ins19 res19 x = f_spec_CommandBytes x := by kernel_rfl
theorem so19 : Sound Try.prog 19 sg19 :=
  sound_of (fn := Try.f19) (c := bodyOf Try.f19) (subs := su19) (E := en19) (by kernel_rfl) (by kernel_rfl) (by decide) ok19 (by kernel_rfl) (by kernel_rfl) (by decide)
    (fun X hX => (GoodN.good (K := True) (Eq.mpr (show GoodN Try.prog X 9 en19 su19 (bodyOf Try.f19) True = (True) by kernel_rfl) trivial)).1)
    (fun x r h => (f_spec_CommandBytesEq x).trans h)
def fl113 : List (Nat × Sig) := []
def en113 : Env := { n := 36, ty := assocN tyL, fns := assocN fl113, lo := 0 }
def su113 : Bool → Nat → Option Sub | true, 3 => some ⟨f_impl_TakeVar_l3c, f_impl_TakeVar_l3v, f_impl_TakeVar_l3e, loopF f_impl_TakeVar_l3⟩ | _, _ => none
theorem ok113 : EnvOk Try.prog en113 := envOk_of rfl rfl tyL_ok (trivial)
theorem f_impl_TakeVar_l3Eq (R : Type) (c : Vars f_impl_TakeVar_l3c) (v : Vars f_impl_TakeVar_l3v) (kk : Vars f_impl_TakeVar_l3c → (Vars f_impl_TakeVar_l3v ⊕ Oc f_impl_TakeVar_l3e) → Option R) : evC en113 su113 (loopAt 3 Try.f113) (Desc.mk2 f_impl_TakeVar_l3v v (Desc.mk2 f_impl_TakeVar_l3c c .empty)) (fun o => bodyK f_impl_TakeVar_l3c f_impl_TakeVar_l3v f_impl_TakeVar_l3e o kk) = f_impl_TakeVar_l3 R c v kk := by kernel_rfl
theorem f_impl_TakeVar_l3Ok {X : Cx} (hX : en113.lo = X.lo) : SubOk Try.prog X 36 ⟨f_impl_TakeVar_l3c, f_impl_TakeVar_l3v, f_impl_TakeVar_l3e, loopF f_impl_TakeVar_l3⟩ (.loop (loopAt 3 Try.f113)) :=
  sub_loop (subs := su113) ok113 rfl hX (GoodN.good (K := True) (Eq.mpr (show GoodN Try.prog X 36 en113 su113 (loopAt 3 Try.f113) True = (True) by kernel_rfl) trivial)).1 (by decide) (by decide) f_impl_TakeVar_l3Eq
theorem f_impl_TakeVarEq (x : Ps ins113) : evF en113 su113 Try.f113 ins113 res113 x = f_impl_TakeVar x := by kernel_rfl
theorem so113 : Sound Try.prog 113 sg113 :=
  sound_of (fn := Try.f113) (c := bodyOf Try.f113) (subs := su113) (E := en113) (by kernel_rfl) (by kernel_rfl) (by decide) ok113 (by kernel_rfl) (by kernel_rfl) (by decide)
    (fun X hX => (GoodN.good (K := True) (Eq.mpr (show GoodN Try.prog X 36 en113 su113 (bodyOf Try.f113) True = (SubOk Try.prog X 36 ⟨f_impl_TakeVar_l3c, f_impl_TakeVar_l3v, f_impl_TakeVar_l3e, loopF f_impl_TakeVar_l3⟩ (.loop (loopAt 3 Try.f113)) ∧ True) by kernel_rfl) ⟨(f_impl_TakeVar_l3Ok hX), trivial⟩)).1)
    (fun x r h => (f_impl_TakeVarEq x).trans h)
def fl63 : List (Nat × Sig) := [(113, sg113)]
def en63 : Env := { n := 38, ty := assocN tyL, fns := assocN fl63, lo := 1 }
def su63 : Bool → Nat → Option Sub | _, _ => none
theorem ok63 : EnvOk Try.prog en63 := envOk_of rfl rfl tyL_ok (⟨so113, trivial⟩)
theorem f_impl_taker_numberEq (x : Ps ins63) : evF en63 su63 Try.f63 ins63 res63 x = f_impl_taker_number x := by kernel_rfl
theorem so63 : Sound Try.prog 63 sg63 :=
  sound_of (fn := Try.f63) (c := bodyOf Try.f63) (subs := su63) (E := en63) (by kernel_rfl) (by kernel_rfl) (by decide) ok63 (by kernel_rfl) (by kernel_rfl) (by decide)
    (fun X hX => (GoodN.good (K := True) (Eq.mpr (show GoodN Try.prog X 38 en63 su63 (bodyOf Try.f63) True = (True) by kernel_rfl) trivial)).1)
    (fun x r h => (f_impl_taker_numberEq x).trans h)
def fl64 : List (Nat × Sig) := []
def en64 : Env := { n := 42, ty := assocN tyL, fns := assocN fl64, lo := 1 }
def su64 : Bool → Nat → Option Sub | _, _ => none
theorem ok64 : EnvOk Try.prog en64 := envOk_of rfl rfl tyL_ok (trivial)
theorem f_impl_taker_textEq (x : Ps ins64) : evF en64 su64 Try.f64 ins64 res64 x = f_impl_taker_text x := by kernel_rfl
theorem so64 : Sound Try.prog 64 sg64 :=
  sound_of (fn := Try.f64) (c := bodyOf Try.f64) (subs := su64) (E := en64) (by kernel_rfl) (by kernel_rfl) (by decide) ok64 (by kernel_rfl) (by kernel_rfl) (by decide)
    (fun X hX => (GoodN.good (K := True) (Eq.mpr (show GoodN Try.prog X 42 en64 su64 (bodyOf Try.f64) True = (True) by kernel_rfl) trivial)).1)
    (fun x r h => (f_impl_taker_textEq x).trans h)
def fl65 : List (Nat × Sig) := [(63, sg63), (64, sg64)]
def en65 : Env := { n := 7, ty := assocN tyL, fns := assocN fl65, lo := 1 }
def su65 : Bool → Nat → Option Sub | _, _ => none
theorem ok65 : EnvOk Try.prog en65 := envOk_of rfl rfl tyL_ok (⟨so63, ⟨so64, trivial⟩⟩)
theorem f_impl_taker_sizedEq (x : Ps ins65) : evF en65 su65 Try.f65 ins65 res65 x = f_impl_taker_sized x := by kernel_rfl
theorem so65 : Sound Try.prog 65 sg65 :=
  sound_of (fn := Try.f65) (c := bodyOf Try.f65) (subs := su65) (E := en65) (by kernel_rfl) (by kernel_rfl) (by decide) ok65 (by kernel_rfl) (by kernel_rfl) (by decide)
    (fun X hX => (GoodN.good (K := True) (Eq.mpr (show GoodN Try.prog X 7 en65 su65 (bodyOf Try.f65) True = (True) by kernel_rfl) trivial)).1)
    (fun x r h => (f_impl_taker_sizedEq x).trans h)
def fl66 : List (Nat × Sig) := []
def en66 : Env := { n := 15, ty := assocN tyL, fns := assocN fl66, lo := 1 }
def su66 : Bool → Nat → Option Sub | _, _ => none
theorem ok66 : EnvOk Try.prog en66 := envOk_of rfl rfl tyL_ok (trivial)
theorem f_impl_taker_wholeEq (x : Ps ins66) : evF en66 su66 Try.f66 ins66 res66 x = f_impl_taker_whole x := by kernel_rfl
theorem so66 : Sound Try.prog 66 sg66 :=
  sound_of (fn := Try.f66) (c := bodyOf Try.f66) (subs := su66) (E := en66) (by kernel_rfl) (by kernel_rfl) (by decide) ok66 (by kernel_rfl) (by kernel_rfl) (by decide)
    (fun X hX => (GoodN.good (K := True) (Eq.mpr (show GoodN Try.prog X 15 en66 su66 (bodyOf Try.f66) True = (True) by kernel_rfl) trivial)).1)
    (fun x r h => (f_impl_taker_wholeEq x).trans h)
def fl20 : List (Nat × Sig) := [(58, sg58), (63, sg63), (64, sg64), (65, sg65), (66, sg66)]
def en20 : Env := { n := 44, ty := assocN tyL, fns := assocN fl20, lo := 0 }
def su20 : Bool → Nat → Option Sub | false, 6 => some ⟨f_impl_ReadCommand_i6c, f_impl_ReadCommand_i6v, f_impl_ReadCommand_i6e, f_impl_ReadCommand_i6⟩ | _, _ => none
theorem ok20 : EnvOk Try.prog en20 := envOk_of rfl rfl tyL_ok (⟨so58, ⟨so63, ⟨so64, ⟨so65, ⟨so66, trivial⟩⟩⟩⟩⟩)
def su20i6 : Bool → Nat → Option Sub | _, _ => none
theorem f_impl_ReadCommand_i6Eq (R : Type) (c : Vars f_impl_ReadCommand_i6c) (v : Vars f_impl_ReadCommand_i6v) (kk : Vars f_impl_ReadCommand_i6c → Oc f_impl_ReadCommand_i6e → Option R) : evC en20 su20i6 (ifAt 6 Try.f20) (Desc.mk2 f_impl_ReadCommand_i6v v (Desc.mk2 f_impl_ReadCommand_i6c c .empty)) (fun o => chk f_impl_ReadCommand_i6c f_impl_ReadCommand_i6e o kk) = f_impl_ReadCommand_i6 R c v kk := by kernel_rfl
theorem f_impl_ReadCommand_i6Ok {X : Cx} (hX : en20.lo = X.lo) : SubOk Try.prog X 44 ⟨f_impl_ReadCommand_i6c, f_impl_ReadCommand_i6v, f_impl_ReadCommand_i6e, f_impl_ReadCommand_i6⟩ (ifAt 6 Try.f20) :=
  sub_if (u := ⟨f_impl_ReadCommand_i6c, f_impl_ReadCommand_i6v, f_impl_ReadCommand_i6e, f_impl_ReadCommand_i6⟩) (subs := su20i6) ok20 rfl hX (GoodN.good (K := True) (Eq.mpr (show GoodN Try.prog X 44 en20 su20i6 (ifAt 6 Try.f20) True = (True) by kernel_rfl) trivial)).1 (by decide) (by decide) f_impl_ReadCommand_i6Eq
theorem f_impl_ReadCommandEq (x : Ps ins20) : evF en20 su20 Try.f20 ins20 res20 x = f_impl_ReadCommand x := by kernel_rfl
theorem so20 : Sound Try.prog 20 sg20 :=
  sound_of (fn := Try.f20) (c := bodyOf Try.f20) (subs := su20) (E := en20) (by kernel_rfl) (by kernel_rfl) (by decide) ok20 (by kernel_rfl) (by kernel_rfl) (by decide)
    (fun X hX => (GoodN.good (K := True) (Eq.mpr (show GoodN Try.prog X 44 en20 su20 (bodyOf Try.f20) True = (SubOk Try.prog X 44 ⟨f_impl_ReadCommand_i6c, f_impl_ReadCommand_i6v, f_impl_ReadCommand_i6e, f_impl_ReadCommand_i6⟩ (ifAt 6 Try.f20) ∧ True) by kernel_rfl) ⟨(f_impl_ReadCommand_i6Ok hX), trivial⟩)).1)
    (fun x r h => (f_impl_ReadCommandEq x).trans h)
def fl67 : List (Nat × Sig) := [(78, sg78), (79, sg79), (86, sg86), (108, sg108)]
def hi67 : List (Nat × (K × Mk)) := [(2, ((.sl kdCommand), (.o .s))), (3, ((.sl kdCommand), (.o .s))), (4, ((.sl (.int .i64)), (.o .s)))]
def en67 : Env := { n := 64, ty := assocN tyL, fns := assocN fl67, lo := 1, hint := assocN hi67 }
def su67 : Bool → Nat → Option Sub | false, 5 => some ⟨f_spec_l1Cur_commands_i5c, f_spec_l1Cur_commands_i5v, f_spec_l1Cur_commands_i5e, f_spec_l1Cur_commands_i5⟩ | false, 10 => some ⟨f_spec_l1Cur_commands_i10c, f_spec_l1Cur_commands_i10v, f_spec_l1Cur_commands_i10e, f_spec_l1Cur_commands_i10⟩ | false, 14 => some ⟨f_spec_l1Cur_commands_i14c, f_spec_l1Cur_commands_i14v, f_spec_l1Cur_commands_i14e, f_spec_l1Cur_commands_i14⟩ | true, 6 => some ⟨f_spec_l1Cur_commands_l6c, f_spec_l1Cur_commands_l6v, f_spec_l1Cur_commands_l6e, loopF f_spec_l1Cur_commands_l6⟩ | _, _ => none
theorem ok67 : EnvOk Try.prog en67 := envOk_of rfl rfl tyL_ok (⟨so78, ⟨so79, ⟨so86, ⟨so108, trivial⟩⟩⟩⟩)
def su67i5 : Bool → Nat → Option Sub | false, 10 => some ⟨f_spec_l1Cur_commands_i10c, f_spec_l1Cur_commands_i10v, f_spec_l1Cur_commands_i10e, f_spec_l1Cur_commands_i10⟩ | false, 14 => some ⟨f_spec_l1Cur_commands_i14c, f_spec_l1Cur_commands_i14v, f_spec_l1Cur_commands_i14e, f_spec_l1Cur_commands_i14⟩ | true, 6 => some ⟨f_spec_l1Cur_commands_l6c, f_spec_l1Cur_commands_l6v, f_spec_l1Cur_commands_l6e, loopF f_spec_l1Cur_commands_l6⟩ | _, _ => none
theorem f_spec_l1Cur_commands_i5Eq (R : Type) (c : Vars f_spec_l1Cur_commands_i5c) (v : Vars f_spec_l1Cur_commands_i5v) (kk : Vars f_spec_l1Cur_commands_i5c → Oc f_spec_l1Cur_commands_i5e → Option R) : evC en67 su67i5 (ifAt 5 Try.f67) (Desc.mk2 f_spec_l1Cur_commands_i5v v (Desc.mk2 f_spec_l1Cur_commands_i5c c .empty)) (fun o => chk f_spec_l1Cur_commands_i5c f_spec_l1Cur_commands_i5e o kk) = f_spec_l1Cur_commands_i5 R c v kk := by kernel_rfl
theorem f_spec_l1Cur_commands_i5Ok {X : Cx} (hX : en67.lo = X.lo) : SubOk Try.prog X 64 ⟨f_spec_l1Cur_commands_i5c, f_spec_l1Cur_commands_i5v, f_spec_l1Cur_commands_i5e, f_spec_l1Cur_commands_i5⟩ (ifAt 5 Try.f67) :=
  sub_if (u := ⟨f_spec_l1Cur_commands_i5c, f_spec_l1Cur_commands_i5v, f_spec_l1Cur_commands_i5e, f_spec_l1Cur_commands_i5⟩) (subs := su67i5) ok67 rfl hX (GoodN.good (K := True) (Eq.mpr (show GoodN Try.prog X 64 en67 su67i5 (ifAt 5 Try.f67) True = (True) by kernel_rfl) trivial)).1 (by decide) (by decide) f_spec_l1Cur_commands_i5Eq
def su67i10 : Bool → Nat → Option Sub | false, 5 => some ⟨f_spec_l1Cur_commands_i5c, f_spec_l1Cur_commands_i5v, f_spec_l1Cur_commands_i5e, f_spec_l1Cur_commands_i5⟩ | false, 14 => some ⟨f_spec_l1Cur_commands_i14c, f_spec_l1Cur_commands_i14v, f_spec_l1Cur_commands_i14e, f_spec_l1Cur_commands_i14⟩ | true, 6 => some ⟨f_spec_l1Cur_commands_l6c, f_spec_l1Cur_commands_l6v, f_spec_l1Cur_commands_l6e, loopF f_spec_l1Cur_commands_l6⟩ | _, _ => none
theorem f_spec_l1Cur_commands_i10Eq (R : Type) (c : Vars f_spec_l1Cur_commands_i10c) (v : Vars f_spec_l1Cur_commands_i10v) (kk : Vars f_spec_l1Cur_commands_i10c → Oc f_spec_l1Cur_commands_i10e → Option R) : evC en67 su67i10 (ifAt 10 Try.f67) (Desc.mk2 f_spec_l1Cur_commands_i10v v (Desc.mk2 f_spec_l1Cur_commands_i10c c .empty)) (fun o => chk f_spec_l1Cur_commands_i10c f_spec_l1Cur_commands_i10e o kk) = f_spec_l1Cur_commands_i10 R c v kk := by kernel_rfl
theorem f_spec_l1Cur_commands_i10Ok {X : Cx} (hX : en67.lo = X.lo) : SubOk Try.prog X 64 ⟨f_spec_l1Cur_commands_i10c, f_spec_l1Cur_commands_i10v, f_spec_l1Cur_commands_i10e, f_spec_l1Cur_commands_i10⟩ (ifAt 10 Try.f67) :=
  sub_if (u := ⟨f_spec_l1Cur_commands_i10c, f_spec_l1Cur_commands_i10v, f_spec_l1Cur_commands_i10e, f_spec_l1Cur_commands_i10⟩) (subs := su67i10) ok67 rfl hX (GoodN.good (K := True) (Eq.mpr (show GoodN Try.prog X 64 en67 su67i10 (ifAt 10 Try.f67) True = (True) by kernel_rfl) trivial)).1 (by decide) (by decide) f_spec_l1Cur_commands_i10Eq
def su67i14 : Bool → Nat → Option Sub | false, 5 => some ⟨f_spec_l1Cur_commands_i5c, f_spec_l1Cur_commands_i5v, f_spec_l1Cur_commands_i5e, f_spec_l1Cur_commands_i5⟩ | false, 10 => some ⟨f_spec_l1Cur_commands_i10c, f_spec_l1Cur_commands_i10v, f_spec_l1Cur_commands_i10e, f_spec_l1Cur_commands_i10⟩ | true, 6 => some ⟨f_spec_l1Cur_commands_l6c, f_spec_l1Cur_commands_l6v, f_spec_l1Cur_commands_l6e, loopF f_spec_l1Cur_commands_l6⟩ | _, _ => none
theorem f_spec_l1Cur_commands_i14Eq (R : Type) (c : Vars f_spec_l1Cur_commands_i14c) (v : Vars f_spec_l1Cur_commands_i14v) (kk : Vars f_spec_l1Cur_commands_i14c → Oc f_spec_l1Cur_commands_i14e → Option R) : evC en67 su67i14 (ifAt 14 Try.f67) (Desc.mk2 f_spec_l1Cur_commands_i14v v (Desc.mk2 f_spec_l1Cur_commands_i14c c .empty)) (fun o => chk f_spec_l1Cur_commands_i14c f_spec_l1Cur_commands_i14e o kk) = f_spec_l1Cur_commands_i14 R c v kk := by kernel_rfl
theorem f_spec_l1Cur_commands_i14Ok {X : Cx} (hX : en67.lo = X.lo) : SubOk Try.prog X 64 ⟨f_spec_l1Cur_commands_i14c, f_spec_l1Cur_commands_i14v, f_spec_l1Cur_commands_i14e, f_spec_l1Cur_commands_i14⟩ (ifAt 14 Try.f67) :=
  sub_if (u := ⟨f_spec_l1Cur_commands_i14c, f_spec_l1Cur_commands_i14v, f_spec_l1Cur_commands_i14e, f_spec_l1Cur_commands_i14⟩) (subs := su67i14) ok67 rfl hX (GoodN.good (K := True) (Eq.mpr (show GoodN Try.prog X 64 en67 su67i14 (ifAt 14 Try.f67) True = (True) by kernel_rfl) trivial)).1 (by decide) (by decide) f_spec_l1Cur_commands_i14Eq
theorem f_spec_l1Cur_commands_l6Eq (R : Type) (c : Vars f_spec_l1Cur_commands_l6c) (v : Vars f_spec_l1Cur_commands_l6v) (kk : Vars f_spec_l1Cur_commands_l6c → (Vars f_spec_l1Cur_commands_l6v ⊕ Oc f_spec_l1Cur_commands_l6e) → Option R) : evC en67 su67 (loopAt 6 Try.f67) (Desc.mk2 f_spec_l1Cur_commands_l6v v (Desc.mk2 f_spec_l1Cur_commands_l6c c .empty)) (fun o => bodyK f_spec_l1Cur_commands_l6c f_spec_l1Cur_commands_l6v f_spec_l1Cur_commands_l6e o kk) = f_spec_l1Cur_commands_l6 R c v kk := by kernel_rfl
theorem f_spec_l1Cur_commands_l6Ok {X : Cx} (hX : en67.lo = X.lo) : SubOk Try.prog X 64 ⟨f_spec_l1Cur_commands_l6c, f_spec_l1Cur_commands_l6v, f_spec_l1Cur_commands_l6e, loopF f_spec_l1Cur_commands_l6⟩ (.loop (loopAt 6 Try.f67)) :=
  sub_loop (subs := su67) ok67 rfl hX (GoodN.good (K := True) (Eq.mpr (show GoodN Try.prog X 64 en67 su67 (loopAt 6 Try.f67) True = (SubOk Try.prog X 64 ⟨f_spec_l1Cur_commands_i10c, f_spec_l1Cur_commands_i10v, f_spec_l1Cur_commands_i10e, f_spec_l1Cur_commands_i10⟩ (ifAt 10 Try.f67) ∧ SubOk Try.prog X 64 ⟨f_spec_l1Cur_commands_i14c, f_spec_l1Cur_commands_i14v, f_spec_l1Cur_commands_i14e, f_spec_l1Cur_commands_i14⟩ (ifAt 14 Try.f67) ∧ True) by kernel_rfl) ⟨(f_spec_l1Cur_commands_i10Ok hX), (f_spec_l1Cur_commands_i14Ok hX), trivial⟩)).1 (by decide) (by decide) f_spec_l1Cur_commands_l6Eq
theorem f_spec_l1Cur_commandsEq (x : Ps ins67) : evF en67 su67 Try.f67 ins67 res67 x = f_spec_l1Cur_commands x := by kernel_rfl
theorem so67 : Sound Try.prog 67 sg67 :=
  sound_of (fn := Try.f67) (c := bodyOf Try.f67) (subs := su67) (E := en67) (by kernel_rfl) (by kernel_rfl) (by decide) ok67 (by kernel_rfl) (by kernel_rfl) (by decide)
    (fun X hX => (GoodN.good (K := True) (Eq.mpr (show GoodN Try.prog X 64 en67 su67 (bodyOf Try.f67) True = (SubOk Try.prog X 64 ⟨f_spec_l1Cur_commands_i5c, f_spec_l1Cur_commands_i5v, f_spec_l1Cur_commands_i5e, f_spec_l1Cur_commands_i5⟩ (ifAt 5 Try.f67) ∧ SubOk Try.prog X 64 ⟨f_spec_l1Cur_commands_l6c, f_spec_l1Cur_commands_l6v, f_spec_l1Cur_commands_l6e, loopF f_spec_l1Cur_commands_l6⟩ (.loop (loopAt 6 Try.f67)) ∧ True) by kernel_rfl) ⟨(f_spec_l1Cur_commands_i5Ok hX), (f_spec_l1Cur_commands_l6Ok hX), trivial⟩)).1)
    (fun x r h => (f_spec_l1Cur_commandsEq x).trans h)
def fl21 : List (Nat × Sig) := [(67, sg67)]
def hi21 : List (Nat × (K × Mk)) := [(2, ((.sl kdCommand), (.o .s)))]
def en21 : Env := { n := 9, ty := assocN tyL, fns := assocN fl21, lo := 0, hint := assocN hi21 }
def su21 : Bool → Nat → Option Sub | _, _ => none
theorem ok21 : EnvOk Try.prog en21 := envOk_of rfl rfl tyL_ok (⟨so67, trivial⟩)
theorem f_spec_DrawFoldCommandsEq (x : Ps ins21) : evF en21 su21 Try.f21 ins21 res21 x = f_spec_DrawFoldCommands x := by kernel_rfl
theorem so21 : Sound Try.prog 21 sg21 :=
  sound_of (fn := Try.f21) (c := bodyOf Try.f21) (subs := su21) (E := en21) (by kernel_rfl) (by kernel_rfl) (by decide) ok21 (by kernel_rfl) (by kernel_rfl) (by decide)
    (fun X hX => (GoodN.good (K := True) (Eq.mpr (show GoodN Try.prog X 9 en21 su21 (bodyOf Try.f21) True = (True) by kernel_rfl) trivial)).1)
    (fun x r h => (f_spec_DrawFoldCommandsEq x).trans h)
def fl159 : List (Nat × Sig) := []
def en159 : Env := { n := 6, ty := assocN tyL, fns := assocN fl159, lo := 0 }
def su159 : Bool → Nat → Option Sub | _, _ => none
theorem ok159 : EnvOk Try.prog en159 := envOk_of rfl rfl tyL_ok (trivial)
theorem f_cmp_isNaN_intEq (x : Ps ins159) : evF en159 su159 Try.f159 ins159 res159 x = f_cmp_isNaN_int x := by kernel_rfl
theorem so159 : Sound Try.prog 159 sg159 :=
  sound_of (fn := Try.f159) (c := bodyOf Try.f159) (subs := su159) (E := en159) (by kernel_rfl) (by kernel_rfl) (by decide) ok159 (by kernel_rfl) (by kernel_rfl) (by decide)
    (fun X hX => (GoodN.good (K := True) (Eq.mpr (show GoodN Try.prog X 6 en159 su159 (bodyOf Try.f159) True = (True) by kernel_rfl) trivial)).1)
    (fun x r h => (f_cmp_isNaN_intEq x).trans h)
def fl138 : List (Nat × Sig) := [(159, sg159)]
def en138 : Env := { n := 20, ty := assocN tyL, fns := assocN fl138, lo := 0 }
def su138 : Bool → Nat → Option Sub | _, _ => none
theorem ok138 : EnvOk Try.prog en138 := envOk_of rfl rfl tyL_ok (⟨so159, trivial⟩)
theorem f_cmp_Compare_intEq (x : Ps ins138) : evF en138 su138 Try.f138 ins138 res138 x = f_cmp_Compare_int x := by kernel_rfl
theorem so138 : Sound Try.prog 138 sg138 :=
  sound_of (fn := Try.f138) (c := bodyOf Try.f138) (subs := su138) (E := en138) (by kernel_rfl) (by kernel_rfl) (by decide) ok138 (by kernel_rfl) (by kernel_rfl) (by decide)
    (fun X hX => (GoodN.good (K := True) (Eq.mpr (show GoodN Try.prog X 20 en138 su138 (bodyOf Try.f138) True = (True) by kernel_rfl) trivial)).1)
    (fun x r h => (f_cmp_Compare_intEq x).trans h)
def fl148 : List (Nat × Sig) := [(138, sg138)]
def en148 : Env := { n := 9, ty := assocN tyL, fns := assocN fl148, lo := 0 }
def su148 : Bool → Nat → Option Sub | _, _ => none
theorem ok148 : EnvOk Try.prog en148 := envOk_of rfl rfl tyL_ok (⟨so138, trivial⟩)
theorem f_impl_KvState_sessionAt_1Eq (x : Ps ins148) : evF en148 su148 Try.f148 ins148 res148 x = f_impl_KvState_sessionAt_1 x := by kernel_rfl
theorem so148 : Sound Try.prog 148 sg148 :=
  sound_of (fn := Try.f148) (c := bodyOf Try.f148) (subs := su148) (E := en148) (by kernel_rfl) (by kernel_rfl) (by decide) ok148 (by kernel_rfl) (by kernel_rfl) (by decide)
    (fun X hX => (GoodN.good (K := True) (Eq.mpr (show GoodN Try.prog X 9 en148 su148 (bodyOf Try.f148) True = (True) by kernel_rfl) trivial)).1)
    (fun x r h => (f_impl_KvState_sessionAt_1Eq x).trans h)
def fl147 : List (Nat × Sig) := []
def en147 : Env := { n := 49, ty := assocN tyL, fns := assocN fl147, lo := 0 }
def su147 : Bool → Nat → Option Sub | false, 6 => some ⟨f_slices_BinarySearchFunc_Session_int_i6c, f_slices_BinarySearchFunc_Session_int_i6v, f_slices_BinarySearchFunc_Session_int_i6e, f_slices_BinarySearchFunc_Session_int_i6⟩ | true, 3 => some ⟨f_slices_BinarySearchFunc_Session_int_l3c, f_slices_BinarySearchFunc_Session_int_l3v, f_slices_BinarySearchFunc_Session_int_l3e, loopF f_slices_BinarySearchFunc_Session_int_l3⟩ | _, _ => none
theorem ok147 : EnvOk Try.prog en147 := envOk_of rfl rfl tyL_ok (trivial)
def su147i6 : Bool → Nat → Option Sub | true, 3 => some ⟨f_slices_BinarySearchFunc_Session_int_l3c, f_slices_BinarySearchFunc_Session_int_l3v, f_slices_BinarySearchFunc_Session_int_l3e, loopF f_slices_BinarySearchFunc_Session_int_l3⟩ | _, _ => none
theorem f_slices_BinarySearchFunc_Session_int_i6Eq (R : Type) (c : Vars f_slices_BinarySearchFunc_Session_int_i6c) (v : Vars f_slices_BinarySearchFunc_Session_int_i6v) (kk : Vars f_slices_BinarySearchFunc_Session_int_i6c → Oc f_slices_BinarySearchFunc_Session_int_i6e → Option R) : evC en147 su147i6 (ifAt 6 Try.f147) (Desc.mk2 f_slices_BinarySearchFunc_Session_int_i6v v (Desc.mk2 f_slices_BinarySearchFunc_Session_int_i6c c .empty)) (fun o => chk f_slices_BinarySearchFunc_Session_int_i6c f_slices_BinarySearchFunc_Session_int_i6e o kk) = f_slices_BinarySearchFunc_Session_int_i6 R c v kk := by kernel_rfl
theorem f_slices_BinarySearchFunc_Session_int_i6Ok {X : Cx} (hX : en147.lo = X.lo) : SubOk Try.prog X 49 ⟨f_slices_BinarySearchFunc_Session_int_i6c, f_slices_BinarySearchFunc_Session_int_i6v, f_slices_BinarySearchFunc_Session_int_i6e, f_slices_BinarySearchFunc_Session_int_i6⟩ (ifAt 6 Try.f147) :=
  sub_if (u := ⟨f_slices_BinarySearchFunc_Session_int_i6c, f_slices_BinarySearchFunc_Session_int_i6v, f_slices_BinarySearchFunc_Session_int_i6e, f_slices_BinarySearchFunc_Session_int_i6⟩) (subs := su147i6) ok147 rfl hX (GoodN.good (K := True) (Eq.mpr (show GoodN Try.prog X 49 en147 su147i6 (ifAt 6 Try.f147) True = (True) by kernel_rfl) trivial)).1 (by decide) (by decide) f_slices_BinarySearchFunc_Session_int_i6Eq
theorem f_slices_BinarySearchFunc_Session_int_l3Eq (R : Type) (c : Vars f_slices_BinarySearchFunc_Session_int_l3c) (v : Vars f_slices_BinarySearchFunc_Session_int_l3v) (kk : Vars f_slices_BinarySearchFunc_Session_int_l3c → (Vars f_slices_BinarySearchFunc_Session_int_l3v ⊕ Oc f_slices_BinarySearchFunc_Session_int_l3e) → Option R) : evC en147 su147 (loopAt 3 Try.f147) (Desc.mk2 f_slices_BinarySearchFunc_Session_int_l3v v (Desc.mk2 f_slices_BinarySearchFunc_Session_int_l3c c .empty)) (fun o => bodyK f_slices_BinarySearchFunc_Session_int_l3c f_slices_BinarySearchFunc_Session_int_l3v f_slices_BinarySearchFunc_Session_int_l3e o kk) = f_slices_BinarySearchFunc_Session_int_l3 R c v kk := by kernel_rfl
theorem f_slices_BinarySearchFunc_Session_int_l3Ok {X : Cx} (hX : en147.lo = X.lo) : SubOk Try.prog X 49 ⟨f_slices_BinarySearchFunc_Session_int_l3c, f_slices_BinarySearchFunc_Session_int_l3v, f_slices_BinarySearchFunc_Session_int_l3e, loopF f_slices_BinarySearchFunc_Session_int_l3⟩ (.loop (loopAt 3 Try.f147)) :=
  sub_loop (subs := su147) ok147 rfl hX (GoodN.good (K := True) (Eq.mpr (show GoodN Try.prog X 49 en147 su147 (loopAt 3 Try.f147) True = (SubOk Try.prog X 49 ⟨f_slices_BinarySearchFunc_Session_int_i6c, f_slices_BinarySearchFunc_Session_int_i6v, f_slices_BinarySearchFunc_Session_int_i6e, f_slices_BinarySearchFunc_Session_int_i6⟩ (ifAt 6 Try.f147) ∧ True) by kernel_rfl) ⟨(f_slices_BinarySearchFunc_Session_int_i6Ok hX), trivial⟩)).1 (by decide) (by decide) f_slices_BinarySearchFunc_Session_int_l3Eq
theorem f_slices_BinarySearchFunc_Session_intEq (x : Ps ins147) : evF en147 su147 Try.f147 ins147 res147 x = f_slices_BinarySearchFunc_Session_int x := by kernel_rfl
theorem so147 : Sound Try.prog 147 sg147 :=
  sound_of (fn := Try.f147) (c := bodyOf Try.f147) (subs := su147) (E := en147) (by kernel_rfl) (by kernel_rfl) (by decide) ok147 (by kernel_rfl) (by kernel_rfl) (by decide)
    (fun X hX => (GoodN.good (K := True) (Eq.mpr (show GoodN Try.prog X 49 en147 su147 (bodyOf Try.f147) True = (SubOk Try.prog X 49 ⟨f_slices_BinarySearchFunc_Session_int_l3c, f_slices_BinarySearchFunc_Session_int_l3v, f_slices_BinarySearchFunc_Session_int_l3e, loopF f_slices_BinarySearchFunc_Session_int_l3⟩ (.loop (loopAt 3 Try.f147)) ∧ True) by kernel_rfl) ⟨(f_slices_BinarySearchFunc_Session_int_l3Ok hX), trivial⟩)).1)
    (fun x r h => (f_slices_BinarySearchFunc_Session_intEq x).trans h)
def fl114 : List (Nat × Sig) := [(147, sg147), (148, sg148)]
def en114 : Env := { n := 14, ty := assocN tyL, fns := assocN fl114, lo := 1 }
def su114 : Bool → Nat → Option Sub | _, _ => none
theorem ok114 : EnvOk Try.prog en114 := envOk_of rfl rfl tyL_ok (⟨so147, ⟨so148, trivial⟩⟩)
theorem f_impl_KvState_sessionAtEq (x : Ps ins114) : evF en114 su114 Try.f114 ins114 res114 x = f_impl_KvState_sessionAt x := by kernel_rfl
theorem so114 : Sound Try.prog 114 sg114 :=
  sound_of (fn := Try.f114) (c := bodyOf Try.f114) (subs := su114) (E := en114) (by kernel_rfl) (by kernel_rfl) (by decide) ok114 (by kernel_rfl) (by kernel_rfl) (by decide)
    (fun X hX => (GoodN.good (K := True) (Eq.mpr (show GoodN Try.prog X 14 en114 su114 (bodyOf Try.f114) True = (True) by kernel_rfl) trivial)).1)
    (fun x r h => (f_impl_KvState_sessionAtEq x).trans h)
def fl161 : List (Nat × Sig) := []
def en161 : Env := { n := 6, ty := assocN tyL, fns := assocN fl161, lo := 0 }
def su161 : Bool → Nat → Option Sub | _, _ => none
theorem ok161 : EnvOk Try.prog en161 := envOk_of rfl rfl tyL_ok (trivial)
theorem f_cmp_isNaN_stringEq (x : Ps ins161) : evF en161 su161 Try.f161 ins161 res161 x = f_cmp_isNaN_string x := by kernel_rfl
theorem so161 : Sound Try.prog 161 sg161 :=
  sound_of (fn := Try.f161) (c := bodyOf Try.f161) (subs := su161) (E := en161) (by kernel_rfl) (by kernel_rfl) (by decide) ok161 (by kernel_rfl) (by kernel_rfl) (by decide)
    (fun X hX => (GoodN.good (K := True) (Eq.mpr (show GoodN Try.prog X 6 en161 su161 (bodyOf Try.f161) True = (True) by kernel_rfl) trivial)).1)
    (fun x r h => (f_cmp_isNaN_stringEq x).trans h)
def fl144 : List (Nat × Sig) := [(161, sg161)]
def en144 : Env := { n := 20, ty := assocN tyL, fns := assocN fl144, lo := 0 }
def su144 : Bool → Nat → Option Sub | _, _ => none
theorem ok144 : EnvOk Try.prog en144 := envOk_of rfl rfl tyL_ok (⟨so161, trivial⟩)
theorem f_cmp_Compare_stringEq (x : Ps ins144) : evF en144 su144 Try.f144 ins144 res144 x = f_cmp_Compare_string x := by kernel_rfl
theorem so144 : Sound Try.prog 144 sg144 :=
  sound_of (fn := Try.f144) (c := bodyOf Try.f144) (subs := su144) (E := en144) (by kernel_rfl) (by kernel_rfl) (by decide) ok144 (by kernel_rfl) (by kernel_rfl) (by decide)
    (fun X hX => (GoodN.good (K := True) (Eq.mpr (show GoodN Try.prog X 20 en144 su144 (bodyOf Try.f144) True = (True) by kernel_rfl) trivial)).1)
    (fun x r h => (f_cmp_Compare_stringEq x).trans h)
def fl143 : List (Nat × Sig) := [(144, sg144)]
def en143 : Env := { n := 9, ty := assocN tyL, fns := assocN fl143, lo := 0 }
def su143 : Bool → Nat → Option Sub | _, _ => none
theorem ok143 : EnvOk Try.prog en143 := envOk_of rfl rfl tyL_ok (⟨so144, trivial⟩)
theorem f_impl_KvState_cellAt_1Eq (x : Ps ins143) : evF en143 su143 Try.f143 ins143 res143 x = f_impl_KvState_cellAt_1 x := by kernel_rfl
theorem so143 : Sound Try.prog 143 sg143 :=
  sound_of (fn := Try.f143) (c := bodyOf Try.f143) (subs := su143) (E := en143) (by kernel_rfl) (by kernel_rfl) (by decide) ok143 (by kernel_rfl) (by kernel_rfl) (by decide)
    (fun X hX => (GoodN.good (K := True) (Eq.mpr (show GoodN Try.prog X 9 en143 su143 (bodyOf Try.f143) True = (True) by kernel_rfl) trivial)).1)
    (fun x r h => (f_impl_KvState_cellAt_1Eq x).trans h)
def fl142 : List (Nat × Sig) := []
def en142 : Env := { n := 49, ty := assocN tyL, fns := assocN fl142, lo := 0 }
def su142 : Bool → Nat → Option Sub | false, 6 => some ⟨f_slices_BinarySearchFunc_Pair_string_i6c, f_slices_BinarySearchFunc_Pair_string_i6v, f_slices_BinarySearchFunc_Pair_string_i6e, f_slices_BinarySearchFunc_Pair_string_i6⟩ | true, 3 => some ⟨f_slices_BinarySearchFunc_Pair_string_l3c, f_slices_BinarySearchFunc_Pair_string_l3v, f_slices_BinarySearchFunc_Pair_string_l3e, loopF f_slices_BinarySearchFunc_Pair_string_l3⟩ | _, _ => none
theorem ok142 : EnvOk Try.prog en142 := envOk_of rfl rfl tyL_ok (trivial)
def su142i6 : Bool → Nat → Option Sub | true, 3 => some ⟨f_slices_BinarySearchFunc_Pair_string_l3c, f_slices_BinarySearchFunc_Pair_string_l3v, f_slices_BinarySearchFunc_Pair_string_l3e, loopF f_slices_BinarySearchFunc_Pair_string_l3⟩ | _, _ => none
theorem f_slices_BinarySearchFunc_Pair_string_i6Eq (R : Type) (c : Vars f_slices_BinarySearchFunc_Pair_string_i6c) (v : Vars f_slices_BinarySearchFunc_Pair_string_i6v) (kk : Vars f_slices_BinarySearchFunc_Pair_string_i6c → Oc f_slices_BinarySearchFunc_Pair_string_i6e → Option R) : evC en142 su142i6 (ifAt 6 Try.f142) (Desc.mk2 f_slices_BinarySearchFunc_Pair_string_i6v v (Desc.mk2 f_slices_BinarySearchFunc_Pair_string_i6c c .empty)) (fun o => chk f_slices_BinarySearchFunc_Pair_string_i6c f_slices_BinarySearchFunc_Pair_string_i6e o kk) = f_slices_BinarySearchFunc_Pair_string_i6 R c v kk := by kernel_rfl
theorem f_slices_BinarySearchFunc_Pair_string_i6Ok {X : Cx} (hX : en142.lo = X.lo) : SubOk Try.prog X 49 ⟨f_slices_BinarySearchFunc_Pair_string_i6c, f_slices_BinarySearchFunc_Pair_string_i6v, f_slices_BinarySearchFunc_Pair_string_i6e, f_slices_BinarySearchFunc_Pair_string_i6⟩ (ifAt 6 Try.f142) :=
  sub_if (u := ⟨f_slices_BinarySearchFunc_Pair_string_i6c, f_slices_BinarySearchFunc_Pair_string_i6v, f_slices_BinarySearchFunc_Pair_string_i6e, f_slices_BinarySearchFunc_Pair_string_i6⟩) (subs := su142i6) ok142 rfl hX (GoodN.good (K := True) (Eq.mpr (show GoodN Try.prog X 49 en142 su142i6 (ifAt 6 Try.f142) True = (True) by kernel_rfl) trivial)).1 (by decide) (by decide) f_slices_BinarySearchFunc_Pair_string_i6Eq
theorem f_slices_BinarySearchFunc_Pair_string_l3Eq (R : Type) (c : Vars f_slices_BinarySearchFunc_Pair_string_l3c) (v : Vars f_slices_BinarySearchFunc_Pair_string_l3v) (kk : Vars f_slices_BinarySearchFunc_Pair_string_l3c → (Vars f_slices_BinarySearchFunc_Pair_string_l3v ⊕ Oc f_slices_BinarySearchFunc_Pair_string_l3e) → Option R) : evC en142 su142 (loopAt 3 Try.f142) (Desc.mk2 f_slices_BinarySearchFunc_Pair_string_l3v v (Desc.mk2 f_slices_BinarySearchFunc_Pair_string_l3c c .empty)) (fun o => bodyK f_slices_BinarySearchFunc_Pair_string_l3c f_slices_BinarySearchFunc_Pair_string_l3v f_slices_BinarySearchFunc_Pair_string_l3e o kk) = f_slices_BinarySearchFunc_Pair_string_l3 R c v kk := by kernel_rfl
theorem f_slices_BinarySearchFunc_Pair_string_l3Ok {X : Cx} (hX : en142.lo = X.lo) : SubOk Try.prog X 49 ⟨f_slices_BinarySearchFunc_Pair_string_l3c, f_slices_BinarySearchFunc_Pair_string_l3v, f_slices_BinarySearchFunc_Pair_string_l3e, loopF f_slices_BinarySearchFunc_Pair_string_l3⟩ (.loop (loopAt 3 Try.f142)) :=
  sub_loop (subs := su142) ok142 rfl hX (GoodN.good (K := True) (Eq.mpr (show GoodN Try.prog X 49 en142 su142 (loopAt 3 Try.f142) True = (SubOk Try.prog X 49 ⟨f_slices_BinarySearchFunc_Pair_string_i6c, f_slices_BinarySearchFunc_Pair_string_i6v, f_slices_BinarySearchFunc_Pair_string_i6e, f_slices_BinarySearchFunc_Pair_string_i6⟩ (ifAt 6 Try.f142) ∧ True) by kernel_rfl) ⟨(f_slices_BinarySearchFunc_Pair_string_i6Ok hX), trivial⟩)).1 (by decide) (by decide) f_slices_BinarySearchFunc_Pair_string_l3Eq
theorem f_slices_BinarySearchFunc_Pair_stringEq (x : Ps ins142) : evF en142 su142 Try.f142 ins142 res142 x = f_slices_BinarySearchFunc_Pair_string x := by kernel_rfl
theorem so142 : Sound Try.prog 142 sg142 :=
  sound_of (fn := Try.f142) (c := bodyOf Try.f142) (subs := su142) (E := en142) (by kernel_rfl) (by kernel_rfl) (by decide) ok142 (by kernel_rfl) (by kernel_rfl) (by decide)
    (fun X hX => (GoodN.good (K := True) (Eq.mpr (show GoodN Try.prog X 49 en142 su142 (bodyOf Try.f142) True = (SubOk Try.prog X 49 ⟨f_slices_BinarySearchFunc_Pair_string_l3c, f_slices_BinarySearchFunc_Pair_string_l3v, f_slices_BinarySearchFunc_Pair_string_l3e, loopF f_slices_BinarySearchFunc_Pair_string_l3⟩ (.loop (loopAt 3 Try.f142)) ∧ True) by kernel_rfl) ⟨(f_slices_BinarySearchFunc_Pair_string_l3Ok hX), trivial⟩)).1)
    (fun x r h => (f_slices_BinarySearchFunc_Pair_stringEq x).trans h)
def fl107 : List (Nat × Sig) := [(142, sg142), (143, sg143)]
def en107 : Env := { n := 14, ty := assocN tyL, fns := assocN fl107, lo := 1 }
def su107 : Bool → Nat → Option Sub | _, _ => none
theorem ok107 : EnvOk Try.prog en107 := envOk_of rfl rfl tyL_ok (⟨so142, ⟨so143, trivial⟩⟩)
theorem f_impl_KvState_cellAtEq (x : Ps ins107) : evF en107 su107 Try.f107 ins107 res107 x = f_impl_KvState_cellAt x := by kernel_rfl
theorem so107 : Sound Try.prog 107 sg107 :=
  sound_of (fn := Try.f107) (c := bodyOf Try.f107) (subs := su107) (E := en107) (by kernel_rfl) (by kernel_rfl) (by decide) ok107 (by kernel_rfl) (by kernel_rfl) (by decide)
    (fun X hX => (GoodN.good (K := True) (Eq.mpr (show GoodN Try.prog X 14 en107 su107 (bodyOf Try.f107) True = (True) by kernel_rfl) trivial)).1)
    (fun x r h => (f_impl_KvState_cellAtEq x).trans h)
def fl116 : List (Nat × Sig) := [(107, sg107), (151, sgf_slices_Insert kdPair), (152, sgf_slices_Delete kdPair)]
def dw116 : List (Nat × List (List Nat)) := [(8, [[], [], [0, 51], [0, 52], [0, 53], [], [3, 55], [3, 56], [3, 57], [3, 58], [59], [60], [0, 60, 61], [0, 62], [0, 63], [0, 61]])]
def en116 : Env := { n := 117, ty := assocN tyL, fns := assocN fl116, lo := 1, draw := drawOf dw116 }
def su116 : Bool → Nat → Option Sub | _, _ => none
theorem ok116 : EnvOk Try.prog en116 := envOk_of rfl rfl tyL_ok (⟨so107, ⟨soInsert151, ⟨soDelete152, trivial⟩⟩⟩)
theorem dr116r3 {X : Cx} (hX : en116.lo = X.lo) : RegOk Try.prog X 117 en116 3 (regAt 3 Try.f116) := regOk_of ok116 rfl hX (by kernel_rfl) (by kernel_rfl)
theorem dr116r8 {X : Cx} (hX : en116.lo = X.lo) : RegOk Try.prog X 117 en116 8 (regAt 8 Try.f116) := regOk_of ok116 rfl hX (by kernel_rfl) (by kernel_rfl)
theorem dr116r20 {X : Cx} (hX : en116.lo = X.lo) : RegOk Try.prog X 117 en116 20 (regAt 20 Try.f116) := regOk_of ok116 rfl hX (by kernel_rfl) (by kernel_rfl)
theorem f_impl_KvState_doEq (x : Ps ins116) : evF en116 su116 Try.f116 ins116 res116 x = f_impl_KvState_do x := by kernel_rfl
theorem so116 : Sound Try.prog 116 sg116 :=
  sound_of (fn := Try.f116) (c := bodyOf Try.f116) (subs := su116) (E := en116) (by kernel_rfl) (by kernel_rfl) (by decide) ok116 (by kernel_rfl) (by kernel_rfl) (by decide)
    (fun X hX => (GoodN.good (K := True) (Eq.mpr (show GoodN Try.prog X 117 en116 su116 (bodyOf Try.f116) True = (RegOk Try.prog X 117 en116 3 (regAt 3 Try.f116) ∧ RegOk Try.prog X 117 en116 8 (regAt 8 Try.f116) ∧ RegOk Try.prog X 117 en116 20 (regAt 20 Try.f116) ∧ True) by kernel_rfl) ⟨(dr116r3 hX), (dr116r8 hX), (dr116r20 hX), trivial⟩)).1)
    (fun x r h => (f_impl_KvState_doEq x).trans h)
def fl68 : List (Nat × Sig) := [(58, sg58), (114, sg114), (115, sgf_slices_Insert kdSession), (116, sg116)]
def dw68 : List (Nat × List (List Nat)) := [(11, [[], [], [0, 75], [0, 76], [0, 77], [], [3, 79], [3, 80], [81], [82], [0, 82, 83], [0, 84], [0, 85], [0, 83]]), (13, [[], [0, 90], [0, 91], [0, 92], [], [], [0, 95], [0, 96], [0, 97], [], [3, 99], [3, 100], [7, 101], [0, 102], [0, 103], [0], [0, 104], [0, 105], [0]])]
def en68 : Env := { n := 107, ty := assocN tyL, fns := assocN fl68, lo := 1, draw := drawOf dw68 }
def su68 : Bool → Nat → Option Sub | false, 11 => some ⟨f_impl_KvState_apply_i11c, f_impl_KvState_apply_i11v, f_impl_KvState_apply_i11e, f_impl_KvState_apply_i11⟩ | _, _ => none
theorem ok68 : EnvOk Try.prog en68 := envOk_of rfl rfl tyL_ok (⟨so58, ⟨so114, ⟨soInsert115, ⟨so116, trivial⟩⟩⟩⟩)
theorem dr68r6 {X : Cx} (hX : en68.lo = X.lo) : RegOk Try.prog X 107 en68 6 (regAt 6 Try.f68) := regOk_of ok68 rfl hX (by kernel_rfl) (by kernel_rfl)
theorem dr68r8 {X : Cx} (hX : en68.lo = X.lo) : RegOk Try.prog X 107 en68 8 (regAt 8 Try.f68) := regOk_of ok68 rfl hX (by kernel_rfl) (by kernel_rfl)
theorem dr68r11 {X : Cx} (hX : en68.lo = X.lo) : RegOk Try.prog X 107 en68 11 (regAt 11 Try.f68) := regOk_of ok68 rfl hX (by kernel_rfl) (by kernel_rfl)
theorem dr68r13 {X : Cx} (hX : en68.lo = X.lo) : RegOk Try.prog X 107 en68 13 (regAt 13 Try.f68) := regOk_of ok68 rfl hX (by kernel_rfl) (by kernel_rfl)
def su68i11 : Bool → Nat → Option Sub | _, _ => none
theorem f_impl_KvState_apply_i11Eq (R : Type) (c : Vars f_impl_KvState_apply_i11c) (v : Vars f_impl_KvState_apply_i11v) (kk : Vars f_impl_KvState_apply_i11c → Oc f_impl_KvState_apply_i11e → Option R) : evC en68 su68i11 (ifAt 11 Try.f68) (Desc.mk2 f_impl_KvState_apply_i11v v (Desc.mk2 f_impl_KvState_apply_i11c c .empty)) (fun o => chk f_impl_KvState_apply_i11c f_impl_KvState_apply_i11e o kk) = f_impl_KvState_apply_i11 R c v kk := by kernel_rfl
theorem f_impl_KvState_apply_i11Ok {X : Cx} (hX : en68.lo = X.lo) : SubOk Try.prog X 107 ⟨f_impl_KvState_apply_i11c, f_impl_KvState_apply_i11v, f_impl_KvState_apply_i11e, f_impl_KvState_apply_i11⟩ (ifAt 11 Try.f68) :=
  sub_if (u := ⟨f_impl_KvState_apply_i11c, f_impl_KvState_apply_i11v, f_impl_KvState_apply_i11e, f_impl_KvState_apply_i11⟩) (subs := su68i11) ok68 rfl hX (GoodN.good (K := True) (Eq.mpr (show GoodN Try.prog X 107 en68 su68i11 (ifAt 11 Try.f68) True = (RegOk Try.prog X 107 en68 11 (regAt 11 Try.f68) ∧ True) by kernel_rfl) ⟨(dr68r11 hX), trivial⟩)).1 (by decide) (by decide) f_impl_KvState_apply_i11Eq
theorem f_impl_KvState_applyEq (x : Ps ins68) : evF en68 su68 Try.f68 ins68 res68 x = f_impl_KvState_apply x := by kernel_rfl
theorem so68 : Sound Try.prog 68 sg68 :=
  sound_of (fn := Try.f68) (c := bodyOf Try.f68) (subs := su68) (E := en68) (by kernel_rfl) (by kernel_rfl) (by decide) ok68 (by kernel_rfl) (by kernel_rfl) (by decide)
    (fun X hX => (GoodN.good (K := True) (Eq.mpr (show GoodN Try.prog X 107 en68 su68 (bodyOf Try.f68) True = (RegOk Try.prog X 107 en68 6 (regAt 6 Try.f68) ∧ RegOk Try.prog X 107 en68 8 (regAt 8 Try.f68) ∧ SubOk Try.prog X 107 ⟨f_impl_KvState_apply_i11c, f_impl_KvState_apply_i11v, f_impl_KvState_apply_i11e, f_impl_KvState_apply_i11⟩ (ifAt 11 Try.f68) ∧ RegOk Try.prog X 107 en68 13 (regAt 13 Try.f68) ∧ True) by kernel_rfl) ⟨(dr68r6 hX), (dr68r8 hX), (f_impl_KvState_apply_i11Ok hX), (dr68r13 hX), trivial⟩)).1)
    (fun x r h => (f_impl_KvState_applyEq x).trans h)
def fl22 : List (Nat × Sig) := [(68, sg68)]
def hi22 : List (Nat × (K × Mk)) := [(3, ((.sl kdReply), (.o .s))), (6, ((.sl kdReply), (.o .s)))]
def en22 : Env := { n := 29, ty := assocN tyL, fns := assocN fl22, lo := 0, hint := assocN hi22 }
def su22 : Bool → Nat → Option Sub | true, 5 => some ⟨f_impl_FoldCommands_l5c, f_impl_FoldCommands_l5v, f_impl_FoldCommands_l5e, loopF f_impl_FoldCommands_l5⟩ | _, _ => none
theorem ok22 : EnvOk Try.prog en22 := envOk_of rfl rfl tyL_ok (⟨so68, trivial⟩)
theorem f_impl_FoldCommands_l5Eq (R : Type) (c : Vars f_impl_FoldCommands_l5c) (v : Vars f_impl_FoldCommands_l5v) (kk : Vars f_impl_FoldCommands_l5c → (Vars f_impl_FoldCommands_l5v ⊕ Oc f_impl_FoldCommands_l5e) → Option R) : evC en22 su22 (loopAt 5 Try.f22) (Desc.mk2 f_impl_FoldCommands_l5v v (Desc.mk2 f_impl_FoldCommands_l5c c .empty)) (fun o => bodyK f_impl_FoldCommands_l5c f_impl_FoldCommands_l5v f_impl_FoldCommands_l5e o kk) = f_impl_FoldCommands_l5 R c v kk := by kernel_rfl
theorem f_impl_FoldCommands_l5Ok {X : Cx} (hX : en22.lo = X.lo) : SubOk Try.prog X 29 ⟨f_impl_FoldCommands_l5c, f_impl_FoldCommands_l5v, f_impl_FoldCommands_l5e, loopF f_impl_FoldCommands_l5⟩ (.loop (loopAt 5 Try.f22)) :=
  sub_loop (subs := su22) ok22 rfl hX (GoodN.good (K := True) (Eq.mpr (show GoodN Try.prog X 29 en22 su22 (loopAt 5 Try.f22) True = (True) by kernel_rfl) trivial)).1 (by decide) (by decide) f_impl_FoldCommands_l5Eq
theorem f_impl_FoldCommandsEq (x : Ps ins22) : evF en22 su22 Try.f22 ins22 res22 x = f_impl_FoldCommands x := by kernel_rfl
theorem so22 : Sound Try.prog 22 sg22 :=
  sound_of (fn := Try.f22) (c := bodyOf Try.f22) (subs := su22) (E := en22) (by kernel_rfl) (by kernel_rfl) (by decide) ok22 (by kernel_rfl) (by kernel_rfl) (by decide)
    (fun X hX => (GoodN.good (K := True) (Eq.mpr (show GoodN Try.prog X 29 en22 su22 (bodyOf Try.f22) True = (SubOk Try.prog X 29 ⟨f_impl_FoldCommands_l5c, f_impl_FoldCommands_l5v, f_impl_FoldCommands_l5e, loopF f_impl_FoldCommands_l5⟩ (.loop (loopAt 5 Try.f22)) ∧ True) by kernel_rfl) ⟨(f_impl_FoldCommands_l5Ok hX), trivial⟩)).1)
    (fun x r h => (f_impl_FoldCommandsEq x).trans h)
def fl103 : List (Nat × Sig) := []
def en103 : Env := { n := 36, ty := assocN tyL, fns := assocN fl103, lo := 0 }
def su103 : Bool → Nat → Option Sub | true, 2 => some ⟨f_spec_l14Session_l2c, f_spec_l14Session_l2v, f_spec_l14Session_l2e, loopF f_spec_l14Session_l2⟩ | _, _ => none
theorem ok103 : EnvOk Try.prog en103 := envOk_of rfl rfl tyL_ok (trivial)
theorem dr103r4 {X : Cx} (hX : en103.lo = X.lo) : RegOk Try.prog X 36 en103 4 (regAt 4 Try.f103) := regOk_of ok103 rfl hX (by kernel_rfl) (by kernel_rfl)
theorem f_spec_l14Session_l2Eq (R : Type) (c : Vars f_spec_l14Session_l2c) (v : Vars f_spec_l14Session_l2v) (kk : Vars f_spec_l14Session_l2c → (Vars f_spec_l14Session_l2v ⊕ Oc f_spec_l14Session_l2e) → Option R) : evC en103 su103 (loopAt 2 Try.f103) (Desc.mk2 f_spec_l14Session_l2v v (Desc.mk2 f_spec_l14Session_l2c c .empty)) (fun o => bodyK f_spec_l14Session_l2c f_spec_l14Session_l2v f_spec_l14Session_l2e o kk) = f_spec_l14Session_l2 R c v kk := by kernel_rfl
theorem f_spec_l14Session_l2Ok {X : Cx} (hX : en103.lo = X.lo) : SubOk Try.prog X 36 ⟨f_spec_l14Session_l2c, f_spec_l14Session_l2v, f_spec_l14Session_l2e, loopF f_spec_l14Session_l2⟩ (.loop (loopAt 2 Try.f103)) :=
  sub_loop (subs := su103) ok103 rfl hX (GoodN.good (K := True) (Eq.mpr (show GoodN Try.prog X 36 en103 su103 (loopAt 2 Try.f103) True = (True) by kernel_rfl) trivial)).1 (by decide) (by decide) f_spec_l14Session_l2Eq
theorem f_spec_l14SessionEq (x : Ps ins103) : evF en103 su103 Try.f103 ins103 res103 x = f_spec_l14Session x := by kernel_rfl
theorem so103 : Sound Try.prog 103 sg103 :=
  sound_of (fn := Try.f103) (c := bodyOf Try.f103) (subs := su103) (E := en103) (by kernel_rfl) (by kernel_rfl) (by decide) ok103 (by kernel_rfl) (by kernel_rfl) (by decide)
    (fun X hX => (GoodN.good (K := True) (Eq.mpr (show GoodN Try.prog X 36 en103 su103 (bodyOf Try.f103) True = (SubOk Try.prog X 36 ⟨f_spec_l14Session_l2c, f_spec_l14Session_l2v, f_spec_l14Session_l2e, loopF f_spec_l14Session_l2⟩ (.loop (loopAt 2 Try.f103)) ∧ RegOk Try.prog X 36 en103 4 (regAt 4 Try.f103) ∧ True) by kernel_rfl) ⟨(f_spec_l14Session_l2Ok hX), (dr103r4 hX), trivial⟩)).1)
    (fun x r h => (f_spec_l14SessionEq x).trans h)
def fl140 : List (Nat × Sig) := []
def en140 : Env := { n := 36, ty := assocN tyL, fns := assocN fl140, lo := 0 }
def su140 : Bool → Nat → Option Sub | true, 2 => some ⟨f_spec_l14Cell_l2c, f_spec_l14Cell_l2v, f_spec_l14Cell_l2e, loopF f_spec_l14Cell_l2⟩ | _, _ => none
theorem ok140 : EnvOk Try.prog en140 := envOk_of rfl rfl tyL_ok (trivial)
theorem dr140r4 {X : Cx} (hX : en140.lo = X.lo) : RegOk Try.prog X 36 en140 4 (regAt 4 Try.f140) := regOk_of ok140 rfl hX (by kernel_rfl) (by kernel_rfl)
theorem f_spec_l14Cell_l2Eq (R : Type) (c : Vars f_spec_l14Cell_l2c) (v : Vars f_spec_l14Cell_l2v) (kk : Vars f_spec_l14Cell_l2c → (Vars f_spec_l14Cell_l2v ⊕ Oc f_spec_l14Cell_l2e) → Option R) : evC en140 su140 (loopAt 2 Try.f140) (Desc.mk2 f_spec_l14Cell_l2v v (Desc.mk2 f_spec_l14Cell_l2c c .empty)) (fun o => bodyK f_spec_l14Cell_l2c f_spec_l14Cell_l2v f_spec_l14Cell_l2e o kk) = f_spec_l14Cell_l2 R c v kk := by kernel_rfl
theorem f_spec_l14Cell_l2Ok {X : Cx} (hX : en140.lo = X.lo) : SubOk Try.prog X 36 ⟨f_spec_l14Cell_l2c, f_spec_l14Cell_l2v, f_spec_l14Cell_l2e, loopF f_spec_l14Cell_l2⟩ (.loop (loopAt 2 Try.f140)) :=
  sub_loop (subs := su140) ok140 rfl hX (GoodN.good (K := True) (Eq.mpr (show GoodN Try.prog X 36 en140 su140 (loopAt 2 Try.f140) True = (True) by kernel_rfl) trivial)).1 (by decide) (by decide) f_spec_l14Cell_l2Eq
theorem f_spec_l14CellEq (x : Ps ins140) : evF en140 su140 Try.f140 ins140 res140 x = f_spec_l14Cell x := by kernel_rfl
theorem so140 : Sound Try.prog 140 sg140 :=
  sound_of (fn := Try.f140) (c := bodyOf Try.f140) (subs := su140) (E := en140) (by kernel_rfl) (by kernel_rfl) (by decide) ok140 (by kernel_rfl) (by kernel_rfl) (by decide)
    (fun X hX => (GoodN.good (K := True) (Eq.mpr (show GoodN Try.prog X 36 en140 su140 (bodyOf Try.f140) True = (SubOk Try.prog X 36 ⟨f_spec_l14Cell_l2c, f_spec_l14Cell_l2v, f_spec_l14Cell_l2e, loopF f_spec_l14Cell_l2⟩ (.loop (loopAt 2 Try.f140)) ∧ RegOk Try.prog X 36 en140 4 (regAt 4 Try.f140) ∧ True) by kernel_rfl) ⟨(f_spec_l14Cell_l2Ok hX), (dr140r4 hX), trivial⟩)).1)
    (fun x r h => (f_spec_l14CellEq x).trans h)
def fl141 : List (Nat × Sig) := [(140, sg140)]
def hi141 : List (Nat × (K × Mk)) := [(4, ((.sl kdPair), (.o .s))), (7, ((.sl kdPair), (.o .s)))]
def en141 : Env := { n := 32, ty := assocN tyL, fns := assocN fl141, lo := 0, hint := assocN hi141 }
def su141 : Bool → Nat → Option Sub | false, 6 => some ⟨f_spec_l14Put_i6c, f_spec_l14Put_i6v, f_spec_l14Put_i6e, f_spec_l14Put_i6⟩ | _, _ => none
theorem ok141 : EnvOk Try.prog en141 := envOk_of rfl rfl tyL_ok (⟨so140, trivial⟩)
def su141i6 : Bool → Nat → Option Sub | _, _ => none
theorem f_spec_l14Put_i6Eq (R : Type) (c : Vars f_spec_l14Put_i6c) (v : Vars f_spec_l14Put_i6v) (kk : Vars f_spec_l14Put_i6c → Oc f_spec_l14Put_i6e → Option R) : evC en141 su141i6 (ifAt 6 Try.f141) (Desc.mk2 f_spec_l14Put_i6v v (Desc.mk2 f_spec_l14Put_i6c c .empty)) (fun o => chk f_spec_l14Put_i6c f_spec_l14Put_i6e o kk) = f_spec_l14Put_i6 R c v kk := by kernel_rfl
theorem f_spec_l14Put_i6Ok {X : Cx} (hX : en141.lo = X.lo) : SubOk Try.prog X 32 ⟨f_spec_l14Put_i6c, f_spec_l14Put_i6v, f_spec_l14Put_i6e, f_spec_l14Put_i6⟩ (ifAt 6 Try.f141) :=
  sub_if (u := ⟨f_spec_l14Put_i6c, f_spec_l14Put_i6v, f_spec_l14Put_i6e, f_spec_l14Put_i6⟩) (subs := su141i6) ok141 rfl hX (GoodN.good (K := True) (Eq.mpr (show GoodN Try.prog X 32 en141 su141i6 (ifAt 6 Try.f141) True = (True) by kernel_rfl) trivial)).1 (by decide) (by decide) f_spec_l14Put_i6Eq
theorem f_spec_l14PutEq (x : Ps ins141) : evF en141 su141 Try.f141 ins141 res141 x = f_spec_l14Put x := by kernel_rfl
theorem so141 : Sound Try.prog 141 sg141 :=
  sound_of (fn := Try.f141) (c := bodyOf Try.f141) (subs := su141) (E := en141) (by kernel_rfl) (by kernel_rfl) (by decide) ok141 (by kernel_rfl) (by kernel_rfl) (by decide)
    (fun X hX => (GoodN.good (K := True) (Eq.mpr (show GoodN Try.prog X 32 en141 su141 (bodyOf Try.f141) True = (SubOk Try.prog X 32 ⟨f_spec_l14Put_i6c, f_spec_l14Put_i6v, f_spec_l14Put_i6e, f_spec_l14Put_i6⟩ (ifAt 6 Try.f141) ∧ True) by kernel_rfl) ⟨(f_spec_l14Put_i6Ok hX), trivial⟩)).1)
    (fun x r h => (f_spec_l14PutEq x).trans h)
def fl104 : List (Nat × Sig) := [(140, sg140), (141, sg141)]
def hi104 : List (Nat × (K × Mk)) := [(4, ((.sl kdPair), (.o .s)))]
def dw104 : List (Nat × List (List Nat)) := [(12, [[56], [], [], [59], [60], [], [], [63], [64], [60, 65], [], [67], [4, 65], [5]])]
def en104 : Env := { n := 84, ty := assocN tyL, fns := assocN fl104, lo := 0, hint := assocN hi104, draw := drawOf dw104 }
def su104 : Bool → Nat → Option Sub | _, _ => none
theorem ok104 : EnvOk Try.prog en104 := envOk_of rfl rfl tyL_ok (⟨so140, ⟨so141, trivial⟩⟩)
theorem dr104r12 {X : Cx} (hX : en104.lo = X.lo) : RegOk Try.prog X 84 en104 12 (regAt 12 Try.f104) := regOk_of ok104 rfl hX (by kernel_rfl) (by kernel_rfl)
theorem f_spec_l14DoEq (x : Ps ins104) : evF en104 su104 Try.f104 ins104 res104 x = f_spec_l14Do x := by kernel_rfl
theorem so104 : Sound Try.prog 104 sg104 :=
  sound_of (fn := Try.f104) (c := bodyOf Try.f104) (subs := su104) (E := en104) (by kernel_rfl) (by kernel_rfl) (by decide) ok104 (by kernel_rfl) (by kernel_rfl) (by decide)
    (fun X hX => (GoodN.good (K := True) (Eq.mpr (show GoodN Try.prog X 84 en104 su104 (bodyOf Try.f104) True = (RegOk Try.prog X 84 en104 12 (regAt 12 Try.f104) ∧ True) by kernel_rfl) ⟨(dr104r12 hX), trivial⟩)).1)
    (fun x r h => (f_spec_l14DoEq x).trans h)
def fl50 : List (Nat × Sig) := [(61, sg61), (103, sg103), (104, sg104)]
def hi50 : List (Nat × (K × Mk)) := [(8, ((.sl kdPair), (.o .s))), (10, ((.sl kdSession), (.o .s)))]
def dw50 : List (Nat × List (List Nat)) := [(5, [[2, 48], [2, 49], [2, 50], [], [52], [53], [54], [4], [5]]), (16, [[2, 104], [9, 105], [2, 4], [5]])]
def en50 : Env := { n := 106, ty := assocN tyL, fns := assocN fl50, lo := 0, hint := assocN hi50, draw := drawOf dw50 }
def su50 : Bool → Nat → Option Sub | false, 14 => some ⟨f_spec_l14Apply_i14c, f_spec_l14Apply_i14v, f_spec_l14Apply_i14e, f_spec_l14Apply_i14⟩ | _, _ => none
theorem ok50 : EnvOk Try.prog en50 := envOk_of rfl rfl tyL_ok (⟨so61, ⟨so103, ⟨so104, trivial⟩⟩⟩)
theorem dr50r4 {X : Cx} (hX : en50.lo = X.lo) : RegOk Try.prog X 106 en50 4 (regAt 4 Try.f50) := regOk_of ok50 rfl hX (by kernel_rfl) (by kernel_rfl)
theorem dr50r5 {X : Cx} (hX : en50.lo = X.lo) : RegOk Try.prog X 106 en50 5 (regAt 5 Try.f50) := regOk_of ok50 rfl hX (by kernel_rfl) (by kernel_rfl)
theorem dr50r6 {X : Cx} (hX : en50.lo = X.lo) : RegOk Try.prog X 106 en50 6 (regAt 6 Try.f50) := regOk_of ok50 rfl hX (by kernel_rfl) (by kernel_rfl)
theorem dr50r16 {X : Cx} (hX : en50.lo = X.lo) : RegOk Try.prog X 106 en50 16 (regAt 16 Try.f50) := regOk_of ok50 rfl hX (by kernel_rfl) (by kernel_rfl)
def su50i14 : Bool → Nat → Option Sub | _, _ => none
theorem f_spec_l14Apply_i14Eq (R : Type) (c : Vars f_spec_l14Apply_i14c) (v : Vars f_spec_l14Apply_i14v) (kk : Vars f_spec_l14Apply_i14c → Oc f_spec_l14Apply_i14e → Option R) : evC en50 su50i14 (ifAt 14 Try.f50) (Desc.mk2 f_spec_l14Apply_i14v v (Desc.mk2 f_spec_l14Apply_i14c c .empty)) (fun o => chk f_spec_l14Apply_i14c f_spec_l14Apply_i14e o kk) = f_spec_l14Apply_i14 R c v kk := by kernel_rfl
theorem f_spec_l14Apply_i14Ok {X : Cx} (hX : en50.lo = X.lo) : SubOk Try.prog X 106 ⟨f_spec_l14Apply_i14c, f_spec_l14Apply_i14v, f_spec_l14Apply_i14e, f_spec_l14Apply_i14⟩ (ifAt 14 Try.f50) :=
  sub_if (u := ⟨f_spec_l14Apply_i14c, f_spec_l14Apply_i14v, f_spec_l14Apply_i14e, f_spec_l14Apply_i14⟩) (subs := su50i14) ok50 rfl hX (GoodN.good (K := True) (Eq.mpr (show GoodN Try.prog X 106 en50 su50i14 (ifAt 14 Try.f50) True = (True) by kernel_rfl) trivial)).1 (by decide) (by decide) f_spec_l14Apply_i14Eq
theorem f_spec_l14ApplyEq (x : Ps ins50) : evF en50 su50 Try.f50 ins50 res50 x = f_spec_l14Apply x := by kernel_rfl
theorem so50 : Sound Try.prog 50 sg50 :=
  sound_of (fn := Try.f50) (c := bodyOf Try.f50) (subs := su50) (E := en50) (by kernel_rfl) (by kernel_rfl) (by decide) ok50 (by kernel_rfl) (by kernel_rfl) (by decide)
    (fun X hX => (GoodN.good (K := True) (Eq.mpr (show GoodN Try.prog X 106 en50 su50 (bodyOf Try.f50) True = (RegOk Try.prog X 106 en50 4 (regAt 4 Try.f50) ∧ RegOk Try.prog X 106 en50 5 (regAt 5 Try.f50) ∧ RegOk Try.prog X 106 en50 6 (regAt 6 Try.f50) ∧ SubOk Try.prog X 106 ⟨f_spec_l14Apply_i14c, f_spec_l14Apply_i14v, f_spec_l14Apply_i14e, f_spec_l14Apply_i14⟩ (ifAt 14 Try.f50) ∧ RegOk Try.prog X 106 en50 16 (regAt 16 Try.f50) ∧ True) by kernel_rfl) ⟨(dr50r4 hX), (dr50r5 hX), (dr50r6 hX), (f_spec_l14Apply_i14Ok hX), (dr50r16 hX), trivial⟩)).1)
    (fun x r h => (f_spec_l14ApplyEq x).trans h)
def fl69 : List (Nat × Sig) := []
def en69 : Env := { n := 14, ty := assocN tyL, fns := assocN fl69, lo := 0 }
def su69 : Bool → Nat → Option Sub | _, _ => none
theorem ok69 : EnvOk Try.prog en69 := envOk_of rfl rfl tyL_ok (trivial)
theorem f_spec_l14OwnEq (x : Ps ins69) : evF en69 su69 Try.f69 ins69 res69 x = f_spec_l14Own x := by kernel_rfl
theorem so69 : Sound Try.prog 69 sg69 :=
  sound_of (fn := Try.f69) (c := bodyOf Try.f69) (subs := su69) (E := en69) (by kernel_rfl) (by kernel_rfl) (by decide) ok69 (by kernel_rfl) (by kernel_rfl) (by decide)
    (fun X hX => (GoodN.good (K := True) (Eq.mpr (show GoodN Try.prog X 14 en69 su69 (bodyOf Try.f69) True = (True) by kernel_rfl) trivial)).1)
    (fun x r h => (f_spec_l14OwnEq x).trans h)
def fl23 : List (Nat × Sig) := [(50, sg50), (69, sg69)]
def hi23 : List (Nat × (K × Mk)) := [(3, ((.sl kdReply), (.o .s))), (6, ((.sl kdReply), (.o .s)))]
def en23 : Env := { n := 37, ty := assocN tyL, fns := assocN fl23, lo := 0, hint := assocN hi23, frz := frzOf [(3, [5])] }
def su23 : Bool → Nat → Option Sub | true, 6 => some ⟨f_spec_FoldCommands_l6c, f_spec_FoldCommands_l6v, f_spec_FoldCommands_l6e, loopF f_spec_FoldCommands_l6⟩ | _, _ => none
theorem ok23 : EnvOk Try.prog en23 := envOk_of rfl rfl tyL_ok (⟨so50, ⟨so69, trivial⟩⟩)
theorem f_spec_FoldCommands_l6Eq (R : Type) (c : Vars f_spec_FoldCommands_l6c) (v : Vars f_spec_FoldCommands_l6v) (kk : Vars f_spec_FoldCommands_l6c → (Vars f_spec_FoldCommands_l6v ⊕ Oc f_spec_FoldCommands_l6e) → Option R) : evC en23 su23 (loopAt 6 Try.f23) (Desc.mk2 f_spec_FoldCommands_l6v v (Desc.mk2 f_spec_FoldCommands_l6c c .empty)) (fun o => bodyK f_spec_FoldCommands_l6c f_spec_FoldCommands_l6v f_spec_FoldCommands_l6e o kk) = f_spec_FoldCommands_l6 R c v kk := by kernel_rfl
theorem f_spec_FoldCommands_l6Ok {X : Cx} (hX : en23.lo = X.lo) : SubOk Try.prog X 37 ⟨f_spec_FoldCommands_l6c, f_spec_FoldCommands_l6v, f_spec_FoldCommands_l6e, loopF f_spec_FoldCommands_l6⟩ (.loop (loopAt 6 Try.f23)) :=
  sub_loop (subs := su23) ok23 rfl hX (GoodN.good (K := True) (Eq.mpr (show GoodN Try.prog X 37 en23 su23 (loopAt 6 Try.f23) True = (True) by kernel_rfl) trivial)).1 (by decide) (by decide) f_spec_FoldCommands_l6Eq
theorem f_spec_FoldCommandsEq (x : Ps ins23) : evF en23 su23 Try.f23 ins23 res23 x = f_spec_FoldCommands x := by kernel_rfl
theorem so23 : Sound Try.prog 23 sg23 :=
  sound_of (fn := Try.f23) (c := bodyOf Try.f23) (subs := su23) (E := en23) (by kernel_rfl) (by kernel_rfl) (by decide) ok23 (by kernel_rfl) (by kernel_rfl) (by decide)
    (fun X hX => (GoodN.good (K := True) (Eq.mpr (show GoodN Try.prog X 37 en23 su23 (bodyOf Try.f23) True = (SubOk Try.prog X 37 ⟨f_spec_FoldCommands_l6c, f_spec_FoldCommands_l6v, f_spec_FoldCommands_l6e, loopF f_spec_FoldCommands_l6⟩ (.loop (loopAt 6 Try.f23)) ∧ True) by kernel_rfl) ⟨(f_spec_FoldCommands_l6Ok hX), trivial⟩)).1)
    (fun x r h => (f_spec_FoldCommandsEq x).trans h)
def fl25 : List (Nat × Sig) := []
def en25 : Env := { n := 26, ty := assocN tyL, fns := assocN fl25, lo := 0 }
def su25 : Bool → Nat → Option Sub | true, 4 => some ⟨f_laws_samePairs_l4c, f_laws_samePairs_l4v, f_laws_samePairs_l4e, loopF f_laws_samePairs_l4⟩ | _, _ => none
theorem ok25 : EnvOk Try.prog en25 := envOk_of rfl rfl tyL_ok (trivial)
theorem dr25r6 {X : Cx} (hX : en25.lo = X.lo) : RegOk Try.prog X 26 en25 6 (regAt 6 Try.f25) := regOk_of ok25 rfl hX (by kernel_rfl) (by kernel_rfl)
theorem f_laws_samePairs_l4Eq (R : Type) (c : Vars f_laws_samePairs_l4c) (v : Vars f_laws_samePairs_l4v) (kk : Vars f_laws_samePairs_l4c → (Vars f_laws_samePairs_l4v ⊕ Oc f_laws_samePairs_l4e) → Option R) : evC en25 su25 (loopAt 4 Try.f25) (Desc.mk2 f_laws_samePairs_l4v v (Desc.mk2 f_laws_samePairs_l4c c .empty)) (fun o => bodyK f_laws_samePairs_l4c f_laws_samePairs_l4v f_laws_samePairs_l4e o kk) = f_laws_samePairs_l4 R c v kk := by kernel_rfl
theorem f_laws_samePairs_l4Ok {X : Cx} (hX : en25.lo = X.lo) : SubOk Try.prog X 26 ⟨f_laws_samePairs_l4c, f_laws_samePairs_l4v, f_laws_samePairs_l4e, loopF f_laws_samePairs_l4⟩ (.loop (loopAt 4 Try.f25)) :=
  sub_loop (subs := su25) ok25 rfl hX (GoodN.good (K := True) (Eq.mpr (show GoodN Try.prog X 26 en25 su25 (loopAt 4 Try.f25) True = (RegOk Try.prog X 26 en25 6 (regAt 6 Try.f25) ∧ True) by kernel_rfl) ⟨(dr25r6 hX), trivial⟩)).1 (by decide) (by decide) f_laws_samePairs_l4Eq
theorem f_laws_samePairsEq (x : Ps ins25) : evF en25 su25 Try.f25 ins25 res25 x = f_laws_samePairs x := by kernel_rfl
theorem so25 : Sound Try.prog 25 sg25 :=
  sound_of (fn := Try.f25) (c := bodyOf Try.f25) (subs := su25) (E := en25) (by kernel_rfl) (by kernel_rfl) (by decide) ok25 (by kernel_rfl) (by kernel_rfl) (by decide)
    (fun X hX => (GoodN.good (K := True) (Eq.mpr (show GoodN Try.prog X 26 en25 su25 (bodyOf Try.f25) True = (SubOk Try.prog X 26 ⟨f_laws_samePairs_l4c, f_laws_samePairs_l4v, f_laws_samePairs_l4e, loopF f_laws_samePairs_l4⟩ (.loop (loopAt 4 Try.f25)) ∧ True) by kernel_rfl) ⟨(f_laws_samePairs_l4Ok hX), trivial⟩)).1)
    (fun x r h => (f_laws_samePairsEq x).trans h)
def fl24 : List (Nat × Sig) := [(25, sg25)]
def en24 : Env := { n := 39, ty := assocN tyL, fns := assocN fl24, lo := 0 }
def su24 : Bool → Nat → Option Sub | true, 4 => some ⟨f_laws_sameStates_l4c, f_laws_sameStates_l4v, f_laws_sameStates_l4e, loopF f_laws_sameStates_l4⟩ | _, _ => none
theorem ok24 : EnvOk Try.prog en24 := envOk_of rfl rfl tyL_ok (⟨so25, trivial⟩)
theorem dr24r6 {X : Cx} (hX : en24.lo = X.lo) : RegOk Try.prog X 39 en24 6 (regAt 6 Try.f24) := regOk_of ok24 rfl hX (by kernel_rfl) (by kernel_rfl)
theorem f_laws_sameStates_l4Eq (R : Type) (c : Vars f_laws_sameStates_l4c) (v : Vars f_laws_sameStates_l4v) (kk : Vars f_laws_sameStates_l4c → (Vars f_laws_sameStates_l4v ⊕ Oc f_laws_sameStates_l4e) → Option R) : evC en24 su24 (loopAt 4 Try.f24) (Desc.mk2 f_laws_sameStates_l4v v (Desc.mk2 f_laws_sameStates_l4c c .empty)) (fun o => bodyK f_laws_sameStates_l4c f_laws_sameStates_l4v f_laws_sameStates_l4e o kk) = f_laws_sameStates_l4 R c v kk := by kernel_rfl
theorem f_laws_sameStates_l4Ok {X : Cx} (hX : en24.lo = X.lo) : SubOk Try.prog X 39 ⟨f_laws_sameStates_l4c, f_laws_sameStates_l4v, f_laws_sameStates_l4e, loopF f_laws_sameStates_l4⟩ (.loop (loopAt 4 Try.f24)) :=
  sub_loop (subs := su24) ok24 rfl hX (GoodN.good (K := True) (Eq.mpr (show GoodN Try.prog X 39 en24 su24 (loopAt 4 Try.f24) True = (RegOk Try.prog X 39 en24 6 (regAt 6 Try.f24) ∧ True) by kernel_rfl) ⟨(dr24r6 hX), trivial⟩)).1 (by decide) (by decide) f_laws_sameStates_l4Eq
theorem f_laws_sameStatesEq (x : Ps ins24) : evF en24 su24 Try.f24 ins24 res24 x = f_laws_sameStates x := by kernel_rfl
theorem so24 : Sound Try.prog 24 sg24 :=
  sound_of (fn := Try.f24) (c := bodyOf Try.f24) (subs := su24) (E := en24) (by kernel_rfl) (by kernel_rfl) (by decide) ok24 (by kernel_rfl) (by kernel_rfl) (by decide)
    (fun X hX => (GoodN.good (K := True) (Eq.mpr (show GoodN Try.prog X 39 en24 su24 (bodyOf Try.f24) True = (SubOk Try.prog X 39 ⟨f_laws_sameStates_l4c, f_laws_sameStates_l4v, f_laws_sameStates_l4e, loopF f_laws_sameStates_l4⟩ (.loop (loopAt 4 Try.f24)) ∧ True) by kernel_rfl) ⟨(f_laws_sameStates_l4Ok hX), trivial⟩)).1)
    (fun x r h => (f_laws_sameStatesEq x).trans h)
def fl4 : List (Nat × Sig) := [(17, sg17), (18, sg18), (19, sg19), (20, sg20), (21, sg21), (22, sg22), (23, sg23), (24, sg24), (25, sg25)]
def hi4 : List (Nat × (K × Mk)) := [(12, ((.sl kdCommand), (.o .s))), (14, ((.sl kdReply), (.o .s))), (17, ((.sl kdReply), (.o .s))), (20, ((.sl (.int .i64)), (.o .s))), (24, ((.sl kdReply), (.o .s)))]
def en4 : Env := { n := 177, ty := assocN tyL, fns := assocN fl4, lo := 0, hint := assocN hi4 }
def su4 : Bool → Nat → Option Sub | false, 9 => some ⟨f_laws_FnCommands_i9c, f_laws_FnCommands_i9v, f_laws_FnCommands_i9e, f_laws_FnCommands_i9⟩ | true, 20 => some ⟨f_laws_FnCommands_l20c, f_laws_FnCommands_l20v, f_laws_FnCommands_l20e, loopF f_laws_FnCommands_l20⟩ | true, 35 => some ⟨f_laws_FnCommands_l35c, f_laws_FnCommands_l35v, f_laws_FnCommands_l35e, loopF f_laws_FnCommands_l35⟩ | false, 34 => some ⟨f_laws_FnCommands_i34c, f_laws_FnCommands_i34v, f_laws_FnCommands_i34e, f_laws_FnCommands_i34⟩ | true, 28 => some ⟨f_laws_FnCommands_l28c, f_laws_FnCommands_l28v, f_laws_FnCommands_l28e, loopF f_laws_FnCommands_l28⟩ | _, _ => none
theorem ok4 : EnvOk Try.prog en4 := envOk_of rfl rfl tyL_ok (⟨so17, ⟨so18, ⟨so19, ⟨so20, ⟨so21, ⟨so22, ⟨so23, ⟨so24, ⟨so25, trivial⟩⟩⟩⟩⟩⟩⟩⟩⟩)
theorem dr4r22 {X : Cx} (hX : en4.lo = X.lo) : RegOk Try.prog X 177 en4 22 (regAt 22 Try.f4) := regOk_of ok4 rfl hX (by kernel_rfl) (by kernel_rfl)
theorem dr4r37 {X : Cx} (hX : en4.lo = X.lo) : RegOk Try.prog X 177 en4 37 (regAt 37 Try.f4) := regOk_of ok4 rfl hX (by kernel_rfl) (by kernel_rfl)
def su4i9 : Bool → Nat → Option Sub | true, 20 => some ⟨f_laws_FnCommands_l20c, f_laws_FnCommands_l20v, f_laws_FnCommands_l20e, loopF f_laws_FnCommands_l20⟩ | true, 35 => some ⟨f_laws_FnCommands_l35c, f_laws_FnCommands_l35v, f_laws_FnCommands_l35e, loopF f_laws_FnCommands_l35⟩ | false, 34 => some ⟨f_laws_FnCommands_i34c, f_laws_FnCommands_i34v, f_laws_FnCommands_i34e, f_laws_FnCommands_i34⟩ | true, 28 => some ⟨f_laws_FnCommands_l28c, f_laws_FnCommands_l28v, f_laws_FnCommands_l28e, loopF f_laws_FnCommands_l28⟩ | _, _ => none
theorem f_laws_FnCommands_i9Eq (R : Type) (c : Vars f_laws_FnCommands_i9c) (v : Vars f_laws_FnCommands_i9v) (kk : Vars f_laws_FnCommands_i9c → Oc f_laws_FnCommands_i9e → Option R) : evC en4 su4i9 (ifAt 9 Try.f4) (Desc.mk2 f_laws_FnCommands_i9v v (Desc.mk2 f_laws_FnCommands_i9c c .empty)) (fun o => chk f_laws_FnCommands_i9c f_laws_FnCommands_i9e o kk) = f_laws_FnCommands_i9 R c v kk := by kernel_rfl
theorem f_laws_FnCommands_i9Ok {X : Cx} (hX : en4.lo = X.lo) : SubOk Try.prog X 177 ⟨f_laws_FnCommands_i9c, f_laws_FnCommands_i9v, f_laws_FnCommands_i9e, f_laws_FnCommands_i9⟩ (ifAt 9 Try.f4) :=
  sub_if (u := ⟨f_laws_FnCommands_i9c, f_laws_FnCommands_i9v, f_laws_FnCommands_i9e, f_laws_FnCommands_i9⟩) (subs := su4i9) ok4 rfl hX (GoodN.good (K := True) (Eq.mpr (show GoodN Try.prog X 177 en4 su4i9 (ifAt 9 Try.f4) True = (True) by kernel_rfl) trivial)).1 (by decide) (by decide) f_laws_FnCommands_i9Eq
theorem f_laws_FnCommands_l20Eq (R : Type) (c : Vars f_laws_FnCommands_l20c) (v : Vars f_laws_FnCommands_l20v) (kk : Vars f_laws_FnCommands_l20c → (Vars f_laws_FnCommands_l20v ⊕ Oc f_laws_FnCommands_l20e) → Option R) : evC en4 su4 (loopAt 20 Try.f4) (Desc.mk2 f_laws_FnCommands_l20v v (Desc.mk2 f_laws_FnCommands_l20c c .empty)) (fun o => bodyK f_laws_FnCommands_l20c f_laws_FnCommands_l20v f_laws_FnCommands_l20e o kk) = f_laws_FnCommands_l20 R c v kk := by kernel_rfl
theorem f_laws_FnCommands_l20Ok {X : Cx} (hX : en4.lo = X.lo) : SubOk Try.prog X 177 ⟨f_laws_FnCommands_l20c, f_laws_FnCommands_l20v, f_laws_FnCommands_l20e, loopF f_laws_FnCommands_l20⟩ (.loop (loopAt 20 Try.f4)) :=
  sub_loop (subs := su4) ok4 rfl hX (GoodN.good (K := True) (Eq.mpr (show GoodN Try.prog X 177 en4 su4 (loopAt 20 Try.f4) True = (RegOk Try.prog X 177 en4 22 (regAt 22 Try.f4) ∧ True) by kernel_rfl) ⟨(dr4r22 hX), trivial⟩)).1 (by decide) (by decide) f_laws_FnCommands_l20Eq
theorem f_laws_FnCommands_l35Eq (R : Type) (c : Vars f_laws_FnCommands_l35c) (v : Vars f_laws_FnCommands_l35v) (kk : Vars f_laws_FnCommands_l35c → (Vars f_laws_FnCommands_l35v ⊕ Oc f_laws_FnCommands_l35e) → Option R) : evC en4 su4 (loopAt 35 Try.f4) (Desc.mk2 f_laws_FnCommands_l35v v (Desc.mk2 f_laws_FnCommands_l35c c .empty)) (fun o => bodyK f_laws_FnCommands_l35c f_laws_FnCommands_l35v f_laws_FnCommands_l35e o kk) = f_laws_FnCommands_l35 R c v kk := by kernel_rfl
theorem f_laws_FnCommands_l35Ok {X : Cx} (hX : en4.lo = X.lo) : SubOk Try.prog X 177 ⟨f_laws_FnCommands_l35c, f_laws_FnCommands_l35v, f_laws_FnCommands_l35e, loopF f_laws_FnCommands_l35⟩ (.loop (loopAt 35 Try.f4)) :=
  sub_loop (subs := su4) ok4 rfl hX (GoodN.good (K := True) (Eq.mpr (show GoodN Try.prog X 177 en4 su4 (loopAt 35 Try.f4) True = (RegOk Try.prog X 177 en4 37 (regAt 37 Try.f4) ∧ True) by kernel_rfl) ⟨(dr4r37 hX), trivial⟩)).1 (by decide) (by decide) f_laws_FnCommands_l35Eq
def su4i34 : Bool → Nat → Option Sub | false, 9 => some ⟨f_laws_FnCommands_i9c, f_laws_FnCommands_i9v, f_laws_FnCommands_i9e, f_laws_FnCommands_i9⟩ | true, 20 => some ⟨f_laws_FnCommands_l20c, f_laws_FnCommands_l20v, f_laws_FnCommands_l20e, loopF f_laws_FnCommands_l20⟩ | true, 35 => some ⟨f_laws_FnCommands_l35c, f_laws_FnCommands_l35v, f_laws_FnCommands_l35e, loopF f_laws_FnCommands_l35⟩ | true, 28 => some ⟨f_laws_FnCommands_l28c, f_laws_FnCommands_l28v, f_laws_FnCommands_l28e, loopF f_laws_FnCommands_l28⟩ | _, _ => none
theorem f_laws_FnCommands_i34Eq (R : Type) (c : Vars f_laws_FnCommands_i34c) (v : Vars f_laws_FnCommands_i34v) (kk : Vars f_laws_FnCommands_i34c → Oc f_laws_FnCommands_i34e → Option R) : evC en4 su4i34 (ifAt 34 Try.f4) (Desc.mk2 f_laws_FnCommands_i34v v (Desc.mk2 f_laws_FnCommands_i34c c .empty)) (fun o => chk f_laws_FnCommands_i34c f_laws_FnCommands_i34e o kk) = f_laws_FnCommands_i34 R c v kk := by kernel_rfl
theorem f_laws_FnCommands_i34Ok {X : Cx} (hX : en4.lo = X.lo) : SubOk Try.prog X 177 ⟨f_laws_FnCommands_i34c, f_laws_FnCommands_i34v, f_laws_FnCommands_i34e, f_laws_FnCommands_i34⟩ (ifAt 34 Try.f4) :=
  sub_if (u := ⟨f_laws_FnCommands_i34c, f_laws_FnCommands_i34v, f_laws_FnCommands_i34e, f_laws_FnCommands_i34⟩) (subs := su4i34) ok4 rfl hX (GoodN.good (K := True) (Eq.mpr (show GoodN Try.prog X 177 en4 su4i34 (ifAt 34 Try.f4) True = (SubOk Try.prog X 177 ⟨f_laws_FnCommands_l35c, f_laws_FnCommands_l35v, f_laws_FnCommands_l35e, loopF f_laws_FnCommands_l35⟩ (.loop (loopAt 35 Try.f4)) ∧ True) by kernel_rfl) ⟨(f_laws_FnCommands_l35Ok hX), trivial⟩)).1 (by decide) (by decide) f_laws_FnCommands_i34Eq
theorem f_laws_FnCommands_l28Eq (R : Type) (c : Vars f_laws_FnCommands_l28c) (v : Vars f_laws_FnCommands_l28v) (kk : Vars f_laws_FnCommands_l28c → (Vars f_laws_FnCommands_l28v ⊕ Oc f_laws_FnCommands_l28e) → Option R) : evC en4 su4 (loopAt 28 Try.f4) (Desc.mk2 f_laws_FnCommands_l28v v (Desc.mk2 f_laws_FnCommands_l28c c .empty)) (fun o => bodyK f_laws_FnCommands_l28c f_laws_FnCommands_l28v f_laws_FnCommands_l28e o kk) = f_laws_FnCommands_l28 R c v kk := by kernel_rfl
theorem f_laws_FnCommands_l28Ok {X : Cx} (hX : en4.lo = X.lo) : SubOk Try.prog X 177 ⟨f_laws_FnCommands_l28c, f_laws_FnCommands_l28v, f_laws_FnCommands_l28e, loopF f_laws_FnCommands_l28⟩ (.loop (loopAt 28 Try.f4)) :=
  sub_loop (subs := su4) ok4 rfl hX (GoodN.good (K := True) (Eq.mpr (show GoodN Try.prog X 177 en4 su4 (loopAt 28 Try.f4) True = (SubOk Try.prog X 177 ⟨f_laws_FnCommands_i34c, f_laws_FnCommands_i34v, f_laws_FnCommands_i34e, f_laws_FnCommands_i34⟩ (ifAt 34 Try.f4) ∧ True) by kernel_rfl) ⟨(f_laws_FnCommands_i34Ok hX), trivial⟩)).1 (by decide) (by decide) f_laws_FnCommands_l28Eq
theorem f_laws_FnCommandsEq (x : Ps ins4) : evF en4 su4 Try.f4 ins4 res4 x = f_laws_FnCommands x := by kernel_rfl
theorem so4 : Sound Try.prog 4 sg4 :=
  sound_of (fn := Try.f4) (c := bodyOf Try.f4) (subs := su4) (E := en4) (by kernel_rfl) (by kernel_rfl) (by decide) ok4 (by kernel_rfl) (by kernel_rfl) (by decide)
    (fun X hX => (GoodN.good (K := True) (Eq.mpr (show GoodN Try.prog X 177 en4 su4 (bodyOf Try.f4) True = (SubOk Try.prog X 177 ⟨f_laws_FnCommands_i9c, f_laws_FnCommands_i9v, f_laws_FnCommands_i9e, f_laws_FnCommands_i9⟩ (ifAt 9 Try.f4) ∧ SubOk Try.prog X 177 ⟨f_laws_FnCommands_l20c, f_laws_FnCommands_l20v, f_laws_FnCommands_l20e, loopF f_laws_FnCommands_l20⟩ (.loop (loopAt 20 Try.f4)) ∧ SubOk Try.prog X 177 ⟨f_laws_FnCommands_l28c, f_laws_FnCommands_l28v, f_laws_FnCommands_l28e, loopF f_laws_FnCommands_l28⟩ (.loop (loopAt 28 Try.f4)) ∧ True) by kernel_rfl) ⟨(f_laws_FnCommands_i9Ok hX), (f_laws_FnCommands_l20Ok hX), (f_laws_FnCommands_l28Ok hX), trivial⟩)).1)
    (fun x r h => (f_laws_FnCommandsEq x).trans h)
end Go.Proofs.Ytogmfilmfkepfaa
