/- The typed functions are what the program's code says. (Printed by a program of mine, wip/tools/gen.py.) -/
import Derived.Test.YtogmfilmfkepfaaProg
import Derived.Test.YtogmfilmfkepfaaR6Fns
set_option linter.all false
set_option maxRecDepth 100000
noncomputable section
namespace Go.Proofs.Ytogmfilmfkepfaa
open Go Go.Proofs.Ytogmfilmfkepfaa.Ev
theorem ty3 : TyOk Try.prog 3 (.int .i64) := ⟨⟨by kernel_rfl, by kernel_rfl⟩, by kernel_rfl⟩
theorem ty9 : TyOk Try.prog 9 .str := ⟨⟨by kernel_rfl, by kernel_rfl⟩, by kernel_rfl⟩
theorem ty69 : TyOk Try.prog 69 (.int .u32) := ⟨⟨by kernel_rfl, by kernel_rfl⟩, by kernel_rfl⟩
theorem ty71 : TyOk Try.prog 71 kdChunk := ty_struct (f := (⟨ "File", 3, 0, false, "", "", 0⟩ : Field)) (l := [(⟨ "At", 3, 1, false, "", "", 8⟩ : Field), (⟨ "Data", 9, 2, false, "", "", 16⟩ : Field), (⟨ "Sum", 69, 3, false, "", "", 32⟩ : Field)]) ⟨by kernel_rfl, by kernel_rfl⟩ (by kernel_rfl) (by kernel_rfl) ⟨rfl, by decide, ty3, ⟨rfl, by decide, ty3, ⟨rfl, by decide, ty9, ⟨rfl, by decide, ty69, rfl⟩⟩⟩⟩
theorem ty88 : TyOk Try.prog 88 kdWanted := ty_struct (f := (⟨ "Size", 3, 0, false, "", "", 0⟩ : Field)) (l := [(⟨ "Sum", 69, 1, false, "", "", 8⟩ : Field)]) ⟨by kernel_rfl, by kernel_rfl⟩ (by kernel_rfl) (by kernel_rfl) ⟨rfl, by decide, ty3, ⟨rfl, by decide, ty69, rfl⟩⟩
theorem ty73 : TyOk Try.prog 73 (.sl kdWanted) := ty_sl ⟨by kernel_rfl, by kernel_rfl⟩ (by kernel_rfl) ty88
theorem ty64 : TyOk Try.prog 64 (.sl kdChunk) := ty_sl ⟨by kernel_rfl, by kernel_rfl⟩ (by kernel_rfl) ty71
theorem ty75 : TyOk Try.prog 75 kdTaking := ty_struct (f := (⟨ "Want", 73, 0, false, "", "", 0⟩ : Field)) (l := [(⟨ "Got", 64, 1, false, "", "", 24⟩ : Field)]) ⟨by kernel_rfl, by kernel_rfl⟩ (by kernel_rfl) (by kernel_rfl) ⟨rfl, by decide, ty73, ⟨rfl, by decide, ty64, rfl⟩⟩
theorem ty5 : TyOk Try.prog 5 (.int .u8) := ⟨⟨by kernel_rfl, by kernel_rfl⟩, by kernel_rfl⟩
theorem ty34 : TyOk Try.prog 34 (.sl (.int .u8)) := ty_sl ⟨by kernel_rfl, by kernel_rfl⟩ (by kernel_rfl) ty5
theorem ty110 : TyOk Try.prog 110 (.int .u64) := ⟨⟨by kernel_rfl, by kernel_rfl⟩, by kernel_rfl⟩
theorem ty112 : TyOk Try.prog 112 kdl1Cur := ty_struct (f := (⟨ "code", 34, 0, false, "", "loop.example/g00224/spec", 0⟩ : Field)) (l := [(⟨ "at", 3, 1, false, "", "loop.example/g00224/spec", 24⟩ : Field), (⟨ "seed", 110, 2, false, "", "loop.example/g00224/spec", 32⟩ : Field)]) ⟨by kernel_rfl, by kernel_rfl⟩ (by kernel_rfl) (by kernel_rfl) ⟨rfl, by decide, ty34, ⟨rfl, by decide, ty3, ⟨rfl, by decide, ty110, rfl⟩⟩⟩
theorem ty4 : TyOk Try.prog 4 .bool := ⟨⟨by kernel_rfl, by kernel_rfl⟩, by kernel_rfl⟩
theorem ty68 : TyOk Try.prog 68 (.sl .bool) := ty_sl ⟨by kernel_rfl, by kernel_rfl⟩ (by kernel_rfl) ty4
theorem ty24 : TyOk Try.prog 24 (.sl (.int .i64)) := ty_sl ⟨by kernel_rfl, by kernel_rfl⟩ (by kernel_rfl) ty3
theorem ty58 : TyOk Try.prog 58 (.sl .str) := ty_sl ⟨by kernel_rfl, by kernel_rfl⟩ (by kernel_rfl) ty9
theorem ty186 : TyOk Try.prog 186 (.sl (.int .u32)) := ty_sl ⟨by kernel_rfl, by kernel_rfl⟩ (by kernel_rfl) ty69
theorem ty132 : TyOk Try.prog 132 (.int .u64) := ⟨⟨by kernel_rfl, by kernel_rfl⟩, by kernel_rfl⟩
def tyL : List (Nat × K) := [(3, (.int .i64)), (9, .str), (69, (.int .u32)), (71, kdChunk), (88, kdWanted), (73, (.sl kdWanted)), (64, (.sl kdChunk)), (75, kdTaking), (5, (.int .u8)), (34, (.sl (.int .u8))), (110, (.int .u64)), (112, kdl1Cur), (4, .bool), (68, (.sl .bool)), (24, (.sl (.int .i64))), (58, (.sl .str)), (186, (.sl (.int .u32))), (132, (.int .u64))]
theorem tyL_ok : AllTy Try.prog tyL := ⟨ty3, ⟨ty9, ⟨ty69, ⟨ty71, ⟨ty88, ⟨ty73, ⟨ty64, ⟨ty75, ⟨ty5, ⟨ty34, ⟨ty110, ⟨ty112, ⟨ty4, ⟨ty68, ⟨ty24, ⟨ty58, ⟨ty186, ⟨ty132, trivial⟩⟩⟩⟩⟩⟩⟩⟩⟩⟩⟩⟩⟩⟩⟩⟩⟩⟩
def rn123 : Go.Shelf.Ren where
  f := fun x => match x with | 22 => 123 | 29 => 153 | 30 => 154 | n => n
  t := fun x => match x with | 9 => 71 | 24 => 64 | n => n
  g := fun x => x
theorem soInsert123 : Sound Try.prog 123 (sgf_slices_Insert kdChunk) := sound_Insert (ρ := rn123)
  { mixed := by kernel_rfl, f22 := ⟨Try.f123.name, by decide, by kernel_rfl⟩, f29 := ⟨Try.f153, by kernel_rfl, by kernel_rfl, by kernel_rfl, by kernel_rfl, by kernel_rfl⟩, t0 := Try.underlying0, a0 := Try.isAgg0, z0 := Try.sizeOf0, v0 := Try.zeroValue0
    t3 := ty3, t4 := ty4, t9 := ty71, t24 := Try.underlying64, t24k := ty64, fl := by decide, ne := by decide, nb := by decide }
def fl121 : List (Nat × Sig) := []
def en121 : Env := { n := 62, ty := assocN tyL, fns := assocN fl121, lo := 1 }
def su121 : Bool → Nat → Option Sub | false, 3 => some ⟨f_spec_l1Cur_next_i3c, f_spec_l1Cur_next_i3v, f_spec_l1Cur_next_i3e, f_spec_l1Cur_next_i3⟩ | _, _ => none
theorem ok121 : EnvOk Try.prog en121 := envOk_of rfl rfl tyL_ok (trivial)
theorem dr121r2 {X : Cx} (hX : en121.lo = X.lo) : RegOk Try.prog X 62 en121 2 (regAt 2 Try.f121) := regOk_of ok121 rfl hX (by kernel_rfl) (by kernel_rfl)
theorem dr121r3 {X : Cx} (hX : en121.lo = X.lo) : RegOk Try.prog X 62 en121 3 (regAt 3 Try.f121) := regOk_of ok121 rfl hX (by kernel_rfl) (by kernel_rfl)
theorem dr121r6 {X : Cx} (hX : en121.lo = X.lo) : RegOk Try.prog X 62 en121 6 (regAt 6 Try.f121) := regOk_of ok121 rfl hX (by kernel_rfl) (by kernel_rfl)
def su121i3 : Bool → Nat → Option Sub | _, _ => none
theorem f_spec_l1Cur_next_i3Eq (R : Type) (c : Vars f_spec_l1Cur_next_i3c) (v : Vars f_spec_l1Cur_next_i3v) (kk : Vars f_spec_l1Cur_next_i3c → Oc f_spec_l1Cur_next_i3e → Option R) : evC en121 su121i3 (ifAt 3 Try.f121) (Desc.mk2 f_spec_l1Cur_next_i3v v (Desc.mk2 f_spec_l1Cur_next_i3c c .empty)) (fun o => chk f_spec_l1Cur_next_i3c f_spec_l1Cur_next_i3e o kk) = f_spec_l1Cur_next_i3 R c v kk := by kernel_rfl
theorem f_spec_l1Cur_next_i3Ok {X : Cx} (hX : en121.lo = X.lo) : SubOk Try.prog X 62 ⟨f_spec_l1Cur_next_i3c, f_spec_l1Cur_next_i3v, f_spec_l1Cur_next_i3e, f_spec_l1Cur_next_i3⟩ (ifAt 3 Try.f121) :=
  sub_if (u := ⟨f_spec_l1Cur_next_i3c, f_spec_l1Cur_next_i3v, f_spec_l1Cur_next_i3e, f_spec_l1Cur_next_i3⟩) (subs := su121i3) ok121 rfl hX (GoodN.good (K := True) (Eq.mpr (show GoodN Try.prog X 62 en121 su121i3 (ifAt 3 Try.f121) True = (RegOk Try.prog X 62 en121 3 (regAt 3 Try.f121) ∧ True) by kernel_rfl) ⟨(dr121r3 hX), trivial⟩)).1 (by decide) (by decide) f_spec_l1Cur_next_i3Eq
theorem f_spec_l1Cur_nextEq (x : Ps ins121) : evF en121 su121 Try.f121 ins121 res121 x = f_spec_l1Cur_next x := by kernel_rfl
theorem so121 : Sound Try.prog 121 sg121 :=
  sound_of (fn := Try.f121) (c := bodyOf Try.f121) (subs := su121) (E := en121) (by kernel_rfl) (by kernel_rfl) (by decide) ok121 (by kernel_rfl) (by kernel_rfl) (by decide)
    (fun X hX => (GoodN.good (K := True) (Eq.mpr (show GoodN Try.prog X 62 en121 su121 (bodyOf Try.f121) True = (RegOk Try.prog X 62 en121 2 (regAt 2 Try.f121) ∧ SubOk Try.prog X 62 ⟨f_spec_l1Cur_next_i3c, f_spec_l1Cur_next_i3v, f_spec_l1Cur_next_i3e, f_spec_l1Cur_next_i3⟩ (ifAt 3 Try.f121) ∧ RegOk Try.prog X 62 en121 6 (regAt 6 Try.f121) ∧ True) by kernel_rfl) ⟨(dr121r2 hX), (f_spec_l1Cur_next_i3Ok hX), (dr121r6 hX), trivial⟩)).1)
    (fun x r h => (f_spec_l1Cur_nextEq x).trans h)
def fl78 : List (Nat × Sig) := [(121, sg121)]
def en78 : Env := { n := 20, ty := assocN tyL, fns := assocN fl78, lo := 1 }
def su78 : Bool → Nat → Option Sub | false, 5 => some ⟨f_spec_l1Cur_pick_i5c, f_spec_l1Cur_pick_i5v, f_spec_l1Cur_pick_i5e, f_spec_l1Cur_pick_i5⟩ | _, _ => none
theorem ok78 : EnvOk Try.prog en78 := envOk_of rfl rfl tyL_ok (⟨so121, trivial⟩)
def su78i5 : Bool → Nat → Option Sub | _, _ => none
theorem f_spec_l1Cur_pick_i5Eq (R : Type) (c : Vars f_spec_l1Cur_pick_i5c) (v : Vars f_spec_l1Cur_pick_i5v) (kk : Vars f_spec_l1Cur_pick_i5c → Oc f_spec_l1Cur_pick_i5e → Option R) : evC en78 su78i5 (ifAt 5 Try.f78) (Desc.mk2 f_spec_l1Cur_pick_i5v v (Desc.mk2 f_spec_l1Cur_pick_i5c c .empty)) (fun o => chk f_spec_l1Cur_pick_i5c f_spec_l1Cur_pick_i5e o kk) = f_spec_l1Cur_pick_i5 R c v kk := by kernel_rfl
theorem f_spec_l1Cur_pick_i5Ok {X : Cx} (hX : en78.lo = X.lo) : SubOk Try.prog X 20 ⟨f_spec_l1Cur_pick_i5c, f_spec_l1Cur_pick_i5v, f_spec_l1Cur_pick_i5e, f_spec_l1Cur_pick_i5⟩ (ifAt 5 Try.f78) :=
  sub_if (u := ⟨f_spec_l1Cur_pick_i5c, f_spec_l1Cur_pick_i5v, f_spec_l1Cur_pick_i5e, f_spec_l1Cur_pick_i5⟩) (subs := su78i5) ok78 rfl hX (GoodN.good (K := True) (Eq.mpr (show GoodN Try.prog X 20 en78 su78i5 (ifAt 5 Try.f78) True = (True) by kernel_rfl) trivial)).1 (by decide) (by decide) f_spec_l1Cur_pick_i5Eq
theorem f_spec_l1Cur_pickEq (x : Ps ins78) : evF en78 su78 Try.f78 ins78 res78 x = f_spec_l1Cur_pick x := by kernel_rfl
theorem so78 : Sound Try.prog 78 sg78 :=
  sound_of (fn := Try.f78) (c := bodyOf Try.f78) (subs := su78) (E := en78) (by kernel_rfl) (by kernel_rfl) (by decide) ok78 (by kernel_rfl) (by kernel_rfl) (by decide)
    (fun X hX => (GoodN.good (K := True) (Eq.mpr (show GoodN Try.prog X 20 en78 su78 (bodyOf Try.f78) True = (SubOk Try.prog X 20 ⟨f_spec_l1Cur_pick_i5c, f_spec_l1Cur_pick_i5v, f_spec_l1Cur_pick_i5e, f_spec_l1Cur_pick_i5⟩ (ifAt 5 Try.f78) ∧ True) by kernel_rfl) ⟨(f_spec_l1Cur_pick_i5Ok hX), trivial⟩)).1)
    (fun x r h => (f_spec_l1Cur_pickEq x).trans h)
def fl79 : List (Nat × Sig) := [(78, sg78)]
def en79 : Env := { n := 9, ty := assocN tyL, fns := assocN fl79, lo := 1 }
def su79 : Bool → Nat → Option Sub | _, _ => none
theorem ok79 : EnvOk Try.prog en79 := envOk_of rfl rfl tyL_ok (⟨so78, trivial⟩)
theorem f_spec_l1Cur_oneEq (x : Ps ins79) : evF en79 su79 Try.f79 ins79 res79 x = f_spec_l1Cur_one x := by kernel_rfl
theorem so79 : Sound Try.prog 79 sg79 :=
  sound_of (fn := Try.f79) (c := bodyOf Try.f79) (subs := su79) (E := en79) (by kernel_rfl) (by kernel_rfl) (by decide) ok79 (by kernel_rfl) (by kernel_rfl) (by decide)
    (fun X hX => (GoodN.good (K := True) (Eq.mpr (show GoodN Try.prog X 9 en79 su79 (bodyOf Try.f79) True = (True) by kernel_rfl) trivial)).1)
    (fun x r h => (f_spec_l1Cur_oneEq x).trans h)
def fl120 : List (Nat × Sig) := [(78, sg78)]
def en120 : Env := { n := 12, ty := assocN tyL, fns := assocN fl120, lo := 1 }
def su120 : Bool → Nat → Option Sub | _, _ => none
theorem ok120 : EnvOk Try.prog en120 := envOk_of rfl rfl tyL_ok (⟨so78, trivial⟩)
theorem f_spec_l1Cur_amongEq (x : Ps ins120) : evF en120 su120 Try.f120 ins120 res120 x = f_spec_l1Cur_among x := by kernel_rfl
theorem so120 : Sound Try.prog 120 sg120 :=
  sound_of (fn := Try.f120) (c := bodyOf Try.f120) (subs := su120) (E := en120) (by kernel_rfl) (by kernel_rfl) (by decide) ok120 (by kernel_rfl) (by kernel_rfl) (by decide)
    (fun X hX => (GoodN.good (K := True) (Eq.mpr (show GoodN Try.prog X 12 en120 su120 (bodyOf Try.f120) True = (True) by kernel_rfl) trivial)).1)
    (fun x r h => (f_spec_l1Cur_amongEq x).trans h)
def fl119 : List (Nat × Sig) := [(78, sg78)]
def hi119 : List (Nat × (K × Mk)) := [(5, ((.sl (.int .u8)), (.o .s)))]
def en119 : Env := { n := 23, ty := assocN tyL, fns := assocN fl119, lo := 1, hint := assocN hi119 }
def su119 : Bool → Nat → Option Sub | true, 3 => some ⟨f_spec_l1Cur_text_l3c, f_spec_l1Cur_text_l3v, f_spec_l1Cur_text_l3e, loopF f_spec_l1Cur_text_l3⟩ | _, _ => none
theorem ok119 : EnvOk Try.prog en119 := envOk_of rfl rfl tyL_ok (⟨so78, trivial⟩)
theorem f_spec_l1Cur_text_l3Eq (R : Type) (c : Vars f_spec_l1Cur_text_l3c) (v : Vars f_spec_l1Cur_text_l3v) (kk : Vars f_spec_l1Cur_text_l3c → (Vars f_spec_l1Cur_text_l3v ⊕ Oc f_spec_l1Cur_text_l3e) → Option R) : evC en119 su119 (loopAt 3 Try.f119) (Desc.mk2 f_spec_l1Cur_text_l3v v (Desc.mk2 f_spec_l1Cur_text_l3c c .empty)) (fun o => bodyK f_spec_l1Cur_text_l3c f_spec_l1Cur_text_l3v f_spec_l1Cur_text_l3e o kk) = f_spec_l1Cur_text_l3 R c v kk := by kernel_rfl
theorem f_spec_l1Cur_text_l3Ok {X : Cx} (hX : en119.lo = X.lo) : SubOk Try.prog X 23 ⟨f_spec_l1Cur_text_l3c, f_spec_l1Cur_text_l3v, f_spec_l1Cur_text_l3e, loopF f_spec_l1Cur_text_l3⟩ (.loop (loopAt 3 Try.f119)) :=
  sub_loop (subs := su119) ok119 rfl hX (GoodN.good (K := True) (Eq.mpr (show GoodN Try.prog X 23 en119 su119 (loopAt 3 Try.f119) True = (True) by kernel_rfl) trivial)).1 (by decide) (by decide) f_spec_l1Cur_text_l3Eq
theorem f_spec_l1Cur_textEq (x : Ps ins119) : evF en119 su119 Try.f119 ins119 res119 x = f_spec_l1Cur_text x := by kernel_rfl
theorem so119 : Sound Try.prog 119 sg119 :=
  sound_of (fn := Try.f119) (c := bodyOf Try.f119) (subs := su119) (E := en119) (by kernel_rfl) (by kernel_rfl) (by decide) ok119 (by kernel_rfl) (by kernel_rfl) (by decide)
    (fun X hX => (GoodN.good (K := True) (Eq.mpr (show GoodN Try.prog X 23 en119 su119 (bodyOf Try.f119) True = (SubOk Try.prog X 23 ⟨f_spec_l1Cur_text_l3c, f_spec_l1Cur_text_l3v, f_spec_l1Cur_text_l3e, loopF f_spec_l1Cur_text_l3⟩ (.loop (loopAt 3 Try.f119)) ∧ True) by kernel_rfl) ⟨(f_spec_l1Cur_text_l3Ok hX), trivial⟩)).1)
    (fun x r h => (f_spec_l1Cur_textEq x).trans h)
def fl77 : List (Nat × Sig) := [(78, sg78), (79, sg79), (119, sg119), (120, sg120)]
def hi77 : List (Nat × (K × Mk)) := [(2, ((.sl .str), (.o .s))), (3, ((.sl .str), (.o .s)))]
def en77 : Env := { n := 35, ty := assocN tyL, fns := assocN fl77, lo := 1, hint := assocN hi77 }
def su77 : Bool → Nat → Option Sub | false, 4 => some ⟨f_spec_l1Cur_files_i4c, f_spec_l1Cur_files_i4v, f_spec_l1Cur_files_i4e, f_spec_l1Cur_files_i4⟩ | true, 5 => some ⟨f_spec_l1Cur_files_l5c, f_spec_l1Cur_files_l5v, f_spec_l1Cur_files_l5e, loopF f_spec_l1Cur_files_l5⟩ | false, 9 => some ⟨f_spec_l1Cur_files_i9c, f_spec_l1Cur_files_i9v, f_spec_l1Cur_files_i9e, f_spec_l1Cur_files_i9⟩ | _, _ => none
theorem ok77 : EnvOk Try.prog en77 := envOk_of rfl rfl tyL_ok (⟨so78, ⟨so79, ⟨so119, ⟨so120, trivial⟩⟩⟩⟩)
def su77i4 : Bool → Nat → Option Sub | true, 5 => some ⟨f_spec_l1Cur_files_l5c, f_spec_l1Cur_files_l5v, f_spec_l1Cur_files_l5e, loopF f_spec_l1Cur_files_l5⟩ | false, 9 => some ⟨f_spec_l1Cur_files_i9c, f_spec_l1Cur_files_i9v, f_spec_l1Cur_files_i9e, f_spec_l1Cur_files_i9⟩ | _, _ => none
theorem f_spec_l1Cur_files_i4Eq (R : Type) (c : Vars f_spec_l1Cur_files_i4c) (v : Vars f_spec_l1Cur_files_i4v) (kk : Vars f_spec_l1Cur_files_i4c → Oc f_spec_l1Cur_files_i4e → Option R) : evC en77 su77i4 (ifAt 4 Try.f77) (Desc.mk2 f_spec_l1Cur_files_i4v v (Desc.mk2 f_spec_l1Cur_files_i4c c .empty)) (fun o => chk f_spec_l1Cur_files_i4c f_spec_l1Cur_files_i4e o kk) = f_spec_l1Cur_files_i4 R c v kk := by kernel_rfl
theorem f_spec_l1Cur_files_i4Ok {X : Cx} (hX : en77.lo = X.lo) : SubOk Try.prog X 35 ⟨f_spec_l1Cur_files_i4c, f_spec_l1Cur_files_i4v, f_spec_l1Cur_files_i4e, f_spec_l1Cur_files_i4⟩ (ifAt 4 Try.f77) :=
  sub_if (u := ⟨f_spec_l1Cur_files_i4c, f_spec_l1Cur_files_i4v, f_spec_l1Cur_files_i4e, f_spec_l1Cur_files_i4⟩) (subs := su77i4) ok77 rfl hX (GoodN.good (K := True) (Eq.mpr (show GoodN Try.prog X 35 en77 su77i4 (ifAt 4 Try.f77) True = (True) by kernel_rfl) trivial)).1 (by decide) (by decide) f_spec_l1Cur_files_i4Eq
theorem f_spec_l1Cur_files_l5Eq (R : Type) (c : Vars f_spec_l1Cur_files_l5c) (v : Vars f_spec_l1Cur_files_l5v) (kk : Vars f_spec_l1Cur_files_l5c → (Vars f_spec_l1Cur_files_l5v ⊕ Oc f_spec_l1Cur_files_l5e) → Option R) : evC en77 su77 (loopAt 5 Try.f77) (Desc.mk2 f_spec_l1Cur_files_l5v v (Desc.mk2 f_spec_l1Cur_files_l5c c .empty)) (fun o => bodyK f_spec_l1Cur_files_l5c f_spec_l1Cur_files_l5v f_spec_l1Cur_files_l5e o kk) = f_spec_l1Cur_files_l5 R c v kk := by kernel_rfl
theorem f_spec_l1Cur_files_l5Ok {X : Cx} (hX : en77.lo = X.lo) : SubOk Try.prog X 35 ⟨f_spec_l1Cur_files_l5c, f_spec_l1Cur_files_l5v, f_spec_l1Cur_files_l5e, loopF f_spec_l1Cur_files_l5⟩ (.loop (loopAt 5 Try.f77)) :=
  sub_loop (subs := su77) ok77 rfl hX (GoodN.good (K := True) (Eq.mpr (show GoodN Try.prog X 35 en77 su77 (loopAt 5 Try.f77) True = (True) by kernel_rfl) trivial)).1 (by decide) (by decide) f_spec_l1Cur_files_l5Eq
def su77i9 : Bool → Nat → Option Sub | false, 4 => some ⟨f_spec_l1Cur_files_i4c, f_spec_l1Cur_files_i4v, f_spec_l1Cur_files_i4e, f_spec_l1Cur_files_i4⟩ | true, 5 => some ⟨f_spec_l1Cur_files_l5c, f_spec_l1Cur_files_l5v, f_spec_l1Cur_files_l5e, loopF f_spec_l1Cur_files_l5⟩ | _, _ => none
theorem f_spec_l1Cur_files_i9Eq (R : Type) (c : Vars f_spec_l1Cur_files_i9c) (v : Vars f_spec_l1Cur_files_i9v) (kk : Vars f_spec_l1Cur_files_i9c → Oc f_spec_l1Cur_files_i9e → Option R) : evC en77 su77i9 (ifAt 9 Try.f77) (Desc.mk2 f_spec_l1Cur_files_i9v v (Desc.mk2 f_spec_l1Cur_files_i9c c .empty)) (fun o => chk f_spec_l1Cur_files_i9c f_spec_l1Cur_files_i9e o kk) = f_spec_l1Cur_files_i9 R c v kk := by kernel_rfl
theorem f_spec_l1Cur_files_i9Ok {X : Cx} (hX : en77.lo = X.lo) : SubOk Try.prog X 35 ⟨f_spec_l1Cur_files_i9c, f_spec_l1Cur_files_i9v, f_spec_l1Cur_files_i9e, f_spec_l1Cur_files_i9⟩ (ifAt 9 Try.f77) :=
  sub_if (u := ⟨f_spec_l1Cur_files_i9c, f_spec_l1Cur_files_i9v, f_spec_l1Cur_files_i9e, f_spec_l1Cur_files_i9⟩) (subs := su77i9) ok77 rfl hX (GoodN.good (K := True) (Eq.mpr (show GoodN Try.prog X 35 en77 su77i9 (ifAt 9 Try.f77) True = (True) by kernel_rfl) trivial)).1 (by decide) (by decide) f_spec_l1Cur_files_i9Eq
theorem f_spec_l1Cur_filesEq (x : Ps ins77) : evF en77 su77 Try.f77 ins77 res77 x = f_spec_l1Cur_files x := by kernel_rfl
theorem so77 : Sound Try.prog 77 sg77 :=
  sound_of (fn := Try.f77) (c := bodyOf Try.f77) (subs := su77) (E := en77) (by kernel_rfl) (by kernel_rfl) (by decide) ok77 (by kernel_rfl) (by kernel_rfl) (by decide)
    (fun X hX => (GoodN.good (K := True) (Eq.mpr (show GoodN Try.prog X 35 en77 su77 (bodyOf Try.f77) True = (SubOk Try.prog X 35 ⟨f_spec_l1Cur_files_i4c, f_spec_l1Cur_files_i4v, f_spec_l1Cur_files_i4e, f_spec_l1Cur_files_i4⟩ (ifAt 4 Try.f77) ∧ SubOk Try.prog X 35 ⟨f_spec_l1Cur_files_l5c, f_spec_l1Cur_files_l5v, f_spec_l1Cur_files_l5e, loopF f_spec_l1Cur_files_l5⟩ (.loop (loopAt 5 Try.f77)) ∧ SubOk Try.prog X 35 ⟨f_spec_l1Cur_files_i9c, f_spec_l1Cur_files_i9v, f_spec_l1Cur_files_i9e, f_spec_l1Cur_files_i9⟩ (ifAt 9 Try.f77) ∧ True) by kernel_rfl) ⟨(f_spec_l1Cur_files_i4Ok hX), (f_spec_l1Cur_files_l5Ok hX), (f_spec_l1Cur_files_i9Ok hX), trivial⟩)).1)
    (fun x r h => (f_spec_l1Cur_filesEq x).trans h)
def fl91 : List (Nat × Sig) := []
def en91 : Env := { n := 18, ty := assocN tyL, fns := assocN fl91, lo := 0 }
def su91 : Bool → Nat → Option Sub | true, 2 => some ⟨f_spec_l13Files_l2c, f_spec_l13Files_l2v, f_spec_l13Files_l2e, loopF f_spec_l13Files_l2⟩ | _, _ => none
theorem ok91 : EnvOk Try.prog en91 := envOk_of rfl rfl tyL_ok (trivial)
theorem f_spec_l13Files_l2Eq (R : Type) (c : Vars f_spec_l13Files_l2c) (v : Vars f_spec_l13Files_l2v) (kk : Vars f_spec_l13Files_l2c → (Vars f_spec_l13Files_l2v ⊕ Oc f_spec_l13Files_l2e) → Option R) : evC en91 su91 (loopAt 2 Try.f91) (Desc.mk2 f_spec_l13Files_l2v v (Desc.mk2 f_spec_l13Files_l2c c .empty)) (fun o => bodyK f_spec_l13Files_l2c f_spec_l13Files_l2v f_spec_l13Files_l2e o kk) = f_spec_l13Files_l2 R c v kk := by kernel_rfl
theorem f_spec_l13Files_l2Ok {X : Cx} (hX : en91.lo = X.lo) : SubOk Try.prog X 18 ⟨f_spec_l13Files_l2c, f_spec_l13Files_l2v, f_spec_l13Files_l2e, loopF f_spec_l13Files_l2⟩ (.loop (loopAt 2 Try.f91)) :=
  sub_loop (subs := su91) ok91 rfl hX (GoodN.good (K := True) (Eq.mpr (show GoodN Try.prog X 18 en91 su91 (loopAt 2 Try.f91) True = (True) by kernel_rfl) trivial)).1 (by decide) (by decide) f_spec_l13Files_l2Eq
theorem f_spec_l13FilesEq (x : Ps ins91) : evF en91 su91 Try.f91 ins91 res91 x = f_spec_l13Files x := by kernel_rfl
theorem so91 : Sound Try.prog 91 sg91 :=
  sound_of (fn := Try.f91) (c := bodyOf Try.f91) (subs := su91) (E := en91) (by kernel_rfl) (by kernel_rfl) (by decide) ok91 (by kernel_rfl) (by kernel_rfl) (by decide)
    (fun X hX => (GoodN.good (K := True) (Eq.mpr (show GoodN Try.prog X 18 en91 su91 (bodyOf Try.f91) True = (SubOk Try.prog X 18 ⟨f_spec_l13Files_l2c, f_spec_l13Files_l2v, f_spec_l13Files_l2e, loopF f_spec_l13Files_l2⟩ (.loop (loopAt 2 Try.f91)) ∧ True) by kernel_rfl) ⟨(f_spec_l13Files_l2Ok hX), trivial⟩)).1)
    (fun x r h => (f_spec_l13FilesEq x).trans h)
def fl131 : List (Nat × Sig) := []
def en131 : Env := { n := 12, ty := assocN tyL, fns := assocN fl131, lo := 0 }
def su131 : Bool → Nat → Option Sub | _, _ => none
theorem ok131 : EnvOk Try.prog en131 := envOk_of rfl rfl tyL_ok (trivial)
theorem f_spec_l13SizeEq (x : Ps ins131) : evF en131 su131 Try.f131 ins131 res131 x = f_spec_l13Size x := by kernel_rfl
theorem so131 : Sound Try.prog 131 sg131 :=
  sound_of (fn := Try.f131) (c := bodyOf Try.f131) (subs := su131) (E := en131) (by kernel_rfl) (by kernel_rfl) (by decide) ok131 (by kernel_rfl) (by kernel_rfl) (by decide)
    (fun X hX => (GoodN.good (K := True) (Eq.mpr (show GoodN Try.prog X 12 en131 su131 (bodyOf Try.f131) True = (True) by kernel_rfl) trivial)).1)
    (fun x r h => (f_spec_l13SizeEq x).trans h)
def fl112 : List (Nat × Sig) := []
def hi112 : List (Nat × (K × Mk)) := [(3, ((.sl (.int .u8)), (.o .s)))]
def en112 : Env := { n := 21, ty := assocN tyL, fns := assocN fl112, lo := 0, hint := assocN hi112 }
def su112 : Bool → Nat → Option Sub | true, 2 => some ⟨f_spec_l2Var_l2c, f_spec_l2Var_l2v, f_spec_l2Var_l2e, loopF f_spec_l2Var_l2⟩ | _, _ => none
theorem ok112 : EnvOk Try.prog en112 := envOk_of rfl rfl tyL_ok (trivial)
theorem f_spec_l2Var_l2Eq (R : Type) (c : Vars f_spec_l2Var_l2c) (v : Vars f_spec_l2Var_l2v) (kk : Vars f_spec_l2Var_l2c → (Vars f_spec_l2Var_l2v ⊕ Oc f_spec_l2Var_l2e) → Option R) : evC en112 su112 (loopAt 2 Try.f112) (Desc.mk2 f_spec_l2Var_l2v v (Desc.mk2 f_spec_l2Var_l2c c .empty)) (fun o => bodyK f_spec_l2Var_l2c f_spec_l2Var_l2v f_spec_l2Var_l2e o kk) = f_spec_l2Var_l2 R c v kk := by kernel_rfl
theorem f_spec_l2Var_l2Ok {X : Cx} (hX : en112.lo = X.lo) : SubOk Try.prog X 21 ⟨f_spec_l2Var_l2c, f_spec_l2Var_l2v, f_spec_l2Var_l2e, loopF f_spec_l2Var_l2⟩ (.loop (loopAt 2 Try.f112)) :=
  sub_loop (subs := su112) ok112 rfl hX (GoodN.good (K := True) (Eq.mpr (show GoodN Try.prog X 21 en112 su112 (loopAt 2 Try.f112) True = (True) by kernel_rfl) trivial)).1 (by decide) (by decide) f_spec_l2Var_l2Eq
theorem f_spec_l2VarEq (x : Ps ins112) : evF en112 su112 Try.f112 ins112 res112 x = f_spec_l2Var x := by kernel_rfl
theorem so112 : Sound Try.prog 112 sg112 :=
  sound_of (fn := Try.f112) (c := bodyOf Try.f112) (subs := su112) (E := en112) (by kernel_rfl) (by kernel_rfl) (by decide) ok112 (by kernel_rfl) (by kernel_rfl) (by decide)
    (fun X hX => (GoodN.good (K := True) (Eq.mpr (show GoodN Try.prog X 21 en112 su112 (bodyOf Try.f112) True = (SubOk Try.prog X 21 ⟨f_spec_l2Var_l2c, f_spec_l2Var_l2v, f_spec_l2Var_l2e, loopF f_spec_l2Var_l2⟩ (.loop (loopAt 2 Try.f112)) ∧ True) by kernel_rfl) ⟨(f_spec_l2Var_l2Ok hX), trivial⟩)).1)
    (fun x r h => (f_spec_l2VarEq x).trans h)
def fl156 : List (Nat × Sig) := []
def hi156 : List (Nat × (K × Mk)) := [(0, ((.sl (.int .u32)), (.o .s))), (1, ((.sl (.int .u32)), (.o .s)))]
def en156 : Env := { n := 32, ty := assocN tyL, fns := assocN fl156, lo := 0, hint := assocN hi156 }
def su156 : Bool → Nat → Option Sub | false, 12 => some ⟨f_spec_l2Table_i12c, f_spec_l2Table_i12v, f_spec_l2Table_i12e, f_spec_l2Table_i12⟩ | true, 7 => some ⟨f_spec_l2Table_l7c, f_spec_l2Table_l7v, f_spec_l2Table_l7e, loopF f_spec_l2Table_l7⟩ | true, 3 => some ⟨f_spec_l2Table_l3c, f_spec_l2Table_l3v, f_spec_l2Table_l3e, loopF f_spec_l2Table_l3⟩ | _, _ => none
theorem ok156 : EnvOk Try.prog en156 := envOk_of rfl rfl tyL_ok (trivial)
def su156i12 : Bool → Nat → Option Sub | true, 7 => some ⟨f_spec_l2Table_l7c, f_spec_l2Table_l7v, f_spec_l2Table_l7e, loopF f_spec_l2Table_l7⟩ | true, 3 => some ⟨f_spec_l2Table_l3c, f_spec_l2Table_l3v, f_spec_l2Table_l3e, loopF f_spec_l2Table_l3⟩ | _, _ => none
theorem f_spec_l2Table_i12Eq (R : Type) (c : Vars f_spec_l2Table_i12c) (v : Vars f_spec_l2Table_i12v) (kk : Vars f_spec_l2Table_i12c → Oc f_spec_l2Table_i12e → Option R) : evC en156 su156i12 (ifAt 12 Try.f156) (Desc.mk2 f_spec_l2Table_i12v v (Desc.mk2 f_spec_l2Table_i12c c .empty)) (fun o => chk f_spec_l2Table_i12c f_spec_l2Table_i12e o kk) = f_spec_l2Table_i12 R c v kk := by kernel_rfl
theorem f_spec_l2Table_i12Ok {X : Cx} (hX : en156.lo = X.lo) : SubOk Try.prog X 32 ⟨f_spec_l2Table_i12c, f_spec_l2Table_i12v, f_spec_l2Table_i12e, f_spec_l2Table_i12⟩ (ifAt 12 Try.f156) :=
  sub_if (u := ⟨f_spec_l2Table_i12c, f_spec_l2Table_i12v, f_spec_l2Table_i12e, f_spec_l2Table_i12⟩) (subs := su156i12) ok156 rfl hX (GoodN.good (K := True) (Eq.mpr (show GoodN Try.prog X 32 en156 su156i12 (ifAt 12 Try.f156) True = (True) by kernel_rfl) trivial)).1 (by decide) (by decide) f_spec_l2Table_i12Eq
theorem f_spec_l2Table_l7Eq (R : Type) (c : Vars f_spec_l2Table_l7c) (v : Vars f_spec_l2Table_l7v) (kk : Vars f_spec_l2Table_l7c → (Vars f_spec_l2Table_l7v ⊕ Oc f_spec_l2Table_l7e) → Option R) : evC en156 su156 (loopAt 7 Try.f156) (Desc.mk2 f_spec_l2Table_l7v v (Desc.mk2 f_spec_l2Table_l7c c .empty)) (fun o => bodyK f_spec_l2Table_l7c f_spec_l2Table_l7v f_spec_l2Table_l7e o kk) = f_spec_l2Table_l7 R c v kk := by kernel_rfl
theorem f_spec_l2Table_l7Ok {X : Cx} (hX : en156.lo = X.lo) : SubOk Try.prog X 32 ⟨f_spec_l2Table_l7c, f_spec_l2Table_l7v, f_spec_l2Table_l7e, loopF f_spec_l2Table_l7⟩ (.loop (loopAt 7 Try.f156)) :=
  sub_loop (subs := su156) ok156 rfl hX (GoodN.good (K := True) (Eq.mpr (show GoodN Try.prog X 32 en156 su156 (loopAt 7 Try.f156) True = (SubOk Try.prog X 32 ⟨f_spec_l2Table_i12c, f_spec_l2Table_i12v, f_spec_l2Table_i12e, f_spec_l2Table_i12⟩ (ifAt 12 Try.f156) ∧ True) by kernel_rfl) ⟨(f_spec_l2Table_i12Ok hX), trivial⟩)).1 (by decide) (by decide) f_spec_l2Table_l7Eq
theorem f_spec_l2Table_l3Eq (R : Type) (c : Vars f_spec_l2Table_l3c) (v : Vars f_spec_l2Table_l3v) (kk : Vars f_spec_l2Table_l3c → (Vars f_spec_l2Table_l3v ⊕ Oc f_spec_l2Table_l3e) → Option R) : evC en156 su156 (loopAt 3 Try.f156) (Desc.mk2 f_spec_l2Table_l3v v (Desc.mk2 f_spec_l2Table_l3c c .empty)) (fun o => bodyK f_spec_l2Table_l3c f_spec_l2Table_l3v f_spec_l2Table_l3e o kk) = f_spec_l2Table_l3 R c v kk := by kernel_rfl
theorem f_spec_l2Table_l3Ok {X : Cx} (hX : en156.lo = X.lo) : SubOk Try.prog X 32 ⟨f_spec_l2Table_l3c, f_spec_l2Table_l3v, f_spec_l2Table_l3e, loopF f_spec_l2Table_l3⟩ (.loop (loopAt 3 Try.f156)) :=
  sub_loop (subs := su156) ok156 rfl hX (GoodN.good (K := True) (Eq.mpr (show GoodN Try.prog X 32 en156 su156 (loopAt 3 Try.f156) True = (SubOk Try.prog X 32 ⟨f_spec_l2Table_l7c, f_spec_l2Table_l7v, f_spec_l2Table_l7e, loopF f_spec_l2Table_l7⟩ (.loop (loopAt 7 Try.f156)) ∧ True) by kernel_rfl) ⟨(f_spec_l2Table_l7Ok hX), trivial⟩)).1 (by decide) (by decide) f_spec_l2Table_l3Eq
theorem f_spec_l2TableEq (x : Ps ins156) : evF en156 su156 Try.f156 ins156 res156 x = f_spec_l2Table x := by kernel_rfl
theorem so156 : Sound Try.prog 156 sg156 :=
  sound_of (fn := Try.f156) (c := bodyOf Try.f156) (subs := su156) (E := en156) (by kernel_rfl) (by kernel_rfl) (by decide) ok156 (by kernel_rfl) (by kernel_rfl) (by decide)
    (fun X hX => (GoodN.good (K := True) (Eq.mpr (show GoodN Try.prog X 32 en156 su156 (bodyOf Try.f156) True = (SubOk Try.prog X 32 ⟨f_spec_l2Table_l3c, f_spec_l2Table_l3v, f_spec_l2Table_l3e, loopF f_spec_l2Table_l3⟩ (.loop (loopAt 3 Try.f156)) ∧ True) by kernel_rfl) ⟨(f_spec_l2Table_l3Ok hX), trivial⟩)).1)
    (fun x r h => (f_spec_l2TableEq x).trans h)
def fl155 : List (Nat × Sig) := []
def en155 : Env := { n := 27, ty := assocN tyL, fns := assocN fl155, lo := 0 }
def su155 : Bool → Nat → Option Sub | true, 2 => some ⟨f_spec_l2On_l2c, f_spec_l2On_l2v, f_spec_l2On_l2e, loopF f_spec_l2On_l2⟩ | _, _ => none
theorem ok155 : EnvOk Try.prog en155 := envOk_of rfl rfl tyL_ok (trivial)
theorem f_spec_l2On_l2Eq (R : Type) (c : Vars f_spec_l2On_l2c) (v : Vars f_spec_l2On_l2v) (kk : Vars f_spec_l2On_l2c → (Vars f_spec_l2On_l2v ⊕ Oc f_spec_l2On_l2e) → Option R) : evC en155 su155 (loopAt 2 Try.f155) (Desc.mk2 f_spec_l2On_l2v v (Desc.mk2 f_spec_l2On_l2c c .empty)) (fun o => bodyK f_spec_l2On_l2c f_spec_l2On_l2v f_spec_l2On_l2e o kk) = f_spec_l2On_l2 R c v kk := by kernel_rfl
theorem f_spec_l2On_l2Ok {X : Cx} (hX : en155.lo = X.lo) : SubOk Try.prog X 27 ⟨f_spec_l2On_l2c, f_spec_l2On_l2v, f_spec_l2On_l2e, loopF f_spec_l2On_l2⟩ (.loop (loopAt 2 Try.f155)) :=
  sub_loop (subs := su155) ok155 rfl hX (GoodN.good (K := True) (Eq.mpr (show GoodN Try.prog X 27 en155 su155 (loopAt 2 Try.f155) True = (True) by kernel_rfl) trivial)).1 (by decide) (by decide) f_spec_l2On_l2Eq
theorem f_spec_l2OnEq (x : Ps ins155) : evF en155 su155 Try.f155 ins155 res155 x = f_spec_l2On x := by kernel_rfl
theorem so155 : Sound Try.prog 155 sg155 :=
  sound_of (fn := Try.f155) (c := bodyOf Try.f155) (subs := su155) (E := en155) (by kernel_rfl) (by kernel_rfl) (by decide) ok155 (by kernel_rfl) (by kernel_rfl) (by decide)
    (fun X hX => (GoodN.good (K := True) (Eq.mpr (show GoodN Try.prog X 27 en155 su155 (bodyOf Try.f155) True = (SubOk Try.prog X 27 ⟨f_spec_l2On_l2c, f_spec_l2On_l2v, f_spec_l2On_l2e, loopF f_spec_l2On_l2⟩ (.loop (loopAt 2 Try.f155)) ∧ True) by kernel_rfl) ⟨(f_spec_l2On_l2Ok hX), trivial⟩)).1)
    (fun x r h => (f_spec_l2OnEq x).trans h)
def fl124 : List (Nat × Sig) := [(155, sg155), (156, sg156)]
def en124 : Env := { n := 7, ty := assocN tyL, fns := assocN fl124, lo := 0 }
def su124 : Bool → Nat → Option Sub | _, _ => none
theorem ok124 : EnvOk Try.prog en124 := envOk_of rfl rfl tyL_ok (⟨so155, ⟨so156, trivial⟩⟩)
theorem f_spec_l2SumEq (x : Ps ins124) : evF en124 su124 Try.f124 ins124 res124 x = f_spec_l2Sum x := by kernel_rfl
theorem so124 : Sound Try.prog 124 sg124 :=
  sound_of (fn := Try.f124) (c := bodyOf Try.f124) (subs := su124) (E := en124) (by kernel_rfl) (by kernel_rfl) (by decide) ok124 (by kernel_rfl) (by kernel_rfl) (by decide)
    (fun X hX => (GoodN.good (K := True) (Eq.mpr (show GoodN Try.prog X 7 en124 su124 (bodyOf Try.f124) True = (True) by kernel_rfl) trivial)).1)
    (fun x r h => (f_spec_l2SumEq x).trans h)
def fl132 : List (Nat × Sig) := [(112, sg112), (124, sg124)]
def en132 : Env := { n := 19, ty := assocN tyL, fns := assocN fl132, lo := 0 }
def su132 : Bool → Nat → Option Sub | false, 2 => some ⟨f_spec_l13Sum_i2c, f_spec_l13Sum_i2v, f_spec_l13Sum_i2e, f_spec_l13Sum_i2⟩ | false, 4 => some ⟨f_spec_l13Sum_i4c, f_spec_l13Sum_i4v, f_spec_l13Sum_i4e, f_spec_l13Sum_i4⟩ | _, _ => none
theorem ok132 : EnvOk Try.prog en132 := envOk_of rfl rfl tyL_ok (⟨so112, ⟨so124, trivial⟩⟩)
def su132i2 : Bool → Nat → Option Sub | false, 4 => some ⟨f_spec_l13Sum_i4c, f_spec_l13Sum_i4v, f_spec_l13Sum_i4e, f_spec_l13Sum_i4⟩ | _, _ => none
theorem f_spec_l13Sum_i2Eq (R : Type) (c : Vars f_spec_l13Sum_i2c) (v : Vars f_spec_l13Sum_i2v) (kk : Vars f_spec_l13Sum_i2c → Oc f_spec_l13Sum_i2e → Option R) : evC en132 su132i2 (ifAt 2 Try.f132) (Desc.mk2 f_spec_l13Sum_i2v v (Desc.mk2 f_spec_l13Sum_i2c c .empty)) (fun o => chk f_spec_l13Sum_i2c f_spec_l13Sum_i2e o kk) = f_spec_l13Sum_i2 R c v kk := by kernel_rfl
theorem f_spec_l13Sum_i2Ok {X : Cx} (hX : en132.lo = X.lo) : SubOk Try.prog X 19 ⟨f_spec_l13Sum_i2c, f_spec_l13Sum_i2v, f_spec_l13Sum_i2e, f_spec_l13Sum_i2⟩ (ifAt 2 Try.f132) :=
  sub_if (u := ⟨f_spec_l13Sum_i2c, f_spec_l13Sum_i2v, f_spec_l13Sum_i2e, f_spec_l13Sum_i2⟩) (subs := su132i2) ok132 rfl hX (GoodN.good (K := True) (Eq.mpr (show GoodN Try.prog X 19 en132 su132i2 (ifAt 2 Try.f132) True = (True) by kernel_rfl) trivial)).1 (by decide) (by decide) f_spec_l13Sum_i2Eq
def su132i4 : Bool → Nat → Option Sub | false, 2 => some ⟨f_spec_l13Sum_i2c, f_spec_l13Sum_i2v, f_spec_l13Sum_i2e, f_spec_l13Sum_i2⟩ | _, _ => none
theorem f_spec_l13Sum_i4Eq (R : Type) (c : Vars f_spec_l13Sum_i4c) (v : Vars f_spec_l13Sum_i4v) (kk : Vars f_spec_l13Sum_i4c → Oc f_spec_l13Sum_i4e → Option R) : evC en132 su132i4 (ifAt 4 Try.f132) (Desc.mk2 f_spec_l13Sum_i4v v (Desc.mk2 f_spec_l13Sum_i4c c .empty)) (fun o => chk f_spec_l13Sum_i4c f_spec_l13Sum_i4e o kk) = f_spec_l13Sum_i4 R c v kk := by kernel_rfl
theorem f_spec_l13Sum_i4Ok {X : Cx} (hX : en132.lo = X.lo) : SubOk Try.prog X 19 ⟨f_spec_l13Sum_i4c, f_spec_l13Sum_i4v, f_spec_l13Sum_i4e, f_spec_l13Sum_i4⟩ (ifAt 4 Try.f132) :=
  sub_if (u := ⟨f_spec_l13Sum_i4c, f_spec_l13Sum_i4v, f_spec_l13Sum_i4e, f_spec_l13Sum_i4⟩) (subs := su132i4) ok132 rfl hX (GoodN.good (K := True) (Eq.mpr (show GoodN Try.prog X 19 en132 su132i4 (ifAt 4 Try.f132) True = (True) by kernel_rfl) trivial)).1 (by decide) (by decide) f_spec_l13Sum_i4Eq
theorem f_spec_l13SumEq (x : Ps ins132) : evF en132 su132 Try.f132 ins132 res132 x = f_spec_l13Sum x := by kernel_rfl
theorem so132 : Sound Try.prog 132 sg132 :=
  sound_of (fn := Try.f132) (c := bodyOf Try.f132) (subs := su132) (E := en132) (by kernel_rfl) (by kernel_rfl) (by decide) ok132 (by kernel_rfl) (by kernel_rfl) (by decide)
    (fun X hX => (GoodN.good (K := True) (Eq.mpr (show GoodN Try.prog X 19 en132 su132 (bodyOf Try.f132) True = (SubOk Try.prog X 19 ⟨f_spec_l13Sum_i2c, f_spec_l13Sum_i2v, f_spec_l13Sum_i2e, f_spec_l13Sum_i2⟩ (ifAt 2 Try.f132) ∧ SubOk Try.prog X 19 ⟨f_spec_l13Sum_i4c, f_spec_l13Sum_i4v, f_spec_l13Sum_i4e, f_spec_l13Sum_i4⟩ (ifAt 4 Try.f132) ∧ True) by kernel_rfl) ⟨(f_spec_l13Sum_i2Ok hX), (f_spec_l13Sum_i4Ok hX), trivial⟩)).1)
    (fun x r h => (f_spec_l13SumEq x).trans h)
def fl92 : List (Nat × Sig) := [(131, sg131), (132, sg132)]
def hi92 : List (Nat × (K × Mk)) := [(2, ((.sl kdChunk), (.o .s))), (3, ((.sl kdChunk), (.o .s)))]
def en92 : Env := { n := 43, ty := assocN tyL, fns := assocN fl92, lo := 0, hint := assocN hi92 }
def su92 : Bool → Nat → Option Sub | true, 6 => some ⟨f_spec_l13Chunks_l6c, f_spec_l13Chunks_l6v, f_spec_l13Chunks_l6e, loopF f_spec_l13Chunks_l6⟩ | true, 3 => some ⟨f_spec_l13Chunks_l3c, f_spec_l13Chunks_l3v, f_spec_l13Chunks_l3e, loopF f_spec_l13Chunks_l3⟩ | _, _ => none
theorem ok92 : EnvOk Try.prog en92 := envOk_of rfl rfl tyL_ok (⟨so131, ⟨so132, trivial⟩⟩)
theorem f_spec_l13Chunks_l6Eq (R : Type) (c : Vars f_spec_l13Chunks_l6c) (v : Vars f_spec_l13Chunks_l6v) (kk : Vars f_spec_l13Chunks_l6c → (Vars f_spec_l13Chunks_l6v ⊕ Oc f_spec_l13Chunks_l6e) → Option R) : evC en92 su92 (loopAt 6 Try.f92) (Desc.mk2 f_spec_l13Chunks_l6v v (Desc.mk2 f_spec_l13Chunks_l6c c .empty)) (fun o => bodyK f_spec_l13Chunks_l6c f_spec_l13Chunks_l6v f_spec_l13Chunks_l6e o kk) = f_spec_l13Chunks_l6 R c v kk := by kernel_rfl
theorem f_spec_l13Chunks_l6Ok {X : Cx} (hX : en92.lo = X.lo) : SubOk Try.prog X 43 ⟨f_spec_l13Chunks_l6c, f_spec_l13Chunks_l6v, f_spec_l13Chunks_l6e, loopF f_spec_l13Chunks_l6⟩ (.loop (loopAt 6 Try.f92)) :=
  sub_loop (subs := su92) ok92 rfl hX (GoodN.good (K := True) (Eq.mpr (show GoodN Try.prog X 43 en92 su92 (loopAt 6 Try.f92) True = (True) by kernel_rfl) trivial)).1 (by decide) (by decide) f_spec_l13Chunks_l6Eq
theorem f_spec_l13Chunks_l3Eq (R : Type) (c : Vars f_spec_l13Chunks_l3c) (v : Vars f_spec_l13Chunks_l3v) (kk : Vars f_spec_l13Chunks_l3c → (Vars f_spec_l13Chunks_l3v ⊕ Oc f_spec_l13Chunks_l3e) → Option R) : evC en92 su92 (loopAt 3 Try.f92) (Desc.mk2 f_spec_l13Chunks_l3v v (Desc.mk2 f_spec_l13Chunks_l3c c .empty)) (fun o => bodyK f_spec_l13Chunks_l3c f_spec_l13Chunks_l3v f_spec_l13Chunks_l3e o kk) = f_spec_l13Chunks_l3 R c v kk := by kernel_rfl
theorem f_spec_l13Chunks_l3Ok {X : Cx} (hX : en92.lo = X.lo) : SubOk Try.prog X 43 ⟨f_spec_l13Chunks_l3c, f_spec_l13Chunks_l3v, f_spec_l13Chunks_l3e, loopF f_spec_l13Chunks_l3⟩ (.loop (loopAt 3 Try.f92)) :=
  sub_loop (subs := su92) ok92 rfl hX (GoodN.good (K := True) (Eq.mpr (show GoodN Try.prog X 43 en92 su92 (loopAt 3 Try.f92) True = (SubOk Try.prog X 43 ⟨f_spec_l13Chunks_l6c, f_spec_l13Chunks_l6v, f_spec_l13Chunks_l6e, loopF f_spec_l13Chunks_l6⟩ (.loop (loopAt 6 Try.f92)) ∧ True) by kernel_rfl) ⟨(f_spec_l13Chunks_l6Ok hX), trivial⟩)).1 (by decide) (by decide) f_spec_l13Chunks_l3Eq
theorem f_spec_l13ChunksEq (x : Ps ins92) : evF en92 su92 Try.f92 ins92 res92 x = f_spec_l13Chunks x := by kernel_rfl
theorem so92 : Sound Try.prog 92 sg92 :=
  sound_of (fn := Try.f92) (c := bodyOf Try.f92) (subs := su92) (E := en92) (by kernel_rfl) (by kernel_rfl) (by decide) ok92 (by kernel_rfl) (by kernel_rfl) (by decide)
    (fun X hX => (GoodN.good (K := True) (Eq.mpr (show GoodN Try.prog X 43 en92 su92 (bodyOf Try.f92) True = (SubOk Try.prog X 43 ⟨f_spec_l13Chunks_l3c, f_spec_l13Chunks_l3v, f_spec_l13Chunks_l3e, loopF f_spec_l13Chunks_l3⟩ (.loop (loopAt 3 Try.f92)) ∧ True) by kernel_rfl) ⟨(f_spec_l13Chunks_l3Ok hX), trivial⟩)).1)
    (fun x r h => (f_spec_l13ChunksEq x).trans h)
def fl37 : List (Nat × Sig) := [(91, sg91), (92, sg92)]
def hi37 : List (Nat × (K × Mk)) := [(2, ((.sl kdChunk), (.o .s))), (4, ((.sl kdChunk), (.o .s)))]
def en37 : Env := { n := 14, ty := assocN tyL, fns := assocN fl37, lo := 0, hint := assocN hi37 }
def su37 : Bool → Nat → Option Sub | _, _ => none
theorem ok37 : EnvOk Try.prog en37 := envOk_of rfl rfl tyL_ok (⟨so91, ⟨so92, trivial⟩⟩)
theorem f_spec_ChunksOfEq (x : Ps ins37) : evF en37 su37 Try.f37 ins37 res37 x = f_spec_ChunksOf x := by kernel_rfl
theorem so37 : Sound Try.prog 37 sg37 :=
  sound_of (fn := Try.f37) (c := bodyOf Try.f37) (subs := su37) (E := en37) (by kernel_rfl) (by kernel_rfl) (by decide) ok37 (by kernel_rfl) (by kernel_rfl) (by decide)
    (fun X hX => (GoodN.good (K := True) (Eq.mpr (show GoodN Try.prog X 14 en37 su37 (bodyOf Try.f37) True = (True) by kernel_rfl) trivial)).1)
    (fun x r h => (f_spec_ChunksOfEq x).trans h)
def fl32 : List (Nat × Sig) := [(37, sg37), (77, sg77), (78, sg78), (79, sg79)]
def hi32 : List (Nat × (K × Mk)) := [(2, ((.sl .str), (.o .s))), (3, ((.sl (.int .i64)), (.o .s))), (4, ((.sl (.int .i64)), (.o .s))), (6, ((.sl .str), (.o .s))), (7, ((.sl kdChunk), (.o .s))), (9, ((.sl (.int .i64)), (.o .s))), (10, ((.sl (.int .i64)), (.o .s)))]
def en32 : Env := { n := 70, ty := assocN tyL, fns := assocN fl32, lo := 0, hint := assocN hi32 }
def su32 : Bool → Nat → Option Sub | false, 11 => some ⟨f_spec_DrawPlayTaking_i11c, f_spec_DrawPlayTaking_i11v, f_spec_DrawPlayTaking_i11e, f_spec_DrawPlayTaking_i11⟩ | true, 6 => some ⟨f_spec_DrawPlayTaking_l6c, f_spec_DrawPlayTaking_l6v, f_spec_DrawPlayTaking_l6e, loopF f_spec_DrawPlayTaking_l6⟩ | true, 15 => some ⟨f_spec_DrawPlayTaking_l15c, f_spec_DrawPlayTaking_l15v, f_spec_DrawPlayTaking_l15e, loopF f_spec_DrawPlayTaking_l15⟩ | false, 14 => some ⟨f_spec_DrawPlayTaking_i14c, f_spec_DrawPlayTaking_i14v, f_spec_DrawPlayTaking_i14e, f_spec_DrawPlayTaking_i14⟩ | _, _ => none
theorem ok32 : EnvOk Try.prog en32 := envOk_of rfl rfl tyL_ok (⟨so37, ⟨so77, ⟨so78, ⟨so79, trivial⟩⟩⟩⟩)
def su32i11 : Bool → Nat → Option Sub | true, 6 => some ⟨f_spec_DrawPlayTaking_l6c, f_spec_DrawPlayTaking_l6v, f_spec_DrawPlayTaking_l6e, loopF f_spec_DrawPlayTaking_l6⟩ | true, 15 => some ⟨f_spec_DrawPlayTaking_l15c, f_spec_DrawPlayTaking_l15v, f_spec_DrawPlayTaking_l15e, loopF f_spec_DrawPlayTaking_l15⟩ | false, 14 => some ⟨f_spec_DrawPlayTaking_i14c, f_spec_DrawPlayTaking_i14v, f_spec_DrawPlayTaking_i14e, f_spec_DrawPlayTaking_i14⟩ | _, _ => none
theorem f_spec_DrawPlayTaking_i11Eq (R : Type) (c : Vars f_spec_DrawPlayTaking_i11c) (v : Vars f_spec_DrawPlayTaking_i11v) (kk : Vars f_spec_DrawPlayTaking_i11c → Oc f_spec_DrawPlayTaking_i11e → Option R) : evC en32 su32i11 (ifAt 11 Try.f32) (Desc.mk2 f_spec_DrawPlayTaking_i11v v (Desc.mk2 f_spec_DrawPlayTaking_i11c c .empty)) (fun o => chk f_spec_DrawPlayTaking_i11c f_spec_DrawPlayTaking_i11e o kk) = f_spec_DrawPlayTaking_i11 R c v kk := by kernel_rfl
theorem f_spec_DrawPlayTaking_i11Ok {X : Cx} (hX : en32.lo = X.lo) : SubOk Try.prog X 70 ⟨f_spec_DrawPlayTaking_i11c, f_spec_DrawPlayTaking_i11v, f_spec_DrawPlayTaking_i11e, f_spec_DrawPlayTaking_i11⟩ (ifAt 11 Try.f32) :=
  sub_if (u := ⟨f_spec_DrawPlayTaking_i11c, f_spec_DrawPlayTaking_i11v, f_spec_DrawPlayTaking_i11e, f_spec_DrawPlayTaking_i11⟩) (subs := su32i11) ok32 rfl hX (GoodN.good (K := True) (Eq.mpr (show GoodN Try.prog X 70 en32 su32i11 (ifAt 11 Try.f32) True = (True) by kernel_rfl) trivial)).1 (by decide) (by decide) f_spec_DrawPlayTaking_i11Eq
theorem f_spec_DrawPlayTaking_l6Eq (R : Type) (c : Vars f_spec_DrawPlayTaking_l6c) (v : Vars f_spec_DrawPlayTaking_l6v) (kk : Vars f_spec_DrawPlayTaking_l6c → (Vars f_spec_DrawPlayTaking_l6v ⊕ Oc f_spec_DrawPlayTaking_l6e) → Option R) : evC en32 su32 (loopAt 6 Try.f32) (Desc.mk2 f_spec_DrawPlayTaking_l6v v (Desc.mk2 f_spec_DrawPlayTaking_l6c c .empty)) (fun o => bodyK f_spec_DrawPlayTaking_l6c f_spec_DrawPlayTaking_l6v f_spec_DrawPlayTaking_l6e o kk) = f_spec_DrawPlayTaking_l6 R c v kk := by kernel_rfl
theorem f_spec_DrawPlayTaking_l6Ok {X : Cx} (hX : en32.lo = X.lo) : SubOk Try.prog X 70 ⟨f_spec_DrawPlayTaking_l6c, f_spec_DrawPlayTaking_l6v, f_spec_DrawPlayTaking_l6e, loopF f_spec_DrawPlayTaking_l6⟩ (.loop (loopAt 6 Try.f32)) :=
  sub_loop (subs := su32) ok32 rfl hX (GoodN.good (K := True) (Eq.mpr (show GoodN Try.prog X 70 en32 su32 (loopAt 6 Try.f32) True = (SubOk Try.prog X 70 ⟨f_spec_DrawPlayTaking_i11c, f_spec_DrawPlayTaking_i11v, f_spec_DrawPlayTaking_i11e, f_spec_DrawPlayTaking_i11⟩ (ifAt 11 Try.f32) ∧ True) by kernel_rfl) ⟨(f_spec_DrawPlayTaking_i11Ok hX), trivial⟩)).1 (by decide) (by decide) f_spec_DrawPlayTaking_l6Eq
theorem f_spec_DrawPlayTaking_l15Eq (R : Type) (c : Vars f_spec_DrawPlayTaking_l15c) (v : Vars f_spec_DrawPlayTaking_l15v) (kk : Vars f_spec_DrawPlayTaking_l15c → (Vars f_spec_DrawPlayTaking_l15v ⊕ Oc f_spec_DrawPlayTaking_l15e) → Option R) : evC en32 su32 (loopAt 15 Try.f32) (Desc.mk2 f_spec_DrawPlayTaking_l15v v (Desc.mk2 f_spec_DrawPlayTaking_l15c c .empty)) (fun o => bodyK f_spec_DrawPlayTaking_l15c f_spec_DrawPlayTaking_l15v f_spec_DrawPlayTaking_l15e o kk) = f_spec_DrawPlayTaking_l15 R c v kk := by kernel_rfl
theorem f_spec_DrawPlayTaking_l15Ok {X : Cx} (hX : en32.lo = X.lo) : SubOk Try.prog X 70 ⟨f_spec_DrawPlayTaking_l15c, f_spec_DrawPlayTaking_l15v, f_spec_DrawPlayTaking_l15e, loopF f_spec_DrawPlayTaking_l15⟩ (.loop (loopAt 15 Try.f32)) :=
  sub_loop (subs := su32) ok32 rfl hX (GoodN.good (K := True) (Eq.mpr (show GoodN Try.prog X 70 en32 su32 (loopAt 15 Try.f32) True = (True) by kernel_rfl) trivial)).1 (by decide) (by decide) f_spec_DrawPlayTaking_l15Eq
def su32i14 : Bool → Nat → Option Sub | false, 11 => some ⟨f_spec_DrawPlayTaking_i11c, f_spec_DrawPlayTaking_i11v, f_spec_DrawPlayTaking_i11e, f_spec_DrawPlayTaking_i11⟩ | true, 6 => some ⟨f_spec_DrawPlayTaking_l6c, f_spec_DrawPlayTaking_l6v, f_spec_DrawPlayTaking_l6e, loopF f_spec_DrawPlayTaking_l6⟩ | true, 15 => some ⟨f_spec_DrawPlayTaking_l15c, f_spec_DrawPlayTaking_l15v, f_spec_DrawPlayTaking_l15e, loopF f_spec_DrawPlayTaking_l15⟩ | _, _ => none
theorem f_spec_DrawPlayTaking_i14Eq (R : Type) (c : Vars f_spec_DrawPlayTaking_i14c) (v : Vars f_spec_DrawPlayTaking_i14v) (kk : Vars f_spec_DrawPlayTaking_i14c → Oc f_spec_DrawPlayTaking_i14e → Option R) : evC en32 su32i14 (ifAt 14 Try.f32) (Desc.mk2 f_spec_DrawPlayTaking_i14v v (Desc.mk2 f_spec_DrawPlayTaking_i14c c .empty)) (fun o => chk f_spec_DrawPlayTaking_i14c f_spec_DrawPlayTaking_i14e o kk) = f_spec_DrawPlayTaking_i14 R c v kk := by kernel_rfl
theorem f_spec_DrawPlayTaking_i14Ok {X : Cx} (hX : en32.lo = X.lo) : SubOk Try.prog X 70 ⟨f_spec_DrawPlayTaking_i14c, f_spec_DrawPlayTaking_i14v, f_spec_DrawPlayTaking_i14e, f_spec_DrawPlayTaking_i14⟩ (ifAt 14 Try.f32) :=
  sub_if (u := ⟨f_spec_DrawPlayTaking_i14c, f_spec_DrawPlayTaking_i14v, f_spec_DrawPlayTaking_i14e, f_spec_DrawPlayTaking_i14⟩) (subs := su32i14) ok32 rfl hX (GoodN.good (K := True) (Eq.mpr (show GoodN Try.prog X 70 en32 su32i14 (ifAt 14 Try.f32) True = (SubOk Try.prog X 70 ⟨f_spec_DrawPlayTaking_l15c, f_spec_DrawPlayTaking_l15v, f_spec_DrawPlayTaking_l15e, loopF f_spec_DrawPlayTaking_l15⟩ (.loop (loopAt 15 Try.f32)) ∧ True) by kernel_rfl) ⟨(f_spec_DrawPlayTaking_l15Ok hX), trivial⟩)).1 (by decide) (by decide) f_spec_DrawPlayTaking_i14Eq
theorem f_spec_DrawPlayTakingEq (x : Ps ins32) : evF en32 su32 Try.f32 ins32 res32 x = f_spec_DrawPlayTaking x := by kernel_rfl
theorem so32 : Sound Try.prog 32 sg32 :=
  sound_of (fn := Try.f32) (c := bodyOf Try.f32) (subs := su32) (E := en32) (by kernel_rfl) (by kernel_rfl) (by decide) ok32 (by kernel_rfl) (by kernel_rfl) (by decide)
    (fun X hX => (GoodN.good (K := True) (Eq.mpr (show GoodN Try.prog X 70 en32 su32 (bodyOf Try.f32) True = (SubOk Try.prog X 70 ⟨f_spec_DrawPlayTaking_l6c, f_spec_DrawPlayTaking_l6v, f_spec_DrawPlayTaking_l6e, loopF f_spec_DrawPlayTaking_l6⟩ (.loop (loopAt 6 Try.f32)) ∧ SubOk Try.prog X 70 ⟨f_spec_DrawPlayTaking_i14c, f_spec_DrawPlayTaking_i14v, f_spec_DrawPlayTaking_i14e, f_spec_DrawPlayTaking_i14⟩ (ifAt 14 Try.f32) ∧ True) by kernel_rfl) ⟨(f_spec_DrawPlayTaking_l6Ok hX), (f_spec_DrawPlayTaking_i14Ok hX), trivial⟩)).1)
    (fun x r h => (f_spec_DrawPlayTakingEq x).trans h)
def fl129 : List (Nat × Sig) := []
def en129 : Env := { n := 6, ty := assocN tyL, fns := assocN fl129, lo := 0 }
def su129 : Bool → Nat → Option Sub | _, _ => none
theorem ok129 : EnvOk Try.prog en129 := envOk_of rfl rfl tyL_ok (trivial)
theorem f_impl_filesOk_1Eq (x : Ps ins129) : evF en129 su129 Try.f129 ins129 res129 x = f_impl_filesOk_1 x := by kernel_rfl
theorem so129 : Sound Try.prog 129 sg129 :=
  sound_of (fn := Try.f129) (c := bodyOf Try.f129) (subs := su129) (E := en129) (by kernel_rfl) (by kernel_rfl) (by decide) ok129 (by kernel_rfl) (by kernel_rfl) (by decide)
    (fun X hX => (GoodN.good (K := True) (Eq.mpr (show GoodN Try.prog X 6 en129 su129 (bodyOf Try.f129) True = (True) by kernel_rfl) trivial)).1)
    (fun x r h => (f_impl_filesOk_1Eq x).trans h)
def fl157 : List (Nat × Sig) := []
def en157 : Env := { n := 19, ty := assocN tyL, fns := assocN fl157, lo := 0 }
def su157 : Bool → Nat → Option Sub | true, 2 => some ⟨f_slices_IndexFunc_string_l2c, f_slices_IndexFunc_string_l2v, f_slices_IndexFunc_string_l2e, loopF f_slices_IndexFunc_string_l2⟩ | _, _ => none
theorem ok157 : EnvOk Try.prog en157 := envOk_of rfl rfl tyL_ok (trivial)
theorem f_slices_IndexFunc_string_l2Eq (R : Type) (c : Vars f_slices_IndexFunc_string_l2c) (v : Vars f_slices_IndexFunc_string_l2v) (kk : Vars f_slices_IndexFunc_string_l2c → (Vars f_slices_IndexFunc_string_l2v ⊕ Oc f_slices_IndexFunc_string_l2e) → Option R) : evC en157 su157 (loopAt 2 Try.f157) (Desc.mk2 f_slices_IndexFunc_string_l2v v (Desc.mk2 f_slices_IndexFunc_string_l2c c .empty)) (fun o => bodyK f_slices_IndexFunc_string_l2c f_slices_IndexFunc_string_l2v f_slices_IndexFunc_string_l2e o kk) = f_slices_IndexFunc_string_l2 R c v kk := by kernel_rfl
theorem f_slices_IndexFunc_string_l2Ok {X : Cx} (hX : en157.lo = X.lo) : SubOk Try.prog X 19 ⟨f_slices_IndexFunc_string_l2c, f_slices_IndexFunc_string_l2v, f_slices_IndexFunc_string_l2e, loopF f_slices_IndexFunc_string_l2⟩ (.loop (loopAt 2 Try.f157)) :=
  sub_loop (subs := su157) ok157 rfl hX (GoodN.good (K := True) (Eq.mpr (show GoodN Try.prog X 19 en157 su157 (loopAt 2 Try.f157) True = (True) by kernel_rfl) trivial)).1 (by decide) (by decide) f_slices_IndexFunc_string_l2Eq
theorem f_slices_IndexFunc_stringEq (x : Ps ins157) : evF en157 su157 Try.f157 ins157 res157 x = f_slices_IndexFunc_string x := by kernel_rfl
theorem so157 : Sound Try.prog 157 sg157 :=
  sound_of (fn := Try.f157) (c := bodyOf Try.f157) (subs := su157) (E := en157) (by kernel_rfl) (by kernel_rfl) (by decide) ok157 (by kernel_rfl) (by kernel_rfl) (by decide)
    (fun X hX => (GoodN.good (K := True) (Eq.mpr (show GoodN Try.prog X 19 en157 su157 (bodyOf Try.f157) True = (SubOk Try.prog X 19 ⟨f_slices_IndexFunc_string_l2c, f_slices_IndexFunc_string_l2v, f_slices_IndexFunc_string_l2e, loopF f_slices_IndexFunc_string_l2⟩ (.loop (loopAt 2 Try.f157)) ∧ True) by kernel_rfl) ⟨(f_slices_IndexFunc_string_l2Ok hX), trivial⟩)).1)
    (fun x r h => (f_slices_IndexFunc_stringEq x).trans h)
def fl128 : List (Nat × Sig) := [(157, sg157)]
def en128 : Env := { n := 9, ty := assocN tyL, fns := assocN fl128, lo := 0 }
def su128 : Bool → Nat → Option Sub | _, _ => none
theorem ok128 : EnvOk Try.prog en128 := envOk_of rfl rfl tyL_ok (⟨so157, trivial⟩)
theorem f_slices_ContainsFunc_stringEq (x : Ps ins128) : evF en128 su128 Try.f128 ins128 res128 x = f_slices_ContainsFunc_string x := by kernel_rfl
theorem so128 : Sound Try.prog 128 sg128 :=
  sound_of (fn := Try.f128) (c := bodyOf Try.f128) (subs := su128) (E := en128) (by kernel_rfl) (by kernel_rfl) (by decide) ok128 (by kernel_rfl) (by kernel_rfl) (by decide)
    (fun X hX => (GoodN.good (K := True) (Eq.mpr (show GoodN Try.prog X 9 en128 su128 (bodyOf Try.f128) True = (True) by kernel_rfl) trivial)).1)
    (fun x r h => (f_slices_ContainsFunc_stringEq x).trans h)
def fl89 : List (Nat × Sig) := [(128, sg128), (129, sg129)]
def en89 : Env := { n := 11, ty := assocN tyL, fns := assocN fl89, lo := 0 }
def su89 : Bool → Nat → Option Sub | _, _ => none
theorem ok89 : EnvOk Try.prog en89 := envOk_of rfl rfl tyL_ok (⟨so128, ⟨so129, trivial⟩⟩)
theorem f_impl_filesOkEq (x : Ps ins89) : evF en89 su89 Try.f89 ins89 res89 x = f_impl_filesOk x := by kernel_rfl
theorem so89 : Sound Try.prog 89 sg89 :=
  sound_of (fn := Try.f89) (c := bodyOf Try.f89) (subs := su89) (E := en89) (by kernel_rfl) (by kernel_rfl) (by decide) ok89 (by kernel_rfl) (by kernel_rfl) (by decide)
    (fun X hX => (GoodN.good (K := True) (Eq.mpr (show GoodN Try.prog X 11 en89 su89 (bodyOf Try.f89) True = (True) by kernel_rfl) trivial)).1)
    (fun x r h => (f_impl_filesOkEq x).trans h)
def fl59 : List (Nat × Sig) := []
def hi59 : List (Nat × (K × Mk)) := [(3, ((.sl (.int .u8)), (.o .s)))]
def en59 : Env := { n := 22, ty := assocN tyL, fns := assocN fl59, lo := 0, hint := assocN hi59 }
def su59 : Bool → Nat → Option Sub | true, 2 => some ⟨f_impl_varBytes_l2c, f_impl_varBytes_l2v, f_impl_varBytes_l2e, loopF f_impl_varBytes_l2⟩ | _, _ => none
theorem ok59 : EnvOk Try.prog en59 := envOk_of rfl rfl tyL_ok (trivial)
theorem f_impl_varBytes_l2Eq (R : Type) (c : Vars f_impl_varBytes_l2c) (v : Vars f_impl_varBytes_l2v) (kk : Vars f_impl_varBytes_l2c → (Vars f_impl_varBytes_l2v ⊕ Oc f_impl_varBytes_l2e) → Option R) : evC en59 su59 (loopAt 2 Try.f59) (Desc.mk2 f_impl_varBytes_l2v v (Desc.mk2 f_impl_varBytes_l2c c .empty)) (fun o => bodyK f_impl_varBytes_l2c f_impl_varBytes_l2v f_impl_varBytes_l2e o kk) = f_impl_varBytes_l2 R c v kk := by kernel_rfl
theorem f_impl_varBytes_l2Ok {X : Cx} (hX : en59.lo = X.lo) : SubOk Try.prog X 22 ⟨f_impl_varBytes_l2c, f_impl_varBytes_l2v, f_impl_varBytes_l2e, loopF f_impl_varBytes_l2⟩ (.loop (loopAt 2 Try.f59)) :=
  sub_loop (subs := su59) ok59 rfl hX (GoodN.good (K := True) (Eq.mpr (show GoodN Try.prog X 22 en59 su59 (loopAt 2 Try.f59) True = (True) by kernel_rfl) trivial)).1 (by decide) (by decide) f_impl_varBytes_l2Eq
theorem f_impl_varBytesEq (x : Ps ins59) : evF en59 su59 Try.f59 ins59 res59 x = f_impl_varBytes x := by kernel_rfl
theorem so59 : Sound Try.prog 59 sg59 :=
  sound_of (fn := Try.f59) (c := bodyOf Try.f59) (subs := su59) (E := en59) (by kernel_rfl) (by kernel_rfl) (by decide) ok59 (by kernel_rfl) (by kernel_rfl) (by decide)
    (fun X hX => (GoodN.good (K := True) (Eq.mpr (show GoodN Try.prog X 22 en59 su59 (bodyOf Try.f59) True = (SubOk Try.prog X 22 ⟨f_impl_varBytes_l2c, f_impl_varBytes_l2v, f_impl_varBytes_l2e, loopF f_impl_varBytes_l2⟩ (.loop (loopAt 2 Try.f59)) ∧ True) by kernel_rfl) ⟨(f_impl_varBytes_l2Ok hX), trivial⟩)).1)
    (fun x r h => (f_impl_varBytesEq x).trans h)
def fl160 : List (Nat × Sig) := []
def hi160 : List (Nat × (K × Mk)) := [(0, ((.sl (.int .u32)), (.o .s))), (1, ((.sl (.int .u32)), (.o .s)))]
def en160 : Env := { n := 25, ty := assocN tyL, fns := assocN fl160, lo := 0, hint := assocN hi160 }
def su160 : Bool → Nat → Option Sub | false, 10 => some ⟨f_impl_SumTable_i10c, f_impl_SumTable_i10v, f_impl_SumTable_i10e, f_impl_SumTable_i10⟩ | true, 6 => some ⟨f_impl_SumTable_l6c, f_impl_SumTable_l6v, f_impl_SumTable_l6e, loopF f_impl_SumTable_l6⟩ | true, 3 => some ⟨f_impl_SumTable_l3c, f_impl_SumTable_l3v, f_impl_SumTable_l3e, loopF f_impl_SumTable_l3⟩ | _, _ => none
theorem ok160 : EnvOk Try.prog en160 := envOk_of rfl rfl tyL_ok (trivial)
def su160i10 : Bool → Nat → Option Sub | true, 6 => some ⟨f_impl_SumTable_l6c, f_impl_SumTable_l6v, f_impl_SumTable_l6e, loopF f_impl_SumTable_l6⟩ | true, 3 => some ⟨f_impl_SumTable_l3c, f_impl_SumTable_l3v, f_impl_SumTable_l3e, loopF f_impl_SumTable_l3⟩ | _, _ => none
theorem f_impl_SumTable_i10Eq (R : Type) (c : Vars f_impl_SumTable_i10c) (v : Vars f_impl_SumTable_i10v) (kk : Vars f_impl_SumTable_i10c → Oc f_impl_SumTable_i10e → Option R) : evC en160 su160i10 (ifAt 10 Try.f160) (Desc.mk2 f_impl_SumTable_i10v v (Desc.mk2 f_impl_SumTable_i10c c .empty)) (fun o => chk f_impl_SumTable_i10c f_impl_SumTable_i10e o kk) = f_impl_SumTable_i10 R c v kk := by kernel_rfl
theorem f_impl_SumTable_i10Ok {X : Cx} (hX : en160.lo = X.lo) : SubOk Try.prog X 25 ⟨f_impl_SumTable_i10c, f_impl_SumTable_i10v, f_impl_SumTable_i10e, f_impl_SumTable_i10⟩ (ifAt 10 Try.f160) :=
  sub_if (u := ⟨f_impl_SumTable_i10c, f_impl_SumTable_i10v, f_impl_SumTable_i10e, f_impl_SumTable_i10⟩) (subs := su160i10) ok160 rfl hX (GoodN.good (K := True) (Eq.mpr (show GoodN Try.prog X 25 en160 su160i10 (ifAt 10 Try.f160) True = (True) by kernel_rfl) trivial)).1 (by decide) (by decide) f_impl_SumTable_i10Eq
theorem f_impl_SumTable_l6Eq (R : Type) (c : Vars f_impl_SumTable_l6c) (v : Vars f_impl_SumTable_l6v) (kk : Vars f_impl_SumTable_l6c → (Vars f_impl_SumTable_l6v ⊕ Oc f_impl_SumTable_l6e) → Option R) : evC en160 su160 (loopAt 6 Try.f160) (Desc.mk2 f_impl_SumTable_l6v v (Desc.mk2 f_impl_SumTable_l6c c .empty)) (fun o => bodyK f_impl_SumTable_l6c f_impl_SumTable_l6v f_impl_SumTable_l6e o kk) = f_impl_SumTable_l6 R c v kk := by kernel_rfl
theorem f_impl_SumTable_l6Ok {X : Cx} (hX : en160.lo = X.lo) : SubOk Try.prog X 25 ⟨f_impl_SumTable_l6c, f_impl_SumTable_l6v, f_impl_SumTable_l6e, loopF f_impl_SumTable_l6⟩ (.loop (loopAt 6 Try.f160)) :=
  sub_loop (subs := su160) ok160 rfl hX (GoodN.good (K := True) (Eq.mpr (show GoodN Try.prog X 25 en160 su160 (loopAt 6 Try.f160) True = (SubOk Try.prog X 25 ⟨f_impl_SumTable_i10c, f_impl_SumTable_i10v, f_impl_SumTable_i10e, f_impl_SumTable_i10⟩ (ifAt 10 Try.f160) ∧ True) by kernel_rfl) ⟨(f_impl_SumTable_i10Ok hX), trivial⟩)).1 (by decide) (by decide) f_impl_SumTable_l6Eq
theorem f_impl_SumTable_l3Eq (R : Type) (c : Vars f_impl_SumTable_l3c) (v : Vars f_impl_SumTable_l3v) (kk : Vars f_impl_SumTable_l3c → (Vars f_impl_SumTable_l3v ⊕ Oc f_impl_SumTable_l3e) → Option R) : evC en160 su160 (loopAt 3 Try.f160) (Desc.mk2 f_impl_SumTable_l3v v (Desc.mk2 f_impl_SumTable_l3c c .empty)) (fun o => bodyK f_impl_SumTable_l3c f_impl_SumTable_l3v f_impl_SumTable_l3e o kk) = f_impl_SumTable_l3 R c v kk := by kernel_rfl
theorem f_impl_SumTable_l3Ok {X : Cx} (hX : en160.lo = X.lo) : SubOk Try.prog X 25 ⟨f_impl_SumTable_l3c, f_impl_SumTable_l3v, f_impl_SumTable_l3e, loopF f_impl_SumTable_l3⟩ (.loop (loopAt 3 Try.f160)) :=
  sub_loop (subs := su160) ok160 rfl hX (GoodN.good (K := True) (Eq.mpr (show GoodN Try.prog X 25 en160 su160 (loopAt 3 Try.f160) True = (SubOk Try.prog X 25 ⟨f_impl_SumTable_l6c, f_impl_SumTable_l6v, f_impl_SumTable_l6e, loopF f_impl_SumTable_l6⟩ (.loop (loopAt 6 Try.f160)) ∧ True) by kernel_rfl) ⟨(f_impl_SumTable_l6Ok hX), trivial⟩)).1 (by decide) (by decide) f_impl_SumTable_l3Eq
theorem f_impl_SumTableEq (x : Ps ins160) : evF en160 su160 Try.f160 ins160 res160 x = f_impl_SumTable x := by kernel_rfl
theorem so160 : Sound Try.prog 160 sg160 :=
  sound_of (fn := Try.f160) (c := bodyOf Try.f160) (subs := su160) (E := en160) (by kernel_rfl) (by kernel_rfl) (by decide) ok160 (by kernel_rfl) (by kernel_rfl) (by decide)
    (fun X hX => (GoodN.good (K := True) (Eq.mpr (show GoodN Try.prog X 25 en160 su160 (bodyOf Try.f160) True = (SubOk Try.prog X 25 ⟨f_impl_SumTable_l3c, f_impl_SumTable_l3v, f_impl_SumTable_l3e, loopF f_impl_SumTable_l3⟩ (.loop (loopAt 3 Try.f160)) ∧ True) by kernel_rfl) ⟨(f_impl_SumTable_l3Ok hX), trivial⟩)).1)
    (fun x r h => (f_impl_SumTableEq x).trans h)
def fl139 : List (Nat × Sig) := [(160, sg160)]
def hi139 : List (Nat × (K × Mk)) := [(5, ((.sl (.int .u32)), (.o .s)))]
def en139 : Env := { n := 27, ty := assocN tyL, fns := assocN fl139, lo := 0, hint := assocN hi139 }
def su139 : Bool → Nat → Option Sub | true, 3 => some ⟨f_impl_SumOn_l3c, f_impl_SumOn_l3v, f_impl_SumOn_l3e, loopF f_impl_SumOn_l3⟩ | _, _ => none
theorem ok139 : EnvOk Try.prog en139 := envOk_of rfl rfl tyL_ok (⟨so160, trivial⟩)
theorem f_impl_SumOn_l3Eq (R : Type) (c : Vars f_impl_SumOn_l3c) (v : Vars f_impl_SumOn_l3v) (kk : Vars f_impl_SumOn_l3c → (Vars f_impl_SumOn_l3v ⊕ Oc f_impl_SumOn_l3e) → Option R) : evC en139 su139 (loopAt 3 Try.f139) (Desc.mk2 f_impl_SumOn_l3v v (Desc.mk2 f_impl_SumOn_l3c c .empty)) (fun o => bodyK f_impl_SumOn_l3c f_impl_SumOn_l3v f_impl_SumOn_l3e o kk) = f_impl_SumOn_l3 R c v kk := by kernel_rfl
theorem f_impl_SumOn_l3Ok {X : Cx} (hX : en139.lo = X.lo) : SubOk Try.prog X 27 ⟨f_impl_SumOn_l3c, f_impl_SumOn_l3v, f_impl_SumOn_l3e, loopF f_impl_SumOn_l3⟩ (.loop (loopAt 3 Try.f139)) :=
  sub_loop (subs := su139) ok139 rfl hX (GoodN.good (K := True) (Eq.mpr (show GoodN Try.prog X 27 en139 su139 (loopAt 3 Try.f139) True = (True) by kernel_rfl) trivial)).1 (by decide) (by decide) f_impl_SumOn_l3Eq
theorem f_impl_SumOnEq (x : Ps ins139) : evF en139 su139 Try.f139 ins139 res139 x = f_impl_SumOn x := by kernel_rfl
theorem so139 : Sound Try.prog 139 sg139 :=
  sound_of (fn := Try.f139) (c := bodyOf Try.f139) (subs := su139) (E := en139) (by kernel_rfl) (by kernel_rfl) (by decide) ok139 (by kernel_rfl) (by kernel_rfl) (by decide)
    (fun X hX => (GoodN.good (K := True) (Eq.mpr (show GoodN Try.prog X 27 en139 su139 (bodyOf Try.f139) True = (SubOk Try.prog X 27 ⟨f_impl_SumOn_l3c, f_impl_SumOn_l3v, f_impl_SumOn_l3e, loopF f_impl_SumOn_l3⟩ (.loop (loopAt 3 Try.f139)) ∧ True) by kernel_rfl) ⟨(f_impl_SumOn_l3Ok hX), trivial⟩)).1)
    (fun x r h => (f_impl_SumOnEq x).trans h)
def fl102 : List (Nat × Sig) := [(139, sg139)]
def en102 : Env := { n := 6, ty := assocN tyL, fns := assocN fl102, lo := 0 }
def su102 : Bool → Nat → Option Sub | _, _ => none
theorem ok102 : EnvOk Try.prog en102 := envOk_of rfl rfl tyL_ok (⟨so139, trivial⟩)
theorem f_impl_SumOfEq (x : Ps ins102) : evF en102 su102 Try.f102 ins102 res102 x = f_impl_SumOf x := by kernel_rfl
theorem so102 : Sound Try.prog 102 sg102 :=
  sound_of (fn := Try.f102) (c := bodyOf Try.f102) (subs := su102) (E := en102) (by kernel_rfl) (by kernel_rfl) (by decide) ok102 (by kernel_rfl) (by kernel_rfl) (by decide)
    (fun X hX => (GoodN.good (K := True) (Eq.mpr (show GoodN Try.prog X 6 en102 su102 (bodyOf Try.f102) True = (True) by kernel_rfl) trivial)).1)
    (fun x r h => (f_impl_SumOfEq x).trans h)
def fl130 : List (Nat × Sig) := [(59, sg59), (102, sg102)]
def en130 : Env := { n := 17, ty := assocN tyL, fns := assocN fl130, lo := 0 }
def su130 : Bool → Nat → Option Sub | _, _ => none
theorem ok130 : EnvOk Try.prog en130 := envOk_of rfl rfl tyL_ok (⟨so59, ⟨so102, trivial⟩⟩)
theorem f_impl_ChunkSumEq (x : Ps ins130) : evF en130 su130 Try.f130 ins130 res130 x = f_impl_ChunkSum x := by kernel_rfl
theorem so130 : Sound Try.prog 130 sg130 :=
  sound_of (fn := Try.f130) (c := bodyOf Try.f130) (subs := su130) (E := en130) (by kernel_rfl) (by kernel_rfl) (by decide) ok130 (by kernel_rfl) (by kernel_rfl) (by decide)
    (fun X hX => (GoodN.good (K := True) (Eq.mpr (show GoodN Try.prog X 17 en130 su130 (bodyOf Try.f130) True = (True) by kernel_rfl) trivial)).1)
    (fun x r h => (f_impl_ChunkSumEq x).trans h)
def fl90 : List (Nat × Sig) := [(130, sg130)]
def hi90 : List (Nat × (K × Mk)) := [(2, ((.sl kdChunk), (.o .s))), (3, ((.sl kdChunk), (.o .s)))]
def en90 : Env := { n := 43, ty := assocN tyL, fns := assocN fl90, lo := 0, hint := assocN hi90 }
def su90 : Bool → Nat → Option Sub | true, 6 => some ⟨f_impl_chunks_l6c, f_impl_chunks_l6v, f_impl_chunks_l6e, loopF f_impl_chunks_l6⟩ | true, 3 => some ⟨f_impl_chunks_l3c, f_impl_chunks_l3v, f_impl_chunks_l3e, loopF f_impl_chunks_l3⟩ | _, _ => none
theorem ok90 : EnvOk Try.prog en90 := envOk_of rfl rfl tyL_ok (⟨so130, trivial⟩)
theorem f_impl_chunks_l6Eq (R : Type) (c : Vars f_impl_chunks_l6c) (v : Vars f_impl_chunks_l6v) (kk : Vars f_impl_chunks_l6c → (Vars f_impl_chunks_l6v ⊕ Oc f_impl_chunks_l6e) → Option R) : evC en90 su90 (loopAt 6 Try.f90) (Desc.mk2 f_impl_chunks_l6v v (Desc.mk2 f_impl_chunks_l6c c .empty)) (fun o => bodyK f_impl_chunks_l6c f_impl_chunks_l6v f_impl_chunks_l6e o kk) = f_impl_chunks_l6 R c v kk := by kernel_rfl
theorem f_impl_chunks_l6Ok {X : Cx} (hX : en90.lo = X.lo) : SubOk Try.prog X 43 ⟨f_impl_chunks_l6c, f_impl_chunks_l6v, f_impl_chunks_l6e, loopF f_impl_chunks_l6⟩ (.loop (loopAt 6 Try.f90)) :=
  sub_loop (subs := su90) ok90 rfl hX (GoodN.good (K := True) (Eq.mpr (show GoodN Try.prog X 43 en90 su90 (loopAt 6 Try.f90) True = (True) by kernel_rfl) trivial)).1 (by decide) (by decide) f_impl_chunks_l6Eq
theorem f_impl_chunks_l3Eq (R : Type) (c : Vars f_impl_chunks_l3c) (v : Vars f_impl_chunks_l3v) (kk : Vars f_impl_chunks_l3c → (Vars f_impl_chunks_l3v ⊕ Oc f_impl_chunks_l3e) → Option R) : evC en90 su90 (loopAt 3 Try.f90) (Desc.mk2 f_impl_chunks_l3v v (Desc.mk2 f_impl_chunks_l3c c .empty)) (fun o => bodyK f_impl_chunks_l3c f_impl_chunks_l3v f_impl_chunks_l3e o kk) = f_impl_chunks_l3 R c v kk := by kernel_rfl
theorem f_impl_chunks_l3Ok {X : Cx} (hX : en90.lo = X.lo) : SubOk Try.prog X 43 ⟨f_impl_chunks_l3c, f_impl_chunks_l3v, f_impl_chunks_l3e, loopF f_impl_chunks_l3⟩ (.loop (loopAt 3 Try.f90)) :=
  sub_loop (subs := su90) ok90 rfl hX (GoodN.good (K := True) (Eq.mpr (show GoodN Try.prog X 43 en90 su90 (loopAt 3 Try.f90) True = (SubOk Try.prog X 43 ⟨f_impl_chunks_l6c, f_impl_chunks_l6v, f_impl_chunks_l6e, loopF f_impl_chunks_l6⟩ (.loop (loopAt 6 Try.f90)) ∧ True) by kernel_rfl) ⟨(f_impl_chunks_l6Ok hX), trivial⟩)).1 (by decide) (by decide) f_impl_chunks_l3Eq
theorem f_impl_chunksEq (x : Ps ins90) : evF en90 su90 Try.f90 ins90 res90 x = f_impl_chunks x := by kernel_rfl
theorem so90 : Sound Try.prog 90 sg90 :=
  sound_of (fn := Try.f90) (c := bodyOf Try.f90) (subs := su90) (E := en90) (by kernel_rfl) (by kernel_rfl) (by decide) ok90 (by kernel_rfl) (by kernel_rfl) (by decide)
    (fun X hX => (GoodN.good (K := True) (Eq.mpr (show GoodN Try.prog X 43 en90 su90 (bodyOf Try.f90) True = (SubOk Try.prog X 43 ⟨f_impl_chunks_l3c, f_impl_chunks_l3v, f_impl_chunks_l3e, loopF f_impl_chunks_l3⟩ (.loop (loopAt 3 Try.f90)) ∧ True) by kernel_rfl) ⟨(f_impl_chunks_l3Ok hX), trivial⟩)).1)
    (fun x r h => (f_impl_chunksEq x).trans h)
def fl36 : List (Nat × Sig) := [(89, sg89), (90, sg90)]
def hi36 : List (Nat × (K × Mk)) := [(2, ((.sl kdChunk), (.o .s))), (4, ((.sl kdChunk), (.o .s)))]
def en36 : Env := { n := 14, ty := assocN tyL, fns := assocN fl36, lo := 0, hint := assocN hi36 }
def su36 : Bool → Nat → Option Sub | _, _ => none
theorem ok36 : EnvOk Try.prog en36 := envOk_of rfl rfl tyL_ok (⟨so89, ⟨so90, trivial⟩⟩)
theorem f_impl_ChunksOfEq (x : Ps ins36) : evF en36 su36 Try.f36 ins36 res36 x = f_impl_ChunksOf x := by kernel_rfl
theorem so36 : Sound Try.prog 36 sg36 :=
  sound_of (fn := Try.f36) (c := bodyOf Try.f36) (subs := su36) (E := en36) (by kernel_rfl) (by kernel_rfl) (by decide) ok36 (by kernel_rfl) (by kernel_rfl) (by decide)
    (fun X hX => (GoodN.good (K := True) (Eq.mpr (show GoodN Try.prog X 14 en36 su36 (bodyOf Try.f36) True = (True) by kernel_rfl) trivial)).1)
    (fun x r h => (f_impl_ChunksOfEq x).trans h)
def fl80 : List (Nat × Sig) := [(102, sg102)]
def hi80 : List (Nat × (K × Mk)) := [(2, ((.sl kdWanted), (.o .s))), (3, ((.sl kdWanted), (.o .s)))]
def en80 : Env := { n := 23, ty := assocN tyL, fns := assocN fl80, lo := 0, hint := assocN hi80 }
def su80 : Bool → Nat → Option Sub | true, 3 => some ⟨f_impl_want_l3c, f_impl_want_l3v, f_impl_want_l3e, loopF f_impl_want_l3⟩ | _, _ => none
theorem ok80 : EnvOk Try.prog en80 := envOk_of rfl rfl tyL_ok (⟨so102, trivial⟩)
theorem f_impl_want_l3Eq (R : Type) (c : Vars f_impl_want_l3c) (v : Vars f_impl_want_l3v) (kk : Vars f_impl_want_l3c → (Vars f_impl_want_l3v ⊕ Oc f_impl_want_l3e) → Option R) : evC en80 su80 (loopAt 3 Try.f80) (Desc.mk2 f_impl_want_l3v v (Desc.mk2 f_impl_want_l3c c .empty)) (fun o => bodyK f_impl_want_l3c f_impl_want_l3v f_impl_want_l3e o kk) = f_impl_want_l3 R c v kk := by kernel_rfl
theorem f_impl_want_l3Ok {X : Cx} (hX : en80.lo = X.lo) : SubOk Try.prog X 23 ⟨f_impl_want_l3c, f_impl_want_l3v, f_impl_want_l3e, loopF f_impl_want_l3⟩ (.loop (loopAt 3 Try.f80)) :=
  sub_loop (subs := su80) ok80 rfl hX (GoodN.good (K := True) (Eq.mpr (show GoodN Try.prog X 23 en80 su80 (loopAt 3 Try.f80) True = (True) by kernel_rfl) trivial)).1 (by decide) (by decide) f_impl_want_l3Eq
theorem f_impl_wantEq (x : Ps ins80) : evF en80 su80 Try.f80 ins80 res80 x = f_impl_want x := by kernel_rfl
theorem so80 : Sound Try.prog 80 sg80 :=
  sound_of (fn := Try.f80) (c := bodyOf Try.f80) (subs := su80) (E := en80) (by kernel_rfl) (by kernel_rfl) (by decide) ok80 (by kernel_rfl) (by kernel_rfl) (by decide)
    (fun X hX => (GoodN.good (K := True) (Eq.mpr (show GoodN Try.prog X 23 en80 su80 (bodyOf Try.f80) True = (SubOk Try.prog X 23 ⟨f_impl_want_l3c, f_impl_want_l3v, f_impl_want_l3e, loopF f_impl_want_l3⟩ (.loop (loopAt 3 Try.f80)) ∧ True) by kernel_rfl) ⟨(f_impl_want_l3Ok hX), trivial⟩)).1)
    (fun x r h => (f_impl_wantEq x).trans h)
def fl81 : List (Nat × Sig) := []
def en81 : Env := { n := 15, ty := assocN tyL, fns := assocN fl81, lo := 0 }
def su81 : Bool → Nat → Option Sub | _, _ => none
theorem ok81 : EnvOk Try.prog en81 := envOk_of rfl rfl tyL_ok (trivial)
theorem f_impl_inEq (x : Ps ins81) : evF en81 su81 Try.f81 ins81 res81 x = f_impl_in x := by kernel_rfl
theorem so81 : Sound Try.prog 81 sg81 :=
  sound_of (fn := Try.f81) (c := bodyOf Try.f81) (subs := su81) (E := en81) (by kernel_rfl) (by kernel_rfl) (by decide) ok81 (by kernel_rfl) (by kernel_rfl) (by decide)
    (fun X hX => (GoodN.good (K := True) (Eq.mpr (show GoodN Try.prog X 15 en81 su81 (bodyOf Try.f81) True = (True) by kernel_rfl) trivial)).1)
    (fun x r h => (f_impl_inEq x).trans h)
def fl82 : List (Nat × Sig) := [(81, sg81)]
def hi82 : List (Nat × (K × Mk)) := [(5, ((.sl (.int .u8)), (.o .s)))]
def en82 : Env := { n := 28, ty := assocN tyL, fns := assocN fl82, lo := 0, hint := assocN hi82 }
def su82 : Bool → Nat → Option Sub | _, _ => none
theorem ok82 : EnvOk Try.prog en82 := envOk_of rfl rfl tyL_ok (⟨so81, trivial⟩)
theorem dr82r4 {X : Cx} (hX : en82.lo = X.lo) : RegOk Try.prog X 28 en82 4 (regAt 4 Try.f82) := regOk_of ok82 rfl hX (by kernel_rfl) (by kernel_rfl)
theorem f_impl_flippedEq (x : Ps ins82) : evF en82 su82 Try.f82 ins82 res82 x = f_impl_flipped x := by kernel_rfl
theorem so82 : Sound Try.prog 82 sg82 :=
  sound_of (fn := Try.f82) (c := bodyOf Try.f82) (subs := su82) (E := en82) (by kernel_rfl) (by kernel_rfl) (by decide) ok82 (by kernel_rfl) (by kernel_rfl) (by decide)
    (fun X hX => (GoodN.good (K := True) (Eq.mpr (show GoodN Try.prog X 28 en82 su82 (bodyOf Try.f82) True = (RegOk Try.prog X 28 en82 4 (regAt 4 Try.f82) ∧ True) by kernel_rfl) ⟨(dr82r4 hX), trivial⟩)).1)
    (fun x r h => (f_impl_flippedEq x).trans h)
def fl100 : List (Nat × Sig) := [(81, sg81), (130, sg130)]
def en100 : Env := { n := 58, ty := assocN tyL, fns := assocN fl100, lo := 1 }
def su100 : Bool → Nat → Option Sub | _, _ => none
theorem ok100 : EnvOk Try.prog en100 := envOk_of rfl rfl tyL_ok (⟨so81, ⟨so130, trivial⟩⟩)
theorem dr100r1 {X : Cx} (hX : en100.lo = X.lo) : RegOk Try.prog X 58 en100 1 (regAt 1 Try.f100) := regOk_of ok100 rfl hX (by kernel_rfl) (by kernel_rfl)
theorem dr100r3 {X : Cx} (hX : en100.lo = X.lo) : RegOk Try.prog X 58 en100 3 (regAt 3 Try.f100) := regOk_of ok100 rfl hX (by kernel_rfl) (by kernel_rfl)
theorem dr100r6 {X : Cx} (hX : en100.lo = X.lo) : RegOk Try.prog X 58 en100 6 (regAt 6 Try.f100) := regOk_of ok100 rfl hX (by kernel_rfl) (by kernel_rfl)
theorem f_impl_Taking_chunkOkEq (x : Ps ins100) : evF en100 su100 Try.f100 ins100 res100 x = f_impl_Taking_chunkOk x := by kernel_rfl
theorem so100 : Sound Try.prog 100 sg100 :=
  sound_of (fn := Try.f100) (c := bodyOf Try.f100) (subs := su100) (E := en100) (by kernel_rfl) (by kernel_rfl) (by decide) ok100 (by kernel_rfl) (by kernel_rfl) (by decide)
    (fun X hX => (GoodN.good (K := True) (Eq.mpr (show GoodN Try.prog X 58 en100 su100 (bodyOf Try.f100) True = (RegOk Try.prog X 58 en100 1 (regAt 1 Try.f100) ∧ RegOk Try.prog X 58 en100 3 (regAt 3 Try.f100) ∧ RegOk Try.prog X 58 en100 6 (regAt 6 Try.f100) ∧ True) by kernel_rfl) ⟨(dr100r1 hX), (dr100r3 hX), (dr100r6 hX), trivial⟩)).1)
    (fun x r h => (f_impl_Taking_chunkOkEq x).trans h)
def fl159 : List (Nat × Sig) := []
def en159 : Env := { n := 6, ty := assocN tyL, fns := assocN fl159, lo := 0 }
def su159 : Bool → Nat → Option Sub | _, _ => none
theorem ok159 : EnvOk Try.prog en159 := envOk_of rfl rfl tyL_ok (trivial)
theorem f_cmp_isNaN_intEq (x : Ps ins159) : evF en159 su159 Try.f159 ins159 res159 x = f_cmp_isNaN_int x := by kernel_rfl
theorem so159 : Sound Try.prog 159 sg159 :=
  sound_of (fn := Try.f159) (c := bodyOf Try.f159) (subs := su159) (E := en159) (by kernel_rfl) (by kernel_rfl) (by decide) ok159 (by kernel_rfl) (by kernel_rfl) (by decide)
    (fun X hX => (GoodN.good (K := True) (Eq.mpr (show GoodN Try.prog X 6 en159 su159 (bodyOf Try.f159) True = (True) by kernel_rfl) trivial)).1)
    (fun x r h => (f_cmp_isNaN_intEq x).trans h)
def fl138 : List (Nat × Sig) := [(159, sg159)]
def en138 : Env := { n := 20, ty := assocN tyL, fns := assocN fl138, lo := 0 }
def su138 : Bool → Nat → Option Sub | _, _ => none
theorem ok138 : EnvOk Try.prog en138 := envOk_of rfl rfl tyL_ok (⟨so159, trivial⟩)
theorem f_cmp_Compare_intEq (x : Ps ins138) : evF en138 su138 Try.f138 ins138 res138 x = f_cmp_Compare_int x := by kernel_rfl
theorem so138 : Sound Try.prog 138 sg138 :=
  sound_of (fn := Try.f138) (c := bodyOf Try.f138) (subs := su138) (E := en138) (by kernel_rfl) (by kernel_rfl) (by decide) ok138 (by kernel_rfl) (by kernel_rfl) (by decide)
    (fun X hX => (GoodN.good (K := True) (Eq.mpr (show GoodN Try.prog X 20 en138 su138 (bodyOf Try.f138) True = (True) by kernel_rfl) trivial)).1)
    (fun x r h => (f_cmp_Compare_intEq x).trans h)
def fl137 : List (Nat × Sig) := []
def en137 : Env := { n := 18, ty := assocN tyL, fns := assocN fl137, lo := 0 }
def su137 : Bool → Nat → Option Sub | true, 3 => some ⟨f_cmp_Or_int_l3c, f_cmp_Or_int_l3v, f_cmp_Or_int_l3e, loopF f_cmp_Or_int_l3⟩ | _, _ => none
theorem ok137 : EnvOk Try.prog en137 := envOk_of rfl rfl tyL_ok (trivial)
theorem f_cmp_Or_int_l3Eq (R : Type) (c : Vars f_cmp_Or_int_l3c) (v : Vars f_cmp_Or_int_l3v) (kk : Vars f_cmp_Or_int_l3c → (Vars f_cmp_Or_int_l3v ⊕ Oc f_cmp_Or_int_l3e) → Option R) : evC en137 su137 (loopAt 3 Try.f137) (Desc.mk2 f_cmp_Or_int_l3v v (Desc.mk2 f_cmp_Or_int_l3c c .empty)) (fun o => bodyK f_cmp_Or_int_l3c f_cmp_Or_int_l3v f_cmp_Or_int_l3e o kk) = f_cmp_Or_int_l3 R c v kk := by kernel_rfl
theorem f_cmp_Or_int_l3Ok {X : Cx} (hX : en137.lo = X.lo) : SubOk Try.prog X 18 ⟨f_cmp_Or_int_l3c, f_cmp_Or_int_l3v, f_cmp_Or_int_l3e, loopF f_cmp_Or_int_l3⟩ (.loop (loopAt 3 Try.f137)) :=
  sub_loop (subs := su137) ok137 rfl hX (GoodN.good (K := True) (Eq.mpr (show GoodN Try.prog X 18 en137 su137 (loopAt 3 Try.f137) True = (True) by kernel_rfl) trivial)).1 (by decide) (by decide) f_cmp_Or_int_l3Eq
theorem f_cmp_Or_intEq (x : Ps ins137) : evF en137 su137 Try.f137 ins137 res137 x = f_cmp_Or_int x := by kernel_rfl
theorem so137 : Sound Try.prog 137 sg137 :=
  sound_of (fn := Try.f137) (c := bodyOf Try.f137) (subs := su137) (E := en137) (by kernel_rfl) (by kernel_rfl) (by decide) ok137 (by kernel_rfl) (by kernel_rfl) (by decide)
    (fun X hX => (GoodN.good (K := True) (Eq.mpr (show GoodN Try.prog X 18 en137 su137 (bodyOf Try.f137) True = (SubOk Try.prog X 18 ⟨f_cmp_Or_int_l3c, f_cmp_Or_int_l3v, f_cmp_Or_int_l3e, loopF f_cmp_Or_int_l3⟩ (.loop (loopAt 3 Try.f137)) ∧ True) by kernel_rfl) ⟨(f_cmp_Or_int_l3Ok hX), trivial⟩)).1)
    (fun x r h => (f_cmp_Or_intEq x).trans h)
def fl101 : List (Nat × Sig) := [(137, sg137), (138, sg138)]
def en101 : Env := { n := 17, ty := assocN tyL, fns := assocN fl101, lo := 0 }
def su101 : Bool → Nat → Option Sub | _, _ => none
theorem ok101 : EnvOk Try.prog en101 := envOk_of rfl rfl tyL_ok (⟨so137, ⟨so138, trivial⟩⟩)
theorem dr101r1 {X : Cx} (hX : en101.lo = X.lo) : RegOk Try.prog X 17 en101 1 (regAt 1 Try.f101) := regOk_of ok101 rfl hX (by kernel_rfl) (by kernel_rfl)
theorem f_impl_chunkOrderEq (x : Ps ins101) : evF en101 su101 Try.f101 ins101 res101 x = f_impl_chunkOrder x := by kernel_rfl
theorem so101 : Sound Try.prog 101 sg101 :=
  sound_of (fn := Try.f101) (c := bodyOf Try.f101) (subs := su101) (E := en101) (by kernel_rfl) (by kernel_rfl) (by decide) ok101 (by kernel_rfl) (by kernel_rfl) (by decide)
    (fun X hX => (GoodN.good (K := True) (Eq.mpr (show GoodN Try.prog X 17 en101 su101 (bodyOf Try.f101) True = (RegOk Try.prog X 17 en101 1 (regAt 1 Try.f101) ∧ True) by kernel_rfl) ⟨(dr101r1 hX), trivial⟩)).1)
    (fun x r h => (f_impl_chunkOrderEq x).trans h)
def fl122 : List (Nat × Sig) := []
def en122 : Env := { n := 49, ty := assocN tyL, fns := assocN fl122, lo := 0 }
def su122 : Bool → Nat → Option Sub | false, 6 => some ⟨f_slices_BinarySearchFunc_Chunk_i6c, f_slices_BinarySearchFunc_Chunk_i6v, f_slices_BinarySearchFunc_Chunk_i6e, f_slices_BinarySearchFunc_Chunk_i6⟩ | true, 3 => some ⟨f_slices_BinarySearchFunc_Chunk_l3c, f_slices_BinarySearchFunc_Chunk_l3v, f_slices_BinarySearchFunc_Chunk_l3e, loopF f_slices_BinarySearchFunc_Chunk_l3⟩ | _, _ => none
theorem ok122 : EnvOk Try.prog en122 := envOk_of rfl rfl tyL_ok (trivial)
theorem dr122r5 {X : Cx} (hX : en122.lo = X.lo) : RegOk Try.prog X 49 en122 5 (regAt 5 Try.f122) := regOk_of ok122 rfl hX (by kernel_rfl) (by kernel_rfl)
theorem dr122r8 {X : Cx} (hX : en122.lo = X.lo) : RegOk Try.prog X 49 en122 8 (regAt 8 Try.f122) := regOk_of ok122 rfl hX (by kernel_rfl) (by kernel_rfl)
def su122i6 : Bool → Nat → Option Sub | true, 3 => some ⟨f_slices_BinarySearchFunc_Chunk_l3c, f_slices_BinarySearchFunc_Chunk_l3v, f_slices_BinarySearchFunc_Chunk_l3e, loopF f_slices_BinarySearchFunc_Chunk_l3⟩ | _, _ => none
theorem f_slices_BinarySearchFunc_Chunk_i6Eq (R : Type) (c : Vars f_slices_BinarySearchFunc_Chunk_i6c) (v : Vars f_slices_BinarySearchFunc_Chunk_i6v) (kk : Vars f_slices_BinarySearchFunc_Chunk_i6c → Oc f_slices_BinarySearchFunc_Chunk_i6e → Option R) : evC en122 su122i6 (ifAt 6 Try.f122) (Desc.mk2 f_slices_BinarySearchFunc_Chunk_i6v v (Desc.mk2 f_slices_BinarySearchFunc_Chunk_i6c c .empty)) (fun o => chk f_slices_BinarySearchFunc_Chunk_i6c f_slices_BinarySearchFunc_Chunk_i6e o kk) = f_slices_BinarySearchFunc_Chunk_i6 R c v kk := by kernel_rfl
theorem f_slices_BinarySearchFunc_Chunk_i6Ok {X : Cx} (hX : en122.lo = X.lo) : SubOk Try.prog X 49 ⟨f_slices_BinarySearchFunc_Chunk_i6c, f_slices_BinarySearchFunc_Chunk_i6v, f_slices_BinarySearchFunc_Chunk_i6e, f_slices_BinarySearchFunc_Chunk_i6⟩ (ifAt 6 Try.f122) :=
  sub_if (u := ⟨f_slices_BinarySearchFunc_Chunk_i6c, f_slices_BinarySearchFunc_Chunk_i6v, f_slices_BinarySearchFunc_Chunk_i6e, f_slices_BinarySearchFunc_Chunk_i6⟩) (subs := su122i6) ok122 rfl hX (GoodN.good (K := True) (Eq.mpr (show GoodN Try.prog X 49 en122 su122i6 (ifAt 6 Try.f122) True = (True) by kernel_rfl) trivial)).1 (by decide) (by decide) f_slices_BinarySearchFunc_Chunk_i6Eq
theorem f_slices_BinarySearchFunc_Chunk_l3Eq (R : Type) (c : Vars f_slices_BinarySearchFunc_Chunk_l3c) (v : Vars f_slices_BinarySearchFunc_Chunk_l3v) (kk : Vars f_slices_BinarySearchFunc_Chunk_l3c → (Vars f_slices_BinarySearchFunc_Chunk_l3v ⊕ Oc f_slices_BinarySearchFunc_Chunk_l3e) → Option R) : evC en122 su122 (loopAt 3 Try.f122) (Desc.mk2 f_slices_BinarySearchFunc_Chunk_l3v v (Desc.mk2 f_slices_BinarySearchFunc_Chunk_l3c c .empty)) (fun o => bodyK f_slices_BinarySearchFunc_Chunk_l3c f_slices_BinarySearchFunc_Chunk_l3v f_slices_BinarySearchFunc_Chunk_l3e o kk) = f_slices_BinarySearchFunc_Chunk_l3 R c v kk := by kernel_rfl
theorem f_slices_BinarySearchFunc_Chunk_l3Ok {X : Cx} (hX : en122.lo = X.lo) : SubOk Try.prog X 49 ⟨f_slices_BinarySearchFunc_Chunk_l3c, f_slices_BinarySearchFunc_Chunk_l3v, f_slices_BinarySearchFunc_Chunk_l3e, loopF f_slices_BinarySearchFunc_Chunk_l3⟩ (.loop (loopAt 3 Try.f122)) :=
  sub_loop (subs := su122) ok122 rfl hX (GoodN.good (K := True) (Eq.mpr (show GoodN Try.prog X 49 en122 su122 (loopAt 3 Try.f122) True = (RegOk Try.prog X 49 en122 5 (regAt 5 Try.f122) ∧ SubOk Try.prog X 49 ⟨f_slices_BinarySearchFunc_Chunk_i6c, f_slices_BinarySearchFunc_Chunk_i6v, f_slices_BinarySearchFunc_Chunk_i6e, f_slices_BinarySearchFunc_Chunk_i6⟩ (ifAt 6 Try.f122) ∧ True) by kernel_rfl) ⟨(dr122r5 hX), (f_slices_BinarySearchFunc_Chunk_i6Ok hX), trivial⟩)).1 (by decide) (by decide) f_slices_BinarySearchFunc_Chunk_l3Eq
theorem f_slices_BinarySearchFunc_ChunkEq (x : Ps ins122) : evF en122 su122 Try.f122 ins122 res122 x = f_slices_BinarySearchFunc_Chunk x := by kernel_rfl
theorem so122 : Sound Try.prog 122 sg122 :=
  sound_of (fn := Try.f122) (c := bodyOf Try.f122) (subs := su122) (E := en122) (by kernel_rfl) (by kernel_rfl) (by decide) ok122 (by kernel_rfl) (by kernel_rfl) (by decide)
    (fun X hX => (GoodN.good (K := True) (Eq.mpr (show GoodN Try.prog X 49 en122 su122 (bodyOf Try.f122) True = (SubOk Try.prog X 49 ⟨f_slices_BinarySearchFunc_Chunk_l3c, f_slices_BinarySearchFunc_Chunk_l3v, f_slices_BinarySearchFunc_Chunk_l3e, loopF f_slices_BinarySearchFunc_Chunk_l3⟩ (.loop (loopAt 3 Try.f122)) ∧ RegOk Try.prog X 49 en122 8 (regAt 8 Try.f122) ∧ True) by kernel_rfl) ⟨(f_slices_BinarySearchFunc_Chunk_l3Ok hX), (dr122r8 hX), trivial⟩)).1)
    (fun x r h => (f_slices_BinarySearchFunc_ChunkEq x).trans h)
def fl83 : List (Nat × Sig) := [(100, sg100), (101, sg101), (122, sg122), (123, sgf_slices_Insert kdChunk)]
def dw83 : List (Nat × List (List Nat)) := [(8, [[], [], [0, 40], [0, 41], [0, 42], [], [3, 44], [45], [0, 45, 46], [0, 47], [0, 48], [0, 46]])]
def en83 : Env := { n := 49, ty := assocN tyL, fns := assocN fl83, lo := 1, draw := drawOf dw83 }
def su83 : Bool → Nat → Option Sub | _, _ => none
theorem ok83 : EnvOk Try.prog en83 := envOk_of rfl rfl tyL_ok (⟨so100, ⟨so101, ⟨so122, ⟨soInsert123, trivial⟩⟩⟩⟩)
theorem dr83r3 {X : Cx} (hX : en83.lo = X.lo) : RegOk Try.prog X 49 en83 3 (regAt 3 Try.f83) := regOk_of ok83 rfl hX (by kernel_rfl) (by kernel_rfl)
theorem dr83r5 {X : Cx} (hX : en83.lo = X.lo) : RegOk Try.prog X 49 en83 5 (regAt 5 Try.f83) := regOk_of ok83 rfl hX (by kernel_rfl) (by kernel_rfl)
theorem dr83r8 {X : Cx} (hX : en83.lo = X.lo) : RegOk Try.prog X 49 en83 8 (regAt 8 Try.f83) := regOk_of ok83 rfl hX (by kernel_rfl) (by kernel_rfl)
theorem f_impl_Taking_takeEq (x : Ps ins83) : evF en83 su83 Try.f83 ins83 res83 x = f_impl_Taking_take x := by kernel_rfl
theorem so83 : Sound Try.prog 83 sg83 :=
  sound_of (fn := Try.f83) (c := bodyOf Try.f83) (subs := su83) (E := en83) (by kernel_rfl) (by kernel_rfl) (by decide) ok83 (by kernel_rfl) (by kernel_rfl) (by decide)
    (fun X hX => (GoodN.good (K := True) (Eq.mpr (show GoodN Try.prog X 49 en83 su83 (bodyOf Try.f83) True = (RegOk Try.prog X 49 en83 3 (regAt 3 Try.f83) ∧ RegOk Try.prog X 49 en83 5 (regAt 5 Try.f83) ∧ RegOk Try.prog X 49 en83 8 (regAt 8 Try.f83) ∧ True) by kernel_rfl) ⟨(dr83r3 hX), (dr83r5 hX), (dr83r8 hX), trivial⟩)).1)
    (fun x r h => (f_impl_Taking_takeEq x).trans h)
def fl136 : List (Nat × Sig) := [(81, sg81)]
def en136 : Env := { n := 7, ty := assocN tyL, fns := assocN fl136, lo := 0 }
def su136 : Bool → Nat → Option Sub | _, _ => none
theorem ok136 : EnvOk Try.prog en136 := envOk_of rfl rfl tyL_ok (⟨so81, trivial⟩)
theorem f_impl_wantOk_1Eq (x : Ps ins136) : evF en136 su136 Try.f136 ins136 res136 x = f_impl_wantOk_1 x := by kernel_rfl
theorem so136 : Sound Try.prog 136 sg136 :=
  sound_of (fn := Try.f136) (c := bodyOf Try.f136) (subs := su136) (E := en136) (by kernel_rfl) (by kernel_rfl) (by decide) ok136 (by kernel_rfl) (by kernel_rfl) (by decide)
    (fun X hX => (GoodN.good (K := True) (Eq.mpr (show GoodN Try.prog X 7 en136 su136 (bodyOf Try.f136) True = (True) by kernel_rfl) trivial)).1)
    (fun x r h => (f_impl_wantOk_1Eq x).trans h)
def fl158 : List (Nat × Sig) := []
def en158 : Env := { n := 19, ty := assocN tyL, fns := assocN fl158, lo := 0 }
def su158 : Bool → Nat → Option Sub | true, 2 => some ⟨f_slices_IndexFunc_Wanted_l2c, f_slices_IndexFunc_Wanted_l2v, f_slices_IndexFunc_Wanted_l2e, loopF f_slices_IndexFunc_Wanted_l2⟩ | _, _ => none
theorem ok158 : EnvOk Try.prog en158 := envOk_of rfl rfl tyL_ok (trivial)
theorem f_slices_IndexFunc_Wanted_l2Eq (R : Type) (c : Vars f_slices_IndexFunc_Wanted_l2c) (v : Vars f_slices_IndexFunc_Wanted_l2v) (kk : Vars f_slices_IndexFunc_Wanted_l2c → (Vars f_slices_IndexFunc_Wanted_l2v ⊕ Oc f_slices_IndexFunc_Wanted_l2e) → Option R) : evC en158 su158 (loopAt 2 Try.f158) (Desc.mk2 f_slices_IndexFunc_Wanted_l2v v (Desc.mk2 f_slices_IndexFunc_Wanted_l2c c .empty)) (fun o => bodyK f_slices_IndexFunc_Wanted_l2c f_slices_IndexFunc_Wanted_l2v f_slices_IndexFunc_Wanted_l2e o kk) = f_slices_IndexFunc_Wanted_l2 R c v kk := by kernel_rfl
theorem f_slices_IndexFunc_Wanted_l2Ok {X : Cx} (hX : en158.lo = X.lo) : SubOk Try.prog X 19 ⟨f_slices_IndexFunc_Wanted_l2c, f_slices_IndexFunc_Wanted_l2v, f_slices_IndexFunc_Wanted_l2e, loopF f_slices_IndexFunc_Wanted_l2⟩ (.loop (loopAt 2 Try.f158)) :=
  sub_loop (subs := su158) ok158 rfl hX (GoodN.good (K := True) (Eq.mpr (show GoodN Try.prog X 19 en158 su158 (loopAt 2 Try.f158) True = (True) by kernel_rfl) trivial)).1 (by decide) (by decide) f_slices_IndexFunc_Wanted_l2Eq
theorem f_slices_IndexFunc_WantedEq (x : Ps ins158) : evF en158 su158 Try.f158 ins158 res158 x = f_slices_IndexFunc_Wanted x := by kernel_rfl
theorem so158 : Sound Try.prog 158 sg158 :=
  sound_of (fn := Try.f158) (c := bodyOf Try.f158) (subs := su158) (E := en158) (by kernel_rfl) (by kernel_rfl) (by decide) ok158 (by kernel_rfl) (by kernel_rfl) (by decide)
    (fun X hX => (GoodN.good (K := True) (Eq.mpr (show GoodN Try.prog X 19 en158 su158 (bodyOf Try.f158) True = (SubOk Try.prog X 19 ⟨f_slices_IndexFunc_Wanted_l2c, f_slices_IndexFunc_Wanted_l2v, f_slices_IndexFunc_Wanted_l2e, loopF f_slices_IndexFunc_Wanted_l2⟩ (.loop (loopAt 2 Try.f158)) ∧ True) by kernel_rfl) ⟨(f_slices_IndexFunc_Wanted_l2Ok hX), trivial⟩)).1)
    (fun x r h => (f_slices_IndexFunc_WantedEq x).trans h)
def fl135 : List (Nat × Sig) := [(158, sg158)]
def en135 : Env := { n := 9, ty := assocN tyL, fns := assocN fl135, lo := 0 }
def su135 : Bool → Nat → Option Sub | _, _ => none
theorem ok135 : EnvOk Try.prog en135 := envOk_of rfl rfl tyL_ok (⟨so158, trivial⟩)
theorem f_slices_ContainsFunc_WantedEq (x : Ps ins135) : evF en135 su135 Try.f135 ins135 res135 x = f_slices_ContainsFunc_Wanted x := by kernel_rfl
theorem so135 : Sound Try.prog 135 sg135 :=
  sound_of (fn := Try.f135) (c := bodyOf Try.f135) (subs := su135) (E := en135) (by kernel_rfl) (by kernel_rfl) (by decide) ok135 (by kernel_rfl) (by kernel_rfl) (by decide)
    (fun X hX => (GoodN.good (K := True) (Eq.mpr (show GoodN Try.prog X 9 en135 su135 (bodyOf Try.f135) True = (True) by kernel_rfl) trivial)).1)
    (fun x r h => (f_slices_ContainsFunc_WantedEq x).trans h)
def fl99 : List (Nat × Sig) := [(135, sg135), (136, sg136)]
def en99 : Env := { n := 11, ty := assocN tyL, fns := assocN fl99, lo := 0 }
def su99 : Bool → Nat → Option Sub | _, _ => none
theorem ok99 : EnvOk Try.prog en99 := envOk_of rfl rfl tyL_ok (⟨so135, ⟨so136, trivial⟩⟩)
theorem f_impl_wantOkEq (x : Ps ins99) : evF en99 su99 Try.f99 ins99 res99 x = f_impl_wantOk x := by kernel_rfl
theorem so99 : Sound Try.prog 99 sg99 :=
  sound_of (fn := Try.f99) (c := bodyOf Try.f99) (subs := su99) (E := en99) (by kernel_rfl) (by kernel_rfl) (by decide) ok99 (by kernel_rfl) (by kernel_rfl) (by decide)
    (fun X hX => (GoodN.good (K := True) (Eq.mpr (show GoodN Try.prog X 11 en99 su99 (bodyOf Try.f99) True = (True) by kernel_rfl) trivial)).1)
    (fun x r h => (f_impl_wantOkEq x).trans h)
def fl100w : List (Nat × Sig) := [(81, sg81), (130, sg130)]
def en100w : Env := { n := 58, ty := assocN tyL, fns := assocN fl100w, lo := 1 }
def su100w : Bool → Nat → Option Sub | _, _ => none
theorem ok100w : EnvOk Try.prog en100w := envOk_of rfl rfl tyL_ok (⟨so81, ⟨so130, trivial⟩⟩)
theorem dr100wr1 {X : Cx} (hX : en100w.lo = X.lo) : RegOk Try.prog X 58 en100w 1 (regAt 1 Try.f100) := regOk_of ok100w rfl hX (by kernel_rfl) (by kernel_rfl)
theorem dr100wr3 {X : Cx} (hX : en100w.lo = X.lo) : RegOk Try.prog X 58 en100w 3 (regAt 3 Try.f100) := regOk_of ok100w rfl hX (by kernel_rfl) (by kernel_rfl)
theorem dr100wr6 {X : Cx} (hX : en100w.lo = X.lo) : RegOk Try.prog X 58 en100w 6 (regAt 6 Try.f100) := regOk_of ok100w rfl hX (by kernel_rfl) (by kernel_rfl)
theorem f_impl_Taking_chunkOk_wEq (x : Ps ins100w) : evF en100w su100w Try.f100 ins100w res100w x = f_impl_Taking_chunkOk_w x := by kernel_rfl
theorem so100w : Sound Try.prog 100 sg100w :=
  sound_of (fn := Try.f100) (c := bodyOf Try.f100) (subs := su100w) (E := en100w) (by kernel_rfl) (by kernel_rfl) (by decide) ok100w (by kernel_rfl) (by kernel_rfl) (by decide)
    (fun X hX => (GoodN.good (K := True) (Eq.mpr (show GoodN Try.prog X 58 en100w su100w (bodyOf Try.f100) True = (RegOk Try.prog X 58 en100w 1 (regAt 1 Try.f100) ∧ RegOk Try.prog X 58 en100w 3 (regAt 3 Try.f100) ∧ RegOk Try.prog X 58 en100w 6 (regAt 6 Try.f100) ∧ True) by kernel_rfl) ⟨(dr100wr1 hX), (dr100wr3 hX), (dr100wr6 hX), trivial⟩)).1)
    (fun x r h => (f_impl_Taking_chunkOk_wEq x).trans h)
def fl44 : List (Nat × Sig) := [(99, sg99), (100, sg100w), (101, sg101)]
def en44 : Env := { n := 42, ty := assocN tyL, fns := assocN fl44, lo := 0 }
def su44 : Bool → Nat → Option Sub | true, 4 => some ⟨f_impl_GoodTaking_l4c, f_impl_GoodTaking_l4v, f_impl_GoodTaking_l4e, loopF f_impl_GoodTaking_l4⟩ | _, _ => none
theorem ok44 : EnvOk Try.prog en44 := envOk_of rfl rfl tyL_ok (⟨so99, ⟨so100w, ⟨so101, trivial⟩⟩⟩)
theorem dr44r6 {X : Cx} (hX : en44.lo = X.lo) : RegOk Try.prog X 42 en44 6 (regAt 6 Try.f44) := regOk_of ok44 rfl hX (by kernel_rfl) (by kernel_rfl)
theorem f_impl_GoodTaking_l4Eq (R : Type) (c : Vars f_impl_GoodTaking_l4c) (v : Vars f_impl_GoodTaking_l4v) (kk : Vars f_impl_GoodTaking_l4c → (Vars f_impl_GoodTaking_l4v ⊕ Oc f_impl_GoodTaking_l4e) → Option R) : evC en44 su44 (loopAt 4 Try.f44) (Desc.mk2 f_impl_GoodTaking_l4v v (Desc.mk2 f_impl_GoodTaking_l4c c .empty)) (fun o => bodyK f_impl_GoodTaking_l4c f_impl_GoodTaking_l4v f_impl_GoodTaking_l4e o kk) = f_impl_GoodTaking_l4 R c v kk := by kernel_rfl
theorem f_impl_GoodTaking_l4Ok {X : Cx} (hX : en44.lo = X.lo) : SubOk Try.prog X 42 ⟨f_impl_GoodTaking_l4c, f_impl_GoodTaking_l4v, f_impl_GoodTaking_l4e, loopF f_impl_GoodTaking_l4⟩ (.loop (loopAt 4 Try.f44)) :=
  sub_loop (subs := su44) ok44 rfl hX (GoodN.good (K := True) (Eq.mpr (show GoodN Try.prog X 42 en44 su44 (loopAt 4 Try.f44) True = (RegOk Try.prog X 42 en44 6 (regAt 6 Try.f44) ∧ True) by kernel_rfl) ⟨(dr44r6 hX), trivial⟩)).1 (by decide) (by decide) f_impl_GoodTaking_l4Eq
theorem f_impl_GoodTakingEq (x : Ps ins44) : evF en44 su44 Try.f44 ins44 res44 x = f_impl_GoodTaking x := by kernel_rfl
theorem so44 : Sound Try.prog 44 sg44 :=
  sound_of (fn := Try.f44) (c := bodyOf Try.f44) (subs := su44) (E := en44) (by kernel_rfl) (by kernel_rfl) (by decide) ok44 (by kernel_rfl) (by kernel_rfl) (by decide)
    (fun X hX => (GoodN.good (K := True) (Eq.mpr (show GoodN Try.prog X 42 en44 su44 (bodyOf Try.f44) True = (SubOk Try.prog X 42 ⟨f_impl_GoodTaking_l4c, f_impl_GoodTaking_l4v, f_impl_GoodTaking_l4e, loopF f_impl_GoodTaking_l4⟩ (.loop (loopAt 4 Try.f44)) ∧ True) by kernel_rfl) ⟨(f_impl_GoodTaking_l4Ok hX), trivial⟩)).1)
    (fun x r h => (f_impl_GoodTakingEq x).trans h)
def fl97w : List (Nat × Sig) := [(101, sg101), (122, sg122)]
def hi97w : List (Nat × (K × Mk)) := [(2, ((.sl kdChunk), (.o .s))), (3, ((.sl kdChunk), (.o .s)))]
def en97w : Env := { n := 47, ty := assocN tyL, fns := assocN fl97w, lo := 1, hint := assocN hi97w }
def su97w : Bool → Nat → Option Sub | false, 11 => some ⟨f_impl_Taking_missing_w_i11c, f_impl_Taking_missing_w_i11v, f_impl_Taking_missing_w_i11e, f_impl_Taking_missing_w_i11⟩ | true, 6 => some ⟨f_impl_Taking_missing_w_l6c, f_impl_Taking_missing_w_l6v, f_impl_Taking_missing_w_l6e, loopF f_impl_Taking_missing_w_l6⟩ | true, 3 => some ⟨f_impl_Taking_missing_w_l3c, f_impl_Taking_missing_w_l3v, f_impl_Taking_missing_w_l3e, loopF f_impl_Taking_missing_w_l3⟩ | _, _ => none
theorem ok97w : EnvOk Try.prog en97w := envOk_of rfl rfl tyL_ok (⟨so101, ⟨so122, trivial⟩⟩)
theorem dr97wr9 {X : Cx} (hX : en97w.lo = X.lo) : RegOk Try.prog X 47 en97w 9 (regAt 9 Try.f97) := regOk_of ok97w rfl hX (by kernel_rfl) (by kernel_rfl)
def su97wi11 : Bool → Nat → Option Sub | true, 6 => some ⟨f_impl_Taking_missing_w_l6c, f_impl_Taking_missing_w_l6v, f_impl_Taking_missing_w_l6e, loopF f_impl_Taking_missing_w_l6⟩ | true, 3 => some ⟨f_impl_Taking_missing_w_l3c, f_impl_Taking_missing_w_l3v, f_impl_Taking_missing_w_l3e, loopF f_impl_Taking_missing_w_l3⟩ | _, _ => none
theorem f_impl_Taking_missing_w_i11Eq (R : Type) (c : Vars f_impl_Taking_missing_w_i11c) (v : Vars f_impl_Taking_missing_w_i11v) (kk : Vars f_impl_Taking_missing_w_i11c → Oc f_impl_Taking_missing_w_i11e → Option R) : evC en97w su97wi11 (ifAt 11 Try.f97) (Desc.mk2 f_impl_Taking_missing_w_i11v v (Desc.mk2 f_impl_Taking_missing_w_i11c c .empty)) (fun o => chk f_impl_Taking_missing_w_i11c f_impl_Taking_missing_w_i11e o kk) = f_impl_Taking_missing_w_i11 R c v kk := by kernel_rfl
theorem f_impl_Taking_missing_w_i11Ok {X : Cx} (hX : en97w.lo = X.lo) : SubOk Try.prog X 47 ⟨f_impl_Taking_missing_w_i11c, f_impl_Taking_missing_w_i11v, f_impl_Taking_missing_w_i11e, f_impl_Taking_missing_w_i11⟩ (ifAt 11 Try.f97) :=
  sub_if (u := ⟨f_impl_Taking_missing_w_i11c, f_impl_Taking_missing_w_i11v, f_impl_Taking_missing_w_i11e, f_impl_Taking_missing_w_i11⟩) (subs := su97wi11) ok97w rfl hX (GoodN.good (K := True) (Eq.mpr (show GoodN Try.prog X 47 en97w su97wi11 (ifAt 11 Try.f97) True = (True) by kernel_rfl) trivial)).1 (by decide) (by decide) f_impl_Taking_missing_w_i11Eq
theorem f_impl_Taking_missing_w_l6Eq (R : Type) (c : Vars f_impl_Taking_missing_w_l6c) (v : Vars f_impl_Taking_missing_w_l6v) (kk : Vars f_impl_Taking_missing_w_l6c → (Vars f_impl_Taking_missing_w_l6v ⊕ Oc f_impl_Taking_missing_w_l6e) → Option R) : evC en97w su97w (loopAt 6 Try.f97) (Desc.mk2 f_impl_Taking_missing_w_l6v v (Desc.mk2 f_impl_Taking_missing_w_l6c c .empty)) (fun o => bodyK f_impl_Taking_missing_w_l6c f_impl_Taking_missing_w_l6v f_impl_Taking_missing_w_l6e o kk) = f_impl_Taking_missing_w_l6 R c v kk := by kernel_rfl
theorem f_impl_Taking_missing_w_l6Ok {X : Cx} (hX : en97w.lo = X.lo) : SubOk Try.prog X 47 ⟨f_impl_Taking_missing_w_l6c, f_impl_Taking_missing_w_l6v, f_impl_Taking_missing_w_l6e, loopF f_impl_Taking_missing_w_l6⟩ (.loop (loopAt 6 Try.f97)) :=
  sub_loop (subs := su97w) ok97w rfl hX (GoodN.good (K := True) (Eq.mpr (show GoodN Try.prog X 47 en97w su97w (loopAt 6 Try.f97) True = (RegOk Try.prog X 47 en97w 9 (regAt 9 Try.f97) ∧ SubOk Try.prog X 47 ⟨f_impl_Taking_missing_w_i11c, f_impl_Taking_missing_w_i11v, f_impl_Taking_missing_w_i11e, f_impl_Taking_missing_w_i11⟩ (ifAt 11 Try.f97) ∧ True) by kernel_rfl) ⟨(dr97wr9 hX), (f_impl_Taking_missing_w_i11Ok hX), trivial⟩)).1 (by decide) (by decide) f_impl_Taking_missing_w_l6Eq
theorem f_impl_Taking_missing_w_l3Eq (R : Type) (c : Vars f_impl_Taking_missing_w_l3c) (v : Vars f_impl_Taking_missing_w_l3v) (kk : Vars f_impl_Taking_missing_w_l3c → (Vars f_impl_Taking_missing_w_l3v ⊕ Oc f_impl_Taking_missing_w_l3e) → Option R) : evC en97w su97w (loopAt 3 Try.f97) (Desc.mk2 f_impl_Taking_missing_w_l3v v (Desc.mk2 f_impl_Taking_missing_w_l3c c .empty)) (fun o => bodyK f_impl_Taking_missing_w_l3c f_impl_Taking_missing_w_l3v f_impl_Taking_missing_w_l3e o kk) = f_impl_Taking_missing_w_l3 R c v kk := by kernel_rfl
theorem f_impl_Taking_missing_w_l3Ok {X : Cx} (hX : en97w.lo = X.lo) : SubOk Try.prog X 47 ⟨f_impl_Taking_missing_w_l3c, f_impl_Taking_missing_w_l3v, f_impl_Taking_missing_w_l3e, loopF f_impl_Taking_missing_w_l3⟩ (.loop (loopAt 3 Try.f97)) :=
  sub_loop (subs := su97w) ok97w rfl hX (GoodN.good (K := True) (Eq.mpr (show GoodN Try.prog X 47 en97w su97w (loopAt 3 Try.f97) True = (SubOk Try.prog X 47 ⟨f_impl_Taking_missing_w_l6c, f_impl_Taking_missing_w_l6v, f_impl_Taking_missing_w_l6e, loopF f_impl_Taking_missing_w_l6⟩ (.loop (loopAt 6 Try.f97)) ∧ True) by kernel_rfl) ⟨(f_impl_Taking_missing_w_l6Ok hX), trivial⟩)).1 (by decide) (by decide) f_impl_Taking_missing_w_l3Eq
theorem f_impl_Taking_missing_wEq (x : Ps ins97w) : evF en97w su97w Try.f97 ins97w res97w x = f_impl_Taking_missing_w x := by kernel_rfl
theorem so97w : Sound Try.prog 97 sg97w :=
  sound_of (fn := Try.f97) (c := bodyOf Try.f97) (subs := su97w) (E := en97w) (by kernel_rfl) (by kernel_rfl) (by decide) ok97w (by kernel_rfl) (by kernel_rfl) (by decide)
    (fun X hX => (GoodN.good (K := True) (Eq.mpr (show GoodN Try.prog X 47 en97w su97w (bodyOf Try.f97) True = (SubOk Try.prog X 47 ⟨f_impl_Taking_missing_w_l3c, f_impl_Taking_missing_w_l3v, f_impl_Taking_missing_w_l3e, loopF f_impl_Taking_missing_w_l3⟩ (.loop (loopAt 3 Try.f97)) ∧ True) by kernel_rfl) ⟨(f_impl_Taking_missing_w_l3Ok hX), trivial⟩)).1)
    (fun x r h => (f_impl_Taking_missing_wEq x).trans h)
def fl46 : List (Nat × Sig) := [(44, sg44), (97, sg97w), (102, sg102)]
def hi46 : List (Nat × (K × Mk)) := [(2, ((.sl .str), (.o .s))), (4, ((.sl .str), (.o .s)))]
def en46 : Env := { n := 56, ty := assocN tyL, fns := assocN fl46, lo := 0, hint := assocN hi46 }
def su46 : Bool → Nat → Option Sub | true, 5 => some ⟨f_impl_FinishTaking_l5c, f_impl_FinishTaking_l5v, f_impl_FinishTaking_l5e, loopF f_impl_FinishTaking_l5⟩ | true, 10 => some ⟨f_impl_FinishTaking_l10c, f_impl_FinishTaking_l10v, f_impl_FinishTaking_l10e, loopF f_impl_FinishTaking_l10⟩ | _, _ => none
theorem ok46 : EnvOk Try.prog en46 := envOk_of rfl rfl tyL_ok (⟨so44, ⟨so97w, ⟨so102, trivial⟩⟩⟩)
theorem dr46r7 {X : Cx} (hX : en46.lo = X.lo) : RegOk Try.prog X 56 en46 7 (regAt 7 Try.f46) := regOk_of ok46 rfl hX (by kernel_rfl) (by kernel_rfl)
theorem dr46r12 {X : Cx} (hX : en46.lo = X.lo) : RegOk Try.prog X 56 en46 12 (regAt 12 Try.f46) := regOk_of ok46 rfl hX (by kernel_rfl) (by kernel_rfl)
theorem f_impl_FinishTaking_l5Eq (R : Type) (c : Vars f_impl_FinishTaking_l5c) (v : Vars f_impl_FinishTaking_l5v) (kk : Vars f_impl_FinishTaking_l5c → (Vars f_impl_FinishTaking_l5v ⊕ Oc f_impl_FinishTaking_l5e) → Option R) : evC en46 su46 (loopAt 5 Try.f46) (Desc.mk2 f_impl_FinishTaking_l5v v (Desc.mk2 f_impl_FinishTaking_l5c c .empty)) (fun o => bodyK f_impl_FinishTaking_l5c f_impl_FinishTaking_l5v f_impl_FinishTaking_l5e o kk) = f_impl_FinishTaking_l5 R c v kk := by kernel_rfl
theorem f_impl_FinishTaking_l5Ok {X : Cx} (hX : en46.lo = X.lo) : SubOk Try.prog X 56 ⟨f_impl_FinishTaking_l5c, f_impl_FinishTaking_l5v, f_impl_FinishTaking_l5e, loopF f_impl_FinishTaking_l5⟩ (.loop (loopAt 5 Try.f46)) :=
  sub_loop (subs := su46) ok46 rfl hX (GoodN.good (K := True) (Eq.mpr (show GoodN Try.prog X 56 en46 su46 (loopAt 5 Try.f46) True = (RegOk Try.prog X 56 en46 7 (regAt 7 Try.f46) ∧ True) by kernel_rfl) ⟨(dr46r7 hX), trivial⟩)).1 (by decide) (by decide) f_impl_FinishTaking_l5Eq
theorem f_impl_FinishTaking_l10Eq (R : Type) (c : Vars f_impl_FinishTaking_l10c) (v : Vars f_impl_FinishTaking_l10v) (kk : Vars f_impl_FinishTaking_l10c → (Vars f_impl_FinishTaking_l10v ⊕ Oc f_impl_FinishTaking_l10e) → Option R) : evC en46 su46 (loopAt 10 Try.f46) (Desc.mk2 f_impl_FinishTaking_l10v v (Desc.mk2 f_impl_FinishTaking_l10c c .empty)) (fun o => bodyK f_impl_FinishTaking_l10c f_impl_FinishTaking_l10v f_impl_FinishTaking_l10e o kk) = f_impl_FinishTaking_l10 R c v kk := by kernel_rfl
theorem f_impl_FinishTaking_l10Ok {X : Cx} (hX : en46.lo = X.lo) : SubOk Try.prog X 56 ⟨f_impl_FinishTaking_l10c, f_impl_FinishTaking_l10v, f_impl_FinishTaking_l10e, loopF f_impl_FinishTaking_l10⟩ (.loop (loopAt 10 Try.f46)) :=
  sub_loop (subs := su46) ok46 rfl hX (GoodN.good (K := True) (Eq.mpr (show GoodN Try.prog X 56 en46 su46 (loopAt 10 Try.f46) True = (RegOk Try.prog X 56 en46 12 (regAt 12 Try.f46) ∧ True) by kernel_rfl) ⟨(dr46r12 hX), trivial⟩)).1 (by decide) (by decide) f_impl_FinishTaking_l10Eq
theorem f_impl_FinishTakingEq (x : Ps ins46) : evF en46 su46 Try.f46 ins46 res46 x = f_impl_FinishTaking x := by kernel_rfl
theorem so46 : Sound Try.prog 46 sg46 :=
  sound_of (fn := Try.f46) (c := bodyOf Try.f46) (subs := su46) (E := en46) (by kernel_rfl) (by kernel_rfl) (by decide) ok46 (by kernel_rfl) (by kernel_rfl) (by decide)
    (fun X hX => (GoodN.good (K := True) (Eq.mpr (show GoodN Try.prog X 56 en46 su46 (bodyOf Try.f46) True = (SubOk Try.prog X 56 ⟨f_impl_FinishTaking_l5c, f_impl_FinishTaking_l5v, f_impl_FinishTaking_l5e, loopF f_impl_FinishTaking_l5⟩ (.loop (loopAt 5 Try.f46)) ∧ SubOk Try.prog X 56 ⟨f_impl_FinishTaking_l10c, f_impl_FinishTaking_l10v, f_impl_FinishTaking_l10e, loopF f_impl_FinishTaking_l10⟩ (.loop (loopAt 10 Try.f46)) ∧ True) by kernel_rfl) ⟨(f_impl_FinishTaking_l5Ok hX), (f_impl_FinishTaking_l10Ok hX), trivial⟩)).1)
    (fun x r h => (f_impl_FinishTakingEq x).trans h)
def fl33 : List (Nat × Sig) := [(36, sg36), (46, sg46), (80, sg80), (81, sg81), (82, sg82), (83, sg83)]
def hi33 : List (Nat × (K × Mk)) := [(6, ((.sl .str), (.o .s))), (9, ((.sl kdChunk), (.o .s))), (16, ((.sl .str), (.o .s)))]
def en33 : Env := { n := 77, ty := assocN tyL, fns := assocN fl33, lo := 0, hint := assocN hi33 }
def su33 : Bool → Nat → Option Sub | false, 12 => some ⟨f_impl_PlayTaking_i12c, f_impl_PlayTaking_i12v, f_impl_PlayTaking_i12e, f_impl_PlayTaking_i12⟩ | true, 6 => some ⟨f_impl_PlayTaking_l6c, f_impl_PlayTaking_l6v, f_impl_PlayTaking_l6e, loopF f_impl_PlayTaking_l6⟩ | _, _ => none
theorem ok33 : EnvOk Try.prog en33 := envOk_of rfl rfl tyL_ok (⟨so36, ⟨so46, ⟨so80, ⟨so81, ⟨so82, ⟨so83, trivial⟩⟩⟩⟩⟩⟩)
theorem dr33r10 {X : Cx} (hX : en33.lo = X.lo) : RegOk Try.prog X 77 en33 10 (regAt 10 Try.f33) := regOk_of ok33 rfl hX (by kernel_rfl) (by kernel_rfl)
def su33i12 : Bool → Nat → Option Sub | true, 6 => some ⟨f_impl_PlayTaking_l6c, f_impl_PlayTaking_l6v, f_impl_PlayTaking_l6e, loopF f_impl_PlayTaking_l6⟩ | _, _ => none
theorem f_impl_PlayTaking_i12Eq (R : Type) (c : Vars f_impl_PlayTaking_i12c) (v : Vars f_impl_PlayTaking_i12v) (kk : Vars f_impl_PlayTaking_i12c → Oc f_impl_PlayTaking_i12e → Option R) : evC en33 su33i12 (ifAt 12 Try.f33) (Desc.mk2 f_impl_PlayTaking_i12v v (Desc.mk2 f_impl_PlayTaking_i12c c .empty)) (fun o => chk f_impl_PlayTaking_i12c f_impl_PlayTaking_i12e o kk) = f_impl_PlayTaking_i12 R c v kk := by kernel_rfl
theorem f_impl_PlayTaking_i12Ok {X : Cx} (hX : en33.lo = X.lo) : SubOk Try.prog X 77 ⟨f_impl_PlayTaking_i12c, f_impl_PlayTaking_i12v, f_impl_PlayTaking_i12e, f_impl_PlayTaking_i12⟩ (ifAt 12 Try.f33) :=
  sub_if (u := ⟨f_impl_PlayTaking_i12c, f_impl_PlayTaking_i12v, f_impl_PlayTaking_i12e, f_impl_PlayTaking_i12⟩) (subs := su33i12) ok33 rfl hX (GoodN.good (K := True) (Eq.mpr (show GoodN Try.prog X 77 en33 su33i12 (ifAt 12 Try.f33) True = (True) by kernel_rfl) trivial)).1 (by decide) (by decide) f_impl_PlayTaking_i12Eq
theorem f_impl_PlayTaking_l6Eq (R : Type) (c : Vars f_impl_PlayTaking_l6c) (v : Vars f_impl_PlayTaking_l6v) (kk : Vars f_impl_PlayTaking_l6c → (Vars f_impl_PlayTaking_l6v ⊕ Oc f_impl_PlayTaking_l6e) → Option R) : evC en33 su33 (loopAt 6 Try.f33) (Desc.mk2 f_impl_PlayTaking_l6v v (Desc.mk2 f_impl_PlayTaking_l6c c .empty)) (fun o => bodyK f_impl_PlayTaking_l6c f_impl_PlayTaking_l6v f_impl_PlayTaking_l6e o kk) = f_impl_PlayTaking_l6 R c v kk := by kernel_rfl
theorem f_impl_PlayTaking_l6Ok {X : Cx} (hX : en33.lo = X.lo) : SubOk Try.prog X 77 ⟨f_impl_PlayTaking_l6c, f_impl_PlayTaking_l6v, f_impl_PlayTaking_l6e, loopF f_impl_PlayTaking_l6⟩ (.loop (loopAt 6 Try.f33)) :=
  sub_loop (subs := su33) ok33 rfl hX (GoodN.good (K := True) (Eq.mpr (show GoodN Try.prog X 77 en33 su33 (loopAt 6 Try.f33) True = (RegOk Try.prog X 77 en33 10 (regAt 10 Try.f33) ∧ SubOk Try.prog X 77 ⟨f_impl_PlayTaking_i12c, f_impl_PlayTaking_i12v, f_impl_PlayTaking_i12e, f_impl_PlayTaking_i12⟩ (ifAt 12 Try.f33) ∧ True) by kernel_rfl) ⟨(dr33r10 hX), (f_impl_PlayTaking_i12Ok hX), trivial⟩)).1 (by decide) (by decide) f_impl_PlayTaking_l6Eq
theorem f_impl_PlayTakingEq (x : Ps ins33) : evF en33 su33 Try.f33 ins33 res33 x = f_impl_PlayTaking x := by kernel_rfl
theorem so33 : Sound Try.prog 33 sg33 :=
  sound_of (fn := Try.f33) (c := bodyOf Try.f33) (subs := su33) (E := en33) (by kernel_rfl) (by kernel_rfl) (by decide) ok33 (by kernel_rfl) (by kernel_rfl) (by decide)
    (fun X hX => (GoodN.good (K := True) (Eq.mpr (show GoodN Try.prog X 77 en33 su33 (bodyOf Try.f33) True = (SubOk Try.prog X 77 ⟨f_impl_PlayTaking_l6c, f_impl_PlayTaking_l6v, f_impl_PlayTaking_l6e, loopF f_impl_PlayTaking_l6⟩ (.loop (loopAt 6 Try.f33)) ∧ True) by kernel_rfl) ⟨(f_impl_PlayTaking_l6Ok hX), trivial⟩)).1)
    (fun x r h => (f_impl_PlayTakingEq x).trans h)
def fl84 : List (Nat × Sig) := [(91, sg91), (124, sg124)]
def hi84 : List (Nat × (K × Mk)) := [(2, ((.sl kdWanted), (.o .s))), (4, ((.sl kdWanted), (.o .s)))]
def en84 : Env := { n := 26, ty := assocN tyL, fns := assocN fl84, lo := 0, hint := assocN hi84 }
def su84 : Bool → Nat → Option Sub | true, 5 => some ⟨f_spec_WantOf_l5c, f_spec_WantOf_l5v, f_spec_WantOf_l5e, loopF f_spec_WantOf_l5⟩ | _, _ => none
theorem ok84 : EnvOk Try.prog en84 := envOk_of rfl rfl tyL_ok (⟨so91, ⟨so124, trivial⟩⟩)
theorem f_spec_WantOf_l5Eq (R : Type) (c : Vars f_spec_WantOf_l5c) (v : Vars f_spec_WantOf_l5v) (kk : Vars f_spec_WantOf_l5c → (Vars f_spec_WantOf_l5v ⊕ Oc f_spec_WantOf_l5e) → Option R) : evC en84 su84 (loopAt 5 Try.f84) (Desc.mk2 f_spec_WantOf_l5v v (Desc.mk2 f_spec_WantOf_l5c c .empty)) (fun o => bodyK f_spec_WantOf_l5c f_spec_WantOf_l5v f_spec_WantOf_l5e o kk) = f_spec_WantOf_l5 R c v kk := by kernel_rfl
theorem f_spec_WantOf_l5Ok {X : Cx} (hX : en84.lo = X.lo) : SubOk Try.prog X 26 ⟨f_spec_WantOf_l5c, f_spec_WantOf_l5v, f_spec_WantOf_l5e, loopF f_spec_WantOf_l5⟩ (.loop (loopAt 5 Try.f84)) :=
  sub_loop (subs := su84) ok84 rfl hX (GoodN.good (K := True) (Eq.mpr (show GoodN Try.prog X 26 en84 su84 (loopAt 5 Try.f84) True = (True) by kernel_rfl) trivial)).1 (by decide) (by decide) f_spec_WantOf_l5Eq
theorem f_spec_WantOfEq (x : Ps ins84) : evF en84 su84 Try.f84 ins84 res84 x = f_spec_WantOf x := by kernel_rfl
theorem so84 : Sound Try.prog 84 sg84 :=
  sound_of (fn := Try.f84) (c := bodyOf Try.f84) (subs := su84) (E := en84) (by kernel_rfl) (by kernel_rfl) (by decide) ok84 (by kernel_rfl) (by kernel_rfl) (by decide)
    (fun X hX => (GoodN.good (K := True) (Eq.mpr (show GoodN Try.prog X 26 en84 su84 (bodyOf Try.f84) True = (SubOk Try.prog X 26 ⟨f_spec_WantOf_l5c, f_spec_WantOf_l5v, f_spec_WantOf_l5e, loopF f_spec_WantOf_l5⟩ (.loop (loopAt 5 Try.f84)) ∧ True) by kernel_rfl) ⟨(f_spec_WantOf_l5Ok hX), trivial⟩)).1)
    (fun x r h => (f_spec_WantOfEq x).trans h)
def fl86 : List (Nat × Sig) := []
def en86 : Env := { n := 15, ty := assocN tyL, fns := assocN fl86, lo := 0 }
def su86 : Bool → Nat → Option Sub | _, _ => none
theorem ok86 : EnvOk Try.prog en86 := envOk_of rfl rfl tyL_ok (trivial)
theorem f_spec_l1InEq (x : Ps ins86) : evF en86 su86 Try.f86 ins86 res86 x = f_spec_l1In x := by kernel_rfl
theorem so86 : Sound Try.prog 86 sg86 :=
  sound_of (fn := Try.f86) (c := bodyOf Try.f86) (subs := su86) (E := en86) (by kernel_rfl) (by kernel_rfl) (by decide) ok86 (by kernel_rfl) (by kernel_rfl) (by decide)
    (fun X hX => (GoodN.good (K := True) (Eq.mpr (show GoodN Try.prog X 15 en86 su86 (bodyOf Try.f86) True = (True) by kernel_rfl) trivial)).1)
    (fun x r h => (f_spec_l1InEq x).trans h)
def fl125 : List (Nat × Sig) := [(86, sg86)]
def en125 : Env := { n := 19, ty := assocN tyL, fns := assocN fl125, lo := 0 }
def su125 : Bool → Nat → Option Sub | true, 2 => some ⟨f_spec_l13Want_l2c, f_spec_l13Want_l2v, f_spec_l13Want_l2e, loopF f_spec_l13Want_l2⟩ | _, _ => none
theorem ok125 : EnvOk Try.prog en125 := envOk_of rfl rfl tyL_ok (⟨so86, trivial⟩)
theorem f_spec_l13Want_l2Eq (R : Type) (c : Vars f_spec_l13Want_l2c) (v : Vars f_spec_l13Want_l2v) (kk : Vars f_spec_l13Want_l2c → (Vars f_spec_l13Want_l2v ⊕ Oc f_spec_l13Want_l2e) → Option R) : evC en125 su125 (loopAt 2 Try.f125) (Desc.mk2 f_spec_l13Want_l2v v (Desc.mk2 f_spec_l13Want_l2c c .empty)) (fun o => bodyK f_spec_l13Want_l2c f_spec_l13Want_l2v f_spec_l13Want_l2e o kk) = f_spec_l13Want_l2 R c v kk := by kernel_rfl
theorem f_spec_l13Want_l2Ok {X : Cx} (hX : en125.lo = X.lo) : SubOk Try.prog X 19 ⟨f_spec_l13Want_l2c, f_spec_l13Want_l2v, f_spec_l13Want_l2e, loopF f_spec_l13Want_l2⟩ (.loop (loopAt 2 Try.f125)) :=
  sub_loop (subs := su125) ok125 rfl hX (GoodN.good (K := True) (Eq.mpr (show GoodN Try.prog X 19 en125 su125 (loopAt 2 Try.f125) True = (True) by kernel_rfl) trivial)).1 (by decide) (by decide) f_spec_l13Want_l2Eq
theorem f_spec_l13WantEq (x : Ps ins125) : evF en125 su125 Try.f125 ins125 res125 x = f_spec_l13Want x := by kernel_rfl
theorem so125 : Sound Try.prog 125 sg125 :=
  sound_of (fn := Try.f125) (c := bodyOf Try.f125) (subs := su125) (E := en125) (by kernel_rfl) (by kernel_rfl) (by decide) ok125 (by kernel_rfl) (by kernel_rfl) (by decide)
    (fun X hX => (GoodN.good (K := True) (Eq.mpr (show GoodN Try.prog X 19 en125 su125 (bodyOf Try.f125) True = (SubOk Try.prog X 19 ⟨f_spec_l13Want_l2c, f_spec_l13Want_l2v, f_spec_l13Want_l2e, loopF f_spec_l13Want_l2⟩ (.loop (loopAt 2 Try.f125)) ∧ True) by kernel_rfl) ⟨(f_spec_l13Want_l2Ok hX), trivial⟩)).1)
    (fun x r h => (f_spec_l13WantEq x).trans h)
def fl85 : List (Nat × Sig) := [(125, sg125)]
def en85 : Env := { n := 12, ty := assocN tyL, fns := assocN fl85, lo := 0 }
def su85 : Bool → Nat → Option Sub | _, _ => none
theorem ok85 : EnvOk Try.prog en85 := envOk_of rfl rfl tyL_ok (⟨so125, trivial⟩)
theorem f_spec_NewTakingEq (x : Ps ins85) : evF en85 su85 Try.f85 ins85 res85 x = f_spec_NewTaking x := by kernel_rfl
theorem so85 : Sound Try.prog 85 sg85 :=
  sound_of (fn := Try.f85) (c := bodyOf Try.f85) (subs := su85) (E := en85) (by kernel_rfl) (by kernel_rfl) (by decide) ok85 (by kernel_rfl) (by kernel_rfl) (by decide)
    (fun X hX => (GoodN.good (K := True) (Eq.mpr (show GoodN Try.prog X 12 en85 su85 (bodyOf Try.f85) True = (True) by kernel_rfl) trivial)).1)
    (fun x r h => (f_spec_NewTakingEq x).trans h)
def fl126 : List (Nat × Sig) := [(86, sg86), (131, sg131), (132, sg132)]
def en126 : Env := { n := 62, ty := assocN tyL, fns := assocN fl126, lo := 0 }
def su126 : Bool → Nat → Option Sub | _, _ => none
theorem ok126 : EnvOk Try.prog en126 := envOk_of rfl rfl tyL_ok (⟨so86, ⟨so131, ⟨so132, trivial⟩⟩⟩)
theorem dr126r1 {X : Cx} (hX : en126.lo = X.lo) : RegOk Try.prog X 62 en126 1 (regAt 1 Try.f126) := regOk_of ok126 rfl hX (by kernel_rfl) (by kernel_rfl)
theorem dr126r3 {X : Cx} (hX : en126.lo = X.lo) : RegOk Try.prog X 62 en126 3 (regAt 3 Try.f126) := regOk_of ok126 rfl hX (by kernel_rfl) (by kernel_rfl)
theorem f_spec_l13GoodEq (x : Ps ins126) : evF en126 su126 Try.f126 ins126 res126 x = f_spec_l13Good x := by kernel_rfl
theorem so126 : Sound Try.prog 126 sg126 :=
  sound_of (fn := Try.f126) (c := bodyOf Try.f126) (subs := su126) (E := en126) (by kernel_rfl) (by kernel_rfl) (by decide) ok126 (by kernel_rfl) (by kernel_rfl) (by decide)
    (fun X hX => (GoodN.good (K := True) (Eq.mpr (show GoodN Try.prog X 62 en126 su126 (bodyOf Try.f126) True = (RegOk Try.prog X 62 en126 1 (regAt 1 Try.f126) ∧ RegOk Try.prog X 62 en126 3 (regAt 3 Try.f126) ∧ True) by kernel_rfl) ⟨(dr126r1 hX), (dr126r3 hX), trivial⟩)).1)
    (fun x r h => (f_spec_l13GoodEq x).trans h)
def fl127 : List (Nat × Sig) := []
def en127 : Env := { n := 24, ty := assocN tyL, fns := assocN fl127, lo := 0 }
def su127 : Bool → Nat → Option Sub | _, _ => none
theorem ok127 : EnvOk Try.prog en127 := envOk_of rfl rfl tyL_ok (trivial)
theorem f_spec_l13LessEq (x : Ps ins127) : evF en127 su127 Try.f127 ins127 res127 x = f_spec_l13Less x := by kernel_rfl
theorem so127 : Sound Try.prog 127 sg127 :=
  sound_of (fn := Try.f127) (c := bodyOf Try.f127) (subs := su127) (E := en127) (by kernel_rfl) (by kernel_rfl) (by decide) ok127 (by kernel_rfl) (by kernel_rfl) (by decide)
    (fun X hX => (GoodN.good (K := True) (Eq.mpr (show GoodN Try.prog X 24 en127 su127 (bodyOf Try.f127) True = (True) by kernel_rfl) trivial)).1)
    (fun x r h => (f_spec_l13LessEq x).trans h)
def fl87 : List (Nat × Sig) := [(126, sg126), (127, sg127)]
def hi87 : List (Nat × (K × Mk)) := [(7, ((.sl kdChunk), (.o .s)))]
def dw87 : List (Nat × List (List Nat)) := [(7, [[2, 44], [2, 45], [2, 46], [], [48], [49], [3, 50], [51], [4], [5]])]
def en87 : Env := { n := 75, ty := assocN tyL, fns := assocN fl87, lo := 0, hint := assocN hi87, draw := drawOf dw87 }
def su87 : Bool → Nat → Option Sub | true, 4 => some ⟨f_spec_l13Take_l4c, f_spec_l13Take_l4v, f_spec_l13Take_l4e, loopF f_spec_l13Take_l4⟩ | _, _ => none
theorem ok87 : EnvOk Try.prog en87 := envOk_of rfl rfl tyL_ok (⟨so126, ⟨so127, trivial⟩⟩)
theorem dr87r4 {X : Cx} (hX : en87.lo = X.lo) : RegOk Try.prog X 75 en87 4 (regAt 4 Try.f87) := regOk_of ok87 rfl hX (by kernel_rfl) (by kernel_rfl)
theorem dr87r6 {X : Cx} (hX : en87.lo = X.lo) : RegOk Try.prog X 75 en87 6 (regAt 6 Try.f87) := regOk_of ok87 rfl hX (by kernel_rfl) (by kernel_rfl)
theorem dr87r7 {X : Cx} (hX : en87.lo = X.lo) : RegOk Try.prog X 75 en87 7 (regAt 7 Try.f87) := regOk_of ok87 rfl hX (by kernel_rfl) (by kernel_rfl)
theorem f_spec_l13Take_l4Eq (R : Type) (c : Vars f_spec_l13Take_l4c) (v : Vars f_spec_l13Take_l4v) (kk : Vars f_spec_l13Take_l4c → (Vars f_spec_l13Take_l4v ⊕ Oc f_spec_l13Take_l4e) → Option R) : evC en87 su87 (loopAt 4 Try.f87) (Desc.mk2 f_spec_l13Take_l4v v (Desc.mk2 f_spec_l13Take_l4c c .empty)) (fun o => bodyK f_spec_l13Take_l4c f_spec_l13Take_l4v f_spec_l13Take_l4e o kk) = f_spec_l13Take_l4 R c v kk := by kernel_rfl
theorem f_spec_l13Take_l4Ok {X : Cx} (hX : en87.lo = X.lo) : SubOk Try.prog X 75 ⟨f_spec_l13Take_l4c, f_spec_l13Take_l4v, f_spec_l13Take_l4e, loopF f_spec_l13Take_l4⟩ (.loop (loopAt 4 Try.f87)) :=
  sub_loop (subs := su87) ok87 rfl hX (GoodN.good (K := True) (Eq.mpr (show GoodN Try.prog X 75 en87 su87 (loopAt 4 Try.f87) True = (RegOk Try.prog X 75 en87 4 (regAt 4 Try.f87) ∧ True) by kernel_rfl) ⟨(dr87r4 hX), trivial⟩)).1 (by decide) (by decide) f_spec_l13Take_l4Eq
theorem f_spec_l13TakeEq (x : Ps ins87) : evF en87 su87 Try.f87 ins87 res87 x = f_spec_l13Take x := by kernel_rfl
theorem so87 : Sound Try.prog 87 sg87 :=
  sound_of (fn := Try.f87) (c := bodyOf Try.f87) (subs := su87) (E := en87) (by kernel_rfl) (by kernel_rfl) (by decide) ok87 (by kernel_rfl) (by kernel_rfl) (by decide)
    (fun X hX => (GoodN.good (K := True) (Eq.mpr (show GoodN Try.prog X 75 en87 su87 (bodyOf Try.f87) True = (SubOk Try.prog X 75 ⟨f_spec_l13Take_l4c, f_spec_l13Take_l4v, f_spec_l13Take_l4e, loopF f_spec_l13Take_l4⟩ (.loop (loopAt 4 Try.f87)) ∧ RegOk Try.prog X 75 en87 6 (regAt 6 Try.f87) ∧ RegOk Try.prog X 75 en87 7 (regAt 7 Try.f87) ∧ True) by kernel_rfl) ⟨(f_spec_l13Take_l4Ok hX), (dr87r6 hX), (dr87r7 hX), trivial⟩)).1)
    (fun x r h => (f_spec_l13TakeEq x).trans h)
def fl98 : List (Nat × Sig) := []
def hi98 : List (Nat × (K × Mk)) := [(2, ((.sl kdChunk), (.o .s))), (3, ((.sl kdChunk), (.o .s)))]
def en98 : Env := { n := 59, ty := assocN tyL, fns := assocN fl98, lo := 0, hint := assocN hi98 }
def su98 : Bool → Nat → Option Sub | false, 11 => some ⟨f_spec_l13Missing_i11c, f_spec_l13Missing_i11v, f_spec_l13Missing_i11e, f_spec_l13Missing_i11⟩ | true, 7 => some ⟨f_spec_l13Missing_l7c, f_spec_l13Missing_l7v, f_spec_l13Missing_l7e, loopF f_spec_l13Missing_l7⟩ | true, 4 => some ⟨f_spec_l13Missing_l4c, f_spec_l13Missing_l4v, f_spec_l13Missing_l4e, loopF f_spec_l13Missing_l4⟩ | _, _ => none
theorem ok98 : EnvOk Try.prog en98 := envOk_of rfl rfl tyL_ok (trivial)
def su98i11 : Bool → Nat → Option Sub | true, 7 => some ⟨f_spec_l13Missing_l7c, f_spec_l13Missing_l7v, f_spec_l13Missing_l7e, loopF f_spec_l13Missing_l7⟩ | true, 4 => some ⟨f_spec_l13Missing_l4c, f_spec_l13Missing_l4v, f_spec_l13Missing_l4e, loopF f_spec_l13Missing_l4⟩ | _, _ => none
theorem f_spec_l13Missing_i11Eq (R : Type) (c : Vars f_spec_l13Missing_i11c) (v : Vars f_spec_l13Missing_i11v) (kk : Vars f_spec_l13Missing_i11c → Oc f_spec_l13Missing_i11e → Option R) : evC en98 su98i11 (ifAt 11 Try.f98) (Desc.mk2 f_spec_l13Missing_i11v v (Desc.mk2 f_spec_l13Missing_i11c c .empty)) (fun o => chk f_spec_l13Missing_i11c f_spec_l13Missing_i11e o kk) = f_spec_l13Missing_i11 R c v kk := by kernel_rfl
theorem f_spec_l13Missing_i11Ok {X : Cx} (hX : en98.lo = X.lo) : SubOk Try.prog X 59 ⟨f_spec_l13Missing_i11c, f_spec_l13Missing_i11v, f_spec_l13Missing_i11e, f_spec_l13Missing_i11⟩ (ifAt 11 Try.f98) :=
  sub_if (u := ⟨f_spec_l13Missing_i11c, f_spec_l13Missing_i11v, f_spec_l13Missing_i11e, f_spec_l13Missing_i11⟩) (subs := su98i11) ok98 rfl hX (GoodN.good (K := True) (Eq.mpr (show GoodN Try.prog X 59 en98 su98i11 (ifAt 11 Try.f98) True = (True) by kernel_rfl) trivial)).1 (by decide) (by decide) f_spec_l13Missing_i11Eq
theorem f_spec_l13Missing_l7Eq (R : Type) (c : Vars f_spec_l13Missing_l7c) (v : Vars f_spec_l13Missing_l7v) (kk : Vars f_spec_l13Missing_l7c → (Vars f_spec_l13Missing_l7v ⊕ Oc f_spec_l13Missing_l7e) → Option R) : evC en98 su98 (loopAt 7 Try.f98) (Desc.mk2 f_spec_l13Missing_l7v v (Desc.mk2 f_spec_l13Missing_l7c c .empty)) (fun o => bodyK f_spec_l13Missing_l7c f_spec_l13Missing_l7v f_spec_l13Missing_l7e o kk) = f_spec_l13Missing_l7 R c v kk := by kernel_rfl
theorem f_spec_l13Missing_l7Ok {X : Cx} (hX : en98.lo = X.lo) : SubOk Try.prog X 59 ⟨f_spec_l13Missing_l7c, f_spec_l13Missing_l7v, f_spec_l13Missing_l7e, loopF f_spec_l13Missing_l7⟩ (.loop (loopAt 7 Try.f98)) :=
  sub_loop (subs := su98) ok98 rfl hX (GoodN.good (K := True) (Eq.mpr (show GoodN Try.prog X 59 en98 su98 (loopAt 7 Try.f98) True = (SubOk Try.prog X 59 ⟨f_spec_l13Missing_i11c, f_spec_l13Missing_i11v, f_spec_l13Missing_i11e, f_spec_l13Missing_i11⟩ (ifAt 11 Try.f98) ∧ True) by kernel_rfl) ⟨(f_spec_l13Missing_i11Ok hX), trivial⟩)).1 (by decide) (by decide) f_spec_l13Missing_l7Eq
theorem f_spec_l13Missing_l4Eq (R : Type) (c : Vars f_spec_l13Missing_l4c) (v : Vars f_spec_l13Missing_l4v) (kk : Vars f_spec_l13Missing_l4c → (Vars f_spec_l13Missing_l4v ⊕ Oc f_spec_l13Missing_l4e) → Option R) : evC en98 su98 (loopAt 4 Try.f98) (Desc.mk2 f_spec_l13Missing_l4v v (Desc.mk2 f_spec_l13Missing_l4c c .empty)) (fun o => bodyK f_spec_l13Missing_l4c f_spec_l13Missing_l4v f_spec_l13Missing_l4e o kk) = f_spec_l13Missing_l4 R c v kk := by kernel_rfl
theorem f_spec_l13Missing_l4Ok {X : Cx} (hX : en98.lo = X.lo) : SubOk Try.prog X 59 ⟨f_spec_l13Missing_l4c, f_spec_l13Missing_l4v, f_spec_l13Missing_l4e, loopF f_spec_l13Missing_l4⟩ (.loop (loopAt 4 Try.f98)) :=
  sub_loop (subs := su98) ok98 rfl hX (GoodN.good (K := True) (Eq.mpr (show GoodN Try.prog X 59 en98 su98 (loopAt 4 Try.f98) True = (SubOk Try.prog X 59 ⟨f_spec_l13Missing_l7c, f_spec_l13Missing_l7v, f_spec_l13Missing_l7e, loopF f_spec_l13Missing_l7⟩ (.loop (loopAt 7 Try.f98)) ∧ True) by kernel_rfl) ⟨(f_spec_l13Missing_l7Ok hX), trivial⟩)).1 (by decide) (by decide) f_spec_l13Missing_l4Eq
theorem f_spec_l13MissingEq (x : Ps ins98) : evF en98 su98 Try.f98 ins98 res98 x = f_spec_l13Missing x := by kernel_rfl
theorem so98 : Sound Try.prog 98 sg98 :=
  sound_of (fn := Try.f98) (c := bodyOf Try.f98) (subs := su98) (E := en98) (by kernel_rfl) (by kernel_rfl) (by decide) ok98 (by kernel_rfl) (by kernel_rfl) (by decide)
    (fun X hX => (GoodN.good (K := True) (Eq.mpr (show GoodN Try.prog X 59 en98 su98 (bodyOf Try.f98) True = (SubOk Try.prog X 59 ⟨f_spec_l13Missing_l4c, f_spec_l13Missing_l4v, f_spec_l13Missing_l4e, loopF f_spec_l13Missing_l4⟩ (.loop (loopAt 4 Try.f98)) ∧ True) by kernel_rfl) ⟨(f_spec_l13Missing_l4Ok hX), trivial⟩)).1)
    (fun x r h => (f_spec_l13MissingEq x).trans h)
def fl88 : List (Nat × Sig) := [(98, sg98), (124, sg124)]
def hi88 : List (Nat × (K × Mk)) := [(2, ((.sl .str), (.o .s))), (4, ((.sl .str), (.o .s)))]
def en88 : Env := { n := 52, ty := assocN tyL, fns := assocN fl88, lo := 0, hint := assocN hi88 }
def su88 : Bool → Nat → Option Sub | true, 5 => some ⟨f_spec_l13Finish_l5c, f_spec_l13Finish_l5v, f_spec_l13Finish_l5e, loopF f_spec_l13Finish_l5⟩ | true, 10 => some ⟨f_spec_l13Finish_l10c, f_spec_l13Finish_l10v, f_spec_l13Finish_l10e, loopF f_spec_l13Finish_l10⟩ | _, _ => none
theorem ok88 : EnvOk Try.prog en88 := envOk_of rfl rfl tyL_ok (⟨so98, ⟨so124, trivial⟩⟩)
theorem dr88r7 {X : Cx} (hX : en88.lo = X.lo) : RegOk Try.prog X 52 en88 7 (regAt 7 Try.f88) := regOk_of ok88 rfl hX (by kernel_rfl) (by kernel_rfl)
theorem dr88r12 {X : Cx} (hX : en88.lo = X.lo) : RegOk Try.prog X 52 en88 12 (regAt 12 Try.f88) := regOk_of ok88 rfl hX (by kernel_rfl) (by kernel_rfl)
theorem f_spec_l13Finish_l5Eq (R : Type) (c : Vars f_spec_l13Finish_l5c) (v : Vars f_spec_l13Finish_l5v) (kk : Vars f_spec_l13Finish_l5c → (Vars f_spec_l13Finish_l5v ⊕ Oc f_spec_l13Finish_l5e) → Option R) : evC en88 su88 (loopAt 5 Try.f88) (Desc.mk2 f_spec_l13Finish_l5v v (Desc.mk2 f_spec_l13Finish_l5c c .empty)) (fun o => bodyK f_spec_l13Finish_l5c f_spec_l13Finish_l5v f_spec_l13Finish_l5e o kk) = f_spec_l13Finish_l5 R c v kk := by kernel_rfl
theorem f_spec_l13Finish_l5Ok {X : Cx} (hX : en88.lo = X.lo) : SubOk Try.prog X 52 ⟨f_spec_l13Finish_l5c, f_spec_l13Finish_l5v, f_spec_l13Finish_l5e, loopF f_spec_l13Finish_l5⟩ (.loop (loopAt 5 Try.f88)) :=
  sub_loop (subs := su88) ok88 rfl hX (GoodN.good (K := True) (Eq.mpr (show GoodN Try.prog X 52 en88 su88 (loopAt 5 Try.f88) True = (RegOk Try.prog X 52 en88 7 (regAt 7 Try.f88) ∧ True) by kernel_rfl) ⟨(dr88r7 hX), trivial⟩)).1 (by decide) (by decide) f_spec_l13Finish_l5Eq
theorem f_spec_l13Finish_l10Eq (R : Type) (c : Vars f_spec_l13Finish_l10c) (v : Vars f_spec_l13Finish_l10v) (kk : Vars f_spec_l13Finish_l10c → (Vars f_spec_l13Finish_l10v ⊕ Oc f_spec_l13Finish_l10e) → Option R) : evC en88 su88 (loopAt 10 Try.f88) (Desc.mk2 f_spec_l13Finish_l10v v (Desc.mk2 f_spec_l13Finish_l10c c .empty)) (fun o => bodyK f_spec_l13Finish_l10c f_spec_l13Finish_l10v f_spec_l13Finish_l10e o kk) = f_spec_l13Finish_l10 R c v kk := by kernel_rfl
theorem f_spec_l13Finish_l10Ok {X : Cx} (hX : en88.lo = X.lo) : SubOk Try.prog X 52 ⟨f_spec_l13Finish_l10c, f_spec_l13Finish_l10v, f_spec_l13Finish_l10e, loopF f_spec_l13Finish_l10⟩ (.loop (loopAt 10 Try.f88)) :=
  sub_loop (subs := su88) ok88 rfl hX (GoodN.good (K := True) (Eq.mpr (show GoodN Try.prog X 52 en88 su88 (loopAt 10 Try.f88) True = (RegOk Try.prog X 52 en88 12 (regAt 12 Try.f88) ∧ True) by kernel_rfl) ⟨(dr88r12 hX), trivial⟩)).1 (by decide) (by decide) f_spec_l13Finish_l10Eq
theorem f_spec_l13FinishEq (x : Ps ins88) : evF en88 su88 Try.f88 ins88 res88 x = f_spec_l13Finish x := by kernel_rfl
theorem so88 : Sound Try.prog 88 sg88 :=
  sound_of (fn := Try.f88) (c := bodyOf Try.f88) (subs := su88) (E := en88) (by kernel_rfl) (by kernel_rfl) (by decide) ok88 (by kernel_rfl) (by kernel_rfl) (by decide)
    (fun X hX => (GoodN.good (K := True) (Eq.mpr (show GoodN Try.prog X 52 en88 su88 (bodyOf Try.f88) True = (SubOk Try.prog X 52 ⟨f_spec_l13Finish_l5c, f_spec_l13Finish_l5v, f_spec_l13Finish_l5e, loopF f_spec_l13Finish_l5⟩ (.loop (loopAt 5 Try.f88)) ∧ SubOk Try.prog X 52 ⟨f_spec_l13Finish_l10c, f_spec_l13Finish_l10v, f_spec_l13Finish_l10e, loopF f_spec_l13Finish_l10⟩ (.loop (loopAt 10 Try.f88)) ∧ True) by kernel_rfl) ⟨(f_spec_l13Finish_l5Ok hX), (f_spec_l13Finish_l10Ok hX), trivial⟩)).1)
    (fun x r h => (f_spec_l13FinishEq x).trans h)
def fl34 : List (Nat × Sig) := [(37, sg37), (84, sg84), (85, sg85), (86, sg86), (87, sg87), (88, sg88)]
def hi34 : List (Nat × (K × Mk)) := [(6, ((.sl .str), (.o .s))), (9, ((.sl kdChunk), (.o .s))), (11, ((.sl kdWanted), (.o .s))), (20, ((.sl (.int .u8)), (.o .s))), (23, ((.sl .str), (.o .s)))]
def en34 : Env := { n := 119, ty := assocN tyL, fns := assocN fl34, lo := 0, hint := assocN hi34, frz := frzOf [(4, [11])] }
def su34 : Bool → Nat → Option Sub | false, 14 => some ⟨f_spec_PlayTaking_i14c, f_spec_PlayTaking_i14v, f_spec_PlayTaking_i14e, f_spec_PlayTaking_i14⟩ | false, 19 => some ⟨f_spec_PlayTaking_i19c, f_spec_PlayTaking_i19v, f_spec_PlayTaking_i19e, f_spec_PlayTaking_i19⟩ | true, 8 => some ⟨f_spec_PlayTaking_l8c, f_spec_PlayTaking_l8v, f_spec_PlayTaking_l8e, loopF f_spec_PlayTaking_l8⟩ | false, 24 => some ⟨f_spec_PlayTaking_i24c, f_spec_PlayTaking_i24v, f_spec_PlayTaking_i24e, f_spec_PlayTaking_i24⟩ | _, _ => none
theorem ok34 : EnvOk Try.prog en34 := envOk_of rfl rfl tyL_ok (⟨so37, ⟨so84, ⟨so85, ⟨so86, ⟨so87, ⟨so88, trivial⟩⟩⟩⟩⟩⟩)
def su34i14 : Bool → Nat → Option Sub | false, 19 => some ⟨f_spec_PlayTaking_i19c, f_spec_PlayTaking_i19v, f_spec_PlayTaking_i19e, f_spec_PlayTaking_i19⟩ | true, 8 => some ⟨f_spec_PlayTaking_l8c, f_spec_PlayTaking_l8v, f_spec_PlayTaking_l8e, loopF f_spec_PlayTaking_l8⟩ | false, 24 => some ⟨f_spec_PlayTaking_i24c, f_spec_PlayTaking_i24v, f_spec_PlayTaking_i24e, f_spec_PlayTaking_i24⟩ | _, _ => none
theorem f_spec_PlayTaking_i14Eq (R : Type) (c : Vars f_spec_PlayTaking_i14c) (v : Vars f_spec_PlayTaking_i14v) (kk : Vars f_spec_PlayTaking_i14c → Oc f_spec_PlayTaking_i14e → Option R) : evC en34 su34i14 (ifAt 14 Try.f34) (Desc.mk2 f_spec_PlayTaking_i14v v (Desc.mk2 f_spec_PlayTaking_i14c c .empty)) (fun o => chk f_spec_PlayTaking_i14c f_spec_PlayTaking_i14e o kk) = f_spec_PlayTaking_i14 R c v kk := by kernel_rfl
theorem f_spec_PlayTaking_i14Ok {X : Cx} (hX : en34.lo = X.lo) : SubOk Try.prog X 119 ⟨f_spec_PlayTaking_i14c, f_spec_PlayTaking_i14v, f_spec_PlayTaking_i14e, f_spec_PlayTaking_i14⟩ (ifAt 14 Try.f34) :=
  sub_if (u := ⟨f_spec_PlayTaking_i14c, f_spec_PlayTaking_i14v, f_spec_PlayTaking_i14e, f_spec_PlayTaking_i14⟩) (subs := su34i14) ok34 rfl hX (GoodN.good (K := True) (Eq.mpr (show GoodN Try.prog X 119 en34 su34i14 (ifAt 14 Try.f34) True = (True) by kernel_rfl) trivial)).1 (by decide) (by decide) f_spec_PlayTaking_i14Eq
def su34i19 : Bool → Nat → Option Sub | false, 14 => some ⟨f_spec_PlayTaking_i14c, f_spec_PlayTaking_i14v, f_spec_PlayTaking_i14e, f_spec_PlayTaking_i14⟩ | true, 8 => some ⟨f_spec_PlayTaking_l8c, f_spec_PlayTaking_l8v, f_spec_PlayTaking_l8e, loopF f_spec_PlayTaking_l8⟩ | false, 24 => some ⟨f_spec_PlayTaking_i24c, f_spec_PlayTaking_i24v, f_spec_PlayTaking_i24e, f_spec_PlayTaking_i24⟩ | _, _ => none
theorem f_spec_PlayTaking_i19Eq (R : Type) (c : Vars f_spec_PlayTaking_i19c) (v : Vars f_spec_PlayTaking_i19v) (kk : Vars f_spec_PlayTaking_i19c → Oc f_spec_PlayTaking_i19e → Option R) : evC en34 su34i19 (ifAt 19 Try.f34) (Desc.mk2 f_spec_PlayTaking_i19v v (Desc.mk2 f_spec_PlayTaking_i19c c .empty)) (fun o => chk f_spec_PlayTaking_i19c f_spec_PlayTaking_i19e o kk) = f_spec_PlayTaking_i19 R c v kk := by kernel_rfl
theorem f_spec_PlayTaking_i19Ok {X : Cx} (hX : en34.lo = X.lo) : SubOk Try.prog X 119 ⟨f_spec_PlayTaking_i19c, f_spec_PlayTaking_i19v, f_spec_PlayTaking_i19e, f_spec_PlayTaking_i19⟩ (ifAt 19 Try.f34) :=
  sub_if (u := ⟨f_spec_PlayTaking_i19c, f_spec_PlayTaking_i19v, f_spec_PlayTaking_i19e, f_spec_PlayTaking_i19⟩) (subs := su34i19) ok34 rfl hX (GoodN.good (K := True) (Eq.mpr (show GoodN Try.prog X 119 en34 su34i19 (ifAt 19 Try.f34) True = (True) by kernel_rfl) trivial)).1 (by decide) (by decide) f_spec_PlayTaking_i19Eq
theorem f_spec_PlayTaking_l8Eq (R : Type) (c : Vars f_spec_PlayTaking_l8c) (v : Vars f_spec_PlayTaking_l8v) (kk : Vars f_spec_PlayTaking_l8c → (Vars f_spec_PlayTaking_l8v ⊕ Oc f_spec_PlayTaking_l8e) → Option R) : evC en34 su34 (loopAt 8 Try.f34) (Desc.mk2 f_spec_PlayTaking_l8v v (Desc.mk2 f_spec_PlayTaking_l8c c .empty)) (fun o => bodyK f_spec_PlayTaking_l8c f_spec_PlayTaking_l8v f_spec_PlayTaking_l8e o kk) = f_spec_PlayTaking_l8 R c v kk := by kernel_rfl
theorem f_spec_PlayTaking_l8Ok {X : Cx} (hX : en34.lo = X.lo) : SubOk Try.prog X 119 ⟨f_spec_PlayTaking_l8c, f_spec_PlayTaking_l8v, f_spec_PlayTaking_l8e, loopF f_spec_PlayTaking_l8⟩ (.loop (loopAt 8 Try.f34)) :=
  sub_loop (subs := su34) ok34 rfl hX (GoodN.good (K := True) (Eq.mpr (show GoodN Try.prog X 119 en34 su34 (loopAt 8 Try.f34) True = (SubOk Try.prog X 119 ⟨f_spec_PlayTaking_i14c, f_spec_PlayTaking_i14v, f_spec_PlayTaking_i14e, f_spec_PlayTaking_i14⟩ (ifAt 14 Try.f34) ∧ SubOk Try.prog X 119 ⟨f_spec_PlayTaking_i19c, f_spec_PlayTaking_i19v, f_spec_PlayTaking_i19e, f_spec_PlayTaking_i19⟩ (ifAt 19 Try.f34) ∧ True) by kernel_rfl) ⟨(f_spec_PlayTaking_i14Ok hX), (f_spec_PlayTaking_i19Ok hX), trivial⟩)).1 (by decide) (by decide) f_spec_PlayTaking_l8Eq
def su34i24 : Bool → Nat → Option Sub | false, 14 => some ⟨f_spec_PlayTaking_i14c, f_spec_PlayTaking_i14v, f_spec_PlayTaking_i14e, f_spec_PlayTaking_i14⟩ | false, 19 => some ⟨f_spec_PlayTaking_i19c, f_spec_PlayTaking_i19v, f_spec_PlayTaking_i19e, f_spec_PlayTaking_i19⟩ | true, 8 => some ⟨f_spec_PlayTaking_l8c, f_spec_PlayTaking_l8v, f_spec_PlayTaking_l8e, loopF f_spec_PlayTaking_l8⟩ | _, _ => none
theorem f_spec_PlayTaking_i24Eq (R : Type) (c : Vars f_spec_PlayTaking_i24c) (v : Vars f_spec_PlayTaking_i24v) (kk : Vars f_spec_PlayTaking_i24c → Oc f_spec_PlayTaking_i24e → Option R) : evC en34 su34i24 (ifAt 24 Try.f34) (Desc.mk2 f_spec_PlayTaking_i24v v (Desc.mk2 f_spec_PlayTaking_i24c c .empty)) (fun o => chk f_spec_PlayTaking_i24c f_spec_PlayTaking_i24e o kk) = f_spec_PlayTaking_i24 R c v kk := by kernel_rfl
theorem f_spec_PlayTaking_i24Ok {X : Cx} (hX : en34.lo = X.lo) : SubOk Try.prog X 119 ⟨f_spec_PlayTaking_i24c, f_spec_PlayTaking_i24v, f_spec_PlayTaking_i24e, f_spec_PlayTaking_i24⟩ (ifAt 24 Try.f34) :=
  sub_if (u := ⟨f_spec_PlayTaking_i24c, f_spec_PlayTaking_i24v, f_spec_PlayTaking_i24e, f_spec_PlayTaking_i24⟩) (subs := su34i24) ok34 rfl hX (GoodN.good (K := True) (Eq.mpr (show GoodN Try.prog X 119 en34 su34i24 (ifAt 24 Try.f34) True = (True) by kernel_rfl) trivial)).1 (by decide) (by decide) f_spec_PlayTaking_i24Eq
theorem f_spec_PlayTakingEq (x : Ps ins34) : evF en34 su34 Try.f34 ins34 res34 x = f_spec_PlayTaking x := by kernel_rfl
theorem so34 : Sound Try.prog 34 sg34 :=
  sound_of (fn := Try.f34) (c := bodyOf Try.f34) (subs := su34) (E := en34) (by kernel_rfl) (by kernel_rfl) (by decide) ok34 (by kernel_rfl) (by kernel_rfl) (by decide)
    (fun X hX => (GoodN.good (K := True) (Eq.mpr (show GoodN Try.prog X 119 en34 su34 (bodyOf Try.f34) True = (SubOk Try.prog X 119 ⟨f_spec_PlayTaking_l8c, f_spec_PlayTaking_l8v, f_spec_PlayTaking_l8e, loopF f_spec_PlayTaking_l8⟩ (.loop (loopAt 8 Try.f34)) ∧ SubOk Try.prog X 119 ⟨f_spec_PlayTaking_i24c, f_spec_PlayTaking_i24v, f_spec_PlayTaking_i24e, f_spec_PlayTaking_i24⟩ (ifAt 24 Try.f34) ∧ True) by kernel_rfl) ⟨(f_spec_PlayTaking_l8Ok hX), (f_spec_PlayTaking_i24Ok hX), trivial⟩)).1)
    (fun x r h => (f_spec_PlayTakingEq x).trans h)
def fl35 : List (Nat × Sig) := []
def en35 : Env := { n := 26, ty := assocN tyL, fns := assocN fl35, lo := 0 }
def su35 : Bool → Nat → Option Sub | true, 4 => some ⟨f_laws_sameTexts_l4c, f_laws_sameTexts_l4v, f_laws_sameTexts_l4e, loopF f_laws_sameTexts_l4⟩ | _, _ => none
theorem ok35 : EnvOk Try.prog en35 := envOk_of rfl rfl tyL_ok (trivial)
theorem dr35r6 {X : Cx} (hX : en35.lo = X.lo) : RegOk Try.prog X 26 en35 6 (regAt 6 Try.f35) := regOk_of ok35 rfl hX (by kernel_rfl) (by kernel_rfl)
theorem f_laws_sameTexts_l4Eq (R : Type) (c : Vars f_laws_sameTexts_l4c) (v : Vars f_laws_sameTexts_l4v) (kk : Vars f_laws_sameTexts_l4c → (Vars f_laws_sameTexts_l4v ⊕ Oc f_laws_sameTexts_l4e) → Option R) : evC en35 su35 (loopAt 4 Try.f35) (Desc.mk2 f_laws_sameTexts_l4v v (Desc.mk2 f_laws_sameTexts_l4c c .empty)) (fun o => bodyK f_laws_sameTexts_l4c f_laws_sameTexts_l4v f_laws_sameTexts_l4e o kk) = f_laws_sameTexts_l4 R c v kk := by kernel_rfl
theorem f_laws_sameTexts_l4Ok {X : Cx} (hX : en35.lo = X.lo) : SubOk Try.prog X 26 ⟨f_laws_sameTexts_l4c, f_laws_sameTexts_l4v, f_laws_sameTexts_l4e, loopF f_laws_sameTexts_l4⟩ (.loop (loopAt 4 Try.f35)) :=
  sub_loop (subs := su35) ok35 rfl hX (GoodN.good (K := True) (Eq.mpr (show GoodN Try.prog X 26 en35 su35 (loopAt 4 Try.f35) True = (RegOk Try.prog X 26 en35 6 (regAt 6 Try.f35) ∧ True) by kernel_rfl) ⟨(dr35r6 hX), trivial⟩)).1 (by decide) (by decide) f_laws_sameTexts_l4Eq
theorem f_laws_sameTextsEq (x : Ps ins35) : evF en35 su35 Try.f35 ins35 res35 x = f_laws_sameTexts x := by kernel_rfl
theorem so35 : Sound Try.prog 35 sg35 :=
  sound_of (fn := Try.f35) (c := bodyOf Try.f35) (subs := su35) (E := en35) (by kernel_rfl) (by kernel_rfl) (by decide) ok35 (by kernel_rfl) (by kernel_rfl) (by decide)
    (fun X hX => (GoodN.good (K := True) (Eq.mpr (show GoodN Try.prog X 26 en35 su35 (bodyOf Try.f35) True = (SubOk Try.prog X 26 ⟨f_laws_sameTexts_l4c, f_laws_sameTexts_l4v, f_laws_sameTexts_l4e, loopF f_laws_sameTexts_l4⟩ (.loop (loopAt 4 Try.f35)) ∧ True) by kernel_rfl) ⟨(f_laws_sameTexts_l4Ok hX), trivial⟩)).1)
    (fun x r h => (f_laws_sameTextsEq x).trans h)
def fl38 : List (Nat × Sig) := []
def en38 : Env := { n := 26, ty := assocN tyL, fns := assocN fl38, lo := 0 }
def su38 : Bool → Nat → Option Sub | true, 4 => some ⟨f_laws_sameChunks_l4c, f_laws_sameChunks_l4v, f_laws_sameChunks_l4e, loopF f_laws_sameChunks_l4⟩ | _, _ => none
theorem ok38 : EnvOk Try.prog en38 := envOk_of rfl rfl tyL_ok (trivial)
theorem dr38r6 {X : Cx} (hX : en38.lo = X.lo) : RegOk Try.prog X 26 en38 6 (regAt 6 Try.f38) := regOk_of ok38 rfl hX (by kernel_rfl) (by kernel_rfl)
theorem f_laws_sameChunks_l4Eq (R : Type) (c : Vars f_laws_sameChunks_l4c) (v : Vars f_laws_sameChunks_l4v) (kk : Vars f_laws_sameChunks_l4c → (Vars f_laws_sameChunks_l4v ⊕ Oc f_laws_sameChunks_l4e) → Option R) : evC en38 su38 (loopAt 4 Try.f38) (Desc.mk2 f_laws_sameChunks_l4v v (Desc.mk2 f_laws_sameChunks_l4c c .empty)) (fun o => bodyK f_laws_sameChunks_l4c f_laws_sameChunks_l4v f_laws_sameChunks_l4e o kk) = f_laws_sameChunks_l4 R c v kk := by kernel_rfl
theorem f_laws_sameChunks_l4Ok {X : Cx} (hX : en38.lo = X.lo) : SubOk Try.prog X 26 ⟨f_laws_sameChunks_l4c, f_laws_sameChunks_l4v, f_laws_sameChunks_l4e, loopF f_laws_sameChunks_l4⟩ (.loop (loopAt 4 Try.f38)) :=
  sub_loop (subs := su38) ok38 rfl hX (GoodN.good (K := True) (Eq.mpr (show GoodN Try.prog X 26 en38 su38 (loopAt 4 Try.f38) True = (RegOk Try.prog X 26 en38 6 (regAt 6 Try.f38) ∧ True) by kernel_rfl) ⟨(dr38r6 hX), trivial⟩)).1 (by decide) (by decide) f_laws_sameChunks_l4Eq
theorem f_laws_sameChunksEq (x : Ps ins38) : evF en38 su38 Try.f38 ins38 res38 x = f_laws_sameChunks x := by kernel_rfl
theorem so38 : Sound Try.prog 38 sg38 :=
  sound_of (fn := Try.f38) (c := bodyOf Try.f38) (subs := su38) (E := en38) (by kernel_rfl) (by kernel_rfl) (by decide) ok38 (by kernel_rfl) (by kernel_rfl) (by decide)
    (fun X hX => (GoodN.good (K := True) (Eq.mpr (show GoodN Try.prog X 26 en38 su38 (bodyOf Try.f38) True = (SubOk Try.prog X 26 ⟨f_laws_sameChunks_l4c, f_laws_sameChunks_l4v, f_laws_sameChunks_l4e, loopF f_laws_sameChunks_l4⟩ (.loop (loopAt 4 Try.f38)) ∧ True) by kernel_rfl) ⟨(f_laws_sameChunks_l4Ok hX), trivial⟩)).1)
    (fun x r h => (f_laws_sameChunksEq x).trans h)
def fl6 : List (Nat × Sig) := [(32, sg32), (33, sg33), (34, sg34), (35, sg35), (36, sg36), (37, sg37), (38, sg38)]
def hi6 : List (Nat × (K × Mk)) := [(3, ((.sl .str), (.o .s))), (4, ((.sl (.int .i64)), (.o .s))), (5, ((.sl (.int .i64)), (.o .s))), (6, ((.sl .str), (.o .s))), (9, ((.sl .str), (.o .s))), (12, ((.sl kdChunk), (.o .s))), (14, ((.sl kdChunk), (.o .s))), (16, ((.sl .bool), (.o .s)))]
def en6 : Env := { n := 162, ty := assocN tyL, fns := assocN fl6, lo := 0, hint := assocN hi6 }
def su6 : Bool → Nat → Option Sub | true, 17 => some ⟨f_laws_FnSent_l17c, f_laws_FnSent_l17v, f_laws_FnSent_l17e, loopF f_laws_FnSent_l17⟩ | true, 25 => some ⟨f_laws_FnSent_l25c, f_laws_FnSent_l25v, f_laws_FnSent_l25e, loopF f_laws_FnSent_l25⟩ | _, _ => none
theorem ok6 : EnvOk Try.prog en6 := envOk_of rfl rfl tyL_ok (⟨so32, ⟨so33, ⟨so34, ⟨so35, ⟨so36, ⟨so37, ⟨so38, trivial⟩⟩⟩⟩⟩⟩⟩)
theorem dr6r19 {X : Cx} (hX : en6.lo = X.lo) : RegOk Try.prog X 162 en6 19 (regAt 19 Try.f6) := regOk_of ok6 rfl hX (by kernel_rfl) (by kernel_rfl)
theorem f_laws_FnSent_l17Eq (R : Type) (c : Vars f_laws_FnSent_l17c) (v : Vars f_laws_FnSent_l17v) (kk : Vars f_laws_FnSent_l17c → (Vars f_laws_FnSent_l17v ⊕ Oc f_laws_FnSent_l17e) → Option R) : evC en6 su6 (loopAt 17 Try.f6) (Desc.mk2 f_laws_FnSent_l17v v (Desc.mk2 f_laws_FnSent_l17c c .empty)) (fun o => bodyK f_laws_FnSent_l17c f_laws_FnSent_l17v f_laws_FnSent_l17e o kk) = f_laws_FnSent_l17 R c v kk := by kernel_rfl
theorem f_laws_FnSent_l17Ok {X : Cx} (hX : en6.lo = X.lo) : SubOk Try.prog X 162 ⟨f_laws_FnSent_l17c, f_laws_FnSent_l17v, f_laws_FnSent_l17e, loopF f_laws_FnSent_l17⟩ (.loop (loopAt 17 Try.f6)) :=
  sub_loop (subs := su6) ok6 rfl hX (GoodN.good (K := True) (Eq.mpr (show GoodN Try.prog X 162 en6 su6 (loopAt 17 Try.f6) True = (RegOk Try.prog X 162 en6 19 (regAt 19 Try.f6) ∧ True) by kernel_rfl) ⟨(dr6r19 hX), trivial⟩)).1 (by decide) (by decide) f_laws_FnSent_l17Eq
theorem f_laws_FnSent_l25Eq (R : Type) (c : Vars f_laws_FnSent_l25c) (v : Vars f_laws_FnSent_l25v) (kk : Vars f_laws_FnSent_l25c → (Vars f_laws_FnSent_l25v ⊕ Oc f_laws_FnSent_l25e) → Option R) : evC en6 su6 (loopAt 25 Try.f6) (Desc.mk2 f_laws_FnSent_l25v v (Desc.mk2 f_laws_FnSent_l25c c .empty)) (fun o => bodyK f_laws_FnSent_l25c f_laws_FnSent_l25v f_laws_FnSent_l25e o kk) = f_laws_FnSent_l25 R c v kk := by kernel_rfl
theorem f_laws_FnSent_l25Ok {X : Cx} (hX : en6.lo = X.lo) : SubOk Try.prog X 162 ⟨f_laws_FnSent_l25c, f_laws_FnSent_l25v, f_laws_FnSent_l25e, loopF f_laws_FnSent_l25⟩ (.loop (loopAt 25 Try.f6)) :=
  sub_loop (subs := su6) ok6 rfl hX (GoodN.good (K := True) (Eq.mpr (show GoodN Try.prog X 162 en6 su6 (loopAt 25 Try.f6) True = (True) by kernel_rfl) trivial)).1 (by decide) (by decide) f_laws_FnSent_l25Eq
theorem f_laws_FnSentEq (x : Ps ins6) : evF en6 su6 Try.f6 ins6 res6 x = f_laws_FnSent x := by kernel_rfl
theorem so6 : Sound Try.prog 6 sg6 :=
  sound_of (fn := Try.f6) (c := bodyOf Try.f6) (subs := su6) (E := en6) (by kernel_rfl) (by kernel_rfl) (by decide) ok6 (by kernel_rfl) (by kernel_rfl) (by decide)
    (fun X hX => (GoodN.good (K := True) (Eq.mpr (show GoodN Try.prog X 162 en6 su6 (bodyOf Try.f6) True = (SubOk Try.prog X 162 ⟨f_laws_FnSent_l17c, f_laws_FnSent_l17v, f_laws_FnSent_l17e, loopF f_laws_FnSent_l17⟩ (.loop (loopAt 17 Try.f6)) ∧ SubOk Try.prog X 162 ⟨f_laws_FnSent_l25c, f_laws_FnSent_l25v, f_laws_FnSent_l25e, loopF f_laws_FnSent_l25⟩ (.loop (loopAt 25 Try.f6)) ∧ True) by kernel_rfl) ⟨(f_laws_FnSent_l17Ok hX), (f_laws_FnSent_l25Ok hX), trivial⟩)).1)
    (fun x r h => (f_laws_FnSentEq x).trans h)
end Go.Proofs.Ytogmfilmfkepfaa
