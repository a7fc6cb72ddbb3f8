/- The typed functions are what the program's code says. (Printed by a program of mine, wip/tools/gen.py.) -/
import Derived.Test.YtncalmofbcmkaaaProg
import Derived.Test.YtncalmofbcmkaaaR2Lib
import Derived.Test.YtncalmofbcmkaaaR2Fns
set_option linter.all false
set_option maxRecDepth 100000
noncomputable section
namespace Go.Proofs.Ytncalmofbcmkaaa
open Go Go.Proofs.Ytncalmofbcmkaaa.Ev
theorem ty3 : TyOk Try.prog 3 (.int .i64) := ⟨⟨by kernel_rfl, by kernel_rfl⟩, by kernel_rfl⟩
theorem ty9 : TyOk Try.prog 9 .str := ⟨⟨by kernel_rfl, by kernel_rfl⟩, by kernel_rfl⟩
theorem ty93 : TyOk Try.prog 93 kdFilter := ty_struct (f := (⟨ "Hashes", 3, 0, false, "", "", 0⟩ : Field)) (l := [(⟨ "Bits", 9, 1, false, "", "", 8⟩ : Field), (⟨ "Many", 3, 2, false, "", "", 24⟩ : Field)]) ⟨by kernel_rfl, by kernel_rfl⟩ (by kernel_rfl) (by kernel_rfl) ⟨rfl, by decide, ty3, ⟨rfl, by decide, ty9, ⟨rfl, by decide, ty3, rfl⟩⟩⟩
theorem ty108 : TyOk Try.prog 108 kdItem := ty_struct (f := (⟨ "Key", 9, 0, false, "", "", 0⟩ : Field)) (l := [(⟨ "Seq", 3, 1, false, "", "", 16⟩ : Field), (⟨ "Kind", 3, 2, false, "", "", 24⟩ : Field), (⟨ "Value", 9, 3, false, "", "", 32⟩ : Field)]) ⟨by kernel_rfl, by kernel_rfl⟩ (by kernel_rfl) (by kernel_rfl) ⟨rfl, by decide, ty9, ⟨rfl, by decide, ty3, ⟨rfl, by decide, ty3, ⟨rfl, by decide, ty9, rfl⟩⟩⟩⟩
theorem ty177 : TyOk Try.prog 177 kdPlace := ty_struct (f := (⟨ "Last", 9, 0, false, "", "", 0⟩ : Field)) (l := [(⟨ "Seq", 3, 1, false, "", "", 16⟩ : Field), (⟨ "At", 3, 2, false, "", "", 24⟩ : Field), (⟨ "Size", 3, 3, false, "", "", 32⟩ : Field)]) ⟨by kernel_rfl, by kernel_rfl⟩ (by kernel_rfl) (by kernel_rfl) ⟨rfl, by decide, ty9, ⟨rfl, by decide, ty3, ⟨rfl, by decide, ty3, ⟨rfl, by decide, ty3, rfl⟩⟩⟩⟩
theorem ty97 : TyOk Try.prog 97 (.sl kdItem) := ty_sl ⟨by kernel_rfl, by kernel_rfl⟩ (by kernel_rfl) ty108
theorem ty102 : TyOk Try.prog 102 (.sl kdPlace) := ty_sl ⟨by kernel_rfl, by kernel_rfl⟩ (by kernel_rfl) ty177
theorem ty168 : TyOk Try.prog 168 kdtable := ty_struct (f := (⟨ "items", 97, 0, false, "", "loop.example/g00224/impl", 0⟩ : Field)) (l := [(⟨ "index", 102, 1, false, "", "loop.example/g00224/impl", 24⟩ : Field), (⟨ "filter", 93, 2, false, "", "loop.example/g00224/impl", 48⟩ : Field)]) ⟨by kernel_rfl, by kernel_rfl⟩ (by kernel_rfl) (by kernel_rfl) ⟨rfl, by decide, ty97, ⟨rfl, by decide, ty102, ⟨rfl, by decide, ty93, rfl⟩⟩⟩
theorem ty4 : TyOk Try.prog 4 .bool := ⟨⟨by kernel_rfl, by kernel_rfl⟩, by kernel_rfl⟩
theorem ty129 : TyOk Try.prog 129 kdtaker := ty_struct (f := (⟨ "left", 9, 0, false, "", "loop.example/g00224/impl", 0⟩ : Field)) (l := [(⟨ "bad", 4, 1, false, "", "loop.example/g00224/impl", 16⟩ : Field)]) ⟨by kernel_rfl, by kernel_rfl⟩ (by kernel_rfl) (by kernel_rfl) ⟨rfl, by decide, ty9, ⟨rfl, by decide, ty4, rfl⟩⟩
theorem ty24 : TyOk Try.prog 24 (.sl (.int .i64)) := ty_sl ⟨by kernel_rfl, by kernel_rfl⟩ (by kernel_rfl) ty3
theorem ty58 : TyOk Try.prog 58 (.sl .str) := ty_sl ⟨by kernel_rfl, by kernel_rfl⟩ (by kernel_rfl) ty9
theorem ty69 : TyOk Try.prog 69 (.int .u32) := ⟨⟨by kernel_rfl, by kernel_rfl⟩, by kernel_rfl⟩
theorem ty241 : TyOk Try.prog 241 (.sl (.int .u32)) := ty_sl ⟨by kernel_rfl, by kernel_rfl⟩ (by kernel_rfl) ty69
theorem ty5 : TyOk Try.prog 5 (.int .u8) := ⟨⟨by kernel_rfl, by kernel_rfl⟩, by kernel_rfl⟩
theorem ty34 : TyOk Try.prog 34 (.sl (.int .u8)) := ty_sl ⟨by kernel_rfl, by kernel_rfl⟩ (by kernel_rfl) ty5
theorem ty156 : TyOk Try.prog 156 (.int .u64) := ⟨⟨by kernel_rfl, by kernel_rfl⟩, by kernel_rfl⟩
def tyL : List (Nat × K) := [(3, (.int .i64)), (9, .str), (93, kdFilter), (108, kdItem), (177, kdPlace), (97, (.sl kdItem)), (102, (.sl kdPlace)), (168, kdtable), (4, .bool), (129, kdtaker), (24, (.sl (.int .i64))), (58, (.sl .str)), (69, (.int .u32)), (241, (.sl (.int .u32))), (5, (.int .u8)), (34, (.sl (.int .u8))), (156, (.int .u64))]
theorem tyL_ok : AllTy Try.prog tyL := ⟨ty3, ⟨ty9, ⟨ty93, ⟨ty108, ⟨ty177, ⟨ty97, ⟨ty102, ⟨ty168, ⟨ty4, ⟨ty129, ⟨ty24, ⟨ty58, ⟨ty69, ⟨ty241, ⟨ty5, ⟨ty34, ⟨ty156, trivial⟩⟩⟩⟩⟩⟩⟩⟩⟩⟩⟩⟩⟩⟩⟩⟩⟩
/-! loop.example/g00224/spec.l2Table -/
def fl214 : List (Nat × Sig) := []
def hi214 : List (Nat × (K × Mk)) := [(0, ((.sl (.int .u32)), (.o .s))), (1, ((.sl (.int .u32)), (.o .s)))]
def en214 : Env := { n := 32, ty := assocN tyL, fns := assocN fl214, lo := 0, hint := assocN hi214 }
def su214 : Bool → Nat → Option Sub | false, 12 => some ⟨f_spec_l2Table_i12c, f_spec_l2Table_i12v, f_spec_l2Table_i12e, f_spec_l2Table_i12⟩ | true, 7 => some ⟨f_spec_l2Table_l7c, f_spec_l2Table_l7v, f_spec_l2Table_l7e, loopF f_spec_l2Table_l7⟩ | true, 3 => some ⟨f_spec_l2Table_l3c, f_spec_l2Table_l3v, f_spec_l2Table_l3e, loopF f_spec_l2Table_l3⟩ | _, _ => none
theorem ok214 : EnvOk Try.prog en214 := envOk_of rfl rfl tyL_ok (trivial)
def su214i12 : Bool → Nat → Option Sub | true, 7 => some ⟨f_spec_l2Table_l7c, f_spec_l2Table_l7v, f_spec_l2Table_l7e, loopF f_spec_l2Table_l7⟩ | true, 3 => some ⟨f_spec_l2Table_l3c, f_spec_l2Table_l3v, f_spec_l2Table_l3e, loopF f_spec_l2Table_l3⟩ | _, _ => none
theorem f_spec_l2Table_i12Eq (R : Type) (c : Vars f_spec_l2Table_i12c) (v : Vars f_spec_l2Table_i12v) (kk : Vars f_spec_l2Table_i12c → Oc f_spec_l2Table_i12e → Option R) : evC en214 su214i12 (ifAt 12 Try.f214) (Desc.mk2 f_spec_l2Table_i12v v (Desc.mk2 f_spec_l2Table_i12c c .empty)) (fun o => chk f_spec_l2Table_i12c f_spec_l2Table_i12e o kk) = f_spec_l2Table_i12 R c v kk := by kernel_rfl
theorem f_spec_l2Table_i12Ok {X : Cx} (hX : en214.lo = X.lo) : SubOk Try.prog X 32 ⟨f_spec_l2Table_i12c, f_spec_l2Table_i12v, f_spec_l2Table_i12e, f_spec_l2Table_i12⟩ (ifAt 12 Try.f214) :=
  sub_if (u := ⟨f_spec_l2Table_i12c, f_spec_l2Table_i12v, f_spec_l2Table_i12e, f_spec_l2Table_i12⟩) (subs := su214i12) ok214 rfl hX (GoodN.good (K := True) (Eq.mpr (show GoodN Try.prog X 32 en214 su214i12 (ifAt 12 Try.f214) True = (True) by kernel_rfl) trivial)).1 (by decide) (by decide) f_spec_l2Table_i12Eq
theorem f_spec_l2Table_l7Eq (R : Type) (c : Vars f_spec_l2Table_l7c) (v : Vars f_spec_l2Table_l7v) (kk : Vars f_spec_l2Table_l7c → (Vars f_spec_l2Table_l7v ⊕ Oc f_spec_l2Table_l7e) → Option R) : evC en214 su214 (loopAt 7 Try.f214) (Desc.mk2 f_spec_l2Table_l7v v (Desc.mk2 f_spec_l2Table_l7c c .empty)) (fun o => bodyK f_spec_l2Table_l7c f_spec_l2Table_l7v f_spec_l2Table_l7e o kk) = f_spec_l2Table_l7 R c v kk := by kernel_rfl
theorem f_spec_l2Table_l7Ok {X : Cx} (hX : en214.lo = X.lo) : SubOk Try.prog X 32 ⟨f_spec_l2Table_l7c, f_spec_l2Table_l7v, f_spec_l2Table_l7e, loopF f_spec_l2Table_l7⟩ (.loop (loopAt 7 Try.f214)) :=
  sub_loop (subs := su214) ok214 rfl hX (GoodN.good (K := True) (Eq.mpr (show GoodN Try.prog X 32 en214 su214 (loopAt 7 Try.f214) True = (SubOk Try.prog X 32 ⟨f_spec_l2Table_i12c, f_spec_l2Table_i12v, f_spec_l2Table_i12e, f_spec_l2Table_i12⟩ (ifAt 12 Try.f214) ∧ True) by kernel_rfl) ⟨(f_spec_l2Table_i12Ok hX), trivial⟩)).1 (by decide) (by decide) f_spec_l2Table_l7Eq
theorem f_spec_l2Table_l3Eq (R : Type) (c : Vars f_spec_l2Table_l3c) (v : Vars f_spec_l2Table_l3v) (kk : Vars f_spec_l2Table_l3c → (Vars f_spec_l2Table_l3v ⊕ Oc f_spec_l2Table_l3e) → Option R) : evC en214 su214 (loopAt 3 Try.f214) (Desc.mk2 f_spec_l2Table_l3v v (Desc.mk2 f_spec_l2Table_l3c c .empty)) (fun o => bodyK f_spec_l2Table_l3c f_spec_l2Table_l3v f_spec_l2Table_l3e o kk) = f_spec_l2Table_l3 R c v kk := by kernel_rfl
theorem f_spec_l2Table_l3Ok {X : Cx} (hX : en214.lo = X.lo) : SubOk Try.prog X 32 ⟨f_spec_l2Table_l3c, f_spec_l2Table_l3v, f_spec_l2Table_l3e, loopF f_spec_l2Table_l3⟩ (.loop (loopAt 3 Try.f214)) :=
  sub_loop (subs := su214) ok214 rfl hX (GoodN.good (K := True) (Eq.mpr (show GoodN Try.prog X 32 en214 su214 (loopAt 3 Try.f214) True = (SubOk Try.prog X 32 ⟨f_spec_l2Table_l7c, f_spec_l2Table_l7v, f_spec_l2Table_l7e, loopF f_spec_l2Table_l7⟩ (.loop (loopAt 7 Try.f214)) ∧ True) by kernel_rfl) ⟨(f_spec_l2Table_l7Ok hX), trivial⟩)).1 (by decide) (by decide) f_spec_l2Table_l3Eq
theorem f_spec_l2TableEq (x : Ps ins214) : evF en214 su214 Try.f214 ins214 res214 x = f_spec_l2Table x := by kernel_rfl
theorem so214 : Sound Try.prog 214 sg214 :=
  sound_of (fn := Try.f214) (c := bodyOf Try.f214) (subs := su214) (E := en214) (by kernel_rfl) (by kernel_rfl) (by decide) ok214 (by kernel_rfl) (by kernel_rfl) (by decide)
    (fun X hX => (GoodN.good (K := True) (Eq.mpr (show GoodN Try.prog X 32 en214 su214 (bodyOf Try.f214) True = (SubOk Try.prog X 32 ⟨f_spec_l2Table_l3c, f_spec_l2Table_l3v, f_spec_l2Table_l3e, loopF f_spec_l2Table_l3⟩ (.loop (loopAt 3 Try.f214)) ∧ True) by kernel_rfl) ⟨(f_spec_l2Table_l3Ok hX), trivial⟩)).1)
    (fun x r h => (f_spec_l2TableEq x).trans h)
/-! loop.example/g00224/spec.l2On -/
def fl213 : List (Nat × Sig) := []
def en213 : Env := { n := 27, ty := assocN tyL, fns := assocN fl213, lo := 0 }
def su213 : Bool → Nat → Option Sub | true, 2 => some ⟨f_spec_l2On_l2c, f_spec_l2On_l2v, f_spec_l2On_l2e, loopF f_spec_l2On_l2⟩ | _, _ => none
theorem ok213 : EnvOk Try.prog en213 := envOk_of rfl rfl tyL_ok (trivial)
theorem f_spec_l2On_l2Eq (R : Type) (c : Vars f_spec_l2On_l2c) (v : Vars f_spec_l2On_l2v) (kk : Vars f_spec_l2On_l2c → (Vars f_spec_l2On_l2v ⊕ Oc f_spec_l2On_l2e) → Option R) : evC en213 su213 (loopAt 2 Try.f213) (Desc.mk2 f_spec_l2On_l2v v (Desc.mk2 f_spec_l2On_l2c c .empty)) (fun o => bodyK f_spec_l2On_l2c f_spec_l2On_l2v f_spec_l2On_l2e o kk) = f_spec_l2On_l2 R c v kk := by kernel_rfl
theorem f_spec_l2On_l2Ok {X : Cx} (hX : en213.lo = X.lo) : SubOk Try.prog X 27 ⟨f_spec_l2On_l2c, f_spec_l2On_l2v, f_spec_l2On_l2e, loopF f_spec_l2On_l2⟩ (.loop (loopAt 2 Try.f213)) :=
  sub_loop (subs := su213) ok213 rfl hX (GoodN.good (K := True) (Eq.mpr (show GoodN Try.prog X 27 en213 su213 (loopAt 2 Try.f213) True = (True) by kernel_rfl) trivial)).1 (by decide) (by decide) f_spec_l2On_l2Eq
theorem f_spec_l2OnEq (x : Ps ins213) : evF en213 su213 Try.f213 ins213 res213 x = f_spec_l2On x := by kernel_rfl
theorem so213 : Sound Try.prog 213 sg213 :=
  sound_of (fn := Try.f213) (c := bodyOf Try.f213) (subs := su213) (E := en213) (by kernel_rfl) (by kernel_rfl) (by decide) ok213 (by kernel_rfl) (by kernel_rfl) (by decide)
    (fun X hX => (GoodN.good (K := True) (Eq.mpr (show GoodN Try.prog X 27 en213 su213 (bodyOf Try.f213) True = (SubOk Try.prog X 27 ⟨f_spec_l2On_l2c, f_spec_l2On_l2v, f_spec_l2On_l2e, loopF f_spec_l2On_l2⟩ (.loop (loopAt 2 Try.f213)) ∧ True) by kernel_rfl) ⟨(f_spec_l2On_l2Ok hX), trivial⟩)).1)
    (fun x r h => (f_spec_l2OnEq x).trans h)
/-! loop.example/g00224/spec.l2Sum -/
def fl160 : List (Nat × Sig) := [(213, sg213), (214, sg214)]
def en160 : Env := { n := 7, ty := assocN tyL, fns := assocN fl160, lo := 0 }
def su160 : Bool → Nat → Option Sub | _, _ => none
theorem ok160 : EnvOk Try.prog en160 := envOk_of rfl rfl tyL_ok (⟨so213, ⟨so214, trivial⟩⟩)
theorem f_spec_l2SumEq (x : Ps ins160) : evF en160 su160 Try.f160 ins160 res160 x = f_spec_l2Sum x := by kernel_rfl
theorem so160 : Sound Try.prog 160 sg160 :=
  sound_of (fn := Try.f160) (c := bodyOf Try.f160) (subs := su160) (E := en160) (by kernel_rfl) (by kernel_rfl) (by decide) ok160 (by kernel_rfl) (by kernel_rfl) (by decide)
    (fun X hX => (GoodN.good (K := True) (Eq.mpr (show GoodN Try.prog X 7 en160 su160 (bodyOf Try.f160) True = (True) by kernel_rfl) trivial)).1)
    (fun x r h => (f_spec_l2SumEq x).trans h)
/-! loop.example/g00224/spec.l2Word -/
def fl186 : List (Nat × Sig) := []
def en186 : Env := { n := 16, ty := assocN tyL, fns := assocN fl186, lo := 0 }
def su186 : Bool → Nat → Option Sub | _, _ => none
theorem ok186 : EnvOk Try.prog en186 := envOk_of rfl rfl tyL_ok (trivial)
theorem f_spec_l2WordEq (x : Ps ins186) : evF en186 su186 Try.f186 ins186 res186 x = f_spec_l2Word x := by kernel_rfl
theorem so186 : Sound Try.prog 186 sg186 :=
  sound_of (fn := Try.f186) (c := bodyOf Try.f186) (subs := su186) (E := en186) (by kernel_rfl) (by kernel_rfl) (by decide) ok186 (by kernel_rfl) (by kernel_rfl) (by decide)
    (fun X hX => (GoodN.good (K := True) (Eq.mpr (show GoodN Try.prog X 16 en186 su186 (bodyOf Try.f186) True = (True) by kernel_rfl) trivial)).1)
    (fun x r h => (f_spec_l2WordEq x).trans h)
/-! loop.example/g00224/spec.l2Take -/
def fl188 : List (Nat × Sig) := []
def en188 : Env := { n := 42, ty := assocN tyL, fns := assocN fl188, lo := 0 }
def su188 : Bool → Nat → Option Sub | true, 3 => some ⟨f_spec_l2Take_l3c, f_spec_l2Take_l3v, f_spec_l2Take_l3e, loopF f_spec_l2Take_l3⟩ | _, _ => none
theorem ok188 : EnvOk Try.prog en188 := envOk_of rfl rfl tyL_ok (trivial)
theorem f_spec_l2Take_l3Eq (R : Type) (c : Vars f_spec_l2Take_l3c) (v : Vars f_spec_l2Take_l3v) (kk : Vars f_spec_l2Take_l3c → (Vars f_spec_l2Take_l3v ⊕ Oc f_spec_l2Take_l3e) → Option R) : evC en188 su188 (loopAt 3 Try.f188) (Desc.mk2 f_spec_l2Take_l3v v (Desc.mk2 f_spec_l2Take_l3c c .empty)) (fun o => bodyK f_spec_l2Take_l3c f_spec_l2Take_l3v f_spec_l2Take_l3e o kk) = f_spec_l2Take_l3 R c v kk := by kernel_rfl
theorem f_spec_l2Take_l3Ok {X : Cx} (hX : en188.lo = X.lo) : SubOk Try.prog X 42 ⟨f_spec_l2Take_l3c, f_spec_l2Take_l3v, f_spec_l2Take_l3e, loopF f_spec_l2Take_l3⟩ (.loop (loopAt 3 Try.f188)) :=
  sub_loop (subs := su188) ok188 rfl hX (GoodN.good (K := True) (Eq.mpr (show GoodN Try.prog X 42 en188 su188 (loopAt 3 Try.f188) True = (True) by kernel_rfl) trivial)).1 (by decide) (by decide) f_spec_l2Take_l3Eq
theorem f_spec_l2TakeEq (x : Ps ins188) : evF en188 su188 Try.f188 ins188 res188 x = f_spec_l2Take x := by kernel_rfl
theorem so188 : Sound Try.prog 188 sg188 :=
  sound_of (fn := Try.f188) (c := bodyOf Try.f188) (subs := su188) (E := en188) (by kernel_rfl) (by kernel_rfl) (by decide) ok188 (by kernel_rfl) (by kernel_rfl) (by decide)
    (fun X hX => (GoodN.good (K := True) (Eq.mpr (show GoodN Try.prog X 42 en188 su188 (bodyOf Try.f188) True = (SubOk Try.prog X 42 ⟨f_spec_l2Take_l3c, f_spec_l2Take_l3v, f_spec_l2Take_l3e, loopF f_spec_l2Take_l3⟩ (.loop (loopAt 3 Try.f188)) ∧ True) by kernel_rfl) ⟨(f_spec_l2Take_l3Ok hX), trivial⟩)).1)
    (fun x r h => (f_spec_l2TakeEq x).trans h)
/-! loop.example/g00224/spec.l2TakeFrame -/
def fl187 : List (Nat × Sig) := [(160, sg160), (186, sg186), (188, sg188)]
def en187 : Env := { n := 49, ty := assocN tyL, fns := assocN fl187, lo := 0 }
def su187 : Bool → Nat → Option Sub | _, _ => none
theorem ok187 : EnvOk Try.prog en187 := envOk_of rfl rfl tyL_ok (⟨so160, ⟨so186, ⟨so188, trivial⟩⟩⟩)
theorem dr187r6 {X : Cx} (hX : en187.lo = X.lo) : RegOk Try.prog X 49 en187 6 (regAt 6 Try.f187) := regOk_of ok187 rfl hX (by kernel_rfl) (by kernel_rfl)
theorem f_spec_l2TakeFrameEq (x : Ps ins187) : evF en187 su187 Try.f187 ins187 res187 x = f_spec_l2TakeFrame x := by kernel_rfl
theorem so187 : Sound Try.prog 187 sg187 :=
  sound_of (fn := Try.f187) (c := bodyOf Try.f187) (subs := su187) (E := en187) (by kernel_rfl) (by kernel_rfl) (by decide) ok187 (by kernel_rfl) (by kernel_rfl) (by decide)
    (fun X hX => (GoodN.good (K := True) (Eq.mpr (show GoodN Try.prog X 49 en187 su187 (bodyOf Try.f187) True = (RegOk Try.prog X 49 en187 6 (regAt 6 Try.f187) ∧ True) by kernel_rfl) ⟨(dr187r6 hX), trivial⟩)).1)
    (fun x r h => (f_spec_l2TakeFrameEq x).trans h)
/-! loop.example/g00224/spec.l7Parts -/
def fl130 : List (Nat × Sig) := [(160, sg160), (186, sg186), (187, sg187)]
def en130 : Env := { n := 99, ty := assocN tyL, fns := assocN fl130, lo := 0 }
def su130 : Bool → Nat → Option Sub | _, _ => none
theorem ok130 : EnvOk Try.prog en130 := envOk_of rfl rfl tyL_ok (⟨so160, ⟨so186, ⟨so187, trivial⟩⟩⟩)
theorem dr130r2 {X : Cx} (hX : en130.lo = X.lo) : RegOk Try.prog X 99 en130 2 (regAt 2 Try.f130) := regOk_of ok130 rfl hX (by kernel_rfl) (by kernel_rfl)
theorem dr130r4 {X : Cx} (hX : en130.lo = X.lo) : RegOk Try.prog X 99 en130 4 (regAt 4 Try.f130) := regOk_of ok130 rfl hX (by kernel_rfl) (by kernel_rfl)
theorem f_spec_l7PartsEq (x : Ps ins130) : evF en130 su130 Try.f130 ins130 res130 x = f_spec_l7Parts x := by kernel_rfl
theorem so130 : Sound Try.prog 130 sg130 :=
  sound_of (fn := Try.f130) (c := bodyOf Try.f130) (subs := su130) (E := en130) (by kernel_rfl) (by kernel_rfl) (by decide) ok130 (by kernel_rfl) (by kernel_rfl) (by decide)
    (fun X hX => (GoodN.good (K := True) (Eq.mpr (show GoodN Try.prog X 99 en130 su130 (bodyOf Try.f130) True = (RegOk Try.prog X 99 en130 2 (regAt 2 Try.f130) ∧ RegOk Try.prog X 99 en130 4 (regAt 4 Try.f130) ∧ True) by kernel_rfl) ⟨(dr130r2 hX), (dr130r4 hX), trivial⟩)).1)
    (fun x r h => (f_spec_l7PartsEq x).trans h)
/-! loop.example/g00224/spec.l7Index -/
def fl131 : List (Nat × Sig) := [(188, sg188)]
def hi131 : List (Nat × (K × Mk)) := [(2, ((.sl kdPlace), (.o .s))), (4, ((.sl kdPlace), (.o .s)))]
def en131 : Env := { n := 93, ty := assocN tyL, fns := assocN fl131, lo := 0, hint := assocN hi131 }
def su131 : Bool → Nat → Option Sub | true, 2 => some ⟨f_spec_l7Index_l2c, f_spec_l7Index_l2v, f_spec_l7Index_l2e, loopF f_spec_l7Index_l2⟩ | _, _ => none
theorem ok131 : EnvOk Try.prog en131 := envOk_of rfl rfl tyL_ok (⟨so188, trivial⟩)
theorem f_spec_l7Index_l2Eq (R : Type) (c : Vars f_spec_l7Index_l2c) (v : Vars f_spec_l7Index_l2v) (kk : Vars f_spec_l7Index_l2c → (Vars f_spec_l7Index_l2v ⊕ Oc f_spec_l7Index_l2e) → Option R) : evC en131 su131 (loopAt 2 Try.f131) (Desc.mk2 f_spec_l7Index_l2v v (Desc.mk2 f_spec_l7Index_l2c c .empty)) (fun o => bodyK f_spec_l7Index_l2c f_spec_l7Index_l2v f_spec_l7Index_l2e o kk) = f_spec_l7Index_l2 R c v kk := by kernel_rfl
theorem f_spec_l7Index_l2Ok {X : Cx} (hX : en131.lo = X.lo) : SubOk Try.prog X 93 ⟨f_spec_l7Index_l2c, f_spec_l7Index_l2v, f_spec_l7Index_l2e, loopF f_spec_l7Index_l2⟩ (.loop (loopAt 2 Try.f131)) :=
  sub_loop (subs := su131) ok131 rfl hX (GoodN.good (K := True) (Eq.mpr (show GoodN Try.prog X 93 en131 su131 (loopAt 2 Try.f131) True = (True) by kernel_rfl) trivial)).1 (by decide) (by decide) f_spec_l7Index_l2Eq
theorem f_spec_l7IndexEq (x : Ps ins131) : evF en131 su131 Try.f131 ins131 res131 x = f_spec_l7Index x := by kernel_rfl
theorem so131 : Sound Try.prog 131 sg131 :=
  sound_of (fn := Try.f131) (c := bodyOf Try.f131) (subs := su131) (E := en131) (by kernel_rfl) (by kernel_rfl) (by decide) ok131 (by kernel_rfl) (by kernel_rfl) (by decide)
    (fun X hX => (GoodN.good (K := True) (Eq.mpr (show GoodN Try.prog X 93 en131 su131 (bodyOf Try.f131) True = (SubOk Try.prog X 93 ⟨f_spec_l7Index_l2c, f_spec_l7Index_l2v, f_spec_l7Index_l2e, loopF f_spec_l7Index_l2⟩ (.loop (loopAt 2 Try.f131)) ∧ True) by kernel_rfl) ⟨(f_spec_l7Index_l2Ok hX), trivial⟩)).1)
    (fun x r h => (f_spec_l7IndexEq x).trans h)
/-! loop.example/g00224/spec.l6Tail -/
def fl219 : List (Nat × Sig) := [(160, sg160), (186, sg186)]
def hi219 : List (Nat × (K × Mk)) := [(3, ((.sl (.int .i64)), (.o .s))), (8, ((.sl (.int .i64)), (.o .s)))]
def dw219 : List (Nat × List (List Nat)) := [(12, [[8, 51], [52], [53], [54], [55], [56], [57], [58], [59], [60], [61], [62], [63], [8, 63, 64], [8, 64]])]
def en219 : Env := { n := 69, ty := assocN tyL, fns := assocN fl219, lo := 0, hint := assocN hi219, draw := drawOf dw219 }
def su219 : Bool → Nat → Option Sub | true, 10 => some ⟨f_spec_l6Tail_l10c, f_spec_l6Tail_l10v, f_spec_l6Tail_l10e, loopF f_spec_l6Tail_l10⟩ | _, _ => none
theorem ok219 : EnvOk Try.prog en219 := envOk_of rfl rfl tyL_ok (⟨so160, ⟨so186, trivial⟩⟩)
theorem dr219r2 {X : Cx} (hX : en219.lo = X.lo) : RegOk Try.prog X 69 en219 2 (regAt 2 Try.f219) := regOk_of ok219 rfl hX (by kernel_rfl) (by kernel_rfl)
theorem dr219r4 {X : Cx} (hX : en219.lo = X.lo) : RegOk Try.prog X 69 en219 4 (regAt 4 Try.f219) := regOk_of ok219 rfl hX (by kernel_rfl) (by kernel_rfl)
theorem dr219r12 {X : Cx} (hX : en219.lo = X.lo) : RegOk Try.prog X 69 en219 12 (regAt 12 Try.f219) := regOk_of ok219 rfl hX (by kernel_rfl) (by kernel_rfl)
theorem f_spec_l6Tail_l10Eq (R : Type) (c : Vars f_spec_l6Tail_l10c) (v : Vars f_spec_l6Tail_l10v) (kk : Vars f_spec_l6Tail_l10c → (Vars f_spec_l6Tail_l10v ⊕ Oc f_spec_l6Tail_l10e) → Option R) : evC en219 su219 (loopAt 10 Try.f219) (Desc.mk2 f_spec_l6Tail_l10v v (Desc.mk2 f_spec_l6Tail_l10c c .empty)) (fun o => bodyK f_spec_l6Tail_l10c f_spec_l6Tail_l10v f_spec_l6Tail_l10e o kk) = f_spec_l6Tail_l10 R c v kk := by kernel_rfl
theorem f_spec_l6Tail_l10Ok {X : Cx} (hX : en219.lo = X.lo) : SubOk Try.prog X 69 ⟨f_spec_l6Tail_l10c, f_spec_l6Tail_l10v, f_spec_l6Tail_l10e, loopF f_spec_l6Tail_l10⟩ (.loop (loopAt 10 Try.f219)) :=
  sub_loop (subs := su219) ok219 rfl hX (GoodN.good (K := True) (Eq.mpr (show GoodN Try.prog X 69 en219 su219 (loopAt 10 Try.f219) True = (RegOk Try.prog X 69 en219 12 (regAt 12 Try.f219) ∧ True) by kernel_rfl) ⟨(dr219r12 hX), trivial⟩)).1 (by decide) (by decide) f_spec_l6Tail_l10Eq
theorem f_spec_l6TailEq (x : Ps ins219) : evF en219 su219 Try.f219 ins219 res219 x = f_spec_l6Tail x := by kernel_rfl
theorem so219 : Sound Try.prog 219 sg219 :=
  sound_of (fn := Try.f219) (c := bodyOf Try.f219) (subs := su219) (E := en219) (by kernel_rfl) (by kernel_rfl) (by decide) ok219 (by kernel_rfl) (by kernel_rfl) (by decide)
    (fun X hX => (GoodN.good (K := True) (Eq.mpr (show GoodN Try.prog X 69 en219 su219 (bodyOf Try.f219) True = (RegOk Try.prog X 69 en219 2 (regAt 2 Try.f219) ∧ RegOk Try.prog X 69 en219 4 (regAt 4 Try.f219) ∧ SubOk Try.prog X 69 ⟨f_spec_l6Tail_l10c, f_spec_l6Tail_l10v, f_spec_l6Tail_l10e, loopF f_spec_l6Tail_l10⟩ (.loop (loopAt 10 Try.f219)) ∧ True) by kernel_rfl) ⟨(dr219r2 hX), (dr219r4 hX), (f_spec_l6Tail_l10Ok hX), trivial⟩)).1)
    (fun x r h => (f_spec_l6TailEq x).trans h)
/-! loop.example/g00224/spec.l6Item -/
def fl220 : List (Nat × Sig) := [(188, sg188)]
def dw220 : List (Nat × List (List Nat)) := [(8, [[93], [94], [95], [96], [97], [98], [99], [100], [101], [102], [103], [104], [105], [106], [107], [108], [109], [110], [111], [112], [113], [114], [115], [116], [117], [118], [119], [120], [121], [122], [4], [5]])]
def en220 : Env := { n := 123, ty := assocN tyL, fns := assocN fl220, lo := 0, draw := drawOf dw220 }
def su220 : Bool → Nat → Option Sub | _, _ => none
theorem ok220 : EnvOk Try.prog en220 := envOk_of rfl rfl tyL_ok (⟨so188, trivial⟩)
theorem dr220r8 {X : Cx} (hX : en220.lo = X.lo) : RegOk Try.prog X 123 en220 8 (regAt 8 Try.f220) := regOk_of ok220 rfl hX (by kernel_rfl) (by kernel_rfl)
theorem f_spec_l6ItemEq (x : Ps ins220) : evF en220 su220 Try.f220 ins220 res220 x = f_spec_l6Item x := by kernel_rfl
theorem so220 : Sound Try.prog 220 sg220 :=
  sound_of (fn := Try.f220) (c := bodyOf Try.f220) (subs := su220) (E := en220) (by kernel_rfl) (by kernel_rfl) (by decide) ok220 (by kernel_rfl) (by kernel_rfl) (by decide)
    (fun X hX => (GoodN.good (K := True) (Eq.mpr (show GoodN Try.prog X 123 en220 su220 (bodyOf Try.f220) True = (RegOk Try.prog X 123 en220 8 (regAt 8 Try.f220) ∧ True) by kernel_rfl) ⟨(dr220r8 hX), trivial⟩)).1)
    (fun x r h => (f_spec_l6ItemEq x).trans h)
/-! loop.example/g00224/spec.l1In -/
def fl109 : List (Nat × Sig) := []
def en109 : Env := { n := 15, ty := assocN tyL, fns := assocN fl109, lo := 0 }
def su109 : Bool → Nat → Option Sub | _, _ => none
theorem ok109 : EnvOk Try.prog en109 := envOk_of rfl rfl tyL_ok (trivial)
theorem f_spec_l1InEq (x : Ps ins109) : evF en109 su109 Try.f109 ins109 res109 x = f_spec_l1In x := by kernel_rfl
theorem so109 : Sound Try.prog 109 sg109 :=
  sound_of (fn := Try.f109) (c := bodyOf Try.f109) (subs := su109) (E := en109) (by kernel_rfl) (by kernel_rfl) (by decide) ok109 (by kernel_rfl) (by kernel_rfl) (by decide)
    (fun X hX => (GoodN.good (K := True) (Eq.mpr (show GoodN Try.prog X 15 en109 su109 (bodyOf Try.f109) True = (True) by kernel_rfl) trivial)).1)
    (fun x r h => (f_spec_l1InEq x).trans h)
/-! loop.example/g00224/spec.l4Key -/
def fl133 : List (Nat × Sig) := [(109, sg109)]
def en133 : Env := { n := 6, ty := assocN tyL, fns := assocN fl133, lo := 0 }
def su133 : Bool → Nat → Option Sub | _, _ => none
theorem ok133 : EnvOk Try.prog en133 := envOk_of rfl rfl tyL_ok (⟨so109, trivial⟩)
theorem f_spec_l4KeyEq (x : Ps ins133) : evF en133 su133 Try.f133 ins133 res133 x = f_spec_l4Key x := by kernel_rfl
theorem so133 : Sound Try.prog 133 sg133 :=
  sound_of (fn := Try.f133) (c := bodyOf Try.f133) (subs := su133) (E := en133) (by kernel_rfl) (by kernel_rfl) (by decide) ok133 (by kernel_rfl) (by kernel_rfl) (by decide)
    (fun X hX => (GoodN.good (K := True) (Eq.mpr (show GoodN Try.prog X 6 en133 su133 (bodyOf Try.f133) True = (True) by kernel_rfl) trivial)).1)
    (fun x r h => (f_spec_l4KeyEq x).trans h)
/-! loop.example/g00224/spec.l4Seq -/
def fl134 : List (Nat × Sig) := [(109, sg109)]
def en134 : Env := { n := 5, ty := assocN tyL, fns := assocN fl134, lo := 0 }
def su134 : Bool → Nat → Option Sub | _, _ => none
theorem ok134 : EnvOk Try.prog en134 := envOk_of rfl rfl tyL_ok (⟨so109, trivial⟩)
theorem f_spec_l4SeqEq (x : Ps ins134) : evF en134 su134 Try.f134 ins134 res134 x = f_spec_l4Seq x := by kernel_rfl
theorem so134 : Sound Try.prog 134 sg134 :=
  sound_of (fn := Try.f134) (c := bodyOf Try.f134) (subs := su134) (E := en134) (by kernel_rfl) (by kernel_rfl) (by decide) ok134 (by kernel_rfl) (by kernel_rfl) (by decide)
    (fun X hX => (GoodN.good (K := True) (Eq.mpr (show GoodN Try.prog X 5 en134 su134 (bodyOf Try.f134) True = (True) by kernel_rfl) trivial)).1)
    (fun x r h => (f_spec_l4SeqEq x).trans h)
/-! loop.example/g00224/spec.GoodItem -/
def fl240 : List (Nat × Sig) := [(109, sg109), (133, sg133), (134, sg134)]
def en240 : Env := { n := 32, ty := assocN tyL, fns := assocN fl240, lo := 0 }
def su240 : Bool → Nat → Option Sub | _, _ => none
theorem ok240 : EnvOk Try.prog en240 := envOk_of rfl rfl tyL_ok (⟨so109, ⟨so133, ⟨so134, trivial⟩⟩⟩)
theorem f_spec_GoodItemEq (x : Ps ins240) : evF en240 su240 Try.f240 ins240 res240 x = f_spec_GoodItem x := by kernel_rfl
theorem so240 : Sound Try.prog 240 sg240 :=
  sound_of (fn := Try.f240) (c := bodyOf Try.f240) (subs := su240) (E := en240) (by kernel_rfl) (by kernel_rfl) (by decide) ok240 (by kernel_rfl) (by kernel_rfl) (by decide)
    (fun X hX => (GoodN.good (K := True) (Eq.mpr (show GoodN Try.prog X 32 en240 su240 (bodyOf Try.f240) True = (True) by kernel_rfl) trivial)).1)
    (fun x r h => (f_spec_GoodItemEq x).trans h)
/-! loop.example/g00224/spec.l4Compare -/
def fl189 : List (Nat × Sig) := []
def en189 : Env := { n := 38, ty := assocN tyL, fns := assocN fl189, lo := 0 }
def su189 : Bool → Nat → Option Sub | _, _ => none
theorem ok189 : EnvOk Try.prog en189 := envOk_of rfl rfl tyL_ok (trivial)
theorem f_spec_l4CompareEq (x : Ps ins189) : evF en189 su189 Try.f189 ins189 res189 x = f_spec_l4Compare x := by kernel_rfl
theorem so189 : Sound Try.prog 189 sg189 :=
  sound_of (fn := Try.f189) (c := bodyOf Try.f189) (subs := su189) (E := en189) (by kernel_rfl) (by kernel_rfl) (by decide) ok189 (by kernel_rfl) (by kernel_rfl) (by decide)
    (fun X hX => (GoodN.good (K := True) (Eq.mpr (show GoodN Try.prog X 38 en189 su189 (bodyOf Try.f189) True = (True) by kernel_rfl) trivial)).1)
    (fun x r h => (f_spec_l4CompareEq x).trans h)
/-! loop.example/g00224/spec.GoodRun -/
def fl221 : List (Nat × Sig) := [(189, sg189), (240, sg240)]
def en221 : Env := { n := 30, ty := assocN tyL, fns := assocN fl221, lo := 0 }
def su221 : Bool → Nat → Option Sub | true, 2 => some ⟨f_spec_GoodRun_l2c, f_spec_GoodRun_l2v, f_spec_GoodRun_l2e, loopF f_spec_GoodRun_l2⟩ | _, _ => none
theorem ok221 : EnvOk Try.prog en221 := envOk_of rfl rfl tyL_ok (⟨so189, ⟨so240, trivial⟩⟩)
theorem dr221r4 {X : Cx} (hX : en221.lo = X.lo) : RegOk Try.prog X 30 en221 4 (regAt 4 Try.f221) := regOk_of ok221 rfl hX (by kernel_rfl) (by kernel_rfl)
theorem f_spec_GoodRun_l2Eq (R : Type) (c : Vars f_spec_GoodRun_l2c) (v : Vars f_spec_GoodRun_l2v) (kk : Vars f_spec_GoodRun_l2c → (Vars f_spec_GoodRun_l2v ⊕ Oc f_spec_GoodRun_l2e) → Option R) : evC en221 su221 (loopAt 2 Try.f221) (Desc.mk2 f_spec_GoodRun_l2v v (Desc.mk2 f_spec_GoodRun_l2c c .empty)) (fun o => bodyK f_spec_GoodRun_l2c f_spec_GoodRun_l2v f_spec_GoodRun_l2e o kk) = f_spec_GoodRun_l2 R c v kk := by kernel_rfl
theorem f_spec_GoodRun_l2Ok {X : Cx} (hX : en221.lo = X.lo) : SubOk Try.prog X 30 ⟨f_spec_GoodRun_l2c, f_spec_GoodRun_l2v, f_spec_GoodRun_l2e, loopF f_spec_GoodRun_l2⟩ (.loop (loopAt 2 Try.f221)) :=
  sub_loop (subs := su221) ok221 rfl hX (GoodN.good (K := True) (Eq.mpr (show GoodN Try.prog X 30 en221 su221 (loopAt 2 Try.f221) True = (RegOk Try.prog X 30 en221 4 (regAt 4 Try.f221) ∧ True) by kernel_rfl) ⟨(dr221r4 hX), trivial⟩)).1 (by decide) (by decide) f_spec_GoodRun_l2Eq
theorem f_spec_GoodRunEq (x : Ps ins221) : evF en221 su221 Try.f221 ins221 res221 x = f_spec_GoodRun x := by kernel_rfl
theorem so221 : Sound Try.prog 221 sg221 :=
  sound_of (fn := Try.f221) (c := bodyOf Try.f221) (subs := su221) (E := en221) (by kernel_rfl) (by kernel_rfl) (by decide) ok221 (by kernel_rfl) (by kernel_rfl) (by decide)
    (fun X hX => (GoodN.good (K := True) (Eq.mpr (show GoodN Try.prog X 30 en221 su221 (bodyOf Try.f221) True = (SubOk Try.prog X 30 ⟨f_spec_GoodRun_l2c, f_spec_GoodRun_l2v, f_spec_GoodRun_l2e, loopF f_spec_GoodRun_l2⟩ (.loop (loopAt 2 Try.f221)) ∧ True) by kernel_rfl) ⟨(f_spec_GoodRun_l2Ok hX), trivial⟩)).1)
    (fun x r h => (f_spec_GoodRunEq x).trans h)
/-! loop.example/g00224/spec.l6Two -/
def fl241 : List (Nat × Sig) := []
def en241 : Env := { n := 10, ty := assocN tyL, fns := assocN fl241, lo := 0 }
def su241 : Bool → Nat → Option Sub | _, _ => none
theorem ok241 : EnvOk Try.prog en241 := envOk_of rfl rfl tyL_ok (trivial)
theorem f_spec_l6TwoEq (x : Ps ins241) : evF en241 su241 Try.f241 ins241 res241 x = f_spec_l6Two x := by kernel_rfl
theorem so241 : Sound Try.prog 241 sg241 :=
  sound_of (fn := Try.f241) (c := bodyOf Try.f241) (subs := su241) (E := en241) (by kernel_rfl) (by kernel_rfl) (by decide) ok241 (by kernel_rfl) (by kernel_rfl) (by decide)
    (fun X hX => (GoodN.good (K := True) (Eq.mpr (show GoodN Try.prog X 10 en241 su241 (bodyOf Try.f241) True = (True) by kernel_rfl) trivial)).1)
    (fun x r h => (f_spec_l6TwoEq x).trans h)
/-! loop.example/g00224/spec.CommonOf -/
def fl242 : List (Nat × Sig) := []
def en242 : Env := { n := 28, ty := assocN tyL, fns := assocN fl242, lo := 0 }
def su242 : Bool → Nat → Option Sub | true, 2 => some ⟨f_spec_CommonOf_l2c, f_spec_CommonOf_l2v, f_spec_CommonOf_l2e, loopF f_spec_CommonOf_l2⟩ | _, _ => none
theorem ok242 : EnvOk Try.prog en242 := envOk_of rfl rfl tyL_ok (trivial)
theorem dr242r2 {X : Cx} (hX : en242.lo = X.lo) : RegOk Try.prog X 28 en242 2 (regAt 2 Try.f242) := regOk_of ok242 rfl hX (by kernel_rfl) (by kernel_rfl)
theorem f_spec_CommonOf_l2Eq (R : Type) (c : Vars f_spec_CommonOf_l2c) (v : Vars f_spec_CommonOf_l2v) (kk : Vars f_spec_CommonOf_l2c → (Vars f_spec_CommonOf_l2v ⊕ Oc f_spec_CommonOf_l2e) → Option R) : evC en242 su242 (loopAt 2 Try.f242) (Desc.mk2 f_spec_CommonOf_l2v v (Desc.mk2 f_spec_CommonOf_l2c c .empty)) (fun o => bodyK f_spec_CommonOf_l2c f_spec_CommonOf_l2v f_spec_CommonOf_l2e o kk) = f_spec_CommonOf_l2 R c v kk := by kernel_rfl
theorem f_spec_CommonOf_l2Ok {X : Cx} (hX : en242.lo = X.lo) : SubOk Try.prog X 28 ⟨f_spec_CommonOf_l2c, f_spec_CommonOf_l2v, f_spec_CommonOf_l2e, loopF f_spec_CommonOf_l2⟩ (.loop (loopAt 2 Try.f242)) :=
  sub_loop (subs := su242) ok242 rfl hX (GoodN.good (K := True) (Eq.mpr (show GoodN Try.prog X 28 en242 su242 (loopAt 2 Try.f242) True = (RegOk Try.prog X 28 en242 2 (regAt 2 Try.f242) ∧ True) by kernel_rfl) ⟨(dr242r2 hX), trivial⟩)).1 (by decide) (by decide) f_spec_CommonOf_l2Eq
theorem f_spec_CommonOfEq (x : Ps ins242) : evF en242 su242 Try.f242 ins242 res242 x = f_spec_CommonOf x := by kernel_rfl
theorem so242 : Sound Try.prog 242 sg242 :=
  sound_of (fn := Try.f242) (c := bodyOf Try.f242) (subs := su242) (E := en242) (by kernel_rfl) (by kernel_rfl) (by decide) ok242 (by kernel_rfl) (by kernel_rfl) (by decide)
    (fun X hX => (GoodN.good (K := True) (Eq.mpr (show GoodN Try.prog X 28 en242 su242 (bodyOf Try.f242) True = (SubOk Try.prog X 28 ⟨f_spec_CommonOf_l2c, f_spec_CommonOf_l2v, f_spec_CommonOf_l2e, loopF f_spec_CommonOf_l2⟩ (.loop (loopAt 2 Try.f242)) ∧ True) by kernel_rfl) ⟨(f_spec_CommonOf_l2Ok hX), trivial⟩)).1)
    (fun x r h => (f_spec_CommonOfEq x).trans h)
/-! loop.example/g00224/spec.l2Var -/
def fl148 : List (Nat × Sig) := []
def hi148 : List (Nat × (K × Mk)) := [(3, ((.sl (.int .u8)), (.o .s)))]
def en148 : Env := { n := 21, ty := assocN tyL, fns := assocN fl148, lo := 0, hint := assocN hi148 }
def su148 : Bool → Nat → Option Sub | true, 2 => some ⟨f_spec_l2Var_l2c, f_spec_l2Var_l2v, f_spec_l2Var_l2e, loopF f_spec_l2Var_l2⟩ | _, _ => none
theorem ok148 : EnvOk Try.prog en148 := envOk_of rfl rfl tyL_ok (trivial)
theorem f_spec_l2Var_l2Eq (R : Type) (c : Vars f_spec_l2Var_l2c) (v : Vars f_spec_l2Var_l2v) (kk : Vars f_spec_l2Var_l2c → (Vars f_spec_l2Var_l2v ⊕ Oc f_spec_l2Var_l2e) → Option R) : evC en148 su148 (loopAt 2 Try.f148) (Desc.mk2 f_spec_l2Var_l2v v (Desc.mk2 f_spec_l2Var_l2c c .empty)) (fun o => bodyK f_spec_l2Var_l2c f_spec_l2Var_l2v f_spec_l2Var_l2e o kk) = f_spec_l2Var_l2 R c v kk := by kernel_rfl
theorem f_spec_l2Var_l2Ok {X : Cx} (hX : en148.lo = X.lo) : SubOk Try.prog X 21 ⟨f_spec_l2Var_l2c, f_spec_l2Var_l2v, f_spec_l2Var_l2e, loopF f_spec_l2Var_l2⟩ (.loop (loopAt 2 Try.f148)) :=
  sub_loop (subs := su148) ok148 rfl hX (GoodN.good (K := True) (Eq.mpr (show GoodN Try.prog X 21 en148 su148 (loopAt 2 Try.f148) True = (True) by kernel_rfl) trivial)).1 (by decide) (by decide) f_spec_l2Var_l2Eq
theorem f_spec_l2VarEq (x : Ps ins148) : evF en148 su148 Try.f148 ins148 res148 x = f_spec_l2Var x := by kernel_rfl
theorem so148 : Sound Try.prog 148 sg148 :=
  sound_of (fn := Try.f148) (c := bodyOf Try.f148) (subs := su148) (E := en148) (by kernel_rfl) (by kernel_rfl) (by decide) ok148 (by kernel_rfl) (by kernel_rfl) (by decide)
    (fun X hX => (GoodN.good (K := True) (Eq.mpr (show GoodN Try.prog X 21 en148 su148 (bodyOf Try.f148) True = (SubOk Try.prog X 21 ⟨f_spec_l2Var_l2c, f_spec_l2Var_l2v, f_spec_l2Var_l2e, loopF f_spec_l2Var_l2⟩ (.loop (loopAt 2 Try.f148)) ∧ True) by kernel_rfl) ⟨(f_spec_l2Var_l2Ok hX), trivial⟩)).1)
    (fun x r h => (f_spec_l2VarEq x).trans h)
/-! loop.example/g00224/spec.l6Block -/
def fl222 : List (Nat × Sig) := [(148, sg148), (160, sg160), (186, sg186), (241, sg241), (242, sg242)]
def en222 : Env := { n := 78, ty := assocN tyL, fns := assocN fl222, lo := 0 }
def su222 : Bool → Nat → Option Sub | false, 8 => some ⟨f_spec_l6Block_i8c, f_spec_l6Block_i8v, f_spec_l6Block_i8e, f_spec_l6Block_i8⟩ | true, 4 => some ⟨f_spec_l6Block_l4c, f_spec_l6Block_l4v, f_spec_l6Block_l4e, loopF f_spec_l6Block_l4⟩ | _, _ => none
theorem ok222 : EnvOk Try.prog en222 := envOk_of rfl rfl tyL_ok (⟨so148, ⟨so160, ⟨so186, ⟨so241, ⟨so242, trivial⟩⟩⟩⟩⟩)
theorem dr222r9 {X : Cx} (hX : en222.lo = X.lo) : RegOk Try.prog X 78 en222 9 (regAt 9 Try.f222) := regOk_of ok222 rfl hX (by kernel_rfl) (by kernel_rfl)
theorem dr222r10 {X : Cx} (hX : en222.lo = X.lo) : RegOk Try.prog X 78 en222 10 (regAt 10 Try.f222) := regOk_of ok222 rfl hX (by kernel_rfl) (by kernel_rfl)
def su222i8 : Bool → Nat → Option Sub | true, 4 => some ⟨f_spec_l6Block_l4c, f_spec_l6Block_l4v, f_spec_l6Block_l4e, loopF f_spec_l6Block_l4⟩ | _, _ => none
theorem f_spec_l6Block_i8Eq (R : Type) (c : Vars f_spec_l6Block_i8c) (v : Vars f_spec_l6Block_i8v) (kk : Vars f_spec_l6Block_i8c → Oc f_spec_l6Block_i8e → Option R) : evC en222 su222i8 (ifAt 8 Try.f222) (Desc.mk2 f_spec_l6Block_i8v v (Desc.mk2 f_spec_l6Block_i8c c .empty)) (fun o => chk f_spec_l6Block_i8c f_spec_l6Block_i8e o kk) = f_spec_l6Block_i8 R c v kk := by kernel_rfl
theorem f_spec_l6Block_i8Ok {X : Cx} (hX : en222.lo = X.lo) : SubOk Try.prog X 78 ⟨f_spec_l6Block_i8c, f_spec_l6Block_i8v, f_spec_l6Block_i8e, f_spec_l6Block_i8⟩ (ifAt 8 Try.f222) :=
  sub_if (u := ⟨f_spec_l6Block_i8c, f_spec_l6Block_i8v, f_spec_l6Block_i8e, f_spec_l6Block_i8⟩) (subs := su222i8) ok222 rfl hX (GoodN.good (K := True) (Eq.mpr (show GoodN Try.prog X 78 en222 su222i8 (ifAt 8 Try.f222) True = (RegOk Try.prog X 78 en222 9 (regAt 9 Try.f222) ∧ True) by kernel_rfl) ⟨(dr222r9 hX), trivial⟩)).1 (by decide) (by decide) f_spec_l6Block_i8Eq
theorem f_spec_l6Block_l4Eq (R : Type) (c : Vars f_spec_l6Block_l4c) (v : Vars f_spec_l6Block_l4v) (kk : Vars f_spec_l6Block_l4c → (Vars f_spec_l6Block_l4v ⊕ Oc f_spec_l6Block_l4e) → Option R) : evC en222 su222 (loopAt 4 Try.f222) (Desc.mk2 f_spec_l6Block_l4v v (Desc.mk2 f_spec_l6Block_l4c c .empty)) (fun o => bodyK f_spec_l6Block_l4c f_spec_l6Block_l4v f_spec_l6Block_l4e o kk) = f_spec_l6Block_l4 R c v kk := by kernel_rfl
theorem f_spec_l6Block_l4Ok {X : Cx} (hX : en222.lo = X.lo) : SubOk Try.prog X 78 ⟨f_spec_l6Block_l4c, f_spec_l6Block_l4v, f_spec_l6Block_l4e, loopF f_spec_l6Block_l4⟩ (.loop (loopAt 4 Try.f222)) :=
  sub_loop (subs := su222) ok222 rfl hX (GoodN.good (K := True) (Eq.mpr (show GoodN Try.prog X 78 en222 su222 (loopAt 4 Try.f222) True = (SubOk Try.prog X 78 ⟨f_spec_l6Block_i8c, f_spec_l6Block_i8v, f_spec_l6Block_i8e, f_spec_l6Block_i8⟩ (ifAt 8 Try.f222) ∧ RegOk Try.prog X 78 en222 10 (regAt 10 Try.f222) ∧ True) by kernel_rfl) ⟨(f_spec_l6Block_i8Ok hX), (dr222r10 hX), trivial⟩)).1 (by decide) (by decide) f_spec_l6Block_l4Eq
theorem f_spec_l6BlockEq (x : Ps ins222) : evF en222 su222 Try.f222 ins222 res222 x = f_spec_l6Block x := by kernel_rfl
theorem so222 : Sound Try.prog 222 sg222 :=
  sound_of (fn := Try.f222) (c := bodyOf Try.f222) (subs := su222) (E := en222) (by kernel_rfl) (by kernel_rfl) (by decide) ok222 (by kernel_rfl) (by kernel_rfl) (by decide)
    (fun X hX => (GoodN.good (K := True) (Eq.mpr (show GoodN Try.prog X 78 en222 su222 (bodyOf Try.f222) True = (SubOk Try.prog X 78 ⟨f_spec_l6Block_l4c, f_spec_l6Block_l4v, f_spec_l6Block_l4e, loopF f_spec_l6Block_l4⟩ (.loop (loopAt 4 Try.f222)) ∧ True) by kernel_rfl) ⟨(f_spec_l6Block_l4Ok hX), trivial⟩)).1)
    (fun x r h => (f_spec_l6BlockEq x).trans h)
/-! loop.example/g00224/spec.l6Read -/
def fl176 : List (Nat × Sig) := [(219, sg219), (220, sg220), (221, sg221), (222, sg222)]
def hi176 : List (Nat × (K × Mk)) := [(2, ((.sl kdItem), (.o .s))), (5, ((.sl (.int .i64)), (.o .s))), (7, ((.sl kdItem), (.o .s)))]
def en176 : Env := { n := 59, ty := assocN tyL, fns := assocN fl176, lo := 0, hint := assocN hi176 }
def su176 : Bool → Nat → Option Sub | true, 6 => some ⟨f_spec_l6Read_l6c, f_spec_l6Read_l6v, f_spec_l6Read_l6e, loopF f_spec_l6Read_l6⟩ | _, _ => none
theorem ok176 : EnvOk Try.prog en176 := envOk_of rfl rfl tyL_ok (⟨so219, ⟨so220, ⟨so221, ⟨so222, trivial⟩⟩⟩⟩)
theorem f_spec_l6Read_l6Eq (R : Type) (c : Vars f_spec_l6Read_l6c) (v : Vars f_spec_l6Read_l6v) (kk : Vars f_spec_l6Read_l6c → (Vars f_spec_l6Read_l6v ⊕ Oc f_spec_l6Read_l6e) → Option R) : evC en176 su176 (loopAt 6 Try.f176) (Desc.mk2 f_spec_l6Read_l6v v (Desc.mk2 f_spec_l6Read_l6c c .empty)) (fun o => bodyK f_spec_l6Read_l6c f_spec_l6Read_l6v f_spec_l6Read_l6e o kk) = f_spec_l6Read_l6 R c v kk := by kernel_rfl
theorem f_spec_l6Read_l6Ok {X : Cx} (hX : en176.lo = X.lo) : SubOk Try.prog X 59 ⟨f_spec_l6Read_l6c, f_spec_l6Read_l6v, f_spec_l6Read_l6e, loopF f_spec_l6Read_l6⟩ (.loop (loopAt 6 Try.f176)) :=
  sub_loop (subs := su176) ok176 rfl hX (GoodN.good (K := True) (Eq.mpr (show GoodN Try.prog X 59 en176 su176 (loopAt 6 Try.f176) True = (True) by kernel_rfl) trivial)).1 (by decide) (by decide) f_spec_l6Read_l6Eq
theorem f_spec_l6ReadEq (x : Ps ins176) : evF en176 su176 Try.f176 ins176 res176 x = f_spec_l6Read x := by kernel_rfl
theorem so176 : Sound Try.prog 176 sg176 :=
  sound_of (fn := Try.f176) (c := bodyOf Try.f176) (subs := su176) (E := en176) (by kernel_rfl) (by kernel_rfl) (by decide) ok176 (by kernel_rfl) (by kernel_rfl) (by decide)
    (fun X hX => (GoodN.good (K := True) (Eq.mpr (show GoodN Try.prog X 59 en176 su176 (bodyOf Try.f176) True = (SubOk Try.prog X 59 ⟨f_spec_l6Read_l6c, f_spec_l6Read_l6v, f_spec_l6Read_l6e, loopF f_spec_l6Read_l6⟩ (.loop (loopAt 6 Try.f176)) ∧ True) by kernel_rfl) ⟨(f_spec_l6Read_l6Ok hX), trivial⟩)).1)
    (fun x r h => (f_spec_l6ReadEq x).trans h)
/-! loop.example/g00224/spec.l7Good -/
def fl177 : List (Nat × Sig) := [(109, sg109), (221, sg221)]
def en177 : Env := { n := 10, ty := assocN tyL, fns := assocN fl177, lo := 0 }
def su177 : Bool → Nat → Option Sub | _, _ => none
theorem ok177 : EnvOk Try.prog en177 := envOk_of rfl rfl tyL_ok (⟨so109, ⟨so221, trivial⟩⟩)
theorem f_spec_l7GoodEq (x : Ps ins177) : evF en177 su177 Try.f177 ins177 res177 x = f_spec_l7Good x := by kernel_rfl
theorem so177 : Sound Try.prog 177 sg177 :=
  sound_of (fn := Try.f177) (c := bodyOf Try.f177) (subs := su177) (E := en177) (by kernel_rfl) (by kernel_rfl) (by decide) ok177 (by kernel_rfl) (by kernel_rfl) (by decide)
    (fun X hX => (GoodN.good (K := True) (Eq.mpr (show GoodN Try.prog X 10 en177 su177 (bodyOf Try.f177) True = (True) by kernel_rfl) trivial)).1)
    (fun x r h => (f_spec_l7GoodEq x).trans h)
/-! loop.example/g00224/spec.l7Keys -/
def fl129 : List (Nat × Sig) := []
def hi129 : List (Nat × (K × Mk)) := [(2, ((.sl .str), (.o .s))), (3, ((.sl .str), (.o .s)))]
def en129 : Env := { n := 33, ty := assocN tyL, fns := assocN fl129, lo := 0, hint := assocN hi129 }
def su129 : Bool → Nat → Option Sub | false, 6 => some ⟨f_spec_l7Keys_i6c, f_spec_l7Keys_i6v, f_spec_l7Keys_i6e, f_spec_l7Keys_i6⟩ | true, 3 => some ⟨f_spec_l7Keys_l3c, f_spec_l7Keys_l3v, f_spec_l7Keys_l3e, loopF f_spec_l7Keys_l3⟩ | _, _ => none
theorem ok129 : EnvOk Try.prog en129 := envOk_of rfl rfl tyL_ok (trivial)
theorem dr129r5 {X : Cx} (hX : en129.lo = X.lo) : RegOk Try.prog X 33 en129 5 (regAt 5 Try.f129) := regOk_of ok129 rfl hX (by kernel_rfl) (by kernel_rfl)
def su129i6 : Bool → Nat → Option Sub | true, 3 => some ⟨f_spec_l7Keys_l3c, f_spec_l7Keys_l3v, f_spec_l7Keys_l3e, loopF f_spec_l7Keys_l3⟩ | _, _ => none
theorem f_spec_l7Keys_i6Eq (R : Type) (c : Vars f_spec_l7Keys_i6c) (v : Vars f_spec_l7Keys_i6v) (kk : Vars f_spec_l7Keys_i6c → Oc f_spec_l7Keys_i6e → Option R) : evC en129 su129i6 (ifAt 6 Try.f129) (Desc.mk2 f_spec_l7Keys_i6v v (Desc.mk2 f_spec_l7Keys_i6c c .empty)) (fun o => chk f_spec_l7Keys_i6c f_spec_l7Keys_i6e o kk) = f_spec_l7Keys_i6 R c v kk := by kernel_rfl
theorem f_spec_l7Keys_i6Ok {X : Cx} (hX : en129.lo = X.lo) : SubOk Try.prog X 33 ⟨f_spec_l7Keys_i6c, f_spec_l7Keys_i6v, f_spec_l7Keys_i6e, f_spec_l7Keys_i6⟩ (ifAt 6 Try.f129) :=
  sub_if (u := ⟨f_spec_l7Keys_i6c, f_spec_l7Keys_i6v, f_spec_l7Keys_i6e, f_spec_l7Keys_i6⟩) (subs := su129i6) ok129 rfl hX (GoodN.good (K := True) (Eq.mpr (show GoodN Try.prog X 33 en129 su129i6 (ifAt 6 Try.f129) True = (True) by kernel_rfl) trivial)).1 (by decide) (by decide) f_spec_l7Keys_i6Eq
theorem f_spec_l7Keys_l3Eq (R : Type) (c : Vars f_spec_l7Keys_l3c) (v : Vars f_spec_l7Keys_l3v) (kk : Vars f_spec_l7Keys_l3c → (Vars f_spec_l7Keys_l3v ⊕ Oc f_spec_l7Keys_l3e) → Option R) : evC en129 su129 (loopAt 3 Try.f129) (Desc.mk2 f_spec_l7Keys_l3v v (Desc.mk2 f_spec_l7Keys_l3c c .empty)) (fun o => bodyK f_spec_l7Keys_l3c f_spec_l7Keys_l3v f_spec_l7Keys_l3e o kk) = f_spec_l7Keys_l3 R c v kk := by kernel_rfl
theorem f_spec_l7Keys_l3Ok {X : Cx} (hX : en129.lo = X.lo) : SubOk Try.prog X 33 ⟨f_spec_l7Keys_l3c, f_spec_l7Keys_l3v, f_spec_l7Keys_l3e, loopF f_spec_l7Keys_l3⟩ (.loop (loopAt 3 Try.f129)) :=
  sub_loop (subs := su129) ok129 rfl hX (GoodN.good (K := True) (Eq.mpr (show GoodN Try.prog X 33 en129 su129 (loopAt 3 Try.f129) True = (RegOk Try.prog X 33 en129 5 (regAt 5 Try.f129) ∧ SubOk Try.prog X 33 ⟨f_spec_l7Keys_i6c, f_spec_l7Keys_i6v, f_spec_l7Keys_i6e, f_spec_l7Keys_i6⟩ (ifAt 6 Try.f129) ∧ True) by kernel_rfl) ⟨(dr129r5 hX), (f_spec_l7Keys_i6Ok hX), trivial⟩)).1 (by decide) (by decide) f_spec_l7Keys_l3Eq
theorem f_spec_l7KeysEq (x : Ps ins129) : evF en129 su129 Try.f129 ins129 res129 x = f_spec_l7Keys x := by kernel_rfl
theorem so129 : Sound Try.prog 129 sg129 :=
  sound_of (fn := Try.f129) (c := bodyOf Try.f129) (subs := su129) (E := en129) (by kernel_rfl) (by kernel_rfl) (by decide) ok129 (by kernel_rfl) (by kernel_rfl) (by decide)
    (fun X hX => (GoodN.good (K := True) (Eq.mpr (show GoodN Try.prog X 33 en129 su129 (bodyOf Try.f129) True = (SubOk Try.prog X 33 ⟨f_spec_l7Keys_l3c, f_spec_l7Keys_l3v, f_spec_l7Keys_l3e, loopF f_spec_l7Keys_l3⟩ (.loop (loopAt 3 Try.f129)) ∧ True) by kernel_rfl) ⟨(f_spec_l7Keys_l3Ok hX), trivial⟩)).1)
    (fun x r h => (f_spec_l7KeysEq x).trans h)
/-! loop.example/g00224/spec.l5Hashes -/
def fl232 : List (Nat × Sig) := [(109, sg109)]
def en232 : Env := { n := 5, ty := assocN tyL, fns := assocN fl232, lo := 0 }
def su232 : Bool → Nat → Option Sub | _, _ => none
theorem ok232 : EnvOk Try.prog en232 := envOk_of rfl rfl tyL_ok (⟨so109, trivial⟩)
theorem f_spec_l5HashesEq (x : Ps ins232) : evF en232 su232 Try.f232 ins232 res232 x = f_spec_l5Hashes x := by kernel_rfl
theorem so232 : Sound Try.prog 232 sg232 :=
  sound_of (fn := Try.f232) (c := bodyOf Try.f232) (subs := su232) (E := en232) (by kernel_rfl) (by kernel_rfl) (by decide) ok232 (by kernel_rfl) (by kernel_rfl) (by decide)
    (fun X hX => (GoodN.good (K := True) (Eq.mpr (show GoodN Try.prog X 5 en232 su232 (bodyOf Try.f232) True = (True) by kernel_rfl) trivial)).1)
    (fun x r h => (f_spec_l5HashesEq x).trans h)
/-! loop.example/g00224/spec.NewFilter -/
def fl184 : List (Nat × Sig) := [(232, sg232)]
def en184 : Env := { n := 12, ty := assocN tyL, fns := assocN fl184, lo := 0 }
def su184 : Bool → Nat → Option Sub | _, _ => none
theorem ok184 : EnvOk Try.prog en184 := envOk_of rfl rfl tyL_ok (⟨so232, trivial⟩)
theorem f_spec_NewFilterEq (x : Ps ins184) : evF en184 su184 Try.f184 ins184 res184 x = f_spec_NewFilter x := by kernel_rfl
theorem so184 : Sound Try.prog 184 sg184 :=
  sound_of (fn := Try.f184) (c := bodyOf Try.f184) (subs := su184) (E := en184) (by kernel_rfl) (by kernel_rfl) (by decide) ok184 (by kernel_rfl) (by kernel_rfl) (by decide)
    (fun X hX => (GoodN.good (K := True) (Eq.mpr (show GoodN Try.prog X 12 en184 su184 (bodyOf Try.f184) True = (True) by kernel_rfl) trivial)).1)
    (fun x r h => (f_spec_NewFilterEq x).trans h)
/-! loop.example/g00224/spec.l5Places -/
def fl190 : List (Nat × Sig) := [(213, sg213), (214, sg214)]
def hi190 : List (Nat × (K × Mk)) := [(4, ((.sl (.int .i64)), (.o .s))), (5, ((.sl (.int .u32)), (.o .s))), (8, ((.sl (.int .i64)), (.o .s)))]
def en190 : Env := { n := 34, ty := assocN tyL, fns := assocN fl190, lo := 0, hint := assocN hi190 }
def su190 : Bool → Nat → Option Sub | true, 6 => some ⟨f_spec_l5Places_l6c, f_spec_l5Places_l6v, f_spec_l5Places_l6e, loopF f_spec_l5Places_l6⟩ | _, _ => none
theorem ok190 : EnvOk Try.prog en190 := envOk_of rfl rfl tyL_ok (⟨so213, ⟨so214, trivial⟩⟩)
theorem f_spec_l5Places_l6Eq (R : Type) (c : Vars f_spec_l5Places_l6c) (v : Vars f_spec_l5Places_l6v) (kk : Vars f_spec_l5Places_l6c → (Vars f_spec_l5Places_l6v ⊕ Oc f_spec_l5Places_l6e) → Option R) : evC en190 su190 (loopAt 6 Try.f190) (Desc.mk2 f_spec_l5Places_l6v v (Desc.mk2 f_spec_l5Places_l6c c .empty)) (fun o => bodyK f_spec_l5Places_l6c f_spec_l5Places_l6v f_spec_l5Places_l6e o kk) = f_spec_l5Places_l6 R c v kk := by kernel_rfl
theorem f_spec_l5Places_l6Ok {X : Cx} (hX : en190.lo = X.lo) : SubOk Try.prog X 34 ⟨f_spec_l5Places_l6c, f_spec_l5Places_l6v, f_spec_l5Places_l6e, loopF f_spec_l5Places_l6⟩ (.loop (loopAt 6 Try.f190)) :=
  sub_loop (subs := su190) ok190 rfl hX (GoodN.good (K := True) (Eq.mpr (show GoodN Try.prog X 34 en190 su190 (loopAt 6 Try.f190) True = (True) by kernel_rfl) trivial)).1 (by decide) (by decide) f_spec_l5Places_l6Eq
theorem f_spec_l5PlacesEq (x : Ps ins190) : evF en190 su190 Try.f190 ins190 res190 x = f_spec_l5Places x := by kernel_rfl
theorem so190 : Sound Try.prog 190 sg190 :=
  sound_of (fn := Try.f190) (c := bodyOf Try.f190) (subs := su190) (E := en190) (by kernel_rfl) (by kernel_rfl) (by decide) ok190 (by kernel_rfl) (by kernel_rfl) (by decide)
    (fun X hX => (GoodN.good (K := True) (Eq.mpr (show GoodN Try.prog X 34 en190 su190 (bodyOf Try.f190) True = (SubOk Try.prog X 34 ⟨f_spec_l5Places_l6c, f_spec_l5Places_l6v, f_spec_l5Places_l6e, loopF f_spec_l5Places_l6⟩ (.loop (loopAt 6 Try.f190)) ∧ True) by kernel_rfl) ⟨(f_spec_l5Places_l6Ok hX), trivial⟩)).1)
    (fun x r h => (f_spec_l5PlacesEq x).trans h)
/-! loop.example/g00224/spec.l5Add -/
def fl185 : List (Nat × Sig) := [(190, sg190)]
def hi185 : List (Nat × (K × Mk)) := [(5, ((.sl (.int .u8)), (.o .s)))]
def en185 : Env := { n := 43, ty := assocN tyL, fns := assocN fl185, lo := 0, hint := assocN hi185 }
def su185 : Bool → Nat → Option Sub | true, 3 => some ⟨f_spec_l5Add_l3c, f_spec_l5Add_l3v, f_spec_l5Add_l3e, loopF f_spec_l5Add_l3⟩ | false, 9 => some ⟨f_spec_l5Add_i9c, f_spec_l5Add_i9v, f_spec_l5Add_i9e, f_spec_l5Add_i9⟩ | _, _ => none
theorem ok185 : EnvOk Try.prog en185 := envOk_of rfl rfl tyL_ok (⟨so190, trivial⟩)
theorem f_spec_l5Add_l3Eq (R : Type) (c : Vars f_spec_l5Add_l3c) (v : Vars f_spec_l5Add_l3v) (kk : Vars f_spec_l5Add_l3c → (Vars f_spec_l5Add_l3v ⊕ Oc f_spec_l5Add_l3e) → Option R) : evC en185 su185 (loopAt 3 Try.f185) (Desc.mk2 f_spec_l5Add_l3v v (Desc.mk2 f_spec_l5Add_l3c c .empty)) (fun o => bodyK f_spec_l5Add_l3c f_spec_l5Add_l3v f_spec_l5Add_l3e o kk) = f_spec_l5Add_l3 R c v kk := by kernel_rfl
theorem f_spec_l5Add_l3Ok {X : Cx} (hX : en185.lo = X.lo) : SubOk Try.prog X 43 ⟨f_spec_l5Add_l3c, f_spec_l5Add_l3v, f_spec_l5Add_l3e, loopF f_spec_l5Add_l3⟩ (.loop (loopAt 3 Try.f185)) :=
  sub_loop (subs := su185) ok185 rfl hX (GoodN.good (K := True) (Eq.mpr (show GoodN Try.prog X 43 en185 su185 (loopAt 3 Try.f185) True = (True) by kernel_rfl) trivial)).1 (by decide) (by decide) f_spec_l5Add_l3Eq
def su185i9 : Bool → Nat → Option Sub | true, 3 => some ⟨f_spec_l5Add_l3c, f_spec_l5Add_l3v, f_spec_l5Add_l3e, loopF f_spec_l5Add_l3⟩ | _, _ => none
theorem f_spec_l5Add_i9Eq (R : Type) (c : Vars f_spec_l5Add_i9c) (v : Vars f_spec_l5Add_i9v) (kk : Vars f_spec_l5Add_i9c → Oc f_spec_l5Add_i9e → Option R) : evC en185 su185i9 (ifAt 9 Try.f185) (Desc.mk2 f_spec_l5Add_i9v v (Desc.mk2 f_spec_l5Add_i9c c .empty)) (fun o => chk f_spec_l5Add_i9c f_spec_l5Add_i9e o kk) = f_spec_l5Add_i9 R c v kk := by kernel_rfl
theorem f_spec_l5Add_i9Ok {X : Cx} (hX : en185.lo = X.lo) : SubOk Try.prog X 43 ⟨f_spec_l5Add_i9c, f_spec_l5Add_i9v, f_spec_l5Add_i9e, f_spec_l5Add_i9⟩ (ifAt 9 Try.f185) :=
  sub_if (u := ⟨f_spec_l5Add_i9c, f_spec_l5Add_i9v, f_spec_l5Add_i9e, f_spec_l5Add_i9⟩) (subs := su185i9) ok185 rfl hX (GoodN.good (K := True) (Eq.mpr (show GoodN Try.prog X 43 en185 su185i9 (ifAt 9 Try.f185) True = (True) by kernel_rfl) trivial)).1 (by decide) (by decide) f_spec_l5Add_i9Eq
theorem f_spec_l5AddEq (x : Ps ins185) : evF en185 su185 Try.f185 ins185 res185 x = f_spec_l5Add x := by kernel_rfl
theorem so185 : Sound Try.prog 185 sg185 :=
  sound_of (fn := Try.f185) (c := bodyOf Try.f185) (subs := su185) (E := en185) (by kernel_rfl) (by kernel_rfl) (by decide) ok185 (by kernel_rfl) (by kernel_rfl) (by decide)
    (fun X hX => (GoodN.good (K := True) (Eq.mpr (show GoodN Try.prog X 43 en185 su185 (bodyOf Try.f185) True = (SubOk Try.prog X 43 ⟨f_spec_l5Add_l3c, f_spec_l5Add_l3v, f_spec_l5Add_l3e, loopF f_spec_l5Add_l3⟩ (.loop (loopAt 3 Try.f185)) ∧ SubOk Try.prog X 43 ⟨f_spec_l5Add_i9c, f_spec_l5Add_i9v, f_spec_l5Add_i9e, f_spec_l5Add_i9⟩ (ifAt 9 Try.f185) ∧ True) by kernel_rfl) ⟨(f_spec_l5Add_l3Ok hX), (f_spec_l5Add_i9Ok hX), trivial⟩)).1)
    (fun x r h => (f_spec_l5AddEq x).trans h)
/-! loop.example/g00224/spec.FilterOf -/
def fl128 : List (Nat × Sig) := [(133, sg133), (184, sg184), (185, sg185)]
def en128 : Env := { n := 38, ty := assocN tyL, fns := assocN fl128, lo := 0 }
def su128 : Bool → Nat → Option Sub | true, 5 => some ⟨f_spec_FilterOf_l5c, f_spec_FilterOf_l5v, f_spec_FilterOf_l5e, loopF f_spec_FilterOf_l5⟩ | _, _ => none
theorem ok128 : EnvOk Try.prog en128 := envOk_of rfl rfl tyL_ok (⟨so133, ⟨so184, ⟨so185, trivial⟩⟩⟩)
theorem f_spec_FilterOf_l5Eq (R : Type) (c : Vars f_spec_FilterOf_l5c) (v : Vars f_spec_FilterOf_l5v) (kk : Vars f_spec_FilterOf_l5c → (Vars f_spec_FilterOf_l5v ⊕ Oc f_spec_FilterOf_l5e) → Option R) : evC en128 su128 (loopAt 5 Try.f128) (Desc.mk2 f_spec_FilterOf_l5v v (Desc.mk2 f_spec_FilterOf_l5c c .empty)) (fun o => bodyK f_spec_FilterOf_l5c f_spec_FilterOf_l5v f_spec_FilterOf_l5e o kk) = f_spec_FilterOf_l5 R c v kk := by kernel_rfl
theorem f_spec_FilterOf_l5Ok {X : Cx} (hX : en128.lo = X.lo) : SubOk Try.prog X 38 ⟨f_spec_FilterOf_l5c, f_spec_FilterOf_l5v, f_spec_FilterOf_l5e, loopF f_spec_FilterOf_l5⟩ (.loop (loopAt 5 Try.f128)) :=
  sub_loop (subs := su128) ok128 rfl hX (GoodN.good (K := True) (Eq.mpr (show GoodN Try.prog X 38 en128 su128 (loopAt 5 Try.f128) True = (True) by kernel_rfl) trivial)).1 (by decide) (by decide) f_spec_FilterOf_l5Eq
theorem f_spec_FilterOfEq (x : Ps ins128) : evF en128 su128 Try.f128 ins128 res128 x = f_spec_FilterOf x := by kernel_rfl
theorem so128 : Sound Try.prog 128 sg128 :=
  sound_of (fn := Try.f128) (c := bodyOf Try.f128) (subs := su128) (E := en128) (by kernel_rfl) (by kernel_rfl) (by decide) ok128 (by kernel_rfl) (by kernel_rfl) (by decide)
    (fun X hX => (GoodN.good (K := True) (Eq.mpr (show GoodN Try.prog X 38 en128 su128 (bodyOf Try.f128) True = (SubOk Try.prog X 38 ⟨f_spec_FilterOf_l5c, f_spec_FilterOf_l5v, f_spec_FilterOf_l5e, loopF f_spec_FilterOf_l5⟩ (.loop (loopAt 5 Try.f128)) ∧ True) by kernel_rfl) ⟨(f_spec_FilterOf_l5Ok hX), trivial⟩)).1)
    (fun x r h => (f_spec_FilterOfEq x).trans h)
/-! loop.example/g00224/spec.l7Word -/
def fl223 : List (Nat × Sig) := [(186, sg186)]
def en223 : Env := { n := 6, ty := assocN tyL, fns := assocN fl223, lo := 0 }
def su223 : Bool → Nat → Option Sub | _, _ => none
theorem ok223 : EnvOk Try.prog en223 := envOk_of rfl rfl tyL_ok (⟨so186, trivial⟩)
theorem f_spec_l7WordEq (x : Ps ins223) : evF en223 su223 Try.f223 ins223 res223 x = f_spec_l7Word x := by kernel_rfl
theorem so223 : Sound Try.prog 223 sg223 :=
  sound_of (fn := Try.f223) (c := bodyOf Try.f223) (subs := su223) (E := en223) (by kernel_rfl) (by kernel_rfl) (by decide) ok223 (by kernel_rfl) (by kernel_rfl) (by decide)
    (fun X hX => (GoodN.good (K := True) (Eq.mpr (show GoodN Try.prog X 6 en223 su223 (bodyOf Try.f223) True = (True) by kernel_rfl) trivial)).1)
    (fun x r h => (f_spec_l7WordEq x).trans h)
/-! loop.example/g00224/spec.l2Frame -/
def fl224 : List (Nat × Sig) := [(148, sg148), (160, sg160), (186, sg186)]
def en224 : Env := { n := 12, ty := assocN tyL, fns := assocN fl224, lo := 0 }
def su224 : Bool → Nat → Option Sub | _, _ => none
theorem ok224 : EnvOk Try.prog en224 := envOk_of rfl rfl tyL_ok (⟨so148, ⟨so160, ⟨so186, trivial⟩⟩⟩)
theorem f_spec_l2FrameEq (x : Ps ins224) : evF en224 su224 Try.f224 ins224 res224 x = f_spec_l2Frame x := by kernel_rfl
theorem so224 : Sound Try.prog 224 sg224 :=
  sound_of (fn := Try.f224) (c := bodyOf Try.f224) (subs := su224) (E := en224) (by kernel_rfl) (by kernel_rfl) (by decide) ok224 (by kernel_rfl) (by kernel_rfl) (by decide)
    (fun X hX => (GoodN.good (K := True) (Eq.mpr (show GoodN Try.prog X 12 en224 su224 (bodyOf Try.f224) True = (True) by kernel_rfl) trivial)).1)
    (fun x r h => (f_spec_l2FrameEq x).trans h)
/-! loop.example/g00224/spec.l7Table -/
def fl178 : List (Nat × Sig) := [(128, sg128), (129, sg129), (148, sg148), (160, sg160), (186, sg186), (222, sg222), (223, sg223), (224, sg224)]
def en178 : Env := { n := 83, ty := assocN tyL, fns := assocN fl178, lo := 0 }
def su178 : Bool → Nat → Option Sub | false, 8 => some ⟨f_spec_l7Table_i8c, f_spec_l7Table_i8v, f_spec_l7Table_i8e, f_spec_l7Table_i8⟩ | true, 4 => some ⟨f_spec_l7Table_l4c, f_spec_l7Table_l4v, f_spec_l7Table_l4e, loopF f_spec_l7Table_l4⟩ | _, _ => none
theorem ok178 : EnvOk Try.prog en178 := envOk_of rfl rfl tyL_ok (⟨so128, ⟨so129, ⟨so148, ⟨so160, ⟨so186, ⟨so222, ⟨so223, ⟨so224, trivial⟩⟩⟩⟩⟩⟩⟩⟩)
theorem dr178r11 {X : Cx} (hX : en178.lo = X.lo) : RegOk Try.prog X 83 en178 11 (regAt 11 Try.f178) := regOk_of ok178 rfl hX (by kernel_rfl) (by kernel_rfl)
theorem dr178r15 {X : Cx} (hX : en178.lo = X.lo) : RegOk Try.prog X 83 en178 15 (regAt 15 Try.f178) := regOk_of ok178 rfl hX (by kernel_rfl) (by kernel_rfl)
def su178i8 : Bool → Nat → Option Sub | true, 4 => some ⟨f_spec_l7Table_l4c, f_spec_l7Table_l4v, f_spec_l7Table_l4e, loopF f_spec_l7Table_l4⟩ | _, _ => none
theorem f_spec_l7Table_i8Eq (R : Type) (c : Vars f_spec_l7Table_i8c) (v : Vars f_spec_l7Table_i8v) (kk : Vars f_spec_l7Table_i8c → Oc f_spec_l7Table_i8e → Option R) : evC en178 su178i8 (ifAt 8 Try.f178) (Desc.mk2 f_spec_l7Table_i8v v (Desc.mk2 f_spec_l7Table_i8c c .empty)) (fun o => chk f_spec_l7Table_i8c f_spec_l7Table_i8e o kk) = f_spec_l7Table_i8 R c v kk := by kernel_rfl
theorem f_spec_l7Table_i8Ok {X : Cx} (hX : en178.lo = X.lo) : SubOk Try.prog X 83 ⟨f_spec_l7Table_i8c, f_spec_l7Table_i8v, f_spec_l7Table_i8e, f_spec_l7Table_i8⟩ (ifAt 8 Try.f178) :=
  sub_if (u := ⟨f_spec_l7Table_i8c, f_spec_l7Table_i8v, f_spec_l7Table_i8e, f_spec_l7Table_i8⟩) (subs := su178i8) ok178 rfl hX (GoodN.good (K := True) (Eq.mpr (show GoodN Try.prog X 83 en178 su178i8 (ifAt 8 Try.f178) True = (True) by kernel_rfl) trivial)).1 (by decide) (by decide) f_spec_l7Table_i8Eq
theorem f_spec_l7Table_l4Eq (R : Type) (c : Vars f_spec_l7Table_l4c) (v : Vars f_spec_l7Table_l4v) (kk : Vars f_spec_l7Table_l4c → (Vars f_spec_l7Table_l4v ⊕ Oc f_spec_l7Table_l4e) → Option R) : evC en178 su178 (loopAt 4 Try.f178) (Desc.mk2 f_spec_l7Table_l4v v (Desc.mk2 f_spec_l7Table_l4c c .empty)) (fun o => bodyK f_spec_l7Table_l4c f_spec_l7Table_l4v f_spec_l7Table_l4e o kk) = f_spec_l7Table_l4 R c v kk := by kernel_rfl
theorem f_spec_l7Table_l4Ok {X : Cx} (hX : en178.lo = X.lo) : SubOk Try.prog X 83 ⟨f_spec_l7Table_l4c, f_spec_l7Table_l4v, f_spec_l7Table_l4e, loopF f_spec_l7Table_l4⟩ (.loop (loopAt 4 Try.f178)) :=
  sub_loop (subs := su178) ok178 rfl hX (GoodN.good (K := True) (Eq.mpr (show GoodN Try.prog X 83 en178 su178 (loopAt 4 Try.f178) True = (SubOk Try.prog X 83 ⟨f_spec_l7Table_i8c, f_spec_l7Table_i8v, f_spec_l7Table_i8e, f_spec_l7Table_i8⟩ (ifAt 8 Try.f178) ∧ RegOk Try.prog X 83 en178 11 (regAt 11 Try.f178) ∧ True) by kernel_rfl) ⟨(f_spec_l7Table_i8Ok hX), (dr178r11 hX), trivial⟩)).1 (by decide) (by decide) f_spec_l7Table_l4Eq
theorem f_spec_l7TableEq (x : Ps ins178) : evF en178 su178 Try.f178 ins178 res178 x = f_spec_l7Table x := by kernel_rfl
theorem so178 : Sound Try.prog 178 sg178 :=
  sound_of (fn := Try.f178) (c := bodyOf Try.f178) (subs := su178) (E := en178) (by kernel_rfl) (by kernel_rfl) (by decide) ok178 (by kernel_rfl) (by kernel_rfl) (by decide)
    (fun X hX => (GoodN.good (K := True) (Eq.mpr (show GoodN Try.prog X 83 en178 su178 (bodyOf Try.f178) True = (SubOk Try.prog X 83 ⟨f_spec_l7Table_l4c, f_spec_l7Table_l4v, f_spec_l7Table_l4e, loopF f_spec_l7Table_l4⟩ (.loop (loopAt 4 Try.f178)) ∧ RegOk Try.prog X 83 en178 15 (regAt 15 Try.f178) ∧ True) by kernel_rfl) ⟨(f_spec_l7Table_l4Ok hX), (dr178r15 hX), trivial⟩)).1)
    (fun x r h => (f_spec_l7TableEq x).trans h)
/-! loop.example/g00224/spec.l7Read -/
def fl126 : List (Nat × Sig) := [(130, sg130), (131, sg131), (176, sg176), (177, sg177), (178, sg178)]
def hi126 : List (Nat × (K × Mk)) := [(2, ((.sl kdItem), (.o .s))), (8, ((.sl kdPlace), (.o .s))), (10, ((.sl kdItem), (.o .s))), (13, ((.sl kdItem), (.o .s)))]
def en126 : Env := { n := 88, ty := assocN tyL, fns := assocN fl126, lo := 0, hint := assocN hi126 }
def su126 : Bool → Nat → Option Sub | true, 7 => some ⟨f_spec_l7Read_l7c, f_spec_l7Read_l7v, f_spec_l7Read_l7e, loopF f_spec_l7Read_l7⟩ | _, _ => none
theorem ok126 : EnvOk Try.prog en126 := envOk_of rfl rfl tyL_ok (⟨so130, ⟨so131, ⟨so176, ⟨so177, ⟨so178, trivial⟩⟩⟩⟩⟩)
theorem f_spec_l7Read_l7Eq (R : Type) (c : Vars f_spec_l7Read_l7c) (v : Vars f_spec_l7Read_l7v) (kk : Vars f_spec_l7Read_l7c → (Vars f_spec_l7Read_l7v ⊕ Oc f_spec_l7Read_l7e) → Option R) : evC en126 su126 (loopAt 7 Try.f126) (Desc.mk2 f_spec_l7Read_l7v v (Desc.mk2 f_spec_l7Read_l7c c .empty)) (fun o => bodyK f_spec_l7Read_l7c f_spec_l7Read_l7v f_spec_l7Read_l7e o kk) = f_spec_l7Read_l7 R c v kk := by kernel_rfl
theorem f_spec_l7Read_l7Ok {X : Cx} (hX : en126.lo = X.lo) : SubOk Try.prog X 88 ⟨f_spec_l7Read_l7c, f_spec_l7Read_l7v, f_spec_l7Read_l7e, loopF f_spec_l7Read_l7⟩ (.loop (loopAt 7 Try.f126)) :=
  sub_loop (subs := su126) ok126 rfl hX (GoodN.good (K := True) (Eq.mpr (show GoodN Try.prog X 88 en126 su126 (loopAt 7 Try.f126) True = (True) by kernel_rfl) trivial)).1 (by decide) (by decide) f_spec_l7Read_l7Eq
theorem f_spec_l7ReadEq (x : Ps ins126) : evF en126 su126 Try.f126 ins126 res126 x = f_spec_l7Read x := by kernel_rfl
theorem so126 : Sound Try.prog 126 sg126 :=
  sound_of (fn := Try.f126) (c := bodyOf Try.f126) (subs := su126) (E := en126) (by kernel_rfl) (by kernel_rfl) (by decide) ok126 (by kernel_rfl) (by kernel_rfl) (by decide)
    (fun X hX => (GoodN.good (K := True) (Eq.mpr (show GoodN Try.prog X 88 en126 su126 (bodyOf Try.f126) True = (SubOk Try.prog X 88 ⟨f_spec_l7Read_l7c, f_spec_l7Read_l7v, f_spec_l7Read_l7e, loopF f_spec_l7Read_l7⟩ (.loop (loopAt 7 Try.f126)) ∧ True) by kernel_rfl) ⟨(f_spec_l7Read_l7Ok hX), trivial⟩)).1)
    (fun x r h => (f_spec_l7ReadEq x).trans h)
/-! loop.example/g00224/spec.RangeOf -/
def fl54 : List (Nat × Sig) := [(126, sg126)]
def hi54 : List (Nat × (K × Mk)) := [(5, ((.sl kdItem), (.o .s)))]
def en54 : Env := { n := 25, ty := assocN tyL, fns := assocN fl54, lo := 0, hint := assocN hi54 }
def su54 : Bool → Nat → Option Sub | _, _ => none
theorem ok54 : EnvOk Try.prog en54 := envOk_of rfl rfl tyL_ok (⟨so126, trivial⟩)
theorem dr54r4 {X : Cx} (hX : en54.lo = X.lo) : RegOk Try.prog X 25 en54 4 (regAt 4 Try.f54) := regOk_of ok54 rfl hX (by kernel_rfl) (by kernel_rfl)
theorem f_spec_RangeOfEq (x : Ps ins54) : evF en54 su54 Try.f54 ins54 res54 x = f_spec_RangeOf x := by kernel_rfl
theorem so54 : Sound Try.prog 54 sg54 :=
  sound_of (fn := Try.f54) (c := bodyOf Try.f54) (subs := su54) (E := en54) (by kernel_rfl) (by kernel_rfl) (by decide) ok54 (by kernel_rfl) (by kernel_rfl) (by decide)
    (fun X hX => (GoodN.good (K := True) (Eq.mpr (show GoodN Try.prog X 25 en54 su54 (bodyOf Try.f54) True = (RegOk Try.prog X 25 en54 4 (regAt 4 Try.f54) ∧ True) by kernel_rfl) ⟨(dr54r4 hX), trivial⟩)).1)
    (fun x r h => (f_spec_RangeOfEq x).trans h)
/-! loop.example/g00224/impl.wordOf -/
def fl179 : List (Nat × Sig) := []
def en179 : Env := { n := 20, ty := assocN tyL, fns := assocN fl179, lo := 0 }
def su179 : Bool → Nat → Option Sub | true, 3 => some ⟨f_impl_wordOf_l3c, f_impl_wordOf_l3v, f_impl_wordOf_l3e, loopF f_impl_wordOf_l3⟩ | _, _ => none
theorem ok179 : EnvOk Try.prog en179 := envOk_of rfl rfl tyL_ok (trivial)
theorem f_impl_wordOf_l3Eq (R : Type) (c : Vars f_impl_wordOf_l3c) (v : Vars f_impl_wordOf_l3v) (kk : Vars f_impl_wordOf_l3c → (Vars f_impl_wordOf_l3v ⊕ Oc f_impl_wordOf_l3e) → Option R) : evC en179 su179 (loopAt 3 Try.f179) (Desc.mk2 f_impl_wordOf_l3v v (Desc.mk2 f_impl_wordOf_l3c c .empty)) (fun o => bodyK f_impl_wordOf_l3c f_impl_wordOf_l3v f_impl_wordOf_l3e o kk) = f_impl_wordOf_l3 R c v kk := by kernel_rfl
theorem f_impl_wordOf_l3Ok {X : Cx} (hX : en179.lo = X.lo) : SubOk Try.prog X 20 ⟨f_impl_wordOf_l3c, f_impl_wordOf_l3v, f_impl_wordOf_l3e, loopF f_impl_wordOf_l3⟩ (.loop (loopAt 3 Try.f179)) :=
  sub_loop (subs := su179) ok179 rfl hX (GoodN.good (K := True) (Eq.mpr (show GoodN Try.prog X 20 en179 su179 (loopAt 3 Try.f179) True = (True) by kernel_rfl) trivial)).1 (by decide) (by decide) f_impl_wordOf_l3Eq
theorem f_impl_wordOfEq (x : Ps ins179) : evF en179 su179 Try.f179 ins179 res179 x = f_impl_wordOf x := by kernel_rfl
theorem so179 : Sound Try.prog 179 sg179 :=
  sound_of (fn := Try.f179) (c := bodyOf Try.f179) (subs := su179) (E := en179) (by kernel_rfl) (by kernel_rfl) (by decide) ok179 (by kernel_rfl) (by kernel_rfl) (by decide)
    (fun X hX => (GoodN.good (K := True) (Eq.mpr (show GoodN Try.prog X 20 en179 su179 (bodyOf Try.f179) True = (SubOk Try.prog X 20 ⟨f_impl_wordOf_l3c, f_impl_wordOf_l3v, f_impl_wordOf_l3e, loopF f_impl_wordOf_l3⟩ (.loop (loopAt 3 Try.f179)) ∧ True) by kernel_rfl) ⟨(f_impl_wordOf_l3Ok hX), trivial⟩)).1)
    (fun x r h => (f_impl_wordOfEq x).trans h)
/-! loop.example/g00224/impl.TakeVar -/
def fl149 : List (Nat × Sig) := []
def en149 : Env := { n := 36, ty := assocN tyL, fns := assocN fl149, lo := 0 }
def su149 : Bool → Nat → Option Sub | true, 3 => some ⟨f_impl_TakeVar_l3c, f_impl_TakeVar_l3v, f_impl_TakeVar_l3e, loopF f_impl_TakeVar_l3⟩ | _, _ => none
theorem ok149 : EnvOk Try.prog en149 := envOk_of rfl rfl tyL_ok (trivial)
theorem f_impl_TakeVar_l3Eq (R : Type) (c : Vars f_impl_TakeVar_l3c) (v : Vars f_impl_TakeVar_l3v) (kk : Vars f_impl_TakeVar_l3c → (Vars f_impl_TakeVar_l3v ⊕ Oc f_impl_TakeVar_l3e) → Option R) : evC en149 su149 (loopAt 3 Try.f149) (Desc.mk2 f_impl_TakeVar_l3v v (Desc.mk2 f_impl_TakeVar_l3c c .empty)) (fun o => bodyK f_impl_TakeVar_l3c f_impl_TakeVar_l3v f_impl_TakeVar_l3e o kk) = f_impl_TakeVar_l3 R c v kk := by kernel_rfl
theorem f_impl_TakeVar_l3Ok {X : Cx} (hX : en149.lo = X.lo) : SubOk Try.prog X 36 ⟨f_impl_TakeVar_l3c, f_impl_TakeVar_l3v, f_impl_TakeVar_l3e, loopF f_impl_TakeVar_l3⟩ (.loop (loopAt 3 Try.f149)) :=
  sub_loop (subs := su149) ok149 rfl hX (GoodN.good (K := True) (Eq.mpr (show GoodN Try.prog X 36 en149 su149 (loopAt 3 Try.f149) True = (True) by kernel_rfl) trivial)).1 (by decide) (by decide) f_impl_TakeVar_l3Eq
theorem f_impl_TakeVarEq (x : Ps ins149) : evF en149 su149 Try.f149 ins149 res149 x = f_impl_TakeVar x := by kernel_rfl
theorem so149 : Sound Try.prog 149 sg149 :=
  sound_of (fn := Try.f149) (c := bodyOf Try.f149) (subs := su149) (E := en149) (by kernel_rfl) (by kernel_rfl) (by decide) ok149 (by kernel_rfl) (by kernel_rfl) (by decide)
    (fun X hX => (GoodN.good (K := True) (Eq.mpr (show GoodN Try.prog X 36 en149 su149 (bodyOf Try.f149) True = (SubOk Try.prog X 36 ⟨f_impl_TakeVar_l3c, f_impl_TakeVar_l3v, f_impl_TakeVar_l3e, loopF f_impl_TakeVar_l3⟩ (.loop (loopAt 3 Try.f149)) ∧ True) by kernel_rfl) ⟨(f_impl_TakeVar_l3Ok hX), trivial⟩)).1)
    (fun x r h => (f_impl_TakeVarEq x).trans h)
/-! loop.example/g00224/impl.SumTable -/
def fl218 : List (Nat × Sig) := []
def hi218 : List (Nat × (K × Mk)) := [(0, ((.sl (.int .u32)), (.o .s))), (1, ((.sl (.int .u32)), (.o .s)))]
def en218 : Env := { n := 25, ty := assocN tyL, fns := assocN fl218, lo := 0, hint := assocN hi218 }
def su218 : Bool → Nat → Option Sub | false, 10 => some ⟨f_impl_SumTable_i10c, f_impl_SumTable_i10v, f_impl_SumTable_i10e, f_impl_SumTable_i10⟩ | true, 6 => some ⟨f_impl_SumTable_l6c, f_impl_SumTable_l6v, f_impl_SumTable_l6e, loopF f_impl_SumTable_l6⟩ | true, 3 => some ⟨f_impl_SumTable_l3c, f_impl_SumTable_l3v, f_impl_SumTable_l3e, loopF f_impl_SumTable_l3⟩ | _, _ => none
theorem ok218 : EnvOk Try.prog en218 := envOk_of rfl rfl tyL_ok (trivial)
def su218i10 : Bool → Nat → Option Sub | true, 6 => some ⟨f_impl_SumTable_l6c, f_impl_SumTable_l6v, f_impl_SumTable_l6e, loopF f_impl_SumTable_l6⟩ | true, 3 => some ⟨f_impl_SumTable_l3c, f_impl_SumTable_l3v, f_impl_SumTable_l3e, loopF f_impl_SumTable_l3⟩ | _, _ => none
theorem f_impl_SumTable_i10Eq (R : Type) (c : Vars f_impl_SumTable_i10c) (v : Vars f_impl_SumTable_i10v) (kk : Vars f_impl_SumTable_i10c → Oc f_impl_SumTable_i10e → Option R) : evC en218 su218i10 (ifAt 10 Try.f218) (Desc.mk2 f_impl_SumTable_i10v v (Desc.mk2 f_impl_SumTable_i10c c .empty)) (fun o => chk f_impl_SumTable_i10c f_impl_SumTable_i10e o kk) = f_impl_SumTable_i10 R c v kk := by kernel_rfl
theorem f_impl_SumTable_i10Ok {X : Cx} (hX : en218.lo = X.lo) : SubOk Try.prog X 25 ⟨f_impl_SumTable_i10c, f_impl_SumTable_i10v, f_impl_SumTable_i10e, f_impl_SumTable_i10⟩ (ifAt 10 Try.f218) :=
  sub_if (u := ⟨f_impl_SumTable_i10c, f_impl_SumTable_i10v, f_impl_SumTable_i10e, f_impl_SumTable_i10⟩) (subs := su218i10) ok218 rfl hX (GoodN.good (K := True) (Eq.mpr (show GoodN Try.prog X 25 en218 su218i10 (ifAt 10 Try.f218) True = (True) by kernel_rfl) trivial)).1 (by decide) (by decide) f_impl_SumTable_i10Eq
theorem f_impl_SumTable_l6Eq (R : Type) (c : Vars f_impl_SumTable_l6c) (v : Vars f_impl_SumTable_l6v) (kk : Vars f_impl_SumTable_l6c → (Vars f_impl_SumTable_l6v ⊕ Oc f_impl_SumTable_l6e) → Option R) : evC en218 su218 (loopAt 6 Try.f218) (Desc.mk2 f_impl_SumTable_l6v v (Desc.mk2 f_impl_SumTable_l6c c .empty)) (fun o => bodyK f_impl_SumTable_l6c f_impl_SumTable_l6v f_impl_SumTable_l6e o kk) = f_impl_SumTable_l6 R c v kk := by kernel_rfl
theorem f_impl_SumTable_l6Ok {X : Cx} (hX : en218.lo = X.lo) : SubOk Try.prog X 25 ⟨f_impl_SumTable_l6c, f_impl_SumTable_l6v, f_impl_SumTable_l6e, loopF f_impl_SumTable_l6⟩ (.loop (loopAt 6 Try.f218)) :=
  sub_loop (subs := su218) ok218 rfl hX (GoodN.good (K := True) (Eq.mpr (show GoodN Try.prog X 25 en218 su218 (loopAt 6 Try.f218) True = (SubOk Try.prog X 25 ⟨f_impl_SumTable_i10c, f_impl_SumTable_i10v, f_impl_SumTable_i10e, f_impl_SumTable_i10⟩ (ifAt 10 Try.f218) ∧ True) by kernel_rfl) ⟨(f_impl_SumTable_i10Ok hX), trivial⟩)).1 (by decide) (by decide) f_impl_SumTable_l6Eq
theorem f_impl_SumTable_l3Eq (R : Type) (c : Vars f_impl_SumTable_l3c) (v : Vars f_impl_SumTable_l3v) (kk : Vars f_impl_SumTable_l3c → (Vars f_impl_SumTable_l3v ⊕ Oc f_impl_SumTable_l3e) → Option R) : evC en218 su218 (loopAt 3 Try.f218) (Desc.mk2 f_impl_SumTable_l3v v (Desc.mk2 f_impl_SumTable_l3c c .empty)) (fun o => bodyK f_impl_SumTable_l3c f_impl_SumTable_l3v f_impl_SumTable_l3e o kk) = f_impl_SumTable_l3 R c v kk := by kernel_rfl
theorem f_impl_SumTable_l3Ok {X : Cx} (hX : en218.lo = X.lo) : SubOk Try.prog X 25 ⟨f_impl_SumTable_l3c, f_impl_SumTable_l3v, f_impl_SumTable_l3e, loopF f_impl_SumTable_l3⟩ (.loop (loopAt 3 Try.f218)) :=
  sub_loop (subs := su218) ok218 rfl hX (GoodN.good (K := True) (Eq.mpr (show GoodN Try.prog X 25 en218 su218 (loopAt 3 Try.f218) True = (SubOk Try.prog X 25 ⟨f_impl_SumTable_l6c, f_impl_SumTable_l6v, f_impl_SumTable_l6e, loopF f_impl_SumTable_l6⟩ (.loop (loopAt 6 Try.f218)) ∧ True) by kernel_rfl) ⟨(f_impl_SumTable_l6Ok hX), trivial⟩)).1 (by decide) (by decide) f_impl_SumTable_l3Eq
theorem f_impl_SumTableEq (x : Ps ins218) : evF en218 su218 Try.f218 ins218 res218 x = f_impl_SumTable x := by kernel_rfl
theorem so218 : Sound Try.prog 218 sg218 :=
  sound_of (fn := Try.f218) (c := bodyOf Try.f218) (subs := su218) (E := en218) (by kernel_rfl) (by kernel_rfl) (by decide) ok218 (by kernel_rfl) (by kernel_rfl) (by decide)
    (fun X hX => (GoodN.good (K := True) (Eq.mpr (show GoodN Try.prog X 25 en218 su218 (bodyOf Try.f218) True = (SubOk Try.prog X 25 ⟨f_impl_SumTable_l3c, f_impl_SumTable_l3v, f_impl_SumTable_l3e, loopF f_impl_SumTable_l3⟩ (.loop (loopAt 3 Try.f218)) ∧ True) by kernel_rfl) ⟨(f_impl_SumTable_l3Ok hX), trivial⟩)).1)
    (fun x r h => (f_impl_SumTableEq x).trans h)
/-! loop.example/g00224/impl.SumOn -/
def fl175 : List (Nat × Sig) := [(218, sg218)]
def hi175 : List (Nat × (K × Mk)) := [(5, ((.sl (.int .u32)), (.o .s)))]
def en175 : Env := { n := 27, ty := assocN tyL, fns := assocN fl175, lo := 0, hint := assocN hi175 }
def su175 : Bool → Nat → Option Sub | true, 3 => some ⟨f_impl_SumOn_l3c, f_impl_SumOn_l3v, f_impl_SumOn_l3e, loopF f_impl_SumOn_l3⟩ | _, _ => none
theorem ok175 : EnvOk Try.prog en175 := envOk_of rfl rfl tyL_ok (⟨so218, trivial⟩)
theorem f_impl_SumOn_l3Eq (R : Type) (c : Vars f_impl_SumOn_l3c) (v : Vars f_impl_SumOn_l3v) (kk : Vars f_impl_SumOn_l3c → (Vars f_impl_SumOn_l3v ⊕ Oc f_impl_SumOn_l3e) → Option R) : evC en175 su175 (loopAt 3 Try.f175) (Desc.mk2 f_impl_SumOn_l3v v (Desc.mk2 f_impl_SumOn_l3c c .empty)) (fun o => bodyK f_impl_SumOn_l3c f_impl_SumOn_l3v f_impl_SumOn_l3e o kk) = f_impl_SumOn_l3 R c v kk := by kernel_rfl
theorem f_impl_SumOn_l3Ok {X : Cx} (hX : en175.lo = X.lo) : SubOk Try.prog X 27 ⟨f_impl_SumOn_l3c, f_impl_SumOn_l3v, f_impl_SumOn_l3e, loopF f_impl_SumOn_l3⟩ (.loop (loopAt 3 Try.f175)) :=
  sub_loop (subs := su175) ok175 rfl hX (GoodN.good (K := True) (Eq.mpr (show GoodN Try.prog X 27 en175 su175 (loopAt 3 Try.f175) True = (True) by kernel_rfl) trivial)).1 (by decide) (by decide) f_impl_SumOn_l3Eq
theorem f_impl_SumOnEq (x : Ps ins175) : evF en175 su175 Try.f175 ins175 res175 x = f_impl_SumOn x := by kernel_rfl
theorem so175 : Sound Try.prog 175 sg175 :=
  sound_of (fn := Try.f175) (c := bodyOf Try.f175) (subs := su175) (E := en175) (by kernel_rfl) (by kernel_rfl) (by decide) ok175 (by kernel_rfl) (by kernel_rfl) (by decide)
    (fun X hX => (GoodN.good (K := True) (Eq.mpr (show GoodN Try.prog X 27 en175 su175 (bodyOf Try.f175) True = (SubOk Try.prog X 27 ⟨f_impl_SumOn_l3c, f_impl_SumOn_l3v, f_impl_SumOn_l3e, loopF f_impl_SumOn_l3⟩ (.loop (loopAt 3 Try.f175)) ∧ True) by kernel_rfl) ⟨(f_impl_SumOn_l3Ok hX), trivial⟩)).1)
    (fun x r h => (f_impl_SumOnEq x).trans h)
/-! loop.example/g00224/impl.SumOf -/
def fl125 : List (Nat × Sig) := [(175, sg175)]
def en125 : Env := { n := 6, ty := assocN tyL, fns := assocN fl125, lo := 0 }
def su125 : Bool → Nat → Option Sub | _, _ => none
theorem ok125 : EnvOk Try.prog en125 := envOk_of rfl rfl tyL_ok (⟨so175, trivial⟩)
theorem f_impl_SumOfEq (x : Ps ins125) : evF en125 su125 Try.f125 ins125 res125 x = f_impl_SumOf x := by kernel_rfl
theorem so125 : Sound Try.prog 125 sg125 :=
  sound_of (fn := Try.f125) (c := bodyOf Try.f125) (subs := su125) (E := en125) (by kernel_rfl) (by kernel_rfl) (by decide) ok125 (by kernel_rfl) (by kernel_rfl) (by decide)
    (fun X hX => (GoodN.good (K := True) (Eq.mpr (show GoodN Try.prog X 6 en125 su125 (bodyOf Try.f125) True = (True) by kernel_rfl) trivial)).1)
    (fun x r h => (f_impl_SumOfEq x).trans h)
/-! loop.example/g00224/impl.lowFirst -/
def fl225 : List (Nat × Sig) := []
def hi225 : List (Nat × (K × Mk)) := [(5, ((.sl (.int .u8)), (.o .s)))]
def en225 : Env := { n := 20, ty := assocN tyL, fns := assocN fl225, lo := 0, hint := assocN hi225 }
def su225 : Bool → Nat → Option Sub | true, 3 => some ⟨f_impl_lowFirst_l3c, f_impl_lowFirst_l3v, f_impl_lowFirst_l3e, loopF f_impl_lowFirst_l3⟩ | _, _ => none
theorem ok225 : EnvOk Try.prog en225 := envOk_of rfl rfl tyL_ok (trivial)
theorem f_impl_lowFirst_l3Eq (R : Type) (c : Vars f_impl_lowFirst_l3c) (v : Vars f_impl_lowFirst_l3v) (kk : Vars f_impl_lowFirst_l3c → (Vars f_impl_lowFirst_l3v ⊕ Oc f_impl_lowFirst_l3e) → Option R) : evC en225 su225 (loopAt 3 Try.f225) (Desc.mk2 f_impl_lowFirst_l3v v (Desc.mk2 f_impl_lowFirst_l3c c .empty)) (fun o => bodyK f_impl_lowFirst_l3c f_impl_lowFirst_l3v f_impl_lowFirst_l3e o kk) = f_impl_lowFirst_l3 R c v kk := by kernel_rfl
theorem f_impl_lowFirst_l3Ok {X : Cx} (hX : en225.lo = X.lo) : SubOk Try.prog X 20 ⟨f_impl_lowFirst_l3c, f_impl_lowFirst_l3v, f_impl_lowFirst_l3e, loopF f_impl_lowFirst_l3⟩ (.loop (loopAt 3 Try.f225)) :=
  sub_loop (subs := su225) ok225 rfl hX (GoodN.good (K := True) (Eq.mpr (show GoodN Try.prog X 20 en225 su225 (loopAt 3 Try.f225) True = (True) by kernel_rfl) trivial)).1 (by decide) (by decide) f_impl_lowFirst_l3Eq
theorem f_impl_lowFirstEq (x : Ps ins225) : evF en225 su225 Try.f225 ins225 res225 x = f_impl_lowFirst x := by kernel_rfl
theorem so225 : Sound Try.prog 225 sg225 :=
  sound_of (fn := Try.f225) (c := bodyOf Try.f225) (subs := su225) (E := en225) (by kernel_rfl) (by kernel_rfl) (by decide) ok225 (by kernel_rfl) (by kernel_rfl) (by decide)
    (fun X hX => (GoodN.good (K := True) (Eq.mpr (show GoodN Try.prog X 20 en225 su225 (bodyOf Try.f225) True = (SubOk Try.prog X 20 ⟨f_impl_lowFirst_l3c, f_impl_lowFirst_l3v, f_impl_lowFirst_l3e, loopF f_impl_lowFirst_l3⟩ (.loop (loopAt 3 Try.f225)) ∧ True) by kernel_rfl) ⟨(f_impl_lowFirst_l3Ok hX), trivial⟩)).1)
    (fun x r h => (f_impl_lowFirstEq x).trans h)
/-! loop.example/g00224/impl.TakeFrame -/
def fl180 : List (Nat × Sig) := [(125, sg125), (149, sg149), (225, sg225)]
def en180 : Env := { n := 49, ty := assocN tyL, fns := assocN fl180, lo := 0 }
def su180 : Bool → Nat → Option Sub | _, _ => none
theorem ok180 : EnvOk Try.prog en180 := envOk_of rfl rfl tyL_ok (⟨so125, ⟨so149, ⟨so225, trivial⟩⟩⟩)
theorem dr180r6 {X : Cx} (hX : en180.lo = X.lo) : RegOk Try.prog X 49 en180 6 (regAt 6 Try.f180) := regOk_of ok180 rfl hX (by kernel_rfl) (by kernel_rfl)
theorem f_impl_TakeFrameEq (x : Ps ins180) : evF en180 su180 Try.f180 ins180 res180 x = f_impl_TakeFrame x := by kernel_rfl
theorem so180 : Sound Try.prog 180 sg180 :=
  sound_of (fn := Try.f180) (c := bodyOf Try.f180) (subs := su180) (E := en180) (by kernel_rfl) (by kernel_rfl) (by decide) ok180 (by kernel_rfl) (by kernel_rfl) (by decide)
    (fun X hX => (GoodN.good (K := True) (Eq.mpr (show GoodN Try.prog X 49 en180 su180 (bodyOf Try.f180) True = (RegOk Try.prog X 49 en180 6 (regAt 6 Try.f180) ∧ True) by kernel_rfl) ⟨(dr180r6 hX), trivial⟩)).1)
    (fun x r h => (f_impl_TakeFrameEq x).trans h)
/-! (*loop.example/g00224/impl.taker).number -/
def fl86 : List (Nat × Sig) := [(149, sg149)]
def en86 : Env := { n := 38, ty := assocN tyL, fns := assocN fl86, lo := 1 }
def su86 : Bool → Nat → Option Sub | _, _ => none
theorem ok86 : EnvOk Try.prog en86 := envOk_of rfl rfl tyL_ok (⟨so149, trivial⟩)
theorem f_impl_taker_numberEq (x : Ps ins86) : evF en86 su86 Try.f86 ins86 res86 x = f_impl_taker_number x := by kernel_rfl
theorem so86 : Sound Try.prog 86 sg86 :=
  sound_of (fn := Try.f86) (c := bodyOf Try.f86) (subs := su86) (E := en86) (by kernel_rfl) (by kernel_rfl) (by decide) ok86 (by kernel_rfl) (by kernel_rfl) (by decide)
    (fun X hX => (GoodN.good (K := True) (Eq.mpr (show GoodN Try.prog X 38 en86 su86 (bodyOf Try.f86) True = (True) by kernel_rfl) trivial)).1)
    (fun x r h => (f_impl_taker_numberEq x).trans h)
/-! (*loop.example/g00224/impl.taker).text -/
def fl87 : List (Nat × Sig) := []
def en87 : Env := { n := 42, ty := assocN tyL, fns := assocN fl87, lo := 1 }
def su87 : Bool → Nat → Option Sub | _, _ => none
theorem ok87 : EnvOk Try.prog en87 := envOk_of rfl rfl tyL_ok (trivial)
theorem f_impl_taker_textEq (x : Ps ins87) : evF en87 su87 Try.f87 ins87 res87 x = f_impl_taker_text x := by kernel_rfl
theorem so87 : Sound Try.prog 87 sg87 :=
  sound_of (fn := Try.f87) (c := bodyOf Try.f87) (subs := su87) (E := en87) (by kernel_rfl) (by kernel_rfl) (by decide) ok87 (by kernel_rfl) (by kernel_rfl) (by decide)
    (fun X hX => (GoodN.good (K := True) (Eq.mpr (show GoodN Try.prog X 42 en87 su87 (bodyOf Try.f87) True = (True) by kernel_rfl) trivial)).1)
    (fun x r h => (f_impl_taker_textEq x).trans h)
/-! (*loop.example/g00224/impl.taker).sized -/
def fl88 : List (Nat × Sig) := [(86, sg86), (87, sg87)]
def en88 : Env := { n := 7, ty := assocN tyL, fns := assocN fl88, lo := 1 }
def su88 : Bool → Nat → Option Sub | _, _ => none
theorem ok88 : EnvOk Try.prog en88 := envOk_of rfl rfl tyL_ok (⟨so86, ⟨so87, trivial⟩⟩)
theorem f_impl_taker_sizedEq (x : Ps ins88) : evF en88 su88 Try.f88 ins88 res88 x = f_impl_taker_sized x := by kernel_rfl
theorem so88 : Sound Try.prog 88 sg88 :=
  sound_of (fn := Try.f88) (c := bodyOf Try.f88) (subs := su88) (E := en88) (by kernel_rfl) (by kernel_rfl) (by decide) ok88 (by kernel_rfl) (by kernel_rfl) (by decide)
    (fun X hX => (GoodN.good (K := True) (Eq.mpr (show GoodN Try.prog X 7 en88 su88 (bodyOf Try.f88) True = (True) by kernel_rfl) trivial)).1)
    (fun x r h => (f_impl_taker_sizedEq x).trans h)
/-! (*loop.example/g00224/impl.taker).whole -/
def fl89 : List (Nat × Sig) := []
def en89 : Env := { n := 15, ty := assocN tyL, fns := assocN fl89, lo := 1 }
def su89 : Bool → Nat → Option Sub | _, _ => none
theorem ok89 : EnvOk Try.prog en89 := envOk_of rfl rfl tyL_ok (trivial)
theorem f_impl_taker_wholeEq (x : Ps ins89) : evF en89 su89 Try.f89 ins89 res89 x = f_impl_taker_whole x := by kernel_rfl
theorem so89 : Sound Try.prog 89 sg89 :=
  sound_of (fn := Try.f89) (c := bodyOf Try.f89) (subs := su89) (E := en89) (by kernel_rfl) (by kernel_rfl) (by decide) ok89 (by kernel_rfl) (by kernel_rfl) (by decide)
    (fun X hX => (GoodN.good (K := True) (Eq.mpr (show GoodN Try.prog X 15 en89 su89 (bodyOf Try.f89) True = (True) by kernel_rfl) trivial)).1)
    (fun x r h => (f_impl_taker_wholeEq x).trans h)
/-! loop.example/g00224/impl.readItems -/
def fl250 : List (Nat × Sig) := [(86, sg86), (87, sg87), (89, sg89)]
def hi250 : List (Nat × (K × Mk)) := [(2, ((.sl kdItem), (.o .s))), (5, ((.sl kdItem), (.o .s)))]
def en250 : Env := { n := 83, ty := assocN tyL, fns := assocN fl250, lo := 0, hint := assocN hi250 }
def su250 : Bool → Nat → Option Sub | true, 2 => some ⟨f_impl_readItems_l2c, f_impl_readItems_l2v, f_impl_readItems_l2e, loopF f_impl_readItems_l2⟩ | _, _ => none
theorem ok250 : EnvOk Try.prog en250 := envOk_of rfl rfl tyL_ok (⟨so86, ⟨so87, ⟨so89, trivial⟩⟩⟩)
theorem f_impl_readItems_l2Eq (R : Type) (c : Vars f_impl_readItems_l2c) (v : Vars f_impl_readItems_l2v) (kk : Vars f_impl_readItems_l2c → (Vars f_impl_readItems_l2v ⊕ Oc f_impl_readItems_l2e) → Option R) : evC en250 su250 (loopAt 2 Try.f250) (Desc.mk2 f_impl_readItems_l2v v (Desc.mk2 f_impl_readItems_l2c c .empty)) (fun o => bodyK f_impl_readItems_l2c f_impl_readItems_l2v f_impl_readItems_l2e o kk) = f_impl_readItems_l2 R c v kk := by kernel_rfl
theorem f_impl_readItems_l2Ok {X : Cx} (hX : en250.lo = X.lo) : SubOk Try.prog X 83 ⟨f_impl_readItems_l2c, f_impl_readItems_l2v, f_impl_readItems_l2e, loopF f_impl_readItems_l2⟩ (.loop (loopAt 2 Try.f250)) :=
  sub_loop (subs := su250) ok250 rfl hX (GoodN.good (K := True) (Eq.mpr (show GoodN Try.prog X 83 en250 su250 (loopAt 2 Try.f250) True = (True) by kernel_rfl) trivial)).1 (by decide) (by decide) f_impl_readItems_l2Eq
theorem f_impl_readItemsEq (x : Ps ins250) : evF en250 su250 Try.f250 ins250 res250 x = f_impl_readItems x := by kernel_rfl
theorem so250 : Sound Try.prog 250 sg250 :=
  sound_of (fn := Try.f250) (c := bodyOf Try.f250) (subs := su250) (E := en250) (by kernel_rfl) (by kernel_rfl) (by decide) ok250 (by kernel_rfl) (by kernel_rfl) (by decide)
    (fun X hX => (GoodN.good (K := True) (Eq.mpr (show GoodN Try.prog X 83 en250 su250 (bodyOf Try.f250) True = (SubOk Try.prog X 83 ⟨f_impl_readItems_l2c, f_impl_readItems_l2v, f_impl_readItems_l2e, loopF f_impl_readItems_l2⟩ (.loop (loopAt 2 Try.f250)) ∧ True) by kernel_rfl) ⟨(f_impl_readItems_l2Ok hX), trivial⟩)).1)
    (fun x r h => (f_impl_readItemsEq x).trans h)
/-! loop.example/g00224/impl.in -/
def fl104 : List (Nat × Sig) := []
def en104 : Env := { n := 15, ty := assocN tyL, fns := assocN fl104, lo := 0 }
def su104 : Bool → Nat → Option Sub | _, _ => none
theorem ok104 : EnvOk Try.prog en104 := envOk_of rfl rfl tyL_ok (trivial)
theorem f_impl_inEq (x : Ps ins104) : evF en104 su104 Try.f104 ins104 res104 x = f_impl_in x := by kernel_rfl
theorem so104 : Sound Try.prog 104 sg104 :=
  sound_of (fn := Try.f104) (c := bodyOf Try.f104) (subs := su104) (E := en104) (by kernel_rfl) (by kernel_rfl) (by decide) ok104 (by kernel_rfl) (by kernel_rfl) (by decide)
    (fun X hX => (GoodN.good (K := True) (Eq.mpr (show GoodN Try.prog X 15 en104 su104 (bodyOf Try.f104) True = (True) by kernel_rfl) trivial)).1)
    (fun x r h => (f_impl_inEq x).trans h)
/-! loop.example/g00224/impl.isKey -/
def fl137 : List (Nat × Sig) := [(104, sg104)]
def en137 : Env := { n := 6, ty := assocN tyL, fns := assocN fl137, lo := 0 }
def su137 : Bool → Nat → Option Sub | _, _ => none
theorem ok137 : EnvOk Try.prog en137 := envOk_of rfl rfl tyL_ok (⟨so104, trivial⟩)
theorem f_impl_isKeyEq (x : Ps ins137) : evF en137 su137 Try.f137 ins137 res137 x = f_impl_isKey x := by kernel_rfl
theorem so137 : Sound Try.prog 137 sg137 :=
  sound_of (fn := Try.f137) (c := bodyOf Try.f137) (subs := su137) (E := en137) (by kernel_rfl) (by kernel_rfl) (by decide) ok137 (by kernel_rfl) (by kernel_rfl) (by decide)
    (fun X hX => (GoodN.good (K := True) (Eq.mpr (show GoodN Try.prog X 6 en137 su137 (bodyOf Try.f137) True = (True) by kernel_rfl) trivial)).1)
    (fun x r h => (f_impl_isKeyEq x).trans h)
/-! loop.example/g00224/impl.isSeq -/
def fl138 : List (Nat × Sig) := [(104, sg104)]
def en138 : Env := { n := 5, ty := assocN tyL, fns := assocN fl138, lo := 0 }
def su138 : Bool → Nat → Option Sub | _, _ => none
theorem ok138 : EnvOk Try.prog en138 := envOk_of rfl rfl tyL_ok (⟨so104, trivial⟩)
theorem f_impl_isSeqEq (x : Ps ins138) : evF en138 su138 Try.f138 ins138 res138 x = f_impl_isSeq x := by kernel_rfl
theorem so138 : Sound Try.prog 138 sg138 :=
  sound_of (fn := Try.f138) (c := bodyOf Try.f138) (subs := su138) (E := en138) (by kernel_rfl) (by kernel_rfl) (by decide) ok138 (by kernel_rfl) (by kernel_rfl) (by decide)
    (fun X hX => (GoodN.good (K := True) (Eq.mpr (show GoodN Try.prog X 5 en138 su138 (bodyOf Try.f138) True = (True) by kernel_rfl) trivial)).1)
    (fun x r h => (f_impl_isSeqEq x).trans h)
/-! loop.example/g00224/impl.isValue -/
def fl147 : List (Nat × Sig) := []
def en147 : Env := { n := 6, ty := assocN tyL, fns := assocN fl147, lo := 0 }
def su147 : Bool → Nat → Option Sub | _, _ => none
theorem ok147 : EnvOk Try.prog en147 := envOk_of rfl rfl tyL_ok (trivial)
theorem f_impl_isValueEq (x : Ps ins147) : evF en147 su147 Try.f147 ins147 res147 x = f_impl_isValue x := by kernel_rfl
theorem so147 : Sound Try.prog 147 sg147 :=
  sound_of (fn := Try.f147) (c := bodyOf Try.f147) (subs := su147) (E := en147) (by kernel_rfl) (by kernel_rfl) (by decide) ok147 (by kernel_rfl) (by kernel_rfl) (by decide)
    (fun X hX => (GoodN.good (K := True) (Eq.mpr (show GoodN Try.prog X 6 en147 su147 (bodyOf Try.f147) True = (True) by kernel_rfl) trivial)).1)
    (fun x r h => (f_impl_isValueEq x).trans h)
/-! loop.example/g00224/impl.GoodItem -/
def fl227 : List (Nat × Sig) := [(104, sg104), (137, sg137), (138, sg138), (147, sg147)]
def en227 : Env := { n := 31, ty := assocN tyL, fns := assocN fl227, lo := 0 }
def su227 : Bool → Nat → Option Sub | _, _ => none
theorem ok227 : EnvOk Try.prog en227 := envOk_of rfl rfl tyL_ok (⟨so104, ⟨so137, ⟨so138, ⟨so147, trivial⟩⟩⟩⟩)
theorem f_impl_GoodItemEq (x : Ps ins227) : evF en227 su227 Try.f227 ins227 res227 x = f_impl_GoodItem x := by kernel_rfl
theorem so227 : Sound Try.prog 227 sg227 :=
  sound_of (fn := Try.f227) (c := bodyOf Try.f227) (subs := su227) (E := en227) (by kernel_rfl) (by kernel_rfl) (by decide) ok227 (by kernel_rfl) (by kernel_rfl) (by decide)
    (fun X hX => (GoodN.good (K := True) (Eq.mpr (show GoodN Try.prog X 31 en227 su227 (bodyOf Try.f227) True = (True) by kernel_rfl) trivial)).1)
    (fun x r h => (f_impl_GoodItemEq x).trans h)
/-! cmp.isNaN[string] -/
def fl235 : List (Nat × Sig) := []
def en235 : Env := { n := 6, ty := assocN tyL, fns := assocN fl235, lo := 0 }
def su235 : Bool → Nat → Option Sub | _, _ => none
theorem ok235 : EnvOk Try.prog en235 := envOk_of rfl rfl tyL_ok (trivial)
theorem f_cmp_isNaN_stringEq (x : Ps ins235) : evF en235 su235 Try.f235 ins235 res235 x = f_cmp_isNaN_string x := by kernel_rfl
theorem so235 : Sound Try.prog 235 sg235 :=
  sound_of (fn := Try.f235) (c := bodyOf Try.f235) (subs := su235) (E := en235) (by kernel_rfl) (by kernel_rfl) (by decide) ok235 (by kernel_rfl) (by kernel_rfl) (by decide)
    (fun X hX => (GoodN.good (K := True) (Eq.mpr (show GoodN Try.prog X 6 en235 su235 (bodyOf Try.f235) True = (True) by kernel_rfl) trivial)).1)
    (fun x r h => (f_cmp_isNaN_stringEq x).trans h)
/-! cmp.Compare[string] -/
def fl202 : List (Nat × Sig) := [(235, sg235)]
def en202 : Env := { n := 20, ty := assocN tyL, fns := assocN fl202, lo := 0 }
def su202 : Bool → Nat → Option Sub | _, _ => none
theorem ok202 : EnvOk Try.prog en202 := envOk_of rfl rfl tyL_ok (⟨so235, trivial⟩)
theorem f_cmp_Compare_stringEq (x : Ps ins202) : evF en202 su202 Try.f202 ins202 res202 x = f_cmp_Compare_string x := by kernel_rfl
theorem so202 : Sound Try.prog 202 sg202 :=
  sound_of (fn := Try.f202) (c := bodyOf Try.f202) (subs := su202) (E := en202) (by kernel_rfl) (by kernel_rfl) (by decide) ok202 (by kernel_rfl) (by kernel_rfl) (by decide)
    (fun X hX => (GoodN.good (K := True) (Eq.mpr (show GoodN Try.prog X 20 en202 su202 (bodyOf Try.f202) True = (True) by kernel_rfl) trivial)).1)
    (fun x r h => (f_cmp_Compare_stringEq x).trans h)
/-! cmp.isNaN[int] -/
def fl217 : List (Nat × Sig) := []
def en217 : Env := { n := 6, ty := assocN tyL, fns := assocN fl217, lo := 0 }
def su217 : Bool → Nat → Option Sub | _, _ => none
theorem ok217 : EnvOk Try.prog en217 := envOk_of rfl rfl tyL_ok (trivial)
theorem f_cmp_isNaN_intEq (x : Ps ins217) : evF en217 su217 Try.f217 ins217 res217 x = f_cmp_isNaN_int x := by kernel_rfl
theorem so217 : Sound Try.prog 217 sg217 :=
  sound_of (fn := Try.f217) (c := bodyOf Try.f217) (subs := su217) (E := en217) (by kernel_rfl) (by kernel_rfl) (by decide) ok217 (by kernel_rfl) (by kernel_rfl) (by decide)
    (fun X hX => (GoodN.good (K := True) (Eq.mpr (show GoodN Try.prog X 6 en217 su217 (bodyOf Try.f217) True = (True) by kernel_rfl) trivial)).1)
    (fun x r h => (f_cmp_isNaN_intEq x).trans h)
/-! cmp.Compare[int] -/
def fl174 : List (Nat × Sig) := [(217, sg217)]
def en174 : Env := { n := 20, ty := assocN tyL, fns := assocN fl174, lo := 0 }
def su174 : Bool → Nat → Option Sub | _, _ => none
theorem ok174 : EnvOk Try.prog en174 := envOk_of rfl rfl tyL_ok (⟨so217, trivial⟩)
theorem f_cmp_Compare_intEq (x : Ps ins174) : evF en174 su174 Try.f174 ins174 res174 x = f_cmp_Compare_int x := by kernel_rfl
theorem so174 : Sound Try.prog 174 sg174 :=
  sound_of (fn := Try.f174) (c := bodyOf Try.f174) (subs := su174) (E := en174) (by kernel_rfl) (by kernel_rfl) (by decide) ok174 (by kernel_rfl) (by kernel_rfl) (by decide)
    (fun X hX => (GoodN.good (K := True) (Eq.mpr (show GoodN Try.prog X 20 en174 su174 (bodyOf Try.f174) True = (True) by kernel_rfl) trivial)).1)
    (fun x r h => (f_cmp_Compare_intEq x).trans h)
/-! cmp.Or[int] -/
def fl173 : List (Nat × Sig) := []
def en173 : Env := { n := 18, ty := assocN tyL, fns := assocN fl173, lo := 0 }
def su173 : Bool → Nat → Option Sub | true, 3 => some ⟨f_cmp_Or_int_l3c, f_cmp_Or_int_l3v, f_cmp_Or_int_l3e, loopF f_cmp_Or_int_l3⟩ | _, _ => none
theorem ok173 : EnvOk Try.prog en173 := envOk_of rfl rfl tyL_ok (trivial)
theorem f_cmp_Or_int_l3Eq (R : Type) (c : Vars f_cmp_Or_int_l3c) (v : Vars f_cmp_Or_int_l3v) (kk : Vars f_cmp_Or_int_l3c → (Vars f_cmp_Or_int_l3v ⊕ Oc f_cmp_Or_int_l3e) → Option R) : evC en173 su173 (loopAt 3 Try.f173) (Desc.mk2 f_cmp_Or_int_l3v v (Desc.mk2 f_cmp_Or_int_l3c c .empty)) (fun o => bodyK f_cmp_Or_int_l3c f_cmp_Or_int_l3v f_cmp_Or_int_l3e o kk) = f_cmp_Or_int_l3 R c v kk := by kernel_rfl
theorem f_cmp_Or_int_l3Ok {X : Cx} (hX : en173.lo = X.lo) : SubOk Try.prog X 18 ⟨f_cmp_Or_int_l3c, f_cmp_Or_int_l3v, f_cmp_Or_int_l3e, loopF f_cmp_Or_int_l3⟩ (.loop (loopAt 3 Try.f173)) :=
  sub_loop (subs := su173) ok173 rfl hX (GoodN.good (K := True) (Eq.mpr (show GoodN Try.prog X 18 en173 su173 (loopAt 3 Try.f173) True = (True) by kernel_rfl) trivial)).1 (by decide) (by decide) f_cmp_Or_int_l3Eq
theorem f_cmp_Or_intEq (x : Ps ins173) : evF en173 su173 Try.f173 ins173 res173 x = f_cmp_Or_int x := by kernel_rfl
theorem so173 : Sound Try.prog 173 sg173 :=
  sound_of (fn := Try.f173) (c := bodyOf Try.f173) (subs := su173) (E := en173) (by kernel_rfl) (by kernel_rfl) (by decide) ok173 (by kernel_rfl) (by kernel_rfl) (by decide)
    (fun X hX => (GoodN.good (K := True) (Eq.mpr (show GoodN Try.prog X 18 en173 su173 (bodyOf Try.f173) True = (SubOk Try.prog X 18 ⟨f_cmp_Or_int_l3c, f_cmp_Or_int_l3v, f_cmp_Or_int_l3e, loopF f_cmp_Or_int_l3⟩ (.loop (loopAt 3 Try.f173)) ∧ True) by kernel_rfl) ⟨(f_cmp_Or_int_l3Ok hX), trivial⟩)).1)
    (fun x r h => (f_cmp_Or_intEq x).trans h)
/-! loop.example/g00224/impl.itemOrder -/
def fl192 : List (Nat × Sig) := [(173, sg173), (174, sg174), (202, sg202)]
def en192 : Env := { n := 17, ty := assocN tyL, fns := assocN fl192, lo := 0 }
def su192 : Bool → Nat → Option Sub | _, _ => none
theorem ok192 : EnvOk Try.prog en192 := envOk_of rfl rfl tyL_ok (⟨so173, ⟨so174, ⟨so202, trivial⟩⟩⟩)
theorem dr192r1 {X : Cx} (hX : en192.lo = X.lo) : RegOk Try.prog X 17 en192 1 (regAt 1 Try.f192) := regOk_of ok192 rfl hX (by kernel_rfl) (by kernel_rfl)
theorem f_impl_itemOrderEq (x : Ps ins192) : evF en192 su192 Try.f192 ins192 res192 x = f_impl_itemOrder x := by kernel_rfl
theorem so192 : Sound Try.prog 192 sg192 :=
  sound_of (fn := Try.f192) (c := bodyOf Try.f192) (subs := su192) (E := en192) (by kernel_rfl) (by kernel_rfl) (by decide) ok192 (by kernel_rfl) (by kernel_rfl) (by decide)
    (fun X hX => (GoodN.good (K := True) (Eq.mpr (show GoodN Try.prog X 17 en192 su192 (bodyOf Try.f192) True = (RegOk Try.prog X 17 en192 1 (regAt 1 Try.f192) ∧ True) by kernel_rfl) ⟨(dr192r1 hX), trivial⟩)).1)
    (fun x r h => (f_impl_itemOrderEq x).trans h)
/-! loop.example/g00224/impl.GoodRun -/
def fl182 : List (Nat × Sig) := [(192, sg192), (227, sg227)]
def en182 : Env := { n := 30, ty := assocN tyL, fns := assocN fl182, lo := 0 }
def su182 : Bool → Nat → Option Sub | true, 2 => some ⟨f_impl_GoodRun_l2c, f_impl_GoodRun_l2v, f_impl_GoodRun_l2e, loopF f_impl_GoodRun_l2⟩ | _, _ => none
theorem ok182 : EnvOk Try.prog en182 := envOk_of rfl rfl tyL_ok (⟨so192, ⟨so227, trivial⟩⟩)
theorem dr182r4 {X : Cx} (hX : en182.lo = X.lo) : RegOk Try.prog X 30 en182 4 (regAt 4 Try.f182) := regOk_of ok182 rfl hX (by kernel_rfl) (by kernel_rfl)
theorem f_impl_GoodRun_l2Eq (R : Type) (c : Vars f_impl_GoodRun_l2c) (v : Vars f_impl_GoodRun_l2v) (kk : Vars f_impl_GoodRun_l2c → (Vars f_impl_GoodRun_l2v ⊕ Oc f_impl_GoodRun_l2e) → Option R) : evC en182 su182 (loopAt 2 Try.f182) (Desc.mk2 f_impl_GoodRun_l2v v (Desc.mk2 f_impl_GoodRun_l2c c .empty)) (fun o => bodyK f_impl_GoodRun_l2c f_impl_GoodRun_l2v f_impl_GoodRun_l2e o kk) = f_impl_GoodRun_l2 R c v kk := by kernel_rfl
theorem f_impl_GoodRun_l2Ok {X : Cx} (hX : en182.lo = X.lo) : SubOk Try.prog X 30 ⟨f_impl_GoodRun_l2c, f_impl_GoodRun_l2v, f_impl_GoodRun_l2e, loopF f_impl_GoodRun_l2⟩ (.loop (loopAt 2 Try.f182)) :=
  sub_loop (subs := su182) ok182 rfl hX (GoodN.good (K := True) (Eq.mpr (show GoodN Try.prog X 30 en182 su182 (loopAt 2 Try.f182) True = (RegOk Try.prog X 30 en182 4 (regAt 4 Try.f182) ∧ True) by kernel_rfl) ⟨(dr182r4 hX), trivial⟩)).1 (by decide) (by decide) f_impl_GoodRun_l2Eq
theorem f_impl_GoodRunEq (x : Ps ins182) : evF en182 su182 Try.f182 ins182 res182 x = f_impl_GoodRun x := by kernel_rfl
theorem so182 : Sound Try.prog 182 sg182 :=
  sound_of (fn := Try.f182) (c := bodyOf Try.f182) (subs := su182) (E := en182) (by kernel_rfl) (by kernel_rfl) (by decide) ok182 (by kernel_rfl) (by kernel_rfl) (by decide)
    (fun X hX => (GoodN.good (K := True) (Eq.mpr (show GoodN Try.prog X 30 en182 su182 (bodyOf Try.f182) True = (SubOk Try.prog X 30 ⟨f_impl_GoodRun_l2c, f_impl_GoodRun_l2v, f_impl_GoodRun_l2e, loopF f_impl_GoodRun_l2⟩ (.loop (loopAt 2 Try.f182)) ∧ True) by kernel_rfl) ⟨(f_impl_GoodRun_l2Ok hX), trivial⟩)).1)
    (fun x r h => (f_impl_GoodRunEq x).trans h)
/-! loop.example/g00224/impl.CommonOf -/
def fl244 : List (Nat × Sig) := []
def en244 : Env := { n := 25, ty := assocN tyL, fns := assocN fl244, lo := 0 }
def su244 : Bool → Nat → Option Sub | true, 2 => some ⟨f_impl_CommonOf_l2c, f_impl_CommonOf_l2v, f_impl_CommonOf_l2e, loopF f_impl_CommonOf_l2⟩ | _, _ => none
theorem ok244 : EnvOk Try.prog en244 := envOk_of rfl rfl tyL_ok (trivial)
theorem dr244r2 {X : Cx} (hX : en244.lo = X.lo) : RegOk Try.prog X 25 en244 2 (regAt 2 Try.f244) := regOk_of ok244 rfl hX (by kernel_rfl) (by kernel_rfl)
theorem f_impl_CommonOf_l2Eq (R : Type) (c : Vars f_impl_CommonOf_l2c) (v : Vars f_impl_CommonOf_l2v) (kk : Vars f_impl_CommonOf_l2c → (Vars f_impl_CommonOf_l2v ⊕ Oc f_impl_CommonOf_l2e) → Option R) : evC en244 su244 (loopAt 2 Try.f244) (Desc.mk2 f_impl_CommonOf_l2v v (Desc.mk2 f_impl_CommonOf_l2c c .empty)) (fun o => bodyK f_impl_CommonOf_l2c f_impl_CommonOf_l2v f_impl_CommonOf_l2e o kk) = f_impl_CommonOf_l2 R c v kk := by kernel_rfl
theorem f_impl_CommonOf_l2Ok {X : Cx} (hX : en244.lo = X.lo) : SubOk Try.prog X 25 ⟨f_impl_CommonOf_l2c, f_impl_CommonOf_l2v, f_impl_CommonOf_l2e, loopF f_impl_CommonOf_l2⟩ (.loop (loopAt 2 Try.f244)) :=
  sub_loop (subs := su244) ok244 rfl hX (GoodN.good (K := True) (Eq.mpr (show GoodN Try.prog X 25 en244 su244 (loopAt 2 Try.f244) True = (RegOk Try.prog X 25 en244 2 (regAt 2 Try.f244) ∧ True) by kernel_rfl) ⟨(dr244r2 hX), trivial⟩)).1 (by decide) (by decide) f_impl_CommonOf_l2Eq
theorem f_impl_CommonOfEq (x : Ps ins244) : evF en244 su244 Try.f244 ins244 res244 x = f_impl_CommonOf x := by kernel_rfl
theorem so244 : Sound Try.prog 244 sg244 :=
  sound_of (fn := Try.f244) (c := bodyOf Try.f244) (subs := su244) (E := en244) (by kernel_rfl) (by kernel_rfl) (by decide) ok244 (by kernel_rfl) (by kernel_rfl) (by decide)
    (fun X hX => (GoodN.good (K := True) (Eq.mpr (show GoodN Try.prog X 25 en244 su244 (bodyOf Try.f244) True = (SubOk Try.prog X 25 ⟨f_impl_CommonOf_l2c, f_impl_CommonOf_l2v, f_impl_CommonOf_l2e, loopF f_impl_CommonOf_l2⟩ (.loop (loopAt 2 Try.f244)) ∧ True) by kernel_rfl) ⟨(f_impl_CommonOf_l2Ok hX), trivial⟩)).1)
    (fun x r h => (f_impl_CommonOfEq x).trans h)
/-! loop.example/g00224/impl.varBytes -/
def fl82 : List (Nat × Sig) := []
def hi82 : List (Nat × (K × Mk)) := [(3, ((.sl (.int .u8)), (.o .s)))]
def en82 : Env := { n := 22, ty := assocN tyL, fns := assocN fl82, lo := 0, hint := assocN hi82 }
def su82 : Bool → Nat → Option Sub | true, 2 => some ⟨f_impl_varBytes_l2c, f_impl_varBytes_l2v, f_impl_varBytes_l2e, loopF f_impl_varBytes_l2⟩ | _, _ => none
theorem ok82 : EnvOk Try.prog en82 := envOk_of rfl rfl tyL_ok (trivial)
theorem f_impl_varBytes_l2Eq (R : Type) (c : Vars f_impl_varBytes_l2c) (v : Vars f_impl_varBytes_l2v) (kk : Vars f_impl_varBytes_l2c → (Vars f_impl_varBytes_l2v ⊕ Oc f_impl_varBytes_l2e) → Option R) : evC en82 su82 (loopAt 2 Try.f82) (Desc.mk2 f_impl_varBytes_l2v v (Desc.mk2 f_impl_varBytes_l2c c .empty)) (fun o => bodyK f_impl_varBytes_l2c f_impl_varBytes_l2v f_impl_varBytes_l2e o kk) = f_impl_varBytes_l2 R c v kk := by kernel_rfl
theorem f_impl_varBytes_l2Ok {X : Cx} (hX : en82.lo = X.lo) : SubOk Try.prog X 22 ⟨f_impl_varBytes_l2c, f_impl_varBytes_l2v, f_impl_varBytes_l2e, loopF f_impl_varBytes_l2⟩ (.loop (loopAt 2 Try.f82)) :=
  sub_loop (subs := su82) ok82 rfl hX (GoodN.good (K := True) (Eq.mpr (show GoodN Try.prog X 22 en82 su82 (loopAt 2 Try.f82) True = (True) by kernel_rfl) trivial)).1 (by decide) (by decide) f_impl_varBytes_l2Eq
theorem f_impl_varBytesEq (x : Ps ins82) : evF en82 su82 Try.f82 ins82 res82 x = f_impl_varBytes x := by kernel_rfl
theorem so82 : Sound Try.prog 82 sg82 :=
  sound_of (fn := Try.f82) (c := bodyOf Try.f82) (subs := su82) (E := en82) (by kernel_rfl) (by kernel_rfl) (by decide) ok82 (by kernel_rfl) (by kernel_rfl) (by decide)
    (fun X hX => (GoodN.good (K := True) (Eq.mpr (show GoodN Try.prog X 22 en82 su82 (bodyOf Try.f82) True = (SubOk Try.prog X 22 ⟨f_impl_varBytes_l2c, f_impl_varBytes_l2v, f_impl_varBytes_l2e, loopF f_impl_varBytes_l2⟩ (.loop (loopAt 2 Try.f82)) ∧ True) by kernel_rfl) ⟨(f_impl_varBytes_l2Ok hX), trivial⟩)).1)
    (fun x r h => (f_impl_varBytesEq x).trans h)
/-! loop.example/g00224/impl.block -/
def fl228 : List (Nat × Sig) := [(82, sg82), (125, sg125), (225, sg225), (244, sg244)]
def hi228 : List (Nat × (K × Mk)) := [(3, ((.sl (.int .i64)), (.o .s))), (5, ((.sl (.int .i64)), (.o .s)))]
def en228 : Env := { n := 91, ty := assocN tyL, fns := assocN fl228, lo := 0, hint := assocN hi228 }
def su228 : Bool → Nat → Option Sub | false, 7 => some ⟨f_impl_block_i7c, f_impl_block_i7v, f_impl_block_i7e, f_impl_block_i7⟩ | true, 3 => some ⟨f_impl_block_l3c, f_impl_block_l3v, f_impl_block_l3e, loopF f_impl_block_l3⟩ | true, 12 => some ⟨f_impl_block_l12c, f_impl_block_l12v, f_impl_block_l12e, loopF f_impl_block_l12⟩ | _, _ => none
theorem ok228 : EnvOk Try.prog en228 := envOk_of rfl rfl tyL_ok (⟨so82, ⟨so125, ⟨so225, ⟨so244, trivial⟩⟩⟩⟩)
theorem dr228r8 {X : Cx} (hX : en228.lo = X.lo) : RegOk Try.prog X 91 en228 8 (regAt 8 Try.f228) := regOk_of ok228 rfl hX (by kernel_rfl) (by kernel_rfl)
def su228i7 : Bool → Nat → Option Sub | true, 3 => some ⟨f_impl_block_l3c, f_impl_block_l3v, f_impl_block_l3e, loopF f_impl_block_l3⟩ | true, 12 => some ⟨f_impl_block_l12c, f_impl_block_l12v, f_impl_block_l12e, loopF f_impl_block_l12⟩ | _, _ => none
theorem f_impl_block_i7Eq (R : Type) (c : Vars f_impl_block_i7c) (v : Vars f_impl_block_i7v) (kk : Vars f_impl_block_i7c → Oc f_impl_block_i7e → Option R) : evC en228 su228i7 (ifAt 7 Try.f228) (Desc.mk2 f_impl_block_i7v v (Desc.mk2 f_impl_block_i7c c .empty)) (fun o => chk f_impl_block_i7c f_impl_block_i7e o kk) = f_impl_block_i7 R c v kk := by kernel_rfl
theorem f_impl_block_i7Ok {X : Cx} (hX : en228.lo = X.lo) : SubOk Try.prog X 91 ⟨f_impl_block_i7c, f_impl_block_i7v, f_impl_block_i7e, f_impl_block_i7⟩ (ifAt 7 Try.f228) :=
  sub_if (u := ⟨f_impl_block_i7c, f_impl_block_i7v, f_impl_block_i7e, f_impl_block_i7⟩) (subs := su228i7) ok228 rfl hX (GoodN.good (K := True) (Eq.mpr (show GoodN Try.prog X 91 en228 su228i7 (ifAt 7 Try.f228) True = (True) by kernel_rfl) trivial)).1 (by decide) (by decide) f_impl_block_i7Eq
theorem f_impl_block_l3Eq (R : Type) (c : Vars f_impl_block_l3c) (v : Vars f_impl_block_l3v) (kk : Vars f_impl_block_l3c → (Vars f_impl_block_l3v ⊕ Oc f_impl_block_l3e) → Option R) : evC en228 su228 (loopAt 3 Try.f228) (Desc.mk2 f_impl_block_l3v v (Desc.mk2 f_impl_block_l3c c .empty)) (fun o => bodyK f_impl_block_l3c f_impl_block_l3v f_impl_block_l3e o kk) = f_impl_block_l3 R c v kk := by kernel_rfl
theorem f_impl_block_l3Ok {X : Cx} (hX : en228.lo = X.lo) : SubOk Try.prog X 91 ⟨f_impl_block_l3c, f_impl_block_l3v, f_impl_block_l3e, loopF f_impl_block_l3⟩ (.loop (loopAt 3 Try.f228)) :=
  sub_loop (subs := su228) ok228 rfl hX (GoodN.good (K := True) (Eq.mpr (show GoodN Try.prog X 91 en228 su228 (loopAt 3 Try.f228) True = (SubOk Try.prog X 91 ⟨f_impl_block_i7c, f_impl_block_i7v, f_impl_block_i7e, f_impl_block_i7⟩ (ifAt 7 Try.f228) ∧ RegOk Try.prog X 91 en228 8 (regAt 8 Try.f228) ∧ True) by kernel_rfl) ⟨(f_impl_block_i7Ok hX), (dr228r8 hX), trivial⟩)).1 (by decide) (by decide) f_impl_block_l3Eq
theorem f_impl_block_l12Eq (R : Type) (c : Vars f_impl_block_l12c) (v : Vars f_impl_block_l12v) (kk : Vars f_impl_block_l12c → (Vars f_impl_block_l12v ⊕ Oc f_impl_block_l12e) → Option R) : evC en228 su228 (loopAt 12 Try.f228) (Desc.mk2 f_impl_block_l12v v (Desc.mk2 f_impl_block_l12c c .empty)) (fun o => bodyK f_impl_block_l12c f_impl_block_l12v f_impl_block_l12e o kk) = f_impl_block_l12 R c v kk := by kernel_rfl
theorem f_impl_block_l12Ok {X : Cx} (hX : en228.lo = X.lo) : SubOk Try.prog X 91 ⟨f_impl_block_l12c, f_impl_block_l12v, f_impl_block_l12e, loopF f_impl_block_l12⟩ (.loop (loopAt 12 Try.f228)) :=
  sub_loop (subs := su228) ok228 rfl hX (GoodN.good (K := True) (Eq.mpr (show GoodN Try.prog X 91 en228 su228 (loopAt 12 Try.f228) True = (True) by kernel_rfl) trivial)).1 (by decide) (by decide) f_impl_block_l12Eq
theorem f_impl_blockEq (x : Ps ins228) : evF en228 su228 Try.f228 ins228 res228 x = f_impl_block x := by kernel_rfl
theorem so228 : Sound Try.prog 228 sg228 :=
  sound_of (fn := Try.f228) (c := bodyOf Try.f228) (subs := su228) (E := en228) (by kernel_rfl) (by kernel_rfl) (by decide) ok228 (by kernel_rfl) (by kernel_rfl) (by decide)
    (fun X hX => (GoodN.good (K := True) (Eq.mpr (show GoodN Try.prog X 91 en228 su228 (bodyOf Try.f228) True = (SubOk Try.prog X 91 ⟨f_impl_block_l3c, f_impl_block_l3v, f_impl_block_l3e, loopF f_impl_block_l3⟩ (.loop (loopAt 3 Try.f228)) ∧ SubOk Try.prog X 91 ⟨f_impl_block_l12c, f_impl_block_l12v, f_impl_block_l12e, loopF f_impl_block_l12⟩ (.loop (loopAt 12 Try.f228)) ∧ True) by kernel_rfl) ⟨(f_impl_block_l3Ok hX), (f_impl_block_l12Ok hX), trivial⟩)).1)
    (fun x r h => (f_impl_blockEq x).trans h)
/-! loop.example/g00224/impl.readBlock -/
def fl243 : List (Nat × Sig) := [(179, sg179), (182, sg182), (228, sg228), (250, sg250)]
def hi243 : List (Nat × (K × Mk)) := [(2, ((.sl kdItem), (.o .s))), (3, ((.sl (.int .i64)), (.o .s))), (7, ((.sl kdItem), (.o .s))), (10, ((.sl (.int .i64)), (.o .s)))]
def en243 : Env := { n := 59, ty := assocN tyL, fns := assocN fl243, lo := 0, hint := assocN hi243 }
def su243 : Bool → Nat → Option Sub | _, _ => none
theorem ok243 : EnvOk Try.prog en243 := envOk_of rfl rfl tyL_ok (⟨so179, ⟨so182, ⟨so228, ⟨so250, trivial⟩⟩⟩⟩)
theorem f_impl_readBlockEq (x : Ps ins243) : evF en243 su243 Try.f243 ins243 res243 x = f_impl_readBlock x := by kernel_rfl
theorem so243 : Sound Try.prog 243 sg243 :=
  sound_of (fn := Try.f243) (c := bodyOf Try.f243) (subs := su243) (E := en243) (by kernel_rfl) (by kernel_rfl) (by decide) ok243 (by kernel_rfl) (by kernel_rfl) (by decide)
    (fun X hX => (GoodN.good (K := True) (Eq.mpr (show GoodN Try.prog X 59 en243 su243 (bodyOf Try.f243) True = (True) by kernel_rfl) trivial)).1)
    (fun x r h => (f_impl_readBlockEq x).trans h)
/-! loop.example/g00224/impl.ReadBlock -/
def fl226 : List (Nat × Sig) := [(243, sg243)]
def hi226 : List (Nat × (K × Mk)) := [(2, ((.sl kdItem), (.o .s))), (4, ((.sl kdItem), (.o .s))), (5, ((.sl (.int .i64)), (.o .s)))]
def en226 : Env := { n := 16, ty := assocN tyL, fns := assocN fl226, lo := 0, hint := assocN hi226 }
def su226 : Bool → Nat → Option Sub | _, _ => none
theorem ok226 : EnvOk Try.prog en226 := envOk_of rfl rfl tyL_ok (⟨so243, trivial⟩)
theorem f_impl_ReadBlockEq (x : Ps ins226) : evF en226 su226 Try.f226 ins226 res226 x = f_impl_ReadBlock x := by kernel_rfl
theorem so226 : Sound Try.prog 226 sg226 :=
  sound_of (fn := Try.f226) (c := bodyOf Try.f226) (subs := su226) (E := en226) (by kernel_rfl) (by kernel_rfl) (by decide) ok226 (by kernel_rfl) (by kernel_rfl) (by decide)
    (fun X hX => (GoodN.good (K := True) (Eq.mpr (show GoodN Try.prog X 16 en226 su226 (bodyOf Try.f226) True = (True) by kernel_rfl) trivial)).1)
    (fun x r h => (f_impl_ReadBlockEq x).trans h)
/-! loop.example/g00224/impl.tableItems -/
def fl181 : List (Nat × Sig) := [(86, sg86), (88, sg88), (89, sg89), (226, sg226)]
def hi181 : List (Nat × (K × Mk)) := [(6, ((.sl kdItem), (.o .s))), (9, ((.sl kdItem), (.o .s))), (13, ((.sl kdItem), (.o .s)))]
def en181 : Env := { n := 81, ty := assocN tyL, fns := assocN fl181, lo := 0, hint := assocN hi181 }
def su181 : Bool → Nat → Option Sub | true, 2 => some ⟨f_impl_tableItems_l2c, f_impl_tableItems_l2v, f_impl_tableItems_l2e, loopF f_impl_tableItems_l2⟩ | _, _ => none
theorem ok181 : EnvOk Try.prog en181 := envOk_of rfl rfl tyL_ok (⟨so86, ⟨so88, ⟨so89, ⟨so226, trivial⟩⟩⟩⟩)
theorem f_impl_tableItems_l2Eq (R : Type) (c : Vars f_impl_tableItems_l2c) (v : Vars f_impl_tableItems_l2v) (kk : Vars f_impl_tableItems_l2c → (Vars f_impl_tableItems_l2v ⊕ Oc f_impl_tableItems_l2e) → Option R) : evC en181 su181 (loopAt 2 Try.f181) (Desc.mk2 f_impl_tableItems_l2v v (Desc.mk2 f_impl_tableItems_l2c c .empty)) (fun o => bodyK f_impl_tableItems_l2c f_impl_tableItems_l2v f_impl_tableItems_l2e o kk) = f_impl_tableItems_l2 R c v kk := by kernel_rfl
theorem f_impl_tableItems_l2Ok {X : Cx} (hX : en181.lo = X.lo) : SubOk Try.prog X 81 ⟨f_impl_tableItems_l2c, f_impl_tableItems_l2v, f_impl_tableItems_l2e, loopF f_impl_tableItems_l2⟩ (.loop (loopAt 2 Try.f181)) :=
  sub_loop (subs := su181) ok181 rfl hX (GoodN.good (K := True) (Eq.mpr (show GoodN Try.prog X 81 en181 su181 (loopAt 2 Try.f181) True = (True) by kernel_rfl) trivial)).1 (by decide) (by decide) f_impl_tableItems_l2Eq
theorem f_impl_tableItemsEq (x : Ps ins181) : evF en181 su181 Try.f181 ins181 res181 x = f_impl_tableItems x := by kernel_rfl
theorem so181 : Sound Try.prog 181 sg181 :=
  sound_of (fn := Try.f181) (c := bodyOf Try.f181) (subs := su181) (E := en181) (by kernel_rfl) (by kernel_rfl) (by decide) ok181 (by kernel_rfl) (by kernel_rfl) (by decide)
    (fun X hX => (GoodN.good (K := True) (Eq.mpr (show GoodN Try.prog X 81 en181 su181 (bodyOf Try.f181) True = (SubOk Try.prog X 81 ⟨f_impl_tableItems_l2c, f_impl_tableItems_l2v, f_impl_tableItems_l2e, loopF f_impl_tableItems_l2⟩ (.loop (loopAt 2 Try.f181)) ∧ True) by kernel_rfl) ⟨(f_impl_tableItems_l2Ok hX), trivial⟩)).1)
    (fun x r h => (f_impl_tableItemsEq x).trans h)
/-! loop.example/g00224/impl.sized -/
def fl83 : List (Nat × Sig) := [(82, sg82)]
def en83 : Env := { n := 8, ty := assocN tyL, fns := assocN fl83, lo := 0 }
def su83 : Bool → Nat → Option Sub | _, _ => none
theorem ok83 : EnvOk Try.prog en83 := envOk_of rfl rfl tyL_ok (⟨so82, trivial⟩)
theorem f_impl_sizedEq (x : Ps ins83) : evF en83 su83 Try.f83 ins83 res83 x = f_impl_sized x := by kernel_rfl
theorem so83 : Sound Try.prog 83 sg83 :=
  sound_of (fn := Try.f83) (c := bodyOf Try.f83) (subs := su83) (E := en83) (by kernel_rfl) (by kernel_rfl) (by decide) ok83 (by kernel_rfl) (by kernel_rfl) (by decide)
    (fun X hX => (GoodN.good (K := True) (Eq.mpr (show GoodN Try.prog X 8 en83 su83 (bodyOf Try.f83) True = (True) by kernel_rfl) trivial)).1)
    (fun x r h => (f_impl_sizedEq x).trans h)
/-! loop.example/g00224/impl.tableKeys -/
def fl230 : List (Nat × Sig) := []
def hi230 : List (Nat × (K × Mk)) := [(2, ((.sl .str), (.o .s))), (3, ((.sl .str), (.o .s)))]
def en230 : Env := { n := 34, ty := assocN tyL, fns := assocN fl230, lo := 0, hint := assocN hi230 }
def su230 : Bool → Nat → Option Sub | false, 6 => some ⟨f_impl_tableKeys_i6c, f_impl_tableKeys_i6v, f_impl_tableKeys_i6e, f_impl_tableKeys_i6⟩ | true, 3 => some ⟨f_impl_tableKeys_l3c, f_impl_tableKeys_l3v, f_impl_tableKeys_l3e, loopF f_impl_tableKeys_l3⟩ | _, _ => none
theorem ok230 : EnvOk Try.prog en230 := envOk_of rfl rfl tyL_ok (trivial)
theorem dr230r5 {X : Cx} (hX : en230.lo = X.lo) : RegOk Try.prog X 34 en230 5 (regAt 5 Try.f230) := regOk_of ok230 rfl hX (by kernel_rfl) (by kernel_rfl)
def su230i6 : Bool → Nat → Option Sub | true, 3 => some ⟨f_impl_tableKeys_l3c, f_impl_tableKeys_l3v, f_impl_tableKeys_l3e, loopF f_impl_tableKeys_l3⟩ | _, _ => none
theorem f_impl_tableKeys_i6Eq (R : Type) (c : Vars f_impl_tableKeys_i6c) (v : Vars f_impl_tableKeys_i6v) (kk : Vars f_impl_tableKeys_i6c → Oc f_impl_tableKeys_i6e → Option R) : evC en230 su230i6 (ifAt 6 Try.f230) (Desc.mk2 f_impl_tableKeys_i6v v (Desc.mk2 f_impl_tableKeys_i6c c .empty)) (fun o => chk f_impl_tableKeys_i6c f_impl_tableKeys_i6e o kk) = f_impl_tableKeys_i6 R c v kk := by kernel_rfl
theorem f_impl_tableKeys_i6Ok {X : Cx} (hX : en230.lo = X.lo) : SubOk Try.prog X 34 ⟨f_impl_tableKeys_i6c, f_impl_tableKeys_i6v, f_impl_tableKeys_i6e, f_impl_tableKeys_i6⟩ (ifAt 6 Try.f230) :=
  sub_if (u := ⟨f_impl_tableKeys_i6c, f_impl_tableKeys_i6v, f_impl_tableKeys_i6e, f_impl_tableKeys_i6⟩) (subs := su230i6) ok230 rfl hX (GoodN.good (K := True) (Eq.mpr (show GoodN Try.prog X 34 en230 su230i6 (ifAt 6 Try.f230) True = (True) by kernel_rfl) trivial)).1 (by decide) (by decide) f_impl_tableKeys_i6Eq
theorem f_impl_tableKeys_l3Eq (R : Type) (c : Vars f_impl_tableKeys_l3c) (v : Vars f_impl_tableKeys_l3v) (kk : Vars f_impl_tableKeys_l3c → (Vars f_impl_tableKeys_l3v ⊕ Oc f_impl_tableKeys_l3e) → Option R) : evC en230 su230 (loopAt 3 Try.f230) (Desc.mk2 f_impl_tableKeys_l3v v (Desc.mk2 f_impl_tableKeys_l3c c .empty)) (fun o => bodyK f_impl_tableKeys_l3c f_impl_tableKeys_l3v f_impl_tableKeys_l3e o kk) = f_impl_tableKeys_l3 R c v kk := by kernel_rfl
theorem f_impl_tableKeys_l3Ok {X : Cx} (hX : en230.lo = X.lo) : SubOk Try.prog X 34 ⟨f_impl_tableKeys_l3c, f_impl_tableKeys_l3v, f_impl_tableKeys_l3e, loopF f_impl_tableKeys_l3⟩ (.loop (loopAt 3 Try.f230)) :=
  sub_loop (subs := su230) ok230 rfl hX (GoodN.good (K := True) (Eq.mpr (show GoodN Try.prog X 34 en230 su230 (loopAt 3 Try.f230) True = (RegOk Try.prog X 34 en230 5 (regAt 5 Try.f230) ∧ SubOk Try.prog X 34 ⟨f_impl_tableKeys_i6c, f_impl_tableKeys_i6v, f_impl_tableKeys_i6e, f_impl_tableKeys_i6⟩ (ifAt 6 Try.f230) ∧ True) by kernel_rfl) ⟨(dr230r5 hX), (f_impl_tableKeys_i6Ok hX), trivial⟩)).1 (by decide) (by decide) f_impl_tableKeys_l3Eq
theorem f_impl_tableKeysEq (x : Ps ins230) : evF en230 su230 Try.f230 ins230 res230 x = f_impl_tableKeys x := by kernel_rfl
theorem so230 : Sound Try.prog 230 sg230 :=
  sound_of (fn := Try.f230) (c := bodyOf Try.f230) (subs := su230) (E := en230) (by kernel_rfl) (by kernel_rfl) (by decide) ok230 (by kernel_rfl) (by kernel_rfl) (by decide)
    (fun X hX => (GoodN.good (K := True) (Eq.mpr (show GoodN Try.prog X 34 en230 su230 (bodyOf Try.f230) True = (SubOk Try.prog X 34 ⟨f_impl_tableKeys_l3c, f_impl_tableKeys_l3v, f_impl_tableKeys_l3e, loopF f_impl_tableKeys_l3⟩ (.loop (loopAt 3 Try.f230)) ∧ True) by kernel_rfl) ⟨(f_impl_tableKeys_l3Ok hX), trivial⟩)).1)
    (fun x r h => (f_impl_tableKeysEq x).trans h)
/-! loop.example/g00224/impl.hashesOk -/
def fl233 : List (Nat × Sig) := [(104, sg104)]
def en233 : Env := { n := 5, ty := assocN tyL, fns := assocN fl233, lo := 0 }
def su233 : Bool → Nat → Option Sub | _, _ => none
theorem ok233 : EnvOk Try.prog en233 := envOk_of rfl rfl tyL_ok (⟨so104, trivial⟩)
theorem f_impl_hashesOkEq (x : Ps ins233) : evF en233 su233 Try.f233 ins233 res233 x = f_impl_hashesOk x := by kernel_rfl
theorem so233 : Sound Try.prog 233 sg233 :=
  sound_of (fn := Try.f233) (c := bodyOf Try.f233) (subs := su233) (E := en233) (by kernel_rfl) (by kernel_rfl) (by decide) ok233 (by kernel_rfl) (by kernel_rfl) (by decide)
    (fun X hX => (GoodN.good (K := True) (Eq.mpr (show GoodN Try.prog X 5 en233 su233 (bodyOf Try.f233) True = (True) by kernel_rfl) trivial)).1)
    (fun x r h => (f_impl_hashesOkEq x).trans h)
/-! loop.example/g00224/impl.NewFilter -/
def fl245 : List (Nat × Sig) := [(233, sg233), (251, sgf_strings_Repeat)]
def en245 : Env := { n := 11, ty := assocN tyL, fns := assocN fl245, lo := 0 }
def su245 : Bool → Nat → Option Sub | _, _ => none
theorem ok245 : EnvOk Try.prog en245 := envOk_of rfl rfl tyL_ok (⟨so233, ⟨soRepeat, trivial⟩⟩)
theorem f_impl_NewFilterEq (x : Ps ins245) : evF en245 su245 Try.f245 ins245 res245 x = f_impl_NewFilter x := by kernel_rfl
theorem so245 : Sound Try.prog 245 sg245 :=
  sound_of (fn := Try.f245) (c := bodyOf Try.f245) (subs := su245) (E := en245) (by kernel_rfl) (by kernel_rfl) (by decide) ok245 (by kernel_rfl) (by kernel_rfl) (by decide)
    (fun X hX => (GoodN.good (K := True) (Eq.mpr (show GoodN Try.prog X 11 en245 su245 (bodyOf Try.f245) True = (True) by kernel_rfl) trivial)).1)
    (fun x r h => (f_impl_NewFilterEq x).trans h)
/-! loop.example/g00224/impl.GoodFilter -/
def fl193 : List (Nat × Sig) := [(104, sg104), (233, sg233)]
def en193 : Env := { n := 17, ty := assocN tyL, fns := assocN fl193, lo := 0 }
def su193 : Bool → Nat → Option Sub | _, _ => none
theorem ok193 : EnvOk Try.prog en193 := envOk_of rfl rfl tyL_ok (⟨so104, ⟨so233, trivial⟩⟩)
theorem f_impl_GoodFilterEq (x : Ps ins193) : evF en193 su193 Try.f193 ins193 res193 x = f_impl_GoodFilter x := by kernel_rfl
theorem so193 : Sound Try.prog 193 sg193 :=
  sound_of (fn := Try.f193) (c := bodyOf Try.f193) (subs := su193) (E := en193) (by kernel_rfl) (by kernel_rfl) (by decide) ok193 (by kernel_rfl) (by kernel_rfl) (by decide)
    (fun X hX => (GoodN.good (K := True) (Eq.mpr (show GoodN Try.prog X 17 en193 su193 (bodyOf Try.f193) True = (True) by kernel_rfl) trivial)).1)
    (fun x r h => (f_impl_GoodFilterEq x).trans h)
/-! loop.example/g00224/impl.places -/
def fl195 : List (Nat × Sig) := [(125, sg125), (175, sg175)]
def hi195 : List (Nat × (K × Mk)) := [(4, ((.sl (.int .i64)), (.o .s))), (7, ((.sl (.int .i64)), (.o .s)))]
def en195 : Env := { n := 28, ty := assocN tyL, fns := assocN fl195, lo := 0, hint := assocN hi195 }
def su195 : Bool → Nat → Option Sub | true, 3 => some ⟨f_impl_places_l3c, f_impl_places_l3v, f_impl_places_l3e, loopF f_impl_places_l3⟩ | _, _ => none
theorem ok195 : EnvOk Try.prog en195 := envOk_of rfl rfl tyL_ok (⟨so125, ⟨so175, trivial⟩⟩)
theorem f_impl_places_l3Eq (R : Type) (c : Vars f_impl_places_l3c) (v : Vars f_impl_places_l3v) (kk : Vars f_impl_places_l3c → (Vars f_impl_places_l3v ⊕ Oc f_impl_places_l3e) → Option R) : evC en195 su195 (loopAt 3 Try.f195) (Desc.mk2 f_impl_places_l3v v (Desc.mk2 f_impl_places_l3c c .empty)) (fun o => bodyK f_impl_places_l3c f_impl_places_l3v f_impl_places_l3e o kk) = f_impl_places_l3 R c v kk := by kernel_rfl
theorem f_impl_places_l3Ok {X : Cx} (hX : en195.lo = X.lo) : SubOk Try.prog X 28 ⟨f_impl_places_l3c, f_impl_places_l3v, f_impl_places_l3e, loopF f_impl_places_l3⟩ (.loop (loopAt 3 Try.f195)) :=
  sub_loop (subs := su195) ok195 rfl hX (GoodN.good (K := True) (Eq.mpr (show GoodN Try.prog X 28 en195 su195 (loopAt 3 Try.f195) True = (True) by kernel_rfl) trivial)).1 (by decide) (by decide) f_impl_places_l3Eq
theorem f_impl_placesEq (x : Ps ins195) : evF en195 su195 Try.f195 ins195 res195 x = f_impl_places x := by kernel_rfl
theorem so195 : Sound Try.prog 195 sg195 :=
  sound_of (fn := Try.f195) (c := bodyOf Try.f195) (subs := su195) (E := en195) (by kernel_rfl) (by kernel_rfl) (by decide) ok195 (by kernel_rfl) (by kernel_rfl) (by decide)
    (fun X hX => (GoodN.good (K := True) (Eq.mpr (show GoodN Try.prog X 28 en195 su195 (bodyOf Try.f195) True = (SubOk Try.prog X 28 ⟨f_impl_places_l3c, f_impl_places_l3v, f_impl_places_l3e, loopF f_impl_places_l3⟩ (.loop (loopAt 3 Try.f195)) ∧ True) by kernel_rfl) ⟨(f_impl_places_l3Ok hX), trivial⟩)).1)
    (fun x r h => (f_impl_placesEq x).trans h)
/-! loop.example/g00224/impl.AddKey -/
def fl246 : List (Nat × Sig) := [(137, sg137), (193, sg193), (195, sg195)]
def hi246 : List (Nat × (K × Mk)) := [(6, ((.sl (.int .u8)), (.o .s)))]
def en246 : Env := { n := 50, ty := assocN tyL, fns := assocN fl246, lo := 0, hint := assocN hi246 }
def su246 : Bool → Nat → Option Sub | true, 5 => some ⟨f_impl_AddKey_l5c, f_impl_AddKey_l5v, f_impl_AddKey_l5e, loopF f_impl_AddKey_l5⟩ | _, _ => none
theorem ok246 : EnvOk Try.prog en246 := envOk_of rfl rfl tyL_ok (⟨so137, ⟨so193, ⟨so195, trivial⟩⟩⟩)
theorem dr246r7 {X : Cx} (hX : en246.lo = X.lo) : RegOk Try.prog X 50 en246 7 (regAt 7 Try.f246) := regOk_of ok246 rfl hX (by kernel_rfl) (by kernel_rfl)
theorem f_impl_AddKey_l5Eq (R : Type) (c : Vars f_impl_AddKey_l5c) (v : Vars f_impl_AddKey_l5v) (kk : Vars f_impl_AddKey_l5c → (Vars f_impl_AddKey_l5v ⊕ Oc f_impl_AddKey_l5e) → Option R) : evC en246 su246 (loopAt 5 Try.f246) (Desc.mk2 f_impl_AddKey_l5v v (Desc.mk2 f_impl_AddKey_l5c c .empty)) (fun o => bodyK f_impl_AddKey_l5c f_impl_AddKey_l5v f_impl_AddKey_l5e o kk) = f_impl_AddKey_l5 R c v kk := by kernel_rfl
theorem f_impl_AddKey_l5Ok {X : Cx} (hX : en246.lo = X.lo) : SubOk Try.prog X 50 ⟨f_impl_AddKey_l5c, f_impl_AddKey_l5v, f_impl_AddKey_l5e, loopF f_impl_AddKey_l5⟩ (.loop (loopAt 5 Try.f246)) :=
  sub_loop (subs := su246) ok246 rfl hX (GoodN.good (K := True) (Eq.mpr (show GoodN Try.prog X 50 en246 su246 (loopAt 5 Try.f246) True = (RegOk Try.prog X 50 en246 7 (regAt 7 Try.f246) ∧ True) by kernel_rfl) ⟨(dr246r7 hX), trivial⟩)).1 (by decide) (by decide) f_impl_AddKey_l5Eq
theorem f_impl_AddKeyEq (x : Ps ins246) : evF en246 su246 Try.f246 ins246 res246 x = f_impl_AddKey x := by kernel_rfl
theorem so246 : Sound Try.prog 246 sg246 :=
  sound_of (fn := Try.f246) (c := bodyOf Try.f246) (subs := su246) (E := en246) (by kernel_rfl) (by kernel_rfl) (by decide) ok246 (by kernel_rfl) (by kernel_rfl) (by decide)
    (fun X hX => (GoodN.good (K := True) (Eq.mpr (show GoodN Try.prog X 50 en246 su246 (bodyOf Try.f246) True = (SubOk Try.prog X 50 ⟨f_impl_AddKey_l5c, f_impl_AddKey_l5v, f_impl_AddKey_l5e, loopF f_impl_AddKey_l5⟩ (.loop (loopAt 5 Try.f246)) ∧ True) by kernel_rfl) ⟨(f_impl_AddKey_l5Ok hX), trivial⟩)).1)
    (fun x r h => (f_impl_AddKeyEq x).trans h)
/-! loop.example/g00224/impl.FilterOf -/
def fl229 : List (Nat × Sig) := [(245, sg245), (246, sg246)]
def en229 : Env := { n := 40, ty := assocN tyL, fns := assocN fl229, lo := 0 }
def su229 : Bool → Nat → Option Sub | true, 5 => some ⟨f_impl_FilterOf_l5c, f_impl_FilterOf_l5v, f_impl_FilterOf_l5e, loopF f_impl_FilterOf_l5⟩ | _, _ => none
theorem ok229 : EnvOk Try.prog en229 := envOk_of rfl rfl tyL_ok (⟨so245, ⟨so246, trivial⟩⟩)
theorem f_impl_FilterOf_l5Eq (R : Type) (c : Vars f_impl_FilterOf_l5c) (v : Vars f_impl_FilterOf_l5v) (kk : Vars f_impl_FilterOf_l5c → (Vars f_impl_FilterOf_l5v ⊕ Oc f_impl_FilterOf_l5e) → Option R) : evC en229 su229 (loopAt 5 Try.f229) (Desc.mk2 f_impl_FilterOf_l5v v (Desc.mk2 f_impl_FilterOf_l5c c .empty)) (fun o => bodyK f_impl_FilterOf_l5c f_impl_FilterOf_l5v f_impl_FilterOf_l5e o kk) = f_impl_FilterOf_l5 R c v kk := by kernel_rfl
theorem f_impl_FilterOf_l5Ok {X : Cx} (hX : en229.lo = X.lo) : SubOk Try.prog X 40 ⟨f_impl_FilterOf_l5c, f_impl_FilterOf_l5v, f_impl_FilterOf_l5e, loopF f_impl_FilterOf_l5⟩ (.loop (loopAt 5 Try.f229)) :=
  sub_loop (subs := su229) ok229 rfl hX (GoodN.good (K := True) (Eq.mpr (show GoodN Try.prog X 40 en229 su229 (loopAt 5 Try.f229) True = (True) by kernel_rfl) trivial)).1 (by decide) (by decide) f_impl_FilterOf_l5Eq
theorem f_impl_FilterOfEq (x : Ps ins229) : evF en229 su229 Try.f229 ins229 res229 x = f_impl_FilterOf x := by kernel_rfl
theorem so229 : Sound Try.prog 229 sg229 :=
  sound_of (fn := Try.f229) (c := bodyOf Try.f229) (subs := su229) (E := en229) (by kernel_rfl) (by kernel_rfl) (by decide) ok229 (by kernel_rfl) (by kernel_rfl) (by decide)
    (fun X hX => (GoodN.good (K := True) (Eq.mpr (show GoodN Try.prog X 40 en229 su229 (bodyOf Try.f229) True = (SubOk Try.prog X 40 ⟨f_impl_FilterOf_l5c, f_impl_FilterOf_l5v, f_impl_FilterOf_l5e, loopF f_impl_FilterOf_l5⟩ (.loop (loopAt 5 Try.f229)) ∧ True) by kernel_rfl) ⟨(f_impl_FilterOf_l5Ok hX), trivial⟩)).1)
    (fun x r h => (f_impl_FilterOfEq x).trans h)
/-! loop.example/g00224/impl.frame -/
def fl231 : List (Nat × Sig) := [(82, sg82), (125, sg125), (225, sg225)]
def en231 : Env := { n := 12, ty := assocN tyL, fns := assocN fl231, lo := 0 }
def su231 : Bool → Nat → Option Sub | _, _ => none
theorem ok231 : EnvOk Try.prog en231 := envOk_of rfl rfl tyL_ok (⟨so82, ⟨so125, ⟨so225, trivial⟩⟩⟩)
theorem f_impl_frameEq (x : Ps ins231) : evF en231 su231 Try.f231 ins231 res231 x = f_impl_frame x := by kernel_rfl
theorem so231 : Sound Try.prog 231 sg231 :=
  sound_of (fn := Try.f231) (c := bodyOf Try.f231) (subs := su231) (E := en231) (by kernel_rfl) (by kernel_rfl) (by decide) ok231 (by kernel_rfl) (by kernel_rfl) (by decide)
    (fun X hX => (GoodN.good (K := True) (Eq.mpr (show GoodN Try.prog X 12 en231 su231 (bodyOf Try.f231) True = (True) by kernel_rfl) trivial)).1)
    (fun x r h => (f_impl_frameEq x).trans h)
/-! loop.example/g00224/impl.build -/
def fl183 : List (Nat × Sig) := [(82, sg82), (83, sg83), (125, sg125), (225, sg225), (228, sg228), (229, sg229), (230, sg230), (231, sg231)]
def hi183 : List (Nat × (K × Mk)) := [(8, ((.sl kdItem), (.o .s))), (10, ((.sl (.int .i64)), (.o .s)))]
def dw183 : List (Nat × List (List Nat)) := [(13, [[4, 85], [86], [87], [88], [89], [4, 90], [4, 91], [4, 92], [93], [94], [95], [96], [97], [98], [99], [100], [2, 4], [3]])]
def en183 : Env := { n := 101, ty := assocN tyL, fns := assocN fl183, lo := 0, hint := assocN hi183, draw := drawOf dw183, keep := fun n => [14].any (Nat.beq n) }
def su183 : Bool → Nat → Option Sub | true, 3 => some ⟨f_impl_build_l3c, f_impl_build_l3v, f_impl_build_l3e, loopF f_impl_build_l3⟩ | _, _ => none
theorem ok183 : EnvOk Try.prog en183 := envOk_of rfl rfl tyL_ok (⟨so82, ⟨so83, ⟨so125, ⟨so225, ⟨so228, ⟨so229, ⟨so230, ⟨so231, trivial⟩⟩⟩⟩⟩⟩⟩⟩)
theorem dr183r9 {X : Cx} (hX : en183.lo = X.lo) : RegOk Try.prog X 101 en183 9 (regAt 9 Try.f183) := regOk_of ok183 rfl hX (by kernel_rfl) (by kernel_rfl)
theorem dr183r13 {X : Cx} (hX : en183.lo = X.lo) : RegOk Try.prog X 101 en183 13 (regAt 13 Try.f183) := regOk_of ok183 rfl hX (by kernel_rfl) (by kernel_rfl)
theorem f_impl_build_l3Eq (R : Type) (c : Vars f_impl_build_l3c) (v : Vars f_impl_build_l3v) (kk : Vars f_impl_build_l3c → (Vars f_impl_build_l3v ⊕ Oc f_impl_build_l3e) → Option R) : evC en183 su183 (loopAt 3 Try.f183) (Desc.mk2 f_impl_build_l3v v (Desc.mk2 f_impl_build_l3c c .empty)) (fun o => bodyK f_impl_build_l3c f_impl_build_l3v f_impl_build_l3e o kk) = f_impl_build_l3 R c v kk := by kernel_rfl
theorem f_impl_build_l3Ok {X : Cx} (hX : en183.lo = X.lo) : SubOk Try.prog X 101 ⟨f_impl_build_l3c, f_impl_build_l3v, f_impl_build_l3e, loopF f_impl_build_l3⟩ (.loop (loopAt 3 Try.f183)) :=
  sub_loop (subs := su183) ok183 rfl hX (GoodN.good (K := True) (Eq.mpr (show GoodN Try.prog X 101 en183 su183 (loopAt 3 Try.f183) True = (RegOk Try.prog X 101 en183 9 (regAt 9 Try.f183) ∧ True) by kernel_rfl) ⟨(dr183r9 hX), trivial⟩)).1 (by decide) (by decide) f_impl_build_l3Eq
theorem f_impl_buildEq (x : Ps ins183) : evF en183 su183 Try.f183 ins183 res183 x = f_impl_build x := by kernel_rfl
theorem so183 : Sound Try.prog 183 sg183 :=
  sound_of (fn := Try.f183) (c := bodyOf Try.f183) (subs := su183) (E := en183) (by kernel_rfl) (by kernel_rfl) (by decide) ok183 (by kernel_rfl) (by kernel_rfl) (by decide)
    (fun X hX => (GoodN.good (K := True) (Eq.mpr (show GoodN Try.prog X 101 en183 su183 (bodyOf Try.f183) True = (SubOk Try.prog X 101 ⟨f_impl_build_l3c, f_impl_build_l3v, f_impl_build_l3e, loopF f_impl_build_l3⟩ (.loop (loopAt 3 Try.f183)) ∧ RegOk Try.prog X 101 en183 13 (regAt 13 Try.f183) ∧ True) by kernel_rfl) ⟨(f_impl_build_l3Ok hX), (dr183r13 hX), trivial⟩)).1)
    (fun x r h => (f_impl_buildEq x).trans h)
/-! loop.example/g00224/impl.readTable -/
def fl127 : List (Nat × Sig) := [(104, sg104), (179, sg179), (180, sg180), (181, sg181), (182, sg182), (183, sg183)]
def hi127 : List (Nat × (K × Mk)) := [(9, ((.sl kdItem), (.o .s)))]
def en127 : Env := { n := 70, ty := assocN tyL, fns := assocN fl127, lo := 0, hint := assocN hi127 }
def su127 : Bool → Nat → Option Sub | _, _ => none
theorem ok127 : EnvOk Try.prog en127 := envOk_of rfl rfl tyL_ok (⟨so104, ⟨so179, ⟨so180, ⟨so181, ⟨so182, ⟨so183, trivial⟩⟩⟩⟩⟩⟩)
theorem f_impl_readTableEq (x : Ps ins127) : evF en127 su127 Try.f127 ins127 res127 x = f_impl_readTable x := by kernel_rfl
theorem so127 : Sound Try.prog 127 sg127 :=
  sound_of (fn := Try.f127) (c := bodyOf Try.f127) (subs := su127) (E := en127) (by kernel_rfl) (by kernel_rfl) (by decide) ok127 (by kernel_rfl) (by kernel_rfl) (by decide)
    (fun X hX => (GoodN.good (K := True) (Eq.mpr (show GoodN Try.prog X 70 en127 su127 (bodyOf Try.f127) True = (True) by kernel_rfl) trivial)).1)
    (fun x r h => (f_impl_readTableEq x).trans h)
/-! loop.example/g00224/impl.RangeOf -/
def fl55 : List (Nat × Sig) := [(127, sg127)]
def en55 : Env := { n := 28, ty := assocN tyL, fns := assocN fl55, lo := 0 }
def su55 : Bool → Nat → Option Sub | _, _ => none
theorem ok55 : EnvOk Try.prog en55 := envOk_of rfl rfl tyL_ok (⟨so127, trivial⟩)
theorem dr55r4 {X : Cx} (hX : en55.lo = X.lo) : RegOk Try.prog X 28 en55 4 (regAt 4 Try.f55) := regOk_of ok55 rfl hX (by kernel_rfl) (by kernel_rfl)
theorem f_impl_RangeOfEq (x : Ps ins55) : evF en55 su55 Try.f55 ins55 res55 x = f_impl_RangeOf x := by kernel_rfl
theorem so55 : Sound Try.prog 55 sg55 :=
  sound_of (fn := Try.f55) (c := bodyOf Try.f55) (subs := su55) (E := en55) (by kernel_rfl) (by kernel_rfl) (by decide) ok55 (by kernel_rfl) (by kernel_rfl) (by decide)
    (fun X hX => (GoodN.good (K := True) (Eq.mpr (show GoodN Try.prog X 28 en55 su55 (bodyOf Try.f55) True = (RegOk Try.prog X 28 en55 4 (regAt 4 Try.f55) ∧ True) by kernel_rfl) ⟨(dr55r4 hX), trivial⟩)).1)
    (fun x r h => (f_impl_RangeOfEq x).trans h)
/-! loop.example/g00224/laws.FnExactRangeOf -/
def fl8 : List (Nat × Sig) := [(54, sg54), (55, sg55)]
def en8 : Env := { n := 37, ty := assocN tyL, fns := assocN fl8, lo := 0 }
def su8 : Bool → Nat → Option Sub | _, _ => none
theorem ok8 : EnvOk Try.prog en8 := envOk_of rfl rfl tyL_ok (⟨so54, ⟨so55, trivial⟩⟩)
theorem f_laws_FnExactRangeOfEq (x : Ps ins8) : evF en8 su8 Try.f8 ins8 res8 x = f_laws_FnExactRangeOf x := by kernel_rfl
theorem so8 : Sound Try.prog 8 sg8 :=
  sound_of (fn := Try.f8) (c := bodyOf Try.f8) (subs := su8) (E := en8) (by kernel_rfl) (by kernel_rfl) (by decide) ok8 (by kernel_rfl) (by kernel_rfl) (by decide)
    (fun X hX => (GoodN.good (K := True) (Eq.mpr (show GoodN Try.prog X 37 en8 su8 (bodyOf Try.f8) True = (True) by kernel_rfl) trivial)).1)
    (fun x r h => (f_laws_FnExactRangeOfEq x).trans h)
/-! loop.example/g00224/spec.FilterIn -/
def fl56 : List (Nat × Sig) := [(126, sg126), (128, sg128), (129, sg129)]
def hi56 : List (Nat × (K × Mk)) := [(4, ((.sl kdItem), (.o .s)))]
def en56 : Env := { n := 19, ty := assocN tyL, fns := assocN fl56, lo := 0, hint := assocN hi56 }
def su56 : Bool → Nat → Option Sub | _, _ => none
theorem ok56 : EnvOk Try.prog en56 := envOk_of rfl rfl tyL_ok (⟨so126, ⟨so128, ⟨so129, trivial⟩⟩⟩)
theorem f_spec_FilterInEq (x : Ps ins56) : evF en56 su56 Try.f56 ins56 res56 x = f_spec_FilterIn x := by kernel_rfl
theorem so56 : Sound Try.prog 56 sg56 :=
  sound_of (fn := Try.f56) (c := bodyOf Try.f56) (subs := su56) (E := en56) (by kernel_rfl) (by kernel_rfl) (by decide) ok56 (by kernel_rfl) (by kernel_rfl) (by decide)
    (fun X hX => (GoodN.good (K := True) (Eq.mpr (show GoodN Try.prog X 19 en56 su56 (bodyOf Try.f56) True = (True) by kernel_rfl) trivial)).1)
    (fun x r h => (f_spec_FilterInEq x).trans h)
/-! loop.example/g00224/impl.FilterIn -/
def fl57 : List (Nat × Sig) := [(127, sg127)]
def en57 : Env := { n := 16, ty := assocN tyL, fns := assocN fl57, lo := 0 }
def su57 : Bool → Nat → Option Sub | _, _ => none
theorem ok57 : EnvOk Try.prog en57 := envOk_of rfl rfl tyL_ok (⟨so127, trivial⟩)
theorem f_impl_FilterInEq (x : Ps ins57) : evF en57 su57 Try.f57 ins57 res57 x = f_impl_FilterIn x := by kernel_rfl
theorem so57 : Sound Try.prog 57 sg57 :=
  sound_of (fn := Try.f57) (c := bodyOf Try.f57) (subs := su57) (E := en57) (by kernel_rfl) (by kernel_rfl) (by decide) ok57 (by kernel_rfl) (by kernel_rfl) (by decide)
    (fun X hX => (GoodN.good (K := True) (Eq.mpr (show GoodN Try.prog X 16 en57 su57 (bodyOf Try.f57) True = (True) by kernel_rfl) trivial)).1)
    (fun x r h => (f_impl_FilterInEq x).trans h)
/-! loop.example/g00224/laws.eqFilter -/
def fl58 : List (Nat × Sig) := []
def en58 : Env := { n := 20, ty := assocN tyL, fns := assocN fl58, lo := 0 }
def su58 : Bool → Nat → Option Sub | _, _ => none
theorem ok58 : EnvOk Try.prog en58 := envOk_of rfl rfl tyL_ok (trivial)
theorem f_laws_eqFilterEq (x : Ps ins58) : evF en58 su58 Try.f58 ins58 res58 x = f_laws_eqFilter x := by kernel_rfl
theorem so58 : Sound Try.prog 58 sg58 :=
  sound_of (fn := Try.f58) (c := bodyOf Try.f58) (subs := su58) (E := en58) (by kernel_rfl) (by kernel_rfl) (by decide) ok58 (by kernel_rfl) (by kernel_rfl) (by decide)
    (fun X hX => (GoodN.good (K := True) (Eq.mpr (show GoodN Try.prog X 20 en58 su58 (bodyOf Try.f58) True = (True) by kernel_rfl) trivial)).1)
    (fun x r h => (f_laws_eqFilterEq x).trans h)
/-! loop.example/g00224/laws.FnExactFilterIn -/
def fl9 : List (Nat × Sig) := [(56, sg56), (57, sg57), (58, sg58)]
def en9 : Env := { n := 29, ty := assocN tyL, fns := assocN fl9, lo := 0 }
def su9 : Bool → Nat → Option Sub | _, _ => none
theorem ok9 : EnvOk Try.prog en9 := envOk_of rfl rfl tyL_ok (⟨so56, ⟨so57, ⟨so58, trivial⟩⟩⟩)
theorem f_laws_FnExactFilterInEq (x : Ps ins9) : evF en9 su9 Try.f9 ins9 res9 x = f_laws_FnExactFilterIn x := by kernel_rfl
theorem so9 : Sound Try.prog 9 sg9 :=
  sound_of (fn := Try.f9) (c := bodyOf Try.f9) (subs := su9) (E := en9) (by kernel_rfl) (by kernel_rfl) (by decide) ok9 (by kernel_rfl) (by kernel_rfl) (by decide)
    (fun X hX => (GoodN.good (K := True) (Eq.mpr (show GoodN Try.prog X 29 en9 su9 (bodyOf Try.f9) True = (True) by kernel_rfl) trivial)).1)
    (fun x r h => (f_laws_FnExactFilterInEq x).trans h)
/-! loop.example/g00224/spec.ReadTable -/
def fl59 : List (Nat × Sig) := [(126, sg126)]
def hi59 : List (Nat × (K × Mk)) := [(2, ((.sl kdItem), (.o .s)))]
def en59 : Env := { n := 8, ty := assocN tyL, fns := assocN fl59, lo := 0, hint := assocN hi59 }
def su59 : Bool → Nat → Option Sub | _, _ => none
theorem ok59 : EnvOk Try.prog en59 := envOk_of rfl rfl tyL_ok (⟨so126, trivial⟩)
theorem f_spec_ReadTableEq (x : Ps ins59) : evF en59 su59 Try.f59 ins59 res59 x = f_spec_ReadTable x := by kernel_rfl
theorem so59 : Sound Try.prog 59 sg59 :=
  sound_of (fn := Try.f59) (c := bodyOf Try.f59) (subs := su59) (E := en59) (by kernel_rfl) (by kernel_rfl) (by decide) ok59 (by kernel_rfl) (by kernel_rfl) (by decide)
    (fun X hX => (GoodN.good (K := True) (Eq.mpr (show GoodN Try.prog X 8 en59 su59 (bodyOf Try.f59) True = (True) by kernel_rfl) trivial)).1)
    (fun x r h => (f_spec_ReadTableEq x).trans h)
/-! loop.example/g00224/impl.ReadTable -/
def fl60 : List (Nat × Sig) := [(127, sg127)]
def hi60 : List (Nat × (K × Mk)) := [(2, ((.sl kdItem), (.o .s)))]
def en60 : Env := { n := 15, ty := assocN tyL, fns := assocN fl60, lo := 0, hint := assocN hi60 }
def su60 : Bool → Nat → Option Sub | _, _ => none
theorem ok60 : EnvOk Try.prog en60 := envOk_of rfl rfl tyL_ok (⟨so127, trivial⟩)
theorem f_impl_ReadTableEq (x : Ps ins60) : evF en60 su60 Try.f60 ins60 res60 x = f_impl_ReadTable x := by kernel_rfl
theorem so60 : Sound Try.prog 60 sg60 :=
  sound_of (fn := Try.f60) (c := bodyOf Try.f60) (subs := su60) (E := en60) (by kernel_rfl) (by kernel_rfl) (by decide) ok60 (by kernel_rfl) (by kernel_rfl) (by decide)
    (fun X hX => (GoodN.good (K := True) (Eq.mpr (show GoodN Try.prog X 15 en60 su60 (bodyOf Try.f60) True = (True) by kernel_rfl) trivial)).1)
    (fun x r h => (f_impl_ReadTableEq x).trans h)
/-! loop.example/g00224/laws.eqItem -/
def fl71 : List (Nat × Sig) := []
def en71 : Env := { n := 25, ty := assocN tyL, fns := assocN fl71, lo := 0 }
def su71 : Bool → Nat → Option Sub | _, _ => none
theorem ok71 : EnvOk Try.prog en71 := envOk_of rfl rfl tyL_ok (trivial)
theorem f_laws_eqItemEq (x : Ps ins71) : evF en71 su71 Try.f71 ins71 res71 x = f_laws_eqItem x := by kernel_rfl
theorem so71 : Sound Try.prog 71 sg71 :=
  sound_of (fn := Try.f71) (c := bodyOf Try.f71) (subs := su71) (E := en71) (by kernel_rfl) (by kernel_rfl) (by decide) ok71 (by kernel_rfl) (by kernel_rfl) (by decide)
    (fun X hX => (GoodN.good (K := True) (Eq.mpr (show GoodN Try.prog X 25 en71 su71 (bodyOf Try.f71) True = (True) by kernel_rfl) trivial)).1)
    (fun x r h => (f_laws_eqItemEq x).trans h)
/-! loop.example/g00224/laws.eqItemS -/
def fl61 : List (Nat × Sig) := [(71, sg71)]
def en61 : Env := { n := 27, ty := assocN tyL, fns := assocN fl61, lo := 0 }
def su61 : Bool → Nat → Option Sub | true, 4 => some ⟨f_laws_eqItemS_l4c, f_laws_eqItemS_l4v, f_laws_eqItemS_l4e, loopF f_laws_eqItemS_l4⟩ | _, _ => none
theorem ok61 : EnvOk Try.prog en61 := envOk_of rfl rfl tyL_ok (⟨so71, trivial⟩)
theorem dr61r6 {X : Cx} (hX : en61.lo = X.lo) : RegOk Try.prog X 27 en61 6 (regAt 6 Try.f61) := regOk_of ok61 rfl hX (by kernel_rfl) (by kernel_rfl)
theorem f_laws_eqItemS_l4Eq (R : Type) (c : Vars f_laws_eqItemS_l4c) (v : Vars f_laws_eqItemS_l4v) (kk : Vars f_laws_eqItemS_l4c → (Vars f_laws_eqItemS_l4v ⊕ Oc f_laws_eqItemS_l4e) → Option R) : evC en61 su61 (loopAt 4 Try.f61) (Desc.mk2 f_laws_eqItemS_l4v v (Desc.mk2 f_laws_eqItemS_l4c c .empty)) (fun o => bodyK f_laws_eqItemS_l4c f_laws_eqItemS_l4v f_laws_eqItemS_l4e o kk) = f_laws_eqItemS_l4 R c v kk := by kernel_rfl
theorem f_laws_eqItemS_l4Ok {X : Cx} (hX : en61.lo = X.lo) : SubOk Try.prog X 27 ⟨f_laws_eqItemS_l4c, f_laws_eqItemS_l4v, f_laws_eqItemS_l4e, loopF f_laws_eqItemS_l4⟩ (.loop (loopAt 4 Try.f61)) :=
  sub_loop (subs := su61) ok61 rfl hX (GoodN.good (K := True) (Eq.mpr (show GoodN Try.prog X 27 en61 su61 (loopAt 4 Try.f61) True = (RegOk Try.prog X 27 en61 6 (regAt 6 Try.f61) ∧ True) by kernel_rfl) ⟨(dr61r6 hX), trivial⟩)).1 (by decide) (by decide) f_laws_eqItemS_l4Eq
theorem f_laws_eqItemSEq (x : Ps ins61) : evF en61 su61 Try.f61 ins61 res61 x = f_laws_eqItemS x := by kernel_rfl
theorem so61 : Sound Try.prog 61 sg61 :=
  sound_of (fn := Try.f61) (c := bodyOf Try.f61) (subs := su61) (E := en61) (by kernel_rfl) (by kernel_rfl) (by decide) ok61 (by kernel_rfl) (by kernel_rfl) (by decide)
    (fun X hX => (GoodN.good (K := True) (Eq.mpr (show GoodN Try.prog X 27 en61 su61 (bodyOf Try.f61) True = (SubOk Try.prog X 27 ⟨f_laws_eqItemS_l4c, f_laws_eqItemS_l4v, f_laws_eqItemS_l4e, loopF f_laws_eqItemS_l4⟩ (.loop (loopAt 4 Try.f61)) ∧ True) by kernel_rfl) ⟨(f_laws_eqItemS_l4Ok hX), trivial⟩)).1)
    (fun x r h => (f_laws_eqItemSEq x).trans h)
/-! loop.example/g00224/laws.markText -/
def fl79 : List (Nat × Sig) := []
def en79 : Env := { n := 20, ty := assocN tyL, fns := assocN fl79, lo := 0 }
def su79 : Bool → Nat → Option Sub | true, 4 => some ⟨f_laws_markText_l4c, f_laws_markText_l4v, f_laws_markText_l4e, loopF f_laws_markText_l4⟩ | _, _ => none
theorem ok79 : EnvOk Try.prog en79 := envOk_of rfl rfl tyL_ok (trivial)
theorem f_laws_markText_l4Eq (R : Type) (c : Vars f_laws_markText_l4c) (v : Vars f_laws_markText_l4v) (kk : Vars f_laws_markText_l4c → (Vars f_laws_markText_l4v ⊕ Oc f_laws_markText_l4e) → Option R) : evC en79 su79 (loopAt 4 Try.f79) (Desc.mk2 f_laws_markText_l4v v (Desc.mk2 f_laws_markText_l4c c .empty)) (fun o => bodyK f_laws_markText_l4c f_laws_markText_l4v f_laws_markText_l4e o kk) = f_laws_markText_l4 R c v kk := by kernel_rfl
theorem f_laws_markText_l4Ok {X : Cx} (hX : en79.lo = X.lo) : SubOk Try.prog X 20 ⟨f_laws_markText_l4c, f_laws_markText_l4v, f_laws_markText_l4e, loopF f_laws_markText_l4⟩ (.loop (loopAt 4 Try.f79)) :=
  sub_loop (subs := su79) ok79 rfl hX (GoodN.good (K := True) (Eq.mpr (show GoodN Try.prog X 20 en79 su79 (loopAt 4 Try.f79) True = (True) by kernel_rfl) trivial)).1 (by decide) (by decide) f_laws_markText_l4Eq
theorem f_laws_markTextEq (x : Ps ins79) : evF en79 su79 Try.f79 ins79 res79 x = f_laws_markText x := by kernel_rfl
theorem so79 : Sound Try.prog 79 sg79 :=
  sound_of (fn := Try.f79) (c := bodyOf Try.f79) (subs := su79) (E := en79) (by kernel_rfl) (by kernel_rfl) (by decide) ok79 (by kernel_rfl) (by kernel_rfl) (by decide)
    (fun X hX => (GoodN.good (K := True) (Eq.mpr (show GoodN Try.prog X 20 en79 su79 (bodyOf Try.f79) True = (SubOk Try.prog X 20 ⟨f_laws_markText_l4c, f_laws_markText_l4v, f_laws_markText_l4e, loopF f_laws_markText_l4⟩ (.loop (loopAt 4 Try.f79)) ∧ True) by kernel_rfl) ⟨(f_laws_markText_l4Ok hX), trivial⟩)).1)
    (fun x r h => (f_laws_markTextEq x).trans h)
/-! loop.example/g00224/laws.markItemS -/
def fl62 : List (Nat × Sig) := [(79, sg79)]
def en62 : Env := { n := 43, ty := assocN tyL, fns := assocN fl62, lo := 1 }
def su62 : Bool → Nat → Option Sub | true, 2 => some ⟨f_laws_markItemS_l2c, f_laws_markItemS_l2v, f_laws_markItemS_l2e, loopF f_laws_markItemS_l2⟩ | _, _ => none
theorem ok62 : EnvOk Try.prog en62 := envOk_of rfl rfl tyL_ok (⟨so79, trivial⟩)
theorem f_laws_markItemS_l2Eq (R : Type) (c : Vars f_laws_markItemS_l2c) (v : Vars f_laws_markItemS_l2v) (kk : Vars f_laws_markItemS_l2c → (Vars f_laws_markItemS_l2v ⊕ Oc f_laws_markItemS_l2e) → Option R) : evC en62 su62 (loopAt 2 Try.f62) (Desc.mk2 f_laws_markItemS_l2v v (Desc.mk2 f_laws_markItemS_l2c c .empty)) (fun o => bodyK f_laws_markItemS_l2c f_laws_markItemS_l2v f_laws_markItemS_l2e o kk) = f_laws_markItemS_l2 R c v kk := by kernel_rfl
theorem f_laws_markItemS_l2Ok {X : Cx} (hX : en62.lo = X.lo) : SubOk Try.prog X 43 ⟨f_laws_markItemS_l2c, f_laws_markItemS_l2v, f_laws_markItemS_l2e, loopF f_laws_markItemS_l2⟩ (.loop (loopAt 2 Try.f62)) :=
  sub_loop (subs := su62) ok62 rfl hX (GoodN.good (K := True) (Eq.mpr (show GoodN Try.prog X 43 en62 su62 (loopAt 2 Try.f62) True = (True) by kernel_rfl) trivial)).1 (by decide) (by decide) f_laws_markItemS_l2Eq
theorem f_laws_markItemSEq (x : Ps ins62) : evF en62 su62 Try.f62 ins62 res62 x = f_laws_markItemS x := by kernel_rfl
theorem so62 : Sound Try.prog 62 sg62 :=
  sound_of (fn := Try.f62) (c := bodyOf Try.f62) (subs := su62) (E := en62) (by kernel_rfl) (by kernel_rfl) (by decide) ok62 (by kernel_rfl) (by kernel_rfl) (by decide)
    (fun X hX => (GoodN.good (K := True) (Eq.mpr (show GoodN Try.prog X 43 en62 su62 (bodyOf Try.f62) True = (SubOk Try.prog X 43 ⟨f_laws_markItemS_l2c, f_laws_markItemS_l2v, f_laws_markItemS_l2e, loopF f_laws_markItemS_l2⟩ (.loop (loopAt 2 Try.f62)) ∧ True) by kernel_rfl) ⟨(f_laws_markItemS_l2Ok hX), trivial⟩)).1)
    (fun x r h => (f_laws_markItemSEq x).trans h)
/-! loop.example/g00224/laws.heldItemS -/
def fl63 : List (Nat × Sig) := [(79, sg79)]
def en63 : Env := { n := 51, ty := assocN tyL, fns := assocN fl63, lo := 0 }
def su63 : Bool → Nat → Option Sub | true, 2 => some ⟨f_laws_heldItemS_l2c, f_laws_heldItemS_l2v, f_laws_heldItemS_l2e, loopF f_laws_heldItemS_l2⟩ | _, _ => none
theorem ok63 : EnvOk Try.prog en63 := envOk_of rfl rfl tyL_ok (⟨so79, trivial⟩)
theorem dr63r4 {X : Cx} (hX : en63.lo = X.lo) : RegOk Try.prog X 51 en63 4 (regAt 4 Try.f63) := regOk_of ok63 rfl hX (by kernel_rfl) (by kernel_rfl)
theorem dr63r13 {X : Cx} (hX : en63.lo = X.lo) : RegOk Try.prog X 51 en63 13 (regAt 13 Try.f63) := regOk_of ok63 rfl hX (by kernel_rfl) (by kernel_rfl)
theorem f_laws_heldItemS_l2Eq (R : Type) (c : Vars f_laws_heldItemS_l2c) (v : Vars f_laws_heldItemS_l2v) (kk : Vars f_laws_heldItemS_l2c → (Vars f_laws_heldItemS_l2v ⊕ Oc f_laws_heldItemS_l2e) → Option R) : evC en63 su63 (loopAt 2 Try.f63) (Desc.mk2 f_laws_heldItemS_l2v v (Desc.mk2 f_laws_heldItemS_l2c c .empty)) (fun o => bodyK f_laws_heldItemS_l2c f_laws_heldItemS_l2v f_laws_heldItemS_l2e o kk) = f_laws_heldItemS_l2 R c v kk := by kernel_rfl
theorem f_laws_heldItemS_l2Ok {X : Cx} (hX : en63.lo = X.lo) : SubOk Try.prog X 51 ⟨f_laws_heldItemS_l2c, f_laws_heldItemS_l2v, f_laws_heldItemS_l2e, loopF f_laws_heldItemS_l2⟩ (.loop (loopAt 2 Try.f63)) :=
  sub_loop (subs := su63) ok63 rfl hX (GoodN.good (K := True) (Eq.mpr (show GoodN Try.prog X 51 en63 su63 (loopAt 2 Try.f63) True = (RegOk Try.prog X 51 en63 4 (regAt 4 Try.f63) ∧ RegOk Try.prog X 51 en63 13 (regAt 13 Try.f63) ∧ True) by kernel_rfl) ⟨(dr63r4 hX), (dr63r13 hX), trivial⟩)).1 (by decide) (by decide) f_laws_heldItemS_l2Eq
theorem f_laws_heldItemSEq (x : Ps ins63) : evF en63 su63 Try.f63 ins63 res63 x = f_laws_heldItemS x := by kernel_rfl
theorem so63 : Sound Try.prog 63 sg63 :=
  sound_of (fn := Try.f63) (c := bodyOf Try.f63) (subs := su63) (E := en63) (by kernel_rfl) (by kernel_rfl) (by decide) ok63 (by kernel_rfl) (by kernel_rfl) (by decide)
    (fun X hX => (GoodN.good (K := True) (Eq.mpr (show GoodN Try.prog X 51 en63 su63 (bodyOf Try.f63) True = (SubOk Try.prog X 51 ⟨f_laws_heldItemS_l2c, f_laws_heldItemS_l2v, f_laws_heldItemS_l2e, loopF f_laws_heldItemS_l2⟩ (.loop (loopAt 2 Try.f63)) ∧ True) by kernel_rfl) ⟨(f_laws_heldItemS_l2Ok hX), trivial⟩)).1)
    (fun x r h => (f_laws_heldItemSEq x).trans h)
/-! loop.example/g00224/laws.FnExactReadTable -/
def fl10 : List (Nat × Sig) := [(59, sg59), (60, sg60), (61, sg61), (62, sg62), (63, sg63)]
def hi10 : List (Nat × (K × Mk)) := [(3, ((.sl kdItem), (.o .s))), (5, ((.sl kdItem), (.o .s))), (9, ((.sl kdItem), (.o .s)))]
def en10 : Env := { n := 66, ty := assocN tyL, fns := assocN fl10, lo := 0, hint := assocN hi10 }
def su10 : Bool → Nat → Option Sub | _, _ => none
theorem ok10 : EnvOk Try.prog en10 := envOk_of rfl rfl tyL_ok (⟨so59, ⟨so60, ⟨so61, ⟨so62, ⟨so63, trivial⟩⟩⟩⟩⟩)
theorem f_laws_FnExactReadTableEq (x : Ps ins10) : evF en10 su10 Try.f10 ins10 res10 x = f_laws_FnExactReadTable x := by kernel_rfl
theorem so10 : Sound Try.prog 10 sg10 :=
  sound_of (fn := Try.f10) (c := bodyOf Try.f10) (subs := su10) (E := en10) (by kernel_rfl) (by kernel_rfl) (by decide) ok10 (by kernel_rfl) (by kernel_rfl) (by decide)
    (fun X hX => (GoodN.good (K := True) (Eq.mpr (show GoodN Try.prog X 66 en10 su10 (bodyOf Try.f10) True = (True) by kernel_rfl) trivial)).1)
    (fun x r h => (f_laws_FnExactReadTableEq x).trans h)
/-! loop.example/g00224/spec.IndexOf -/
def fl64 : List (Nat × Sig) := [(126, sg126), (130, sg130), (131, sg131)]
def hi64 : List (Nat × (K × Mk)) := [(2, ((.sl kdPlace), (.o .s))), (4, ((.sl kdItem), (.o .s)))]
def en64 : Env := { n := 28, ty := assocN tyL, fns := assocN fl64, lo := 0, hint := assocN hi64 }
def su64 : Bool → Nat → Option Sub | _, _ => none
theorem ok64 : EnvOk Try.prog en64 := envOk_of rfl rfl tyL_ok (⟨so126, ⟨so130, ⟨so131, trivial⟩⟩⟩)
theorem f_spec_IndexOfEq (x : Ps ins64) : evF en64 su64 Try.f64 ins64 res64 x = f_spec_IndexOf x := by kernel_rfl
theorem so64 : Sound Try.prog 64 sg64 :=
  sound_of (fn := Try.f64) (c := bodyOf Try.f64) (subs := su64) (E := en64) (by kernel_rfl) (by kernel_rfl) (by decide) ok64 (by kernel_rfl) (by kernel_rfl) (by decide)
    (fun X hX => (GoodN.good (K := True) (Eq.mpr (show GoodN Try.prog X 28 en64 su64 (bodyOf Try.f64) True = (True) by kernel_rfl) trivial)).1)
    (fun x r h => (f_spec_IndexOfEq x).trans h)
/-! loop.example/g00224/impl.IndexOf -/
def fl65 : List (Nat × Sig) := [(127, sg127)]
def hi65 : List (Nat × (K × Mk)) := [(2, ((.sl kdPlace), (.o .s)))]
def en65 : Env := { n := 15, ty := assocN tyL, fns := assocN fl65, lo := 0, hint := assocN hi65 }
def su65 : Bool → Nat → Option Sub | _, _ => none
theorem ok65 : EnvOk Try.prog en65 := envOk_of rfl rfl tyL_ok (⟨so127, trivial⟩)
theorem f_impl_IndexOfEq (x : Ps ins65) : evF en65 su65 Try.f65 ins65 res65 x = f_impl_IndexOf x := by kernel_rfl
theorem so65 : Sound Try.prog 65 sg65 :=
  sound_of (fn := Try.f65) (c := bodyOf Try.f65) (subs := su65) (E := en65) (by kernel_rfl) (by kernel_rfl) (by decide) ok65 (by kernel_rfl) (by kernel_rfl) (by decide)
    (fun X hX => (GoodN.good (K := True) (Eq.mpr (show GoodN Try.prog X 15 en65 su65 (bodyOf Try.f65) True = (True) by kernel_rfl) trivial)).1)
    (fun x r h => (f_impl_IndexOfEq x).trans h)
/-! loop.example/g00224/laws.eqPlace -/
def fl132 : List (Nat × Sig) := []
def en132 : Env := { n := 25, ty := assocN tyL, fns := assocN fl132, lo := 0 }
def su132 : Bool → Nat → Option Sub | _, _ => none
theorem ok132 : EnvOk Try.prog en132 := envOk_of rfl rfl tyL_ok (trivial)
theorem f_laws_eqPlaceEq (x : Ps ins132) : evF en132 su132 Try.f132 ins132 res132 x = f_laws_eqPlace x := by kernel_rfl
theorem so132 : Sound Try.prog 132 sg132 :=
  sound_of (fn := Try.f132) (c := bodyOf Try.f132) (subs := su132) (E := en132) (by kernel_rfl) (by kernel_rfl) (by decide) ok132 (by kernel_rfl) (by kernel_rfl) (by decide)
    (fun X hX => (GoodN.good (K := True) (Eq.mpr (show GoodN Try.prog X 25 en132 su132 (bodyOf Try.f132) True = (True) by kernel_rfl) trivial)).1)
    (fun x r h => (f_laws_eqPlaceEq x).trans h)
/-! loop.example/g00224/laws.eqPlaceS -/
def fl66 : List (Nat × Sig) := [(132, sg132)]
def en66 : Env := { n := 27, ty := assocN tyL, fns := assocN fl66, lo := 0 }
def su66 : Bool → Nat → Option Sub | true, 4 => some ⟨f_laws_eqPlaceS_l4c, f_laws_eqPlaceS_l4v, f_laws_eqPlaceS_l4e, loopF f_laws_eqPlaceS_l4⟩ | _, _ => none
theorem ok66 : EnvOk Try.prog en66 := envOk_of rfl rfl tyL_ok (⟨so132, trivial⟩)
theorem dr66r6 {X : Cx} (hX : en66.lo = X.lo) : RegOk Try.prog X 27 en66 6 (regAt 6 Try.f66) := regOk_of ok66 rfl hX (by kernel_rfl) (by kernel_rfl)
theorem f_laws_eqPlaceS_l4Eq (R : Type) (c : Vars f_laws_eqPlaceS_l4c) (v : Vars f_laws_eqPlaceS_l4v) (kk : Vars f_laws_eqPlaceS_l4c → (Vars f_laws_eqPlaceS_l4v ⊕ Oc f_laws_eqPlaceS_l4e) → Option R) : evC en66 su66 (loopAt 4 Try.f66) (Desc.mk2 f_laws_eqPlaceS_l4v v (Desc.mk2 f_laws_eqPlaceS_l4c c .empty)) (fun o => bodyK f_laws_eqPlaceS_l4c f_laws_eqPlaceS_l4v f_laws_eqPlaceS_l4e o kk) = f_laws_eqPlaceS_l4 R c v kk := by kernel_rfl
theorem f_laws_eqPlaceS_l4Ok {X : Cx} (hX : en66.lo = X.lo) : SubOk Try.prog X 27 ⟨f_laws_eqPlaceS_l4c, f_laws_eqPlaceS_l4v, f_laws_eqPlaceS_l4e, loopF f_laws_eqPlaceS_l4⟩ (.loop (loopAt 4 Try.f66)) :=
  sub_loop (subs := su66) ok66 rfl hX (GoodN.good (K := True) (Eq.mpr (show GoodN Try.prog X 27 en66 su66 (loopAt 4 Try.f66) True = (RegOk Try.prog X 27 en66 6 (regAt 6 Try.f66) ∧ True) by kernel_rfl) ⟨(dr66r6 hX), trivial⟩)).1 (by decide) (by decide) f_laws_eqPlaceS_l4Eq
theorem f_laws_eqPlaceSEq (x : Ps ins66) : evF en66 su66 Try.f66 ins66 res66 x = f_laws_eqPlaceS x := by kernel_rfl
theorem so66 : Sound Try.prog 66 sg66 :=
  sound_of (fn := Try.f66) (c := bodyOf Try.f66) (subs := su66) (E := en66) (by kernel_rfl) (by kernel_rfl) (by decide) ok66 (by kernel_rfl) (by kernel_rfl) (by decide)
    (fun X hX => (GoodN.good (K := True) (Eq.mpr (show GoodN Try.prog X 27 en66 su66 (bodyOf Try.f66) True = (SubOk Try.prog X 27 ⟨f_laws_eqPlaceS_l4c, f_laws_eqPlaceS_l4v, f_laws_eqPlaceS_l4e, loopF f_laws_eqPlaceS_l4⟩ (.loop (loopAt 4 Try.f66)) ∧ True) by kernel_rfl) ⟨(f_laws_eqPlaceS_l4Ok hX), trivial⟩)).1)
    (fun x r h => (f_laws_eqPlaceSEq x).trans h)
/-! loop.example/g00224/laws.markPlaceS -/
def fl67 : List (Nat × Sig) := [(79, sg79)]
def en67 : Env := { n := 42, ty := assocN tyL, fns := assocN fl67, lo := 1 }
def su67 : Bool → Nat → Option Sub | true, 2 => some ⟨f_laws_markPlaceS_l2c, f_laws_markPlaceS_l2v, f_laws_markPlaceS_l2e, loopF f_laws_markPlaceS_l2⟩ | _, _ => none
theorem ok67 : EnvOk Try.prog en67 := envOk_of rfl rfl tyL_ok (⟨so79, trivial⟩)
theorem f_laws_markPlaceS_l2Eq (R : Type) (c : Vars f_laws_markPlaceS_l2c) (v : Vars f_laws_markPlaceS_l2v) (kk : Vars f_laws_markPlaceS_l2c → (Vars f_laws_markPlaceS_l2v ⊕ Oc f_laws_markPlaceS_l2e) → Option R) : evC en67 su67 (loopAt 2 Try.f67) (Desc.mk2 f_laws_markPlaceS_l2v v (Desc.mk2 f_laws_markPlaceS_l2c c .empty)) (fun o => bodyK f_laws_markPlaceS_l2c f_laws_markPlaceS_l2v f_laws_markPlaceS_l2e o kk) = f_laws_markPlaceS_l2 R c v kk := by kernel_rfl
theorem f_laws_markPlaceS_l2Ok {X : Cx} (hX : en67.lo = X.lo) : SubOk Try.prog X 42 ⟨f_laws_markPlaceS_l2c, f_laws_markPlaceS_l2v, f_laws_markPlaceS_l2e, loopF f_laws_markPlaceS_l2⟩ (.loop (loopAt 2 Try.f67)) :=
  sub_loop (subs := su67) ok67 rfl hX (GoodN.good (K := True) (Eq.mpr (show GoodN Try.prog X 42 en67 su67 (loopAt 2 Try.f67) True = (True) by kernel_rfl) trivial)).1 (by decide) (by decide) f_laws_markPlaceS_l2Eq
theorem f_laws_markPlaceSEq (x : Ps ins67) : evF en67 su67 Try.f67 ins67 res67 x = f_laws_markPlaceS x := by kernel_rfl
theorem so67 : Sound Try.prog 67 sg67 :=
  sound_of (fn := Try.f67) (c := bodyOf Try.f67) (subs := su67) (E := en67) (by kernel_rfl) (by kernel_rfl) (by decide) ok67 (by kernel_rfl) (by kernel_rfl) (by decide)
    (fun X hX => (GoodN.good (K := True) (Eq.mpr (show GoodN Try.prog X 42 en67 su67 (bodyOf Try.f67) True = (SubOk Try.prog X 42 ⟨f_laws_markPlaceS_l2c, f_laws_markPlaceS_l2v, f_laws_markPlaceS_l2e, loopF f_laws_markPlaceS_l2⟩ (.loop (loopAt 2 Try.f67)) ∧ True) by kernel_rfl) ⟨(f_laws_markPlaceS_l2Ok hX), trivial⟩)).1)
    (fun x r h => (f_laws_markPlaceSEq x).trans h)
/-! loop.example/g00224/laws.heldPlaceS -/
def fl68 : List (Nat × Sig) := [(79, sg79)]
def en68 : Env := { n := 50, ty := assocN tyL, fns := assocN fl68, lo := 0 }
def su68 : Bool → Nat → Option Sub | true, 2 => some ⟨f_laws_heldPlaceS_l2c, f_laws_heldPlaceS_l2v, f_laws_heldPlaceS_l2e, loopF f_laws_heldPlaceS_l2⟩ | _, _ => none
theorem ok68 : EnvOk Try.prog en68 := envOk_of rfl rfl tyL_ok (⟨so79, trivial⟩)
theorem dr68r4 {X : Cx} (hX : en68.lo = X.lo) : RegOk Try.prog X 50 en68 4 (regAt 4 Try.f68) := regOk_of ok68 rfl hX (by kernel_rfl) (by kernel_rfl)
theorem f_laws_heldPlaceS_l2Eq (R : Type) (c : Vars f_laws_heldPlaceS_l2c) (v : Vars f_laws_heldPlaceS_l2v) (kk : Vars f_laws_heldPlaceS_l2c → (Vars f_laws_heldPlaceS_l2v ⊕ Oc f_laws_heldPlaceS_l2e) → Option R) : evC en68 su68 (loopAt 2 Try.f68) (Desc.mk2 f_laws_heldPlaceS_l2v v (Desc.mk2 f_laws_heldPlaceS_l2c c .empty)) (fun o => bodyK f_laws_heldPlaceS_l2c f_laws_heldPlaceS_l2v f_laws_heldPlaceS_l2e o kk) = f_laws_heldPlaceS_l2 R c v kk := by kernel_rfl
theorem f_laws_heldPlaceS_l2Ok {X : Cx} (hX : en68.lo = X.lo) : SubOk Try.prog X 50 ⟨f_laws_heldPlaceS_l2c, f_laws_heldPlaceS_l2v, f_laws_heldPlaceS_l2e, loopF f_laws_heldPlaceS_l2⟩ (.loop (loopAt 2 Try.f68)) :=
  sub_loop (subs := su68) ok68 rfl hX (GoodN.good (K := True) (Eq.mpr (show GoodN Try.prog X 50 en68 su68 (loopAt 2 Try.f68) True = (RegOk Try.prog X 50 en68 4 (regAt 4 Try.f68) ∧ True) by kernel_rfl) ⟨(dr68r4 hX), trivial⟩)).1 (by decide) (by decide) f_laws_heldPlaceS_l2Eq
theorem f_laws_heldPlaceSEq (x : Ps ins68) : evF en68 su68 Try.f68 ins68 res68 x = f_laws_heldPlaceS x := by kernel_rfl
theorem so68 : Sound Try.prog 68 sg68 :=
  sound_of (fn := Try.f68) (c := bodyOf Try.f68) (subs := su68) (E := en68) (by kernel_rfl) (by kernel_rfl) (by decide) ok68 (by kernel_rfl) (by kernel_rfl) (by decide)
    (fun X hX => (GoodN.good (K := True) (Eq.mpr (show GoodN Try.prog X 50 en68 su68 (bodyOf Try.f68) True = (SubOk Try.prog X 50 ⟨f_laws_heldPlaceS_l2c, f_laws_heldPlaceS_l2v, f_laws_heldPlaceS_l2e, loopF f_laws_heldPlaceS_l2⟩ (.loop (loopAt 2 Try.f68)) ∧ True) by kernel_rfl) ⟨(f_laws_heldPlaceS_l2Ok hX), trivial⟩)).1)
    (fun x r h => (f_laws_heldPlaceSEq x).trans h)
/-! loop.example/g00224/laws.FnExactIndexOf -/
def fl11 : List (Nat × Sig) := [(64, sg64), (65, sg65), (66, sg66), (67, sg67), (68, sg68)]
def hi11 : List (Nat × (K × Mk)) := [(3, ((.sl kdPlace), (.o .s))), (5, ((.sl kdPlace), (.o .s))), (9, ((.sl kdPlace), (.o .s)))]
def en11 : Env := { n := 66, ty := assocN tyL, fns := assocN fl11, lo := 0, hint := assocN hi11 }
def su11 : Bool → Nat → Option Sub | _, _ => none
theorem ok11 : EnvOk Try.prog en11 := envOk_of rfl rfl tyL_ok (⟨so64, ⟨so65, ⟨so66, ⟨so67, ⟨so68, trivial⟩⟩⟩⟩⟩)
theorem f_laws_FnExactIndexOfEq (x : Ps ins11) : evF en11 su11 Try.f11 ins11 res11 x = f_laws_FnExactIndexOf x := by kernel_rfl
theorem so11 : Sound Try.prog 11 sg11 :=
  sound_of (fn := Try.f11) (c := bodyOf Try.f11) (subs := su11) (E := en11) (by kernel_rfl) (by kernel_rfl) (by decide) ok11 (by kernel_rfl) (by kernel_rfl) (by decide)
    (fun X hX => (GoodN.good (K := True) (Eq.mpr (show GoodN Try.prog X 66 en11 su11 (bodyOf Try.f11) True = (True) by kernel_rfl) trivial)).1)
    (fun x r h => (f_laws_FnExactIndexOfEq x).trans h)
/-! loop.example/g00224/spec.l6Seek -/
def fl135 : List (Nat × Sig) := [(189, sg189)]
def en135 : Env := { n := 28, ty := assocN tyL, fns := assocN fl135, lo := 0 }
def su135 : Bool → Nat → Option Sub | false, 6 => some ⟨f_spec_l6Seek_i6c, f_spec_l6Seek_i6v, f_spec_l6Seek_i6e, f_spec_l6Seek_i6⟩ | true, 3 => some ⟨f_spec_l6Seek_l3c, f_spec_l6Seek_l3v, f_spec_l6Seek_l3e, loopF f_spec_l6Seek_l3⟩ | _, _ => none
theorem ok135 : EnvOk Try.prog en135 := envOk_of rfl rfl tyL_ok (⟨so189, trivial⟩)
theorem dr135r5 {X : Cx} (hX : en135.lo = X.lo) : RegOk Try.prog X 28 en135 5 (regAt 5 Try.f135) := regOk_of ok135 rfl hX (by kernel_rfl) (by kernel_rfl)
def su135i6 : Bool → Nat → Option Sub | true, 3 => some ⟨f_spec_l6Seek_l3c, f_spec_l6Seek_l3v, f_spec_l6Seek_l3e, loopF f_spec_l6Seek_l3⟩ | _, _ => none
theorem f_spec_l6Seek_i6Eq (R : Type) (c : Vars f_spec_l6Seek_i6c) (v : Vars f_spec_l6Seek_i6v) (kk : Vars f_spec_l6Seek_i6c → Oc f_spec_l6Seek_i6e → Option R) : evC en135 su135i6 (ifAt 6 Try.f135) (Desc.mk2 f_spec_l6Seek_i6v v (Desc.mk2 f_spec_l6Seek_i6c c .empty)) (fun o => chk f_spec_l6Seek_i6c f_spec_l6Seek_i6e o kk) = f_spec_l6Seek_i6 R c v kk := by kernel_rfl
theorem f_spec_l6Seek_i6Ok {X : Cx} (hX : en135.lo = X.lo) : SubOk Try.prog X 28 ⟨f_spec_l6Seek_i6c, f_spec_l6Seek_i6v, f_spec_l6Seek_i6e, f_spec_l6Seek_i6⟩ (ifAt 6 Try.f135) :=
  sub_if (u := ⟨f_spec_l6Seek_i6c, f_spec_l6Seek_i6v, f_spec_l6Seek_i6e, f_spec_l6Seek_i6⟩) (subs := su135i6) ok135 rfl hX (GoodN.good (K := True) (Eq.mpr (show GoodN Try.prog X 28 en135 su135i6 (ifAt 6 Try.f135) True = (True) by kernel_rfl) trivial)).1 (by decide) (by decide) f_spec_l6Seek_i6Eq
theorem f_spec_l6Seek_l3Eq (R : Type) (c : Vars f_spec_l6Seek_l3c) (v : Vars f_spec_l6Seek_l3v) (kk : Vars f_spec_l6Seek_l3c → (Vars f_spec_l6Seek_l3v ⊕ Oc f_spec_l6Seek_l3e) → Option R) : evC en135 su135 (loopAt 3 Try.f135) (Desc.mk2 f_spec_l6Seek_l3v v (Desc.mk2 f_spec_l6Seek_l3c c .empty)) (fun o => bodyK f_spec_l6Seek_l3c f_spec_l6Seek_l3v f_spec_l6Seek_l3e o kk) = f_spec_l6Seek_l3 R c v kk := by kernel_rfl
theorem f_spec_l6Seek_l3Ok {X : Cx} (hX : en135.lo = X.lo) : SubOk Try.prog X 28 ⟨f_spec_l6Seek_l3c, f_spec_l6Seek_l3v, f_spec_l6Seek_l3e, loopF f_spec_l6Seek_l3⟩ (.loop (loopAt 3 Try.f135)) :=
  sub_loop (subs := su135) ok135 rfl hX (GoodN.good (K := True) (Eq.mpr (show GoodN Try.prog X 28 en135 su135 (loopAt 3 Try.f135) True = (RegOk Try.prog X 28 en135 5 (regAt 5 Try.f135) ∧ SubOk Try.prog X 28 ⟨f_spec_l6Seek_i6c, f_spec_l6Seek_i6v, f_spec_l6Seek_i6e, f_spec_l6Seek_i6⟩ (ifAt 6 Try.f135) ∧ True) by kernel_rfl) ⟨(dr135r5 hX), (f_spec_l6Seek_i6Ok hX), trivial⟩)).1 (by decide) (by decide) f_spec_l6Seek_l3Eq
theorem f_spec_l6SeekEq (x : Ps ins135) : evF en135 su135 Try.f135 ins135 res135 x = f_spec_l6Seek x := by kernel_rfl
theorem so135 : Sound Try.prog 135 sg135 :=
  sound_of (fn := Try.f135) (c := bodyOf Try.f135) (subs := su135) (E := en135) (by kernel_rfl) (by kernel_rfl) (by decide) ok135 (by kernel_rfl) (by kernel_rfl) (by decide)
    (fun X hX => (GoodN.good (K := True) (Eq.mpr (show GoodN Try.prog X 28 en135 su135 (bodyOf Try.f135) True = (SubOk Try.prog X 28 ⟨f_spec_l6Seek_l3c, f_spec_l6Seek_l3v, f_spec_l6Seek_l3e, loopF f_spec_l6Seek_l3⟩ (.loop (loopAt 3 Try.f135)) ∧ True) by kernel_rfl) ⟨(f_spec_l6Seek_l3Ok hX), trivial⟩)).1)
    (fun x r h => (f_spec_l6SeekEq x).trans h)
/-! loop.example/g00224/spec.l5May -/
def fl136 : List (Nat × Sig) := [(190, sg190)]
def en136 : Env := { n := 28, ty := assocN tyL, fns := assocN fl136, lo := 0 }
def su136 : Bool → Nat → Option Sub | true, 2 => some ⟨f_spec_l5May_l2c, f_spec_l5May_l2v, f_spec_l5May_l2e, loopF f_spec_l5May_l2⟩ | _, _ => none
theorem ok136 : EnvOk Try.prog en136 := envOk_of rfl rfl tyL_ok (⟨so190, trivial⟩)
theorem f_spec_l5May_l2Eq (R : Type) (c : Vars f_spec_l5May_l2c) (v : Vars f_spec_l5May_l2v) (kk : Vars f_spec_l5May_l2c → (Vars f_spec_l5May_l2v ⊕ Oc f_spec_l5May_l2e) → Option R) : evC en136 su136 (loopAt 2 Try.f136) (Desc.mk2 f_spec_l5May_l2v v (Desc.mk2 f_spec_l5May_l2c c .empty)) (fun o => bodyK f_spec_l5May_l2c f_spec_l5May_l2v f_spec_l5May_l2e o kk) = f_spec_l5May_l2 R c v kk := by kernel_rfl
theorem f_spec_l5May_l2Ok {X : Cx} (hX : en136.lo = X.lo) : SubOk Try.prog X 28 ⟨f_spec_l5May_l2c, f_spec_l5May_l2v, f_spec_l5May_l2e, loopF f_spec_l5May_l2⟩ (.loop (loopAt 2 Try.f136)) :=
  sub_loop (subs := su136) ok136 rfl hX (GoodN.good (K := True) (Eq.mpr (show GoodN Try.prog X 28 en136 su136 (loopAt 2 Try.f136) True = (True) by kernel_rfl) trivial)).1 (by decide) (by decide) f_spec_l5May_l2Eq
theorem f_spec_l5MayEq (x : Ps ins136) : evF en136 su136 Try.f136 ins136 res136 x = f_spec_l5May x := by kernel_rfl
theorem so136 : Sound Try.prog 136 sg136 :=
  sound_of (fn := Try.f136) (c := bodyOf Try.f136) (subs := su136) (E := en136) (by kernel_rfl) (by kernel_rfl) (by decide) ok136 (by kernel_rfl) (by kernel_rfl) (by decide)
    (fun X hX => (GoodN.good (K := True) (Eq.mpr (show GoodN Try.prog X 28 en136 su136 (bodyOf Try.f136) True = (SubOk Try.prog X 28 ⟨f_spec_l5May_l2c, f_spec_l5May_l2v, f_spec_l5May_l2e, loopF f_spec_l5May_l2⟩ (.loop (loopAt 2 Try.f136)) ∧ True) by kernel_rfl) ⟨(f_spec_l5May_l2Ok hX), trivial⟩)).1)
    (fun x r h => (f_spec_l5MayEq x).trans h)
/-! loop.example/g00224/spec.GetFrom -/
def fl69 : List (Nat × Sig) := [(126, sg126), (128, sg128), (129, sg129), (133, sg133), (134, sg134), (135, sg135), (136, sg136)]
def hi69 : List (Nat × (K × Mk)) := [(9, ((.sl kdItem), (.o .s)))]
def en69 : Env := { n := 68, ty := assocN tyL, fns := assocN fl69, lo := 0, hint := assocN hi69 }
def su69 : Bool → Nat → Option Sub | _, _ => none
theorem ok69 : EnvOk Try.prog en69 := envOk_of rfl rfl tyL_ok (⟨so126, ⟨so128, ⟨so129, ⟨so133, ⟨so134, ⟨so135, ⟨so136, trivial⟩⟩⟩⟩⟩⟩⟩)
theorem f_spec_GetFromEq (x : Ps ins69) : evF en69 su69 Try.f69 ins69 res69 x = f_spec_GetFrom x := by kernel_rfl
theorem so69 : Sound Try.prog 69 sg69 :=
  sound_of (fn := Try.f69) (c := bodyOf Try.f69) (subs := su69) (E := en69) (by kernel_rfl) (by kernel_rfl) (by decide) ok69 (by kernel_rfl) (by kernel_rfl) (by decide)
    (fun X hX => (GoodN.good (K := True) (Eq.mpr (show GoodN Try.prog X 68 en69 su69 (bodyOf Try.f69) True = (True) by kernel_rfl) trivial)).1)
    (fun x r h => (f_spec_GetFromEq x).trans h)
/-! slices.BinarySearchFunc[[]loop.example/g00224/impl.Item,loop.example/g00224/impl.Item,loop.example/g00224/impl.Item] -/
def fl191 : List (Nat × Sig) := []
def en191 : Env := { n := 49, ty := assocN tyL, fns := assocN fl191, lo := 0 }
def su191 : Bool → Nat → Option Sub | false, 6 => some ⟨f_slices_BinarySearchFunc_Item_i6c, f_slices_BinarySearchFunc_Item_i6v, f_slices_BinarySearchFunc_Item_i6e, f_slices_BinarySearchFunc_Item_i6⟩ | true, 3 => some ⟨f_slices_BinarySearchFunc_Item_l3c, f_slices_BinarySearchFunc_Item_l3v, f_slices_BinarySearchFunc_Item_l3e, loopF f_slices_BinarySearchFunc_Item_l3⟩ | _, _ => none
theorem ok191 : EnvOk Try.prog en191 := envOk_of rfl rfl tyL_ok (trivial)
theorem dr191r5 {X : Cx} (hX : en191.lo = X.lo) : RegOk Try.prog X 49 en191 5 (regAt 5 Try.f191) := regOk_of ok191 rfl hX (by kernel_rfl) (by kernel_rfl)
theorem dr191r8 {X : Cx} (hX : en191.lo = X.lo) : RegOk Try.prog X 49 en191 8 (regAt 8 Try.f191) := regOk_of ok191 rfl hX (by kernel_rfl) (by kernel_rfl)
def su191i6 : Bool → Nat → Option Sub | true, 3 => some ⟨f_slices_BinarySearchFunc_Item_l3c, f_slices_BinarySearchFunc_Item_l3v, f_slices_BinarySearchFunc_Item_l3e, loopF f_slices_BinarySearchFunc_Item_l3⟩ | _, _ => none
theorem f_slices_BinarySearchFunc_Item_i6Eq (R : Type) (c : Vars f_slices_BinarySearchFunc_Item_i6c) (v : Vars f_slices_BinarySearchFunc_Item_i6v) (kk : Vars f_slices_BinarySearchFunc_Item_i6c → Oc f_slices_BinarySearchFunc_Item_i6e → Option R) : evC en191 su191i6 (ifAt 6 Try.f191) (Desc.mk2 f_slices_BinarySearchFunc_Item_i6v v (Desc.mk2 f_slices_BinarySearchFunc_Item_i6c c .empty)) (fun o => chk f_slices_BinarySearchFunc_Item_i6c f_slices_BinarySearchFunc_Item_i6e o kk) = f_slices_BinarySearchFunc_Item_i6 R c v kk := by kernel_rfl
theorem f_slices_BinarySearchFunc_Item_i6Ok {X : Cx} (hX : en191.lo = X.lo) : SubOk Try.prog X 49 ⟨f_slices_BinarySearchFunc_Item_i6c, f_slices_BinarySearchFunc_Item_i6v, f_slices_BinarySearchFunc_Item_i6e, f_slices_BinarySearchFunc_Item_i6⟩ (ifAt 6 Try.f191) :=
  sub_if (u := ⟨f_slices_BinarySearchFunc_Item_i6c, f_slices_BinarySearchFunc_Item_i6v, f_slices_BinarySearchFunc_Item_i6e, f_slices_BinarySearchFunc_Item_i6⟩) (subs := su191i6) ok191 rfl hX (GoodN.good (K := True) (Eq.mpr (show GoodN Try.prog X 49 en191 su191i6 (ifAt 6 Try.f191) True = (True) by kernel_rfl) trivial)).1 (by decide) (by decide) f_slices_BinarySearchFunc_Item_i6Eq
theorem f_slices_BinarySearchFunc_Item_l3Eq (R : Type) (c : Vars f_slices_BinarySearchFunc_Item_l3c) (v : Vars f_slices_BinarySearchFunc_Item_l3v) (kk : Vars f_slices_BinarySearchFunc_Item_l3c → (Vars f_slices_BinarySearchFunc_Item_l3v ⊕ Oc f_slices_BinarySearchFunc_Item_l3e) → Option R) : evC en191 su191 (loopAt 3 Try.f191) (Desc.mk2 f_slices_BinarySearchFunc_Item_l3v v (Desc.mk2 f_slices_BinarySearchFunc_Item_l3c c .empty)) (fun o => bodyK f_slices_BinarySearchFunc_Item_l3c f_slices_BinarySearchFunc_Item_l3v f_slices_BinarySearchFunc_Item_l3e o kk) = f_slices_BinarySearchFunc_Item_l3 R c v kk := by kernel_rfl
theorem f_slices_BinarySearchFunc_Item_l3Ok {X : Cx} (hX : en191.lo = X.lo) : SubOk Try.prog X 49 ⟨f_slices_BinarySearchFunc_Item_l3c, f_slices_BinarySearchFunc_Item_l3v, f_slices_BinarySearchFunc_Item_l3e, loopF f_slices_BinarySearchFunc_Item_l3⟩ (.loop (loopAt 3 Try.f191)) :=
  sub_loop (subs := su191) ok191 rfl hX (GoodN.good (K := True) (Eq.mpr (show GoodN Try.prog X 49 en191 su191 (loopAt 3 Try.f191) True = (RegOk Try.prog X 49 en191 5 (regAt 5 Try.f191) ∧ SubOk Try.prog X 49 ⟨f_slices_BinarySearchFunc_Item_i6c, f_slices_BinarySearchFunc_Item_i6v, f_slices_BinarySearchFunc_Item_i6e, f_slices_BinarySearchFunc_Item_i6⟩ (ifAt 6 Try.f191) ∧ True) by kernel_rfl) ⟨(dr191r5 hX), (f_slices_BinarySearchFunc_Item_i6Ok hX), trivial⟩)).1 (by decide) (by decide) f_slices_BinarySearchFunc_Item_l3Eq
theorem f_slices_BinarySearchFunc_ItemEq (x : Ps ins191) : evF en191 su191 Try.f191 ins191 res191 x = f_slices_BinarySearchFunc_Item x := by kernel_rfl
theorem so191 : Sound Try.prog 191 sg191 :=
  sound_of (fn := Try.f191) (c := bodyOf Try.f191) (subs := su191) (E := en191) (by kernel_rfl) (by kernel_rfl) (by decide) ok191 (by kernel_rfl) (by kernel_rfl) (by decide)
    (fun X hX => (GoodN.good (K := True) (Eq.mpr (show GoodN Try.prog X 49 en191 su191 (bodyOf Try.f191) True = (SubOk Try.prog X 49 ⟨f_slices_BinarySearchFunc_Item_l3c, f_slices_BinarySearchFunc_Item_l3v, f_slices_BinarySearchFunc_Item_l3e, loopF f_slices_BinarySearchFunc_Item_l3⟩ (.loop (loopAt 3 Try.f191)) ∧ RegOk Try.prog X 49 en191 8 (regAt 8 Try.f191) ∧ True) by kernel_rfl) ⟨(f_slices_BinarySearchFunc_Item_l3Ok hX), (dr191r8 hX), trivial⟩)).1)
    (fun x r h => (f_slices_BinarySearchFunc_ItemEq x).trans h)
/-! loop.example/g00224/impl.seekRun -/
def fl139 : List (Nat × Sig) := [(191, sg191), (192, sg192)]
def en139 : Env := { n := 18, ty := assocN tyL, fns := assocN fl139, lo := 0 }
def su139 : Bool → Nat → Option Sub | _, _ => none
theorem ok139 : EnvOk Try.prog en139 := envOk_of rfl rfl tyL_ok (⟨so191, ⟨so192, trivial⟩⟩)
theorem f_impl_seekRunEq (x : Ps ins139) : evF en139 su139 Try.f139 ins139 res139 x = f_impl_seekRun x := by kernel_rfl
theorem so139 : Sound Try.prog 139 sg139 :=
  sound_of (fn := Try.f139) (c := bodyOf Try.f139) (subs := su139) (E := en139) (by kernel_rfl) (by kernel_rfl) (by decide) ok139 (by kernel_rfl) (by kernel_rfl) (by decide)
    (fun X hX => (GoodN.good (K := True) (Eq.mpr (show GoodN Try.prog X 18 en139 su139 (bodyOf Try.f139) True = (True) by kernel_rfl) trivial)).1)
    (fun x r h => (f_impl_seekRunEq x).trans h)
/-! (*loop.example/g00224/impl.Filter).has -/
def fl197r : List (Nat × Sig) := []
def en197r : Env := { n := 17, ty := assocN tyL, fns := assocN fl197r, lo := 0 }
def su197r : Bool → Nat → Option Sub | _, _ => none
theorem ok197r : EnvOk Try.prog en197r := envOk_of rfl rfl tyL_ok (trivial)
theorem f_impl_Filter_has_rEq (x : Ps ins197r) : evF en197r su197r Try.f197 ins197r res197r x = f_impl_Filter_has_r x := by kernel_rfl
theorem so197r : Sound Try.prog 197 sg197r :=
  sound_of (fn := Try.f197) (c := bodyOf Try.f197) (subs := su197r) (E := en197r) (by kernel_rfl) (by kernel_rfl) (by decide) ok197r (by kernel_rfl) (by kernel_rfl) (by decide)
    (fun X hX => (GoodN.good (K := True) (Eq.mpr (show GoodN Try.prog X 17 en197r su197r (bodyOf Try.f197) True = (True) by kernel_rfl) trivial)).1)
    (fun x r h => (f_impl_Filter_has_rEq x).trans h)
/-! loop.example/g00224/impl.MayHave$1 -/
def fl196 : List (Nat × Sig) := [(197, sg197r)]
def en196 : Env := { n := 7, ty := assocN tyL, fns := assocN fl196, lo := 0 }
def su196 : Bool → Nat → Option Sub | _, _ => none
theorem ok196 : EnvOk Try.prog en196 := envOk_of rfl rfl tyL_ok (⟨so197r, trivial⟩)
theorem f_impl_MayHave_1Eq (x : Ps ins196) : evF en196 su196 Try.f196 ins196 res196 x = f_impl_MayHave_1 x := by kernel_rfl
theorem so196 : Sound Try.prog 196 sg196 :=
  sound_of (fn := Try.f196) (c := bodyOf Try.f196) (subs := su196) (E := en196) (by kernel_rfl) (by kernel_rfl) (by decide) ok196 (by kernel_rfl) (by kernel_rfl) (by decide)
    (fun X hX => (GoodN.good (K := True) (Eq.mpr (show GoodN Try.prog X 7 en196 su196 (bodyOf Try.f196) True = (True) by kernel_rfl) trivial)).1)
    (fun x r h => (f_impl_MayHave_1Eq x).trans h)
/-! slices.IndexFunc[[]int,int] -/
def fl234 : List (Nat × Sig) := []
def en234 : Env := { n := 19, ty := assocN tyL, fns := assocN fl234, lo := 0 }
def su234 : Bool → Nat → Option Sub | true, 2 => some ⟨f_slices_IndexFunc_int_l2c, f_slices_IndexFunc_int_l2v, f_slices_IndexFunc_int_l2e, loopF f_slices_IndexFunc_int_l2⟩ | _, _ => none
theorem ok234 : EnvOk Try.prog en234 := envOk_of rfl rfl tyL_ok (trivial)
theorem f_slices_IndexFunc_int_l2Eq (R : Type) (c : Vars f_slices_IndexFunc_int_l2c) (v : Vars f_slices_IndexFunc_int_l2v) (kk : Vars f_slices_IndexFunc_int_l2c → (Vars f_slices_IndexFunc_int_l2v ⊕ Oc f_slices_IndexFunc_int_l2e) → Option R) : evC en234 su234 (loopAt 2 Try.f234) (Desc.mk2 f_slices_IndexFunc_int_l2v v (Desc.mk2 f_slices_IndexFunc_int_l2c c .empty)) (fun o => bodyK f_slices_IndexFunc_int_l2c f_slices_IndexFunc_int_l2v f_slices_IndexFunc_int_l2e o kk) = f_slices_IndexFunc_int_l2 R c v kk := by kernel_rfl
theorem f_slices_IndexFunc_int_l2Ok {X : Cx} (hX : en234.lo = X.lo) : SubOk Try.prog X 19 ⟨f_slices_IndexFunc_int_l2c, f_slices_IndexFunc_int_l2v, f_slices_IndexFunc_int_l2e, loopF f_slices_IndexFunc_int_l2⟩ (.loop (loopAt 2 Try.f234)) :=
  sub_loop (subs := su234) ok234 rfl hX (GoodN.good (K := True) (Eq.mpr (show GoodN Try.prog X 19 en234 su234 (loopAt 2 Try.f234) True = (True) by kernel_rfl) trivial)).1 (by decide) (by decide) f_slices_IndexFunc_int_l2Eq
theorem f_slices_IndexFunc_intEq (x : Ps ins234) : evF en234 su234 Try.f234 ins234 res234 x = f_slices_IndexFunc_int x := by kernel_rfl
theorem so234 : Sound Try.prog 234 sg234 :=
  sound_of (fn := Try.f234) (c := bodyOf Try.f234) (subs := su234) (E := en234) (by kernel_rfl) (by kernel_rfl) (by decide) ok234 (by kernel_rfl) (by kernel_rfl) (by decide)
    (fun X hX => (GoodN.good (K := True) (Eq.mpr (show GoodN Try.prog X 19 en234 su234 (bodyOf Try.f234) True = (SubOk Try.prog X 19 ⟨f_slices_IndexFunc_int_l2c, f_slices_IndexFunc_int_l2v, f_slices_IndexFunc_int_l2e, loopF f_slices_IndexFunc_int_l2⟩ (.loop (loopAt 2 Try.f234)) ∧ True) by kernel_rfl) ⟨(f_slices_IndexFunc_int_l2Ok hX), trivial⟩)).1)
    (fun x r h => (f_slices_IndexFunc_intEq x).trans h)
/-! slices.ContainsFunc[[]int,int] -/
def fl194 : List (Nat × Sig) := [(234, sg234)]
def en194 : Env := { n := 9, ty := assocN tyL, fns := assocN fl194, lo := 0 }
def su194 : Bool → Nat → Option Sub | _, _ => none
theorem ok194 : EnvOk Try.prog en194 := envOk_of rfl rfl tyL_ok (⟨so234, trivial⟩)
theorem f_slices_ContainsFunc_intEq (x : Ps ins194) : evF en194 su194 Try.f194 ins194 res194 x = f_slices_ContainsFunc_int x := by kernel_rfl
theorem so194 : Sound Try.prog 194 sg194 :=
  sound_of (fn := Try.f194) (c := bodyOf Try.f194) (subs := su194) (E := en194) (by kernel_rfl) (by kernel_rfl) (by decide) ok194 (by kernel_rfl) (by kernel_rfl) (by decide)
    (fun X hX => (GoodN.good (K := True) (Eq.mpr (show GoodN Try.prog X 9 en194 su194 (bodyOf Try.f194) True = (True) by kernel_rfl) trivial)).1)
    (fun x r h => (f_slices_ContainsFunc_intEq x).trans h)
/-! loop.example/g00224/impl.MayHave -/
def fl140 : List (Nat × Sig) := [(137, sg137), (193, sg193), (194, sg194), (195, sg195), (196, sg196)]
def en140 : Env := { n := 21, ty := assocN tyL, fns := assocN fl140, lo := 0 }
def su140 : Bool → Nat → Option Sub | _, _ => none
theorem ok140 : EnvOk Try.prog en140 := envOk_of rfl rfl tyL_ok (⟨so137, ⟨so193, ⟨so194, ⟨so195, ⟨so196, trivial⟩⟩⟩⟩⟩)
theorem f_impl_MayHaveEq (x : Ps ins140) : evF en140 su140 Try.f140 ins140 res140 x = f_impl_MayHave x := by kernel_rfl
theorem so140 : Sound Try.prog 140 sg140 :=
  sound_of (fn := Try.f140) (c := bodyOf Try.f140) (subs := su140) (E := en140) (by kernel_rfl) (by kernel_rfl) (by decide) ok140 (by kernel_rfl) (by kernel_rfl) (by decide)
    (fun X hX => (GoodN.good (K := True) (Eq.mpr (show GoodN Try.prog X 21 en140 su140 (bodyOf Try.f140) True = (True) by kernel_rfl) trivial)).1)
    (fun x r h => (f_impl_MayHaveEq x).trans h)
/-! loop.example/g00224/impl.GetFrom -/
def fl70 : List (Nat × Sig) := [(127, sg127), (137, sg137), (138, sg138), (139, sg139), (140, sg140)]
def en70 : Env := { n := 68, ty := assocN tyL, fns := assocN fl70, lo := 0 }
def su70 : Bool → Nat → Option Sub | _, _ => none
theorem ok70 : EnvOk Try.prog en70 := envOk_of rfl rfl tyL_ok (⟨so127, ⟨so137, ⟨so138, ⟨so139, ⟨so140, trivial⟩⟩⟩⟩⟩)
theorem f_impl_GetFromEq (x : Ps ins70) : evF en70 su70 Try.f70 ins70 res70 x = f_impl_GetFrom x := by kernel_rfl
theorem so70 : Sound Try.prog 70 sg70 :=
  sound_of (fn := Try.f70) (c := bodyOf Try.f70) (subs := su70) (E := en70) (by kernel_rfl) (by kernel_rfl) (by decide) ok70 (by kernel_rfl) (by kernel_rfl) (by decide)
    (fun X hX => (GoodN.good (K := True) (Eq.mpr (show GoodN Try.prog X 68 en70 su70 (bodyOf Try.f70) True = (True) by kernel_rfl) trivial)).1)
    (fun x r h => (f_impl_GetFromEq x).trans h)
/-! loop.example/g00224/laws.FnExactGetFrom -/
def fl12 : List (Nat × Sig) := [(69, sg69), (70, sg70), (71, sg71)]
def en12 : Env := { n := 49, ty := assocN tyL, fns := assocN fl12, lo := 0 }
def su12 : Bool → Nat → Option Sub | _, _ => none
theorem ok12 : EnvOk Try.prog en12 := envOk_of rfl rfl tyL_ok (⟨so69, ⟨so70, ⟨so71, trivial⟩⟩⟩)
theorem f_laws_FnExactGetFromEq (x : Ps ins12) : evF en12 su12 Try.f12 ins12 res12 x = f_laws_FnExactGetFrom x := by kernel_rfl
theorem so12 : Sound Try.prog 12 sg12 :=
  sound_of (fn := Try.f12) (c := bodyOf Try.f12) (subs := su12) (E := en12) (by kernel_rfl) (by kernel_rfl) (by decide) ok12 (by kernel_rfl) (by kernel_rfl) (by decide)
    (fun X hX => (GoodN.good (K := True) (Eq.mpr (show GoodN Try.prog X 49 en12 su12 (bodyOf Try.f12) True = (True) by kernel_rfl) trivial)).1)
    (fun x r h => (f_laws_FnExactGetFromEq x).trans h)
end Go.Proofs.Ytncalmofbcmkaaa
