/- strings.Repeat does what its typed function says. -/
import Derived.Test.YtncalmofbcmkaaaGreatProg
import Derived.Shelf.Strings.Repeat
import Derived.Shelf.Lay
import Derived.Ground.NamesProg
import Derived.Test.YtncalmofbcmkaaaGreatEv3
set_option linter.all false
set_option maxRecDepth 100000
noncomputable section
namespace Go.Proofs.YtncalmofbcmkaaaGreat
open Go Go.Proofs.YtncalmofbcmkaaaGreat.Ev Go.Shelf Go.RowKit

/- laid by hand: its renaming and its bodies (printed by wip/tools/laylib.py) -/
def Tryz.laysRepeat_ren : Go.Shelf.Ren where
  f := fun x => match x with | 105 => 108 | 212 => 113 | 99 => 114 | 165 => 115 | 166 => 116 | 170 => 117 | 169 => 118 | 263 => 120 | 264 => 121 | 206 => 122 | 240 => 123 | 241 => 124 | 276 => 125 | 277 => 126 | n => n
  t := fun x => match x with | 9 => 9 | 3 => 3 | 4 => 4 | 20 => 20 | 0 => 0 | 46 => 101 | 109 => 130 | 5 => 5 | 72 => 135 | 76 => 139 | 51 => 92 | 146 => 141 | 53 => 55 | 148 => 143 | 70 => 133 | 37 => 22 | 75 => 138 | 127 => 145 | 164 => 146 | 80 => 69 | n => n
  g := fun x => x
theorem Tryz.laysRepeat : Lays.n105 Tryz.prog Tryz.laysRepeat_ren where
  mixed := by kernel_rfl
  f99 := Tryz.func114.trans (congrArg some (show Tryz.f114 = Body.n99 Tryz.laysRepeat_ren by kernel_rfl))
  f105 := Tryz.func108.trans (congrArg some (show Tryz.f108 = Body.n105 Tryz.laysRepeat_ren by kernel_rfl))
  f165 := Tryz.func115.trans (congrArg some (show Tryz.f115 = Body.n165 Tryz.laysRepeat_ren by kernel_rfl))
  f166 := Tryz.func116.trans (congrArg some (show Tryz.f116 = Body.n166 Tryz.laysRepeat_ren by kernel_rfl))
  f169 := Tryz.func118.trans (congrArg some (show Tryz.f118 = Body.n169 Tryz.laysRepeat_ren by kernel_rfl))
  f170 := Tryz.func117.trans (congrArg some (show Tryz.f117 = Body.n170 Tryz.laysRepeat_ren by kernel_rfl))
  f206 := Tryz.func122.trans (congrArg some (show Tryz.f122 = Body.n206 Tryz.laysRepeat_ren by kernel_rfl))
  f212 := Tryz.func113.trans (congrArg some (show Tryz.f113 = Body.n212 Tryz.laysRepeat_ren by kernel_rfl))
  f240 := Tryz.func123.trans (congrArg some (show Tryz.f123 = Body.n240 Tryz.laysRepeat_ren by kernel_rfl))
  f241 := Tryz.func124.trans (congrArg some (show Tryz.f124 = Body.n241 Tryz.laysRepeat_ren by kernel_rfl))
  f263 := Tryz.func120.trans (congrArg some (show Tryz.f120 = Body.n263 Tryz.laysRepeat_ren by kernel_rfl))
  f264 := Tryz.func121.trans (congrArg some (show Tryz.f121 = Body.n264 Tryz.laysRepeat_ren by kernel_rfl))
  f276 := Tryz.func125.trans (congrArg some (show Tryz.f125 = Body.n276 Tryz.laysRepeat_ren by kernel_rfl))
  f277 := Tryz.func126.trans (congrArg some (show Tryz.f126 = Body.n277 Tryz.laysRepeat_ren by kernel_rfl))
  t0 := Tryz.underlying0
  a0 := Tryz.isAgg0
  z0 := Tryz.sizeOf0
  v0 := Tryz.zeroValue0
  t3 := Tryz.underlying3
  a3 := Tryz.isAgg3
  z3 := Tryz.sizeOf3
  v3 := Tryz.zeroValue3
  t4 := Tryz.underlying4
  a4 := Tryz.isAgg4
  z4 := Tryz.sizeOf4
  v4 := Tryz.zeroValue4
  t5 := Tryz.underlying5
  a5 := Tryz.isAgg5
  z5 := Tryz.sizeOf5
  v5 := Tryz.zeroValue5
  t9 := Tryz.underlying9
  a9 := Tryz.isAgg9
  z9 := Tryz.sizeOf9
  v9 := Tryz.zeroValue9
  t20 := Tryz.underlying20
  a20 := Tryz.isAgg20
  z20 := Tryz.sizeOf20
  v20 := Tryz.zeroValue20
  t37 := Tryz.underlying22
  a37 := Tryz.isAgg22
  z37 := Tryz.sizeOf22
  v37 := Tryz.zeroValue22
  t46 := Tryz.underlying101
  a46 := Tryz.isAgg101
  z46 := Tryz.sizeOf101
  v46 := Tryz.zeroValue101
  t51 := Tryz.underlying92
  a51 := Tryz.isAgg92
  z51 := Tryz.sizeOf92
  v51 := Tryz.zeroValue92
  t53 := Tryz.underlying55
  a53 := Tryz.isAgg55
  z53 := Tryz.sizeOf55
  v53 := Tryz.zeroValue55
  t70 := Tryz.underlying133
  a70 := Tryz.isAgg133
  z70 := Tryz.sizeOf133
  v70 := Tryz.zeroValue133
  t72 := Tryz.underlying135
  a72 := Tryz.isAgg135
  z72 := Tryz.sizeOf135
  v72 := Tryz.zeroValue135
  t75 := Tryz.underlying138
  a75 := Tryz.isAgg138
  z75 := Tryz.sizeOf138
  v75 := Tryz.zeroValue138
  t76 := Tryz.underlying139
  a76 := Tryz.isAgg139
  z76 := Tryz.sizeOf139
  v76 := Tryz.zeroValue139
  t109 := Tryz.underlying130
  a109 := Tryz.isAgg130
  z109 := Tryz.sizeOf130
  v109 := Tryz.zeroValue130
  t127 := Tryz.underlying145
  a127 := Tryz.isAgg145
  z127 := Tryz.sizeOf145
  v127 := Tryz.zeroValue145
  t146 := Tryz.underlying141
  a146 := Tryz.isAgg141
  z146 := Tryz.sizeOf141
  v146 := Tryz.zeroValue141
  t148 := Tryz.underlying143
  a148 := Tryz.isAgg143
  z148 := Tryz.sizeOf143
  v148 := Tryz.zeroValue143
  t164 := Tryz.underlying146
  a164 := Tryz.isAgg146
  z164 := Tryz.sizeOf146
  v164 := Tryz.zeroValue146

theorem extraRepeat : Builder.Extra Tryz.prog Tryz.laysRepeat_ren where
  sizeBuilder := by kernel_rfl
  liesBuilder := by kernel_rfl
  t5 := Tryz.laysRepeat.t5
  a5 := Tryz.laysRepeat.a5
  z5 := Tryz.laysRepeat.z5
  v5 := Tryz.laysRepeat.v5
  infoByte := by kernel_rfl
  cellsByte := by kernel_rfl
  sizeByte := by kernel_rfl
  neB5 := by decide

theorem fRepeat : Tryz.laysRepeat_ren.f 105 = 108 := by kernel_rfl

theorem repB_list (s : ByteArray) : ∀ c, (⟨(Lib.repeatL s.data.toList c).toArray⟩ : ByteArray) = repB s c
  | 0 => rfl
  | c + 1 => by
    rw [repB, ← repB_list s c]
    apply ByteArray.ext
    simp [Lib.repeatL]

theorem soRepeat : Sound Tryz.prog 108 sgf_strings_Repeat := sound_Repeat ⟨Tryz.f108, by kernel_rfl, by kernel_rfl, by decide⟩ (fun s c w h1 h2 => by
    have h := Any.strings_Repeat Tryz.laysRepeat extraRepeat s c w (by omega) (by omega)
    rw [fRepeat] at h
    exact h.mono fun e w' ⟨h1, h2⟩ => ⟨by rw [h1, repB_list], h2.size, h2.block, h2.os, h2.tape, h2.output⟩)
end Go.Proofs.YtncalmofbcmkaaaGreat
