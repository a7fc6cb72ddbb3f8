/- strings.Trim lies in the program. -/
import Derived.Test.YthlnjkcpdkjipaaDoorProg
import Derived.Test.YthlnjkcpdkjipaaDoorEv4
set_option linter.all false
set_option maxRecDepth 100000
noncomputable section
namespace Go.Proofs.YthlnjkcpdkjipaaDoor
open Go Go.Proofs.YthlnjkcpdkjipaaDoor.Ev Go.Shelf Go.RowKit

/- laid by hand: its renaming and its bodies (printed by wip/tools/laylib.py) -/
def Tryd.trim92_ren : Go.Shelf.Ren where
  f := fun x => match x with | 160 => 92 | 232 => 97 | 231 => 96 | 227 => 98 | 234 => 100 | 233 => 99 | 236 => 102 | 235 => 101 | 228 => 105 | 271 => 108 | 151 => 107 | 197 => 106 | 120 => 112 | 152 => 111 | 260 => 110 | 137 => 114 | 119 => 115 | 224 => 116 | 225 => 117 | 217 => 118 | 266 => 119 | n => n
  t := fun x => match x with | 9 => 9 | 4 => 4 | 3 => 3 | 5 => 5 | 117 => 140 | 116 => 139 | 0 => 0 | 124 => 143 | 21 => 21 | 105 => 146 | 46 => 136 | 119 => 151 | 139 => 154 | 138 => 153 | n => n
  g := fun x => match x with | 3 => 0 | 4 => 1 | n => n
theorem Tryd.trim92 : Lays.n160 Tryd.prog Tryd.trim92_ren where
  mixed := by kernel_rfl
  f119 := Tryd.func115.trans (congrArg some (show Tryd.f115 = Body.n119 Tryd.trim92_ren by kernel_rfl))
  f120 := Tryd.func112.trans (congrArg some (show Tryd.f112 = Body.n120 Tryd.trim92_ren by kernel_rfl))
  f137 := Tryd.func114.trans (congrArg some (show Tryd.f114 = Body.n137 Tryd.trim92_ren by kernel_rfl))
  f151 := Tryd.func107.trans (congrArg some (show Tryd.f107 = Body.n151 Tryd.trim92_ren by kernel_rfl))
  f152 := Tryd.func111.trans (congrArg some (show Tryd.f111 = Body.n152 Tryd.trim92_ren by kernel_rfl))
  f160 := Tryd.func92.trans (congrArg some (show Tryd.f92 = Body.n160 Tryd.trim92_ren by kernel_rfl))
  f197 := Tryd.func106.trans (congrArg some (show Tryd.f106 = Body.n197 Tryd.trim92_ren by kernel_rfl))
  f217 := Tryd.func118.trans (congrArg some (show Tryd.f118 = Body.n217 Tryd.trim92_ren by kernel_rfl))
  f224 := Tryd.func116.trans (congrArg some (show Tryd.f116 = Body.n224 Tryd.trim92_ren by kernel_rfl))
  f225 := Tryd.func117.trans (congrArg some (show Tryd.f117 = Body.n225 Tryd.trim92_ren by kernel_rfl))
  f227 := Tryd.func98.trans (congrArg some (show Tryd.f98 = Body.n227 Tryd.trim92_ren by kernel_rfl))
  f228 := Tryd.func105.trans (congrArg some (show Tryd.f105 = Body.n228 Tryd.trim92_ren by kernel_rfl))
  f231 := Tryd.func96.trans (congrArg some (show Tryd.f96 = Body.n231 Tryd.trim92_ren by kernel_rfl))
  f232 := Tryd.func97.trans (congrArg some (show Tryd.f97 = Body.n232 Tryd.trim92_ren by kernel_rfl))
  f233 := Tryd.func99.trans (congrArg some (show Tryd.f99 = Body.n233 Tryd.trim92_ren by kernel_rfl))
  f234 := Tryd.func100.trans (congrArg some (show Tryd.f100 = Body.n234 Tryd.trim92_ren by kernel_rfl))
  f235 := Tryd.func101.trans (congrArg some (show Tryd.f101 = Body.n235 Tryd.trim92_ren by kernel_rfl))
  f236 := Tryd.func102.trans (congrArg some (show Tryd.f102 = Body.n236 Tryd.trim92_ren by kernel_rfl))
  f260 := Tryd.func110.trans (congrArg some (show Tryd.f110 = Body.n260 Tryd.trim92_ren by kernel_rfl))
  f266 := Tryd.func119.trans (congrArg some (show Tryd.f119 = Body.n266 Tryd.trim92_ren by kernel_rfl))
  f271 := Tryd.func108.trans (congrArg some (show Tryd.f108 = Body.n271 Tryd.trim92_ren by kernel_rfl))
  t0 := Tryd.underlying0
  a0 := Tryd.isAgg0
  z0 := Tryd.sizeOf0
  v0 := Tryd.zeroValue0
  t3 := Tryd.underlying3
  a3 := Tryd.isAgg3
  z3 := Tryd.sizeOf3
  v3 := Tryd.zeroValue3
  t4 := Tryd.underlying4
  a4 := Tryd.isAgg4
  z4 := Tryd.sizeOf4
  v4 := Tryd.zeroValue4
  t5 := Tryd.underlying5
  a5 := Tryd.isAgg5
  z5 := Tryd.sizeOf5
  v5 := Tryd.zeroValue5
  t9 := Tryd.underlying9
  a9 := Tryd.isAgg9
  z9 := Tryd.sizeOf9
  v9 := Tryd.zeroValue9
  t21 := Tryd.underlying21
  a21 := Tryd.isAgg21
  z21 := Tryd.sizeOf21
  v21 := Tryd.zeroValue21
  t46 := Tryd.underlying136
  a46 := Tryd.isAgg136
  z46 := Tryd.sizeOf136
  v46 := Tryd.zeroValue136
  t105 := Tryd.underlying146
  a105 := Tryd.isAgg146
  z105 := Tryd.sizeOf146
  v105 := Tryd.zeroValue146
  t116 := Tryd.underlying139
  a116 := Tryd.isAgg139
  z116 := Tryd.sizeOf139
  t117 := Tryd.underlying140
  a117 := Tryd.isAgg140
  z117 := Tryd.sizeOf140
  v117 := Tryd.zeroValue140
  t119 := Tryd.underlying151
  a119 := Tryd.isAgg151
  z119 := Tryd.sizeOf151
  t124 := Tryd.underlying143
  a124 := Tryd.isAgg143
  z124 := Tryd.sizeOf143
  v124 := Tryd.zeroValue143
  t138 := Tryd.underlying153
  a138 := Tryd.isAgg153
  z138 := Tryd.sizeOf153
  v138 := Tryd.zeroValue153
  t139 := Tryd.underlying154
  a139 := Tryd.isAgg154
  z139 := Tryd.sizeOf154
  v139 := Tryd.zeroValue154
  g3 := by kernel_rfl
  g4 := by kernel_rfl

theorem soTrim : Sound Tryd.prog 92 sgf_strings_Trim :=
  sound_Trim ⟨_, Tryd.func92, rfl, by decide⟩ (trim_calls Tryd.trim92 (by kernel_rfl))

end Go.Proofs.YthlnjkcpdkjipaaDoor
