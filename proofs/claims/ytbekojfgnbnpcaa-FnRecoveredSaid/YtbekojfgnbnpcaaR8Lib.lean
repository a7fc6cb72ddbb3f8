/- slices.SortFunc lies in the program. -/
import Derived.Test.YtbekojfgnbnpcaaProg
import Derived.Shelf.SlSortCmp.NoneTotal
import Derived.Test.YtbekojfgnbnpcaaEv4
set_option linter.all false
set_option maxRecDepth 100000
noncomputable section
namespace Go.Proofs.Ytbekojfgnbnpcaa
open Go Go.Proofs.Ytbekojfgnbnpcaa.Ev Go.Shelf Go.RowKit

/- laid by hand (printed by wip/tools/sortlib.py) -/
def Try.sort67_ren : Go.Shelf.Ren where
  f := fun x => match x with | 6 => 67 | 15 => 110 | 14 => 109 | 28 => 146 | 29 => 147 | 20 => 138 | 21 => 139 | 22 => 140 | 23 => 141 | 24 => 142 | 25 => 143 | 26 => 144 | 27 => 145 | 46 => 158 | 47 => 159 | 48 => 160 | 49 => 161 | 50 => 162 | 57 => 164 | n => n
  t := fun x => match x with | 22 => 22 | 24 => 87 | 25 => 107 | 3 => 3 | 39 => 131 | 0 => 0 | 53 => 54 | 55 => 80 | 4 => 4 | 46 => 159 | 45 => 158 | 50 => 142 | 5 => 5 | 9 => 9 | 66 => 170 | 70 => 174 | 76 => 176 | 77 => 122 | n => n
  g := fun x => x
theorem Try.sort67 : SlLaysF0.n6 Try.prog Try.sort67_ren where
  mixed := by kernel_rfl
  f6 := ⟨Try.f67.name, by decide, by kernel_rfl⟩
  f14 := ⟨Try.f109.name, by decide, by kernel_rfl⟩
  f15 := Try.func110.trans (congrArg some (show Try.f110 = SlBodyF.n15 Try.sort67_ren by kernel_rfl))
  f20 := ⟨Try.f138.name, by decide, by kernel_rfl⟩
  f21 := ⟨Try.f139.name, by decide, by kernel_rfl⟩
  f22 := ⟨Try.f140.name, by decide, by kernel_rfl⟩
  f23 := ⟨Try.f141.name, by decide, by kernel_rfl⟩
  f24 := ⟨Try.f142.name, by decide, by kernel_rfl⟩
  f25 := ⟨Try.f143.name, by decide, by kernel_rfl⟩
  f26 := ⟨Try.f144.name, by decide, by kernel_rfl⟩
  f27 := ⟨Try.f145.name, by decide, by kernel_rfl⟩
  f28 := Try.func146.trans (congrArg some (show Try.f146 = SlBodyF.n28 Try.sort67_ren by kernel_rfl))
  f29 := Try.func147.trans (congrArg some (show Try.f147 = SlBodyF.n29 Try.sort67_ren by kernel_rfl))
  f46 := ⟨Try.f158.name, by decide, by kernel_rfl⟩
  f47 := Try.func159.trans (congrArg some (show Try.f159 = SlBodyF.n47 Try.sort67_ren by kernel_rfl))
  f48 := Try.func160.trans (congrArg some (show Try.f160 = SlBodyF.n48 Try.sort67_ren by kernel_rfl))
  f49 := ⟨Try.f161.name, by decide, by kernel_rfl⟩
  f50 := ⟨Try.f162.name, by decide, by kernel_rfl⟩
  f57 := ⟨Try.f164.name, by decide, by kernel_rfl⟩
  t0 := Try.underlying0
  a0 := Try.isAgg0
  z0 := Try.sizeOf0
  v0 := Try.zeroValue0
  t3 := Try.underlying3
  a3 := Try.isAgg3
  z3 := Try.sizeOf3
  v3 := Try.zeroValue3
  t4 := Try.underlying4
  a4 := Try.isAgg4
  z4 := Try.sizeOf4
  v4 := Try.zeroValue4
  t5 := Try.underlying5
  a5 := Try.isAgg5
  z5 := Try.sizeOf5
  v5 := Try.zeroValue5
  t9 := Try.underlying9
  a9 := Try.isAgg9
  z9 := Try.sizeOf9
  v9 := Try.zeroValue9
  t22 := Try.underlying22
  a22 := Try.isAgg22
  z22 := Try.sizeOf22
  v22 := Try.zeroValue22
  t25 := Try.underlying107
  a25 := Try.isAgg107
  z25 := Try.sizeOf107
  v25 := Try.zeroValue107
  t39 := Try.underlying131
  a39 := Try.isAgg131
  z39 := Try.sizeOf131
  v39 := Try.zeroValue131
  t45 := Try.underlying158
  a45 := Try.isAgg158
  z45 := Try.sizeOf158
  v45 := Try.zeroValue158
  t46 := Try.underlying159
  a46 := Try.isAgg159
  z46 := Try.sizeOf159
  v46 := Try.zeroValue159
  t50 := Try.underlying142
  a50 := Try.isAgg142
  z50 := Try.sizeOf142
  v50 := Try.zeroValue142
  t53 := Try.underlying54
  a53 := Try.isAgg54
  z53 := Try.sizeOf54
  v53 := Try.zeroValue54
  t55 := Try.underlying80
  a55 := Try.isAgg80
  z55 := Try.sizeOf80
  v55 := Try.zeroValue80
  t66 := Try.underlying170
  a66 := Try.isAgg170
  z66 := Try.sizeOf170
  v66 := Try.zeroValue170
  t70 := Try.underlying174
  a70 := Try.isAgg174
  z70 := Try.sizeOf174
  v70 := Try.zeroValue174
  t76 := Try.underlying176
  a76 := Try.isAgg176
  z76 := Try.sizeOf176
  v76 := Try.zeroValue176
  t77 := Try.underlying122
  a77 := Try.isAgg122
  z77 := Try.sizeOf122
  v77 := Try.zeroValue122
end Go.Proofs.Ytbekojfgnbnpcaa
