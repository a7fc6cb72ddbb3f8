/- strings.Repeat does what its typed function says. -/
import Derived.Test.YtncalmofbcmkaaaProg
import Derived.Shelf.Strings.Repeat
import Derived.Shelf.Lay
import Derived.Ground.NamesProg
import Derived.Test.YtncalmofbcmkaaaEv3
set_option linter.all false
set_option maxRecDepth 100000
noncomputable section
namespace Go.Proofs.Ytncalmofbcmkaaa
open Go Go.Proofs.Ytncalmofbcmkaaa.Ev Go.Shelf Go.RowKit

/- laid by hand: its renaming and its bodies (printed by wip/tools/laylib.py) -/
def Try.laysRepeat_ren : Go.Shelf.Ren where
  f := fun x => match x with | 105 => 251 | 212 => 253 | 99 => 254 | 165 => 255 | 166 => 256 | 170 => 257 | 169 => 258 | 263 => 259 | 264 => 260 | 206 => 261 | 240 => 262 | 241 => 263 | 276 => 264 | 277 => 265 | n => n
  t := fun x => match x with | 9 => 9 | 3 => 3 | 4 => 4 | 20 => 20 | 0 => 0 | 46 => 156 | 109 => 262 | 5 => 5 | 72 => 267 | 76 => 271 | 51 => 69 | 146 => 273 | 53 => 134 | 148 => 275 | 70 => 265 | 37 => 34 | 75 => 270 | 127 => 277 | 164 => 278 | 80 => 131 | n => n
  g := fun x => x
theorem Try.laysRepeat : Lays.n105 Try.prog Try.laysRepeat_ren where
  mixed := by kernel_rfl
  f99 := Try.func254.trans (congrArg some (show Try.f254 = Body.n99 Try.laysRepeat_ren by kernel_rfl))
  f105 := Try.func251.trans (congrArg some (show Try.f251 = Body.n105 Try.laysRepeat_ren by kernel_rfl))
  f165 := Try.func255.trans (congrArg some (show Try.f255 = Body.n165 Try.laysRepeat_ren by kernel_rfl))
  f166 := Try.func256.trans (congrArg some (show Try.f256 = Body.n166 Try.laysRepeat_ren by kernel_rfl))
  f169 := Try.func258.trans (congrArg some (show Try.f258 = Body.n169 Try.laysRepeat_ren by kernel_rfl))
  f170 := Try.func257.trans (congrArg some (show Try.f257 = Body.n170 Try.laysRepeat_ren by kernel_rfl))
  f206 := Try.func261.trans (congrArg some (show Try.f261 = Body.n206 Try.laysRepeat_ren by kernel_rfl))
  f212 := Try.func253.trans (congrArg some (show Try.f253 = Body.n212 Try.laysRepeat_ren by kernel_rfl))
  f240 := Try.func262.trans (congrArg some (show Try.f262 = Body.n240 Try.laysRepeat_ren by kernel_rfl))
  f241 := Try.func263.trans (congrArg some (show Try.f263 = Body.n241 Try.laysRepeat_ren by kernel_rfl))
  f263 := Try.func259.trans (congrArg some (show Try.f259 = Body.n263 Try.laysRepeat_ren by kernel_rfl))
  f264 := Try.func260.trans (congrArg some (show Try.f260 = Body.n264 Try.laysRepeat_ren by kernel_rfl))
  f276 := Try.func264.trans (congrArg some (show Try.f264 = Body.n276 Try.laysRepeat_ren by kernel_rfl))
  f277 := Try.func265.trans (congrArg some (show Try.f265 = Body.n277 Try.laysRepeat_ren by kernel_rfl))
  t0 := Try.underlying0
  a0 := Try.isAgg0
  z0 := Try.sizeOf0
  v0 := Try.zeroValue0
  t3 := Try.underlying3
  a3 := Try.isAgg3
  z3 := Try.sizeOf3
  v3 := Try.zeroValue3
  t4 := Try.underlying4
  a4 := Try.isAgg4
  z4 := Try.sizeOf4
  v4 := Try.zeroValue4
  t5 := Try.underlying5
  a5 := Try.isAgg5
  z5 := Try.sizeOf5
  v5 := Try.zeroValue5
  t9 := Try.underlying9
  a9 := Try.isAgg9
  z9 := Try.sizeOf9
  v9 := Try.zeroValue9
  t20 := Try.underlying20
  a20 := Try.isAgg20
  z20 := Try.sizeOf20
  v20 := Try.zeroValue20
  t37 := Try.underlying34
  a37 := Try.isAgg34
  z37 := Try.sizeOf34
  v37 := Try.zeroValue34
  t46 := Try.underlying156
  a46 := Try.isAgg156
  z46 := Try.sizeOf156
  v46 := Try.zeroValue156
  t51 := Try.underlying69
  a51 := Try.isAgg69
  z51 := Try.sizeOf69
  v51 := Try.zeroValue69
  t53 := Try.underlying134
  a53 := Try.isAgg134
  z53 := Try.sizeOf134
  v53 := Try.zeroValue134
  t70 := Try.underlying265
  a70 := Try.isAgg265
  z70 := Try.sizeOf265
  v70 := Try.zeroValue265
  t72 := Try.underlying267
  a72 := Try.isAgg267
  z72 := Try.sizeOf267
  v72 := Try.zeroValue267
  t75 := Try.underlying270
  a75 := Try.isAgg270
  z75 := Try.sizeOf270
  v75 := Try.zeroValue270
  t76 := Try.underlying271
  a76 := Try.isAgg271
  z76 := Try.sizeOf271
  v76 := Try.zeroValue271
  t109 := Try.underlying262
  a109 := Try.isAgg262
  z109 := Try.sizeOf262
  v109 := Try.zeroValue262
  t127 := Try.underlying277
  a127 := Try.isAgg277
  z127 := Try.sizeOf277
  v127 := Try.zeroValue277
  t146 := Try.underlying273
  a146 := Try.isAgg273
  z146 := Try.sizeOf273
  v146 := Try.zeroValue273
  t148 := Try.underlying275
  a148 := Try.isAgg275
  z148 := Try.sizeOf275
  v148 := Try.zeroValue275
  t164 := Try.underlying278
  a164 := Try.isAgg278
  z164 := Try.sizeOf278
  v164 := Try.zeroValue278

theorem extraRepeat : Builder.Extra Try.prog Try.laysRepeat_ren where
  sizeBuilder := by kernel_rfl
  liesBuilder := by kernel_rfl
  t5 := Try.laysRepeat.t5
  a5 := Try.laysRepeat.a5
  z5 := Try.laysRepeat.z5
  v5 := Try.laysRepeat.v5
  infoByte := by kernel_rfl
  cellsByte := by kernel_rfl
  sizeByte := by kernel_rfl
  neB5 := by decide

theorem fRepeat : Try.laysRepeat_ren.f 105 = 251 := by kernel_rfl

theorem repB_list (s : ByteArray) : ∀ c, (⟨(Lib.repeatL s.data.toList c).toArray⟩ : ByteArray) = repB s c
  | 0 => rfl
  | c + 1 => by
    rw [repB, ← repB_list s c]
    apply ByteArray.ext
    simp [Lib.repeatL]

theorem soRepeat : Sound Try.prog 251 sgf_strings_Repeat := sound_Repeat ⟨Try.f251, by kernel_rfl, by kernel_rfl, by decide⟩ (fun s c w h1 h2 => by
    have h := Any.strings_Repeat Try.laysRepeat extraRepeat s c w (by omega) (by omega)
    rw [fRepeat] at h
    exact h.mono fun e w' ⟨h1, h2⟩ => ⟨by rw [h1, repB_list], h2.size, h2.block, h2.os, h2.tape, h2.output⟩)
end Go.Proofs.Ytncalmofbcmkaaa
