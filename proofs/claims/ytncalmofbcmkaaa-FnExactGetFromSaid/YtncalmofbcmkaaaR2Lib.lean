/- strings.Repeat does what its typed function says. -/
import Derived.Test.YtncalmofbcmkaaaProg
import Derived.Shelf.Strings.Repeat
import Derived.Shelf.Lay
import Derived.Ground.NamesProg
import Derived.Test.YtncalmofbcmkaaaEv3
set_option linter.all false
set_option maxRecDepth 100000
noncomputable section
namespace Go.Proofs.Ytncalmofbcmkaaa
open Go Go.Proofs.Ytncalmofbcmkaaa.Ev Go.Shelf Go.RowKit

shelf_lay Lays.n105 Nm 105 at Try as Try.laysRepeat

theorem extraRepeat : Builder.Extra Try.prog Try.laysRepeat_ren where
  sizeBuilder := by kernel_rfl
  liesBuilder := by kernel_rfl
  t5 := Try.laysRepeat.t5
  a5 := Try.laysRepeat.a5
  z5 := Try.laysRepeat.z5
  v5 := Try.laysRepeat.v5
  infoByte := by kernel_rfl
  cellsByte := by kernel_rfl
  sizeByte := by kernel_rfl
  neB5 := by decide

theorem fRepeat : Try.laysRepeat_ren.f 105 = 251 := by kernel_rfl

theorem repB_list (s : ByteArray) : ∀ c, (⟨(Lib.repeatL s.data.toList c).toArray⟩ : ByteArray) = repB s c
  | 0 => rfl
  | c + 1 => by
    rw [repB, ← repB_list s c]
    apply ByteArray.ext
    simp [Lib.repeatL]

theorem soRepeat : Sound Try.prog 251 sgf_strings_Repeat := sound_Repeat ⟨Try.f251, by kernel_rfl, by kernel_rfl, by decide⟩ (fun s c w h1 h2 => by
    have h := Any.strings_Repeat Try.laysRepeat extraRepeat s c w (by omega) (by omega)
    rw [fRepeat] at h
    exact h.mono fun e w' ⟨h1, h2⟩ => ⟨by rw [h1, repB_list], h2.size, h2.block, h2.os, h2.tape, h2.output⟩)
end Go.Proofs.Ytncalmofbcmkaaa
