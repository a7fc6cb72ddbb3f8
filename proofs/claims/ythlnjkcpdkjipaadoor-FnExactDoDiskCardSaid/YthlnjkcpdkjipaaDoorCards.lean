/-
  DERIVED. GIVEN WITH THE SEED: THE CARDS: each row of YthlnjkcpdkjipaaDoorRows.lean that lists a variable, with what it lists TIED to the program's text (the seventh form; the later family's looks); each row that meets fmt, with fmt's text TOLD by the authors' own Lean function (tested against real Go, not proved from fmt's source: count such statements apart). THE CARD IS WHAT COUNTS. Prove the row's statement (the work); the ties are given (YthlnjkcpdkjipaaDoorTie.lean); close each card by the builder's one call (the guide's Derived/Test/ToyasCard.lean, 'card_holds'). Laid BY PROGRAM, IN A SANDBOX (cutbox-door.mjs). By AI agents, Wed Nov 11 2026. No macro, syntax, notation, axiom, sorry.
-/
import Derived.Test.YthlnjkcpdkjipaaDoorRows
import GoSem.ClaimSeven
namespace Go.Proofs.YthlnjkcpdkjipaaDoor
namespace Rows

/-- THE TIED CARD OF 'laws.FnExactPlayDisk'. -/
def fnExactPlayDiskCard : Claim7 := { stood := { row := fnExactPlayDiskRow, standIns := [], harness := (true, "168b628d8fbba0d5576509ed827168722a034af60095867c367abfdad5e4e49e"), looks := false }, kinds := [], alts := [], laidByText := true, laidKinds := [.data, .pinned], laidTests := true, laidLooks := .later }
def FnExactPlayDiskCardSaid : Prop := Claim7.holds Tryd.pinned (.plain (OpenSpec.ofChange fnExactPlayDiskSpec)) fnExactPlayDiskCard

/-- THE TIED CARD OF 'laws.FnDisk'. -/
def fnDiskCard : Claim7 := { stood := { row := fnDiskRow, standIns := [], harness := (true, "168b628d8fbba0d5576509ed827168722a034af60095867c367abfdad5e4e49e"), looks := false }, kinds := [], alts := [], laidByText := true, laidKinds := [.data, .pinned], laidTests := true, laidLooks := .later }
def FnDiskCardSaid : Prop := Claim7.holds Tryd.pinned (.plain (OpenSpec.ofChange fnDiskSpec)) fnDiskCard

/-- THE TIED CARD OF 'laws.FnRenamed'. -/
def fnRenamedCard : Claim7 := { stood := { row := fnRenamedRow, standIns := [], harness := (true, "168b628d8fbba0d5576509ed827168722a034af60095867c367abfdad5e4e49e"), looks := false }, kinds := [], alts := [], laidByText := true, laidKinds := [.data, .pinned], laidTests := true, laidLooks := .later }
def FnRenamedCardSaid : Prop := Claim7.holds Tryd.pinned (.plain (OpenSpec.ofChange fnRenamedSpec)) fnRenamedCard

/-- THE TIED CARD OF 'laws.FnExactDoDisk'. -/
def fnExactDoDiskCard : Claim7 := { stood := { row := fnExactDoDiskRow, standIns := [], harness := (true, "168b628d8fbba0d5576509ed827168722a034af60095867c367abfdad5e4e49e"), looks := false }, kinds := [], alts := [], laidByText := true, laidKinds := [.data, .pinned], laidTests := true, laidLooks := .later }
def FnExactDoDiskCardSaid : Prop := Claim7.holds Tryd.pinned (.plain (OpenSpec.ofChange fnExactDoDiskSpec)) fnExactDoDiskCard

/-- THE SECOND FORM's CARD OF 'laws.FnExactPlayDisk'. -/
def fnExactPlayDiskUptoCard : Claim7 := { stood := { row := fnExactPlayDiskUptoRow, standIns := [], harness := (true, "168b628d8fbba0d5576509ed827168722a034af60095867c367abfdad5e4e49e"), looks := false }, kinds := [], alts := [], laidByText := true, laidKinds := [.data, .pinned], laidTests := true, laidLooks := .later }
def FnExactPlayDiskUptoCardSaid : Prop := Claim7.holds Tryd.pinned (.plain (OpenSpec.upto fnExactPlayDiskSpec)) fnExactPlayDiskUptoCard

/-- THE SECOND FORM's CARD OF 'laws.FnDisk'. -/
def fnDiskUptoCard : Claim7 := { stood := { row := fnDiskUptoRow, standIns := [], harness := (true, "168b628d8fbba0d5576509ed827168722a034af60095867c367abfdad5e4e49e"), looks := false }, kinds := [], alts := [], laidByText := true, laidKinds := [.data, .pinned], laidTests := true, laidLooks := .later }
def FnDiskUptoCardSaid : Prop := Claim7.holds Tryd.pinned (.plain (OpenSpec.upto fnDiskSpec)) fnDiskUptoCard

/-- THE SECOND FORM's CARD OF 'laws.FnRenamed'. -/
def fnRenamedUptoCard : Claim7 := { stood := { row := fnRenamedUptoRow, standIns := [], harness := (true, "168b628d8fbba0d5576509ed827168722a034af60095867c367abfdad5e4e49e"), looks := false }, kinds := [], alts := [], laidByText := true, laidKinds := [.data, .pinned], laidTests := true, laidLooks := .later }
def FnRenamedUptoCardSaid : Prop := Claim7.holds Tryd.pinned (.plain (OpenSpec.upto fnRenamedSpec)) fnRenamedUptoCard

/-- THE SECOND FORM's CARD OF 'laws.FnExactDoDisk'. -/
def fnExactDoDiskUptoCard : Claim7 := { stood := { row := fnExactDoDiskUptoRow, standIns := [], harness := (true, "168b628d8fbba0d5576509ed827168722a034af60095867c367abfdad5e4e49e"), looks := false }, kinds := [], alts := [], laidByText := true, laidKinds := [.data, .pinned], laidTests := true, laidLooks := .later }
def FnExactDoDiskUptoCardSaid : Prop := Claim7.holds Tryd.pinned (.plain (OpenSpec.upto fnExactDoDiskSpec)) fnExactDoDiskUptoCard
end Rows
end Go.Proofs.YthlnjkcpdkjipaaDoor
