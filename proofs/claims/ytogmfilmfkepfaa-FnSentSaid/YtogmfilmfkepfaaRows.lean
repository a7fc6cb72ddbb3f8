/-
  No cell of these rows narrows 'for every input' (looked for: loops, veiled, ifaces, maps, wideKeys, modest, calm, conditions, laid).
  DERIVED. THE GIVEN ROWS OF THIS SEAT. 5 by the template 'for every input the law returns true; each argument reads behind the call as it read before'; 0 by the template 'total and deterministic' (their statements: YtogmfilmfkepfaaTotals.lean).
  GIVEN WITH THE SEED: the statements are not yours to turn. If you find one false, say at which input.
  Laid BY PROGRAM, IN A SANDBOX (cutbox-rows.mjs): the forced cells as the released guide's own fill.sh prints them over the translation 62ea779c9899c62f… (all of the seat's roots in one cut). By AI agents, Wed Nov 11 2026. No macro, syntax, notation, axiom, sorry.
-/
import Derived.Test.YtogmfilmfkepfaaChecked
import GoSem.Claim
import GoSem.ClaimJoined
import GoSem.ClaimMapViews
import Derived.JoinedTies
import Derived.KernelRfl
namespace Go.Proofs.Ytogmfilmfkepfaa
/- THE CELL 'sum', in the pinned program and in every row, IS THE sha256 OF THE DUMP (.gsa) THAT YtogmfilmfkepfaaProg.lean LOADS. Nothing in Lean hashes anything: it is a label: what it is worth is what the hold of that sum in a sandbox is worth. -/
noncomputable def Try.pinned : Pinned := { name := "ytogmfilmfkepfaa", sum := "62ea779c9899c62f275e6327e34f11c1d5dbc558124edebafc1d9d875ecd1173", checked := Try.checked }
namespace Rows
def none {H : Type} : Left H := { results := [], args := [] }

/-- 'laws.FnExactChangesOf': WHATEVER THE INPUT: true; the input reads as it did. -/
def fnExactChangesOfSpec : ChangeSpec := { name := "fnExactChangesOf", fn := fun _ => fun
  | [d] => { results := [.lit (.bool true)], args := [d] }
  | _ => none }
def fnExactChangesOfRow : OpenClaim := { program := "ytogmfilmfkepfaa", sum := "62ea779c9899c62f275e6327e34f11c1d5dbc558124edebafc1d9d875ecd1173", func := "loop.example/g00224/laws.FnExactChangesOf", spec := "fnExactChangesOf", inPlace := ["slices.overlaps[loop.example/g00224/impl.Session]", "slices.overlaps[loop.example/g00224/impl.Pair]"], unfollowed := true, recurses := true, apart := false }
def FnExactChangesOfSaid : Prop := fnExactChangesOfRow.holds Try.pinned (OpenSpec.ofChange fnExactChangesOfSpec)

/-- ITS FALSE NEIGHBOUR: 'it returns false'. Refute it at one input. -/
def fnExactChangesOfWrong : ChangeSpec := { name := "fnExactChangesOf", fn := fun _ => fun
  | [d] => { results := [.lit (.bool false)], args := [d] }
  | _ => none }
def FnExactChangesOfWrongFalsely : Prop := fnExactChangesOfRow.holds Try.pinned (OpenSpec.ofChange fnExactChangesOfWrong)

/-- 'laws.FnCommands': WHATEVER THE INPUT: true; the input reads as it did. -/
def fnCommandsSpec : ChangeSpec := { name := "fnCommands", fn := fun _ => fun
  | [d1, d2] => { results := [.lit (.bool true)], args := [d1, d2] }
  | _ => none }
def fnCommandsRow : OpenClaim := { program := "ytogmfilmfkepfaa", sum := "62ea779c9899c62f275e6327e34f11c1d5dbc558124edebafc1d9d875ecd1173", func := "loop.example/g00224/laws.FnCommands", spec := "fnCommands", inPlace := ["slices.overlaps[loop.example/g00224/impl.Session]", "slices.overlaps[loop.example/g00224/impl.Pair]"], unfollowed := true, recurses := true, apart := false }
def FnCommandsSaid : Prop := fnCommandsRow.holds Try.pinned (OpenSpec.ofChange fnCommandsSpec)

/-- ITS FALSE NEIGHBOUR: 'it returns false'. Refute it at one input. -/
def fnCommandsWrong : ChangeSpec := { name := "fnCommands", fn := fun _ => fun
  | [d1, d2] => { results := [.lit (.bool false)], args := [d1, d2] }
  | _ => none }
def FnCommandsWrongFalsely : Prop := fnCommandsRow.holds Try.pinned (OpenSpec.ofChange fnCommandsWrong)

/-- 'laws.FnExactFoldCommands': WHATEVER THE INPUT: true; the input reads as it did. -/
def fnExactFoldCommandsSpec : ChangeSpec := { name := "fnExactFoldCommands", fn := fun _ => fun
  | [d] => { results := [.lit (.bool true)], args := [d] }
  | _ => none }
def fnExactFoldCommandsRow : OpenClaim := { program := "ytogmfilmfkepfaa", sum := "62ea779c9899c62f275e6327e34f11c1d5dbc558124edebafc1d9d875ecd1173", func := "loop.example/g00224/laws.FnExactFoldCommands", spec := "fnExactFoldCommands", inPlace := ["slices.overlaps[loop.example/g00224/impl.Session]", "slices.overlaps[loop.example/g00224/impl.Pair]"], unfollowed := true, recurses := true, apart := false }
def FnExactFoldCommandsSaid : Prop := fnExactFoldCommandsRow.holds Try.pinned (OpenSpec.ofChange fnExactFoldCommandsSpec)

/-- ITS FALSE NEIGHBOUR: 'it returns false'. Refute it at one input. -/
def fnExactFoldCommandsWrong : ChangeSpec := { name := "fnExactFoldCommands", fn := fun _ => fun
  | [d] => { results := [.lit (.bool false)], args := [d] }
  | _ => none }
def FnExactFoldCommandsWrongFalsely : Prop := fnExactFoldCommandsRow.holds Try.pinned (OpenSpec.ofChange fnExactFoldCommandsWrong)

/-- 'laws.FnSent': WHATEVER THE INPUT: true; the input reads as it did. -/
def fnSentSpec : ChangeSpec := { name := "fnSent", fn := fun _ => fun
  | [d] => { results := [.lit (.bool true)], args := [d] }
  | _ => none }
def fnSentRow : OpenClaim := { program := "ytogmfilmfkepfaa", sum := "62ea779c9899c62f275e6327e34f11c1d5dbc558124edebafc1d9d875ecd1173", func := "loop.example/g00224/laws.FnSent", spec := "fnSent", inPlace := ["slices.overlaps[loop.example/g00224/impl.Chunk]"], unfollowed := true, recurses := true, apart := false }
def FnSentSaid : Prop := fnSentRow.holds Try.pinned (OpenSpec.ofChange fnSentSpec)

/-- ITS FALSE NEIGHBOUR: 'it returns false'. Refute it at one input. -/
def fnSentWrong : ChangeSpec := { name := "fnSent", fn := fun _ => fun
  | [d] => { results := [.lit (.bool false)], args := [d] }
  | _ => none }
def FnSentWrongFalsely : Prop := fnSentRow.holds Try.pinned (OpenSpec.ofChange fnSentWrong)

/-- 'laws.FnTaking': WHATEVER THE INPUT: true; the input reads as it did. -/
def fnTakingSpec : ChangeSpec := { name := "fnTaking", fn := fun _ => fun
  | [d1, d2] => { results := [.lit (.bool true)], args := [d1, d2] }
  | _ => none }
def fnTakingRow : OpenClaim := { program := "ytogmfilmfkepfaa", sum := "62ea779c9899c62f275e6327e34f11c1d5dbc558124edebafc1d9d875ecd1173", func := "loop.example/g00224/laws.FnTaking", spec := "fnTaking", inPlace := ["slices.overlaps[loop.example/g00224/impl.Chunk]"], unfollowed := true, recurses := true, apart := false }
def FnTakingSaid : Prop := fnTakingRow.holds Try.pinned (OpenSpec.ofChange fnTakingSpec)

/-- ITS FALSE NEIGHBOUR: 'it returns false'. Refute it at one input. -/
def fnTakingWrong : ChangeSpec := { name := "fnTaking", fn := fun _ => fun
  | [d1, d2] => { results := [.lit (.bool false)], args := [d1, d2] }
  | _ => none }
def FnTakingWrongFalsely : Prop := fnTakingRow.holds Try.pinned (OpenSpec.ofChange fnTakingWrong)

/- THE SECOND FORM. 'bulk': how many values and letters a reading holds, each counted each time it is reached (what is shared counts as often as it is met; a slice's spare places count too). A statement '..UptoSaid' is the law's where the arguments, and the package variables that the reading takes, are together of bulk at most 1048576: NARROWER than '..Said'. Prove '..Said' where nothing that the law and all that it calls make is longer than what came in: it says more and counts as full. Else prove '..UptoSaid'. A law counts once. -/
mutual
def uptoBulk {H : Type} : DataW H → Nat
  | .lit (.string bytes) => bytes.length + 1
  | .lit _ => 1
  | .nil => 1
  | .ptr d => uptoBulk d + 1
  | .slice elems spare => uptoBulkAll elems + uptoBulkAll spare + 1
  | .agg parts => uptoBulkAll parts + 1
  | .iface _ d => uptoBulk d + 1
  | .map entries => uptoBulkEntries entries + 1
  | .held _ => 1
def uptoBulkAll {H : Type} : List (DataW H) → Nat
  | [] => 0
  | d :: r => uptoBulk d + uptoBulkAll r
def uptoBulkEntries {H : Type} : List (Lit × DataW H) → Nat
  | [] => 0
  | x :: r => uptoBulkEntry x + uptoBulkEntries r
def uptoBulkEntry {H : Type} : Lit × DataW H → Nat
  | (.string bytes, d) => bytes.length + uptoBulk d + 1
  | (_, d) => uptoBulk d + 1
 end
def uptoSmall : (H : Type) → List (DataW H) → Bool := fun _ ds => decide (uptoBulkAll ds ≤ 1048576)
def OpenSpec.upto (s : _root_.Go.ChangeSpec) : _root_.Go.OpenSpec := { _root_.Go.OpenSpec.ofChange s with cond := some uptoSmall }

/-- 'laws.FnExactChangesOf', WHERE WHAT IT READS IS OF BULK AT MOST 1048576: true; the input reads as it did. -/
def fnExactChangesOfUptoRow : OpenClaim := { program := "ytogmfilmfkepfaa", sum := "62ea779c9899c62f275e6327e34f11c1d5dbc558124edebafc1d9d875ecd1173", func := "loop.example/g00224/laws.FnExactChangesOf", spec := "fnExactChangesOf", inPlace := ["slices.overlaps[loop.example/g00224/impl.Session]", "slices.overlaps[loop.example/g00224/impl.Pair]"], unfollowed := true, recurses := true, apart := false, narrowed := true }
def FnExactChangesOfUptoSaid : Prop := fnExactChangesOfUptoRow.holds Try.pinned (OpenSpec.upto fnExactChangesOfSpec)

/-- 'laws.FnCommands', WHERE WHAT IT READS IS OF BULK AT MOST 1048576: true; the input reads as it did. -/
def fnCommandsUptoRow : OpenClaim := { program := "ytogmfilmfkepfaa", sum := "62ea779c9899c62f275e6327e34f11c1d5dbc558124edebafc1d9d875ecd1173", func := "loop.example/g00224/laws.FnCommands", spec := "fnCommands", inPlace := ["slices.overlaps[loop.example/g00224/impl.Session]", "slices.overlaps[loop.example/g00224/impl.Pair]"], unfollowed := true, recurses := true, apart := false, narrowed := true }
def FnCommandsUptoSaid : Prop := fnCommandsUptoRow.holds Try.pinned (OpenSpec.upto fnCommandsSpec)

/-- 'laws.FnExactFoldCommands', WHERE WHAT IT READS IS OF BULK AT MOST 1048576: true; the input reads as it did. -/
def fnExactFoldCommandsUptoRow : OpenClaim := { program := "ytogmfilmfkepfaa", sum := "62ea779c9899c62f275e6327e34f11c1d5dbc558124edebafc1d9d875ecd1173", func := "loop.example/g00224/laws.FnExactFoldCommands", spec := "fnExactFoldCommands", inPlace := ["slices.overlaps[loop.example/g00224/impl.Session]", "slices.overlaps[loop.example/g00224/impl.Pair]"], unfollowed := true, recurses := true, apart := false, narrowed := true }
def FnExactFoldCommandsUptoSaid : Prop := fnExactFoldCommandsUptoRow.holds Try.pinned (OpenSpec.upto fnExactFoldCommandsSpec)

/-- 'laws.FnSent', WHERE WHAT IT READS IS OF BULK AT MOST 1048576: true; the input reads as it did. -/
def fnSentUptoRow : OpenClaim := { program := "ytogmfilmfkepfaa", sum := "62ea779c9899c62f275e6327e34f11c1d5dbc558124edebafc1d9d875ecd1173", func := "loop.example/g00224/laws.FnSent", spec := "fnSent", inPlace := ["slices.overlaps[loop.example/g00224/impl.Chunk]"], unfollowed := true, recurses := true, apart := false, narrowed := true }
def FnSentUptoSaid : Prop := fnSentUptoRow.holds Try.pinned (OpenSpec.upto fnSentSpec)

/-- 'laws.FnTaking', WHERE WHAT IT READS IS OF BULK AT MOST 1048576: true; the input reads as it did. -/
def fnTakingUptoRow : OpenClaim := { program := "ytogmfilmfkepfaa", sum := "62ea779c9899c62f275e6327e34f11c1d5dbc558124edebafc1d9d875ecd1173", func := "loop.example/g00224/laws.FnTaking", spec := "fnTaking", inPlace := ["slices.overlaps[loop.example/g00224/impl.Chunk]"], unfollowed := true, recurses := true, apart := false, narrowed := true }
def FnTakingUptoSaid : Prop := fnTakingUptoRow.holds Try.pinned (OpenSpec.upto fnTakingSpec)

end Rows
end Go.Proofs.Ytogmfilmfkepfaa
