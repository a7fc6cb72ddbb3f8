/-
  No cell of these rows narrows 'for every input' (looked for: loops, veiled, ifaces, maps, wideKeys, modest, calm, conditions, laid).
  DERIVED. THE GIVEN ROWS OF THIS SEAT. 3 by the template 'for every input the law returns true; each argument reads behind the call as it read before'; 0 by the template 'total and deterministic' (their statements: YtbekojfgnbnpcaaTotals.lean).
  GIVEN WITH THE SEED: the statements are not yours to turn. If you find one false, say at which input.
  Laid BY PROGRAM, IN A SANDBOX (cutbox-rows.mjs): the forced cells as the released guide's own fill.sh prints them over the translation 79879db5d63d5ceb… (all of the seat's roots in one cut). By AI agents, Wed Nov 11 2026. No macro, syntax, notation, axiom, sorry.
-/
import Derived.Test.YtbekojfgnbnpcaaChecked
import GoSem.Claim
import GoSem.ClaimJoined
import GoSem.ClaimMapViews
import Derived.JoinedTies
import Derived.KernelRfl
namespace Go.Proofs.Ytbekojfgnbnpcaa
/- THE CELL 'sum', in the pinned program and in every row, IS THE sha256 OF THE DUMP (.gsa) THAT YtbekojfgnbnpcaaProg.lean LOADS. Nothing in Lean hashes anything: it is a label: what it is worth is what the hold of that sum in a sandbox is worth. -/
noncomputable def Try.pinned : Pinned := { name := "ytbekojfgnbnpcaa", sum := "79879db5d63d5cebd203e2d48901d4806924aa635f20669d358075d8eb2aa040", checked := Try.checked }
namespace Rows
def none {H : Type} : Left H := { results := [], args := [] }

/-- 'laws.FnExactRecoverVersion': WHATEVER THE INPUT: true; the input reads as it did. -/
def fnExactRecoverVersionSpec : ChangeSpec := { name := "fnExactRecoverVersion", fn := fun _ => fun
  | [d] => { results := [.lit (.bool true)], args := [d] }
  | _ => none }
def fnExactRecoverVersionRow : OpenClaim := { program := "ytbekojfgnbnpcaa", sum := "79879db5d63d5cebd203e2d48901d4806924aa635f20669d358075d8eb2aa040", func := "loop.example/g00224/laws.FnExactRecoverVersion", spec := "fnExactRecoverVersion", unfollowed := true, recurses := true, apart := false }
def FnExactRecoverVersionSaid : Prop := fnExactRecoverVersionRow.holds Try.pinned (OpenSpec.ofChange fnExactRecoverVersionSpec)

/-- ITS FALSE NEIGHBOUR: 'it returns false'. Refute it at one input. -/
def fnExactRecoverVersionWrong : ChangeSpec := { name := "fnExactRecoverVersion", fn := fun _ => fun
  | [d] => { results := [.lit (.bool false)], args := [d] }
  | _ => none }
def FnExactRecoverVersionWrongFalsely : Prop := fnExactRecoverVersionRow.holds Try.pinned (OpenSpec.ofChange fnExactRecoverVersionWrong)

/-- 'laws.FnRecovered': WHATEVER THE INPUT: true; the input reads as it did. -/
def fnRecoveredSpec : ChangeSpec := { name := "fnRecovered", fn := fun _ => fun
  | [d1, d2] => { results := [.lit (.bool true)], args := [d1, d2] }
  | _ => none }
def fnRecoveredRow : OpenClaim := { program := "ytbekojfgnbnpcaa", sum := "79879db5d63d5cebd203e2d48901d4806924aa635f20669d358075d8eb2aa040", func := "loop.example/g00224/laws.FnRecovered", spec := "fnRecovered", unfollowed := true, recurses := true, apart := false }
def FnRecoveredSaid : Prop := fnRecoveredRow.holds Try.pinned (OpenSpec.ofChange fnRecoveredSpec)

/-- ITS FALSE NEIGHBOUR: 'it returns false'. Refute it at one input. -/
def fnRecoveredWrong : ChangeSpec := { name := "fnRecovered", fn := fun _ => fun
  | [d1, d2] => { results := [.lit (.bool false)], args := [d1, d2] }
  | _ => none }
def FnRecoveredWrongFalsely : Prop := fnRecoveredRow.holds Try.pinned (OpenSpec.ofChange fnRecoveredWrong)

/-- 'laws.FnTaking': WHATEVER THE INPUT: true; the input reads as it did. -/
def fnTakingSpec : ChangeSpec := { name := "fnTaking", fn := fun _ => fun
  | [d1, d2] => { results := [.lit (.bool true)], args := [d1, d2] }
  | _ => none }
def fnTakingRow : OpenClaim := { program := "ytbekojfgnbnpcaa", sum := "79879db5d63d5cebd203e2d48901d4806924aa635f20669d358075d8eb2aa040", func := "loop.example/g00224/laws.FnTaking", spec := "fnTaking", inPlace := ["slices.overlaps[loop.example/g00224/impl.Chunk]"], unfollowed := true, recurses := true, apart := false }
def FnTakingSaid : Prop := fnTakingRow.holds Try.pinned (OpenSpec.ofChange fnTakingSpec)

/-- ITS FALSE NEIGHBOUR: 'it returns false'. Refute it at one input. -/
def fnTakingWrong : ChangeSpec := { name := "fnTaking", fn := fun _ => fun
  | [d1, d2] => { results := [.lit (.bool false)], args := [d1, d2] }
  | _ => none }
def FnTakingWrongFalsely : Prop := fnTakingRow.holds Try.pinned (OpenSpec.ofChange fnTakingWrong)

/- THE SECOND FORM. 'bulk': how many values and letters a reading holds, each counted each time it is reached (what is shared counts as often as it is met; a slice's spare places count too). A statement '..UptoSaid' is the law's where the arguments, and the package variables that the reading takes, are together of bulk at most 1048576: NARROWER than '..Said'. Prove '..Said' where nothing that the law and all that it calls make is longer than what came in: it says more and counts as full. Else prove '..UptoSaid'. A law counts once. -/
mutual
def uptoBulk {H : Type} : DataW H → Nat
  | .lit (.string bytes) => bytes.length + 1
  | .lit _ => 1
  | .nil => 1
  | .ptr d => uptoBulk d + 1
  | .slice elems spare => uptoBulkAll elems + uptoBulkAll spare + 1
  | .agg parts => uptoBulkAll parts + 1
  | .iface _ d => uptoBulk d + 1
  | .map entries => uptoBulkEntries entries + 1
  | .held _ => 1
def uptoBulkAll {H : Type} : List (DataW H) → Nat
  | [] => 0
  | d :: r => uptoBulk d + uptoBulkAll r
def uptoBulkEntries {H : Type} : List (Lit × DataW H) → Nat
  | [] => 0
  | x :: r => uptoBulkEntry x + uptoBulkEntries r
def uptoBulkEntry {H : Type} : Lit × DataW H → Nat
  | (.string bytes, d) => bytes.length + uptoBulk d + 1
  | (_, d) => uptoBulk d + 1
 end
def uptoSmall : (H : Type) → List (DataW H) → Bool := fun _ ds => decide (uptoBulkAll ds ≤ 1048576)
def OpenSpec.upto (s : _root_.Go.ChangeSpec) : _root_.Go.OpenSpec := { _root_.Go.OpenSpec.ofChange s with cond := some uptoSmall }

/-- 'laws.FnExactRecoverVersion', WHERE WHAT IT READS IS OF BULK AT MOST 1048576: true; the input reads as it did. -/
def fnExactRecoverVersionUptoRow : OpenClaim := { program := "ytbekojfgnbnpcaa", sum := "79879db5d63d5cebd203e2d48901d4806924aa635f20669d358075d8eb2aa040", func := "loop.example/g00224/laws.FnExactRecoverVersion", spec := "fnExactRecoverVersion", unfollowed := true, recurses := true, apart := false, narrowed := true }
def FnExactRecoverVersionUptoSaid : Prop := fnExactRecoverVersionUptoRow.holds Try.pinned (OpenSpec.upto fnExactRecoverVersionSpec)

/-- 'laws.FnRecovered', WHERE WHAT IT READS IS OF BULK AT MOST 1048576: true; the input reads as it did. -/
def fnRecoveredUptoRow : OpenClaim := { program := "ytbekojfgnbnpcaa", sum := "79879db5d63d5cebd203e2d48901d4806924aa635f20669d358075d8eb2aa040", func := "loop.example/g00224/laws.FnRecovered", spec := "fnRecovered", unfollowed := true, recurses := true, apart := false, narrowed := true }
def FnRecoveredUptoSaid : Prop := fnRecoveredUptoRow.holds Try.pinned (OpenSpec.upto fnRecoveredSpec)

/-- 'laws.FnTaking', WHERE WHAT IT READS IS OF BULK AT MOST 1048576: true; the input reads as it did. -/
def fnTakingUptoRow : OpenClaim := { program := "ytbekojfgnbnpcaa", sum := "79879db5d63d5cebd203e2d48901d4806924aa635f20669d358075d8eb2aa040", func := "loop.example/g00224/laws.FnTaking", spec := "fnTaking", inPlace := ["slices.overlaps[loop.example/g00224/impl.Chunk]"], unfollowed := true, recurses := true, apart := false, narrowed := true }
def FnTakingUptoSaid : Prop := fnTakingUptoRow.holds Try.pinned (OpenSpec.upto fnTakingSpec)

end Rows
end Go.Proofs.Ytbekojfgnbnpcaa
