/-
  No cell of these rows narrows 'for every input' (looked for: loops, veiled, ifaces, maps, wideKeys, modest, calm, conditions, laid).
  DERIVED. THE GIVEN ROWS OF THIS SEAT. 6 by the template 'for every input the law returns true; each argument reads behind the call as it read before'; 0 by the template 'total and deterministic' (their statements: YtpegmiofhfmepaaTotals.lean).
  GIVEN WITH THE SEED: the statements are not yours to turn. If you find one false, say at which input.
  Laid BY PROGRAM, IN A SANDBOX (cutbox-rows.mjs): the forced cells as the released guide's own fill.sh prints them over the translation fb2dcf98f3660e67… (all of the seat's roots in one cut). By AI agents, Wed Nov 11 2026. No macro, syntax, notation, axiom, sorry.
-/
import Derived.Test.YtpegmiofhfmepaaChecked
import GoSem.Claim
import GoSem.ClaimJoined
import GoSem.ClaimMapViews
import Derived.JoinedTies
import Derived.KernelRfl
namespace Go.Proofs.Ytpegmiofhfmepaa
/- THE CELL 'sum', in the pinned program and in every row, IS THE sha256 OF THE DUMP (.gsa) THAT YtpegmiofhfmepaaProg.lean LOADS. Nothing in Lean hashes anything: it is a label: what it is worth is what the hold of that sum in a sandbox is worth. -/
noncomputable def Try.pinned : Pinned := { name := "ytpegmiofhfmepaa", sum := "fb2dcf98f3660e6732c7951db786d2e81a3f11fa6572e70e6d97c69f30b4c4e4", checked := Try.checked }
namespace Rows
def none {H : Type} : Left H := { results := [], args := [] }

/-- 'laws.FnExactReadCommand': WHATEVER THE INPUT: true; the input reads as it did. -/
def fnExactReadCommandSpec : ChangeSpec := { name := "fnExactReadCommand", fn := fun _ => fun
  | [d] => { results := [.lit (.bool true)], args := [d] }
  | _ => none }
def fnExactReadCommandRow : OpenClaim := { program := "ytpegmiofhfmepaa", sum := "fb2dcf98f3660e6732c7951db786d2e81a3f11fa6572e70e6d97c69f30b4c4e4", func := "loop.example/g00224/laws.FnExactReadCommand", spec := "fnExactReadCommand", apart := false }
def FnExactReadCommandSaid : Prop := fnExactReadCommandRow.holds Try.pinned (OpenSpec.ofChange fnExactReadCommandSpec)

/-- ITS FALSE NEIGHBOUR: 'it returns false'. Refute it at one input. -/
def fnExactReadCommandWrong : ChangeSpec := { name := "fnExactReadCommand", fn := fun _ => fun
  | [d] => { results := [.lit (.bool false)], args := [d] }
  | _ => none }
def FnExactReadCommandWrongFalsely : Prop := fnExactReadCommandRow.holds Try.pinned (OpenSpec.ofChange fnExactReadCommandWrong)

/-- 'laws.FnExactReadEdit': WHATEVER THE INPUT: true; the input reads as it did. -/
def fnExactReadEditSpec : ChangeSpec := { name := "fnExactReadEdit", fn := fun _ => fun
  | [d] => { results := [.lit (.bool true)], args := [d] }
  | _ => none }
def fnExactReadEditRow : OpenClaim := { program := "ytpegmiofhfmepaa", sum := "fb2dcf98f3660e6732c7951db786d2e81a3f11fa6572e70e6d97c69f30b4c4e4", func := "loop.example/g00224/laws.FnExactReadEdit", spec := "fnExactReadEdit", apart := false }
def FnExactReadEditSaid : Prop := fnExactReadEditRow.holds Try.pinned (OpenSpec.ofChange fnExactReadEditSpec)

/-- ITS FALSE NEIGHBOUR: 'it returns false'. Refute it at one input. -/
def fnExactReadEditWrong : ChangeSpec := { name := "fnExactReadEdit", fn := fun _ => fun
  | [d] => { results := [.lit (.bool false)], args := [d] }
  | _ => none }
def FnExactReadEditWrongFalsely : Prop := fnExactReadEditRow.holds Try.pinned (OpenSpec.ofChange fnExactReadEditWrong)

/-- 'laws.FnExactFirstIn': WHATEVER THE INPUT: true; the input reads as it did. -/
def fnExactFirstInSpec : ChangeSpec := { name := "fnExactFirstIn", fn := fun _ => fun
  | [d] => { results := [.lit (.bool true)], args := [d] }
  | _ => none }
def fnExactFirstInRow : OpenClaim := { program := "ytpegmiofhfmepaa", sum := "fb2dcf98f3660e6732c7951db786d2e81a3f11fa6572e70e6d97c69f30b4c4e4", func := "loop.example/g00224/laws.FnExactFirstIn", spec := "fnExactFirstIn", apart := false }
def FnExactFirstInSaid : Prop := fnExactFirstInRow.holds Try.pinned (OpenSpec.ofChange fnExactFirstInSpec)

/-- ITS FALSE NEIGHBOUR: 'it returns false'. Refute it at one input. -/
def fnExactFirstInWrong : ChangeSpec := { name := "fnExactFirstIn", fn := fun _ => fun
  | [d] => { results := [.lit (.bool false)], args := [d] }
  | _ => none }
def FnExactFirstInWrongFalsely : Prop := fnExactFirstInRow.holds Try.pinned (OpenSpec.ofChange fnExactFirstInWrong)

/-- 'laws.FnExactRestartsOf': WHATEVER THE INPUT: true; the input reads as it did. -/
def fnExactRestartsOfSpec : ChangeSpec := { name := "fnExactRestartsOf", fn := fun _ => fun
  | [d] => { results := [.lit (.bool true)], args := [d] }
  | _ => none }
def fnExactRestartsOfRow : OpenClaim := { program := "ytpegmiofhfmepaa", sum := "fb2dcf98f3660e6732c7951db786d2e81a3f11fa6572e70e6d97c69f30b4c4e4", func := "loop.example/g00224/laws.FnExactRestartsOf", spec := "fnExactRestartsOf", apart := false }
def FnExactRestartsOfSaid : Prop := fnExactRestartsOfRow.holds Try.pinned (OpenSpec.ofChange fnExactRestartsOfSpec)

/-- ITS FALSE NEIGHBOUR: 'it returns false'. Refute it at one input. -/
def fnExactRestartsOfWrong : ChangeSpec := { name := "fnExactRestartsOf", fn := fun _ => fun
  | [d] => { results := [.lit (.bool false)], args := [d] }
  | _ => none }
def FnExactRestartsOfWrongFalsely : Prop := fnExactRestartsOfRow.holds Try.pinned (OpenSpec.ofChange fnExactRestartsOfWrong)

/-- 'laws.FnExactReadBlock': WHATEVER THE INPUT: true; the input reads as it did. -/
def fnExactReadBlockSpec : ChangeSpec := { name := "fnExactReadBlock", fn := fun _ => fun
  | [d] => { results := [.lit (.bool true)], args := [d] }
  | _ => none }
def fnExactReadBlockRow : OpenClaim := { program := "ytpegmiofhfmepaa", sum := "fb2dcf98f3660e6732c7951db786d2e81a3f11fa6572e70e6d97c69f30b4c4e4", func := "loop.example/g00224/laws.FnExactReadBlock", spec := "fnExactReadBlock", apart := false }
def FnExactReadBlockSaid : Prop := fnExactReadBlockRow.holds Try.pinned (OpenSpec.ofChange fnExactReadBlockSpec)

/-- ITS FALSE NEIGHBOUR: 'it returns false'. Refute it at one input. -/
def fnExactReadBlockWrong : ChangeSpec := { name := "fnExactReadBlock", fn := fun _ => fun
  | [d] => { results := [.lit (.bool false)], args := [d] }
  | _ => none }
def FnExactReadBlockWrongFalsely : Prop := fnExactReadBlockRow.holds Try.pinned (OpenSpec.ofChange fnExactReadBlockWrong)

/-- 'laws.FnBlocks': WHATEVER THE INPUT: true; the input reads as it did. -/
def fnBlocksSpec : ChangeSpec := { name := "fnBlocks", fn := fun _ => fun
  | [d] => { results := [.lit (.bool true)], args := [d] }
  | _ => none }
def fnBlocksRow : OpenClaim := { program := "ytpegmiofhfmepaa", sum := "fb2dcf98f3660e6732c7951db786d2e81a3f11fa6572e70e6d97c69f30b4c4e4", func := "loop.example/g00224/laws.FnBlocks", spec := "fnBlocks", apart := false }
def FnBlocksSaid : Prop := fnBlocksRow.holds Try.pinned (OpenSpec.ofChange fnBlocksSpec)

/-- ITS FALSE NEIGHBOUR: 'it returns false'. Refute it at one input. -/
def fnBlocksWrong : ChangeSpec := { name := "fnBlocks", fn := fun _ => fun
  | [d] => { results := [.lit (.bool false)], args := [d] }
  | _ => none }
def FnBlocksWrongFalsely : Prop := fnBlocksRow.holds Try.pinned (OpenSpec.ofChange fnBlocksWrong)

/- THE SECOND FORM. 'bulk': how many values and letters a reading holds, each counted each time it is reached (what is shared counts as often as it is met; a slice's spare places count too). A statement '..UptoSaid' is the law's where the arguments, and the package variables that the reading takes, are together of bulk at most 1048576: NARROWER than '..Said'. Prove '..Said' where nothing that the law and all that it calls make is longer than what came in: it says more and counts as full. Else prove '..UptoSaid'. A law counts once. -/
mutual
def uptoBulk {H : Type} : DataW H → Nat
  | .lit (.string bytes) => bytes.length + 1
  | .lit _ => 1
  | .nil => 1
  | .ptr d => uptoBulk d + 1
  | .slice elems spare => uptoBulkAll elems + uptoBulkAll spare + 1
  | .agg parts => uptoBulkAll parts + 1
  | .iface _ d => uptoBulk d + 1
  | .map entries => uptoBulkEntries entries + 1
  | .held _ => 1
def uptoBulkAll {H : Type} : List (DataW H) → Nat
  | [] => 0
  | d :: r => uptoBulk d + uptoBulkAll r
def uptoBulkEntries {H : Type} : List (Lit × DataW H) → Nat
  | [] => 0
  | x :: r => uptoBulkEntry x + uptoBulkEntries r
def uptoBulkEntry {H : Type} : Lit × DataW H → Nat
  | (.string bytes, d) => bytes.length + uptoBulk d + 1
  | (_, d) => uptoBulk d + 1
 end
def uptoSmall : (H : Type) → List (DataW H) → Bool := fun _ ds => decide (uptoBulkAll ds ≤ 1048576)
def OpenSpec.upto (s : _root_.Go.ChangeSpec) : _root_.Go.OpenSpec := { _root_.Go.OpenSpec.ofChange s with cond := some uptoSmall }

/-- 'laws.FnExactReadCommand', WHERE WHAT IT READS IS OF BULK AT MOST 1048576: true; the input reads as it did. -/
def fnExactReadCommandUptoRow : OpenClaim := { program := "ytpegmiofhfmepaa", sum := "fb2dcf98f3660e6732c7951db786d2e81a3f11fa6572e70e6d97c69f30b4c4e4", func := "loop.example/g00224/laws.FnExactReadCommand", spec := "fnExactReadCommand", apart := false, narrowed := true }
def FnExactReadCommandUptoSaid : Prop := fnExactReadCommandUptoRow.holds Try.pinned (OpenSpec.upto fnExactReadCommandSpec)

/-- 'laws.FnExactReadEdit', WHERE WHAT IT READS IS OF BULK AT MOST 1048576: true; the input reads as it did. -/
def fnExactReadEditUptoRow : OpenClaim := { program := "ytpegmiofhfmepaa", sum := "fb2dcf98f3660e6732c7951db786d2e81a3f11fa6572e70e6d97c69f30b4c4e4", func := "loop.example/g00224/laws.FnExactReadEdit", spec := "fnExactReadEdit", apart := false, narrowed := true }
def FnExactReadEditUptoSaid : Prop := fnExactReadEditUptoRow.holds Try.pinned (OpenSpec.upto fnExactReadEditSpec)

/-- 'laws.FnExactFirstIn', WHERE WHAT IT READS IS OF BULK AT MOST 1048576: true; the input reads as it did. -/
def fnExactFirstInUptoRow : OpenClaim := { program := "ytpegmiofhfmepaa", sum := "fb2dcf98f3660e6732c7951db786d2e81a3f11fa6572e70e6d97c69f30b4c4e4", func := "loop.example/g00224/laws.FnExactFirstIn", spec := "fnExactFirstIn", apart := false, narrowed := true }
def FnExactFirstInUptoSaid : Prop := fnExactFirstInUptoRow.holds Try.pinned (OpenSpec.upto fnExactFirstInSpec)

/-- 'laws.FnExactRestartsOf', WHERE WHAT IT READS IS OF BULK AT MOST 1048576: true; the input reads as it did. -/
def fnExactRestartsOfUptoRow : OpenClaim := { program := "ytpegmiofhfmepaa", sum := "fb2dcf98f3660e6732c7951db786d2e81a3f11fa6572e70e6d97c69f30b4c4e4", func := "loop.example/g00224/laws.FnExactRestartsOf", spec := "fnExactRestartsOf", apart := false, narrowed := true }
def FnExactRestartsOfUptoSaid : Prop := fnExactRestartsOfUptoRow.holds Try.pinned (OpenSpec.upto fnExactRestartsOfSpec)

/-- 'laws.FnExactReadBlock', WHERE WHAT IT READS IS OF BULK AT MOST 1048576: true; the input reads as it did. -/
def fnExactReadBlockUptoRow : OpenClaim := { program := "ytpegmiofhfmepaa", sum := "fb2dcf98f3660e6732c7951db786d2e81a3f11fa6572e70e6d97c69f30b4c4e4", func := "loop.example/g00224/laws.FnExactReadBlock", spec := "fnExactReadBlock", apart := false, narrowed := true }
def FnExactReadBlockUptoSaid : Prop := fnExactReadBlockUptoRow.holds Try.pinned (OpenSpec.upto fnExactReadBlockSpec)

/-- 'laws.FnBlocks', WHERE WHAT IT READS IS OF BULK AT MOST 1048576: true; the input reads as it did. -/
def fnBlocksUptoRow : OpenClaim := { program := "ytpegmiofhfmepaa", sum := "fb2dcf98f3660e6732c7951db786d2e81a3f11fa6572e70e6d97c69f30b4c4e4", func := "loop.example/g00224/laws.FnBlocks", spec := "fnBlocks", apart := false, narrowed := true }
def FnBlocksUptoSaid : Prop := fnBlocksUptoRow.holds Try.pinned (OpenSpec.upto fnBlocksSpec)

end Rows
end Go.Proofs.Ytpegmiofhfmepaa
