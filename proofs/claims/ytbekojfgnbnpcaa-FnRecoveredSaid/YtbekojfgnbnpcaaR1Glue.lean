/- What a law of one string leans on. -/
import Derived.Test.YtbekojfgnbnpcaaRows
import Derived.Test.YtbekojfgnbnpcaaEv3
import Derived.ProofKit
set_option linter.all false
set_option maxRecDepth 100000
namespace Go.Proofs.Ytbekojfgnbnpcaa
open Go Go.Proofs.Ytbekojfgnbnpcaa.Ev Go.ChangeMaps Go.ChangeShapes Go.WideShapes Go.ChangeAt Go.RowKit

theorem tryOwn : ownKnob Try.prog.godebug = none := by kernel_rfl

/-- a law of one string -/
theorem lawStr {f : Nat} {t : ByteArray × Unit → Option ((Bool × Unit) × Unit)} (hS : Sound Try.prog f ⟨[.val .str], [(.bool, .s)], t⟩) (s : ByteArray) (ht : t (s, ()) = some ((true, ()), ())) (w : World) :
    Calls Try.prog f #[.string s] w fun e w' => e = .returned (.bool true) ∧ w'.os = w.os ∧ w'.output = w.output ∧ w.heap.size ≤ w'.heap.size ∧ ∀ b, b < w.heap.size → w'.heap[b]? = w.heap[b]? :=
  law_calls hS (s, ()) ((true, ()), ()) ht w (fun _ => False) ((), ()) [.string s] ⟨_, _, rfl, trivial, rfl, rfl⟩ rfl rfl (fun _ h => h.elim) _ (fun _ => rfl)

end Go.Proofs.Ytbekojfgnbnpcaa
