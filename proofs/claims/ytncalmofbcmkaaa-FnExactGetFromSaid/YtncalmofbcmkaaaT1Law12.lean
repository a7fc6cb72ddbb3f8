/- FnExactGetFrom returns true for every input, and its input reads as it did. No condition. -/
import Derived.Test.YtncalmofbcmkaaaR1Glue
import Derived.Test.YtncalmofbcmkaaaR2Snd
import Derived.Test.YtncalmofbcmkaaaT1Get
set_option linter.all false
set_option maxRecDepth 100000
namespace Go.Proofs.Ytncalmofbcmkaaa
open Go Go.Proofs.Ytncalmofbcmkaaa.Ev Go.ChangeMaps Go.ChangeShapes Go.WideShapes Go.ChangeAt Go.RowKit

/-- a law of two strings and a number -/
theorem lawStr2Int {f : Nat} {t : ByteArray × ByteArray × Int × Unit → Option ((Bool × Unit) × Unit)} (hS : Sound Try.prog f ⟨[.val .str, .val .str, .val (.int .i64)], [(.bool, .s)], t⟩) (s k : ByteArray) (n : Int) (ht : t (s, (k, (n, ()))) = some ((true, ()), ())) (w : World) :
    Calls Try.prog f #[.string s, .string k, .int .i64 n] w fun e w' => e = .returned (.bool true) ∧ w'.os = w.os ∧ w'.output = w.output ∧ w.heap.size ≤ w'.heap.size ∧ ∀ b, b < w.heap.size → w'.heap[b]? = w.heap[b]? :=
  law_calls hS (s, (k, (n, ()))) ((true, ()), ()) ht w (fun _ => False) ((), ((), ((), ()))) [.string s, .string k, .int .i64 n] ⟨_, _, rfl, trivial, rfl, _, _, rfl, trivial, rfl, _, _, rfl, trivial, rfl, rfl⟩ rfl rfl (fun _ h => h.elim) _ (fun _ => rfl)

theorem fnExactGetFromLifted (os : Os) (started : os.Started) (H : Type) (enc : TypeId × Value → H) :
    ReturnsInHanded {} Try.checked os 12 .any (Rows.fnExactGetFromSpec.pre6 enc Try.prog Try.f12 Rows.fnExactGetFromRow.domain false) (Rows.fnExactGetFromSpec.post enc Try.prog Try.f12 false true false false) := by
  refine returnsInHanded_of_change (C := Try.checked) tryOwn started (by kernel_rfl) Try.func12
    (ChangeSpec.witness6 (enc := enc) (C := Try.checked) false ⟨#[], #[.string ⟨#[]⟩, .string ⟨#[]⟩, .int .i64 0], []⟩ 8 (by kernel_rfl) (by kernel_rfl) (by kernel_rfl) (by kernel_rfl)) ?_
  intro W base args ds gs before hval0 hW hcnd _
  have hval : ∀ (j : Nat) t v, Try.f12.params[j]? = some t → args[j]? = some v → Value.okWide Try.prog W .any base t v := hval0
  have hW' := hW
  obtain ⟨p, q, hA0, hV, rfl, hfz, hnd⟩ := hW
  have hA : DataW.TrodAll enc Try.prog W 0 (fun _ => true) true Try.f12.params.toList args.toList ds p := hA0
  rw [Try.params12] at hA hval
  obtain ⟨v0, v1, v2, d0, d1, d2, p0, p1, p2, rfl, rfl, rfl, h0, h1, h2⟩ := trodAll_three hA
  obtain ⟨rfl, rfl⟩ := trodVars_none hV
  obtain ⟨s, rfl, rfl, rfl, ws⟩ := open_string Try.underlying9 (hval 0 9 v0 rfl rfl) h0
  obtain ⟨k, rfl, rfl, rfl, wk⟩ := open_string Try.underlying9 (hval 1 9 v1 rfl rfl) h1
  obtain ⟨n, rfl, rfl, rfl, wn⟩ := open_int Try.underlying3 (hval 2 3 v2 rfl rfl) h2
  clear hA0 hval0
  simp only [List.append_nil] at hW'
  refine (lawStr2Int so12 s k n (true_f_laws_FnExactGetFrom _) W).mono fun e W' ⟨he, g1, g2, g3, g4⟩ => ?_
  subst he
  refine ⟨_, rfl, _, _, _, [], [], [], hW', trodAll_mk1 (shut_bool Try.underlying4 _), trodAll_mk3 (shut_string Try.underlying9 ws) (shut_string Try.underlying9 wk) (shut_int Try.underlying3 wn), rfl, keptBut_same g1 g2 g4 _, fun h => by cases h⟩

theorem fnExactGetFrom_holds : Rows.FnExactGetFromSaid :=
  OpenClaim.holds_of_wide 12 Try.f12 rfl rfl rfl rfl rfl rfl rfl ⟨rfl, rfl, rfl, rfl, rfl⟩ rfl rfl rfl rfl rfl (by kernel_rfl) Try.func12 (by kernel_rfl)
    (of_decide_eq_true (by kernel_rfl)) (by unfold Func.isWrapper; first | (rw [if_pos (by decide +kernel)]; kernel_rfl) | (rw [if_neg (by decide +kernel)]; exact ⟨rfl, rfl⟩))
    (fun os started H enc _ => fnExactGetFromLifted os started H enc)
#print axioms fnExactGetFrom_holds
end Go.Proofs.Ytncalmofbcmkaaa
