/- FnSent returns true for every input, and its input reads as it did. No condition. -/
import Derived.Test.YtogmfilmfkepfaaR1Glue
import Derived.Test.YtogmfilmfkepfaaR6Snd
import Derived.Test.YtogmfilmfkepfaaQ6Law
import Derived.Test.YtogmfilmfkepfaaEv3
set_option linter.all false
set_option maxRecDepth 100000
namespace Go.Proofs.Ytogmfilmfkepfaa
open Go Go.Proofs.Ytogmfilmfkepfaa.Ev Go.ChangeMaps Go.ChangeShapes Go.WideShapes Go.ChangeAt Go.RowKit

theorem tryLaid : laidOutB Try.prog = true := by kernel_rfl

theorem fnSentLifted (os : Os) (started : os.Started) (H : Type) (enc : TypeId × Value → H) :
    ReturnsInHanded {} Try.checked os 6 .any (Rows.fnSentSpec.pre6 enc Try.prog Try.f6 Rows.fnSentRow.domain false) (Rows.fnSentSpec.post enc Try.prog Try.f6 false true false false) := by
  refine returnsInHanded_of_change (C := Try.checked) tryOwn started (by kernel_rfl) Try.func6
    (ChangeSpec.witness6 (enc := enc) (C := Try.checked) false ⟨#[], #[.slice none 0 0], []⟩ 8 (by kernel_rfl) (by kernel_rfl) (by kernel_rfl) (by kernel_rfl)) ?_
  intro W base args ds gs before hval0 hW hcnd _
  have hval : ∀ (j : Nat) t v, Try.f6.params[j]? = some t → args[j]? = some v → Value.okWide Try.prog W .any base t v := hval0
  have hW' := hW
  obtain ⟨p, q, hA0, hV, rfl, hfz, hnd⟩ := hW
  have hA : DataW.TrodAll enc Try.prog W 0 (fun _ => true) true Try.f6.params.toList args.toList ds p := hA0
  rw [Try.params6] at hA hval
  obtain ⟨v0, d0, rfl, rfl, h0⟩ := trodAll_one hA
  obtain ⟨rfl, rfl⟩ := trodVars_none hV
  obtain ⟨xs, l, F, hs, rfl, hF, hr, hp⟩ := ints_arg Try.underlying34 Try.underlying5 (by kernel_rfl) (hval 0 34 v0 rfl rfl) h0
  clear hA0 hval0
  simp only [List.append_nil] at hW'
  refine (law_calls so6 (xs, ()) ((true, ()), ()) (true_f_laws_FnSent (xs, ()) fun b hb => by have := hr b hb; simp [IntKind.min, IntKind.max, IntKind.signed, IntKind.bits] at this; omega) W F (l, ()) [Ev.valOf (.sl (.int .u8)) xs l] ⟨_, _, rfl, hs, rfl, rfl⟩ rfl rfl hF _ (fun _ => rfl)).mono fun e W' ⟨he, g1, g2, g3, g4⟩ => ?_
  subst he
  refine ⟨_, rfl, _, _, _, [], _, [], hW', trodAll_mk1 (shut_bool Try.underlying4 _), trodAll_mk1 (arg_stays tryLaid (by kernel_rfl) (of_decide_eq_true (by kernel_rfl)) h0 (fun x hx => hW'.lt x hx) g4), rfl, keptBut_same g1 g2 g4 _, fun h => by cases h⟩

theorem fnSent_holds : Rows.FnSentSaid :=
  OpenClaim.holds_of_wide 6 Try.f6 rfl rfl rfl rfl rfl rfl rfl ⟨rfl, rfl, rfl, rfl, rfl⟩ rfl rfl rfl rfl rfl (by kernel_rfl) Try.func6 (by kernel_rfl)
    (of_decide_eq_true (by kernel_rfl)) (by unfold Func.isWrapper; first | (rw [if_pos (by decide +kernel)]; kernel_rfl) | (rw [if_neg (by decide +kernel)]; exact ⟨rfl, rfl⟩))
    (fun os started H enc _ => fnSentLifted os started H enc)
#print axioms fnSent_holds
end Go.Proofs.Ytogmfilmfkepfaa
