/- FnRecovered returns true for every input, and its input reads as it did. No condition. -/
import Derived.Test.YtbekojfgnbnpcaaR1Glue
import Derived.Test.YtbekojfgnbnpcaaR9Snd
import Derived.Test.YtbekojfgnbnpcaaW9Law
import Derived.Test.YtbekojfgnbnpcaaEv4
set_option linter.all false
set_option maxRecDepth 100000
namespace Go.Proofs.Ytbekojfgnbnpcaa
open Go Go.Proofs.Ytbekojfgnbnpcaa.Ev Go.ChangeMaps Go.ChangeShapes Go.WideShapes Go.ChangeAt Go.RowKit

theorem tryLaid : laidOutB Try.prog = true := by kernel_rfl

theorem bytes_range {xs : List Int} (h : ∀ x ∈ xs, IntKind.u8.min ≤ x ∧ x ≤ IntKind.u8.max) : ∀ b ∈ xs, 0 ≤ b ∧ b < 256 := fun b hb => by
  have := h b hb
  simp [IntKind.min, IntKind.max, IntKind.signed, IntKind.bits] at this
  omega

theorem okWide_len {W : World} {base : Nat} {t e : TypeId} (ht : Try.prog.underlying t = some (.slice e)) {a : Option Addr} {n c : Nat} (h : Value.okWide Try.prog W .any base t (.slice a n c)) : n ≤ 9223372036854775807 := by
  simp only [Value.okWide, ht, Cell.okWide, Cell.ok] at h
  cases a with
  | some a =>
    have h2 : (c : Int) ≤ IntKind.i64.max := h.2.1
    have h3 : IntKind.i64.max = 9223372036854775807 := by decide
    have := h.1
    omega
  | none =>
    cases n with
    | zero => omega
    | succ n => cases h

theorem fnRecoveredLifted (os : Os) (started : os.Started) (H : Type) (enc : TypeId × Value → H) :
    ReturnsInHanded {} Try.checked os 4 .any (Rows.fnRecoveredSpec.pre6 enc Try.prog Try.f4 Rows.fnRecoveredRow.domain false) (Rows.fnRecoveredSpec.post enc Try.prog Try.f4 false true false false) := by
  refine returnsInHanded_of_change (C := Try.checked) tryOwn started (by kernel_rfl) Try.func4
    (ChangeSpec.witness6 (enc := enc) (C := Try.checked) false ⟨#[], #[.slice none 0 0, .slice none 0 0], []⟩ 8 (by kernel_rfl) (by kernel_rfl) (by kernel_rfl) (by kernel_rfl)) ?_
  intro W base args ds gs before hval0 hW hcnd _
  have hval : ∀ (j : Nat) t v, Try.f4.params[j]? = some t → args[j]? = some v → Value.okWide Try.prog W .any base t v := hval0
  have hW' := hW
  obtain ⟨p, q, hA0, hV, rfl, hfz, hnd⟩ := hW
  have hA : DataW.TrodAll enc Try.prog W 0 (fun _ => true) true Try.f4.params.toList args.toList ds p := hA0
  rw [Try.params4] at hA hval
  obtain ⟨v0, v1, d0, d1, p0, p1, rfl, rfl, rfl, h0, h1⟩ := trodAll_two hA
  obtain ⟨rfl, rfl⟩ := trodVars_none hV
  obtain ⟨xs, l, F, hs, rfl, hF, hr, hp⟩ := ints_arg Try.underlying30 Try.underlying5 (by kernel_rfl) (hval 0 30 v0 rfl rfl) h0
  obtain ⟨ys, l1, F1, hs1, rfl, hF1, hr1, hp1⟩ := ints_arg Try.underlying30 Try.underlying5 (by kernel_rfl) (hval 1 30 v1 rfl rfl) h1
  have hlen := okWide_len Try.underlying30 (hval 0 30 _ rfl rfl)
  clear hA0 hval0
  simp only [List.append_nil] at hW'
  refine (law_calls so4 (xs, (ys, ())) ((true, ()), ()) (true_f_laws_FnRecovered xs ys (bytes_range hr) (bytes_range hr1) (okWide_len Try.underlying30 (hval 0 30 _ rfl rfl))) W (fun b => F b ∨ F1 b) (l, (l1, ())) [Ev.valOf (.sl (.int .u8)) xs l, Ev.valOf (.sl (.int .u8)) ys l1]
    ⟨_, _, rfl, sat_s_frame hs (fun _ _ => rfl) (fun _ h => .inl h), rfl, _, _, rfl, sat_s_frame hs1 (fun _ _ => rfl) (fun _ h => .inr h), rfl, rfl⟩ rfl rfl (fun b h => h.elim (hF b) (hF1 b)) _ (fun _ => rfl)).mono fun e W' ⟨he, g1, g2, g3, g4⟩ => ?_
  subst he
  refine ⟨_, rfl, _, _, _, [], _, [], hW', trodAll_mk1 (shut_bool Try.underlying4 _), trodAll_mk2 (arg_stays tryLaid (by kernel_rfl) (of_decide_eq_true (by kernel_rfl)) h0 (fun x hx => hW'.lt x (List.mem_append_left _ hx)) g4) (arg_stays tryLaid (by kernel_rfl) (of_decide_eq_true (by kernel_rfl)) h1 (fun x hx => hW'.lt x (List.mem_append_right _ hx)) g4), rfl, keptBut_same g1 g2 g4 _, fun h => by cases h⟩

theorem fnRecovered_holds : Rows.FnRecoveredSaid :=
  OpenClaim.holds_of_wide 4 Try.f4 rfl rfl rfl rfl rfl rfl rfl ⟨rfl, rfl, rfl, rfl, rfl⟩ rfl rfl rfl rfl rfl (by kernel_rfl) Try.func4 (by kernel_rfl)
    (of_decide_eq_true (by kernel_rfl)) (by unfold Func.isWrapper; first | (rw [if_pos (by decide +kernel)]; kernel_rfl) | (rw [if_neg (by decide +kernel)]; exact ⟨rfl, rfl⟩))
    (fun os started H enc _ => fnRecoveredLifted os started H enc)
#print axioms fnRecovered_holds
end Go.Proofs.Ytbekojfgnbnpcaa
