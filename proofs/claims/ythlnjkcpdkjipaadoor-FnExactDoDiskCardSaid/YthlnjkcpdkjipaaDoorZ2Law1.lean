/- FnExactDoDisk returns true for every input, and its input reads as it did. No condition but that the listed tables are laid as the program's text lays them; the card ties them to it. -/
import Derived.Test.YthlnjkcpdkjipaaDoorRows
import Derived.Test.YthlnjkcpdkjipaaDoorTie
import Derived.Test.YthlnjkcpdkjipaaDoorCards
import Derived.Test.YthlnjkcpdkjipaaDoorEv3
import Derived.ProofKit
import Derived.Lay
import Derived.SevenTiedAt
import Derived.Test.YthlnjkcpdkjipaaDoorR15Snd
import Derived.Test.YthlnjkcpdkjipaaDoorZ2Do
import Derived.Test.YthlnjkcpdkjipaaDoorEv4
set_option linter.all false
set_option maxRecDepth 100000
namespace Go.Proofs.YthlnjkcpdkjipaaDoor
open Go Go.Proofs.YthlnjkcpdkjipaaDoor.Ev Go.ChangeMaps Go.ChangeShapes Go.WideShapes Go.ChangeAt Go.RowKit

theorem tryOwn : ownKnob Tryd.prog.godebug = none := by kernel_rfl
theorem tryLaid : laidOutB Tryd.prog = true := by kernel_rfl

theorem fnExactDoDiskLifted (os : Os) (started : os.Started) (H : Type) (enc : TypeId × Value → H) :
    ReturnsInHanded {} Tryd.checked os 6 .any (fun w args => (Rows.fnExactDoDiskSpec.pre enc Tryd.prog Tryd.f6 [] false w args ∧ laidMetH Tryd.prog Rows.fnExactDoDiskRow.laid w) ∧ sizedMet enc Tryd.prog Tryd.f6 (OpenSpec.ofChange Rows.fnExactDoDiskSpec) false w args)
      (Rows.fnExactDoDiskSpec.post enc Tryd.prog Tryd.f6 false true false false) := by
  refine returnsInHanded_of_change_and (C := Tryd.checked) (X := fun w _ => laidMetH Tryd.prog Rows.fnExactDoDiskRow.laid w) (fun _ _ _ hh h => h.of_heap hh) tryOwn started (by kernel_rfl) Tryd.func6
    (ChangeSpec.witness_shaped (enc := enc) (C := Tryd.checked) (os := os) (X := fun w _ => laidMetH Tryd.prog Rows.fnExactDoDiskRow.laid w) false (World.laidAll Tryd.prog os Rows.fnExactDoDiskRow.laid) #[.agg #[.slice none 0 0, .slice none 0 0, .slice none 0 0, .int .i64 0], .agg #[.int .i64 0, .string ⟨#[]⟩, .string ⟨#[]⟩, .string ⟨#[]⟩, .int .i64 0]] 8 (World.laidAll_os _ _ _)
      (World.shaped_of_ZipB (by kernel_rfl) (by kernel_rfl)) (by kernel_rfl) (by kernel_rfl) (by kernel_rfl)
      (by rw [MakeChecks.laidMetH_plain _ _ _ (by kernel_rfl)]; exact laidMet_laidAll _ (by kernel_rfl) (by kernel_rfl))) ?_
  intro W base args ds gs before hval0 hW _ _ _ _
  have hval : ∀ (j : Nat) t v, Tryd.f6.params[j]? = some t → args[j]? = some v → Value.okWide Tryd.prog W .any base t v := hval0
  have hW' := hW
  obtain ⟨p, q, hA0, hV, rfl, hfz, hnd⟩ := hW
  have hA : DataW.TrodAll enc Tryd.prog W 0 (fun _ => true) true Tryd.f6.params.toList args.toList ds p := hA0
  rw [Tryd.params6] at hA hval
  obtain ⟨v0, v1, d0, d1, p0, p1, rfl, rfl, rfl, h0, h1⟩ := trodAll_two hA
  obtain ⟨rfl, rfl⟩ := trodVars_none hV
  obtain ⟨x, l, F, hs, rfl, hF, hr⟩ := struct_arg (a := .sl kdBlob) ty63 (by decide) (hval 0 63 v0 rfl rfl) h0
  obtain ⟨y, l1, F1, hs1, rfl, hF1, hr1⟩ := struct_arg (a := .int .i64) ty64 (by decide) (hval 1 64 v1 rfl rfl) h1
  clear hA0
  simp only [List.append_nil] at hW'
  obtain ⟨⟨r0, r0'⟩, ⟨r1, r1'⟩, ⟨r2, r2'⟩, r3⟩ := hr
  obtain ⟨_, q1, q2, _⟩ := hr1
  have q1 : y.2.1.size ≤ maxLen := q1
  have q2 : y.2.2.1.size ≤ maxLen := q2
  have z0 : SizesOk x.1 := fun b hb => by have := (r0' b hb).1; have : b.1.size ≤ maxLen := this; unfold maxLen at this; exact this
  have z1 : SizesOk x.2.1 := fun b hb => by have := (r1' b hb).1; have : b.1.size ≤ maxLen := this; unfold maxLen at this; exact this
  have z2 : SizesOk x.2.2.1 := fun b hb => by have := (r2' b hb).1; have : b.1.size ≤ maxLen := this; unfold maxLen at this; exact this
  unfold maxLen at r0 r1 r2 q1 q2
  refine (law_calls so6 (x, (y, ())) ((true, ()), ()) (true_f_laws_FnExactDoDisk x y r0 r1 r2 z0 z1 z2 ⟨q1, q2⟩) W (fun b => F b ∨ F1 b) (l, (l1, ())) [Ev.valOf kdDisk x l, Ev.valOf kdDiskStep y l1]
    ⟨_, _, rfl, sat_s_frame hs (fun _ _ => rfl) (fun _ h => .inl h), rfl, _, _, rfl, sat_s_frame hs1 (fun _ _ => rfl) (fun _ h => .inr h), rfl, rfl⟩ rfl rfl (fun b h => h.elim (hF b) (hF1 b)) _ (fun _ => rfl)).mono fun e W' ⟨he, g1, g2, g3, g4⟩ => ?_
  subst he
  refine ⟨_, rfl, _, _, _, [], _, [], hW', trodAll_mk1 (shut_bool Tryd.underlying4 _), trodAll_mk2 (arg_stays tryLaid (by kernel_rfl) (of_decide_eq_true (by kernel_rfl)) h0 (fun x hx => hW'.lt x (List.mem_append_left _ hx)) g4) (arg_stays tryLaid (by kernel_rfl) (of_decide_eq_true (by kernel_rfl)) h1 (fun x hx => hW'.lt x (List.mem_append_right _ hx)) g4), rfl, keptBut_same g1 g2 g4 _, fun h => by cases h⟩

theorem fnExactDoDisk_row : Rows.FnExactDoDiskSaid :=
  OpenClaim.holds_of_wide 6 Tryd.f6 rfl rfl rfl rfl rfl rfl rfl ⟨rfl, rfl, rfl, rfl, rfl⟩ rfl rfl rfl rfl rfl (by kernel_rfl) Tryd.func6 (by kernel_rfl)
    (of_decide_eq_true (by kernel_rfl)) (by unfold Func.isWrapper; first | (rw [if_pos (by decide +kernel)]; kernel_rfl) | (rw [if_neg (by decide +kernel)]; exact ⟨rfl, rfl⟩))
    (fun os started H enc _ => fnExactDoDiskLifted os started H enc)

theorem fnExactDoDisk_holds : Rows.FnExactDoDiskCardSaid :=
  Claim7.holds_tied_plain_at .later [] [.data, .pinned] true (true, "168b628d8fbba0d5576509ed827168722a034af60095867c367abfdad5e4e49e") false
    fnExactDoDisk_row (fun _ h => by cases h) (by kernel_rfl) (fun _ h => by cases h) fnExactDoDisk_row_tie rfl ⟨rfl, rfl⟩ (by kernel_rfl) rfl
    (fun f fn hf hfn => by
      obtain rfl : f = 6 := Option.some.inj ((show Tryd.prog.funcNamed "loop.example/g00224/laws.FnExactDoDisk" = some 6 by kernel_rfl).symm.trans hf) |>.symm
      obtain rfl : fn = Tryd.f6 := (Option.some.inj (Tryd.func6.symm.trans hfn)).symm
      exact ⟨by kernel_rfl, fun j t ht => by
        rw [Tryd.params6] at ht
        have hm : t ∈ [63, 64] := by simpa using Array.mem_of_getElem? ht
        have hall : ([63, 64].all fun u => !Tryd.prog.wantsStandIn u) = true := by kernel_rfl
        exact (show Tryd.prog.wantsStandIn t = false by simpa using List.all_eq_true.1 hall t hm)⟩)
    (by kernel_rfl)
#print axioms fnExactDoDisk_holds
end Go.Proofs.YthlnjkcpdkjipaaDoor
