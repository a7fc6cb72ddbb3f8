/- FnExactPlayDisk returns true for every input, and its input reads as it did. No condition but that the listed tables are laid as the program's text lays them; the card ties them to it. -/
import Derived.Test.YthlnjkcpdkjipaaDoorRows
import Derived.Test.YthlnjkcpdkjipaaDoorTie
import Derived.Test.YthlnjkcpdkjipaaDoorCards
import Derived.Test.YthlnjkcpdkjipaaDoorEv3
import Derived.ProofKit
import Derived.Lay
import Derived.SevenTiedAt
import Derived.Test.YthlnjkcpdkjipaaDoorR12Snd
import Derived.Test.YthlnjkcpdkjipaaDoorX8Play
import Derived.Test.YthlnjkcpdkjipaaDoorEv4
set_option linter.all false
set_option maxRecDepth 100000
namespace Go.Proofs.YthlnjkcpdkjipaaDoor
open Go Go.Proofs.YthlnjkcpdkjipaaDoor.Ev Go.ChangeMaps Go.ChangeShapes Go.WideShapes Go.ChangeAt Go.RowKit

theorem tryOwn : ownKnob Tryd.prog.godebug = none := by kernel_rfl
theorem tryLaid : laidOutB Tryd.prog = true := by kernel_rfl

theorem steps_ok {xs : List DDiskStep} (h : ∀ x ∈ xs, Ev.inR kdLDiskStep x) : StepsOk xs := fun s hs => by
  have := h s hs
  obtain ⟨_, h1, h2, _⟩ := this
  have h1 : s.2.1.size ≤ maxLen := h1
  have h2 : s.2.2.1.size ≤ maxLen := h2
  unfold maxLen at h1 h2
  exact ⟨h1, h2⟩

theorem fnExactPlayDiskLifted (os : Os) (started : os.Started) (H : Type) (enc : TypeId × Value → H) :
    ReturnsInHanded {} Tryd.checked os 3 .any (fun w args => (Rows.fnExactPlayDiskSpec.pre enc Tryd.prog Tryd.f3 [] false w args ∧ laidMetH Tryd.prog Rows.fnExactPlayDiskRow.laid w) ∧ sizedMet enc Tryd.prog Tryd.f3 (OpenSpec.ofChange Rows.fnExactPlayDiskSpec) false w args)
      (Rows.fnExactPlayDiskSpec.post enc Tryd.prog Tryd.f3 false true false false) := by
  refine returnsInHanded_of_change_and (C := Tryd.checked) (X := fun w _ => laidMetH Tryd.prog Rows.fnExactPlayDiskRow.laid w) (fun _ _ _ hh h => h.of_heap hh) tryOwn started (by kernel_rfl) Tryd.func3
    (ChangeSpec.witness_shaped (enc := enc) (C := Tryd.checked) (os := os) (X := fun w _ => laidMetH Tryd.prog Rows.fnExactPlayDiskRow.laid w) false (World.laidAll Tryd.prog os Rows.fnExactPlayDiskRow.laid) #[.int .i64 0, .slice none 0 0] 8 (World.laidAll_os _ _ _)
      (World.shaped_of_ZipB (by kernel_rfl) (by kernel_rfl)) (by kernel_rfl) (by kernel_rfl) (by kernel_rfl)
      (by rw [MakeChecks.laidMetH_plain _ _ _ (by kernel_rfl)]; exact laidMet_laidAll _ (by kernel_rfl) (by kernel_rfl))) ?_
  intro W base args ds gs before hval0 hW _ _ _ _
  have hval : ∀ (j : Nat) t v, Tryd.f3.params[j]? = some t → args[j]? = some v → Value.okWide Tryd.prog W .any base t v := hval0
  have hW' := hW
  obtain ⟨p, q, hA0, hV, rfl, hfz, hnd⟩ := hW
  have hA : DataW.TrodAll enc Tryd.prog W 0 (fun _ => true) true Tryd.f3.params.toList args.toList ds p := hA0
  rw [Tryd.params3] at hA hval
  obtain ⟨v0, v1, d0, d1, p0, p1, rfl, rfl, rfl, h0, h1⟩ := trodAll_two hA
  obtain ⟨rfl, rfl⟩ := trodVars_none hV
  obtain ⟨room, rfl, rfl, rfl, wx⟩ := open_int Tryd.underlying3 (hval 0 3 v0 rfl rfl) h0
  obtain ⟨xs, l, F, hs, rfl, hF, hlen, hr, hp⟩ := structs_arg (k := kdLDiskStep) Tryd.underlying22 ty64 (by decide) (by decide) (hval 1 22 v1 rfl rfl) h1
  clear hA0 hval0
  simp only [List.append_nil, List.nil_append] at hW'
  refine (law_calls so3 (room, (xs, ())) ((true, ()), ()) (true_f_laws_FnExactPlayDisk room xs (by unfold maxLen at hlen; omega) (steps_ok hr)) W F ((), (l, ())) [Value.int .i64 room, Go.Proofs.YthlnjkcpdkjipaaDoor.Ev.valOf (K.sl kdLDiskStep) xs l]
    ⟨_, _, rfl, trivial, rfl, _, _, rfl, hs, rfl, rfl⟩ rfl rfl hF _ (fun _ => rfl)).mono fun e W' ⟨he, g1, g2, g3, g4⟩ => ?_
  subst he
  exact ⟨_, rfl, _, _, _, [], _, [], hW', trodAll_mk1 (shut_bool Tryd.underlying4 _), trodAll_mk2 (shut_int Tryd.underlying3 wx) (arg_stays tryLaid (by kernel_rfl) (of_decide_eq_true (by kernel_rfl)) h1 (fun x hx => hW'.lt x hx) g4), rfl, keptBut_same g1 g2 g4 _, fun h => by cases h⟩

theorem fnExactPlayDisk_row : Rows.FnExactPlayDiskSaid :=
  OpenClaim.holds_of_wide 3 Tryd.f3 rfl rfl rfl rfl rfl rfl rfl ⟨rfl, rfl, rfl, rfl, rfl⟩ rfl rfl rfl rfl rfl (by kernel_rfl) Tryd.func3 (by kernel_rfl)
    (of_decide_eq_true (by kernel_rfl)) (by unfold Func.isWrapper; first | (rw [if_pos (by decide +kernel)]; kernel_rfl) | (rw [if_neg (by decide +kernel)]; exact ⟨rfl, rfl⟩))
    (fun os started H enc _ => fnExactPlayDiskLifted os started H enc)

theorem fnExactPlayDisk_holds : Rows.FnExactPlayDiskCardSaid :=
  Claim7.holds_tied_plain_at .later [] [.data, .pinned] true (true, "168b628d8fbba0d5576509ed827168722a034af60095867c367abfdad5e4e49e") false
    fnExactPlayDisk_row (fun _ h => by cases h) (by kernel_rfl) (fun _ h => by cases h) fnExactPlayDisk_row_tie rfl ⟨rfl, rfl⟩ (by kernel_rfl) rfl
    (fun f fn hf hfn => by
      obtain rfl : f = 3 := Option.some.inj ((show Tryd.prog.funcNamed "loop.example/g00224/laws.FnExactPlayDisk" = some 3 by kernel_rfl).symm.trans hf) |>.symm
      obtain rfl : fn = Tryd.f3 := (Option.some.inj (Tryd.func3.symm.trans hfn)).symm
      exact ⟨by kernel_rfl, fun j t ht => by
        rw [Tryd.params3] at ht
        have hm : t ∈ [3, 22] := by simpa using Array.mem_of_getElem? ht
        have hall : ([3, 22].all fun u => !Tryd.prog.wantsStandIn u) = true := by kernel_rfl
        exact (show Tryd.prog.wantsStandIn t = false by simpa using List.all_eq_true.1 hall t hm)⟩)
    (by kernel_rfl)
#print axioms fnExactPlayDisk_holds
end Go.Proofs.YthlnjkcpdkjipaaDoor
