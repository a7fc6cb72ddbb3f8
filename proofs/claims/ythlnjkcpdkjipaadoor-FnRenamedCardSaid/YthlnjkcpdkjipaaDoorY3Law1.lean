/- FnRenamed returns true for every input, and its input reads as it did. No condition but that the listed tables are laid as the program's text lays them; the card ties them to it. -/
import Derived.Test.YthlnjkcpdkjipaaDoorRows
import Derived.Test.YthlnjkcpdkjipaaDoorTie
import Derived.Test.YthlnjkcpdkjipaaDoorCards
import Derived.Test.YthlnjkcpdkjipaaDoorEv3
import Derived.ProofKit
import Derived.Lay
import Derived.SevenTiedAt
import Derived.Test.YthlnjkcpdkjipaaDoorR14Snd
import Derived.Test.YthlnjkcpdkjipaaDoorY3Law
import Derived.Test.YthlnjkcpdkjipaaDoorEv4
set_option linter.all false
set_option maxRecDepth 100000
namespace Go.Proofs.YthlnjkcpdkjipaaDoor
open Go Go.Proofs.YthlnjkcpdkjipaaDoor.Ev Go.ChangeMaps Go.ChangeShapes Go.WideShapes Go.ChangeAt Go.RowKit

theorem tryOwn : ownKnob Tryd.prog.godebug = none := by kernel_rfl
theorem tryLaid : laidOutB Tryd.prog = true := by kernel_rfl

theorem bytes_range {xs : List Int} (h : ∀ x ∈ xs, IntKind.u8.min ≤ x ∧ x ≤ IntKind.u8.max) : ∀ b ∈ xs, 0 ≤ b ∧ b < 256 := fun b hb => by
  have := h b hb
  simp [IntKind.min, IntKind.max, IntKind.signed, IntKind.bits] at this
  omega

theorem okWide_len {W : World} {base : Nat} {t e : TypeId} (ht : Tryd.prog.underlying t = some (.slice e)) {a : Option Addr} {n c : Nat} (h : Value.okWide Tryd.prog W .any base t (.slice a n c)) : n ≤ 9223372036854775807 := by
  simp only [Value.okWide, ht, Cell.okWide, Cell.ok] at h
  cases a with
  | some a =>
    have h2 : (c : Int) ≤ IntKind.i64.max := h.2.1
    have h3 : IntKind.i64.max = 9223372036854775807 := by decide
    have := h.1
    omega
  | none =>
    cases n with
    | zero => omega
    | succ n => cases h

theorem fnRenamedLifted (os : Os) (started : os.Started) (H : Type) (enc : TypeId × Value → H) :
    ReturnsInHanded {} Tryd.checked os 5 .any (fun w args => (Rows.fnRenamedSpec.pre enc Tryd.prog Tryd.f5 [] false w args ∧ laidMetH Tryd.prog Rows.fnRenamedRow.laid w) ∧ sizedMet enc Tryd.prog Tryd.f5 (OpenSpec.ofChange Rows.fnRenamedSpec) false w args)
      (Rows.fnRenamedSpec.post enc Tryd.prog Tryd.f5 false true false false) := by
  refine returnsInHanded_of_change_and (C := Tryd.checked) (X := fun w _ => laidMetH Tryd.prog Rows.fnRenamedRow.laid w) (fun _ _ _ hh h => h.of_heap hh) tryOwn started (by kernel_rfl) Tryd.func5
    (ChangeSpec.witness_shaped (enc := enc) (C := Tryd.checked) (os := os) (X := fun w _ => laidMetH Tryd.prog Rows.fnRenamedRow.laid w) false (World.laidAll Tryd.prog os Rows.fnRenamedRow.laid) #[.slice none 0 0, .slice none 0 0] 8 (World.laidAll_os _ _ _)
      (World.shaped_of_ZipB (by kernel_rfl) (by kernel_rfl)) (by kernel_rfl) (by kernel_rfl) (by kernel_rfl)
      (by rw [MakeChecks.laidMetH_plain _ _ _ (by kernel_rfl)]; exact laidMet_laidAll _ (by kernel_rfl) (by kernel_rfl))) ?_
  intro W base args ds gs before hval0 hW _ _ _ _
  have hval : ∀ (j : Nat) t v, Tryd.f5.params[j]? = some t → args[j]? = some v → Value.okWide Tryd.prog W .any base t v := hval0
  have hW' := hW
  obtain ⟨p, q, hA0, hV, rfl, hfz, hnd⟩ := hW
  have hA : DataW.TrodAll enc Tryd.prog W 0 (fun _ => true) true Tryd.f5.params.toList args.toList ds p := hA0
  rw [Tryd.params5] at hA hval
  obtain ⟨v0, v1, d0, d1, p0, p1, rfl, rfl, rfl, h0, h1⟩ := trodAll_two hA
  obtain ⟨rfl, rfl⟩ := trodVars_none hV
  obtain ⟨xs, l, F, hs, rfl, hF, hr, hp⟩ := ints_arg Tryd.underlying40 Tryd.underlying5 (by kernel_rfl) (hval 0 40 v0 rfl rfl) h0
  obtain ⟨ys, l1, F1, hs1, rfl, hF1, hr1, hp1⟩ := ints_arg Tryd.underlying40 Tryd.underlying5 (by kernel_rfl) (hval 1 40 v1 rfl rfl) h1
  clear hA0 
  simp only [List.append_nil] at hW'
  refine (law_calls so5 (xs, (ys, ())) ((true, ()), ()) (true_f_laws_FnRenamed xs ys (bytes_range hr) (bytes_range hr1) (okWide_len Tryd.underlying40 (hval 1 40 _ rfl rfl))) W (fun b => F b ∨ F1 b) (l, (l1, ())) [Ev.valOf (.sl (.int .u8)) xs l, Ev.valOf (.sl (.int .u8)) ys l1]
    ⟨_, _, rfl, sat_s_frame hs (fun _ _ => rfl) (fun _ h => .inl h), rfl, _, _, rfl, sat_s_frame hs1 (fun _ _ => rfl) (fun _ h => .inr h), rfl, rfl⟩ rfl rfl (fun b h => h.elim (hF b) (hF1 b)) _ (fun _ => rfl)).mono fun e W' ⟨he, g1, g2, g3, g4⟩ => ?_
  subst he
  refine ⟨_, rfl, _, _, _, [], _, [], hW', trodAll_mk1 (shut_bool Tryd.underlying4 _), trodAll_mk2 (arg_stays tryLaid (by kernel_rfl) (of_decide_eq_true (by kernel_rfl)) h0 (fun x hx => hW'.lt x (List.mem_append_left _ hx)) g4) (arg_stays tryLaid (by kernel_rfl) (of_decide_eq_true (by kernel_rfl)) h1 (fun x hx => hW'.lt x (List.mem_append_right _ hx)) g4), rfl, keptBut_same g1 g2 g4 _, fun h => by cases h⟩

theorem fnRenamed_row : Rows.FnRenamedSaid :=
  OpenClaim.holds_of_wide 5 Tryd.f5 rfl rfl rfl rfl rfl rfl rfl ⟨rfl, rfl, rfl, rfl, rfl⟩ rfl rfl rfl rfl rfl (by kernel_rfl) Tryd.func5 (by kernel_rfl)
    (of_decide_eq_true (by kernel_rfl)) (by unfold Func.isWrapper; first | (rw [if_pos (by decide +kernel)]; kernel_rfl) | (rw [if_neg (by decide +kernel)]; exact ⟨rfl, rfl⟩))
    (fun os started H enc _ => fnRenamedLifted os started H enc)

theorem fnRenamed_holds : Rows.FnRenamedCardSaid :=
  Claim7.holds_tied_plain_at .later [] [.data, .pinned] true (true, "168b628d8fbba0d5576509ed827168722a034af60095867c367abfdad5e4e49e") false
    fnRenamed_row (fun _ h => by cases h) (by kernel_rfl) (fun _ h => by cases h) fnRenamed_row_tie rfl ⟨rfl, rfl⟩ (by kernel_rfl) rfl
    (fun f fn hf hfn => by
      obtain rfl : f = 5 := Option.some.inj ((show Tryd.prog.funcNamed "loop.example/g00224/laws.FnRenamed" = some 5 by kernel_rfl).symm.trans hf) |>.symm
      obtain rfl : fn = Tryd.f5 := (Option.some.inj (Tryd.func5.symm.trans hfn)).symm
      exact ⟨by kernel_rfl, fun j t ht => by
        rw [Tryd.params5] at ht
        have hm : t ∈ [40, 40] := by simpa using Array.mem_of_getElem? ht
        have hall : ([40, 40].all fun u => !Tryd.prog.wantsStandIn u) = true := by kernel_rfl
        exact (show Tryd.prog.wantsStandIn t = false by simpa using List.all_eq_true.1 hall t hm)⟩)
    (by kernel_rfl)
#print axioms fnRenamed_holds
end Go.Proofs.YthlnjkcpdkjipaaDoor
