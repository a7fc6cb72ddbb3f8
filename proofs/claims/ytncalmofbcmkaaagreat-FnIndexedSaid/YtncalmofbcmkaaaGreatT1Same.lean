/- What table reading functions answer: both sides the same. -/
import Derived.Test.YtncalmofbcmkaaaGreatT1Both
set_option linter.all false
noncomputable section
namespace Go.Proofs.YtncalmofbcmkaaaGreat
open Go Go.Proofs.YtncalmofbcmkaaaGreat.Ev

/-- what the program reads, said with what the reference reads -/
theorem readTable_is (s : ByteArray) (hs : s.size ≤ 1048576) : ∃ t ok, f_impl_readTable (s, ()) = some ((t, (ok, ())), ()) ∧ match specT s with | none => ok = false | some l => ok = true ∧ t = tabD l := by
  have := f_impl_readTableVal s hs
  rwa [implT_specT] at this

theorem big_size {s : ByteArray} : (1048576 < s.size ∧ ilt (1048576 : Int) (slen s) = true) ∨ (s.size ≤ 1048576 ∧ ilt (1048576 : Int) (slen s) = false) := by
  by_cases h : 1048576 < s.size
  · exact .inl ⟨h, ilt_iff.2 (by simp only [slen]; omega)⟩
  · exact .inr ⟨by omega, ilt_false.2 (by simp only [slen]; omega)⟩

/-! ### the program alone -/
theorem rangeOf_impl (s : ByteArray) (hs : s.size ≤ 1048576) : ∃ a b c, f_impl_RangeOf (s, ()) = some ((a, (b, (c, ()))), ()) ∧ match specT s with | none => c = false | some l => c = true ∧ (∀ x, l[0]? = some x → a = x.1) ∧ (∀ x, l[l.length - 1]? = some x → b = x.1) := by
  obtain ⟨t, ok, h1, h2⟩ := readTable_is s hs
  unfold f_impl_RangeOf
  dsimp only
  rw [h1, bnd_some]
  dsimp only
  cases hq : specT s with
  | none =>
    rw [hq] at h2
    dsimp only at h2
    rw [h2]
    exact ⟨_, _, _, rfl, rfl⟩
  | some l =>
    rw [hq] at h2
    obtain ⟨rfl, rfl⟩ := h2
    obtain ⟨hok, _⟩ := specT_some hq
    have hl := hok.2
    dsimp only [tabD]
    rw [Bool.not_true]
    simp only [cond_false]
    have g0 : l[0]? = some l[0] := List.getElem?_eq_getElem (by omega)
    have g1 : l[l.length - 1]? = some l[l.length - 1] := List.getElem?_eq_getElem (by omega)
    have e : isub .i64 (llen l) (1 : Int) = ((l.length - 1 : Nat) : Int) := by rw [isub_i64 (by simp only [llen]; omega)]; simp only [llen]; omega
    rw [e, getO_at (by omega) (show l[Int.toNat 0]? = some l[0] from g0), show l[Int.toNat 0]? = some l[0] from g0]
    simp only [bnd_some]
    rw [getO_at (by omega) (by rw [Int.toNat_natCast]; exact g1), Int.toNat_natCast, g1]
    simp only [bnd_some]
    exact ⟨_, _, _, rfl, rfl, fun x hx => by first | (rw [g0] at hx; injection hx with hx; rw [hx]) | (injection hx with hx; rw [hx]), fun x hx => by first | (rw [g1] at hx; injection hx with hx; rw [hx]) | (injection hx with hx; rw [hx])⟩

theorem filterIn_impl (s : ByteArray) (hs : s.size ≤ 1048576) : ∃ a c, f_impl_FilterIn (s, ()) = some ((a, (c, ())), ()) ∧ match specT s with | none => c = false | some l => c = true ∧ a = filt (keysOf l) := by
  obtain ⟨t, ok, h1, h2⟩ := readTable_is s hs
  unfold f_impl_FilterIn
  dsimp only
  rw [h1, bnd_some]
  dsimp only
  cases hq : specT s with
  | none =>
    rw [hq] at h2
    dsimp only at h2
    rw [h2]
    exact ⟨_, _, rfl, rfl⟩
  | some l =>
    rw [hq] at h2
    obtain ⟨rfl, rfl⟩ := h2
    exact ⟨_, _, rfl, rfl, rfl⟩

theorem readTable_impl (s : ByteArray) (hs : s.size ≤ 1048576) : ∃ l ok, f_impl_ReadTable (s, ()) = some ((l, (ok, ())), ()) ∧ l.length ≤ 120 ∧ match specT s with | none => ok = false ∧ l = [] | some m => ok = true ∧ l = m := by
  obtain ⟨t, okk, h1, h2⟩ := readTable_is s hs
  unfold f_impl_ReadTable
  dsimp only
  rw [h1, bnd_some]
  dsimp only
  cases hq : specT s with
  | none =>
    rw [hq] at h2
    dsimp only at h2
    rw [h2]
    exact ⟨_, _, rfl, by simp, rfl, rfl⟩
  | some l =>
    rw [hq] at h2
    obtain ⟨rfl, rfl⟩ := h2
    obtain ⟨hok, _⟩ := specT_some hq
    exact ⟨_, _, rfl, hok.2.2, rfl, rfl⟩

theorem indexOf_same (s : ByteArray) (hs : s.size ≤ 1048576) : ∃ l ok, f_spec_IndexOf (s, ()) = some ((l, (ok, ())), ()) ∧ f_impl_IndexOf (s, ()) = some ((l, (ok, ())), ()) ∧ l.length ≤ 120 ∧ match specT s with | none => ok = false ∧ l = [] | some m => ok = true ∧ l = placesP 0 (tabPs m) := by
  obtain ⟨t, okk, h1, h2⟩ := readTable_is s hs
  unfold f_spec_IndexOf f_impl_IndexOf
  dsimp only
  rw [f_spec_l7ReadVal _ hs, h1, bnd_some, bnd_some]
  dsimp only
  cases hq : specT s with
  | none =>
    rw [hq] at h2
    dsimp only at h2
    rw [h2]
    exact ⟨_, _, rfl, rfl, by simp, rfl, rfl⟩
  | some l =>
    rw [hq] at h2
    obtain ⟨rfl, rfl⟩ := h2
    obtain ⟨hok, he⟩ := specT_some hq
    have hl := hok.2
    have hn := tabPs_len l
    dsimp only [okT, tabD]
    rw [Bool.not_true, cond_false, cond_false, f_spec_l7PartsVal _ hs, bnd_some]
    dsimp only
    rw [← he, parts_back hok]
    dsimp only [partsR]
    obtain ⟨n, a, _, _, _, _, _, _, _, _, _, h10, _, _⟩ := table_lies hok
    rw [f_spec_l7IndexVal _ (by dsimp only; omega), bnd_some]
    dsimp only
    rw [index_back hok]
    exact ⟨_, _, rfl, rfl, by show (placesP 0 (tabPs l)).length ≤ 120; rw [placesP_len]; omega, rfl, rfl⟩

end Go.Proofs.YtncalmofbcmkaaaGreat
