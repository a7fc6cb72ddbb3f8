/- FnExactRangeOf, FnExactFilterIn, FnExactReadTable and FnExactIndexOf over typed functions. -/
import Derived.Test.YtncalmofbcmkaaaT1Both
set_option linter.all false
noncomputable section
namespace Go.Proofs.Ytncalmofbcmkaaa
open Go Go.Proofs.Ytncalmofbcmkaaa.Ev

/-- what the program reads, said with what the reference reads -/
theorem readTable_is (s : ByteArray) (hs : s.size ≤ 1048576) : ∃ t ok, f_impl_readTable (s, ()) = some ((t, (ok, ())), ()) ∧ match specT s with | none => ok = false | some l => ok = true ∧ t = tabD l := by
  have := f_impl_readTableVal s hs
  rwa [implT_specT] at this

theorem big_size {s : ByteArray} : (1048576 < s.size ∧ ilt (1048576 : Int) (slen s) = true) ∨ (s.size ≤ 1048576 ∧ ilt (1048576 : Int) (slen s) = false) := by
  by_cases h : 1048576 < s.size
  · exact .inl ⟨h, ilt_iff.2 (by simp only [slen]; omega)⟩
  · exact .inr ⟨by omega, ilt_false.2 (by simp only [slen]; omega)⟩

theorem true_f_laws_FnExactRangeOf (s : ByteArray) : f_laws_FnExactRangeOf (s, ()) = some ((true, ()), ()) := by
  unfold f_laws_FnExactRangeOf
  dsimp only
  rcases big_size (s := s) with ⟨_, h⟩ | ⟨hs, h⟩
  · rw [h, cond_true]
  rw [h, cond_false]
  obtain ⟨t, ok, h1, h2⟩ := readTable_is s hs
  obtain ⟨a, b, c, e1, e2⟩ : ∃ a b c, f_spec_RangeOf (s, ()) = some ((a, (b, (c, ()))), ()) ∧ f_impl_RangeOf (s, ()) = some ((a, (b, (c, ()))), ()) := by
    unfold f_spec_RangeOf f_impl_RangeOf
    dsimp only
    rw [f_spec_l7ReadVal _ hs, h1, bnd_some, bnd_some]
    dsimp only
    cases hq : specT s with
    | none =>
      rw [hq] at h2
      dsimp only at h2
      rw [h2]
      exact ⟨_, _, _, rfl, rfl⟩
    | some l =>
      rw [hq] at h2
      obtain ⟨rfl, rfl⟩ := h2
      obtain ⟨hok, _⟩ := specT_some hq
      have hl := hok.2
      dsimp only [okT, tabD]
      rw [Bool.not_true]
      simp only [cond_false]
      have g0 : l[0]? = some l[0] := List.getElem?_eq_getElem (by omega)
      have g1 : l[l.length - 1]? = some l[l.length - 1] := List.getElem?_eq_getElem (by omega)
      have e : isub .i64 (llen l) (1 : Int) = ((l.length - 1 : Nat) : Int) := by rw [isub_i64 (by simp only [llen]; omega)]; simp only [llen]; omega
      rw [e, getO_at (by omega) (show l[Int.toNat 0]? = some l[0] from g0), show l[Int.toNat 0]? = some l[0] from g0]
      simp only [bnd_some]
      rw [getO_at (by omega) (by rw [Int.toNat_natCast]; exact g1), Int.toNat_natCast, g1]
      simp only [bnd_some]
      exact ⟨_, _, _, rfl, rfl⟩
  rw [e1, e2, bnd_some, bnd_some]
  simp only [seq_self, beqB_self, Bool.not_true, cond_false]

theorem f_laws_eqFilterSame (x : DFilter × DFilter × Unit) (h : x.1 = x.2.1) : f_laws_eqFilter x = some ((true, ()), ()) := by
  obtain ⟨a, b, ⟨⟩⟩ := x
  dsimp only at h
  subst h
  unfold f_laws_eqFilter
  simp only [seq_self, ieq_iff.2, Bool.not_true, cond_false]

theorem true_f_laws_FnExactFilterIn (s : ByteArray) : f_laws_FnExactFilterIn (s, ()) = some ((true, ()), ()) := by
  unfold f_laws_FnExactFilterIn
  dsimp only
  rcases big_size (s := s) with ⟨_, h⟩ | ⟨hs, h⟩
  · rw [h, cond_true]
  rw [h, cond_false]
  obtain ⟨t, ok, h1, h2⟩ := readTable_is s hs
  obtain ⟨a, c, e1, e2⟩ : ∃ a c, f_spec_FilterIn (s, ()) = some ((a, (c, ())), ()) ∧ f_impl_FilterIn (s, ()) = some ((a, (c, ())), ()) := by
    unfold f_spec_FilterIn f_impl_FilterIn
    dsimp only
    rw [f_spec_l7ReadVal _ hs, h1, bnd_some, bnd_some]
    dsimp only
    cases hq : specT s with
    | none =>
      rw [hq] at h2
      dsimp only at h2
      rw [h2]
      exact ⟨_, _, rfl, rfl⟩
    | some l =>
      rw [hq] at h2
      obtain ⟨rfl, rfl⟩ := h2
      obtain ⟨hok, _⟩ := specT_some hq
      have hl := hok.2
      have hk := keysOf_len l
      dsimp only [okT, tabD]
      rw [Bool.not_true, cond_false, cond_false, f_spec_l7KeysVal _ (by dsimp only; omega), bnd_some, f_spec_FilterOfVal _ rfl (keysOf_good hok.good) (by dsimp only; omega), bnd_some]
      exact ⟨_, _, rfl, rfl⟩
  rw [e1, e2, bnd_some, bnd_some]
  dsimp only
  rw [f_laws_eqFilterSame _ rfl, bnd_some]
  simp only [beqB_self, Bool.not_true, cond_false]

theorem true_f_laws_FnExactReadTable (s : ByteArray) : f_laws_FnExactReadTable (s, ()) = some ((true, ()), ()) := by
  unfold f_laws_FnExactReadTable
  dsimp only
  rcases big_size (s := s) with ⟨_, h⟩ | ⟨hs, h⟩
  · rw [h, cond_true]
  rw [h, cond_false]
  obtain ⟨t, okk, h1, h2⟩ := readTable_is s hs
  obtain ⟨l, ok, e1, e2, hl⟩ : ∃ l ok, f_spec_ReadTable (s, ()) = some ((l, (ok, ())), ()) ∧ f_impl_ReadTable (s, ()) = some ((l, (ok, ())), ()) ∧ l.length ≤ 120 := by
    unfold f_spec_ReadTable f_impl_ReadTable
    dsimp only
    rw [f_spec_l7ReadVal _ hs, h1, bnd_some, bnd_some]
    dsimp only
    cases hq : specT s with
    | none =>
      rw [hq] at h2
      dsimp only at h2
      rw [h2]
      exact ⟨_, _, rfl, rfl, by simp [okT]⟩
    | some l =>
      rw [hq] at h2
      obtain ⟨rfl, rfl⟩ := h2
      obtain ⟨hok, _⟩ := specT_some hq
      exact ⟨_, _, rfl, rfl, hok.2.2⟩
  rw [e1, e2, bnd_some, bnd_some]
  dsimp only
  rw [f_laws_eqItemSSame _ rfl (by dsimp only; omega), bnd_some]
  dsimp only
  rw [beqB_self, Bool.not_true, cond_false, f_laws_markItemSVal _ (by dsimp only; omega) (by dsimp only; omega), bnd_some]
  dsimp only
  rw [f_laws_heldItemSVal _ _ (by decide) (by omega), bnd_some]
  dsimp only
  rw [ilt_false.2 (by omega), cond_false, ieq_iff.2 rfl, Bool.not_true, cond_false, bnd_some]
  dsimp only
  rw [f_laws_eqItemSSame _ rfl (by dsimp only; omega), bnd_some]
  dsimp only
  rw [beqB_self, Bool.not_true, cond_false, cond_false, bnd_some]
  dsimp only
  rw [ilt_false.2 (by omega), cond_false, ieq_iff.2 rfl]
  rfl

/-! ### places marked -/
def mkPlace (k : Int) : DPlace := (mt k, (k + 1, (k + 2, (k + 3, ()))))
def markPl : Int → Nat → List DPlace
  | _, 0 => []
  | k, n + 1 => mkPlace k :: markPl (k + 4) n
theorem markPl_length : ∀ (k : Int) (n : Nat), (markPl k n).length = n
  | _, 0 => rfl
  | k, n + 1 => by simp [markPl, markPl_length (k + 4) n]

theorem f_laws_markPlaceSLoop {R : Type} (kk : (Unit × Unit) → ((Int × Unit) × ((List DPlace) × Unit)) → Option R) : ∀ (B A : List DPlace) (k : Int), 0 < k → k + 4 * B.length ≤ 4611686018427387904 → A.length + B.length ≤ 4611686018427387904 →
    loopF (c := f_laws_markPlaceS_l2c) (v := f_laws_markPlaceS_l2v) (ex := f_laws_markPlaceS_l2e) f_laws_markPlaceS_l2 R ((), ()) ((k, (((A.length : Nat) : Int), ())), (A ++ B, ())) kk = kk ((), ()) ((k + 4 * B.length, ()), (A ++ markPl k B.length, ()))
  | [], A, k, h0, hk, ha => by
    rw [loopF_done (c' := ((), ())) (o := ((k, ()), (A ++ [], ()))) (by simp only [round, f_laws_markPlaceS_l2, mid_end, cond_false])]
    simp [markPl]
  | y :: B, A, k, h0, hk, ha => by
    simp only [List.length_cons] at hk ha
    have e1 : iadd .i64 k (1 : Int) = k + 1 := iadd_i64 (by omega)
    have e2 : iadd .i64 (k + 1) (1 : Int) = k + 2 := by rw [iadd_i64 (by omega)]; omega
    have e3 : iadd .i64 (k + 2) (1 : Int) = k + 3 := by rw [iadd_i64 (by omega)]; omega
    have e4 : iadd .i64 (k + 3) (1 : Int) = k + 4 := by rw [iadd_i64 (by omega)]; omega
    rw [loopF_more (c' := ((), ())) (v' := ((k + 4, ((((A ++ [mkPlace k]).length : Nat) : Int), ())), ((A ++ [mkPlace k]) ++ B, ()))) (by
      simp only [round, f_laws_markPlaceS_l2, mid_lt, cond_true, e1, e2, e3, e4]
      rw [f_laws_markTextVal _ (by dsimp only; omega) (by dsimp only; omega), bnd_some]
      simp only [mid_getO, Int.toNat_natCast, mid_get, bnd_some, mid_set]
      rw [mid_next A (mkPlace k) (by omega), ← mid_app]
      rfl)]
    rw [f_laws_markPlaceSLoop kk B (A ++ [mkPlace k]) (k + 4) (by omega) (by omega) (by simp; omega)]
    simp only [markPl, List.length_cons, List.append_assoc, List.singleton_append]
    rw [show k + 4 + 4 * (B.length : Int) = k + 4 * ((B.length + 1 : Nat) : Int) by omega]

theorem f_laws_markPlaceSVal (x : List DPlace × Int × Unit) (h0 : 0 < x.2.1) (hk : x.2.1 + 4 * x.1.length ≤ 4611686018427387904) : f_laws_markPlaceS x = some ((x.2.1 + 4 * x.1.length, ()), (markPl x.2.1 x.1.length, ())) := by
  unfold f_laws_markPlaceS
  exact f_laws_markPlaceSLoop (fun c15 o16 => (some ((o16.1.1, ()), (o16.2.1, ())))) x.1 [] x.2.1 h0 hk (by simp only [List.length_nil]; omega)

theorem f_laws_heldPlaceSLoop {R : Type} (kk : (((List DPlace) × Unit) × Unit) → (((Int × Unit) × Unit) ⊕ ((Int × Unit) × Unit)) → Option R) : ∀ (n : Nat) (A : List DPlace) (k : Int), 0 < k → k + 4 * n ≤ 4611686018427387904 → A.length + n ≤ 4611686018427387904 →
    loopF (c := f_laws_heldPlaceS_l2c) (v := f_laws_heldPlaceS_l2v) (ex := f_laws_heldPlaceS_l2e) f_laws_heldPlaceS_l2 R ((A ++ markPl k n, ()), ()) ((k, (((A.length : Nat) : Int), ())), ()) kk = kk ((A ++ markPl k n, ()), ()) (.inr ((k + 4 * n, ()), ()))
  | 0, A, k, h0, hk, ha => by
    simp only [markPl]
    rw [loopF_done (c' := ((A ++ [], ()), ())) (o := Sum.inr ((k, ()), ())) (by simp only [round, f_laws_heldPlaceS_l2, mid_end, cond_false])]
    simp
  | n + 1, A, k, h0, hk, ha => by
    simp only [markPl]
    have e1 : iadd .i64 k (1 : Int) = k + 1 := iadd_i64 (by omega)
    have e2 : iadd .i64 (k + 1) (1 : Int) = k + 2 := by rw [iadd_i64 (by omega)]; omega
    have e3 : iadd .i64 (k + 2) (1 : Int) = k + 3 := by rw [iadd_i64 (by omega)]; omega
    have e4 : iadd .i64 (k + 3) (1 : Int) = k + 4 := by rw [iadd_i64 (by omega)]; omega
    rw [loopF_more (c' := ((A ++ mkPlace k :: markPl (k + 4) n, ()), ())) (v' := ((k + 4, ((((A ++ [mkPlace k]).length : Nat) : Int), ())), ())) (by
      simp only [round, f_laws_heldPlaceS_l2, mid_lt, cond_true, mid_getO, e1, e2, e3, e4]
      rw [f_laws_markTextVal _ (by dsimp only; omega) (by dsimp only; omega), bnd_some]
      simp only [mkPlace, seq_self, Bool.not_true, cond_false, ieq_iff.2]
      rw [mid_next A (mkPlace k) (by omega)]
      rfl)]
    rw [mid_app, f_laws_heldPlaceSLoop kk n (A ++ [mkPlace k]) (k + 4) (by omega) (by omega) (by simp; omega)]
    rw [show k + 4 + 4 * (n : Int) = k + 4 * ((n + 1 : Nat) : Int) by omega]

theorem f_laws_heldPlaceSVal (k : Int) (n : Nat) (h0 : 0 < k) (hk : k + 4 * n ≤ 4611686018427387904) : f_laws_heldPlaceS (markPl k n, (k, ())) = some ((k + 4 * n, ()), ()) := by
  unfold f_laws_heldPlaceS
  have := f_laws_heldPlaceSLoop (fun c7 o8 => (match o8 with
 | .inl y9 => (some ((y9.1.1, ()), ()))
 | .inr z10 => (some ((z10.1.1, ()), ())))) n [] k h0 hk (by simp only [List.length_nil]; omega)
  exact this

theorem f_laws_eqPlaceSame (x : DPlace × DPlace × Unit) (h : x.1 = x.2.1) : f_laws_eqPlace x = some ((true, ()), ()) := by
  obtain ⟨a, b, ⟨⟩⟩ := x
  dsimp only at h
  subst h
  unfold f_laws_eqPlace
  simp only [seq_self, ieq_iff.2, Bool.not_true, cond_false]

theorem f_laws_eqPlaceSLoop {R : Type} (l : List DPlace) (hl : l.length ≤ 4611686018427387904) (kk : (((List DPlace) × (List DPlace) × Unit) × Unit) → (((Bool × Unit) × Unit) ⊕ (Unit × Unit)) → Option R) : ∀ (B A : List DPlace), A ++ B = l →
    loopF (c := f_laws_eqPlaceS_l4c) (v := f_laws_eqPlaceS_l4v) (ex := f_laws_eqPlaceS_l4e) f_laws_eqPlaceS_l4 R ((l, (l, ())), ()) ((((A.length : Nat) : Int), ()), ()) kk = kk ((l, (l, ())), ()) (.inr ((), ()))
  | [], A, h => by
    subst h
    rw [loopF_done (c' := ((A ++ [], (A ++ [], ())), ())) (o := Sum.inr ((), ())) (by simp only [round, f_laws_eqPlaceS_l4, mid_end, cond_false])]
  | y :: B, A, h => by
    have hA : A.length + 1 ≤ l.length := by rw [← h]; simp
    rw [loopF_more (c' := ((l, (l, ())), ())) (v' := (((((A ++ [y]).length : Nat) : Int), ()), ())) (by
      rw [← h]
      simp only [round, f_laws_eqPlaceS_l4, mid_lt, cond_true, mid_getO]
      rw [f_laws_eqPlaceSame _ rfl, bnd_some]
      simp only [Bool.not_true, cond_false]
      rw [mid_next A y (by omega)])]
    exact f_laws_eqPlaceSLoop l hl kk B (A ++ [y]) (by simp [← h])

theorem f_laws_eqPlaceSSame (x : List DPlace × List DPlace × Unit) (h : x.1 = x.2.1) (hl : x.1.length ≤ 4611686018427387904) : f_laws_eqPlaceS x = some ((true, ()), ()) := by
  obtain ⟨a, b, ⟨⟩⟩ := x
  dsimp only at h hl
  subst h
  unfold f_laws_eqPlaceS
  simp only [ieq_iff.2, Bool.not_true, cond_false]
  exact f_laws_eqPlaceSLoop a hl (fun c4 o5 => (match o5 with
 | .inl y6 => (some ((y6.1.1, ()), ()))
 | .inr z7 => (some ((true, ()), ())))) a [] rfl

theorem true_f_laws_FnExactIndexOf (s : ByteArray) : f_laws_FnExactIndexOf (s, ()) = some ((true, ()), ()) := by
  unfold f_laws_FnExactIndexOf
  dsimp only
  rcases big_size (s := s) with ⟨_, h⟩ | ⟨hs, h⟩
  · rw [h, cond_true]
  rw [h, cond_false]
  obtain ⟨t, okk, h1, h2⟩ := readTable_is s hs
  obtain ⟨l, ok, e1, e2, hl⟩ : ∃ l ok, f_spec_IndexOf (s, ()) = some ((l, (ok, ())), ()) ∧ f_impl_IndexOf (s, ()) = some ((l, (ok, ())), ()) ∧ l.length ≤ 120 := by
    unfold f_spec_IndexOf f_impl_IndexOf
    dsimp only
    rw [f_spec_l7ReadVal _ hs, h1, bnd_some, bnd_some]
    dsimp only
    cases hq : specT s with
    | none =>
      rw [hq] at h2
      dsimp only at h2
      rw [h2]
      exact ⟨_, _, rfl, rfl, by simp⟩
    | some l =>
      rw [hq] at h2
      obtain ⟨rfl, rfl⟩ := h2
      obtain ⟨hok, he⟩ := specT_some hq
      have hl := hok.2
      have hn := tabPs_len l
      dsimp only [okT, tabD]
      rw [Bool.not_true, cond_false, cond_false, f_spec_l7PartsVal _ hs, bnd_some]
      dsimp only
      rw [← he, parts_back hok]
      dsimp only [partsR]
      obtain ⟨n, a, _, _, _, _, _, _, _, _, _, h10, _, _⟩ := table_lies hok
      rw [f_spec_l7IndexVal _ (by dsimp only; omega), bnd_some]
      dsimp only
      rw [index_back hok]
      exact ⟨_, _, rfl, rfl, by show (placesP 0 (tabPs l)).length ≤ 120; rw [placesP_len]; omega⟩
  rw [e1, e2, bnd_some, bnd_some]
  dsimp only
  rw [f_laws_eqPlaceSSame _ rfl (by dsimp only; omega), bnd_some]
  dsimp only
  rw [beqB_self, Bool.not_true, cond_false, f_laws_markPlaceSVal _ (by dsimp only; omega) (by dsimp only; omega), bnd_some]
  dsimp only
  rw [f_laws_heldPlaceSVal _ _ (by decide) (by omega), bnd_some]
  dsimp only
  rw [ilt_false.2 (by omega), cond_false, ieq_iff.2 rfl, Bool.not_true, cond_false, bnd_some]
  dsimp only
  rw [f_laws_eqPlaceSSame _ rfl (by dsimp only; omega), bnd_some]
  dsimp only
  rw [beqB_self, Bool.not_true, cond_false, cond_false, bnd_some]
  dsimp only
  rw [ilt_false.2 (by omega), cond_false, ieq_iff.2 rfl]
  rfl

end Go.Proofs.Ytncalmofbcmkaaa
