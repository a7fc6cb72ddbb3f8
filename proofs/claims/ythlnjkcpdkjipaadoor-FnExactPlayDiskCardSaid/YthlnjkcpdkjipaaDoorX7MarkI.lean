/- Marks of lists of numbers. -/
import Derived.Test.YthlnjkcpdkjipaaDoorR12Fns
import Derived.Test.YthlnjkcpdkjipaaDoorUMid
set_option linter.all false
noncomputable section
namespace Go.Proofs.YthlnjkcpdkjipaaDoor
open Go Go.Proofs.YthlnjkcpdkjipaaDoor.Ev

/-! ### numbers -/
def markI : Int → Nat → List Int
  | _, 0 => []
  | k, n + 1 => k :: markI (k + 1) n

theorem markI_length : ∀ (k : Int) (n : Nat), (markI k n).length = n
  | _, 0 => rfl
  | k, n + 1 => by simp [markI, markI_length (k + 1) n]

theorem f_laws_markIntSLoop {R : Type} (kk : (Unit × Unit) → ((Int × Unit) × ((List Int) × Unit)) → Option R) : ∀ (B A : List Int) (k : Int), 0 ≤ k → k + B.length ≤ 4611686018427387904 → A.length + B.length ≤ 4611686018427387904 →
    loopF (c := f_laws_markIntS_l2c) (v := f_laws_markIntS_l2v) (ex := f_laws_markIntS_l2e) f_laws_markIntS_l2 R ((), ()) ((k, (((A.length : Nat) : Int), ())), (A ++ B, ())) kk = kk ((), ()) ((k + B.length, ()), (A ++ markI k B.length, ()))
  | [], A, k, h0, hk, ha => by
    rw [loopF_done (c' := ((), ())) (o := ((k, ()), (A ++ [], ()))) (by simp only [round, f_laws_markIntS_l2, mid_end, cond_false])]
    simp [markI]
  | y :: B, A, k, h0, hk, ha => by
    simp only [List.length_cons] at hk ha
    rw [loopF_more (c' := ((), ())) (v' := ((k + 1, ((((A ++ [k]).length : Nat) : Int), ())), ((A ++ [k]) ++ B, ()))) (by
      simp only [round, f_laws_markIntS_l2, mid_lt, cond_true, mid_getO, Int.toNat_natCast, mid_get, bnd_some, mid_set]
      rw [iadd_i64 (a := k) (by omega), mid_next A k (by omega)]
      simp only [List.append_assoc, List.singleton_append])]
    rw [f_laws_markIntSLoop kk B (A ++ [k]) (k + 1) (by omega) (by omega) (by simp; omega)]
    simp only [markI, List.length_cons, List.append_assoc, List.singleton_append]
    rw [show k + 1 + (B.length : Int) = k + ((B.length + 1 : Nat) : Int) by omega]

theorem f_laws_markIntSVal (x : List Int × Int × Unit) (h0 : 0 ≤ x.2.1) (hk : x.2.1 + x.1.length ≤ 4611686018427387904) : f_laws_markIntS x = some ((x.2.1 + x.1.length, ()), (markI x.2.1 x.1.length, ())) := by
  unfold f_laws_markIntS
  have := f_laws_markIntSLoop (fun c3 o4 => (some ((o4.1.1, ()), (o4.2.1, ())))) x.1 [] x.2.1 h0 hk (by simp only [List.length_nil]; omega)
  exact this

theorem f_laws_heldIntSLoop {R : Type} (kk : (((List Int) × Unit) × Unit) → (((Int × Unit) × Unit) ⊕ ((Int × Unit) × Unit)) → Option R) : ∀ (n : Nat) (A : List Int) (k : Int), 0 ≤ k → k + n ≤ 4611686018427387904 → A.length + n ≤ 4611686018427387904 →
    loopF (c := f_laws_heldIntS_l2c) (v := f_laws_heldIntS_l2v) (ex := f_laws_heldIntS_l2e) f_laws_heldIntS_l2 R ((A ++ markI k n, ()), ()) ((k, (((A.length : Nat) : Int), ())), ()) kk = kk ((A ++ markI k n, ()), ()) (.inr ((k + n, ()), ()))
  | 0, A, k, h0, hk, ha => by
    simp only [markI]
    rw [loopF_done (c' := ((A ++ [], ()), ())) (o := Sum.inr ((k, ()), ())) (by simp only [round, f_laws_heldIntS_l2, mid_end, cond_false])]
    simp
  | n + 1, A, k, h0, hk, ha => by
    simp only [markI]
    rw [loopF_more (c' := ((A ++ k :: markI (k + 1) n, ()), ())) (v' := ((k + 1, ((((A ++ [k]).length : Nat) : Int), ())), ())) (by
      simp only [round, f_laws_heldIntS_l2, mid_lt, cond_true, mid_getO, ieq_iff.2, Bool.not_true, cond_false]
      rw [iadd_i64 (a := k) (by omega), mid_next A k (by omega)])]
    rw [mid_app, f_laws_heldIntSLoop kk n (A ++ [k]) (k + 1) (by omega) (by omega) (by simp; omega)]
    rw [show k + 1 + (n : Int) = k + ((n + 1 : Nat) : Int) by omega]

theorem f_laws_heldIntSVal (k : Int) (n : Nat) (h0 : 0 ≤ k) (hk : k + n ≤ 4611686018427387904) : f_laws_heldIntS (markI k n, (k, ())) = some ((k + n, ()), ()) := by
  unfold f_laws_heldIntS
  have := f_laws_heldIntSLoop (fun c2 o3 => (match o3 with
 | .inl y4 => (some ((y4.1.1, ()), ()))
 | .inr z5 => (some ((z5.1.1, ()), ())))) n [] k h0 hk (by simp only [List.length_nil]; omega)
  exact this

theorem f_laws_eqIntSLoop {R : Type} (l : List Int) (hl : l.length ≤ 4611686018427387904) (kk : (((List Int) × (List Int) × Unit) × Unit) → (((Bool × Unit) × Unit) ⊕ (Unit × Unit)) → Option R) : ∀ (B A : List Int), A ++ B = l →
    loopF (c := f_laws_eqIntS_l4c) (v := f_laws_eqIntS_l4v) (ex := f_laws_eqIntS_l4e) f_laws_eqIntS_l4 R ((l, (l, ())), ()) ((((A.length : Nat) : Int), ()), ()) kk = kk ((l, (l, ())), ()) (.inr ((), ()))
  | [], A, h => by
    subst h
    rw [loopF_done (c' := ((A ++ [], (A ++ [], ())), ())) (o := Sum.inr ((), ())) (by simp only [round, f_laws_eqIntS_l4, mid_end, cond_false])]
  | y :: B, A, h => by
    have hA : A.length + 1 ≤ l.length := by rw [← h]; simp
    rw [loopF_more (c' := ((l, (l, ())), ())) (v' := (((((A ++ [y]).length : Nat) : Int), ()), ())) (by
      rw [← h]
      simp only [round, f_laws_eqIntS_l4, mid_lt, cond_true, mid_getO, ieq_iff.2, Bool.not_true, cond_false]
      rw [mid_next A y (by omega)])]
    exact f_laws_eqIntSLoop l hl kk B (A ++ [y]) (by simp [← h])

theorem f_laws_eqIntSSame (x : List Int × List Int × Unit) (h : x.1 = x.2.1) (hl : x.1.length ≤ 4611686018427387904) : f_laws_eqIntS x = some ((true, ()), ()) := by
  obtain ⟨a, b, ⟨⟩⟩ := x
  dsimp only at h hl
  subst h
  unfold f_laws_eqIntS
  simp only [ieq_iff.2, Bool.not_true, cond_false]
  have := f_laws_eqIntSLoop a hl (fun c3 o4 => (match o4 with
 | .inl y5 => (some ((y5.1.1, ()), ()))
 | .inr z6 => (some ((true, ()), ())))) a [] rfl
  exact this

end Go.Proofs.YthlnjkcpdkjipaaDoor
