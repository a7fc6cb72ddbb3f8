/- Runs compared as a law compares them. -/
import Derived.Test.YtncalmofbcmkaaaGreatR1Mid
set_option linter.all false
noncomputable section
namespace Go.Proofs.YtncalmofbcmkaaaGreat
open Go Go.Proofs.YtncalmofbcmkaaaGreat.Ev

theorem eqK_self : ∀ {k : K} (x : T k), k.flat = true → eqK k x x = true
  | .int _, x, _ => by simp [eqK]
  | .bool, x, _ => by simp [eqK]
  | .str, x, _ => by simp [eqK]
  | .unit, x, _ => rfl
  | .pair a b, x, h => by
    simp only [K.flat, Bool.and_eq_true] at h
    simp only [eqK, eqK_self x.1 h.1, eqK_self x.2 h.2, Bool.and_self]
  | .sl _, x, h => by cases h

theorem f_laws_sameItemsLoop {R : Type} (l : List DItem) (hl : l.length ≤ 4611686018427387904) (kk : (((List DItem) × (List DItem) × Int × Unit) × Unit) → (((Bool × Unit) × Unit) ⊕ (Unit × Unit)) → Option R) : ∀ (B A : List DItem), A ++ B = l →
    loopF (c := f_laws_sameItems_l4c) (v := f_laws_sameItems_l4v) (ex := f_laws_sameItems_l4e) f_laws_sameItems_l4 R ((l, (l, (llen l, ()))), ()) ((((A.length : Nat) : Int), ()), ()) kk = kk ((l, (l, (llen l, ()))), ()) (.inr ((), ()))
  | [], A, h => by
    subst h
    rw [loopF_done (c' := ((A ++ [], (A ++ [], (llen (A ++ []), ()))), ())) (o := Sum.inr ((), ())) (by simp only [round, f_laws_sameItems_l4, mid_end, cond_false])]
  | y :: B, A, h => by
    have hA : A.length + 1 ≤ l.length := by rw [← h]; simp
    rw [loopF_more (c' := ((l, (l, (llen l, ()))), ())) (v' := (((((A ++ [y]).length : Nat) : Int), ()), ())) (by
      rw [← h]
      simp only [round, f_laws_sameItems_l4, mid_lt, cond_true, mid_getO]
      rw [eqK_self (k := kdItem) y rfl]
      simp only [Bool.not_true, cond_false]
      rw [mid_next A y (by omega)])]
    exact f_laws_sameItemsLoop l hl kk B (A ++ [y]) (by simp [← h])

theorem f_laws_sameItemsSame (x : List DItem × List DItem × Unit) (h : x.1 = x.2.1) (hl : x.1.length ≤ 4611686018427387904) : f_laws_sameItems x = some ((true, ()), ()) := by
  obtain ⟨a, b, ⟨⟩⟩ := x
  dsimp only at h hl
  subst h
  unfold f_laws_sameItems
  simp only [ieq_iff.2, Bool.not_true, cond_false]
  exact f_laws_sameItemsLoop a hl (fun c3 o4 => (match o4 with
 | .inl y5 => (some ((y5.1.1, ()), ()))
 | .inr z6 => (some ((true, ()), ())))) a [] rfl

/-! ### places -/

end Go.Proofs.YtncalmofbcmkaaaGreat
