/- Each number of a session changes the map at most once. -/
import Derived.Test.YtogmfilmfkepfaaC4Fold3
set_option linter.all false
noncomputable section
namespace Go.Proofs.Ytogmfilmfkepfaa
open Go Go.Proofs.Ytogmfilmfkepfaa.Ev

/-- a command of this number, or a later one, has been seen of this session -/
def seen (s : DKvState) (id n : Int) : Prop := ∃ y ∈ s.2.1, y.1 = id ∧ n ≤ y.2.1

theorem posI_of_mem {l : List DSession} (h : SortI l) {j : Nat} {y : DSession} (hy : l[j]? = some y) : posI l y.1 = j := by
  have hj := (List.getElem?_eq_some_iff.1 hy).1
  refine (posBy_uniq (p := fun z => ilt z.1 y.1) (by omega) (fun i x hi hx => h.at hi hx hy) fun x hx => ?_).symm
  rw [hy] at hx
  injection hx with hx
  subst hx
  exact strictI.irr _

theorem hasI_of_mem {l : List DSession} (h : SortI l) {y : DSession} (hy : y ∈ l) : hasI l y.1 = true ∧ l[posI l y.1]? = some y := by
  obtain ⟨j, hj⟩ := List.getElem?_of_mem hy
  have := posI_of_mem h hj
  refine ⟨?_, by rw [this]; exact hj⟩
  unfold hasI atB
  rw [this, hj]
  exact ieq_iff.2 rfl

/-- what applying comes to -/
theorem applyP_cases (s : DKvState) (c : DCommand) : (applyP s c).1 = s ∨ ((applyP s c).1 = (stepP s c).1 ∧ ∀ y, hasI s.2.1 c.1 = true → s.2.1[posI s.2.1 c.1]? = some y → y.2.1 < c.2.1) := by
  unfold applyP
  cases goodC c with
  | false => exact .inl rfl
  | true =>
    simp only [Bool.not_true, cond_false]
    cases hh : hasI s.2.1 c.1 with
    | false =>
      simp only [cond_false]
      cases ieq (llen s.2.1) 12 with
      | true => exact .inl rfl
      | false => exact .inr ⟨rfl, fun y h => by cases h⟩
    | true =>
      have hlt := hasI_lt hh
      simp only [cond_true]
      rw [List.getElem?_eq_getElem hlt]
      dsimp only
      cases h1 : ieq (s.2.1[posI s.2.1 c.1]).2.1 c.2.1 with
      | true => exact .inl rfl
      | false =>
        simp only [cond_false]
        cases h2 : ilt c.2.1 (s.2.1[posI s.2.1 c.1]).2.1 with
        | true => exact .inl rfl
        | false =>
          refine .inr ⟨rfl, fun y _ hy => ?_⟩
          injection hy with hy
          subst hy
          have := ilt_false.1 h2
          have hne : (s.2.1[posI s.2.1 c.1]).2.1 ≠ c.2.1 := fun e => by rw [ieq_iff.2 e] at h1; cases h1
          omega

theorem stepP_new (s : DKvState) (c : DCommand) : seen (stepP s c).1 c.1 c.2.1 :=
  ⟨(c.1, (c.2.1, ((doP s.1 c).2, ()))), by unfold stepP replR; simp, rfl, Int.le_refl _⟩

theorem seen_stays {s : DKvState} (hi : Inv s) {c : DCommand} {id n : Int} (h : seen s id n) : seen (applyP s c).1 id n := by
  rcases applyP_cases s c with e | ⟨e, hlt⟩
  · rw [e]; exact h
  · rw [e]
    obtain ⟨y, hy, h1, h2⟩ := h
    obtain ⟨j, hj⟩ := List.getElem?_of_mem hy
    by_cases hid : y.1 = c.1
    · obtain ⟨q1, q2⟩ := hasI_of_mem hi.i hy
      rw [hid] at q1 q2
      have := hlt y q1 q2
      obtain ⟨z, z1, z2, z3⟩ := stepP_new s c
      exact ⟨z, z1, by rw [z2, ← hid, h1], by omega⟩
    · refine ⟨y, ?_, h1, h2⟩
      unfold stepP replR
      dsimp only
      rw [List.mem_append, List.mem_cons]
      rcases Nat.lt_or_ge j (posI s.2.1 c.1) with hj2 | hj2
      · exact .inl (List.mem_of_getElem? (i := j) (by rw [List.getElem?_take, if_pos hj2]; exact hj))
      · refine .inr (.inr ?_)
        cases hh : hasI s.2.1 c.1 with
        | false => exact List.mem_of_getElem? (i := j - posI s.2.1 c.1) (by rw [cond_false, List.getElem?_drop, show posI s.2.1 c.1 + (j - posI s.2.1 c.1) = j by omega]; exact hj)
        | true =>
          have hne : j ≠ posI s.2.1 c.1 := fun e => by
            unfold hasI atB at hh
            rw [← e, hj] at hh
            exact hid (ieq_iff.1 hh)
          exact List.mem_of_getElem? (i := j - (posI s.2.1 c.1 + 1)) (by rw [cond_true, List.getElem?_drop, show posI s.2.1 c.1 + 1 + (j - (posI s.2.1 c.1 + 1)) = j by omega]; exact hj)

/-- what changes the map was not seen before, and is seen behind -/
theorem change_once {s : DKvState} (hi : Inv s) {c : DCommand} (h : (applyP s c).1.1 ≠ s.1) : ¬ seen s c.1 c.2.1 ∧ seen (applyP s c).1 c.1 c.2.1 := by
  rcases applyP_cases s c with e | ⟨e, hlt⟩
  · rw [e] at h; exact absurd rfl h
  · rw [e]
    refine ⟨?_, stepP_new s c⟩
    rintro ⟨y, hy, h1, h2⟩
    obtain ⟨q1, q2⟩ := hasI_of_mem hi.i hy
    rw [h1] at q1 q2
    have := hlt y q1 q2
    omega

theorem foldP_snoc : ∀ (l : List DCommand) (c : DCommand) (s : DKvState), (foldP s (l ++ [c])).1 = (applyP (foldP s l).1 c).1
  | [], c, s => rfl
  | d :: l, c, s => by simp only [List.cons_append, foldP]; exact foldP_snoc l c _

end Go.Proofs.Ytogmfilmfkepfaa
