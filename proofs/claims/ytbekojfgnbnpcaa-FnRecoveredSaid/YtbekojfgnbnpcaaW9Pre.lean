/- Versions recovered from the beginning of a text. -/
import Derived.Test.YtbekojfgnbnpcaaW9Edit
set_option linter.all false
noncomputable section
namespace Go.Proofs.Ytbekojfgnbnpcaa
open Go Go.Proofs.Ytbekojfgnbnpcaa.Ev

theorem ext_get {s : ByteArray} {k i : Nat} {b : UInt8} (h : (s.extract 0 k)[i]? = some b) : s[i]? = some b := by
  have hi := getElem?_size h
  rw [ByteArray.size_extract] at hi
  rw [getElem?_pos (s.extract 0 k) i (by rw [ByteArray.size_extract]; exact hi)] at h
  rw [getElem?_pos s i (by omega)]
  rw [← h]
  congr 1
  simp [ByteArray.getElem_extract]

theorem takeGo_pre {p s : ByteArray} (hp : ∀ (i : Nat) (b : UInt8), p[i]? = some b → s[i]? = some b) : ∀ (f k n : Nat), (takeGo p f k n).2 ≠ 0 → takeGo s f k n = takeGo p f k n
  | 0, k, n, h => rfl
  | f + 1, k, n, h => by
    unfold takeGo at h ⊢
    cases hb : p[k]? with
    | none => rw [hb] at h; exact absurd rfl h
    | some b =>
      rw [hb] at h
      rw [hp k b hb]
      dsimp only at h ⊢
      split
      · rfl
      · rename_i hlt
        rw [if_neg hlt] at h
        exact takeGo_pre hp f (k + 1) _ h

theorem takeVar_pre {s : ByteArray} {k : Nat} (h : (takeVar (s.extract 0 k)).2 ≠ 0) : takeVar s = takeVar (s.extract 0 k) := takeGo_pre (fun i b => ext_get) 9 0 0 h

theorem ext_ext {s : ByteArray} {k a b : Nat} (hb : b ≤ k) : (s.extract 0 k).extract a b = s.extract a b := by
  rw [ByteArray.extract_extract]
  congr 1 <;> omega

theorem takeFr_pre {s : ByteArray} {k : Nat} {q : ByteArray × Nat} (h : takeFr (s.extract 0 k) = some q) : takeFr s = some q := by
  unfold takeFr at h
  by_cases h1 : (takeVar (s.extract 0 k)).2 = 0
  · rw [if_pos h1] at h; cases h
  rw [if_neg h1] at h
  by_cases h2 : 1000 < (takeVar (s.extract 0 k)).1
  · rw [if_pos h2] at h; cases h
  rw [if_neg h2] at h
  by_cases h3 : (s.extract 0 k).size < (takeVar (s.extract 0 k)).2 + 4 + (takeVar (s.extract 0 k)).1
  · rw [if_pos h3] at h; cases h
  rw [if_neg h3] at h
  have hv := takeVar_pre h1
  rw [ByteArray.size_extract] at h3
  have e1 := ext_ext (s := s) (k := k) (a := (takeVar (s.extract 0 k)).2 + 4) (b := (takeVar (s.extract 0 k)).2 + 4 + (takeVar (s.extract 0 k)).1) (by omega)
  have e2 := ext_ext (s := s) (k := k) (a := (takeVar (s.extract 0 k)).2) (b := (takeVar (s.extract 0 k)).2 + 4) (by omega)
  unfold takeFr
  rw [hv, if_neg h1, if_neg h2, if_neg (by omega), ← e1, ← e2]
  exact h

theorem dr_pre {s : ByteArray} {k u : Nat} (hk : k ≤ s.size) (hu : u ≤ k) : dr (s.extract 0 k) u = (dr s u).extract 0 (k - u) := by
  unfold dr
  rw [ByteArray.extract_extract, ByteArray.extract_extract, ByteArray.size_extract]
  congr 1 <;> omega

theorem frGo_pre : ∀ (f : Nat) (s : ByteArray) (k : Nat), k ≤ s.size → frGo f (s.extract 0 k) <+: frGo f s
  | 0, s, k, hk => List.prefix_rfl
  | f + 1, s, k, hk => by
    rw [frGo_succ, frGo_succ]
    cases hq : takeFr (s.extract 0 k) with
    | none => exact List.nil_prefix
    | some q =>
      rw [takeFr_pre hq]
      have hq2 := (takeFr_size hq).2
      rw [ByteArray.size_extract] at hq2
      dsimp only
      rw [dr_pre hk (by omega)]
      exact List.cons_prefix_cons.2 ⟨rfl, frGo_pre f (dr s q.2) (k - q.2) (by rw [dr_size]; omega)⟩

theorem recL_ge : ∀ (l : List ByteArray) (v : DVersion) (k : Nat), k ≤ (recL l v k).2
  | [], v, k => Nat.le_refl _
  | t :: l, v, k => by
    by_cases ht : EdOk t v
    · rw [recL_ok ht]
      exact Nat.le_trans (Nat.le_succ k) (recL_ge l _ (k + 1))
    · rw [recL_no ht]
      exact Nat.le_refl _
theorem recL_pre : ∀ (l r : List ByteArray) (v : DVersion) (k : Nat), (recL l v k).2 ≤ (recL (l ++ r) v k).2
  | [], r, v, k => recL_ge r v k
  | t :: l, r, v, k => by
    by_cases ht : EdOk t v
    · rw [List.cons_append, recL_ok ht, recL_ok ht]
      exact recL_pre l r _ _
    · rw [List.cons_append, recL_no ht, recL_no ht]
      exact Nat.le_refl _

/-- the next frame is played, or there is an end -/
theorem recL_next {l : List ByteArray} {v : DVersion} {k : Nat} (h : k < (recL l v k).2) : ∃ t r, l = t :: r ∧ EdOk t v ∧ recL l v k = recL r (appV v (editR t).1) (k + 1) := by
  cases l with
  | nil => exact absurd h (Nat.lt_irrefl k)
  | cons t r =>
    by_cases ht : EdOk t v
    · exact ⟨t, r, rfl, ht, recL_ok ht⟩
    · rw [recL_no ht] at h
      exact absurd h (Nat.lt_irrefl k)
theorem recL_end {l : List ByteArray} {v : DVersion} {k : Nat} (h : (recL l v k).2 = k) : (recL l v k).1 = v := by
  cases l with
  | nil => rfl
  | cons t r =>
    by_cases ht : EdOk t v
    · rw [recL_ok ht] at h
      have := recL_ge r (appV v (editR t).1) (k + 1)
      omega
    · rw [recL_no ht]

end Go.Proofs.Ytbekojfgnbnpcaa
