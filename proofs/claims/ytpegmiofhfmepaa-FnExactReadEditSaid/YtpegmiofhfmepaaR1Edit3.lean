/- Edits read: which are good, and their bytes. -/
import Derived.Test.YtpegmiofhfmepaaR1Edit2
set_option linter.all false
noncomputable section
namespace Go.Proofs.Ytpegmiofhfmepaa
open Go Go.Proofs.Ytpegmiofhfmepaa.Ev

theorem upto_step {α : Type} {P : Nat → α → Prop} {l : List α} {j : Nat} {y : α} (h : ∀ i x, i < j → l[i]? = some x → P i x) (hy : l[j]? = some y) (hp : P j y) : ∀ i x, i < j + 1 → l[i]? = some x → P i x := by
  intro i x hi hx
  rcases Nat.lt_or_ge i j with h1 | h1
  · exact h i x h1 hx
  · have : i = j := by omega
    subst this
    rw [hy] at hx
    injection hx with hx
    subst hx
    exact hp
theorem upto_all {α : Type} {P : Nat → α → Prop} {l : List α} {j : Nat} (hj : l.length ≤ j) (h : ∀ i x, i < j → l[i]? = some x → P i x) : ∀ i x, l[i]? = some x → P i x := by
  intro i x hx
  have := (List.getElem?_eq_some_iff.1 hx).1
  exact h i x (by omega) hx

def NumAt (l : List Int) (i : Nat) (x : Int) : Prop := inR x 1 100000 = true ∧ ∀ y, 0 < i → l[i - 1]? = some y → y < x
def NumsOk (l : List Int) : Prop := ∀ i x, l[i]? = some x → NumAt l i x

theorem inR_iff (x a b : Int) : inR x a b = true ↔ a ≤ x ∧ x ≤ b := by
  simp only [inR]
  cases h : ile a x with
  | true => have := ile_iff.1 h; rw [cond_true]; exact ⟨fun h => ⟨this, ile_iff.1 h⟩, fun h => ile_iff.2 h.2⟩
  | false => have := ile_false.1 h; rw [cond_false]; exact ⟨ft, fun h => by omega⟩

theorem t65Does {x : List Int × Unit} (hl : x.1.length ≤ 1000) : Does (t65 x) fun r => (r.1.1 = true ↔ NumsOk x.1) := by
  obtain ⟨l, ⟨⟩⟩ := x
  dsimp only at hl
  unfold t65
  refine Does.loop (c := t65l2c) (v := t65l2v) (ex := t65l2e)
    (fun (xc : ((List Int) × (List Int) × Int × Unit) × Unit) (xv : (Int × Unit) × Unit) => xc.1.1 = l ∧ xc.1.2.1 = l ∧ xc.1.2.2.1 = llen l ∧ ∃ j : Nat, xv.1.1 = (j : Int) ∧ j ≤ l.length ∧ ∀ i x, i < j → l[i]? = some x → NumAt l i x)
    (fun _ (xv : (Int × Unit) × Unit) => l.length - Int.toNat xv.1.1) ?_ ⟨rfl, rfl, rfl, 0, rfl, by omega, fun i x h => by omega⟩
  rintro ⟨⟨a, b, n, ⟨⟩⟩, ⟨⟩⟩ ⟨⟨i, ⟨⟩⟩, ⟨⟩⟩ ⟨h1, h2, h3, j, h4, h5, h6⟩
  dsimp only at h1 h2 h3 h4
  subst h1; subst h2; subst h3; subst h4
  simp only [round, t65l2]
  refine Does.cond (fun hlt => ?_) (fun hlt => ?_)
  · have hlt := ilt_iff.1 hlt
    simp only [llen] at hlt
    refine Does.getO (by omega) (by omega) fun y hy => ?_
    rw [Int.toNat_natCast] at hy
    rw [valT58, bnd_some]
    refine Does.cond (fun hb => Does.val (Does.val ?_)) (fun hb => ?_)
    · refine ⟨(fun h => by cases h), fun h => ?_⟩
      have := (h j y hy).1
      rw [this] at hb
      cases hb
    · have hb : inR y 1 100000 = true := by simpa using hb
      have hnext : (∀ z, 0 < j → b[j - 1]? = some z → z < y) → (b = b ∧ b = b ∧ llen b = llen b ∧ ∃ k : Nat, iadd .i64 (j : Int) (1 : Int) = (k : Int) ∧ k ≤ b.length ∧ ∀ i x, i < k → b[i]? = some x → NumAt b i x) ∧ b.length - Int.toNat (iadd .i64 (j : Int) (1 : Int)) < b.length - Int.toNat (j : Int) := by
        intro hz
        rw [iadd_i64 (by omega)]
        exact ⟨⟨rfl, rfl, rfl, j + 1, by omega, by omega, upto_step h6 hy ⟨hb, hz⟩⟩, by omega⟩
      refine Does.cond (fun h0 => ?_) (fun h0 => ?_)
      · have h0 := ilt_iff.1 h0
        have e : isub .i64 (j : Int) (1 : Int) = ((j - 1 : Nat) : Int) := by rw [isub_i64 (by omega)]; omega
        rw [e]
        refine Does.getO (by omega) (by omega) fun z hz => ?_
        rw [Int.toNat_natCast] at hz
        refine Does.cond (fun hle => Does.val (Does.val ?_)) (fun hle => Does.val ?_)
        · have hle := ile_iff.1 hle
          refine ⟨(fun h => by cases h), fun h => ?_⟩
          have := (h j y hy).2 z (by omega) hz
          omega
        · have hle := ile_false.1 hle
          exact hnext fun z' _ hz' => by rw [hz] at hz'; injection hz' with hz'; rw [← hz']; exact hle
      · have h0 := ilt_false.1 h0
        exact Does.val (hnext fun z' h _ => by omega)
  · have hlt := ilt_false.1 hlt
    simp only [llen] at hlt
    refine Does.val (Does.val ?_)
    exact ⟨fun _ => upto_all (by omega) h6, fun _ => rfl⟩

end Go.Proofs.Ytpegmiofhfmepaa
