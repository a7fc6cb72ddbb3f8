/- Plain lemmas on ranges and takers. -/
import Derived.Test.YtncalmofbcmkaaaGreatR1Var
set_option linter.all false
namespace Go.Proofs.YtncalmofbcmkaaaGreat
open Go Go.Proofs.YtncalmofbcmkaaaGreat.Ev

theorem tf {p : Prop} (h : true = false) : p := by cases h
theorem ft {p : Prop} (h : false = true) : p := by cases h
def inR (n lo hi : Int) : Bool := cond (ile lo n) (ile n hi) false

theorem val_f_impl_in (x : Int × Int × Int × Unit) : f_impl_in x = some ((inR x.1 x.2.1 x.2.2.1, ()), ()) := by
  simp only [f_impl_in, inR]
  cases ile x.2.1 x.1 <;> rfl
theorem val_f_spec_l1In (x : Int × Int × Int × Unit) : f_spec_l1In x = some ((inR x.1 x.2.1 x.2.2.1, ()), ()) := by
  simp only [f_spec_l1In, inR]
  cases ile x.2.1 x.1 <;> rfl

theorem not_ile (a b : Int) : (!ile a b) = ilt b a := by
  cases h : ile a b with
  | true => have := ile_iff.1 h; exact (ilt_false.2 this).symm
  | false => have := ile_false.1 h; exact (ilt_iff.2 this).symm

theorem bounds_ok {u n : Nat} (h : u ≤ n) : (decide ((0 : Int) ≤ (u : Int)) && decide ((u : Int) ≤ ((n : Nat) : Int))) = true := by
  simp; omega

theorem text_impl (x : Dtaker × Int × Unit) (p : Dtaker) (n : Nat) (hp : x.1 = p) (hn : x.2.1 = (n : Int)) : f_impl_taker_text x = some (if p.2.1 = true ∨ p.1.size < n then (((⟨#[]⟩ : ByteArray), ()), ((p.1, (true, p.2.2)), ())) else ((p.1.extract 0 n, ()), ((p.1.extract n p.1.size, (false, p.2.2)), ()))) := by
  obtain ⟨s, b, ⟨⟩⟩ := p
  simp only [f_impl_taker_text, hp, hn]
  cases b with
  | true => rfl
  | false =>
    simp only [cond_false]
    by_cases hn : s.size < n
    · rw [ilt_iff.2 (show slen s < (n : Int) by simp only [slen]; omega)]
      simp [hn]
    · rw [ilt_false.2 (show (n : Int) ≤ slen s by simp only [slen]; omega), bounds_ok (by omega)]
      simp [hn, req]

end Go.Proofs.YtncalmofbcmkaaaGreat
