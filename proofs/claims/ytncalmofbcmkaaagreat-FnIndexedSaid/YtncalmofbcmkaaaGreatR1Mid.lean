/- Lists, an index in their midst. -/
import Derived.Test.YtncalmofbcmkaaaGreatR1First
set_option linter.all false
noncomputable section
namespace Go.Proofs.YtncalmofbcmkaaaGreat
open Go Go.Proofs.YtncalmofbcmkaaaGreat.Ev

section
variable {α : Type} {R : Type}
theorem mid_get (A B : List α) (y : α) : (A ++ y :: B)[A.length]? = some y := by simp
theorem mid_set (A B : List α) (y v : α) : List.set (A ++ y :: B) A.length v = A ++ v :: B := by simp
theorem mid_getO (A B : List α) (y : α) (k : α → Option R) : getO (A ++ y :: B) ((A.length : Nat) : Int) k = k y := getO_at (by omega) (by simp)
theorem mid_lt (A B : List α) (y : α) : ilt ((A.length : Nat) : Int) (llen (A ++ y :: B)) = true := ilt_iff.2 (by simp only [llen, List.length_append, List.length_cons]; omega)
theorem mid_end (A : List α) : ilt ((A.length : Nat) : Int) (llen (A ++ [])) = false := ilt_false.2 (by simp only [llen, List.append_nil]; omega)
theorem mid_next (A : List α) (y : α) (h : A.length ≤ 9223372036854775806) : iadd .i64 ((A.length : Nat) : Int) (1 : Int) = (((A ++ [y]).length : Nat) : Int) := by
  rw [iadd_i64 (by omega)]; simp
theorem mid_app (A B : List α) (y : α) : A ++ y :: B = (A ++ [y]) ++ B := by simp
end

end Go.Proofs.YtncalmofbcmkaaaGreat
