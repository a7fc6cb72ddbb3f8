/- Lists, an index in their midst. -/
import Derived.Test.YthlnjkcpdkjipaaDoorEv4
set_option linter.all false
noncomputable section
namespace Go.Proofs.YthlnjkcpdkjipaaDoor
open Go Go.Proofs.YthlnjkcpdkjipaaDoor.Ev

/-- a number counted on below a bound -/
theorem cnt_step {i n : Int} (h0 : 0 ≤ i) (h1 : i < n) (hn : n ≤ 4611686018427387904) : iadd .i64 i (1 : Int) = i + 1 ∧ 0 ≤ iadd .i64 i (1 : Int) ∧ iadd .i64 i (1 : Int) ≤ n ∧ (n - iadd .i64 i (1 : Int)).toNat < (n - i).toNat := by
  have e : iadd .i64 i (1 : Int) = i + 1 := iadd_i64 (by omega)
  rw [e]
  exact ⟨rfl, by omega, by omega, by omega⟩

section
variable {α : Type} {R : Type}
theorem mid_get (A B : List α) (y : α) : (A ++ y :: B)[A.length]? = some y := by simp
theorem mid_set (A B : List α) (y v : α) : List.set (A ++ y :: B) A.length v = A ++ v :: B := by simp
theorem mid_getO (A B : List α) (y : α) (k : α → Option R) : getO (A ++ y :: B) ((A.length : Nat) : Int) k = k y := getO_at (by omega) (by simp)
theorem mid_lt (A B : List α) (y : α) : ilt ((A.length : Nat) : Int) (llen (A ++ y :: B)) = true := ilt_iff.2 (by simp only [llen, List.length_append, List.length_cons]; omega)
theorem mid_end (A : List α) : ilt ((A.length : Nat) : Int) (llen (A ++ [])) = false := ilt_false.2 (by simp only [llen, List.append_nil]; omega)
theorem mid_next (A : List α) (y : α) (h : A.length ≤ 9223372036854775806) : iadd .i64 ((A.length : Nat) : Int) (1 : Int) = (((A ++ [y]).length : Nat) : Int) := by
  rw [iadd_i64 (by omega)]; simp
theorem catO_some {x y : ByteArray} {k : ByteArray → Option R} (h : x.size + y.size ≤ 9223372036854775807) : catO x y k = k (x ++ y) := by
  simp only [catO, h, decide_true, cond_true]
theorem req_true_of {b : Prop} [Decidable b] {k : Option R} (h : b) : req (decide b) k = k := by simp only [req, h, decide_true, cond_true]
theorem mid_app (A B : List α) (y : α) : A ++ y :: B = (A ++ [y]) ++ B := by simp
end

end Go.Proofs.YthlnjkcpdkjipaaDoor
