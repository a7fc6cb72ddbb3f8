/- Numbers at the head of a text. -/
import Derived.Test.YtncalmofbcmkaaaGreatR3Fns
import Derived.Test.YtncalmofbcmkaaaGreatEv3
set_option linter.all false
namespace Go.Proofs.YtncalmofbcmkaaaGreat
open Go Go.Proofs.YtncalmofbcmkaaaGreat.Ev

/-- the number at the head of a text, and how many bytes it takes -/
def takeGo (s : ByteArray) : Nat → Nat → Nat → Nat × Nat
  | 0, _, _ => (0, 0)
  | f + 1, k, n => match s[k]? with
    | none => (0, 0)
    | some b => if b.toNat < 128 then (if 0 < k ∧ b.toNat = 0 then (0, 0) else (n ||| (b.toNat % 128 * 2 ^ (7 * k)), k + 1)) else takeGo s f (k + 1) (n ||| (b.toNat % 128 * 2 ^ (7 * k)))

def takeVar (s : ByteArray) : Nat × Nat := takeGo s 9 0 0

theorem getElem?_size {s : ByteArray} {k : Nat} {b : UInt8} (h : s[k]? = some b) : k < s.size := by
  rcases Nat.lt_or_ge k s.size with h1 | h1
  · exact h1
  · rw [getElem?_neg s k (by omega)] at h; cases h
theorem getElem?_none {s : ByteArray} {k : Nat} (h : s[k]? = none) : s.size ≤ k := by
  rcases Nat.lt_or_ge k s.size with h1 | h1
  · rw [getElem?_pos s k h1] at h; cases h
  · exact h1

theorem step_lt {n k b : Nat} (hk : k ≤ 8) (hn : n < 2 ^ (7 * k)) : b % 128 * 2 ^ (7 * k) < 9223372036854775808 ∧ n < 9223372036854775808 ∧ n ||| (b % 128 * 2 ^ (7 * k)) < 2 ^ (7 * (k + 1)) := by
  have h1 : b % 128 * 2 ^ (7 * k) < 2 ^ (7 * (k + 1)) := by
    rw [show 7 * (k + 1) = 7 + 7 * k by omega, Nat.pow_add]
    exact Nat.mul_lt_mul_of_pos_right (by omega) (Nat.two_pow_pos _)
  have h2 : n < 2 ^ (7 * (k + 1)) := Nat.lt_of_lt_of_le hn (Nat.pow_le_pow_right (by omega) (by omega))
  have h3 : 2 ^ (7 * (k + 1)) ≤ 2 ^ 63 := Nat.pow_le_pow_right (by omega) (by omega)
  exact ⟨by omega, by omega, Nat.or_lt_two_pow h2 h1⟩

theorem byte_lt (b : UInt8) : b.toNat < 256 := b.toNat_lt

theorem takeGo_ok (s : ByteArray) : ∀ (f k n : Nat), f + k = 9 → n < 2 ^ (7 * k) → (takeGo s f k n).1 < 9223372036854775808 ∧ (takeGo s f k n).2 ≤ s.size
  | 0, _, _, _, _ => by simp [takeGo]
  | f + 1, k, n, hf, hn => by
    simp only [takeGo]
    cases hb : s[k]? with
    | none => simp
    | some b =>
      obtain ⟨h1, h2, h3⟩ := step_lt (b := b.toNat) (by omega) hn
      simp only
      split
      · split
        · simp
        · have := getElem?_size hb
          have h4 : 2 ^ (7 * (k + 1)) ≤ 2 ^ 63 := Nat.pow_le_pow_right (by omega) (by omega)
          exact ⟨by simp only; omega, by simp only; omega⟩
      · exact takeGo_ok s f (k + 1) _ (by omega) h3

theorem takeVar_ok (s : ByteArray) : (takeVar s).1 < 9223372036854775808 ∧ (takeVar s).2 ≤ s.size := takeGo_ok s 9 0 0 rfl (by decide)

theorem loop_f_impl_TakeVar (s : ByteArray) {R : Type} (kk : ((ByteArray × Unit) × Unit) → (((Int × Int × Unit) × Unit) ⊕ (Unit × Unit)) → Option R) (g : Nat → Nat → Option R)
    (h1 : ∀ c (n u : Nat), kk c (.inl (((n : Int), ((u : Int), ())), ())) = g n u) (h2 : ∀ c, kk c (.inr ((), ())) = g 0 0) :
    ∀ (f k n : Nat), f + k = 9 → n < 2 ^ (7 * k) → loopF (c := f_impl_TakeVar_l3c) (v := f_impl_TakeVar_l3v) (ex := f_impl_TakeVar_l3e) f_impl_TakeVar_l3 R ((s, ()), ()) (((n : Int), ((k : Int), ())), ()) kk = g (takeGo s f k n).1 (takeGo s f k n).2
  | 0, k, n, hf, hn => by
    have hk : k = 9 := by omega
    subst hk
    have hc : ilt ((9 : Nat) : Int) (imin (slen s) (9 : Int)) = false := ilt_false.2 (by rw [imin_eq]; simp only [slen]; omega)
    rw [loopF_done (c' := ((s, ()), ())) (o := Sum.inr ((), ())) (by simp only [round, f_impl_TakeVar_l3]; rw [hc]; rfl), h2]
    rfl
  | f + 1, k, n, hf, hn => by
    simp only [takeGo]
    cases hb : s[k]? with
    | none =>
      have := getElem?_none hb
      have hc : ilt (k : Int) (imin (slen s) (9 : Int)) = false := ilt_false.2 (by rw [imin_eq]; simp only [slen]; omega)
      rw [loopF_done (c' := ((s, ()), ())) (o := Sum.inr ((), ())) (by simp only [round, f_impl_TakeVar_l3]; rw [hc]; rfl), h2]
    | some b =>
      have hs := getElem?_size hb
      have hB := byte_lt b
      obtain ⟨e1, e2, e3⟩ := step_lt (b := b.toNat) (show k ≤ 8 by omega) hn
      have hc : ilt (k : Int) (imin (slen s) (9 : Int)) = true := ilt_iff.2 (by rw [imin_eq]; simp only [slen]; omega)
      have hm : imul .i64 (7 : Int) (k : Int) = ((7 * k : Nat) : Int) := by rw [imul_i64 (by omega)]; simp
      have hr : ile (0 : Int) ((7 * k : Nat) : Int) = true := by simp [ile]; omega
      have hw : IntKind.wrap .i64 (b.toNat : Int) = (b.toNat : Int) := wrap_i64 _ (by omega)
      have hrem : irem .i64 (b.toNat : Int) (128 : Int) = ((b.toNat % 128 : Nat) : Int) := by simp [irem, Int.tmod]
      have hsh : ishl .i64 ((b.toNat % 128 : Nat) : Int) ((7 * k : Nat) : Int) = ((b.toNat % 128 * 2 ^ (7 * k) : Nat) : Int) := ishl_nat _ _ (by omega) e1
      have hor : ior .i64 (n : Int) ((b.toNat % 128 * 2 ^ (7 * k) : Nat) : Int) = ((n ||| (b.toNat % 128 * 2 ^ (7 * k)) : Nat) : Int) := ior_nat _ _ e2 e1
      have had : iadd .i64 (k : Int) (1 : Int) = ((k + 1 : Nat) : Int) := by rw [iadd_i64 (by omega)]; simp
      have hstep : ∀ (S : Type) (K : ((ByteArray × Unit) × Unit) → (((Int × Int × Unit) × Unit) ⊕ (((Int × Int × Unit) × Unit) ⊕ (Unit × Unit))) → Option S), f_impl_TakeVar_l3 S ((s, ()), ()) (((n : Int), ((k : Int), ())), ()) K =
          if b.toNat < 128 then (if 0 < k ∧ b.toNat = 0 then K ((s, ()), ()) (.inr (.inl (((0 : Int), ((0 : Int), ())), ()))) else K ((s, ()), ()) (.inr (.inl ((((n ||| (b.toNat % 128 * 2 ^ (7 * k)) : Nat) : Int), (((k + 1 : Nat) : Int), ())), ()))))
          else K ((s, ()), ()) (.inl ((((n ||| (b.toNat % 128 * 2 ^ (7 * k)) : Nat) : Int), (((k + 1 : Nat) : Int), ())), ())) := by
        intro S K
        simp only [f_impl_TakeVar_l3, hc, cond_true]
        rw [getB_at (by omega) (by simpa using hb)]
        simp only [hm, hr, req, cond_true, hw, hrem, hsh, hor, had]
        by_cases hlt : b.toNat < 128
        · simp only [hlt, if_true, show ilt (b.toNat : Int) (128 : Int) = true by simp [ilt]; omega, cond_true]
          by_cases hk0 : 0 < k
          · simp only [show ilt (0 : Int) (k : Int) = true by simp [ilt]; omega, cond_true]
            by_cases hz : b.toNat = 0
            · simp only [hk0, hz, and_self, if_true]; rfl
            · simp only [hz, and_false, if_false, show ieq (b.toNat : Int) (0 : Int) = false by simp [ieq, hz], cond_false]
          · simp only [hk0, false_and, if_false, show ilt (0 : Int) (k : Int) = false by simp [ilt]; omega, cond_false]
        · simp only [hlt, if_false, show ilt (b.toNat : Int) (128 : Int) = false by simp [ilt]; omega, cond_false]
      simp only
      by_cases hlt : b.toNat < 128
      · simp only [hlt, if_true]
        by_cases hz : 0 < k ∧ b.toNat = 0
        · simp only [hz, and_self, if_true]
          rw [loopF_done (c' := ((s, ()), ())) (o := Sum.inl (((0 : Int), ((0 : Int), ())), ())) (by rw [round, hstep, if_pos hlt, if_pos hz])]
          exact h1 _ 0 0
        · simp only [hz, if_false]
          rw [loopF_done (c' := ((s, ()), ())) (o := Sum.inl ((((n ||| (b.toNat % 128 * 2 ^ (7 * k)) : Nat) : Int), (((k + 1 : Nat) : Int), ())), ())) (by rw [round, hstep, if_pos hlt, if_neg hz])]
          exact h1 _ _ _
      · simp only [hlt, if_false]
        rw [loopF_more (c' := ((s, ()), ())) (v' := ((((n ||| (b.toNat % 128 * 2 ^ (7 * k)) : Nat) : Int), (((k + 1 : Nat) : Int), ())), ())) (by rw [round, hstep, if_neg hlt])]
        exact loop_f_impl_TakeVar s kk g h1 h2 f (k + 1) _ (by omega) e3

theorem val_f_impl_TakeVar (x : ByteArray × Unit) : f_impl_TakeVar x = some ((((takeVar x.1).1 : Int), (((takeVar x.1).2 : Int), ())), ()) :=
  loop_f_impl_TakeVar x.1 _ (fun n u => some (((n : Int), ((u : Int), ())), ())) (fun _ _ _ => rfl) (fun _ => rfl) 9 0 0 rfl (by decide)

theorem loop_f_spec_l2Take (s : ByteArray) {R : Type} (kk : ((ByteArray × Unit) × Unit) → (((Int × Int × Unit) × Unit) ⊕ (Unit × Unit)) → Option R) (g : Nat → Nat → Option R)
    (h1 : ∀ c (n u : Nat), kk c (.inl (((n : Int), ((u : Int), ())), ())) = g n u) (h2 : ∀ c, kk c (.inr ((), ())) = g 0 0) :
    ∀ (f k n : Nat), f + k = 9 → n < 2 ^ (7 * k) → loopF (c := f_spec_l2Take_l3c) (v := f_spec_l2Take_l3v) (ex := f_spec_l2Take_l3e) f_spec_l2Take_l3 R ((s, ()), ()) (((n : Int), ((k : Int), ())), ()) kk = g (takeGo s f k n).1 (takeGo s f k n).2
  | 0, k, n, hf, hn => by
    have hk : k = 9 := by omega
    subst hk
    rw [loopF_done (c' := ((s, ()), ())) (o := Sum.inr ((), ())) (by simp only [round, f_spec_l2Take_l3]; rfl), h2]
    rfl
  | f + 1, k, n, hf, hn => by
    simp only [takeGo]
    have hc1 : ilt (k : Int) (9 : Int) = true := by simp [ilt]; omega
    cases hb : s[k]? with
    | none =>
      have := getElem?_none hb
      have hc : ilt (k : Int) (slen s) = false := by simp [ilt, slen]; omega
      rw [loopF_done (c' := ((s, ()), ())) (o := Sum.inr ((), ())) (by simp only [round, f_spec_l2Take_l3]; rw [hc1, hc]; rfl), h2]
    | some b =>
      have hs := getElem?_size hb
      have hB := byte_lt b
      obtain ⟨e1, e2, e3⟩ := step_lt (b := b.toNat) (show k ≤ 8 by omega) hn
      have hc : ilt (k : Int) (slen s) = true := by simp [ilt, slen]; omega
      have hm : IntKind.wrap .u64 (imul .i64 (7 : Int) (k : Int)) = ((7 * k : Nat) : Int) := by rw [imul_i64 (by omega), wrap_u64]; omega
      have hr : ile (0 : Int) ((7 * k : Nat) : Int) = true := by simp [ile]; omega
      have hrem : IntKind.wrap .i64 (iand .u8 (b.toNat : Int) (127 : Int)) = ((b.toNat % 128 : Nat) : Int) := by
        have h := iand_u8 b.toNat 127 hB (by omega)
        rw [show ((127 : Nat) : Int) = (127 : Int) from rfl] at h
        rw [h, Nat.and_two_pow_sub_one_eq_mod b.toNat 7]
        exact wrap_i64 _ (by omega)
      have hsh : ishl .i64 ((b.toNat % 128 : Nat) : Int) ((7 * k : Nat) : Int) = ((b.toNat % 128 * 2 ^ (7 * k) : Nat) : Int) := ishl_nat _ _ (by omega) e1
      have hor : ior .i64 (n : Int) ((b.toNat % 128 * 2 ^ (7 * k) : Nat) : Int) = ((n ||| (b.toNat % 128 * 2 ^ (7 * k)) : Nat) : Int) := ior_nat _ _ e2 e1
      have had : iadd .i64 (k : Int) (1 : Int) = ((k + 1 : Nat) : Int) := by rw [iadd_i64 (by omega)]; simp
      have hstep : ∀ (S : Type) (K : ((ByteArray × Unit) × Unit) → (((Int × Int × Unit) × Unit) ⊕ (((Int × Int × Unit) × Unit) ⊕ (Unit × Unit))) → Option S), f_spec_l2Take_l3 S ((s, ()), ()) (((n : Int), ((k : Int), ())), ()) K =
          if b.toNat < 128 then (if 0 < k ∧ b.toNat = 0 then K ((s, ()), ()) (.inr (.inl (((0 : Int), ((0 : Int), ())), ()))) else K ((s, ()), ()) (.inr (.inl ((((n ||| (b.toNat % 128 * 2 ^ (7 * k)) : Nat) : Int), (((k + 1 : Nat) : Int), ())), ()))))
          else K ((s, ()), ()) (.inl ((((n ||| (b.toNat % 128 * 2 ^ (7 * k)) : Nat) : Int), (((k + 1 : Nat) : Int), ())), ())) := by
        intro S K
        simp only [f_spec_l2Take_l3, hc1, hc, cond_true]
        rw [getB_at (by omega) (by simpa using hb)]
        simp only [hm, hr, req, cond_true]
        rw [getB_at (by omega) (by simpa using hb)]
        simp only [hrem, hsh, hor, had]
        by_cases hlt : b.toNat < 128
        · simp only [hlt, if_true, show ilt (b.toNat : Int) (128 : Int) = true by simp [ilt]; omega, cond_true]
          by_cases hk0 : 0 < k
          · simp only [show ilt (0 : Int) (k : Int) = true by simp [ilt]; omega, cond_true]
            rw [getB_at (by omega) (by simpa using hb)]
            by_cases hz : b.toNat = 0
            · simp only [hk0, hz, and_self, if_true]; rfl
            · simp only [hz, and_false, if_false, show ieq (b.toNat : Int) (0 : Int) = false by simp [ieq, hz], cond_false]
          · simp only [hk0, false_and, if_false, show ilt (0 : Int) (k : Int) = false by simp [ilt]; omega, cond_false]
        · simp only [hlt, if_false, show ilt (b.toNat : Int) (128 : Int) = false by simp [ilt]; omega, cond_false]
      simp only
      by_cases hlt : b.toNat < 128
      · simp only [hlt, if_true]
        by_cases hz : 0 < k ∧ b.toNat = 0
        · simp only [hz, and_self, if_true]
          rw [loopF_done (c' := ((s, ()), ())) (o := Sum.inl (((0 : Int), ((0 : Int), ())), ())) (by rw [round, hstep, if_pos hlt, if_pos hz])]
          exact h1 _ 0 0
        · simp only [hz, if_false]
          rw [loopF_done (c' := ((s, ()), ())) (o := Sum.inl ((((n ||| (b.toNat % 128 * 2 ^ (7 * k)) : Nat) : Int), (((k + 1 : Nat) : Int), ())), ())) (by rw [round, hstep, if_pos hlt, if_neg hz])]
          exact h1 _ _ _
      · simp only [hlt, if_false]
        rw [loopF_more (c' := ((s, ()), ())) (v' := ((((n ||| (b.toNat % 128 * 2 ^ (7 * k)) : Nat) : Int), (((k + 1 : Nat) : Int), ())), ())) (by rw [round, hstep, if_neg hlt])]
        exact loop_f_spec_l2Take s kk g h1 h2 f (k + 1) _ (by omega) e3

theorem val_f_spec_l2Take (x : ByteArray × Unit) : f_spec_l2Take x = some ((((takeVar x.1).1 : Int), (((takeVar x.1).2 : Int), ())), ()) :=
  loop_f_spec_l2Take x.1 _ (fun n u => some (((n : Int), ((u : Int), ())), ())) (fun _ _ _ => rfl) (fun _ => rfl) 9 0 0 rfl (by decide)

end Go.Proofs.YtncalmofbcmkaaaGreat
