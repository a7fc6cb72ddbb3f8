/- Numbers, texts, frames and edits, read on both sides. -/
import Derived.Test.YtbekojfgnbnpcaaR8Fns
import Derived.Test.YtbekojfgnbnpcaaUMid
set_option linter.all false
noncomputable section
namespace Go.Proofs.Ytbekojfgnbnpcaa
open Go Go.Proofs.Ytbekojfgnbnpcaa.Ev

/-- the number at the head of a text, and how many bytes it takes -/
def takeGo (s : ByteArray) : Nat → Nat → Nat → Nat × Nat
  | 0, _, _ => (0, 0)
  | f + 1, k, n => match s[k]? with
    | none => (0, 0)
    | some b => if b.toNat < 128 then (if 0 < k ∧ b.toNat = 0 then (0, 0) else (n ||| (b.toNat % 128 * 2 ^ (7 * k)), k + 1)) else takeGo s f (k + 1) (n ||| (b.toNat % 128 * 2 ^ (7 * k)))

def takeVar (s : ByteArray) : Nat × Nat := takeGo s 9 0 0

theorem getElem?_size {s : ByteArray} {k : Nat} {b : UInt8} (h : s[k]? = some b) : k < s.size := by
  rcases Nat.lt_or_ge k s.size with h1 | h1
  · exact h1
  · rw [getElem?_neg s k (by omega)] at h; cases h

theorem getElem?_none {s : ByteArray} {k : Nat} (h : s[k]? = none) : s.size ≤ k := by
  rcases Nat.lt_or_ge k s.size with h1 | h1
  · rw [getElem?_pos s k h1] at h; cases h
  · exact h1

theorem step_lt {n k b : Nat} (hk : k ≤ 8) (hn : n < 2 ^ (7 * k)) : b % 128 * 2 ^ (7 * k) < 9223372036854775808 ∧ n < 9223372036854775808 ∧ n ||| (b % 128 * 2 ^ (7 * k)) < 2 ^ (7 * (k + 1)) := by
  have h1 : b % 128 * 2 ^ (7 * k) < 2 ^ (7 * (k + 1)) := by
    rw [show 7 * (k + 1) = 7 + 7 * k by omega, Nat.pow_add]
    exact Nat.mul_lt_mul_of_pos_right (by omega) (Nat.two_pow_pos _)
  have h2 : n < 2 ^ (7 * (k + 1)) := Nat.lt_of_lt_of_le hn (Nat.pow_le_pow_right (by omega) (by omega))
  have h3 : 2 ^ (7 * (k + 1)) ≤ 2 ^ 63 := Nat.pow_le_pow_right (by omega) (by omega)
  exact ⟨by omega, by omega, Nat.or_lt_two_pow h2 h1⟩

theorem byte_lt (b : UInt8) : b.toNat < 256 := b.toNat_lt

theorem takeGo_ok (s : ByteArray) : ∀ (f k n : Nat), f + k = 9 → n < 2 ^ (7 * k) → (takeGo s f k n).1 < 9223372036854775808 ∧ (takeGo s f k n).2 ≤ s.size
  | 0, _, _, _, _ => by simp [takeGo]
  | f + 1, k, n, hf, hn => by
    simp only [takeGo]
    cases hb : s[k]? with
    | none => simp
    | some b =>
      obtain ⟨h1, h2, h3⟩ := step_lt (b := b.toNat) (by omega) hn
      simp only
      split
      · split
        · simp
        · have := getElem?_size hb
          have h4 : 2 ^ (7 * (k + 1)) ≤ 2 ^ 63 := Nat.pow_le_pow_right (by omega) (by omega)
          exact ⟨by simp only; omega, by simp only; omega⟩
      · exact takeGo_ok s f (k + 1) _ (by omega) h3

theorem takeVar_ok (s : ByteArray) : (takeVar s).1 < 9223372036854775808 ∧ (takeVar s).2 ≤ s.size := takeGo_ok s 9 0 0 rfl (by decide)

theorem loop_f_impl_TakeVar (s : ByteArray) {R : Type} (kk : ((ByteArray × Unit) × Unit) → (((Int × Int × Unit) × Unit) ⊕ (Unit × Unit)) → Option R) (g : Nat → Nat → Option R)
    (h1 : ∀ c (n u : Nat), kk c (.inl (((n : Int), ((u : Int), ())), ())) = g n u) (h2 : ∀ c, kk c (.inr ((), ())) = g 0 0) :
    ∀ (f k n : Nat), f + k = 9 → n < 2 ^ (7 * k) → loopF (c := f_impl_TakeVar_l3c) (v := f_impl_TakeVar_l3v) (ex := f_impl_TakeVar_l3e) f_impl_TakeVar_l3 R ((s, ()), ()) (((n : Int), ((k : Int), ())), ()) kk = g (takeGo s f k n).1 (takeGo s f k n).2
  | 0, k, n, hf, hn => by
    have hk : k = 9 := by omega
    subst hk
    have hc : ilt ((9 : Nat) : Int) (imin (slen s) (9 : Int)) = false := ilt_false.2 (by rw [imin_eq]; simp only [slen]; omega)
    rw [loopF_done (c' := ((s, ()), ())) (o := Sum.inr ((), ())) (by simp only [round, f_impl_TakeVar_l3]; rw [hc]; rfl), h2]
    rfl
  | f + 1, k, n, hf, hn => by
    simp only [takeGo]
    cases hb : s[k]? with
    | none =>
      have := getElem?_none hb
      have hc : ilt (k : Int) (imin (slen s) (9 : Int)) = false := ilt_false.2 (by rw [imin_eq]; simp only [slen]; omega)
      rw [loopF_done (c' := ((s, ()), ())) (o := Sum.inr ((), ())) (by simp only [round, f_impl_TakeVar_l3]; rw [hc]; rfl), h2]
    | some b =>
      have hs := getElem?_size hb
      have hB := byte_lt b
      obtain ⟨e1, e2, e3⟩ := step_lt (b := b.toNat) (show k ≤ 8 by omega) hn
      have hc : ilt (k : Int) (imin (slen s) (9 : Int)) = true := ilt_iff.2 (by rw [imin_eq]; simp only [slen]; omega)
      have hm : imul .i64 (7 : Int) (k : Int) = ((7 * k : Nat) : Int) := by rw [imul_i64 (by omega)]; simp
      have hr : ile (0 : Int) ((7 * k : Nat) : Int) = true := by simp [ile]; omega
      have hw : IntKind.wrap .i64 (b.toNat : Int) = (b.toNat : Int) := wrap_i64 _ (by omega)
      have hrem : irem .i64 (b.toNat : Int) (128 : Int) = ((b.toNat % 128 : Nat) : Int) := by simp [irem, Int.tmod]
      have hsh : ishl .i64 ((b.toNat % 128 : Nat) : Int) ((7 * k : Nat) : Int) = ((b.toNat % 128 * 2 ^ (7 * k) : Nat) : Int) := ishl_nat _ _ (by omega) e1
      have hor : ior .i64 (n : Int) ((b.toNat % 128 * 2 ^ (7 * k) : Nat) : Int) = ((n ||| (b.toNat % 128 * 2 ^ (7 * k)) : Nat) : Int) := ior_nat _ _ e2 e1
      have had : iadd .i64 (k : Int) (1 : Int) = ((k + 1 : Nat) : Int) := by rw [iadd_i64 (by omega)]; simp
      have hstep : ∀ (S : Type) (K : ((ByteArray × Unit) × Unit) → (((Int × Int × Unit) × Unit) ⊕ (((Int × Int × Unit) × Unit) ⊕ (Unit × Unit))) → Option S), f_impl_TakeVar_l3 S ((s, ()), ()) (((n : Int), ((k : Int), ())), ()) K =
          if b.toNat < 128 then (if 0 < k ∧ b.toNat = 0 then K ((s, ()), ()) (.inr (.inl (((0 : Int), ((0 : Int), ())), ()))) else K ((s, ()), ()) (.inr (.inl ((((n ||| (b.toNat % 128 * 2 ^ (7 * k)) : Nat) : Int), (((k + 1 : Nat) : Int), ())), ()))))
          else K ((s, ()), ()) (.inl ((((n ||| (b.toNat % 128 * 2 ^ (7 * k)) : Nat) : Int), (((k + 1 : Nat) : Int), ())), ())) := by
        intro S K
        simp only [f_impl_TakeVar_l3, hc, cond_true]
        rw [getB_at (by omega) (by simpa using hb)]
        simp only [hm, hr, req, cond_true, hw, hrem, hsh, hor, had]
        by_cases hlt : b.toNat < 128
        · simp only [hlt, if_true, show ilt (b.toNat : Int) (128 : Int) = true by simp [ilt]; omega, cond_true]
          by_cases hk0 : 0 < k
          · simp only [show ilt (0 : Int) (k : Int) = true by simp [ilt]; omega, cond_true]
            by_cases hz : b.toNat = 0
            · simp only [hk0, hz, and_self, if_true]; rfl
            · simp only [hz, and_false, if_false, show ieq (b.toNat : Int) (0 : Int) = false by simp [ieq, hz], cond_false]
          · simp only [hk0, false_and, if_false, show ilt (0 : Int) (k : Int) = false by simp [ilt]; omega, cond_false]
        · simp only [hlt, if_false, show ilt (b.toNat : Int) (128 : Int) = false by simp [ilt]; omega, cond_false]
      simp only
      by_cases hlt : b.toNat < 128
      · simp only [hlt, if_true]
        by_cases hz : 0 < k ∧ b.toNat = 0
        · simp only [hz, and_self, if_true]
          rw [loopF_done (c' := ((s, ()), ())) (o := Sum.inl (((0 : Int), ((0 : Int), ())), ())) (by rw [round, hstep, if_pos hlt, if_pos hz])]
          exact h1 _ 0 0
        · simp only [hz, if_false]
          rw [loopF_done (c' := ((s, ()), ())) (o := Sum.inl ((((n ||| (b.toNat % 128 * 2 ^ (7 * k)) : Nat) : Int), (((k + 1 : Nat) : Int), ())), ())) (by rw [round, hstep, if_pos hlt, if_neg hz])]
          exact h1 _ _ _
      · simp only [hlt, if_false]
        rw [loopF_more (c' := ((s, ()), ())) (v' := ((((n ||| (b.toNat % 128 * 2 ^ (7 * k)) : Nat) : Int), (((k + 1 : Nat) : Int), ())), ())) (by rw [round, hstep, if_neg hlt])]
        exact loop_f_impl_TakeVar s kk g h1 h2 f (k + 1) _ (by omega) e3

theorem val_f_impl_TakeVar (x : ByteArray × Unit) : f_impl_TakeVar x = some ((((takeVar x.1).1 : Int), (((takeVar x.1).2 : Int), ())), ()) :=
  loop_f_impl_TakeVar x.1 _ (fun n u => some (((n : Int), ((u : Int), ())), ())) (fun _ _ _ => rfl) (fun _ => rfl) 9 0 0 rfl (by decide)

theorem loop_f_spec_l2Take (s : ByteArray) {R : Type} (kk : ((ByteArray × Unit) × Unit) → (((Int × Int × Unit) × Unit) ⊕ (Unit × Unit)) → Option R) (g : Nat → Nat → Option R)
    (h1 : ∀ c (n u : Nat), kk c (.inl (((n : Int), ((u : Int), ())), ())) = g n u) (h2 : ∀ c, kk c (.inr ((), ())) = g 0 0) :
    ∀ (f k n : Nat), f + k = 9 → n < 2 ^ (7 * k) → loopF (c := f_spec_l2Take_l3c) (v := f_spec_l2Take_l3v) (ex := f_spec_l2Take_l3e) f_spec_l2Take_l3 R ((s, ()), ()) (((n : Int), ((k : Int), ())), ()) kk = g (takeGo s f k n).1 (takeGo s f k n).2
  | 0, k, n, hf, hn => by
    have hk : k = 9 := by omega
    subst hk
    rw [loopF_done (c' := ((s, ()), ())) (o := Sum.inr ((), ())) (by simp only [round, f_spec_l2Take_l3]; rfl), h2]
    rfl
  | f + 1, k, n, hf, hn => by
    simp only [takeGo]
    have hc1 : ilt (k : Int) (9 : Int) = true := by simp [ilt]; omega
    cases hb : s[k]? with
    | none =>
      have := getElem?_none hb
      have hc : ilt (k : Int) (slen s) = false := by simp [ilt, slen]; omega
      rw [loopF_done (c' := ((s, ()), ())) (o := Sum.inr ((), ())) (by simp only [round, f_spec_l2Take_l3]; rw [hc1, hc]; rfl), h2]
    | some b =>
      have hs := getElem?_size hb
      have hB := byte_lt b
      obtain ⟨e1, e2, e3⟩ := step_lt (b := b.toNat) (show k ≤ 8 by omega) hn
      have hc : ilt (k : Int) (slen s) = true := by simp [ilt, slen]; omega
      have hm : IntKind.wrap .u64 (imul .i64 (7 : Int) (k : Int)) = ((7 * k : Nat) : Int) := by rw [imul_i64 (by omega), wrap_u64]; omega
      have hr : ile (0 : Int) ((7 * k : Nat) : Int) = true := by simp [ile]; omega
      have hrem : IntKind.wrap .i64 (iand .u8 (b.toNat : Int) (127 : Int)) = ((b.toNat % 128 : Nat) : Int) := by
        have h := iand_u8 b.toNat 127 hB (by omega)
        rw [show ((127 : Nat) : Int) = (127 : Int) from rfl] at h
        rw [h, Nat.and_two_pow_sub_one_eq_mod b.toNat 7]
        exact wrap_i64 _ (by omega)
      have hsh : ishl .i64 ((b.toNat % 128 : Nat) : Int) ((7 * k : Nat) : Int) = ((b.toNat % 128 * 2 ^ (7 * k) : Nat) : Int) := ishl_nat _ _ (by omega) e1
      have hor : ior .i64 (n : Int) ((b.toNat % 128 * 2 ^ (7 * k) : Nat) : Int) = ((n ||| (b.toNat % 128 * 2 ^ (7 * k)) : Nat) : Int) := ior_nat _ _ e2 e1
      have had : iadd .i64 (k : Int) (1 : Int) = ((k + 1 : Nat) : Int) := by rw [iadd_i64 (by omega)]; simp
      have hstep : ∀ (S : Type) (K : ((ByteArray × Unit) × Unit) → (((Int × Int × Unit) × Unit) ⊕ (((Int × Int × Unit) × Unit) ⊕ (Unit × Unit))) → Option S), f_spec_l2Take_l3 S ((s, ()), ()) (((n : Int), ((k : Int), ())), ()) K =
          if b.toNat < 128 then (if 0 < k ∧ b.toNat = 0 then K ((s, ()), ()) (.inr (.inl (((0 : Int), ((0 : Int), ())), ()))) else K ((s, ()), ()) (.inr (.inl ((((n ||| (b.toNat % 128 * 2 ^ (7 * k)) : Nat) : Int), (((k + 1 : Nat) : Int), ())), ()))))
          else K ((s, ()), ()) (.inl ((((n ||| (b.toNat % 128 * 2 ^ (7 * k)) : Nat) : Int), (((k + 1 : Nat) : Int), ())), ())) := by
        intro S K
        simp only [f_spec_l2Take_l3, hc1, hc, cond_true]
        rw [getB_at (by omega) (by simpa using hb)]
        simp only [hm, hr, req, cond_true]
        rw [getB_at (by omega) (by simpa using hb)]
        simp only [hrem, hsh, hor, had]
        by_cases hlt : b.toNat < 128
        · simp only [hlt, if_true, show ilt (b.toNat : Int) (128 : Int) = true by simp [ilt]; omega, cond_true]
          by_cases hk0 : 0 < k
          · simp only [show ilt (0 : Int) (k : Int) = true by simp [ilt]; omega, cond_true]
            rw [getB_at (by omega) (by simpa using hb)]
            by_cases hz : b.toNat = 0
            · simp only [hk0, hz, and_self, if_true]; rfl
            · simp only [hz, and_false, if_false, show ieq (b.toNat : Int) (0 : Int) = false by simp [ieq, hz], cond_false]
          · simp only [hk0, false_and, if_false, show ilt (0 : Int) (k : Int) = false by simp [ilt]; omega, cond_false]
        · simp only [hlt, if_false, show ilt (b.toNat : Int) (128 : Int) = false by simp [ilt]; omega, cond_false]
      simp only
      by_cases hlt : b.toNat < 128
      · simp only [hlt, if_true]
        by_cases hz : 0 < k ∧ b.toNat = 0
        · simp only [hz, and_self, if_true]
          rw [loopF_done (c' := ((s, ()), ())) (o := Sum.inl (((0 : Int), ((0 : Int), ())), ())) (by rw [round, hstep, if_pos hlt, if_pos hz])]
          exact h1 _ 0 0
        · simp only [hz, if_false]
          rw [loopF_done (c' := ((s, ()), ())) (o := Sum.inl ((((n ||| (b.toNat % 128 * 2 ^ (7 * k)) : Nat) : Int), (((k + 1 : Nat) : Int), ())), ())) (by rw [round, hstep, if_pos hlt, if_neg hz])]
          exact h1 _ _ _
      · simp only [hlt, if_false]
        rw [loopF_more (c' := ((s, ()), ())) (v' := ((((n ||| (b.toNat % 128 * 2 ^ (7 * k)) : Nat) : Int), (((k + 1 : Nat) : Int), ())), ())) (by rw [round, hstep, if_neg hlt])]
        exact loop_f_spec_l2Take s kk g h1 h2 f (k + 1) _ (by omega) e3

theorem val_f_spec_l2Take (x : ByteArray × Unit) : f_spec_l2Take x = some ((((takeVar x.1).1 : Int), (((takeVar x.1).2 : Int), ())), ()) :=
  loop_f_spec_l2Take x.1 _ (fun n u => some (((n : Int), ((u : Int), ())), ())) (fun _ _ _ => rfl) (fun _ => rfl) 9 0 0 rfl (by decide)

def inR (n lo hi : Int) : Bool := cond (ile lo n) (ile n hi) false

theorem val_f_impl_in (x : Int × Int × Int × Unit) : f_impl_in x = some ((inR x.1 x.2.1 x.2.2.1, ()), ()) := by
  simp only [f_impl_in, inR]
  cases ile x.2.1 x.1 <;> rfl

theorem val_f_spec_l1In (x : Int × Int × Int × Unit) : f_spec_l1In x = some ((inR x.1 x.2.1 x.2.2.1, ()), ()) := by
  simp only [f_spec_l1In, inR]
  cases ile x.2.1 x.1 <;> rfl

theorem bounds_ok {u n : Nat} (h : u ≤ n) : (decide ((0 : Int) ≤ (u : Int)) && decide ((u : Int) ≤ ((n : Nat) : Int))) = true := by
  simp; omega

theorem text_impl (x : Dtaker × Int × Unit) (p : Dtaker) (n : Nat) (hp : x.1 = p) (hn : x.2.1 = (n : Int)) : f_impl_taker_text x = some (if p.2.1 = true ∨ p.1.size < n then (((⟨#[]⟩ : ByteArray), ()), ((p.1, (true, p.2.2)), ())) else ((p.1.extract 0 n, ()), ((p.1.extract n p.1.size, (false, p.2.2)), ()))) := by
  obtain ⟨s, b, ⟨⟩⟩ := p
  simp only [f_impl_taker_text, hp, hn]
  cases b with
  | true => rfl
  | false =>
    simp only [cond_false]
    by_cases hn : s.size < n
    · rw [ilt_iff.2 (show slen s < (n : Int) by simp only [slen]; omega)]
      simp [hn]
    · rw [ilt_false.2 (show (n : Int) ≤ slen s by simp only [slen]; omega), bounds_ok (by omega)]
      simp [hn, req]

/-- eight steps, one after the other -/
def crcStep (m : Int) : Int := cond (ieq (iand .u32 m (1 : Int)) (1 : Int)) (ixor .u32 (ishr .u32 m (1 : Int)) (2197175160 : Int)) (ishr .u32 m (1 : Int))

def crcIter : Nat → Int → Int
  | 0, m => m
  | k + 1, m => crcIter k (crcStep m)

theorem f_impl_SumTable_i10Val {R : Type} (c : ((Int × Int × Bool × Unit) × ((List Int) × Unit))) (v : ((Int × Unit) × Unit)) (kk : ((Int × Int × Bool × Unit) × ((List Int) × Unit)) → ((Int × Unit) × Unit) → Option R) :
    f_impl_SumTable_i10 R c v kk = kk c ((cond c.1.2.2.1 (ixor .u32 v.1.1 (2197175160 : Int)) v.1.1, ()), ()) := by
  obtain ⟨⟨a, b, t, ⟨⟩⟩, l, ⟨⟩⟩ := c
  cases t <;> rfl

theorem f_impl_SumTable_l6Val {R : Type} (n : Int) (l : List Int) (kk : (Unit × Unit) → ((Int × Int × Unit) × ((List Int) × Unit)) → Option R) :
    ∀ (f k : Nat) (m : Int), f + k = 8 → loopF (c := f_impl_SumTable_l6c) (v := f_impl_SumTable_l6v) (ex := f_impl_SumTable_l6e) f_impl_SumTable_l6 R ((), ()) ((m, (n, ((k : Int), ()))), (l, ())) kk = kk ((), ()) ((crcIter f m, (n, ())), (l, ()))
  | 0, k, m, hf => by
    have hk : k = 8 := by omega
    subst hk
    rw [loopF_done (c' := ((), ())) (o := ((m, (n, ())), (l, ()))) (by simp only [round, f_impl_SumTable_l6]; rfl)]
    try rfl
  | f + 1, k, m, hf => by
    have h1 : ilt (k : Int) (8 : Int) = true := ilt_iff.2 (by omega)
    have h2 : iadd .i64 (k : Int) (1 : Int) = ((k + 1 : Nat) : Int) := by rw [iadd_i64 (by omega)]; simp
    rw [loopF_more (c' := ((), ())) (v' := ((crcStep m, (n, (((k + 1 : Nat) : Int), ()))), (l, ()))) (by
      simp only [round, f_impl_SumTable_l6, h1, cond_true, f_impl_SumTable_i10Val, h2]; rfl)]
    exact f_impl_SumTable_l6Val n l kk f (k + 1) _ (by omega)

theorem f_impl_SumTable_l6Val0 {R : Type} (n m : Int) (l : List Int) (kk : (Unit × Unit) → ((Int × Int × Unit) × ((List Int) × Unit)) → Option R) :
    loopF (c := f_impl_SumTable_l6c) (v := f_impl_SumTable_l6v) (ex := f_impl_SumTable_l6e) f_impl_SumTable_l6 R ((), ()) ((m, (n, ((0 : Int), ()))), (l, ())) kk = kk ((), ()) ((crcIter 8 m, (n, ())), (l, ())) := f_impl_SumTable_l6Val n l kk 8 0 m rfl

theorem f_spec_l2Table_i12Val {R : Type} (c : ((Int × Int × Int × Int × Bool × Unit) × ((List Int) × Unit))) (v : ((Int × Unit) × Unit)) (kk : ((Int × Int × Int × Int × Bool × Unit) × ((List Int) × Unit)) → ((Int × Unit) × Unit) → Option R) :
    f_spec_l2Table_i12 R c v kk = kk c ((cond c.1.2.2.2.2.1 (ixor .u32 v.1.1 (2197175160 : Int)) v.1.1, ()), ()) := by
  obtain ⟨⟨a, b, d, e, t, ⟨⟩⟩, l, ⟨⟩⟩ := c
  cases t <;> rfl

theorem f_spec_l2Table_l7Val {R : Type} (i x y : Int) (l : List Int) (kk : (Unit × Unit) → ((Int × Int × Int × Int × Unit) × ((List Int) × Unit)) → Option R) :
    ∀ (f k : Nat) (m : Int), f + k = 8 → loopF (c := f_spec_l2Table_l7c) (v := f_spec_l2Table_l7v) (ex := f_spec_l2Table_l7e) f_spec_l2Table_l7 R ((), ()) ((i, (m, ((k : Int), (x, (y, ()))))), (l, ())) kk = kk ((), ()) ((i, (crcIter f m, (x, (y, ())))), (l, ()))
  | 0, k, m, hf => by
    have hk : k = 8 := by omega
    subst hk
    rw [loopF_done (c' := ((), ())) (o := ((i, (m, (x, (y, ())))), (l, ()))) (by simp only [round, f_spec_l2Table_l7]; rfl)]
    try rfl
  | f + 1, k, m, hf => by
    have h1 : ilt (k : Int) (8 : Int) = true := ilt_iff.2 (by omega)
    have h2 : iadd .i64 (k : Int) (1 : Int) = ((k + 1 : Nat) : Int) := by rw [iadd_i64 (by omega)]; simp
    rw [loopF_more (c' := ((), ())) (v' := ((i, (crcStep m, (((k + 1 : Nat) : Int), (x, (y, ()))))), (l, ()))) (by
      simp only [round, f_spec_l2Table_l7, h1, cond_true, f_spec_l2Table_i12Val, h2]; rfl)]
    exact f_spec_l2Table_l7Val i x y l kk f (k + 1) _ (by omega)

theorem f_spec_l2Table_l7Val0 {R : Type} (i x y m : Int) (l : List Int) (kk : (Unit × Unit) → ((Int × Int × Int × Int × Unit) × ((List Int) × Unit)) → Option R) :
    loopF (c := f_spec_l2Table_l7c) (v := f_spec_l2Table_l7v) (ex := f_spec_l2Table_l7e) f_spec_l2Table_l7 R ((), ()) ((i, (m, ((0 : Int), (x, (y, ()))))), (l, ())) kk = kk ((), ()) ((i, (crcIter 8 m, (x, (y, ())))), (l, ())) := f_spec_l2Table_l7Val i x y l kk 8 0 m rfl

def crcTable (n : Nat) : List Int := (List.range n).map fun (k : Nat) => crcIter 8 (k : Int)

theorem crcTable_length (n : Nat) : (crcTable n).length = n := by simp [crcTable]

theorem crcTable_succ (n : Nat) : crcTable (n + 1) = crcTable n ++ [crcIter 8 (n : Int)] := by simp [crcTable, List.range_succ]

theorem f_impl_SumTable_l3Val {R : Type} (kk : (Unit × Unit) → (Unit × ((List Int) × Unit)) → Option R) :
    ∀ (f n : Nat), f + n = 256 → loopF (c := f_impl_SumTable_l3c) (v := f_impl_SumTable_l3v) (ex := f_impl_SumTable_l3e) f_impl_SumTable_l3 R ((), ()) (((n : Int), ()), (crcTable n, ())) kk = kk ((), ()) ((), (crcTable 256, ()))
  | 0, n, hf => by
    have hk : n = 256 := by omega
    subst hk
    rw [loopF_done (c' := ((), ())) (o := ((), (crcTable 256, ()))) (by simp only [round, f_impl_SumTable_l3]; rfl)]
    try rfl
  | f + 1, n, hf => by
    have h1 : ilt (n : Int) (256 : Int) = true := ilt_iff.2 (by omega)
    have h2 : iadd .u32 (n : Int) (1 : Int) = ((n + 1 : Nat) : Int) := by simp only [iadd, wrap_u32]; omega
    have h3 : decide (List.length (crcTable n) + List.length [crcIter 8 (n : Int)] ≤ 17179869184) = true := decide_eq_true (by rw [crcTable_length]; simp; omega)
    rw [loopF_more (c' := ((), ())) (v' := ((((n + 1 : Nat) : Int), ()), (crcTable (n + 1), ()))) (by
      simp only [round, f_impl_SumTable_l3, h1, cond_true]
      rw [f_impl_SumTable_l6Val0]
      dsimp only
      rw [h3, req_true, h2, crcTable_succ])]
    exact f_impl_SumTable_l3Val kk f (n + 1) (by omega)

theorem f_impl_SumTableVal : f_impl_SumTable () = some ((crcTable 256, ()), ()) := by
  have := f_impl_SumTable_l3Val (fun _ o4 => some ((o4.2.1, ()), ())) 256 0 rfl
  exact this

theorem f_spec_l2Table_l3Val {R : Type} (kk : (Unit × Unit) → (Unit × ((List Int) × Unit)) → Option R) :
    ∀ (f n : Nat), f + n = 256 → loopF (c := f_spec_l2Table_l3c) (v := f_spec_l2Table_l3v) (ex := f_spec_l2Table_l3e) f_spec_l2Table_l3 R ((), ()) (((256 : Int), ((n : Int), ())), (crcTable n ++ List.replicate f (0 : Int), ())) kk = kk ((), ()) ((), (crcTable 256, ()))
  | 0, n, hf => by
    have hk : n = 256 := by omega
    subst hk
    rw [List.replicate_zero, List.append_nil]
    rw [loopF_done (c' := ((), ())) (o := ((), (crcTable 256, ()))) (by simp only [round, f_spec_l2Table_l3]; rfl)]
    try rfl
  | f + 1, n, hf => by
    have h1 : ilt (n : Int) (256 : Int) = true := ilt_iff.2 (by omega)
    have h2 : iadd .i64 (n : Int) (1 : Int) = ((n + 1 : Nat) : Int) := by rw [iadd_i64 (by omega)]; simp
    have h3 : IntKind.wrap .u32 (n : Int) = (n : Int) := by rw [wrap_u32]; omega
    have h4 : (crcTable n ++ List.replicate (f + 1) (0 : Int))[n]? = some 0 := by
      rw [List.getElem?_append_right (by rw [crcTable_length]; omega), crcTable_length]
      simp
    have h5 : List.set (crcTable n ++ List.replicate (f + 1) (0 : Int)) n (crcIter 8 (n : Int)) = crcTable (n + 1) ++ List.replicate f (0 : Int) := by
      rw [List.set_append_right _ _ (by rw [crcTable_length]; omega), crcTable_length, crcTable_succ, List.append_assoc]
      simp [List.replicate_succ]
    rw [loopF_more (c' := ((), ())) (v' := (((256 : Int), (((n + 1 : Nat) : Int), ())), (crcTable (n + 1) ++ List.replicate f (0 : Int), ()))) (by
      simp only [round, f_spec_l2Table_l3, h1, cond_true, h3]
      rw [f_spec_l2Table_l7Val0]
      dsimp only
      rw [getO_at (by omega) (by rw [Int.toNat_natCast]; exact h4), Int.toNat_natCast, h4]
      simp only [bnd_some, h2]
      rw [h5])]
    exact f_spec_l2Table_l3Val kk f (n + 1) (by omega)

theorem f_spec_l2TableVal : f_spec_l2Table () = some ((crcTable 256, ()), ()) := by
  have := f_spec_l2Table_l3Val (fun _ o4 => some ((o4.2.1, ()), ())) 256 0 rfl
  unfold f_spec_l2Table
  rw [show (decide ((256 : Int) = (256 : Int)) && (decide ((0 : Int) ≤ (256 : Int)) && decide ((256 : Int) ≤ (68719476736 : Int)))) = true by decide, req_true]
  rw [show llen (List.replicate (Int.toNat (256 : Int)) ((0 : Int) : Int)) = (256 : Int) by rw [llen, List.length_replicate]; rfl]
  exact this

theorem ixor_comm (k : IntKind) (a b : Int) : ixor k a b = ixor k b a := by
  simp only [ixor, BitVec.xor_comm]

theorem ixor_u8_range (a b : Int) : 0 ≤ ixor .u8 a b ∧ ixor .u8 a b < 256 := by
  simp only [ixor, wrap_u8]
  omega

/-- the sum of what stands from i on -/
def sumGo (s : ByteArray) : Nat → Nat → Int → Int
  | 0, _, m => m
  | f + 1, i, m => match s[i]? with
    | some b => match (crcTable 256)[Int.toNat (ixor .u8 (IntKind.wrap .u8 m) (b.toNat : Int))]? with
      | some z => sumGo s f (i + 1) (ixor .u32 z (ishr .u32 m (8 : Int)))
      | none => m
    | none => m

def sumOf (s : ByteArray) : Int := inot .u32 (sumGo s s.size 0 (4294967295 : Int))

theorem tableAt (m : Int) (b : Nat) : ∃ z, (crcTable 256)[Int.toNat (ixor .u8 (IntKind.wrap .u8 m) (b : Int))]? = some z := by
  have := ixor_u8_range (IntKind.wrap .u8 m) (b : Int)
  exact ⟨_, List.getElem?_eq_getElem (by rw [crcTable_length]; omega)⟩

theorem f_spec_l2OnLoop {R : Type} (s : ByteArray) (hs : s.size ≤ 9223372036854775807) (kk : (((List Int) × ByteArray × Unit) × Unit) → ((Int × Unit) × Unit) → Option R) :
    ∀ (f i : Nat) (m : Int), f + i = s.size → loopF (c := f_spec_l2On_l2c) (v := f_spec_l2On_l2v) (ex := f_spec_l2On_l2e) f_spec_l2On_l2 R ((crcTable 256, (s, ())), ()) ((m, ((i : Int), ())), ()) kk = kk ((crcTable 256, (s, ())), ()) ((sumGo s f i m, ()), ())
  | 0, i, m, hf => by
    have h1 : ilt (i : Int) (slen s) = false := ilt_false.2 (by simp only [slen]; omega)
    rw [loopF_done (c' := ((crcTable 256, (s, ())), ())) (o := ((m, ()), ())) (by simp only [round, f_spec_l2On_l2, h1, cond_false])]
    try rfl
  | f + 1, i, m, hf => by
    have h1 : ilt (i : Int) (slen s) = true := ilt_iff.2 (by simp only [slen]; omega)
    have hb : s[i]? = some s[i] := getElem?_pos s i (by omega)
    have h2 : iadd .i64 (i : Int) (1 : Int) = ((i + 1 : Nat) : Int) := by rw [iadd_i64 (by omega)]; simp
    obtain ⟨z, hz⟩ := tableAt m s[i].toNat
    have hr := ixor_u8_range (IntKind.wrap .u8 m) (s[i].toNat : Int)
    rw [loopF_more (c' := ((crcTable 256, (s, ())), ())) (v' := ((ixor .u32 z (ishr .u32 m (8 : Int)), (((i + 1 : Nat) : Int), ())), ())) (by
      simp only [round, f_spec_l2On_l2, h1, cond_true]
      rw [getB_at (by omega) (by rw [Int.toNat_natCast]; exact hb), getO_at hr.1 hz]
      simp only [h2])]
    simp only [sumGo, hb, hz]
    exact f_spec_l2OnLoop s hs kk f (i + 1) _ (by omega)

theorem f_impl_SumOnLoop {R : Type} (s : ByteArray) (hs : s.size ≤ 9223372036854775807) (kk : ((ByteArray × Int × Unit) × ((List Int) × Unit)) → ((Int × Unit) × Unit) → Option R) :
    ∀ (f i : Nat) (m : Int), f + i = s.size → loopF (c := f_impl_SumOn_l3c) (v := f_impl_SumOn_l3v) (ex := f_impl_SumOn_l3e) f_impl_SumOn_l3 R ((s, (slen s, ())), (crcTable 256, ())) ((m, ((i : Int), ())), ()) kk = kk ((s, (slen s, ())), (crcTable 256, ())) ((sumGo s f i m, ()), ())
  | 0, i, m, hf => by
    have h1 : ilt (i : Int) (slen s) = false := ilt_false.2 (by simp only [slen]; omega)
    rw [loopF_done (c' := ((s, (slen s, ())), (crcTable 256, ()))) (o := ((m, ()), ())) (by simp only [round, f_impl_SumOn_l3, h1, cond_false])]
    try rfl
  | f + 1, i, m, hf => by
    have h1 : ilt (i : Int) (slen s) = true := ilt_iff.2 (by simp only [slen]; omega)
    have hb : s[i]? = some s[i] := getElem?_pos s i (by omega)
    have h2 : iadd .i64 (i : Int) (1 : Int) = ((i + 1 : Nat) : Int) := by rw [iadd_i64 (by omega)]; simp
    obtain ⟨z, hz⟩ := tableAt m s[i].toNat
    have hr := ixor_u8_range (IntKind.wrap .u8 m) (s[i].toNat : Int)
    rw [loopF_more (c' := ((s, (slen s, ())), (crcTable 256, ()))) (v' := ((ixor .u32 z (ishr .u32 m (8 : Int)), (((i + 1 : Nat) : Int), ())), ())) (by
      simp only [round, f_impl_SumOn_l3, h1, cond_true]
      rw [getB_at (by omega) (by rw [Int.toNat_natCast]; exact hb), getO_at hr.1 hz, hz]
      simp only [h2, bnd_some]
      rw [ixor_comm])]
    simp only [sumGo, hb, hz]
    exact f_impl_SumOnLoop s hs kk f (i + 1) _ (by omega)

theorem f_spec_l2SumVal (x : ByteArray × Unit) (hs : x.1.size ≤ 9223372036854775807) : f_spec_l2Sum x = some ((sumOf x.1, ()), ()) := by
  simp only [f_spec_l2Sum, f_spec_l2TableVal, bnd_some, f_spec_l2On]
  rw [show ((0 : Int)) = ((0 : Nat) : Int) from rfl, f_spec_l2OnLoop x.1 hs _ x.1.size 0 _ rfl]
  rfl

theorem f_impl_SumOfVal (x : ByteArray × Unit) (hs : x.1.size ≤ 9223372036854775807) : f_impl_SumOf x = some ((sumOf x.1, ()), ()) := by
  simp only [f_impl_SumOf, f_impl_SumOn, f_impl_SumTableVal, bnd_some]
  rw [show ((0 : Int)) = ((0 : Nat) : Int) from rfl, f_impl_SumOnLoop x.1 hs _ x.1.size 0 _ rfl]
  rfl

theorem ishr_div {k : IntKind} {a : Int} (n : Nat) (hn : n ≤ k.bits) : ishr k a (n : Int) = a / (2 ^ n : Int) := by
  simp only [ishr, Int.toNat_natCast]
  rw [Nat.min_eq_left hn, Int.fdiv_eq_ediv_of_nonneg _ (Int.le_of_lt (Int.pow_pos (by decide)))]

theorem ishr8 (k : IntKind) (hk : 8 ≤ k.bits) (a : Int) : ishr k a (8 : Int) = a / 256 := ishr_div (k := k) (a := a) 8 hk

theorem ishr16 (k : IntKind) (hk : 16 ≤ k.bits) (a : Int) : ishr k a (16 : Int) = a / 65536 := ishr_div (k := k) (a := a) 16 hk

theorem ishr24 (k : IntKind) (hk : 24 ≤ k.bits) (a : Int) : ishr k a (24 : Int) = a / 16777216 := ishr_div (k := k) (a := a) 24 hk

/-- bytes of a number, the lowest first, so many -/
def lows : Nat → Int → List Int
  | 0, _ => []
  | k + 1, n => (n % 256) :: lows k (n / 256)

theorem f_impl_lowFirstLoop {R : Type} (many : Nat) (hm : many ≤ 1000) (kk : ((Int × Unit) × Unit) → (Unit × ((List Int) × Unit)) → Option R) :
    ∀ (f i : Nat) (n : Int) (l : List Int), f + i = many → l.length = i → loopF (c := f_impl_lowFirst_l3c) (v := f_impl_lowFirst_l3v) (ex := f_impl_lowFirst_l3e) f_impl_lowFirst_l3 R (((many : Int), ()), ()) ((n, ((i : Int), ())), (l, ())) kk = kk (((many : Int), ()), ()) ((), (l ++ lows f n, ()))
  | 0, i, n, l, hf, hl => by
    have h1 : ilt (i : Int) (many : Int) = false := ilt_false.2 (by omega)
    rw [loopF_done (c' := (((many : Int), ()), ())) (o := ((), (l, ()))) (by simp only [round, f_impl_lowFirst_l3, h1, cond_false])]
    simp [lows]
  | f + 1, i, n, l, hf, hl => by
    have h1 : ilt (i : Int) (many : Int) = true := ilt_iff.2 (by omega)
    have h2 : iadd .i64 (i : Int) (1 : Int) = ((i + 1 : Nat) : Int) := by rw [iadd_i64 (by omega)]; simp
    have h3 : decide (List.length l + List.length [IntKind.wrap .u8 n] ≤ 17179869184) = true := decide_eq_true (by simp; omega)
    rw [loopF_more (c' := (((many : Int), ()), ())) (v' := ((n / 256, (((i + 1 : Nat) : Int), ())), (l ++ [n % 256], ()))) (by
      simp only [round, f_impl_lowFirst_l3, h1, cond_true]
      rw [h3, req_true, h2, ishr8 .u32 (by decide), wrap_u8])]
    rw [f_impl_lowFirstLoop many hm kk f (i + 1) _ _ (by omega) (by simp [hl])]
    simp [lows]

theorem f_impl_lowFirstVal (x : Int × Int × Unit) (many : Nat) (hm : many ≤ 1000) (hx : x.2.1 = (many : Int)) : f_impl_lowFirst x = some ((strOf (lows many x.1), ()), ()) := by
  simp only [f_impl_lowFirst, hx]
  have := f_impl_lowFirstLoop many hm (fun c1 o2 => some (((strOf o2.2.1), ()), ())) many 0 x.1 [] rfl rfl
  rw [show ((0 : Int)) = ((0 : Nat) : Int) from rfl, this]
  simp

theorem lows_four (n : Int) : lows 4 n = [n % 256, (n / 256) % 256, (n / 65536) % 256, (n / 16777216) % 256] := by
  simp only [lows]
  congr 1
  congr 1
  congr 1
  · omega
  · congr 1; omega

theorem f_spec_l2WordVal (x : Int × Unit) : f_spec_l2Word x = some ((strOf (lows 4 x.1), ()), ()) := by
  simp only [f_spec_l2Word, ishr8 .u32 (by decide), ishr16 .u32 (by decide), ishr24 .u32 (by decide), wrap_u8, lows_four]

def vb : Nat → Nat → List Int
  | 0, n => [((n % 256 : Nat) : Int)]
  | f + 1, n => if n < 128 then [((n % 256 : Nat) : Int)] else ((n % 128 + 128 : Nat) : Int) :: vb f (n / 128)

theorem vb_length : ∀ (f n : Nat), (vb f n).length ≤ f + 1
  | 0, _ => by simp [vb]
  | f + 1, n => by
    simp only [vb]
    split
    · simp
    · have := vb_length f (n / 128); simp; omega

def varB (n : Nat) : ByteArray := strOf (vb 8 n)

theorem pow9 : (9223372036854775808 : Nat) = 128 ^ 9 := by decide

theorem iand_i64 (a b : Nat) (ha : a < 9223372036854775808) (hb : b < 9223372036854775808) : iand .i64 a b = ((a &&& b : Nat) : Int) := by
  have h : a &&& b ≤ a := Nat.and_le_left
  have e : (BitVec.ofInt 64 (a : Int) &&& BitVec.ofInt 64 (b : Int)).toNat = a &&& b := by
    rw [BitVec.toNat_and, ofInt_nat, ofInt_nat, Nat.mod_eq_of_lt (a := a) (by omega), Nat.mod_eq_of_lt (a := b) (by omega)]
  show IntKind.i64.wrap ((BitVec.ofInt 64 (a : Int) &&& BitVec.ofInt 64 (b : Int)).toNat : Int) = _
  rw [e]
  exact wrap_i64 _ (by omega)

theorem or128 (a : Nat) (h : a < 128) : a ||| 128 = a + 128 := by
  have := Nat.two_pow_add_eq_or_of_lt (i := 7) (b := a) h 1
  simp at this
  rw [Nat.or_comm]
  omega

theorem f_spec_l2VarLoop {R : Type} (kk : (Unit × Unit) → ((Int × Unit) × ((List Int) × Unit)) → Option R) (g : List Int → Option R) (hg : ∀ c (n : Nat) l, l.length ≤ 20 → kk c (((n : Int), ()), (l, ())) = g (l ++ [((n % 256 : Nat) : Int)])) :
    ∀ (f n : Nat) (l : List Int), n < 128 ^ (f + 1) → f ≤ 8 → l.length + f ≤ 19 → loopF (c := f_spec_l2Var_l2c) (v := f_spec_l2Var_l2v) (ex := f_spec_l2Var_l2e) f_spec_l2Var_l2 R ((), ()) (((n : Int), ()), (l, ())) kk = g (l ++ vb f n)
  | 0, n, l, hn, hf, hl => by
    have h1 : ilt (127 : Int) (n : Int) = false := ilt_false.2 (by simp at hn; omega)
    rw [loopF_done (c' := ((), ())) (o := (((n : Int), ()), (l, ()))) (by simp only [round, f_spec_l2Var_l2, h1, cond_false]), hg _ _ _ (by omega)]
    rfl
  | f + 1, n, l, hn, hf, hl => by
    simp only [vb]
    by_cases hlt : n < 128
    · have h1 : ilt (127 : Int) (n : Int) = false := ilt_false.2 (by omega)
      rw [loopF_done (c' := ((), ())) (o := (((n : Int), ()), (l, ()))) (by simp only [round, f_spec_l2Var_l2, h1, cond_false]), hg _ _ _ (by omega), if_pos hlt]
    · have hbig : n < 9223372036854775808 := by
        have : (128 : Nat) ^ (f + 1 + 1) ≤ 128 ^ 9 := Nat.pow_le_pow_right (by decide) (by omega)
        omega
      have h1 : ilt (127 : Int) (n : Int) = true := ilt_iff.2 (by omega)
      have h2 : IntKind.wrap .u8 (ior .i64 (iand .i64 (n : Int) (127 : Int)) (128 : Int)) = ((n % 128 + 128 : Nat) : Int) := by
        have e1 := iand_i64 n 127 hbig (by omega)
        rw [show ((127 : Nat) : Int) = (127 : Int) from rfl, Nat.and_two_pow_sub_one_eq_mod n 7] at e1
        rw [e1]
        have e2 := ior_nat (n % 2 ^ 7) 128 (by omega) (by omega)
        rw [show ((128 : Nat) : Int) = (128 : Int) from rfl, or128 _ (by omega)] at e2
        rw [e2, wrap_u8]
        omega
      have h3 : n / 128 < 128 ^ (f + 1) := by
        rw [Nat.div_lt_iff_lt_mul (by decide), ← Nat.pow_succ]
        exact hn
      have h4 : ishr .i64 (n : Int) (7 : Int) = ((n / 128 : Nat) : Int) := by
        have := ishr_div (k := .i64) (a := (n : Int)) 7 (by decide)
        rw [show ((7 : Nat) : Int) = (7 : Int) from rfl] at this
        rw [this]
        simp
      have h5 : decide (List.length l + List.length [((n % 128 + 128 : Nat) : Int)] ≤ 17179869184) = true := decide_eq_true (by simp; omega)
      rw [loopF_more (c' := ((), ())) (v' := ((((n / 128 : Nat) : Int), ()), (l ++ [((n % 128 + 128 : Nat) : Int)], ()))) (by
        simp only [round, f_spec_l2Var_l2, h1, cond_true]
        rw [h2, h5, req_true, h4])]
      rw [f_spec_l2VarLoop kk g hg f (n / 128) _ h3 (by omega) (by simp; omega), if_neg hlt]
      simp

theorem f_spec_l2VarVal (x : Int × Unit) (n : Nat) (hx : x.1 = (n : Int)) (hn : n < 9223372036854775808) : f_spec_l2Var x = some ((varB n, ()), ()) := by
  simp only [f_spec_l2Var, hx]
  have := f_spec_l2VarLoop (R := (ByteArray × Unit) × Unit) (fun c1 o2 => (req (decide (List.length o2.2.1 + List.length [(IntKind.wrap .u8 o2.1.1)] ≤ 17179869184)) (some (((strOf (o2.2.1 ++ [(IntKind.wrap .u8 o2.1.1)])), ()), ())))) (fun l => some ((strOf l, ()), ()))
    (fun c n l hl => by
      have h5 : decide (List.length l + List.length [IntKind.wrap .u8 (n : Int)] ≤ 17179869184) = true := decide_eq_true (by simp; omega)
      dsimp only
      rw [h5, req_true, wrap_u8]
      simp) 8 n [] (by rw [pow9] at hn; exact hn) (by omega) (by simp)
  rw [this]
  rfl

theorem strOf_size (l : List Int) : (strOf l).size = l.length := by simp [strOf, ByteArray.size]

theorem varB_size (n : Nat) : (varB n).size ≤ 9 := by
  rw [varB, strOf_size]
  exact vb_length 8 n

theorem ieq_self (n : Int) : ieq n n = true := ieq_iff.2 rfl

def dr (s : ByteArray) (n : Nat) : ByteArray := s.extract n s.size

theorem dr_size (s : ByteArray) (n : Nat) : (dr s n).size = s.size - n := by simp [dr, ByteArray.size_extract]

theorem dr_zero (s : ByteArray) : dr s 0 = s := by simp [dr]

theorem numT (s : ByteArray) : f_impl_taker_number ((s, (false, ())), ()) = some (if (takeVar s).2 = 0 then ((0, ()), ((s, (true, ())), ())) else ((((takeVar s).1 : Int), ()), ((dr s (takeVar s).2, (false, ())), ()))) := by
  obtain ⟨_, k2⟩ := takeVar_ok s
  simp only [f_impl_taker_number, val_f_impl_TakeVar, bnd_some, cond_false]
  by_cases hu : (takeVar s).2 = 0
  · rw [if_pos hu]
    simp only [hu, show ieq ((0 : Nat) : Int) (0 : Int) = true from rfl, cond_true]
  · rw [if_neg hu, ieq_false.2 (show ((takeVar s).2 : Int) ≠ 0 by omega), bounds_ok k2]
    simp only [cond_false, req_true, Int.toNat_natCast, dr]

theorem numB (s : ByteArray) : f_impl_taker_number ((s, (true, ())), ()) = some ((0, ()), ((s, (true, ())), ())) := by
  simp only [f_impl_taker_number, val_f_impl_TakeVar, bnd_some, cond_true]

theorem textT (s : ByteArray) (n : Nat) : f_impl_taker_text ((s, (false, ())), ((n : Int), ())) = some (if s.size < n then (((⟨#[]⟩ : ByteArray), ()), ((s, (true, ())), ())) else ((s.extract 0 n, ()), ((dr s n, (false, ())), ()))) := by
  rw [text_impl ((s, (false, ())), ((n : Int), ())) (s, (false, ())) n rfl rfl]
  simp [dr]

theorem textB (s : ByteArray) (n : Int) : f_impl_taker_text ((s, (true, ())), (n, ())) = some (((⟨#[]⟩ : ByteArray), ()), ((s, (true, ())), ())) := by
  simp only [f_impl_taker_text, cond_true]

/-- six readings in a row -/
def six (s : ByteArray) : Option ((Nat × Nat × Nat) × (ByteArray × ByteArray) × ByteArray) :=
  let v1 := takeVar s
  let v2 := takeVar (dr s v1.2)
  let v3 := takeVar (dr s (v1.2 + v2.2))
  let v4 := takeVar (dr s (v1.2 + v2.2 + v3.2))
  let at' := v1.2 + v2.2 + v3.2 + v4.2
  if v1.2 = 0 ∨ v2.2 = 0 ∨ v3.2 = 0 ∨ v4.2 = 0 ∨ s.size < at' + v2.1 + v4.1 then none
  else some ((v1.1, v2.1, v3.1), (s.extract at' (at' + v2.1), s.extract (at' + v2.1) (at' + v2.1 + v4.1)), dr s (at' + v2.1 + v4.1))

/-- what a taker's number is, and what is left -/
def numK (p : Dtaker) : Nat := cond p.2.1 0 (takeVar p.1).1

def numS (p : Dtaker) : Dtaker := cond p.2.1 (p.1, (true, ())) (if (takeVar p.1).2 = 0 then (p.1, (true, ())) else (dr p.1 (takeVar p.1).2, (false, ())))

def textX (p : Dtaker) (n : Nat) : ByteArray := cond p.2.1 ⟨#[]⟩ (if p.1.size < n then ⟨#[]⟩ else p.1.extract 0 n)

def textS (p : Dtaker) (n : Nat) : Dtaker := cond p.2.1 (p.1, (true, ())) (if p.1.size < n then (p.1, (true, ())) else (dr p.1 n, (false, ())))

theorem textE (x : Dtaker × Int × Unit) (n : Nat) (h : x.2.1 = (n : Int)) : f_impl_taker_text x = some ((textX x.1 n, ()), (textS x.1 n, ())) := by
  obtain ⟨⟨s, b, ⟨⟩⟩, k, ⟨⟩⟩ := x
  simp only at h
  subst h
  cases b with
  | true => simp only [textB]; rfl
  | false =>
    simp only [textT, textX, textS, cond_false]
    by_cases h : s.size < n
    · rw [if_pos h, if_pos h, if_pos h]
    · rw [if_neg h, if_neg h, if_neg h]

/-- the takers of six readings in a row -/
def p1 (s : ByteArray) : Dtaker := numS (s, (false, ()))

def p2 (s : ByteArray) : Dtaker := numS (p1 s)

theorem iaddN {a b : Nat} (h : a + b ≤ 9223372036854775807) : iadd .i64 (a : Int) (b : Int) = ((a + b : Nat) : Int) := by rw [iadd_i64 (by omega)]; simp

theorem bounds3 {a b n : Nat} (h1 : a ≤ b) (h2 : b ≤ n) : (decide ((0 : Int) ≤ (a : Int)) && (decide ((a : Int) ≤ (b : Int)) && decide ((b : Int) ≤ ((n : Nat) : Int)))) = true := by
  simp; omega

theorem empty_of_size {s : ByteArray} (h : s.size = 0) : s = ⟨#[]⟩ := by
  apply ByteArray.ext
  apply Array.eq_empty_of_size_eq_zero
  exact h

theorem seq_empty (s : ByteArray) : seq s (⟨#[]⟩ : ByteArray) = decide (s.size = 0) := by
  by_cases h : s.size = 0
  · rw [empty_of_size h, seq_self]; rfl
  · simp only [h, decide_false]
    exact seq_false.2 (by rintro rfl; exact h rfl)

theorem empty_append (a : ByteArray) : (⟨#[]⟩ : ByteArray) ++ a = a := ByteArray.empty_append

theorem append_empty (a : ByteArray) : a ++ (⟨#[]⟩ : ByteArray) = a := ByteArray.append_empty

theorem strOf_cons (x : Int) (l : List Int) : strOf (x :: l) = strOf [x] ++ strOf l := by
  apply ByteArray.ext
  simp [strOf]

theorem or_add (a b k : Nat) (h : a < 2 ^ (7 * k)) : a ||| (b * 2 ^ (7 * k)) = a + b * 2 ^ (7 * k) := by
  have := Nat.two_pow_add_eq_or_of_lt h b
  rw [Nat.or_comm, Nat.mul_comm b]
  omega

theorem f_laws_markTextLoop {R : Type} (kk : (Unit × Unit) → ((ByteArray × Unit) × Unit) → Option R) : ∀ (f k : Nat) (out : ByteArray), k < 10 ^ f → out.size + f ≤ 1000 → k ≤ 4611686018427387904 →
    ∃ o, o.size ≤ out.size + f ∧ loopF (c := f_laws_markText_l4c) (v := f_laws_markText_l4v) (ex := f_laws_markText_l4e) f_laws_markText_l4 R ((), ()) (((k : Int), (out, ())), ()) kk = kk ((), ()) ((o, ()), ())
  | 0, k, out, hk, ho, hb => by
    have : k = 0 := by omega
    subst this
    exact ⟨out, by omega, by rw [loopF_done (c' := ((), ())) (o := ((out, ()), ())) (by rfl)]⟩
  | f + 1, k, out, hk, ho, hb => by
    by_cases h0 : k = 0
    · subst h0
      exact ⟨out, by omega, by rw [loopF_done (c' := ((), ())) (o := ((out, ()), ())) (by rfl)]⟩
    have hq : iquo .i64 (k : Int) (10 : Int) = ((k / 10 : Nat) : Int) := by
      simp only [iquo]
      rw [Int.tdiv_eq_ediv_of_nonneg (by omega), wrap_i64 _ (by omega)]
      omega
    obtain ⟨d, hd⟩ : ∃ d, d = strOf [(IntKind.wrap .u8 (iadd .i64 (48 : Int) (irem .i64 (k : Int) (10 : Int))))] := ⟨_, rfl⟩
    have hds : d.size = 1 := by rw [hd, strOf_size]; rfl
    have hk10 : k / 10 < 10 ^ f := by
      have : 10 ^ (f + 1) = 10 ^ f * 10 := by rw [Nat.pow_succ]
      omega
    obtain ⟨o, h1, h2⟩ := f_laws_markTextLoop kk f (k / 10) (d ++ out) hk10 (by rw [ByteArray.size_append]; omega) (by omega)
    refine ⟨o, by rw [ByteArray.size_append] at h1; omega, ?_⟩
    rw [loopF_more (c' := ((), ())) (v' := ((((k / 10 : Nat) : Int), (d ++ out, ())), ())) (by
      simp only [round, f_laws_markText_l4]
      rw [ilt_iff.2 (show (0 : Int) < (k : Int) by omega), cond_true, ← hd, catO_some (by omega), hq])]
    exact h2

def mt (k : Int) : ByteArray := match f_laws_markText (k, ()) with | some r => r.1.1 | none => ⟨#[]⟩

theorem f_laws_markTextVal (x : Int × Unit) (h0 : 0 < x.1) (hk : x.1 ≤ 4611686018427387904) : f_laws_markText x = some ((mt x.1, ()), ()) := by
  obtain ⟨k, ⟨⟩⟩ := x
  dsimp only at h0 hk
  obtain ⟨n, rfl⟩ : ∃ n : Nat, k = (n : Int) := ⟨k.toNat, by omega⟩
  obtain ⟨o, h1, h2⟩ := f_laws_markTextLoop (fun c2 o3 => (catO (⟨#[109]⟩ : ByteArray) o3.1.1 fun v4 => (some ((v4, ()), ())))) 19 n ⟨#[]⟩ (by omega) (by decide) (by omega)
  have h3 : f_laws_markText (((n : Nat) : Int), ()) = some (((⟨#[109]⟩ : ByteArray) ++ o, ()), ()) := by
    unfold f_laws_markText
    dsimp only
    rw [ile_false.2 (by omega), cond_false]
    refine h2.trans ?_
    dsimp only
    rw [catO_some]
    have : (⟨#[109]⟩ : ByteArray).size = 1 := rfl
    have : (⟨#[]⟩ : ByteArray).size = 0 := rfl
    omega
  simp only [mt, h3]

theorem dr_step {s : ByteArray} {k : Nat} {b : UInt8} (h : s[k]? = some b) : dr s k = strOf [(b.toNat : Int)] ++ dr s (k + 1) := by
  have hk := getElem?_size h
  have e : strOf [(b.toNat : Int)] = s.extract k (k + 1) := by
    apply ByteArray.ext_getElem
    · rw [strOf_size, ByteArray.size_extract]; simp; omega
    · intro i h1 h2
      rw [strOf_size] at h1
      have : i = 0 := by simp at h1; omega
      subst this
      rw [ByteArray.getElem_extract]
      rw [getElem?_pos s k hk] at h
      injection h with h
      have e1 : (strOf [(b.toNat : Int)])[0]'(by rw [strOf_size]; simp) = (strOf [(b.toNat : Int)]).data[0]'(by rw [strOf_size] at *; exact h1) := rfl
      rw [e1]
      simp [strOf]
      exact h.symm
  rw [e, dr, dr, ByteArray.extract_append_extract]
  congr 1 <;> omega

theorem vb_small {f m : Nat} (h : m < 128) : vb f m = [((m % 256 : Nat) : Int)] := by
  cases f with
  | zero => rfl
  | succ f => simp only [vb, if_pos h]

theorem takeGo_canon (s : ByteArray) : ∀ (f k acc : Nat), acc < 2 ^ (7 * k) → (takeGo s f k acc).2 ≠ 0 →
    ∃ m f', f = f' + 1 ∧ (takeGo s f k acc).1 = acc + m * 2 ^ (7 * k) ∧ (0 < k → 0 < m) ∧ dr s k = strOf (vb f' m) ++ dr s (takeGo s f k acc).2
  | 0, k, acc, ha, h => absurd rfl h
  | f + 1, k, acc, ha, h => by
    simp only [takeGo] at h ⊢
    cases hb : s[k]? with
    | none => rw [hb] at h; exact absurd rfl h
    | some b =>
      rw [hb] at h
      dsimp only at h ⊢
      have hb2 := byte_lt b
      by_cases hlt : b.toNat < 128
      · rw [if_pos hlt] at h ⊢
        by_cases hz : 0 < k ∧ b.toNat = 0
        · rw [if_pos hz] at h; exact absurd rfl h
        · rw [if_neg hz]
          refine ⟨b.toNat, f, rfl, ?_, fun hk => by omega, ?_⟩
          · rw [Nat.mod_eq_of_lt hlt, or_add _ _ _ ha]
          · rw [vb_small hlt, Nat.mod_eq_of_lt hb2]
            exact dr_step hb
      · rw [if_neg hlt] at h ⊢
        have hp : 2 ^ (7 * (k + 1)) = 2 ^ (7 * k) * 128 := by rw [show 7 * (k + 1) = 7 * k + 7 by omega, Nat.pow_add]
        have hacc : acc ||| b.toNat % 128 * 2 ^ (7 * k) < 2 ^ (7 * (k + 1)) := by
          rw [or_add _ _ _ ha, hp]
          have : b.toNat % 128 * 2 ^ (7 * k) ≤ 127 * 2 ^ (7 * k) := Nat.mul_le_mul_right _ (by omega)
          omega
        obtain ⟨m, f', hf, h1, h2, h3⟩ := takeGo_canon s f (k + 1) _ hacc h
        have hm := h2 (by omega)
        subst hf
        refine ⟨m * 128 + b.toNat % 128, f' + 1, rfl, ?_, fun _ => by omega, ?_⟩
        · rw [h1, or_add _ _ _ ha, hp, Nat.add_mul]
          have : m * (2 ^ (7 * k) * 128) = m * 128 * 2 ^ (7 * k) := by rw [Nat.mul_comm (2 ^ (7 * k)) 128, Nat.mul_assoc]
          omega
        · have e : vb (f' + 1) (m * 128 + b.toNat % 128) = (b.toNat : Int) :: vb f' m := by
            simp only [vb]
            rw [if_neg (by omega), show (m * 128 + b.toNat % 128) % 128 + 128 = b.toNat by omega, show (m * 128 + b.toNat % 128) / 128 = m by omega]
          rw [e, strOf_cons, dr_step hb, h3, ByteArray.append_assoc]

theorem takeVar_canon {s : ByteArray} (h : (takeVar s).2 ≠ 0) : s = varB (takeVar s).1 ++ dr s (takeVar s).2 := by
  obtain ⟨m, f', hf, h1, _, h3⟩ := takeGo_canon s 9 0 0 (by decide) h
  have : f' = 8 := by omega
  subst this
  rw [dr_zero] at h3
  have hm : (takeVar s).1 = m := by rw [takeVar, h1]; simp
  rw [hm]
  exact h3

def numO (s : ByteArray) : Option (Nat × ByteArray) := if (takeVar s).2 = 0 then none else some ((takeVar s).1, dr s (takeVar s).2)

def txtO (s : ByteArray) : Option (ByteArray × ByteArray) := match numO s with
  | none => none
  | some (n, s') => if s'.size < n then none else some (s'.extract 0 n, dr s' n)

theorem numO_some {s s' : ByteArray} {n : Nat} (h : numO s = some (n, s')) : n < 9223372036854775808 ∧ s = varB n ++ s' ∧ s'.size < s.size := by
  unfold numO at h
  split at h
  · cases h
  · rename_i hz
    injection h with h
    injection h with h1 h2
    subst h1; subst h2
    refine ⟨(takeVar_ok s).1, takeVar_canon hz, ?_⟩
    have := (takeVar_ok s).2
    rw [dr_size]
    omega

theorem txtO_some {s s' t : ByteArray} (h : txtO s = some (t, s')) : s = varB t.size ++ (t ++ s') ∧ s'.size < s.size ∧ t.size ≤ s.size := by
  unfold txtO at h
  split at h
  · cases h
  · rename_i n s2 hn
    obtain ⟨h1, h2, h3⟩ := numO_some hn
    split at h
    · cases h
    · rename_i hz
      injection h with h
      injection h with e1 e2
      subst e1; subst e2
      have hs : (s2.extract 0 n).size = n := by rw [ByteArray.size_extract]; omega
      have e : s2.extract 0 n ++ dr s2 n = s2 := by
        rw [dr, ByteArray.extract_append_extract]
        simp
      refine ⟨?_, ?_, by rw [hs]; omega⟩
      · rw [hs, e]; exact h2
      · rw [dr_size]; omega

def bindO {α β : Type} (p : Option (α × ByteArray)) (f : α → ByteArray → Option β) : Option β := match p with
  | none => none
  | some q => f q.1 q.2

def metaO (s : ByteArray) : Option (DMeta × ByteArray) :=
  bindO (numO s) fun a s => bindO (numO s) fun b s => bindO (txtO s) fun c s => bindO (txtO s) fun d s => some (((a : Int), ((b : Int), (c, (d, ())))), s)

def manyO {α : Type} (p : ByteArray → Option (α × ByteArray)) : Nat → ByteArray → Option (List α × ByteArray)
  | 0, s => some ([], s)
  | f + 1, s => bindO (p s) fun x s => bindO (manyO p f s) fun l s => some (x :: l, s)

def numI (s : ByteArray) : Option (Int × ByteArray) := bindO (numO s) fun n s => some ((n : Int), s)

/-- where a taker stands -/
def Tk (p : Dtaker) : Option ByteArray → Prop
  | none => p.2.1 = true
  | some s => p = (s, (false, ()))

/-- what taking a number does -/
def NumOk (f : Dtaker × Unit → Option ((Int × Unit) × (Dtaker × Unit))) : Prop :=
  ∀ (p : Dtaker) (o : Option ByteArray), Tk p o → Does (f (p, ())) fun r => 0 ≤ r.1.1 ∧ match o.bind numO with
    | none => Tk r.2.1 none
    | some q => r.1.1 = (q.1 : Int) ∧ Tk r.2.1 (some q.2)

def TxtOk (f : Dtaker × Unit → Option ((ByteArray × Unit) × (Dtaker × Unit))) : Prop :=
  ∀ (p : Dtaker) (o : Option ByteArray), Tk p o → Does (f (p, ())) fun r => match o.bind txtO with
    | none => Tk r.2.1 none
    | some q => r.1.1 = q.1 ∧ Tk r.2.1 (some q.2)

theorem f_impl_taker_numberTk : NumOk f_impl_taker_number := by
  intro p o hp
  cases o with
  | none =>
    obtain ⟨s, bad, ⟨⟩⟩ := p
    have hp : bad = true := hp
    subst hp
    exact Does.eq (numB s) ⟨Int.le_refl 0, rfl⟩
  | some s =>
    have hp : p = (s, (false, ())) := hp
    subst hp
    refine Does.eq (numT s) ?_
    simp only [Option.bind_some, numO]
    by_cases hz : (takeVar s).2 = 0
    · rw [if_pos hz, if_pos hz]; exact ⟨Int.le_refl 0, rfl⟩
    · rw [if_neg hz, if_neg hz]; exact ⟨by dsimp only; omega, rfl, rfl⟩

theorem f_spec_l9R_numTk : NumOk f_spec_l9R_num := by
  intro p o hp
  obtain ⟨s, bad, ⟨⟩⟩ := p
  unfold f_spec_l9R_num
  rw [val_f_spec_l2Take, bnd_some]
  dsimp only
  have hk := (takeVar_ok s).2
  cases o with
  | none =>
    have hp : bad = true := hp
    subst hp
    refine Does.cond (fun _ => Does.req (by simp; omega) (Does.val ⟨by dsimp only; omega, rfl⟩)) (fun h => by cases h)
  | some s2 =>
    have hp : (s, (bad, ())) = (s2, (false, ())) := hp
    injection hp with h1 h2
    injection h2 with h2 _
    subst h1; subst h2
    refine Does.cond (fun h => by cases h) (fun _ => Does.req (by simp; omega) (Does.val ?_))
    simp only [Option.bind_some, numO]
    by_cases hz : (takeVar s).2 = 0
    · rw [if_pos hz]
      refine ⟨by omega, ?_⟩
      simp only [Tk, hz]
      rfl
    · rw [if_neg hz]
      refine ⟨by omega, rfl, ?_⟩
      simp only [Tk, ieq_false.2 (show ((takeVar s).2 : Int) ≠ 0 by omega), Int.toNat_natCast]
      rfl

theorem f_impl_taker_sizedTk : TxtOk f_impl_taker_sized := by
  intro p o hp
  unfold f_impl_taker_sized
  refine Does.bnd (f_impl_taker_numberTk p o hp) fun r hr => ?_
  obtain ⟨h0, hr⟩ := hr
  obtain ⟨n, hn⟩ : ∃ n : Nat, r.1.1 = (n : Int) := ⟨r.1.1.toNat, by omega⟩
  refine Does.bnd (Does.eq (textE (r.2.1, (r.1.1, ())) n hn) (Q := fun z => z = ((textX r.2.1 n, ()), (textS r.2.1 n, ()))) rfl) fun z hz => ?_
  subst hz
  refine Does.val ?_
  cases o with
  | none =>
    simp only [Option.bind_none] at hr ⊢
    have hb : r.2.1.2.1 = true := hr
    simp only [Tk, textS, hb, cond_true]
  | some s =>
    simp only [Option.bind_some] at hr ⊢
    unfold txtO
    cases hs : numO s with
    | none =>
      rw [hs] at hr
      have hb : r.2.1.2.1 = true := hr
      simp only [Tk, textS, hb, cond_true]
    | some q =>
      rw [hs] at hr
      obtain ⟨e1, e2⟩ := hr
      have e3 : n = q.1 := by rw [hn] at e1; omega
      have e2 : r.2.1 = (q.2, (false, ())) := e2
      subst e3
      obtain ⟨a, s'⟩ := q
      dsimp only at e2 ⊢
      rw [e2]
      by_cases hz : s'.size < a
      · rw [if_pos hz]
        simp only [Tk, textS, cond_false, if_pos hz]
      · rw [if_neg hz]
        simp only [Tk, textS, textX, cond_false, if_neg hz, and_self]

theorem f_spec_l9R_textTk : TxtOk f_spec_l9R_text := by
  intro p o hp
  unfold f_spec_l9R_text
  refine Does.bnd (f_spec_l9R_numTk p o hp) fun r hr => ?_
  obtain ⟨h0, hr⟩ := hr
  cases o with
  | none =>
    simp only [Option.bind_none] at hr ⊢
    have hb : r.2.1.2.1 = true := hr
    refine Does.cond (fun _ => Does.val rfl) (fun hlt => ?_)
    have hlt := ilt_false.1 hlt
    simp only [slen] at hlt
    exact Does.req (by simp; omega) (Does.req (by simp; omega) (Does.val hb))
  | some s =>
    simp only [Option.bind_some] at hr ⊢
    unfold txtO
    cases hs : numO s with
    | none =>
      rw [hs] at hr
      have hb : r.2.1.2.1 = true := hr
      refine Does.cond (fun _ => Does.val rfl) (fun hlt => ?_)
      have hlt := ilt_false.1 hlt
      simp only [slen] at hlt
      exact Does.req (by simp; omega) (Does.req (by simp; omega) (Does.val hb))
    | some q =>
      rw [hs] at hr
      obtain ⟨e1, e2⟩ := hr
      have e2 : r.2.1 = (q.2, (false, ())) := e2
      obtain ⟨a, s'⟩ := q
      dsimp only at e1 e2 ⊢
      rw [e1, e2]
      refine Does.cond (fun hlt => ?_) (fun hlt => ?_)
      · have hlt := ilt_iff.1 hlt
        simp only [slen] at hlt
        rw [if_pos (by omega)]
        exact Does.val rfl
      · have hlt := ilt_false.1 hlt
        simp only [slen] at hlt
        rw [if_neg (by omega)]
        exact Does.req (by simp; omega) (Does.req (by simp; omega) (Does.val ⟨rfl, rfl⟩))

theorem f_impl_taker_wholeVal (p : Dtaker) : f_impl_taker_whole (p, ()) = some ((!p.2.1 && seq p.1 ⟨#[]⟩, ()), (p, ())) := by
  obtain ⟨s, bad, ⟨⟩⟩ := p
  cases bad <;> rfl

def Parsed {α : Type} (r : Option (List α × ByteArray)) (acc l' : List α) (p' : Dtaker) : Prop := match r with
  | none => Tk p' none
  | some q => l' = acc ++ q.1 ∧ Tk p' (some q.2)

theorem Parsed_step {α : Type} {P : ByteArray → Option (α × ByteArray)} {f : Nat} {s0 : ByteArray} {acc l' : List α} {x : α} {p' : Dtaker} (hx : ∀ q, P s0 = some q → x = q.1)
    (h : Parsed (((P s0).map (·.2)).bind (manyO P f)) (acc ++ [x]) l' p') : Parsed (manyO P (f + 1) s0) acc l' p' := by
  simp only [manyO]
  cases hn : P s0 with
  | none => rw [hn] at h; exact h
  | some q =>
    rw [hn] at h
    have e := hx q hn
    subst e
    simp only [Option.map_some, Option.bind_some, bindO] at h ⊢
    cases hm : manyO P f q.2 with
    | none => rw [hm] at h; exact h
    | some y =>
      rw [hm] at h
      obtain ⟨h1, h2⟩ := h
      exact ⟨by rw [h1]; simp, h2⟩

theorem numOut {x : Option (Nat × ByteArray)} {a : Int} {p : Dtaker} (h : match x with | none => Tk p none | some q => a = (q.1 : Int) ∧ Tk p (some q.2)) : Tk p (x.map (·.2)) ∧ ∀ q, x = some q → a = (q.1 : Int) := by
  cases x with
  | none => exact ⟨h, fun q hq => by cases hq⟩
  | some q => exact ⟨h.2, fun q' hq => by injection hq with hq; subst hq; exact h.1⟩

theorem txtOut {x : Option (ByteArray × ByteArray)} {a : ByteArray} {p : Dtaker} (h : match x with | none => Tk p none | some q => a = q.1 ∧ Tk p (some q.2)) : Tk p (x.map (·.2)) ∧ ∀ q, x = some q → a = q.1 := by
  cases x with
  | none => exact ⟨h, fun q hq => by cases hq⟩
  | some q => exact ⟨h.2, fun q' hq => by injection hq with hq; subst hq; exact h.1⟩

/-- a number taken -/
theorem NumOk.get {f : Dtaker × Unit → Option ((Int × Unit) × (Dtaker × Unit))} (h : NumOk f) (p : Dtaker) (o : Option ByteArray) (hp : Tk p o) :
    ∃ r, f (p, ()) = some r ∧ 0 ≤ r.1.1 ∧ Tk r.2.1 ((o.bind numO).map (·.2)) ∧ ∀ q, o.bind numO = some q → r.1.1 = (q.1 : Int) := by
  obtain ⟨r, h1, h0, h2⟩ := h p o hp
  have := numOut h2
  exact ⟨r, h1, h0, this.1, this.2⟩

theorem TxtOk.get {f : Dtaker × Unit → Option ((ByteArray × Unit) × (Dtaker × Unit))} (h : TxtOk f) (p : Dtaker) (o : Option ByteArray) (hp : Tk p o) :
    ∃ r, f (p, ()) = some r ∧ Tk r.2.1 ((o.bind txtO).map (·.2)) ∧ ∀ q, o.bind txtO = some q → r.1.1 = q.1 := by
  obtain ⟨r, h1, h2⟩ := h p o hp
  have := txtOut h2
  exact ⟨r, h1, this.1, this.2⟩

theorem metaGet {f : Dtaker × Unit → Option ((Int × Unit) × (Dtaker × Unit))} {g : Dtaker × Unit → Option ((ByteArray × Unit) × (Dtaker × Unit))} (hf : NumOk f) (hg : TxtOk g) (p : Dtaker) (o : Option ByteArray) (hp : Tk p o) :
    ∃ r1 r2 r3 r4, f (p, ()) = some r1 ∧ f (r1.2.1, ()) = some r2 ∧ g (r2.2.1, ()) = some r3 ∧ g (r3.2.1, ()) = some r4 ∧ Tk r4.2.1 ((o.bind metaO).map (·.2)) ∧
      ∀ q, o.bind metaO = some q → (r1.1.1, (r2.1.1, (r3.1.1, (r4.1.1, ())))) = q.1 := by
  obtain ⟨r1, a1, _, b1, c1⟩ := hf.get p o hp
  obtain ⟨r2, a2, _, b2, c2⟩ := hf.get r1.2.1 _ b1
  obtain ⟨r3, a3, b3, c3⟩ := hg.get r2.2.1 _ b2
  obtain ⟨r4, a4, b4, c4⟩ := hg.get r3.2.1 _ b3
  refine ⟨r1, r2, r3, r4, a1, a2, a3, a4, ?_, ?_⟩
  · cases o with
    | none => exact b4
    | some s =>
      simp only [Option.bind_some, metaO] at b4 ⊢
      cases h1 : numO s with
      | none => rw [h1] at b4; exact b4
      | some q1 =>
        rw [h1] at b4
        simp only [Option.map_some, Option.bind_some, bindO] at b4 ⊢
        cases h2 : numO q1.2 with
        | none => rw [h2] at b4; exact b4
        | some q2 =>
          rw [h2] at b4
          simp only [Option.map_some, Option.bind_some] at b4 ⊢
          cases h3 : txtO q2.2 with
          | none => rw [h3] at b4; exact b4
          | some q3 =>
            rw [h3] at b4
            simp only [Option.map_some, Option.bind_some] at b4 ⊢
            cases h4 : txtO q3.2 with
            | none => rw [h4] at b4; exact b4
            | some q4 => rw [h4] at b4; exact b4
  · intro q hq
    cases o with
    | none => cases hq
    | some s =>
      simp only [Option.bind_some, metaO] at hq c1 c2 c3 c4
      cases h1 : numO s with
      | none => rw [h1] at hq; cases hq
      | some q1 =>
        rw [h1] at hq c1 c2 c3 c4
        simp only [Option.map_some, Option.bind_some, bindO] at hq c1 c2 c3 c4
        cases h2 : numO q1.2 with
        | none => rw [h2] at hq; cases hq
        | some q2 =>
          rw [h2] at hq c2 c3 c4
          simp only [Option.map_some, Option.bind_some] at hq c2 c3 c4
          cases h3 : txtO q2.2 with
          | none => rw [h3] at hq; cases hq
          | some q3 =>
            rw [h3] at hq c3 c4
            simp only [Option.map_some, Option.bind_some] at hq c3 c4
            cases h4 : txtO q3.2 with
            | none => rw [h4] at hq; cases hq
            | some q4 =>
              rw [h4] at hq c4
              injection hq with hq
              subst hq
              dsimp only
              rw [c1 _ rfl, c2 _ rfl, c3 _ rfl, c4 _ rfl]

theorem f_spec_l9Read_l5Does {R : Type} {Q : R → Prop} (s : ByteArray) (z : DEdit) (kk : ((ByteArray × Unit) × (DEdit × Unit)) → (Unit × (DEdit × Dtaker × Unit)) → Option R) :
    ∀ (f : Nat) (i : Int) (e : DEdit) (p : Dtaker) (o : Option ByteArray), Tk p o → f = min i.toNat (31 - e.2.2.1.length) → e.2.2.1.length ≤ 31 → (∀ s0, o = some s0 → i ≤ 9223372036854775807) →
      (∀ (e' : DEdit) (p' : Dtaker), e'.1 = e.1 → e'.2.1 = e.2.1 → e'.2.2.2 = e.2.2.2 → e'.2.2.1.length ≤ 31 → Parsed (o.bind (manyO numI f)) e.2.2.1 e'.2.2.1 p' → Does (kk ((s, ()), (z, ())) ((), (e', (p', ())))) Q) →
      Does (loopF (c := f_spec_l9Read_l5c) (v := f_spec_l9Read_l5v) (ex := f_spec_l9Read_l5e) f_spec_l9Read_l5 R ((s, ()), (z, ())) ((i, ()), (e, (p, ()))) kk) Q
  | 0, i, e, p, o, hp, hf, hl, hi, hk => by
    rw [loopF_done (c' := ((s, ()), (z, ()))) (o := ((), (e, (p, ())))) (by
      simp only [round, f_spec_l9Read_l5]
      cases h1 : ilt (0 : Int) i with
      | false => rfl
      | true =>
        cases h2 : p.2.1 with
        | true => rfl
        | false =>
          cases h3 : ile (llen e.2.2.1) (30 : Int) with
          | false => rfl
          | true =>
            have h1 := ilt_iff.1 h1
            have h3 := ile_iff.1 h3
            simp only [llen] at h3
            exfalso; omega)]
    refine hk e p rfl rfl rfl hl ?_
    cases o with
    | none => exact hp
    | some s0 => exact ⟨(List.append_nil _).symm, hp⟩
  | f + 1, i, e, p, o, hp, hf, hl, hi, hk => by
    have h1 : 0 < i := by omega
    have h3 : e.2.2.1.length ≤ 30 := by omega
    cases o with
    | none =>
      have hb : p.2.1 = true := hp
      rw [loopF_done (c' := ((s, ()), (z, ()))) (o := ((), (e, (p, ())))) (by
        simp only [round, f_spec_l9Read_l5]
        rw [ilt_iff.2 h1, hb]
        rfl)]
      exact hk e p rfl rfl rfl hl hp
    | some s0 =>
      obtain ⟨r, a1, a0, b1, c1⟩ := f_spec_l9R_numTk.get p _ hp
      have hb : p.2.1 = false := by have : p = (s0, (false, ())) := hp; rw [this]
      rw [loopF_more (c' := ((s, ()), (z, ()))) (v' := ((i - 1, ()), ((e.1, (e.2.1, ((e.2.2.1 ++ [r.1.1]), e.2.2.2))), (r.2.1, ())))) (by
        simp only [round, f_spec_l9Read_l5]
        rw [ilt_iff.2 h1, hb, cond_true, Bool.not_false, cond_true, ile_iff.2 (by simp only [llen]; omega), cond_true, a1, bnd_some, decide_eq_true (by simp; omega), req_true, isub_i64 (by have := hi s0 rfl; omega)])]
      refine f_spec_l9Read_l5Does s z kk f _ _ _ _ b1 (by simp; omega) (by simp; omega) (fun _ _ => by have := hi s0 rfl; omega) ?_
      intro e' p' g1 g2 g3 g4 g5
      refine hk e' p' g1 g2 g3 g4 ?_
      refine Parsed_step (x := r.1.1) ?_ ?_
      · intro q hq
        simp only [numI] at hq
        cases hn : numO s0 with
        | none => rw [hn] at hq; cases hq
        | some y => rw [hn] at hq; injection hq with hq; subst hq; exact c1 y hn
      · have : (numI s0).map (·.2) = (numO s0).map (·.2) := by simp only [numI]; cases numO s0 <;> rfl
        rw [this]
        exact g5

theorem f_spec_l9Read_l9Does {R : Type} {Q : R → Prop} (s : ByteArray) (z : DEdit) (kk : ((ByteArray × Unit) × (DEdit × Unit)) → (Unit × (DEdit × Dtaker × Unit)) → Option R) :
    ∀ (f : Nat) (i : Int) (e : DEdit) (p : Dtaker) (o : Option ByteArray), Tk p o → f = min i.toNat (31 - e.2.2.2.1.length) → e.2.2.2.1.length ≤ 31 → (∀ s0, o = some s0 → i ≤ 9223372036854775807) →
      (∀ (e' : DEdit) (p' : Dtaker), e'.1 = e.1 → e'.2.1 = e.2.1 → e'.2.2.1 = e.2.2.1 → e'.2.2.2.1.length ≤ 31 → Parsed (o.bind (manyO metaO f)) e.2.2.2.1 e'.2.2.2.1 p' → Does (kk ((s, ()), (z, ())) ((), (e', (p', ())))) Q) →
      Does (loopF (c := f_spec_l9Read_l9c) (v := f_spec_l9Read_l9v) (ex := f_spec_l9Read_l9e) f_spec_l9Read_l9 R ((s, ()), (z, ())) ((i, ()), (e, (p, ()))) kk) Q
  | 0, i, e, p, o, hp, hf, hl, hi, hk => by
    rw [loopF_done (c' := ((s, ()), (z, ()))) (o := ((), (e, (p, ())))) (by
      simp only [round, f_spec_l9Read_l9]
      cases h1 : ilt (0 : Int) i with
      | false => rfl
      | true =>
        cases h2 : p.2.1 with
        | true => rfl
        | false =>
          cases h3 : ile (llen e.2.2.2.1) (30 : Int) with
          | false => rfl
          | true =>
            have h1 := ilt_iff.1 h1
            have h3 := ile_iff.1 h3
            simp only [llen] at h3
            exfalso; omega)]
    refine hk e p rfl rfl rfl hl ?_
    cases o with
    | none => exact hp
    | some s0 => exact ⟨(List.append_nil _).symm, hp⟩
  | f + 1, i, e, p, o, hp, hf, hl, hi, hk => by
    have h1 : 0 < i := by omega
    have h3 : e.2.2.2.1.length ≤ 30 := by omega
    cases o with
    | none =>
      have hb : p.2.1 = true := hp
      rw [loopF_done (c' := ((s, ()), (z, ()))) (o := ((), (e, (p, ())))) (by
        simp only [round, f_spec_l9Read_l9]
        rw [ilt_iff.2 h1, hb]
        rfl)]
      exact hk e p rfl rfl rfl hl hp
    | some s0 =>
      obtain ⟨r1, r2, r3, r4, a1, a2, a3, a4, b, c⟩ := metaGet f_spec_l9R_numTk f_spec_l9R_textTk p _ hp
      have hb : p.2.1 = false := by have : p = (s0, (false, ())) := hp; rw [this]
      rw [loopF_more (c' := ((s, ()), (z, ()))) (v' := ((i - 1, ()), ((e.1, (e.2.1, (e.2.2.1, ((e.2.2.2.1 ++ [(r1.1.1, (r2.1.1, (r3.1.1, (r4.1.1, ()))))]), e.2.2.2.2)))), (r4.2.1, ())))) (by
        simp only [round, f_spec_l9Read_l9]
        rw [ilt_iff.2 h1, hb, cond_true, Bool.not_false, cond_true, ile_iff.2 (by simp only [llen]; omega), cond_true, a1, bnd_some, a2, bnd_some, a3, bnd_some, a4, bnd_some, decide_eq_true (by simp; omega), req_true, isub_i64 (by have := hi s0 rfl; omega)])]
      refine f_spec_l9Read_l9Does s z kk f _ _ _ _ b (by simp; omega) (by simp; omega) (fun _ _ => by have := hi s0 rfl; omega) ?_
      intro e' p' g1 g2 g3 g4 g5
      exact hk e' p' g1 g2 g3 g4 (Parsed_step c g5)

theorem f_impl_ReadEdit_l7Does {R : Type} {Q : R → Prop} (m : Int) (z : DEdit) (hm : m ≤ 31) (kk : ((Int × Unit) × (DEdit × Unit)) → (Unit × (DEdit × Dtaker × Unit)) → Option R) :
    ∀ (f : Nat) (i : Int) (e : DEdit) (p : Dtaker) (o : Option ByteArray), Tk p o → f = (m - i).toNat → 0 ≤ i → i + f ≤ 31 → e.2.2.1.length = i →
      (∀ (e' : DEdit) (p' : Dtaker), e'.1 = e.1 → e'.2.1 = e.2.1 → e'.2.2.2 = e.2.2.2 → e'.2.2.1.length ≤ 31 → Parsed (o.bind (manyO numI f)) e.2.2.1 e'.2.2.1 p' → Does (kk ((m, ()), (z, ())) ((), (e', (p', ())))) Q) →
      Does (loopF (c := f_impl_ReadEdit_l7c) (v := f_impl_ReadEdit_l7v) (ex := f_impl_ReadEdit_l7e) f_impl_ReadEdit_l7 R ((m, ()), (z, ())) ((i, ()), (e, (p, ()))) kk) Q
  | 0, i, e, p, o, hp, hf, hi, hl, he, hk => by
    rw [loopF_done (c' := ((m, ()), (z, ()))) (o := ((), (e, (p, ())))) (by
      simp only [round, f_impl_ReadEdit_l7]
      rw [ilt_false.2 (by omega)]
      rfl)]
    refine hk e p rfl rfl rfl (by omega) ?_
    cases o with
    | none => exact hp
    | some s0 => exact ⟨(List.append_nil _).symm, hp⟩
  | f + 1, i, e, p, o, hp, hf, hi, hl, he, hk => by
    obtain ⟨r, a1, a0, b1, c1⟩ := f_impl_taker_numberTk.get p _ hp
    rw [loopF_more (c' := ((m, ()), (z, ()))) (v' := ((i + 1, ()), ((e.1, (e.2.1, ((e.2.2.1 ++ [r.1.1]), e.2.2.2))), (r.2.1, ())))) (by
      simp only [round, f_impl_ReadEdit_l7]
      rw [ilt_iff.2 (by omega), cond_true, a1, bnd_some, decide_eq_true (by simp; omega), req_true, iadd_i64 (by omega)])]
    refine f_impl_ReadEdit_l7Does m z hm kk f _ _ _ _ b1 (by omega) (by omega) (by omega) (by simp; omega) ?_
    intro e' p' g1 g2 g3 g4 g5
    refine hk e' p' g1 g2 g3 g4 ?_
    cases o with
    | none => exact g5
    | some s0 =>
      refine Parsed_step (x := r.1.1) ?_ ?_
      · intro q hq
        simp only [numI] at hq
        cases hn : numO s0 with
        | none => rw [hn] at hq; cases hq
        | some y => rw [hn] at hq; injection hq with hq; subst hq; exact c1 y hn
      · have : (numI s0).map (·.2) = (numO s0).map (·.2) := by simp only [numI]; cases numO s0 <;> rfl
        rw [this]
        exact g5

theorem f_impl_ReadEdit_l11Does {R : Type} {Q : R → Prop} (m : Int) (z : DEdit) (hm : m ≤ 31) (kk : ((Int × Unit) × (DEdit × Unit)) → (Unit × (DEdit × Dtaker × Unit)) → Option R) :
    ∀ (f : Nat) (i : Int) (e : DEdit) (p : Dtaker) (o : Option ByteArray), Tk p o → f = (m - i).toNat → 0 ≤ i → i + f ≤ 31 → e.2.2.2.1.length = i →
      (∀ (e' : DEdit) (p' : Dtaker), e'.1 = e.1 → e'.2.1 = e.2.1 → e'.2.2.1 = e.2.2.1 → e'.2.2.2.1.length ≤ 31 → Parsed (o.bind (manyO metaO f)) e.2.2.2.1 e'.2.2.2.1 p' → Does (kk ((m, ()), (z, ())) ((), (e', (p', ())))) Q) →
      Does (loopF (c := f_impl_ReadEdit_l11c) (v := f_impl_ReadEdit_l11v) (ex := f_impl_ReadEdit_l11e) f_impl_ReadEdit_l11 R ((m, ()), (z, ())) ((i, ()), (e, (p, ()))) kk) Q
  | 0, i, e, p, o, hp, hf, hi, hl, he, hk => by
    rw [loopF_done (c' := ((m, ()), (z, ()))) (o := ((), (e, (p, ())))) (by
      simp only [round, f_impl_ReadEdit_l11]
      rw [ilt_false.2 (by omega)]
      rfl)]
    refine hk e p rfl rfl rfl (by omega) ?_
    cases o with
    | none => exact hp
    | some s0 => exact ⟨(List.append_nil _).symm, hp⟩
  | f + 1, i, e, p, o, hp, hf, hi, hl, he, hk => by
    obtain ⟨r1, r2, r3, r4, a1, a2, a3, a4, b, c⟩ := metaGet f_impl_taker_numberTk f_impl_taker_sizedTk p _ hp
    rw [loopF_more (c' := ((m, ()), (z, ()))) (v' := ((i + 1, ()), ((e.1, (e.2.1, (e.2.2.1, ((e.2.2.2.1 ++ [(r1.1.1, (r2.1.1, (r3.1.1, (r4.1.1, ()))))]), e.2.2.2.2)))), (r4.2.1, ())))) (by
      simp only [round, f_impl_ReadEdit_l11]
      rw [ilt_iff.2 (by omega), cond_true, a1, bnd_some, a2, bnd_some, a3, bnd_some, a4, bnd_some, decide_eq_true (by simp; omega), req_true, iadd_i64 (by omega)])]
    refine f_impl_ReadEdit_l11Does m z hm kk f _ _ _ _ b (by omega) (by omega) (by omega) (by simp; omega) ?_
    intro e' p' g1 g2 g3 g4 g5
    refine hk e' p' g1 g2 g3 g4 ?_
    cases o with
    | none => exact g5
    | some s0 => exact Parsed_step c g5

theorem upto_step {α : Type} {P : Nat → α → Prop} {l : List α} {j : Nat} {y : α} (h : ∀ i x, i < j → l[i]? = some x → P i x) (hy : l[j]? = some y) (hp : P j y) : ∀ i x, i < j + 1 → l[i]? = some x → P i x := by
  intro i x hi hx
  rcases Nat.lt_or_ge i j with h1 | h1
  · exact h i x h1 hx
  · have : i = j := by omega
    subst this
    rw [hy] at hx
    injection hx with hx
    subst hx
    exact hp

theorem upto_all {α : Type} {P : Nat → α → Prop} {l : List α} {j : Nat} (hj : l.length ≤ j) (h : ∀ i x, i < j → l[i]? = some x → P i x) : ∀ i x, l[i]? = some x → P i x := by
  intro i x hx
  have := (List.getElem?_eq_some_iff.1 hx).1
  exact h i x (by omega) hx

def NumAt (l : List Int) (i : Nat) (x : Int) : Prop := inR x 1 100000 = true ∧ ∀ y, 0 < i → l[i - 1]? = some y → y < x

def NumsOk (l : List Int) : Prop := ∀ i x, l[i]? = some x → NumAt l i x

theorem f_impl_numbersOkDoes {x : List Int × Unit} (hl : x.1.length ≤ 1000) : Does (f_impl_numbersOk x) fun r => (r.1.1 = true ↔ NumsOk x.1) := by
  obtain ⟨l, ⟨⟩⟩ := x
  dsimp only at hl
  unfold f_impl_numbersOk
  refine Does.loop (c := f_impl_numbersOk_l2c) (v := f_impl_numbersOk_l2v) (ex := f_impl_numbersOk_l2e)
    (fun (xc : ((List Int) × (List Int) × Int × Unit) × Unit) (xv : (Int × Unit) × Unit) => xc.1.1 = l ∧ xc.1.2.1 = l ∧ xc.1.2.2.1 = llen l ∧ ∃ j : Nat, xv.1.1 = (j : Int) ∧ j ≤ l.length ∧ ∀ i x, i < j → l[i]? = some x → NumAt l i x)
    (fun _ (xv : (Int × Unit) × Unit) => l.length - Int.toNat xv.1.1) ?_ ⟨rfl, rfl, rfl, 0, rfl, by omega, fun i x h => by omega⟩
  rintro ⟨⟨a, b, n, ⟨⟩⟩, ⟨⟩⟩ ⟨⟨i, ⟨⟩⟩, ⟨⟩⟩ ⟨h1, h2, h3, j, h4, h5, h6⟩
  dsimp only at h1 h2 h3 h4
  subst h1; subst h2; subst h3; subst h4
  simp only [round, f_impl_numbersOk_l2]
  refine Does.cond (fun hlt => ?_) (fun hlt => ?_)
  · have hlt := ilt_iff.1 hlt
    simp only [llen] at hlt
    refine Does.getO (by omega) (by omega) fun y hy => ?_
    rw [Int.toNat_natCast] at hy
    rw [val_f_impl_in, bnd_some]
    refine Does.cond (fun hb => Does.val (Does.val ?_)) (fun hb => ?_)
    · refine ⟨(fun h => by cases h), fun h => ?_⟩
      have := (h j y hy).1
      rw [this] at hb
      cases hb
    · have hb : inR y 1 100000 = true := by simpa using hb
      have hnext : (∀ z, 0 < j → b[j - 1]? = some z → z < y) → (b = b ∧ b = b ∧ llen b = llen b ∧ ∃ k : Nat, iadd .i64 (j : Int) (1 : Int) = (k : Int) ∧ k ≤ b.length ∧ ∀ i x, i < k → b[i]? = some x → NumAt b i x) ∧ b.length - Int.toNat (iadd .i64 (j : Int) (1 : Int)) < b.length - Int.toNat (j : Int) := by
        intro hz
        rw [iadd_i64 (by omega)]
        exact ⟨⟨rfl, rfl, rfl, j + 1, by omega, by omega, upto_step h6 hy ⟨hb, hz⟩⟩, by omega⟩
      refine Does.cond (fun h0 => ?_) (fun h0 => ?_)
      · have h0 := ilt_iff.1 h0
        have e : isub .i64 (j : Int) (1 : Int) = ((j - 1 : Nat) : Int) := by rw [isub_i64 (by omega)]; omega
        rw [e]
        refine Does.getO (by omega) (by omega) fun z hz => ?_
        rw [Int.toNat_natCast] at hz
        refine Does.cond (fun hle => Does.val (Does.val ?_)) (fun hle => Does.val ?_)
        · have hle := ile_iff.1 hle
          refine ⟨(fun h => by cases h), fun h => ?_⟩
          have := (h j y hy).2 z (by omega) hz
          omega
        · have hle := ile_false.1 hle
          exact hnext fun z' _ hz' => by rw [hz] at hz'; injection hz' with hz'; rw [← hz']; exact hle
      · have h0 := ilt_false.1 h0
        exact Does.val (hnext fun z' h _ => by omega)
  · have hlt := ilt_false.1 hlt
    simp only [llen] at hlt
    refine Does.val (Does.val ?_)
    exact ⟨fun _ => upto_all (by omega) h6, fun _ => rfl⟩

def goodMetaB (m : DMeta) : Bool :=
  cond (inR m.1 1 100000) (cond (inR m.2.1 0 3) (cond (inR (slen m.2.2.1) 1 16) (cond (inR (slen m.2.2.2.1) 1 16) (slt m.2.2.1 m.2.2.2.1 || seq m.2.2.1 m.2.2.2.1) false) false) false) false

theorem f_spec_l9MetaVal (x : DMeta × Unit) : f_spec_l9Meta x = some ((goodMetaB x.1, ()), ()) := by
  unfold f_spec_l9Meta goodMetaB f_spec_l4Key
  rw [val_f_spec_l1In, bnd_some]; dsimp only
  cases inR x.1.1 1 100000
  · rfl
  rw [cond_true, cond_true, val_f_spec_l1In, bnd_some]; dsimp only
  cases inR x.1.2.1 0 3
  · rfl
  rw [cond_true, cond_true, val_f_spec_l1In, bnd_some]; dsimp only
  cases inR (slen x.1.2.2.1) 1 16
  · rfl
  rw [bnd_some]; dsimp only
  rw [cond_true, cond_true, val_f_spec_l1In, bnd_some]; dsimp only
  cases inR (slen x.1.2.2.2.1) 1 16 <;> rfl

theorem f_impl_goodMetaVal (x : DMeta × Unit) : f_impl_goodMeta x = some ((goodMetaB x.1, ()), ()) := by
  unfold f_impl_goodMeta goodMetaB f_impl_isKey
  rw [val_f_impl_in, bnd_some]; dsimp only
  cases inR x.1.1 1 100000
  · rfl
  rw [cond_true, cond_true, val_f_impl_in, bnd_some]; dsimp only
  cases inR x.1.2.1 0 3
  · rfl
  rw [cond_true, cond_true, val_f_impl_in, bnd_some]; dsimp only
  cases inR (slen x.1.2.2.1) 1 16
  · rfl
  rw [bnd_some]; dsimp only
  rw [cond_true, cond_true, val_f_impl_in, bnd_some]; dsimp only
  cases inR (slen x.1.2.2.2.1) 1 16 <;> rfl

theorem meta_same : f_spec_l9Meta = f_impl_goodMeta := by funext x; rw [f_spec_l9MetaVal, f_impl_goodMetaVal]

theorem metas_same : f_spec_l9Metas = f_impl_metasOk := by
  have h : f_spec_l9Metas_l2 = f_impl_metasOk_l2 := by funext R c v kk; unfold f_spec_l9Metas_l2 f_impl_metasOk_l2; rw [meta_same]
  funext x
  unfold f_spec_l9Metas f_impl_metasOk
  rw [h]
  rfl

def MetaAt (l : List DMeta) (i : Nat) (m : DMeta) : Prop := goodMetaB m = true ∧ ∀ y, 0 < i → l[i - 1]? = some y → y.1 < m.1

def MetasOk (l : List DMeta) : Prop := l.length ≤ 30 ∧ ∀ i x, l[i]? = some x → MetaAt l i x

theorem f_impl_metasOkDoes {x : List DMeta × Unit} (hl : x.1.length ≤ 1000) : Does (f_impl_metasOk x) fun r => (r.1.1 = true ↔ MetasOk x.1) := by
  obtain ⟨l, ⟨⟩⟩ := x
  dsimp only at hl
  unfold f_impl_metasOk
  refine Does.loop (c := f_impl_metasOk_l2c) (v := f_impl_metasOk_l2v) (ex := f_impl_metasOk_l2e)
    (fun (xc : ((List DMeta) × (List DMeta) × Int × Unit) × Unit) (xv : (Int × Unit) × Unit) => xc.1.1 = l ∧ xc.1.2.1 = l ∧ xc.1.2.2.1 = llen l ∧ ∃ j : Nat, xv.1.1 = (j : Int) ∧ j ≤ l.length ∧ ∀ i x, i < j → l[i]? = some x → MetaAt l i x)
    (fun _ (xv : (Int × Unit) × Unit) => l.length - Int.toNat xv.1.1) ?_ ⟨rfl, rfl, rfl, 0, rfl, by omega, fun i x h => by omega⟩
  rintro ⟨⟨a, b, n, ⟨⟩⟩, ⟨⟩⟩ ⟨⟨i, ⟨⟩⟩, ⟨⟩⟩ ⟨h1, h2, h3, j, h4, h5, h6⟩
  dsimp only at h1 h2 h3 h4
  subst h1; subst h2; subst h3; subst h4
  simp only [round, f_impl_metasOk_l2]
  refine Does.cond (fun hlt => ?_) (fun hlt => ?_)
  · have hlt := ilt_iff.1 hlt
    simp only [llen] at hlt
    refine Does.getO (by omega) (by omega) fun y hy => ?_
    rw [Int.toNat_natCast] at hy
    rw [f_impl_goodMetaVal, bnd_some]
    refine Does.cond (fun hb => Does.val (Does.val ?_)) (fun hb => ?_)
    · refine ⟨(fun h => by cases h), fun h => ?_⟩
      have := (h.2 j y hy).1
      rw [this] at hb
      cases hb
    · have hb : goodMetaB y = true := by simpa using hb
      have hnext : (∀ z, 0 < j → b[j - 1]? = some z → z.1 < y.1) → (b = b ∧ b = b ∧ llen b = llen b ∧ ∃ k : Nat, iadd .i64 (j : Int) (1 : Int) = (k : Int) ∧ k ≤ b.length ∧ ∀ i x, i < k → b[i]? = some x → MetaAt b i x) ∧ b.length - Int.toNat (iadd .i64 (j : Int) (1 : Int)) < b.length - Int.toNat (j : Int) := by
        intro hz
        rw [iadd_i64 (by omega)]
        exact ⟨⟨rfl, rfl, rfl, j + 1, by omega, by omega, upto_step h6 hy ⟨hb, hz⟩⟩, by omega⟩
      refine Does.cond (fun h0 => ?_) (fun h0 => ?_)
      · have h0 := ilt_iff.1 h0
        have e : isub .i64 (j : Int) (1 : Int) = ((j - 1 : Nat) : Int) := by rw [isub_i64 (by omega)]; omega
        rw [e]
        refine Does.getO (by omega) (by omega) fun z hz => ?_
        rw [Int.toNat_natCast] at hz
        refine Does.cond (fun hle => Does.val (Does.val ?_)) (fun hle => Does.val ?_)
        · have hle := ile_iff.1 hle
          refine ⟨(fun h => by cases h), fun h => ?_⟩
          have := (h.2 j y hy).2 z (by omega) hz
          omega
        · have hle := ile_false.1 hle
          exact hnext fun z' _ hz' => by rw [hz] at hz'; injection hz' with hz'; rw [← hz']; exact hle
      · have h0 := ilt_false.1 h0
        exact Does.val (hnext fun z' h _ => by omega)
  · have hlt := ilt_false.1 hlt
    simp only [llen] at hlt
    refine Does.val (Does.val ?_)
    constructor
    · intro h
      have h := ile_iff.1 h
      simp only [llen] at h
      exact ⟨by omega, upto_all (by omega) h6⟩
    · intro h
      exact ile_iff.2 (by have := h.1; simp only [llen]; omega)

def GoodEd (e : DEdit) : Prop := inR e.1 1 100001 = true ∧ inR e.2.1 0 1000000000 = true ∧ e.2.2.1.length ≤ 30 ∧ MetasOk e.2.2.2.1 ∧ NumsOk e.2.2.1

theorem f_impl_goodEditDoes {x : DEdit × Unit} (h1 : x.1.2.2.1.length ≤ 1000) (h2 : x.1.2.2.2.1.length ≤ 1000) : Does (f_impl_goodEdit x) fun r => (r.1.1 = true ↔ GoodEd x.1) := by
  unfold f_impl_goodEdit f_impl_nextOk f_impl_isSeq
  rw [val_f_impl_in, bnd_some]; dsimp only
  cases a1 : inR x.1.1 1 100001
  · exact Does.val ⟨(fun h => by cases h), fun h => by have := h.1; rw [a1] at this; cases this⟩
  rw [cond_true, val_f_impl_in, bnd_some]; dsimp only
  rw [bnd_some]; dsimp only
  rw [bnd_some]; dsimp only
  cases a2 : inR x.1.2.1 0 1000000000
  · exact Does.val ⟨(fun h => by cases h), fun h => by have := h.2.1; rw [a2] at this; cases this⟩
  rw [cond_true]
  refine Does.cond (fun a3 => ?_) (fun a3 => ?_)
  · have a3 := ile_iff.1 a3
    simp only [llen] at a3
    refine Does.bnd (f_impl_metasOkDoes (x := (x.1.2.2.2.1, ())) h2) fun r2 hr2 => ?_
    refine Does.cond (fun a4 => ?_) (fun a4 => ?_)
    · refine Does.bnd (f_impl_numbersOkDoes (x := (x.1.2.2.1, ())) h1) fun r3 hr3 => ?_
      refine Does.val ⟨fun h => ⟨a1, a2, by omega, hr2.1 a4, hr3.1 h⟩, fun h => hr3.2 h.2.2.2.2⟩
    · refine Does.val ⟨(fun h => by cases h), fun h => ?_⟩
      have := hr2.2 h.2.2.2.1
      rw [this] at a4; cases a4
  · have a3 := ile_false.1 a3
    simp only [llen] at a3
    exact Does.val ⟨(fun h => by cases h), fun h => by have := h.2.2.1; omega⟩

theorem f_spec_l9EditDoes {x : DEdit × Unit} (h1 : x.1.2.2.1.length ≤ 1000) (h2 : x.1.2.2.2.1.length ≤ 1000) : Does (f_spec_l9Edit x) fun r => (r.1.1 = true ↔ GoodEd x.1) := by
  obtain ⟨e, ⟨⟩⟩ := x
  dsimp only at h1 h2 ⊢
  unfold f_spec_l9Edit
  refine Does.loop (c := f_spec_l9Edit_l2c) (v := f_spec_l9Edit_l2v) (ex := f_spec_l9Edit_l2e)
    (fun (xc : ((List Int) × Int × Unit) × (DEdit × Unit)) (xv : (Int × Unit) × Unit) => xc.1.1 = e.2.2.1 ∧ xc.1.2.1 = llen e.2.2.1 ∧ xc.2.1 = e ∧ ∃ j : Nat, xv.1.1 = (j : Int) ∧ j ≤ e.2.2.1.length ∧ ∀ i x, i < j → e.2.2.1[i]? = some x → NumAt e.2.2.1 i x)
    (fun _ (xv : (Int × Unit) × Unit) => e.2.2.1.length - Int.toNat xv.1.1) ?_ ⟨rfl, rfl, rfl, 0, rfl, by omega, fun i x h => by omega⟩
  rintro ⟨⟨a, n, ⟨⟩⟩, e', ⟨⟩⟩ ⟨⟨i, ⟨⟩⟩, ⟨⟩⟩ ⟨k1, k2, k3, j, h4, h5, h6⟩
  dsimp only at k1 k2 k3 h4
  subst k3; subst k1; subst k2; subst h4
  simp only [round, f_spec_l9Edit_l2]
  refine Does.cond (fun hlt => ?_) (fun hlt => ?_)
  · have hlt := ilt_iff.1 hlt
    simp only [llen] at hlt
    refine Does.getO (by omega) (by omega) fun y hy => ?_
    rw [Int.toNat_natCast] at hy
    rw [val_f_spec_l1In, bnd_some]
    refine Does.cond (fun hb => Does.val (Does.val ?_)) (fun hb => ?_)
    · refine ⟨(fun h => by cases h), fun h => ?_⟩
      have := (h.2.2.2.2 j y hy).1
      rw [this] at hb
      cases hb
    · have hb : inR y 1 100000 = true := by simpa using hb
      have hnext : (∀ z, 0 < j → e'.2.2.1[j - 1]? = some z → z < y) → (e'.2.2.1 = e'.2.2.1 ∧ llen e'.2.2.1 = llen e'.2.2.1 ∧ e' = e' ∧ ∃ k : Nat, iadd .i64 (j : Int) (1 : Int) = (k : Int) ∧ k ≤ e'.2.2.1.length ∧ ∀ i x, i < k → e'.2.2.1[i]? = some x → NumAt e'.2.2.1 i x) ∧ e'.2.2.1.length - Int.toNat (iadd .i64 (j : Int) (1 : Int)) < e'.2.2.1.length - Int.toNat (j : Int) := by
        intro hz
        rw [iadd_i64 (by omega)]
        exact ⟨⟨rfl, rfl, rfl, j + 1, by omega, by omega, upto_step h6 hy ⟨hb, hz⟩⟩, by omega⟩
      refine Does.cond (fun h0 => ?_) (fun h0 => ?_)
      · have h0 := ilt_iff.1 h0
        have e : isub .i64 (j : Int) (1 : Int) = ((j - 1 : Nat) : Int) := by rw [isub_i64 (by omega)]; omega
        rw [e]
        refine Does.getO (by omega) (by omega) fun z hz => ?_
        rw [Int.toNat_natCast] at hz
        refine Does.cond (fun hle => Does.val (Does.val ?_)) (fun hle => Does.val ?_)
        · have hle := ile_iff.1 hle
          refine ⟨(fun h => by cases h), fun h => ?_⟩
          have := (h.2.2.2.2 j y hy).2 z (by omega) hz
          omega
        · have hle := ile_false.1 hle
          exact hnext fun z' _ hz' => by rw [hz] at hz'; injection hz' with hz'; rw [← hz']; exact hle
      · have h0 := ilt_false.1 h0
        exact Does.val (hnext fun z' h _ => by omega)
  · have hlt := ilt_false.1 hlt
    simp only [llen] at hlt
    have hnums : NumsOk e'.2.2.1 := upto_all (by omega) h6
    refine Does.val ?_
    dsimp only
    unfold f_spec_l9Counts f_spec_l4Seq
    rw [val_f_spec_l1In, bnd_some]; dsimp only
    cases a1 : inR e'.1 1 100001
    · exact Does.val ⟨(fun h => by cases h), fun h => by have := h.1; rw [a1] at this; cases this⟩
    rw [cond_true, val_f_spec_l1In, bnd_some]; dsimp only
    rw [bnd_some]; dsimp only
    rw [bnd_some]; dsimp only
    cases a2 : inR e'.2.1 0 1000000000
    · exact Does.val ⟨(fun h => by cases h), fun h => by have := h.2.1; rw [a2] at this; cases this⟩
    rw [cond_true]
    refine Does.cond (fun a3 => ?_) (fun a3 => ?_)
    · have a3 := ile_iff.1 a3
      simp only [llen] at a3
      rw [metas_same]
      refine Does.bnd (f_impl_metasOkDoes (x := (e'.2.2.2.1, ())) h2) fun r2 hr2 => ?_
      exact Does.val ⟨fun h => ⟨a1, a2, by omega, hr2.1 h, hnums⟩, fun h => hr2.2 h.2.2.2.1⟩
    · have a3 := ile_false.1 a3
      simp only [llen] at a3
      exact Does.val ⟨(fun h => by cases h), fun h => by have := h.2.2.1; omega⟩

def numsB : List Int → ByteArray
  | [] => ⟨#[]⟩
  | x :: l => varB x.toNat ++ numsB l

def metaB (m : DMeta) : ByteArray := varB m.1.toNat ++ varB m.2.1.toNat ++ varB m.2.2.1.size ++ m.2.2.1 ++ varB m.2.2.2.1.size ++ m.2.2.2.1

def metasB : List DMeta → ByteArray
  | [] => ⟨#[]⟩
  | x :: l => metaB x ++ metasB l

def editB (e : DEdit) : ByteArray := varB e.1.toNat ++ varB e.2.1.toNat ++ varB e.2.2.1.length ++ numsB e.2.2.1 ++ varB e.2.2.2.1.length ++ metasB e.2.2.2.1

def natI (x : Int) : Prop := 0 ≤ x ∧ x < 9223372036854775808

def MetaN (m : DMeta) : Prop := natI m.1 ∧ natI m.2.1 ∧ m.2.2.1.size ≤ 1000 ∧ m.2.2.2.1.size ≤ 1000

theorem f_spec_l2VarI {x : Int} (h : natI x) : f_spec_l2Var (x, ()) = some ((varB x.toNat, ()), ()) := f_spec_l2VarVal (x, ()) x.toNat (by have := h.1; dsimp only; omega) (by have := h.2; have := h.1; omega)

theorem f_spec_l9Bytes_l3Loop {R : Type} (l : List Int) (hl : l.length ≤ 1000) (hn : ∀ x ∈ l, natI x) (e : DEdit) (kk : (((List Int) × Int × Unit) × (DEdit × Unit)) → ((ByteArray × Unit) × Unit) → Option R) :
    ∀ (B A : List Int) (out : ByteArray), A ++ B = l → out.size + 9 * B.length ≤ 1000000 →
      loopF (c := f_spec_l9Bytes_l3c) (v := f_spec_l9Bytes_l3v) (ex := f_spec_l9Bytes_l3e) f_spec_l9Bytes_l3 R ((l, (llen l, ())), (e, ())) ((out, (((A.length : Nat) : Int), ())), ()) kk = kk ((l, (llen l, ())), (e, ())) ((out ++ numsB B, ()), ())
  | [], A, out, h, ho => by
    subst h
    rw [loopF_done (c' := ((A ++ [], (llen (A ++ []), ())), (e, ()))) (o := ((out, ()), ())) (by simp only [round, f_spec_l9Bytes_l3, mid_end, cond_false])]
    simp only [numsB, append_empty]
  | y :: B, A, out, h, ho => by
    have hA : A.length + 1 ≤ l.length := by rw [← h]; simp
    have hy := hn y (by rw [← h]; simp)
    have hs := varB_size y.toNat
    simp only [List.length_cons] at ho
    rw [loopF_more (c' := ((l, (llen l, ())), (e, ()))) (v' := ((out ++ varB y.toNat, ((((A ++ [y]).length : Nat) : Int), ())), ())) (by
      rw [← h]
      simp only [round, f_spec_l9Bytes_l3, mid_lt, cond_true, mid_getO]
      rw [f_spec_l2VarI hy, bnd_some, catO_some (by dsimp only; omega), mid_next A y (by omega)])]
    rw [f_spec_l9Bytes_l3Loop l hl hn e kk B (A ++ [y]) (out ++ varB y.toNat) (by simp [← h]) (by rw [ByteArray.size_append]; omega)]
    simp only [numsB, ByteArray.append_assoc]

theorem metaB_size {m : DMeta} (h : MetaN m) : (metaB m).size ≤ 2036 := by
  have h1 := varB_size m.1.toNat
  have h2 := varB_size m.2.1.toNat
  have h3 := varB_size m.2.2.1.size
  have h4 := varB_size m.2.2.2.1.size
  have := h.2.2
  simp only [metaB, ByteArray.size_append]
  omega

theorem f_spec_l9Bytes_l9Loop {R : Type} (l : List DMeta) (hl : l.length ≤ 1000) (hn : ∀ x ∈ l, MetaN x) (kk : (((List DMeta) × Int × Unit) × Unit) → ((ByteArray × Unit) × Unit) → Option R) :
    ∀ (B A : List DMeta) (out : ByteArray), A ++ B = l → out.size + 2036 * B.length ≤ 100000000 →
      loopF (c := f_spec_l9Bytes_l9c) (v := f_spec_l9Bytes_l9v) (ex := f_spec_l9Bytes_l9e) f_spec_l9Bytes_l9 R ((l, (llen l, ())), ()) ((out, (((A.length : Nat) : Int), ())), ()) kk = kk ((l, (llen l, ())), ()) ((out ++ metasB B, ()), ())
  | [], A, out, h, ho => by
    subst h
    rw [loopF_done (c' := ((A ++ [], (llen (A ++ []), ())), ())) (o := ((out, ()), ())) (by simp only [round, f_spec_l9Bytes_l9, mid_end, cond_false])]
    simp only [metasB, append_empty]
  | y :: B, A, out, h, ho => by
    have hA : A.length + 1 ≤ l.length := by rw [← h]; simp
    have hy := hn y (by rw [← h]; simp)
    have hs := metaB_size hy
    simp only [List.length_cons] at ho
    have h1 := varB_size y.1.toNat
    have h2 := varB_size y.2.1.toNat
    have h3 := varB_size y.2.2.1.size
    have h4 := varB_size y.2.2.2.1.size
    obtain ⟨n1, n2, n3, n4⟩ := hy
    rw [loopF_more (c' := ((l, (llen l, ())), ())) (v' := ((out ++ metaB y, ((((A ++ [y]).length : Nat) : Int), ())), ())) (by
      rw [← h]
      simp only [round, f_spec_l9Bytes_l9, mid_lt, cond_true, mid_getO]
      rw [f_spec_l2VarI n1, bnd_some, f_spec_l2VarI n2, bnd_some, catO_some (by dsimp only; omega), f_spec_l2VarVal (slen y.2.2.1, ()) y.2.2.1.size rfl (by omega), bnd_some, catO_some (by simp only [ByteArray.size_append]; omega), catO_some (by simp only [ByteArray.size_append]; omega),
        f_spec_l2VarVal (slen y.2.2.2.1, ()) y.2.2.2.1.size rfl (by omega), bnd_some, catO_some (by simp only [ByteArray.size_append]; omega), catO_some (by simp only [ByteArray.size_append]; omega), catO_some (by simp only [ByteArray.size_append]; omega), mid_next A y (by omega)]
      rfl)]
    rw [f_spec_l9Bytes_l9Loop l hl hn kk B (A ++ [y]) (out ++ metaB y) (by simp [← h]) (by rw [ByteArray.size_append]; omega)]
    simp only [metasB, ByteArray.append_assoc]

theorem numsB_size (l : List Int) : (numsB l).size ≤ 9 * l.length := by
  induction l with
  | nil => exact Nat.zero_le _
  | cons x l ih =>
    have := varB_size x.toNat
    simp only [numsB, ByteArray.size_append, List.length_cons]
    omega

theorem f_spec_l9BytesVal {x : DEdit × Unit} (h1 : x.1.2.2.1.length ≤ 1000) (h2 : x.1.2.2.2.1.length ≤ 1000) (a1 : natI x.1.1) (a2 : natI x.1.2.1) (a3 : ∀ y ∈ x.1.2.2.1, natI y) (a4 : ∀ y ∈ x.1.2.2.2.1, MetaN y) :
    f_spec_l9Bytes x = some ((editB x.1, ()), ()) := by
  obtain ⟨e, ⟨⟩⟩ := x
  dsimp only at *
  have s1 := varB_size e.1.toNat
  have s2 := varB_size e.2.1.toNat
  have s3 := varB_size e.2.2.1.length
  have s4 := varB_size e.2.2.2.1.length
  have s5 := numsB_size e.2.2.1
  unfold f_spec_l9Bytes
  dsimp only
  rw [f_spec_l2VarI a1, bnd_some, f_spec_l2VarI a2, bnd_some, catO_some (by dsimp only; omega), f_spec_l2VarVal (llen e.2.2.1, ()) e.2.2.1.length rfl (by omega), bnd_some, catO_some (by simp only [ByteArray.size_append]; omega)]
  refine (f_spec_l9Bytes_l3Loop e.2.2.1 h1 a3 e _ e.2.2.1 [] _ rfl (by simp only [ByteArray.size_append]; omega)).trans ?_
  dsimp only
  rw [f_spec_l2VarVal (llen e.2.2.2.1, ()) e.2.2.2.1.length rfl (by omega), bnd_some, catO_some (by simp only [ByteArray.size_append]; omega)]
  refine (f_spec_l9Bytes_l9Loop e.2.2.2.1 h2 a4 _ e.2.2.2.1 [] _ rfl (by simp only [ByteArray.size_append]; omega)).trans ?_
  rfl

def editP (s : ByteArray) : Option (DEdit × ByteArray) :=
  bindO (numO s) fun a s => bindO (numO s) fun b s => bindO (numO s) fun n s => bindO (manyO numI (min n 31) s) fun l s =>
    bindO (numO s) fun m s => bindO (manyO metaO (min m 31) s) fun k s => some (((a : Int), ((b : Int), (l, (k, ())))), s)

abbrev nx {α : Type} (r : Option (α × ByteArray)) : Option ByteArray := r.map (·.2)

theorem Parsed.tk {α : Type} {r : Option (List α × ByteArray)} {acc l' : List α} {p' : Dtaker} (h : Parsed r acc l' p') : Tk p' (nx r) := by
  cases r with
  | none => exact h
  | some q => exact h.2

theorem editChain (s : ByteArray) {v1 v2 v3 v7 : Int} {e1 e2 : DEdit} {p1 p2 : Dtaker} {o1 o2 o3 o4 o5 : Option ByteArray}
    (q1 : o1 = nx (numO s)) (q2 : o2 = nx (o1.bind numO)) (q3 : o3 = nx (o2.bind numO)) (q4 : o4 = nx (o3.bind (manyO numI (min v3.toNat 31)))) (q5 : o5 = nx (o4.bind numO))
    (c1 : ∀ q, numO s = some q → v1 = (q.1 : Int)) (c2 : ∀ q, o1.bind numO = some q → v2 = (q.1 : Int)) (c3 : ∀ q, o2.bind numO = some q → v3 = (q.1 : Int)) (c7 : ∀ q, o4.bind numO = some q → v7 = (q.1 : Int))
    (h1 : Parsed (o3.bind (manyO numI (min v3.toNat 31))) [] e1.2.2.1 p1) (h2 : Parsed (o5.bind (manyO metaO (min v7.toNat 31))) [] e2.2.2.2.1 p2)
    (a1 : e1.1 = v1) (a2 : e1.2.1 = v2) (b1 : e2.1 = e1.1) (b2 : e2.2.1 = e1.2.1) (b3 : e2.2.2.1 = e1.2.2.1) :
    match editP s with | none => Tk p2 none | some q => e2 = q.1 ∧ Tk p2 (some q.2) := by
  unfold editP
  cases g1 : numO s with
  | none => rw [g1] at q1; subst q1; subst q2; subst q3; subst q4; subst q5; exact h2
  | some y1 =>
    rw [g1] at q1; subst q1
    simp only [nx, Option.map_some, Option.bind_some, bindO] at q2 c2 ⊢
    cases g2 : numO y1.2 with
    | none => rw [g2] at q2; subst q2; subst q3; subst q4; subst q5; exact h2
    | some y2 =>
      rw [g2] at q2; subst q2
      simp only [nx, Option.map_some, Option.bind_some] at q3 c3 ⊢
      cases g3 : numO y2.2 with
      | none => rw [g3] at q3; subst q3; subst q4; subst q5; exact h2
      | some y3 =>
        rw [g3] at q3; subst q3
        have e3 : v3 = (y3.1 : Int) := c3 y3 g3
        subst e3
        simp only [nx, Option.map_some, Option.bind_some, Int.toNat_natCast] at q4 h1 ⊢
        cases g4 : manyO numI (min y3.1 31) y3.2 with
        | none => rw [g4] at q4; subst q4; subst q5; exact h2
        | some y4 =>
          rw [g4] at q4 h1; subst q4
          simp only [nx, Option.map_some, Option.bind_some] at q5 c7 ⊢
          cases g5 : numO y4.2 with
          | none => rw [g5] at q5; subst q5; exact h2
          | some y5 =>
            rw [g5] at q5; subst q5
            have e7 : v7 = (y5.1 : Int) := c7 y5 g5
            subst e7
            simp only [Option.map_some, Option.bind_some, Int.toNat_natCast] at h2 ⊢
            cases g6 : manyO metaO (min y5.1 31) y5.2 with
            | none => rw [g6] at h2; exact h2
            | some y6 =>
              rw [g6] at h2
              obtain ⟨d1, d2⟩ := h2
              obtain ⟨f1, f2⟩ := h1
              refine ⟨?_, d2⟩
              obtain ⟨w1, w2, w3, w4, ⟨⟩⟩ := e2
              dsimp only at b1 b2 b3 d1 ⊢
              rw [b1, b2, b3, a1, a2, d1, f1, c1 y1 g1, c2 y2 g2]
              simp

theorem nums_canon : ∀ {f : Nat} {s : ByteArray} {l : List Int} {s' : ByteArray}, manyO numI f s = some (l, s') → s = numsB l ++ s' ∧ l.length = f ∧ (∀ x ∈ l, natI x) ∧ s'.size ≤ s.size
  | 0, s, l, s', h => by
    simp only [manyO] at h
    injection h with h
    injection h with h1 h2
    subst h1; subst h2
    exact ⟨by simp only [numsB, empty_append], rfl, (fun x hx => by cases hx), Nat.le_refl _⟩
  | f + 1, s, l, s', h => by
    simp only [manyO, numI] at h
    cases hn : numO s with
    | none => rw [hn] at h; cases h
    | some q =>
      rw [hn] at h
      simp only [bindO] at h
      cases hm : manyO numI f q.2 with
      | none => rw [hm] at h; cases h
      | some y =>
        have hm' := hm
        rw [hm] at h
        injection h with h
        injection h with h1 h2
        subst h1; subst h2
        obtain ⟨k1, k2, k3⟩ := numO_some (s' := q.2) (n := q.1) hn
        obtain ⟨j1, j2, j3, j4⟩ := nums_canon hm'
        refine ⟨?_, by simp [j2], ?_, by omega⟩
        · simp only [numsB, Int.toNat_natCast, ByteArray.append_assoc]
          rw [← j1]; exact k2
        · intro x hx
          rcases List.mem_cons.1 hx with rfl | hx
          · exact ⟨by omega, by omega⟩
          · exact j3 x hx

theorem meta_canon {s : ByteArray} {m : DMeta} {s' : ByteArray} (h : metaO s = some (m, s')) (hs : s.size ≤ 1000) : s = metaB m ++ s' ∧ MetaN m ∧ s'.size ≤ s.size := by
  simp only [metaO] at h
  cases h1 : numO s with
  | none => rw [h1] at h; cases h
  | some q1 =>
    rw [h1] at h
    simp only [bindO] at h
    cases h2 : numO q1.2 with
    | none => rw [h2] at h; cases h
    | some q2 =>
      rw [h2] at h
      simp only at h
      cases h3 : txtO q2.2 with
      | none => rw [h3] at h; cases h
      | some q3 =>
        rw [h3] at h
        simp only at h
        cases h4 : txtO q3.2 with
        | none => rw [h4] at h; cases h
        | some q4 =>
          rw [h4] at h
          injection h with h
          injection h with e1 e2
          subst e1; subst e2
          obtain ⟨k1, k2, k3⟩ := numO_some (s' := q1.2) (n := q1.1) h1
          obtain ⟨l1, l2, l3⟩ := numO_some (s' := q2.2) (n := q2.1) h2
          obtain ⟨m1, m2, m3⟩ := txtO_some (s' := q3.2) (t := q3.1) h3
          obtain ⟨n1, n2, n3⟩ := txtO_some (s' := q4.2) (t := q4.1) h4
          refine ⟨?_, ⟨⟨by dsimp only; omega, by dsimp only; omega⟩, ⟨by dsimp only; omega, by dsimp only; omega⟩, by dsimp only; omega, by dsimp only; omega⟩, by omega⟩
          simp only [metaB, Int.toNat_natCast, ByteArray.append_assoc]
          rw [← n1, ← m1, ← l2]
          exact k2

theorem metas_canon : ∀ {f : Nat} {s : ByteArray} {l : List DMeta} {s' : ByteArray}, manyO metaO f s = some (l, s') → s.size ≤ 1000 → s = metasB l ++ s' ∧ l.length = f ∧ (∀ x ∈ l, MetaN x) ∧ s'.size ≤ s.size
  | 0, s, l, s', h, hs => by
    simp only [manyO] at h
    injection h with h
    injection h with h1 h2
    subst h1; subst h2
    exact ⟨by simp only [metasB, empty_append], rfl, (fun x hx => by cases hx), Nat.le_refl _⟩
  | f + 1, s, l, s', h, hs => by
    simp only [manyO] at h
    cases hn : metaO s with
    | none => rw [hn] at h; cases h
    | some q =>
      rw [hn] at h
      simp only [bindO] at h
      obtain ⟨k1, k2, k3⟩ := meta_canon (s' := q.2) (m := q.1) hn hs
      cases hm : manyO metaO f q.2 with
      | none => rw [hm] at h; cases h
      | some y =>
        rw [hm] at h
        injection h with h
        injection h with h1 h2
        subst h1; subst h2
        obtain ⟨j1, j2, j3, j4⟩ := metas_canon hm (by omega)
        refine ⟨?_, by simp [j2], ?_, by omega⟩
        · simp only [metasB, ByteArray.append_assoc]
          rw [← j1]; exact k1
        · intro x hx
          rcases List.mem_cons.1 hx with rfl | hx
          · exact k2
          · exact j3 x hx

theorem edit_canon {s : ByteArray} {e : DEdit} {s' : ByteArray} (h : editP s = some (e, s')) (hs : s.size ≤ 1000) :
    natI e.1 ∧ natI e.2.1 ∧ (∀ x ∈ e.2.2.1, natI x) ∧ (∀ x ∈ e.2.2.2.1, MetaN x) ∧ e.2.2.1.length ≤ 31 ∧ e.2.2.2.1.length ≤ 31 ∧ (e.2.2.1.length ≤ 30 → e.2.2.2.1.length ≤ 30 → s = editB e ++ s') := by
  unfold editP at h
  cases g1 : numO s with
  | none => rw [g1] at h; cases h
  | some y1 =>
    rw [g1] at h
    simp only [bindO] at h
    cases g2 : numO y1.2 with
    | none => rw [g2] at h; cases h
    | some y2 =>
      rw [g2] at h
      simp only at h
      cases g3 : numO y2.2 with
      | none => rw [g3] at h; cases h
      | some y3 =>
        rw [g3] at h
        simp only at h
        cases g4 : manyO numI (min y3.1 31) y3.2 with
        | none => rw [g4] at h; cases h
        | some y4 =>
          rw [g4] at h
          simp only at h
          cases g5 : numO y4.2 with
          | none => rw [g5] at h; cases h
          | some y5 =>
            rw [g5] at h
            simp only at h
            cases g6 : manyO metaO (min y5.1 31) y5.2 with
            | none => rw [g6] at h; cases h
            | some y6 =>
              rw [g6] at h
              injection h with h
              injection h with h1 h2
              subst h1; subst h2
              obtain ⟨a1, a2, a3⟩ := numO_some (s' := y1.2) (n := y1.1) g1
              obtain ⟨b1, b2, b3⟩ := numO_some (s' := y2.2) (n := y2.1) g2
              obtain ⟨c1, c2, c3⟩ := numO_some (s' := y3.2) (n := y3.1) g3
              obtain ⟨d1, d2, d3, d4⟩ := nums_canon (l := y4.1) (s' := y4.2) g4
              obtain ⟨f1, f2, f3⟩ := numO_some (s' := y5.2) (n := y5.1) g5
              obtain ⟨j1, j2, j3, j4⟩ := metas_canon (l := y6.1) (s' := y6.2) g6 (by omega)
              refine ⟨⟨by dsimp only; omega, by dsimp only; omega⟩, ⟨by dsimp only; omega, by dsimp only; omega⟩, d3, j3, by dsimp only; omega, by dsimp only; omega, ?_⟩
              dsimp only
              intro k1 k2
              have n3 : y3.1 = y4.1.length := by omega
              have n5 : y5.1 = y6.1.length := by omega
              simp only [editB, Int.toNat_natCast, ByteArray.append_assoc]
              rw [← n5, ← n3, ← j1, ← f2, ← d1, ← c2, ← b2]
              exact a2

def noEdit : DEdit := ((0 : Int), ((0 : Int), (([] : List Int), (([] : List DMeta), ()))))

open Classical in
def editR (s : ByteArray) : DEdit × Bool × Unit := match editP s with
  | none => (noEdit, (false, ()))
  | some q => if q.2.size = 0 ∧ GoodEd q.1 then (q.1, (true, ())) else (noEdit, (false, ()))

theorem editR_len (s : ByteArray) (hs : s.size ≤ 1000) : (editR s).1.2.2.1.length ≤ 31 ∧ (editR s).1.2.2.2.1.length ≤ 31 := by
  unfold editR
  split
  · simp [noEdit]
  · rename_i q hq
    have := edit_canon (e := q.1) (s' := q.2) hq hs
    split
    · exact ⟨this.2.2.2.2.1, this.2.2.2.2.2.1⟩
    · simp [noEdit]

theorem f_spec_l9ReadVal (x : ByteArray × Unit) (hs : x.1.size ≤ 1000) : f_spec_l9Read x = some (editR x.1, ()) := by
  obtain ⟨s, ⟨⟩⟩ := x
  dsimp only at hs ⊢
  suffices h : Does (f_spec_l9Read (s, ())) fun r => r = (editR s, ()) by
    obtain ⟨r, h1, h2⟩ := h; rw [h1, h2]
  unfold f_spec_l9Read
  obtain ⟨r1, a1, _, b1, c1⟩ := f_spec_l9R_numTk.get (s, (false, ())) (some s) rfl
  obtain ⟨r2, a2, _, b2, c2⟩ := f_spec_l9R_numTk.get r1.2.1 _ b1
  obtain ⟨r3, a3, n3, b3, c3⟩ := f_spec_l9R_numTk.get r2.2.1 _ b2
  dsimp only
  rw [a1, bnd_some, a2, bnd_some, a3, bnd_some]
  have hb : ∀ {o : Option ByteArray} {v : Int}, (∀ q, o.bind numO = some q → v = (q.1 : Int)) → ∀ s0, nx (o.bind numO) = some s0 → v ≤ 9223372036854775807 := by
    intro o v hc s0 h0
    cases hq : o.bind numO with
    | none => rw [hq] at h0; cases h0
    | some q =>
      have h1 := hc q hq
      cases o with
      | none => cases hq
      | some s1 =>
        have := (numO_some (s' := q.2) (n := q.1) hq).1
        omega
  refine f_spec_l9Read_l5Does s _ _ (min r3.1.1.toNat 31) r3.1.1 (r1.1.1, (r2.1.1, ([], ([], ())))) r3.2.1 _ b3 rfl (by simp) (hb c3) ?_
  intro e1 p1 f1 f2 f3 f4 f5
  obtain ⟨r7, a7, n7, b7, c7⟩ := f_spec_l9R_numTk.get p1 _ f5.tk
  dsimp only
  rw [a7, bnd_some]
  have hadd : e1.2.2.2.1 = [] := by rw [f3]
  refine f_spec_l9Read_l9Does s _ _ (min r7.1.1.toNat 31) r7.1.1 e1 r7.2.1 _ b7 (by rw [hadd]; rfl) (by rw [hadd]; simp) (hb c7) ?_
  intro e2 p2 g1 g2 g3 g4 g5
  rw [hadd] at g5
  have key := editChain s rfl rfl rfl rfl rfl c1 c2 c3 c7 f5 g5 f1 f2 g1 g2 g3
  dsimp only
  cases hE : editP s with
  | none =>
    rw [hE] at key
    have hbad : p2.2.1 = true := key
    refine Does.cond (fun _ => Does.val ?_) (fun h => by rw [hbad] at h; cases h)
    simp only [editR, hE]; rfl
  | some q =>
    rw [hE] at key
    obtain ⟨ke, kp⟩ := key
    subst ke
    have kp : p2 = (q.2, (false, ())) := kp
    subst kp
    refine Does.cond (fun h => by cases h) (fun _ => ?_)
    dsimp only
    rw [seq_empty]
    have hcan := edit_canon (e := q.1) (s' := q.2) hE hs
    by_cases hz : q.2.size = 0
    · rw [decide_eq_true hz]
      refine Does.cond (fun h => by cases h) (fun _ => ?_)
      refine Does.bnd (f_spec_l9EditDoes (x := (q.1, ())) (by have := hcan.2.2.2.2.1; dsimp only; omega) (by have := hcan.2.2.2.2.2.1; dsimp only; omega)) fun r hr => ?_
      dsimp only at hr
      refine Does.cond (fun h => Does.val ?_) (fun h => ?_)
      · have hng : ¬ GoodEd q.1 := fun hg => by rw [hr.2 hg] at h; cases h
        simp only [editR, hE, if_neg (show ¬ (q.2.size = 0 ∧ GoodEd q.1) from fun h => hng h.2)]; rfl
      · have hg : GoodEd q.1 := hr.1 (by simpa using h)
        rw [f_spec_l9BytesVal (x := (q.1, ())) (by have := hcan.2.2.2.2.1; dsimp only; omega) (by have := hcan.2.2.2.2.2.1; dsimp only; omega) hcan.1 hcan.2.1 hcan.2.2.1 hcan.2.2.2.1, bnd_some]
        have he : s = editB q.1 := by
          have := hcan.2.2.2.2.2.2 hg.2.2.1 hg.2.2.2.1.1
          rw [empty_of_size hz, append_empty] at this
          exact this
        dsimp only
        rw [← he, seq_self]
        refine Does.cond (fun h => by cases h) (fun _ => Does.val ?_)
        simp only [editR, hE, if_pos (And.intro hz hg)]
    · rw [decide_eq_false hz]
      refine Does.cond (fun _ => Does.val ?_) (fun h => by cases h)
      simp only [editR, hE, if_neg (show ¬ (q.2.size = 0 ∧ GoodEd q.1) from fun h => hz h.1)]; rfl

theorem f_impl_ReadEditVal (x : ByteArray × Unit) : f_impl_ReadEdit x = some (if x.1.size ≤ 1000 then editR x.1 else (noEdit, (false, ())), ()) := by
  obtain ⟨s, ⟨⟩⟩ := x
  dsimp only
  suffices h : Does (f_impl_ReadEdit (s, ())) fun r => r = (if s.size ≤ 1000 then editR s else (noEdit, (false, ())), ()) by
    obtain ⟨r, h1, h2⟩ := h; rw [h1, h2]
  unfold f_impl_ReadEdit
  refine Does.cond (fun h => Does.val ?_) (fun h => ?_)
  · have h := ilt_iff.1 h
    simp only [slen] at h
    rw [if_neg (by omega)]; rfl
  have h := ilt_false.1 h
  simp only [slen] at h
  have hs : s.size ≤ 1000 := by omega
  rw [if_pos hs]
  obtain ⟨r1, a1, _, b1, c1⟩ := f_impl_taker_numberTk.get (s, (false, ())) (some s) rfl
  obtain ⟨r2, a2, _, b2, c2⟩ := f_impl_taker_numberTk.get r1.2.1 _ b1
  obtain ⟨r3, a3, n3, b3, c3⟩ := f_impl_taker_numberTk.get r2.2.1 _ b2
  dsimp only
  rw [a1, bnd_some, a2, bnd_some, a3, bnd_some]
  have hm : ∀ v : Int, 0 ≤ v → imin v 31 ≤ 31 ∧ min v.toNat 31 = (imin v 31 - 0).toNat ∧ 0 + ((min v.toNat 31 : Nat) : Int) ≤ 31 := by
    intro v hv
    rw [imin_eq]
    omega
  refine f_impl_ReadEdit_l7Does (imin r3.1.1 31) _ (hm _ n3).1 _ (min r3.1.1.toNat 31) 0 (r1.1.1, (r2.1.1, ([], ([], ())))) r3.2.1 _ b3 (hm _ n3).2.1 (by omega) (hm _ n3).2.2 rfl ?_
  intro e1 p1 f1 f2 f3 f4 f5
  obtain ⟨r7, a7, n7, b7, c7⟩ := f_impl_taker_numberTk.get p1 _ f5.tk
  dsimp only
  rw [a7, bnd_some]
  have hadd : e1.2.2.2.1 = [] := by rw [f3]
  refine f_impl_ReadEdit_l11Does (imin r7.1.1 31) _ (hm _ n7).1 _ (min r7.1.1.toNat 31) 0 e1 r7.2.1 _ b7 (hm _ n7).2.1 (by omega) (hm _ n7).2.2 (by rw [hadd]; rfl) ?_
  intro e2 p2 g1 g2 g3 g4 g5
  rw [hadd] at g5
  have key := editChain s rfl rfl rfl rfl rfl c1 c2 c3 c7 f5 g5 f1 f2 g1 g2 g3
  dsimp only
  rw [f_impl_taker_wholeVal, bnd_some]
  dsimp only
  cases hE : editP s with
  | none =>
    rw [hE] at key
    have hbad : p2.2.1 = true := key
    rw [hbad]
    refine Does.val ?_
    simp only [editR, hE]; rfl
  | some q =>
    rw [hE] at key
    obtain ⟨ke, kp⟩ := key
    subst ke
    have kp : p2 = (q.2, (false, ())) := kp
    subst kp
    dsimp only
    rw [Bool.not_false, Bool.true_and, seq_empty]
    have hcan := edit_canon (e := q.1) (s' := q.2) hE hs
    by_cases hz : q.2.size = 0
    · rw [decide_eq_true hz]
      refine Does.cond (fun h => by cases h) (fun _ => ?_)
      refine Does.bnd (f_impl_goodEditDoes (x := (q.1, ())) (by have := hcan.2.2.2.2.1; dsimp only; omega) (by have := hcan.2.2.2.2.2.1; dsimp only; omega)) fun r hr => ?_
      dsimp only at hr
      refine Does.cond (fun h => Does.val ?_) (fun h => Does.val ?_)
      · have hng : ¬ GoodEd q.1 := fun hg => by rw [hr.2 hg] at h; cases h
        simp only [editR, hE, if_neg (show ¬ (q.2.size = 0 ∧ GoodEd q.1) from fun h => hng h.2)]; rfl
      · have hg : GoodEd q.1 := hr.1 (by simpa using h)
        simp only [editR, hE, if_pos (And.intro hz hg)]
    · rw [decide_eq_false hz]
      refine Does.cond (fun _ => Does.val ?_) (fun h => by cases h)
      simp only [editR, hE, if_neg (show ¬ (q.2.size = 0 ∧ GoodEd q.1) from fun h => hz h.1)]; rfl

def mkMeta (k : Int) : DMeta := (k, (k + 1, (mt (k + 2), (mt (k + 3), ()))))

def markMt : Int → Nat → List DMeta
  | _, 0 => []
  | k, n + 1 => mkMeta k :: markMt (k + 4) n

theorem f_laws_markMetaSLoop {R : Type} (kk : (Unit × Unit) → ((Int × Unit) × ((List DMeta) × Unit)) → Option R) : ∀ (B A : List DMeta) (k : Int), 0 < k → k + 4 * B.length ≤ 4611686018427387904 → A.length + B.length ≤ 4611686018427387904 →
    loopF (c := f_laws_markMetaS_l2c) (v := f_laws_markMetaS_l2v) (ex := f_laws_markMetaS_l2e) f_laws_markMetaS_l2 R ((), ()) ((k, (((A.length : Nat) : Int), ())), (A ++ B, ())) kk = kk ((), ()) ((k + 4 * B.length, ()), (A ++ markMt k B.length, ()))
  | [], A, k, h0, hk, ha => by
    rw [loopF_done (c' := ((), ())) (o := ((k, ()), (A ++ [], ()))) (by simp only [round, f_laws_markMetaS_l2, mid_end, cond_false])]
    simp [markMt]
  | y :: B, A, k, h0, hk, ha => by
    simp only [List.length_cons] at hk ha
    have e1 : iadd .i64 k (1 : Int) = k + 1 := iadd_i64 (by omega)
    have e2 : iadd .i64 (k + 1) (1 : Int) = k + 2 := by rw [iadd_i64 (by omega)]; omega
    have e3 : iadd .i64 (k + 2) (1 : Int) = k + 3 := by rw [iadd_i64 (by omega)]; omega
    have e4 : iadd .i64 (k + 3) (1 : Int) = k + 4 := by rw [iadd_i64 (by omega)]; omega
    rw [loopF_more (c' := ((), ())) (v' := ((k + 4, ((((A ++ [mkMeta k]).length : Nat) : Int), ())), ((A ++ [mkMeta k]) ++ B, ()))) (by
      simp only [round, f_laws_markMetaS_l2, mid_lt, cond_true, e1, e2, e3, e4]
      simp only [mid_getO, Int.toNat_natCast, mid_get, bnd_some, mid_set]
      rw [f_laws_markTextVal _ (by dsimp only; omega) (by dsimp only; omega), bnd_some]
      simp only [mid_getO, Int.toNat_natCast, mid_get, bnd_some, mid_set]
      rw [f_laws_markTextVal _ (by dsimp only; omega) (by dsimp only; omega), bnd_some]
      simp only [mid_getO, Int.toNat_natCast, mid_get, bnd_some, mid_set]
      rw [mid_next A (mkMeta k) (by omega), ← mid_app]
      rfl)]
    rw [f_laws_markMetaSLoop kk B (A ++ [mkMeta k]) (k + 4) (by omega) (by omega) (by simp; omega)]
    simp only [markMt, List.length_cons, List.append_assoc, List.singleton_append]
    rw [show k + 4 + 4 * (B.length : Int) = k + 4 * ((B.length + 1 : Nat) : Int) by omega]

theorem f_laws_markMetaSVal (x : List DMeta × Int × Unit) (h0 : 0 < x.2.1) (hk : x.2.1 + 4 * x.1.length ≤ 4611686018427387904) : f_laws_markMetaS x = some ((x.2.1 + 4 * x.1.length, ()), (markMt x.2.1 x.1.length, ())) := by
  unfold f_laws_markMetaS
  exact f_laws_markMetaSLoop (fun c15 o16 => (some ((o16.1.1, ()), (o16.2.1, ())))) x.1 [] x.2.1 h0 hk (by simp only [List.length_nil]; omega)

theorem f_laws_heldMetaSLoop {R : Type} (kk : (((List DMeta) × Unit) × Unit) → (((Int × Unit) × Unit) ⊕ ((Int × Unit) × Unit)) → Option R) : ∀ (n : Nat) (A : List DMeta) (k : Int), 0 < k → k + 4 * n ≤ 4611686018427387904 → A.length + n ≤ 4611686018427387904 →
    loopF (c := f_laws_heldMetaS_l2c) (v := f_laws_heldMetaS_l2v) (ex := f_laws_heldMetaS_l2e) f_laws_heldMetaS_l2 R ((A ++ markMt k n, ()), ()) ((k, (((A.length : Nat) : Int), ())), ()) kk = kk ((A ++ markMt k n, ()), ()) (.inr ((k + 4 * n, ()), ()))
  | 0, A, k, h0, hk, ha => by
    simp only [markMt]
    rw [loopF_done (c' := ((A ++ [], ()), ())) (o := Sum.inr ((k, ()), ())) (by simp only [round, f_laws_heldMetaS_l2, mid_end, cond_false])]
    simp
  | n + 1, A, k, h0, hk, ha => by
    simp only [markMt]
    have e1 : iadd .i64 k (1 : Int) = k + 1 := iadd_i64 (by omega)
    have e2 : iadd .i64 (k + 1) (1 : Int) = k + 2 := by rw [iadd_i64 (by omega)]; omega
    have e3 : iadd .i64 (k + 2) (1 : Int) = k + 3 := by rw [iadd_i64 (by omega)]; omega
    have e4 : iadd .i64 (k + 3) (1 : Int) = k + 4 := by rw [iadd_i64 (by omega)]; omega
    rw [loopF_more (c' := ((A ++ mkMeta k :: markMt (k + 4) n, ()), ())) (v' := ((k + 4, ((((A ++ [mkMeta k]).length : Nat) : Int), ())), ())) (by
      simp only [round, f_laws_heldMetaS_l2, mid_lt, cond_true, mid_getO, e1, e2, e3, e4]
      simp only [mkMeta, seq_self, Bool.not_true, cond_false, ieq_self]
      rw [f_laws_markTextVal _ (by dsimp only; omega) (by dsimp only; omega), bnd_some]
      simp only [mkMeta, seq_self, Bool.not_true, cond_false, ieq_self]
      rw [f_laws_markTextVal _ (by dsimp only; omega) (by dsimp only; omega), bnd_some]
      simp only [seq_self, Bool.not_true, cond_false]
      rw [mid_next A (mkMeta k) (by omega)]
      rfl)]
    rw [mid_app, f_laws_heldMetaSLoop kk n (A ++ [mkMeta k]) (k + 4) (by omega) (by omega) (by simp; omega)]
    rw [show k + 4 + 4 * (n : Int) = k + 4 * ((n + 1 : Nat) : Int) by omega]

theorem f_laws_heldMetaSVal (k : Int) (n : Nat) (h0 : 0 < k) (hk : k + 4 * n ≤ 4611686018427387904) : f_laws_heldMetaS (markMt k n, (k, ())) = some ((k + 4 * n, ()), ()) := by
  unfold f_laws_heldMetaS
  have := f_laws_heldMetaSLoop (fun c7 o8 => (match o8 with
 | .inl y9 => (some ((y9.1.1, ()), ()))
 | .inr z10 => (some ((z10.1.1, ()), ())))) n [] k h0 hk (by simp only [List.length_nil]; omega)
  exact this

theorem f_laws_eqMetaSame (x : DMeta × DMeta × Unit) (h : x.1 = x.2.1) : f_laws_eqMeta x = some ((true, ()), ()) := by
  obtain ⟨a, b, ⟨⟩⟩ := x
  dsimp only at h
  subst h
  unfold f_laws_eqMeta
  simp only [seq_self, ieq_self, Bool.not_true, cond_false]

theorem f_laws_eqMetaSLoop {R : Type} (l : List DMeta) (hl : l.length ≤ 4611686018427387904) (kk : (((List DMeta) × (List DMeta) × Unit) × Unit) → (((Bool × Unit) × Unit) ⊕ (Unit × Unit)) → Option R) : ∀ (B A : List DMeta), A ++ B = l →
    loopF (c := f_laws_eqMetaS_l4c) (v := f_laws_eqMetaS_l4v) (ex := f_laws_eqMetaS_l4e) f_laws_eqMetaS_l4 R ((l, (l, ())), ()) ((((A.length : Nat) : Int), ()), ()) kk = kk ((l, (l, ())), ()) (.inr ((), ()))
  | [], A, h => by
    subst h
    rw [loopF_done (c' := ((A ++ [], (A ++ [], ())), ())) (o := Sum.inr ((), ())) (by simp only [round, f_laws_eqMetaS_l4, mid_end, cond_false])]
  | y :: B, A, h => by
    have hA : A.length + 1 ≤ l.length := by rw [← h]; simp
    rw [loopF_more (c' := ((l, (l, ())), ())) (v' := (((((A ++ [y]).length : Nat) : Int), ()), ())) (by
      rw [← h]
      simp only [round, f_laws_eqMetaS_l4, mid_lt, cond_true, mid_getO]
      rw [f_laws_eqMetaSame _ rfl, bnd_some]
      simp only [Bool.not_true, cond_false]
      rw [mid_next A y (by omega)])]
    exact f_laws_eqMetaSLoop l hl kk B (A ++ [y]) (by simp [← h])

theorem f_laws_eqMetaSSame (x : List DMeta × List DMeta × Unit) (h : x.1 = x.2.1) (hl : x.1.length ≤ 4611686018427387904) : f_laws_eqMetaS x = some ((true, ()), ()) := by
  obtain ⟨a, b, ⟨⟩⟩ := x
  dsimp only at h hl
  subst h
  unfold f_laws_eqMetaS
  simp only [ieq_self, Bool.not_true, cond_false]
  exact f_laws_eqMetaSLoop a hl (fun c4 o5 => (match o5 with
 | .inl y6 => (some ((y6.1.1, ()), ()))
 | .inr z7 => (some ((true, ()), ())))) a [] rfl

def takeFr (s : ByteArray) : Option (ByteArray × Nat) :=
  if (takeVar s).2 = 0 then none else if 1000 < (takeVar s).1 then none else if s.size < (takeVar s).2 + 4 + (takeVar s).1 then none else
  if strOf (lows 4 (sumOf (s.extract ((takeVar s).2 + 4) ((takeVar s).2 + 4 + (takeVar s).1)))) = s.extract (takeVar s).2 ((takeVar s).2 + 4) then
    some (s.extract ((takeVar s).2 + 4) ((takeVar s).2 + 4 + (takeVar s).1), (takeVar s).2 + 4 + (takeVar s).1) else none

def frR (q : Option (ByteArray × Nat)) : (ByteArray × Int × Bool × Unit) × Unit := match q with
  | none => ((⟨#[]⟩, ((0 : Int), (false, ()))), ())
  | some q => ((q.1, ((q.2 : Int), (true, ()))), ())

theorem takeFr_size {s : ByteArray} {q : ByteArray × Nat} (h : takeFr s = some q) : q.1.size ≤ 1000 ∧ q.2 ≤ s.size := by
  simp only [takeFr] at h
  split at h
  · cases h
  split at h
  · cases h
  split at h
  · cases h
  split at h
  · injection h with h; subst h
    simp only [ByteArray.size_extract]; omega
  · cases h

theorem f_impl_TakeFrameVal (x : ByteArray × Unit) (hs : x.1.size ≤ 1048576) : f_impl_TakeFrame x = some (frR (takeFr x.1)) := by
  obtain ⟨s, ⟨⟩⟩ := x
  dsimp only at hs
  unfold f_impl_TakeFrame takeFr
  rw [val_f_impl_TakeVar, bnd_some]
  dsimp only
  by_cases h1 : (takeVar s).2 = 0
  · rw [if_pos h1, show ieq ((takeVar s).2 : Int) (0 : Int) = true from ieq_iff.2 (by omega), cond_true]; rfl
  rw [if_neg h1, show ieq ((takeVar s).2 : Int) (0 : Int) = false from ieq_false.2 (by omega), cond_false]
  by_cases h2 : 1000 < (takeVar s).1
  · rw [if_pos h2, show ilt (1000 : Int) ((takeVar s).1 : Int) = true from ilt_iff.2 (by omega), cond_true]; rfl
  have hv := takeVar_ok s
  rw [if_neg h2, show ilt (1000 : Int) ((takeVar s).1 : Int) = false from ilt_false.2 (by omega), cond_false]
  rw [show iadd .i64 ((takeVar s).2 : Int) (4 : Int) = (((takeVar s).2 + 4 : Nat) : Int) from iaddN (b := 4) (by omega), iaddN (by omega)]
  by_cases h3 : s.size < (takeVar s).2 + 4 + (takeVar s).1
  · rw [if_pos h3, show ilt (slen s) (((takeVar s).2 + 4 + (takeVar s).1 : Nat) : Int) = true from ilt_iff.2 (by simp only [slen]; omega), cond_true]; rfl
  rw [if_neg h3, show ilt (slen s) (((takeVar s).2 + 4 + (takeVar s).1 : Nat) : Int) = false from ilt_false.2 (by simp only [slen]; omega), cond_false]
  rw [bounds3 (by omega) (by omega), req_true, f_impl_SumOfVal _ (by simp only [ByteArray.size_extract]; omega), bnd_some]
  dsimp only
  rw [f_impl_lowFirstVal _ 4 (by omega) rfl, bnd_some]
  dsimp only
  rw [bounds3 (by omega) (by omega), req_true]
  simp only [Int.toNat_natCast]
  by_cases h4 : strOf (lows 4 (sumOf (s.extract ((takeVar s).2 + 4) ((takeVar s).2 + 4 + (takeVar s).1)))) = s.extract (takeVar s).2 ((takeVar s).2 + 4)
  · rw [if_pos h4, (seq_iff _ _).2 h4]; rfl
  · rw [if_neg h4, seq_false.2 h4]; rfl

theorem f_spec_l2TakeFrameVal (x : ByteArray × Unit) (hs : x.1.size ≤ 1048576) : f_spec_l2TakeFrame x = some (frR (takeFr x.1)) := by
  obtain ⟨s, ⟨⟩⟩ := x
  dsimp only at hs
  unfold f_spec_l2TakeFrame takeFr
  rw [val_f_spec_l2Take, bnd_some]
  dsimp only
  by_cases h1 : (takeVar s).2 = 0
  · rw [if_pos h1, show ieq ((takeVar s).2 : Int) (0 : Int) = true from ieq_iff.2 (by omega), cond_true]; rfl
  rw [if_neg h1, show ieq ((takeVar s).2 : Int) (0 : Int) = false from ieq_false.2 (by omega), cond_false]
  by_cases h2 : 1000 < (takeVar s).1
  · rw [if_pos h2, show ilt (1000 : Int) ((takeVar s).1 : Int) = true from ilt_iff.2 (by omega), cond_true]; rfl
  have hv := takeVar_ok s
  rw [if_neg h2, show ilt (1000 : Int) ((takeVar s).1 : Int) = false from ilt_false.2 (by omega), cond_false]
  rw [show iadd .i64 ((takeVar s).2 : Int) (4 : Int) = (((takeVar s).2 + 4 : Nat) : Int) from iaddN (b := 4) (by omega), iaddN (by omega)]
  by_cases h3 : s.size < (takeVar s).2 + 4 + (takeVar s).1
  · rw [if_pos h3, show ilt (slen s) (((takeVar s).2 + 4 + (takeVar s).1 : Nat) : Int) = true from ilt_iff.2 (by simp only [slen]; omega), cond_true]; rfl
  rw [if_neg h3, show ilt (slen s) (((takeVar s).2 + 4 + (takeVar s).1 : Nat) : Int) = false from ilt_false.2 (by simp only [slen]; omega), cond_false]
  rw [bounds3 (by omega) (by omega), req_true, f_spec_l2SumVal _ (by simp only [ByteArray.size_extract]; omega), bnd_some]
  dsimp only
  rw [f_spec_l2WordVal, bnd_some]
  dsimp only
  rw [bounds3 (by omega) (by omega), req_true]
  simp only [Int.toNat_natCast]
  by_cases h4 : strOf (lows 4 (sumOf (s.extract ((takeVar s).2 + 4) ((takeVar s).2 + 4 + (takeVar s).1)))) = s.extract (takeVar s).2 ((takeVar s).2 + 4)
  · rw [if_pos h4, (seq_iff _ _).2 h4]; rfl
  · rw [if_neg h4, seq_false.2 h4]; rfl

def q1 (s : ByteArray) : Dtaker := textS (numS (s, (false, ()))) (numK (s, (false, ())))

def q2 (s : ByteArray) : Dtaker := numS (q1 s)

def q3 (s : ByteArray) : Dtaker := numS (q2 s)

def q4 (s : ByteArray) : Dtaker := numS (q3 s)

end Go.Proofs.Ytbekojfgnbnpcaa
