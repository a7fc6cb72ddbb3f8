/- Numbers, texts, frames, edits and versions, on both sides; a cursor's draws. -/
import Derived.Test.YtbekojfgnbnpcaaR9Fns
import Derived.Test.YtbekojfgnbnpcaaUMid
set_option linter.all false
noncomputable section
namespace Go.Proofs.Ytbekojfgnbnpcaa
open Go Go.Proofs.Ytbekojfgnbnpcaa.Ev

/-- the number at the head of a text, and how many bytes it takes -/
def takeGo (s : ByteArray) : Nat → Nat → Nat → Nat × Nat
  | 0, _, _ => (0, 0)
  | f + 1, k, n => match s[k]? with
    | none => (0, 0)
    | some b => if b.toNat < 128 then (if 0 < k ∧ b.toNat = 0 then (0, 0) else (n ||| (b.toNat % 128 * 2 ^ (7 * k)), k + 1)) else takeGo s f (k + 1) (n ||| (b.toNat % 128 * 2 ^ (7 * k)))

def takeVar (s : ByteArray) : Nat × Nat := takeGo s 9 0 0

theorem getElem?_size {s : ByteArray} {k : Nat} {b : UInt8} (h : s[k]? = some b) : k < s.size := by
  rcases Nat.lt_or_ge k s.size with h1 | h1
  · exact h1
  · rw [getElem?_neg s k (by omega)] at h; cases h

theorem getElem?_none {s : ByteArray} {k : Nat} (h : s[k]? = none) : s.size ≤ k := by
  rcases Nat.lt_or_ge k s.size with h1 | h1
  · rw [getElem?_pos s k h1] at h; cases h
  · exact h1

theorem step_lt {n k b : Nat} (hk : k ≤ 8) (hn : n < 2 ^ (7 * k)) : b % 128 * 2 ^ (7 * k) < 9223372036854775808 ∧ n < 9223372036854775808 ∧ n ||| (b % 128 * 2 ^ (7 * k)) < 2 ^ (7 * (k + 1)) := by
  have h1 : b % 128 * 2 ^ (7 * k) < 2 ^ (7 * (k + 1)) := by
    rw [show 7 * (k + 1) = 7 + 7 * k by omega, Nat.pow_add]
    exact Nat.mul_lt_mul_of_pos_right (by omega) (Nat.two_pow_pos _)
  have h2 : n < 2 ^ (7 * (k + 1)) := Nat.lt_of_lt_of_le hn (Nat.pow_le_pow_right (by omega) (by omega))
  have h3 : 2 ^ (7 * (k + 1)) ≤ 2 ^ 63 := Nat.pow_le_pow_right (by omega) (by omega)
  exact ⟨by omega, by omega, Nat.or_lt_two_pow h2 h1⟩

theorem byte_lt (b : UInt8) : b.toNat < 256 := b.toNat_lt

theorem takeGo_ok (s : ByteArray) : ∀ (f k n : Nat), f + k = 9 → n < 2 ^ (7 * k) → (takeGo s f k n).1 < 9223372036854775808 ∧ (takeGo s f k n).2 ≤ s.size
  | 0, _, _, _, _ => by simp [takeGo]
  | f + 1, k, n, hf, hn => by
    simp only [takeGo]
    cases hb : s[k]? with
    | none => simp
    | some b =>
      obtain ⟨h1, h2, h3⟩ := step_lt (b := b.toNat) (by omega) hn
      simp only
      split
      · split
        · simp
        · have := getElem?_size hb
          have h4 : 2 ^ (7 * (k + 1)) ≤ 2 ^ 63 := Nat.pow_le_pow_right (by omega) (by omega)
          exact ⟨by simp only; omega, by simp only; omega⟩
      · exact takeGo_ok s f (k + 1) _ (by omega) h3

theorem takeVar_ok (s : ByteArray) : (takeVar s).1 < 9223372036854775808 ∧ (takeVar s).2 ≤ s.size := takeGo_ok s 9 0 0 rfl (by decide)

theorem loop_f_impl_TakeVar (s : ByteArray) {R : Type} (kk : ((ByteArray × Unit) × Unit) → (((Int × Int × Unit) × Unit) ⊕ (Unit × Unit)) → Option R) (g : Nat → Nat → Option R)
    (h1 : ∀ c (n u : Nat), kk c (.inl (((n : Int), ((u : Int), ())), ())) = g n u) (h2 : ∀ c, kk c (.inr ((), ())) = g 0 0) :
    ∀ (f k n : Nat), f + k = 9 → n < 2 ^ (7 * k) → loopF (c := f_impl_TakeVar_l3c) (v := f_impl_TakeVar_l3v) (ex := f_impl_TakeVar_l3e) f_impl_TakeVar_l3 R ((s, ()), ()) (((n : Int), ((k : Int), ())), ()) kk = g (takeGo s f k n).1 (takeGo s f k n).2
  | 0, k, n, hf, hn => by
    have hk : k = 9 := by omega
    subst hk
    have hc : ilt ((9 : Nat) : Int) (imin (slen s) (9 : Int)) = false := ilt_false.2 (by rw [imin_eq]; simp only [slen]; omega)
    rw [loopF_done (c' := ((s, ()), ())) (o := Sum.inr ((), ())) (by simp only [round, f_impl_TakeVar_l3]; rw [hc]; rfl), h2]
    rfl
  | f + 1, k, n, hf, hn => by
    simp only [takeGo]
    cases hb : s[k]? with
    | none =>
      have := getElem?_none hb
      have hc : ilt (k : Int) (imin (slen s) (9 : Int)) = false := ilt_false.2 (by rw [imin_eq]; simp only [slen]; omega)
      rw [loopF_done (c' := ((s, ()), ())) (o := Sum.inr ((), ())) (by simp only [round, f_impl_TakeVar_l3]; rw [hc]; rfl), h2]
    | some b =>
      have hs := getElem?_size hb
      have hB := byte_lt b
      obtain ⟨e1, e2, e3⟩ := step_lt (b := b.toNat) (show k ≤ 8 by omega) hn
      have hc : ilt (k : Int) (imin (slen s) (9 : Int)) = true := ilt_iff.2 (by rw [imin_eq]; simp only [slen]; omega)
      have hm : imul .i64 (7 : Int) (k : Int) = ((7 * k : Nat) : Int) := by rw [imul_i64 (by omega)]; simp
      have hr : ile (0 : Int) ((7 * k : Nat) : Int) = true := by simp [ile]; omega
      have hw : IntKind.wrap .i64 (b.toNat : Int) = (b.toNat : Int) := wrap_i64 _ (by omega)
      have hrem : irem .i64 (b.toNat : Int) (128 : Int) = ((b.toNat % 128 : Nat) : Int) := by simp [irem, Int.tmod]
      have hsh : ishl .i64 ((b.toNat % 128 : Nat) : Int) ((7 * k : Nat) : Int) = ((b.toNat % 128 * 2 ^ (7 * k) : Nat) : Int) := ishl_nat _ _ (by omega) e1
      have hor : ior .i64 (n : Int) ((b.toNat % 128 * 2 ^ (7 * k) : Nat) : Int) = ((n ||| (b.toNat % 128 * 2 ^ (7 * k)) : Nat) : Int) := ior_nat _ _ e2 e1
      have had : iadd .i64 (k : Int) (1 : Int) = ((k + 1 : Nat) : Int) := by rw [iadd_i64 (by omega)]; simp
      have hstep : ∀ (S : Type) (K : ((ByteArray × Unit) × Unit) → (((Int × Int × Unit) × Unit) ⊕ (((Int × Int × Unit) × Unit) ⊕ (Unit × Unit))) → Option S), f_impl_TakeVar_l3 S ((s, ()), ()) (((n : Int), ((k : Int), ())), ()) K =
          if b.toNat < 128 then (if 0 < k ∧ b.toNat = 0 then K ((s, ()), ()) (.inr (.inl (((0 : Int), ((0 : Int), ())), ()))) else K ((s, ()), ()) (.inr (.inl ((((n ||| (b.toNat % 128 * 2 ^ (7 * k)) : Nat) : Int), (((k + 1 : Nat) : Int), ())), ()))))
          else K ((s, ()), ()) (.inl ((((n ||| (b.toNat % 128 * 2 ^ (7 * k)) : Nat) : Int), (((k + 1 : Nat) : Int), ())), ())) := by
        intro S K
        simp only [f_impl_TakeVar_l3, hc, cond_true]
        rw [getB_at (by omega) (by simpa using hb)]
        simp only [hm, hr, req, cond_true, hw, hrem, hsh, hor, had]
        by_cases hlt : b.toNat < 128
        · simp only [hlt, if_true, show ilt (b.toNat : Int) (128 : Int) = true by simp [ilt]; omega, cond_true]
          by_cases hk0 : 0 < k
          · simp only [show ilt (0 : Int) (k : Int) = true by simp [ilt]; omega, cond_true]
            by_cases hz : b.toNat = 0
            · simp only [hk0, hz, and_self, if_true]; rfl
            · simp only [hz, and_false, if_false, show ieq (b.toNat : Int) (0 : Int) = false by simp [ieq, hz], cond_false]
          · simp only [hk0, false_and, if_false, show ilt (0 : Int) (k : Int) = false by simp [ilt]; omega, cond_false]
        · simp only [hlt, if_false, show ilt (b.toNat : Int) (128 : Int) = false by simp [ilt]; omega, cond_false]
      simp only
      by_cases hlt : b.toNat < 128
      · simp only [hlt, if_true]
        by_cases hz : 0 < k ∧ b.toNat = 0
        · simp only [hz, and_self, if_true]
          rw [loopF_done (c' := ((s, ()), ())) (o := Sum.inl (((0 : Int), ((0 : Int), ())), ())) (by rw [round, hstep, if_pos hlt, if_pos hz])]
          exact h1 _ 0 0
        · simp only [hz, if_false]
          rw [loopF_done (c' := ((s, ()), ())) (o := Sum.inl ((((n ||| (b.toNat % 128 * 2 ^ (7 * k)) : Nat) : Int), (((k + 1 : Nat) : Int), ())), ())) (by rw [round, hstep, if_pos hlt, if_neg hz])]
          exact h1 _ _ _
      · simp only [hlt, if_false]
        rw [loopF_more (c' := ((s, ()), ())) (v' := ((((n ||| (b.toNat % 128 * 2 ^ (7 * k)) : Nat) : Int), (((k + 1 : Nat) : Int), ())), ())) (by rw [round, hstep, if_neg hlt])]
        exact loop_f_impl_TakeVar s kk g h1 h2 f (k + 1) _ (by omega) e3

theorem val_f_impl_TakeVar (x : ByteArray × Unit) : f_impl_TakeVar x = some ((((takeVar x.1).1 : Int), (((takeVar x.1).2 : Int), ())), ()) :=
  loop_f_impl_TakeVar x.1 _ (fun n u => some (((n : Int), ((u : Int), ())), ())) (fun _ _ _ => rfl) (fun _ => rfl) 9 0 0 rfl (by decide)

theorem loop_f_spec_l2Take (s : ByteArray) {R : Type} (kk : ((ByteArray × Unit) × Unit) → (((Int × Int × Unit) × Unit) ⊕ (Unit × Unit)) → Option R) (g : Nat → Nat → Option R)
    (h1 : ∀ c (n u : Nat), kk c (.inl (((n : Int), ((u : Int), ())), ())) = g n u) (h2 : ∀ c, kk c (.inr ((), ())) = g 0 0) :
    ∀ (f k n : Nat), f + k = 9 → n < 2 ^ (7 * k) → loopF (c := f_spec_l2Take_l3c) (v := f_spec_l2Take_l3v) (ex := f_spec_l2Take_l3e) f_spec_l2Take_l3 R ((s, ()), ()) (((n : Int), ((k : Int), ())), ()) kk = g (takeGo s f k n).1 (takeGo s f k n).2
  | 0, k, n, hf, hn => by
    have hk : k = 9 := by omega
    subst hk
    rw [loopF_done (c' := ((s, ()), ())) (o := Sum.inr ((), ())) (by simp only [round, f_spec_l2Take_l3]; rfl), h2]
    rfl
  | f + 1, k, n, hf, hn => by
    simp only [takeGo]
    have hc1 : ilt (k : Int) (9 : Int) = true := by simp [ilt]; omega
    cases hb : s[k]? with
    | none =>
      have := getElem?_none hb
      have hc : ilt (k : Int) (slen s) = false := by simp [ilt, slen]; omega
      rw [loopF_done (c' := ((s, ()), ())) (o := Sum.inr ((), ())) (by simp only [round, f_spec_l2Take_l3]; rw [hc1, hc]; rfl), h2]
    | some b =>
      have hs := getElem?_size hb
      have hB := byte_lt b
      obtain ⟨e1, e2, e3⟩ := step_lt (b := b.toNat) (show k ≤ 8 by omega) hn
      have hc : ilt (k : Int) (slen s) = true := by simp [ilt, slen]; omega
      have hm : IntKind.wrap .u64 (imul .i64 (7 : Int) (k : Int)) = ((7 * k : Nat) : Int) := by rw [imul_i64 (by omega), wrap_u64]; omega
      have hr : ile (0 : Int) ((7 * k : Nat) : Int) = true := by simp [ile]; omega
      have hrem : IntKind.wrap .i64 (iand .u8 (b.toNat : Int) (127 : Int)) = ((b.toNat % 128 : Nat) : Int) := by
        have h := iand_u8 b.toNat 127 hB (by omega)
        rw [show ((127 : Nat) : Int) = (127 : Int) from rfl] at h
        rw [h, Nat.and_two_pow_sub_one_eq_mod b.toNat 7]
        exact wrap_i64 _ (by omega)
      have hsh : ishl .i64 ((b.toNat % 128 : Nat) : Int) ((7 * k : Nat) : Int) = ((b.toNat % 128 * 2 ^ (7 * k) : Nat) : Int) := ishl_nat _ _ (by omega) e1
      have hor : ior .i64 (n : Int) ((b.toNat % 128 * 2 ^ (7 * k) : Nat) : Int) = ((n ||| (b.toNat % 128 * 2 ^ (7 * k)) : Nat) : Int) := ior_nat _ _ e2 e1
      have had : iadd .i64 (k : Int) (1 : Int) = ((k + 1 : Nat) : Int) := by rw [iadd_i64 (by omega)]; simp
      have hstep : ∀ (S : Type) (K : ((ByteArray × Unit) × Unit) → (((Int × Int × Unit) × Unit) ⊕ (((Int × Int × Unit) × Unit) ⊕ (Unit × Unit))) → Option S), f_spec_l2Take_l3 S ((s, ()), ()) (((n : Int), ((k : Int), ())), ()) K =
          if b.toNat < 128 then (if 0 < k ∧ b.toNat = 0 then K ((s, ()), ()) (.inr (.inl (((0 : Int), ((0 : Int), ())), ()))) else K ((s, ()), ()) (.inr (.inl ((((n ||| (b.toNat % 128 * 2 ^ (7 * k)) : Nat) : Int), (((k + 1 : Nat) : Int), ())), ()))))
          else K ((s, ()), ()) (.inl ((((n ||| (b.toNat % 128 * 2 ^ (7 * k)) : Nat) : Int), (((k + 1 : Nat) : Int), ())), ())) := by
        intro S K
        simp only [f_spec_l2Take_l3, hc1, hc, cond_true]
        rw [getB_at (by omega) (by simpa using hb)]
        simp only [hm, hr, req, cond_true]
        rw [getB_at (by omega) (by simpa using hb)]
        simp only [hrem, hsh, hor, had]
        by_cases hlt : b.toNat < 128
        · simp only [hlt, if_true, show ilt (b.toNat : Int) (128 : Int) = true by simp [ilt]; omega, cond_true]
          by_cases hk0 : 0 < k
          · simp only [show ilt (0 : Int) (k : Int) = true by simp [ilt]; omega, cond_true]
            rw [getB_at (by omega) (by simpa using hb)]
            by_cases hz : b.toNat = 0
            · simp only [hk0, hz, and_self, if_true]; rfl
            · simp only [hz, and_false, if_false, show ieq (b.toNat : Int) (0 : Int) = false by simp [ieq, hz], cond_false]
          · simp only [hk0, false_and, if_false, show ilt (0 : Int) (k : Int) = false by simp [ilt]; omega, cond_false]
        · simp only [hlt, if_false, show ilt (b.toNat : Int) (128 : Int) = false by simp [ilt]; omega, cond_false]
      simp only
      by_cases hlt : b.toNat < 128
      · simp only [hlt, if_true]
        by_cases hz : 0 < k ∧ b.toNat = 0
        · simp only [hz, and_self, if_true]
          rw [loopF_done (c' := ((s, ()), ())) (o := Sum.inl (((0 : Int), ((0 : Int), ())), ())) (by rw [round, hstep, if_pos hlt, if_pos hz])]
          exact h1 _ 0 0
        · simp only [hz, if_false]
          rw [loopF_done (c' := ((s, ()), ())) (o := Sum.inl ((((n ||| (b.toNat % 128 * 2 ^ (7 * k)) : Nat) : Int), (((k + 1 : Nat) : Int), ())), ())) (by rw [round, hstep, if_pos hlt, if_neg hz])]
          exact h1 _ _ _
      · simp only [hlt, if_false]
        rw [loopF_more (c' := ((s, ()), ())) (v' := ((((n ||| (b.toNat % 128 * 2 ^ (7 * k)) : Nat) : Int), (((k + 1 : Nat) : Int), ())), ())) (by rw [round, hstep, if_neg hlt])]
        exact loop_f_spec_l2Take s kk g h1 h2 f (k + 1) _ (by omega) e3

theorem val_f_spec_l2Take (x : ByteArray × Unit) : f_spec_l2Take x = some ((((takeVar x.1).1 : Int), (((takeVar x.1).2 : Int), ())), ()) :=
  loop_f_spec_l2Take x.1 _ (fun n u => some (((n : Int), ((u : Int), ())), ())) (fun _ _ _ => rfl) (fun _ => rfl) 9 0 0 rfl (by decide)

theorem ft {p : Prop} (h : false = true) : p := by cases h

def inR (n lo hi : Int) : Bool := cond (ile lo n) (ile n hi) false

theorem val_f_impl_in (x : Int × Int × Int × Unit) : f_impl_in x = some ((inR x.1 x.2.1 x.2.2.1, ()), ()) := by
  simp only [f_impl_in, inR]
  cases ile x.2.1 x.1 <;> rfl

theorem val_f_spec_l1In (x : Int × Int × Int × Unit) : f_spec_l1In x = some ((inR x.1 x.2.1 x.2.2.1, ()), ()) := by
  simp only [f_spec_l1In, inR]
  cases ile x.2.1 x.1 <;> rfl

theorem bounds_ok {u n : Nat} (h : u ≤ n) : (decide ((0 : Int) ≤ (u : Int)) && decide ((u : Int) ≤ ((n : Nat) : Int))) = true := by
  simp; omega

theorem text_impl (x : Dtaker × Int × Unit) (p : Dtaker) (n : Nat) (hp : x.1 = p) (hn : x.2.1 = (n : Int)) : f_impl_taker_text x = some (if p.2.1 = true ∨ p.1.size < n then (((⟨#[]⟩ : ByteArray), ()), ((p.1, (true, p.2.2)), ())) else ((p.1.extract 0 n, ()), ((p.1.extract n p.1.size, (false, p.2.2)), ()))) := by
  obtain ⟨s, b, ⟨⟩⟩ := p
  simp only [f_impl_taker_text, hp, hn]
  cases b with
  | true => rfl
  | false =>
    simp only [cond_false]
    by_cases hn : s.size < n
    · rw [ilt_iff.2 (show slen s < (n : Int) by simp only [slen]; omega)]
      simp [hn]
    · rw [ilt_false.2 (show (n : Int) ≤ slen s by simp only [slen]; omega), bounds_ok (by omega)]
      simp [hn, req]

/-- eight steps, one after the other -/
def crcStep (m : Int) : Int := cond (ieq (iand .u32 m (1 : Int)) (1 : Int)) (ixor .u32 (ishr .u32 m (1 : Int)) (2197175160 : Int)) (ishr .u32 m (1 : Int))

def crcIter : Nat → Int → Int
  | 0, m => m
  | k + 1, m => crcIter k (crcStep m)

theorem f_impl_SumTable_i10Val {R : Type} (c : ((Int × Int × Bool × Unit) × ((List Int) × Unit))) (v : ((Int × Unit) × Unit)) (kk : ((Int × Int × Bool × Unit) × ((List Int) × Unit)) → ((Int × Unit) × Unit) → Option R) :
    f_impl_SumTable_i10 R c v kk = kk c ((cond c.1.2.2.1 (ixor .u32 v.1.1 (2197175160 : Int)) v.1.1, ()), ()) := by
  obtain ⟨⟨a, b, t, ⟨⟩⟩, l, ⟨⟩⟩ := c
  cases t <;> rfl

theorem f_impl_SumTable_l6Val {R : Type} (n : Int) (l : List Int) (kk : (Unit × Unit) → ((Int × Int × Unit) × ((List Int) × Unit)) → Option R) :
    ∀ (f k : Nat) (m : Int), f + k = 8 → loopF (c := f_impl_SumTable_l6c) (v := f_impl_SumTable_l6v) (ex := f_impl_SumTable_l6e) f_impl_SumTable_l6 R ((), ()) ((m, (n, ((k : Int), ()))), (l, ())) kk = kk ((), ()) ((crcIter f m, (n, ())), (l, ()))
  | 0, k, m, hf => by
    have hk : k = 8 := by omega
    subst hk
    rw [loopF_done (c' := ((), ())) (o := ((m, (n, ())), (l, ()))) (by simp only [round, f_impl_SumTable_l6]; rfl)]
    try rfl
  | f + 1, k, m, hf => by
    have h1 : ilt (k : Int) (8 : Int) = true := ilt_iff.2 (by omega)
    have h2 : iadd .i64 (k : Int) (1 : Int) = ((k + 1 : Nat) : Int) := by rw [iadd_i64 (by omega)]; simp
    rw [loopF_more (c' := ((), ())) (v' := ((crcStep m, (n, (((k + 1 : Nat) : Int), ()))), (l, ()))) (by
      simp only [round, f_impl_SumTable_l6, h1, cond_true, f_impl_SumTable_i10Val, h2]; rfl)]
    exact f_impl_SumTable_l6Val n l kk f (k + 1) _ (by omega)

theorem f_impl_SumTable_l6Val0 {R : Type} (n m : Int) (l : List Int) (kk : (Unit × Unit) → ((Int × Int × Unit) × ((List Int) × Unit)) → Option R) :
    loopF (c := f_impl_SumTable_l6c) (v := f_impl_SumTable_l6v) (ex := f_impl_SumTable_l6e) f_impl_SumTable_l6 R ((), ()) ((m, (n, ((0 : Int), ()))), (l, ())) kk = kk ((), ()) ((crcIter 8 m, (n, ())), (l, ())) := f_impl_SumTable_l6Val n l kk 8 0 m rfl

theorem f_spec_l2Table_i12Val {R : Type} (c : ((Int × Int × Int × Int × Bool × Unit) × ((List Int) × Unit))) (v : ((Int × Unit) × Unit)) (kk : ((Int × Int × Int × Int × Bool × Unit) × ((List Int) × Unit)) → ((Int × Unit) × Unit) → Option R) :
    f_spec_l2Table_i12 R c v kk = kk c ((cond c.1.2.2.2.2.1 (ixor .u32 v.1.1 (2197175160 : Int)) v.1.1, ()), ()) := by
  obtain ⟨⟨a, b, d, e, t, ⟨⟩⟩, l, ⟨⟩⟩ := c
  cases t <;> rfl

theorem f_spec_l2Table_l7Val {R : Type} (i x y : Int) (l : List Int) (kk : (Unit × Unit) → ((Int × Int × Int × Int × Unit) × ((List Int) × Unit)) → Option R) :
    ∀ (f k : Nat) (m : Int), f + k = 8 → loopF (c := f_spec_l2Table_l7c) (v := f_spec_l2Table_l7v) (ex := f_spec_l2Table_l7e) f_spec_l2Table_l7 R ((), ()) ((i, (m, ((k : Int), (x, (y, ()))))), (l, ())) kk = kk ((), ()) ((i, (crcIter f m, (x, (y, ())))), (l, ()))
  | 0, k, m, hf => by
    have hk : k = 8 := by omega
    subst hk
    rw [loopF_done (c' := ((), ())) (o := ((i, (m, (x, (y, ())))), (l, ()))) (by simp only [round, f_spec_l2Table_l7]; rfl)]
    try rfl
  | f + 1, k, m, hf => by
    have h1 : ilt (k : Int) (8 : Int) = true := ilt_iff.2 (by omega)
    have h2 : iadd .i64 (k : Int) (1 : Int) = ((k + 1 : Nat) : Int) := by rw [iadd_i64 (by omega)]; simp
    rw [loopF_more (c' := ((), ())) (v' := ((i, (crcStep m, (((k + 1 : Nat) : Int), (x, (y, ()))))), (l, ()))) (by
      simp only [round, f_spec_l2Table_l7, h1, cond_true, f_spec_l2Table_i12Val, h2]; rfl)]
    exact f_spec_l2Table_l7Val i x y l kk f (k + 1) _ (by omega)

theorem f_spec_l2Table_l7Val0 {R : Type} (i x y m : Int) (l : List Int) (kk : (Unit × Unit) → ((Int × Int × Int × Int × Unit) × ((List Int) × Unit)) → Option R) :
    loopF (c := f_spec_l2Table_l7c) (v := f_spec_l2Table_l7v) (ex := f_spec_l2Table_l7e) f_spec_l2Table_l7 R ((), ()) ((i, (m, ((0 : Int), (x, (y, ()))))), (l, ())) kk = kk ((), ()) ((i, (crcIter 8 m, (x, (y, ())))), (l, ())) := f_spec_l2Table_l7Val i x y l kk 8 0 m rfl

def crcTable (n : Nat) : List Int := (List.range n).map fun (k : Nat) => crcIter 8 (k : Int)

theorem crcTable_length (n : Nat) : (crcTable n).length = n := by simp [crcTable]

theorem crcTable_succ (n : Nat) : crcTable (n + 1) = crcTable n ++ [crcIter 8 (n : Int)] := by simp [crcTable, List.range_succ]

theorem f_impl_SumTable_l3Val {R : Type} (kk : (Unit × Unit) → (Unit × ((List Int) × Unit)) → Option R) :
    ∀ (f n : Nat), f + n = 256 → loopF (c := f_impl_SumTable_l3c) (v := f_impl_SumTable_l3v) (ex := f_impl_SumTable_l3e) f_impl_SumTable_l3 R ((), ()) (((n : Int), ()), (crcTable n, ())) kk = kk ((), ()) ((), (crcTable 256, ()))
  | 0, n, hf => by
    have hk : n = 256 := by omega
    subst hk
    rw [loopF_done (c' := ((), ())) (o := ((), (crcTable 256, ()))) (by simp only [round, f_impl_SumTable_l3]; rfl)]
    try rfl
  | f + 1, n, hf => by
    have h1 : ilt (n : Int) (256 : Int) = true := ilt_iff.2 (by omega)
    have h2 : iadd .u32 (n : Int) (1 : Int) = ((n + 1 : Nat) : Int) := by simp only [iadd, wrap_u32]; omega
    have h3 : decide (List.length (crcTable n) + List.length [crcIter 8 (n : Int)] ≤ 17179869184) = true := decide_eq_true (by rw [crcTable_length]; simp; omega)
    rw [loopF_more (c' := ((), ())) (v' := ((((n + 1 : Nat) : Int), ()), (crcTable (n + 1), ()))) (by
      simp only [round, f_impl_SumTable_l3, h1, cond_true]
      rw [f_impl_SumTable_l6Val0]
      dsimp only
      rw [h3, req_true, h2, crcTable_succ])]
    exact f_impl_SumTable_l3Val kk f (n + 1) (by omega)

theorem f_impl_SumTableVal : f_impl_SumTable () = some ((crcTable 256, ()), ()) := by
  have := f_impl_SumTable_l3Val (fun _ o4 => some ((o4.2.1, ()), ())) 256 0 rfl
  exact this

theorem f_spec_l2Table_l3Val {R : Type} (kk : (Unit × Unit) → (Unit × ((List Int) × Unit)) → Option R) :
    ∀ (f n : Nat), f + n = 256 → loopF (c := f_spec_l2Table_l3c) (v := f_spec_l2Table_l3v) (ex := f_spec_l2Table_l3e) f_spec_l2Table_l3 R ((), ()) (((256 : Int), ((n : Int), ())), (crcTable n ++ List.replicate f (0 : Int), ())) kk = kk ((), ()) ((), (crcTable 256, ()))
  | 0, n, hf => by
    have hk : n = 256 := by omega
    subst hk
    rw [List.replicate_zero, List.append_nil]
    rw [loopF_done (c' := ((), ())) (o := ((), (crcTable 256, ()))) (by simp only [round, f_spec_l2Table_l3]; rfl)]
    try rfl
  | f + 1, n, hf => by
    have h1 : ilt (n : Int) (256 : Int) = true := ilt_iff.2 (by omega)
    have h2 : iadd .i64 (n : Int) (1 : Int) = ((n + 1 : Nat) : Int) := by rw [iadd_i64 (by omega)]; simp
    have h3 : IntKind.wrap .u32 (n : Int) = (n : Int) := by rw [wrap_u32]; omega
    have h4 : (crcTable n ++ List.replicate (f + 1) (0 : Int))[n]? = some 0 := by
      rw [List.getElem?_append_right (by rw [crcTable_length]; omega), crcTable_length]
      simp
    have h5 : List.set (crcTable n ++ List.replicate (f + 1) (0 : Int)) n (crcIter 8 (n : Int)) = crcTable (n + 1) ++ List.replicate f (0 : Int) := by
      rw [List.set_append_right _ _ (by rw [crcTable_length]; omega), crcTable_length, crcTable_succ, List.append_assoc]
      simp [List.replicate_succ]
    rw [loopF_more (c' := ((), ())) (v' := (((256 : Int), (((n + 1 : Nat) : Int), ())), (crcTable (n + 1) ++ List.replicate f (0 : Int), ()))) (by
      simp only [round, f_spec_l2Table_l3, h1, cond_true, h3]
      rw [f_spec_l2Table_l7Val0]
      dsimp only
      rw [getO_at (by omega) (by rw [Int.toNat_natCast]; exact h4), Int.toNat_natCast, h4]
      simp only [bnd_some, h2]
      rw [h5])]
    exact f_spec_l2Table_l3Val kk f (n + 1) (by omega)

theorem f_spec_l2TableVal : f_spec_l2Table () = some ((crcTable 256, ()), ()) := by
  have := f_spec_l2Table_l3Val (fun _ o4 => some ((o4.2.1, ()), ())) 256 0 rfl
  unfold f_spec_l2Table
  rw [show (decide ((256 : Int) = (256 : Int)) && (decide ((0 : Int) ≤ (256 : Int)) && decide ((256 : Int) ≤ (68719476736 : Int)))) = true by decide, req_true]
  rw [show llen (List.replicate (Int.toNat (256 : Int)) ((0 : Int) : Int)) = (256 : Int) by rw [llen, List.length_replicate]; rfl]
  exact this

theorem ixor_comm (k : IntKind) (a b : Int) : ixor k a b = ixor k b a := by
  simp only [ixor, BitVec.xor_comm]

theorem ixor_u8_range (a b : Int) : 0 ≤ ixor .u8 a b ∧ ixor .u8 a b < 256 := by
  simp only [ixor, wrap_u8]
  omega

/-- the sum of what stands from i on -/
def sumGo (s : ByteArray) : Nat → Nat → Int → Int
  | 0, _, m => m
  | f + 1, i, m => match s[i]? with
    | some b => match (crcTable 256)[Int.toNat (ixor .u8 (IntKind.wrap .u8 m) (b.toNat : Int))]? with
      | some z => sumGo s f (i + 1) (ixor .u32 z (ishr .u32 m (8 : Int)))
      | none => m
    | none => m

def sumOf (s : ByteArray) : Int := inot .u32 (sumGo s s.size 0 (4294967295 : Int))

theorem tableAt (m : Int) (b : Nat) : ∃ z, (crcTable 256)[Int.toNat (ixor .u8 (IntKind.wrap .u8 m) (b : Int))]? = some z := by
  have := ixor_u8_range (IntKind.wrap .u8 m) (b : Int)
  exact ⟨_, List.getElem?_eq_getElem (by rw [crcTable_length]; omega)⟩

theorem f_spec_l2OnLoop {R : Type} (s : ByteArray) (hs : s.size ≤ 9223372036854775807) (kk : (((List Int) × ByteArray × Unit) × Unit) → ((Int × Unit) × Unit) → Option R) :
    ∀ (f i : Nat) (m : Int), f + i = s.size → loopF (c := f_spec_l2On_l2c) (v := f_spec_l2On_l2v) (ex := f_spec_l2On_l2e) f_spec_l2On_l2 R ((crcTable 256, (s, ())), ()) ((m, ((i : Int), ())), ()) kk = kk ((crcTable 256, (s, ())), ()) ((sumGo s f i m, ()), ())
  | 0, i, m, hf => by
    have h1 : ilt (i : Int) (slen s) = false := ilt_false.2 (by simp only [slen]; omega)
    rw [loopF_done (c' := ((crcTable 256, (s, ())), ())) (o := ((m, ()), ())) (by simp only [round, f_spec_l2On_l2, h1, cond_false])]
    try rfl
  | f + 1, i, m, hf => by
    have h1 : ilt (i : Int) (slen s) = true := ilt_iff.2 (by simp only [slen]; omega)
    have hb : s[i]? = some s[i] := getElem?_pos s i (by omega)
    have h2 : iadd .i64 (i : Int) (1 : Int) = ((i + 1 : Nat) : Int) := by rw [iadd_i64 (by omega)]; simp
    obtain ⟨z, hz⟩ := tableAt m s[i].toNat
    have hr := ixor_u8_range (IntKind.wrap .u8 m) (s[i].toNat : Int)
    rw [loopF_more (c' := ((crcTable 256, (s, ())), ())) (v' := ((ixor .u32 z (ishr .u32 m (8 : Int)), (((i + 1 : Nat) : Int), ())), ())) (by
      simp only [round, f_spec_l2On_l2, h1, cond_true]
      rw [getB_at (by omega) (by rw [Int.toNat_natCast]; exact hb), getO_at hr.1 hz]
      simp only [h2])]
    simp only [sumGo, hb, hz]
    exact f_spec_l2OnLoop s hs kk f (i + 1) _ (by omega)

theorem f_impl_SumOnLoop {R : Type} (s : ByteArray) (hs : s.size ≤ 9223372036854775807) (kk : ((ByteArray × Int × Unit) × ((List Int) × Unit)) → ((Int × Unit) × Unit) → Option R) :
    ∀ (f i : Nat) (m : Int), f + i = s.size → loopF (c := f_impl_SumOn_l3c) (v := f_impl_SumOn_l3v) (ex := f_impl_SumOn_l3e) f_impl_SumOn_l3 R ((s, (slen s, ())), (crcTable 256, ())) ((m, ((i : Int), ())), ()) kk = kk ((s, (slen s, ())), (crcTable 256, ())) ((sumGo s f i m, ()), ())
  | 0, i, m, hf => by
    have h1 : ilt (i : Int) (slen s) = false := ilt_false.2 (by simp only [slen]; omega)
    rw [loopF_done (c' := ((s, (slen s, ())), (crcTable 256, ()))) (o := ((m, ()), ())) (by simp only [round, f_impl_SumOn_l3, h1, cond_false])]
    try rfl
  | f + 1, i, m, hf => by
    have h1 : ilt (i : Int) (slen s) = true := ilt_iff.2 (by simp only [slen]; omega)
    have hb : s[i]? = some s[i] := getElem?_pos s i (by omega)
    have h2 : iadd .i64 (i : Int) (1 : Int) = ((i + 1 : Nat) : Int) := by rw [iadd_i64 (by omega)]; simp
    obtain ⟨z, hz⟩ := tableAt m s[i].toNat
    have hr := ixor_u8_range (IntKind.wrap .u8 m) (s[i].toNat : Int)
    rw [loopF_more (c' := ((s, (slen s, ())), (crcTable 256, ()))) (v' := ((ixor .u32 z (ishr .u32 m (8 : Int)), (((i + 1 : Nat) : Int), ())), ())) (by
      simp only [round, f_impl_SumOn_l3, h1, cond_true]
      rw [getB_at (by omega) (by rw [Int.toNat_natCast]; exact hb), getO_at hr.1 hz, hz]
      simp only [h2, bnd_some]
      rw [ixor_comm])]
    simp only [sumGo, hb, hz]
    exact f_impl_SumOnLoop s hs kk f (i + 1) _ (by omega)

theorem f_spec_l2SumVal (x : ByteArray × Unit) (hs : x.1.size ≤ 9223372036854775807) : f_spec_l2Sum x = some ((sumOf x.1, ()), ()) := by
  simp only [f_spec_l2Sum, f_spec_l2TableVal, bnd_some, f_spec_l2On]
  rw [show ((0 : Int)) = ((0 : Nat) : Int) from rfl, f_spec_l2OnLoop x.1 hs _ x.1.size 0 _ rfl]
  rfl

theorem f_impl_SumOfVal (x : ByteArray × Unit) (hs : x.1.size ≤ 9223372036854775807) : f_impl_SumOf x = some ((sumOf x.1, ()), ()) := by
  simp only [f_impl_SumOf, f_impl_SumOn, f_impl_SumTableVal, bnd_some]
  rw [show ((0 : Int)) = ((0 : Nat) : Int) from rfl, f_impl_SumOnLoop x.1 hs _ x.1.size 0 _ rfl]
  rfl

theorem ishr_div {k : IntKind} {a : Int} (n : Nat) (hn : n ≤ k.bits) : ishr k a (n : Int) = a / (2 ^ n : Int) := by
  simp only [ishr, Int.toNat_natCast]
  rw [Nat.min_eq_left hn, Int.fdiv_eq_ediv_of_nonneg _ (Int.le_of_lt (Int.pow_pos (by decide)))]

theorem ishr8 (k : IntKind) (hk : 8 ≤ k.bits) (a : Int) : ishr k a (8 : Int) = a / 256 := ishr_div (k := k) (a := a) 8 hk

theorem ishr16 (k : IntKind) (hk : 16 ≤ k.bits) (a : Int) : ishr k a (16 : Int) = a / 65536 := ishr_div (k := k) (a := a) 16 hk

theorem ishr24 (k : IntKind) (hk : 24 ≤ k.bits) (a : Int) : ishr k a (24 : Int) = a / 16777216 := ishr_div (k := k) (a := a) 24 hk

/-- bytes of a number, the lowest first, so many -/
def lows : Nat → Int → List Int
  | 0, _ => []
  | k + 1, n => (n % 256) :: lows k (n / 256)

theorem lows_length : ∀ (k : Nat) (n : Int), (lows k n).length = k
  | 0, _ => rfl
  | k + 1, n => by simp [lows, lows_length k]

theorem f_impl_lowFirstLoop {R : Type} (many : Nat) (hm : many ≤ 1000) (kk : ((Int × Unit) × Unit) → (Unit × ((List Int) × Unit)) → Option R) :
    ∀ (f i : Nat) (n : Int) (l : List Int), f + i = many → l.length = i → loopF (c := f_impl_lowFirst_l3c) (v := f_impl_lowFirst_l3v) (ex := f_impl_lowFirst_l3e) f_impl_lowFirst_l3 R (((many : Int), ()), ()) ((n, ((i : Int), ())), (l, ())) kk = kk (((many : Int), ()), ()) ((), (l ++ lows f n, ()))
  | 0, i, n, l, hf, hl => by
    have h1 : ilt (i : Int) (many : Int) = false := ilt_false.2 (by omega)
    rw [loopF_done (c' := (((many : Int), ()), ())) (o := ((), (l, ()))) (by simp only [round, f_impl_lowFirst_l3, h1, cond_false])]
    simp [lows]
  | f + 1, i, n, l, hf, hl => by
    have h1 : ilt (i : Int) (many : Int) = true := ilt_iff.2 (by omega)
    have h2 : iadd .i64 (i : Int) (1 : Int) = ((i + 1 : Nat) : Int) := by rw [iadd_i64 (by omega)]; simp
    have h3 : decide (List.length l + List.length [IntKind.wrap .u8 n] ≤ 17179869184) = true := decide_eq_true (by simp; omega)
    rw [loopF_more (c' := (((many : Int), ()), ())) (v' := ((n / 256, (((i + 1 : Nat) : Int), ())), (l ++ [n % 256], ()))) (by
      simp only [round, f_impl_lowFirst_l3, h1, cond_true]
      rw [h3, req_true, h2, ishr8 .u32 (by decide), wrap_u8])]
    rw [f_impl_lowFirstLoop many hm kk f (i + 1) _ _ (by omega) (by simp [hl])]
    simp [lows]

theorem f_impl_lowFirstVal (x : Int × Int × Unit) (many : Nat) (hm : many ≤ 1000) (hx : x.2.1 = (many : Int)) : f_impl_lowFirst x = some ((strOf (lows many x.1), ()), ()) := by
  simp only [f_impl_lowFirst, hx]
  have := f_impl_lowFirstLoop many hm (fun c1 o2 => some (((strOf o2.2.1), ()), ())) many 0 x.1 [] rfl rfl
  rw [show ((0 : Int)) = ((0 : Nat) : Int) from rfl, this]
  simp

theorem lows_four (n : Int) : lows 4 n = [n % 256, (n / 256) % 256, (n / 65536) % 256, (n / 16777216) % 256] := by
  simp only [lows]
  congr 1
  congr 1
  congr 1
  · omega
  · congr 1; omega

theorem f_spec_l2WordVal (x : Int × Unit) : f_spec_l2Word x = some ((strOf (lows 4 x.1), ()), ()) := by
  simp only [f_spec_l2Word, ishr8 .u32 (by decide), ishr16 .u32 (by decide), ishr24 .u32 (by decide), wrap_u8, lows_four]

def vb : Nat → Nat → List Int
  | 0, n => [((n % 256 : Nat) : Int)]
  | f + 1, n => if n < 128 then [((n % 256 : Nat) : Int)] else ((n % 128 + 128 : Nat) : Int) :: vb f (n / 128)

theorem vb_length : ∀ (f n : Nat), (vb f n).length ≤ f + 1
  | 0, _ => by simp [vb]
  | f + 1, n => by
    simp only [vb]
    split
    · simp
    · have := vb_length f (n / 128); simp; omega

theorem f_impl_varBytesLoop {R : Type} (kk : (Unit × Unit) → ((Int × Unit) × ((List Int) × Unit)) → Option R) (g : List Int → Option R) (hg : ∀ c (n : Nat) l, l.length ≤ 20 → kk c (((n : Int), ()), (l, ())) = g (l ++ [((n % 256 : Nat) : Int)])) :
    ∀ (f n : Nat) (l : List Int), n < 128 ^ (f + 1) → f ≤ 9 → l.length + f ≤ 19 → loopF (c := f_impl_varBytes_l2c) (v := f_impl_varBytes_l2v) (ex := f_impl_varBytes_l2e) f_impl_varBytes_l2 R ((), ()) (((n : Int), ()), (l, ())) kk = g (l ++ vb f n)
  | 0, n, l, hn, hf, hl => by
    have h1 : ile (128 : Int) (n : Int) = false := ile_false.2 (by simp at hn; omega)
    rw [loopF_done (c' := ((), ())) (o := (((n : Int), ()), (l, ()))) (by simp only [round, f_impl_varBytes_l2, h1, cond_false]), hg _ _ _ (by omega)]
    rfl
  | f + 1, n, l, hn, hf, hl => by
    simp only [vb]
    by_cases hlt : n < 128
    · have h1 : ile (128 : Int) (n : Int) = false := ile_false.2 (by omega)
      rw [loopF_done (c' := ((), ())) (o := (((n : Int), ()), (l, ()))) (by simp only [round, f_impl_varBytes_l2, h1, cond_false]), hg _ _ _ (by omega), if_pos hlt]
    · have h1 : ile (128 : Int) (n : Int) = true := ile_iff.2 (by omega)
      have h2 : iadd .u8 (IntKind.wrap .u8 (irem .i64 (n : Int) (128 : Int))) (128 : Int) = ((n % 128 + 128 : Nat) : Int) := by
        simp only [iadd, irem, wrap_u8]
        rw [Int.tmod_eq_emod_of_nonneg (by omega)]
        omega
      have hb : n < 170141183460469231731687303715884105728 * 1 ∨ True := .inr trivial
      have h3 : n / 128 < 128 ^ (f + 1) := by
        rw [Nat.div_lt_iff_lt_mul (by decide), ← Nat.pow_succ]
        exact hn
      have h4 : iquo .i64 (n : Int) (128 : Int) = ((n / 128 : Nat) : Int) := by
        simp only [iquo]
        rw [Int.tdiv_eq_ediv_of_nonneg (by omega)]
        have : (128 : Nat) ^ (f + 1) ≤ 128 ^ 9 := Nat.pow_le_pow_right (by decide) (by omega)
        rw [wrap_i64 _ (by omega)]
        simp
      have h5 : decide (List.length l + List.length [((n % 128 + 128 : Nat) : Int)] ≤ 17179869184) = true := decide_eq_true (by simp; omega)
      rw [loopF_more (c' := ((), ())) (v' := ((((n / 128 : Nat) : Int), ()), (l ++ [((n % 128 + 128 : Nat) : Int)], ()))) (by
        simp only [round, f_impl_varBytes_l2, h1, cond_true]
        rw [h2, h5, req_true, h4])]
      rw [f_impl_varBytesLoop kk g hg f (n / 128) _ h3 (by omega) (by simp; omega), if_neg hlt]
      simp

def varB (n : Nat) : ByteArray := strOf (vb 8 n)

theorem pow9 : (9223372036854775808 : Nat) = 128 ^ 9 := by decide

theorem f_impl_varBytesVal (x : Int × Unit) (n : Nat) (hx : x.1 = (n : Int)) (hn : n < 9223372036854775808) : f_impl_varBytes x = some ((varB n, ()), ()) := by
  simp only [f_impl_varBytes, hx]
  have := f_impl_varBytesLoop (R := (ByteArray × Unit) × Unit) (fun c1 o2 => (req (decide (List.length o2.2.1 + List.length [(IntKind.wrap .u8 o2.1.1)] ≤ 17179869184)) (some (((strOf (o2.2.1 ++ [(IntKind.wrap .u8 o2.1.1)])), ()), ())))) (fun l => some ((strOf l, ()), ()))
    (fun c n l hl => by
      have h5 : decide (List.length l + List.length [IntKind.wrap .u8 (n : Int)] ≤ 17179869184) = true := decide_eq_true (by simp; omega)
      dsimp only
      rw [h5, req_true, wrap_u8]
      simp) 8 n [] (by rw [pow9] at hn; exact hn) (by omega) (by simp)
  rw [this]
  rfl

theorem iand_i64 (a b : Nat) (ha : a < 9223372036854775808) (hb : b < 9223372036854775808) : iand .i64 a b = ((a &&& b : Nat) : Int) := by
  have h : a &&& b ≤ a := Nat.and_le_left
  have e : (BitVec.ofInt 64 (a : Int) &&& BitVec.ofInt 64 (b : Int)).toNat = a &&& b := by
    rw [BitVec.toNat_and, ofInt_nat, ofInt_nat, Nat.mod_eq_of_lt (a := a) (by omega), Nat.mod_eq_of_lt (a := b) (by omega)]
  show IntKind.i64.wrap ((BitVec.ofInt 64 (a : Int) &&& BitVec.ofInt 64 (b : Int)).toNat : Int) = _
  rw [e]
  exact wrap_i64 _ (by omega)

theorem or128 (a : Nat) (h : a < 128) : a ||| 128 = a + 128 := by
  have := Nat.two_pow_add_eq_or_of_lt (i := 7) (b := a) h 1
  simp at this
  rw [Nat.or_comm]
  omega

theorem f_spec_l2VarLoop {R : Type} (kk : (Unit × Unit) → ((Int × Unit) × ((List Int) × Unit)) → Option R) (g : List Int → Option R) (hg : ∀ c (n : Nat) l, l.length ≤ 20 → kk c (((n : Int), ()), (l, ())) = g (l ++ [((n % 256 : Nat) : Int)])) :
    ∀ (f n : Nat) (l : List Int), n < 128 ^ (f + 1) → f ≤ 8 → l.length + f ≤ 19 → loopF (c := f_spec_l2Var_l2c) (v := f_spec_l2Var_l2v) (ex := f_spec_l2Var_l2e) f_spec_l2Var_l2 R ((), ()) (((n : Int), ()), (l, ())) kk = g (l ++ vb f n)
  | 0, n, l, hn, hf, hl => by
    have h1 : ilt (127 : Int) (n : Int) = false := ilt_false.2 (by simp at hn; omega)
    rw [loopF_done (c' := ((), ())) (o := (((n : Int), ()), (l, ()))) (by simp only [round, f_spec_l2Var_l2, h1, cond_false]), hg _ _ _ (by omega)]
    rfl
  | f + 1, n, l, hn, hf, hl => by
    simp only [vb]
    by_cases hlt : n < 128
    · have h1 : ilt (127 : Int) (n : Int) = false := ilt_false.2 (by omega)
      rw [loopF_done (c' := ((), ())) (o := (((n : Int), ()), (l, ()))) (by simp only [round, f_spec_l2Var_l2, h1, cond_false]), hg _ _ _ (by omega), if_pos hlt]
    · have hbig : n < 9223372036854775808 := by
        have : (128 : Nat) ^ (f + 1 + 1) ≤ 128 ^ 9 := Nat.pow_le_pow_right (by decide) (by omega)
        omega
      have h1 : ilt (127 : Int) (n : Int) = true := ilt_iff.2 (by omega)
      have h2 : IntKind.wrap .u8 (ior .i64 (iand .i64 (n : Int) (127 : Int)) (128 : Int)) = ((n % 128 + 128 : Nat) : Int) := by
        have e1 := iand_i64 n 127 hbig (by omega)
        rw [show ((127 : Nat) : Int) = (127 : Int) from rfl, Nat.and_two_pow_sub_one_eq_mod n 7] at e1
        rw [e1]
        have e2 := ior_nat (n % 2 ^ 7) 128 (by omega) (by omega)
        rw [show ((128 : Nat) : Int) = (128 : Int) from rfl, or128 _ (by omega)] at e2
        rw [e2, wrap_u8]
        omega
      have h3 : n / 128 < 128 ^ (f + 1) := by
        rw [Nat.div_lt_iff_lt_mul (by decide), ← Nat.pow_succ]
        exact hn
      have h4 : ishr .i64 (n : Int) (7 : Int) = ((n / 128 : Nat) : Int) := by
        have := ishr_div (k := .i64) (a := (n : Int)) 7 (by decide)
        rw [show ((7 : Nat) : Int) = (7 : Int) from rfl] at this
        rw [this]
        simp
      have h5 : decide (List.length l + List.length [((n % 128 + 128 : Nat) : Int)] ≤ 17179869184) = true := decide_eq_true (by simp; omega)
      rw [loopF_more (c' := ((), ())) (v' := ((((n / 128 : Nat) : Int), ()), (l ++ [((n % 128 + 128 : Nat) : Int)], ()))) (by
        simp only [round, f_spec_l2Var_l2, h1, cond_true]
        rw [h2, h5, req_true, h4])]
      rw [f_spec_l2VarLoop kk g hg f (n / 128) _ h3 (by omega) (by simp; omega), if_neg hlt]
      simp

theorem f_spec_l2VarVal (x : Int × Unit) (n : Nat) (hx : x.1 = (n : Int)) (hn : n < 9223372036854775808) : f_spec_l2Var x = some ((varB n, ()), ()) := by
  simp only [f_spec_l2Var, hx]
  have := f_spec_l2VarLoop (R := (ByteArray × Unit) × Unit) (fun c1 o2 => (req (decide (List.length o2.2.1 + List.length [(IntKind.wrap .u8 o2.1.1)] ≤ 17179869184)) (some (((strOf (o2.2.1 ++ [(IntKind.wrap .u8 o2.1.1)])), ()), ())))) (fun l => some ((strOf l, ()), ()))
    (fun c n l hl => by
      have h5 : decide (List.length l + List.length [IntKind.wrap .u8 (n : Int)] ≤ 17179869184) = true := decide_eq_true (by simp; omega)
      dsimp only
      rw [h5, req_true, wrap_u8]
      simp) 8 n [] (by rw [pow9] at hn; exact hn) (by omega) (by simp)
  rw [this]
  rfl

theorem strOf_size (l : List Int) : (strOf l).size = l.length := by simp [strOf, ByteArray.size]

theorem varB_size (n : Nat) : (varB n).size ≤ 9 := by
  rw [varB, strOf_size]
  exact vb_length 8 n

def common (a b : ByteArray) : Nat → Nat → Nat
  | 0, k => k
  | f + 1, k => if k < a.size ∧ k < b.size ∧ a[k]? = b[k]? then common a b f (k + 1) else k

def dr (s : ByteArray) (n : Nat) : ByteArray := s.extract n s.size

theorem dr_size (s : ByteArray) (n : Nat) : (dr s n).size = s.size - n := by simp [dr, ByteArray.size_extract]

theorem dr_dr (s : ByteArray) (a b : Nat) : dr (dr s a) b = dr s (a + b) := by
  simp only [dr, ByteArray.extract_extract, ByteArray.size_extract]
  by_cases h : a + b ≤ s.size
  · rw [show min (a + (min s.size s.size - a)) s.size = s.size by omega]
  · apply ByteArray.ext_getElem
    · simp only [ByteArray.size_extract]; omega
    · intro i hi
      simp only [ByteArray.size_extract] at hi
      omega

theorem dr_zero (s : ByteArray) : dr s 0 = s := by simp [dr]

theorem dr_head (s : ByteArray) (a m : Nat) (h : a + m ≤ s.size) : (dr s a).extract 0 m = s.extract a (a + m) := by
  simp only [dr, ByteArray.extract_extract, Nat.add_zero]
  rw [show min (a + m) s.size = a + m by omega]

theorem numT (s : ByteArray) : f_impl_taker_number ((s, (false, ())), ()) = some (if (takeVar s).2 = 0 then ((0, ()), ((s, (true, ())), ())) else ((((takeVar s).1 : Int), ()), ((dr s (takeVar s).2, (false, ())), ()))) := by
  obtain ⟨_, k2⟩ := takeVar_ok s
  simp only [f_impl_taker_number, val_f_impl_TakeVar, bnd_some, cond_false]
  by_cases hu : (takeVar s).2 = 0
  · rw [if_pos hu]
    simp only [hu, show ieq ((0 : Nat) : Int) (0 : Int) = true from rfl, cond_true]
  · rw [if_neg hu, ieq_false.2 (show ((takeVar s).2 : Int) ≠ 0 by omega), bounds_ok k2]
    simp only [cond_false, req_true, Int.toNat_natCast, dr]

theorem numB (s : ByteArray) : f_impl_taker_number ((s, (true, ())), ()) = some ((0, ()), ((s, (true, ())), ())) := by
  simp only [f_impl_taker_number, val_f_impl_TakeVar, bnd_some, cond_true]

theorem textT (s : ByteArray) (n : Nat) : f_impl_taker_text ((s, (false, ())), ((n : Int), ())) = some (if s.size < n then (((⟨#[]⟩ : ByteArray), ()), ((s, (true, ())), ())) else ((s.extract 0 n, ()), ((dr s n, (false, ())), ()))) := by
  rw [text_impl ((s, (false, ())), ((n : Int), ())) (s, (false, ())) n rfl rfl]
  simp [dr]

theorem textB (s : ByteArray) (n : Int) : f_impl_taker_text ((s, (true, ())), (n, ())) = some (((⟨#[]⟩ : ByteArray), ()), ((s, (true, ())), ())) := by
  simp only [f_impl_taker_text, cond_true]

/-- six readings in a row -/
def six (s : ByteArray) : Option ((Nat × Nat × Nat) × (ByteArray × ByteArray) × ByteArray) :=
  let v1 := takeVar s
  let v2 := takeVar (dr s v1.2)
  let v3 := takeVar (dr s (v1.2 + v2.2))
  let v4 := takeVar (dr s (v1.2 + v2.2 + v3.2))
  let at' := v1.2 + v2.2 + v3.2 + v4.2
  if v1.2 = 0 ∨ v2.2 = 0 ∨ v3.2 = 0 ∨ v4.2 = 0 ∨ s.size < at' + v2.1 + v4.1 then none
  else some ((v1.1, v2.1, v3.1), (s.extract at' (at' + v2.1), s.extract (at' + v2.1) (at' + v2.1 + v4.1)), dr s (at' + v2.1 + v4.1))

/-- what a taker's number is, and what is left -/
def numK (p : Dtaker) : Nat := cond p.2.1 0 (takeVar p.1).1

def numS (p : Dtaker) : Dtaker := cond p.2.1 (p.1, (true, ())) (if (takeVar p.1).2 = 0 then (p.1, (true, ())) else (dr p.1 (takeVar p.1).2, (false, ())))

def textX (p : Dtaker) (n : Nat) : ByteArray := cond p.2.1 ⟨#[]⟩ (if p.1.size < n then ⟨#[]⟩ else p.1.extract 0 n)

def textS (p : Dtaker) (n : Nat) : Dtaker := cond p.2.1 (p.1, (true, ())) (if p.1.size < n then (p.1, (true, ())) else (dr p.1 n, (false, ())))

theorem textE (x : Dtaker × Int × Unit) (n : Nat) (h : x.2.1 = (n : Int)) : f_impl_taker_text x = some ((textX x.1 n, ()), (textS x.1 n, ())) := by
  obtain ⟨⟨s, b, ⟨⟩⟩, k, ⟨⟩⟩ := x
  simp only at h
  subst h
  cases b with
  | true => simp only [textB]; rfl
  | false =>
    simp only [textT, textX, textS, cond_false]
    by_cases h : s.size < n
    · rw [if_pos h, if_pos h, if_pos h]
    · rw [if_neg h, if_neg h, if_neg h]

/-- the takers of six readings in a row -/
def p1 (s : ByteArray) : Dtaker := numS (s, (false, ()))

def p2 (s : ByteArray) : Dtaker := numS (p1 s)

theorem iaddN {a b : Nat} (h : a + b ≤ 9223372036854775807) : iadd .i64 (a : Int) (b : Int) = ((a + b : Nat) : Int) := by rw [iadd_i64 (by omega)]; simp

theorem bounds3 {a b n : Nat} (h1 : a ≤ b) (h2 : b ≤ n) : (decide ((0 : Int) ≤ (a : Int)) && (decide ((a : Int) ≤ (b : Int)) && decide ((b : Int) ≤ ((n : Nat) : Int)))) = true := by
  simp; omega

theorem empty_of_size {s : ByteArray} (h : s.size = 0) : s = ⟨#[]⟩ := by
  apply ByteArray.ext
  apply Array.eq_empty_of_size_eq_zero
  exact h

theorem seq_empty (s : ByteArray) : seq s (⟨#[]⟩ : ByteArray) = decide (s.size = 0) := by
  by_cases h : s.size = 0
  · rw [empty_of_size h, seq_self]; rfl
  · simp only [h, decide_false]
    exact seq_false.2 (by rintro rfl; exact h rfl)

theorem empty_append (a : ByteArray) : (⟨#[]⟩ : ByteArray) ++ a = a := ByteArray.empty_append

theorem append_empty (a : ByteArray) : a ++ (⟨#[]⟩ : ByteArray) = a := ByteArray.append_empty

theorem strOf_cons (x : Int) (l : List Int) : strOf (x :: l) = strOf [x] ++ strOf l := by
  apply ByteArray.ext
  simp [strOf]

theorem at_strOf (A B : ByteArray) (x : Int) (l : List Int) : (A ++ strOf (x :: l) ++ B)[A.size]? = some (UInt8.ofNat x.toNat) := by
  have h : A.size < (A ++ strOf (x :: l) ++ B).size := by simp only [ByteArray.size_append, strOf_size, List.length_cons]; omega
  rw [getElem?_pos (A ++ strOf (x :: l) ++ B) A.size h]
  have h2 : A.size < (A ++ strOf (x :: l)).size := by simp only [ByteArray.size_append, strOf_size, List.length_cons]; omega
  rw [ByteArray.getElem_append_left h2, ByteArray.getElem_append_right (by omega)]
  have h3 : A.size - A.size < (strOf (x :: l)).size := by rw [strOf_size]; simp
  have e : (strOf (x :: l))[A.size - A.size]'h3 = (strOf (x :: l)).data[A.size - A.size]'h3 := rfl
  rw [e]
  simp [strOf]

theorem or_add (a b k : Nat) (h : a < 2 ^ (7 * k)) : a ||| (b * 2 ^ (7 * k)) = a + b * 2 ^ (7 * k) := by
  have := Nat.two_pow_add_eq_or_of_lt h b
  rw [Nat.or_comm, Nat.mul_comm b]
  omega

theorem takeGo_vb (B : ByteArray) : ∀ (f n k acc : Nat) (A : ByteArray), A.size = k → n < 128 ^ (f + 1) → acc < 2 ^ (7 * k) → (0 < k → 0 < n) →
    takeGo (A ++ strOf (vb f n) ++ B) (f + 1) k acc = (acc + n * 2 ^ (7 * k), k + (vb f n).length)
  | f, n, k, acc, A, hA, hn, ha, h0 => by
    have hlast : n < 128 → vb f n = [((n % 256 : Nat) : Int)] → takeGo (A ++ strOf (vb f n) ++ B) (f + 1) k acc = (acc + n * 2 ^ (7 * k), k + (vb f n).length) := by
      intro hlt he
      rw [he]
      simp only [takeGo, ← hA, at_strOf]
      have hb : (UInt8.ofNat ((n % 256 : Nat) : Int).toNat).toNat = n := by
        rw [Int.toNat_natCast, UInt8.toNat_ofNat']
        omega
      rw [hb, if_pos hlt, if_neg (by omega), Nat.mod_eq_of_lt hlt, hA, or_add _ _ _ ha]
      rfl
    cases f with
    | zero => exact hlast (by simpa using hn) rfl
    | succ f =>
      by_cases hlt : n < 128
      · exact hlast hlt (by simp only [vb, if_pos hlt])
      · have he : vb (f + 1) n = ((n % 128 + 128 : Nat) : Int) :: vb f (n / 128) := by simp only [vb, if_neg hlt]
        rw [he]
        have hb : (UInt8.ofNat ((n % 128 + 128 : Nat) : Int).toNat).toNat = n % 128 + 128 := by
          rw [Int.toNat_natCast, UInt8.toNat_ofNat']
          omega
        have hp : 2 ^ (7 * (k + 1)) = 2 ^ (7 * k) * 128 := by rw [show 7 * (k + 1) = 7 * k + 7 by omega, Nat.pow_add]
        have hacc : acc + n % 128 * 2 ^ (7 * k) < 2 ^ (7 * (k + 1)) := by
          rw [hp]
          have : n % 128 * 2 ^ (7 * k) ≤ 127 * 2 ^ (7 * k) := Nat.mul_le_mul_right _ (by omega)
          omega
        have h3 : n / 128 < 128 ^ (f + 1) := by
          rw [Nat.div_lt_iff_lt_mul (by decide), ← Nat.pow_succ]
          exact hn
        have ih := takeGo_vb B f (n / 128) (k + 1) (acc + n % 128 * 2 ^ (7 * k)) (A ++ strOf [((n % 128 + 128 : Nat) : Int)]) (by rw [ByteArray.size_append, strOf_size, hA]; rfl) h3 hacc (fun _ => by omega)
        have hs : A ++ strOf (((n % 128 + 128 : Nat) : Int) :: vb f (n / 128)) ++ B = A ++ strOf [((n % 128 + 128 : Nat) : Int)] ++ strOf (vb f (n / 128)) ++ B := by
          rw [strOf_cons]
          simp only [ByteArray.append_assoc]
        unfold takeGo
        rw [← hA, at_strOf]
        dsimp only
        rw [hb, if_neg (by omega), show (n % 128 + 128) % 128 = n % 128 by omega, hA, or_add _ _ _ ha, hs, ih]
        simp only [List.length_cons]
        congr 1
        · rw [hp]
          have e : n = n / 128 * 128 + n % 128 := by omega
          have : n * 2 ^ (7 * k) = n / 128 * 128 * 2 ^ (7 * k) + n % 128 * 2 ^ (7 * k) := by rw [← Nat.add_mul, ← e]
          have e2 : n / 128 * (2 ^ (7 * k) * 128) = n / 128 * 128 * 2 ^ (7 * k) := by rw [Nat.mul_comm (2 ^ (7 * k)) 128, Nat.mul_assoc]
          omega
        · omega

theorem takeVar_varB (n : Nat) (B : ByteArray) (hn : n < 9223372036854775808) : takeVar (varB n ++ B) = (n, (varB n).size) := by
  have := takeGo_vb B 8 n 0 0 ⟨#[]⟩ rfl (by rw [pow9] at hn; exact hn) (by decide) (fun h => by omega)
  rw [empty_append] at this
  rw [takeVar, varB, this, strOf_size]
  simp

theorem dr_append (A B : ByteArray) : dr (A ++ B) A.size = B := by
  rw [dr]
  exact ByteArray.extract_append_eq_right rfl ByteArray.size_append

theorem head_append (A B : ByteArray) {n : Nat} (h : n = A.size) : (A ++ B).extract 0 n = A := by subst h; exact ByteArray.extract_append_eq_left rfl

theorem dr_step {s : ByteArray} {k : Nat} {b : UInt8} (h : s[k]? = some b) : dr s k = strOf [(b.toNat : Int)] ++ dr s (k + 1) := by
  have hk := getElem?_size h
  have e : strOf [(b.toNat : Int)] = s.extract k (k + 1) := by
    apply ByteArray.ext_getElem
    · rw [strOf_size, ByteArray.size_extract]; simp; omega
    · intro i h1 h2
      rw [strOf_size] at h1
      have : i = 0 := by simp at h1; omega
      subst this
      rw [ByteArray.getElem_extract]
      rw [getElem?_pos s k hk] at h
      injection h with h
      have e1 : (strOf [(b.toNat : Int)])[0]'(by rw [strOf_size]; simp) = (strOf [(b.toNat : Int)]).data[0]'(by rw [strOf_size] at *; exact h1) := rfl
      rw [e1]
      simp [strOf]
      exact h.symm
  rw [e, dr, dr, ByteArray.extract_append_extract]
  congr 1 <;> omega

theorem vb_small {f m : Nat} (h : m < 128) : vb f m = [((m % 256 : Nat) : Int)] := by
  cases f with
  | zero => rfl
  | succ f => simp only [vb, if_pos h]

theorem takeGo_canon (s : ByteArray) : ∀ (f k acc : Nat), acc < 2 ^ (7 * k) → (takeGo s f k acc).2 ≠ 0 →
    ∃ m f', f = f' + 1 ∧ (takeGo s f k acc).1 = acc + m * 2 ^ (7 * k) ∧ (0 < k → 0 < m) ∧ dr s k = strOf (vb f' m) ++ dr s (takeGo s f k acc).2
  | 0, k, acc, ha, h => absurd rfl h
  | f + 1, k, acc, ha, h => by
    simp only [takeGo] at h ⊢
    cases hb : s[k]? with
    | none => rw [hb] at h; exact absurd rfl h
    | some b =>
      rw [hb] at h
      dsimp only at h ⊢
      have hb2 := byte_lt b
      by_cases hlt : b.toNat < 128
      · rw [if_pos hlt] at h ⊢
        by_cases hz : 0 < k ∧ b.toNat = 0
        · rw [if_pos hz] at h; exact absurd rfl h
        · rw [if_neg hz]
          refine ⟨b.toNat, f, rfl, ?_, fun hk => by omega, ?_⟩
          · rw [Nat.mod_eq_of_lt hlt, or_add _ _ _ ha]
          · rw [vb_small hlt, Nat.mod_eq_of_lt hb2]
            exact dr_step hb
      · rw [if_neg hlt] at h ⊢
        have hp : 2 ^ (7 * (k + 1)) = 2 ^ (7 * k) * 128 := by rw [show 7 * (k + 1) = 7 * k + 7 by omega, Nat.pow_add]
        have hacc : acc ||| b.toNat % 128 * 2 ^ (7 * k) < 2 ^ (7 * (k + 1)) := by
          rw [or_add _ _ _ ha, hp]
          have : b.toNat % 128 * 2 ^ (7 * k) ≤ 127 * 2 ^ (7 * k) := Nat.mul_le_mul_right _ (by omega)
          omega
        obtain ⟨m, f', hf, h1, h2, h3⟩ := takeGo_canon s f (k + 1) _ hacc h
        have hm := h2 (by omega)
        subst hf
        refine ⟨m * 128 + b.toNat % 128, f' + 1, rfl, ?_, fun _ => by omega, ?_⟩
        · rw [h1, or_add _ _ _ ha, hp, Nat.add_mul]
          have : m * (2 ^ (7 * k) * 128) = m * 128 * 2 ^ (7 * k) := by rw [Nat.mul_comm (2 ^ (7 * k)) 128, Nat.mul_assoc]
          omega
        · have e : vb (f' + 1) (m * 128 + b.toNat % 128) = (b.toNat : Int) :: vb f' m := by
            simp only [vb]
            rw [if_neg (by omega), show (m * 128 + b.toNat % 128) % 128 + 128 = b.toNat by omega, show (m * 128 + b.toNat % 128) / 128 = m by omega]
          rw [e, strOf_cons, dr_step hb, h3, ByteArray.append_assoc]

theorem takeVar_canon {s : ByteArray} (h : (takeVar s).2 ≠ 0) : s = varB (takeVar s).1 ++ dr s (takeVar s).2 := by
  obtain ⟨m, f', hf, h1, _, h3⟩ := takeGo_canon s 9 0 0 (by decide) h
  have : f' = 8 := by omega
  subst this
  rw [dr_zero] at h3
  have hm : (takeVar s).1 = m := by rw [takeVar, h1]; simp
  rw [hm]
  exact h3

def numO (s : ByteArray) : Option (Nat × ByteArray) := if (takeVar s).2 = 0 then none else some ((takeVar s).1, dr s (takeVar s).2)

def txtO (s : ByteArray) : Option (ByteArray × ByteArray) := match numO s with
  | none => none
  | some (n, s') => if s'.size < n then none else some (s'.extract 0 n, dr s' n)

theorem numO_some {s s' : ByteArray} {n : Nat} (h : numO s = some (n, s')) : n < 9223372036854775808 ∧ s = varB n ++ s' ∧ s'.size < s.size := by
  unfold numO at h
  split at h
  · cases h
  · rename_i hz
    injection h with h
    injection h with h1 h2
    subst h1; subst h2
    refine ⟨(takeVar_ok s).1, takeVar_canon hz, ?_⟩
    have := (takeVar_ok s).2
    rw [dr_size]
    omega

theorem txtO_some {s s' t : ByteArray} (h : txtO s = some (t, s')) : s = varB t.size ++ (t ++ s') ∧ s'.size < s.size ∧ t.size ≤ s.size := by
  unfold txtO at h
  split at h
  · cases h
  · rename_i n s2 hn
    obtain ⟨h1, h2, h3⟩ := numO_some hn
    split at h
    · cases h
    · rename_i hz
      injection h with h
      injection h with e1 e2
      subst e1; subst e2
      have hs : (s2.extract 0 n).size = n := by rw [ByteArray.size_extract]; omega
      have e : s2.extract 0 n ++ dr s2 n = s2 := by
        rw [dr, ByteArray.extract_append_extract]
        simp
      refine ⟨?_, ?_, by rw [hs]; omega⟩
      · rw [hs, e]; exact h2
      · rw [dr_size]; omega

def bindO {α β : Type} (p : Option (α × ByteArray)) (f : α → ByteArray → Option β) : Option β := match p with
  | none => none
  | some q => f q.1 q.2

def metaO (s : ByteArray) : Option (DMeta × ByteArray) :=
  bindO (numO s) fun a s => bindO (numO s) fun b s => bindO (txtO s) fun c s => bindO (txtO s) fun d s => some (((a : Int), ((b : Int), (c, (d, ())))), s)

def manyO {α : Type} (p : ByteArray → Option (α × ByteArray)) : Nat → ByteArray → Option (List α × ByteArray)
  | 0, s => some ([], s)
  | f + 1, s => bindO (p s) fun x s => bindO (manyO p f s) fun l s => some (x :: l, s)

def numI (s : ByteArray) : Option (Int × ByteArray) := bindO (numO s) fun n s => some ((n : Int), s)

/-- where a taker stands -/
def Tk (p : Dtaker) : Option ByteArray → Prop
  | none => p.2.1 = true
  | some s => p = (s, (false, ()))

/-- what taking a number does -/
def NumOk (f : Dtaker × Unit → Option ((Int × Unit) × (Dtaker × Unit))) : Prop :=
  ∀ (p : Dtaker) (o : Option ByteArray), Tk p o → Does (f (p, ())) fun r => 0 ≤ r.1.1 ∧ match o.bind numO with
    | none => Tk r.2.1 none
    | some q => r.1.1 = (q.1 : Int) ∧ Tk r.2.1 (some q.2)

def TxtOk (f : Dtaker × Unit → Option ((ByteArray × Unit) × (Dtaker × Unit))) : Prop :=
  ∀ (p : Dtaker) (o : Option ByteArray), Tk p o → Does (f (p, ())) fun r => match o.bind txtO with
    | none => Tk r.2.1 none
    | some q => r.1.1 = q.1 ∧ Tk r.2.1 (some q.2)

theorem f_impl_taker_numberTk : NumOk f_impl_taker_number := by
  intro p o hp
  cases o with
  | none =>
    obtain ⟨s, bad, ⟨⟩⟩ := p
    have hp : bad = true := hp
    subst hp
    exact Does.eq (numB s) ⟨Int.le_refl 0, rfl⟩
  | some s =>
    have hp : p = (s, (false, ())) := hp
    subst hp
    refine Does.eq (numT s) ?_
    simp only [Option.bind_some, numO]
    by_cases hz : (takeVar s).2 = 0
    · rw [if_pos hz, if_pos hz]; exact ⟨Int.le_refl 0, rfl⟩
    · rw [if_neg hz, if_neg hz]; exact ⟨by dsimp only; omega, rfl, rfl⟩

theorem f_spec_l9R_numTk : NumOk f_spec_l9R_num := by
  intro p o hp
  obtain ⟨s, bad, ⟨⟩⟩ := p
  unfold f_spec_l9R_num
  rw [val_f_spec_l2Take, bnd_some]
  dsimp only
  have hk := (takeVar_ok s).2
  cases o with
  | none =>
    have hp : bad = true := hp
    subst hp
    refine Does.cond (fun _ => Does.req (by simp; omega) (Does.val ⟨by dsimp only; omega, rfl⟩)) (fun h => by cases h)
  | some s2 =>
    have hp : (s, (bad, ())) = (s2, (false, ())) := hp
    injection hp with h1 h2
    injection h2 with h2 _
    subst h1; subst h2
    refine Does.cond (fun h => by cases h) (fun _ => Does.req (by simp; omega) (Does.val ?_))
    simp only [Option.bind_some, numO]
    by_cases hz : (takeVar s).2 = 0
    · rw [if_pos hz]
      refine ⟨by omega, ?_⟩
      simp only [Tk, hz]
      rfl
    · rw [if_neg hz]
      refine ⟨by omega, rfl, ?_⟩
      simp only [Tk, ieq_false.2 (show ((takeVar s).2 : Int) ≠ 0 by omega), Int.toNat_natCast]
      rfl

theorem f_impl_taker_sizedTk : TxtOk f_impl_taker_sized := by
  intro p o hp
  unfold f_impl_taker_sized
  refine Does.bnd (f_impl_taker_numberTk p o hp) fun r hr => ?_
  obtain ⟨h0, hr⟩ := hr
  obtain ⟨n, hn⟩ : ∃ n : Nat, r.1.1 = (n : Int) := ⟨r.1.1.toNat, by omega⟩
  refine Does.bnd (Does.eq (textE (r.2.1, (r.1.1, ())) n hn) (Q := fun z => z = ((textX r.2.1 n, ()), (textS r.2.1 n, ()))) rfl) fun z hz => ?_
  subst hz
  refine Does.val ?_
  cases o with
  | none =>
    simp only [Option.bind_none] at hr ⊢
    have hb : r.2.1.2.1 = true := hr
    simp only [Tk, textS, hb, cond_true]
  | some s =>
    simp only [Option.bind_some] at hr ⊢
    unfold txtO
    cases hs : numO s with
    | none =>
      rw [hs] at hr
      have hb : r.2.1.2.1 = true := hr
      simp only [Tk, textS, hb, cond_true]
    | some q =>
      rw [hs] at hr
      obtain ⟨e1, e2⟩ := hr
      have e3 : n = q.1 := by rw [hn] at e1; omega
      have e2 : r.2.1 = (q.2, (false, ())) := e2
      subst e3
      obtain ⟨a, s'⟩ := q
      dsimp only at e2 ⊢
      rw [e2]
      by_cases hz : s'.size < a
      · rw [if_pos hz]
        simp only [Tk, textS, cond_false, if_pos hz]
      · rw [if_neg hz]
        simp only [Tk, textS, textX, cond_false, if_neg hz, and_self]

theorem f_spec_l9R_textTk : TxtOk f_spec_l9R_text := by
  intro p o hp
  unfold f_spec_l9R_text
  refine Does.bnd (f_spec_l9R_numTk p o hp) fun r hr => ?_
  obtain ⟨h0, hr⟩ := hr
  cases o with
  | none =>
    simp only [Option.bind_none] at hr ⊢
    have hb : r.2.1.2.1 = true := hr
    refine Does.cond (fun _ => Does.val rfl) (fun hlt => ?_)
    have hlt := ilt_false.1 hlt
    simp only [slen] at hlt
    exact Does.req (by simp; omega) (Does.req (by simp; omega) (Does.val hb))
  | some s =>
    simp only [Option.bind_some] at hr ⊢
    unfold txtO
    cases hs : numO s with
    | none =>
      rw [hs] at hr
      have hb : r.2.1.2.1 = true := hr
      refine Does.cond (fun _ => Does.val rfl) (fun hlt => ?_)
      have hlt := ilt_false.1 hlt
      simp only [slen] at hlt
      exact Does.req (by simp; omega) (Does.req (by simp; omega) (Does.val hb))
    | some q =>
      rw [hs] at hr
      obtain ⟨e1, e2⟩ := hr
      have e2 : r.2.1 = (q.2, (false, ())) := e2
      obtain ⟨a, s'⟩ := q
      dsimp only at e1 e2 ⊢
      rw [e1, e2]
      refine Does.cond (fun hlt => ?_) (fun hlt => ?_)
      · have hlt := ilt_iff.1 hlt
        simp only [slen] at hlt
        rw [if_pos (by omega)]
        exact Does.val rfl
      · have hlt := ilt_false.1 hlt
        simp only [slen] at hlt
        rw [if_neg (by omega)]
        exact Does.req (by simp; omega) (Does.req (by simp; omega) (Does.val ⟨rfl, rfl⟩))

theorem f_impl_taker_wholeVal (p : Dtaker) : f_impl_taker_whole (p, ()) = some ((!p.2.1 && seq p.1 ⟨#[]⟩, ()), (p, ())) := by
  obtain ⟨s, bad, ⟨⟩⟩ := p
  cases bad <;> rfl

def Parsed {α : Type} (r : Option (List α × ByteArray)) (acc l' : List α) (p' : Dtaker) : Prop := match r with
  | none => Tk p' none
  | some q => l' = acc ++ q.1 ∧ Tk p' (some q.2)

theorem Parsed_step {α : Type} {P : ByteArray → Option (α × ByteArray)} {f : Nat} {s0 : ByteArray} {acc l' : List α} {x : α} {p' : Dtaker} (hx : ∀ q, P s0 = some q → x = q.1)
    (h : Parsed (((P s0).map (·.2)).bind (manyO P f)) (acc ++ [x]) l' p') : Parsed (manyO P (f + 1) s0) acc l' p' := by
  simp only [manyO]
  cases hn : P s0 with
  | none => rw [hn] at h; exact h
  | some q =>
    rw [hn] at h
    have e := hx q hn
    subst e
    simp only [Option.map_some, Option.bind_some, bindO] at h ⊢
    cases hm : manyO P f q.2 with
    | none => rw [hm] at h; exact h
    | some y =>
      rw [hm] at h
      obtain ⟨h1, h2⟩ := h
      exact ⟨by rw [h1]; simp, h2⟩

theorem numOut {x : Option (Nat × ByteArray)} {a : Int} {p : Dtaker} (h : match x with | none => Tk p none | some q => a = (q.1 : Int) ∧ Tk p (some q.2)) : Tk p (x.map (·.2)) ∧ ∀ q, x = some q → a = (q.1 : Int) := by
  cases x with
  | none => exact ⟨h, fun q hq => by cases hq⟩
  | some q => exact ⟨h.2, fun q' hq => by injection hq with hq; subst hq; exact h.1⟩

theorem txtOut {x : Option (ByteArray × ByteArray)} {a : ByteArray} {p : Dtaker} (h : match x with | none => Tk p none | some q => a = q.1 ∧ Tk p (some q.2)) : Tk p (x.map (·.2)) ∧ ∀ q, x = some q → a = q.1 := by
  cases x with
  | none => exact ⟨h, fun q hq => by cases hq⟩
  | some q => exact ⟨h.2, fun q' hq => by injection hq with hq; subst hq; exact h.1⟩

/-- a number taken -/
theorem NumOk.get {f : Dtaker × Unit → Option ((Int × Unit) × (Dtaker × Unit))} (h : NumOk f) (p : Dtaker) (o : Option ByteArray) (hp : Tk p o) :
    ∃ r, f (p, ()) = some r ∧ 0 ≤ r.1.1 ∧ Tk r.2.1 ((o.bind numO).map (·.2)) ∧ ∀ q, o.bind numO = some q → r.1.1 = (q.1 : Int) := by
  obtain ⟨r, h1, h0, h2⟩ := h p o hp
  have := numOut h2
  exact ⟨r, h1, h0, this.1, this.2⟩

theorem TxtOk.get {f : Dtaker × Unit → Option ((ByteArray × Unit) × (Dtaker × Unit))} (h : TxtOk f) (p : Dtaker) (o : Option ByteArray) (hp : Tk p o) :
    ∃ r, f (p, ()) = some r ∧ Tk r.2.1 ((o.bind txtO).map (·.2)) ∧ ∀ q, o.bind txtO = some q → r.1.1 = q.1 := by
  obtain ⟨r, h1, h2⟩ := h p o hp
  have := txtOut h2
  exact ⟨r, h1, this.1, this.2⟩

theorem metaGet {f : Dtaker × Unit → Option ((Int × Unit) × (Dtaker × Unit))} {g : Dtaker × Unit → Option ((ByteArray × Unit) × (Dtaker × Unit))} (hf : NumOk f) (hg : TxtOk g) (p : Dtaker) (o : Option ByteArray) (hp : Tk p o) :
    ∃ r1 r2 r3 r4, f (p, ()) = some r1 ∧ f (r1.2.1, ()) = some r2 ∧ g (r2.2.1, ()) = some r3 ∧ g (r3.2.1, ()) = some r4 ∧ Tk r4.2.1 ((o.bind metaO).map (·.2)) ∧
      ∀ q, o.bind metaO = some q → (r1.1.1, (r2.1.1, (r3.1.1, (r4.1.1, ())))) = q.1 := by
  obtain ⟨r1, a1, _, b1, c1⟩ := hf.get p o hp
  obtain ⟨r2, a2, _, b2, c2⟩ := hf.get r1.2.1 _ b1
  obtain ⟨r3, a3, b3, c3⟩ := hg.get r2.2.1 _ b2
  obtain ⟨r4, a4, b4, c4⟩ := hg.get r3.2.1 _ b3
  refine ⟨r1, r2, r3, r4, a1, a2, a3, a4, ?_, ?_⟩
  · cases o with
    | none => exact b4
    | some s =>
      simp only [Option.bind_some, metaO] at b4 ⊢
      cases h1 : numO s with
      | none => rw [h1] at b4; exact b4
      | some q1 =>
        rw [h1] at b4
        simp only [Option.map_some, Option.bind_some, bindO] at b4 ⊢
        cases h2 : numO q1.2 with
        | none => rw [h2] at b4; exact b4
        | some q2 =>
          rw [h2] at b4
          simp only [Option.map_some, Option.bind_some] at b4 ⊢
          cases h3 : txtO q2.2 with
          | none => rw [h3] at b4; exact b4
          | some q3 =>
            rw [h3] at b4
            simp only [Option.map_some, Option.bind_some] at b4 ⊢
            cases h4 : txtO q3.2 with
            | none => rw [h4] at b4; exact b4
            | some q4 => rw [h4] at b4; exact b4
  · intro q hq
    cases o with
    | none => cases hq
    | some s =>
      simp only [Option.bind_some, metaO] at hq c1 c2 c3 c4
      cases h1 : numO s with
      | none => rw [h1] at hq; cases hq
      | some q1 =>
        rw [h1] at hq c1 c2 c3 c4
        simp only [Option.map_some, Option.bind_some, bindO] at hq c1 c2 c3 c4
        cases h2 : numO q1.2 with
        | none => rw [h2] at hq; cases hq
        | some q2 =>
          rw [h2] at hq c2 c3 c4
          simp only [Option.map_some, Option.bind_some] at hq c2 c3 c4
          cases h3 : txtO q2.2 with
          | none => rw [h3] at hq; cases hq
          | some q3 =>
            rw [h3] at hq c3 c4
            simp only [Option.map_some, Option.bind_some] at hq c3 c4
            cases h4 : txtO q3.2 with
            | none => rw [h4] at hq; cases hq
            | some q4 =>
              rw [h4] at hq c4
              injection hq with hq
              subst hq
              dsimp only
              rw [c1 _ rfl, c2 _ rfl, c3 _ rfl, c4 _ rfl]

theorem f_spec_l9Read_l5Does {R : Type} {Q : R → Prop} (s : ByteArray) (z : DEdit) (kk : ((ByteArray × Unit) × (DEdit × Unit)) → (Unit × (DEdit × Dtaker × Unit)) → Option R) :
    ∀ (f : Nat) (i : Int) (e : DEdit) (p : Dtaker) (o : Option ByteArray), Tk p o → f = min i.toNat (31 - e.2.2.1.length) → e.2.2.1.length ≤ 31 → (∀ s0, o = some s0 → i ≤ 9223372036854775807) →
      (∀ (e' : DEdit) (p' : Dtaker), e'.1 = e.1 → e'.2.1 = e.2.1 → e'.2.2.2 = e.2.2.2 → e'.2.2.1.length ≤ 31 → Parsed (o.bind (manyO numI f)) e.2.2.1 e'.2.2.1 p' → Does (kk ((s, ()), (z, ())) ((), (e', (p', ())))) Q) →
      Does (loopF (c := f_spec_l9Read_l5c) (v := f_spec_l9Read_l5v) (ex := f_spec_l9Read_l5e) f_spec_l9Read_l5 R ((s, ()), (z, ())) ((i, ()), (e, (p, ()))) kk) Q
  | 0, i, e, p, o, hp, hf, hl, hi, hk => by
    rw [loopF_done (c' := ((s, ()), (z, ()))) (o := ((), (e, (p, ())))) (by
      simp only [round, f_spec_l9Read_l5]
      cases h1 : ilt (0 : Int) i with
      | false => rfl
      | true =>
        cases h2 : p.2.1 with
        | true => rfl
        | false =>
          cases h3 : ile (llen e.2.2.1) (30 : Int) with
          | false => rfl
          | true =>
            have h1 := ilt_iff.1 h1
            have h3 := ile_iff.1 h3
            simp only [llen] at h3
            exfalso; omega)]
    refine hk e p rfl rfl rfl hl ?_
    cases o with
    | none => exact hp
    | some s0 => exact ⟨(List.append_nil _).symm, hp⟩
  | f + 1, i, e, p, o, hp, hf, hl, hi, hk => by
    have h1 : 0 < i := by omega
    have h3 : e.2.2.1.length ≤ 30 := by omega
    cases o with
    | none =>
      have hb : p.2.1 = true := hp
      rw [loopF_done (c' := ((s, ()), (z, ()))) (o := ((), (e, (p, ())))) (by
        simp only [round, f_spec_l9Read_l5]
        rw [ilt_iff.2 h1, hb]
        rfl)]
      exact hk e p rfl rfl rfl hl hp
    | some s0 =>
      obtain ⟨r, a1, a0, b1, c1⟩ := f_spec_l9R_numTk.get p _ hp
      have hb : p.2.1 = false := by have : p = (s0, (false, ())) := hp; rw [this]
      rw [loopF_more (c' := ((s, ()), (z, ()))) (v' := ((i - 1, ()), ((e.1, (e.2.1, ((e.2.2.1 ++ [r.1.1]), e.2.2.2))), (r.2.1, ())))) (by
        simp only [round, f_spec_l9Read_l5]
        rw [ilt_iff.2 h1, hb, cond_true, Bool.not_false, cond_true, ile_iff.2 (by simp only [llen]; omega), cond_true, a1, bnd_some, decide_eq_true (by simp; omega), req_true, isub_i64 (by have := hi s0 rfl; omega)])]
      refine f_spec_l9Read_l5Does s z kk f _ _ _ _ b1 (by simp; omega) (by simp; omega) (fun _ _ => by have := hi s0 rfl; omega) ?_
      intro e' p' g1 g2 g3 g4 g5
      refine hk e' p' g1 g2 g3 g4 ?_
      refine Parsed_step (x := r.1.1) ?_ ?_
      · intro q hq
        simp only [numI] at hq
        cases hn : numO s0 with
        | none => rw [hn] at hq; cases hq
        | some y => rw [hn] at hq; injection hq with hq; subst hq; exact c1 y hn
      · have : (numI s0).map (·.2) = (numO s0).map (·.2) := by simp only [numI]; cases numO s0 <;> rfl
        rw [this]
        exact g5

theorem f_spec_l9Read_l9Does {R : Type} {Q : R → Prop} (s : ByteArray) (z : DEdit) (kk : ((ByteArray × Unit) × (DEdit × Unit)) → (Unit × (DEdit × Dtaker × Unit)) → Option R) :
    ∀ (f : Nat) (i : Int) (e : DEdit) (p : Dtaker) (o : Option ByteArray), Tk p o → f = min i.toNat (31 - e.2.2.2.1.length) → e.2.2.2.1.length ≤ 31 → (∀ s0, o = some s0 → i ≤ 9223372036854775807) →
      (∀ (e' : DEdit) (p' : Dtaker), e'.1 = e.1 → e'.2.1 = e.2.1 → e'.2.2.1 = e.2.2.1 → e'.2.2.2.1.length ≤ 31 → Parsed (o.bind (manyO metaO f)) e.2.2.2.1 e'.2.2.2.1 p' → Does (kk ((s, ()), (z, ())) ((), (e', (p', ())))) Q) →
      Does (loopF (c := f_spec_l9Read_l9c) (v := f_spec_l9Read_l9v) (ex := f_spec_l9Read_l9e) f_spec_l9Read_l9 R ((s, ()), (z, ())) ((i, ()), (e, (p, ()))) kk) Q
  | 0, i, e, p, o, hp, hf, hl, hi, hk => by
    rw [loopF_done (c' := ((s, ()), (z, ()))) (o := ((), (e, (p, ())))) (by
      simp only [round, f_spec_l9Read_l9]
      cases h1 : ilt (0 : Int) i with
      | false => rfl
      | true =>
        cases h2 : p.2.1 with
        | true => rfl
        | false =>
          cases h3 : ile (llen e.2.2.2.1) (30 : Int) with
          | false => rfl
          | true =>
            have h1 := ilt_iff.1 h1
            have h3 := ile_iff.1 h3
            simp only [llen] at h3
            exfalso; omega)]
    refine hk e p rfl rfl rfl hl ?_
    cases o with
    | none => exact hp
    | some s0 => exact ⟨(List.append_nil _).symm, hp⟩
  | f + 1, i, e, p, o, hp, hf, hl, hi, hk => by
    have h1 : 0 < i := by omega
    have h3 : e.2.2.2.1.length ≤ 30 := by omega
    cases o with
    | none =>
      have hb : p.2.1 = true := hp
      rw [loopF_done (c' := ((s, ()), (z, ()))) (o := ((), (e, (p, ())))) (by
        simp only [round, f_spec_l9Read_l9]
        rw [ilt_iff.2 h1, hb]
        rfl)]
      exact hk e p rfl rfl rfl hl hp
    | some s0 =>
      obtain ⟨r1, r2, r3, r4, a1, a2, a3, a4, b, c⟩ := metaGet f_spec_l9R_numTk f_spec_l9R_textTk p _ hp
      have hb : p.2.1 = false := by have : p = (s0, (false, ())) := hp; rw [this]
      rw [loopF_more (c' := ((s, ()), (z, ()))) (v' := ((i - 1, ()), ((e.1, (e.2.1, (e.2.2.1, ((e.2.2.2.1 ++ [(r1.1.1, (r2.1.1, (r3.1.1, (r4.1.1, ()))))]), e.2.2.2.2)))), (r4.2.1, ())))) (by
        simp only [round, f_spec_l9Read_l9]
        rw [ilt_iff.2 h1, hb, cond_true, Bool.not_false, cond_true, ile_iff.2 (by simp only [llen]; omega), cond_true, a1, bnd_some, a2, bnd_some, a3, bnd_some, a4, bnd_some, decide_eq_true (by simp; omega), req_true, isub_i64 (by have := hi s0 rfl; omega)])]
      refine f_spec_l9Read_l9Does s z kk f _ _ _ _ b (by simp; omega) (by simp; omega) (fun _ _ => by have := hi s0 rfl; omega) ?_
      intro e' p' g1 g2 g3 g4 g5
      exact hk e' p' g1 g2 g3 g4 (Parsed_step c g5)

theorem f_impl_ReadEdit_l7Does {R : Type} {Q : R → Prop} (m : Int) (z : DEdit) (hm : m ≤ 31) (kk : ((Int × Unit) × (DEdit × Unit)) → (Unit × (DEdit × Dtaker × Unit)) → Option R) :
    ∀ (f : Nat) (i : Int) (e : DEdit) (p : Dtaker) (o : Option ByteArray), Tk p o → f = (m - i).toNat → 0 ≤ i → i + f ≤ 31 → e.2.2.1.length = i →
      (∀ (e' : DEdit) (p' : Dtaker), e'.1 = e.1 → e'.2.1 = e.2.1 → e'.2.2.2 = e.2.2.2 → e'.2.2.1.length ≤ 31 → Parsed (o.bind (manyO numI f)) e.2.2.1 e'.2.2.1 p' → Does (kk ((m, ()), (z, ())) ((), (e', (p', ())))) Q) →
      Does (loopF (c := f_impl_ReadEdit_l7c) (v := f_impl_ReadEdit_l7v) (ex := f_impl_ReadEdit_l7e) f_impl_ReadEdit_l7 R ((m, ()), (z, ())) ((i, ()), (e, (p, ()))) kk) Q
  | 0, i, e, p, o, hp, hf, hi, hl, he, hk => by
    rw [loopF_done (c' := ((m, ()), (z, ()))) (o := ((), (e, (p, ())))) (by
      simp only [round, f_impl_ReadEdit_l7]
      rw [ilt_false.2 (by omega)]
      rfl)]
    refine hk e p rfl rfl rfl (by omega) ?_
    cases o with
    | none => exact hp
    | some s0 => exact ⟨(List.append_nil _).symm, hp⟩
  | f + 1, i, e, p, o, hp, hf, hi, hl, he, hk => by
    obtain ⟨r, a1, a0, b1, c1⟩ := f_impl_taker_numberTk.get p _ hp
    rw [loopF_more (c' := ((m, ()), (z, ()))) (v' := ((i + 1, ()), ((e.1, (e.2.1, ((e.2.2.1 ++ [r.1.1]), e.2.2.2))), (r.2.1, ())))) (by
      simp only [round, f_impl_ReadEdit_l7]
      rw [ilt_iff.2 (by omega), cond_true, a1, bnd_some, decide_eq_true (by simp; omega), req_true, iadd_i64 (by omega)])]
    refine f_impl_ReadEdit_l7Does m z hm kk f _ _ _ _ b1 (by omega) (by omega) (by omega) (by simp; omega) ?_
    intro e' p' g1 g2 g3 g4 g5
    refine hk e' p' g1 g2 g3 g4 ?_
    cases o with
    | none => exact g5
    | some s0 =>
      refine Parsed_step (x := r.1.1) ?_ ?_
      · intro q hq
        simp only [numI] at hq
        cases hn : numO s0 with
        | none => rw [hn] at hq; cases hq
        | some y => rw [hn] at hq; injection hq with hq; subst hq; exact c1 y hn
      · have : (numI s0).map (·.2) = (numO s0).map (·.2) := by simp only [numI]; cases numO s0 <;> rfl
        rw [this]
        exact g5

theorem f_impl_ReadEdit_l11Does {R : Type} {Q : R → Prop} (m : Int) (z : DEdit) (hm : m ≤ 31) (kk : ((Int × Unit) × (DEdit × Unit)) → (Unit × (DEdit × Dtaker × Unit)) → Option R) :
    ∀ (f : Nat) (i : Int) (e : DEdit) (p : Dtaker) (o : Option ByteArray), Tk p o → f = (m - i).toNat → 0 ≤ i → i + f ≤ 31 → e.2.2.2.1.length = i →
      (∀ (e' : DEdit) (p' : Dtaker), e'.1 = e.1 → e'.2.1 = e.2.1 → e'.2.2.1 = e.2.2.1 → e'.2.2.2.1.length ≤ 31 → Parsed (o.bind (manyO metaO f)) e.2.2.2.1 e'.2.2.2.1 p' → Does (kk ((m, ()), (z, ())) ((), (e', (p', ())))) Q) →
      Does (loopF (c := f_impl_ReadEdit_l11c) (v := f_impl_ReadEdit_l11v) (ex := f_impl_ReadEdit_l11e) f_impl_ReadEdit_l11 R ((m, ()), (z, ())) ((i, ()), (e, (p, ()))) kk) Q
  | 0, i, e, p, o, hp, hf, hi, hl, he, hk => by
    rw [loopF_done (c' := ((m, ()), (z, ()))) (o := ((), (e, (p, ())))) (by
      simp only [round, f_impl_ReadEdit_l11]
      rw [ilt_false.2 (by omega)]
      rfl)]
    refine hk e p rfl rfl rfl (by omega) ?_
    cases o with
    | none => exact hp
    | some s0 => exact ⟨(List.append_nil _).symm, hp⟩
  | f + 1, i, e, p, o, hp, hf, hi, hl, he, hk => by
    obtain ⟨r1, r2, r3, r4, a1, a2, a3, a4, b, c⟩ := metaGet f_impl_taker_numberTk f_impl_taker_sizedTk p _ hp
    rw [loopF_more (c' := ((m, ()), (z, ()))) (v' := ((i + 1, ()), ((e.1, (e.2.1, (e.2.2.1, ((e.2.2.2.1 ++ [(r1.1.1, (r2.1.1, (r3.1.1, (r4.1.1, ()))))]), e.2.2.2.2)))), (r4.2.1, ())))) (by
      simp only [round, f_impl_ReadEdit_l11]
      rw [ilt_iff.2 (by omega), cond_true, a1, bnd_some, a2, bnd_some, a3, bnd_some, a4, bnd_some, decide_eq_true (by simp; omega), req_true, iadd_i64 (by omega)])]
    refine f_impl_ReadEdit_l11Does m z hm kk f _ _ _ _ b (by omega) (by omega) (by omega) (by simp; omega) ?_
    intro e' p' g1 g2 g3 g4 g5
    refine hk e' p' g1 g2 g3 g4 ?_
    cases o with
    | none => exact g5
    | some s0 => exact Parsed_step c g5

theorem upto_step {α : Type} {P : Nat → α → Prop} {l : List α} {j : Nat} {y : α} (h : ∀ i x, i < j → l[i]? = some x → P i x) (hy : l[j]? = some y) (hp : P j y) : ∀ i x, i < j + 1 → l[i]? = some x → P i x := by
  intro i x hi hx
  rcases Nat.lt_or_ge i j with h1 | h1
  · exact h i x h1 hx
  · have : i = j := by omega
    subst this
    rw [hy] at hx
    injection hx with hx
    subst hx
    exact hp

theorem upto_all {α : Type} {P : Nat → α → Prop} {l : List α} {j : Nat} (hj : l.length ≤ j) (h : ∀ i x, i < j → l[i]? = some x → P i x) : ∀ i x, l[i]? = some x → P i x := by
  intro i x hx
  have := (List.getElem?_eq_some_iff.1 hx).1
  exact h i x (by omega) hx

def NumAt (l : List Int) (i : Nat) (x : Int) : Prop := inR x 1 100000 = true ∧ ∀ y, 0 < i → l[i - 1]? = some y → y < x

def NumsOk (l : List Int) : Prop := ∀ i x, l[i]? = some x → NumAt l i x

theorem inR_iff (x a b : Int) : inR x a b = true ↔ a ≤ x ∧ x ≤ b := by
  simp only [inR]
  cases h : ile a x with
  | true => have := ile_iff.1 h; rw [cond_true]; exact ⟨fun h => ⟨this, ile_iff.1 h⟩, fun h => ile_iff.2 h.2⟩
  | false => have := ile_false.1 h; rw [cond_false]; exact ⟨ft, fun h => by omega⟩

theorem f_impl_numbersOkDoes {x : List Int × Unit} (hl : x.1.length ≤ 1000) : Does (f_impl_numbersOk x) fun r => (r.1.1 = true ↔ NumsOk x.1) := by
  obtain ⟨l, ⟨⟩⟩ := x
  dsimp only at hl
  unfold f_impl_numbersOk
  refine Does.loop (c := f_impl_numbersOk_l2c) (v := f_impl_numbersOk_l2v) (ex := f_impl_numbersOk_l2e)
    (fun (xc : ((List Int) × (List Int) × Int × Unit) × Unit) (xv : (Int × Unit) × Unit) => xc.1.1 = l ∧ xc.1.2.1 = l ∧ xc.1.2.2.1 = llen l ∧ ∃ j : Nat, xv.1.1 = (j : Int) ∧ j ≤ l.length ∧ ∀ i x, i < j → l[i]? = some x → NumAt l i x)
    (fun _ (xv : (Int × Unit) × Unit) => l.length - Int.toNat xv.1.1) ?_ ⟨rfl, rfl, rfl, 0, rfl, by omega, fun i x h => by omega⟩
  rintro ⟨⟨a, b, n, ⟨⟩⟩, ⟨⟩⟩ ⟨⟨i, ⟨⟩⟩, ⟨⟩⟩ ⟨h1, h2, h3, j, h4, h5, h6⟩
  dsimp only at h1 h2 h3 h4
  subst h1; subst h2; subst h3; subst h4
  simp only [round, f_impl_numbersOk_l2]
  refine Does.cond (fun hlt => ?_) (fun hlt => ?_)
  · have hlt := ilt_iff.1 hlt
    simp only [llen] at hlt
    refine Does.getO (by omega) (by omega) fun y hy => ?_
    rw [Int.toNat_natCast] at hy
    rw [val_f_impl_in, bnd_some]
    refine Does.cond (fun hb => Does.val (Does.val ?_)) (fun hb => ?_)
    · refine ⟨(fun h => by cases h), fun h => ?_⟩
      have := (h j y hy).1
      rw [this] at hb
      cases hb
    · have hb : inR y 1 100000 = true := by simpa using hb
      have hnext : (∀ z, 0 < j → b[j - 1]? = some z → z < y) → (b = b ∧ b = b ∧ llen b = llen b ∧ ∃ k : Nat, iadd .i64 (j : Int) (1 : Int) = (k : Int) ∧ k ≤ b.length ∧ ∀ i x, i < k → b[i]? = some x → NumAt b i x) ∧ b.length - Int.toNat (iadd .i64 (j : Int) (1 : Int)) < b.length - Int.toNat (j : Int) := by
        intro hz
        rw [iadd_i64 (by omega)]
        exact ⟨⟨rfl, rfl, rfl, j + 1, by omega, by omega, upto_step h6 hy ⟨hb, hz⟩⟩, by omega⟩
      refine Does.cond (fun h0 => ?_) (fun h0 => ?_)
      · have h0 := ilt_iff.1 h0
        have e : isub .i64 (j : Int) (1 : Int) = ((j - 1 : Nat) : Int) := by rw [isub_i64 (by omega)]; omega
        rw [e]
        refine Does.getO (by omega) (by omega) fun z hz => ?_
        rw [Int.toNat_natCast] at hz
        refine Does.cond (fun hle => Does.val (Does.val ?_)) (fun hle => Does.val ?_)
        · have hle := ile_iff.1 hle
          refine ⟨(fun h => by cases h), fun h => ?_⟩
          have := (h j y hy).2 z (by omega) hz
          omega
        · have hle := ile_false.1 hle
          exact hnext fun z' _ hz' => by rw [hz] at hz'; injection hz' with hz'; rw [← hz']; exact hle
      · have h0 := ilt_false.1 h0
        exact Does.val (hnext fun z' h _ => by omega)
  · have hlt := ilt_false.1 hlt
    simp only [llen] at hlt
    refine Does.val (Does.val ?_)
    exact ⟨fun _ => upto_all (by omega) h6, fun _ => rfl⟩

def goodMetaB (m : DMeta) : Bool :=
  cond (inR m.1 1 100000) (cond (inR m.2.1 0 3) (cond (inR (slen m.2.2.1) 1 16) (cond (inR (slen m.2.2.2.1) 1 16) (slt m.2.2.1 m.2.2.2.1 || seq m.2.2.1 m.2.2.2.1) false) false) false) false

theorem f_spec_l9MetaVal (x : DMeta × Unit) : f_spec_l9Meta x = some ((goodMetaB x.1, ()), ()) := by
  unfold f_spec_l9Meta goodMetaB f_spec_l4Key
  rw [val_f_spec_l1In, bnd_some]; dsimp only
  cases inR x.1.1 1 100000
  · rfl
  rw [cond_true, cond_true, val_f_spec_l1In, bnd_some]; dsimp only
  cases inR x.1.2.1 0 3
  · rfl
  rw [cond_true, cond_true, val_f_spec_l1In, bnd_some]; dsimp only
  cases inR (slen x.1.2.2.1) 1 16
  · rfl
  rw [bnd_some]; dsimp only
  rw [cond_true, cond_true, val_f_spec_l1In, bnd_some]; dsimp only
  cases inR (slen x.1.2.2.2.1) 1 16 <;> rfl

theorem f_impl_goodMetaVal (x : DMeta × Unit) : f_impl_goodMeta x = some ((goodMetaB x.1, ()), ()) := by
  unfold f_impl_goodMeta goodMetaB f_impl_isKey
  rw [val_f_impl_in, bnd_some]; dsimp only
  cases inR x.1.1 1 100000
  · rfl
  rw [cond_true, cond_true, val_f_impl_in, bnd_some]; dsimp only
  cases inR x.1.2.1 0 3
  · rfl
  rw [cond_true, cond_true, val_f_impl_in, bnd_some]; dsimp only
  cases inR (slen x.1.2.2.1) 1 16
  · rfl
  rw [bnd_some]; dsimp only
  rw [cond_true, cond_true, val_f_impl_in, bnd_some]; dsimp only
  cases inR (slen x.1.2.2.2.1) 1 16 <;> rfl

theorem meta_same : f_spec_l9Meta = f_impl_goodMeta := by funext x; rw [f_spec_l9MetaVal, f_impl_goodMetaVal]

theorem metas_same : f_spec_l9Metas = f_impl_metasOk := by
  have h : f_spec_l9Metas_l2 = f_impl_metasOk_l2 := by funext R c v kk; unfold f_spec_l9Metas_l2 f_impl_metasOk_l2; rw [meta_same]
  funext x
  unfold f_spec_l9Metas f_impl_metasOk
  rw [h]
  rfl

def MetaAt (l : List DMeta) (i : Nat) (m : DMeta) : Prop := goodMetaB m = true ∧ ∀ y, 0 < i → l[i - 1]? = some y → y.1 < m.1

def MetasOk (l : List DMeta) : Prop := l.length ≤ 30 ∧ ∀ i x, l[i]? = some x → MetaAt l i x

theorem f_impl_metasOkDoes {x : List DMeta × Unit} (hl : x.1.length ≤ 1000) : Does (f_impl_metasOk x) fun r => (r.1.1 = true ↔ MetasOk x.1) := by
  obtain ⟨l, ⟨⟩⟩ := x
  dsimp only at hl
  unfold f_impl_metasOk
  refine Does.loop (c := f_impl_metasOk_l2c) (v := f_impl_metasOk_l2v) (ex := f_impl_metasOk_l2e)
    (fun (xc : ((List DMeta) × (List DMeta) × Int × Unit) × Unit) (xv : (Int × Unit) × Unit) => xc.1.1 = l ∧ xc.1.2.1 = l ∧ xc.1.2.2.1 = llen l ∧ ∃ j : Nat, xv.1.1 = (j : Int) ∧ j ≤ l.length ∧ ∀ i x, i < j → l[i]? = some x → MetaAt l i x)
    (fun _ (xv : (Int × Unit) × Unit) => l.length - Int.toNat xv.1.1) ?_ ⟨rfl, rfl, rfl, 0, rfl, by omega, fun i x h => by omega⟩
  rintro ⟨⟨a, b, n, ⟨⟩⟩, ⟨⟩⟩ ⟨⟨i, ⟨⟩⟩, ⟨⟩⟩ ⟨h1, h2, h3, j, h4, h5, h6⟩
  dsimp only at h1 h2 h3 h4
  subst h1; subst h2; subst h3; subst h4
  simp only [round, f_impl_metasOk_l2]
  refine Does.cond (fun hlt => ?_) (fun hlt => ?_)
  · have hlt := ilt_iff.1 hlt
    simp only [llen] at hlt
    refine Does.getO (by omega) (by omega) fun y hy => ?_
    rw [Int.toNat_natCast] at hy
    rw [f_impl_goodMetaVal, bnd_some]
    refine Does.cond (fun hb => Does.val (Does.val ?_)) (fun hb => ?_)
    · refine ⟨(fun h => by cases h), fun h => ?_⟩
      have := (h.2 j y hy).1
      rw [this] at hb
      cases hb
    · have hb : goodMetaB y = true := by simpa using hb
      have hnext : (∀ z, 0 < j → b[j - 1]? = some z → z.1 < y.1) → (b = b ∧ b = b ∧ llen b = llen b ∧ ∃ k : Nat, iadd .i64 (j : Int) (1 : Int) = (k : Int) ∧ k ≤ b.length ∧ ∀ i x, i < k → b[i]? = some x → MetaAt b i x) ∧ b.length - Int.toNat (iadd .i64 (j : Int) (1 : Int)) < b.length - Int.toNat (j : Int) := by
        intro hz
        rw [iadd_i64 (by omega)]
        exact ⟨⟨rfl, rfl, rfl, j + 1, by omega, by omega, upto_step h6 hy ⟨hb, hz⟩⟩, by omega⟩
      refine Does.cond (fun h0 => ?_) (fun h0 => ?_)
      · have h0 := ilt_iff.1 h0
        have e : isub .i64 (j : Int) (1 : Int) = ((j - 1 : Nat) : Int) := by rw [isub_i64 (by omega)]; omega
        rw [e]
        refine Does.getO (by omega) (by omega) fun z hz => ?_
        rw [Int.toNat_natCast] at hz
        refine Does.cond (fun hle => Does.val (Does.val ?_)) (fun hle => Does.val ?_)
        · have hle := ile_iff.1 hle
          refine ⟨(fun h => by cases h), fun h => ?_⟩
          have := (h.2 j y hy).2 z (by omega) hz
          omega
        · have hle := ile_false.1 hle
          exact hnext fun z' _ hz' => by rw [hz] at hz'; injection hz' with hz'; rw [← hz']; exact hle
      · have h0 := ilt_false.1 h0
        exact Does.val (hnext fun z' h _ => by omega)
  · have hlt := ilt_false.1 hlt
    simp only [llen] at hlt
    refine Does.val (Does.val ?_)
    constructor
    · intro h
      have h := ile_iff.1 h
      simp only [llen] at h
      exact ⟨by omega, upto_all (by omega) h6⟩
    · intro h
      exact ile_iff.2 (by have := h.1; simp only [llen]; omega)

def GoodEd (e : DEdit) : Prop := inR e.1 1 100001 = true ∧ inR e.2.1 0 1000000000 = true ∧ e.2.2.1.length ≤ 30 ∧ MetasOk e.2.2.2.1 ∧ NumsOk e.2.2.1

theorem f_impl_goodEditDoes {x : DEdit × Unit} (h1 : x.1.2.2.1.length ≤ 1000) (h2 : x.1.2.2.2.1.length ≤ 1000) : Does (f_impl_goodEdit x) fun r => (r.1.1 = true ↔ GoodEd x.1) := by
  unfold f_impl_goodEdit f_impl_nextOk f_impl_isSeq
  rw [val_f_impl_in, bnd_some]; dsimp only
  cases a1 : inR x.1.1 1 100001
  · exact Does.val ⟨(fun h => by cases h), fun h => by have := h.1; rw [a1] at this; cases this⟩
  rw [cond_true, val_f_impl_in, bnd_some]; dsimp only
  rw [bnd_some]; dsimp only
  rw [bnd_some]; dsimp only
  cases a2 : inR x.1.2.1 0 1000000000
  · exact Does.val ⟨(fun h => by cases h), fun h => by have := h.2.1; rw [a2] at this; cases this⟩
  rw [cond_true]
  refine Does.cond (fun a3 => ?_) (fun a3 => ?_)
  · have a3 := ile_iff.1 a3
    simp only [llen] at a3
    refine Does.bnd (f_impl_metasOkDoes (x := (x.1.2.2.2.1, ())) h2) fun r2 hr2 => ?_
    refine Does.cond (fun a4 => ?_) (fun a4 => ?_)
    · refine Does.bnd (f_impl_numbersOkDoes (x := (x.1.2.2.1, ())) h1) fun r3 hr3 => ?_
      refine Does.val ⟨fun h => ⟨a1, a2, by omega, hr2.1 a4, hr3.1 h⟩, fun h => hr3.2 h.2.2.2.2⟩
    · refine Does.val ⟨(fun h => by cases h), fun h => ?_⟩
      have := hr2.2 h.2.2.2.1
      rw [this] at a4; cases a4
  · have a3 := ile_false.1 a3
    simp only [llen] at a3
    exact Does.val ⟨(fun h => by cases h), fun h => by have := h.2.2.1; omega⟩

theorem f_spec_l9EditDoes {x : DEdit × Unit} (h1 : x.1.2.2.1.length ≤ 1000) (h2 : x.1.2.2.2.1.length ≤ 1000) : Does (f_spec_l9Edit x) fun r => (r.1.1 = true ↔ GoodEd x.1) := by
  obtain ⟨e, ⟨⟩⟩ := x
  dsimp only at h1 h2 ⊢
  unfold f_spec_l9Edit
  refine Does.loop (c := f_spec_l9Edit_l2c) (v := f_spec_l9Edit_l2v) (ex := f_spec_l9Edit_l2e)
    (fun (xc : ((List Int) × Int × Unit) × (DEdit × Unit)) (xv : (Int × Unit) × Unit) => xc.1.1 = e.2.2.1 ∧ xc.1.2.1 = llen e.2.2.1 ∧ xc.2.1 = e ∧ ∃ j : Nat, xv.1.1 = (j : Int) ∧ j ≤ e.2.2.1.length ∧ ∀ i x, i < j → e.2.2.1[i]? = some x → NumAt e.2.2.1 i x)
    (fun _ (xv : (Int × Unit) × Unit) => e.2.2.1.length - Int.toNat xv.1.1) ?_ ⟨rfl, rfl, rfl, 0, rfl, by omega, fun i x h => by omega⟩
  rintro ⟨⟨a, n, ⟨⟩⟩, e', ⟨⟩⟩ ⟨⟨i, ⟨⟩⟩, ⟨⟩⟩ ⟨k1, k2, k3, j, h4, h5, h6⟩
  dsimp only at k1 k2 k3 h4
  subst k3; subst k1; subst k2; subst h4
  simp only [round, f_spec_l9Edit_l2]
  refine Does.cond (fun hlt => ?_) (fun hlt => ?_)
  · have hlt := ilt_iff.1 hlt
    simp only [llen] at hlt
    refine Does.getO (by omega) (by omega) fun y hy => ?_
    rw [Int.toNat_natCast] at hy
    rw [val_f_spec_l1In, bnd_some]
    refine Does.cond (fun hb => Does.val (Does.val ?_)) (fun hb => ?_)
    · refine ⟨(fun h => by cases h), fun h => ?_⟩
      have := (h.2.2.2.2 j y hy).1
      rw [this] at hb
      cases hb
    · have hb : inR y 1 100000 = true := by simpa using hb
      have hnext : (∀ z, 0 < j → e'.2.2.1[j - 1]? = some z → z < y) → (e'.2.2.1 = e'.2.2.1 ∧ llen e'.2.2.1 = llen e'.2.2.1 ∧ e' = e' ∧ ∃ k : Nat, iadd .i64 (j : Int) (1 : Int) = (k : Int) ∧ k ≤ e'.2.2.1.length ∧ ∀ i x, i < k → e'.2.2.1[i]? = some x → NumAt e'.2.2.1 i x) ∧ e'.2.2.1.length - Int.toNat (iadd .i64 (j : Int) (1 : Int)) < e'.2.2.1.length - Int.toNat (j : Int) := by
        intro hz
        rw [iadd_i64 (by omega)]
        exact ⟨⟨rfl, rfl, rfl, j + 1, by omega, by omega, upto_step h6 hy ⟨hb, hz⟩⟩, by omega⟩
      refine Does.cond (fun h0 => ?_) (fun h0 => ?_)
      · have h0 := ilt_iff.1 h0
        have e : isub .i64 (j : Int) (1 : Int) = ((j - 1 : Nat) : Int) := by rw [isub_i64 (by omega)]; omega
        rw [e]
        refine Does.getO (by omega) (by omega) fun z hz => ?_
        rw [Int.toNat_natCast] at hz
        refine Does.cond (fun hle => Does.val (Does.val ?_)) (fun hle => Does.val ?_)
        · have hle := ile_iff.1 hle
          refine ⟨(fun h => by cases h), fun h => ?_⟩
          have := (h.2.2.2.2 j y hy).2 z (by omega) hz
          omega
        · have hle := ile_false.1 hle
          exact hnext fun z' _ hz' => by rw [hz] at hz'; injection hz' with hz'; rw [← hz']; exact hle
      · have h0 := ilt_false.1 h0
        exact Does.val (hnext fun z' h _ => by omega)
  · have hlt := ilt_false.1 hlt
    simp only [llen] at hlt
    have hnums : NumsOk e'.2.2.1 := upto_all (by omega) h6
    refine Does.val ?_
    dsimp only
    unfold f_spec_l9Counts f_spec_l4Seq
    rw [val_f_spec_l1In, bnd_some]; dsimp only
    cases a1 : inR e'.1 1 100001
    · exact Does.val ⟨(fun h => by cases h), fun h => by have := h.1; rw [a1] at this; cases this⟩
    rw [cond_true, val_f_spec_l1In, bnd_some]; dsimp only
    rw [bnd_some]; dsimp only
    rw [bnd_some]; dsimp only
    cases a2 : inR e'.2.1 0 1000000000
    · exact Does.val ⟨(fun h => by cases h), fun h => by have := h.2.1; rw [a2] at this; cases this⟩
    rw [cond_true]
    refine Does.cond (fun a3 => ?_) (fun a3 => ?_)
    · have a3 := ile_iff.1 a3
      simp only [llen] at a3
      rw [metas_same]
      refine Does.bnd (f_impl_metasOkDoes (x := (e'.2.2.2.1, ())) h2) fun r2 hr2 => ?_
      exact Does.val ⟨fun h => ⟨a1, a2, by omega, hr2.1 h, hnums⟩, fun h => hr2.2 h.2.2.2.1⟩
    · have a3 := ile_false.1 a3
      simp only [llen] at a3
      exact Does.val ⟨(fun h => by cases h), fun h => by have := h.2.2.1; omega⟩

def numsB : List Int → ByteArray
  | [] => ⟨#[]⟩
  | x :: l => varB x.toNat ++ numsB l

def metaB (m : DMeta) : ByteArray := varB m.1.toNat ++ varB m.2.1.toNat ++ varB m.2.2.1.size ++ m.2.2.1 ++ varB m.2.2.2.1.size ++ m.2.2.2.1

def metasB : List DMeta → ByteArray
  | [] => ⟨#[]⟩
  | x :: l => metaB x ++ metasB l

def editB (e : DEdit) : ByteArray := varB e.1.toNat ++ varB e.2.1.toNat ++ varB e.2.2.1.length ++ numsB e.2.2.1 ++ varB e.2.2.2.1.length ++ metasB e.2.2.2.1

def natI (x : Int) : Prop := 0 ≤ x ∧ x < 9223372036854775808

def MetaN (m : DMeta) : Prop := natI m.1 ∧ natI m.2.1 ∧ m.2.2.1.size ≤ 1000 ∧ m.2.2.2.1.size ≤ 1000

theorem natI.nat {x : Int} (h : natI x) : ∃ n : Nat, x = (n : Int) ∧ n < 9223372036854775808 := ⟨x.toNat, by have := h.1; omega, by have := h.2; have := h.1; omega⟩

theorem f_spec_l2VarI {x : Int} (h : natI x) : f_spec_l2Var (x, ()) = some ((varB x.toNat, ()), ()) := f_spec_l2VarVal (x, ()) x.toNat (by have := h.1; dsimp only; omega) (by have := h.2; have := h.1; omega)

theorem f_spec_l9Bytes_l3Loop {R : Type} (l : List Int) (hl : l.length ≤ 1000) (hn : ∀ x ∈ l, natI x) (e : DEdit) (kk : (((List Int) × Int × Unit) × (DEdit × Unit)) → ((ByteArray × Unit) × Unit) → Option R) :
    ∀ (B A : List Int) (out : ByteArray), A ++ B = l → out.size + 9 * B.length ≤ 1000000 →
      loopF (c := f_spec_l9Bytes_l3c) (v := f_spec_l9Bytes_l3v) (ex := f_spec_l9Bytes_l3e) f_spec_l9Bytes_l3 R ((l, (llen l, ())), (e, ())) ((out, (((A.length : Nat) : Int), ())), ()) kk = kk ((l, (llen l, ())), (e, ())) ((out ++ numsB B, ()), ())
  | [], A, out, h, ho => by
    subst h
    rw [loopF_done (c' := ((A ++ [], (llen (A ++ []), ())), (e, ()))) (o := ((out, ()), ())) (by simp only [round, f_spec_l9Bytes_l3, mid_end, cond_false])]
    simp only [numsB, append_empty]
  | y :: B, A, out, h, ho => by
    have hA : A.length + 1 ≤ l.length := by rw [← h]; simp
    have hy := hn y (by rw [← h]; simp)
    have hs := varB_size y.toNat
    simp only [List.length_cons] at ho
    rw [loopF_more (c' := ((l, (llen l, ())), (e, ()))) (v' := ((out ++ varB y.toNat, ((((A ++ [y]).length : Nat) : Int), ())), ())) (by
      rw [← h]
      simp only [round, f_spec_l9Bytes_l3, mid_lt, cond_true, mid_getO]
      rw [f_spec_l2VarI hy, bnd_some, catO_some (by dsimp only; omega), mid_next A y (by omega)])]
    rw [f_spec_l9Bytes_l3Loop l hl hn e kk B (A ++ [y]) (out ++ varB y.toNat) (by simp [← h]) (by rw [ByteArray.size_append]; omega)]
    simp only [numsB, ByteArray.append_assoc]

theorem metaB_size {m : DMeta} (h : MetaN m) : (metaB m).size ≤ 2036 := by
  have h1 := varB_size m.1.toNat
  have h2 := varB_size m.2.1.toNat
  have h3 := varB_size m.2.2.1.size
  have h4 := varB_size m.2.2.2.1.size
  have := h.2.2
  simp only [metaB, ByteArray.size_append]
  omega

theorem f_spec_l9Bytes_l9Loop {R : Type} (l : List DMeta) (hl : l.length ≤ 1000) (hn : ∀ x ∈ l, MetaN x) (kk : (((List DMeta) × Int × Unit) × Unit) → ((ByteArray × Unit) × Unit) → Option R) :
    ∀ (B A : List DMeta) (out : ByteArray), A ++ B = l → out.size + 2036 * B.length ≤ 100000000 →
      loopF (c := f_spec_l9Bytes_l9c) (v := f_spec_l9Bytes_l9v) (ex := f_spec_l9Bytes_l9e) f_spec_l9Bytes_l9 R ((l, (llen l, ())), ()) ((out, (((A.length : Nat) : Int), ())), ()) kk = kk ((l, (llen l, ())), ()) ((out ++ metasB B, ()), ())
  | [], A, out, h, ho => by
    subst h
    rw [loopF_done (c' := ((A ++ [], (llen (A ++ []), ())), ())) (o := ((out, ()), ())) (by simp only [round, f_spec_l9Bytes_l9, mid_end, cond_false])]
    simp only [metasB, append_empty]
  | y :: B, A, out, h, ho => by
    have hA : A.length + 1 ≤ l.length := by rw [← h]; simp
    have hy := hn y (by rw [← h]; simp)
    have hs := metaB_size hy
    simp only [List.length_cons] at ho
    have h1 := varB_size y.1.toNat
    have h2 := varB_size y.2.1.toNat
    have h3 := varB_size y.2.2.1.size
    have h4 := varB_size y.2.2.2.1.size
    obtain ⟨n1, n2, n3, n4⟩ := hy
    rw [loopF_more (c' := ((l, (llen l, ())), ())) (v' := ((out ++ metaB y, ((((A ++ [y]).length : Nat) : Int), ())), ())) (by
      rw [← h]
      simp only [round, f_spec_l9Bytes_l9, mid_lt, cond_true, mid_getO]
      rw [f_spec_l2VarI n1, bnd_some, f_spec_l2VarI n2, bnd_some, catO_some (by dsimp only; omega), f_spec_l2VarVal (slen y.2.2.1, ()) y.2.2.1.size rfl (by omega), bnd_some, catO_some (by simp only [ByteArray.size_append]; omega), catO_some (by simp only [ByteArray.size_append]; omega),
        f_spec_l2VarVal (slen y.2.2.2.1, ()) y.2.2.2.1.size rfl (by omega), bnd_some, catO_some (by simp only [ByteArray.size_append]; omega), catO_some (by simp only [ByteArray.size_append]; omega), catO_some (by simp only [ByteArray.size_append]; omega), mid_next A y (by omega)]
      rfl)]
    rw [f_spec_l9Bytes_l9Loop l hl hn kk B (A ++ [y]) (out ++ metaB y) (by simp [← h]) (by rw [ByteArray.size_append]; omega)]
    simp only [metasB, ByteArray.append_assoc]

theorem numsB_size (l : List Int) : (numsB l).size ≤ 9 * l.length := by
  induction l with
  | nil => exact Nat.zero_le _
  | cons x l ih =>
    have := varB_size x.toNat
    simp only [numsB, ByteArray.size_append, List.length_cons]
    omega

theorem f_spec_l9BytesVal {x : DEdit × Unit} (h1 : x.1.2.2.1.length ≤ 1000) (h2 : x.1.2.2.2.1.length ≤ 1000) (a1 : natI x.1.1) (a2 : natI x.1.2.1) (a3 : ∀ y ∈ x.1.2.2.1, natI y) (a4 : ∀ y ∈ x.1.2.2.2.1, MetaN y) :
    f_spec_l9Bytes x = some ((editB x.1, ()), ()) := by
  obtain ⟨e, ⟨⟩⟩ := x
  dsimp only at *
  have s1 := varB_size e.1.toNat
  have s2 := varB_size e.2.1.toNat
  have s3 := varB_size e.2.2.1.length
  have s4 := varB_size e.2.2.2.1.length
  have s5 := numsB_size e.2.2.1
  unfold f_spec_l9Bytes
  dsimp only
  rw [f_spec_l2VarI a1, bnd_some, f_spec_l2VarI a2, bnd_some, catO_some (by dsimp only; omega), f_spec_l2VarVal (llen e.2.2.1, ()) e.2.2.1.length rfl (by omega), bnd_some, catO_some (by simp only [ByteArray.size_append]; omega)]
  refine (f_spec_l9Bytes_l3Loop e.2.2.1 h1 a3 e _ e.2.2.1 [] _ rfl (by simp only [ByteArray.size_append]; omega)).trans ?_
  dsimp only
  rw [f_spec_l2VarVal (llen e.2.2.2.1, ()) e.2.2.2.1.length rfl (by omega), bnd_some, catO_some (by simp only [ByteArray.size_append]; omega)]
  refine (f_spec_l9Bytes_l9Loop e.2.2.2.1 h2 a4 _ e.2.2.2.1 [] _ rfl (by simp only [ByteArray.size_append]; omega)).trans ?_
  rfl

def editP (s : ByteArray) : Option (DEdit × ByteArray) :=
  bindO (numO s) fun a s => bindO (numO s) fun b s => bindO (numO s) fun n s => bindO (manyO numI (min n 31) s) fun l s =>
    bindO (numO s) fun m s => bindO (manyO metaO (min m 31) s) fun k s => some (((a : Int), ((b : Int), (l, (k, ())))), s)

abbrev nx {α : Type} (r : Option (α × ByteArray)) : Option ByteArray := r.map (·.2)

theorem Parsed.tk {α : Type} {r : Option (List α × ByteArray)} {acc l' : List α} {p' : Dtaker} (h : Parsed r acc l' p') : Tk p' (nx r) := by
  cases r with
  | none => exact h
  | some q => exact h.2

theorem editChain (s : ByteArray) {v1 v2 v3 v7 : Int} {e1 e2 : DEdit} {p1 p2 : Dtaker} {o1 o2 o3 o4 o5 : Option ByteArray}
    (q1 : o1 = nx (numO s)) (q2 : o2 = nx (o1.bind numO)) (q3 : o3 = nx (o2.bind numO)) (q4 : o4 = nx (o3.bind (manyO numI (min v3.toNat 31)))) (q5 : o5 = nx (o4.bind numO))
    (c1 : ∀ q, numO s = some q → v1 = (q.1 : Int)) (c2 : ∀ q, o1.bind numO = some q → v2 = (q.1 : Int)) (c3 : ∀ q, o2.bind numO = some q → v3 = (q.1 : Int)) (c7 : ∀ q, o4.bind numO = some q → v7 = (q.1 : Int))
    (h1 : Parsed (o3.bind (manyO numI (min v3.toNat 31))) [] e1.2.2.1 p1) (h2 : Parsed (o5.bind (manyO metaO (min v7.toNat 31))) [] e2.2.2.2.1 p2)
    (a1 : e1.1 = v1) (a2 : e1.2.1 = v2) (b1 : e2.1 = e1.1) (b2 : e2.2.1 = e1.2.1) (b3 : e2.2.2.1 = e1.2.2.1) :
    match editP s with | none => Tk p2 none | some q => e2 = q.1 ∧ Tk p2 (some q.2) := by
  unfold editP
  cases g1 : numO s with
  | none => rw [g1] at q1; subst q1; subst q2; subst q3; subst q4; subst q5; exact h2
  | some y1 =>
    rw [g1] at q1; subst q1
    simp only [nx, Option.map_some, Option.bind_some, bindO] at q2 c2 ⊢
    cases g2 : numO y1.2 with
    | none => rw [g2] at q2; subst q2; subst q3; subst q4; subst q5; exact h2
    | some y2 =>
      rw [g2] at q2; subst q2
      simp only [nx, Option.map_some, Option.bind_some] at q3 c3 ⊢
      cases g3 : numO y2.2 with
      | none => rw [g3] at q3; subst q3; subst q4; subst q5; exact h2
      | some y3 =>
        rw [g3] at q3; subst q3
        have e3 : v3 = (y3.1 : Int) := c3 y3 g3
        subst e3
        simp only [nx, Option.map_some, Option.bind_some, Int.toNat_natCast] at q4 h1 ⊢
        cases g4 : manyO numI (min y3.1 31) y3.2 with
        | none => rw [g4] at q4; subst q4; subst q5; exact h2
        | some y4 =>
          rw [g4] at q4 h1; subst q4
          simp only [nx, Option.map_some, Option.bind_some] at q5 c7 ⊢
          cases g5 : numO y4.2 with
          | none => rw [g5] at q5; subst q5; exact h2
          | some y5 =>
            rw [g5] at q5; subst q5
            have e7 : v7 = (y5.1 : Int) := c7 y5 g5
            subst e7
            simp only [Option.map_some, Option.bind_some, Int.toNat_natCast] at h2 ⊢
            cases g6 : manyO metaO (min y5.1 31) y5.2 with
            | none => rw [g6] at h2; exact h2
            | some y6 =>
              rw [g6] at h2
              obtain ⟨d1, d2⟩ := h2
              obtain ⟨f1, f2⟩ := h1
              refine ⟨?_, d2⟩
              obtain ⟨w1, w2, w3, w4, ⟨⟩⟩ := e2
              dsimp only at b1 b2 b3 d1 ⊢
              rw [b1, b2, b3, a1, a2, d1, f1, c1 y1 g1, c2 y2 g2]
              simp

theorem nums_canon : ∀ {f : Nat} {s : ByteArray} {l : List Int} {s' : ByteArray}, manyO numI f s = some (l, s') → s = numsB l ++ s' ∧ l.length = f ∧ (∀ x ∈ l, natI x) ∧ s'.size ≤ s.size
  | 0, s, l, s', h => by
    simp only [manyO] at h
    injection h with h
    injection h with h1 h2
    subst h1; subst h2
    exact ⟨by simp only [numsB, empty_append], rfl, (fun x hx => by cases hx), Nat.le_refl _⟩
  | f + 1, s, l, s', h => by
    simp only [manyO, numI] at h
    cases hn : numO s with
    | none => rw [hn] at h; cases h
    | some q =>
      rw [hn] at h
      simp only [bindO] at h
      cases hm : manyO numI f q.2 with
      | none => rw [hm] at h; cases h
      | some y =>
        have hm' := hm
        rw [hm] at h
        injection h with h
        injection h with h1 h2
        subst h1; subst h2
        obtain ⟨k1, k2, k3⟩ := numO_some (s' := q.2) (n := q.1) hn
        obtain ⟨j1, j2, j3, j4⟩ := nums_canon hm'
        refine ⟨?_, by simp [j2], ?_, by omega⟩
        · simp only [numsB, Int.toNat_natCast, ByteArray.append_assoc]
          rw [← j1]; exact k2
        · intro x hx
          rcases List.mem_cons.1 hx with rfl | hx
          · exact ⟨by omega, by omega⟩
          · exact j3 x hx

theorem meta_canon {s : ByteArray} {m : DMeta} {s' : ByteArray} (h : metaO s = some (m, s')) (hs : s.size ≤ 1000) : s = metaB m ++ s' ∧ MetaN m ∧ s'.size ≤ s.size := by
  simp only [metaO] at h
  cases h1 : numO s with
  | none => rw [h1] at h; cases h
  | some q1 =>
    rw [h1] at h
    simp only [bindO] at h
    cases h2 : numO q1.2 with
    | none => rw [h2] at h; cases h
    | some q2 =>
      rw [h2] at h
      simp only at h
      cases h3 : txtO q2.2 with
      | none => rw [h3] at h; cases h
      | some q3 =>
        rw [h3] at h
        simp only at h
        cases h4 : txtO q3.2 with
        | none => rw [h4] at h; cases h
        | some q4 =>
          rw [h4] at h
          injection h with h
          injection h with e1 e2
          subst e1; subst e2
          obtain ⟨k1, k2, k3⟩ := numO_some (s' := q1.2) (n := q1.1) h1
          obtain ⟨l1, l2, l3⟩ := numO_some (s' := q2.2) (n := q2.1) h2
          obtain ⟨m1, m2, m3⟩ := txtO_some (s' := q3.2) (t := q3.1) h3
          obtain ⟨n1, n2, n3⟩ := txtO_some (s' := q4.2) (t := q4.1) h4
          refine ⟨?_, ⟨⟨by dsimp only; omega, by dsimp only; omega⟩, ⟨by dsimp only; omega, by dsimp only; omega⟩, by dsimp only; omega, by dsimp only; omega⟩, by omega⟩
          simp only [metaB, Int.toNat_natCast, ByteArray.append_assoc]
          rw [← n1, ← m1, ← l2]
          exact k2

theorem metas_canon : ∀ {f : Nat} {s : ByteArray} {l : List DMeta} {s' : ByteArray}, manyO metaO f s = some (l, s') → s.size ≤ 1000 → s = metasB l ++ s' ∧ l.length = f ∧ (∀ x ∈ l, MetaN x) ∧ s'.size ≤ s.size
  | 0, s, l, s', h, hs => by
    simp only [manyO] at h
    injection h with h
    injection h with h1 h2
    subst h1; subst h2
    exact ⟨by simp only [metasB, empty_append], rfl, (fun x hx => by cases hx), Nat.le_refl _⟩
  | f + 1, s, l, s', h, hs => by
    simp only [manyO] at h
    cases hn : metaO s with
    | none => rw [hn] at h; cases h
    | some q =>
      rw [hn] at h
      simp only [bindO] at h
      obtain ⟨k1, k2, k3⟩ := meta_canon (s' := q.2) (m := q.1) hn hs
      cases hm : manyO metaO f q.2 with
      | none => rw [hm] at h; cases h
      | some y =>
        rw [hm] at h
        injection h with h
        injection h with h1 h2
        subst h1; subst h2
        obtain ⟨j1, j2, j3, j4⟩ := metas_canon hm (by omega)
        refine ⟨?_, by simp [j2], ?_, by omega⟩
        · simp only [metasB, ByteArray.append_assoc]
          rw [← j1]; exact k1
        · intro x hx
          rcases List.mem_cons.1 hx with rfl | hx
          · exact k2
          · exact j3 x hx

theorem edit_canon {s : ByteArray} {e : DEdit} {s' : ByteArray} (h : editP s = some (e, s')) (hs : s.size ≤ 1000) :
    natI e.1 ∧ natI e.2.1 ∧ (∀ x ∈ e.2.2.1, natI x) ∧ (∀ x ∈ e.2.2.2.1, MetaN x) ∧ e.2.2.1.length ≤ 31 ∧ e.2.2.2.1.length ≤ 31 ∧ (e.2.2.1.length ≤ 30 → e.2.2.2.1.length ≤ 30 → s = editB e ++ s') := by
  unfold editP at h
  cases g1 : numO s with
  | none => rw [g1] at h; cases h
  | some y1 =>
    rw [g1] at h
    simp only [bindO] at h
    cases g2 : numO y1.2 with
    | none => rw [g2] at h; cases h
    | some y2 =>
      rw [g2] at h
      simp only at h
      cases g3 : numO y2.2 with
      | none => rw [g3] at h; cases h
      | some y3 =>
        rw [g3] at h
        simp only at h
        cases g4 : manyO numI (min y3.1 31) y3.2 with
        | none => rw [g4] at h; cases h
        | some y4 =>
          rw [g4] at h
          simp only at h
          cases g5 : numO y4.2 with
          | none => rw [g5] at h; cases h
          | some y5 =>
            rw [g5] at h
            simp only at h
            cases g6 : manyO metaO (min y5.1 31) y5.2 with
            | none => rw [g6] at h; cases h
            | some y6 =>
              rw [g6] at h
              injection h with h
              injection h with h1 h2
              subst h1; subst h2
              obtain ⟨a1, a2, a3⟩ := numO_some (s' := y1.2) (n := y1.1) g1
              obtain ⟨b1, b2, b3⟩ := numO_some (s' := y2.2) (n := y2.1) g2
              obtain ⟨c1, c2, c3⟩ := numO_some (s' := y3.2) (n := y3.1) g3
              obtain ⟨d1, d2, d3, d4⟩ := nums_canon (l := y4.1) (s' := y4.2) g4
              obtain ⟨f1, f2, f3⟩ := numO_some (s' := y5.2) (n := y5.1) g5
              obtain ⟨j1, j2, j3, j4⟩ := metas_canon (l := y6.1) (s' := y6.2) g6 (by omega)
              refine ⟨⟨by dsimp only; omega, by dsimp only; omega⟩, ⟨by dsimp only; omega, by dsimp only; omega⟩, d3, j3, by dsimp only; omega, by dsimp only; omega, ?_⟩
              dsimp only
              intro k1 k2
              have n3 : y3.1 = y4.1.length := by omega
              have n5 : y5.1 = y6.1.length := by omega
              simp only [editB, Int.toNat_natCast, ByteArray.append_assoc]
              rw [← n5, ← n3, ← j1, ← f2, ← d1, ← c2, ← b2]
              exact a2

def noEdit : DEdit := ((0 : Int), ((0 : Int), (([] : List Int), (([] : List DMeta), ()))))

open Classical in
def editR (s : ByteArray) : DEdit × Bool × Unit := match editP s with
  | none => (noEdit, (false, ()))
  | some q => if q.2.size = 0 ∧ GoodEd q.1 then (q.1, (true, ())) else (noEdit, (false, ()))

theorem editR_len (s : ByteArray) (hs : s.size ≤ 1000) : (editR s).1.2.2.1.length ≤ 31 ∧ (editR s).1.2.2.2.1.length ≤ 31 := by
  unfold editR
  split
  · simp [noEdit]
  · rename_i q hq
    have := edit_canon (e := q.1) (s' := q.2) hq hs
    split
    · exact ⟨this.2.2.2.2.1, this.2.2.2.2.2.1⟩
    · simp [noEdit]

theorem f_spec_l9ReadVal (x : ByteArray × Unit) (hs : x.1.size ≤ 1000) : f_spec_l9Read x = some (editR x.1, ()) := by
  obtain ⟨s, ⟨⟩⟩ := x
  dsimp only at hs ⊢
  suffices h : Does (f_spec_l9Read (s, ())) fun r => r = (editR s, ()) by
    obtain ⟨r, h1, h2⟩ := h; rw [h1, h2]
  unfold f_spec_l9Read
  obtain ⟨r1, a1, _, b1, c1⟩ := f_spec_l9R_numTk.get (s, (false, ())) (some s) rfl
  obtain ⟨r2, a2, _, b2, c2⟩ := f_spec_l9R_numTk.get r1.2.1 _ b1
  obtain ⟨r3, a3, n3, b3, c3⟩ := f_spec_l9R_numTk.get r2.2.1 _ b2
  dsimp only
  rw [a1, bnd_some, a2, bnd_some, a3, bnd_some]
  have hb : ∀ {o : Option ByteArray} {v : Int}, (∀ q, o.bind numO = some q → v = (q.1 : Int)) → ∀ s0, nx (o.bind numO) = some s0 → v ≤ 9223372036854775807 := by
    intro o v hc s0 h0
    cases hq : o.bind numO with
    | none => rw [hq] at h0; cases h0
    | some q =>
      have h1 := hc q hq
      cases o with
      | none => cases hq
      | some s1 =>
        have := (numO_some (s' := q.2) (n := q.1) hq).1
        omega
  refine f_spec_l9Read_l5Does s _ _ (min r3.1.1.toNat 31) r3.1.1 (r1.1.1, (r2.1.1, ([], ([], ())))) r3.2.1 _ b3 rfl (by simp) (hb c3) ?_
  intro e1 p1 f1 f2 f3 f4 f5
  obtain ⟨r7, a7, n7, b7, c7⟩ := f_spec_l9R_numTk.get p1 _ f5.tk
  dsimp only
  rw [a7, bnd_some]
  have hadd : e1.2.2.2.1 = [] := by rw [f3]
  refine f_spec_l9Read_l9Does s _ _ (min r7.1.1.toNat 31) r7.1.1 e1 r7.2.1 _ b7 (by rw [hadd]; rfl) (by rw [hadd]; simp) (hb c7) ?_
  intro e2 p2 g1 g2 g3 g4 g5
  rw [hadd] at g5
  have key := editChain s rfl rfl rfl rfl rfl c1 c2 c3 c7 f5 g5 f1 f2 g1 g2 g3
  dsimp only
  cases hE : editP s with
  | none =>
    rw [hE] at key
    have hbad : p2.2.1 = true := key
    refine Does.cond (fun _ => Does.val ?_) (fun h => by rw [hbad] at h; cases h)
    simp only [editR, hE]; rfl
  | some q =>
    rw [hE] at key
    obtain ⟨ke, kp⟩ := key
    subst ke
    have kp : p2 = (q.2, (false, ())) := kp
    subst kp
    refine Does.cond (fun h => by cases h) (fun _ => ?_)
    dsimp only
    rw [seq_empty]
    have hcan := edit_canon (e := q.1) (s' := q.2) hE hs
    by_cases hz : q.2.size = 0
    · rw [decide_eq_true hz]
      refine Does.cond (fun h => by cases h) (fun _ => ?_)
      refine Does.bnd (f_spec_l9EditDoes (x := (q.1, ())) (by have := hcan.2.2.2.2.1; dsimp only; omega) (by have := hcan.2.2.2.2.2.1; dsimp only; omega)) fun r hr => ?_
      dsimp only at hr
      refine Does.cond (fun h => Does.val ?_) (fun h => ?_)
      · have hng : ¬ GoodEd q.1 := fun hg => by rw [hr.2 hg] at h; cases h
        simp only [editR, hE, if_neg (show ¬ (q.2.size = 0 ∧ GoodEd q.1) from fun h => hng h.2)]; rfl
      · have hg : GoodEd q.1 := hr.1 (by simpa using h)
        rw [f_spec_l9BytesVal (x := (q.1, ())) (by have := hcan.2.2.2.2.1; dsimp only; omega) (by have := hcan.2.2.2.2.2.1; dsimp only; omega) hcan.1 hcan.2.1 hcan.2.2.1 hcan.2.2.2.1, bnd_some]
        have he : s = editB q.1 := by
          have := hcan.2.2.2.2.2.2 hg.2.2.1 hg.2.2.2.1.1
          rw [empty_of_size hz, append_empty] at this
          exact this
        dsimp only
        rw [← he, seq_self]
        refine Does.cond (fun h => by cases h) (fun _ => Does.val ?_)
        simp only [editR, hE, if_pos (And.intro hz hg)]
    · rw [decide_eq_false hz]
      refine Does.cond (fun _ => Does.val ?_) (fun h => by cases h)
      simp only [editR, hE, if_neg (show ¬ (q.2.size = 0 ∧ GoodEd q.1) from fun h => hz h.1)]; rfl

theorem f_spec_ReadEditVal (x : ByteArray × Unit) : f_spec_ReadEdit x = some (if x.1.size ≤ 1000 then editR x.1 else (noEdit, (false, ())), ()) := by
  obtain ⟨s, ⟨⟩⟩ := x
  dsimp only
  unfold f_spec_ReadEdit
  by_cases h : s.size ≤ 1000
  · rw [if_pos h]
    dsimp only
    rw [ilt_false.2 (by simp only [slen]; omega), cond_false, f_spec_l9ReadVal _ h, bnd_some]
  · rw [if_neg h]
    dsimp only
    rw [ilt_iff.2 (by simp only [slen]; omega), cond_true]
    rfl

theorem f_impl_ReadEditVal (x : ByteArray × Unit) : f_impl_ReadEdit x = some (if x.1.size ≤ 1000 then editR x.1 else (noEdit, (false, ())), ()) := by
  obtain ⟨s, ⟨⟩⟩ := x
  dsimp only
  suffices h : Does (f_impl_ReadEdit (s, ())) fun r => r = (if s.size ≤ 1000 then editR s else (noEdit, (false, ())), ()) by
    obtain ⟨r, h1, h2⟩ := h; rw [h1, h2]
  unfold f_impl_ReadEdit
  refine Does.cond (fun h => Does.val ?_) (fun h => ?_)
  · have h := ilt_iff.1 h
    simp only [slen] at h
    rw [if_neg (by omega)]; rfl
  have h := ilt_false.1 h
  simp only [slen] at h
  have hs : s.size ≤ 1000 := by omega
  rw [if_pos hs]
  obtain ⟨r1, a1, _, b1, c1⟩ := f_impl_taker_numberTk.get (s, (false, ())) (some s) rfl
  obtain ⟨r2, a2, _, b2, c2⟩ := f_impl_taker_numberTk.get r1.2.1 _ b1
  obtain ⟨r3, a3, n3, b3, c3⟩ := f_impl_taker_numberTk.get r2.2.1 _ b2
  dsimp only
  rw [a1, bnd_some, a2, bnd_some, a3, bnd_some]
  have hm : ∀ v : Int, 0 ≤ v → imin v 31 ≤ 31 ∧ min v.toNat 31 = (imin v 31 - 0).toNat ∧ 0 + ((min v.toNat 31 : Nat) : Int) ≤ 31 := by
    intro v hv
    rw [imin_eq]
    omega
  refine f_impl_ReadEdit_l7Does (imin r3.1.1 31) _ (hm _ n3).1 _ (min r3.1.1.toNat 31) 0 (r1.1.1, (r2.1.1, ([], ([], ())))) r3.2.1 _ b3 (hm _ n3).2.1 (by omega) (hm _ n3).2.2 rfl ?_
  intro e1 p1 f1 f2 f3 f4 f5
  obtain ⟨r7, a7, n7, b7, c7⟩ := f_impl_taker_numberTk.get p1 _ f5.tk
  dsimp only
  rw [a7, bnd_some]
  have hadd : e1.2.2.2.1 = [] := by rw [f3]
  refine f_impl_ReadEdit_l11Does (imin r7.1.1 31) _ (hm _ n7).1 _ (min r7.1.1.toNat 31) 0 e1 r7.2.1 _ b7 (hm _ n7).2.1 (by omega) (hm _ n7).2.2 (by rw [hadd]; rfl) ?_
  intro e2 p2 g1 g2 g3 g4 g5
  rw [hadd] at g5
  have key := editChain s rfl rfl rfl rfl rfl c1 c2 c3 c7 f5 g5 f1 f2 g1 g2 g3
  dsimp only
  rw [f_impl_taker_wholeVal, bnd_some]
  dsimp only
  cases hE : editP s with
  | none =>
    rw [hE] at key
    have hbad : p2.2.1 = true := key
    rw [hbad]
    refine Does.val ?_
    simp only [editR, hE]; rfl
  | some q =>
    rw [hE] at key
    obtain ⟨ke, kp⟩ := key
    subst ke
    have kp : p2 = (q.2, (false, ())) := kp
    subst kp
    dsimp only
    rw [Bool.not_false, Bool.true_and, seq_empty]
    have hcan := edit_canon (e := q.1) (s' := q.2) hE hs
    by_cases hz : q.2.size = 0
    · rw [decide_eq_true hz]
      refine Does.cond (fun h => by cases h) (fun _ => ?_)
      refine Does.bnd (f_impl_goodEditDoes (x := (q.1, ())) (by have := hcan.2.2.2.2.1; dsimp only; omega) (by have := hcan.2.2.2.2.2.1; dsimp only; omega)) fun r hr => ?_
      dsimp only at hr
      refine Does.cond (fun h => Does.val ?_) (fun h => Does.val ?_)
      · have hng : ¬ GoodEd q.1 := fun hg => by rw [hr.2 hg] at h; cases h
        simp only [editR, hE, if_neg (show ¬ (q.2.size = 0 ∧ GoodEd q.1) from fun h => hng h.2)]; rfl
      · have hg : GoodEd q.1 := hr.1 (by simpa using h)
        simp only [editR, hE, if_pos (And.intro hz hg)]
    · rw [decide_eq_false hz]
      refine Does.cond (fun _ => Does.val ?_) (fun h => by cases h)
      simp only [editR, hE, if_neg (show ¬ (q.2.size = 0 ∧ GoodEd q.1) from fun h => hz h.1)]; rfl

def frameB (t : ByteArray) : ByteArray := varB t.size ++ strOf (lows 4 (sumOf t)) ++ t

theorem frameB_size (t : ByteArray) : (frameB t).size ≤ t.size + 13 := by
  have := varB_size t.size
  simp only [frameB, ByteArray.size_append, strOf_size, lows_length]; omega

theorem f_spec_l2FrameVal (x : ByteArray × Unit) (hs : x.1.size ≤ 1000000) : f_spec_l2Frame x = some ((frameB x.1, ()), ()) := by
  unfold f_spec_l2Frame
  have h9 := varB_size x.1.size
  rw [f_spec_l2VarVal _ x.1.size rfl (by omega), bnd_some, f_spec_l2SumVal _ (by dsimp only; omega), bnd_some]
  dsimp only
  rw [f_spec_l2WordVal, bnd_some]
  dsimp only
  rw [catO_some (by rw [strOf_size, lows_length]; omega), catO_some (by rw [ByteArray.size_append, strOf_size, lows_length]; omega)]
  rfl

theorem f_impl_sizedVal (x : ByteArray × Unit) (hs : x.1.size ≤ 1000000) : f_impl_sized x = some ((varB x.1.size ++ x.1, ()), ()) := by
  unfold f_impl_sized
  have h9 := varB_size x.1.size
  rw [f_impl_varBytesVal _ x.1.size rfl (by omega), bnd_some]
  dsimp only
  rw [catO_some (by omega)]

def takeFr (s : ByteArray) : Option (ByteArray × Nat) :=
  if (takeVar s).2 = 0 then none else if 1000 < (takeVar s).1 then none else if s.size < (takeVar s).2 + 4 + (takeVar s).1 then none else
  if strOf (lows 4 (sumOf (s.extract ((takeVar s).2 + 4) ((takeVar s).2 + 4 + (takeVar s).1)))) = s.extract (takeVar s).2 ((takeVar s).2 + 4) then
    some (s.extract ((takeVar s).2 + 4) ((takeVar s).2 + 4 + (takeVar s).1), (takeVar s).2 + 4 + (takeVar s).1) else none

def frR (q : Option (ByteArray × Nat)) : (ByteArray × Int × Bool × Unit) × Unit := match q with
  | none => ((⟨#[]⟩, ((0 : Int), (false, ()))), ())
  | some q => ((q.1, ((q.2 : Int), (true, ()))), ())

theorem takeFr_size {s : ByteArray} {q : ByteArray × Nat} (h : takeFr s = some q) : q.1.size ≤ 1000 ∧ q.2 ≤ s.size := by
  simp only [takeFr] at h
  split at h
  · cases h
  split at h
  · cases h
  split at h
  · cases h
  split at h
  · injection h with h; subst h
    simp only [ByteArray.size_extract]; omega
  · cases h

theorem f_impl_TakeFrameVal (x : ByteArray × Unit) (hs : x.1.size ≤ 1048576) : f_impl_TakeFrame x = some (frR (takeFr x.1)) := by
  obtain ⟨s, ⟨⟩⟩ := x
  dsimp only at hs
  unfold f_impl_TakeFrame takeFr
  rw [val_f_impl_TakeVar, bnd_some]
  dsimp only
  by_cases h1 : (takeVar s).2 = 0
  · rw [if_pos h1, show ieq ((takeVar s).2 : Int) (0 : Int) = true from ieq_iff.2 (by omega), cond_true]; rfl
  rw [if_neg h1, show ieq ((takeVar s).2 : Int) (0 : Int) = false from ieq_false.2 (by omega), cond_false]
  by_cases h2 : 1000 < (takeVar s).1
  · rw [if_pos h2, show ilt (1000 : Int) ((takeVar s).1 : Int) = true from ilt_iff.2 (by omega), cond_true]; rfl
  have hv := takeVar_ok s
  rw [if_neg h2, show ilt (1000 : Int) ((takeVar s).1 : Int) = false from ilt_false.2 (by omega), cond_false]
  rw [show iadd .i64 ((takeVar s).2 : Int) (4 : Int) = (((takeVar s).2 + 4 : Nat) : Int) from iaddN (b := 4) (by omega), iaddN (by omega)]
  by_cases h3 : s.size < (takeVar s).2 + 4 + (takeVar s).1
  · rw [if_pos h3, show ilt (slen s) (((takeVar s).2 + 4 + (takeVar s).1 : Nat) : Int) = true from ilt_iff.2 (by simp only [slen]; omega), cond_true]; rfl
  rw [if_neg h3, show ilt (slen s) (((takeVar s).2 + 4 + (takeVar s).1 : Nat) : Int) = false from ilt_false.2 (by simp only [slen]; omega), cond_false]
  rw [bounds3 (by omega) (by omega), req_true, f_impl_SumOfVal _ (by simp only [ByteArray.size_extract]; omega), bnd_some]
  dsimp only
  rw [f_impl_lowFirstVal _ 4 (by omega) rfl, bnd_some]
  dsimp only
  rw [bounds3 (by omega) (by omega), req_true]
  simp only [Int.toNat_natCast]
  by_cases h4 : strOf (lows 4 (sumOf (s.extract ((takeVar s).2 + 4) ((takeVar s).2 + 4 + (takeVar s).1)))) = s.extract (takeVar s).2 ((takeVar s).2 + 4)
  · rw [if_pos h4, (seq_iff _ _).2 h4]; rfl
  · rw [if_neg h4, seq_false.2 h4]; rfl

theorem f_spec_l2TakeFrameVal (x : ByteArray × Unit) (hs : x.1.size ≤ 1048576) : f_spec_l2TakeFrame x = some (frR (takeFr x.1)) := by
  obtain ⟨s, ⟨⟩⟩ := x
  dsimp only at hs
  unfold f_spec_l2TakeFrame takeFr
  rw [val_f_spec_l2Take, bnd_some]
  dsimp only
  by_cases h1 : (takeVar s).2 = 0
  · rw [if_pos h1, show ieq ((takeVar s).2 : Int) (0 : Int) = true from ieq_iff.2 (by omega), cond_true]; rfl
  rw [if_neg h1, show ieq ((takeVar s).2 : Int) (0 : Int) = false from ieq_false.2 (by omega), cond_false]
  by_cases h2 : 1000 < (takeVar s).1
  · rw [if_pos h2, show ilt (1000 : Int) ((takeVar s).1 : Int) = true from ilt_iff.2 (by omega), cond_true]; rfl
  have hv := takeVar_ok s
  rw [if_neg h2, show ilt (1000 : Int) ((takeVar s).1 : Int) = false from ilt_false.2 (by omega), cond_false]
  rw [show iadd .i64 ((takeVar s).2 : Int) (4 : Int) = (((takeVar s).2 + 4 : Nat) : Int) from iaddN (b := 4) (by omega), iaddN (by omega)]
  by_cases h3 : s.size < (takeVar s).2 + 4 + (takeVar s).1
  · rw [if_pos h3, show ilt (slen s) (((takeVar s).2 + 4 + (takeVar s).1 : Nat) : Int) = true from ilt_iff.2 (by simp only [slen]; omega), cond_true]; rfl
  rw [if_neg h3, show ilt (slen s) (((takeVar s).2 + 4 + (takeVar s).1 : Nat) : Int) = false from ilt_false.2 (by simp only [slen]; omega), cond_false]
  rw [bounds3 (by omega) (by omega), req_true, f_spec_l2SumVal _ (by simp only [ByteArray.size_extract]; omega), bnd_some]
  dsimp only
  rw [f_spec_l2WordVal, bnd_some]
  dsimp only
  rw [bounds3 (by omega) (by omega), req_true]
  simp only [Int.toNat_natCast]
  by_cases h4 : strOf (lows 4 (sumOf (s.extract ((takeVar s).2 + 4) ((takeVar s).2 + 4 + (takeVar s).1)))) = s.extract (takeVar s).2 ((takeVar s).2 + 4)
  · rw [if_pos h4, (seq_iff _ _).2 h4]; rfl
  · rw [if_neg h4, seq_false.2 h4]; rfl

theorem mid_extract {A B C : ByteArray} {a b : Nat} (ha : a = A.size) (hb : b = A.size + B.size) : (A ++ B ++ C).extract a b = B := by
  subst ha; subst hb
  have h1 : (A ++ B ++ C).extract A.size (A.size + B.size) = (dr (A ++ B ++ C) A.size).extract 0 B.size := by
    rw [dr_head _ _ _ (by simp only [ByteArray.size_append]; omega)]
  rw [h1, ByteArray.append_assoc, dr_append, head_append _ _ rfl]

def q1 (s : ByteArray) : Dtaker := textS (numS (s, (false, ()))) (numK (s, (false, ())))

def q2 (s : ByteArray) : Dtaker := numS (q1 s)

def q3 (s : ByteArray) : Dtaker := numS (q2 s)

def q4 (s : ByteArray) : Dtaker := numS (q3 s)

/-- a cursor over bytes that has made n steps at most -/
structure CurOk (n : Nat) (c : Dl1Cur) : Prop where
  by0 : ∀ x ∈ c.1, 0 ≤ x ∧ x < 256
  lo : 0 ≤ c.2.1
  hi : c.2.1 ≤ n

theorem CurOk.le {n m : Nat} {c : Dl1Cur} (h : CurOk n c) (hm : n ≤ m) : CurOk m c := ⟨h.by0, h.lo, by have := h.hi; omega⟩

theorem f_spec_l1Cur_nextDoes {n : Nat} {x : Dl1Cur × Unit} (h : CurOk n x.1) (hn : n ≤ 1099511627776) : Does (f_spec_l1Cur_next x) fun r => 0 ≤ r.1.1 ∧ r.1.1 ≤ 255 ∧ CurOk (n + 1) r.2.1 := by
  obtain ⟨⟨code, at', seed, ⟨⟩⟩, ⟨⟩⟩ := x
  obtain ⟨h1, h2, h3⟩ := h
  dsimp only at h1 h2 h3
  have e1 : iadd .i64 at' (1 : Int) = at' + 1 := iadd_i64 (by omega)
  unfold f_spec_l1Cur_next f_spec_l1Cur_next_i3
  dsimp only
  have fin : ∀ b : Int, 0 ≤ b → b ≤ 255 → Does (bif ile (iadd .i64 at' (1 : Int)) (llen code) then
      some ((b, ()), ((code, ((iadd .i64 at' (1 : Int)), ((iadd .u64 (iadd .u64 (imul .u64 seed (6364136223846793005 : Int)) (IntKind.wrap .u64 b)) (1442695040888963407 : Int)), ()))), ()))
      else some (((IntKind.wrap .i64 (iand .u64 (ishr .u64 (iadd .u64 (iadd .u64 (imul .u64 seed (6364136223846793005 : Int)) (IntKind.wrap .u64 b)) (1442695040888963407 : Int)) (40 : Int)) (255 : Int))), ()), ((code, ((iadd .i64 at' (1 : Int)), ((iadd .u64 (iadd .u64 (imul .u64 seed (6364136223846793005 : Int)) (IntKind.wrap .u64 b)) (1442695040888963407 : Int)), ()))), ())))
      (fun r : (Int × Unit) × (Dl1Cur × Unit) => 0 ≤ r.1.1 ∧ r.1.1 ≤ 255 ∧ CurOk (n + 1) r.2.1) := by
    intro b hb0 hb1
    rw [e1]
    have hc : ∀ sd : Int, CurOk (n + 1) (code, (at' + 1, (sd, ()))) := fun sd => ⟨h1, by dsimp only; omega, by dsimp only; omega⟩
    refine Does.cond (fun _ => Does.val ⟨hb0, hb1, hc _⟩) (fun _ => Does.val ?_)
    have := iand_255 .u64 (ishr .u64 (iadd .u64 (iadd .u64 (imul .u64 seed (6364136223846793005 : Int)) (IntKind.wrap .u64 b)) (1442695040888963407 : Int)) (40 : Int)) (.inl rfl)
    refine ⟨?_, ?_, hc _⟩
    · dsimp only; rw [wrap_i64 _ (by omega)]; exact this.1
    · dsimp only; rw [wrap_i64 _ (by omega)]; exact this.2
  cases hlt : ilt at' (llen code) with
  | true =>
    have hlt := ilt_iff.1 hlt
    simp only [llen] at hlt
    refine Does.getO h2 hlt fun y hy => ?_
    have hyr := h1 y (List.mem_of_getElem? hy)
    rw [wrap_i64 y (by omega)]
    exact fin y hyr.1 (by omega)
  | false => exact fin 0 (by decide) (by decide)

theorem f_spec_l1Cur_pickDoes {n : Nat} {x : Dl1Cur × Int × Unit} (h : CurOk n x.1) (hn : n ≤ 1099511627775) : Does (f_spec_l1Cur_pick x) fun r => 0 ≤ r.1.1 ∧ (r.1.1 < x.2.1 ∨ r.1.1 = 0) ∧ CurOk (n + 2) r.2.1 := by
  obtain ⟨c, m, ⟨⟩⟩ := x
  dsimp only at h
  unfold f_spec_l1Cur_pick
  dsimp only
  refine Does.cond (fun _ => Does.val ⟨Int.le_refl 0, .inr rfl, h.le (by omega)⟩) (fun hm => ?_)
  have hm := ile_false.1 hm
  refine Does.bnd (f_spec_l1Cur_nextDoes (x := (c, ())) h (by omega)) fun r1 hr1 => ?_
  obtain ⟨r10, r11, r12⟩ := hr1
  unfold f_spec_l1Cur_pick_i5
  dsimp only
  have fin : ∀ (b : Int) (c' : Dl1Cur), 0 ≤ b → CurOk (n + 2) c' → Does (Ev.req (!decide (m = (0 : Int))) (some (((irem .i64 b m), ()), (c', ())))) (fun r : (Int × Unit) × (Dl1Cur × Unit) => 0 ≤ r.1.1 ∧ (r.1.1 < m ∨ r.1.1 = 0) ∧ CurOk (n + 2) r.2.1) := by
    intro b c' hb hc
    have := irem_range hb (show 0 < m by omega)
    exact Does.req (by simp; omega) (Does.val ⟨this.1, .inl this.2.1, hc⟩)
  refine Does.cond (fun _ => ?_) (fun _ => fin _ _ r10 (r12.le (by omega)))
  refine Does.bnd (f_spec_l1Cur_nextDoes (x := (r1.2.1, ())) r12 (by omega)) fun r2 hr2 => ?_
  obtain ⟨r20, r21, r22⟩ := hr2
  refine fin _ _ ?_ r22
  rw [imul_i64 (by omega), iadd_i64 (by omega)]
  omega

theorem f_spec_l1Cur_oneDoes {n : Nat} {x : Dl1Cur × Int × Unit} (h : CurOk n x.1) (hn : n ≤ 1099511627775) : Does (f_spec_l1Cur_one x) fun r => CurOk (n + 2) r.2.1 := by
  unfold f_spec_l1Cur_one
  exact Does.bnd (f_spec_l1Cur_pickDoes (x := (x.1, (x.2.1, ()))) h hn) fun r hr => Does.val hr.2.2

theorem f_spec_l1Cur_ofDoes {n : Nat} {x : Dl1Cur × List ByteArray × Unit} (h : CurOk n x.1) (hn : n ≤ 1099511627775) (h0 : x.2.1 ≠ []) : Does (f_spec_l1Cur_of x) fun r => r.1.1 ∈ x.2.1 ∧ CurOk (n + 2) r.2.1 := by
  unfold f_spec_l1Cur_of
  have hp : 0 < x.2.1.length := List.length_pos_iff.2 h0
  refine Does.bnd (f_spec_l1Cur_pickDoes (x := (x.1, (llen x.2.1, ()))) h hn) fun r hr => ?_
  obtain ⟨r0, r1, r2⟩ := hr
  simp only [llen] at r1
  refine Does.getO r0 (by omega) fun y hy => ?_
  rw [hy]
  exact Does.val ⟨List.mem_of_getElem? hy, r2⟩

theorem f_spec_l1Cur_amongDoes {n : Nat} {x : Dl1Cur × List Int × Unit} (h : CurOk n x.1) (hn : n ≤ 1099511627775) (h0 : x.2.1 ≠ []) : Does (f_spec_l1Cur_among x) fun r => r.1.1 ∈ x.2.1 ∧ CurOk (n + 2) r.2.1 := by
  unfold f_spec_l1Cur_among
  have hp : 0 < x.2.1.length := List.length_pos_iff.2 h0
  refine Does.bnd (f_spec_l1Cur_pickDoes (x := (x.1, (llen x.2.1, ()))) h hn) fun r hr => ?_
  obtain ⟨r0, r1, r2⟩ := hr
  simp only [llen] at r1
  refine Does.getO r0 (by omega) fun y hy => ?_
  rw [hy]
  exact Does.val ⟨List.mem_of_getElem? hy, r2⟩

theorem f_spec_l1Cur_keyDoes {n : Nat} {x : Dl1Cur × Unit} (h : CurOk n x.1) (hn : n ≤ 1099511627770) : Does (f_spec_l1Cur_key x) fun r => CurOk (n + 4) r.2.1 := by
  unfold f_spec_l1Cur_key
  refine Does.bnd (f_spec_l1Cur_oneDoes (x := (x.1, ((60 : Int), ()))) h (by omega)) fun r hr => ?_
  refine Does.cond (fun _ => ?_) (fun _ => ?_)
  · exact Does.bnd (f_spec_l1Cur_ofDoes (n := n + 2) hr (by omega) (by simp)) fun r2 hr2 => Does.val hr2.2
  · exact Does.bnd (f_spec_l1Cur_ofDoes (n := n + 2) hr (by omega) (by simp)) fun r2 hr2 => Does.val hr2.2

/-- ranges of one level have a key in common -/
def meetB (n m : DMeta) : Bool := ieq n.2.1 m.2.1 && ((slt n.2.2.1 m.2.2.2.1 || seq n.2.2.1 m.2.2.2.1) && (slt m.2.2.1 n.2.2.2.1 || seq m.2.2.1 n.2.2.2.1))

def VerAt (v : DVersion) (i : Nat) (m : DMeta) : Prop := m.1 < v.1 ∧ (0 < m.2.1 → ∀ (j : Nat) (n : DMeta), j < i → v.2.2.1[j]? = some n → meetB n m = false)

def GoodV (v : DVersion) : Prop := inR v.1 1 100001 = true ∧ inR v.2.1 0 1000000000 = true ∧ MetasOk v.2.2.1 ∧ ∀ i m, v.2.2.1[i]? = some m → VerAt v i m

theorem f_impl_GoodVersion_1Val (n m : DMeta) : f_impl_GoodVersion_1 (n, (m, ())) = some ((meetB n m, ()), ()) := by
  unfold f_impl_GoodVersion_1 f_impl_Meta_meets meetB
  dsimp only
  cases ieq n.2.1 m.2.1
  · rfl
  · cases slt n.2.2.1 m.2.2.2.1 || seq n.2.2.1 m.2.2.2.1 <;> rfl

/-- the first place where b holds -/
def IdxAt (l : List DMeta) (b : DMeta → Bool) (i : Int) : Prop := (i = -1 ∧ ∀ x ∈ l, b x = false) ∨ ∃ (k : Nat) (x : DMeta), i = (k : Int) ∧ l[k]? = some x ∧ b x = true

theorem f_slices_IndexFunc_MetaDoes (l : List DMeta) (hl : l.length ≤ 1000) (p : DMeta × Unit → Option (Bool × Unit)) (b : DMeta → Bool) (hp : ∀ x, p (x, ()) = some (b x, ())) :
    Does (f_slices_IndexFunc_Meta (l, (p, ()))) fun r => IdxAt l b r.1.1 := by
  unfold f_slices_IndexFunc_Meta
  refine Does.loop (c := f_slices_IndexFunc_Meta_l2c) (v := f_slices_IndexFunc_Meta_l2v) (ex := f_slices_IndexFunc_Meta_l2e)
    (fun (xc : ((List DMeta) × ((DMeta × Unit) → Option (Bool × Unit)) × Int × Unit) × Unit) (xv : (Int × Unit) × Unit) => xc = ((l, (p, (llen l, ()))), ()) ∧ ∃ j : Nat, xv = (((j : Int), ()), ()) ∧ j ≤ l.length ∧ ∀ i x, i < j → l[i]? = some x → b x = false)
    (fun _ (xv : (Int × Unit) × Unit) => l.length - Int.toNat xv.1.1) ?_ ⟨rfl, 0, rfl, by omega, fun i x h => by omega⟩
  rintro xc xv ⟨rfl, j, rfl, hj, hb⟩
  simp only [round, f_slices_IndexFunc_Meta_l2]
  refine Does.cond (fun hlt => ?_) (fun hlt => ?_)
  · have hlt := ilt_iff.1 hlt
    simp only [llen] at hlt
    refine Does.getO (by omega) (by omega) fun y hy => ?_
    rw [Int.toNat_natCast] at hy
    rw [hp, bnd_some]
    refine Does.cond (fun h1 => Does.val (Does.val ?_)) (fun h1 => Does.val ?_)
    · exact .inr ⟨j, y, rfl, hy, h1⟩
    · rw [iadd_i64 (by omega)]
      exact ⟨⟨rfl, j + 1, rfl, by omega, upto_step (P := fun _ x => b x = false) hb hy h1⟩, by dsimp only; omega⟩
  · have hlt := ilt_false.1 hlt
    simp only [llen] at hlt
    refine Does.val (Does.val ?_)
    refine .inl ⟨rfl, fun x hx => ?_⟩
    obtain ⟨i, hi, rfl⟩ := List.getElem_of_mem hx
    exact hb i _ (by omega) (List.getElem?_eq_getElem hi)

theorem f_slices_ContainsFunc_MetaDoes (l : List DMeta) (hl : l.length ≤ 1000) (p : DMeta × Unit → Option (Bool × Unit)) (b : DMeta → Bool) (hp : ∀ x, p (x, ()) = some (b x, ())) :
    Does (f_slices_ContainsFunc_Meta (l, (p, ()))) fun r => (r.1.1 = true ↔ ∃ x ∈ l, b x = true) := by
  unfold f_slices_ContainsFunc_Meta
  refine Does.bnd (f_slices_IndexFunc_MetaDoes l hl p b hp) fun r hr => Does.val ?_
  rcases hr with ⟨h1, h2⟩ | ⟨k, x, h1, h2, h3⟩
  · rw [h1]
    refine ⟨(fun h => by cases h), fun ⟨x, hx, hb⟩ => ?_⟩
    rw [h2 x hx] at hb; cases hb
  · rw [h1]
    exact ⟨fun _ => ⟨x, List.mem_of_getElem? h2, h3⟩, fun _ => ile_iff.2 (show (0 : Int) ≤ (k : Int) by omega)⟩

theorem take_mem {α : Type} {l : List α} {i : Nat} {x : α} : x ∈ l.take i ↔ ∃ j, j < i ∧ l[j]? = some x := by
  rw [List.mem_iff_getElem?]
  constructor
  · rintro ⟨j, hj⟩
    rw [List.getElem?_take] at hj
    by_cases h : j < i
    · rw [if_pos h] at hj; exact ⟨j, h, hj⟩
    · rw [if_neg h] at hj; cases hj
  · rintro ⟨j, h, hj⟩
    exact ⟨j, by rw [List.getElem?_take, if_pos h]; exact hj⟩

theorem f_impl_GoodVersionDoes {x : DVersion × Unit} (hl : x.1.2.2.1.length ≤ 1000) : Does (f_impl_GoodVersion x) fun r => (r.1.1 = true ↔ GoodV x.1) := by
  obtain ⟨v, ⟨⟩⟩ := x
  dsimp only at hl ⊢
  unfold f_impl_GoodVersion f_impl_nextOk f_impl_isSeq
  rw [val_f_impl_in, bnd_some]; dsimp only
  cases a1 : inR v.1 1 100001
  · rw [cond_false, bnd_some]; exact Does.val ⟨(fun h => by cases h), fun h => by have := h.1; rw [a1] at this; cases this⟩
  rw [cond_true, val_f_impl_in, bnd_some]; dsimp only
  rw [bnd_some]; dsimp only
  rw [bnd_some]; dsimp only
  cases a2 : inR v.2.1 0 1000000000
  · exact Does.val ⟨(fun h => by cases h), fun h => by have := h.2.1; rw [a2] at this; cases this⟩
  simp only [Bool.not_true, cond_false]
  refine Does.bnd (f_impl_metasOkDoes (x := (v.2.2.1, ())) hl) fun r2 hr2 => ?_
  refine Does.cond (fun h3 => Does.val ?_) (fun h3 => ?_)
  · refine ⟨(fun h => by cases h), fun h => ?_⟩
    have := hr2.2 h.2.2.1
    rw [this] at h3; cases h3
  have h3 : MetasOk v.2.2.1 := hr2.1 (by simpa using h3)
  refine Does.loop (c := f_impl_GoodVersion_l4c) (v := f_impl_GoodVersion_l4v) (ex := f_impl_GoodVersion_l4e)
    (fun (xc : ((List DMeta) × Int × Unit) × (DVersion × Unit)) (xv : (Int × Unit) × Unit) => xc = ((v.2.2.1, (llen v.2.2.1, ())), (v, ())) ∧ ∃ j : Nat, xv = (((j : Int), ()), ()) ∧ j ≤ v.2.2.1.length ∧ ∀ i x, i < j → v.2.2.1[i]? = some x → VerAt v i x)
    (fun _ (xv : (Int × Unit) × Unit) => v.2.2.1.length - Int.toNat xv.1.1) ?_ ⟨rfl, 0, rfl, by omega, fun i x h => by omega⟩
  rintro xc xv ⟨rfl, j, rfl, hj, hb⟩
  simp only [round, f_impl_GoodVersion_l4]
  refine Does.cond (fun hlt => ?_) (fun hlt => ?_)
  · have hlt := ilt_iff.1 hlt
    simp only [llen] at hlt
    refine Does.getO (by omega) (by omega) fun y hy => ?_
    rw [Int.toNat_natCast] at hy
    have next : VerAt v j y → (((v.2.2.1, (llen v.2.2.1, ())), (v, ())) = ((v.2.2.1, (llen v.2.2.1, ())), (v, ())) ∧ ∃ k : Nat, (((iadd .i64 (j : Int) (1 : Int)), ()), ()) = (((k : Int), ()), ()) ∧ k ≤ v.2.2.1.length ∧ ∀ i x, i < k → v.2.2.1[i]? = some x → VerAt v i x) ∧ v.2.2.1.length - Int.toNat (iadd .i64 (j : Int) (1 : Int)) < v.2.2.1.length - Int.toNat (j : Int) := fun hv => by
      rw [iadd_i64 (by omega)]
      exact ⟨⟨rfl, j + 1, rfl, by omega, upto_step hb hy hv⟩, by omega⟩
    refine Does.cond (fun h4 => Does.val (Does.val ?_)) (fun h4 => ?_)
    · have h4 := ile_iff.1 h4
      exact ⟨(fun h => by cases h), fun h => by have := (h.2.2.2 j y hy).1; omega⟩
    · have h4 := ile_false.1 h4
      refine Does.cond (fun h5 => ?_) (fun h5 => ?_)
      · have h5 := ilt_iff.1 h5
        refine Does.req (by simp; omega) ?_
        have hlen : (List.take (Int.toNat (j : Int) - 0) (List.drop 0 v.2.2.1)).length ≤ 1000 := by simp; omega
        refine Does.bnd (f_slices_ContainsFunc_MetaDoes _ hlen _ (fun n => meetB n y) (fun n => by dsimp only; rw [f_impl_GoodVersion_1Val]; rfl)) fun r4 hr4 => ?_
        have hm : ∀ n, n ∈ List.take (Int.toNat (j : Int) - 0) (List.drop 0 v.2.2.1) ↔ ∃ i, i < j ∧ v.2.2.1[i]? = some n := fun n => by
          rw [List.drop_zero, Nat.sub_zero, Int.toNat_natCast, take_mem]
        refine Does.cond (fun h6 => Does.val (Does.val ?_)) (fun h6 => Does.val (next ⟨h4, fun _ i n hi hn => ?_⟩))
        · obtain ⟨n, hn, hb6⟩ := hr4.1 h6
          obtain ⟨i, hi, hn⟩ := (hm n).1 hn
          refine ⟨(fun h => by cases h), fun h => ?_⟩
          have := (h.2.2.2 j y hy).2 h5 i n hi hn
          rw [this] at hb6; cases hb6
        · cases hmb : meetB n y with
          | false => rfl
          | true =>
            have := hr4.2 ⟨n, (hm n).2 ⟨i, hi, hn⟩, hmb⟩
            rw [this] at h6; cases h6
      · have h5 := ilt_false.1 h5
        exact Does.val (next ⟨h4, fun h => by omega⟩)
  · have hlt := ilt_false.1 hlt
    simp only [llen] at hlt
    exact Does.val (Does.val ⟨fun _ => ⟨a1, a2, h3, upto_all (by omega) hb⟩, fun _ => rfl⟩)

theorem f_spec_GoodVersionDoes {x : DVersion × Unit} (hl : x.1.2.2.1.length ≤ 1000) : Does (f_spec_GoodVersion x) fun r => (r.1.1 = true ↔ GoodV x.1) := by
  obtain ⟨v, ⟨⟩⟩ := x
  dsimp only at hl ⊢
  unfold f_spec_GoodVersion f_spec_l9Counts f_spec_l4Seq
  rw [val_f_spec_l1In, bnd_some]; dsimp only
  cases a1 : inR v.1 1 100001
  · rw [cond_false, bnd_some]; exact Does.val ⟨(fun h => by cases h), fun h => by have := h.1; rw [a1] at this; cases this⟩
  rw [cond_true, val_f_spec_l1In, bnd_some]; dsimp only
  rw [bnd_some]; dsimp only
  rw [bnd_some]; dsimp only
  cases a2 : inR v.2.1 0 1000000000
  · exact Does.val ⟨(fun h => by cases h), fun h => by have := h.2.1; rw [a2] at this; cases this⟩
  simp only [Bool.not_true, cond_false]
  rw [metas_same]
  refine Does.bnd (f_impl_metasOkDoes (x := (v.2.2.1, ())) hl) fun r2 hr2 => ?_
  refine Does.cond (fun h3 => Does.val ?_) (fun h3 => ?_)
  · refine ⟨(fun h => by cases h), fun h => ?_⟩
    have := hr2.2 h.2.2.1
    rw [this] at h3; cases h3
  have h3 : MetasOk v.2.2.1 := hr2.1 (by simpa using h3)
  refine Does.loop (c := f_spec_GoodVersion_l4c) (v := f_spec_GoodVersion_l4v) (ex := f_spec_GoodVersion_l4e)
    (fun (xc : Unit × Unit) (xv : ((List DMeta) × Int × Int × Unit) × (DVersion × Unit)) => ∃ j : Nat, xv = ((v.2.2.1, (llen v.2.2.1, ((j : Int), ()))), (v, ())) ∧ j ≤ v.2.2.1.length ∧ ∀ i x, i < j → v.2.2.1[i]? = some x → VerAt v i x)
    (fun _ (xv : ((List DMeta) × Int × Int × Unit) × (DVersion × Unit)) => v.2.2.1.length - Int.toNat xv.1.2.2.1) ?_ ⟨0, rfl, by omega, fun i x h => by omega⟩
  rintro xc xv ⟨j, rfl, hj, hb⟩
  simp only [round, f_spec_GoodVersion_l4]
  refine Does.cond (fun hlt => ?_) (fun hlt => ?_)
  · have hlt := ilt_iff.1 hlt
    simp only [llen] at hlt
    refine Does.getO (by omega) (by omega) fun y hy => ?_
    rw [Int.toNat_natCast] at hy
    refine Does.cond (fun h4 => Does.val (Does.val ?_)) (fun h4 => ?_)
    · have h4 := ile_iff.1 h4
      exact ⟨(fun h => by cases h), fun h => by have := (h.2.2.2 j y hy).1; omega⟩
    · have h4 := ile_false.1 h4
      refine Does.req (by simp; omega) ?_
      obtain ⟨L, hL⟩ : ∃ L, L = List.take (Int.toNat (j : Int) - 0) (List.drop 0 v.2.2.1) := ⟨_, rfl⟩
      have hm : ∀ n, n ∈ L ↔ ∃ i, i < j ∧ v.2.2.1[i]? = some n := fun n => by
        rw [hL, List.drop_zero, Nat.sub_zero, Int.toNat_natCast, take_mem]
      have hlen : L.length ≤ 1000 := by rw [hL]; simp; omega
      rw [← hL]
      refine Does.loop (c := f_spec_GoodVersion_l9c) (v := f_spec_GoodVersion_l9v) (ex := f_spec_GoodVersion_l9e)
        (fun (xc : ((List DMeta) × Int × Int × (List DMeta) × Int × Unit) × (DVersion × DMeta × Unit)) (xv : (Int × Unit) × Unit) => xc = ((v.2.2.1, (llen v.2.2.1, ((j : Int), (L, (llen L, ()))))), (v, (y, ()))) ∧ ∃ u : Nat, xv = (((u : Int), ()), ()) ∧ u ≤ L.length ∧ ∀ i x, i < u → L[i]? = some x → (0 < y.2.1 → meetB x y = false))
        (fun _ (xv : (Int × Unit) × Unit) => L.length - Int.toNat xv.1.1) ?_ ⟨rfl, 0, rfl, by omega, fun i x h => by omega⟩
      rintro xc xv ⟨rfl, u, rfl, hu, hc⟩
      simp only [round, f_spec_GoodVersion_l9]
      refine Does.cond (fun hlt2 => ?_) (fun hlt2 => ?_)
      · have hlt2 := ilt_iff.1 hlt2
        simp only [llen] at hlt2
        refine Does.getO (by omega) (by omega) fun n hn => ?_
        rw [Int.toNat_natCast] at hn
        have next : (0 < y.2.1 → meetB n y = false) → (((v.2.2.1, (llen v.2.2.1, ((j : Int), (L, (llen L, ()))))), (v, (y, ()))) = ((v.2.2.1, (llen v.2.2.1, ((j : Int), (L, (llen L, ()))))), (v, (y, ()))) ∧ ∃ k : Nat, (((iadd .i64 (u : Int) (1 : Int)), ()), ()) = (((k : Int), ()), ()) ∧ k ≤ L.length ∧ ∀ i x, i < k → L[i]? = some x → (0 < y.2.1 → meetB x y = false)) ∧ L.length - Int.toNat (iadd .i64 (u : Int) (1 : Int)) < L.length - Int.toNat (u : Int) := fun hv => by
          rw [iadd_i64 (by omega)]
          exact ⟨⟨rfl, u + 1, rfl, by omega, upto_step (P := fun _ x => 0 < y.2.1 → meetB x y = false) hc hn hv⟩, by omega⟩
        refine Does.cond (fun b1 => ?_) (fun b1 => Does.val (next fun h => by have := ilt_false.1 b1; omega))
        refine Does.cond (fun b2 => ?_) (fun b2 => Does.val (next fun h => by unfold meetB; rw [b2]; rfl))
        refine Does.cond (fun b3 => ?_) (fun b3 => Does.val (next fun h => by unfold meetB; rw [b3]; simp))
        refine Does.cond (fun b4 => Does.val (Does.val (Does.val ?_))) (fun b4 => Does.val (next fun h => by unfold meetB; rw [b4]; simp))
        refine ⟨(fun h => by cases h), fun h => ?_⟩
        obtain ⟨i, hi, hn2⟩ := (hm n).1 (List.mem_of_getElem? hn)
        have := (h.2.2.2 j y hy).2 (ilt_iff.1 b1) i n hi hn2
        unfold meetB at this
        rw [b2, b3, b4] at this
        cases this
      · have hlt2 := ilt_false.1 hlt2
        simp only [llen] at hlt2
        refine Does.val (Does.val ?_)
        dsimp only
        rw [iadd_i64 (by omega)]
        refine ⟨⟨j + 1, rfl, by omega, upto_step hb hy ⟨h4, fun h i n hi hn => ?_⟩⟩, by omega⟩
        obtain ⟨q, hq⟩ := List.mem_iff_getElem?.1 ((hm n).2 ⟨i, hi, hn⟩)
        exact upto_all (by omega) hc q n hq h
  · have hlt := ilt_false.1 hlt
    simp only [llen] at hlt
    exact Does.val (Does.val ⟨fun _ => ⟨a1, a2, h3, upto_all (by omega) hb⟩, fun _ => rfl⟩)

def Rises (l : List DMeta) : Prop := l.Pairwise fun a b => a.1 < b.1

theorem rises_of {l : List DMeta} (h : ∀ i x, l[i]? = some x → ∀ y, 0 < i → l[i - 1]? = some y → y.1 < x.1) : Rises l := by
  have key : ∀ (j i : Nat) (a b : DMeta), i < j → l[i]? = some a → l[j]? = some b → a.1 < b.1 := by
    intro j
    induction j with
    | zero => intro i a b hi; omega
    | succ j ih =>
      intro i a b hi ha hb
      have hj : j < l.length := by have := (List.getElem?_eq_some_iff.1 hb).1; omega
      have hc := h (j + 1) b hb l[j] (by omega) (by simp [hj])
      rcases Nat.lt_or_ge i j with h1 | h1
      · have := ih i a l[j] h1 ha (List.getElem?_eq_getElem hj)
        omega
      · have : i = j := by omega
        subst this
        rw [List.getElem?_eq_getElem hj] at ha
        injection ha with ha
        subst ha; exact hc
  unfold Rises
  rw [List.pairwise_iff_getElem]
  intro i j hi hj hij
  exact key j i _ _ hij (List.getElem?_eq_getElem hi) (List.getElem?_eq_getElem hj)

theorem MetasOk.rises {l : List DMeta} (h : MetasOk l) : Rises l := rises_of fun i x hx y => (h.2 i x hx).2 y

theorem Rises.nodup {l : List DMeta} (h : Rises l) : (l.map (·.1)).Nodup := by
  unfold List.Nodup
  rw [List.pairwise_map]
  exact h.imp fun h => by omega

theorem NumsOk.nodup {l : List Int} (h : NumsOk l) : l.Nodup := by
  have key : ∀ (j i : Nat) (a b : Int), i < j → l[i]? = some a → l[j]? = some b → a < b := by
    intro j
    induction j with
    | zero => intro i a b hi; omega
    | succ j ih =>
      intro i a b hi ha hb
      have hj : j < l.length := by have := (List.getElem?_eq_some_iff.1 hb).1; omega
      have hc := (h (j + 1) b hb).2 l[j] (by omega) (by simp [hj])
      rcases Nat.lt_or_ge i j with h1 | h1
      · have := ih i a l[j] h1 ha (List.getElem?_eq_getElem hj)
        omega
      · have : i = j := by omega
        subst this
        rw [List.getElem?_eq_getElem hj] at ha
        injection ha with ha
        subst ha; exact hc
  unfold List.Nodup
  rw [List.pairwise_iff_getElem]
  intro i j hi hj hij
  have := key j i _ _ hij (List.getElem?_eq_getElem hi) (List.getElem?_eq_getElem hj)
  omega

def inNums (D : List Int) (m : DMeta) : Bool := D.any fun n => ieq n m.1

theorem inNums_iff {D : List Int} {m : DMeta} : inNums D m = true ↔ m.1 ∈ D := by
  unfold inNums
  rw [List.any_eq_true]
  constructor
  · rintro ⟨n, hn, h⟩
    rw [← ieq_iff.1 h]; exact hn
  · intro h
    exact ⟨m.1, h, ieq_iff.2 rfl⟩

/-- what is left of the metas -/
def kept (D : List Int) (l : List DMeta) : List DMeta := l.filter fun m => !inNums D m

theorem mem_kept {D : List Int} {l : List DMeta} {m : DMeta} : m ∈ kept D l ↔ m ∈ l ∧ m.1 ∉ D := by
  unfold kept
  rw [List.mem_filter]
  constructor
  · rintro ⟨h1, h2⟩
    exact ⟨h1, fun h => by rw [inNums_iff.2 h] at h2; cases h2⟩
  · rintro ⟨h1, h2⟩
    refine ⟨h1, ?_⟩
    cases h : inNums D m with
    | false => rfl
    | true => exact absurd (inNums_iff.1 h) h2

theorem Rises.filter {l : List DMeta} (h : Rises l) (p : DMeta → Bool) : Rises (l.filter p) := List.Pairwise.filter p h

theorem del_at {l : List DMeta} (h : Rises l) {k : Nat} {m : DMeta} (hk : l[k]? = some m) : l.take k ++ l.drop (k + 1) = l.filter fun x => !ieq m.1 x.1 := by
  have hkl := (List.getElem?_eq_some_iff.1 hk).1
  have hkm := (List.getElem?_eq_some_iff.1 hk).2
  have e : l = l.take k ++ m :: l.drop (k + 1) := by
    rw [← hkm, List.getElem_cons_drop, List.take_append_drop]
  have h2 := h
  rw [e] at h2
  have h2 := List.pairwise_append.1 h2
  conv => rhs; rw [e]
  rw [List.filter_append, List.filter_cons]
  have e1 : (l.take k).filter (fun x => !ieq m.1 x.1) = l.take k := List.filter_eq_self.2 fun x hx => by
    have := h2.2.2 x hx m List.mem_cons_self
    rw [ieq_false.2 (by omega)]; rfl
  have e2 : (l.drop (k + 1)).filter (fun x => !ieq m.1 x.1) = l.drop (k + 1) := List.filter_eq_self.2 fun x hx => by
    have := (List.pairwise_cons.1 h2.2.1).1 x hx
    rw [ieq_false.2 (by omega)]; rfl
  rw [e1, e2, ieq_iff.2 rfl]
  rfl

theorem kept_snoc (D : List Int) (n : Int) (l : List DMeta) : (kept D l).filter (fun x => !ieq n x.1) = kept (D ++ [n]) l := by
  unfold kept
  rw [List.filter_filter]
  congr 1
  funext x
  unfold inNums
  rw [List.any_append]
  cases D.any (fun n => ieq n x.1) <;> simp

def cmpNum (x : DMeta × DMeta × Unit) : Option (Int × Unit) := some ((if x.1.1 < x.2.1.1 then -1 else if x.2.1.1 < x.1.1 then 1 else 0), ())

theorem f_impl_ApplyEdit_1Val (x : DMeta × DMeta × Unit) : (bnd (f_impl_ApplyEdit_1 (x.1, (x.2.1, ()))) fun r => (some r.1)) = cmpNum x := by
  unfold f_impl_ApplyEdit_1 f_cmp_Compare_int f_cmp_isNaN_int cmpNum
  simp only [bnd_some, ieq_iff.2 rfl, Bool.not_true, cond_false]
  by_cases h1 : x.1.1 < x.2.1.1
  · rw [ilt_iff.2 h1]; simp [h1, bnd_some]
  · rw [ilt_false.2 (by omega)]
    by_cases h2 : x.2.1.1 < x.1.1
    · rw [ilt_iff.2 h2]; simp [h1, h2, bnd_some]
    · rw [ilt_false.2 (by omega)]; simp [h1, h2, bnd_some]

theorem cmpNum_lt (x y : DMeta) : Go.Proofs.ltOf (cmpOf (k := kdMeta) cmpNum) x y = decide (x.1 < y.1) := by
  unfold Go.Proofs.ltOf cmpOf cmpNum
  dsimp only
  by_cases h1 : x.1 < y.1
  · simp [h1]
  · by_cases h2 : y.1 < x.1 <;> simp [h1, h2]

theorem cmpNum_good : CmpGood (k := kdMeta) cmpNum := by
  refine ⟨fun x y => rfl, ?_, ?_, ?_⟩
  · intro x; rw [cmpNum_lt]; simp
  · intro x y z h1 h2; rw [cmpNum_lt] at *; simp at *; omega
  · intro x y z h1 h2; rw [cmpNum_lt] at *; simp at *; omega

def sortM (l : List DMeta) : List DMeta := sortK kdMeta (Go.Proofs.ltOf (cmpOf (k := kdMeta) cmpNum)) l

theorem sortM_spec (l : List DMeta) : (sortM l).Perm l ∧ (sortM l).Pairwise fun a b => a.1 ≤ b.1 := by
  obtain ⟨h1, h2⟩ := sortK_spec cmpNum_good.2 l
  refine ⟨h1, h2.imp fun {a b} h => ?_⟩
  rw [cmpNum_lt] at h
  have := of_decide_eq_false h
  omega

theorem f_slices_SortFunc_Val (l : List DMeta) (hl : l.length ≤ 1000) (p : DMeta × DMeta × Unit → Option (Int × Unit)) (hp : p = cmpNum) : (f_slices_SortFunc kdMeta) (l, (p, ())) = some ((), (sortM l, ())) := by
  subst hp
  unfold f_slices_SortFunc
  rw [if_pos ⟨cmpNum_good, by show l.length < _; omega⟩]
  rfl

/-- a sorted list without equal numbers is one alone -/
theorem sorted_one {a b : List DMeta} (hp : a.Perm b) (ha : a.Pairwise fun x y => x.1 ≤ y.1) (hb : b.Pairwise fun x y => x.1 ≤ y.1) (hn : (a.map (·.1)).Nodup) : a = b := by
  refine hp.eq_of_pairwise (fun x y hx hy h1 h2 => ?_) ha hb
  have he : x.1 = y.1 := by omega
  have hy : y ∈ a := hp.symm.subset hy
  obtain ⟨i, hi, rfl⟩ := List.getElem_of_mem hx
  obtain ⟨j, hj, rfl⟩ := List.getElem_of_mem hy
  have hn := List.pairwise_iff_getElem.1 hn
  rcases Nat.lt_trichotomy i j with h | h | h
  · exact absurd (by rw [List.getElem_map, List.getElem_map]; exact he) (hn i j (by simpa using hi) (by simpa using hj) h)
  · subst h; rfl
  · exact absurd (by rw [List.getElem_map, List.getElem_map]; exact he.symm) (hn j i (by simpa using hj) (by simpa using hi) h)

/-- insert: before the first that is not less -/
def ins (l : List DMeta) (m : DMeta) : List DMeta := l.takeWhile (fun x => decide (x.1 < m.1)) ++ m :: l.dropWhile (fun x => decide (x.1 < m.1))

theorem ins_perm (l : List DMeta) (m : DMeta) : (ins l m).Perm (l ++ [m]) := by
  unfold ins
  have e : l.takeWhile (fun x => decide (x.1 < m.1)) ++ l.dropWhile (fun x => decide (x.1 < m.1)) = l := List.takeWhile_append_dropWhile
  have h : (l.takeWhile (fun x => decide (x.1 < m.1)) ++ m :: l.dropWhile (fun x => decide (x.1 < m.1))).Perm (m :: (l.takeWhile (fun x => decide (x.1 < m.1)) ++ l.dropWhile (fun x => decide (x.1 < m.1)))) := List.perm_middle
  rw [e] at h
  exact h.trans (List.perm_append_singleton m l).symm

theorem ins_sorted {l : List DMeta} (m : DMeta) (h : l.Pairwise fun x y => x.1 ≤ y.1) : (ins l m).Pairwise fun x y => x.1 ≤ y.1 := by
  have e : l.takeWhile (fun x => decide (x.1 < m.1)) ++ l.dropWhile (fun x => decide (x.1 < m.1)) = l := List.takeWhile_append_dropWhile
  have h2 := h
  rw [← e] at h2
  obtain ⟨h3, h4, h5⟩ := List.pairwise_append.1 h2
  have hlt : ∀ x ∈ l.takeWhile (fun x => decide (x.1 < m.1)), x.1 < m.1 := fun x hx => of_decide_eq_true (List.all_eq_true.1 List.all_takeWhile x hx)
  have hge : ∀ y ∈ l.dropWhile (fun x => decide (x.1 < m.1)), m.1 ≤ y.1 := by
    intro y hy
    cases hd : l.dropWhile (fun x => decide (x.1 < m.1)) with
    | nil => rw [hd] at hy; cases hy
    | cons z zs =>
      have hz : ¬ (z.1 < m.1) := by
        have := List.head_dropWhile_not (fun x : DMeta => decide (x.1 < m.1)) (l := l) (by rw [hd]; simp)
        simp only [hd, List.head_cons] at this
        exact of_decide_eq_false this
      rw [hd] at hy h4
      rcases List.mem_cons.1 hy with rfl | hy
      · omega
      · have := (List.pairwise_cons.1 h4).1 y hy
        omega
  unfold ins
  refine List.pairwise_append.2 ⟨h3, List.pairwise_cons.2 ⟨hge, h4⟩, fun x hx y hy => ?_⟩
  have := hlt x hx
  rcases List.mem_cons.1 hy with rfl | hy
  · omega
  · exact h5 x hx y hy

def insAll : List DMeta → List DMeta → List DMeta
  | [], l => l
  | m :: A, l => insAll A (ins l m)

theorem insAll_spec : ∀ (A l : List DMeta), l.Pairwise (fun x y => x.1 ≤ y.1) → (insAll A l).Perm (l ++ A) ∧ (insAll A l).Pairwise fun x y => x.1 ≤ y.1
  | [], l, h => ⟨by simp [insAll], h⟩
  | m :: A, l, h => by
    obtain ⟨h1, h2⟩ := insAll_spec A (ins l m) (ins_sorted m h)
    refine ⟨h1.trans ?_, h2⟩
    have := (ins_perm l m).append_right A
    simpa using this

theorem insAll_snoc : ∀ (A : List DMeta) (m : DMeta) (l : List DMeta), insAll (A ++ [m]) l = ins (insAll A l) m
  | [], m, l => rfl
  | a :: A, m, l => insAll_snoc A m (ins l a)

def Found (l : List DMeta) (D : List Int) : Prop := ∀ n ∈ D, ∃ m ∈ l, m.1 = n

def noVer : DVersion := ((0 : Int), ((0 : Int), (([] : List DMeta), ())))

def appV (v : DVersion) (e : DEdit) : DVersion := (e.1, (e.2.1, (insAll e.2.2.2.1 (kept e.2.2.1 v.2.2.1), ())))

def AppOk (v : DVersion) (e : DEdit) : Prop := GoodEd e ∧ v.1 ≤ e.1 ∧ v.2.1 ≤ e.2.1 ∧ Found v.2.2.1 e.2.2.1 ∧ GoodV (appV v e)

open Classical in
def appR (v : DVersion) (e : DEdit) : DVersion × Bool × Unit := if AppOk v e then (appV v e, (true, ())) else (noVer, (false, ()))

theorem kept_nil (l : List DMeta) : kept [] l = l := by
  unfold kept inNums
  simp

/-- the metas that go are as many as the numbers, just where all are found -/
theorem gone_count {l : List DMeta} {D : List Int} (hl : Rises l) (hD : D.Nodup) : (l.filter (inNums D)).length = D.length ↔ Found l D := by
  have hn : ((l.filter (inNums D)).map (·.1)).Nodup := (hl.filter _).nodup
  have hs : (l.filter (inNums D)).map (·.1) ⊆ D := fun n hn => by
    obtain ⟨m, hm, rfl⟩ := List.mem_map.1 hn
    exact inNums_iff.1 (List.mem_filter.1 hm).2
  have hle := hn.length_le_of_subset hs
  rw [List.length_map] at hle
  constructor
  · intro h n hnD
    by_cases hf : ∃ m ∈ l, m.1 = n
    · exact hf
    · exfalso
      have hs2 : (l.filter (inNums D)).map (·.1) ⊆ D.erase n := fun k hk => by
        have hkD := hs hk
        obtain ⟨m, hm, rfl⟩ := List.mem_map.1 hk
        have : m.1 ≠ n := fun e => hf ⟨m, (List.mem_filter.1 hm).1, e⟩
        exact (List.mem_erase_of_ne this).2 hkD
      have := hn.length_le_of_subset hs2
      rw [List.length_map, List.length_erase_of_mem hnD] at this
      have := List.length_pos_of_mem hnD
      omega
  · intro h
    have hs2 : D ⊆ (l.filter (inNums D)).map (·.1) := fun n hnD => by
      obtain ⟨m, hm, rfl⟩ := h n hnD
      exact List.mem_map.2 ⟨m, List.mem_filter.2 ⟨hm, inNums_iff.2 hnD⟩, rfl⟩
    have := hD.length_le_of_subset hs2
    rw [List.length_map] at this
    omega

theorem Rises.le {l : List DMeta} (h : Rises l) : l.Pairwise fun x y => x.1 ≤ y.1 := h.imp fun h => by omega

/-- numbers that come twice are not good -/
theorem clash_bad {F A S : List DMeta} {x y : DMeta} (hp : S.Perm (F ++ A)) (hx : x ∈ F) (hy : y ∈ A) (he : x.1 = y.1) (h : MetasOk S) : False := by
  have hn : ((F ++ A).map (·.1)).Nodup := (hp.map (·.1)).nodup_iff.1 h.rises.nodup
  rw [List.map_append] at hn
  exact (List.nodup_append.1 hn).2.2 x.1 (List.mem_map.2 ⟨x, hx, rfl⟩) y.1 (List.mem_map.2 ⟨y, hy, rfl⟩) he

theorem sort_ins {F A : List DMeta} (hF : Rises F) (hA : Rises A) (hap : ∀ x ∈ A, ∀ y ∈ F, y.1 ≠ x.1) : sortM (F ++ A) = insAll A F := by
  obtain ⟨h1, h2⟩ := sortM_spec (F ++ A)
  obtain ⟨h3, h4⟩ := insAll_spec A F hF.le
  refine sorted_one (h1.trans h3.symm) h2 h4 ((h1.map (·.1)).nodup_iff.2 ?_)
  rw [List.map_append]
  refine List.nodup_append.2 ⟨hF.nodup, hA.nodup, fun a ha b hb => ?_⟩
  obtain ⟨x, hx, rfl⟩ := List.mem_map.1 ha
  obtain ⟨y, hy, rfl⟩ := List.mem_map.1 hb
  exact hap y hy x hx

theorem f_slices_Clone_MetaVal (l : List DMeta) (hl : l.length ≤ 1000) : f_slices_Clone_Meta (l, ()) = some ((l, ()), ()) := by
  unfold f_slices_Clone_Meta
  cases l with
  | nil =>
    dsimp only
    unfold bothK
    simp [req]
  | cons x l =>
    have h : Nat.beq (x :: l).length 0 = false := rfl
    dsimp only
    rw [h, cond_false, req_true_of (by omega)]

theorem f_impl_metaAtDoes (l : List DMeta) (hl : l.length ≤ 1000) (n : Int) : Does (f_impl_metaAt (l, (n, ()))) fun r => IdxAt l (fun m => ieq m.1 n) r.1.1 := by
  unfold f_impl_metaAt
  exact Does.bnd (f_slices_IndexFunc_MetaDoes l hl _ (fun m => ieq m.1 n) fun x => rfl) fun r hr => Does.val hr

theorem f_slices_DeleteVal (l : List DMeta) (k : Nat) (hk : k < l.length) : (f_slices_Delete kdMeta) (l, ((k : Int), (((k + 1 : Nat) : Int), ()))) = some ((l.take k ++ l.drop (k + 1), ()), ()) := by
  unfold f_slices_Delete
  have h : (decide ((0 : Int) ≤ (k : Int)) && (decide ((k : Int) < ((k + 1 : Nat) : Int)) && decide (((k + 1 : Nat) : Int) ≤ ((l.length : Nat) : Int)))) = true := by simp; omega
  dsimp only
  refine (congrArg (fun b => req b _) h).trans ?_
  rfl

theorem kept_le (D : List Int) (l : List DMeta) : (kept D l).length ≤ l.length := List.length_filter_le _ _

theorem take_snoc {α : Type} {l : List α} {j : Nat} {y : α} (h : l[j]? = some y) : l.take (j + 1) = l.take j ++ [y] := by
  rw [List.take_add_one, h]; rfl

theorem nodup_fresh {D : List Int} (h : D.Nodup) {j : Nat} {n : Int} (hn : D[j]? = some n) : n ∉ D.take j := by
  intro hm
  obtain ⟨i, hi, hx⟩ := take_mem.1 hm
  have hjl := (List.getElem?_eq_some_iff.1 hn).1
  have := List.pairwise_iff_getElem.1 h i j (by omega) hjl hi
  rw [List.getElem?_eq_getElem (by omega)] at hx
  rw [List.getElem?_eq_getElem hjl] at hn
  injection hx with hx; injection hn with hn
  exact this (hx.trans hn.symm)

theorem rises_fresh {A : List DMeta} (h : Rises A) {j : Nat} {x : DMeta} (hx : A[j]? = some x) {y : DMeta} (hy : y ∈ A.take j) : y.1 < x.1 := by
  obtain ⟨i, hi, hyi⟩ := take_mem.1 hy
  have hjl := (List.getElem?_eq_some_iff.1 hx).1
  have := List.pairwise_iff_getElem.1 h i j (by omega) hjl hi
  rw [List.getElem?_eq_getElem (by omega)] at hyi
  rw [List.getElem?_eq_getElem hjl] at hx
  injection hx with hx; injection hyi with hyi
  rw [← hx, ← hyi]; exact this

theorem f_impl_ApplyEditDoes (v : DVersion) (e : DEdit) (hv : GoodV v) (h1 : e.2.2.1.length ≤ 1000) (h2 : e.2.2.2.1.length ≤ 1000) : Does (f_impl_ApplyEdit (v, (e, ()))) fun r => r = (appR v e, ()) := by
  unfold f_impl_ApplyEdit
  dsimp only
  have hL : v.2.2.1.length ≤ 30 := hv.2.2.1.1
  have hR : Rises v.2.2.1 := hv.2.2.1.rises
  obtain ⟨r1, e1, hr1⟩ := f_impl_GoodVersionDoes (x := (v, ())) (by show v.2.2.1.length ≤ 1000; omega)
  rw [e1, bnd_some, hr1.2 hv]
  simp only [Bool.not_true, cond_false]
  have bad : ¬ AppOk v e → ((((0 : Int), ((0 : Int), (([] : List DMeta), ()))), (false, ())), ()) = (appR v e, ()) := fun h => by unfold appR; rw [if_neg h]; rfl
  refine Does.bnd (f_impl_goodEditDoes (x := (e, ())) h1 h2) fun r2 hr2 => ?_
  refine Does.cond (fun h3 => Does.val (bad fun h => by have := hr2.2 h.1; rw [this] at h3; cases h3)) (fun h3 => ?_)
  have hE : GoodEd e := hr2.1 (by simpa using h3)
  refine Does.cond (fun h4 => Does.val (bad fun h => by have := ilt_iff.1 h4; have := h.2.1; omega)) (fun h4 => ?_)
  refine Does.cond (fun h5 => Does.val (bad fun h => by have := ilt_iff.1 h5; have := h.2.2.1; omega)) (fun h5 => ?_)
  have h4 := ilt_false.1 h4
  have h5 := ilt_false.1 h5
  obtain ⟨E1, E2, E3, E4, E5⟩ := hE
  have hD := E5.nodup
  have hA := E4.rises
  have hAl := E4.1
  rw [f_slices_Clone_MetaVal _ (by omega), bnd_some]
  dsimp only
  refine Does.loop (c := f_impl_ApplyEdit_l5c) (v := f_impl_ApplyEdit_l5v) (ex := f_impl_ApplyEdit_l5e)
    (fun (xc : ((List Int) × Int × Unit) × (DEdit × Unit)) (xv : (Int × Unit) × (DVersion × DVersion × Unit)) => xc = ((e.2.2.1, (llen e.2.2.1, ())), (e, ())) ∧ ∃ j : Nat, xv = (((j : Int), ()), (noVer, ((e.1, (e.2.1, (kept (e.2.2.1.take j) v.2.2.1, ()))), ()))) ∧ j ≤ e.2.2.1.length ∧ ∀ n ∈ e.2.2.1.take j, ∃ m ∈ v.2.2.1, m.1 = n)
    (fun _ (xv : (Int × Unit) × (DVersion × DVersion × Unit)) => e.2.2.1.length - Int.toNat xv.1.1) ?_ ⟨rfl, 0, by rw [List.take_zero, kept_nil]; rfl, by omega, fun n hn => by simp at hn⟩
  rintro xc xv ⟨rfl, j, rfl, hj, hf⟩
  simp only [round, f_impl_ApplyEdit_l5]
  refine Does.cond (fun hlt => ?_) (fun hlt => ?_)
  · have hlt := ilt_iff.1 hlt
    simp only [llen] at hlt
    refine Does.getO (by omega) (by omega) fun n hn => ?_
    rw [Int.toNat_natCast] at hn
    have hkl := kept_le (e.2.2.1.take j) v.2.2.1
    refine Does.bnd (f_impl_metaAtDoes (kept (e.2.2.1.take j) v.2.2.1) (by omega) n) fun r5 hr5 => ?_
    refine Does.cond (fun h6 => Does.val (Does.val (bad fun h => ?_))) (fun h6 => ?_)
    · obtain ⟨m, hm, hmn⟩ := h.2.2.2.1 n (List.mem_of_getElem? hn)
      rcases hr5 with ⟨_, hno⟩ | ⟨k, x, hk, _, _⟩
      · have hmk : m ∈ kept (e.2.2.1.take j) v.2.2.1 := mem_kept.2 ⟨hm, by rw [hmn]; exact nodup_fresh hD hn⟩
        have := ieq_false.1 (hno m hmk)
        exact this hmn
      · have := ilt_iff.1 h6; omega
    · rcases hr5 with ⟨hk, _⟩ | ⟨k, x, hk, hx, hxn⟩
      · have := ilt_false.1 h6; omega
      · have hxn := ieq_iff.1 hxn
        have hkk := (List.getElem?_eq_some_iff.1 hx).1
        rw [hk, iadd_i64 (by omega), show (k : Int) + 1 = ((k + 1 : Nat) : Int) by omega, f_slices_DeleteVal _ k hkk, bnd_some]
        refine Does.val ?_
        dsimp only
        have hRk : Rises (kept (e.2.2.1.take j) v.2.2.1) := hR.filter _
        rw [del_at hRk hx, hxn, kept_snoc, ← take_snoc hn, iadd_i64 (by omega)]
        refine ⟨⟨rfl, j + 1, rfl, by omega, fun q hq => ?_⟩, by omega⟩
        rw [take_snoc hn] at hq
        rcases List.mem_append.1 hq with hq | hq
        · exact hf q hq
        · rw [List.mem_singleton.1 hq]
          exact ⟨x, (mem_kept.1 (List.mem_of_getElem? hx)).1, hxn⟩
  · have hlt := ilt_false.1 hlt
    simp only [llen] at hlt
    have hjl : e.2.2.1.take j = e.2.2.1 := List.take_of_length_le (by omega)
    rw [hjl] at hf ⊢
    refine Does.val ?_
    dsimp only
    have hFr : Rises (kept e.2.2.1 v.2.2.1) := hR.filter _
    have hFl := kept_le e.2.2.1 v.2.2.1
    obtain ⟨F, hF⟩ : ∃ F, F = kept e.2.2.1 v.2.2.1 := ⟨_, rfl⟩
    rw [← hF] at hFr hFl ⊢
    refine Does.loop (c := f_impl_ApplyEdit_l13c) (v := f_impl_ApplyEdit_l13v) (ex := f_impl_ApplyEdit_l13e)
      (fun (xc : ((List DMeta) × Int × Unit) × Unit) (xv : (Int × Unit) × (DVersion × DVersion × Unit)) => xc = ((e.2.2.2.1, (llen e.2.2.2.1, ())), ()) ∧ ∃ j : Nat, xv = (((j : Int), ()), (noVer, ((e.1, (e.2.1, (F ++ e.2.2.2.1.take j, ()))), ()))) ∧ j ≤ e.2.2.2.1.length ∧ ∀ x ∈ e.2.2.2.1.take j, ∀ y ∈ F, y.1 ≠ x.1)
      (fun _ (xv : (Int × Unit) × (DVersion × DVersion × Unit)) => e.2.2.2.1.length - Int.toNat xv.1.1) ?_ ⟨rfl, 0, by rw [List.take_zero, List.append_nil]; rfl, by omega, fun n hn => by simp at hn⟩
    rintro xc xv ⟨rfl, j, rfl, hj, hap⟩
    simp only [round, f_impl_ApplyEdit_l13]
    have hjl2 : (F ++ e.2.2.2.1.take j).length ≤ 60 := by simp; omega
    refine Does.cond (fun hlt2 => ?_) (fun hlt2 => ?_)
    · have hlt2 := ilt_iff.1 hlt2
      simp only [llen] at hlt2
      refine Does.getO (by omega) (by omega) fun x hx => ?_
      rw [Int.toNat_natCast] at hx
      refine Does.bnd (f_impl_metaAtDoes (F ++ e.2.2.2.1.take j) (by omega) x.1) fun r12 hr12 => ?_
      refine Does.cond (fun h6 => Does.val (Does.val (bad fun h => ?_))) (fun h6 => ?_)
      · have h6 := ile_iff.1 h6
        rcases hr12 with ⟨hk, _⟩ | ⟨k, y, hk, hy, hyn⟩
        · omega
        · have hyn := ieq_iff.1 hyn
          rcases List.mem_append.1 (List.mem_of_getElem? hy) with hyF | hyA
          · refine clash_bad (insAll_spec e.2.2.2.1 F hFr.le).1 hyF (List.mem_of_getElem? hx) hyn ?_
            rw [hF]
            exact h.2.2.2.2.2.2.1
          · have := rises_fresh hA hx hyA; omega
      · have h6 := ile_false.1 h6
        rcases hr12 with ⟨hk, hno⟩ | ⟨k, y, hk, _, _⟩
        · refine Does.req (by simp at hjl2 ⊢; omega) (Does.val ?_)
          dsimp only
          rw [List.append_assoc, ← take_snoc hx, iadd_i64 (by omega)]
          refine ⟨⟨rfl, j + 1, rfl, by omega, fun q hq y hy => ?_⟩, by omega⟩
          rw [take_snoc hx] at hq
          rcases List.mem_append.1 hq with hq | hq
          · exact hap q hq y hy
          · rw [List.mem_singleton.1 hq]
            exact ieq_false.1 (hno y (List.mem_append.2 (.inl hy)))
        · omega
    · have hlt2 := ilt_false.1 hlt2
      simp only [llen] at hlt2
      have hjA : e.2.2.2.1.take j = e.2.2.2.1 := List.take_of_length_le (by omega)
      rw [hjA] at hap hjl2 ⊢
      refine Does.val ?_
      dsimp only
      rw [f_slices_SortFunc_Val _ (by omega) _ (funext fun x => f_impl_ApplyEdit_1Val x), bnd_some]
      dsimp only
      rw [sort_ins hFr hA hap]
      have hil := (insAll_spec e.2.2.2.1 F hFr.le).1.length_eq
      refine Does.bnd (f_impl_GoodVersionDoes (x := ((e.1, (e.2.1, (insAll e.2.2.2.1 F, ()))), ())) (by dsimp only; omega)) fun r18 hr18 => ?_
      dsimp only at hr18
      have hav : (e.1, (e.2.1, (insAll e.2.2.2.1 F, ()))) = appV v e := by rw [hF]; rfl
      rw [hav] at hr18 ⊢
      refine Does.cond (fun h7 => Does.val (bad fun h => ?_)) (fun h7 => Does.val ?_)
      · have := hr18.2 h.2.2.2.2
        rw [this] at h7; cases h7
      · unfold appR
        rw [if_pos ⟨⟨E1, E2, E3, E4, E5⟩, h4, h5, hf, hr18.1 (by simpa using h7)⟩]

theorem ins_at {l : List DMeta} {m : DMeta} {k : Nat} (hk : k ≤ l.length) (h : ∀ i x, i < k → l[i]? = some x → x.1 < m.1) (hs : ∀ x, l[k]? = some x → ¬ x.1 < m.1) : ((([] : List DMeta) ++ l.take k) ++ [m]) ++ (l.drop k).take (l.length - k) = ins l m := by
  have e : l = l.take k ++ l.drop k := (List.take_append_drop k l).symm
  have ht : ∀ x ∈ l.take k, decide (x.1 < m.1) = true := fun x hx => by
    obtain ⟨i, hi, hx⟩ := take_mem.1 hx
    exact decide_eq_true (h i x hi hx)
  have hd : (l.drop k).takeWhile (fun x => decide (x.1 < m.1)) = [] ∧ (l.drop k).dropWhile (fun x => decide (x.1 < m.1)) = l.drop k := by
    cases hc : l.drop k with
    | nil => exact ⟨rfl, rfl⟩
    | cons z zs =>
      have : l[k]? = some z := by
        have := congrArg (fun q => q[0]?) hc
        simpa using this
      have hz := decide_eq_false (hs z this)
      exact ⟨by rw [List.takeWhile_cons, hz]; rfl, by rw [List.dropWhile_cons, hz]; rfl⟩
  have e1 : l.takeWhile (fun x => decide (x.1 < m.1)) = l.take k := by
    conv => lhs; rw [e]
    rw [List.takeWhile_append_of_pos ht, hd.1, List.append_nil]
  have e2 : l.dropWhile (fun x => decide (x.1 < m.1)) = l.drop k := by
    conv => lhs; rw [e]
    rw [List.dropWhile_append_of_pos ht, hd.2]
  unfold ins
  rw [e1, e2, List.nil_append, List.append_assoc]
  rw [show (l.drop k).take (l.length - k) = l.drop k from List.take_of_length_le (by simp)]
  rfl

theorem inNums_snoc (D : List Int) (n : Int) (m : DMeta) : inNums (D ++ [n]) m = (inNums D m || ieq n m.1) := by
  unfold inNums
  rw [List.any_append]
  simp

theorem f_spec_l9ApplyDoes (v : DVersion) (e : DEdit) (hv : GoodV v) (h1 : e.2.2.1.length ≤ 1000) (h2 : e.2.2.2.1.length ≤ 1000) : Does (f_spec_l9Apply (v, (e, ()))) fun r => r = (appR v e, ()) := by
  unfold f_spec_l9Apply
  dsimp only
  have hL : v.2.2.1.length ≤ 30 := hv.2.2.1.1
  have hR : Rises v.2.2.1 := hv.2.2.1.rises
  have bad : ¬ AppOk v e → ((((0 : Int), ((0 : Int), (([] : List DMeta), ()))), (false, ())), ()) = (appR v e, ()) := fun h => by unfold appR; rw [if_neg h]; rfl
  refine Does.bnd (f_spec_l9EditDoes (x := (e, ())) h1 h2) fun r2 hr2 => ?_
  refine Does.cond (fun h3 => Does.val (bad fun h => by have := hr2.2 h.1; rw [this] at h3; cases h3)) (fun h3 => ?_)
  have hE : GoodEd e := hr2.1 (by simpa using h3)
  refine Does.cond (fun h4 => Does.val (bad fun h => by have := ilt_iff.1 h4; have := h.2.1; omega)) (fun h4 => ?_)
  refine Does.cond (fun h5 => Does.val (bad fun h => by have := ilt_iff.1 h5; have := h.2.2.1; omega)) (fun h5 => ?_)
  have h4 := ilt_false.1 h4
  have h5 := ilt_false.1 h5
  obtain ⟨E1, E2, E3, E4, E5⟩ := hE
  have hD := E5.nodup
  have hA := E4.rises
  have hAl := E4.1
  refine Does.loop (c := f_spec_l9Apply_l6c) (v := f_spec_l9Apply_l6v) (ex := f_spec_l9Apply_l6e)
    (fun (xc : Unit × Unit) (xv : (Int × (List DMeta) × Int × Int × Unit) × (DEdit × DVersion × (List DMeta) × Unit)) => ∃ j : Nat, xv = ((((((v.2.2.1.take j).filter (inNums e.2.2.1)).length : Nat) : Int), (v.2.2.1, (llen v.2.2.1, ((j : Int), ())))), (e, (noVer, (kept e.2.2.1 (v.2.2.1.take j), ())))) ∧ j ≤ v.2.2.1.length)
    (fun _ (xv : (Int × (List DMeta) × Int × Int × Unit) × (DEdit × DVersion × (List DMeta) × Unit)) => v.2.2.1.length - Int.toNat xv.1.2.2.2.1) ?_ ⟨0, rfl, by omega⟩
  rintro xc xv ⟨j, rfl, hj⟩
  simp only [round, f_spec_l9Apply_l6]
  refine Does.cond (fun hlt => ?_) (fun hlt => ?_)
  · have hlt := ilt_iff.1 hlt
    simp only [llen] at hlt
    refine Does.getO (by omega) (by omega) fun m hm => ?_
    rw [Int.toNat_natCast] at hm
    have hgl := List.length_filter_le (inNums e.2.2.1) (v.2.2.1.take j)
    have hkl := kept_le e.2.2.1 (v.2.2.1.take j)
    have htl : (v.2.2.1.take j).length ≤ 30 := by simp; omega
    obtain ⟨G, hG⟩ : ∃ G, G = ((v.2.2.1.take j).filter (inNums e.2.2.1)).length := ⟨_, rfl⟩
    obtain ⟨K, hK⟩ : ∃ K, K = kept e.2.2.1 (v.2.2.1.take j) := ⟨_, rfl⟩
    have hG2 : ((v.2.2.1.take (j + 1)).filter (inNums e.2.2.1)).length = G + (if inNums e.2.2.1 m then 1 else 0) := by
      rw [take_snoc hm, List.filter_append, List.length_append, ← hG]
      cases hin : inNums e.2.2.1 m <;> simp [hin]
    have hK2 : kept e.2.2.1 (v.2.2.1.take (j + 1)) = K ++ (if inNums e.2.2.1 m then [] else [m]) := by
      rw [take_snoc hm, hK]
      unfold kept
      rw [List.filter_append]
      cases hin : inNums e.2.2.1 m <;> simp [hin]
    rw [← hG] at hgl ⊢
    rw [← hK] at hkl ⊢
    refine Does.loop (c := f_spec_l9Apply_l10c) (v := f_spec_l9Apply_l10v) (ex := f_spec_l9Apply_l10e)
      (fun (xc : (Int × (List DMeta) × Int × Int × (List Int) × Int × Unit) × (DEdit × DVersion × (List DMeta) × DMeta × Unit)) (xv : (Bool × Int × Unit) × Unit) => xc = ((((G : Nat) : Int), (v.2.2.1, (llen v.2.2.1, ((j : Int), (e.2.2.1, (llen e.2.2.1, ())))))), (e, (noVer, (K, (m, ()))))) ∧ ∃ u : Nat, xv = ((inNums (e.2.2.1.take u) m, ((u : Int), ())), ()) ∧ u ≤ e.2.2.1.length)
      (fun _ (xv : (Bool × Int × Unit) × Unit) => e.2.2.1.length - Int.toNat xv.1.2.1) ?_ ⟨rfl, 0, rfl, by omega⟩
    rintro xc xv ⟨rfl, u, rfl, hu⟩
    simp only [round, f_spec_l9Apply_l10]
    refine Does.cond (fun hlt2 => ?_) (fun hlt2 => ?_)
    · have hlt2 := ilt_iff.1 hlt2
      simp only [llen] at hlt2
      refine Does.getO (by omega) (by omega) fun n hn => ?_
      rw [Int.toNat_natCast] at hn
      refine Does.cond (fun hb => Does.val ?_) (fun hb => Does.val ?_)
      · dsimp only
        rw [iadd_i64 (by omega)]
        refine ⟨⟨rfl, u + 1, ?_, by omega⟩, by omega⟩
        rw [take_snoc hn, inNums_snoc, hb]; rfl
      · dsimp only
        rw [iadd_i64 (by omega)]
        refine ⟨⟨rfl, u + 1, ?_, by omega⟩, by omega⟩
        rw [take_snoc hn, inNums_snoc, hb, Bool.false_or]; rfl
    · have hlt2 := ilt_false.1 hlt2
      simp only [llen] at hlt2
      have hul : e.2.2.1.take u = e.2.2.1 := List.take_of_length_le (by omega)
      rw [hul]
      refine Does.val ?_
      dsimp only
      unfold f_spec_l9Apply_i15
      dsimp only
      refine Does.cond (fun hb => Does.val ?_) (fun hb => Does.req (by simp; omega) (Does.val ?_))
      · dsimp only
        rw [iadd_i64 (by omega), iadd_i64 (by omega)]
        refine ⟨⟨j + 1, ?_, by omega⟩, by omega⟩
        rw [hG2, hK2, hb]
        simp only [if_true, List.append_nil]
        rfl
      · dsimp only
        rw [iadd_i64 (by omega)]
        refine ⟨⟨j + 1, ?_, by omega⟩, by omega⟩
        rw [hG2, hK2, hb]
        rfl
  · have hlt := ilt_false.1 hlt
    simp only [llen] at hlt
    have hjl : v.2.2.1.take j = v.2.2.1 := List.take_of_length_le (by omega)
    rw [hjl]
    refine Does.val ?_
    dsimp only
    have hFr : Rises (kept e.2.2.1 v.2.2.1) := hR.filter _
    have hFl := kept_le e.2.2.1 v.2.2.1
    have hcnt := gone_count hR hD
    obtain ⟨G, hG⟩ : ∃ G, G = (v.2.2.1.filter (inNums e.2.2.1)).length := ⟨_, rfl⟩
    obtain ⟨F, hF⟩ : ∃ F, F = kept e.2.2.1 v.2.2.1 := ⟨_, rfl⟩
    rw [← hG] at hcnt ⊢
    rw [← hF] at hFr hFl ⊢
    refine Does.loop (c := f_spec_l9Apply_l19c) (v := f_spec_l9Apply_l19v) (ex := f_spec_l9Apply_l19e)
      (fun (xc : Unit × Unit) (xv : (Int × (List DMeta) × Int × Int × Unit) × (DEdit × DVersion × (List DMeta) × Unit)) => ∃ j : Nat, xv = (((G : Int), (e.2.2.2.1, (llen e.2.2.2.1, ((j : Int), ())))), (e, (noVer, (insAll (e.2.2.2.1.take j) F, ())))) ∧ j ≤ e.2.2.2.1.length)
      (fun _ (xv : (Int × (List DMeta) × Int × Int × Unit) × (DEdit × DVersion × (List DMeta) × Unit)) => e.2.2.2.1.length - Int.toNat xv.1.2.2.2.1) ?_ ⟨0, rfl, by omega⟩
    rintro xc xv ⟨j, rfl, hj⟩
    simp only [round, f_spec_l9Apply_l19]
    have hil : ∀ q, (insAll (e.2.2.2.1.take q) F).length ≤ 60 := fun q => by
      have := (insAll_spec (e.2.2.2.1.take q) F hFr.le).1.length_eq
      rw [this]; simp; omega
    refine Does.cond (fun hlt2 => ?_) (fun hlt2 => ?_)
    · have hlt2 := ilt_iff.1 hlt2
      simp only [llen] at hlt2
      refine Does.getO (by omega) (by omega) fun m hm => ?_
      rw [Int.toNat_natCast] at hm
      have hI := hil j
      have hsn : insAll (e.2.2.2.1.take (j + 1)) F = ins (insAll (e.2.2.2.1.take j) F) m := by rw [take_snoc hm, insAll_snoc]
      obtain ⟨I, hIe⟩ : ∃ I, I = insAll (e.2.2.2.1.take j) F := ⟨_, rfl⟩
      rw [← hIe] at hI hsn ⊢
      refine Does.loop (c := f_spec_l9Apply_l22c) (v := f_spec_l9Apply_l22v) (ex := f_spec_l9Apply_l22e)
        (fun (xc : (Int × (List DMeta) × Int × Int × Unit) × (DEdit × DVersion × (List DMeta) × DMeta × Unit)) (xv : (Int × Unit) × Unit) => xc = (((G : Int), (e.2.2.2.1, (llen e.2.2.2.1, ((j : Int), ())))), (e, (noVer, (I, (m, ()))))) ∧ ∃ u : Nat, xv = (((u : Int), ()), ()) ∧ u ≤ I.length ∧ ∀ i x, i < u → I[i]? = some x → x.1 < m.1)
        (fun _ (xv : (Int × Unit) × Unit) => I.length - Int.toNat xv.1.1) ?_ ⟨rfl, 0, rfl, by omega, fun i x h => by omega⟩
      have fin : ∀ u : Nat, u ≤ I.length → (∀ i x, i < u → I[i]? = some x → x.1 < m.1) → (∀ x, I[u]? = some x → ¬ x.1 < m.1) →
          ((((([] : List DMeta) ++ (List.take ((Int.toNat (u : Int)) - (0 : Nat)) (List.drop (0 : Nat) I))) ++ [m]) ++ (List.take ((List.length I) - (Int.toNat (u : Int))) (List.drop (Int.toNat (u : Int)) I))) = insAll (e.2.2.2.1.take (j + 1)) F) := fun u hu hb hs => by
        rw [hsn, List.drop_zero, Nat.sub_zero, Int.toNat_natCast]
        exact ins_at hu hb hs
      rintro xc xv ⟨rfl, u, rfl, hu, hb⟩
      simp only [round, f_spec_l9Apply_l22]
      have out : (∀ x, I[u]? = some x → ¬ x.1 < m.1) → ∀ {R : Type} {Q : R → Prop} (k : List DMeta → Int → Option R), Does (k (insAll (e.2.2.2.1.take (j + 1)) F) ((j + 1 : Nat) : Int)) Q →
          Does (req (decide ((0 : Int) ≤ (u : Int)) && decide ((u : Int) ≤ ((List.length I) : Int))) (req (decide (List.length ([] : List DMeta) + List.length (List.take ((Int.toNat (u : Int)) - (0 : Nat)) (List.drop (0 : Nat) I)) ≤ 17179869184)) (req (decide (List.length (([] : List DMeta) ++ (List.take ((Int.toNat (u : Int)) - (0 : Nat)) (List.drop (0 : Nat) I))) + List.length [m] ≤ 17179869184)) (req (decide ((0 : Int) ≤ (u : Int)) && decide ((u : Int) ≤ ((List.length I) : Int))) (req (decide (List.length ((([] : List DMeta) ++ (List.take ((Int.toNat (u : Int)) - (0 : Nat)) (List.drop (0 : Nat) I))) ++ [m]) + List.length (List.take ((List.length I) - (Int.toNat (u : Int))) (List.drop (Int.toNat (u : Int)) I)) ≤ 17179869184)) (k (((([] : List DMeta) ++ (List.take ((Int.toNat (u : Int)) - (0 : Nat)) (List.drop (0 : Nat) I))) ++ [m]) ++ (List.take ((List.length I) - (Int.toNat (u : Int))) (List.drop (Int.toNat (u : Int)) I))) (iadd .i64 (j : Int) (1 : Int)))))))) Q := fun hs R Q k hk => by
        refine Does.req (by simp; omega) (Does.req (by simp; omega) (Does.req (by simp; omega) (Does.req (by simp; omega) (Does.req (by simp; omega) ?_))))
        rw [fin u hu hb hs, iadd_i64 (by omega)]
        exact hk
      refine Does.cond (fun hlt3 => ?_) (fun hlt3 => ?_)
      · have hlt3 := ilt_iff.1 hlt3
        simp only [llen] at hlt3
        refine Does.getO (by omega) (by omega) fun y hy => ?_
        rw [hy, bnd_some, bnd_some]
        rw [Int.toNat_natCast] at hy
        refine Does.cond (fun hb3 => Does.val ?_) (fun hb3 => Does.val ?_)
        · dsimp only
          rw [iadd_i64 (by omega)]
          exact ⟨⟨rfl, u + 1, rfl, by omega, upto_step (P := fun _ x => x.1 < m.1) hb hy (ilt_iff.1 hb3)⟩, by omega⟩
        · refine out (fun x hx => by rw [hy] at hx; injection hx with hx; rw [← hx]; have := ilt_false.1 hb3; omega) (fun l i => some (Sum.inl (((), ()), (((G : Int), (e.2.2.2.1, (llen e.2.2.2.1, (i, ())))), (e, (noVer, (l, ()))))))) (Does.val ?_)
          exact ⟨⟨j + 1, rfl, by omega⟩, by dsimp only; omega⟩
      · have hlt3 := ilt_false.1 hlt3
        simp only [llen] at hlt3
        refine Does.val ?_
        refine out (fun x hx => by have := (List.getElem?_eq_some_iff.1 hx).1; omega) (fun l i => some (Sum.inl (((), ()), (((G : Int), (e.2.2.2.1, (llen e.2.2.2.1, (i, ())))), (e, (noVer, (l, ()))))))) (Does.val ?_)
        exact ⟨⟨j + 1, rfl, by omega⟩, by dsimp only; omega⟩
    · have hlt2 := ilt_false.1 hlt2
      simp only [llen] at hlt2
      have hjA : e.2.2.2.1.take j = e.2.2.2.1 := List.take_of_length_le (by omega)
      rw [hjA]
      refine Does.val ?_
      dsimp only
      refine Does.cond (fun h6 => Does.val (bad fun h => ?_)) (fun h6 => ?_)
      · have h6 : ieq (G : Int) (llen e.2.2.1) = false := by simpa using h6
        have h6 := ieq_false.1 h6
        simp only [llen] at h6
        have := hcnt.2 h.2.2.2.1
        omega
      · have h6 : ieq (G : Int) (llen e.2.2.1) = true := by simpa using h6
        have h6 := ieq_iff.1 h6
        simp only [llen] at h6
        have hf := hcnt.1 (by omega)
        have hil2 := hil j
        rw [hjA] at hil2
        refine Does.bnd (f_spec_GoodVersionDoes (x := ((e.1, (e.2.1, (insAll e.2.2.2.1 F, ()))), ())) (by dsimp only; omega)) fun r18 hr18 => ?_
        dsimp only at hr18
        have hav : (e.1, (e.2.1, (insAll e.2.2.2.1 F, ()))) = appV v e := by rw [hF]; rfl
        rw [hav] at hr18 ⊢
        refine Does.cond (fun h7 => Does.val (bad fun h => ?_)) (fun h7 => Does.val ?_)
        · have := hr18.2 h.2.2.2.2
          rw [this] at h7; cases h7
        · unfold appR
          rw [if_pos ⟨⟨E1, E2, E3, E4, E5⟩, h4, h5, hf, hr18.1 (by simpa using h7)⟩]

def newV : DVersion := ((1 : Int), ((0 : Int), (([] : List DMeta), ())))

theorem newV_good : GoodV newV := ⟨by decide, by decide, ⟨by simp [newV], fun i x h => by simp [newV] at h⟩, fun i x h => by simp [newV] at h⟩

theorem appR_ok {v : DVersion} {e : DEdit} (h : AppOk v e) : appR v e = (appV v e, (true, ())) := if_pos h

theorem appR_no {v : DVersion} {e : DEdit} (h : ¬ AppOk v e) : appR v e = (noVer, (false, ())) := if_neg h

def EdOk (t : ByteArray) (v : DVersion) : Prop := (editR t).2.1 = true ∧ AppOk v (editR t).1

open Classical in
/-- frames played one by one -/
def recL : List ByteArray → DVersion → Nat → DVersion × Nat
  | [], v, k => (v, k)
  | t :: l, v, k => if EdOk t v then recL l (appV v (editR t).1) (k + 1) else (v, k)

theorem recL_ok {t : ByteArray} {l : List ByteArray} {v : DVersion} {k : Nat} (h : EdOk t v) : recL (t :: l) v k = recL l (appV v (editR t).1) (k + 1) := if_pos h

theorem recL_no {t : ByteArray} {l : List ByteArray} {v : DVersion} {k : Nat} (h : ¬ EdOk t v) : recL (t :: l) v k = (v, k) := if_neg h

/-- the frames at the head of a text -/
def frGo : Nat → ByteArray → List ByteArray
  | 0, _ => []
  | f + 1, s => match takeFr s with
    | none => []
    | some q => q.1 :: frGo f (dr s q.2)

theorem frGo_succ (f : Nat) (s : ByteArray) : frGo (f + 1) s = match takeFr s with
    | none => []
    | some q => q.1 :: frGo f (dr s q.2) := rfl

def recV (s : ByteArray) : DVersion × Nat := recL (frGo 60 s) newV 0

theorem recL_good : ∀ (l : List ByteArray) (v : DVersion) (k : Nat), GoodV v → GoodV (recL l v k).1 ∧ (recL l v k).2 ≤ k + l.length ∧ k ≤ (recL l v k).2
  | [], v, k, h => ⟨h, by simp [recL], by simp [recL]⟩
  | t :: l, v, k, h => by
    by_cases ht : EdOk t v
    · rw [recL_ok ht]
      obtain ⟨h1, h2, h3⟩ := recL_good l (appV v (editR t).1) (k + 1) ht.2.2.2.2.2
      exact ⟨h1, by simp; omega, by omega⟩
    · rw [recL_no ht]
      exact ⟨h, by simp, Nat.le_refl _⟩

theorem frGo_len : ∀ (f : Nat) (s : ByteArray), (frGo f s).length ≤ f ∧ ∀ t ∈ frGo f s, t.size ≤ 1000
  | 0, s => ⟨by simp [frGo], fun t h => by simp [frGo] at h⟩
  | f + 1, s => by
    unfold frGo
    cases hq : takeFr s with
    | none => exact ⟨by simp, fun t h => by simp at h⟩
    | some q =>
      obtain ⟨h1, h2⟩ := frGo_len f (dr s q.2)
      refine ⟨by simp; omega, fun t ht => ?_⟩
      rcases List.mem_cons.1 ht with rfl | ht
      · exact (takeFr_size hq).1
      · exact h2 t ht

theorem recV_good (s : ByteArray) : GoodV (recV s).1 ∧ (recV s).2 ≤ 60 := by
  obtain ⟨h1, h2, _⟩ := recL_good (frGo 60 s) newV 0 newV_good
  have := (frGo_len 60 s).1
  exact ⟨h1, by show (recL _ _ _).2 ≤ 60; omega⟩

theorem takeFr_empty {s : ByteArray} (h : s.size = 0) : takeFr s = none := by
  have h0 : (takeVar s).2 = 0 := by
    have : s[0]? = none := getElem?_neg s 0 (by omega)
    simp only [takeVar, takeGo, this]
  unfold takeFr
  rw [if_pos h0]

theorem f_impl_RecoverVersionVal (s : ByteArray) (hs : s.size ≤ 1048576) : f_impl_RecoverVersion (s, ()) = some (((recV s).1, ((((recV s).2 : Nat) : Int), (true, ()))), ()) := by
  have key : Does (f_impl_RecoverVersion (s, ())) fun r => r = (((recV s).1, ((((recV s).2 : Nat) : Int), (true, ()))), ()) := by
    unfold f_impl_RecoverVersion f_impl_NewVersion
    rw [bnd_some]
    dsimp only
    refine Does.loop (c := f_impl_RecoverVersion_l2c) (v := f_impl_RecoverVersion_l2v) (ex := f_impl_RecoverVersion_l2e)
      (fun (xc : Unit × (DVersion × Unit)) (xv : (ByteArray × Int × Unit) × (DVersion × Unit)) => xc = ((), (noVer, ())) ∧ ∃ (k : Nat) (s' : ByteArray) (v : DVersion), xv = ((s', ((k : Int), ())), (v, ())) ∧ k ≤ 60 ∧ s'.size ≤ 1048576 ∧ GoodV v ∧ recL (frGo (60 - k) s') v k = recV s)
      (fun _ (xv : (ByteArray × Int × Unit) × (DVersion × Unit)) => 60 - Int.toNat xv.1.2.1) ?_ ⟨rfl, 0, s, newV, rfl, by omega, hs, newV_good, rfl⟩
    rintro xc xv ⟨rfl, k, s', v, rfl, hk, hs', hv, hrec⟩
    simp only [round, f_impl_RecoverVersion_l2]
    refine Does.cond (fun hlt => ?_) (fun hlt => ?_)
    · have hlt := ilt_iff.1 hlt
      have hlt : k < 60 := by omega
      rw [show 60 - k = (60 - (k + 1)) + 1 by omega, frGo_succ (60 - (k + 1)) s'] at hrec
      rw [f_impl_TakeFrameVal _ hs', bnd_some]
      dsimp only
      cases hq : takeFr s' with
      | none =>
        rw [hq] at hrec
        simp only [frR, Bool.not_false, cond_true]
        exact Does.val (Does.val (by rw [← hrec]; rfl))
      | some q =>
        rw [hq] at hrec
        dsimp only at hrec
        obtain ⟨hq1, hq2⟩ := takeFr_size hq
        simp only [frR, Bool.not_true, cond_false]
        rw [f_impl_ReadEditVal, bnd_some]
        dsimp only
        rw [if_pos hq1]
        obtain ⟨el1, el2⟩ := editR_len q.1 hq1
        refine Does.cond (fun h1 => ?_) (fun h1 => ?_)
        · have hno : ¬ EdOk q.1 v := fun h => by rw [h.1] at h1; cases h1
          rw [recL_no hno] at hrec
          exact Does.val (Does.val (by rw [← hrec]))
        · have h1 : (editR q.1).2.1 = true := by simpa using h1
          obtain ⟨r4, a4, b4⟩ := f_impl_ApplyEditDoes v (editR q.1).1 hv (by omega) (by omega)
          rw [a4, bnd_some, b4]
          dsimp only
          by_cases h2 : AppOk v (editR q.1).1
          · rw [appR_ok h2]
            simp only [Bool.not_true, cond_false]
            rw [recL_ok ⟨h1, h2⟩] at hrec
            refine Does.req (bounds_ok hq2) (Does.val ?_)
            dsimp only
            rw [iadd_i64 (by omega)]
            refine ⟨⟨rfl, k + 1, dr s' q.2, appV v (editR q.1).1, ?_, by omega, by rw [dr_size]; omega, h2.2.2.2.2, hrec⟩, by omega⟩
            rw [Int.toNat_natCast]
            rfl
          · rw [appR_no h2]
            simp only [Bool.not_false, cond_true]
            rw [recL_no fun h => h2 h.2] at hrec
            exact Does.val (Does.val (by rw [← hrec]))
    · have hlt := ilt_false.1 hlt
      have : 60 - k = 0 := by omega
      rw [this] at hrec
      exact Does.val (Does.val (by rw [← hrec]; rfl))
  obtain ⟨r, h1, h2⟩ := key
  rw [h1, h2]

theorem f_spec_l2FramesVal (s : ByteArray) (hs : s.size ≤ 1048576) : Does (f_spec_l2Frames (s, ())) fun r => r.1.1 = frGo 60 s := by
  unfold f_spec_l2Frames
  dsimp only
  refine Does.loop (c := f_spec_l2Frames_l3c) (v := f_spec_l2Frames_l3v) (ex := f_spec_l2Frames_l3e)
    (fun (xc : (ByteArray × Unit) × Unit) (xv : (Int × Unit) × ((List ByteArray) × Unit)) => xc = ((s, ()), ()) ∧ ∃ (a : Nat) (l : List ByteArray), xv = (((a : Int), ()), (l, ())) ∧ a ≤ s.size ∧ l.length ≤ 60 ∧ l ++ frGo (60 - l.length) (dr s a) = frGo 60 s)
    (fun _ (xv : (Int × Unit) × ((List ByteArray) × Unit)) => 60 - xv.2.1.length) ?_ ⟨rfl, 0, [], rfl, by omega, by simp, by rw [dr_zero]; rfl⟩
  rintro xc xv ⟨rfl, a, l, rfl, ha, hl, hrec⟩
  simp only [round, f_spec_l2Frames_l3]
  refine Does.cond (fun hlt => ?_) (fun hlt => ?_)
  · refine Does.cond (fun hlt2 => ?_) (fun hlt2 => ?_)
    · have hlt2 := ilt_iff.1 hlt2
      simp only [llen] at hlt2
      refine Does.req (bounds_ok ha) ?_
      rw [show 60 - l.length = (60 - (l.length + 1)) + 1 by omega, frGo_succ (60 - (l.length + 1)) (dr s a)] at hrec
      have hd : ByteArray.extract s (Int.toNat (a : Int)) (ByteArray.size s) = dr s a := by rw [Int.toNat_natCast]; rfl
      rw [hd, f_spec_l2TakeFrameVal _ (by dsimp only; rw [dr_size]; omega), bnd_some]
      dsimp only
      cases hq : takeFr (dr s a) with
      | none =>
        rw [hq] at hrec
        simp only [frR, Bool.not_false, cond_true]
        exact Does.val (Does.val (by rw [← hrec]; simp))
      | some q =>
        rw [hq] at hrec
        dsimp only at hrec
        obtain ⟨hq1, hq2⟩ := takeFr_size hq
        rw [dr_size] at hq2
        simp only [frR, Bool.not_true, cond_false]
        refine Does.req (by simp; omega) (Does.val ?_)
        dsimp only
        rw [iadd_i64 (by omega)]
        refine ⟨⟨rfl, a + q.2, l ++ [q.1], by rw [show ((a + q.2 : Nat) : Int) = (a : Int) + (q.2 : Int) by omega], by omega, by simp; omega, ?_⟩, by simp; omega⟩
        rw [← hrec, dr_dr]
        simp
    · have hlt2 := ilt_false.1 hlt2
      simp only [llen] at hlt2
      have : 60 - l.length = 0 := by omega
      rw [this] at hrec
      exact Does.val (Does.val (by rw [← hrec]; simp [frGo]))
  · have hlt := ilt_false.1 hlt
    simp only [slen] at hlt
    have he : takeFr (dr s a) = none := takeFr_empty (by rw [dr_size]; omega)
    have hf : ∀ f, frGo f (dr s a) = [] := fun f => by cases f with | zero => rfl | succ f => unfold frGo; rw [he]
    rw [hf, List.append_nil] at hrec
    exact Does.val (Does.val hrec)

theorem f_spec_RecoverVersionVal (s : ByteArray) (hs : s.size ≤ 1048576) : f_spec_RecoverVersion (s, ()) = some (((recV s).1, ((((recV s).2 : Nat) : Int), (true, ()))), ()) := by
  have key : Does (f_spec_RecoverVersion (s, ())) fun r => r = (((recV s).1, ((((recV s).2 : Nat) : Int), (true, ()))), ()) := by
    unfold f_spec_RecoverVersion
    dsimp only
    obtain ⟨r1, a1, b1⟩ := f_spec_l2FramesVal s hs
    unfold f_spec_NewVersion
    rw [a1, bnd_some, bnd_some]
    dsimp only
    rw [b1]
    obtain ⟨hfl, hfs⟩ := frGo_len 60 s
    obtain ⟨l, hl⟩ : ∃ l, l = frGo 60 s := ⟨_, rfl⟩
    have hrv : recV s = recL l newV 0 := by rw [hl]; rfl
    rw [← hl] at hfl hfs ⊢
    rw [hrv]
    refine Does.loop (c := f_spec_RecoverVersion_l4c) (v := f_spec_RecoverVersion_l4v) (ex := f_spec_RecoverVersion_l4e)
      (fun (xc : (Int × Unit) × ((List ByteArray) × Unit)) (xv : (Int × Unit) × (DVersion × DVersion × Unit)) => xc = ((llen l, ()), (l, ())) ∧ ∃ (k : Nat) (v : DVersion), xv = (((k : Int), ()), (noVer, (v, ()))) ∧ k ≤ l.length ∧ GoodV v ∧ recL (l.drop k) v k = recL l newV 0)
      (fun _ (xv : (Int × Unit) × (DVersion × DVersion × Unit)) => l.length - Int.toNat xv.1.1) ?_ ⟨rfl, 0, newV, rfl, by omega, newV_good, by rw [List.drop_zero]⟩
    rintro xc xv ⟨rfl, k, v, rfl, hk, hv, hrec⟩
    simp only [round, f_spec_RecoverVersion_l4]
    refine Does.cond (fun hlt => ?_) (fun hlt => ?_)
    · have hlt := ilt_iff.1 hlt
      simp only [llen] at hlt
      have hkl : k < l.length := by omega
      refine Does.getO (by omega) (by omega) fun t ht => ?_
      rw [ht, bnd_some]
      rw [Int.toNat_natCast] at ht
      have hts := hfs t (List.mem_of_getElem? ht)
      have hd : l.drop k = t :: l.drop (k + 1) := by
        rw [List.getElem?_eq_getElem hkl] at ht
        injection ht with ht
        rw [← ht]
        exact (List.getElem_cons_drop (h := hkl)).symm
      rw [hd] at hrec
      rw [f_spec_l9ReadVal _ hts, bnd_some]
      dsimp only
      obtain ⟨el1, el2⟩ := editR_len t hts
      refine Does.cond (fun h1 => ?_) (fun h1 => ?_)
      · have hno : ¬ EdOk t v := fun h => by rw [h.1] at h1; cases h1
        rw [recL_no hno] at hrec
        exact Does.val (Does.val (by rw [← hrec]))
      · have h1 : (editR t).2.1 = true := by simpa using h1
        obtain ⟨r4, a4, b4⟩ := f_spec_l9ApplyDoes v (editR t).1 hv (by omega) (by omega)
        rw [a4, bnd_some, b4]
        dsimp only
        by_cases h2 : AppOk v (editR t).1
        · rw [appR_ok h2]
          simp only [Bool.not_true, cond_false]
          rw [recL_ok ⟨h1, h2⟩] at hrec
          refine Does.val ?_
          dsimp only
          rw [iadd_i64 (by omega)]
          exact ⟨⟨rfl, k + 1, appV v (editR t).1, rfl, by omega, h2.2.2.2.2, hrec⟩, by omega⟩
        · rw [appR_no h2]
          simp only [Bool.not_false, cond_true]
          rw [recL_no fun h => h2 h.2] at hrec
          exact Does.val (Does.val (by rw [← hrec]))
    · have hlt := ilt_false.1 hlt
      simp only [llen] at hlt
      have hkl : k = l.length := by omega
      rw [List.drop_of_length_le (by omega)] at hrec
      refine Does.val (Does.val ?_)
      dsimp only
      rw [← hrec, hkl]
      rfl
  obtain ⟨r, h1, h2⟩ := key
  rw [h1, h2]

end Go.Proofs.Ytbekojfgnbnpcaa
