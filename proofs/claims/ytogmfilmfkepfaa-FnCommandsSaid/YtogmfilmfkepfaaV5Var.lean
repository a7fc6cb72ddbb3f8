/- Numbers and texts read and written (declarations of R1Var, R1Cmd, R1Itm, R1Back). -/
import Derived.Test.YtogmfilmfkepfaaR5Fns
import Derived.Test.YtogmfilmfkepfaaUMid
set_option linter.all false
noncomputable section
namespace Go.Proofs.Ytogmfilmfkepfaa
open Go Go.Proofs.Ytogmfilmfkepfaa.Ev

/-- the number at the head of a text, and how many bytes it takes -/
def takeGo (s : ByteArray) : Nat → Nat → Nat → Nat × Nat
  | 0, _, _ => (0, 0)
  | f + 1, k, n => match s[k]? with
    | none => (0, 0)
    | some b => if b.toNat < 128 then (if 0 < k ∧ b.toNat = 0 then (0, 0) else (n ||| (b.toNat % 128 * 2 ^ (7 * k)), k + 1)) else takeGo s f (k + 1) (n ||| (b.toNat % 128 * 2 ^ (7 * k)))

def takeVar (s : ByteArray) : Nat × Nat := takeGo s 9 0 0

theorem getElem?_size {s : ByteArray} {k : Nat} {b : UInt8} (h : s[k]? = some b) : k < s.size := by
  rcases Nat.lt_or_ge k s.size with h1 | h1
  · exact h1
  · rw [getElem?_neg s k (by omega)] at h; cases h

theorem getElem?_none {s : ByteArray} {k : Nat} (h : s[k]? = none) : s.size ≤ k := by
  rcases Nat.lt_or_ge k s.size with h1 | h1
  · rw [getElem?_pos s k h1] at h; cases h
  · exact h1

theorem step_lt {n k b : Nat} (hk : k ≤ 8) (hn : n < 2 ^ (7 * k)) : b % 128 * 2 ^ (7 * k) < 9223372036854775808 ∧ n < 9223372036854775808 ∧ n ||| (b % 128 * 2 ^ (7 * k)) < 2 ^ (7 * (k + 1)) := by
  have h1 : b % 128 * 2 ^ (7 * k) < 2 ^ (7 * (k + 1)) := by
    rw [show 7 * (k + 1) = 7 + 7 * k by omega, Nat.pow_add]
    exact Nat.mul_lt_mul_of_pos_right (by omega) (Nat.two_pow_pos _)
  have h2 : n < 2 ^ (7 * (k + 1)) := Nat.lt_of_lt_of_le hn (Nat.pow_le_pow_right (by omega) (by omega))
  have h3 : 2 ^ (7 * (k + 1)) ≤ 2 ^ 63 := Nat.pow_le_pow_right (by omega) (by omega)
  exact ⟨by omega, by omega, Nat.or_lt_two_pow h2 h1⟩

theorem byte_lt (b : UInt8) : b.toNat < 256 := b.toNat_lt

theorem takeGo_ok (s : ByteArray) : ∀ (f k n : Nat), f + k = 9 → n < 2 ^ (7 * k) → (takeGo s f k n).1 < 9223372036854775808 ∧ (takeGo s f k n).2 ≤ s.size
  | 0, _, _, _, _ => by simp [takeGo]
  | f + 1, k, n, hf, hn => by
    simp only [takeGo]
    cases hb : s[k]? with
    | none => simp
    | some b =>
      obtain ⟨h1, h2, h3⟩ := step_lt (b := b.toNat) (by omega) hn
      simp only
      split
      · split
        · simp
        · have := getElem?_size hb
          have h4 : 2 ^ (7 * (k + 1)) ≤ 2 ^ 63 := Nat.pow_le_pow_right (by omega) (by omega)
          exact ⟨by simp only; omega, by simp only; omega⟩
      · exact takeGo_ok s f (k + 1) _ (by omega) h3

theorem takeVar_ok (s : ByteArray) : (takeVar s).1 < 9223372036854775808 ∧ (takeVar s).2 ≤ s.size := takeGo_ok s 9 0 0 rfl (by decide)

theorem loop_f_impl_TakeVar (s : ByteArray) {R : Type} (kk : ((ByteArray × Unit) × Unit) → (((Int × Int × Unit) × Unit) ⊕ (Unit × Unit)) → Option R) (g : Nat → Nat → Option R)
    (h1 : ∀ c (n u : Nat), kk c (.inl (((n : Int), ((u : Int), ())), ())) = g n u) (h2 : ∀ c, kk c (.inr ((), ())) = g 0 0) :
    ∀ (f k n : Nat), f + k = 9 → n < 2 ^ (7 * k) → loopF (c := f_impl_TakeVar_l3c) (v := f_impl_TakeVar_l3v) (ex := f_impl_TakeVar_l3e) f_impl_TakeVar_l3 R ((s, ()), ()) (((n : Int), ((k : Int), ())), ()) kk = g (takeGo s f k n).1 (takeGo s f k n).2
  | 0, k, n, hf, hn => by
    have hk : k = 9 := by omega
    subst hk
    have hc : ilt ((9 : Nat) : Int) (imin (slen s) (9 : Int)) = false := ilt_false.2 (by rw [imin_eq]; simp only [slen]; omega)
    rw [loopF_done (c' := ((s, ()), ())) (o := Sum.inr ((), ())) (by simp only [round, f_impl_TakeVar_l3]; rw [hc]; rfl), h2]
    rfl
  | f + 1, k, n, hf, hn => by
    simp only [takeGo]
    cases hb : s[k]? with
    | none =>
      have := getElem?_none hb
      have hc : ilt (k : Int) (imin (slen s) (9 : Int)) = false := ilt_false.2 (by rw [imin_eq]; simp only [slen]; omega)
      rw [loopF_done (c' := ((s, ()), ())) (o := Sum.inr ((), ())) (by simp only [round, f_impl_TakeVar_l3]; rw [hc]; rfl), h2]
    | some b =>
      have hs := getElem?_size hb
      have hB := byte_lt b
      obtain ⟨e1, e2, e3⟩ := step_lt (b := b.toNat) (show k ≤ 8 by omega) hn
      have hc : ilt (k : Int) (imin (slen s) (9 : Int)) = true := ilt_iff.2 (by rw [imin_eq]; simp only [slen]; omega)
      have hm : imul .i64 (7 : Int) (k : Int) = ((7 * k : Nat) : Int) := by rw [imul_i64 (by omega)]; simp
      have hr : ile (0 : Int) ((7 * k : Nat) : Int) = true := by simp [ile]; omega
      have hw : IntKind.wrap .i64 (b.toNat : Int) = (b.toNat : Int) := wrap_i64 _ (by omega)
      have hrem : irem .i64 (b.toNat : Int) (128 : Int) = ((b.toNat % 128 : Nat) : Int) := by simp [irem, Int.tmod]
      have hsh : ishl .i64 ((b.toNat % 128 : Nat) : Int) ((7 * k : Nat) : Int) = ((b.toNat % 128 * 2 ^ (7 * k) : Nat) : Int) := ishl_nat _ _ (by omega) e1
      have hor : ior .i64 (n : Int) ((b.toNat % 128 * 2 ^ (7 * k) : Nat) : Int) = ((n ||| (b.toNat % 128 * 2 ^ (7 * k)) : Nat) : Int) := ior_nat _ _ e2 e1
      have had : iadd .i64 (k : Int) (1 : Int) = ((k + 1 : Nat) : Int) := by rw [iadd_i64 (by omega)]; simp
      have hstep : ∀ (S : Type) (K : ((ByteArray × Unit) × Unit) → (((Int × Int × Unit) × Unit) ⊕ (((Int × Int × Unit) × Unit) ⊕ (Unit × Unit))) → Option S), f_impl_TakeVar_l3 S ((s, ()), ()) (((n : Int), ((k : Int), ())), ()) K =
          if b.toNat < 128 then (if 0 < k ∧ b.toNat = 0 then K ((s, ()), ()) (.inr (.inl (((0 : Int), ((0 : Int), ())), ()))) else K ((s, ()), ()) (.inr (.inl ((((n ||| (b.toNat % 128 * 2 ^ (7 * k)) : Nat) : Int), (((k + 1 : Nat) : Int), ())), ()))))
          else K ((s, ()), ()) (.inl ((((n ||| (b.toNat % 128 * 2 ^ (7 * k)) : Nat) : Int), (((k + 1 : Nat) : Int), ())), ())) := by
        intro S K
        simp only [f_impl_TakeVar_l3, hc, cond_true]
        rw [getB_at (by omega) (by simpa using hb)]
        simp only [hm, hr, req, cond_true, hw, hrem, hsh, hor, had]
        by_cases hlt : b.toNat < 128
        · simp only [hlt, if_true, show ilt (b.toNat : Int) (128 : Int) = true by simp [ilt]; omega, cond_true]
          by_cases hk0 : 0 < k
          · simp only [show ilt (0 : Int) (k : Int) = true by simp [ilt]; omega, cond_true]
            by_cases hz : b.toNat = 0
            · simp only [hk0, hz, and_self, if_true]; rfl
            · simp only [hz, and_false, if_false, show ieq (b.toNat : Int) (0 : Int) = false by simp [ieq, hz], cond_false]
          · simp only [hk0, false_and, if_false, show ilt (0 : Int) (k : Int) = false by simp [ilt]; omega, cond_false]
        · simp only [hlt, if_false, show ilt (b.toNat : Int) (128 : Int) = false by simp [ilt]; omega, cond_false]
      simp only
      by_cases hlt : b.toNat < 128
      · simp only [hlt, if_true]
        by_cases hz : 0 < k ∧ b.toNat = 0
        · simp only [hz, and_self, if_true]
          rw [loopF_done (c' := ((s, ()), ())) (o := Sum.inl (((0 : Int), ((0 : Int), ())), ())) (by rw [round, hstep, if_pos hlt, if_pos hz])]
          exact h1 _ 0 0
        · simp only [hz, if_false]
          rw [loopF_done (c' := ((s, ()), ())) (o := Sum.inl ((((n ||| (b.toNat % 128 * 2 ^ (7 * k)) : Nat) : Int), (((k + 1 : Nat) : Int), ())), ())) (by rw [round, hstep, if_pos hlt, if_neg hz])]
          exact h1 _ _ _
      · simp only [hlt, if_false]
        rw [loopF_more (c' := ((s, ()), ())) (v' := ((((n ||| (b.toNat % 128 * 2 ^ (7 * k)) : Nat) : Int), (((k + 1 : Nat) : Int), ())), ())) (by rw [round, hstep, if_neg hlt])]
        exact loop_f_impl_TakeVar s kk g h1 h2 f (k + 1) _ (by omega) e3

theorem val_f_impl_TakeVar (x : ByteArray × Unit) : f_impl_TakeVar x = some ((((takeVar x.1).1 : Int), (((takeVar x.1).2 : Int), ())), ()) :=
  loop_f_impl_TakeVar x.1 _ (fun n u => some (((n : Int), ((u : Int), ())), ())) (fun _ _ _ => rfl) (fun _ => rfl) 9 0 0 rfl (by decide)

theorem tf {p : Prop} (h : true = false) : p := by cases h

theorem ft {p : Prop} (h : false = true) : p := by cases h

theorem bounds_ok {u n : Nat} (h : u ≤ n) : (decide ((0 : Int) ≤ (u : Int)) && decide ((u : Int) ≤ ((n : Nat) : Int))) = true := by
  simp; omega

theorem text_impl (x : Dtaker × Int × Unit) (p : Dtaker) (n : Nat) (hp : x.1 = p) (hn : x.2.1 = (n : Int)) : f_impl_taker_text x = some (if p.2.1 = true ∨ p.1.size < n then (((⟨#[]⟩ : ByteArray), ()), ((p.1, (true, p.2.2)), ())) else ((p.1.extract 0 n, ()), ((p.1.extract n p.1.size, (false, p.2.2)), ()))) := by
  obtain ⟨s, b, ⟨⟩⟩ := p
  simp only [f_impl_taker_text, hp, hn]
  cases b with
  | true => rfl
  | false =>
    simp only [cond_false]
    by_cases hn : s.size < n
    · rw [ilt_iff.2 (show slen s < (n : Int) by simp only [slen]; omega)]
      simp [hn]
    · rw [ilt_false.2 (show (n : Int) ≤ slen s by simp only [slen]; omega), bounds_ok (by omega)]
      simp [hn, req]

theorem ishr_div {k : IntKind} {a : Int} (n : Nat) (hn : n ≤ k.bits) : ishr k a (n : Int) = a / (2 ^ n : Int) := by
  simp only [ishr, Int.toNat_natCast]
  rw [Nat.min_eq_left hn, Int.fdiv_eq_ediv_of_nonneg _ (Int.le_of_lt (Int.pow_pos (by decide)))]

def vb : Nat → Nat → List Int
  | 0, n => [((n % 256 : Nat) : Int)]
  | f + 1, n => if n < 128 then [((n % 256 : Nat) : Int)] else ((n % 128 + 128 : Nat) : Int) :: vb f (n / 128)

theorem vb_length : ∀ (f n : Nat), (vb f n).length ≤ f + 1
  | 0, _ => by simp [vb]
  | f + 1, n => by
    simp only [vb]
    split
    · simp
    · have := vb_length f (n / 128); simp; omega

theorem f_impl_varBytesLoop {R : Type} (kk : (Unit × Unit) → ((Int × Unit) × ((List Int) × Unit)) → Option R) (g : List Int → Option R) (hg : ∀ c (n : Nat) l, l.length ≤ 20 → kk c (((n : Int), ()), (l, ())) = g (l ++ [((n % 256 : Nat) : Int)])) :
    ∀ (f n : Nat) (l : List Int), n < 128 ^ (f + 1) → f ≤ 9 → l.length + f ≤ 19 → loopF (c := f_impl_varBytes_l2c) (v := f_impl_varBytes_l2v) (ex := f_impl_varBytes_l2e) f_impl_varBytes_l2 R ((), ()) (((n : Int), ()), (l, ())) kk = g (l ++ vb f n)
  | 0, n, l, hn, hf, hl => by
    have h1 : ile (128 : Int) (n : Int) = false := ile_false.2 (by simp at hn; omega)
    rw [loopF_done (c' := ((), ())) (o := (((n : Int), ()), (l, ()))) (by simp only [round, f_impl_varBytes_l2, h1, cond_false]), hg _ _ _ (by omega)]
    rfl
  | f + 1, n, l, hn, hf, hl => by
    simp only [vb]
    by_cases hlt : n < 128
    · have h1 : ile (128 : Int) (n : Int) = false := ile_false.2 (by omega)
      rw [loopF_done (c' := ((), ())) (o := (((n : Int), ()), (l, ()))) (by simp only [round, f_impl_varBytes_l2, h1, cond_false]), hg _ _ _ (by omega), if_pos hlt]
    · have h1 : ile (128 : Int) (n : Int) = true := ile_iff.2 (by omega)
      have h2 : iadd .u8 (IntKind.wrap .u8 (irem .i64 (n : Int) (128 : Int))) (128 : Int) = ((n % 128 + 128 : Nat) : Int) := by
        simp only [iadd, irem, wrap_u8]
        rw [Int.tmod_eq_emod_of_nonneg (by omega)]
        omega
      have hb : n < 170141183460469231731687303715884105728 * 1 ∨ True := .inr trivial
      have h3 : n / 128 < 128 ^ (f + 1) := by
        rw [Nat.div_lt_iff_lt_mul (by decide), ← Nat.pow_succ]
        exact hn
      have h4 : iquo .i64 (n : Int) (128 : Int) = ((n / 128 : Nat) : Int) := by
        simp only [iquo]
        rw [Int.tdiv_eq_ediv_of_nonneg (by omega)]
        have : (128 : Nat) ^ (f + 1) ≤ 128 ^ 9 := Nat.pow_le_pow_right (by decide) (by omega)
        rw [wrap_i64 _ (by omega)]
        simp
      have h5 : decide (List.length l + List.length [((n % 128 + 128 : Nat) : Int)] ≤ 17179869184) = true := decide_eq_true (by simp; omega)
      rw [loopF_more (c' := ((), ())) (v' := ((((n / 128 : Nat) : Int), ()), (l ++ [((n % 128 + 128 : Nat) : Int)], ()))) (by
        simp only [round, f_impl_varBytes_l2, h1, cond_true]
        rw [h2, h5, req_true, h4])]
      rw [f_impl_varBytesLoop kk g hg f (n / 128) _ h3 (by omega) (by simp; omega), if_neg hlt]
      simp

def varB (n : Nat) : ByteArray := strOf (vb 8 n)

theorem pow9 : (9223372036854775808 : Nat) = 128 ^ 9 := by decide

theorem f_impl_varBytesVal (x : Int × Unit) (n : Nat) (hx : x.1 = (n : Int)) (hn : n < 9223372036854775808) : f_impl_varBytes x = some ((varB n, ()), ()) := by
  simp only [f_impl_varBytes, hx]
  have := f_impl_varBytesLoop (R := (ByteArray × Unit) × Unit) (fun c1 o2 => (req (decide (List.length o2.2.1 + List.length [(IntKind.wrap .u8 o2.1.1)] ≤ 17179869184)) (some (((strOf (o2.2.1 ++ [(IntKind.wrap .u8 o2.1.1)])), ()), ())))) (fun l => some ((strOf l, ()), ()))
    (fun c n l hl => by
      have h5 : decide (List.length l + List.length [IntKind.wrap .u8 (n : Int)] ≤ 17179869184) = true := decide_eq_true (by simp; omega)
      dsimp only
      rw [h5, req_true, wrap_u8]
      simp) 8 n [] (by rw [pow9] at hn; exact hn) (by omega) (by simp)
  rw [this]
  rfl

theorem iand_i64 (a b : Nat) (ha : a < 9223372036854775808) (hb : b < 9223372036854775808) : iand .i64 a b = ((a &&& b : Nat) : Int) := by
  have h : a &&& b ≤ a := Nat.and_le_left
  have e : (BitVec.ofInt 64 (a : Int) &&& BitVec.ofInt 64 (b : Int)).toNat = a &&& b := by
    rw [BitVec.toNat_and, ofInt_nat, ofInt_nat, Nat.mod_eq_of_lt (a := a) (by omega), Nat.mod_eq_of_lt (a := b) (by omega)]
  show IntKind.i64.wrap ((BitVec.ofInt 64 (a : Int) &&& BitVec.ofInt 64 (b : Int)).toNat : Int) = _
  rw [e]
  exact wrap_i64 _ (by omega)

theorem or128 (a : Nat) (h : a < 128) : a ||| 128 = a + 128 := by
  have := Nat.two_pow_add_eq_or_of_lt (i := 7) (b := a) h 1
  simp at this
  rw [Nat.or_comm]
  omega

theorem f_spec_l2VarLoop {R : Type} (kk : (Unit × Unit) → ((Int × Unit) × ((List Int) × Unit)) → Option R) (g : List Int → Option R) (hg : ∀ c (n : Nat) l, l.length ≤ 20 → kk c (((n : Int), ()), (l, ())) = g (l ++ [((n % 256 : Nat) : Int)])) :
    ∀ (f n : Nat) (l : List Int), n < 128 ^ (f + 1) → f ≤ 8 → l.length + f ≤ 19 → loopF (c := f_spec_l2Var_l2c) (v := f_spec_l2Var_l2v) (ex := f_spec_l2Var_l2e) f_spec_l2Var_l2 R ((), ()) (((n : Int), ()), (l, ())) kk = g (l ++ vb f n)
  | 0, n, l, hn, hf, hl => by
    have h1 : ilt (127 : Int) (n : Int) = false := ilt_false.2 (by simp at hn; omega)
    rw [loopF_done (c' := ((), ())) (o := (((n : Int), ()), (l, ()))) (by simp only [round, f_spec_l2Var_l2, h1, cond_false]), hg _ _ _ (by omega)]
    rfl
  | f + 1, n, l, hn, hf, hl => by
    simp only [vb]
    by_cases hlt : n < 128
    · have h1 : ilt (127 : Int) (n : Int) = false := ilt_false.2 (by omega)
      rw [loopF_done (c' := ((), ())) (o := (((n : Int), ()), (l, ()))) (by simp only [round, f_spec_l2Var_l2, h1, cond_false]), hg _ _ _ (by omega), if_pos hlt]
    · have hbig : n < 9223372036854775808 := by
        have : (128 : Nat) ^ (f + 1 + 1) ≤ 128 ^ 9 := Nat.pow_le_pow_right (by decide) (by omega)
        omega
      have h1 : ilt (127 : Int) (n : Int) = true := ilt_iff.2 (by omega)
      have h2 : IntKind.wrap .u8 (ior .i64 (iand .i64 (n : Int) (127 : Int)) (128 : Int)) = ((n % 128 + 128 : Nat) : Int) := by
        have e1 := iand_i64 n 127 hbig (by omega)
        rw [show ((127 : Nat) : Int) = (127 : Int) from rfl, Nat.and_two_pow_sub_one_eq_mod n 7] at e1
        rw [e1]
        have e2 := ior_nat (n % 2 ^ 7) 128 (by omega) (by omega)
        rw [show ((128 : Nat) : Int) = (128 : Int) from rfl, or128 _ (by omega)] at e2
        rw [e2, wrap_u8]
        omega
      have h3 : n / 128 < 128 ^ (f + 1) := by
        rw [Nat.div_lt_iff_lt_mul (by decide), ← Nat.pow_succ]
        exact hn
      have h4 : ishr .i64 (n : Int) (7 : Int) = ((n / 128 : Nat) : Int) := by
        have := ishr_div (k := .i64) (a := (n : Int)) 7 (by decide)
        rw [show ((7 : Nat) : Int) = (7 : Int) from rfl] at this
        rw [this]
        simp
      have h5 : decide (List.length l + List.length [((n % 128 + 128 : Nat) : Int)] ≤ 17179869184) = true := decide_eq_true (by simp; omega)
      rw [loopF_more (c' := ((), ())) (v' := ((((n / 128 : Nat) : Int), ()), (l ++ [((n % 128 + 128 : Nat) : Int)], ()))) (by
        simp only [round, f_spec_l2Var_l2, h1, cond_true]
        rw [h2, h5, req_true, h4])]
      rw [f_spec_l2VarLoop kk g hg f (n / 128) _ h3 (by omega) (by simp; omega), if_neg hlt]
      simp

theorem f_spec_l2VarVal (x : Int × Unit) (n : Nat) (hx : x.1 = (n : Int)) (hn : n < 9223372036854775808) : f_spec_l2Var x = some ((varB n, ()), ()) := by
  simp only [f_spec_l2Var, hx]
  have := f_spec_l2VarLoop (R := (ByteArray × Unit) × Unit) (fun c1 o2 => (req (decide (List.length o2.2.1 + List.length [(IntKind.wrap .u8 o2.1.1)] ≤ 17179869184)) (some (((strOf (o2.2.1 ++ [(IntKind.wrap .u8 o2.1.1)])), ()), ())))) (fun l => some ((strOf l, ()), ()))
    (fun c n l hl => by
      have h5 : decide (List.length l + List.length [IntKind.wrap .u8 (n : Int)] ≤ 17179869184) = true := decide_eq_true (by simp; omega)
      dsimp only
      rw [h5, req_true, wrap_u8]
      simp) 8 n [] (by rw [pow9] at hn; exact hn) (by omega) (by simp)
  rw [this]
  rfl

theorem strOf_size (l : List Int) : (strOf l).size = l.length := by simp [strOf, ByteArray.size]

theorem varB_size (n : Nat) : (varB n).size ≤ 9 := by
  rw [varB, strOf_size]
  exact vb_length 8 n

theorem empty_append (a : ByteArray) : (⟨#[]⟩ : ByteArray) ++ a = a := ByteArray.empty_append

theorem strOf_cons (x : Int) (l : List Int) : strOf (x :: l) = strOf [x] ++ strOf l := by
  apply ByteArray.ext
  simp [strOf]

theorem at_strOf (A B : ByteArray) (x : Int) (l : List Int) : (A ++ strOf (x :: l) ++ B)[A.size]? = some (UInt8.ofNat x.toNat) := by
  have h : A.size < (A ++ strOf (x :: l) ++ B).size := by simp only [ByteArray.size_append, strOf_size, List.length_cons]; omega
  rw [getElem?_pos (A ++ strOf (x :: l) ++ B) A.size h]
  have h2 : A.size < (A ++ strOf (x :: l)).size := by simp only [ByteArray.size_append, strOf_size, List.length_cons]; omega
  rw [ByteArray.getElem_append_left h2, ByteArray.getElem_append_right (by omega)]
  have h3 : A.size - A.size < (strOf (x :: l)).size := by rw [strOf_size]; simp
  have e : (strOf (x :: l))[A.size - A.size]'h3 = (strOf (x :: l)).data[A.size - A.size]'h3 := rfl
  rw [e]
  simp [strOf]

theorem or_add (a b k : Nat) (h : a < 2 ^ (7 * k)) : a ||| (b * 2 ^ (7 * k)) = a + b * 2 ^ (7 * k) := by
  have := Nat.two_pow_add_eq_or_of_lt h b
  rw [Nat.or_comm, Nat.mul_comm b]
  omega

theorem takeGo_vb (B : ByteArray) : ∀ (f n k acc : Nat) (A : ByteArray), A.size = k → n < 128 ^ (f + 1) → acc < 2 ^ (7 * k) → (0 < k → 0 < n) →
    takeGo (A ++ strOf (vb f n) ++ B) (f + 1) k acc = (acc + n * 2 ^ (7 * k), k + (vb f n).length)
  | f, n, k, acc, A, hA, hn, ha, h0 => by
    have hlast : n < 128 → vb f n = [((n % 256 : Nat) : Int)] → takeGo (A ++ strOf (vb f n) ++ B) (f + 1) k acc = (acc + n * 2 ^ (7 * k), k + (vb f n).length) := by
      intro hlt he
      rw [he]
      simp only [takeGo, ← hA, at_strOf]
      have hb : (UInt8.ofNat ((n % 256 : Nat) : Int).toNat).toNat = n := by
        rw [Int.toNat_natCast, UInt8.toNat_ofNat']
        omega
      rw [hb, if_pos hlt, if_neg (by omega), Nat.mod_eq_of_lt hlt, hA, or_add _ _ _ ha]
      rfl
    cases f with
    | zero => exact hlast (by simpa using hn) rfl
    | succ f =>
      by_cases hlt : n < 128
      · exact hlast hlt (by simp only [vb, if_pos hlt])
      · have he : vb (f + 1) n = ((n % 128 + 128 : Nat) : Int) :: vb f (n / 128) := by simp only [vb, if_neg hlt]
        rw [he]
        have hb : (UInt8.ofNat ((n % 128 + 128 : Nat) : Int).toNat).toNat = n % 128 + 128 := by
          rw [Int.toNat_natCast, UInt8.toNat_ofNat']
          omega
        have hp : 2 ^ (7 * (k + 1)) = 2 ^ (7 * k) * 128 := by rw [show 7 * (k + 1) = 7 * k + 7 by omega, Nat.pow_add]
        have hacc : acc + n % 128 * 2 ^ (7 * k) < 2 ^ (7 * (k + 1)) := by
          rw [hp]
          have : n % 128 * 2 ^ (7 * k) ≤ 127 * 2 ^ (7 * k) := Nat.mul_le_mul_right _ (by omega)
          omega
        have h3 : n / 128 < 128 ^ (f + 1) := by
          rw [Nat.div_lt_iff_lt_mul (by decide), ← Nat.pow_succ]
          exact hn
        have ih := takeGo_vb B f (n / 128) (k + 1) (acc + n % 128 * 2 ^ (7 * k)) (A ++ strOf [((n % 128 + 128 : Nat) : Int)]) (by rw [ByteArray.size_append, strOf_size, hA]; rfl) h3 hacc (fun _ => by omega)
        have hs : A ++ strOf (((n % 128 + 128 : Nat) : Int) :: vb f (n / 128)) ++ B = A ++ strOf [((n % 128 + 128 : Nat) : Int)] ++ strOf (vb f (n / 128)) ++ B := by
          rw [strOf_cons]
          simp only [ByteArray.append_assoc]
        unfold takeGo
        rw [← hA, at_strOf]
        dsimp only
        rw [hb, if_neg (by omega), show (n % 128 + 128) % 128 = n % 128 by omega, hA, or_add _ _ _ ha, hs, ih]
        simp only [List.length_cons]
        congr 1
        · rw [hp]
          have e : n = n / 128 * 128 + n % 128 := by omega
          have : n * 2 ^ (7 * k) = n / 128 * 128 * 2 ^ (7 * k) + n % 128 * 2 ^ (7 * k) := by rw [← Nat.add_mul, ← e]
          have e2 : n / 128 * (2 ^ (7 * k) * 128) = n / 128 * 128 * 2 ^ (7 * k) := by rw [Nat.mul_comm (2 ^ (7 * k)) 128, Nat.mul_assoc]
          omega
        · omega

theorem takeVar_varB (n : Nat) (B : ByteArray) (hn : n < 9223372036854775808) : takeVar (varB n ++ B) = (n, (varB n).size) := by
  have := takeGo_vb B 8 n 0 0 ⟨#[]⟩ rfl (by rw [pow9] at hn; exact hn) (by decide) (fun h => by omega)
  rw [empty_append] at this
  rw [takeVar, varB, this, strOf_size]
  simp

theorem varB_pos (n : Nat) : 0 < (varB n).size := by
  rw [varB, strOf_size]
  simp only [vb]
  split <;> simp

end Go.Proofs.Ytogmfilmfkepfaa
