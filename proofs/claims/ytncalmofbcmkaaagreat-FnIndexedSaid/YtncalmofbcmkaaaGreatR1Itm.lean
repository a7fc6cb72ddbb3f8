/- Words, numbers as bytes, common beginnings, good items, runs in order: both sides compute the same. -/
import Derived.Test.YtncalmofbcmkaaaGreatR1Sum
set_option linter.all false
namespace Go.Proofs.YtncalmofbcmkaaaGreat
open Go Go.Proofs.YtncalmofbcmkaaaGreat.Ev

/-! ### words -/
theorem ishr_div {k : IntKind} {a : Int} (n : Nat) (hn : n ≤ k.bits) : ishr k a (n : Int) = a / (2 ^ n : Int) := by
  simp only [ishr, Int.toNat_natCast]
  rw [Nat.min_eq_left hn, Int.fdiv_eq_ediv_of_nonneg _ (Int.le_of_lt (Int.pow_pos (by decide)))]

theorem ishr8 (k : IntKind) (hk : 8 ≤ k.bits) (a : Int) : ishr k a (8 : Int) = a / 256 := ishr_div (k := k) (a := a) 8 hk
theorem ishr16 (k : IntKind) (hk : 16 ≤ k.bits) (a : Int) : ishr k a (16 : Int) = a / 65536 := ishr_div (k := k) (a := a) 16 hk
theorem ishr24 (k : IntKind) (hk : 24 ≤ k.bits) (a : Int) : ishr k a (24 : Int) = a / 16777216 := ishr_div (k := k) (a := a) 24 hk

/-- bytes of a number, the lowest first, so many -/
def lows : Nat → Int → List Int
  | 0, _ => []
  | k + 1, n => (n % 256) :: lows k (n / 256)

theorem lows_length : ∀ (k : Nat) (n : Int), (lows k n).length = k
  | 0, _ => rfl
  | k + 1, n => by simp [lows, lows_length k]

theorem f_impl_lowFirstLoop {R : Type} (many : Nat) (hm : many ≤ 1000) (kk : ((Int × Unit) × Unit) → (Unit × ((List Int) × Unit)) → Option R) :
    ∀ (f i : Nat) (n : Int) (l : List Int), f + i = many → l.length = i → loopF (c := f_impl_lowFirst_l3c) (v := f_impl_lowFirst_l3v) (ex := f_impl_lowFirst_l3e) f_impl_lowFirst_l3 R (((many : Int), ()), ()) ((n, ((i : Int), ())), (l, ())) kk = kk (((many : Int), ()), ()) ((), (l ++ lows f n, ()))
  | 0, i, n, l, hf, hl => by
    have h1 : ilt (i : Int) (many : Int) = false := ilt_false.2 (by omega)
    rw [loopF_done (c' := (((many : Int), ()), ())) (o := ((), (l, ()))) (by simp only [round, f_impl_lowFirst_l3, h1, cond_false])]
    simp [lows]
  | f + 1, i, n, l, hf, hl => by
    have h1 : ilt (i : Int) (many : Int) = true := ilt_iff.2 (by omega)
    have h2 : iadd .i64 (i : Int) (1 : Int) = ((i + 1 : Nat) : Int) := by rw [iadd_i64 (by omega)]; simp
    have h3 : decide (List.length l + List.length [IntKind.wrap .u8 n] ≤ 17179869184) = true := decide_eq_true (by simp; omega)
    rw [loopF_more (c' := (((many : Int), ()), ())) (v' := ((n / 256, (((i + 1 : Nat) : Int), ())), (l ++ [n % 256], ()))) (by
      simp only [round, f_impl_lowFirst_l3, h1, cond_true]
      rw [h3, req_true, h2, ishr8 .u32 (by decide), wrap_u8])]
    rw [f_impl_lowFirstLoop many hm kk f (i + 1) _ _ (by omega) (by simp [hl])]
    simp [lows]

theorem f_impl_lowFirstVal (x : Int × Int × Unit) (many : Nat) (hm : many ≤ 1000) (hx : x.2.1 = (many : Int)) : f_impl_lowFirst x = some ((strOf (lows many x.1), ()), ()) := by
  simp only [f_impl_lowFirst, hx]
  have := f_impl_lowFirstLoop many hm (fun c1 o2 => some (((strOf o2.2.1), ()), ())) many 0 x.1 [] rfl rfl
  rw [show ((0 : Int)) = ((0 : Nat) : Int) from rfl, this]
  simp

theorem lows_four (n : Int) : lows 4 n = [n % 256, (n / 256) % 256, (n / 65536) % 256, (n / 16777216) % 256] := by
  simp only [lows]
  congr 1
  congr 1
  congr 1
  · omega
  · congr 1; omega

theorem f_spec_l2WordVal (x : Int × Unit) : f_spec_l2Word x = some ((strOf (lows 4 x.1), ()), ()) := by
  simp only [f_spec_l2Word, ishr8 .u32 (by decide), ishr16 .u32 (by decide), ishr24 .u32 (by decide), wrap_u8, lows_four]

/-- two bytes of a place -/
theorem f_spec_l6TwoVal (x : Int × Unit) : f_spec_l6Two x = some ((strOf (lows 2 x.1), ()), ()) := by
  simp only [f_spec_l6Two, ishr8 .i64 (by decide), wrap_u8, lows]

theorem lows_wrap (n : Int) : lows 2 (IntKind.wrap .u32 n) = lows 2 n := by
  simp only [lows, wrap_u32]
  congr 1
  · omega
  · congr 1; omega

/-! ### numbers as bytes -/
def vb : Nat → Nat → List Int
  | 0, n => [((n % 256 : Nat) : Int)]
  | f + 1, n => if n < 128 then [((n % 256 : Nat) : Int)] else ((n % 128 + 128 : Nat) : Int) :: vb f (n / 128)

theorem vb_length : ∀ (f n : Nat), (vb f n).length ≤ f + 1
  | 0, _ => by simp [vb]
  | f + 1, n => by
    simp only [vb]
    split
    · simp
    · have := vb_length f (n / 128); simp; omega

theorem f_impl_varBytesLoop {R : Type} (kk : (Unit × Unit) → ((Int × Unit) × ((List Int) × Unit)) → Option R) (g : List Int → Option R) (hg : ∀ c (n : Nat) l, l.length ≤ 20 → kk c (((n : Int), ()), (l, ())) = g (l ++ [((n % 256 : Nat) : Int)])) :
    ∀ (f n : Nat) (l : List Int), n < 128 ^ (f + 1) → f ≤ 9 → l.length + f ≤ 19 → loopF (c := f_impl_varBytes_l2c) (v := f_impl_varBytes_l2v) (ex := f_impl_varBytes_l2e) f_impl_varBytes_l2 R ((), ()) (((n : Int), ()), (l, ())) kk = g (l ++ vb f n)
  | 0, n, l, hn, hf, hl => by
    have h1 : ile (128 : Int) (n : Int) = false := ile_false.2 (by simp at hn; omega)
    rw [loopF_done (c' := ((), ())) (o := (((n : Int), ()), (l, ()))) (by simp only [round, f_impl_varBytes_l2, h1, cond_false]), hg _ _ _ (by omega)]
    rfl
  | f + 1, n, l, hn, hf, hl => by
    simp only [vb]
    by_cases hlt : n < 128
    · have h1 : ile (128 : Int) (n : Int) = false := ile_false.2 (by omega)
      rw [loopF_done (c' := ((), ())) (o := (((n : Int), ()), (l, ()))) (by simp only [round, f_impl_varBytes_l2, h1, cond_false]), hg _ _ _ (by omega), if_pos hlt]
    · have h1 : ile (128 : Int) (n : Int) = true := ile_iff.2 (by omega)
      have h2 : iadd .u8 (IntKind.wrap .u8 (irem .i64 (n : Int) (128 : Int))) (128 : Int) = ((n % 128 + 128 : Nat) : Int) := by
        simp only [iadd, irem, wrap_u8]
        rw [Int.tmod_eq_emod_of_nonneg (by omega)]
        omega
      have hb : n < 170141183460469231731687303715884105728 * 1 ∨ True := .inr trivial
      have h3 : n / 128 < 128 ^ (f + 1) := by
        rw [Nat.div_lt_iff_lt_mul (by decide), ← Nat.pow_succ]
        exact hn
      have h4 : iquo .i64 (n : Int) (128 : Int) = ((n / 128 : Nat) : Int) := by
        simp only [iquo]
        rw [Int.tdiv_eq_ediv_of_nonneg (by omega)]
        have : (128 : Nat) ^ (f + 1) ≤ 128 ^ 9 := Nat.pow_le_pow_right (by decide) (by omega)
        rw [wrap_i64 _ (by omega)]
        simp
      have h5 : decide (List.length l + List.length [((n % 128 + 128 : Nat) : Int)] ≤ 17179869184) = true := decide_eq_true (by simp; omega)
      rw [loopF_more (c' := ((), ())) (v' := ((((n / 128 : Nat) : Int), ()), (l ++ [((n % 128 + 128 : Nat) : Int)], ()))) (by
        simp only [round, f_impl_varBytes_l2, h1, cond_true]
        rw [h2, h5, req_true, h4])]
      rw [f_impl_varBytesLoop kk g hg f (n / 128) _ h3 (by omega) (by simp; omega), if_neg hlt]
      simp

def varB (n : Nat) : ByteArray := strOf (vb 8 n)

theorem pow9 : (9223372036854775808 : Nat) = 128 ^ 9 := by decide

theorem f_impl_varBytesVal (x : Int × Unit) (n : Nat) (hx : x.1 = (n : Int)) (hn : n < 9223372036854775808) : f_impl_varBytes x = some ((varB n, ()), ()) := by
  simp only [f_impl_varBytes, hx]
  have := f_impl_varBytesLoop (R := (ByteArray × Unit) × Unit) (fun c1 o2 => (req (decide (List.length o2.2.1 + List.length [(IntKind.wrap .u8 o2.1.1)] ≤ 17179869184)) (some (((strOf (o2.2.1 ++ [(IntKind.wrap .u8 o2.1.1)])), ()), ())))) (fun l => some ((strOf l, ()), ()))
    (fun c n l hl => by
      have h5 : decide (List.length l + List.length [IntKind.wrap .u8 (n : Int)] ≤ 17179869184) = true := decide_eq_true (by simp; omega)
      dsimp only
      rw [h5, req_true, wrap_u8]
      simp) 8 n [] (by rw [pow9] at hn; exact hn) (by omega) (by simp)
  rw [this]
  rfl

theorem iand_i64 (a b : Nat) (ha : a < 9223372036854775808) (hb : b < 9223372036854775808) : iand .i64 a b = ((a &&& b : Nat) : Int) := by
  have h : a &&& b ≤ a := Nat.and_le_left
  have e : (BitVec.ofInt 64 (a : Int) &&& BitVec.ofInt 64 (b : Int)).toNat = a &&& b := by
    rw [BitVec.toNat_and, ofInt_nat, ofInt_nat, Nat.mod_eq_of_lt (a := a) (by omega), Nat.mod_eq_of_lt (a := b) (by omega)]
  show IntKind.i64.wrap ((BitVec.ofInt 64 (a : Int) &&& BitVec.ofInt 64 (b : Int)).toNat : Int) = _
  rw [e]
  exact wrap_i64 _ (by omega)

theorem or128 (a : Nat) (h : a < 128) : a ||| 128 = a + 128 := by
  have := Nat.two_pow_add_eq_or_of_lt (i := 7) (b := a) h 1
  simp at this
  rw [Nat.or_comm]
  omega

theorem f_spec_l2VarLoop {R : Type} (kk : (Unit × Unit) → ((Int × Unit) × ((List Int) × Unit)) → Option R) (g : List Int → Option R) (hg : ∀ c (n : Nat) l, l.length ≤ 20 → kk c (((n : Int), ()), (l, ())) = g (l ++ [((n % 256 : Nat) : Int)])) :
    ∀ (f n : Nat) (l : List Int), n < 128 ^ (f + 1) → f ≤ 8 → l.length + f ≤ 19 → loopF (c := f_spec_l2Var_l2c) (v := f_spec_l2Var_l2v) (ex := f_spec_l2Var_l2e) f_spec_l2Var_l2 R ((), ()) (((n : Int), ()), (l, ())) kk = g (l ++ vb f n)
  | 0, n, l, hn, hf, hl => by
    have h1 : ilt (127 : Int) (n : Int) = false := ilt_false.2 (by simp at hn; omega)
    rw [loopF_done (c' := ((), ())) (o := (((n : Int), ()), (l, ()))) (by simp only [round, f_spec_l2Var_l2, h1, cond_false]), hg _ _ _ (by omega)]
    rfl
  | f + 1, n, l, hn, hf, hl => by
    simp only [vb]
    by_cases hlt : n < 128
    · have h1 : ilt (127 : Int) (n : Int) = false := ilt_false.2 (by omega)
      rw [loopF_done (c' := ((), ())) (o := (((n : Int), ()), (l, ()))) (by simp only [round, f_spec_l2Var_l2, h1, cond_false]), hg _ _ _ (by omega), if_pos hlt]
    · have hbig : n < 9223372036854775808 := by
        have : (128 : Nat) ^ (f + 1 + 1) ≤ 128 ^ 9 := Nat.pow_le_pow_right (by decide) (by omega)
        omega
      have h1 : ilt (127 : Int) (n : Int) = true := ilt_iff.2 (by omega)
      have h2 : IntKind.wrap .u8 (ior .i64 (iand .i64 (n : Int) (127 : Int)) (128 : Int)) = ((n % 128 + 128 : Nat) : Int) := by
        have e1 := iand_i64 n 127 hbig (by omega)
        rw [show ((127 : Nat) : Int) = (127 : Int) from rfl, Nat.and_two_pow_sub_one_eq_mod n 7] at e1
        rw [e1]
        have e2 := ior_nat (n % 2 ^ 7) 128 (by omega) (by omega)
        rw [show ((128 : Nat) : Int) = (128 : Int) from rfl, or128 _ (by omega)] at e2
        rw [e2, wrap_u8]
        omega
      have h3 : n / 128 < 128 ^ (f + 1) := by
        rw [Nat.div_lt_iff_lt_mul (by decide), ← Nat.pow_succ]
        exact hn
      have h4 : ishr .i64 (n : Int) (7 : Int) = ((n / 128 : Nat) : Int) := by
        have := ishr_div (k := .i64) (a := (n : Int)) 7 (by decide)
        rw [show ((7 : Nat) : Int) = (7 : Int) from rfl] at this
        rw [this]
        simp
      have h5 : decide (List.length l + List.length [((n % 128 + 128 : Nat) : Int)] ≤ 17179869184) = true := decide_eq_true (by simp; omega)
      rw [loopF_more (c' := ((), ())) (v' := ((((n / 128 : Nat) : Int), ()), (l ++ [((n % 128 + 128 : Nat) : Int)], ()))) (by
        simp only [round, f_spec_l2Var_l2, h1, cond_true]
        rw [h2, h5, req_true, h4])]
      rw [f_spec_l2VarLoop kk g hg f (n / 128) _ h3 (by omega) (by simp; omega), if_neg hlt]
      simp

theorem f_spec_l2VarVal (x : Int × Unit) (n : Nat) (hx : x.1 = (n : Int)) (hn : n < 9223372036854775808) : f_spec_l2Var x = some ((varB n, ()), ()) := by
  simp only [f_spec_l2Var, hx]
  have := f_spec_l2VarLoop (R := (ByteArray × Unit) × Unit) (fun c1 o2 => (req (decide (List.length o2.2.1 + List.length [(IntKind.wrap .u8 o2.1.1)] ≤ 17179869184)) (some (((strOf (o2.2.1 ++ [(IntKind.wrap .u8 o2.1.1)])), ()), ())))) (fun l => some ((strOf l, ()), ()))
    (fun c n l hl => by
      have h5 : decide (List.length l + List.length [IntKind.wrap .u8 (n : Int)] ≤ 17179869184) = true := decide_eq_true (by simp; omega)
      dsimp only
      rw [h5, req_true, wrap_u8]
      simp) 8 n [] (by rw [pow9] at hn; exact hn) (by omega) (by simp)
  rw [this]
  rfl

theorem strOf_size (l : List Int) : (strOf l).size = l.length := by simp [strOf, ByteArray.size]
theorem varB_size (n : Nat) : (varB n).size ≤ 9 := by
  rw [varB, strOf_size]
  exact vb_length 8 n

/-! ### common beginnings -/
def common (a b : ByteArray) : Nat → Nat → Nat
  | 0, k => k
  | f + 1, k => if k < a.size ∧ k < b.size ∧ a[k]? = b[k]? then common a b f (k + 1) else k

theorem common_le (a b : ByteArray) : ∀ (f k : Nat), k ≤ a.size → k ≤ b.size → common a b f k ≤ a.size ∧ common a b f k ≤ b.size
  | 0, k, h1, h2 => ⟨h1, h2⟩
  | f + 1, k, h1, h2 => by
    simp only [common]
    split
    · exact common_le a b f (k + 1) (by omega) (by omega)
    · exact ⟨h1, h2⟩

def commonOf (a b : ByteArray) : Nat := common a b a.size 0

end Go.Proofs.YtncalmofbcmkaaaGreat
