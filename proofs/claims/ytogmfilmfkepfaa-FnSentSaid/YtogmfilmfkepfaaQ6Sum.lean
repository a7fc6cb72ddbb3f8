/- Sums and numbers as bytes (declarations of R1Var, R1Itm, R1Sum). -/
import Derived.Test.YtogmfilmfkepfaaR6Fns
import Derived.Test.YtogmfilmfkepfaaUMid
set_option linter.all false
noncomputable section
namespace Go.Proofs.Ytogmfilmfkepfaa
open Go Go.Proofs.Ytogmfilmfkepfaa.Ev

theorem ishr_div {k : IntKind} {a : Int} (n : Nat) (hn : n ≤ k.bits) : ishr k a (n : Int) = a / (2 ^ n : Int) := by
  simp only [ishr, Int.toNat_natCast]
  rw [Nat.min_eq_left hn, Int.fdiv_eq_ediv_of_nonneg _ (Int.le_of_lt (Int.pow_pos (by decide)))]

def vb : Nat → Nat → List Int
  | 0, n => [((n % 256 : Nat) : Int)]
  | f + 1, n => if n < 128 then [((n % 256 : Nat) : Int)] else ((n % 128 + 128 : Nat) : Int) :: vb f (n / 128)

theorem vb_length : ∀ (f n : Nat), (vb f n).length ≤ f + 1
  | 0, _ => by simp [vb]
  | f + 1, n => by
    simp only [vb]
    split
    · simp
    · have := vb_length f (n / 128); simp; omega

theorem f_impl_varBytesLoop {R : Type} (kk : (Unit × Unit) → ((Int × Unit) × ((List Int) × Unit)) → Option R) (g : List Int → Option R) (hg : ∀ c (n : Nat) l, l.length ≤ 20 → kk c (((n : Int), ()), (l, ())) = g (l ++ [((n % 256 : Nat) : Int)])) :
    ∀ (f n : Nat) (l : List Int), n < 128 ^ (f + 1) → f ≤ 9 → l.length + f ≤ 19 → loopF (c := f_impl_varBytes_l2c) (v := f_impl_varBytes_l2v) (ex := f_impl_varBytes_l2e) f_impl_varBytes_l2 R ((), ()) (((n : Int), ()), (l, ())) kk = g (l ++ vb f n)
  | 0, n, l, hn, hf, hl => by
    have h1 : ile (128 : Int) (n : Int) = false := ile_false.2 (by simp at hn; omega)
    rw [loopF_done (c' := ((), ())) (o := (((n : Int), ()), (l, ()))) (by simp only [round, f_impl_varBytes_l2, h1, cond_false]), hg _ _ _ (by omega)]
    rfl
  | f + 1, n, l, hn, hf, hl => by
    simp only [vb]
    by_cases hlt : n < 128
    · have h1 : ile (128 : Int) (n : Int) = false := ile_false.2 (by omega)
      rw [loopF_done (c' := ((), ())) (o := (((n : Int), ()), (l, ()))) (by simp only [round, f_impl_varBytes_l2, h1, cond_false]), hg _ _ _ (by omega), if_pos hlt]
    · have h1 : ile (128 : Int) (n : Int) = true := ile_iff.2 (by omega)
      have h2 : iadd .u8 (IntKind.wrap .u8 (irem .i64 (n : Int) (128 : Int))) (128 : Int) = ((n % 128 + 128 : Nat) : Int) := by
        simp only [iadd, irem, wrap_u8]
        rw [Int.tmod_eq_emod_of_nonneg (by omega)]
        omega
      have hb : n < 170141183460469231731687303715884105728 * 1 ∨ True := .inr trivial
      have h3 : n / 128 < 128 ^ (f + 1) := by
        rw [Nat.div_lt_iff_lt_mul (by decide), ← Nat.pow_succ]
        exact hn
      have h4 : iquo .i64 (n : Int) (128 : Int) = ((n / 128 : Nat) : Int) := by
        simp only [iquo]
        rw [Int.tdiv_eq_ediv_of_nonneg (by omega)]
        have : (128 : Nat) ^ (f + 1) ≤ 128 ^ 9 := Nat.pow_le_pow_right (by decide) (by omega)
        rw [wrap_i64 _ (by omega)]
        simp
      have h5 : decide (List.length l + List.length [((n % 128 + 128 : Nat) : Int)] ≤ 17179869184) = true := decide_eq_true (by simp; omega)
      rw [loopF_more (c' := ((), ())) (v' := ((((n / 128 : Nat) : Int), ()), (l ++ [((n % 128 + 128 : Nat) : Int)], ()))) (by
        simp only [round, f_impl_varBytes_l2, h1, cond_true]
        rw [h2, h5, req_true, h4])]
      rw [f_impl_varBytesLoop kk g hg f (n / 128) _ h3 (by omega) (by simp; omega), if_neg hlt]
      simp

def varB (n : Nat) : ByteArray := strOf (vb 8 n)

theorem pow9 : (9223372036854775808 : Nat) = 128 ^ 9 := by decide

theorem f_impl_varBytesVal (x : Int × Unit) (n : Nat) (hx : x.1 = (n : Int)) (hn : n < 9223372036854775808) : f_impl_varBytes x = some ((varB n, ()), ()) := by
  simp only [f_impl_varBytes, hx]
  have := f_impl_varBytesLoop (R := (ByteArray × Unit) × Unit) (fun c1 o2 => (req (decide (List.length o2.2.1 + List.length [(IntKind.wrap .u8 o2.1.1)] ≤ 17179869184)) (some (((strOf (o2.2.1 ++ [(IntKind.wrap .u8 o2.1.1)])), ()), ())))) (fun l => some ((strOf l, ()), ()))
    (fun c n l hl => by
      have h5 : decide (List.length l + List.length [IntKind.wrap .u8 (n : Int)] ≤ 17179869184) = true := decide_eq_true (by simp; omega)
      dsimp only
      rw [h5, req_true, wrap_u8]
      simp) 8 n [] (by rw [pow9] at hn; exact hn) (by omega) (by simp)
  rw [this]
  rfl

theorem iand_i64 (a b : Nat) (ha : a < 9223372036854775808) (hb : b < 9223372036854775808) : iand .i64 a b = ((a &&& b : Nat) : Int) := by
  have h : a &&& b ≤ a := Nat.and_le_left
  have e : (BitVec.ofInt 64 (a : Int) &&& BitVec.ofInt 64 (b : Int)).toNat = a &&& b := by
    rw [BitVec.toNat_and, ofInt_nat, ofInt_nat, Nat.mod_eq_of_lt (a := a) (by omega), Nat.mod_eq_of_lt (a := b) (by omega)]
  show IntKind.i64.wrap ((BitVec.ofInt 64 (a : Int) &&& BitVec.ofInt 64 (b : Int)).toNat : Int) = _
  rw [e]
  exact wrap_i64 _ (by omega)

theorem or128 (a : Nat) (h : a < 128) : a ||| 128 = a + 128 := by
  have := Nat.two_pow_add_eq_or_of_lt (i := 7) (b := a) h 1
  simp at this
  rw [Nat.or_comm]
  omega

theorem f_spec_l2VarLoop {R : Type} (kk : (Unit × Unit) → ((Int × Unit) × ((List Int) × Unit)) → Option R) (g : List Int → Option R) (hg : ∀ c (n : Nat) l, l.length ≤ 20 → kk c (((n : Int), ()), (l, ())) = g (l ++ [((n % 256 : Nat) : Int)])) :
    ∀ (f n : Nat) (l : List Int), n < 128 ^ (f + 1) → f ≤ 8 → l.length + f ≤ 19 → loopF (c := f_spec_l2Var_l2c) (v := f_spec_l2Var_l2v) (ex := f_spec_l2Var_l2e) f_spec_l2Var_l2 R ((), ()) (((n : Int), ()), (l, ())) kk = g (l ++ vb f n)
  | 0, n, l, hn, hf, hl => by
    have h1 : ilt (127 : Int) (n : Int) = false := ilt_false.2 (by simp at hn; omega)
    rw [loopF_done (c' := ((), ())) (o := (((n : Int), ()), (l, ()))) (by simp only [round, f_spec_l2Var_l2, h1, cond_false]), hg _ _ _ (by omega)]
    rfl
  | f + 1, n, l, hn, hf, hl => by
    simp only [vb]
    by_cases hlt : n < 128
    · have h1 : ilt (127 : Int) (n : Int) = false := ilt_false.2 (by omega)
      rw [loopF_done (c' := ((), ())) (o := (((n : Int), ()), (l, ()))) (by simp only [round, f_spec_l2Var_l2, h1, cond_false]), hg _ _ _ (by omega), if_pos hlt]
    · have hbig : n < 9223372036854775808 := by
        have : (128 : Nat) ^ (f + 1 + 1) ≤ 128 ^ 9 := Nat.pow_le_pow_right (by decide) (by omega)
        omega
      have h1 : ilt (127 : Int) (n : Int) = true := ilt_iff.2 (by omega)
      have h2 : IntKind.wrap .u8 (ior .i64 (iand .i64 (n : Int) (127 : Int)) (128 : Int)) = ((n % 128 + 128 : Nat) : Int) := by
        have e1 := iand_i64 n 127 hbig (by omega)
        rw [show ((127 : Nat) : Int) = (127 : Int) from rfl, Nat.and_two_pow_sub_one_eq_mod n 7] at e1
        rw [e1]
        have e2 := ior_nat (n % 2 ^ 7) 128 (by omega) (by omega)
        rw [show ((128 : Nat) : Int) = (128 : Int) from rfl, or128 _ (by omega)] at e2
        rw [e2, wrap_u8]
        omega
      have h3 : n / 128 < 128 ^ (f + 1) := by
        rw [Nat.div_lt_iff_lt_mul (by decide), ← Nat.pow_succ]
        exact hn
      have h4 : ishr .i64 (n : Int) (7 : Int) = ((n / 128 : Nat) : Int) := by
        have := ishr_div (k := .i64) (a := (n : Int)) 7 (by decide)
        rw [show ((7 : Nat) : Int) = (7 : Int) from rfl] at this
        rw [this]
        simp
      have h5 : decide (List.length l + List.length [((n % 128 + 128 : Nat) : Int)] ≤ 17179869184) = true := decide_eq_true (by simp; omega)
      rw [loopF_more (c' := ((), ())) (v' := ((((n / 128 : Nat) : Int), ()), (l ++ [((n % 128 + 128 : Nat) : Int)], ()))) (by
        simp only [round, f_spec_l2Var_l2, h1, cond_true]
        rw [h2, h5, req_true, h4])]
      rw [f_spec_l2VarLoop kk g hg f (n / 128) _ h3 (by omega) (by simp; omega), if_neg hlt]
      simp

theorem f_spec_l2VarVal (x : Int × Unit) (n : Nat) (hx : x.1 = (n : Int)) (hn : n < 9223372036854775808) : f_spec_l2Var x = some ((varB n, ()), ()) := by
  simp only [f_spec_l2Var, hx]
  have := f_spec_l2VarLoop (R := (ByteArray × Unit) × Unit) (fun c1 o2 => (req (decide (List.length o2.2.1 + List.length [(IntKind.wrap .u8 o2.1.1)] ≤ 17179869184)) (some (((strOf (o2.2.1 ++ [(IntKind.wrap .u8 o2.1.1)])), ()), ())))) (fun l => some ((strOf l, ()), ()))
    (fun c n l hl => by
      have h5 : decide (List.length l + List.length [IntKind.wrap .u8 (n : Int)] ≤ 17179869184) = true := decide_eq_true (by simp; omega)
      dsimp only
      rw [h5, req_true, wrap_u8]
      simp) 8 n [] (by rw [pow9] at hn; exact hn) (by omega) (by simp)
  rw [this]
  rfl

theorem strOf_size (l : List Int) : (strOf l).size = l.length := by simp [strOf, ByteArray.size]

theorem varB_size (n : Nat) : (varB n).size ≤ 9 := by
  rw [varB, strOf_size]
  exact vb_length 8 n

/-- eight steps, one after the other -/
def crcStep (m : Int) : Int := cond (ieq (iand .u32 m (1 : Int)) (1 : Int)) (ixor .u32 (ishr .u32 m (1 : Int)) (2197175160 : Int)) (ishr .u32 m (1 : Int))

def crcIter : Nat → Int → Int
  | 0, m => m
  | k + 1, m => crcIter k (crcStep m)

theorem f_impl_SumTable_i10Val {R : Type} (c : ((Int × Int × Bool × Unit) × ((List Int) × Unit))) (v : ((Int × Unit) × Unit)) (kk : ((Int × Int × Bool × Unit) × ((List Int) × Unit)) → ((Int × Unit) × Unit) → Option R) :
    f_impl_SumTable_i10 R c v kk = kk c ((cond c.1.2.2.1 (ixor .u32 v.1.1 (2197175160 : Int)) v.1.1, ()), ()) := by
  obtain ⟨⟨a, b, t, ⟨⟩⟩, l, ⟨⟩⟩ := c
  cases t <;> rfl

theorem f_impl_SumTable_l6Val {R : Type} (n : Int) (l : List Int) (kk : (Unit × Unit) → ((Int × Int × Unit) × ((List Int) × Unit)) → Option R) :
    ∀ (f k : Nat) (m : Int), f + k = 8 → loopF (c := f_impl_SumTable_l6c) (v := f_impl_SumTable_l6v) (ex := f_impl_SumTable_l6e) f_impl_SumTable_l6 R ((), ()) ((m, (n, ((k : Int), ()))), (l, ())) kk = kk ((), ()) ((crcIter f m, (n, ())), (l, ()))
  | 0, k, m, hf => by
    have hk : k = 8 := by omega
    subst hk
    rw [loopF_done (c' := ((), ())) (o := ((m, (n, ())), (l, ()))) (by simp only [round, f_impl_SumTable_l6]; rfl)]
    try rfl
  | f + 1, k, m, hf => by
    have h1 : ilt (k : Int) (8 : Int) = true := ilt_iff.2 (by omega)
    have h2 : iadd .i64 (k : Int) (1 : Int) = ((k + 1 : Nat) : Int) := by rw [iadd_i64 (by omega)]; simp
    rw [loopF_more (c' := ((), ())) (v' := ((crcStep m, (n, (((k + 1 : Nat) : Int), ()))), (l, ()))) (by
      simp only [round, f_impl_SumTable_l6, h1, cond_true, f_impl_SumTable_i10Val, h2]; rfl)]
    exact f_impl_SumTable_l6Val n l kk f (k + 1) _ (by omega)

theorem f_impl_SumTable_l6Val0 {R : Type} (n m : Int) (l : List Int) (kk : (Unit × Unit) → ((Int × Int × Unit) × ((List Int) × Unit)) → Option R) :
    loopF (c := f_impl_SumTable_l6c) (v := f_impl_SumTable_l6v) (ex := f_impl_SumTable_l6e) f_impl_SumTable_l6 R ((), ()) ((m, (n, ((0 : Int), ()))), (l, ())) kk = kk ((), ()) ((crcIter 8 m, (n, ())), (l, ())) := f_impl_SumTable_l6Val n l kk 8 0 m rfl

theorem f_spec_l2Table_i12Val {R : Type} (c : ((Int × Int × Int × Int × Bool × Unit) × ((List Int) × Unit))) (v : ((Int × Unit) × Unit)) (kk : ((Int × Int × Int × Int × Bool × Unit) × ((List Int) × Unit)) → ((Int × Unit) × Unit) → Option R) :
    f_spec_l2Table_i12 R c v kk = kk c ((cond c.1.2.2.2.2.1 (ixor .u32 v.1.1 (2197175160 : Int)) v.1.1, ()), ()) := by
  obtain ⟨⟨a, b, d, e, t, ⟨⟩⟩, l, ⟨⟩⟩ := c
  cases t <;> rfl

theorem f_spec_l2Table_l7Val {R : Type} (i x y : Int) (l : List Int) (kk : (Unit × Unit) → ((Int × Int × Int × Int × Unit) × ((List Int) × Unit)) → Option R) :
    ∀ (f k : Nat) (m : Int), f + k = 8 → loopF (c := f_spec_l2Table_l7c) (v := f_spec_l2Table_l7v) (ex := f_spec_l2Table_l7e) f_spec_l2Table_l7 R ((), ()) ((i, (m, ((k : Int), (x, (y, ()))))), (l, ())) kk = kk ((), ()) ((i, (crcIter f m, (x, (y, ())))), (l, ()))
  | 0, k, m, hf => by
    have hk : k = 8 := by omega
    subst hk
    rw [loopF_done (c' := ((), ())) (o := ((i, (m, (x, (y, ())))), (l, ()))) (by simp only [round, f_spec_l2Table_l7]; rfl)]
    try rfl
  | f + 1, k, m, hf => by
    have h1 : ilt (k : Int) (8 : Int) = true := ilt_iff.2 (by omega)
    have h2 : iadd .i64 (k : Int) (1 : Int) = ((k + 1 : Nat) : Int) := by rw [iadd_i64 (by omega)]; simp
    rw [loopF_more (c' := ((), ())) (v' := ((i, (crcStep m, (((k + 1 : Nat) : Int), (x, (y, ()))))), (l, ()))) (by
      simp only [round, f_spec_l2Table_l7, h1, cond_true, f_spec_l2Table_i12Val, h2]; rfl)]
    exact f_spec_l2Table_l7Val i x y l kk f (k + 1) _ (by omega)

theorem f_spec_l2Table_l7Val0 {R : Type} (i x y m : Int) (l : List Int) (kk : (Unit × Unit) → ((Int × Int × Int × Int × Unit) × ((List Int) × Unit)) → Option R) :
    loopF (c := f_spec_l2Table_l7c) (v := f_spec_l2Table_l7v) (ex := f_spec_l2Table_l7e) f_spec_l2Table_l7 R ((), ()) ((i, (m, ((0 : Int), (x, (y, ()))))), (l, ())) kk = kk ((), ()) ((i, (crcIter 8 m, (x, (y, ())))), (l, ())) := f_spec_l2Table_l7Val i x y l kk 8 0 m rfl

def crcTable (n : Nat) : List Int := (List.range n).map fun (k : Nat) => crcIter 8 (k : Int)

theorem crcTable_length (n : Nat) : (crcTable n).length = n := by simp [crcTable]

theorem crcTable_succ (n : Nat) : crcTable (n + 1) = crcTable n ++ [crcIter 8 (n : Int)] := by simp [crcTable, List.range_succ]

theorem f_impl_SumTable_l3Val {R : Type} (kk : (Unit × Unit) → (Unit × ((List Int) × Unit)) → Option R) :
    ∀ (f n : Nat), f + n = 256 → loopF (c := f_impl_SumTable_l3c) (v := f_impl_SumTable_l3v) (ex := f_impl_SumTable_l3e) f_impl_SumTable_l3 R ((), ()) (((n : Int), ()), (crcTable n, ())) kk = kk ((), ()) ((), (crcTable 256, ()))
  | 0, n, hf => by
    have hk : n = 256 := by omega
    subst hk
    rw [loopF_done (c' := ((), ())) (o := ((), (crcTable 256, ()))) (by simp only [round, f_impl_SumTable_l3]; rfl)]
    try rfl
  | f + 1, n, hf => by
    have h1 : ilt (n : Int) (256 : Int) = true := ilt_iff.2 (by omega)
    have h2 : iadd .u32 (n : Int) (1 : Int) = ((n + 1 : Nat) : Int) := by simp only [iadd, wrap_u32]; omega
    have h3 : decide (List.length (crcTable n) + List.length [crcIter 8 (n : Int)] ≤ 17179869184) = true := decide_eq_true (by rw [crcTable_length]; simp; omega)
    rw [loopF_more (c' := ((), ())) (v' := ((((n + 1 : Nat) : Int), ()), (crcTable (n + 1), ()))) (by
      simp only [round, f_impl_SumTable_l3, h1, cond_true]
      rw [f_impl_SumTable_l6Val0]
      dsimp only
      rw [h3, req_true, h2, crcTable_succ])]
    exact f_impl_SumTable_l3Val kk f (n + 1) (by omega)

theorem f_impl_SumTableVal : f_impl_SumTable () = some ((crcTable 256, ()), ()) := by
  have := f_impl_SumTable_l3Val (fun _ o4 => some ((o4.2.1, ()), ())) 256 0 rfl
  exact this

theorem f_spec_l2Table_l3Val {R : Type} (kk : (Unit × Unit) → (Unit × ((List Int) × Unit)) → Option R) :
    ∀ (f n : Nat), f + n = 256 → loopF (c := f_spec_l2Table_l3c) (v := f_spec_l2Table_l3v) (ex := f_spec_l2Table_l3e) f_spec_l2Table_l3 R ((), ()) (((256 : Int), ((n : Int), ())), (crcTable n ++ List.replicate f (0 : Int), ())) kk = kk ((), ()) ((), (crcTable 256, ()))
  | 0, n, hf => by
    have hk : n = 256 := by omega
    subst hk
    rw [List.replicate_zero, List.append_nil]
    rw [loopF_done (c' := ((), ())) (o := ((), (crcTable 256, ()))) (by simp only [round, f_spec_l2Table_l3]; rfl)]
    try rfl
  | f + 1, n, hf => by
    have h1 : ilt (n : Int) (256 : Int) = true := ilt_iff.2 (by omega)
    have h2 : iadd .i64 (n : Int) (1 : Int) = ((n + 1 : Nat) : Int) := by rw [iadd_i64 (by omega)]; simp
    have h3 : IntKind.wrap .u32 (n : Int) = (n : Int) := by rw [wrap_u32]; omega
    have h4 : (crcTable n ++ List.replicate (f + 1) (0 : Int))[n]? = some 0 := by
      rw [List.getElem?_append_right (by rw [crcTable_length]; omega), crcTable_length]
      simp
    have h5 : List.set (crcTable n ++ List.replicate (f + 1) (0 : Int)) n (crcIter 8 (n : Int)) = crcTable (n + 1) ++ List.replicate f (0 : Int) := by
      rw [List.set_append_right _ _ (by rw [crcTable_length]; omega), crcTable_length, crcTable_succ, List.append_assoc]
      simp [List.replicate_succ]
    rw [loopF_more (c' := ((), ())) (v' := (((256 : Int), (((n + 1 : Nat) : Int), ())), (crcTable (n + 1) ++ List.replicate f (0 : Int), ()))) (by
      simp only [round, f_spec_l2Table_l3, h1, cond_true, h3]
      rw [f_spec_l2Table_l7Val0]
      dsimp only
      rw [getO_at (by omega) (by rw [Int.toNat_natCast]; exact h4), Int.toNat_natCast, h4]
      simp only [bnd_some, h2]
      rw [h5])]
    exact f_spec_l2Table_l3Val kk f (n + 1) (by omega)

theorem f_spec_l2TableVal : f_spec_l2Table () = some ((crcTable 256, ()), ()) := by
  have := f_spec_l2Table_l3Val (fun _ o4 => some ((o4.2.1, ()), ())) 256 0 rfl
  unfold f_spec_l2Table
  rw [show (decide ((256 : Int) = (256 : Int)) && (decide ((0 : Int) ≤ (256 : Int)) && decide ((256 : Int) ≤ (68719476736 : Int)))) = true by decide, req_true]
  rw [show llen (List.replicate (Int.toNat (256 : Int)) ((0 : Int) : Int)) = (256 : Int) by rw [llen, List.length_replicate]; rfl]
  exact this

theorem ixor_comm (k : IntKind) (a b : Int) : ixor k a b = ixor k b a := by
  simp only [ixor, BitVec.xor_comm]

theorem ixor_u8_range (a b : Int) : 0 ≤ ixor .u8 a b ∧ ixor .u8 a b < 256 := by
  simp only [ixor, wrap_u8]
  omega

/-- the sum of what stands from i on -/
def sumGo (s : ByteArray) : Nat → Nat → Int → Int
  | 0, _, m => m
  | f + 1, i, m => match s[i]? with
    | some b => match (crcTable 256)[Int.toNat (ixor .u8 (IntKind.wrap .u8 m) (b.toNat : Int))]? with
      | some z => sumGo s f (i + 1) (ixor .u32 z (ishr .u32 m (8 : Int)))
      | none => m
    | none => m

def sumOf (s : ByteArray) : Int := inot .u32 (sumGo s s.size 0 (4294967295 : Int))

theorem tableAt (m : Int) (b : Nat) : ∃ z, (crcTable 256)[Int.toNat (ixor .u8 (IntKind.wrap .u8 m) (b : Int))]? = some z := by
  have := ixor_u8_range (IntKind.wrap .u8 m) (b : Int)
  exact ⟨_, List.getElem?_eq_getElem (by rw [crcTable_length]; omega)⟩

theorem f_spec_l2OnLoop {R : Type} (s : ByteArray) (hs : s.size ≤ 9223372036854775807) (kk : (((List Int) × ByteArray × Unit) × Unit) → ((Int × Unit) × Unit) → Option R) :
    ∀ (f i : Nat) (m : Int), f + i = s.size → loopF (c := f_spec_l2On_l2c) (v := f_spec_l2On_l2v) (ex := f_spec_l2On_l2e) f_spec_l2On_l2 R ((crcTable 256, (s, ())), ()) ((m, ((i : Int), ())), ()) kk = kk ((crcTable 256, (s, ())), ()) ((sumGo s f i m, ()), ())
  | 0, i, m, hf => by
    have h1 : ilt (i : Int) (slen s) = false := ilt_false.2 (by simp only [slen]; omega)
    rw [loopF_done (c' := ((crcTable 256, (s, ())), ())) (o := ((m, ()), ())) (by simp only [round, f_spec_l2On_l2, h1, cond_false])]
    try rfl
  | f + 1, i, m, hf => by
    have h1 : ilt (i : Int) (slen s) = true := ilt_iff.2 (by simp only [slen]; omega)
    have hb : s[i]? = some s[i] := getElem?_pos s i (by omega)
    have h2 : iadd .i64 (i : Int) (1 : Int) = ((i + 1 : Nat) : Int) := by rw [iadd_i64 (by omega)]; simp
    obtain ⟨z, hz⟩ := tableAt m s[i].toNat
    have hr := ixor_u8_range (IntKind.wrap .u8 m) (s[i].toNat : Int)
    rw [loopF_more (c' := ((crcTable 256, (s, ())), ())) (v' := ((ixor .u32 z (ishr .u32 m (8 : Int)), (((i + 1 : Nat) : Int), ())), ())) (by
      simp only [round, f_spec_l2On_l2, h1, cond_true]
      rw [getB_at (by omega) (by rw [Int.toNat_natCast]; exact hb), getO_at hr.1 hz]
      simp only [h2])]
    simp only [sumGo, hb, hz]
    exact f_spec_l2OnLoop s hs kk f (i + 1) _ (by omega)

theorem f_impl_SumOnLoop {R : Type} (s : ByteArray) (hs : s.size ≤ 9223372036854775807) (kk : ((ByteArray × Int × Unit) × ((List Int) × Unit)) → ((Int × Unit) × Unit) → Option R) :
    ∀ (f i : Nat) (m : Int), f + i = s.size → loopF (c := f_impl_SumOn_l3c) (v := f_impl_SumOn_l3v) (ex := f_impl_SumOn_l3e) f_impl_SumOn_l3 R ((s, (slen s, ())), (crcTable 256, ())) ((m, ((i : Int), ())), ()) kk = kk ((s, (slen s, ())), (crcTable 256, ())) ((sumGo s f i m, ()), ())
  | 0, i, m, hf => by
    have h1 : ilt (i : Int) (slen s) = false := ilt_false.2 (by simp only [slen]; omega)
    rw [loopF_done (c' := ((s, (slen s, ())), (crcTable 256, ()))) (o := ((m, ()), ())) (by simp only [round, f_impl_SumOn_l3, h1, cond_false])]
    try rfl
  | f + 1, i, m, hf => by
    have h1 : ilt (i : Int) (slen s) = true := ilt_iff.2 (by simp only [slen]; omega)
    have hb : s[i]? = some s[i] := getElem?_pos s i (by omega)
    have h2 : iadd .i64 (i : Int) (1 : Int) = ((i + 1 : Nat) : Int) := by rw [iadd_i64 (by omega)]; simp
    obtain ⟨z, hz⟩ := tableAt m s[i].toNat
    have hr := ixor_u8_range (IntKind.wrap .u8 m) (s[i].toNat : Int)
    rw [loopF_more (c' := ((s, (slen s, ())), (crcTable 256, ()))) (v' := ((ixor .u32 z (ishr .u32 m (8 : Int)), (((i + 1 : Nat) : Int), ())), ())) (by
      simp only [round, f_impl_SumOn_l3, h1, cond_true]
      rw [getB_at (by omega) (by rw [Int.toNat_natCast]; exact hb), getO_at hr.1 hz, hz]
      simp only [h2, bnd_some]
      rw [ixor_comm])]
    simp only [sumGo, hb, hz]
    exact f_impl_SumOnLoop s hs kk f (i + 1) _ (by omega)

theorem f_spec_l2SumVal (x : ByteArray × Unit) (hs : x.1.size ≤ 9223372036854775807) : f_spec_l2Sum x = some ((sumOf x.1, ()), ()) := by
  simp only [f_spec_l2Sum, f_spec_l2TableVal, bnd_some, f_spec_l2On]
  rw [show ((0 : Int)) = ((0 : Nat) : Int) from rfl, f_spec_l2OnLoop x.1 hs _ x.1.size 0 _ rfl]
  rfl

theorem f_impl_SumOfVal (x : ByteArray × Unit) (hs : x.1.size ≤ 9223372036854775807) : f_impl_SumOf x = some ((sumOf x.1, ()), ()) := by
  simp only [f_impl_SumOf, f_impl_SumOn, f_impl_SumTableVal, bnd_some]
  rw [show ((0 : Int)) = ((0 : Nat) : Int) from rfl, f_impl_SumOnLoop x.1 hs _ x.1.size 0 _ rfl]
  rfl

end Go.Proofs.Ytogmfilmfkepfaa
