/- Common beginnings, good items, runs in order: both sides compute the same. -/
import Derived.Test.YtncalmofbcmkaaaGreatR1Itm
set_option linter.all false
namespace Go.Proofs.YtncalmofbcmkaaaGreat
open Go Go.Proofs.YtncalmofbcmkaaaGreat.Ev

theorem getElem?_lt {a : ByteArray} {k : Nat} (h : k < a.size) : ∃ x, a[k]? = some x := ⟨a[k], getElem?_pos a k h⟩

theorem u8_ieq (x y : UInt8) : ieq (x.toNat : Int) (y.toNat : Int) = decide (x = y) := by
  by_cases h : x = y
  · subst h; simp [ieq]
  · have h2 : x.toNat ≠ y.toNat := fun e => h (UInt8.toNat_inj.1 e)
    simp only [h, decide_false]
    exact ieq_false.2 (by omega)

theorem f_impl_CommonOfLoop {R : Type} (a b : ByteArray) (ha : a.size ≤ 9223372036854775806) (kk : ((ByteArray × ByteArray × Unit) × Unit) → ((Int × Unit) × Unit) → Option R) :
    ∀ (f k : Nat), a.size ≤ f + k → k ≤ a.size → loopF (c := f_impl_CommonOf_l2c) (v := f_impl_CommonOf_l2v) (ex := f_impl_CommonOf_l2e) f_impl_CommonOf_l2 R ((a, (b, ())), ()) (((k : Int), ()), ()) kk = kk ((a, (b, ())), ()) ((((common a b f k : Nat) : Int), ()), ())
  | 0, k, h1, h2 => by
    have hc : ilt (k : Int) (imin (slen a) (slen b)) = false := ilt_false.2 (by rw [imin_eq]; simp only [slen]; omega)
    rw [loopF_done (c' := ((a, (b, ())), ())) (o := (((k : Int), ()), ())) (by simp only [round, f_impl_CommonOf_l2, hc, cond_false])]
    rfl
  | f + 1, k, h1, h2 => by
    by_cases hk : k < a.size ∧ k < b.size
    · have hc : ilt (k : Int) (imin (slen a) (slen b)) = true := ilt_iff.2 (by rw [imin_eq]; simp only [slen]; omega)
      obtain ⟨x, hx⟩ := getElem?_lt hk.1
      obtain ⟨y, hy⟩ := getElem?_lt hk.2
      have h3 : iadd .i64 (k : Int) (1 : Int) = ((k + 1 : Nat) : Int) := by rw [iadd_i64 (by omega)]; simp
      simp only [common, hk, hx, hy, true_and]
      by_cases hxy : x = y
      · subst hxy
        rw [loopF_more (c' := ((a, (b, ())), ())) (v' := ((((k + 1 : Nat) : Int), ()), ())) (by
          simp only [round, f_impl_CommonOf_l2, hc, cond_true]
          rw [getB_at (by omega) (by rw [Int.toNat_natCast]; exact hx), getB_at (by omega) (by rw [Int.toNat_natCast]; exact hy), u8_ieq]
          simp only [decide_true, cond_true, h3])]
        rw [f_impl_CommonOfLoop a b ha kk f (k + 1) (by omega) (by omega)]
        simp
      · rw [loopF_done (c' := ((a, (b, ())), ())) (o := (((k : Int), ()), ())) (by
          simp only [round, f_impl_CommonOf_l2, hc, cond_true]
          rw [getB_at (by omega) (by rw [Int.toNat_natCast]; exact hx), getB_at (by omega) (by rw [Int.toNat_natCast]; exact hy), u8_ieq]
          simp only [hxy, decide_false, cond_false])]
        rw [if_neg (by simpa using hxy)]
    · have hc : ilt (k : Int) (imin (slen a) (slen b)) = false := ilt_false.2 (by rw [imin_eq]; simp only [slen]; omega)
      rw [loopF_done (c' := ((a, (b, ())), ())) (o := (((k : Int), ()), ())) (by simp only [round, f_impl_CommonOf_l2, hc, cond_false])]
      simp only [common]
      rw [if_neg (by rintro ⟨h1, h2, _⟩; exact hk ⟨h1, h2⟩)]

theorem f_spec_CommonOfLoop {R : Type} (a b : ByteArray) (ha : a.size ≤ 9223372036854775806) (kk : ((ByteArray × ByteArray × Unit) × Unit) → ((Int × Unit) × Unit) → Option R) :
    ∀ (f k : Nat), a.size ≤ f + k → k ≤ a.size → loopF (c := f_spec_CommonOf_l2c) (v := f_spec_CommonOf_l2v) (ex := f_spec_CommonOf_l2e) f_spec_CommonOf_l2 R ((a, (b, ())), ()) (((k : Int), ()), ()) kk = kk ((a, (b, ())), ()) ((((common a b f k : Nat) : Int), ()), ())
  | 0, k, h1, h2 => by
    have hc : ilt (k : Int) (slen a) = false := ilt_false.2 (by simp only [slen]; omega)
    rw [loopF_done (c' := ((a, (b, ())), ())) (o := (((k : Int), ()), ())) (by simp only [round, f_spec_CommonOf_l2, hc, cond_false])]
    rfl
  | f + 1, k, h1, h2 => by
    by_cases hka : k < a.size
    · have hc : ilt (k : Int) (slen a) = true := ilt_iff.2 (by simp only [slen]; omega)
      by_cases hkb : k < b.size
      · have hc2 : ilt (k : Int) (slen b) = true := ilt_iff.2 (by simp only [slen]; omega)
        obtain ⟨x, hx⟩ := getElem?_lt hka
        obtain ⟨y, hy⟩ := getElem?_lt hkb
        have h3 : iadd .i64 (k : Int) (1 : Int) = ((k + 1 : Nat) : Int) := by rw [iadd_i64 (by omega)]; simp
        simp only [common, hka, hkb, hx, hy, true_and]
        by_cases hxy : x = y
        · subst hxy
          rw [loopF_more (c' := ((a, (b, ())), ())) (v' := ((((k + 1 : Nat) : Int), ()), ())) (by
            simp only [round, f_spec_CommonOf_l2, hc, hc2, cond_true]
            rw [getB_at (by omega) (by rw [Int.toNat_natCast]; exact hx), getB_at (by omega) (by rw [Int.toNat_natCast]; exact hy), u8_ieq]
            simp only [decide_true, cond_true, h3])]
          rw [f_spec_CommonOfLoop a b ha kk f (k + 1) (by omega) (by omega)]
          simp
        · rw [loopF_done (c' := ((a, (b, ())), ())) (o := (((k : Int), ()), ())) (by
            simp only [round, f_spec_CommonOf_l2, hc, hc2, cond_true]
            rw [getB_at (by omega) (by rw [Int.toNat_natCast]; exact hx), getB_at (by omega) (by rw [Int.toNat_natCast]; exact hy), u8_ieq]
            simp only [hxy, decide_false, cond_false])]
          rw [if_neg (by simpa using hxy)]
      · have hc2 : ilt (k : Int) (slen b) = false := ilt_false.2 (by simp only [slen]; omega)
        rw [loopF_done (c' := ((a, (b, ())), ())) (o := (((k : Int), ()), ())) (by simp only [round, f_spec_CommonOf_l2, hc, hc2, cond_true, cond_false])]
        simp only [common]
        rw [if_neg (by rintro ⟨h1, h2, _⟩; exact hkb h2)]
    · have hc : ilt (k : Int) (slen a) = false := ilt_false.2 (by simp only [slen]; omega)
      rw [loopF_done (c' := ((a, (b, ())), ())) (o := (((k : Int), ()), ())) (by simp only [round, f_spec_CommonOf_l2, hc, cond_false])]
      simp only [common]
      rw [if_neg (by rintro ⟨h1, h2, _⟩; exact hka h1)]

theorem f_impl_CommonOfVal (x : ByteArray × ByteArray × Unit) (ha : x.1.size ≤ 9223372036854775806) : f_impl_CommonOf x = some ((((commonOf x.1 x.2.1 : Nat) : Int), ()), ()) := by
  simp only [f_impl_CommonOf]
  rw [show ((0 : Int)) = ((0 : Nat) : Int) from rfl, f_impl_CommonOfLoop x.1 x.2.1 ha _ x.1.size 0 (by omega) (by omega)]
  rfl
theorem f_spec_CommonOfVal (x : ByteArray × ByteArray × Unit) (ha : x.1.size ≤ 9223372036854775806) : f_spec_CommonOf x = some ((((commonOf x.1 x.2.1 : Nat) : Int), ()), ()) := by
  simp only [f_spec_CommonOf]
  rw [show ((0 : Int)) = ((0 : Nat) : Int) from rfl, f_spec_CommonOfLoop x.1 x.2.1 ha _ x.1.size 0 (by omega) (by omega)]
  rfl

/-! ### items -/
def goodItem (x : DItem) : Bool :=
  inR (slen x.1) 1 16 && (inR x.2.1 0 1000000000 && (inR x.2.2.1 0 1 && (ile (slen x.2.2.2.1) 40 && (ieq x.2.2.1 1 || seq x.2.2.2.1 (⟨#[]⟩ : ByteArray)))))

theorem f_impl_GoodItemVal (x : DItem × Unit) : f_impl_GoodItem x = some ((goodItem x.1, ()), ()) := by
  simp only [f_impl_GoodItem, f_impl_isKey, f_impl_isSeq, f_impl_isValue, val_f_impl_in, goodItem, bnd_some]
  generalize inR (slen x.1.1) 1 16 = b1
  generalize inR x.1.2.1 0 1000000000 = b2
  generalize inR x.1.2.2.1 0 1 = b3
  generalize ile (slen x.1.2.2.2.1) 40 = b4
  generalize ieq x.1.2.2.1 1 = b5
  generalize seq x.1.2.2.2.1 (⟨#[]⟩ : ByteArray) = b6
  cases b1 <;> cases b2 <;> cases b3 <;> cases b4 <;> cases b5 <;> rfl

theorem f_spec_GoodItemVal (x : DItem × Unit) : f_spec_GoodItem x = some ((goodItem x.1, ()), ()) := by
  simp only [f_spec_GoodItem, f_spec_l4Key, f_spec_l4Seq, val_f_spec_l1In, goodItem, bnd_some]
  generalize inR (slen x.1.1) 1 16 = b1
  generalize inR x.1.2.1 0 1000000000 = b2
  generalize inR x.1.2.2.1 0 1 = b3
  generalize ile (slen x.1.2.2.2.1) 40 = b4
  generalize ieq x.1.2.2.1 1 = b5
  generalize seq x.1.2.2.2.1 (⟨#[]⟩ : ByteArray) = b6
  cases b1 <;> cases b2 <;> cases b3 <;> cases b4 <;> cases b5 <;> rfl

/-- the order of items -/
def cmpItem (x y : DItem) : Int :=
  cond (slt x.1 y.1) (-1) (cond (seq x.1 y.1) (cond (ilt y.2.1 x.2.1) (-1) (cond (ieq x.2.1 y.2.1) 0 1)) 1)

theorem slt_irrefl (a : ByteArray) : slt a a = false := by
  have : ∀ l : List UInt8, Op.bytesLess l l = false := by
    intro l
    induction l with
    | nil => rfl
    | cons x l ih => simp [Op.bytesLess, ih]
  exact this _

theorem f_spec_l4CompareVal (x : DItem × DItem × Unit) : f_spec_l4Compare x = some ((cmpItem x.1 x.2.1, ()), ()) := by
  simp only [f_spec_l4Compare, cmpItem]
  cases slt x.1.1 x.2.1.1 <;> cases seq x.1.1 x.2.1.1 <;> cases ilt x.2.1.2.1 x.1.2.1 <;> cases ieq x.1.2.1 x.2.1.2.1 <;> rfl

theorem ieq_self (n : Int) : ieq n n = true := ieq_iff.2 rfl

theorem f_cmp_Compare_stringVal (x : ByteArray × ByteArray × Unit) : f_cmp_Compare_string x = some ((cond (slt x.1 x.2.1) (-1) (cond (seq x.1 x.2.1) 0 1), ()), ()) := by
  simp only [f_cmp_Compare_string, f_cmp_isNaN_string, seq_self, bnd_some, Bool.not_true, cond_false]
  cases h1 : slt x.1 x.2.1 <;> cases h2 : seq x.1 x.2.1 <;> rfl

theorem f_cmp_Compare_intVal (x : Int × Int × Unit) : f_cmp_Compare_int x = some ((cond (ilt x.1 x.2.1) (-1) (cond (ieq x.1 x.2.1) 0 1), ()), ()) := by
  simp only [f_cmp_Compare_int, f_cmp_isNaN_int, ieq_self, bnd_some, Bool.not_true, cond_false]
  cases h1 : ilt x.1 x.2.1 with
  | true => rfl
  | false =>
    have h1 := ilt_false.1 h1
    cases h2 : ilt x.2.1 x.1 with
    | true => have h2 := ilt_iff.1 h2; rw [ieq_false.2 (by omega)]; rfl
    | false => have h2 := ilt_false.1 h2; rw [ieq_iff.2 (by omega)]; rfl

theorem f_cmp_Or_intVal (a b : Int) : f_cmp_Or_int ([a, b], ()) = some ((cond (ieq a 0) b a, ()), ()) := by
  simp only [f_cmp_Or_int]
  have hl : llen [a, b] = (2 : Int) := rfl
  rw [hl]
  have r0 : ∀ (S : Type) (K : ((Int × (List Int) × Int × Unit) × Unit) → (((Int × Unit) × Unit) ⊕ (((Int × Unit) × Unit) ⊕ (Unit × Unit))) → Option S),
      f_cmp_Or_int_l3 S (((0 : Int), ([a, b], ((2 : Int), ()))), ()) (((0 : Int), ()), ()) K = cond (!ieq a 0) (K (((0 : Int), ([a, b], ((2 : Int), ()))), ()) (.inr (.inl ((a, ()), ())))) (K (((0 : Int), ([a, b], ((2 : Int), ()))), ()) (.inl (((1 : Int), ()), ()))) := fun S K => rfl
  have r1 : ∀ (S : Type) (K : ((Int × (List Int) × Int × Unit) × Unit) → (((Int × Unit) × Unit) ⊕ (((Int × Unit) × Unit) ⊕ (Unit × Unit))) → Option S),
      f_cmp_Or_int_l3 S (((0 : Int), ([a, b], ((2 : Int), ()))), ()) (((1 : Int), ()), ()) K = cond (!ieq b 0) (K (((0 : Int), ([a, b], ((2 : Int), ()))), ()) (.inr (.inl ((b, ()), ())))) (K (((0 : Int), ([a, b], ((2 : Int), ()))), ()) (.inl (((2 : Int), ()), ()))) := fun S K => rfl
  cases h : ieq a 0 with
  | false =>
    rw [loopF_done (c' := (((0 : Int), ([a, b], ((2 : Int), ()))), ())) (o := Sum.inl ((a, ()), ())) (by rw [round, r0, h]; rfl)]
    rfl
  | true =>
    rw [loopF_more (c' := (((0 : Int), ([a, b], ((2 : Int), ()))), ())) (v' := (((1 : Int), ()), ())) (by rw [round, r0, h]; rfl)]
    cases h2 : ieq b 0 with
    | false =>
      rw [loopF_done (c' := (((0 : Int), ([a, b], ((2 : Int), ()))), ())) (o := Sum.inl ((b, ()), ())) (by rw [round, r1, h2]; rfl)]
      rfl
    | true =>
      have hb := ieq_iff.1 h2
      rw [loopF_more (c' := (((0 : Int), ([a, b], ((2 : Int), ()))), ())) (v' := (((2 : Int), ()), ())) (by rw [round, r1, h2]; rfl)]
      rw [loopF_done (c' := (((0 : Int), ([a, b], ((2 : Int), ()))), ())) (o := Sum.inr ((), ())) (by rfl)]
      rw [hb]
      rfl

theorem f_impl_itemOrderVal (x : DItem × DItem × Unit) : f_impl_itemOrder x = some ((cmpItem x.1 x.2.1, ()), ()) := by
  simp only [f_impl_itemOrder, f_cmp_Compare_stringVal, f_cmp_Compare_intVal, bnd_some]
  rw [f_cmp_Or_intVal]
  simp only [bnd_some, cmpItem]
  cases h1 : slt x.1.1 x.2.1.1 with
  | true => rfl
  | false =>
    cases h2 : seq x.1.1 x.2.1.1 with
    | false => rfl
    | true =>
      cases h3 : ilt x.2.1.2.1 x.1.2.1 with
      | true => rfl
      | false =>
        cases h4 : ieq x.2.1.2.1 x.1.2.1 with
        | true => rw [ieq_iff.2 (ieq_iff.1 h4).symm]; rfl
        | false => rw [ieq_false.2 fun e => ieq_false.1 h4 e.symm]; rfl

theorem goodRun_same : f_impl_GoodRun = f_spec_GoodRun := by
  have hs : @f_impl_GoodRun_l2 = @f_spec_GoodRun_l2 := by
    funext R c v kk
    simp only [f_impl_GoodRun_l2, f_spec_GoodRun_l2, f_impl_GoodItemVal, f_spec_GoodItemVal, f_impl_itemOrderVal, f_spec_l4CompareVal]
  funext x
  simp only [f_impl_GoodRun, f_spec_GoodRun]
  rw [hs]
  rfl

end Go.Proofs.YtncalmofbcmkaaaGreat
