/- Items read from a text: what both sides compute. -/
import Derived.Test.YtncalmofbcmkaaaGreatR1Run
set_option linter.all false
namespace Go.Proofs.YtncalmofbcmkaaaGreat
open Go Go.Proofs.YtncalmofbcmkaaaGreat.Ev

/-! ### runs -/
def goodGo (l : List DItem) : Nat → Nat → Bool
  | 0, _ => true
  | f + 1, i => match l[i]? with
    | none => true
    | some x => goodItem x && ((match i with | 0 => true | j + 1 => match l[j]? with | some y => ilt (cmpItem y x) 0 | none => true) && goodGo l f (i + 1))
def goodRun (l : List DItem) : Bool := goodGo l l.length 0

theorem goodGo_all {l : List DItem} : ∀ {f i : Nat}, f + i = l.length → goodGo l f i = true → ∀ j x, i ≤ j → l[j]? = some x → goodItem x = true
  | 0, i, hf, _, j, x, hj, hx => by have := (List.getElem?_eq_some_iff.1 hx).1; omega
  | f + 1, i, hf, h, j, x, hj, hx => by
    simp only [goodGo] at h
    have hi : l[i]? = some l[i] := List.getElem?_eq_getElem (by omega)
    rw [hi] at h
    simp only [Bool.and_eq_true] at h
    by_cases he : j = i
    · subst he
      rw [hi] at hx; injection hx with hx; subst hx
      exact h.1
    · exact goodGo_all (by omega) h.2.2 j x (by omega) hx

theorem goodRun_all {l : List DItem} (h : goodRun l = true) {x : DItem} (hx : x ∈ l) : goodItem x = true := by
  obtain ⟨j, hj⟩ := List.mem_iff_getElem?.1 hx
  exact goodGo_all rfl h j x (by omega) hj

theorem f_spec_GoodRunLoop {R : Type} (l : List DItem) (hl : l.length ≤ 9223372036854775806) (kk : (((List DItem) × (List DItem) × Int × Unit) × Unit) → (((Bool × Unit) × Unit) ⊕ (Unit × Unit)) → Option R) :
    ∀ (f i : Nat), f + i = l.length → loopF (c := f_spec_GoodRun_l2c) (v := f_spec_GoodRun_l2v) (ex := f_spec_GoodRun_l2e) f_spec_GoodRun_l2 R ((l, (l, (llen l, ()))), ()) (((i : Int), ()), ()) kk =
      cond (goodGo l f i) (kk ((l, (l, (llen l, ()))), ()) (Sum.inr ((), ()))) (kk ((l, (l, (llen l, ()))), ()) (Sum.inl ((false, ()), ())))
  | 0, i, hf => by
    have h1 : ilt (i : Int) (llen l) = false := ilt_false.2 (by simp only [llen]; omega)
    rw [loopF_done (c' := ((l, (l, (llen l, ()))), ())) (o := Sum.inr ((), ())) (by simp only [round, f_spec_GoodRun_l2, h1, cond_false])]
    rfl
  | f + 1, i, hf => by
    have h1 : ilt (i : Int) (llen l) = true := ilt_iff.2 (by simp only [llen]; omega)
    have hi : l[i]? = some l[i] := List.getElem?_eq_getElem (by omega)
    have h2 : iadd .i64 (i : Int) (1 : Int) = ((i + 1 : Nat) : Int) := by rw [iadd_i64 (by omega)]; simp
    simp only [goodGo, hi]
    cases hg : goodItem l[i] with
    | false =>
      rw [loopF_done (c' := ((l, (l, (llen l, ()))), ())) (o := Sum.inl ((false, ()), ())) (by
        simp only [round, f_spec_GoodRun_l2, h1, cond_true]
        rw [getO_at (by omega) (by rw [Int.toNat_natCast]; exact hi)]
        simp only [f_spec_GoodItemVal, bnd_some, hg, Bool.not_false, cond_true])]
      rfl
    | true =>
      cases i with
      | zero =>
        rw [loopF_more (c' := ((l, (l, (llen l, ()))), ())) (v' := ((((1 : Nat) : Int), ()), ())) (by
          simp only [round, f_spec_GoodRun_l2, h1, cond_true]
          rw [getO_at (by omega) (by rw [Int.toNat_natCast]; exact hi)]
          simp only [f_spec_GoodItemVal, bnd_some, hg, Bool.not_true, cond_false]
          rw [show ilt (0 : Int) ((0 : Nat) : Int) = false from rfl, cond_false, h2])]
        rw [f_spec_GoodRunLoop l hl kk f 1 (by omega)]
        rfl
      | succ j =>
        have h3 : ilt (0 : Int) ((j + 1 : Nat) : Int) = true := ilt_iff.2 (by omega)
        have h4 : isub .i64 ((j + 1 : Nat) : Int) (1 : Int) = (j : Int) := by rw [isub_i64 (by omega)]; omega
        have hj : l[j]? = some l[j] := List.getElem?_eq_getElem (by omega)
        have hc : ile 0 (cmpItem l[j] l[j + 1]) = !ilt (cmpItem l[j] l[j + 1]) 0 := by
          cases h : ilt (cmpItem l[j] l[j + 1]) 0 with
          | true => have := ilt_iff.1 h; exact ile_false.2 (by omega)
          | false => have := ilt_false.1 h; exact ile_iff.2 (by omega)
        simp only [hj]
        cases hlt : ilt (cmpItem l[j] l[j + 1]) 0 with
        | false =>
          rw [loopF_done (c' := ((l, (l, (llen l, ()))), ())) (o := Sum.inl ((false, ()), ())) (by
            simp only [round, f_spec_GoodRun_l2, h1, cond_true]
            rw [getO_at (by omega) (by rw [Int.toNat_natCast]; exact hi)]
            simp only [f_spec_GoodItemVal, bnd_some, hg, Bool.not_true, cond_false, h3, cond_true, h4]
            rw [getO_at (by omega) (by rw [Int.toNat_natCast]; exact hj)]
            simp only [f_spec_l4CompareVal, bnd_some, hc, hlt, Bool.not_false, cond_true])]
          rfl
        | true =>
          rw [loopF_more (c' := ((l, (l, (llen l, ()))), ())) (v' := ((((j + 1 + 1 : Nat) : Int), ()), ())) (by
            simp only [round, f_spec_GoodRun_l2, h1, cond_true]
            rw [getO_at (by omega) (by rw [Int.toNat_natCast]; exact hi)]
            simp only [f_spec_GoodItemVal, bnd_some, hg, Bool.not_true, cond_false, h3, cond_true, h4]
            rw [getO_at (by omega) (by rw [Int.toNat_natCast]; exact hj)]
            simp only [f_spec_l4CompareVal, bnd_some, hc, hlt, Bool.not_true, cond_false, h2])]
          rw [f_spec_GoodRunLoop l hl kk f (j + 1 + 1) (by omega)]
          rfl

theorem f_spec_GoodRunVal (x : List DItem × Unit) (hl : x.1.length ≤ 9223372036854775806) : f_spec_GoodRun x = some ((goodRun x.1, ()), ()) := by
  simp only [f_spec_GoodRun]
  rw [show ((0 : Int)) = ((0 : Nat) : Int) from rfl, f_spec_GoodRunLoop x.1 hl _ x.1.length 0 rfl]
  simp only [goodRun]
  cases goodGo x.1 x.1.length 0 <;> rfl
theorem f_impl_GoodRunVal (x : List DItem × Unit) (hl : x.1.length ≤ 9223372036854775806) : f_impl_GoodRun x = some ((goodRun x.1, ()), ()) := by
  rw [goodRun_same]; exact f_spec_GoodRunVal x hl

/-! ### one item -/
def dr (s : ByteArray) (n : Nat) : ByteArray := s.extract n s.size
theorem dr_size (s : ByteArray) (n : Nat) : (dr s n).size = s.size - n := by simp [dr, ByteArray.size_extract]
theorem dr_dr (s : ByteArray) (a b : Nat) : dr (dr s a) b = dr s (a + b) := by
  simp only [dr, ByteArray.extract_extract, ByteArray.size_extract]
  by_cases h : a + b ≤ s.size
  · rw [show min (a + (min s.size s.size - a)) s.size = s.size by omega]
  · apply ByteArray.ext_getElem
    · simp only [ByteArray.size_extract]; omega
    · intro i hi
      simp only [ByteArray.size_extract] at hi
      omega
theorem dr_zero (s : ByteArray) : dr s 0 = s := by simp [dr]
theorem dr_head (s : ByteArray) (a m : Nat) (h : a + m ≤ s.size) : (dr s a).extract 0 m = s.extract a (a + m) := by
  simp only [dr, ByteArray.extract_extract, Nat.add_zero]
  rw [show min (a + m) s.size = a + m by omega]

/-- what is read of one item: the item, its bytes, the key's and the value's length -/
structure Got where
  x : DItem
  n : Nat
  m : Nat
  z : Nat

def item (s key : ByteArray) : Option Got :=
  let v1 := takeVar s
  let v2 := takeVar (dr s v1.2)
  let v3 := takeVar (dr s (v1.2 + v2.2))
  let v4 := takeVar (dr s (v1.2 + v2.2 + v3.2))
  let at' := v1.2 + v2.2 + v3.2 + v4.2
  if v1.2 = 0 ∨ v2.2 = 0 ∨ v3.2 = 0 ∨ v4.2 = 0 ∨ s.size < at' + v2.1 + v4.1 ∨ key.size < v1.1 then none
  else some ⟨(key.extract 0 v1.1 ++ s.extract at' (at' + v2.1), (((v3.1 / 2 : Nat) : Int), (((v3.1 % 2 : Nat) : Int), (s.extract (at' + v2.1) (at' + v2.1 + v4.1), ())))), at' + v2.1 + v4.1, v2.1, v4.1⟩

theorem numT (s : ByteArray) : f_impl_taker_number ((s, (false, ())), ()) = some (if (takeVar s).2 = 0 then ((0, ()), ((s, (true, ())), ())) else ((((takeVar s).1 : Int), ()), ((dr s (takeVar s).2, (false, ())), ()))) := by
  obtain ⟨_, k2⟩ := takeVar_ok s
  simp only [f_impl_taker_number, val_f_impl_TakeVar, bnd_some, cond_false]
  by_cases hu : (takeVar s).2 = 0
  · rw [if_pos hu]
    simp only [hu, show ieq ((0 : Nat) : Int) (0 : Int) = true from rfl, cond_true]
  · rw [if_neg hu, ieq_false.2 (show ((takeVar s).2 : Int) ≠ 0 by omega), bounds_ok k2]
    simp only [cond_false, req_true, Int.toNat_natCast, dr]

theorem numB (s : ByteArray) : f_impl_taker_number ((s, (true, ())), ()) = some ((0, ()), ((s, (true, ())), ())) := by
  simp only [f_impl_taker_number, val_f_impl_TakeVar, bnd_some, cond_true]

theorem textT (s : ByteArray) (n : Nat) : f_impl_taker_text ((s, (false, ())), ((n : Int), ())) = some (if s.size < n then (((⟨#[]⟩ : ByteArray), ()), ((s, (true, ())), ())) else ((s.extract 0 n, ()), ((dr s n, (false, ())), ()))) := by
  rw [text_impl ((s, (false, ())), ((n : Int), ())) (s, (false, ())) n rfl rfl]
  simp [dr]
theorem textB (s : ByteArray) (n : Int) : f_impl_taker_text ((s, (true, ())), (n, ())) = some (((⟨#[]⟩ : ByteArray), ()), ((s, (true, ())), ())) := by
  simp only [f_impl_taker_text, cond_true]

/-- six readings in a row -/
def six (s : ByteArray) : Option ((Nat × Nat × Nat) × (ByteArray × ByteArray) × ByteArray) :=
  let v1 := takeVar s
  let v2 := takeVar (dr s v1.2)
  let v3 := takeVar (dr s (v1.2 + v2.2))
  let v4 := takeVar (dr s (v1.2 + v2.2 + v3.2))
  let at' := v1.2 + v2.2 + v3.2 + v4.2
  if v1.2 = 0 ∨ v2.2 = 0 ∨ v3.2 = 0 ∨ v4.2 = 0 ∨ s.size < at' + v2.1 + v4.1 then none
  else some ((v1.1, v2.1, v3.1), (s.extract at' (at' + v2.1), s.extract (at' + v2.1) (at' + v2.1 + v4.1)), dr s (at' + v2.1 + v4.1))

/-- what a taker's number is, and what is left -/
def numK (p : Dtaker) : Nat := cond p.2.1 0 (takeVar p.1).1
def numS (p : Dtaker) : Dtaker := cond p.2.1 (p.1, (true, ())) (if (takeVar p.1).2 = 0 then (p.1, (true, ())) else (dr p.1 (takeVar p.1).2, (false, ())))
def textX (p : Dtaker) (n : Nat) : ByteArray := cond p.2.1 ⟨#[]⟩ (if p.1.size < n then ⟨#[]⟩ else p.1.extract 0 n)
def textS (p : Dtaker) (n : Nat) : Dtaker := cond p.2.1 (p.1, (true, ())) (if p.1.size < n then (p.1, (true, ())) else (dr p.1 n, (false, ())))

theorem takeGo_zero (s : ByteArray) : ∀ (f k n : Nat), (takeGo s f k n).2 = 0 → (takeGo s f k n).1 = 0
  | 0, _, _, _ => rfl
  | f + 1, k, n, h => by
    simp only [takeGo] at h ⊢
    split
    · rfl
    · rename_i b hb
      rw [hb] at h
      dsimp only at h
      split
      · rename_i hlt
        rw [if_pos hlt] at h
        split
        · rfl
        · rename_i hz
          rw [if_neg hz] at h
          simp at h
      · rename_i hlt
        rw [if_neg hlt] at h
        exact takeGo_zero s f (k + 1) _ h
theorem takeVar_zero {s : ByteArray} (h : (takeVar s).2 = 0) : (takeVar s).1 = 0 := takeGo_zero s 9 0 0 h

theorem numE (x : Dtaker × Unit) : f_impl_taker_number x = some ((((numK x.1 : Nat) : Int), ()), (numS x.1, ())) := by
  obtain ⟨⟨s, b, ⟨⟩⟩, ⟨⟩⟩ := x
  cases b with
  | true => simp only [numB]; rfl
  | false =>
    simp only [numT, numK, numS, cond_false]
    by_cases h : (takeVar s).2 = 0
    · rw [if_pos h, if_pos h, takeVar_zero h]; rfl
    · rw [if_neg h, if_neg h]
theorem textE (x : Dtaker × Int × Unit) (n : Nat) (h : x.2.1 = (n : Int)) : f_impl_taker_text x = some ((textX x.1 n, ()), (textS x.1 n, ())) := by
  obtain ⟨⟨s, b, ⟨⟩⟩, k, ⟨⟩⟩ := x
  simp only at h
  subst h
  cases b with
  | true => simp only [textB]; rfl
  | false =>
    simp only [textT, textX, textS, cond_false]
    by_cases h : s.size < n
    · rw [if_pos h, if_pos h, if_pos h]
    · rw [if_neg h, if_neg h, if_neg h]

/-- the takers of six readings in a row -/
def p1 (s : ByteArray) : Dtaker := numS (s, (false, ()))
def p2 (s : ByteArray) : Dtaker := numS (p1 s)
def p3 (s : ByteArray) : Dtaker := numS (p2 s)
def p4 (s : ByteArray) : Dtaker := numS (p3 s)
def p5 (s : ByteArray) : Dtaker := textS (p4 s) (numK (p1 s))
def p6 (s : ByteArray) : Dtaker := textS (p5 s) (numK (p3 s))

theorem six_eq (s : ByteArray) {R : Type}
    (g : (Int × Unit) × (Dtaker × Unit) → (Int × Unit) × (Dtaker × Unit) → (Int × Unit) × (Dtaker × Unit) → (Int × Unit) × (Dtaker × Unit) → (ByteArray × Unit) × (Dtaker × Unit) → (ByteArray × Unit) × (Dtaker × Unit) → Option R) :
    (bnd (f_impl_taker_number ((s, (false, ())), ())) fun r1 => (bnd (f_impl_taker_number (r1.2.1, ())) fun r2 => (bnd (f_impl_taker_number (r2.2.1, ())) fun r3 => (bnd (f_impl_taker_number (r3.2.1, ())) fun r4 => (bnd (f_impl_taker_text (r4.2.1, (r2.1.1, ()))) fun r5 => (bnd (f_impl_taker_text (r5.2.1, (r4.1.1, ()))) fun r6 => g r1 r2 r3 r4 r5 r6)))))) =
    g ((((numK (s, (false, ())) : Nat) : Int), ()), (p1 s, ())) ((((numK (p1 s) : Nat) : Int), ()), (p2 s, ())) ((((numK (p2 s) : Nat) : Int), ()), (p3 s, ())) ((((numK (p3 s) : Nat) : Int), ()), (p4 s, ())) ((textX (p4 s) (numK (p1 s)), ()), (p5 s, ())) ((textX (p5 s) (numK (p3 s)), ()), (p6 s, ())) := by
  simp only [numE, bnd_some]
  rw [textE _ _ rfl]
  simp only [bnd_some]
  rw [textE _ _ rfl]
  rfl

theorem six_is (s : ByteArray) : match six s with
    | none => (p6 s).2.1 = true
    | some ((c, m, w), (a, b), d) => numK (s, (false, ())) = c ∧ numK (p2 s) = w ∧ textX (p4 s) (numK (p1 s)) = a ∧ textX (p5 s) (numK (p3 s)) = b ∧ p6 s = (d, (false, ())) := by
  have q1 := (takeVar_ok s).2
  have q2 := (takeVar_ok (dr s (takeVar s).2)).2
  have q3 := (takeVar_ok (dr s ((takeVar s).2 + (takeVar (dr s (takeVar s).2)).2))).2
  have q4 := (takeVar_ok (dr s ((takeVar s).2 + (takeVar (dr s (takeVar s).2)).2 + (takeVar (dr s ((takeVar s).2 + (takeVar (dr s (takeVar s).2)).2))).2))).2
  rw [dr_size] at q2 q3 q4
  have nb : ∀ t, numS (t, (true, ())) = (t, (true, ())) := fun _ => rfl
  have tb : ∀ t n, textS (t, (true, ())) n = (t, (true, ())) := fun _ _ => rfl
  by_cases h1 : (takeVar s).2 = 0
  · have e1 : p1 s = (s, (true, ())) := by simp [p1, numS, h1]
    simp only [six, h1, true_or, if_true]
    simp only [p6, p5, p4, p3, p2, e1, nb, tb]
  have e1 : p1 s = (dr s (takeVar s).2, (false, ())) := by simp [p1, numS, h1]
  by_cases h2 : (takeVar (dr s (takeVar s).2)).2 = 0
  · have e2 : p2 s = (dr s (takeVar s).2, (true, ())) := by simp [p2, e1, numS, h2]
    simp only [six, h2, true_or, or_true, if_true]
    simp only [p6, p5, p4, p3, e2, nb, tb]
  have e2 : p2 s = (dr s ((takeVar s).2 + (takeVar (dr s (takeVar s).2)).2), (false, ())) := by simp [p2, e1, numS, h2, dr_dr]
  by_cases h3 : (takeVar (dr s ((takeVar s).2 + (takeVar (dr s (takeVar s).2)).2))).2 = 0
  · have e3 : p3 s = (dr s ((takeVar s).2 + (takeVar (dr s (takeVar s).2)).2), (true, ())) := by simp [p3, e2, numS, h3]
    simp only [six, h3, true_or, or_true, if_true]
    simp only [p6, p5, p4, e3, nb, tb]
  have e3 : p3 s = (dr s ((takeVar s).2 + (takeVar (dr s (takeVar s).2)).2 + (takeVar (dr s ((takeVar s).2 + (takeVar (dr s (takeVar s).2)).2))).2), (false, ())) := by simp [p3, e2, numS, h3, dr_dr]
  have k1 : numK (p1 s) = (takeVar (dr s (takeVar s).2)).1 := by rw [e1]; rfl
  have k2 : numK (p2 s) = (takeVar (dr s ((takeVar s).2 + (takeVar (dr s (takeVar s).2)).2))).1 := by rw [e2]; rfl
  have k3 : numK (p3 s) = (takeVar (dr s ((takeVar s).2 + (takeVar (dr s (takeVar s).2)).2 + (takeVar (dr s ((takeVar s).2 + (takeVar (dr s (takeVar s).2)).2))).2))).1 := by rw [e3]; rfl
  have k0 : numK (s, (false, ())) = (takeVar s).1 := rfl
  unfold six
  dsimp only
  by_cases h4 : (takeVar (dr s ((takeVar s).2 + (takeVar (dr s (takeVar s).2)).2 + (takeVar (dr s ((takeVar s).2 + (takeVar (dr s (takeVar s).2)).2))).2))).2 = 0
  · have e4 : p4 s = (dr s ((takeVar s).2 + (takeVar (dr s (takeVar s).2)).2 + (takeVar (dr s ((takeVar s).2 + (takeVar (dr s (takeVar s).2)).2))).2), (true, ())) := by simp [p4, e3, numS, h4]
    rw [if_pos (by omega)]
    simp only [p6, p5, e4, tb]
  have e4 : p4 s = (dr s ((takeVar s).2 + (takeVar (dr s (takeVar s).2)).2 + (takeVar (dr s ((takeVar s).2 + (takeVar (dr s (takeVar s).2)).2))).2 + (takeVar (dr s ((takeVar s).2 + (takeVar (dr s (takeVar s).2)).2 + (takeVar (dr s ((takeVar s).2 + (takeVar (dr s (takeVar s).2)).2))).2))).2), (false, ())) := by simp [p4, e3, numS, h4, dr_dr]
  clear nb e1 e2 e3
  generalize hA : takeVar s = v1 at *
  generalize hB : takeVar (dr s v1.2) = v2 at *
  generalize hC : takeVar (dr s (v1.2 + v2.2)) = v3 at *
  generalize hD : takeVar (dr s (v1.2 + v2.2 + v3.2)) = v4 at *
  by_cases h5 : s.size - (v1.2 + v2.2 + v3.2 + v4.2) < v2.1
  · rw [if_pos (by omega)]
    have e5 : p5 s = (dr s (v1.2 + v2.2 + v3.2 + v4.2), (true, ())) := by
      simp only [p5, e4, k1, textS, cond_false, dr_size]
      rw [if_pos h5]
    simp only [p6, e5, tb]
  have e5 : p5 s = (dr s (v1.2 + v2.2 + v3.2 + v4.2 + v2.1), (false, ())) := by
    simp only [p5, e4, k1, textS, cond_false, dr_size]
    rw [if_neg h5, dr_dr]
  by_cases h6 : s.size - (v1.2 + v2.2 + v3.2 + v4.2 + v2.1) < v4.1
  · rw [if_pos (by omega)]
    have e6 : p6 s = (dr s (v1.2 + v2.2 + v3.2 + v4.2 + v2.1), (true, ())) := by
      simp only [p6, e5, k3, textS, cond_false, dr_size]
      rw [if_pos h6]
    rw [e6]
  · rw [if_neg (by omega)]
    dsimp only
    refine ⟨k0, k2, ?_, ?_, ?_⟩
    · simp only [textX, e4, k1, cond_false, dr_size]
      rw [if_neg h5, dr_head _ _ _ (by omega)]
    · simp only [textX, e5, k3, cond_false, dr_size]
      rw [if_neg h6, dr_head _ _ _ (by omega)]
    · simp only [p6, e5, k3, textS, cond_false, dr_size]
      rw [if_neg h6, dr_dr]

theorem item_six (s key : ByteArray) : item s key = match six s with
    | none => none
    | some ((c, m, w), (a, b), d) => if key.size < c then none else some ⟨(key.extract 0 c ++ a, (((w / 2 : Nat) : Int), (((w % 2 : Nat) : Int), (b, ())))), s.size - d.size, m, b.size⟩ := by
  unfold item six
  dsimp only
  generalize takeVar s = v1
  generalize takeVar (dr s v1.2) = v2
  generalize takeVar (dr s (v1.2 + v2.2)) = v3
  generalize takeVar (dr s (v1.2 + v2.2 + v3.2)) = v4
  by_cases h : v1.2 = 0 ∨ v2.2 = 0 ∨ v3.2 = 0 ∨ v4.2 = 0 ∨ s.size < v1.2 + v2.2 + v3.2 + v4.2 + v2.1 + v4.1
  · rw [if_pos h, if_pos (by omega)]
  · rw [if_neg h]
    by_cases hk : key.size < v1.1
    · rw [if_pos (by omega)]
      dsimp only
      rw [if_pos hk]
    · rw [if_neg (by omega)]
      dsimp only
      rw [if_neg hk]
      have e1 : s.size - (dr s (v1.2 + v2.2 + v3.2 + v4.2 + v2.1 + v4.1)).size = v1.2 + v2.2 + v3.2 + v4.2 + v2.1 + v4.1 := by rw [dr_size]; omega
      have e2 : (s.extract (v1.2 + v2.2 + v3.2 + v4.2 + v2.1) (v1.2 + v2.2 + v3.2 + v4.2 + v2.1 + v4.1)).size = v4.1 := by simp only [ByteArray.size_extract]; omega
      rw [e1, e2]

end Go.Proofs.YtncalmofbcmkaaaGreat
