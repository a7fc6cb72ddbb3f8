/- Marks written into answers and found there again; lists compared. -/
import Derived.Test.YtpegmiofhfmepaaR1First
set_option linter.all false
noncomputable section
namespace Go.Proofs.Ytpegmiofhfmepaa
open Go Go.Proofs.Ytpegmiofhfmepaa.Ev

section
variable {α : Type} {R : Type}
theorem mid_get (A B : List α) (y : α) : (A ++ y :: B)[A.length]? = some y := by simp
theorem mid_set (A B : List α) (y v : α) : List.set (A ++ y :: B) A.length v = A ++ v :: B := by simp
theorem mid_getO (A B : List α) (y : α) (k : α → Option R) : getO (A ++ y :: B) ((A.length : Nat) : Int) k = k y := getO_at (by omega) (by simp)
theorem mid_lt (A B : List α) (y : α) : ilt ((A.length : Nat) : Int) (llen (A ++ y :: B)) = true := ilt_iff.2 (by simp only [llen, List.length_append, List.length_cons]; omega)
theorem mid_end (A : List α) : ilt ((A.length : Nat) : Int) (llen (A ++ [])) = false := ilt_false.2 (by simp only [llen, List.append_nil]; omega)
theorem mid_next (A : List α) (y : α) (h : A.length ≤ 9223372036854775806) : iadd .i64 ((A.length : Nat) : Int) (1 : Int) = (((A ++ [y]).length : Nat) : Int) := by
  rw [iadd_i64 (by omega)]; simp
theorem mid_app (A B : List α) (y : α) : A ++ y :: B = (A ++ [y]) ++ B := by simp
end

/-! ### numbers -/
def markI : Int → Nat → List Int
  | _, 0 => []
  | k, n + 1 => k :: markI (k + 1) n

theorem markI_length : ∀ (k : Int) (n : Nat), (markI k n).length = n
  | _, 0 => rfl
  | k, n + 1 => by simp [markI, markI_length (k + 1) n]

theorem t22Loop {R : Type} (kk : (Unit × Unit) → ((Int × Unit) × ((List Int) × Unit)) → Option R) : ∀ (B A : List Int) (k : Int), 0 ≤ k → k + B.length ≤ 4611686018427387904 → A.length + B.length ≤ 4611686018427387904 →
    loopF (c := t22l2c) (v := t22l2v) (ex := t22l2e) t22l2 R ((), ()) ((k, (((A.length : Nat) : Int), ())), (A ++ B, ())) kk = kk ((), ()) ((k + B.length, ()), (A ++ markI k B.length, ()))
  | [], A, k, h0, hk, ha => by
    rw [loopF_done (c' := ((), ())) (o := ((k, ()), (A ++ [], ()))) (by simp only [round, t22l2, mid_end, cond_false])]
    simp [markI]
  | y :: B, A, k, h0, hk, ha => by
    simp only [List.length_cons] at hk ha
    rw [loopF_more (c' := ((), ())) (v' := ((k + 1, ((((A ++ [k]).length : Nat) : Int), ())), ((A ++ [k]) ++ B, ()))) (by
      simp only [round, t22l2, mid_lt, cond_true, mid_getO, Int.toNat_natCast, mid_get, bnd_some, mid_set]
      rw [iadd_i64 (a := k) (by omega), mid_next A k (by omega)]
      simp only [List.append_assoc, List.singleton_append])]
    rw [t22Loop kk B (A ++ [k]) (k + 1) (by omega) (by omega) (by simp; omega)]
    simp only [markI, List.length_cons, List.append_assoc, List.singleton_append]
    rw [show k + 1 + (B.length : Int) = k + ((B.length + 1 : Nat) : Int) by omega]

theorem t22Val (x : List Int × Int × Unit) (h0 : 0 ≤ x.2.1) (hk : x.2.1 + x.1.length ≤ 4611686018427387904) : t22 x = some ((x.2.1 + x.1.length, ()), (markI x.2.1 x.1.length, ())) := by
  unfold t22
  have := t22Loop (fun c3 o4 => (some ((o4.1.1, ()), (o4.2.1, ())))) x.1 [] x.2.1 h0 hk (by simp only [List.length_nil]; omega)
  exact this

theorem t23Loop {R : Type} (kk : (((List Int) × Unit) × Unit) → (((Int × Unit) × Unit) ⊕ ((Int × Unit) × Unit)) → Option R) : ∀ (n : Nat) (A : List Int) (k : Int), 0 ≤ k → k + n ≤ 4611686018427387904 → A.length + n ≤ 4611686018427387904 →
    loopF (c := t23l2c) (v := t23l2v) (ex := t23l2e) t23l2 R ((A ++ markI k n, ()), ()) ((k, (((A.length : Nat) : Int), ())), ()) kk = kk ((A ++ markI k n, ()), ()) (.inr ((k + n, ()), ()))
  | 0, A, k, h0, hk, ha => by
    simp only [markI]
    rw [loopF_done (c' := ((A ++ [], ()), ())) (o := Sum.inr ((k, ()), ())) (by simp only [round, t23l2, mid_end, cond_false])]
    simp
  | n + 1, A, k, h0, hk, ha => by
    simp only [markI]
    rw [loopF_more (c' := ((A ++ k :: markI (k + 1) n, ()), ())) (v' := ((k + 1, ((((A ++ [k]).length : Nat) : Int), ())), ())) (by
      simp only [round, t23l2, mid_lt, cond_true, mid_getO, ieq_iff.2, Bool.not_true, cond_false]
      rw [iadd_i64 (a := k) (by omega), mid_next A k (by omega)])]
    rw [mid_app, t23Loop kk n (A ++ [k]) (k + 1) (by omega) (by omega) (by simp; omega)]
    rw [show k + 1 + (n : Int) = k + ((n + 1 : Nat) : Int) by omega]

theorem t23Val (k : Int) (n : Nat) (h0 : 0 ≤ k) (hk : k + n ≤ 4611686018427387904) : t23 (markI k n, (k, ())) = some ((k + n, ()), ()) := by
  unfold t23
  have := t23Loop (fun c2 o3 => (match o3 with
 | .inl y4 => (some ((y4.1.1, ()), ()))
 | .inr z5 => (some ((z5.1.1, ()), ())))) n [] k h0 hk (by simp only [List.length_nil]; omega)
  exact this

theorem t21Loop {R : Type} (l : List Int) (hl : l.length ≤ 4611686018427387904) (kk : (((List Int) × (List Int) × Unit) × Unit) → (((Bool × Unit) × Unit) ⊕ (Unit × Unit)) → Option R) : ∀ (B A : List Int), A ++ B = l →
    loopF (c := t21l4c) (v := t21l4v) (ex := t21l4e) t21l4 R ((l, (l, ())), ()) ((((A.length : Nat) : Int), ()), ()) kk = kk ((l, (l, ())), ()) (.inr ((), ()))
  | [], A, h => by
    subst h
    rw [loopF_done (c' := ((A ++ [], (A ++ [], ())), ())) (o := Sum.inr ((), ())) (by simp only [round, t21l4, mid_end, cond_false])]
  | y :: B, A, h => by
    have hA : A.length + 1 ≤ l.length := by rw [← h]; simp
    rw [loopF_more (c' := ((l, (l, ())), ())) (v' := (((((A ++ [y]).length : Nat) : Int), ()), ())) (by
      rw [← h]
      simp only [round, t21l4, mid_lt, cond_true, mid_getO, ieq_iff.2, Bool.not_true, cond_false]
      rw [mid_next A y (by omega)])]
    exact t21Loop l hl kk B (A ++ [y]) (by simp [← h])

theorem t21Same (x : List Int × List Int × Unit) (h : x.1 = x.2.1) (hl : x.1.length ≤ 4611686018427387904) : t21 x = some ((true, ()), ()) := by
  obtain ⟨a, b, ⟨⟩⟩ := x
  dsimp only at h hl
  subst h
  unfold t21
  simp only [ieq_iff.2, Bool.not_true, cond_false]
  have := t21Loop a hl (fun c3 o4 => (match o4 with
 | .inl y5 => (some ((y5.1.1, ()), ()))
 | .inr z6 => (some ((true, ()), ())))) a [] rfl
  exact this

/-! ### marks as texts -/
theorem t48Loop {R : Type} (kk : (Unit × Unit) → ((ByteArray × Unit) × Unit) → Option R) : ∀ (f k : Nat) (out : ByteArray), k < 10 ^ f → out.size + f ≤ 1000 → k ≤ 4611686018427387904 →
    ∃ o, o.size ≤ out.size + f ∧ loopF (c := t48l4c) (v := t48l4v) (ex := t48l4e) t48l4 R ((), ()) (((k : Int), (out, ())), ()) kk = kk ((), ()) ((o, ()), ())
  | 0, k, out, hk, ho, hb => by
    have : k = 0 := by omega
    subst this
    exact ⟨out, by omega, by rw [loopF_done (c' := ((), ())) (o := ((out, ()), ())) (by rfl)]⟩
  | f + 1, k, out, hk, ho, hb => by
    by_cases h0 : k = 0
    · subst h0
      exact ⟨out, by omega, by rw [loopF_done (c' := ((), ())) (o := ((out, ()), ())) (by rfl)]⟩
    have hq : iquo .i64 (k : Int) (10 : Int) = ((k / 10 : Nat) : Int) := by
      simp only [iquo]
      rw [Int.tdiv_eq_ediv_of_nonneg (by omega), wrap_i64 _ (by omega)]
      omega
    obtain ⟨d, hd⟩ : ∃ d, d = strOf [(IntKind.wrap .u8 (iadd .i64 (48 : Int) (irem .i64 (k : Int) (10 : Int))))] := ⟨_, rfl⟩
    have hds : d.size = 1 := by rw [hd, strOf_size]; rfl
    have hk10 : k / 10 < 10 ^ f := by
      have : 10 ^ (f + 1) = 10 ^ f * 10 := by rw [Nat.pow_succ]
      omega
    obtain ⟨o, h1, h2⟩ := t48Loop kk f (k / 10) (d ++ out) hk10 (by rw [ByteArray.size_append]; omega) (by omega)
    refine ⟨o, by rw [ByteArray.size_append] at h1; omega, ?_⟩
    rw [loopF_more (c' := ((), ())) (v' := ((((k / 10 : Nat) : Int), (d ++ out, ())), ())) (by
      simp only [round, t48l4]
      rw [ilt_iff.2 (show (0 : Int) < (k : Int) by omega), cond_true, ← hd, catO_some (by omega), hq])]
    exact h2

def mt (k : Int) : ByteArray := match t48 (k, ()) with | some r => r.1.1 | none => ⟨#[]⟩

theorem t48Val (x : Int × Unit) (h0 : 0 < x.1) (hk : x.1 ≤ 4611686018427387904) : t48 x = some ((mt x.1, ()), ()) := by
  obtain ⟨k, ⟨⟩⟩ := x
  dsimp only at h0 hk
  obtain ⟨n, rfl⟩ : ∃ n : Nat, k = (n : Int) := ⟨k.toNat, by omega⟩
  obtain ⟨o, h1, h2⟩ := t48Loop (fun c2 o3 => (catO (⟨#[109]⟩ : ByteArray) o3.1.1 fun v4 => (some ((v4, ()), ())))) 19 n ⟨#[]⟩ (by omega) (by decide) (by omega)
  have h3 : t48 (((n : Nat) : Int), ()) = some (((⟨#[109]⟩ : ByteArray) ++ o, ()), ()) := by
    unfold t48
    dsimp only
    rw [ile_false.2 (by omega), cond_false]
    refine h2.trans ?_
    dsimp only
    rw [catO_some]
    have : (⟨#[109]⟩ : ByteArray).size = 1 := rfl
    have : (⟨#[]⟩ : ByteArray).size = 0 := rfl
    omega
  simp only [mt, h3]

/-! ### items -/
def mkItem (k : Int) : D51 := (mt k, (k + 1, (k + 2, (mt (k + 3), ()))))
def markIt : Int → Nat → List D51
  | _, 0 => []
  | k, n + 1 => mkItem k :: markIt (k + 4) n
theorem markIt_length : ∀ (k : Int) (n : Nat), (markIt k n).length = n
  | _, 0 => rfl
  | k, n + 1 => by simp [markIt, markIt_length (k + 4) n]

theorem t27Loop {R : Type} (kk : (Unit × Unit) → ((Int × Unit) × ((List D51) × Unit)) → Option R) : ∀ (B A : List D51) (k : Int), 0 < k → k + 4 * B.length ≤ 4611686018427387904 → A.length + B.length ≤ 4611686018427387904 →
    loopF (c := t27l2c) (v := t27l2v) (ex := t27l2e) t27l2 R ((), ()) ((k, (((A.length : Nat) : Int), ())), (A ++ B, ())) kk = kk ((), ()) ((k + 4 * B.length, ()), (A ++ markIt k B.length, ()))
  | [], A, k, h0, hk, ha => by
    rw [loopF_done (c' := ((), ())) (o := ((k, ()), (A ++ [], ()))) (by simp only [round, t27l2, mid_end, cond_false])]
    simp [markIt]
  | y :: B, A, k, h0, hk, ha => by
    simp only [List.length_cons] at hk ha
    have e1 : iadd .i64 k (1 : Int) = k + 1 := iadd_i64 (by omega)
    have e2 : iadd .i64 (k + 1) (1 : Int) = k + 2 := by rw [iadd_i64 (by omega)]; omega
    have e3 : iadd .i64 (k + 2) (1 : Int) = k + 3 := by rw [iadd_i64 (by omega)]; omega
    have e4 : iadd .i64 (k + 3) (1 : Int) = k + 4 := by rw [iadd_i64 (by omega)]; omega
    rw [loopF_more (c' := ((), ())) (v' := ((k + 4, ((((A ++ [mkItem k]).length : Nat) : Int), ())), ((A ++ [mkItem k]) ++ B, ()))) (by
      simp only [round, t27l2, mid_lt, cond_true, e1, e2, e3, e4]
      rw [t48Val _ (by dsimp only; omega) (by dsimp only; omega), bnd_some]
      simp only [mid_getO, Int.toNat_natCast, mid_get, bnd_some, mid_set]
      rw [t48Val _ (by dsimp only; omega) (by dsimp only; omega), bnd_some]
      simp only [mid_getO, Int.toNat_natCast, mid_get, bnd_some, mid_set]
      rw [mid_next A (mkItem k) (by omega), ← mid_app]
      rfl)]
    rw [t27Loop kk B (A ++ [mkItem k]) (k + 4) (by omega) (by omega) (by simp; omega)]
    simp only [markIt, List.length_cons, List.append_assoc, List.singleton_append]
    rw [show k + 4 + 4 * (B.length : Int) = k + 4 * ((B.length + 1 : Nat) : Int) by omega]

theorem t27Val (x : List D51 × Int × Unit) (h0 : 0 < x.2.1) (hk : x.2.1 + 4 * x.1.length ≤ 4611686018427387904) : t27 x = some ((x.2.1 + 4 * x.1.length, ()), (markIt x.2.1 x.1.length, ())) := by
  unfold t27
  exact t27Loop (fun c15 o16 => (some ((o16.1.1, ()), (o16.2.1, ())))) x.1 [] x.2.1 h0 hk (by simp only [List.length_nil]; omega)

theorem t28Loop {R : Type} (kk : (((List D51) × Unit) × Unit) → (((Int × Unit) × Unit) ⊕ ((Int × Unit) × Unit)) → Option R) : ∀ (n : Nat) (A : List D51) (k : Int), 0 < k → k + 4 * n ≤ 4611686018427387904 → A.length + n ≤ 4611686018427387904 →
    loopF (c := t28l2c) (v := t28l2v) (ex := t28l2e) t28l2 R ((A ++ markIt k n, ()), ()) ((k, (((A.length : Nat) : Int), ())), ()) kk = kk ((A ++ markIt k n, ()), ()) (.inr ((k + 4 * n, ()), ()))
  | 0, A, k, h0, hk, ha => by
    simp only [markIt]
    rw [loopF_done (c' := ((A ++ [], ()), ())) (o := Sum.inr ((k, ()), ())) (by simp only [round, t28l2, mid_end, cond_false])]
    simp
  | n + 1, A, k, h0, hk, ha => by
    simp only [markIt]
    have e1 : iadd .i64 k (1 : Int) = k + 1 := iadd_i64 (by omega)
    have e2 : iadd .i64 (k + 1) (1 : Int) = k + 2 := by rw [iadd_i64 (by omega)]; omega
    have e3 : iadd .i64 (k + 2) (1 : Int) = k + 3 := by rw [iadd_i64 (by omega)]; omega
    have e4 : iadd .i64 (k + 3) (1 : Int) = k + 4 := by rw [iadd_i64 (by omega)]; omega
    rw [loopF_more (c' := ((A ++ mkItem k :: markIt (k + 4) n, ()), ())) (v' := ((k + 4, ((((A ++ [mkItem k]).length : Nat) : Int), ())), ())) (by
      simp only [round, t28l2, mid_lt, cond_true, mid_getO, e1, e2, e3, e4]
      rw [t48Val _ (by dsimp only; omega) (by dsimp only; omega), bnd_some]
      simp only [mkItem, seq_self, Bool.not_true, cond_false, ieq_iff.2]
      rw [t48Val _ (by dsimp only; omega) (by dsimp only; omega), bnd_some]
      simp only [seq_self, Bool.not_true, cond_false]
      rw [mid_next A (mkItem k) (by omega)]
      rfl)]
    rw [mid_app, t28Loop kk n (A ++ [mkItem k]) (k + 4) (by omega) (by omega) (by simp; omega)]
    rw [show k + 4 + 4 * (n : Int) = k + 4 * ((n + 1 : Nat) : Int) by omega]

theorem t28Val (k : Int) (n : Nat) (h0 : 0 < k) (hk : k + 4 * n ≤ 4611686018427387904) : t28 (markIt k n, (k, ())) = some ((k + 4 * n, ()), ()) := by
  unfold t28
  have := t28Loop (fun c7 o8 => (match o8 with
 | .inl y9 => (some ((y9.1.1, ()), ()))
 | .inr z10 => (some ((z10.1.1, ()), ())))) n [] k h0 hk (by simp only [List.length_nil]; omega)
  exact this

theorem t47Same (x : D51 × D51 × Unit) (h : x.1 = x.2.1) : t47 x = some ((true, ()), ()) := by
  obtain ⟨a, b, ⟨⟩⟩ := x
  dsimp only at h
  subst h
  unfold t47
  simp only [seq_self, ieq_iff.2, Bool.not_true, cond_false]

theorem t26Loop {R : Type} (l : List D51) (hl : l.length ≤ 4611686018427387904) (kk : (((List D51) × (List D51) × Unit) × Unit) → (((Bool × Unit) × Unit) ⊕ (Unit × Unit)) → Option R) : ∀ (B A : List D51), A ++ B = l →
    loopF (c := t26l4c) (v := t26l4v) (ex := t26l4e) t26l4 R ((l, (l, ())), ()) ((((A.length : Nat) : Int), ()), ()) kk = kk ((l, (l, ())), ()) (.inr ((), ()))
  | [], A, h => by
    subst h
    rw [loopF_done (c' := ((A ++ [], (A ++ [], ())), ())) (o := Sum.inr ((), ())) (by simp only [round, t26l4, mid_end, cond_false])]
  | y :: B, A, h => by
    have hA : A.length + 1 ≤ l.length := by rw [← h]; simp
    rw [loopF_more (c' := ((l, (l, ())), ())) (v' := (((((A ++ [y]).length : Nat) : Int), ()), ())) (by
      rw [← h]
      simp only [round, t26l4, mid_lt, cond_true, mid_getO]
      rw [t47Same _ rfl, bnd_some]
      simp only [Bool.not_true, cond_false]
      rw [mid_next A y (by omega)])]
    exact t26Loop l hl kk B (A ++ [y]) (by simp [← h])

theorem t26Same (x : List D51 × List D51 × Unit) (h : x.1 = x.2.1) (hl : x.1.length ≤ 4611686018427387904) : t26 x = some ((true, ()), ()) := by
  obtain ⟨a, b, ⟨⟩⟩ := x
  dsimp only at h hl
  subst h
  unfold t26
  simp only [ieq_iff.2, Bool.not_true, cond_false]
  exact t26Loop a hl (fun c4 o5 => (match o5 with
 | .inl y6 => (some ((y6.1.1, ()), ()))
 | .inr z7 => (some ((true, ()), ())))) a [] rfl

end Go.Proofs.Ytpegmiofhfmepaa
