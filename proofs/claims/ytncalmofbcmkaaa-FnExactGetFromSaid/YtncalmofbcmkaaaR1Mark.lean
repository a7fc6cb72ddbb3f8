/- Marks written into answers and found there again; lists compared. -/
import Derived.Test.YtncalmofbcmkaaaR1First
set_option linter.all false
noncomputable section
namespace Go.Proofs.Ytncalmofbcmkaaa
open Go Go.Proofs.Ytncalmofbcmkaaa.Ev

section
variable {α : Type} {R : Type}
theorem mid_get (A B : List α) (y : α) : (A ++ y :: B)[A.length]? = some y := by simp
theorem mid_set (A B : List α) (y v : α) : List.set (A ++ y :: B) A.length v = A ++ v :: B := by simp
theorem mid_getO (A B : List α) (y : α) (k : α → Option R) : getO (A ++ y :: B) ((A.length : Nat) : Int) k = k y := getO_at (by omega) (by simp)
theorem mid_lt (A B : List α) (y : α) : ilt ((A.length : Nat) : Int) (llen (A ++ y :: B)) = true := ilt_iff.2 (by simp only [llen, List.length_append, List.length_cons]; omega)
theorem mid_end (A : List α) : ilt ((A.length : Nat) : Int) (llen (A ++ [])) = false := ilt_false.2 (by simp only [llen, List.append_nil]; omega)
theorem mid_next (A : List α) (y : α) (h : A.length ≤ 9223372036854775806) : iadd .i64 ((A.length : Nat) : Int) (1 : Int) = (((A ++ [y]).length : Nat) : Int) := by
  rw [iadd_i64 (by omega)]; simp
theorem mid_app (A B : List α) (y : α) : A ++ y :: B = (A ++ [y]) ++ B := by simp
end

/-! ### marks as texts -/
theorem f_laws_markTextLoop {R : Type} (kk : (Unit × Unit) → ((ByteArray × Unit) × Unit) → Option R) : ∀ (f k : Nat) (out : ByteArray), k < 10 ^ f → out.size + f ≤ 1000 → k ≤ 4611686018427387904 →
    ∃ o, o.size ≤ out.size + f ∧ loopF (c := f_laws_markText_l4c) (v := f_laws_markText_l4v) (ex := f_laws_markText_l4e) f_laws_markText_l4 R ((), ()) (((k : Int), (out, ())), ()) kk = kk ((), ()) ((o, ()), ())
  | 0, k, out, hk, ho, hb => by
    have : k = 0 := by omega
    subst this
    exact ⟨out, by omega, by rw [loopF_done (c' := ((), ())) (o := ((out, ()), ())) (by rfl)]⟩
  | f + 1, k, out, hk, ho, hb => by
    by_cases h0 : k = 0
    · subst h0
      exact ⟨out, by omega, by rw [loopF_done (c' := ((), ())) (o := ((out, ()), ())) (by rfl)]⟩
    have hq : iquo .i64 (k : Int) (10 : Int) = ((k / 10 : Nat) : Int) := by
      simp only [iquo]
      rw [Int.tdiv_eq_ediv_of_nonneg (by omega), wrap_i64 _ (by omega)]
      omega
    obtain ⟨d, hd⟩ : ∃ d, d = strOf [(IntKind.wrap .u8 (iadd .i64 (48 : Int) (irem .i64 (k : Int) (10 : Int))))] := ⟨_, rfl⟩
    have hds : d.size = 1 := by rw [hd, strOf_size]; rfl
    have hk10 : k / 10 < 10 ^ f := by
      have : 10 ^ (f + 1) = 10 ^ f * 10 := by rw [Nat.pow_succ]
      omega
    obtain ⟨o, h1, h2⟩ := f_laws_markTextLoop kk f (k / 10) (d ++ out) hk10 (by rw [ByteArray.size_append]; omega) (by omega)
    refine ⟨o, by rw [ByteArray.size_append] at h1; omega, ?_⟩
    rw [loopF_more (c' := ((), ())) (v' := ((((k / 10 : Nat) : Int), (d ++ out, ())), ())) (by
      simp only [round, f_laws_markText_l4]
      rw [ilt_iff.2 (show (0 : Int) < (k : Int) by omega), cond_true, ← hd, catO_some (by omega), hq])]
    exact h2

def mt (k : Int) : ByteArray := match f_laws_markText (k, ()) with | some r => r.1.1 | none => ⟨#[]⟩

theorem f_laws_markTextVal (x : Int × Unit) (h0 : 0 < x.1) (hk : x.1 ≤ 4611686018427387904) : f_laws_markText x = some ((mt x.1, ()), ()) := by
  obtain ⟨k, ⟨⟩⟩ := x
  dsimp only at h0 hk
  obtain ⟨n, rfl⟩ : ∃ n : Nat, k = (n : Int) := ⟨k.toNat, by omega⟩
  obtain ⟨o, h1, h2⟩ := f_laws_markTextLoop (fun c2 o3 => (catO (⟨#[109]⟩ : ByteArray) o3.1.1 fun v4 => (some ((v4, ()), ())))) 19 n ⟨#[]⟩ (by omega) (by decide) (by omega)
  have h3 : f_laws_markText (((n : Nat) : Int), ()) = some (((⟨#[109]⟩ : ByteArray) ++ o, ()), ()) := by
    unfold f_laws_markText
    dsimp only
    rw [ile_false.2 (by omega), cond_false]
    refine h2.trans ?_
    dsimp only
    rw [catO_some]
    have : (⟨#[109]⟩ : ByteArray).size = 1 := rfl
    have : (⟨#[]⟩ : ByteArray).size = 0 := rfl
    omega
  simp only [mt, h3]

/-! ### items -/
def mkItem (k : Int) : DItem := (mt k, (k + 1, (k + 2, (mt (k + 3), ()))))
def markIt : Int → Nat → List DItem
  | _, 0 => []
  | k, n + 1 => mkItem k :: markIt (k + 4) n
theorem markIt_length : ∀ (k : Int) (n : Nat), (markIt k n).length = n
  | _, 0 => rfl
  | k, n + 1 => by simp [markIt, markIt_length (k + 4) n]

theorem f_laws_markItemSLoop {R : Type} (kk : (Unit × Unit) → ((Int × Unit) × ((List DItem) × Unit)) → Option R) : ∀ (B A : List DItem) (k : Int), 0 < k → k + 4 * B.length ≤ 4611686018427387904 → A.length + B.length ≤ 4611686018427387904 →
    loopF (c := f_laws_markItemS_l2c) (v := f_laws_markItemS_l2v) (ex := f_laws_markItemS_l2e) f_laws_markItemS_l2 R ((), ()) ((k, (((A.length : Nat) : Int), ())), (A ++ B, ())) kk = kk ((), ()) ((k + 4 * B.length, ()), (A ++ markIt k B.length, ()))
  | [], A, k, h0, hk, ha => by
    rw [loopF_done (c' := ((), ())) (o := ((k, ()), (A ++ [], ()))) (by simp only [round, f_laws_markItemS_l2, mid_end, cond_false])]
    simp [markIt]
  | y :: B, A, k, h0, hk, ha => by
    simp only [List.length_cons] at hk ha
    have e1 : iadd .i64 k (1 : Int) = k + 1 := iadd_i64 (by omega)
    have e2 : iadd .i64 (k + 1) (1 : Int) = k + 2 := by rw [iadd_i64 (by omega)]; omega
    have e3 : iadd .i64 (k + 2) (1 : Int) = k + 3 := by rw [iadd_i64 (by omega)]; omega
    have e4 : iadd .i64 (k + 3) (1 : Int) = k + 4 := by rw [iadd_i64 (by omega)]; omega
    rw [loopF_more (c' := ((), ())) (v' := ((k + 4, ((((A ++ [mkItem k]).length : Nat) : Int), ())), ((A ++ [mkItem k]) ++ B, ()))) (by
      simp only [round, f_laws_markItemS_l2, mid_lt, cond_true, e1, e2, e3, e4]
      rw [f_laws_markTextVal _ (by dsimp only; omega) (by dsimp only; omega), bnd_some]
      simp only [mid_getO, Int.toNat_natCast, mid_get, bnd_some, mid_set]
      rw [f_laws_markTextVal _ (by dsimp only; omega) (by dsimp only; omega), bnd_some]
      simp only [mid_getO, Int.toNat_natCast, mid_get, bnd_some, mid_set]
      rw [mid_next A (mkItem k) (by omega), ← mid_app]
      rfl)]
    rw [f_laws_markItemSLoop kk B (A ++ [mkItem k]) (k + 4) (by omega) (by omega) (by simp; omega)]
    simp only [markIt, List.length_cons, List.append_assoc, List.singleton_append]
    rw [show k + 4 + 4 * (B.length : Int) = k + 4 * ((B.length + 1 : Nat) : Int) by omega]

theorem f_laws_markItemSVal (x : List DItem × Int × Unit) (h0 : 0 < x.2.1) (hk : x.2.1 + 4 * x.1.length ≤ 4611686018427387904) : f_laws_markItemS x = some ((x.2.1 + 4 * x.1.length, ()), (markIt x.2.1 x.1.length, ())) := by
  unfold f_laws_markItemS
  exact f_laws_markItemSLoop (fun c15 o16 => (some ((o16.1.1, ()), (o16.2.1, ())))) x.1 [] x.2.1 h0 hk (by simp only [List.length_nil]; omega)

theorem f_laws_heldItemSLoop {R : Type} (kk : (((List DItem) × Unit) × Unit) → (((Int × Unit) × Unit) ⊕ ((Int × Unit) × Unit)) → Option R) : ∀ (n : Nat) (A : List DItem) (k : Int), 0 < k → k + 4 * n ≤ 4611686018427387904 → A.length + n ≤ 4611686018427387904 →
    loopF (c := f_laws_heldItemS_l2c) (v := f_laws_heldItemS_l2v) (ex := f_laws_heldItemS_l2e) f_laws_heldItemS_l2 R ((A ++ markIt k n, ()), ()) ((k, (((A.length : Nat) : Int), ())), ()) kk = kk ((A ++ markIt k n, ()), ()) (.inr ((k + 4 * n, ()), ()))
  | 0, A, k, h0, hk, ha => by
    simp only [markIt]
    rw [loopF_done (c' := ((A ++ [], ()), ())) (o := Sum.inr ((k, ()), ())) (by simp only [round, f_laws_heldItemS_l2, mid_end, cond_false])]
    simp
  | n + 1, A, k, h0, hk, ha => by
    simp only [markIt]
    have e1 : iadd .i64 k (1 : Int) = k + 1 := iadd_i64 (by omega)
    have e2 : iadd .i64 (k + 1) (1 : Int) = k + 2 := by rw [iadd_i64 (by omega)]; omega
    have e3 : iadd .i64 (k + 2) (1 : Int) = k + 3 := by rw [iadd_i64 (by omega)]; omega
    have e4 : iadd .i64 (k + 3) (1 : Int) = k + 4 := by rw [iadd_i64 (by omega)]; omega
    rw [loopF_more (c' := ((A ++ mkItem k :: markIt (k + 4) n, ()), ())) (v' := ((k + 4, ((((A ++ [mkItem k]).length : Nat) : Int), ())), ())) (by
      simp only [round, f_laws_heldItemS_l2, mid_lt, cond_true, mid_getO, e1, e2, e3, e4]
      rw [f_laws_markTextVal _ (by dsimp only; omega) (by dsimp only; omega), bnd_some]
      simp only [mkItem, seq_self, Bool.not_true, cond_false, ieq_iff.2]
      rw [f_laws_markTextVal _ (by dsimp only; omega) (by dsimp only; omega), bnd_some]
      simp only [seq_self, Bool.not_true, cond_false]
      rw [mid_next A (mkItem k) (by omega)]
      rfl)]
    rw [mid_app, f_laws_heldItemSLoop kk n (A ++ [mkItem k]) (k + 4) (by omega) (by omega) (by simp; omega)]
    rw [show k + 4 + 4 * (n : Int) = k + 4 * ((n + 1 : Nat) : Int) by omega]

theorem f_laws_heldItemSVal (k : Int) (n : Nat) (h0 : 0 < k) (hk : k + 4 * n ≤ 4611686018427387904) : f_laws_heldItemS (markIt k n, (k, ())) = some ((k + 4 * n, ()), ()) := by
  unfold f_laws_heldItemS
  have := f_laws_heldItemSLoop (fun c7 o8 => (match o8 with
 | .inl y9 => (some ((y9.1.1, ()), ()))
 | .inr z10 => (some ((z10.1.1, ()), ())))) n [] k h0 hk (by simp only [List.length_nil]; omega)
  exact this

theorem f_laws_eqItemSame (x : DItem × DItem × Unit) (h : x.1 = x.2.1) : f_laws_eqItem x = some ((true, ()), ()) := by
  obtain ⟨a, b, ⟨⟩⟩ := x
  dsimp only at h
  subst h
  unfold f_laws_eqItem
  simp only [seq_self, ieq_iff.2, Bool.not_true, cond_false]

theorem f_laws_eqItemSLoop {R : Type} (l : List DItem) (hl : l.length ≤ 4611686018427387904) (kk : (((List DItem) × (List DItem) × Unit) × Unit) → (((Bool × Unit) × Unit) ⊕ (Unit × Unit)) → Option R) : ∀ (B A : List DItem), A ++ B = l →
    loopF (c := f_laws_eqItemS_l4c) (v := f_laws_eqItemS_l4v) (ex := f_laws_eqItemS_l4e) f_laws_eqItemS_l4 R ((l, (l, ())), ()) ((((A.length : Nat) : Int), ()), ()) kk = kk ((l, (l, ())), ()) (.inr ((), ()))
  | [], A, h => by
    subst h
    rw [loopF_done (c' := ((A ++ [], (A ++ [], ())), ())) (o := Sum.inr ((), ())) (by simp only [round, f_laws_eqItemS_l4, mid_end, cond_false])]
  | y :: B, A, h => by
    have hA : A.length + 1 ≤ l.length := by rw [← h]; simp
    rw [loopF_more (c' := ((l, (l, ())), ())) (v' := (((((A ++ [y]).length : Nat) : Int), ()), ())) (by
      rw [← h]
      simp only [round, f_laws_eqItemS_l4, mid_lt, cond_true, mid_getO]
      rw [f_laws_eqItemSame _ rfl, bnd_some]
      simp only [Bool.not_true, cond_false]
      rw [mid_next A y (by omega)])]
    exact f_laws_eqItemSLoop l hl kk B (A ++ [y]) (by simp [← h])

theorem f_laws_eqItemSSame (x : List DItem × List DItem × Unit) (h : x.1 = x.2.1) (hl : x.1.length ≤ 4611686018427387904) : f_laws_eqItemS x = some ((true, ()), ()) := by
  obtain ⟨a, b, ⟨⟩⟩ := x
  dsimp only at h hl
  subst h
  unfold f_laws_eqItemS
  simp only [ieq_iff.2, Bool.not_true, cond_false]
  exact f_laws_eqItemSLoop a hl (fun c4 o5 => (match o5 with
 | .inl y6 => (some ((y6.1.1, ()), ()))
 | .inr z7 => (some ((true, ()), ())))) a [] rfl

end Go.Proofs.Ytncalmofbcmkaaa
