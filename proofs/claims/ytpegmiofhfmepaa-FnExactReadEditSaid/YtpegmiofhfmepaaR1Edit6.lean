/- Edits: compared, marked, held. FnExactReadEdit over typed functions. -/
import Derived.Test.YtpegmiofhfmepaaR1Edit5
set_option linter.all false
noncomputable section
namespace Go.Proofs.Ytpegmiofhfmepaa
open Go Go.Proofs.Ytpegmiofhfmepaa.Ev

def mkMeta (k : Int) : D62 := (k, (k + 1, (mt (k + 2), (mt (k + 3), ()))))
def markMt : Int → Nat → List D62
  | _, 0 => []
  | k, n + 1 => mkMeta k :: markMt (k + 4) n
theorem markMt_length : ∀ (k : Int) (n : Nat), (markMt k n).length = n
  | _, 0 => rfl
  | k, n + 1 => by simp [markMt, markMt_length (k + 4) n]

theorem t42Loop {R : Type} (kk : (Unit × Unit) → ((Int × Unit) × ((List D62) × Unit)) → Option R) : ∀ (B A : List D62) (k : Int), 0 < k → k + 4 * B.length ≤ 4611686018427387904 → A.length + B.length ≤ 4611686018427387904 →
    loopF (c := t42l2c) (v := t42l2v) (ex := t42l2e) t42l2 R ((), ()) ((k, (((A.length : Nat) : Int), ())), (A ++ B, ())) kk = kk ((), ()) ((k + 4 * B.length, ()), (A ++ markMt k B.length, ()))
  | [], A, k, h0, hk, ha => by
    rw [loopF_done (c' := ((), ())) (o := ((k, ()), (A ++ [], ()))) (by simp only [round, t42l2, mid_end, cond_false])]
    simp [markMt]
  | y :: B, A, k, h0, hk, ha => by
    simp only [List.length_cons] at hk ha
    have e1 : iadd .i64 k (1 : Int) = k + 1 := iadd_i64 (by omega)
    have e2 : iadd .i64 (k + 1) (1 : Int) = k + 2 := by rw [iadd_i64 (by omega)]; omega
    have e3 : iadd .i64 (k + 2) (1 : Int) = k + 3 := by rw [iadd_i64 (by omega)]; omega
    have e4 : iadd .i64 (k + 3) (1 : Int) = k + 4 := by rw [iadd_i64 (by omega)]; omega
    rw [loopF_more (c' := ((), ())) (v' := ((k + 4, ((((A ++ [mkMeta k]).length : Nat) : Int), ())), ((A ++ [mkMeta k]) ++ B, ()))) (by
      simp only [round, t42l2, mid_lt, cond_true, e1, e2, e3, e4]
      simp only [mid_getO, Int.toNat_natCast, mid_get, bnd_some, mid_set]
      rw [t48Val _ (by dsimp only; omega) (by dsimp only; omega), bnd_some]
      simp only [mid_getO, Int.toNat_natCast, mid_get, bnd_some, mid_set]
      rw [t48Val _ (by dsimp only; omega) (by dsimp only; omega), bnd_some]
      simp only [mid_getO, Int.toNat_natCast, mid_get, bnd_some, mid_set]
      rw [mid_next A (mkMeta k) (by omega), ← mid_app]
      rfl)]
    rw [t42Loop kk B (A ++ [mkMeta k]) (k + 4) (by omega) (by omega) (by simp; omega)]
    simp only [markMt, List.length_cons, List.append_assoc, List.singleton_append]
    rw [show k + 4 + 4 * (B.length : Int) = k + 4 * ((B.length + 1 : Nat) : Int) by omega]

theorem t42Val (x : List D62 × Int × Unit) (h0 : 0 < x.2.1) (hk : x.2.1 + 4 * x.1.length ≤ 4611686018427387904) : t42 x = some ((x.2.1 + 4 * x.1.length, ()), (markMt x.2.1 x.1.length, ())) := by
  unfold t42
  exact t42Loop (fun c15 o16 => (some ((o16.1.1, ()), (o16.2.1, ())))) x.1 [] x.2.1 h0 hk (by simp only [List.length_nil]; omega)

theorem t43Loop {R : Type} (kk : (((List D62) × Unit) × Unit) → (((Int × Unit) × Unit) ⊕ ((Int × Unit) × Unit)) → Option R) : ∀ (n : Nat) (A : List D62) (k : Int), 0 < k → k + 4 * n ≤ 4611686018427387904 → A.length + n ≤ 4611686018427387904 →
    loopF (c := t43l2c) (v := t43l2v) (ex := t43l2e) t43l2 R ((A ++ markMt k n, ()), ()) ((k, (((A.length : Nat) : Int), ())), ()) kk = kk ((A ++ markMt k n, ()), ()) (.inr ((k + 4 * n, ()), ()))
  | 0, A, k, h0, hk, ha => by
    simp only [markMt]
    rw [loopF_done (c' := ((A ++ [], ()), ())) (o := Sum.inr ((k, ()), ())) (by simp only [round, t43l2, mid_end, cond_false])]
    simp
  | n + 1, A, k, h0, hk, ha => by
    simp only [markMt]
    have e1 : iadd .i64 k (1 : Int) = k + 1 := iadd_i64 (by omega)
    have e2 : iadd .i64 (k + 1) (1 : Int) = k + 2 := by rw [iadd_i64 (by omega)]; omega
    have e3 : iadd .i64 (k + 2) (1 : Int) = k + 3 := by rw [iadd_i64 (by omega)]; omega
    have e4 : iadd .i64 (k + 3) (1 : Int) = k + 4 := by rw [iadd_i64 (by omega)]; omega
    rw [loopF_more (c' := ((A ++ mkMeta k :: markMt (k + 4) n, ()), ())) (v' := ((k + 4, ((((A ++ [mkMeta k]).length : Nat) : Int), ())), ())) (by
      simp only [round, t43l2, mid_lt, cond_true, mid_getO, e1, e2, e3, e4]
      simp only [mkMeta, seq_self, Bool.not_true, cond_false, ieq_self]
      rw [t48Val _ (by dsimp only; omega) (by dsimp only; omega), bnd_some]
      simp only [mkMeta, seq_self, Bool.not_true, cond_false, ieq_self]
      rw [t48Val _ (by dsimp only; omega) (by dsimp only; omega), bnd_some]
      simp only [seq_self, Bool.not_true, cond_false]
      rw [mid_next A (mkMeta k) (by omega)]
      rfl)]
    rw [mid_app, t43Loop kk n (A ++ [mkMeta k]) (k + 4) (by omega) (by omega) (by simp; omega)]
    rw [show k + 4 + 4 * (n : Int) = k + 4 * ((n + 1 : Nat) : Int) by omega]

theorem t43Val (k : Int) (n : Nat) (h0 : 0 < k) (hk : k + 4 * n ≤ 4611686018427387904) : t43 (markMt k n, (k, ())) = some ((k + 4 * n, ()), ()) := by
  unfold t43
  have := t43Loop (fun c7 o8 => (match o8 with
 | .inl y9 => (some ((y9.1.1, ()), ()))
 | .inr z10 => (some ((z10.1.1, ()), ())))) n [] k h0 hk (by simp only [List.length_nil]; omega)
  exact this

theorem t66Same (x : D62 × D62 × Unit) (h : x.1 = x.2.1) : t66 x = some ((true, ()), ()) := by
  obtain ⟨a, b, ⟨⟩⟩ := x
  dsimp only at h
  subst h
  unfold t66
  simp only [seq_self, ieq_self, Bool.not_true, cond_false]

theorem t41Loop {R : Type} (l : List D62) (hl : l.length ≤ 4611686018427387904) (kk : (((List D62) × (List D62) × Unit) × Unit) → (((Bool × Unit) × Unit) ⊕ (Unit × Unit)) → Option R) : ∀ (B A : List D62), A ++ B = l →
    loopF (c := t41l4c) (v := t41l4v) (ex := t41l4e) t41l4 R ((l, (l, ())), ()) ((((A.length : Nat) : Int), ()), ()) kk = kk ((l, (l, ())), ()) (.inr ((), ()))
  | [], A, h => by
    subst h
    rw [loopF_done (c' := ((A ++ [], (A ++ [], ())), ())) (o := Sum.inr ((), ())) (by simp only [round, t41l4, mid_end, cond_false])]
  | y :: B, A, h => by
    have hA : A.length + 1 ≤ l.length := by rw [← h]; simp
    rw [loopF_more (c' := ((l, (l, ())), ())) (v' := (((((A ++ [y]).length : Nat) : Int), ()), ())) (by
      rw [← h]
      simp only [round, t41l4, mid_lt, cond_true, mid_getO]
      rw [t66Same _ rfl, bnd_some]
      simp only [Bool.not_true, cond_false]
      rw [mid_next A y (by omega)])]
    exact t41Loop l hl kk B (A ++ [y]) (by simp [← h])

theorem t41Same (x : List D62 × List D62 × Unit) (h : x.1 = x.2.1) (hl : x.1.length ≤ 4611686018427387904) : t41 x = some ((true, ()), ()) := by
  obtain ⟨a, b, ⟨⟩⟩ := x
  dsimp only at h hl
  subst h
  unfold t41
  simp only [ieq_self, Bool.not_true, cond_false]
  exact t41Loop a hl (fun c4 o5 => (match o5 with
 | .inl y6 => (some ((y6.1.1, ()), ()))
 | .inr z7 => (some ((true, ()), ())))) a [] rfl

theorem t14Same (x : D31 × D31 × Unit) (h : x.1 = x.2.1) (h1 : x.1.2.2.1.length ≤ 1000) (h2 : x.1.2.2.2.1.length ≤ 1000) : t14 x = some ((true, ()), ()) := by
  obtain ⟨a, b, ⟨⟩⟩ := x
  dsimp only at h h1 h2
  subst h
  unfold t14
  simp only [ieq_self, Bool.not_true, cond_false]
  rw [t21Same _ rfl (by dsimp only; omega), bnd_some]
  simp only [Bool.not_true, cond_false]
  rw [t41Same _ rfl (by dsimp only; omega), bnd_some]
  rfl

theorem trueT4 (s : ByteArray) : t4 (s, ()) = some ((true, ()), ()) := by
  unfold t4
  dsimp only
  by_cases h : 1048576 < s.size
  · rw [ilt_iff.2 (show (1048576 : Int) < slen s by simp only [slen]; omega)]
    rfl
  rw [ilt_false.2 (show slen s ≤ (1048576 : Int) by simp only [slen]; omega), cond_false]
  rw [t12Val, bnd_some, t13Val, bnd_some]
  obtain ⟨e, ok, h1, h2, h3⟩ : ∃ (e : D31) (ok : Bool), (if s.size ≤ 1000 then editR s else (noEdit, (false, ()))) = (e, (ok, ())) ∧ e.2.2.1.length ≤ 31 ∧ e.2.2.2.1.length ≤ 31 := by
    by_cases hs : s.size ≤ 1000
    · rw [if_pos hs]
      have := editR_len s hs
      exact ⟨(editR s).1, (editR s).2.1, rfl, this.1, this.2⟩
    · rw [if_neg hs]; exact ⟨noEdit, false, rfl, by simp [noEdit], by simp [noEdit]⟩
  dsimp only
  rw [h1]
  dsimp only
  rw [t14Same _ rfl (by dsimp only; omega) (by dsimp only; omega), bnd_some]
  dsimp only
  rw [beqB_self, Bool.not_true, cond_false]
  unfold t15
  dsimp only
  rw [t22Val _ (by dsimp only; omega) (by dsimp only; omega), bnd_some]
  dsimp only
  rw [t42Val _ (by dsimp only; omega) (by dsimp only; omega), bnd_some]
  dsimp only
  have h16 : ∀ y : D31 × Int × Unit, y.1.2.2.1 = markI 1 e.2.2.1.length → y.1.2.2.2.1 = markMt (1 + e.2.2.1.length) e.2.2.2.1.length → y.2.1 = 1 → t16 y = some ((1 + (e.2.2.1.length : Int) + 4 * e.2.2.2.1.length, ()), ()) := by
    rintro ⟨⟨w1, w2, w3, w4, ⟨⟩⟩, k, ⟨⟩⟩ y1 y2 y3
    dsimp only at y1 y2 y3
    subst y1; subst y2; subst y3
    unfold t16
    dsimp only
    rw [t23Val _ _ (by decide) (by omega), bnd_some]
    dsimp only
    rw [ilt_false.2 (by omega), cond_false, t43Val _ _ (by omega) (by omega), bnd_some]
    dsimp only
    rw [ilt_false.2 (by omega), cond_false]
  rw [bnd_some]
  dsimp only
  rw [h16 _ rfl rfl rfl, bnd_some]
  dsimp only
  rw [ilt_false.2 (by omega), cond_false, ieq_self, Bool.not_true, cond_false, cond_false, bnd_some]
  dsimp only
  rw [t14Same _ rfl (by dsimp only; omega) (by dsimp only; omega), bnd_some]
  dsimp only
  rw [beqB_self, Bool.not_true, cond_false, cond_false, bnd_some]
  dsimp only
  rw [ilt_false.2 (by omega), cond_false, ieq_self]
  rfl

end Go.Proofs.Ytpegmiofhfmepaa
