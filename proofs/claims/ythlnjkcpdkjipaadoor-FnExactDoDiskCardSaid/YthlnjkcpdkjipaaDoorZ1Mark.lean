/- Marks written into answers and found there again; lists compared. (Printed by a program of mine, wip/tools/marks.py.) -/
import Derived.Test.YthlnjkcpdkjipaaDoorUMid
import Derived.Test.YthlnjkcpdkjipaaDoorR15Fns
set_option linter.all false
noncomputable section
namespace Go.Proofs.YthlnjkcpdkjipaaDoor
open Go Go.Proofs.YthlnjkcpdkjipaaDoor.Ev

/-! ### marks as texts -/
theorem strOf_size1 (n : Int) : (strOf [n]).size = 1 := rfl
theorem f_laws_markTextLoop {R : Type} (kk : (Unit × Unit) → ((ByteArray × Unit) × Unit) → Option R) : ∀ (f k : Nat) (out : ByteArray), k < 10 ^ f → out.size + f ≤ 1000 → k ≤ 4611686018427387904 →
    ∃ o, o.size ≤ out.size + f ∧ loopF (c := f_laws_markText_l4c) (v := f_laws_markText_l4v) (ex := f_laws_markText_l4e) f_laws_markText_l4 R ((), ()) (((k : Int), (out, ())), ()) kk = kk ((), ()) ((o, ()), ())
  | 0, k, out, hk, ho, hb => by
    have : k = 0 := by omega
    subst this
    exact ⟨out, by omega, by rw [loopF_done (c' := ((), ())) (o := ((out, ()), ())) (by rfl)]⟩
  | f + 1, k, out, hk, ho, hb => by
    by_cases h0 : k = 0
    · subst h0
      exact ⟨out, by omega, by rw [loopF_done (c' := ((), ())) (o := ((out, ()), ())) (by rfl)]⟩
    have hq : iquo .i64 (k : Int) (10 : Int) = ((k / 10 : Nat) : Int) := by
      simp only [iquo]
      rw [Int.tdiv_eq_ediv_of_nonneg (by omega), wrap_i64 _ (by omega)]
      omega
    obtain ⟨d, hd⟩ : ∃ d, d = strOf [(IntKind.wrap .u8 (iadd .i64 (48 : Int) (irem .i64 (k : Int) (10 : Int))))] := ⟨_, rfl⟩
    have hds : d.size = 1 := by rw [hd, strOf_size1]
    have hk10 : k / 10 < 10 ^ f := by
      have : 10 ^ (f + 1) = 10 ^ f * 10 := by rw [Nat.pow_succ]
      omega
    obtain ⟨o, h1, h2⟩ := f_laws_markTextLoop kk f (k / 10) (d ++ out) hk10 (by rw [ByteArray.size_append]; omega) (by omega)
    refine ⟨o, by rw [ByteArray.size_append] at h1; omega, ?_⟩
    rw [loopF_more (c' := ((), ())) (v' := ((((k / 10 : Nat) : Int), (d ++ out, ())), ())) (by
      simp only [round, f_laws_markText_l4]
      rw [ilt_iff.2 (show (0 : Int) < (k : Int) by omega), cond_true, ← hd, catO_some (by omega), hq])]
    exact h2

def mt (k : Int) : ByteArray := match f_laws_markText (k, ()) with | some r => r.1.1 | none => ⟨#[]⟩

theorem f_laws_markTextVal (x : Int × Unit) (h0 : 0 < x.1) (hk : x.1 ≤ 4611686018427387904) : f_laws_markText x = some ((mt x.1, ()), ()) := by
  obtain ⟨k, ⟨⟩⟩ := x
  dsimp only at h0 hk
  obtain ⟨n, rfl⟩ : ∃ n : Nat, k = (n : Int) := ⟨k.toNat, by omega⟩
  obtain ⟨o, h1, h2⟩ := f_laws_markTextLoop (fun c2 o3 => (catO (⟨#[109]⟩ : ByteArray) o3.1.1 fun v4 => (some ((v4, ()), ())))) 19 n ⟨#[]⟩ (by omega) (by decide) (by omega)
  have h3 : f_laws_markText (((n : Nat) : Int), ()) = some (((⟨#[109]⟩ : ByteArray) ++ o, ()), ()) := by
    unfold f_laws_markText
    dsimp only
    rw [ile_false.2 (by omega), cond_false]
    refine h2.trans ?_
    dsimp only
    rw [catO_some]
    have : (⟨#[109]⟩ : ByteArray).size = 1 := rfl
    have : (⟨#[]⟩ : ByteArray).size = 0 := rfl
    omega
  simp only [mt, h3]

/-! ### Blob -/
def mkBlob (k : Int) : DBlob := (mt k, (k + 1, ()))
def markBlobL : Int → Nat → List DBlob
  | _, 0 => []
  | k, n + 1 => mkBlob k :: markBlobL (k + 2) n
theorem markBlobL_length : ∀ (k : Int) (n : Nat), (markBlobL k n).length = n
  | _, 0 => rfl
  | k, n + 1 => by simp [markBlobL, markBlobL_length (k + 2) n]

theorem f_laws_markBlobSLoop {R : Type} (kk : (Unit × Unit) → ((Int × Unit) × ((List DBlob) × Unit)) → Option R) : ∀ (B A : List DBlob) (k : Int), 0 < k → k + 2 * B.length ≤ 4611686018427387904 → A.length + B.length ≤ 4611686018427387904 →
    loopF (c := f_laws_markBlobS_l2c) (v := f_laws_markBlobS_l2v) (ex := f_laws_markBlobS_l2e) f_laws_markBlobS_l2 R ((), ()) ((k, (((A.length : Nat) : Int), ())), (A ++ B, ())) kk = kk ((), ()) ((k + 2 * B.length, ()), (A ++ markBlobL k B.length, ()))
  | [], A, k, h0, hk, ha => by
    rw [loopF_done (c' := ((), ())) (o := ((k, ()), (A ++ [], ()))) (by simp only [round, f_laws_markBlobS_l2, mid_end, cond_false])]
    simp [markBlobL]
  | y :: B, A, k, h0, hk, ha => by
    simp only [List.length_cons] at hk ha
    have e1 : iadd .i64 k (1 : Int) = k + 1 := iadd_i64 (by omega)
    have e2 : iadd .i64 (k + 1) (1 : Int) = k + 2 := by rw [iadd_i64 (by omega)]; omega
    rw [loopF_more (c' := ((), ())) (v' := ((k + 2, ((((A ++ [mkBlob k]).length : Nat) : Int), ())), ((A ++ [mkBlob k]) ++ B, ()))) (by
      simp only [round, f_laws_markBlobS_l2, mid_lt, cond_true, e1, e2]
      try simp only [mid_getO, Int.toNat_natCast, mid_get, bnd_some, mid_set]
      rw [f_laws_markTextVal _ (by dsimp only; omega) (by dsimp only; omega), bnd_some]
      try simp only [mid_getO, Int.toNat_natCast, mid_get, bnd_some, mid_set]
      rw [mid_next A (mkBlob k) (by omega), ← mid_app]
      rfl)]
    rw [f_laws_markBlobSLoop kk B (A ++ [mkBlob k]) (k + 2) (by omega) (by omega) (by simp; omega)]
    simp only [markBlobL, List.length_cons, List.append_assoc, List.singleton_append]
    rw [show k + 2 + 2 * (B.length : Int) = k + 2 * ((B.length + 1 : Nat) : Int) by omega]

theorem f_laws_markBlobSVal (x : List DBlob × Int × Unit) (h0 : 0 < x.2.1) (hk : x.2.1 + 2 * x.1.length ≤ 4611686018427387904) : f_laws_markBlobS x = some ((x.2.1 + 2 * x.1.length, ()), (markBlobL x.2.1 x.1.length, ())) := by
  unfold f_laws_markBlobS
  exact f_laws_markBlobSLoop (fun _ o => (some ((o.1.1, ()), (o.2.1, ())))) x.1 [] x.2.1 h0 hk (by simp only [List.length_nil]; omega)

theorem f_laws_heldBlobSLoop {R : Type} (kk : (((List DBlob) × Unit) × Unit) → (((Int × Unit) × Unit) ⊕ ((Int × Unit) × Unit)) → Option R) : ∀ (n : Nat) (A : List DBlob) (k : Int), 0 < k → k + 2 * n ≤ 4611686018427387904 → A.length + n ≤ 4611686018427387904 →
    loopF (c := f_laws_heldBlobS_l2c) (v := f_laws_heldBlobS_l2v) (ex := f_laws_heldBlobS_l2e) f_laws_heldBlobS_l2 R ((A ++ markBlobL k n, ()), ()) ((k, (((A.length : Nat) : Int), ())), ()) kk = kk ((A ++ markBlobL k n, ()), ()) (.inr ((k + 2 * n, ()), ()))
  | 0, A, k, h0, hk, ha => by
    simp only [markBlobL]
    rw [loopF_done (c' := ((A ++ [], ()), ())) (o := Sum.inr ((k, ()), ())) (by simp only [round, f_laws_heldBlobS_l2, mid_end, cond_false])]
    simp
  | n + 1, A, k, h0, hk, ha => by
    simp only [markBlobL]
    have e1 : iadd .i64 k (1 : Int) = k + 1 := iadd_i64 (by omega)
    have e2 : iadd .i64 (k + 1) (1 : Int) = k + 2 := by rw [iadd_i64 (by omega)]; omega
    rw [loopF_more (c' := ((A ++ mkBlob k :: markBlobL (k + 2) n, ()), ())) (v' := ((k + 2, ((((A ++ [mkBlob k]).length : Nat) : Int), ())), ())) (by
      simp only [round, f_laws_heldBlobS_l2, mid_lt, cond_true, mid_getO, e1, e2]
      try simp only [mkBlob, seq_self, Bool.not_true, cond_false, ieq_iff.2]
      rw [f_laws_markTextVal _ (by dsimp only; omega) (by dsimp only; omega), bnd_some]
      try simp only [mkBlob, seq_self, Bool.not_true, cond_false, ieq_iff.2]
      rw [mid_next A (mkBlob k) (by omega)]
      rfl)]
    rw [mid_app, f_laws_heldBlobSLoop kk n (A ++ [mkBlob k]) (k + 2) (by omega) (by omega) (by simp; omega)]
    rw [show k + 2 + 2 * (n : Int) = k + 2 * ((n + 1 : Nat) : Int) by omega]

theorem f_laws_heldBlobSVal (k : Int) (n : Nat) (h0 : 0 < k) (hk : k + 2 * n ≤ 4611686018427387904) : f_laws_heldBlobS (markBlobL k n, (k, ())) = some ((k + 2 * n, ()), ()) := by
  unfold f_laws_heldBlobS
  have := f_laws_heldBlobSLoop (fun _ o => (match o with
 | .inl y => (some ((y.1.1, ()), ()))
 | .inr z => (some ((z.1.1, ()), ())))) n [] k h0 hk (by simp only [List.length_nil]; omega)
  exact this

theorem f_laws_eqBlobSame (x : DBlob × DBlob × Unit) (h : x.1 = x.2.1) : f_laws_eqBlob x = some ((true, ()), ()) := by
  obtain ⟨a, b, ⟨⟩⟩ := x
  dsimp only at h
  subst h
  unfold f_laws_eqBlob
  simp only [seq_self, ieq_iff.2, Bool.not_true, cond_false]

theorem f_laws_eqBlobSLoop {R : Type} (l : List DBlob) (hl : l.length ≤ 4611686018427387904) (kk : (((List DBlob) × (List DBlob) × Unit) × Unit) → (((Bool × Unit) × Unit) ⊕ (Unit × Unit)) → Option R) : ∀ (B A : List DBlob), A ++ B = l →
    loopF (c := f_laws_eqBlobS_l4c) (v := f_laws_eqBlobS_l4v) (ex := f_laws_eqBlobS_l4e) f_laws_eqBlobS_l4 R ((l, (l, ())), ()) ((((A.length : Nat) : Int), ()), ()) kk = kk ((l, (l, ())), ()) (.inr ((), ()))
  | [], A, h => by
    subst h
    rw [loopF_done (c' := ((A ++ [], (A ++ [], ())), ())) (o := Sum.inr ((), ())) (by simp only [round, f_laws_eqBlobS_l4, mid_end, cond_false])]
  | y :: B, A, h => by
    have hA : A.length + 1 ≤ l.length := by rw [← h]; simp
    rw [loopF_more (c' := ((l, (l, ())), ())) (v' := (((((A ++ [y]).length : Nat) : Int), ()), ())) (by
      rw [← h]
      simp only [round, f_laws_eqBlobS_l4, mid_lt, cond_true, mid_getO]
      rw [f_laws_eqBlobSame _ rfl, bnd_some]
      simp only [Bool.not_true, cond_false]
      rw [mid_next A y (by omega)])]
    exact f_laws_eqBlobSLoop l hl kk B (A ++ [y]) (by simp [← h])

theorem f_laws_eqBlobSSame (x : List DBlob × List DBlob × Unit) (h : x.1 = x.2.1) (hl : x.1.length ≤ 4611686018427387904) : f_laws_eqBlobS x = some ((true, ()), ()) := by
  obtain ⟨a, b, ⟨⟩⟩ := x
  dsimp only at h hl
  subst h
  unfold f_laws_eqBlobS
  simp only [ieq_iff.2, Bool.not_true, cond_false]
  exact f_laws_eqBlobSLoop a hl (fun _ o => (match o with
 | .inl y => (some ((y.1.1, ()), ()))
 | .inr z => (some ((true, ()), ())))) a [] rfl

/-! ### Name -/
def mkName (k : Int) : DName := (mt k, (k + 1, ()))
def markNameL : Int → Nat → List DName
  | _, 0 => []
  | k, n + 1 => mkName k :: markNameL (k + 2) n
theorem markNameL_length : ∀ (k : Int) (n : Nat), (markNameL k n).length = n
  | _, 0 => rfl
  | k, n + 1 => by simp [markNameL, markNameL_length (k + 2) n]

theorem f_laws_markNameSLoop {R : Type} (kk : (Unit × Unit) → ((Int × Unit) × ((List DName) × Unit)) → Option R) : ∀ (B A : List DName) (k : Int), 0 < k → k + 2 * B.length ≤ 4611686018427387904 → A.length + B.length ≤ 4611686018427387904 →
    loopF (c := f_laws_markNameS_l2c) (v := f_laws_markNameS_l2v) (ex := f_laws_markNameS_l2e) f_laws_markNameS_l2 R ((), ()) ((k, (((A.length : Nat) : Int), ())), (A ++ B, ())) kk = kk ((), ()) ((k + 2 * B.length, ()), (A ++ markNameL k B.length, ()))
  | [], A, k, h0, hk, ha => by
    rw [loopF_done (c' := ((), ())) (o := ((k, ()), (A ++ [], ()))) (by simp only [round, f_laws_markNameS_l2, mid_end, cond_false])]
    simp [markNameL]
  | y :: B, A, k, h0, hk, ha => by
    simp only [List.length_cons] at hk ha
    have e1 : iadd .i64 k (1 : Int) = k + 1 := iadd_i64 (by omega)
    have e2 : iadd .i64 (k + 1) (1 : Int) = k + 2 := by rw [iadd_i64 (by omega)]; omega
    rw [loopF_more (c' := ((), ())) (v' := ((k + 2, ((((A ++ [mkName k]).length : Nat) : Int), ())), ((A ++ [mkName k]) ++ B, ()))) (by
      simp only [round, f_laws_markNameS_l2, mid_lt, cond_true, e1, e2]
      try simp only [mid_getO, Int.toNat_natCast, mid_get, bnd_some, mid_set]
      rw [f_laws_markTextVal _ (by dsimp only; omega) (by dsimp only; omega), bnd_some]
      try simp only [mid_getO, Int.toNat_natCast, mid_get, bnd_some, mid_set]
      rw [mid_next A (mkName k) (by omega), ← mid_app]
      rfl)]
    rw [f_laws_markNameSLoop kk B (A ++ [mkName k]) (k + 2) (by omega) (by omega) (by simp; omega)]
    simp only [markNameL, List.length_cons, List.append_assoc, List.singleton_append]
    rw [show k + 2 + 2 * (B.length : Int) = k + 2 * ((B.length + 1 : Nat) : Int) by omega]

theorem f_laws_markNameSVal (x : List DName × Int × Unit) (h0 : 0 < x.2.1) (hk : x.2.1 + 2 * x.1.length ≤ 4611686018427387904) : f_laws_markNameS x = some ((x.2.1 + 2 * x.1.length, ()), (markNameL x.2.1 x.1.length, ())) := by
  unfold f_laws_markNameS
  exact f_laws_markNameSLoop (fun _ o => (some ((o.1.1, ()), (o.2.1, ())))) x.1 [] x.2.1 h0 hk (by simp only [List.length_nil]; omega)

theorem f_laws_heldNameSLoop {R : Type} (kk : (((List DName) × Unit) × Unit) → (((Int × Unit) × Unit) ⊕ ((Int × Unit) × Unit)) → Option R) : ∀ (n : Nat) (A : List DName) (k : Int), 0 < k → k + 2 * n ≤ 4611686018427387904 → A.length + n ≤ 4611686018427387904 →
    loopF (c := f_laws_heldNameS_l2c) (v := f_laws_heldNameS_l2v) (ex := f_laws_heldNameS_l2e) f_laws_heldNameS_l2 R ((A ++ markNameL k n, ()), ()) ((k, (((A.length : Nat) : Int), ())), ()) kk = kk ((A ++ markNameL k n, ()), ()) (.inr ((k + 2 * n, ()), ()))
  | 0, A, k, h0, hk, ha => by
    simp only [markNameL]
    rw [loopF_done (c' := ((A ++ [], ()), ())) (o := Sum.inr ((k, ()), ())) (by simp only [round, f_laws_heldNameS_l2, mid_end, cond_false])]
    simp
  | n + 1, A, k, h0, hk, ha => by
    simp only [markNameL]
    have e1 : iadd .i64 k (1 : Int) = k + 1 := iadd_i64 (by omega)
    have e2 : iadd .i64 (k + 1) (1 : Int) = k + 2 := by rw [iadd_i64 (by omega)]; omega
    rw [loopF_more (c' := ((A ++ mkName k :: markNameL (k + 2) n, ()), ())) (v' := ((k + 2, ((((A ++ [mkName k]).length : Nat) : Int), ())), ())) (by
      simp only [round, f_laws_heldNameS_l2, mid_lt, cond_true, mid_getO, e1, e2]
      try simp only [mkName, seq_self, Bool.not_true, cond_false, ieq_iff.2]
      rw [f_laws_markTextVal _ (by dsimp only; omega) (by dsimp only; omega), bnd_some]
      try simp only [mkName, seq_self, Bool.not_true, cond_false, ieq_iff.2]
      rw [mid_next A (mkName k) (by omega)]
      rfl)]
    rw [mid_app, f_laws_heldNameSLoop kk n (A ++ [mkName k]) (k + 2) (by omega) (by omega) (by simp; omega)]
    rw [show k + 2 + 2 * (n : Int) = k + 2 * ((n + 1 : Nat) : Int) by omega]

theorem f_laws_heldNameSVal (k : Int) (n : Nat) (h0 : 0 < k) (hk : k + 2 * n ≤ 4611686018427387904) : f_laws_heldNameS (markNameL k n, (k, ())) = some ((k + 2 * n, ()), ()) := by
  unfold f_laws_heldNameS
  have := f_laws_heldNameSLoop (fun _ o => (match o with
 | .inl y => (some ((y.1.1, ()), ()))
 | .inr z => (some ((z.1.1, ()), ())))) n [] k h0 hk (by simp only [List.length_nil]; omega)
  exact this

theorem f_laws_eqNameSame (x : DName × DName × Unit) (h : x.1 = x.2.1) : f_laws_eqName x = some ((true, ()), ()) := by
  obtain ⟨a, b, ⟨⟩⟩ := x
  dsimp only at h
  subst h
  unfold f_laws_eqName
  simp only [seq_self, ieq_iff.2, Bool.not_true, cond_false]

theorem f_laws_eqNameSLoop {R : Type} (l : List DName) (hl : l.length ≤ 4611686018427387904) (kk : (((List DName) × (List DName) × Unit) × Unit) → (((Bool × Unit) × Unit) ⊕ (Unit × Unit)) → Option R) : ∀ (B A : List DName), A ++ B = l →
    loopF (c := f_laws_eqNameS_l4c) (v := f_laws_eqNameS_l4v) (ex := f_laws_eqNameS_l4e) f_laws_eqNameS_l4 R ((l, (l, ())), ()) ((((A.length : Nat) : Int), ()), ()) kk = kk ((l, (l, ())), ()) (.inr ((), ()))
  | [], A, h => by
    subst h
    rw [loopF_done (c' := ((A ++ [], (A ++ [], ())), ())) (o := Sum.inr ((), ())) (by simp only [round, f_laws_eqNameS_l4, mid_end, cond_false])]
  | y :: B, A, h => by
    have hA : A.length + 1 ≤ l.length := by rw [← h]; simp
    rw [loopF_more (c' := ((l, (l, ())), ())) (v' := (((((A ++ [y]).length : Nat) : Int), ()), ())) (by
      rw [← h]
      simp only [round, f_laws_eqNameS_l4, mid_lt, cond_true, mid_getO]
      rw [f_laws_eqNameSame _ rfl, bnd_some]
      simp only [Bool.not_true, cond_false]
      rw [mid_next A y (by omega)])]
    exact f_laws_eqNameSLoop l hl kk B (A ++ [y]) (by simp [← h])

theorem f_laws_eqNameSSame (x : List DName × List DName × Unit) (h : x.1 = x.2.1) (hl : x.1.length ≤ 4611686018427387904) : f_laws_eqNameS x = some ((true, ()), ()) := by
  obtain ⟨a, b, ⟨⟩⟩ := x
  dsimp only at h hl
  subst h
  unfold f_laws_eqNameS
  simp only [ieq_iff.2, Bool.not_true, cond_false]
  exact f_laws_eqNameSLoop a hl (fun _ o => (match o with
 | .inl y => (some ((y.1.1, ()), ()))
 | .inr z => (some ((true, ()), ())))) a [] rfl

end Go.Proofs.YthlnjkcpdkjipaaDoor
