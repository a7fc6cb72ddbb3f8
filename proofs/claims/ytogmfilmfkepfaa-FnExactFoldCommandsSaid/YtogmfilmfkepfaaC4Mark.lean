/- Marks written into answers and found there again; lists compared. (Printed by a program of mine, wip/tools/marks.py.) -/
import Derived.Test.YtogmfilmfkepfaaUMid
import Derived.Test.YtogmfilmfkepfaaR4Fns
set_option linter.all false
noncomputable section
namespace Go.Proofs.Ytogmfilmfkepfaa
open Go Go.Proofs.Ytogmfilmfkepfaa.Ev

/-! ### marks as texts -/
theorem strOf_size1 (n : Int) : (strOf [n]).size = 1 := rfl
theorem f_laws_markTextLoop {R : Type} (kk : (Unit × Unit) → ((ByteArray × Unit) × Unit) → Option R) : ∀ (f k : Nat) (out : ByteArray), k < 10 ^ f → out.size + f ≤ 1000 → k ≤ 4611686018427387904 →
    ∃ o, o.size ≤ out.size + f ∧ loopF (c := f_laws_markText_l4c) (v := f_laws_markText_l4v) (ex := f_laws_markText_l4e) f_laws_markText_l4 R ((), ()) (((k : Int), (out, ())), ()) kk = kk ((), ()) ((o, ()), ())
  | 0, k, out, hk, ho, hb => by
    have : k = 0 := by omega
    subst this
    exact ⟨out, by omega, by rw [loopF_done (c' := ((), ())) (o := ((out, ()), ())) (by rfl)]⟩
  | f + 1, k, out, hk, ho, hb => by
    by_cases h0 : k = 0
    · subst h0
      exact ⟨out, by omega, by rw [loopF_done (c' := ((), ())) (o := ((out, ()), ())) (by rfl)]⟩
    have hq : iquo .i64 (k : Int) (10 : Int) = ((k / 10 : Nat) : Int) := by
      simp only [iquo]
      rw [Int.tdiv_eq_ediv_of_nonneg (by omega), wrap_i64 _ (by omega)]
      omega
    obtain ⟨d, hd⟩ : ∃ d, d = strOf [(IntKind.wrap .u8 (iadd .i64 (48 : Int) (irem .i64 (k : Int) (10 : Int))))] := ⟨_, rfl⟩
    have hds : d.size = 1 := by rw [hd, strOf_size1]
    have hk10 : k / 10 < 10 ^ f := by
      have : 10 ^ (f + 1) = 10 ^ f * 10 := by rw [Nat.pow_succ]
      omega
    obtain ⟨o, h1, h2⟩ := f_laws_markTextLoop kk f (k / 10) (d ++ out) hk10 (by rw [ByteArray.size_append]; omega) (by omega)
    refine ⟨o, by rw [ByteArray.size_append] at h1; omega, ?_⟩
    rw [loopF_more (c' := ((), ())) (v' := ((((k / 10 : Nat) : Int), (d ++ out, ())), ())) (by
      simp only [round, f_laws_markText_l4]
      rw [ilt_iff.2 (show (0 : Int) < (k : Int) by omega), cond_true, ← hd, catO_some (by omega), hq])]
    exact h2

def mt (k : Int) : ByteArray := match f_laws_markText (k, ()) with | some r => r.1.1 | none => ⟨#[]⟩

theorem f_laws_markTextVal (x : Int × Unit) (h0 : 0 < x.1) (hk : x.1 ≤ 4611686018427387904) : f_laws_markText x = some ((mt x.1, ()), ()) := by
  obtain ⟨k, ⟨⟩⟩ := x
  dsimp only at h0 hk
  obtain ⟨n, rfl⟩ : ∃ n : Nat, k = (n : Int) := ⟨k.toNat, by omega⟩
  obtain ⟨o, h1, h2⟩ := f_laws_markTextLoop (fun c2 o3 => (catO (⟨#[109]⟩ : ByteArray) o3.1.1 fun v4 => (some ((v4, ()), ())))) 19 n ⟨#[]⟩ (by omega) (by decide) (by omega)
  have h3 : f_laws_markText (((n : Nat) : Int), ()) = some (((⟨#[109]⟩ : ByteArray) ++ o, ()), ()) := by
    unfold f_laws_markText
    dsimp only
    rw [ile_false.2 (by omega), cond_false]
    refine h2.trans ?_
    dsimp only
    rw [catO_some]
    have : (⟨#[109]⟩ : ByteArray).size = 1 := rfl
    have : (⟨#[]⟩ : ByteArray).size = 0 := rfl
    omega
  simp only [mt, h3]

/-! ### Command -/
def mkCommand (k : Int) : DCommand := (k, (k + 1, (k + 2, (mt (k + 3), (mt (k + 4), (mt (k + 5), ()))))))
def markCommandL : Int → Nat → List DCommand
  | _, 0 => []
  | k, n + 1 => mkCommand k :: markCommandL (k + 6) n
theorem markCommandL_length : ∀ (k : Int) (n : Nat), (markCommandL k n).length = n
  | _, 0 => rfl
  | k, n + 1 => by simp [markCommandL, markCommandL_length (k + 6) n]

theorem f_laws_markCommandSLoop {R : Type} (kk : (Unit × Unit) → ((Int × Unit) × ((List DCommand) × Unit)) → Option R) : ∀ (B A : List DCommand) (k : Int), 0 < k → k + 6 * B.length ≤ 4611686018427387904 → A.length + B.length ≤ 4611686018427387904 →
    loopF (c := f_laws_markCommandS_l2c) (v := f_laws_markCommandS_l2v) (ex := f_laws_markCommandS_l2e) f_laws_markCommandS_l2 R ((), ()) ((k, (((A.length : Nat) : Int), ())), (A ++ B, ())) kk = kk ((), ()) ((k + 6 * B.length, ()), (A ++ markCommandL k B.length, ()))
  | [], A, k, h0, hk, ha => by
    rw [loopF_done (c' := ((), ())) (o := ((k, ()), (A ++ [], ()))) (by simp only [round, f_laws_markCommandS_l2, mid_end, cond_false])]
    simp [markCommandL]
  | y :: B, A, k, h0, hk, ha => by
    simp only [List.length_cons] at hk ha
    have e1 : iadd .i64 k (1 : Int) = k + 1 := iadd_i64 (by omega)
    have e2 : iadd .i64 (k + 1) (1 : Int) = k + 2 := by rw [iadd_i64 (by omega)]; omega
    have e3 : iadd .i64 (k + 2) (1 : Int) = k + 3 := by rw [iadd_i64 (by omega)]; omega
    have e4 : iadd .i64 (k + 3) (1 : Int) = k + 4 := by rw [iadd_i64 (by omega)]; omega
    have e5 : iadd .i64 (k + 4) (1 : Int) = k + 5 := by rw [iadd_i64 (by omega)]; omega
    have e6 : iadd .i64 (k + 5) (1 : Int) = k + 6 := by rw [iadd_i64 (by omega)]; omega
    rw [loopF_more (c' := ((), ())) (v' := ((k + 6, ((((A ++ [mkCommand k]).length : Nat) : Int), ())), ((A ++ [mkCommand k]) ++ B, ()))) (by
      simp only [round, f_laws_markCommandS_l2, mid_lt, cond_true, e1, e2, e3, e4, e5, e6]
      try simp only [mid_getO, Int.toNat_natCast, mid_get, bnd_some, mid_set]
      rw [f_laws_markTextVal _ (by dsimp only; omega) (by dsimp only; omega), bnd_some]
      try simp only [mid_getO, Int.toNat_natCast, mid_get, bnd_some, mid_set]
      rw [f_laws_markTextVal _ (by dsimp only; omega) (by dsimp only; omega), bnd_some]
      try simp only [mid_getO, Int.toNat_natCast, mid_get, bnd_some, mid_set]
      rw [f_laws_markTextVal _ (by dsimp only; omega) (by dsimp only; omega), bnd_some]
      try simp only [mid_getO, Int.toNat_natCast, mid_get, bnd_some, mid_set]
      rw [mid_next A (mkCommand k) (by omega), ← mid_app]
      rfl)]
    rw [f_laws_markCommandSLoop kk B (A ++ [mkCommand k]) (k + 6) (by omega) (by omega) (by simp; omega)]
    simp only [markCommandL, List.length_cons, List.append_assoc, List.singleton_append]
    rw [show k + 6 + 6 * (B.length : Int) = k + 6 * ((B.length + 1 : Nat) : Int) by omega]

theorem f_laws_markCommandSVal (x : List DCommand × Int × Unit) (h0 : 0 < x.2.1) (hk : x.2.1 + 6 * x.1.length ≤ 4611686018427387904) : f_laws_markCommandS x = some ((x.2.1 + 6 * x.1.length, ()), (markCommandL x.2.1 x.1.length, ())) := by
  unfold f_laws_markCommandS
  exact f_laws_markCommandSLoop (fun _ o => (some ((o.1.1, ()), (o.2.1, ())))) x.1 [] x.2.1 h0 hk (by simp only [List.length_nil]; omega)

theorem f_laws_eqCommandSame (x : DCommand × DCommand × Unit) (h : x.1 = x.2.1) : f_laws_eqCommand x = some ((true, ()), ()) := by
  obtain ⟨a, b, ⟨⟩⟩ := x
  dsimp only at h
  subst h
  unfold f_laws_eqCommand
  simp only [seq_self, ieq_iff.2, Bool.not_true, cond_false]

theorem f_laws_eqCommandSLoop {R : Type} (l : List DCommand) (hl : l.length ≤ 4611686018427387904) (kk : (((List DCommand) × (List DCommand) × Unit) × Unit) → (((Bool × Unit) × Unit) ⊕ (Unit × Unit)) → Option R) : ∀ (B A : List DCommand), A ++ B = l →
    loopF (c := f_laws_eqCommandS_l4c) (v := f_laws_eqCommandS_l4v) (ex := f_laws_eqCommandS_l4e) f_laws_eqCommandS_l4 R ((l, (l, ())), ()) ((((A.length : Nat) : Int), ()), ()) kk = kk ((l, (l, ())), ()) (.inr ((), ()))
  | [], A, h => by
    subst h
    rw [loopF_done (c' := ((A ++ [], (A ++ [], ())), ())) (o := Sum.inr ((), ())) (by simp only [round, f_laws_eqCommandS_l4, mid_end, cond_false])]
  | y :: B, A, h => by
    have hA : A.length + 1 ≤ l.length := by rw [← h]; simp
    rw [loopF_more (c' := ((l, (l, ())), ())) (v' := (((((A ++ [y]).length : Nat) : Int), ()), ())) (by
      rw [← h]
      simp only [round, f_laws_eqCommandS_l4, mid_lt, cond_true, mid_getO]
      rw [f_laws_eqCommandSame _ rfl, bnd_some]
      simp only [Bool.not_true, cond_false]
      rw [mid_next A y (by omega)])]
    exact f_laws_eqCommandSLoop l hl kk B (A ++ [y]) (by simp [← h])

theorem f_laws_eqCommandSSame (x : List DCommand × List DCommand × Unit) (h : x.1 = x.2.1) (hl : x.1.length ≤ 4611686018427387904) : f_laws_eqCommandS x = some ((true, ()), ()) := by
  obtain ⟨a, b, ⟨⟩⟩ := x
  dsimp only at h hl
  subst h
  unfold f_laws_eqCommandS
  simp only [ieq_iff.2, Bool.not_true, cond_false]
  exact f_laws_eqCommandSLoop a hl (fun _ o => (match o with
 | .inl y => (some ((y.1.1, ()), ()))
 | .inr z => (some ((true, ()), ())))) a [] rfl

/-! ### Pair -/
def mkPair (k : Int) : DPair := (mt k, (mt (k + 1), ()))
def markPairL : Int → Nat → List DPair
  | _, 0 => []
  | k, n + 1 => mkPair k :: markPairL (k + 2) n
theorem markPairL_length : ∀ (k : Int) (n : Nat), (markPairL k n).length = n
  | _, 0 => rfl
  | k, n + 1 => by simp [markPairL, markPairL_length (k + 2) n]

theorem f_laws_markPairSLoop {R : Type} (kk : (Unit × Unit) → ((Int × Unit) × ((List DPair) × Unit)) → Option R) : ∀ (B A : List DPair) (k : Int), 0 < k → k + 2 * B.length ≤ 4611686018427387904 → A.length + B.length ≤ 4611686018427387904 →
    loopF (c := f_laws_markPairS_l2c) (v := f_laws_markPairS_l2v) (ex := f_laws_markPairS_l2e) f_laws_markPairS_l2 R ((), ()) ((k, (((A.length : Nat) : Int), ())), (A ++ B, ())) kk = kk ((), ()) ((k + 2 * B.length, ()), (A ++ markPairL k B.length, ()))
  | [], A, k, h0, hk, ha => by
    rw [loopF_done (c' := ((), ())) (o := ((k, ()), (A ++ [], ()))) (by simp only [round, f_laws_markPairS_l2, mid_end, cond_false])]
    simp [markPairL]
  | y :: B, A, k, h0, hk, ha => by
    simp only [List.length_cons] at hk ha
    have e1 : iadd .i64 k (1 : Int) = k + 1 := iadd_i64 (by omega)
    have e2 : iadd .i64 (k + 1) (1 : Int) = k + 2 := by rw [iadd_i64 (by omega)]; omega
    rw [loopF_more (c' := ((), ())) (v' := ((k + 2, ((((A ++ [mkPair k]).length : Nat) : Int), ())), ((A ++ [mkPair k]) ++ B, ()))) (by
      simp only [round, f_laws_markPairS_l2, mid_lt, cond_true, e1, e2]
      try simp only [mid_getO, Int.toNat_natCast, mid_get, bnd_some, mid_set]
      rw [f_laws_markTextVal _ (by dsimp only; omega) (by dsimp only; omega), bnd_some]
      try simp only [mid_getO, Int.toNat_natCast, mid_get, bnd_some, mid_set]
      rw [f_laws_markTextVal _ (by dsimp only; omega) (by dsimp only; omega), bnd_some]
      try simp only [mid_getO, Int.toNat_natCast, mid_get, bnd_some, mid_set]
      rw [mid_next A (mkPair k) (by omega), ← mid_app]
      rfl)]
    rw [f_laws_markPairSLoop kk B (A ++ [mkPair k]) (k + 2) (by omega) (by omega) (by simp; omega)]
    simp only [markPairL, List.length_cons, List.append_assoc, List.singleton_append]
    rw [show k + 2 + 2 * (B.length : Int) = k + 2 * ((B.length + 1 : Nat) : Int) by omega]

theorem f_laws_markPairSVal (x : List DPair × Int × Unit) (h0 : 0 < x.2.1) (hk : x.2.1 + 2 * x.1.length ≤ 4611686018427387904) : f_laws_markPairS x = some ((x.2.1 + 2 * x.1.length, ()), (markPairL x.2.1 x.1.length, ())) := by
  unfold f_laws_markPairS
  exact f_laws_markPairSLoop (fun _ o => (some ((o.1.1, ()), (o.2.1, ())))) x.1 [] x.2.1 h0 hk (by simp only [List.length_nil]; omega)

theorem f_laws_heldPairSLoop {R : Type} (kk : (((List DPair) × Unit) × Unit) → (((Int × Unit) × Unit) ⊕ ((Int × Unit) × Unit)) → Option R) : ∀ (n : Nat) (A : List DPair) (k : Int), 0 < k → k + 2 * n ≤ 4611686018427387904 → A.length + n ≤ 4611686018427387904 →
    loopF (c := f_laws_heldPairS_l2c) (v := f_laws_heldPairS_l2v) (ex := f_laws_heldPairS_l2e) f_laws_heldPairS_l2 R ((A ++ markPairL k n, ()), ()) ((k, (((A.length : Nat) : Int), ())), ()) kk = kk ((A ++ markPairL k n, ()), ()) (.inr ((k + 2 * n, ()), ()))
  | 0, A, k, h0, hk, ha => by
    simp only [markPairL]
    rw [loopF_done (c' := ((A ++ [], ()), ())) (o := Sum.inr ((k, ()), ())) (by simp only [round, f_laws_heldPairS_l2, mid_end, cond_false])]
    simp
  | n + 1, A, k, h0, hk, ha => by
    simp only [markPairL]
    have e1 : iadd .i64 k (1 : Int) = k + 1 := iadd_i64 (by omega)
    have e2 : iadd .i64 (k + 1) (1 : Int) = k + 2 := by rw [iadd_i64 (by omega)]; omega
    rw [loopF_more (c' := ((A ++ mkPair k :: markPairL (k + 2) n, ()), ())) (v' := ((k + 2, ((((A ++ [mkPair k]).length : Nat) : Int), ())), ())) (by
      simp only [round, f_laws_heldPairS_l2, mid_lt, cond_true, mid_getO, e1, e2]
      try simp only [mkPair, seq_self, Bool.not_true, cond_false, ieq_iff.2]
      rw [f_laws_markTextVal _ (by dsimp only; omega) (by dsimp only; omega), bnd_some]
      try simp only [mkPair, seq_self, Bool.not_true, cond_false, ieq_iff.2]
      rw [f_laws_markTextVal _ (by dsimp only; omega) (by dsimp only; omega), bnd_some]
      try simp only [mkPair, seq_self, Bool.not_true, cond_false, ieq_iff.2]
      rw [mid_next A (mkPair k) (by omega)]
      rfl)]
    rw [mid_app, f_laws_heldPairSLoop kk n (A ++ [mkPair k]) (k + 2) (by omega) (by omega) (by simp; omega)]
    rw [show k + 2 + 2 * (n : Int) = k + 2 * ((n + 1 : Nat) : Int) by omega]

theorem f_laws_heldPairSVal (k : Int) (n : Nat) (h0 : 0 < k) (hk : k + 2 * n ≤ 4611686018427387904) : f_laws_heldPairS (markPairL k n, (k, ())) = some ((k + 2 * n, ()), ()) := by
  unfold f_laws_heldPairS
  have := f_laws_heldPairSLoop (fun _ o => (match o with
 | .inl y => (some ((y.1.1, ()), ()))
 | .inr z => (some ((z.1.1, ()), ())))) n [] k h0 hk (by simp only [List.length_nil]; omega)
  exact this

theorem f_laws_eqPairSame (x : DPair × DPair × Unit) (h : x.1 = x.2.1) : f_laws_eqPair x = some ((true, ()), ()) := by
  obtain ⟨a, b, ⟨⟩⟩ := x
  dsimp only at h
  subst h
  unfold f_laws_eqPair
  simp only [seq_self, ieq_iff.2, Bool.not_true, cond_false]

theorem f_laws_eqPairSLoop {R : Type} (l : List DPair) (hl : l.length ≤ 4611686018427387904) (kk : (((List DPair) × (List DPair) × Unit) × Unit) → (((Bool × Unit) × Unit) ⊕ (Unit × Unit)) → Option R) : ∀ (B A : List DPair), A ++ B = l →
    loopF (c := f_laws_eqPairS_l4c) (v := f_laws_eqPairS_l4v) (ex := f_laws_eqPairS_l4e) f_laws_eqPairS_l4 R ((l, (l, ())), ()) ((((A.length : Nat) : Int), ()), ()) kk = kk ((l, (l, ())), ()) (.inr ((), ()))
  | [], A, h => by
    subst h
    rw [loopF_done (c' := ((A ++ [], (A ++ [], ())), ())) (o := Sum.inr ((), ())) (by simp only [round, f_laws_eqPairS_l4, mid_end, cond_false])]
  | y :: B, A, h => by
    have hA : A.length + 1 ≤ l.length := by rw [← h]; simp
    rw [loopF_more (c' := ((l, (l, ())), ())) (v' := (((((A ++ [y]).length : Nat) : Int), ()), ())) (by
      rw [← h]
      simp only [round, f_laws_eqPairS_l4, mid_lt, cond_true, mid_getO]
      rw [f_laws_eqPairSame _ rfl, bnd_some]
      simp only [Bool.not_true, cond_false]
      rw [mid_next A y (by omega)])]
    exact f_laws_eqPairSLoop l hl kk B (A ++ [y]) (by simp [← h])

theorem f_laws_eqPairSSame (x : List DPair × List DPair × Unit) (h : x.1 = x.2.1) (hl : x.1.length ≤ 4611686018427387904) : f_laws_eqPairS x = some ((true, ()), ()) := by
  obtain ⟨a, b, ⟨⟩⟩ := x
  dsimp only at h hl
  subst h
  unfold f_laws_eqPairS
  simp only [ieq_iff.2, Bool.not_true, cond_false]
  exact f_laws_eqPairSLoop a hl (fun _ o => (match o with
 | .inl y => (some ((y.1.1, ()), ()))
 | .inr z => (some ((true, ()), ())))) a [] rfl

/-! ### Reply -/
def mkReply (k : Int) : DReply := (k, (mt (k + 1), ()))
def markReplyL : Int → Nat → List DReply
  | _, 0 => []
  | k, n + 1 => mkReply k :: markReplyL (k + 2) n
theorem markReplyL_length : ∀ (k : Int) (n : Nat), (markReplyL k n).length = n
  | _, 0 => rfl
  | k, n + 1 => by simp [markReplyL, markReplyL_length (k + 2) n]

theorem f_laws_markReplySLoop {R : Type} (kk : (Unit × Unit) → ((Int × Unit) × ((List DReply) × Unit)) → Option R) : ∀ (B A : List DReply) (k : Int), 0 < k → k + 2 * B.length ≤ 4611686018427387904 → A.length + B.length ≤ 4611686018427387904 →
    loopF (c := f_laws_markReplyS_l2c) (v := f_laws_markReplyS_l2v) (ex := f_laws_markReplyS_l2e) f_laws_markReplyS_l2 R ((), ()) ((k, (((A.length : Nat) : Int), ())), (A ++ B, ())) kk = kk ((), ()) ((k + 2 * B.length, ()), (A ++ markReplyL k B.length, ()))
  | [], A, k, h0, hk, ha => by
    rw [loopF_done (c' := ((), ())) (o := ((k, ()), (A ++ [], ()))) (by simp only [round, f_laws_markReplyS_l2, mid_end, cond_false])]
    simp [markReplyL]
  | y :: B, A, k, h0, hk, ha => by
    simp only [List.length_cons] at hk ha
    have e1 : iadd .i64 k (1 : Int) = k + 1 := iadd_i64 (by omega)
    have e2 : iadd .i64 (k + 1) (1 : Int) = k + 2 := by rw [iadd_i64 (by omega)]; omega
    rw [loopF_more (c' := ((), ())) (v' := ((k + 2, ((((A ++ [mkReply k]).length : Nat) : Int), ())), ((A ++ [mkReply k]) ++ B, ()))) (by
      simp only [round, f_laws_markReplyS_l2, mid_lt, cond_true, e1, e2]
      try simp only [mid_getO, Int.toNat_natCast, mid_get, bnd_some, mid_set]
      rw [f_laws_markTextVal _ (by dsimp only; omega) (by dsimp only; omega), bnd_some]
      try simp only [mid_getO, Int.toNat_natCast, mid_get, bnd_some, mid_set]
      rw [mid_next A (mkReply k) (by omega), ← mid_app]
      rfl)]
    rw [f_laws_markReplySLoop kk B (A ++ [mkReply k]) (k + 2) (by omega) (by omega) (by simp; omega)]
    simp only [markReplyL, List.length_cons, List.append_assoc, List.singleton_append]
    rw [show k + 2 + 2 * (B.length : Int) = k + 2 * ((B.length + 1 : Nat) : Int) by omega]

theorem f_laws_markReplySVal (x : List DReply × Int × Unit) (h0 : 0 < x.2.1) (hk : x.2.1 + 2 * x.1.length ≤ 4611686018427387904) : f_laws_markReplyS x = some ((x.2.1 + 2 * x.1.length, ()), (markReplyL x.2.1 x.1.length, ())) := by
  unfold f_laws_markReplyS
  exact f_laws_markReplySLoop (fun _ o => (some ((o.1.1, ()), (o.2.1, ())))) x.1 [] x.2.1 h0 hk (by simp only [List.length_nil]; omega)

theorem f_laws_heldReplySLoop {R : Type} (kk : (((List DReply) × Unit) × Unit) → (((Int × Unit) × Unit) ⊕ ((Int × Unit) × Unit)) → Option R) : ∀ (n : Nat) (A : List DReply) (k : Int), 0 < k → k + 2 * n ≤ 4611686018427387904 → A.length + n ≤ 4611686018427387904 →
    loopF (c := f_laws_heldReplyS_l2c) (v := f_laws_heldReplyS_l2v) (ex := f_laws_heldReplyS_l2e) f_laws_heldReplyS_l2 R ((A ++ markReplyL k n, ()), ()) ((k, (((A.length : Nat) : Int), ())), ()) kk = kk ((A ++ markReplyL k n, ()), ()) (.inr ((k + 2 * n, ()), ()))
  | 0, A, k, h0, hk, ha => by
    simp only [markReplyL]
    rw [loopF_done (c' := ((A ++ [], ()), ())) (o := Sum.inr ((k, ()), ())) (by simp only [round, f_laws_heldReplyS_l2, mid_end, cond_false])]
    simp
  | n + 1, A, k, h0, hk, ha => by
    simp only [markReplyL]
    have e1 : iadd .i64 k (1 : Int) = k + 1 := iadd_i64 (by omega)
    have e2 : iadd .i64 (k + 1) (1 : Int) = k + 2 := by rw [iadd_i64 (by omega)]; omega
    rw [loopF_more (c' := ((A ++ mkReply k :: markReplyL (k + 2) n, ()), ())) (v' := ((k + 2, ((((A ++ [mkReply k]).length : Nat) : Int), ())), ())) (by
      simp only [round, f_laws_heldReplyS_l2, mid_lt, cond_true, mid_getO, e1, e2]
      try simp only [mkReply, seq_self, Bool.not_true, cond_false, ieq_iff.2]
      rw [f_laws_markTextVal _ (by dsimp only; omega) (by dsimp only; omega), bnd_some]
      try simp only [mkReply, seq_self, Bool.not_true, cond_false, ieq_iff.2]
      rw [mid_next A (mkReply k) (by omega)]
      rfl)]
    rw [mid_app, f_laws_heldReplySLoop kk n (A ++ [mkReply k]) (k + 2) (by omega) (by omega) (by simp; omega)]
    rw [show k + 2 + 2 * (n : Int) = k + 2 * ((n + 1 : Nat) : Int) by omega]

theorem f_laws_heldReplySVal (k : Int) (n : Nat) (h0 : 0 < k) (hk : k + 2 * n ≤ 4611686018427387904) : f_laws_heldReplyS (markReplyL k n, (k, ())) = some ((k + 2 * n, ()), ()) := by
  unfold f_laws_heldReplyS
  have := f_laws_heldReplySLoop (fun _ o => (match o with
 | .inl y => (some ((y.1.1, ()), ()))
 | .inr z => (some ((z.1.1, ()), ())))) n [] k h0 hk (by simp only [List.length_nil]; omega)
  exact this

theorem f_laws_eqReplySame (x : DReply × DReply × Unit) (h : x.1 = x.2.1) : f_laws_eqReply x = some ((true, ()), ()) := by
  obtain ⟨a, b, ⟨⟩⟩ := x
  dsimp only at h
  subst h
  unfold f_laws_eqReply
  simp only [seq_self, ieq_iff.2, Bool.not_true, cond_false]

theorem f_laws_eqReplySLoop {R : Type} (l : List DReply) (hl : l.length ≤ 4611686018427387904) (kk : (((List DReply) × (List DReply) × Unit) × Unit) → (((Bool × Unit) × Unit) ⊕ (Unit × Unit)) → Option R) : ∀ (B A : List DReply), A ++ B = l →
    loopF (c := f_laws_eqReplyS_l4c) (v := f_laws_eqReplyS_l4v) (ex := f_laws_eqReplyS_l4e) f_laws_eqReplyS_l4 R ((l, (l, ())), ()) ((((A.length : Nat) : Int), ()), ()) kk = kk ((l, (l, ())), ()) (.inr ((), ()))
  | [], A, h => by
    subst h
    rw [loopF_done (c' := ((A ++ [], (A ++ [], ())), ())) (o := Sum.inr ((), ())) (by simp only [round, f_laws_eqReplyS_l4, mid_end, cond_false])]
  | y :: B, A, h => by
    have hA : A.length + 1 ≤ l.length := by rw [← h]; simp
    rw [loopF_more (c' := ((l, (l, ())), ())) (v' := (((((A ++ [y]).length : Nat) : Int), ()), ())) (by
      rw [← h]
      simp only [round, f_laws_eqReplyS_l4, mid_lt, cond_true, mid_getO]
      rw [f_laws_eqReplySame _ rfl, bnd_some]
      simp only [Bool.not_true, cond_false]
      rw [mid_next A y (by omega)])]
    exact f_laws_eqReplySLoop l hl kk B (A ++ [y]) (by simp [← h])

theorem f_laws_eqReplySSame (x : List DReply × List DReply × Unit) (h : x.1 = x.2.1) (hl : x.1.length ≤ 4611686018427387904) : f_laws_eqReplyS x = some ((true, ()), ()) := by
  obtain ⟨a, b, ⟨⟩⟩ := x
  dsimp only at h hl
  subst h
  unfold f_laws_eqReplyS
  simp only [ieq_iff.2, Bool.not_true, cond_false]
  exact f_laws_eqReplySLoop a hl (fun _ o => (match o with
 | .inl y => (some ((y.1.1, ()), ()))
 | .inr z => (some ((true, ()), ())))) a [] rfl

/-! ### Session -/
def mkSession (k : Int) : DSession := (k, (k + 1, ((k + 2, (mt (k + 3), ())), ())))
def markSessionL : Int → Nat → List DSession
  | _, 0 => []
  | k, n + 1 => mkSession k :: markSessionL (k + 4) n
theorem markSessionL_length : ∀ (k : Int) (n : Nat), (markSessionL k n).length = n
  | _, 0 => rfl
  | k, n + 1 => by simp [markSessionL, markSessionL_length (k + 4) n]

theorem f_laws_markSessionSLoop {R : Type} (kk : (Unit × Unit) → ((Int × Unit) × ((List DSession) × Unit)) → Option R) : ∀ (B A : List DSession) (k : Int), 0 < k → k + 4 * B.length ≤ 4611686018427387904 → A.length + B.length ≤ 4611686018427387904 →
    loopF (c := f_laws_markSessionS_l2c) (v := f_laws_markSessionS_l2v) (ex := f_laws_markSessionS_l2e) f_laws_markSessionS_l2 R ((), ()) ((k, (((A.length : Nat) : Int), ())), (A ++ B, ())) kk = kk ((), ()) ((k + 4 * B.length, ()), (A ++ markSessionL k B.length, ()))
  | [], A, k, h0, hk, ha => by
    rw [loopF_done (c' := ((), ())) (o := ((k, ()), (A ++ [], ()))) (by simp only [round, f_laws_markSessionS_l2, mid_end, cond_false])]
    simp [markSessionL]
  | y :: B, A, k, h0, hk, ha => by
    simp only [List.length_cons] at hk ha
    have e1 : iadd .i64 k (1 : Int) = k + 1 := iadd_i64 (by omega)
    have e2 : iadd .i64 (k + 1) (1 : Int) = k + 2 := by rw [iadd_i64 (by omega)]; omega
    have e3 : iadd .i64 (k + 2) (1 : Int) = k + 3 := by rw [iadd_i64 (by omega)]; omega
    have e4 : iadd .i64 (k + 3) (1 : Int) = k + 4 := by rw [iadd_i64 (by omega)]; omega
    rw [loopF_more (c' := ((), ())) (v' := ((k + 4, ((((A ++ [mkSession k]).length : Nat) : Int), ())), ((A ++ [mkSession k]) ++ B, ()))) (by
      simp only [round, f_laws_markSessionS_l2, mid_lt, cond_true, e1, e2, e3, e4]
      try simp only [mid_getO, Int.toNat_natCast, mid_get, bnd_some, mid_set]
      rw [f_laws_markTextVal _ (by dsimp only; omega) (by dsimp only; omega), bnd_some]
      try simp only [mid_getO, Int.toNat_natCast, mid_get, bnd_some, mid_set]
      rw [mid_next A (mkSession k) (by omega), ← mid_app]
      rfl)]
    rw [f_laws_markSessionSLoop kk B (A ++ [mkSession k]) (k + 4) (by omega) (by omega) (by simp; omega)]
    simp only [markSessionL, List.length_cons, List.append_assoc, List.singleton_append]
    rw [show k + 4 + 4 * (B.length : Int) = k + 4 * ((B.length + 1 : Nat) : Int) by omega]

theorem f_laws_markSessionSVal (x : List DSession × Int × Unit) (h0 : 0 < x.2.1) (hk : x.2.1 + 4 * x.1.length ≤ 4611686018427387904) : f_laws_markSessionS x = some ((x.2.1 + 4 * x.1.length, ()), (markSessionL x.2.1 x.1.length, ())) := by
  unfold f_laws_markSessionS
  exact f_laws_markSessionSLoop (fun _ o => (some ((o.1.1, ()), (o.2.1, ())))) x.1 [] x.2.1 h0 hk (by simp only [List.length_nil]; omega)

theorem f_laws_heldSessionSLoop {R : Type} (kk : (((List DSession) × Unit) × Unit) → (((Int × Unit) × Unit) ⊕ ((Int × Unit) × Unit)) → Option R) : ∀ (n : Nat) (A : List DSession) (k : Int), 0 < k → k + 4 * n ≤ 4611686018427387904 → A.length + n ≤ 4611686018427387904 →
    loopF (c := f_laws_heldSessionS_l2c) (v := f_laws_heldSessionS_l2v) (ex := f_laws_heldSessionS_l2e) f_laws_heldSessionS_l2 R ((A ++ markSessionL k n, ()), ()) ((k, (((A.length : Nat) : Int), ())), ()) kk = kk ((A ++ markSessionL k n, ()), ()) (.inr ((k + 4 * n, ()), ()))
  | 0, A, k, h0, hk, ha => by
    simp only [markSessionL]
    rw [loopF_done (c' := ((A ++ [], ()), ())) (o := Sum.inr ((k, ()), ())) (by simp only [round, f_laws_heldSessionS_l2, mid_end, cond_false])]
    simp
  | n + 1, A, k, h0, hk, ha => by
    simp only [markSessionL]
    have e1 : iadd .i64 k (1 : Int) = k + 1 := iadd_i64 (by omega)
    have e2 : iadd .i64 (k + 1) (1 : Int) = k + 2 := by rw [iadd_i64 (by omega)]; omega
    have e3 : iadd .i64 (k + 2) (1 : Int) = k + 3 := by rw [iadd_i64 (by omega)]; omega
    have e4 : iadd .i64 (k + 3) (1 : Int) = k + 4 := by rw [iadd_i64 (by omega)]; omega
    rw [loopF_more (c' := ((A ++ mkSession k :: markSessionL (k + 4) n, ()), ())) (v' := ((k + 4, ((((A ++ [mkSession k]).length : Nat) : Int), ())), ())) (by
      simp only [round, f_laws_heldSessionS_l2, mid_lt, cond_true, mid_getO, e1, e2, e3, e4]
      try simp only [mkSession, seq_self, Bool.not_true, cond_false, ieq_iff.2]
      rw [f_laws_markTextVal _ (by dsimp only; omega) (by dsimp only; omega), bnd_some]
      try simp only [mkSession, seq_self, Bool.not_true, cond_false, ieq_iff.2]
      rw [mid_next A (mkSession k) (by omega)]
      rfl)]
    rw [mid_app, f_laws_heldSessionSLoop kk n (A ++ [mkSession k]) (k + 4) (by omega) (by omega) (by simp; omega)]
    rw [show k + 4 + 4 * (n : Int) = k + 4 * ((n + 1 : Nat) : Int) by omega]

theorem f_laws_heldSessionSVal (k : Int) (n : Nat) (h0 : 0 < k) (hk : k + 4 * n ≤ 4611686018427387904) : f_laws_heldSessionS (markSessionL k n, (k, ())) = some ((k + 4 * n, ()), ()) := by
  unfold f_laws_heldSessionS
  have := f_laws_heldSessionSLoop (fun _ o => (match o with
 | .inl y => (some ((y.1.1, ()), ()))
 | .inr z => (some ((z.1.1, ()), ())))) n [] k h0 hk (by simp only [List.length_nil]; omega)
  exact this

theorem f_laws_eqSessionSame (x : DSession × DSession × Unit) (h : x.1 = x.2.1) : f_laws_eqSession x = some ((true, ()), ()) := by
  obtain ⟨a, b, ⟨⟩⟩ := x
  dsimp only at h
  subst h
  unfold f_laws_eqSession
  simp only [seq_self, ieq_iff.2, Bool.not_true, cond_false]
  rw [f_laws_eqReplySame _ rfl, bnd_some]
  simp only [Bool.not_true, cond_false]

theorem f_laws_eqSessionSLoop {R : Type} (l : List DSession) (hl : l.length ≤ 4611686018427387904) (kk : (((List DSession) × (List DSession) × Unit) × Unit) → (((Bool × Unit) × Unit) ⊕ (Unit × Unit)) → Option R) : ∀ (B A : List DSession), A ++ B = l →
    loopF (c := f_laws_eqSessionS_l4c) (v := f_laws_eqSessionS_l4v) (ex := f_laws_eqSessionS_l4e) f_laws_eqSessionS_l4 R ((l, (l, ())), ()) ((((A.length : Nat) : Int), ()), ()) kk = kk ((l, (l, ())), ()) (.inr ((), ()))
  | [], A, h => by
    subst h
    rw [loopF_done (c' := ((A ++ [], (A ++ [], ())), ())) (o := Sum.inr ((), ())) (by simp only [round, f_laws_eqSessionS_l4, mid_end, cond_false])]
  | y :: B, A, h => by
    have hA : A.length + 1 ≤ l.length := by rw [← h]; simp
    rw [loopF_more (c' := ((l, (l, ())), ())) (v' := (((((A ++ [y]).length : Nat) : Int), ()), ())) (by
      rw [← h]
      simp only [round, f_laws_eqSessionS_l4, mid_lt, cond_true, mid_getO]
      rw [f_laws_eqSessionSame _ rfl, bnd_some]
      simp only [Bool.not_true, cond_false]
      rw [mid_next A y (by omega)])]
    exact f_laws_eqSessionSLoop l hl kk B (A ++ [y]) (by simp [← h])

theorem f_laws_eqSessionSSame (x : List DSession × List DSession × Unit) (h : x.1 = x.2.1) (hl : x.1.length ≤ 4611686018427387904) : f_laws_eqSessionS x = some ((true, ()), ()) := by
  obtain ⟨a, b, ⟨⟩⟩ := x
  dsimp only at h hl
  subst h
  unfold f_laws_eqSessionS
  simp only [ieq_iff.2, Bool.not_true, cond_false]
  exact f_laws_eqSessionSLoop a hl (fun _ o => (match o with
 | .inl y => (some ((y.1.1, ()), ()))
 | .inr z => (some ((true, ()), ())))) a [] rfl

end Go.Proofs.Ytogmfilmfkepfaa
