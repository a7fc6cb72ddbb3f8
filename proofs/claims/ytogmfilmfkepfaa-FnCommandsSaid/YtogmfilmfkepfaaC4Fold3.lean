/- Commands folded: the reference and the program come to the same. -/
import Derived.Test.YtogmfilmfkepfaaC4Fold2
set_option linter.all false
noncomputable section
namespace Go.Proofs.Ytogmfilmfkepfaa
open Go Go.Proofs.Ytogmfilmfkepfaa.Ev

theorem f_impl_applyVal (x : DKvState × DCommand × Unit) (h1 : x.1.1.length ≤ 1000000) (h2 : x.1.2.1.length ≤ 1000) (s1 : SortK x.1.1) (s2 : SortI x.1.2.1) : f_impl_KvState_apply x = some (((applyP x.1 x.2.1).2, ()), ((applyP x.1 x.2.1).1, ())) := by
  obtain ⟨⟨cl, l, ⟨⟩⟩, c, ⟨⟩⟩ := x
  unfold f_impl_KvState_apply applyP
  dsimp only at h1 h2 s1 s2 ⊢
  rw [f_impl_GoodCommandVal, bnd_some]
  dsimp only
  cases goodC c with
  | false => rfl
  | true =>
    simp only [Bool.not_true, cond_false]
    rw [f_impl_sessionAtVal _ (by dsimp only; omega) s2, bnd_some]
    dsimp only
    have hk := posI_le l c.1
    have hdo := fun (l' : List DSession) => f_impl_doVal ((cl, (l', ())), (c, ())) h1 s1
    cases hh : hasI l c.1 with
    | false =>
      simp only [Bool.not_false, cond_true, cond_false]
      cases ieq (llen l) 12 with
      | true => rfl
      | false =>
        simp only [cond_false]
        unfold f_impl_KvState_apply_i11
        simp only [cond_true]
        have hins := f_slices_InsertVal (k := kdSession) l (posI l c.1) (c.1, ((0 : Int), (((0 : Int), ((⟨#[]⟩ : ByteArray), ())), ()))) hk (by omega)
        rw [hins, bnd_some]
        dsimp only
        rw [hdo, bnd_some]
        unfold stepP replR
        rw [hh]
        simp only [cond_false]
        obtain ⟨A, hA⟩ : ∃ A, A = l.take (posI l c.1) := ⟨_, rfl⟩
        obtain ⟨B, hB⟩ : ∃ B, B = l.drop (posI l c.1) := ⟨_, rfl⟩
        rw [← hA, ← hB]
        rw [show posI l c.1 = A.length by rw [hA]; simp; omega]
        simp only [mid_getO, Int.toNat_natCast, mid_get, bnd_some, mid_set]
    | true =>
      obtain ⟨A, y, B, e, q1, q2⟩ := atB_true (show atB _ l (posI l c.1) = true from hh)
      have hy : y.1 = c.1 := ieq_iff.1 q2
      have t1 : l.take (posI l c.1) = A := by rw [← q1, e]; simp
      have t2 : l.drop (posI l c.1 + 1) = B := by rw [← q1, e]; simp
      simp only [Bool.not_true, cond_true, cond_false]
      have hst : stepP (cl, (l, ())) c = (((doP cl c).1, (A ++ (c.1, (c.2.1, ((doP cl c).2, ()))) :: B, ())), (doP cl c).2) := by
        unfold stepP replR
        rw [hh]
        simp only [cond_true, t1, t2]
      rw [hst]
      unfold f_impl_KvState_apply_i11
      simp only [cond_false, hdo, bnd_some]
      clear hst hh t1 t2 hk hdo s2
      generalize posI l c.1 = k at q1
      subst q1
      subst e
      simp only [mid_getO, Int.toNat_natCast, mid_get, bnd_some, mid_set, hy, ieq_comm c.2.1 y.2.1]
      cases ieq y.2.1 c.2.1 <;> cases ilt c.2.1 y.2.1 <;> rfl

/-! ### what stays -/
structure Inv (s : DKvState) : Prop where
  k : SortK s.1
  i : SortI s.2.1
  kl : s.1.length ≤ 40
  il : s.2.1.length ≤ 12

theorem putP_inv {l : List DPair} {x : DPair} (h : SortK l) : SortK (putP l x) := by
  unfold putP
  cases hh : hasK l x.1 with
  | true =>
    obtain ⟨A, y, B, e, q1, q2⟩ := atB_true (show atB _ l (posK l x.1) = true from hh)
    simp only [cond_true]
    exact sorted_set h x y _ (by rw [← q1, e]; simp) ((seq_iff _ _).1 q2)
  | false =>
    simp only [cond_false]
    refine sorted_ins strictS h x _ rfl fun y hy he => ?_
    have : hasK l x.1 = true := by
      unfold hasK atB
      rw [hy]
      exact (seq_iff _ _).2 he
    rw [hh] at this; cases this
theorem putP_len {l : List DPair} {x : DPair} : (putP l x).length = bif hasK l x.1 then l.length else l.length + 1 := by
  have hk := posK_le l x.1
  unfold putP
  cases hh : hasK l x.1 with
  | true =>
    have := hasK_lt hh
    simp; omega
  | false => simp; omega

theorem doP_inv {l : List DPair} {c : DCommand} (h : SortK l) (hl : l.length ≤ 40) : SortK (doP l c).1 ∧ (doP l c).1.length ≤ 40 := by
  unfold doP
  cases hop : ieq c.2.2.1 2 with
  | true =>
    simp only [cond_true]
    cases hc : (!hasK l c.2.2.2.1 && ieq (llen l) 40) with
    | true => exact ⟨h, hl⟩
    | false =>
      simp only [cond_false]
      refine ⟨putP_inv h, ?_⟩
      rw [putP_len]
      dsimp only
      cases hh : hasK l c.2.2.2.1 with
      | true => simp only [cond_true]; exact hl
      | false =>
        rw [hh] at hc
        simp only [Bool.not_false, Bool.true_and] at hc
        simp only [cond_false]
        have : l.length ≠ 40 := fun e => by rw [ieq_iff.2 (by simp only [llen]; omega)] at hc; cases hc
        omega
  | false =>
    simp only [cond_false]
    cases hh : hasK l c.2.2.2.1 with
    | false => exact ⟨h, hl⟩
    | true =>
      have hlt := hasK_lt hh
      simp only [cond_true]
      rw [List.getElem?_eq_getElem hlt]
      dsimp only
      cases ieq c.2.2.1 1 with
      | true => exact ⟨h, hl⟩
      | false =>
        cases ieq c.2.2.1 3 with
        | true => exact ⟨sorted_del h _, by simp only [cond_true, cond_false, List.length_append, List.length_take, List.length_drop]; omega⟩
        | false =>
          simp only [cond_false]
          cases seq (l[posK l c.2.2.2.1]).2.1 c.2.2.2.2.2.1 with
          | false => exact ⟨h, hl⟩
          | true => exact ⟨putP_inv h, by simp only [Bool.not_true, cond_false]; rw [putP_len]; dsimp only; rw [hh]; exact hl⟩

theorem stepP_inv {s : DKvState} {c : DCommand} (h : Inv s) (hl : hasI s.2.1 c.1 = false → s.2.1.length < 12) : Inv (stepP s c).1 := by
  obtain ⟨d1, d2⟩ := doP_inv (c := c) h.k h.kl
  have hk := posI_le s.2.1 c.1
  refine ⟨d1, ?_, d2, ?_⟩
  · unfold stepP replR
    dsimp only
    cases hh : hasI s.2.1 c.1 with
    | true =>
      obtain ⟨A, y, B, e, q1, q2⟩ := atB_true (show atB _ s.2.1 (posI s.2.1 c.1) = true from hh)
      simp only [cond_true]
      exact sorted_set h.i (c.1, (c.2.1, ((doP s.1 c).2, ()))) y _ (by rw [← q1, e]; simp) (ieq_iff.1 q2)
    | false =>
      simp only [cond_false]
      refine sorted_ins strictI h.i (c.1, (c.2.1, ((doP s.1 c).2, ()))) _ rfl fun y hy he => ?_
      have : hasI s.2.1 c.1 = true := by
        unfold hasI atB
        rw [hy]
        exact ieq_iff.2 he
      rw [hh] at this; cases this
  · unfold stepP replR
    dsimp only
    have := h.il
    cases hh : hasI s.2.1 c.1 with
    | true => have := hasI_lt hh; simp; omega
    | false => have := hl hh; simp; omega

theorem applyP_inv {s : DKvState} {c : DCommand} (h : Inv s) : Inv (applyP s c).1 := by
  unfold applyP
  cases goodC c with
  | false => exact h
  | true =>
    simp only [Bool.not_true, cond_false]
    cases hh : hasI s.2.1 c.1 with
    | false =>
      simp only [cond_false]
      cases hc : ieq (llen s.2.1) 12 with
      | true => exact h
      | false =>
        refine stepP_inv h fun _ => ?_
        have := h.il
        have : s.2.1.length ≠ 12 := fun e => by rw [ieq_iff.2 (by simp only [llen]; omega)] at hc; cases hc
        omega
    | true =>
      have hlt := hasI_lt hh
      simp only [cond_true]
      rw [List.getElem?_eq_getElem hlt]
      dsimp only
      cases ieq (s.2.1[posI s.2.1 c.1]).2.1 c.2.1 with
      | true => exact h
      | false =>
        simp only [cond_false]
        cases ilt c.2.1 (s.2.1[posI s.2.1 c.1]).2.1 with
        | true => exact h
        | false => exact stepP_inv h fun e => by rw [hh] at e; cases e

/-! ### commands in a row -/
def foldP : DKvState → List DCommand → DKvState × List DReply
  | s, [] => (s, [])
  | s, c :: l => ((foldP (applyP s c).1 l).1, (applyP s c).2 :: (foldP (applyP s c).1 l).2)
theorem foldP_inv : ∀ {l : List DCommand} {s : DKvState}, Inv s → Inv (foldP s l).1
  | [], _, h => h
  | c :: l, s, h => foldP_inv (l := l) (applyP_inv h)
theorem foldP_len : ∀ (l : List DCommand) (s : DKvState), (foldP s l).2.length = l.length
  | [], _ => rfl
  | c :: l, s => by simp [foldP, foldP_len l]

theorem f_spec_FoldLoop {R : Type} (l : List DCommand) (hl : l.length ≤ 100) (z : DKvState) (kk : (((List DCommand) × Int × Unit) × (DKvState × Unit)) → (Unit × (DKvState × (List DReply) × Unit)) → Option R) : ∀ (B A : List DCommand) (s : DKvState) (rs : List DReply), A ++ B = l → rs.length = A.length → Inv s →
    loopF (c := f_spec_FoldCommands_l6c) (v := f_spec_FoldCommands_l6v) (ex := f_spec_FoldCommands_l6e) f_spec_FoldCommands_l6 R ((l, (llen l, ())), (z, ())) ((((A.length : Nat) : Int), ()), (s, (rs, ()))) kk = kk ((l, (llen l, ())), (z, ())) ((), ((foldP s B).1, (rs ++ (foldP s B).2, ())))
  | [], A, s, rs, h, hr, hi => by
    subst h
    rw [loopF_done (c' := ((A ++ [], (llen (A ++ []), ())), (z, ()))) (o := ((), (s, (rs, ())))) (by simp only [round, f_spec_FoldCommands_l6, mid_end, cond_false])]
    simp [foldP]
  | y :: B, A, s, rs, h, hr, hi => by
    have hA : A.length + 1 ≤ l.length := by rw [← h]; simp
    have h1 := hi.kl
    have h2 := hi.il
    rw [loopF_more (c' := ((l, (llen l, ())), (z, ()))) (v' := (((((A ++ [y]).length : Nat) : Int), ()), ((applyP s y).1, (rs ++ [(applyP s y).2], ())))) (by
      rw [← h]
      simp only [round, f_spec_FoldCommands_l6, mid_lt, cond_true, mid_getO]
      rw [f_spec_l14ApplyVal _ (by dsimp only; omega) (by dsimp only; omega), bnd_some]
      dsimp only
      rw [req_true_of (by simp; omega), mid_next A y (by omega)])]
    rw [f_spec_FoldLoop l hl z kk B (A ++ [y]) _ _ (by simp [← h]) (by simp [hr]) (applyP_inv hi)]
    simp [foldP]

theorem f_impl_FoldLoop {R : Type} (l : List DCommand) (hl : l.length ≤ 100) (z : DKvState) (kk : (((List DCommand) × Int × Unit) × (DKvState × Unit)) → (Unit × (DKvState × (List DReply) × Unit)) → Option R) : ∀ (B A : List DCommand) (s : DKvState) (rs : List DReply), A ++ B = l → rs.length = A.length → Inv s →
    loopF (c := f_impl_FoldCommands_l5c) (v := f_impl_FoldCommands_l5v) (ex := f_impl_FoldCommands_l5e) f_impl_FoldCommands_l5 R ((l, (llen l, ())), (z, ())) ((((A.length : Nat) : Int), ()), (s, (rs, ()))) kk = kk ((l, (llen l, ())), (z, ())) ((), ((foldP s B).1, (rs ++ (foldP s B).2, ())))
  | [], A, s, rs, h, hr, hi => by
    subst h
    rw [loopF_done (c' := ((A ++ [], (llen (A ++ []), ())), (z, ()))) (o := ((), (s, (rs, ())))) (by simp only [round, f_impl_FoldCommands_l5, mid_end, cond_false])]
    simp [foldP]
  | y :: B, A, s, rs, h, hr, hi => by
    have hA : A.length + 1 ≤ l.length := by rw [← h]; simp
    have h1 := hi.kl
    have h2 := hi.il
    rw [loopF_more (c' := ((l, (llen l, ())), (z, ()))) (v' := (((((A ++ [y]).length : Nat) : Int), ()), ((applyP s y).1, (rs ++ [(applyP s y).2], ())))) (by
      rw [← h]
      simp only [round, f_impl_FoldCommands_l5, mid_lt, cond_true, mid_getO]
      rw [f_impl_applyVal _ (by dsimp only; omega) (by dsimp only; omega) hi.k hi.i, bnd_some]
      dsimp only
      rw [req_true_of (by simp; omega), mid_next A y (by omega)])]
    rw [f_impl_FoldLoop l hl z kk B (A ++ [y]) _ _ (by simp [← h]) (by simp [hr]) (applyP_inv hi)]
    simp [foldP]

def s0 : DKvState := ([], ([], ()))
theorem inv0 : Inv s0 := ⟨List.Pairwise.nil, List.Pairwise.nil, by decide, by decide⟩

def foldA (l : List DCommand) : DKvState × List DReply × Bool × Unit :=
  bif ilt 100 (llen l) then (s0, ([], (false, ()))) else ((foldP s0 l).1, ((foldP s0 l).2, (true, ())))

theorem f_spec_FoldCommandsVal (l : List DCommand) : f_spec_FoldCommands (l, ()) = some (foldA l, ()) := by
  unfold f_spec_FoldCommands foldA
  dsimp only
  cases hl : ilt 100 (llen l) with
  | true => rfl
  | false =>
    have hl := ilt_false.1 hl
    simp only [llen] at hl
    simp only [cond_false]
    refine Eq.trans (f_spec_FoldLoop l (by omega) _ _ l [] s0 [] rfl rfl inv0) ?_
    have hi := foldP_inv (l := l) inv0
    have h1 := hi.kl
    have h2 := hi.il
    dsimp only
    unfold f_spec_l14Own
    dsimp only
    rw [req_true_of (by omega), req_true_of (by omega), bnd_some]
    simp
theorem f_impl_FoldCommandsVal (l : List DCommand) : f_impl_FoldCommands (l, ()) = some (foldA l, ()) := by
  unfold f_impl_FoldCommands foldA
  dsimp only
  cases hl : ilt 100 (llen l) with
  | true => rfl
  | false =>
    have hl := ilt_false.1 hl
    simp only [llen] at hl
    simp only [cond_false]
    refine Eq.trans (f_impl_FoldLoop l (by omega) _ _ l [] s0 [] rfl rfl inv0) ?_
    simp
theorem foldA_len (l : List DCommand) : (foldA l).1.1.length ≤ 40 ∧ (foldA l).1.2.1.length ≤ 12 ∧ (foldA l).2.1.length ≤ 100 := by
  unfold foldA
  cases hl : ilt 100 (llen l) with
  | true => simp [s0]
  | false =>
    have hl := ilt_false.1 hl
    simp only [llen] at hl
    simp only [cond_false]
    have hi := foldP_inv (l := l) inv0
    exact ⟨hi.kl, hi.il, by rw [foldP_len]; omega⟩

end Go.Proofs.Ytogmfilmfkepfaa
