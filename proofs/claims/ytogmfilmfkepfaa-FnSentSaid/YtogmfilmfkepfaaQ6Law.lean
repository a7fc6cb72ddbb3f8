/- FnSent holds of what it is given. -/
import Derived.Test.YtogmfilmfkepfaaQ6Draw
set_option linter.all false
noncomputable section
namespace Go.Proofs.Ytogmfilmfkepfaa
open Go Go.Proofs.Ytogmfilmfkepfaa.Ev

def seenA (fs : List ByteArray) (order flips : List Int) : List Bool := (playTo (cks 0 fs) order flips order.length).1
def manyA (fs : List ByteArray) (order flips : List Int) : Int := (((playTo (cks 0 fs) order flips order.length).2 : Nat) : Int)
def okP (fs : List ByteArray) (order flips : List Int) : Bool := okC fs && (decide (order.length ≤ 400) && decide (flips.length = order.length))
def playA (fs : List ByteArray) (order flips : List Int) : List ByteArray × Int × Bool × Unit :=
  bif okP fs order flips then ((finA fs (seenA fs order flips)).1, (manyA fs order flips, (true, ()))) else ([], (0, (false, ())))

theorem okC_parts {fs : List ByteArray} (h : okC fs = true) : okF fs = true ∧ (cks 0 fs).length ≤ 200 := by
  simpa only [okC, Bool.and_eq_true, decide_eq_true_eq] using h

theorem f_impl_PlayTakingVal (fs : List ByteArray) (order flips : List Int) (hl : fs.length ≤ 1000000) : f_impl_PlayTaking (fs, (order, (flips, ()))) = some (playA fs order flips, ()) := by
  unfold f_impl_PlayTaking playA okP
  dsimp only
  rw [f_impl_ChunksOfVal fs hl, bnd_some]
  unfold chunksA
  cases hc : okC fs with
  | false => rfl
  | true =>
    obtain ⟨hok, hk⟩ := okC_parts hc
    simp only [cond_true, Bool.not_true, cond_false, Bool.true_and]
    by_cases ho : order.length ≤ 400
    · rw [ilt_false.2 (by simp only [llen]; omega), cond_false, decide_eq_true ho, Bool.true_and]
      by_cases hf : flips.length = order.length
      · rw [ieq_iff.2 (show llen flips = llen order by simp only [llen]; omega), Bool.not_true, cond_false, decide_eq_true hf, cond_true, f_impl_wantVal fs hok, bnd_some]
        refine toSome ?_
        dsimp only
        refine impl_play hok hk ho hf ?_
        dsimp only
        rw [f_impl_FinishTakingVal hok hk (playTo_len _ _ _ _).1, bnd_some]
        exact Does.val rfl
      · rw [show ieq (llen flips) (llen order) = false by
          cases e : ieq (llen flips) (llen order) with
          | false => rfl
          | true => have := ieq_iff.1 e; simp only [llen] at this; omega, decide_eq_false hf]
        rfl
    · rw [ilt_iff.2 (by simp only [llen]; omega), decide_eq_false ho]; rfl

theorem f_spec_PlayTakingVal (fs : List ByteArray) (order flips : List Int) (hl : fs.length ≤ 1000000) : f_spec_PlayTaking (fs, (order, (flips, ()))) = some (playA fs order flips, ()) := by
  unfold f_spec_PlayTaking playA okP
  dsimp only
  rw [f_spec_ChunksOfVal fs hl, bnd_some]
  unfold chunksA
  cases hc : okC fs with
  | false => rfl
  | true =>
    obtain ⟨hok, hk⟩ := okC_parts hc
    simp only [cond_true, Bool.not_true, cond_false, Bool.true_and]
    by_cases ho : order.length ≤ 400
    · rw [ilt_false.2 (by simp only [llen]; omega), cond_false, decide_eq_true ho, Bool.true_and]
      by_cases hf : flips.length = order.length
      · rw [ieq_iff.2 (show llen flips = llen order by simp only [llen]; omega), Bool.not_true, cond_false, decide_eq_true hf, cond_true, f_spec_WantOfVal fs hok, bnd_some]
        dsimp only
        rw [f_spec_NewTakingVal hok, bnd_some]
        refine toSome ?_
        dsimp only
        refine spec_play hok hk ho hf ?_
        dsimp only
        rw [f_spec_l13FinishVal hok hk (playTo_len _ _ _ _).1, bnd_some]
        unfold f_spec_PlayTaking_i24
        dsimp only
        unfold finA seenA manyA
        dsimp only
        cases (playTo (cks 0 fs) order flips order.length).1.all id with
        | false => exact Does.val rfl
        | true => exact Does.val rfl
      · rw [show ieq (llen flips) (llen order) = false by
          cases e : ieq (llen flips) (llen order) with
          | false => rfl
          | true => have := ieq_iff.1 e; simp only [llen] at this; omega, decide_eq_false hf]
        rfl
    · rw [ilt_iff.2 (by simp only [llen]; omega), decide_eq_false ho]; rfl

theorem sameTexts_self (l : List ByteArray) (hl : l.length ≤ 1000000) : f_laws_sameTexts (l, (l, ())) = some ((true, ()), ()) := by
  refine toSome ?_
  unfold f_laws_sameTexts
  dsimp only
  rw [ieq_iff.2 rfl, Bool.not_true, cond_false]
  refine Does.loop (c := f_laws_sameTexts_l4c) (v := f_laws_sameTexts_l4v) (ex := f_laws_sameTexts_l4e) (I := fun c v => c = ((l, (l, (llen l, ()))), ()) ∧ ∃ i : Nat, i ≤ l.length ∧ v = (((i : Int), ()), ())) (μ := fun _ v => ((l.length : Int) - v.1.1).toNat) (fun c v hI => ?_) ⟨rfl, 0, by omega, rfl⟩
  obtain ⟨rfl, i, hi, rfl⟩ := hI
  simp only [round, f_laws_sameTexts_l4]
  refine Does.cond (fun hlt => ?_) fun _ => Does.val (Does.val rfl)
  have hlt : (i : Int) < (l.length : Int) := ilt_iff.1 hlt
  refine Does.getO (by omega) hlt fun y hy => ?_
  rw [getO_at (by omega) hy, (seq_iff _ _).2 rfl, Bool.not_true, cond_false, show iadd .i64 (i : Int) (1 : Int) = ((i + 1 : Nat) : Int) from iaddN (b := 1) (by omega)]
  exact Does.val ⟨⟨rfl, i + 1, by omega, rfl⟩, by dsimp only; omega⟩
theorem sameChunks_self (l : List DChunk) (hl : l.length ≤ 1000000) : f_laws_sameChunks (l, (l, ())) = some ((true, ()), ()) := by
  refine toSome ?_
  unfold f_laws_sameChunks
  dsimp only
  rw [ieq_iff.2 rfl, Bool.not_true, cond_false]
  refine Does.loop (c := f_laws_sameChunks_l4c) (v := f_laws_sameChunks_l4v) (ex := f_laws_sameChunks_l4e) (I := fun c v => c = ((l, (l, (llen l, ()))), ()) ∧ ∃ i : Nat, i ≤ l.length ∧ v = (((i : Int), ()), ())) (μ := fun _ v => ((l.length : Int) - v.1.1).toNat) (fun c v hI => ?_) ⟨rfl, 0, by omega, rfl⟩
  obtain ⟨rfl, i, hi, rfl⟩ := hI
  simp only [round, f_laws_sameChunks_l4]
  refine Does.cond (fun hlt => ?_) fun _ => Does.val (Does.val rfl)
  have hlt : (i : Int) < (l.length : Int) := ilt_iff.1 hlt
  refine Does.getO (by omega) hlt fun y hy => ?_
  rw [getO_at (by omega) hy, eqC_self, Bool.not_true, cond_false, show iadd .i64 (i : Int) (1 : Int) = ((i + 1 : Nat) : Int) from iaddN (b := 1) (by omega)]
  exact Does.val ⟨⟨rfl, i + 1, by omega, rfl⟩, by dsimp only; omega⟩

theorem all_loop {R : Type} {Q : R → Prop} {many right : Int} {files got : List ByteArray} {seen : List Bool} (hl : seen.length ≤ 1000000) {kk} (h : Does (kk ((many, (right, (llen seen, ()))), (files, (got, (seen, ())))) ((seen.all id, ()), ())) Q) :
    Does (loopF (c := f_laws_FnSent_l25c) (v := f_laws_FnSent_l25v) (ex := f_laws_FnSent_l25e) f_laws_FnSent_l25 R ((many, (right, (llen seen, ()))), (files, (got, (seen, ())))) ((true, ((0 : Int), ())), ()) kk) Q := by
  refine Does.loop (c := f_laws_FnSent_l25c) (v := f_laws_FnSent_l25v) (ex := f_laws_FnSent_l25e)
    (I := fun c v => c = ((many, (right, (llen seen, ()))), (files, (got, (seen, ())))) ∧ ∃ i : Nat, i ≤ seen.length ∧ v = (((seen.take i).all id, ((i : Int), ())), ())) (μ := fun _ v => ((seen.length : Int) - v.1.2.1).toNat) (fun c v hI => ?_) ⟨rfl, 0, by omega, rfl⟩
  obtain ⟨rfl, i, hi, rfl⟩ := hI
  simp only [round, f_laws_FnSent_l25]
  refine Does.cond (fun hlt => ?_) fun hlt => Does.val ?_
  · have hlt : (i : Int) < (seen.length : Int) := ilt_iff.1 hlt
    refine Does.getO (by omega) hlt fun y hy => ?_
    rw [hy, bnd_some, show iadd .i64 (i : Int) (1 : Int) = ((i + 1 : Nat) : Int) from iaddN (b := 1) (by omega)]
    rw [Int.toNat_natCast] at hy
    have e : (seen.take (i + 1)).all id = ((seen.take i).all id && y) := by rw [List.take_add_one, hy, List.all_append]; simp
    cases ht : (seen.take i).all id with
    | true => exact Does.val ⟨⟨rfl, i + 1, by omega, by rw [e, ht]; rfl⟩, by dsimp only; omega⟩
    | false => exact Does.val ⟨⟨rfl, i + 1, by omega, by rw [e, ht]; rfl⟩, by dsimp only; omega⟩
  · have hlt : (seen.length : Int) ≤ (i : Int) := ilt_false.1 hlt
    rw [show i = seen.length by omega, List.take_length]
    exact h

theorem true_f_laws_FnSent (x : List Int × Unit) (hb : ∀ b ∈ x.1, 0 ≤ b ∧ b < 256) : f_laws_FnSent x = some ((true, ()), ()) := by
  obtain ⟨code, ⟨⟩⟩ := x
  refine toSome ?_
  unfold f_laws_FnSent
  dsimp only
  refine Does.cond (fun _ => Does.val rfl) fun _ => ?_
  refine Does.bnd (f_spec_DrawPlayTakingDoes hb) fun r1 hr1 => ?_
  obtain ⟨⟨fs, order, flips, ⟨⟩⟩, ⟨⟩⟩ := r1
  dsimp only at hr1 ⊢
  rw [f_impl_PlayTakingVal fs order flips (by omega), bnd_some, f_spec_PlayTakingVal fs order flips (by omega), bnd_some]
  have hbb : ∀ x : Bool, beqB x x = true := fun x => by cases x <;> rfl
  have hgl : (playA fs order flips).1.length ≤ 100 := by
    unfold playA finA
    cases okP fs order flips with
    | false => simp
    | true =>
      cases (seenA fs order flips).all id with
      | false => simp
      | true => exact hr1
  rw [hbb, Bool.not_true, cond_false, ieq_iff.2 rfl, Bool.not_true, cond_false, sameTexts_self _ (by dsimp only; omega), bnd_some]
  dsimp only
  rw [Bool.not_true, cond_false]
  unfold playA
  cases hp : okP fs order flips with
  | false => exact Does.val rfl
  | true =>
    have hp2 := hp
    unfold okP at hp2
    simp only [Bool.and_eq_true, decide_eq_true_eq] at hp2
    obtain ⟨hc, ho, hf⟩ := hp2
    obtain ⟨hok, hk⟩ := okC_parts hc
    simp only [cond_true, Bool.not_true, cond_false]
    rw [f_impl_ChunksOfVal fs (by omega), bnd_some, f_spec_ChunksOfVal fs (by omega), bnd_some]
    unfold chunksA
    rw [hc]
    simp only [cond_true, Bool.not_true, cond_false]
    rw [sameChunks_self _ (by omega), bnd_some]
    dsimp only
    rw [Bool.not_true, cond_false]
    rw [show (decide True && (decide ((0 : Int) ≤ (llen (cks 0 fs))) && decide ((llen (cks 0 fs)) ≤ (68719476736 : Int)))) = true from by rw [decide_eq_true trivial, Bool.true_and, Bool.and_eq_true, decide_eq_true_eq, decide_eq_true_eq]; simp only [llen]; omega, req_true]
    rw [show Int.toNat (llen (cks 0 fs)) = (cks 0 fs).length by simp only [llen]; omega]
    refine law_play hok hk ho hf ?_
    have hsl := (playTo_len (cks 0 fs) order flips order.length).1
    dsimp only
    refine all_loop (by omega) ?_
    dsimp only
    unfold finA seenA manyA
    cases ha : (playTo (cks 0 fs) order flips order.length).1.all id with
    | false =>
      rw [cond_false, ieq_iff.2 rfl, cond_true]
      exact Does.val rfl
    | true =>
      rw [cond_true, ieq_iff.2 rfl, cond_true]
      dsimp only [cond_true]
      rw [sameTexts_self fs (by omega), bnd_some]
      exact Does.val rfl

end Go.Proofs.Ytogmfilmfkepfaa
