/- A command done and applied: the reference and the program come to the same. -/
import Derived.Test.YtogmfilmfkepfaaC4Fold
set_option linter.all false
noncomputable section
namespace Go.Proofs.Ytogmfilmfkepfaa
open Go Go.Proofs.Ytogmfilmfkepfaa.Ev

theorem Does.to {α : Type} {o : Option α} {v : α} (h : Does o (· = v)) : o = some v := by
  obtain ⟨r, h1, rfl⟩ := h; exact h1
theorem Does.val' {α β : Type} {o : Option β} {v : β} {k : β → Option α} {Q : α → Prop} (h : o = some v) (hk : Does (k v) Q) : Does (bnd o k) Q := by
  rw [h]; exact hk
theorem tk0 {α : Type} (l : List α) (k : Nat) : List.take (Int.toNat (k : Int) - (0 : Nat)) (List.drop (0 : Nat) l) = l.take k := by simp
theorem dk0 {α : Type} (l : List α) (k : Nat) : List.take (List.length l - Int.toNat (k : Int)) (List.drop (Int.toNat (k : Int)) l) = l.drop k := by
  rw [Int.toNat_natCast]; exact List.take_of_length_le (by simp)
theorem bnd0 {k n : Nat} (h : k ≤ n) : (decide ((0 : Int) ≤ (k : Int)) && decide ((k : Int) ≤ (n : Int))) = true := by simp; omega

theorem atB_true {α : Type} {e : α → Bool} {l : List α} {k : Nat} (h : atB e l k = true) : ∃ A y B, l = A ++ y :: B ∧ A.length = k ∧ e y = true := by
  unfold atB at h
  cases hq : l[k]? with
  | none => rw [hq] at h; cases h
  | some y =>
    rw [hq] at h
    obtain ⟨hk, rfl⟩ := List.getElem?_eq_some_iff.1 hq
    exact ⟨l.take k, l[k], l.drop (k + 1), by rw [← List.drop_eq_getElem_cons hk, List.take_append_drop], by simp; omega, h⟩

theorem f_slices_InsertVal {k : K} (l : List (T k)) (n : Nat) (x : T k) (hn : n ≤ l.length) (hl : l.length ≤ 1000000) : f_slices_Insert k (l, ((n : Int), ([x], ()))) = some ((l.take n ++ x :: l.drop n, ()), ()) := by
  unfold f_slices_Insert
  dsimp only
  rw [show (decide ((0 : Int) ≤ (n : Int)) && (decide ((n : Int) ≤ (l.length : Int)) && (decide (1 ≤ [x].length) && decide (l.length + [x].length ≤ 17179869184)))) = true by simp; omega, req_true, Int.toNat_natCast]
  rfl
theorem f_slices_DeleteVal {k : K} (l : List (T k)) (n : Nat) (hn : n < l.length) (hl : l.length ≤ 1000000) : f_slices_Delete k (l, ((n : Int), (((n + 1 : Nat) : Int), ()))) = some ((l.take n ++ l.drop (n + 1), ()), ()) := by
  unfold f_slices_Delete
  dsimp only
  rw [show (decide ((0 : Int) ≤ (n : Int)) && (decide ((n : Int) < ((n + 1 : Nat) : Int)) && decide (((n + 1 : Nat) : Int) ≤ (l.length : Int)))) = true by simp; omega, req_true, Int.toNat_natCast, Int.toNat_natCast]

def putP (l : List DPair) (x : DPair) : List DPair := l.take (posK l x.1) ++ x :: l.drop (bif hasK l x.1 then posK l x.1 + 1 else posK l x.1)

theorem posK_le (l : List DPair) (key : ByteArray) : posK l key ≤ l.length := posBy_le _ _
theorem posI_le (l : List DSession) (id : Int) : posI l id ≤ l.length := posBy_le _ _
theorem hasK_lt {l : List DPair} {key : ByteArray} (h : hasK l key = true) : posK l key < l.length := by
  obtain ⟨A, y, B, e, h1, _⟩ := atB_true h
  rw [← h1, e]; simp
theorem hasI_lt {l : List DSession} {id : Int} (h : hasI l id = true) : posI l id < l.length := by
  obtain ⟨A, y, B, e, h1, _⟩ := atB_true h
  rw [← h1, e]; simp

theorem f_spec_l14PutVal (x : List DPair × DPair × Unit) (hl : x.1.length ≤ 1000000) : f_spec_l14Put x = some ((putP x.1 x.2.1, ()), ()) := by
  obtain ⟨l, p, ⟨⟩⟩ := x
  unfold f_spec_l14Put putP
  dsimp only at hl ⊢
  have hk := posK_le l p.1
  rw [f_spec_l14CellVal _ hl, bnd_some]
  dsimp only
  rw [bnd0 hk, req_true, tk0, req_true_of (by simp; omega), req_true_of (by simp; omega)]
  unfold f_spec_l14Put_i6
  dsimp only
  cases hh : hasK l p.1 with
  | true =>
    have hlt := hasK_lt hh
    simp only [cond_true]
    rw [show iadd .i64 ((posK l p.1 : Nat) : Int) (1 : Int) = ((posK l p.1 + 1 : Nat) : Int) from iaddN (b := 1) (by omega), bnd0 (by omega), req_true, dk0, req_true_of (by simp; omega)]
    simp
  | false =>
    simp only [cond_false]
    rw [bnd0 hk, req_true, dk0, req_true_of (by simp; omega)]
    simp

def badR : DReply := (4, (e0, ()))
def okR : DReply := (0, (e0, ()))
def doP (l : List DPair) (c : DCommand) : List DPair × DReply :=
  bif ieq c.2.2.1 2 then (bif !hasK l c.2.2.2.1 && ieq (llen l) 40 then (l, badR) else (putP l (c.2.2.2.1, (c.2.2.2.2.1, ())), okR))
  else match (bif hasK l c.2.2.2.1 then l[posK l c.2.2.2.1]? else none) with
    | none => (l, (1, (e0, ())))
    | some v => bif ieq c.2.2.1 1 then (l, (0, (v.2.1, ())))
      else bif ieq c.2.2.1 3 then (l.take (posK l c.2.2.2.1) ++ l.drop (posK l c.2.2.2.1 + 1), (0, (v.2.1, ())))
      else bif !seq v.2.1 c.2.2.2.2.2.1 then (l, (3, (v.2.1, ()))) else (putP l (c.2.2.2.1, (c.2.2.2.2.1, ())), okR)

theorem f_spec_l14DoVal (x : List DPair × DCommand × Unit) (hl : x.1.length ≤ 1000000) : f_spec_l14Do x = some (((doP x.1 x.2.1).1, ((doP x.1 x.2.1).2, ())), ()) := by
  obtain ⟨l, c, ⟨⟩⟩ := x
  unfold f_spec_l14Do doP
  dsimp only at hl ⊢
  rw [f_spec_l14CellVal _ hl, bnd_some]
  dsimp only
  cases ieq c.2.2.1 2 with
  | true =>
    simp only [cond_true]
    cases hh : hasK l c.2.2.2.1 with
    | true =>
      simp only [Bool.not_true, cond_false, Bool.false_and]
      rw [f_spec_l14PutVal _ hl, bnd_some]; rfl
    | false =>
      simp only [Bool.not_false, cond_true, Bool.true_and]
      cases ieq (llen l) 40 with
      | true => rfl
      | false =>
        simp only [cond_false]
        rw [f_spec_l14PutVal _ hl, bnd_some]; rfl
  | false =>
    simp only [cond_false]
    cases hh : hasK l c.2.2.2.1 with
    | false => rfl
    | true =>
      have hlt := hasK_lt hh
      have e := List.getElem?_eq_getElem hlt
      simp only [Bool.not_true, cond_false, cond_true]
      rw [getO_at (by omega) (by rw [Int.toNat_natCast]; exact e), e]
      generalize l[posK l c.2.2.2.1] = v
      dsimp only
      cases ieq c.2.2.1 1 with
      | true => rfl
      | false =>
        simp only [cond_false]
        cases ieq c.2.2.1 3 with
        | true =>
          simp only [cond_true]
          rw [show iadd .i64 ((posK l c.2.2.2.1 : Nat) : Int) (1 : Int) = ((posK l c.2.2.2.1 + 1 : Nat) : Int) from iaddN (b := 1) (by omega), bnd0 (by omega), req_true, tk0, req_true_of (by simp; omega), bnd0 (by omega), req_true, dk0, req_true_of (by simp; omega)]
        | false =>
          simp only [cond_false]
          cases seq v.2.1 c.2.2.2.2.2.1 with
          | false => rfl
          | true =>
            simp only [Bool.not_true, cond_false]
            rw [f_spec_l14PutVal _ hl, bnd_some]; rfl

theorem f_impl_doVal (x : DKvState × DCommand × Unit) (hl : x.1.1.length ≤ 1000000) (hs : SortK x.1.1) : f_impl_KvState_do x = some (((doP x.1.1 x.2.1).2, ()), (((doP x.1.1 x.2.1).1, x.1.2), ())) := by
  obtain ⟨⟨l, u⟩, c, ⟨⟩⟩ := x
  unfold f_impl_KvState_do doP
  dsimp only at hl hs ⊢
  rw [f_impl_cellAtVal _ hl hs, bnd_some]
  dsimp only
  have hk := posK_le l c.2.2.2.1
  cases hh : hasK l c.2.2.2.1 with
  | true =>
    have hput : ∀ v : ByteArray, putP l (c.2.2.2.1, (v, ())) = l.take (posK l c.2.2.2.1) ++ (c.2.2.2.1, (v, ())) :: l.drop (posK l c.2.2.2.1 + 1) := fun v => by unfold putP; rw [hh]; rfl
    have hlt := hasK_lt hh
    obtain ⟨A, y, B, e, h1, h2⟩ := atB_true (show atB _ l (posK l c.2.2.2.1) = true from hh)
    have hy : y.1 = c.2.2.2.1 := (seq_iff _ _).1 h2
    have t1 : l.take (posK l c.2.2.2.1) = A := by rw [← h1, e]; simp
    have t2 : l.drop (posK l c.2.2.2.1 + 1) = B := by rw [← h1, e]; simp
    have hdel := f_slices_DeleteVal (k := kdPair) l (posK l c.2.2.2.1) hlt hl
    rw [show ((posK l c.2.2.2.1 + 1 : Nat) : Int) = iadd .i64 ((posK l c.2.2.2.1 : Nat) : Int) (1 : Int) from (iaddN (b := 1) (by omega)).symm] at hdel
    simp only [hput, hdel, bnd_some, t1, t2]
    clear hdel hput hh hs hk h2
    generalize posK l c.2.2.2.1 = k at h1 hlt
    subst h1
    subst e
    simp only [mid_getO, Int.toNat_natCast, mid_get, bnd_some, mid_set, hy, Bool.not_true, Bool.false_and]
    cases ieq c.2.2.1 2 <;> cases ieq c.2.2.1 1 <;> cases ieq c.2.2.1 3 <;> cases hq : seq y.2.1 c.2.2.2.2.2.1 <;> simp only [cond_true, cond_false, Bool.not_true, Bool.not_false, hq] <;> rfl
  | false =>
    have hput : ∀ v : ByteArray, putP l (c.2.2.2.1, (v, ())) = l.take (posK l c.2.2.2.1) ++ (c.2.2.2.1, (v, ())) :: l.drop (posK l c.2.2.2.1) := fun v => by unfold putP; rw [hh]; rfl
    have hins := f_slices_InsertVal (k := kdPair) l (posK l c.2.2.2.1) (c.2.2.2.1, (c.2.2.2.2.1, ())) hk hl
    simp only [hput, hins, bnd_some]
    cases ieq c.2.2.1 2 <;> cases ieq (llen l) 40 <;> rfl

/-! ### a command applied -/
def replR (l : List DSession) (c : DCommand) (r : DReply) : List DSession := l.take (posI l c.1) ++ (c.1, (c.2.1, (r, ()))) :: l.drop (bif hasI l c.1 then posI l c.1 + 1 else posI l c.1)
def stepP (s : DKvState) (c : DCommand) : DKvState × DReply := (((doP s.1 c).1, (replR s.2.1 c (doP s.1 c).2, ())), (doP s.1 c).2)
def applyP (s : DKvState) (c : DCommand) : DKvState × DReply :=
  bif !goodC c then (s, badR) else match (bif hasI s.2.1 c.1 then s.2.1[posI s.2.1 c.1]? else none) with
    | some y => bif ieq y.2.1 c.2.1 then (s, y.2.2.1) else bif ilt c.2.1 y.2.1 then (s, (2, (e0, ()))) else stepP s c
    | none => bif ieq (llen s.2.1) 12 then (s, badR) else stepP s c

theorem ieq_comm (a b : Int) : ieq a b = ieq b a := by
  cases h : ieq a b with
  | true => rw [ieq_iff.1 h]; exact (ieq_iff.2 rfl).symm
  | false =>
    cases h2 : ieq b a with
    | false => rfl
    | true => rw [ieq_iff.1 h2, ieq_iff.2 rfl] at h; cases h

theorem f_spec_l14ApplyVal (x : DKvState × DCommand × Unit) (h1 : x.1.1.length ≤ 1000000) (h2 : x.1.2.1.length ≤ 1000000) : f_spec_l14Apply x = some (((applyP x.1 x.2.1).1, ((applyP x.1 x.2.1).2, ())), ()) := by
  obtain ⟨⟨cl, l, ⟨⟩⟩, c, ⟨⟩⟩ := x
  unfold f_spec_l14Apply applyP
  dsimp only at h1 h2 ⊢
  rw [f_spec_l14SessionVal _ h2, bnd_some, f_spec_GoodCommandVal, bnd_some, f_spec_l14DoVal _ h1]
  simp only [bnd_some]
  have hk := posI_le l c.1
  have htl : ∀ {R : Type} (o : Option R), req (decide ((0 : Int) ≤ ((posI l c.1 : Nat) : Int)) && decide (((posI l c.1 : Nat) : Int) ≤ (l.length : Int))) o = o := fun o => by rw [bnd0 hk, req_true]
  cases goodC c with
  | false => rfl
  | true =>
    simp only [Bool.not_true, cond_false]
    have tail : ∀ b, hasI l c.1 = b → (req (decide ((0 : Int) ≤ ((posI l c.1 : Nat) : Int)) && decide (((posI l c.1 : Nat) : Int) ≤ ((List.length l) : Int))) (req (decide (List.length ([] : List DSession) + List.length (List.take ((Int.toNat ((posI l c.1 : Nat) : Int)) - (0 : Nat)) (List.drop (0 : Nat) l)) ≤ 17179869184)) (req (decide (List.length (([] : List DSession) ++ (List.take ((Int.toNat ((posI l c.1 : Nat) : Int)) - (0 : Nat)) (List.drop (0 : Nat) l))) + List.length [(c.1, (c.2.1, ((doP cl c).2, ())))] ≤ 17179869184)) (f_spec_l14Apply_i14 _ ((b, ()), (((doP cl c).1, (l, ())), ((([] : List DPair), (([] : List DSession), ())), (((0 : Int), ((⟨#[]⟩ : ByteArray), ())), ((doP cl c).2, (((([] : List DSession) ++ (List.take ((Int.toNat ((posI l c.1 : Nat) : Int)) - (0 : Nat)) (List.drop (0 : Nat) l))) ++ [(c.1, (c.2.1, ((doP cl c).2, ())))]), ())))))) ((((posI l c.1 : Nat) : Int), ()), ()) fun c7 o8 =>
 (req (decide ((0 : Int) ≤ o8.1.1) && decide (o8.1.1 ≤ ((List.length c7.2.1.2.1) : Int))) (req (decide (List.length c7.2.2.2.2.2.1 + List.length (List.take ((List.length c7.2.1.2.1) - (Int.toNat o8.1.1)) (List.drop (Int.toNat o8.1.1) c7.2.1.2.1)) ≤ 17179869184)) (some (((c7.2.1.1, ((c7.2.2.2.2.2.1 ++ (List.take ((List.length c7.2.1.2.1) - (Int.toNat o8.1.1)) (List.drop (Int.toNat o8.1.1) c7.2.1.2.1))), c7.2.1.2.2)), (c7.2.2.2.2.1, ())), ())))))))) = some (((stepP (cl, (l, ())) c).1, ((stepP (cl, (l, ())) c).2, ())), ()) := by
      intro b hb
      rw [htl, tk0, req_true_of (by simp; omega), req_true_of (by simp; omega)]
      unfold f_spec_l14Apply_i14 stepP replR
      rw [hb]
      cases b with
      | true =>
        have hlt := hasI_lt hb
        simp only [cond_true]
        rw [show iadd .i64 ((posI l c.1 : Nat) : Int) (1 : Int) = ((posI l c.1 + 1 : Nat) : Int) from iaddN (b := 1) (by omega), bnd0 (by omega), req_true, dk0, req_true_of (by simp; omega)]
        simp
      | false =>
        simp only [cond_false]
        rw [bnd0 hk, req_true, dk0, req_true_of (by simp; omega)]
        simp
    cases hh : hasI l c.1 with
    | false =>
      simp only [Bool.not_false, cond_true, cond_false]
      cases ieq (llen l) 12 with
      | true => rfl
      | false => simp only [cond_false]; exact tail false hh
    | true =>
      have hlt := hasI_lt hh
      have e := List.getElem?_eq_getElem hlt
      simp only [Bool.not_true, cond_true, cond_false]
      rw [getO_at (by omega) (by rw [Int.toNat_natCast]; exact e), e]
      dsimp only
      cases ieq l[posI l c.1].2.1 c.2.1 with
      | true => simp only [cond_true]; rw [getO_at (by omega) (by rw [Int.toNat_natCast]; exact e)]
      | false =>
        simp only [cond_false]
        rw [getO_at (by omega) (by rw [Int.toNat_natCast]; exact e)]
        cases ilt c.2.1 l[posI l c.1].2.1 with
        | true => rfl
        | false => simp only [cond_false]; exact tail true hh

end Go.Proofs.Ytogmfilmfkepfaa
