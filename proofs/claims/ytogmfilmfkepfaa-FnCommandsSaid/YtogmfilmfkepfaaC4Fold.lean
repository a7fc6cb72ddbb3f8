/- Commands folded: the reference and the program come to the same. -/
import Derived.Test.YtogmfilmfkepfaaC4Bs
set_option linter.all false
noncomputable section
namespace Go.Proofs.Ytogmfilmfkepfaa
open Go Go.Proofs.Ytogmfilmfkepfaa.Ev

abbrev e0 : ByteArray := ⟨#[]⟩
def btw (n lo hi : Int) : Bool := cond (ile lo n) (ile n hi) false

/-! ### what a good command is -/
def goodC (c : DCommand) : Bool :=
  btw c.1 0 99 && (btw c.2.1 1 1000000 && (btw c.2.2.1 1 4 && (btw (slen c.2.2.2.1) 1 16 && (ile (slen c.2.2.2.2.1) 40 && (ile (slen c.2.2.2.2.2.1) 40 &&
    ((seq c.2.2.2.2.1 e0 || (ieq c.2.2.1 2 || ieq c.2.2.1 4)) && (seq c.2.2.2.2.2.1 e0 || ieq c.2.2.1 4)))))))

theorem f_spec_l1InVal (x : Int × Int × Int × Unit) : f_spec_l1In x = some ((btw x.1 x.2.1 x.2.2.1, ()), ()) := by
  unfold f_spec_l1In btw
  cases ile x.2.1 x.1 <;> rfl
theorem f_impl_inVal (x : Int × Int × Int × Unit) : f_impl_in x = some ((btw x.1 x.2.1 x.2.2.1, ()), ()) := by
  unfold f_impl_in btw
  cases ile x.2.1 x.1 <;> rfl
theorem ilt_ile (a b : Int) : ilt a b = !ile b a := by
  cases h : ilt a b with
  | true => rw [ile_false.2 (ilt_iff.1 h)]; rfl
  | false => rw [ile_iff.2 (ilt_false.1 h)]; rfl

theorem f_spec_GoodCommandVal (x : DCommand × Unit) : f_spec_GoodCommand x = some ((goodC x.1, ()), ()) := by
  obtain ⟨c, ⟨⟩⟩ := x
  unfold f_spec_GoodCommand f_spec_l4Key
  simp only [f_spec_l1InVal, bnd_some, ilt_ile]
  unfold goodC
  generalize btw c.1 0 99 = b1
  generalize btw c.2.1 1 1000000 = b2
  generalize btw c.2.2.1 1 4 = b3
  generalize btw (slen c.2.2.2.1) 1 16 = b4
  generalize ile (slen c.2.2.2.2.1) 40 = b5
  generalize ile (slen c.2.2.2.2.2.1) 40 = b6
  generalize seq c.2.2.2.2.1 e0 = b7
  generalize seq c.2.2.2.2.2.1 e0 = b8
  generalize ieq c.2.2.1 2 = b9
  generalize ieq c.2.2.1 4 = b10
  cases b1 <;> cases b2 <;> cases b3 <;> cases b4 <;> cases b5 <;> cases b6 <;> try rfl
  cases b7 <;> cases b8 <;> cases b9 <;> cases b10 <;> rfl
theorem f_impl_GoodCommandVal (x : DCommand × Unit) : f_impl_GoodCommand x = some ((goodC x.1, ()), ()) := by
  obtain ⟨c, ⟨⟩⟩ := x
  unfold f_impl_GoodCommand f_impl_isKey f_impl_isValue
  simp only [f_impl_inVal, bnd_some]
  unfold goodC
  generalize btw c.1 0 99 = b1
  generalize btw c.2.1 1 1000000 = b2
  generalize btw c.2.2.1 1 4 = b3
  generalize btw (slen c.2.2.2.1) 1 16 = b4
  generalize ile (slen c.2.2.2.2.1) 40 = b5
  generalize ile (slen c.2.2.2.2.2.1) 40 = b6
  generalize seq c.2.2.2.2.1 e0 = b7
  generalize seq c.2.2.2.2.2.1 e0 = b8
  generalize ieq c.2.2.1 2 = b9
  generalize ieq c.2.2.1 4 = b10
  cases b1 <;> cases b2 <;> cases b3 <;> cases b4 <;> cases b5 <;> cases b6 <;> try rfl
  cases b7 <;> cases b8 <;> cases b9 <;> cases b10 <;> rfl

/-! ### places -/
def posI (l : List DSession) (id : Int) : Nat := posBy (fun y => ilt y.1 id) l
def hasI (l : List DSession) (id : Int) : Bool := atB (fun y => ieq y.1 id) l (posI l id)
def posK (l : List DPair) (key : ByteArray) : Nat := posBy (fun y => slt y.1 key) l
def hasK (l : List DPair) (key : ByteArray) : Bool := atB (fun y => seq y.1 key) l (posK l key)
abbrev SortI (l : List DSession) : Prop := SortedB (fun y => y.1) ilt l
abbrev SortK (l : List DPair) : Prop := SortedB (fun y => y.1) slt l

theorem posBy_cons {α : Type} (p : α → Bool) (A B : List α) (hA : ∀ x ∈ A, p x = true) : posBy p (A ++ B) = A.length + posBy p B := by
  induction A with
  | nil => simp
  | cons x A ih =>
    simp only [List.cons_append, posBy, hA x List.mem_cons_self, cond_true]
    rw [ih fun y hy => hA y (List.mem_cons_of_mem _ hy), List.length_cons]
    omega

theorem f_spec_l14SessionLoop {R : Type} (l : List DSession) (id : Int) (hl : l.length ≤ 1000000) (kk : (((List DSession) × Int × Unit) × Unit) → ((Int × Unit) × Unit) → Option R) : ∀ (B A : List DSession), A ++ B = l → (∀ x ∈ A, ilt x.1 id = true) →
    loopF (c := f_spec_l14Session_l2c) (v := f_spec_l14Session_l2v) (ex := f_spec_l14Session_l2e) f_spec_l14Session_l2 R ((l, (id, ())), ()) ((((A.length : Nat) : Int), ()), ()) kk = kk ((l, (id, ())), ()) ((((posI l id : Nat) : Int), ()), ())
  | [], A, h, hA => by
    subst h
    rw [loopF_done (c' := ((A ++ [], (id, ())), ())) (o := ((((A.length : Nat) : Int), ()), ())) (by simp only [round, f_spec_l14Session_l2, mid_end, cond_false])]
    rw [posI, posBy_cons _ _ _ hA]; rfl
  | y :: B, A, h, hA => by
    have hlen : A.length + 1 ≤ l.length := by rw [← h]; simp
    cases hy : ilt y.1 id with
    | true =>
      rw [loopF_more (c' := ((l, (id, ())), ())) (v' := (((((A ++ [y]).length : Nat) : Int), ()), ())) (by
        rw [← h]
        simp only [round, f_spec_l14Session_l2, mid_lt, cond_true, mid_getO, hy]
        rw [mid_next A y (by omega)])]
      exact f_spec_l14SessionLoop l id hl kk B (A ++ [y]) (by simp [← h]) (fun x hx => by
        rcases List.mem_append.1 hx with hx | hx
        · exact hA x hx
        · rw [List.mem_singleton.1 hx]; exact hy)
    | false =>
      rw [loopF_done (c' := ((l, (id, ())), ())) (o := ((((A.length : Nat) : Int), ()), ())) (by
        rw [← h]
        simp only [round, f_spec_l14Session_l2, mid_lt, cond_true, mid_getO, hy, cond_false])]
      rw [posI, ← h, posBy_cons _ _ _ hA]; simp only [posBy, hy, cond_false, Nat.add_zero]

theorem f_spec_l14SessionVal (x : List DSession × Int × Unit) (hl : x.1.length ≤ 1000000) : f_spec_l14Session x = some ((((posI x.1 x.2.1 : Nat) : Int), (hasI x.1 x.2.1, ())), ()) := by
  obtain ⟨l, id, ⟨⟩⟩ := x
  unfold f_spec_l14Session
  dsimp only
  refine Eq.trans (f_spec_l14SessionLoop l id hl _ l [] rfl (fun x h => by cases h)) ?_
  dsimp only
  unfold hasI
  generalize posI l id = k
  unfold atB
  by_cases h : k < l.length
  · have e := List.getElem?_eq_getElem h
    rw [show ilt (k : Int) (llen l) = true from ilt_iff.2 (by simp only [llen]; omega), cond_true, getO_at (by omega) (by rw [Int.toNat_natCast]; exact e), e]
  · rw [show ilt (k : Int) (llen l) = false from ilt_false.2 (by simp only [llen]; omega), cond_false, List.getElem?_eq_none (by omega)]

theorem f_spec_l14CellLoop {R : Type} (l : List DPair) (id : ByteArray) (hl : l.length ≤ 1000000) (kk : (((List DPair) × ByteArray × Unit) × Unit) → ((Int × Unit) × Unit) → Option R) : ∀ (B A : List DPair), A ++ B = l → (∀ x ∈ A, slt x.1 id = true) →
    loopF (c := f_spec_l14Cell_l2c) (v := f_spec_l14Cell_l2v) (ex := f_spec_l14Cell_l2e) f_spec_l14Cell_l2 R ((l, (id, ())), ()) ((((A.length : Nat) : Int), ()), ()) kk = kk ((l, (id, ())), ()) ((((posK l id : Nat) : Int), ()), ())
  | [], A, h, hA => by
    subst h
    rw [loopF_done (c' := ((A ++ [], (id, ())), ())) (o := ((((A.length : Nat) : Int), ()), ())) (by simp only [round, f_spec_l14Cell_l2, mid_end, cond_false])]
    rw [posK, posBy_cons _ _ _ hA]; rfl
  | y :: B, A, h, hA => by
    have hlen : A.length + 1 ≤ l.length := by rw [← h]; simp
    cases hy : slt y.1 id with
    | true =>
      rw [loopF_more (c' := ((l, (id, ())), ())) (v' := (((((A ++ [y]).length : Nat) : Int), ()), ())) (by
        rw [← h]
        simp only [round, f_spec_l14Cell_l2, mid_lt, cond_true, mid_getO, hy]
        rw [mid_next A y (by omega)])]
      exact f_spec_l14CellLoop l id hl kk B (A ++ [y]) (by simp [← h]) (fun x hx => by
        rcases List.mem_append.1 hx with hx | hx
        · exact hA x hx
        · rw [List.mem_singleton.1 hx]; exact hy)
    | false =>
      rw [loopF_done (c' := ((l, (id, ())), ())) (o := ((((A.length : Nat) : Int), ()), ())) (by
        rw [← h]
        simp only [round, f_spec_l14Cell_l2, mid_lt, cond_true, mid_getO, hy, cond_false])]
      rw [posK, ← h, posBy_cons _ _ _ hA]; simp only [posBy, hy, cond_false, Nat.add_zero]

theorem f_spec_l14CellVal (x : List DPair × ByteArray × Unit) (hl : x.1.length ≤ 1000000) : f_spec_l14Cell x = some ((((posK x.1 x.2.1 : Nat) : Int), (hasK x.1 x.2.1, ())), ()) := by
  obtain ⟨l, id, ⟨⟩⟩ := x
  unfold f_spec_l14Cell
  dsimp only
  refine Eq.trans (f_spec_l14CellLoop l id hl _ l [] rfl (fun x h => by cases h)) ?_
  dsimp only
  unfold hasK
  generalize posK l id = k
  unfold atB
  by_cases h : k < l.length
  · have e := List.getElem?_eq_getElem h
    rw [show ilt (k : Int) (llen l) = true from ilt_iff.2 (by simp only [llen]; omega), cond_true, getO_at (by omega) (by rw [Int.toNat_natCast]; exact e), e]
  · rw [show ilt (k : Int) (llen l) = false from ilt_false.2 (by simp only [llen]; omega), cond_false, List.getElem?_eq_none (by omega)]

/-! ### by halves -/
theorem f_cmp_Compare_intVal (x : Int × Int × Unit) : f_cmp_Compare_int x = some ((cmpI x.1 x.2.1, ()), ()) := by
  unfold f_cmp_Compare_int f_cmp_isNaN_int cmpI
  simp only [bnd_some, ieq_iff.2, Bool.not_true, cond_false]
  cases ilt x.1 x.2.1 <;> cases ilt x.2.1 x.1 <;> rfl
theorem f_cmp_Compare_stringVal (x : ByteArray × ByteArray × Unit) : f_cmp_Compare_string x = some ((cmpS x.1 x.2.1, ()), ()) := by
  unfold f_cmp_Compare_string f_cmp_isNaN_string cmpS
  simp only [bnd_some, (seq_iff _ _).2, Bool.not_true, cond_false]
  cases slt x.1 x.2.1 <;> cases seq x.1 x.2.1 <;> rfl

theorem f_impl_sessionAtVal (x : DKvState × Int × Unit) (hl : x.1.2.1.length ≤ 1000000) (hs : SortI x.1.2.1) : f_impl_KvState_sessionAt x = some ((((posI x.1.2.1 x.2.1 : Nat) : Int), (hasI x.1.2.1 x.2.1, ())), (x.1, ())) := by
  obtain ⟨s, id, ⟨⟩⟩ := x
  unfold f_impl_KvState_sessionAt
  dsimp only at hl hs ⊢
  rw [bs_Session_int s.2.1 id _ (fun y t => cmpI y.1 t) (fun z => by unfold f_impl_KvState_sessionAt_1; simp only [f_cmp_Compare_intVal, bnd_some]) hl (by
    simp only [cmpI_lt]
    exact sorted_mono strictI hs id)]
  simp only [bnd_some, cmpI_lt, cmpI_eq]
  rfl
theorem f_impl_cellAtVal (x : DKvState × ByteArray × Unit) (hl : x.1.1.length ≤ 1000000) (hs : SortK x.1.1) : f_impl_KvState_cellAt x = some ((((posK x.1.1 x.2.1 : Nat) : Int), (hasK x.1.1 x.2.1, ())), (x.1, ())) := by
  obtain ⟨s, id, ⟨⟩⟩ := x
  unfold f_impl_KvState_cellAt
  dsimp only at hl hs ⊢
  rw [bs_Pair_string s.1 id _ (fun y t => cmpS y.1 t) (fun z => by unfold f_impl_KvState_cellAt_1; simp only [f_cmp_Compare_stringVal, bnd_some]) hl (by
    simp only [cmpS_lt]
    exact sorted_mono strictS hs id)]
  simp only [bnd_some, cmpS_lt, cmpS_eq]
  rfl

end Go.Proofs.Ytogmfilmfkepfaa
