/- Items in order: what is put into a good run leaves a good run. -/
import Derived.Test.YtncalmofbcmkaaaGreatT2Bld
import Derived.Test.YtncalmofbcmkaaaGreatR1Draw
set_option linter.all false
noncomputable section
namespace Go.Proofs.YtncalmofbcmkaaaGreat
open Go Go.Proofs.YtncalmofbcmkaaaGreat.Ev

/-! ### the order of texts -/
theorem less_trans : ∀ {a b c : List UInt8}, Op.bytesLess a b = true → Op.bytesLess b c = true → Op.bytesLess a c = true
  | [], [], c, h, _ => by simp [Op.bytesLess] at h
  | [], _ :: _, [], _, h => by simp [Op.bytesLess] at h
  | [], _ :: _, _ :: _, _, _ => by simp [Op.bytesLess]
  | _ :: _, [], c, h, _ => by simp [Op.bytesLess] at h
  | _ :: _, _ :: _, [], _, h => by simp [Op.bytesLess] at h
  | x :: a, y :: b, z :: c, h1, h2 => by
    have ih := @less_trans a b c
    simp only [Op.bytesLess, Bool.or_eq_true, decide_eq_true_eq, Bool.and_eq_true, beq_iff_eq] at h1 h2 ⊢
    rcases h1 with h1 | ⟨h1, h1'⟩ <;> rcases h2 with h2 | ⟨h2, h2'⟩
    · exact .inl (UInt8.lt_trans h1 h2)
    · subst h2; exact .inl h1
    · subst h1; exact .inl h2
    · subst h1; subst h2; exact .inr ⟨rfl, ih h1' h2'⟩
theorem less_tri : ∀ (a b : List UInt8), a = b ∨ Op.bytesLess a b = true ∨ Op.bytesLess b a = true
  | [], [] => .inl rfl
  | [], _ :: _ => .inr (.inl (by simp [Op.bytesLess]))
  | _ :: _, [] => .inr (.inr (by simp [Op.bytesLess]))
  | x :: a, y :: b => by
    simp only [Op.bytesLess, Bool.or_eq_true, decide_eq_true_eq, Bool.and_eq_true, beq_iff_eq]
    rcases Classical.em (x = y) with h | h
    · subst h
      rcases less_tri a b with h | h | h
      · exact .inl (by rw [h])
      · exact .inr (.inl (.inr ⟨rfl, h⟩))
      · exact .inr (.inr (.inr ⟨rfl, h⟩))
    · rcases UInt8.lt_or_lt_of_ne h with h | h
      · exact .inr (.inl (.inl h))
      · exact .inr (.inr (.inl h))

theorem bytes_inj {a b : ByteArray} (h : a.toList = b.toList) : a = b := (seq_iff a b).1 (by simp [seq, h])

/-! ### the order of items -/
def LtI (x y : DItem) : Prop := ilt (cmpItem x y) 0 = true
theorem ltI_iff (x y : DItem) : LtI x y ↔ (slt x.1 y.1 = true ∨ (x.1 = y.1 ∧ y.2.1 < x.2.1)) := by
  unfold LtI cmpItem
  by_cases h1 : slt x.1 y.1 = true
  · rw [h1]; simp [ilt]
  · have h1' : slt x.1 y.1 = false := by simpa using h1
    rw [h1', cond_false]
    by_cases h2 : x.1 = y.1
    · rw [(seq_iff _ _).2 h2, cond_true]
      by_cases h3 : y.2.1 < x.2.1
      · rw [ilt_iff.2 h3]; simp [ilt, h2, h3]
      · rw [show ilt y.2.1 x.2.1 = false from ilt_false.2 (by omega), cond_false]
        simp only [h2, true_and, h3, or_false]
        cases ieq x.2.1 y.2.1 <;> simp [ilt]
    · rw [seq_false.2 h2]; simp [ilt, h2]
theorem slt_trans {a b c : ByteArray} (h1 : slt a b = true) (h2 : slt b c = true) : slt a c = true := less_trans h1 h2
theorem LtI.trans {x y z : DItem} (h1 : LtI x y) (h2 : LtI y z) : LtI x z := by
  rw [ltI_iff] at *
  rcases h1 with h1 | ⟨h1, h1'⟩ <;> rcases h2 with h2 | ⟨h2, h2'⟩
  · exact .inl (slt_trans h1 h2)
  · exact .inl (h2 ▸ h1)
  · exact .inl (h1 ▸ h2)
  · exact .inr ⟨h1.trans h2, by omega⟩
theorem ltI_tri (x y : DItem) : LtI x y ∨ LtI y x ∨ cmpItem x y = 0 := by
  rw [ltI_iff, ltI_iff]
  rcases less_tri x.1.toList y.1.toList with h | h | h
  · have h := bytes_inj h
    rcases Int.lt_trichotomy x.2.1 y.2.1 with h3 | h3 | h3
    · exact .inr (.inl (.inr ⟨h.symm, h3⟩))
    · refine .inr (.inr ?_)
      simp only [cmpItem, h, h3, slt_irrefl, seq_self, cond_false, cond_true]
      rw [ilt_false.2 (Int.le_refl _), ieq_self]; rfl
    · exact .inl (.inr ⟨h, h3⟩)
  · exact .inl (.inl h)
  · exact .inr (.inl (.inl h))

theorem goodRun_pw {l : List DItem} : goodRun l = true ↔ (∀ x ∈ l, goodItem x = true) ∧ l.Pairwise LtI := by
  rw [goodRun_iff, List.pairwise_iff_getElem]
  constructor
  · intro h
    refine ⟨fun x hx => ?_, ?_⟩
    · obtain ⟨j, hj⟩ := List.mem_iff_getElem?.1 hx
      exact (h j x hj).1
    · have key : ∀ (d i : Nat) (hi : i + d + 1 < l.length), LtI (l[i]'(by omega)) (l[i + d + 1]'hi) := by
        intro d
        induction d with
        | zero =>
          intro i hi
          exact (h (i + 1) _ (List.getElem?_eq_getElem hi)).2 i _ rfl (List.getElem?_eq_getElem (by omega))
        | succ d ih =>
          intro i hi
          have h1 := ih i (by omega)
          have h2 : LtI (l[i + d + 1]'(by omega)) (l[i + (d + 1) + 1]'hi) := (h (i + (d + 1) + 1) _ (List.getElem?_eq_getElem hi)).2 (i + d + 1) _ (by omega) (List.getElem?_eq_getElem (by omega))
          exact h1.trans h2
      intro i j hi hj hij
      have e : i + (j - i - 1) + 1 = j := by omega
      have := key (j - i - 1) i (by rw [e]; exact hj)
      simpa only [e] using this
  · rintro ⟨h1, h2⟩ j x hx
    have hj := (List.getElem?_eq_some_iff.1 hx).1
    refine ⟨h1 x (List.mem_of_getElem? hx), ?_⟩
    intro i y hi hy
    have hi2 := (List.getElem?_eq_some_iff.1 hy).1
    have := h2 i j hi2 hj (by omega)
    rw [(List.getElem?_eq_some_iff.1 hx).2, (List.getElem?_eq_some_iff.1 hy).2] at this
    exact this

/-! ### the place that is sought -/
theorem bsGo_is {l : List DItem} (hl : l.Pairwise LtI) (x : DItem) : ∀ (f lo hi : Nat), hi < f + lo → lo ≤ hi → hi ≤ l.length → (∀ i y, i < lo → l[i]? = some y → LtI y x) → (∀ i y, hi ≤ i → l[i]? = some y → ¬ LtI y x) →
    (∀ i y, i < bsGo l x f lo hi → l[i]? = some y → LtI y x) ∧ (∀ i y, bsGo l x f lo hi ≤ i → l[i]? = some y → ¬ LtI y x) := by
  rw [List.pairwise_iff_getElem] at hl
  have pw : ∀ (i j : Nat) (y z : DItem), i < j → l[i]? = some y → l[j]? = some z → LtI y z := by
    intro i j y z hij hy hz
    have h1 := List.getElem?_eq_some_iff.1 hy
    have h2 := List.getElem?_eq_some_iff.1 hz
    have := hl i j h1.1 h2.1 hij
    rwa [h1.2, h2.2] at this
  intro f
  induction f with
  | zero => intro lo hi h1 h2; omega
  | succ f ih =>
    intro lo hi h1 h2 h3 ha hb
    rw [bsGo]
    by_cases hlt : lo < hi
    · rw [if_pos hlt]
      obtain ⟨m, hm⟩ : ∃ m, m = (lo + hi) / 2 := ⟨_, rfl⟩
      rw [← hm]
      obtain ⟨y, hy⟩ : ∃ y, l[m]? = some y := ⟨_, List.getElem?_eq_getElem (by omega)⟩
      rw [hy]
      dsimp only
      cases hc : ilt (cmpItem y x) 0 with
      | true =>
        rw [cond_true]
        refine ih (m + 1) hi (by omega) (by omega) h3 (fun i z hi' hz => ?_) hb
        by_cases he : i = m
        · subst he; rw [hy] at hz; injection hz with hz; subst hz; exact hc
        · exact (pw i m z y (by omega) hz hy).trans hc
      | false =>
        rw [cond_false]
        refine ih lo m (by omega) (by omega) (by omega) ha (fun i z hi' hz hlt' => ?_)
        by_cases he : i = m
        · subst he; rw [hy] at hz; injection hz with hz; subst hz
          rw [LtI, hc] at hlt'; cases hlt'
        · have := (pw m i y z (by omega) hy hz).trans hlt'
          rw [LtI, hc] at this; cases this
    · rw [if_neg hlt]
      exact ⟨fun i y hi' hy => ha i y hi' hy, fun i y hi' hy => hb i y (by omega) hy⟩

theorem seekN_is {l : List DItem} (hl : l.Pairwise LtI) (x : DItem) : (∀ i y, i < seekN l x → l[i]? = some y → LtI y x) ∧ (∀ i y, seekN l x ≤ i → l[i]? = some y → ¬ LtI y x) :=
  bsGo_is hl x (l.length + 1) 0 l.length (by omega) (by omega) (Nat.le_refl _) (fun i y h => absurd h (Nat.not_lt_zero i)) (fun i y h hy => absurd (List.getElem?_eq_some_iff.1 hy).1 (Nat.not_lt.2 h))
theorem seekN_le (l : List DItem) (x : DItem) : seekN l x ≤ l.length := bsGo_le l x _ 0 l.length (by omega)

theorem pw_put {l : List DItem} (hl : l.Pairwise LtI) {x : DItem} (hn : ∀ y, l[seekN l x]? = some y → cmpItem y x ≠ 0) : (l.take (seekN l x) ++ [x] ++ l.drop (seekN l x)).Pairwise LtI := by
  obtain ⟨h1, h2⟩ := seekN_is hl x
  have hk := seekN_le l x
  generalize seekN l x = k at *
  have hbefore : ∀ y ∈ l.take k, LtI y x := by
    intro y hy
    obtain ⟨i, hi⟩ := List.mem_iff_getElem?.1 hy
    have hik : i < k := by
      have := (List.getElem?_eq_some_iff.1 hi).1
      rw [List.length_take] at this; omega
    rw [List.getElem?_take_of_lt hik] at hi
    exact h1 i y hik hi
  have hafter : ∀ y ∈ l.drop k, LtI x y := by
    intro y hy
    have hk2 : k < l.length := by
      have := List.length_pos_of_mem hy
      rw [List.length_drop] at this; omega
    have hat : l[k]? = some l[k] := List.getElem?_eq_getElem hk2
    have hx : LtI x l[k] := by
      rcases ltI_tri l[k] x with h | h | h
      · exact absurd h (h2 k _ (Nat.le_refl _) hat)
      · exact h
      · exact absurd h (hn _ hat)
    obtain ⟨i, hi⟩ := List.mem_iff_getElem?.1 hy
    rw [List.getElem?_drop] at hi
    cases i with
    | zero => rw [Nat.add_zero, hat] at hi; injection hi with hi; rw [← hi]; exact hx
    | succ i =>
      refine hx.trans ?_
      rw [List.pairwise_iff_getElem] at hl
      have hg := List.getElem?_eq_some_iff.1 hi
      have := hl k (k + (i + 1)) hk2 hg.1 (by omega)
      rwa [hg.2] at this
  have hsplit : (l.take k ++ l.drop k).Pairwise LtI := by rw [List.take_append_drop]; exact hl
  rw [List.pairwise_append] at hsplit
  rw [List.append_assoc, List.pairwise_append]
  refine ⟨hsplit.1, ?_, ?_⟩
  · rw [List.singleton_append, List.pairwise_cons]
    exact ⟨hafter, hsplit.2.1⟩
  · intro a ha b hb
    rw [List.singleton_append, List.mem_cons] at hb
    rcases hb with rfl | hb
    · exact hbefore a ha
    · exact hsplit.2.2 a ha b hb

theorem f_spec_l6PutGood {x : List DItem × DItem × Unit} (hl : x.1.length ≤ 1000000) (hg : goodRun x.1 = true) (hx : goodItem x.2.1 = true) : Does (f_spec_l6Put x) fun r => goodRun r.1.1 = true ∧ r.1.1.length ≤ x.1.length + 1 := by
  obtain ⟨l, y, ⟨⟩⟩ := x
  dsimp only at hl hg hx ⊢
  have hpw := goodRun_pw.1 hg
  unfold f_spec_l6Put
  dsimp only
  rw [f_spec_l6SeekVal _ hl, bnd_some]
  dsimp only
  have hk := seekN_le l y
  have fin : (∀ z, l[seekN l y]? = some z → cmpItem z y ≠ 0) → Does (Ev.req (decide ((0 : Int) ≤ ((seekN l y : Nat) : Int)) && decide (((seekN l y : Nat) : Int) ≤ ((List.length l) : Int))) (Ev.req (decide (List.length ([] : List DItem) + List.length (List.take ((Int.toNat ((seekN l y : Nat) : Int)) - (0 : Nat)) (List.drop (0 : Nat) l)) ≤ 17179869184)) (Ev.req (decide (List.length (([] : List DItem) ++ (List.take ((Int.toNat ((seekN l y : Nat) : Int)) - (0 : Nat)) (List.drop (0 : Nat) l))) + List.length [y] ≤ 17179869184)) (Ev.req (decide ((0 : Int) ≤ ((seekN l y : Nat) : Int)) && decide (((seekN l y : Nat) : Int) ≤ ((List.length l) : Int))) (Ev.req (decide (List.length ((([] : List DItem) ++ (List.take ((Int.toNat ((seekN l y : Nat) : Int)) - (0 : Nat)) (List.drop (0 : Nat) l))) ++ [y]) + List.length (List.take ((List.length l) - (Int.toNat ((seekN l y : Nat) : Int))) (List.drop (Int.toNat ((seekN l y : Nat) : Int)) l)) ≤ 17179869184)) (some (((((([] : List DItem) ++ (List.take ((Int.toNat ((seekN l y : Nat) : Int)) - (0 : Nat)) (List.drop (0 : Nat) l))) ++ [y]) ++ (List.take ((List.length l) - (Int.toNat ((seekN l y : Nat) : Int))) (List.drop (Int.toNat ((seekN l y : Nat) : Int)) l))), ()), ())))))))
      (fun r : ((List DItem) × Unit) × Unit => goodRun r.1.1 = true ∧ r.1.1.length ≤ l.length + 1) := by
    intro hn
    refine Does.req (by simp; omega) (Does.req (by simp; omega) (Does.req (by simp; omega) (Does.req (by simp; omega) (Does.req (by simp; omega) (Does.val ?_)))))
    dsimp only
    rw [Int.toNat_natCast, Nat.sub_zero, List.drop_zero, List.nil_append, List.take_of_length_le (show (List.drop (seekN l y) l).length ≤ l.length - seekN l y by rw [List.length_drop]; exact Nat.le_refl _)]
    refine ⟨goodRun_pw.2 ⟨fun z hz => ?_, pw_put hpw.2 hn⟩, ?_⟩
    · rw [List.append_assoc, List.mem_append, List.singleton_append, List.mem_cons] at hz
      rcases hz with hz | rfl | hz
      · exact hpw.1 z (List.mem_of_mem_take hz)
      · exact hx
      · exact hpw.1 z (List.mem_of_mem_drop hz)
    · simp only [List.length_append, List.length_take, List.length_drop, List.length_cons, List.length_nil]
      omega
  by_cases hlt : seekN l y < l.length
  · have hat : l[seekN l y]? = some l[seekN l y] := List.getElem?_eq_getElem hlt
    rw [show ilt ((seekN l y : Nat) : Int) (llen l) = true from ilt_iff.2 (by simp only [llen]; omega), cond_true, getO_at (by omega) (by rw [Int.toNat_natCast]; exact hat), Int.toNat_natCast, hat, bnd_some, f_spec_l4CompareVal, bnd_some]
    refine Does.cond (fun _ => Does.val ⟨hg, by dsimp only; omega⟩) (fun hne => ?_)
    have := fin (fun z hz => by
      rw [hat] at hz; injection hz with hz; subst hz
      exact ieq_false.1 hne)
    rw [Int.toNat_natCast] at this
    exact this
  · rw [show ilt ((seekN l y : Nat) : Int) (llen l) = false from ilt_false.2 (by simp only [llen]; omega), cond_false]
    exact fin (fun z hz => by have := (List.getElem?_eq_some_iff.1 hz).1; omega)

theorem f_spec_l1Cur_runGood {n m : Nat} {x : Dl1Cur × Int × Unit} (h : CurOk n x.1) (hx : x.2.1 = (m : Int)) (hm : m ≤ 10000) (hn : n ≤ 1099000000000) : Does (f_spec_l1Cur_run x) fun r => goodRun r.1.1 = true ∧ r.1.1.length ≤ m ∧ CurOk (n + 40 * m) r.2.1 := by
  obtain ⟨c, k, ⟨⟩⟩ := x
  dsimp only at h hx
  subst hx
  unfold f_spec_l1Cur_run
  dsimp only
  refine Does.loop (c := f_spec_l1Cur_run_l2c) (v := f_spec_l1Cur_run_l2v) (ex := f_spec_l1Cur_run_l2e)
    (fun xc xv => ∃ j i : Nat, xv.1.1 = (j : Int) ∧ j + i = m ∧ xv.2.2.1.length ≤ i ∧ goodRun xv.2.2.1 = true ∧ CurOk (n + 40 * i) xv.2.1) (fun xc xv => Int.toNat xv.1.1) ?_ ⟨m, 0, rfl, rfl, by simp, rfl, h⟩
  rintro ⟨⟨⟩, ⟨⟩⟩ ⟨⟨j, ⟨⟩⟩, c, l, ⟨⟩⟩ ⟨j, i, h1, h2, h3, hg, h4⟩
  dsimp only at h1 h3 h4 hg
  subst h1
  simp only [round, f_spec_l1Cur_run_l2]
  refine Does.cond (fun hlt => ?_) (fun hlt => ?_)
  · have hlt := ilt_iff.1 hlt
    refine Does.bnd (f_spec_l1Cur_itemDoes (x := (c, ())) h4 (by omega)) fun r hr => ?_
    rw [f_spec_GoodItemVal, bnd_some]
    unfold f_spec_l1Cur_run_i6
    have e : isub .i64 (j : Int) (1 : Int) = ((j - 1 : Nat) : Int) := by rw [isub_i64 (by omega)]; omega
    refine Does.cond (fun hgi => ?_) (fun _ => ?_)
    · refine Does.bnd (f_spec_l6PutGood (x := (l, (r.1.1, ()))) (by dsimp only; omega) hg hgi) fun r3 h5 => Does.val ?_
      dsimp only at h5 ⊢
      rw [e]
      exact ⟨⟨j - 1, i + 1, rfl, by omega, by omega, h5.1, hr.le (by omega)⟩, by omega⟩
    · refine Does.val ?_
      dsimp only
      rw [e]
      exact ⟨⟨j - 1, i + 1, rfl, by omega, by omega, hg, hr.le (by omega)⟩, by omega⟩
  · have hlt := ilt_false.1 hlt
    refine Does.val (Does.val ⟨hg, by dsimp only; omega, h4.le (by omega)⟩)

end Go.Proofs.YtncalmofbcmkaaaGreat
