/- Frames and indexes, read on both sides. -/
import Derived.Test.YtncalmofbcmkaaaGreatT1Tab
import Derived.Test.YtncalmofbcmkaaaGreatR1Back
set_option linter.all false
noncomputable section
namespace Go.Proofs.YtncalmofbcmkaaaGreat
open Go Go.Proofs.YtncalmofbcmkaaaGreat.Ev

/-! ### asked things without instances -/
def reqP {R : Type} (p : Prop) (k : Option R) : Option R := @ite _ p (Classical.propDecidable p) k none
theorem reqD1 {R : Type} {a : Prop} [Decidable a] (k : Option R) : req (decide a) k = reqP a k := by
  by_cases h : a
  · simp [reqP, h, req]
  · simp [reqP, h, req]
theorem reqD2 {R : Type} {a b : Prop} [Decidable a] [Decidable b] (k : Option R) : req (decide a && decide b) k = reqP (a ∧ b) k := by rw [← Bool.decide_and, reqD1]
theorem reqD3 {R : Type} {a b c : Prop} [Decidable a] [Decidable b] [Decidable c] (k : Option R) : req (decide a && (decide b && decide c)) k = reqP (a ∧ b ∧ c) k := by rw [← Bool.decide_and, ← Bool.decide_and, reqD1]
theorem reqP_true {R : Type} {p : Prop} (h : p) (k : Option R) : reqP p k = k := by simp [reqP, h]

/-! ### frames -/
def takeFr (s : ByteArray) : Option (ByteArray × Nat) :=
  if (takeVar s).2 = 0 then none else if 1000 < (takeVar s).1 then none else if s.size < (takeVar s).2 + 4 + (takeVar s).1 then none else
  if strOf (lows 4 (sumOf (s.extract ((takeVar s).2 + 4) ((takeVar s).2 + 4 + (takeVar s).1)))) = s.extract (takeVar s).2 ((takeVar s).2 + 4) then
    some (s.extract ((takeVar s).2 + 4) ((takeVar s).2 + 4 + (takeVar s).1), (takeVar s).2 + 4 + (takeVar s).1) else none
def frR (q : Option (ByteArray × Nat)) : (ByteArray × Int × Bool × Unit) × Unit := match q with
  | none => ((⟨#[]⟩, ((0 : Int), (false, ()))), ())
  | some q => ((q.1, ((q.2 : Int), (true, ()))), ())

theorem takeFr_size {s : ByteArray} {q : ByteArray × Nat} (h : takeFr s = some q) : q.1.size ≤ 1000 ∧ q.2 ≤ s.size := by
  simp only [takeFr] at h
  split at h
  · cases h
  split at h
  · cases h
  split at h
  · cases h
  split at h
  · injection h with h; subst h
    simp only [ByteArray.size_extract]; omega
  · cases h

theorem f_impl_TakeFrameVal (x : ByteArray × Unit) (hs : x.1.size ≤ 1048576) : f_impl_TakeFrame x = some (frR (takeFr x.1)) := by
  obtain ⟨s, ⟨⟩⟩ := x
  dsimp only at hs
  unfold f_impl_TakeFrame takeFr
  rw [val_f_impl_TakeVar, bnd_some]
  dsimp only
  by_cases h1 : (takeVar s).2 = 0
  · rw [if_pos h1, show ieq ((takeVar s).2 : Int) (0 : Int) = true from ieq_iff.2 (by omega), cond_true]; rfl
  rw [if_neg h1, show ieq ((takeVar s).2 : Int) (0 : Int) = false from ieq_false.2 (by omega), cond_false]
  by_cases h2 : 1000 < (takeVar s).1
  · rw [if_pos h2, show ilt (1000 : Int) ((takeVar s).1 : Int) = true from ilt_iff.2 (by omega), cond_true]; rfl
  have hv := takeVar_ok s
  rw [if_neg h2, show ilt (1000 : Int) ((takeVar s).1 : Int) = false from ilt_false.2 (by omega), cond_false]
  rw [show iadd .i64 ((takeVar s).2 : Int) (4 : Int) = (((takeVar s).2 + 4 : Nat) : Int) from iaddN (b := 4) (by omega), iaddN (by omega)]
  by_cases h3 : s.size < (takeVar s).2 + 4 + (takeVar s).1
  · rw [if_pos h3, show ilt (slen s) (((takeVar s).2 + 4 + (takeVar s).1 : Nat) : Int) = true from ilt_iff.2 (by simp only [slen]; omega), cond_true]; rfl
  rw [if_neg h3, show ilt (slen s) (((takeVar s).2 + 4 + (takeVar s).1 : Nat) : Int) = false from ilt_false.2 (by simp only [slen]; omega), cond_false]
  rw [bounds3 (by omega) (by omega), req_true, f_impl_SumOfVal _ (by simp only [ByteArray.size_extract]; omega), bnd_some]
  dsimp only
  rw [f_impl_lowFirstVal _ 4 (by omega) rfl, bnd_some]
  dsimp only
  rw [bounds3 (by omega) (by omega), req_true]
  simp only [Int.toNat_natCast]
  by_cases h4 : strOf (lows 4 (sumOf (s.extract ((takeVar s).2 + 4) ((takeVar s).2 + 4 + (takeVar s).1)))) = s.extract (takeVar s).2 ((takeVar s).2 + 4)
  · rw [if_pos h4, (seq_iff _ _).2 h4]; rfl
  · rw [if_neg h4, seq_false.2 h4]; rfl

theorem f_spec_l2TakeFrameVal (x : ByteArray × Unit) (hs : x.1.size ≤ 1048576) : f_spec_l2TakeFrame x = some (frR (takeFr x.1)) := by
  obtain ⟨s, ⟨⟩⟩ := x
  dsimp only at hs
  unfold f_spec_l2TakeFrame takeFr
  rw [val_f_spec_l2Take, bnd_some]
  dsimp only
  by_cases h1 : (takeVar s).2 = 0
  · rw [if_pos h1, show ieq ((takeVar s).2 : Int) (0 : Int) = true from ieq_iff.2 (by omega), cond_true]; rfl
  rw [if_neg h1, show ieq ((takeVar s).2 : Int) (0 : Int) = false from ieq_false.2 (by omega), cond_false]
  by_cases h2 : 1000 < (takeVar s).1
  · rw [if_pos h2, show ilt (1000 : Int) ((takeVar s).1 : Int) = true from ilt_iff.2 (by omega), cond_true]; rfl
  have hv := takeVar_ok s
  rw [if_neg h2, show ilt (1000 : Int) ((takeVar s).1 : Int) = false from ilt_false.2 (by omega), cond_false]
  rw [show iadd .i64 ((takeVar s).2 : Int) (4 : Int) = (((takeVar s).2 + 4 : Nat) : Int) from iaddN (b := 4) (by omega), iaddN (by omega)]
  by_cases h3 : s.size < (takeVar s).2 + 4 + (takeVar s).1
  · rw [if_pos h3, show ilt (slen s) (((takeVar s).2 + 4 + (takeVar s).1 : Nat) : Int) = true from ilt_iff.2 (by simp only [slen]; omega), cond_true]; rfl
  rw [if_neg h3, show ilt (slen s) (((takeVar s).2 + 4 + (takeVar s).1 : Nat) : Int) = false from ilt_false.2 (by simp only [slen]; omega), cond_false]
  rw [bounds3 (by omega) (by omega), req_true, f_spec_l2SumVal _ (by simp only [ByteArray.size_extract]; omega), bnd_some]
  dsimp only
  rw [f_spec_l2WordVal, bnd_some]
  dsimp only
  rw [bounds3 (by omega) (by omega), req_true]
  simp only [Int.toNat_natCast]
  by_cases h4 : strOf (lows 4 (sumOf (s.extract ((takeVar s).2 + 4) ((takeVar s).2 + 4 + (takeVar s).1)))) = s.extract (takeVar s).2 ((takeVar s).2 + 4)
  · rw [if_pos h4, (seq_iff _ _).2 h4]; rfl
  · rw [if_neg h4, seq_false.2 h4]; rfl

theorem mid_extract {A B C : ByteArray} {a b : Nat} (ha : a = A.size) (hb : b = A.size + B.size) : (A ++ B ++ C).extract a b = B := by
  subst ha; subst hb
  have h1 : (A ++ B ++ C).extract A.size (A.size + B.size) = (dr (A ++ B ++ C) A.size).extract 0 B.size := by
    rw [dr_head _ _ _ (by simp only [ByteArray.size_append]; omega)]
  rw [h1, ByteArray.append_assoc, dr_append, head_append _ _ rfl]

theorem takeFr_back (t r : ByteArray) (h : t.size ≤ 1000) : takeFr (frameB t ++ r) = some (t, (frameB t).size) := by
  have e : frameB t ++ r = varB t.size ++ (strOf (lows 4 (sumOf t)) ++ (t ++ r)) := by simp only [frameB, ByteArray.append_assoc]
  have hv : takeVar (frameB t ++ r) = (t.size, (varB t.size).size) := by rw [e]; exact takeVar_varB _ _ (by omega)
  have hp := varB_pos t.size
  have hfs : (frameB t).size = (varB t.size).size + 4 + t.size := by simp only [frameB, ByteArray.size_append, strOf_size, lows_length]
  have x1 : (frameB t ++ r).extract ((varB t.size).size + 4) ((varB t.size).size + 4 + t.size) = t := by
    rw [frameB]
    exact mid_extract (by simp only [ByteArray.size_append, strOf_size, lows_length]) (by simp only [ByteArray.size_append, strOf_size, lows_length])
  have x2 : (frameB t ++ r).extract (varB t.size).size ((varB t.size).size + 4) = strOf (lows 4 (sumOf t)) := by
    rw [frameB, ByteArray.append_assoc]
    exact mid_extract rfl (by simp only [strOf_size, lows_length])
  simp only [takeFr, hv]
  rw [if_neg (by omega), if_neg (by omega), if_neg (by rw [ByteArray.size_append, hfs]; omega), x1, x2, if_pos rfl, hfs]

/-! ### one record of an index -/
def rec1 (s : ByteArray) : Option ((ByteArray × Nat × Nat × Nat) × ByteArray) :=
  if (takeVar s).2 = 0 then none else if s.size < (takeVar s).2 + (takeVar s).1 then none else
  let s1 := dr s ((takeVar s).2 + (takeVar s).1)
  if (takeVar s1).2 = 0 then none else
  let s2 := dr s1 (takeVar s1).2
  if (takeVar s2).2 = 0 then none else
  let s3 := dr s2 (takeVar s2).2
  if (takeVar s3).2 = 0 then none else
  some ((s.extract (takeVar s).2 ((takeVar s).2 + (takeVar s).1), (takeVar s1).1, (takeVar s2).1, (takeVar s3).1), dr s3 (takeVar s3).2)

theorem rec1_ok {s : ByteArray} {q : (ByteArray × Nat × Nat × Nat) × ByteArray} (h : rec1 s = some q) : q.2.size + 4 ≤ s.size ∧ q.1.2.2.1 < 9223372036854775808 ∧ q.1.2.2.2 < 9223372036854775808 := by
  simp only [rec1] at h
  split at h
  · cases h
  split at h
  · cases h
  split at h
  · cases h
  split at h
  · cases h
  split at h
  · cases h
  injection h with h; subst h
  have h1 := takeVar_ok (dr s ((takeVar s).2 + (takeVar s).1))
  generalize hA : dr s ((takeVar s).2 + (takeVar s).1) = A at *
  have h2 := takeVar_ok (dr A (takeVar A).2)
  generalize hB : dr A (takeVar A).2 = B at *
  have h3 := takeVar_ok (dr B (takeVar B).2)
  generalize hC : dr B (takeVar B).2 = C at *
  have e1 := congrArg ByteArray.size hA
  have e2 := congrArg ByteArray.size hB
  have e3 := congrArg ByteArray.size hC
  rw [dr_size] at e1 e2 e3
  refine ⟨?_, h2.1, h3.1⟩
  show (dr C (takeVar C).2).size + 4 ≤ s.size
  rw [dr_size]
  omega

theorem sizedE (x : Dtaker × Unit) : f_impl_taker_sized x = some ((textX (numS x.1) (numK x.1), ()), (textS (numS x.1) (numK x.1), ())) := by
  unfold f_impl_taker_sized
  rw [numE, bnd_some, textE _ (numK x.1) rfl, bnd_some]

def q1 (s : ByteArray) : Dtaker := textS (numS (s, (false, ()))) (numK (s, (false, ())))
def q2 (s : ByteArray) : Dtaker := numS (q1 s)
def q3 (s : ByteArray) : Dtaker := numS (q2 s)
def q4 (s : ByteArray) : Dtaker := numS (q3 s)

theorem rec1_is (s : ByteArray) : match rec1 s with
    | none => (q4 s).2.1 = true
    | some q => textX (numS (s, (false, ()))) (numK (s, (false, ()))) = q.1.1 ∧ numK (q1 s) = q.1.2.1 ∧ numK (q2 s) = q.1.2.2.1 ∧ numK (q3 s) = q.1.2.2.2 ∧ q4 s = (q.2, (false, ())) := by
  have nb : ∀ t, numS (t, (true, ())) = (t, (true, ())) := fun _ => rfl
  have tb : ∀ t n, textS (t, (true, ())) n = (t, (true, ())) := fun _ _ => rfl
  have k0 : numK (s, (false, ())) = (takeVar s).1 := rfl
  have hv := takeVar_ok s
  by_cases h1 : (takeVar s).2 = 0
  · have e0 : numS (s, (false, ())) = (s, (true, ())) := by simp [numS, h1]
    simp only [rec1, h1, if_true, q4, q3, q2, q1, e0, nb, tb]
  have e0 : numS (s, (false, ())) = (dr s (takeVar s).2, (false, ())) := by simp [numS, h1]
  by_cases h2 : s.size < (takeVar s).2 + (takeVar s).1
  · have e1 : q1 s = (dr s (takeVar s).2, (true, ())) := by
      simp only [q1, e0, k0, textS, cond_false, dr_size]
      rw [if_pos (by omega)]
    simp only [rec1, h1, h2, if_true, if_false, q4, q3, q2, e1, nb]
  have e1 : q1 s = (dr s ((takeVar s).2 + (takeVar s).1), (false, ())) := by
    simp only [q1, e0, k0, textS, cond_false, dr_size]
    rw [if_neg (by omega), dr_dr]
  have x1 : textX (numS (s, (false, ()))) (numK (s, (false, ()))) = s.extract (takeVar s).2 ((takeVar s).2 + (takeVar s).1) := by
    simp only [e0, k0, textX, cond_false, dr_size]
    rw [if_neg (by omega), dr_head _ _ _ (by omega)]
  rw [x1]
  simp only [rec1, h1, h2, if_false]
  unfold q4 q3 q2
  rw [e1]
  generalize dr s ((takeVar s).2 + (takeVar s).1) = A
  by_cases h3 : (takeVar A).2 = 0
  · have e2 : numS (A, (false, ())) = (A, (true, ())) := by simp [numS, h3]
    simp only [h3, if_true, e2, nb]
  have e2 : numS (A, (false, ())) = (dr A (takeVar A).2, (false, ())) := by simp [numS, h3]
  have k2 : numK (A, (false, ())) = (takeVar A).1 := rfl
  simp only [h3, if_false, e2, k2]
  generalize dr A (takeVar A).2 = B
  by_cases h4 : (takeVar B).2 = 0
  · have e3 : numS (B, (false, ())) = (B, (true, ())) := by simp [numS, h4]
    simp only [h4, if_true, e3, nb]
  have e3 : numS (B, (false, ())) = (dr B (takeVar B).2, (false, ())) := by simp [numS, h4]
  have k3 : numK (B, (false, ())) = (takeVar B).1 := rfl
  simp only [h4, if_false, e3, k3]
  generalize dr B (takeVar B).2 = C
  by_cases h5 : (takeVar C).2 = 0
  · simp only [h5, if_true, numS, cond_false]
  have k4 : numK (C, (false, ())) = (takeVar C).1 := rfl
  simp only [h5, if_false, numS, cond_false, k4, and_self]

def plc (q : ByteArray × Nat × Nat × Nat) : DPlace := (q.1, ((q.2.1 : Int), ((q.2.2.1 : Int), ((q.2.2.2 : Int), ()))))

/-! ### an index, read by the reference -/
def idxGo : Nat → ByteArray → List DPlace → Option (List DPlace)
  | 0, _, _ => none
  | f + 1, s, out => if s.size = 0 then some out else match rec1 s with
    | none => none
    | some q => idxGo f q.2 (out ++ [plc q.1])

theorem f_spec_l7IndexLoop {R : Type} (r : Option R) (kk : (Unit × Unit) → (((Bool × Unit) × ((List DPlace) × (List DPlace) × Unit)) ⊕ (Unit × ((List DPlace) × Unit))) → Option R) (hr : ∀ o, kk ((), ()) (.inl ((false, ()), ([], (o, ())))) = r) :
    ∀ (f : Nat) (s : ByteArray) (out : List DPlace), s.size < f → s.size ≤ 1048576 → out.length + s.size ≤ 2000000 →
    loopF (c := f_spec_l7Index_l2c) (v := f_spec_l7Index_l2v) (ex := f_spec_l7Index_l2e) f_spec_l7Index_l2 R ((), ()) ((s, ()), (out, ())) kk = match idxGo f s out with
      | none => r
      | some l => kk ((), ()) (.inr ((), (l, ()))) := by
  intro f
  induction f with
  | zero => intro s out h; omega
  | succ f ih =>
    intro s out hf hs ho
    by_cases h0 : s.size = 0
    · have h1 : ilt (0 : Int) (slen s) = false := ilt_false.2 (by simp only [slen]; omega)
      rw [loopF_done (c' := ((), ())) (o := (Sum.inr ((), (out, ())) : _ ⊕ _)) (by simp only [round, f_spec_l7Index_l2, h1, cond_false])]
      simp only [idxGo, h0, if_true]
    have h1 : ilt (0 : Int) (slen s) = true := ilt_iff.2 (by simp only [slen]; omega)
    simp only [idxGo, h0, if_false]
    cases hq : rec1 s with
    | none =>
      rw [loopF_done (c' := ((), ())) (o := (Sum.inl ((false, ()), ([], (out, ()))) : _ ⊕ _)) (by
        simp only [round, f_spec_l7Index_l2, h1, cond_true, reqD1, reqD2, reqD3]
        rw [val_f_spec_l2Take, bnd_some]
        dsimp only
        simp only [rec1] at hq
        by_cases c1 : (takeVar s).2 = 0
        · rw [show ieq ((takeVar s).2 : Int) (0 : Int) = true from ieq_iff.2 (by omega), cond_true]
        rw [if_neg c1] at hq
        rw [show ieq ((takeVar s).2 : Int) (0 : Int) = false from ieq_false.2 (by omega), cond_false]
        have hv := takeVar_ok s
        rw [isub_i64 (by simp only [slen]; omega)]
        by_cases c2 : s.size < (takeVar s).2 + (takeVar s).1
        · rw [show ilt (slen s - ((takeVar s).2 : Int)) ((takeVar s).1 : Int) = true from ilt_iff.2 (by simp only [slen]; omega), cond_true]
        rw [if_neg c2] at hq
        rw [show ilt (slen s - ((takeVar s).2 : Int)) ((takeVar s).1 : Int) = false from ilt_false.2 (by simp only [slen]; omega), cond_false]
        rw [iaddN (by omega), reqP_true (by omega), reqP_true (by omega), val_f_spec_l2Take, bnd_some]
        simp only [Int.toNat_natCast]
        rw [show s.extract ((takeVar s).2 + (takeVar s).1) s.size = dr s ((takeVar s).2 + (takeVar s).1) from rfl]
        have hA : (dr s ((takeVar s).2 + (takeVar s).1)).size ≤ s.size := by rw [dr_size]; omega
        generalize dr s ((takeVar s).2 + (takeVar s).1) = A at hq hA ⊢
        have v1 := takeVar_ok A
        have v2 := takeVar_ok (dr A (takeVar A).2)
        rw [dr_size] at v2
        rw [reqP_true (by omega), show A.extract (takeVar A).2 A.size = dr A (takeVar A).2 from rfl, val_f_spec_l2Take, bnd_some]
        dsimp only
        rw [iaddN (by omega), reqP_true (by omega)]
        simp only [Int.toNat_natCast]
        rw [show A.extract ((takeVar A).2 + (takeVar (dr A (takeVar A).2)).2) A.size = dr A ((takeVar A).2 + (takeVar (dr A (takeVar A).2)).2) from rfl, val_f_spec_l2Take, bnd_some]
        dsimp only
        by_cases c3 : (takeVar A).2 = 0
        · rw [show ieq ((takeVar A).2 : Int) (0 : Int) = true from ieq_iff.2 (by omega), cond_true]
        rw [if_neg c3] at hq
        rw [show ieq ((takeVar A).2 : Int) (0 : Int) = false from ieq_false.2 (by omega), cond_false]
        by_cases c4 : (takeVar (dr A (takeVar A).2)).2 = 0
        · rw [show ieq ((takeVar (dr A (takeVar A).2)).2 : Int) (0 : Int) = true from ieq_iff.2 (by omega), cond_true]
        rw [if_neg c4] at hq
        rw [show ieq ((takeVar (dr A (takeVar A).2)).2 : Int) (0 : Int) = false from ieq_false.2 (by omega), cond_false]
        rw [dr_dr] at hq
        by_cases c5 : (takeVar (dr A ((takeVar A).2 + (takeVar (dr A (takeVar A).2)).2))).2 = 0
        · rw [show ieq ((takeVar (dr A ((takeVar A).2 + (takeVar (dr A (takeVar A).2)).2))).2 : Int) (0 : Int) = true from ieq_iff.2 (by omega), cond_true]
        rw [if_neg c5] at hq
        cases hq)]
      exact hr _
    | some q =>
      have hqo := rec1_ok hq
      rw [loopF_more (c' := ((), ())) (v' := ((q.2, ()), (out ++ [plc q.1], ()))) (by
        simp only [round, f_spec_l7Index_l2, h1, cond_true, reqD1, reqD2, reqD3]
        rw [val_f_spec_l2Take, bnd_some]
        dsimp only
        simp only [rec1] at hq
        by_cases c1 : (takeVar s).2 = 0
        · rw [if_pos c1] at hq; cases hq
        rw [if_neg c1] at hq
        rw [show ieq ((takeVar s).2 : Int) (0 : Int) = false from ieq_false.2 (by omega), cond_false]
        have hv := takeVar_ok s
        rw [isub_i64 (by simp only [slen]; omega)]
        by_cases c2 : s.size < (takeVar s).2 + (takeVar s).1
        · rw [if_pos c2] at hq; cases hq
        rw [if_neg c2] at hq
        rw [show ilt (slen s - ((takeVar s).2 : Int)) ((takeVar s).1 : Int) = false from ilt_false.2 (by simp only [slen]; omega), cond_false]
        rw [iaddN (by omega), reqP_true (by omega), reqP_true (by omega), val_f_spec_l2Take, bnd_some]
        simp only [Int.toNat_natCast]
        rw [show s.extract ((takeVar s).2 + (takeVar s).1) s.size = dr s ((takeVar s).2 + (takeVar s).1) from rfl]
        have hA : (dr s ((takeVar s).2 + (takeVar s).1)).size ≤ s.size := by rw [dr_size]; omega
        generalize dr s ((takeVar s).2 + (takeVar s).1) = A at hq hA ⊢
        have v1 := takeVar_ok A
        have v2 := takeVar_ok (dr A (takeVar A).2)
        rw [dr_size] at v2
        rw [reqP_true (by omega), show A.extract (takeVar A).2 A.size = dr A (takeVar A).2 from rfl, val_f_spec_l2Take, bnd_some]
        dsimp only
        rw [iaddN (by omega), reqP_true (by omega)]
        simp only [Int.toNat_natCast]
        rw [show A.extract ((takeVar A).2 + (takeVar (dr A (takeVar A).2)).2) A.size = dr A ((takeVar A).2 + (takeVar (dr A (takeVar A).2)).2) from rfl, val_f_spec_l2Take, bnd_some]
        dsimp only
        by_cases c3 : (takeVar A).2 = 0
        · rw [if_pos c3] at hq; cases hq
        rw [if_neg c3] at hq
        rw [show ieq ((takeVar A).2 : Int) (0 : Int) = false from ieq_false.2 (by omega), cond_false]
        by_cases c4 : (takeVar (dr A (takeVar A).2)).2 = 0
        · rw [if_pos c4] at hq; cases hq
        rw [if_neg c4] at hq
        rw [show ieq ((takeVar (dr A (takeVar A).2)).2 : Int) (0 : Int) = false from ieq_false.2 (by omega), cond_false]
        have v3 := takeVar_ok (dr A ((takeVar A).2 + (takeVar (dr A (takeVar A).2)).2))
        rw [dr_size] at v3
        rw [dr_dr] at hq
        by_cases c5 : (takeVar (dr A ((takeVar A).2 + (takeVar (dr A (takeVar A).2)).2))).2 = 0
        · rw [if_pos c5] at hq; cases hq
        rw [if_neg c5, dr_dr] at hq
        rw [show ieq ((takeVar (dr A ((takeVar A).2 + (takeVar (dr A (takeVar A).2)).2))).2 : Int) (0 : Int) = false from ieq_false.2 (by omega), cond_false]
        injection hq with hq
        subst hq
        simp only [List.length_cons, List.length_nil]
        rw [reqP_true (by omega), iaddN (by omega), reqP_true (by omega)]
        simp only [plc, dr_dr, Int.toNat_natCast, show ∀ (A : ByteArray) n, A.extract n A.size = dr A n from fun _ _ => rfl])]
      exact ih _ _ (by omega) (by omega) (by simp only [List.length_append, List.length_cons, List.length_nil]; omega)

def idxR (q : Option (List DPlace)) : ((List DPlace) × Bool × Unit) × Unit := match q with
  | none => (([], (false, ())), ())
  | some l => ((l, (true, ())), ())
theorem f_spec_l7IndexVal (x : ByteArray × Unit) (hs : x.1.size ≤ 1048576) : f_spec_l7Index x = some (idxR (idxGo (x.1.size + 1) x.1 [])) := by
  unfold f_spec_l7Index
  rw [f_spec_l7IndexLoop (some (idxR none)) _ (fun o => rfl) (x.1.size + 1) x.1 [] (by omega) hs (by simp; omega)]
  cases idxGo (x.1.size + 1) x.1 [] <;> rfl

end Go.Proofs.YtncalmofbcmkaaaGreat
