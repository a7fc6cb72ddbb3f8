/- Tables read: what both sides compute. -/
import Derived.Test.YtncalmofbcmkaaaGreatT1Idx
set_option linter.all false
noncomputable section
namespace Go.Proofs.YtncalmofbcmkaaaGreat
open Go Go.Proofs.YtncalmofbcmkaaaGreat.Ev

/-! ### four bytes as a number -/
def quadAt (s : ByteArray) (i : Nat) : Nat := byteAt s i + 256 * byteAt s (i + 1) + 65536 * byteAt s (i + 2) + 16777216 * byteAt s (i + 3)

theorem or_pow (a b i : Nat) (h : a < 2 ^ i) : a ||| b * 2 ^ i = a + b * 2 ^ i := by
  have := Nat.two_pow_add_eq_or_of_lt h b
  rw [Nat.or_comm, Nat.mul_comm b]
  omega

theorem quad_spec (s : ByteArray) (i : Nat) : ior .i64 (ior .i64 (ior .i64 (IntKind.wrap .i64 ((byteAt s i : Nat) : Int)) (ishl .i64 (IntKind.wrap .i64 ((byteAt s (i + 1) : Nat) : Int)) (8 : Int))) (ishl .i64 (IntKind.wrap .i64 ((byteAt s (i + 2) : Nat) : Int)) (16 : Int))) (ishl .i64 (IntKind.wrap .i64 ((byteAt s (i + 3) : Nat) : Int)) (24 : Int)) = ((quadAt s i : Nat) : Int) := by
  have h0 := byteAt_lt s i
  have h1 := byteAt_lt s (i + 1)
  have h2 := byteAt_lt s (i + 2)
  have h3 := byteAt_lt s (i + 3)
  unfold quadAt
  generalize byteAt s i = a at *
  generalize byteAt s (i + 1) = b at *
  generalize byteAt s (i + 2) = c at *
  generalize byteAt s (i + 3) = d at *
  rw [wrap_i64 _ (by omega), wrap_i64 _ (by omega), wrap_i64 _ (by omega), wrap_i64 _ (by omega)]
  rw [show ishl .i64 (b : Int) (8 : Int) = ((b * 2 ^ 8 : Nat) : Int) from ishl_nat b 8 (by omega) (by omega), show ishl .i64 (c : Int) (16 : Int) = ((c * 2 ^ 16 : Nat) : Int) from ishl_nat c 16 (by omega) (by omega), show ishl .i64 (d : Int) (24 : Int) = ((d * 2 ^ 24 : Nat) : Int) from ishl_nat d 24 (by omega) (by omega)]
  rw [ior_nat _ _ (by omega) (by omega), or_pow a b 8 (by omega), ior_nat _ _ (by omega) (by omega), or_pow _ c 16 (by omega), ior_nat _ _ (by omega) (by omega), or_pow _ d 24 (by omega)]
  congr 1
  omega

theorem word_step (w b : Nat) (hw : w < 16777216) (hb : b < 256) : ior .i64 (ishl .i64 (w : Int) (8 : Int)) (IntKind.wrap .i64 (b : Int)) = ((w * 256 + b : Nat) : Int) := by
  rw [wrap_i64 _ (by omega), show ishl .i64 (w : Int) (8 : Int) = ((w * 2 ^ 8 : Nat) : Int) from ishl_nat w 8 (by omega) (by omega), ior_nat _ _ (by omega) (by omega), Nat.or_comm, or_pow b w 8 (by omega)]
  congr 1
  omega

theorem f_impl_wordOfVal4 (x : ByteArray × Unit) (h : x.1.size = 4) : f_impl_wordOf x = some ((((quadAt x.1 0 : Nat) : Int), ()), ()) := by
  obtain ⟨s, ⟨⟩⟩ := x
  dsimp only at h ⊢
  unfold f_impl_wordOf
  have e0 : isub .i64 (slen s) (1 : Int) = ((3 : Nat) : Int) := by simp only [slen, h]; rfl
  have h3 := byteAt_lt s 3
  have h2 := byteAt_lt s 2
  have h1 := byteAt_lt s 1
  have h0 := byteAt_lt s 0
  dsimp only
  rw [e0, show (0 : Int) = ((0 : Nat) : Int) from rfl]
  rw [loopF_more (c' := ((s, ()), ())) (v' := ((((0 * 256 + byteAt s 3 : Nat) : Int), (((2 : Nat) : Int), ())), ())) (by
    simp only [round, f_impl_wordOf_l3]
    rw [show ile (0 : Int) ((3 : Nat) : Int) = true from rfl, cond_true, getBy (by omega), word_step _ _ (by omega) (by omega)]
    rfl)]
  rw [loopF_more (c' := ((s, ()), ())) (v' := ((((((0 * 256 + byteAt s 3) * 256 + byteAt s 2) : Nat) : Int), (((1 : Nat) : Int), ())), ())) (by
    simp only [round, f_impl_wordOf_l3]
    rw [show ile (0 : Int) ((2 : Nat) : Int) = true from rfl, cond_true, getBy (by omega), word_step _ _ (by omega) (by omega)]
    rfl)]
  rw [loopF_more (c' := ((s, ()), ())) (v' := (((((((0 * 256 + byteAt s 3) * 256 + byteAt s 2) * 256 + byteAt s 1) : Nat) : Int), (((0 : Nat) : Int), ())), ())) (by
    simp only [round, f_impl_wordOf_l3]
    rw [show ile (0 : Int) ((1 : Nat) : Int) = true from rfl, cond_true, getBy (by omega), word_step _ _ (by omega) (by omega)]
    rfl)]
  rw [loopF_more (c' := ((s, ()), ())) (v' := ((((((((0 * 256 + byteAt s 3) * 256 + byteAt s 2) * 256 + byteAt s 1) * 256 + byteAt s 0) : Nat) : Int), ((-1 : Int), ())), ())) (by
    simp only [round, f_impl_wordOf_l3]
    rw [show ile (0 : Int) ((0 : Nat) : Int) = true from rfl, cond_true, getBy (by omega), word_step _ _ (by omega) (by omega)]
    rfl)]
  rw [loopF_done (c' := ((s, ()), ())) (o := ((((((((0 * 256 + byteAt s 3) * 256 + byteAt s 2) * 256 + byteAt s 1) * 256 + byteAt s 0) : Nat) : Int), ()), ())) (by rfl)]
  dsimp only
  rw [show (((0 * 256 + byteAt s 3) * 256 + byteAt s 2) * 256 + byteAt s 1) * 256 + byteAt s 0 = quadAt s 0 from by simp only [quadAt, Nat.zero_add]; omega]

theorem quadAt_extract {s : ByteArray} {a : Nat} (h : a + 4 ≤ s.size) : quadAt (s.extract a (a + 4)) 0 = quadAt s a := by
  simp only [quadAt, Nat.zero_add]
  rw [byteAt_extract (by omega) (by omega), byteAt_extract (by omega) (by omega), byteAt_extract (by omega) (by omega), byteAt_extract (by omega) (by omega)]
  rfl

theorem quadAt_lt (s : ByteArray) (i : Nat) : quadAt s i < 4294967296 := by
  have h0 := byteAt_lt s i
  have h1 := byteAt_lt s (i + 1)
  have h2 := byteAt_lt s (i + 2)
  have h3 := byteAt_lt s (i + 3)
  unfold quadAt; omega

/-! ### the parts of a table, by the reference -/
def partsOf (s : ByteArray) : Option (ByteArray × ByteArray × ByteArray) :=
  if s.size < 8 then none else
  if strOf (lows 4 (sumOf (s.extract (s.size - 8) (s.size - 8 + 4)))) = s.extract (s.size - 8 + 4) s.size then
    if s.size - 8 < quadAt s (s.size - 8) then none else
    match takeFr (s.extract (quadAt s (s.size - 8)) (s.size - 8)) with
    | none => none
    | some q => match takeFr (s.extract (quadAt s (s.size - 8) + q.2) (s.size - 8)) with
      | none => none
      | some u => if quadAt s (s.size - 8) + q.2 + u.2 = s.size - 8 then some (s.extract 0 (quadAt s (s.size - 8)), q.1, u.1) else none
  else none
def partsR (q : Option (ByteArray × ByteArray × ByteArray)) : (ByteArray × ByteArray × ByteArray × Bool × Unit) × Unit := match q with
  | none => ((⟨#[]⟩, (⟨#[]⟩, (⟨#[]⟩, (false, ())))), ())
  | some q => ((q.1, (q.2.1, (q.2.2, (true, ())))), ())

theorem f_spec_l7PartsVal (x : ByteArray × Unit) (hs : x.1.size ≤ 1048576) : f_spec_l7Parts x = some (partsR (partsOf x.1)) := by
  obtain ⟨s, ⟨⟩⟩ := x
  dsimp only at hs ⊢
  unfold f_spec_l7Parts partsOf
  simp only [reqD2, reqD3]
  by_cases h8 : s.size < 8
  · rw [if_pos h8, isub_i64 (by simp only [slen]; omega), show ilt (slen s - 8) (0 : Int) = true from ilt_iff.2 (by simp only [slen]; omega), cond_true]; rfl
  rw [if_neg h8]
  obtain ⟨n, hn⟩ : ∃ n, n = s.size - 8 := ⟨_, rfl⟩
  have en : isub .i64 (slen s) (8 : Int) = (n : Int) := by rw [isub_i64 (by simp only [slen]; omega)]; simp only [slen]; omega
  rw [← hn, en]
  have i1 : iadd .i64 (n : Int) (1 : Int) = ((n + 1 : Nat) : Int) := iaddN (b := 1) (by omega)
  have i2 : iadd .i64 (n : Int) (2 : Int) = ((n + 2 : Nat) : Int) := iaddN (b := 2) (by omega)
  have i3 : iadd .i64 (n : Int) (3 : Int) = ((n + 3 : Nat) : Int) := iaddN (b := 3) (by omega)
  have i4 : iadd .i64 (n : Int) (4 : Int) = ((n + 4 : Nat) : Int) := iaddN (b := 4) (by omega)
  rw [i1, i2, i3, i4, show ilt (n : Int) (0 : Int) = false from ilt_false.2 (by omega), cond_false, reqP_true (by omega)]
  simp only [Int.toNat_natCast]
  rw [f_spec_l2SumVal _ (by simp only [ByteArray.size_extract]; omega), bnd_some]
  dsimp only
  rw [f_spec_l2WordVal, bnd_some, reqP_true (by omega)]
  dsimp only
  by_cases h1 : strOf (lows 4 (sumOf (s.extract n (n + 4)))) = s.extract (n + 4) s.size
  · rw [if_pos h1, (seq_iff _ _).2 h1, Bool.not_true, cond_false]
    rw [getBy (by omega), getBy (by omega), getBy (by omega), getBy (by omega), quad_spec]
    have hq := quadAt_lt s n
    generalize quadAt s n = a at *
    by_cases h2 : n < a
    · rw [if_pos h2, show ilt (n : Int) (a : Int) = true from ilt_iff.2 (by omega), cond_true]; rfl
    rw [if_neg h2, show ilt (n : Int) (a : Int) = false from ilt_false.2 (by omega), cond_false, reqP_true (by omega)]
    simp only [Int.toNat_natCast]
    rw [f_spec_l2TakeFrameVal _ (by simp only [ByteArray.size_extract]; omega), bnd_some]
    dsimp only
    cases hf : takeFr (s.extract a n) with
    | none => rfl
    | some q =>
      have z1 := takeFr_size hf
      simp only [ByteArray.size_extract] at z1
      dsimp only [frR]
      rw [Bool.not_true, cond_false, iaddN (by omega), reqP_true (by omega)]
      simp only [Int.toNat_natCast]
      rw [f_spec_l2TakeFrameVal _ (by simp only [ByteArray.size_extract]; omega), bnd_some]
      dsimp only
      cases hf2 : takeFr (s.extract (a + q.2) n) with
      | none => rfl
      | some u =>
        have z2 := takeFr_size hf2
        simp only [ByteArray.size_extract] at z2
        dsimp only [frR]
        rw [Bool.not_true, cond_false, iaddN (by omega)]
        by_cases h3 : a + q.2 + u.2 = n
        · rw [if_pos h3, show ieq ((a + q.2 + u.2 : Nat) : Int) (n : Int) = true from ieq_iff.2 (by omega), Bool.not_true, cond_false, reqP_true (by omega)]
          rfl
        · rw [if_neg h3, show ieq ((a + q.2 + u.2 : Nat) : Int) (n : Int) = false from ieq_false.2 (by omega), Bool.not_false, cond_true]
          rfl
  · rw [if_neg h1, seq_false.2 h1, Bool.not_false, cond_true]
    rfl

/-! ### the items of the blocks, by the program -/
def tiGo (s : ByteArray) (b : Nat) : Nat → ByteArray → Nat → List DItem → Option (Nat × List DItem)
  | 0, _, _, _ => none
  | f + 1, left, a, out => if left.size = 0 then some (a, out) else match rec1 left with
    | none => none
    | some q => if q.1.2.2.1 = a then (if b - a < q.1.2.2.2 then none else match readB (s.extract a (a + q.1.2.2.2)) with
      | none => none
      | some l => tiGo s b f q.2 (a + q.1.2.2.2) (out ++ l.1)) else none

theorem f_impl_tableItemsLoop {R : Type} (s : ByteArray) (hs : s.size ≤ 1048576) (b : Nat) (hb : b ≤ s.size) (r : Option R) (kk : ((ByteArray × Int × Unit) × Unit) → (((Bool × Unit) × ((List DItem) × (List DItem) × Dtaker × Unit)) ⊕ ((Int × Unit) × ((List DItem) × Dtaker × Unit))) → Option R)
    (hr : ∀ o t, kk ((s, ((b : Int), ())), ()) (.inl ((false, ()), ([], (o, (t, ()))))) = r) :
    ∀ (f : Nat) (left : ByteArray) (a : Nat) (out : List DItem), left.size < f → left.size ≤ 1048576 → a ≤ b → out.length + 10 * left.size ≤ 20000000 →
    loopF (c := f_impl_tableItems_l2c) (v := f_impl_tableItems_l2v) (ex := f_impl_tableItems_l2e) f_impl_tableItems_l2 R ((s, ((b : Int), ())), ()) (((a : Int), ()), (out, ((left, (false, ())), ()))) kk = match tiGo s b f left a out with
      | none => r
      | some q => kk ((s, ((b : Int), ())), ()) (.inr (((q.1 : Int), ()), (q.2, ((⟨#[]⟩, (false, ())), ())))) := by
  intro f
  induction f with
  | zero => intro left a out h; omega
  | succ f ih =>
    intro left a out hf hl ha ho
    by_cases h0 : left.size = 0
    · have h1 : seq left (⟨#[]⟩ : ByteArray) = true := by rw [seq_empty]; exact decide_eq_true h0
      rw [loopF_done (c' := ((s, ((b : Int), ())), ())) (o := (Sum.inr (((a : Int), ()), (out, ((left, (false, ())), ()))) : _ ⊕ _)) (by simp only [round, f_impl_tableItems_l2, h1, Bool.not_false, Bool.not_true, cond_true, cond_false])]
      simp only [tiGo, h0, if_true]
      rw [empty_of_size h0]
    have h1 : seq left (⟨#[]⟩ : ByteArray) = false := by rw [seq_empty]; exact decide_eq_false h0
    simp only [tiGo, h0, if_false]
    have hri := rec1_is left
    cases hq : rec1 left with
    | none =>
      rw [hq] at hri
      dsimp only at hri
      rw [loopF_done (c' := ((s, ((b : Int), ())), ())) (o := (Sum.inl ((false, ()), ([], (out, (q4 left, ())))) : _ ⊕ _)) (by
        simp only [round, f_impl_tableItems_l2, h1, Bool.not_false, cond_true, sizedE, numE, bnd_some]
        rw [show (numS (numS (numS (textS (numS (left, (false, ()))) (numK (left, (false, ()))))))).2.1 = true from hri, cond_true]
        rfl)]
      exact hr _ _
    | some q =>
      rw [hq] at hri
      obtain ⟨e1, e2, e3, e4, e5⟩ := hri
      have hqo := rec1_ok hq
      dsimp only
      by_cases c1 : q.1.2.2.1 = a
      · rw [if_pos c1]
        by_cases c2 : b - a < q.1.2.2.2
        · rw [if_pos c2]
          rw [loopF_done (c' := ((s, ((b : Int), ())), ())) (o := (Sum.inl ((false, ()), ([], (out, (q4 left, ())))) : _ ⊕ _)) (by
            simp only [round, f_impl_tableItems_l2, h1, Bool.not_false, cond_true, sizedE, numE, bnd_some]
            rw [show numS (numS (numS (textS (numS (left, (false, ()))) (numK (left, (false, ())))))) = q4 left from rfl, show numK (numS (textS (numS (left, (false, ()))) (numK (left, (false, ()))))) = numK (q2 left) from rfl, show numK (numS (numS (textS (numS (left, (false, ()))) (numK (left, (false, ())))))) = numK (q3 left) from rfl]
            rw [e3, e4, show (q4 left).2.1 = false from by rw [e5], cond_false, c1, show ieq (a : Int) (a : Int) = true from ieq_self _, Bool.not_true, cond_false, isub_i64 (by omega)]
            rw [show ilt ((b : Int) - (a : Int)) (q.1.2.2.2 : Int) = true from ilt_iff.2 (by omega), cond_true])]
          exact hr _ _
        · rw [if_neg c2]
          cases hb2 : readB (s.extract a (a + q.1.2.2.2)) with
          | none =>
            rw [loopF_done (c' := ((s, ((b : Int), ())), ())) (o := (Sum.inl ((false, ()), ([], (out, (q4 left, ())))) : _ ⊕ _)) (by
              simp only [round, f_impl_tableItems_l2, h1, Bool.not_false, cond_true, sizedE, numE, bnd_some, reqD1, reqD3]
              rw [show numS (numS (numS (textS (numS (left, (false, ()))) (numK (left, (false, ())))))) = q4 left from rfl, show numK (numS (textS (numS (left, (false, ()))) (numK (left, (false, ()))))) = numK (q2 left) from rfl, show numK (numS (numS (textS (numS (left, (false, ()))) (numK (left, (false, ())))))) = numK (q3 left) from rfl]
              rw [e3, e4, show (q4 left).2.1 = false from by rw [e5], cond_false, c1, show ieq (a : Int) (a : Int) = true from ieq_self _, Bool.not_true, cond_false, isub_i64 (by omega)]
              rw [show ilt ((b : Int) - (a : Int)) (q.1.2.2.2 : Int) = false from ilt_false.2 (by omega), cond_false, iaddN (by omega), reqP_true (by omega)]
              simp only [Int.toNat_natCast]
              rw [f_impl_ReadBlockVal _ (by simp only [ByteArray.size_extract]; omega), hb2, bnd_some]
              rfl)]
            exact hr _ _
          | some l =>
            have hlr := readB_some hb2
            rw [loopF_more (c' := ((s, ((b : Int), ())), ())) (v' := ((((a + q.1.2.2.2 : Nat) : Int), ()), (out ++ l.1, ((q.2, (false, ())), ())))) (by
              simp only [round, f_impl_tableItems_l2, h1, Bool.not_false, cond_true, sizedE, numE, bnd_some, reqD1, reqD3]
              rw [show numS (numS (numS (textS (numS (left, (false, ()))) (numK (left, (false, ())))))) = q4 left from rfl, show numK (numS (textS (numS (left, (false, ()))) (numK (left, (false, ()))))) = numK (q2 left) from rfl, show numK (numS (numS (textS (numS (left, (false, ()))) (numK (left, (false, ())))))) = numK (q3 left) from rfl]
              rw [e3, e4, show (q4 left).2.1 = false from by rw [e5], cond_false, c1, show ieq (a : Int) (a : Int) = true from ieq_self _, Bool.not_true, cond_false, isub_i64 (by omega)]
              rw [show ilt ((b : Int) - (a : Int)) (q.1.2.2.2 : Int) = false from ilt_false.2 (by omega), cond_false, iaddN (by omega), reqP_true (by omega)]
              simp only [Int.toNat_natCast]
              rw [f_impl_ReadBlockVal _ (by simp only [ByteArray.size_extract]; omega), hb2, bnd_some]
              dsimp only [okB]
              rw [Bool.not_true, cond_false, reqP_true (by omega), e5])]
            exact ih _ _ _ (by omega) (by omega) (by omega) (by rw [List.length_append]; omega)
      · rw [if_neg c1]
        rw [loopF_done (c' := ((s, ((b : Int), ())), ())) (o := (Sum.inl ((false, ()), ([], (out, (q4 left, ())))) : _ ⊕ _)) (by
          simp only [round, f_impl_tableItems_l2, h1, Bool.not_false, cond_true, sizedE, numE, bnd_some]
          rw [show numS (numS (numS (textS (numS (left, (false, ()))) (numK (left, (false, ())))))) = q4 left from rfl, show numK (numS (textS (numS (left, (false, ()))) (numK (left, (false, ()))))) = numK (q2 left) from rfl, show numK (numS (numS (textS (numS (left, (false, ()))) (numK (left, (false, ())))))) = numK (q3 left) from rfl]
          rw [e3, show (q4 left).2.1 = false from by rw [e5], cond_false, show ieq (q.1.2.2.1 : Int) (a : Int) = false from ieq_false.2 (by omega), Bool.not_false, cond_true])]
        exact hr _ _

def tiR (b : Nat) (q : Option (Nat × List DItem)) : ((List DItem) × Bool × Unit) × Unit := match q with
  | none => (([], (false, ())), ())
  | some q => ((q.2, (decide (q.1 = b), ())), ())
theorem f_impl_tableItemsVal (s ix : ByteArray) (b : Nat) (hs : s.size ≤ 1048576) (hi : ix.size ≤ 1048576) (hb : b ≤ s.size) : f_impl_tableItems (s, (ix, ((b : Int), ()))) = some (tiR b (tiGo s b (ix.size + 1) ix 0 [])) := by
  unfold f_impl_tableItems
  have h1 := fun kk hr => f_impl_tableItemsLoop (R := ((List DItem) × Bool × Unit) × Unit) s hs b hb (some (([], (false, ())), ())) kk hr (ix.size + 1) ix 0 [] (by omega) hi (by omega) (by simp; omega)
  rw [show ((0 : Nat) : Int) = (0 : Int) from rfl] at h1
  dsimp only
  rw [h1 _ (fun o t => rfl)]
  cases tiGo s b (ix.size + 1) ix 0 [] with
  | none => rfl
  | some q =>
    dsimp only
    unfold f_impl_taker_whole
    simp only [Bool.not_false, cond_true, seq_self, bnd_some, tiR]
    by_cases h : q.1 = b
    · rw [show ieq (q.1 : Int) (b : Int) = true from ieq_iff.2 (by omega), decide_eq_true h]
    · rw [show ieq (q.1 : Int) (b : Int) = false from ieq_false.2 (by omega), decide_eq_false h]

end Go.Proofs.YtncalmofbcmkaaaGreat
