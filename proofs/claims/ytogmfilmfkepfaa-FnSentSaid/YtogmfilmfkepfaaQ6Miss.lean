/- Is the taking good, what is missing. -/
import Derived.Test.YtogmfilmfkepfaaQ6Play
set_option linter.all false
noncomputable section
namespace Go.Proofs.Ytogmfilmfkepfaa
open Go Go.Proofs.Ytogmfilmfkepfaa.Ev

theorem sel_sub {α : Type} : ∀ (l : List α) (m : List Bool), (sel l m).Sublist l := by
  intro l
  induction l with
  | nil => intro m; simp [sel]
  | cons a l ih =>
    intro m
    cases m with
    | nil => simp [sel]
    | cons b m =>
      simp only [sel]
      cases b with
      | false => exact (ih m).cons _
      | true => exact (ih m).cons₂ _
theorem cks_append : ∀ (a b : List ByteArray) (f : Nat), cks f (a ++ b) = cks f a ++ cks (f + a.length) b
  | [], b, f => by simp [cks]
  | s :: a, b, f => by
    simp only [List.cons_append, cks, cks_append a b (f + 1), List.append_assoc, List.length_cons]
    rw [show f + 1 + a.length = f + (a.length + 1) by omega]
def off (fs : List ByteArray) (i : Nat) : Nat := (cks 0 (fs.take i)).length
theorem off_succ {fs : List ByteArray} {i : Nat} {s : ByteArray} (h : fs[i]? = some s) : off fs (i + 1) = off fs i + nck s := by
  unfold off; rw [cks_take fs h, List.length_append, fck_length]
theorem chunk_at {fs : List ByteArray} {i : Nat} {s : ByteArray} {j : Nat} (h : fs[i]? = some s) (hj : j < nck s) : (cks 0 fs)[off fs i + j]? = some (ck i s j) := by
  have e : cks 0 fs = cks 0 (fs.take i) ++ (fck i s ++ cks (0 + (fs.take (i + 1)).length) (fs.drop (i + 1))) := by
    rw [← List.append_assoc, ← cks_take fs h, ← cks_append, List.take_append_drop]
  rw [e, List.getElem?_append_right (by unfold off; omega), show off fs i + j - (cks 0 (fs.take i)).length = j by unfold off; omega, List.getElem?_append_left (by rw [fck_length]; exact hj)]
  simp [fck, hj]

section
variable {fs : List ByteArray} {m : List Bool} (hm : m.length = (cks 0 fs).length)
/-- what is said of what is missing before place n -/
structure Acc (m : List Bool) (acc : List DChunk) (n : Nat) : Prop where
  emp : acc.isEmpty = (m.take n).all id
  len : acc.length ≤ n
theorem Acc.next {m : List Bool} {acc : List DChunk} {n : Nat} {b : Bool} (h : Acc m acc n) (hb : m[n]? = some b) (x : DChunk) : Acc m (bif b then acc else acc ++ [x]) (n + 1) := by
  obtain ⟨h1, h2⟩ := h
  refine ⟨?_, ?_⟩
  · rw [List.take_add_one, hb, List.all_append, ← h1]
    cases b with
    | true => simp
    | false => simp
  · cases b with
    | true => simp only [cond_true]; omega
    | false => simp; omega
def kAt (fs : List ByteArray) (m : List Bool) (n : Nat) : Nat := (sel ((cks 0 fs).take n) (m.take n)).length
include hm
theorem mid_facts {n : Nat} {c : DChunk} (hc : (cks 0 fs)[n]? = some c) : ∃ A B SA SB b, Mid fs A c B SA SB ∧ m[n]? = some b ∧ sel (cks 0 fs) m = got1 A c B SA b SB ∧ kAt fs m n = (sel A SA).length ∧ kAt fs m (n + 1) = kAt fs m n + (bif b then 1 else 0) := by
  obtain ⟨A, B, SA, SB, b, hM, rfl, hA, hset⟩ := mid_of hm hc
  have hS : SA.length = n := hM.la.trans hA
  have e1 : (SA ++ b :: SB).take n = SA := by rw [← hS]; simp
  have e2 : (cks 0 fs).take n = A := by rw [hM.all, ← hA]; simp
  have e3 : (SA ++ b :: SB)[n]? = some b := by rw [← hS]; simp
  refine ⟨A, B, SA, SB, b, hM, e3, sel_mid hM b, by rw [kAt, e1, e2], ?_⟩
  unfold kAt
  rw [List.take_add_one, List.take_add_one, hc, e3, e1, e2]
  show (sel (A ++ [c]) (SA ++ [b])).length = _
  rw [sel_app _ _ _ _ hM.la]
  cases b <;> simp [sel]
end

theorem bsT {fs A c B SA SB} (h : Mid fs A c B SA SB) (b : Bool) (hk : (cks 0 fs).length ≤ 1000000) (t : DChunk) (ht : keyC t = keyC c) :
    f_slices_BinarySearchFunc_Chunk (got1 A c B SA b SB, (t, ((fun z => (bnd (f_impl_chunkOrder (z.1, (z.2.1, ()))) fun r => (some r.1))), ()))) = some (((((sel A SA).length : Nat) : Int), (b, ())), ()) := by
  have hl := got1_len h b
  have hF : ∀ z : DChunk × DChunk × Unit, (bnd (f_impl_chunkOrder (z.1, (z.2.1, ()))) fun r => (some r.1)) = some (cmpC z.1 z.2.1, ()) := fun z => by rw [f_impl_chunkOrderVal]; rfl
  have := bs_Chunk (got1 A c B SA b SB) t (fun z => (bnd (f_impl_chunkOrder (z.1, (z.2.1, ()))) fun r => (some r.1))) cmpC hF (by omega) (fun i j x y hij hx hy hl => by
    rw [cmpC_lt, ht] at hl ⊢; exact h.mono b c i j x y hij hx hy hl)
  rw [this]
  have e : (fun y => ilt (cmpC y t) 0) = fun y => ltP (keyC y) (keyC c) := funext fun y => by rw [cmpC_lt, ht]
  have e2 : (fun y => ieq (cmpC y t) 0) = fun y => ieq (cmpC y c) 0 := funext fun y => by
    have h1 : t.1 = c.1 := congrArg (fun p : Int × Int => p.1) ht
    have h2 : t.2.1 = c.2.1 := congrArg (fun p : Int × Int => p.2) ht
    rw [cmpC_eq, cmpC_eq, h1, h2]
  rw [e, e2, h.pos b, h.atB b]

section
variable {fs : List ByteArray} (hok : okF fs = true) (hk : (cks 0 fs).length ≤ 200) {m : List Bool} (hm : m.length = (cks 0 fs).length)
include hok hk hm
theorem off_le {i : Nat} (hi : i ≤ fs.length) : off fs i ≤ 200 := by
  have e : cks 0 fs = cks 0 (fs.take i) ++ cks (0 + (fs.take i).length) (fs.drop i) := by rw [← cks_append, List.take_append_drop]
  have := congrArg List.length e
  rw [List.length_append] at this
  unfold off; omega
theorem impl_miss_inner {R : Type} {Q : R → Prop} {kk} {i : Nat} {s : ByteArray} (hs : fs[i]? = some s) {acc : List DChunk} (ha : Acc m acc (off fs i)) (h : ∀ acc', Acc m acc' (off fs (i + 1)) → Does (kk ((), ()) ((wantP fs, (llen (wantP fs), ((i : Int), ()))), ((wantP fs, (sel (cks 0 fs) m, ())), (acc', ((slen s, (sumOf s, ())), ()))))) Q) :
    Does (loopF (c := f_impl_Taking_missing_w_l6c) (v := f_impl_Taking_missing_w_l6v) (ex := f_impl_Taking_missing_w_l6e) f_impl_Taking_missing_w_l6 R ((), ()) (((i : Int), ((0 : Int), (wantP fs, (llen (wantP fs), ((i : Int), ()))))), ((wantP fs, (sel (cks 0 fs) m, ())), (acc, ((slen s, (sumOf s, ())), ())))) kk) Q := by
  have hz := okF_size hok (List.mem_of_getElem? hs)
  refine Does.loop (c := f_impl_Taking_missing_w_l6c) (v := f_impl_Taking_missing_w_l6v) (ex := f_impl_Taking_missing_w_l6e)
    (I := fun _ v => ∃ (j : Nat) (acc : List DChunk), j ≤ nck s ∧ Acc m acc (off fs i + j) ∧ v = (((i : Int), (((64 * j : Nat) : Int), (wantP fs, (llen (wantP fs), ((i : Int), ()))))), ((wantP fs, (sel (cks 0 fs) m, ())), (acc, ((slen s, (sumOf s, ())), ()))))) (μ := fun _ v => ((s.size : Int) - v.1.2.1).toNat) (fun c v hI => ?_) ⟨0, acc, by omega, ha, rfl⟩
  obtain ⟨j, acc, hj, ha, rfl⟩ := hI
  obtain ⟨⟨⟩, ⟨⟩⟩ := c
  simp only [round, f_impl_Taking_missing_w_l6]
  refine Does.cond (fun hlt => ?_) fun hlt => Does.val ?_
  · have hlt := ilt_iff.1 hlt
    simp only [slen] at hlt
    have hj2 : j < nck s := nck_lt.2 (by omega)
    have hc := chunk_at hs hj2
    obtain ⟨A, B, SA, SB, b, hM, hb, e1, e2, e3⟩ := mid_facts hm hc
    have hn := ha.next hb ((i : Int), (((64 * j : Nat) : Int), ((⟨#[]⟩ : ByteArray), ((0 : Int), ()))))
    have hof := (List.getElem?_eq_some_iff.1 hc).1
    have e4 : iadd .i64 ((64 * j : Nat) : Int) (64 : Int) = ((64 * (j + 1) : Nat) : Int) := iaddN (b := 64) (by omega)
    have hbs := bsT hM b (by omega) ((i : Int), (((64 * j : Nat) : Int), ((⟨#[]⟩ : ByteArray), ((0 : Int), ())))) rfl
    rw [← e1] at hbs
    rw [hbs, bnd_some]
    unfold f_impl_Taking_missing_w_i11
    dsimp only
    rw [e4]
    have hal := ha.len
    cases b with
    | true => exact Does.val ⟨⟨j + 1, acc, by omega, hn, rfl⟩, by dsimp only; omega⟩
    | false =>
      rw [Bool.not_false, cond_true, req_true_of (by simp; omega)]
      exact Does.val ⟨⟨j + 1, _, by omega, hn, rfl⟩, by dsimp only; omega⟩
  · have hlt := ilt_false.1 hlt
    simp only [slen] at hlt
    have : j = nck s := by unfold nck at *; omega
    subst this
    refine h acc ?_
    rw [off_succ hs]; exact ha
theorem f_impl_missing : ∃ l, f_impl_Taking_missing_w ((wantP fs, (sel (cks 0 fs) m, ())), ()) = some ((l, ()), ((wantP fs, (sel (cks 0 fs) m, ())), ())) ∧ l.isEmpty = m.all id := by
  have : Does (f_impl_Taking_missing_w ((wantP fs, (sel (cks 0 fs) m, ())), ())) fun r => r.2 = ((wantP fs, (sel (cks 0 fs) m, ())), ()) ∧ r.1.1.isEmpty = m.all id := by
    have hl := okF_len hok
    unfold f_impl_Taking_missing_w
    dsimp only
    refine Does.loop (c := f_impl_Taking_missing_w_l3c) (v := f_impl_Taking_missing_w_l3v) (ex := f_impl_Taking_missing_w_l3e)
      (I := fun _ v => ∃ (i : Nat) (acc : List DChunk), i ≤ fs.length ∧ Acc m acc (off fs i) ∧ v = ((wantP fs, (llen (wantP fs), ((i : Int), ()))), ((wantP fs, (sel (cks 0 fs) m, ())), (acc, ())))) (μ := fun _ v => ((fs.length : Int) - v.1.2.2.1).toNat) (fun c v hI => ?_) ⟨0, [], by omega, ⟨by simp [off, cks], by simp⟩, rfl⟩
    obtain ⟨i, acc, hi, ha, rfl⟩ := hI
    obtain ⟨⟨⟩, ⟨⟩⟩ := c
    simp only [round, f_impl_Taking_missing_w_l3]
    refine Does.cond (fun hlt => ?_) fun hlt => Does.val (Does.val ?_)
    · have hlt := ilt_iff.1 hlt
      simp only [llen, wantP_len] at hlt
      obtain ⟨s, hs⟩ : ∃ s, fs[i]? = some s := ⟨_, List.getElem?_eq_getElem (by omega)⟩
      rw [getO_at (by omega) (by rw [Int.toNat_natCast]; exact wantP_get hs)]
      refine impl_miss_inner hok hk hm hs ha fun acc' ha' => ?_
      have e1 : iadd .i64 (i : Int) (1 : Int) = ((i + 1 : Nat) : Int) := iaddN (b := 1) (by omega)
      dsimp only
      rw [e1]
      exact Does.val ⟨⟨i + 1, acc', by omega, ha', rfl⟩, by dsimp only; omega⟩
    · have hlt := ilt_false.1 hlt
      simp only [llen, wantP_len] at hlt
      have e : i = fs.length := by omega
      have := ha.emp
      rw [e, off, List.take_length, ← hm, List.take_length] at this
      exact ⟨rfl, this⟩
  obtain ⟨⟨⟨l, ⟨⟩⟩, st⟩, h1, h2, h3⟩ := this
  exact ⟨l, by rw [h1]; dsimp only at h2; rw [h2], h3⟩

omit hok hk hm in
theorem i11Val {R : Type} (i a : Int) (W : List DWanted) (n i2 : Int) (b : Bool) (t : DTaking) (w : DWanted) (x : DChunk) (k : Int) (acc : List DChunk) (hl : acc.length ≤ 1000) {kk} :
    f_spec_l13Missing_i11 R ((i, (a, (W, (n, (i2, (b, ())))))), (t, (w, (x, ())))) ((k, ()), (acc, ())) kk = kk ((i, (a, (W, (n, (i2, (b, ())))))), (t, (w, (x, ())))) (((bif b then iadd .i64 k (1 : Int) else k), ()), ((bif b then acc else acc ++ [x]), ())) := by
  unfold f_spec_l13Missing_i11
  dsimp only
  cases b with
  | true => rfl
  | false => rw [cond_false, req_true_of (by simp; omega)]; rfl
theorem spec_miss_inner {R : Type} {Q : R → Prop} {kk} {i : Nat} {s : ByteArray} (hs : fs[i]? = some s) {acc : List DChunk} (ha : Acc m acc (off fs i)) (h : ∀ acc', Acc m acc' (off fs (i + 1)) → Does (kk ((), ()) ((((kAt fs m (off fs (i + 1)) : Nat) : Int), (wantP fs, (llen (wantP fs), ((i : Int), ())))), ((wantP fs, (sel (cks 0 fs) m, ())), (acc', ((slen s, (sumOf s, ())), ()))))) Q) :
    Does (loopF (c := f_spec_l13Missing_l7c) (v := f_spec_l13Missing_l7v) (ex := f_spec_l13Missing_l7e) f_spec_l13Missing_l7 R ((), ()) ((((kAt fs m (off fs i) : Nat) : Int), ((i : Int), ((0 : Int), (wantP fs, (llen (wantP fs), ((i : Int), ())))))), ((wantP fs, (sel (cks 0 fs) m, ())), (acc, ((slen s, (sumOf s, ())), ())))) kk) Q := by
  have hz := okF_size hok (List.mem_of_getElem? hs)
  refine Does.loop (c := f_spec_l13Missing_l7c) (v := f_spec_l13Missing_l7v) (ex := f_spec_l13Missing_l7e)
    (I := fun _ v => ∃ (j : Nat) (acc : List DChunk), j ≤ nck s ∧ Acc m acc (off fs i + j) ∧ v = ((((kAt fs m (off fs i + j) : Nat) : Int), ((i : Int), (((64 * j : Nat) : Int), (wantP fs, (llen (wantP fs), ((i : Int), ())))))), ((wantP fs, (sel (cks 0 fs) m, ())), (acc, ((slen s, (sumOf s, ())), ()))))) (μ := fun _ v => ((s.size : Int) - v.1.2.2.1).toNat) (fun c v hI => ?_) ⟨0, acc, by omega, ha, rfl⟩
  obtain ⟨j, acc, hj, ha, rfl⟩ := hI
  obtain ⟨⟨⟩, ⟨⟩⟩ := c
  simp only [round, f_spec_l13Missing_l7]
  refine Does.cond (fun hlt => ?_) fun hlt => Does.val ?_
  · have hlt := ilt_iff.1 hlt
    simp only [slen] at hlt
    have hj2 : j < nck s := nck_lt.2 (by omega)
    have hc := chunk_at hs hj2
    obtain ⟨A, B, SA, SB, b, hM, hb, e1, e2, e3⟩ := mid_facts hm hc
    have hn := ha.next hb ((i : Int), (((64 * j : Nat) : Int), ((⟨#[]⟩ : ByteArray), ((0 : Int), ()))))
    have hof := (List.getElem?_eq_some_iff.1 hc).1
    have e4 : iadd .i64 ((64 * j : Nat) : Int) (64 : Int) = ((64 * (j + 1) : Nat) : Int) := iaddN (b := 64) (by omega)
    have hal := ha.len
    have hat := got1_at (A := A) (c := ck i s j) (B := B) (SA := SA) (b := b) (SB := SB)
    rw [← e1, ← e2] at hat
    generalize sel (cks 0 fs) m = G at hat ⊢
    have hkl : kAt fs m (off fs i + j) ≤ 200 := by
      have := sel_length ((cks 0 fs).take (off fs i + j)) (m.take (off fs i + j))
      unfold kAt
      rw [List.length_take] at this
      omega
    have e5 : iadd .i64 ((kAt fs m (off fs i + j) : Nat) : Int) (1 : Int) = ((kAt fs m (off fs i + j) + 1 : Nat) : Int) := iaddN (b := 1) (by omega)
    cases b with
    | true =>
      rw [cond_true] at hat
      have hklt := (List.getElem?_eq_some_iff.1 hat).1
      rw [ilt_iff.2 (by simp only [llen]; omega), cond_true, getO_at (by omega) (by rw [Int.toNat_natCast]; exact hat)]
      rw [show ieq (ck i s j).1 (i : Int) = true from ieq_iff.2 rfl, cond_true, getO_at (by omega) (by rw [Int.toNat_natCast]; exact hat)]
      rw [show ieq (ck i s j).2.1 ((64 * j : Nat) : Int) = true from ieq_iff.2 rfl, i11Val _ _ _ _ _ _ _ _ _ _ _ (by omega)]
      dsimp only
      rw [e4, cond_true, e5]
      exact Does.val ⟨⟨j + 1, acc, by omega, hn, by rw [show off fs i + (j + 1) = off fs i + j + 1 by omega, e3]; rfl⟩, by dsimp only; omega⟩
    | false =>
      rw [cond_false] at hat
      refine Does.cond (fun hk1 => ?_) fun _ => (by
        rw [i11Val _ _ _ _ _ _ _ _ _ _ _ (by omega)]
        dsimp only
        rw [e4]
        exact Does.val ⟨⟨j + 1, _, by omega, hn, by rw [show off fs i + (j + 1) = off fs i + j + 1 by omega, e3]; rfl⟩, by dsimp only; omega⟩)
      have hk1 := ilt_iff.1 hk1
      simp only [llen] at hk1
      refine Does.getO (by omega) hk1 fun y hy => Does.cond (fun hy1 => ?_) fun _ => (by
        rw [i11Val _ _ _ _ _ _ _ _ _ _ _ (by omega)]
        dsimp only
        rw [e4]
        exact Does.val ⟨⟨j + 1, _, by omega, hn, by rw [show off fs i + (j + 1) = off fs i + j + 1 by omega, e3]; rfl⟩, by dsimp only; omega⟩)
      rw [Int.toNat_natCast] at hy
      rw [getO_at (by omega) (by rw [Int.toNat_natCast]; exact hy)]
      rw [hat] at hy
      have hbe := ltP_iff.1 (hM.behind (List.mem_of_getElem? hy))
      simp only [keyC, ck] at hbe
      have hy1 := ieq_iff.1 hy1
      rw [show ieq y.2.1 ((64 * j : Nat) : Int) = false by
        cases e : ieq y.2.1 ((64 * j : Nat) : Int) with
        | false => rfl
        | true => have := ieq_iff.1 e; omega]
      exact (by
        rw [i11Val _ _ _ _ _ _ _ _ _ _ _ (by omega)]
        dsimp only
        rw [e4]
        exact Does.val ⟨⟨j + 1, _, by omega, hn, by rw [show off fs i + (j + 1) = off fs i + j + 1 by omega, e3]; rfl⟩, by dsimp only; omega⟩)
  · have hlt := ilt_false.1 hlt
    simp only [slen] at hlt
    have : j = nck s := by unfold nck at *; omega
    subst this
    rw [← off_succ hs]
    refine h acc ?_
    rw [off_succ hs]; exact ha
theorem f_spec_missing : ∃ l, f_spec_l13Missing ((wantP fs, (sel (cks 0 fs) m, ())), ()) = some ((l, ()), ()) ∧ l.isEmpty = m.all id := by
  have : Does (f_spec_l13Missing ((wantP fs, (sel (cks 0 fs) m, ())), ())) fun r => r.1.1.isEmpty = m.all id := by
    have hl := okF_len hok
    unfold f_spec_l13Missing
    dsimp only
    refine Does.loop (c := f_spec_l13Missing_l4c) (v := f_spec_l13Missing_l4v) (ex := f_spec_l13Missing_l4e)
      (I := fun _ v => ∃ (i : Nat) (acc : List DChunk), i ≤ fs.length ∧ Acc m acc (off fs i) ∧ v = ((((kAt fs m (off fs i) : Nat) : Int), (wantP fs, (llen (wantP fs), ((i : Int), ())))), ((wantP fs, (sel (cks 0 fs) m, ())), (acc, ())))) (μ := fun _ v => ((fs.length : Int) - v.1.2.2.2.1).toNat) (fun c v hI => ?_) ⟨0, [], by omega, ⟨by simp [off, cks], by simp⟩, by simp [off, cks, kAt, sel]⟩
    obtain ⟨i, acc, hi, ha, rfl⟩ := hI
    obtain ⟨⟨⟩, ⟨⟩⟩ := c
    simp only [round, f_spec_l13Missing_l4]
    refine Does.cond (fun hlt => ?_) fun hlt => Does.val (Does.val ?_)
    · have hlt := ilt_iff.1 hlt
      simp only [llen, wantP_len] at hlt
      obtain ⟨s, hs⟩ : ∃ s, fs[i]? = some s := ⟨_, List.getElem?_eq_getElem (by omega)⟩
      rw [getO_at (by omega) (by rw [Int.toNat_natCast]; exact wantP_get hs)]
      refine spec_miss_inner hok hk hm hs ha fun acc' ha' => ?_
      have e1 : iadd .i64 (i : Int) (1 : Int) = ((i + 1 : Nat) : Int) := iaddN (b := 1) (by omega)
      dsimp only
      rw [e1]
      exact Does.val ⟨⟨i + 1, acc', by omega, ha', rfl⟩, by dsimp only; omega⟩
    · have hlt := ilt_false.1 hlt
      simp only [llen, wantP_len] at hlt
      have e : i = fs.length := by omega
      have := ha.emp
      rw [e, off, List.take_length, ← hm, List.take_length] at this
      exact this
  obtain ⟨⟨⟨l, ⟨⟩⟩, ⟨⟩⟩, h1, h3⟩ := this
  exact ⟨l, h1, h3⟩
end

end Go.Proofs.Ytogmfilmfkepfaa
