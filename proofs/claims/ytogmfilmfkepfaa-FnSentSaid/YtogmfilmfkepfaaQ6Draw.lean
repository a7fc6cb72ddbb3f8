/- The draws of FnSent. -/
import Derived.Test.YtogmfilmfkepfaaQ6Draw0
import Derived.Test.YtogmfilmfkepfaaQ6Fin
set_option linter.all false
noncomputable section
namespace Go.Proofs.Ytogmfilmfkepfaa
open Go Go.Proofs.Ytogmfilmfkepfaa.Ev

theorem f_spec_l1Cur_textDoes {n m : Nat} {x : Dl1Cur × Int × Unit} (h : CurOk n x.1) (hx : x.2.1 = (m : Int)) (hm : m ≤ 1000000) (hn : n ≤ 1099500000000) : Does (f_spec_l1Cur_text x) fun r => r.1.1.size = m ∧ CurOk (n + 2 * m) r.2.1 := by
  obtain ⟨c, k, ⟨⟩⟩ := x
  dsimp only at h hx
  subst hx
  unfold f_spec_l1Cur_text
  dsimp only
  refine Does.req (by simp; omega) ?_
  refine Does.loop (c := f_spec_l1Cur_text_l3c) (v := f_spec_l1Cur_text_l3v) (ex := f_spec_l1Cur_text_l3e)
    (fun xc xv => xc.1.1 = (m : Int) ∧ xv.2.2.1.length = m ∧ ∃ j : Nat, xv.1.1 = (j : Int) ∧ j ≤ m ∧ CurOk (n + 2 * j) xv.2.1)
    (fun xc xv => m - Int.toNat xv.1.1) ?_ ⟨by simp [llen], by simp, 0, rfl, by omega, h⟩
  rintro ⟨⟨mm, ⟨⟩⟩, ⟨⟩⟩ ⟨⟨j, ⟨⟩⟩, c, l, ⟨⟩⟩ ⟨h1, h2, j, h3, h4, h5⟩
  dsimp only at h1 h2 h3 h5
  subst h1
  subst h3
  simp only [round, f_spec_l1Cur_text_l3]
  refine Does.cond (fun hlt => ?_) (fun hlt => ?_)
  · have hlt := ilt_iff.1 hlt
    refine Does.bnd (f_spec_l1Cur_pickDoes (x := (c, ((256 : Int), ()))) h5 (by omega)) fun r hr => ?_
    refine Does.getO (by omega) (by omega) fun y hy => ?_
    rw [hy]
    refine Does.val ?_
    dsimp only
    rw [iadd_i64 (by omega)]
    refine ⟨⟨rfl, by simp [h2], j + 1, by simp, by omega, hr.2.2.le (by omega)⟩, by omega⟩
  · have hlt := ilt_false.1 hlt
    refine Does.val (Does.val ?_)
    exact ⟨by rw [strOf_size]; exact h2, h5.le (by omega)⟩

theorem f_spec_l1Cur_filesDoes {n : Nat} {x : Dl1Cur × Unit} (h : CurOk n x.1) (hn : n ≤ 1000) : Does (f_spec_l1Cur_files x) fun r => r.1.1.length ≤ 100 ∧ CurOk 100000 r.2.1 := by
  unfold f_spec_l1Cur_files
  refine Does.bnd (f_spec_l1Cur_pickDoes (x := (x.1, ((4 : Int), ()))) h (by omega)) fun r1 h1 => ?_
  refine Does.bnd (f_spec_l1Cur_oneDoes (x := (r1.2.1, ((30 : Int), ()))) h1.2.2 (by omega)) fun r2 h2 => ?_
  obtain ⟨g1, g2, _⟩ := h1
  dsimp only at g2
  have fin : ∀ (k : Nat) (c : Dl1Cur), k ≤ 13 → CurOk 2000 c → Does (loopF (c := f_spec_l1Cur_files_l5c) (v := f_spec_l1Cur_files_l5v) (ex := f_spec_l1Cur_files_l5e) f_spec_l1Cur_files_l5 _ ((), ()) (((k : Int), ()), (c, (([] : List ByteArray), ()))) fun c8 o9 =>
      (bnd (f_spec_l1Cur_one (o9.2.1, ((40 : Int), ()))) fun r10 => (f_spec_l1Cur_files_i9 _ ((r10.1.1, ()), ()) ((), (r10.2.1, (o9.2.2.1, ()))) fun c12 o13 =>
      (some ((o13.2.2.1, ()), (o13.2.1, ())))))) (fun r : ((List ByteArray) × Unit) × (Dl1Cur × Unit) => r.1.1.length ≤ 100 ∧ CurOk 100000 r.2.1) := by
    intro k c hk hc
    refine Does.loop (c := f_spec_l1Cur_files_l5c) (v := f_spec_l1Cur_files_l5v) (ex := f_spec_l1Cur_files_l5e)
      (I := fun _ v => ∃ k : Nat, v.1.1 = (k : Int) ∧ k ≤ 13 ∧ v.2.2.1.length + k ≤ 13 ∧ CurOk (2000 + 500 * (13 - k)) v.2.1) (μ := fun _ v => v.1.1.toNat) (fun c v hI => ?_) ⟨k, rfl, hk, by simpa using hk, hc.le (by omega)⟩
    obtain ⟨⟨w, ⟨⟩⟩, cu, l, ⟨⟩⟩ := v
    obtain ⟨k, q1, q2, q3, q4⟩ := hI
    dsimp only at q1 q3 q4
    subst q1
    simp only [round, f_spec_l1Cur_files_l5]
    refine Does.cond (fun hlt => ?_) fun hlt => Does.val ?_
    · have hlt := ilt_iff.1 hlt
      refine Does.bnd (f_spec_l1Cur_amongDoes (x := (cu, ([(0 : Int), (1 : Int), (30 : Int), (64 : Int), (65 : Int), (130 : Int), (200 : Int)], ()))) q4 (by omega) (by simp)) fun r6 h6 => ?_
      have hm : 0 ≤ r6.1.1 ∧ r6.1.1 ≤ 200 := by
        have := h6.1
        simp only [List.mem_cons, List.not_mem_nil, or_false] at this
        omega
      refine Does.bnd (f_spec_l1Cur_textDoes (m := r6.1.1.toNat) (x := (r6.2.1, (r6.1.1, ()))) h6.2 (by dsimp only; omega) (by omega) (by omega)) fun r7 h7 => ?_
      refine Does.req (by simp; omega) (Does.val ?_)
      have e1 : isub .i64 (k : Int) (1 : Int) = ((k - 1 : Nat) : Int) := by rw [isub_i64 (by omega)]; omega
      refine ⟨⟨k - 1, e1, by omega, by simp; omega, h7.2.le (by omega)⟩, ?_⟩
      dsimp only
      rw [e1]; omega
    · refine Does.bnd (f_spec_l1Cur_oneDoes (x := (cu, ((40 : Int), ()))) q4 (by omega)) fun r10 h10 => ?_
      unfold f_spec_l1Cur_files_i9
      refine Does.cond (fun _ => ?_) fun _ => Does.val ⟨by dsimp only; omega, h10.le (by omega)⟩
      refine Does.bnd (f_spec_l1Cur_pickDoes (x := (r10.2.1, ((2 : Int), ()))) h10 (by omega)) fun r11 h11 => ?_
      obtain ⟨p1, p2, p3⟩ := h11
      dsimp only at p2
      have e1 : iadd .i64 (4000 : Int) r11.1.1 = 4000 + r11.1.1 := iadd_i64 (by omega)
      rw [e1]
      refine Does.req (by simp; omega) (Does.req (by simp; omega) (Does.val ⟨by simp; omega, p3.le (by omega)⟩))
  unfold f_spec_l1Cur_files_i4
  refine Does.cond (fun _ => ?_) fun _ => ?_
  · refine Does.bnd (f_spec_l1Cur_pickDoes (x := (r2.2.1, ((2 : Int), ()))) h2 (by omega)) fun r3 h3 => ?_
    obtain ⟨p1, p2, p3⟩ := h3
    dsimp only at p2
    have e1 : iadd .i64 (12 : Int) r3.1.1 = ((12 + r3.1.1.toNat : Nat) : Int) := by rw [iadd_i64 (by omega)]; omega
    dsimp only
    rw [e1]
    exact fin _ _ (by omega) (p3.le (by omega))
  · have e1 : r1.1.1 = ((r1.1.1.toNat : Nat) : Int) := by omega
    dsimp only
    rw [e1]
    exact fin _ _ (by omega) (h2.le (by omega))

theorem chunksA_len (fs : List ByteArray) : (chunksA fs).1.length ≤ 200 := by
  unfold chunksA
  cases h : okC fs with
  | false => simp
  | true =>
    simp only [okC, Bool.and_eq_true, decide_eq_true_eq] at h
    exact h.2

theorem f_spec_DrawPlayTakingDoes {code : List Int} (hb : ∀ x ∈ code, 0 ≤ x ∧ x < 256) : Does (f_spec_DrawPlayTaking (code, ())) fun r => r.1.1.length ≤ 100 := by
  unfold f_spec_DrawPlayTaking
  refine Does.bnd (f_spec_l1Cur_filesDoes (n := 0) (x := ((code, ((0 : Int), ((0 : Int), ()))), ())) ⟨hb, by simp, by simp⟩ (by omega)) fun r1 h1 => ?_
  rw [f_spec_ChunksOfVal _ (by have := h1.1; omega), bnd_some]
  dsimp only
  have hcl := chunksA_len r1.1.1
  generalize (chunksA r1.1.1).1 = chs at hcl ⊢
  have e0 : imul .i64 (3 : Int) (iadd .i64 (llen chs) (1 : Int)) = 3 * ((chs.length : Int) + 1) := by
    simp only [llen]
    rw [iadd_i64 (by omega), imul_i64 (by omega)]
  rw [e0]
  refine Does.bnd (f_spec_l1Cur_pickDoes (x := (r1.2.1, ((3 * ((chs.length : Int) + 1)), ()))) h1.2 (by omega)) fun r3 h3 => ?_
  obtain ⟨p1, p2, p3⟩ := h3
  dsimp only at p2
  refine Does.loop (c := f_spec_DrawPlayTaking_l6c) (v := f_spec_DrawPlayTaking_l6v) (ex := f_spec_DrawPlayTaking_l6e)
    (I := fun _ v => ∃ k : Nat, v.1.1 = (k : Int) ∧ k ≤ 700 ∧ v.2.1.length ≤ 100 ∧ v.2.2.1.length ≤ 200 ∧ v.2.2.2.1.length + k ≤ 700 ∧ v.2.2.2.2.1.length + k ≤ 700 ∧ CurOk (110000 + 10 * (700 - k)) v.2.2.2.2.2.1) (μ := fun _ v => v.1.1.toNat) (fun c v hI => ?_)
    ⟨r3.1.1.toNat, (Int.toNat_of_nonneg p1).symm, by omega, h1.1, hcl, by simp; omega, by simp; omega, p3.le (by omega)⟩
  obtain ⟨⟨w, ⟨⟩⟩, fs, chs, ord, fli, cu, ⟨⟩⟩ := v
  obtain ⟨k, q1, q2, q3, q4, q5, q6, q7⟩ := hI
  dsimp only at q1 q3 q4 q5 q6 q7
  subst q1
  simp only [round, f_spec_DrawPlayTaking_l6]
  refine Does.cond (fun hlt => ?_) fun hlt => Does.val ?_
  · have hlt := ilt_iff.1 hlt
    refine Does.bnd (f_spec_l1Cur_pickDoes (x := (cu, ((iadd .i64 (llen chs) (1 : Int)), ()))) q7 (by omega)) fun r4 h4 => ?_
    refine Does.req (by simp; omega) ?_
    refine Does.bnd (f_spec_l1Cur_oneDoes (x := (r4.2.1, ((4 : Int), ()))) h4.2.2 (by omega)) fun r5 h5 => ?_
    have e1 : isub .i64 (k : Int) (1 : Int) = ((k - 1 : Nat) : Int) := by rw [isub_i64 (by omega)]; omega
    unfold f_spec_DrawPlayTaking_i11
    dsimp only
    rw [e1]
    refine Does.cond (fun _ => ?_) fun _ => ?_
    · refine Does.bnd (f_spec_l1Cur_pickDoes (x := (r5.2.1, ((600 : Int), ()))) h5 (by omega)) fun r6 h6 => ?_
      refine Does.req (by simp; omega) (Does.val ?_)
      exact ⟨⟨k - 1, rfl, by omega, q3, q4, by simp; omega, by simp; omega, h6.2.2.le (by omega)⟩, by dsimp only; omega⟩
    · refine Does.req (by simp; omega) (Does.val ?_)
      exact ⟨⟨k - 1, rfl, by omega, q3, q4, by simp; omega, by simp; omega, h5.le (by omega)⟩, by dsimp only; omega⟩
  · refine Does.bnd (f_spec_l1Cur_oneDoes (x := (cu, ((3 : Int), ()))) q7 (by omega)) fun r10 h10 => ?_
    unfold f_spec_DrawPlayTaking_i14
    refine Does.cond (fun _ => ?_) fun _ => Does.val q3
    have e1 : isub .i64 (llen chs) (1 : Int) = (chs.length : Int) - 1 := by simp only [llen]; rw [isub_i64 (by omega)]
    dsimp only
    rw [e1]
    refine Does.loop (c := f_spec_DrawPlayTaking_l15c) (v := f_spec_DrawPlayTaking_l15v) (ex := f_spec_DrawPlayTaking_l15e)
      (I := fun c v => c.2.1 = fs ∧ ∃ k : Nat, v.1.1 = (k : Int) - 1 ∧ k ≤ 200 ∧ v.2.1.length + k ≤ 1000 ∧ v.2.2.1.length + k ≤ 1000) (μ := fun _ v => (v.1.1 + 1).toNat) (fun c v hI => ?_) ⟨rfl, chs.length, rfl, q4, by dsimp only; omega, by dsimp only; omega⟩
    obtain ⟨⟨w, ⟨⟩⟩, o2, f2, ⟨⟩⟩ := v
    obtain ⟨q0, k, s1, s2, s3, s4⟩ := hI
    dsimp only at s1 s3 s4
    subst s1
    simp only [round, f_spec_DrawPlayTaking_l15]
    refine Does.cond (fun hlt => ?_) fun hlt => Does.val (Does.val ?_)
    · have hlt := ile_iff.1 hlt
      refine Does.req (by simp; omega) (Does.req (by simp; omega) (Does.val ?_))
      have e2 : isub .i64 ((k : Int) - 1) (1 : Int) = ((k - 1 : Nat) : Int) - 1 := by rw [isub_i64 (by omega)]; omega
      rw [e2]
      exact ⟨⟨q0, k - 1, rfl, by omega, by simp; omega, by simp; omega⟩, by dsimp only; omega⟩
    · dsimp only
      rw [q0]; exact q3

end Go.Proofs.Ytogmfilmfkepfaa
