/- Disks: what is drawn. -/
import Derived.Test.YthlnjkcpdkjipaaDoorXCur
import Derived.Test.YthlnjkcpdkjipaaDoorY0Play
set_option linter.all false
noncomputable section
namespace Go.Proofs.YthlnjkcpdkjipaaDoor
open Go Go.Proofs.YthlnjkcpdkjipaaDoor.Ev

theorem pickD {n : Nat} {c : Dl1Cur} {m : Int} (h : CurOk n c) (hn : n ≤ 1099511627775) : Does (f_spec_l1Cur_pick (c, (m, ()))) fun r => 0 ≤ r.1.1 ∧ (r.1.1 < m ∨ r.1.1 = 0) ∧ CurOk (n + 2) r.2.1 := f_spec_l1Cur_pickDoes (x := (c, (m, ()))) h hn
theorem oneD {n : Nat} {c : Dl1Cur} {m : Int} (h : CurOk n c) (hn : n ≤ 1099511627775) : Does (f_spec_l1Cur_one (c, (m, ()))) fun r => CurOk (n + 2) r.2.1 := f_spec_l1Cur_oneDoes (x := (c, (m, ()))) h hn
theorem ofD {n : Nat} {c : Dl1Cur} {l : List ByteArray} (h : CurOk n c) (hn : n ≤ 1099511627775) (h0 : l ≠ []) : Does (f_spec_l1Cur_of (c, (l, ()))) fun r => r.1.1 ∈ l ∧ CurOk (n + 2) r.2.1 := f_spec_l1Cur_ofDoes (x := (c, (l, ()))) h hn h0
theorem amongD {n : Nat} {c : Dl1Cur} {l : List Int} (h : CurOk n c) (hn : n ≤ 1099511627775) (h0 : l ≠ []) : Does (f_spec_l1Cur_among (c, (l, ()))) fun r => r.1.1 ∈ l ∧ CurOk (n + 2) r.2.1 := f_spec_l1Cur_amongDoes (x := (c, (l, ()))) h hn h0

theorem fileNameD {n : Nat} {c : Dl1Cur} (h : CurOk n c) (hn : n ≤ 1099511000000) : Does (f_spec_l1Cur_fileName (c, ())) fun r => r.1.1.size ≤ 13 ∧ CurOk (n + 4) r.2.1 := by
  unfold f_spec_l1Cur_fileName
  refine Does.bnd (oneD h (by omega)) fun r1 h1 => Does.cond (fun _ => ?_) fun _ => ?_
  · refine Does.bnd (ofD h1 (by omega) (by simp)) fun r2 h2 => Does.val ⟨?_, h2.2⟩
    have := h2.1
    simp only [List.mem_cons, List.not_mem_nil, or_false] at this
    rcases this with h | h | h <;> (rw [h]; decide)
  · refine Does.bnd (ofD h1 (by omega) (by simp)) fun r2 h2 => Does.val ⟨?_, h2.2⟩
    have := h2.1
    simp only [List.mem_cons, List.not_mem_nil, or_false] at this
    rcases this with h | h | h | h <;> (rw [h]; decide)

abbrev SmallStep (s : DDiskStep) : Prop := s.2.1.size ≤ 13 ∧ s.2.2.1.size ≤ 13
theorem SmallStep.ok {s : DDiskStep} (h : SmallStep s) : StepOk s := ⟨by have := h.1; omega, by have := h.2; omega⟩

theorem diskStepD {n : Nat} {c : Dl1Cur} (h : CurOk n c) (hn : n ≤ 1099490000000) : Does (f_spec_l1Cur_diskStep (c, ())) fun r => SmallStep r.1.1 ∧ CurOk (n + 60) r.2.1 := by
  unfold f_spec_l1Cur_diskStep
  refine Does.bnd (amongD h (by omega) (by simp)) fun r1 h1 => ?_
  refine Does.bnd (fileNameD h1.2 (by omega)) fun r2 h2 => ?_
  refine Does.bnd (fileNameD h2.2 (by omega)) fun r3 h3 => ?_
  refine Does.bnd (pickD h3.2 (by omega)) fun r4 h4 => ?_
  obtain ⟨h40, h41, h42⟩ := h4
  obtain ⟨m, hm⟩ := Int.eq_ofNat_of_zero_le h40
  refine Does.bnd (f_spec_l1Cur_textDoes (m := m) (x := (r4.2.1, (r4.1.1, ()))) h42 hm (by omega) (by omega)) fun r5 h5 => ?_
  have h5' : CurOk (n + 40) r5.2.1 := h5.2.le (by omega)
  refine Does.bnd (pickD h5' (by omega)) fun r6 h6 => ?_
  obtain ⟨h60, h61, h62⟩ := h6
  have fin : ∀ (c' : Dl1Cur) (z : DDiskStep) (s : DDiskStep), SmallStep s → CurOk (n + 44) c' →
      Does (bnd (f_spec_l1Cur_one (c', ((60 : Int), ()))) fun r12 => (f_spec_l1Cur_diskStep_i9 _ ((r12.1.1, ()), (z, ())) ((), (r12.2.1, (s, ()))) fun c14 o15 =>
 (some ((o15.2.2.1, ()), (o15.2.1, ()))))) (fun r : (DDiskStep × Unit) × (Dl1Cur × Unit) => SmallStep r.1.1 ∧ CurOk (n + 60) r.2.1) := by
    intro c' z s hs hc
    refine Does.bnd (oneD hc (by omega)) fun r12 h12 => ?_
    unfold f_spec_l1Cur_diskStep_i9
    refine Does.cond (fun _ => ?_) fun _ => Does.val ⟨hs, h12.le (by omega)⟩
    refine Does.bnd (amongD h12 (by omega) (by simp)) fun r13 h13 => Does.val ⟨hs, h13.2.le (by omega)⟩
  unfold f_spec_l1Cur_diskStep_i4
  refine Does.cond (fun _ => ?_) fun _ => ?_
  · refine Does.bnd (pickD h62 (by omega)) fun r7 h7 => ?_
    exact fin _ _ _ ⟨h2.1, h3.1⟩ h7.2.2
  · unfold f_spec_l1Cur_diskStep_i7
    refine Does.cond (fun _ => ?_) fun _ => fin _ _ _ ⟨h2.1, h3.1⟩ (h62.le (by omega))
    refine Does.bnd (amongD h62 (by omega) (by simp)) fun r8 h8 => ?_
    have := h8.1
    simp only [List.mem_cons, List.not_mem_nil, or_false] at this
    refine Does.req ?_ (fin _ _ _ ⟨h2.1, h3.1⟩ (h8.2.le (by omega)))
    rcases this with h | h | h <;> (rw [h]; decide)

theorem diskStepsD {n : Nat} {c : Dl1Cur} (h : CurOk n c) (hn : n ≤ 1099400000000) : Does (f_spec_l1Cur_diskSteps (c, ())) fun r => (∀ s ∈ r.1.1, SmallStep s) ∧ r.1.1.length ≤ 120 ∧ CurOk (n + 10000) r.2.1 := by
  unfold f_spec_l1Cur_diskSteps
  refine Does.bnd (pickD h (by omega)) fun r1 h1 => ?_
  refine Does.bnd (oneD h1.2.2 (by omega)) fun r2 h2 => ?_
  have fin : ∀ (k : Nat) (c' : Dl1Cur), k ≤ 120 → CurOk (n + 6) c' → Does (loopF (c := f_spec_l1Cur_diskSteps_l5c) (v := f_spec_l1Cur_diskSteps_l5v) (ex := f_spec_l1Cur_diskSteps_l5e) f_spec_l1Cur_diskSteps_l5 _ ((), ()) (((k : Int), ()), (c', (([] : List DDiskStep), ()))) fun c7 o8 =>
 (some ((o8.2.2.1, ()), (o8.2.1, ())))) (fun r : ((List DDiskStep) × Unit) × (Dl1Cur × Unit) => (∀ s ∈ r.1.1, SmallStep s) ∧ r.1.1.length ≤ 120 ∧ CurOk (n + 10000) r.2.1) := by
    intro k c' hk hc
    refine Does.loop (c := f_spec_l1Cur_diskSteps_l5c) (v := f_spec_l1Cur_diskSteps_l5v) (ex := f_spec_l1Cur_diskSteps_l5e)
      (fun _ xv => ∃ j : Nat, xv.1.1 = (j : Int) ∧ j + xv.2.2.1.length ≤ 120 ∧ (∀ s ∈ xv.2.2.1, SmallStep s) ∧ CurOk (n + 6 + 60 * xv.2.2.1.length) xv.2.1)
      (fun _ xv => xv.1.1.toNat) ?_ ⟨k, rfl, by simpa using hk, by simp, by simpa using hc⟩
    rintro _ ⟨⟨j, ⟨⟩⟩, c2, l, ⟨⟩⟩ ⟨j, h1, h2, h3, h4⟩
    dsimp only at h1 h2 h3 h4
    subst h1
    simp only [round, f_spec_l1Cur_diskSteps_l5]
    refine Does.cond (fun hlt => ?_) fun hlt => ?_
    · have hlt := ilt_iff.1 hlt
      refine Does.bnd (diskStepD h4 (by omega)) fun r6 h6 => ?_
      refine Does.req (by simp; omega) (Does.val ?_)
      dsimp only
      rw [isub_i64 (by omega)]
      refine ⟨⟨j - 1, by show (j : Int) - 1 = _; omega, by simp; omega, ?_, ?_⟩, by show ((j : Int) - 1).toNat < (j : Int).toNat; omega⟩
      · intro s hs
        rcases List.mem_append.1 hs with hs | hs
        · exact h3 s hs
        · rw [List.mem_singleton.1 hs]; exact h6.1
      · exact h6.2.le (by simp; omega)
    · exact Does.val (Does.val ⟨h3, by show l.length ≤ 120; omega, h4.le (by omega)⟩)
  unfold f_spec_l1Cur_diskSteps_i4
  refine Does.cond (fun _ => ?_) fun _ => ?_
  · refine Does.bnd (pickD h2 (by omega)) fun r3 h3 => ?_
    obtain ⟨h30, h31, h32⟩ := h3
    obtain ⟨m, hm⟩ := Int.eq_ofNat_of_zero_le h30
    rw [hm] at h31 ⊢
    rw [iadd_i64 (by omega)]
    exact fin (80 + m) _ (by omega) h32
  · obtain ⟨h10, h11, h12⟩ := h1
    obtain ⟨m, hm⟩ := Int.eq_ofNat_of_zero_le h10
    rw [hm] at h11 ⊢
    exact fin m _ (by omega) (h2.le (by omega))

theorem playD_good {room : Int} {l : List DDiskStep} : LenOk (playD room l).1 ∧ (playD room l).1.2.1.length ≤ 20 := by
  unfold playD
  cases h : (inR room 0 100000 && ile (llen l) 100) with
  | false => exact ⟨⟨by simp, by simp, by simp, fun x hx => by simp at hx, fun x hx => by simp at hx⟩, by simp⟩
  | true =>
    rw [Bool.and_eq_true] at h
    have := (playL_good l _ [] (empty_good h.1)).1
    exact ⟨this.lens, this.2.2.1.2⟩

theorem diskD {n : Nat} {c : Dl1Cur} (h : CurOk n c) (hn : n ≤ 1099000000000) : Does (f_spec_l1Cur_disk (c, ())) fun r => LenOk r.1.1 ∧ CurOk (n + 11000) r.2.1 := by
  unfold f_spec_l1Cur_disk
  refine Does.bnd (diskStepsD h (by omega)) fun r1 h1 => ?_
  obtain ⟨h10, h11, h12⟩ := h1
  have fin : ∀ (l : List DDiskStep) (z : DDisk), (∀ s ∈ l, SmallStep s) → l.length ≤ 120 → Does (bnd (f_spec_l1Cur_among (r1.2.1, ([(100 : Int), (3000 : Int), (100000 : Int)], ()))) fun r4 => (bnd (f_spec_PlayDisk (r4.1.1, (l, ()))) fun r5 => (bnd (f_spec_l1Cur_pick (r4.2.1, ((40 : Int), ()))) fun r6 => (f_spec_l1Cur_disk_i7 _ ((), ()) ((r6.1.1, ((ieq r6.1.1 (0 : Int)), ())), (r6.2.1, (z, (r5.1.1, ())))) fun c10 o11 =>
 (some ((o11.2.2.2.1, ()), (o11.2.1, ()))))))) (fun r : (DDisk × Unit) × (Dl1Cur × Unit) => LenOk r.1.1 ∧ CurOk (n + 11000) r.2.1) := by
    intro l z hl hlen
    refine Does.bnd (amongD h12 (by omega) (by simp)) fun r4 h4 => ?_
    rw [f_spec_PlayDiskVal r4.1.1 l (by omega) (fun s hs => (hl s hs).ok), bnd_some]
    have hp := playD_good (room := r4.1.1) (l := l)
    generalize (playD r4.1.1 l) = P at hp ⊢
    obtain ⟨⟨bs, lv, sf, rm, ⟨⟩⟩, cs, b⟩ := P
    obtain ⟨⟨p1, p2, p3, p4, p5⟩, p6⟩ := hp
    dsimp only at p1 p2 p3 p4 p5 p6
    refine Does.bnd (pickD h4.2 (by omega)) fun r6 h6 => ?_
    obtain ⟨h60, h61, h62⟩ := h6
    unfold f_spec_l1Cur_disk_i7
    refine Does.cond (fun _ => ?_) fun _ => ?_
    · refine Does.bnd (pickD h62 (by omega)) fun r7 h7 => ?_
      refine Does.req (by simp; omega) (Does.val ⟨⟨p1, ?_, p3, ?_, p5⟩, h7.2.2.le (by omega)⟩)
      · dsimp only; simp; omega
      · intro x hx
        dsimp only at hx
        rcases List.mem_append.1 hx with hx | hx
        · exact p4 x hx
        · rw [List.mem_singleton.1 hx]; show ByteArray.size ⟨#[97]⟩ ≤ _; decide
    unfold f_spec_l1Cur_disk_i9
    refine Does.cond (fun _ => ?_) fun _ => ?_
    · refine Does.bnd (amongD h62 (by omega) (by simp)) fun r8 h8 => Does.val ⟨⟨p1, p2, p3, p4, p5⟩, h8.2.le (by omega)⟩
    unfold f_spec_l1Cur_disk_i11
    refine Does.cond (fun _ => ?_) fun _ => Does.val ⟨⟨p1, p2, p3, p4, p5⟩, h62.le (by omega)⟩
    unfold f_spec_l1Cur_disk_i12
    refine Does.cond (fun hb => ?_) fun _ => Does.val ⟨⟨p1, p2, p3, p4, p5⟩, h62.le (by omega)⟩
    have hb := ilt_iff.1 hb
    simp only [llen] at hb
    refine Does.bnd (pickD h62 (by omega)) fun r9 h9 => ?_
    refine Does.getO (by omega) hb fun y hy => ?_
    rw [hy]
    exact Does.val ⟨⟨by dsimp only; rw [List.length_set]; exact p1, p2, p3, p4, p5⟩, h9.2.2.le (by omega)⟩
  unfold f_spec_l1Cur_disk_i3
  refine Does.cond (fun hb => ?_) fun _ => fin _ _ h10 h11
  have hb := ilt_iff.1 hb
  simp only [llen] at hb
  refine Does.req (by simp; omega) (fin _ _ (fun s hs => h10 s ?_) ?_)
  · exact List.mem_of_mem_drop (List.mem_of_mem_take hs)
  · simp; omega

theorem drawDoDiskD (code : List Int) (h : ∀ x ∈ code, 0 ≤ x ∧ x < 256) : Does (f_spec_DrawDoDisk (code, ())) fun r => LenOk r.1.1 ∧ SmallStep r.1.2.1 := by
  unfold f_spec_DrawDoDisk
  have h0 : CurOk 0 (code, ((0 : Int), ((0 : Int), ()))) := ⟨h, by simp, by simp⟩
  refine Does.bnd (diskD h0 (by omega)) fun r1 h1 => ?_
  exact Does.bnd (diskStepD h1.2 (by omega)) fun r2 h2 => Does.val ⟨h1.1, h2.1⟩

end Go.Proofs.YthlnjkcpdkjipaaDoor
