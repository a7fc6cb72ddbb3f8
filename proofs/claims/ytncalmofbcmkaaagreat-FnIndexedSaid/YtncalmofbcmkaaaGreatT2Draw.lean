/- What is drawn: tables. -/
import Derived.Test.YtncalmofbcmkaaaGreatT2Run
set_option linter.all false
noncomputable section
namespace Go.Proofs.YtncalmofbcmkaaaGreat
open Go Go.Proofs.YtncalmofbcmkaaaGreat.Ev

theorem f_spec_l1Cur_tableRunDoes {n : Nat} {x : Dl1Cur × Unit} (h : CurOk n x.1) (hn : n ≤ 1098000000000) : Does (f_spec_l1Cur_tableRun x) fun r => okRun r.1.1 ∧ r.1.1.length ≤ 60 ∧ CurOk (n + 3000) r.2.1 := by
  unfold f_spec_l1Cur_tableRun
  refine Does.bnd (f_spec_l1Cur_pickDoes h (by omega)) fun r1 h1 => ?_
  refine Does.bnd (f_spec_l1Cur_oneDoes (n := n + 2) h1.2.2 (by omega)) fun r2 h2 => ?_
  have fin : ∀ (k : Int) (c : Dl1Cur), 0 ≤ k → k ≤ 60 → CurOk (n + 4) c → Does (Ev.bnd (f_spec_l1Cur_run (c, (k, ()))) fun r5 => (f_spec_l1Cur_tableRun_i6 _ (((ieq (llen r5.1.1) (0 : Int)), ()), (r5.2.1, ())) ((), (r5.1.1, ())) fun c6 o7 =>
      (some ((o7.2.1, ()), (c6.2.1, ()))))) (fun r : (List DItem × Unit) × (Dl1Cur × Unit) => okRun r.1.1 ∧ r.1.1.length ≤ 60 ∧ CurOk (n + 3000) r.2.1) := by
    intro k c hk0 hk1 hc
    obtain ⟨m, rfl⟩ : ∃ m : Nat, k = (m : Int) := ⟨k.toNat, by omega⟩
    refine Does.bnd (f_spec_l1Cur_runGood (m := m) (x := (c, ((m : Int), ()))) hc rfl (by omega) (by omega)) fun r5 h5 => ?_
    obtain ⟨h50, h51, h52⟩ := h5
    unfold f_spec_l1Cur_tableRun_i6
    refine Does.cond (fun _ => Does.val ⟨⟨rfl, by simp, by simp⟩, by simp, h52.le (by omega)⟩) (fun hlt => Does.val ⟨⟨h50, ?_, by dsimp only; omega⟩, by dsimp only; omega, h52.le (by omega)⟩)
    have hlt := ieq_false.1 hlt
    simp only [llen] at hlt
    dsimp only
    omega
  unfold f_spec_l1Cur_tableRun_i3
  refine Does.cond (fun _ => fin _ _ (by decide) (by decide) (h2.le (by omega))) (fun _ => ?_)
  have := h1.2.1
  have h10 := h1.1
  dsimp only at this ⊢
  rw [iadd_i64 (by omega)]
  exact fin _ _ (by omega) (by omega) (h2.le (by omega))

theorem f_spec_DrawTableBytesDoes {x : List Int × Unit} (h : ∀ b ∈ x.1, 0 ≤ b ∧ b < 256) : Does (f_spec_DrawTableBytes x) fun r => r.1.1.length ≤ 61 := by
  unfold f_spec_DrawTableBytes
  refine Does.bnd (f_spec_l1Cur_tableRunDoes (n := 0) (x := ((x.1, ((0 : Int), ((0 : Int), ()))), ())) ⟨h, Int.le_refl 0, Int.le_refl 0⟩ (by decide)) fun r1 h1 => ?_
  have h11 := h1.1.2.1
  refine Does.bnd (f_spec_l1Cur_pickDoes (x := (r1.2.1, ((30 : Int), ()))) h1.2.2 (by omega)) fun r2 h2 => ?_
  unfold f_spec_DrawTableBytes_i5
  refine Does.cond (fun _ => Does.val (by simp)) (fun _ => ?_)
  unfold f_spec_DrawTableBytes_i7
  refine Does.cond (fun _ => ?_) (fun _ => Does.val (by dsimp only; omega))
  dsimp only
  refine Does.getO (by decide) (by omega) fun y hy => ?_
  rw [hy, bnd_some]
  refine Does.req (decide_eq_true (by simp only [List.length_cons, List.length_nil]; omega)) (Does.val ?_)
  simp only [List.length_append, List.length_cons, List.length_nil]
  omega

theorem f_spec_l1Cur_tornDoes {n : Nat} {x : Dl1Cur × ByteArray × Unit} (h : CurOk n x.1) (hn : n ≤ 1098000000000) (hs : x.2.1.size ≤ 1048576) (h0 : 0 < x.2.1.size) : Does (f_spec_l1Cur_torn x) fun r => r.1.1.size ≤ x.2.1.size ∧ CurOk (n + 10) r.2.1 := by
  obtain ⟨c, s, ⟨⟩⟩ := x
  dsimp only at h hs h0 ⊢
  unfold f_spec_l1Cur_torn
  refine Does.bnd (f_spec_l1Cur_pickDoes (x := (c, ((4 : Int), ()))) h (by omega)) fun r1 h1 => ?_
  refine Does.cond (fun _ => ?_) (fun _ => ?_)
  · dsimp only
    rw [iadd_i64 (by simp only [slen]; omega)]
    refine Does.bnd (f_spec_l1Cur_pickDoes (x := (r1.2.1, (slen s + 1, ()))) h1.2.2 (by omega)) fun r2 h2 => ?_
    have h21 := h2.1
    have h22 := h2.2.1
    simp only [slen] at h22
    refine Does.req (by simp; omega) (Does.val ⟨?_, h2.2.2.le (by omega)⟩)
    dsimp only
    rw [ByteArray.size_extract]
    omega
  · unfold f_spec_l1Cur_torn_i5
    refine Does.cond (fun _ => ?_) (fun _ => Does.val ⟨Nat.le_refl _, h1.2.2.le (by omega)⟩)
    dsimp only
    rw [show Nat.beq s.size 0 = false from by cases hz : s.size with
      | zero => omega
      | succ k => rfl, cond_false]
    have hb := bytesOf_length s
    refine Does.cond (fun _ => ?_) (fun _ => Does.val ⟨Nat.le_refl _, h1.2.2.le (by omega)⟩)
    refine Does.bnd (f_spec_l1Cur_pickDoes (x := (r1.2.1, (llen (bytesOf s), ()))) h1.2.2 (by omega)) fun r3 h3 => ?_
    have h31 := h3.1
    have h32 := h3.2.1
    simp only [llen] at h32
    have hlt : r3.1.1 < ((bytesOf s).length : Int) := by omega
    refine Does.getO h31 hlt fun y hy => ?_
    rw [hy, bnd_some]
    refine Does.bnd (f_spec_l1Cur_pickDoes (x := (r3.2.1, ((8 : Int), ()))) h3.2.2 (by omega)) fun r6 h6 => ?_
    refine Does.req (ile_iff.2 (by rw [wrap_u64]; omega)) ?_
    refine Does.getO h31 hlt fun z hz => ?_
    rw [bnd_some]
    refine Does.val ⟨?_, h6.2.2.le (by omega)⟩
    dsimp only
    rw [strOf_size, List.length_set, hb]
    exact Nat.le_refl _

theorem table_size {l : List DItem} (h : okRun l) : 8 ≤ (tableB l).size ∧ (tableB l).size ≤ 30000 := by
  obtain ⟨n, a, h1, h2, h3, _, _, _, _, _, _, h10, h11, _⟩ := table_lies h
  have hb := body_size _ (tabPs_ok h.1)
  have f1 := frameB_size (indexB (placesP 0 (tabPs l)))
  have f2 := frameB_size (bitsOf (keysOf l))
  have f3 := bitsOf_size (keysOf l)
  omega

theorem f_spec_l1Cur_tableTextDoes {n : Nat} {x : Dl1Cur × Unit} (h : CurOk n x.1) (hn : n ≤ 1097000000000) : Does (f_spec_l1Cur_tableText x) fun r => r.1.1.size ≤ 30000 ∧ CurOk (n + 4000) r.2.1 := by
  unfold f_spec_l1Cur_tableText
  refine Does.bnd (f_spec_l1Cur_tableRunDoes h (by omega)) fun r1 h1 => ?_
  obtain ⟨hok, _, hc⟩ := h1
  have hsz := table_size hok
  have hl := hok.2.2
  rw [f_spec_TableBytesVal _ (by dsimp only; omega), bnd_some]
  dsimp only
  unfold outT
  rw [if_pos hok]
  refine Does.bnd (f_spec_l1Cur_oneDoes (x := (r1.2.1, ((3 : Int), ()))) hc (by omega)) fun r3 h3 => ?_
  unfold f_spec_l1Cur_tableText_i3
  refine Does.cond (fun _ => ?_) (fun _ => Does.val ⟨hsz.2, h3.le (by omega)⟩)
  refine Does.bnd (f_spec_l1Cur_tornDoes (x := (r3.2.1, (tableB r1.1.1, ()))) h3 (by omega) (by dsimp only; omega) (by dsimp only; omega)) fun r4 h4 => Does.val ⟨?_, h4.2.le (by omega)⟩
  have := h4.1
  dsimp only at this ⊢
  omega

theorem f_spec_DrawGetFromDoes {x : List Int × Unit} (h : ∀ b ∈ x.1, 0 ≤ b ∧ b < 256) : Does (f_spec_DrawGetFrom x) fun r => True := by
  unfold f_spec_DrawGetFrom
  refine Does.bnd (f_spec_l1Cur_tableTextDoes (n := 0) (x := ((x.1, ((0 : Int), ((0 : Int), ()))), ())) ⟨h, Int.le_refl 0, Int.le_refl 0⟩ (by decide)) fun r1 h1 => ?_
  refine Does.bnd (f_spec_l1Cur_keyDoes (x := (r1.2.1, ())) h1.2 (by omega)) fun r2 h2 => ?_
  exact Does.bnd (f_spec_l1Cur_pickDoes (x := (r2.2.1, ((24 : Int), ()))) h2 (by omega)) fun r3 h3 => Does.val trivial

theorem f_spec_DrawIndexOfDoes {x : List Int × Unit} (h : ∀ b ∈ x.1, 0 ≤ b ∧ b < 256) : Does (f_spec_DrawIndexOf x) fun r => r.1.1.size ≤ 30000 := by
  unfold f_spec_DrawIndexOf f_spec_DrawReadTable
  refine Does.bnd (Does.bnd (f_spec_l1Cur_tableTextDoes (n := 0) (x := ((x.1, ((0 : Int), ((0 : Int), ()))), ())) ⟨h, Int.le_refl 0, Int.le_refl 0⟩ (by decide)) fun r1 h1 => Does.val (Q := fun r : (ByteArray × Unit) × Unit => r.1.1.size ≤ 30000) h1.1) fun r hr => Does.val hr

end Go.Proofs.YtncalmofbcmkaaaGreat
