/- What is drawn: runs of items. There is an answer, of bounded length. -/
import Derived.Test.YtncalmofbcmkaaaGreatEv3
import Derived.Test.YtncalmofbcmkaaaGreatR1Run
set_option linter.all false
noncomputable section
namespace Go.Proofs.YtncalmofbcmkaaaGreat
open Go Go.Proofs.YtncalmofbcmkaaaGreat.Ev

/-- a cursor over bytes that has made n steps at most -/
structure CurOk (n : Nat) (c : Dl1Cur) : Prop where
  by0 : ∀ x ∈ c.1, 0 ≤ x ∧ x < 256
  lo : 0 ≤ c.2.1
  hi : c.2.1 ≤ n

theorem CurOk.le {n m : Nat} {c : Dl1Cur} (h : CurOk n c) (hm : n ≤ m) : CurOk m c := ⟨h.by0, h.lo, by have := h.hi; omega⟩

theorem f_spec_l1Cur_nextDoes {n : Nat} {x : Dl1Cur × Unit} (h : CurOk n x.1) (hn : n ≤ 1099511627776) : Does (f_spec_l1Cur_next x) fun r => 0 ≤ r.1.1 ∧ r.1.1 ≤ 255 ∧ CurOk (n + 1) r.2.1 := by
  obtain ⟨⟨code, at', seed, ⟨⟩⟩, ⟨⟩⟩ := x
  obtain ⟨h1, h2, h3⟩ := h
  dsimp only at h1 h2 h3
  have e1 : iadd .i64 at' (1 : Int) = at' + 1 := iadd_i64 (by omega)
  unfold f_spec_l1Cur_next f_spec_l1Cur_next_i3
  dsimp only
  have fin : ∀ b : Int, 0 ≤ b → b ≤ 255 → Does (bif ile (iadd .i64 at' (1 : Int)) (llen code) then
      some ((b, ()), ((code, ((iadd .i64 at' (1 : Int)), ((iadd .u64 (iadd .u64 (imul .u64 seed (6364136223846793005 : Int)) (IntKind.wrap .u64 b)) (1442695040888963407 : Int)), ()))), ()))
      else some (((IntKind.wrap .i64 (iand .u64 (ishr .u64 (iadd .u64 (iadd .u64 (imul .u64 seed (6364136223846793005 : Int)) (IntKind.wrap .u64 b)) (1442695040888963407 : Int)) (40 : Int)) (255 : Int))), ()), ((code, ((iadd .i64 at' (1 : Int)), ((iadd .u64 (iadd .u64 (imul .u64 seed (6364136223846793005 : Int)) (IntKind.wrap .u64 b)) (1442695040888963407 : Int)), ()))), ())))
      (fun r : (Int × Unit) × (Dl1Cur × Unit) => 0 ≤ r.1.1 ∧ r.1.1 ≤ 255 ∧ CurOk (n + 1) r.2.1) := by
    intro b hb0 hb1
    rw [e1]
    have hc : ∀ sd : Int, CurOk (n + 1) (code, (at' + 1, (sd, ()))) := fun sd => ⟨h1, by dsimp only; omega, by dsimp only; omega⟩
    refine Does.cond (fun _ => Does.val ⟨hb0, hb1, hc _⟩) (fun _ => Does.val ?_)
    have := iand_255 .u64 (ishr .u64 (iadd .u64 (iadd .u64 (imul .u64 seed (6364136223846793005 : Int)) (IntKind.wrap .u64 b)) (1442695040888963407 : Int)) (40 : Int)) (.inl rfl)
    refine ⟨?_, ?_, hc _⟩
    · dsimp only; rw [wrap_i64 _ (by omega)]; exact this.1
    · dsimp only; rw [wrap_i64 _ (by omega)]; exact this.2
  cases hlt : ilt at' (llen code) with
  | true =>
    have hlt := ilt_iff.1 hlt
    simp only [llen] at hlt
    refine Does.getO h2 hlt fun y hy => ?_
    have hyr := h1 y (List.mem_of_getElem? hy)
    rw [wrap_i64 y (by omega)]
    exact fin y hyr.1 (by omega)
  | false => exact fin 0 (by decide) (by decide)

theorem f_spec_l1Cur_pickDoes {n : Nat} {x : Dl1Cur × Int × Unit} (h : CurOk n x.1) (hn : n ≤ 1099511627775) : Does (f_spec_l1Cur_pick x) fun r => 0 ≤ r.1.1 ∧ (r.1.1 < x.2.1 ∨ r.1.1 = 0) ∧ CurOk (n + 2) r.2.1 := by
  obtain ⟨c, m, ⟨⟩⟩ := x
  dsimp only at h
  unfold f_spec_l1Cur_pick
  dsimp only
  refine Does.cond (fun _ => Does.val ⟨Int.le_refl 0, .inr rfl, h.le (by omega)⟩) (fun hm => ?_)
  have hm := ile_false.1 hm
  refine Does.bnd (f_spec_l1Cur_nextDoes (x := (c, ())) h (by omega)) fun r1 hr1 => ?_
  obtain ⟨r10, r11, r12⟩ := hr1
  unfold f_spec_l1Cur_pick_i5
  dsimp only
  have fin : ∀ (b : Int) (c' : Dl1Cur), 0 ≤ b → CurOk (n + 2) c' → Does (Ev.req (!decide (m = (0 : Int))) (some (((irem .i64 b m), ()), (c', ())))) (fun r : (Int × Unit) × (Dl1Cur × Unit) => 0 ≤ r.1.1 ∧ (r.1.1 < m ∨ r.1.1 = 0) ∧ CurOk (n + 2) r.2.1) := by
    intro b c' hb hc
    have := irem_range hb (show 0 < m by omega)
    exact Does.req (by simp; omega) (Does.val ⟨this.1, .inl this.2.1, hc⟩)
  refine Does.cond (fun _ => ?_) (fun _ => fin _ _ r10 (r12.le (by omega)))
  refine Does.bnd (f_spec_l1Cur_nextDoes (x := (r1.2.1, ())) r12 (by omega)) fun r2 hr2 => ?_
  obtain ⟨r20, r21, r22⟩ := hr2
  refine fin _ _ ?_ r22
  rw [imul_i64 (by omega), iadd_i64 (by omega)]
  omega

theorem f_spec_l1Cur_oneDoes {n : Nat} {x : Dl1Cur × Int × Unit} (h : CurOk n x.1) (hn : n ≤ 1099511627775) : Does (f_spec_l1Cur_one x) fun r => CurOk (n + 2) r.2.1 := by
  unfold f_spec_l1Cur_one
  exact Does.bnd (f_spec_l1Cur_pickDoes (x := (x.1, (x.2.1, ()))) h hn) fun r hr => Does.val hr.2.2

theorem f_spec_l1Cur_ofDoes {n : Nat} {x : Dl1Cur × List ByteArray × Unit} (h : CurOk n x.1) (hn : n ≤ 1099511627775) (h0 : x.2.1 ≠ []) : Does (f_spec_l1Cur_of x) fun r => r.1.1 ∈ x.2.1 ∧ CurOk (n + 2) r.2.1 := by
  unfold f_spec_l1Cur_of
  have hp : 0 < x.2.1.length := List.length_pos_iff.2 h0
  refine Does.bnd (f_spec_l1Cur_pickDoes (x := (x.1, (llen x.2.1, ()))) h hn) fun r hr => ?_
  obtain ⟨r0, r1, r2⟩ := hr
  simp only [llen] at r1
  refine Does.getO r0 (by omega) fun y hy => ?_
  rw [hy]
  exact Does.val ⟨List.mem_of_getElem? hy, r2⟩

theorem f_spec_l1Cur_amongDoes {n : Nat} {x : Dl1Cur × List Int × Unit} (h : CurOk n x.1) (hn : n ≤ 1099511627775) (h0 : x.2.1 ≠ []) : Does (f_spec_l1Cur_among x) fun r => r.1.1 ∈ x.2.1 ∧ CurOk (n + 2) r.2.1 := by
  unfold f_spec_l1Cur_among
  have hp : 0 < x.2.1.length := List.length_pos_iff.2 h0
  refine Does.bnd (f_spec_l1Cur_pickDoes (x := (x.1, (llen x.2.1, ()))) h hn) fun r hr => ?_
  obtain ⟨r0, r1, r2⟩ := hr
  simp only [llen] at r1
  refine Does.getO r0 (by omega) fun y hy => ?_
  rw [hy]
  exact Does.val ⟨List.mem_of_getElem? hy, r2⟩

theorem f_spec_l1Cur_keyDoes {n : Nat} {x : Dl1Cur × Unit} (h : CurOk n x.1) (hn : n ≤ 1099511627770) : Does (f_spec_l1Cur_key x) fun r => CurOk (n + 4) r.2.1 := by
  unfold f_spec_l1Cur_key
  refine Does.bnd (f_spec_l1Cur_oneDoes (x := (x.1, ((60 : Int), ()))) h (by omega)) fun r hr => ?_
  refine Does.cond (fun _ => ?_) (fun _ => ?_)
  · exact Does.bnd (f_spec_l1Cur_ofDoes (n := n + 2) hr (by omega) (by simp)) fun r2 hr2 => Does.val hr2.2
  · exact Does.bnd (f_spec_l1Cur_ofDoes (n := n + 2) hr (by omega) (by simp)) fun r2 hr2 => Does.val hr2.2

theorem f_spec_l1Cur_textDoes {n m : Nat} {x : Dl1Cur × Int × Unit} (h : CurOk n x.1) (hx : x.2.1 = (m : Int)) (hm : m ≤ 1000000) (hn : n ≤ 1099500000000) : Does (f_spec_l1Cur_text x) fun r => r.1.1.size = m ∧ CurOk (n + 2 * m) r.2.1 := by
  obtain ⟨c, k, ⟨⟩⟩ := x
  dsimp only at h hx
  subst hx
  unfold f_spec_l1Cur_text
  dsimp only
  refine Does.req (by simp; omega) ?_
  refine Does.loop (c := f_spec_l1Cur_text_l3c) (v := f_spec_l1Cur_text_l3v) (ex := f_spec_l1Cur_text_l3e)
    (fun xc xv => xc.1.1 = (m : Int) ∧ xv.2.2.1.length = m ∧ ∃ j : Nat, xv.1.1 = (j : Int) ∧ j ≤ m ∧ CurOk (n + 2 * j) xv.2.1)
    (fun xc xv => m - Int.toNat xv.1.1) ?_ ⟨by simp [llen], by simp, 0, rfl, by omega, h⟩
  rintro ⟨⟨mm, ⟨⟩⟩, ⟨⟩⟩ ⟨⟨j, ⟨⟩⟩, c, l, ⟨⟩⟩ ⟨h1, h2, j, h3, h4, h5⟩
  dsimp only at h1 h2 h3 h5
  subst h1
  subst h3
  simp only [round, f_spec_l1Cur_text_l3]
  refine Does.cond (fun hlt => ?_) (fun hlt => ?_)
  · have hlt := ilt_iff.1 hlt
    refine Does.bnd (f_spec_l1Cur_pickDoes (x := (c, ((256 : Int), ()))) h5 (by omega)) fun r hr => ?_
    refine Does.getO (by omega) (by omega) fun y hy => ?_
    rw [hy]
    refine Does.val ?_
    dsimp only
    rw [iadd_i64 (by omega)]
    refine ⟨⟨rfl, by simp [h2], j + 1, by simp, by omega, hr.2.2.le (by omega)⟩, by omega⟩
  · have hlt := ilt_false.1 hlt
    refine Does.val (Does.val ?_)
    exact ⟨by rw [strOf_size]; exact h2, h5.le (by omega)⟩

theorem f_spec_l1Cur_itemDoes {n : Nat} {x : Dl1Cur × Unit} (h : CurOk n x.1) (hn : n ≤ 1099400000000) : Does (f_spec_l1Cur_item x) fun r => CurOk (n + 40) r.2.1 := by
  unfold f_spec_l1Cur_item
  refine Does.bnd (f_spec_l1Cur_keyDoes h (by omega)) fun r1 h1 => ?_
  refine Does.bnd (f_spec_l1Cur_pickDoes (n := n + 4) h1 (by omega)) fun r2 h2 => ?_
  refine Does.bnd (f_spec_l1Cur_pickDoes (n := n + 6) h2.2.2 (by omega)) fun r3 h3 => ?_
  obtain ⟨k, hk⟩ : ∃ k : Nat, r3.1.1 = (k : Int) := ⟨r3.1.1.toNat, by have := h3.1; omega⟩
  have hk5 : k < 5 := by have := h3.2.1; dsimp only at this; omega
  refine Does.bnd (f_spec_l1Cur_textDoes (n := n + 8) (m := k) h3.2.2 hk (by omega) (by omega)) fun r4 h4 => ?_
  refine Does.bnd (f_spec_l1Cur_oneDoes (n := n + 8 + 2 * k) h4.2 (by omega)) fun r5 h5 => ?_
  have fin : ∀ (c : Dl1Cur) (a b : DItem), CurOk (n + 10 + 2 * k) c → Does (Ev.bnd (f_spec_l1Cur_pick (c, ((60 : Int), ()))) fun r8 => (f_spec_l1Cur_item_i7 _ ((), ()) ((r8.1.1, ((ieq r8.1.1 (0 : Int)), ())), (r8.2.1, (a, (b, ())))) fun c12 o13 =>
      (some ((o13.2.2.2.1, ()), (o13.2.1, ()))))) (fun r : (DItem × Unit) × (Dl1Cur × Unit) => CurOk (n + 40) r.2.1) := by
    intro c a b hc
    refine Does.bnd (f_spec_l1Cur_pickDoes (n := n + 10 + 2 * k) hc (by omega)) fun r8 h8 => ?_
    unfold f_spec_l1Cur_item_i7
    refine Does.cond (fun _ => ?_) (fun _ => ?_)
    · exact Does.bnd (f_spec_l1Cur_amongDoes (n := n + 12 + 2 * k) (h8.2.2.le (by omega)) (by omega) (by simp)) fun r9 h9 => Does.val (h9.2.le (by omega))
    · unfold f_spec_l1Cur_item_i9
      refine Does.cond (fun _ => ?_) (fun _ => Does.val (h8.2.2.le (by omega)))
      refine Does.bnd (f_spec_l1Cur_pickDoes (n := n + 12 + 2 * k) (h8.2.2.le (by omega)) (by omega)) fun r10 h10 => ?_
      refine Does.req ?_ (Does.val (h10.2.2.le (by omega)))
      have := h10.1
      have := h10.2.1
      dsimp only at this
      rw [iadd_i64 (by omega)]
      simp
      omega
  unfold f_spec_l1Cur_item_i3
  exact Does.cond (fun _ => fin _ _ _ (h5.le (by omega))) (fun _ => fin _ _ _ (h5.le (by omega)))

theorem f_spec_l6SeekDoes {x : List DItem × DItem × Unit} (hl : x.1.length ≤ 1000000) : Does (f_spec_l6Seek x) fun r => 0 ≤ r.1.1 ∧ r.1.1 ≤ x.1.length := by
  obtain ⟨l, y, ⟨⟩⟩ := x
  dsimp only at hl
  unfold f_spec_l6Seek
  refine Does.loop (c := f_spec_l6Seek_l3c) (v := f_spec_l6Seek_l3v) (ex := f_spec_l6Seek_l3e)
    (fun _ (xv : (List DItem × Int × Int × Unit) × (DItem × Unit)) => xv.1.1 = l ∧ (0 : Int) ≤ (xv.1.2.1 : Int) ∧ (xv.1.2.1 : Int) ≤ (xv.1.2.2.1 : Int) ∧ (xv.1.2.2.1 : Int) ≤ (l.length : Int)) (fun _ (xv : (List DItem × Int × Int × Unit) × (DItem × Unit)) => (xv.1.2.2.1 - xv.1.2.1).toNat) ?_ ⟨rfl, Int.le_refl 0, by simp [llen], by simp [llen]⟩
  rintro ⟨⟨⟩, ⟨⟩⟩ ⟨⟨l', a, b, ⟨⟩⟩, z, ⟨⟩⟩ ⟨h1, h2, h3, h4⟩
  dsimp only at h1 h2 h3 h4
  subst h1
  simp only [round, f_spec_l6Seek_l3]
  refine Does.cond (fun hlt => ?_) (fun hlt => ?_)
  · have hlt := ilt_iff.1 hlt
    have e : iquo .i64 (iadd .i64 a b) (2 : Int) = (a + b) / 2 := by
      rw [iadd_i64 (by omega)]
      simp only [iquo]
      rw [Int.tdiv_eq_ediv_of_nonneg (by omega), wrap_i64 _ (by omega)]
    rw [e]
    refine Does.getO (by omega) (by omega) fun q hq => ?_
    rw [f_spec_l4CompareVal, bnd_some]
    unfold f_spec_l6Seek_i6
    refine Does.cond (fun _ => Does.val ?_) (fun _ => Does.val ?_)
    · dsimp only
      rw [iadd_i64 (by omega)]
      exact ⟨⟨rfl, by omega, by omega, by omega⟩, by omega⟩
    · dsimp only
      exact ⟨⟨rfl, by omega, by omega, by omega⟩, by omega⟩
  · exact Does.val (Does.val ⟨by dsimp only; omega, by dsimp only; omega⟩)

theorem f_spec_l6PutDoes {x : List DItem × DItem × Unit} (hl : x.1.length ≤ 1000000) : Does (f_spec_l6Put x) fun r => r.1.1.length ≤ x.1.length + 1 := by
  obtain ⟨l, y, ⟨⟩⟩ := x
  dsimp only at hl
  unfold f_spec_l6Put
  refine Does.bnd (f_spec_l6SeekDoes hl) fun r hr => ?_
  obtain ⟨r0, r1⟩ := hr
  dsimp only at r1
  have fin : Does (Ev.req (decide ((0 : Int) ≤ r.1.1) && decide (r.1.1 ≤ ((List.length l) : Int))) (Ev.req (decide (List.length ([] : List DItem) + List.length (List.take ((Int.toNat r.1.1) - (0 : Nat)) (List.drop (0 : Nat) l)) ≤ 17179869184)) (Ev.req (decide (List.length (([] : List DItem) ++ (List.take ((Int.toNat r.1.1) - (0 : Nat)) (List.drop (0 : Nat) l))) + List.length [y] ≤ 17179869184)) (Ev.req (decide ((0 : Int) ≤ r.1.1) && decide (r.1.1 ≤ ((List.length l) : Int))) (Ev.req (decide (List.length ((([] : List DItem) ++ (List.take ((Int.toNat r.1.1) - (0 : Nat)) (List.drop (0 : Nat) l))) ++ [y]) + List.length (List.take ((List.length l) - (Int.toNat r.1.1)) (List.drop (Int.toNat r.1.1) l)) ≤ 17179869184)) (some (((((([] : List DItem) ++ (List.take ((Int.toNat r.1.1) - (0 : Nat)) (List.drop (0 : Nat) l))) ++ [y]) ++ (List.take ((List.length l) - (Int.toNat r.1.1)) (List.drop (Int.toNat r.1.1) l))), ()), ())))))))
      (fun r : ((List DItem) × Unit) × Unit => r.1.1.length ≤ l.length + 1) := by
    refine Does.req (by simp; omega) (Does.req (by simp; omega) (Does.req (by simp; omega) (Does.req (by simp; omega) (Does.req (by simp; omega) (Does.val ?_)))))
    simp only [List.length_append, List.length_take, List.length_drop, List.length_nil, List.length_cons]
    omega
  refine Does.cond (fun hlt => ?_) (fun _ => fin)
  have hlt := ilt_iff.1 hlt
  refine Does.getO r0 hlt fun q hq => ?_
  rw [hq, bnd_some, f_spec_l4CompareVal, bnd_some]
  exact Does.cond (fun _ => Does.val (by dsimp only; omega)) (fun _ => fin)

theorem f_spec_l1Cur_runDoes {n m : Nat} {x : Dl1Cur × Int × Unit} (h : CurOk n x.1) (hx : x.2.1 = (m : Int)) (hm : m ≤ 10000) (hn : n ≤ 1099000000000) : Does (f_spec_l1Cur_run x) fun r => r.1.1.length ≤ m ∧ CurOk (n + 40 * m) r.2.1 := by
  obtain ⟨c, k, ⟨⟩⟩ := x
  dsimp only at h hx
  subst hx
  unfold f_spec_l1Cur_run
  dsimp only
  refine Does.loop (c := f_spec_l1Cur_run_l2c) (v := f_spec_l1Cur_run_l2v) (ex := f_spec_l1Cur_run_l2e)
    (fun xc xv => ∃ j i : Nat, xv.1.1 = (j : Int) ∧ j + i = m ∧ xv.2.2.1.length ≤ i ∧ CurOk (n + 40 * i) xv.2.1) (fun xc xv => Int.toNat xv.1.1) ?_ ⟨m, 0, rfl, rfl, by simp, h⟩
  rintro ⟨⟨⟩, ⟨⟩⟩ ⟨⟨j, ⟨⟩⟩, c, l, ⟨⟩⟩ ⟨j, i, h1, h2, h3, h4⟩
  dsimp only at h1 h3 h4
  subst h1
  simp only [round, f_spec_l1Cur_run_l2]
  refine Does.cond (fun hlt => ?_) (fun hlt => ?_)
  · have hlt := ilt_iff.1 hlt
    refine Does.bnd (f_spec_l1Cur_itemDoes (x := (c, ())) h4 (by omega)) fun r hr => ?_
    rw [f_spec_GoodItemVal, bnd_some]
    unfold f_spec_l1Cur_run_i6
    have e : isub .i64 (j : Int) (1 : Int) = ((j - 1 : Nat) : Int) := by rw [isub_i64 (by omega)]; omega
    refine Does.cond (fun _ => ?_) (fun _ => ?_)
    · refine Does.bnd (f_spec_l6PutDoes (x := (l, (r.1.1, ()))) (by dsimp only; omega)) fun r3 h5 => Does.val ?_
      dsimp only at h5 ⊢
      rw [e]
      exact ⟨⟨j - 1, i + 1, rfl, by omega, by omega, hr.le (by omega)⟩, by omega⟩
    · refine Does.val ?_
      dsimp only
      rw [e]
      exact ⟨⟨j - 1, i + 1, rfl, by omega, by omega, hr.le (by omega)⟩, by omega⟩
  · have hlt := ilt_false.1 hlt
    refine Does.val (Does.val ⟨by dsimp only; omega, h4.le (by omega)⟩)

end Go.Proofs.YtncalmofbcmkaaaGreat
