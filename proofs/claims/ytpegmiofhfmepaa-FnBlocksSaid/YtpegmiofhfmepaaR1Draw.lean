/- What is drawn: runs of items. There is an answer, of bounded length. -/
import Derived.Test.YtpegmiofhfmepaaEv3
import Derived.Test.YtpegmiofhfmepaaR1Run
set_option linter.all false
noncomputable section
namespace Go.Proofs.Ytpegmiofhfmepaa
open Go Go.Proofs.Ytpegmiofhfmepaa.Ev

/-- a cursor over bytes that has made n steps at most -/
structure CurOk (n : Nat) (c : D96) : Prop where
  by0 : ∀ x ∈ c.1, 0 ≤ x ∧ x < 256
  lo : 0 ≤ c.2.1
  hi : c.2.1 ≤ n

theorem CurOk.le {n m : Nat} {c : D96} (h : CurOk n c) (hm : n ≤ m) : CurOk m c := ⟨h.by0, h.lo, by have := h.hi; omega⟩

theorem t102Does {n : Nat} {x : D96 × Unit} (h : CurOk n x.1) (hn : n ≤ 1099511627776) : Does (t102 x) fun r => 0 ≤ r.1.1 ∧ r.1.1 ≤ 255 ∧ CurOk (n + 1) r.2.1 := by
  obtain ⟨⟨code, at', seed, ⟨⟩⟩, ⟨⟩⟩ := x
  obtain ⟨h1, h2, h3⟩ := h
  dsimp only at h1 h2 h3
  have e1 : iadd .i64 at' (1 : Int) = at' + 1 := iadd_i64 (by omega)
  unfold t102 t102i3
  dsimp only
  have fin : ∀ b : Int, 0 ≤ b → b ≤ 255 → Does (bif ile (iadd .i64 at' (1 : Int)) (llen code) then
      some ((b, ()), ((code, ((iadd .i64 at' (1 : Int)), ((iadd .u64 (iadd .u64 (imul .u64 seed (6364136223846793005 : Int)) (IntKind.wrap .u64 b)) (1442695040888963407 : Int)), ()))), ()))
      else some (((IntKind.wrap .i64 (iand .u64 (ishr .u64 (iadd .u64 (iadd .u64 (imul .u64 seed (6364136223846793005 : Int)) (IntKind.wrap .u64 b)) (1442695040888963407 : Int)) (40 : Int)) (255 : Int))), ()), ((code, ((iadd .i64 at' (1 : Int)), ((iadd .u64 (iadd .u64 (imul .u64 seed (6364136223846793005 : Int)) (IntKind.wrap .u64 b)) (1442695040888963407 : Int)), ()))), ())))
      (fun r : (Int × Unit) × (D96 × Unit) => 0 ≤ r.1.1 ∧ r.1.1 ≤ 255 ∧ CurOk (n + 1) r.2.1) := by
    intro b hb0 hb1
    rw [e1]
    have hc : ∀ sd : Int, CurOk (n + 1) (code, (at' + 1, (sd, ()))) := fun sd => ⟨h1, by dsimp only; omega, by dsimp only; omega⟩
    refine Does.cond (fun _ => Does.val ⟨hb0, hb1, hc _⟩) (fun _ => Does.val ?_)
    have := iand_255 .u64 (ishr .u64 (iadd .u64 (iadd .u64 (imul .u64 seed (6364136223846793005 : Int)) (IntKind.wrap .u64 b)) (1442695040888963407 : Int)) (40 : Int)) (.inl rfl)
    refine ⟨?_, ?_, hc _⟩
    · dsimp only; rw [wrap_i64 _ (by omega)]; exact this.1
    · dsimp only; rw [wrap_i64 _ (by omega)]; exact this.2
  cases hlt : ilt at' (llen code) with
  | true =>
    have hlt := ilt_iff.1 hlt
    simp only [llen] at hlt
    refine Does.getO h2 hlt fun y hy => ?_
    have hyr := h1 y (List.mem_of_getElem? hy)
    rw [wrap_i64 y (by omega)]
    exact fin y hyr.1 (by omega)
  | false => exact fin 0 (by decide) (by decide)

theorem t93Does {n : Nat} {x : D96 × Int × Unit} (h : CurOk n x.1) (hn : n ≤ 1099511627775) : Does (t93 x) fun r => 0 ≤ r.1.1 ∧ (r.1.1 < x.2.1 ∨ r.1.1 = 0) ∧ CurOk (n + 2) r.2.1 := by
  obtain ⟨c, m, ⟨⟩⟩ := x
  dsimp only at h
  unfold t93
  dsimp only
  refine Does.cond (fun _ => Does.val ⟨Int.le_refl 0, .inr rfl, h.le (by omega)⟩) (fun hm => ?_)
  have hm := ile_false.1 hm
  refine Does.bnd (t102Does (x := (c, ())) h (by omega)) fun r1 hr1 => ?_
  obtain ⟨r10, r11, r12⟩ := hr1
  unfold t93i5
  dsimp only
  have fin : ∀ (b : Int) (c' : D96), 0 ≤ b → CurOk (n + 2) c' → Does (Ev.req (!decide (m = (0 : Int))) (some (((irem .i64 b m), ()), (c', ())))) (fun r : (Int × Unit) × (D96 × Unit) => 0 ≤ r.1.1 ∧ (r.1.1 < m ∨ r.1.1 = 0) ∧ CurOk (n + 2) r.2.1) := by
    intro b c' hb hc
    have := irem_range hb (show 0 < m by omega)
    exact Does.req (by simp; omega) (Does.val ⟨this.1, .inl this.2.1, hc⟩)
  refine Does.cond (fun _ => ?_) (fun _ => fin _ _ r10 (r12.le (by omega)))
  refine Does.bnd (t102Does (x := (r1.2.1, ())) r12 (by omega)) fun r2 hr2 => ?_
  obtain ⟨r20, r21, r22⟩ := hr2
  refine fin _ _ ?_ r22
  rw [imul_i64 (by omega), iadd_i64 (by omega)]
  omega

theorem t94Does {n : Nat} {x : D96 × Int × Unit} (h : CurOk n x.1) (hn : n ≤ 1099511627775) : Does (t94 x) fun r => CurOk (n + 2) r.2.1 := by
  unfold t94
  exact Does.bnd (t93Does (x := (x.1, (x.2.1, ()))) h hn) fun r hr => Does.val hr.2.2

theorem t112Does {n : Nat} {x : D96 × List ByteArray × Unit} (h : CurOk n x.1) (hn : n ≤ 1099511627775) (h0 : x.2.1 ≠ []) : Does (t112 x) fun r => r.1.1 ∈ x.2.1 ∧ CurOk (n + 2) r.2.1 := by
  unfold t112
  have hp : 0 < x.2.1.length := List.length_pos_iff.2 h0
  refine Does.bnd (t93Does (x := (x.1, (llen x.2.1, ()))) h hn) fun r hr => ?_
  obtain ⟨r0, r1, r2⟩ := hr
  simp only [llen] at r1
  refine Does.getO r0 (by omega) fun y hy => ?_
  rw [hy]
  exact Does.val ⟨List.mem_of_getElem? hy, r2⟩

theorem t110Does {n : Nat} {x : D96 × List Int × Unit} (h : CurOk n x.1) (hn : n ≤ 1099511627775) (h0 : x.2.1 ≠ []) : Does (t110 x) fun r => r.1.1 ∈ x.2.1 ∧ CurOk (n + 2) r.2.1 := by
  unfold t110
  have hp : 0 < x.2.1.length := List.length_pos_iff.2 h0
  refine Does.bnd (t93Does (x := (x.1, (llen x.2.1, ()))) h hn) fun r hr => ?_
  obtain ⟨r0, r1, r2⟩ := hr
  simp only [llen] at r1
  refine Does.getO r0 (by omega) fun y hy => ?_
  rw [hy]
  exact Does.val ⟨List.mem_of_getElem? hy, r2⟩

theorem t108Does {n : Nat} {x : D96 × Unit} (h : CurOk n x.1) (hn : n ≤ 1099511627770) : Does (t108 x) fun r => CurOk (n + 4) r.2.1 := by
  unfold t108
  refine Does.bnd (t94Does (x := (x.1, ((60 : Int), ()))) h (by omega)) fun r hr => ?_
  refine Does.cond (fun _ => ?_) (fun _ => ?_)
  · exact Does.bnd (t112Does (n := n + 2) hr (by omega) (by simp)) fun r2 hr2 => Does.val hr2.2
  · exact Does.bnd (t112Does (n := n + 2) hr (by omega) (by simp)) fun r2 hr2 => Does.val hr2.2

theorem t109Does {n m : Nat} {x : D96 × Int × Unit} (h : CurOk n x.1) (hx : x.2.1 = (m : Int)) (hm : m ≤ 1000000) (hn : n ≤ 1099500000000) : Does (t109 x) fun r => r.1.1.size = m ∧ CurOk (n + 2 * m) r.2.1 := by
  obtain ⟨c, k, ⟨⟩⟩ := x
  dsimp only at h hx
  subst hx
  unfold t109
  dsimp only
  refine Does.req (by simp; omega) ?_
  refine Does.loop (c := t109l3c) (v := t109l3v) (ex := t109l3e)
    (fun xc xv => xc.1.1 = (m : Int) ∧ xv.2.2.1.length = m ∧ ∃ j : Nat, xv.1.1 = (j : Int) ∧ j ≤ m ∧ CurOk (n + 2 * j) xv.2.1)
    (fun xc xv => m - Int.toNat xv.1.1) ?_ ⟨by simp [llen], by simp, 0, rfl, by omega, h⟩
  rintro ⟨⟨mm, ⟨⟩⟩, ⟨⟩⟩ ⟨⟨j, ⟨⟩⟩, c, l, ⟨⟩⟩ ⟨h1, h2, j, h3, h4, h5⟩
  dsimp only at h1 h2 h3 h5
  subst h1
  subst h3
  simp only [round, t109l3]
  refine Does.cond (fun hlt => ?_) (fun hlt => ?_)
  · have hlt := ilt_iff.1 hlt
    refine Does.bnd (t93Does (x := (c, ((256 : Int), ()))) h5 (by omega)) fun r hr => ?_
    refine Does.getO (by omega) (by omega) fun y hy => ?_
    rw [hy]
    refine Does.val ?_
    dsimp only
    rw [iadd_i64 (by omega)]
    refine ⟨⟨rfl, by simp [h2], j + 1, by simp, by omega, hr.2.2.le (by omega)⟩, by omega⟩
  · have hlt := ilt_false.1 hlt
    refine Does.val (Does.val ?_)
    exact ⟨by rw [strOf_size]; exact h2, h5.le (by omega)⟩

theorem t103Does {n : Nat} {x : D96 × Unit} (h : CurOk n x.1) (hn : n ≤ 1099400000000) : Does (t103 x) fun r => CurOk (n + 40) r.2.1 := by
  unfold t103
  refine Does.bnd (t108Does h (by omega)) fun r1 h1 => ?_
  refine Does.bnd (t93Does (n := n + 4) h1 (by omega)) fun r2 h2 => ?_
  refine Does.bnd (t93Does (n := n + 6) h2.2.2 (by omega)) fun r3 h3 => ?_
  obtain ⟨k, hk⟩ : ∃ k : Nat, r3.1.1 = (k : Int) := ⟨r3.1.1.toNat, by have := h3.1; omega⟩
  have hk5 : k < 5 := by have := h3.2.1; dsimp only at this; omega
  refine Does.bnd (t109Does (n := n + 8) (m := k) h3.2.2 hk (by omega) (by omega)) fun r4 h4 => ?_
  refine Does.bnd (t94Does (n := n + 8 + 2 * k) h4.2 (by omega)) fun r5 h5 => ?_
  have fin : ∀ (c : D96) (a b : D51), CurOk (n + 10 + 2 * k) c → Does (Ev.bnd (t93 (c, ((60 : Int), ()))) fun r8 => (t103i7 _ ((), ()) ((r8.1.1, ((ieq r8.1.1 (0 : Int)), ())), (r8.2.1, (a, (b, ())))) fun c12 o13 =>
      (some ((o13.2.2.2.1, ()), (o13.2.1, ()))))) (fun r : (D51 × Unit) × (D96 × Unit) => CurOk (n + 40) r.2.1) := by
    intro c a b hc
    refine Does.bnd (t93Does (n := n + 10 + 2 * k) hc (by omega)) fun r8 h8 => ?_
    unfold t103i7
    refine Does.cond (fun _ => ?_) (fun _ => ?_)
    · exact Does.bnd (t110Does (n := n + 12 + 2 * k) (h8.2.2.le (by omega)) (by omega) (by simp)) fun r9 h9 => Does.val (h9.2.le (by omega))
    · unfold t103i9
      refine Does.cond (fun _ => ?_) (fun _ => Does.val (h8.2.2.le (by omega)))
      refine Does.bnd (t93Does (n := n + 12 + 2 * k) (h8.2.2.le (by omega)) (by omega)) fun r10 h10 => ?_
      refine Does.req ?_ (Does.val (h10.2.2.le (by omega)))
      have := h10.1
      have := h10.2.1
      dsimp only at this
      rw [iadd_i64 (by omega)]
      simp
      omega
  unfold t103i3
  exact Does.cond (fun _ => fin _ _ _ (h5.le (by omega))) (fun _ => fin _ _ _ (h5.le (by omega)))

theorem t111Does {x : List D51 × D51 × Unit} (hl : x.1.length ≤ 1000000) : Does (t111 x) fun r => 0 ≤ r.1.1 ∧ r.1.1 ≤ x.1.length := by
  obtain ⟨l, y, ⟨⟩⟩ := x
  dsimp only at hl
  unfold t111
  refine Does.loop (c := t111l3c) (v := t111l3v) (ex := t111l3e)
    (fun _ (xv : (List D51 × Int × Int × Unit) × (D51 × Unit)) => xv.1.1 = l ∧ (0 : Int) ≤ (xv.1.2.1 : Int) ∧ (xv.1.2.1 : Int) ≤ (xv.1.2.2.1 : Int) ∧ (xv.1.2.2.1 : Int) ≤ (l.length : Int)) (fun _ (xv : (List D51 × Int × Int × Unit) × (D51 × Unit)) => (xv.1.2.2.1 - xv.1.2.1).toNat) ?_ ⟨rfl, Int.le_refl 0, by simp [llen], by simp [llen]⟩
  rintro ⟨⟨⟩, ⟨⟩⟩ ⟨⟨l', a, b, ⟨⟩⟩, z, ⟨⟩⟩ ⟨h1, h2, h3, h4⟩
  dsimp only at h1 h2 h3 h4
  subst h1
  simp only [round, t111l3]
  refine Does.cond (fun hlt => ?_) (fun hlt => ?_)
  · have hlt := ilt_iff.1 hlt
    have e : iquo .i64 (iadd .i64 a b) (2 : Int) = (a + b) / 2 := by
      rw [iadd_i64 (by omega)]
      simp only [iquo]
      rw [Int.tdiv_eq_ediv_of_nonneg (by omega), wrap_i64 _ (by omega)]
    rw [e]
    refine Does.getO (by omega) (by omega) fun q hq => ?_
    rw [t80Val, bnd_some]
    unfold t111i6
    refine Does.cond (fun _ => Does.val ?_) (fun _ => Does.val ?_)
    · dsimp only
      rw [iadd_i64 (by omega)]
      exact ⟨⟨rfl, by omega, by omega, by omega⟩, by omega⟩
    · dsimp only
      exact ⟨⟨rfl, by omega, by omega, by omega⟩, by omega⟩
  · exact Does.val (Does.val ⟨by dsimp only; omega, by dsimp only; omega⟩)

theorem t104Does {x : List D51 × D51 × Unit} (hl : x.1.length ≤ 1000000) : Does (t104 x) fun r => r.1.1.length ≤ x.1.length + 1 := by
  obtain ⟨l, y, ⟨⟩⟩ := x
  dsimp only at hl
  unfold t104
  refine Does.bnd (t111Does hl) fun r hr => ?_
  obtain ⟨r0, r1⟩ := hr
  dsimp only at r1
  have fin : Does (Ev.req (decide ((0 : Int) ≤ r.1.1) && decide (r.1.1 ≤ ((List.length l) : Int))) (Ev.req (decide (List.length ([] : List D51) + List.length (List.take ((Int.toNat r.1.1) - (0 : Nat)) (List.drop (0 : Nat) l)) ≤ 17179869184)) (Ev.req (decide (List.length (([] : List D51) ++ (List.take ((Int.toNat r.1.1) - (0 : Nat)) (List.drop (0 : Nat) l))) + List.length [y] ≤ 17179869184)) (Ev.req (decide ((0 : Int) ≤ r.1.1) && decide (r.1.1 ≤ ((List.length l) : Int))) (Ev.req (decide (List.length ((([] : List D51) ++ (List.take ((Int.toNat r.1.1) - (0 : Nat)) (List.drop (0 : Nat) l))) ++ [y]) + List.length (List.take ((List.length l) - (Int.toNat r.1.1)) (List.drop (Int.toNat r.1.1) l)) ≤ 17179869184)) (some (((((([] : List D51) ++ (List.take ((Int.toNat r.1.1) - (0 : Nat)) (List.drop (0 : Nat) l))) ++ [y]) ++ (List.take ((List.length l) - (Int.toNat r.1.1)) (List.drop (Int.toNat r.1.1) l))), ()), ())))))))
      (fun r : ((List D51) × Unit) × Unit => r.1.1.length ≤ l.length + 1) := by
    refine Does.req (by simp; omega) (Does.req (by simp; omega) (Does.req (by simp; omega) (Does.req (by simp; omega) (Does.req (by simp; omega) (Does.val ?_)))))
    simp only [List.length_append, List.length_take, List.length_drop, List.length_nil, List.length_cons]
    omega
  refine Does.cond (fun hlt => ?_) (fun _ => fin)
  have hlt := ilt_iff.1 hlt
  refine Does.getO r0 hlt fun q hq => ?_
  rw [hq, bnd_some, t80Val, bnd_some]
  exact Does.cond (fun _ => Does.val (by dsimp only; omega)) (fun _ => fin)

theorem t95Does {n m : Nat} {x : D96 × Int × Unit} (h : CurOk n x.1) (hx : x.2.1 = (m : Int)) (hm : m ≤ 10000) (hn : n ≤ 1099000000000) : Does (t95 x) fun r => r.1.1.length ≤ m ∧ CurOk (n + 40 * m) r.2.1 := by
  obtain ⟨c, k, ⟨⟩⟩ := x
  dsimp only at h hx
  subst hx
  unfold t95
  dsimp only
  refine Does.loop (c := t95l2c) (v := t95l2v) (ex := t95l2e)
    (fun xc xv => ∃ j i : Nat, xv.1.1 = (j : Int) ∧ j + i = m ∧ xv.2.2.1.length ≤ i ∧ CurOk (n + 40 * i) xv.2.1) (fun xc xv => Int.toNat xv.1.1) ?_ ⟨m, 0, rfl, rfl, by simp, h⟩
  rintro ⟨⟨⟩, ⟨⟩⟩ ⟨⟨j, ⟨⟩⟩, c, l, ⟨⟩⟩ ⟨j, i, h1, h2, h3, h4⟩
  dsimp only at h1 h3 h4
  subst h1
  simp only [round, t95l2]
  refine Does.cond (fun hlt => ?_) (fun hlt => ?_)
  · have hlt := ilt_iff.1 hlt
    refine Does.bnd (t103Does (x := (c, ())) h4 (by omega)) fun r hr => ?_
    rw [t79Val, bnd_some]
    unfold t95i6
    have e : isub .i64 (j : Int) (1 : Int) = ((j - 1 : Nat) : Int) := by rw [isub_i64 (by omega)]; omega
    refine Does.cond (fun _ => ?_) (fun _ => ?_)
    · refine Does.bnd (t104Does (x := (l, (r.1.1, ()))) (by dsimp only; omega)) fun r3 h5 => Does.val ?_
      dsimp only at h5 ⊢
      rw [e]
      exact ⟨⟨j - 1, i + 1, rfl, by omega, by omega, hr.le (by omega)⟩, by omega⟩
    · refine Does.val ?_
      dsimp only
      rw [e]
      exact ⟨⟨j - 1, i + 1, rfl, by omega, by omega, hr.le (by omega)⟩, by omega⟩
  · have hlt := ilt_false.1 hlt
    refine Does.val (Does.val ⟨by dsimp only; omega, h4.le (by omega)⟩)

theorem t72Does {n : Nat} {x : D96 × Unit} (h : CurOk n x.1) (hn : n ≤ 1098000000000) : Does (t72 x) fun r => r.1.1.length ≤ 70 ∧ CurOk (n + 3000) r.2.1 := by
  unfold t72
  refine Does.bnd (t93Does h (by omega)) fun r1 h1 => ?_
  refine Does.bnd (t94Does (n := n + 2) h1.2.2 (by omega)) fun r2 h2 => ?_
  have fin : ∀ (k : Int) (c : D96), 0 ≤ k → k ≤ 70 → CurOk (n + 4) c → Does (Ev.bnd (t95 (c, (k, ()))) fun r5 => (bif ilt (1 : Int) (llen r5.1.1) then
      (Ev.bnd (t94 (r5.2.1, ((30 : Int), ()))) fun r6 => (t72i6 _ ((r6.1.1, ()), (r6.2.1, ())) ((), (r5.1.1, ())) fun c11 o12 =>
      (some ((o12.2.1, ()), (c11.2.1, ()))))) else
      (t72i6 _ ((false, ()), (r5.2.1, ())) ((), (r5.1.1, ())) fun c13 o14 =>
      (some ((o14.2.1, ()), (c13.2.1, ())))))) (fun r : (List D51 × Unit) × (D96 × Unit) => r.1.1.length ≤ 70 ∧ CurOk (n + 3000) r.2.1) := by
    intro k c hk0 hk1 hc
    obtain ⟨m, rfl⟩ : ∃ m : Nat, k = (m : Int) := ⟨k.toNat, by omega⟩
    refine Does.bnd (t95Does (m := m) (x := (c, ((m : Int), ()))) hc rfl (by omega) (by omega)) fun r5 h5 => ?_
    refine Does.cond (fun hlt => ?_) (fun _ => ?_)
    · have hlt := ilt_iff.1 hlt
      simp only [llen] at hlt
      refine Does.bnd (t94Does (x := (r5.2.1, ((30 : Int), ()))) h5.2 (by omega)) fun r6 h6 => ?_
      unfold t72i6
      refine Does.cond (fun _ => ?_) (fun _ => Does.val ⟨by dsimp only; omega, h6.le (by omega)⟩)
      refine Does.getO (by decide) hlt fun y hy => ?_
      rw [hy, bnd_some]
      refine Does.getO (by decide) (by dsimp only; omega) fun z hz => ?_
      rw [hz, bnd_some]
      exact Does.val ⟨by simp; omega, h6.le (by omega)⟩
    · unfold t72i6
      exact Does.val ⟨by dsimp only; omega, h5.2.le (by omega)⟩
  unfold t72i3
  refine Does.cond (fun _ => fin _ _ (by decide) (by decide) (h2.le (by omega))) (fun _ => fin _ _ h1.1 ?_ (h2.le (by omega)))
  have := h1.2.1
  dsimp only at this ⊢
  omega

theorem t49Does {x : List Int × Unit} (h : ∀ b ∈ x.1, 0 ≤ b ∧ b < 256) : Does (t49 x) fun r => r.1.1.length ≤ 70 := by
  unfold t49
  exact Does.bnd (t72Does (n := 0) ⟨h, Int.le_refl 0, Int.le_refl 0⟩ (by decide)) fun r hr => Does.val hr.1

theorem t29Does {x : List Int × Unit} (h : ∀ b ∈ x.1, 0 ≤ b ∧ b < 256) : Does (t29 x) fun r => r.1.1.length ≤ 70 := by
  unfold t29
  exact Does.bnd (t49Does (x := (x.1, ())) h) fun r hr => Does.val hr

end Go.Proofs.Ytpegmiofhfmepaa
