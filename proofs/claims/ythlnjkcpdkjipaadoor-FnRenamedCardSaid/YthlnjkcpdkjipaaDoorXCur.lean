/- A cursor's draws. -/
import Derived.Test.YthlnjkcpdkjipaaDoorR14Fns
import Derived.Test.YthlnjkcpdkjipaaDoorUMid
set_option linter.all false
noncomputable section
namespace Go.Proofs.YthlnjkcpdkjipaaDoor
open Go Go.Proofs.YthlnjkcpdkjipaaDoor.Ev

theorem strOf_size (l : List Int) : (strOf l).size = l.length := by simp [strOf, ByteArray.size]

/-- a cursor over bytes that has made n steps at most -/
structure CurOk (n : Nat) (c : Dl1Cur) : Prop where
  by0 : ∀ x ∈ c.1, 0 ≤ x ∧ x < 256
  lo : 0 ≤ c.2.1
  hi : c.2.1 ≤ n

theorem CurOk.le {n m : Nat} {c : Dl1Cur} (h : CurOk n c) (hm : n ≤ m) : CurOk m c := ⟨h.by0, h.lo, by have := h.hi; omega⟩

theorem f_spec_l1Cur_nextDoes {n : Nat} {x : Dl1Cur × Unit} (h : CurOk n x.1) (hn : n ≤ 1099511627776) : Does (f_spec_l1Cur_next x) fun r => 0 ≤ r.1.1 ∧ r.1.1 ≤ 255 ∧ CurOk (n + 1) r.2.1 := by
  obtain ⟨⟨code, at', seed, ⟨⟩⟩, ⟨⟩⟩ := x
  obtain ⟨h1, h2, h3⟩ := h
  dsimp only at h1 h2 h3
  have e1 : iadd .i64 at' (1 : Int) = at' + 1 := iadd_i64 (by omega)
  unfold f_spec_l1Cur_next f_spec_l1Cur_next_i3
  dsimp only
  have fin : ∀ b : Int, 0 ≤ b → b ≤ 255 → Does (bif ile (iadd .i64 at' (1 : Int)) (llen code) then
      some ((b, ()), ((code, ((iadd .i64 at' (1 : Int)), ((iadd .u64 (iadd .u64 (imul .u64 seed (6364136223846793005 : Int)) (IntKind.wrap .u64 b)) (1442695040888963407 : Int)), ()))), ()))
      else some (((IntKind.wrap .i64 (iand .u64 (ishr .u64 (iadd .u64 (iadd .u64 (imul .u64 seed (6364136223846793005 : Int)) (IntKind.wrap .u64 b)) (1442695040888963407 : Int)) (40 : Int)) (255 : Int))), ()), ((code, ((iadd .i64 at' (1 : Int)), ((iadd .u64 (iadd .u64 (imul .u64 seed (6364136223846793005 : Int)) (IntKind.wrap .u64 b)) (1442695040888963407 : Int)), ()))), ())))
      (fun r : (Int × Unit) × (Dl1Cur × Unit) => 0 ≤ r.1.1 ∧ r.1.1 ≤ 255 ∧ CurOk (n + 1) r.2.1) := by
    intro b hb0 hb1
    rw [e1]
    have hc : ∀ sd : Int, CurOk (n + 1) (code, (at' + 1, (sd, ()))) := fun sd => ⟨h1, by dsimp only; omega, by dsimp only; omega⟩
    refine Does.cond (fun _ => Does.val ⟨hb0, hb1, hc _⟩) (fun _ => Does.val ?_)
    have := iand_255 .u64 (ishr .u64 (iadd .u64 (iadd .u64 (imul .u64 seed (6364136223846793005 : Int)) (IntKind.wrap .u64 b)) (1442695040888963407 : Int)) (40 : Int)) (.inl rfl)
    refine ⟨?_, ?_, hc _⟩
    · dsimp only; rw [wrap_i64 _ (by omega)]; exact this.1
    · dsimp only; rw [wrap_i64 _ (by omega)]; exact this.2
  cases hlt : ilt at' (llen code) with
  | true =>
    have hlt := ilt_iff.1 hlt
    simp only [llen] at hlt
    refine Does.getO h2 hlt fun y hy => ?_
    have hyr := h1 y (List.mem_of_getElem? hy)
    rw [wrap_i64 y (by omega)]
    exact fin y hyr.1 (by omega)
  | false => exact fin 0 (by decide) (by decide)

theorem f_spec_l1Cur_pickDoes {n : Nat} {x : Dl1Cur × Int × Unit} (h : CurOk n x.1) (hn : n ≤ 1099511627775) : Does (f_spec_l1Cur_pick x) fun r => 0 ≤ r.1.1 ∧ (r.1.1 < x.2.1 ∨ r.1.1 = 0) ∧ CurOk (n + 2) r.2.1 := by
  obtain ⟨c, m, ⟨⟩⟩ := x
  dsimp only at h
  unfold f_spec_l1Cur_pick
  dsimp only
  refine Does.cond (fun _ => Does.val ⟨Int.le_refl 0, .inr rfl, h.le (by omega)⟩) (fun hm => ?_)
  have hm := ile_false.1 hm
  refine Does.bnd (f_spec_l1Cur_nextDoes (x := (c, ())) h (by omega)) fun r1 hr1 => ?_
  obtain ⟨r10, r11, r12⟩ := hr1
  unfold f_spec_l1Cur_pick_i5
  dsimp only
  have fin : ∀ (b : Int) (c' : Dl1Cur), 0 ≤ b → CurOk (n + 2) c' → Does (Ev.req (!decide (m = (0 : Int))) (some (((irem .i64 b m), ()), (c', ())))) (fun r : (Int × Unit) × (Dl1Cur × Unit) => 0 ≤ r.1.1 ∧ (r.1.1 < m ∨ r.1.1 = 0) ∧ CurOk (n + 2) r.2.1) := by
    intro b c' hb hc
    have := irem_range hb (show 0 < m by omega)
    exact Does.req (by simp; omega) (Does.val ⟨this.1, .inl this.2.1, hc⟩)
  refine Does.cond (fun _ => ?_) (fun _ => fin _ _ r10 (r12.le (by omega)))
  refine Does.bnd (f_spec_l1Cur_nextDoes (x := (r1.2.1, ())) r12 (by omega)) fun r2 hr2 => ?_
  obtain ⟨r20, r21, r22⟩ := hr2
  refine fin _ _ ?_ r22
  rw [imul_i64 (by omega), iadd_i64 (by omega)]
  omega

theorem f_spec_l1Cur_oneDoes {n : Nat} {x : Dl1Cur × Int × Unit} (h : CurOk n x.1) (hn : n ≤ 1099511627775) : Does (f_spec_l1Cur_one x) fun r => CurOk (n + 2) r.2.1 := by
  unfold f_spec_l1Cur_one
  exact Does.bnd (f_spec_l1Cur_pickDoes (x := (x.1, (x.2.1, ()))) h hn) fun r hr => Does.val hr.2.2

theorem f_spec_l1Cur_ofDoes {n : Nat} {x : Dl1Cur × List ByteArray × Unit} (h : CurOk n x.1) (hn : n ≤ 1099511627775) (h0 : x.2.1 ≠ []) : Does (f_spec_l1Cur_of x) fun r => r.1.1 ∈ x.2.1 ∧ CurOk (n + 2) r.2.1 := by
  unfold f_spec_l1Cur_of
  have hp : 0 < x.2.1.length := List.length_pos_iff.2 h0
  refine Does.bnd (f_spec_l1Cur_pickDoes (x := (x.1, (llen x.2.1, ()))) h hn) fun r hr => ?_
  obtain ⟨r0, r1, r2⟩ := hr
  simp only [llen] at r1
  refine Does.getO r0 (by omega) fun y hy => ?_
  rw [hy]
  exact Does.val ⟨List.mem_of_getElem? hy, r2⟩

theorem f_spec_l1Cur_amongDoes {n : Nat} {x : Dl1Cur × List Int × Unit} (h : CurOk n x.1) (hn : n ≤ 1099511627775) (h0 : x.2.1 ≠ []) : Does (f_spec_l1Cur_among x) fun r => r.1.1 ∈ x.2.1 ∧ CurOk (n + 2) r.2.1 := by
  unfold f_spec_l1Cur_among
  have hp : 0 < x.2.1.length := List.length_pos_iff.2 h0
  refine Does.bnd (f_spec_l1Cur_pickDoes (x := (x.1, (llen x.2.1, ()))) h hn) fun r hr => ?_
  obtain ⟨r0, r1, r2⟩ := hr
  simp only [llen] at r1
  refine Does.getO r0 (by omega) fun y hy => ?_
  rw [hy]
  exact Does.val ⟨List.mem_of_getElem? hy, r2⟩

theorem f_spec_l1Cur_textDoes {n m : Nat} {x : Dl1Cur × Int × Unit} (h : CurOk n x.1) (hx : x.2.1 = (m : Int)) (hm : m ≤ 1000000) (hn : n ≤ 1099500000000) : Does (f_spec_l1Cur_text x) fun r => r.1.1.size = m ∧ CurOk (n + 2 * m) r.2.1 := by
  obtain ⟨c, k, ⟨⟩⟩ := x
  dsimp only at h hx
  subst hx
  unfold f_spec_l1Cur_text
  dsimp only
  refine Does.req (by simp; omega) ?_
  refine Does.loop (c := f_spec_l1Cur_text_l3c) (v := f_spec_l1Cur_text_l3v) (ex := f_spec_l1Cur_text_l3e)
    (fun xc xv => xc.1.1 = (m : Int) ∧ xv.2.2.1.length = m ∧ ∃ j : Nat, xv.1.1 = (j : Int) ∧ j ≤ m ∧ CurOk (n + 2 * j) xv.2.1)
    (fun xc xv => m - Int.toNat xv.1.1) ?_ ⟨by simp [llen], by simp, 0, rfl, by omega, h⟩
  rintro ⟨⟨mm, ⟨⟩⟩, ⟨⟩⟩ ⟨⟨j, ⟨⟩⟩, c, l, ⟨⟩⟩ ⟨h1, h2, j, h3, h4, h5⟩
  dsimp only at h1 h2 h3 h5
  subst h1
  subst h3
  simp only [round, f_spec_l1Cur_text_l3]
  refine Does.cond (fun hlt => ?_) (fun hlt => ?_)
  · have hlt := ilt_iff.1 hlt
    refine Does.bnd (f_spec_l1Cur_pickDoes (x := (c, ((256 : Int), ()))) h5 (by omega)) fun r hr => ?_
    refine Does.getO (by omega) (by omega) fun y hy => ?_
    rw [hy]
    refine Does.val ?_
    dsimp only
    rw [iadd_i64 (by omega)]
    refine ⟨⟨rfl, by simp [h2], j + 1, by simp, by omega, hr.2.2.le (by omega)⟩, by omega⟩
  · have hlt := ilt_false.1 hlt
    refine Does.val (Does.val ?_)
    exact ⟨by rw [strOf_size]; exact h2, h5.le (by omega)⟩

end Go.Proofs.YthlnjkcpdkjipaaDoor
