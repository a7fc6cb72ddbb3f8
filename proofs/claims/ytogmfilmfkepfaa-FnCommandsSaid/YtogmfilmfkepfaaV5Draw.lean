/- What is drawn: commands. There is an answer, of bounded length. -/
import Derived.Test.YtogmfilmfkepfaaV5Draw0
import Derived.Test.YtogmfilmfkepfaaC4Fold3
set_option linter.all false
noncomputable section
namespace Go.Proofs.Ytogmfilmfkepfaa
open Go Go.Proofs.Ytogmfilmfkepfaa.Ev

theorem f_spec_l1Cur_command_i12Does {R : Type} {Q : R → Prop} {n : Nat} {b : Bool} {z : DCommand} {c : Dl1Cur} {x : DCommand} {kk} (h : CurOk n c) (hn : n ≤ 1099511627000) (hk : ∀ c' x', CurOk (n + 2) c' → Does (kk ((b, ()), (z, ())) ((), (c', (x', ())))) Q) : Does (f_spec_l1Cur_command_i12 R ((b, ()), (z, ())) ((), (c, (x, ()))) kk) Q := by
  unfold f_spec_l1Cur_command_i12
  dsimp only
  refine Does.cond (fun _ => ?_) fun _ => hk _ _ (h.le (by omega))
  refine Does.bnd (f_spec_l1Cur_pickDoes (x := (c, ((2 : Int), ()))) h (by omega)) fun r hr => ?_
  obtain ⟨r0, r1, r2⟩ := hr
  dsimp only at r1
  have e : iadd .i64 (40 : Int) r.1.1 = 40 + r.1.1 := iadd_i64 (by omega)
  rw [e]
  exact Does.req (by simp; omega) (hk _ _ r2)

theorem f_spec_l1Cur_command_i10Does {R : Type} {Q : R → Prop} {n : Nat} {a : Int} {b : Bool} {z : DCommand} {c : Dl1Cur} {x : DCommand} {kk} (h : CurOk n c) (hn : n ≤ 1099511627000) (hk : ∀ c' z' x', CurOk (n + 2) c' → Does (kk ((), ()) ((), (c', (z', (x', ()))))) Q) : Does (f_spec_l1Cur_command_i10 R ((), ()) ((a, (b, ())), (c, (z, (x, ())))) kk) Q := by
  unfold f_spec_l1Cur_command_i10
  dsimp only
  refine Does.cond (fun _ => ?_) fun _ => f_spec_l1Cur_command_i12Does h hn fun c' x' hc => hk _ _ _ hc
  exact Does.bnd (f_spec_l1Cur_amongDoes (x := (c, ([(0 : Int), (1000000 : Int), (1000001 : Int)], ()))) h (by omega) (by simp)) fun r hr => hk _ _ _ hr.2

theorem f_spec_l1Cur_command_i8Does {R : Type} {Q : R → Prop} {n : Nat} {a : Int} {b : Bool} {z : DCommand} {c : Dl1Cur} {x : DCommand} {kk} (h : CurOk n c) (hn : n ≤ 1099511627000) (hk : ∀ c' z' x', CurOk (n + 2) c' → Does (kk ((), ()) ((), (c', (z', (x', ()))))) Q) : Does (f_spec_l1Cur_command_i8 R ((), ()) ((a, (b, ())), (c, (z, (x, ())))) kk) Q := by
  unfold f_spec_l1Cur_command_i8
  dsimp only
  refine Does.cond (fun _ => ?_) fun _ => f_spec_l1Cur_command_i10Does h hn fun c' z' x' hc => hk _ _ _ hc
  exact Does.bnd (f_spec_l1Cur_amongDoes (x := (c, ([(-1 : Int), (99 : Int), (100 : Int)], ()))) h (by omega) (by simp)) fun r hr => hk _ _ _ hr.2

theorem f_spec_l1Cur_command_i3Does {R : Type} {Q : R → Prop} {n : Nat} {b : Bool} {z : DCommand} {c : Dl1Cur} {x : DCommand} {kk} (h : CurOk n c) (hn : n ≤ 1099511627000) (hk : ∀ c' x', CurOk (n + 2) c' → Does (kk ((b, ()), (z, ())) ((), (c', (x', ())))) Q) : Does (f_spec_l1Cur_command_i3 R ((b, ()), (z, ())) ((), (c, (x, ()))) kk) Q := by
  unfold f_spec_l1Cur_command_i3
  dsimp only
  refine Does.cond (fun _ => ?_) fun _ => hk _ _ (h.le (by omega))
  exact Does.bnd (f_spec_l1Cur_ofDoes (n := n) h (by omega) (by simp)) fun r hr => hk _ _ hr.2

theorem f_spec_l1Cur_command_i5Does {R : Type} {Q : R → Prop} {n : Nat} {b : Bool} {z : DCommand} {c : Dl1Cur} {x : DCommand} {kk} (h : CurOk n c) (hn : n ≤ 1099511627000) (hk : ∀ c' x', CurOk (n + 2) c' → Does (kk ((b, ()), (z, ())) ((), (c', (x', ())))) Q) : Does (f_spec_l1Cur_command_i5 R ((b, ()), (z, ())) ((), (c, (x, ()))) kk) Q := by
  unfold f_spec_l1Cur_command_i5
  dsimp only
  refine Does.cond (fun _ => ?_) fun _ => hk _ _ (h.le (by omega))
  exact Does.bnd (f_spec_l1Cur_ofDoes (n := n) h (by omega) (by simp)) fun r hr => hk _ _ hr.2

theorem f_spec_l1Cur_commandDoes {n : Nat} {x : Dl1Cur × Unit} (h : CurOk n x.1) (hn : n ≤ 1099511626000) : Does (f_spec_l1Cur_command x) fun r => CurOk (n + 20) r.2.1 := by
  unfold f_spec_l1Cur_command
  refine Does.bnd (f_spec_l1Cur_pickDoes (n := n) (x := (x.1, ((4 : Int), ()))) h (by omega)) fun r1 h1 => ?_
  refine Does.bnd (f_spec_l1Cur_pickDoes (n := n + 2) h1.2.2 (by omega)) fun r2 h2 => ?_
  refine Does.bnd (f_spec_l1Cur_pickDoes (n := n + 4) h2.2.2 (by omega)) fun r3 h3 => ?_
  refine Does.bnd (f_spec_l1Cur_keyDoes (n := n + 6) h3.2.2 (by omega)) fun r4 h4 => ?_
  refine Does.cond (fun _ => ?_) fun _ => ?_
  all_goals
    refine f_spec_l1Cur_command_i3Does (n := n + 10) h4 (by omega) fun c' x' hc => ?_
    refine f_spec_l1Cur_command_i5Does (n := n + 12) hc (by omega) fun c' x' hc => ?_
    refine Does.bnd (f_spec_l1Cur_pickDoes (n := n + 14) hc (by omega)) fun r11 h11 => ?_
    exact f_spec_l1Cur_command_i8Does (n := n + 16) h11.2.2 (by omega) fun c' z' x' hc => Does.val (hc.le (by omega))

theorem f_spec_DrawCommandBytesDoes {x : List Int × Unit} (h : ∀ b ∈ x.1, 0 ≤ b ∧ b < 256) : Does (f_spec_DrawCommandBytes x) fun _ => True := by
  unfold f_spec_DrawCommandBytes f_spec_DrawGoodCommand
  refine Does.bnd (P := fun _ => True) ?_ fun _ _ => Does.val trivial
  exact Does.bnd (f_spec_l1Cur_commandDoes (n := 0) ⟨h, Int.le_refl _, Int.le_refl _⟩ (by decide)) fun r hr => Does.val trivial

theorem f_spec_l1Cur_commands_i10Does {R : Type} {Q : R → Prop} {a : Int} {b : Bool} {cu : Dl1Cur} {l : List DCommand} {nx : List Int} {x : DCommand} {kk} (hnx : nx.length = 4) (hb : b = true → 0 ≤ x.1 ∧ x.1 ≤ 3) (hk : ∀ nx' x', nx'.length = 4 → Does (kk ((a, (b, ())), (cu, (l, ()))) ((), (nx', (x', ())))) Q) : Does (f_spec_l1Cur_commands_i10 R ((a, (b, ())), (cu, (l, ()))) ((), (nx, (x, ()))) kk) Q := by
  unfold f_spec_l1Cur_commands_i10
  dsimp only
  refine Does.cond (fun h => ?_) fun _ => hk _ _ hnx
  obtain ⟨h0, h1⟩ := hb h
  refine Does.getO h0 (by omega) fun y hy => ?_
  rw [hy, bnd_some]
  refine Does.getO h0 (by omega) fun y2 _ => ?_
  rw [bnd_some]
  refine Does.getO h0 (by simp; omega) fun y3 hy3 => ?_
  rw [hy3, bnd_some]
  exact hk _ _ (by simp [hnx])

theorem f_spec_l1Cur_commands_i14Does {R : Type} {Q : R → Prop} {n : Nat} {a : Int} {b : Bool} {nx : List Int} {cu : Dl1Cur} {l : List DCommand} {kk} (h : CurOk n cu) (hn : n ≤ 1099511626000) (hl : l.length ≤ 1000000) (hb : b = true → 1 < l.length) (hk : ∀ cu' l', CurOk (n + 2) cu' → l'.length ≤ l.length + 1 → Does (kk ((a, (b, ())), (nx, ())) ((), (cu', (l', ())))) Q) : Does (f_spec_l1Cur_commands_i14 R ((a, (b, ())), (nx, ())) ((), (cu, (l, ()))) kk) Q := by
  unfold f_spec_l1Cur_commands_i14
  dsimp only
  refine Does.cond (fun hc => ?_) fun _ => hk _ _ (h.le (by omega)) (by omega)
  have hb := hb hc
  refine Does.bnd (f_spec_l1Cur_pickDoes (x := (cu, (llen l, ()))) h (by omega)) fun r hr => ?_
  obtain ⟨r0, r1, r2⟩ := hr
  simp only [llen] at r1
  refine Does.getO r0 (by omega) fun y hy => ?_
  rw [hy, bnd_some]
  exact Does.req (by simp; omega) (hk _ _ r2 (by simp))

theorem f_spec_l1Cur_commandsDoes {n : Nat} {x : Dl1Cur × Unit} (h : CurOk n x.1) (hn : n ≤ 1099500000000) : Does (f_spec_l1Cur_commands x) fun r => r.1.1.length ≤ 1000 := by
  unfold f_spec_l1Cur_commands
  refine Does.req (by decide) ?_
  refine Does.bnd (f_spec_l1Cur_pickDoes (n := n) (x := (x.1, ((16 : Int), ()))) h (by omega)) fun r1 h1 => ?_
  refine Does.bnd (f_spec_l1Cur_oneDoes (n := n + 2) h1.2.2 (by omega)) fun r2 h2 => ?_
  have main : ∀ (m : Int) (cu : Dl1Cur), 0 ≤ m → m ≤ 110 → CurOk (n + 10) cu → Does (loopF (c := f_spec_l1Cur_commands_l6c) (v := f_spec_l1Cur_commands_l6v) (ex := f_spec_l1Cur_commands_l6e) f_spec_l1Cur_commands_l6 _ ((), ()) ((m, ()), (cu, (([] : List DCommand), ((List.replicate (Int.toNat (4 : Int)) ((0 : Int) : Int)), ())))) fun c23 o24 =>
      (some ((o24.2.2.1, ()), (o24.2.1, ())))) fun (r : ((List DCommand) × Unit) × (Dl1Cur × Unit)) => r.1.1.length ≤ 1000 := by
    intro m cu m0 m1 hcu
    obtain ⟨k, rfl⟩ : ∃ k : Nat, m = (k : Int) := ⟨m.toNat, by omega⟩
    refine Does.loop (c := f_spec_l1Cur_commands_l6c) (v := f_spec_l1Cur_commands_l6v) (ex := f_spec_l1Cur_commands_l6e)
      (fun xc xv => ∃ j i : Nat, xv.1.1 = (j : Int) ∧ j + i = k ∧ xv.2.2.1.length ≤ 2 * i ∧ xv.2.2.2.1.length = 4 ∧ CurOk (n + 10 + 40 * i) xv.2.1) (fun xc xv => Int.toNat xv.1.1) ?_ ⟨k, 0, rfl, rfl, by simp, by simp, hcu⟩
    rintro ⟨⟨⟩, ⟨⟩⟩ ⟨⟨j, ⟨⟩⟩, c, l, nx, ⟨⟩⟩ ⟨j, i, h1, h2, h3, h4, h5⟩
    dsimp only at h1 h3 h4 h5
    subst h1
    simp only [round, f_spec_l1Cur_commands_l6]
    refine Does.cond (fun hlt => ?_) (fun hlt => ?_)
    · have hlt := ilt_iff.1 hlt
      have e : isub .i64 (j : Int) (1 : Int) = ((j - 1 : Nat) : Int) := by rw [isub_i64 (by omega)]; omega
      refine Does.bnd (f_spec_l1Cur_commandDoes (x := (c, ())) h5 (by omega)) fun r6 h6 => ?_
      rw [f_spec_l1InVal, bnd_some]
      have fin : ∀ (b : Bool) (cu : Dl1Cur), (b = true → btw r6.1.1.1 0 3 = true) → CurOk (n + 10 + 40 * i + 22) cu → Does (f_spec_l1Cur_commands_i10 _ (((j : Int), (b, ())), (cu, (l, ()))) ((), (nx, (r6.1.1, ()))) fun c9 o10 =>
          (Ev.req (decide (List.length c9.2.2.1 + List.length [o10.2.2.1] ≤ 17179869184)) (bnd (f_spec_l1Cur_one (c9.2.1, ((6 : Int), ()))) fun r11 => (cond r11.1.1
          (f_spec_l1Cur_commands_i14 _ ((c9.1.1, ((ilt (1 : Int) (llen (c9.2.2.1 ++ [o10.2.2.1]))), ())), (o10.2.1, ())) ((), (r11.2.1, ((c9.2.2.1 ++ [o10.2.2.1]), ()))) fun c12 o13 =>
          (some (Sum.inl (((), ()), (((isub .i64 c12.1.1 (1 : Int)), ()), (o13.2.1, (o13.2.2.1, (c12.2.1, ()))))))))
          (f_spec_l1Cur_commands_i14 _ ((c9.1.1, (false, ())), (o10.2.1, ())) ((), (r11.2.1, ((c9.2.2.1 ++ [o10.2.2.1]), ()))) fun c14 o15 =>
          (some (Sum.inl (((), ()), (((isub .i64 c14.1.1 (1 : Int)), ()), (o15.2.1, (o15.2.2.1, (c14.2.1, ())))))))))))) (fun z : ((Unit × Unit) × ((Int × Unit) × (Dl1Cur × (List DCommand) × (List Int) × Unit))) ⊕ ((Unit × Unit) × (Unit × (Dl1Cur × (List DCommand) × (List Int) × Unit))) => match z with
            | .inl p => (∃ j i : Nat, p.2.1.1 = (j : Int) ∧ j + i = k ∧ p.2.2.2.1.length ≤ 2 * i ∧ p.2.2.2.2.1.length = 4 ∧ CurOk (n + 10 + 40 * i) p.2.2.1) ∧ Int.toNat p.2.1.1 < Int.toNat (j : Int)
            | .inr q => Does (some ((q.2.2.2.1, ()), (q.2.2.1, ()))) fun (r : ((List DCommand) × Unit) × (Dl1Cur × Unit)) => r.1.1.length ≤ 1000) := by
        intro b cu hb hcu
        refine f_spec_l1Cur_commands_i10Does h4 (fun hbt => ?_) fun nx' x' hnx => ?_
        · have := hb hbt
          unfold btw at this
          cases h0 : ile 0 r6.1.1.1 with
          | false => rw [h0] at this; cases this
          | true => rw [h0, cond_true] at this; exact ⟨ile_iff.1 h0, ile_iff.1 this⟩
        · refine Does.req (by simp; omega) ?_
          refine Does.bnd (f_spec_l1Cur_oneDoes (n := n + 10 + 40 * i + 22) hcu (by omega)) fun r11 h11 => ?_
          have fin2 : ∀ (cu' : Dl1Cur) (l' : List DCommand), CurOk (n + 10 + 40 * i + 24 + 2) cu' → l'.length ≤ (l ++ [x']).length + 1 → Does (some (Sum.inl (((), ()), (((isub .i64 (j : Int) (1 : Int)), ()), (cu', (l', (nx', ()))))))) (fun z : ((Unit × Unit) × ((Int × Unit) × (Dl1Cur × (List DCommand) × (List Int) × Unit))) ⊕ ((Unit × Unit) × (Unit × (Dl1Cur × (List DCommand) × (List Int) × Unit))) => match z with
            | .inl p => (∃ j i : Nat, p.2.1.1 = (j : Int) ∧ j + i = k ∧ p.2.2.2.1.length ≤ 2 * i ∧ p.2.2.2.2.1.length = 4 ∧ CurOk (n + 10 + 40 * i) p.2.2.1) ∧ Int.toNat p.2.1.1 < Int.toNat (j : Int)
            | .inr q => Does (some ((q.2.2.2.1, ()), (q.2.2.1, ()))) fun (r : ((List DCommand) × Unit) × (Dl1Cur × Unit)) => r.1.1.length ≤ 1000) := by
            intro cu' l' hc hl
            refine Does.val ?_
            dsimp only
            rw [e]
            rw [List.length_append, List.length_singleton] at hl
            exact ⟨⟨j - 1, i + 1, rfl, by omega, by omega, hnx, hc.le (by omega)⟩, by omega⟩
          have hlen : (l ++ [x']).length ≤ 1000000 := by rw [List.length_append, List.length_singleton]; omega
          refine Does.cond (fun _ => ?_) fun _ => ?_
          · exact f_spec_l1Cur_commands_i14Does (n := n + 10 + 40 * i + 24) h11 (by omega) hlen (fun hb => by have h2 : (1 : Int) < (((l ++ [x']).length : Nat) : Int) := ilt_iff.1 hb; show 1 < (l ++ [x']).length; omega) fun cu' l' hc hl => fin2 _ _ hc hl
          · exact f_spec_l1Cur_commands_i14Does (n := n + 10 + 40 * i + 24) h11 (by omega) hlen (fun hb => by cases hb) fun cu' l' hc hl => fin2 _ _ hc hl
      refine Does.cond (fun hin => ?_) fun _ => (fin false _ (fun h => by cases h) (h6.le (by omega))).mono fun z hz => by cases z <;> exact hz
      exact Does.bnd (f_spec_l1Cur_oneDoes (n := n + 10 + 40 * i + 20) h6 (by omega)) fun r8 h8 => (fin _ _ (fun _ => hin) (h8.le (by omega))).mono fun z hz => by cases z <;> exact hz
    · have hlt := ilt_false.1 hlt
      refine Does.val (Does.val ?_)
      dsimp only
      omega
  unfold f_spec_l1Cur_commands_i5
  refine Does.cond (fun _ => ?_) fun _ => main _ _ h1.1 (by show r1.1.1 ≤ 110; have := h1.2.1; dsimp only at this; omega) (h2.le (by omega))
  refine Does.bnd (f_spec_l1Cur_pickDoes (n := n + 4) h2 (by omega)) fun r3 h3 => ?_
  have h30 := h3.1
  have h31 := h3.2.1
  dsimp only at h31
  rw [iadd_i64 (by omega)]
  exact main _ _ (by show (0 : Int) ≤ 95 + r3.1.1; omega) (by show 95 + r3.1.1 ≤ 110; omega) (h3.2.2.le (by omega))

theorem f_spec_DrawFoldCommandsDoes {x : List Int × Unit} (h : ∀ b ∈ x.1, 0 ≤ b ∧ b < 256) : Does (f_spec_DrawFoldCommands x) fun r => r.1.1.length ≤ 1000 := by
  unfold f_spec_DrawFoldCommands
  exact Does.bnd (f_spec_l1Cur_commandsDoes (n := 0) ⟨h, Int.le_refl _, Int.le_refl _⟩ (by decide)) fun r hr => Does.val hr

end Go.Proofs.Ytogmfilmfkepfaa
