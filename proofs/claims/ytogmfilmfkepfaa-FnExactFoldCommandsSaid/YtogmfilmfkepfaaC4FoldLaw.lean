/- FnExactFoldCommands holds of what it is given. -/
import Derived.Test.YtogmfilmfkepfaaC4Fold3
import Derived.Test.YtogmfilmfkepfaaC4Mark
set_option linter.all false
noncomputable section
namespace Go.Proofs.Ytogmfilmfkepfaa
open Go Go.Proofs.Ytogmfilmfkepfaa.Ev

theorem szCommand_does (x : DCommand × Int × Unit) : Does (f_laws_szCommand x) fun _ => True := by
  unfold f_laws_szCommand
  exact Does.cond (fun _ => Does.val trivial) fun _ => Does.cond (fun _ => Does.val trivial) fun _ => Does.cond (fun _ => Does.val trivial) fun _ => Does.val trivial

theorem szCommandS_does (x : List DCommand) (h : x.length ≤ 9223372036854775807) : Does (f_laws_szCommandS (x, (1048576, ()))) fun r => r.1.1 < 0 ∨ x.length ≤ 1048576 := by
  unfold f_laws_szCommandS
  dsimp only
  refine Does.cond (fun _ => Does.val (.inl (by decide))) fun hc => ?_
  rw [isub_i64 (by simp only [llen]; omega)] at hc ⊢
  have hc := ilt_false.1 hc
  simp only [llen] at hc
  have hl : x.length ≤ 1048576 := by omega
  refine Does.loop (c := f_laws_szCommandS_l5c) (v := f_laws_szCommandS_l5v) (ex := f_laws_szCommandS_l5e) (I := fun c v => c = ((x, ()), ()) ∧ (0 : Int) ≤ v.1.2.1 ∧ (v.1.2.1 : Int) ≤ (x.length : Int)) (μ := fun _ v => ((x.length : Int) - v.1.2.1).toNat) (fun c v hI => ?_) ⟨rfl, Int.le_refl _, by show (0 : Int) ≤ _; omega⟩
  obtain ⟨⟨left, i, ⟨⟩⟩, ⟨⟩⟩ := v
  obtain ⟨rfl, h0, h1⟩ := hI
  have h0 : (0 : Int) ≤ (i : Int) := h0
  have h1 : (i : Int) ≤ (x.length : Int) := h1
  simp only [round, f_laws_szCommandS_l5]
  refine Does.cond (fun hlt => ?_) fun _ => Does.val (Does.val (.inr hl))
  have hlt : (i : Int) < (x.length : Int) := ilt_iff.1 hlt
  refine Does.getO h0 hlt fun y _ => Does.bnd (szCommand_does _) fun r _ => Does.cond (fun _ => Does.val (Does.val (.inr hl))) fun _ => Does.val ?_
  obtain ⟨_, p1, p2, p3⟩ := cnt_step (i := i) (n := (x.length : Int)) h0 hlt (by omega)
  exact ⟨⟨rfl, p1, p2⟩, p3⟩

theorem f_laws_toCommandSLoop {R : Type} (l : List DCommand) (hl : l.length ≤ 1048576) (z : DCommand) (kk : (((List DCommand) × Unit) × Unit) → (Unit × ((List DCommand) × Unit)) → Option R) : ∀ (B A : List DCommand), A ++ B = l →
    loopF (c := f_laws_toCommandS_l3c) (v := f_laws_toCommandS_l3v) (ex := f_laws_toCommandS_l3e) f_laws_toCommandS_l3 R ((l, ()), ()) ((((A.length : Nat) : Int), ()), (A ++ List.replicate B.length z, ())) kk = kk ((l, ()), ()) ((), (l, ()))
  | [], A, h => by
    subst h
    rw [loopF_done (c' := ((A ++ [], ()), ())) (o := ((), (A ++ [], ()))) (by simp only [round, f_laws_toCommandS_l3, mid_end, cond_false, List.length_nil, List.replicate])]
  | y :: B, A, h => by
    have hA : A.length + 1 ≤ l.length := by rw [← h]; simp
    rw [loopF_more (c' := ((l, ()), ())) (v' := (((((A ++ [y]).length : Nat) : Int), ()), ((A ++ [y]) ++ List.replicate B.length z, ()))) (by
      rw [← h]
      simp only [round, f_laws_toCommandS_l3, mid_lt, cond_true, mid_getO, List.length_cons, List.replicate, f_laws_toCommand, bnd_some, Int.toNat_natCast, mid_get, mid_set]
      rw [mid_next A y (by omega), ← mid_app])]
    exact f_laws_toCommandSLoop l hl z kk B (A ++ [y]) (by simp [← h])

theorem f_laws_toCommandSVal (l : List DCommand) (hl : l.length ≤ 1048576) : f_laws_toCommandS (l, ()) = some ((l, ()), ()) := by
  unfold f_laws_toCommandS
  dsimp only
  have hb : (decide ((llen l) = (llen l)) && (decide ((0 : Int) ≤ (llen l)) && decide ((llen l) ≤ (68719476736 : Int)))) = true := by
    have h1 : (0 : Int) ≤ llen l := by simp only [llen]; omega
    have h2 : llen l ≤ (68719476736 : Int) := by simp only [llen]; omega
    simp only [h1, h2, decide_true, Bool.and_true]
  rw [hb, req_true, show Int.toNat (llen l) = l.length by simp [llen]]
  exact f_laws_toCommandSLoop l hl _ (fun c5 o6 => (some ((o6.2.1, ()), ()))) l [] rfl

theorem beqB_self (a : Bool) : beqB a a = true := by cases a <;> rfl

theorem eqKv_same (s : DKvState) (h1 : s.1.length ≤ 40) (h2 : s.2.1.length ≤ 12) : f_laws_eqKvState (s, (s, ())) = some ((true, ()), ()) := by
  unfold f_laws_eqKvState
  dsimp only
  rw [f_laws_eqPairSSame _ rfl (by dsimp only; omega), bnd_some]
  simp only [Bool.not_true, cond_false]
  rw [f_laws_eqSessionSSame _ rfl (by dsimp only; omega), bnd_some]
  rfl

theorem true_f_laws_FnExactFoldCommands (x : List DCommand) (h : x.length ≤ 9223372036854775807) : f_laws_FnExactFoldCommands (x, ()) = some ((true, ()), ()) := by
  refine Does.to ?_
  unfold f_laws_FnExactFoldCommands
  dsimp only
  refine Does.bnd (szCommandS_does x h) fun r1 hr => Does.cond (fun _ => Does.val rfl) fun hc => ?_
  have hl : x.length ≤ 1048576 := hr.resolve_left (by have := ilt_false.1 hc; omega)
  obtain ⟨a1, a2, a3⟩ := foldA_len x
  rw [f_laws_toCommandSVal x hl]
  simp only [bnd_some]
  rw [f_spec_FoldCommandsVal, f_impl_FoldCommandsVal]
  simp only [bnd_some]
  generalize foldA x = a at a1 a2 a3
  obtain ⟨⟨cl, sl, u⟩, rs, ok, ⟨⟩⟩ := a
  simp only at a1 a2 a3
  rw [eqKv_same _ a1 a2]
  simp only [bnd_some, Bool.not_true, cond_false]
  rw [f_laws_eqReplySSame _ rfl (by dsimp only; omega)]
  simp only [bnd_some, Bool.not_true, cond_false, beqB_self]
  rw [f_laws_eqCommandSSame _ rfl (by dsimp only; omega)]
  simp only [bnd_some, Bool.not_true, cond_false]
  rw [f_laws_markCommandSVal _ (by dsimp only; omega) (by dsimp only; omega)]
  simp only [bnd_some]
  rw [ilt_false.2 (by omega), cond_false]
  unfold f_laws_markKvState
  dsimp only
  rw [f_laws_markPairSVal _ (by dsimp only; omega) (by dsimp only; omega)]
  simp only [bnd_some]
  rw [f_laws_markSessionSVal _ (by dsimp only; omega) (by dsimp only; omega)]
  simp only [bnd_some]
  rw [f_laws_markReplySVal _ (by dsimp only; omega) (by dsimp only; omega)]
  simp only [bnd_some]
  have hheld : ∀ u, f_laws_heldKvState ((markPairL 1 cl.length, (markSessionL (1 + 2 * cl.length) sl.length, u)), (1, ())) = some ((1 + 2 * (cl.length : Int) + 4 * (sl.length : Int), ()), ()) := fun u => by
    unfold f_laws_heldKvState
    dsimp only
    rw [f_laws_heldPairSVal 1 cl.length (by decide) (by omega), bnd_some]
    dsimp only
    rw [ilt_false.2 (by omega), cond_false, f_laws_heldSessionSVal _ sl.length (by omega) (by omega), bnd_some]
    dsimp only
    rw [ilt_false.2 (by omega), cond_false]
  rw [hheld]
  simp only [bnd_some]
  rw [ilt_false.2 (by omega), cond_false, f_laws_heldReplySVal _ rs.length (by omega) (by omega)]
  simp only [bnd_some]
  rw [ilt_false.2 (by omega), cond_false, ieq_iff.2 rfl]
  exact Does.val rfl

end Go.Proofs.Ytogmfilmfkepfaa
