/- FnCommands holds of what it is given. -/
import Derived.Test.YtogmfilmfkepfaaV5Cmd
import Derived.Test.YtogmfilmfkepfaaV5Sess
import Derived.Test.YtogmfilmfkepfaaV5Draw
set_option linter.all false
noncomputable section
namespace Go.Proofs.Ytogmfilmfkepfaa
open Go Go.Proofs.Ytogmfilmfkepfaa.Ev

theorem eqK_self : ∀ {k : K} (x : T k), k.flat = true → eqK k x x = true
  | .int _, x, _ => by show (@BEq.beq Int _ x x) = true; exact beq_self_eq_true (α := Int) x
  | .bool, x, _ => by cases x <;> rfl
  | .str, x, _ => by simp [eqK]
  | .unit, _, _ => rfl
  | .pair a b, x, h => by
    simp only [K.flat, Bool.and_eq_true] at h
    simp only [eqK, eqK_self x.1 h.1, eqK_self x.2 h.2, Bool.and_self]
  | .sl _, _, h => by cases h

theorem samePairs_does (a b : List DPair) (ha : a.length ≤ 1000000) : Does (f_laws_samePairs (a, (b, ()))) fun r => a = b → r.1.1 = true := by
  unfold f_laws_samePairs
  dsimp only
  refine Does.cond (fun h => Does.val fun e => ?_) fun h => ?_
  · subst e
    rw [ieq_iff.2 rfl] at h; cases h
  · have hl : a.length = b.length := by
      cases e : ieq (llen a) (llen b) with
      | false => rw [e] at h; cases h
      | true => have := ieq_iff.1 e; simp only [llen] at this; omega
    refine Does.loop (c := f_laws_samePairs_l4c) (v := f_laws_samePairs_l4v) (ex := f_laws_samePairs_l4e) (I := fun c v => c = ((a, (b, (llen a, ()))), ()) ∧ (0 : Int) ≤ v.1.1 ∧ (v.1.1 : Int) ≤ (a.length : Int)) (μ := fun _ v => ((a.length : Int) - v.1.1).toNat) (fun c v hI => ?_) ⟨rfl, Int.le_refl _, by show (0 : Int) ≤ _; omega⟩
    obtain ⟨⟨i, ⟨⟩⟩, ⟨⟩⟩ := v
    obtain ⟨rfl, h0, h1⟩ := hI
    have h0 : (0 : Int) ≤ (i : Int) := h0
    simp only [round, f_laws_samePairs_l4]
    refine Does.cond (fun hlt => ?_) fun _ => Does.val (Does.val fun _ => rfl)
    have hlt : (i : Int) < (a.length : Int) := ilt_iff.1 hlt
    refine Does.getO h0 hlt fun y hy => Does.getO h0 (by rw [← hl]; exact hlt) fun z hz => Does.cond (fun hne => Does.val (Does.val fun e => ?_)) fun _ => Does.val ?_
    · subst e
      rw [hy] at hz
      injection hz with hz
      subst hz
      rw [eqK_self (k := kdPair) y (by decide)] at hne; cases hne
    · obtain ⟨_, p1, p2, p3⟩ := cnt_step (i := i) (n := (a.length : Int)) h0 hlt (by omega)
      exact ⟨⟨rfl, p1, p2⟩, p3⟩

theorem sameStates_same (s : DKvState) (h1 : s.1.length ≤ 40) (h2 : s.2.1.length ≤ 12) : f_laws_sameStates (s, (s, ())) = some ((true, ()), ()) := by
  refine Does.to ?_
  unfold f_laws_sameStates
  dsimp only
  refine Does.bnd (samePairs_does s.1 s.1 (by omega)) fun r hr => ?_
  rw [hr rfl, Bool.not_true, cond_false, ieq_iff.2 rfl, Bool.not_true, cond_false]
  refine Does.loop (c := f_laws_sameStates_l4c) (v := f_laws_sameStates_l4v) (ex := f_laws_sameStates_l4e) (I := fun c v => c = ((llen s.2.1, ()), (s, (s, ()))) ∧ (0 : Int) ≤ v.1.1 ∧ (v.1.1 : Int) ≤ (s.2.1.length : Int)) (μ := fun _ v => ((s.2.1.length : Int) - v.1.1).toNat) (fun c v hI => ?_) ⟨rfl, Int.le_refl _, by show (0 : Int) ≤ _; omega⟩
  obtain ⟨⟨i, ⟨⟩⟩, ⟨⟩⟩ := v
  obtain ⟨rfl, h0, h1⟩ := hI
  have h0 : (0 : Int) ≤ (i : Int) := h0
  simp only [round, f_laws_sameStates_l4]
  refine Does.cond (fun hlt => ?_) fun _ => Does.val (Does.val rfl)
  have hlt : (i : Int) < (s.2.1.length : Int) := ilt_iff.1 hlt
  refine Does.getO h0 hlt fun y hy => ?_
  rw [getO_at h0 hy, eqK_self (k := kdSession) y (by decide), Bool.not_true, cond_false]
  obtain ⟨_, p1, p2, p3⟩ := cnt_step (i := i) (n := (s.2.1.length : Int)) h0 hlt (by omega)
  exact Does.val ⟨⟨rfl, p1, p2⟩, p3⟩

/-! ### the rows of changes -/
theorem foldA_of {l : List DCommand} (h : l.length ≤ 100) : foldA l = ((foldP s0 l).1, ((foldP s0 l).2, (true, ()))) := by
  unfold foldA
  rw [ilt_false.2 (by simp only [llen]; omega)]; rfl

/-- each change that was told has been seen -/
def Told (l : List DCommand) (ch : List Int) (i : Nat) : Prop := ch.length ≤ i ∧ ∀ b ∈ ch, 0 ≤ b ∧ b < i ∧ ∀ c, l[b.toNat]? = some c → seen (foldP s0 (l.take i)).1 c.1 c.2.1

theorem changes_loop (l : List DCommand) (hl : l.length ≤ 100) {R : Type} {Q : R → Prop} {kk} (hk : ∀ a b c, Does (kk ((), ()) (Sum.inr ((), (a, (b, (c, ())))))) Q) :
    Does (loopF (c := f_laws_FnCommands_l28c) (v := f_laws_FnCommands_l28v) (ex := f_laws_FnCommands_l28e) f_laws_FnCommands_l28 R ((), ()) ((llen l, ((0 : Int), ())), (l, (([] : List Int), (s0, ())))) kk) Q := by
  refine Does.loop (c := f_laws_FnCommands_l28c) (v := f_laws_FnCommands_l28v) (ex := f_laws_FnCommands_l28e)
    (I := fun _ v => ∃ i : Nat, v.1 = (llen l, ((i : Int), ())) ∧ i ≤ l.length ∧ v.2.1 = l ∧ Told l v.2.2.1 i ∧ v.2.2.2.1 = (foldP s0 (l.take i)).1) (μ := fun _ v => ((l.length : Int) - v.1.2.1).toNat) (fun c v hI => ?_) ⟨0, rfl, by omega, rfl, ⟨by simp, fun b hb => by cases hb⟩, by simp; rfl⟩
  obtain ⟨⟨w1, w2, ⟨⟩⟩, l', ch, was, ⟨⟩⟩ := v
  obtain ⟨i, h1, hi, h2, h3, h4⟩ := hI
  obtain ⟨⟨⟩, ⟨⟩⟩ := c
  dsimp only at h1 h2 h3 h4 hi ⊢
  subst h2
  subst h4
  simp only [Prod.mk.injEq] at h1
  obtain ⟨e1', e2', _⟩ := h1
  subst e1'
  subst e2'
  simp only [round, f_laws_FnCommands_l28]
  refine Does.cond (fun hlt => ?_) fun _ => Does.val (hk _ _ _)
  have hlt : (i : Int) < (l'.length : Int) := ilt_iff.1 hlt
  have hil : i < l'.length := by omega
  have e1 : iadd .i64 (i : Int) (1 : Int) = ((i + 1 : Nat) : Int) := iaddN (b := 1) (by omega)
  rw [e1, bnd0 (by omega), req_true, tk0, f_impl_FoldCommandsVal, bnd_some, foldA_of (by rw [List.length_take]; omega)]
  dsimp only
  rw [Bool.not_true, cond_false]
  have hiv : Inv (foldP s0 (l'.take i)).1 := foldP_inv inv0
  have hx := List.getElem?_eq_getElem hil
  obtain ⟨c, hc⟩ : ∃ c, c = l'[i] := ⟨_, rfl⟩
  rw [← hc] at hx
  have htk : l'.take (i + 1) = l'.take i ++ [c] := by rw [List.take_add_one, hx]; rfl
  have hst : (foldP s0 (l'.take (i + 1))).1 = (applyP (foldP s0 (l'.take i)).1 c).1 := by rw [htk, foldP_snoc]
  refine Does.bnd (samePairs_does _ _ (by have := hiv.kl; omega)) fun r hr => ?_
  have hch : r.1.1 = false → (applyP (foldP s0 (l'.take i)).1 c).1.1 ≠ (foldP s0 (l'.take i)).1.1 := fun hf e => by
    rw [hr (by rw [hst]; exact e.symm)] at hf; cases hf
  have hmu : ((l'.length : Int) - ((i + 1 : Nat) : Int)).toNat < ((l'.length : Int) - (i : Int)).toNat := by omega
  have keep : ∀ b : Int, b ∈ ch → (0 : Int) ≤ b ∧ b < ((i + 1 : Nat) : Int) ∧ ∀ c, l'[b.toNat]? = some c → seen (foldP s0 (l'.take (i + 1))).1 c.1 c.2.1 := fun b hb => by
    obtain ⟨q1, q2, q3⟩ := h3.2 b hb
    exact ⟨q1, Int.lt_trans q2 (by omega), fun c' hc' => by rw [hst]; exact seen_stays hiv (q3 c' hc')⟩
  unfold f_laws_FnCommands_i34
  refine Does.cond (fun hne => ?_) fun _ => Does.val ?_
  · have hne : r.1.1 = false := by cases e : r.1.1 with | false => rfl | true => rw [show r.1.1 = true from e] at hne; cases hne
    obtain ⟨n1, n2⟩ := change_once hiv (hch hne)
    refine Does.loop (c := f_laws_FnCommands_l35c) (v := f_laws_FnCommands_l35v) (ex := f_laws_FnCommands_l35e)
      (I := fun c v => c = (((i : Int), (llen l', ((i : Int), (llen ch, ())))), (l', (ch, ((foldP s0 (l'.take i)).1, ((foldP s0 (l'.take (i + 1))).1, ()))))) ∧ (0 : Int) ≤ v.1.1 ∧ (v.1.1 : Int) ≤ (ch.length : Int)) (μ := fun _ v => ((ch.length : Int) - v.1.1).toNat) (fun c2 v2 hI2 => ?_) ⟨rfl, Int.le_refl _, by show (0 : Int) ≤ _; omega⟩
    obtain ⟨⟨j, ⟨⟩⟩, ⟨⟩⟩ := v2
    obtain ⟨rfl, j0, j1⟩ := hI2
    have j0 : (0 : Int) ≤ (j : Int) := j0
    simp only [round, f_laws_FnCommands_l35]
    refine Does.cond (fun hjl => ?_) fun _ => Does.val ?_
    · have hjl : (j : Int) < (ch.length : Int) := ilt_iff.1 hjl
      refine Does.getO j0 hjl fun b hb => ?_
      rw [hb, bnd_some]
      obtain ⟨q1, q2, q3⟩ := h3.2 b (List.mem_of_getElem? hb)
      have gi : ∀ {α : Type} (k : DCommand → Option α), getO l' ((i : Nat) : Int) k = k c := fun k => getO_at (by omega) (by rw [Int.toNat_natCast]; exact hx)
      have gb := List.getElem?_eq_getElem (show b.toNat < l'.length by omega)
      obtain ⟨d, hd⟩ : ∃ d, d = l'[b.toNat] := ⟨_, rfl⟩
      rw [← hd] at gb
      have gbo : ∀ {α : Type} (k : DCommand → Option α), getO l' b k = k d := fun k => getO_at q1 gb
      have hsd := q3 d gb
      obtain ⟨_, p1, p2, p3⟩ := cnt_step (i := j) (n := (ch.length : Int)) j0 hjl (by have := h3.1; omega)
      simp only [gi, gbo, Int.toNat_natCast, hx, gb, bnd_some]
      refine Does.cond (fun a1 => ?_) fun _ => Does.val ⟨⟨rfl, p1, p2⟩, p3⟩
      refine Does.cond (fun a2 => ?_) fun _ => Does.val ⟨⟨rfl, p1, p2⟩, p3⟩
      rw [← ieq_iff.1 a1, ← ieq_iff.1 a2] at hsd
      exact absurd hsd n1
    · have hcl := h3.1
      refine Does.req (by simp; omega) (Does.val ?_)
      refine ⟨⟨i + 1, by rw [e1], by omega, rfl, ⟨by simp; omega, fun b hb => ?_⟩, rfl⟩, ?_⟩
      · rcases List.mem_append.1 hb with hb | hb
        · exact keep b hb
        · rw [List.mem_singleton.1 hb]
          refine ⟨Int.natCast_nonneg i, show ((i : Nat) : Int) < ((i + 1 : Nat) : Int) by omega, fun c' hc' => ?_⟩
          rw [show (((i : Nat) : Int)).toNat = i from Int.toNat_natCast i, hx] at hc'
          injection hc' with hc'
          subst hc'
          rw [hst]; exact n2
      · dsimp only; rw [e1]; exact hmu
  · refine ⟨⟨i + 1, by rw [e1], by omega, rfl, ⟨Nat.le_trans h3.1 (Nat.le_succ i), keep⟩, rfl⟩, ?_⟩
    dsimp only; rw [e1]; exact hmu

theorem true_f_laws_FnCommands (a b : List Int) (ha : ∀ x ∈ a, 0 ≤ x ∧ x < 256) (hb : ∀ x ∈ b, 0 ≤ x ∧ x < 256) : f_laws_FnCommands (a, (b, ())) = some ((true, ()), ()) := by
  refine Does.to ?_
  unfold f_laws_FnCommands
  dsimp only
  refine Does.cond (fun _ => Does.val rfl) fun _ => ?_
  refine Does.bnd (f_spec_DrawCommandBytesDoes ha) fun r1 _ => ?_
  rw [f_impl_CommandBytesVal, f_spec_CommandBytesVal]
  simp only [bnd_some]
  have hbb : ∀ x : Bool, beqB x x = true := fun x => by cases x <;> rfl
  rw [hbb, Bool.not_true, cond_false, (seq_iff _ _).2 rfl, Bool.not_true, cond_false]
  unfold f_laws_FnCommands_i9
  have rest : ∀ (z : Unit × Unit), Does (bnd (f_spec_DrawFoldCommands (b, ())) fun r9 => (bnd (f_impl_FoldCommands (r9.1.1, ())) fun r10 => (bnd (f_spec_FoldCommands (r9.1.1, ())) fun r11 => (cond (!beqB r10.1.2.2.1 r11.1.2.2.1)
      (some ((false, ()), ()))
      (cond (!ieq (llen r10.1.2.1) (llen r11.1.2.1))
      (some ((false, ()), ()))
      (bnd (f_laws_sameStates (r10.1.1, (r11.1.1, ()))) fun r12 => (cond (!r12.1.1)
      (some ((false, ()), ()))
      (cond (!r10.1.2.2.1)
      (some (((ieq (llen r10.1.2.1) (0 : Int)), ()), ()))
      (loopF (c := f_laws_FnCommands_l20c) (v := f_laws_FnCommands_l20v) (ex := f_laws_FnCommands_l20e) f_laws_FnCommands_l20 _ (((llen r10.1.2.1), ()), (r9.1.1, (r10.1.2.1, (r11.1.2.1, ())))) (((0 : Int), ()), ()) fun c17 o18 =>
      (match o18 with
      | .inl y19 => (some ((y19.1.1, ()), ()))
      | .inr z20 => (loopF (c := f_laws_FnCommands_l28c) (v := f_laws_FnCommands_l28v) (ex := f_laws_FnCommands_l28e) f_laws_FnCommands_l28 _ ((), ()) (((llen c17.2.1), ((0 : Int), ())), (c17.2.1, (([] : List Int), ((([] : List DPair), (([] : List DSession), ())), ())))) fun c27 o28 =>
      (match o28 with
      | .inl y29 => (some ((y29.1.1, ()), ()))
      | .inr z30 => (some ((true, ()), ())))))))))))))) (· = (((true, ()), ()) : (Bool × Unit) × Unit)) := by
    intro _
    refine Does.bnd (f_spec_DrawFoldCommandsDoes hb) fun r9 hr9 => ?_
    obtain ⟨a1, a2, a3⟩ := foldA_len r9.1.1
    rw [f_impl_FoldCommandsVal, f_spec_FoldCommandsVal]
    simp only [bnd_some]
    rw [hbb, Bool.not_true, cond_false, ieq_iff.2 rfl, Bool.not_true, cond_false, sameStates_same _ a1 a2]
    simp only [bnd_some, Bool.not_true, cond_false]
    refine Does.cond (fun hno => ?_) fun hyes => ?_
    · have : (foldA r9.1.1).2.1 = [] := by
        unfold foldA at hno ⊢
        cases hc : ilt 100 (llen r9.1.1) with
        | true => rfl
        | false => rw [hc] at hno; cases hno
      rw [this]
      exact Does.val rfl
    · have hlen : r9.1.1.length ≤ 100 := by
        unfold foldA at hyes
        cases hc : ilt 100 (llen r9.1.1) with
        | true => rw [hc] at hyes; cases hyes
        | false => have := ilt_false.1 hc; simp only [llen] at this; omega
      generalize (foldA r9.1.1).2.1 = rs at a3 ⊢
      refine Does.loop (c := f_laws_FnCommands_l20c) (v := f_laws_FnCommands_l20v) (ex := f_laws_FnCommands_l20e) (I := fun c v => c = ((llen rs, ()), (r9.1.1, (rs, (rs, ())))) ∧ (0 : Int) ≤ v.1.1 ∧ (v.1.1 : Int) ≤ (rs.length : Int)) (μ := fun _ v => ((rs.length : Int) - v.1.1).toNat) (fun c v hI => ?_) ⟨rfl, Int.le_refl _, by show (0 : Int) ≤ _; omega⟩
      obtain ⟨⟨i, ⟨⟩⟩, ⟨⟩⟩ := v
      obtain ⟨rfl, h0, h1⟩ := hI
      have h0 : (0 : Int) ≤ (i : Int) := h0
      simp only [round, f_laws_FnCommands_l20]
      refine Does.cond (fun hlt => ?_) fun _ => Does.val ?_
      · have hlt : (i : Int) < (rs.length : Int) := ilt_iff.1 hlt
        refine Does.getO h0 hlt fun y hy => ?_
        rw [hy, bnd_some, getO_at h0 hy, bnd_some, eqK_self (k := kdReply) y (by decide), Bool.not_true, cond_false]
        obtain ⟨_, p1, p2, p3⟩ := cnt_step (i := i) (n := (rs.length : Int)) h0 hlt (by omega)
        exact Does.val ⟨⟨rfl, p1, p2⟩, p3⟩
      · exact changes_loop r9.1.1 hlen fun _ _ _ => Does.val rfl
  cases hg : goodC r1.1.1 with
  | false => exact rest ((), ())
  | true =>
    dsimp only [cond_true]
    rw [f_impl_ReadCommand_back hg, bnd_some]
    dsimp only
    rw [Bool.not_true, cond_false, eqK_self (k := kdCommand) r1.1.1 (by decide), Bool.not_true, cond_false]
    exact rest ((), ())

end Go.Proofs.Ytogmfilmfkepfaa
