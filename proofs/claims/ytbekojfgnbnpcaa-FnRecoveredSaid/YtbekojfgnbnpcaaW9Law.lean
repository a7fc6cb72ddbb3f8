/- FnRecovered over typed functions. -/
import Derived.Test.YtbekojfgnbnpcaaW9Pre
import Derived.Test.YtbekojfgnbnpcaaW9Draw
set_option linter.all false
noncomputable section
namespace Go.Proofs.Ytbekojfgnbnpcaa
open Go Go.Proofs.Ytbekojfgnbnpcaa.Ev

theorem f_laws_numberOfDoes {l : List Int} (hb : ∀ x ∈ l, 0 ≤ x ∧ x < 256) (hl : l.length ≤ 9223372036854775807) : Does (f_laws_numberOf (l, ())) fun r => 0 ≤ r.1.1 ∧ r.1.1 < 1000003 := by
  unfold f_laws_numberOf
  refine Does.loop (c := f_laws_numberOf_l3c) (v := f_laws_numberOf_l3v) (ex := f_laws_numberOf_l3e)
    (fun (xc : ((List Int) × Int × Unit) × Unit) (xv : (Int × Int × Unit) × Unit) => xc = ((l, (llen l, ())), ()) ∧ ∃ (j : Nat) (n : Int), xv = ((n, ((j : Int), ())), ()) ∧ j ≤ l.length ∧ 0 ≤ n ∧ n < 1000003)
    (fun _ (xv : (Int × Int × Unit) × Unit) => l.length - Int.toNat xv.1.2.1) ?_ ⟨rfl, 0, 0, rfl, by omega, by decide, by decide⟩
  rintro xc xv ⟨rfl, j, n, rfl, hj, hn0, hn1⟩
  simp only [round, f_laws_numberOf_l3]
  refine Does.cond (fun hlt => ?_) (fun hlt => ?_)
  · have hlt := ilt_iff.1 hlt
    simp only [llen] at hlt
    refine Does.getO (by omega) (by omega) fun y hy => ?_
    have hyb := hb y (List.mem_of_getElem? hy)
    refine Does.val ?_
    dsimp only
    rw [wrap_i64 y (by omega), imul_i64 (by omega), iadd_i64 (by omega), iadd_i64 (by omega)]
    have := irem_range (a := 31 * n + y) (m := 1000003) (by omega) (by decide)
    exact ⟨⟨rfl, j + 1, _, rfl, by omega, this.1, this.2.1⟩, by omega⟩
  · exact Does.val (Does.val ⟨hn0, hn1⟩)

theorem edB_ok {e : DEdit} (h : (edB e).2.1 = true) : GoodEd e ∧ (editB e).size ≤ 1000 ∧ edB e = (editB e, (true, ())) := by
  unfold edB at h ⊢
  by_cases hg : GoodEd e ∧ (editB e).size ≤ 1000
  · rw [if_pos hg]; exact ⟨hg.1, hg.2, rfl⟩
  · rw [if_neg hg] at h; cases h

theorem true_f_laws_FnRecovered (code more : List Int) (hb1 : ∀ b ∈ code, 0 ≤ b ∧ b < 256) (hb2 : ∀ b ∈ more, 0 ≤ b ∧ b < 256) (hcl : code.length ≤ 9223372036854775807) : f_laws_FnRecovered (code, (more, ())) = some ((true, ()), ()) := by
  have key : Does (f_laws_FnRecovered (code, (more, ()))) fun r => r = ((true, ()), ()) := by
    unfold f_laws_FnRecovered
    dsimp only
    refine Does.cond (fun _ => Does.val rfl) (fun hsz => ?_)
    refine Does.bnd (f_spec_DrawEditBytesDoes hb1) fun r1 h1 => ?_
    obtain ⟨r2, a2, b2⟩ := f_impl_EditBytesDoes r1.1.1 h1.1 h1.2
    obtain ⟨r3, a3, b3⟩ := f_spec_EditBytesDoes r1.1.1 h1.1 h1.2
    rw [a2, bnd_some, a3, bnd_some, b2, b3]
    dsimp only
    have hbb : ∀ b, beqB b b = true := fun b => by cases b <;> rfl
    rw [hbb, seq_self]
    simp only [Bool.not_true, cond_false]
    -- the edit comes back
    have back : ∀ {Q : (Bool × Unit) × Unit → Prop} (kk : (((List Int) × (List Int) × ByteArray × Bool × Unit) × (DEdit × Unit)) → (((Bool × Unit) × Unit) ⊕ (Unit × Unit)) → Option ((Bool × Unit) × Unit)),
        Does (kk ((code, (more, ((edB r1.1.1).1, ((edB r1.1.1).2.1, ())))), (r1.1.1, ())) (.inr ((), ()))) Q → Does (f_laws_FnRecovered_i9 _ ((code, (more, ((edB r1.1.1).1, ((edB r1.1.1).2.1, ())))), (r1.1.1, ())) ((), ()) kk) Q := fun {Q} kk hk => by
      unfold f_laws_FnRecovered_i9
      dsimp only
      refine Does.cond (fun hok => ?_) (fun _ => hk)
      obtain ⟨g1, g2, g3⟩ := edB_ok hok
      rw [g3] at hk ⊢
      dsimp only at hk ⊢
      rw [f_impl_ReadEditVal, bnd_some]
      dsimp only
      rw [if_pos g2, editR_back g1]
      dsimp only
      obtain ⟨r5, a5, b5⟩ := f_impl_EditBytesDoes r1.1.1 h1.1 h1.2
      rw [a5, bnd_some, b5, g3]
      dsimp only
      rw [seq_self, f_laws_sameIntsSame _ h1.1, bnd_some]
      simp only [ieq_iff.2 rfl, Bool.not_true, cond_false]
      exact hk
    refine back _ ?_
    dsimp only
    refine Does.bnd (f_spec_DrawRecoverVersionDoes hb2) fun r11 h11 => ?_
    obtain ⟨t, ht⟩ : ∃ t, t = r11.1.1 := ⟨_, rfl⟩
    rw [← ht] at h11 ⊢
    rw [f_impl_RecoverVersionVal t (by omega), bnd_some, f_spec_RecoverVersionVal t (by omega), bnd_some]
    dsimp only
    obtain ⟨hg, hk60⟩ := recV_good t
    rw [hbb, f_laws_sameVersionsSame _ (by have := hg.len; omega), bnd_some]
    simp only [ieq_iff.2 rfl, Bool.not_true, cond_false]
    obtain ⟨r15, a15, b15⟩ := f_impl_GoodVersionDoes (x := ((recV t).1, ())) (by have := hg.len; dsimp only; omega)
    rw [a15, bnd_some, b15.2 hg]
    simp only [Bool.not_true, cond_false]
    -- a beginning of the text
    have cut : ∀ {Q : (Bool × Unit) × Unit → Prop} (kk : (((List Int) × ByteArray × Int × Int × Bool × Unit) × Unit) → ((Int × Unit) × Unit) → Option ((Bool × Unit) × Unit)),
        (∀ k : Nat, k ≤ t.size → Does (kk ((code, (t, (((recV t).2 : Int), (((recV t).2 : Int), (ilt (0 : Int) (slen t), ()))))), ()) (((k : Int), ()), ())) Q) → Does (f_laws_FnRecovered_i20 _ ((code, (t, (((recV t).2 : Int), (((recV t).2 : Int), (ilt (0 : Int) (slen t), ()))))), ()) (((0 : Int), ()), ()) kk) Q := fun {Q} kk hk => by
      unfold f_laws_FnRecovered_i20
      dsimp only
      refine Does.cond (fun hlt => ?_) (fun _ => hk 0 (Nat.zero_le _))
      refine Does.bnd (f_laws_numberOfDoes hb1 hcl) fun r16 h16 => ?_
      have e1 : iadd .i64 (slen t) (1 : Int) = (t.size : Int) + 1 := by simp only [slen]; rw [iadd_i64 (by omega)]
      rw [e1]
      refine Does.req (by simp; omega) ?_
      have hr := irem_range (a := r16.1.1) (m := (t.size : Int) + 1) h16.1 (by omega)
      have := hk (irem .i64 r16.1.1 ((t.size : Int) + 1)).toNat (by omega)
      rw [Int.toNat_of_nonneg hr.1] at this
      exact this
    refine cut _ fun k hk => ?_
    dsimp only
    refine Does.req (by simp; omega) ?_
    have hex : ByteArray.extract t (0 : Nat) (Int.toNat (k : Int)) = t.extract 0 k := by rw [Int.toNat_natCast]
    rw [hex, f_impl_RecoverVersionVal _ (by rw [ByteArray.size_extract]; omega), bnd_some]
    dsimp only
    obtain ⟨hgx, hx60⟩ := recV_good (t.extract 0 k)
    obtain ⟨l2, hl2⟩ := frGo_pre 60 t k hk
    have hfew : (recV (t.extract 0 k)).2 ≤ (recV t).2 := by
      unfold recV
      rw [← hl2]
      exact recL_pre _ _ _ _
    have hfl := (frGo_len 60 (t.extract 0 k)).1
    have hrl : (recV (t.extract 0 k)).2 ≤ (frGo 60 (t.extract 0 k)).length := by
      have := (recL_good (frGo 60 (t.extract 0 k)) newV 0 newV_good).2.1
      rw [Nat.zero_add] at this
      exact this
    rw [ilt_false.2 (show (0 : Int) ≤ (((recV (t.extract 0 k)).2 : Nat) : Int) by omega), ilt_false.2 (show (((recV (t.extract 0 k)).2 : Nat) : Int) ≤ (((recV t).2 : Nat) : Int) by omega)]
    simp only [cond_false]
    unfold f_impl_NewVersion f_spec_ReadFrames
    rw [bnd_some]
    obtain ⟨r21, a21, b21⟩ := f_spec_l2FramesVal t (by omega)
    dsimp only
    rw [a21, bnd_some, bnd_some]
    dsimp only
    rw [b21]
    obtain ⟨X, hX⟩ : ∃ X, X = recV (t.extract 0 k) := ⟨_, rfl⟩
    obtain ⟨L, hL⟩ : ∃ L, L = frGo 60 (t.extract 0 k) := ⟨_, rfl⟩
    have hXL : X = recL L newV 0 := by rw [hX, hL]; rfl
    rw [← hX] at hgx hx60 hfew hrl ⊢
    rw [← hL] at hl2 hfl hrl
    rw [← hl2]
    have hfs := (frGo_len 60 (t.extract 0 k)).2
    rw [← hL] at hfs
    refine Does.loop (c := f_laws_FnRecovered_l27c) (v := f_laws_FnRecovered_l27v) (ex := f_laws_FnRecovered_l27e)
      (fun (xc : (Int × Int × Bool × Unit) × (DVersion × (List ByteArray) × Unit)) (xv : (Int × Unit) × (DVersion × Unit)) => xc = (((((recV t).2 : Nat) : Int), (((X.2 : Nat) : Int), (true, ()))), (X.1, (L ++ l2, ()))) ∧ ∃ (j : Nat) (y : DVersion), xv = (((j : Int), ()), (y, ())) ∧ j ≤ X.2 ∧ GoodV y ∧ recL (L.drop j) y j = X)
      (fun _ (xv : (Int × Unit) × (DVersion × Unit)) => X.2 - Int.toNat xv.1.1) ?_ ⟨rfl, 0, newV, rfl, Nat.zero_le _, newV_good, by rw [List.drop_zero]; exact hXL.symm⟩
    rintro xc xv ⟨rfl, j, y, rfl, hj, hy, hrec⟩
    simp only [round, f_laws_FnRecovered_l27]
    refine Does.cond (fun hlt => ?_) (fun hlt => ?_)
    · have hlt := ilt_iff.1 hlt
      have hjX : j < X.2 := by omega
      rw [← hrec] at hjX
      obtain ⟨u, r, e1, e2, e3⟩ := recL_next hjX
      have hju : L[j]? = some u := by
        have := congrArg (fun q => q[0]?) e1
        simpa using this
      have hjl := (List.getElem?_eq_some_iff.1 hju).1
      refine Does.getO (by omega) (by simp; omega) fun u2 hu2 => ?_
      rw [hu2, bnd_some]
      rw [Int.toNat_natCast, List.getElem?_append_left hjl, hju] at hu2
      injection hu2 with hu2
      subst hu2
      have hus := hfs u (List.mem_of_getElem? hju)
      rw [f_spec_ReadEditVal, bnd_some]
      dsimp only
      rw [if_pos hus]
      obtain ⟨el1, el2⟩ := editR_len u hus
      obtain ⟨r25, a25, b25⟩ := f_impl_ApplyEditDoes y (editR u).1 hy (by omega) (by omega)
      rw [a25, bnd_some, b25, appR_ok e2.2, e2.1]
      simp only [Bool.not_true, cond_false]
      refine Does.val ?_
      dsimp only
      rw [iadd_i64 (by omega)]
      have hd : L.drop (j + 1) = r := by
        have := congrArg List.tail e1
        simpa using this
      refine ⟨⟨rfl, j + 1, _, rfl, by rw [← hrec]; omega, e2.2.2.2.2.2, by rw [hd, ← e3]; exact hrec⟩, by rw [← hrec]; omega⟩
    · have hlt := ilt_false.1 hlt
      refine Does.val ?_
      dsimp only
      have hjX : j = X.2 := by omega
      have hyX : X.1 = y := by
        have := recL_end (l := L.drop j) (v := y) (k := j) (by rw [hrec]; exact hjX.symm)
        rw [hrec] at this
        exact this
      rw [cond_true, ile_iff.2 (show ((X.2 : Nat) : Int) ≤ (((recV t).2 : Nat) : Int) by omega), cond_true, ← hyX, f_laws_sameVersionsSame _ (by have := hgx.len; omega), bnd_some]
      exact Does.val rfl
  obtain ⟨r, h1, h2⟩ := key
  rw [h1, h2]

end Go.Proofs.Ytbekojfgnbnpcaa
