/- Versions recovered from a text of edits: both sides do the same. -/
import Derived.Test.YtbekojfgnbnpcaaW8Both
set_option linter.all false
noncomputable section
namespace Go.Proofs.Ytbekojfgnbnpcaa
open Go Go.Proofs.Ytbekojfgnbnpcaa.Ev

def newV : DVersion := ((1 : Int), ((0 : Int), (([] : List DMeta), ())))
theorem newV_good : GoodV newV := ⟨by decide, by decide, ⟨by simp [newV], fun i x h => by simp [newV] at h⟩, fun i x h => by simp [newV] at h⟩

theorem appR_ok {v : DVersion} {e : DEdit} (h : AppOk v e) : appR v e = (appV v e, (true, ())) := if_pos h
theorem appR_no {v : DVersion} {e : DEdit} (h : ¬ AppOk v e) : appR v e = (noVer, (false, ())) := if_neg h

theorem dr_dr (s : ByteArray) (a b : Nat) : dr (dr s a) b = dr s (a + b) := by
  unfold dr
  rw [ByteArray.extract_extract, ByteArray.size_extract]
  congr 1
  omega

def EdOk (t : ByteArray) (v : DVersion) : Prop := (editR t).2.1 = true ∧ AppOk v (editR t).1

open Classical in
/-- frames played one by one -/
def recL : List ByteArray → DVersion → Nat → DVersion × Nat
  | [], v, k => (v, k)
  | t :: l, v, k => if EdOk t v then recL l (appV v (editR t).1) (k + 1) else (v, k)
theorem recL_ok {t : ByteArray} {l : List ByteArray} {v : DVersion} {k : Nat} (h : EdOk t v) : recL (t :: l) v k = recL l (appV v (editR t).1) (k + 1) := if_pos h
theorem recL_no {t : ByteArray} {l : List ByteArray} {v : DVersion} {k : Nat} (h : ¬ EdOk t v) : recL (t :: l) v k = (v, k) := if_neg h

/-- the frames at the head of a text -/
def frGo : Nat → ByteArray → List ByteArray
  | 0, _ => []
  | f + 1, s => match takeFr s with
    | none => []
    | some q => q.1 :: frGo f (dr s q.2)

theorem frGo_succ (f : Nat) (s : ByteArray) : frGo (f + 1) s = match takeFr s with
    | none => []
    | some q => q.1 :: frGo f (dr s q.2) := rfl

def recV (s : ByteArray) : DVersion × Nat := recL (frGo 60 s) newV 0

theorem recL_good : ∀ (l : List ByteArray) (v : DVersion) (k : Nat), GoodV v → GoodV (recL l v k).1 ∧ (recL l v k).2 ≤ k + l.length ∧ k ≤ (recL l v k).2
  | [], v, k, h => ⟨h, by simp [recL], by simp [recL]⟩
  | t :: l, v, k, h => by
    by_cases ht : EdOk t v
    · rw [recL_ok ht]
      obtain ⟨h1, h2, h3⟩ := recL_good l (appV v (editR t).1) (k + 1) ht.2.2.2.2.2
      exact ⟨h1, by simp; omega, by omega⟩
    · rw [recL_no ht]
      exact ⟨h, by simp, Nat.le_refl _⟩

theorem frGo_len : ∀ (f : Nat) (s : ByteArray), (frGo f s).length ≤ f ∧ ∀ t ∈ frGo f s, t.size ≤ 1000
  | 0, s => ⟨by simp [frGo], fun t h => by simp [frGo] at h⟩
  | f + 1, s => by
    unfold frGo
    cases hq : takeFr s with
    | none => exact ⟨by simp, fun t h => by simp at h⟩
    | some q =>
      obtain ⟨h1, h2⟩ := frGo_len f (dr s q.2)
      refine ⟨by simp; omega, fun t ht => ?_⟩
      rcases List.mem_cons.1 ht with rfl | ht
      · exact (takeFr_size hq).1
      · exact h2 t ht

theorem recV_good (s : ByteArray) : GoodV (recV s).1 ∧ (recV s).2 ≤ 60 := by
  obtain ⟨h1, h2, _⟩ := recL_good (frGo 60 s) newV 0 newV_good
  have := (frGo_len 60 s).1
  exact ⟨h1, by show (recL _ _ _).2 ≤ 60; omega⟩

theorem takeFr_empty {s : ByteArray} (h : s.size = 0) : takeFr s = none := by
  have h0 : (takeVar s).2 = 0 := by
    have : s[0]? = none := getElem?_neg s 0 (by omega)
    simp only [takeVar, takeGo, this]
  unfold takeFr
  rw [if_pos h0]

theorem f_impl_RecoverVersionVal (s : ByteArray) (hs : s.size ≤ 1048576) : f_impl_RecoverVersion (s, ()) = some (((recV s).1, ((((recV s).2 : Nat) : Int), (true, ()))), ()) := by
  have key : Does (f_impl_RecoverVersion (s, ())) fun r => r = (((recV s).1, ((((recV s).2 : Nat) : Int), (true, ()))), ()) := by
    unfold f_impl_RecoverVersion f_impl_NewVersion
    rw [bnd_some]
    dsimp only
    refine Does.loop (c := f_impl_RecoverVersion_l2c) (v := f_impl_RecoverVersion_l2v) (ex := f_impl_RecoverVersion_l2e)
      (fun (xc : Unit × (DVersion × Unit)) (xv : (ByteArray × Int × Unit) × (DVersion × Unit)) => xc = ((), (noVer, ())) ∧ ∃ (k : Nat) (s' : ByteArray) (v : DVersion), xv = ((s', ((k : Int), ())), (v, ())) ∧ k ≤ 60 ∧ s'.size ≤ 1048576 ∧ GoodV v ∧ recL (frGo (60 - k) s') v k = recV s)
      (fun _ (xv : (ByteArray × Int × Unit) × (DVersion × Unit)) => 60 - Int.toNat xv.1.2.1) ?_ ⟨rfl, 0, s, newV, rfl, by omega, hs, newV_good, rfl⟩
    rintro xc xv ⟨rfl, k, s', v, rfl, hk, hs', hv, hrec⟩
    simp only [round, f_impl_RecoverVersion_l2]
    refine Does.cond (fun hlt => ?_) (fun hlt => ?_)
    · have hlt := ilt_iff.1 hlt
      have hlt : k < 60 := by omega
      rw [show 60 - k = (60 - (k + 1)) + 1 by omega, frGo_succ (60 - (k + 1)) s'] at hrec
      rw [f_impl_TakeFrameVal _ hs', bnd_some]
      dsimp only
      cases hq : takeFr s' with
      | none =>
        rw [hq] at hrec
        simp only [frR, Bool.not_false, cond_true]
        exact Does.val (Does.val (by rw [← hrec]; rfl))
      | some q =>
        rw [hq] at hrec
        dsimp only at hrec
        obtain ⟨hq1, hq2⟩ := takeFr_size hq
        simp only [frR, Bool.not_true, cond_false]
        rw [f_impl_ReadEditVal, bnd_some]
        dsimp only
        rw [if_pos hq1]
        obtain ⟨el1, el2⟩ := editR_len q.1 hq1
        refine Does.cond (fun h1 => ?_) (fun h1 => ?_)
        · have hno : ¬ EdOk q.1 v := fun h => by rw [h.1] at h1; cases h1
          rw [recL_no hno] at hrec
          exact Does.val (Does.val (by rw [← hrec]))
        · have h1 : (editR q.1).2.1 = true := by simpa using h1
          obtain ⟨r4, a4, b4⟩ := f_impl_ApplyEditDoes v (editR q.1).1 hv (by omega) (by omega)
          rw [a4, bnd_some, b4]
          dsimp only
          by_cases h2 : AppOk v (editR q.1).1
          · rw [appR_ok h2]
            simp only [Bool.not_true, cond_false]
            rw [recL_ok ⟨h1, h2⟩] at hrec
            refine Does.req (bounds_ok hq2) (Does.val ?_)
            dsimp only
            rw [iadd_i64 (by omega)]
            refine ⟨⟨rfl, k + 1, dr s' q.2, appV v (editR q.1).1, ?_, by omega, by rw [dr_size]; omega, h2.2.2.2.2, hrec⟩, by omega⟩
            rw [Int.toNat_natCast]
            rfl
          · rw [appR_no h2]
            simp only [Bool.not_false, cond_true]
            rw [recL_no fun h => h2 h.2] at hrec
            exact Does.val (Does.val (by rw [← hrec]))
    · have hlt := ilt_false.1 hlt
      have : 60 - k = 0 := by omega
      rw [this] at hrec
      exact Does.val (Does.val (by rw [← hrec]; rfl))
  obtain ⟨r, h1, h2⟩ := key
  rw [h1, h2]

theorem f_spec_l2FramesVal (s : ByteArray) (hs : s.size ≤ 1048576) : Does (f_spec_l2Frames (s, ())) fun r => r.1.1 = frGo 60 s := by
  unfold f_spec_l2Frames
  dsimp only
  refine Does.loop (c := f_spec_l2Frames_l3c) (v := f_spec_l2Frames_l3v) (ex := f_spec_l2Frames_l3e)
    (fun (xc : (ByteArray × Unit) × Unit) (xv : (Int × Unit) × ((List ByteArray) × Unit)) => xc = ((s, ()), ()) ∧ ∃ (a : Nat) (l : List ByteArray), xv = (((a : Int), ()), (l, ())) ∧ a ≤ s.size ∧ l.length ≤ 60 ∧ l ++ frGo (60 - l.length) (dr s a) = frGo 60 s)
    (fun _ (xv : (Int × Unit) × ((List ByteArray) × Unit)) => 60 - xv.2.1.length) ?_ ⟨rfl, 0, [], rfl, by omega, by simp, by rw [dr_zero]; rfl⟩
  rintro xc xv ⟨rfl, a, l, rfl, ha, hl, hrec⟩
  simp only [round, f_spec_l2Frames_l3]
  refine Does.cond (fun hlt => ?_) (fun hlt => ?_)
  · refine Does.cond (fun hlt2 => ?_) (fun hlt2 => ?_)
    · have hlt2 := ilt_iff.1 hlt2
      simp only [llen] at hlt2
      refine Does.req (bounds_ok ha) ?_
      rw [show 60 - l.length = (60 - (l.length + 1)) + 1 by omega, frGo_succ (60 - (l.length + 1)) (dr s a)] at hrec
      have hd : ByteArray.extract s (Int.toNat (a : Int)) (ByteArray.size s) = dr s a := by rw [Int.toNat_natCast]; rfl
      rw [hd, f_spec_l2TakeFrameVal _ (by dsimp only; rw [dr_size]; omega), bnd_some]
      dsimp only
      cases hq : takeFr (dr s a) with
      | none =>
        rw [hq] at hrec
        simp only [frR, Bool.not_false, cond_true]
        exact Does.val (Does.val (by rw [← hrec]; simp))
      | some q =>
        rw [hq] at hrec
        dsimp only at hrec
        obtain ⟨hq1, hq2⟩ := takeFr_size hq
        rw [dr_size] at hq2
        simp only [frR, Bool.not_true, cond_false]
        refine Does.req (by simp; omega) (Does.val ?_)
        dsimp only
        rw [iadd_i64 (by omega)]
        refine ⟨⟨rfl, a + q.2, l ++ [q.1], by rw [show ((a + q.2 : Nat) : Int) = (a : Int) + (q.2 : Int) by omega], by omega, by simp; omega, ?_⟩, by simp; omega⟩
        rw [← hrec, dr_dr]
        simp
    · have hlt2 := ilt_false.1 hlt2
      simp only [llen] at hlt2
      have : 60 - l.length = 0 := by omega
      rw [this] at hrec
      exact Does.val (Does.val (by rw [← hrec]; simp [frGo]))
  · have hlt := ilt_false.1 hlt
    simp only [slen] at hlt
    have he : takeFr (dr s a) = none := takeFr_empty (by rw [dr_size]; omega)
    have hf : ∀ f, frGo f (dr s a) = [] := fun f => by cases f with | zero => rfl | succ f => unfold frGo; rw [he]
    rw [hf, List.append_nil] at hrec
    exact Does.val (Does.val hrec)

theorem f_spec_RecoverVersionVal (s : ByteArray) (hs : s.size ≤ 1048576) : f_spec_RecoverVersion (s, ()) = some (((recV s).1, ((((recV s).2 : Nat) : Int), (true, ()))), ()) := by
  have key : Does (f_spec_RecoverVersion (s, ())) fun r => r = (((recV s).1, ((((recV s).2 : Nat) : Int), (true, ()))), ()) := by
    unfold f_spec_RecoverVersion
    dsimp only
    obtain ⟨r1, a1, b1⟩ := f_spec_l2FramesVal s hs
    unfold f_spec_NewVersion
    rw [a1, bnd_some, bnd_some]
    dsimp only
    rw [b1]
    obtain ⟨hfl, hfs⟩ := frGo_len 60 s
    obtain ⟨l, hl⟩ : ∃ l, l = frGo 60 s := ⟨_, rfl⟩
    have hrv : recV s = recL l newV 0 := by rw [hl]; rfl
    rw [← hl] at hfl hfs ⊢
    rw [hrv]
    refine Does.loop (c := f_spec_RecoverVersion_l4c) (v := f_spec_RecoverVersion_l4v) (ex := f_spec_RecoverVersion_l4e)
      (fun (xc : (Int × Unit) × ((List ByteArray) × Unit)) (xv : (Int × Unit) × (DVersion × DVersion × Unit)) => xc = ((llen l, ()), (l, ())) ∧ ∃ (k : Nat) (v : DVersion), xv = (((k : Int), ()), (noVer, (v, ()))) ∧ k ≤ l.length ∧ GoodV v ∧ recL (l.drop k) v k = recL l newV 0)
      (fun _ (xv : (Int × Unit) × (DVersion × DVersion × Unit)) => l.length - Int.toNat xv.1.1) ?_ ⟨rfl, 0, newV, rfl, by omega, newV_good, by rw [List.drop_zero]⟩
    rintro xc xv ⟨rfl, k, v, rfl, hk, hv, hrec⟩
    simp only [round, f_spec_RecoverVersion_l4]
    refine Does.cond (fun hlt => ?_) (fun hlt => ?_)
    · have hlt := ilt_iff.1 hlt
      simp only [llen] at hlt
      have hkl : k < l.length := by omega
      refine Does.getO (by omega) (by omega) fun t ht => ?_
      rw [ht, bnd_some]
      rw [Int.toNat_natCast] at ht
      have hts := hfs t (List.mem_of_getElem? ht)
      have hd : l.drop k = t :: l.drop (k + 1) := by
        rw [List.getElem?_eq_getElem hkl] at ht
        injection ht with ht
        rw [← ht]
        exact (List.getElem_cons_drop (h := hkl)).symm
      rw [hd] at hrec
      rw [f_spec_l9ReadVal _ hts, bnd_some]
      dsimp only
      obtain ⟨el1, el2⟩ := editR_len t hts
      refine Does.cond (fun h1 => ?_) (fun h1 => ?_)
      · have hno : ¬ EdOk t v := fun h => by rw [h.1] at h1; cases h1
        rw [recL_no hno] at hrec
        exact Does.val (Does.val (by rw [← hrec]))
      · have h1 : (editR t).2.1 = true := by simpa using h1
        obtain ⟨r4, a4, b4⟩ := f_spec_l9ApplyDoes v (editR t).1 hv (by omega) (by omega)
        rw [a4, bnd_some, b4]
        dsimp only
        by_cases h2 : AppOk v (editR t).1
        · rw [appR_ok h2]
          simp only [Bool.not_true, cond_false]
          rw [recL_ok ⟨h1, h2⟩] at hrec
          refine Does.val ?_
          dsimp only
          rw [iadd_i64 (by omega)]
          exact ⟨⟨rfl, k + 1, appV v (editR t).1, rfl, by omega, h2.2.2.2.2, hrec⟩, by omega⟩
        · rw [appR_no h2]
          simp only [Bool.not_false, cond_true]
          rw [recL_no fun h => h2 h.2] at hrec
          exact Does.val (Does.val (by rw [← hrec]))
    · have hlt := ilt_false.1 hlt
      simp only [llen] at hlt
      have hkl : k = l.length := by omega
      rw [List.drop_of_length_le (by omega)] at hrec
      refine Does.val (Does.val ?_)
      dsimp only
      rw [← hrec, hkl]
      rfl
  obtain ⟨r, h1, h2⟩ := key
  rw [h1, h2]

theorem f_laws_eqVersionSame (x : DVersion × DVersion × Unit) (h : x.1 = x.2.1) (h1 : x.1.2.2.1.length ≤ 1000) : f_laws_eqVersion x = some ((true, ()), ()) := by
  obtain ⟨a, b, ⟨⟩⟩ := x
  dsimp only at h h1
  subst h
  unfold f_laws_eqVersion
  simp only [ieq_self, Bool.not_true, cond_false]
  rw [f_laws_eqMetaSSame _ rfl (by dsimp only; omega), bnd_some]
  rfl

theorem true_f_laws_FnExactRecoverVersion (s : ByteArray) : f_laws_FnExactRecoverVersion (s, ()) = some ((true, ()), ()) := by
  unfold f_laws_FnExactRecoverVersion
  dsimp only
  by_cases h : 1048576 < s.size
  · rw [ilt_iff.2 (show (1048576 : Int) < slen s by simp only [slen]; omega)]
    rfl
  rw [ilt_false.2 (show slen s ≤ (1048576 : Int) by simp only [slen]; omega), cond_false]
  rw [f_spec_RecoverVersionVal s (by omega), bnd_some, f_impl_RecoverVersionVal s (by omega), bnd_some]
  have hg := (recV_good s).1.2.2.1.1
  obtain ⟨V, hV⟩ : ∃ V, V = (recV s).1 := ⟨_, rfl⟩
  rw [← hV] at hg ⊢
  dsimp only
  rw [f_laws_eqVersionSame _ rfl (by dsimp only; omega), bnd_some]
  have hb : beqB true true = true := rfl
  simp only [hb, ieq_self, Bool.not_true, cond_false]
  unfold f_laws_markVersion
  dsimp only
  rw [f_laws_markMetaSVal _ (by dsimp only; omega) (by dsimp only; omega), bnd_some]
  dsimp only
  have h16 : ∀ y : DVersion × Int × Unit, y.1.2.2.1 = markMt 1 V.2.2.1.length → y.2.1 = 1 → f_laws_heldVersion y = some ((1 + 4 * (V.2.2.1.length : Int), ()), ()) := by
    rintro ⟨⟨w1, w2, w3, ⟨⟩⟩, k, ⟨⟩⟩ y1 y2
    dsimp only at y1 y2
    subst y1; subst y2
    unfold f_laws_heldVersion
    dsimp only
    rw [f_laws_heldMetaSVal _ _ (by omega) (by omega), bnd_some]
    dsimp only
    rw [ilt_false.2 (by omega), cond_false]
  rw [bnd_some]
  dsimp only
  rw [h16 _ rfl rfl, bnd_some]
  dsimp only
  have hp : ilt (1 + 4 * (V.2.2.1.length : Int)) 0 = false := ilt_false.2 (by omega)
  simp only [hp, hb, ieq_self, Bool.not_true, cond_false]
  simp only [bnd_some, hp, hb, ieq_self, Bool.not_true, cond_false]
  rw [f_laws_eqVersionSame _ rfl (by dsimp only; omega), bnd_some]
  rfl

end Go.Proofs.Ytbekojfgnbnpcaa
