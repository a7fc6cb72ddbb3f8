/- Disks: steps in a row, the reference's. -/
import Derived.Test.YthlnjkcpdkjipaaDoorX6Step
set_option linter.all false
noncomputable section
namespace Go.Proofs.YthlnjkcpdkjipaaDoor
open Go Go.Proofs.YthlnjkcpdkjipaaDoor.Ev

/-- steps in a row: the disk, the codes -/
def playL : List DDiskStep → DDisk → List Int → DDisk × List Int
  | [], d, cs => (d, cs)
  | s :: r, d, cs => playL r (doD d s).1 (cs ++ [(doD d s).2])
def playD (room : Int) (l : List DDiskStep) : DDisk × List Int × Bool :=
  cond (inR room 0 100000 && ile (llen l) 100) ((playL l (([] : List DBlob), (([] : List DBlob), (([] : List DBlob), (room, ())))) []).1, ((playL l (([] : List DBlob), (([] : List DBlob), (([] : List DBlob), (room, ())))) []).2, true)) (zeroD, ([], false))

abbrev StepsOk (l : List DDiskStep) : Prop := ∀ s ∈ l, StepOk s

theorem empty_good {room : Int} (h : inR room 0 100000 = true) : GoodD (([] : List DBlob), (([] : List DBlob), (([] : List DBlob), (room, ())))) := by
  have hr := inR_iff.1 h
  exact ⟨fun i x hx => by simp at hx, by simp, ⟨fun i x hx => by simp at hx, by simp⟩, ⟨fun i x hx => by simp at hx, by simp⟩, h, hr.1⟩
theorem doD_good {d : DDisk} (h : GoodD d) (s : DDiskStep) : GoodD (doD d s).1 := by
  unfold doD
  rw [goodB_iff.2 h, cond_true]
  cases hc : ieq (resD d s).2 0 with
  | false => exact h
  | true =>
    rw [cond_true]
    have hc := ieq_iff.1 hc
    unfold resD at hc ⊢
    cases hf : ieq (faultD d s) 0 with
    | false =>
      rw [hf, cond_false] at hc
      have := ieq_false.1 hf
      exact absurd hc this
    | true =>
      rw [hf, cond_true] at hc
      rw [cond_true]
      cases hg : goodB (stepD d s) with
      | true => exact goodB_iff.1 hg
      | false => rw [hg] at hc; cases hc
theorem playL_good : ∀ (l : List DDiskStep) (d : DDisk) (cs : List Int), GoodD d → GoodD (playL l d cs).1 ∧ (playL l d cs).2.length = cs.length + l.length
  | [], d, cs, h => ⟨h, rfl⟩
  | s :: r, d, cs, h => by
    have := playL_good r (doD d s).1 (cs ++ [(doD d s).2]) (doD_good h s)
    simp only [playL]
    refine ⟨this.1, ?_⟩
    rw [this.2]
    simp
    omega
/-- at a good disk a step that fails changes nothing -/
theorem doD_of {d : DDisk} (h : GoodD d) (s : DDiskStep) : doD d s = cond (ieq (resD d s).2 0) (resD d s) (d, (resD d s).2) := by
  unfold doD; rw [goodB_iff.2 h, cond_true]

theorem spec_playLoop {R : Type} (l : List DDiskStep) (hl : l.length ≤ 100) (hs : StepsOk l) (Q : R → Prop) (d0 : DDisk) (c0 : List Int) (kk : Vars f_spec_PlayDisk_l6c → Oc f_spec_PlayDisk_l6e → Option R)
    (hk : ∀ z z2 : DDisk, Does (kk ((), ()) ((), (z, ((playL l d0 c0).1, ((playL l d0 c0).2, ()))))) Q) : ∀ (B A : List DDiskStep) (z d : DDisk) (cs : List Int), A ++ B = l → GoodD d → cs.length = A.length → playL B d cs = playL l d0 c0 →
    Does (loopF (c := f_spec_PlayDisk_l6c) (v := f_spec_PlayDisk_l6v) (ex := f_spec_PlayDisk_l6e) f_spec_PlayDisk_l6 R ((), ()) ((l, (llen l, (((A.length : Nat) : Int), ()))), (z, (d, (cs, ())))) kk) Q
  | [], A, z, d, cs, h, hg, hc, hp => by
    rw [List.append_nil] at h
    subst h
    rw [loopF_done (c' := ((), ())) (o := ((), (z, (d, (cs, ()))))) (by
      simp only [round, f_spec_PlayDisk_l6]
      rw [show ilt ((A.length : Nat) : Int) (llen A) = false from ilt_false.2 (by simp only [llen]; omega), cond_false])]
    have := hk z z
    rw [← hp] at this
    exact this
  | s :: B, A, z, d, cs, h, hg, hc, hp => by
    have hA : A.length + 1 ≤ l.length := by rw [← h]; simp
    have hlt : ilt ((A.length : Nat) : Int) (llen l) = true := by rw [← h]; exact mid_lt A B s
    have hget : ∀ {R : Type} (k : DDiskStep → Option R), getO l ((A.length : Nat) : Int) k = k s := fun k => by rw [← h]; exact mid_getO A B s k
    have hss : StepOk s := hs s (by rw [← h]; simp)
    have hnx : iadd .i64 ((A.length : Nat) : Int) (1 : Int) = (((A ++ [s]).length : Nat) : Int) := mid_next A s (by omega)
    rw [loopF_more (c' := ((), ())) (v' := ((l, (llen l, ((((A ++ [s]).length : Nat) : Int), ()))), (z, ((doD d s).1, ((cs ++ [(doD d s).2]), ()))))) (by
      simp only [round, f_spec_PlayDisk_l6, hlt, cond_true, hget, f_spec_l1OwnVal d hg.lens, bnd_some, l1DoVal hg hss, f_spec_PlayDisk_i10, hnx]
      rw [doD_of hg]
      cases hcd : ieq (resD d s).2 0 with
      | true =>
        simp only [cond_true]
        rw [req_of _ (decide_eq_true (by simp only [List.length_cons, List.length_nil]; omega))]
      | false =>
        simp only [cond_false]
        rw [req_of _ (decide_eq_true (by simp only [List.length_cons, List.length_nil]; omega))])]
    exact spec_playLoop l hl hs Q d0 c0 kk hk B (A ++ [s]) z (doD d s).1 (cs ++ [(doD d s).2]) (by simp [← h]) (doD_good hg s) (by simp [hc]) hp

theorem f_spec_PlayDiskVal (room : Int) (l : List DDiskStep) (hl0 : l.length ≤ 9223372036854775807) (hs : StepsOk l) : f_spec_PlayDisk (room, (l, ())) = some (((playD room l).1, ((playD room l).2.1, ((playD room l).2.2, ()))), ()) := by
  refine Does.is ?_
  unfold f_spec_PlayDisk f_spec_NewDisk
  dsimp only
  rw [val_f_spec_l1In, bnd_some]
  unfold playD
  dsimp only
  cases hr : inR room 0 100000 with
  | false => exact Does.val rfl
  | true =>
    rw [Bool.not_true, cond_false, bnd_some]
    dsimp only
    rw [Bool.not_true, cond_false, Bool.true_and]
    cases hl : ile (llen l) 100 with
    | false =>
      rw [show ilt (100 : Int) (llen l) = true from ilt_iff.2 (by have := ile_false.1 hl; omega), cond_true]
      exact Does.val rfl
    | true =>
      have hl := ile_iff.1 hl
      rw [show ilt (100 : Int) (llen l) = false from ilt_false.2 hl, cond_false, cond_true]
      simp only [llen] at hl
      have hg := playL_good l _ [] (empty_good hr)
      refine spec_playLoop l (by omega) hs _ _ [] _ (fun z _ => ?_) l [] _ _ [] rfl (empty_good hr) rfl rfl
      dsimp only
      rw [f_spec_l1OwnVal _ hg.1.lens, bnd_some]
      exact Does.val rfl

end Go.Proofs.YthlnjkcpdkjipaaDoor
