/- Disks: steps in a row, on both sides; FnExactPlayDisk holds of what it is given. -/
import Derived.Test.YthlnjkcpdkjipaaDoorX6Step
import Derived.Test.YthlnjkcpdkjipaaDoorX7Mark
import Derived.Test.YthlnjkcpdkjipaaDoorX7MarkI
set_option linter.all false
noncomputable section
namespace Go.Proofs.YthlnjkcpdkjipaaDoor
open Go Go.Proofs.YthlnjkcpdkjipaaDoor.Ev

/-- steps in a row: the disk, the codes -/
def playL : List DDiskStep → DDisk → List Int → DDisk × List Int
  | [], d, cs => (d, cs)
  | s :: r, d, cs => playL r (doD d s).1 (cs ++ [(doD d s).2])
def playD (room : Int) (l : List DDiskStep) : DDisk × List Int × Bool :=
  cond (inR room 0 100000 && ile (llen l) 100) ((playL l (([] : List DBlob), (([] : List DBlob), (([] : List DBlob), (room, ())))) []).1, ((playL l (([] : List DBlob), (([] : List DBlob), (([] : List DBlob), (room, ())))) []).2, true)) (zeroD, ([], false))

abbrev StepsOk (l : List DDiskStep) : Prop := ∀ s ∈ l, StepOk s

theorem empty_good {room : Int} (h : inR room 0 100000 = true) : GoodD (([] : List DBlob), (([] : List DBlob), (([] : List DBlob), (room, ())))) := by
  have hr := inR_iff.1 h
  exact ⟨fun i x hx => by simp at hx, by simp, ⟨fun i x hx => by simp at hx, by simp⟩, ⟨fun i x hx => by simp at hx, by simp⟩, h, hr.1⟩
theorem doD_good {d : DDisk} (h : GoodD d) (s : DDiskStep) : GoodD (doD d s).1 := by
  unfold doD
  rw [goodB_iff.2 h, cond_true]
  cases hc : ieq (resD d s).2 0 with
  | false => exact h
  | true =>
    rw [cond_true]
    have hc := ieq_iff.1 hc
    unfold resD at hc ⊢
    cases hf : ieq (faultD d s) 0 with
    | false =>
      rw [hf, cond_false] at hc
      have := ieq_false.1 hf
      exact absurd hc this
    | true =>
      rw [hf, cond_true] at hc
      rw [cond_true]
      cases hg : goodB (stepD d s) with
      | true => exact goodB_iff.1 hg
      | false => rw [hg] at hc; cases hc
theorem playL_good : ∀ (l : List DDiskStep) (d : DDisk) (cs : List Int), GoodD d → GoodD (playL l d cs).1 ∧ (playL l d cs).2.length = cs.length + l.length
  | [], d, cs, h => ⟨h, rfl⟩
  | s :: r, d, cs, h => by
    have := playL_good r (doD d s).1 (cs ++ [(doD d s).2]) (doD_good h s)
    simp only [playL]
    refine ⟨this.1, ?_⟩
    rw [this.2]
    simp
    omega
/-- at a good disk a step that fails changes nothing -/
theorem doD_of {d : DDisk} (h : GoodD d) (s : DDiskStep) : doD d s = cond (ieq (resD d s).2 0) (resD d s) (d, (resD d s).2) := by
  unfold doD; rw [goodB_iff.2 h, cond_true]

theorem spec_playLoop {R : Type} (l : List DDiskStep) (hl : l.length ≤ 100) (hs : StepsOk l) (Q : R → Prop) (d0 : DDisk) (c0 : List Int) (kk : Vars f_spec_PlayDisk_l6c → Oc f_spec_PlayDisk_l6e → Option R)
    (hk : ∀ z z2 : DDisk, Does (kk ((), ()) ((), (z, ((playL l d0 c0).1, ((playL l d0 c0).2, ()))))) Q) : ∀ (B A : List DDiskStep) (z d : DDisk) (cs : List Int), A ++ B = l → GoodD d → cs.length = A.length → playL B d cs = playL l d0 c0 →
    Does (loopF (c := f_spec_PlayDisk_l6c) (v := f_spec_PlayDisk_l6v) (ex := f_spec_PlayDisk_l6e) f_spec_PlayDisk_l6 R ((), ()) ((l, (llen l, (((A.length : Nat) : Int), ()))), (z, (d, (cs, ())))) kk) Q
  | [], A, z, d, cs, h, hg, hc, hp => by
    rw [List.append_nil] at h
    subst h
    rw [loopF_done (c' := ((), ())) (o := ((), (z, (d, (cs, ()))))) (by
      simp only [round, f_spec_PlayDisk_l6]
      rw [show ilt ((A.length : Nat) : Int) (llen A) = false from ilt_false.2 (by simp only [llen]; omega), cond_false])]
    have := hk z z
    rw [← hp] at this
    exact this
  | s :: B, A, z, d, cs, h, hg, hc, hp => by
    have hA : A.length + 1 ≤ l.length := by rw [← h]; simp
    have hlt : ilt ((A.length : Nat) : Int) (llen l) = true := by rw [← h]; exact mid_lt A B s
    have hget : ∀ {R : Type} (k : DDiskStep → Option R), getO l ((A.length : Nat) : Int) k = k s := fun k => by rw [← h]; exact mid_getO A B s k
    have hss : StepOk s := hs s (by rw [← h]; simp)
    have hnx : iadd .i64 ((A.length : Nat) : Int) (1 : Int) = (((A ++ [s]).length : Nat) : Int) := mid_next A s (by omega)
    rw [loopF_more (c' := ((), ())) (v' := ((l, (llen l, ((((A ++ [s]).length : Nat) : Int), ()))), (z, ((doD d s).1, ((cs ++ [(doD d s).2]), ()))))) (by
      simp only [round, f_spec_PlayDisk_l6, hlt, cond_true, hget, f_spec_l1OwnVal d hg.lens, bnd_some, l1DoVal hg hss, f_spec_PlayDisk_i10, hnx]
      rw [doD_of hg]
      cases hcd : ieq (resD d s).2 0 with
      | true =>
        simp only [cond_true]
        rw [req_of _ (decide_eq_true (by simp only [List.length_cons, List.length_nil]; omega))]
      | false =>
        simp only [cond_false]
        rw [req_of _ (decide_eq_true (by simp only [List.length_cons, List.length_nil]; omega))])]
    exact spec_playLoop l hl hs Q d0 c0 kk hk B (A ++ [s]) z (doD d s).1 (cs ++ [(doD d s).2]) (by simp [← h]) (doD_good hg s) (by simp [hc]) hp

theorem f_spec_PlayDiskVal (room : Int) (l : List DDiskStep) (hl0 : l.length ≤ 9223372036854775807) (hs : StepsOk l) : f_spec_PlayDisk (room, (l, ())) = some (((playD room l).1, ((playD room l).2.1, ((playD room l).2.2, ()))), ()) := by
  refine Does.is ?_
  unfold f_spec_PlayDisk f_spec_NewDisk
  dsimp only
  rw [val_f_spec_l1In, bnd_some]
  unfold playD
  dsimp only
  cases hr : inR room 0 100000 with
  | false => exact Does.val rfl
  | true =>
    rw [Bool.not_true, cond_false, bnd_some]
    dsimp only
    rw [Bool.not_true, cond_false, Bool.true_and]
    cases hl : ile (llen l) 100 with
    | false =>
      rw [show ilt (100 : Int) (llen l) = true from ilt_iff.2 (by have := ile_false.1 hl; omega), cond_true]
      exact Does.val rfl
    | true =>
      have hl := ile_iff.1 hl
      rw [show ilt (100 : Int) (llen l) = false from ilt_false.2 hl, cond_false, cond_true]
      simp only [llen] at hl
      have hg := playL_good l _ [] (empty_good hr)
      refine spec_playLoop l (by omega) hs _ _ [] _ (fun z _ => ?_) l [] _ _ [] rfl (empty_good hr) rfl rfl
      dsimp only
      rw [f_spec_l1OwnVal _ hg.1.lens, bnd_some]
      exact Does.val rfl

theorem impl_playLoop {R : Type} (l : List DDiskStep) (hl : l.length ≤ 100) (hs : StepsOk l) (Q : R → Prop) (d0 z : DDisk) (c0 : List Int) (kk : Vars f_impl_PlayDisk_l6c → Oc f_impl_PlayDisk_l6e → Option R)
    (hk : Does (kk ((l, (llen l, ())), (z, ())) ((), ((playL l d0 c0).1, ((playL l d0 c0).2, ())))) Q) : ∀ (B A : List DDiskStep) (d : DDisk) (cs : List Int), A ++ B = l → GoodD d → cs.length = A.length → playL B d cs = playL l d0 c0 →
    Does (loopF (c := f_impl_PlayDisk_l6c) (v := f_impl_PlayDisk_l6v) (ex := f_impl_PlayDisk_l6e) f_impl_PlayDisk_l6 R ((l, (llen l, ())), (z, ())) ((((A.length : Nat) : Int), ()), (d, (cs, ()))) kk) Q
  | [], A, d, cs, h, hg, hc, hp => by
    rw [List.append_nil] at h
    subst h
    rw [loopF_done (c' := ((A, (llen A, ())), (z, ()))) (o := ((), (d, (cs, ())))) (by
      simp only [round, f_impl_PlayDisk_l6]
      rw [show ilt ((A.length : Nat) : Int) (llen A) = false from ilt_false.2 (by simp only [llen]; omega), cond_false])]
    rw [← hp] at hk
    exact hk
  | s :: B, A, d, cs, h, hg, hc, hp => by
    have hA : A.length + 1 ≤ l.length := by rw [← h]; simp
    have hlt : ilt ((A.length : Nat) : Int) (llen l) = true := by rw [← h]; exact mid_lt A B s
    have hget : ∀ {R : Type} (k : DDiskStep → Option R), getO l ((A.length : Nat) : Int) k = k s := fun k => by rw [← h]; exact mid_getO A B s k
    have hss : StepOk s := hs s (by rw [← h]; simp)
    have hnx : iadd .i64 ((A.length : Nat) : Int) (1 : Int) = (((A ++ [s]).length : Nat) : Int) := mid_next A s (by omega)
    rw [loopF_more (c' := ((l, (llen l, ())), (z, ()))) (v' := (((((A ++ [s]).length : Nat) : Int), ()), ((doD d s).1, ((cs ++ [(doD d s).2]), ())))) (by
      simp only [round, f_impl_PlayDisk_l6, hlt, cond_true, hget, f_impl_DoDiskVal hg.lens hss, bnd_some, hnx]
      rw [req_of _ (decide_eq_true (by simp only [List.length_cons, List.length_nil]; omega))])]
    exact impl_playLoop l hl hs Q d0 z c0 kk hk B (A ++ [s]) (doD d s).1 (cs ++ [(doD d s).2]) (by simp [← h]) (doD_good hg s) (by simp [hc]) hp

theorem f_impl_PlayDiskVal (room : Int) (l : List DDiskStep) (hl0 : l.length ≤ 9223372036854775807) (hs : StepsOk l) : f_impl_PlayDisk (room, (l, ())) = some (((playD room l).1, ((playD room l).2.1, ((playD room l).2.2, ()))), ()) := by
  refine Does.is ?_
  unfold f_impl_PlayDisk f_impl_NewDisk
  dsimp only
  rw [val_f_impl_in, bnd_some]
  unfold playD
  dsimp only
  cases hr : inR room 0 100000 with
  | false => exact Does.val rfl
  | true =>
    rw [Bool.not_true, cond_false, bnd_some]
    dsimp only
    rw [Bool.not_true, cond_false, Bool.true_and]
    cases hl : ile (llen l) 100 with
    | false =>
      rw [show ilt (100 : Int) (llen l) = true from ilt_iff.2 (by have := ile_false.1 hl; omega), cond_true]
      exact Does.val rfl
    | true =>
      have hl := ile_iff.1 hl
      rw [show ilt (100 : Int) (llen l) = false from ilt_false.2 hl, cond_false, cond_true]
      simp only [llen] at hl
      refine impl_playLoop l (by omega) hs _ _ _ [] _ ?_ l [] _ [] rfl (empty_good hr) rfl rfl
      exact Does.val rfl

/-! ### the law -/
theorem szDiskStep_does (x : DDiskStep × Int × Unit) : Does (f_laws_szDiskStep x) fun _ => True := by
  unfold f_laws_szDiskStep
  exact Does.cond (fun _ => Does.val trivial) fun _ => Does.cond (fun _ => Does.val trivial) fun _ => Does.cond (fun _ => Does.val trivial) fun _ => Does.val trivial

theorem szDiskStepS_does (x : List DDiskStep) (h : x.length ≤ 9223372036854775807) : Does (f_laws_szDiskStepS (x, (1048576, ()))) fun r => r.1.1 < 0 ∨ x.length ≤ 1048576 := by
  unfold f_laws_szDiskStepS
  dsimp only
  refine Does.cond (fun _ => Does.val (.inl (by decide))) fun hc => ?_
  rw [isub_i64 (by simp only [llen]; omega)] at hc ⊢
  have hc := ilt_false.1 hc
  simp only [llen] at hc
  have hl : x.length ≤ 1048576 := by omega
  refine Does.loop (c := f_laws_szDiskStepS_l5c) (v := f_laws_szDiskStepS_l5v) (ex := f_laws_szDiskStepS_l5e) (I := fun c v => c = ((x, ()), ()) ∧ (0 : Int) ≤ v.1.2.1 ∧ (v.1.2.1 : Int) ≤ (x.length : Int)) (μ := fun _ v => ((x.length : Int) - v.1.2.1).toNat) (fun c v hI => ?_) ⟨rfl, Int.le_refl _, by show (0 : Int) ≤ _; omega⟩
  obtain ⟨⟨left, i, ⟨⟩⟩, ⟨⟩⟩ := v
  obtain ⟨rfl, h0, h1⟩ := hI
  have h0 : (0 : Int) ≤ (i : Int) := h0
  have h1 : (i : Int) ≤ (x.length : Int) := h1
  simp only [round, f_laws_szDiskStepS_l5]
  refine Does.cond (fun hlt => ?_) fun _ => Does.val (Does.val (.inr hl))
  have hlt : (i : Int) < (x.length : Int) := ilt_iff.1 hlt
  refine Does.getO h0 hlt fun y _ => Does.bnd (szDiskStep_does _) fun r _ => Does.cond (fun _ => Does.val (Does.val (.inr hl))) fun _ => Does.val ?_
  obtain ⟨_, p1, p2, p3⟩ := cnt_step (i := i) (n := (x.length : Int)) h0 hlt (by omega)
  exact ⟨⟨rfl, p1, p2⟩, p3⟩

theorem f_laws_toDiskStepSLoop {R : Type} (l : List DDiskStep) (hl : l.length ≤ 1048576) (z : DDiskStep) (kk : (((List DDiskStep) × Unit) × Unit) → (Unit × ((List DDiskStep) × Unit)) → Option R) : ∀ (B A : List DDiskStep), A ++ B = l →
    loopF (c := f_laws_toDiskStepS_l3c) (v := f_laws_toDiskStepS_l3v) (ex := f_laws_toDiskStepS_l3e) f_laws_toDiskStepS_l3 R ((l, ()), ()) ((((A.length : Nat) : Int), ()), (A ++ List.replicate B.length z, ())) kk = kk ((l, ()), ()) ((), (l, ()))
  | [], A, h => by
    subst h
    rw [loopF_done (c' := ((A ++ [], ()), ())) (o := ((), (A ++ [], ()))) (by simp only [round, f_laws_toDiskStepS_l3, mid_end, cond_false, List.length_nil, List.replicate])]
  | y :: B, A, h => by
    have hA : A.length + 1 ≤ l.length := by rw [← h]; simp
    rw [loopF_more (c' := ((l, ()), ())) (v' := (((((A ++ [y]).length : Nat) : Int), ()), ((A ++ [y]) ++ List.replicate B.length z, ()))) (by
      rw [← h]
      simp only [round, f_laws_toDiskStepS_l3, mid_lt, cond_true, mid_getO, List.length_cons, List.replicate, f_laws_toDiskStep, bnd_some, Int.toNat_natCast, mid_get, mid_set]
      rw [mid_next A y (by omega), ← mid_app])]
    exact f_laws_toDiskStepSLoop l hl z kk B (A ++ [y]) (by simp [← h])

theorem f_laws_toDiskStepSVal (l : List DDiskStep) (hl : l.length ≤ 1048576) : f_laws_toDiskStepS (l, ()) = some ((l, ()), ()) := by
  unfold f_laws_toDiskStepS
  dsimp only
  have hb : (decide ((llen l) = (llen l)) && (decide ((0 : Int) ≤ (llen l)) && decide ((llen l) ≤ (68719476736 : Int)))) = true := by
    have h1 : (0 : Int) ≤ llen l := by simp only [llen]; omega
    have h2 : llen l ≤ (68719476736 : Int) := by simp only [llen]; omega
    simp only [h1, h2, decide_true, Bool.and_true]
  rw [hb, req_true, show Int.toNat (llen l) = l.length by simp [llen]]
  exact f_laws_toDiskStepSLoop l hl _ (fun c5 o6 => (some ((o6.2.1, ()), ()))) l [] rfl

theorem beqB_self (a : Bool) : beqB a a = true := by cases a <;> rfl

theorem eqDisk_same (s : DDisk) (h0 : s.1.length ≤ 1048576) (h1 : s.2.1.length ≤ 1048576) (h2 : s.2.2.1.length ≤ 1048576) : f_laws_eqDisk (s, (s, ())) = some ((true, ()), ()) := by
  unfold f_laws_eqDisk
  dsimp only
  rw [f_laws_eqBlobSSame _ rfl (by dsimp only; omega), bnd_some]
  simp only [Bool.not_true, cond_false]
  rw [f_laws_eqNameSSame _ rfl (by dsimp only; omega), bnd_some]
  simp only [Bool.not_true, cond_false]
  rw [f_laws_eqNameSSame _ rfl (by dsimp only; omega), bnd_some]
  simp only [Bool.not_true, cond_false]
  rw [ieq_iff.2 rfl]
  rfl

/-- marks written into a disk and found there again -/
theorem markDisk_val (d : DDisk) (h0 : d.1.length ≤ 1048576) (h1 : d.2.1.length ≤ 1048576) (h2 : d.2.2.1.length ≤ 1048576) : ∃ d' : DDisk, f_laws_markDisk (d, (1, ())) = some ((1 + 2 * (d.1.length : Int) + 2 * (d.2.1.length : Int) + 2 * (d.2.2.1.length : Int), ()), (d', ())) ∧
    f_laws_heldDisk (d', (1, ())) = some ((1 + 2 * (d.1.length : Int) + 2 * (d.2.1.length : Int) + 2 * (d.2.2.1.length : Int), ()), ()) := by
  refine ⟨(markBlobL 1 d.1.length, (markNameL (1 + 2 * (d.1.length : Int)) d.2.1.length, (markNameL (1 + 2 * (d.1.length : Int) + 2 * (d.2.1.length : Int)) d.2.2.1.length, d.2.2.2))), ?_, ?_⟩
  · unfold f_laws_markDisk
    dsimp only
    rw [f_laws_markBlobSVal _ (by dsimp only; omega) (by dsimp only; omega)]
    simp only [bnd_some]
    rw [f_laws_markNameSVal _ (by dsimp only; omega) (by dsimp only; omega)]
    simp only [bnd_some]
    rw [f_laws_markNameSVal _ (by dsimp only; omega) (by dsimp only; omega)]
    simp only [bnd_some]
  · unfold f_laws_heldDisk
    dsimp only
    rw [f_laws_heldBlobSVal 1 d.1.length (by decide) (by omega), bnd_some]
    dsimp only
    rw [ilt_false.2 (by omega), cond_false, f_laws_heldNameSVal _ d.2.1.length (by omega) (by omega), bnd_some]
    dsimp only
    rw [ilt_false.2 (by omega), cond_false, f_laws_heldNameSVal _ d.2.2.1.length (by omega) (by omega), bnd_some]
    dsimp only
    rw [ilt_false.2 (by omega), cond_false]

theorem playD_len (room : Int) (l : List DDiskStep) (hl : l.length ≤ 1048576) : (playD room l).1.1.length ≤ 1048576 ∧ (playD room l).1.2.1.length ≤ 1048576 ∧ (playD room l).1.2.2.1.length ≤ 1048576 ∧ (playD room l).2.1.length ≤ 1048576 := by
  unfold playD
  cases h : (inR room 0 100000 && ile (llen l) 100) with
  | false => exact ⟨by simp, by simp, by simp, by simp⟩
  | true =>
    rw [Bool.and_eq_true] at h
    have hg := playL_good l (([] : List DBlob), (([] : List DBlob), (([] : List DBlob), (room, ())))) [] (empty_good h.1)
    rw [cond_true]
    dsimp only
    have h1 := hg.1.2.1
    have h2 := hg.1.2.2.1.2
    have h3 := hg.1.2.2.2.1.2
    refine ⟨by omega, by omega, by omega, ?_⟩
    rw [hg.2]
    simp
    omega

theorem true_f_laws_FnExactPlayDisk (room : Int) (x : List DDiskStep) (h : x.length ≤ 9223372036854775807) (hs : StepsOk x) : f_laws_FnExactPlayDisk (room, (x, ())) = some ((true, ()), ()) := by
  refine Does.is ?_
  unfold f_laws_FnExactPlayDisk
  dsimp only
  refine Does.bnd (szDiskStepS_does x h) fun r1 hr => Does.cond (fun _ => Does.val rfl) fun hc => ?_
  have hl : x.length ≤ 1048576 := hr.resolve_left (by have := ilt_false.1 hc; omega)
  obtain ⟨a0, a1, a2, a3⟩ := playD_len room x hl
  rw [f_laws_toDiskStepSVal x hl]
  simp only [bnd_some]
  rw [f_spec_PlayDiskVal room x h hs, f_impl_PlayDiskVal room x h hs]
  simp only [bnd_some]
  generalize playD room x = a at a0 a1 a2 a3
  obtain ⟨d, cs, ok⟩ := a
  simp only at a0 a1 a2 a3
  rw [eqDisk_same d a0 a1 a2]
  simp only [bnd_some, Bool.not_true, cond_false]
  rw [f_laws_eqIntSSame _ rfl (by dsimp only; omega)]
  simp only [bnd_some, Bool.not_true, cond_false, beqB_self]
  rw [f_laws_eqDiskStepSSame _ rfl (by dsimp only; omega)]
  simp only [bnd_some, Bool.not_true, cond_false]
  rw [f_laws_markDiskStepSVal _ (by dsimp only; omega) (by dsimp only; omega)]
  simp only [bnd_some]
  rw [ilt_false.2 (by omega), cond_false]
  obtain ⟨d', m1, m2⟩ := markDisk_val d a0 a1 a2
  rw [m1]
  simp only [bnd_some]
  rw [f_laws_markIntSVal _ (by dsimp only; omega) (by dsimp only; omega)]
  simp only [bnd_some]
  rw [m2]
  simp only [bnd_some]
  rw [ilt_false.2 (by omega), cond_false, f_laws_heldIntSVal _ cs.length (by omega) (by omega)]
  simp only [bnd_some]
  rw [ilt_false.2 (by omega), cond_false, ieq_iff.2 rfl]
  exact Does.val rfl

end Go.Proofs.YthlnjkcpdkjipaaDoor
