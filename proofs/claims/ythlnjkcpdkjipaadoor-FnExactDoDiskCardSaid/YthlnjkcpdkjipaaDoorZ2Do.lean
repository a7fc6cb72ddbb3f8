/- FnExactDoDisk over typed functions. -/
import Derived.Test.YthlnjkcpdkjipaaDoorZ1Mark
import Derived.Test.YthlnjkcpdkjipaaDoorX6Do
set_option linter.all false
noncomputable section
namespace Go.Proofs.YthlnjkcpdkjipaaDoor
open Go Go.Proofs.YthlnjkcpdkjipaaDoor.Ev

theorem eqDisk_same (s : DDisk) (h0 : s.1.length ≤ 1048576) (h1 : s.2.1.length ≤ 1048576) (h2 : s.2.2.1.length ≤ 1048576) : f_laws_eqDisk (s, (s, ())) = some ((true, ()), ()) := by
  unfold f_laws_eqDisk
  dsimp only
  rw [f_laws_eqBlobSSame _ rfl (by dsimp only; omega), bnd_some]
  simp only [Bool.not_true, cond_false]
  rw [f_laws_eqNameSSame _ rfl (by dsimp only; omega), bnd_some]
  simp only [Bool.not_true, cond_false]
  rw [f_laws_eqNameSSame _ rfl (by dsimp only; omega), bnd_some]
  simp only [Bool.not_true, cond_false]
  rw [ieq_iff.2 rfl]
  rfl

/-- marks written into a disk and found there again -/
theorem markDisk_val (d : DDisk) (h0 : d.1.length ≤ 1048576) (h1 : d.2.1.length ≤ 1048576) (h2 : d.2.2.1.length ≤ 1048576) : ∃ d' : DDisk, f_laws_markDisk (d, (1, ())) = some ((1 + 2 * (d.1.length : Int) + 2 * (d.2.1.length : Int) + 2 * (d.2.2.1.length : Int), ()), (d', ())) ∧
    f_laws_heldDisk (d', (1, ())) = some ((1 + 2 * (d.1.length : Int) + 2 * (d.2.1.length : Int) + 2 * (d.2.2.1.length : Int), ()), ()) := by
  refine ⟨(markBlobL 1 d.1.length, (markNameL (1 + 2 * (d.1.length : Int)) d.2.1.length, (markNameL (1 + 2 * (d.1.length : Int) + 2 * (d.2.1.length : Int)) d.2.2.1.length, d.2.2.2))), ?_, ?_⟩
  · unfold f_laws_markDisk
    dsimp only
    rw [f_laws_markBlobSVal _ (by dsimp only; omega) (by dsimp only; omega)]
    simp only [bnd_some]
    rw [f_laws_markNameSVal _ (by dsimp only; omega) (by dsimp only; omega)]
    simp only [bnd_some]
    rw [f_laws_markNameSVal _ (by dsimp only; omega) (by dsimp only; omega)]
    simp only [bnd_some]
  · unfold f_laws_heldDisk
    dsimp only
    rw [f_laws_heldBlobSVal 1 d.1.length (by decide) (by omega), bnd_some]
    dsimp only
    rw [ilt_false.2 (by omega), cond_false, f_laws_heldNameSVal _ d.2.1.length (by omega) (by omega), bnd_some]
    dsimp only
    rw [ilt_false.2 (by omega), cond_false, f_laws_heldNameSVal _ d.2.2.1.length (by omega) (by omega), bnd_some]
    dsimp only
    rw [ilt_false.2 (by omega), cond_false]


theorem szBlob_does (y : DBlob) (left : Int) (h0 : 0 ≤ left) (h1 : left ≤ 1048576) (hy : y.1.size ≤ 9223372036854775807) : Does (f_laws_szBlob (y, (left, ()))) fun r => r.1.1 ≤ 1048576 := by
  unfold f_laws_szBlob
  dsimp only
  refine Does.cond (fun _ => Does.val (by decide)) fun _ => Does.val ?_
  dsimp only
  rw [isub_i64 (by simp only [slen]; omega)]
  simp only [slen]; omega
theorem szBlobS_does (x : List DBlob) (left : Int) (h0 : 0 ≤ left) (h1 : left ≤ 1048576) (h : x.length ≤ 9223372036854775807) (hz : SizesOk x) : Does (f_laws_szBlobS (x, (left, ()))) fun r => r.1.1 < 0 ∨ (x.length ≤ 1048576 ∧ r.1.1 ≤ 1048576) := by
  unfold f_laws_szBlobS
  dsimp only
  refine Does.cond (fun _ => Does.val (.inl (by decide))) fun hc => ?_
  rw [isub_i64 (by simp only [llen]; omega)] at hc ⊢
  have hc := ilt_false.1 hc
  simp only [llen] at hc ⊢
  have hl : x.length ≤ 1048576 := by omega
  refine Does.loop (c := f_laws_szBlobS_l5c) (v := f_laws_szBlobS_l5v) (ex := f_laws_szBlobS_l5e) (I := fun c v => c = ((x, ()), ()) ∧ (0 : Int) ≤ v.1.2.1 ∧ (v.1.2.1 : Int) ≤ (x.length : Int) ∧ (0 : Int) ≤ v.1.1 ∧ (v.1.1 : Int) ≤ 1048576) (μ := fun _ v => ((x.length : Int) - v.1.2.1).toNat) (fun c v hI => ?_) ⟨rfl, Int.le_refl _, by show (0 : Int) ≤ _; omega, by show (0 : Int) ≤ _; omega, by show left - _ ≤ (1048576 : Int); omega⟩
  obtain ⟨⟨lf, i, ⟨⟩⟩, ⟨⟩⟩ := v
  obtain ⟨rfl, g0, g1, g2, g3⟩ := hI
  have g0 : (0 : Int) ≤ (i : Int) := g0
  have g1 : (i : Int) ≤ (x.length : Int) := g1
  have g2 : (0 : Int) ≤ (lf : Int) := g2
  have g3 : (lf : Int) ≤ 1048576 := g3
  simp only [round, f_laws_szBlobS_l5]
  refine Does.cond (fun hlt => ?_) fun _ => Does.val (Does.val (.inr ⟨hl, g3⟩))
  have hlt : (i : Int) < (x.length : Int) := ilt_iff.1 hlt
  refine Does.getO g0 hlt fun y hy => Does.bnd (szBlob_does y lf g2 g3 (hz y (List.mem_of_getElem? hy))) fun r hr => Does.cond (fun _ => Does.val (Does.val (.inl (by decide)))) fun hn => Does.val ?_
  have hn := ilt_false.1 hn
  obtain ⟨_, p1, p2, p3⟩ := cnt_step (i := i) (n := (x.length : Int)) g0 hlt (by omega)
  exact ⟨⟨rfl, p1, p2, hn, hr⟩, p3⟩

theorem toBlobSLoop {R : Type} (l : List DBlob) (hl : l.length ≤ 1048576) (z : DBlob) (kk : (((List DBlob) × Unit) × Unit) → (Unit × ((List DBlob) × Unit)) → Option R) : ∀ (B A : List DBlob), A ++ B = l →
    loopF (c := f_laws_toBlobS_l3c) (v := f_laws_toBlobS_l3v) (ex := f_laws_toBlobS_l3e) f_laws_toBlobS_l3 R ((l, ()), ()) ((((A.length : Nat) : Int), ()), (A ++ List.replicate B.length z, ())) kk = kk ((l, ()), ()) ((), (l, ()))
  | [], A, h => by
    subst h
    rw [loopF_done (c' := ((A ++ [], ()), ())) (o := ((), (A ++ [], ()))) (by simp only [round, f_laws_toBlobS_l3, mid_end, cond_false, List.length_nil, List.replicate])]
  | y :: B, A, h => by
    have hA : A.length + 1 ≤ l.length := by rw [← h]; simp
    rw [loopF_more (c' := ((l, ()), ())) (v' := (((((A ++ [y]).length : Nat) : Int), ()), ((A ++ [y]) ++ List.replicate B.length z, ()))) (by
      rw [← h]
      simp only [round, f_laws_toBlobS_l3, mid_lt, cond_true, mid_getO, List.length_cons, List.replicate, f_laws_toBlob, bnd_some, Int.toNat_natCast, mid_get, mid_set]
      rw [mid_next A y (by omega), ← mid_app])]
    exact toBlobSLoop l hl z kk B (A ++ [y]) (by simp [← h])
theorem toBlobSVal (l : List DBlob) (hl : l.length ≤ 1048576) : f_laws_toBlobS (l, ()) = some ((l, ()), ()) := by
  unfold f_laws_toBlobS
  dsimp only
  have hb : (decide ((llen l) = (llen l)) && (decide ((0 : Int) ≤ (llen l)) && decide ((llen l) ≤ (68719476736 : Int)))) = true := by
    have h1 : (0 : Int) ≤ llen l := by simp only [llen]; omega
    have h2 : llen l ≤ (68719476736 : Int) := by simp only [llen]; omega
    simp only [h1, h2, decide_true, Bool.and_true]
  rw [hb, req_true, show Int.toNat (llen l) = l.length by simp [llen]]
  exact toBlobSLoop l hl _ (fun c5 o6 => (some ((o6.2.1, ()), ()))) l [] rfl

theorem szName_does (y : DBlob) (left : Int) (h0 : 0 ≤ left) (h1 : left ≤ 1048576) (hy : y.1.size ≤ 9223372036854775807) : Does (f_laws_szName (y, (left, ()))) fun r => r.1.1 ≤ 1048576 := by
  unfold f_laws_szName
  dsimp only
  refine Does.cond (fun _ => Does.val (by decide)) fun _ => Does.val ?_
  dsimp only
  rw [isub_i64 (by simp only [slen]; omega)]
  simp only [slen]; omega
theorem szNameS_does (x : List DBlob) (left : Int) (h0 : 0 ≤ left) (h1 : left ≤ 1048576) (h : x.length ≤ 9223372036854775807) (hz : SizesOk x) : Does (f_laws_szNameS (x, (left, ()))) fun r => r.1.1 < 0 ∨ (x.length ≤ 1048576 ∧ r.1.1 ≤ 1048576) := by
  unfold f_laws_szNameS
  dsimp only
  refine Does.cond (fun _ => Does.val (.inl (by decide))) fun hc => ?_
  rw [isub_i64 (by simp only [llen]; omega)] at hc ⊢
  have hc := ilt_false.1 hc
  simp only [llen] at hc ⊢
  have hl : x.length ≤ 1048576 := by omega
  refine Does.loop (c := f_laws_szNameS_l5c) (v := f_laws_szNameS_l5v) (ex := f_laws_szNameS_l5e) (I := fun c v => c = ((x, ()), ()) ∧ (0 : Int) ≤ v.1.2.1 ∧ (v.1.2.1 : Int) ≤ (x.length : Int) ∧ (0 : Int) ≤ v.1.1 ∧ (v.1.1 : Int) ≤ 1048576) (μ := fun _ v => ((x.length : Int) - v.1.2.1).toNat) (fun c v hI => ?_) ⟨rfl, Int.le_refl _, by show (0 : Int) ≤ _; omega, by show (0 : Int) ≤ _; omega, by show left - _ ≤ (1048576 : Int); omega⟩
  obtain ⟨⟨lf, i, ⟨⟩⟩, ⟨⟩⟩ := v
  obtain ⟨rfl, g0, g1, g2, g3⟩ := hI
  have g0 : (0 : Int) ≤ (i : Int) := g0
  have g1 : (i : Int) ≤ (x.length : Int) := g1
  have g2 : (0 : Int) ≤ (lf : Int) := g2
  have g3 : (lf : Int) ≤ 1048576 := g3
  simp only [round, f_laws_szNameS_l5]
  refine Does.cond (fun hlt => ?_) fun _ => Does.val (Does.val (.inr ⟨hl, g3⟩))
  have hlt : (i : Int) < (x.length : Int) := ilt_iff.1 hlt
  refine Does.getO g0 hlt fun y hy => Does.bnd (szName_does y lf g2 g3 (hz y (List.mem_of_getElem? hy))) fun r hr => Does.cond (fun _ => Does.val (Does.val (.inl (by decide)))) fun hn => Does.val ?_
  have hn := ilt_false.1 hn
  obtain ⟨_, p1, p2, p3⟩ := cnt_step (i := i) (n := (x.length : Int)) g0 hlt (by omega)
  exact ⟨⟨rfl, p1, p2, hn, hr⟩, p3⟩

theorem toNameSLoop {R : Type} (l : List DBlob) (hl : l.length ≤ 1048576) (z : DBlob) (kk : (((List DBlob) × Unit) × Unit) → (Unit × ((List DBlob) × Unit)) → Option R) : ∀ (B A : List DBlob), A ++ B = l →
    loopF (c := f_laws_toNameS_l3c) (v := f_laws_toNameS_l3v) (ex := f_laws_toNameS_l3e) f_laws_toNameS_l3 R ((l, ()), ()) ((((A.length : Nat) : Int), ()), (A ++ List.replicate B.length z, ())) kk = kk ((l, ()), ()) ((), (l, ()))
  | [], A, h => by
    subst h
    rw [loopF_done (c' := ((A ++ [], ()), ())) (o := ((), (A ++ [], ()))) (by simp only [round, f_laws_toNameS_l3, mid_end, cond_false, List.length_nil, List.replicate])]
  | y :: B, A, h => by
    have hA : A.length + 1 ≤ l.length := by rw [← h]; simp
    rw [loopF_more (c' := ((l, ()), ())) (v' := (((((A ++ [y]).length : Nat) : Int), ()), ((A ++ [y]) ++ List.replicate B.length z, ()))) (by
      rw [← h]
      simp only [round, f_laws_toNameS_l3, mid_lt, cond_true, mid_getO, List.length_cons, List.replicate, f_laws_toName, bnd_some, Int.toNat_natCast, mid_get, mid_set]
      rw [mid_next A y (by omega), ← mid_app])]
    exact toNameSLoop l hl z kk B (A ++ [y]) (by simp [← h])
theorem toNameSVal (l : List DBlob) (hl : l.length ≤ 1048576) : f_laws_toNameS (l, ()) = some ((l, ()), ()) := by
  unfold f_laws_toNameS
  dsimp only
  have hb : (decide ((llen l) = (llen l)) && (decide ((0 : Int) ≤ (llen l)) && decide ((llen l) ≤ (68719476736 : Int)))) = true := by
    have h1 : (0 : Int) ≤ llen l := by simp only [llen]; omega
    have h2 : llen l ≤ (68719476736 : Int) := by simp only [llen]; omega
    simp only [h1, h2, decide_true, Bool.and_true]
  rw [hb, req_true, show Int.toNat (llen l) = l.length by simp [llen]]
  exact toNameSLoop l hl _ (fun c5 o6 => (some ((o6.2.1, ()), ()))) l [] rfl

theorem szDisk_does (d : DDisk) (h0 : d.1.length ≤ 9223372036854775807) (h1 : d.2.1.length ≤ 9223372036854775807) (h2 : d.2.2.1.length ≤ 9223372036854775807) (hz0 : SizesOk d.1) (hz1 : SizesOk d.2.1) (hz2 : SizesOk d.2.2.1) :
    Does (f_laws_szDisk (d, (1048576, ()))) fun r => r.1.1 < 0 ∨ (d.1.length ≤ 1048576 ∧ d.2.1.length ≤ 1048576 ∧ d.2.2.1.length ≤ 1048576) := by
  unfold f_laws_szDisk
  dsimp only
  refine Does.bnd (szBlobS_does d.1 1048576 (by decide) (by decide) h0 hz0) fun r1 g1 => Does.cond (fun _ => Does.val (.inl (by decide))) fun c1 => ?_
  have c1 := ilt_false.1 c1
  have g1 := g1.resolve_left (by omega)
  refine Does.bnd (szNameS_does d.2.1 _ c1 g1.2 h1 hz1) fun r2 g2 => Does.cond (fun _ => Does.val (.inl (by decide))) fun c2 => ?_
  have c2 := ilt_false.1 c2
  have g2 := g2.resolve_left (by omega)
  refine Does.bnd (szNameS_does d.2.2.1 _ c2 g2.2 h2 hz2) fun r3 g3 => Does.cond (fun _ => Does.val (.inl (by decide))) fun c3 => ?_
  have c3 := ilt_false.1 c3
  have g3 := g3.resolve_left (by omega)
  exact Does.val (.inr ⟨g1.1, g2.1, g3.1⟩)

theorem szDiskStep_does (x : DDiskStep × Int × Unit) : Does (f_laws_szDiskStep x) fun _ => True := by
  unfold f_laws_szDiskStep
  exact Does.cond (fun _ => Does.val trivial) fun _ => Does.cond (fun _ => Does.val trivial) fun _ => Does.cond (fun _ => Does.val trivial) fun _ => Does.val trivial

theorem toDiskVal (d : DDisk) (h0 : d.1.length ≤ 1048576) (h1 : d.2.1.length ≤ 1048576) (h2 : d.2.2.1.length ≤ 1048576) : f_laws_toDisk (d, ()) = some ((d, ()), ()) := by
  unfold f_laws_toDisk
  dsimp only
  rw [toBlobSVal _ h0, bnd_some, toNameSVal _ h1, bnd_some, toNameSVal _ h2, bnd_some]

theorem doD_len {d : DDisk} {s : DDiskStep} : (doD d s).1.1.length ≤ 1048576 ∧ (doD d s).1.2.1.length ≤ 1048576 ∧ (doD d s).1.2.2.1.length ≤ 1048576 := by
  unfold doD
  cases hg : goodB d with
  | false => exact ⟨by simp, by simp, by simp⟩
  | true =>
    have h := goodB_iff.1 hg
    have key : ∀ {x : DDisk}, GoodD x → x.1.length ≤ 1048576 ∧ x.2.1.length ≤ 1048576 ∧ x.2.2.1.length ≤ 1048576 := fun {x} hx => ⟨by have := hx.2.1; omega, by have := hx.2.2.1.2; omega, by have := hx.2.2.2.1.2; omega⟩
    rw [cond_true]
    cases hc : ieq (resD d s).2 0 with
    | false => exact key h
    | true =>
      rw [cond_true]
      unfold resD at hc ⊢
      cases hf : ieq (faultD d s) 0 with
      | false => exact key h
      | true =>
        rw [hf, cond_true] at hc
        rw [cond_true]
        cases hg2 : goodB (stepD d s) with
        | false => rw [hg2] at hc; cases hc
        | true => exact key (goodB_iff.1 hg2)

theorem true_f_laws_FnExactDoDisk (d : DDisk) (s : DDiskStep) (h0 : d.1.length ≤ 9223372036854775807) (h1 : d.2.1.length ≤ 9223372036854775807) (h2 : d.2.2.1.length ≤ 9223372036854775807) (hz0 : SizesOk d.1) (hz1 : SizesOk d.2.1) (hz2 : SizesOk d.2.2.1) (hs : StepOk s) :
    f_laws_FnExactDoDisk (d, (s, ())) = some ((true, ()), ()) := by
  refine Does.is ?_
  unfold f_laws_FnExactDoDisk
  dsimp only
  refine Does.bnd (szDisk_does d h0 h1 h2 hz0 hz1 hz2) fun r1 hr => Does.cond (fun _ => Does.val rfl) fun hc => ?_
  obtain ⟨g0, g1, g2⟩ := hr.resolve_left (by have := ilt_false.1 hc; omega)
  refine Does.bnd (szDiskStep_does _) fun r2 _ => Does.cond (fun _ => Does.val rfl) fun _ => ?_
  have hd : LenOk d := ⟨by omega, by omega, by omega, hz1, hz2⟩
  have hts : f_laws_toDiskStep (s, ()) = some ((s, ()), ()) := rfl
  rw [toDiskVal d g0 g1 g2, hts]
  simp only [bnd_some]
  rw [f_spec_DoDiskVal hd hs, f_impl_DoDiskVal hd hs]
  simp only [bnd_some]
  obtain ⟨a0, a1, a2⟩ := doD_len (d := d) (s := s)
  generalize doD d s = a at a0 a1 a2
  obtain ⟨y, code⟩ := a
  simp only at a0 a1 a2
  rw [eqDisk_same y a0 a1 a2, eqDisk_same d g0 g1 g2]
  simp only [bnd_some, Bool.not_true, cond_false, ieq_iff.2 rfl]
  obtain ⟨d', m1, m2⟩ := markDisk_val d g0 g1 g2
  rw [m1]
  simp only [bnd_some]
  rw [ilt_false.2 (by omega), cond_false]
  obtain ⟨y', n1, n2⟩ := markDisk_val y a0 a1 a2
  rw [n1]
  simp only [bnd_some]
  rw [n2]
  simp only [bnd_some]
  rw [ilt_false.2 (by omega), cond_false, ieq_iff.2 rfl]
  exact Does.val rfl

end Go.Proofs.YthlnjkcpdkjipaaDoor
