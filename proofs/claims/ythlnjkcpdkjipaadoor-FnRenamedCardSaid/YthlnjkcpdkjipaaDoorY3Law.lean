/- FnRenamed over typed functions. -/
import Derived.Test.YthlnjkcpdkjipaaDoorY2Base
set_option linter.all false
noncomputable section
namespace Go.Proofs.YthlnjkcpdkjipaaDoor
open Go Go.Proofs.YthlnjkcpdkjipaaDoor.Ev

theorem sameTexts_self (l : List ByteArray) (hl : l.length ≤ 4611686018427387904) : f_laws_sameTexts (l, (l, ())) = some ((true, ()), ()) := by
  refine Does.is ?_
  unfold f_laws_sameTexts
  dsimp only
  rw [show ieq (llen l) (llen l) = true from ieq_iff.2 rfl, Bool.not_true, cond_false]
  refine Does.loop (c := f_laws_sameTexts_l4c) (v := f_laws_sameTexts_l4v) (ex := f_laws_sameTexts_l4e)
    (fun (xc : (List ByteArray × List ByteArray × Int × Unit) × Unit) (xv : (Int × Unit) × Unit) => xc = ((l, (l, (llen l, ()))), ()) ∧ ∃ j : Nat, xv = (((j : Int), ()), ()) ∧ j ≤ l.length)
    (fun _ (xv : (Int × Unit) × Unit) => l.length - Int.toNat xv.1.1) ?_ ⟨rfl, 0, rfl, by omega⟩
  rintro xc xv ⟨rfl, j, rfl, hj⟩
  simp only [round, f_laws_sameTexts_l4]
  refine Does.cond (fun hlt => ?_) (fun hlt => Does.val (Does.val rfl))
  have hlt := ilt_iff.1 hlt
  simp only [llen] at hlt
  refine Does.getO (by omega) (by omega) fun y hy => ?_
  rw [getO_at (by omega) hy, seq_self, Bool.not_true, cond_false, iadd_i64 (by omega)]
  exact Does.val ⟨⟨rfl, j + 1, rfl, by omega⟩, by dsimp only; omega⟩

abbrev newN : ByteArray := ⟨#[110, 101, 119]⟩
abbrev renS (n : ByteArray) : DDiskStep := (4, (n, (newN, ((⟨#[]⟩ : ByteArray), ((0 : Int), ())))))
abbrev namesS : DDiskStep := (7, ((⟨#[]⟩ : ByteArray), ((⟨#[]⟩ : ByteArray), ((⟨#[]⟩ : ByteArray), ((0 : Int), ())))))

/-- a step that succeeds -/
theorem doD_fine {d : DDisk} (h : GoodD d) {s : DDiskStep} (hc : ieq (doD d s).2 0 = true) : doD d s = (stepD d s, 0) ∧ GoodD (stepD d s) := by
  rw [doD_of h] at hc ⊢
  cases hr : ieq (resD d s).2 0 with
  | false => rw [hr, cond_false] at hc; rw [hr] at hc; cases hc
  | true =>
    rw [cond_true]
    unfold resD at hr ⊢
    cases hf : ieq (faultD d s) 0 with
    | false => rw [hf, cond_false] at hr; rw [hf] at hr; cases hr
    | true =>
      rw [hf, cond_true] at hr
      rw [cond_true]
      cases hg : goodB (stepD d s) with
      | false => rw [hg] at hr; cases hr
      | true => exact ⟨rfl, goodB_iff.1 hg⟩

theorem doD_names {d : DDisk} (h : GoodD d) : (doD d namesS).2 = 0 ∨ (doD d namesS).2 = 4 := by
  have hf : faultD d namesS = 0 := rfl
  rw [doD_of h]
  unfold resD
  rw [hf]
  cases goodB (stepD d namesS) with
  | false => exact .inr rfl
  | true => exact .inl rfl

theorem true_f_laws_FnRenamed (code more : List Int) (hb1 : ∀ b ∈ code, 0 ≤ b ∧ b < 256) (hb2 : ∀ b ∈ more, 0 ≤ b ∧ b < 256) (hcl : more.length ≤ 9223372036854775807) : f_laws_FnRenamed (code, (more, ())) = some ((true, ()), ()) := by
  refine Does.is ?_
  unfold f_laws_FnRenamed
  dsimp only
  refine Does.cond (fun _ => Does.val rfl) (fun hsz => ?_)
  refine Does.bnd (drawDoDiskD code hb1) fun r1 h1 => ?_
  obtain ⟨hd, hs⟩ := h1
  generalize hdd : r1.1.1 = d at hd ⊢
  generalize hss : r1.1.2.1 = s at hs ⊢
  have heq : ∀ x : Int, ieq x x = true := fun x => ieq_iff.2 rfl
  rw [f_spec_GoodDiskVal d hd, bnd_some, f_impl_DoDiskVal hd hs.ok, bnd_some, f_spec_DoDiskVal hd hs.ok, bnd_some]
  dsimp only
  rw [heq]
  cases hg : goodB d with
  | false => exact Does.val rfl
  | true =>
  have h := goodB_iff.1 hg
  rw [Bool.not_true, cond_false]
  refine Does.cond (fun _ => Does.val rfl) (fun hl0 => ?_)
  have hl0 := ieq_false.1 hl0
  have hl1 := h.len1
  simp only [llen] at hl0
  have hlp : 0 < d.2.1.length := by omega
  refine Does.bnd (numberOfD hb2 hcl) fun r7 h7 => ?_
  have hrm := irem_range (a := r7.1.1) (m := llen d.2.1) h7.1 (by simp only [llen]; omega)
  generalize irem .i64 r7.1.1 (llen d.2.1) = k at hrm ⊢
  obtain ⟨hk0, hk1, _⟩ := hrm
  simp only [llen] at hk1
  refine Does.req (by simp only [llen]; simp; intro h; rw [h] at hlp; simp at hlp) ?_
  refine Does.getO hk0 hk1 fun n hn => ?_
  rw [hn, bnd_some, bnd_some]
  have hmem : n ∈ d.2.1 := List.mem_of_getElem? hn
  obtain ⟨b, hb⟩ := h.blob1 hmem
  have hbr := inR_iff.1 (h.1 _ b hb).2
  have hnsz : n.1.size ≤ 12 := nameB_size (h.2.2.1.1 _ n hn).1
  have hso : StepOk (renS n.1) := ⟨by show n.1.size ≤ _; omega, by show newN.size ≤ _; decide⟩
  rw [readFile_has h hmem hb, bnd_some, f_impl_DoDiskVal hd hso, bnd_some, f_spec_DoDiskVal hd hso, bnd_some]
  dsimp only
  rw [Bool.not_true, cond_false, heq, Bool.not_true, cond_false]
  refine Does.cond (fun _ => Does.val rfl) (fun hc => ?_)
  have hc : ieq (doD d (renS n.1)).2 0 = true := by simpa using hc
  obtain ⟨hx1, hx⟩ := doD_fine h hc
  have hstep : stepD d (renS n.1) = (d.1, (putN (cutN d.2.1 n.1) (newN, (blobN d.2.1 n.1, ())), d.2.2)) := rfl
  rw [hx1]
  rw [hstep, blobN_of h.rise1 hmem] at hx ⊢
  have hr1 := cutN_rise h.rise1 n.1
  have hr2 := putN_rise hr1 (newN, (n.2.1, ()))
  have hnew : ((newN, (n.2.1, ())) : DBlob) ∈ putN (cutN d.2.1 n.1) (newN, (n.2.1, ())) := (putN_iff hr1).2 (.inl rfl)
  have hold : n.1 ≠ newN → hasN (putN (cutN d.2.1 n.1) (newN, (n.2.1, ()))) n.1 = false := fun hne => by
    cases hh : hasN (putN (cutN d.2.1 n.1) (newN, (n.2.1, ()))) n.1 with
    | false => rfl
    | true =>
      obtain ⟨y, hy1, hy2⟩ := (hasN_iff hr2).1 hh
      rcases (putN_iff hr1).1 hy1 with h3 | ⟨h3, h4⟩
      · exact absurd (by rw [← hy2, h3]) hne
      · exact absurd hy2 ((cutN_iff h.rise1).1 h3).2
  generalize hL : putN (cutN d.2.1 n.1) (newN, (n.2.1, ())) = L at hx hnew hold ⊢
  have hrd1 : f_impl_ReadFile ((d.1, (L, d.2.2)), (newN, ())) = some ((b.1, (true, ())), ()) := readFile_has (y := (newN, (n.2.1, ()))) hx hnew hb
  have hrd2 : ∃ t, f_impl_ReadFile ((d.1, (L, d.2.2)), (n.1, ())) = some ((t, (seq n.1 newN, ())), ()) := by
    by_cases hne : n.1 = newN
    · exact ⟨b.1, by rw [hne, hrd1, seq_self]⟩
    · refine ⟨⟨#[]⟩, ?_⟩
      rw [readFile_no hx (hold hne)]
      cases hq : seq n.1 newN with
      | false => rfl
      | true => exact absurd ((seq_iff _ _).1 hq) hne
  obtain ⟨t, hrd2⟩ := hrd2
  have hcx := crash_good hx (keep := 0) (by decide)
  have hcd := crash_good h (keep := 0) (by decide)
  rw [hrd1, bnd_some, hrd2, bnd_some, f_impl_DoDiskVal hx.lens (crashS_ok 0), bnd_some, f_impl_DoDiskVal hd (crashS_ok 0), bnd_some, doD_crash hx (by decide) (by decide), doD_crash h (by decide) (by decide)]
  dsimp only
  rw [f_impl_NamesOfVal hcx, bnd_some, bnd_some]
  dsimp only
  have hl2 := h.len2
  rw [Bool.not_true, cond_false, seq_self, Bool.not_true, cond_false, show ∀ b : Bool, beqB b b = true from fun b => by cases b <;> rfl, Bool.not_true, cond_false, show ieq (0 : Int) 0 = true from rfl, Bool.not_true, cond_false, cond_false, cond_false, cond_false,
    sameTexts_self _ (by simp; omega), bnd_some]
  dsimp only
  rw [Bool.not_true, cond_false, f_impl_DoDiskVal hx.lens (s := namesS) ⟨by decide, by decide⟩, bnd_some]
  dsimp only
  refine Does.cond (fun hc => ?_) (fun hc => ?_)
  · rcases doD_names hx with h4 | h4
    · rw [h4] at hc; cases hc
    · rw [h4]; exact Does.val rfl
  have hc : ieq (doD (d.1, (L, d.2.2)) namesS).2 0 = true := by simpa using hc
  obtain ⟨hy1, hy⟩ := doD_fine hx hc
  have hstep2 : stepD (d.1, (L, d.2.2)) namesS = (d.1, (L, (L, d.2.2.2))) := rfl
  rw [hy1]
  rw [hstep2] at hy ⊢
  have hcy := crash_good hy (keep := 0) (by decide)
  have hcb : (crashD (d.1, (L, (L, d.2.2.2))) 0).1[n.2.1.toNat]? = some (crashB 0 b) := by
    show (d.1.map (crashB 0))[n.2.1.toNat]? = _
    rw [List.getElem?_map, hb]; rfl
  have hkb : keptI 0 b = b.2.1 := by
    unfold keptI
    cases hlt : ilt (b.2.1 + 0) (slen b.1) with
    | true => rw [cond_true]; omega
    | false => have := ilt_false.1 hlt; rw [cond_false]; omega
  dsimp only
  rw [f_impl_DoDiskVal hy.lens (crashS_ok 0), bnd_some, doD_crash hy (by decide) (by decide)]
  dsimp only
  rw [show f_impl_SafeFile ((d.1, (L, (L, d.2.2.2))), (newN, ())) = some ((b.1.extract 0 b.2.1.toNat, (true, ())), ()) from safeFile_has (y := (newN, (n.2.1, ()))) hy hnew hb, bnd_some,
    show f_impl_ReadFile ((crashD (d.1, (L, (L, d.2.2.2))) 0), (newN, ())) = some (((crashB 0 b).1, (true, ())), ()) from readFile_has (y := (newN, (n.2.1, ()))) hcy hnew hcb, bnd_some]
  dsimp only
  rw [show ieq (0 : Int) 0 = true from rfl, cond_true, cond_true, cond_true, show (crashB 0 b).1 = b.1.extract 0 b.2.1.toNat by show b.1.extract 0 (keptI 0 b).toNat = _; rw [hkb], seq_self]
  exact Does.val rfl

end Go.Proofs.YthlnjkcpdkjipaaDoor
