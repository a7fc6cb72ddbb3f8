/- FnDisk over typed functions. -/
import Derived.Test.YthlnjkcpdkjipaaDoorY2Base
set_option linter.all false
noncomputable section
namespace Go.Proofs.YthlnjkcpdkjipaaDoor
open Go Go.Proofs.YthlnjkcpdkjipaaDoor.Ev

theorem true_f_laws_FnDisk (code more : List Int) (hb1 : ∀ b ∈ code, 0 ≤ b ∧ b < 256) (hb2 : ∀ b ∈ more, 0 ≤ b ∧ b < 256) (hcl : more.length ≤ 9223372036854775807) : f_laws_FnDisk (code, (more, ())) = some ((true, ()), ()) := by
  refine Does.is ?_
  unfold f_laws_FnDisk
  dsimp only
  refine Does.cond (fun _ => Does.val rfl) (fun hsz => ?_)
  refine Does.bnd (drawDoDiskD code hb1) fun r1 h1 => ?_
  obtain ⟨hd, hs⟩ := h1
  generalize hdd : r1.1.1 = d at hd ⊢
  generalize hss : r1.1.2.1 = s at hs ⊢
  rw [f_impl_DoDiskVal hd hs.ok, bnd_some, f_spec_DoDiskVal hd hs.ok, bnd_some]
  dsimp only
  rw [show ieq (doD d s).2 (doD d s).2 = true from ieq_iff.2 rfl, Bool.not_true, cond_false, f_spec_GoodDiskVal d hd, bnd_some]
  cases hg : goodB d with
  | false =>
    rw [Bool.not_false, cond_true, doD_bad hg]
    exact Does.val rfl
  | true =>
    have h := goodB_iff.1 hg
    rw [Bool.not_true, cond_false]
    have hx := doD_good h s
    generalize (doD d s).1 = x at hx ⊢
    rw [f_impl_GoodDiskVal x hx.lens, bnd_some, goodB_iff.2 hx, Bool.not_true, cond_false]
    refine Does.bnd (numberOfD hb2 hcl) fun r6 h6 => ?_
    have hrm := irem_range (a := r6.1.1) (m := 9) h6.1 (by decide)
    generalize irem .i64 r6.1.1 9 = keep at hrm ⊢
    obtain ⟨hk0, hk1, _⟩ := hrm
    rw [f_impl_DoDiskVal hx.lens (crashS_ok keep), bnd_some, doD_crash hx hk0 (by omega)]
    have hy := crash_good hx hk0
    dsimp only
    rw [show ieq (0 : Int) 0 = true from rfl, Bool.not_true, cond_false, f_impl_NamesOfVal hy, bnd_some]
    dsimp only
    rw [Bool.not_true, cond_false, show ieq (llen (x.2.2.1.map (·.1))) (llen x.2.2.1) = true from ieq_iff.2 (by simp [llen]), Bool.not_true, cond_false]
    refine Does.loop (c := f_laws_FnDisk_l19c) (v := f_laws_FnDisk_l19v) (ex := f_laws_FnDisk_l19e)
      (fun (xc : (Int × Unit) × (DDisk × DDisk × Unit)) (xv : (Int × Unit) × Unit) => xc = ((llen x.2.2.1, ()), (x, (crashD x keep, ()))) ∧ ∃ j : Nat, xv = (((j : Int), ()), ()) ∧ j ≤ x.2.2.1.length)
      (fun _ (xv : (Int × Unit) × Unit) => x.2.2.1.length - Int.toNat xv.1.1) ?_ ⟨rfl, 0, rfl, by omega⟩
    rintro xc xv ⟨rfl, j, rfl, hj⟩
    simp only [round, f_laws_FnDisk_l19]
    refine Does.cond (fun hlt => ?_) (fun hlt => Does.val (Does.val rfl))
    have hlt := ilt_iff.1 hlt
    simp only [llen] at hlt
    have hl2 := hx.len2
    refine Does.getO (by omega) (by omega) fun n hn => ?_
    rw [hn, bnd_some]
    have hmem : n ∈ x.2.2.1 := List.mem_of_getElem? hn
    obtain ⟨b, hb⟩ := hx.blob2 hmem
    have hrg := NamesOk.rng hx.2.2.2.1 hx.2.1 n hmem
    have hbr := inR_iff.1 (hx.1 _ b hb).2
    have hkr := keptI_rng hk0 hbr.1
    have hcb : (crashD x keep).1[n.2.1.toNat]? = some (crashB keep b) := by
      show (x.1.map (crashB keep))[n.2.1.toNat]? = _
      rw [List.getElem?_map, hb]; rfl
    have hcl2 := crashB_len hk0 hbr.1
    have hle : b.2.1 ≤ keptI keep b := by
      unfold keptI
      cases hlt : ilt (b.2.1 + keep) (slen b.1) with
      | true => rw [cond_true]; omega
      | false => rw [cond_false]; exact hbr.2
    rw [safeFile_has hx hmem hb, bnd_some, readFile_has (d := crashD x keep) hy hmem hcb, bnd_some, getO_at hrg.1 hb, hb, bnd_some, bnd_some]
    dsimp only
    have e1 : slen (b.1.extract 0 b.2.1.toNat) = b.2.1 := extract_size _ hbr.1 hbr.2
    rw [Bool.not_true, cond_false, cond_false, e1, hcl2, show ilt (keptI keep b) b.2.1 = false from ilt_false.2 hle, cond_false, req_of, show (crashB keep b).1.extract 0 b.2.1.toNat = b.1.extract 0 b.2.1.toNat from extract_extract _ (by omega), seq_self, Bool.not_true, cond_false,
      show ilt (slen b.1) (keptI keep b) = false from ilt_false.2 hkr.2, cond_false, req_of, show b.1.extract 0 (keptI keep b).toNat = (crashB keep b).1 from rfl, seq_self, Bool.not_true, cond_false,
      safeFile_has (d := crashD x keep) hy hmem hcb, bnd_some]
    · dsimp only
      rw [Bool.not_true, cond_false, show (crashB keep b).1.extract 0 (crashB keep b).2.1.toNat = (crashB keep b).1 from extract_extract _ (Nat.le_refl _), seq_self, Bool.not_true, cond_false, iadd_i64 (by omega)]
      exact Does.val ⟨⟨rfl, j + 1, rfl, by omega⟩, by dsimp only; omega⟩
    · simp only [slen] at hkr
      rw [Bool.and_eq_true]
      exact ⟨decide_eq_true hkr.1, decide_eq_true hkr.2⟩
    · simp only [slen] at hcl2
      rw [Bool.and_eq_true]
      exact ⟨decide_eq_true hbr.1, decide_eq_true (by omega)⟩

end Go.Proofs.YthlnjkcpdkjipaaDoor
