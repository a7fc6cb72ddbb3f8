/- Disks: a step, on both sides. -/
import Derived.Test.YthlnjkcpdkjipaaDoorX4Ops
set_option linter.all false
set_option maxRecDepth 100000
noncomputable section
namespace Go.Proofs.YthlnjkcpdkjipaaDoor
open Go Go.Proofs.YthlnjkcpdkjipaaDoor.Ev

/-- the blob that a new name means -/
abbrev newBlob : DBlob := ((⟨#[]⟩ : ByteArray), ((0 : Int), ()))
def faultD (d : DDisk) (s : DDiskStep) : Int :=
  cond (!(inR s.1 1 8) || ((inR s.1 1 6 && !nameB s.2.1) || (((ieq s.1 4 || ieq s.1 5) && !nameB s.2.2.1) || (ilt 4000 (slen s.2.2.2.1) || (ieq s.1 8 && !inR s.2.2.2.2.1 0 4000))))) 1
  (cond (inR s.1 1 6 && (!ieq s.1 1 && !hasN d.2.1 s.2.1)) 2 (cond ((ieq s.1 1 && hasN d.2.1 s.2.1) || (ieq s.1 5 && hasN d.2.1 s.2.2.1)) 3 0))
def stepD (d : DDisk) (s : DDiskStep) : DDisk :=
  cond (ieq s.1 1) (d.1 ++ [newBlob], (putN d.2.1 (s.2.1, ((d.1.length : Int), ())), d.2.2))
  (cond (ieq s.1 2) (match d.1[(blobN d.2.1 s.2.1).toNat]? with | some x => (d.1.set (blobN d.2.1 s.2.1).toNat (x.1 ++ s.2.2.2.1, x.2), d.2) | none => d)
  (cond (ieq s.1 3) (match d.1[(blobN d.2.1 s.2.1).toNat]? with | some x => (d.1.set (blobN d.2.1 s.2.1).toNat (x.1, (slen x.1, ())), d.2) | none => d)
  (cond (ieq s.1 4) (d.1, (putN (cutN d.2.1 s.2.1) (s.2.2.1, (blobN d.2.1 s.2.1, ())), d.2.2))
  (cond (ieq s.1 5) (d.1, (putN d.2.1 (s.2.2.1, (blobN d.2.1 s.2.1, ())), d.2.2))
  (cond (ieq s.1 6) (d.1, (cutN d.2.1 s.2.1, d.2.2))
  (cond (ieq s.1 7) (d.1, (d.2.1, (d.2.1, d.2.2.2)))
   (d.1.map (crashB s.2.2.2.2.1), (d.2.2.1, d.2.2))))))))
def resD (d : DDisk) (s : DDiskStep) : DDisk × Int := cond (ieq (faultD d s) 0) (stepD d s, cond (goodB (stepD d s)) 0 4) (d, faultD d s)

abbrev StepOk (s : DDiskStep) : Prop := s.2.1.size ≤ 9223372036854775807 ∧ s.2.2.1.size ≤ 9223372036854775807

theorem nameB_size {n : ByteArray} (h : nameB n = true) : n.size ≤ 12 := by
  unfold nameB at h
  rw [Bool.and_eq_true] at h
  have := (inR_iff.1 h.2).2
  simp only [slen] at this
  omega
theorem NamesOk.sizes {nb : Int} {l : List DBlob} (h : NamesOk nb l) : SizesOk l := fun x hx => by
  obtain ⟨i, hi⟩ := List.getElem?_of_mem hx
  have := nameB_size (h.1 i x hi).1
  omega
theorem GoodD.lens {d : DDisk} (h : GoodD d) : LenOk d := ⟨by have := h.2.1; omega, by have := h.2.2.1.2; omega, by have := h.2.2.2.1.2; omega, h.2.2.1.sizes, h.2.2.2.1.sizes⟩
theorem putN_mem {l : List DBlob} {x y : DBlob} (h : y ∈ putN l x) : y = x ∨ y ∈ l := by
  unfold putN at h
  have hl := lohi l x.1
  rcases List.mem_append.1 h with h | h
  · exact .inr (by rw [← hl]; exact List.mem_append_left _ h)
  · rcases List.mem_cons.1 h with h | h
    · exact .inl h
    · refine .inr ?_
      rw [← hl]
      refine List.mem_append_right _ ?_
      cases hh : hasN l x.1 with
      | true => rw [hh, cond_true] at h; exact List.mem_of_mem_tail h
      | false => rw [hh, cond_false] at h; exact h
theorem cutN_mem {l : List DBlob} {n : ByteArray} {y : DBlob} (h : y ∈ cutN l n) : y ∈ l := by
  unfold cutN at h
  cases hh : hasN l n with
  | false => rw [hh, cond_false] at h; exact h
  | true =>
    rw [hh, cond_true] at h
    rw [← lohi l n]
    rcases List.mem_append.1 h with h | h
    · exact List.mem_append_left _ h
    · exact List.mem_append_right _ (List.mem_of_mem_tail h)
theorem putN_len (l : List DBlob) (x : DBlob) : (putN l x).length ≤ l.length + 1 := by
  unfold putN
  have h := congrArg List.length (lohi l x.1)
  rw [List.length_append] at h
  rw [List.length_append, List.length_cons]
  cases hasN l x.1
  · rw [cond_false]; omega
  · rw [cond_true, List.length_tail]; omega
theorem cutN_len (l : List DBlob) (n : ByteArray) : (cutN l n).length ≤ l.length := by
  unfold cutN
  have h := congrArg List.length (lohi l n)
  rw [List.length_append] at h
  cases hasN l n
  · rw [cond_false]; omega
  · rw [cond_true, List.length_append, List.length_tail]; omega
theorem blobN_rng {d : DDisk} (h : GoodD d) {n : ByteArray} (hh : hasN d.2.1 n = true) : 0 ≤ blobN d.2.1 n ∧ blobN d.2.1 n < d.1.length := by
  obtain ⟨y, r, h1, h2, h3⟩ := hasN_split hh
  unfold blobN
  rw [h1]
  dsimp only
  have hm : y ∈ d.2.1 := by rw [h3]; simp
  exact NamesOk.rng h.2.2.1 h.2.1 y hm
theorem blobN_get {d : DDisk} (h : GoodD d) {n : ByteArray} (hh : hasN d.2.1 n = true) : ∃ x, d.1[(blobN d.2.1 n).toNat]? = some x := by
  have := blobN_rng h hh
  exact ⟨_, List.getElem?_eq_getElem (by omega)⟩
theorem hasN_get {l : List DBlob} {n : ByteArray} (hh : hasN l n = true) : ∃ y, l[(loN l n).length]? = some y ∧ y.2.1 = blobN l n := by
  obtain ⟨y, r, h1, h2, h3⟩ := hasN_split hh
  refine ⟨y, by rw [← List.head?_drop, lo_drop, h1]; rfl, ?_⟩
  unfold blobN
  rw [h1]

/-- what comes of a step may be looked at -/
theorem stepD_lens {d : DDisk} {s : DDiskStep} (h : GoodD d) (hf : faultD d s = 0) (hs : StepOk s) : LenOk (stepD d s) := by
  have hl := h.lens
  have hb := h.2.1
  have hn := h.2.2.1.2
  have hz : ∀ (l : List DBlob) (x : DBlob), SizesOk l → x.1.size ≤ 9223372036854775807 → SizesOk (putN l x) := fun l x h1 h2 y hy => (putN_mem hy).elim (fun e => by rw [e]; exact h2) (h1 y)
  have hc : ∀ (l : List DBlob) (n : ByteArray), SizesOk l → SizesOk (cutN l n) := fun l n h1 y hy => h1 y (cutN_mem hy)
  unfold stepD
  cases ieq s.1 1 <;> simp only [cond_true, cond_false]
  case true => exact ⟨by simp; omega, Nat.le_trans (putN_len _ _) (by omega), hl.2.2.1, hz _ _ hl.2.2.2.1 hs.1, hl.2.2.2.2⟩
  cases ieq s.1 2 <;> simp only [cond_true, cond_false]
  case true =>
    cases hx : d.1[(blobN d.2.1 s.2.1).toNat]? with
    | none => exact hl
    | some x => exact ⟨by simp; omega, hl.2⟩
  cases ieq s.1 3 <;> simp only [cond_true, cond_false]
  case true =>
    cases hx : d.1[(blobN d.2.1 s.2.1).toNat]? with
    | none => exact hl
    | some x => exact ⟨by simp; omega, hl.2⟩
  cases ieq s.1 4 <;> simp only [cond_true, cond_false]
  case true => exact ⟨hl.1, Nat.le_trans (putN_len _ _) (by have := cutN_len d.2.1 s.2.1; omega), hl.2.2.1, hz _ _ (hc _ _ hl.2.2.2.1) hs.2, hl.2.2.2.2⟩
  cases ieq s.1 5 <;> simp only [cond_true, cond_false]
  case true => exact ⟨hl.1, Nat.le_trans (putN_len _ _) (by omega), hl.2.2.1, hz _ _ hl.2.2.2.1 hs.2, hl.2.2.2.2⟩
  cases ieq s.1 6 <;> simp only [cond_true, cond_false]
  case true => exact ⟨hl.1, Nat.le_trans (cutN_len _ _) (by omega), hl.2.2.1, hc _ _ hl.2.2.2.1, hl.2.2.2.2⟩
  cases ieq s.1 7 <;> simp only [cond_true, cond_false]
  case true => exact ⟨hl.1, hl.2.1, hl.2.1, hl.2.2.2.1, hl.2.2.2.1⟩
  exact ⟨by simp; omega, hl.2.2.1, hl.2.2.1, hl.2.2.2.2, hl.2.2.2.2⟩

/-! ### the reference's step -/
theorem l1Do_i13 {R : Type} (d : DDisk) (s : DDiskStep) (z : DDisk) (n : ByteArray) (kk) : ∃ v, (hasN d.2.1 n = true → v = blobN d.2.1 n) ∧
    f_spec_l1Do_i13 R (((((loN d.2.1 n).length : Nat) : Int), (hasN d.2.1 n, ())), (d, (s, (z, ())))) (((0 : Int), ()), ()) kk = kk (((((loN d.2.1 n).length : Nat) : Int), (hasN d.2.1 n, ())), (d, (s, (z, ())))) ((v, ()), ()) := by
  unfold f_spec_l1Do_i13
  dsimp only
  cases h : hasN d.2.1 n with
  | false => exact ⟨0, (fun h => by cases h), rfl⟩
  | true =>
    obtain ⟨y, h1, h2⟩ := hasN_get h
    refine ⟨blobN d.2.1 n, fun _ => rfl, ?_⟩
    rw [cond_true, getO_at (by omega) (by rw [Int.toNat_natCast]; exact h1), Int.toNat_natCast, h1, bnd_some, bnd_some, h2]

theorem fin_spec {d : DDisk} {s : DDiskStep} (h : GoodD d) (hf : faultD d s = 0) (hs : StepOk s) :
    (bnd (f_spec_GoodDisk (stepD d s, ())) fun r => (cond (!r.1.1) (some ((stepD d s, ((4 : Int), ())), ())) (some ((stepD d s, ((0 : Int), ())), ())))) = some (((resD d s).1, ((resD d s).2, ())), ()) := by
  rw [f_spec_GoodDiskVal _ (stepD_lens h hf hs), bnd_some]
  unfold resD
  rw [hf]
  cases goodB (stepD d s) <;> rfl

theorem res_fault {d : DDisk} {s : DDiskStep} {c : Int} (hf : faultD d s = c) (hc : ieq c 0 = false) : resD d s = (d, c) := by
  unfold resD; rw [hf, hc]; rfl

theorem l1Do_1 (d : DDisk) (nm ot dt : ByteArray) (kp : Int) (h : GoodD d) (hs : StepOk (1, (nm, (ot, (dt, (kp, ())))))) :
    f_spec_l1Do (d, ((1, (nm, (ot, (dt, (kp, ()))))), ())) = some (((resD d (1, (nm, (ot, (dt, (kp, ())))))).1, ((resD d (1, (nm, (ot, (dt, (kp, ())))))).2, ())), ()) := by
  have k18 : inR 1 1 8 = true := by decide
  have k16 : inR 1 1 6 = true := by decide
  have e1 : ieq (1 : Int) 1 = true := by decide
  have e2 : ieq (1 : Int) 2 = false := by decide
  have e3 : ieq (1 : Int) 3 = false := by decide
  have e4 : ieq (1 : Int) 4 = false := by decide
  have e5 : ieq (1 : Int) 5 = false := by decide
  have e6 : ieq (1 : Int) 6 = false := by decide
  have e7 : ieq (1 : Int) 7 = false := by decide
  have e8 : ieq (1 : Int) 8 = false := by decide
  have hn := h.2.2.1.2
  have hb := h.2.1
  rw [f_spec_l1Do_k1 _ rfl, val_f_spec_l1In, bnd_some]
  try dsimp only
  rw [k18, Bool.not_true, cond_false]
  rw [f_spec_l1NameVal _ hs.1, bnd_some]
  try dsimp only
  cases h1 : nameB nm with
  | false => rw [res_fault (c := 1) (by simp [faultD, k18, k16, e1, e4, e5, e8, h1]) rfl]; rfl
  | true =>
  rw [Bool.not_true, cond_false]
  cases h2 : ilt 4000 (slen dt) with
  | true => rw [res_fault (c := 1) (by simp [faultD, k18, k16, e1, e4, e5, e8, h1, h2]) rfl]; rfl
  | false =>
  rw [cond_false]
  rw [f_spec_l1AtVal _ _ (show d.2.1.length ≤ _ by omega), bnd_some]
  try dsimp only
  rw [f_spec_l1AtVal _ _ (show d.2.1.length ≤ _ by omega), bnd_some]
  try dsimp only
  cases h3 : hasN d.2.1 nm with
  | true => rw [res_fault (c := 3) (by simp [faultD, k18, k16, e1, e4, e5, e8, h1, h2, h3]) rfl]; rfl
  | false =>
  rw [cond_false]
  have hf : faultD d (1, (nm, (ot, (dt, (kp, ()))))) = 0 := by simp [faultD, k18, k16, e1, e4, e5, e8, h1, h2, h3]
  obtain ⟨v, hv, e⟩ := l1Do_i13 (R := (DDisk × Int × Unit) × Unit) d (1, (nm, (ot, (dt, (kp, ()))))) ([], ([], ([], (0, ())))) nm (fun c494 o495 => (f_spec_l1Do_i17 _ ((), ()) ((o495.1.1, (c494.2.2.1.1, ((ieq c494.2.2.1.1 (1 : Int)), ()))), (c494.2.1, (c494.2.2.1, (c494.2.2.2.1, ())))) fun c496 o497 => (bnd (f_spec_GoodDisk (o497.2.1, ())) fun r498 => (cond (!r498.1.1) (some ((o497.2.1, ((4 : Int), ())), ())) (some ((o497.2.1, ((0 : Int), ())), ()))))))
  rw [h3] at e
  refine e.trans ?_
  have hfin := fin_spec h hf hs
  simp only [f_spec_l1Do_i17, f_spec_l1Do_i20, f_spec_l1Do_i22, f_spec_l1Do_i24, f_spec_l1Do_i26, f_spec_l1Do_i28, f_spec_l1Do_i30, e1, e2, e3, e4, e5, e6, e7, cond_true, cond_false]
  rw [f_spec_l1PutVal _ _ (show d.2.1.length ≤ _ by omega), bnd_some, req_of _ (by simp; omega)]
  simp only [stepD, e1, e2, e3, e4, e5, e6, e7, cond_true, cond_false] at hfin
  exact hfin

theorem l1Do_2 (d : DDisk) (nm ot dt : ByteArray) (kp : Int) (h : GoodD d) (hs : StepOk (2, (nm, (ot, (dt, (kp, ())))))) :
    f_spec_l1Do (d, ((2, (nm, (ot, (dt, (kp, ()))))), ())) = some (((resD d (2, (nm, (ot, (dt, (kp, ())))))).1, ((resD d (2, (nm, (ot, (dt, (kp, ())))))).2, ())), ()) := by
  have k18 : inR 2 1 8 = true := by decide
  have k16 : inR 2 1 6 = true := by decide
  have e1 : ieq (2 : Int) 1 = false := by decide
  have e2 : ieq (2 : Int) 2 = true := by decide
  have e3 : ieq (2 : Int) 3 = false := by decide
  have e4 : ieq (2 : Int) 4 = false := by decide
  have e5 : ieq (2 : Int) 5 = false := by decide
  have e6 : ieq (2 : Int) 6 = false := by decide
  have e7 : ieq (2 : Int) 7 = false := by decide
  have e8 : ieq (2 : Int) 8 = false := by decide
  have hn := h.2.2.1.2
  have hb := h.2.1
  rw [f_spec_l1Do_k2 _ rfl, val_f_spec_l1In, bnd_some]
  try dsimp only
  rw [k18, Bool.not_true, cond_false]
  rw [f_spec_l1NameVal _ hs.1, bnd_some]
  try dsimp only
  cases h1 : nameB nm with
  | false => rw [res_fault (c := 1) (by simp [faultD, k18, k16, e1, e4, e5, e8, h1]) rfl]; rfl
  | true =>
  rw [Bool.not_true, cond_false]
  cases h2 : ilt 4000 (slen dt) with
  | true => rw [res_fault (c := 1) (by simp [faultD, k18, k16, e1, e4, e5, e8, h1, h2]) rfl]; rfl
  | false =>
  rw [cond_false]
  rw [f_spec_l1AtVal _ _ (show d.2.1.length ≤ _ by omega), bnd_some]
  try dsimp only
  cases h3 : hasN d.2.1 nm with
  | false => rw [res_fault (c := 2) (by simp [faultD, k18, k16, e1, e4, e5, e8, h1, h2, h3]) rfl]; rfl
  | true =>
  rw [Bool.not_true, cond_false]
  rw [f_spec_l1AtVal _ _ (show d.2.1.length ≤ _ by omega), bnd_some]
  try dsimp only
  have hf : faultD d (2, (nm, (ot, (dt, (kp, ()))))) = 0 := by simp [faultD, k18, k16, e1, e4, e5, e8, h1, h2, h3]
  obtain ⟨v, hv, e⟩ := l1Do_i13 (R := (DDisk × Int × Unit) × Unit) d (2, (nm, (ot, (dt, (kp, ()))))) ([], ([], ([], (0, ())))) nm (fun c494 o495 => (f_spec_l1Do_i17 _ ((), ()) ((o495.1.1, (c494.2.2.1.1, ((ieq c494.2.2.1.1 (1 : Int)), ()))), (c494.2.1, (c494.2.2.1, (c494.2.2.2.1, ())))) fun c496 o497 => (bnd (f_spec_GoodDisk (o497.2.1, ())) fun r498 => (cond (!r498.1.1) (some ((o497.2.1, ((4 : Int), ())), ())) (some ((o497.2.1, ((0 : Int), ())), ()))))))
  rw [h3] at e
  refine e.trans ?_
  obtain rfl := hv h3
  have hfin := fin_spec h hf hs
  simp only [f_spec_l1Do_i17, f_spec_l1Do_i20, f_spec_l1Do_i22, f_spec_l1Do_i24, f_spec_l1Do_i26, f_spec_l1Do_i28, f_spec_l1Do_i30, e1, e2, e3, e4, e5, e6, e7, cond_true, cond_false]
  obtain ⟨x, hx⟩ := blobN_get h h3
  have hx4 := (h.1 _ _ hx).1
  have h2 := ilt_false.1 h2
  simp only [slen] at hx4 h2
  rw [getO_at (blobN_rng h h3).1 hx]
  simp only [hx, bnd_some]
  rw [catO_some (by omega), getO_at (blobN_rng h h3).1 hx]
  simp only [stepD, e1, e2, e3, e4, e5, e6, e7, cond_true, cond_false, hx] at hfin
  exact hfin

theorem l1Do_3 (d : DDisk) (nm ot dt : ByteArray) (kp : Int) (h : GoodD d) (hs : StepOk (3, (nm, (ot, (dt, (kp, ())))))) :
    f_spec_l1Do (d, ((3, (nm, (ot, (dt, (kp, ()))))), ())) = some (((resD d (3, (nm, (ot, (dt, (kp, ())))))).1, ((resD d (3, (nm, (ot, (dt, (kp, ())))))).2, ())), ()) := by
  have k18 : inR 3 1 8 = true := by decide
  have k16 : inR 3 1 6 = true := by decide
  have e1 : ieq (3 : Int) 1 = false := by decide
  have e2 : ieq (3 : Int) 2 = false := by decide
  have e3 : ieq (3 : Int) 3 = true := by decide
  have e4 : ieq (3 : Int) 4 = false := by decide
  have e5 : ieq (3 : Int) 5 = false := by decide
  have e6 : ieq (3 : Int) 6 = false := by decide
  have e7 : ieq (3 : Int) 7 = false := by decide
  have e8 : ieq (3 : Int) 8 = false := by decide
  have hn := h.2.2.1.2
  have hb := h.2.1
  rw [f_spec_l1Do_k3 _ rfl, val_f_spec_l1In, bnd_some]
  try dsimp only
  rw [k18, Bool.not_true, cond_false]
  rw [f_spec_l1NameVal _ hs.1, bnd_some]
  try dsimp only
  cases h1 : nameB nm with
  | false => rw [res_fault (c := 1) (by simp [faultD, k18, k16, e1, e4, e5, e8, h1]) rfl]; rfl
  | true =>
  rw [Bool.not_true, cond_false]
  cases h2 : ilt 4000 (slen dt) with
  | true => rw [res_fault (c := 1) (by simp [faultD, k18, k16, e1, e4, e5, e8, h1, h2]) rfl]; rfl
  | false =>
  rw [cond_false]
  rw [f_spec_l1AtVal _ _ (show d.2.1.length ≤ _ by omega), bnd_some]
  try dsimp only
  cases h3 : hasN d.2.1 nm with
  | false => rw [res_fault (c := 2) (by simp [faultD, k18, k16, e1, e4, e5, e8, h1, h2, h3]) rfl]; rfl
  | true =>
  rw [Bool.not_true, cond_false]
  rw [f_spec_l1AtVal _ _ (show d.2.1.length ≤ _ by omega), bnd_some]
  try dsimp only
  have hf : faultD d (3, (nm, (ot, (dt, (kp, ()))))) = 0 := by simp [faultD, k18, k16, e1, e4, e5, e8, h1, h2, h3]
  obtain ⟨v, hv, e⟩ := l1Do_i13 (R := (DDisk × Int × Unit) × Unit) d (3, (nm, (ot, (dt, (kp, ()))))) ([], ([], ([], (0, ())))) nm (fun c494 o495 => (f_spec_l1Do_i17 _ ((), ()) ((o495.1.1, (c494.2.2.1.1, ((ieq c494.2.2.1.1 (1 : Int)), ()))), (c494.2.1, (c494.2.2.1, (c494.2.2.2.1, ())))) fun c496 o497 => (bnd (f_spec_GoodDisk (o497.2.1, ())) fun r498 => (cond (!r498.1.1) (some ((o497.2.1, ((4 : Int), ())), ())) (some ((o497.2.1, ((0 : Int), ())), ()))))))
  rw [h3] at e
  refine e.trans ?_
  obtain rfl := hv h3
  have hfin := fin_spec h hf hs
  simp only [f_spec_l1Do_i17, f_spec_l1Do_i20, f_spec_l1Do_i22, f_spec_l1Do_i24, f_spec_l1Do_i26, f_spec_l1Do_i28, f_spec_l1Do_i30, e1, e2, e3, e4, e5, e6, e7, cond_true, cond_false]
  obtain ⟨x, hx⟩ := blobN_get h h3
  rw [getO_at (blobN_rng h h3).1 hx]
  simp only [hx, bnd_some]
  rw [getO_at (blobN_rng h h3).1 hx]
  simp only [stepD, e1, e2, e3, e4, e5, e6, e7, cond_true, cond_false, hx] at hfin
  exact hfin

theorem l1Do_4 (d : DDisk) (nm ot dt : ByteArray) (kp : Int) (h : GoodD d) (hs : StepOk (4, (nm, (ot, (dt, (kp, ())))))) :
    f_spec_l1Do (d, ((4, (nm, (ot, (dt, (kp, ()))))), ())) = some (((resD d (4, (nm, (ot, (dt, (kp, ())))))).1, ((resD d (4, (nm, (ot, (dt, (kp, ())))))).2, ())), ()) := by
  have k18 : inR 4 1 8 = true := by decide
  have k16 : inR 4 1 6 = true := by decide
  have e1 : ieq (4 : Int) 1 = false := by decide
  have e2 : ieq (4 : Int) 2 = false := by decide
  have e3 : ieq (4 : Int) 3 = false := by decide
  have e4 : ieq (4 : Int) 4 = true := by decide
  have e5 : ieq (4 : Int) 5 = false := by decide
  have e6 : ieq (4 : Int) 6 = false := by decide
  have e7 : ieq (4 : Int) 7 = false := by decide
  have e8 : ieq (4 : Int) 8 = false := by decide
  have hn := h.2.2.1.2
  have hb := h.2.1
  rw [f_spec_l1Do_k4 _ rfl, val_f_spec_l1In, bnd_some]
  try dsimp only
  rw [k18, Bool.not_true, cond_false]
  rw [f_spec_l1NameVal _ hs.1, bnd_some]
  try dsimp only
  cases h1 : nameB nm with
  | false => rw [res_fault (c := 1) (by simp [faultD, k18, k16, e1, e4, e5, e8, h1]) rfl]; rfl
  | true =>
  rw [Bool.not_true, cond_false]
  rw [f_spec_l1NameVal _ hs.2, bnd_some]
  try dsimp only
  cases h6 : nameB ot with
  | false => rw [res_fault (c := 1) (by simp [faultD, k18, k16, e1, e4, e5, e8, h1, h6]) rfl]; rfl
  | true =>
  rw [Bool.not_true, cond_false]
  cases h2 : ilt 4000 (slen dt) with
  | true => rw [res_fault (c := 1) (by simp [faultD, k18, k16, e1, e4, e5, e8, h1, h6, h2]) rfl]; rfl
  | false =>
  rw [cond_false]
  rw [f_spec_l1AtVal _ _ (show d.2.1.length ≤ _ by omega), bnd_some]
  try dsimp only
  cases h3 : hasN d.2.1 nm with
  | false => rw [res_fault (c := 2) (by simp [faultD, k18, k16, e1, e4, e5, e8, h1, h6, h2, h3]) rfl]; rfl
  | true =>
  rw [Bool.not_true, cond_false]
  rw [f_spec_l1AtVal _ _ (show d.2.1.length ≤ _ by omega), bnd_some]
  try dsimp only
  have hf : faultD d (4, (nm, (ot, (dt, (kp, ()))))) = 0 := by simp [faultD, k18, k16, e1, e4, e5, e8, h1, h6, h2, h3]
  obtain ⟨v, hv, e⟩ := l1Do_i13 (R := (DDisk × Int × Unit) × Unit) d (4, (nm, (ot, (dt, (kp, ()))))) ([], ([], ([], (0, ())))) nm (fun c494 o495 => (f_spec_l1Do_i17 _ ((), ()) ((o495.1.1, (c494.2.2.1.1, ((ieq c494.2.2.1.1 (1 : Int)), ()))), (c494.2.1, (c494.2.2.1, (c494.2.2.2.1, ())))) fun c496 o497 => (bnd (f_spec_GoodDisk (o497.2.1, ())) fun r498 => (cond (!r498.1.1) (some ((o497.2.1, ((4 : Int), ())), ())) (some ((o497.2.1, ((0 : Int), ())), ()))))))
  rw [h3] at e
  refine e.trans ?_
  obtain rfl := hv h3
  have hfin := fin_spec h hf hs
  simp only [f_spec_l1Do_i17, f_spec_l1Do_i20, f_spec_l1Do_i22, f_spec_l1Do_i24, f_spec_l1Do_i26, f_spec_l1Do_i28, f_spec_l1Do_i30, e1, e2, e3, e4, e5, e6, e7, cond_true, cond_false]
  rw [f_spec_l1WithoutVal _ _ (show d.2.1.length ≤ _ by omega), bnd_some, f_spec_l1PutVal _ _ (by have := cutN_len d.2.1 nm; dsimp only; omega), bnd_some]
  simp only [stepD, e1, e2, e3, e4, e5, e6, e7, cond_true, cond_false] at hfin
  exact hfin

theorem l1Do_5 (d : DDisk) (nm ot dt : ByteArray) (kp : Int) (h : GoodD d) (hs : StepOk (5, (nm, (ot, (dt, (kp, ())))))) :
    f_spec_l1Do (d, ((5, (nm, (ot, (dt, (kp, ()))))), ())) = some (((resD d (5, (nm, (ot, (dt, (kp, ())))))).1, ((resD d (5, (nm, (ot, (dt, (kp, ())))))).2, ())), ()) := by
  have k18 : inR 5 1 8 = true := by decide
  have k16 : inR 5 1 6 = true := by decide
  have e1 : ieq (5 : Int) 1 = false := by decide
  have e2 : ieq (5 : Int) 2 = false := by decide
  have e3 : ieq (5 : Int) 3 = false := by decide
  have e4 : ieq (5 : Int) 4 = false := by decide
  have e5 : ieq (5 : Int) 5 = true := by decide
  have e6 : ieq (5 : Int) 6 = false := by decide
  have e7 : ieq (5 : Int) 7 = false := by decide
  have e8 : ieq (5 : Int) 8 = false := by decide
  have hn := h.2.2.1.2
  have hb := h.2.1
  rw [f_spec_l1Do_k5 _ rfl, val_f_spec_l1In, bnd_some]
  try dsimp only
  rw [k18, Bool.not_true, cond_false]
  rw [f_spec_l1NameVal _ hs.1, bnd_some]
  try dsimp only
  cases h1 : nameB nm with
  | false => rw [res_fault (c := 1) (by simp [faultD, k18, k16, e1, e4, e5, e8, h1]) rfl]; rfl
  | true =>
  rw [Bool.not_true, cond_false]
  rw [f_spec_l1NameVal _ hs.2, bnd_some]
  try dsimp only
  cases h6 : nameB ot with
  | false => rw [res_fault (c := 1) (by simp [faultD, k18, k16, e1, e4, e5, e8, h1, h6]) rfl]; rfl
  | true =>
  rw [Bool.not_true, cond_false]
  cases h2 : ilt 4000 (slen dt) with
  | true => rw [res_fault (c := 1) (by simp [faultD, k18, k16, e1, e4, e5, e8, h1, h6, h2]) rfl]; rfl
  | false =>
  rw [cond_false]
  rw [f_spec_l1AtVal _ _ (show d.2.1.length ≤ _ by omega), bnd_some]
  try dsimp only
  cases h3 : hasN d.2.1 nm with
  | false => rw [res_fault (c := 2) (by simp [faultD, k18, k16, e1, e4, e5, e8, h1, h6, h2, h3]) rfl]; rfl
  | true =>
  rw [Bool.not_true, cond_false]
  rw [f_spec_l1AtVal _ _ (show d.2.1.length ≤ _ by omega), bnd_some]
  try dsimp only
  cases h5 : hasN d.2.1 ot with
  | true => rw [res_fault (c := 3) (by simp [faultD, k18, k16, e1, e4, e5, e8, h1, h6, h2, h3, h5]) rfl]; rfl
  | false =>
  rw [cond_false]
  have hf : faultD d (5, (nm, (ot, (dt, (kp, ()))))) = 0 := by simp [faultD, k18, k16, e1, e4, e5, e8, h1, h6, h2, h3, h5]
  obtain ⟨v, hv, e⟩ := l1Do_i13 (R := (DDisk × Int × Unit) × Unit) d (5, (nm, (ot, (dt, (kp, ()))))) ([], ([], ([], (0, ())))) nm (fun c494 o495 => (f_spec_l1Do_i17 _ ((), ()) ((o495.1.1, (c494.2.2.1.1, ((ieq c494.2.2.1.1 (1 : Int)), ()))), (c494.2.1, (c494.2.2.1, (c494.2.2.2.1, ())))) fun c496 o497 => (bnd (f_spec_GoodDisk (o497.2.1, ())) fun r498 => (cond (!r498.1.1) (some ((o497.2.1, ((4 : Int), ())), ())) (some ((o497.2.1, ((0 : Int), ())), ()))))))
  rw [h3] at e
  refine e.trans ?_
  obtain rfl := hv h3
  have hfin := fin_spec h hf hs
  simp only [f_spec_l1Do_i17, f_spec_l1Do_i20, f_spec_l1Do_i22, f_spec_l1Do_i24, f_spec_l1Do_i26, f_spec_l1Do_i28, f_spec_l1Do_i30, e1, e2, e3, e4, e5, e6, e7, cond_true, cond_false]
  rw [f_spec_l1PutVal _ _ (show d.2.1.length ≤ _ by omega), bnd_some]
  simp only [stepD, e1, e2, e3, e4, e5, e6, e7, cond_true, cond_false] at hfin
  exact hfin

theorem l1Do_6 (d : DDisk) (nm ot dt : ByteArray) (kp : Int) (h : GoodD d) (hs : StepOk (6, (nm, (ot, (dt, (kp, ())))))) :
    f_spec_l1Do (d, ((6, (nm, (ot, (dt, (kp, ()))))), ())) = some (((resD d (6, (nm, (ot, (dt, (kp, ())))))).1, ((resD d (6, (nm, (ot, (dt, (kp, ())))))).2, ())), ()) := by
  have k18 : inR 6 1 8 = true := by decide
  have k16 : inR 6 1 6 = true := by decide
  have e1 : ieq (6 : Int) 1 = false := by decide
  have e2 : ieq (6 : Int) 2 = false := by decide
  have e3 : ieq (6 : Int) 3 = false := by decide
  have e4 : ieq (6 : Int) 4 = false := by decide
  have e5 : ieq (6 : Int) 5 = false := by decide
  have e6 : ieq (6 : Int) 6 = true := by decide
  have e7 : ieq (6 : Int) 7 = false := by decide
  have e8 : ieq (6 : Int) 8 = false := by decide
  have hn := h.2.2.1.2
  have hb := h.2.1
  rw [f_spec_l1Do_k6 _ rfl, val_f_spec_l1In, bnd_some]
  try dsimp only
  rw [k18, Bool.not_true, cond_false]
  rw [f_spec_l1NameVal _ hs.1, bnd_some]
  try dsimp only
  cases h1 : nameB nm with
  | false => rw [res_fault (c := 1) (by simp [faultD, k18, k16, e1, e4, e5, e8, h1]) rfl]; rfl
  | true =>
  rw [Bool.not_true, cond_false]
  cases h2 : ilt 4000 (slen dt) with
  | true => rw [res_fault (c := 1) (by simp [faultD, k18, k16, e1, e4, e5, e8, h1, h2]) rfl]; rfl
  | false =>
  rw [cond_false]
  rw [f_spec_l1AtVal _ _ (show d.2.1.length ≤ _ by omega), bnd_some]
  try dsimp only
  cases h3 : hasN d.2.1 nm with
  | false => rw [res_fault (c := 2) (by simp [faultD, k18, k16, e1, e4, e5, e8, h1, h2, h3]) rfl]; rfl
  | true =>
  rw [Bool.not_true, cond_false]
  rw [f_spec_l1AtVal _ _ (show d.2.1.length ≤ _ by omega), bnd_some]
  try dsimp only
  have hf : faultD d (6, (nm, (ot, (dt, (kp, ()))))) = 0 := by simp [faultD, k18, k16, e1, e4, e5, e8, h1, h2, h3]
  obtain ⟨v, hv, e⟩ := l1Do_i13 (R := (DDisk × Int × Unit) × Unit) d (6, (nm, (ot, (dt, (kp, ()))))) ([], ([], ([], (0, ())))) nm (fun c494 o495 => (f_spec_l1Do_i17 _ ((), ()) ((o495.1.1, (c494.2.2.1.1, ((ieq c494.2.2.1.1 (1 : Int)), ()))), (c494.2.1, (c494.2.2.1, (c494.2.2.2.1, ())))) fun c496 o497 => (bnd (f_spec_GoodDisk (o497.2.1, ())) fun r498 => (cond (!r498.1.1) (some ((o497.2.1, ((4 : Int), ())), ())) (some ((o497.2.1, ((0 : Int), ())), ()))))))
  rw [h3] at e
  refine e.trans ?_
  have hfin := fin_spec h hf hs
  simp only [f_spec_l1Do_i17, f_spec_l1Do_i20, f_spec_l1Do_i22, f_spec_l1Do_i24, f_spec_l1Do_i26, f_spec_l1Do_i28, f_spec_l1Do_i30, e1, e2, e3, e4, e5, e6, e7, cond_true, cond_false]
  rw [f_spec_l1WithoutVal _ _ (show d.2.1.length ≤ _ by omega), bnd_some]
  simp only [stepD, e1, e2, e3, e4, e5, e6, e7, cond_true, cond_false] at hfin
  exact hfin

theorem l1Do_7 (d : DDisk) (nm ot dt : ByteArray) (kp : Int) (h : GoodD d) (hs : StepOk (7, (nm, (ot, (dt, (kp, ())))))) :
    f_spec_l1Do (d, ((7, (nm, (ot, (dt, (kp, ()))))), ())) = some (((resD d (7, (nm, (ot, (dt, (kp, ())))))).1, ((resD d (7, (nm, (ot, (dt, (kp, ())))))).2, ())), ()) := by
  have k18 : inR 7 1 8 = true := by decide
  have k16 : inR 7 1 6 = false := by decide
  have e1 : ieq (7 : Int) 1 = false := by decide
  have e2 : ieq (7 : Int) 2 = false := by decide
  have e3 : ieq (7 : Int) 3 = false := by decide
  have e4 : ieq (7 : Int) 4 = false := by decide
  have e5 : ieq (7 : Int) 5 = false := by decide
  have e6 : ieq (7 : Int) 6 = false := by decide
  have e7 : ieq (7 : Int) 7 = true := by decide
  have e8 : ieq (7 : Int) 8 = false := by decide
  have hn := h.2.2.1.2
  have hb := h.2.1
  rw [f_spec_l1Do_k7 _ rfl, val_f_spec_l1In, bnd_some]
  try dsimp only
  rw [k18, Bool.not_true, cond_false]
  cases h2 : ilt 4000 (slen dt) with
  | true => rw [res_fault (c := 1) (by simp [faultD, k18, k16, e1, e4, e5, e8, h2]) rfl]; rfl
  | false =>
  rw [cond_false]
  rw [f_spec_l1AtVal _ _ (show d.2.1.length ≤ _ by omega), bnd_some]
  try dsimp only
  rw [f_spec_l1AtVal _ _ (show d.2.1.length ≤ _ by omega), bnd_some]
  try dsimp only
  have hf : faultD d (7, (nm, (ot, (dt, (kp, ()))))) = 0 := by simp [faultD, k18, k16, e1, e4, e5, e8, h2]
  obtain ⟨v, hv, e⟩ := l1Do_i13 (R := (DDisk × Int × Unit) × Unit) d (7, (nm, (ot, (dt, (kp, ()))))) ([], ([], ([], (0, ())))) nm (fun c494 o495 => (f_spec_l1Do_i17 _ ((), ()) ((o495.1.1, (c494.2.2.1.1, ((ieq c494.2.2.1.1 (1 : Int)), ()))), (c494.2.1, (c494.2.2.1, (c494.2.2.2.1, ())))) fun c496 o497 => (bnd (f_spec_GoodDisk (o497.2.1, ())) fun r498 => (cond (!r498.1.1) (some ((o497.2.1, ((4 : Int), ())), ())) (some ((o497.2.1, ((0 : Int), ())), ()))))))
  refine e.trans ?_
  have hfin := fin_spec h hf hs
  simp only [f_spec_l1Do_i17, f_spec_l1Do_i20, f_spec_l1Do_i22, f_spec_l1Do_i24, f_spec_l1Do_i26, f_spec_l1Do_i28, f_spec_l1Do_i30, e1, e2, e3, e4, e5, e6, e7, cond_true, cond_false]
  rw [req_of _ (decide_eq_true (show d.2.1.length ≤ _ by omega))]
  simp only [stepD, e1, e2, e3, e4, e5, e6, e7, cond_true, cond_false] at hfin
  exact hfin

theorem l1Do_8 (d : DDisk) (nm ot dt : ByteArray) (kp : Int) (h : GoodD d) (hs : StepOk (8, (nm, (ot, (dt, (kp, ())))))) :
    f_spec_l1Do (d, ((8, (nm, (ot, (dt, (kp, ()))))), ())) = some (((resD d (8, (nm, (ot, (dt, (kp, ())))))).1, ((resD d (8, (nm, (ot, (dt, (kp, ())))))).2, ())), ()) := by
  have k18 : inR 8 1 8 = true := by decide
  have k16 : inR 8 1 6 = false := by decide
  have e1 : ieq (8 : Int) 1 = false := by decide
  have e2 : ieq (8 : Int) 2 = false := by decide
  have e3 : ieq (8 : Int) 3 = false := by decide
  have e4 : ieq (8 : Int) 4 = false := by decide
  have e5 : ieq (8 : Int) 5 = false := by decide
  have e6 : ieq (8 : Int) 6 = false := by decide
  have e7 : ieq (8 : Int) 7 = false := by decide
  have e8 : ieq (8 : Int) 8 = true := by decide
  have hn := h.2.2.1.2
  have hb := h.2.1
  rw [f_spec_l1Do_k8 _ rfl, val_f_spec_l1In, bnd_some]
  try dsimp only
  rw [k18, Bool.not_true, cond_false]
  cases h2 : ilt 4000 (slen dt) with
  | true => rw [res_fault (c := 1) (by simp [faultD, k18, k16, e1, e4, e5, e8, h2]) rfl]; rfl
  | false =>
  rw [cond_false]
  rw [val_f_spec_l1In, bnd_some]
  try dsimp only
  cases h7 : inR kp 0 4000 with
  | false => rw [res_fault (c := 1) (by simp [faultD, k18, k16, e1, e4, e5, e8, h2, h7]) rfl]; rfl
  | true =>
  rw [Bool.not_true, cond_false]
  rw [f_spec_l1AtVal _ _ (show d.2.1.length ≤ _ by omega), bnd_some]
  try dsimp only
  rw [f_spec_l1AtVal _ _ (show d.2.1.length ≤ _ by omega), bnd_some]
  try dsimp only
  have hf : faultD d (8, (nm, (ot, (dt, (kp, ()))))) = 0 := by simp [faultD, k18, k16, e1, e4, e5, e8, h2, h7]
  obtain ⟨v, hv, e⟩ := l1Do_i13 (R := (DDisk × Int × Unit) × Unit) d (8, (nm, (ot, (dt, (kp, ()))))) ([], ([], ([], (0, ())))) nm (fun c494 o495 => (f_spec_l1Do_i17 _ ((), ()) ((o495.1.1, (c494.2.2.1.1, ((ieq c494.2.2.1.1 (1 : Int)), ()))), (c494.2.1, (c494.2.2.1, (c494.2.2.2.1, ())))) fun c496 o497 => (bnd (f_spec_GoodDisk (o497.2.1, ())) fun r498 => (cond (!r498.1.1) (some ((o497.2.1, ((4 : Int), ())), ())) (some ((o497.2.1, ((0 : Int), ())), ()))))))
  refine e.trans ?_
  have hfin := fin_spec h hf hs
  simp only [f_spec_l1Do_i17, f_spec_l1Do_i20, f_spec_l1Do_i22, f_spec_l1Do_i24, f_spec_l1Do_i26, f_spec_l1Do_i28, f_spec_l1Do_i30, e1, e2, e3, e4, e5, e6, e7, cond_true, cond_false]
  rw [f_spec_l1CrashVal d kp h.1 h.2.1 h.2.2.2.1.2 (inR_iff.1 h7).1 (inR_iff.1 h7).2, bnd_some]
  simp only [stepD, e1, e2, e3, e4, e5, e6, e7, cond_true, cond_false] at hfin
  exact hfin

end Go.Proofs.YthlnjkcpdkjipaaDoor
