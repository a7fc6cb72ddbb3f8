/- Disks: a crash, and what is read. -/
import Derived.Test.YthlnjkcpdkjipaaDoorY1Draw
import Derived.Test.YthlnjkcpdkjipaaDoorX6Do
set_option linter.all false
noncomputable section
namespace Go.Proofs.YthlnjkcpdkjipaaDoor
open Go Go.Proofs.YthlnjkcpdkjipaaDoor.Ev

theorem usedP_mono {Q Q' : Nat → Bool} (hQ : ∀ j, Q j = true → Q' j = true) (f : DBlob → DBlob) : ∀ (l : List DBlob) (k : Nat), (∀ x ∈ l, (f x).1.size ≤ x.1.size) → usedP Q (l.map f) k ≤ usedP Q' l k
  | [], _, _ => by simp [usedP]
  | b :: r, k, h => by
    have h1 := usedP_mono hQ f r (k + 1) fun x hx => h x (List.mem_cons_of_mem _ hx)
    have h2 := h b List.mem_cons_self
    simp only [List.map_cons, usedP]
    cases hq : Q k with
    | false => rw [cond_false]; omega
    | true => rw [hQ k hq, cond_true, cond_true]; omega

theorem GoodD.rise1 {d : DDisk} (h : GoodD d) : Rise d.2.1 := h.2.2.1.rise
theorem GoodD.rise2 {d : DDisk} (h : GoodD d) : Rise d.2.2.1 := h.2.2.2.1.rise
theorem GoodD.len1 {d : DDisk} (h : GoodD d) : d.2.1.length ≤ 20 := h.2.2.1.2
theorem GoodD.len2 {d : DDisk} (h : GoodD d) : d.2.2.1.length ≤ 20 := h.2.2.2.1.2

abbrev crashD (d : DDisk) (keep : Int) : DDisk := (d.1.map (crashB keep), (d.2.2.1, d.2.2))

theorem extract_size (s : ByteArray) {k : Int} (h0 : 0 ≤ k) (h1 : k ≤ slen s) : slen (s.extract 0 k.toNat) = k := by
  simp only [slen] at h1 ⊢
  rw [ByteArray.size_extract]
  omega

theorem crashB_len {keep : Int} {b : DBlob} (h0 : 0 ≤ keep) (h1 : 0 ≤ b.2.1) : slen (crashB keep b).1 = keptI keep b := extract_size _ (keptI_rng h0 h1).1 (keptI_rng h0 h1).2

theorem crash_good {d : DDisk} (h : GoodD d) {keep : Int} (h0 : 0 ≤ keep) : GoodD (crashD d keep) := by
  obtain ⟨h1, h2, h3, h4, h5, h6⟩ := h
  have hl : llen (d.1.map (crashB keep)) = llen d.1 := by simp [llen]
  have hsz : ∀ x ∈ d.1, (crashB keep x).1.size ≤ x.1.size := fun x hx => by
    obtain ⟨i, hi⟩ := List.getElem?_of_mem hx
    have hr := inR_iff.1 (h1 i x hi).2
    have e1 := crashB_len h0 hr.1
    have e2 := (keptI_rng h0 hr.1).2
    simp only [slen] at e1 e2
    omega
  refine ⟨?_, by simpa using h2, by dsimp only; rw [hl]; exact h4, by dsimp only; rw [hl]; exact h4, h5, ?_⟩
  · intro i x hx
    simp only [List.getElem?_map, Option.map_eq_some_iff] at hx
    obtain ⟨y, hy, rfl⟩ := hx
    have hr := inR_iff.1 (h1 i y hy).2
    rw [crashB_len h0 hr.1]
    have e2 := keptI_rng h0 hr.1
    refine ⟨by have := (h1 i y hy).1; omega, inR_iff.2 ⟨e2.1, Int.le_refl _⟩⟩
  · have hm := usedP_mono (Q := namedB (d.2.2.1 ++ d.2.2.1)) (Q' := namedB (d.2.1 ++ d.2.2.1)) (fun j hj => by
      rw [namedB_app] at hj ⊢
      simp only [Bool.or_self] at hj
      rw [hj, Bool.or_true]) (crashB keep) d.1 0 hsz
    simp only [usedN] at h6 ⊢
    omega

abbrev crashS (keep : Int) : DDiskStep := (8, ((⟨#[]⟩ : ByteArray), ((⟨#[]⟩ : ByteArray), ((⟨#[]⟩ : ByteArray), (keep, ())))))
theorem crashS_ok (keep : Int) : StepOk (crashS keep) := ⟨by show ByteArray.size ⟨#[]⟩ ≤ _; decide, by show ByteArray.size ⟨#[]⟩ ≤ _; decide⟩
theorem fault_crash (d : DDisk) {keep : Int} (h0 : 0 ≤ keep) (h1 : keep ≤ 4000) : faultD d (crashS keep) = 0 := by
  have hk : inR keep 0 4000 = true := inR_iff.2 ⟨h0, h1⟩
  unfold faultD
  have e1 : inR (crashS keep).1 1 8 = true := rfl
  have e2 : inR (crashS keep).1 1 6 = false := rfl
  have e3 : ieq (crashS keep).1 4 = false := rfl
  have e4 : ieq (crashS keep).1 5 = false := rfl
  have e5 : ieq (crashS keep).1 1 = false := rfl
  have e6 : ilt 4000 (slen (crashS keep).2.2.2.1) = false := rfl
  have e7 : inR (crashS keep).2.2.2.2.1 0 4000 = true := hk
  rw [e1, e2, e3, e4, e5, e6, e7]
  simp
theorem doD_crash {d : DDisk} (h : GoodD d) {keep : Int} (h0 : 0 ≤ keep) (h1 : keep ≤ 4000) : doD d (crashS keep) = (crashD d keep, 0) := by
  have hs : stepD d (crashS keep) = crashD d keep := rfl
  rw [doD_of h]
  unfold resD
  rw [fault_crash d h0 h1, hs, goodB_iff.2 (crash_good h h0)]
  rfl

theorem f_impl_NamesOfVal {d : DDisk} (h : GoodD d) : f_impl_NamesOf (d, ()) = some ((d.2.1.map (·.1), (true, ())), ()) := by
  refine Does.is ?_
  unfold f_impl_NamesOf
  rw [f_impl_GoodDiskVal d h.lens, bnd_some, goodB_iff.2 h, Bool.not_true, cond_false]
  dsimp only
  have hlen := h.len1
  refine Does.loop (c := f_impl_NamesOf_l5c) (v := f_impl_NamesOf_l5v) (ex := f_impl_NamesOf_l5e)
    (fun (xc : (List DBlob × Int × Unit) × Unit) (xv : (Int × Unit) × (List ByteArray × Unit)) => xc = ((d.2.1, (llen d.2.1, ())), ()) ∧ ∃ A B, d.2.1 = A ++ B ∧ xv = ((((A.length : Nat) : Int), ()), (A.map (·.1), ())))
    (fun _ (xv : (Int × Unit) × (List ByteArray × Unit)) => d.2.1.length - Int.toNat xv.1.1) ?_ ⟨rfl, [], d.2.1, rfl, rfl⟩
  rintro xc xv ⟨rfl, A, B, hl2, rfl⟩
  simp only [round, f_impl_NamesOf_l5]
  cases B with
  | nil =>
    rw [List.append_nil] at hl2
    rw [show ilt ((A.length : Nat) : Int) (llen d.2.1) = false from ilt_false.2 (by rw [hl2]; simp only [llen]; omega), cond_false]
    refine Does.val (Does.val ?_)
    rw [hl2]
  | cons y B =>
    have hAl : A.length + 1 ≤ d.2.1.length := by rw [hl2]; simp
    have e0 : d.2.1[A.length]? = some y := by rw [hl2]; simp
    rw [show ilt ((A.length : Nat) : Int) (llen d.2.1) = true by rw [hl2]; exact mid_lt A B y, cond_true, getO_at (by omega) (by rw [Int.toNat_natCast]; exact e0)]
    refine Does.req (by simp; omega) (Does.val ⟨⟨rfl, A ++ [y], B, by simp [hl2], ?_⟩, ?_⟩)
    · dsimp only
      rw [mid_next A y (by omega)]
      simp
    · dsimp only
      rw [mid_next A y (by omega)]
      simp only [List.length_append, List.length_cons, List.length_nil, Int.toNat_natCast]
      omega

/-- a name's place in a good list -/
theorem place {l : List DBlob} (hr : Rise l) {y : DBlob} (hy : y ∈ l) : hasN l y.1 = true ∧ ∃ z, l[(loN l y.1).length]? = some z ∧ z.2.1 = y.2.1 := by
  have hh := (hasN_iff hr (n := y.1)).2 ⟨y, hy, rfl⟩
  obtain ⟨z, h1, h2⟩ := hasN_get hh
  exact ⟨hh, z, h1, by rw [h2, blobN_of hr hy]⟩

theorem safeFile_has {d : DDisk} (h : GoodD d) {y b : DBlob} (hy : y ∈ d.2.2.1) (hb : d.1[y.2.1.toNat]? = some b) : f_impl_SafeFile (d, (y.1, ())) = some ((b.1.extract 0 b.2.1.toNat, (true, ())), ()) := by
  obtain ⟨hh, z, hz, hz2⟩ := place h.rise2 hy
  have hrg := NamesOk.rng h.2.2.2.1 h.2.1 y hy
  have hbr := inR_iff.1 (h.1 _ b hb).2
  unfold f_impl_SafeFile
  rw [f_impl_nameAtVal d.2.2.1 y.1 (by have := h.len2; omega) h.rise2, bnd_some, f_impl_GoodDiskVal d h.lens, bnd_some, goodB_iff.2 h, hh]
  dsimp only
  rw [Bool.not_true, cond_false, cond_true, ilt_nat, cond_false, getO_at (by omega) (by rw [Int.toNat_natCast]; exact hz), hz2, getO_at hrg.1 hb, req_of]
  rw [Bool.and_eq_true]
  exact ⟨decide_eq_true hbr.1, decide_eq_true hbr.2⟩

theorem readFile_has {d : DDisk} (h : GoodD d) {y b : DBlob} (hy : y ∈ d.2.1) (hb : d.1[y.2.1.toNat]? = some b) : f_impl_ReadFile (d, (y.1, ())) = some ((b.1, (true, ())), ()) := by
  obtain ⟨hh, z, hz, hz2⟩ := place h.rise1 hy
  have hrg := NamesOk.rng h.2.2.1 h.2.1 y hy
  unfold f_impl_ReadFile
  rw [f_impl_nameAtVal d.2.1 y.1 (by have := h.len1; omega) h.rise1, bnd_some, f_impl_GoodDiskVal d h.lens, bnd_some, goodB_iff.2 h, hh]
  dsimp only
  rw [Bool.not_true, cond_false, cond_true, ilt_nat, cond_false, getO_at (by omega) (by rw [Int.toNat_natCast]; exact hz), hz2, getO_at hrg.1 hb]

theorem readFile_no {d : DDisk} (h : GoodD d) {n : ByteArray} (hn : hasN d.2.1 n = false) : f_impl_ReadFile (d, (n, ())) = some (((⟨#[]⟩ : ByteArray), (false, ())), ()) := by
  unfold f_impl_ReadFile
  rw [f_impl_nameAtVal d.2.1 n (by have := h.len1; omega) h.rise1, bnd_some, f_impl_GoodDiskVal d h.lens, bnd_some, goodB_iff.2 h, hn]
  rfl

theorem GoodD.blob1 {d : DDisk} (h : GoodD d) {y : DBlob} (hy : y ∈ d.2.1) : ∃ b, d.1[y.2.1.toNat]? = some b := by
  have := NamesOk.rng h.2.2.1 h.2.1 y hy
  exact ⟨_, List.getElem?_eq_getElem (by omega)⟩
theorem GoodD.blob2 {d : DDisk} (h : GoodD d) {y : DBlob} (hy : y ∈ d.2.2.1) : ∃ b, d.1[y.2.1.toNat]? = some b := by
  have := NamesOk.rng h.2.2.2.1 h.2.1 y hy
  exact ⟨_, List.getElem?_eq_getElem (by omega)⟩

theorem numberOfD {l : List Int} (hb : ∀ x ∈ l, 0 ≤ x ∧ x < 256) (hl : l.length ≤ 9223372036854775807) : Does (f_laws_numberOf (l, ())) fun r => 0 ≤ r.1.1 ∧ r.1.1 < 1000003 := by
  unfold f_laws_numberOf
  refine Does.loop (c := f_laws_numberOf_l3c) (v := f_laws_numberOf_l3v) (ex := f_laws_numberOf_l3e)
    (fun (xc : ((List Int) × Int × Unit) × Unit) (xv : (Int × Int × Unit) × Unit) => xc = ((l, (llen l, ())), ()) ∧ ∃ (j : Nat) (n : Int), xv = ((n, ((j : Int), ())), ()) ∧ j ≤ l.length ∧ 0 ≤ n ∧ n < 1000003)
    (fun _ (xv : (Int × Int × Unit) × Unit) => l.length - Int.toNat xv.1.2.1) ?_ ⟨rfl, 0, 0, rfl, by omega, by decide, by decide⟩
  rintro xc xv ⟨rfl, j, n, rfl, hj, hn0, hn1⟩
  simp only [round, f_laws_numberOf_l3]
  refine Does.cond (fun hlt => ?_) (fun hlt => ?_)
  · have hlt := ilt_iff.1 hlt
    simp only [llen] at hlt
    refine Does.getO (by omega) (by omega) fun y hy => ?_
    have hyb := hb y (List.mem_of_getElem? hy)
    refine Does.val ?_
    dsimp only
    rw [wrap_i64 y (by omega), imul_i64 (by omega), iadd_i64 (by omega), iadd_i64 (by omega)]
    have := irem_range (a := 31 * n + y) (m := 1000003) (by omega) (by decide)
    exact ⟨⟨rfl, j + 1, _, rfl, by omega, this.1, this.2.1⟩, by omega⟩
  · exact Does.val (Does.val ⟨hn0, hn1⟩)

theorem extract_extract (s : ByteArray) {a b : Nat} (h : a ≤ b) : (s.extract 0 b).extract 0 a = s.extract 0 a := by
  rw [ByteArray.extract_extract]
  congr 1
  omega

theorem seq_self (a : ByteArray) : seq a a = true := (seq_iff a a).2 rfl

theorem doD_bad {d : DDisk} (h : goodB d = false) (s : DDiskStep) : doD d s = (zeroD, 1) := by unfold doD; rw [h]; rfl
end Go.Proofs.YthlnjkcpdkjipaaDoor
