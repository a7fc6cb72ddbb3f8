/- What is drawn: edits, versions, texts of edits. There is an answer, of bounded size. -/
import Derived.Test.YtbekojfgnbnpcaaW9Edit
set_option linter.all false
noncomputable section
namespace Go.Proofs.Ytbekojfgnbnpcaa
open Go Go.Proofs.Ytbekojfgnbnpcaa.Ev

theorem f_spec_l1Cur_keySize {n : Nat} {x : Dl1Cur × Unit} (h : CurOk n x.1) (hn : n ≤ 1099511627770) : Does (f_spec_l1Cur_key x) fun r => r.1.1.size ≤ 17 ∧ CurOk (n + 4) r.2.1 := by
  unfold f_spec_l1Cur_key
  refine Does.bnd (f_spec_l1Cur_oneDoes (n := n) (x := (x.1, ((60 : Int), ()))) h (by omega)) fun r1 h1 => ?_
  refine Does.cond (fun _ => ?_) (fun _ => ?_)
  · refine Does.bnd (f_spec_l1Cur_ofDoes (n := n + 2) (x := (r1.2.1, (_, ()))) h1 (by omega) (by simp)) fun r2 h2 => Does.val ⟨?_, h2.2.le (by omega)⟩
    have := h2.1
    simp only [List.mem_cons, List.not_mem_nil, or_false] at this
    rcases this with h | h <;> rw [h] <;> decide
  · refine Does.bnd (f_spec_l1Cur_ofDoes (n := n + 2) (x := (r1.2.1, (_, ()))) h1 (by omega) (by simp)) fun r2 h2 => Does.val ⟨?_, h2.2.le (by omega)⟩
    have := h2.1
    simp only [List.mem_cons, List.not_mem_nil, or_false] at this
    rcases this with h | h | h | h | h | h | h <;> rw [h] <;> decide

theorem f_spec_l1Cur_metaDoes {n : Nat} {x : Dl1Cur × Int × Unit} (h : CurOk n x.1) (hn : n ≤ 1099511620000) : Does (f_spec_l1Cur_meta x) fun r => CurOk (n + 10) r.2.1 := by
  unfold f_spec_l1Cur_meta
  refine Does.bnd (f_spec_l1Cur_pickDoes (n := n) (x := (x.1, ((4 : Int), ()))) h (by omega)) fun r1 h1 => ?_
  refine Does.bnd (f_spec_l1Cur_keySize (n := n + 2) (x := (r1.2.1, ())) h1.2.2 (by omega)) fun r2 h2 => ?_
  refine Does.bnd (f_spec_l1Cur_ofDoes (n := n + 6) (x := (r2.2.1, (_, ()))) (h2.2.le (by omega)) (by omega) (by simp)) fun r3 h3 => ?_
  have hs : r3.1.1.size ≤ 1 := by
    have := h3.1
    simp only [List.mem_cons, List.not_mem_nil, or_false] at this
    rcases this with h | h | h <;> rw [h] <;> decide
  have h2s := h2.1
  refine Does.catO (by omega) ?_
  refine Does.bnd (f_spec_l1Cur_oneDoes (n := n + 8) (x := (r3.2.1, ((3 : Int), ()))) (h3.2.le (by omega)) (by omega)) fun r5 h5 => ?_
  unfold f_spec_l1Cur_meta_i4
  dsimp only
  exact Does.cond (fun _ => Does.val h5) (fun _ => Does.val h5)

theorem f_spec_l1Cur_editDoes {n : Nat} {c : Dl1Cur} {v : DVersion} (h : CurOk n c) (hn : n ≤ 1099511000000) (hv : v.2.2.1.length ≤ 100) :
    Does (f_spec_l1Cur_edit (c, (v, ()))) fun r => r.1.1.2.2.1.length ≤ 101 ∧ r.1.1.2.2.2.1.length ≤ 3 ∧ CurOk (n + 300) r.2.1 := by
  unfold f_spec_l1Cur_edit
  refine Does.bnd (f_spec_l1Cur_pickDoes (n := n) (x := (c, ((5 : Int), ()))) h (by omega)) fun r1 h1 => ?_
  refine Does.loop (c := f_spec_l1Cur_edit_l3c) (v := f_spec_l1Cur_edit_l3v) (ex := f_spec_l1Cur_edit_l3e)
    (fun (xc : Unit × Unit) (xv : ((List DMeta) × Int × Int × Unit) × (Dl1Cur × DEdit × DEdit × Unit)) => ∃ (j : Nat) (cu : Dl1Cur) (z e : DEdit), xv = ((v.2.2.1, (llen v.2.2.1, ((j : Int), ()))), (cu, (z, (e, ())))) ∧ j ≤ v.2.2.1.length ∧ CurOk (n + 2 + 2 * j) cu ∧ e.2.2.1.length ≤ j ∧ e.2.2.2.1 = [])
    (fun _ (xv : ((List DMeta) × Int × Int × Unit) × (Dl1Cur × DEdit × DEdit × Unit)) => v.2.2.1.length - Int.toNat xv.1.2.2.1) ?_ ⟨0, _, _, _, rfl, by omega, h1.2.2, by simp, rfl⟩
  rintro xc xv ⟨j, cu, z, e, rfl, hj, hcu, he1, he2⟩
  simp only [round, f_spec_l1Cur_edit_l3]
  refine Does.cond (fun hlt => ?_) (fun hlt => ?_)
  · have hlt := ilt_iff.1 hlt
    simp only [llen] at hlt
    refine Does.getO (by omega) (by omega) fun m hm => ?_
    refine Does.bnd (f_spec_l1Cur_oneDoes (n := n + 2 + 2 * j) (x := (cu, ((4 : Int), ()))) hcu (by omega)) fun r3 h3 => ?_
    unfold f_spec_l1Cur_edit_i6
    dsimp only
    rw [iadd_i64 (by omega)]
    refine Does.cond (fun _ => Does.req (by simp; omega) (Does.val ?_)) (fun _ => Does.val ?_)
    · exact ⟨⟨j + 1, _, _, _, rfl, by omega, h3.le (by omega), by simp; omega, he2⟩, by dsimp only; omega⟩
    · exact ⟨⟨j + 1, _, _, _, rfl, by omega, h3.le (by omega), by omega, he2⟩, by dsimp only; omega⟩
  · have hlt := ilt_false.1 hlt
    simp only [llen] at hlt
    refine Does.val ?_
    dsimp only
    refine Does.bnd (f_spec_l1Cur_pickDoes (n := n + 202) (x := (cu, ((3 : Int), ()))) (hcu.le (by omega)) (by omega)) fun r8 h8 => ?_
    have h80 := h8.1
    have h81 : r8.1.1 ≤ 2 := by
      rcases h8.2.1 with h | h
      · dsimp only at h; omega
      · omega
    refine Does.loop (c := f_spec_l1Cur_edit_l9c) (v := f_spec_l1Cur_edit_l9v) (ex := f_spec_l1Cur_edit_l9e)
      (fun (xc : Unit × Unit) (xv : (Int × Unit) × (Dl1Cur × DEdit × DEdit × Unit)) => ∃ (j : Nat) (cu : Dl1Cur) (z e : DEdit), xv = (((j : Int), ()), (cu, (z, (e, ())))) ∧ j ≤ 2 ∧ CurOk (n + 204 + 20 * (2 - j)) cu ∧ e.2.2.1.length ≤ 100 ∧ e.2.2.2.1.length + j ≤ 2)
      (fun _ (xv : (Int × Unit) × (Dl1Cur × DEdit × DEdit × Unit)) => Int.toNat xv.1.1) ?_ ⟨r8.1.1.toNat, r8.2.1, z, e, by rw [Int.toNat_of_nonneg h80], by omega, h8.2.2.le (by omega), by omega, by rw [he2]; simp; omega⟩
    rintro xc xv ⟨j, cu, z, e, rfl, hj, hcu, he1, he2⟩
    simp only [round, f_spec_l1Cur_edit_l9]
    refine Does.cond (fun hlt => ?_) (fun hlt => ?_)
    · have hlt := ilt_iff.1 hlt
      refine Does.bnd (f_spec_l1Cur_metaDoes (n := n + 204 + 20 * (2 - j)) (x := (cu, (e.1, ()))) hcu (by omega)) fun r9 h9 => ?_
      rw [f_spec_l9MetaVal, bnd_some]
      dsimp only
      have add : ∀ (b : Bool) (cu2 : Dl1Cur), CurOk (n + 204 + 20 * (2 - j) + 12) cu2 → Does (f_spec_l1Cur_edit_i13 _ (((j : Int), (b, ())), (cu2, (z, (r9.1.1, ())))) ((), (e, ())) fun c11 o12 => some (Sum.inl (((), ()), (((isub .i64 c11.1.1 (1 : Int)), ()), (c11.2.1, (c11.2.2.1, (o12.2.1, ()))))) : (((Unit × Unit) × ((Int × Unit) × (Dl1Cur × DEdit × DEdit × Unit))) ⊕ ((Unit × Unit) × (Unit × (Dl1Cur × DEdit × DEdit × Unit))))))
          fun z => ∃ (k : Nat) (cu : Dl1Cur) (z' e : DEdit), z = Sum.inl (((), ()), (((k : Int), ()), (cu, (z', (e, ()))))) ∧ k + 1 = j ∧ CurOk (n + 204 + 20 * (2 - k)) cu ∧ e.2.2.1.length ≤ 100 ∧ e.2.2.2.1.length + k ≤ 2 := fun b cu2 hcu2 => by
        unfold f_spec_l1Cur_edit_i13
        dsimp only
        rw [isub_i64 (by omega)]
        have hj1 : (j : Int) - 1 = ((j - 1 : Nat) : Int) := by omega
        rw [hj1]
        refine Does.cond (fun _ => Does.req ?_ (Does.val ?_)) (fun _ => Does.val ?_)
        · simp; omega
        · exact ⟨j - 1, cu2, z, (iadd .i64 e.1 (1 : Int), (e.2.1, (e.2.2.1, (e.2.2.2.1 ++ [r9.1.1], ())))), rfl, by omega, hcu2.le (by omega), he1, by simp; omega⟩
        · exact ⟨j - 1, cu2, z, e, rfl, by omega, hcu2.le (by omega), he1, by omega⟩
      refine Does.cond (fun _ => ?_) (fun _ => ?_)
      · refine (add true r9.2.1 (h9.le (by omega))).mono ?_
        rintro z ⟨k, cu, z', e, rfl, hk, q1, q2, q3⟩
        exact ⟨⟨k, cu, z', e, rfl, by omega, q1, q2, q3⟩, by dsimp only; omega⟩
      · refine Does.bnd (f_spec_l1Cur_oneDoes (n := n + 204 + 20 * (2 - j) + 10) (x := (r9.2.1, ((8 : Int), ()))) h9 (by omega)) fun r13 h13 => ?_
        refine (add r13.1.1 r13.2.1 (h13.le (by omega))).mono ?_
        rintro z ⟨k, cu, z', e, rfl, hk, q1, q2, q3⟩
        exact ⟨⟨k, cu, z', e, rfl, by omega, q1, q2, q3⟩, by dsimp only; omega⟩
    · have hlt := ilt_false.1 hlt
      refine Does.val ?_
      dsimp only
      refine Does.bnd (f_spec_l1Cur_pickDoes (n := n + 250) (x := (cu, ((40 : Int), ()))) (hcu.le (by omega)) (by omega)) fun r18 h18 => ?_
      unfold f_spec_l1Cur_edit_i17
      dsimp only
      refine Does.cond (fun _ => ?_) (fun _ => ?_)
      · refine Does.bnd (f_spec_l1Cur_pickDoes (n := n + 252) (x := (r18.2.1, ((5 : Int), ()))) (h18.2.2.le (by omega)) (by omega)) fun r19 h19 => ?_
        exact Does.req (by simp; omega) (Does.val ⟨by simp; omega, by dsimp only; omega, h19.2.2.le (by omega)⟩)
      · unfold f_spec_l1Cur_edit_i19
        dsimp only
        refine Does.cond (fun _ => ?_) (fun _ => Does.val ⟨by dsimp only; omega, by dsimp only; omega, h18.2.2.le (by omega)⟩)
        refine Does.bnd (f_spec_l1Cur_amongDoes (n := n + 252) (x := (r18.2.1, (_, ()))) (h18.2.2.le (by omega)) (by omega) (by simp)) fun r20 h20 => ?_
        exact Does.val ⟨by dsimp only; omega, by dsimp only; omega, h20.2.le (by omega)⟩

open Classical in
theorem f_spec_ApplyEditDoes (v : DVersion) (e : DEdit) (hv : v.2.2.1.length ≤ 1000) (h1 : e.2.2.1.length ≤ 1000) (h2 : e.2.2.2.1.length ≤ 1000) :
    Does (f_spec_ApplyEdit (v, (e, ()))) fun r => r.1.2.1 = true → GoodV r.1.1 := by
  unfold f_spec_ApplyEdit
  refine Does.bnd (f_spec_GoodVersionDoes (x := (v, ())) hv) fun r1 hr1 => ?_
  dsimp only at hr1 ⊢
  refine Does.cond (fun h => Does.val fun h => by cases h) (fun h => ?_)
  have hg : GoodV v := hr1.1 (by simpa using h)
  refine Does.bnd (f_spec_l9ApplyDoes v e hg h1 h2) fun r2 hr2 => Does.val ?_
  rw [hr2]
  dsimp only
  by_cases ha : AppOk v e
  · rw [appR_ok ha]; exact fun _ => ha.2.2.2.2
  · rw [appR_no ha]; exact fun h => by cases h

theorem GoodV.len {v : DVersion} (h : GoodV v) : v.2.2.1.length ≤ 30 := h.2.2.1.1

theorem f_spec_l1Cur_versionDoes {n : Nat} {x : Dl1Cur × Unit} (h : CurOk n x.1) (hn : n ≤ 1099510000000) : Does (f_spec_l1Cur_version x) fun r => r.1.1.2.2.1.length ≤ 30 ∧ CurOk (n + 3000) r.2.1 := by
  unfold f_spec_l1Cur_version f_spec_NewVersion
  rw [bnd_some]
  refine Does.bnd (f_spec_l1Cur_pickDoes (n := n) (x := (x.1, ((8 : Int), ()))) h (by omega)) fun r2 h2 => ?_
  have h20 := h2.1
  have h21 : r2.1.1 ≤ 7 := by
    rcases h2.2.1 with h | h
    · dsimp only at h; omega
    · omega
  refine Does.loop (c := f_spec_l1Cur_version_l3c) (v := f_spec_l1Cur_version_l3v) (ex := f_spec_l1Cur_version_l3e)
    (fun (xc : Unit × Unit) (xv : (Int × Unit) × (Dl1Cur × DVersion × DVersion × Unit)) => ∃ (j : Nat) (cu : Dl1Cur) (z v : DVersion), xv = (((j : Int), ()), (cu, (z, (v, ())))) ∧ j ≤ 7 ∧ CurOk (n + 2 + 300 * (7 - j)) cu ∧ v.2.2.1.length ≤ 30)
    (fun _ (xv : (Int × Unit) × (Dl1Cur × DVersion × DVersion × Unit)) => Int.toNat xv.1.1) ?_ ⟨r2.1.1.toNat, _, _, _, by rw [Int.toNat_of_nonneg h20], by omega, h2.2.2.le (by omega), by simp⟩
  rintro xc xv ⟨j, cu, z, v, rfl, hj, hcu, hv⟩
  simp only [round, f_spec_l1Cur_version_l3]
  refine Does.cond (fun hlt => ?_) (fun hlt => ?_)
  · have hlt := ilt_iff.1 hlt
    refine Does.bnd (f_spec_l1Cur_editDoes (n := n + 2 + 300 * (7 - j)) (c := cu) (v := v) hcu (by omega) (by omega)) fun r4 h4 => ?_
    refine Does.bnd (f_spec_ApplyEditDoes v r4.1.1 (by omega) (by omega) (by omega)) fun r5 h5 => ?_
    unfold f_spec_l1Cur_version_i7
    dsimp only
    refine Does.cond (fun hb => Does.val ?_) (fun hb => Does.val ?_)
    · rw [isub_i64 (by omega), show (j : Int) - 1 = ((j - 1 : Nat) : Int) by omega]
      exact ⟨⟨j - 1, _, _, _, rfl, by omega, h4.2.2.le (by omega), (h5 hb).len⟩, by dsimp only; omega⟩
    · rw [isub_i64 (by omega), show (j : Int) - 1 = ((j - 1 : Nat) : Int) by omega]
      exact ⟨⟨j - 1, _, _, _, rfl, by omega, h4.2.2.le (by omega), hv⟩, by dsimp only; omega⟩
  · refine Does.val ?_
    dsimp only
    refine Does.bnd (f_spec_l1Cur_pickDoes (n := n + 2102) (x := (cu, ((40 : Int), ()))) (hcu.le (by omega)) (by omega)) fun r9 h9 => ?_
    have h9c := h9.2.2
    unfold f_spec_l1Cur_version_i10
    dsimp only
    refine Does.cond (fun _ => ?_) (fun _ => ?_)
    · refine Does.bnd (f_spec_l1Cur_amongDoes (n := n + 2104) (x := (r9.2.1, (_, ()))) h9c (by omega) (by simp)) fun r10 h10 => ?_
      exact Does.val ⟨hv, h10.2.le (by omega)⟩
    · unfold f_spec_l1Cur_version_i12
      dsimp only
      refine Does.cond (fun _ => ?_) (fun _ => Does.val ⟨hv, h9c.le (by omega)⟩)
      unfold f_spec_l1Cur_version_i13
      dsimp only
      refine Does.cond (fun hl => ?_) (fun _ => Does.val ⟨hv, h9c.le (by omega)⟩)
      have hl := ilt_iff.1 hl
      simp only [llen] at hl
      refine Does.bnd (f_spec_l1Cur_pickDoes (n := n + 2104) (x := (r9.2.1, ((3 : Int), ()))) h9c (by omega)) fun r11 h11 => ?_
      refine Does.getO (by omega) (by omega) fun m hm => ?_
      rw [hm, bnd_some, bnd_some]
      exact Does.val ⟨by simpa using hv, h11.2.2.le (by omega)⟩

theorem cur0 {code : List Int} (hb : ∀ x ∈ code, 0 ≤ x ∧ x < 256) : CurOk 0 ((code, ((0 : Int), ((0 : Int), ()))) : Dl1Cur) := ⟨hb, by simp, by simp⟩

theorem f_spec_DrawEditBytesDoes {code : List Int} (hb : ∀ x ∈ code, 0 ≤ x ∧ x < 256) : Does (f_spec_DrawEditBytes (code, ())) fun r => r.1.1.2.2.1.length ≤ 1000 ∧ r.1.1.2.2.2.1.length ≤ 1000 := by
  unfold f_spec_DrawEditBytes
  refine Does.bnd (f_spec_l1Cur_versionDoes (n := 0) (cur0 hb) (by omega)) fun r1 h1 => ?_
  refine Does.bnd (f_spec_l1Cur_editDoes (n := 3000) (c := r1.2.1) (v := r1.1.1) (h1.2.le (by omega)) (by omega) (by omega)) fun r2 h2 => Does.val ⟨by dsimp only; omega, by dsimp only; omega⟩

theorem f_spec_l1Cur_tornDoes {n : Nat} {c : Dl1Cur} {s : ByteArray} (h : CurOk n c) (hn : n ≤ 1099510000000) (hs : s.size ≤ 1000000) : Does (f_spec_l1Cur_torn (c, (s, ()))) fun r => r.1.1.size ≤ 1000000 := by
  unfold f_spec_l1Cur_torn
  refine Does.bnd (f_spec_l1Cur_pickDoes (n := n) (x := (c, ((4 : Int), ()))) h (by omega)) fun r1 h1 => ?_
  have hc := h1.2.2
  refine Does.cond (fun _ => ?_) (fun _ => ?_)
  · refine Does.bnd (f_spec_l1Cur_pickDoes (n := n + 2) (x := (r1.2.1, (iadd .i64 (slen s) (1 : Int), ()))) hc (by omega)) fun r2 h2 => ?_
    have h20 := h2.1
    have h21 := h2.2.1
    simp only [slen] at h21
    rw [iadd_i64 (by omega)] at h21
    refine Does.req (by simp; omega) (Does.val ?_)
    dsimp only
    rw [ByteArray.size_extract]
    omega
  · unfold f_spec_l1Cur_torn_i5
    dsimp only
    refine Does.cond (fun _ => ?_) (fun _ => Does.val hs)
    refine Does.cond (fun _ => ?_) (fun hz => ?_)
    · exact Does.val hs
    · refine Does.cond (fun hl => ?_) (fun _ => Does.val hs)
      have hl := ilt_iff.1 hl
      simp only [llen] at hl
      have hbl : (bytesOf s).length = s.size := by simp [bytesOf]
      refine Does.bnd (f_spec_l1Cur_pickDoes (n := n + 2) (x := (r1.2.1, (llen (bytesOf s), ()))) hc (by omega)) fun r7 h7 => ?_
      have h70 := h7.1
      have h71 := h7.2.1
      simp only [llen] at h71
      refine Does.getO h70 (by omega) fun y hy => ?_
      rw [hy, bnd_some]
      refine Does.bnd (f_spec_l1Cur_pickDoes (n := n + 4) (x := (r7.2.1, ((8 : Int), ()))) h7.2.2 (by omega)) fun r10 h10 => ?_
      refine Does.req (ile_iff.2 (wrap_range _ rfl).1) ?_
      refine Does.getO h70 (by omega) fun y2 hy2 => ?_
      rw [bnd_some]
      refine Does.val ?_
      dsimp only
      show (strOf _).size ≤ 1000000
      rw [strOf_size, List.length_set, hbl]
      exact hs

theorem edB_size (e : DEdit) : (edB e).1.size ≤ 1000 := by
  unfold edB
  split
  · rename_i h; exact h.2
  · show (⟨#[]⟩ : ByteArray).size ≤ 1000; decide

theorem f_spec_DrawRecoverVersionDoes {code : List Int} (hb : ∀ x ∈ code, 0 ≤ x ∧ x < 256) : Does (f_spec_DrawRecoverVersion (code, ())) fun r => r.1.1.size ≤ 1000000 := by
  unfold f_spec_DrawRecoverVersion f_spec_NewVersion
  rw [bnd_some]
  refine Does.bnd (f_spec_l1Cur_pickDoes (n := 0) (x := ((code, ((0 : Int), ((0 : Int), ()))), ((6 : Int), ()))) (cur0 hb) (by omega)) fun r2 h2 => ?_
  have h20 := h2.1
  have h21 : r2.1.1 ≤ 5 := by
    rcases h2.2.1 with h | h
    · dsimp only at h; omega
    · omega
  refine Does.loop (c := f_spec_DrawRecoverVersion_l5c) (v := f_spec_DrawRecoverVersion_l5v) (ex := f_spec_DrawRecoverVersion_l5e)
    (fun (xc : Unit × Unit) (xv : (ByteArray × Int × Unit) × (DVersion × Dl1Cur × Unit)) => ∃ (j : Nat) (s : ByteArray) (v : DVersion) (cu : Dl1Cur), xv = ((s, ((j : Int), ())), (v, (cu, ()))) ∧ j ≤ 5 ∧ s.size ≤ 2000 * (5 - j) ∧ CurOk (2 + 400 * (5 - j)) cu ∧ v.2.2.1.length ≤ 30)
    (fun _ (xv : (ByteArray × Int × Unit) × (DVersion × Dl1Cur × Unit)) => Int.toNat xv.1.2.1) ?_ ⟨r2.1.1.toNat, _, _, _, by rw [Int.toNat_of_nonneg h20], by omega, Nat.zero_le _, h2.2.2.le (by omega), by simp⟩
  rintro xc xv ⟨j, s, v, cu, rfl, hj, hs, hcu, hv⟩
  simp only [round, f_spec_DrawRecoverVersion_l5]
  refine Does.cond (fun hlt => ?_) (fun hlt => ?_)
  · have hlt := ilt_iff.1 hlt
    refine Does.bnd (f_spec_l1Cur_editDoes (n := 2 + 400 * (5 - j)) (c := cu) (v := v) hcu (by omega) (by omega)) fun r3 h3 => ?_
    refine Does.bnd (f_spec_ApplyEditDoes v r3.1.1 (by omega) (by omega) (by omega)) fun r4 h4 => ?_
    refine Does.bnd (f_spec_EditBytesDoes r3.1.1 (by omega) (by omega)) fun r5 h5 => ?_
    have hts : r5.1.1.size ≤ 1000 := by rw [h5]; exact edB_size _
    have h3c := h3.2.2
    have step : ∀ (b : Bool) (cu2 : Dl1Cur) (b4 : Bool) (v2 : DVersion), (b4 = true → GoodV v2) → CurOk (2 + 400 * (5 - j) + 320) cu2 → Does (f_spec_DrawRecoverVersion_i11 _ ((), ()) ((s, ((j : Int), (b4, (r5.1.1, (b, ()))))), (v, (v2, (cu2, ())))) fun c6 o7 => some (Sum.inl (((), ()), ((o7.1.1, ((isub .i64 o7.1.2.1 (1 : Int)), ())), (o7.2.1, (o7.2.2.1, ())))) : (((Unit × Unit) × ((ByteArray × Int × Unit) × (DVersion × Dl1Cur × Unit))) ⊕ ((Unit × Unit) × ((ByteArray × Unit) × (DVersion × Dl1Cur × Unit))))))
        fun z => ∃ (k : Nat) (s : ByteArray) (v : DVersion) (cu : Dl1Cur), z = Sum.inl (((), ()), ((s, ((k : Int), ())), (v, (cu, ())))) ∧ k + 1 = j ∧ s.size ≤ 2000 * (5 - k) ∧ CurOk (2 + 400 * (5 - k)) cu ∧ v.2.2.1.length ≤ 30 := fun b cu2 b4 v2 hg hc2 => by
      unfold f_spec_DrawRecoverVersion_i11
      dsimp only
      have hj1 : (j : Int) - 1 = ((j - 1 : Nat) : Int) := by omega
      refine Does.cond (fun _ => ?_) (fun _ => Does.val ?_)
      · rw [f_spec_l2FrameVal _ (by dsimp only; omega), bnd_some]
        have hfs := frameB_size r5.1.1
        refine Does.catO (by dsimp only; omega) ?_
        unfold f_spec_DrawRecoverVersion_i13
        dsimp only
        rw [isub_i64 (by omega), hj1]
        refine Does.cond (fun h4 => Does.val ?_) (fun _ => Does.val ?_)
        · exact ⟨j - 1, s ++ frameB r5.1.1, v2, cu2, rfl, by omega, by rw [ByteArray.size_append]; omega, hc2.le (by omega), (hg h4).len⟩
        · exact ⟨j - 1, s ++ frameB r5.1.1, v, cu2, rfl, by omega, by rw [ByteArray.size_append]; omega, hc2.le (by omega), hv⟩
      · rw [isub_i64 (by omega), hj1]
        exact ⟨j - 1, s, v, cu2, rfl, by omega, by omega, hc2.le (by omega), hv⟩
    have fin : ∀ {o : Option (((Unit × Unit) × ((ByteArray × Int × Unit) × (DVersion × Dl1Cur × Unit))) ⊕ ((Unit × Unit) × ((ByteArray × Unit) × (DVersion × Dl1Cur × Unit))))}, Does o (fun z => ∃ (k : Nat) (s : ByteArray) (v : DVersion) (cu : Dl1Cur), z = Sum.inl (((), ()), ((s, ((k : Int), ())), (v, (cu, ())))) ∧ k + 1 = j ∧ s.size ≤ 2000 * (5 - k) ∧ CurOk (2 + 400 * (5 - k)) cu ∧ v.2.2.1.length ≤ 30) →
        ∃ (k : Nat) (s : ByteArray) (v : DVersion) (cu : Dl1Cur), o = some (Sum.inl (((), ()), ((s, ((k : Int), ())), (v, (cu, ()))))) ∧ k + 1 = j ∧ s.size ≤ 2000 * (5 - k) ∧ CurOk (2 + 400 * (5 - k)) cu ∧ v.2.2.1.length ≤ 30 := fun h => by
      obtain ⟨z, e, k, s, v, cu, rfl, q⟩ := h
      exact ⟨k, s, v, cu, e, q⟩
    have one := f_spec_l1Cur_oneDoes (n := 2 + 400 * (5 - j) + 300) (x := (r3.2.1, ((8 : Int), ()))) h3c (by omega)
    refine Does.cond (fun b4 => ?_) (fun b4 => ?_)
    · refine Does.cond (fun _ => ?_) (fun _ => ?_)
      · refine (step true r3.2.1 r4.1.2.1 r4.1.1 h4 (h3c.le (by omega))).mono ?_
        rintro z ⟨k, s, v, cu, rfl, hk, q1, q2, q3⟩
        exact ⟨⟨k, s, v, cu, rfl, by omega, q1, q2, q3⟩, by dsimp only; omega⟩
      · refine Does.cond (fun _ => ?_) (fun _ => ?_)
        · refine Does.bnd one fun r8 h8 => ?_
          refine (step r8.1.1 r8.2.1 r4.1.2.1 r4.1.1 h4 (h8.le (by omega))).mono ?_
          rintro z ⟨k, s, v, cu, rfl, hk, q1, q2, q3⟩
          exact ⟨⟨k, s, v, cu, rfl, by omega, q1, q2, q3⟩, by dsimp only; omega⟩
        · refine (step false r3.2.1 r4.1.2.1 r4.1.1 h4 (h3c.le (by omega))).mono ?_
          rintro z ⟨k, s, v, cu, rfl, hk, q1, q2, q3⟩
          exact ⟨⟨k, s, v, cu, rfl, by omega, q1, q2, q3⟩, by dsimp only; omega⟩
    · refine Does.cond (fun _ => ?_) (fun _ => ?_)
      · refine Does.bnd one fun r8 h8 => ?_
        refine (step r8.1.1 r8.2.1 r4.1.2.1 r4.1.1 h4 (h8.le (by omega))).mono ?_
        rintro z ⟨k, s, v, cu, rfl, hk, q1, q2, q3⟩
        exact ⟨⟨k, s, v, cu, rfl, by omega, q1, q2, q3⟩, by dsimp only; omega⟩
      · refine (step false r3.2.1 r4.1.2.1 r4.1.1 h4 (h3c.le (by omega))).mono ?_
        rintro z ⟨k, s, v, cu, rfl, hk, q1, q2, q3⟩
        exact ⟨⟨k, s, v, cu, rfl, by omega, q1, q2, q3⟩, by dsimp only; omega⟩
  · refine Does.val ?_
    dsimp only
    refine Does.bnd (f_spec_l1Cur_tornDoes (n := 3000) (c := cu) (s := s) (hcu.le (by omega)) (by omega) (by omega)) fun r20 h20 => Does.val h20

end Go.Proofs.Ytbekojfgnbnpcaa
