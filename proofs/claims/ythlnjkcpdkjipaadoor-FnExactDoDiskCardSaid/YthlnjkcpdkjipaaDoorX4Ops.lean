/- Disks: what a step does to the lists, on both sides. -/
import Derived.Test.YthlnjkcpdkjipaaDoorX3List
set_option linter.all false
noncomputable section
namespace Go.Proofs.YthlnjkcpdkjipaaDoor
open Go Go.Proofs.YthlnjkcpdkjipaaDoor.Ev

theorem lo_take (l : List DBlob) (n : ByteArray) : l.take (loN l n).length = loN l n := by
  have h := lohi l n
  have : (loN l n ++ hiN l n).take (loN l n).length = loN l n := by simp
  rwa [h] at this
theorem lo_drop (l : List DBlob) (n : ByteArray) : l.drop (loN l n).length = hiN l n := by
  have h := lohi l n
  have : (loN l n ++ hiN l n).drop (loN l n).length = hiN l n := by simp
  rwa [h] at this
theorem lo_drop1 (l : List DBlob) (n : ByteArray) : l.drop ((loN l n).length + 1) = (hiN l n).tail := by
  rw [← List.drop_drop, lo_drop]; simp
theorem lo_le (l : List DBlob) (n : ByteArray) : (loN l n).length ≤ l.length := by
  have h := congrArg List.length (lohi l n)
  rw [List.length_append] at h; omega
theorem has_lt {l : List DBlob} {n : ByteArray} (h : hasN l n = true) : (loN l n).length < l.length := by
  obtain ⟨y, r, h1, h2, h3⟩ := hasN_split h
  have := congrArg List.length h3
  simp at this; omega

theorem req_of {R : Type} {b : Bool} (k : Option R) (h : b = true) : req b k = k := by rw [h]; rfl

theorem f_spec_l1PutVal (l : List DBlob) (x : DBlob) (hl : l.length ≤ 8589934592) : f_spec_l1Put (l, (x, ())) = some ((putN l x, ()), ()) := by
  unfold f_spec_l1Put
  rw [f_spec_l1AtVal l x.1 (by omega), bnd_some]
  dsimp only
  have hle := lo_le l x.1
  have et : List.take ((Int.toNat ((loN l x.1).length : Int)) - (0 : Nat)) (List.drop (0 : Nat) l) = loN l x.1 := by
    rw [Int.toNat_natCast, Nat.sub_zero, List.drop_zero, lo_take]
  rw [req_of _ (by simp; omega), et, List.nil_append, req_of _ (by simp; omega), req_of _ (by simp; omega)]
  unfold f_spec_l1Put_i6 putN
  dsimp only
  cases h : hasN l x.1 with
  | true =>
    have hlt := has_lt h
    rw [cond_true, cond_true, iadd_i64 (by omega)]
    have e1 : Int.toNat (((loN l x.1).length : Int) + 1) = (loN l x.1).length + 1 := by omega
    rw [req_of _ (by simp; omega), e1]
    have e2 : List.take (l.length - ((loN l x.1).length + 1)) (List.drop ((loN l x.1).length + 1) l) = (hiN l x.1).tail := by
      rw [List.take_of_length_le (by rw [List.length_drop]; omega), lo_drop1]
    rw [e2, req_of _ (by
      have h3 := congrArg List.length (lohi l x.1)
      simp at h3 ⊢
      omega)]
    simp
  | false =>
    rw [cond_false, cond_false]
    rw [req_of _ (by simp; omega), Int.toNat_natCast]
    have e2 : List.take (l.length - (loN l x.1).length) (List.drop (loN l x.1).length l) = hiN l x.1 := by
      rw [List.take_of_length_le (by rw [List.length_drop]; omega), lo_drop]
    rw [e2, req_of _ (by
      have h3 := congrArg List.length (lohi l x.1)
      simp at h3 ⊢
      omega)]
    simp

theorem f_spec_l1WithoutVal (l : List DBlob) (n : ByteArray) (hl : l.length ≤ 8589934592) : f_spec_l1Without (l, (n, ())) = some ((cutN l n, ()), ()) := by
  unfold f_spec_l1Without
  rw [f_spec_l1AtVal l n (by omega), bnd_some]
  dsimp only
  unfold cutN
  cases h : hasN l n with
  | false => rfl
  | true =>
    have hlt := has_lt h
    have et : List.take ((Int.toNat ((loN l n).length : Int)) - (0 : Nat)) (List.drop (0 : Nat) l) = loN l n := by
      rw [Int.toNat_natCast, Nat.sub_zero, List.drop_zero, lo_take]
    rw [Bool.not_true, cond_false, req_of _ (by simp; omega), et, req_of _ (by simp; omega), iadd_i64 (by omega), req_of _ (by simp; omega)]
    have e1 : Int.toNat (((loN l n).length : Int) + 1) = (loN l n).length + 1 := by omega
    have e2 : List.take (l.length - ((loN l n).length + 1)) (List.drop ((loN l n).length + 1) l) = (hiN l n).tail := by
      rw [List.take_of_length_le (by rw [List.length_drop]; omega), lo_drop1]
    rw [e1, e2, req_of _ (by
      have h3 := congrArg List.length (lohi l n)
      simp at h3 ⊢
      omega)]
    simp

/-! ### the program's -/
theorem mean_loop (l : List DBlob) (n : ByteArray) (b : Int) (d : DDisk) (hd : d.2.1 = l) (hl : l.length ≤ 8589934592) {R : Type} (kk : Vars f_impl_Disk_mean_l4c → Oc f_impl_Disk_mean_l4e → Option R) (Q : R → Prop)
    (h : Does (kk ((n, (b, ())), (d, ())) ((((loN l n).length : Int), ()), ())) Q) :
    Does (loopF (c := f_impl_Disk_mean_l4c) (v := f_impl_Disk_mean_l4v) (ex := f_impl_Disk_mean_l4e) f_impl_Disk_mean_l4 R ((n, (b, ())), (d, ())) (((0 : Int), ()), ()) kk) Q := by
  refine Does.loop (c := f_impl_Disk_mean_l4c) (v := f_impl_Disk_mean_l4v) (ex := f_impl_Disk_mean_l4e)
    (fun (xc : (ByteArray × Int × Unit) × (DDisk × Unit)) (xv : (Int × Unit) × Unit) => xc = ((n, (b, ())), (d, ())) ∧ ∃ A B : List DBlob, xv = (((A.length : Int), ()), ()) ∧ l = A ++ B ∧ (∀ y ∈ A, slt y.1 n = true))
    (fun _ (xv : (Int × Unit) × Unit) => l.length - Int.toNat xv.1.1) ?_ ⟨rfl, [], l, rfl, rfl, fun y h => by cases h⟩
  rintro xc xv ⟨rfl, A, B, rfl, hl2, hA⟩
  simp only [round, f_impl_Disk_mean_l4, hd]
  cases B with
  | nil =>
    rw [List.append_nil] at hl2
    subst hl2
    have e1 : loN l n = l := by have := List.takeWhile_append_of_pos (p := fun y : DBlob => slt y.1 n) (l₂ := []) hA; rw [List.append_nil] at this; rw [loN, this]; simp
    rw [show ilt ((l.length : Nat) : Int) (llen l) = false from ilt_false.2 (by simp only [llen]; omega), cond_false]
    refine Does.val ?_
    rw [e1] at h
    exact h
  | cons y B =>
    have e0 : l[A.length]? = some y := by rw [hl2]; simp
    rw [show ilt ((A.length : Nat) : Int) (llen l) = true by rw [hl2]; exact mid_lt A B y, cond_true, getO_at (by omega) (by rw [Int.toNat_natCast]; exact e0), Int.toNat_natCast, e0, bnd_some, bnd_some]
    cases hy : slt y.1 n with
    | true =>
      rw [cond_true]
      have hle : A.length < l.length := by rw [hl2]; simp
      refine Does.val ⟨⟨rfl, A ++ [y], B, ?_, by simp [hl2], fun z hz => ?_⟩, ?_⟩
      · dsimp only
        rw [mid_next A y (by omega)]
      · rcases List.mem_append.1 hz with hz | hz
        · exact hA z hz
        · rw [List.mem_singleton.1 hz]; exact hy
      · dsimp only
        rw [mid_next A y (by omega)]
        simp only [List.length_append, List.length_cons, List.length_nil, Int.toNat_natCast]
        omega
    | false =>
      rw [cond_false]
      refine Does.val ?_
      have e1 : loN l n = A := by rw [hl2, loN, List.takeWhile_append_of_pos hA]; simp [List.takeWhile, hy]
      rw [e1] at h
      exact h

theorem f_impl_meanVal (d : DDisk) (n : ByteArray) (b : Int) (hl : d.2.1.length ≤ 8589934592) (hr : Rise d.2.1) : f_impl_Disk_mean (d, (n, (b, ()))) = some ((), ((d.1, (putN d.2.1 (n, (b, ())), d.2.2)), ())) := by
  refine Does.is ?_
  unfold f_impl_Disk_mean
  rw [f_impl_nameAtVal d.2.1 n (by omega) hr, bnd_some]
  dsimp only
  unfold putN
  dsimp only
  cases h : hasN d.2.1 n with
  | true =>
    obtain ⟨y, r, h1, h2, h3⟩ := hasN_split h
    have hlt := has_lt h
    have e0 : d.2.1[(loN d.2.1 n).length]? = some y := by rw [← List.head?_drop, lo_drop, h1]; rfl
    rw [cond_true, show ile (0 : Int) ((loN d.2.1 n).length : Int) = true from ile_iff.2 (by omega), cond_true, getO_at (by omega) (by rw [Int.toNat_natCast]; exact e0), Int.toNat_natCast, e0, bnd_some, bnd_some]
    refine Does.val ?_
    have e1 : List.set d.2.1 (loN d.2.1 n).length (y.1, (b, y.2.2)) = loN d.2.1 n ++ (n, (b, ())) :: (hiN d.2.1 n).tail := by
      rw [h1]
      conv => lhs; arg 1; rw [h3]
      simp [h2]
    rw [e1, cond_true]
  | false =>
    rw [cond_false, show ile (0 : Int) (-1) = false from rfl, cond_false, cond_false]
    refine mean_loop d.2.1 n b d rfl hl _ _ ?_
    dsimp only
    have hle := lo_le d.2.1 n
    have e1 : f_slices_Insert kdBlob (d.2.1, (((loN d.2.1 n).length : Int), ([(n, (b, ()))], ()))) = some ((loN d.2.1 n ++ (n, (b, ())) :: hiN d.2.1 n, ()), ()) := by
      unfold f_slices_Insert
      rw [req_of _ (by simp; omega)]
      dsimp only
      rw [Int.toNat_natCast, lo_take, lo_drop]
      rfl
    rw [e1, bnd_some]
    exact Does.val rfl

theorem f_impl_forgetVal (d : DDisk) (n : ByteArray) (hl : d.2.1.length ≤ 8589934592) (hr : Rise d.2.1) (hh : hasN d.2.1 n = true) : f_impl_Disk_forget (d, (n, ())) = some ((), ((d.1, (cutN d.2.1 n, d.2.2)), ())) := by
  unfold f_impl_Disk_forget
  rw [f_impl_nameAtVal d.2.1 n (by omega) hr, bnd_some]
  dsimp only
  have hlt := has_lt hh
  rw [hh, cond_true, iadd_i64 (by omega)]
  have e1 : f_slices_Delete kdBlob (d.2.1, (((loN d.2.1 n).length : Int), ((((loN d.2.1 n).length : Int) + 1), ()))) = some ((cutN d.2.1 n, ()), ()) := by
    unfold f_slices_Delete
    rw [req_of _ (by
      rw [Bool.and_eq_true, Bool.and_eq_true]
      exact ⟨decide_eq_true (show (0 : Int) ≤ ((loN d.2.1 n).length : Int) from by omega), decide_eq_true (show ((loN d.2.1 n).length : Int) < ((loN d.2.1 n).length : Int) + 1 from by omega), decide_eq_true (show ((loN d.2.1 n).length : Int) + 1 ≤ (d.2.1.length : Int) from by omega)⟩)]
    dsimp only
    rw [Int.toNat_natCast, show Int.toNat (((loN d.2.1 n).length : Int) + 1) = (loN d.2.1 n).length + 1 by omega, lo_take, lo_drop1]
    unfold cutN
    rw [hh, cond_true]
  rw [e1, bnd_some]

theorem val_clone (l : List DBlob) (hl : l.length ≤ 17179869184) : f_slices_Clone_Name (l, ()) = some ((l, ()), ()) := by
  unfold f_slices_Clone_Name
  dsimp only
  rw [req_of _ (decide_eq_true hl)]
  cases l with
  | nil => unfold bothK; rw [if_pos rfl]; rfl
  | cons x l => rfl
theorem val_cloneB (l : List DBlob) (hl : l.length ≤ 17179869184) : f_slices_Clone_Blob (l, ()) = some ((l, ()), ()) := by
  unfold f_slices_Clone_Blob
  dsimp only
  rw [req_of _ (decide_eq_true hl)]
  cases l with
  | nil => unfold bothK; rw [if_pos rfl]; rfl
  | cons x l => rfl
theorem val_cloneDisk (d : DDisk) (h : LenOk d) : f_impl_cloneDisk (d, ()) = some ((d, ()), ()) := by
  unfold f_impl_cloneDisk
  rw [val_cloneB _ h.1, bnd_some, val_clone _ h.2.1, bnd_some, val_clone _ h.2.2.1, bnd_some]
theorem f_spec_l1OwnVal (d : DDisk) (h : LenOk d) : f_spec_l1Own (d, ()) = some ((d, ()), ()) := by
  unfold f_spec_l1Own
  rw [req_of _ (decide_eq_true h.1), req_of _ (decide_eq_true h.2.1), req_of _ (decide_eq_true h.2.2.1)]

/-! ### a crash -/
def keptI (keep : Int) (b : DBlob) : Int := cond (ilt (b.2.1 + keep) (slen b.1)) (b.2.1 + keep) (slen b.1)
def crashB (keep : Int) (b : DBlob) : DBlob := (b.1.extract 0 (keptI keep b).toNat, (keptI keep b, ()))
theorem keptI_rng {keep : Int} {b : DBlob} (h0 : 0 ≤ keep) (h1 : 0 ≤ b.2.1) : 0 ≤ keptI keep b ∧ keptI keep b ≤ slen b.1 := by
  unfold keptI
  have : 0 ≤ slen b.1 := by simp only [slen]; omega
  cases h : ilt (b.2.1 + keep) (slen b.1) with
  | true => have := ilt_iff.1 h; rw [cond_true]; omega
  | false => rw [cond_false]; omega

theorem f_spec_l1CrashVal (d : DDisk) (keep : Int) (hB : BlobsOk d.1) (hl : d.1.length ≤ 60) (hs : d.2.2.1.length ≤ 20) (h0 : 0 ≤ keep) (h1 : keep ≤ 4000) : f_spec_l1Crash (d, (keep, ())) = some (((d.1.map (crashB keep), (d.2.2.1, d.2.2)), ()), ()) := by
  refine Does.is ?_
  unfold f_spec_l1Crash
  rw [req_of _ (decide_eq_true (show d.2.2.1.length ≤ 17179869184 by omega))]
  refine Does.loop (c := f_spec_l1Crash_l3c) (v := f_spec_l1Crash_l3v) (ex := f_spec_l1Crash_l3e)
    (fun (xc : Unit × Unit) (xv : (Int × Int × Int × Unit) × (DDisk × DDisk × Unit)) => ∃ (A B : List DBlob) (z : DDisk), xv = ((keep, (llen d.1, ((A.length : Int), ()))), ((A.map (crashB keep) ++ B, (d.2.2.1, d.2.2)), (z, ()))) ∧ d.1 = A ++ B)
    (fun _ (xv : (Int × Int × Int × Unit) × (DDisk × DDisk × Unit)) => d.1.length - Int.toNat xv.1.2.2.1) ?_ ⟨[], d.1, _, rfl, rfl⟩
  rintro xc xv ⟨A, B, z, rfl, hAB⟩
  simp only [round, f_spec_l1Crash_l3]
  cases B with
  | nil =>
    rw [List.append_nil] at hAB
    rw [show ilt ((A.length : Nat) : Int) (llen d.1) = false by rw [hAB]; exact ilt_false.2 (by simp only [llen]; omega), cond_false]
    refine Does.val (Does.val ?_)
    dsimp only
    rw [List.append_nil, hAB]
  | cons b B =>
    have hle : A.length < d.1.length := by rw [hAB]; simp
    have hb : d.1[A.length]? = some b := by rw [hAB]; simp
    have e0 : (A.map (crashB keep) ++ b :: B)[A.length]? = some b := by
      have : (A.map (crashB keep)).length = A.length := by simp
      rw [← this]; simp
    obtain ⟨q1, q2⟩ := hB _ _ hb
    have q2 := inR_iff.1 q2
    rw [show ilt ((A.length : Nat) : Int) (llen d.1) = true by rw [hAB]; exact mid_lt A B b, cond_true, getO_at (by omega) (by rw [Int.toNat_natCast]; exact e0), Int.toNat_natCast, e0, bnd_some]
    have q3 : iadd .i64 b.2.1 keep = b.2.1 + keep := iadd_i64 (by omega)
    have hk := keptI_rng (b := b) h0 q2.1
    have fin : ∀ (m : Int), m = keptI keep b → ∀ (c3 : (Int × Int × Int × Int × Bool × Unit) × (DDisk × DDisk × DBlob × Unit)), c3 = ((keep, ((A.length : Int), (llen d.1, ((A.length : Int), (ilt (b.2.1 + keep) (slen b.1), ()))))), ((A.map (crashB keep) ++ b :: B, (d.2.2.1, d.2.2)), (z, (b, ())))) →
        Does (req (decide ((0 : Int) ≤ m) && decide (m ≤ ((ByteArray.size c3.2.2.2.1.1) : Int))) (getO c3.2.1.1 c3.1.2.1 fun _ => (bnd (c3.2.1.1[(Int.toNat c3.1.2.1)]?) fun v6 => (some (.inl (((), ()), ((c3.1.1, (c3.1.2.2.1, ((iadd .i64 c3.1.2.2.2.1 (1 : Int)), ()))), (((List.set c3.2.1.1 (Int.toNat c3.1.2.1) ((ByteArray.extract c3.2.2.2.1.1 (0 : Nat) (Int.toNat m)), (m, ()))), c3.2.1.2), (c3.2.2.1, ()))))))))) (fun zz : ((Unit × Unit) × ((Int × Int × Int × Unit) × (DDisk × DDisk × Unit))) ⊕ ((Unit × Unit) × (Unit × (DDisk × DDisk × Unit))) => match zz with
          | .inl p => (∃ (A B : List DBlob) (z : DDisk), p.2 = ((keep, (llen d.1, ((A.length : Int), ()))), ((A.map (crashB keep) ++ B, (d.2.2.1, d.2.2)), (z, ()))) ∧ d.1 = A ++ B) ∧ d.1.length - Int.toNat p.2.1.2.2.1 < d.1.length - Int.toNat ((A.length : Nat) : Int)
          | .inr q => Does (some ((q.2.2.1, ()), ()) : Option ((DDisk × Unit) × Unit)) fun r => r = ((((d.1.map (crashB keep), (d.2.2.1, d.2.2)) : DDisk), ()), ())) := by
      rintro m rfl c3 rfl
      dsimp only
      rw [req_of _ (by simp only [slen] at hk; simp; omega), getO_at (by omega) (by rw [Int.toNat_natCast]; exact e0), Int.toNat_natCast, e0, bnd_some]
      refine Does.val ⟨⟨A ++ [b], B, z, ?_, by rw [hAB]; simp⟩, ?_⟩
      · dsimp only
        rw [mid_next A b (by omega)]
        have e5 : List.set (A.map (crashB keep) ++ b :: B) A.length (b.1.extract 0 (keptI keep b).toNat, (keptI keep b, ())) = (A ++ [b]).map (crashB keep) ++ B := by
          have : (A.map (crashB keep)).length = A.length := by simp
          rw [← this, mid_set]
          simp [crashB]
        rw [e5]
      · dsimp only
        rw [mid_next A b (by omega)]
        simp only [List.length_append, List.length_cons, List.length_nil, Int.toNat_natCast]
        omega
    simp only [f_spec_l1Crash_i7, q3]
    cases hc : ilt (b.2.1 + keep) (slen b.1) with
    | true =>
      rw [cond_true]
      refine Does.mono (fin (b.2.1 + keep) (by unfold keptI; rw [hc, cond_true]) ((keep, ((A.length : Int), (llen d.1, ((A.length : Int), (true, ()))))), ((A.map (crashB keep) ++ b :: B, (d.2.2.1, d.2.2)), (z, (b, ())))) (by rw [hc])) fun zz hz => by cases zz <;> exact hz
    | false =>
      rw [cond_false]
      refine Does.mono (fin (slen b.1) (by unfold keptI; rw [hc, cond_false]) ((keep, ((A.length : Int), (llen d.1, ((A.length : Int), (false, ()))))), ((A.map (crashB keep) ++ b :: B, (d.2.2.1, d.2.2)), (z, (b, ())))) (by rw [hc])) fun zz hz => by cases zz <;> exact hz

theorem f_impl_crashVal (d : DDisk) (keep : Int) (hB : BlobsOk d.1) (hl : d.1.length ≤ 60) (hs : d.2.2.1.length ≤ 20) (h0 : 0 ≤ keep) (h1 : keep ≤ 4000) : f_impl_Disk_crash (d, (keep, ())) = some ((), ((d.1.map (crashB keep), (d.2.2.1, d.2.2)), ())) := by
  refine Does.is ?_
  unfold f_impl_Disk_crash
  rw [val_clone _ (show d.2.2.1.length ≤ 17179869184 by omega), bnd_some]
  refine Does.loop (c := f_impl_Disk_crash_l2c) (v := f_impl_Disk_crash_l2v) (ex := f_impl_Disk_crash_l2e)
    (fun (xc : (Int × Int × Unit) × Unit) (xv : (Int × Unit) × (DDisk × Unit)) => xc = ((keep, (llen d.1, ())), ()) ∧ ∃ (A B : List DBlob), xv = (((A.length : Int), ()), ((A.map (crashB keep) ++ B, (d.2.2.1, d.2.2)), ())) ∧ d.1 = A ++ B)
    (fun _ (xv : (Int × Unit) × (DDisk × Unit)) => d.1.length - Int.toNat xv.1.1) ?_ ⟨rfl, [], d.1, rfl, rfl⟩
  rintro xc xv ⟨rfl, A, B, rfl, hAB⟩
  simp only [round, f_impl_Disk_crash_l2]
  cases B with
  | nil =>
    rw [List.append_nil] at hAB
    rw [show ilt ((A.length : Nat) : Int) (llen d.1) = false by rw [hAB]; exact ilt_false.2 (by simp only [llen]; omega), cond_false]
    refine Does.val (Does.val ?_)
    dsimp only
    rw [List.append_nil, hAB]
  | cons b B =>
    have hle : A.length < d.1.length := by rw [hAB]; simp
    have hb : d.1[A.length]? = some b := by rw [hAB]; simp
    have hAl : (A.map (crashB keep)).length = A.length := by simp
    have e0 : (A.map (crashB keep) ++ b :: B)[A.length]? = some b := by
      rw [← hAl]; simp
    obtain ⟨q1, q2⟩ := hB _ _ hb
    have q2 := inR_iff.1 q2
    rw [show ilt ((A.length : Nat) : Int) (llen d.1) = true by rw [hAB]; exact mid_lt A B b, cond_true, getO_at (by omega) (by rw [Int.toNat_natCast]; exact e0), Int.toNat_natCast, e0]
    simp only [bnd_some]
    have q3 : iadd .i64 b.2.1 keep = b.2.1 + keep := iadd_i64 (by omega)
    have hk := keptI_rng (b := b) h0 q2.1
    have e1 : imin (iadd .i64 b.2.1 keep) (slen b.1) = keptI keep b := by
      rw [q3]
      unfold imin keptI
      by_cases hlt : b.2.1 + keep < slen b.1
      · rw [ilt_iff.2 hlt, cond_true, if_neg (by omega)]
      · rw [ilt_false.2 (by omega), cond_false]
        by_cases h5 : slen b.1 < b.2.1 + keep
        · rw [if_pos h5]
        · rw [if_neg h5]; omega
    rw [e1, req_of _ (by simp only [slen] at hk; simp; omega)]
    have e5 : ∀ v : DBlob, List.set (A.map (crashB keep) ++ b :: B) A.length v = A.map (crashB keep) ++ v :: B := fun v => by rw [← hAl, mid_set]
    have e6 : ∀ v : DBlob, (A.map (crashB keep) ++ v :: B)[A.length]? = some v := fun v => by rw [← hAl]; simp
    simp only [e5, e6, bnd_some]
    refine Does.val ⟨⟨rfl, A ++ [b], B, ?_, by rw [hAB]; simp⟩, ?_⟩
    · dsimp only
      rw [mid_next A b (by omega)]
      have e7 : List.set (A.map (crashB keep) ++ (b.1.extract 0 (keptI keep b).toNat, b.2) :: B) A.length (b.1.extract 0 (keptI keep b).toNat, (slen (b.1.extract 0 (keptI keep b).toNat), b.2.2)) = (A ++ [b]).map (crashB keep) ++ B := by
        rw [← hAl, mid_set]
        have : slen (b.1.extract 0 (keptI keep b).toNat) = keptI keep b := by
          simp only [slen, ByteArray.size_extract] at hk ⊢
          omega
        rw [this]
        simp [crashB]
      rw [e7]
    · dsimp only
      rw [mid_next A b (by omega)]
      simp only [List.length_append, List.length_cons, List.length_nil, Int.toNat_natCast]
      omega

end Go.Proofs.YthlnjkcpdkjipaaDoor
