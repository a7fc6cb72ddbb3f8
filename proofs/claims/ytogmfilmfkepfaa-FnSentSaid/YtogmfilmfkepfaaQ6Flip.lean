/- A bit turned. -/
import Derived.Test.YtogmfilmfkepfaaQ6Take
set_option linter.all false
noncomputable section
namespace Go.Proofs.Ytogmfilmfkepfaa
open Go Go.Proofs.Ytogmfilmfkepfaa.Ev

theorem app_left (A B : ByteArray) (i : Nat) (h : i < A.size) : (A ++ B)[i]? = A[i]? := by
  rw [getElem?_pos (A ++ B) i (by rw [ByteArray.size_append]; omega), getElem?_pos A i h, ByteArray.getElem_append_left h]
theorem app_right (A B : ByteArray) (i : Nat) (h : A.size ≤ i) : (A ++ B)[i]? = B[i - A.size]? := by
  by_cases hi : i < (A ++ B).size
  · rw [getElem?_pos (A ++ B) i hi, ByteArray.getElem_append_right h, getElem?_pos B (i - A.size) (by rw [ByteArray.size_append] at hi; omega)]
  · rw [getElem?_neg (A ++ B) i hi, getElem?_neg B (i - A.size) (by rw [ByteArray.size_append] at hi; omega)]
theorem strOf_get (l : List Int) (k : Nat) : (strOf l)[k]? = (l[k]?).map fun n => UInt8.ofNat n.toNat := by
  by_cases h : k < l.length
  · have h3 : k < (strOf l).size := by rw [strOf_size]; exact h
    rw [getElem?_pos (strOf l) k h3, List.getElem?_eq_getElem h]
    have e : (strOf l)[k]'h3 = (strOf l).data[k]'h3 := rfl
    rw [e]
    simp [strOf]
  · rw [getElem?_neg (strOf l) k (by rw [strOf_size]; exact h), List.getElem?_eq_none (by omega)]; rfl
theorem bytesOf_len (s : ByteArray) : (bytesOf s).length = s.size := by simp [bytesOf]
theorem bytes_get (s : ByteArray) (k : Nat) : (bytesOf s)[k]? = (s[k]?).map fun b => (b.toNat : Int) := by
  by_cases h : k < s.size
  · rw [getElem?_pos s k h]
    have e : s[k]'h = s.data[k]'h := rfl
    rw [e]
    simp [bytesOf]
    exact ⟨_, Array.getElem?_eq_getElem h, rfl⟩
  · rw [getElem?_neg s k h, List.getElem?_eq_none (by rw [bytesOf_len]; omega)]; rfl

def bitOk (d : ByteArray) (b : Int) : Bool := ile 0 b && ile b (8 * (d.size : Int) - 1)
def flD (d : ByteArray) (b : Int) : ByteArray := strOf (List.set (bytesOf d) (Int.toNat (iquo .i64 b (8 : Int))) (ixor .u8 (((bytesOf d)[Int.toNat (iquo .i64 b (8 : Int))]?).getD 0) (ishl .u8 (1 : Int) (irem .i64 b (8 : Int)))))
def fl (d : ByteArray) (b : Int) : ByteArray := bif bitOk d b then flD d b else d

theorem bits_of (d : ByteArray) (hd : d.size ≤ 1000000) : isub .i64 (imul .i64 (8 : Int) (slen d)) (1 : Int) = 8 * (d.size : Int) - 1 := by
  simp only [slen]
  rw [imul_i64 (by omega), isub_i64 (by omega)]
theorem bitOk_nat {d : ByteArray} {b : Int} (h : bitOk d b = true) : ∃ n : Nat, b = (n : Int) ∧ n / 8 < d.size := by
  simp only [bitOk, Bool.and_eq_true, ile_iff] at h
  exact ⟨b.toNat, by omega, by omega⟩
theorem quo8 (n : Nat) (h : n ≤ 8000000) : iquo .i64 (n : Int) (8 : Int) = ((n / 8 : Nat) : Int) := by
  show IntKind.wrap .i64 (Int.tdiv _ _) = _
  rw [Int.tdiv_eq_ediv_of_nonneg (by omega), wrap_i64 _ (by omega)]
  omega
theorem rem8 (n : Nat) : irem .i64 (n : Int) (8 : Int) = ((n % 8 : Nat) : Int) := by
  show Int.tmod _ _ = _
  rw [Int.tmod_eq_emod_of_nonneg (by omega)]; omega

theorem flD_size (d : ByteArray) (b : Int) : (flD d b).size = d.size := by rw [flD, strOf_size, List.length_set, bytesOf_len]
theorem fl_size (d : ByteArray) (b : Int) : (fl d b).size = d.size := by
  unfold fl; cases bitOk d b with
  | true => exact flD_size d b
  | false => rfl
theorem shl1 (n : Nat) (h : n < 8) : ishl .u8 (1 : Int) (n : Int) = ((2 ^ n : Nat) : Int) := by
  show IntKind.wrap .u8 _ = _
  rw [wrap_u8, Int.toNat_natCast, show min n (IntKind.bits .u8) = n from Nat.min_eq_left (by show n ≤ 8; omega)]
  have : (2 ^ n : Nat) < 256 := Nat.lt_of_lt_of_le (Nat.pow_lt_pow_right (by omega) h) (by decide)
  rw [Int.one_mul, show ((2 : Int) ^ n) = ((2 ^ n : Nat) : Int) by simp]
  generalize 2 ^ n = m at this ⊢
  omega

theorem flD_get {d : ByteArray} {n : Nat} (hd : d.size ≤ 1000000) (h : n / 8 < d.size) : (∀ k, k ≠ n / 8 → (flD d (n : Int))[k]? = d[k]?) ∧ (flD d (n : Int))[n / 8]? ≠ d[n / 8]? := by
  have e1 : Int.toNat (iquo .i64 (n : Int) (8 : Int)) = n / 8 := by rw [quo8 n (by omega), Int.toNat_natCast]
  unfold flD
  rw [e1, rem8]
  refine ⟨fun k hk => ?_, ?_⟩
  · rw [strOf_get, List.getElem?_set_ne (by omega), bytes_get]
    cases d[k]? with
    | none => rfl
    | some x => simp
  · have hb := getElem?_pos d (n / 8) h
    rw [strOf_get, List.getElem?_set_self (by rw [bytesOf_len]; exact h), bytes_get, hb]
    simp only [Option.map_some, Option.getD_some]
    intro he
    injection he with he
    have hp : (2 ^ (n % 8) : Nat) < 256 := Nat.lt_of_lt_of_le (Nat.pow_lt_pow_right (a := 2) (by omega) (show n % 8 < 8 by omega)) (by decide)
    rw [shl1 _ (by omega), ixor_u8N _ _ (UInt8.toNat_lt _) hp, Int.toNat_natCast] at he
    have hx : d[n / 8].toNat ^^^ 2 ^ (n % 8) < 256 := Nat.xor_lt_two_pow (n := 8) (UInt8.toNat_lt _) hp
    have h2 := congrArg UInt8.toNat he
    rw [UInt8.toNat_ofNat', Nat.mod_eq_of_lt (by exact hx)] at h2
    have h3 := congrArg (d[n / 8].toNat ^^^ ·) h2
    simp only [← Nat.xor_assoc, Nat.xor_self, Nat.zero_xor] at h3
    have := Nat.two_pow_pos (n % 8)
    omega

theorem ckSum_ne (i a : Nat) (d : ByteArray) (hd : d.size ≤ 1000000) (b : Int) (hb : bitOk d b = true) : ckSum i a d ≠ ckSum i a (flD d b) := by
  obtain ⟨n, rfl, hn⟩ := bitOk_nat hb
  obtain ⟨g1, g2⟩ := flD_get hd hn
  unfold ckSum
  generalize varB i ++ varB a = P
  refine sumOf_ne _ _ (by rw [ByteArray.size_append, ByteArray.size_append, flD_size]) (P.size + n / 8) (by rw [ByteArray.size_append]; omega) ?_ fun k hk => ?_
  · rw [app_right _ _ _ (by omega), app_right _ _ _ (by omega), show P.size + n / 8 - P.size = n / 8 by omega]
    exact fun h => g2 h.symm
  · by_cases hkp : k < P.size
    · rw [app_left _ _ _ hkp, app_left _ _ _ hkp]
    · rw [app_right _ _ _ (by omega), app_right _ _ _ (by omega), g1 _ (by omega)]

theorem f_impl_flippedVal (d : ByteArray) (hd : d.size ≤ 1000000) (b : Int) : f_impl_flipped (d, (b, ())) = some ((fl d b, ()), ()) := by
  unfold f_impl_flipped
  dsimp only
  rw [bits_of d hd, inVal, bnd_some]
  dsimp only
  rw [show (ile 0 b && ile b (8 * (d.size : Int) - 1)) = bitOk d b from rfl]
  unfold fl
  cases hb : bitOk d b with
  | false => rfl
  | true =>
    obtain ⟨n, rfl, hn⟩ := bitOk_nat hb
    rw [Bool.not_true, cond_false]
    rw [show Nat.beq (ByteArray.size d) 0 = false by cases e : d.size with
      | zero => omega
      | succ k => rfl, cond_false]
    have hg : (bytesOf d)[Int.toNat (iquo .i64 (n : Int) (8 : Int))]? = some ((d[n / 8].toNat : Nat) : Int) := by
      rw [quo8 n (by omega), Int.toNat_natCast, bytes_get, getElem?_pos d (n / 8) hn]; rfl
    have h0 : 0 ≤ iquo .i64 (n : Int) (8 : Int) := by rw [quo8 n (by omega)]; omega
    rw [getO_at h0 hg, hg, bnd_some, show ile (0 : Int) (irem .i64 (n : Int) (8 : Int)) = true from ile_iff.2 (by rw [rem8]; omega), req_true, getO_at h0 hg, bnd_some, cond_true]
    unfold flD
    rw [hg]
    rfl

theorem rem_wrap (n : Nat) : IntKind.wrap .u64 (irem .i64 (n : Int) (8 : Int)) = irem .i64 (n : Int) (8 : Int) := by
  rw [rem8, wrap_u64]; omega

theorem spec_i14Val {R : Type} (a : List Int) (x2 b : Int) (o : List Int) (n2 i : Int) (L : List DChunk) (t : DTaking) (c : DChunk) (hd : c.2.2.1.size ≤ 1000000) (kk : (((List Int) × Int × Int × (List Int) × Int × Int × Bool × Unit) × ((List DChunk) × DTaking × Unit)) → (Unit × (DChunk × Unit)) → Option R) :
    f_spec_PlayTaking_i14 R ((a, (x2, (b, (o, (n2, (i, (bitOk c.2.2.1 b, ()))))))), (L, (t, ()))) ((), (c, ())) kk = kk ((a, (x2, (b, (o, (n2, (i, (bitOk c.2.2.1 b, ()))))))), (L, (t, ()))) ((), ((c.1, (c.2.1, (fl c.2.2.1 b, c.2.2.2))), ())) := by
  obtain ⟨cf, ca, d, sm, ⟨⟩⟩ := c
  dsimp only at hd ⊢
  unfold f_spec_PlayTaking_i14
  dsimp only
  unfold fl
  cases hb : bitOk d b with
  | false => rfl
  | true =>
    obtain ⟨n, rfl, hn⟩ := bitOk_nat hb
    rw [cond_true]
    rw [show Nat.beq (ByteArray.size d) 0 = false by cases e : d.size with
      | zero => omega
      | succ k => rfl, cond_false]
    have hg : (bytesOf d)[Int.toNat (iquo .i64 (n : Int) (8 : Int))]? = some ((d[n / 8].toNat : Nat) : Int) := by
      rw [quo8 n (by omega), Int.toNat_natCast, bytes_get, getElem?_pos d (n / 8) hn]; rfl
    have h0 : 0 ≤ iquo .i64 (n : Int) (8 : Int) := by rw [quo8 n (by omega)]; omega
    rw [rem_wrap, getO_at h0 hg, hg, bnd_some, show ile (0 : Int) (irem .i64 (n : Int) (8 : Int)) = true from ile_iff.2 (by rw [rem8]; omega), req_true, getO_at h0 hg, bnd_some, cond_true]
    unfold flD
    rw [hg]
    rfl

end Go.Proofs.Ytogmfilmfkepfaa
