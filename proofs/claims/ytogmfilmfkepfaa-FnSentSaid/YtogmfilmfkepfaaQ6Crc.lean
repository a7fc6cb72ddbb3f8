/- A byte changed changes the sum. -/
import Derived.Test.YtogmfilmfkepfaaQ6Sum
set_option linter.all false
noncomputable section
namespace Go.Proofs.Ytogmfilmfkepfaa
open Go Go.Proofs.Ytogmfilmfkepfaa.Ev

theorem crc_range : (crcTable 256).all (fun z => decide (0 ≤ z) && decide (z < 4294967296)) = true := by decide +kernel
def topsDistinct : List Int → Bool
  | [] => true
  | x :: l => l.all (fun y => !decide (x / 16777216 = y / 16777216)) && topsDistinct l
theorem crc_tops : topsDistinct (crcTable 256) = true := by decide +kernel

theorem tops_inj : ∀ {l : List Int}, topsDistinct l = true → ∀ {i j : Nat} {x y : Int}, l[i]? = some x → l[j]? = some y → x / 16777216 = y / 16777216 → i = j
  | [], _, i, _, _, _, h, _, _ => by simp at h
  | a :: l, hl, i, j, x, y, hx, hy, he => by
    simp only [topsDistinct, Bool.and_eq_true, List.all_eq_true] at hl
    cases i with
    | zero =>
      cases j with
      | zero => rfl
      | succ j =>
        simp at hx hy
        subst hx
        have := hl.1 y (List.mem_of_getElem? hy)
        simp [he] at this
    | succ i =>
      cases j with
      | zero =>
        simp at hx hy
        subst hy
        have := hl.1 x (List.mem_of_getElem? hx)
        simp [he] at this
      | succ j =>
        simp at hx hy
        rw [tops_inj hl.2 hx hy he]

theorem ixor_u32N (a b : Nat) (ha : a < 4294967296) (hb : b < 4294967296) : ixor .u32 (a : Int) (b : Int) = ((a ^^^ b : Nat) : Int) := by
  have h := Nat.xor_lt_two_pow (n := 32) ha hb
  have e : (BitVec.ofInt 32 (a : Int) ^^^ BitVec.ofInt 32 (b : Int)).toNat = a ^^^ b := by
    rw [BitVec.toNat_xor, ofInt_nat, ofInt_nat, Nat.mod_eq_of_lt (a := a) (by omega), Nat.mod_eq_of_lt (a := b) (by omega)]
  show IntKind.u32.wrap ((BitVec.ofInt 32 (a : Int) ^^^ BitVec.ofInt 32 (b : Int)).toNat : Int) = _
  rw [e, wrap_u32]
  omega
theorem ixor_u8N (a b : Nat) (ha : a < 256) (hb : b < 256) : ixor .u8 (a : Int) (b : Int) = ((a ^^^ b : Nat) : Int) := by
  have h := Nat.xor_lt_two_pow (n := 8) ha hb
  have e : (BitVec.ofInt 8 (a : Int) ^^^ BitVec.ofInt 8 (b : Int)).toNat = a ^^^ b := by
    rw [BitVec.toNat_xor, ofInt_nat, ofInt_nat, Nat.mod_eq_of_lt (a := a) (by omega), Nat.mod_eq_of_lt (a := b) (by omega)]
  show IntKind.u8.wrap ((BitVec.ofInt 8 (a : Int) ^^^ BitVec.ofInt 8 (b : Int)).toNat : Int) = _
  rw [e, wrap_u8]
  omega

/-- one step of a sum -/
theorem step_at (m b : Nat) (hm : m < 4294967296) (hb : b < 256) : ∃ z : Nat, z < 4294967296 ∧ (crcTable 256)[(m % 256) ^^^ b]? = some (z : Int) ∧
    (crcTable 256)[Int.toNat (ixor .u8 (IntKind.wrap .u8 (m : Int)) (b : Int))]? = some (z : Int) ∧ ixor .u32 (z : Int) (ishr .u32 (m : Int) (8 : Int)) = ((z ^^^ (m / 256) : Nat) : Int) ∧ z ^^^ (m / 256) < 4294967296 := by
  have hx : (m % 256) ^^^ b < 256 := Nat.xor_lt_two_pow (n := 8) (by omega) hb
  have he := List.getElem?_eq_getElem (l := crcTable 256) (i := (m % 256) ^^^ b) (by rw [crcTable_length]; exact hx)
  have hr := List.all_eq_true.1 crc_range _ (List.mem_of_getElem? he)
  simp only [Bool.and_eq_true, decide_eq_true_eq] at hr
  obtain ⟨z, hz⟩ := Int.eq_ofNat_of_zero_le hr.1
  rw [hz] at he hr
  refine ⟨z, by omega, he, ?_, ?_, Nat.xor_lt_two_pow (n := 32) (by omega) (by omega)⟩
  · rw [show IntKind.wrap .u8 (m : Int) = ((m % 256 : Nat) : Int) by rw [wrap_u8]; omega, ixor_u8N _ _ (by omega) hb, Int.toNat_natCast]; exact he
  · rw [show ishr .u32 (m : Int) (8 : Int) = ((m / 256 : Nat) : Int) from by
      have := ishr_div (k := .u32) (a := (m : Int)) 8 (by decide)
      rw [show ((8 : Nat) : Int) = (8 : Int) from rfl] at this
      rw [this]; omega]
    exact ixor_u32N _ _ (by omega) (by omega)

theorem step_inj {m1 m2 b1 b2 z1 z2 : Nat} (h1 : m1 < 4294967296) (h2 : m2 < 4294967296) (hz1 : z1 < 4294967296) (hz2 : z2 < 4294967296)
    (e1 : (crcTable 256)[(m1 % 256) ^^^ b1]? = some (z1 : Int)) (e2 : (crcTable 256)[(m2 % 256) ^^^ b2]? = some (z2 : Int)) (h : z1 ^^^ (m1 / 256) = z2 ^^^ (m2 / 256)) :
    (m1 % 256) ^^^ b1 = (m2 % 256) ^^^ b2 ∧ m1 / 256 = m2 / 256 := by
  have ht : z1 / 16777216 = z2 / 16777216 := by
    have : (z1 ^^^ (m1 / 256)) >>> 24 = (z2 ^^^ (m2 / 256)) >>> 24 := by rw [h]
    rw [Nat.shiftRight_xor_distrib, Nat.shiftRight_xor_distrib, Nat.shiftRight_eq_div_pow, Nat.shiftRight_eq_div_pow, Nat.shiftRight_eq_div_pow, Nat.shiftRight_eq_div_pow, show m1 / 256 / 2 ^ 24 = 0 by omega, show m2 / 256 / 2 ^ 24 = 0 by omega, Nat.xor_zero, Nat.xor_zero] at this
    exact this
  have hi := tops_inj crc_tops e1 e2 (by omega)
  refine ⟨hi, ?_⟩
  rw [hi] at e1
  rw [e1] at e2
  injection e2 with e2
  have : z1 = z2 := by omega
  subst this
  have := congrArg (z1 ^^^ ·) h
  simp only [← Nat.xor_assoc, Nat.xor_self, Nat.zero_xor] at this
  exact this

theorem sumGo_inj (s : ByteArray) : ∀ (f i m1 m2 : Nat), f + i = s.size → m1 < 4294967296 → m2 < 4294967296 → sumGo s f i (m1 : Int) = sumGo s f i (m2 : Int) → m1 = m2
  | 0, i, m1, m2, hf, h1, h2, h => by simp only [sumGo] at h; omega
  | f + 1, i, m1, m2, hf, h1, h2, h => by
    have hb : s[i]? = some s[i] := getElem?_pos s i (by omega)
    obtain ⟨z1, a1, a2, a3, a4, a5⟩ := step_at m1 s[i].toNat h1 s[i].toNat_lt
    obtain ⟨z2, b1, b2, b3, b4, b5⟩ := step_at m2 s[i].toNat h2 s[i].toNat_lt
    simp only [sumGo, hb, a3, b3, a4, b4] at h
    have := sumGo_inj s f (i + 1) _ _ (by omega) a5 b5 h
    obtain ⟨c1, c2⟩ := step_inj h1 h2 a1 b1 a2 b2 this
    have c3 := congrArg (· ^^^ s[i].toNat) c1
    simp only [Nat.xor_assoc, Nat.xor_self, Nat.xor_zero] at c3
    omega

theorem sumGo_same (s s' : ByteArray) : ∀ (f i : Nat) (m : Int), (∀ k, i ≤ k → s[k]? = s'[k]?) → sumGo s f i m = sumGo s' f i m
  | 0, i, m, h => rfl
  | f + 1, i, m, h => by
    simp only [sumGo]
    rw [h i (Nat.le_refl _)]
    cases s'[i]? with
    | none => rfl
    | some b =>
      dsimp only
      cases (crcTable 256)[Int.toNat (ixor .u8 (IntKind.wrap .u8 m) (b.toNat : Int))]? with
      | none => rfl
      | some z => exact sumGo_same s s' f (i + 1) _ fun k hk => h k (by omega)

theorem sumGo_range (s : ByteArray) : ∀ (f i m : Nat), m < 4294967296 → ∃ r : Nat, r < 4294967296 ∧ sumGo s f i (m : Int) = (r : Int)
  | 0, i, m, h => ⟨m, h, rfl⟩
  | f + 1, i, m, h => by
    cases e : s[i]? with
    | none => exact ⟨m, h, by simp only [sumGo, e]⟩
    | some b =>
      obtain ⟨z, a1, a2, a3, a4, a5⟩ := step_at m b.toNat h b.toNat_lt
      simp only [sumGo, e, a3, a4]
      exact sumGo_range s f (i + 1) _ a5

/-- where two texts first differ in one byte alone, they differ in their sums -/
theorem sumGo_ne (s s' : ByteArray) (hs : s.size = s'.size) (j : Nat) (hj : j < s.size) (hne : s[j]? ≠ s'[j]?) (hsame : ∀ k, k ≠ j → s[k]? = s'[k]?) : ∀ (f i m : Nat), f + i = s.size → i ≤ j → m < 4294967296 → sumGo s f i (m : Int) ≠ sumGo s' f i (m : Int)
  | 0, i, m, hf, hi, hm => by omega
  | f + 1, i, m, hf, hi, hm => by
    intro h
    have hb : s[i]? = some s[i] := getElem?_pos s i (by omega)
    have hb' : s'[i]? = some s'[i] := getElem?_pos s' i (by omega)
    obtain ⟨z1, a1, a2, a3, a4, a5⟩ := step_at m s[i].toNat hm s[i].toNat_lt
    obtain ⟨z2, b1, b2, b3, b4, b5⟩ := step_at m s'[i].toNat hm s'[i].toNat_lt
    simp only [sumGo, hb, hb', a3, b3, a4, b4] at h
    rcases Nat.eq_or_lt_of_le hi with rfl | hi
    · rw [sumGo_same s s' f (i + 1) _ fun k hk => hsame k (by omega)] at h
      have := sumGo_inj s' f (i + 1) _ _ (by omega) a5 b5 h
      obtain ⟨c1, c2⟩ := step_inj hm hm a1 b1 a2 b2 this
      have c3 := congrArg ((m % 256) ^^^ ·) c1
      simp only [← Nat.xor_assoc, Nat.xor_self, Nat.zero_xor] at c3
      exact hne (by rw [hb, hb', UInt8.toNat_inj.1 c3])
    · have e : s[i] = s'[i] := by
        have := hsame i (by omega)
        rw [hb, hb'] at this
        injection this
      rw [← e, a2] at b2
      injection b2 with b2
      have e2 : z1 = z2 := by omega
      subst e2
      exact sumGo_ne s s' hs j hj hne hsame f (i + 1) _ (by omega) (by omega) a5 h

theorem inot_inj {a b : Nat} (ha : a < 4294967296) (hb : b < 4294967296) (h : inot .u32 (a : Int) = inot .u32 (b : Int)) : a = b := by
  have e : ∀ x : Nat, x < 4294967296 → inot .u32 (x : Int) = ((4294967295 ^^^ x : Nat) : Int) := fun x hx => ixor_u32N 4294967295 x (by omega) hx
  rw [e a ha, e b hb] at h
  have h : 4294967295 ^^^ a = 4294967295 ^^^ b := by omega
  have := congrArg (4294967295 ^^^ ·) h
  simp only [← Nat.xor_assoc, Nat.xor_self, Nat.zero_xor] at this
  exact this

theorem sumOf_ne (s s' : ByteArray) (hs : s.size = s'.size) (j : Nat) (hj : j < s.size) (hne : s[j]? ≠ s'[j]?) (hsame : ∀ k, k ≠ j → s[k]? = s'[k]?) : sumOf s ≠ sumOf s' := by
  intro h
  unfold sumOf at h
  obtain ⟨r1, q1, q2⟩ := sumGo_range s s.size 0 4294967295 (by omega)
  obtain ⟨r2, p1, p2⟩ := sumGo_range s' s'.size 0 4294967295 (by omega)
  have hh := sumGo_ne s s' hs j hj hne hsame s.size 0 4294967295 (by omega) (by omega) (by omega)
  rw [show ((4294967295 : Nat) : Int) = (4294967295 : Int) from rfl] at q2 p2 hh
  rw [q2, p2] at h
  have := inot_inj q1 p1 h
  subst this
  rw [← hs] at p2
  exact hh (q2.trans p2.symm)

end Go.Proofs.Ytogmfilmfkepfaa
