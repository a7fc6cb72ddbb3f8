/- Places of a block, read back. -/
import Derived.Test.YtncalmofbcmkaaaGreatR1Mid
set_option linter.all false
noncomputable section
namespace Go.Proofs.YtncalmofbcmkaaaGreat
open Go Go.Proofs.YtncalmofbcmkaaaGreat.Ev

theorem byteAt_left {a b : ByteArray} {i : Nat} (h : i < a.size) : byteAt (a ++ b) i = byteAt a i := by
  have h1 : i < (a ++ b).size := by rw [ByteArray.size_append]; omega
  simp only [byteAt, getElem?_pos (a ++ b) i h1, getElem?_pos a i h, ByteArray.getElem_append_left h]
theorem byteAt_right {a b : ByteArray} (i : Nat) : byteAt (a ++ b) (a.size + i) = byteAt b i := by
  by_cases h : i < b.size
  · have h1 : a.size + i < (a ++ b).size := by rw [ByteArray.size_append]; omega
    simp only [byteAt, getElem?_pos (a ++ b) (a.size + i) h1, getElem?_pos b i h]
    rw [ByteArray.getElem_append_right (by omega)]
    simp
  · have h1 : ¬ a.size + i < (a ++ b).size := by rw [ByteArray.size_append]; omega
    simp only [byteAt, getElem?_neg (a ++ b) (a.size + i) h1, getElem?_neg b i h]

theorem pairAt_left {a b : ByteArray} {i : Nat} (h : i + 1 < a.size) : pairAt (a ++ b) i = pairAt a i := by
  simp only [pairAt, byteAt_left h, byteAt_left (show i < a.size by omega)]
theorem pairAt_right {a b : ByteArray} : pairAt (a ++ b) a.size = pairAt b 0 := by
  have h0 := byteAt_right (a := a) (b := b) 0
  have h1 := byteAt_right (a := a) (b := b) 1
  rw [Nat.add_zero] at h0
  simp only [pairAt, h0, h1]

theorem or_mul256 (a b : Nat) (h : a < 256) : a ||| b * 256 = a + b * 256 := by
  have := Nat.two_pow_add_eq_or_of_lt (i := 8) (b := a) h b
  rw [Nat.or_comm, Nat.mul_comm b 256]
  simp only [show (2 : Nat) ^ 8 = 256 from rfl] at this
  omega

theorem byteAt_strOf (l : List Int) (i : Nat) (x : Int) (h : l[i]? = some x) (h0 : 0 ≤ x) (h1 : x < 256) : byteAt (strOf l) i = x.toNat := by
  have hi : i < l.length := (List.getElem?_eq_some_iff.1 h).1
  have hs : i < (strOf l).size := by rw [strOf_size]; exact hi
  simp only [byteAt, getElem?_pos (strOf l) i hs]
  have : (strOf l)[i] = UInt8.ofNat x.toNat := by
    have e := (List.getElem?_eq_some_iff.1 h).2
    have e1 : (strOf l)[i] = (strOf l).data[i]'hs := rfl
    rw [e1]
    simp only [strOf, List.getElem_toArray, List.getElem_map, e]
  rw [this]
  simp
  omega

theorem pair_two {n : Int} (h0 : 0 ≤ n) (h1 : n < 65536) : pairAt (two n) 0 = n.toNat := by
  have e0 : byteAt (two n) 0 = (n % 256).toNat := byteAt_strOf _ 0 _ (by simp [lows]) (by omega) (by omega)
  have e1 : byteAt (two n) (0 + 1) = ((n / 256) % 256).toNat := byteAt_strOf _ 1 _ (by simp [lows]) (by omega) (by omega)
  simp only [pairAt]
  rw [e0, e1, or_mul256 _ _ (by omega)]
  omega

theorem decL_twos : ∀ (pl : List Int) (A B : ByteArray), (∀ p ∈ pl, 0 ≤ p ∧ p < 65536) → decL (A ++ twos pl ++ B) pl.length A.size = pl
  | [], A, B, h => rfl
  | p :: pl, A, B, h => by
    have hp := h p List.mem_cons_self
    have e : A ++ twos (p :: pl) ++ B = (A ++ two p) ++ twos pl ++ B := by simp only [twos, ByteArray.append_assoc]
    have e2 : A ++ twos (p :: pl) ++ B = A ++ (two p ++ (twos pl ++ B)) := by simp only [twos, ByteArray.append_assoc]
    have hs : (two p).size = 2 := two_size p
    simp only [List.length_cons, decL]
    have h1 : pairAt (A ++ twos (p :: pl) ++ B) A.size = p.toNat := by
      rw [e2, pairAt_right, pairAt_left (by omega), pair_two hp.1 hp.2]
    have h2 : decL (A ++ twos (p :: pl) ++ B) pl.length (A.size + 2) = pl := by
      rw [e, show A.size + 2 = (A ++ two p).size by rw [ByteArray.size_append, hs]]
      exact decL_twos pl (A ++ two p) B fun q hq => h q (List.mem_cons_of_mem _ hq)
    rw [h1, h2, show ((p.toNat : Nat) : Int) = p by omega]

theorem places_lt {l : List DItem} (hg : ∀ x ∈ l, goodItem x = true) : ∀ (i : Nat), ∀ p ∈ (blk l i).2, 0 ≤ p ∧ p ≤ 92 * i
  | 0, p, h => by cases h
  | i + 1, p, h => by
    simp only [blk] at h
    have hz := (blk_size hg i).1
    cases hx : l[i]? with
    | none => rw [hx] at h; have := places_lt hg i p h; omega
    | some x =>
      rw [hx] at h
      dsimp only at h
      split at h
      · rcases List.mem_append.1 h with h | h
        · have := places_lt hg i p h; omega
        · rw [List.mem_singleton] at h
          subst h
          simp only [slen]
          omega
      · have := places_lt hg i p h; omega

theorem block_form (l : List DItem) : blockB l = (blk l l.length).1 ++ twos (blk l l.length).2 ++ (two (llen (blk l l.length).2) ++ strOf (lows 4 (sumOf (bodyB l)))) := by
  show ((blk l l.length).1 ++ twos (blk l l.length).2 ++ two (llen (blk l l.length).2)) ++ strOf (lows 4 (sumOf (bodyB l))) = _
  exact ByteArray.append_assoc

theorem block_dec {l : List DItem} (hg : ∀ x ∈ l, goodItem x = true) (hl : l.length ≤ 40) : (blockB l).size = (blk l l.length).1.size + 2 * (blk l l.length).2.length + 6 ∧ manyOf (blockB l) = (blk l l.length).2.length ∧
    decL (blockB l) (blk l l.length).2.length (blk l l.length).1.size = (blk l l.length).2 := by
  have hz := blk_size hg l.length
  have hw : (strOf (lows 4 (sumOf (bodyB l)))).size = 4 := by rw [strOf_size, lows_length]
  have h2 := two_size (llen (blk l l.length).2)
  have hs : (blockB l).size = (blk l l.length).1.size + 2 * (blk l l.length).2.length + 6 := by
    rw [block_form]
    simp only [ByteArray.size_append, twos_size, h2, hw]
  refine ⟨hs, ?_, ?_⟩
  · unfold manyOf
    rw [hs, show (blk l l.length).1.size + 2 * (blk l l.length).2.length + 6 - 6 = ((blk l l.length).1 ++ twos (blk l l.length).2).size by rw [ByteArray.size_append, twos_size]; omega]
    rw [block_form, pairAt_right, pairAt_left (by omega), pair_two (by simp only [llen]; omega) (by simp only [llen]; omega)]
    simp [llen]
  · rw [block_form]
    exact decL_twos _ _ _ fun p hp => by have := places_lt hg l.length p hp; omega

theorem readB_some {s : ByteArray} {q : List DItem × List Int} (h : readB s = some q) : goodRun q.1 = true ∧ blockB q.1 = s ∧ q.1.length ≤ 40 ∧ q.2 = (blk q.1 q.1.length).2 ∧ 6 ≤ s.size ∧ 2 * manyOf s ≤ s.size - 6 := by
  simp only [readB] at h
  split at h
  · cases h
  rename_i h0
  split at h
  · cases h
  split at h
  · rename_i r l hr hc
    injection h with h
    subst h
    exact ⟨hc.2.2.1, hc.2.2.2, hc.2.1, rfl, by omega, by omega⟩
  · cases h

theorem beqB_self (b : Bool) : beqB b b = true := by cases b <;> rfl

end Go.Proofs.YtncalmofbcmkaaaGreat
