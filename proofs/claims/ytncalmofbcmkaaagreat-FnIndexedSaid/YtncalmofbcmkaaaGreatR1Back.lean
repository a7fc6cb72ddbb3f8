/- A run comes back from its block. -/
import Derived.Test.YtncalmofbcmkaaaGreatR1Rest
set_option linter.all false
noncomputable section
namespace Go.Proofs.YtncalmofbcmkaaaGreat
open Go Go.Proofs.YtncalmofbcmkaaaGreat.Ev

/-! ### numbers -/
theorem strOf_cons (x : Int) (l : List Int) : strOf (x :: l) = strOf [x] ++ strOf l := by
  apply ByteArray.ext
  simp [strOf]

theorem at_strOf (A B : ByteArray) (x : Int) (l : List Int) : (A ++ strOf (x :: l) ++ B)[A.size]? = some (UInt8.ofNat x.toNat) := by
  have h : A.size < (A ++ strOf (x :: l) ++ B).size := by simp only [ByteArray.size_append, strOf_size, List.length_cons]; omega
  rw [getElem?_pos (A ++ strOf (x :: l) ++ B) A.size h]
  have h2 : A.size < (A ++ strOf (x :: l)).size := by simp only [ByteArray.size_append, strOf_size, List.length_cons]; omega
  rw [ByteArray.getElem_append_left h2, ByteArray.getElem_append_right (by omega)]
  have h3 : A.size - A.size < (strOf (x :: l)).size := by rw [strOf_size]; simp
  have e : (strOf (x :: l))[A.size - A.size]'h3 = (strOf (x :: l)).data[A.size - A.size]'h3 := rfl
  rw [e]
  simp [strOf]

theorem or_add (a b k : Nat) (h : a < 2 ^ (7 * k)) : a ||| (b * 2 ^ (7 * k)) = a + b * 2 ^ (7 * k) := by
  have := Nat.two_pow_add_eq_or_of_lt h b
  rw [Nat.or_comm, Nat.mul_comm b]
  omega

theorem takeGo_vb (B : ByteArray) : ∀ (f n k acc : Nat) (A : ByteArray), A.size = k → n < 128 ^ (f + 1) → acc < 2 ^ (7 * k) → (0 < k → 0 < n) →
    takeGo (A ++ strOf (vb f n) ++ B) (f + 1) k acc = (acc + n * 2 ^ (7 * k), k + (vb f n).length)
  | f, n, k, acc, A, hA, hn, ha, h0 => by
    have hlast : n < 128 → vb f n = [((n % 256 : Nat) : Int)] → takeGo (A ++ strOf (vb f n) ++ B) (f + 1) k acc = (acc + n * 2 ^ (7 * k), k + (vb f n).length) := by
      intro hlt he
      rw [he]
      simp only [takeGo, ← hA, at_strOf]
      have hb : (UInt8.ofNat ((n % 256 : Nat) : Int).toNat).toNat = n := by
        rw [Int.toNat_natCast, UInt8.toNat_ofNat']
        omega
      rw [hb, if_pos hlt, if_neg (by omega), Nat.mod_eq_of_lt hlt, hA, or_add _ _ _ ha]
      rfl
    cases f with
    | zero => exact hlast (by simpa using hn) rfl
    | succ f =>
      by_cases hlt : n < 128
      · exact hlast hlt (by simp only [vb, if_pos hlt])
      · have he : vb (f + 1) n = ((n % 128 + 128 : Nat) : Int) :: vb f (n / 128) := by simp only [vb, if_neg hlt]
        rw [he]
        have hb : (UInt8.ofNat ((n % 128 + 128 : Nat) : Int).toNat).toNat = n % 128 + 128 := by
          rw [Int.toNat_natCast, UInt8.toNat_ofNat']
          omega
        have hp : 2 ^ (7 * (k + 1)) = 2 ^ (7 * k) * 128 := by rw [show 7 * (k + 1) = 7 * k + 7 by omega, Nat.pow_add]
        have hacc : acc + n % 128 * 2 ^ (7 * k) < 2 ^ (7 * (k + 1)) := by
          rw [hp]
          have : n % 128 * 2 ^ (7 * k) ≤ 127 * 2 ^ (7 * k) := Nat.mul_le_mul_right _ (by omega)
          omega
        have h3 : n / 128 < 128 ^ (f + 1) := by
          rw [Nat.div_lt_iff_lt_mul (by decide), ← Nat.pow_succ]
          exact hn
        have ih := takeGo_vb B f (n / 128) (k + 1) (acc + n % 128 * 2 ^ (7 * k)) (A ++ strOf [((n % 128 + 128 : Nat) : Int)]) (by rw [ByteArray.size_append, strOf_size, hA]; rfl) h3 hacc (fun _ => by omega)
        have hs : A ++ strOf (((n % 128 + 128 : Nat) : Int) :: vb f (n / 128)) ++ B = A ++ strOf [((n % 128 + 128 : Nat) : Int)] ++ strOf (vb f (n / 128)) ++ B := by
          rw [strOf_cons]
          simp only [ByteArray.append_assoc]
        unfold takeGo
        rw [← hA, at_strOf]
        dsimp only
        rw [hb, if_neg (by omega), show (n % 128 + 128) % 128 = n % 128 by omega, hA, or_add _ _ _ ha, hs, ih]
        simp only [List.length_cons]
        congr 1
        · rw [hp]
          have e : n = n / 128 * 128 + n % 128 := by omega
          have : n * 2 ^ (7 * k) = n / 128 * 128 * 2 ^ (7 * k) + n % 128 * 2 ^ (7 * k) := by rw [← Nat.add_mul, ← e]
          have e2 : n / 128 * (2 ^ (7 * k) * 128) = n / 128 * 128 * 2 ^ (7 * k) := by rw [Nat.mul_comm (2 ^ (7 * k)) 128, Nat.mul_assoc]
          omega
        · omega

theorem takeVar_varB (n : Nat) (B : ByteArray) (hn : n < 9223372036854775808) : takeVar (varB n ++ B) = (n, (varB n).size) := by
  have := takeGo_vb B 8 n 0 0 ⟨#[]⟩ rfl (by rw [pow9] at hn; exact hn) (by decide) (fun h => by omega)
  rw [empty_append] at this
  rw [takeVar, varB, this, strOf_size]
  simp

theorem varB_pos (n : Nat) : 0 < (varB n).size := by
  rw [varB, strOf_size]
  simp only [vb]
  split <;> simp

theorem dr_append (A B : ByteArray) : dr (A ++ B) A.size = B := by
  rw [dr]
  exact ByteArray.extract_append_eq_right rfl ByteArray.size_append

theorem dr_append' {A B : ByteArray} {n : Nat} (h : n = A.size) : dr (A ++ B) n = B := by subst h; exact dr_append A B

theorem head_append (A B : ByteArray) {n : Nat} (h : n = A.size) : (A ++ B).extract 0 n = A := by subst h; exact ByteArray.extract_append_eq_left rfl

/-- an item comes back -/
theorem item_piece {x : DItem} (hg : goodItem x = true) {c : Nat} (hc : c ≤ x.1.size) {key rest : ByteArray} (hk : c ≤ key.size) (hp : key.extract 0 c = x.1.extract 0 c) :
    ∃ m z, item (piece c x ++ rest) key = some ⟨x, (piece c x).size, m, z⟩ := by
  obtain ⟨k, s, d, v, ⟨⟩⟩ := x
  have hz := good_sizes hg
  dsimp only at hz hc hp
  obtain ⟨s, rfl⟩ : ∃ n : Nat, s = (n : Int) := ⟨s.toNat, by omega⟩
  obtain ⟨d, rfl⟩ : ∃ n : Nat, d = (n : Int) := ⟨d.toNat, by omega⟩
  obtain ⟨P1, h1⟩ : ∃ P, P = varB c := ⟨_, rfl⟩
  obtain ⟨P2, h2⟩ : ∃ P, P = varB (k.size - c) := ⟨_, rfl⟩
  obtain ⟨P3, h3⟩ : ∃ P, P = varB (2 * s + d) := ⟨_, rfl⟩
  obtain ⟨P4, h4⟩ : ∃ P, P = varB v.size := ⟨_, rfl⟩
  have e0 : piece c (k, ((s : Int), ((d : Int), (v, ())))) ++ rest = P1 ++ (P2 ++ (P3 ++ (P4 ++ (k.extract c k.size ++ (v ++ rest))))) := by
    simp only [piece, Int.toNat_natCast, ← h1, ← h2, ← h3, ← h4, ByteArray.append_assoc]
  have esz : (piece c (k, ((s : Int), ((d : Int), (v, ()))))).size = P1.size + P2.size + P3.size + P4.size + (k.size - c) + v.size := by
    simp only [piece, Int.toNat_natCast, ← h1, ← h2, ← h3, ← h4, ByteArray.size_append, ByteArray.size_extract]
    omega
  have q1 : 0 < P1.size := by rw [h1]; exact varB_pos _
  have q2 : 0 < P2.size := by rw [h2]; exact varB_pos _
  have q3 : 0 < P3.size := by rw [h3]; exact varB_pos _
  have q4 : 0 < P4.size := by rw [h4]; exact varB_pos _
  have v1 : ∀ R, takeVar (P1 ++ R) = (c, P1.size) := fun R => by rw [h1]; exact takeVar_varB _ _ (by omega)
  have v2 : ∀ R, takeVar (P2 ++ R) = (k.size - c, P2.size) := fun R => by rw [h2]; exact takeVar_varB _ _ (by omega)
  have v3 : ∀ R, takeVar (P3 ++ R) = (2 * s + d, P3.size) := fun R => by rw [h3]; exact takeVar_varB _ _ (by omega)
  have v4 : ∀ R, takeVar (P4 ++ R) = (v.size, P4.size) := fun R => by rw [h4]; exact takeVar_varB _ _ (by omega)
  have hKs : (k.extract c k.size).size = k.size - c := by rw [ByteArray.size_extract]; omega
  refine ⟨k.size - c, v.size, ?_⟩
  rw [esz, e0]
  unfold item
  dsimp only
  rw [v1]
  dsimp only
  rw [dr_append, v2]
  dsimp only
  rw [← dr_dr, dr_append, dr_append, v3]
  dsimp only
  rw [← dr_dr, ← dr_dr, dr_append, dr_append, dr_append, v4]
  dsimp only
  have hsz : (P1 ++ (P2 ++ (P3 ++ (P4 ++ (k.extract c k.size ++ (v ++ rest)))))).size = P1.size + P2.size + P3.size + P4.size + (k.size - c) + v.size + rest.size := by
    simp only [ByteArray.size_append, hKs]
    omega
  have hd : dr (P1 ++ (P2 ++ (P3 ++ (P4 ++ (k.extract c k.size ++ (v ++ rest)))))) (P1.size + P2.size + P3.size + P4.size) = k.extract c k.size ++ (v ++ rest) := by
    rw [← dr_dr, ← dr_dr, ← dr_dr, dr_append, dr_append, dr_append, dr_append]
  rw [if_neg (by rw [hsz]; omega), ← dr_head _ _ _ (by rw [hsz]; omega), ← dr_head _ (P1.size + P2.size + P3.size + P4.size + (k.size - c)) _ (by rw [hsz]; omega)]
  rw [← dr_dr _ (P1.size + P2.size + P3.size + P4.size) (k.size - c), hd, head_append _ _ hKs.symm, dr_append' hKs.symm, head_append _ _ rfl, hp]
  have hkey : k.extract 0 c ++ k.extract c k.size = k := by
    rw [ByteArray.extract_append_extract]
    simp
  rw [hkey, show (2 * s + d) / 2 = s by omega, show (2 * s + d) % 2 = d by omega]

/-! ### common beginnings -/
theorem common_at (a b : ByteArray) : ∀ (f k : Nat), (∀ j, j < k → a[j]? = b[j]?) → ∀ j, j < common a b f k → a[j]? = b[j]?
  | 0, k, h, j, hj => h j hj
  | f + 1, k, h, j, hj => by
    simp only [common] at hj
    split at hj
    · rename_i hc
      exact common_at a b f (k + 1) (fun j hj => by rcases Nat.lt_or_ge j k with h1 | h1; exact h j h1; rw [show j = k by omega]; exact hc.2.2) j hj
    · exact h j hj

theorem common_eq (a b : ByteArray) : a.extract 0 (commonOf a b) = b.extract 0 (commonOf a b) := by
  have h := common_zero_le a b
  apply ByteArray.ext_getElem
  · simp only [ByteArray.size_extract]; omega
  · intro i h1 h2
    simp only [ByteArray.size_extract] at h1 h2
    simp only [ByteArray.getElem_extract]
    have := common_at a b a.size 0 (fun j hj => by omega) i (by simp only [commonOf] at *; omega)
    rw [getElem?_pos a i (by omega), getElem?_pos b i (by omega)] at this
    injection this with this
    simpa using this

/-! ### a run -/
def tailB (l : List DItem) : Nat → Nat → ByteArray
  | 0, _ => ⟨#[]⟩
  | f + 1, i => match l[i]? with
    | none => ⟨#[]⟩
    | some x => piece (comAt l i x) x ++ tailB l f (i + 1)

theorem blk_tail (l : List DItem) : ∀ (f i : Nat), i + f = l.length → (blk l l.length).1 = (blk l i).1 ++ tailB l f i
  | 0, i, h => by rw [show l.length = i by omega]; simp only [tailB, append_empty]
  | f + 1, i, h => by
    have hx : l[i]? = some l[i] := List.getElem?_eq_getElem (by omega)
    rw [blk_tail l f (i + 1) (by omega)]
    simp only [tailB, hx, blk]
    rw [ByteArray.append_assoc]

theorem readL_back {l : List DItem} (hg : ∀ x ∈ l, goodItem x = true) (hl : l.length ≤ 40) : ∀ (f i : Nat), i + f = l.length → readL item (f + 2) (tailB l f i) (aheadOf l i) (l.take i) = some (⟨#[]⟩, l)
  | 0, i, h => by
    rw [List.take_of_length_le (by omega)]
    simp only [tailB, readL]
    exact if_pos (.inl rfl)
  | f + 1, i, h => by
    have hx : l[i]? = some l[i] := List.getElem?_eq_getElem (by omega)
    have hgx := hg l[i] (List.mem_of_getElem? hx)
    have hpos : 0 < (piece (comAt l i l[i]) l[i]).size := by
      have := varB_pos (comAt l i l[i])
      simp only [piece, ByteArray.size_append]
      omega
    have hcom : comAt l i l[i] ≤ (aheadOf l i).size ∧ (aheadOf l i).extract 0 (comAt l i l[i]) = l[i].1.extract 0 (comAt l i l[i]) := by
      unfold comAt
      split
      · exact ⟨Nat.zero_le _, by simp⟩
      · rename_i hi
        obtain ⟨j, rfl⟩ : ∃ j, i = j + 1 := ⟨i - 1, by omega⟩
        simp only [Nat.add_sub_cancel, aheadOf]
        cases hy : l[j]? with
        | none => rw [List.getElem?_eq_none_iff] at hy; omega
        | some y => exact ⟨(common_zero_le _ _).1, common_eq _ _⟩
    obtain ⟨m, z, hi⟩ := item_piece hgx (comAt_le l i l[i]) (rest := tailB l f (i + 1)) hcom.1 hcom.2
    have hs : tailB l (f + 1) i = piece (comAt l i l[i]) l[i] ++ tailB l f (i + 1) := by simp only [tailB, hx]
    rw [hs]
    unfold readL
    rw [if_neg (by rw [ByteArray.size_append, List.length_take]; omega), hi]
    dsimp only
    rw [dr_append]
    have ih := readL_back hg hl f (i + 1) (by omega)
    rw [List.take_succ, hx] at ih
    simp only [aheadOf, hx] at ih
    exact ih

theorem readL_more {it : ByteArray → ByteArray → Option Got} : ∀ {f : Nat} {s key : ByteArray} {l : List DItem} {l' : List DItem} (g : Nat), readL it (f + 1) s key l = some (⟨#[]⟩, l') → l'.length ≤ 40 → readL it (f + 1 + g) s key l = some (⟨#[]⟩, l')
  | f, s, key, l, l', g, h, hl => by
    rw [show f + 1 + g = (f + g) + 1 by omega]
    unfold readL at h ⊢
    split at h
    · rename_i hc; rw [if_pos hc]; exact h
    · rename_i hc
      rw [if_neg hc]
      split at h
      · cases h
      · rename_i q hq
        cases f with
        | zero =>
          simp only [readL] at h
          injection h with h
          injection h with h1 h2
          cases g with
          | zero => simp only [readL]; rw [h1, h2]
          | succ g =>
            rw [Nat.zero_add]
            unfold readL
            rw [if_pos (.inl (by rw [h1]; rfl)), h1, h2]
        | succ f =>
          exact readL_more g h hl

theorem readB_blockB {l : List DItem} (hg : goodRun l = true) (hl : l.length ≤ 40) : readB (blockB l) = some (l, (blk l l.length).2) := by
  have hga := fun x hx => goodRun_all hg (x := x) hx
  obtain ⟨d1, d2, d3⟩ := block_dec hga hl
  have hx : (blockB l).extract 0 ((blockB l).size - 6 - 2 * manyOf (blockB l)) = (blk l l.length).1 := by
    rw [d1, d2, block_form, ByteArray.append_assoc (a := (blk l l.length).1)]
    exact head_append _ _ (by omega)
  simp only [readB]
  rw [if_neg (by omega), hx]
  have hr : readL item 42 (blk l l.length).1 ⟨#[]⟩ [] = some (⟨#[]⟩, l) := by
    have h1 := readL_back hga hl l.length 0 (by omega)
    have h2 : tailB l l.length 0 = (blk l l.length).1 := by
      have := blk_tail l l.length 0 (by omega)
      rw [show (blk l 0).1 = (⟨#[]⟩ : ByteArray) from rfl, empty_append] at this
      exact this.symm
    rw [h2] at h1
    have := readL_more (f := l.length + 1) (40 - l.length) h1 hl
    rw [show l.length + 1 + 1 + (40 - l.length) = 42 by omega] at this
    exact this
  rw [hr]
  dsimp only
  rw [if_pos ⟨rfl, hl, hg, rfl⟩]

end Go.Proofs.YtncalmofbcmkaaaGreat
