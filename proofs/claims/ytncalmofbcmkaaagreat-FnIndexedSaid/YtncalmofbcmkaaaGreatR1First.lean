/- Blocks read: both sides answer the same.  -/
import Derived.Test.YtncalmofbcmkaaaGreatR1Block
set_option linter.all false
namespace Go.Proofs.YtncalmofbcmkaaaGreat
open Go Go.Proofs.YtncalmofbcmkaaaGreat.Ev

/-! ### two bytes as a number -/
def byteAt (s : ByteArray) (i : Nat) : Nat := match s[i]? with | some b => b.toNat | none => 0
theorem byteAt_lt (s : ByteArray) (i : Nat) : byteAt s i < 256 := by
  unfold byteAt
  split
  · exact byte_lt _
  · omega
theorem byteAt_get {s : ByteArray} {i : Nat} (h : i < s.size) : ∃ b, s[i]? = some b ∧ b.toNat = byteAt s i := by
  obtain ⟨b, hb⟩ := getElem?_lt h
  exact ⟨b, hb, by simp only [byteAt, hb]⟩

def pairAt (s : ByteArray) (i : Nat) : Nat := byteAt s i ||| (byteAt s (i + 1) * 256)
theorem pairAt_lt (s : ByteArray) (i : Nat) : pairAt s i < 65536 := by
  have h1 := byteAt_lt s i
  have h2 := byteAt_lt s (i + 1)
  exact Nat.or_lt_two_pow (n := 16) (by omega) (by omega)

theorem getBy {R : Type} {s : ByteArray} {i : Nat} (h : i < s.size) (k : Int → Option R) : getB s (i : Int) k = k ((byteAt s i : Nat) : Int) := by
  obtain ⟨b, h1, h2⟩ := byteAt_get h
  rw [getB_at (by omega) (by rw [Int.toNat_natCast]; exact h1), h2]

theorem shl8 (b : Nat) (h : b < 65536) : ishl .i64 (b : Int) (8 : Int) = ((b * 256 : Nat) : Int) := ishl_nat b 8 (by omega) (by omega)

theorem pair_spec (s : ByteArray) (i : Nat) : ior .i64 (IntKind.wrap .i64 ((byteAt s i : Nat) : Int)) (ishl .i64 (IntKind.wrap .i64 ((byteAt s (i + 1) : Nat) : Int)) (8 : Int)) = ((pairAt s i : Nat) : Int) := by
  have h1 := byteAt_lt s i
  have h2 := byteAt_lt s (i + 1)
  rw [wrap_i64 _ (by omega), wrap_i64 _ (by omega), shl8 _ (by omega), ior_nat _ _ (by omega) (by omega)]
  rfl

theorem f_impl_wordOfVal (x : ByteArray × Unit) (h : x.1.size = 2) : f_impl_wordOf x = some ((((pairAt x.1 0 : Nat) : Int), ()), ()) := by
  obtain ⟨s, ⟨⟩⟩ := x
  dsimp only at h ⊢
  unfold f_impl_wordOf
  have e0 : isub .i64 (slen s) (1 : Int) = ((1 : Nat) : Int) := by simp only [slen, h]; rfl
  have h1 := byteAt_lt s 1
  have h0 := byteAt_lt s 0
  dsimp only
  rw [e0]
  have hz : ishl .i64 (0 : Int) (8 : Int) = ((0 : Nat) : Int) := rfl
  rw [loopF_more (c' := ((s, ()), ())) (v' := ((((byteAt s 1 : Nat) : Int), (((0 : Nat) : Int), ())), ())) (by
    simp only [round, f_impl_wordOf_l3]
    rw [show ile (0 : Int) ((1 : Nat) : Int) = true from rfl, cond_true, getBy (by omega), hz, wrap_i64 _ (by omega), ior_nat _ _ (by omega) (by omega), Nat.zero_or]
    rfl)]
  rw [loopF_more (c' := ((s, ()), ())) (v' := ((((pairAt s 0 : Nat) : Int), ((-1 : Int), ())), ())) (by
    simp only [round, f_impl_wordOf_l3]
    rw [show ile (0 : Int) ((0 : Nat) : Int) = true from rfl, cond_true, getBy (by omega), shl8 _ (by omega), wrap_i64 _ (by omega), ior_nat _ _ (by omega) (by omega), Nat.or_comm]
    rfl)]
  rw [loopF_done (c' := ((s, ()), ())) (o := ((((pairAt s 0 : Nat) : Int), ()), ())) (by rfl)]

theorem byteAt_extract {s : ByteArray} {a b i : Nat} (h : a + i < b) (hb : b ≤ s.size) : byteAt (s.extract a b) i = byteAt s (a + i) := by
  have h1 : i < (s.extract a b).size := by rw [ByteArray.size_extract]; omega
  have h2 : a + i < s.size := by omega
  simp only [byteAt, getElem?_pos (s.extract a b) i h1, getElem?_pos s (a + i) h2, ByteArray.getElem_extract]

/-! ### a block -/
def manyOf (s : ByteArray) : Nat := pairAt s (s.size - 6)

def readB (s : ByteArray) : Option (List DItem × List Int) :=
  if s.size < 6 ∨ s.size - 6 < 2 * manyOf s then none
  else match readL item 42 (s.extract 0 (s.size - 6 - 2 * manyOf s)) ⟨#[]⟩ [] with
    | none => none
    | some (r, l) => if r.size = 0 ∧ l.length ≤ 40 ∧ goodRun l = true ∧ blockB l = s then some (l, (blk l l.length).2) else none

theorem readL_len {it : ByteArray → ByteArray → Option Got} : ∀ {f : Nat} {s key : ByteArray} {l : List DItem} {s' : ByteArray} {l' : List DItem}, readL it f s key l = some (s', l') → l.length ≤ 41 → 41 < f + l.length → l'.length ≤ 41 ∧ (s'.size = 0 ∨ 40 < l'.length)
  | 0, s, key, l, s', l', h, hl, hf => by omega
  | f + 1, s, key, l, s', l', h, hl, hf => by
    simp only [readL] at h
    split at h
    · rename_i hc
      simp only [Option.some.injEq, Prod.mk.injEq] at h
      rw [← h.1, ← h.2]
      exact ⟨hl, hc⟩
    · rename_i hc
      simp only [not_or] at hc
      split at h
      · cases h
      · exact readL_len h (by simp; omega) (by simp; omega)

theorem f_impl_readBlockVal (s : ByteArray) (hs : s.size ≤ 1048576) : ∃ l pl ok, f_impl_readBlock (s, ()) = some ((l, (pl, (ok, ()))), ()) ∧ match readB s with | none => ok = false | some q => ok = true ∧ l = q.1 ∧ pl = q.2 := by
  unfold f_impl_readBlock
  dsimp only
  by_cases h6 : s.size < 6
  · have : ilt (isub .i64 (isub .i64 (slen s) (4 : Int)) (2 : Int)) (0 : Int) = true := ilt_iff.2 (by simp only [slen]; rw [isub_i64 (a := (s.size : Int)) (by omega), isub_i64 (by omega)]; omega)
    rw [this]
    exact ⟨_, _, _, rfl, by simp [readB, h6]⟩
  have e1 : isub .i64 (isub .i64 (slen s) (4 : Int)) (2 : Int) = ((s.size - 6 : Nat) : Int) := by
    simp only [slen]; rw [isub_i64 (a := (s.size : Int)) (by omega), isub_i64 (by omega)]; omega
  have e2 : iadd .i64 ((s.size - 6 : Nat) : Int) (2 : Int) = ((s.size - 4 : Nat) : Int) := by rw [iadd_i64 (by omega)]; omega
  have hW := pairAt_lt s (s.size - 6)
  have e3 : imul .i64 ((manyOf s : Nat) : Int) (2 : Int) = ((2 * manyOf s : Nat) : Int) := by
    have : manyOf s < 65536 := hW
    rw [imul_i64 (by omega)]; omega
  have hp : pairAt (s.extract (s.size - 6) (s.size - 4)) 0 = manyOf s := by
    simp only [pairAt, manyOf]
    rw [byteAt_extract (by omega) (by omega), byteAt_extract (by omega) (by omega)]
    rfl
  rw [e1, ilt_false.2 (show (0 : Int) ≤ ((s.size - 6 : Nat) : Int) by omega), cond_false, e2, bounds3 (by omega) (by omega), req_true, Int.toNat_natCast, Int.toNat_natCast,
    f_impl_wordOfVal _ (by dsimp only; rw [ByteArray.size_extract]; omega), bnd_some]
  dsimp only
  rw [hp, e3]
  by_cases hm : s.size - 6 < 2 * manyOf s
  · rw [ilt_iff.2 (show ((s.size - 6 : Nat) : Int) < ((2 * manyOf s : Nat) : Int) by omega)]
    exact ⟨_, _, _, rfl, by simp [readB, hm]⟩
  have e4 : isub .i64 ((s.size - 6 : Nat) : Int) ((2 * manyOf s : Nat) : Int) = ((s.size - 6 - 2 * manyOf s : Nat) : Int) := by rw [isub_i64 (by omega)]; omega
  rw [ilt_false.2 (show ((2 * manyOf s : Nat) : Int) ≤ ((s.size - 6 : Nat) : Int) by omega), cond_false, e4, bounds_ok (by omega), req_true, Int.toNat_natCast,
    f_impl_readItemsVal _ (by dsimp only; rw [ByteArray.size_extract]; omega), bnd_some]
  simp only [readB, h6, hm, or_self, if_false]
  cases hr : readL item 42 (s.extract 0 (s.size - 6 - 2 * manyOf s)) ⟨#[]⟩ [] with
  | none => exact ⟨_, _, _, rfl, rfl⟩
  | some q =>
    obtain ⟨r, l⟩ := q
    have hlen := (readL_len hr (by simp) (by simp)).1
    dsimp only
    by_cases hz : r.size = 0
    · simp only [hz, decide_true, Bool.not_true, cond_false, true_and]
      by_cases h40 : 40 < l.length
      · rw [ilt_iff.2 (show (40 : Int) < llen l by simp only [llen]; omega)]
        exact ⟨_, _, _, rfl, by rw [if_neg (by omega)]⟩
      · rw [ilt_false.2 (show llen l ≤ (40 : Int) by simp only [llen]; omega), cond_false, f_impl_GoodRunVal _ (by dsimp only; omega), bnd_some]
        dsimp only
        cases hg : goodRun l with
        | false => exact ⟨_, _, _, rfl, by simp⟩
        | true =>
          have hga := fun x hx => goodRun_all hg (x := x) hx
          simp only [Bool.not_true, cond_false]
          rw [f_impl_blockVal _ hga (by dsimp only; omega), bnd_some]
          dsimp only
          by_cases he : blockB l = s
          · rw [if_pos ⟨by omega, trivial, he⟩]
            exact ⟨_, _, _, rfl, (seq_iff _ _).2 he, rfl, rfl⟩
          · rw [if_neg (by rintro ⟨_, _, h⟩; exact he h)]
            exact ⟨_, _, _, rfl, seq_false.2 he⟩
    · simp only [hz, decide_false, Bool.not_false, cond_true, false_and, if_false]
      exact ⟨_, _, _, rfl, rfl⟩

def okB (q : Option (List DItem × List Int)) : ((List DItem) × Bool × Unit) × Unit := match q with
  | none => (([], (false, ())), ())
  | some q => ((q.1, (true, ())), ())

theorem f_impl_ReadBlockVal (x : ByteArray × Unit) (hs : x.1.size ≤ 1048576) : f_impl_ReadBlock x = some (okB (readB x.1)) := by
  obtain ⟨s, ⟨⟩⟩ := x
  obtain ⟨l, pl, ok, h1, h2⟩ := f_impl_readBlockVal s hs
  unfold f_impl_ReadBlock
  dsimp only
  rw [h1, bnd_some]
  cases hr : readB s with
  | none => rw [hr] at h2; subst h2; rfl
  | some q => rw [hr] at h2; obtain ⟨rfl, rfl, rfl⟩ := h2; rfl

/-! ### the reference's tail -/
/-- places read from i on, so many -/
def decL (s : ByteArray) : Nat → Nat → List Int
  | 0, _ => []
  | f + 1, i => ((pairAt s i : Nat) : Int) :: decL s f (i + 2)

theorem decL_length (s : ByteArray) : ∀ (f i : Nat), (decL s f i).length = f
  | 0, _ => rfl
  | f + 1, i => by simp [decL, decL_length s f]

theorem f_spec_l6TailLoop {R : Type} (s : ByteArray) (n : Nat) (fr : Int) (hn : n ≤ s.size) (hs : s.size ≤ 1048576) (kk : ((ByteArray × Int × Int × Unit) × Unit) → (Unit × ((List Int) × Unit)) → Option R) :
    ∀ (f i : Nat) (l : List Int), i + 2 * f = n → l.length + f ≤ 1000000 → loopF (c := f_spec_l6Tail_l10c) (v := f_spec_l6Tail_l10v) (ex := f_spec_l6Tail_l10e) f_spec_l6Tail_l10 R ((s, ((n : Int), (fr, ()))), ()) (((i : Int), ()), (l, ())) kk =
      kk ((s, ((n : Int), (fr, ()))), ()) ((), (l ++ decL s f i, ()))
  | 0, i, l, hf, hl => by
    have h1 : ilt (i : Int) (n : Int) = false := ilt_false.2 (by omega)
    rw [loopF_done (c' := ((s, ((n : Int), (fr, ()))), ())) (o := ((), (l, ()))) (by simp only [round, f_spec_l6Tail_l10, h1, cond_false])]
    simp only [decL, List.append_nil]
  | f + 1, i, l, hf, hl => by
    have h1 : ilt (i : Int) (n : Int) = true := ilt_iff.2 (by omega)
    have h2 : iadd .i64 (i : Int) (1 : Int) = ((i + 1 : Nat) : Int) := by rw [iadd_i64 (by omega)]; simp
    have h3 : iadd .i64 (i : Int) (2 : Int) = ((i + 2 : Nat) : Int) := by rw [iadd_i64 (by omega)]; simp
    rw [loopF_more (c' := ((s, ((n : Int), (fr, ()))), ())) (v' := ((((i + 2 : Nat) : Int), ()), (l ++ [((pairAt s i : Nat) : Int)], ()))) (by
      simp only [round, f_spec_l6Tail_l10, h1, cond_true]
      rw [getBy (by omega), h2, getBy (by omega), pair_spec, h3, decide_eq_true (by simp; omega), req_true])]
    rw [f_spec_l6TailLoop s n fr hn hs kk f (i + 2) _ (by omega) (by simp; omega)]
    simp only [decL, List.append_assoc, List.singleton_append]

def tailOk (s : ByteArray) : Bool := decide (6 ≤ s.size ∧ strOf (lows 4 (sumOf (s.extract 0 (s.size - 4)))) = s.extract (s.size - 4) s.size ∧ 2 * manyOf s ≤ s.size - 6)

theorem f_spec_l6TailVal (x : ByteArray × Unit) (hs : x.1.size ≤ 1048576) : f_spec_l6Tail x = some (if tailOk x.1 = true then ((x.1.extract 0 (x.1.size - 6 - 2 * manyOf x.1), (decL x.1 (manyOf x.1) (x.1.size - 6 - 2 * manyOf x.1), (true, ()))), ()) else ((⟨#[]⟩, ([], (false, ()))), ())) := by
  obtain ⟨s, ⟨⟩⟩ := x
  dsimp only at hs ⊢
  unfold f_spec_l6Tail
  dsimp only
  by_cases h6 : s.size < 6
  · have : ilt (isub .i64 (slen s) (6 : Int)) (0 : Int) = true := ilt_iff.2 (by simp only [slen]; rw [isub_i64 (by omega)]; omega)
    rw [this, if_neg (by simp only [tailOk, decide_eq_true_eq]; omega)]
    rfl
  have e1 : isub .i64 (slen s) (6 : Int) = ((s.size - 6 : Nat) : Int) := by simp only [slen]; rw [isub_i64 (by omega)]; omega
  have e2 : iadd .i64 ((s.size - 6 : Nat) : Int) (2 : Int) = ((s.size - 4 : Nat) : Int) := by rw [iadd_i64 (by omega)]; omega
  have e2' : iadd .i64 ((s.size - 6 : Nat) : Int) (1 : Int) = ((s.size - 6 + 1 : Nat) : Int) := by rw [iadd_i64 (by omega)]; omega
  have hW := pairAt_lt s (s.size - 6)
  rw [e1, ilt_false.2 (show (0 : Int) ≤ ((s.size - 6 : Nat) : Int) by omega), cond_false, e2, bounds_ok (by omega), req_true, Int.toNat_natCast,
    f_spec_l2SumVal _ (by dsimp only; rw [ByteArray.size_extract]; omega), bnd_some, f_spec_l2WordVal, bnd_some, req_true]
  dsimp only
  by_cases hsum : strOf (lows 4 (sumOf (s.extract 0 (s.size - 4)))) = s.extract (s.size - 4) s.size
  · rw [(seq_iff _ _).2 hsum]
    simp only [Bool.not_true, cond_false]
    rw [getBy (by omega), e2', getBy (by omega), pair_spec]
    have e3 : imul .i64 (2 : Int) ((pairAt s (s.size - 6) : Nat) : Int) = ((2 * manyOf s : Nat) : Int) := by
      rw [imul_i64 (by omega)]; simp only [manyOf]; omega
    rw [e3]
    by_cases hm : s.size - 6 < 2 * manyOf s
    · have : ilt (isub .i64 ((s.size - 6 : Nat) : Int) ((2 * manyOf s : Nat) : Int)) (0 : Int) = true := ilt_iff.2 (by simp only [manyOf] at *; rw [isub_i64 (by omega)]; omega)
      rw [this, if_neg (by simp only [tailOk, decide_eq_true_eq]; omega)]
      rfl
    have e4 : isub .i64 ((s.size - 6 : Nat) : Int) ((2 * manyOf s : Nat) : Int) = ((s.size - 6 - 2 * manyOf s : Nat) : Int) := by rw [isub_i64 (by omega)]; omega
    rw [e4, ilt_false.2 (show (0 : Int) ≤ ((s.size - 6 - 2 * manyOf s : Nat) : Int) by omega), cond_false, f_spec_l6TailLoop s (s.size - 6) _ (by omega) hs _ (manyOf s) (s.size - 6 - 2 * manyOf s) [] (by omega) (by simp; omega)]
    dsimp only
    rw [bounds_ok (by omega), req_true, Int.toNat_natCast, if_pos (by simp only [tailOk, decide_eq_true_eq]; exact ⟨by omega, hsum, by omega⟩)]
    rfl
  · rw [seq_false.2 hsum, if_neg (by simp only [tailOk, decide_eq_true_eq]; rintro ⟨_, h, _⟩; exact hsum h)]
    rfl

theorem block_tail {l : List DItem} {s : ByteArray} (hg : ∀ x ∈ l, goodItem x = true) (he : blockB l = s) : strOf (lows 4 (sumOf (s.extract 0 (s.size - 4)))) = s.extract (s.size - 4) s.size := by
  have hw : (strOf (lows 4 (sumOf (bodyB l)))).size = 4 := by rw [strOf_size, lows_length]
  have hsz : s.size = (bodyB l).size + 4 := by rw [← he, blockB, ByteArray.size_append, hw]
  have h1 : s.extract 0 (s.size - 4) = bodyB l := by
    rw [hsz, Nat.add_sub_cancel, ← he, blockB]
    exact ByteArray.extract_append_eq_left rfl
  rw [h1]
  rw [hsz, Nat.add_sub_cancel, ← he, blockB]
  exact (ByteArray.extract_append_eq_right rfl (by rw [hw])).symm

theorem f_spec_l6ReadVal (x : ByteArray × Unit) (hs : x.1.size ≤ 1048576) : f_spec_l6Read x = some (okB (readB x.1)) := by
  obtain ⟨s, ⟨⟩⟩ := x
  dsimp only at hs ⊢
  unfold f_spec_l6Read
  dsimp only
  rw [f_spec_l6TailVal _ hs, bnd_some]
  dsimp only
  have hnone : ∀ l, goodRun l = true → blockB l = s → 6 ≤ s.size ∧ 2 * manyOf s ≤ s.size - 6 → tailOk s = true := fun l hg he h => by
    simp only [tailOk, decide_eq_true_eq]
    exact ⟨h.1, block_tail (fun x hx => goodRun_all hg hx) he, h.2⟩
  cases ht : tailOk s with
  | false =>
    rw [if_neg (by simp)]
    have : readB s = none := by
      simp only [readB]
      split
      · rfl
      · rename_i hc
        simp only [not_or] at hc
        split
        · rfl
        · split
          · rename_i hh
            rw [hnone _ hh.2.2.1 hh.2.2.2 ⟨by omega, by omega⟩] at ht
            cases ht
          · rfl
    rw [this]
    rfl
  | true =>
    rw [if_pos rfl]
    have hto := ht
    simp only [tailOk, decide_eq_true_eq] at hto
    dsimp only
    simp only [Bool.not_true, cond_false]
    have hgo : ∀ (s' : ByteArray) (l : List DItem), readL strict 42 (s.extract 0 (s.size - 6 - 2 * manyOf s)) ⟨#[]⟩ [] = some (s', l) →
        (bnd (f_spec_GoodRun (l, ())) fun r7 => (cond (!r7.1.1)
 (some ((([] : List DItem), (false, ())), ()))
 (cond (ilt (40 : Int) (llen l))
 (some ((([] : List DItem), (false, ())), ()))
 (bnd (f_spec_l6Block (l, ())) fun r8 => (cond (!seq r8.1.1 s)
 (some ((([] : List DItem), (false, ())), ()))
 (some ((l, (true, ())), ()))))))) = some (okB (readB s)) := by
      intro s' l hr
      have hi := read_strict hr
      obtain ⟨hlen, hend⟩ := readL_len hr (by simp) (by simp)
      have hrb : readB s = if s'.size = 0 ∧ l.length ≤ 40 ∧ goodRun l = true ∧ blockB l = s then some (l, (blk l l.length).2) else none := by
        simp only [readB, hi]
        rw [if_neg (by omega)]
      rw [hrb, f_spec_GoodRunVal _ (by dsimp only; omega), bnd_some]
      dsimp only
      cases hg : goodRun l with
      | false =>
        rw [if_neg (by simp)]
        rfl
      | true =>
        simp only [Bool.not_true, cond_false]
        by_cases h40 : 40 < l.length
        · rw [ilt_iff.2 (show (40 : Int) < llen l by simp only [llen]; omega), if_neg (by omega)]
          rfl
        · rw [ilt_false.2 (show llen l ≤ (40 : Int) by simp only [llen]; omega), cond_false, f_spec_l6BlockVal _ (fun x hx => goodRun_all hg hx) (by dsimp only; omega), bnd_some]
          dsimp only
          by_cases he : blockB l = s
          · rw [(seq_iff _ _).2 he, if_pos ⟨by omega, by omega, trivial, he⟩]
            rfl
          · rw [seq_false.2 he, if_neg (by rintro ⟨_, _, _, h⟩; exact he h)]
            rfl
    rw [f_spec_l6ReadLoop s _ (([], (false, ())), ()) (fun s' l => (bnd (f_spec_GoodRun (l, ())) fun r7 => (cond (!r7.1.1)
 (some ((([] : List DItem), (false, ())), ()))
 (cond (ilt (40 : Int) (llen l))
 (some ((([] : List DItem), (false, ())), ()))
 (bnd (f_spec_l6Block (l, ())) fun r8 => (cond (!seq r8.1.1 s)
 (some ((([] : List DItem), (false, ())), ()))
 (some ((l, (true, ())), ())))))))) (fun c l => rfl) (fun l s' => rfl) 42 (s.extract 0 (s.size - 6 - 2 * manyOf s)) ⟨#[]⟩ [] (by simp) (by rw [ByteArray.size_extract]; show _ + 0 ≤ _; omega) (by simp)]
    cases hr : readL strict 42 (s.extract 0 (s.size - 6 - 2 * manyOf s)) ⟨#[]⟩ [] with
    | some q => exact hgo q.1 q.2 hr
    | none =>
      have : readB s = none := by
        simp only [readB]
        rw [if_neg (by omega)]
        split
        · rfl
        · rename_i r l hi
          split
          · rename_i hh
            rw [read_item hi fun x hx => goodRun_all hh.2.2.1 hx] at hr
            cases hr
          · rfl
      rw [this]
      rfl

end Go.Proofs.YtncalmofbcmkaaaGreat
