/- The bytes of a run: both sides compute the same. -/
import Derived.Test.YtncalmofbcmkaaaGreatR1Items
set_option linter.all false
namespace Go.Proofs.YtncalmofbcmkaaaGreat
open Go Go.Proofs.YtncalmofbcmkaaaGreat.Ev

def piece (c : Nat) (x : DItem) : ByteArray :=
  varB c ++ varB (x.1.size - c) ++ varB (2 * x.2.1.toNat + x.2.2.1.toNat) ++ varB x.2.2.2.1.size ++ x.1.extract c x.1.size ++ x.2.2.2.1

/-- how much of item i's key is that of the one ahead -/
def comAt (l : List DItem) (i : Nat) (x : DItem) : Nat :=
  if i % 4 = 0 then 0 else match l[i - 1]? with
    | some y => commonOf y.1 x.1
    | none => 0

/-- the bytes of the first i items, and the places -/
def blk (l : List DItem) : Nat → ByteArray × List Int
  | 0 => (⟨#[]⟩, [])
  | i + 1 => match l[i]? with
    | none => blk l i
    | some x => ((blk l i).1 ++ piece (comAt l i x) x, if i % 4 = 0 then (blk l i).2 ++ [slen (blk l i).1] else (blk l i).2)

def two (n : Int) : ByteArray := strOf (lows 2 n)
def twos : List Int → ByteArray
  | [] => ⟨#[]⟩
  | p :: ps => two p ++ twos ps

theorem empty_append (a : ByteArray) : (⟨#[]⟩ : ByteArray) ++ a = a := ByteArray.empty_append
theorem append_empty (a : ByteArray) : a ++ (⟨#[]⟩ : ByteArray) = a := ByteArray.append_empty

theorem twos_snoc (l : List Int) (p : Int) : twos (l ++ [p]) = twos l ++ two p := by
  induction l with
  | nil => simp only [List.nil_append, twos, append_empty, empty_append]
  | cons q l ih => simp only [List.cons_append, twos, ih, ByteArray.append_assoc]

theorem two_size (n : Int) : (two n).size = 2 := by rw [two, strOf_size, lows_length]
theorem twos_size : ∀ (l : List Int), (twos l).size = 2 * l.length
  | [] => rfl
  | p :: ps => by simp only [twos, ByteArray.size_append, two_size, twos_size ps, List.length_cons]; omega

theorem piece_size {c : Nat} {x : DItem} (h : goodItem x = true) : (piece c x).size ≤ 92 := by
  have := good_sizes h
  have h1 := varB_size c
  have h2 := varB_size (x.1.size - c)
  have h3 := varB_size (2 * x.2.1.toNat + x.2.2.1.toNat)
  have h4 := varB_size x.2.2.2.1.size
  simp only [piece, ByteArray.size_append, ByteArray.size_extract]
  omega

theorem blk_size {l : List DItem} (hg : ∀ x ∈ l, goodItem x = true) : ∀ (i : Nat), (blk l i).1.size ≤ 92 * i ∧ (blk l i).2.length ≤ i
  | 0 => ⟨Nat.le_refl _, Nat.le_refl _⟩
  | i + 1 => by
    have ih := blk_size hg i
    simp only [blk]
    cases hx : l[i]? with
    | none => dsimp only; omega
    | some x =>
      have := piece_size (c := comAt l i x) (hg x (List.mem_of_getElem? hx))
      dsimp only
      simp only [ByteArray.size_append]
      refine ⟨by omega, ?_⟩
      split
      · simp; omega
      · omega

def aheadOf (l : List DItem) : Nat → ByteArray
  | 0 => ⟨#[]⟩
  | i + 1 => match l[i]? with
    | some y => y.1
    | none => ⟨#[]⟩

theorem f_impl_block_i7Val {R : Type} (c : ((ByteArray × (List DItem) × Int × Int × Bool × Unit) × (DItem × Unit))) (v : ((Int × Unit) × ((List Int) × Unit))) (hl : v.2.1.length ≤ 1000) (kk : ((ByteArray × (List DItem) × Int × Int × Bool × Unit) × (DItem × Unit)) → ((Int × Unit) × ((List Int) × Unit)) → Option R) :
    f_impl_block_i7 R c v kk = kk c ((cond c.1.2.2.2.2.1 0 v.1.1, ()), (cond c.1.2.2.2.2.1 (v.2.1 ++ [slen c.1.1]) v.2.1, ())) := by
  obtain ⟨⟨a, b, d, e, t, ⟨⟩⟩, y, ⟨⟩⟩ := c
  have h : decide (List.length v.2.1 + List.length [slen a] ≤ 17179869184) = true := decide_eq_true (by simp; omega)
  cases t with
  | true => simp only [f_impl_block_i7, cond_true, h, req_true]
  | false => rfl

theorem irem4 (i : Nat) : ieq (irem .i64 (i : Int) (4 : Int)) (0 : Int) = decide (i % 4 = 0) := by
  simp only [irem]
  rw [Int.tmod_eq_emod_of_nonneg (by omega)]
  by_cases h : i % 4 = 0
  · simp only [h, decide_true]; exact ieq_iff.2 (by omega)
  · simp only [h, decide_false]; exact ieq_false.2 (by omega)

theorem common_zero_le (a b : ByteArray) : commonOf a b ≤ a.size ∧ commonOf a b ≤ b.size := common_le a b a.size 0 (by omega) (by omega)

theorem comAt_le (l : List DItem) (i : Nat) (x : DItem) : comAt l i x ≤ x.1.size := by
  simp only [comAt]
  split
  · omega
  · split
    · exact (common_zero_le _ _).2
    · omega

theorem goodNat {x : DItem} (h : goodItem x = true) : iadd .i64 (imul .i64 (2 : Int) x.2.1) x.2.2.1 = ((2 * x.2.1.toNat + x.2.2.1.toNat : Nat) : Int) := by
  have := good_sizes h
  rw [imul_i64 (by omega), iadd_i64 (by omega)]
  omega

/-- the six parts of an item are written -/
theorem put_piece {R : Type} {x : DItem} (hg : goodItem x = true) {c : Nat} (hc : c ≤ x.1.size) {out : ByteArray} (ho : out.size ≤ 1000000) (vt : (Int × Unit) → Option ((ByteArray × Unit) × Unit))
    (hvt : ∀ (y : Int × Unit) (n : Nat), y.1 = (n : Int) → n < 9223372036854775808 → vt y = some ((varB n, ()), ())) (k : ByteArray → Option R) :
    (bnd (vt ((c : Int), ())) fun r5 => (bnd (vt ((isub .i64 (slen x.1) (c : Int)), ())) fun r6 => (catO r5.1.1 r6.1.1 fun v7 => (bnd (vt ((iadd .i64 (imul .i64 (2 : Int) x.2.1) x.2.2.1), ())) fun r8 => (catO v7 r8.1.1 fun v9 => (bnd (vt ((slen x.2.2.2.1), ())) fun r10 => (catO v9 r10.1.1 fun v11 => (req (decide ((0 : Int) ≤ (c : Int)) && decide ((c : Int) ≤ ((ByteArray.size x.1) : Int))) (catO v11 (ByteArray.extract x.1 (Int.toNat (c : Int)) (ByteArray.size x.1)) fun v12 => (catO v12 x.2.2.2.1 fun v13 => (catO out v13 fun v14 => k v14))))))))))) = k (out ++ piece c x) := by
  have hz := good_sizes hg
  have hs : isub .i64 (slen x.1) (c : Int) = ((x.1.size - c : Nat) : Int) := by
    simp only [slen]
    rw [isub_i64 (by omega)]
    omega
  rw [hvt _ c rfl (by omega), bnd_some, hs, hvt _ (x.1.size - c) rfl (by omega), bnd_some]
  have h1 := varB_size c
  have h2 := varB_size (x.1.size - c)
  have h3 := varB_size (2 * x.2.1.toNat + x.2.2.1.toNat)
  have h4 := varB_size x.2.2.2.1.size
  dsimp only
  rw [catO_some (by omega), goodNat hg, hvt _ (2 * x.2.1.toNat + x.2.2.1.toNat) rfl (by omega), bnd_some]
  dsimp only
  rw [catO_some (by simp only [ByteArray.size_append]; omega), hvt _ x.2.2.2.1.size rfl (by omega), bnd_some]
  dsimp only
  rw [catO_some (by simp only [ByteArray.size_append]; omega), bounds_ok hc, req_true, Int.toNat_natCast, catO_some (by simp only [ByteArray.size_append, ByteArray.size_extract]; omega),
    catO_some (by simp only [ByteArray.size_append, ByteArray.size_extract]; omega), catO_some (by simp only [ByteArray.size_append, ByteArray.size_extract]; omega)]
  rfl

theorem f_impl_blockLoop {R : Type} (l : List DItem) (hg : ∀ x ∈ l, goodItem x = true) (hl : l.length ≤ 100) (kk : (Unit × Unit) → ((ByteArray × Unit) × ((List Int) × Unit)) → Option R) :
    ∀ (f i : Nat), f + i = l.length → loopF (c := f_impl_block_l3c) (v := f_impl_block_l3v) (ex := f_impl_block_l3e) f_impl_block_l3 R ((), ()) (((blk l i).1, (aheadOf l i, (l, (llen l, ((i : Int), ()))))), ((blk l i).2, ())) kk =
      kk ((), ()) (((blk l l.length).1, ()), ((blk l l.length).2, ()))
  | 0, i, hf => by
    have hi : i = l.length := by omega
    subst hi
    have h1 : ilt ((l.length : Nat) : Int) (llen l) = false := ilt_false.2 (by simp only [llen]; omega)
    rw [loopF_done (c' := ((), ())) (o := (((blk l l.length).1, ()), ((blk l l.length).2, ()))) (by simp only [round, f_impl_block_l3, h1, cond_false])]
  | f + 1, i, hf => by
    have h1 : ilt (i : Int) (llen l) = true := ilt_iff.2 (by simp only [llen]; omega)
    have hx : l[i]? = some l[i] := List.getElem?_eq_getElem (by omega)
    have hgx : goodItem l[i] = true := hg _ (List.mem_of_getElem? hx)
    have hsz := blk_size hg i
    have h2 : iadd .i64 (i : Int) (1 : Int) = ((i + 1 : Nat) : Int) := by rw [iadd_i64 (by omega)]; simp
    have hah : (aheadOf l i).size ≤ 9223372036854775806 := by
      cases i with
      | zero => show 0 ≤ _; omega
      | succ j =>
        have hj : l[j]? = some l[j] := List.getElem?_eq_getElem (by omega)
        simp only [aheadOf, hj]
        have := good_sizes (hg _ (List.mem_of_getElem? hj))
        omega
    have hcom : cond (decide (i % 4 = 0)) (0 : Int) ((commonOf (aheadOf l i) l[i].1 : Nat) : Int) = ((comAt l i l[i] : Nat) : Int) := by
      simp only [comAt]
      by_cases h : i % 4 = 0
      · simp only [h, decide_true, cond_true, if_true]; rfl
      · simp only [h, decide_false, cond_false, if_false]
        cases i with
        | zero => exact absurd rfl h
        | succ j =>
          have hj : l[j]? = some l[j] := List.getElem?_eq_getElem (by omega)
          simp only [aheadOf, hj, Nat.add_sub_cancel]
    rw [loopF_more (c' := ((), ())) (v' := (((blk l (i + 1)).1, (aheadOf l (i + 1), (l, (llen l, (((i + 1 : Nat) : Int), ()))))), ((blk l (i + 1)).2, ()))) (by
      simp only [round, f_impl_block_l3, h1, cond_true]
      rw [getO_at (by omega) (by rw [Int.toNat_natCast]; exact hx), f_impl_CommonOfVal _ hah, bnd_some]
      rw [f_impl_block_i7Val _ _ (by dsimp only; omega)]
      dsimp only
      rw [irem4, hcom, put_piece hgx (comAt_le l i _) (by omega) f_impl_varBytes (fun y n h1 h2 => f_impl_varBytesVal y n h1 h2)]
      simp only [blk, aheadOf, hx, h2]
      by_cases h : i % 4 = 0
      · simp only [h, decide_true, cond_true, if_true]
      · simp only [h, decide_false, cond_false, if_false])]
    exact f_impl_blockLoop l hg hl kk f (i + 1) (by omega)

theorem f_impl_blockLoop2 {R : Type} (pl : List Int) (hl : pl.length ≤ 1000) (kk : ((Int × Unit) × ((List Int) × Unit)) → ((ByteArray × Unit) × Unit) → Option R) :
    ∀ (f i : Nat) (s : ByteArray), f + i = pl.length → s.size ≤ 1000000 + 2 * i → loopF (c := f_impl_block_l12c) (v := f_impl_block_l12v) (ex := f_impl_block_l12e) f_impl_block_l12 R ((llen pl, ()), (pl, ())) ((s, ((i : Int), ())), ()) kk =
      kk ((llen pl, ()), (pl, ())) ((s ++ twos (pl.drop i), ()), ())
  | 0, i, s, hf, hs => by
    have h1 : ilt (i : Int) (llen pl) = false := ilt_false.2 (by simp only [llen]; omega)
    rw [loopF_done (c' := ((llen pl, ()), (pl, ()))) (o := ((s, ()), ())) (by simp only [round, f_impl_block_l12, h1, cond_false])]
    rw [List.drop_eq_nil_of_le (by omega)]
    simp only [twos, append_empty]
  | f + 1, i, s, hf, hs => by
    have h1 : ilt (i : Int) (llen pl) = true := ilt_iff.2 (by simp only [llen]; omega)
    have hx : pl[i]? = some pl[i] := List.getElem?_eq_getElem (by omega)
    have h2 : iadd .i64 (i : Int) (1 : Int) = ((i + 1 : Nat) : Int) := by rw [iadd_i64 (by omega)]; simp
    rw [loopF_more (c' := ((llen pl, ()), (pl, ()))) (v' := ((s ++ two pl[i], (((i + 1 : Nat) : Int), ())), ())) (by
      simp only [round, f_impl_block_l12, h1, cond_true]
      rw [getO_at (by omega) (by rw [Int.toNat_natCast]; exact hx), Int.toNat_natCast, hx, bnd_some, f_impl_lowFirstVal _ 2 (by omega) rfl, bnd_some]
      dsimp only
      rw [lows_wrap, catO_some (by rw [strOf_size, lows_length]; omega), h2]
      rfl)]
    rw [f_impl_blockLoop2 pl hl kk f (i + 1) (s ++ two pl[i]) (by omega) (by rw [ByteArray.size_append, two_size]; omega)]
    rw [List.drop_eq_getElem_cons (by omega : i < pl.length)]
    simp only [twos, ByteArray.append_assoc]

def bodyB (l : List DItem) : ByteArray := (blk l l.length).1 ++ twos (blk l l.length).2 ++ two (llen (blk l l.length).2)
def blockB (l : List DItem) : ByteArray := bodyB l ++ strOf (lows 4 (sumOf (bodyB l)))

theorem bodyB_size {l : List DItem} (hg : ∀ x ∈ l, goodItem x = true) : (bodyB l).size ≤ 94 * l.length + 2 := by
  have := blk_size hg l.length
  simp only [bodyB, ByteArray.size_append, twos_size, two_size]
  omega

theorem f_impl_blockVal (x : List DItem × Unit) (hg : ∀ y ∈ x.1, goodItem y = true) (hl : x.1.length ≤ 100) : f_impl_block x = some ((blockB x.1, ((blk x.1 x.1.length).2, ())), ()) := by
  obtain ⟨l, ⟨⟩⟩ := x
  dsimp only at hg hl ⊢
  unfold f_impl_block
  have h1 := fun (R : Type) kk => f_impl_blockLoop (R := R) l hg hl kk l.length 0 rfl
  rw [show ((0 : Nat) : Int) = (0 : Int) from rfl] at h1
  have hsz := blk_size hg l.length
  have hb := bodyB_size hg
  rw [show ((⟨#[]⟩ : ByteArray), (⟨#[]⟩ : ByteArray), l, llen l, (0 : Int), ()) = ((blk l 0).1, aheadOf l 0, l, llen l, (0 : Int), ()) from rfl, show ([] : List Int) = (blk l 0).2 from rfl, h1]
  dsimp only
  have h2 := fun (R : Type) kk => f_impl_blockLoop2 (R := R) (blk l l.length).2 (by omega) kk (blk l l.length).2.length 0 (blk l l.length).1 rfl (by omega)
  rw [show ((0 : Nat) : Int) = (0 : Int) from rfl] at h2
  rw [h2]
  dsimp only
  rw [List.drop_zero, f_impl_lowFirstVal _ 2 (by omega) rfl, bnd_some]
  dsimp only
  rw [lows_wrap, catO_some (by rw [strOf_size, lows_length, ByteArray.size_append, twos_size]; omega)]
  rw [show (blk l l.length).1 ++ twos (blk l l.length).2 ++ strOf (lows 2 (llen (blk l l.length).2)) = bodyB l from rfl, f_impl_SumOfVal _ (by dsimp only; omega), bnd_some]
  dsimp only
  rw [f_impl_lowFirstVal _ 4 (by omega) rfl, bnd_some]
  dsimp only
  rw [catO_some (by rw [strOf_size, lows_length]; omega)]
  rfl

/-! ### the reference -/
theorem f_spec_l6Block_i8Val {R : Type} (l : List DItem) (s : ByteArray) (i : Nat) (l2 : List DItem) (n m : Int) (x : DItem) (tail : ByteArray) (hi : i < l.length) (hl : l.length ≤ 100) (hg : ∀ x ∈ l, goodItem x = true) (ht : tail.size ≤ 1000000)
    (kk : (((List DItem) × ByteArray × Int × (List DItem) × Int × Int × Bool × Unit) × (DItem × Unit)) → ((ByteArray × Int × Unit) × Unit) → Option R) :
    f_spec_l6Block_i8 R ((l, (s, ((i : Int), (l2, (n, (m, (decide (i % 4 = 0), ()))))))), (x, ())) ((tail, ((0 : Int), ())), ()) kk =
      kk ((l, (s, ((i : Int), (l2, (n, (m, (decide (i % 4 = 0), ()))))))), (x, ())) ((if i % 4 = 0 then tail ++ two (slen s) else tail, (((comAt l i x : Nat) : Int), ())), ()) := by
  simp only [f_spec_l6Block_i8, comAt]
  by_cases h : i % 4 = 0
  · simp only [h, decide_true, cond_true, if_true]
    rw [f_spec_l6TwoVal, bnd_some]
    dsimp only
    rw [catO_some (by rw [strOf_size, lows_length]; omega)]
    rfl
  · simp only [h, decide_false, cond_false, if_false]
    cases i with
    | zero => exact absurd rfl h
    | succ j =>
      have hj : l[j]? = some l[j] := List.getElem?_eq_getElem (by omega)
      have hz := good_sizes (hg _ (List.mem_of_getElem? hj))
      have h4 : isub .i64 ((j + 1 : Nat) : Int) (1 : Int) = (j : Int) := by rw [isub_i64 (by omega)]; omega
      rw [h4, getO_at (by omega) (by rw [Int.toNat_natCast]; exact hj), f_spec_CommonOfVal _ (by dsimp only; omega), bnd_some]
      simp only [Nat.add_sub_cancel, hj]

theorem f_spec_l6BlockLoop {R : Type} (l : List DItem) (hg : ∀ x ∈ l, goodItem x = true) (hl : l.length ≤ 100) (kk : (Unit × Unit) → ((ByteArray × ByteArray × Unit) × Unit) → Option R) :
    ∀ (f i : Nat), f + i = l.length → loopF (c := f_spec_l6Block_l4c) (v := f_spec_l6Block_l4v) (ex := f_spec_l6Block_l4e) f_spec_l6Block_l4 R ((), ()) ((l, ((blk l i).1, (twos (blk l i).2, (l, (llen l, ((i : Int), ())))))), ()) kk =
      kk ((), ()) (((blk l l.length).1, (twos (blk l l.length).2, ())), ())
  | 0, i, hf => by
    have hi : i = l.length := by omega
    subst hi
    have h1 : ilt ((l.length : Nat) : Int) (llen l) = false := ilt_false.2 (by simp only [llen]; omega)
    rw [loopF_done (c' := ((), ())) (o := (((blk l l.length).1, (twos (blk l l.length).2, ())), ())) (by simp only [round, f_spec_l6Block_l4, h1, cond_false])]
  | f + 1, i, hf => by
    have h1 : ilt (i : Int) (llen l) = true := ilt_iff.2 (by simp only [llen]; omega)
    have hx : l[i]? = some l[i] := List.getElem?_eq_getElem (by omega)
    have hgx : goodItem l[i] = true := hg _ (List.mem_of_getElem? hx)
    have hsz := blk_size hg i
    have h2 : iadd .i64 (i : Int) (1 : Int) = ((i + 1 : Nat) : Int) := by rw [iadd_i64 (by omega)]; simp
    rw [loopF_more (c' := ((), ())) (v' := ((l, ((blk l (i + 1)).1, (twos (blk l (i + 1)).2, (l, (llen l, (((i + 1 : Nat) : Int), ())))))), ())) (by
      simp only [round, f_spec_l6Block_l4, h1, cond_true]
      rw [getO_at (by omega) (by rw [Int.toNat_natCast]; exact hx), irem4]
      rw [f_spec_l6Block_i8Val l _ i l _ _ _ _ (by omega) hl hg (by rw [twos_size]; omega)]
      dsimp only
      rw [put_piece hgx (comAt_le l i _) (by omega) f_spec_l2Var (fun y n h1 h2 => f_spec_l2VarVal y n h1 h2)]
      simp only [blk, hx, h2]
      by_cases h : i % 4 = 0
      · simp only [h, if_true, twos_snoc]
      · simp only [h, if_false])]
    exact f_spec_l6BlockLoop l hg hl kk f (i + 1) (by omega)

theorem f_spec_l6BlockVal (x : List DItem × Unit) (hg : ∀ y ∈ x.1, goodItem y = true) (hl : x.1.length ≤ 100) : f_spec_l6Block x = some ((blockB x.1, ()), ()) := by
  obtain ⟨l, ⟨⟩⟩ := x
  dsimp only at hg hl ⊢
  unfold f_spec_l6Block
  have h1 := fun (R : Type) kk => f_spec_l6BlockLoop (R := R) l hg hl kk l.length 0 rfl
  rw [show ((0 : Nat) : Int) = (0 : Int) from rfl] at h1
  have hsz := blk_size hg l.length
  have hb := bodyB_size hg
  rw [show (l, (⟨#[]⟩ : ByteArray), (⟨#[]⟩ : ByteArray), l, llen l, (0 : Int), ()) = (l, (blk l 0).1, twos (blk l 0).2, l, llen l, (0 : Int), ()) from rfl, h1]
  dsimp only
  have h3 : iquo .i64 (slen (twos (blk l l.length).2)) (2 : Int) = llen (blk l l.length).2 := by
    simp only [slen, twos_size]
    rw [iquo2 (by omega)]
    simp only [llen]
    omega
  rw [h3, f_spec_l6TwoVal, bnd_some]
  dsimp only
  rw [catO_some (by rw [strOf_size, lows_length, twos_size]; omega), catO_some (by rw [ByteArray.size_append, strOf_size, lows_length, twos_size]; omega)]
  rw [show (blk l l.length).1 ++ (twos (blk l l.length).2 ++ strOf (lows 2 (llen (blk l l.length).2))) = bodyB l by rw [bodyB, ByteArray.append_assoc]; rfl, f_spec_l2SumVal _ (by dsimp only; omega), bnd_some]
  dsimp only
  rw [f_spec_l2WordVal, bnd_some]
  dsimp only
  rw [catO_some (by rw [strOf_size, lows_length]; omega)]
  rfl

end Go.Proofs.YtncalmofbcmkaaaGreat
