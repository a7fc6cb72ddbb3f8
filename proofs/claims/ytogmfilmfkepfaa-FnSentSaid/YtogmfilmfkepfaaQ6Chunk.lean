/- The chunks of files, what is wanted of them. -/
import Derived.Test.YtogmfilmfkepfaaQ6Crc
import Derived.Test.YtogmfilmfkepfaaUBs
set_option linter.all false
noncomputable section
namespace Go.Proofs.Ytogmfilmfkepfaa
open Go Go.Proofs.Ytogmfilmfkepfaa.Ev

theorem toSome {α : Type} {o : Option α} {v : α} (h : Does o (· = v)) : o = some v := by
  obtain ⟨x, h1, rfl⟩ := h; exact h1

/-! ### sums -/
def ckSum (f a : Nat) (d : ByteArray) : Int := sumOf ((varB f ++ varB a) ++ d)
theorem imax0 (n : Nat) : imax (n : Int) 0 = (n : Int) := by unfold imax; split <;> omega
theorem ilt0 (n : Nat) : ilt (n : Int) 0 = false := ilt_false.2 (by omega)

theorem f_impl_ChunkSumVal (f a : Nat) (d : ByteArray) (hf : f ≤ 1000000) (ha : a ≤ 1000000) (hd : d.size ≤ 1000000) : f_impl_ChunkSum ((f : Int), ((a : Int), (d, ()))) = some ((ckSum f a d, ()), ()) := by
  have s1 := varB_size f
  have s2 := varB_size a
  unfold f_impl_ChunkSum
  simp only [imax0]
  rw [f_impl_varBytesVal _ f rfl (by omega), bnd_some, f_impl_varBytesVal _ a rfl (by omega), bnd_some]
  dsimp only
  rw [catO_some (by omega), catO_some (by rw [ByteArray.size_append]; omega), f_impl_SumOfVal _ (by simp only [ByteArray.size_append]; omega), bnd_some]
  rfl
theorem f_spec_l13SumVal (f a : Nat) (d : ByteArray) (hf : f ≤ 1000000) (ha : a ≤ 1000000) (hd : d.size ≤ 1000000) : f_spec_l13Sum ((f : Int), ((a : Int), (d, ()))) = some ((ckSum f a d, ()), ()) := by
  have s1 := varB_size f
  have s2 := varB_size a
  unfold f_spec_l13Sum f_spec_l13Sum_i2
  simp only [ilt0, cond_false]
  unfold f_spec_l13Sum_i4
  simp only [cond_false]
  rw [f_spec_l2VarVal _ f rfl (by omega), bnd_some, f_spec_l2VarVal _ a rfl (by omega), bnd_some]
  dsimp only
  rw [catO_some (by omega), catO_some (by rw [ByteArray.size_append]; omega), f_spec_l2SumVal _ (by simp only [ByteArray.size_append]; omega), bnd_some]
  rfl

theorem f_spec_l13SizeVal (n a : Nat) (h : a ≤ n) (hn : n ≤ 1000000) : f_spec_l13Size ((n : Int), ((a : Int), ())) = some ((((min 64 (n - a) : Nat) : Int), ()), ()) := by
  unfold f_spec_l13Size
  have e : isub .i64 (n : Int) (a : Int) = ((n - a : Nat) : Int) := by rw [isub_i64 (by omega)]; omega
  dsimp only
  rw [e]
  cases hc : ilt ((n - a : Nat) : Int) (64 : Int) with
  | true => have := ilt_iff.1 hc; rw [cond_true, show min 64 (n - a) = n - a by omega]
  | false => have := ilt_false.1 hc; rw [cond_false, show min 64 (n - a) = 64 by omega]; rfl

/-! ### chunks -/
def nck (s : ByteArray) : Nat := (s.size + 63) / 64
def ckD (s : ByteArray) (j : Nat) : ByteArray := s.extract (64 * j) (min (64 * j + 64) s.size)
def ck (f : Nat) (s : ByteArray) (j : Nat) : DChunk := ((f : Int), (((64 * j : Nat) : Int), (ckD s j, (ckSum f (64 * j) (ckD s j), ()))))
def fck (f : Nat) (s : ByteArray) : List DChunk := (List.range (nck s)).map (ck f s)
def cks : Nat → List ByteArray → List DChunk
  | _, [] => []
  | f, s :: r => fck f s ++ cks (f + 1) r
theorem cks_snoc : ∀ (l : List ByteArray) (f : Nat) (s : ByteArray), cks f (l ++ [s]) = cks f l ++ fck (f + l.length) s
  | [], f, s => by simp [cks]
  | a :: l, f, s => by
    simp only [List.cons_append, cks, cks_snoc l (f + 1) s, List.append_assoc, List.length_cons]
    rw [show f + 1 + l.length = f + (l.length + 1) by omega]
theorem cks_take (l : List ByteArray) {i : Nat} {s : ByteArray} (h : l[i]? = some s) : cks 0 (l.take (i + 1)) = cks 0 (l.take i) ++ fck i s := by
  rw [List.take_add_one, h]
  show cks 0 (l.take i ++ [s]) = _
  have := (List.getElem?_eq_some_iff.1 h).1
  rw [cks_snoc, List.length_take, show 0 + min i l.length = i by omega]
theorem ckD_size (s : ByteArray) (j : Nat) (h : j < nck s) : (ckD s j).size = min 64 (s.size - 64 * j) := by
  unfold ckD nck at *
  rw [ByteArray.size_extract]
  omega
theorem nck_lt {s : ByteArray} {j : Nat} : j < nck s ↔ 64 * j < s.size := by unfold nck; omega
theorem fck_length (f : Nat) (s : ByteArray) : (fck f s).length = nck s := by simp [fck]
theorem fck_succ (f : Nat) (s : ByteArray) (j : Nat) : (List.range (j + 1)).map (ck f s) = (List.range j).map (ck f s) ++ [ck f s j] := by simp [List.range_succ]

section
variable {R : Type}
theorem impl_inner (f : Nat) (s : ByteArray) (hs : s.size ≤ 4000) (hf : f ≤ 1000000) (fs : List ByteArray) (n i2 : Int) (acc : List DChunk) (ha : acc.length ≤ 1000000) (kk) :
    ∀ (m j : Nat), m + j = nck s → loopF (c := f_impl_chunks_l6c) (v := f_impl_chunks_l6v) (ex := f_impl_chunks_l6e) f_impl_chunks_l6 R (((f : Int), (s, (fs, (n, (i2, ()))))), ()) ((((64 * j : Nat) : Int), ()), (acc ++ (List.range j).map (ck f s), ())) kk = kk (((f : Int), (s, (fs, (n, (i2, ()))))), ()) ((), (acc ++ fck f s, ()))
  | 0, j, hm => by
    have hj : j = nck s := by omega
    subst hj
    have h1 : ilt (((64 * nck s : Nat) : Int)) (slen s) = false := ilt_false.2 (by simp only [slen, nck]; omega)
    exact loopF_done (c := f_impl_chunks_l6c) (v := f_impl_chunks_l6v) (ex := f_impl_chunks_l6e) (stepK := f_impl_chunks_l6) (c' := (((f : Int), (s, (fs, (n, (i2, ()))))), ())) (o := ((), (acc ++ fck f s, ()))) (by simp only [round, f_impl_chunks_l6, h1, cond_false]; rfl) kk
  | m + 1, j, hm => by
    have hj : j < nck s := by omega
    have hj' := nck_lt.1 hj
    have h1 : ilt (((64 * j : Nat) : Int)) (slen s) = true := ilt_iff.2 (by simp only [slen]; omega)
    have e1 : iadd .i64 ((64 * j : Nat) : Int) (64 : Int) = ((64 * j + 64 : Nat) : Int) := iaddN (b := 64) (by omega)
    have e2 : imin ((64 * j + 64 : Nat) : Int) (slen s) = ((min (64 * j + 64) s.size : Nat) : Int) := by unfold imin slen; split <;> omega
    have e3 : (decide ((0 : Int) ≤ ((64 * j : Nat) : Int)) && (decide (((64 * j : Nat) : Int) ≤ ((min (64 * j + 64) s.size : Nat) : Int)) && decide (((min (64 * j + 64) s.size : Nat) : Int) ≤ ((ByteArray.size s) : Int)))) = true := by
      simp only [Bool.and_eq_true, decide_eq_true_eq]; omega
    have e4 := f_impl_ChunkSumVal f (64 * j) (ckD s j) hf (by omega) (by rw [ckD_size s j hj]; omega)
    refine Eq.trans (loopF_more (c := f_impl_chunks_l6c) (v := f_impl_chunks_l6v) (ex := f_impl_chunks_l6e) (stepK := f_impl_chunks_l6) (c' := (((f : Int), (s, (fs, (n, (i2, ()))))), ())) (v' := ((((64 * (j + 1) : Nat) : Int), ()), (acc ++ (List.range (j + 1)).map (ck f s), ()))) (by
      simp only [round, f_impl_chunks_l6, h1, cond_true, e1, e2, e3, req_true, Int.toNat_natCast]
      rw [show s.extract (64 * j) (min (64 * j + 64) s.size) = ckD s j from rfl, e4, bnd_some, req_true_of (by simp; unfold nck at hm; omega), fck_succ, List.append_assoc]
      rfl) kk) ?_
    exact impl_inner f s hs hf fs n i2 acc ha kk m (j + 1) (by omega)
theorem impl_inner0 (f : Nat) (s : ByteArray) (hs : s.size ≤ 4000) (hf : f ≤ 1000000) (fs : List ByteArray) (n i2 : Int) (acc : List DChunk) (ha : acc.length ≤ 1000000) (kk) :
    loopF (c := f_impl_chunks_l6c) (v := f_impl_chunks_l6v) (ex := f_impl_chunks_l6e) f_impl_chunks_l6 R (((f : Int), (s, (fs, (n, (i2, ()))))), ()) (((0 : Int), ()), (acc, ())) kk = kk (((f : Int), (s, (fs, (n, (i2, ()))))), ()) ((), (acc ++ fck f s, ())) := by
  have := impl_inner f s hs hf fs n i2 acc ha kk (nck s) 0 (by omega)
  rw [List.range_zero, List.map_nil, List.append_nil] at this
  exact this

theorem spec_inner (f : Nat) (s : ByteArray) (hs : s.size ≤ 4000) (hf : f ≤ 1000000) (fs : List ByteArray) (n i2 : Int) (acc : List DChunk) (ha : acc.length ≤ 1000000) (kk) :
    ∀ (m j : Nat), m + j = nck s → loopF (c := f_spec_l13Chunks_l6c) (v := f_spec_l13Chunks_l6v) (ex := f_spec_l13Chunks_l6e) f_spec_l13Chunks_l6 R (((f : Int), (s, (fs, (n, (i2, ()))))), ()) ((((64 * j : Nat) : Int), ()), (acc ++ (List.range j).map (ck f s), ())) kk = kk (((f : Int), (s, (fs, (n, (i2, ()))))), ()) ((), (acc ++ fck f s, ()))
  | 0, j, hm => by
    have hj : j = nck s := by omega
    subst hj
    have h1 : ilt (((64 * nck s : Nat) : Int)) (slen s) = false := ilt_false.2 (by simp only [slen, nck]; omega)
    exact loopF_done (c := f_spec_l13Chunks_l6c) (v := f_spec_l13Chunks_l6v) (ex := f_spec_l13Chunks_l6e) (stepK := f_spec_l13Chunks_l6) (c' := (((f : Int), (s, (fs, (n, (i2, ()))))), ())) (o := ((), (acc ++ fck f s, ()))) (by simp only [round, f_spec_l13Chunks_l6, h1, cond_false]; rfl) kk
  | m + 1, j, hm => by
    have hj : j < nck s := by omega
    have hj' := nck_lt.1 hj
    have h1 : ilt (((64 * j : Nat) : Int)) (slen s) = true := ilt_iff.2 (by simp only [slen]; omega)
    have e1 : iadd .i64 ((64 * j : Nat) : Int) (64 : Int) = ((64 * j + 64 : Nat) : Int) := iaddN (b := 64) (by omega)
    have e2 : f_spec_l13Size (slen s, (((64 * j : Nat) : Int), ())) = some ((((min 64 (s.size - 64 * j) : Nat) : Int), ()), ()) := f_spec_l13SizeVal s.size (64 * j) (by omega) (by omega)
    have e5 : iadd .i64 ((64 * j : Nat) : Int) ((min 64 (s.size - 64 * j) : Nat) : Int) = ((min (64 * j + 64) s.size : Nat) : Int) := by rw [iaddN (by omega)]; omega
    have e3 : (decide ((0 : Int) ≤ ((64 * j : Nat) : Int)) && (decide (((64 * j : Nat) : Int) ≤ ((min (64 * j + 64) s.size : Nat) : Int)) && decide (((min (64 * j + 64) s.size : Nat) : Int) ≤ ((ByteArray.size s) : Int)))) = true := by
      simp only [Bool.and_eq_true, decide_eq_true_eq]; omega
    have e4 := f_spec_l13SumVal f (64 * j) (ckD s j) hf (by omega) (by rw [ckD_size s j hj]; omega)
    refine Eq.trans (loopF_more (c := f_spec_l13Chunks_l6c) (v := f_spec_l13Chunks_l6v) (ex := f_spec_l13Chunks_l6e) (stepK := f_spec_l13Chunks_l6) (c' := (((f : Int), (s, (fs, (n, (i2, ()))))), ())) (v' := ((((64 * (j + 1) : Nat) : Int), ()), (acc ++ (List.range (j + 1)).map (ck f s), ()))) (by
      simp only [round, f_spec_l13Chunks_l6, h1, cond_true, e1, e2, bnd_some, e5, e3, req_true, Int.toNat_natCast]
      rw [show s.extract (64 * j) (min (64 * j + 64) s.size) = ckD s j from rfl, e4, bnd_some, req_true_of (by simp; unfold nck at hm; omega), fck_succ, List.append_assoc]
      rfl) kk) ?_
    exact spec_inner f s hs hf fs n i2 acc ha kk m (j + 1) (by omega)
theorem spec_inner0 (f : Nat) (s : ByteArray) (hs : s.size ≤ 4000) (hf : f ≤ 1000000) (fs : List ByteArray) (n i2 : Int) (acc : List DChunk) (ha : acc.length ≤ 1000000) (kk) :
    loopF (c := f_spec_l13Chunks_l6c) (v := f_spec_l13Chunks_l6v) (ex := f_spec_l13Chunks_l6e) f_spec_l13Chunks_l6 R (((f : Int), (s, (fs, (n, (i2, ()))))), ()) (((0 : Int), ()), (acc, ())) kk = kk (((f : Int), (s, (fs, (n, (i2, ()))))), ()) ((), (acc ++ fck f s, ())) := by
  have := spec_inner f s hs hf fs n i2 acc ha kk (nck s) 0 (by omega)
  rw [List.range_zero, List.map_nil, List.append_nil] at this
  exact this
end

/-- files that are not too many and not too long -/
def okF (fs : List ByteArray) : Bool := decide (fs.length ≤ 12) && fs.all fun s => decide (s.size ≤ 4000)
theorem okF_len {fs : List ByteArray} (h : okF fs = true) : fs.length ≤ 12 := by simp only [okF, Bool.and_eq_true, decide_eq_true_eq] at h; exact h.1
theorem okF_size {fs : List ByteArray} (h : okF fs = true) {s : ByteArray} (hs : s ∈ fs) : s.size ≤ 4000 := by
  simp only [okF, Bool.and_eq_true, List.all_eq_true, decide_eq_true_eq] at h; exact h.2 s hs

theorem cks_bound : ∀ (l : List ByteArray) (f : Nat), (∀ s ∈ l, s.size ≤ 4000) → (cks f l).length ≤ 63 * l.length
  | [], f, h => by simp [cks]
  | s :: l, f, h => by
    have := cks_bound l (f + 1) fun x hx => h x (List.mem_cons_of_mem _ hx)
    have h2 := h s List.mem_cons_self
    simp only [cks, List.length_append, fck_length, List.length_cons, nck]
    omega

theorem f_impl_chunksVal (fs : List ByteArray) (h : okF fs = true) : f_impl_chunks (fs, ()) = some ((cks 0 fs, ()), ()) := by
  refine toSome ?_
  have hl := okF_len h
  unfold f_impl_chunks
  dsimp only
  refine Does.loop (c := f_impl_chunks_l3c) (v := f_impl_chunks_l3v) (ex := f_impl_chunks_l3e) (I := fun _ v => ∃ i : Nat, i ≤ fs.length ∧ v = ((fs, (llen fs, ((i : Int), ()))), (cks 0 (fs.take i), ()))) (μ := fun _ v => ((fs.length : Int) - v.1.2.2.1).toNat) (fun c v hI => ?_) ⟨0, by omega, rfl⟩
  obtain ⟨i, hi, rfl⟩ := hI
  obtain ⟨⟨⟩, ⟨⟩⟩ := c
  simp only [round, f_impl_chunks_l3]
  refine Does.cond (fun hlt => ?_) fun hlt => Does.val (Does.val ?_)
  · have hlt : (i : Int) < (fs.length : Int) := ilt_iff.1 hlt
    have hx := List.getElem?_eq_getElem (show i < fs.length by omega)
    obtain ⟨s, hs⟩ : ∃ s, s = fs[i] := ⟨_, rfl⟩
    rw [← hs] at hx
    have hb := cks_bound (fs.take i) 0 fun x hx => okF_size h (List.mem_of_mem_take hx)
    rw [List.length_take] at hb
    rw [getO_at (by omega) (by rw [Int.toNat_natCast]; exact hx)]
    rw [impl_inner0 i s (okF_size h (List.mem_of_getElem? hx)) (by omega) fs (llen fs) (i : Int) (cks 0 (fs.take i)) (by omega)]
    have e1 : iadd .i64 (i : Int) (1 : Int) = ((i + 1 : Nat) : Int) := iaddN (b := 1) (by omega)
    dsimp only
    rw [e1, ← cks_take fs hx]
    refine Does.val ⟨⟨i + 1, by omega, rfl⟩, by dsimp only; omega⟩
  · have hlt : (fs.length : Int) ≤ (i : Int) := ilt_false.1 hlt
    rw [show i = fs.length by omega, List.take_length]

theorem f_spec_l13ChunksVal (fs : List ByteArray) (h : okF fs = true) : f_spec_l13Chunks (fs, ()) = some ((cks 0 fs, ()), ()) := by
  refine toSome ?_
  have hl := okF_len h
  unfold f_spec_l13Chunks
  dsimp only
  refine Does.loop (c := f_spec_l13Chunks_l3c) (v := f_spec_l13Chunks_l3v) (ex := f_spec_l13Chunks_l3e) (I := fun _ v => ∃ i : Nat, i ≤ fs.length ∧ v = ((fs, (llen fs, ((i : Int), ()))), (cks 0 (fs.take i), ()))) (μ := fun _ v => ((fs.length : Int) - v.1.2.2.1).toNat) (fun c v hI => ?_) ⟨0, by omega, rfl⟩
  obtain ⟨i, hi, rfl⟩ := hI
  obtain ⟨⟨⟩, ⟨⟩⟩ := c
  simp only [round, f_spec_l13Chunks_l3]
  refine Does.cond (fun hlt => ?_) fun hlt => Does.val (Does.val ?_)
  · have hlt : (i : Int) < (fs.length : Int) := ilt_iff.1 hlt
    have hx := List.getElem?_eq_getElem (show i < fs.length by omega)
    obtain ⟨s, hs⟩ : ∃ s, s = fs[i] := ⟨_, rfl⟩
    rw [← hs] at hx
    have hb := cks_bound (fs.take i) 0 fun x hx => okF_size h (List.mem_of_mem_take hx)
    rw [List.length_take] at hb
    rw [getO_at (by omega) (by rw [Int.toNat_natCast]; exact hx)]
    rw [spec_inner0 i s (okF_size h (List.mem_of_getElem? hx)) (by omega) fs (llen fs) (i : Int) (cks 0 (fs.take i)) (by omega)]
    have e1 : iadd .i64 (i : Int) (1 : Int) = ((i + 1 : Nat) : Int) := iaddN (b := 1) (by omega)
    dsimp only
    rw [e1, ← cks_take fs hx]
    refine Does.val ⟨⟨i + 1, by omega, rfl⟩, by dsimp only; omega⟩
  · have hlt : (fs.length : Int) ≤ (i : Int) := ilt_false.1 hlt
    rw [show i = fs.length by omega, List.take_length]

/-! ### are the files few and short -/
theorem any_take {α : Type} {l : List α} {p : α → Bool} {i : Nat} {y : α} (h : ∀ x ∈ l.take i, p x = false) (hy : l[i]? = some y) (hp : p y = false) : ∀ x ∈ l.take (i + 1), p x = false := by
  intro x hx
  rw [List.take_add_one, hy] at hx
  rcases List.mem_append.1 hx with hx | hx
  · exact h x hx
  · simp at hx; rw [hx]; exact hp

theorem contains_string (l : List ByteArray) (hl : l.length ≤ 1000000) (F : (ByteArray × Unit) → Option (Bool × Unit)) (p : ByteArray → Bool) (hF : ∀ z, F z = some (p z.1, ())) : f_slices_ContainsFunc_string (l, (F, ())) = some ((l.any p, ()), ()) := by
  refine toSome ?_
  unfold f_slices_ContainsFunc_string
  refine Does.bnd (P := fun r => ile 0 r.1.1 = l.any p) ?_ fun r hr => by rw [hr]; exact Does.val rfl
  unfold f_slices_IndexFunc_string
  dsimp only
  refine Does.loop (c := f_slices_IndexFunc_string_l2c) (v := f_slices_IndexFunc_string_l2v) (ex := f_slices_IndexFunc_string_l2e) (I := fun c v => c = ((l, (F, (llen l, ()))), ()) ∧ ∃ i : Nat, i ≤ l.length ∧ v = (((i : Int), ()), ()) ∧ ∀ x ∈ l.take i, p x = false) (μ := fun _ v => ((l.length : Int) - v.1.1).toNat) (fun c v hI => ?_) ⟨rfl, 0, by omega, rfl, by simp⟩
  obtain ⟨rfl, i, hi, rfl, hp⟩ := hI
  simp only [round, f_slices_IndexFunc_string_l2]
  refine Does.cond (fun hlt => ?_) fun hlt => Does.val (Does.val ?_)
  · have hlt : (i : Int) < (l.length : Int) := ilt_iff.1 hlt
    refine Does.getO (by omega) hlt fun y hy => ?_
    rw [Int.toNat_natCast] at hy
    rw [hF, bnd_some]
    dsimp only
    refine Does.cond (fun hc => Does.val (Does.val ?_)) fun hc => Does.val ?_
    · dsimp only
      rw [ile_iff.2 (by omega)]
      exact (List.any_eq_true.2 ⟨y, List.mem_of_getElem? hy, hc⟩).symm
    · have e1 : iadd .i64 (i : Int) (1 : Int) = ((i + 1 : Nat) : Int) := iaddN (b := 1) (by omega)
      rw [e1]
      exact ⟨⟨rfl, i + 1, by omega, rfl, any_take hp hy hc⟩, by dsimp only; omega⟩
  · have hlt : (l.length : Int) ≤ (i : Int) := ilt_false.1 hlt
    rw [show i = l.length by omega, List.take_length] at hp
    dsimp only
    rw [show ile 0 (-1 : Int) = false from rfl]
    exact (List.any_eq_false.2 (by simpa using hp)).symm

theorem f_impl_filesOkVal (fs : List ByteArray) (hl : fs.length ≤ 1000000) : f_impl_filesOk (fs, ()) = some ((okF fs, ()), ()) := by
  unfold f_impl_filesOk
  dsimp only
  cases hc : ile (llen fs) (12 : Int) with
  | false =>
    have := ile_false.1 hc
    simp only [llen] at this
    rw [cond_false, okF, decide_eq_false (by omega)]; rfl
  | true =>
    have := ile_iff.1 hc
    simp only [llen] at this
    rw [cond_true, contains_string fs hl (fun z => (bnd (f_impl_filesOk_1 (z.1, ())) fun r => (some r.1))) (fun s => ilt (4000 : Int) (slen s)) fun z => rfl, bnd_some, okF, decide_eq_true (by omega), Bool.true_and]
    have : (!fs.any fun s => ilt (4000 : Int) (slen s)) = fs.all fun s => decide (s.size ≤ 4000) := by
      rw [List.not_any_eq_all_not]
      congr 1
      funext s
      by_cases h : s.size ≤ 4000
      · rw [decide_eq_true h, ilt_false.2 (by simp only [slen]; omega)]; rfl
      · rw [decide_eq_false h, ilt_iff.2 (by simp only [slen]; omega)]; rfl
    rw [this]

theorem f_spec_l13FilesVal (fs : List ByteArray) (hl : fs.length ≤ 1000000) : f_spec_l13Files (fs, ()) = some ((okF fs, ()), ()) := by
  refine toSome ?_
  unfold f_spec_l13Files
  dsimp only
  refine Does.loop (c := f_spec_l13Files_l2c) (v := f_spec_l13Files_l2v) (ex := f_spec_l13Files_l2e) (I := fun c v => c = ((fs, (fs, (llen fs, ()))), ()) ∧ ∃ i : Nat, i ≤ fs.length ∧ v = (((i : Int), ()), ()) ∧ ∀ x ∈ fs.take i, (!decide (x.size ≤ 4000)) = false) (μ := fun _ v => ((fs.length : Int) - v.1.1).toNat) (fun c v hI => ?_) ⟨rfl, 0, by omega, rfl, by simp⟩
  obtain ⟨rfl, i, hi, rfl, hp⟩ := hI
  simp only [round, f_spec_l13Files_l2]
  refine Does.cond (fun hlt => ?_) fun hlt => Does.val (Does.val ?_)
  · have hlt : (i : Int) < (fs.length : Int) := ilt_iff.1 hlt
    refine Does.getO (by omega) hlt fun y hy => ?_
    rw [Int.toNat_natCast] at hy
    refine Does.cond (fun hc => Does.val (Does.val ?_)) fun hc => Does.val ?_
    · have := ilt_iff.1 hc
      simp only [slen] at this
      have h2 : (fs.all fun s => decide (s.size ≤ 4000)) = false := List.all_eq_false.2 ⟨y, List.mem_of_getElem? hy, by simp; omega⟩
      rw [okF, h2, Bool.and_false]
    · have := ilt_false.1 hc
      simp only [slen] at this
      have e1 : iadd .i64 (i : Int) (1 : Int) = ((i + 1 : Nat) : Int) := iaddN (b := 1) (by omega)
      rw [e1]
      exact ⟨⟨rfl, i + 1, by omega, rfl, any_take (p := fun x : ByteArray => !decide (x.size ≤ 4000)) hp hy (by simp; omega)⟩, by dsimp only; omega⟩
  · have hlt : (fs.length : Int) ≤ (i : Int) := ilt_false.1 hlt
    rw [show i = fs.length by omega, List.take_length] at hp
    have h2 : (fs.all fun s => decide (s.size ≤ 4000)) = true := List.all_eq_true.2 (by simpa using hp)
    dsimp only
    rw [okF, h2, Bool.and_true]
    have : ile (llen fs) (12 : Int) = decide (fs.length ≤ 12) := by
      simp only [ile, llen]
      congr 1
      simp only [eq_iff_iff]
      omega
    rw [this]

def okC (fs : List ByteArray) : Bool := okF fs && decide ((cks 0 fs).length ≤ 200)
def chunksA (fs : List ByteArray) : List DChunk × Bool × Unit := bif okC fs then (cks 0 fs, (true, ())) else ([], (false, ()))
theorem f_impl_ChunksOfVal (fs : List ByteArray) (hl : fs.length ≤ 1000000) : f_impl_ChunksOf (fs, ()) = some (chunksA fs, ()) := by
  unfold f_impl_ChunksOf
  dsimp only
  rw [f_impl_filesOkVal fs hl, bnd_some]
  dsimp only
  unfold chunksA okC
  cases h : okF fs with
  | false => rfl
  | true =>
    rw [Bool.not_true, cond_false, f_impl_chunksVal fs h, bnd_some, Bool.true_and]
    dsimp only
    by_cases hc : (cks 0 fs).length ≤ 200
    · rw [ilt_false.2 (by simp only [llen]; omega), decide_eq_true hc]; rfl
    · rw [ilt_iff.2 (by simp only [llen]; omega), decide_eq_false hc]; rfl
theorem f_spec_ChunksOfVal (fs : List ByteArray) (hl : fs.length ≤ 1000000) : f_spec_ChunksOf (fs, ()) = some (chunksA fs, ()) := by
  unfold f_spec_ChunksOf
  dsimp only
  rw [f_spec_l13FilesVal fs hl, bnd_some]
  dsimp only
  unfold chunksA okC
  cases h : okF fs with
  | false => rfl
  | true =>
    rw [Bool.not_true, cond_false, f_spec_l13ChunksVal fs h, bnd_some, Bool.true_and]
    dsimp only
    by_cases hc : (cks 0 fs).length ≤ 200
    · rw [ilt_false.2 (by simp only [llen]; omega), decide_eq_true hc]; rfl
    · rw [ilt_iff.2 (by simp only [llen]; omega), decide_eq_false hc]; rfl

/-! ### what is wanted -/
def wantP (fs : List ByteArray) : List DWanted := fs.map fun s => (slen s, (sumOf s, ()))
theorem wantP_take (fs : List ByteArray) {i : Nat} {s : ByteArray} (h : fs[i]? = some s) : wantP (fs.take (i + 1)) = wantP (fs.take i) ++ [(slen s, (sumOf s, ()))] := by
  rw [List.take_add_one, h]; simp [wantP]
theorem f_impl_wantVal (fs : List ByteArray) (h : okF fs = true) : f_impl_want (fs, ()) = some ((wantP fs, ()), ()) := by
  refine toSome ?_
  have hl := okF_len h
  unfold f_impl_want
  dsimp only
  refine Does.loop (c := f_impl_want_l3c) (v := f_impl_want_l3v) (ex := f_impl_want_l3e) (I := fun c v => c = ((fs, (llen fs, ())), ()) ∧ ∃ i : Nat, i ≤ fs.length ∧ v = (((i : Int), ()), (wantP (fs.take i), ()))) (μ := fun _ v => ((fs.length : Int) - v.1.1).toNat) (fun c v hI => ?_) ⟨rfl, 0, by omega, rfl⟩
  obtain ⟨rfl, i, hi, rfl⟩ := hI
  simp only [round, f_impl_want_l3]
  refine Does.cond (fun hlt => ?_) fun hlt => Does.val (Does.val ?_)
  · have hlt : (i : Int) < (fs.length : Int) := ilt_iff.1 hlt
    refine Does.getO (by omega) hlt fun s hx => ?_
    rw [Int.toNat_natCast] at hx
    rw [f_impl_SumOfVal _ (by have := okF_size h (List.mem_of_getElem? hx); dsimp only; omega), bnd_some]
    have e1 : iadd .i64 (i : Int) (1 : Int) = ((i + 1 : Nat) : Int) := iaddN (b := 1) (by omega)
    refine Does.req (by simp [wantP]; omega) (Does.val ?_)
    rw [e1]
    exact ⟨⟨rfl, i + 1, by omega, by rw [wantP_take fs hx]⟩, by dsimp only; omega⟩
  · have hlt : (fs.length : Int) ≤ (i : Int) := ilt_false.1 hlt
    rw [show i = fs.length by omega, List.take_length]
theorem f_spec_WantOfVal (fs : List ByteArray) (h : okF fs = true) : f_spec_WantOf (fs, ()) = some ((wantP fs, (true, ())), ()) := by
  refine toSome ?_
  have hl := okF_len h
  unfold f_spec_WantOf
  dsimp only
  rw [f_spec_l13FilesVal fs (by omega), bnd_some, h]
  dsimp only
  rw [Bool.not_true, cond_false]
  refine Does.loop (c := f_spec_WantOf_l5c) (v := f_spec_WantOf_l5v) (ex := f_spec_WantOf_l5e) (I := fun c v => c = ((fs, (llen fs, ())), ()) ∧ ∃ i : Nat, i ≤ fs.length ∧ v = (((i : Int), ()), (wantP (fs.take i), ()))) (μ := fun _ v => ((fs.length : Int) - v.1.1).toNat) (fun c v hI => ?_) ⟨rfl, 0, by omega, rfl⟩
  obtain ⟨rfl, i, hi, rfl⟩ := hI
  simp only [round, f_spec_WantOf_l5]
  refine Does.cond (fun hlt => ?_) fun hlt => Does.val (Does.val ?_)
  · have hlt : (i : Int) < (fs.length : Int) := ilt_iff.1 hlt
    refine Does.getO (by omega) hlt fun s hx => ?_
    rw [Int.toNat_natCast] at hx
    rw [f_spec_l2SumVal _ (by have := okF_size h (List.mem_of_getElem? hx); dsimp only; omega), bnd_some]
    have e1 : iadd .i64 (i : Int) (1 : Int) = ((i + 1 : Nat) : Int) := iaddN (b := 1) (by omega)
    refine Does.req (by simp [wantP]; omega) (Does.val ?_)
    rw [e1]
    exact ⟨⟨rfl, i + 1, by omega, by rw [wantP_take fs hx]⟩, by dsimp only; omega⟩
  · have hlt : (fs.length : Int) ≤ (i : Int) := ilt_false.1 hlt
    rw [show i = fs.length by omega, List.take_length]

end Go.Proofs.Ytogmfilmfkepfaa
