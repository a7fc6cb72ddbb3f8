/- Where a key stands: slices.BinarySearchFunc. (Printed by a program of mine, wip/tools/bsearch.py.) -/
import Derived.Test.YtogmfilmfkepfaaUBs
import Derived.Test.YtogmfilmfkepfaaR6Fns
set_option linter.all false
noncomputable section
namespace Go.Proofs.Ytogmfilmfkepfaa
open Go Go.Proofs.Ytogmfilmfkepfaa.Ev

theorem bs_Chunk_i6 {R : Type} (l : List DChunk) (t : DChunk) (F : (DChunk × DChunk × Unit) → Option (Int × Unit)) (n m : Int) (b : Bool) (lo hi : Int) (kk : (((List DChunk) × ((DChunk × DChunk × Unit) → Option (Int × Unit)) × Int × Int × Bool × Unit) × (DChunk × Unit)) → ((Int × Int × Unit) × Unit) → Option R) :
    f_slices_BinarySearchFunc_Chunk_i6 R ((l, (F, (n, (m, (b, ()))))), (t, ())) ((lo, (hi, ())), ()) kk = kk ((l, (F, (n, (m, (b, ()))))), (t, ())) ((cond b (iadd .i64 m 1) lo, (cond b hi m, ())), ()) := by
  unfold f_slices_BinarySearchFunc_Chunk_i6
  cases b <;> rfl

theorem bs_Chunk_loop {R : Type} (l : List DChunk) (t : DChunk) (F : (DChunk × DChunk × Unit) → Option (Int × Unit)) (c : DChunk → DChunk → Int) (hF : ∀ z, F z = some (c z.1 z.2.1, ())) (n : Int) (hl : l.length ≤ 1000000) (kk : (Unit × Unit) → (((List DChunk) × ((DChunk × DChunk × Unit) → Option (Int × Unit)) × Int × Int × Unit) × (DChunk × Unit)) → Option R) :
    ∀ (f lo hi : Nat), hi < f + lo → lo ≤ hi → hi ≤ l.length → loopF (c := f_slices_BinarySearchFunc_Chunk_l3c) (v := f_slices_BinarySearchFunc_Chunk_l3v) (ex := f_slices_BinarySearchFunc_Chunk_l3e) f_slices_BinarySearchFunc_Chunk_l3 R ((), ()) ((l, (F, (n, ((lo : Int), ((hi : Int), ()))))), (t, ())) kk = kk ((), ()) ((l, (F, (n, (((bsGo (fun y => ilt (c y t) 0) l f lo hi : Nat) : Int), ())))), (t, ())) := by
  intro f
  induction f with
  | zero => intro lo hi h1 h2; omega
  | succ f ih =>
    intro lo hi h1 h2 h3
    by_cases h : lo < hi
    · have c1 : ilt (lo : Int) (hi : Int) = true := ilt_iff.2 (by omega)
      obtain ⟨y, hy⟩ : ∃ y, l[(lo + hi) / 2]? = some y := ⟨_, List.getElem?_eq_getElem (by omega)⟩
      have em := half_at (lo := lo) (hi := hi) (by omega)
      have ep : iadd .i64 (((lo + hi) / 2 : Nat) : Int) (1 : Int) = (((lo + hi) / 2 + 1 : Nat) : Int) := iaddN (b := 1) (by omega)
      rw [bsGo, if_pos h, hy]
      dsimp only
      cases hc : ilt (c y t) 0 with
      | true =>
        refine Eq.trans (loopF_more (c := f_slices_BinarySearchFunc_Chunk_l3c) (v := f_slices_BinarySearchFunc_Chunk_l3v) (ex := f_slices_BinarySearchFunc_Chunk_l3e) (stepK := f_slices_BinarySearchFunc_Chunk_l3) (c' := ((), ())) (v' := ((l, (F, (n, ((((lo + hi) / 2 + 1 : Nat) : Int), ((hi : Int), ()))))), (t, ()))) (by
          simp only [round, f_slices_BinarySearchFunc_Chunk_l3, c1, cond_true, em]
          rw [getO_at (by omega) (by rw [Int.toNat_natCast]; exact hy), hF, bnd_some, bs_Chunk_i6]
          dsimp only
          rw [hc, cond_true, cond_true, ep]) kk) ?_
        exact ih _ _ (by omega) (by omega) h3
      | false =>
        refine Eq.trans (loopF_more (c := f_slices_BinarySearchFunc_Chunk_l3c) (v := f_slices_BinarySearchFunc_Chunk_l3v) (ex := f_slices_BinarySearchFunc_Chunk_l3e) (stepK := f_slices_BinarySearchFunc_Chunk_l3) (c' := ((), ())) (v' := ((l, (F, (n, ((lo : Int), ((((lo + hi) / 2 : Nat) : Int), ()))))), (t, ()))) (by
          simp only [round, f_slices_BinarySearchFunc_Chunk_l3, c1, cond_true, em]
          rw [getO_at (by omega) (by rw [Int.toNat_natCast]; exact hy), hF, bnd_some, bs_Chunk_i6]
          dsimp only
          rw [hc, cond_false, cond_false]) kk) ?_
        exact ih _ _ (by omega) (by omega) (by omega)
    · have c1 : ilt (lo : Int) (hi : Int) = false := ilt_false.2 (by omega)
      refine Eq.trans (loopF_done (c := f_slices_BinarySearchFunc_Chunk_l3c) (v := f_slices_BinarySearchFunc_Chunk_l3v) (ex := f_slices_BinarySearchFunc_Chunk_l3e) (stepK := f_slices_BinarySearchFunc_Chunk_l3) (c' := ((), ())) (o := ((l, (F, (n, ((lo : Int), ())))), (t, ()))) (by simp only [round, f_slices_BinarySearchFunc_Chunk_l3, c1, cond_false]) kk) ?_
      rw [bsGo, if_neg h]

theorem bs_Chunk (l : List DChunk) (t : DChunk) (F : (DChunk × DChunk × Unit) → Option (Int × Unit)) (c : DChunk → DChunk → Int) (hF : ∀ z, F z = some (c z.1 z.2.1, ())) (hl : l.length ≤ 1000000)
    (hm : ∀ (i j : Nat) (x y : DChunk), i ≤ j → l[i]? = some x → l[j]? = some y → ilt (c y t) 0 = true → ilt (c x t) 0 = true) :
    f_slices_BinarySearchFunc_Chunk (l, (t, (F, ()))) = some ((((posBy (fun y => ilt (c y t) 0) l : Nat) : Int), (atB (fun y => ieq (c y t) 0) l (posBy (fun y => ilt (c y t) 0) l), ())), ()) := by
  unfold f_slices_BinarySearchFunc_Chunk
  dsimp only
  have h1 := fun (R : Type) n kk => bs_Chunk_loop (R := R) l t F c hF n hl kk (l.length + 1) 0 l.length (by omega) (by omega) (Nat.le_refl _)
  refine Eq.trans (h1 _ _ _) ?_
  rw [bsGo_pos hm _ _ _ (by omega) (by omega) (Nat.le_refl _) (fun i x hi => by omega) (fun i x hi hx => by have := (List.getElem?_eq_some_iff.1 hx).1; omega)]
  dsimp only
  generalize posBy (fun y => ilt (c y t) 0) l = k
  unfold atB
  by_cases h : k < l.length
  · have e := List.getElem?_eq_getElem h
    rw [show ilt (k : Int) (llen l) = true from ilt_iff.2 (by simp only [llen]; omega), cond_true, getO_at (by omega) (by rw [Int.toNat_natCast]; exact e), hF, bnd_some, e]
  · rw [show ilt (k : Int) (llen l) = false from ilt_false.2 (by simp only [llen]; omega), cond_false, List.getElem?_eq_none (by omega)]

end Go.Proofs.Ytogmfilmfkepfaa
