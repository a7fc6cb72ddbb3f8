/- Taking chunks: both sides do the same. -/
import Derived.Test.YtogmfilmfkepfaaQ6Chunk
import Derived.Test.YtogmfilmfkepfaaQ6Bs
set_option linter.all false
noncomputable section
namespace Go.Proofs.Ytogmfilmfkepfaa
open Go Go.Proofs.Ytogmfilmfkepfaa.Ev

/-! ### what stays of a list -/
section
variable {α : Type}
def sel : List α → List Bool → List α
  | x :: l, b :: m => bif b then x :: sel l m else sel l m
  | _, _ => []
theorem sel_app : ∀ (A B : List α) (SA SB : List Bool), SA.length = A.length → sel (A ++ B) (SA ++ SB) = sel A SA ++ sel B SB
  | [], B, [], SB, _ => by simp [sel]
  | [], B, _ :: _, SB, h => by simp at h
  | a :: A, B, [], SB, h => by simp at h
  | a :: A, B, b :: SA, SB, h => by
    have := sel_app A B SA SB (by simpa using h)
    simp only [List.cons_append, sel, this]
    cases b <;> rfl
theorem sel_mem : ∀ {l : List α} {m : List Bool} {x : α}, x ∈ sel l m → x ∈ l
  | [], m, x, h => by simp [sel] at h
  | a :: l, [], x, h => by simp [sel] at h
  | a :: l, b :: m, x, h => by
    simp only [sel] at h
    cases b with
    | false => exact List.mem_cons_of_mem _ (sel_mem h)
    | true =>
      rcases List.mem_cons.1 h with h | h
      · rw [h]; exact List.mem_cons_self
      · exact List.mem_cons_of_mem _ (sel_mem h)
theorem sel_length : ∀ (l : List α) (m : List Bool), (sel l m).length ≤ l.length
  | [], m => by simp [sel]
  | a :: l, [] => by simp [sel]
  | a :: l, b :: m => by
    have := sel_length l m
    simp only [sel]
    cases b <;> simp <;> omega
theorem sel_none : ∀ (l : List α) (n : Nat), sel l (List.replicate n false) = []
  | [], n => by simp [sel]
  | a :: l, 0 => by simp [sel]
  | a :: l, n + 1 => by simp only [List.replicate_succ, sel, cond_false, sel_none l n]
theorem sel_all : ∀ (l : List α) (m : List Bool), m.length = l.length → m.all id = true → sel l m = l
  | [], m, _, _ => by simp [sel]
  | a :: l, [], h, _ => by simp at h
  | a :: l, b :: m, h, h2 => by
    simp only [List.all_cons, Bool.and_eq_true, id] at h2
    rw [h2.1, sel, cond_true, sel_all l m (by simpa using h) h2.2]
theorem split_at' (l : List α) {n : Nat} {x : α} (h : l[n]? = some x) : ∃ A B, l = A ++ x :: B ∧ A.length = n := by
  obtain ⟨hn, rfl⟩ := List.getElem?_eq_some_iff.1 h
  exact ⟨l.take n, l.drop (n + 1), by rw [← List.drop_eq_getElem_cons hn, List.take_append_drop], by simp; omega⟩
end

/-! ### the order of chunks -/
def keyC (c : DChunk) : Int × Int := (c.1, c.2.1)
def ltP (p q : Int × Int) : Bool := ilt p.1 q.1 || (ieq p.1 q.1 && ilt p.2 q.2)
def cmpC (a b : DChunk) : Int := bif ieq (cmpI a.1 b.1) 0 then cmpI a.2.1 b.2.1 else cmpI a.1 b.1
theorem ltP_iff {p q : Int × Int} : ltP p q = true ↔ p.1 < q.1 ∨ (p.1 = q.1 ∧ p.2 < q.2) := by
  simp only [ltP, Bool.or_eq_true, Bool.and_eq_true, ilt_iff, ieq_iff]
theorem ltP_false {p q : Int × Int} : ltP p q = false ↔ ¬ (p.1 < q.1 ∨ (p.1 = q.1 ∧ p.2 < q.2)) := by
  rw [← ltP_iff]; cases ltP p q <;> simp
theorem strictP : StrictB ltP where
  irr := fun a => ltP_false.2 (by omega)
  tr := fun a b c h1 h2 => ltP_iff.2 (by have := ltP_iff.1 h1; have := ltP_iff.1 h2; omega)
  tri := fun a b => by
    by_cases h1 : a.1 < b.1
    · exact .inr (.inl (ltP_iff.2 (.inl h1)))
    · by_cases h2 : b.1 < a.1
      · exact .inr (.inr (ltP_iff.2 (.inl h2)))
      · by_cases h3 : a.2 < b.2
        · exact .inr (.inl (ltP_iff.2 (.inr ⟨by omega, h3⟩)))
        · by_cases h4 : b.2 < a.2
          · exact .inr (.inr (ltP_iff.2 (.inr ⟨by omega, h4⟩)))
          · exact .inl (Prod.ext (by omega) (by omega))
theorem cmpC_lt (a b : DChunk) : ilt (cmpC a b) 0 = ltP (keyC a) (keyC b) := by
  unfold cmpC ltP keyC
  dsimp only
  rw [cmpI_eq]
  cases e : ieq a.1 b.1 with
  | true => have := ieq_iff.1 e; rw [cond_true, cmpI_lt, this, strictI.irr, Bool.false_or, Bool.true_and]
  | false => rw [cond_false, cmpI_lt, Bool.false_and, Bool.or_false]
theorem cmpC_eq (a b : DChunk) : ieq (cmpC a b) 0 = (ieq a.1 b.1 && ieq a.2.1 b.2.1) := by
  unfold cmpC
  cases e : ieq (cmpI a.1 b.1) 0 with
  | true => rw [cond_true, cmpI_eq, ← cmpI_eq a.1 b.1, e, Bool.true_and]
  | false => rw [cond_false, e, ← cmpI_eq a.1 b.1, e, Bool.false_and]

theorem compareI (a b : Int) : f_cmp_Compare_int (a, (b, ())) = some ((cmpI a b, ()), ()) := by
  unfold f_cmp_Compare_int f_cmp_isNaN_int
  simp only [bnd_some, ieq_iff.2 rfl, Bool.not_true, cond_false, cmpI]
  cases ilt a b <;> cases ilt b a <;> rfl
theorem orI (x y : Int) : f_cmp_Or_int ([x, y], ()) = some ((bif ieq x 0 then y else x, ()), ()) := by
  refine toSome ?_
  unfold f_cmp_Or_int
  dsimp only
  refine Does.loop (c := f_cmp_Or_int_l3c) (v := f_cmp_Or_int_l3v) (ex := f_cmp_Or_int_l3e) (I := fun c v => c = (((0 : Int), ([x, y], (llen [x, y], ()))), ()) ∧ ∃ i : Nat, i ≤ 2 ∧ v = (((i : Int), ()), ()) ∧ (1 ≤ i → x = 0) ∧ (2 ≤ i → y = 0)) (μ := fun _ v => ((2 : Int) - v.1.1).toNat) (fun c v hI => ?_) ⟨rfl, 0, by omega, rfl, by omega, by omega⟩
  obtain ⟨rfl, i, hi, rfl, g1, g2⟩ := hI
  simp only [round, f_cmp_Or_int_l3]
  have e1 : iadd .i64 (i : Int) (1 : Int) = ((i + 1 : Nat) : Int) := iaddN (b := 1) (by omega)
  refine Does.cond (fun hlt => ?_) fun hlt => Does.val (Does.val ?_)
  · have hlt : (i : Int) < (2 : Int) := ilt_iff.1 hlt
    refine Does.getO (by omega) (by simpa using hlt) fun z hz => ?_
    rw [Int.toNat_natCast] at hz
    rcases (show i = 0 ∨ i = 1 by omega) with rfl | rfl
    · simp at hz
      subst hz
      refine Does.cond (fun hc => Does.val (Does.val ?_)) fun hc => Does.val ?_
      · have : ieq x 0 = false := by simpa using hc
        rw [this]; rfl
      · rw [e1]
        exact ⟨⟨rfl, 1, by omega, rfl, fun _ => ieq_iff.1 (by simpa using hc), by omega⟩, by dsimp only; omega⟩
    · simp at hz
      subst hz
      refine Does.cond (fun hc => Does.val (Does.val ?_)) fun hc => Does.val ?_
      · rw [g1 (by omega), ieq_iff.2 rfl]; rfl
      · rw [e1]
        exact ⟨⟨rfl, 2, by omega, rfl, fun _ => g1 (by omega), fun _ => ieq_iff.1 (by simpa using hc)⟩, by dsimp only; omega⟩
  · have hlt : (2 : Int) ≤ (i : Int) := ilt_false.1 hlt
    rw [g1 (by omega), g2 (by omega)]; rfl
theorem f_impl_chunkOrderVal (a b : DChunk) : f_impl_chunkOrder (a, (b, ())) = some ((cmpC a b, ()), ()) := by
  unfold f_impl_chunkOrder
  simp only [compareI, bnd_some, orI]
  rfl
theorem f_spec_l13LessVal (a b : DChunk) : f_spec_l13Less (a, (b, ())) = some ((ltP (keyC a) (keyC b), ()), ()) := by
  unfold f_spec_l13Less ltP keyC
  dsimp only
  cases ilt a.1 b.1 <;> cases ieq a.1 b.1 <;> rfl

theorem cks_mem : ∀ {l : List ByteArray} {f : Nat} {y : DChunk}, y ∈ cks f l → ∃ i s j, l[i]? = some s ∧ j < nck s ∧ y = ck (f + i) s j
  | [], f, y, h => by simp [cks] at h
  | s :: l, f, y, h => by
    rcases List.mem_append.1 h with h | h
    · obtain ⟨j, hj, rfl⟩ := List.mem_map.1 h
      exact ⟨0, s, j, rfl, List.mem_range.1 hj, rfl⟩
    · obtain ⟨i, s', j, h1, h2, rfl⟩ := cks_mem h
      exact ⟨i + 1, s', j, by simpa using h1, h2, by rw [show f + 1 + i = f + (i + 1) by omega]⟩
theorem cks_sorted : ∀ (l : List ByteArray) (f : Nat), SortedB keyC ltP (cks f l)
  | [], f => List.Pairwise.nil
  | s :: l, f => by
    refine List.pairwise_append.2 ⟨?_, cks_sorted l (f + 1), fun a ha b hb => ?_⟩
    · unfold fck
      refine List.pairwise_map.2 (List.Pairwise.imp (fun {a b} h => ?_) List.pairwise_lt_range)
      exact ltP_iff.2 (.inr ⟨rfl, by simp only [keyC, ck]; omega⟩)
    · obtain ⟨j, hj, rfl⟩ := List.mem_map.1 ha
      obtain ⟨i, s', j', h1, h2, rfl⟩ := cks_mem hb
      exact ltP_iff.2 (.inl (by simp only [keyC, ck]; omega))

/-! ### the chunks that are there -/
theorem inVal (x a b : Int) : f_impl_in (x, (a, (b, ()))) = some ((ile a x && ile x b, ()), ()) := by
  unfold f_impl_in; dsimp only; cases ile a x <;> rfl
theorem inSVal (x a b : Int) : f_spec_l1In (x, (a, (b, ()))) = some ((ile a x && ile x b, ()), ()) := by
  unfold f_spec_l1In; dsimp only; cases ile a x <;> rfl
theorem wantP_get {fs : List ByteArray} {i : Nat} {s : ByteArray} (h : fs[i]? = some s) : (wantP fs)[i]? = some (slen s, (sumOf s, ())) := by simp [wantP, h]
theorem wantP_len (fs : List ByteArray) : (wantP fs).length = fs.length := by simp [wantP]

section
variable {fs : List ByteArray} (hok : okF fs = true) {i : Nat} {s : ByteArray} {j : Nat} (hs : fs[i]? = some s) (hj : j < nck s) (got : List DChunk) (d : ByteArray) (hd : d.size = (ckD s j).size) (sum : Int)
include hok hs hj hd
theorem f_impl_Taking_chunkOkVal : f_impl_Taking_chunkOk ((wantP fs, (got, ())), (((i : Int), (((64 * j : Nat) : Int), (d, (sum, ())))), ())) = some ((ieq sum (ckSum i (64 * j) d), ()), ((wantP fs, (got, ())), ())) := by
  have hl := okF_len hok
  have hi := (List.getElem?_eq_some_iff.1 hs).1
  have hz := okF_size hok (List.mem_of_getElem? hs)
  have hj' := nck_lt.1 hj
  rw [ckD_size s j hj] at hd
  have e1 : isub .i64 (llen (wantP fs)) (1 : Int) = ((fs.length - 1 : Nat) : Int) := by simp only [llen, wantP_len]; rw [isub_i64 (by omega)]; omega
  have e2 : isub .i64 (slen s) (1 : Int) = ((s.size - 1 : Nat) : Int) := by simp only [slen]; rw [isub_i64 (by omega)]; omega
  have e3 : isub .i64 (slen s) ((64 * j : Nat) : Int) = ((s.size - 64 * j : Nat) : Int) := by simp only [slen]; rw [isub_i64 (by omega)]; omega
  have e4 : imin (64 : Int) ((s.size - 64 * j : Nat) : Int) = ((min 64 (s.size - 64 * j) : Nat) : Int) := by unfold imin; split <;> omega
  have e5 : irem .i64 ((64 * j : Nat) : Int) (64 : Int) = 0 := by
    show Int.tmod _ _ = 0
    rw [Int.tmod_eq_emod_of_nonneg (by omega)]; omega
  unfold f_impl_Taking_chunkOk
  dsimp only
  rw [e1, inVal, bnd_some]
  dsimp only
  rw [ile_iff.2 (by omega), ile_iff.2 (by omega), Bool.true_and, Bool.not_true, cond_false, getO_at (by omega) (by rw [Int.toNat_natCast]; exact wantP_get hs), Int.toNat_natCast, wantP_get hs, bnd_some, bnd_some]
  dsimp only
  rw [e2, inVal, bnd_some]
  dsimp only
  rw [ile_iff.2 (by omega), ile_iff.2 (by omega), Bool.true_and, Bool.not_true, cond_false, e5, ieq_iff.2 rfl, Bool.not_true, cond_false, e3, e4, ieq_iff.2 (by simp only [slen]; omega), Bool.not_true, cond_false, f_impl_ChunkSumVal i (64 * j) d (by omega) (by omega) (by omega), bnd_some]
theorem f_impl_Taking_chunkOk_wVal : f_impl_Taking_chunkOk_w ((wantP fs, (got, ())), (((i : Int), (((64 * j : Nat) : Int), (d, (sum, ())))), ())) = some ((ieq sum (ckSum i (64 * j) d), ()), ((wantP fs, (got, ())), ())) := by
  have hl := okF_len hok
  have hi := (List.getElem?_eq_some_iff.1 hs).1
  have hz := okF_size hok (List.mem_of_getElem? hs)
  have hj' := nck_lt.1 hj
  rw [ckD_size s j hj] at hd
  have e1 : isub .i64 (llen (wantP fs)) (1 : Int) = ((fs.length - 1 : Nat) : Int) := by simp only [llen, wantP_len]; rw [isub_i64 (by omega)]; omega
  have e2 : isub .i64 (slen s) (1 : Int) = ((s.size - 1 : Nat) : Int) := by simp only [slen]; rw [isub_i64 (by omega)]; omega
  have e3 : isub .i64 (slen s) ((64 * j : Nat) : Int) = ((s.size - 64 * j : Nat) : Int) := by simp only [slen]; rw [isub_i64 (by omega)]; omega
  have e4 : imin (64 : Int) ((s.size - 64 * j : Nat) : Int) = ((min 64 (s.size - 64 * j) : Nat) : Int) := by unfold imin; split <;> omega
  have e5 : irem .i64 ((64 * j : Nat) : Int) (64 : Int) = 0 := by
    show Int.tmod _ _ = 0
    rw [Int.tmod_eq_emod_of_nonneg (by omega)]; omega
  unfold f_impl_Taking_chunkOk_w
  dsimp only
  rw [e1, inVal, bnd_some]
  dsimp only
  rw [ile_iff.2 (by omega), ile_iff.2 (by omega), Bool.true_and, Bool.not_true, cond_false, getO_at (by omega) (by rw [Int.toNat_natCast]; exact wantP_get hs)]
  dsimp only
  rw [e2, inVal, bnd_some]
  dsimp only
  rw [ile_iff.2 (by omega), ile_iff.2 (by omega), Bool.true_and, Bool.not_true, cond_false, e5, ieq_iff.2 rfl, Bool.not_true, cond_false, e3, e4, ieq_iff.2 (by simp only [slen]; omega), Bool.not_true, cond_false, f_impl_ChunkSumVal i (64 * j) d (by omega) (by omega) (by omega), bnd_some]
theorem f_spec_l13GoodVal : f_spec_l13Good ((wantP fs, (got, ())), (((i : Int), (((64 * j : Nat) : Int), (d, (sum, ())))), ())) = some ((ieq sum (ckSum i (64 * j) d), ()), ()) := by
  have hl := okF_len hok
  have hi := (List.getElem?_eq_some_iff.1 hs).1
  have hz := okF_size hok (List.mem_of_getElem? hs)
  have hj' := nck_lt.1 hj
  rw [ckD_size s j hj] at hd
  have e1 : isub .i64 (llen (wantP fs)) (1 : Int) = ((fs.length - 1 : Nat) : Int) := by simp only [llen, wantP_len]; rw [isub_i64 (by omega)]; omega
  have e5 : irem .i64 ((64 * j : Nat) : Int) (64 : Int) = 0 := by
    show Int.tmod _ _ = 0
    rw [Int.tmod_eq_emod_of_nonneg (by omega)]; omega
  unfold f_spec_l13Good
  dsimp only
  rw [e1, inSVal, bnd_some]
  dsimp only
  rw [ile_iff.2 (by omega), ile_iff.2 (by omega), Bool.true_and, Bool.not_true, cond_false, ilt0, cond_false, e5, ieq_iff.2 rfl, Bool.not_true, cond_false, getO_at (by omega) (by rw [Int.toNat_natCast]; exact wantP_get hs)]
  dsimp only
  rw [ile_false.2 (by simp only [slen]; omega), cond_false, getO_at (by omega) (by rw [Int.toNat_natCast]; exact wantP_get hs)]
  dsimp only
  rw [show f_spec_l13Size (slen s, (((64 * j : Nat) : Int), ())) = some ((((min 64 (s.size - 64 * j) : Nat) : Int), ()), ()) from f_spec_l13SizeVal s.size (64 * j) (by omega) (by omega), bnd_some]
  dsimp only
  rw [ieq_iff.2 (by simp only [slen]; omega), cond_true, f_spec_l13SumVal i (64 * j) d (by omega) (by omega) (by omega), bnd_some]
end

theorem f_slices_InsertVal {k : K} (l : List (T k)) (n : Nat) (x : T k) (hn : n ≤ l.length) (hl : l.length ≤ 1000000) : f_slices_Insert k (l, ((n : Int), ([x], ()))) = some ((l.take n ++ x :: l.drop n, ()), ()) := by
  unfold f_slices_Insert
  dsimp only
  rw [show (decide ((0 : Int) ≤ (n : Int)) && (decide ((n : Int) ≤ (l.length : Int)) && (decide (1 ≤ [x].length) && decide (l.length + [x].length ≤ 17179869184)))) = true by simp; omega, req_true, Int.toNat_natCast]
  rfl

/-- where a chunk stands among those that are there -/
structure Mid (fs : List ByteArray) (A : List DChunk) (c : DChunk) (B : List DChunk) (SA SB : List Bool) : Prop where
  all : cks 0 fs = A ++ c :: B
  la : SA.length = A.length
  lb : SB.length = B.length
def got1 (A : List DChunk) (c : DChunk) (B : List DChunk) (SA : List Bool) (b : Bool) (SB : List Bool) : List DChunk := sel A SA ++ (bif b then c :: sel B SB else sel B SB)
theorem sel_mid {fs A c B SA SB} (h : Mid fs A c B SA SB) (b : Bool) : sel (cks 0 fs) (SA ++ b :: SB) = got1 A c B SA b SB := by
  rw [h.all, sel_app _ _ _ _ h.la]
  rfl
theorem Mid.before {fs A c B SA SB} (h : Mid fs A c B SA SB) {x : DChunk} (hx : x ∈ sel A SA) : ltP (keyC x) (keyC c) = true := by
  have := cks_sorted fs 0
  rw [h.all] at this
  exact (List.pairwise_append.1 this).2.2 x (sel_mem hx) c List.mem_cons_self
theorem Mid.behind {fs A c B SA SB} (h : Mid fs A c B SA SB) {x : DChunk} (hx : x ∈ sel B SB) : ltP (keyC c) (keyC x) = true := by
  have := cks_sorted fs 0
  rw [h.all] at this
  exact (List.pairwise_cons.1 (List.pairwise_append.1 this).2.1).1 x (sel_mem hx)
theorem Mid.mono {fs A c B SA SB} (h : Mid fs A c B SA SB) (b : Bool) (t : DChunk) (i j : Nat) (x y : DChunk) (hij : i ≤ j) (hx : (got1 A c B SA b SB)[i]? = some x) (hy : (got1 A c B SA b SB)[j]? = some y) (hl : ltP (keyC y) (keyC t) = true) : ltP (keyC x) (keyC t) = true := by
  refine sorted_mono (key := keyC) strictP ?_ (keyC t) i j x y hij hx hy hl
  unfold got1
  have hs := cks_sorted fs 0
  rw [h.all] at hs
  have hsub : ∀ (l : List DChunk) (m : List Bool), (sel l m).Sublist l := by
    intro l
    induction l with
    | nil => intro m; simp [sel]
    | cons a l ih =>
      intro m
      cases m with
      | nil => simp [sel]
      | cons b m =>
        simp only [sel]
        cases b with
        | false => exact (ih m).cons _
        | true => exact (ih m).cons₂ _
  refine List.Pairwise.sublist ?_ hs
  refine List.Sublist.append (hsub A SA) ?_
  cases b with
  | false => exact (hsub B SB).cons _
  | true => exact (hsub B SB).cons₂ _
theorem not_both {p q : Int × Int} (h : ltP p q = true) : ltP q p = false := ltP_false.2 (by have := ltP_iff.1 h; omega)
theorem Mid.pos {fs A c B SA SB} (h : Mid fs A c B SA SB) (b : Bool) : posBy (fun y => ltP (keyC y) (keyC c)) (got1 A c B SA b SB) = (sel A SA).length := by
  refine (posBy_uniq ?_ (fun i x hi hx => ?_) fun x hx => ?_).symm
  · unfold got1; simp
  · unfold got1 at hx
    rw [List.getElem?_append_left hi] at hx
    exact h.before (List.mem_of_getElem? hx)
  · unfold got1 at hx
    rw [List.getElem?_append_right (Nat.le_refl _), Nat.sub_self] at hx
    cases b with
    | false => exact not_both (h.behind (List.mem_of_getElem? hx))
    | true => simp at hx; rw [← hx]; exact strictP.irr _
theorem got1_at {A c B SA b SB} : (got1 A c B SA b SB)[(sel A SA).length]? = bif b then some c else (sel B SB)[0]? := by
  unfold got1
  rw [List.getElem?_append_right (Nat.le_refl _), Nat.sub_self]
  cases b <;> simp
theorem Mid.atB {fs A c B SA SB} (h : Mid fs A c B SA SB) (b : Bool) : Go.Proofs.Ytogmfilmfkepfaa.atB (fun y => ieq (cmpC y c) 0) (got1 A c B SA b SB) (sel A SA).length = b := by
  unfold Go.Proofs.Ytogmfilmfkepfaa.atB
  rw [got1_at]
  cases b with
  | true => simp only [cond_true]; rw [cmpC_eq, ieq_iff.2 rfl, ieq_iff.2 rfl]; rfl
  | false =>
    simp only [cond_false]
    cases e : (sel B SB)[0]? with
    | none => rfl
    | some y =>
      have := ltP_iff.1 (h.behind (List.mem_of_getElem? e))
      simp only [keyC] at this
      dsimp only
      rw [cmpC_eq]
      cases e1 : ieq y.1 c.1 with
      | false => rfl
      | true =>
        cases e2 : ieq y.2.1 c.2.1 with
        | false => rfl
        | true => have := ieq_iff.1 e1; have := ieq_iff.1 e2; omega
theorem got1_len {fs A c B SA SB} (h : Mid fs A c B SA SB) (b : Bool) : (got1 A c B SA b SB).length ≤ (cks 0 fs).length := by
  rw [← sel_mid h]; exact sel_length _ _
theorem got1_lt {fs A c B SA SB} (h : Mid fs A c B SA SB) : (got1 A c B SA false SB).length < (cks 0 fs).length := by
  have h1 := sel_length A SA
  have h2 := sel_length B SB
  rw [h.all]
  simp [got1]; omega
theorem got1_ins (A c B SA SB) : (got1 A c B SA false SB).take (sel A SA).length ++ c :: (got1 A c B SA false SB).drop (sel A SA).length = got1 A c B SA true SB := by
  simp [got1]

theorem bsC {fs A c B SA SB} (h : Mid fs A c B SA SB) (b : Bool) (hk : (cks 0 fs).length ≤ 1000000) :
    f_slices_BinarySearchFunc_Chunk (got1 A c B SA b SB, (c, ((fun z => (bnd (f_impl_chunkOrder (z.1, (z.2.1, ()))) fun r => (some r.1))), ()))) = some (((((sel A SA).length : Nat) : Int), (b, ())), ()) := by
  have hl := got1_len h b
  have hF : ∀ z : DChunk × DChunk × Unit, (bnd (f_impl_chunkOrder (z.1, (z.2.1, ()))) fun r => (some r.1)) = some (cmpC z.1 z.2.1, ()) := fun z => by rw [f_impl_chunkOrderVal]; rfl
  have := bs_Chunk (got1 A c B SA b SB) c (fun z => (bnd (f_impl_chunkOrder (z.1, (z.2.1, ()))) fun r => (some r.1))) cmpC hF (by omega) (fun i j x y hij hx hy hl => by
    rw [cmpC_lt] at hl ⊢; exact h.mono b c i j x y hij hx hy hl)
  rw [this]
  have e : (fun y => ilt (cmpC y c) 0) = fun y => ltP (keyC y) (keyC c) := funext fun y => cmpC_lt y c
  rw [e, h.pos b, h.atB b]

/-- a chunk as it was is taken -/
theorem f_impl_take_good {fs A c B SA SB} (h : Mid fs A c B SA SB) (b : Bool) (hok : okF fs = true) (hk : (cks 0 fs).length ≤ 200) :
    f_impl_Taking_take ((wantP fs, (got1 A c B SA b SB, ())), (c, ())) = some ((true, ()), ((wantP fs, (got1 A c B SA true SB, ())), ())) := by
  obtain ⟨i, s, j, hs, hj, hc⟩ := cks_mem (l := fs) (f := 0) (y := c) (by rw [h.all]; simp)
  rw [Nat.zero_add] at hc
  have hck := f_impl_Taking_chunkOkVal hok hs hj (got1 A c B SA b SB) (ckD s j) rfl (ckSum i (64 * j) (ckD s j))
  rw [ieq_iff.2 rfl] at hck
  rw [show (((i : Int), (((64 * j : Nat) : Int), (ckD s j, (ckSum i (64 * j) (ckD s j), ())))) : DChunk) = c from hc.symm] at hck
  unfold f_impl_Taking_take
  dsimp only
  rw [hck, bnd_some]
  dsimp only
  rw [Bool.not_true, cond_false, bsC h b (by omega), bnd_some]
  dsimp only
  cases b with
  | true =>
    have hat := got1_at (A := A) (c := c) (B := B) (SA := SA) (b := true) (SB := SB)
    rw [cond_true] at hat
    rw [cond_true, getO_at (by omega) (by rw [Int.toNat_natCast]; exact hat), Int.toNat_natCast, hat, bnd_some, bnd_some, (seq_iff _ _).2 rfl]
  | false =>
    have hl := got1_lt h
    rw [cond_false]
    rw [show ieq (llen (got1 A c B SA false SB)) (200 : Int) = false by
      cases e : ieq (llen (got1 A c B SA false SB)) (200 : Int) with
      | false => rfl
      | true => have := ieq_iff.1 e; simp only [llen] at this; omega]
    rw [cond_false]
    have hins := f_slices_InsertVal (k := kdChunk) (got1 A c B SA false SB) (sel A SA).length c (by simp [got1]) (by omega)
    refine Eq.trans (congrArg (fun o => bnd o _) hins) ?_
    rw [bnd_some]
    dsimp only
    rw [show List.take (sel A SA).length (got1 A c B SA false SB) ++ c :: List.drop (sel A SA).length (got1 A c B SA false SB) = got1 A c B SA true SB from got1_ins A c B SA SB]

theorem f_impl_take_bad {fs : List ByteArray} {c : DChunk} (hc : c ∈ cks 0 fs) (got : List DChunk) (hok : okF fs = true) (d : ByteArray) (hd : d.size = c.2.2.1.size) (hb : ∀ i s j, c = ck i s j → ckSum i (64 * j) (ckD s j) ≠ ckSum i (64 * j) d) :
    f_impl_Taking_take ((wantP fs, (got, ())), ((c.1, (c.2.1, (d, c.2.2.2))), ())) = some ((false, ()), ((wantP fs, (got, ())), ())) := by
  obtain ⟨i, s, j, hs, hj, hc⟩ := cks_mem hc
  rw [Nat.zero_add] at hc
  have hb2 := hb i s j hc
  subst hc
  have hck := f_impl_Taking_chunkOkVal hok hs hj got d hd (ckSum i (64 * j) (ckD s j))
  rw [show ieq (ckSum i (64 * j) (ckD s j)) (ckSum i (64 * j) d) = false by
    cases e : ieq (ckSum i (64 * j) (ckD s j)) (ckSum i (64 * j) d) with
    | false => rfl
    | true => exact absurd (ieq_iff.1 e) hb2] at hck
  unfold f_impl_Taking_take
  dsimp only
  refine Eq.trans (congrArg (fun o => bnd o _) hck) ?_
  rfl

theorem eqC_self (c : DChunk) : eqK kdChunk c c = true := by
  simp [eqK]

theorem f_spec_take_good {fs A c B SA SB} (h : Mid fs A c B SA SB) (b : Bool) (hok : okF fs = true) (hk : (cks 0 fs).length ≤ 200) :
    f_spec_l13Take ((wantP fs, (got1 A c B SA b SB, ())), (c, ())) = some (((wantP fs, (got1 A c B SA true SB, ())), (true, ())), ()) := by
  obtain ⟨i, s, j, hs, hj, hc⟩ := cks_mem (l := fs) (f := 0) (y := c) (by rw [h.all]; simp)
  rw [Nat.zero_add] at hc
  have hck := f_spec_l13GoodVal hok hs hj (got1 A c B SA b SB) (ckD s j) rfl (ckSum i (64 * j) (ckD s j))
  rw [ieq_iff.2 rfl] at hck
  rw [show (((i : Int), (((64 * j : Nat) : Int), (ckD s j, (ckSum i (64 * j) (ckD s j), ())))) : DChunk) = c from hc.symm] at hck
  have hln := got1_len h b
  refine toSome ?_
  unfold f_spec_l13Take
  dsimp only
  rw [hck, bnd_some]
  dsimp only
  rw [Bool.not_true, cond_false]
  refine Does.loop (c := f_spec_l13Take_l4c) (v := f_spec_l13Take_l4v) (ex := f_spec_l13Take_l4e) (I := fun cc v => cc = ((), ((wantP fs, (got1 A c B SA b SB, ())), (c, ((([] : List DWanted), (([] : List DChunk), ())), ())))) ∧ ∃ i : Nat, i ≤ (got1 A c B SA b SB).length ∧ v = (((i : Int), ()), ()) ∧ ∀ k x, k < i → (got1 A c B SA b SB)[k]? = some x → ltP (keyC x) (keyC c) = true) (μ := fun _ v => (((got1 A c B SA b SB).length : Int) - v.1.1).toNat) (fun cc v hI => ?_) ⟨rfl, 0, by omega, rfl, fun k x hk => by omega⟩
  obtain ⟨rfl, i, hi, rfl, hp⟩ := hI
  simp only [round, f_spec_l13Take_l4]
  have fin : ∀ (_ : ∀ x, (got1 A c B SA b SB)[i]? = some x → ltP (keyC x) (keyC c) = false) {P : Option ((DTaking × Bool × Unit) × Unit)}, P = (
      (cond (ilt (i : Int) (llen (got1 A c B SA b SB)))
 (getO (got1 A c B SA b SB) (i : Int) fun v6 => (bnd (f_spec_l13Less (c, (v6, ()))) fun r7 => (cond (!r7.1.1)
 (getO (got1 A c B SA b SB) (i : Int) fun v8 => (some (((wantP fs, (got1 A c B SA b SB, ())), ((eqK kdChunk v8 c), ())), ())))
 (cond (ieq (llen (got1 A c B SA b SB)) (200 : Int))
 (some (((wantP fs, (got1 A c B SA b SB, ())), (false, ())), ()))
 (req (decide ((0 : Int) ≤ (i : Int)) && decide ((i : Int) ≤ ((List.length (got1 A c B SA b SB)) : Int))) (req (decide (List.length ([] : List DChunk) + List.length (List.take ((Int.toNat (i : Int)) - (0 : Nat)) (List.drop (0 : Nat) (got1 A c B SA b SB))) ≤ 17179869184)) (req (decide (List.length (([] : List DChunk) ++ (List.take ((Int.toNat (i : Int)) - (0 : Nat)) (List.drop (0 : Nat) (got1 A c B SA b SB)))) + List.length [c] ≤ 17179869184)) (req (decide ((0 : Int) ≤ (i : Int)) && decide ((i : Int) ≤ ((List.length (got1 A c B SA b SB)) : Int))) (req (decide (List.length ((([] : List DChunk) ++ (List.take ((Int.toNat (i : Int)) - (0 : Nat)) (List.drop (0 : Nat) (got1 A c B SA b SB)))) ++ [c]) + List.length (List.take ((List.length (got1 A c B SA b SB)) - (Int.toNat (i : Int))) (List.drop (Int.toNat (i : Int)) (got1 A c B SA b SB))) ≤ 17179869184)) (some (((wantP fs, ((((([] : List DChunk) ++ (List.take ((Int.toNat (i : Int)) - (0 : Nat)) (List.drop (0 : Nat) (got1 A c B SA b SB)))) ++ [c]) ++ (List.take ((List.length (got1 A c B SA b SB)) - (Int.toNat (i : Int))) (List.drop (Int.toNat (i : Int)) (got1 A c B SA b SB)))), ())), (true, ())), ())))))))))))
 (cond (ieq (llen (got1 A c B SA b SB)) (200 : Int))
 (some (((wantP fs, (got1 A c B SA b SB, ())), (false, ())), ()))
 (req (decide ((0 : Int) ≤ (i : Int)) && decide ((i : Int) ≤ ((List.length (got1 A c B SA b SB)) : Int))) (req (decide (List.length ([] : List DChunk) + List.length (List.take ((Int.toNat (i : Int)) - (0 : Nat)) (List.drop (0 : Nat) (got1 A c B SA b SB))) ≤ 17179869184)) (req (decide (List.length (([] : List DChunk) ++ (List.take ((Int.toNat (i : Int)) - (0 : Nat)) (List.drop (0 : Nat) (got1 A c B SA b SB)))) + List.length [c] ≤ 17179869184)) (req (decide ((0 : Int) ≤ (i : Int)) && decide ((i : Int) ≤ ((List.length (got1 A c B SA b SB)) : Int))) (req (decide (List.length ((([] : List DChunk) ++ (List.take ((Int.toNat (i : Int)) - (0 : Nat)) (List.drop (0 : Nat) (got1 A c B SA b SB)))) ++ [c]) + List.length (List.take ((List.length (got1 A c B SA b SB)) - (Int.toNat (i : Int))) (List.drop (Int.toNat (i : Int)) (got1 A c B SA b SB))) ≤ 17179869184)) (some (((wantP fs, ((((([] : List DChunk) ++ (List.take ((Int.toNat (i : Int)) - (0 : Nat)) (List.drop (0 : Nat) (got1 A c B SA b SB)))) ++ [c]) ++ (List.take ((List.length (got1 A c B SA b SB)) - (Int.toNat (i : Int))) (List.drop (Int.toNat (i : Int)) (got1 A c B SA b SB)))), ())), (true, ())), ()))))))))))
      → P = some (((wantP fs, (got1 A c B SA true SB, ())), (true, ())), ()) := by
    intro hx P hP
    rw [hP]
    have hpos : i = (sel A SA).length := (posBy_uniq hi hp hx).trans (h.pos b)
    have hat := got1_at (A := A) (c := c) (B := B) (SA := SA) (b := b) (SB := SB)
    rw [← hpos] at hat
    cases b with
    | true =>
      rw [cond_true] at hat
      rw [ilt_iff.2 (by simp only [llen]; have := (List.getElem?_eq_some_iff.1 hat).1; omega), cond_true, getO_at (by omega) (by rw [Int.toNat_natCast]; exact hat), f_spec_l13LessVal, bnd_some]
      dsimp only
      rw [strictP.irr, Bool.not_false, cond_true, getO_at (by omega) (by rw [Int.toNat_natCast]; exact hat), eqC_self]
    | false =>
      have hl := got1_lt h
      have h2 : ieq (llen (got1 A c B SA false SB)) (200 : Int) = false := by
        cases e : ieq (llen (got1 A c B SA false SB)) (200 : Int) with
        | false => rfl
        | true => have := ieq_iff.1 e; simp only [llen] at this; omega
      have hins : (([] : List DChunk) ++ (List.take ((Int.toNat (i : Int)) - (0 : Nat)) (List.drop (0 : Nat) (got1 A c B SA false SB)))) ++ [c] ++ (List.take ((List.length (got1 A c B SA false SB)) - (Int.toNat (i : Int))) (List.drop (Int.toNat (i : Int)) (got1 A c B SA false SB))) = got1 A c B SA true SB := by
        have hd : List.take ((got1 A c B SA false SB).length - i) (List.drop i (got1 A c B SA false SB)) = List.drop i (got1 A c B SA false SB) := List.take_of_length_le (by rw [List.length_drop]; omega)
        rw [Int.toNat_natCast, hd, List.nil_append, Nat.sub_zero, List.drop_zero, List.append_assoc, List.singleton_append, ← got1_ins A c B SA SB, ← hpos]
      have q1 : (decide ((0 : Int) ≤ (i : Int)) && decide ((i : Int) ≤ ((List.length (got1 A c B SA false SB)) : Int))) = true := by simp; omega
      rw [h2, hins, q1, cond_false, req_true, req_true, req_true_of (by simp; omega), req_true_of (by simp; omega), req_true_of (by simp; omega)]
      cases hlt : ilt (i : Int) (llen (got1 A c B SA false SB)) with
      | false => rfl
      | true =>
        have hlt := ilt_iff.1 hlt
        simp only [llen] at hlt
        have hy := List.getElem?_eq_getElem (l := got1 A c B SA false SB) (i := i) (by omega)
        rw [hat, cond_false] at hy
        rw [cond_true, getO_at (by omega) (by rw [Int.toNat_natCast, hat, cond_false]; exact hy), f_spec_l13LessVal, bnd_some]
        dsimp only
        rw [h.behind (List.mem_of_getElem? hy)]
        rfl
  refine Does.cond (fun hlt => ?_) fun hlt => Does.val ?_
  · have hlt : (i : Int) < ((got1 A c B SA b SB).length : Int) := ilt_iff.1 hlt
    refine Does.getO (by omega) hlt fun y hy => ?_
    rw [Int.toNat_natCast] at hy
    rw [f_spec_l13LessVal, bnd_some]
    dsimp only
    refine Does.cond (fun hc => Does.val ?_) fun hc => Does.val ?_
    · have e1 : iadd .i64 (i : Int) (1 : Int) = ((i + 1 : Nat) : Int) := iaddN (b := 1) (by omega)
      rw [e1]
      refine ⟨⟨rfl, i + 1, by omega, rfl, fun k x hk hx => ?_⟩, by dsimp only; omega⟩
      rcases (show k < i ∨ k = i by omega) with hk | rfl
      · exact hp k x hk hx
      · rw [hy] at hx; injection hx with hx; rw [← hx]; exact hc
    · exact Does.eq (fin (fun x hx => by rw [hy] at hx; injection hx with hx; rw [← hx]; exact hc) rfl) rfl
  · have hlt : ((got1 A c B SA b SB).length : Int) ≤ (i : Int) := ilt_false.1 hlt
    exact Does.eq (fin (fun x hx => by have := (List.getElem?_eq_some_iff.1 hx).1; omega) rfl) rfl

theorem f_spec_take_bad {fs : List ByteArray} {c : DChunk} (hc : c ∈ cks 0 fs) (got : List DChunk) (hok : okF fs = true) (d : ByteArray) (hd : d.size = c.2.2.1.size) (hb : ∀ i s j, c = ck i s j → ckSum i (64 * j) (ckD s j) ≠ ckSum i (64 * j) d) :
    f_spec_l13Take ((wantP fs, (got, ())), ((c.1, (c.2.1, (d, c.2.2.2))), ())) = some (((wantP fs, (got, ())), (false, ())), ()) := by
  obtain ⟨i, s, j, hs, hj, hc⟩ := cks_mem hc
  rw [Nat.zero_add] at hc
  have hb2 := hb i s j hc
  subst hc
  have hck := f_spec_l13GoodVal hok hs hj got d hd (ckSum i (64 * j) (ckD s j))
  rw [show ieq (ckSum i (64 * j) (ckD s j)) (ckSum i (64 * j) d) = false by
    cases e : ieq (ckSum i (64 * j) (ckD s j)) (ckSum i (64 * j) d) with
    | false => rfl
    | true => exact absurd (ieq_iff.1 e) hb2] at hck
  unfold f_spec_l13Take
  dsimp only
  refine Eq.trans (congrArg (fun o => bnd o _) hck) ?_
  rfl

end Go.Proofs.Ytogmfilmfkepfaa
