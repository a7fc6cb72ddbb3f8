/- FnBlocks over typed functions. -/
import Derived.Test.YtpegmiofhfmepaaR1Back
import Derived.Test.YtpegmiofhfmepaaR1Draw
set_option linter.all false
noncomputable section
namespace Go.Proofs.Ytpegmiofhfmepaa
open Go Go.Proofs.Ytpegmiofhfmepaa.Ev

def outB (l : List D51) : (ByteArray × Bool × Unit) × Unit := if goodRun l = true ∧ l.length ≤ 40 then ((blockB l, (true, ())), ()) else ((⟨#[]⟩, (false, ())), ())

theorem t30Val (x : List D51 × Unit) (hl : x.1.length ≤ 1000000) : t30 x = some (outB x.1) := by
  obtain ⟨l, ⟨⟩⟩ := x
  dsimp only at hl ⊢
  unfold t30 outB
  dsimp only
  by_cases h40 : 40 < l.length
  · rw [ilt_iff.2 (show (40 : Int) < llen l by simp only [llen]; omega), if_neg (by omega)]
    rfl
  rw [ilt_false.2 (show llen l ≤ (40 : Int) by simp only [llen]; omega), cond_false, t50Val _ (by dsimp only; omega), bnd_some]
  dsimp only
  cases hg : goodRun l with
  | false => rw [if_neg (by simp)]; rfl
  | true =>
    rw [if_pos ⟨rfl, by omega⟩, Bool.not_true, cond_false, t51Val _ (fun x hx => goodRun_all hg hx) (by dsimp only; omega), bnd_some]

theorem t31Val (x : List D51 × Unit) (hl : x.1.length ≤ 1000000) : t31 x = some (outB x.1) := by
  obtain ⟨l, ⟨⟩⟩ := x
  dsimp only at hl ⊢
  unfold t31 outB
  dsimp only
  rw [t52Val _ (by dsimp only; omega), bnd_some]
  dsimp only
  cases hg : goodRun l with
  | false => rw [if_neg (by simp)]; rfl
  | true =>
    rw [Bool.not_true, cond_false]
    by_cases h40 : 40 < l.length
    · rw [ilt_iff.2 (show (40 : Int) < llen l by simp only [llen]; omega), if_neg (by omega)]
      rfl
    rw [ilt_false.2 (show llen l ≤ (40 : Int) by simp only [llen]; omega), cond_false, if_pos ⟨rfl, by omega⟩, t53Val _ (fun x hx => goodRun_all hg hx) (by dsimp only; omega), bnd_some]

theorem eqK_self : ∀ {k : K} (x : T k), k.flat = true → eqK k x x = true
  | .int _, x, _ => by simp [eqK]
  | .bool, x, _ => by simp [eqK]
  | .str, x, _ => by simp [eqK]
  | .unit, x, _ => rfl
  | .pair a b, x, h => by
    simp only [K.flat, Bool.and_eq_true] at h
    simp only [eqK, eqK_self x.1 h.1, eqK_self x.2 h.2, Bool.and_self]
  | .sl _, x, h => by cases h

theorem t32Loop {R : Type} (l : List D51) (hl : l.length ≤ 4611686018427387904) (kk : (((List D51) × (List D51) × Int × Unit) × Unit) → (((Bool × Unit) × Unit) ⊕ (Unit × Unit)) → Option R) : ∀ (B A : List D51), A ++ B = l →
    loopF (c := t32l4c) (v := t32l4v) (ex := t32l4e) t32l4 R ((l, (l, (llen l, ()))), ()) ((((A.length : Nat) : Int), ()), ()) kk = kk ((l, (l, (llen l, ()))), ()) (.inr ((), ()))
  | [], A, h => by
    subst h
    rw [loopF_done (c' := ((A ++ [], (A ++ [], (llen (A ++ []), ()))), ())) (o := Sum.inr ((), ())) (by simp only [round, t32l4, mid_end, cond_false])]
  | y :: B, A, h => by
    have hA : A.length + 1 ≤ l.length := by rw [← h]; simp
    rw [loopF_more (c' := ((l, (l, (llen l, ()))), ())) (v' := (((((A ++ [y]).length : Nat) : Int), ()), ())) (by
      rw [← h]
      simp only [round, t32l4, mid_lt, cond_true, mid_getO]
      rw [eqK_self (k := kd51) y rfl]
      simp only [Bool.not_true, cond_false]
      rw [mid_next A y (by omega)])]
    exact t32Loop l hl kk B (A ++ [y]) (by simp [← h])

theorem t32Same (x : List D51 × List D51 × Unit) (h : x.1 = x.2.1) (hl : x.1.length ≤ 4611686018427387904) : t32 x = some ((true, ()), ()) := by
  obtain ⟨a, b, ⟨⟩⟩ := x
  dsimp only at h hl
  subst h
  unfold t32
  simp only [ieq_iff.2, Bool.not_true, cond_false]
  exact t32Loop a hl (fun c3 o4 => (match o4 with
 | .inl y5 => (some ((y5.1.1, ()), ()))
 | .inr z6 => (some ((true, ()), ())))) a [] rfl

/-! ### places -/
theorem places_length (l : List D51) : ∀ (i : Nat), i ≤ l.length → (blk l i).2.length = (i + 3) / 4
  | 0, _ => rfl
  | i + 1, h => by
    have hx : l[i]? = some l[i] := List.getElem?_eq_getElem (by omega)
    have ih := places_length l i (by omega)
    simp only [blk, hx]
    split
    · rename_i h4
      simp only [List.length_append, List.length_cons, List.length_nil]
      omega
    · omega

theorem piece_pos (c : Nat) (x : D51) : 0 < (piece c x).size := by
  have := varB_pos c
  simp only [piece, ByteArray.size_append]
  omega

theorem places_sorted (l : List D51) : ∀ (i : Nat), i ≤ l.length → (∀ p ∈ (blk l i).2, p < ((blk l i).1.size : Int)) ∧ (blk l i).2.Pairwise (· < ·)
  | 0, _ => ⟨(fun p h => by cases h), List.Pairwise.nil⟩
  | i + 1, h => by
    have hx : l[i]? = some l[i] := List.getElem?_eq_getElem (by omega)
    obtain ⟨h1, h2⟩ := places_sorted l i (by omega)
    have hp := piece_pos (comAt l i l[i]) l[i]
    simp only [blk, hx, ByteArray.size_append]
    split
    · refine ⟨fun p hm => ?_, ?_⟩
      · rcases List.mem_append.1 hm with hm | hm
        · have := h1 p hm; omega
        · rw [List.mem_singleton] at hm; subst hm; simp only [slen]; omega
      · rw [List.pairwise_append]
        refine ⟨h2, List.pairwise_singleton _ _, fun a ha b hb => ?_⟩
        rw [List.mem_singleton] at hb
        subst hb
        exact h1 a ha
    · exact ⟨fun p hm => by have := h1 p hm; omega, h2⟩

theorem places_first (l : List D51) (h0 : 0 < l.length) : ∀ (i : Nat), (blk l (i + 1)).2[0]? = some 0
  | 0 => by
    have hx : l[0]? = some l[0] := List.getElem?_eq_getElem h0
    simp only [blk, hx]
    rfl
  | i + 1 => by
    have ih := places_first l h0 i
    have h : (blk l (i + 1 + 1)).2 = (blk l (i + 1)).2 ∨ ∃ p, (blk l (i + 1 + 1)).2 = (blk l (i + 1)).2 ++ [p] := by
      generalize i + 1 = j
      simp only [blk]
      cases l[j]? with
      | none => exact .inl rfl
      | some x =>
        dsimp only
        split
        · exact .inr ⟨_, rfl⟩
        · exact .inl rfl
    rcases h with h | ⟨p, h⟩
    · rw [h]; exact ih
    · rw [h]
      have hl : 0 < (blk l (i + 1)).2.length := by
        rcases Nat.eq_zero_or_pos (blk l (i + 1)).2.length with e | e
        · rw [List.length_eq_zero_iff] at e; rw [e] at ih; cases ih
        · exact e
      rw [List.getElem?_append_left hl]
      exact ih

def firstKey : List D51 → ByteArray
  | [] => ⟨#[]⟩
  | y :: _ => y.1

theorem t18Val (s : ByteArray) (hs : s.size ≤ 1048576) {l : List D51} {pl : List Int} (hr : readB s = some (l, pl)) : t18 (s, ()) = some ((firstKey l, (decide (0 < l.length), ())), ()) := by
  unfold t18
  dsimp only
  rw [t25Val _ hs, bnd_some]
  dsimp only
  rw [hr]
  simp only [okB, Bool.not_true, cond_false]
  cases l with
  | nil => rfl
  | cons y l =>
    rw [ieq_false.2 (show llen (y :: l) ≠ 0 by simp only [llen, List.length_cons]; omega), cond_false, getO_at (b := y) (by decide) rfl]
    rfl

theorem t8Loop {R : Type} (c1 : ByteArray × Bool × Unit) (l : List D51) (pl : List Int) (hp : pl.Pairwise (· < ·)) (hl : pl.length ≤ 1000000) (kk : ((ByteArray × Bool × Unit) × ((List D51) × (List Int) × Unit)) → (((Bool × Unit) × Unit) ⊕ (Unit × Unit)) → Option R) :
    ∀ (f i : Nat), 1 ≤ i → (i + f = pl.length ∨ (f = 0 ∧ pl.length < i)) → loopF (c := t8l16c) (v := t8l16v) (ex := t8l16e) t8l16 R (c1, (l, (pl, ()))) ((((i : Nat) : Int), ()), ()) kk = kk (c1, (l, (pl, ()))) (.inr ((), ()))
  | 0, i, h1, h => by
    have h2 : ilt (i : Int) (llen pl) = false := ilt_false.2 (by simp only [llen]; omega)
    rw [loopF_done (c' := (c1, (l, (pl, ())))) (o := Sum.inr ((), ())) (by simp only [round, t8l16, h2, cond_false])]
  | f + 1, i, h1, h => by
    have h2 : ilt (i : Int) (llen pl) = true := ilt_iff.2 (by simp only [llen]; omega)
    have e1 : isub .i64 (i : Int) (1 : Int) = ((i - 1 : Nat) : Int) := by rw [isub_i64 (by omega)]; omega
    have e2 : iadd .i64 (i : Int) (1 : Int) = ((i + 1 : Nat) : Int) := by rw [iadd_i64 (by omega)]; simp
    have g1 : pl[i]? = some (pl[i]'(by omega)) := List.getElem?_eq_getElem (by omega)
    have g2 : pl[i - 1]? = some (pl[i - 1]'(by omega)) := List.getElem?_eq_getElem (by omega)
    have hlt := List.pairwise_iff_getElem.1 hp (i - 1) i (by omega) (by omega) (by omega)
    rw [loopF_more (c' := (c1, (l, (pl, ())))) (v' := ((((i + 1 : Nat) : Int), ()), ())) (by
      simp only [round, t8l16, h2, cond_true, e1, Int.toNat_natCast]
      rw [getO_at (b := pl[i]'(by omega)) (by omega) (by rw [Int.toNat_natCast]; exact g1), g1, bnd_some, getO_at (b := pl[i - 1]'(by omega)) (by omega) (by rw [Int.toNat_natCast]; exact g2), g2, bnd_some, ile_false.2 hlt, cond_false, e2])]
    exact t8Loop c1 l pl hp hl kk f (i + 1) (by omega) (by omega)

theorem trueT8 (x : List Int × Unit) (hx : ∀ b ∈ x.1, 0 ≤ b ∧ b < 256) : t8 x = some ((true, ()), ()) := by
  obtain ⟨code, ⟨⟩⟩ := x
  dsimp only at hx
  unfold t8
  dsimp only
  cases ilt (1048576 : Int) (llen code) with
  | true => rfl
  | false =>
  rw [cond_false]
  obtain ⟨⟨⟨l, ⟨⟩⟩, ⟨⟩⟩, e1, hl⟩ := t29Does (x := (code, ())) hx
  dsimp only at hl
  rw [e1, bnd_some]
  dsimp only
  rw [t30Val _ (by dsimp only; omega), bnd_some, t31Val _ (by dsimp only; omega), bnd_some, beqB_self, Bool.not_true, cond_false, seq_self, Bool.not_true, cond_false]
  dsimp only
  unfold outB
  by_cases hc : goodRun l = true ∧ l.length ≤ 40
  case neg =>
    rw [if_neg hc]
    dsimp only
    rw [seq_self]
    rfl
  rw [if_pos hc]
  obtain ⟨hg, hl40⟩ := hc
  have hga := fun x hx => goodRun_all hg (x := x) hx
  have hrb := readB_blockB hg hl40
  obtain ⟨d1, d2, d3⟩ := block_dec hga hl40
  have hz := blk_size hga l.length
  have hsz : (blockB l).size ≤ 1048576 := by omega
  dsimp only
  rw [Bool.not_true, cond_false, t25Val _ hsz, bnd_some, t20Val _ hsz, bnd_some, t18Val _ hsz hrb, bnd_some]
  dsimp only
  rw [hrb]
  simp only [okB, okP]
  rw [Bool.not_true, cond_false, cond_false, t32Same _ rfl (by dsimp only; omega), bnd_some]
  dsimp only
  have hlen := places_length l l.length (Nat.le_refl _)
  have e2 : iquo .i64 (iadd .i64 (llen l) (3 : Int)) (4 : Int) = llen (blk l l.length).2 := by
    simp only [llen]
    rw [iadd_i64 (by omega)]
    simp only [iquo]
    rw [Int.tdiv_eq_ediv_of_nonneg (by omega), wrap_i64 _ (by omega), hlen]
    omega
  have e3 : ilt (0 : Int) (llen l) = decide (0 < l.length) := by
    simp only [ilt, llen]
    congr 1
    simp
  rw [Bool.not_true, cond_false, e2, ieq_iff.2 rfl, Bool.not_true, cond_false, e3, beqB_self, Bool.not_true, cond_false]
  rw [show ((1 : Int)) = ((1 : Nat) : Int) from rfl, t8Loop _ l _ (places_sorted l l.length (Nat.le_refl _)).2 (by omega) _ ((blk l l.length).2.length - 1) 1 (by omega) (by omega)]
  dsimp only
  cases l with
  | nil => rfl
  | cons y l =>
    have hf := places_first (y :: l) (by simp) l.length
    simp only [List.length_cons, Nat.zero_lt_succ, decide_true, Bool.not_true, cond_false, firstKey]
    rw [getO_at (b := y) (by decide) rfl]
    rw [show (y :: l)[Int.toNat (0 : Int)]? = some y from rfl, bnd_some, bnd_some, seq_self, cond_true, getO_at (b := (0 : Int)) (by decide) hf]
    rw [show (blk (y :: l) (l.length + 1)).2[Int.toNat (0 : Int)]? = some 0 from hf, bnd_some]
    rfl

end Go.Proofs.Ytpegmiofhfmepaa
