/- A table comes back from its bytes, on both sides. -/
import Derived.Test.YtncalmofbcmkaaaGreatT1Read
set_option linter.all false
noncomputable section
namespace Go.Proofs.YtncalmofbcmkaaaGreat
open Go Go.Proofs.YtncalmofbcmkaaaGreat.Ev

/-! ### runs and their parts -/
def adj (l : List DItem) (i : Nat) (x : DItem) : Prop := ∀ j y, i = j + 1 → l[j]? = some y → ilt (cmpItem y x) 0 = true

theorem goodGo_iff {l : List DItem} : ∀ (f i : Nat), f + i = l.length → (goodGo l f i = true ↔ ∀ j x, i ≤ j → l[j]? = some x → goodItem x = true ∧ adj l j x)
  | 0, i, hf => by
    simp only [goodGo, true_iff]
    intro j x hj hx
    have := (List.getElem?_eq_some_iff.1 hx).1; omega
  | f + 1, i, hf => by
    have hi : l[i]? = some l[i] := List.getElem?_eq_getElem (by omega)
    have ih := goodGo_iff (l := l) f (i + 1) (by omega)
    rw [goodGo, hi]
    simp only [Bool.and_eq_true]
    have e : (match i with | 0 => true | j + 1 => match l[j]? with | some y => ilt (cmpItem y l[i]) 0 | none => true) = true ↔ adj l i l[i] := by
      cases i with
      | zero => simp only [true_iff]; intro j y h; omega
      | succ k =>
        have hk : l[k]? = some l[k] := List.getElem?_eq_getElem (by omega)
        dsimp only
        rw [hk]
        constructor
        · intro h j y hj hy
          have : j = k := by omega
          subst this
          rw [hk] at hy; injection hy with hy; subst hy; exact h
        · intro h; exact h k _ rfl hk
    refine (and_congr Iff.rfl (and_congr e ih)).trans ?_
    constructor
    · rintro ⟨h1, h2, h3⟩ j x hj hx
      by_cases he : j = i
      · subst he
        rw [hi] at hx; injection hx with hx; subst hx
        exact ⟨h1, h2⟩
      · exact h3 j x (by omega) hx
    · intro h
      exact ⟨(h i _ (Nat.le_refl _) hi).1, (h i _ (Nat.le_refl _) hi).2, fun j x hj hx => h j x (by omega) hx⟩

theorem goodRun_iff {l : List DItem} : goodRun l = true ↔ ∀ j x, l[j]? = some x → goodItem x = true ∧ adj l j x := by
  rw [goodRun, goodGo_iff l.length 0 rfl]
  exact ⟨fun h j x hx => h j x (Nat.zero_le _) hx, fun h j x _ hx => h j x hx⟩

theorem goodRun_part {l : List DItem} (h : goodRun l = true) (a k : Nat) : goodRun ((l.drop a).take k) = true := by
  rw [goodRun_iff] at h ⊢
  intro j x hx
  have hj : j < k := by
    have := (List.getElem?_eq_some_iff.1 hx).1
    rw [List.length_take] at this; omega
  rw [List.getElem?_take_of_lt hj, List.getElem?_drop] at hx
  have := h _ _ hx
  refine ⟨this.1, ?_⟩
  intro i y hi hy
  rw [List.getElem?_take_of_lt (by omega), List.getElem?_drop] at hy
  exact this.2 (a + i) y (by omega) hy

def okRun (l : List DItem) : Prop := goodRun l = true ∧ 1 ≤ l.length ∧ l.length ≤ 120
theorem okRun.good {l : List DItem} (h : okRun l) : ∀ x ∈ l, goodItem x = true := fun x hx => goodRun_all h.1 hx

/-- what a part is -/
def okPart (p : List DItem) : Prop := goodRun p = true ∧ 1 ≤ p.length ∧ p.length ≤ 8
theorem parts_ok {l : List DItem} (h : goodRun l = true) : ∀ (f a : Nat), ∀ p ∈ parts f (l.drop a), okPart p := by
  intro f
  induction f with
  | zero => intro a p hp; cases hp
  | succ f ih =>
    intro a p hp
    by_cases hlt : l.length ≤ a
    · rw [parts_none _ hlt] at hp; cases hp
    · rw [parts_more (by omega)] at hp
      rcases List.mem_cons.1 hp with rfl | hp
      · exact ⟨goodRun_part h a 8, by rw [List.length_take, List.length_drop]; omega, by rw [List.length_take]; omega⟩
      · exact ih _ p hp
theorem parts_len (l : List DItem) : ∀ (f a : Nat), 8 * (parts f (l.drop a)).length ≤ l.length - a + 7 := by
  intro f
  induction f with
  | zero => intro a; simp [parts]
  | succ f ih =>
    intro a
    by_cases hlt : l.length ≤ a
    · rw [parts_none _ hlt]; simp
    · rw [parts_more (by omega)]
      have := ih (a + 8)
      simp only [List.length_cons]; omega
theorem parts_flat (l : List DItem) : ∀ (f a : Nat), l.length ≤ f + a → (parts f (l.drop a)).flatten = l.drop a := by
  intro f
  induction f with
  | zero => intro a h; rw [List.drop_eq_nil_of_le (by omega)]; rfl
  | succ f ih =>
    intro a h
    by_cases hlt : l.length ≤ a
    · rw [parts_none _ hlt, List.drop_eq_nil_of_le hlt]; rfl
    · rw [parts_more (by omega), List.flatten_cons, ih (a + 8) (by omega), ← List.drop_drop, List.take_append_drop]

theorem tabPs_ok {l : List DItem} (h : goodRun l = true) : ∀ p ∈ tabPs l, okPart p := by
  have := parts_ok h l.length 0
  rwa [List.drop_zero] at this
theorem tabPs_len (l : List DItem) : 8 * (tabPs l).length ≤ l.length + 7 := by
  have := parts_len l l.length 0
  rwa [List.drop_zero, Nat.sub_zero] at this
theorem tabPs_flat (l : List DItem) : (tabPs l).flatten = l := by
  have := parts_flat l l.length 0 (by omega)
  rwa [List.drop_zero] at this

theorem okPart.size {p : List DItem} (h : okPart p) : 6 ≤ (blockB p).size ∧ (blockB p).size ≤ 758 := by
  have h1 := blockB_size (fun x hx => goodRun_all h.1 hx)
  have h2 := h.2
  refine ⟨?_, by omega⟩
  simp only [blockB, bodyB, two, ByteArray.size_append, strOf_size, lows_length]; omega
theorem okPart.last {p : List DItem} (h : okPart p) : goodItem (lastI p) = true := by
  have h2 := h.2
  have : p[p.length - 1]? = some p[p.length - 1] := List.getElem?_eq_getElem (by omega)
  rw [lastI, this]
  exact goodRun_all h.1 (List.mem_of_getElem? this)

theorem body_size : ∀ (ps : List (List DItem)), (∀ p ∈ ps, okPart p) → (bodyP ps).size ≤ 758 * ps.length
  | [], _ => Nat.le_refl _
  | p :: ps, h => by
    have h1 := (h p (by simp)).size
    have h2 := body_size ps (fun x hx => h x (by simp [hx]))
    simp only [bodyP, ByteArray.size_append, List.length_cons]; omega

/-! ### places -/
def okPl (p : DPlace) : Prop := p.1.size ≤ 16 ∧ (0 ≤ p.2.1 ∧ p.2.1 ≤ 1000000000) ∧ (0 ≤ p.2.2.1 ∧ p.2.2.1 ≤ 1000000) ∧ (0 ≤ p.2.2.2.1 ∧ p.2.2.2.1 ≤ 1000)
theorem placesP_ok : ∀ (ps : List (List DItem)) (n : Nat), (∀ p ∈ ps, okPart p) → n + 758 * ps.length ≤ 1000000 → ∀ p ∈ placesP n ps, okPl p
  | [], n, _, _ => by simp [placesP]
  | q :: ps, n, h, hn => by
    have h1 := (h q (by simp)).size
    have h2 := good_sizes (h q (by simp)).last
    simp only [List.length_cons] at hn
    intro p hp
    rcases List.mem_cons.1 hp with rfl | hp
    · refine ⟨h2.2.1, ⟨h2.2.2.2.1, h2.2.2.2.2.1⟩, ⟨by simp only [placeI]; omega, by simp only [placeI]; omega⟩, by simp only [placeI]; omega, by simp only [placeI]; omega⟩
    · exact placesP_ok ps _ (fun x hx => h x (by simp [hx])) (by omega) p hp
theorem placesP_len : ∀ (ps : List (List DItem)) (n : Nat), (placesP n ps).length = ps.length
  | [], _ => rfl
  | p :: ps, n => by simp [placesP, placesP_len ps]

theorem vb_le : ∀ (k f n : Nat), n < 128 ^ (k + 1) → k ≤ f → (vb f n).length ≤ k + 1
  | 0, 0, n, _, _ => by simp [vb]
  | 0, f + 1, n, h, _ => by
    simp only [vb]
    rw [if_pos (by omega)]; simp
  | k + 1, 0, n, _, hk => by omega
  | k + 1, f + 1, n, h, hk => by
    simp only [vb]
    split
    · simp
    · have := vb_le k f (n / 128) (by rw [Nat.pow_succ] at h; exact Nat.div_lt_of_lt_mul (by rw [Nat.mul_comm]; exact h)) (by omega)
      simp; omega
theorem varB_le (k n : Nat) (hk : k ≤ 8) (h : n < 128 ^ (k + 1)) : (varB n).size ≤ k + 1 := by rw [varB, strOf_size]; exact vb_le k 8 n h hk

theorem recB_le {p : DPlace} (h : okPl p) : (recB p).size ≤ 27 := by
  obtain ⟨h1, h2, h3, h4⟩ := h
  have v1 := varB_le 0 p.1.size (by omega) (by omega)
  have v2 := varB_le 4 p.2.1.toNat (by omega) (by omega)
  have v3 := varB_le 2 p.2.2.1.toNat (by omega) (by omega)
  have v4 := varB_le 1 p.2.2.2.1.toNat (by omega) (by omega)
  simp only [recB, ByteArray.size_append]; omega
theorem indexB_le : ∀ (pl : List DPlace), (∀ p ∈ pl, okPl p) → (indexB pl).size ≤ 27 * pl.length ∧ pl.length ≤ (indexB pl).size
  | [], _ => ⟨Nat.le_refl _, Nat.le_refl _⟩
  | p :: pl, h => by
    have h1 := recB_le (h p (by simp))
    have h2 := indexB_le pl (fun x hx => h x (by simp [hx]))
    have h3 := varB_pos p.1.size
    have h4 : (recB p).size = (varB p.1.size).size + p.1.size + (varB p.2.1.toNat).size + (varB p.2.2.1.toNat).size + (varB p.2.2.2.1.toNat).size := by simp only [recB, ByteArray.size_append]
    simp only [indexB, ByteArray.size_append, List.length_cons]; omega

theorem dr_left (A B : ByteArray) {n : Nat} (h : n = A.size) : dr (A ++ B) n = B := dr_append' h

theorem rec1_back {p : DPlace} (h : okPl p) (r : ByteArray) : rec1 (recB p ++ r) = some ((p.1, p.2.1.toNat, p.2.2.1.toNat, p.2.2.2.1.toNat), r) := by
  obtain ⟨h1, h2, h3, h4⟩ := h
  have e : recB p ++ r = varB p.1.size ++ (p.1 ++ (varB p.2.1.toNat ++ (varB p.2.2.1.toNat ++ (varB p.2.2.2.1.toNat ++ r)))) := by simp only [recB, ByteArray.append_assoc]
  rw [e]
  have v1 := varB_pos p.1.size
  have v2 := varB_pos p.2.1.toNat
  have v3 := varB_pos p.2.2.1.toNat
  have v4 := varB_pos p.2.2.2.1.toNat
  unfold rec1
  rw [takeVar_varB _ _ (by omega)]
  dsimp only
  rw [if_neg (by omega), if_neg (by simp only [ByteArray.size_append]; omega)]
  rw [show dr (varB p.1.size ++ (p.1 ++ (varB p.2.1.toNat ++ (varB p.2.2.1.toNat ++ (varB p.2.2.2.1.toNat ++ r))))) ((varB p.1.size).size + p.1.size) = varB p.2.1.toNat ++ (varB p.2.2.1.toNat ++ (varB p.2.2.2.1.toNat ++ r)) from by
    rw [← dr_dr, dr_append, dr_append]]
  rw [takeVar_varB _ _ (by omega)]
  dsimp only
  rw [if_neg (by omega), dr_append, takeVar_varB _ _ (by omega)]
  dsimp only
  rw [if_neg (by omega), dr_append, takeVar_varB _ _ (by omega)]
  dsimp only
  rw [if_neg (by omega), dr_append, ← ByteArray.append_assoc, mid_extract rfl rfl]

theorem plc_back {p : DPlace} (h : okPl p) : plc (p.1, p.2.1.toNat, p.2.2.1.toNat, p.2.2.2.1.toNat) = p := by
  obtain ⟨a, b, c, d, ⟨⟩⟩ := p
  obtain ⟨h1, h2, h3, h4⟩ := h
  dsimp only at h2 h3 h4
  simp only [plc]
  rw [Int.toNat_of_nonneg h2.1, Int.toNat_of_nonneg h3.1, Int.toNat_of_nonneg h4.1]

theorem idx_back : ∀ (pl : List DPlace) (f : Nat) (out : List DPlace), (∀ p ∈ pl, okPl p) → pl.length < f → idxGo f (indexB pl) out = some (out ++ pl)
  | [], f + 1, out, _, _ => by simp only [idxGo, indexB, List.append_nil]; rfl
  | p :: pl, f + 1, out, h, hf => by
    have hp := h p (by simp)
    have h4 := (indexB_le (p :: pl) h).2
    simp only [List.length_cons] at h4 hf
    have hr := rec1_back hp (indexB pl)
    rw [idxGo, if_neg (by omega), show indexB (p :: pl) = recB p ++ indexB pl from rfl, hr]
    dsimp only
    rw [plc_back hp, idx_back pl f _ (fun x hx => h x (by simp [hx])) (by omega)]
    simp

theorem ti_back (s : ByteArray) (b : Nat) : ∀ (ps : List (List DItem)) (f : Nat) (pre post : ByteArray) (out : List DItem), (∀ p ∈ ps, okPart p) → ps.length < f → pre.size + 758 * ps.length ≤ 1000000 → s = pre ++ bodyP ps ++ post → b = pre.size + (bodyP ps).size →
    tiGo s b f (indexB (placesP pre.size ps)) pre.size out = some (b, out ++ ps.flatten)
  | [], f + 1, pre, post, out, _, _, _, hs, hb => by
    have : pre.size = b := by rw [hb]; rfl
    simp only [tiGo, indexB, placesP, List.flatten_nil, List.append_nil, this]; rfl
  | p :: ps, f + 1, pre, post, out, h, hf, hn, hs, hb => by
    have hp := h p (by simp)
    have hz := hp.size
    have hpl := placesP_ok (p :: ps) pre.size h hn
    have h4 := (indexB_le _ hpl).2
    rw [placesP_len] at h4
    simp only [List.length_cons] at h4 hf hn
    have hr := rec1_back (hpl (placeI pre.size p) (by simp [placesP])) (indexB (placesP (pre.size + (blockB p).size) ps))
    rw [tiGo, if_neg (by omega), show indexB (placesP pre.size (p :: ps)) = recB (placeI pre.size p) ++ indexB (placesP (pre.size + (blockB p).size) ps) from rfl, hr]
    dsimp only [placeI]
    have hbb : (bodyP (p :: ps)).size = (blockB p).size + (bodyP ps).size := by simp only [bodyP, ByteArray.size_append]
    simp only [Int.toNat_natCast, if_true]
    rw [if_neg (by omega)]
    have hx : s.extract pre.size (pre.size + (blockB p).size) = blockB p := by
      rw [hs, bodyP, ← ByteArray.append_assoc, ByteArray.append_assoc (a := pre ++ blockB p)]
      exact mid_extract rfl rfl
    rw [hx, readB_blockB hp.1 (by have := hp.2; omega)]
    dsimp only
    have ih := ti_back s b ps f (pre ++ blockB p) post (out ++ p) (fun x hx => h x (by simp [hx])) (by omega) (by rw [ByteArray.size_append]; omega) (by rw [hs, bodyP]; simp only [ByteArray.append_assoc]) (by rw [ByteArray.size_append]; omega)
    rw [ByteArray.size_append] at ih
    rw [ih, List.flatten_cons, List.append_assoc]

/-! ### the reference reads the blocks -/
def rdGo (bs : ByteArray) : List DPlace → List DItem → Option (List DItem)
  | [], out => some out
  | p :: pl, out => if bs.size < p.2.2.2.1.toNat then none else if bs.size - p.2.2.2.1.toNat < p.2.2.1.toNat then none else
    match readB (bs.extract p.2.2.1.toNat (p.2.2.1.toNat + p.2.2.2.1.toNat)) with
    | none => none
    | some l => if 120 < out.length then none else rdGo bs pl (out ++ l.1)

theorem rd_back (bs : ByteArray) : ∀ (ps : List (List DItem)) (pre : ByteArray) (out : List DItem), (∀ p ∈ ps, okPart p) → pre.size + 758 * ps.length ≤ 1000000 → bs = pre ++ bodyP ps → out.length + ps.flatten.length ≤ 120 →
    rdGo bs (placesP pre.size ps) out = some (out ++ ps.flatten)
  | [], pre, out, _, _, _, _ => by simp [rdGo, placesP]
  | p :: ps, pre, out, h, hn, hs, hl => by
    have hp := h p (by simp)
    have hz := hp.size
    simp only [List.length_cons] at hn
    have hbs : bs.size = pre.size + ((blockB p).size + (bodyP ps).size) := by rw [hs]; simp only [bodyP, ByteArray.size_append]
    rw [placesP, rdGo, if_neg (by simp only [placeI, Int.toNat_natCast]; omega), if_neg (by simp only [placeI, Int.toNat_natCast]; omega)]
    dsimp only [placeI]
    simp only [Int.toNat_natCast]
    have hx : bs.extract pre.size (pre.size + (blockB p).size) = blockB p := by
      rw [hs, bodyP, ← ByteArray.append_assoc]
      exact mid_extract rfl rfl
    simp only [List.flatten_cons, List.length_append] at hl
    rw [hx, readB_blockB hp.1 (by have := hp.2; omega)]
    dsimp only
    rw [if_neg (by omega)]
    have ih := rd_back bs ps (pre ++ blockB p) (out ++ p) (fun x hx => h x (by simp [hx])) (by rw [ByteArray.size_append]; omega) (by rw [hs, bodyP]; simp only [ByteArray.append_assoc]) (by rw [List.length_append]; omega)
    rw [ByteArray.size_append] at ih
    rw [ih, List.flatten_cons, List.append_assoc]

end Go.Proofs.YtncalmofbcmkaaaGreat
