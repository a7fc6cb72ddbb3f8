/- Sorted lists: where a key stands, found from the front or by halves. -/
import Derived.Test.YtogmfilmfkepfaaUMid
set_option linter.all false
noncomputable section
namespace Go.Proofs.Ytogmfilmfkepfaa
open Go Go.Proofs.Ytogmfilmfkepfaa.Ev

section
variable {α κ : Type}
/-- how many stand at the front for which p holds -/
def posBy (p : α → Bool) : List α → Nat
  | [] => 0
  | x :: l => bif p x then posBy p l + 1 else 0
def atB (e : α → Bool) (l : List α) (k : Nat) : Bool := match l[k]? with | some y => e y | none => false

theorem posBy_le (p : α → Bool) : ∀ l : List α, posBy p l ≤ l.length
  | [] => Nat.le_refl _
  | x :: l => by
    have := posBy_le p l
    simp only [posBy, List.length_cons]
    cases p x <;> simp <;> omega
theorem posBy_front {p : α → Bool} : ∀ {l : List α} {i : Nat} {x : α}, i < posBy p l → l[i]? = some x → p x = true
  | [], i, x, h, hx => by simp [posBy] at h
  | y :: l, i, x, h, hx => by
    simp only [posBy] at h
    cases hy : p y with
    | false => rw [hy] at h; simp at h
    | true =>
      rw [hy] at h
      cases i with
      | zero => simp at hx; rw [← hx]; exact hy
      | succ i => exact posBy_front (i := i) (by simp at h; omega) (by simpa using hx)
theorem posBy_at {p : α → Bool} : ∀ {l : List α} {x : α}, l[posBy p l]? = some x → p x = false
  | [], x, h => by simp at h
  | y :: l, x, h => by
    simp only [posBy] at h
    cases hy : p y with
    | false => rw [hy] at h; simp at h; rw [← h]; exact hy
    | true => rw [hy] at h; simp at h; exact posBy_at h
/-- the one place that stands so -/
theorem posBy_uniq {p : α → Bool} {l : List α} {k : Nat} (hk : k ≤ l.length) (h1 : ∀ i x, i < k → l[i]? = some x → p x = true) (h2 : ∀ x, l[k]? = some x → p x = false) : k = posBy p l := by
  rcases Nat.lt_trichotomy k (posBy p l) with h | h | h
  · have hl : k < l.length := Nat.lt_of_lt_of_le h (posBy_le p l)
    have e := List.getElem?_eq_getElem hl
    have := posBy_front h e
    rw [h2 _ e] at this
    cases this
  · exact h
  · have hl : posBy p l < l.length := by omega
    have e := List.getElem?_eq_getElem hl
    have := h1 _ _ h e
    rw [posBy_at e] at this
    cases this

/-- by halves -/
def bsGo (p : α → Bool) (l : List α) : Nat → Nat → Nat → Nat
  | 0, lo, _ => lo
  | f + 1, lo, hi => if lo < hi then (match l[(lo + hi) / 2]? with
    | some y => bif p y then bsGo p l f ((lo + hi) / 2 + 1) hi else bsGo p l f lo ((lo + hi) / 2)
    | none => lo) else lo
theorem bsGo_pos {p : α → Bool} {l : List α} (hm : ∀ (i j : Nat) (x y : α), i ≤ j → l[i]? = some x → l[j]? = some y → p y = true → p x = true) : ∀ (f lo hi : Nat), hi < f + lo → lo ≤ hi → hi ≤ l.length →
    (∀ i x, i < lo → l[i]? = some x → p x = true) → (∀ i x, hi ≤ i → l[i]? = some x → p x = false) → bsGo p l f lo hi = posBy p l
  | 0, lo, hi, h1, h2, h3, a, b => by omega
  | f + 1, lo, hi, h1, h2, h3, a, b => by
    unfold bsGo
    by_cases h : lo < hi
    · rw [if_pos h]
      have e := List.getElem?_eq_getElem (show (lo + hi) / 2 < l.length by omega)
      rw [e]
      dsimp only
      cases hy : p l[(lo + hi) / 2] with
      | true => exact bsGo_pos hm f _ _ (by omega) (by omega) h3 (fun i x hi hx => hm i _ _ _ (by omega) hx e hy) b
      | false => exact bsGo_pos hm f _ _ (by omega) (by omega) (by omega) a (fun i x hi hx => by
          cases hp : p x with
          | false => rfl
          | true => rw [hm _ _ _ _ hi e hx hp] at hy; cases hy)
    · rw [if_neg h]
      have : lo = hi := by omega
      subst this
      exact posBy_uniq h3 a fun x hx => b _ x (Nat.le_refl _) hx

/-- a strict order -/
structure StrictB (lt : κ → κ → Bool) : Prop where
  irr : ∀ a, lt a a = false
  tr : ∀ a b c, lt a b = true → lt b c = true → lt a c = true
  tri : ∀ a b, a = b ∨ lt a b = true ∨ lt b a = true

variable {key : α → κ} {lt : κ → κ → Bool}
def SortedB (key : α → κ) (lt : κ → κ → Bool) (l : List α) : Prop := l.Pairwise fun a b => lt (key a) (key b) = true

theorem SortedB.at {l : List α} (h : SortedB key lt l) {i j : Nat} {x y : α} (hij : i < j) (hx : l[i]? = some x) (hy : l[j]? = some y) : lt (key x) (key y) = true := by
  obtain ⟨hi, rfl⟩ := List.getElem?_eq_some_iff.1 hx
  obtain ⟨hj, rfl⟩ := List.getElem?_eq_some_iff.1 hy
  exact List.pairwise_iff_getElem.1 h i j hi hj hij

theorem sorted_mono (o : StrictB lt) {l : List α} (h : SortedB key lt l) (t : κ) : ∀ (i j : Nat) (x y : α), i ≤ j → l[i]? = some x → l[j]? = some y → lt (key y) t = true → lt (key x) t = true := by
  intro i j x y hij hx hy hl
  rcases Nat.eq_or_lt_of_le hij with rfl | hij
  · rw [hx] at hy; injection hy with hy; rw [hy]; exact hl
  · exact o.tr _ _ _ (h.at hij hx hy) hl

theorem mem_take {l : List α} {k : Nat} {x : α} (h : x ∈ l.take k) : ∃ i, i < k ∧ l[i]? = some x := by
  obtain ⟨i, hi⟩ := List.getElem?_of_mem h
  rw [List.getElem?_take] at hi
  split at hi
  · exact ⟨i, by assumption, hi⟩
  · cases hi
theorem mem_drop {l : List α} {k : Nat} {x : α} (h : x ∈ l.drop k) : ∃ i, k ≤ i ∧ l[i]? = some x := by
  obtain ⟨i, hi⟩ := List.getElem?_of_mem h
  rw [List.getElem?_drop] at hi
  exact ⟨k + i, by omega, hi⟩

theorem sorted_ins (o : StrictB lt) {l : List α} (h : SortedB key lt l) (x : α) (k : Nat) (hk : k = posBy (fun y => lt (key y) (key x)) l) (hn : ∀ y, l[k]? = some y → key y ≠ key x) : SortedB key lt (l.take k ++ x :: l.drop k) := by
  subst hk
  have hs := h
  unfold SortedB at hs ⊢
  rw [← List.take_append_drop (posBy (fun y => lt (key y) (key x)) l) l, List.pairwise_append] at hs
  have hd : ∀ y ∈ l.drop (posBy (fun y => lt (key y) (key x)) l), lt (key x) (key y) = true := fun y hy => by
    obtain ⟨i, hi, e⟩ := mem_drop hy
    have hl := (List.getElem?_eq_some_iff.1 e).1
    have e0 := List.getElem?_eq_getElem (show posBy (fun y => lt (key y) (key x)) l < l.length by omega)
    have h0 : lt (key x) (key l[posBy (fun y => lt (key y) (key x)) l]) = true := by
      rcases o.tri (key x) (key l[posBy (fun y => lt (key y) (key x)) l]) with h1 | h1 | h1
      · exact absurd h1.symm (hn _ e0)
      · exact h1
      · have := posBy_at e0
        rw [show (lt (key l[posBy (fun y => lt (key y) (key x)) l]) (key x)) = true from h1] at this; cases this
    rcases Nat.eq_or_lt_of_le hi with rfl | hi
    · rw [e0] at e; injection e with e; rw [← e]; exact h0
    · exact o.tr _ _ _ h0 (h.at hi e0 e)
  rw [List.pairwise_append]
  refine ⟨hs.1, List.pairwise_cons.2 ⟨hd, hs.2.1⟩, fun a ha b hb => ?_⟩
  obtain ⟨i, hi, e⟩ := mem_take ha
  have hax : lt (key a) (key x) = true := posBy_front (p := fun y => lt (key y) (key x)) hi e
  rcases List.mem_cons.1 hb with rfl | hb
  · exact hax
  · exact o.tr _ _ _ hax (hd b hb)

theorem sorted_set {l : List α} (h : SortedB key lt l) (x y : α) (k : Nat) (hy : l[k]? = some y) (hk : key y = key x) : SortedB key lt (l.take k ++ x :: l.drop (k + 1)) := by
  obtain ⟨hl, rfl⟩ := List.getElem?_eq_some_iff.1 hy
  unfold SortedB at h ⊢
  rw [← List.take_append_drop k l, List.drop_eq_getElem_cons hl, List.pairwise_append, List.pairwise_cons] at h
  rw [List.pairwise_append, List.pairwise_cons]
  refine ⟨h.1, ⟨fun a ha => by rw [← hk]; exact h.2.1.1 a ha, h.2.1.2⟩, fun a ha b hb => ?_⟩
  rcases List.mem_cons.1 hb with rfl | hb
  · rw [← hk]; exact h.2.2 a ha _ List.mem_cons_self
  · exact h.2.2 a ha b (List.mem_cons_of_mem _ hb)

theorem sorted_del {l : List α} (h : SortedB key lt l) (k : Nat) : SortedB key lt (l.take k ++ l.drop (k + 1)) := by
  refine List.Pairwise.sublist ?_ h
  have : l.take k ++ l.drop (k + 1) = l.eraseIdx k := (List.eraseIdx_eq_take_drop_succ l k).symm
  rw [this]
  exact List.eraseIdx_sublist l k

theorem set_mid {l : List α} {k : Nat} (h : k < l.length) (x : α) : List.set l k x = l.take k ++ x :: l.drop (k + 1) := by
  rw [List.set_eq_take_append_cons_drop, if_pos h]
end

/-! ### numbers and texts -/
theorem strictI : StrictB ilt where
  irr := fun a => ilt_false.2 (Int.le_refl a)
  tr := fun a b c h1 h2 => ilt_iff.2 (Int.lt_trans (ilt_iff.1 h1) (ilt_iff.1 h2))
  tri := fun a b => by
    rcases Int.lt_trichotomy a b with h | h | h
    · exact .inr (.inl (ilt_iff.2 h))
    · exact .inl h
    · exact .inr (.inr (ilt_iff.2 h))

theorem less_irr : ∀ l : List UInt8, Op.bytesLess l l = false
  | [] => rfl
  | x :: l => by simp [Op.bytesLess, less_irr l]
theorem less_tr : ∀ {a b c : List UInt8}, Op.bytesLess a b = true → Op.bytesLess b c = true → Op.bytesLess a c = true
  | [], [], c, h, _ => by simp [Op.bytesLess] at h
  | [], _ :: _, [], _, h => by simp [Op.bytesLess] at h
  | [], _ :: _, _ :: _, _, _ => by simp [Op.bytesLess]
  | _ :: _, [], c, h, _ => by simp [Op.bytesLess] at h
  | _ :: _, _ :: _, [], _, h => by simp [Op.bytesLess] at h
  | x :: a, y :: b, z :: c, h1, h2 => by
    simp only [Op.bytesLess, Bool.or_eq_true, decide_eq_true_eq, Bool.and_eq_true, beq_iff_eq] at h1 h2 ⊢
    rcases h1 with h1 | ⟨rfl, h1⟩
    · rcases h2 with h2 | ⟨rfl, h2⟩
      · exact .inl (UInt8.lt_trans h1 h2)
      · exact .inl h1
    · rcases h2 with h2 | ⟨rfl, h2⟩
      · exact .inl h2
      · exact .inr ⟨rfl, less_tr h1 h2⟩
theorem less_trich : ∀ (a b : List UInt8), a = b ∨ Op.bytesLess a b = true ∨ Op.bytesLess b a = true
  | [], [] => .inl rfl
  | [], _ :: _ => .inr (.inl (by simp [Op.bytesLess]))
  | _ :: _, [] => .inr (.inr (by simp [Op.bytesLess]))
  | x :: a, y :: b => by
    simp only [Op.bytesLess, Bool.or_eq_true, decide_eq_true_eq, Bool.and_eq_true, beq_iff_eq]
    rcases Nat.lt_trichotomy x.toNat y.toNat with h | h | h
    · exact .inr (.inl (.inl (UInt8.lt_iff_toNat_lt.2 h)))
    · have : x = y := UInt8.toNat_inj.1 h
      subst this
      rcases less_trich a b with h | h | h
      · exact .inl (by rw [h])
      · exact .inr (.inl (.inr ⟨rfl, h⟩))
      · exact .inr (.inr (.inr ⟨rfl, h⟩))
    · exact .inr (.inr (.inl (UInt8.lt_iff_toNat_lt.2 h)))

theorem strictS : StrictB slt where
  irr := fun a => less_irr _
  tr := fun a b c h1 h2 => less_tr h1 h2
  tri := fun a b => by
    rcases less_trich a.toList b.toList with h | h | h
    · exact .inl ((seq_iff a b).1 (by simp [seq, h]))
    · exact .inr (.inl h)
    · exact .inr (.inr h)

theorem ilt_not {a b : Int} (h : ilt a b = true) : ilt b a = false := ilt_false.2 (by have := ilt_iff.1 h; omega)
theorem slt_not {a b : ByteArray} (h : slt a b = true) : slt b a = false := by
  cases e : slt b a with
  | false => rfl
  | true => have := strictS.tr _ _ _ h e; rw [strictS.irr] at this; cases this

def cmpI (a b : Int) : Int := bif ilt a b then -1 else bif ilt b a then 1 else 0
def cmpS (a b : ByteArray) : Int := bif slt a b then -1 else bif !(slt a b || seq a b) then 1 else 0
theorem cmpI_lt (a b : Int) : ilt (cmpI a b) 0 = ilt a b := by
  unfold cmpI
  cases ilt a b <;> cases ilt b a <;> rfl
theorem cmpI_eq (a b : Int) : ieq (cmpI a b) 0 = ieq a b := by
  unfold cmpI
  rcases strictI.tri a b with h | h | h
  · subst h; rw [strictI.irr]; simp only [cond_false]; rw [ieq_iff.2 rfl, ieq_iff.2 rfl]
  · rw [h]; simp only [cond_true]
    have h2 := ilt_iff.1 h
    cases e : ieq a b with
    | false => rfl
    | true => have := ieq_iff.1 e; omega
  · rw [h, ilt_not h]; simp only [cond_true, cond_false]
    have h2 := ilt_iff.1 h
    cases e : ieq a b with
    | false => rfl
    | true => have := ieq_iff.1 e; omega
theorem cmpS_lt (a b : ByteArray) : ilt (cmpS a b) 0 = slt a b := by
  unfold cmpS
  cases slt a b <;> cases seq a b <;> rfl
theorem cmpS_eq (a b : ByteArray) : ieq (cmpS a b) 0 = seq a b := by
  unfold cmpS
  cases e : seq a b with
  | true =>
    have := (seq_iff a b).1 e
    subst this
    rw [strictS.irr]; rfl
  | false => cases slt a b <;> rfl

theorem iaddN {a b : Nat} (h : a + b ≤ 9223372036854775807) : iadd .i64 (a : Int) (b : Int) = ((a + b : Nat) : Int) := by
  rw [iadd_i64 (by omega)]; simp
theorem ishr_half (a : Nat) : ishr .u64 (a : Int) (1 : Int) = ((a / 2 : Nat) : Int) := by
  show Int.fdiv _ _ = _
  rw [Int.fdiv_eq_ediv_of_nonneg _ (by decide)]
  simp [IntKind.bits]
theorem half_at {lo hi : Nat} (h : lo + hi ≤ 9223372036854775807) : IntKind.wrap .i64 (ishr .u64 (IntKind.wrap .u64 (iadd .i64 (lo : Int) (hi : Int))) (1 : Int)) = (((lo + hi) / 2 : Nat) : Int) := by
  rw [iaddN h, wrap_u64, Int.emod_eq_of_lt (by omega) (by omega), ishr_half, wrap_i64 _ (by omega)]

end Go.Proofs.Ytogmfilmfkepfaa
