/- Disks: which are good, on both sides. -/
import Derived.Test.YthlnjkcpdkjipaaDoorR15Fns
import Derived.Test.YthlnjkcpdkjipaaDoorUMid
set_option linter.all false
noncomputable section
namespace Go.Proofs.YthlnjkcpdkjipaaDoor
open Go Go.Proofs.YthlnjkcpdkjipaaDoor.Ev

theorem Does.is {α : Type} {o : Option α} {x : α} (h : Does o fun r => r = x) : o = some x := by
  obtain ⟨r, h1, h2⟩ := h; rw [h1, h2]

theorem upto_step {α : Type} {P : Nat → α → Prop} {l : List α} {j : Nat} {y : α} (h : ∀ i x, i < j → l[i]? = some x → P i x) (hy : l[j]? = some y) (hp : P j y) : ∀ i x, i < j + 1 → l[i]? = some x → P i x := by
  intro i x hi hx
  rcases Nat.lt_or_ge i j with h1 | h1
  · exact h i x h1 hx
  · have : i = j := by omega
    subst this
    rw [hy] at hx
    injection hx with hx
    subst hx
    exact hp
theorem upto_all {α : Type} {P : Nat → α → Prop} {l : List α} {j : Nat} (hj : l.length ≤ j) (h : ∀ i x, i < j → l[i]? = some x → P i x) : ∀ i x, l[i]? = some x → P i x := by
  intro i x hx
  exact h i x (by have := (List.getElem?_eq_some_iff.1 hx).1; omega) hx

def inR (n lo hi : Int) : Bool := cond (ile lo n) (ile n hi) false
theorem inR_iff {n lo hi : Int} : inR n lo hi = true ↔ lo ≤ n ∧ n ≤ hi := by
  unfold inR
  cases h : ile lo n with
  | true => rw [cond_true, ile_iff]; exact ⟨fun h2 => ⟨ile_iff.1 h, h2⟩, fun h2 => h2.2⟩
  | false => rw [cond_false]; have := ile_false.1 h; exact ⟨(fun h => by cases h), fun h => by omega⟩
theorem val_f_impl_in (x : Int × Int × Int × Unit) : f_impl_in x = some ((inR x.1 x.2.1 x.2.2.1, ()), ()) := by
  simp only [f_impl_in, inR]
  cases ile x.2.1 x.1 <;> rfl
theorem val_f_spec_l1In (x : Int × Int × Int × Unit) : f_spec_l1In x = some ((inR x.1 x.2.1 x.2.2.1, ()), ()) := by
  simp only [f_spec_l1In, inR]
  cases ile x.2.1 x.1 <;> rfl

/-! ### names of files -/
def signB (b : UInt8) : Bool := (ile 97 b.toNat && ile b.toNat 122) || ((ile 48 b.toNat && ile b.toNat 57) || ieq b.toNat 46)
def nameB (s : ByteArray) : Bool := s.data.toList.all signB && inR (slen s) 1 12

theorem sign_tree {α : Type} (A B C D E : Bool) (x y : α) : (cond A (cond B x (cond C (cond D x (cond (!E) y x)) (cond (!E) y x))) (cond C (cond D x (cond (!E) y x)) (cond (!E) y x))) = cond ((A && B) || ((C && D) || E)) x y := by
  cases A <;> cases B <;> cases C <;> cases D <;> cases E <;> rfl

theorem byte_at {s : ByteArray} {j : Nat} {b : UInt8} (h : s[j]? = some b) : s.data.toList[j]? = some b := by
  rw [getElem?_def] at h
  split at h
  · rename_i hlt
    injection h with h
    subst h
    rw [Array.getElem?_toList]
    exact Array.getElem?_eq_getElem hlt
  · cases h

theorem f_spec_l1NameVal (s : ByteArray) (hs : s.size ≤ 9223372036854775807) : f_spec_l1Name (s, ()) = some ((nameB s, ()), ()) := by
  refine Does.is ?_
  unfold f_spec_l1Name
  refine Does.loop (c := f_spec_l1Name_l2c) (v := f_spec_l1Name_l2v) (ex := f_spec_l1Name_l2e)
    (fun (xc : (ByteArray × Unit) × Unit) (xv : (Int × Unit) × Unit) => xc = ((s, ()), ()) ∧ ∃ j : Nat, xv = (((j : Int), ()), ()) ∧ j ≤ s.size ∧ ∀ i b, i < j → s.data.toList[i]? = some b → signB b = true)
    (fun _ (xv : (Int × Unit) × Unit) => s.size - Int.toNat xv.1.1) ?_ ⟨rfl, 0, rfl, by omega, fun i x h => by omega⟩
  rintro xc xv ⟨rfl, j, rfl, hj, hb⟩
  simp only [round, f_spec_l1Name_l2]
  refine Does.cond (fun hlt => ?_) (fun hlt => ?_)
  · have hlt := ilt_iff.1 hlt
    simp only [slen] at hlt
    refine Does.getB (by omega) (by omega) fun b hy => ?_
    rw [Int.toNat_natCast] at hy
    have hy := byte_at hy
    rw [sign_tree]
    refine Does.cond (fun h1 => Does.val ?_) (fun h1 => Does.val (Does.val ?_))
    · rw [iadd_i64 (by omega)]
      exact ⟨⟨rfl, j + 1, rfl, by omega, upto_step (P := fun _ x => signB x = true) hb hy h1⟩, by dsimp only; omega⟩
    · have : nameB s = false := by
        unfold nameB
        rw [List.all_eq_false.2 ⟨b, List.mem_of_getElem? hy, by rw [show signB b = false from h1]; simp⟩]
        rfl
      rw [this]
  · have hlt := ilt_false.1 hlt
    simp only [slen] at hlt
    refine Does.val ?_
    dsimp only
    rw [val_f_spec_l1In]
    refine Does.val ?_
    have : s.data.toList.all signB = true := List.all_eq_true.2 fun b hb' => by
      obtain ⟨i, hi⟩ := List.getElem?_of_mem hb'
      exact hb i b (by have := (List.getElem?_eq_some_iff.1 hi).1; have e : s.data.toList.length = s.size := rfl; omega) hi
    unfold nameB
    rw [this]
    rfl

/-- nothing but signs -/
theorem dropWhile_nil {α : Type} (p : α → Bool) : ∀ l : List α, l.dropWhile p = [] ↔ l.all p = true
  | [] => by simp
  | a :: l => by
    cases h : p a with
    | true => simp only [List.dropWhile, h, List.all_cons, Bool.true_and]; exact dropWhile_nil p l
    | false => simp [List.dropWhile, h]
theorem dropWhile_head {α : Type} (p : α → Bool) : ∀ (l : List α) (a : α) (r : List α), l.dropWhile p = a :: r → p a = false
  | [], a, r, h => by simp at h
  | b :: l, a, r, h => by
    cases hb : p b with
    | true => rw [List.dropWhile, hb] at h; exact dropWhile_head p l a r h
    | false => rw [List.dropWhile, hb] at h; injection h with h1 h2; rw [← h1]; exact hb
theorem trimS_nil (l cs : List UInt8) : Lib.trimS l cs = [] ↔ l.all (cs.contains ·) = true := by
  unfold Lib.trimS Lib.trimLeftS Lib.trimRightS
  rw [dropWhile_nil]
  constructor
  · intro h
    cases hd : l.reverse.dropWhile (cs.contains ·) with
    | nil =>
      have := (dropWhile_nil _ _).1 hd
      rw [List.all_reverse] at this
      exact this
    | cons a r =>
      have h1 := dropWhile_head _ _ _ _ hd
      rw [hd, List.all_reverse, List.all_cons, h1] at h
      cases h
  · intro h
    have : l.reverse.dropWhile (cs.contains ·) = [] := (dropWhile_nil _ _).2 (by rw [List.all_reverse]; exact h)
    rw [this]
    rfl

abbrev signs : ByteArray := ⟨#[97, 98, 99, 100, 101, 102, 103, 104, 105, 106, 107, 108, 109, 110, 111, 112, 113, 114, 115, 116, 117, 118, 119, 120, 121, 122, 48, 49, 50, 51, 52, 53, 54, 55, 56, 57, 46]⟩
theorem signs_have (b : UInt8) : signs.data.toList.contains b = signB b := by
  have h : ∀ n : Fin 256, signs.data.toList.contains (UInt8.ofNat n.1) = signB (UInt8.ofNat n.1) := by decide +kernel
  have := h ⟨b.toNat, b.toNat_lt⟩
  simpa using this

theorem f_impl_isFileNameVal (s : ByteArray) : f_impl_isFileName (s, ()) = some ((nameB s, ()), ()) := by
  unfold f_impl_isFileName
  rw [val_f_impl_in, bnd_some]
  dsimp only
  unfold nameB
  cases h : inR (slen s) 1 12 with
  | false => rw [cond_false, Bool.and_false]
  | true =>
    have hl := (inR_iff.1 h).2
    simp only [slen] at hl
    have ht : f_strings_Trim (s, (signs, ())) = some ((trimB s signs, ()), ()) := by
      unfold f_strings_Trim
      rw [show (decide ((s, (signs, ())).1.size ≤ 9223372036854775807) && (decide (2 ≤ (s, (signs, ())).2.1.size ∧ (s, (signs, ())).2.1.size < 4294967281) && (s, (signs, ())).2.1.data.toList.all fun b => decide (b.toNat < 128))) = true by
        rw [decide_eq_true (show s.size ≤ 9223372036854775807 by omega)]; exact (show (true && (decide (2 ≤ signs.size ∧ signs.size < 4294967281) && signs.data.toList.all fun b => decide (b.toNat < 128))) = true by decide)]
      rfl
    rw [cond_true, ht, bnd_some, Bool.and_true]
    have e : seq (trimB s signs) (⟨#[]⟩ : ByteArray) = s.data.toList.all signB := by
      rw [Bool.eq_iff_iff, seq_iff]
      have h2 := trimS_nil s.data.toList signs.data.toList
      have h3 : s.data.toList.all (signs.data.toList.contains ·) = s.data.toList.all signB := by
        congr 1; funext b; exact signs_have b
      rw [h3] at h2
      rw [← h2]
      unfold trimB
      constructor
      · intro h
        have := congrArg (fun x : ByteArray => x.data.toList) h
        simpa using this
      · intro h
        rw [h]
    rw [e]

/-! ### lists of names -/
def NamesOk (nb : Int) (l : List DBlob) : Prop :=
  (∀ i x, l[i]? = some x → nameB x.1 = true ∧ inR x.2.1 0 (isub .i64 nb (1 : Int)) = true ∧ ∀ y, 0 < i → l[i - 1]? = some y → slt y.1 x.1 = true) ∧ l.length ≤ 20

/-- names of any size are counted as bytes -/
abbrev SizesOk (l : List DBlob) : Prop := ∀ x ∈ l, x.1.size ≤ 9223372036854775807

theorem f_spec_l1NamesDoes (l : List DBlob) (nb : Int) (hl : l.length ≤ 4611686018427387904) (hz : SizesOk l) : Does (f_spec_l1Names (l, (nb, ()))) fun r => (r.1.1 = true ↔ NamesOk nb l) := by
  unfold f_spec_l1Names
  refine Does.loop (c := f_spec_l1Names_l2c) (v := f_spec_l1Names_l2v) (ex := f_spec_l1Names_l2e)
    (fun (xc : ((List DBlob) × Int × (List DBlob) × Int × Unit) × Unit) (xv : (Int × Unit) × Unit) => xc = ((l, (nb, (l, (llen l, ())))), ()) ∧ ∃ j : Nat, xv = (((j : Int), ()), ()) ∧ j ≤ l.length ∧
      ∀ i x, i < j → l[i]? = some x → nameB x.1 = true ∧ inR x.2.1 0 (isub .i64 nb (1 : Int)) = true ∧ ∀ y, 0 < i → l[i - 1]? = some y → slt y.1 x.1 = true)
    (fun _ (xv : (Int × Unit) × Unit) => l.length - Int.toNat xv.1.1) ?_ ⟨rfl, 0, rfl, by omega, fun i x h => by omega⟩
  rintro xc xv ⟨rfl, j, rfl, hj, hb⟩
  simp only [round, f_spec_l1Names_l2]
  refine Does.cond (fun hlt => ?_) (fun hlt => ?_)
  · have hlt := ilt_iff.1 hlt
    simp only [llen] at hlt
    refine Does.getO (by omega) (by omega) fun x hx => ?_
    rw [Int.toNat_natCast] at hx
    rw [f_spec_l1NameVal _ (hz x (List.mem_of_getElem? hx)), bnd_some]
    dsimp only
    have bad : ¬ (nameB x.1 = true ∧ inR x.2.1 0 (isub .i64 nb (1 : Int)) = true ∧ ∀ y, 0 < j → l[j - 1]? = some y → slt y.1 x.1 = true) → Does (some ((false, ()), ()) : Option ((Bool × Unit) × Unit)) fun r => (r.1.1 = true ↔ NamesOk nb l) := fun h => Does.val ⟨(fun h => by cases h), fun h2 => absurd (h2.1 j x hx) h⟩
    have next : (nameB x.1 = true ∧ inR x.2.1 0 (isub .i64 nb (1 : Int)) = true ∧ ∀ y, 0 < j → l[j - 1]? = some y → slt y.1 x.1 = true) →
        (((l, (nb, (l, (llen l, ())))), ()) = ((l, (nb, (l, (llen l, ())))), ()) ∧ ∃ k : Nat, (((iadd .i64 (j : Int) (1 : Int)), ()), ()) = (((k : Int), ()), ()) ∧ k ≤ l.length ∧
          ∀ i x, i < k → l[i]? = some x → nameB x.1 = true ∧ inR x.2.1 0 (isub .i64 nb (1 : Int)) = true ∧ ∀ y, 0 < i → l[i - 1]? = some y → slt y.1 x.1 = true) ∧ l.length - Int.toNat (iadd .i64 (j : Int) (1 : Int)) < l.length - Int.toNat (j : Int) := fun h => by
      rw [iadd_i64 (by omega)]
      exact ⟨⟨rfl, j + 1, rfl, by omega, upto_step (P := fun i x => nameB x.1 = true ∧ inR x.2.1 0 (isub .i64 nb (1 : Int)) = true ∧ ∀ y, 0 < i → l[i - 1]? = some y → slt y.1 x.1 = true) hb hx h⟩, by omega⟩
    refine Does.cond (fun h1 => Does.val (bad fun h => by rw [h.1] at h1; cases h1)) (fun h1 => ?_)
    rw [val_f_spec_l1In, bnd_some]
    dsimp only
    refine Does.cond (fun h2 => Does.val (bad fun h => by rw [h.2.1] at h2; cases h2)) (fun h2 => ?_)
    have h1 : nameB x.1 = true := by simpa using h1
    have h2 : inR x.2.1 0 (isub .i64 nb (1 : Int)) = true := by simpa using h2
    refine Does.cond (fun h3 => ?_) (fun h3 => Does.val (next ⟨h1, h2, fun y h => ?_⟩))
    · have h3 := ilt_iff.1 h3
      have e : isub .i64 (j : Int) (1 : Int) = ((j - 1 : Nat) : Int) := by rw [isub_i64 (by omega)]; omega
      rw [e]
      refine Does.getO (by omega) (by omega) fun y hy => ?_
      rw [Int.toNat_natCast] at hy
      refine Does.cond (fun h4 => Does.val (bad fun h => by rw [h.2.2 y (by omega) hy] at h4; cases h4)) (fun h4 => Does.val (next ⟨h1, h2, fun z _ hz => ?_⟩))
      rw [hy] at hz
      injection hz with hz
      subst hz
      simpa using h4
    · have h3 := ilt_false.1 h3
      omega
  · have hlt := ilt_false.1 hlt
    simp only [llen] at hlt
    refine Does.val (Does.val ?_)
    have hall := upto_all (P := fun i x => nameB x.1 = true ∧ inR x.2.1 0 (isub .i64 nb (1 : Int)) = true ∧ ∀ y, 0 < i → l[i - 1]? = some y → slt y.1 x.1 = true) (show l.length ≤ j by omega) hb
    rw [ile_iff]
    simp only [llen]
    exact ⟨fun h => ⟨hall, by omega⟩, fun h => by have := h.2; omega⟩

theorem f_impl_namesOkDoes (d : DDisk) (l : List DBlob) (hl : l.length ≤ 4611686018427387904) : Does (f_impl_Disk_namesOk_r (d, (l, ()))) fun r => (r.1.1 = true ↔ NamesOk (llen d.1) l) := by
  unfold f_impl_Disk_namesOk_r
  refine Does.loop (c := f_impl_Disk_namesOk_r_l2c) (v := f_impl_Disk_namesOk_r_l2v) (ex := f_impl_Disk_namesOk_r_l2e)
    (fun (xc : (DDisk × (List DBlob) × (List DBlob) × Int × Unit) × Unit) (xv : (Int × Unit) × Unit) => xc = ((d, (l, (l, (llen l, ())))), ()) ∧ ∃ j : Nat, xv = (((j : Int), ()), ()) ∧ j ≤ l.length ∧
      ∀ i x, i < j → l[i]? = some x → nameB x.1 = true ∧ inR x.2.1 0 (isub .i64 (llen d.1) (1 : Int)) = true ∧ ∀ y, 0 < i → l[i - 1]? = some y → slt y.1 x.1 = true)
    (fun _ (xv : (Int × Unit) × Unit) => l.length - Int.toNat xv.1.1) ?_ ⟨rfl, 0, rfl, by omega, fun i x h => by omega⟩
  rintro xc xv ⟨rfl, j, rfl, hj, hb⟩
  simp only [round, f_impl_Disk_namesOk_r_l2]
  refine Does.cond (fun hlt => ?_) (fun hlt => ?_)
  · have hlt := ilt_iff.1 hlt
    simp only [llen] at hlt
    refine Does.getO (by omega) (by omega) fun x hx => ?_
    rw [Int.toNat_natCast] at hx
    rw [f_impl_isFileNameVal, bnd_some]
    dsimp only
    have bad : ¬ (nameB x.1 = true ∧ inR x.2.1 0 (isub .i64 (llen d.1) (1 : Int)) = true ∧ ∀ y, 0 < j → l[j - 1]? = some y → slt y.1 x.1 = true) → Does (some ((false, ()), ()) : Option ((Bool × Unit) × Unit)) fun r => (r.1.1 = true ↔ NamesOk (llen d.1) l) := fun h => Does.val ⟨(fun h => by cases h), fun h2 => absurd (h2.1 j x hx) h⟩
    have next : (nameB x.1 = true ∧ inR x.2.1 0 (isub .i64 (llen d.1) (1 : Int)) = true ∧ ∀ y, 0 < j → l[j - 1]? = some y → slt y.1 x.1 = true) →
        (((d, (l, (l, (llen l, ())))), ()) = ((d, (l, (l, (llen l, ())))), ()) ∧ ∃ k : Nat, (((iadd .i64 (j : Int) (1 : Int)), ()), ()) = (((k : Int), ()), ()) ∧ k ≤ l.length ∧
          ∀ i x, i < k → l[i]? = some x → nameB x.1 = true ∧ inR x.2.1 0 (isub .i64 (llen d.1) (1 : Int)) = true ∧ ∀ y, 0 < i → l[i - 1]? = some y → slt y.1 x.1 = true) ∧ l.length - Int.toNat (iadd .i64 (j : Int) (1 : Int)) < l.length - Int.toNat (j : Int) := fun h => by
      rw [iadd_i64 (by omega)]
      exact ⟨⟨rfl, j + 1, rfl, by omega, upto_step (P := fun i x => nameB x.1 = true ∧ inR x.2.1 0 (isub .i64 (llen d.1) (1 : Int)) = true ∧ ∀ y, 0 < i → l[i - 1]? = some y → slt y.1 x.1 = true) hb hx h⟩, by omega⟩
    refine Does.cond (fun h1 => Does.val (bad fun h => by rw [h.1] at h1; cases h1)) (fun h1 => ?_)
    rw [val_f_impl_in, bnd_some]
    dsimp only
    refine Does.cond (fun h2 => Does.val (bad fun h => by rw [h.2.1] at h2; cases h2)) (fun h2 => ?_)
    have h1 : nameB x.1 = true := by simpa using h1
    have h2 : inR x.2.1 0 (isub .i64 (llen d.1) (1 : Int)) = true := by simpa using h2
    refine Does.cond (fun h3 => ?_) (fun h3 => Does.val (next ⟨h1, h2, fun y h => ?_⟩))
    · have h3 := ilt_iff.1 h3
      have e : isub .i64 (j : Int) (1 : Int) = ((j - 1 : Nat) : Int) := by rw [isub_i64 (by omega)]; omega
      rw [e]
      refine Does.getO (by omega) (by omega) fun y hy => ?_
      rw [Int.toNat_natCast] at hy
      refine Does.cond (fun h4 => Does.val (bad fun h => by rw [h.2.2 y (by omega) hy] at h4; cases h4)) (fun h4 => Does.val (next ⟨h1, h2, fun z _ hz => ?_⟩))
      rw [hy] at hz
      injection hz with hz
      subst hz
      simpa using h4
    · have h3 := ilt_false.1 h3
      omega
  · have hlt := ilt_false.1 hlt
    simp only [llen] at hlt
    refine Does.val (Does.val ?_)
    have hall := upto_all (P := fun i x => nameB x.1 = true ∧ inR x.2.1 0 (isub .i64 (llen d.1) (1 : Int)) = true ∧ ∀ y, 0 < i → l[i - 1]? = some y → slt y.1 x.1 = true) (show l.length ≤ j by omega) hb
    rw [ile_iff]
    simp only [llen]
    exact ⟨fun h => ⟨hall, by omega⟩, fun h => by have := h.2; omega⟩

end Go.Proofs.YthlnjkcpdkjipaaDoor
