/- Disks: good on both sides; lists of names. -/
import Derived.Test.YthlnjkcpdkjipaaDoorX2Used
import Derived.Test.YthlnjkcpdkjipaaDoorXKind
set_option linter.all false
noncomputable section
namespace Go.Proofs.YthlnjkcpdkjipaaDoor
open Go Go.Proofs.YthlnjkcpdkjipaaDoor.Ev

/-! ### good disks -/
abbrev LenOk (d : DDisk) : Prop := d.1.length ≤ 17179869184 ∧ d.2.1.length ≤ 17179869184 ∧ d.2.2.1.length ≤ 17179869184 ∧ SizesOk d.2.1 ∧ SizesOk d.2.2.1

theorem f_spec_GoodDiskDoes (d : DDisk) (hd : LenOk d) : Does (f_spec_GoodDisk (d, ())) fun r => (r.1.1 = true ↔ GoodD d) := by
  obtain ⟨hl0, hl1, hl2, hz1, hz2⟩ := hd
  unfold f_spec_GoodDisk
  refine Does.loop (c := f_spec_GoodDisk_l2c) (v := f_spec_GoodDisk_l2v) (ex := f_spec_GoodDisk_l2e)
    (fun (xc : ((List DBlob) × Int × Unit) × (DDisk × Unit)) (xv : (Int × Unit) × Unit) => xc = ((d.1, (llen d.1, ())), (d, ())) ∧ ∃ j : Nat, xv = (((j : Int), ()), ()) ∧ j ≤ d.1.length ∧
      ∀ (i : Nat) (x : DBlob), i < j → d.1[i]? = some x → slen x.1 ≤ 4000 ∧ inR x.2.1 0 (slen x.1) = true)
    (fun _ (xv : (Int × Unit) × Unit) => d.1.length - Int.toNat xv.1.1) ?_ ⟨rfl, 0, rfl, by omega, fun i x h => by omega⟩
  rintro xc xv ⟨rfl, j, rfl, hj, hb⟩
  simp only [round, f_spec_GoodDisk_l2]
  refine Does.cond (fun hlt => ?_) (fun hlt => ?_)
  · have hlt := ilt_iff.1 hlt
    simp only [llen] at hlt
    refine Does.getO (by omega) (by omega) fun x hx => ?_
    rw [Int.toNat_natCast] at hx
    have bad : ¬ (slen x.1 ≤ 4000 ∧ inR x.2.1 0 (slen x.1) = true) → Does (some ((false, ()), ()) : Option ((Bool × Unit) × Unit)) fun r => (r.1.1 = true ↔ GoodD d) := fun h => Does.val ⟨(fun h => by cases h), fun h2 => absurd (h2.1 j x hx) h⟩
    refine Does.cond (fun h1 => Does.val (bad fun h => by have := ilt_iff.1 h1; omega)) (fun h1 => ?_)
    rw [val_f_spec_l1In, bnd_some]
    dsimp only
    refine Does.cond (fun h2 => Does.val (bad fun h => by rw [h.2] at h2; cases h2)) (fun h2 => Does.val ?_)
    rw [iadd_i64 (by omega)]
    exact ⟨⟨rfl, j + 1, rfl, by omega, upto_step (P := fun _ x => slen x.1 ≤ 4000 ∧ inR x.2.1 0 (slen x.1) = true) hb hx ⟨ilt_false.1 h1, by simpa using h2⟩⟩, by dsimp only; omega⟩
  · have hlt := ilt_false.1 hlt
    simp only [llen] at hlt
    have hB : BlobsOk d.1 := upto_all (P := fun _ (x : DBlob) => slen x.1 ≤ 4000 ∧ inR x.2.1 0 (slen x.1) = true) (by omega) hb
    refine Does.val ?_
    dsimp only
    refine Does.cond (fun h1 => ?_) (fun h1 => Does.val ⟨(fun h => by cases h), fun h => by have := ile_false.1 h1; simp only [llen] at this; have := h.2.1; omega⟩)
    have h1 := ile_iff.1 h1
    simp only [llen] at h1
    refine Does.bnd (f_spec_l1NamesDoes d.2.1 (llen d.1) (by omega) hz1) fun r7 hr7 => ?_
    refine Does.cond (fun h2 => ?_) (fun h2 => Does.val ⟨(fun h => by cases h), fun h => by rw [hr7.2 h.2.2.1] at h2; cases h2⟩)
    have h2 := hr7.1 h2
    refine Does.bnd (f_spec_l1NamesDoes d.2.2.1 (llen d.1) (by omega) hz2) fun r8 hr8 => ?_
    refine Does.cond (fun h3 => ?_) (fun h3 => Does.val ⟨(fun h => by cases h), fun h => by rw [hr8.2 h.2.2.2.1] at h3; cases h3⟩)
    have h3 := hr8.1 h3
    rw [val_f_spec_l1In, bnd_some]
    dsimp only
    refine Does.cond (fun h4 => ?_) (fun h4 => Does.val ⟨(fun h => by cases h), fun h => by rw [h.2.2.2.2.1] at h4; cases h4⟩)
    rw [f_spec_l1UsedVal d hB (by omega) h2.2 h3.2, bnd_some]
    refine Does.val ?_
    dsimp only
    rw [ile_iff]
    exact ⟨fun h => ⟨hB, by omega, h2, h3, h4, h⟩, fun h => h.2.2.2.2.2⟩

theorem f_impl_GoodDisk_1Val (x : DBlob) : f_impl_GoodDisk_1 (x, ()) = some ((!(decide (slen x.1 ≤ 4000) && inR x.2.1 0 (slen x.1)), ()), ()) := by
  unfold f_impl_GoodDisk_1
  rw [val_f_impl_in]
  dsimp only [bnd_some]
  cases h : ilt 4000 (slen x.1) with
  | true => rw [decide_eq_false (by have := ilt_iff.1 h; omega)]; rfl
  | false => rw [decide_eq_true (by have := ilt_false.1 h; omega)]; rfl

theorem indexFunc_Blob (l : List DBlob) (hl : l.length ≤ 4611686018427387904) (p : DBlob × Unit → Option (Bool × Unit)) (b : DBlob → Bool) (hp : ∀ x, p (x, ()) = some (b x, ())) :
    Does (f_slices_ContainsFunc_Blob (l, (p, ()))) fun r => (r.1.1 = true ↔ ∃ (i : Nat) (x : DBlob), l[i]? = some x ∧ b x = true) := by
  unfold f_slices_ContainsFunc_Blob f_slices_IndexFunc_Blob
  refine Does.bnd (P := fun r => (ile 0 r.1.1 = true ↔ ∃ (i : Nat) (x : DBlob), l[i]? = some x ∧ b x = true)) ?_ fun r hr => Does.val hr
  refine Does.loop (c := f_slices_IndexFunc_Blob_l2c) (v := f_slices_IndexFunc_Blob_l2v) (ex := f_slices_IndexFunc_Blob_l2e)
    (fun (xc : ((List DBlob) × ((DBlob × Unit) → Option (Bool × Unit)) × Int × Unit) × Unit) (xv : (Int × Unit) × Unit) => xc = ((l, (p, (llen l, ()))), ()) ∧ ∃ j : Nat, xv = (((j : Int), ()), ()) ∧ j ≤ l.length ∧ ∀ i x, i < j → l[i]? = some x → b x = false)
    (fun _ (xv : (Int × Unit) × Unit) => l.length - Int.toNat xv.1.1) ?_ ⟨rfl, 0, rfl, by omega, fun i x h => by omega⟩
  rintro xc xv ⟨rfl, j, rfl, hj, hb⟩
  simp only [round, f_slices_IndexFunc_Blob_l2]
  refine Does.cond (fun hlt => ?_) (fun hlt => ?_)
  · have hlt := ilt_iff.1 hlt
    simp only [llen] at hlt
    refine Does.getO (by omega) (by omega) fun y hy => ?_
    rw [Int.toNat_natCast] at hy
    rw [hp, bnd_some]
    refine Does.cond (fun h1 => Does.val (Does.val ?_)) (fun h1 => Does.val ?_)
    · exact ⟨fun _ => ⟨j, y, hy, h1⟩, fun _ => ile_iff.2 (show (0 : Int) ≤ (j : Int) by omega)⟩
    · rw [iadd_i64 (by omega)]
      exact ⟨⟨rfl, j + 1, rfl, by omega, upto_step (P := fun _ x => b x = false) hb hy h1⟩, by dsimp only; omega⟩
  · have hlt := ilt_false.1 hlt
    simp only [llen] at hlt
    refine Does.val (Does.val ⟨fun h => absurd h (by decide), fun ⟨i, x, hx, hbx⟩ => ?_⟩)
    rw [upto_all (P := fun _ x => b x = false) (by omega) hb i x hx] at hbx
    cases hbx

theorem f_impl_GoodDiskDoes (d : DDisk) (hd : LenOk d) : Does (f_impl_GoodDisk (d, ())) fun r => (r.1.1 = true ↔ GoodD d) := by
  obtain ⟨hl0, hl1, hl2, hz1, hz2⟩ := hd
  unfold f_impl_GoodDisk
  refine Does.bnd (indexFunc_Blob d.1 (by omega) _ (fun x => !(decide (slen x.1 ≤ 4000) && inR x.2.1 0 (slen x.1))) (fun x => by dsimp only; rw [f_impl_GoodDisk_1Val]; rfl)) fun r1 hr1 => ?_
  refine Does.cond (fun h1 => Does.val ⟨(fun h => by cases h), fun h => by have := ilt_iff.1 h1; simp only [llen] at this; have := h.2.1; omega⟩) (fun h1 => ?_)
  have h1 := ilt_false.1 h1
  simp only [llen] at h1
  refine Does.cond (fun h2 => Does.val ⟨(fun h => by cases h), fun h => ?_⟩) (fun h2 => ?_)
  · obtain ⟨i, x, hx, hb⟩ := hr1.1 h2
    have := h.1 i x hx
    rw [decide_eq_true this.1, this.2] at hb
    cases hb
  have hB : BlobsOk d.1 := fun i x hx => by
    cases hd : decide (slen x.1 ≤ 4000) && inR x.2.1 0 (slen x.1) with
    | true => rw [Bool.and_eq_true] at hd; exact ⟨of_decide_eq_true hd.1, hd.2⟩
    | false =>
      have := hr1.2 ⟨i, x, hx, by rw [hd]; rfl⟩
      rw [this] at h2; cases h2
  rw [val_f_impl_in, bnd_some]
  dsimp only
  refine Does.cond (fun h3 => Does.val ⟨(fun h => by cases h), fun h => by rw [h.2.2.2.2.1] at h3; cases h3⟩) (fun h3 => ?_)
  refine Does.bnd (f_impl_namesOkDoes d d.2.1 (by omega)) fun r7 hr7 => ?_
  refine Does.cond (fun h4 => ?_) (fun h4 => Does.val ⟨(fun h => by cases h), fun h => by rw [hr7.2 h.2.2.1] at h4; cases h4⟩)
  have h4 := hr7.1 h4
  refine Does.bnd (f_impl_namesOkDoes d d.2.2.1 (by omega)) fun r8 hr8 => ?_
  refine Does.cond (fun h5 => ?_) (fun h5 => Does.val ⟨(fun h => by cases h), fun h => by rw [hr8.2 h.2.2.2.1] at h5; cases h5⟩)
  have h5 := hr8.1 h5
  rw [f_impl_usedVal d hB (by omega) h4 h5, bnd_some]
  refine Does.val ?_
  dsimp only
  rw [ile_iff]
  exact ⟨fun h => ⟨hB, by omega, h4, h5, by simpa using h3, h⟩, fun h => h.2.2.2.2.2⟩

open Classical in
/-- as a truth value -/
def goodB (d : DDisk) : Bool := decide (GoodD d)
theorem goodB_iff {d : DDisk} : goodB d = true ↔ GoodD d := by unfold goodB; simp
theorem f_spec_GoodDiskVal (d : DDisk) (hd : LenOk d) : f_spec_GoodDisk (d, ()) = some ((goodB d, ()), ()) := by
  refine Does.is ((f_spec_GoodDiskDoes d hd).mono ?_)
  rintro ⟨⟨b, ⟨⟩⟩, ⟨⟩⟩ h
  have : b = goodB d := by rw [Bool.eq_iff_iff, goodB_iff]; exact h
  rw [this]
theorem f_impl_GoodDiskVal (d : DDisk) (hd : LenOk d) : f_impl_GoodDisk (d, ()) = some ((goodB d, ()), ()) := by
  refine Does.is ((f_impl_GoodDiskDoes d hd).mono ?_)
  rintro ⟨⟨b, ⟨⟩⟩, ⟨⟩⟩ h
  have : b = goodB d := by rw [Bool.eq_iff_iff, goodB_iff]; exact h
  rw [this]

/-! ### the order of texts -/
theorem less_trans : ∀ {a b c : List UInt8}, Op.bytesLess a b = true → Op.bytesLess b c = true → Op.bytesLess a c = true
  | [], [], c, h, _ => by simp [Op.bytesLess] at h
  | [], _ :: _, [], _, h => by simp [Op.bytesLess] at h
  | [], _ :: _, _ :: _, _, _ => by simp [Op.bytesLess]
  | _ :: _, [], c, h, _ => by simp [Op.bytesLess] at h
  | _ :: _, _ :: _, [], _, h => by simp [Op.bytesLess] at h
  | x :: a, y :: b, z :: c, h1, h2 => by
    have ih := @less_trans a b c
    simp only [Op.bytesLess, Bool.or_eq_true, decide_eq_true_eq, Bool.and_eq_true, beq_iff_eq] at h1 h2 ⊢
    rcases h1 with h1 | ⟨h1, h1'⟩ <;> rcases h2 with h2 | ⟨h2, h2'⟩
    · exact .inl (UInt8.lt_trans h1 h2)
    · subst h2; exact .inl h1
    · subst h1; exact .inl h2
    · subst h1; subst h2; exact .inr ⟨rfl, ih h1' h2'⟩
theorem slt_trans {a b c : ByteArray} (h1 : slt a b = true) (h2 : slt b c = true) : slt a c = true := less_trans h1 h2
theorem slt_irrefl (a : ByteArray) : slt a a = false := by
  have : ∀ l : List UInt8, Op.bytesLess l l = false := by
    intro l
    induction l with
    | nil => rfl
    | cons x l ih => simp [Op.bytesLess, ih]
  exact this _

/-- names rise -/
def Rise : List DBlob → Prop
  | [] => True
  | x :: l => (∀ y ∈ l, slt x.1 y.1 = true) ∧ Rise l
theorem rise_of {l : List DBlob} (h : ∀ (i : Nat) (x y : DBlob), l[i + 1]? = some x → l[i]? = some y → slt y.1 x.1 = true) : Rise l := by
  induction l with
  | nil => trivial
  | cons x l ih =>
    have hr := ih fun i x y h1 h2 => h (i + 1) x y (by simpa using h1) (by simpa using h2)
    refine ⟨fun y hy => ?_, hr⟩
    cases l with
    | nil => cases hy
    | cons z l =>
      have hz := h 0 z x (by simp) (by simp)
      rcases List.mem_cons.1 hy with rfl | hy
      · exact hz
      · exact slt_trans hz (hr.1 y hy)
theorem NamesOk.rise {nb : Int} {l : List DBlob} (h : NamesOk nb l) : Rise l := rise_of fun i x y h1 h2 => (h.1 (i + 1) x h1).2.2 y (by omega) (by simpa using h2)

/-- names before n; the others -/
def loN (l : List DBlob) (n : ByteArray) : List DBlob := l.takeWhile fun y => slt y.1 n
def hiN (l : List DBlob) (n : ByteArray) : List DBlob := l.dropWhile fun y => slt y.1 n
theorem lohi (l : List DBlob) (n : ByteArray) : loN l n ++ hiN l n = l := List.takeWhile_append_dropWhile
theorem lo_lt {l : List DBlob} {n : ByteArray} : ∀ y ∈ loN l n, slt y.1 n = true := fun y hy => by
  have := List.all_takeWhile (p := fun y : DBlob => slt y.1 n) (l := l)
  exact List.all_eq_true.1 this y hy
theorem hi_head {l : List DBlob} {n : ByteArray} {y : DBlob} {r : List DBlob} (h : hiN l n = y :: r) : slt y.1 n = false := dropWhile_head (fun y : DBlob => slt y.1 n) l y r h
def hasN (l : List DBlob) (n : ByteArray) : Bool := match hiN l n with | y :: _ => seq y.1 n | [] => false
def blobN (l : List DBlob) (n : ByteArray) : Int := match hiN l n with | y :: _ => y.2.1 | [] => 0
def putN (l : List DBlob) (x : DBlob) : List DBlob := loN l x.1 ++ x :: (cond (hasN l x.1) (hiN l x.1).tail (hiN l x.1))
def cutN (l : List DBlob) (n : ByteArray) : List DBlob := cond (hasN l n) (loN l n ++ (hiN l n).tail) l
theorem hasN_split {l : List DBlob} {n : ByteArray} (h : hasN l n = true) : ∃ y r, hiN l n = y :: r ∧ y.1 = n ∧ l = loN l n ++ y :: r := by
  unfold hasN at h
  cases hh : hiN l n with
  | nil => rw [hh] at h; cases h
  | cons y r => rw [hh] at h; exact ⟨y, r, rfl, (seq_iff _ _).1 h, by rw [← hh]; exact (lohi l n).symm⟩

theorem f_spec_l1AtVal (l : List DBlob) (n : ByteArray) (hl : l.length ≤ 4611686018427387904) : f_spec_l1At (l, (n, ())) = some (((((loN l n).length : Nat) : Int), (hasN l n, ())), ()) := by
  refine Does.is ?_
  unfold f_spec_l1At
  refine Does.loop (c := f_spec_l1At_l2c) (v := f_spec_l1At_l2v) (ex := f_spec_l1At_l2e)
    (fun (xc : ((List DBlob) × ByteArray × Unit) × Unit) (xv : (Int × Unit) × Unit) => xc = ((l, (n, ())), ()) ∧ ∃ A B : List DBlob, xv = (((A.length : Int), ()), ()) ∧ l = A ++ B ∧ (∀ y ∈ A, slt y.1 n = true))
    (fun _ (xv : (Int × Unit) × Unit) => l.length - Int.toNat xv.1.1) ?_ ⟨rfl, [], l, rfl, rfl, fun y h => by cases h⟩
  rintro xc xv ⟨rfl, A, B, rfl, hl2, hA⟩
  have hlo : ∀ B : List DBlob, (∀ y ∈ A, slt y.1 n = true) → loN (A ++ B) n = A ++ loN B n := fun B h => List.takeWhile_append_of_pos h
  have hhi : ∀ B : List DBlob, (∀ y ∈ A, slt y.1 n = true) → hiN (A ++ B) n = hiN B n := fun B h => List.dropWhile_append_of_pos h
  simp only [round, f_spec_l1At_l2]
  cases B with
  | nil =>
    rw [List.append_nil] at hl2
    subst hl2
    have e0 : hiN l n = [] := by have := hhi [] hA; rw [List.append_nil] at this; rw [this]; rfl
    have e1 : loN l n = l := by have := hlo [] hA; rw [List.append_nil] at this; rw [this]; simp [loN]
    rw [show ilt ((l.length : Nat) : Int) (llen l) = false from ilt_false.2 (by simp only [llen]; omega), cond_false]
    refine Does.val ?_
    dsimp only
    rw [show ilt ((l.length : Nat) : Int) (llen l) = false from ilt_false.2 (by simp only [llen]; omega), cond_false]
    refine Does.val ?_
    unfold hasN
    rw [e0, e1]
  | cons y B =>
    subst hl2
    rw [mid_lt, cond_true, mid_getO]
    cases hy : slt y.1 n with
    | true =>
      rw [cond_true]
      refine Does.val ⟨⟨rfl, A ++ [y], B, ?_, by simp, fun z hz => ?_⟩, ?_⟩
      · dsimp only
        rw [mid_next A y (by have := hl; simp at this; omega)]
      · rcases List.mem_append.1 hz with hz | hz
        · exact hA z hz
        · rw [List.mem_singleton.1 hz]; exact hy
      · dsimp only
        rw [mid_next A y (by have := hl; simp at this; omega)]
        simp only [List.length_append, List.length_cons, List.length_nil, Int.toNat_natCast]
        omega
    | false =>
      rw [cond_false]
      refine Does.val ?_
      dsimp only
      rw [mid_lt, cond_true, mid_getO]
      refine Does.val ?_
      have e0 : hiN (A ++ y :: B) n = y :: B := by rw [hhi _ hA]; simp [hiN, List.dropWhile, hy]
      have e1 : loN (A ++ y :: B) n = A := by rw [hlo _ hA]; simp [loN, List.takeWhile, hy]
      unfold hasN
      rw [e0, e1]

/-- the place of a name that is there -/
theorem f_impl_nameAtVal (l : List DBlob) (n : ByteArray) (hl : l.length ≤ 4611686018427387904) (hr : Rise l) : f_impl_nameAt (l, (n, ())) = some ((cond (hasN l n) ((loN l n).length : Int) (-1), ()), ()) := by
  refine Does.is ?_
  unfold f_impl_nameAt f_slices_IndexFunc_Name
  refine Does.bnd (P := fun r => r.1.1 = cond (hasN l n) ((loN l n).length : Int) (-1)) ?_ fun r hr => Does.val (by rw [hr])
  refine Does.loop (c := f_slices_IndexFunc_Name_l2c) (v := f_slices_IndexFunc_Name_l2v) (ex := f_slices_IndexFunc_Name_l2e)
    (fun (xc : ((List DBlob) × ((DBlob × Unit) → Option (Bool × Unit)) × Int × Unit) × Unit) (xv : (Int × Unit) × Unit) => xc = ((l, ((fun z => (bnd (f_impl_nameAt_1 (z.1, (n, ()))) fun r => (some r.1))), (llen l, ()))), ()) ∧ ∃ j : Nat, xv = (((j : Int), ()), ()) ∧ j ≤ l.length ∧ ∀ (i : Nat) (x : DBlob), i < j → l[i]? = some x → seq x.1 n = false)
    (fun _ (xv : (Int × Unit) × Unit) => l.length - Int.toNat xv.1.1) ?_ ⟨rfl, 0, rfl, by omega, fun i x h => by omega⟩
  rintro xc xv ⟨rfl, j, rfl, hj, hb⟩
  simp only [round, f_slices_IndexFunc_Name_l2, f_impl_nameAt_1, bnd_some]
  refine Does.cond (fun hlt => ?_) (fun hlt => ?_)
  · have hlt := ilt_iff.1 hlt
    simp only [llen] at hlt
    refine Does.getO (by omega) (by omega) fun y hy => ?_
    rw [Int.toNat_natCast] at hy
    refine Does.cond (fun h1 => Does.val (Does.val ?_)) (fun h1 => Does.val ?_)
    · -- found
      have h1 : y.1 = n := (seq_iff _ _).1 h1
      have hsplit : l = l.take j ++ y :: l.drop (j + 1) := by
        rw [List.getElem?_eq_some_iff] at hy
        obtain ⟨hjl, hy⟩ := hy
        rw [← hy, ← List.drop_eq_getElem_cons hjl, List.take_append_drop]
      have hA : ∀ z ∈ l.take j, slt z.1 n = true := by
        have key : ∀ (A : List DBlob) (B : List DBlob), Rise (A ++ y :: B) → ∀ z ∈ A, slt z.1 y.1 = true := by
          intro A
          induction A with
          | nil => intro B _ z hz; cases hz
          | cons a A ih =>
            intro B h z hz
            rcases List.mem_cons.1 hz with rfl | hz
            · exact h.1 y (by simp)
            · exact ih B h.2 z hz
        intro z hz
        have := key (l.take j) (l.drop (j + 1)) (by rw [← hsplit]; exact hr) z hz
        rwa [h1] at this
      have e0 : hiN l n = y :: l.drop (j + 1) := by
        rw [hsplit]
        rw [show hiN (l.take j ++ y :: l.drop (j + 1)) n = hiN (y :: l.drop (j + 1)) n from List.dropWhile_append_of_pos hA]
        rw [← hsplit]
        simp [hiN, List.dropWhile, h1, slt_irrefl]
      have e1 : loN l n = l.take j := by
        rw [hsplit]
        rw [show loN (l.take j ++ y :: l.drop (j + 1)) n = l.take j ++ loN (y :: l.drop (j + 1)) n from List.takeWhile_append_of_pos hA]
        rw [← hsplit]
        simp [loN, List.takeWhile, h1, slt_irrefl]
      unfold hasN
      rw [e0, e1]
      dsimp only
      rw [(seq_iff _ _).2 h1, cond_true, List.length_take, Nat.min_eq_left (by omega)]
    · rw [iadd_i64 (by omega)]
      exact ⟨⟨rfl, j + 1, rfl, by omega, upto_step (P := fun _ x => seq x.1 n = false) hb hy h1⟩, by dsimp only; omega⟩
  · have hlt := ilt_false.1 hlt
    simp only [llen] at hlt
    refine Does.val (Does.val ?_)
    have hall := upto_all (P := fun _ (x : DBlob) => seq x.1 n = false) (by omega) hb
    have : hasN l n = false := by
      cases hh : hasN l n with
      | false => rfl
      | true =>
        obtain ⟨y, r, h1, h2, h3⟩ := hasN_split hh
        have hm : y ∈ l := by rw [h3]; simp
        obtain ⟨i, hi⟩ := List.getElem?_of_mem hm
        have := hall i y hi
        rw [(seq_iff _ _).2 h2] at this
        cases this
    rw [this]
    rfl

end Go.Proofs.YthlnjkcpdkjipaaDoor
