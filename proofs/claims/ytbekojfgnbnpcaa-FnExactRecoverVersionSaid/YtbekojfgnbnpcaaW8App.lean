/- Edits applied to versions: what both sides make of them. -/
import Derived.Test.YtbekojfgnbnpcaaW8Good
set_option linter.all false
noncomputable section
namespace Go.Proofs.Ytbekojfgnbnpcaa
open Go Go.Proofs.Ytbekojfgnbnpcaa.Ev

/-! ### lists of metas by number -/
def Rises (l : List DMeta) : Prop := l.Pairwise fun a b => a.1 < b.1

theorem rises_of {l : List DMeta} (h : ∀ i x, l[i]? = some x → ∀ y, 0 < i → l[i - 1]? = some y → y.1 < x.1) : Rises l := by
  have key : ∀ (j i : Nat) (a b : DMeta), i < j → l[i]? = some a → l[j]? = some b → a.1 < b.1 := by
    intro j
    induction j with
    | zero => intro i a b hi; omega
    | succ j ih =>
      intro i a b hi ha hb
      have hj : j < l.length := by have := (List.getElem?_eq_some_iff.1 hb).1; omega
      have hc := h (j + 1) b hb l[j] (by omega) (by simp [hj])
      rcases Nat.lt_or_ge i j with h1 | h1
      · have := ih i a l[j] h1 ha (List.getElem?_eq_getElem hj)
        omega
      · have : i = j := by omega
        subst this
        rw [List.getElem?_eq_getElem hj] at ha
        injection ha with ha
        subst ha; exact hc
  unfold Rises
  rw [List.pairwise_iff_getElem]
  intro i j hi hj hij
  exact key j i _ _ hij (List.getElem?_eq_getElem hi) (List.getElem?_eq_getElem hj)

theorem MetasOk.rises {l : List DMeta} (h : MetasOk l) : Rises l := rises_of fun i x hx y => (h.2 i x hx).2 y

theorem Rises.nodup {l : List DMeta} (h : Rises l) : (l.map (·.1)).Nodup := by
  unfold List.Nodup
  rw [List.pairwise_map]
  exact h.imp fun h => by omega

theorem NumsOk.nodup {l : List Int} (h : NumsOk l) : l.Nodup := by
  have key : ∀ (j i : Nat) (a b : Int), i < j → l[i]? = some a → l[j]? = some b → a < b := by
    intro j
    induction j with
    | zero => intro i a b hi; omega
    | succ j ih =>
      intro i a b hi ha hb
      have hj : j < l.length := by have := (List.getElem?_eq_some_iff.1 hb).1; omega
      have hc := (h (j + 1) b hb).2 l[j] (by omega) (by simp [hj])
      rcases Nat.lt_or_ge i j with h1 | h1
      · have := ih i a l[j] h1 ha (List.getElem?_eq_getElem hj)
        omega
      · have : i = j := by omega
        subst this
        rw [List.getElem?_eq_getElem hj] at ha
        injection ha with ha
        subst ha; exact hc
  unfold List.Nodup
  rw [List.pairwise_iff_getElem]
  intro i j hi hj hij
  have := key j i _ _ hij (List.getElem?_eq_getElem hi) (List.getElem?_eq_getElem hj)
  omega

def inNums (D : List Int) (m : DMeta) : Bool := D.any fun n => ieq n m.1
theorem inNums_iff {D : List Int} {m : DMeta} : inNums D m = true ↔ m.1 ∈ D := by
  unfold inNums
  rw [List.any_eq_true]
  constructor
  · rintro ⟨n, hn, h⟩
    rw [← ieq_iff.1 h]; exact hn
  · intro h
    exact ⟨m.1, h, ieq_iff.2 rfl⟩

/-- what is left of the metas -/
def kept (D : List Int) (l : List DMeta) : List DMeta := l.filter fun m => !inNums D m
theorem mem_kept {D : List Int} {l : List DMeta} {m : DMeta} : m ∈ kept D l ↔ m ∈ l ∧ m.1 ∉ D := by
  unfold kept
  rw [List.mem_filter]
  constructor
  · rintro ⟨h1, h2⟩
    exact ⟨h1, fun h => by rw [inNums_iff.2 h] at h2; cases h2⟩
  · rintro ⟨h1, h2⟩
    refine ⟨h1, ?_⟩
    cases h : inNums D m with
    | false => rfl
    | true => exact absurd (inNums_iff.1 h) h2
theorem Rises.filter {l : List DMeta} (h : Rises l) (p : DMeta → Bool) : Rises (l.filter p) := List.Pairwise.filter p h

theorem del_at {l : List DMeta} (h : Rises l) {k : Nat} {m : DMeta} (hk : l[k]? = some m) : l.take k ++ l.drop (k + 1) = l.filter fun x => !ieq m.1 x.1 := by
  have hkl := (List.getElem?_eq_some_iff.1 hk).1
  have hkm := (List.getElem?_eq_some_iff.1 hk).2
  have e : l = l.take k ++ m :: l.drop (k + 1) := by
    rw [← hkm, List.getElem_cons_drop, List.take_append_drop]
  have h2 := h
  rw [e] at h2
  have h2 := List.pairwise_append.1 h2
  conv => rhs; rw [e]
  rw [List.filter_append, List.filter_cons]
  have e1 : (l.take k).filter (fun x => !ieq m.1 x.1) = l.take k := List.filter_eq_self.2 fun x hx => by
    have := h2.2.2 x hx m List.mem_cons_self
    rw [ieq_false.2 (by omega)]; rfl
  have e2 : (l.drop (k + 1)).filter (fun x => !ieq m.1 x.1) = l.drop (k + 1) := List.filter_eq_self.2 fun x hx => by
    have := (List.pairwise_cons.1 h2.2.1).1 x hx
    rw [ieq_false.2 (by omega)]; rfl
  rw [e1, e2, ieq_iff.2 rfl]
  rfl

theorem kept_snoc (D : List Int) (n : Int) (l : List DMeta) : (kept D l).filter (fun x => !ieq n x.1) = kept (D ++ [n]) l := by
  unfold kept
  rw [List.filter_filter]
  congr 1
  funext x
  unfold inNums
  rw [List.any_append]
  cases D.any (fun n => ieq n x.1) <;> simp

/-! ### the library's sort, by number -/
def cmpNum (x : DMeta × DMeta × Unit) : Option (Int × Unit) := some ((if x.1.1 < x.2.1.1 then -1 else if x.2.1.1 < x.1.1 then 1 else 0), ())

theorem f_impl_ApplyEdit_1Val (x : DMeta × DMeta × Unit) : (bnd (f_impl_ApplyEdit_1 (x.1, (x.2.1, ()))) fun r => (some r.1)) = cmpNum x := by
  unfold f_impl_ApplyEdit_1 f_cmp_Compare_int f_cmp_isNaN_int cmpNum
  simp only [bnd_some, ieq_iff.2 rfl, Bool.not_true, cond_false]
  by_cases h1 : x.1.1 < x.2.1.1
  · rw [ilt_iff.2 h1]; simp [h1, bnd_some]
  · rw [ilt_false.2 (by omega)]
    by_cases h2 : x.2.1.1 < x.1.1
    · rw [ilt_iff.2 h2]; simp [h1, h2, bnd_some]
    · rw [ilt_false.2 (by omega)]; simp [h1, h2, bnd_some]

theorem cmpNum_lt (x y : DMeta) : Go.Proofs.ltOf (cmpOf (k := kdMeta) cmpNum) x y = decide (x.1 < y.1) := by
  unfold Go.Proofs.ltOf cmpOf cmpNum
  dsimp only
  by_cases h1 : x.1 < y.1
  · simp [h1]
  · by_cases h2 : y.1 < x.1 <;> simp [h1, h2]

theorem cmpNum_good : CmpGood (k := kdMeta) cmpNum := by
  refine ⟨fun x y => rfl, ?_, ?_, ?_⟩
  · intro x; rw [cmpNum_lt]; simp
  · intro x y z h1 h2; rw [cmpNum_lt] at *; simp at *; omega
  · intro x y z h1 h2; rw [cmpNum_lt] at *; simp at *; omega

def sortM (l : List DMeta) : List DMeta := sortK kdMeta (Go.Proofs.ltOf (cmpOf (k := kdMeta) cmpNum)) l
theorem sortM_spec (l : List DMeta) : (sortM l).Perm l ∧ (sortM l).Pairwise fun a b => a.1 ≤ b.1 := by
  obtain ⟨h1, h2⟩ := sortK_spec cmpNum_good.2 l
  refine ⟨h1, h2.imp fun {a b} h => ?_⟩
  rw [cmpNum_lt] at h
  have := of_decide_eq_false h
  omega
theorem f_slices_SortFunc_Val (l : List DMeta) (hl : l.length ≤ 1000) (p : DMeta × DMeta × Unit → Option (Int × Unit)) (hp : p = cmpNum) : (f_slices_SortFunc kdMeta) (l, (p, ())) = some ((), (sortM l, ())) := by
  subst hp
  unfold f_slices_SortFunc
  rw [if_pos ⟨cmpNum_good, by show l.length < _; omega⟩]
  rfl

/-- a sorted list without equal numbers is one alone -/
theorem sorted_one {a b : List DMeta} (hp : a.Perm b) (ha : a.Pairwise fun x y => x.1 ≤ y.1) (hb : b.Pairwise fun x y => x.1 ≤ y.1) (hn : (a.map (·.1)).Nodup) : a = b := by
  refine hp.eq_of_pairwise (fun x y hx hy h1 h2 => ?_) ha hb
  have he : x.1 = y.1 := by omega
  have hy : y ∈ a := hp.symm.subset hy
  obtain ⟨i, hi, rfl⟩ := List.getElem_of_mem hx
  obtain ⟨j, hj, rfl⟩ := List.getElem_of_mem hy
  have hn := List.pairwise_iff_getElem.1 hn
  rcases Nat.lt_trichotomy i j with h | h | h
  · exact absurd (by rw [List.getElem_map, List.getElem_map]; exact he) (hn i j (by simpa using hi) (by simpa using hj) h)
  · subst h; rfl
  · exact absurd (by rw [List.getElem_map, List.getElem_map]; exact he.symm) (hn j i (by simpa using hj) (by simpa using hi) h)

/-! ### insertion by number -/
/-- insert: before the first that is not less -/
def ins (l : List DMeta) (m : DMeta) : List DMeta := l.takeWhile (fun x => decide (x.1 < m.1)) ++ m :: l.dropWhile (fun x => decide (x.1 < m.1))
theorem ins_perm (l : List DMeta) (m : DMeta) : (ins l m).Perm (l ++ [m]) := by
  unfold ins
  have e : l.takeWhile (fun x => decide (x.1 < m.1)) ++ l.dropWhile (fun x => decide (x.1 < m.1)) = l := List.takeWhile_append_dropWhile
  have h : (l.takeWhile (fun x => decide (x.1 < m.1)) ++ m :: l.dropWhile (fun x => decide (x.1 < m.1))).Perm (m :: (l.takeWhile (fun x => decide (x.1 < m.1)) ++ l.dropWhile (fun x => decide (x.1 < m.1)))) := List.perm_middle
  rw [e] at h
  exact h.trans (List.perm_append_singleton m l).symm
theorem ins_sorted {l : List DMeta} (m : DMeta) (h : l.Pairwise fun x y => x.1 ≤ y.1) : (ins l m).Pairwise fun x y => x.1 ≤ y.1 := by
  have e : l.takeWhile (fun x => decide (x.1 < m.1)) ++ l.dropWhile (fun x => decide (x.1 < m.1)) = l := List.takeWhile_append_dropWhile
  have h2 := h
  rw [← e] at h2
  obtain ⟨h3, h4, h5⟩ := List.pairwise_append.1 h2
  have hlt : ∀ x ∈ l.takeWhile (fun x => decide (x.1 < m.1)), x.1 < m.1 := fun x hx => of_decide_eq_true (List.all_eq_true.1 List.all_takeWhile x hx)
  have hge : ∀ y ∈ l.dropWhile (fun x => decide (x.1 < m.1)), m.1 ≤ y.1 := by
    intro y hy
    cases hd : l.dropWhile (fun x => decide (x.1 < m.1)) with
    | nil => rw [hd] at hy; cases hy
    | cons z zs =>
      have hz : ¬ (z.1 < m.1) := by
        have := List.head_dropWhile_not (fun x : DMeta => decide (x.1 < m.1)) (l := l) (by rw [hd]; simp)
        simp only [hd, List.head_cons] at this
        exact of_decide_eq_false this
      rw [hd] at hy h4
      rcases List.mem_cons.1 hy with rfl | hy
      · omega
      · have := (List.pairwise_cons.1 h4).1 y hy
        omega
  unfold ins
  refine List.pairwise_append.2 ⟨h3, List.pairwise_cons.2 ⟨hge, h4⟩, fun x hx y hy => ?_⟩
  have := hlt x hx
  rcases List.mem_cons.1 hy with rfl | hy
  · omega
  · exact h5 x hx y hy
def insAll : List DMeta → List DMeta → List DMeta
  | [], l => l
  | m :: A, l => insAll A (ins l m)
theorem insAll_spec : ∀ (A l : List DMeta), l.Pairwise (fun x y => x.1 ≤ y.1) → (insAll A l).Perm (l ++ A) ∧ (insAll A l).Pairwise fun x y => x.1 ≤ y.1
  | [], l, h => ⟨by simp [insAll], h⟩
  | m :: A, l, h => by
    obtain ⟨h1, h2⟩ := insAll_spec A (ins l m) (ins_sorted m h)
    refine ⟨h1.trans ?_, h2⟩
    have := (ins_perm l m).append_right A
    simpa using this
theorem insAll_snoc : ∀ (A : List DMeta) (m : DMeta) (l : List DMeta), insAll (A ++ [m]) l = ins (insAll A l) m
  | [], m, l => rfl
  | a :: A, m, l => insAll_snoc A m (ins l a)

/-! ### what an edit makes of a version -/
def Found (l : List DMeta) (D : List Int) : Prop := ∀ n ∈ D, ∃ m ∈ l, m.1 = n
def noVer : DVersion := ((0 : Int), ((0 : Int), (([] : List DMeta), ())))
def appV (v : DVersion) (e : DEdit) : DVersion := (e.1, (e.2.1, (insAll e.2.2.2.1 (kept e.2.2.1 v.2.2.1), ())))
def AppOk (v : DVersion) (e : DEdit) : Prop := GoodEd e ∧ v.1 ≤ e.1 ∧ v.2.1 ≤ e.2.1 ∧ Found v.2.2.1 e.2.2.1 ∧ GoodV (appV v e)
open Classical in
def appR (v : DVersion) (e : DEdit) : DVersion × Bool × Unit := if AppOk v e then (appV v e, (true, ())) else (noVer, (false, ()))

theorem kept_nil (l : List DMeta) : kept [] l = l := by
  unfold kept inNums
  simp

/-- the metas that go are as many as the numbers, just where all are found -/
theorem gone_count {l : List DMeta} {D : List Int} (hl : Rises l) (hD : D.Nodup) : (l.filter (inNums D)).length = D.length ↔ Found l D := by
  have hn : ((l.filter (inNums D)).map (·.1)).Nodup := (hl.filter _).nodup
  have hs : (l.filter (inNums D)).map (·.1) ⊆ D := fun n hn => by
    obtain ⟨m, hm, rfl⟩ := List.mem_map.1 hn
    exact inNums_iff.1 (List.mem_filter.1 hm).2
  have hle := hn.length_le_of_subset hs
  rw [List.length_map] at hle
  constructor
  · intro h n hnD
    by_cases hf : ∃ m ∈ l, m.1 = n
    · exact hf
    · exfalso
      have hs2 : (l.filter (inNums D)).map (·.1) ⊆ D.erase n := fun k hk => by
        have hkD := hs hk
        obtain ⟨m, hm, rfl⟩ := List.mem_map.1 hk
        have : m.1 ≠ n := fun e => hf ⟨m, (List.mem_filter.1 hm).1, e⟩
        exact (List.mem_erase_of_ne this).2 hkD
      have := hn.length_le_of_subset hs2
      rw [List.length_map, List.length_erase_of_mem hnD] at this
      have := List.length_pos_of_mem hnD
      omega
  · intro h
    have hs2 : D ⊆ (l.filter (inNums D)).map (·.1) := fun n hnD => by
      obtain ⟨m, hm, rfl⟩ := h n hnD
      exact List.mem_map.2 ⟨m, List.mem_filter.2 ⟨hm, inNums_iff.2 hnD⟩, rfl⟩
    have := hD.length_le_of_subset hs2
    rw [List.length_map] at this
    omega

theorem Rises.le {l : List DMeta} (h : Rises l) : l.Pairwise fun x y => x.1 ≤ y.1 := h.imp fun h => by omega

/-- numbers that come twice are not good -/
theorem clash_bad {F A S : List DMeta} {x y : DMeta} (hp : S.Perm (F ++ A)) (hx : x ∈ F) (hy : y ∈ A) (he : x.1 = y.1) (h : MetasOk S) : False := by
  have hn : ((F ++ A).map (·.1)).Nodup := (hp.map (·.1)).nodup_iff.1 h.rises.nodup
  rw [List.map_append] at hn
  exact (List.nodup_append.1 hn).2.2 x.1 (List.mem_map.2 ⟨x, hx, rfl⟩) y.1 (List.mem_map.2 ⟨y, hy, rfl⟩) he

theorem sort_ins {F A : List DMeta} (hF : Rises F) (hA : Rises A) (hap : ∀ x ∈ A, ∀ y ∈ F, y.1 ≠ x.1) : sortM (F ++ A) = insAll A F := by
  obtain ⟨h1, h2⟩ := sortM_spec (F ++ A)
  obtain ⟨h3, h4⟩ := insAll_spec A F hF.le
  refine sorted_one (h1.trans h3.symm) h2 h4 ((h1.map (·.1)).nodup_iff.2 ?_)
  rw [List.map_append]
  refine List.nodup_append.2 ⟨hF.nodup, hA.nodup, fun a ha b hb => ?_⟩
  obtain ⟨x, hx, rfl⟩ := List.mem_map.1 ha
  obtain ⟨y, hy, rfl⟩ := List.mem_map.1 hb
  exact hap y hy x hx

end Go.Proofs.Ytbekojfgnbnpcaa
