/- Edits applied to versions: both sides do the same. -/
import Derived.Test.YtbekojfgnbnpcaaW8App
set_option linter.all false
noncomputable section
namespace Go.Proofs.Ytbekojfgnbnpcaa
open Go Go.Proofs.Ytbekojfgnbnpcaa.Ev

theorem f_slices_Clone_MetaVal (l : List DMeta) (hl : l.length ≤ 1000) : f_slices_Clone_Meta (l, ()) = some ((l, ()), ()) := by
  unfold f_slices_Clone_Meta
  cases l with
  | nil =>
    dsimp only
    unfold bothK
    simp [req]
  | cons x l =>
    have h : Nat.beq (x :: l).length 0 = false := rfl
    dsimp only
    rw [h, cond_false, req_true_of (by omega)]

theorem f_impl_metaAtDoes (l : List DMeta) (hl : l.length ≤ 1000) (n : Int) : Does (f_impl_metaAt (l, (n, ()))) fun r => IdxAt l (fun m => ieq m.1 n) r.1.1 := by
  unfold f_impl_metaAt
  exact Does.bnd (f_slices_IndexFunc_MetaDoes l hl _ (fun m => ieq m.1 n) fun x => rfl) fun r hr => Does.val hr

theorem f_slices_DeleteVal (l : List DMeta) (k : Nat) (hk : k < l.length) : (f_slices_Delete kdMeta) (l, ((k : Int), (((k + 1 : Nat) : Int), ()))) = some ((l.take k ++ l.drop (k + 1), ()), ()) := by
  unfold f_slices_Delete
  have h : (decide ((0 : Int) ≤ (k : Int)) && (decide ((k : Int) < ((k + 1 : Nat) : Int)) && decide (((k + 1 : Nat) : Int) ≤ ((l.length : Nat) : Int)))) = true := by simp; omega
  dsimp only
  refine (congrArg (fun b => req b _) h).trans ?_
  rfl

theorem kept_le (D : List Int) (l : List DMeta) : (kept D l).length ≤ l.length := List.length_filter_le _ _

theorem mem_take_of {α : Type} {l : List α} {j : Nat} {x : α} (h : x ∈ l.take j) : x ∈ l := List.mem_of_mem_take h

theorem take_snoc {α : Type} {l : List α} {j : Nat} {y : α} (h : l[j]? = some y) : l.take (j + 1) = l.take j ++ [y] := by
  rw [List.take_add_one, h]; rfl

theorem nodup_fresh {D : List Int} (h : D.Nodup) {j : Nat} {n : Int} (hn : D[j]? = some n) : n ∉ D.take j := by
  intro hm
  obtain ⟨i, hi, hx⟩ := take_mem.1 hm
  have hjl := (List.getElem?_eq_some_iff.1 hn).1
  have := List.pairwise_iff_getElem.1 h i j (by omega) hjl hi
  rw [List.getElem?_eq_getElem (by omega)] at hx
  rw [List.getElem?_eq_getElem hjl] at hn
  injection hx with hx; injection hn with hn
  exact this (hx.trans hn.symm)

theorem rises_fresh {A : List DMeta} (h : Rises A) {j : Nat} {x : DMeta} (hx : A[j]? = some x) {y : DMeta} (hy : y ∈ A.take j) : y.1 < x.1 := by
  obtain ⟨i, hi, hyi⟩ := take_mem.1 hy
  have hjl := (List.getElem?_eq_some_iff.1 hx).1
  have := List.pairwise_iff_getElem.1 h i j (by omega) hjl hi
  rw [List.getElem?_eq_getElem (by omega)] at hyi
  rw [List.getElem?_eq_getElem hjl] at hx
  injection hx with hx; injection hyi with hyi
  rw [← hx, ← hyi]; exact this

theorem f_impl_ApplyEditDoes (v : DVersion) (e : DEdit) (hv : GoodV v) (h1 : e.2.2.1.length ≤ 1000) (h2 : e.2.2.2.1.length ≤ 1000) : Does (f_impl_ApplyEdit (v, (e, ()))) fun r => r = (appR v e, ()) := by
  unfold f_impl_ApplyEdit
  dsimp only
  have hL : v.2.2.1.length ≤ 30 := hv.2.2.1.1
  have hR : Rises v.2.2.1 := hv.2.2.1.rises
  obtain ⟨r1, e1, hr1⟩ := f_impl_GoodVersionDoes (x := (v, ())) (by show v.2.2.1.length ≤ 1000; omega)
  rw [e1, bnd_some, hr1.2 hv]
  simp only [Bool.not_true, cond_false]
  have bad : ¬ AppOk v e → ((((0 : Int), ((0 : Int), (([] : List DMeta), ()))), (false, ())), ()) = (appR v e, ()) := fun h => by unfold appR; rw [if_neg h]; rfl
  refine Does.bnd (f_impl_goodEditDoes (x := (e, ())) h1 h2) fun r2 hr2 => ?_
  refine Does.cond (fun h3 => Does.val (bad fun h => by have := hr2.2 h.1; rw [this] at h3; cases h3)) (fun h3 => ?_)
  have hE : GoodEd e := hr2.1 (by simpa using h3)
  refine Does.cond (fun h4 => Does.val (bad fun h => by have := ilt_iff.1 h4; have := h.2.1; omega)) (fun h4 => ?_)
  refine Does.cond (fun h5 => Does.val (bad fun h => by have := ilt_iff.1 h5; have := h.2.2.1; omega)) (fun h5 => ?_)
  have h4 := ilt_false.1 h4
  have h5 := ilt_false.1 h5
  obtain ⟨E1, E2, E3, E4, E5⟩ := hE
  have hD := E5.nodup
  have hA := E4.rises
  have hAl := E4.1
  rw [f_slices_Clone_MetaVal _ (by omega), bnd_some]
  dsimp only
  refine Does.loop (c := f_impl_ApplyEdit_l5c) (v := f_impl_ApplyEdit_l5v) (ex := f_impl_ApplyEdit_l5e)
    (fun (xc : ((List Int) × Int × Unit) × (DEdit × Unit)) (xv : (Int × Unit) × (DVersion × DVersion × Unit)) => xc = ((e.2.2.1, (llen e.2.2.1, ())), (e, ())) ∧ ∃ j : Nat, xv = (((j : Int), ()), (noVer, ((e.1, (e.2.1, (kept (e.2.2.1.take j) v.2.2.1, ()))), ()))) ∧ j ≤ e.2.2.1.length ∧ ∀ n ∈ e.2.2.1.take j, ∃ m ∈ v.2.2.1, m.1 = n)
    (fun _ (xv : (Int × Unit) × (DVersion × DVersion × Unit)) => e.2.2.1.length - Int.toNat xv.1.1) ?_ ⟨rfl, 0, by rw [List.take_zero, kept_nil]; rfl, by omega, fun n hn => by simp at hn⟩
  rintro xc xv ⟨rfl, j, rfl, hj, hf⟩
  simp only [round, f_impl_ApplyEdit_l5]
  refine Does.cond (fun hlt => ?_) (fun hlt => ?_)
  · have hlt := ilt_iff.1 hlt
    simp only [llen] at hlt
    refine Does.getO (by omega) (by omega) fun n hn => ?_
    rw [Int.toNat_natCast] at hn
    have hkl := kept_le (e.2.2.1.take j) v.2.2.1
    refine Does.bnd (f_impl_metaAtDoes (kept (e.2.2.1.take j) v.2.2.1) (by omega) n) fun r5 hr5 => ?_
    refine Does.cond (fun h6 => Does.val (Does.val (bad fun h => ?_))) (fun h6 => ?_)
    · obtain ⟨m, hm, hmn⟩ := h.2.2.2.1 n (List.mem_of_getElem? hn)
      rcases hr5 with ⟨_, hno⟩ | ⟨k, x, hk, _, _⟩
      · have hmk : m ∈ kept (e.2.2.1.take j) v.2.2.1 := mem_kept.2 ⟨hm, by rw [hmn]; exact nodup_fresh hD hn⟩
        have := ieq_false.1 (hno m hmk)
        exact this hmn
      · have := ilt_iff.1 h6; omega
    · rcases hr5 with ⟨hk, _⟩ | ⟨k, x, hk, hx, hxn⟩
      · have := ilt_false.1 h6; omega
      · have hxn := ieq_iff.1 hxn
        have hkk := (List.getElem?_eq_some_iff.1 hx).1
        rw [hk, iadd_i64 (by omega), show (k : Int) + 1 = ((k + 1 : Nat) : Int) by omega, f_slices_DeleteVal _ k hkk, bnd_some]
        refine Does.val ?_
        dsimp only
        have hRk : Rises (kept (e.2.2.1.take j) v.2.2.1) := hR.filter _
        rw [del_at hRk hx, hxn, kept_snoc, ← take_snoc hn, iadd_i64 (by omega)]
        refine ⟨⟨rfl, j + 1, rfl, by omega, fun q hq => ?_⟩, by omega⟩
        rw [take_snoc hn] at hq
        rcases List.mem_append.1 hq with hq | hq
        · exact hf q hq
        · rw [List.mem_singleton.1 hq]
          exact ⟨x, (mem_kept.1 (List.mem_of_getElem? hx)).1, hxn⟩
  · have hlt := ilt_false.1 hlt
    simp only [llen] at hlt
    have hjl : e.2.2.1.take j = e.2.2.1 := List.take_of_length_le (by omega)
    rw [hjl] at hf ⊢
    refine Does.val ?_
    dsimp only
    have hFr : Rises (kept e.2.2.1 v.2.2.1) := hR.filter _
    have hFl := kept_le e.2.2.1 v.2.2.1
    obtain ⟨F, hF⟩ : ∃ F, F = kept e.2.2.1 v.2.2.1 := ⟨_, rfl⟩
    rw [← hF] at hFr hFl ⊢
    refine Does.loop (c := f_impl_ApplyEdit_l13c) (v := f_impl_ApplyEdit_l13v) (ex := f_impl_ApplyEdit_l13e)
      (fun (xc : ((List DMeta) × Int × Unit) × Unit) (xv : (Int × Unit) × (DVersion × DVersion × Unit)) => xc = ((e.2.2.2.1, (llen e.2.2.2.1, ())), ()) ∧ ∃ j : Nat, xv = (((j : Int), ()), (noVer, ((e.1, (e.2.1, (F ++ e.2.2.2.1.take j, ()))), ()))) ∧ j ≤ e.2.2.2.1.length ∧ ∀ x ∈ e.2.2.2.1.take j, ∀ y ∈ F, y.1 ≠ x.1)
      (fun _ (xv : (Int × Unit) × (DVersion × DVersion × Unit)) => e.2.2.2.1.length - Int.toNat xv.1.1) ?_ ⟨rfl, 0, by rw [List.take_zero, List.append_nil]; rfl, by omega, fun n hn => by simp at hn⟩
    rintro xc xv ⟨rfl, j, rfl, hj, hap⟩
    simp only [round, f_impl_ApplyEdit_l13]
    have hjl2 : (F ++ e.2.2.2.1.take j).length ≤ 60 := by simp; omega
    refine Does.cond (fun hlt2 => ?_) (fun hlt2 => ?_)
    · have hlt2 := ilt_iff.1 hlt2
      simp only [llen] at hlt2
      refine Does.getO (by omega) (by omega) fun x hx => ?_
      rw [Int.toNat_natCast] at hx
      refine Does.bnd (f_impl_metaAtDoes (F ++ e.2.2.2.1.take j) (by omega) x.1) fun r12 hr12 => ?_
      refine Does.cond (fun h6 => Does.val (Does.val (bad fun h => ?_))) (fun h6 => ?_)
      · have h6 := ile_iff.1 h6
        rcases hr12 with ⟨hk, _⟩ | ⟨k, y, hk, hy, hyn⟩
        · omega
        · have hyn := ieq_iff.1 hyn
          rcases List.mem_append.1 (List.mem_of_getElem? hy) with hyF | hyA
          · refine clash_bad (insAll_spec e.2.2.2.1 F hFr.le).1 hyF (List.mem_of_getElem? hx) hyn ?_
            rw [hF]
            exact h.2.2.2.2.2.2.1
          · have := rises_fresh hA hx hyA; omega
      · have h6 := ile_false.1 h6
        rcases hr12 with ⟨hk, hno⟩ | ⟨k, y, hk, _, _⟩
        · refine Does.req (by simp at hjl2 ⊢; omega) (Does.val ?_)
          dsimp only
          rw [List.append_assoc, ← take_snoc hx, iadd_i64 (by omega)]
          refine ⟨⟨rfl, j + 1, rfl, by omega, fun q hq y hy => ?_⟩, by omega⟩
          rw [take_snoc hx] at hq
          rcases List.mem_append.1 hq with hq | hq
          · exact hap q hq y hy
          · rw [List.mem_singleton.1 hq]
            exact ieq_false.1 (hno y (List.mem_append.2 (.inl hy)))
        · omega
    · have hlt2 := ilt_false.1 hlt2
      simp only [llen] at hlt2
      have hjA : e.2.2.2.1.take j = e.2.2.2.1 := List.take_of_length_le (by omega)
      rw [hjA] at hap hjl2 ⊢
      refine Does.val ?_
      dsimp only
      rw [f_slices_SortFunc_Val _ (by omega) _ (funext fun x => f_impl_ApplyEdit_1Val x), bnd_some]
      dsimp only
      rw [sort_ins hFr hA hap]
      have hil := (insAll_spec e.2.2.2.1 F hFr.le).1.length_eq
      refine Does.bnd (f_impl_GoodVersionDoes (x := ((e.1, (e.2.1, (insAll e.2.2.2.1 F, ()))), ())) (by dsimp only; omega)) fun r18 hr18 => ?_
      dsimp only at hr18
      have hav : (e.1, (e.2.1, (insAll e.2.2.2.1 F, ()))) = appV v e := by rw [hF]; rfl
      rw [hav] at hr18 ⊢
      refine Does.cond (fun h7 => Does.val (bad fun h => ?_)) (fun h7 => Does.val ?_)
      · have := hr18.2 h.2.2.2.2
        rw [this] at h7; cases h7
      · unfold appR
        rw [if_pos ⟨⟨E1, E2, E3, E4, E5⟩, h4, h5, hf, hr18.1 (by simpa using h7)⟩]

theorem ins_at {l : List DMeta} {m : DMeta} {k : Nat} (hk : k ≤ l.length) (h : ∀ i x, i < k → l[i]? = some x → x.1 < m.1) (hs : ∀ x, l[k]? = some x → ¬ x.1 < m.1) : ((([] : List DMeta) ++ l.take k) ++ [m]) ++ (l.drop k).take (l.length - k) = ins l m := by
  have e : l = l.take k ++ l.drop k := (List.take_append_drop k l).symm
  have ht : ∀ x ∈ l.take k, decide (x.1 < m.1) = true := fun x hx => by
    obtain ⟨i, hi, hx⟩ := take_mem.1 hx
    exact decide_eq_true (h i x hi hx)
  have hd : (l.drop k).takeWhile (fun x => decide (x.1 < m.1)) = [] ∧ (l.drop k).dropWhile (fun x => decide (x.1 < m.1)) = l.drop k := by
    cases hc : l.drop k with
    | nil => exact ⟨rfl, rfl⟩
    | cons z zs =>
      have : l[k]? = some z := by
        have := congrArg (fun q => q[0]?) hc
        simpa using this
      have hz := decide_eq_false (hs z this)
      exact ⟨by rw [List.takeWhile_cons, hz]; rfl, by rw [List.dropWhile_cons, hz]; rfl⟩
  have e1 : l.takeWhile (fun x => decide (x.1 < m.1)) = l.take k := by
    conv => lhs; rw [e]
    rw [List.takeWhile_append_of_pos ht, hd.1, List.append_nil]
  have e2 : l.dropWhile (fun x => decide (x.1 < m.1)) = l.drop k := by
    conv => lhs; rw [e]
    rw [List.dropWhile_append_of_pos ht, hd.2]
  unfold ins
  rw [e1, e2, List.nil_append, List.append_assoc]
  rw [show (l.drop k).take (l.length - k) = l.drop k from List.take_of_length_le (by simp)]
  rfl

theorem inNums_snoc (D : List Int) (n : Int) (m : DMeta) : inNums (D ++ [n]) m = (inNums D m || ieq n m.1) := by
  unfold inNums
  rw [List.any_append]
  simp

theorem f_spec_l9ApplyDoes (v : DVersion) (e : DEdit) (hv : GoodV v) (h1 : e.2.2.1.length ≤ 1000) (h2 : e.2.2.2.1.length ≤ 1000) : Does (f_spec_l9Apply (v, (e, ()))) fun r => r = (appR v e, ()) := by
  unfold f_spec_l9Apply
  dsimp only
  have hL : v.2.2.1.length ≤ 30 := hv.2.2.1.1
  have hR : Rises v.2.2.1 := hv.2.2.1.rises
  have bad : ¬ AppOk v e → ((((0 : Int), ((0 : Int), (([] : List DMeta), ()))), (false, ())), ()) = (appR v e, ()) := fun h => by unfold appR; rw [if_neg h]; rfl
  refine Does.bnd (f_spec_l9EditDoes (x := (e, ())) h1 h2) fun r2 hr2 => ?_
  refine Does.cond (fun h3 => Does.val (bad fun h => by have := hr2.2 h.1; rw [this] at h3; cases h3)) (fun h3 => ?_)
  have hE : GoodEd e := hr2.1 (by simpa using h3)
  refine Does.cond (fun h4 => Does.val (bad fun h => by have := ilt_iff.1 h4; have := h.2.1; omega)) (fun h4 => ?_)
  refine Does.cond (fun h5 => Does.val (bad fun h => by have := ilt_iff.1 h5; have := h.2.2.1; omega)) (fun h5 => ?_)
  have h4 := ilt_false.1 h4
  have h5 := ilt_false.1 h5
  obtain ⟨E1, E2, E3, E4, E5⟩ := hE
  have hD := E5.nodup
  have hA := E4.rises
  have hAl := E4.1
  refine Does.loop (c := f_spec_l9Apply_l6c) (v := f_spec_l9Apply_l6v) (ex := f_spec_l9Apply_l6e)
    (fun (xc : Unit × Unit) (xv : (Int × (List DMeta) × Int × Int × Unit) × (DEdit × DVersion × (List DMeta) × Unit)) => ∃ j : Nat, xv = ((((((v.2.2.1.take j).filter (inNums e.2.2.1)).length : Nat) : Int), (v.2.2.1, (llen v.2.2.1, ((j : Int), ())))), (e, (noVer, (kept e.2.2.1 (v.2.2.1.take j), ())))) ∧ j ≤ v.2.2.1.length)
    (fun _ (xv : (Int × (List DMeta) × Int × Int × Unit) × (DEdit × DVersion × (List DMeta) × Unit)) => v.2.2.1.length - Int.toNat xv.1.2.2.2.1) ?_ ⟨0, rfl, by omega⟩
  rintro xc xv ⟨j, rfl, hj⟩
  simp only [round, f_spec_l9Apply_l6]
  refine Does.cond (fun hlt => ?_) (fun hlt => ?_)
  · have hlt := ilt_iff.1 hlt
    simp only [llen] at hlt
    refine Does.getO (by omega) (by omega) fun m hm => ?_
    rw [Int.toNat_natCast] at hm
    have hgl := List.length_filter_le (inNums e.2.2.1) (v.2.2.1.take j)
    have hkl := kept_le e.2.2.1 (v.2.2.1.take j)
    have htl : (v.2.2.1.take j).length ≤ 30 := by simp; omega
    obtain ⟨G, hG⟩ : ∃ G, G = ((v.2.2.1.take j).filter (inNums e.2.2.1)).length := ⟨_, rfl⟩
    obtain ⟨K, hK⟩ : ∃ K, K = kept e.2.2.1 (v.2.2.1.take j) := ⟨_, rfl⟩
    have hG2 : ((v.2.2.1.take (j + 1)).filter (inNums e.2.2.1)).length = G + (if inNums e.2.2.1 m then 1 else 0) := by
      rw [take_snoc hm, List.filter_append, List.length_append, ← hG]
      cases hin : inNums e.2.2.1 m <;> simp [hin]
    have hK2 : kept e.2.2.1 (v.2.2.1.take (j + 1)) = K ++ (if inNums e.2.2.1 m then [] else [m]) := by
      rw [take_snoc hm, hK]
      unfold kept
      rw [List.filter_append]
      cases hin : inNums e.2.2.1 m <;> simp [hin]
    rw [← hG] at hgl ⊢
    rw [← hK] at hkl ⊢
    refine Does.loop (c := f_spec_l9Apply_l10c) (v := f_spec_l9Apply_l10v) (ex := f_spec_l9Apply_l10e)
      (fun (xc : (Int × (List DMeta) × Int × Int × (List Int) × Int × Unit) × (DEdit × DVersion × (List DMeta) × DMeta × Unit)) (xv : (Bool × Int × Unit) × Unit) => xc = ((((G : Nat) : Int), (v.2.2.1, (llen v.2.2.1, ((j : Int), (e.2.2.1, (llen e.2.2.1, ())))))), (e, (noVer, (K, (m, ()))))) ∧ ∃ u : Nat, xv = ((inNums (e.2.2.1.take u) m, ((u : Int), ())), ()) ∧ u ≤ e.2.2.1.length)
      (fun _ (xv : (Bool × Int × Unit) × Unit) => e.2.2.1.length - Int.toNat xv.1.2.1) ?_ ⟨rfl, 0, rfl, by omega⟩
    rintro xc xv ⟨rfl, u, rfl, hu⟩
    simp only [round, f_spec_l9Apply_l10]
    refine Does.cond (fun hlt2 => ?_) (fun hlt2 => ?_)
    · have hlt2 := ilt_iff.1 hlt2
      simp only [llen] at hlt2
      refine Does.getO (by omega) (by omega) fun n hn => ?_
      rw [Int.toNat_natCast] at hn
      refine Does.cond (fun hb => Does.val ?_) (fun hb => Does.val ?_)
      · dsimp only
        rw [iadd_i64 (by omega)]
        refine ⟨⟨rfl, u + 1, ?_, by omega⟩, by omega⟩
        rw [take_snoc hn, inNums_snoc, hb]; rfl
      · dsimp only
        rw [iadd_i64 (by omega)]
        refine ⟨⟨rfl, u + 1, ?_, by omega⟩, by omega⟩
        rw [take_snoc hn, inNums_snoc, hb, Bool.false_or]; rfl
    · have hlt2 := ilt_false.1 hlt2
      simp only [llen] at hlt2
      have hul : e.2.2.1.take u = e.2.2.1 := List.take_of_length_le (by omega)
      rw [hul]
      refine Does.val ?_
      dsimp only
      unfold f_spec_l9Apply_i15
      dsimp only
      refine Does.cond (fun hb => Does.val ?_) (fun hb => Does.req (by simp; omega) (Does.val ?_))
      · dsimp only
        rw [iadd_i64 (by omega), iadd_i64 (by omega)]
        refine ⟨⟨j + 1, ?_, by omega⟩, by omega⟩
        rw [hG2, hK2, hb]
        simp only [if_true, List.append_nil]
        rfl
      · dsimp only
        rw [iadd_i64 (by omega)]
        refine ⟨⟨j + 1, ?_, by omega⟩, by omega⟩
        rw [hG2, hK2, hb]
        rfl
  · have hlt := ilt_false.1 hlt
    simp only [llen] at hlt
    have hjl : v.2.2.1.take j = v.2.2.1 := List.take_of_length_le (by omega)
    rw [hjl]
    refine Does.val ?_
    dsimp only
    have hFr : Rises (kept e.2.2.1 v.2.2.1) := hR.filter _
    have hFl := kept_le e.2.2.1 v.2.2.1
    have hcnt := gone_count hR hD
    obtain ⟨G, hG⟩ : ∃ G, G = (v.2.2.1.filter (inNums e.2.2.1)).length := ⟨_, rfl⟩
    obtain ⟨F, hF⟩ : ∃ F, F = kept e.2.2.1 v.2.2.1 := ⟨_, rfl⟩
    rw [← hG] at hcnt ⊢
    rw [← hF] at hFr hFl ⊢
    refine Does.loop (c := f_spec_l9Apply_l19c) (v := f_spec_l9Apply_l19v) (ex := f_spec_l9Apply_l19e)
      (fun (xc : Unit × Unit) (xv : (Int × (List DMeta) × Int × Int × Unit) × (DEdit × DVersion × (List DMeta) × Unit)) => ∃ j : Nat, xv = (((G : Int), (e.2.2.2.1, (llen e.2.2.2.1, ((j : Int), ())))), (e, (noVer, (insAll (e.2.2.2.1.take j) F, ())))) ∧ j ≤ e.2.2.2.1.length)
      (fun _ (xv : (Int × (List DMeta) × Int × Int × Unit) × (DEdit × DVersion × (List DMeta) × Unit)) => e.2.2.2.1.length - Int.toNat xv.1.2.2.2.1) ?_ ⟨0, rfl, by omega⟩
    rintro xc xv ⟨j, rfl, hj⟩
    simp only [round, f_spec_l9Apply_l19]
    have hil : ∀ q, (insAll (e.2.2.2.1.take q) F).length ≤ 60 := fun q => by
      have := (insAll_spec (e.2.2.2.1.take q) F hFr.le).1.length_eq
      rw [this]; simp; omega
    refine Does.cond (fun hlt2 => ?_) (fun hlt2 => ?_)
    · have hlt2 := ilt_iff.1 hlt2
      simp only [llen] at hlt2
      refine Does.getO (by omega) (by omega) fun m hm => ?_
      rw [Int.toNat_natCast] at hm
      have hI := hil j
      have hsn : insAll (e.2.2.2.1.take (j + 1)) F = ins (insAll (e.2.2.2.1.take j) F) m := by rw [take_snoc hm, insAll_snoc]
      obtain ⟨I, hIe⟩ : ∃ I, I = insAll (e.2.2.2.1.take j) F := ⟨_, rfl⟩
      rw [← hIe] at hI hsn ⊢
      refine Does.loop (c := f_spec_l9Apply_l22c) (v := f_spec_l9Apply_l22v) (ex := f_spec_l9Apply_l22e)
        (fun (xc : (Int × (List DMeta) × Int × Int × Unit) × (DEdit × DVersion × (List DMeta) × DMeta × Unit)) (xv : (Int × Unit) × Unit) => xc = (((G : Int), (e.2.2.2.1, (llen e.2.2.2.1, ((j : Int), ())))), (e, (noVer, (I, (m, ()))))) ∧ ∃ u : Nat, xv = (((u : Int), ()), ()) ∧ u ≤ I.length ∧ ∀ i x, i < u → I[i]? = some x → x.1 < m.1)
        (fun _ (xv : (Int × Unit) × Unit) => I.length - Int.toNat xv.1.1) ?_ ⟨rfl, 0, rfl, by omega, fun i x h => by omega⟩
      have fin : ∀ u : Nat, u ≤ I.length → (∀ i x, i < u → I[i]? = some x → x.1 < m.1) → (∀ x, I[u]? = some x → ¬ x.1 < m.1) →
          ((((([] : List DMeta) ++ (List.take ((Int.toNat (u : Int)) - (0 : Nat)) (List.drop (0 : Nat) I))) ++ [m]) ++ (List.take ((List.length I) - (Int.toNat (u : Int))) (List.drop (Int.toNat (u : Int)) I))) = insAll (e.2.2.2.1.take (j + 1)) F) := fun u hu hb hs => by
        rw [hsn, List.drop_zero, Nat.sub_zero, Int.toNat_natCast]
        exact ins_at hu hb hs
      rintro xc xv ⟨rfl, u, rfl, hu, hb⟩
      simp only [round, f_spec_l9Apply_l22]
      have out : (∀ x, I[u]? = some x → ¬ x.1 < m.1) → ∀ {R : Type} {Q : R → Prop} (k : List DMeta → Int → Option R), Does (k (insAll (e.2.2.2.1.take (j + 1)) F) ((j + 1 : Nat) : Int)) Q →
          Does (req (decide ((0 : Int) ≤ (u : Int)) && decide ((u : Int) ≤ ((List.length I) : Int))) (req (decide (List.length ([] : List DMeta) + List.length (List.take ((Int.toNat (u : Int)) - (0 : Nat)) (List.drop (0 : Nat) I)) ≤ 17179869184)) (req (decide (List.length (([] : List DMeta) ++ (List.take ((Int.toNat (u : Int)) - (0 : Nat)) (List.drop (0 : Nat) I))) + List.length [m] ≤ 17179869184)) (req (decide ((0 : Int) ≤ (u : Int)) && decide ((u : Int) ≤ ((List.length I) : Int))) (req (decide (List.length ((([] : List DMeta) ++ (List.take ((Int.toNat (u : Int)) - (0 : Nat)) (List.drop (0 : Nat) I))) ++ [m]) + List.length (List.take ((List.length I) - (Int.toNat (u : Int))) (List.drop (Int.toNat (u : Int)) I)) ≤ 17179869184)) (k (((([] : List DMeta) ++ (List.take ((Int.toNat (u : Int)) - (0 : Nat)) (List.drop (0 : Nat) I))) ++ [m]) ++ (List.take ((List.length I) - (Int.toNat (u : Int))) (List.drop (Int.toNat (u : Int)) I))) (iadd .i64 (j : Int) (1 : Int)))))))) Q := fun hs R Q k hk => by
        refine Does.req (by simp; omega) (Does.req (by simp; omega) (Does.req (by simp; omega) (Does.req (by simp; omega) (Does.req (by simp; omega) ?_))))
        rw [fin u hu hb hs, iadd_i64 (by omega)]
        exact hk
      refine Does.cond (fun hlt3 => ?_) (fun hlt3 => ?_)
      · have hlt3 := ilt_iff.1 hlt3
        simp only [llen] at hlt3
        refine Does.getO (by omega) (by omega) fun y hy => ?_
        rw [hy, bnd_some, bnd_some]
        rw [Int.toNat_natCast] at hy
        refine Does.cond (fun hb3 => Does.val ?_) (fun hb3 => Does.val ?_)
        · dsimp only
          rw [iadd_i64 (by omega)]
          exact ⟨⟨rfl, u + 1, rfl, by omega, upto_step (P := fun _ x => x.1 < m.1) hb hy (ilt_iff.1 hb3)⟩, by omega⟩
        · refine out (fun x hx => by rw [hy] at hx; injection hx with hx; rw [← hx]; have := ilt_false.1 hb3; omega) (fun l i => some (Sum.inl (((), ()), (((G : Int), (e.2.2.2.1, (llen e.2.2.2.1, (i, ())))), (e, (noVer, (l, ()))))))) (Does.val ?_)
          exact ⟨⟨j + 1, rfl, by omega⟩, by dsimp only; omega⟩
      · have hlt3 := ilt_false.1 hlt3
        simp only [llen] at hlt3
        refine Does.val ?_
        refine out (fun x hx => by have := (List.getElem?_eq_some_iff.1 hx).1; omega) (fun l i => some (Sum.inl (((), ()), (((G : Int), (e.2.2.2.1, (llen e.2.2.2.1, (i, ())))), (e, (noVer, (l, ()))))))) (Does.val ?_)
        exact ⟨⟨j + 1, rfl, by omega⟩, by dsimp only; omega⟩
    · have hlt2 := ilt_false.1 hlt2
      simp only [llen] at hlt2
      have hjA : e.2.2.2.1.take j = e.2.2.2.1 := List.take_of_length_le (by omega)
      rw [hjA]
      refine Does.val ?_
      dsimp only
      refine Does.cond (fun h6 => Does.val (bad fun h => ?_)) (fun h6 => ?_)
      · have h6 : ieq (G : Int) (llen e.2.2.1) = false := by simpa using h6
        have h6 := ieq_false.1 h6
        simp only [llen] at h6
        have := hcnt.2 h.2.2.2.1
        omega
      · have h6 : ieq (G : Int) (llen e.2.2.1) = true := by simpa using h6
        have h6 := ieq_iff.1 h6
        simp only [llen] at h6
        have hf := hcnt.1 (by omega)
        have hil2 := hil j
        rw [hjA] at hil2
        refine Does.bnd (f_spec_GoodVersionDoes (x := ((e.1, (e.2.1, (insAll e.2.2.2.1 F, ()))), ())) (by dsimp only; omega)) fun r18 hr18 => ?_
        dsimp only at hr18
        have hav : (e.1, (e.2.1, (insAll e.2.2.2.1 F, ()))) = appV v e := by rw [hF]; rfl
        rw [hav] at hr18 ⊢
        refine Does.cond (fun h7 => Does.val (bad fun h => ?_)) (fun h7 => Does.val ?_)
        · have := hr18.2 h.2.2.2.2
          rw [this] at h7; cases h7
        · unfold appR
          rw [if_pos ⟨⟨E1, E2, E3, E4, E5⟩, h4, h5, hf, hr18.1 (by simpa using h7)⟩]

end Go.Proofs.Ytbekojfgnbnpcaa
