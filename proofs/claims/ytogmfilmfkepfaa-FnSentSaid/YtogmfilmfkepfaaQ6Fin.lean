/- A taking is finished: the files as they were, or nothing. -/
import Derived.Test.YtogmfilmfkepfaaQ6Miss
set_option linter.all false
noncomputable section
namespace Go.Proofs.Ytogmfilmfkepfaa
open Go Go.Proofs.Ytogmfilmfkepfaa.Ev

theorem empty_app (a : ByteArray) : (⟨#[]⟩ : ByteArray) ++ a = a := ByteArray.empty_append
def addF (f : Int) (a : ByteArray) (c : DChunk) : ByteArray := bif ieq c.1 f then a ++ c.2.2.1 else a
def catF (f : Int) (L : List DChunk) : ByteArray := L.foldl (addF f) ⟨#[]⟩
theorem fold_skip {f : Int} : ∀ {L : List DChunk} {a : ByteArray}, (∀ c ∈ L, c.1 ≠ f) → L.foldl (addF f) a = a
  | [], a, h => rfl
  | c :: L, a, h => by
    have h1 : ieq c.1 f = false := by
      cases e : ieq c.1 f with
      | false => rfl
      | true => exact absurd (ieq_iff.1 e) (h c List.mem_cons_self)
    rw [List.foldl_cons, addF, h1, cond_false, fold_skip fun x hx => h x (List.mem_cons_of_mem _ hx)]
theorem fold_range (g : Nat) (s a : ByteArray) : ∀ k, k ≤ nck s → ((List.range k).map (ck g s)).foldl (addF (g : Int)) a = a ++ s.extract 0 (min (64 * k) s.size)
  | 0, _ => by
    rw [show min (64 * 0) s.size = 0 by omega, ByteArray.extract_same]
    simp
  | k + 1, h => by
    have hk : 64 * k < s.size := nck_lt.1 (by omega)
    rw [fck_succ, List.foldl_append, fold_range g s a k (by omega)]
    show addF (g : Int) (a ++ s.extract 0 (min (64 * k) s.size)) (ck g s k) = _
    rw [addF, show ieq (ck g s k).1 (g : Int) = true from ieq_iff.2 rfl, cond_true, ByteArray.append_assoc]
    congr 1
    show s.extract 0 (min (64 * k) s.size) ++ s.extract (64 * k) (min (64 * k + 64) s.size) = _
    rw [show min (64 * k) s.size = 64 * k by omega, ByteArray.extract_append_extract]
    congr 1 <;> omega
theorem fold_fck (g : Nat) (s a : ByteArray) : (fck g s).foldl (addF (g : Int)) a = a ++ s := by
  rw [fck, fold_range g s a (nck s) (Nat.le_refl _), show min (64 * nck s) s.size = s.size by unfold nck; omega, ByteArray.extract_zero_size]
theorem fck_file {g : Nat} {s : ByteArray} {c : DChunk} (h : c ∈ fck g s) : c.1 = (g : Int) := by
  obtain ⟨j, _, rfl⟩ := List.mem_map.1 h; rfl
theorem cks_file {g : Nat} {l : List ByteArray} {c : DChunk} (h : c ∈ cks g l) : (g : Int) ≤ c.1 := by
  obtain ⟨i, s, j, _, _, rfl⟩ := cks_mem h
  simp only [ck]; omega
theorem fold_cks : ∀ {l : List ByteArray} {g i : Nat} {s a : ByteArray}, l[i]? = some s → (cks g l).foldl (addF ((g + i : Nat) : Int)) a = a ++ s
  | [], g, i, s, a, h => by simp at h
  | x :: l, g, 0, s, a, h => by
    simp at h
    subst h
    rw [cks, List.foldl_append, Nat.add_zero, fold_fck]
    exact fold_skip fun c hc => by have := cks_file hc; omega
  | x :: l, g, i + 1, s, a, h => by
    rw [cks, List.foldl_append, fold_skip (L := fck g x) fun c hc => by rw [fck_file hc]; omega]
    rw [show g + (i + 1) = g + 1 + i by omega]
    exact fold_cks (by simpa using h)
theorem catF_all {fs : List ByteArray} {i : Nat} {s : ByteArray} (h : fs[i]? = some s) : catF (i : Int) (cks 0 fs) = s := by
  have := fold_cks (g := 0) (a := ⟨#[]⟩) h
  rw [Nat.zero_add] at this
  rw [catF, this, empty_app]
theorem catF_snoc (f : Int) (L : List DChunk) (c : DChunk) : catF f (L ++ [c]) = addF f (catF f L) c := by simp [catF]
theorem fold_size {f : Int} : ∀ {L : List DChunk} {a : ByteArray}, (∀ c ∈ L, c.2.2.1.size ≤ 64) → (L.foldl (addF f) a).size ≤ a.size + 64 * L.length
  | [], a, h => by simp
  | c :: L, a, h => by
    have h1 := h c List.mem_cons_self
    have h2 := fold_size (f := f) (L := L) (a := addF f a c) fun x hx => h x (List.mem_cons_of_mem _ hx)
    rw [List.foldl_cons, List.length_cons]
    have h3 : (addF f a c).size ≤ a.size + 64 := by
      unfold addF
      cases ieq c.1 f with
      | true => rw [cond_true, ByteArray.size_append]; omega
      | false => rw [cond_false]; omega
    omega

theorem contains_Wanted (l : List DWanted) (hl : l.length ≤ 1000000) (F : (DWanted × Unit) → Option (Bool × Unit)) (p : DWanted → Bool) (hF : ∀ z, F z = some (p z.1, ())) : f_slices_ContainsFunc_Wanted (l, (F, ())) = some ((l.any p, ()), ()) := by
  refine toSome ?_
  unfold f_slices_ContainsFunc_Wanted
  refine Does.bnd (P := fun r => ile 0 r.1.1 = l.any p) ?_ fun r hr => by rw [hr]; exact Does.val rfl
  unfold f_slices_IndexFunc_Wanted
  dsimp only
  refine Does.loop (c := f_slices_IndexFunc_Wanted_l2c) (v := f_slices_IndexFunc_Wanted_l2v) (ex := f_slices_IndexFunc_Wanted_l2e) (I := fun c v => c = ((l, (F, (llen l, ()))), ()) ∧ ∃ i : Nat, i ≤ l.length ∧ v = (((i : Int), ()), ()) ∧ ∀ x ∈ l.take i, p x = false) (μ := fun _ v => ((l.length : Int) - v.1.1).toNat) (fun c v hI => ?_) ⟨rfl, 0, by omega, rfl, by simp⟩
  obtain ⟨rfl, i, hi, rfl, hp⟩ := hI
  simp only [round, f_slices_IndexFunc_Wanted_l2]
  refine Does.cond (fun hlt => ?_) fun hlt => Does.val (Does.val ?_)
  · have hlt : (i : Int) < (l.length : Int) := ilt_iff.1 hlt
    refine Does.getO (by omega) hlt fun y hy => ?_
    rw [Int.toNat_natCast] at hy
    rw [hF, bnd_some]
    dsimp only
    refine Does.cond (fun hc => Does.val (Does.val ?_)) fun hc => Does.val ?_
    · dsimp only
      rw [ile_iff.2 (by omega)]
      exact (List.any_eq_true.2 ⟨y, List.mem_of_getElem? hy, hc⟩).symm
    · have e1 : iadd .i64 (i : Int) (1 : Int) = ((i + 1 : Nat) : Int) := iaddN (b := 1) (by omega)
      rw [e1]
      exact ⟨⟨rfl, i + 1, by omega, rfl, any_take hp hy hc⟩, by dsimp only; omega⟩
  · have hlt : (l.length : Int) ≤ (i : Int) := ilt_false.1 hlt
    rw [show i = l.length by omega, List.take_length] at hp
    dsimp only
    rw [show ile 0 (-1 : Int) = false from rfl]
    exact (List.any_eq_false.2 (by simpa using hp)).symm

section
variable {fs : List ByteArray} (hok : okF fs = true)
include hok
theorem want_in : ∀ w ∈ wantP fs, (ile 0 w.1 && ile w.1 4000) = true := by
  intro w hw
  obtain ⟨s, hs, rfl⟩ := List.mem_map.1 hw
  have := okF_size hok hs
  simp only [slen, Bool.and_eq_true, ile_iff]
  omega
theorem f_impl_wantOkVal : f_impl_wantOk (wantP fs, ()) = some ((true, ()), ()) := by
  have hl := okF_len hok
  unfold f_impl_wantOk
  dsimp only
  rw [ile_iff.2 (by simp only [llen, wantP_len]; omega), cond_true, contains_Wanted (wantP fs) (by rw [wantP_len]; omega) (fun z => (bnd (f_impl_wantOk_1 (z.1, ())) fun r => (some r.1))) (fun w => !(ile 0 w.1 && ile w.1 4000)) (fun z => by unfold f_impl_wantOk_1; dsimp only; rw [inVal]; rfl), bnd_some]
  dsimp only
  rw [List.any_eq_false.2 fun w hw => by rw [want_in hok w hw]; simp]
  rfl
theorem f_spec_l13WantVal : f_spec_l13Want (wantP fs, ()) = some ((true, ()), ()) := by
  have hl := okF_len hok
  refine toSome ?_
  unfold f_spec_l13Want
  dsimp only
  refine Does.loop (c := f_spec_l13Want_l2c) (v := f_spec_l13Want_l2v) (ex := f_spec_l13Want_l2e) (I := fun c v => c = ((wantP fs, (wantP fs, (llen (wantP fs), ()))), ()) ∧ ∃ i : Nat, i ≤ fs.length ∧ v = (((i : Int), ()), ())) (μ := fun _ v => ((fs.length : Int) - v.1.1).toNat) (fun c v hI => ?_) ⟨rfl, 0, by omega, rfl⟩
  obtain ⟨rfl, i, hi, rfl⟩ := hI
  simp only [round, f_spec_l13Want_l2]
  refine Does.cond (fun hlt => ?_) fun hlt => Does.val (Does.val ?_)
  · have hlt := ilt_iff.1 hlt
    simp only [llen, wantP_len] at hlt
    refine Does.getO (by omega) (by rw [wantP_len]; exact hlt) fun w hw => ?_
    rw [inSVal, bnd_some, want_in hok w (List.mem_of_getElem? hw)]
    dsimp only
    rw [Bool.not_true, cond_false, show iadd .i64 (i : Int) (1 : Int) = ((i + 1 : Nat) : Int) from iaddN (b := 1) (by omega)]
    exact Does.val ⟨⟨rfl, i + 1, by omega, rfl⟩, by dsimp only; omega⟩
  · dsimp only
    rw [ile_iff.2 (by simp only [llen, wantP_len]; omega)]
theorem f_spec_NewTakingVal : f_spec_NewTaking (wantP fs, ()) = some (((wantP fs, (([] : List DChunk), ())), (true, ())), ()) := by
  have hl := okF_len hok
  unfold f_spec_NewTaking
  dsimp only
  rw [f_spec_l13WantVal hok, bnd_some]
  dsimp only
  rw [Bool.not_true, cond_false, req_true_of (by rw [wantP_len]; omega)]

theorem f_impl_GoodTakingVal (hk : (cks 0 fs).length ≤ 200) {m : List Bool} : f_impl_GoodTaking ((wantP fs, (sel (cks 0 fs) m, ())), ()) = some ((true, ()), ()) := by
  have hgl := sel_length (cks 0 fs) m
  have hsort : SortedB keyC ltP (sel (cks 0 fs) m) := List.Pairwise.sublist (sel_sub _ _) (cks_sorted fs 0)
  have hmem : ∀ x ∈ sel (cks 0 fs) m, x ∈ cks 0 fs := fun x hx => sel_mem hx
  refine toSome ?_
  unfold f_impl_GoodTaking
  dsimp only
  rw [f_impl_wantOkVal hok, bnd_some]
  dsimp only
  rw [Bool.not_true, cond_false, ilt_false.2 (by simp only [llen]; omega), cond_false]
  generalize sel (cks 0 fs) m = G at *
  refine Does.loop (c := f_impl_GoodTaking_l4c) (v := f_impl_GoodTaking_l4v) (ex := f_impl_GoodTaking_l4e) (I := fun c v => c = ((G, (llen G, ())), ()) ∧ ∃ i : Nat, i ≤ G.length ∧ v = (((i : Int), ()), ((wantP fs, (G, ())), ()))) (μ := fun _ v => ((G.length : Int) - v.1.1).toNat) (fun c v hI => ?_) ⟨rfl, 0, by omega, rfl⟩
  obtain ⟨rfl, i, hi, rfl⟩ := hI
  simp only [round, f_impl_GoodTaking_l4]
  refine Does.cond (fun hlt => ?_) fun hlt => Does.val (Does.val rfl)
  have hlt := ilt_iff.1 hlt
  simp only [llen] at hlt
  refine Does.getO (by omega) hlt fun x hx => ?_
  rw [Int.toNat_natCast] at hx
  have e1 : iadd .i64 (i : Int) (1 : Int) = ((i + 1 : Nat) : Int) := iaddN (b := 1) (by omega)
  obtain ⟨a, s, j, hs, hj, hc⟩ := cks_mem (hmem x (List.mem_of_getElem? hx))
  rw [Nat.zero_add] at hc
  have hck := f_impl_Taking_chunkOk_wVal hok hs hj G (ckD s j) rfl (ckSum a (64 * j) (ckD s j))
  rw [ieq_iff.2 rfl] at hck
  rw [show (((a : Int), (((64 * j : Nat) : Int), (ckD s j, (ckSum a (64 * j) (ckD s j), ())))) : DChunk) = x from hc.symm] at hck
  rw [hck, bnd_some]
  dsimp only
  rw [Bool.not_true, cond_false, e1]
  refine Does.cond (fun h0 => ?_) fun _ => Does.val ⟨⟨rfl, i + 1, by omega, rfl⟩, by dsimp only; omega⟩
  have h0 := ilt_iff.1 h0
  have e2 : isub .i64 (i : Int) (1 : Int) = ((i - 1 : Nat) : Int) := by rw [isub_i64 (by omega)]; omega
  rw [e2]
  refine Does.getO (by omega) (by omega) fun y hy => ?_
  rw [Int.toNat_natCast] at hy
  have hlty := hsort.at (show i - 1 < i by omega) hy hx
  rw [f_impl_chunkOrderVal, bnd_some]
  dsimp only
  rw [show ile 0 (cmpC y x) = false by
    have := cmpC_lt y x
    rw [hlty] at this
    have := ilt_iff.1 this
    exact ile_false.2 this, cond_false]
  exact Does.val ⟨⟨rfl, i + 1, by omega, rfl⟩, by dsimp only; omega⟩
end

section
variable {fs : List ByteArray} (hok : okF fs = true) (hk : (cks 0 fs).length ≤ 200)
include hok hk
theorem impl_join {R : Type} {Q : R → Prop} {kk} (h : Does (kk ((cks 0 fs, (llen (cks 0 fs), ())), ((wantP fs, (cks 0 fs, ())), ())) ((), (fs, ()))) Q) :
    Does (loopF (c := f_impl_FinishTaking_l5c) (v := f_impl_FinishTaking_l5v) (ex := f_impl_FinishTaking_l5e) f_impl_FinishTaking_l5 R ((cks 0 fs, (llen (cks 0 fs), ())), ((wantP fs, (cks 0 fs, ())), ())) (((0 : Int), ()), (List.replicate fs.length (⟨#[]⟩ : ByteArray), ())) kk) Q := by
  have hl := okF_len hok
  refine Does.loop (c := f_impl_FinishTaking_l5c) (v := f_impl_FinishTaking_l5v) (ex := f_impl_FinishTaking_l5e)
    (I := fun c v => c = ((cks 0 fs, (llen (cks 0 fs), ())), ((wantP fs, (cks 0 fs, ())), ())) ∧ ∃ (i : Nat) (out : List ByteArray), i ≤ (cks 0 fs).length ∧ v = (((i : Int), ()), (out, ())) ∧ out.length = fs.length ∧ ∀ f, f < fs.length → out[f]? = some (catF (f : Int) ((cks 0 fs).take i))) (μ := fun _ v => (((cks 0 fs).length : Int) - v.1.1).toNat) (fun c v hI => ?_) ⟨rfl, 0, _, by omega, rfl, by simp, fun f hf => by simp [hf, catF]⟩
  obtain ⟨rfl, i, out, hi, rfl, hol, hout⟩ := hI
  simp only [round, f_impl_FinishTaking_l5]
  refine Does.cond (fun hlt => ?_) fun hlt => Does.val ?_
  · have hlt := ilt_iff.1 hlt
    simp only [llen] at hlt
    refine Does.getO (by omega) hlt fun x hx => ?_
    rw [Int.toNat_natCast] at hx
    have hxm := List.mem_of_getElem? hx
    obtain ⟨a, s, j, hs, hj, hc⟩ := cks_mem hxm
    rw [Nat.zero_add] at hc
    have ha := (List.getElem?_eq_some_iff.1 hs).1
    have hxa : x.1 = (a : Int) := by rw [hc]; rfl
    have hsz : (catF (a : Int) ((cks 0 fs).take i)).size ≤ 64 * i := by
      have := fold_size (f := (a : Int)) (L := (cks 0 fs).take i) (a := ⟨#[]⟩) fun c hc => ck_mem_size (List.mem_of_mem_take hc)
      rw [List.length_take] at this
      unfold catF
      have h0 : (⟨#[]⟩ : ByteArray).size = 0 := rfl
      omega
    have hd := ck_mem_size hxm
    have hoa := hout a ha
    have hgo : ∀ {α : Type} (q : ByteArray → Option α), getO out ((a : Nat) : Int) q = q (catF (a : Int) ((cks 0 fs).take i)) := fun q => getO_at (by omega) (by rw [Int.toNat_natCast]; exact hoa)
    rw [hxa, hgo, Int.toNat_natCast, hoa, bnd_some, catO_some (by omega), hgo, bnd_some, show iadd .i64 (i : Int) (1 : Int) = ((i + 1 : Nat) : Int) from iaddN (b := 1) (by omega)]
    refine Does.val ⟨⟨rfl, i + 1, _, by omega, rfl, by simpa using hol, fun f hf => ?_⟩, by dsimp only; omega⟩
    rw [List.take_add_one, hx]
    show _ = some (catF (f : Int) ((cks 0 fs).take i ++ [x]))
    rw [catF_snoc, addF, hxa]
    by_cases hfa : f = a
    · subst hfa
      rw [ieq_iff.2 rfl, cond_true, List.getElem?_set_self (by omega)]
    · rw [show ieq (a : Int) (f : Int) = false by
        cases e : ieq (a : Int) (f : Int) with
        | false => rfl
        | true => have := ieq_iff.1 e; omega, cond_false, List.getElem?_set_ne (by omega)]
      exact hout f hf
  · have hlt := ilt_false.1 hlt
    simp only [llen] at hlt
    have : i = (cks 0 fs).length := by omega
    subst this
    rw [List.take_length] at hout
    have : out = fs := by
      refine List.ext_getElem? fun f => ?_
      by_cases hf : f < fs.length
      · have hg := List.getElem?_eq_getElem hf
        rw [hout f hf, hg, catF_all hg]
      · rw [List.getElem?_eq_none (by omega), List.getElem?_eq_none (by omega)]
    rw [this]
    exact h
theorem impl_check {R : Type} {Q : R → Prop} {kk} (h : Does (kk ((wantP fs, (llen (wantP fs), ())), (fs, ())) (Sum.inr ((), ()))) Q) :
    Does (loopF (c := f_impl_FinishTaking_l10c) (v := f_impl_FinishTaking_l10v) (ex := f_impl_FinishTaking_l10e) f_impl_FinishTaking_l10 R ((wantP fs, (llen (wantP fs), ())), (fs, ())) (((0 : Int), ()), ()) kk) Q := by
  have hl := okF_len hok
  refine Does.loop (c := f_impl_FinishTaking_l10c) (v := f_impl_FinishTaking_l10v) (ex := f_impl_FinishTaking_l10e)
    (I := fun c v => c = ((wantP fs, (llen (wantP fs), ())), (fs, ())) ∧ ∃ i : Nat, i ≤ fs.length ∧ v = (((i : Int), ()), ())) (μ := fun _ v => ((fs.length : Int) - v.1.1).toNat) (fun c v hI => ?_) ⟨rfl, 0, by omega, rfl⟩
  obtain ⟨rfl, i, hi, rfl⟩ := hI
  simp only [round, f_impl_FinishTaking_l10]
  refine Does.cond (fun hlt => ?_) fun hlt => Does.val h
  have hlt := ilt_iff.1 hlt
  simp only [llen, wantP_len] at hlt
  obtain ⟨s, hs⟩ : ∃ s, fs[i]? = some s := ⟨_, List.getElem?_eq_getElem (by omega)⟩
  have hz := okF_size hok (List.mem_of_getElem? hs)
  rw [getO_at (by omega) (by rw [Int.toNat_natCast]; exact wantP_get hs), getO_at (by omega) (by rw [Int.toNat_natCast]; exact hs), Int.toNat_natCast, hs, bnd_some, f_impl_SumOfVal _ (by dsimp only; omega), bnd_some]
  dsimp only
  rw [ieq_iff.2 rfl, Bool.not_true, cond_false, show iadd .i64 (i : Int) (1 : Int) = ((i + 1 : Nat) : Int) from iaddN (b := 1) (by omega)]
  exact Does.val ⟨⟨rfl, i + 1, by omega, rfl⟩, by dsimp only; omega⟩
end

section
variable {fs : List ByteArray} (hok : okF fs = true) (hk : (cks 0 fs).length ≤ 200)
include hok hk
theorem spec_join {R : Type} {Q : R → Prop} {kk} (h : Does (kk ((cks 0 fs, (llen (cks 0 fs), ())), ((wantP fs, (cks 0 fs, ())), ())) ((), (fs, ()))) Q) :
    Does (loopF (c := f_spec_l13Finish_l5c) (v := f_spec_l13Finish_l5v) (ex := f_spec_l13Finish_l5e) f_spec_l13Finish_l5 R ((cks 0 fs, (llen (cks 0 fs), ())), ((wantP fs, (cks 0 fs, ())), ())) (((0 : Int), ()), (List.replicate fs.length (⟨#[]⟩ : ByteArray), ())) kk) Q := by
  have hl := okF_len hok
  refine Does.loop (c := f_spec_l13Finish_l5c) (v := f_spec_l13Finish_l5v) (ex := f_spec_l13Finish_l5e)
    (I := fun c v => c = ((cks 0 fs, (llen (cks 0 fs), ())), ((wantP fs, (cks 0 fs, ())), ())) ∧ ∃ (i : Nat) (out : List ByteArray), i ≤ (cks 0 fs).length ∧ v = (((i : Int), ()), (out, ())) ∧ out.length = fs.length ∧ ∀ f, f < fs.length → out[f]? = some (catF (f : Int) ((cks 0 fs).take i))) (μ := fun _ v => (((cks 0 fs).length : Int) - v.1.1).toNat) (fun c v hI => ?_) ⟨rfl, 0, _, by omega, rfl, by simp, fun f hf => by simp [hf, catF]⟩
  obtain ⟨rfl, i, out, hi, rfl, hol, hout⟩ := hI
  simp only [round, f_spec_l13Finish_l5]
  refine Does.cond (fun hlt => ?_) fun hlt => Does.val ?_
  · have hlt := ilt_iff.1 hlt
    simp only [llen] at hlt
    refine Does.getO (by omega) hlt fun x hx => ?_
    rw [Int.toNat_natCast] at hx
    have hxm := List.mem_of_getElem? hx
    obtain ⟨a, s, j, hs, hj, hc⟩ := cks_mem hxm
    rw [Nat.zero_add] at hc
    have ha := (List.getElem?_eq_some_iff.1 hs).1
    have hxa : x.1 = (a : Int) := by rw [hc]; rfl
    have hsz : (catF (a : Int) ((cks 0 fs).take i)).size ≤ 64 * i := by
      have := fold_size (f := (a : Int)) (L := (cks 0 fs).take i) (a := ⟨#[]⟩) fun c hc => ck_mem_size (List.mem_of_mem_take hc)
      rw [List.length_take] at this
      unfold catF
      have h0 : (⟨#[]⟩ : ByteArray).size = 0 := rfl
      omega
    have hd := ck_mem_size hxm
    have hoa := hout a ha
    have hgo : ∀ {α : Type} (q : ByteArray → Option α), getO out ((a : Nat) : Int) q = q (catF (a : Int) ((cks 0 fs).take i)) := fun q => getO_at (by omega) (by rw [Int.toNat_natCast]; exact hoa)
    rw [hxa, hgo, Int.toNat_natCast, hoa, bnd_some, catO_some (by omega), hgo, bnd_some, show iadd .i64 (i : Int) (1 : Int) = ((i + 1 : Nat) : Int) from iaddN (b := 1) (by omega)]
    refine Does.val ⟨⟨rfl, i + 1, _, by omega, rfl, by simpa using hol, fun f hf => ?_⟩, by dsimp only; omega⟩
    rw [List.take_add_one, hx]
    show _ = some (catF (f : Int) ((cks 0 fs).take i ++ [x]))
    rw [catF_snoc, addF, hxa]
    by_cases hfa : f = a
    · subst hfa
      rw [ieq_iff.2 rfl, cond_true, List.getElem?_set_self (by omega)]
    · rw [show ieq (a : Int) (f : Int) = false by
        cases e : ieq (a : Int) (f : Int) with
        | false => rfl
        | true => have := ieq_iff.1 e; omega, cond_false, List.getElem?_set_ne (by omega)]
      exact hout f hf
  · have hlt := ilt_false.1 hlt
    simp only [llen] at hlt
    have : i = (cks 0 fs).length := by omega
    subst this
    rw [List.take_length] at hout
    have : out = fs := by
      refine List.ext_getElem? fun f => ?_
      by_cases hf : f < fs.length
      · have hg := List.getElem?_eq_getElem hf
        rw [hout f hf, hg, catF_all hg]
      · rw [List.getElem?_eq_none (by omega), List.getElem?_eq_none (by omega)]
    rw [this]
    exact h
theorem spec_check {R : Type} {Q : R → Prop} {kk} (h : Does (kk ((wantP fs, (llen (wantP fs), ())), (fs, ())) (Sum.inr ((), ()))) Q) :
    Does (loopF (c := f_spec_l13Finish_l10c) (v := f_spec_l13Finish_l10v) (ex := f_spec_l13Finish_l10e) f_spec_l13Finish_l10 R ((wantP fs, (llen (wantP fs), ())), (fs, ())) (((0 : Int), ()), ()) kk) Q := by
  have hl := okF_len hok
  refine Does.loop (c := f_spec_l13Finish_l10c) (v := f_spec_l13Finish_l10v) (ex := f_spec_l13Finish_l10e)
    (I := fun c v => c = ((wantP fs, (llen (wantP fs), ())), (fs, ())) ∧ ∃ i : Nat, i ≤ fs.length ∧ v = (((i : Int), ()), ())) (μ := fun _ v => ((fs.length : Int) - v.1.1).toNat) (fun c v hI => ?_) ⟨rfl, 0, by omega, rfl⟩
  obtain ⟨rfl, i, hi, rfl⟩ := hI
  simp only [round, f_spec_l13Finish_l10]
  refine Does.cond (fun hlt => ?_) fun hlt => Does.val h
  have hlt := ilt_iff.1 hlt
  simp only [llen, wantP_len] at hlt
  obtain ⟨s, hs⟩ : ∃ s, fs[i]? = some s := ⟨_, List.getElem?_eq_getElem (by omega)⟩
  have hz := okF_size hok (List.mem_of_getElem? hs)
  rw [getO_at (by omega) (by rw [Int.toNat_natCast]; exact wantP_get hs), getO_at (by omega) (by rw [Int.toNat_natCast]; exact hs), Int.toNat_natCast, hs, bnd_some, f_spec_l2SumVal _ (by dsimp only; omega), bnd_some]
  dsimp only
  rw [ieq_iff.2 rfl, Bool.not_true, cond_false, show iadd .i64 (i : Int) (1 : Int) = ((i + 1 : Nat) : Int) from iaddN (b := 1) (by omega)]
  exact Does.val ⟨⟨rfl, i + 1, by omega, rfl⟩, by dsimp only; omega⟩
end

def finA (fs : List ByteArray) (m : List Bool) : List ByteArray × Bool × Unit := (bif m.all id then fs else [], (m.all id, ()))
section
variable {fs : List ByteArray} (hok : okF fs = true) (hk : (cks 0 fs).length ≤ 200) {m : List Bool} (hm : m.length = (cks 0 fs).length)
include hok hk hm
theorem f_impl_FinishTakingVal : f_impl_FinishTaking ((wantP fs, (sel (cks 0 fs) m, ())), ()) = some (finA fs m, ()) := by
  have hl := okF_len hok
  refine toSome ?_
  obtain ⟨l, h1, h2⟩ := f_impl_missing hok hk hm
  unfold f_impl_FinishTaking finA
  dsimp only
  rw [f_impl_GoodTakingVal hok hk, bnd_some]
  dsimp only
  rw [Bool.not_true, cond_false, h1, bnd_some]
  dsimp only
  cases ha : m.all id with
  | false =>
    rw [ha] at h2
    have : 0 < l.length := by cases l with
      | nil => cases h2
      | cons a l => simp
    rw [ilt_iff.2 (by simp only [llen]; omega), cond_true]
    exact Does.val rfl
  | true =>
    rw [ha] at h2
    have : l = [] := by simpa using h2
    rw [this, sel_all _ _ hm ha, show ilt 0 (llen ([] : List DChunk)) = false from rfl, cond_false]
    rw [show (decide ((llen (wantP fs)) = (llen (wantP fs))) && (decide ((0 : Int) ≤ (llen (wantP fs))) && decide ((llen (wantP fs)) ≤ (68719476736 : Int)))) = true by simp [llen, wantP_len]; omega, req_true]
    rw [show Int.toNat (llen (wantP fs)) = fs.length by simp only [llen, wantP_len]; omega]
    refine impl_join hok hk (impl_check hok hk (Does.val rfl))
theorem f_spec_l13FinishVal : f_spec_l13Finish ((wantP fs, (sel (cks 0 fs) m, ())), ()) = some (finA fs m, ()) := by
  have hl := okF_len hok
  refine toSome ?_
  obtain ⟨l, h1, h2⟩ := f_spec_missing hok hk hm
  unfold f_spec_l13Finish finA
  dsimp only
  rw [h1, bnd_some]
  dsimp only
  cases ha : m.all id with
  | false =>
    rw [ha] at h2
    have : 0 < l.length := by cases l with
      | nil => cases h2
      | cons a l => simp
    rw [ilt_iff.2 (by simp only [llen]; omega), cond_true]
    exact Does.val rfl
  | true =>
    rw [ha] at h2
    have : l = [] := by simpa using h2
    rw [this, sel_all _ _ hm ha, show ilt 0 (llen ([] : List DChunk)) = false from rfl, cond_false]
    rw [show (decide ((llen (wantP fs)) = (llen (wantP fs))) && (decide ((0 : Int) ≤ (llen (wantP fs))) && decide ((llen (wantP fs)) ≤ (68719476736 : Int)))) = true by simp [llen, wantP_len]; omega, req_true]
    rw [show Int.toNat (llen (wantP fs)) = fs.length by simp only [llen, wantP_len]; omega]
    refine spec_join hok hk (spec_check hok hk (Does.val rfl))
end

end Go.Proofs.Ytogmfilmfkepfaa
