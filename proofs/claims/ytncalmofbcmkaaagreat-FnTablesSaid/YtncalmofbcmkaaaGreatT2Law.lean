/- FnTables over typed functions. -/
import Derived.Test.YtncalmofbcmkaaaGreatT2Draw
import Derived.Test.YtncalmofbcmkaaaGreatR1SameI
set_option linter.all false
noncomputable section
namespace Go.Proofs.YtncalmofbcmkaaaGreat
open Go Go.Proofs.YtncalmofbcmkaaaGreat.Ev

/-- what GetFrom answers about a table -/
theorem f_impl_GetFromVal {l : List DItem} (hok : okRun l) (key : ByteArray) (seq' : Int) (hk : isKeyB key = true) (hq : isSeqB seq' = true) :
    f_impl_GetFrom (tableB l, (key, (seq', ()))) = some (if mayB (bitsOf (keysOf l)) key = true then (match l[seekN l (key, (seq', (0, (⟨#[]⟩, ()))))]? with
      | none => ((noItem, ((0 : Int), (false, ()))), ())
      | some y => if y.1 = key then ((y, ((1 : Int), (true, ()))), ()) else ((noItem, ((1 : Int), (false, ()))), ())) else ((noItem, ((0 : Int), (false, ()))), ())) := by
  have hsz := table_size hok
  obtain ⟨t, ok, h1, h2⟩ := readTable_is (tableB l) (by omega)
  rw [specT_back hok] at h2
  obtain ⟨rfl, rfl⟩ := h2
  have hl := hok.2
  have hkl := keysOf_len l
  unfold f_impl_GetFrom
  dsimp only
  rw [h1, bnd_some, f_impl_isKeyVal]
  dsimp only [tabD]
  simp only [Bool.not_true, cond_false, bnd_some, hk]
  rw [f_impl_isSeqVal]
  simp only [Bool.not_true, cond_false, bnd_some, hq]
  rw [f_impl_seekRunVal _ (by dsimp only; omega), bnd_some]
  dsimp only
  rw [show filt (keysOf l) = filtF (bitsOf (keysOf l)) (keysOf l).length from rfl, f_impl_MayHaveVal _ _ _ (bitsOf_size _) (by omega) hk, bnd_some]
  dsimp only
  cases hm : mayB (bitsOf (keysOf l)) key with
  | false => rfl
  | true =>
    rw [Bool.not_true, cond_false, if_pos rfl]
    have hle : seekN l (key, (seq', (0, (⟨#[]⟩, ())))) ≤ l.length := seekN_le l _
    generalize seekN l (key, (seq', (0, (⟨#[]⟩, ())))) = k at *
    by_cases he : k = l.length
    · have hnone : l[k]? = none := List.getElem?_eq_none (by omega)
      rw [show ieq (k : Int) (llen l) = true from ieq_iff.2 (by simp only [llen]; omega), cond_true, hnone]
      rfl
    · rw [show ieq (k : Int) (llen l) = false from ieq_false.2 (by simp only [llen]; omega)]
      simp only [cond_false]
      have hg : l[k]? = some l[k] := List.getElem?_eq_getElem (by omega)
      have hgo : ∀ {Q : Type} (kk : DItem → Option Q), getO l (k : Int) kk = kk l[k] := fun kk => getO_at (by omega) (by rw [Int.toNat_natCast]; exact hg)
      simp only [hgo, Int.toNat_natCast, hg, bnd_some]
      by_cases hs : l[k].1 = key
      · rw [if_pos hs, (seq_iff _ _).2 hs]; rfl
      · rw [if_neg hs, seq_false.2 hs]; rfl

theorem f_impl_GetFromBad {l : List DItem} (hok : okRun l) (key : ByteArray) (seq' : Int) (h : isKeyB key = false ∨ isSeqB seq' = false) :
    f_impl_GetFrom (tableB l, (key, (seq', ()))) = some ((noItem, ((0 : Int), (false, ()))), ()) := by
  have hsz := table_size hok
  obtain ⟨t, ok, h1, h2⟩ := readTable_is (tableB l) (by omega)
  rw [specT_back hok] at h2
  obtain ⟨rfl, rfl⟩ := h2
  unfold f_impl_GetFrom
  dsimp only
  rw [h1, bnd_some, f_impl_isKeyVal]
  dsimp only [tabD]
  simp only [Bool.not_true, cond_false, bnd_some]
  cases hk : isKeyB key with
  | false => rfl
  | true =>
    rcases h with h | h
    · rw [hk] at h; cases h
    · rw [f_impl_isSeqVal]
      simp only [Bool.not_true, cond_false, bnd_some, h]
      rfl

theorem true_f_laws_FnTables (x : List Int × List Int × Unit) (hx : ∀ b ∈ x.1, 0 ≤ b ∧ b < 256) (hy : ∀ b ∈ x.2.1, 0 ≤ b ∧ b < 256) : f_laws_FnTables x = some ((true, ()), ()) := by
  obtain ⟨code, more, ⟨⟩⟩ := x
  dsimp only at hx hy
  unfold f_laws_FnTables
  dsimp only
  cases ilt (1048576 : Int) (iadd .i64 (llen code) (llen more)) with
  | true => rfl
  | false =>
  rw [cond_false]
  obtain ⟨⟨⟨l, ⟨⟩⟩, ⟨⟩⟩, e1, hl⟩ := f_spec_DrawTableBytesDoes (x := (code, ())) hx
  dsimp only at hl
  rw [e1, bnd_some]
  dsimp only
  rw [f_impl_TableBytesVal _ (by dsimp only; omega), bnd_some, f_spec_TableBytesVal _ (by dsimp only; omega), bnd_some, beqB_self, Bool.not_true, cond_false, seq_self, Bool.not_true, cond_false]
  unfold outT
  dsimp only
  by_cases hok : okRun l
  case neg =>
    rw [if_neg hok]
    dsimp only
    rw [Bool.not_false, cond_true, seq_self]
  rw [if_pos hok]
  dsimp only
  have hsz := table_size hok
  obtain ⟨m, ok, e2, _, hm⟩ := readTable_impl (tableB l) (by omega)
  rw [specT_back hok] at hm
  obtain ⟨hm1, hm2⟩ := hm
  rw [hm1, hm2] at e2
  rw [Bool.not_true, cond_false, e2, bnd_some]
  dsimp only
  rw [Bool.not_true, cond_false, f_laws_sameItemsSame _ rfl (by dsimp only; omega), bnd_some]
  dsimp only
  rw [Bool.not_true, cond_false]
  obtain ⟨⟨⟨t, key, seq', ⟨⟩⟩, ⟨⟩⟩, e3, _⟩ := f_spec_DrawGetFromDoes (x := (more, ())) hy
  rw [e3, bnd_some]
  dsimp only
  have hgr := hok.1
  unfold f_spec_SeekRun
  rw [f_spec_GoodRunVal _ (by dsimp only; omega)]
  simp only [bnd_some]
  rw [hgr, Bool.not_true, cond_false, f_spec_l4KeyVal, bnd_some]
  dsimp only
  cases hk : isKeyB key with
  | false =>
    rw [f_impl_GetFromBad hok _ _ (.inl hk), bnd_some]
    rfl
  | true =>
  rw [Bool.not_true, cond_false, f_spec_l4SeqVal, bnd_some]
  dsimp only
  cases hq : isSeqB seq' with
  | false =>
    rw [f_impl_GetFromBad hok _ _ (.inr hq), bnd_some]
    rfl
  | true =>
  rw [Bool.not_true, cond_false, f_impl_GetFromVal hok _ _ hk hq, bnd_some, f_spec_l6SeekVal _ (by dsimp only; omega), bnd_some, bnd_some]
  dsimp only
  rw [Bool.not_true, cond_false]
  have hle : seekN l (key, (seq', (0, (⟨#[]⟩, ())))) ≤ l.length := seekN_le l _
  generalize seekN l (key, (seq', (0, (⟨#[]⟩, ())))) = k at *
  by_cases hlt : k < l.length
  · have hg : l[k]? = some l[k] := List.getElem?_eq_getElem hlt
    have hgo : ∀ {Q : Type} (kk : DItem → Option Q), getO l (k : Int) kk = kk l[k] := fun kk => getO_at (by omega) (by rw [Int.toNat_natCast]; exact hg)
    rw [show ilt (k : Int) (llen l) = true from ilt_iff.2 (by simp only [llen]; omega), cond_true]
    simp only [hgo, Int.toNat_natCast, hg, bnd_some]
    by_cases hs : l[k].1 = key
    · have hm : mayB (bitsOf (keysOf l)) key = true := mayB_of (by rw [← hs]; exact keysOf_mem (List.mem_of_getElem? hg))
      rw [if_pos hm, if_pos hs, (seq_iff _ _).2 hs]
      dsimp only
      rw [beqB_self, cond_true, show ile (1 : Int) (1 : Int) = true from rfl, cond_true, Bool.not_true, cond_false, show eqK kdItem l[k] l[k] = true from eqK_self (k := kdItem) l[k] rfl, cond_true]
      rfl
    · rw [seq_false.2 hs, if_neg hs]
      cases mayB (bitsOf (keysOf l)) key <;> rfl
  · rw [show ilt (k : Int) (llen l) = false from ilt_false.2 (by simp only [llen]; omega), cond_false, List.getElem?_eq_none (by omega)]
    cases mayB (bitsOf (keysOf l)) key <;> rfl

end Go.Proofs.YtncalmofbcmkaaaGreat
