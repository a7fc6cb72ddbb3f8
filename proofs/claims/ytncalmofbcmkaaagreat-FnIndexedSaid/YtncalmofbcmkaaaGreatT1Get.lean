/- GetFrom: both sides the same. -/
import Derived.Test.YtncalmofbcmkaaaGreatT1Same
set_option linter.all false
noncomputable section
namespace Go.Proofs.YtncalmofbcmkaaaGreat
open Go Go.Proofs.YtncalmofbcmkaaaGreat.Ev

/-! ### the first item that is not less -/
def bsGo (l : List DItem) (x : DItem) : Nat → Nat → Nat → Nat
  | 0, lo, _ => lo
  | f + 1, lo, hi => if lo < hi then (match l[(lo + hi) / 2]? with
      | some y => cond (ilt (cmpItem y x) 0) (bsGo l x f ((lo + hi) / 2 + 1) hi) (bsGo l x f lo ((lo + hi) / 2))
      | none => lo) else lo
def seekN (l : List DItem) (x : DItem) : Nat := bsGo l x (l.length + 1) 0 l.length

theorem bsGo_le (l : List DItem) (x : DItem) : ∀ (f lo hi : Nat), lo ≤ hi → bsGo l x f lo hi ≤ hi
  | 0, lo, hi, h => h
  | f + 1, lo, hi, h => by
    rw [bsGo]
    split
    · split
      · cases ilt (cmpItem _ x) 0 with
        | true => exact bsGo_le l x f _ _ (by omega)
        | false => exact Nat.le_trans (bsGo_le l x f lo ((lo + hi) / 2) (by omega)) (by omega)
      · exact h
    · exact h

theorem f_spec_l6Seek_i6Val {R : Type} (l : List DItem) (m : Int) (b : Bool) (x : DItem) (lo hi : Int) (kk : (((List DItem) × Int × Bool × Unit) × (DItem × Unit)) → ((Int × Int × Unit) × Unit) → Option R) :
    f_spec_l6Seek_i6 R ((l, (m, (b, ()))), (x, ())) ((lo, (hi, ())), ()) kk = kk ((l, (m, (b, ()))), (x, ())) ((cond b (iadd .i64 m 1) lo, (cond b hi m, ())), ()) := by
  unfold f_spec_l6Seek_i6
  cases b <;> rfl

theorem f_spec_l6SeekLoop {R : Type} (l : List DItem) (x : DItem) (hl : l.length ≤ 1000000) (kk : (Unit × Unit) → ((Int × Unit) × (DItem × Unit)) → Option R) :
    ∀ (f lo hi : Nat), hi < f + lo → lo ≤ hi → hi ≤ l.length → loopF (c := f_spec_l6Seek_l3c) (v := f_spec_l6Seek_l3v) (ex := f_spec_l6Seek_l3e) f_spec_l6Seek_l3 R ((), ()) ((l, ((lo : Int), ((hi : Int), ()))), (x, ())) kk = kk ((), ()) ((((bsGo l x f lo hi : Nat) : Int), ()), (x, ())) := by
  intro f
  induction f with
  | zero => intro lo hi h1 h2; omega
  | succ f ih =>
    intro lo hi h1 h2 h3
    by_cases h : lo < hi
    · have c1 : ilt (lo : Int) (hi : Int) = true := ilt_iff.2 (by omega)
      obtain ⟨y, hy⟩ : ∃ y, l[(lo + hi) / 2]? = some y := ⟨_, List.getElem?_eq_getElem (by omega)⟩
      have em : iquo .i64 (iadd .i64 (lo : Int) (hi : Int)) (2 : Int) = (((lo + hi) / 2 : Nat) : Int) := by rw [iaddN (by omega), iquo2 (by omega)]
      have ep : iadd .i64 (((lo + hi) / 2 : Nat) : Int) (1 : Int) = (((lo + hi) / 2 + 1 : Nat) : Int) := iaddN (b := 1) (by omega)
      rw [bsGo, if_pos h, hy]
      dsimp only
      cases hc : ilt (cmpItem y x) 0 with
      | true =>
        rw [loopF_more (c' := ((), ())) (v' := ((l, ((((lo + hi) / 2 + 1 : Nat) : Int), ((hi : Int), ()))), (x, ()))) (by
          simp only [round, f_spec_l6Seek_l3, c1, cond_true, em]
          rw [getO_at (by omega) (by rw [Int.toNat_natCast]; exact hy), f_spec_l4CompareVal, bnd_some, f_spec_l6Seek_i6Val]
          dsimp only
          rw [hc, cond_true, cond_true, ep])]
        exact ih _ _ (by omega) (by omega) h3
      | false =>
        rw [loopF_more (c' := ((), ())) (v' := ((l, ((lo : Int), ((((lo + hi) / 2 : Nat) : Int), ()))), (x, ()))) (by
          simp only [round, f_spec_l6Seek_l3, c1, cond_true, em]
          rw [getO_at (by omega) (by rw [Int.toNat_natCast]; exact hy), f_spec_l4CompareVal, bnd_some, f_spec_l6Seek_i6Val]
          dsimp only
          rw [hc, cond_false, cond_false])]
        exact ih _ _ (by omega) (by omega) (by omega)
    · have c1 : ilt (lo : Int) (hi : Int) = false := ilt_false.2 (by omega)
      rw [loopF_done (c' := ((), ())) (o := (((lo : Int), ()), (x, ()))) (by simp only [round, f_spec_l6Seek_l3, c1, cond_false])]
      rw [bsGo, if_neg h]

theorem f_spec_l6SeekVal (q : List DItem × DItem × Unit) (hl : q.1.length ≤ 1000000) : f_spec_l6Seek q = some ((((seekN q.1 q.2.1 : Nat) : Int), ()), ()) := by
  unfold f_spec_l6Seek
  have h1 := fun (R : Type) kk => f_spec_l6SeekLoop (R := R) q.1 q.2.1 hl kk (q.1.length + 1) 0 q.1.length (by omega) (by omega) (Nat.le_refl _)
  rw [show ((0 : Nat) : Int) = (0 : Int) from rfl] at h1
  rw [show llen q.1 = ((q.1.length : Nat) : Int) from rfl, h1]
  rfl

theorem f_slices_BinarySearchFunc_Item_i6Val {R : Type} (l : List DItem) (F : (DItem × DItem × Unit) → Option (Int × Unit)) (n m : Int) (b : Bool) (x : DItem) (lo hi : Int) (kk : (((List DItem) × ((DItem × DItem × Unit) → Option (Int × Unit)) × Int × Int × Bool × Unit) × (DItem × Unit)) → ((Int × Int × Unit) × Unit) → Option R) :
    f_slices_BinarySearchFunc_Item_i6 R ((l, (F, (n, (m, (b, ()))))), (x, ())) ((lo, (hi, ())), ()) kk = kk ((l, (F, (n, (m, (b, ()))))), (x, ())) ((cond b (iadd .i64 m 1) lo, (cond b hi m, ())), ()) := by
  unfold f_slices_BinarySearchFunc_Item_i6
  cases b <;> rfl

theorem f_slices_BinarySearchFunc_ItemLoop {R : Type} (l : List DItem) (x : DItem) (F : (DItem × DItem × Unit) → Option (Int × Unit)) (hF : ∀ z, F z = some (cmpItem z.1 z.2.1, ())) (n : Int) (hl : l.length ≤ 1000000) (kk : (Unit × Unit) → (((List DItem) × ((DItem × DItem × Unit) → Option (Int × Unit)) × Int × Int × Unit) × (DItem × Unit)) → Option R) :
    ∀ (f lo hi : Nat), hi < f + lo → lo ≤ hi → hi ≤ l.length → loopF (c := f_slices_BinarySearchFunc_Item_l3c) (v := f_slices_BinarySearchFunc_Item_l3v) (ex := f_slices_BinarySearchFunc_Item_l3e) f_slices_BinarySearchFunc_Item_l3 R ((), ()) ((l, (F, (n, ((lo : Int), ((hi : Int), ()))))), (x, ())) kk = kk ((), ()) ((l, (F, (n, (((bsGo l x f lo hi : Nat) : Int), ())))), (x, ())) := by
  intro f
  induction f with
  | zero => intro lo hi h1 h2; omega
  | succ f ih =>
    intro lo hi h1 h2 h3
    by_cases h : lo < hi
    · have c1 : ilt (lo : Int) (hi : Int) = true := ilt_iff.2 (by omega)
      obtain ⟨y, hy⟩ : ∃ y, l[(lo + hi) / 2]? = some y := ⟨_, List.getElem?_eq_getElem (by omega)⟩
      have em : IntKind.wrap .i64 (ishr .u64 (IntKind.wrap .u64 (iadd .i64 (lo : Int) (hi : Int))) (1 : Int)) = (((lo + hi) / 2 : Nat) : Int) := by
        rw [iaddN (by omega), wrap_u64, Int.emod_eq_of_lt (by omega) (by omega), show ishr .u64 ((lo + hi : Nat) : Int) (1 : Int) = ((lo + hi : Nat) : Int) / (2 ^ 1 : Int) from ishr_div 1 (by decide), wrap_i64 _ (by omega)]
        omega
      have ep : iadd .i64 (((lo + hi) / 2 : Nat) : Int) (1 : Int) = (((lo + hi) / 2 + 1 : Nat) : Int) := iaddN (b := 1) (by omega)
      rw [bsGo, if_pos h, hy]
      dsimp only
      cases hc : ilt (cmpItem y x) 0 with
      | true =>
        refine Eq.trans (loopF_more (c := f_slices_BinarySearchFunc_Item_l3c) (v := f_slices_BinarySearchFunc_Item_l3v) (ex := f_slices_BinarySearchFunc_Item_l3e) (stepK := f_slices_BinarySearchFunc_Item_l3) (c' := ((), ())) (v' := ((l, (F, (n, ((((lo + hi) / 2 + 1 : Nat) : Int), ((hi : Int), ()))))), (x, ()))) (by
          simp only [round, f_slices_BinarySearchFunc_Item_l3, c1, cond_true, em]
          rw [getO_at (by omega) (by rw [Int.toNat_natCast]; exact hy), hF, bnd_some, f_slices_BinarySearchFunc_Item_i6Val]
          dsimp only
          rw [hc, cond_true, cond_true, ep]) kk) ?_
        exact ih _ _ (by omega) (by omega) h3
      | false =>
        refine Eq.trans (loopF_more (c := f_slices_BinarySearchFunc_Item_l3c) (v := f_slices_BinarySearchFunc_Item_l3v) (ex := f_slices_BinarySearchFunc_Item_l3e) (stepK := f_slices_BinarySearchFunc_Item_l3) (c' := ((), ())) (v' := ((l, (F, (n, ((lo : Int), ((((lo + hi) / 2 : Nat) : Int), ()))))), (x, ()))) (by
          simp only [round, f_slices_BinarySearchFunc_Item_l3, c1, cond_true, em]
          rw [getO_at (by omega) (by rw [Int.toNat_natCast]; exact hy), hF, bnd_some, f_slices_BinarySearchFunc_Item_i6Val]
          dsimp only
          rw [hc, cond_false, cond_false]) kk) ?_
        exact ih _ _ (by omega) (by omega) (by omega)
    · have c1 : ilt (lo : Int) (hi : Int) = false := ilt_false.2 (by omega)
      refine Eq.trans (loopF_done (c := f_slices_BinarySearchFunc_Item_l3c) (v := f_slices_BinarySearchFunc_Item_l3v) (ex := f_slices_BinarySearchFunc_Item_l3e) (stepK := f_slices_BinarySearchFunc_Item_l3) (c' := ((), ())) (o := ((l, (F, (n, ((lo : Int), ())))), (x, ()))) (by simp only [round, f_slices_BinarySearchFunc_Item_l3, c1, cond_false]) kk) ?_
      rw [bsGo, if_neg h]

theorem f_impl_seekRunVal (q : List DItem × ByteArray × Int × Unit) (hl : q.1.length ≤ 1000000) : f_impl_seekRun q = some ((((seekN q.1 (q.2.1, (q.2.2.1, (0, (⟨#[]⟩, ())))) : Nat) : Int), ()), ()) := by
  unfold f_impl_seekRun f_slices_BinarySearchFunc_Item
  dsimp only
  have hF : ∀ z : DItem × DItem × Unit, (fun z : DItem × DItem × Unit => (bnd (f_impl_itemOrder (z.1, (z.2.1, ()))) fun r => (some r.1))) z = some (cmpItem z.1 z.2.1, ()) := by
    intro z; dsimp only; rw [f_impl_itemOrderVal, bnd_some]
  generalize (fun z : DItem × DItem × Unit => (bnd (f_impl_itemOrder (z.1, (z.2.1, ()))) fun r => (some r.1))) = F at hF ⊢
  have h1 := fun (R : Type) n kk => f_slices_BinarySearchFunc_ItemLoop (R := R) q.1 (q.2.1, (q.2.2.1, (0, (⟨#[]⟩, ())))) F hF n hl kk (q.1.length + 1) 0 q.1.length (by omega) (by omega) (Nat.le_refl _)
  refine Eq.trans (congrArg (fun z : Option ((Int × Bool × Unit) × Unit) => bnd z fun r1 => (some ((r1.1.1, ()), ()))) (h1 _ _ _)) ?_
  dsimp only
  rw [show bsGo q.1 (q.2.1, (q.2.2.1, (0, (⟨#[]⟩, ())))) (q.1.length + 1) 0 q.1.length = seekN q.1 (q.2.1, (q.2.2.1, (0, (⟨#[]⟩, ())))) from rfl]
  generalize seekN q.1 (q.2.1, (q.2.2.1, (0, (⟨#[]⟩, ())))) = k
  by_cases h : k < q.1.length
  · rw [show ilt (k : Int) (llen q.1) = true from ilt_iff.2 (by simp only [llen]; omega), cond_true]
    rw [getO_at (by omega) (by rw [Int.toNat_natCast]; exact List.getElem?_eq_getElem h)]
    exact Eq.trans (congrArg (fun z : Option (Int × Unit) => bnd (bnd z fun r8 => (some (((k : Int), ((ieq r8.1 (0 : Int)), ())), ()))) fun r1 => (some ((r1.1.1, ()), ()))) (hF (q.1[k], ((q.2.1, (q.2.2.1, (0, (⟨#[]⟩, ())))), ())))) rfl
  · rw [show ilt (k : Int) (llen q.1) = false from ilt_false.2 (by simp only [llen]; omega), cond_false, bnd_some]

/-! ### what a filter says -/
def hasB (bits : ByteArray) (p : Int) : Bool := ieq (iand .u8 (ishr .u8 ((byteAt bits (p.toNat / 8) : Nat) : Int) ((p.toNat % 8 : Nat) : Int)) (1 : Int)) (1 : Int)
theorem iand_one (a : Int) : iand .u8 a 1 = 0 ∨ iand .u8 a 1 = 1 := by
  simp only [iand, wrap_u8]
  have : (BitVec.ofInt IntKind.u8.bits a &&& BitVec.ofInt IntKind.u8.bits 1).toNat = (BitVec.ofInt IntKind.u8.bits a).toNat % 2 := by
    rw [BitVec.toNat_and, show (BitVec.ofInt IntKind.u8.bits 1).toNat = 1 from rfl, Nat.and_one_is_mod]
  rw [this]
  omega
theorem hasB_not (bits : ByteArray) (p : Int) : ieq (iand .u8 (ishr .u8 ((byteAt bits (p.toNat / 8) : Nat) : Int) ((p.toNat % 8 : Nat) : Int)) (1 : Int)) (0 : Int) = !hasB bits p := by
  unfold hasB
  rcases iand_one (ishr .u8 ((byteAt bits (p.toNat / 8) : Nat) : Int) ((p.toNat % 8 : Nat) : Int)) with h | h <;> rw [h] <;> rfl

def mayB (bits key : ByteArray) : Bool := (keyPl key 4).all (hasB bits)
theorem f_slices_IndexFunc_intLoop {R : Type} (ps : List Int) (bits : ByteArray) (F : (Int × Unit) → Option (Bool × Unit)) (hF : ∀ p ∈ ps, F (p, ()) = some (!hasB bits p, ())) (hl : ps.length ≤ 1000) (kk : (((List Int) × ((Int × Unit) → Option (Bool × Unit)) × Int × Unit) × Unit) → (((Int × Unit) × Unit) ⊕ (Unit × Unit)) → Option R) :
    ∀ (B A : List Int), A ++ B = ps → ∃ n : Nat, loopF (c := f_slices_IndexFunc_int_l2c) (v := f_slices_IndexFunc_int_l2v) (ex := f_slices_IndexFunc_int_l2e) f_slices_IndexFunc_int_l2 R ((ps, (F, (llen ps, ()))), ()) ((((A.length : Nat) : Int), ()), ()) kk = kk ((ps, (F, (llen ps, ()))), ()) (cond (B.all (hasB bits)) (.inr ((), ())) (.inl (((n : Int), ()), ()))) := by
  intro B
  induction B with
  | nil =>
    intro A hf
    have h1' : ilt ((A.length : Nat) : Int) (llen ps) = false := by rw [← hf]; exact mid_end A
    exact ⟨0, loopF_done (c := f_slices_IndexFunc_int_l2c) (v := f_slices_IndexFunc_int_l2v) (ex := f_slices_IndexFunc_int_l2e) (stepK := f_slices_IndexFunc_int_l2) (c' := ((ps, (F, (llen ps, ()))), ())) (o := (Sum.inr ((), ()) : _ ⊕ _)) (by simp only [round, f_slices_IndexFunc_int_l2, h1', cond_false]) kk⟩
  | cons p B ih =>
    intro A hf
    have h1' : ilt ((A.length : Nat) : Int) (llen ps) = true := by rw [← hf]; exact mid_lt A B p
    have hg : ps[A.length]? = some p := by rw [← hf]; exact mid_get A B p
    have hlen := congrArg List.length hf
    simp only [List.length_append, List.length_cons] at hlen
    have h2 : iadd .i64 ((A.length : Nat) : Int) (1 : Int) = (((A ++ [p]).length : Nat) : Int) := mid_next A p (by omega)
    have hFp := hF p (by rw [← hf]; simp)
    rw [List.all_cons]
    cases hh : hasB bits p with
    | true =>
      obtain ⟨n, hn⟩ := ih (A ++ [p]) (by simp [← hf])
      refine ⟨n, Eq.trans (loopF_more (c := f_slices_IndexFunc_int_l2c) (v := f_slices_IndexFunc_int_l2v) (ex := f_slices_IndexFunc_int_l2e) (stepK := f_slices_IndexFunc_int_l2) (c' := ((ps, (F, (llen ps, ()))), ())) (v' := (((((A ++ [p]).length : Nat) : Int), ()), ())) (by
        simp only [round, f_slices_IndexFunc_int_l2, h1', cond_true]
        rw [getO_at (by omega) (by rw [Int.toNat_natCast]; exact hg), hFp, bnd_some, hh, Bool.not_true, cond_false, h2]) kk) ?_⟩
      exact hn
    | false =>
      refine ⟨A.length, Eq.trans (loopF_done (c := f_slices_IndexFunc_int_l2c) (v := f_slices_IndexFunc_int_l2v) (ex := f_slices_IndexFunc_int_l2e) (stepK := f_slices_IndexFunc_int_l2) (c' := ((ps, (F, (llen ps, ()))), ())) (o := (Sum.inl ((((A.length : Nat) : Int), ()), ()) : _ ⊕ _)) (by
        simp only [round, f_slices_IndexFunc_int_l2, h1', cond_true]
        rw [getO_at (by omega) (by rw [Int.toNat_natCast]; exact hg), hFp, bnd_some, hh, Bool.not_false, cond_true]) kk) ?_⟩
      rfl

theorem f_impl_MayHaveVal (bits key : ByteArray) (n : Nat) (h32 : bits.size = 32) (hn : n ≤ 1000) (hk : isKeyB key = true) : f_impl_MayHave (filtF bits n, (key, ())) = some ((mayB bits key, (true, ())), ()) := by
  have hks := isKey_size hk
  unfold f_impl_MayHave
  rw [f_impl_GoodFilterVal _ _ h32 hn, bnd_some, f_impl_isKeyVal, bnd_some]
  dsimp only
  rw [hk, Bool.not_true, cond_false, cond_false]
  rw [f_impl_placesVal _ 4 rfl (by omega) (by dsimp only; omega), bnd_some]
  dsimp only
  have hF : ∀ p ∈ keyPl key 4, (bnd (f_impl_MayHave_1 (p, (filtF bits n, ()))) fun r => (some r.1)) = some (!hasB bits p, ()) := by
    intro p hp
    have hpr := keyPl_range key 4 p hp
    unfold f_impl_MayHave_1 f_impl_Filter_has_r
    dsimp only [filtF]
    rw [place_quo hpr, place_rem hpr, getBy (by omega), show ile (0 : Int) ((p.toNat % 8 : Nat) : Int) = true from ile_iff.2 (by omega), req_true, bnd_some]
    rfl
  unfold f_slices_ContainsFunc_int f_slices_IndexFunc_int
  dsimp only
  have hF' : ∀ p ∈ keyPl key 4, (fun z : Int × Unit => (bnd (f_impl_MayHave_1 (z.1, (filtF bits n, ()))) fun r => (some r.1))) (p, ()) = some (!hasB bits p, ()) := hF
  generalize (fun z : Int × Unit => (bnd (f_impl_MayHave_1 (z.1, (filtF bits n, ()))) fun r => (some r.1))) = F at hF' ⊢
  obtain ⟨n', h1⟩ := f_slices_IndexFunc_intLoop (keyPl key 4) bits F hF' (by rw [keyPl_length]; omega) (fun c3 o4 =>
 (match o4 with
 | .inl y5 => (some (((y5.1.1 : Int), ()), ()))
 | .inr z6 => (some (((-1 : Int), ()), ())))) (keyPl key 4) [] rfl
  rw [show (((([] : List Int).length : Nat)) : Int) = (0 : Int) from rfl] at h1
  refine Eq.trans (congrArg (fun z : Option ((Int × Unit) × Unit) => bnd (bnd z fun r1 => (some (((ile (0 : Int) r1.1.1), ()), ()))) fun r4 => (some (((!r4.1.1), (true, ())), ()))) h1) ?_
  rw [mayB]
  cases (keyPl key 4).all (hasB bits) with
  | true => rfl
  | false =>
    dsimp only [cond_false]
    simp only [bnd_some]
    rw [show ile (0 : Int) (n' : Int) = true from ile_iff.2 (by omega)]
    rfl

/-! ### the law -/
def isSeqB (n : Int) : Bool := inR n 0 1000000000
theorem f_impl_isSeqVal (x : Int × Unit) : f_impl_isSeq x = some ((isSeqB x.1, ()), ()) := by
  simp only [f_impl_isSeq, val_f_impl_in, bnd_some, isSeqB]
theorem f_spec_l4SeqVal (x : Int × Unit) : f_spec_l4Seq x = some ((isSeqB x.1, ()), ()) := by
  simp only [f_spec_l4Seq, val_f_spec_l1In, bnd_some, isSeqB]

end Go.Proofs.YtncalmofbcmkaaaGreat
