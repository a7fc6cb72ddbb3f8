/- Edits written and read back. -/
import Derived.Test.YtbekojfgnbnpcaaV9Base
set_option linter.all false
noncomputable section
namespace Go.Proofs.Ytbekojfgnbnpcaa
open Go Go.Proofs.Ytbekojfgnbnpcaa.Ev

theorem inR_nat {x a b : Int} (h : inR x a b = true) (ha : 0 ≤ a) (hb : b ≤ 1000000000) : natI x := by
  have := (inR_iff x a b).1 h
  exact ⟨by omega, by omega⟩

theorem goodMeta_N {m : DMeta} (h : goodMetaB m = true) : MetaN m := by
  unfold goodMetaB at h
  cases h1 : inR m.1 1 100000 with
  | false => rw [h1] at h; cases h
  | true =>
  rw [h1, cond_true] at h
  cases h2 : inR m.2.1 0 3 with
  | false => rw [h2] at h; cases h
  | true =>
  rw [h2, cond_true] at h
  cases h3 : inR (slen m.2.2.1) 1 16 with
  | false => rw [h3] at h; cases h
  | true =>
  rw [h3, cond_true] at h
  cases h4 : inR (slen m.2.2.2.1) 1 16 with
  | false => rw [h4] at h; cases h
  | true =>
  have h3 := (inR_iff _ _ _).1 h3
  have h4 := (inR_iff _ _ _).1 h4
  simp only [slen] at h3 h4
  exact ⟨inR_nat h1 (by decide) (by decide), inR_nat h2 (by decide) (by decide), by omega, by omega⟩

theorem goodEd_nat {e : DEdit} (h : GoodEd e) : natI e.1 ∧ natI e.2.1 ∧ (∀ x ∈ e.2.2.1, natI x) ∧ ∀ m ∈ e.2.2.2.1, MetaN m := by
  obtain ⟨h1, h2, h3, h4, h5⟩ := h
  refine ⟨inR_nat h1 (by decide) (by decide), inR_nat h2 (by decide) (by decide), fun x hx => ?_, fun m hm => ?_⟩
  · obtain ⟨i, hi, rfl⟩ := List.getElem_of_mem hx
    exact inR_nat (h5 i _ (List.getElem?_eq_getElem hi)).1 (by decide) (by decide)
  · obtain ⟨i, hi, rfl⟩ := List.getElem_of_mem hm
    exact goodMeta_N (h4.2 i _ (List.getElem?_eq_getElem hi)).1

theorem f_impl_varI {x : Int} (h : natI x) : f_impl_varBytes (x, ()) = some ((varB x.toNat, ()), ()) := f_impl_varBytesVal (x, ()) x.toNat (by have := h.1; dsimp only; omega) (by have := h.2; have := h.1; omega)

theorem f_impl_EditBytes_l5Lp {R : Type} (l : List Int) (hl : l.length ≤ 1000) (hn : ∀ x ∈ l, natI x) (e : DEdit) (kk : (((List Int) × Int × Unit) × (DEdit × Unit)) → ((ByteArray × Unit) × Unit) → Option R) :
    ∀ (B A : List Int) (out : ByteArray), A ++ B = l → out.size + 9 * B.length ≤ 1000000 →
      loopF (c := f_impl_EditBytes_l5c) (v := f_impl_EditBytes_l5v) (ex := f_impl_EditBytes_l5e) f_impl_EditBytes_l5 R ((l, (llen l, ())), (e, ())) ((out, (((A.length : Nat) : Int), ())), ()) kk = kk ((l, (llen l, ())), (e, ())) ((out ++ numsB B, ()), ())
  | [], A, out, h, ho => by
    subst h
    rw [loopF_done (c' := ((A ++ [], (llen (A ++ []), ())), (e, ()))) (o := ((out, ()), ())) (by simp only [round, f_impl_EditBytes_l5, mid_end, cond_false])]
    simp only [numsB, append_empty]
  | y :: B, A, out, h, ho => by
    have hA : A.length + 1 ≤ l.length := by rw [← h]; simp
    have hy := hn y (by rw [← h]; simp)
    have hs := varB_size y.toNat
    simp only [List.length_cons] at ho
    rw [loopF_more (c' := ((l, (llen l, ())), (e, ()))) (v' := ((out ++ varB y.toNat, ((((A ++ [y]).length : Nat) : Int), ())), ())) (by
      rw [← h]
      simp only [round, f_impl_EditBytes_l5, mid_lt, cond_true, mid_getO]
      rw [f_impl_varI hy, bnd_some, catO_some (by dsimp only; omega), mid_next A y (by omega)])]
    rw [f_impl_EditBytes_l5Lp l hl hn e kk B (A ++ [y]) (out ++ varB y.toNat) (by simp [← h]) (by rw [ByteArray.size_append]; omega)]
    simp only [numsB, ByteArray.append_assoc]

theorem f_impl_EditBytes_l11Lp {R : Type} (l : List DMeta) (hl : l.length ≤ 1000) (hn : ∀ x ∈ l, MetaN x) (kk : (((List DMeta) × Int × Unit) × Unit) → ((ByteArray × Unit) × Unit) → Option R) :
    ∀ (B A : List DMeta) (out : ByteArray), A ++ B = l → out.size + 2036 * B.length ≤ 100000000 →
      loopF (c := f_impl_EditBytes_l11c) (v := f_impl_EditBytes_l11v) (ex := f_impl_EditBytes_l11e) f_impl_EditBytes_l11 R ((l, (llen l, ())), ()) ((out, (((A.length : Nat) : Int), ())), ()) kk = kk ((l, (llen l, ())), ()) ((out ++ metasB B, ()), ())
  | [], A, out, h, ho => by
    subst h
    rw [loopF_done (c' := ((A ++ [], (llen (A ++ []), ())), ())) (o := ((out, ()), ())) (by simp only [round, f_impl_EditBytes_l11, mid_end, cond_false])]
    simp only [metasB, append_empty]
  | y :: B, A, out, h, ho => by
    have hA : A.length + 1 ≤ l.length := by rw [← h]; simp
    have hy := hn y (by rw [← h]; simp)
    have hs := metaB_size hy
    simp only [List.length_cons] at ho
    have h1 := varB_size y.1.toNat
    have h2 := varB_size y.2.1.toNat
    have h3 := varB_size y.2.2.1.size
    have h4 := varB_size y.2.2.2.1.size
    obtain ⟨n1, n2, n3, n4⟩ := hy
    rw [loopF_more (c' := ((l, (llen l, ())), ())) (v' := ((out ++ metaB y, ((((A ++ [y]).length : Nat) : Int), ())), ())) (by
      rw [← h]
      simp only [round, f_impl_EditBytes_l11, mid_lt, cond_true, mid_getO]
      rw [f_impl_varI n1, bnd_some, f_impl_varI n2, bnd_some, catO_some (by dsimp only; omega), f_impl_sizedVal _ (by dsimp only; omega), bnd_some, catO_some (by simp only [ByteArray.size_append]; omega),
        f_impl_sizedVal _ (by dsimp only; omega), bnd_some, catO_some (by simp only [ByteArray.size_append]; omega), catO_some (by simp only [ByteArray.size_append]; omega), mid_next A y (by omega)]
      simp only [metaB, ByteArray.append_assoc])]
    rw [f_impl_EditBytes_l11Lp l hl hn kk B (A ++ [y]) (out ++ metaB y) (by simp [← h]) (by rw [ByteArray.size_append]; omega)]
    simp only [metasB, ByteArray.append_assoc]

open Classical in
def edB (e : DEdit) : ByteArray × Bool × Unit := if GoodEd e ∧ (editB e).size ≤ 1000 then (editB e, (true, ())) else (⟨#[]⟩, (false, ()))

theorem f_impl_EditBytesDoes (e : DEdit) (h1 : e.2.2.1.length ≤ 1000) (h2 : e.2.2.2.1.length ≤ 1000) : Does (f_impl_EditBytes (e, ())) fun r => r = (edB e, ()) := by
  unfold f_impl_EditBytes
  refine Does.bnd (f_impl_goodEditDoes (x := (e, ())) h1 h2) fun r1 hr1 => ?_
  dsimp only at hr1 ⊢
  refine Does.cond (fun h => Does.val ?_) (fun h => ?_)
  · have hn : ¬ GoodEd e := fun hg => by rw [hr1.2 hg] at h; cases h
    unfold edB
    rw [if_neg fun hh => hn hh.1]
  · have hg : GoodEd e := hr1.1 (by simpa using h)
    obtain ⟨a1, a2, a3, a4⟩ := goodEd_nat hg
    have s1 := varB_size e.1.toNat
    have s2 := varB_size e.2.1.toNat
    have s3 := varB_size e.2.2.1.length
    have s4 := varB_size e.2.2.2.1.length
    have s5 := numsB_size e.2.2.1
    rw [f_impl_varI a1, bnd_some, f_impl_varI a2, bnd_some, catO_some (by dsimp only; omega), f_impl_varBytesVal (llen e.2.2.1, ()) e.2.2.1.length rfl (by omega), bnd_some, catO_some (by simp only [ByteArray.size_append]; omega)]
    have k1 := f_impl_EditBytes_l5Lp e.2.2.1 h1 a3 e (R := (ByteArray × Bool × Unit) × Unit)
    rw [show (0 : Int) = ((([] : List Int).length : Nat) : Int) from rfl]
    rw [k1 _ e.2.2.1 [] _ rfl (by simp only [ByteArray.size_append]; omega)]
    dsimp only
    rw [f_impl_varBytesVal (llen e.2.2.2.1, ()) e.2.2.2.1.length rfl (by omega), bnd_some, catO_some (by simp only [ByteArray.size_append]; omega)]
    rw [show (((([] : List Int).length : Nat) : Int)) = ((([] : List DMeta).length : Nat) : Int) from rfl]
    rw [f_impl_EditBytes_l11Lp e.2.2.2.1 h2 a4 _ e.2.2.2.1 [] _ rfl (by simp only [ByteArray.size_append]; omega)]
    dsimp only
    have he : varB e.1.toNat ++ varB e.2.1.toNat ++ varB e.2.2.1.length ++ numsB e.2.2.1 ++ varB e.2.2.2.1.length ++ metasB e.2.2.2.1 = editB e := rfl
    rw [he]
    refine Does.cond (fun h => Does.val ?_) (fun h => Does.val ?_)
    · have h := ilt_iff.1 h
      simp only [slen] at h
      unfold edB
      rw [if_neg fun hh => by have := hh.2; omega]
    · have h := ilt_false.1 h
      simp only [slen] at h
      unfold edB
      rw [if_pos ⟨hg, by omega⟩]

theorem f_spec_EditBytesDoes (e : DEdit) (h1 : e.2.2.1.length ≤ 1000) (h2 : e.2.2.2.1.length ≤ 1000) : Does (f_spec_EditBytes (e, ())) fun r => r = (edB e, ()) := by
  unfold f_spec_EditBytes
  refine Does.bnd (f_spec_l9EditDoes (x := (e, ())) h1 h2) fun r1 hr1 => ?_
  dsimp only at hr1 ⊢
  refine Does.cond (fun h => Does.val ?_) (fun h => ?_)
  · have hn : ¬ GoodEd e := fun hg => by rw [hr1.2 hg] at h; cases h
    unfold edB
    rw [if_neg fun hh => hn hh.1]
  · have hg : GoodEd e := hr1.1 (by simpa using h)
    obtain ⟨a1, a2, a3, a4⟩ := goodEd_nat hg
    rw [f_spec_l9BytesVal (x := (e, ())) h1 h2 a1 a2 a3 a4, bnd_some, bnd_some]
    dsimp only
    refine Does.cond (fun h => Does.val ?_) (fun h => Does.val ?_)
    · have h := ilt_iff.1 h
      simp only [slen] at h
      unfold edB
      rw [if_neg fun hh => by have := hh.2; omega]
    · have h := ilt_false.1 h
      simp only [slen] at h
      unfold edB
      rw [if_pos ⟨hg, by omega⟩]

/-! ### read back -/
theorem dr_app (a b : ByteArray) : dr (a ++ b) a.size = b := by
  have := mid_extract (A := a) (B := b) (C := ⟨#[]⟩) (a := a.size) (b := a.size + b.size) rfl rfl
  rw [append_empty] at this
  unfold dr
  rw [ByteArray.size_append]
  exact this
theorem ext_app (a b : ByteArray) : (a ++ b).extract 0 a.size = a := by
  have := mid_extract (A := ⟨#[]⟩) (B := a) (C := b) (a := 0) (b := a.size) rfl (by show a.size = 0 + a.size; omega)
  rw [empty_append] at this
  exact this
theorem varB_pos (n : Nat) (hn : n < 9223372036854775808) : (varB n).size ≠ 0 := by
  intro h
  have h1 := takeVar_varB n ⟨#[]⟩ hn
  have h2 := takeVar_varB 0 (varB n) (by decide)
  rw [append_empty] at h1
  have h3 : varB n = ⟨#[]⟩ := empty_of_size h
  rw [h3] at h1
  have h4 : takeVar ⟨#[]⟩ = (0, 0) := rfl
  rw [h4] at h1
  have hn0 : n = 0 := (congrArg Prod.fst h1).symm
  subst hn0
  have h5 : (varB 0).size = 1 := rfl
  omega
theorem numO_app {n : Nat} (hn : n < 9223372036854775808) (r : ByteArray) : numO (varB n ++ r) = some (n, r) := by
  unfold numO
  rw [takeVar_varB n r hn, if_neg (varB_pos n hn), dr_app]
theorem numI_app {x : Int} (h : natI x) (r : ByteArray) : numI (varB x.toNat ++ r) = some (x, r) := by
  obtain ⟨n, rfl, hn⟩ := h.nat
  unfold numI
  rw [Int.toNat_natCast, numO_app hn]
  rfl
theorem txtO_app {t : ByteArray} (ht : t.size ≤ 1000) (r : ByteArray) : txtO (varB t.size ++ (t ++ r)) = some (t, r) := by
  unfold txtO
  rw [numO_app (by omega)]
  dsimp only
  rw [if_neg (by rw [ByteArray.size_append]; omega), ext_app, dr_app]
theorem metaO_app {m : DMeta} (h : MetaN m) (r : ByteArray) : metaO (metaB m ++ r) = some (m, r) := by
  obtain ⟨n1, n2, n3, n4⟩ := h
  obtain ⟨a, ha, ha2⟩ := n1.nat
  obtain ⟨b, hb, hb2⟩ := n2.nat
  unfold metaO metaB
  simp only [ByteArray.append_assoc]
  rw [ha, Int.toNat_natCast, numO_app ha2]
  simp only [bindO]
  rw [hb, Int.toNat_natCast, numO_app hb2]
  simp only [bindO]
  rw [txtO_app n3]
  simp only [bindO]
  rw [txtO_app n4]
  simp only [bindO]
  rw [← ha, ← hb]
theorem nums_app : ∀ (l : List Int) (r : ByteArray), (∀ x ∈ l, natI x) → manyO numI l.length (numsB l ++ r) = some (l, r)
  | [], r, h => by simp [manyO, numsB, empty_append]
  | x :: l, r, h => by
    simp only [List.length_cons, manyO, numsB, ByteArray.append_assoc]
    rw [numI_app (h x List.mem_cons_self)]
    simp only [bindO]
    rw [nums_app l r fun y hy => h y (List.mem_cons_of_mem _ hy)]
theorem metas_app : ∀ (l : List DMeta) (r : ByteArray), (∀ x ∈ l, MetaN x) → manyO metaO l.length (metasB l ++ r) = some (l, r)
  | [], r, h => by simp [manyO, metasB, empty_append]
  | x :: l, r, h => by
    simp only [List.length_cons, manyO, metasB, ByteArray.append_assoc]
    rw [metaO_app (h x List.mem_cons_self)]
    simp only [bindO]
    rw [metas_app l r fun y hy => h y (List.mem_cons_of_mem _ hy)]

theorem editR_back {e : DEdit} (h : GoodEd e) : editR (editB e) = (e, (true, ())) := by
  obtain ⟨a1, a2, a3, a4⟩ := goodEd_nat h
  obtain ⟨x1, b1, c1⟩ := a1.nat
  obtain ⟨x2, b2, c2⟩ := a2.nat
  have l1 := h.2.2.1
  have l2 := h.2.2.2.1.1
  have hp : editP (editB e) = some (e, ⟨#[]⟩) := by
    unfold editP editB
    simp only [ByteArray.append_assoc]
    rw [b1, Int.toNat_natCast, numO_app c1]
    simp only [bindO]
    rw [b2, Int.toNat_natCast, numO_app c2]
    simp only [bindO]
    rw [numO_app (by omega)]
    simp only [bindO]
    rw [Nat.min_eq_left (by omega), nums_app _ _ a3]
    simp only [bindO]
    rw [numO_app (by omega)]
    simp only [bindO]
    have := metas_app e.2.2.2.1 ⟨#[]⟩ a4
    rw [append_empty] at this
    rw [Nat.min_eq_left (by omega), this]
    simp only [bindO]
    rw [← b1, ← b2]
  unfold editR
  rw [hp]
  dsimp only
  rw [if_pos ⟨rfl, h⟩]

theorem f_laws_sameIntsSame (l : List Int) (hl : l.length ≤ 1000) : f_laws_sameInts (l, (l, ())) = some ((true, ()), ()) := by
  unfold f_laws_sameInts
  simp only [ieq_iff.2 rfl, Bool.not_true, cond_false]
  have key : ∀ (B A : List Int), A ++ B = l → loopF (c := f_laws_sameInts_l4c) (v := f_laws_sameInts_l4v) (ex := f_laws_sameInts_l4e) f_laws_sameInts_l4 _ ((l, (l, (llen l, ()))), ()) ((((A.length : Nat) : Int), ()), ()) (fun c3 o4 => (match o4 with
 | .inl y5 => (some ((y5.1.1, ()), ()))
 | .inr z6 => (some ((true, ()), ())))) = some ((true, ()), ()) := by
    intro B
    induction B with
    | nil =>
      intro A h
      subst h
      rw [loopF_done (c' := ((A ++ [], (A ++ [], (llen (A ++ []), ()))), ())) (o := Sum.inr ((), ())) (by simp only [round, f_laws_sameInts_l4, mid_end, cond_false])]
    | cons y B ih =>
      intro A h
      have hA : A.length + 1 ≤ l.length := by rw [← h]; simp
      rw [loopF_more (c' := ((l, (l, (llen l, ()))), ())) (v' := (((((A ++ [y]).length : Nat) : Int), ()), ())) (by
        rw [← h]
        simp only [round, f_laws_sameInts_l4, mid_lt, cond_true, mid_getO, ieq_iff.2 rfl, Bool.not_true, cond_false]
        rw [mid_next A y (by omega)])]
      exact ih (A ++ [y]) (by simp [← h])
  exact key l [] rfl

theorem eqK_meta (m : DMeta) : eqK kdMeta m m = true := by
  simp [eqK]

theorem f_laws_sameVersionsSame (v : DVersion) (hl : v.2.2.1.length ≤ 1000) : f_laws_sameVersions (v, (v, ())) = some ((true, ()), ()) := by
  unfold f_laws_sameVersions
  simp only [ieq_iff.2 rfl, Bool.not_true, cond_false]
  obtain ⟨a, b, l, ⟨⟩⟩ := v
  dsimp only at hl ⊢
  have key : ∀ (B A : List DMeta), A ++ B = l → loopF (c := f_laws_sameVersions_l4c) (v := f_laws_sameVersions_l4v) (ex := f_laws_sameVersions_l4e) f_laws_sameVersions_l4 _ ((llen l, ()), ((a, (b, (l, ()))), ((a, (b, (l, ()))), ()))) ((((A.length : Nat) : Int), ()), ()) (fun c3 o4 => (match o4 with
 | .inl y5 => (some ((y5.1.1, ()), ()))
 | .inr z6 => (some ((true, ()), ())))) = some ((true, ()), ()) := by
    intro B
    induction B with
    | nil =>
      intro A h
      subst h
      rw [loopF_done (c' := ((llen (A ++ []), ()), ((a, (b, (A ++ [], ()))), ((a, (b, (A ++ [], ()))), ())))) (o := Sum.inr ((), ())) (by simp only [round, f_laws_sameVersions_l4, mid_end, cond_false])]
    | cons y B ih =>
      intro A h
      have hA : A.length + 1 ≤ l.length := by rw [← h]; simp
      rw [loopF_more (c' := ((llen l, ()), ((a, (b, (l, ()))), ((a, (b, (l, ()))), ())))) (v' := (((((A ++ [y]).length : Nat) : Int), ()), ())) (by
        rw [← h]
        simp only [round, f_laws_sameVersions_l4, mid_lt, cond_true, mid_getO, eqK_meta, Bool.not_true, cond_false]
        rw [mid_next A y (by omega)])]
      exact ih (A ++ [y]) (by simp [← h])
  exact key l [] rfl

end Go.Proofs.Ytbekojfgnbnpcaa
