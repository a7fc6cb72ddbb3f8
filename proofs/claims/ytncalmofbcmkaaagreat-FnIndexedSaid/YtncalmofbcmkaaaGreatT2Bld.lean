/- TableBytes: both sides. -/
import Derived.Test.YtncalmofbcmkaaaGreatT1Get
set_option linter.all false
noncomputable section
namespace Go.Proofs.YtncalmofbcmkaaaGreat
open Go Go.Proofs.YtncalmofbcmkaaaGreat.Ev

theorem last_at {p : List DItem} (h : 0 < p.length) : p[p.length - 1]? = some (lastI p) := by
  have : p[p.length - 1]? = some p[p.length - 1] := List.getElem?_eq_getElem (by omega)
  rw [lastI, this]; rfl

theorem f_impl_build_vLoop {R : Type} (l : List DItem) (hg : ∀ x ∈ l, goodItem x = true) (hl : l.length ≤ 1000) (c : Dtable) (it : List DItem) (fl : DFilter × Unit) (kk : (((List DItem) × Unit) × (Dtable × Unit)) → ((ByteArray × ByteArray × Unit) × (Dtable × Unit)) → Option R) :
    ∀ (f a : Nat) (s ix : ByteArray) (pl : List DPlace), l.length ≤ f + a → a ≤ 2000 → s.size + 800 * f ≤ 1000000 → ix.size + 100 * f ≤ 1000000 → pl.length + f ≤ 1000000 →
    loopF (c := f_impl_build_v_l3c) (v := f_impl_build_v_l3v) (ex := f_impl_build_v_l3e) f_impl_build_v_l3 R ((l, ()), (c, ())) ((s, (ix, ((a : Int), ()))), ((it, (pl, fl)), ())) kk = kk ((l, ()), (c, ())) ((s ++ bodyP (parts f (l.drop a)), (ix ++ indexB (placesP s.size (parts f (l.drop a))), ())), ((it, (pl ++ placesP s.size (parts f (l.drop a)), fl)), ())) := by
  intro f
  induction f with
  | zero =>
    intro a s ix pl hf ha hs hi hp
    have hlt : l.length ≤ a := by omega
    have h1 : ilt (a : Int) (llen l) = false := ilt_false.2 (by simp only [llen]; omega)
    rw [loopF_done (c' := ((l, ()), (c, ()))) (o := ((s, (ix, ())), ((it, (pl, fl)), ()))) (by simp only [round, f_impl_build_v_l3, h1, cond_false]), parts_none _ hlt]
    simp only [bodyP, placesP, indexB, append_empty, List.append_nil]
  | succ f ih =>
    intro a s ix pl hf ha hs hi hp
    by_cases hlt : l.length ≤ a
    · have h1 : ilt (a : Int) (llen l) = false := ilt_false.2 (by simp only [llen]; omega)
      rw [loopF_done (c' := ((l, ()), (c, ()))) (o := ((s, (ix, ())), ((it, (pl, fl)), ()))) (by simp only [round, f_impl_build_v_l3, h1, cond_false]), parts_none _ hlt]
      simp only [bodyP, placesP, indexB, append_empty, List.append_nil]
    · have h1 : ilt (a : Int) (llen l) = true := ilt_iff.2 (by simp only [llen]; omega)
      obtain ⟨_, hmem⟩ := part_last (l := l) (a := a) (by omega)
      obtain ⟨e, he⟩ : ∃ e, e = min (a + 8) l.length := ⟨_, rfl⟩
      have hpt := part_take he (by omega)
      have hgood := hg _ hmem
      have hsz := good_sizes hgood
      obtain ⟨hsq, hsq2⟩ := seqNat hgood
      have hbs := blockB_size (part_good hg a)
      have hpl : ((l.drop a).take 8).length ≤ 8 := by rw [List.length_take]; omega
      have hp0 : 0 < ((l.drop a).take 8).length := by rw [List.length_take, List.length_drop]; omega
      have hlast := last_at hp0
      have hr := recB_size (placeI s.size ((l.drop a).take 8))
      have hr1 : (placeI s.size ((l.drop a).take 8)).1.size ≤ 16 := hsz.2.1
      have v1 := varB_size (lastI ((l.drop a).take 8)).1.size
      have v2 := varB_size (lastI ((l.drop a).take 8)).2.1.toNat
      have v3 := varB_size s.size
      have v4 := varB_size (blockB ((l.drop a).take 8)).size
      rw [loopF_more (c' := ((l, ()), (c, ()))) (v' := ((s ++ blockB ((l.drop a).take 8), (ix ++ recB (placeI s.size ((l.drop a).take 8)), (((a + 8 : Nat) : Int), ()))), ((it, (pl ++ [placeI s.size ((l.drop a).take 8)], fl)), ()))) (by
        simp only [round, f_impl_build_v_l3, h1, cond_true]
        rw [iadd_i64 (by omega), imin_eq, show min ((a : Int) + 8) (llen l) = (e : Int) from by simp only [llen]; omega]
        rw [bounds3 (by omega) (by omega), req_true]
        simp only [Int.toNat_natCast]
        rw [hpt, f_impl_blockVal _ (part_good hg a) (by dsimp only; omega), bnd_some]
        rw [isub_i64 (by simp only [llen]; omega), show llen ((l.drop a).take 8) - 1 = ((((l.drop a).take 8).length - 1 : Nat) : Int) by simp only [llen]; omega, getO_at (by omega) (by rw [Int.toNat_natCast]; exact hlast)]
        dsimp only
        rw [show decide (pl.length + [((lastI ((l.drop a).take 8)).1, ((lastI ((l.drop a).take 8)).2.1, ((slen s), ((slen (blockB ((l.drop a).take 8))), ()))))].length ≤ 17179869184) = true from decide_eq_true (by simp only [List.length_cons, List.length_nil]; omega), req_true]
        rw [f_impl_sizedVal _ (by dsimp only; omega), bnd_some]
        dsimp only
        rw [f_impl_varBytesVal _ (lastI ((l.drop a).take 8)).2.1.toNat hsq (by omega), bnd_some]
        dsimp only
        rw [catO_some (by simp only [ByteArray.size_append]; omega), f_impl_varBytesVal _ s.size rfl (by omega), bnd_some]
        dsimp only
        rw [catO_some (by simp only [ByteArray.size_append]; omega), f_impl_varBytesVal _ (blockB ((l.drop a).take 8)).size rfl (by omega), bnd_some]
        dsimp only
        rw [catO_some (by simp only [ByteArray.size_append]; omega), catO_some (by simp only [ByteArray.size_append]; omega), catO_some (by omega), show ((a : Int) + 8) = ((a + 8 : Nat) : Int) from by omega]
        simp only [recB, placeI, Int.toNat_natCast, slen])]
      rw [ih (a + 8) _ _ _ (by omega) (by omega) (by rw [ByteArray.size_append]; omega) (by rw [ByteArray.size_append]; omega) (by simp only [List.length_append, List.length_cons, List.length_nil]; omega), parts_more (by omega)]
      simp only [bodyP, placesP, indexB, ByteArray.append_assoc, ByteArray.size_append, List.append_assoc, List.singleton_append]

theorem f_impl_build_vVal (x : List DItem × Unit) (hg : ∀ y ∈ x.1, goodItem y = true) (hl : x.1.length ≤ 120) : f_impl_build_v x = some ((tabD x.1, (tableB x.1, ())), ()) := by
  obtain ⟨l, ⟨⟩⟩ := x
  dsimp only at hg hl
  unfold f_impl_build_v
  obtain ⟨hb, hi⟩ := tab_sizes hg
  have h0 := fun (R : Type) c it fl kk => f_impl_build_vLoop (R := R) l hg (by omega) c it fl kk l.length 0 ⟨#[]⟩ ⟨#[]⟩ [] (by omega) (by omega) (by show 0 + 800 * l.length ≤ 1000000; omega) (by show 0 + 100 * l.length ≤ 1000000; omega) (by simp; omega)
  simp only [empty_append, List.drop_zero, List.nil_append] at h0
  rw [show ((0 : Nat) : Int) = (0 : Int) from rfl, show (⟨#[]⟩ : ByteArray).size = 0 from rfl] at h0
  dsimp only
  rw [h0]
  dsimp only
  have hk := keysOf_len l
  rw [f_impl_tableKeysVal _ (by dsimp only; omega), bnd_some, f_impl_FilterOfVal _ rfl (keysOf_good hg) (by dsimp only; omega), bnd_some]
  rw [f_impl_lowFirstVal _ 4 (by omega) rfl, bnd_some]
  dsimp only
  rw [show slen (bodyP (parts l.length l)) = (((bodyP (tabPs l)).size : Nat) : Int) from rfl, lows_u32 (by omega)]
  rw [f_impl_frameVal _ (by dsimp only; exact Nat.le_trans hi (by omega)), bnd_some]
  have hf1 := frameB_size (indexB (placesP 0 (tabPs l)))
  have hf2 := frameB_size (bitsOf (keysOf l))
  have hf3 := footB_size (bodyP (tabPs l)).size
  have hbits := bitsOf_size (keysOf l)
  dsimp only [filt, filtF]
  rw [show parts l.length l = tabPs l from rfl]
  rw [catO_some (by omega), f_impl_frameVal _ (by dsimp only; omega), bnd_some]
  dsimp only
  rw [catO_some (by rw [ByteArray.size_append]; omega), show strOf (lows 4 (((bodyP (tabPs l)).size : Nat) : Int)) = footB (bodyP (tabPs l)).size from rfl]
  rw [catO_some (by simp only [ByteArray.size_append]; omega), f_impl_SumOfVal _ (by dsimp only; omega), bnd_some]
  dsimp only
  rw [f_impl_lowFirstVal _ 4 (by omega) rfl, bnd_some]
  dsimp only
  rw [catO_some (by simp only [ByteArray.size_append, strOf_size, lows_length]; omega)]
  rfl

/-! ### TableBytes -/
theorem okRun_iff (l : List DItem) : okRun l ↔ (goodRun l && inR (llen l) 1 120) = true := by
  rw [Bool.and_eq_true, inR_iff']
  simp only [llen]
  constructor
  · rintro ⟨a, b, c⟩; exact ⟨a, by omega, by omega⟩
  · rintro ⟨a, b, c⟩; exact ⟨a, by omega, by omega⟩

open Classical in
def outT (l : List DItem) : (ByteArray × Bool × Unit) × Unit := if okRun l then ((tableB l, (true, ())), ()) else ((⟨#[]⟩, (false, ())), ())

theorem f_spec_TableBytesVal (x : List DItem × Unit) (hl : x.1.length ≤ 1000) : f_spec_TableBytes x = some (outT x.1) := by
  unfold f_spec_TableBytes outT
  rw [f_spec_l7GoodVal _ hl, bnd_some]
  dsimp only
  by_cases h : okRun x.1
  · rw [if_pos h, (okRun_iff _).1 h, Bool.not_true, cond_false, f_spec_l7TableVal _ h.good h.2.2, bnd_some]
  · rw [if_neg h, show (goodRun x.1 && inR (llen x.1) 1 120) = false from Bool.eq_false_iff.2 fun hh => h ((okRun_iff _).2 hh), Bool.not_false, cond_true]

theorem f_impl_TableBytesVal (x : List DItem × Unit) (hl : x.1.length ≤ 1000) : f_impl_TableBytes x = some (outT x.1) := by
  unfold f_impl_TableBytes outT
  rw [val_f_impl_in, bnd_some]
  dsimp only
  by_cases h : okRun x.1
  · have h2 := (okRun_iff _).1 h
    rw [Bool.and_eq_true] at h2
    rw [if_pos h, h2.2, Bool.not_true, cond_false, f_impl_GoodRunVal _ (by dsimp only; omega), bnd_some]
    dsimp only
    rw [h2.1, Bool.not_true, cond_false, f_impl_build_vVal _ h.good h.2.2, bnd_some]
  · rw [if_neg h]
    cases h2 : inR (llen x.1) 1 120 with
    | false => rfl
    | true =>
      rw [Bool.not_true, cond_false, f_impl_GoodRunVal _ (by dsimp only; omega), bnd_some]
      dsimp only
      cases h1 : goodRun x.1 with
      | false => rfl
      | true => exact absurd ((okRun_iff _).2 (by rw [h1, h2]; rfl)) h

/-! ### a filter knows its keys -/
theorem bytesOf_strOf (l : List Int) (h : ∀ x ∈ l, 0 ≤ x ∧ x < 256) : bytesOf (strOf l) = l := by
  simp only [bytesOf, strOf]
  apply List.ext_getElem?
  intro i
  simp only [List.getElem?_map]
  cases hi : l[i]? with
  | none => simp [hi]
  | some x =>
    have := h x (List.mem_of_getElem? hi)
    simp [hi]
    omega

theorem byteAt_bytes (s : ByteArray) (i : Nat) (h : i < s.size) : (bytesOf s)[i]? = some ((byteAt s i : Nat) : Int) := by
  have hb : s[i]? = some s[i] := getElem?_pos s i h
  simp only [byteAt, hb, bytesOf, List.getElem?_map]
  have : s.data.toList[i]? = some s[i] := by
    rw [Array.getElem?_toList]
    exact Array.getElem?_eq_getElem h
  rw [this]
  rfl

def hasL (l : List Int) (p : Int) : Bool := ieq (iand .u8 (ishr .u8 ((l[p.toNat / 8]?).getD 0) ((p.toNat % 8 : Nat) : Int)) (1 : Int)) (1 : Int)
theorem hasB_L (s : ByteArray) (p : Int) (h : p.toNat / 8 < s.size) : hasB s p = hasL (bytesOf s) p := by
  rw [hasB, hasL, byteAt_bytes s _ h]; rfl

/-- bytes are bytes -/
def okL (l : List Int) : Prop := l.length = 32 ∧ ∀ x ∈ l, 0 ≤ x ∧ x < 256
theorem okL_bytes (s : ByteArray) (h : s.size = 32) : okL (bytesOf s) := by
  refine ⟨by rw [bytesOf_length, h], fun x hx => ?_⟩
  simp only [bytesOf, List.mem_map] at hx
  obtain ⟨b, _, rfl⟩ := hx
  have := b.toNat_lt
  omega

theorem bit_ior (x : Nat) (k j : Nat) (hx : x < 256) (hk : k < 8) (hj : j < 8) : ∃ y : Nat, y < 256 ∧ ior .u8 (x : Int) (ishl .u8 (1 : Int) (k : Int)) = (y : Int) ∧ (y / 2 ^ j % 2 = 1 ↔ (x / 2 ^ j % 2 = 1 ∨ k = j)) := by
  have hk8 : (2 : Nat) ^ k < 2 ^ 8 := Nat.pow_lt_pow_right (by decide) hk
  refine ⟨x ||| 2 ^ k, Nat.or_lt_two_pow (n := 8) (by omega) hk8, ?_, ?_⟩
  · have e : ishl .u8 (1 : Int) (k : Int) = ((2 ^ k : Nat) : Int) := by
      have hk2 : (2 : Nat) ^ k < 256 := hk8
      simp only [ishl, Int.toNat_natCast, wrap_u8]
      rw [show min k IntKind.u8.bits = k from Nat.min_eq_left (by show k ≤ 8; omega)]
      push_cast
      rw [Int.one_mul]
      have : ((2 : Int) ^ k) = ((2 ^ k : Nat) : Int) := by push_cast; rfl
      rw [this]
      exact Int.emod_eq_of_lt (Int.natCast_nonneg _) (Int.ofNat_lt.2 hk2)
    have hk2 : (2 : Nat) ^ k < 256 := hk8
    rw [e]
    simp only [ior, BitVec.toNat_or]
    rw [show (BitVec.ofInt IntKind.u8.bits (x : Int)).toNat = x from by rw [ofInt_nat]; exact Nat.mod_eq_of_lt hx, show (BitVec.ofInt IntKind.u8.bits ((2 ^ k : Nat) : Int)).toNat = 2 ^ k from by rw [ofInt_nat]; exact Nat.mod_eq_of_lt hk2, wrap_u8]
    have := Nat.or_lt_two_pow (n := 8) (show x < 2 ^ 8 by omega) (show 2 ^ k < 2 ^ 8 by omega)
    omega
  · have h1 : ∀ z : Nat, z / 2 ^ j % 2 = 1 ↔ z.testBit j = true := fun z => by
      rw [Nat.testBit_eq_decide_div_mod_eq]; simp
    rw [h1, h1, Nat.testBit_or, Bool.or_eq_true, Nat.testBit_two_pow]
    simp

theorem hasL_iff (l : List Int) (p : Int) (x : Nat) (hx : l[p.toNat / 8]? = some (x : Int)) (h : x < 256) : hasL l p = true ↔ x / 2 ^ (p.toNat % 8) % 2 = 1 := by
  rw [hasL, hx, Option.getD_some, ishr_div (p.toNat % 8) (by show p.toNat % 8 ≤ 8; omega), ieq_iff]
  have e : ((x : Int) / (2 ^ (p.toNat % 8) : Int)) = ((x / 2 ^ (p.toNat % 8) : Nat) : Int) := by push_cast; rfl
  rw [e]
  generalize x / 2 ^ (p.toNat % 8) = z
  simp only [iand, wrap_u8]
  have : (BitVec.ofInt IntKind.u8.bits (z : Int) &&& BitVec.ofInt IntKind.u8.bits 1).toNat = z % 2 := by
    rw [BitVec.toNat_and, show (BitVec.ofInt IntKind.u8.bits 1).toNat = 1 from rfl, Nat.and_one_is_mod, ofInt_nat]
    show z % 256 % 2 = z % 2
    omega
  rw [this]
  omega

theorem nat_of {l : List Int} (h : okL l) {i : Nat} (hi : i < 32) : ∃ x : Nat, l[i]? = some (x : Int) ∧ x < 256 := by
  have hl := h.1
  have hg : l[i]? = some l[i] := List.getElem?_eq_getElem (by omega)
  have := h.2 _ (List.mem_of_getElem? hg)
  exact ⟨l[i].toNat, by rw [hg, Int.toNat_of_nonneg this.1], by omega⟩

theorem okL_set {l : List Int} (h : okL l) {p : Int} (hp : 0 ≤ p ∧ p < 256) : okL (setBit l p) := by
  refine ⟨by rw [setBit_length, h.1], fun x hx => ?_⟩
  obtain ⟨y, hy, hy2⟩ := nat_of h (i := p.toNat / 8) (by omega)
  obtain ⟨z, z1, z2, _⟩ := bit_ior y (p.toNat % 8) 0 hy2 (by omega) (by omega)
  rcases List.mem_or_eq_of_mem_set hx with h1 | h1
  · exact h.2 x h1
  · rw [h1, hy, Option.getD_some, z2]; omega

theorem has_set {l : List Int} (h : okL l) {p q : Int} (hp : 0 ≤ p ∧ p < 256) (hq : 0 ≤ q ∧ q < 256) (hh : hasL l q = true ∨ p = q) : hasL (setBit l p) q = true := by
  obtain ⟨y, hy, hy2⟩ := nat_of h (i := p.toNat / 8) (by omega)
  obtain ⟨z, z1, z2, z3⟩ := bit_ior y (p.toNat % 8) (q.toNat % 8) hy2 (by omega) (by omega)
  have hl := h.1
  by_cases he : p.toNat / 8 = q.toNat / 8
  · have hs : (setBit l p)[q.toNat / 8]? = some (z : Int) := by
      rw [setBit, hy, Option.getD_some, z2, ← he, List.getElem?_set_self (by omega)]
    rw [hasL_iff _ _ z hs z1, z3]
    rcases hh with hh | hh
    · rw [he] at hy
      exact .inl ((hasL_iff l q y hy hy2).1 hh)
    · subst hh; exact .inr rfl
  · rcases hh with hh | hh
    · rw [hasL, setBit, List.getElem?_set_ne (by omega)]
      exact hh
    · subst hh; exact absurd rfl he

theorem has_sets : ∀ (ps l : List Int) (q : Int), okL l → (∀ p ∈ ps, 0 ≤ p ∧ p < 256) → 0 ≤ q ∧ q < 256 → (hasL l q = true ∨ q ∈ ps) → okL (ps.foldl setBit l) ∧ hasL (ps.foldl setBit l) q = true
  | [], l, q, h, _, hq, hh => by
    rcases hh with hh | hh
    · exact ⟨h, hh⟩
    · cases hh
  | p :: ps, l, q, h, hp, hq, hh => by
    have hp0 := hp p (by simp)
    refine has_sets ps (setBit l p) q (okL_set h hp0) (fun x hx => hp x (by simp [hx])) hq ?_
    rcases hh with hh | hh
    · exact .inl (has_set h hp0 hq (.inl hh))
    · rcases List.mem_cons.1 hh with hh | hh
      · exact .inl (has_set h hp0 hq (.inr hh.symm))
      · exact .inr hh

theorem okL_sets : ∀ (ps l : List Int), okL l → (∀ p ∈ ps, 0 ≤ p ∧ p < 256) → okL (ps.foldl setBit l)
  | [], l, h, _ => h
  | p :: ps, l, h, hp => okL_sets ps _ (okL_set h (hp p (by simp))) (fun x hx => hp x (by simp [hx]))

theorem addBits_has {bits key : ByteArray} (h : bits.size = 32) {q : Int} (hq : 0 ≤ q ∧ q < 256) (hh : hasB bits q = true ∨ q ∈ keyPl key 4) : hasB (addBits bits key) q = true := by
  have hr := keyPl_range key 4
  have hok := okL_bytes bits h
  have hsz := addBits_size bits key
  have h2 := has_sets (keyPl key 4) (bytesOf bits) q hok hr hq (by
    rcases hh with hh | hh
    · exact .inl (by rw [← hasB_L bits q (by omega)]; exact hh)
    · exact .inr hh)
  rw [hasB_L _ q (by omega), addBits, bytesOf_strOf _ h2.1.2]
  exact h2.2

theorem foldBits_has : ∀ (keys : List ByteArray) (b : ByteArray) (q : Int), b.size = 32 → 0 ≤ q ∧ q < 256 → (hasB b q = true ∨ ∃ k ∈ keys, q ∈ keyPl k 4) → hasB (keys.foldl addBits b) q = true
  | [], b, q, _, _, hh => by
    rcases hh with hh | ⟨k, hk, _⟩
    · exact hh
    · cases hk
  | k :: ks, b, q, hb, hq, hh => by
    refine foldBits_has ks (addBits b k) q (by rw [addBits_size, hb]) hq ?_
    rcases hh with hh | ⟨k', hk, hm⟩
    · exact .inl (addBits_has hb hq (.inl hh))
    · rcases List.mem_cons.1 hk with rfl | hk
      · exact .inl (addBits_has hb hq (.inr hm))
      · exact .inr ⟨k', hk, hm⟩

/-- no key is missed -/
theorem mayB_of {keys : List ByteArray} {key : ByteArray} (h : key ∈ keys) : mayB (bitsOf keys) key = true := by
  rw [mayB, List.all_eq_true]
  intro q hq
  exact foldBits_has keys zeroBits q rfl (keyPl_range key 4 q hq) (.inr ⟨key, h, hq⟩)

/-- every item's key is among the keys -/
theorem keyN_mem {l : List DItem} : ∀ (i j : Nat) (x : DItem), l[j]? = some x → j < i → x.1 ∈ keyN l i
  | 0, j, x, _, h => by omega
  | i + 1, j, x, hx, h => by
    simp only [keyN]
    by_cases hj : j < i
    · have := keyN_mem i j x hx hj
      split
      · split
        · exact List.mem_append_left _ this
        · exact this
      · exact this
    · have hj : j = i := by omega
      subst hj
      rw [hx]
      dsimp only
      split
      · simp
      · rename_i hk
        unfold keyAt at hk
        split at hk
        · exact absurd rfl hk
        · rename_i h0
          split at hk
          · rename_i y hy
            simp only [Bool.not_eq_true, Bool.not_eq_false', Bool.not_eq_true'] at hk
            have : seq y.1 x.1 = true := by cases hs : seq y.1 x.1 with
              | true => rfl
              | false => rw [hs] at hk; exact absurd rfl hk
            have e := (seq_iff _ _).1 this
            rw [← e]
            exact keyN_mem j (j - 1) y hy (by omega)
          · exact absurd rfl hk
theorem keysOf_mem {l : List DItem} {x : DItem} (hx : x ∈ l) : x.1 ∈ keysOf l := by
  obtain ⟨j, hj⟩ := List.mem_iff_getElem?.1 hx
  exact keyN_mem _ j x hj (List.getElem?_eq_some_iff.1 hj).1

end Go.Proofs.YtncalmofbcmkaaaGreat
