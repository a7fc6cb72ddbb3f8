/- Keys of a run and their filter: both sides compute the same. -/
import Derived.Test.YtncalmofbcmkaaaGreatR1Rest
import Derived.Test.YtncalmofbcmkaaaGreatEv3
set_option linter.all false
noncomputable section
namespace Go.Proofs.YtncalmofbcmkaaaGreat
open Go Go.Proofs.YtncalmofbcmkaaaGreat.Ev

/-! ### places of a key -/
def plGo (b : Int) : Nat → Int → List Int
  | 0, _ => []
  | f + 1, a => IntKind.wrap .i64 (irem .u32 a (256 : Int)) :: plGo b f (iadd .u32 a b)
def keyStep (s : ByteArray) : Int := ior .u32 (sumGo s s.size 0 (0 : Int)) (1 : Int)
def keyPl (s : ByteArray) (h : Nat) : List Int := plGo (keyStep s) h (sumOf s)

theorem plGo_length (b : Int) : ∀ (f : Nat) (a : Int), (plGo b f a).length = f
  | 0, _ => rfl
  | f + 1, a => by simp [plGo, plGo_length b f]

theorem plGo_range (b : Int) : ∀ (f : Nat) (a : Int), 0 ≤ a → ∀ p ∈ plGo b f a, 0 ≤ p ∧ p < 256
  | 0, a, _, p, hp => by cases hp
  | f + 1, a, ha, p, hp => by
    simp only [plGo, List.mem_cons] at hp
    rcases hp with rfl | hp
    · simp only [irem]
      rw [Int.tmod_eq_emod_of_nonneg ha, wrap_i64 _ (by omega)]
      omega
    · exact plGo_range b f (iadd .u32 a b) (by simp only [iadd, wrap_u32]; omega) p hp

theorem sumOf_nonneg (s : ByteArray) : 0 ≤ sumOf s := by
  simp only [sumOf, inot, wrap_u32]; omega

theorem keyPl_range (s : ByteArray) (h : Nat) : ∀ p ∈ keyPl s h, 0 ≤ p ∧ p < 256 := plGo_range _ _ _ (sumOf_nonneg s)
theorem keyPl_length (s : ByteArray) (h : Nat) : (keyPl s h).length = h := plGo_length _ _ _

theorem f_spec_l5PlacesLoop {R : Type} (h : Nat) (hh : h ≤ 1000) (b : Int) (kk : ((Int × Int × Unit) × Unit) → (Unit × ((List Int) × Unit)) → Option R) :
    ∀ (f i : Nat) (a : Int) (l : List Int), f + i = h → l.length = i → loopF (c := f_spec_l5Places_l6c) (v := f_spec_l5Places_l6v) (ex := f_spec_l5Places_l6e) f_spec_l5Places_l6 R (((h : Int), (b, ())), ()) ((a, ((i : Int), ())), (l, ())) kk = kk (((h : Int), (b, ())), ()) ((), (l ++ plGo b f a, ()))
  | 0, i, a, l, hf, hl => by
    have h1 : ilt (i : Int) (h : Int) = false := ilt_false.2 (by omega)
    rw [loopF_done (c' := (((h : Int), (b, ())), ())) (o := ((), (l, ()))) (by simp only [round, f_spec_l5Places_l6, h1, cond_false])]
    simp only [plGo, List.append_nil]
  | f + 1, i, a, l, hf, hl => by
    have h1 : ilt (i : Int) (h : Int) = true := ilt_iff.2 (by omega)
    have h2 : iadd .i64 (i : Int) (1 : Int) = ((i + 1 : Nat) : Int) := by rw [iadd_i64 (by omega)]; simp
    rw [loopF_more (c' := (((h : Int), (b, ())), ())) (v' := ((iadd .u32 a b, (((i + 1 : Nat) : Int), ())), (l ++ [IntKind.wrap .i64 (irem .u32 a (256 : Int))], ()))) (by
      simp only [round, f_spec_l5Places_l6, h1, cond_true, List.length_cons, List.length_nil]
      rw [show decide (l.length + (0 + 1) ≤ 17179869184) = true from decide_eq_true (by omega)]
      simp only [req_true, h2])]
    rw [f_spec_l5PlacesLoop h hh b kk f (i + 1) _ _ (by omega) (by simp [hl])]
    simp only [plGo, List.append_assoc, List.singleton_append]

theorem f_impl_placesLoop {R : Type} (h : Nat) (hh : h ≤ 1000) (b : Int) (kk : ((Int × Int × Unit) × Unit) → (Unit × ((List Int) × Unit)) → Option R) :
    ∀ (f i : Nat) (a : Int) (l : List Int), f + i = h → l.length = i → loopF (c := f_impl_places_l3c) (v := f_impl_places_l3v) (ex := f_impl_places_l3e) f_impl_places_l3 R ((b, ((h : Int), ())), ()) ((a, ((i : Int), ())), (l, ())) kk = kk ((b, ((h : Int), ())), ()) ((), (l ++ plGo b f a, ()))
  | 0, i, a, l, hf, hl => by
    have h1 : ilt (i : Int) (h : Int) = false := ilt_false.2 (by omega)
    rw [loopF_done (c' := ((b, ((h : Int), ())), ())) (o := ((), (l, ()))) (by simp only [round, f_impl_places_l3, h1, cond_false])]
    simp only [plGo, List.append_nil]
  | f + 1, i, a, l, hf, hl => by
    have h1 : ilt (i : Int) (h : Int) = true := ilt_iff.2 (by omega)
    have h2 : iadd .i64 (i : Int) (1 : Int) = ((i + 1 : Nat) : Int) := by rw [iadd_i64 (by omega)]; simp
    rw [loopF_more (c' := ((b, ((h : Int), ())), ())) (v' := ((iadd .u32 a b, (((i + 1 : Nat) : Int), ())), (l ++ [IntKind.wrap .i64 (irem .u32 a (256 : Int))], ()))) (by
      simp only [round, f_impl_places_l3, h1, cond_true, List.length_cons, List.length_nil]
      rw [show decide (l.length + (0 + 1) ≤ 17179869184) = true from decide_eq_true (by omega)]
      simp only [req_true, h2])]
    rw [f_impl_placesLoop h hh b kk f (i + 1) _ _ (by omega) (by simp [hl])]
    simp only [plGo, List.append_assoc, List.singleton_append]

theorem f_spec_l5PlacesVal (x : ByteArray × Int × Unit) (h : Nat) (hx : x.2.1 = (h : Int)) (hh : h ≤ 1000) (hs : x.1.size ≤ 1000000) : f_spec_l5Places x = some ((keyPl x.1 h, ()), ()) := by
  unfold f_spec_l5Places f_spec_l2On
  rw [f_spec_l2TableVal, bnd_some]
  dsimp only
  have h0 := fun (R : Type) kk m => f_spec_l2OnLoop (R := R) x.1 (by omega) kk x.1.size 0 m rfl
  rw [show ((0 : Nat) : Int) = (0 : Int) from rfl] at h0
  rw [h0, bnd_some, h0, bnd_some]
  dsimp only
  have h1 := fun (R : Type) b kk a => f_spec_l5PlacesLoop (R := R) h hh b kk h 0 a [] rfl rfl
  rw [show ((0 : Nat) : Int) = (0 : Int) from rfl] at h1
  rw [hx, h1]
  rfl

theorem f_impl_placesVal (x : ByteArray × Int × Unit) (h : Nat) (hx : x.2.1 = (h : Int)) (hh : h ≤ 1000) (hs : x.1.size ≤ 1000000) : f_impl_places x = some ((keyPl x.1 h, ()), ()) := by
  unfold f_impl_places
  rw [f_impl_SumOfVal _ (by dsimp only; omega), bnd_some]
  unfold f_impl_SumOn
  rw [f_impl_SumTableVal, bnd_some]
  dsimp only
  have h0 := fun (R : Type) kk m => f_impl_SumOnLoop (R := R) x.1 (by omega) kk x.1.size 0 m rfl
  rw [show ((0 : Nat) : Int) = (0 : Int) from rfl] at h0
  rw [h0, bnd_some]
  dsimp only
  have h1 := fun (R : Type) b kk a => f_impl_placesLoop (R := R) h hh b kk h 0 a [] rfl rfl
  rw [show ((0 : Nat) : Int) = (0 : Int) from rfl] at h1
  rw [hx, h1]
  rfl

/-! ### a key added -/
def setBit (l : List Int) (p : Int) : List Int := List.set l (p.toNat / 8) (ior .u8 ((l[p.toNat / 8]?).getD 0) (ishl .u8 (1 : Int) ((p.toNat % 8 : Nat) : Int)))
theorem setBit_length (l : List Int) (p : Int) : (setBit l p).length = l.length := by simp [setBit]
theorem setBits_length : ∀ (ps l : List Int), (ps.foldl setBit l).length = l.length
  | [], l => rfl
  | p :: ps, l => by rw [List.foldl_cons, setBits_length ps, setBit_length]

theorem place_quo {p : Int} (h : 0 ≤ p ∧ p < 256) : iquo .i64 p (8 : Int) = ((p.toNat / 8 : Nat) : Int) := by
  simp only [iquo]
  rw [Int.tdiv_eq_ediv_of_nonneg (by omega), wrap_i64 _ (by omega)]
  omega
theorem place_rem {p : Int} (h : 0 ≤ p ∧ p < 256) : irem .i64 p (8 : Int) = ((p.toNat % 8 : Nat) : Int) := by
  simp only [irem]
  rw [Int.tmod_eq_emod_of_nonneg (by omega)]
  omega
theorem place_rem_u {p : Int} (h : 0 ≤ p ∧ p < 256) : IntKind.wrap .u64 (irem .i64 p (8 : Int)) = ((p.toNat % 8 : Nat) : Int) := by
  rw [place_rem h, wrap_u64]; omega

theorem f_spec_l5AddLoop {R : Type} (fa fb : DFilter) (ps : List Int) (hp : ∀ p ∈ ps, 0 ≤ p ∧ p < 256) (hl : ps.length ≤ 1000) (kk : ((Int × Unit) × (DFilter × DFilter × (List Int) × Unit)) → (Unit × ((List Int) × Unit)) → Option R) :
    ∀ (B A l : List Int), A ++ B = ps → l.length = 32 → loopF (c := f_spec_l5Add_l3c) (v := f_spec_l5Add_l3v) (ex := f_spec_l5Add_l3e) f_spec_l5Add_l3 R ((llen ps, ()), (fa, (fb, (ps, ())))) ((((A.length : Nat) : Int), ()), (l, ())) kk = kk ((llen ps, ()), (fa, (fb, (ps, ())))) ((), (B.foldl setBit l, ()))
  | [], A, l, hf, hl32 => by
    have h1 : ilt ((A.length : Nat) : Int) (llen ps) = false := by rw [← hf]; exact mid_end A
    rw [loopF_done (c' := ((llen ps, ()), (fa, (fb, (ps, ()))))) (o := ((), (l, ()))) (by simp only [round, f_spec_l5Add_l3, h1, cond_false])]
    rfl
  | p :: B, A, l, hf, hl32 => by
    have h1 : ilt ((A.length : Nat) : Int) (llen ps) = true := by rw [← hf]; exact mid_lt A B p
    have hpr := hp p (by rw [← hf]; simp)
    have hg : ps[A.length]? = some p := by rw [← hf]; exact mid_get A B p
    have h2 : iadd .i64 ((A.length : Nat) : Int) (1 : Int) = (((A ++ [p]).length : Nat) : Int) := mid_next A p (by have := congrArg List.length hf; simp at this; omega)
    obtain ⟨z, hz⟩ : ∃ z, l[p.toNat / 8]? = some z := ⟨_, List.getElem?_eq_getElem (by omega)⟩
    rw [loopF_more (c' := ((llen ps, ()), (fa, (fb, (ps, ()))))) (v' := (((((A ++ [p]).length : Nat) : Int), ()), (setBit l p, ()))) (by
      simp only [round, f_spec_l5Add_l3, h1, cond_true]
      rw [getO_at (by omega) (by rw [Int.toNat_natCast]; exact hg), Int.toNat_natCast, hg]
      simp only [bnd_some]
      rw [place_quo hpr, place_rem_u hpr, getO_at (by omega) (by rw [Int.toNat_natCast]; exact hz), Int.toNat_natCast, hz]
      simp only [bnd_some]
      rw [show ile (0 : Int) ((p.toNat % 8 : Nat) : Int) = true from ile_iff.2 (by omega), req_true, getO_at (by omega) (by rw [Int.toNat_natCast]; exact hz)]
      simp only [h2, setBit, hz, Option.getD_some])]
    rw [f_spec_l5AddLoop fa fb ps hp hl kk B (A ++ [p]) _ (by simp [← hf]) (by rw [setBit_length, hl32])]
    rfl

theorem f_impl_AddKeyLoop {R : Type} (fa fb : DFilter) (ps : List Int) (hp : ∀ p ∈ ps, 0 ≤ p ∧ p < 256) (hl : ps.length ≤ 1000) (kk : ((Int × Unit) × (DFilter × DFilter × (List Int) × Unit)) → (Unit × ((List Int) × Unit)) → Option R) :
    ∀ (B A l : List Int), A ++ B = ps → l.length = 32 → loopF (c := f_impl_AddKey_l5c) (v := f_impl_AddKey_l5v) (ex := f_impl_AddKey_l5e) f_impl_AddKey_l5 R ((llen ps, ()), (fa, (fb, (ps, ())))) ((((A.length : Nat) : Int), ()), (l, ())) kk = kk ((llen ps, ()), (fa, (fb, (ps, ())))) ((), (B.foldl setBit l, ()))
  | [], A, l, hf, hl32 => by
    have h1 : ilt ((A.length : Nat) : Int) (llen ps) = false := by rw [← hf]; exact mid_end A
    rw [loopF_done (c' := ((llen ps, ()), (fa, (fb, (ps, ()))))) (o := ((), (l, ()))) (by simp only [round, f_impl_AddKey_l5, h1, cond_false])]
    rfl
  | p :: B, A, l, hf, hl32 => by
    have h1 : ilt ((A.length : Nat) : Int) (llen ps) = true := by rw [← hf]; exact mid_lt A B p
    have hpr := hp p (by rw [← hf]; simp)
    have hg : ps[A.length]? = some p := by rw [← hf]; exact mid_get A B p
    have h2 : iadd .i64 ((A.length : Nat) : Int) (1 : Int) = (((A ++ [p]).length : Nat) : Int) := mid_next A p (by have := congrArg List.length hf; simp at this; omega)
    obtain ⟨z, hz⟩ : ∃ z, l[p.toNat / 8]? = some z := ⟨_, List.getElem?_eq_getElem (by omega)⟩
    rw [loopF_more (c' := ((llen ps, ()), (fa, (fb, (ps, ()))))) (v' := (((((A ++ [p]).length : Nat) : Int), ()), (setBit l p, ()))) (by
      simp only [round, f_impl_AddKey_l5, h1, cond_true]
      rw [getO_at (by omega) (by rw [Int.toNat_natCast]; exact hg), Int.toNat_natCast, hg]
      simp only [bnd_some]
      rw [place_quo hpr, place_rem hpr, getO_at (by omega) (by rw [Int.toNat_natCast]; exact hz), Int.toNat_natCast, hz]
      simp only [bnd_some]
      rw [show ile (0 : Int) ((p.toNat % 8 : Nat) : Int) = true from ile_iff.2 (by omega), req_true, getO_at (by omega) (by rw [Int.toNat_natCast]; exact hz)]
      simp only [h2, setBit, hz, Option.getD_some])]
    rw [f_impl_AddKeyLoop fa fb ps hp hl kk B (A ++ [p]) _ (by simp [← hf]) (by rw [setBit_length, hl32])]
    rfl

def isKeyB (s : ByteArray) : Bool := inR (slen s) 1 16
theorem f_impl_isKeyVal (x : ByteArray × Unit) : f_impl_isKey x = some ((isKeyB x.1, ()), ()) := by
  simp only [f_impl_isKey, val_f_impl_in, bnd_some, isKeyB]
theorem f_spec_l4KeyVal (x : ByteArray × Unit) : f_spec_l4Key x = some ((isKeyB x.1, ()), ()) := by
  simp only [f_spec_l4Key, val_f_spec_l1In, bnd_some, isKeyB]
theorem isKey_size {s : ByteArray} (h : isKeyB s = true) : 1 ≤ s.size ∧ s.size ≤ 16 := by
  simp only [isKeyB, inR, slen] at h
  cases h1 : ile 1 (s.size : Int) with
  | false => rw [h1] at h; cases h
  | true => rw [h1, cond_true] at h; have := ile_iff.1 h1; have := ile_iff.1 h; omega

/-- a filter with four hashes, after so many keys -/
def filtF (bits : ByteArray) (n : Nat) : DFilter := ((4 : Int), (bits, ((n : Int), ())))
def addBits (bits key : ByteArray) : ByteArray := strOf ((keyPl key 4).foldl setBit (bytesOf bits))
theorem bytesOf_length (s : ByteArray) : (bytesOf s).length = s.size := by simp [bytesOf]
theorem addBits_size (bits key : ByteArray) : (addBits bits key).size = bits.size := by rw [addBits, strOf_size, setBits_length, bytesOf_length]

theorem size_beq {s : ByteArray} (h : s.size = 32) : Nat.beq (ByteArray.size s) 0 = false := by rw [h]; rfl

theorem f_spec_l5AddVal (bits key : ByteArray) (n : Nat) (hb : bits.size = 32) (hn : n ≤ 1000) (hk : key.size ≤ 16) : f_spec_l5Add (filtF bits n, (key, ())) = some ((filtF (addBits bits key) (n + 1), ()), ()) := by
  unfold f_spec_l5Add
  dsimp only [filtF]
  rw [size_beq hb, cond_false, f_spec_l5PlacesVal _ 4 rfl (by omega) (by dsimp only; omega), bnd_some]
  dsimp only
  have h1 := fun (R : Type) fa fb kk => f_spec_l5AddLoop (R := R) fa fb (keyPl key 4) (keyPl_range key 4) (by rw [keyPl_length]; omega) kk (keyPl key 4) [] (bytesOf bits) rfl (by rw [bytesOf_length, hb])
  rw [show (0 : Int) = (((([] : List Int).length : Nat)) : Int) from rfl, h1]
  unfold f_spec_l5Add_i9
  dsimp only
  rw [show ilt (n : Int) (1000000 : Int) = true from ilt_iff.2 (by omega), cond_true]
  rw [iadd_i64 (by omega)]
  rfl

theorem f_impl_GoodFilterVal (bits : ByteArray) (n : Nat) (hb : bits.size = 32) (hn : n ≤ 1000) : f_impl_GoodFilter (filtF bits n, ()) = some ((true, ()), ()) := by
  simp only [f_impl_GoodFilter, f_impl_hashesOk, filtF, val_f_impl_in, bnd_some]
  rw [show inR (4 : Int) 1 8 = true from rfl, cond_true, show ieq (slen bits) (32 : Int) = true from ieq_iff.2 (by simp [slen, hb]), cond_true]
  rw [show inR (n : Int) 0 1000000 = true from by simp only [inR]; rw [show ile (0 : Int) (n : Int) = true from ile_iff.2 (by omega), cond_true]; exact ile_iff.2 (by omega)]

theorem f_impl_AddKeyVal (bits key : ByteArray) (n : Nat) (hb : bits.size = 32) (hn : n ≤ 1000) (hk : isKeyB key = true) : f_impl_AddKey (filtF bits n, (key, ())) = some ((filtF (addBits bits key) (n + 1), (true, ())), ()) := by
  unfold f_impl_AddKey
  rw [f_impl_GoodFilterVal _ _ hb hn, bnd_some, f_impl_isKeyVal, bnd_some]
  dsimp only [filtF]
  have hks := isKey_size hk
  rw [hk, Bool.not_true, cond_false, cond_false, size_beq hb, cond_false, f_impl_placesVal _ 4 rfl (by omega) (by dsimp only; omega), bnd_some]
  dsimp only
  have h1 := fun (R : Type) fa fb kk => f_impl_AddKeyLoop (R := R) fa fb (keyPl key 4) (keyPl_range key 4) (by rw [keyPl_length]; omega) kk (keyPl key 4) [] (bytesOf bits) rfl (by rw [bytesOf_length, hb])
  rw [show (0 : Int) = (((([] : List Int).length : Nat)) : Int) from rfl, h1]
  dsimp only
  rw [iadd_i64 (by omega), imin_eq, show min ((n : Int) + 1) 1000000 = ((n + 1 : Nat) : Int) from by omega]
  rfl

/-! ### the filter of keys -/
def zeroBits : ByteArray := strOf (List.replicate 32 (0 : Int))
def bitsOf (keys : List ByteArray) : ByteArray := keys.foldl addBits zeroBits
theorem foldBits_size : ∀ (keys : List ByteArray) (b : ByteArray), (keys.foldl addBits b).size = b.size
  | [], _ => rfl
  | k :: ks, b => by rw [List.foldl_cons, foldBits_size ks, addBits_size]
theorem bitsOf_size (keys : List ByteArray) : (bitsOf keys).size = 32 := by rw [bitsOf, foldBits_size]; rfl

def noFilter : DFilter := ((0 : Int), ((⟨#[]⟩ : ByteArray), ((0 : Int), ())))
theorem f_spec_FilterOfLoop {R : Type} (keys : List ByteArray) (hk : ∀ k ∈ keys, isKeyB k = true) (hl : keys.length ≤ 200) (fa : DFilter) (kk : (((List ByteArray) × Int × Unit) × Unit) → (((Bool × Unit) × (DFilter × DFilter × Unit)) ⊕ (Unit × (DFilter × DFilter × Unit))) → Option R) :
    ∀ (B A : List ByteArray) (b : ByteArray), A ++ B = keys → b.size = 32 → loopF (c := f_spec_FilterOf_l5c) (v := f_spec_FilterOf_l5v) (ex := f_spec_FilterOf_l5e) f_spec_FilterOf_l5 R ((keys, (llen keys, ())), ()) ((((A.length : Nat) : Int), ()), (fa, (filtF b A.length, ()))) kk = kk ((keys, (llen keys, ())), ()) (.inr ((), (fa, (filtF (B.foldl addBits b) keys.length, ()))))
  | [], A, b, hf, hb => by
    have h1 : ilt ((A.length : Nat) : Int) (llen keys) = false := by rw [← hf]; exact mid_end A
    rw [loopF_done (c' := ((keys, (llen keys, ())), ())) (o := (Sum.inr ((), (fa, (filtF b A.length, ()))) : _ ⊕ _)) (by simp only [round, f_spec_FilterOf_l5, h1, cond_false])]
    rw [← hf]; simp
  | k :: B, A, b, hf, hb => by
    have h1 : ilt ((A.length : Nat) : Int) (llen keys) = true := by rw [← hf]; exact mid_lt A B k
    have hkk := hk k (by rw [← hf]; simp)
    have hg : keys[A.length]? = some k := by rw [← hf]; exact mid_get A B k
    have hlen := congrArg List.length hf
    simp only [List.length_append, List.length_cons] at hlen
    have h2 : iadd .i64 ((A.length : Nat) : Int) (1 : Int) = (((A ++ [k]).length : Nat) : Int) := mid_next A k (by omega)
    rw [loopF_more (c' := ((keys, (llen keys, ())), ())) (v' := (((((A ++ [k]).length : Nat) : Int), ()), (fa, (filtF (addBits b k) (A ++ [k]).length, ())))) (by
      simp only [round, f_spec_FilterOf_l5, h1, cond_true]
      rw [getO_at (by omega) (by rw [Int.toNat_natCast]; exact hg), f_spec_l4KeyVal, bnd_some]
      dsimp only
      rw [hkk, Bool.not_true, cond_false, f_spec_l5AddVal _ _ _ hb (by omega) (isKey_size hkk).2, bnd_some]
      simp only [h2, List.length_append, List.length_cons, List.length_nil])]
    rw [f_spec_FilterOfLoop keys hk hl fa kk B (A ++ [k]) _ (by simp [← hf]) (by rw [addBits_size, hb])]
    rfl

theorem f_impl_FilterOfLoop {R : Type} (keys : List ByteArray) (hk : ∀ k ∈ keys, isKeyB k = true) (hl : keys.length ≤ 200) (fa : DFilter) (kk : (((List ByteArray) × Int × Unit) × Unit) → (((Bool × Unit) × (DFilter × DFilter × Unit)) ⊕ (Unit × (DFilter × DFilter × Unit))) → Option R) :
    ∀ (B A : List ByteArray) (b : ByteArray), A ++ B = keys → b.size = 32 → loopF (c := f_impl_FilterOf_l5c) (v := f_impl_FilterOf_l5v) (ex := f_impl_FilterOf_l5e) f_impl_FilterOf_l5 R ((keys, (llen keys, ())), ()) ((((A.length : Nat) : Int), ()), (fa, (filtF b A.length, ()))) kk = kk ((keys, (llen keys, ())), ()) (.inr ((), (fa, (filtF (B.foldl addBits b) keys.length, ()))))
  | [], A, b, hf, hb => by
    have h1 : ilt ((A.length : Nat) : Int) (llen keys) = false := by rw [← hf]; exact mid_end A
    rw [loopF_done (c' := ((keys, (llen keys, ())), ())) (o := (Sum.inr ((), (fa, (filtF b A.length, ()))) : _ ⊕ _)) (by simp only [round, f_impl_FilterOf_l5, h1, cond_false])]
    rw [← hf]; simp
  | k :: B, A, b, hf, hb => by
    have h1 : ilt ((A.length : Nat) : Int) (llen keys) = true := by rw [← hf]; exact mid_lt A B k
    have hkk := hk k (by rw [← hf]; simp)
    have hg : keys[A.length]? = some k := by rw [← hf]; exact mid_get A B k
    have hlen := congrArg List.length hf
    simp only [List.length_append, List.length_cons] at hlen
    have h2 : iadd .i64 ((A.length : Nat) : Int) (1 : Int) = (((A ++ [k]).length : Nat) : Int) := mid_next A k (by omega)
    rw [loopF_more (c' := ((keys, (llen keys, ())), ())) (v' := (((((A ++ [k]).length : Nat) : Int), ()), (fa, (filtF (addBits b k) (A ++ [k]).length, ())))) (by
      simp only [round, f_impl_FilterOf_l5, h1, cond_true]
      rw [getO_at (by omega) (by rw [Int.toNat_natCast]; exact hg), f_impl_AddKeyVal _ _ _ hb (by omega) hkk, bnd_some]
      simp only [Bool.not_true, cond_false, h2, List.length_append, List.length_cons, List.length_nil])]
    rw [f_impl_FilterOfLoop keys hk hl fa kk B (A ++ [k]) _ (by simp [← hf]) (by rw [addBits_size, hb])]
    rfl

def filt (keys : List ByteArray) : DFilter := filtF (bitsOf keys) keys.length

theorem f_spec_FilterOfVal (x : List ByteArray × Int × Unit) (h4 : x.2.1 = 4) (hk : ∀ k ∈ x.1, isKeyB k = true) (hl : x.1.length ≤ 200) : f_spec_FilterOf x = some ((filt x.1, (true, ())), ()) := by
  unfold f_spec_FilterOf
  rw [h4, show f_spec_NewFilter ((4 : Int), ()) = some ((filtF zeroBits 0, (true, ())), ()) from rfl, bnd_some]
  dsimp only
  rw [Bool.not_true, cond_false, show ilt (200 : Int) (llen x.1) = false from ilt_false.2 (by simp only [llen]; omega), cond_false]
  have h1 := fun (R : Type) fa kk => f_spec_FilterOfLoop (R := R) x.1 hk hl fa kk x.1 [] zeroBits rfl rfl
  exact h1 _ _ _

theorem f_impl_FilterOfVal (x : List ByteArray × Int × Unit) (h4 : x.2.1 = 4) (hk : ∀ k ∈ x.1, isKeyB k = true) (hl : x.1.length ≤ 200) : f_impl_FilterOf x = some ((filt x.1, (true, ())), ()) := by
  unfold f_impl_FilterOf
  rw [h4, show f_impl_NewFilter ((4 : Int), ()) = some ((filtF zeroBits 0, (true, ())), ()) from rfl, bnd_some]
  dsimp only
  rw [Bool.not_true, cond_false, show ilt (200 : Int) (llen x.1) = false from ilt_false.2 (by simp only [llen]; omega), cond_false]
  have h1 := fun (R : Type) fa kk => f_impl_FilterOfLoop (R := R) x.1 hk hl fa kk x.1 [] zeroBits rfl rfl
  exact h1 _ _ _

/-! ### the keys of a run -/
def keyAt (l : List DItem) (i : Nat) (x : DItem) : Bool := if i = 0 then true else match l[i - 1]? with | some y => !seq y.1 x.1 | none => true
def keyN (l : List DItem) : Nat → List ByteArray
  | 0 => []
  | i + 1 => match l[i]? with | some x => (if keyAt l i x = true then keyN l i ++ [x.1] else keyN l i) | none => keyN l i
def keysOf (l : List DItem) : List ByteArray := keyN l l.length

theorem keyN_len (l : List DItem) : ∀ i, (keyN l i).length ≤ i
  | 0 => by simp [keyN]
  | i + 1 => by
    have := keyN_len l i
    simp only [keyN]
    split
    · split
      · simp; omega
      · omega
    · omega
theorem keyN_good {l : List DItem} (hg : ∀ x ∈ l, goodItem x = true) : ∀ i, ∀ k ∈ keyN l i, isKeyB k = true
  | 0 => by simp [keyN]
  | i + 1 => by
    have h0 := keyN_good hg i
    intro k hk
    simp only [keyN] at hk
    split at hk
    · rename_i x hx
      split at hk
      · rw [List.mem_append] at hk
        rcases hk with hk | hk
        · exact h0 k hk
        · simp only [List.mem_singleton] at hk
          subst hk
          have := hg x (List.mem_of_getElem? hx)
          simp only [goodItem, Bool.and_eq_true] at this
          exact this.1
      · exact h0 k hk
    · exact h0 k hk

theorem f_spec_l7KeysLoop {R : Type} (l : List DItem) (hl : l.length ≤ 1000) (kk : (Unit × Unit) → (Unit × ((List ByteArray) × Unit)) → Option R) :
    ∀ (f i : Nat), f + i = l.length → loopF (c := f_spec_l7Keys_l3c) (v := f_spec_l7Keys_l3v) (ex := f_spec_l7Keys_l3e) f_spec_l7Keys_l3 R ((), ()) ((l, (l, (llen l, ((i : Int), ())))), (keyN l i, ())) kk = kk ((), ()) ((), (keysOf l, ()))
  | 0, i, hf => by
    have h1 : ilt (i : Int) (llen l) = false := ilt_false.2 (by simp only [llen]; omega)
    rw [loopF_done (c' := ((), ())) (o := ((), (keyN l i, ()))) (by simp only [round, f_spec_l7Keys_l3, h1, cond_false])]
    rw [show i = l.length by omega]; rfl
  | f + 1, i, hf => by
    have h1 : ilt (i : Int) (llen l) = true := ilt_iff.2 (by simp only [llen]; omega)
    have h2 : iadd .i64 (i : Int) (1 : Int) = ((i + 1 : Nat) : Int) := by rw [iadd_i64 (by omega)]; simp
    obtain ⟨x, hx⟩ : ∃ x, l[i]? = some x := ⟨_, List.getElem?_eq_getElem (by omega)⟩
    have hln := keyN_len l i
    rw [loopF_more (c' := ((), ())) (v' := ((l, (l, (llen l, (((i + 1 : Nat) : Int), ())))), (keyN l (i + 1), ()))) (by
      simp only [round, f_spec_l7Keys_l3, h1, cond_true]
      rw [getO_at (by omega) (by rw [Int.toNat_natCast]; exact hx)]
      cases i with
      | zero =>
        rw [show ieq ((0 : Nat) : Int) (0 : Int) = true from rfl, cond_true]
        simp only [f_spec_l7Keys_i6, cond_true, h2, keyN, hx, keyAt, ↓reduceIte]
        rfl
      | succ j =>
        obtain ⟨y, hy⟩ : ∃ y, l[j]? = some y := ⟨_, List.getElem?_eq_getElem (by omega)⟩
        rw [show ieq ((j + 1 : Nat) : Int) (0 : Int) = false from ieq_false.2 (by omega), cond_false, isub_i64 (by omega), show ((j + 1 : Nat) : Int) - 1 = (j : Int) by omega]
        rw [getO_at (by omega) (by rw [Int.toNat_natCast]; exact hy)]
        simp only [f_spec_l7Keys_i6, h2]
        rw [show keyN l (j + 1 + 1) = (if keyAt l (j + 1) x = true then keyN l (j + 1) ++ [x.1] else keyN l (j + 1)) from by rw [keyN, hx], show keyAt l (j + 1) x = !seq y.1 x.1 from by simp only [keyAt, Nat.add_sub_cancel, hy]; rfl]
        cases seq y.1 x.1 with
        | true => rfl
        | false =>
          simp only [Bool.not_false, cond_true, List.length_cons, List.length_nil, ↓reduceIte]
          rw [show decide ((keyN l (j + 1)).length + (0 + 1) ≤ 17179869184) = true from decide_eq_true (by omega), req_true])]
    exact f_spec_l7KeysLoop l hl kk f (i + 1) (by omega)

theorem f_impl_tableKeysLoop {R : Type} (l : List DItem) (hl : l.length ≤ 1000) (kk : (Unit × Unit) → (Unit × ((List ByteArray) × Unit)) → Option R) :
    ∀ (f i : Nat), f + i = l.length → loopF (c := f_impl_tableKeys_l3c) (v := f_impl_tableKeys_l3v) (ex := f_impl_tableKeys_l3e) f_impl_tableKeys_l3 R ((), ()) ((l, (l, (llen l, ((i : Int), ())))), (keyN l i, ())) kk = kk ((), ()) ((), (keysOf l, ()))
  | 0, i, hf => by
    have h1 : ilt (i : Int) (llen l) = false := ilt_false.2 (by simp only [llen]; omega)
    rw [loopF_done (c' := ((), ())) (o := ((), (keyN l i, ()))) (by simp only [round, f_impl_tableKeys_l3, h1, cond_false])]
    rw [show i = l.length by omega]; rfl
  | f + 1, i, hf => by
    have h1 : ilt (i : Int) (llen l) = true := ilt_iff.2 (by simp only [llen]; omega)
    have h2 : iadd .i64 (i : Int) (1 : Int) = ((i + 1 : Nat) : Int) := by rw [iadd_i64 (by omega)]; simp
    obtain ⟨x, hx⟩ : ∃ x, l[i]? = some x := ⟨_, List.getElem?_eq_getElem (by omega)⟩
    have hln := keyN_len l i
    rw [loopF_more (c' := ((), ())) (v' := ((l, (l, (llen l, (((i + 1 : Nat) : Int), ())))), (keyN l (i + 1), ()))) (by
      simp only [round, f_impl_tableKeys_l3, h1, cond_true]
      rw [getO_at (by omega) (by rw [Int.toNat_natCast]; exact hx)]
      cases i with
      | zero =>
        rw [show ieq ((0 : Nat) : Int) (0 : Int) = true from rfl, cond_true]
        simp only [f_impl_tableKeys_i6, cond_true, h2, keyN, hx, keyAt, ↓reduceIte]
        rfl
      | succ j =>
        obtain ⟨y, hy⟩ : ∃ y, l[j]? = some y := ⟨_, List.getElem?_eq_getElem (by omega)⟩
        rw [show ieq ((j + 1 : Nat) : Int) (0 : Int) = false from ieq_false.2 (by omega), cond_false, isub_i64 (by omega), show ((j + 1 : Nat) : Int) - 1 = (j : Int) by omega]
        rw [getO_at (by omega) (by rw [Int.toNat_natCast]; exact hy)]
        simp only [f_impl_tableKeys_i6, h2]
        rw [show keyN l (j + 1 + 1) = (if keyAt l (j + 1) x = true then keyN l (j + 1) ++ [x.1] else keyN l (j + 1)) from by rw [keyN, hx], show keyAt l (j + 1) x = !seq y.1 x.1 from by simp only [keyAt, Nat.add_sub_cancel, hy]; rfl]
        cases seq y.1 x.1 with
        | true => rfl
        | false =>
          simp only [Bool.not_false, cond_true, List.length_cons, List.length_nil, ↓reduceIte]
          rw [show decide ((keyN l (j + 1)).length + (0 + 1) ≤ 17179869184) = true from decide_eq_true (by omega), req_true])]
    exact f_impl_tableKeysLoop l hl kk f (i + 1) (by omega)

theorem f_spec_l7KeysVal (x : List DItem × Unit) (hl : x.1.length ≤ 1000) : f_spec_l7Keys x = some ((keysOf x.1, ()), ()) := by
  unfold f_spec_l7Keys
  have h1 := fun (R : Type) kk => f_spec_l7KeysLoop (R := R) x.1 hl kk x.1.length 0 rfl
  rw [show ((0 : Nat) : Int) = (0 : Int) from rfl, show keyN x.1 0 = [] from rfl] at h1
  rw [h1]
theorem f_impl_tableKeysVal (x : List DItem × Unit) (hl : x.1.length ≤ 1000) : f_impl_tableKeys x = some ((keysOf x.1, ()), ()) := by
  unfold f_impl_tableKeys
  have h1 := fun (R : Type) kk => f_impl_tableKeysLoop (R := R) x.1 hl kk x.1.length 0 rfl
  rw [show ((0 : Nat) : Int) = (0 : Int) from rfl, show keyN x.1 0 = [] from rfl] at h1
  rw [h1]

end Go.Proofs.YtncalmofbcmkaaaGreat
