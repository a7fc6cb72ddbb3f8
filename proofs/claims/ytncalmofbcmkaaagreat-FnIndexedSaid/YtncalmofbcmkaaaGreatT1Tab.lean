/- The bytes of a table: both sides lay the same. -/
import Derived.Test.YtncalmofbcmkaaaGreatT1Flt
set_option linter.all false
noncomputable section
namespace Go.Proofs.YtncalmofbcmkaaaGreat
open Go Go.Proofs.YtncalmofbcmkaaaGreat.Ev

/-! ### frames -/
def frameB (t : ByteArray) : ByteArray := varB t.size ++ strOf (lows 4 (sumOf t)) ++ t
theorem frameB_size (t : ByteArray) : (frameB t).size ≤ t.size + 13 := by
  have := varB_size t.size
  simp only [frameB, ByteArray.size_append, strOf_size, lows_length]; omega

theorem f_spec_l2FrameVal (x : ByteArray × Unit) (hs : x.1.size ≤ 1000000) : f_spec_l2Frame x = some ((frameB x.1, ()), ()) := by
  unfold f_spec_l2Frame
  have h9 := varB_size x.1.size
  rw [f_spec_l2VarVal _ x.1.size rfl (by omega), bnd_some, f_spec_l2SumVal _ (by dsimp only; omega), bnd_some]
  dsimp only
  rw [f_spec_l2WordVal, bnd_some]
  dsimp only
  rw [catO_some (by rw [strOf_size, lows_length]; omega), catO_some (by rw [ByteArray.size_append, strOf_size, lows_length]; omega)]
  rfl
theorem f_impl_frameVal (x : ByteArray × Unit) (hs : x.1.size ≤ 1000000) : f_impl_frame x = some ((frameB x.1, ()), ()) := by
  unfold f_impl_frame
  have h9 := varB_size x.1.size
  rw [f_impl_varBytesVal _ x.1.size rfl (by omega), bnd_some, f_impl_SumOfVal _ (by dsimp only; omega), bnd_some]
  dsimp only
  rw [f_impl_lowFirstVal _ 4 (by omega) rfl, bnd_some]
  dsimp only
  rw [catO_some (by rw [strOf_size, lows_length]; omega), catO_some (by rw [ByteArray.size_append, strOf_size, lows_length]; omega)]
  rfl

/-! ### parts -/
def parts : Nat → List DItem → List (List DItem)
  | 0, _ => []
  | f + 1, l => if l.length = 0 then [] else l.take 8 :: parts f (l.drop 8)
def lastI (p : List DItem) : DItem := (p[p.length - 1]?).getD noItem
def placeI (at' : Nat) (p : List DItem) : DPlace := ((lastI p).1, ((lastI p).2.1, ((at' : Int), (((blockB p).size : Int), ()))))
def placesP : Nat → List (List DItem) → List DPlace
  | _, [] => []
  | at', p :: ps => placeI at' p :: placesP (at' + (blockB p).size) ps
def bodyP : List (List DItem) → ByteArray
  | [] => ⟨#[]⟩
  | p :: ps => blockB p ++ bodyP ps
def recB (p : DPlace) : ByteArray := varB p.1.size ++ p.1 ++ varB p.2.1.toNat ++ varB p.2.2.1.toNat ++ varB p.2.2.2.1.toNat
def indexB : List DPlace → ByteArray
  | [] => ⟨#[]⟩
  | p :: ps => recB p ++ indexB ps

theorem blockB_size {l : List DItem} (hg : ∀ x ∈ l, goodItem x = true) : (blockB l).size ≤ 94 * l.length + 6 := by
  have := bodyB_size hg
  simp only [blockB, ByteArray.size_append, strOf_size, lows_length]; omega

theorem recB_size (p : DPlace) : (recB p).size ≤ p.1.size + 36 := by
  have h1 := varB_size p.1.size
  have h2 := varB_size p.2.1.toNat
  have h3 := varB_size p.2.2.1.toNat
  have h4 := varB_size p.2.2.2.1.toNat
  simp only [recB, ByteArray.size_append]; omega

theorem part_last {l : List DItem} {a : Nat} (h : a < l.length) : l[min (a + 8) l.length - 1]? = some (lastI ((l.drop a).take 8)) ∧ lastI ((l.drop a).take 8) ∈ l := by
  have hlen : ((l.drop a).take 8).length = min 8 (l.length - a) := by simp
  obtain ⟨x, hx⟩ : ∃ x, l[min (a + 8) l.length - 1]? = some x := ⟨_, List.getElem?_eq_getElem (by omega)⟩
  have e : ((l.drop a).take 8)[((l.drop a).take 8).length - 1]? = some x := by
    rw [hlen, List.getElem?_take_of_lt (by omega), List.getElem?_drop, ← hx]
    congr 1
    omega
  have e2 : lastI ((l.drop a).take 8) = x := by rw [lastI, e]; rfl
  rw [e2]
  exact ⟨hx, List.mem_of_getElem? hx⟩

theorem part_good {l : List DItem} (hg : ∀ x ∈ l, goodItem x = true) (a : Nat) : ∀ x ∈ (l.drop a).take 8, goodItem x = true := fun x hx => hg x (List.mem_of_mem_drop (List.mem_of_mem_take hx))

theorem parts_more {l : List DItem} {a f : Nat} (h : a < l.length) : parts (f + 1) (l.drop a) = (l.drop a).take 8 :: parts f (l.drop (a + 8)) := by
  rw [parts, if_neg (by rw [List.length_drop]; omega), List.drop_drop]
theorem parts_none {l : List DItem} {a : Nat} (f : Nat) (h : l.length ≤ a) : parts f (l.drop a) = [] := by
  cases f with
  | zero => rfl
  | succ f => rw [parts, if_pos (by rw [List.length_drop]; omega)]

theorem part_take {l : List DItem} {a e : Nat} (he : e = min (a + 8) l.length) (h : a < l.length) : (l.drop a).take (e - a) = (l.drop a).take 8 := by
  subst he
  by_cases h8 : a + 8 ≤ l.length
  · rw [show min (a + 8) l.length - a = 8 by omega]
  · rw [show min (a + 8) l.length - a = (l.drop a).length by rw [List.length_drop]; omega, List.take_length, List.take_of_length_le (by rw [List.length_drop]; omega)]

theorem seqNat {x : DItem} (h : goodItem x = true) : x.2.1 = ((x.2.1.toNat : Nat) : Int) ∧ x.2.1.toNat ≤ 1000000000 := by
  have := good_sizes h
  omega

theorem f_spec_l7Table_i8Val {R : Type} (l : List DItem) (s ix : ByteArray) (a : Int) (b : Bool) (e : Int) (kk : (((List DItem) × ByteArray × ByteArray × Int × Bool × Unit) × Unit) → ((Int × Unit) × Unit) → Option R) :
    f_spec_l7Table_i8 R ((l, (s, (ix, (a, (b, ()))))), ()) ((e, ()), ()) kk = kk ((l, (s, (ix, (a, (b, ()))))), ()) ((cond b (llen l) e, ()), ()) := by
  unfold f_spec_l7Table_i8
  cases b <;> rfl

theorem f_spec_l7TableLoop {R : Type} (l : List DItem) (hg : ∀ x ∈ l, goodItem x = true) (hl : l.length ≤ 1000) (kk : (Unit × Unit) → (((List DItem) × ByteArray × ByteArray × Unit) × Unit) → Option R) :
    ∀ (f a : Nat) (s ix : ByteArray), l.length ≤ f + a → a ≤ 2000 → s.size + 800 * f ≤ 1000000 → ix.size + 100 * f ≤ 1000000 →
    loopF (c := f_spec_l7Table_l4c) (v := f_spec_l7Table_l4v) (ex := f_spec_l7Table_l4e) f_spec_l7Table_l4 R ((), ()) ((l, (s, (ix, ((a : Int), ())))), ()) kk = kk ((), ()) ((l, (s ++ bodyP (parts f (l.drop a)), (ix ++ indexB (placesP s.size (parts f (l.drop a))), ()))), ()) := by
  intro f
  induction f with
  | zero =>
    intro a s ix hf ha hs hi
    have hlt : l.length ≤ a := by omega
    have h1 : ilt (a : Int) (llen l) = false := ilt_false.2 (by simp only [llen]; omega)
    rw [loopF_done (c' := ((), ())) (o := ((l, (s, (ix, ()))), ())) (by simp only [round, f_spec_l7Table_l4, h1, cond_false]), parts_none _ hlt]
    simp only [bodyP, placesP, indexB, append_empty]
  | succ f ih =>
    intro a s ix hf ha hs hi
    by_cases hlt : l.length ≤ a
    · have h1 : ilt (a : Int) (llen l) = false := ilt_false.2 (by simp only [llen]; omega)
      rw [loopF_done (c' := ((), ())) (o := ((l, (s, (ix, ()))), ())) (by simp only [round, f_spec_l7Table_l4, h1, cond_false]), parts_none _ hlt]
      simp only [bodyP, placesP, indexB, append_empty]
    · have h1 : ilt (a : Int) (llen l) = true := ilt_iff.2 (by simp only [llen]; omega)
      obtain ⟨hlast, hmem⟩ := part_last (l := l) (a := a) (by omega)
      obtain ⟨e, he⟩ : ∃ e, e = min (a + 8) l.length := ⟨_, rfl⟩
      have hpt := part_take he (by omega)
      rw [← he] at hlast
      have hgood := hg _ hmem
      have hsz := good_sizes hgood
      obtain ⟨hsq, hsq2⟩ := seqNat hgood
      have hbs := blockB_size (part_good hg a)
      have hpl : ((l.drop a).take 8).length ≤ 8 := by rw [List.length_take]; omega
      have hr := recB_size (placeI s.size ((l.drop a).take 8))
      have hr1 : (placeI s.size ((l.drop a).take 8)).1.size ≤ 16 := hsz.2.1
      have v1 := varB_size (lastI ((l.drop a).take 8)).1.size
      have v2 := varB_size (lastI ((l.drop a).take 8)).2.1.toNat
      have v3 := varB_size s.size
      have v4 := varB_size (blockB ((l.drop a).take 8)).size
      rw [loopF_more (c' := ((), ())) (v' := ((l, (s ++ blockB ((l.drop a).take 8), (ix ++ recB (placeI s.size ((l.drop a).take 8)), (((a + 8 : Nat) : Int), ())))), ())) (by
        simp only [round, f_spec_l7Table_l4, h1, cond_true]
        rw [f_spec_l7Table_i8Val, iadd_i64 (by omega)]
        rw [show (cond (ilt (llen l) ((a : Int) + 8)) (llen l) ((a : Int) + 8)) = (e : Int) from by
          simp only [llen]
          cases h : ilt (l.length : Int) ((a : Int) + 8) with
          | true => have := ilt_iff.1 h; rw [cond_true]; omega
          | false => have := ilt_false.1 h; rw [cond_false]; omega]
        dsimp only
        rw [bounds3 (by omega) (by omega), req_true, Int.toNat_natCast, Int.toNat_natCast, hpt, f_spec_l6BlockVal _ (part_good hg a) (by dsimp only; omega), bnd_some]
        rw [isub_i64 (by omega), getO_at (by omega) (by rw [show ((e : Int) - 1).toNat = e - 1 by omega]; exact hlast)]
        rw [f_spec_l2VarVal _ (lastI ((l.drop a).take 8)).1.size rfl (by omega), bnd_some]
        dsimp only
        rw [catO_some (by omega), f_spec_l2VarVal _ (lastI ((l.drop a).take 8)).2.1.toNat hsq (by omega), bnd_some]
        dsimp only
        rw [catO_some (by simp only [ByteArray.size_append]; omega), f_spec_l2VarVal _ s.size rfl (by omega), bnd_some]
        dsimp only
        rw [catO_some (by simp only [ByteArray.size_append]; omega), f_spec_l2VarVal _ (blockB ((l.drop a).take 8)).size rfl (by omega), bnd_some]
        dsimp only
        rw [catO_some (by simp only [ByteArray.size_append]; omega), catO_some (by simp only [ByteArray.size_append]; omega), catO_some (by omega), show ((a : Int) + 8) = ((a + 8 : Nat) : Int) from by omega]
        simp only [recB, placeI, Int.toNat_natCast])]
      rw [ih (a + 8) _ _ (by omega) (by omega) (by rw [ByteArray.size_append]; omega) (by rw [ByteArray.size_append]; omega), parts_more (by omega)]
      simp only [bodyP, placesP, indexB, ByteArray.append_assoc, ByteArray.size_append]

theorem f_impl_sizedVal (x : ByteArray × Unit) (hs : x.1.size ≤ 1000000) : f_impl_sized x = some ((varB x.1.size ++ x.1, ()), ()) := by
  unfold f_impl_sized
  have h9 := varB_size x.1.size
  rw [f_impl_varBytesVal _ x.1.size rfl (by omega), bnd_some]
  dsimp only
  rw [catO_some (by omega)]

theorem f_impl_buildLoop {R : Type} (l : List DItem) (hg : ∀ x ∈ l, goodItem x = true) (hl : l.length ≤ 1000) (c : Dtable) (fl : DFilter × Unit) (kk : (Unit × (Dtable × Unit)) → ((ByteArray × ByteArray × Unit) × (Dtable × Unit)) → Option R) :
    ∀ (f a : Nat) (s ix : ByteArray) (pl : List DPlace), l.length ≤ f + a → a ≤ 2000 → s.size + 800 * f ≤ 1000000 → ix.size + 100 * f ≤ 1000000 → pl.length + f ≤ 1000000 →
    loopF (c := f_impl_build_l3c) (v := f_impl_build_l3v) (ex := f_impl_build_l3e) f_impl_build_l3 R ((), (c, ())) ((s, (ix, ((a : Int), ()))), ((l, (pl, fl)), ())) kk = kk ((), (c, ())) ((s ++ bodyP (parts f (l.drop a)), (ix ++ indexB (placesP s.size (parts f (l.drop a))), ())), ((l, (pl ++ placesP s.size (parts f (l.drop a)), fl)), ())) := by
  intro f
  induction f with
  | zero =>
    intro a s ix pl hf ha hs hi hp
    have hlt : l.length ≤ a := by omega
    have h1 : ilt (a : Int) (llen l) = false := ilt_false.2 (by simp only [llen]; omega)
    rw [loopF_done (c' := ((), (c, ()))) (o := ((s, (ix, ())), ((l, (pl, fl)), ()))) (by simp only [round, f_impl_build_l3, h1, cond_false]), parts_none _ hlt]
    simp only [bodyP, placesP, indexB, append_empty, List.append_nil]
  | succ f ih =>
    intro a s ix pl hf ha hs hi hp
    by_cases hlt : l.length ≤ a
    · have h1 : ilt (a : Int) (llen l) = false := ilt_false.2 (by simp only [llen]; omega)
      rw [loopF_done (c' := ((), (c, ()))) (o := ((s, (ix, ())), ((l, (pl, fl)), ()))) (by simp only [round, f_impl_build_l3, h1, cond_false]), parts_none _ hlt]
      simp only [bodyP, placesP, indexB, append_empty, List.append_nil]
    · have h1 : ilt (a : Int) (llen l) = true := ilt_iff.2 (by simp only [llen]; omega)
      obtain ⟨hlast, hmem⟩ := part_last (l := l) (a := a) (by omega)
      obtain ⟨e, he⟩ : ∃ e, e = min (a + 8) l.length := ⟨_, rfl⟩
      have hpt := part_take he (by omega)
      rw [← he] at hlast
      have hgood := hg _ hmem
      have hsz := good_sizes hgood
      obtain ⟨hsq, hsq2⟩ := seqNat hgood
      have hbs := blockB_size (part_good hg a)
      have hpl : ((l.drop a).take 8).length ≤ 8 := by rw [List.length_take]; omega
      have hpl2 : ((l.drop a).take 8).length = e - a := by rw [List.length_take, List.length_drop]; omega
      have hr := recB_size (placeI s.size ((l.drop a).take 8))
      have hr1 : (placeI s.size ((l.drop a).take 8)).1.size ≤ 16 := hsz.2.1
      have v1 := varB_size (lastI ((l.drop a).take 8)).1.size
      have v2 := varB_size (lastI ((l.drop a).take 8)).2.1.toNat
      have v3 := varB_size s.size
      have v4 := varB_size (blockB ((l.drop a).take 8)).size
      obtain ⟨z, hz⟩ : ∃ z, ((l.drop a).take 8)[e - a - 1]? = some z := ⟨_, List.getElem?_eq_getElem (by omega)⟩
      rw [loopF_more (c' := ((), (c, ()))) (v' := ((s ++ blockB ((l.drop a).take 8), (ix ++ recB (placeI s.size ((l.drop a).take 8)), (((a + 8 : Nat) : Int), ()))), ((l, (pl ++ [placeI s.size ((l.drop a).take 8)], fl)), ()))) (by
        simp only [round, f_impl_build_l3, h1, cond_true]
        rw [iadd_i64 (by omega), imin_eq, show min ((a : Int) + 8) (llen l) = (e : Int) from by simp only [llen]; omega]
        rw [bounds3 (by omega) (by omega), req_true]
        simp only [Int.toNat_natCast]
        rw [hpt, f_impl_blockVal _ (part_good hg a) (by dsimp only; omega), bnd_some]
        rw [isub_i64 (by omega), show ((e - a : Nat) : Int) - 1 = ((e - a - 1 : Nat) : Int) by omega, getO_at (by omega) (by rw [Int.toNat_natCast]; exact hz), Int.toNat_natCast, show a + (e - a - 1) = e - 1 by omega, hlast, bnd_some]
        dsimp only
        rw [show decide (pl.length + [((lastI ((l.drop a).take 8)).1, ((lastI ((l.drop a).take 8)).2.1, ((slen s), ((slen (blockB ((l.drop a).take 8))), ()))))].length ≤ 17179869184) = true from decide_eq_true (by simp only [List.length_cons, List.length_nil]; omega), req_true]
        rw [f_impl_sizedVal _ (by dsimp only; omega), bnd_some]
        dsimp only
        rw [f_impl_varBytesVal _ (lastI ((l.drop a).take 8)).2.1.toNat hsq (by omega), bnd_some]
        dsimp only
        rw [catO_some (by simp only [ByteArray.size_append]; omega), f_impl_varBytesVal _ s.size rfl (by omega), bnd_some]
        dsimp only
        rw [catO_some (by simp only [ByteArray.size_append]; omega), f_impl_varBytesVal _ (blockB ((l.drop a).take 8)).size rfl (by omega), bnd_some]
        dsimp only
        rw [catO_some (by simp only [ByteArray.size_append]; omega), catO_some (by simp only [ByteArray.size_append]; omega), catO_some (by omega), show ((a : Int) + 8) = ((a + 8 : Nat) : Int) from by omega]
        simp only [recB, placeI, Int.toNat_natCast, slen])]
      rw [ih (a + 8) _ _ _ (by omega) (by omega) (by rw [ByteArray.size_append]; omega) (by rw [ByteArray.size_append]; omega) (by simp only [List.length_append, List.length_cons, List.length_nil]; omega), parts_more (by omega)]
      simp only [bodyP, placesP, indexB, ByteArray.append_assoc, ByteArray.size_append, List.append_assoc, List.singleton_append]

/-! ### the whole table -/
def footB (n : Nat) : ByteArray := strOf (lows 4 (n : Int))
def tabPs (l : List DItem) : List (List DItem) := parts l.length l
def tableB (l : List DItem) : ByteArray :=
  bodyP (tabPs l) ++ frameB (indexB (placesP 0 (tabPs l))) ++ frameB (bitsOf (keysOf l)) ++ footB (bodyP (tabPs l)).size ++ strOf (lows 4 (sumOf (footB (bodyP (tabPs l)).size)))

theorem parts_sizes {l : List DItem} (hg : ∀ x ∈ l, goodItem x = true) : ∀ (f a n : Nat), (bodyP (parts f (l.drop a))).size ≤ 800 * f ∧ (indexB (placesP n (parts f (l.drop a)))).size ≤ 100 * f := by
  intro f
  induction f with
  | zero => intro a n; exact ⟨Nat.le_refl _, Nat.le_refl _⟩
  | succ f ih =>
    intro a n
    by_cases hlt : l.length ≤ a
    · rw [parts_none _ hlt]; exact ⟨Nat.zero_le _, Nat.zero_le _⟩
    · rw [parts_more (by omega)]
      have h1 := ih (a + 8) (n + (blockB ((l.drop a).take 8)).size)
      have hbs := blockB_size (part_good hg a)
      have hpl : ((l.drop a).take 8).length ≤ 8 := by rw [List.length_take]; omega
      have hr := recB_size (placeI n ((l.drop a).take 8))
      have hr1 : (placeI n ((l.drop a).take 8)).1.size ≤ 16 := (good_sizes (hg _ (part_last (l := l) (a := a) (by omega)).2)).2.1
      simp only [bodyP, placesP, indexB, ByteArray.size_append]
      omega

theorem tab_sizes {l : List DItem} (hg : ∀ x ∈ l, goodItem x = true) : (bodyP (tabPs l)).size ≤ 800 * l.length ∧ (indexB (placesP 0 (tabPs l))).size ≤ 100 * l.length := by
  have := parts_sizes hg l.length 0 0
  rwa [List.drop_zero] at this

theorem lows_u32 {n : Nat} (h : n < 4294967296) : lows 4 (IntKind.wrap .u32 (n : Int)) = lows 4 (n : Int) := by rw [wrap_u32, Int.emod_eq_of_lt (by omega) (by omega)]
theorem footB_size (n : Nat) : (footB n).size = 4 := by rw [footB, strOf_size, lows_length]
theorem keysOf_good {l : List DItem} (hg : ∀ x ∈ l, goodItem x = true) : ∀ k ∈ keysOf l, isKeyB k = true := keyN_good hg _
theorem keysOf_len (l : List DItem) : (keysOf l).length ≤ l.length := keyN_len l _

theorem f_spec_l7TableVal (x : List DItem × Unit) (hg : ∀ y ∈ x.1, goodItem y = true) (hl : x.1.length ≤ 120) : f_spec_l7Table x = some ((tableB x.1, ()), ()) := by
  obtain ⟨l, ⟨⟩⟩ := x
  dsimp only at hg hl
  unfold f_spec_l7Table
  obtain ⟨hb, hi⟩ := tab_sizes hg
  have h0 := fun (R : Type) kk => f_spec_l7TableLoop (R := R) l hg (by omega) kk l.length 0 ⟨#[]⟩ ⟨#[]⟩ (by omega) (by omega) (by show 0 + 800 * l.length ≤ 1000000; omega) (by show 0 + 100 * l.length ≤ 1000000; omega)
  simp only [empty_append, List.drop_zero] at h0
  rw [show ((0 : Nat) : Int) = (0 : Int) from rfl, show (⟨#[]⟩ : ByteArray).size = 0 from rfl] at h0
  dsimp only
  rw [h0]
  dsimp only
  have hk := keysOf_len l
  rw [f_spec_l7KeysVal _ (by dsimp only; omega), bnd_some, f_spec_FilterOfVal _ rfl (keysOf_good hg) (by dsimp only; omega), bnd_some]
  unfold f_spec_l7Word
  rw [f_spec_l2WordVal, bnd_some, bnd_some]
  dsimp only
  rw [show slen (bodyP (parts l.length l)) = (((bodyP (tabPs l)).size : Nat) : Int) from rfl, lows_u32 (by omega)]
  rw [f_spec_l2FrameVal _ (by dsimp only; exact Nat.le_trans hi (by omega)), bnd_some]
  have hf1 := frameB_size (indexB (placesP 0 (tabPs l)))
  have hf2 := frameB_size (bitsOf (keysOf l))
  have hf3 := footB_size (bodyP (tabPs l)).size
  have hbits := bitsOf_size (keysOf l)
  dsimp only [filt, filtF]
  rw [show parts l.length l = tabPs l from rfl]
  rw [catO_some (by omega), f_spec_l2FrameVal _ (by dsimp only; omega), bnd_some]
  dsimp only
  rw [catO_some (by rw [ByteArray.size_append]; omega), show strOf (lows 4 (((bodyP (tabPs l)).size : Nat) : Int)) = footB (bodyP (tabPs l)).size from rfl]
  rw [catO_some (by simp only [ByteArray.size_append]; omega), f_spec_l2SumVal _ (by dsimp only; omega), bnd_some]
  dsimp only
  rw [f_spec_l2WordVal, bnd_some]
  dsimp only
  rw [catO_some (by simp only [ByteArray.size_append, strOf_size, lows_length]; omega)]
  rfl

def tabD (l : List DItem) : Dtable := (l, (placesP 0 (tabPs l), (filt (keysOf l), ())))
theorem f_impl_buildVal (x : List DItem × Unit) (hg : ∀ y ∈ x.1, goodItem y = true) (hl : x.1.length ≤ 120) : f_impl_build x = some ((tabD x.1, (tableB x.1, ())), ()) := by
  obtain ⟨l, ⟨⟩⟩ := x
  dsimp only at hg hl
  unfold f_impl_build
  obtain ⟨hb, hi⟩ := tab_sizes hg
  have h0 := fun (R : Type) c fl kk => f_impl_buildLoop (R := R) l hg (by omega) c fl kk l.length 0 ⟨#[]⟩ ⟨#[]⟩ [] (by omega) (by omega) (by show 0 + 800 * l.length ≤ 1000000; omega) (by show 0 + 100 * l.length ≤ 1000000; omega) (by simp; omega)
  simp only [empty_append, List.drop_zero, List.nil_append] at h0
  rw [show ((0 : Nat) : Int) = (0 : Int) from rfl, show (⟨#[]⟩ : ByteArray).size = 0 from rfl] at h0
  dsimp only
  rw [h0]
  dsimp only
  have hk := keysOf_len l
  rw [f_impl_tableKeysVal _ (by dsimp only; omega), bnd_some, f_impl_FilterOfVal _ rfl (keysOf_good hg) (by dsimp only; omega), bnd_some]
  rw [f_impl_lowFirstVal _ 4 (by omega) rfl, bnd_some]
  dsimp only
  rw [show slen (bodyP (parts l.length l)) = (((bodyP (tabPs l)).size : Nat) : Int) from rfl, lows_u32 (by omega)]
  rw [f_impl_frameVal _ (by dsimp only; exact Nat.le_trans hi (by omega)), bnd_some]
  have hf1 := frameB_size (indexB (placesP 0 (tabPs l)))
  have hf2 := frameB_size (bitsOf (keysOf l))
  have hf3 := footB_size (bodyP (tabPs l)).size
  have hbits := bitsOf_size (keysOf l)
  dsimp only [filt, filtF]
  rw [show parts l.length l = tabPs l from rfl]
  rw [catO_some (by omega), f_impl_frameVal _ (by dsimp only; omega), bnd_some]
  dsimp only
  rw [catO_some (by rw [ByteArray.size_append]; omega), show strOf (lows 4 (((bodyP (tabPs l)).size : Nat) : Int)) = footB (bodyP (tabPs l)).size from rfl]
  rw [catO_some (by simp only [ByteArray.size_append]; omega), f_impl_SumOfVal _ (by dsimp only; omega), bnd_some]
  dsimp only
  rw [f_impl_lowFirstVal _ 4 (by omega) rfl, bnd_some]
  dsimp only
  rw [catO_some (by simp only [ByteArray.size_append, strOf_size, lows_length]; omega)]
  rfl

end Go.Proofs.YtncalmofbcmkaaaGreat
