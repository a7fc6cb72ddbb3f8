/- FnIndexed over typed functions. -/
import Derived.Test.YtncalmofbcmkaaaGreatT2Draw
set_option linter.all false
noncomputable section
namespace Go.Proofs.YtncalmofbcmkaaaGreat
open Go Go.Proofs.YtncalmofbcmkaaaGreat.Ev

theorem parts_len_ge (l : List DItem) : ∀ (f a : Nat), l.length ≤ f + a → l.length - a ≤ 8 * (parts f (l.drop a)).length := by
  intro f
  induction f with
  | zero => intro a h; omega
  | succ f ih =>
    intro a h
    by_cases hlt : l.length ≤ a
    · omega
    · rw [parts_more (by omega)]
      have := ih (a + 8) (by omega)
      simp only [List.length_cons]; omega

theorem f_laws_FnIndexed_i21Val {R : Type} (a b : ByteArray) (at' x y z : Int) (t : Bool) (p w : List DPlace) (l : List DItem) (f : DFilter) (q : DPlace) (e : Int)
    (kk : ((ByteArray × ByteArray × Int × Int × Int × Int × Bool × Unit) × ((List DPlace) × (List DPlace) × (List DItem) × DFilter × DPlace × Unit)) → ((Int × Unit) × Unit) → Option R) :
    f_laws_FnIndexed_i21 R ((a, (b, (at', (x, (y, (z, (t, ()))))))), (p, (w, (l, (f, (q, ())))))) ((e, ()), ()) kk = kk ((a, (b, (at', (x, (y, (z, (t, ()))))))), (p, (w, (l, (f, (q, ())))))) ((cond t (isub .i64 (llen l) (1 : Int)) e, ()), ()) := by
  unfold f_laws_FnIndexed_i21
  cases t <;> rfl

theorem eqPl_self (p : DPlace) : eqK kdPlace p p = true := by
  obtain ⟨a, b, c, d, ⟨⟩⟩ := p
  simp [eqK, kdPlace, seq_self]

theorem f_laws_FnIndexedLoop1 {R : Type} (lo hi : ByteArray) (l : List DItem) (hok : okRun l) (fl : DFilter) (p : List DPlace) (hpl : p.length ≤ 1000)
    (kk : (Unit × Unit) → (((Bool × Unit) × ((List DPlace) × (List DPlace) × (List DItem) × DFilter × Unit)) ⊕ ((ByteArray × ByteArray × Unit) × ((List DPlace) × (List DPlace) × (List DItem) × DFilter × Unit))) → Option R) :
    ∀ (f i n : Nat) (A : List DPlace), l.length ≤ f + 8 * i → A.length = i → A ++ placesP n (parts f (l.drop (8 * i))) = p → n + 758 * f ≤ 1000000 →
    loopF (c := f_laws_FnIndexed_l17c) (v := f_laws_FnIndexed_l17v) (ex := f_laws_FnIndexed_l17e) f_laws_FnIndexed_l17 R ((), ()) ((lo, (hi, ((n : Int), (llen p, ((i : Int), ()))))), (p, (p, (l, (fl, ()))))) kk = kk ((), ()) (.inr ((lo, (hi, ())), (p, (p, (l, (fl, ())))))) := by
  intro f
  induction f with
  | zero =>
    intro i n A hf hA hp hn
    have h1 : ilt (i : Int) (llen p) = false := by
      rw [← hp, ← hA]
      have : (parts 0 (l.drop (8 * A.length))) = [] := rfl
      rw [this]
      exact mid_end A
    rw [loopF_done (c' := ((), ())) (o := (Sum.inr ((lo, (hi, ())), (p, (p, (l, (fl, ()))))) : _ ⊕ _)) (by simp only [round, f_laws_FnIndexed_l17, h1, cond_false])]
  | succ f ih =>
    intro i n A hf hA hp hn
    by_cases hlt : l.length ≤ 8 * i
    · have h1 : ilt (i : Int) (llen p) = false := by
        rw [parts_none _ hlt] at hp
        rw [← hp, ← hA]
        exact mid_end A
      rw [loopF_done (c' := ((), ())) (o := (Sum.inr ((lo, (hi, ())), (p, (p, (l, (fl, ()))))) : _ ⊕ _)) (by simp only [round, f_laws_FnIndexed_l17, h1, cond_false])]
    · have hl := hok.2
      obtain ⟨hlast, hmem⟩ := part_last (l := l) (a := 8 * i) (by omega)
      rw [parts_more (by omega), placesP] at hp
      have hz := (parts_ok hok.1 (f + 1) (8 * i) ((l.drop (8 * i)).take 8) (by rw [parts_more (by omega)]; simp)).size
      generalize hP : (l.drop (8 * i)).take 8 = P at *
      have hg : p[i]? = some (placeI n P) := by rw [← hp, ← hA]; exact mid_get A _ _
      have h1 : ilt (i : Int) (llen p) = true := by rw [← hp, ← hA]; exact mid_lt A _ _
      have hi1000 : i < 1000 := by
        have := (List.getElem?_eq_some_iff.1 hg).1
        omega
      have h2 : iadd .i64 (i : Int) (1 : Int) = ((i + 1 : Nat) : Int) := iaddN (b := 1) (by omega)
      have h3 : isub .i64 (imul .i64 ((i + 1 : Nat) : Int) (8 : Int)) (1 : Int) = ((8 * i + 7 : Nat) : Int) := by
        rw [imul_i64 (by omega), isub_i64 (by omega)]; omega
      have h4 : cond (ile (llen l) ((8 * i + 7 : Nat) : Int)) (isub .i64 (llen l) (1 : Int)) ((8 * i + 7 : Nat) : Int) = ((min (8 * i + 8) l.length - 1 : Nat) : Int) := by
        rw [isub_i64 (by simp only [llen]; omega)]
        simp only [llen]
        cases h : ile (l.length : Int) ((8 * i + 7 : Nat) : Int) with
        | true => have := ile_iff.1 h; rw [cond_true]; omega
        | false => have := ile_false.1 h; rw [cond_false]; omega
      rw [loopF_more (c' := ((), ())) (v' := ((lo, (hi, (((n + (blockB P).size : Nat) : Int), (llen p, (((i + 1 : Nat) : Int), ()))))), (p, (p, (l, (fl, ())))))) (by
        simp only [round, f_laws_FnIndexed_l17, h1, cond_true]
        rw [getO_at (by omega) (by rw [Int.toNat_natCast]; exact hg), Int.toNat_natCast, hg, bnd_some, f_laws_FnIndexed_i21Val, h2, h3, h4]
        dsimp only
        rw [getO_at (by omega) (by rw [Int.toNat_natCast]; exact hg), Int.toNat_natCast, hg, bnd_some, eqPl_self, Bool.not_true, cond_false]
        dsimp only [placeI]
        rw [ieq_self, Bool.not_true, cond_false, getO_at (by omega) (by rw [Int.toNat_natCast]; exact hlast), Int.toNat_natCast, hlast, bnd_some, bnd_some]
        rw [seq_self, Bool.not_true, cond_false, getO_at (by omega) (by rw [Int.toNat_natCast]; exact hlast), bnd_some, bnd_some, ieq_self, Bool.not_true, cond_false, iaddN (by omega)])]
      exact ih (i + 1) (n + (blockB P).size) (A ++ [placeI n P]) (by omega) (by simp [hA]) (by rw [← hp]; simp [Nat.mul_add]) (by omega)

theorem f_laws_FnIndexedLoop2 {R : Type} (lo hi : ByteArray) (l : List DItem) (hok : okRun l) (p : List DPlace)
    (kk : ((ByteArray × ByteArray × Int × Unit) × ((List DPlace) × (List DItem) × DFilter × Unit)) → (((Bool × Unit) × Unit) ⊕ (Unit × Unit)) → Option R) :
    ∀ (B A : List DItem), A ++ B = l →
    loopF (c := f_laws_FnIndexed_l27c) (v := f_laws_FnIndexed_l27v) (ex := f_laws_FnIndexed_l27e) f_laws_FnIndexed_l27 R ((lo, (hi, (llen l, ()))), (p, (l, (filt (keysOf l), ())))) ((((A.length : Nat) : Int), ()), ()) kk = kk ((lo, (hi, (llen l, ()))), (p, (l, (filt (keysOf l), ())))) (.inr ((), ())) := by
  intro B
  induction B with
  | nil =>
    intro A hf
    have h1 : ilt ((A.length : Nat) : Int) (llen l) = false := by rw [← hf]; exact mid_end A
    rw [loopF_done (c' := ((lo, (hi, (llen l, ()))), (p, (l, (filt (keysOf l), ()))))) (o := (Sum.inr ((), ()) : _ ⊕ _)) (by simp only [round, f_laws_FnIndexed_l27, h1, cond_false])]
  | cons x B ih =>
    intro A hf
    have h1 : ilt ((A.length : Nat) : Int) (llen l) = true := by rw [← hf]; exact mid_lt A B x
    have hg : l[A.length]? = some x := by rw [← hf]; exact mid_get A B x
    have hx : x ∈ l := List.mem_of_getElem? hg
    have hl := hok.2
    have hlen := congrArg List.length hf
    simp only [List.length_append, List.length_cons] at hlen
    have h2 : iadd .i64 ((A.length : Nat) : Int) (1 : Int) = (((A ++ [x]).length : Nat) : Int) := mid_next A x (by omega)
    have hkk : isKeyB x.1 = true := by
      have := hok.good x hx
      simp only [goodItem, Bool.and_eq_true] at this
      exact this.1
    have hkl := keysOf_len l
    rw [loopF_more (c' := ((lo, (hi, (llen l, ()))), (p, (l, (filt (keysOf l), ()))))) (v' := (((((A ++ [x]).length : Nat) : Int), ()), ())) (by
      simp only [round, f_laws_FnIndexed_l27, h1, cond_true]
      rw [getO_at (by omega) (by rw [Int.toNat_natCast]; exact hg), Int.toNat_natCast, hg, bnd_some, show filt (keysOf l) = filtF (bitsOf (keysOf l)) (keysOf l).length from rfl, f_impl_MayHaveVal _ _ _ (bitsOf_size _) (by omega) hkk, bnd_some]
      dsimp only
      rw [Bool.not_true, cond_false, mayB_of (keysOf_mem hx), Bool.not_true, cond_false, h2])]
    exact ih _ (by simp [← hf])

theorem true_f_laws_FnIndexed (x : List Int × Unit) (hx : ∀ b ∈ x.1, 0 ≤ b ∧ b < 256) : f_laws_FnIndexed x = some ((true, ()), ()) := by
  obtain ⟨code, ⟨⟩⟩ := x
  dsimp only at hx
  unfold f_laws_FnIndexed
  dsimp only
  cases ilt (1048576 : Int) (llen code) with
  | true => rfl
  | false =>
  rw [cond_false]
  obtain ⟨⟨⟨s, ⟨⟩⟩, ⟨⟩⟩, e1, hs⟩ := f_spec_DrawIndexOfDoes (x := (code, ())) hx
  dsimp only at hs
  rw [e1, bnd_some]
  dsimp only
  obtain ⟨p, ok, e2, e3, hp, hpi⟩ := indexOf_same s (by omega)
  obtain ⟨l, ok2, e4, hl, hli⟩ := readTable_impl s (by omega)
  obtain ⟨lo, hi, ok3, e5, hri⟩ := rangeOf_impl s (by omega)
  obtain ⟨f, ok4, e6, hfi⟩ := filterIn_impl s (by omega)
  rw [e3, bnd_some, e2, bnd_some, e4, bnd_some]
  dsimp only
  rw [beqB_self, Bool.not_true, cond_false]
  cases hq : specT s with
  | none =>
    rw [hq] at hpi hli hri hfi
    obtain ⟨rfl, rfl⟩ := hpi
    obtain ⟨rfl, rfl⟩ := hli
    dsimp only at hri hfi
    subst hri
    subst hfi
    rw [beqB_self, Bool.not_true, cond_false, ieq_self, Bool.not_true, cond_false, e5, bnd_some, e6, bnd_some]
    rfl
  | some m =>
    rw [hq] at hpi hli hri hfi
    obtain ⟨hok, _⟩ := specT_some hq
    obtain ⟨rfl, hpi⟩ := hpi
    obtain ⟨rfl, hli⟩ := hli
    obtain ⟨rfl, hr1, hr2⟩ := hri
    obtain ⟨rfl, hfi⟩ := hfi
    subst hfi
    subst hli
    have hl := hok.2
    have hge := parts_len_ge l l.length 0 (by omega)
    have hle := tabPs_len l
    rw [List.drop_zero] at hge
    have hpl : p.length = (tabPs l).length := by rw [hpi, placesP_len]
    have hge' : l.length ≤ 8 * (tabPs l).length := hge
    rw [beqB_self, Bool.not_true, cond_false, ieq_self, Bool.not_true, cond_false, e5, bnd_some, e6, bnd_some]
    dsimp only
    rw [beqB_self, Bool.not_true, cond_false, cond_false, cond_false]
    have h1 := fun (R : Type) lo hi fl kk => f_laws_FnIndexedLoop1 (R := R) lo hi l hok fl p (by omega) kk l.length 0 0 [] (by omega) rfl (by rw [hpi, List.nil_append]; rfl) (by omega)
    rw [show ((0 : Nat) : Int) = (0 : Int) from rfl] at h1
    rw [h1]
    dsimp only
    have h2 := fun (R : Type) lo hi kk => f_laws_FnIndexedLoop2 (R := R) lo hi l hok p kk l [] rfl
    rw [show (((([] : List DItem).length : Nat)) : Int) = (0 : Int) from rfl] at h2
    rw [h2]
    dsimp only
    have g0 : l[0]? = some l[0] := List.getElem?_eq_getElem (by omega)
    have g1 : l[l.length - 1]? = some l[l.length - 1] := List.getElem?_eq_getElem (by omega)
    have e : isub .i64 (llen l) (1 : Int) = ((l.length - 1 : Nat) : Int) := by rw [isub_i64 (by simp only [llen]; omega)]; simp only [llen]; omega
    rw [getO_at (by omega) (show l[Int.toNat 0]? = some l[0] from g0), show l[Int.toNat 0]? = some l[0] from g0]
    simp only [bnd_some]
    rw [hr1 _ g0, seq_self, cond_true, e, getO_at (by omega) (by rw [Int.toNat_natCast]; exact g1), Int.toNat_natCast, g1]
    simp only [bnd_some]
    rw [hr2 _ g1, seq_self, cond_true]
    have e9 : iquo .i64 (isub .i64 (iadd .i64 (llen l) (8 : Int)) (1 : Int)) (8 : Int) = llen p := by
      simp only [llen]
      rw [iadd_i64 (by omega), isub_i64 (by omega)]
      simp only [iquo]
      rw [Int.tdiv_eq_ediv_of_nonneg (by omega), wrap_i64 _ (by omega)]
      omega
    rw [e9, ieq_self]

end Go.Proofs.YtncalmofbcmkaaaGreat
