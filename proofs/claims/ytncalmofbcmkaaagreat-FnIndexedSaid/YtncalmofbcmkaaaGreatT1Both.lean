/- Tables read: both sides answer the same. -/
import Derived.Test.YtncalmofbcmkaaaGreatT1Back
set_option linter.all false
noncomputable section
namespace Go.Proofs.YtncalmofbcmkaaaGreat
open Go Go.Proofs.YtncalmofbcmkaaaGreat.Ev

/-! ### the reference's loop over the places -/
def natPl (p : DPlace) : Prop := (0 ≤ p.2.2.1 ∧ p.2.2.1 < 9223372036854775808) ∧ (0 ≤ p.2.2.2.1 ∧ p.2.2.2.1 < 9223372036854775808)
theorem idxGo_nat : ∀ (f : Nat) (s : ByteArray) (out l : List DPlace), (∀ p ∈ out, natPl p) → idxGo f s out = some l → (∀ p ∈ l, natPl p) ∧ l.length ≤ out.length + s.size
  | 0, s, out, l, _, h => by cases h
  | f + 1, s, out, l, ho, h => by
    rw [idxGo] at h
    split at h
    · injection h with h; subst h; exact ⟨ho, by omega⟩
    · split at h
      · cases h
      · rename_i q hq
        have hr := rec1_ok hq
        have := idxGo_nat f _ _ _ (by
          intro p hp
          rcases List.mem_append.1 hp with hp | hp
          · exact ho p hp
          · simp only [List.mem_singleton] at hp
            subst hp
            simp only [natPl, plc]; omega) h
        refine ⟨this.1, ?_⟩
        have h2 := this.2
        simp only [List.length_append, List.length_cons, List.length_nil] at h2
        omega

theorem f_spec_l7ReadLoop {R : Type} (s bs : ByteArray) (hb : bs.size ≤ 1048576) (pl : List DPlace) (hp : ∀ p ∈ pl, natPl p) (hl : pl.length ≤ 4000000) (r : Option R) (kk : ((ByteArray × ByteArray × Int × Unit) × ((List DPlace) × Unit)) → (((Bool × Unit) × ((List DItem) × (List DItem) × Unit)) ⊕ (Unit × ((List DItem) × Unit))) → Option R)
    (hr : ∀ o, kk ((s, (bs, (llen pl, ()))), (pl, ())) (.inl ((false, ()), ([], (o, ())))) = r) :
    ∀ (B A : List DPlace) (out : List DItem), A ++ B = pl → out.length ≤ 1000 →
    loopF (c := f_spec_l7Read_l7c) (v := f_spec_l7Read_l7v) (ex := f_spec_l7Read_l7e) f_spec_l7Read_l7 R ((s, (bs, (llen pl, ()))), (pl, ())) ((((A.length : Nat) : Int), ()), (out, ())) kk = match rdGo bs B out with
      | none => r
      | some l => kk ((s, (bs, (llen pl, ()))), (pl, ())) (.inr ((), (l, ()))) := by
  intro B
  induction B with
  | nil =>
    intro A out hf ho
    have h1 : ilt ((A.length : Nat) : Int) (llen pl) = false := by rw [← hf]; exact mid_end A
    rw [loopF_done (c' := ((s, (bs, (llen pl, ()))), (pl, ()))) (o := (Sum.inr ((), (out, ())) : _ ⊕ _)) (by simp only [round, f_spec_l7Read_l7, h1, cond_false])]
    rfl
  | cons p B ih =>
    intro A out hf ho
    have h1 : ilt ((A.length : Nat) : Int) (llen pl) = true := by rw [← hf]; exact mid_lt A B p
    have hpn := hp p (by rw [← hf]; simp)
    obtain ⟨x, sq, a, z, ⟨⟩⟩ := p
    simp only [natPl] at hpn
    obtain ⟨a, rfl⟩ := Int.eq_ofNat_of_zero_le hpn.1.1
    obtain ⟨z, rfl⟩ := Int.eq_ofNat_of_zero_le hpn.2.1
    have hg : pl[A.length]? = some (x, (sq, ((a : Int), ((z : Int), ())))) := by rw [← hf]; exact mid_get A B _
    have hlen := congrArg List.length hf
    simp only [List.length_append, List.length_cons] at hlen
    have h2 : iadd .i64 ((A.length : Nat) : Int) (1 : Int) = (((A ++ [(x, (sq, ((a : Int), ((z : Int), ()))))]).length : Nat) : Int) := mid_next A _ (by omega)
    rw [rdGo]
    simp only [Int.toNat_natCast]
    have head : ∀ {Q : Type} (k : DPlace → Option Q), (getO pl ((A.length : Nat) : Int) fun _ => bnd (pl[(Int.toNat ((A.length : Nat) : Int))]?) k) = k (x, (sq, ((a : Int), ((z : Int), ())))) := by
      intro Q k
      rw [getO_at (by omega) (by rw [Int.toNat_natCast]; exact hg), Int.toNat_natCast, hg, bnd_some]
    by_cases c1 : bs.size < z
    · rw [if_pos c1]
      rw [loopF_done (c' := ((s, (bs, (llen pl, ()))), (pl, ()))) (o := (Sum.inl ((false, ()), ([], (out, ()))) : _ ⊕ _)) (by
        simp only [round, f_spec_l7Read_l7, h1, cond_true]
        rw [head, show ilt (slen bs) (z : Int) = true from ilt_iff.2 (by simp only [slen]; omega), cond_true])]
      exact hr _
    rw [if_neg c1]
    have d1 : ilt (slen bs) (z : Int) = false := ilt_false.2 (by simp only [slen]; omega)
    have d0 : isub .i64 (slen bs) (z : Int) = ((bs.size - z : Nat) : Int) := by rw [isub_i64 (by simp only [slen]; omega)]; simp only [slen]; omega
    by_cases c2 : bs.size - z < a
    · rw [if_pos c2]
      rw [loopF_done (c' := ((s, (bs, (llen pl, ()))), (pl, ()))) (o := (Sum.inl ((false, ()), ([], (out, ()))) : _ ⊕ _)) (by
        simp only [round, f_spec_l7Read_l7, h1, cond_true]
        rw [head, d1, cond_false, d0, show ilt ((bs.size - z : Nat) : Int) (a : Int) = true from ilt_iff.2 (by omega), cond_true])]
      exact hr _
    rw [if_neg c2]
    have d2 : ilt ((bs.size - z : Nat) : Int) (a : Int) = false := ilt_false.2 (by omega)
    cases hq : readB (bs.extract a (a + z)) with
    | none =>
      rw [loopF_done (c' := ((s, (bs, (llen pl, ()))), (pl, ()))) (o := (Sum.inl ((false, ()), ([], (out, ()))) : _ ⊕ _)) (by
        simp only [round, f_spec_l7Read_l7, h1, cond_true, reqD3]
        rw [head, d1, cond_false, d0, d2, cond_false]
        dsimp only
        rw [iaddN (by omega), reqP_true (by omega)]
        simp only [Int.toNat_natCast]
        rw [f_spec_l6ReadVal _ (by simp only [ByteArray.size_extract]; omega), hq, bnd_some]
        rfl)]
      exact hr _
    | some l =>
      have hlr := readB_some hq
      dsimp only
      by_cases c3 : 120 < out.length
      · rw [if_pos c3]
        rw [loopF_done (c' := ((s, (bs, (llen pl, ()))), (pl, ()))) (o := (Sum.inl ((false, ()), ([], (out, ()))) : _ ⊕ _)) (by
          simp only [round, f_spec_l7Read_l7, h1, cond_true, reqD3]
          rw [head, d1, cond_false, d0, d2, cond_false]
          dsimp only
          rw [iaddN (by omega), reqP_true (by omega)]
          simp only [Int.toNat_natCast]
          rw [f_spec_l6ReadVal _ (by simp only [ByteArray.size_extract]; omega), hq, bnd_some]
          dsimp only [okB]
          rw [Bool.not_true, cond_false, show ilt (120 : Int) (llen out) = true from ilt_iff.2 (by simp only [llen]; omega), cond_true])]
        exact hr _
      · rw [if_neg c3]
        rw [loopF_more (c' := ((s, (bs, (llen pl, ()))), (pl, ()))) (v' := (((((A ++ [(x, (sq, ((a : Int), ((z : Int), ()))))]).length : Nat) : Int), ()), (out ++ l.1, ()))) (by
          simp only [round, f_spec_l7Read_l7, h1, cond_true, reqD1, reqD3]
          rw [head, d1, cond_false, d0, d2, cond_false]
          dsimp only
          rw [iaddN (by omega), reqP_true (by omega)]
          simp only [Int.toNat_natCast]
          rw [f_spec_l6ReadVal _ (by simp only [ByteArray.size_extract]; omega), hq, bnd_some]
          dsimp only [okB]
          rw [Bool.not_true, cond_false, show ilt (120 : Int) (llen out) = false from ilt_false.2 (by simp only [llen]; omega), cond_false, reqP_true (by omega), h2])]
        exact ih _ _ (by simp [← hf]) (by rw [List.length_append]; omega)

open Classical in
def specT (s : ByteArray) : Option (List DItem) := match partsOf s with
  | none => none
  | some p => match idxGo (p.2.1.size + 1) p.2.1 [] with
    | none => none
    | some pl => match rdGo p.1 pl [] with
      | none => none
      | some l => if okRun l ∧ tableB l = s then some l else none
def okT (q : Option (List DItem)) : ((List DItem) × Bool × Unit) × Unit := match q with
  | none => (([], (false, ())), ())
  | some l => ((l, (true, ())), ())

theorem partsOf_size {s : ByteArray} {p : ByteArray × ByteArray × ByteArray} (h : partsOf s = some p) : p.1.size ≤ s.size ∧ p.2.1.size ≤ 1000 := by
  simp only [partsOf] at h
  split at h
  · cases h
  split at h
  · split at h
    · cases h
    · split at h
      · cases h
      · rename_i q hq
        split at h
        · cases h
        · split at h
          · injection h with h; subst h
            have := takeFr_size hq
            simp only [ByteArray.size_extract]; omega
          · cases h
  · cases h

theorem rdGo_len (bs : ByteArray) : ∀ (pl : List DPlace) (out l : List DItem), rdGo bs pl out = some l → out.length ≤ 160 → l.length ≤ 160
  | [], out, l, h, ho => by simp only [rdGo] at h; injection h with h; subst h; exact ho
  | p :: pl, out, l, h, ho => by
    rw [rdGo] at h
    split at h
    · cases h
    split at h
    · cases h
    split at h
    · cases h
    · rename_i q hq
      have := readB_some hq
      split at h
      · cases h
      · exact rdGo_len bs pl _ l h (by rw [List.length_append]; omega)

theorem inR_iff' (x a b : Int) : inR x a b = true ↔ a ≤ x ∧ x ≤ b := by
  simp only [inR]
  cases h : ile a x with
  | true => rw [cond_true, ile_iff]; have := ile_iff.1 h; omega
  | false => rw [cond_false]; have := ile_false.1 h; constructor
             · intro h; cases h
             · intro h; omega

theorem f_spec_l7GoodVal (x : List DItem × Unit) (hl : x.1.length ≤ 1000) : f_spec_l7Good x = some ((goodRun x.1 && inR (llen x.1) 1 120, ()), ()) := by
  unfold f_spec_l7Good
  rw [f_spec_GoodRunVal _ (by dsimp only; omega), bnd_some]
  dsimp only
  cases goodRun x.1 with
  | true => rw [cond_true, val_f_spec_l1In, bnd_some]; rfl
  | false => rfl

theorem f_spec_l7ReadVal (x : ByteArray × Unit) (hs : x.1.size ≤ 1048576) : f_spec_l7Read x = some (okT (specT x.1)) := by
  obtain ⟨s, ⟨⟩⟩ := x
  dsimp only at hs ⊢
  unfold f_spec_l7Read specT
  rw [f_spec_l7PartsVal _ hs, bnd_some]
  dsimp only
  cases hp : partsOf s with
  | none =>
    dsimp only [partsR]
    rw [f_spec_l7IndexVal _ (by show 0 ≤ 1048576; omega), bnd_some]
    rfl
  | some p =>
    have hpz := partsOf_size hp
    dsimp only [partsR]
    rw [f_spec_l7IndexVal _ (by dsimp only; omega), bnd_some]
    dsimp only
    rw [Bool.not_true, cond_false]
    cases hi : idxGo (p.2.1.size + 1) p.2.1 [] with
    | none => rfl
    | some pl =>
      dsimp only [idxR]
      rw [Bool.not_true, cond_false]
      obtain ⟨hn, hnl⟩ := idxGo_nat _ _ _ _ (by simp) hi
      simp only [List.length_nil] at hnl
      have h1 := fun kk hr => f_spec_l7ReadLoop (R := ((List DItem) × Bool × Unit) × Unit) s p.1 (by omega) pl hn (by omega) (some (okT none)) kk hr pl [] [] rfl (by simp)
      rw [show (((([] : List DPlace).length : Nat)) : Int) = (0 : Int) from rfl] at h1
      rw [h1 _ (fun o => rfl)]
      cases hr : rdGo p.1 pl [] with
      | none => rfl
      | some l =>
        have hl := rdGo_len _ _ _ _ hr (by simp)
        dsimp only
        rw [f_spec_l7GoodVal _ (by dsimp only; omega), bnd_some]
        dsimp only
        cases hg : (goodRun l && inR (llen l) 1 120) with
        | false =>
          rw [Bool.not_false, cond_true, if_neg]
          · rfl
          · rintro ⟨⟨a, b, c⟩, d⟩
            rw [a, Bool.true_and] at hg
            have := (inR_iff' (llen l) 1 120).2 (by simp only [llen]; omega)
            rw [this] at hg; cases hg
        | true =>
          rw [Bool.and_eq_true, inR_iff'] at hg
          simp only [llen] at hg
          have hok : okRun l := ⟨hg.1, by omega, by omega⟩
          rw [Bool.not_true, cond_false, f_spec_l7TableVal _ hok.good (by dsimp only; omega), bnd_some]
          dsimp only
          by_cases he : tableB l = s
          · rw [if_pos ⟨hok, he⟩, (seq_iff _ _).2 he]; rfl
          · rw [if_neg (fun h => he h.2), seq_false.2 he]; rfl

/-! ### the program -/
open Classical in
def implT (s : ByteArray) : Option (List DItem) :=
  if s.size < 8 then none else if s.size - 8 < quadAt s (s.size - 8) then none else
  match takeFr (s.extract (quadAt s (s.size - 8)) (s.size - 8)) with
  | none => none
  | some q => match tiGo s (quadAt s (s.size - 8)) (q.1.size + 1) q.1 0 [] with
    | none => none
    | some t => if t.1 = quadAt s (s.size - 8) ∧ okRun t.2 ∧ tableB t.2 = s then some t.2 else none

theorem tiGo_len (s : ByteArray) (b : Nat) : ∀ (f : Nat) (left : ByteArray) (a : Nat) (out : List DItem) (q : Nat × List DItem), tiGo s b f left a out = some q → q.2.length ≤ out.length + 40 * left.size
  | 0, left, a, out, q, h => by cases h
  | f + 1, left, a, out, q, h => by
    rw [tiGo] at h
    split at h
    · injection h with h; subst h; dsimp only; omega
    split at h
    · cases h
    rename_i u hu
    have hu2 := rec1_ok hu
    split at h
    · split at h
      · cases h
      · split at h
        · cases h
        · rename_i l hl
          have h1 := readB_some hl
          have := tiGo_len s b f _ _ _ _ h
          rw [List.length_append] at this
          omega
    · cases h

theorem f_impl_readTableVal (s : ByteArray) (hs : s.size ≤ 1048576) : ∃ t ok, f_impl_readTable (s, ()) = some ((t, (ok, ())), ()) ∧ match implT s with | none => ok = false | some l => ok = true ∧ t = tabD l := by
  unfold f_impl_readTable implT
  simp only [reqD3]
  by_cases h8 : s.size < 8
  · rw [if_pos h8, isub_i64 (by simp only [slen]; omega), show ilt (slen s - 8) (0 : Int) = true from ilt_iff.2 (by simp only [slen]; omega), cond_true]
    exact ⟨_, _, rfl, rfl⟩
  rw [if_neg h8]
  obtain ⟨n, hn⟩ : ∃ n, n = s.size - 8 := ⟨_, rfl⟩
  have en : isub .i64 (slen s) (8 : Int) = (n : Int) := by rw [isub_i64 (by simp only [slen]; omega)]; simp only [slen]; omega
  rw [← hn, en, show iadd .i64 (n : Int) (4 : Int) = ((n + 4 : Nat) : Int) from iaddN (b := 4) (by omega), show ilt (n : Int) (0 : Int) = false from ilt_false.2 (by omega), cond_false, reqP_true (by omega)]
  simp only [Int.toNat_natCast]
  rw [f_impl_wordOfVal4 _ (by simp only [ByteArray.size_extract]; omega), bnd_some]
  dsimp only
  rw [quadAt_extract (by omega)]
  have hq := quadAt_lt s n
  generalize quadAt s n = a at *
  by_cases h2 : n < a
  · rw [if_pos h2, show ilt (n : Int) (a : Int) = true from ilt_iff.2 (by omega), cond_true]
    exact ⟨_, _, rfl, rfl⟩
  rw [if_neg h2, show ilt (n : Int) (a : Int) = false from ilt_false.2 (by omega), cond_false, reqP_true (by omega)]
  simp only [Int.toNat_natCast]
  rw [f_impl_TakeFrameVal _ (by simp only [ByteArray.size_extract]; omega), bnd_some]
  dsimp only
  cases hf : takeFr (s.extract a n) with
  | none => exact ⟨_, _, rfl, rfl⟩
  | some q =>
    have z1 := takeFr_size hf
    dsimp only [frR]
    rw [Bool.not_true, cond_false, f_impl_tableItemsVal s q.1 a hs (by omega) (by omega), bnd_some]
    cases ht : tiGo s a (q.1.size + 1) q.1 0 [] with
    | none => exact ⟨_, _, rfl, rfl⟩
    | some t =>
      have hl := tiGo_len _ _ _ _ _ _ _ ht
      simp only [List.length_nil] at hl
      dsimp only [tiR]
      by_cases c1 : t.1 = a
      · rw [decide_eq_true c1, Bool.not_true, cond_false, val_f_impl_in, bnd_some]
        dsimp only
        cases c2 : inR (llen t.2) 1 120 with
        | false =>
          rw [Bool.not_false, cond_true, if_neg]
          · exact ⟨_, _, rfl, rfl⟩
          · rintro ⟨_, ⟨_, x, y⟩, _⟩
            have := (inR_iff' (llen t.2) 1 120).2 (by simp only [llen]; omega)
            rw [this] at c2; cases c2
        | true =>
          rw [inR_iff'] at c2
          simp only [llen] at c2
          rw [Bool.not_true, cond_false, f_impl_GoodRunVal _ (by dsimp only; omega), bnd_some]
          dsimp only
          cases c3 : goodRun t.2 with
          | false =>
            rw [Bool.not_false, cond_true, if_neg]
            · exact ⟨_, _, rfl, rfl⟩
            · rintro ⟨_, ⟨x, _⟩, _⟩
              rw [c3] at x; cases x
          | true =>
            have hok : okRun t.2 := ⟨c3, by omega, by omega⟩
            rw [Bool.not_true, cond_false, f_impl_buildVal _ hok.good (by dsimp only; omega), bnd_some]
            refine ⟨_, _, rfl, ?_⟩
            by_cases he : tableB t.2 = s
            · rw [if_pos ⟨c1, hok, he⟩]
              exact ⟨(seq_iff _ _).2 he, rfl⟩
            · rw [if_neg (fun h => he h.2.2)]
              exact seq_false.2 he
      · rw [decide_eq_false c1, Bool.not_false, cond_true, if_neg (fun h => c1 h.1)]
        exact ⟨_, _, rfl, rfl⟩

/-! ### both the same -/
theorem quad_foot (A B : ByteArray) (n : Nat) (hn : n < 4294967296) : quadAt (A ++ footB n ++ B) A.size = n := by
  have hf := footB_size n
  have h : ∀ i, i < 4 → byteAt (A ++ footB n ++ B) (A.size + i) = byteAt (footB n) i := by
    intro i hi
    rw [byteAt_left (by rw [ByteArray.size_append]; omega), byteAt_right]
  have h0 := h 0 (by omega)
  have h1 := h 1 (by omega)
  have h2 := h 2 (by omega)
  have h3 := h 3 (by omega)
  rw [Nat.add_zero] at h0
  simp only [quadAt, h0, h1, h2, h3]
  have b0 := byteAt_strOf (lows 4 (n : Int)) 0 ((n : Int) % 256) (by rw [lows_four]; rfl) (by omega) (by omega)
  have b1 := byteAt_strOf (lows 4 (n : Int)) 1 (((n : Int) / 256) % 256) (by rw [lows_four]; rfl) (by omega) (by omega)
  have b2 := byteAt_strOf (lows 4 (n : Int)) 2 (((n : Int) / 65536) % 256) (by rw [lows_four]; rfl) (by omega) (by omega)
  have b3 := byteAt_strOf (lows 4 (n : Int)) 3 (((n : Int) / 16777216) % 256) (by rw [lows_four]; rfl) (by omega) (by omega)
  simp only [footB, b0, b1, b2, b3]
  omega

/-- how a table lies -/
theorem table_lies {l : List DItem} (h : okRun l) : ∃ n a, (tableB l).size = n + 8 ∧ n = a + (frameB (indexB (placesP 0 (tabPs l)))).size + (frameB (bitsOf (keysOf l))).size ∧ a = (bodyP (tabPs l)).size ∧ quadAt (tableB l) n = a ∧
    (tableB l).extract a n = frameB (indexB (placesP 0 (tabPs l))) ++ frameB (bitsOf (keysOf l)) ∧
    (tableB l).extract (a + (frameB (indexB (placesP 0 (tabPs l)))).size) n = frameB (bitsOf (keysOf l)) ∧ (tableB l).extract 0 a = bodyP (tabPs l) ∧
    strOf (lows 4 (sumOf ((tableB l).extract n (n + 4)))) = (tableB l).extract (n + 4) (tableB l).size ∧
    (∃ post, tableB l = bodyP (tabPs l) ++ post) ∧ (indexB (placesP 0 (tabPs l))).size ≤ 1000 ∧ (tabPs l).length ≤ 15 ∧ (∀ p ∈ placesP 0 (tabPs l), okPl p) := by
  have hps := tabPs_ok h.1
  have hlen := tabPs_len l
  have hl := h.2
  have hbs := body_size _ hps
  have hpl := placesP_ok (tabPs l) 0 hps (by omega)
  have hix := (indexB_le _ hpl).1
  rw [placesP_len] at hix
  have hf := footB_size (bodyP (tabPs l)).size
  have hs4 : (strOf (lows 4 (sumOf (footB (bodyP (tabPs l)).size)))).size = 4 := by rw [strOf_size, lows_length]
  generalize hX : frameB (indexB (placesP 0 (tabPs l))) = X at *
  generalize hY : frameB (bitsOf (keysOf l)) = Y at *
  have ht : tableB l = bodyP (tabPs l) ++ X ++ Y ++ footB (bodyP (tabPs l)).size ++ strOf (lows 4 (sumOf (footB (bodyP (tabPs l)).size))) := by rw [tableB, hX, hY]
  generalize hB : bodyP (tabPs l) = B at *
  generalize hF : footB B.size = F at *
  generalize hS : strOf (lows 4 (sumOf F)) = S at *
  have hsz : (tableB l).size = B.size + X.size + Y.size + 8 := by rw [ht]; simp only [ByteArray.size_append]; omega
  have hn : B.size + X.size + Y.size = (B ++ X ++ Y).size := by simp only [ByteArray.size_append]
  have xF : (tableB l).extract (B.size + X.size + Y.size) (B.size + X.size + Y.size + 4) = F := by
    rw [ht]; exact mid_extract hn (by omega)
  refine ⟨B.size + X.size + Y.size, B.size, hsz, rfl, rfl, ?_, ?_, ?_, ?_, ?_, ⟨X ++ Y ++ F ++ S, by rw [ht]; simp only [ByteArray.append_assoc]⟩, by omega, by omega, hpl⟩
  · rw [ht, hn, ← hF]
    exact quad_foot _ _ _ (by omega)
  · rw [ht, show B ++ X ++ Y ++ F ++ S = B ++ (X ++ Y) ++ (F ++ S) from by simp only [ByteArray.append_assoc]]
    exact mid_extract rfl (by rw [ByteArray.size_append]; omega)
  · rw [ht, show B ++ X ++ Y ++ F ++ S = (B ++ X) ++ Y ++ (F ++ S) from by simp only [ByteArray.append_assoc]]
    exact mid_extract (by rw [ByteArray.size_append]) (by rw [ByteArray.size_append])
  · rw [ht, show B ++ X ++ Y ++ F ++ S = B ++ (X ++ Y ++ F ++ S) from by simp only [ByteArray.append_assoc]]
    exact head_append _ _ rfl
  · rw [xF, hS, hsz, ht]
    have := mid_extract (A := B ++ X ++ Y ++ F) (B := S) (C := ⟨#[]⟩) (a := B.size + X.size + Y.size + 4) (b := B.size + X.size + Y.size + 8) (by simp only [ByteArray.size_append]; omega) (by simp only [ByteArray.size_append]; omega)
    rw [append_empty] at this
    exact this.symm

theorem parts_back {l : List DItem} (h : okRun l) : partsOf (tableB l) = some (bodyP (tabPs l), indexB (placesP 0 (tabPs l)), bitsOf (keysOf l)) := by
  obtain ⟨n, a, h1, h2, h3, h4, h5, h6, h7, h8, ⟨post, h9⟩, h10, h11, h12⟩ := table_lies h
  have hbits := bitsOf_size (keysOf l)
  have t2 := takeFr_back (bitsOf (keysOf l)) ⟨#[]⟩ (by omega)
  rw [append_empty] at t2
  simp only [partsOf]
  rw [if_neg (by omega), show (tableB l).size - 8 = n by omega, if_pos h8, h4, if_neg (by omega), h5, takeFr_back _ _ h10]
  dsimp only
  rw [h6, t2]
  dsimp only
  rw [if_pos (by omega), h7]

theorem index_back {l : List DItem} (h : okRun l) : idxGo ((indexB (placesP 0 (tabPs l))).size + 1) (indexB (placesP 0 (tabPs l))) [] = some (placesP 0 (tabPs l)) := by
  obtain ⟨n, a, h1, h2, h3, h4, h5, h6, h7, h8, ⟨post, h9⟩, h10, h11, h12⟩ := table_lies h
  rw [idx_back _ _ _ h12 (by rw [placesP_len]; have := (indexB_le _ h12).2; rw [placesP_len] at this; omega)]
  rfl

theorem specT_back {l : List DItem} (h : okRun l) : specT (tableB l) = some l := by
  obtain ⟨n, a, h1, h2, h3, h4, h5, h6, h7, h8, ⟨post, h9⟩, h10, h11, h12⟩ := table_lies h
  have hl := h.2
  have hfl := tabPs_flat l
  unfold specT
  rw [parts_back h]
  dsimp only
  rw [index_back h]
  dsimp only
  have hr := rd_back (bodyP (tabPs l)) (tabPs l) ⟨#[]⟩ [] (tabPs_ok h.1) (by show 0 + 758 * (tabPs l).length ≤ 1000000; omega) (by rw [empty_append]) (by rw [hfl]; simp; omega)
  rw [show (⟨#[]⟩ : ByteArray).size = 0 from rfl, hfl, List.nil_append] at hr
  rw [hr]
  dsimp only
  rw [if_pos ⟨h, rfl⟩]

theorem implT_back {l : List DItem} (h : okRun l) : implT (tableB l) = some l := by
  obtain ⟨n, a, h1, h2, h3, h4, h5, h6, h7, h8, ⟨post, h9⟩, h10, h11, h12⟩ := table_lies h
  have hl := h.2
  have hfl := tabPs_flat l
  unfold implT
  rw [if_neg (by omega), show (tableB l).size - 8 = n by omega, h4, if_neg (by omega), h5, takeFr_back _ _ h10]
  dsimp only
  have hr := ti_back (tableB l) a (tabPs l) ((indexB (placesP 0 (tabPs l))).size + 1) ⟨#[]⟩ post [] (tabPs_ok h.1) (by have := (indexB_le _ h12).2; rw [placesP_len] at this; omega) (by show 0 + 758 * (tabPs l).length ≤ 1000000; omega) (by rw [empty_append]; exact h9) (by rw [h3]; show _ = 0 + _; omega)
  rw [show (⟨#[]⟩ : ByteArray).size = 0 from rfl, hfl, List.nil_append] at hr
  rw [hr]
  dsimp only
  rw [if_pos ⟨rfl, h, rfl⟩]

theorem specT_some {s : ByteArray} {l : List DItem} (h : specT s = some l) : okRun l ∧ tableB l = s := by
  simp only [specT] at h
  split at h
  · cases h
  split at h
  · cases h
  split at h
  · cases h
  split at h
  · rename_i hh
    injection h with h; subst h; exact hh
  · cases h
theorem implT_some {s : ByteArray} {l : List DItem} (h : implT s = some l) : okRun l ∧ tableB l = s := by
  simp only [implT] at h
  split at h
  · cases h
  split at h
  · cases h
  split at h
  · cases h
  split at h
  · cases h
  split at h
  · rename_i hh
    injection h with h; subst h; exact hh.2
  · cases h

theorem implT_specT (s : ByteArray) : implT s = specT s := by
  cases h : implT s with
  | some l =>
    obtain ⟨h1, h2⟩ := implT_some h
    rw [← h2, specT_back h1]
  | none =>
    cases h2 : specT s with
    | none => rfl
    | some l =>
      obtain ⟨h3, h4⟩ := specT_some h2
      rw [← h4, implT_back h3] at h
      cases h

end Go.Proofs.YtncalmofbcmkaaaGreat
