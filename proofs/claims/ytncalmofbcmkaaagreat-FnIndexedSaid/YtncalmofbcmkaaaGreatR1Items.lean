/- Items read from a text: the loops of both sides. -/
import Derived.Test.YtncalmofbcmkaaaGreatR1Parse
set_option linter.all false
namespace Go.Proofs.YtncalmofbcmkaaaGreat
open Go Go.Proofs.YtncalmofbcmkaaaGreat.Ev

theorem iaddN {a b : Nat} (h : a + b ≤ 9223372036854775807) : iadd .i64 (a : Int) (b : Int) = ((a + b : Nat) : Int) := by rw [iadd_i64 (by omega)]; simp
theorem iquo2 {a : Nat} (h : a ≤ 9223372036854775807) : iquo .i64 (a : Int) (2 : Int) = ((a / 2 : Nat) : Int) := by
  simp only [iquo]
  rw [Int.tdiv_eq_ediv_of_nonneg (by omega), wrap_i64 _ (by omega)]
  simp
theorem irem2 {a : Nat} : irem .i64 (a : Int) (2 : Int) = ((a % 2 : Nat) : Int) := by
  simp only [irem]
  rw [Int.tmod_eq_emod_of_nonneg (by omega)]
  simp

theorem catO_some {R : Type} {x y : ByteArray} {k : ByteArray → Option R} (h : x.size + y.size ≤ 9223372036854775807) : catO x y k = k (x ++ y) := by
  simp only [catO, h, decide_true, cond_true]

theorem bounds3 {a b n : Nat} (h1 : a ≤ b) (h2 : b ≤ n) : (decide ((0 : Int) ≤ (a : Int)) && (decide ((a : Int) ≤ (b : Int)) && decide ((b : Int) ≤ ((n : Nat) : Int)))) = true := by
  simp; omega

def strict (s key : ByteArray) : Option Got := match item s key with
  | some g => if g.m ≤ 16 ∧ g.z ≤ 40 then some g else none
  | none => none

def noItem : DItem := (⟨#[]⟩, 0, 0, ⟨#[]⟩, ())

theorem f_spec_l6ItemVal (x : ByteArray × ByteArray × Unit) (hs : x.1.size ≤ 1099511627776) (hk : x.2.1.size ≤ 1099511627776) :
    f_spec_l6Item x = some (match strict x.1 x.2.1 with | some g => ((g.x, ((g.n : Int), ())), ()) | none => ((noItem, ((0 : Int), ())), ())) := by
  obtain ⟨s, key, ⟨⟩⟩ := x
  dsimp only at hs hk ⊢
  have hdr : ∀ n, s.extract n s.size = dr s n := fun _ => rfl
  have q1 := takeVar_ok s
  have q2 := takeVar_ok (dr s (takeVar s).2)
  have q3 := takeVar_ok (dr s ((takeVar s).2 + (takeVar (dr s (takeVar s).2)).2))
  have q4 := takeVar_ok (dr s ((takeVar s).2 + (takeVar (dr s (takeVar s).2)).2 + (takeVar (dr s ((takeVar s).2 + (takeVar (dr s (takeVar s).2)).2))).2))
  rw [dr_size] at q2 q3 q4
  unfold f_spec_l6Item
  rw [val_f_spec_l2Take, bnd_some]
  dsimp only
  rw [bounds_ok q1.2, req_true, val_f_spec_l2Take, bnd_some]
  dsimp only
  rw [Int.toNat_natCast, hdr, iaddN (by omega), bounds_ok (by omega), req_true, val_f_spec_l2Take, bnd_some]
  dsimp only
  rw [Int.toNat_natCast, hdr, iaddN (by omega), bounds_ok (by omega), req_true, val_f_spec_l2Take, bnd_some]
  dsimp only
  rw [Int.toNat_natCast, hdr]
  simp only [strict, item]
  generalize hA : takeVar s = v1 at *
  generalize hB : takeVar (dr s v1.2) = v2 at *
  generalize hC : takeVar (dr s (v1.2 + v2.2)) = v3 at *
  generalize hD : takeVar (dr s (v1.2 + v2.2 + v3.2)) = v4 at *
  clear hA hB hC hD
  have z0 : ∀ n : Nat, ieq ((n : Nat) : Int) (0 : Int) = decide (n = 0) := fun n => by
    by_cases h : n = 0
    · subst h; rfl
    · simp only [h, decide_false]; exact ieq_false.2 (by omega)
  simp only [z0]
  by_cases h1 : v1.2 = 0
  · simp only [h1, true_or, if_true, decide_true, cond_true]; rfl
  by_cases h2 : v2.2 = 0
  · simp only [h1, h2, true_or, or_true, if_true, decide_true, decide_false, cond_true, cond_false]; rfl
  by_cases h3 : v3.2 = 0
  · simp only [h1, h2, h3, true_or, or_true, if_true, decide_true, decide_false, cond_true, cond_false]; rfl
  by_cases h4 : v4.2 = 0
  · simp only [h1, h2, h3, h4, true_or, or_true, if_true, decide_true, decide_false, cond_true, cond_false]; rfl
  simp only [h1, h2, h3, h4, false_or, decide_false, cond_false]
  by_cases h5 : key.size < v1.1
  · rw [ilt_iff.2 (show slen key < (v1.1 : Int) by simp only [slen]; omega), if_pos (Or.inr h5)]
    rfl
  rw [ilt_false.2 (show (v1.1 : Int) ≤ slen key by simp only [slen]; omega)]
  simp only [h5, or_false, cond_false]
  by_cases h6 : 16 < v2.1
  · rw [ilt_iff.2 (show (16 : Int) < (v2.1 : Int) by omega)]
    by_cases h : s.size < v1.2 + v2.2 + v3.2 + v4.2 + v2.1 + v4.1
    · rw [if_pos h]; rfl
    · rw [if_neg h]; dsimp only; rw [if_neg (by omega)]; rfl
  rw [ilt_false.2 (show (v2.1 : Int) ≤ (16 : Int) by omega)]
  simp only [cond_false]
  by_cases h7 : 40 < v4.1
  · rw [ilt_iff.2 (show (40 : Int) < (v4.1 : Int) by omega)]
    by_cases h : s.size < v1.2 + v2.2 + v3.2 + v4.2 + v2.1 + v4.1
    · rw [if_pos h]; rfl
    · rw [if_neg h]; dsimp only; rw [if_neg (by omega)]; rfl
  rw [ilt_false.2 (show (v4.1 : Int) ≤ (40 : Int) by omega)]
  simp only [cond_false]
  rw [iaddN (a := v1.2 + v2.2 + v3.2) (b := v4.2) (by omega), iaddN (a := v1.2 + v2.2 + v3.2 + v4.2) (b := v2.1) (by omega), iaddN (a := v1.2 + v2.2 + v3.2 + v4.2 + v2.1) (b := v4.1) (by omega)]
  by_cases h8 : s.size < v1.2 + v2.2 + v3.2 + v4.2 + v2.1 + v4.1
  · rw [ilt_iff.2 (show slen s < _ by simp only [slen]; omega), if_pos h8]
    rfl
  rw [ilt_false.2 (show ((v1.2 + v2.2 + v3.2 + v4.2 + v2.1 + v4.1 : Nat) : Int) ≤ slen s by simp only [slen]; omega), if_neg h8]
  simp only [cond_false]
  rw [bounds_ok (by omega), req_true, bounds3 (by omega) (by omega), req_true]
  simp only [Int.toNat_natCast]
  rw [catO_some (by simp only [ByteArray.size_extract]; omega), bounds3 (by omega) (by omega), req_true, iquo2 (by omega), irem2, if_pos (by omega)]

/-! ### the loops -/
/-- what is read, leniently or strictly -/
def readL (it : ByteArray → ByteArray → Option Got) : Nat → ByteArray → ByteArray → List DItem → Option (ByteArray × List DItem)
  | 0, s, _, l => some (s, l)
  | f + 1, s, key, l => if s.size = 0 ∨ 40 < l.length then some (s, l) else match it s key with
    | none => none
    | some g => readL it f (dr s g.n) g.x.1 (l ++ [g.x])

theorem item_n {s key : ByteArray} {g : Got} (h : item s key = some g) : 4 ≤ g.n ∧ g.n ≤ s.size ∧ g.x.1.size + (dr s g.n).size + 4 ≤ key.size + s.size ∧ g.m ≤ g.x.1.size ∧ g.z = g.x.2.2.2.1.size := by
  rw [dr_size]
  simp only [item] at h
  split at h
  · cases h
  · rename_i hn
    simp only [not_or] at hn
    injection h with h
    subst h
    simp only [ByteArray.size_append, ByteArray.size_extract]
    omega

theorem empty_of_size {s : ByteArray} (h : s.size = 0) : s = ⟨#[]⟩ := by
  apply ByteArray.ext
  apply Array.eq_empty_of_size_eq_zero
  exact h

theorem seq_empty (s : ByteArray) : seq s (⟨#[]⟩ : ByteArray) = decide (s.size = 0) := by
  by_cases h : s.size = 0
  · rw [empty_of_size h, seq_self]; rfl
  · simp only [h, decide_false]
    exact seq_false.2 (by rintro rfl; exact h rfl)

theorem f_impl_readItemsLoop {R : Type} (kk : (Unit × Unit) → (((Bool × Unit) × ((List DItem) × (List DItem) × Dtaker × Unit)) ⊕ (Unit × ((List DItem) × Dtaker × Unit))) → Option R) (r : R) (g : ByteArray → List DItem → Option R)
    (h1 : ∀ c l p, kk c (Sum.inl ((false, ()), (([] : List DItem), (l, (p, ()))))) = some r) (h2 : ∀ c l s, kk c (Sum.inr ((), (l, ((s, (false, ())), ())))) = g s l) :
    ∀ (f : Nat) (s key : ByteArray) (l : List DItem), 41 < f + l.length → s.size + key.size ≤ 1099511627776 → l.length ≤ 41 →
      loopF (c := f_impl_readItems_l2c) (v := f_impl_readItems_l2v) (ex := f_impl_readItems_l2e) f_impl_readItems_l2 R ((), ()) ((key, ()), (l, ((s, (false, ())), ()))) kk = match readL item f s key l with | none => some r | some (s', l') => g s' l'
  | 0, s, key, l, hf, hs, hl => by omega
  | f + 1, s, key, l, hf, hs, hl => by
    simp only [readL]
    by_cases hstop : s.size = 0 ∨ 40 < l.length
    · rw [if_pos hstop]
      dsimp only
      rw [loopF_done (c' := ((), ())) (o := Sum.inr ((), (l, ((s, (false, ())), ())))) (by
        simp only [round, f_impl_readItems_l2, Bool.not_false, cond_true, seq_empty]
        by_cases hz : s.size = 0
        · simp only [hz, decide_true, Bool.not_true, cond_false]
        · simp only [hz, decide_false, Bool.not_false, cond_true]
          rw [ile_false.2 (show (40 : Int) < llen l by simp only [llen]; omega)]
          rfl), h2]
    · rw [if_neg hstop]
      simp only [not_or] at hstop
      have hc1 : (!seq s (⟨#[]⟩ : ByteArray)) = true := by rw [seq_empty]; simp [hstop.1]
      have hc2 : ile (llen l) (40 : Int) = true := ile_iff.2 (by simp only [llen]; omega)
      have hstep : ∀ (S : Type) (K : (Unit × Unit) → (((ByteArray × Unit) × ((List DItem) × Dtaker × Unit)) ⊕ (((Bool × Unit) × ((List DItem) × (List DItem) × Dtaker × Unit)) ⊕ (Unit × ((List DItem) × Dtaker × Unit)))) → Option S),
          ∃ p, f_impl_readItems_l2 S ((), ()) ((key, ()), (l, ((s, (false, ())), ()))) K = match item s key with
            | none => K ((), ()) (.inr (.inl ((false, ()), (([] : List DItem), (l, (p, ()))))))
            | some g => K ((), ()) (.inl ((g.x.1, ()), (l ++ [g.x], ((dr s g.n, (false, ())), ())))) := by
        intro S K
        simp only [f_impl_readItems_l2, Bool.not_false, cond_true, hc1, hc2]
        rw [six_eq]
        have h6 := six_is s
        cases hsix : six s with
        | none =>
          rw [hsix] at h6
          simp only [item_six, hsix]
          rw [h6]
          exact ⟨_, rfl⟩
        | some q =>
          obtain ⟨⟨c, m, w⟩, ⟨a, b⟩, d⟩ := q
          rw [hsix] at h6
          obtain ⟨e1, e2, e3, e4, e5⟩ := h6
          simp only [item_six, hsix, e1, e2, e3, e4, e5, cond_false]
          have hwle : w ≤ 9223372036854775807 := by rw [← e2]; have := (takeVar_ok (p2 s).1).1; simp only [numK]; cases (p2 s).2.1 <;> simp <;> omega
          by_cases hc : key.size < c
          · rw [ilt_iff.2 (show slen key < (c : Int) by simp only [slen]; omega), if_pos hc]
            exact ⟨_, rfl⟩
          · rw [ilt_false.2 (show (c : Int) ≤ slen key by simp only [slen]; omega), if_neg hc]
            have hit : item s key = some ⟨(key.extract 0 c ++ a, (((w / 2 : Nat) : Int), (((w % 2 : Nat) : Int), (b, ())))), s.size - d.size, m, b.size⟩ := by rw [item_six, hsix]; exact if_neg hc
            have hnn := item_n hit
            simp only [ByteArray.size_append] at hnn
            have hd : dr s (s.size - d.size) = d := by
              have : ∃ n, d = dr s n := by
                unfold six at hsix
                dsimp only at hsix
                split at hsix
                · cases hsix
                · simp only [Option.some.injEq, Prod.mk.injEq] at hsix
                  exact ⟨_, hsix.2.2.symm⟩
              obtain ⟨n, rfl⟩ := this
              rw [dr_size]
              by_cases hn : n ≤ s.size
              · rw [show s.size - (s.size - n) = n by omega]
              · have : (dr s n).size = 0 := by rw [dr_size]; omega
                rw [empty_of_size this, show s.size - (s.size - n) = s.size by omega]
                exact empty_of_size (by rw [dr_size]; omega)
            simp only [cond_false, Int.toNat_natCast]
            rw [bounds_ok (by omega), req_true, catO_some (by omega), iquo2 hwle, irem2]
            have hap : ∀ z : DItem, decide (List.length l + List.length [z] ≤ 17179869184) = true := fun z => decide_eq_true (by simp; omega)
            rw [hap, req_true, hd]
            exact ⟨(⟨#[]⟩, (false, ())), rfl⟩
      cases hit : item s key with
      | none =>
        obtain ⟨p, hp⟩ := hstep _ fun c' z => match z with | .inl v' => some (Sum.inl (c', v')) | .inr y => some (Sum.inr (c', y))
        rw [hit] at hp
        rw [loopF_done (c' := ((), ())) (o := Sum.inl ((false, ()), (([] : List DItem), (l, (p, ()))))) (by simp only [round]; exact hp), h1]
      | some g' =>
        obtain ⟨p, hp⟩ := hstep _ fun c' z => match z with | .inl v' => some (Sum.inl (c', v')) | .inr y => some (Sum.inr (c', y))
        rw [hit] at hp
        have hnn := item_n hit
        rw [loopF_more (c' := ((), ())) (v' := ((g'.x.1, ()), (l ++ [g'.x], ((dr s g'.n, (false, ())), ())))) (by simp only [round]; exact hp)]
        exact f_impl_readItemsLoop kk r g h1 h2 f (dr s g'.n) g'.x.1 (l ++ [g'.x]) (by simp; omega) (by omega) (by simp; omega)

theorem f_impl_readItemsVal (x : ByteArray × Unit) (hs : x.1.size ≤ 1099511627776) :
    f_impl_readItems x = some (match readL item 42 x.1 ⟨#[]⟩ [] with | none => (([], (false, ())), ()) | some (s, l) => ((l, (decide (s.size = 0), ())), ())) := by
  simp only [f_impl_readItems]
  rw [f_impl_readItemsLoop _ (([], (false, ())), ()) (fun s l => some ((l, (decide (s.size = 0), ())), ())) (fun c l p => rfl) (fun c l s => ?_) 42 x.1 ⟨#[]⟩ [] (by simp) (by show x.1.size + 0 ≤ _; omega) (by simp)]
  · cases readL item 42 x.1 ⟨#[]⟩ [] <;> rfl
  · simp only [f_impl_taker_whole, bnd_some, Bool.not_false, cond_true, seq_empty]

theorem strict_item {s key : ByteArray} {g : Got} (h : strict s key = some g) : item s key = some g ∧ g.m ≤ 16 ∧ g.z ≤ 40 := by
  unfold strict at h
  split at h
  · rename_i g' hg
    split at h
    · rename_i hc
      injection h with h
      subst h
      exact ⟨hg, hc⟩
    · cases h
  · cases h

theorem f_spec_l6ReadLoop {R : Type} (s0 : ByteArray) (kk : ((ByteArray × Unit) × Unit) → (((Bool × Unit) × ((List DItem) × (List DItem) × Unit)) ⊕ (Unit × ((List DItem) × Unit))) → Option R) (r : R) (g : ByteArray → List DItem → Option R)
    (h1 : ∀ c l, kk c (Sum.inl ((false, ()), (([] : List DItem), (l, ())))) = some r) (h2 : ∀ l s, kk ((s0, ()), ()) (Sum.inr ((), (l, ()))) = g s l) :
    ∀ (f : Nat) (s key : ByteArray) (l : List DItem), 41 < f + l.length → s.size + key.size ≤ 1099511627776 → l.length ≤ 41 →
      loopF (c := f_spec_l6Read_l6c) (v := f_spec_l6Read_l6v) (ex := f_spec_l6Read_l6e) f_spec_l6Read_l6 R ((s0, ()), ()) ((s, (key, ())), (l, ())) kk = match readL strict f s key l with | none => some r | some (s', l') => g s' l'
  | 0, s, key, l, hf, hs, hl => by omega
  | f + 1, s, key, l, hf, hs, hl => by
    simp only [readL]
    by_cases hstop : s.size = 0 ∨ 40 < l.length
    · rw [if_pos hstop]
      dsimp only
      rw [loopF_done (c' := ((s0, ()), ())) (o := Sum.inr ((), (l, ()))) (by
        simp only [round, f_spec_l6Read_l6]
        by_cases hz : s.size = 0
        · rw [ilt_false.2 (show slen s ≤ (0 : Int) by simp only [slen]; omega)]; rfl
        · rw [ilt_iff.2 (show (0 : Int) < slen s by simp only [slen]; omega), ile_false.2 (show (40 : Int) < llen l by simp only [llen]; omega)]
          rfl), h2]
    · rw [if_neg hstop]
      simp only [not_or] at hstop
      have hc1 : ilt (0 : Int) (slen s) = true := ilt_iff.2 (by simp only [slen]; omega)
      have hc2 : ile (llen l) (40 : Int) = true := ile_iff.2 (by simp only [llen]; omega)
      cases hit : strict s key with
      | none =>
        rw [loopF_done (c' := ((s0, ()), ())) (o := Sum.inl ((false, ()), (([] : List DItem), (l, ())))) (by
          simp only [round, f_spec_l6Read_l6, hc1, hc2, cond_true]
          rw [f_spec_l6ItemVal _ (by dsimp only; omega) (by dsimp only; omega)]
          simp only [hit, bnd_some]
          rfl), h1]
      | some g' =>
        have hi := strict_item hit
        have hnn := item_n hi.1
        have hap : ∀ z : DItem, decide (List.length l + List.length [z] ≤ 17179869184) = true := fun z => decide_eq_true (by simp; omega)
        rw [loopF_more (c' := ((s0, ()), ())) (v' := ((dr s g'.n, (g'.x.1, ())), (l ++ [g'.x], ()))) (by
          simp only [round, f_spec_l6Read_l6, hc1, hc2, cond_true]
          rw [f_spec_l6ItemVal _ (by dsimp only; omega) (by dsimp only; omega)]
          simp only [hit, bnd_some]
          rw [ieq_false.2 (show (g'.n : Int) ≠ 0 by omega), hap, bounds_ok (by omega)]
          rfl)]
        exact f_spec_l6ReadLoop s0 kk r g h1 h2 f (dr s g'.n) g'.x.1 (l ++ [g'.x]) (by simp; omega) (by omega) (by simp; omega)

/-! ### strict and lenient reading agree on good items -/
theorem readL_pre {it : ByteArray → ByteArray → Option Got} : ∀ {f : Nat} {s key : ByteArray} {l : List DItem} {s' : ByteArray} {l' : List DItem}, readL it f s key l = some (s', l') → ∃ l2, l' = l ++ l2
  | 0, s, key, l, s', l', h => by
    simp only [readL, Option.some.injEq, Prod.mk.injEq] at h
    exact ⟨[], by rw [← h.2]; simp⟩
  | f + 1, s, key, l, s', l', h => by
    simp only [readL] at h
    split at h
    · simp only [Option.some.injEq, Prod.mk.injEq] at h
      exact ⟨[], by rw [← h.2]; simp⟩
    · split at h
      · cases h
      · obtain ⟨l2, e⟩ := readL_pre h
        exact ⟨_ :: l2, by rw [e, List.append_assoc]; rfl⟩

theorem read_strict : ∀ {f : Nat} {s key : ByteArray} {l : List DItem} {s' : ByteArray} {l' : List DItem}, readL strict f s key l = some (s', l') → readL item f s key l = some (s', l')
  | 0, s, key, l, s', l', h => h
  | f + 1, s, key, l, s', l', h => by
    simp only [readL] at h ⊢
    split at h
    · rename_i hc; rw [if_pos hc]; exact h
    · rename_i hc
      rw [if_neg hc]
      cases hi : strict s key with
      | none => rw [hi] at h; cases h
      | some g =>
        rw [hi] at h
        rw [(strict_item hi).1]
        exact read_strict h

theorem good_sizes {x : DItem} (h : goodItem x = true) : 1 ≤ x.1.size ∧ x.1.size ≤ 16 ∧ x.2.2.2.1.size ≤ 40 ∧ 0 ≤ x.2.1 ∧ x.2.1 ≤ 1000000000 ∧ 0 ≤ x.2.2.1 ∧ x.2.2.1 ≤ 1 := by
  have hin : ∀ {n lo hi : Int}, inR n lo hi = true → lo ≤ n ∧ n ≤ hi := fun {n lo hi} h => by
    simp only [inR] at h
    cases h1 : ile lo n with
    | false => rw [h1] at h; cases h
    | true => rw [h1] at h; exact ⟨ile_iff.1 h1, ile_iff.1 h⟩
  simp only [goodItem, Bool.and_eq_true] at h
  obtain ⟨h1, h2, h3, h4, _⟩ := h
  have h1 := hin h1
  have h2 := hin h2
  have h3 := hin h3
  have h4 := ile_iff.1 h4
  simp only [slen] at h1 h4
  omega

theorem read_item : ∀ {f : Nat} {s key : ByteArray} {l : List DItem} {s' : ByteArray} {l' : List DItem}, readL item f s key l = some (s', l') → (∀ x ∈ l', goodItem x = true) → readL strict f s key l = some (s', l')
  | 0, s, key, l, s', l', h, hg => h
  | f + 1, s, key, l, s', l', h, hg => by
    simp only [readL] at h ⊢
    split at h
    · rename_i hc; rw [if_pos hc]; exact h
    · rename_i hc
      rw [if_neg hc]
      cases hi : item s key with
      | none => rw [hi] at h; cases h
      | some g =>
        rw [hi] at h
        dsimp only at h
        obtain ⟨l2, e⟩ := readL_pre h
        have hx : goodItem g.x = true := hg g.x (by rw [e]; simp)
        have hz := good_sizes hx
        have hn := item_n hi
        have : strict s key = some g := by simp only [strict, hi]; exact if_pos ⟨by omega, by omega⟩
        rw [this]
        exact read_item h hg

end Go.Proofs.YtncalmofbcmkaaaGreat
