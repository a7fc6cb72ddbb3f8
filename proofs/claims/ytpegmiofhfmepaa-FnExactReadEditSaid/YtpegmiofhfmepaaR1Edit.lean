/- Edits read: both sides answer the same. FnExactReadEdit over typed functions. -/
import Derived.Test.YtpegmiofhfmepaaR1Back
import Derived.Test.YtpegmiofhfmepaaEv3
set_option linter.all false
noncomputable section
namespace Go.Proofs.Ytpegmiofhfmepaa
open Go Go.Proofs.Ytpegmiofhfmepaa.Ev

/-! ### a number that is read is written so -/
theorem dr_step {s : ByteArray} {k : Nat} {b : UInt8} (h : s[k]? = some b) : dr s k = strOf [(b.toNat : Int)] ++ dr s (k + 1) := by
  have hk := getElem?_size h
  have e : strOf [(b.toNat : Int)] = s.extract k (k + 1) := by
    apply ByteArray.ext_getElem
    · rw [strOf_size, ByteArray.size_extract]; simp; omega
    · intro i h1 h2
      rw [strOf_size] at h1
      have : i = 0 := by simp at h1; omega
      subst this
      rw [ByteArray.getElem_extract]
      rw [getElem?_pos s k hk] at h
      injection h with h
      have e1 : (strOf [(b.toNat : Int)])[0]'(by rw [strOf_size]; simp) = (strOf [(b.toNat : Int)]).data[0]'(by rw [strOf_size] at *; exact h1) := rfl
      rw [e1]
      simp [strOf]
      exact h.symm
  rw [e, dr, dr, ByteArray.extract_append_extract]
  congr 1 <;> omega

theorem vb_small {f m : Nat} (h : m < 128) : vb f m = [((m % 256 : Nat) : Int)] := by
  cases f with
  | zero => rfl
  | succ f => simp only [vb, if_pos h]

theorem takeGo_canon (s : ByteArray) : ∀ (f k acc : Nat), acc < 2 ^ (7 * k) → (takeGo s f k acc).2 ≠ 0 →
    ∃ m f', f = f' + 1 ∧ (takeGo s f k acc).1 = acc + m * 2 ^ (7 * k) ∧ (0 < k → 0 < m) ∧ dr s k = strOf (vb f' m) ++ dr s (takeGo s f k acc).2
  | 0, k, acc, ha, h => absurd rfl h
  | f + 1, k, acc, ha, h => by
    simp only [takeGo] at h ⊢
    cases hb : s[k]? with
    | none => rw [hb] at h; exact absurd rfl h
    | some b =>
      rw [hb] at h
      dsimp only at h ⊢
      have hb2 := byte_lt b
      by_cases hlt : b.toNat < 128
      · rw [if_pos hlt] at h ⊢
        by_cases hz : 0 < k ∧ b.toNat = 0
        · rw [if_pos hz] at h; exact absurd rfl h
        · rw [if_neg hz]
          refine ⟨b.toNat, f, rfl, ?_, fun hk => by omega, ?_⟩
          · rw [Nat.mod_eq_of_lt hlt, or_add _ _ _ ha]
          · rw [vb_small hlt, Nat.mod_eq_of_lt hb2]
            exact dr_step hb
      · rw [if_neg hlt] at h ⊢
        have hp : 2 ^ (7 * (k + 1)) = 2 ^ (7 * k) * 128 := by rw [show 7 * (k + 1) = 7 * k + 7 by omega, Nat.pow_add]
        have hacc : acc ||| b.toNat % 128 * 2 ^ (7 * k) < 2 ^ (7 * (k + 1)) := by
          rw [or_add _ _ _ ha, hp]
          have : b.toNat % 128 * 2 ^ (7 * k) ≤ 127 * 2 ^ (7 * k) := Nat.mul_le_mul_right _ (by omega)
          omega
        obtain ⟨m, f', hf, h1, h2, h3⟩ := takeGo_canon s f (k + 1) _ hacc h
        have hm := h2 (by omega)
        subst hf
        refine ⟨m * 128 + b.toNat % 128, f' + 1, rfl, ?_, fun _ => by omega, ?_⟩
        · rw [h1, or_add _ _ _ ha, hp, Nat.add_mul]
          have : m * (2 ^ (7 * k) * 128) = m * 128 * 2 ^ (7 * k) := by rw [Nat.mul_comm (2 ^ (7 * k)) 128, Nat.mul_assoc]
          omega
        · have e : vb (f' + 1) (m * 128 + b.toNat % 128) = (b.toNat : Int) :: vb f' m := by
            simp only [vb]
            rw [if_neg (by omega), show (m * 128 + b.toNat % 128) % 128 + 128 = b.toNat by omega, show (m * 128 + b.toNat % 128) / 128 = m by omega]
          rw [e, strOf_cons, dr_step hb, h3, ByteArray.append_assoc]

theorem takeVar_canon {s : ByteArray} (h : (takeVar s).2 ≠ 0) : s = varB (takeVar s).1 ++ dr s (takeVar s).2 := by
  obtain ⟨m, f', hf, h1, _, h3⟩ := takeGo_canon s 9 0 0 (by decide) h
  have : f' = 8 := by omega
  subst this
  rw [dr_zero] at h3
  have hm : (takeVar s).1 = m := by rw [takeVar, h1]; simp
  rw [hm]
  exact h3

/-! ### readings that may fail -/
def numO (s : ByteArray) : Option (Nat × ByteArray) := if (takeVar s).2 = 0 then none else some ((takeVar s).1, dr s (takeVar s).2)
def txtO (s : ByteArray) : Option (ByteArray × ByteArray) := match numO s with
  | none => none
  | some (n, s') => if s'.size < n then none else some (s'.extract 0 n, dr s' n)

theorem numO_some {s s' : ByteArray} {n : Nat} (h : numO s = some (n, s')) : n < 9223372036854775808 ∧ s = varB n ++ s' ∧ s'.size < s.size := by
  unfold numO at h
  split at h
  · cases h
  · rename_i hz
    injection h with h
    injection h with h1 h2
    subst h1; subst h2
    refine ⟨(takeVar_ok s).1, takeVar_canon hz, ?_⟩
    have := (takeVar_ok s).2
    rw [dr_size]
    omega
theorem txtO_some {s s' t : ByteArray} (h : txtO s = some (t, s')) : s = varB t.size ++ (t ++ s') ∧ s'.size < s.size ∧ t.size ≤ s.size := by
  unfold txtO at h
  split at h
  · cases h
  · rename_i n s2 hn
    obtain ⟨h1, h2, h3⟩ := numO_some hn
    split at h
    · cases h
    · rename_i hz
      injection h with h
      injection h with e1 e2
      subst e1; subst e2
      have hs : (s2.extract 0 n).size = n := by rw [ByteArray.size_extract]; omega
      have e : s2.extract 0 n ++ dr s2 n = s2 := by
        rw [dr, ByteArray.extract_append_extract]
        simp
      refine ⟨?_, ?_, by rw [hs]; omega⟩
      · rw [hs, e]; exact h2
      · rw [dr_size]; omega

def bindO {α β : Type} (p : Option (α × ByteArray)) (f : α → ByteArray → Option β) : Option β := match p with
  | none => none
  | some q => f q.1 q.2

def metaO (s : ByteArray) : Option (D62 × ByteArray) :=
  bindO (numO s) fun a s => bindO (numO s) fun b s => bindO (txtO s) fun c s => bindO (txtO s) fun d s => some (((a : Int), ((b : Int), (c, (d, ())))), s)

def manyO {α : Type} (p : ByteArray → Option (α × ByteArray)) : Nat → ByteArray → Option (List α × ByteArray)
  | 0, s => some ([], s)
  | f + 1, s => bindO (p s) fun x s => bindO (manyO p f s) fun l s => some (x :: l, s)

def numI (s : ByteArray) : Option (Int × ByteArray) := bindO (numO s) fun n s => some ((n : Int), s)

def editO (s : ByteArray) : Option D31 :=
  bindO (numO s) fun a s => bindO (numO s) fun b s => bindO (numO s) fun n s => bindO (manyO numI (min n 31) s) fun l s =>
    bindO (numO s) fun m s => bindO (manyO metaO (min m 31) s) fun k s => if s.size = 0 then some ((a : Int), ((b : Int), (l, (k, ())))) else none

/-- where a taker stands -/
def Tk (p : D55) : Option ByteArray → Prop
  | none => p.2.1 = true
  | some s => p = (s, (false, ()))

/-- what taking a number does -/
def NumOk (f : D55 × Unit → Option ((Int × Unit) × (D55 × Unit))) : Prop :=
  ∀ (p : D55) (o : Option ByteArray), Tk p o → Does (f (p, ())) fun r => 0 ≤ r.1.1 ∧ match o.bind numO with
    | none => Tk r.2.1 none
    | some q => r.1.1 = (q.1 : Int) ∧ Tk r.2.1 (some q.2)
def TxtOk (f : D55 × Unit → Option ((ByteArray × Unit) × (D55 × Unit))) : Prop :=
  ∀ (p : D55) (o : Option ByteArray), Tk p o → Does (f (p, ())) fun r => match o.bind txtO with
    | none => Tk r.2.1 none
    | some q => r.1.1 = q.1 ∧ Tk r.2.1 (some q.2)

theorem t34Tk : NumOk t34 := by
  intro p o hp
  cases o with
  | none =>
    obtain ⟨s, bad, ⟨⟩⟩ := p
    have hp : bad = true := hp
    subst hp
    exact Does.eq (numB s) ⟨Int.le_refl 0, rfl⟩
  | some s =>
    have hp : p = (s, (false, ())) := hp
    subst hp
    refine Does.eq (numT s) ?_
    simp only [Option.bind_some, numO]
    by_cases hz : (takeVar s).2 = 0
    · rw [if_pos hz, if_pos hz]; exact ⟨Int.le_refl 0, rfl⟩
    · rw [if_neg hz, if_neg hz]; exact ⟨by dsimp only; omega, rfl, rfl⟩

theorem t54Tk : NumOk t54 := by
  intro p o hp
  obtain ⟨s, bad, ⟨⟩⟩ := p
  unfold t54
  rw [valT84, bnd_some]
  dsimp only
  have hk := (takeVar_ok s).2
  cases o with
  | none =>
    have hp : bad = true := hp
    subst hp
    refine Does.cond (fun _ => Does.req (by simp; omega) (Does.val ⟨by dsimp only; omega, rfl⟩)) (fun h => by cases h)
  | some s2 =>
    have hp : (s, (bad, ())) = (s2, (false, ())) := hp
    injection hp with h1 h2
    injection h2 with h2 _
    subst h1; subst h2
    refine Does.cond (fun h => by cases h) (fun _ => Does.req (by simp; omega) (Does.val ?_))
    simp only [Option.bind_some, numO]
    by_cases hz : (takeVar s).2 = 0
    · rw [if_pos hz]
      refine ⟨by omega, ?_⟩
      simp only [Tk, hz]
      rfl
    · rw [if_neg hz]
      refine ⟨by omega, rfl, ?_⟩
      simp only [Tk, ieq_false.2 (show ((takeVar s).2 : Int) ≠ 0 by omega), Int.toNat_natCast]
      rfl

theorem t36Tk : TxtOk t36 := by
  intro p o hp
  unfold t36
  refine Does.bnd (t34Tk p o hp) fun r hr => ?_
  obtain ⟨h0, hr⟩ := hr
  obtain ⟨n, hn⟩ : ∃ n : Nat, r.1.1 = (n : Int) := ⟨r.1.1.toNat, by omega⟩
  refine Does.bnd (Does.eq (textE (r.2.1, (r.1.1, ())) n hn) (Q := fun z => z = ((textX r.2.1 n, ()), (textS r.2.1 n, ()))) rfl) fun z hz => ?_
  subst hz
  refine Does.val ?_
  cases o with
  | none =>
    simp only [Option.bind_none] at hr ⊢
    have hb : r.2.1.2.1 = true := hr
    simp only [Tk, textS, hb, cond_true]
  | some s =>
    simp only [Option.bind_some] at hr ⊢
    unfold txtO
    cases hs : numO s with
    | none =>
      rw [hs] at hr
      have hb : r.2.1.2.1 = true := hr
      simp only [Tk, textS, hb, cond_true]
    | some q =>
      rw [hs] at hr
      obtain ⟨e1, e2⟩ := hr
      have e3 : n = q.1 := by rw [hn] at e1; omega
      have e2 : r.2.1 = (q.2, (false, ())) := e2
      subst e3
      obtain ⟨a, s'⟩ := q
      dsimp only at e2 ⊢
      rw [e2]
      by_cases hz : s'.size < a
      · rw [if_pos hz]
        simp only [Tk, textS, cond_false, if_pos hz]
      · rw [if_neg hz]
        simp only [Tk, textS, textX, cond_false, if_neg hz, and_self]

theorem t55Tk : TxtOk t55 := by
  intro p o hp
  unfold t55
  refine Does.bnd (t54Tk p o hp) fun r hr => ?_
  obtain ⟨h0, hr⟩ := hr
  cases o with
  | none =>
    simp only [Option.bind_none] at hr ⊢
    have hb : r.2.1.2.1 = true := hr
    refine Does.cond (fun _ => Does.val rfl) (fun hlt => ?_)
    have hlt := ilt_false.1 hlt
    simp only [slen] at hlt
    exact Does.req (by simp; omega) (Does.req (by simp; omega) (Does.val hb))
  | some s =>
    simp only [Option.bind_some] at hr ⊢
    unfold txtO
    cases hs : numO s with
    | none =>
      rw [hs] at hr
      have hb : r.2.1.2.1 = true := hr
      refine Does.cond (fun _ => Does.val rfl) (fun hlt => ?_)
      have hlt := ilt_false.1 hlt
      simp only [slen] at hlt
      exact Does.req (by simp; omega) (Does.req (by simp; omega) (Does.val hb))
    | some q =>
      rw [hs] at hr
      obtain ⟨e1, e2⟩ := hr
      have e2 : r.2.1 = (q.2, (false, ())) := e2
      obtain ⟨a, s'⟩ := q
      dsimp only at e1 e2 ⊢
      rw [e1, e2]
      refine Does.cond (fun hlt => ?_) (fun hlt => ?_)
      · have hlt := ilt_iff.1 hlt
        simp only [slen] at hlt
        rw [if_pos (by omega)]
        exact Does.val rfl
      · have hlt := ilt_false.1 hlt
        simp only [slen] at hlt
        rw [if_neg (by omega)]
        exact Does.req (by simp; omega) (Does.req (by simp; omega) (Does.val ⟨rfl, rfl⟩))

theorem t37Val (p : D55) : t37 (p, ()) = some ((!p.2.1 && seq p.1 ⟨#[]⟩, ()), (p, ())) := by
  obtain ⟨s, bad, ⟨⟩⟩ := p
  cases bad <;> rfl

end Go.Proofs.Ytpegmiofhfmepaa
