/- FnExactReadCommand, over typed functions. -/
import Derived.Test.YtpegmiofhfmepaaR1Var
set_option linter.all false
namespace Go.Proofs.Ytpegmiofhfmepaa
open Go Go.Proofs.Ytpegmiofhfmepaa.Ev

theorem tf {p : Prop} (h : true = false) : p := by cases h
theorem ft {p : Prop} (h : false = true) : p := by cases h
def inR (n lo hi : Int) : Bool := cond (ile lo n) (ile n hi) false

theorem valT58 (x : Int × Int × Int × Unit) : t58 x = some ((inR x.1 x.2.1 x.2.2.1, ()), ()) := by
  simp only [t58, inR]
  cases ile x.2.1 x.1 <;> rfl
theorem valT85 (x : Int × Int × Int × Unit) : t85 x = some ((inR x.1 x.2.1 x.2.2.1, ()), ()) := by
  simp only [t85, inR]
  cases ile x.2.1 x.1 <;> rfl

theorem not_ile (a b : Int) : (!ile a b) = ilt b a := by
  cases h : ile a b with
  | true => have := ile_iff.1 h; exact (ilt_false.2 this).symm
  | false => have := ile_false.1 h; exact (ilt_iff.2 this).symm

theorem goodCommand_same (c : D23) : ∃ b, t38 (c, ()) = some ((b, ()), ()) ∧ t56 (c, ()) = some ((b, ()), ()) := by
  simp only [t38, t56, t59, t60, t86, valT58, valT85, bnd, not_ile]
  generalize inR c.1 0 99 = b1
  generalize inR c.2.1 1 1000000 = b2
  generalize inR c.2.2.1 1 4 = b3
  generalize inR (slen c.2.2.2.1) 1 16 = b4
  generalize ilt 40 (slen c.2.2.2.2.1) = b5
  generalize ilt 40 (slen c.2.2.2.2.2.1) = b6
  generalize seq c.2.2.2.2.1 (⟨#[]⟩ : ByteArray) = b7
  generalize seq c.2.2.2.2.2.1 (⟨#[]⟩ : ByteArray) = b8
  generalize ieq c.2.2.1 4 = b9
  generalize ieq c.2.2.1 2 = b10
  cases b1
  · exact ⟨_, rfl, rfl⟩
  cases b2
  · exact ⟨_, rfl, rfl⟩
  cases b3
  · exact ⟨_, rfl, rfl⟩
  cases b4
  · exact ⟨_, rfl, rfl⟩
  cases b5
  case true => exact ⟨_, rfl, rfl⟩
  cases b6
  case true => exact ⟨_, rfl, rfl⟩
  cases b7 <;> cases b8 <;> cases b9 <;> cases b10 <;> exact ⟨_, rfl, rfl⟩

/-- two takers that are alike: bad both, or neither and the same is left -/
def TkR (p q : D55) : Prop := p.2.1 = q.2.1 ∧ (p.2.1 = false → p.1 = q.1)

theorem bounds_ok {u n : Nat} (h : u ≤ n) : (decide ((0 : Int) ≤ (u : Int)) && decide ((u : Int) ≤ ((n : Nat) : Int))) = true := by
  simp; omega

theorem num_rel {p q : D55} (h : TkR p q) : ∃ (n1 n2 : Nat) (p' q' : D55), t34 (p, ()) = some (((n1 : Int), ()), (p', ())) ∧ t54 (q, ()) = some (((n2 : Int), ()), (q', ())) ∧ TkR p' q' ∧ (p'.2.1 = false → n1 = n2) ∧
    (p.2.1 = true → p'.2.1 = true) := by
  obtain ⟨s, b, ⟨⟩⟩ := p
  obtain ⟨s2, b2, ⟨⟩⟩ := q
  obtain ⟨h1, h2⟩ := h
  simp only at h1 h2
  subst h1
  obtain ⟨_, k2⟩ := takeVar_ok s2
  simp only [t34, t54, valT57, valT84, bnd_some]
  rw [bounds_ok k2]
  cases b with
  | true => exact ⟨0, _, _, _, rfl, rfl, ⟨rfl, tf⟩, tf, fun _ => rfl⟩
  | false =>
    have := h2 rfl
    subst this
    rw [bounds_ok k2]
    simp only [cond_false, req_true]
    by_cases hu : (takeVar s).2 = 0
    · simp only [hu, show ieq ((0 : Nat) : Int) (0 : Int) = true from rfl, cond_true]
      exact ⟨0, _, _, _, rfl, rfl, ⟨rfl, tf⟩, tf, ft⟩
    · rw [ieq_false.2 (show ((takeVar s).2 : Int) ≠ 0 by omega)]
      simp only [cond_false]
      exact ⟨_, _, _, _, rfl, rfl, ⟨rfl, fun _ => rfl⟩, fun _ => rfl, ft⟩

theorem text_impl (x : D55 × Int × Unit) (p : D55) (n : Nat) (hp : x.1 = p) (hn : x.2.1 = (n : Int)) : t35 x = some (if p.2.1 = true ∨ p.1.size < n then (((⟨#[]⟩ : ByteArray), ()), ((p.1, (true, p.2.2)), ())) else ((p.1.extract 0 n, ()), ((p.1.extract n p.1.size, (false, p.2.2)), ()))) := by
  obtain ⟨s, b, ⟨⟩⟩ := p
  simp only [t35, hp, hn]
  cases b with
  | true => rfl
  | false =>
    simp only [cond_false]
    by_cases hn : s.size < n
    · rw [ilt_iff.2 (show slen s < (n : Int) by simp only [slen]; omega)]
      simp [hn]
    · rw [ilt_false.2 (show (n : Int) ≤ slen s by simp only [slen]; omega), bounds_ok (by omega)]
      simp [hn, req]

theorem sized_rel {p q : D55} (h : TkR p q) : ∃ (x y : ByteArray) (p' q' : D55), t36 (p, ()) = some ((x, ()), (p', ())) ∧ t55 (q, ()) = some ((y, ()), (q', ())) ∧ TkR p' q' ∧ (p'.2.1 = false → x = y) ∧ (p.2.1 = true → p'.2.1 = true) := by
  obtain ⟨n1, n2, p1, q1, e1, e2, e3, e4, e5⟩ := num_rel h
  simp only [t36, t55, e1, e2, bnd_some]
  rw [text_impl (p1, ((n1 : Int), ())) p1 n1 rfl rfl]
  obtain ⟨s, b, ⟨⟩⟩ := p1
  obtain ⟨s2, b2, ⟨⟩⟩ := q1
  obtain ⟨h1, h2⟩ := e3
  simp only at h1 h2 e4 e5
  subst h1
  cases b with
  | true =>
    simp only [true_or, if_true]
    by_cases hn : s2.size < n2
    · rw [ilt_iff.2 (show slen s2 < (n2 : Int) by simp only [slen]; omega)]
      exact ⟨_, _, _, _, rfl, rfl, ⟨rfl, tf⟩, tf, fun _ => rfl⟩
    · rw [ilt_false.2 (show (n2 : Int) ≤ slen s2 by simp only [slen]; omega), bounds_ok (by omega)]
      exact ⟨_, _, _, _, rfl, rfl, ⟨rfl, tf⟩, tf, fun _ => rfl⟩
  | false =>
    have := e4 rfl
    subst this
    have := h2 rfl
    subst this
    dsimp only
    by_cases hn : s.size < n1
    · rw [ilt_iff.2 (show slen s < (n1 : Int) by simp only [slen]; omega)]
      simp only [hn, or_true, if_true]
      exact ⟨_, _, _, _, rfl, rfl, ⟨rfl, tf⟩, tf, fun _ => rfl⟩
    · rw [ilt_false.2 (show (n1 : Int) ≤ slen s by simp only [slen]; omega), bounds_ok (by omega)]
      simp only [hn, or_false, Bool.false_eq_true, if_false]
      exact ⟨_, _, _, _, rfl, rfl, ⟨rfl, fun _ => rfl⟩, fun _ => rfl, e5⟩

theorem eqCommand_self (c : D23) : t11 (c, (c, ())) = some ((true, ()), ()) := by
  simp only [t11, seq_self, show ∀ n : Int, ieq n n = true from fun n => ieq_iff.2 rfl]
  rfl

theorem TkR.refl (p : D55) : TkR p p := ⟨rfl, fun _ => rfl⟩

def noCommand : D23 := (0, 0, 0, ⟨#[]⟩, ⟨#[]⟩, ⟨#[]⟩, ())

/-- what is left of ReadCommand behind the operation -/
theorem rest_bad (p : D55) (hp : p.2.1 = true) : ∃ (x y z : ByteArray) (p1 p2 p3 : D55), t36 (p, ()) = some ((x, ()), (p1, ())) ∧ t36 (p1, ()) = some ((y, ()), (p2, ())) ∧ t36 (p2, ()) = some ((z, ()), (p3, ())) ∧ t37 (p3, ()) = some ((false, ()), (p3, ())) := by
  obtain ⟨x, _, p1, _, e1, _, _, _, f1⟩ := sized_rel (TkR.refl p)
  obtain ⟨y, _, p2, _, e2, _, _, _, f2⟩ := sized_rel (TkR.refl p1)
  obtain ⟨z, _, p3, _, e3, _, _, _, f3⟩ := sized_rel (TkR.refl p2)
  refine ⟨x, y, z, p1, p2, p3, e1, e2, e3, ?_⟩
  simp only [t37, f3 (f2 (f1 hp))]
  rfl

theorem readCommand_same (s : ByteArray) : ∃ (c : D23) (b : Bool), t10 (s, ()) = some ((c, (b, ())), ()) ∧ t33 (s, ()) = some ((c, (b, ())), ()) := by
  obtain ⟨n1, m1, p1, q1, e1, e2, e3, e4, e5⟩ := num_rel (TkR.refl ((s, (false, ())) : D55))
  obtain ⟨n2, m2, p2, q2, f1, f2, f3, f4, f5⟩ := num_rel e3
  simp only [t10, t33, e1, e2, f1, f2, bnd_some]
  rw [text_impl (p2, ((1 : Int), ())) p2 1 rfl rfl]
  obtain ⟨s2, b, ⟨⟩⟩ := p2
  obtain ⟨s3, b3, ⟨⟩⟩ := q2
  obtain ⟨h1, h2⟩ := f3
  simp only at h1 h2 f4 f5
  subst h1
  have hemp : (!seq (⟨#[]⟩ : ByteArray) (⟨#[]⟩ : ByteArray)) = false := by rw [seq_self]; rfl
  cases b with
  | true =>
    simp only [true_or, if_true, bnd_some, t10i6, hemp, cond_false, cond_true]
    obtain ⟨x, y, z, p3, p4, p5, g1, g2, g3, g4⟩ := rest_bad ((s2, (true, ())) : D55) rfl
    rw [g1]; simp only [bnd_some]
    rw [g2]; simp only [bnd_some]
    rw [g3]; simp only [bnd_some]
    rw [g4]; simp only [bnd_some]
    exact ⟨noCommand, false, rfl, rfl⟩
  | false =>
    have := h2 rfl
    subst this
    have hn1 := f4 rfl
    have hp1 : p1.2.1 = false := by
      cases h : p1.2.1 with
      | false => rfl
      | true => exact (f5 h).symm
    have hn0 := e4 hp1
    subst hn1; subst hn0
    simp only [Bool.false_eq_true, false_or, cond_false]
    by_cases hz : s2.size < 1
    · have hs0 : s2 = ⟨#[]⟩ := by
        apply ByteArray.ext
        apply Array.eq_empty_of_size_eq_zero
        have : s2.data.size = s2.size := rfl
        omega
      subst hs0
      simp only [seq_self, cond_true]
      rw [if_pos hz]
      simp only [bnd_some, t10i6, hemp, cond_false]
      obtain ⟨x, y, z, p3, p4, p5, g1, g2, g3, g4⟩ := rest_bad (((⟨#[]⟩ : ByteArray), (true, ())) : D55) rfl
      rw [g1]; simp only [bnd_some]
      rw [g2]; simp only [bnd_some]
      rw [g3]; simp only [bnd_some]
      rw [g4]; simp only [bnd_some]
      exact ⟨noCommand, false, rfl, rfl⟩
    · rw [if_neg hz]
      have hne : seq s2 (⟨#[]⟩ : ByteArray) = false := seq_false.2 (by rintro rfl; exact hz (by decide))
      have hne2 : seq (s2.extract 0 1) (⟨#[]⟩ : ByteArray) = false := seq_false.2 (by
        intro h
        have h1 := congrArg ByteArray.size h
        rw [ByteArray.size_extract, show ByteArray.size (⟨#[]⟩ : ByteArray) = 0 from rfl] at h1
        omega)
      have hlt : 0 < s2.size := by omega
      obtain ⟨b0, hb0⟩ : ∃ b, s2[0]? = some b := ⟨s2[0], getElem?_pos s2 0 hlt⟩
      have hx0 : (s2.extract 0 1)[0]? = some b0 := by
        have h1 : 0 < (s2.extract 0 1).size := by rw [ByteArray.size_extract]; omega
        rw [getElem?_pos (s2.extract 0 1) 0 h1, ByteArray.getElem_extract, ← hb0, getElem?_pos s2 0 hlt]
      simp only [bnd_some, t10i6, hne2, hne, Bool.not_false, cond_true, cond_false]
      rw [getB_at (b := b0) (by decide) (by simpa using hx0), getB_at (b := b0) (by decide) (by simpa using hb0)]
      have hone : (decide ((0 : Int) ≤ (1 : Int)) && decide ((1 : Int) ≤ ((ByteArray.size s2 : Nat) : Int))) = true := by simp; omega
      rw [hone]
      simp only [req_true]
      obtain ⟨x1, y1, p3, q3, g1, g2, g3, g4, g5⟩ := sized_rel (TkR.refl ((s2.extract 1 s2.size, (false, ())) : D55))
      obtain ⟨x2, y2, p4, q4, i1, i2, i3, i4, i5⟩ := sized_rel g3
      obtain ⟨x3, y3, p5, q5, j1, j2, j3, j4, j5⟩ := sized_rel i3
      rw [show Int.toNat (1 : Int) = 1 from rfl]
      rw [g1, g2]; simp only [bnd_some]
      rw [i1, i2]; simp only [bnd_some]
      rw [j1, j2]; simp only [bnd_some]
      obtain ⟨k1, k2⟩ := j3
      simp only [t37]
      rw [← k1]
      cases hb5 : p5.2.1 with
      | true =>
        simp only [Bool.not_true, cond_false, cond_true, bnd_some, Bool.not_false]
        exact ⟨noCommand, false, rfl, rfl⟩
      | false =>
        have hs5 := k2 hb5
        have hb4 : p4.2.1 = false := by
          cases h : p4.2.1 with
          | false => rfl
          | true => rw [j5 h] at hb5; cases hb5
        have hb3 : p3.2.1 = false := by
          cases h : p3.2.1 with
          | false => rfl
          | true => rw [i5 h] at hb4; cases hb4
        have e1 := g4 hb3
        have e2 := i4 hb4
        have e3 := j4 hb5
        subst e1; subst e2; subst e3
        rw [← hs5]
        simp only [Bool.not_false, cond_true, cond_false, bnd_some]
        cases hw : seq p5.1 (⟨#[]⟩ : ByteArray) with
        | false =>
          simp only [Bool.not_false, cond_true]
          exact ⟨noCommand, false, rfl, rfl⟩
        | true =>
          simp only [Bool.not_true, cond_false]
          obtain ⟨g, c1, c2⟩ := goodCommand_same ((n1 : Int), ((n2 : Int), (IntKind.wrap .i64 (b0.toNat : Int), (x1, (x2, (x3, ()))))))
          rw [c1, c2]
          cases g with
          | false => exact ⟨noCommand, false, rfl, rfl⟩
          | true => exact ⟨_, _, rfl, rfl⟩

/-- the law, over typed functions -/
theorem trueT3 (s : ByteArray) : t3 (s, ()) = some ((true, ()), ()) := by
  simp only [t3, t9]
  cases ilt 1048576 (slen s) with
  | true => rfl
  | false =>
    obtain ⟨c, b, h1, h2⟩ := readCommand_same s
    simp only [cond_false, h1, h2, bnd_some]
    rw [eqCommand_self]
    cases b <;> rfl

end Go.Proofs.Ytpegmiofhfmepaa
