/- Edits read: loops of both sides. -/
import Derived.Test.YtpegmiofhfmepaaR1Edit
set_option linter.all false
noncomputable section
namespace Go.Proofs.Ytpegmiofhfmepaa
open Go Go.Proofs.Ytpegmiofhfmepaa.Ev

def Parsed {α : Type} (r : Option (List α × ByteArray)) (acc l' : List α) (p' : D55) : Prop := match r with
  | none => Tk p' none
  | some q => l' = acc ++ q.1 ∧ Tk p' (some q.2)

theorem Parsed_step {α : Type} {P : ByteArray → Option (α × ByteArray)} {f : Nat} {s0 : ByteArray} {acc l' : List α} {x : α} {p' : D55} (hx : ∀ q, P s0 = some q → x = q.1)
    (h : Parsed (((P s0).map (·.2)).bind (manyO P f)) (acc ++ [x]) l' p') : Parsed (manyO P (f + 1) s0) acc l' p' := by
  simp only [manyO]
  cases hn : P s0 with
  | none => rw [hn] at h; exact h
  | some q =>
    rw [hn] at h
    have e := hx q hn
    subst e
    simp only [Option.map_some, Option.bind_some, bindO] at h ⊢
    cases hm : manyO P f q.2 with
    | none => rw [hm] at h; exact h
    | some y =>
      rw [hm] at h
      obtain ⟨h1, h2⟩ := h
      exact ⟨by rw [h1]; simp, h2⟩

theorem numOut {x : Option (Nat × ByteArray)} {a : Int} {p : D55} (h : match x with | none => Tk p none | some q => a = (q.1 : Int) ∧ Tk p (some q.2)) : Tk p (x.map (·.2)) ∧ ∀ q, x = some q → a = (q.1 : Int) := by
  cases x with
  | none => exact ⟨h, fun q hq => by cases hq⟩
  | some q => exact ⟨h.2, fun q' hq => by injection hq with hq; subst hq; exact h.1⟩
theorem txtOut {x : Option (ByteArray × ByteArray)} {a : ByteArray} {p : D55} (h : match x with | none => Tk p none | some q => a = q.1 ∧ Tk p (some q.2)) : Tk p (x.map (·.2)) ∧ ∀ q, x = some q → a = q.1 := by
  cases x with
  | none => exact ⟨h, fun q hq => by cases hq⟩
  | some q => exact ⟨h.2, fun q' hq => by injection hq with hq; subst hq; exact h.1⟩

/-- a number taken -/
theorem NumOk.get {f : D55 × Unit → Option ((Int × Unit) × (D55 × Unit))} (h : NumOk f) (p : D55) (o : Option ByteArray) (hp : Tk p o) :
    ∃ r, f (p, ()) = some r ∧ 0 ≤ r.1.1 ∧ Tk r.2.1 ((o.bind numO).map (·.2)) ∧ ∀ q, o.bind numO = some q → r.1.1 = (q.1 : Int) := by
  obtain ⟨r, h1, h0, h2⟩ := h p o hp
  have := numOut h2
  exact ⟨r, h1, h0, this.1, this.2⟩
theorem TxtOk.get {f : D55 × Unit → Option ((ByteArray × Unit) × (D55 × Unit))} (h : TxtOk f) (p : D55) (o : Option ByteArray) (hp : Tk p o) :
    ∃ r, f (p, ()) = some r ∧ Tk r.2.1 ((o.bind txtO).map (·.2)) ∧ ∀ q, o.bind txtO = some q → r.1.1 = q.1 := by
  obtain ⟨r, h1, h2⟩ := h p o hp
  have := txtOut h2
  exact ⟨r, h1, this.1, this.2⟩

theorem metaGet {f : D55 × Unit → Option ((Int × Unit) × (D55 × Unit))} {g : D55 × Unit → Option ((ByteArray × Unit) × (D55 × Unit))} (hf : NumOk f) (hg : TxtOk g) (p : D55) (o : Option ByteArray) (hp : Tk p o) :
    ∃ r1 r2 r3 r4, f (p, ()) = some r1 ∧ f (r1.2.1, ()) = some r2 ∧ g (r2.2.1, ()) = some r3 ∧ g (r3.2.1, ()) = some r4 ∧ Tk r4.2.1 ((o.bind metaO).map (·.2)) ∧
      ∀ q, o.bind metaO = some q → (r1.1.1, (r2.1.1, (r3.1.1, (r4.1.1, ())))) = q.1 := by
  obtain ⟨r1, a1, _, b1, c1⟩ := hf.get p o hp
  obtain ⟨r2, a2, _, b2, c2⟩ := hf.get r1.2.1 _ b1
  obtain ⟨r3, a3, b3, c3⟩ := hg.get r2.2.1 _ b2
  obtain ⟨r4, a4, b4, c4⟩ := hg.get r3.2.1 _ b3
  refine ⟨r1, r2, r3, r4, a1, a2, a3, a4, ?_, ?_⟩
  · cases o with
    | none => exact b4
    | some s =>
      simp only [Option.bind_some, metaO] at b4 ⊢
      cases h1 : numO s with
      | none => rw [h1] at b4; exact b4
      | some q1 =>
        rw [h1] at b4
        simp only [Option.map_some, Option.bind_some, bindO] at b4 ⊢
        cases h2 : numO q1.2 with
        | none => rw [h2] at b4; exact b4
        | some q2 =>
          rw [h2] at b4
          simp only [Option.map_some, Option.bind_some] at b4 ⊢
          cases h3 : txtO q2.2 with
          | none => rw [h3] at b4; exact b4
          | some q3 =>
            rw [h3] at b4
            simp only [Option.map_some, Option.bind_some] at b4 ⊢
            cases h4 : txtO q3.2 with
            | none => rw [h4] at b4; exact b4
            | some q4 => rw [h4] at b4; exact b4
  · intro q hq
    cases o with
    | none => cases hq
    | some s =>
      simp only [Option.bind_some, metaO] at hq c1 c2 c3 c4
      cases h1 : numO s with
      | none => rw [h1] at hq; cases hq
      | some q1 =>
        rw [h1] at hq c1 c2 c3 c4
        simp only [Option.map_some, Option.bind_some, bindO] at hq c1 c2 c3 c4
        cases h2 : numO q1.2 with
        | none => rw [h2] at hq; cases hq
        | some q2 =>
          rw [h2] at hq c2 c3 c4
          simp only [Option.map_some, Option.bind_some] at hq c2 c3 c4
          cases h3 : txtO q2.2 with
          | none => rw [h3] at hq; cases hq
          | some q3 =>
            rw [h3] at hq c3 c4
            simp only [Option.map_some, Option.bind_some] at hq c3 c4
            cases h4 : txtO q3.2 with
            | none => rw [h4] at hq; cases hq
            | some q4 =>
              rw [h4] at hq c4
              injection hq with hq
              subst hq
              dsimp only
              rw [c1 _ rfl, c2 _ rfl, c3 _ rfl, c4 _ rfl]

/-! ### the reference's loops -/
theorem t39l5Does {R : Type} {Q : R → Prop} (s : ByteArray) (z : D31) (kk : ((ByteArray × Unit) × (D31 × Unit)) → (Unit × (D31 × D55 × Unit)) → Option R) :
    ∀ (f : Nat) (i : Int) (e : D31) (p : D55) (o : Option ByteArray), Tk p o → f = min i.toNat (31 - e.2.2.1.length) → e.2.2.1.length ≤ 31 → (∀ s0, o = some s0 → i ≤ 9223372036854775807) →
      (∀ (e' : D31) (p' : D55), e'.1 = e.1 → e'.2.1 = e.2.1 → e'.2.2.2 = e.2.2.2 → e'.2.2.1.length ≤ 31 → Parsed (o.bind (manyO numI f)) e.2.2.1 e'.2.2.1 p' → Does (kk ((s, ()), (z, ())) ((), (e', (p', ())))) Q) →
      Does (loopF (c := t39l5c) (v := t39l5v) (ex := t39l5e) t39l5 R ((s, ()), (z, ())) ((i, ()), (e, (p, ()))) kk) Q
  | 0, i, e, p, o, hp, hf, hl, hi, hk => by
    rw [loopF_done (c' := ((s, ()), (z, ()))) (o := ((), (e, (p, ())))) (by
      simp only [round, t39l5]
      cases h1 : ilt (0 : Int) i with
      | false => rfl
      | true =>
        cases h2 : p.2.1 with
        | true => rfl
        | false =>
          cases h3 : ile (llen e.2.2.1) (30 : Int) with
          | false => rfl
          | true =>
            have h1 := ilt_iff.1 h1
            have h3 := ile_iff.1 h3
            simp only [llen] at h3
            exfalso; omega)]
    refine hk e p rfl rfl rfl hl ?_
    cases o with
    | none => exact hp
    | some s0 => exact ⟨(List.append_nil _).symm, hp⟩
  | f + 1, i, e, p, o, hp, hf, hl, hi, hk => by
    have h1 : 0 < i := by omega
    have h3 : e.2.2.1.length ≤ 30 := by omega
    cases o with
    | none =>
      have hb : p.2.1 = true := hp
      rw [loopF_done (c' := ((s, ()), (z, ()))) (o := ((), (e, (p, ())))) (by
        simp only [round, t39l5]
        rw [ilt_iff.2 h1, hb]
        rfl)]
      exact hk e p rfl rfl rfl hl hp
    | some s0 =>
      obtain ⟨r, a1, a0, b1, c1⟩ := t54Tk.get p _ hp
      have hb : p.2.1 = false := by have : p = (s0, (false, ())) := hp; rw [this]
      rw [loopF_more (c' := ((s, ()), (z, ()))) (v' := ((i - 1, ()), ((e.1, (e.2.1, ((e.2.2.1 ++ [r.1.1]), e.2.2.2))), (r.2.1, ())))) (by
        simp only [round, t39l5]
        rw [ilt_iff.2 h1, hb, cond_true, Bool.not_false, cond_true, ile_iff.2 (by simp only [llen]; omega), cond_true, a1, bnd_some, decide_eq_true (by simp; omega), req_true, isub_i64 (by have := hi s0 rfl; omega)])]
      refine t39l5Does s z kk f _ _ _ _ b1 (by simp; omega) (by simp; omega) (fun _ _ => by have := hi s0 rfl; omega) ?_
      intro e' p' g1 g2 g3 g4 g5
      refine hk e' p' g1 g2 g3 g4 ?_
      refine Parsed_step (x := r.1.1) ?_ ?_
      · intro q hq
        simp only [numI] at hq
        cases hn : numO s0 with
        | none => rw [hn] at hq; cases hq
        | some y => rw [hn] at hq; injection hq with hq; subst hq; exact c1 y hn
      · have : (numI s0).map (·.2) = (numO s0).map (·.2) := by simp only [numI]; cases numO s0 <;> rfl
        rw [this]
        exact g5

theorem t39l9Does {R : Type} {Q : R → Prop} (s : ByteArray) (z : D31) (kk : ((ByteArray × Unit) × (D31 × Unit)) → (Unit × (D31 × D55 × Unit)) → Option R) :
    ∀ (f : Nat) (i : Int) (e : D31) (p : D55) (o : Option ByteArray), Tk p o → f = min i.toNat (31 - e.2.2.2.1.length) → e.2.2.2.1.length ≤ 31 → (∀ s0, o = some s0 → i ≤ 9223372036854775807) →
      (∀ (e' : D31) (p' : D55), e'.1 = e.1 → e'.2.1 = e.2.1 → e'.2.2.1 = e.2.2.1 → e'.2.2.2.1.length ≤ 31 → Parsed (o.bind (manyO metaO f)) e.2.2.2.1 e'.2.2.2.1 p' → Does (kk ((s, ()), (z, ())) ((), (e', (p', ())))) Q) →
      Does (loopF (c := t39l9c) (v := t39l9v) (ex := t39l9e) t39l9 R ((s, ()), (z, ())) ((i, ()), (e, (p, ()))) kk) Q
  | 0, i, e, p, o, hp, hf, hl, hi, hk => by
    rw [loopF_done (c' := ((s, ()), (z, ()))) (o := ((), (e, (p, ())))) (by
      simp only [round, t39l9]
      cases h1 : ilt (0 : Int) i with
      | false => rfl
      | true =>
        cases h2 : p.2.1 with
        | true => rfl
        | false =>
          cases h3 : ile (llen e.2.2.2.1) (30 : Int) with
          | false => rfl
          | true =>
            have h1 := ilt_iff.1 h1
            have h3 := ile_iff.1 h3
            simp only [llen] at h3
            exfalso; omega)]
    refine hk e p rfl rfl rfl hl ?_
    cases o with
    | none => exact hp
    | some s0 => exact ⟨(List.append_nil _).symm, hp⟩
  | f + 1, i, e, p, o, hp, hf, hl, hi, hk => by
    have h1 : 0 < i := by omega
    have h3 : e.2.2.2.1.length ≤ 30 := by omega
    cases o with
    | none =>
      have hb : p.2.1 = true := hp
      rw [loopF_done (c' := ((s, ()), (z, ()))) (o := ((), (e, (p, ())))) (by
        simp only [round, t39l9]
        rw [ilt_iff.2 h1, hb]
        rfl)]
      exact hk e p rfl rfl rfl hl hp
    | some s0 =>
      obtain ⟨r1, r2, r3, r4, a1, a2, a3, a4, b, c⟩ := metaGet t54Tk t55Tk p _ hp
      have hb : p.2.1 = false := by have : p = (s0, (false, ())) := hp; rw [this]
      rw [loopF_more (c' := ((s, ()), (z, ()))) (v' := ((i - 1, ()), ((e.1, (e.2.1, (e.2.2.1, ((e.2.2.2.1 ++ [(r1.1.1, (r2.1.1, (r3.1.1, (r4.1.1, ()))))]), e.2.2.2.2)))), (r4.2.1, ())))) (by
        simp only [round, t39l9]
        rw [ilt_iff.2 h1, hb, cond_true, Bool.not_false, cond_true, ile_iff.2 (by simp only [llen]; omega), cond_true, a1, bnd_some, a2, bnd_some, a3, bnd_some, a4, bnd_some, decide_eq_true (by simp; omega), req_true, isub_i64 (by have := hi s0 rfl; omega)])]
      refine t39l9Does s z kk f _ _ _ _ b (by simp; omega) (by simp; omega) (fun _ _ => by have := hi s0 rfl; omega) ?_
      intro e' p' g1 g2 g3 g4 g5
      exact hk e' p' g1 g2 g3 g4 (Parsed_step c g5)

/-! ### the program's loops -/
theorem t13l7Does {R : Type} {Q : R → Prop} (m : Int) (z : D31) (hm : m ≤ 31) (kk : ((Int × Unit) × (D31 × Unit)) → (Unit × (D31 × D55 × Unit)) → Option R) :
    ∀ (f : Nat) (i : Int) (e : D31) (p : D55) (o : Option ByteArray), Tk p o → f = (m - i).toNat → 0 ≤ i → i + f ≤ 31 → e.2.2.1.length = i →
      (∀ (e' : D31) (p' : D55), e'.1 = e.1 → e'.2.1 = e.2.1 → e'.2.2.2 = e.2.2.2 → e'.2.2.1.length ≤ 31 → Parsed (o.bind (manyO numI f)) e.2.2.1 e'.2.2.1 p' → Does (kk ((m, ()), (z, ())) ((), (e', (p', ())))) Q) →
      Does (loopF (c := t13l7c) (v := t13l7v) (ex := t13l7e) t13l7 R ((m, ()), (z, ())) ((i, ()), (e, (p, ()))) kk) Q
  | 0, i, e, p, o, hp, hf, hi, hl, he, hk => by
    rw [loopF_done (c' := ((m, ()), (z, ()))) (o := ((), (e, (p, ())))) (by
      simp only [round, t13l7]
      rw [ilt_false.2 (by omega)]
      rfl)]
    refine hk e p rfl rfl rfl (by omega) ?_
    cases o with
    | none => exact hp
    | some s0 => exact ⟨(List.append_nil _).symm, hp⟩
  | f + 1, i, e, p, o, hp, hf, hi, hl, he, hk => by
    obtain ⟨r, a1, a0, b1, c1⟩ := t34Tk.get p _ hp
    rw [loopF_more (c' := ((m, ()), (z, ()))) (v' := ((i + 1, ()), ((e.1, (e.2.1, ((e.2.2.1 ++ [r.1.1]), e.2.2.2))), (r.2.1, ())))) (by
      simp only [round, t13l7]
      rw [ilt_iff.2 (by omega), cond_true, a1, bnd_some, decide_eq_true (by simp; omega), req_true, iadd_i64 (by omega)])]
    refine t13l7Does m z hm kk f _ _ _ _ b1 (by omega) (by omega) (by omega) (by simp; omega) ?_
    intro e' p' g1 g2 g3 g4 g5
    refine hk e' p' g1 g2 g3 g4 ?_
    cases o with
    | none => exact g5
    | some s0 =>
      refine Parsed_step (x := r.1.1) ?_ ?_
      · intro q hq
        simp only [numI] at hq
        cases hn : numO s0 with
        | none => rw [hn] at hq; cases hq
        | some y => rw [hn] at hq; injection hq with hq; subst hq; exact c1 y hn
      · have : (numI s0).map (·.2) = (numO s0).map (·.2) := by simp only [numI]; cases numO s0 <;> rfl
        rw [this]
        exact g5

theorem t13l11Does {R : Type} {Q : R → Prop} (m : Int) (z : D31) (hm : m ≤ 31) (kk : ((Int × Unit) × (D31 × Unit)) → (Unit × (D31 × D55 × Unit)) → Option R) :
    ∀ (f : Nat) (i : Int) (e : D31) (p : D55) (o : Option ByteArray), Tk p o → f = (m - i).toNat → 0 ≤ i → i + f ≤ 31 → e.2.2.2.1.length = i →
      (∀ (e' : D31) (p' : D55), e'.1 = e.1 → e'.2.1 = e.2.1 → e'.2.2.1 = e.2.2.1 → e'.2.2.2.1.length ≤ 31 → Parsed (o.bind (manyO metaO f)) e.2.2.2.1 e'.2.2.2.1 p' → Does (kk ((m, ()), (z, ())) ((), (e', (p', ())))) Q) →
      Does (loopF (c := t13l11c) (v := t13l11v) (ex := t13l11e) t13l11 R ((m, ()), (z, ())) ((i, ()), (e, (p, ()))) kk) Q
  | 0, i, e, p, o, hp, hf, hi, hl, he, hk => by
    rw [loopF_done (c' := ((m, ()), (z, ()))) (o := ((), (e, (p, ())))) (by
      simp only [round, t13l11]
      rw [ilt_false.2 (by omega)]
      rfl)]
    refine hk e p rfl rfl rfl (by omega) ?_
    cases o with
    | none => exact hp
    | some s0 => exact ⟨(List.append_nil _).symm, hp⟩
  | f + 1, i, e, p, o, hp, hf, hi, hl, he, hk => by
    obtain ⟨r1, r2, r3, r4, a1, a2, a3, a4, b, c⟩ := metaGet t34Tk t36Tk p _ hp
    rw [loopF_more (c' := ((m, ()), (z, ()))) (v' := ((i + 1, ()), ((e.1, (e.2.1, (e.2.2.1, ((e.2.2.2.1 ++ [(r1.1.1, (r2.1.1, (r3.1.1, (r4.1.1, ()))))]), e.2.2.2.2)))), (r4.2.1, ())))) (by
      simp only [round, t13l11]
      rw [ilt_iff.2 (by omega), cond_true, a1, bnd_some, a2, bnd_some, a3, bnd_some, a4, bnd_some, decide_eq_true (by simp; omega), req_true, iadd_i64 (by omega)])]
    refine t13l11Does m z hm kk f _ _ _ _ b (by omega) (by omega) (by omega) (by simp; omega) ?_
    intro e' p' g1 g2 g3 g4 g5
    refine hk e' p' g1 g2 g3 g4 ?_
    cases o with
    | none => exact g5
    | some s0 => exact Parsed_step c g5

end Go.Proofs.Ytpegmiofhfmepaa
