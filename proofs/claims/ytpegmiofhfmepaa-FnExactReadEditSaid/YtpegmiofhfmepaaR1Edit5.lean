/- Edits read: both sides answer the same. FnExactReadEdit over typed functions. -/
import Derived.Test.YtpegmiofhfmepaaR1Edit4
set_option linter.all false
noncomputable section
namespace Go.Proofs.Ytpegmiofhfmepaa
open Go Go.Proofs.Ytpegmiofhfmepaa.Ev

def editP (s : ByteArray) : Option (D31 × ByteArray) :=
  bindO (numO s) fun a s => bindO (numO s) fun b s => bindO (numO s) fun n s => bindO (manyO numI (min n 31) s) fun l s =>
    bindO (numO s) fun m s => bindO (manyO metaO (min m 31) s) fun k s => some (((a : Int), ((b : Int), (l, (k, ())))), s)

abbrev nx {α : Type} (r : Option (α × ByteArray)) : Option ByteArray := r.map (·.2)

theorem Parsed.tk {α : Type} {r : Option (List α × ByteArray)} {acc l' : List α} {p' : D55} (h : Parsed r acc l' p') : Tk p' (nx r) := by
  cases r with
  | none => exact h
  | some q => exact h.2

theorem editChain (s : ByteArray) {v1 v2 v3 v7 : Int} {e1 e2 : D31} {p1 p2 : D55} {o1 o2 o3 o4 o5 : Option ByteArray}
    (q1 : o1 = nx (numO s)) (q2 : o2 = nx (o1.bind numO)) (q3 : o3 = nx (o2.bind numO)) (q4 : o4 = nx (o3.bind (manyO numI (min v3.toNat 31)))) (q5 : o5 = nx (o4.bind numO))
    (c1 : ∀ q, numO s = some q → v1 = (q.1 : Int)) (c2 : ∀ q, o1.bind numO = some q → v2 = (q.1 : Int)) (c3 : ∀ q, o2.bind numO = some q → v3 = (q.1 : Int)) (c7 : ∀ q, o4.bind numO = some q → v7 = (q.1 : Int))
    (h1 : Parsed (o3.bind (manyO numI (min v3.toNat 31))) [] e1.2.2.1 p1) (h2 : Parsed (o5.bind (manyO metaO (min v7.toNat 31))) [] e2.2.2.2.1 p2)
    (a1 : e1.1 = v1) (a2 : e1.2.1 = v2) (b1 : e2.1 = e1.1) (b2 : e2.2.1 = e1.2.1) (b3 : e2.2.2.1 = e1.2.2.1) :
    match editP s with | none => Tk p2 none | some q => e2 = q.1 ∧ Tk p2 (some q.2) := by
  unfold editP
  cases g1 : numO s with
  | none => rw [g1] at q1; subst q1; subst q2; subst q3; subst q4; subst q5; exact h2
  | some y1 =>
    rw [g1] at q1; subst q1
    simp only [nx, Option.map_some, Option.bind_some, bindO] at q2 c2 ⊢
    cases g2 : numO y1.2 with
    | none => rw [g2] at q2; subst q2; subst q3; subst q4; subst q5; exact h2
    | some y2 =>
      rw [g2] at q2; subst q2
      simp only [nx, Option.map_some, Option.bind_some] at q3 c3 ⊢
      cases g3 : numO y2.2 with
      | none => rw [g3] at q3; subst q3; subst q4; subst q5; exact h2
      | some y3 =>
        rw [g3] at q3; subst q3
        have e3 : v3 = (y3.1 : Int) := c3 y3 g3
        subst e3
        simp only [nx, Option.map_some, Option.bind_some, Int.toNat_natCast] at q4 h1 ⊢
        cases g4 : manyO numI (min y3.1 31) y3.2 with
        | none => rw [g4] at q4; subst q4; subst q5; exact h2
        | some y4 =>
          rw [g4] at q4 h1; subst q4
          simp only [nx, Option.map_some, Option.bind_some] at q5 c7 ⊢
          cases g5 : numO y4.2 with
          | none => rw [g5] at q5; subst q5; exact h2
          | some y5 =>
            rw [g5] at q5; subst q5
            have e7 : v7 = (y5.1 : Int) := c7 y5 g5
            subst e7
            simp only [Option.map_some, Option.bind_some, Int.toNat_natCast] at h2 ⊢
            cases g6 : manyO metaO (min y5.1 31) y5.2 with
            | none => rw [g6] at h2; exact h2
            | some y6 =>
              rw [g6] at h2
              obtain ⟨d1, d2⟩ := h2
              obtain ⟨f1, f2⟩ := h1
              refine ⟨?_, d2⟩
              obtain ⟨w1, w2, w3, w4, ⟨⟩⟩ := e2
              dsimp only at b1 b2 b3 d1 ⊢
              rw [b1, b2, b3, a1, a2, d1, f1, c1 y1 g1, c2 y2 g2]
              simp

theorem nums_canon : ∀ {f : Nat} {s : ByteArray} {l : List Int} {s' : ByteArray}, manyO numI f s = some (l, s') → s = numsB l ++ s' ∧ l.length = f ∧ (∀ x ∈ l, natI x) ∧ s'.size ≤ s.size
  | 0, s, l, s', h => by
    simp only [manyO] at h
    injection h with h
    injection h with h1 h2
    subst h1; subst h2
    exact ⟨by simp only [numsB, empty_append], rfl, (fun x hx => by cases hx), Nat.le_refl _⟩
  | f + 1, s, l, s', h => by
    simp only [manyO, numI] at h
    cases hn : numO s with
    | none => rw [hn] at h; cases h
    | some q =>
      rw [hn] at h
      simp only [bindO] at h
      cases hm : manyO numI f q.2 with
      | none => rw [hm] at h; cases h
      | some y =>
        have hm' := hm
        rw [hm] at h
        injection h with h
        injection h with h1 h2
        subst h1; subst h2
        obtain ⟨k1, k2, k3⟩ := numO_some (s' := q.2) (n := q.1) hn
        obtain ⟨j1, j2, j3, j4⟩ := nums_canon hm'
        refine ⟨?_, by simp [j2], ?_, by omega⟩
        · simp only [numsB, Int.toNat_natCast, ByteArray.append_assoc]
          rw [← j1]; exact k2
        · intro x hx
          rcases List.mem_cons.1 hx with rfl | hx
          · exact ⟨by omega, by omega⟩
          · exact j3 x hx

theorem meta_canon {s : ByteArray} {m : D62} {s' : ByteArray} (h : metaO s = some (m, s')) (hs : s.size ≤ 1000) : s = metaB m ++ s' ∧ MetaN m ∧ s'.size ≤ s.size := by
  simp only [metaO] at h
  cases h1 : numO s with
  | none => rw [h1] at h; cases h
  | some q1 =>
    rw [h1] at h
    simp only [bindO] at h
    cases h2 : numO q1.2 with
    | none => rw [h2] at h; cases h
    | some q2 =>
      rw [h2] at h
      simp only at h
      cases h3 : txtO q2.2 with
      | none => rw [h3] at h; cases h
      | some q3 =>
        rw [h3] at h
        simp only at h
        cases h4 : txtO q3.2 with
        | none => rw [h4] at h; cases h
        | some q4 =>
          rw [h4] at h
          injection h with h
          injection h with e1 e2
          subst e1; subst e2
          obtain ⟨k1, k2, k3⟩ := numO_some (s' := q1.2) (n := q1.1) h1
          obtain ⟨l1, l2, l3⟩ := numO_some (s' := q2.2) (n := q2.1) h2
          obtain ⟨m1, m2, m3⟩ := txtO_some (s' := q3.2) (t := q3.1) h3
          obtain ⟨n1, n2, n3⟩ := txtO_some (s' := q4.2) (t := q4.1) h4
          refine ⟨?_, ⟨⟨by dsimp only; omega, by dsimp only; omega⟩, ⟨by dsimp only; omega, by dsimp only; omega⟩, by dsimp only; omega, by dsimp only; omega⟩, by omega⟩
          simp only [metaB, Int.toNat_natCast, ByteArray.append_assoc]
          rw [← n1, ← m1, ← l2]
          exact k2

theorem metas_canon : ∀ {f : Nat} {s : ByteArray} {l : List D62} {s' : ByteArray}, manyO metaO f s = some (l, s') → s.size ≤ 1000 → s = metasB l ++ s' ∧ l.length = f ∧ (∀ x ∈ l, MetaN x) ∧ s'.size ≤ s.size
  | 0, s, l, s', h, hs => by
    simp only [manyO] at h
    injection h with h
    injection h with h1 h2
    subst h1; subst h2
    exact ⟨by simp only [metasB, empty_append], rfl, (fun x hx => by cases hx), Nat.le_refl _⟩
  | f + 1, s, l, s', h, hs => by
    simp only [manyO] at h
    cases hn : metaO s with
    | none => rw [hn] at h; cases h
    | some q =>
      rw [hn] at h
      simp only [bindO] at h
      obtain ⟨k1, k2, k3⟩ := meta_canon (s' := q.2) (m := q.1) hn hs
      cases hm : manyO metaO f q.2 with
      | none => rw [hm] at h; cases h
      | some y =>
        rw [hm] at h
        injection h with h
        injection h with h1 h2
        subst h1; subst h2
        obtain ⟨j1, j2, j3, j4⟩ := metas_canon hm (by omega)
        refine ⟨?_, by simp [j2], ?_, by omega⟩
        · simp only [metasB, ByteArray.append_assoc]
          rw [← j1]; exact k1
        · intro x hx
          rcases List.mem_cons.1 hx with rfl | hx
          · exact k2
          · exact j3 x hx

theorem edit_canon {s : ByteArray} {e : D31} {s' : ByteArray} (h : editP s = some (e, s')) (hs : s.size ≤ 1000) :
    natI e.1 ∧ natI e.2.1 ∧ (∀ x ∈ e.2.2.1, natI x) ∧ (∀ x ∈ e.2.2.2.1, MetaN x) ∧ e.2.2.1.length ≤ 31 ∧ e.2.2.2.1.length ≤ 31 ∧ (e.2.2.1.length ≤ 30 → e.2.2.2.1.length ≤ 30 → s = editB e ++ s') := by
  unfold editP at h
  cases g1 : numO s with
  | none => rw [g1] at h; cases h
  | some y1 =>
    rw [g1] at h
    simp only [bindO] at h
    cases g2 : numO y1.2 with
    | none => rw [g2] at h; cases h
    | some y2 =>
      rw [g2] at h
      simp only at h
      cases g3 : numO y2.2 with
      | none => rw [g3] at h; cases h
      | some y3 =>
        rw [g3] at h
        simp only at h
        cases g4 : manyO numI (min y3.1 31) y3.2 with
        | none => rw [g4] at h; cases h
        | some y4 =>
          rw [g4] at h
          simp only at h
          cases g5 : numO y4.2 with
          | none => rw [g5] at h; cases h
          | some y5 =>
            rw [g5] at h
            simp only at h
            cases g6 : manyO metaO (min y5.1 31) y5.2 with
            | none => rw [g6] at h; cases h
            | some y6 =>
              rw [g6] at h
              injection h with h
              injection h with h1 h2
              subst h1; subst h2
              obtain ⟨a1, a2, a3⟩ := numO_some (s' := y1.2) (n := y1.1) g1
              obtain ⟨b1, b2, b3⟩ := numO_some (s' := y2.2) (n := y2.1) g2
              obtain ⟨c1, c2, c3⟩ := numO_some (s' := y3.2) (n := y3.1) g3
              obtain ⟨d1, d2, d3, d4⟩ := nums_canon (l := y4.1) (s' := y4.2) g4
              obtain ⟨f1, f2, f3⟩ := numO_some (s' := y5.2) (n := y5.1) g5
              obtain ⟨j1, j2, j3, j4⟩ := metas_canon (l := y6.1) (s' := y6.2) g6 (by omega)
              refine ⟨⟨by dsimp only; omega, by dsimp only; omega⟩, ⟨by dsimp only; omega, by dsimp only; omega⟩, d3, j3, by dsimp only; omega, by dsimp only; omega, ?_⟩
              dsimp only
              intro k1 k2
              have n3 : y3.1 = y4.1.length := by omega
              have n5 : y5.1 = y6.1.length := by omega
              simp only [editB, Int.toNat_natCast, ByteArray.append_assoc]
              rw [← n5, ← n3, ← j1, ← f2, ← d1, ← c2, ← b2]
              exact a2

def noEdit : D31 := ((0 : Int), ((0 : Int), (([] : List Int), (([] : List D62), ()))))
open Classical in
def editR (s : ByteArray) : D31 × Bool × Unit := match editP s with
  | none => (noEdit, (false, ()))
  | some q => if q.2.size = 0 ∧ GoodEd q.1 then (q.1, (true, ())) else (noEdit, (false, ()))

theorem editR_len (s : ByteArray) (hs : s.size ≤ 1000) : (editR s).1.2.2.1.length ≤ 31 ∧ (editR s).1.2.2.2.1.length ≤ 31 := by
  unfold editR
  split
  · simp [noEdit]
  · rename_i q hq
    have := edit_canon (e := q.1) (s' := q.2) hq hs
    split
    · exact ⟨this.2.2.2.2.1, this.2.2.2.2.2.1⟩
    · simp [noEdit]

theorem t39Val (x : ByteArray × Unit) (hs : x.1.size ≤ 1000) : t39 x = some (editR x.1, ()) := by
  obtain ⟨s, ⟨⟩⟩ := x
  dsimp only at hs ⊢
  suffices h : Does (t39 (s, ())) fun r => r = (editR s, ()) by
    obtain ⟨r, h1, h2⟩ := h; rw [h1, h2]
  unfold t39
  obtain ⟨r1, a1, _, b1, c1⟩ := t54Tk.get (s, (false, ())) (some s) rfl
  obtain ⟨r2, a2, _, b2, c2⟩ := t54Tk.get r1.2.1 _ b1
  obtain ⟨r3, a3, n3, b3, c3⟩ := t54Tk.get r2.2.1 _ b2
  dsimp only
  rw [a1, bnd_some, a2, bnd_some, a3, bnd_some]
  have hb : ∀ {o : Option ByteArray} {v : Int}, (∀ q, o.bind numO = some q → v = (q.1 : Int)) → ∀ s0, nx (o.bind numO) = some s0 → v ≤ 9223372036854775807 := by
    intro o v hc s0 h0
    cases hq : o.bind numO with
    | none => rw [hq] at h0; cases h0
    | some q =>
      have h1 := hc q hq
      cases o with
      | none => cases hq
      | some s1 =>
        have := (numO_some (s' := q.2) (n := q.1) hq).1
        omega
  refine t39l5Does s _ _ (min r3.1.1.toNat 31) r3.1.1 (r1.1.1, (r2.1.1, ([], ([], ())))) r3.2.1 _ b3 rfl (by simp) (hb c3) ?_
  intro e1 p1 f1 f2 f3 f4 f5
  obtain ⟨r7, a7, n7, b7, c7⟩ := t54Tk.get p1 _ f5.tk
  dsimp only
  rw [a7, bnd_some]
  have hadd : e1.2.2.2.1 = [] := by rw [f3]
  refine t39l9Does s _ _ (min r7.1.1.toNat 31) r7.1.1 e1 r7.2.1 _ b7 (by rw [hadd]; rfl) (by rw [hadd]; simp) (hb c7) ?_
  intro e2 p2 g1 g2 g3 g4 g5
  rw [hadd] at g5
  have key := editChain s rfl rfl rfl rfl rfl c1 c2 c3 c7 f5 g5 f1 f2 g1 g2 g3
  dsimp only
  cases hE : editP s with
  | none =>
    rw [hE] at key
    have hbad : p2.2.1 = true := key
    refine Does.cond (fun _ => Does.val ?_) (fun h => by rw [hbad] at h; cases h)
    simp only [editR, hE]; rfl
  | some q =>
    rw [hE] at key
    obtain ⟨ke, kp⟩ := key
    subst ke
    have kp : p2 = (q.2, (false, ())) := kp
    subst kp
    refine Does.cond (fun h => by cases h) (fun _ => ?_)
    dsimp only
    rw [seq_empty]
    have hcan := edit_canon (e := q.1) (s' := q.2) hE hs
    by_cases hz : q.2.size = 0
    · rw [decide_eq_true hz]
      refine Does.cond (fun h => by cases h) (fun _ => ?_)
      refine Does.bnd (t61Does (x := (q.1, ())) (by have := hcan.2.2.2.2.1; dsimp only; omega) (by have := hcan.2.2.2.2.2.1; dsimp only; omega)) fun r hr => ?_
      dsimp only at hr
      refine Does.cond (fun h => Does.val ?_) (fun h => ?_)
      · have hng : ¬ GoodEd q.1 := fun hg => by rw [hr.2 hg] at h; cases h
        simp only [editR, hE, if_neg (show ¬ (q.2.size = 0 ∧ GoodEd q.1) from fun h => hng h.2)]; rfl
      · have hg : GoodEd q.1 := hr.1 (by simpa using h)
        rw [t62Val (x := (q.1, ())) (by have := hcan.2.2.2.2.1; dsimp only; omega) (by have := hcan.2.2.2.2.2.1; dsimp only; omega) hcan.1 hcan.2.1 hcan.2.2.1 hcan.2.2.2.1, bnd_some]
        have he : s = editB q.1 := by
          have := hcan.2.2.2.2.2.2 hg.2.2.1 hg.2.2.2.1.1
          rw [empty_of_size hz, append_empty] at this
          exact this
        dsimp only
        rw [← he, seq_self]
        refine Does.cond (fun h => by cases h) (fun _ => Does.val ?_)
        simp only [editR, hE, if_pos (And.intro hz hg)]
    · rw [decide_eq_false hz]
      refine Does.cond (fun _ => Does.val ?_) (fun h => by cases h)
      simp only [editR, hE, if_neg (show ¬ (q.2.size = 0 ∧ GoodEd q.1) from fun h => hz h.1)]; rfl

theorem t12Val (x : ByteArray × Unit) : t12 x = some (if x.1.size ≤ 1000 then editR x.1 else (noEdit, (false, ())), ()) := by
  obtain ⟨s, ⟨⟩⟩ := x
  dsimp only
  unfold t12
  by_cases h : s.size ≤ 1000
  · rw [if_pos h]
    dsimp only
    rw [ilt_false.2 (by simp only [slen]; omega), cond_false, t39Val _ h, bnd_some]
  · rw [if_neg h]
    dsimp only
    rw [ilt_iff.2 (by simp only [slen]; omega), cond_true]
    rfl

theorem t13Val (x : ByteArray × Unit) : t13 x = some (if x.1.size ≤ 1000 then editR x.1 else (noEdit, (false, ())), ()) := by
  obtain ⟨s, ⟨⟩⟩ := x
  dsimp only
  suffices h : Does (t13 (s, ())) fun r => r = (if s.size ≤ 1000 then editR s else (noEdit, (false, ())), ()) by
    obtain ⟨r, h1, h2⟩ := h; rw [h1, h2]
  unfold t13
  refine Does.cond (fun h => Does.val ?_) (fun h => ?_)
  · have h := ilt_iff.1 h
    simp only [slen] at h
    rw [if_neg (by omega)]; rfl
  have h := ilt_false.1 h
  simp only [slen] at h
  have hs : s.size ≤ 1000 := by omega
  rw [if_pos hs]
  obtain ⟨r1, a1, _, b1, c1⟩ := t34Tk.get (s, (false, ())) (some s) rfl
  obtain ⟨r2, a2, _, b2, c2⟩ := t34Tk.get r1.2.1 _ b1
  obtain ⟨r3, a3, n3, b3, c3⟩ := t34Tk.get r2.2.1 _ b2
  dsimp only
  rw [a1, bnd_some, a2, bnd_some, a3, bnd_some]
  have hm : ∀ v : Int, 0 ≤ v → imin v 31 ≤ 31 ∧ min v.toNat 31 = (imin v 31 - 0).toNat ∧ 0 + ((min v.toNat 31 : Nat) : Int) ≤ 31 := by
    intro v hv
    rw [imin_eq]
    omega
  refine t13l7Does (imin r3.1.1 31) _ (hm _ n3).1 _ (min r3.1.1.toNat 31) 0 (r1.1.1, (r2.1.1, ([], ([], ())))) r3.2.1 _ b3 (hm _ n3).2.1 (by omega) (hm _ n3).2.2 rfl ?_
  intro e1 p1 f1 f2 f3 f4 f5
  obtain ⟨r7, a7, n7, b7, c7⟩ := t34Tk.get p1 _ f5.tk
  dsimp only
  rw [a7, bnd_some]
  have hadd : e1.2.2.2.1 = [] := by rw [f3]
  refine t13l11Does (imin r7.1.1 31) _ (hm _ n7).1 _ (min r7.1.1.toNat 31) 0 e1 r7.2.1 _ b7 (hm _ n7).2.1 (by omega) (hm _ n7).2.2 (by rw [hadd]; rfl) ?_
  intro e2 p2 g1 g2 g3 g4 g5
  rw [hadd] at g5
  have key := editChain s rfl rfl rfl rfl rfl c1 c2 c3 c7 f5 g5 f1 f2 g1 g2 g3
  dsimp only
  rw [t37Val, bnd_some]
  dsimp only
  cases hE : editP s with
  | none =>
    rw [hE] at key
    have hbad : p2.2.1 = true := key
    rw [hbad]
    refine Does.val ?_
    simp only [editR, hE]; rfl
  | some q =>
    rw [hE] at key
    obtain ⟨ke, kp⟩ := key
    subst ke
    have kp : p2 = (q.2, (false, ())) := kp
    subst kp
    dsimp only
    rw [Bool.not_false, Bool.true_and, seq_empty]
    have hcan := edit_canon (e := q.1) (s' := q.2) hE hs
    by_cases hz : q.2.size = 0
    · rw [decide_eq_true hz]
      refine Does.cond (fun h => by cases h) (fun _ => ?_)
      refine Does.bnd (t40Does (x := (q.1, ())) (by have := hcan.2.2.2.2.1; dsimp only; omega) (by have := hcan.2.2.2.2.2.1; dsimp only; omega)) fun r hr => ?_
      dsimp only at hr
      refine Does.cond (fun h => Does.val ?_) (fun h => Does.val ?_)
      · have hng : ¬ GoodEd q.1 := fun hg => by rw [hr.2 hg] at h; cases h
        simp only [editR, hE, if_neg (show ¬ (q.2.size = 0 ∧ GoodEd q.1) from fun h => hng h.2)]; rfl
      · have hg : GoodEd q.1 := hr.1 (by simpa using h)
        simp only [editR, hE, if_pos (And.intro hz hg)]
    · rw [decide_eq_false hz]
      refine Does.cond (fun _ => Does.val ?_) (fun h => by cases h)
      simp only [editR, hE, if_neg (show ¬ (q.2.size = 0 ∧ GoodEd q.1) from fun h => hz h.1)]; rfl

end Go.Proofs.Ytpegmiofhfmepaa
