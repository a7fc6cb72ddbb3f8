/- Versions: which are good, on both sides. -/
import Derived.Test.YtbekojfgnbnpcaaV8Base
set_option linter.all false
noncomputable section
namespace Go.Proofs.Ytbekojfgnbnpcaa
open Go Go.Proofs.Ytbekojfgnbnpcaa.Ev

/-- ranges of one level have a key in common -/
def meetB (n m : DMeta) : Bool := ieq n.2.1 m.2.1 && ((slt n.2.2.1 m.2.2.2.1 || seq n.2.2.1 m.2.2.2.1) && (slt m.2.2.1 n.2.2.2.1 || seq m.2.2.1 n.2.2.2.1))
def VerAt (v : DVersion) (i : Nat) (m : DMeta) : Prop := m.1 < v.1 ∧ (0 < m.2.1 → ∀ (j : Nat) (n : DMeta), j < i → v.2.2.1[j]? = some n → meetB n m = false)
def GoodV (v : DVersion) : Prop := inR v.1 1 100001 = true ∧ inR v.2.1 0 1000000000 = true ∧ MetasOk v.2.2.1 ∧ ∀ i m, v.2.2.1[i]? = some m → VerAt v i m

theorem f_impl_GoodVersion_1Val (n m : DMeta) : f_impl_GoodVersion_1 (n, (m, ())) = some ((meetB n m, ()), ()) := by
  unfold f_impl_GoodVersion_1 f_impl_Meta_meets meetB
  dsimp only
  cases ieq n.2.1 m.2.1
  · rfl
  · cases slt n.2.2.1 m.2.2.2.1 || seq n.2.2.1 m.2.2.2.1 <;> rfl

/-- the first place where b holds -/
def IdxAt (l : List DMeta) (b : DMeta → Bool) (i : Int) : Prop := (i = -1 ∧ ∀ x ∈ l, b x = false) ∨ ∃ (k : Nat) (x : DMeta), i = (k : Int) ∧ l[k]? = some x ∧ b x = true

theorem f_slices_IndexFunc_MetaDoes (l : List DMeta) (hl : l.length ≤ 1000) (p : DMeta × Unit → Option (Bool × Unit)) (b : DMeta → Bool) (hp : ∀ x, p (x, ()) = some (b x, ())) :
    Does (f_slices_IndexFunc_Meta (l, (p, ()))) fun r => IdxAt l b r.1.1 := by
  unfold f_slices_IndexFunc_Meta
  refine Does.loop (c := f_slices_IndexFunc_Meta_l2c) (v := f_slices_IndexFunc_Meta_l2v) (ex := f_slices_IndexFunc_Meta_l2e)
    (fun (xc : ((List DMeta) × ((DMeta × Unit) → Option (Bool × Unit)) × Int × Unit) × Unit) (xv : (Int × Unit) × Unit) => xc = ((l, (p, (llen l, ()))), ()) ∧ ∃ j : Nat, xv = (((j : Int), ()), ()) ∧ j ≤ l.length ∧ ∀ i x, i < j → l[i]? = some x → b x = false)
    (fun _ (xv : (Int × Unit) × Unit) => l.length - Int.toNat xv.1.1) ?_ ⟨rfl, 0, rfl, by omega, fun i x h => by omega⟩
  rintro xc xv ⟨rfl, j, rfl, hj, hb⟩
  simp only [round, f_slices_IndexFunc_Meta_l2]
  refine Does.cond (fun hlt => ?_) (fun hlt => ?_)
  · have hlt := ilt_iff.1 hlt
    simp only [llen] at hlt
    refine Does.getO (by omega) (by omega) fun y hy => ?_
    rw [Int.toNat_natCast] at hy
    rw [hp, bnd_some]
    refine Does.cond (fun h1 => Does.val (Does.val ?_)) (fun h1 => Does.val ?_)
    · exact .inr ⟨j, y, rfl, hy, h1⟩
    · rw [iadd_i64 (by omega)]
      exact ⟨⟨rfl, j + 1, rfl, by omega, upto_step (P := fun _ x => b x = false) hb hy h1⟩, by dsimp only; omega⟩
  · have hlt := ilt_false.1 hlt
    simp only [llen] at hlt
    refine Does.val (Does.val ?_)
    refine .inl ⟨rfl, fun x hx => ?_⟩
    obtain ⟨i, hi, rfl⟩ := List.getElem_of_mem hx
    exact hb i _ (by omega) (List.getElem?_eq_getElem hi)

theorem f_slices_ContainsFunc_MetaDoes (l : List DMeta) (hl : l.length ≤ 1000) (p : DMeta × Unit → Option (Bool × Unit)) (b : DMeta → Bool) (hp : ∀ x, p (x, ()) = some (b x, ())) :
    Does (f_slices_ContainsFunc_Meta (l, (p, ()))) fun r => (r.1.1 = true ↔ ∃ x ∈ l, b x = true) := by
  unfold f_slices_ContainsFunc_Meta
  refine Does.bnd (f_slices_IndexFunc_MetaDoes l hl p b hp) fun r hr => Does.val ?_
  rcases hr with ⟨h1, h2⟩ | ⟨k, x, h1, h2, h3⟩
  · rw [h1]
    refine ⟨(fun h => by cases h), fun ⟨x, hx, hb⟩ => ?_⟩
    rw [h2 x hx] at hb; cases hb
  · rw [h1]
    exact ⟨fun _ => ⟨x, List.mem_of_getElem? h2, h3⟩, fun _ => ile_iff.2 (show (0 : Int) ≤ (k : Int) by omega)⟩

theorem take_mem {α : Type} {l : List α} {i : Nat} {x : α} : x ∈ l.take i ↔ ∃ j, j < i ∧ l[j]? = some x := by
  rw [List.mem_iff_getElem?]
  constructor
  · rintro ⟨j, hj⟩
    rw [List.getElem?_take] at hj
    by_cases h : j < i
    · rw [if_pos h] at hj; exact ⟨j, h, hj⟩
    · rw [if_neg h] at hj; cases hj
  · rintro ⟨j, h, hj⟩
    exact ⟨j, by rw [List.getElem?_take, if_pos h]; exact hj⟩

theorem f_impl_GoodVersionDoes {x : DVersion × Unit} (hl : x.1.2.2.1.length ≤ 1000) : Does (f_impl_GoodVersion x) fun r => (r.1.1 = true ↔ GoodV x.1) := by
  obtain ⟨v, ⟨⟩⟩ := x
  dsimp only at hl ⊢
  unfold f_impl_GoodVersion f_impl_nextOk f_impl_isSeq
  rw [val_f_impl_in, bnd_some]; dsimp only
  cases a1 : inR v.1 1 100001
  · rw [cond_false, bnd_some]; exact Does.val ⟨(fun h => by cases h), fun h => by have := h.1; rw [a1] at this; cases this⟩
  rw [cond_true, val_f_impl_in, bnd_some]; dsimp only
  rw [bnd_some]; dsimp only
  rw [bnd_some]; dsimp only
  cases a2 : inR v.2.1 0 1000000000
  · exact Does.val ⟨(fun h => by cases h), fun h => by have := h.2.1; rw [a2] at this; cases this⟩
  simp only [Bool.not_true, cond_false]
  refine Does.bnd (f_impl_metasOkDoes (x := (v.2.2.1, ())) hl) fun r2 hr2 => ?_
  refine Does.cond (fun h3 => Does.val ?_) (fun h3 => ?_)
  · refine ⟨(fun h => by cases h), fun h => ?_⟩
    have := hr2.2 h.2.2.1
    rw [this] at h3; cases h3
  have h3 : MetasOk v.2.2.1 := hr2.1 (by simpa using h3)
  refine Does.loop (c := f_impl_GoodVersion_l4c) (v := f_impl_GoodVersion_l4v) (ex := f_impl_GoodVersion_l4e)
    (fun (xc : ((List DMeta) × Int × Unit) × (DVersion × Unit)) (xv : (Int × Unit) × Unit) => xc = ((v.2.2.1, (llen v.2.2.1, ())), (v, ())) ∧ ∃ j : Nat, xv = (((j : Int), ()), ()) ∧ j ≤ v.2.2.1.length ∧ ∀ i x, i < j → v.2.2.1[i]? = some x → VerAt v i x)
    (fun _ (xv : (Int × Unit) × Unit) => v.2.2.1.length - Int.toNat xv.1.1) ?_ ⟨rfl, 0, rfl, by omega, fun i x h => by omega⟩
  rintro xc xv ⟨rfl, j, rfl, hj, hb⟩
  simp only [round, f_impl_GoodVersion_l4]
  refine Does.cond (fun hlt => ?_) (fun hlt => ?_)
  · have hlt := ilt_iff.1 hlt
    simp only [llen] at hlt
    refine Does.getO (by omega) (by omega) fun y hy => ?_
    rw [Int.toNat_natCast] at hy
    have next : VerAt v j y → (((v.2.2.1, (llen v.2.2.1, ())), (v, ())) = ((v.2.2.1, (llen v.2.2.1, ())), (v, ())) ∧ ∃ k : Nat, (((iadd .i64 (j : Int) (1 : Int)), ()), ()) = (((k : Int), ()), ()) ∧ k ≤ v.2.2.1.length ∧ ∀ i x, i < k → v.2.2.1[i]? = some x → VerAt v i x) ∧ v.2.2.1.length - Int.toNat (iadd .i64 (j : Int) (1 : Int)) < v.2.2.1.length - Int.toNat (j : Int) := fun hv => by
      rw [iadd_i64 (by omega)]
      exact ⟨⟨rfl, j + 1, rfl, by omega, upto_step hb hy hv⟩, by omega⟩
    refine Does.cond (fun h4 => Does.val (Does.val ?_)) (fun h4 => ?_)
    · have h4 := ile_iff.1 h4
      exact ⟨(fun h => by cases h), fun h => by have := (h.2.2.2 j y hy).1; omega⟩
    · have h4 := ile_false.1 h4
      refine Does.cond (fun h5 => ?_) (fun h5 => ?_)
      · have h5 := ilt_iff.1 h5
        refine Does.req (by simp; omega) ?_
        have hlen : (List.take (Int.toNat (j : Int) - 0) (List.drop 0 v.2.2.1)).length ≤ 1000 := by simp; omega
        refine Does.bnd (f_slices_ContainsFunc_MetaDoes _ hlen _ (fun n => meetB n y) (fun n => by dsimp only; rw [f_impl_GoodVersion_1Val]; rfl)) fun r4 hr4 => ?_
        have hm : ∀ n, n ∈ List.take (Int.toNat (j : Int) - 0) (List.drop 0 v.2.2.1) ↔ ∃ i, i < j ∧ v.2.2.1[i]? = some n := fun n => by
          rw [List.drop_zero, Nat.sub_zero, Int.toNat_natCast, take_mem]
        refine Does.cond (fun h6 => Does.val (Does.val ?_)) (fun h6 => Does.val (next ⟨h4, fun _ i n hi hn => ?_⟩))
        · obtain ⟨n, hn, hb6⟩ := hr4.1 h6
          obtain ⟨i, hi, hn⟩ := (hm n).1 hn
          refine ⟨(fun h => by cases h), fun h => ?_⟩
          have := (h.2.2.2 j y hy).2 h5 i n hi hn
          rw [this] at hb6; cases hb6
        · cases hmb : meetB n y with
          | false => rfl
          | true =>
            have := hr4.2 ⟨n, (hm n).2 ⟨i, hi, hn⟩, hmb⟩
            rw [this] at h6; cases h6
      · have h5 := ilt_false.1 h5
        exact Does.val (next ⟨h4, fun h => by omega⟩)
  · have hlt := ilt_false.1 hlt
    simp only [llen] at hlt
    exact Does.val (Does.val ⟨fun _ => ⟨a1, a2, h3, upto_all (by omega) hb⟩, fun _ => rfl⟩)

theorem f_spec_GoodVersionDoes {x : DVersion × Unit} (hl : x.1.2.2.1.length ≤ 1000) : Does (f_spec_GoodVersion x) fun r => (r.1.1 = true ↔ GoodV x.1) := by
  obtain ⟨v, ⟨⟩⟩ := x
  dsimp only at hl ⊢
  unfold f_spec_GoodVersion f_spec_l9Counts f_spec_l4Seq
  rw [val_f_spec_l1In, bnd_some]; dsimp only
  cases a1 : inR v.1 1 100001
  · rw [cond_false, bnd_some]; exact Does.val ⟨(fun h => by cases h), fun h => by have := h.1; rw [a1] at this; cases this⟩
  rw [cond_true, val_f_spec_l1In, bnd_some]; dsimp only
  rw [bnd_some]; dsimp only
  rw [bnd_some]; dsimp only
  cases a2 : inR v.2.1 0 1000000000
  · exact Does.val ⟨(fun h => by cases h), fun h => by have := h.2.1; rw [a2] at this; cases this⟩
  simp only [Bool.not_true, cond_false]
  rw [metas_same]
  refine Does.bnd (f_impl_metasOkDoes (x := (v.2.2.1, ())) hl) fun r2 hr2 => ?_
  refine Does.cond (fun h3 => Does.val ?_) (fun h3 => ?_)
  · refine ⟨(fun h => by cases h), fun h => ?_⟩
    have := hr2.2 h.2.2.1
    rw [this] at h3; cases h3
  have h3 : MetasOk v.2.2.1 := hr2.1 (by simpa using h3)
  refine Does.loop (c := f_spec_GoodVersion_l4c) (v := f_spec_GoodVersion_l4v) (ex := f_spec_GoodVersion_l4e)
    (fun (xc : Unit × Unit) (xv : ((List DMeta) × Int × Int × Unit) × (DVersion × Unit)) => ∃ j : Nat, xv = ((v.2.2.1, (llen v.2.2.1, ((j : Int), ()))), (v, ())) ∧ j ≤ v.2.2.1.length ∧ ∀ i x, i < j → v.2.2.1[i]? = some x → VerAt v i x)
    (fun _ (xv : ((List DMeta) × Int × Int × Unit) × (DVersion × Unit)) => v.2.2.1.length - Int.toNat xv.1.2.2.1) ?_ ⟨0, rfl, by omega, fun i x h => by omega⟩
  rintro xc xv ⟨j, rfl, hj, hb⟩
  simp only [round, f_spec_GoodVersion_l4]
  refine Does.cond (fun hlt => ?_) (fun hlt => ?_)
  · have hlt := ilt_iff.1 hlt
    simp only [llen] at hlt
    refine Does.getO (by omega) (by omega) fun y hy => ?_
    rw [Int.toNat_natCast] at hy
    refine Does.cond (fun h4 => Does.val (Does.val ?_)) (fun h4 => ?_)
    · have h4 := ile_iff.1 h4
      exact ⟨(fun h => by cases h), fun h => by have := (h.2.2.2 j y hy).1; omega⟩
    · have h4 := ile_false.1 h4
      refine Does.req (by simp; omega) ?_
      obtain ⟨L, hL⟩ : ∃ L, L = List.take (Int.toNat (j : Int) - 0) (List.drop 0 v.2.2.1) := ⟨_, rfl⟩
      have hm : ∀ n, n ∈ L ↔ ∃ i, i < j ∧ v.2.2.1[i]? = some n := fun n => by
        rw [hL, List.drop_zero, Nat.sub_zero, Int.toNat_natCast, take_mem]
      have hlen : L.length ≤ 1000 := by rw [hL]; simp; omega
      rw [← hL]
      refine Does.loop (c := f_spec_GoodVersion_l9c) (v := f_spec_GoodVersion_l9v) (ex := f_spec_GoodVersion_l9e)
        (fun (xc : ((List DMeta) × Int × Int × (List DMeta) × Int × Unit) × (DVersion × DMeta × Unit)) (xv : (Int × Unit) × Unit) => xc = ((v.2.2.1, (llen v.2.2.1, ((j : Int), (L, (llen L, ()))))), (v, (y, ()))) ∧ ∃ u : Nat, xv = (((u : Int), ()), ()) ∧ u ≤ L.length ∧ ∀ i x, i < u → L[i]? = some x → (0 < y.2.1 → meetB x y = false))
        (fun _ (xv : (Int × Unit) × Unit) => L.length - Int.toNat xv.1.1) ?_ ⟨rfl, 0, rfl, by omega, fun i x h => by omega⟩
      rintro xc xv ⟨rfl, u, rfl, hu, hc⟩
      simp only [round, f_spec_GoodVersion_l9]
      refine Does.cond (fun hlt2 => ?_) (fun hlt2 => ?_)
      · have hlt2 := ilt_iff.1 hlt2
        simp only [llen] at hlt2
        refine Does.getO (by omega) (by omega) fun n hn => ?_
        rw [Int.toNat_natCast] at hn
        have next : (0 < y.2.1 → meetB n y = false) → (((v.2.2.1, (llen v.2.2.1, ((j : Int), (L, (llen L, ()))))), (v, (y, ()))) = ((v.2.2.1, (llen v.2.2.1, ((j : Int), (L, (llen L, ()))))), (v, (y, ()))) ∧ ∃ k : Nat, (((iadd .i64 (u : Int) (1 : Int)), ()), ()) = (((k : Int), ()), ()) ∧ k ≤ L.length ∧ ∀ i x, i < k → L[i]? = some x → (0 < y.2.1 → meetB x y = false)) ∧ L.length - Int.toNat (iadd .i64 (u : Int) (1 : Int)) < L.length - Int.toNat (u : Int) := fun hv => by
          rw [iadd_i64 (by omega)]
          exact ⟨⟨rfl, u + 1, rfl, by omega, upto_step (P := fun _ x => 0 < y.2.1 → meetB x y = false) hc hn hv⟩, by omega⟩
        refine Does.cond (fun b1 => ?_) (fun b1 => Does.val (next fun h => by have := ilt_false.1 b1; omega))
        refine Does.cond (fun b2 => ?_) (fun b2 => Does.val (next fun h => by unfold meetB; rw [b2]; rfl))
        refine Does.cond (fun b3 => ?_) (fun b3 => Does.val (next fun h => by unfold meetB; rw [b3]; simp))
        refine Does.cond (fun b4 => Does.val (Does.val (Does.val ?_))) (fun b4 => Does.val (next fun h => by unfold meetB; rw [b4]; simp))
        refine ⟨(fun h => by cases h), fun h => ?_⟩
        obtain ⟨i, hi, hn2⟩ := (hm n).1 (List.mem_of_getElem? hn)
        have := (h.2.2.2 j y hy).2 (ilt_iff.1 b1) i n hi hn2
        unfold meetB at this
        rw [b2, b3, b4] at this
        cases this
      · have hlt2 := ilt_false.1 hlt2
        simp only [llen] at hlt2
        refine Does.val (Does.val ?_)
        dsimp only
        rw [iadd_i64 (by omega)]
        refine ⟨⟨j + 1, rfl, by omega, upto_step hb hy ⟨h4, fun h i n hi hn => ?_⟩⟩, by omega⟩
        obtain ⟨q, hq⟩ := List.mem_iff_getElem?.1 ((hm n).2 ⟨i, hi, hn⟩)
        exact upto_all (by omega) hc q n hq h
  · have hlt := ilt_false.1 hlt
    simp only [llen] at hlt
    exact Does.val (Does.val ⟨fun _ => ⟨a1, a2, h3, upto_all (by omega) hb⟩, fun _ => rfl⟩)

end Go.Proofs.Ytbekojfgnbnpcaa
