/- Disks: how many bytes are named, on both sides; good disks. -/
import Derived.Test.YthlnjkcpdkjipaaDoorX1Good
set_option linter.all false
noncomputable section
namespace Go.Proofs.YthlnjkcpdkjipaaDoor
open Go Go.Proofs.YthlnjkcpdkjipaaDoor.Ev

/-- the bytes of the blobs whose number is one of Q, counted from k on -/
def usedP (Q : Nat → Bool) : List DBlob → Nat → Nat
  | [], _ => 0
  | b :: r, k => cond (Q k) b.1.size 0 + usedP Q r (k + 1)
def namedB (zs : List DBlob) (k : Nat) : Bool := zs.any fun x => decide (x.2.1 = (k : Int))
def usedN (d : DDisk) : Nat := usedP (namedB (d.2.1 ++ d.2.2.1)) d.1 0

def BlobsOk (l : List DBlob) : Prop := ∀ (i : Nat) (x : DBlob), l[i]? = some x → slen x.1 ≤ 4000 ∧ inR x.2.1 0 (slen x.1) = true
def GoodD (d : DDisk) : Prop := BlobsOk d.1 ∧ d.1.length ≤ 60 ∧ NamesOk (llen d.1) d.2.1 ∧ NamesOk (llen d.1) d.2.2.1 ∧ inR d.2.2.2.1 0 100000 = true ∧ (usedN d : Int) ≤ d.2.2.2.1

theorem usedP_congr {Q Q' : Nat → Bool} : ∀ (l : List DBlob) (k : Nat), (∀ j, k ≤ j → j < k + l.length → Q j = Q' j) → usedP Q l k = usedP Q' l k
  | [], _, _ => rfl
  | b :: r, k, h => by
    simp only [usedP]
    rw [h k (Nat.le_refl _) (by simp), usedP_congr r (k + 1) fun j h1 h2 => h j (by omega) (by simp; omega)]
theorem usedP_le (Q : Nat → Bool) : ∀ (l : List DBlob) (k M : Nat), (∀ x ∈ l, x.1.size ≤ M) → usedP Q l k ≤ l.length * M
  | [], _, _, _ => by simp [usedP]
  | b :: r, k, M, h => by
    have h1 := usedP_le Q r (k + 1) M fun x hx => h x (List.mem_cons_of_mem _ hx)
    have h2 := h b List.mem_cons_self
    simp only [usedP, List.length_cons, Nat.succ_mul]
    cases Q k <;> simp only [cond_true, cond_false] <;> omega
/-- one more -/
theorem usedP_add {Q : Nat → Bool} {n : Nat} (hn : Q n = false) : ∀ (l : List DBlob) (k : Nat) (x : DBlob), k ≤ n → l[n - k]? = some x → usedP (fun j => decide (j = n) || Q j) l k = x.1.size + usedP Q l k
  | [], k, x, h, hx => by simp at hx
  | b :: r, k, x, h, hx => by
    simp only [usedP]
    by_cases hk : k = n
    · subst hk
      simp at hx
      subst hx
      rw [usedP_congr (Q := fun j => decide (j = k) || Q j) (Q' := Q) r (k + 1) fun j h1 h2 => by simp; omega]
      simp [hn]
    · rw [usedP_add hn r (k + 1) x (by omega) (by rw [show n - k = (n - (k + 1)) + 1 by omega] at hx; simpa using hx)]
      have : (decide (k = n) || Q k) = Q k := by simp [hk]
      rw [this]
      omega

theorem usedGo_val (bl : List DBlob) (hb : ∀ x ∈ bl, x.1.size ≤ 4000) (hl : bl.length ≤ 60) : ∀ (zs : List DBlob) (seen : List Int) (s : Nat), (∀ x ∈ zs, 0 ≤ x.2.1 ∧ x.2.1 < bl.length) → s + usedP (fun k => namedB zs k && !seen.elem (k : Int)) bl 0 ≤ 240000 →
    usedGo bl zs seen s = some ((s + usedP (fun k => namedB zs k && !seen.elem (k : Int)) bl 0 : Nat) : Int)
  | [], seen, s, _, _ => by
    have : usedP (fun k => namedB [] k && !seen.elem (k : Int)) bl 0 = 0 := by
      refine (usedP_congr (Q' := fun _ => false) bl 0 fun j _ _ => rfl).trans ?_
      have : ∀ (l : List DBlob) k, usedP (fun _ => false) l k = 0 := by
        intro l
        induction l with
        | nil => intro k; rfl
        | cons b r ih => intro k; simp [usedP, ih]
      exact this _ _
    simp only [usedGo]
    rw [this]
    rfl
  | n :: r, seen, s, hz, hs => by
    obtain ⟨h0, h1⟩ := hz n List.mem_cons_self
    obtain ⟨i, hi⟩ : ∃ i : Nat, n.2.1 = (i : Int) := ⟨n.2.1.toNat, (Int.toNat_of_nonneg h0).symm⟩
    have hr : ∀ x ∈ r, 0 ≤ x.2.1 ∧ x.2.1 < bl.length := fun x hx => hz x (List.mem_cons_of_mem _ hx)
    simp only [usedGo]
    have hQ : ∀ k, (namedB (n :: r) k && !seen.elem (k : Int)) = ((decide (k = i) && !seen.elem (k : Int)) || (namedB r k && !((i : Int) :: seen).elem (k : Int))) := fun k => by
      have e1 : namedB (n :: r) k = (decide (k = i) || namedB r k) := by
        simp only [namedB, List.any_cons, hi]
        congr 1
        rw [decide_eq_decide]
        omega
      have e2 : ((i : Int) :: seen).elem (k : Int) = (decide (k = i) || seen.elem (k : Int)) := by
        by_cases hk : k = i
        · subst hk; simp
        · have : ((k : Int) == (i : Int)) = false := beq_eq_false_iff_ne.2 (by omega)
          simp [List.elem, this, hk]
      rw [e1, e2]
      cases decide (k = i) <;> cases seen.elem (k : Int) <;> cases namedB r k <;> rfl
    cases hse : seen.elem n.2.1 with
    | true =>
      rw [hi] at hse ⊢
      have e : usedP (fun k => namedB (n :: r) k && !seen.elem (k : Int)) bl 0 = usedP (fun k => namedB r k && !((i : Int) :: seen).elem (k : Int)) bl 0 := usedP_congr bl 0 fun k _ _ => by
        rw [hQ k]
        by_cases hk : k = i
        · subst hk; rw [hse]; simp
        · simp [hk]
      rw [e] at hs ⊢
      rw [cond_true]
      exact usedGo_val bl hb hl r _ s hr hs
    | false =>
      rw [hi] at hse ⊢
      rw [cond_false]
      have hx := List.getElem?_eq_getElem (show i < bl.length by omega)
      have e : usedP (fun k => namedB (n :: r) k && !seen.elem (k : Int)) bl 0 = bl[i].1.size + usedP (fun k => namedB r k && !((i : Int) :: seen).elem (k : Int)) bl 0 := by
        rw [← usedP_add (Q := fun k => namedB r k && !((i : Int) :: seen).elem (k : Int)) (n := i) (by simp) bl 0 bl[i] (Nat.zero_le _) hx]
        refine usedP_congr bl 0 fun k _ _ => ?_
        rw [hQ k]
        by_cases hk : k = i
        · subst hk; rw [hse]; simp
        · simp [hk]
      rw [e] at hs ⊢
      rw [getO_at (by omega) (by rw [Int.toNat_natCast]; exact hx)]
      have hadd : iadd .i64 (s : Int) (slen bl[i].1) = ((s + bl[i].1.size : Nat) : Int) := by
        rw [iadd_i64 (by simp only [slen]; omega)]; simp only [slen]; omega
      rw [hadd, usedGo_val bl hb hl r _ (s + bl[i].1.size) hr (by omega)]
      congr 2
      omega

theorem BlobsOk.le {l : List DBlob} (h : BlobsOk l) : ∀ x ∈ l, x.1.size ≤ 4000 := fun x hx => by
  obtain ⟨i, hi⟩ := List.getElem?_of_mem hx
  have := (h i x hi).1
  simp only [slen] at this
  omega

theorem NamesOk.rng {nb : Nat} {l : List DBlob} (h : NamesOk (nb : Int) l) (hn : nb ≤ 60) : ∀ x ∈ l, 0 ≤ x.2.1 ∧ x.2.1 < nb := fun x hx => by
  obtain ⟨i, hi⟩ := List.getElem?_of_mem hx
  have := inR_iff.1 (h.1 i x hi).2.1
  rw [isub_i64 (by omega)] at this
  omega

theorem f_impl_usedVal (d : DDisk) (h1 : BlobsOk d.1) (h2 : d.1.length ≤ 60) (h3 : NamesOk (llen d.1) d.2.1) (h4 : NamesOk (llen d.1) d.2.2.1) : f_impl_Disk_used (d, ()) = some ((((usedN d : Nat) : Int), ()), ()) := by
  have hz : ∀ x ∈ d.2.1 ++ d.2.2.1, 0 ≤ x.2.1 ∧ x.2.1 < d.1.length := fun x hx => by
    rcases List.mem_append.1 hx with hx | hx
    · exact NamesOk.rng h3 h2 x hx
    · exact NamesOk.rng h4 h2 x hx
  unfold f_impl_Disk_used
  rw [show (decide (d.2.1.length + d.2.2.1.length ≤ 17179869184) && ((d.2.1 ++ d.2.2.1).all fun n => decide (-9223372036854775808 ≤ n.2.1 ∧ n.2.1 ≤ 9223372036854775807))) = true by
    rw [Bool.and_eq_true]
    refine ⟨decide_eq_true ?_, List.all_eq_true.2 fun x hx => decide_eq_true ?_⟩
    · have := h3.2; have := h4.2; omega
    · have := hz x hx; omega]
  have hle := usedP_le (namedB (d.2.1 ++ d.2.2.1)) d.1 0 4000 h1.le
  have e : usedP (fun k => namedB (d.2.1 ++ d.2.2.1) k && !([] : List Int).elem (k : Int)) d.1 0 = usedN d := usedP_congr d.1 0 fun j _ _ => by simp
  have hu := usedGo_val d.1 h1.le h2 (d.2.1 ++ d.2.2.1) [] 0 hz (by
    rw [e]; unfold usedN
    have : d.1.length * 4000 ≤ 60 * 4000 := Nat.mul_le_mul_right _ h2
    omega)
  rw [e, Nat.zero_add] at hu
  show bnd (usedGo d.1 (d.2.1 ++ d.2.2.1) [] ((0 : Nat) : Int)) _ = _
  rw [hu]
  rfl

/-! ### the reference's -/
theorem namedB_app (a b : List DBlob) (k : Nat) : namedB (a ++ b) k = (namedB a k || namedB b k) := by simp [namedB]

theorem used_l7 (d : DDisk) (v1 : DBlob) (s k : Int) (l : List DBlob) (n k2 : Int) (kn : Nat) (hk : k = (kn : Int)) (zs : List DBlob) (hz : zs.length ≤ 4611686018427387904) {R : Type} (Q : R → Prop) (b0 : Bool)
    (kk : Vars f_spec_l1Used_l7c → Oc f_spec_l1Used_l7e → Option R) (h : Does (kk ((s, (k, (l, (n, (k2, (zs, (llen zs, ()))))))), (d, (v1, ()))) ((b0 || namedB zs kn, ()), ())) Q) :
    Does (loopF (c := f_spec_l1Used_l7c) (v := f_spec_l1Used_l7v) (ex := f_spec_l1Used_l7e) f_spec_l1Used_l7 R ((s, (k, (l, (n, (k2, (zs, (llen zs, ()))))))), (d, (v1, ()))) ((b0, ((0 : Int), ())), ()) kk) Q := by
  refine Does.loop (c := f_spec_l1Used_l7c) (v := f_spec_l1Used_l7v) (ex := f_spec_l1Used_l7e)
    (fun (xc : (Int × Int × (List DBlob) × Int × Int × (List DBlob) × Int × Unit) × (DDisk × DBlob × Unit)) (xv : (Bool × Int × Unit) × Unit) => xc = ((s, (k, (l, (n, (k2, (zs, (llen zs, ()))))))), (d, (v1, ()))) ∧ ∃ j : Nat, xv = (((b0 || namedB (zs.take j) kn), ((j : Int), ())), ()) ∧ j ≤ zs.length)
    (fun _ (xv : (Bool × Int × Unit) × Unit) => zs.length - Int.toNat xv.1.2.1) ?_ ⟨rfl, 0, by simp [namedB], by omega⟩
  rintro xc xv ⟨rfl, j, rfl, hj⟩
  simp only [round, f_spec_l1Used_l7]
  refine Does.cond (fun hlt => ?_) (fun hlt => ?_)
  · have hlt := ilt_iff.1 hlt
    simp only [llen] at hlt
    refine Does.getO (by omega) (by omega) fun x hx => ?_
    rw [Int.toNat_natCast] at hx
    have hlt' : j < zs.length := by omega
    have et : namedB (zs.take (j + 1)) kn = (namedB (zs.take j) kn || decide (x.2.1 = (kn : Int))) := by
      rw [List.take_add_one, namedB_app, hx]
      simp [namedB]
    rw [iadd_i64 (by omega)]
    refine Does.cond (fun h1 => Does.val ⟨⟨rfl, j + 1, ?_, by omega⟩, by dsimp only; omega⟩) (fun h1 => Does.val ⟨⟨rfl, j + 1, ?_, by omega⟩, by dsimp only; omega⟩)
    · have h1 : (b0 || namedB (zs.take j) kn) = true := h1
      rw [et, ← Bool.or_assoc, h1, Bool.true_or]; rfl
    · have h1 : (b0 || namedB (zs.take j) kn) = false := h1
      rw [et, ← Bool.or_assoc, h1, Bool.false_or]
      have e : ieq x.2.1 k = decide (x.2.1 = (kn : Int)) := by rw [hk]; rfl
      rw [e]; rfl
  · have hlt := ilt_false.1 hlt
    simp only [llen] at hlt
    refine Does.val ?_
    have : zs.take j = zs := List.take_of_length_le (by omega)
    rw [this]
    exact h

theorem used_l12 (d : DDisk) (v1 : DBlob) (s k : Int) (l : List DBlob) (n k2 : Int) (kn : Nat) (hk : k = (kn : Int)) (zs : List DBlob) (hz : zs.length ≤ 4611686018427387904) {R : Type} (Q : R → Prop) (b0 : Bool)
    (kk : Vars f_spec_l1Used_l12c → Oc f_spec_l1Used_l12e → Option R) (h : Does (kk ((s, (k, (l, (n, (k2, (zs, (llen zs, ()))))))), (d, (v1, ()))) ((b0 || namedB zs kn, ()), ())) Q) :
    Does (loopF (c := f_spec_l1Used_l12c) (v := f_spec_l1Used_l12v) (ex := f_spec_l1Used_l12e) f_spec_l1Used_l12 R ((s, (k, (l, (n, (k2, (zs, (llen zs, ()))))))), (d, (v1, ()))) ((b0, ((0 : Int), ())), ()) kk) Q := by
  refine Does.loop (c := f_spec_l1Used_l12c) (v := f_spec_l1Used_l12v) (ex := f_spec_l1Used_l12e)
    (fun (xc : (Int × Int × (List DBlob) × Int × Int × (List DBlob) × Int × Unit) × (DDisk × DBlob × Unit)) (xv : (Bool × Int × Unit) × Unit) => xc = ((s, (k, (l, (n, (k2, (zs, (llen zs, ()))))))), (d, (v1, ()))) ∧ ∃ j : Nat, xv = (((b0 || namedB (zs.take j) kn), ((j : Int), ())), ()) ∧ j ≤ zs.length)
    (fun _ (xv : (Bool × Int × Unit) × Unit) => zs.length - Int.toNat xv.1.2.1) ?_ ⟨rfl, 0, by simp [namedB], by omega⟩
  rintro xc xv ⟨rfl, j, rfl, hj⟩
  simp only [round, f_spec_l1Used_l12]
  refine Does.cond (fun hlt => ?_) (fun hlt => ?_)
  · have hlt := ilt_iff.1 hlt
    simp only [llen] at hlt
    refine Does.getO (by omega) (by omega) fun x hx => ?_
    rw [Int.toNat_natCast] at hx
    have hlt' : j < zs.length := by omega
    have et : namedB (zs.take (j + 1)) kn = (namedB (zs.take j) kn || decide (x.2.1 = (kn : Int))) := by
      rw [List.take_add_one, namedB_app, hx]
      simp [namedB]
    rw [iadd_i64 (by omega)]
    refine Does.cond (fun h1 => Does.val ⟨⟨rfl, j + 1, ?_, by omega⟩, by dsimp only; omega⟩) (fun h1 => Does.val ⟨⟨rfl, j + 1, ?_, by omega⟩, by dsimp only; omega⟩)
    · have h1 : (b0 || namedB (zs.take j) kn) = true := h1
      rw [et, ← Bool.or_assoc, h1, Bool.true_or]; rfl
    · have h1 : (b0 || namedB (zs.take j) kn) = false := h1
      rw [et, ← Bool.or_assoc, h1, Bool.false_or]
      have e : ieq x.2.1 k = decide (x.2.1 = (kn : Int)) := by rw [hk]; rfl
      rw [e]; rfl
  · have hlt := ilt_false.1 hlt
    simp only [llen] at hlt
    refine Does.val ?_
    have : zs.take j = zs := List.take_of_length_le (by omega)
    rw [this]
    exact h

theorem usedP_take (Q : Nat → Bool) : ∀ (l : List DBlob) (k j : Nat) (x : DBlob), l[j]? = some x → usedP Q (l.take (j + 1)) k = usedP Q (l.take j) k + cond (Q (k + j)) x.1.size 0
  | [], _, _, _, h => by simp at h
  | b :: r, k, 0, x, h => by simp at h; subst h; simp [usedP]
  | b :: r, k, j + 1, x, h => by
    have := usedP_take Q r (k + 1) j x (by simpa using h)
    simp only [List.take_succ_cons, usedP]
    rw [this, show k + 1 + j = k + (j + 1) by omega]
    omega

theorem f_spec_l1UsedVal (d : DDisk) (h1 : BlobsOk d.1) (h2 : d.1.length ≤ 60) (h3 : d.2.1.length ≤ 20) (h4 : d.2.2.1.length ≤ 20) : f_spec_l1Used (d, ()) = some ((((usedN d : Nat) : Int), ()), ()) := by
  refine Does.is ?_
  have hle : ∀ j, usedP (namedB (d.2.1 ++ d.2.2.1)) (d.1.take j) 0 ≤ 240000 := fun j => by
    have := usedP_le (namedB (d.2.1 ++ d.2.2.1)) (d.1.take j) 0 4000 fun x hx => h1.le x (List.mem_of_mem_take hx)
    have h : (d.1.take j).length * 4000 ≤ 60 * 4000 := Nat.mul_le_mul_right _ (by rw [List.length_take]; omega)
    omega
  unfold f_spec_l1Used
  refine Does.loop (c := f_spec_l1Used_l3c) (v := f_spec_l1Used_l3v) (ex := f_spec_l1Used_l3e)
    (fun (xc : Unit × Unit) (xv : (Int × (List DBlob) × Int × Int × Unit) × (DDisk × Unit)) => ∃ j : Nat, xv = ((((usedP (namedB (d.2.1 ++ d.2.2.1)) (d.1.take j) 0 : Nat) : Int), (d.1, (llen d.1, ((j : Int), ())))), (d, ())) ∧ j ≤ d.1.length)
    (fun _ (xv : (Int × (List DBlob) × Int × Int × Unit) × (DDisk × Unit)) => d.1.length - Int.toNat xv.1.2.2.2.1) ?_ ⟨0, rfl, by omega⟩
  rintro xc xv ⟨j, rfl, hj⟩
  simp only [round, f_spec_l1Used_l3]
  refine Does.cond (fun hlt => ?_) (fun hlt => ?_)
  · have hlt := ilt_iff.1 hlt
    simp only [llen] at hlt
    refine Does.getO (by omega) (by omega) fun x hx => ?_
    rw [Int.toNat_natCast] at hx
    refine used_l7 d x _ _ _ _ _ j rfl d.2.1 (by omega) _ false _ ?_
    refine used_l12 d x _ _ _ _ _ j rfl d.2.2.1 (by omega) _ _ _ ?_
    rw [Bool.false_or, ← namedB_app]
    unfold f_spec_l1Used_i17
    have hj1 := hle (j + 1)
    rw [usedP_take _ d.1 0 j x hx, Nat.zero_add] at hj1
    have hx2 := h1.le x (List.mem_of_getElem? hx)
    have hj0 := hle j
    refine Does.cond (fun h => Does.val ?_) (fun h => Does.val ?_)
    · have h : namedB (d.2.1 ++ d.2.2.1) j = true := h
      dsimp only
      refine ⟨⟨j + 1, ?_, by omega⟩, by rw [iadd_i64 (by omega)]; omega⟩
      rw [usedP_take _ d.1 0 j x hx, Nat.zero_add, h, cond_true, iadd_i64 (by simp only [slen]; omega), iadd_i64 (by omega)]
      simp only [slen]
      rfl
    · have h : namedB (d.2.1 ++ d.2.2.1) j = false := h
      dsimp only
      refine ⟨⟨j + 1, ?_, by omega⟩, by rw [iadd_i64 (by omega)]; omega⟩
      rw [usedP_take _ d.1 0 j x hx, Nat.zero_add, h, cond_false, Nat.add_zero, iadd_i64 (by omega)]
      rfl
  · have hlt := ilt_false.1 hlt
    simp only [llen] at hlt
    refine Does.val (Does.val ?_)
    dsimp only
    rw [show d.1.take j = d.1 from List.take_of_length_le (by omega)]
    rfl

end Go.Proofs.YthlnjkcpdkjipaaDoor
