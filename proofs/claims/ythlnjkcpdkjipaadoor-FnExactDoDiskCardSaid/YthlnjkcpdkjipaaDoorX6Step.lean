/- Disks: a step of the program's; what both do. -/
import Derived.Test.YthlnjkcpdkjipaaDoorX5Step
set_option linter.all false
set_option maxRecDepth 100000
noncomputable section
namespace Go.Proofs.YthlnjkcpdkjipaaDoor
open Go Go.Proofs.YthlnjkcpdkjipaaDoor.Ev

theorem ile_nat (n : Nat) : ile (0 : Int) (n : Int) = true := ile_iff.2 (by omega)
theorem ilt_nat (n : Nat) : ilt (n : Int) (0 : Int) = false := ilt_false.2 (by omega)
theorem ile_neg : ile (0 : Int) (-1) = false := rfl
theorem ilt_neg : ilt (-1 : Int) (0 : Int) = true := rfl

theorem less_tri : ∀ (a b : List UInt8), a = b ∨ Op.bytesLess a b = true ∨ Op.bytesLess b a = true
  | [], [] => .inl rfl
  | [], _ :: _ => .inr (.inl (by simp [Op.bytesLess]))
  | _ :: _, [] => .inr (.inr (by simp [Op.bytesLess]))
  | x :: a, y :: b => by
    simp only [Op.bytesLess, Bool.or_eq_true, decide_eq_true_eq, Bool.and_eq_true, beq_iff_eq]
    rcases Classical.em (x = y) with h | h
    · subst h
      rcases less_tri a b with h | h | h
      · exact .inl (by rw [h])
      · exact .inr (.inl (.inr ⟨rfl, h⟩))
      · exact .inr (.inr (.inr ⟨rfl, h⟩))
    · rcases UInt8.lt_or_lt_of_ne h with h | h
      · exact .inr (.inl (.inl h))
      · exact .inr (.inr (.inl h))

/-! ### lists that rise -/
theorem rise_app {A B : List DBlob} : Rise (A ++ B) ↔ Rise A ∧ Rise B ∧ ∀ x ∈ A, ∀ y ∈ B, slt x.1 y.1 = true := by
  induction A with
  | nil => simp [Rise]
  | cons a A ih =>
    simp only [List.cons_append, Rise, List.mem_append, ih]
    constructor
    · rintro ⟨h1, h2, h3, h4⟩
      refine ⟨⟨fun y hy => h1 y (.inl hy), h2⟩, h3, fun x hx y hy => ?_⟩
      rcases List.mem_cons.1 hx with rfl | hx
      · exact h1 y (.inr hy)
      · exact h4 x hx y hy
    · rintro ⟨⟨h1, h2⟩, h3, h4⟩
      exact ⟨fun y hy => hy.elim (h1 y) (h4 a List.mem_cons_self y), h2, h3, fun x hx y hy => h4 x (List.mem_cons_of_mem _ hx) y hy⟩
theorem slt_tri (a b : ByteArray) : a = b ∨ slt a b = true ∨ slt b a = true := by
  rcases less_tri a.toList b.toList with h | h | h
  · exact .inl ((seq_iff a b).1 (by simp [seq, h]))
  · exact .inr (.inl h)
  · exact .inr (.inr h)
/-- behind the place of a name stand greater ones, itself aside -/
theorem hi_gt {l : List DBlob} (hr : Rise l) {n : ByteArray} : ∀ y ∈ hiN l n, y.1 = n ∨ slt n y.1 = true := by
  have h2 : Rise (hiN l n) := by rw [← lohi l n] at hr; exact (rise_app.1 hr).2.1
  intro y hy
  cases hh : hiN l n with
  | nil => rw [hh] at hy; cases hy
  | cons z r =>
    have hz := hi_head hh
    rw [hh] at hy h2
    have hz2 : z.1 = n ∨ slt n z.1 = true := by
      rcases slt_tri z.1 n with h | h | h
      · exact .inl h
      · rw [h] at hz; cases hz
      · exact .inr h
    rcases List.mem_cons.1 hy with rfl | hy
    · exact hz2
    · rcases hz2 with h | h
      · exact .inr (h ▸ h2.1 y hy)
      · exact .inr (slt_trans h (h2.1 y hy))
theorem tail_gt {l : List DBlob} (hr : Rise l) {n : ByteArray} (hh : hasN l n = true) : ∀ y ∈ (hiN l n).tail, slt n y.1 = true := by
  obtain ⟨y, r, h1, h2, h3⟩ := hasN_split hh
  have h4 : Rise (hiN l n) := by rw [← lohi l n] at hr; exact (rise_app.1 hr).2.1
  rw [h1] at h4 ⊢
  intro z hz
  exact h2 ▸ h4.1 z hz
theorem nohas_gt {l : List DBlob} (hr : Rise l) {n : ByteArray} (hh : hasN l n = false) : ∀ y ∈ hiN l n, slt n y.1 = true := by
  intro y hy
  rcases hi_gt hr y hy with h | h
  · cases hq : hiN l n with
    | nil => rw [hq] at hy; cases hy
    | cons z r =>
      have h4 : Rise (hiN l n) := by rw [← lohi l n] at hr; exact (rise_app.1 hr).2.1
      unfold hasN at hh
      rw [hq] at hh hy h4
      dsimp only at hh
      rcases List.mem_cons.1 hy with rfl | hy
      · rw [(seq_iff _ _).2 h] at hh; cases hh
      · have h5 := h4.1 y hy
        have h6 := hi_head hq
        rw [h] at h5
        rw [h5] at h6; cases h6
  · exact h
/-- the members of a put and of a cut -/
theorem putN_iff {l : List DBlob} (hr : Rise l) {x y : DBlob} : y ∈ putN l x ↔ y = x ∨ (y ∈ l ∧ y.1 ≠ x.1) := by
  have ne_of_lt : ∀ {a b : ByteArray}, slt a b = true → a ≠ b := fun h e => by rw [e, slt_irrefl] at h; cases h
  constructor
  · intro h
    unfold putN at h
    have hl := lohi l x.1
    rcases List.mem_append.1 h with h | h
    · exact .inr ⟨by rw [← hl]; exact List.mem_append_left _ h, ne_of_lt (lo_lt y h)⟩
    · rcases List.mem_cons.1 h with h | h
      · exact .inl h
      · refine .inr ?_
        cases hh : hasN l x.1 with
        | true =>
          rw [hh, cond_true] at h
          exact ⟨by rw [← hl]; exact List.mem_append_right _ (List.mem_of_mem_tail h), fun e => ne_of_lt (tail_gt hr hh y h) e.symm⟩
        | false =>
          rw [hh, cond_false] at h
          exact ⟨by rw [← hl]; exact List.mem_append_right _ h, fun e => ne_of_lt (nohas_gt hr hh y h) e.symm⟩
  · rintro (h | ⟨h, hne⟩)
    · unfold putN; rw [h]; simp
    · rw [← lohi l x.1] at h
      unfold putN
      rcases List.mem_append.1 h with h | h
      · exact List.mem_append_left _ h
      · refine List.mem_append_right _ (List.mem_cons_of_mem _ ?_)
        cases hh : hasN l x.1 with
        | false => exact h
        | true =>
          obtain ⟨z, r, h1, h2, _⟩ := hasN_split hh
          rw [cond_true, h1]
          rw [h1] at h
          rcases List.mem_cons.1 h with h | h
          · rw [h] at hne; exact absurd h2 hne
          · exact h
theorem cutN_iff {l : List DBlob} (hr : Rise l) {n : ByteArray} {y : DBlob} : y ∈ cutN l n ↔ y ∈ l ∧ y.1 ≠ n := by
  have ne_of_lt : ∀ {a b : ByteArray}, slt a b = true → a ≠ b := fun h e => by rw [e, slt_irrefl] at h; cases h
  unfold cutN
  cases hh : hasN l n with
  | false =>
    rw [cond_false]
    refine ⟨fun h => ⟨h, ?_⟩, fun h => h.1⟩
    rw [← lohi l n] at h
    rcases List.mem_append.1 h with h | h
    · exact ne_of_lt (lo_lt y h)
    · exact fun e => ne_of_lt (nohas_gt hr hh y h) e.symm
  | true =>
    obtain ⟨z, r, h1, h2, h3⟩ := hasN_split hh
    rw [cond_true]
    constructor
    · intro h
      rcases List.mem_append.1 h with h | h
      · exact ⟨by rw [← lohi l n]; exact List.mem_append_left _ h, ne_of_lt (lo_lt y h)⟩
      · exact ⟨by rw [← lohi l n]; exact List.mem_append_right _ (List.mem_of_mem_tail h), fun e => ne_of_lt (tail_gt hr hh y h) e.symm⟩
    · rintro ⟨h, hne⟩
      rw [← lohi l n] at h
      rcases List.mem_append.1 h with h | h
      · exact List.mem_append_left _ h
      · refine List.mem_append_right _ ?_
        rw [h1] at h ⊢
        rcases List.mem_cons.1 h with h | h
        · rw [h] at hne; exact absurd h2 hne
        · exact h
theorem putN_rise {l : List DBlob} (hr : Rise l) (x : DBlob) : Rise (putN l x) := by
  unfold putN
  have h := hr
  rw [← lohi l x.1] at h
  obtain ⟨h1, h2, h3⟩ := rise_app.1 h
  have key : ∀ H : List DBlob, Rise H → (∀ y ∈ H, slt x.1 y.1 = true) → Rise (loN l x.1 ++ x :: H) := fun H hH hg => rise_app.2 ⟨h1, ⟨hg, hH⟩, fun a ha b hb => by
    rcases List.mem_cons.1 hb with rfl | hb
    · exact lo_lt a ha
    · exact slt_trans (lo_lt a ha) (hg b hb)⟩
  cases hh : hasN l x.1 with
  | false => exact key _ h2 (nohas_gt hr hh)
  | true =>
    refine key _ ?_ (tail_gt hr hh)
    cases hq : hiN l x.1 with
    | nil => trivial
    | cons z r => rw [hq] at h2; exact h2.2
theorem cutN_rise {l : List DBlob} (hr : Rise l) (n : ByteArray) : Rise (cutN l n) := by
  unfold cutN
  cases hh : hasN l n with
  | false => exact hr
  | true =>
    have h := hr
    rw [← lohi l n] at h
    obtain ⟨h1, h2, h3⟩ := rise_app.1 h
    rw [cond_true]
    refine rise_app.2 ⟨h1, ?_, fun a ha b hb => slt_trans (lo_lt a ha) (tail_gt hr hh b hb)⟩
    cases hq : hiN l n with
    | nil => trivial
    | cons z r => rw [hq] at h2; exact h2.2
/-- lists that rise and have the same members -/
theorem rise_ext : ∀ {A B : List DBlob}, Rise A → Rise B → (∀ y, y ∈ A ↔ y ∈ B) → A = B
  | [], [], _, _, _ => rfl
  | [], b :: B, _, _, h => absurd ((h b).2 List.mem_cons_self) (by simp)
  | a :: A, [], _, _, h => absurd ((h a).1 List.mem_cons_self) (by simp)
  | a :: A, b :: B, hA, hB, h => by
    have hab : a = b := by
      rcases List.mem_cons.1 ((h a).1 List.mem_cons_self) with e | h1
      · exact e
      · rcases List.mem_cons.1 ((h b).2 List.mem_cons_self) with e | h2
        · exact e.symm
        · have := slt_trans (hB.1 a h1) (hA.1 b h2)
          rw [slt_irrefl] at this; cases this
    subst hab
    have nin : ∀ {L : List DBlob}, (∀ y ∈ L, slt a.1 y.1 = true) → a ∉ L := fun hL hm => by have := hL a hm; rw [slt_irrefl] at this; cases this
    rw [rise_ext hA.2 hB.2 fun y => ?_]
    constructor
    · intro hy
      rcases List.mem_cons.1 ((h y).1 (List.mem_cons_of_mem _ hy)) with e | h1
      · rw [e] at hy; exact absurd hy (nin hA.1)
      · exact h1
    · intro hy
      rcases List.mem_cons.1 ((h y).2 (List.mem_cons_of_mem _ hy)) with e | h1
      · rw [e] at hy; exact absurd hy (nin hB.1)
      · exact h1
theorem hasN_iff {l : List DBlob} (hr : Rise l) {n : ByteArray} : hasN l n = true ↔ ∃ y ∈ l, y.1 = n := by
  constructor
  · intro h
    obtain ⟨y, r, h1, h2, h3⟩ := hasN_split h
    exact ⟨y, by rw [h3]; simp, h2⟩
  · rintro ⟨y, hy, hn⟩
    cases hh : hasN l n with
    | true => rfl
    | false =>
      have := (cutN_iff hr (n := n)).1 (by unfold cutN; rw [hh, cond_false]; exact hy)
      exact absurd hn this.2
theorem blobN_of {l : List DBlob} (hr : Rise l) {y : DBlob} (hy : y ∈ l) : blobN l y.1 = y.2.1 := by
  obtain ⟨z, r, h1, h2, h3⟩ := hasN_split ((hasN_iff hr).2 ⟨y, hy, rfl⟩)
  have : z = y := by
    rw [← lohi l y.1] at hy
    rcases List.mem_append.1 hy with hy | hy
    · have := lo_lt y hy; rw [slt_irrefl] at this; cases this
    · rw [h1] at hy
      rcases List.mem_cons.1 hy with hy | hy
      · exact hy.symm
      · have := tail_gt hr ((hasN_iff hr).2 ⟨y, by rw [h3]; simp [hy], rfl⟩) y (by rw [h1]; exact hy)
        rw [slt_irrefl] at this; cases this
  unfold blobN
  rw [h1, this]

/-! ### the program's step -/
theorem do_i4 {R : Type} (d : DDisk) (s : DDiskStep) (n : ByteArray) (kk) : ∃ v, (hasN d.2.1 n = true → v = blobN d.2.1 n) ∧
    f_impl_Disk_do_i4 R (((cond (hasN d.2.1 n) ((loN d.2.1 n).length : Int) (-1)), ((ile (0 : Int) (cond (hasN d.2.1 n) ((loN d.2.1 n).length : Int) (-1))), ())), (d, (s, ()))) (((-1 : Int), ()), ()) kk =
      kk (((cond (hasN d.2.1 n) ((loN d.2.1 n).length : Int) (-1)), ((ile (0 : Int) (cond (hasN d.2.1 n) ((loN d.2.1 n).length : Int) (-1))), ())), (d, (s, ()))) ((v, ()), ()) := by
  unfold f_impl_Disk_do_i4
  dsimp only
  cases h : hasN d.2.1 n with
  | false => exact ⟨-1, (fun h => by cases h), rfl⟩
  | true =>
    obtain ⟨y, h1, h2⟩ := hasN_get h
    refine ⟨blobN d.2.1 n, fun _ => rfl, ?_⟩
    rw [cond_true, ile_nat, cond_true, getO_at (by omega) (by rw [Int.toNat_natCast]; exact h1), Int.toNat_natCast, h1, bnd_some, bnd_some, h2]
theorem fault_parts {d : DDisk} {s : DDiskStep} (hf : faultD d s = 0) : ((inR s.1 1 6 && !nameB s.2.1) = false ∧ ilt 4000 (slen s.2.2.2.1) = false ∧ (ieq s.1 8 && !inR s.2.2.2.2.1 0 4000) = false) ∧ (inR s.1 1 6 && (!ieq s.1 1 && !hasN d.2.1 s.2.1)) = false := by
  unfold faultD at hf
  cases h1 : (!(inR s.1 1 8) || ((inR s.1 1 6 && !nameB s.2.1) || (((ieq s.1 4 || ieq s.1 5) && !nameB s.2.2.1) || (ilt 4000 (slen s.2.2.2.1) || (ieq s.1 8 && !inR s.2.2.2.2.1 0 4000))))) with
  | true => rw [h1, cond_true] at hf; cases hf
  | false =>
    rw [h1, cond_false] at hf
    simp only [Bool.or_eq_false_iff] at h1
    refine ⟨⟨h1.2.1, h1.2.2.2.1, h1.2.2.2.2⟩, ?_⟩
    cases h2 : (inR s.1 1 6 && (!ieq s.1 1 && !hasN d.2.1 s.2.1)) with
    | true => rw [h2, cond_true] at hf; cases hf
    | false => rfl
theorem fault_has {d : DDisk} {s : DDiskStep} (hf : faultD d s = 0) (h1 : inR s.1 1 6 = true) (h2 : ieq s.1 1 = false) : hasN d.2.1 s.2.1 = true := by
  have := (fault_parts hf).2
  rw [h1, h2] at this
  simpa using this
theorem fault_size {d : DDisk} {s : DDiskStep} (hf : faultD d s = 0) : slen s.2.2.2.1 ≤ 4000 := ilt_false.1 (fault_parts hf).1.2.1
theorem fault_keep {d : DDisk} {nm ot dt : ByteArray} {kp : Int} (hf : faultD d (8, (nm, (ot, (dt, (kp, ()))))) = 0) : inR kp 0 4000 = true := by
  have := (fault_parts hf).1.2.2
  rw [show ieq (8 : Int) 8 = true from rfl] at this
  simpa using this

/-- a name put and another cut, in either order -/
theorem put_cut {l : List DBlob} (hr : Rise l) {n : ByteArray} {x : DBlob} (hne : x.1 ≠ n) : cutN (putN l x) n = putN (cutN l n) x := by
  refine rise_ext (cutN_rise (putN_rise hr x) n) (putN_rise (cutN_rise hr n) x) fun y => ?_
  rw [cutN_iff (putN_rise hr x), putN_iff hr, putN_iff (cutN_rise hr n), cutN_iff hr]
  constructor
  · rintro ⟨h | ⟨h1, h2⟩, h3⟩
    · exact .inl h
    · exact .inr ⟨⟨h1, h3⟩, h2⟩
  · rintro (h | ⟨⟨h1, h3⟩, h2⟩)
    · exact ⟨.inl h, by rw [h]; exact hne⟩
    · exact ⟨.inr ⟨h1, h2⟩, h3⟩
/-- a name cut and put again -/
theorem put_same {l : List DBlob} (hr : Rise l) {n : ByteArray} (hh : hasN l n = true) : putN (cutN l n) (n, (blobN l n, ())) = l := by
  refine rise_ext (putN_rise (cutN_rise hr n) _) hr fun y => ?_
  rw [putN_iff (cutN_rise hr n), cutN_iff hr]
  obtain ⟨z, r, h1, h2, h3⟩ := hasN_split hh
  have hz : z ∈ l := by rw [h3]; simp
  have hb : blobN l n = z.2.1 := by unfold blobN; rw [h1]
  constructor
  · rintro (h | ⟨⟨h1, _⟩, _⟩)
    · rw [h, hb, ← h2]; exact hz
    · exact h1
  · intro hy
    by_cases hn : y.1 = n
    · refine .inl ?_
      have := blobN_of hr hy
      rw [hn] at this
      rw [this, ← hn]
    · exact .inr ⟨⟨hy, hn⟩, hn⟩

theorem ren_both {R : Type} {d : DDisk} {nm ot dt : ByteArray} {kp : Int} {h : GoodD d} {h3 : hasN d.2.1 nm = true} {c : Int} {kk : (Int × Bool × Unit) × (DDiskStep × Unit) → Unit × (DDisk × Unit) → Option R} :
    f_impl_Disk_do_i15 R ((blobN d.2.1 nm, ((!seq nm ot), ())), ((c, (nm, (ot, (dt, (kp, ()))))), ())) ((), (d, ())) kk =
      kk ((blobN d.2.1 nm, ((!seq nm ot), ())), ((c, (nm, (ot, (dt, (kp, ()))))), ())) ((), ((d.1, (putN (cutN d.2.1 nm) (ot, (blobN d.2.1 nm, ())), d.2.2)), ())) := by
  have hn := h.2.2.1.2
  have hr := h.2.2.1.rise
  unfold f_impl_Disk_do_i15
  dsimp only
  cases hs : seq nm ot with
  | true =>
    obtain rfl := (seq_iff _ _).1 hs
    rw [put_same hr h3]
    rfl
  | false =>
    rw [Bool.not_false, cond_true, f_impl_meanVal d ot _ (show d.2.1.length ≤ _ by omega) hr, bnd_some]
    dsimp only
    rw [f_impl_forgetVal _ nm (by have := putN_len d.2.1 (ot, (blobN d.2.1 nm, ())); dsimp only; omega) (putN_rise hr _) ?_, bnd_some]
    · dsimp only
      rw [put_cut hr (fun e => seq_false.1 hs e.symm)]
    · obtain ⟨y, hy, he⟩ := (hasN_iff hr).1 h3
      exact (hasN_iff (putN_rise hr _)).2 ⟨y, (putN_iff hr).2 (.inr ⟨hy, fun e => seq_false.1 hs (he.symm.trans e)⟩), he⟩

theorem stepFault_1 (d : DDisk) (nm ot dt : ByteArray) (kp : Int) (h : GoodD d) :
    f_impl_Disk_stepFault_r (d, ((1, (nm, (ot, (dt, (kp, ()))))), ())) = some ((faultD d (1, (nm, (ot, (dt, (kp, ()))))), ()), ()) := by
  have k18 : inR 1 1 8 = true := by decide
  have k16 : inR 1 1 6 = true := by decide
  have e1 : ieq (1 : Int) 1 = true := by decide
  have e2 : ieq (1 : Int) 2 = false := by decide
  have e3 : ieq (1 : Int) 3 = false := by decide
  have e4 : ieq (1 : Int) 4 = false := by decide
  have e5 : ieq (1 : Int) 5 = false := by decide
  have e6 : ieq (1 : Int) 6 = false := by decide
  have e7 : ieq (1 : Int) 7 = false := by decide
  have e8 : ieq (1 : Int) 8 = false := by decide
  have hn := h.2.2.1.2
  have hr := h.2.2.1.rise
  rw [f_impl_Disk_stepFault_r_k1 _ rfl]
  simp only [val_f_impl_in, bnd_some, k16, k18, Bool.not_true, cond_true, cond_false, f_impl_isFileNameVal, f_impl_nameAtVal d.2.1 nm (show d.2.1.length ≤ _ by omega) hr, f_impl_nameAtVal d.2.1 ot (show d.2.1.length ≤ _ by omega) hr]
  unfold faultD
  simp only [k16, k18, e1, e4, e5, e8, Bool.not_true, Bool.not_false, Bool.false_or, Bool.true_or, Bool.or_false, Bool.true_and, Bool.false_and]
  cases ilt 4000 (slen dt) <;> cases nameB nm <;> cases hasN d.2.1 nm <;> simp only [Bool.not_true, Bool.not_false, cond_true, cond_false, ile_nat, ilt_nat, ile_neg, ilt_neg, Bool.false_or, Bool.true_or, Bool.or_false, Bool.or_true, Bool.true_and, Bool.false_and, Bool.and_true, Bool.and_false]

theorem stepFault_2 (d : DDisk) (nm ot dt : ByteArray) (kp : Int) (h : GoodD d) :
    f_impl_Disk_stepFault_r (d, ((2, (nm, (ot, (dt, (kp, ()))))), ())) = some ((faultD d (2, (nm, (ot, (dt, (kp, ()))))), ()), ()) := by
  have k18 : inR 2 1 8 = true := by decide
  have k16 : inR 2 1 6 = true := by decide
  have e1 : ieq (2 : Int) 1 = false := by decide
  have e2 : ieq (2 : Int) 2 = true := by decide
  have e3 : ieq (2 : Int) 3 = false := by decide
  have e4 : ieq (2 : Int) 4 = false := by decide
  have e5 : ieq (2 : Int) 5 = false := by decide
  have e6 : ieq (2 : Int) 6 = false := by decide
  have e7 : ieq (2 : Int) 7 = false := by decide
  have e8 : ieq (2 : Int) 8 = false := by decide
  have hn := h.2.2.1.2
  have hr := h.2.2.1.rise
  rw [f_impl_Disk_stepFault_r_k2 _ rfl]
  simp only [val_f_impl_in, bnd_some, k16, k18, Bool.not_true, cond_true, cond_false, f_impl_isFileNameVal, f_impl_nameAtVal d.2.1 nm (show d.2.1.length ≤ _ by omega) hr, f_impl_nameAtVal d.2.1 ot (show d.2.1.length ≤ _ by omega) hr]
  unfold faultD
  simp only [k16, k18, e1, e4, e5, e8, Bool.not_true, Bool.not_false, Bool.false_or, Bool.true_or, Bool.or_false, Bool.true_and, Bool.false_and]
  cases ilt 4000 (slen dt) <;> cases nameB nm <;> cases hasN d.2.1 nm <;> simp only [Bool.not_true, Bool.not_false, cond_true, cond_false, ile_nat, ilt_nat, ile_neg, ilt_neg, Bool.false_or, Bool.true_or, Bool.or_false, Bool.or_true, Bool.true_and, Bool.false_and, Bool.and_true, Bool.and_false]

theorem stepFault_3 (d : DDisk) (nm ot dt : ByteArray) (kp : Int) (h : GoodD d) :
    f_impl_Disk_stepFault_r (d, ((3, (nm, (ot, (dt, (kp, ()))))), ())) = some ((faultD d (3, (nm, (ot, (dt, (kp, ()))))), ()), ()) := by
  have k18 : inR 3 1 8 = true := by decide
  have k16 : inR 3 1 6 = true := by decide
  have e1 : ieq (3 : Int) 1 = false := by decide
  have e2 : ieq (3 : Int) 2 = false := by decide
  have e3 : ieq (3 : Int) 3 = true := by decide
  have e4 : ieq (3 : Int) 4 = false := by decide
  have e5 : ieq (3 : Int) 5 = false := by decide
  have e6 : ieq (3 : Int) 6 = false := by decide
  have e7 : ieq (3 : Int) 7 = false := by decide
  have e8 : ieq (3 : Int) 8 = false := by decide
  have hn := h.2.2.1.2
  have hr := h.2.2.1.rise
  rw [f_impl_Disk_stepFault_r_k3 _ rfl]
  simp only [val_f_impl_in, bnd_some, k16, k18, Bool.not_true, cond_true, cond_false, f_impl_isFileNameVal, f_impl_nameAtVal d.2.1 nm (show d.2.1.length ≤ _ by omega) hr, f_impl_nameAtVal d.2.1 ot (show d.2.1.length ≤ _ by omega) hr]
  unfold faultD
  simp only [k16, k18, e1, e4, e5, e8, Bool.not_true, Bool.not_false, Bool.false_or, Bool.true_or, Bool.or_false, Bool.true_and, Bool.false_and]
  cases ilt 4000 (slen dt) <;> cases nameB nm <;> cases hasN d.2.1 nm <;> simp only [Bool.not_true, Bool.not_false, cond_true, cond_false, ile_nat, ilt_nat, ile_neg, ilt_neg, Bool.false_or, Bool.true_or, Bool.or_false, Bool.or_true, Bool.true_and, Bool.false_and, Bool.and_true, Bool.and_false]

theorem stepFault_4 (d : DDisk) (nm ot dt : ByteArray) (kp : Int) (h : GoodD d) :
    f_impl_Disk_stepFault_r (d, ((4, (nm, (ot, (dt, (kp, ()))))), ())) = some ((faultD d (4, (nm, (ot, (dt, (kp, ()))))), ()), ()) := by
  have k18 : inR 4 1 8 = true := by decide
  have k16 : inR 4 1 6 = true := by decide
  have e1 : ieq (4 : Int) 1 = false := by decide
  have e2 : ieq (4 : Int) 2 = false := by decide
  have e3 : ieq (4 : Int) 3 = false := by decide
  have e4 : ieq (4 : Int) 4 = true := by decide
  have e5 : ieq (4 : Int) 5 = false := by decide
  have e6 : ieq (4 : Int) 6 = false := by decide
  have e7 : ieq (4 : Int) 7 = false := by decide
  have e8 : ieq (4 : Int) 8 = false := by decide
  have hn := h.2.2.1.2
  have hr := h.2.2.1.rise
  rw [f_impl_Disk_stepFault_r_k4 _ rfl]
  simp only [val_f_impl_in, bnd_some, k16, k18, Bool.not_true, cond_true, cond_false, f_impl_isFileNameVal, f_impl_nameAtVal d.2.1 nm (show d.2.1.length ≤ _ by omega) hr, f_impl_nameAtVal d.2.1 ot (show d.2.1.length ≤ _ by omega) hr]
  unfold faultD
  simp only [k16, k18, e1, e4, e5, e8, Bool.not_true, Bool.not_false, Bool.false_or, Bool.true_or, Bool.or_false, Bool.true_and, Bool.false_and]
  cases ilt 4000 (slen dt) <;> cases nameB nm <;> cases nameB ot <;> cases hasN d.2.1 nm <;> simp only [Bool.not_true, Bool.not_false, cond_true, cond_false, ile_nat, ilt_nat, ile_neg, ilt_neg, Bool.false_or, Bool.true_or, Bool.or_false, Bool.or_true, Bool.true_and, Bool.false_and, Bool.and_true, Bool.and_false]

theorem stepFault_5 (d : DDisk) (nm ot dt : ByteArray) (kp : Int) (h : GoodD d) :
    f_impl_Disk_stepFault_r (d, ((5, (nm, (ot, (dt, (kp, ()))))), ())) = some ((faultD d (5, (nm, (ot, (dt, (kp, ()))))), ()), ()) := by
  have k18 : inR 5 1 8 = true := by decide
  have k16 : inR 5 1 6 = true := by decide
  have e1 : ieq (5 : Int) 1 = false := by decide
  have e2 : ieq (5 : Int) 2 = false := by decide
  have e3 : ieq (5 : Int) 3 = false := by decide
  have e4 : ieq (5 : Int) 4 = false := by decide
  have e5 : ieq (5 : Int) 5 = true := by decide
  have e6 : ieq (5 : Int) 6 = false := by decide
  have e7 : ieq (5 : Int) 7 = false := by decide
  have e8 : ieq (5 : Int) 8 = false := by decide
  have hn := h.2.2.1.2
  have hr := h.2.2.1.rise
  rw [f_impl_Disk_stepFault_r_k5 _ rfl]
  simp only [val_f_impl_in, bnd_some, k16, k18, Bool.not_true, cond_true, cond_false, f_impl_isFileNameVal, f_impl_nameAtVal d.2.1 nm (show d.2.1.length ≤ _ by omega) hr, f_impl_nameAtVal d.2.1 ot (show d.2.1.length ≤ _ by omega) hr]
  unfold faultD
  simp only [k16, k18, e1, e4, e5, e8, Bool.not_true, Bool.not_false, Bool.false_or, Bool.true_or, Bool.or_false, Bool.true_and, Bool.false_and]
  cases ilt 4000 (slen dt) <;> cases nameB nm <;> cases nameB ot <;> cases hasN d.2.1 nm <;> cases hasN d.2.1 ot <;> simp only [Bool.not_true, Bool.not_false, cond_true, cond_false, ile_nat, ilt_nat, ile_neg, ilt_neg, Bool.false_or, Bool.true_or, Bool.or_false, Bool.or_true, Bool.true_and, Bool.false_and, Bool.and_true, Bool.and_false]

theorem stepFault_6 (d : DDisk) (nm ot dt : ByteArray) (kp : Int) (h : GoodD d) :
    f_impl_Disk_stepFault_r (d, ((6, (nm, (ot, (dt, (kp, ()))))), ())) = some ((faultD d (6, (nm, (ot, (dt, (kp, ()))))), ()), ()) := by
  have k18 : inR 6 1 8 = true := by decide
  have k16 : inR 6 1 6 = true := by decide
  have e1 : ieq (6 : Int) 1 = false := by decide
  have e2 : ieq (6 : Int) 2 = false := by decide
  have e3 : ieq (6 : Int) 3 = false := by decide
  have e4 : ieq (6 : Int) 4 = false := by decide
  have e5 : ieq (6 : Int) 5 = false := by decide
  have e6 : ieq (6 : Int) 6 = true := by decide
  have e7 : ieq (6 : Int) 7 = false := by decide
  have e8 : ieq (6 : Int) 8 = false := by decide
  have hn := h.2.2.1.2
  have hr := h.2.2.1.rise
  rw [f_impl_Disk_stepFault_r_k6 _ rfl]
  simp only [val_f_impl_in, bnd_some, k16, k18, Bool.not_true, cond_true, cond_false, f_impl_isFileNameVal, f_impl_nameAtVal d.2.1 nm (show d.2.1.length ≤ _ by omega) hr, f_impl_nameAtVal d.2.1 ot (show d.2.1.length ≤ _ by omega) hr]
  unfold faultD
  simp only [k16, k18, e1, e4, e5, e8, Bool.not_true, Bool.not_false, Bool.false_or, Bool.true_or, Bool.or_false, Bool.true_and, Bool.false_and]
  cases ilt 4000 (slen dt) <;> cases nameB nm <;> cases hasN d.2.1 nm <;> simp only [Bool.not_true, Bool.not_false, cond_true, cond_false, ile_nat, ilt_nat, ile_neg, ilt_neg, Bool.false_or, Bool.true_or, Bool.or_false, Bool.or_true, Bool.true_and, Bool.false_and, Bool.and_true, Bool.and_false]

theorem stepFault_7 (d : DDisk) (nm ot dt : ByteArray) (kp : Int) (h : GoodD d) :
    f_impl_Disk_stepFault_r (d, ((7, (nm, (ot, (dt, (kp, ()))))), ())) = some ((faultD d (7, (nm, (ot, (dt, (kp, ()))))), ()), ()) := by
  have k18 : inR 7 1 8 = true := by decide
  have k16 : inR 7 1 6 = false := by decide
  have e1 : ieq (7 : Int) 1 = false := by decide
  have e2 : ieq (7 : Int) 2 = false := by decide
  have e3 : ieq (7 : Int) 3 = false := by decide
  have e4 : ieq (7 : Int) 4 = false := by decide
  have e5 : ieq (7 : Int) 5 = false := by decide
  have e6 : ieq (7 : Int) 6 = false := by decide
  have e7 : ieq (7 : Int) 7 = true := by decide
  have e8 : ieq (7 : Int) 8 = false := by decide
  have hn := h.2.2.1.2
  have hr := h.2.2.1.rise
  rw [f_impl_Disk_stepFault_r_k7 _ rfl]
  simp only [val_f_impl_in, bnd_some, k16, k18, Bool.not_true, cond_true, cond_false, f_impl_isFileNameVal, f_impl_nameAtVal d.2.1 nm (show d.2.1.length ≤ _ by omega) hr, f_impl_nameAtVal d.2.1 ot (show d.2.1.length ≤ _ by omega) hr]
  unfold faultD
  simp only [k16, k18, e1, e4, e5, e8, Bool.not_true, Bool.not_false, Bool.false_or, Bool.true_or, Bool.or_false, Bool.true_and, Bool.false_and]
  cases ilt 4000 (slen dt) <;> simp only [Bool.not_true, Bool.not_false, cond_true, cond_false, ile_nat, ilt_nat, ile_neg, ilt_neg, Bool.false_or, Bool.true_or, Bool.or_false, Bool.or_true, Bool.true_and, Bool.false_and, Bool.and_true, Bool.and_false]

theorem stepFault_8 (d : DDisk) (nm ot dt : ByteArray) (kp : Int) (h : GoodD d) :
    f_impl_Disk_stepFault_r (d, ((8, (nm, (ot, (dt, (kp, ()))))), ())) = some ((faultD d (8, (nm, (ot, (dt, (kp, ()))))), ()), ()) := by
  have k18 : inR 8 1 8 = true := by decide
  have k16 : inR 8 1 6 = false := by decide
  have e1 : ieq (8 : Int) 1 = false := by decide
  have e2 : ieq (8 : Int) 2 = false := by decide
  have e3 : ieq (8 : Int) 3 = false := by decide
  have e4 : ieq (8 : Int) 4 = false := by decide
  have e5 : ieq (8 : Int) 5 = false := by decide
  have e6 : ieq (8 : Int) 6 = false := by decide
  have e7 : ieq (8 : Int) 7 = false := by decide
  have e8 : ieq (8 : Int) 8 = true := by decide
  have hn := h.2.2.1.2
  have hr := h.2.2.1.rise
  rw [f_impl_Disk_stepFault_r_k8 _ rfl]
  simp only [val_f_impl_in, bnd_some, k16, k18, Bool.not_true, cond_true, cond_false, f_impl_isFileNameVal, f_impl_nameAtVal d.2.1 nm (show d.2.1.length ≤ _ by omega) hr, f_impl_nameAtVal d.2.1 ot (show d.2.1.length ≤ _ by omega) hr]
  unfold faultD
  simp only [k16, k18, e1, e4, e5, e8, Bool.not_true, Bool.not_false, Bool.false_or, Bool.true_or, Bool.or_false, Bool.true_and, Bool.false_and]
  cases ilt 4000 (slen dt) <;> cases inR kp 0 4000 <;> simp only [Bool.not_true, Bool.not_false, cond_true, cond_false, ile_nat, ilt_nat, ile_neg, ilt_neg, Bool.false_or, Bool.true_or, Bool.or_false, Bool.or_true, Bool.true_and, Bool.false_and, Bool.and_true, Bool.and_false]

theorem do_1 (d : DDisk) (nm ot dt : ByteArray) (kp : Int) (h : GoodD d) (hf : faultD d (1, (nm, (ot, (dt, (kp, ()))))) = 0) :
    f_impl_Disk_do (d, ((1, (nm, (ot, (dt, (kp, ()))))), ())) = some ((), (stepD d (1, (nm, (ot, (dt, (kp, ()))))), ())) := by
  have k18 : inR 1 1 8 = true := by decide
  have k16 : inR 1 1 6 = true := by decide
  have e1 : ieq (1 : Int) 1 = true := by decide
  have e2 : ieq (1 : Int) 2 = false := by decide
  have e3 : ieq (1 : Int) 3 = false := by decide
  have e4 : ieq (1 : Int) 4 = false := by decide
  have e5 : ieq (1 : Int) 5 = false := by decide
  have e6 : ieq (1 : Int) 6 = false := by decide
  have e7 : ieq (1 : Int) 7 = false := by decide
  have e8 : ieq (1 : Int) 8 = false := by decide
  have hn := h.2.2.1.2
  have hb := h.2.1
  have hr := h.2.2.1.rise
  unfold f_impl_Disk_do
  rw [f_impl_nameAtVal d.2.1 nm (show d.2.1.length ≤ _ by omega) hr, bnd_some]
  dsimp only
  obtain ⟨v, hv, e⟩ := do_i4 (R := Unit × (DDisk × Unit)) d (1, (nm, (ot, (dt, (kp, ()))))) nm (fun c5 o6 => (f_impl_Disk_do_i7 _ ((), ()) ((o6.1.1, (c5.2.2.1.1, ((ieq c5.2.2.1.1 (1 : Int)), ()))), (c5.2.1, (c5.2.2.1, ()))) fun c10 o11 => (some ((), (o11.2.1, ())))))
  refine e.trans ?_
  simp only [f_impl_Disk_do_i7, f_impl_Disk_do_i10, f_impl_Disk_do_i12, f_impl_Disk_do_i14, f_impl_Disk_do_i18, f_impl_Disk_do_i20, f_impl_Disk_do_i22, f_impl_Disk_do_i24, e1, e2, e3, e4, e5, e6, e7, e8, cond_true, cond_false]
  rw [req_of _ (by simp; omega)]
  have e9 : isub .i64 (llen (d.1 ++ [newBlob])) (1 : Int) = (d.1.length : Int) := by
    simp only [llen, List.length_append, List.length_cons, List.length_nil]
    rw [isub_i64 (by omega)]; omega
  rw [e9, f_impl_meanVal (d.1 ++ [newBlob], d.2) nm (d.1.length : Int) (show d.2.1.length ≤ _ by omega) hr, bnd_some]
  simp only [stepD, e1, e2, e3, e4, e5, e6, e7, cond_true, cond_false]

theorem do_2 (d : DDisk) (nm ot dt : ByteArray) (kp : Int) (h : GoodD d) (hf : faultD d (2, (nm, (ot, (dt, (kp, ()))))) = 0) :
    f_impl_Disk_do (d, ((2, (nm, (ot, (dt, (kp, ()))))), ())) = some ((), (stepD d (2, (nm, (ot, (dt, (kp, ()))))), ())) := by
  have k18 : inR 2 1 8 = true := by decide
  have k16 : inR 2 1 6 = true := by decide
  have e1 : ieq (2 : Int) 1 = false := by decide
  have e2 : ieq (2 : Int) 2 = true := by decide
  have e3 : ieq (2 : Int) 3 = false := by decide
  have e4 : ieq (2 : Int) 4 = false := by decide
  have e5 : ieq (2 : Int) 5 = false := by decide
  have e6 : ieq (2 : Int) 6 = false := by decide
  have e7 : ieq (2 : Int) 7 = false := by decide
  have e8 : ieq (2 : Int) 8 = false := by decide
  have hn := h.2.2.1.2
  have hb := h.2.1
  have hr := h.2.2.1.rise
  unfold f_impl_Disk_do
  rw [f_impl_nameAtVal d.2.1 nm (show d.2.1.length ≤ _ by omega) hr, bnd_some]
  dsimp only
  obtain ⟨v, hv, e⟩ := do_i4 (R := Unit × (DDisk × Unit)) d (2, (nm, (ot, (dt, (kp, ()))))) nm (fun c5 o6 => (f_impl_Disk_do_i7 _ ((), ()) ((o6.1.1, (c5.2.2.1.1, ((ieq c5.2.2.1.1 (1 : Int)), ()))), (c5.2.1, (c5.2.2.1, ()))) fun c10 o11 => (some ((), (o11.2.1, ())))))
  refine e.trans ?_
  have h3 : hasN d.2.1 nm = true := fault_has hf k16 e1
  obtain rfl := hv h3
  simp only [f_impl_Disk_do_i7, f_impl_Disk_do_i10, f_impl_Disk_do_i12, f_impl_Disk_do_i14, f_impl_Disk_do_i18, f_impl_Disk_do_i20, f_impl_Disk_do_i22, f_impl_Disk_do_i24, e1, e2, e3, e4, e5, e6, e7, e8, cond_true, cond_false]
  obtain ⟨x, hx⟩ := blobN_get h h3
  have hx4 := (h.1 _ _ hx).1
  have h2 := fault_size hf
  simp only [slen] at hx4 h2
  rw [getO_at (blobN_rng h h3).1 hx]
  simp only [hx, bnd_some]
  rw [catO_some (by omega), getO_at (blobN_rng h h3).1 hx]
  simp only [stepD, e1, e2, e3, e4, e5, e6, e7, cond_true, cond_false, hx]

theorem do_3 (d : DDisk) (nm ot dt : ByteArray) (kp : Int) (h : GoodD d) (hf : faultD d (3, (nm, (ot, (dt, (kp, ()))))) = 0) :
    f_impl_Disk_do (d, ((3, (nm, (ot, (dt, (kp, ()))))), ())) = some ((), (stepD d (3, (nm, (ot, (dt, (kp, ()))))), ())) := by
  have k18 : inR 3 1 8 = true := by decide
  have k16 : inR 3 1 6 = true := by decide
  have e1 : ieq (3 : Int) 1 = false := by decide
  have e2 : ieq (3 : Int) 2 = false := by decide
  have e3 : ieq (3 : Int) 3 = true := by decide
  have e4 : ieq (3 : Int) 4 = false := by decide
  have e5 : ieq (3 : Int) 5 = false := by decide
  have e6 : ieq (3 : Int) 6 = false := by decide
  have e7 : ieq (3 : Int) 7 = false := by decide
  have e8 : ieq (3 : Int) 8 = false := by decide
  have hn := h.2.2.1.2
  have hb := h.2.1
  have hr := h.2.2.1.rise
  unfold f_impl_Disk_do
  rw [f_impl_nameAtVal d.2.1 nm (show d.2.1.length ≤ _ by omega) hr, bnd_some]
  dsimp only
  obtain ⟨v, hv, e⟩ := do_i4 (R := Unit × (DDisk × Unit)) d (3, (nm, (ot, (dt, (kp, ()))))) nm (fun c5 o6 => (f_impl_Disk_do_i7 _ ((), ()) ((o6.1.1, (c5.2.2.1.1, ((ieq c5.2.2.1.1 (1 : Int)), ()))), (c5.2.1, (c5.2.2.1, ()))) fun c10 o11 => (some ((), (o11.2.1, ())))))
  refine e.trans ?_
  have h3 : hasN d.2.1 nm = true := fault_has hf k16 e1
  obtain rfl := hv h3
  simp only [f_impl_Disk_do_i7, f_impl_Disk_do_i10, f_impl_Disk_do_i12, f_impl_Disk_do_i14, f_impl_Disk_do_i18, f_impl_Disk_do_i20, f_impl_Disk_do_i22, f_impl_Disk_do_i24, e1, e2, e3, e4, e5, e6, e7, e8, cond_true, cond_false]
  obtain ⟨x, hx⟩ := blobN_get h h3
  rw [getO_at (blobN_rng h h3).1 hx]
  simp only [hx, bnd_some]
  rw [getO_at (blobN_rng h h3).1 hx]
  simp only [stepD, e1, e2, e3, e4, e5, e6, e7, cond_true, cond_false, hx]

theorem do_4 (d : DDisk) (nm ot dt : ByteArray) (kp : Int) (h : GoodD d) (hf : faultD d (4, (nm, (ot, (dt, (kp, ()))))) = 0) :
    f_impl_Disk_do (d, ((4, (nm, (ot, (dt, (kp, ()))))), ())) = some ((), (stepD d (4, (nm, (ot, (dt, (kp, ()))))), ())) := by
  have k18 : inR 4 1 8 = true := by decide
  have k16 : inR 4 1 6 = true := by decide
  have e1 : ieq (4 : Int) 1 = false := by decide
  have e2 : ieq (4 : Int) 2 = false := by decide
  have e3 : ieq (4 : Int) 3 = false := by decide
  have e4 : ieq (4 : Int) 4 = true := by decide
  have e5 : ieq (4 : Int) 5 = false := by decide
  have e6 : ieq (4 : Int) 6 = false := by decide
  have e7 : ieq (4 : Int) 7 = false := by decide
  have e8 : ieq (4 : Int) 8 = false := by decide
  have hn := h.2.2.1.2
  have hb := h.2.1
  have hr := h.2.2.1.rise
  unfold f_impl_Disk_do
  rw [f_impl_nameAtVal d.2.1 nm (show d.2.1.length ≤ _ by omega) hr, bnd_some]
  dsimp only
  obtain ⟨v, hv, e⟩ := do_i4 (R := Unit × (DDisk × Unit)) d (4, (nm, (ot, (dt, (kp, ()))))) nm (fun c5 o6 => (f_impl_Disk_do_i7 _ ((), ()) ((o6.1.1, (c5.2.2.1.1, ((ieq c5.2.2.1.1 (1 : Int)), ()))), (c5.2.1, (c5.2.2.1, ()))) fun c10 o11 => (some ((), (o11.2.1, ())))))
  refine e.trans ?_
  have h3 : hasN d.2.1 nm = true := fault_has hf k16 e1
  obtain rfl := hv h3
  simp only [f_impl_Disk_do_i7, f_impl_Disk_do_i10, f_impl_Disk_do_i12, f_impl_Disk_do_i14, f_impl_Disk_do_i18, f_impl_Disk_do_i20, f_impl_Disk_do_i22, f_impl_Disk_do_i24, e1, e2, e3, e4, e5, e6, e7, e8, cond_true, cond_false]
  rw [ren_both (h := h) (h3 := h3)]
  simp only [stepD, e1, e2, e3, e4, e5, e6, e7, cond_true, cond_false]

theorem do_5 (d : DDisk) (nm ot dt : ByteArray) (kp : Int) (h : GoodD d) (hf : faultD d (5, (nm, (ot, (dt, (kp, ()))))) = 0) :
    f_impl_Disk_do (d, ((5, (nm, (ot, (dt, (kp, ()))))), ())) = some ((), (stepD d (5, (nm, (ot, (dt, (kp, ()))))), ())) := by
  have k18 : inR 5 1 8 = true := by decide
  have k16 : inR 5 1 6 = true := by decide
  have e1 : ieq (5 : Int) 1 = false := by decide
  have e2 : ieq (5 : Int) 2 = false := by decide
  have e3 : ieq (5 : Int) 3 = false := by decide
  have e4 : ieq (5 : Int) 4 = false := by decide
  have e5 : ieq (5 : Int) 5 = true := by decide
  have e6 : ieq (5 : Int) 6 = false := by decide
  have e7 : ieq (5 : Int) 7 = false := by decide
  have e8 : ieq (5 : Int) 8 = false := by decide
  have hn := h.2.2.1.2
  have hb := h.2.1
  have hr := h.2.2.1.rise
  unfold f_impl_Disk_do
  rw [f_impl_nameAtVal d.2.1 nm (show d.2.1.length ≤ _ by omega) hr, bnd_some]
  dsimp only
  obtain ⟨v, hv, e⟩ := do_i4 (R := Unit × (DDisk × Unit)) d (5, (nm, (ot, (dt, (kp, ()))))) nm (fun c5 o6 => (f_impl_Disk_do_i7 _ ((), ()) ((o6.1.1, (c5.2.2.1.1, ((ieq c5.2.2.1.1 (1 : Int)), ()))), (c5.2.1, (c5.2.2.1, ()))) fun c10 o11 => (some ((), (o11.2.1, ())))))
  refine e.trans ?_
  have h3 : hasN d.2.1 nm = true := fault_has hf k16 e1
  obtain rfl := hv h3
  simp only [f_impl_Disk_do_i7, f_impl_Disk_do_i10, f_impl_Disk_do_i12, f_impl_Disk_do_i14, f_impl_Disk_do_i18, f_impl_Disk_do_i20, f_impl_Disk_do_i22, f_impl_Disk_do_i24, e1, e2, e3, e4, e5, e6, e7, e8, cond_true, cond_false]
  rw [f_impl_meanVal d ot _ (show d.2.1.length ≤ _ by omega) hr, bnd_some]
  simp only [stepD, e1, e2, e3, e4, e5, e6, e7, cond_true, cond_false]

theorem do_6 (d : DDisk) (nm ot dt : ByteArray) (kp : Int) (h : GoodD d) (hf : faultD d (6, (nm, (ot, (dt, (kp, ()))))) = 0) :
    f_impl_Disk_do (d, ((6, (nm, (ot, (dt, (kp, ()))))), ())) = some ((), (stepD d (6, (nm, (ot, (dt, (kp, ()))))), ())) := by
  have k18 : inR 6 1 8 = true := by decide
  have k16 : inR 6 1 6 = true := by decide
  have e1 : ieq (6 : Int) 1 = false := by decide
  have e2 : ieq (6 : Int) 2 = false := by decide
  have e3 : ieq (6 : Int) 3 = false := by decide
  have e4 : ieq (6 : Int) 4 = false := by decide
  have e5 : ieq (6 : Int) 5 = false := by decide
  have e6 : ieq (6 : Int) 6 = true := by decide
  have e7 : ieq (6 : Int) 7 = false := by decide
  have e8 : ieq (6 : Int) 8 = false := by decide
  have hn := h.2.2.1.2
  have hb := h.2.1
  have hr := h.2.2.1.rise
  unfold f_impl_Disk_do
  rw [f_impl_nameAtVal d.2.1 nm (show d.2.1.length ≤ _ by omega) hr, bnd_some]
  dsimp only
  obtain ⟨v, hv, e⟩ := do_i4 (R := Unit × (DDisk × Unit)) d (6, (nm, (ot, (dt, (kp, ()))))) nm (fun c5 o6 => (f_impl_Disk_do_i7 _ ((), ()) ((o6.1.1, (c5.2.2.1.1, ((ieq c5.2.2.1.1 (1 : Int)), ()))), (c5.2.1, (c5.2.2.1, ()))) fun c10 o11 => (some ((), (o11.2.1, ())))))
  refine e.trans ?_
  have h3 : hasN d.2.1 nm = true := fault_has hf k16 e1
  simp only [f_impl_Disk_do_i7, f_impl_Disk_do_i10, f_impl_Disk_do_i12, f_impl_Disk_do_i14, f_impl_Disk_do_i18, f_impl_Disk_do_i20, f_impl_Disk_do_i22, f_impl_Disk_do_i24, e1, e2, e3, e4, e5, e6, e7, e8, cond_true, cond_false]
  rw [f_impl_forgetVal d nm (show d.2.1.length ≤ _ by omega) hr h3, bnd_some]
  simp only [stepD, e1, e2, e3, e4, e5, e6, e7, cond_true, cond_false]

theorem do_7 (d : DDisk) (nm ot dt : ByteArray) (kp : Int) (h : GoodD d) (hf : faultD d (7, (nm, (ot, (dt, (kp, ()))))) = 0) :
    f_impl_Disk_do (d, ((7, (nm, (ot, (dt, (kp, ()))))), ())) = some ((), (stepD d (7, (nm, (ot, (dt, (kp, ()))))), ())) := by
  have k18 : inR 7 1 8 = true := by decide
  have k16 : inR 7 1 6 = false := by decide
  have e1 : ieq (7 : Int) 1 = false := by decide
  have e2 : ieq (7 : Int) 2 = false := by decide
  have e3 : ieq (7 : Int) 3 = false := by decide
  have e4 : ieq (7 : Int) 4 = false := by decide
  have e5 : ieq (7 : Int) 5 = false := by decide
  have e6 : ieq (7 : Int) 6 = false := by decide
  have e7 : ieq (7 : Int) 7 = true := by decide
  have e8 : ieq (7 : Int) 8 = false := by decide
  have hn := h.2.2.1.2
  have hb := h.2.1
  have hr := h.2.2.1.rise
  unfold f_impl_Disk_do
  rw [f_impl_nameAtVal d.2.1 nm (show d.2.1.length ≤ _ by omega) hr, bnd_some]
  dsimp only
  obtain ⟨v, hv, e⟩ := do_i4 (R := Unit × (DDisk × Unit)) d (7, (nm, (ot, (dt, (kp, ()))))) nm (fun c5 o6 => (f_impl_Disk_do_i7 _ ((), ()) ((o6.1.1, (c5.2.2.1.1, ((ieq c5.2.2.1.1 (1 : Int)), ()))), (c5.2.1, (c5.2.2.1, ()))) fun c10 o11 => (some ((), (o11.2.1, ())))))
  refine e.trans ?_
  simp only [f_impl_Disk_do_i7, f_impl_Disk_do_i10, f_impl_Disk_do_i12, f_impl_Disk_do_i14, f_impl_Disk_do_i18, f_impl_Disk_do_i20, f_impl_Disk_do_i22, f_impl_Disk_do_i24, e1, e2, e3, e4, e5, e6, e7, e8, cond_true, cond_false]
  rw [val_clone _ (show d.2.1.length ≤ _ by omega), bnd_some]
  simp only [stepD, e1, e2, e3, e4, e5, e6, e7, cond_true, cond_false]

theorem do_8 (d : DDisk) (nm ot dt : ByteArray) (kp : Int) (h : GoodD d) (hf : faultD d (8, (nm, (ot, (dt, (kp, ()))))) = 0) :
    f_impl_Disk_do (d, ((8, (nm, (ot, (dt, (kp, ()))))), ())) = some ((), (stepD d (8, (nm, (ot, (dt, (kp, ()))))), ())) := by
  have k18 : inR 8 1 8 = true := by decide
  have k16 : inR 8 1 6 = false := by decide
  have e1 : ieq (8 : Int) 1 = false := by decide
  have e2 : ieq (8 : Int) 2 = false := by decide
  have e3 : ieq (8 : Int) 3 = false := by decide
  have e4 : ieq (8 : Int) 4 = false := by decide
  have e5 : ieq (8 : Int) 5 = false := by decide
  have e6 : ieq (8 : Int) 6 = false := by decide
  have e7 : ieq (8 : Int) 7 = false := by decide
  have e8 : ieq (8 : Int) 8 = true := by decide
  have hn := h.2.2.1.2
  have hb := h.2.1
  have hr := h.2.2.1.rise
  unfold f_impl_Disk_do
  rw [f_impl_nameAtVal d.2.1 nm (show d.2.1.length ≤ _ by omega) hr, bnd_some]
  dsimp only
  obtain ⟨v, hv, e⟩ := do_i4 (R := Unit × (DDisk × Unit)) d (8, (nm, (ot, (dt, (kp, ()))))) nm (fun c5 o6 => (f_impl_Disk_do_i7 _ ((), ()) ((o6.1.1, (c5.2.2.1.1, ((ieq c5.2.2.1.1 (1 : Int)), ()))), (c5.2.1, (c5.2.2.1, ()))) fun c10 o11 => (some ((), (o11.2.1, ())))))
  refine e.trans ?_
  simp only [f_impl_Disk_do_i7, f_impl_Disk_do_i10, f_impl_Disk_do_i12, f_impl_Disk_do_i14, f_impl_Disk_do_i18, f_impl_Disk_do_i20, f_impl_Disk_do_i22, f_impl_Disk_do_i24, e1, e2, e3, e4, e5, e6, e7, e8, cond_true, cond_false]
  have h7 := inR_iff.1 (fault_keep hf)
  rw [f_impl_crashVal d kp h.1 h.2.1 h.2.2.2.1.2 h7.1 h7.2, bnd_some]
  simp only [stepD, e1, e2, e3, e4, e5, e6, e7, cond_true, cond_false]

/-! ### every kind -/
theorem kinds (s : DDiskStep) : inR s.1 1 8 = false ∨ s.1 = 1 ∨ s.1 = 2 ∨ s.1 = 3 ∨ s.1 = 4 ∨ s.1 = 5 ∨ s.1 = 6 ∨ s.1 = 7 ∨ s.1 = 8 := by
  cases h : inR s.1 1 8 with
  | false => exact .inl rfl
  | true =>
    have := inR_iff.1 h
    have h1 : (1 : Int) ≤ s.1 := this.1
    have h2 : s.1 ≤ (8 : Int) := this.2
    generalize hk : s.1 = k at *
    right
    omega
theorem fault_other {d : DDisk} {s : DDiskStep} (h : inR s.1 1 8 = false) : faultD d s = 1 := by unfold faultD; rw [h]; rfl
theorem not_in {k : Int} (h : inR k 1 8 = false) : ieq k 1 = false ∧ ieq k 2 = false ∧ ieq k 3 = false ∧ ieq k 4 = false ∧ ieq k 5 = false ∧ ieq k 6 = false ∧ ieq k 7 = false ∧ ieq k 8 = false := by
  have : ∀ j : Int, 1 ≤ j → j ≤ 8 → ieq k j = false := fun j h1 h2 => ieq_false.2 fun e => by
    have := (inR_iff (n := k) (lo := 1) (hi := 8)).2 ⟨by omega, by omega⟩
    rw [h] at this; cases this
  exact ⟨this 1 (by omega) (by omega), this 2 (by omega) (by omega), this 3 (by omega) (by omega), this 4 (by omega) (by omega), this 5 (by omega) (by omega), this 6 (by omega) (by omega), this 7 (by omega) (by omega), this 8 (by omega) (by omega)⟩

theorem l1DoVal {d : DDisk} {s : DDiskStep} (h : GoodD d) (hs : StepOk s) : f_spec_l1Do (d, (s, ())) = some (((resD d s).1, ((resD d s).2, ())), ()) := by
  obtain ⟨k, nm, ot, dt, kp, ⟨⟩⟩ := s
  rcases kinds (k, (nm, (ot, (dt, (kp, ()))))) with hk | hk | hk | hk | hk | hk | hk | hk | hk
  · obtain ⟨_, _, _, e4, _, _, e7, _⟩ := not_in hk
    rw [res_fault (fault_other hk) rfl]
    have hk : inR k 1 8 = false := hk
    have e4 : ieq k 4 = false := e4
    have e7 : ieq k 7 = false := e7
    unfold f_spec_l1Do
    dsimp only
    rw [e7, Bool.not_false, cond_true, e4, cond_false]
    rw [val_f_spec_l1In]; dsimp only; rw [hk, bnd_some]; rfl
  all_goals obtain rfl := hk
  · exact l1Do_1 d nm ot dt kp h hs
  · exact l1Do_2 d nm ot dt kp h hs
  · exact l1Do_3 d nm ot dt kp h hs
  · exact l1Do_4 d nm ot dt kp h hs
  · exact l1Do_5 d nm ot dt kp h hs
  · exact l1Do_6 d nm ot dt kp h hs
  · exact l1Do_7 d nm ot dt kp h hs
  · exact l1Do_8 d nm ot dt kp h hs

theorem stepFaultVal {d : DDisk} {s : DDiskStep} (h : GoodD d) : f_impl_Disk_stepFault_r (d, (s, ())) = some ((faultD d s, ()), ()) := by
  obtain ⟨k, nm, ot, dt, kp, ⟨⟩⟩ := s
  rcases kinds (k, (nm, (ot, (dt, (kp, ()))))) with hk | hk | hk | hk | hk | hk | hk | hk | hk
  · obtain ⟨_, _, _, e4, _, _, e7, _⟩ := not_in hk
    rw [fault_other hk]
    have hk : inR k 1 8 = false := hk
    have e4 : ieq k 4 = false := e4
    unfold f_impl_Disk_stepFault_r
    dsimp only
    rw [val_f_impl_in, bnd_some, e4, cond_false]
    rw [val_f_impl_in]; dsimp only; rw [hk, bnd_some]; rfl
  all_goals obtain rfl := hk
  · exact stepFault_1 d nm ot dt kp h
  · exact stepFault_2 d nm ot dt kp h
  · exact stepFault_3 d nm ot dt kp h
  · exact stepFault_4 d nm ot dt kp h
  · exact stepFault_5 d nm ot dt kp h
  · exact stepFault_6 d nm ot dt kp h
  · exact stepFault_7 d nm ot dt kp h
  · exact stepFault_8 d nm ot dt kp h

theorem doVal {d : DDisk} {s : DDiskStep} (h : GoodD d) (hf : faultD d s = 0) : f_impl_Disk_do (d, (s, ())) = some ((), (stepD d s, ())) := by
  obtain ⟨k, nm, ot, dt, kp, ⟨⟩⟩ := s
  rcases kinds (k, (nm, (ot, (dt, (kp, ()))))) with hk | hk | hk | hk | hk | hk | hk | hk | hk
  · rw [fault_other hk] at hf; cases hf
  all_goals obtain rfl := hk
  · exact do_1 d nm ot dt kp h hf
  · exact do_2 d nm ot dt kp h hf
  · exact do_3 d nm ot dt kp h hf
  · exact do_4 d nm ot dt kp h hf
  · exact do_5 d nm ot dt kp h hf
  · exact do_6 d nm ot dt kp h hf
  · exact do_7 d nm ot dt kp h hf
  · exact do_8 d nm ot dt kp h hf

/-! ### a step of a disk -/
abbrev zeroD : DDisk := (([] : List DBlob), (([] : List DBlob), (([] : List DBlob), ((0 : Int), ()))))
def doD (d : DDisk) (s : DDiskStep) : DDisk × Int := cond (goodB d) (cond (ieq (resD d s).2 0) (resD d s) (d, (resD d s).2)) (zeroD, 1)

theorem f_impl_DoDiskVal {d : DDisk} {s : DDiskStep} (hd : LenOk d) (hs : StepOk s) : f_impl_DoDisk (d, (s, ())) = some (((doD d s).1, ((doD d s).2, ())), ()) := by
  unfold f_impl_DoDisk doD
  rw [f_impl_GoodDiskVal d hd, bnd_some]
  dsimp only
  cases hg : goodB d with
  | false => rfl
  | true =>
    have h := goodB_iff.1 hg
    rw [Bool.not_true, cond_false, cond_true, stepFaultVal h, bnd_some]
    dsimp only
    cases hf : ieq (faultD d s) 0 with
    | false =>
      rw [Bool.not_false, cond_true, val_cloneDisk d hd, bnd_some]
      unfold resD
      rw [hf, cond_false]
      dsimp only
      rw [hf]
      rfl
    | true =>
      rw [Bool.not_true, cond_false, val_cloneDisk d hd, bnd_some]
      dsimp only
      rw [doVal h (ieq_iff.1 hf), bnd_some]
      dsimp only
      rw [f_impl_GoodDiskVal _ (stepD_lens h (ieq_iff.1 hf) hs), bnd_some]
      unfold resD
      rw [hf, cond_true]
      cases goodB (stepD d s) with
      | false => rfl
      | true => rfl

end Go.Proofs.YthlnjkcpdkjipaaDoor
