/- Chunks come in. -/
import Derived.Test.YtogmfilmfkepfaaQ6Flip
set_option linter.all false
noncomputable section
namespace Go.Proofs.Ytogmfilmfkepfaa
open Go Go.Proofs.Ytogmfilmfkepfaa.Ev

def pstep (cs : List DChunk) (st : List Bool × Nat) (n f : Int) : List Bool × Nat :=
  match (bif ile 0 n then cs[n.toNat]? else none) with
  | none => st
  | some c => bif bitOk c.2.2.1 f then st else (st.1.set n.toNat true, st.2 + 1)
def playTo (cs : List DChunk) (order flips : List Int) : Nat → List Bool × Nat
  | 0 => (List.replicate cs.length false, 0)
  | i + 1 => pstep cs (playTo cs order flips i) (order[i]?.getD (-1)) (flips[i]?.getD 0)
theorem pstep_len (cs st n f) : (pstep cs st n f).1.length = st.1.length ∧ (pstep cs st n f).2 ≤ st.2 + 1 := by
  unfold pstep
  cases (bif ile 0 n then cs[n.toNat]? else none) with
  | none => exact ⟨rfl, by dsimp only; omega⟩
  | some c =>
    dsimp only
    cases bitOk c.2.2.1 f with
    | true => exact ⟨rfl, by simp⟩
    | false => exact ⟨by simp, by simp⟩
theorem playTo_len (cs order flips) : ∀ i, (playTo cs order flips i).1.length = cs.length ∧ (playTo cs order flips i).2 ≤ i
  | 0 => ⟨by simp [playTo], by simp [playTo]⟩
  | i + 1 => by
    have h1 := playTo_len cs order flips i
    have h2 := pstep_len cs (playTo cs order flips i) (order[i]?.getD (-1)) (flips[i]?.getD 0)
    simp only [playTo]
    exact ⟨h2.1.trans h1.1, by omega⟩

theorem ck_mem_size {fs : List ByteArray} {c : DChunk} (hc : c ∈ cks 0 fs) : c.2.2.1.size ≤ 64 := by
  obtain ⟨i, s, j, h1, h2, rfl⟩ := cks_mem hc
  show (ckD s j).size ≤ 64
  rw [ckD_size s j h2]; omega

theorem mid_of {fs : List ByteArray} {m : List Bool} (hm : m.length = (cks 0 fs).length) {n : Nat} {c : DChunk} (hc : (cks 0 fs)[n]? = some c) : ∃ A B SA SB b, Mid fs A c B SA SB ∧ m = SA ++ b :: SB ∧ A.length = n ∧ m.set n true = SA ++ true :: SB := by
  obtain ⟨A, B, h1, h2⟩ := split_at' _ hc
  have hn := (List.getElem?_eq_some_iff.1 hc).1
  obtain ⟨b, hb⟩ : ∃ b, m[n]? = some b := ⟨_, List.getElem?_eq_getElem (by omega)⟩
  obtain ⟨SA, SB, g1, g2⟩ := split_at' m hb
  have hl : SB.length = B.length := by
    have e1 := congrArg List.length h1
    have e2 := congrArg List.length g1
    simp at e1 e2
    omega
  refine ⟨A, B, SA, SB, b, ⟨h1, by omega, hl⟩, g1, h2, ?_⟩
  rw [g1, ← g2]
  simp

theorem bad_of {fs : List ByteArray} {c : DChunk} {f : Int} (hb : bitOk c.2.2.1 f = true) : ∀ i s j, c ∈ cks 0 fs → c = ck i s j → ckSum i (64 * j) (ckD s j) ≠ ckSum i (64 * j) (flD c.2.2.1 f) := by
  intro i s j hc e
  have hs := ck_mem_size hc
  subst e
  exact ckSum_ne i (64 * j) (ckD s j) (by have : (ckD s j).size ≤ 64 := hs; omega) f hb

section
variable {fs : List ByteArray} (hok : okF fs = true) (hk : (cks 0 fs).length ≤ 200) {m : List Bool} (hm : m.length = (cks 0 fs).length) {n : Nat} {c : DChunk} (hc : (cks 0 fs)[n]? = some c) (f : Int)
include hok hk hm hc
theorem impl_take_step : f_impl_Taking_take ((wantP fs, (sel (cks 0 fs) m, ())), ((c.1, (c.2.1, (fl c.2.2.1 f, c.2.2.2))), ())) = some (((!bitOk c.2.2.1 f), ()), ((wantP fs, (sel (cks 0 fs) (bif bitOk c.2.2.1 f then m else m.set n true), ())), ())) := by
  unfold fl
  cases hb : bitOk c.2.2.1 f with
  | true =>
    simp only [cond_true, Bool.not_true]
    exact f_impl_take_bad (List.mem_of_getElem? hc) _ hok _ (flD_size _ _) fun i s j e => bad_of hb i s j (List.mem_of_getElem? hc) e
  | false =>
    obtain ⟨A, B, SA, SB, b, hM, rfl, hA, hset⟩ := mid_of hm hc
    simp only [cond_false, Bool.not_false]
    rw [hset, sel_mid hM, sel_mid hM]
    exact f_impl_take_good hM b hok hk
theorem spec_take_step : f_spec_l13Take ((wantP fs, (sel (cks 0 fs) m, ())), ((c.1, (c.2.1, (fl c.2.2.1 f, c.2.2.2))), ())) = some (((wantP fs, (sel (cks 0 fs) (bif bitOk c.2.2.1 f then m else m.set n true), ())), ((!bitOk c.2.2.1 f), ())), ()) := by
  unfold fl
  cases hb : bitOk c.2.2.1 f with
  | true =>
    simp only [cond_true, Bool.not_true]
    exact f_spec_take_bad (List.mem_of_getElem? hc) _ hok _ (flD_size _ _) fun i s j e => bad_of hb i s j (List.mem_of_getElem? hc) e
  | false =>
    obtain ⟨A, B, SA, SB, b, hM, rfl, hA, hset⟩ := mid_of hm hc
    simp only [cond_false, Bool.not_false]
    rw [hset, sel_mid hM, sel_mid hM]
    exact f_spec_take_good hM b hok hk
end

theorem in_range {cs : List DChunk} {n : Int} (hk : cs.length ≤ 200) : (ile 0 n && ile n (isub .i64 (llen cs) (1 : Int))) = true → ∃ k c, n = ((k : Nat) : Int) ∧ cs[k]? = some c := by
  intro h
  simp only [llen] at h
  rw [isub_i64 (by omega)] at h
  simp only [Bool.and_eq_true, ile_iff] at h
  exact ⟨n.toNat, _, by omega, List.getElem?_eq_getElem (by omega)⟩
theorem out_range {cs : List DChunk} {n : Int} (hk : cs.length ≤ 200) : (ile 0 n && ile n (isub .i64 (llen cs) (1 : Int))) = false → (bif ile 0 n then cs[n.toNat]? else none) = none := by
  intro h
  simp only [llen] at h
  rw [isub_i64 (by omega)] at h
  cases h0 : ile 0 n with
  | false => rfl
  | true =>
    rw [h0, Bool.true_and] at h
    have := ile_false.1 h
    have := ile_iff.1 h0
    rw [cond_true]
    exact List.getElem?_eq_none (by omega)
theorem pstep_in {cs : List DChunk} {st : List Bool × Nat} {k : Nat} {c : DChunk} (hc : cs[k]? = some c) (f : Int) : pstep cs st ((k : Nat) : Int) f = ((bif bitOk c.2.2.1 f then st.1 else st.1.set k true), st.2 + (bif bitOk c.2.2.1 f then 0 else 1)) := by
  unfold pstep
  rw [ile_iff.2 (by omega), cond_true, Int.toNat_natCast, hc]
  dsimp only
  cases bitOk c.2.2.1 f <;> rfl

section
variable {fs : List ByteArray} (hok : okF fs = true) (hk : (cks 0 fs).length ≤ 200) {order flips : List Int} (ho : order.length ≤ 400) (hf : flips.length = order.length)
include hok hk ho hf
theorem impl_play {R : Type} {Q : R → Prop} {kk} (h : Does (kk ((), ()) (((((playTo (cks 0 fs) order flips order.length).2 : Nat) : Int), ()), (cks 0 fs, ((wantP fs, (sel (cks 0 fs) (playTo (cks 0 fs) order flips order.length).1, ())), ())))) Q) :
    Does (loopF (c := f_impl_PlayTaking_l6c) (v := f_impl_PlayTaking_l6v) (ex := f_impl_PlayTaking_l6e) f_impl_PlayTaking_l6 R ((), ()) ((flips, ((0 : Int), (order, (llen order, ((0 : Int), ()))))), (cks 0 fs, ((wantP fs, (([] : List DChunk), ())), ()))) kk) Q := by
  refine Does.loop (c := f_impl_PlayTaking_l6c) (v := f_impl_PlayTaking_l6v) (ex := f_impl_PlayTaking_l6e)
    (I := fun _ v => ∃ i : Nat, i ≤ order.length ∧ v = ((flips, ((((playTo (cks 0 fs) order flips i).2 : Nat) : Int), (order, (llen order, ((i : Int), ()))))), (cks 0 fs, ((wantP fs, (sel (cks 0 fs) (playTo (cks 0 fs) order flips i).1, ())), ())))) (μ := fun _ v => ((order.length : Int) - v.1.2.2.2.2.1).toNat) (fun c v hI => ?_) ⟨0, by omega, by rw [playTo, sel_none]; rfl⟩
  obtain ⟨i, hi, rfl⟩ := hI
  obtain ⟨⟨⟩, ⟨⟩⟩ := c
  obtain ⟨hl, h2⟩ := playTo_len (cks 0 fs) order flips i
  simp only [round, f_impl_PlayTaking_l6]
  refine Does.cond (fun hlt => ?_) fun hlt => Does.val ?_
  · have hlt : (i : Int) < (order.length : Int) := ilt_iff.1 hlt
    have e1 : iadd .i64 (i : Int) (1 : Int) = ((i + 1 : Nat) : Int) := iaddN (b := 1) (by omega)
    have e2 : iadd .i64 (((playTo (cks 0 fs) order flips i).2 : Nat) : Int) (1 : Int) = (((playTo (cks 0 fs) order flips i).2 + 1 : Nat) : Int) := iaddN (b := 1) (by omega)
    refine Does.getO (by omega) hlt fun n hn => ?_
    rw [Int.toNat_natCast] at hn
    obtain ⟨f, hfl⟩ : ∃ f, flips[i]? = some f := ⟨_, List.getElem?_eq_getElem (by omega)⟩
    rw [inVal, bnd_some]
    dsimp only
    have hst : playTo (cks 0 fs) order flips (i + 1) = pstep (cks 0 fs) (playTo (cks 0 fs) order flips i) n f := by rw [playTo, hn, hfl]; rfl
    cases hr : (ile 0 n && ile n (isub .i64 (llen (cks 0 fs)) (1 : Int))) with
    | false =>
      rw [Bool.not_false, cond_true, e1]
      have : playTo (cks 0 fs) order flips (i + 1) = playTo (cks 0 fs) order flips i := by rw [hst, pstep, out_range hk hr]
      exact Does.val ⟨⟨i + 1, by omega, by rw [this]⟩, by dsimp only; omega⟩
    | true =>
      obtain ⟨k, c, rfl, hc⟩ := in_range hk hr
      rw [Bool.not_true, cond_false, getO_at (by omega) (by rw [Int.toNat_natCast]; exact hc), Int.toNat_natCast, hc, bnd_some, getO_at (by omega) (by rw [Int.toNat_natCast]; exact hfl)]
      rw [f_impl_flippedVal _ (by have := ck_mem_size (List.mem_of_getElem? hc); omega), bnd_some]
      dsimp only
      rw [impl_take_step hok hk hl hc f, bnd_some]
      dsimp only
      rw [pstep_in hc f] at hst
      unfold f_impl_PlayTaking_i12
      dsimp only
      rw [e1, e2]
      cases hb : bitOk c.2.2.1 f with
      | true =>
        rw [hb] at hst
        exact Does.val ⟨⟨i + 1, by omega, by rw [hst]; rfl⟩, by dsimp only; omega⟩
      | false =>
        rw [hb] at hst
        exact Does.val ⟨⟨i + 1, by omega, by rw [hst]; rfl⟩, by dsimp only; omega⟩
  · have hlt : (order.length : Int) ≤ (i : Int) := ilt_false.1 hlt
    rw [show i = order.length by omega]
    exact h

theorem spec_play {R : Type} {Q : R → Prop} {kk} (h : Does (kk ((), ()) (((((playTo (cks 0 fs) order flips order.length).2 : Nat) : Int), ()), (cks 0 fs, ((wantP fs, (sel (cks 0 fs) (playTo (cks 0 fs) order flips order.length).1, ())), ())))) Q) :
    Does (loopF (c := f_spec_PlayTaking_l8c) (v := f_spec_PlayTaking_l8v) (ex := f_spec_PlayTaking_l8e) f_spec_PlayTaking_l8 R ((), ()) ((flips, ((0 : Int), (order, (llen order, ((0 : Int), ()))))), (cks 0 fs, ((wantP fs, (([] : List DChunk), ())), ()))) kk) Q := by
  refine Does.loop (c := f_spec_PlayTaking_l8c) (v := f_spec_PlayTaking_l8v) (ex := f_spec_PlayTaking_l8e)
    (I := fun _ v => ∃ i : Nat, i ≤ order.length ∧ v = ((flips, ((((playTo (cks 0 fs) order flips i).2 : Nat) : Int), (order, (llen order, ((i : Int), ()))))), (cks 0 fs, ((wantP fs, (sel (cks 0 fs) (playTo (cks 0 fs) order flips i).1, ())), ())))) (μ := fun _ v => ((order.length : Int) - v.1.2.2.2.2.1).toNat) (fun c v hI => ?_) ⟨0, by omega, by rw [playTo, sel_none]; rfl⟩
  obtain ⟨i, hi, rfl⟩ := hI
  obtain ⟨⟨⟩, ⟨⟩⟩ := c
  obtain ⟨hl, h2⟩ := playTo_len (cks 0 fs) order flips i
  simp only [round, f_spec_PlayTaking_l8]
  refine Does.cond (fun hlt => ?_) fun hlt => Does.val ?_
  · have hlt : (i : Int) < (order.length : Int) := ilt_iff.1 hlt
    have e1 : iadd .i64 (i : Int) (1 : Int) = ((i + 1 : Nat) : Int) := iaddN (b := 1) (by omega)
    have e2 : iadd .i64 (((playTo (cks 0 fs) order flips i).2 : Nat) : Int) (1 : Int) = (((playTo (cks 0 fs) order flips i).2 + 1 : Nat) : Int) := iaddN (b := 1) (by omega)
    refine Does.getO (by omega) hlt fun n hn => ?_
    rw [Int.toNat_natCast] at hn
    obtain ⟨f, hfl⟩ : ∃ f, flips[i]? = some f := ⟨_, List.getElem?_eq_getElem (by omega)⟩
    rw [inSVal, bnd_some]
    dsimp only
    have hst : playTo (cks 0 fs) order flips (i + 1) = pstep (cks 0 fs) (playTo (cks 0 fs) order flips i) n f := by rw [playTo, hn, hfl]; rfl
    cases hr : (ile 0 n && ile n (isub .i64 (llen (cks 0 fs)) (1 : Int))) with
    | false =>
      rw [Bool.not_false, cond_true, e1]
      have : playTo (cks 0 fs) order flips (i + 1) = playTo (cks 0 fs) order flips i := by rw [hst, pstep, out_range hk hr]
      exact Does.val ⟨⟨i + 1, by omega, by rw [this]⟩, by dsimp only; omega⟩
    | true =>
      obtain ⟨k, c, rfl, hc⟩ := in_range hk hr
      have hsz : c.2.2.1.size ≤ 1000000 := by have := ck_mem_size (List.mem_of_getElem? hc); omega
      rw [Bool.not_true, cond_false, getO_at (by omega) (by rw [Int.toNat_natCast]; exact hc), Int.toNat_natCast, hc, bnd_some, getO_at (by omega) (by rw [Int.toNat_natCast]; exact hfl)]
      rw [inSVal, bnd_some]
      dsimp only
      rw [bits_of _ hsz, show (ile 0 f && ile f (8 * (c.2.2.1.size : Int) - 1)) = bitOk c.2.2.1 f from rfl, spec_i14Val _ _ _ _ _ _ _ _ _ hsz]
      dsimp only
      rw [spec_take_step hok hk hl hc f, bnd_some]
      dsimp only
      rw [pstep_in hc f] at hst
      unfold f_spec_PlayTaking_i19
      dsimp only
      rw [e1, e2]
      cases hb : bitOk c.2.2.1 f with
      | true =>
        rw [hb] at hst
        exact Does.val ⟨⟨i + 1, by omega, by rw [hst]; rfl⟩, by dsimp only; omega⟩
      | false =>
        rw [hb] at hst
        exact Does.val ⟨⟨i + 1, by omega, by rw [hst]; rfl⟩, by dsimp only; omega⟩
  · have hlt : (order.length : Int) ≤ (i : Int) := ilt_false.1 hlt
    rw [show i = order.length by omega]
    exact h

/-- what the law counts -/
theorem law_play {R : Type} {Q : R → Prop} {many : Int} {files got : List ByteArray} {kk} (h : Does (kk ((many, (llen order, ())), (files, (order, (flips, (got, (cks 0 fs, ())))))) (((((playTo (cks 0 fs) order flips order.length).2 : Nat) : Int), ()), ((playTo (cks 0 fs) order flips order.length).1, ()))) Q) :
    Does (loopF (c := f_laws_FnSent_l17c) (v := f_laws_FnSent_l17v) (ex := f_laws_FnSent_l17e) f_laws_FnSent_l17 R ((many, (llen order, ())), (files, (order, (flips, (got, (cks 0 fs, ())))))) (((0 : Int), ((0 : Int), ())), (List.replicate (cks 0 fs).length false, ())) kk) Q := by
  refine Does.loop (c := f_laws_FnSent_l17c) (v := f_laws_FnSent_l17v) (ex := f_laws_FnSent_l17e)
    (I := fun c v => c = ((many, (llen order, ())), (files, (order, (flips, (got, (cks 0 fs, ())))))) ∧ ∃ i : Nat, i ≤ order.length ∧ v = (((((playTo (cks 0 fs) order flips i).2 : Nat) : Int), ((i : Int), ())), ((playTo (cks 0 fs) order flips i).1, ()))) (μ := fun _ v => ((order.length : Int) - v.1.2.1).toNat) (fun c v hI => ?_) ⟨rfl, 0, by omega, rfl⟩
  obtain ⟨rfl, i, hi, rfl⟩ := hI
  obtain ⟨hl, h2⟩ := playTo_len (cks 0 fs) order flips i
  simp only [round, f_laws_FnSent_l17]
  refine Does.cond (fun hlt => ?_) fun hlt => Does.val ?_
  · have hlt : (i : Int) < (order.length : Int) := ilt_iff.1 hlt
    have e1 : iadd .i64 (i : Int) (1 : Int) = ((i + 1 : Nat) : Int) := iaddN (b := 1) (by omega)
    have e2 : iadd .i64 (((playTo (cks 0 fs) order flips i).2 : Nat) : Int) (1 : Int) = (((playTo (cks 0 fs) order flips i).2 + 1 : Nat) : Int) := iaddN (b := 1) (by omega)
    refine Does.getO (by omega) hlt fun n hn => ?_
    rw [hn, bnd_some]
    rw [Int.toNat_natCast] at hn
    obtain ⟨f, hfl⟩ : ∃ f, flips[i]? = some f := ⟨_, List.getElem?_eq_getElem (by omega)⟩
    have hst : playTo (cks 0 fs) order flips (i + 1) = pstep (cks 0 fs) (playTo (cks 0 fs) order flips i) n f := by rw [playTo, hn, hfl]; rfl
    rw [e1, e2]
    have skip : playTo (cks 0 fs) order flips (i + 1) = playTo (cks 0 fs) order flips i → ((((many, (llen order, ())), (files, (order, (flips, (got, (cks 0 fs, ())))))) : Vars f_laws_FnSent_l17c) = ((many, (llen order, ())), (files, (order, (flips, (got, (cks 0 fs, ())))))) ∧ ∃ i' : Nat, i' ≤ order.length ∧ ((((((playTo (cks 0 fs) order flips i).2 : Nat) : Int), (((i + 1 : Nat) : Int), ())), ((playTo (cks 0 fs) order flips i).1, ())) : Vars f_laws_FnSent_l17v) = (((((playTo (cks 0 fs) order flips i').2 : Nat) : Int), ((i' : Int), ())), ((playTo (cks 0 fs) order flips i').1, ()))) := fun h => ⟨rfl, i + 1, by omega, by rw [h]⟩
    refine Does.cond (fun h0 => Does.val ⟨skip ?_, by dsimp only; omega⟩) fun h0 => ?_
    · have := ilt_iff.1 h0
      rw [hst, pstep, ile_false.2 (by omega)]; rfl
    have h0 := ilt_false.1 h0
    refine Does.cond (fun h1 => Does.val ⟨skip ?_, by dsimp only; omega⟩) fun h1 => ?_
    · have := ile_iff.1 h1
      simp only [llen] at this
      rw [hst, pstep, ile_iff.2 h0, cond_true, List.getElem?_eq_none (by omega)]
    have h1 := ile_false.1 h1
    simp only [llen] at h1
    obtain ⟨k, rfl⟩ := Int.eq_ofNat_of_zero_le h0
    have hc := List.getElem?_eq_getElem (l := cks 0 fs) (i := k) (by omega)
    obtain ⟨c, hcc⟩ : ∃ c, c = (cks 0 fs)[k] := ⟨_, rfl⟩
    rw [← hcc] at hc
    have hsz : c.2.2.1.size ≤ 64 := ck_mem_size (List.mem_of_getElem? hc)
    have e8 : imul .i64 (8 : Int) (slen c.2.2.1) = 8 * (c.2.2.1.size : Int) := by simp only [slen]; rw [imul_i64 (by omega)]
    rw [pstep_in hc f] at hst
    have hsome : ∃ b, (playTo (cks 0 fs) order flips i).1[k]? = some b := ⟨_, List.getElem?_eq_getElem (by omega)⟩
    obtain ⟨b, hbk⟩ := hsome
    have hflo : ∀ {α : Type} (q : Int → Option α), getO flips ((i : Nat) : Int) q = q f := fun q => getO_at (by omega) (by rw [Int.toNat_natCast]; exact hfl)
    have hcko : ∀ {α : Type} (q : DChunk → Option α), getO (cks 0 fs) ((k : Nat) : Int) q = q c := fun q => getO_at (by omega) (by rw [Int.toNat_natCast]; exact hc)
    have hso : ∀ {α : Type} (q : Bool → Option α), getO (playTo (cks 0 fs) order flips i).1 ((k : Nat) : Int) q = q b := fun q => getO_at (by omega) (by rw [Int.toNat_natCast]; exact hbk)
    have yes : bitOk c.2.2.1 f = false → ((((many, (llen order, ())), (files, (order, (flips, (got, (cks 0 fs, ())))))) : Vars f_laws_FnSent_l17c) = ((many, (llen order, ())), (files, (order, (flips, (got, (cks 0 fs, ())))))) ∧ ∃ i' : Nat, i' ≤ order.length ∧ ((((((playTo (cks 0 fs) order flips i).2 + 1 : Nat) : Int), (((i + 1 : Nat) : Int), ())), (((playTo (cks 0 fs) order flips i).1.set k true), ())) : Vars f_laws_FnSent_l17v) = (((((playTo (cks 0 fs) order flips i').2 : Nat) : Int), ((i' : Int), ())), ((playTo (cks 0 fs) order flips i').1, ()))) := fun hb => ⟨rfl, i + 1, by omega, by rw [hst, hb]; rfl⟩
    rw [hflo, Int.toNat_natCast, hfl, bnd_some]
    refine Does.cond (fun hp => ?_) fun hp => ?_
    · have hp := ile_iff.1 hp
      rw [hflo, bnd_some, hcko, Int.toNat_natCast, hc, bnd_some, bnd_some, e8]
      refine Does.cond (fun hq => Does.val ⟨skip ?_, by dsimp only; omega⟩) fun hq => ?_
      · have hq := ilt_iff.1 hq
        have hb : bitOk c.2.2.1 f = true := by simp only [bitOk, Bool.and_eq_true, ile_iff]; omega
        rw [hst, hb]; rfl
      · have hq := ilt_false.1 hq
        rw [hso, hbk, bnd_some]
        refine Does.val ⟨yes ?_, by dsimp only; omega⟩
        rw [bitOk, ile_iff.2 hp, Bool.true_and]
        exact ile_false.2 (by omega)
    · have hp := ile_false.1 hp
      rw [hso, Int.toNat_natCast, hbk, bnd_some]
      refine Does.val ⟨yes ?_, by dsimp only; omega⟩
      rw [bitOk, ile_false.2 hp, Bool.false_and]
  · have hlt : (order.length : Int) ≤ (i : Int) := ilt_false.1 hlt
    rw [show i = order.length by omega]
    exact h
end

end Go.Proofs.Ytogmfilmfkepfaa
