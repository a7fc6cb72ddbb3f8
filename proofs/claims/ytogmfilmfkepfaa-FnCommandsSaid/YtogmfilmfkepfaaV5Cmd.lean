/- Commands come back from their bytes. -/
import Derived.Test.YtogmfilmfkepfaaV5Var
import Derived.Test.YtogmfilmfkepfaaC4Fold3
set_option linter.all false
noncomputable section
namespace Go.Proofs.Ytogmfilmfkepfaa
open Go Go.Proofs.Ytogmfilmfkepfaa.Ev

def szB (x : ByteArray) : ByteArray := varB x.size ++ x
def cmdB (c : DCommand) : ByteArray := ((((varB c.1.toNat ++ varB c.2.1.toNat) ++ strOf [IntKind.wrap .u8 c.2.2.1]) ++ szB c.2.2.2.1) ++ szB c.2.2.2.2.1) ++ szB c.2.2.2.2.2.1

theorem btw_iff {n lo hi : Int} : btw n lo hi = true ↔ lo ≤ n ∧ n ≤ hi := by
  unfold btw
  cases h : ile lo n with
  | true => rw [cond_true, ile_iff]; exact ⟨fun h2 => ⟨ile_iff.1 h, h2⟩, fun h2 => h2.2⟩
  | false => rw [cond_false]; have := ile_false.1 h; exact ⟨(fun h => by cases h), fun h => by omega⟩

structure GoodCs (c : DCommand) : Prop where
  s0 : 0 ≤ c.1
  s1 : c.1 ≤ 99
  n0 : 1 ≤ c.2.1
  n1 : c.2.1 ≤ 1000000
  o0 : 1 ≤ c.2.2.1
  o1 : c.2.2.1 ≤ 4
  k : c.2.2.2.1.size ≤ 16
  v : c.2.2.2.2.1.size ≤ 40
  o : c.2.2.2.2.2.1.size ≤ 40

theorem goodCs {c : DCommand} (h : goodC c = true) : GoodCs c := by
  unfold goodC at h
  simp only [Bool.and_eq_true, btw_iff, ile_iff, slen] at h
  obtain ⟨⟨a1, a2⟩, ⟨b1, b2⟩, ⟨c1, c2⟩, ⟨d1, d2⟩, e1, f1, _⟩ := h
  exact ⟨a1, a2, b1, b2, c1, c2, by omega, by omega, by omega⟩

theorem f_impl_sizedVal (x : ByteArray × Unit) (h : x.1.size ≤ 1000000) : f_impl_sized x = some ((szB x.1, ()), ()) := by
  obtain ⟨s, ⟨⟩⟩ := x
  dsimp only at h
  have := varB_size s.size
  unfold f_impl_sized szB
  rw [f_impl_varBytesVal _ s.size rfl (by omega), bnd_some]
  exact catO_some (by dsimp only; omega)

theorem szB_size (x : ByteArray) : (szB x).size ≤ 9 + x.size := by
  unfold szB
  rw [ByteArray.size_append]
  have := varB_size x.size
  omega

theorem f_impl_CommandBytesVal (c : DCommand) : f_impl_CommandBytes (c, ()) = some ((bif goodC c then (cmdB c, (true, ())) else (e0, (false, ()))), ()) := by
  unfold f_impl_CommandBytes
  dsimp only
  rw [f_impl_GoodCommandVal, bnd_some]
  dsimp only
  cases hg : goodC c with
  | false => rfl
  | true =>
    obtain ⟨a1, a2, b1, b2, c1, c2, d, e, f⟩ := goodCs hg
    simp only [Bool.not_true, cond_false, cond_true]
    rw [f_impl_varBytesVal _ c.1.toNat (by dsimp only; omega) (by omega), bnd_some, f_impl_varBytesVal _ c.2.1.toNat (by dsimp only; omega) (by omega), bnd_some]
    dsimp only
    have h1 := varB_size c.1.toNat
    have h2 := varB_size c.2.1.toNat
    have h3 := szB_size c.2.2.2.1
    have h4 := szB_size c.2.2.2.2.1
    have h5 := szB_size c.2.2.2.2.2.1
    have h6 := strOf_size [IntKind.wrap .u8 c.2.2.1]
    simp only [List.length_singleton] at h6
    rw [catO_some (by omega), catO_some (by rw [ByteArray.size_append]; omega), f_impl_sizedVal _ (by dsimp only; omega), bnd_some]
    dsimp only
    rw [catO_some (by simp only [ByteArray.size_append]; omega), f_impl_sizedVal _ (by dsimp only; omega), bnd_some]
    dsimp only
    rw [catO_some (by simp only [ByteArray.size_append]; omega), f_impl_sizedVal _ (by dsimp only; omega), bnd_some]
    dsimp only
    rw [catO_some (by simp only [ByteArray.size_append]; omega)]
    rfl

theorem f_spec_CommandBytesVal (c : DCommand) : f_spec_CommandBytes (c, ()) = some ((bif goodC c then (cmdB c, (true, ())) else (e0, (false, ()))), ()) := by
  unfold f_spec_CommandBytes
  dsimp only
  rw [f_spec_GoodCommandVal, bnd_some]
  dsimp only
  cases hg : goodC c with
  | false => rfl
  | true =>
    obtain ⟨a1, a2, b1, b2, c1, c2, d, e, f⟩ := goodCs hg
    simp only [Bool.not_true, cond_false, cond_true]
    unfold f_spec_l14Bytes
    dsimp only
    rw [f_spec_l2VarVal _ c.1.toNat (by dsimp only; omega) (by omega), bnd_some, f_spec_l2VarVal _ c.2.1.toNat (by dsimp only; omega) (by omega), bnd_some]
    dsimp only
    have h1 := varB_size c.1.toNat
    have h2 := varB_size c.2.1.toNat
    have h3 := szB_size c.2.2.2.1
    have h4 := szB_size c.2.2.2.2.1
    have h5 := szB_size c.2.2.2.2.2.1
    have g3 := varB_size c.2.2.2.1.size
    have g4 := varB_size c.2.2.2.2.1.size
    have g5 := varB_size c.2.2.2.2.2.1.size
    have h6 := strOf_size [IntKind.wrap .u8 c.2.2.1]
    simp only [List.length_singleton] at h6
    rw [catO_some (by omega), catO_some (by rw [ByteArray.size_append]; omega)]
    generalize hB : (varB c.1.toNat ++ varB c.2.1.toNat) ++ strOf [IntKind.wrap .u8 c.2.2.1] = B
    have hBs : B.size ≤ 20 := by rw [← hB]; simp only [ByteArray.size_append]; omega
    have hc : cmdB c = ((B ++ szB c.2.2.2.1) ++ szB c.2.2.2.2.1) ++ szB c.2.2.2.2.2.1 := by rw [← hB]; rfl
    rw [hc]
    have step : ∀ (acc x : ByteArray) (i : Int) (l : List ByteArray), 0 ≤ i → i < 3 → l.length = 3 → l[i.toNat]? = some x → acc.size ≤ 200 → x.size ≤ 40 →
        round (c := f_spec_l14Bytes_l3c) (v := f_spec_l14Bytes_l3v) (ex := f_spec_l14Bytes_l3e) f_spec_l14Bytes_l3 (((((3 : Int)), ()), (l, ())), ((acc, (i, ())), ())) = some (.inl ((((3 : Int), ()), (l, ())), ((acc ++ szB x, (i + 1, ())), ()))) := by
      intro acc x i l i0 i1 hl hx ha hxs
      simp only [round, f_spec_l14Bytes_l3]
      have := varB_size x.size
      rw [ilt_iff.2 i1, cond_true, getO_at i0 hx, hx, bnd_some, f_spec_l2VarVal _ x.size rfl (by omega), bnd_some]
      dsimp only
      rw [catO_some (by omega), catO_some (by rw [ByteArray.size_append]; omega), iadd_i64 (by omega)]
      rfl
    have hl3 : llen [c.2.2.2.1, c.2.2.2.2.1, c.2.2.2.2.2.1] = (3 : Int) := rfl
    rw [hl3]
    rw [loopF_more (step B c.2.2.2.1 0 _ (by decide) (by decide) rfl rfl (by omega) (by omega))]
    rw [loopF_more (step _ c.2.2.2.2.1 _ _ (by decide) (by decide) rfl rfl (by rw [ByteArray.size_append]; omega) (by omega))]
    rw [loopF_more (step _ c.2.2.2.2.2.1 _ _ (by decide) (by decide) rfl rfl (by simp only [ByteArray.size_append]; omega) (by omega))]
    rw [loopF_done (c' := ((((3 : Int)), ()), ([c.2.2.2.1, c.2.2.2.2.1, c.2.2.2.2.2.1], ()))) (o := ((((B ++ szB c.2.2.2.1) ++ szB c.2.2.2.2.1) ++ szB c.2.2.2.2.2.1, ()), ())) (by rfl), bnd_some]

/-! ### and back -/
theorem num_back (n : Nat) (B : ByteArray) (hn : n < 9223372036854775808) : f_impl_taker_number ((varB n ++ B, (false, ())), ()) = some (((n : Int), ()), ((B, (false, ())), ())) := by
  unfold f_impl_taker_number
  dsimp only
  rw [val_f_impl_TakeVar, bnd_some]
  dsimp only
  rw [takeVar_varB n B hn]
  dsimp only
  have hp := varB_pos n
  rw [cond_false, show ieq (((varB n).size : Nat) : Int) (0 : Int) = false by cases e : ieq (((varB n).size : Nat) : Int) (0 : Int) with | false => rfl | true => have := ieq_iff.1 e; omega, cond_false]
  rw [bounds_ok (show (varB n).size ≤ (varB n ++ B).size by rw [ByteArray.size_append]; omega), req_true, Int.toNat_natCast]
  rw [show (varB n ++ B).extract (varB n).size (varB n ++ B).size = B from ByteArray.extract_append_eq_right rfl (by rw [ByteArray.size_append])]

theorem text_back (A B : ByteArray) (n : Int) (h : n = ((A.size : Nat) : Int)) : f_impl_taker_text ((A ++ B, (false, ())), (n, ())) = some ((A, ()), ((B, (false, ())), ())) := by
  subst h
  rw [text_impl _ (A ++ B, (false, ())) A.size rfl rfl]
  rw [if_neg (by rw [ByteArray.size_append]; simp)]
  rw [show (A ++ B).extract 0 A.size = A from ByteArray.extract_append_eq_left rfl, show (A ++ B).extract A.size (A ++ B).size = B from ByteArray.extract_append_eq_right rfl (by rw [ByteArray.size_append])]

theorem sized_back (x B : ByteArray) (hx : x.size ≤ 1000000) : f_impl_taker_sized ((szB x ++ B, (false, ())), ()) = some ((x, ()), ((B, (false, ())), ())) := by
  unfold f_impl_taker_sized szB
  dsimp only
  rw [ByteArray.append_assoc, num_back _ _ (by omega), bnd_some]
  dsimp only
  rw [text_back x B _ rfl, bnd_some]

theorem f_impl_ReadCommand_back {c : DCommand} (hg : goodC c = true) : f_impl_ReadCommand (cmdB c, ()) = some ((c, (true, ())), ()) := by
  obtain ⟨a1, a2, b1, b2, c1, c2, d, e, f⟩ := goodCs hg
  unfold f_impl_ReadCommand
  dsimp only
  have h6 := strOf_size [IntKind.wrap .u8 c.2.2.1]
  simp only [List.length_singleton] at h6
  have hop : (strOf [IntKind.wrap .u8 c.2.2.1])[0]? = some (UInt8.ofNat c.2.2.1.toNat) := by
    rw [wrap_u8, Int.emod_eq_of_lt (by omega) (by omega)]; rfl
  rw [show cmdB c = varB c.1.toNat ++ (varB c.2.1.toNat ++ (strOf [IntKind.wrap .u8 c.2.2.1] ++ (szB c.2.2.2.1 ++ (szB c.2.2.2.2.1 ++ (szB c.2.2.2.2.2.1 ++ e0))))) by
    unfold cmdB; rw [show szB c.2.2.2.2.2.1 ++ e0 = szB c.2.2.2.2.2.1 from ByteArray.append_empty]; simp only [ByteArray.append_assoc]]
  rw [num_back _ _ (by omega), bnd_some]
  dsimp only
  rw [num_back _ _ (by omega), bnd_some]
  dsimp only
  rw [text_back _ _ _ (by rw [h6]; rfl), bnd_some]
  dsimp only
  unfold f_impl_ReadCommand_i6
  dsimp only
  have hne : seq (strOf [IntKind.wrap .u8 c.2.2.1]) (⟨#[]⟩ : ByteArray) = false := by
    cases e : seq (strOf [IntKind.wrap .u8 c.2.2.1]) (⟨#[]⟩ : ByteArray) with
    | false => rfl
    | true => have := (seq_iff _ _).1 e; rw [this] at h6; cases h6
  rw [hne, Bool.not_false, cond_true, getB_at (by decide) hop]
  rw [sized_back _ _ (by omega), bnd_some]
  dsimp only
  rw [sized_back _ _ (by omega), bnd_some]
  dsimp only
  rw [sized_back _ _ (by omega), bnd_some]
  dsimp only
  unfold f_impl_taker_whole
  dsimp only
  rw [Bool.not_false, cond_true, bnd_some]
  dsimp only
  rw [(seq_iff _ _).2 rfl, Bool.not_true, cond_false]
  have hv : IntKind.wrap .i64 ((UInt8.ofNat c.2.2.1.toNat).toNat : Int) = c.2.2.1 := by
    rw [UInt8.toNat_ofNat', wrap_i64 _ (by omega)]
    omega
  rw [hv, show (((c.1.toNat : Nat) : Int)) = c.1 by omega, show (((c.2.1.toNat : Nat) : Int)) = c.2.1 by omega]
  rw [f_impl_GoodCommandVal, bnd_some]
  dsimp only
  rw [show goodC (c.1, (c.2.1, (c.2.2.1, (c.2.2.2.1, (c.2.2.2.2.1, (c.2.2.2.2.2.1, ())))))) = true from hg, Bool.not_true, cond_false]

end Go.Proofs.Ytogmfilmfkepfaa
