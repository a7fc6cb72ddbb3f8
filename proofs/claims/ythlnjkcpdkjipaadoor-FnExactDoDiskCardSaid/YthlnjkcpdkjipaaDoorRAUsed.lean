/- (*Disk).used does what its typed function says. -/
import Derived.Test.YthlnjkcpdkjipaaDoorProg
import Derived.Test.YthlnjkcpdkjipaaDoorRADef
import Derived.Test.YthlnjkcpdkjipaaDoorRCSnd
import Derived.WalkKit
import Derived.Deep.RegionWith
import Derived.Maps.OwnOps
import Derived.Maps.Views
import Derived.Maps.OwnSet
set_option linter.all false
set_option maxRecDepth 100000
namespace Go.Proofs.YthlnjkcpdkjipaaDoor
open Go Go.Proofs.YthlnjkcpdkjipaaDoor.Ev Go.RowKit Go.Maps

theorem req_of {R : Type} {b : Bool} (k : Option R) (h : b = true) : req b k = k := by rw [h]; rfl

theorem concat_fn (a b : List (T kNm)) (h : a.length + b.length ≤ 17179869184) : CC.f_slices_Concat_Name ([a, b], ()) = some ((a ++ b, ()), ()) := by
  unfold CC.f_slices_Concat_Name
  dsimp only
  have e2 : (iadd .i64 (0 : Int) (llen a)) = ((a.length : Nat) : Int) := by
    simp only [iadd, llen, IntKind.wrap_i64]
    omega
  have e1 : (iadd .i64 ((a.length : Nat) : Int) (llen b)) = ((a.length + b.length : Nat) : Int) := by
    simp only [iadd, llen, IntKind.wrap_i64]
    omega
  have c1 : ilt ((a.length : Nat) : Int) 0 = false := ilt_false.2 (by omega)
  have c2 : ilt ((a.length + b.length : Nat) : Int) 0 = false := ilt_false.2 (by omega)
  have g0 : ∀ {R : Type} (k : List (T kNm) → Option R), getO [a, b] (0 : Int) k = k a := fun k => rfl
  have g1 : ∀ {R : Type} (k : List (T kNm) → Option R), getO [a, b] (1 : Int) k = k b := fun k => rfl
  have i1 : iadd .i64 (0 : Int) (1 : Int) = 1 := by decide
  have i2 : iadd .i64 (1 : Int) (1 : Int) = 2 := by decide
  have l0 : ilt (0 : Int) 2 = true := by decide
  have l1 : ilt (1 : Int) 2 = true := by decide
  have l2 : ilt (2 : Int) 2 = false := by decide
  have ll : llen [a, b] = 2 := rfl
  rw [ll]
  refine Eq.trans (loopF_more (c := CC.f_slices_Concat_Name_l3c) (v := CC.f_slices_Concat_Name_l3v) (ex := CC.f_slices_Concat_Name_l3e) (stepK := CC.f_slices_Concat_Name_l3) (c' := ((), ())) (v' := (([a, b], (((a.length : Nat) : Int), ([a, b], (2, (1, ()))))), ())) (by
    simp only [round, CC.f_slices_Concat_Name_l3, CC.f_slices_Concat_Name_i7, l0, cond_true, g0, e2, c1, cond_false, i1]) _) ?_
  refine Eq.trans (loopF_more (c := CC.f_slices_Concat_Name_l3c) (v := CC.f_slices_Concat_Name_l3v) (ex := CC.f_slices_Concat_Name_l3e) (stepK := CC.f_slices_Concat_Name_l3) (c' := ((), ())) (v' := (([a, b], (((a.length + b.length : Nat) : Int), ([a, b], (2, (2, ()))))), ())) (by
    simp only [round, CC.f_slices_Concat_Name_l3, CC.f_slices_Concat_Name_i7, l1, cond_true, g1, e1, c2, cond_false, i2]) _) ?_
  refine Eq.trans (loopF_done (c := CC.f_slices_Concat_Name_l3c) (v := CC.f_slices_Concat_Name_l3v) (ex := CC.f_slices_Concat_Name_l3e) (stepK := CC.f_slices_Concat_Name_l3) (c' := ((), ())) (o := (([a, b], (((a.length + b.length : Nat) : Int), ())), ())) (by
    simp only [round, CC.f_slices_Concat_Name_l3, l2, cond_false]) _) ?_
  have hg : f_slices_Grow CC.kdName (([] : List (T kNm)), (((a.length + b.length : Nat) : Int), ())) = some ((([] : List (T kNm)), ()), ()) := by
    unfold f_slices_Grow
    refine req_of _ ?_
    simp only [List.length_nil, Bool.and_eq_true, decide_eq_true_eq]
    exact ⟨trivial, Int.natCast_nonneg _, show ((a.length + b.length : Nat) : Int) ≤ 17179869184 from by omega⟩
  dsimp only
  rw [hg, bnd_some, ll]
  dsimp only
  refine Eq.trans (loopF_more (c := CC.f_slices_Concat_Name_l11c) (v := CC.f_slices_Concat_Name_l11v) (ex := CC.f_slices_Concat_Name_l11e) (stepK := CC.f_slices_Concat_Name_l11) (c' := (([a, b], (2, ())), ())) (v' := ((1, ()), (a, ()))) (by
    simp only [round, CC.f_slices_Concat_Name_l11, l0, cond_true, g0, i1]
    rw [req_of _ (decide_eq_true (by simp only [List.length_nil]; omega))]
    simp only [List.nil_append]) _) ?_
  refine Eq.trans (loopF_more (c := CC.f_slices_Concat_Name_l11c) (v := CC.f_slices_Concat_Name_l11v) (ex := CC.f_slices_Concat_Name_l11e) (stepK := CC.f_slices_Concat_Name_l11) (c' := (([a, b], (2, ())), ())) (v' := ((2, ()), (a ++ b, ()))) (by
    simp only [round, CC.f_slices_Concat_Name_l11, l1, cond_true, g1, i2]
    rw [req_of _ (decide_eq_true h)]) _) ?_
  refine Eq.trans (loopF_done (c := CC.f_slices_Concat_Name_l11c) (v := CC.f_slices_Concat_Name_l11v) (ex := CC.f_slices_Concat_Name_l11e) (stepK := CC.f_slices_Concat_Name_l11) (c' := (([a, b], (2, ())), ())) (o := ((), (a ++ b, ()))) (by
    simp only [round, CC.f_slices_Concat_Name_l11, l2, cond_false]) _) ?_
  rfl

/-- what slices.Concat of two lists answers, as cells -/
theorem concat_calls (W : World) (F : Nat → Prop) (hF : ∀ b, F b → b < W.heap.size) (B : Nat) (e : TypeId) (a b : List (T kNm)) (la lb : Ev.L (.sl kNm)) (hlen : a.length + b.length ≤ 17179869184)
    (sa : sat W F (.sl kNm) .s a la) (sb : sat W F (.sl kNm) .s b lb) (hB : W.heap[B]? = some (.cells #[Ev.valOf (.sl kNm) a la, Ev.valOf (.sl kNm) b lb] e (0, 0))) :
    Calls Tryd.prog 83 #[.slice (some ⟨B, 0, none⟩) 2 2] W fun e w' => Ext W w' ∧ ∃ q cap, e = .returned (.slice q (a ++ b).length cap) ∧
      ∀ (i : Nat) (x : T kNm), (a ++ b)[i]? = some x → ∃ b' o', q = some ⟨b', o', none⟩ ∧ b' < w'.heap.size ∧ w'.cell? ⟨b', o' + i * 2, none⟩ = some (.string x.1) ∧ w'.cell? ⟨b', o' + i * 2 + 1, none⟩ = some (.int .i64 x.2.1) := by
  have hBs : B < W.heap.size := (Array.getElem?_eq_some_iff.1 hB).1
  have hS := (CC.so83).2 ([a, b], ()) ((a ++ b, ()), ()) (concat_fn a b hlen) W (fun c => F c ∨ c = B) ((((some (B, 0), 2), fun i => if i = 0 then la else lb)), ()) [.slice (some ⟨B, 0, none⟩) 2 2]
  have hs : sat W (fun c => F c ∨ c = B) (.sl (.sl kNm)) .s [a, b] (((some (B, 0), 2), fun i => if i = 0 then la else lb)) := by
    refine fun _ => ⟨⟨Nat.le_refl _, (fun h => by cases h), fun c o hc => ?_, fun h => (by cases h)⟩, fun i x hx => ?_⟩
    · injection hc with hc
      injection hc with e1 e2
      subst e1; subst e2
      refine ⟨fun h => (by cases h), fun _ => ⟨fun _ => .inr rfl, ⟨_, _, _, hB, fun h => (by cases h), fun i x hx => ?_⟩⟩⟩
      match i, hx with
      | 0, hx =>
        simp only [List.getElem?_cons_zero, Option.some.injEq] at hx
        subst hx
        intro j v hj
        match j, hj with
        | 0, hj => simpa [Ev.vals, Ev.valOf, K.size] using hj
        | j + 1, hj => simp [Ev.vals] at hj
      | 1, hx =>
        simp only [List.getElem?_cons_succ, List.getElem?_cons_zero, Option.some.injEq] at hx
        subst hx
        intro j v hj
        match j, hj with
        | 0, hj => simpa [Ev.vals, Ev.valOf, K.size] using hj
        | j + 1, hj => simp [Ev.vals] at hj
      | i + 2, hx => simp at hx
    · match i, hx with
      | 0, hx =>
        simp only [List.getElem?_cons_zero, Option.some.injEq] at hx
        subst hx
        exact sat_s_frame sa (fun _ _ => rfl) fun _ h => .inl h
      | 1, hx =>
        simp only [List.getElem?_cons_succ, List.getElem?_cons_zero, Option.some.injEq] at hx
        subst hx
        exact sat_s_frame sb (fun _ _ => rfl) fun _ h => .inl h
      | i + 2, hx => simp at hx
  refine (hS ⟨_, _, rfl, hs, rfl, rfl⟩ List.nodup_nil (fun c hc => (by cases hc)) (fun c hc => hc.elim (hF c) (fun h => h ▸ hBs)) (fun q hq => (by cases hq))).mono fun e w' ⟨F', lr, lo, he, L⟩ => ?_
  refine ⟨⟨L.size, fun c hc => L.old c hc (fun h => (by cases h)) (fun q hq => (by cases hq)), L.os, L.tape, L.out⟩, ?_⟩
  obtain ⟨⟨⟨q, cap⟩, lx⟩, ⟨⟩⟩ := lr
  refine ⟨adr q, cap, he, fun i x hx => ?_⟩
  have hr : sat w' F' (.sl kNm) (.o .s) (a ++ b) ((q, cap), lx) := L.res.1
  obtain ⟨⟨p1, p2, p3, _⟩, _⟩ := hr (by intro h; cases h)
  have hne : (a ++ b) ≠ [] := by intro h; rw [h] at hx; simp at hx
  cases q with
  | none =>
    have h0 := p2 rfl
    have := (List.getElem?_eq_some_iff.1 hx).1
    simp only at h0 p1
    omega
  | some q =>
    obtain ⟨b', o'⟩ := q
    obtain ⟨cs, e', fr, k1, _, k2⟩ := ((p3 b' o' rfl).2 hne).2
    have hc := k2 i x hx
    have h2 : kNm.size = 2 := rfl
    rw [h2] at hc
    exact ⟨b', o', rfl, (Array.getElem?_eq_some_iff.1 k1).1, by rw [cell_of k1]; exact hc 0 _ rfl, by rw [cell_of k1]; exact hc 1 _ rfl⟩


theorem map_ne {w : World} {B c o : Nat} {v : Value} {es : Array MapEntry} {cl : Nat} (h : w.heap[B]? = some (.map es cl)) (hc : w.cell? ⟨c, o, none⟩ = some v) : c ≠ B := by
  rintro rfl
  simp [World.cell?, h] at hc

theorem cell_same {w w' : World} {c o : Nat} (h : w'.heap[c]? = w.heap[c]?) : w'.cell? ⟨c, o, none⟩ = w.cell? ⟨c, o, none⟩ := by
  simp [World.cell?, h]

/-- how the walk stands: k names seen -/
def UsedAt (bl zs : List (T kNm)) (total : Int) (w w1 : World) (s i : Value) (wr : World) : Prop :=
  ∃ (k : Nat) (sv : Int) (seen : List Int) (D : DataW Unit), k ≤ zs.length ∧ i = .int .i64 k ∧ s = .int .i64 sv ∧ usedGo bl (zs.drop k) seen sv = some total ∧
    wr.ownsMap Tryd.prog 3 (plainElem Tryd.prog 4) w.heap.size k D ∧ (∀ n, D.atKey (.int .i64 n) (.lit (.bool false)) = .lit (.bool (seen.elem n))) ∧ IsMap D ∧
    (∀ c, c < w1.heap.size → c ≠ w.heap.size → wr.heap[c]? = w1.heap[c]?) ∧ w1.heap.size ≤ wr.heap.size ∧ wr.os = w1.os ∧ wr.tape = w1.tape ∧ OutLe w1 wr

theorem used_step {bl zs : List (T kNm)} {total : Int} {w w1 wr W W2 : World} {k : Nat} {sv blob : Int} {seen : List Int} {D : DataW Unit} {o : Obj} (hlt : k < zs.length)
    (hgo : usedGo bl (zs.drop (k + 1)) (blob :: seen) sv = some total) (hown2 : W2.ownsMap Tryd.prog 3 (plainElem Tryd.prog 4) w.heap.size (k + 1) D)
    (hat : ∀ n, D.atKey (.int .i64 n) (.lit (.bool false)) = .lit (.bool ((blob :: seen).elem n))) (hm : IsMap D) (hg : W.mapTurned W2 w.heap.size)
    (hW : W.heap = wr.heap.push o ∧ W.os = wr.os ∧ W.tape = wr.tape ∧ OutLe wr W) (hold : ∀ c, c < w1.heap.size → c ≠ w.heap.size → wr.heap[c]? = w1.heap[c]?)
    (hsz : w1.heap.size ≤ wr.heap.size) (hos : wr.os = w1.os) (htp : wr.tape = w1.tape) (hou : OutLe w1 wr) :
    UsedAt bl zs total w w1 (.int .i64 sv) (.int .i64 ((k : Int) + 1)) W2 := by
  have hgr := hg.grown
  have hdr : W2.output = W.output ∧ W2.drawn = W.drawn := by
    obtain ⟨es, cl, es', cl', _, rfl⟩ := hg
    exact ⟨rfl, rfl⟩
  obtain ⟨q1, q2, q3, q4⟩ := hW
  refine ⟨k + 1, sv, blob :: seen, D, hlt, rfl, rfl, hgo, hown2, hat, hm, fun c h1 h2 => ?_, ?_, hgr.os.trans (q2.trans hos), hgr.tape.trans (q3.trans htp), ?_⟩
  · rw [hgr.block c (by rw [q1, Array.size_push]; omega) (fun e => h2 (Option.some.inj e)), q1, Array.getElem?_push_lt (h := by omega)]
    rw [← hold c h1 h2]
    simp [show c < wr.heap.size by omega]
  · have := hgr.size
    rw [q1, Array.size_push] at this
    omega
  · exact (OutLe.of hdr.1 hdr.2).trans (q4.trans hou)

set_option maxHeartbeats 1000000 in
theorem used_walk (b o : Nat) (a0 a1 a2 : Option Addr) (n0 n1 n2 c0 c1 c2 : Nat) (w : World) (bl zs : List (T kNm)) (total : Int) (hb : b < w.heap.size)
    (h0 : w.cell? ⟨b, o, none⟩ = some (.slice a0 bl.length c0)) (h1 : w.cell? ⟨b, o + 1, none⟩ = some (.slice a1 n1 c1)) (h2 : w.cell? ⟨b, o + 2, none⟩ = some (.slice a2 n2 c2))
    (hbl : ∀ (i : Nat) (x : T kNm), bl[i]? = some x → ∃ b0 o0, a0 = some ⟨b0, o0, none⟩ ∧ b0 < w.heap.size ∧ w.cell? ⟨b0, o0 + i * 2, none⟩ = some (.string x.1))
    (hzl : zs.length ≤ 17179869184) (hwf : ∀ x ∈ zs, (Lit.int .i64 x.2.1).wf = true) (htot : usedGo bl zs [] 0 = some total)
    (hcon : ∀ (W : World) (B : Nat) (e : TypeId), (∀ c, c < w.heap.size → W.heap[c]? = w.heap[c]?) → W.heap[B]? = some (.cells #[.slice a1 n1 c1, .slice a2 n2 c2] e (0, 0)) →
      Calls Tryd.prog 83 #[.slice (some ⟨B, 0, none⟩) 2 2] W fun e w' => Ext W w' ∧ ∃ q cap, e = .returned (.slice q zs.length cap) ∧
      ∀ (i : Nat) (x : T kNm), zs[i]? = some x → ∃ b' o', q = some ⟨b', o', none⟩ ∧ b' < w'.heap.size ∧ w'.cell? ⟨b', o' + i * 2, none⟩ = some (.string x.1) ∧ w'.cell? ⟨b', o' + i * 2 + 1, none⟩ = some (.int .i64 x.2.1)) :
    Calls Tryd.prog 57 #[.pointer (some ⟨b, o, none⟩)] w fun e w' => e = .returned (.int .i64 total) ∧ Ext w w' := by
  have hmm := @run_makeMap Tryd.prog
  have hc := hcon (((w.alloc (.map #[] 0)).alloc (.cells #[.slice a1 n1 c1, .slice a2 n2 c2] 25)).drew) (w.heap.size + 1) 25
    (fun c hc => by
      show ((w.heap.push _).push _)[c]? = _
      rw [Array.getElem?_push_lt (h := by simp only [Array.size_push]; omega), Array.getElem_push_lt (h := hc)]
      simp [hc])
    (by show ((w.heap.push (.map #[] 0)).push _)[w.heap.size + 1]? = _
        rw [show w.heap.size + 1 = (w.heap.push (.map #[] 0)).size by simp, Array.getElem?_push_size])
  have hown0 : (((w.alloc (.map #[] 0)).alloc (.cells #[.slice a1 n1 c1, .slice a2 n2 c2] 25)).drew).ownsMap Tryd.prog 3 (plainElem (H := Unit) Tryd.prog 4) w.heap.size 0 (.map []) := ((World.ownsMap_made w Tryd.prog 3 (plainElem Tryd.prog 4)).alloc _).drew
  have hold0 : ∀ c, c < w.heap.size → (((w.alloc (.map #[] 0)).alloc (.cells #[.slice a1 n1 c1, .slice a2 n2 c2] 25)).drew).heap[c]? = w.heap[c]? := fun c hc => by
      show ((w.heap.push _).push _)[c]? = _
      rw [Array.getElem?_push_lt (h := by simp only [Array.size_push]; omega), Array.getElem_push_lt (h := hc)]
      simp [hc]
  have hsz0 : (((w.alloc (.map #[] 0)).alloc (.cells #[.slice a1 n1 c1, .slice a2 n2 c2] 25)).drew).heap.size = w.heap.size + 2 := by
    show ((w.heap.push _).push _).size = _
    simp
  go_enter Tryd.func57, Tryd.ntmps57
  go_wp2
  clear hcon
  go_region_with (go_at_call 83; refine hc.mono ?_; rintro e w1 ⟨hE, q, cap, rfl, hel⟩)
  go_wp2
  all_goals (
    clear hc hmm
    have hown1 : w1.ownsMap Tryd.prog 3 (plainElem (H := Unit) Tryd.prog 4) w.heap.size 0 (.map []) := by
      obtain ⟨es, cl, e1, e2, e3, e4⟩ := hown0
      exact ⟨es, cl, (hE.old _ (by rw [hsz0]; omega)).trans e1, e2, e3, e4⟩
    have hold1 : ∀ c, c < w.heap.size → w1.heap[c]? = w.heap[c]? := fun c hc => (hE.old c (by rw [hsz0]; omega)).trans (hold0 c hc)
    have hsz1 : w.heap.size + 2 ≤ w1.heap.size := hsz0 ▸ hE.size
    have hw1 : w1.os = w.os ∧ w1.tape = w.tape ∧ OutLe w w1 := ⟨hE.os, hE.tape, hE.out.trans ⟨rfl, Nat.le_succ _⟩⟩
    clear hE hown0 hold0 hsz0
    go_simp
    go_loopw [4, 19] (UsedAt bl zs total w w1) (fun _ i _ => zs.length - (intOf i).toNat)
    case atStart => exact ⟨0, 0, [], .map [], Nat.zero_le _, rfl, rfl, htot, hown1, fun n => rfl, ⟨_, rfl⟩, fun _ _ _ => rfl, Nat.le_refl _, rfl, rfl, OutLe.rfl⟩
    case round =>
      obtain ⟨k, sv, seen, D, hk, rfl, rfl, hgo, hown, hat, hisM, hold, hsz, hos, htp, hou⟩ := hrel
      obtain ⟨es, clk, hmap, hownr⟩ := id hown
      have hmap1 : ∃ es clk, w1.heap[w.heap.size]? = some (.map es clk) := by obtain ⟨es, clk, h, _⟩ := hown1; exact ⟨es, clk, h⟩
      obtain ⟨es1, clk1, hmap1⟩ := hmap1
      by_cases hlt : k < zs.length
      · have hx := List.getElem?_eq_getElem hlt
        obtain ⟨⟨nm, blob, ⟨⟩⟩, hxe⟩ : ∃ x, zs[k] = x := ⟨_, rfl⟩
        rw [hxe] at hx
        obtain ⟨b', o', rfl, hb', hca, hcb⟩ := hel k _ hx
        have hne := map_ne hmap1 hca
        have hca' := (cell_same (hold b' hb' hne)).trans hca
        have hcb' := (cell_same (hold b' hb' hne)).trans hcb
        have hd0 := (cell_same (o := o) (hold b (by omega) (by omega))).trans ((cell_same (hold1 b hb)).trans h0)
        have hbr : b < wr.heap.size := by omega
        have hbr' : b' < wr.heap.size := by omega
        rw [List.drop_eq_getElem_cons hlt, hxe] at hgo
        simp only [usedGo] at hgo
        have hkey : Go.Maps.Keyed Tryd.prog 3 := int_keyed Tryd.underlying3
        dsimp only at hca' hcb'
        have hwb : (Lit.int .i64 blob).wf = true := hwf _ (List.mem_of_getElem? hx)
        have hkl : keyOf Tryd.prog 3 (.int .i64 blob) = some (.int .i64 blob) := keyOf_int_mk Tryd.underlying3 hwb
        have zero4 : ∀ w, (zeroValue 4).run Tryd.prog w = .ok (.bool false) w := fun w => by kernel_rfl
        have hownA := hown.alloc (.cells #[.string nm, .int .i64 blob] 53)
        obtain ⟨v, ps, hlook, hlv⟩ := hownA.lookup hkey Tryd.underlying119 (zero4 _) (plainElem_bool Tryd.underlying4 false) hkl
        rw [hat blob] at hlv
        have hv : v = .bool (seen.elem blob) := by
          unfold plainElem at hlv
          rw [Tryd.underlying4] at hlv
          cases v <;> simp_all
        subst hv
        obtain ⟨w2, hup, hown2, hgrow⟩ := hownA.store hkey Tryd.underlying119 (by unfold maxLen; omega) hkl (plainElem_bool Tryd.underlying4 true)
        obtain ⟨w3, hup3, hown3, hgrow3⟩ := hownA.drew.store hkey Tryd.underlying119 (by unfold maxLen; omega) hkl (plainElem_bool Tryd.underlying4 true)
        have hat' : ∀ n, (D.put (.int .i64 blob) (.lit (.bool true))).atKey (.int .i64 n) (.lit (.bool false)) = .lit (.bool ((blob :: seen).elem n)) := fun n => by
          by_cases hn : n = blob
          · subst hn
            rw [atKey_put_same hisM (by exact True.intro)]
            simp
          · rw [atKey_put_other (fun e => hn (by injection e)), hat n]
            have : (n == blob) = false := beq_eq_false_iff_ne.2 hn
            simp [List.elem, this]
        cases hse : seen.elem blob with
        | true =>
          rw [hse] at hlook hgo
          simp only [cond_true] at hgo
          go_wp2
          refine ⟨used_step (o := .cells #[.string nm, .int .i64 blob] 53) hlt hgo hown2 hat' (hisM.put _ _) hgrow ⟨rfl, rfl, rfl, OutLe.rfl⟩ hold hsz hos htp hou, ?_⟩
          simp [intOf]; omega
        | false =>
          rw [hse] at hlook hgo
          simp only [cond_false] at hgo
          obtain ⟨hbp, i, x, rfl, hxb, hgo⟩ : 0 ≤ blob ∧ ∃ (i : Nat) (x : T kNm), blob = (i : Int) ∧ bl[i]? = some x ∧ usedGo bl (zs.drop (k + 1)) (blob :: seen) (iadd .i64 sv (slen x.1)) = some total := by
            unfold getO at hgo
            cases hd : decide (0 ≤ blob) with
            | false => rw [hd] at hgo; cases hgo
            | true =>
              rw [hd] at hgo
              simp only [cond_true] at hgo
              cases hb : bl[blob.toNat]? with
              | none => rw [hb] at hgo; cases hgo
              | some x =>
                rw [hb] at hgo
                exact ⟨of_decide_eq_true hd, blob.toNat, x, (Int.toNat_of_nonneg (of_decide_eq_true hd)).symm, hb, hgo⟩
          obtain ⟨b0, o0, rfl, hb0, hc0⟩ := hbl i x hxb
          have hil := (List.getElem?_eq_some_iff.1 hxb).1
          have hc0' := (cell_same (o := o0 + i * 2) (hold b0 (by omega) (by omega))).trans ((cell_same (hold1 b0 hb0)).trans hc0)
          have hbr0 : b0 < wr.heap.size := by omega
          go_wp2
          go_region
          go_wp2
          rw [show wrap64 (sv + (x.1.size : Int)) = iadd .i64 sv (slen x.1) by simp only [iadd, slen, wrap64, IntKind.wrap_i64]]
          refine ⟨used_step (o := .cells #[.string nm, .int .i64 (i : Int)] 53) hlt hgo hown3 hat' (hisM.put _ _) hgrow3 ⟨rfl, rfl, rfl, ⟨rfl, Nat.le_succ _⟩⟩ hold hsz hos htp hou, ?_⟩
          simp [intOf]; omega
      · have hdone : sv = total := by
          rw [List.drop_eq_nil_iff.2 (by omega)] at hgo
          simpa [usedGo] using hgo
        subst hdone
        go_wp2
        go_ret
        exact ⟨rfl, by omega, fun c hc => (hold c (by omega) (by omega)).trans (hold1 c hc), hos.trans hw1.1, htp.trans hw1.2.1, hou.trans hw1.2.2⟩)

theorem soUsed : Sound Tryd.prog 57 sgf_impl_Disk_used := by
  refine ⟨⟨_, Tryd.func57, rfl, by decide⟩, ?_⟩
  rintro ⟨⟨bl, live, safe, room, ⟨⟩⟩, ⟨⟩⟩ r hr w F l vs ha hnd hno hlt hbu
  obtain ⟨hb, hr⟩ := req_some hr
  simp only [Bool.and_eq_true, decide_eq_true_eq, List.all_eq_true] at hb
  obtain ⟨hlen, hwf⟩ := hb
  cases hu : usedGo bl (live ++ safe) [] 0 with
  | none => rw [hu] at hr; cases hr
  | some total =>
  rw [hu] at hr
  injection hr with hr
  subst hr
  obtain ⟨⟨⟨lb, ll, ls, lr, lu⟩, b, o⟩, ⟨⟩⟩ := l
  obtain ⟨v, vs, rfl, ⟨s1, hFb, hblk, rfl⟩, ha⟩ := ha
  have ha : vs = [] := ha
  subst ha
  obtain ⟨sb, sl, ss, _⟩ : sat w F (.sl kNm) .s bl lb ∧ sat w F (.sl kNm) .s live ll ∧ sat w F (.sl kNm) .s safe ls ∧ True := ⟨s1.1, s1.2.1, s1.2.2.1, trivial⟩
  obtain ⟨cs, e, fr, q1, _, q3⟩ := hblk
  have hbs : b < w.heap.size := (Array.getElem?_eq_some_iff.1 q1).1
  have hcell : ∀ j v, (Ev.vals kDsk (bl, live, safe, room, ()) (lb, ll, ls, lr, lu))[j]? = some v → w.cell? ⟨b, o + j, none⟩ = some v := fun j v hj => by rw [cell_of q1]; exact q3 j v hj
  have hF2 : ∀ c, F c → c < w.heap.size := hlt
  refine (used_walk b o (adr lb.1.1) (adr ll.1.1) (adr ls.1.1) 0 live.length safe.length lb.1.2 ll.1.2 ls.1.2 w bl (live ++ safe) total hbs (hcell 0 _ rfl) (hcell 1 _ rfl) (hcell 2 _ rfl) (fun i x hx => ?_) (by rw [List.length_append]; exact hlen)
    (fun x hx => ?_) hu (fun W B e hW hB => ?_)).mono fun e w' ⟨he, hE⟩ => ?_
  · obtain ⟨⟨p1, p2, p3, _⟩, _⟩ := sb (by intro h; cases h)
    have hne : bl ≠ [] := by intro h; rw [h] at hx; simp at hx
    obtain ⟨⟨q, cap⟩, lx⟩ := lb
    cases q with
    | none =>
      have h0 := p2 rfl
      have := (List.getElem?_eq_some_iff.1 hx).1
      simp only at h0 p1
      omega
    | some q =>
      obtain ⟨b', o'⟩ := q
      obtain ⟨hFb', cs', e', fr', k1, _, k2⟩ := (p3 b' o' rfl).2 hne
      have hc := k2 i x hx
      have h2 : kNm.size = 2 := rfl
      rw [h2] at hc
      exact ⟨b', o', rfl, (Array.getElem?_eq_some_iff.1 k1).1, by rw [cell_of k1]; exact hc 0 _ rfl⟩
  · have h := hwf x hx
    simp only [Lit.wf, Bool.and_eq_true, decide_eq_true_eq]
    simp [IntKind.min, IntKind.max, IntKind.signed, IntKind.bits]
    omega
  · exact concat_calls W F (fun c hc => Nat.lt_of_not_le fun hle => by
      have h1 := hW c (hlt c hc)
      rw [Array.getElem?_eq_none hle] at h1
      rw [Array.getElem?_eq_getElem (hlt c hc)] at h1
      cases h1) B e live safe ll ls hlen (sat_s_frame sl (fun c hc => hW c (hlt c hc)) fun _ h => h) (sat_s_frame ss (fun c hc => hW c (hlt c hc)) fun _ h => h) hB
  · subst he
    exact ⟨F, ((), ()), (), rfl, quiet_left (P := Tryd.prog) rfl rfl rfl hE rfl rfl _ _ trivial⟩

end Go.Proofs.YthlnjkcpdkjipaaDoor
