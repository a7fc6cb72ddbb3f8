/- A verified evaluator of typed functions, part 3. Nothing of the program is in it. -/
import Derived.Test.YtpegmiofhfmepaaEv2
import Derived.Laws.Strings
set_option linter.all false
/- Every operation; operations in a row. -/
set_option linter.unusedSimpArgs false
namespace Go.Proofs.Ytpegmiofhfmepaa.Ev

section
variable {P : Program} {X : Cx} {N : Nat} {a : Act} {s : St} {g : Gs} {F : Nat → Prop} {ow : Nat → Option Nat} {w : World} {R : Type} {r : R} {tm : Array Value} {E : Env}
  {o : Oper} {next : Act → World → Prop} {Q : Exit → Act → World → Prop} {kk : St → Option R}

theorem evM_ok (h : Rel P X N s g F ow a.tmps w) (hE : EnvOk P E) (hN : E.n = N) (hdo : dstOk E o = true) (hr : evM E s o kk = some r)
    (hn : ∀ a' w', MOk P X N a o.dst kk r a' w' → next a' w') : o.wp P a w next Q := by
  have hd : ∀ dd, o.dst = some dd → dd < N := fun dd e => by
    unfold dstOk at hdo
    rw [e] at hdo
    simp only [Bool.and_eq_true] at hdo
    have : dd < E.n := by simpa [Nat.blt_eq] using hdo.1
    exact hN ▸ this
  unfold evM at hr
  split at hr
  · rename_i hdst
    split at hr
    · rename_i t y x ho
      exact (m_store h hE ho hdst hr hn)
    · rename_i c ho
      split at hr
      · rename_i f hc
        split at hr
        · rename_i sg hsg
          exact (m_call h hE hd ho hc hsg (by rw [hdst]; exact hr) hn)
        · cases hr
      · cases hr
    · cases hr
  · rename_i d hdst
    have hd' := hd d hdst
    split at hr
    · rename_i x ho
      exact (m_assign h hd' ho hdst hr hn)
    · rename_i t ho
      exact (m_alloc h hE hd' ho hdst hr hn)
    · rename_i t x ho
      exact (m_box h hE hd' ho hdst hr hn)
    · rename_i t ps ho
      exact (m_build h hE hd' ho hdst hr hn)
    · rename_i t n ps ho
      exact (m_buildSlice h hE hd' ho hdst hr hn)
    · rename_i t u x ho
      exact (m_convert h hE hd' ho hdst hr hn)
    · rename_i t l c ho
      exact (m_makeSlice h hE hd' ho hdst hr hn)
    · rename_i c ho
      split at hr
      · rename_i hc
        exact m_append h hE hd' ho hc hdst hr hn
      · rename_i f hc
        split at hr
        · rename_i sg hsg
          exact (m_call h hE hd ho hc hsg (by rw [hdst]; exact hr) hn)
        · cases hr
      · cases hr
    · cases hr

theorem evOp_ok (h : Rel P X N s g F ow a.tmps w) (hE : EnvOk P E) (hN : E.n = N) (hdo : dstOk E o = true) (hr : evOp E s o kk = some r)
    (hn : ∀ a' w', MOk P X N a o.dst kk r a' w' → next a' w') : o.wp P a w next Q := by
  unfold evOp at hr
  cases hq : quiet E s o with
  | true =>
    rw [hq] at hr
    simp only [cond_true] at hr
    refine (evQ_ok h hE hq hr fun v w' hv => hn _ _ ?_)
    obtain ⟨pv, F', h1, h2, h3, h4, h5⟩ := hv
    exact ⟨put_keeps a _ _, _, g, F', ow, h1, (h.ext h2 h3 h4).dst hN hdo h5⟩
  | false =>
    rw [hq] at hr
    exact evM_ok h hE hN hdo hr hn

/-- temporaries below n are as they were -/
def Low (n : Nat) (a a' : Act) : Prop := a'.defers = a.defers ∧ ∀ i, i < n → a'.tmps[i]? = a.tmps[i]?

theorem Keeps.low (hdo : dstOk E o = true) {a' : Act} (h : Keeps a o.dst a') : Low E.lo a a' := by
  refine ⟨h.1, fun i hi => h.2 i fun e => ?_⟩
  unfold dstOk at hdo
  rw [e] at hdo
  simp only [Bool.and_eq_true] at hdo
  have := Nat.le_of_ble_eq_true hdo.2
  omega

theorem evOps_ok {ops : Array Oper} (hE : EnvOk P E) (hN : E.n = N) : ∀ {l : List Oper} {s : St} {g : Gs} {F : Nat → Prop} {ow : Nat → Option Nat} {a : Act} {w : World}, Rel P X N s g F ow a.tmps w → evOps E ops l s kk = some r →
    (∀ a' w', Low E.lo a a' → (∃ s' g' F' ow', kk s' = some r ∧ Rel P X N s' g' F' ow' a'.tmps w') → Q .normal a' w') → wpList P ops Q l a w
  | [], s, g, F, ow, a, w, h, hr, hn => hn a w ⟨rfl, fun _ _ => rfl⟩ ⟨s, g, F, ow, hr, h⟩
  | o :: os, s, g, F, ow, a, w, h, hr, hn => by
    simp only [evOps] at hr
    cases hdo : dstOk E o with
    | false => rw [hdo] at hr; cases hr
    | true =>
    rw [hdo] at hr
    simp only [cond_true] at hr
    have go : ∀ {s : St}, Rel P X N s g F ow a.tmps w → evOp E s o (fun s => evOps E ops os s kk) = some r → o.wp P a w (wpList P ops Q os) Q := fun h hr =>
      evOp_ok h hE hN hdo hr fun a' w' ⟨hdf, s2, g2, F2, ow2, h1, h2⟩ => evOps_ok hE hN h2 h1 fun a2 w2 hl hm => hn a2 w2 ⟨hl.1.trans hdf.1, fun i hi => (hl.2 i hi).trans ((hdf.low hdo).2 i hi)⟩ hm
    have skip : ∀ {s : St}, Rel P X N s g F ow a.tmps w → evOps E ops os (s.dst o.dst (.tup [])) kk = some r → wpList P ops Q os (a.put o.dst undef) w := fun h hr =>
      evOps_ok hE hN (h.dst hN hdo (c := .tup []) ⟨[], rfl, rfl, fun i c u hc => by simp at hc⟩) hr fun a2 w2 hl hm => hn a2 w2 ⟨hl.1.trans (put_keeps a _ _).1, fun i hi => (hl.2 i hi).trans (((put_keeps a o.dst undef).low hdo).2 i hi)⟩ hm
    unfold wpList
    cases hgd : o.guard with
    | none =>
      rw [hgd] at hr
      rw [if_pos (by simp [Region.wanted, hgd])]
      exact .inl (go h hr)
    | some jw =>
      obtain ⟨j, want⟩ := jw
      rw [hgd] at hr
      simp only at hr
      split at hr
      case h_2 => cases hr
      rename_i gd hgd2
      split at hr
      case h_3 => cases hr
      case h_2 hsl =>
        -- the guard itself was passed over
        have hslot := h.slot gd
        rw [hsl] at hslot
        obtain ⟨vs, hv, hl, _⟩ := hslot
        have hvs : vs = [] := List.eq_nil_of_length_eq_zero hl
        subst hvs
        have hy : yielded ops a.tmps j = none := by
          simp only [yielded, hgd2, Option.bind_some]
          rcases Nat.lt_or_ge gd a.tmps.size with h1 | h1
          · rw [Array.getD_eq_getD_getElem?, Array.getElem?_eq_getElem h1] at hv
            rw [Array.getElem?_eq_getElem h1]
            simp only [Option.getD_some] at hv
            rw [hv]
          · rw [Array.getElem?_eq_none h1]
        have hwd : Region.wanted o (yielded ops a.tmps) = false := by
          simp only [Region.wanted, hgd, hy]
          rfl
        rw [hwd]
        exact skip h hr
      rename_i b hsl
      -- the guard's word
      have hslot := h.slot gd
      rw [hsl] at hslot
      obtain ⟨_, _, hv⟩ := hslot
      have hv : a.tmps.getD gd undef = .bool b := hv
      have hy : yielded ops a.tmps j = some b := by
        have hlt : gd < a.tmps.size := by
          rcases Nat.lt_or_ge gd a.tmps.size with h1 | h1
          · exact h1
          · rw [Array.getD_eq_getD_getElem?, Array.getElem?_eq_none h1] at hv
            cases hv
        simp only [yielded, hgd2, Option.bind_some]
        rw [Array.getD_eq_getD_getElem?, Array.getElem?_eq_getElem hlt] at hv
        rw [Array.getElem?_eq_getElem hlt]
        simp only [Option.getD_some] at hv
        rw [hv]
      have hwd : Region.wanted o (yielded ops a.tmps) = (b == want) := by
        simp only [Region.wanted, hgd, hy]
        cases b <;> cases want <;> rfl
      have hput : ∀ c, c = b → Rel P X N (s.put gd (.one (.v .bool c))) g F ow a.tmps w := by
        rintro c rfl
        have hgN : gd < N := by
          rcases Nat.lt_or_ge gd N with h1 | h1
          · exact h1
          · have := h.big gd h1; rw [hsl] at this; cases this
        have := h.put hgN (c := .one (.v .bool c)) (v := .bool c) ⟨(), trivial, rfl⟩
        have e : a.tmps.setIfInBounds gd (.bool c) = a.tmps := by
          apply Array.ext
          · simp
          · intro i h1 h2
            rw [Array.getElem_setIfInBounds (by simpa using h1)]
            split
            · rename_i e; subst e
              rw [Array.getD_eq_getD_getElem?, Array.getElem?_eq_getElem h2] at hv
              simp only [Option.getD_some] at hv
              exact hv.symm
            · rfl
        rw [e] at this
        exact this
      rw [hwd]
      cases b with
      | true =>
        simp only [cond_true] at hr
        cases want with
        | true => simp only [cond_true] at hr; exact .inl (go (hput true rfl) hr)
        | false => simp only [cond_false] at hr; exact skip (hput true rfl) hr
      | false =>
        simp only [cond_false] at hr
        cases want with
        | true => simp only [cond_true] at hr; exact skip (hput false rfl) hr
        | false => simp only [cond_false] at hr; exact .inl (go (hput false rfl) hr)

end
end Go.Proofs.Ytpegmiofhfmepaa.Ev

/- Code. -/
set_option linter.unusedSimpArgs false
namespace Go.Proofs.Ytpegmiofhfmepaa.Ev

section
variable {P : Program} {X : Cx} {N : Nat} {a : Act} {s : St} {g : Gs} {F : Nat → Prop} {ow : Nat → Option Nat} {w : World} {R : Type} {r : R} {tm : Array Value} {E : Env}

/-- nothing deferred, the parameters' temporaries as at the entry -/
def Frm (X : Cx) (a : Act) : Prop := a.defers = [] ∧ ∀ i, i < X.lo → a.tmps[i]? = X.tm0[i]?

theorem Frm.low {a' : Act} (h : Frm X a) (hl : Low X.lo a a') : Frm X a' := ⟨hl.1.trans h.1, fun i hi => (hl.2 i hi).trans (h.2 i hi)⟩

/-- where a piece of code ends -/
def OutP (P : Program) (X : Cx) (N : Nat) (kk : Out → Option R) (r : R) : Exit → Act → World → Prop
  | .normal, a, w => Frm X a ∧ ∃ s g F ow, kk (.norm s) = some r ∧ Rel P X N s g F ow a.tmps w
  | .exit i, a, w => Frm X a ∧ ∃ s g F ow, kk (.exit i s) = some r ∧ Rel P X N s g F ow a.tmps w
  | .ret, a, w => Frm X a ∧ ∃ s g F ow, kk (.ret s) = some r ∧ Rel P X N s g F ow a.tmps w
  | _, _, _ => False

/-- a piece of code does what its typed function says -/
def SubOk (P : Program) (X : Cx) (N : Nat) (u : Sub) (c : Code) : Prop :=
  ∀ (R : Type) (r : R) (kk : Out → Option R) (s : St) (g : Gs) (F : Nat → Prop) (ow : Nat → Option Nat) (a : Act) (w : World), Rel P X N s g F ow a.tmps w → Frm X a → u.run s kk = some r → c.wp P (OutP P X N kk r) a w

/-- a region whose order is drawn -/
def RegOk (P : Program) (X : Cx) (N : Nat) (E : Env) (id : Nat) (ops : Array Oper) : Prop :=
  ∀ (R : Type) (r : R) (kk : Out → Option R) (s : St) (g : Gs) (F : Nat → Prop) (ow : Nat → Option Nat) (a : Act) (w : World), Rel P X N s g F ow a.tmps w → Frm X a →
    evOps E ops ops.toList s (fun s => kk (.norm s)) = some r → (Code.region id ops true).wp P (OutP P X N kk r) a w

def Good (P : Program) (X : Cx) (N : Nat) (E : Env) (subs : Bool → Nat → Option Sub) : Code → Prop
  | .seq a b => Good P X N E subs a ∧ Good P X N E subs b
  | .cond c a b => match ((firstReg a).orElse fun _ => firstReg b).bind (subs false) with
    | some u => SubOk P X N u (.cond c a b)
    | none => Good P X N E subs a ∧ Good P X N E subs b
  | .block _ a => Good P X N E subs a
  | .loop a => match (firstReg a).bind (subs true) with
    | some u => SubOk P X N u (.loop a)
    | none => True
  | .region id ops true => RegOk P X N E id ops
  | _ => True

theorem evC_ok {subs : Bool → Nat → Option Sub} (hE : EnvOk P E) (hN : E.n = N) (hlo : E.lo = X.lo) : ∀ {c : Code} {R : Type} {r : R} {kk : Out → Option R} {s : St} {g : Gs} {F : Nat → Prop} {ow : Nat → Option Nat} {a : Act} {w : World},
    Good P X N E subs c → Rel P X N s g F ow a.tmps w → Frm X a → evC E subs c s kk = some r → c.wp P (OutP P X N kk r) a w
  | .skip, R, r, kk, s, g, F, ow, a, w, _, h, hdf, hr => wp_skip ⟨hdf, s, g, F, ow, hr, h⟩
  | .region id ops false, R, r, kk, s, g, F, ow, a, w, _, h, hdf, hr => by
    simp only [evC] at hr
    exact wp_region_list (evOps_ok hE hN h hr fun a' w' hl ⟨s2, g2, F2, ow2, h1, h2⟩ => ⟨hdf.low (hlo ▸ hl), s2, g2, F2, ow2, h1, h2⟩)
  | .region id ops true, R, r, kk, s, g, F, ow, a, w, hg, h, hdf, hr => by
    simp only [evC] at hr
    exact hg R r kk s g F ow a w h hdf hr
  | .seq x y, R, r, kk, s, g, F, ow, a, w, hg, h, hdf, hr => by
    simp only [evC] at hr
    refine wp_seq (wp_mono (evC_ok hE hN hlo hg.1 h hdf hr) fun e a' w' hq => ?_)
    cases e with
    | normal =>
      obtain ⟨d, s2, g2, F2, ow2, h1, h2⟩ := hq
      exact evC_ok hE hN hlo hg.2 h2 d h1
    | exit i => exact hq
    | ret => exact hq
    | outgrown => exact hq
    | goto _ => exact hq
    | panic _ => exact hq
  | .cond c x y, R, r, kk, s, g, F, ow, a, w, hg, h, hdf, hr => by
    simp only [evC] at hr
    simp only [Good] at hg
    cases hu : ((firstReg x).orElse fun _ => firstReg y).bind (subs false) with
    | some u =>
      rw [hu] at hr hg
      exact hg R r kk s g F ow a w h hdf hr
    | none =>
      rw [hu] at hr hg
      simp only at hr hg
      split at hr
      case h_2 => cases hr
      rename_i t ht
      have hc := h.opd c
      have hv : a.eval c = .bool t := by
        cases hp : s.opd c with
        | v k z =>
          rw [hp] at ht hc
          cases k <;> simp only [asBool] at ht <;> first | (cases ht; done) | skip
          injection ht with ht
          subst ht
          obtain ⟨_, _, hv⟩ := hc
          exact hv
        | _ => rw [hp] at ht; cases ht
      refine wp_cond hv ?_
      cases t with
      | true => exact evC_ok hE hN hlo hg.1 h hdf hr
      | false => exact evC_ok hE hN hlo hg.2 h hdf hr
  | .block id x, R, r, kk, s, g, F, ow, a, w, hg, h, hdf, hr => by
    simp only [evC] at hr
    refine wp_block (wp_mono (evC_ok hE hN hlo hg h hdf hr) fun e a' w' hq => ?_)
    cases e with
    | normal => exact hq
    | exit i =>
      obtain ⟨d, s2, g2, F2, ow2, h1, h2⟩ := hq
      simp only [Exit.inBlock]
      simp only at h1
      cases hi : Nat.beq i id with
      | true =>
        rw [hi] at h1
        rw [if_pos (Nat.eq_of_beq_eq_true hi)]
        exact ⟨d, s2, g2, F2, ow2, h1, h2⟩
      | false =>
        rw [hi] at h1
        rw [if_neg (Nat.ne_of_beq_eq_false hi)]
        exact ⟨d, s2, g2, F2, ow2, h1, h2⟩
    | ret => exact hq
    | outgrown => exact hq
    | goto _ => exact hq
    | panic _ => exact hq
  | .loop x, R, r, kk, s, g, F, ow, a, w, hg, h, hdf, hr => by
    simp only [evC] at hr
    simp only [Good] at hg
    cases hu : (firstReg x).bind (subs true) with
    | some u =>
      rw [hu] at hr hg
      exact hg R r kk s g F ow a w h hdf hr
    | none => rw [hu] at hr; cases hr
  | .exit id, R, r, kk, s, g, F, ow, a, w, _, h, hdf, hr => wp_exit ⟨hdf, s, g, F, ow, hr, h⟩
  | .ret, R, r, kk, s, g, F, ow, a, w, _, h, hdf, hr => wp_ret ⟨hdf, s, g, F, ow, hr, h⟩
  | .label _, _, _, _, _, _, _, _, _, _, _, _, _, hr => by cases hr
  | .goto _, _, _, _, _, _, _, _, _, _, _, _, _, hr => by cases hr
  | .scope _, _, _, _, _, _, _, _, _, _, _, _, _, hr => by cases hr
  | .rangeFunc .., _, _, _, _, _, _, _, _, _, _, _, _, hr => by cases hr

end
end Go.Proofs.Ytpegmiofhfmepaa.Ev

/- States of which less is known. -/
set_option linter.unusedSimpArgs false
namespace Go.Proofs.Ytpegmiofhfmepaa.Ev

section
variable {P : Program} {X : Cx} {N : Nat} {a : Act} {s : St} {g : Gs} {F : Nat → Prop} {ow : Nat → Option Nat} {w : World} {R : Type} {r : R} {tm : Array Value} {E : Env}

/-- of s0 no more is known than of s -/
structure Le (s0 s : St) : Prop where
  slot : ∀ n, s0.slot n = .one .bad ∨ (∃ k x c, s0.slot n = .one (.v k x) ∧ s.slot n = .one c ∧ asV k c = some x) ∨ (∃ t p, s0.slot n = .one (.al t p) ∧ s.slot n = .one (.al t p)) ∨ (∃ t p, s0.slot n = .one (.ptr t p) ∧ s.slot n = .one (.ptr t p))
  root : ∀ t, s0.root t = none ∨ ∃ rt, s.root t = some rt ∧ s0.root t = some { rt with tmp := false }

def Closed (s : St) : Prop := ∀ n t p, (s.slot n = .one (.al t p) ∨ s.slot n = .one (.ptr t p)) → s.root t ≠ none

theorem asV_ok {k : K} {c : Pc} {x : T k} {v : Value} (hc : PcOk P g F w c v) (h : asV k c = some x) : ∃ l, Ev.sat w F k .s x l ∧ v = valOf k x l := by
  unfold asV at h
  split at h
  · split at h
    · rename_i hk
      subst hk
      injection h with h
      subst h
      exact hc
    · cases h
  · obtain ⟨q, h1, h2⟩ := hc
    split at h
    · injection h with h
      subst h
      exact ⟨_, nilZ_sat h2, h1⟩
    · cases h
  · cases h

theorem Rel.weak (h : Rel P X N s g F ow tm w) {s0 : St} (hl : Le s0 s) (hc : Closed s0) : ∃ g0, Rel P X N s0 g0 F ow tm w := by
  have hg : ∀ t q, (match s0.root t with | none => none | some _ => (g t).map fun q => { q with tmp := false }) = some q → ∃ q', g t = some q' ∧ q = { q' with tmp := false } := by
    intro t q hq
    cases hr : s0.root t with
    | none => rw [hr] at hq; cases hq
    | some rt =>
      rw [hr] at hq
      simp only at hq
      cases hgt : g t with
      | none => rw [hgt] at hq; cases hq
      | some q' =>
        rw [hgt] at hq
        simp only [Option.map_some, Option.some.injEq] at hq
        exact ⟨q', rfl, hq.symm⟩
  have hto : ∀ t q', g t = some q' → s0.root t ≠ none → (match s0.root t with | none => none | some _ => (g t).map fun q => { q with tmp := false }) = some { q' with tmp := false } := by
    intro t q' hq hr
    cases hr' : s0.root t with
    | none => exact absurd hr' hr
    | some rt => simp [hq]
  refine ⟨fun t => match s0.root t with | none => none | some _ => (g t).map fun q => { q with tmp := false }, { root := fun t => ?_, slot := fun n => ?_, sat := fun t q hq => ?_, mem := fun t q hq => ?_, mb := fun t q hq => ?_, ho := fun t q hq => ?_, nd := fun t q hq => ?_, hF := h.hF, lt := h.lt, own := fun t q hq => ?_, F0 := h.F0, Fnew := h.Fnew, kept := h.kept, size := h.size, os := h.os, tape := h.tape, out := h.out, sz := h.sz, big := fun n hn => ?_ }⟩
  · rcases hl.root t with e | ⟨rt, e1, e2⟩
    · rw [e]; rfl
    · obtain ⟨q, hq, rfl⟩ := h.rootOf e1
      rw [e2]
      simp [hq, GR.rt]
  · have hs := h.slot n
    rcases hl.slot n with e | ⟨k, x, c, e1, e2, e3⟩ | ⟨t, p, e1, e2⟩ | ⟨t, p, e1, e2⟩
    · rw [e]; trivial
    · rw [e1]
      rw [e2] at hs
      exact asV_ok hs e3
    · rw [e1]
      rw [e2] at hs
      obtain ⟨q, c, h1, h2, h3⟩ := hs
      exact ⟨_, c, hto t q h1 (hc n t p (.inl e1)), h2, h3⟩
    · rw [e1]
      rw [e2] at hs
      obtain ⟨q, c, y, h1, h2, h3, h4⟩ := hs
      exact ⟨_, c, y, hto t q h1 (hc n t p (.inr e1)), h2, h3, h4⟩
  · obtain ⟨q', h1, rfl⟩ := hg t q hq; exact h.sat t q' h1
  · obtain ⟨q', h1, rfl⟩ := hg t q hq; exact h.mem t q' h1
  · obtain ⟨q', h1, rfl⟩ := hg t q hq; exact h.mb t q' h1
  · obtain ⟨q', h1, rfl⟩ := hg t q hq; exact h.ho t q' h1
  · obtain ⟨q', h1, rfl⟩ := hg t q hq; exact h.nd t q' h1
  · obtain ⟨q', h1, rfl⟩ := hg t q hq; exact h.own t q' h1
  · have hb := h.big n hn
    rcases hl.slot n with e | ⟨k, x, c, e1, e2, e3⟩ | ⟨t, p, e1, e2⟩ | ⟨t, p, e1, e2⟩
    · exact e
    · rw [hb] at e2
      injection e2 with e2
      subst e2
      simp [asV] at e3
    · rw [hb] at e2; cases e2
    · rw [hb] at e2; cases e2

theorem Le.empty : Le .empty s := ⟨fun _ => .inl rfl, fun _ => .inl rfl⟩

theorem Le.put {s0 : St} (h : Le s0 s) {n : Nat} {c : PV} (hc : c = .one .bad ∨ (∃ k x c', c = .one (.v k x) ∧ s.slot n = .one c' ∧ asV k c' = some x) ∨ (∃ t p, c = .one (.al t p) ∧ s.slot n = .one (.al t p)) ∨ (∃ t p, c = .one (.ptr t p) ∧ s.slot n = .one (.ptr t p))) :
    Le (s0.put n c) s := by
  refine ⟨fun m => ?_, h.root⟩
  by_cases hm : m = n
  · subst hm
    simp only [St.put, Nat.beq_refl, cond_true]
    exact hc
  · simp only [St.put, beq_ne hm, cond_false]
    exact h.slot m

theorem extS_ok : ∀ {l : List (Nat × Sd)} {kk : VarsS l → Option R}, extS s l kk = some r → ∃ x, kk x = some r ∧ ∀ s0, Le s0 s → Le (mkS l x s0) s
  | [], kk, h => ⟨(), h, fun _ h => h⟩
  | (n, .v k) :: l, kk, h => by
    simp only [extS] at h
    split at h
    case h_2 => cases h
    rename_i c hs
    split at h
    case h_2 => cases h
    rename_i x hx
    obtain ⟨y, h1, h2⟩ := extS_ok h
    exact ⟨(x, y), h1, fun s0 hl => h2 _ (hl.put (.inr (.inl ⟨k, x, c, rfl, hs, hx⟩)))⟩
  | (n, .al t p) :: l, kk, h => by
    simp only [extS] at h
    split at h
    case h_2 => cases h
    rename_i t' p' hs
    split at h
    case isFalse => cases h
    rename_i e
    obtain ⟨rfl, rfl⟩ := e
    obtain ⟨y, h1, h2⟩ := extS_ok h
    exact ⟨y, h1, fun s0 hl => h2 _ (hl.put (.inr (.inr (.inl ⟨_, _, rfl, hs⟩))))⟩
  | (n, .ptr t p) :: l, kk, h => by
    simp only [extS] at h
    split at h
    case h_2 => cases h
    rename_i t' p' hs
    split at h
    case isFalse => cases h
    rename_i e
    obtain ⟨rfl, rfl⟩ := e
    obtain ⟨y, h1, h2⟩ := extS_ok h
    exact ⟨y, h1, fun s0 hl => h2 _ (hl.put (.inr (.inr (.inr ⟨_, _, rfl, hs⟩))))⟩

theorem extR_ok : ∀ {l : List (Nat × Rd)} {kk : VarsR l → Option R}, extR s l kk = some r → ∃ x, kk x = some r ∧ ∀ s0, Le s0 s → Le (mkR l x s0) s
  | [], kk, h => ⟨(), h, fun _ h => h⟩
  | (n, d) :: l, kk, h => by
    simp only [extR] at h
    split at h
    case h_2 => cases h
    rename_i rt hs
    split at h
    case isFalse => cases h
    rename_i hk
    split at h
    case isFalse => cases h
    rename_i hm
    obtain ⟨y, h1, h2⟩ := extR_ok h
    refine ⟨(hk ▸ rt.x, y), h1, fun s0 hl => h2 _ ⟨hl.slot, fun t => ?_⟩⟩
    by_cases ht : t = n
    · subst ht
      refine .inr ⟨rt, hs, ?_⟩
      simp only [St.setR, Nat.beq_refl, cond_true]
      obtain ⟨dk, dm, dmem⟩ := d
      obtain ⟨rk, rm, rx, rmem, rtmp⟩ := rt
      dsimp only at hk hm
      obtain ⟨hm1, hm2⟩ := hm
      subst hk; subst hm1; subst hm2
      rfl
    · simp only [St.setR, beq_ne ht, cond_false]
      exact hl.root t

theorem ext_ok {D : Desc} {kk : Vars D → Option R} (h : D.ext s kk = some r) : ∃ x, kk x = some r ∧ ∀ s0, Le s0 s → Le (D.mk2 x s0) s := by
  obtain ⟨x, h1, h2⟩ := extS_ok h
  obtain ⟨y, h3, h4⟩ := extR_ok h1
  exact ⟨(x, y), h3, fun s0 hl => h4 _ (h2 _ hl)⟩

/-! ### roots that slots name are there -/
theorem mkR_root : ∀ {l : List (Nat × Rd)} {x : VarsR l} {s : St} {t : Nat}, (l.any (fun y => Nat.beq y.1 t) = true ∨ s.root t ≠ none) → (mkR l x s).root t ≠ none
  | [], x, s, t, h => by
    rcases h with h | h
    · cases h
    · exact h
  | (n, d) :: l, x, s, t, h => by
    refine mkR_root (l := l) ?_
    by_cases ht : t = n
    · subst ht
      right
      simp [St.setR]
    · simp only [St.setR, beq_ne ht, cond_false]
      rcases h with h | h
      · simp only [List.any_cons, Bool.or_eq_true] at h
        rcases h with h | h
        · exact absurd (Nat.eq_of_beq_eq_true h).symm ht
        · exact .inl h
      · exact .inr h

theorem mkR_slot : ∀ {l : List (Nat × Rd)} {x : VarsR l} {s : St} {n : Nat}, (mkR l x s).slot n = s.slot n
  | [], _, _, _ => rfl
  | (_, d) :: l, x, s, n => (mkR_slot (l := l)).trans rfl

theorem mkS_root : ∀ {l : List (Nat × Sd)} {x : VarsS l} {s : St} {t : Nat}, (mkS l x s).root t = s.root t
  | [], _, _, _ => rfl
  | (_, .v _) :: l, x, s, t => (mkS_root (l := l)).trans rfl
  | (_, .al _ _) :: l, x, s, t => (mkS_root (l := l)).trans rfl
  | (_, .ptr _ _) :: l, x, s, t => (mkS_root (l := l)).trans rfl

theorem mkS_slot : ∀ {l : List (Nat × Sd)} {x : VarsS l} {s : St} {n t : Nat} {p : List Stp}, ((mkS l x s).slot n = .one (.al t p) ∨ (mkS l x s).slot n = .one (.ptr t p)) →
    (s.slot n = .one (.al t p) ∨ s.slot n = .one (.ptr t p)) ∨ ∃ y ∈ l, y.2 = .al t p ∨ y.2 = .ptr t p
  | [], _, _, _, _, _, h => .inl h
  | (m, .v k) :: l, x, s, n, t, p, h => by
    rcases mkS_slot (l := l) h with h | ⟨y, hy, e⟩
    · by_cases hn : n = m
      · subst hn; simp [St.put] at h
      · simp only [St.put, beq_ne hn, cond_false] at h; exact .inl h
    · exact .inr ⟨y, List.mem_cons_of_mem _ hy, e⟩
  | (m, .al t' p') :: l, x, s, n, t, p, h => by
    rcases mkS_slot (l := l) h with h | ⟨y, hy, e⟩
    · by_cases hn : n = m
      · subst hn
        simp [St.put] at h
        obtain ⟨rfl, rfl⟩ := h
        exact .inr ⟨_, List.mem_cons_self, .inl rfl⟩
      · simp only [St.put, beq_ne hn, cond_false] at h; exact .inl h
    · exact .inr ⟨y, List.mem_cons_of_mem _ hy, e⟩
  | (m, .ptr t' p') :: l, x, s, n, t, p, h => by
    rcases mkS_slot (l := l) h with h | ⟨y, hy, e⟩
    · by_cases hn : n = m
      · subst hn
        simp [St.put] at h
        obtain ⟨rfl, rfl⟩ := h
        exact .inr ⟨_, List.mem_cons_self, .inr rfl⟩
      · simp only [St.put, beq_ne hn, cond_false] at h; exact .inl h
    · exact .inr ⟨y, List.mem_cons_of_mem _ hy, e⟩

theorem closed_ok {c d : Desc} (h : closed2 c d = true) (x : Vars c) (y : Vars d) : Closed (d.mk2 y (c.mk2 x .empty)) := by
  intro n t p hs
  simp only [Desc.mk2, mkR_slot] at hs
  have key : ∀ z ∈ c.slots ++ d.slots, (z.2 = .al t p ∨ z.2 = .ptr t p) → (c.roots ++ d.roots).any (fun y => Nat.beq y.1 t) = true := by
    intro z hz e
    have := List.all_eq_true.1 h z hz
    rcases e with e | e <;> (rw [e] at this; exact this)
  have hr : (c.roots ++ d.roots).any (fun y => Nat.beq y.1 t) = true := by
    rcases mkS_slot hs with hs | ⟨z, hz, e⟩
    · simp only [Desc.mk2, mkR_slot] at hs
      rcases mkS_slot hs with hs | ⟨z, hz, e⟩
      · simp [St.empty] at hs
      · exact key z (List.mem_append.2 (.inl hz)) e
    · exact key z (List.mem_append.2 (.inr hz)) e
  simp only [List.any_append, Bool.or_eq_true] at hr
  refine mkR_root ?_
  rcases hr with hr | hr
  · right
    rw [mkS_root]
    exact mkR_root (.inl hr)
  · exact .inl hr

/-- what is known of a state by two descriptors -/
theorem Rel.desc (h : Rel P X N s g F ow tm w) {c d : Desc} (hc : closed2 c d = true) {x : Vars c} {y : Vars d} (h1 : ∀ s0, Le s0 s → Le (c.mk2 x s0) s) (h2 : ∀ s0, Le s0 s → Le (d.mk2 y s0) s) :
    ∃ g0, Rel P X N (d.mk2 y (c.mk2 x .empty)) g0 F ow tm w := h.weak (h2 _ (h1 _ Le.empty)) (closed_ok hc x y)

end
end Go.Proofs.Ytpegmiofhfmepaa.Ev

/- Ifs and loops with a typed function of their own. -/
set_option linter.unusedSimpArgs false
namespace Go.Proofs.Ytpegmiofhfmepaa.Ev

section
variable {P : Program} {X : Cx} {N : Nat} {a : Act} {s : St} {g : Gs} {F : Nat → Prop} {ow : Nat → Option Nat} {w : World} {R : Type} {r : R} {tm : Array Value} {E : Env}

theorem ocOf_ok : ∀ {ex : List (Ek × Desc)} {o : Out} {kk : Oc ex → Option R}, ocOf ex o kk = some r → ∃ (oc : Oc ex) (e : Ek) (d : Desc) (y : Vars d), (e, d) ∈ ex ∧ kk oc = some r ∧
    (∀ (R' : Type) (base : St) (kk0 : Out → Option R'), ocRun base ex oc kk0 = kk0 (e.out (d.mk2 y base))) ∧ e.out o.st = o ∧ ∀ s0, Le s0 o.st → Le (d.mk2 y s0) o.st
  | [], o, kk, h => by cases h
  | [(e, d)], o, kk, h => by
    have go : ∀ (s : St), o.st = s → e.out s = o → d.ext s kk = some r → ∃ (oc : Oc [(e, d)]) (e2 : Ek) (d2 : Desc) (y : Vars d2), (e2, d2) ∈ [(e, d)] ∧ kk oc = some r ∧
        (∀ (R' : Type) (base : St) (kk0 : Out → Option R'), ocRun base [(e, d)] oc kk0 = kk0 (e2.out (d2.mk2 y base))) ∧ e2.out o.st = o ∧ ∀ s0, Le s0 o.st → Le (d2.mk2 y s0) o.st := fun s hs he hx => by
      obtain ⟨y, h1, h2⟩ := ext_ok hx
      exact ⟨y, e, d, y, List.mem_singleton.2 rfl, h1, fun _ _ _ => rfl, by rw [hs]; exact he, by rw [hs]; exact h2⟩
    cases e <;> cases o <;> simp only [ocOf] at h <;> first | (cases h; done) | skip
    · exact go _ rfl rfl h
    · split at h
      · rename_i hij
        subst hij
        exact go _ rfl rfl h
      · cases h
    · exact go _ rfl rfl h
  | (e, d) :: d' :: ex, o, kk, h => by
    have go : ∀ (s : St), o.st = s → e.out s = o → (d.ext s fun x => kk (.inl x)) = some r → ∃ (oc : Oc ((e, d) :: d' :: ex)) (e2 : Ek) (d2 : Desc) (y : Vars d2), (e2, d2) ∈ (e, d) :: d' :: ex ∧ kk oc = some r ∧
        (∀ (R' : Type) (base : St) (kk0 : Out → Option R'), ocRun base ((e, d) :: d' :: ex) oc kk0 = kk0 (e2.out (d2.mk2 y base))) ∧ e2.out o.st = o ∧ ∀ s0, Le s0 o.st → Le (d2.mk2 y s0) o.st := fun s hs he hx => by
      obtain ⟨y, h1, h2⟩ := ext_ok hx
      exact ⟨.inl y, e, d, y, List.mem_cons_self, h1, fun _ _ _ => rfl, by rw [hs]; exact he, by rw [hs]; exact h2⟩
    have on : (ocOf (d' :: ex) o fun x => kk (.inr x)) = some r → ∃ (oc : Oc ((e, d) :: d' :: ex)) (e2 : Ek) (d2 : Desc) (y : Vars d2), (e2, d2) ∈ (e, d) :: d' :: ex ∧ kk oc = some r ∧
        (∀ (R' : Type) (base : St) (kk0 : Out → Option R'), ocRun base ((e, d) :: d' :: ex) oc kk0 = kk0 (e2.out (d2.mk2 y base))) ∧ e2.out o.st = o ∧ ∀ s0, Le s0 o.st → Le (d2.mk2 y s0) o.st := fun hx => by
      obtain ⟨oc, e2, d2, y, h1, h2, h3, h4, h5⟩ := ocOf_ok hx
      exact ⟨.inr oc, e2, d2, y, List.mem_cons_of_mem _ h1, h2, fun R' base kk0 => h3 R' base kk0, h4, h5⟩
    cases e <;> cases o <;> simp only [ocOf] at h <;> first | exact on h | skip
    · exact go _ rfl rfl h
    · split at h
      · rename_i hij
        subst hij
        exact go _ rfl rfl h
      · exact on h
    · exact go _ rfl rfl h

def closedAll (c : Desc) (ex : List (Ek × Desc)) : Bool := ex.all fun d => closed2 c d.2

theorem closedAll_mem {c : Desc} {ex : List (Ek × Desc)} (h : closedAll c ex = true) {e : Ek} {d : Desc} (hd : (e, d) ∈ ex) : closed2 c d = true := List.all_eq_true.1 h (e, d) hd

/-- an outcome, once it is typed, is told by what the types tell -/
theorem chk_ok (h : Rel P X N s g F ow tm w) {c : Desc} {ex : List (Ek × Desc)} (hcl : closedAll c ex = true) {kk : Out → Option R} {o : Out} (hs : o.st = s)
    (hr : (chk c ex o fun c' oc => ocRun (c.mk2 c' .empty) ex oc kk) = some r) : ∃ (e : Ek) (s' : St) (g' : Gs), e.out o.st = o ∧ kk (e.out s') = some r ∧ Rel P X N s' g' F ow tm w := by
  obtain ⟨c', h1, h2⟩ := ext_ok hr
  obtain ⟨oc, e, d, y, h3, h4, h5, h6, h7⟩ := ocOf_ok h1
  simp only [h5] at h4
  rw [hs] at h2 h7
  obtain ⟨g0, hg⟩ := h.desc (closedAll_mem hcl h3) h2 h7
  exact ⟨e, _, g0, h6, h4, hg⟩

theorem outP_chk {c : Desc} {ex : List (Ek × Desc)} (hcl : closedAll c ex = true) {kk : Out → Option R} {e : Exit}
    (h : OutP P X N (fun o => chk c ex o fun c' oc => ocRun (c.mk2 c' .empty) ex oc kk) r e a w) : OutP P X N kk r e a w := by
  cases e with
  | normal =>
    obtain ⟨hd, s, g, F, ow, h1, h2⟩ := h
    obtain ⟨e, s', g', q1, q2, q3⟩ := chk_ok h2 hcl rfl h1
    cases e <;> simp only [Ek.out, Out.st] at q1 <;> first | (cases q1; done) | skip
    exact ⟨hd, s', g', F, ow, q2, q3⟩
  | exit i =>
    obtain ⟨hd, s, g, F, ow, h1, h2⟩ := h
    obtain ⟨e, s', g', q1, q2, q3⟩ := chk_ok h2 hcl rfl h1
    cases e <;> simp only [Ek.out, Out.st] at q1 <;> first | (cases q1; done) | skip
    injection q1 with q1 _
    subst q1
    exact ⟨hd, s', g', F, ow, q2, q3⟩
  | ret =>
    obtain ⟨hd, s, g, F, ow, h1, h2⟩ := h
    obtain ⟨e, s', g', q1, q2, q3⟩ := chk_ok h2 hcl rfl h1
    cases e <;> simp only [Ek.out, Out.st] at q1 <;> first | (cases q1; done) | skip
    exact ⟨hd, s', g', F, ow, q2, q3⟩
  | outgrown => exact h
  | goto _ => exact h
  | panic _ => exact h

theorem sub_if {subs : Bool → Nat → Option Sub} (hE : EnvOk P E) (hN : E.n = N) (hlo : E.lo = X.lo) {u : Sub} {c : Code} (hg : Good P X N E subs c) (h1 : closed2 u.c u.v = true) (h2 : closedAll u.c u.ex = true)
    (eq : ∀ (R : Type) (xc : Vars u.c) (xv : Vars u.v) (kk : Vars u.c → Oc u.ex → Option R), evC E subs c (u.v.mk2 xv (u.c.mk2 xc .empty)) (fun o => chk u.c u.ex o kk) = u.f R xc xv kk) : SubOk P X N u c := by
  intro R r kk s g F ow a w h hdf hr
  unfold Sub.run at hr
  obtain ⟨xc, q1, q2⟩ := ext_ok hr
  obtain ⟨xv, q3, q4⟩ := ext_ok q1
  obtain ⟨g0, hg0⟩ := h.desc h1 q2 q4
  rw [← eq] at q3
  exact wp_mono (evC_ok hE hN hlo hg hg0 hdf q3) fun e a' w' hq => outP_chk h2 hq

theorem exists_min {p : Nat → Prop} (h : ∃ n, p n) : ∃ n, p n ∧ ∀ m, p m → n ≤ m := by
  obtain ⟨n, hn⟩ := h
  induction n using Nat.strongRecOn with
  | _ n ih =>
    by_cases hm : ∃ m, m < n ∧ p m
    · obtain ⟨m, h1, h2⟩ := hm
      exact ih m h1 h2
    · exact ⟨n, hn, fun m h => Nat.le_of_not_lt fun hl => hm ⟨m, hl, h⟩⟩

open Classical in
theorem loopM_some {S A : Type} {step : S → Option (S ⊕ A)} {s : S} {y : A} (h : loopM step s = some y) : ∃ n, iter step n s = some y := by
  unfold loopM at h
  split at h
  · rename_i hx
    injection h with h
    exact ⟨_, h ▸ hx.choose_spec.choose_spec⟩
  · cases h

open Classical in
theorem sub_loop {subs : Bool → Nat → Option Sub} (hE : EnvOk P E) (hN : E.n = N) (hlo : E.lo = X.lo) {c v : Desc} {ex : List (Ek × Desc)} {body : Code} (hg : Good P X N E subs body) (hc1 : closed2 c v = true) (hc2 : closedAll c ex = true)
    {stepK : (R : Type) → Vars c → Vars v → (Vars c → (Vars v ⊕ Oc ex) → Option R) → Option R}
    (eq : ∀ (R : Type) (xc : Vars c) (xv : Vars v) (kk : Vars c → (Vars v ⊕ Oc ex) → Option R), evC E subs body (v.mk2 xv (c.mk2 xc .empty)) (fun o => bodyK c v ex o kk) = stepK R xc xv kk) :
    SubOk P X N ⟨c, v, ex, loopF stepK⟩ (.loop body) := by
  intro R r kk s g F ow a w h hdf hr
  unfold Sub.run at hr
  obtain ⟨xc, q1, q2⟩ := ext_ok hr
  obtain ⟨xv, q3, q4⟩ := ext_ok q1
  obtain ⟨g0, hg0⟩ := h.desc hc1 q2 q4
  simp only [loopF, bnd] at q3
  split at q3
  case h_2 => cases q3
  rename_i y hy
  obtain ⟨n, hn⟩ := loopM_some hy
  let J : Act → World → Nat → Prop := fun a w n => Frm X a ∧ ∃ (xc : Vars c) (xv : Vars v) (g : Gs) (F : Nat → Prop) (ow : Nat → Option Nat), iter (round stepK) n (xc, xv) = some y ∧ Rel P X N (v.mk2 xv (c.mk2 xc .empty)) g F ow a.tmps w
  let μ : Act → World → Nat := fun a w => if h : ∃ n, J a w n then Classical.choose (exists_min h) else 0
  have hμ : ∀ a w n, J a w n → J a w (μ a w) ∧ μ a w ≤ n := fun a w n hn => by
    have hx : ∃ n, J a w n := ⟨n, hn⟩
    have := Classical.choose_spec (exists_min hx)
    simp only [μ, dif_pos hx]
    exact ⟨this.1, this.2 n hn⟩
  refine wp_loop (fun a w => ∃ n, J a w n) μ ⟨n, hdf, xc, xv, g0, F, ow, hn, hg0⟩ fun a1 w1 ⟨n1, hJ⟩ => ?_
  obtain ⟨hd1, xc1, xv1, g1, F1, ow1, i1, r1⟩ := (hμ a1 w1 n1 hJ).1
  cases hm : μ a1 w1 with
  | zero => rw [hm] at i1; cases i1
  | succ m =>
  rw [hm] at i1
  simp only [iter] at i1
  split at i1
  · cases i1
  · -- on with it
    rename_i s2 hs2
    unfold round at hs2
    rw [← eq] at hs2
    refine wp_mono (evC_ok hE hN hlo hg r1 hd1 hs2) fun e a' w' hq => ?_
    cases e with
    | normal =>
      obtain ⟨hd2, s3, g3, F3, ow3, k1, k2⟩ := hq
      obtain ⟨c', e1, e2⟩ := ext_ok k1
      obtain ⟨x', e3, e4⟩ := ext_ok e1
      simp only [Option.some.injEq, Sum.inl.injEq] at e3
      subst e3
      obtain ⟨g4, hg4⟩ := k2.desc hc1 e2 e4
      have hJ' : J a' w' m := ⟨hd2, c', x', g4, F3, ow3, i1, hg4⟩
      exact ⟨⟨m, hJ'⟩, by have := (hμ a' w' m hJ').2; omega⟩
    | exit i =>
      obtain ⟨hd2, s3, g3, F3, ow3, k1, k2⟩ := hq
      obtain ⟨c', e1, e2⟩ := ext_ok k1
      obtain ⟨oc, ek, d, z, _, e3, _⟩ := ocOf_ok e1
      simp at e3
    | ret =>
      obtain ⟨hd2, s3, g3, F3, ow3, k1, k2⟩ := hq
      obtain ⟨c', e1, e2⟩ := ext_ok k1
      obtain ⟨oc, ek, d, z, _, e3, _⟩ := ocOf_ok e1
      simp at e3
    | outgrown => exact hq
    | goto _ => exact hq
    | panic _ => exact hq
  · rename_i y2 hs2
    injection i1 with i1
    subst i1
    unfold round at hs2
    rw [← eq] at hs2
    refine wp_mono (evC_ok hE hN hlo hg r1 hd1 hs2) fun e a' w' hq => ?_
    have fin : ∀ (o : Out) (s3 : St) (g3 : Gs) (F3 : Nat → Prop) (ow3 : Nat → Option Nat), o.st = s3 → Rel P X N s3 g3 F3 ow3 a'.tmps w' → (c.ext s3 fun c' => ocOf ex o fun x => some (Sum.inr (α := Vars c × Vars v) (c', x))) = some (.inr y2) →
        ∃ (e : Ek) (s' : St) (g' : Gs), e.out o.st = o ∧ kk (e.out s') = some r ∧ Rel P X N s' g' F3 ow3 a'.tmps w' := by
      intro o s3 g3 F3 ow3 hs k2 k1
      obtain ⟨c', e1, e2⟩ := ext_ok k1
      obtain ⟨oc, ek, d, z, e3, e4, e5, e6, e7⟩ := ocOf_ok e1
      simp only [Option.some.injEq, Sum.inr.injEq] at e4
      subst e4
      simp only [e5] at q3
      rw [hs] at e7
      obtain ⟨g4, hg4⟩ := k2.desc (closedAll_mem hc2 e3) e2 e7
      exact ⟨ek, _, g4, e6, q3, hg4⟩
    cases e with
    | normal =>
      obtain ⟨hd2, s3, g3, F3, ow3, k1, k2⟩ := hq
      obtain ⟨c', e1, e2⟩ := ext_ok k1
      obtain ⟨x', e3, e4⟩ := ext_ok e1
      simp at e3
    | exit i =>
      obtain ⟨hd2, s3, g3, F3, ow3, k1, k2⟩ := hq
      obtain ⟨ek, s', g', f1, f2, f3⟩ := fin (.exit i s3) s3 g3 F3 ow3 rfl k2 k1
      cases ek <;> simp only [Ek.out, Out.st] at f1 <;> first | (cases f1; done) | skip
      injection f1 with f1 _
      subst f1
      exact ⟨hd2, s', g', F3, ow3, f2, f3⟩
    | ret =>
      obtain ⟨hd2, s3, g3, F3, ow3, k1, k2⟩ := hq
      obtain ⟨ek, s', g', f1, f2, f3⟩ := fin (.ret s3) s3 g3 F3 ow3 rfl k2 k1
      cases ek <;> simp only [Ek.out, Out.st] at f1 <;> first | (cases f1; done) | skip
      exact ⟨hd2, s', g', F3, ow3, f2, f3⟩
    | outgrown => exact hq
    | goto _ => exact hq
    | panic _ => exact hq

end
end Go.Proofs.Ytpegmiofhfmepaa.Ev

/- Functions: the entry. -/
set_option linter.unusedSimpArgs false
namespace Go.Proofs.Ytpegmiofhfmepaa.Ev

section
variable {P : Program} {X : Cx} {N : Nat} {a : Act} {s : St} {g : Gs} {F : Nat → Prop} {ow : Nat → Option Nat} {w : World} {R : Type} {r : R} {tm : Array Value} {E : Env}

theorem Rel.putSame (h : Rel P X N s g F ow tm w) {d : Nat} {v : Value} (hv : tm[d]? = some v) {c : PV} (hc : PvOk P g F w c v) : Rel P X N (s.put d c) g F ow tm w := by
  have hd : d < tm.size := (Array.getElem?_eq_some_iff.1 hv).1
  have := h.put (by rw [← h.sz]; exact hd) hc
  have e : tm.setIfInBounds d v = tm := by
    apply Array.ext
    · simp
    · intro i h1 h2
      rw [Array.getElem_setIfInBounds (by simpa using h1)]
      split
      · rename_i e; subst e
        rw [Array.getElem?_eq_getElem h2] at hv
        injection hv with hv
        exact hv.symm
      · rfl
  rw [e] at this
  exact this

/-- the arguments as roots and words -/
theorem init_ok : ∀ {ins : List Pm} {i : Nat} {x : Ps ins} {l : PL ins} {vs : List Value} {s : St} {g : Gs} {ow : Nat → Option Nat}, Rel P X N s g F ow tm w → (∀ j, i ≤ j → g j = none) → ArgsOk P w F ins x l vs →
    (∀ j v, vs[j]? = some v → tm[i + j]? = some v) → (argFp ins x l ++ (argBs ins l).map (·.1)).Nodup → (∀ b ∈ argFp ins x l ++ (argBs ins l).map (·.1), ow b = none ∧ ¬ F b ∧ b < w.heap.size) →
    (∀ b ∈ argFp ins x l, X.free b) → (∀ q ∈ argBs ins l, X.rg q.1 = some q.2) → ∃ g' ow', Rel P X N (initAt i ins x s) g' F ow' tm w
  | [], i, x, l, vs, s, g, ow, h, _, _, _, _, _, _, _ => ⟨g, ow, h⟩
  | .val k :: ps, i, x, l, vs, s, g, ow, h, hg, ha, ht, hnd, hno, hfr, hrg => by
    obtain ⟨v, vs, rfl, h1, h2, h3⟩ := ha
    have hp := h.putSame (d := i) (by simpa using ht 0 v rfl) (c := .one (.v k x.1)) ⟨l.1, h1, h2⟩
    exact init_ok (ins := ps) (l := l.2) hp (fun j hj => hg j (by omega)) h3 (fun j u hu => by have := ht (j + 1) u (by simpa using hu); rwa [show i + (j + 1) = i + 1 + j by omega] at this) hnd hno hfr hrg
  | .fn a b :: ps, i, x, l, vs, s, g, ow, h, hg, ha, ht, hnd, hno, hfr, hrg => by
    obtain ⟨v, vs, rfl, h1, h3⟩ := ha
    have hp := h.putSame (d := i) (by simpa using ht 0 v rfl) (c := .one (.fv a b x.1)) h1
    exact init_ok (ins := ps) (l := l) hp (fun j hj => hg j (by omega)) h3 (fun j u hu => by have := ht (j + 1) u (by simpa using hu); rwa [show i + (j + 1) = i + 1 + j by omega] at this) hnd hno hfr hrg
  | .mov k m :: ps, i, x, l, vs, s, g, ow, h, hg, ha, ht, hnd, hno, hfr, hrg => by
    obtain ⟨v, vs, rfl, h1, h2, h3⟩ := ha
    simp only [argFp, List.append_assoc] at hnd hno
    have hnd2 := List.nodup_append.1 hnd
    have h4 := h.setNew (d := i) (q := ⟨k, m, x.1, false, false, l.1, none⟩) (hg i (Nat.le_refl _)) h1 (fun c o e => by cases e) rfl (by simpa [GR.fp, GR.fpi] using hnd2.1)
      (fun b hb => hno b (List.mem_append.2 (.inl (by simpa [GR.fp, GR.fpi] using hb)))) ⟨fun b hb => hfr b (by simp only [argFp, List.mem_append]; exact .inl hb), fun b o e => by cases e⟩
    have hp := h4.putSame (d := i) (by simpa using ht 0 v rfl) (c := .one (.al i [])) ⟨_, ⟨k, m, x.1, l.1, none⟩, Gs.set_self _ _ _, by simp [GR.at, gat], h2⟩
    refine init_ok (ins := ps) (l := l.2) hp (fun j hj => by rw [Gs.set_ne _ _ (by omega)]; exact hg j (by omega)) h3 (fun j u hu => by have := ht (j + 1) u (by simpa using hu); rwa [show i + (j + 1) = i + 1 + j by omega] at this) hnd2.2.1 (fun b hb => ?_)
      (fun b hb => hfr b (by simp only [argFp, List.mem_append]; exact .inr hb)) hrg
    obtain ⟨e1, e2⟩ := hno b (List.mem_append.2 (.inr hb))
    refine ⟨?_, e2⟩
    rw [owAdd_not]
    · exact e1
    · intro hb'
      exact hnd2.2.2 b (by simpa [GR.fp, GR.fpi] using hb') b hb rfl
  | .mptr k m :: ps, i, x, l, vs, s, g, ow, h, hg, ha, ht, hnd, hno, hfr, hrg => by
    obtain ⟨v, vs, rfl, h1, h2, h2', h3⟩ := ha
    simp only [argFp, argBs, List.map_cons] at hnd hno
    have hmem : ∀ b, b ∈ (fp k m x.1 l.1.1 ++ argFp ps x.2 l.2) ++ l.1.2.1 :: (argBs ps l.2).map (·.1) ↔ (b = l.1.2.1 ∨ b ∈ fp k m x.1 l.1.1) ∨ b ∈ argFp ps x.2 l.2 ++ (argBs ps l.2).map (·.1) := by
      intro b; simp only [List.mem_append, List.mem_cons]
      constructor
      · rintro ((h | h) | h | h)
        · exact .inl (.inr h)
        · exact .inr (.inl h)
        · exact .inl (.inl h)
        · exact .inr (.inr h)
      · rintro ((h | h) | h | h)
        · exact .inr (.inl h)
        · exact .inl (.inl h)
        · exact .inl (.inr h)
        · exact .inr (.inr h)
    simp only [List.nodup_append, List.nodup_cons, List.mem_append, List.mem_cons] at hnd
    obtain ⟨⟨n1, n2, n3⟩, ⟨n4, n5⟩, n6⟩ := hnd
    have hb0 : l.1.2.1 ∉ fp k m x.1 l.1.1 := fun hb => n6 _ (.inl hb) _ (.inl rfl) rfl
    have h4 := h.setNew (d := i) (q := ⟨k, m, x.1, true, false, l.1.1, some l.1.2⟩) (hg i (Nat.le_refl _)) h1 h2 rfl (by simpa [GR.fp, GR.fpi, hb0] using n1)
      (fun b hb => hno b ((hmem b).2 (.inl (by simpa [GR.fp, GR.fpi] using hb)))) ⟨fun b hb => hfr b (by simp only [argFp, List.mem_append]; exact .inl hb), fun b o e => by
        injection e with e
        refine .inr ⟨o, k.size, ?_, Nat.le_refl _, Nat.le_refl _⟩
        have := hrg (l.1.2.1, l.1.2.2, k.size) (by simp [argBs])
        rw [e] at this
        exact this⟩
    have hp := h4.putSame (d := i) (by simpa using ht 0 v rfl) (c := .one (.ptr i [])) ⟨_, ⟨k, m, x.1, l.1.1, some l.1.2⟩, l.1.2, Gs.set_self _ _ _, by simp [GR.at, gat], rfl, h2'⟩
    refine init_ok (ins := ps) (l := l.2) hp (fun j hj => by rw [Gs.set_ne _ _ (by omega)]; exact hg j (by omega)) h3 (fun j u hu => by have := ht (j + 1) u (by simpa using hu); rwa [show i + (j + 1) = i + 1 + j by omega] at this) ?_ (fun b hb => ?_)
      (fun b hb => hfr b (by simp only [argFp, List.mem_append]; exact .inr hb)) (fun q hq => hrg q (by simp only [argBs, List.mem_cons]; exact .inr hq))
    · rw [List.nodup_append]
      exact ⟨n2, n5, fun b hb c hc => n6 b (.inr hb) c (.inr hc)⟩
    · obtain ⟨e1, e2⟩ := hno b ((hmem b).2 (.inr hb))
      refine ⟨?_, e2⟩
      rw [owAdd_not]
      · exact e1
      · intro hb'
        simp only [GR.fp, GR.fpi, Option.map_some, Option.toList_some, List.singleton_append, List.mem_cons] at hb'
        rw [List.mem_append] at hb
        rcases hb' with rfl | hb'
        · rcases hb with hb | hb
          · exact n6 _ (.inr hb) _ (.inl rfl) rfl
          · exact n4 hb
        · rcases hb with hb | hb
          · exact n3 b hb' b hb rfl
          · exact n6 b (.inl hb') b (.inr hb) rfl

end
end Go.Proofs.Ytpegmiofhfmepaa.Ev

/- Functions: what they return. -/
set_option linter.unusedSimpArgs false
namespace Go.Proofs.Ytpegmiofhfmepaa.Ev

section
variable {P : Program} {X : Cx} {N : Nat} {a : Act} {s : St} {g : Gs} {F : Nat → Prop} {ow : Nat → Option Nat} {w : World} {R : Type} {r : R} {tm : Array Value} {E : Env}

theorem clear_lr : ∀ {m : Mk}, m.clear = true → m.l.clear = true ∧ m.r.clear = true ∧ m.owns = false ∧ m ≠ .d
  | .s, _ => ⟨rfl, rfl, rfl, by intro h; cases h⟩
  | .pr a b, h => by
    simp only [Mk.clear, Bool.and_eq_true] at h
    exact ⟨h.1, h.2, rfl, by intro h; cases h⟩

theorem sat_to_clear : ∀ {k : K} {m : Mk} {x : T k} {l : L k}, m.clear = true → sat w F k .s x l → sat w F k m x l
  | .int _, _, _, _, _, _ | .bool, _, _, _, _, _ | .str, _, _, _, _, _ | .unit, _, _, _, _, _ => trivial
  | .pair a b, m, x, l, h, hs => ⟨sat_to_clear (clear_lr h).1 hs.1, sat_to_clear (clear_lr h).2.1 hs.2⟩
  | .sl k, m, xs, l, h, hs => fun _ => by
    obtain ⟨_, _, ho, _⟩ := clear_lr h
    obtain ⟨⟨h1, h2, h3, h5⟩, h4⟩ := hs (by intro h; cases h)
    refine ⟨⟨h1, h2, (fun b o hb => ⟨(fun h => by rw [ho] at h; cases h), fun hx => ⟨fun _ => ((h3 b o hb).2 hx).1 rfl, ((h3 b o hb).2 hx).2⟩⟩), (fun h => by rw [ho] at h; cases h)⟩, fun i x hx => ?_⟩
    rw [Mk.inner_s ho]
    exact h4 i x hx

/-- the value of a result variable -/
def resRun (P : Program) (tm : Array Value) : ResultVar → Sem Value
  | .tmp t => pure (tm.getD t undef)
  | .cell a t => do loadVar t (← asAddr (tm.getD a undef))

theorem takeRes_tmp (h : Rel P X N s g F ow a.tmps w) {t : Nat} {k : K} {m : Mk} {kk : T k → St → Option R} (hr : takeRes E s (.tmp t) k m kk = some r) :
    ∃ (x : T k) (l : L k) (s' : St) (g' : Gs) (ow' : Nat → Option Nat), kk x s' = some r ∧ Rel P X N s' g' F ow' a.tmps w ∧ (∀ b t, ow' b = some t → ow b = some t) ∧ a.tmps.getD t undef = valOf k x l ∧
      Taken X F ow' w k m x l ∧ (∀ b ∈ fp k m x l, ∃ t, ow b = some t) := by
  have hc := h.opd (.tmp t)
  simp only [takeRes] at hr
  have hv : a.eval (.tmp t) = a.tmps.getD t undef := rfl
  rw [hv] at hc
  split at hr
  · rename_i hp
    rw [hp] at hc
    obtain ⟨q, h1, h2⟩ := hc
    split at hr
    · exact ⟨[], ((q, 0), fun _ => zeroL _), s, g, ow, hr, h, fun _ _ h => h, h1, nilZ_taken h h2, fun b hb => by rw [nilZ_fp] at hb; cases hb⟩
    · cases hr
  · cases hm : m.clear with
    | true =>
      rw [hm] at hr
      simp only [cond_true] at hr
      obtain ⟨k', m', x, l, q1, q2, q3, q4⟩ := read_ok h hc hr
      simp only at q1
      split at q1
      case isFalse => cases q1
      rename_i hk
      subst hk
      cases hm' : m'.clear with
      | false => rw [hm'] at q1; cases q1
      | true =>
      rw [hm'] at q1
      have hw : m'.whole = true := by
        clear q1 q2 q3 q4 hr hc
        induction m' with
        | s => rfl
        | d => cases hm'
        | o m => cases hm'
        | pr a b iha ihb => simp [Mk.clear] at hm'; simp [Mk.whole, iha hm'.1, ihb hm'.2]
      have hs := sat_frame (satV_lend hw q2) (fun _ _ => rfl) (F' := F) (fun b hb => hb.elim id fun hb => by rw [fp_clear hm'] at hb; cases hb)
      exact ⟨x, l, s, g, ow, q1, h, fun _ _ h => h, q3, ⟨sat_to_clear hm hs, by rw [fp_clear hm]; simp, fun b hb => by rw [fp_clear hm] at hb; cases hb⟩, fun b hb => by rw [fp_clear hm] at hb; cases hb⟩
    | false =>
      rw [hm] at hr
      simp only [cond_false] at hr
      obtain ⟨k', m', x, l, s', g', ow', p1, p2, p3, p4, p5, p6, p7, p8⟩ := take_ok h hc.weak hr
      simp only at p1
      split at p1
      case isFalse => cases p1
      rename_i hk
      subst hk
      split at p1
      case isFalse => cases p1
      rename_i hm'
      subst hm'
      exact ⟨x, l, s', g', ow', p1, p2, p4, p5, p6, fun b hb => by obtain ⟨t, _, e⟩ := p8 b hb; exact ⟨t, e⟩⟩

theorem takeRes_cell (h : Rel P X N s g F ow a.tmps w) (hE : EnvOk P E) {t ty : Nat} {k : K} {m : Mk} {kk : T k → St → Option R} (hr : takeRes E s (.cell t ty) k m kk = some r) :
    ∃ (x : T k) (l : L k) (s' : St) (g' : Gs) (ow' : Nat → Option Nat), kk x s' = some r ∧ Rel P X N s' g' F ow' a.tmps w ∧ (∀ b t, ow' b = some t → ow b = some t) ∧ (resRun P a.tmps (.cell t ty)).run P w = .ok (valOf k x l) w ∧
      Taken X F ow' w k m x l ∧ (∀ b ∈ fp k m x l, ∃ t, ow b = some t) := by
  have hc := h.opd (.tmp t)
  simp only [takeRes] at hr
  have hv : a.eval (.tmp t) = a.tmps.getD t undef := rfl
  rw [hv] at hc
  split at hr
  case h_2 => cases hr
  rename_i u hp
  rw [hp] at hc
  split at hr
  case h_2 => cases hr
  rename_i rt hrt
  obtain ⟨q, hg, rfl⟩ := h.rootOf hrt
  obtain ⟨q', c, y, h1, h2, h3, h4⟩ := hc
  rw [hg] at h1; injection h1 with h1; subst h1
  simp [GR.at, gat] at h2
  subst h2
  split at hr
  case isFalse => cases hr
  rename_i hk
  split at hr
  case isFalse => cases hr
  rename_i hm
  obtain ⟨hm1, hm2, hty⟩ := hm
  obtain ⟨qk, qm, qx, qmem, qtmp, ql, qb⟩ := q
  simp only [GR.rt] at hk hm1
  subst hk; subst hm1
  simp only at h3
  subst h3
  have hqfp := h.nd u _ hg
  simp only [GR.fp, GR.fpi, List.nodup_append] at hqfp
  have hin : ∀ b ∈ fp qk qm qx ql, ow b = some u := fun b hb => h.ho u _ hg b (by simp only [GR.fp, GR.fpi, List.mem_append]; exact .inr hb)
  refine ⟨qx, ql, s.drop u, g.set u none, owDrop ow u, hr, h.drop u, owDrop_le ow u, ?_, ⟨h.sat u _ hg, hqfp.2.1, fun b hb => ?_⟩, fun b hb => ⟨u, hin b hb⟩⟩
  · have hb := h.mem u _ hg y.1 y.2 rfl
    have := run_loadK (P := P) (hE.ty ty qk hty) (x := qx) (l := ql) hb
    simp only [resRun, Sem.run_bind, h4, adr, Option.map_some, asAddr]
    exact this
  · have ho := hin b hb
    refine ⟨by simp [owDrop, ho], fun hF => ?_, h.lt b u ho, (h.own u _ hg).1 b hb⟩
    rw [(h.hF b hF).1] at ho; cases ho

end
end Go.Proofs.Ytpegmiofhfmepaa.Ev

/- Functions: all results. -/
set_option linter.unusedSimpArgs false
namespace Go.Proofs.Ytpegmiofhfmepaa.Ev

section
variable {P : Program} {X : Cx} {N : Nat} {a : Act} {s : St} {g : Gs} {F : Nat → Prop} {ow : Nat → Option Nat} {w : World} {R : Type} {r : R} {tm : Array Value} {E : Env}

theorem takeRes_ok (h : Rel P X N s g F ow a.tmps w) (hE : EnvOk P E) {v : ResultVar} {k : K} {m : Mk} {kk : T k → St → Option R} (hr : takeRes E s v k m kk = some r) :
    ∃ (x : T k) (l : L k) (s' : St) (g' : Gs) (ow' : Nat → Option Nat), kk x s' = some r ∧ Rel P X N s' g' F ow' a.tmps w ∧ (∀ b t, ow' b = some t → ow b = some t) ∧ (resRun P a.tmps v).run P w = .ok (valOf k x l) w ∧
      Taken X F ow' w k m x l ∧ (∀ b ∈ fp k m x l, ∃ t, ow b = some t) := by
  cases v with
  | tmp t =>
    obtain ⟨x, l, s', g', ow', h1, h2, h3, h4, h5, h6⟩ := takeRes_tmp h hr
    exact ⟨x, l, s', g', ow', h1, h2, h3, by simp only [resRun, Sem.run_pure, h4], h5, h6⟩
  | cell t ty => exact takeRes_cell h hE hr

theorem resOf_ok (hE : EnvOk P E) : ∀ {vs : List ResultVar} {rs : List (K × Mk)} {s : St} {g : Gs} {ow : Nat → Option Nat} {kk : Rs rs → St → Option R}, Rel P X N s g F ow a.tmps w → resOf E s vs rs kk = some r →
    ∃ (x : Rs rs) (l : L (resK rs)) (s' : St) (g' : Gs) (ow' : Nat → Option Nat), kk x s' = some r ∧ Rel P X N s' g' F ow' a.tmps w ∧ (∀ b t, ow' b = some t → ow b = some t) ∧
      (vs.mapM (resRun P a.tmps)).run P w = .ok (resVals rs x l) w ∧ Taken X F ow' w (resK rs) (resM rs) x l ∧ (∀ b ∈ fp (resK rs) (resM rs) x l, ∃ t, ow b = some t)
  | [], [], s, g, ow, kk, h, hr => ⟨(), (), s, g, ow, hr, h, fun _ _ h => h, rfl, ⟨trivial, List.nodup_nil, fun b hb => by cases hb⟩, fun b hb => by cases hb⟩
  | [], _ :: _, _, _, _, _, _, hr => by cases hr
  | _ :: _, [], _, _, _, _, _, hr => by cases hr
  | v :: vs, (k, m) :: rs, s, g, ow, kk, h, hr => by
    simp only [resOf] at hr
    obtain ⟨x, l, s1, g1, ow1, q1, q2, q3, q4, q5, q6⟩ := takeRes_ok h hE hr
    obtain ⟨xs, ls, s2, g2, ow2, p1, p2, p3, p4, p5, p6⟩ := resOf_ok hE q2 q1
    have hfp : fp (resK ((k, m) :: rs)) (resM ((k, m) :: rs)) (x, xs) (l, ls) = fp k m x l ++ fp (resK rs) (resM rs) xs ls := by simp only [resK, resM, fp, Mk.mkp_l, Mk.mkp_r]
    have q5' := q5.le p3
    refine ⟨(x, xs), (l, ls), s2, g2, ow2, p1, p2, fun b t hb => q3 b t (p3 b t hb), ?_, ⟨⟨by simp only [resM, Mk.mkp_l]; exact q5.sat, by simp only [resM, Mk.mkp_r]; exact p5.sat⟩, ?_, fun b hb => ?_⟩, fun b hb => ?_⟩
    · simp only [List.mapM_cons, Sem.run_bind, q4, p4, Result.andThen_ok, Sem.run_pure, resVals]
    · rw [hfp, List.nodup_append]
      refine ⟨q5.nd, p5.nd, ?_⟩
      rintro b hb b2 hb2 rfl
      obtain ⟨t, e⟩ := p6 b hb2
      rw [(q5.no b hb).1] at e; cases e
    · rw [hfp, List.mem_append] at hb
      exact hb.elim (q5'.no b) (p5.no b)
    · rw [hfp, List.mem_append] at hb
      rcases hb with hb | hb
      · exact q6 b hb
      · obtain ⟨t, e⟩ := p6 b hb
        exact ⟨t, q3 b t e⟩

theorem results_run {fn : Func} {rs : List (K × Mk)} {x : Rs rs} {l : L (resK rs)} (h : (fn.results.toList.mapM (resRun P a.tmps)).run P w = .ok (resVals rs x l) w) : (results fn a.tmps).run P w = .ok (resVal rs x l) w := by
  have h2 : (fn.results.mapM (resRun P a.tmps)).run P w = .ok (resVals rs x l).toArray w := by
    rw [Array.mapM_eq_mapM_toList, Sem.run_map, h]
    rfl
  have h3 : results fn a.tmps = (fn.results.mapM (resRun P a.tmps)).bind fun vs => Sem.pure (if h : vs.size = 1 then vs[0] else .tuple vs) := by
    unfold results
    rfl
  rw [h3, Sem.run_bind', h2]
  simp only [Result.andThen_ok]
  unfold resVal
  cases resVals rs x l with
  | nil => rfl
  | cons v vs => cases vs with
    | nil => rfl
    | cons u us => rfl

end
end Go.Proofs.Ytpegmiofhfmepaa.Ev

/- Functions: what lies behind pointers at the end. -/
set_option linter.unusedSimpArgs false
namespace Go.Proofs.Ytpegmiofhfmepaa.Ev

section
variable {P : Program} {X : Cx} {N : Nat} {a : Act} {s : St} {g : Gs} {F : Nat → Prop} {ow : Nat → Option Nat} {w : World} {R : Type} {r : R} {tm : Array Value} {E : Env}

theorem outsAt_ok (h : Rel P X N s g F ow a.tmps w) {w0 : World} {F0 : Nat → Prop} : ∀ {ins : List Pm} {i : Nat} {x : Ps ins} {l : PL ins} {vs : List Value} {kk : Rs (Pm.outs ins) → Option R}, ArgsOk P w0 F0 ins x l vs →
    (∀ j v, vs[j]? = some v → a.tmps[i + j]? = some v) → outsAt s i ins kk = some r →
    ∃ (ro : Rs (Pm.outs ins)) (lo : L (resK (Pm.outs ins))), kk ro = some r ∧ OutsOk w F ins l ro lo ∧ (fp (resK (Pm.outs ins)) (resM (Pm.outs ins)) ro lo ++ (argBs ins l).map (·.1)).Nodup ∧
      (∀ b ∈ fp (resK (Pm.outs ins)) (resM (Pm.outs ins)) ro lo ++ (argBs ins l).map (·.1), ∃ t, i ≤ t ∧ ow b = some t) ∧ (∀ b ∈ fp (resK (Pm.outs ins)) (resM (Pm.outs ins)) ro lo, X.free b)
  | [], i, x, l, vs, kk, _, _, hr => ⟨(), (), hr, trivial, List.nodup_nil, (fun b hb => by cases hb), fun b hb => by cases hb⟩
  | .val k :: ps, i, x, l, vs, kk, ⟨v, vs', e, _, _, ha⟩, ht, hr => by
    subst e
    obtain ⟨ro, lo, h1, h2, h3, h4, h5⟩ := outsAt_ok h (ins := ps) (i := i + 1) (x := x.2) (l := l.2) ha (fun j u hu => by have := ht (j + 1) u (by simpa using hu); rwa [show i + (j + 1) = i + 1 + j by omega] at this) hr
    exact ⟨ro, lo, h1, h2, h3, fun b hb => by obtain ⟨t, e1, e2⟩ := h4 b hb; exact ⟨t, by omega, e2⟩, h5⟩
  | .mov k m :: ps, i, x, l, vs, kk, ⟨v, vs', e, _, _, ha⟩, ht, hr => by
    subst e
    obtain ⟨ro, lo, h1, h2, h3, h4, h5⟩ := outsAt_ok h (ins := ps) (i := i + 1) (x := x.2) (l := l.2) ha (fun j u hu => by have := ht (j + 1) u (by simpa using hu); rwa [show i + (j + 1) = i + 1 + j by omega] at this) hr
    exact ⟨ro, lo, h1, h2, h3, fun b hb => by obtain ⟨t, e1, e2⟩ := h4 b hb; exact ⟨t, by omega, e2⟩, h5⟩
  | .fn c d :: ps, i, x, l, vs, kk, ⟨v, vs', e, _, ha⟩, ht, hr => by
    subst e
    obtain ⟨ro, lo, h1, h2, h3, h4, h5⟩ := outsAt_ok h (ins := ps) (i := i + 1) (x := x.2) (l := l) ha (fun j u hu => by have := ht (j + 1) u (by simpa using hu); rwa [show i + (j + 1) = i + 1 + j by omega] at this) hr
    exact ⟨ro, lo, h1, h2, h3, fun b hb => by obtain ⟨t, e1, e2⟩ := h4 b hb; exact ⟨t, by omega, e2⟩, h5⟩
  | .mptr k m :: ps, i, x, l, vs, kk, ⟨v, vs', e, _, _, hv, ha⟩, ht, hr => by
    subst e
    simp only [outsAt] at hr
    split at hr
    case h_2 => cases hr
    rename_i t hsl
    cases hti : Nat.beq t i with
    | false => rw [hti] at hr; cases hr
    | true =>
    rw [hti] at hr
    have hti := Nat.eq_of_beq_eq_true hti
    subst hti
    simp only [cond_true] at hr
    split at hr
    case h_2 => cases hr
    rename_i rt hrt
    obtain ⟨q, hg, rfl⟩ := h.rootOf hrt
    split at hr
    case isFalse => cases hr
    rename_i hk
    split at hr
    case isFalse => cases hr
    rename_i hm
    obtain ⟨qk, qm, qx, qmem, qtmp, ql, qb⟩ := q
    simp only [GR.rt] at hk hm
    subst hk; subst hm
    -- the base is the entry's
    have hslot := h.slot t
    rw [hsl] at hslot
    obtain ⟨q', c, y, e1, e2, e3, e4⟩ := hslot
    rw [hg] at e1; injection e1 with e1; subst e1
    simp [GR.at, gat] at e2
    subst e2
    simp only at e3
    subst e3
    have hval := ht 0 v rfl
    rw [Nat.add_zero] at hval
    have : a.tmps.getD t undef = v := by rw [Array.getD_eq_getD_getElem?, hval]; rfl
    rw [this, hv] at e4
    injection e4 with e4
    have e5 := adr_inj e4
    injection e5 with e5
    subst e5
    obtain ⟨ro, lo, h1, h2, h3, h4, h5⟩ := outsAt_ok h (ins := ps) (i := t + 1) (x := x.2) (l := l.2) ha (fun j u hu => by have := ht (j + 1) u (by simpa using hu); rwa [show t + (j + 1) = t + 1 + j by omega] at this) hr
    have hqn := h.nd t _ hg
    have hqo := h.ho t _ hg
    simp only [GR.fp, GR.fpi, Option.map_some, Option.toList_some, List.singleton_append, List.nodup_cons, List.mem_cons] at hqn hqo
    have hfp : fp (resK (Pm.outs (.mptr qk qm :: ps))) (resM (Pm.outs (.mptr qk qm :: ps))) (qx, ro) (ql, lo) = fp qk qm qx ql ++ fp (resK (Pm.outs ps)) (resM (Pm.outs ps)) ro lo := by simp only [Pm.outs, resK, resM, fp, Mk.mkp_l, Mk.mkp_r]
    refine ⟨(qx, ro), (ql, lo), h1, ⟨h.sat t _ hg, h.mem t _ hg, h2⟩, ?_, fun b hb => ?_, fun b hb => ?_⟩
    · rw [hfp]
      simp only [argBs, List.map_cons, List.nodup_append, List.nodup_cons, List.mem_append, List.mem_cons]
      rw [List.nodup_append] at h3
      have hne : ∀ b, ow b = some t → ¬ (b ∈ fp (resK (Pm.outs ps)) (resM (Pm.outs ps)) ro lo ∨ b ∈ (argBs ps l.2).map (·.1)) := fun b hb hb' => by
        obtain ⟨u, f1, f2⟩ := h4 b (List.mem_append.2 hb')
        rw [hb] at f2; injection f2 with f2; omega
      refine ⟨⟨hqn.2, h3.1, fun b hb c hc e => hne b (hqo b (.inr hb)) (.inl (e ▸ hc))⟩, ⟨fun hb => hne _ (hqo _ (.inl rfl)) (.inr hb), h3.2.1⟩, ?_⟩
      rintro b (hb | hb) c (hc | hc) e
      · exact hqn.1 (by rw [← hc, ← e]; exact hb)
      · exact hne b (hqo b (.inr hb)) (.inr (e ▸ hc))
      · exact hne c (hqo c (.inl hc)) (.inl (e ▸ hb))
      · exact h3.2.2 b hb c hc e
    · rw [hfp] at hb
      simp only [argBs, List.map_cons, List.mem_append, List.mem_cons] at hb
      rcases hb with (hb | hb) | hb | hb
      · exact ⟨t, Nat.le_refl _, hqo b (.inr hb)⟩
      · obtain ⟨u, f1, f2⟩ := h4 b (List.mem_append.2 (.inl hb)); exact ⟨u, by omega, f2⟩
      · exact ⟨t, Nat.le_refl _, hqo b (.inl hb)⟩
      · obtain ⟨u, f1, f2⟩ := h4 b (List.mem_append.2 (.inr hb)); exact ⟨u, by omega, f2⟩
    · rw [hfp, List.mem_append] at hb
      exact hb.elim ((h.own t _ hg).1 b) (h5 b)

end
end Go.Proofs.Ytpegmiofhfmepaa.Ev

/- Functions: the contract. -/
set_option linter.unusedSimpArgs false
namespace Go.Proofs.Ytpegmiofhfmepaa.Ev

section
variable {P : Program} {X : Cx} {N : Nat} {F : Nat → Prop} {w : World} {E : Env}

/-- nothing is known yet -/
theorem Rel.start {X : Cx} {tm : Array Value} (h0 : X.w0 = w) (h1 : X.F0 = F) (hF : ∀ b, F b → b < w.heap.size) (hsz : tm.size = N)
    (hrg : ∀ b o n, X.rg b = some (o, n) → Blk w b fun _ => True) : Rel P X N .empty (fun _ => none) F (fun _ => none) tm w where
  root := fun _ => rfl
  slot := fun _ => trivial
  sat := fun t r h => by cases h
  mem := fun t r h => by cases h
  mb := fun t r h => by cases h
  ho := fun t r h => by cases h
  nd := fun t r h => by cases h
  hF := fun b hb => ⟨rfl, hF b hb⟩
  lt := fun b t h => by cases h
  own := fun t r h => by cases h
  F0 := fun b hb => by rw [h1] at hb; exact hb
  Fnew := fun b hb => .inl (by rw [h1]; exact hb)
  kept := fun b _ _ => by
    rw [h0]
    cases hr : X.rg b with
    | none => rfl
    | some q =>
      obtain ⟨o, n⟩ := q
      obtain ⟨cs, e, fr, c1, _, _⟩ := hrg b o n hr
      exact ⟨cs, e, fr, cs, c1, c1, rfl, fun _ _ => rfl⟩
  size := by rw [h0]; exact Nat.le_refl _
  os := by rw [h0]
  tape := by rw [h0]
  out := by rw [h0]
  sz := hsz
  big := fun _ _ => rfl

theorem ArgsOk.length : ∀ {ins : List Pm} {x : Ps ins} {l : PL ins} {vs : List Value}, ArgsOk P w F ins x l vs → vs.length = ins.length
  | [], _, _, _, h => by rw [h]; rfl
  | .val _ :: ps, _, _, _, ⟨v, vs, h1, _, _, h2⟩ => by rw [h1]; simp [ArgsOk.length h2]
  | .mov _ _ :: ps, _, _, _, ⟨v, vs, h1, _, _, h2⟩ => by rw [h1]; simp [ArgsOk.length h2]
  | .mptr _ _ :: ps, _, _, _, ⟨v, vs, h1, _, _, _, h2⟩ => by rw [h1]; simp [ArgsOk.length h2]
  | .fn _ _ :: ps, _, _, _, ⟨v, vs, h1, _, h2⟩ => by rw [h1]; simp [ArgsOk.length h2]

theorem find_rg : ∀ {bs : List (Nat × Nat × Nat)}, (bs.map (·.1)).Nodup → ∀ q ∈ bs, (bs.find? fun y => Nat.beq y.1 q.1).map (·.2) = some q.2
  | [], _, q, hq => by cases hq
  | y :: bs, h, q, hq => by
    simp only [List.map_cons, List.nodup_cons] at h
    rw [List.find?_cons]
    rcases List.mem_cons.1 hq with rfl | hq
    · simp
    · have hne : y.1 ≠ q.1 := fun e => h.1 (List.mem_map.2 ⟨q, hq, e.symm⟩)
      rw [beq_ne hne]
      exact find_rg h.2 q hq

theorem base_blk : ∀ {ins : List Pm} {x : Ps ins} {l : PL ins} {vs : List Value}, ArgsOk P w F ins x l vs → ∀ q ∈ argBs ins l, Blk w q.1 fun _ => True
  | [], _, _, _, _, q, hq => by cases hq
  | .val _ :: ps, _, l, _, ⟨_, _, _, _, _, h⟩, q, hq => base_blk (ins := ps) (l := l.2) h q hq
  | .mov _ _ :: ps, _, l, _, ⟨_, _, _, _, _, h⟩, q, hq => base_blk (ins := ps) (l := l.2) h q hq
  | .fn _ _ :: ps, _, l, _, ⟨_, _, _, _, h⟩, q, hq => base_blk (ins := ps) (l := l) h q hq
  | .mptr k m :: ps, _, l, _, ⟨_, _, _, _, hb, _, h⟩, q, hq => by
    rcases List.mem_cons.1 hq with rfl | hq
    · exact (hb l.1.2.1 l.1.2.2 rfl).mono fun _ _ => trivial
    · exact base_blk (ins := ps) h q hq

theorem sound_of {sg : Sig} {f : Nat} {fn : Func} {c : Code} {subs : Bool → Nat → Option Sub} (hf : P.funcs[f]? = some fn) (hb : fn.body = some c) (hname : fn.name ≠ "runtime.NumGoroutine") (hE : EnvOk P E) (hn : E.n = fn.ntmps)
    (hlo : E.lo = sg.ins.length) (hlen : sg.ins.length ≤ fn.ntmps) (hgood : ∀ X : Cx, E.lo = X.lo → Good P X E.n E subs c) (heq : ∀ x r, sg.fn x = some r → evF E subs fn sg.ins sg.res x = some r) : Sound P f sg := by
  refine ⟨⟨fn, hf, by rw [hb]; rfl, hname⟩, fun x r hr w F l vs ha hnd hno hlt => calls_of_wp hf hb ?_⟩
  have hvl := ha.length
  obtain ⟨tm, htm⟩ : ∃ tm : Array Value, tm = vs.toArray ++ Array.replicate (fn.ntmps - vs.toArray.size) undef := ⟨_, rfl⟩
  rw [← htm]
  have hsz : tm.size = E.n := by rw [htm, hn]; simp; omega
  have hts : ∀ j v, vs[j]? = some v → tm[0 + j]? = some v := fun j v hj => by
    have hl := (List.getElem?_eq_some_iff.1 hj).1
    rw [htm, Nat.zero_add, Array.getElem?_append_left (by simpa using hl)]
    simpa using hj
  have hbn : ((argBs sg.ins l).map (·.1)).Nodup := (List.nodup_append.1 hnd).2.1
  let X : Cx := ⟨w, F, fun b => b ∈ argFp sg.ins x l, fun b => ((argBs sg.ins l).find? fun y => Nat.beq y.1 b).map (·.2), E.lo, tm⟩
  have hstart : Rel P X E.n .empty (fun _ => none) F (fun _ => none) tm w := Rel.start rfl rfl hlt hsz fun b o n hq => by
    simp only [X] at hq
    cases hfd : (argBs sg.ins l).find? fun y => Nat.beq y.1 b with
    | none => rw [hfd] at hq; cases hq
    | some q =>
      have h1 := List.mem_of_find?_eq_some hfd
      have h2 : Nat.beq q.1 b = true := by have := List.find?_some hfd; exact this
      have h2 := Nat.eq_of_beq_eq_true h2
      rw [← h2]
      exact base_blk ha q h1
  obtain ⟨g, ow, hrel⟩ := init_ok (ins := sg.ins) (i := 0) (x := x) (l := l) hstart (fun _ _ => rfl) ha hts hnd (fun b hb => ⟨rfl, hno b hb⟩) (fun b hb => .inr hb) (fun q hq => find_rg hbn q hq)
  have hev := heq x r hr
  unfold evF at hev
  rw [hb] at hev
  simp only at hev
  have hwp := evC_ok hE rfl rfl (X := X) (hgood X rfl) (a := ⟨tm, []⟩) hrel ⟨rfl, fun _ _ => rfl⟩ hev
  have fin : ∀ (a' : Act) (w' : World), Frm X a' → (∃ s g F' ow, (resOf E s fn.results.toList sg.res fun r s => outsAt s 0 sg.ins fun b => some (r, b)) = some r ∧ Rel P X E.n s g F' ow a'.tmps w') →
      a'.defers = [] ∧ ∃ v, (results fn a'.tmps).run P w' = .ok v w' ∧ CallPost w F sg x l r (.returned v) w' := by
    rintro a' w' ⟨hd, hfr⟩ ⟨s, g, F', ow, h1, h2⟩
    obtain ⟨xr, lr, s2, g2, ow2, q1, q2, q3, q4, q5, q6⟩ := resOf_ok hE h2 h1
    obtain ⟨ro, lo, p1, p2, p3, p4, p5⟩ := outsAt_ok q2 (ins := sg.ins) (i := 0) ha (fun j v hj => by
      have hl := (List.getElem?_eq_some_iff.1 hj).1
      have := hfr (0 + j) (by show 0 + j < E.lo; omega)
      rw [this]
      exact hts j v hj) q1
    injection p1 with p1
    subst p1
    have hfree : ∀ b, X.free b → w.heap.size ≤ b ∨ b ∈ argFp sg.ins x l := fun b hb => hb
    refine ⟨hd, _, results_run q4, ⟨F', lr, lo, rfl, ?_⟩⟩
    exact {
      size := q2.size, os := q2.os, tape := q2.tape, out := q2.out
      old := fun b h1 h2 h3 => by
        have := q2.kept b h1 h2
        have hrn : X.rg b = none := by
          cases hfd : (argBs sg.ins l).find? fun y => Nat.beq y.1 b with
          | none => simp only [X, hfd, Option.map_none]
          | some q =>
            have e1 := List.mem_of_find?_eq_some hfd
            have e2 : Nat.beq q.1 b = true := by have := List.find?_some hfd; exact this
            have e2 := Nat.eq_of_beq_eq_true e2
            exact absurd e2 (h3 q e1)
        rw [hrn] at this
        exact this
      rng := fun q hq => by
        have hql := (hno q.1 (List.mem_append.2 (.inr (List.mem_map.2 ⟨q, hq, rfl⟩)))).2
        have hqn : ¬ X.hd q.1 := fun hh => (List.nodup_append.1 hnd).2.2 q.1 hh q.1 (List.mem_map.2 ⟨q, hq, rfl⟩) rfl
        have := q2.kept q.1 hql hqn
        have hrg : X.rg q.1 = some q.2 := find_rg hbn q hq
        rw [hrg] at this
        exact this
      le := q2.F0
      new := fun b hb => (q2.Fnew b hb).elim .inl fun e => by
        rcases hfree b e with e | e
        · exact .inr (.inl ⟨e, (q2.hF b hb).2⟩)
        · exact .inr (.inr e)
      res := q5.sat
      outs := p2
      nd := by
        rw [List.nodup_append]
        refine ⟨q5.nd, p3, ?_⟩
        rintro b hb c hc rfl
        obtain ⟨t, _, e⟩ := p4 b hc
        rw [(q5.no b hb).1] at e; cases e
      apart := fun b hb => by
        rcases List.mem_append.1 hb with hb | hb
        · exact ⟨(q5.no b hb).2.1, hfree b (q5.no b hb).2.2.2⟩
        · obtain ⟨t, _, e⟩ := p4 b (List.mem_append.2 (.inl hb))
          exact ⟨(fun hF => by rw [(q2.hF b hF).1] at e; cases e), hfree b (p5 b hb)⟩ }
  refine wp_mono hwp fun e a' w' hq => ?_
  cases e with
  | normal => exact fin a' w' hq.1 hq.2
  | ret => exact fin a' w' hq.1 hq.2
  | exit i => obtain ⟨_, _, _, _, _, h1, _⟩ := hq; cases h1
  | outgrown => exact hq.elim
  | goto _ => exact hq
  | panic _ => exact hq.elim

end
end Go.Proofs.Ytpegmiofhfmepaa.Ev

/- What a generated proof leans on: what a function's code still owes, types, short words for operators. -/
set_option linter.unusedSimpArgs false
namespace Go.Proofs.Ytpegmiofhfmepaa.Ev

/-! ### what a piece of code owes, in a row -/
def GoodN (P : Program) (X : Cx) (N : Nat) (E : Env) (subs : Bool → Nat → Option Sub) : Code → Prop → Prop
  | .seq a b, K => GoodN P X N E subs a (GoodN P X N E subs b K)
  | .cond c a b, K => match ((firstReg a).orElse fun _ => firstReg b).bind (subs false) with
    | some u => SubOk P X N u (.cond c a b) ∧ K
    | none => GoodN P X N E subs a (GoodN P X N E subs b K)
  | .block _ a, K => GoodN P X N E subs a K
  | .loop a, K => match (firstReg a).bind (subs true) with
    | some u => SubOk P X N u (.loop a) ∧ K
    | none => K
  | .region id ops true, K => RegOk P X N E id ops ∧ K
  | _, K => K

theorem GoodN.good {P : Program} {X : Cx} {N : Nat} {E : Env} {subs : Bool → Nat → Option Sub} : ∀ {c : Code} {K : Prop}, GoodN P X N E subs c K → Good P X N E subs c ∧ K
  | .seq a b, K, h => by
    simp only [GoodN] at h
    obtain ⟨h1, h2⟩ := GoodN.good h
    obtain ⟨h2, h3⟩ := GoodN.good h2
    exact ⟨⟨h1, h2⟩, h3⟩
  | .cond c a b, K, h => by
    simp only [GoodN] at h
    simp only [Good]
    cases hu : ((firstReg a).orElse fun _ => firstReg b).bind (subs false) with
    | some u => rw [hu] at h; exact h
    | none =>
      rw [hu] at h
      obtain ⟨h1, h2⟩ := GoodN.good h
      obtain ⟨h2, h3⟩ := GoodN.good h2
      exact ⟨⟨h1, h2⟩, h3⟩
  | .block _ a, K, h => GoodN.good (c := a) h
  | .loop a, K, h => by
    simp only [GoodN] at h
    simp only [Good]
    cases hu : (firstReg a).bind (subs true) with
    | some u => rw [hu] at h; exact h
    | none => rw [hu] at h; exact ⟨trivial, h⟩
  | .region id ops true, K, h => h
  | .region id ops false, K, h => ⟨trivial, h⟩
  | .skip, K, h | .exit _, K, h | .ret, K, h | .label _, K, h | .goto _, K, h | .scope _, K, h | .rangeFunc .., K, h | .refuse _, K, h => ⟨trivial, h⟩

/-! ### pieces of a function's code, by their first region -/
def bodyOf (f : Func) : Code := f.body.getD .skip
def findLoop : Nat → Code → Option Code
  | n, .seq a b => match findLoop n a with | some c => some c | none => findLoop n b
  | n, .cond _ a b => match findLoop n a with | some c => some c | none => findLoop n b
  | n, .block _ a => findLoop n a
  | n, .loop a => match firstReg a with
    | some m => cond (Nat.beq m n) (some a) (findLoop n a)
    | none => findLoop n a
  | _, _ => none
def loopAt (n : Nat) (f : Func) : Code := (findLoop n (bodyOf f)).getD .skip
def findIf : Nat → Code → Option Code
  | n, .seq a b => match findIf n a with | some c => some c | none => findIf n b
  | n, .cond x a b => match (firstReg a).orElse fun _ => firstReg b with
    | some m => cond (Nat.beq m n) (some (.cond x a b)) (match findIf n a with | some c => some c | none => findIf n b)
    | none => match findIf n a with | some c => some c | none => findIf n b
  | n, .block _ a => findIf n a
  | n, .loop a => findIf n a
  | _, _ => none
def ifAt (n : Nat) (f : Func) : Code := (findIf n (bodyOf f)).getD .skip
/-- the branches of an if -/
def condOf : Code → Operand
  | .cond x _ _ => x
  | _ => .const (.bool false)
def thenOf : Code → Code
  | .cond _ a _ => a
  | _ => .skip
def elseOf : Code → Code
  | .cond _ _ b => b
  | _ => .skip

/-! ### environments as lists -/
def assocN {α : Type} : List (Nat × α) → Nat → Option α
  | [], _ => none
  | (m, x) :: r, n => cond (Nat.beq m n) (some x) (assocN r n)

theorem assocN_mem {α : Type} : ∀ {l : List (Nat × α)} {n : Nat} {x : α}, assocN l n = some x → (n, x) ∈ l
  | [], _, _, h => by cases h
  | (m, y) :: r, n, x, h => by
    simp only [assocN] at h
    cases hb : Nat.beq m n with
    | true =>
      rw [hb] at h
      have := Nat.eq_of_beq_eq_true hb
      subst this
      injection h with h
      subst h
      exact List.mem_cons_self
    | false => rw [hb] at h; exact List.mem_cons_of_mem _ (assocN_mem h)

def AllTy (P : Program) : List (Nat × K) → Prop
  | [] => True
  | p :: r => TyOk P p.1 p.2 ∧ AllTy P r
def AllFn (P : Program) : List (Nat × Sig) → Prop
  | [] => True
  | p :: r => Sound P p.1 p.2 ∧ AllFn P r

theorem AllTy.mem {P : Program} : ∀ {l : List (Nat × K)}, AllTy P l → ∀ p ∈ l, TyOk P p.1 p.2
  | [], _, _, h => by cases h
  | _ :: _, ⟨h1, h2⟩, p, h => by
    rcases List.mem_cons.1 h with rfl | h
    · exact h1
    · exact AllTy.mem h2 p h
theorem AllFn.mem {P : Program} : ∀ {l : List (Nat × Sig)}, AllFn P l → ∀ p ∈ l, Sound P p.1 p.2
  | [], _, _, h => by cases h
  | _ :: _, ⟨h1, h2⟩, p, h => by
    rcases List.mem_cons.1 h with rfl | h
    · exact h1
    · exact AllFn.mem h2 p h

theorem envOk_of {P : Program} {E : Env} {tl : List (Nat × K)} {fl : List (Nat × Sig)} (h1 : E.ty = assocN tl) (h2 : E.fns = assocN fl) (ht : AllTy P tl) (hf : AllFn P fl) : EnvOk P E :=
  ⟨fun t k h => ht.mem (t, k) (assocN_mem (by rw [← h1]; exact h)), fun f sg h => hf.mem (f, sg) (assocN_mem (by rw [← h2]; exact h))⟩

/-! ### types -/
theorem ty_int {P : Program} {t : Nat} {k : IntKind} (h1 : TyI P t (.int k)) (h2 : P.underlying t = some (.int k)) : TyOk P t (.int k) := ⟨h1, h2⟩
theorem ty_sl {P : Program} {t e : Nat} {k : K} (h1 : TyI P t (.sl k)) (h2 : P.underlying t = some (.slice e)) (h3 : TyOk P e k) : TyOk P t (.sl k) := ⟨h1, e, h2, h3⟩
theorem ty_struct {P : Program} {t : Nat} {a b : K} {f : Field} {l : List Field} (h1 : TyI P t (.pair a b)) (h2 : P.underlying t = some (.struct ⟨f :: l⟩)) (h3 : P.stoodInHeld t = false)
    (h4 : f.offset = 0 ∧ f.name ≠ "_" ∧ TyOk P f.type a ∧ (TyF P b).2 l a.size) : TyOk P t (.pair a b) := ⟨h1, ⟨f :: l⟩, h2, h3, h4⟩

/-! ### short words, as a typed function is printed with -/
def iand (k : IntKind) (a b : Int) : Int := k.wrap (BitVec.ofInt k.bits a &&& BitVec.ofInt k.bits b).toNat
def ior (k : IntKind) (a b : Int) : Int := k.wrap (BitVec.ofInt k.bits a ||| BitVec.ofInt k.bits b).toNat
def ixor (k : IntKind) (a b : Int) : Int := k.wrap (BitVec.ofInt k.bits a ^^^ BitVec.ofInt k.bits b).toNat
def iandn (k : IntKind) (a b : Int) : Int := k.wrap (BitVec.ofInt k.bits a &&& ~~~ BitVec.ofInt k.bits b).toNat
def inot (k : IntKind) (n : Int) : Int := k.wrap (BitVec.ofInt k.bits (if k.signed then -1 else k.max) ^^^ BitVec.ofInt k.bits n).toNat
def ishl (k : IntKind) (a b : Int) : Int := k.wrap (a * 2 ^ (min b.toNat k.bits))
def ishr (k : IntKind) (a b : Int) : Int := a.fdiv (2 ^ (min b.toNat k.bits))
def iadd (k : IntKind) (a b : Int) : Int := k.wrap (a + b)
def isub (k : IntKind) (a b : Int) : Int := k.wrap (a - b)
def imul (k : IntKind) (a b : Int) : Int := k.wrap (a * b)
def iquo (k : IntKind) (a b : Int) : Int := k.wrap (a.tdiv b)
def irem (_ : IntKind) (a b : Int) : Int := a.tmod b
def ineg (k : IntKind) (n : Int) : Int := k.wrap (0 - n)
def ieq (a b : Int) : Bool := a == b
def ilt (a b : Int) : Bool := decide (a < b)
def ile (a b : Int) : Bool := decide (a ≤ b)
def beqB (a b : Bool) : Bool := a == b
def seq (a b : ByteArray) : Bool := a.toList == b.toList
def slt (a b : ByteArray) : Bool := Op.bytesLess a.toList b.toList
def imin (x y : Int) : Int := if y < x then y else x
def imax (x y : Int) : Int := if y > x then y else x
def slen (s : ByteArray) : Int := s.size
def llen {α : Type} (l : List α) : Int := l.length

end Go.Proofs.Ytpegmiofhfmepaa.Ev

/- Plain facts on the words that typed functions are printed with. -/
set_option linter.unusedSimpArgs false
namespace Go.Proofs.Ytpegmiofhfmepaa.Ev

/-! ### loops -/
section
variable {S A : Type}
theorem iter_more {step : S → Option (S ⊕ A)} : ∀ {n : Nat} {s : S} {a : A}, iter step n s = some a → ∀ m, n ≤ m → iter step m s = some a
  | 0, _, _, h, _, _ => by cases h
  | n + 1, s, a, h, 0, hm => by omega
  | n + 1, s, a, h, m + 1, hm => by
    simp only [iter] at h ⊢
    cases hs : step s with
    | none => rw [hs] at h; cases h
    | some z =>
      rw [hs] at h
      cases z with
      | inl s' => exact iter_more h m (by omega)
      | inr b => exact h

theorem iter_det {step : S → Option (S ⊕ A)} {n m : Nat} {s : S} {a b : A} (h1 : iter step n s = some a) (h2 : iter step m s = some b) : a = b := by
  have := (iter_more h1 (n + m) (by omega)).symm.trans (iter_more h2 (n + m) (by omega))
  exact Option.some.inj this

theorem loopM_of_iter {step : S → Option (S ⊕ A)} {n : Nat} {s : S} {a : A} (h : iter step n s = some a) : loopM step s = some a := by
  have hex : ∃ n a, iter step n s = some a := ⟨n, a, h⟩
  rw [loopM, dif_pos hex]
  have := hex.choose_spec.choose_spec
  rw [iter_det this h]

theorem loopM_eq (step : S → Option (S ⊕ A)) (s : S) : loopM step s = match step s with | none => none | some (.inl s') => loopM step s' | some (.inr a) => some a := by
  cases hs : step s with
  | none =>
    rw [loopM, dif_neg]
    rintro ⟨n, a, h⟩
    cases n with
    | zero => cases h
    | succ n => simp only [iter, hs] at h; cases h
  | some z =>
    cases z with
    | inr a => exact loopM_of_iter (n := 1) (by simp only [iter, hs])
    | inl s' =>
      simp only
      by_cases hex : ∃ n a, iter step n s' = some a
      · obtain ⟨n, a, h⟩ := hex
        rw [loopM_of_iter h]
        exact loopM_of_iter (n := n + 1) (by simp only [iter, hs]; exact h)
      · rw [loopM, loopM, dif_neg hex, dif_neg]
        rintro ⟨n, a, h⟩
        cases n with
        | zero => cases h
        | succ n => simp only [iter, hs] at h; exact hex ⟨n, a, h⟩
end

section
variable {c v : Desc} {ex : List (Ek × Desc)} {stepK : (R : Type) → Vars c → Vars v → (Vars c → (Vars v ⊕ Oc ex) → Option R) → Option R} {R : Type}

theorem loopF_more {xc c' : Vars c} {xv v' : Vars v} (h : round stepK (xc, xv) = some (.inl (c', v'))) (kk : Vars c → Oc ex → Option R) : loopF stepK R xc xv kk = loopF stepK R c' v' kk := by
  simp only [loopF]
  rw [loopM_eq, h]

theorem loopF_done {xc c' : Vars c} {xv : Vars v} {o : Oc ex} (h : round stepK (xc, xv) = some (.inr (c', o))) (kk : Vars c → Oc ex → Option R) : loopF stepK R xc xv kk = kk c' o := by
  simp only [loopF]
  rw [loopM_eq, h]
  rfl
end

/-! ### control -/
theorem bnd_some {α R : Type} (x : α) (k : α → Option R) : bnd (some x) k = k x := rfl
theorem req_true {R : Type} (k : Option R) : req true k = k := rfl
theorem getB_at {R : Type} {s : ByteArray} {i : Int} {k : Int → Option R} {b : UInt8} (h0 : 0 ≤ i) (h : s[i.toNat]? = some b) : getB s i k = k b.toNat := by
  simp [getB, h0, h]
theorem getO_at {R α : Type} {s : List α} {i : Int} {k : α → Option R} {b : α} (h0 : 0 ≤ i) (h : s[i.toNat]? = some b) : getO s i k = k b := by
  simp [getO, h0, h]

/-! ### integers -/
theorem wrap_i64 (n : Int) (h : -9223372036854775808 ≤ n ∧ n ≤ 9223372036854775807) : IntKind.i64.wrap n = n := by
  simp [IntKind.wrap, IntKind.bits, IntKind.signed]
  omega
theorem wrap_u8 (n : Int) : IntKind.u8.wrap n = n % 256 := by simp [IntKind.wrap, IntKind.bits, IntKind.signed]
theorem wrap_u32 (n : Int) : IntKind.u32.wrap n = n % 4294967296 := by simp [IntKind.wrap, IntKind.bits, IntKind.signed]
theorem wrap_u64 (n : Int) : IntKind.u64.wrap n = n % 18446744073709551616 := by simp [IntKind.wrap, IntKind.bits, IntKind.signed]

theorem ofInt_nat (w : Nat) (a : Nat) : (BitVec.ofInt w (a : Int)).toNat = a % 2 ^ w := by simp

theorem ior_nat (a b : Nat) (ha : a < 9223372036854775808) (hb : b < 9223372036854775808) : ior .i64 a b = ((a ||| b : Nat) : Int) := by
  have h : a ||| b < 2 ^ 63 := Nat.or_lt_two_pow ha hb
  have e : (BitVec.ofInt 64 (a : Int) ||| BitVec.ofInt 64 (b : Int)).toNat = a ||| b := by
    rw [BitVec.toNat_or, ofInt_nat, ofInt_nat, Nat.mod_eq_of_lt (a := a) (by omega), Nat.mod_eq_of_lt (a := b) (by omega)]
  show IntKind.i64.wrap ((BitVec.ofInt 64 (a : Int) ||| BitVec.ofInt 64 (b : Int)).toNat : Int) = _
  rw [e]
  exact wrap_i64 _ (by omega)

theorem iand_u8 (a b : Nat) (ha : a < 256) (hb : b < 256) : iand .u8 a b = ((a &&& b : Nat) : Int) := by
  have h : a &&& b ≤ a := Nat.and_le_left
  have e : (BitVec.ofInt 8 (a : Int) &&& BitVec.ofInt 8 (b : Int)).toNat = a &&& b := by
    rw [BitVec.toNat_and, ofInt_nat, ofInt_nat, Nat.mod_eq_of_lt (a := a) (by omega), Nat.mod_eq_of_lt (a := b) (by omega)]
  show IntKind.u8.wrap ((BitVec.ofInt 8 (a : Int) &&& BitVec.ofInt 8 (b : Int)).toNat : Int) = _
  rw [e, wrap_u8]
  omega

theorem ishl_nat (a b : Nat) (hb : b ≤ 64) (h : a * 2 ^ b < 9223372036854775808) : ishl .i64 a b = ((a * 2 ^ b : Nat) : Int) := by
  have hb' : min b 64 = b := by omega
  simp only [ishl, Int.toNat_natCast, IntKind.bits, hb']
  rw [show ((a : Int) * 2 ^ b) = ((a * 2 ^ b : Nat) : Int) by simp]
  exact wrap_i64 _ (by omega)

theorem iadd_i64 {a b : Int} (h : -9223372036854775808 ≤ a + b ∧ a + b ≤ 9223372036854775807) : iadd .i64 a b = a + b := wrap_i64 _ h
theorem isub_i64 {a b : Int} (h : -9223372036854775808 ≤ a - b ∧ a - b ≤ 9223372036854775807) : isub .i64 a b = a - b := wrap_i64 _ h
theorem imul_i64 {a b : Int} (h : -9223372036854775808 ≤ a * b ∧ a * b ≤ 9223372036854775807) : imul .i64 a b = a * b := wrap_i64 _ h

theorem seq_iff (a b : ByteArray) : seq a b = true ↔ a = b := by
  simp only [seq, beq_iff_eq, ByteArray.toList_eq]
  constructor
  · intro h
    exact ByteArray.ext (Array.ext' h)
  · rintro rfl; rfl

theorem seq_self (a : ByteArray) : seq a a = true := (seq_iff a a).2 rfl

theorem ilt_iff {a b : Int} : ilt a b = true ↔ a < b := by simp [ilt]
theorem ilt_false {a b : Int} : ilt a b = false ↔ b ≤ a := by simp [ilt]
theorem ile_iff {a b : Int} : ile a b = true ↔ a ≤ b := by simp [ile]
theorem ile_false {a b : Int} : ile a b = false ↔ b < a := by simp [ile]
theorem ieq_iff {a b : Int} : ieq a b = true ↔ a = b := by simp [ieq]
theorem ieq_false {a b : Int} : ieq a b = false ↔ a ≠ b := by simp [ieq]
theorem seq_false {a b : ByteArray} : seq a b = false ↔ a ≠ b := by
  rw [← Bool.not_eq_true, seq_iff]
theorem imin_eq (a b : Int) : imin a b = min a b := by simp only [imin]; split <;> omega
theorem imax_eq (a b : Int) : imax a b = max a b := by simp only [imax]; split <;> omega

end Go.Proofs.Ytpegmiofhfmepaa.Ev

/- From a contract to a call that changes nothing. -/
set_option linter.unusedSimpArgs false
namespace Go.Proofs.Ytpegmiofhfmepaa.Ev

theorem keptBut_same {w w' : World} (h1 : w'.os = w.os) (h2 : w'.output = w.output) (h : ∀ b, b < w.heap.size → w'.heap[b]? = w.heap[b]?) (may : MemPlace → Prop) : w.keptBut w' may := by
  refine ⟨h1, h2, fun i hi => ?_⟩
  rw [h i hi]
  cases w.heap[i]? with
  | none => rfl
  | some o => cases o <;> first | exact ⟨rfl, rfl, rfl, fun _ _ => rfl⟩ | exact .inr ⟨rfl, rfl⟩ | rfl

/-- a law of arguments that are read alone -/
theorem law_calls {P : Program} {f : Nat} {sg : Sig} (hS : Sound P f sg) (x : Ps sg.ins) (r : Rs sg.res × Rs (Pm.outs sg.ins)) (hx : sg.fn x = some r) (w : World) (F : Nat → Prop) (l : PL sg.ins) (vs : List Value)
    (ha : ArgsOk P w F sg.ins x l vs) (h1 : argFp sg.ins x l = []) (h2 : argBs sg.ins l = []) (hF : ∀ b, F b → b < w.heap.size) (v : Value) (hv : ∀ lr, resVal sg.res r.1 lr = v) :
    Calls P f vs.toArray w fun e w' => e = .returned v ∧ w'.os = w.os ∧ w'.output = w.output ∧ w.heap.size ≤ w'.heap.size ∧ ∀ b, b < w.heap.size → w'.heap[b]? = w.heap[b]? := by
  refine (hS.2 x r hx w F l vs ha (by rw [h1, h2]; simp) (by rw [h1, h2]; simp) hF).mono fun e w' he => ?_
  obtain ⟨F', lr, lo, rfl, L⟩ := he
  exact ⟨by rw [hv], L.os, L.out, L.size, fun b hb => L.old b hb (by rw [h1]; simp) (by rw [h2]; simp)⟩

end Go.Proofs.Ytpegmiofhfmepaa.Ev
