/- A verified evaluator of typed functions, part 3. Nothing of the program is in it. -/
import Derived.Test.YtpegmiofhfmepaaEv2
import Derived.Laws.Strings
set_option linter.all false
/- Calls: the state behind a call. -/
set_option linter.unusedSimpArgs false
namespace Go.Proofs.Ytpegmiofhfmepaa.Ev

section
variable {P : Program} {X : Cx} {N : Nat} {a : Act} {s : St} {g : Gs} {F : Nat → Prop} {ow : Nat → Option Nat} {w : World} {R : Type} {r : R} {tm : Array Value} {E : Env}
  {o : Oper} {next : Act → World → Prop} {Q : Exit → Act → World → Prop} {kk : St → Option R}

/-- what lay at the place is gone -/
theorem gset_gone : ∀ {p : List Stp} {k : K} {m m' : Mk} {x x' : T k} {l l2 : L k} {base : Option (Nat × Nat)} {c : Ct} {l' : L c.k} {old : GC}, gset k m x l p c l' = some (m', x', l2) → gat k m x l base p = some old →
    (fp k m x l).Nodup → ∀ b ∈ old.fp, b ∈ fp k m' x' l2 → b ∈ fp c.k c.m c.x l'
  | [], k, m, m', x, x', l, l2, base, c, l', old, h, hg, hn, b, hb, hb' => by
    obtain ⟨ck, cm, cx⟩ := c
    simp only [gset] at h
    split at h
    · rename_i hk
      subst hk
      simp only [Option.some.injEq, Prod.mk.injEq] at h
      obtain ⟨rfl, rfl, rfl⟩ := h
      exact hb'
    · cases h
  | s :: p, k, m, m', x, x', l, l2, base, c, l', old, h, hg, hn, b, hb, hb' => by
    cases k <;> cases s <;> simp only [gat, gset] at hg h <;> first | (cases hg; done) | skip
    · rename_i ka kb
      cases hy : gset ka m.l x.1 l.1 p c l' with
      | none => rw [hy] at h; cases h
      | some y =>
        rw [hy] at h
        simp only [Option.map_some, Option.some.injEq, Prod.mk.injEq] at h
        obtain ⟨rfl, rfl, rfl⟩ := h
        simp only [fp, List.nodup_append] at hn
        simp only [fp, Mk.mkp_l, Mk.mkp_r, List.mem_append] at hb'
        rcases hb' with hb' | hb'
        · exact gset_gone hy hg hn.1 b hb hb'
        · exact absurd rfl (hn.2.2 b (gat_fp hg b hb) b hb')
    · rename_i ka kb
      cases hy : gset kb m.r x.2 l.2 p c l' with
      | none => rw [hy] at h; cases h
      | some y =>
        rw [hy] at h
        simp only [Option.map_some, Option.some.injEq, Prod.mk.injEq] at h
        obtain ⟨rfl, rfl, rfl⟩ := h
        simp only [fp, List.nodup_append] at hn
        simp only [fp, Mk.mkp_l, Mk.mkp_r, List.mem_append] at hb'
        rcases hb' with hb' | hb'
        · exact absurd rfl (hn.2.2 b hb' b (gat_fp hg b hb))
        · exact gset_gone hy hg hn.2.1 b hb hb'
    · rename_i k i
      split at hg
      · cases hg
      rename_i hm
      cases hx' : x[i]? with
      | none => rw [hx'] at hg; cases hg
      | some z =>
      rw [hx'] at hg h
      simp only at h hg
      cases hy : gset k m.inner z (l.2 i) p c l' with
      | none => rw [hy] at h; cases h
      | some y =>
        rw [hy] at h
        simp only at h
        split at h
        case isFalse => cases h
        rename_i hcond
        obtain ⟨hc1, hown⟩ := hcond
        simp only [Option.some.injEq, Prod.mk.injEq] at h
        obtain ⟨rfl, rfl, rfl⟩ := h
        simp only [fp, hown, if_true, List.nodup_append] at hn
        obtain ⟨_, hn1, hn2⟩ := hn
        have hn1 := nodup_fpL.1 hn1
        have hbz : b ∈ fp k m.inner z (l.2 i) := gat_fp hg b hb
        simp only [fp, hown, if_true, List.mem_append] at hb'
        rcases hb' with hb' | hb'
        · exact absurd rfl (hn2 b hb' b (mem_fpL.2 ⟨i, z, hx', hbz⟩))
        · obtain ⟨j, u, hu, hb'⟩ := mem_fpL.1 hb'
          by_cases hji : j = i
          · subst hji
            have hi := (List.getElem?_eq_some_iff.1 hx').1
            rw [List.getElem?_set_self hi] at hu
            injection hu with hu
            subst hu
            simp only [if_true] at hb'
            rw [← hc1] at hb'
            exact gset_gone hy hg (hn1.1 j z hx') b hb hb'
          · rw [List.getElem?_set_ne (Ne.symm hji)] at hu
            simp only [if_neg hji] at hb'
            exact absurd hb' (hn1.2 i j z u hx' hu (Ne.symm hji) b hbz)

/-- more is fixed -/
theorem Rel.grow (h : Rel P X N s g F ow tm w) {F2 : Nat → Prop} (hF : ∀ b, F b → F2 b) (hn : ∀ b, F2 b → F b ∨ (ow b = none ∧ b < w.heap.size ∧ X.free b)) : Rel P X N s g F2 ow tm w :=
  { h with
    slot := fun n => (h.slot n).frame (fun _ _ => rfl) hF
    sat := fun t r hr => sat_frame (h.sat t r hr) (fun _ _ => rfl) hF
    hF := fun b hb => (hn b hb).elim (h.hF b) (fun e => ⟨e.1, e.2.1⟩)
    F0 := fun b hb => hF b (h.F0 b hb)
    Fnew := fun b hb => (hn b hb).elim (h.Fnew b) (fun e => .inr e.2.2) }

/-- behind a call without a pointer -/
theorem Rel.back0 (h : Rel P X N s g F ow tm w) {w' : World} {F2 A : Nat → Prop} (hF : ∀ b, F b → F2 b) (hn : ∀ b, F2 b → F b ∨ (w.heap.size ≤ b ∧ b < w'.heap.size) ∨ A b)
    (hA : ∀ b, A b → ow b = none ∧ X.free b ∧ ¬ F b ∧ b < w.heap.size) (hold : ∀ b, b < w.heap.size → ¬ A b → w'.heap[b]? = w.heap[b]?)
    (hz : w.heap.size ≤ w'.heap.size) (hos : w'.os = w.os) (htp : w'.tape = w.tape) (hou : w'.output = w.output) : Rel P X N s g F2 ow tm w' := by
  refine (h.world (fun c hc => hold c ?_ fun hA' => ?_) hz hos htp hou).grow hF fun b hb => ?_
  · rcases hc with hc | ⟨t, hc⟩ | ⟨hc, _⟩
    · exact (h.hF c hc).2
    · exact h.lt c t hc
    · exact Nat.lt_of_lt_of_le hc h.size
  · obtain ⟨a1, a2, a3, _⟩ := hA c hA'
    rcases hc with hc | ⟨t, hc⟩ | ⟨hc, hd⟩
    · exact a3 hc
    · rw [a1] at hc; cases hc
    · exact a2.elim (fun h => by omega) hd
  · rcases hn b hb with hb | ⟨h1, h2⟩ | hb
    · exact .inl hb
    · refine .inr ⟨?_, h2, .inl (Nat.le_trans h.size h1)⟩
      cases e : ow b with
      | none => rfl
      | some t => have := h.lt b t e; omega
    · obtain ⟨a1, a2, a3, a4⟩ := hA b hb
      exact .inr ⟨a1, Nat.lt_of_lt_of_le a4 hz, a2⟩

/-- behind a call with one pointer -/
theorem Rel.back1 (h : Rel P X N s g F ow tm w) {w' : World} {F2 A : Nat → Prop} {t : Nat} {p : List Stp} {q : GR} (hg : g t = some q) {k : K} {m : Mk} {xo x' : T k} {lx l' : L k} {b o' : Nat} (hgat : q.at p = some ⟨k, m, xo, lx, some (b, o')⟩)
    {kk : Mk → T q.k → Option R} (hr : Ct.set q.k q.m q.x p ⟨k, m, x'⟩ kk = some r)
    (hF : ∀ b, F b → F2 b) (hn : ∀ b, F2 b → F b ∨ (w.heap.size ≤ b ∧ b < w'.heap.size) ∨ A b)
    (hA : ∀ c, A c → (ow c = none ∧ X.free c ∧ ¬ F c ∧ c < w.heap.size) ∨ c ∈ fp k m xo lx) (hold : ∀ c, c < w.heap.size → ¬ A c → c ≠ b → w'.heap[c]? = w.heap[c]?)
    (hrng : Rng w w' b o' k.size) (hs : Ev.sat w' F2 k m x' l') (hb : Blk w' b fun cs => cellsAt cs o' (vals k x' l'))
    (hnd : (fp k m x' l').Nodup) (hnb : b ∉ fp k m x' l') (hap : ∀ c ∈ fp k m x' l', ¬ F2 c ∧ (w.heap.size ≤ c ∨ A c))
    (hz : w.heap.size ≤ w'.heap.size) (hos : w'.os = w.os) (htp : w'.tape = w.tape) (hou : w'.output = w.output) :
    ∃ m' y g2 ow2, kk m' y = some r ∧ Rel P X N ((s.kill t p).setR t (some { q.rt with m := m', x := y })) g2 F2 ow2 tm w' ∧ (∀ c, c ∉ fp k m x' l' → (w.heap.size ≤ c ∨ A c) → ow2 c = none) := by
  obtain ⟨m', x2, l2, ⟨h1, hgs⟩, hk, H⟩ := set_ok (c := ⟨k, m, x'⟩) l' hr hgat
  have hqnd := h.nd t q hg
  have hqnd' : (q.b.map (·.1)).toList.Nodup ∧ (fp q.k q.m q.x q.l).Nodup ∧ ∀ b ∈ (q.b.map (·.1)).toList, ∀ c ∈ fp q.k q.m q.x q.l, b ≠ c := by
    simpa [GR.fp, GR.fpi, List.nodup_append] using hqnd
  have hin : ∀ c ∈ fp q.k q.m q.x q.l, ow c = some t := fun c hc => h.ho t q hg c (by simp only [GR.fp, GR.fpi, List.mem_append]; exact .inr hc)
  have hbin : ∀ c o, q.b = some (c, o) → ow c = some t := fun c o e => h.ho t q hg c (by simp [GR.fp, e])
  have holdfp : ∀ c ∈ fp k m xo lx, c ∈ fp q.k q.m q.x q.l := gat_fp hgat
  have hwh := set_where hr hgat (h.sat t q hg) b o' rfl
  have hob : ow b = some t := by
    rcases hwh with ⟨o2, e, _⟩ | e
    · exact hbin b o2 e
    · exact hin b e
  have hnFt : ∀ c, ow c = some t → ¬ F c := fun c hc hF => by rw [(h.hF c hF).1] at hc; cases hc
  have hAo : ∀ c u, ow c = some u → c ∉ fp k m xo lx → ¬ A c := fun c u hc hn hA' => by
    rcases hA c hA' with ⟨e, _⟩ | e
    · rw [e] at hc; cases hc
    · exact hn e
  have hAF : ∀ c, F c → ¬ A c := fun c hc hA' => by
    rcases hA c hA' with ⟨_, _, e, _⟩ | e
    · exact e hc
    · exact hnFt c (hin c (holdfp c e)) hc
  -- of the new parts: those that the root had before are of the old content
  have hfoo : ∀ c ∈ fp k m x' l', ∀ u, ow c = some u → c ∈ fp k m xo lx := fun c hc u hu => by
    rcases (hap c hc).2 with e | e
    · have := h.lt c u hu; omega
    · rcases hA c e with ⟨e, _⟩ | e
      · rw [e] at hu; cases hu
      · exact e
  have Z := H w w' F F2 b o'
    { place := rfl, sat := h.sat t q hg, mem := h.mem t q hg
      nb := fun c o e => ⟨(fun hc => hqnd'.2.2 c (by simp [e]) c hc rfl), hnFt c (hbin c o e)⟩
      nd := hqnd'.2.1, nF := fun c hc => hnFt c (hin c hc)
      rng := hrng, new := hb
      same := fun c hc hcb hco => hold c (by
          rcases hc with hc | hc | ⟨o, hc⟩
          · exact h.lt c t (hin c hc)
          · exact (h.hF c hc).2
          · exact h.lt c t (hbin c o hc)) (by
          rcases hc with hc | hc | ⟨o, hc⟩
          · exact hAo c t (hin c hc) hco
          · exact hAF c hc
          · exact hAo c t (hbin c o hc) hco) hcb
      sat' := hs
      apart := fun c hc => ⟨(fun hc' => hfoo c hc t (hin c hc')), (fun o e => hqnd'.2.2 c (by simp [e]) c (holdfp c (hfoo c hc t (hbin c o e))) rfl), (fun e => hnb (e ▸ hc))⟩
      nd' := hnd, le := hF }
  have hgone : ∀ c ∈ fp k m xo lx, c ∈ fp q.k m' x2 l2 → c ∈ fp k m x' l' := gset_gone hgs hgat hqnd'.2.1
  refine ⟨m', x2, _, owAdd (owSub ow (fp k m xo lx)) (fp k m x' l') t, h1, h.reset hg hgs hF (fun c hc => hold c (h.hF c hc).2 (hAF c hc) (fun e => hnFt b hob (e ▸ hc))) Z.sat Z.mem ?_ ?_ ?_ ?_ ?_ ?_ ?_ ?_ hz hos htp hou, ?_⟩
  · rw [List.nodup_append]
    refine ⟨hqnd'.1, Z.nd, ?_⟩
    rintro c hc c2 hc2 rfl
    rcases Z.fp c hc2 with e | e
    · exact hqnd'.2.2 c hc c e rfl
    · have hoc : ow c = some t := h.ho t q hg c (by simp only [GR.fp, List.mem_append]; exact .inl hc)
      exact hqnd'.2.2 c hc c (holdfp c (hfoo c e t hoc)) rfl
  · intro n q' hnt hq c hc
    have hoc := h.ho n q' hq c hc
    have hco : c ∉ fp k m xo lx := fun e => by have := hin c (holdfp c e); rw [hoc] at this; injection this with this; exact hnt this
    refine ⟨hold c (h.lt c n hoc) (hAo c n hoc hco) (fun e => by rw [e, hob] at hoc; injection hoc with hoc; exact hnt hoc.symm), ?_⟩
    rw [owAdd_not (fun e => hco (hfoo c e n hoc)), owSub_not hco]
    exact hoc
  · intro c hc
    rw [List.mem_append] at hc
    by_cases hcn : c ∈ fp k m x' l'
    · exact owAdd_mem hcn
    · rw [owAdd_not hcn]
      rcases hc with hc | hc
      · have hoc : ow c = some t := h.ho t q hg c (by simp only [GR.fp, List.mem_append]; exact .inl hc)
        rw [owSub_not (fun e => hqnd'.2.2 c hc c (holdfp c e) rfl)]
        exact hoc
      · rcases Z.fp c hc with e | e
        · rw [owSub_not (fun e' => hcn (hgone c e' hc))]
          exact hin c e
        · exact absurd e hcn
  · intro c hc
    have hcn : c ∉ fp k m x' l' := fun e => (hap c e).1 hc
    rw [owAdd_not hcn]
    rcases hn c hc with e | ⟨e1, e2⟩ | e
    · refine ⟨?_, Nat.lt_of_lt_of_le (h.hF c e).2 hz⟩
      unfold owSub; split
      · rfl
      · exact (h.hF c e).1
    · refine ⟨?_, e2⟩
      unfold owSub; split
      · rfl
      · cases e : ow c with
        | none => rfl
        | some u => have := h.lt c u e; omega
    · rcases hA c e with ⟨a1, _, _, a4⟩ | e
      · refine ⟨?_, Nat.lt_of_lt_of_le a4 hz⟩
        unfold owSub; split
        · rfl
        · exact a1
      · exact ⟨owSub_mem e, Nat.lt_of_lt_of_le (h.lt c t (hin c (holdfp c e))) hz⟩
  · intro c u hc
    by_cases hcn : c ∈ fp k m x' l'
    · exact fp_lt hs c hcn
    · rw [owAdd_not hcn] at hc
      exact Nat.lt_of_lt_of_le (h.lt c u (owSub_le _ c u hc)) hz
  · intro c hc
    rcases Z.fp c hc with e | e
    · exact (h.own t q hg).1 c e
    · rcases (hap c e).2 with e' | e'
      · exact .inl (Nat.le_trans h.size e')
      · rcases hA c e' with ⟨_, a2, _⟩ | e2
        · exact a2
        · exact (h.own t q hg).1 c (holdfp c e2)
  · intro c hc
    rcases hn c hc with e | ⟨e1, _⟩ | e
    · exact h.Fnew c e
    · exact .inr (.inl (Nat.le_trans h.size e1))
    · rcases hA c e with ⟨_, a2, _⟩ | e2
      · exact .inr a2
      · exact .inr ((h.own t q hg).1 c (holdfp c e2))
  · intro c hc hhd
    have hk0 := h.kept c hc hhd
    by_cases hcb : c = b
    · subst hcb
      have hfree : ¬ X.free c := fun hf => hf.elim (fun hf => by omega) hhd
      rcases hwh with ⟨o2, e, e1, e2, _⟩ | e
      · rcases (h.own t q hg).2 c o2 e with hf | ⟨o3, n3, hr3, e3, e4⟩
        · exact absurd hf hfree
        · rw [hr3] at hk0 ⊢
          obtain ⟨cs, tt, fr, cs', k1, k2, k3, k4⟩ := hk0
          obtain ⟨ds, t', fr', ds', j1, j2, j3, j4⟩ := hrng
          rw [k2] at j1
          injection j1 with j1; injection j1 with i1 i2 i3
          subst i1; subst i2; subst i3
          refine ⟨cs, tt, fr, ds', k1, j2, by rw [j3, k3], fun j hj => ?_⟩
          simp only at e2
          rw [j4 j (by omega), k4 j hj]
      · exact absurd ((h.own t q hg).1 c e) hfree
    · have hA' : ¬ A c := fun hA' => by
        rcases hA c hA' with ⟨_, a2, _⟩ | e2
        · exact a2.elim (fun h => by omega) hhd
        · exact ((h.own t q hg).1 c (holdfp c e2)).elim (fun h => by omega) hhd
      have e := hold c (Nat.lt_of_lt_of_le hc h.size) hA' hcb
      cases hrg : X.rg c with
      | none => rw [hrg] at hk0; simp only at hk0 ⊢; rw [e]; exact hk0
      | some y =>
        rw [hrg] at hk0
        obtain ⟨cs, tt, fr, cs', k1, k2, k3, k4⟩ := hk0
        exact ⟨cs, tt, fr, cs', k1, by rw [e]; exact k2, k3, k4⟩
  · intro c hc1 hc2
    rw [owAdd_not hc1]
    unfold owSub; split
    · rfl
    · rename_i hco
      rcases hc2 with e | e
      · cases e' : ow c with
        | none => rfl
        | some u => have := h.lt c u e'; omega
      · rcases hA c e with ⟨a1, _⟩ | e
        · exact a1
        · exact absurd e hco

/-! ### a content with the same cells at a place -/
structure SameHyp (w w' : World) (F F' : Nat → Prop) (k : K) (m : Mk) (x : T k) (l : L k) (old : GC) (c : Ct) (l' : L c.k) : Prop where
  eq : vals c.k c.x l' = vals old.k old.x old.l
  sat : Ev.sat w F k m x l
  nd : (fp k m x l).Nodup
  nF : ∀ b ∈ fp k m x l, ¬ F b
  same : ∀ b, (b ∈ fp k m x l ∨ F b) → b ∉ old.fp → w'.heap[b]? = w.heap[b]?
  sat' : Ev.sat w' F' c.k c.m c.x l'
  apart : ∀ b ∈ fp c.k c.m c.x l', b ∈ fp k m x l → b ∈ old.fp
  nd' : (fp c.k c.m c.x l').Nodup
  le : ∀ b, F b → F' b

structure SameRes (w' : World) (F' : Nat → Prop) (k : K) (m : Mk) (x : T k) (l : L k) (c : Ct) (l' : L c.k) (m' : Mk) (x' : T k) (l2 : L k) : Prop where
  sat : Ev.sat w' F' k m' x' l2
  eq : vals k x' l2 = vals k x l
  fp : ∀ b ∈ fp k m' x' l2, b ∈ Ev.fp k m x l ∨ b ∈ Ev.fp c.k c.m c.x l'
  nd : (Ev.fp k m' x' l2).Nodup

theorem set_same {R : Type} {r : R} : ∀ {p : List Stp} {k : K} {m : Mk} {x : T k} {l : L k} {base : Option (Nat × Nat)} {c : Ct} (l' : L c.k) {kk : Mk → T k → Option R} {old : GC},
    Ct.set k m x p c kk = some r → gat k m x l base p = some old →
    ∃ m' x' l2, (kk m' x' = some r ∧ gset k m x l p c l' = some (m', x', l2)) ∧ ∀ w w' F F', SameHyp w w' F F' k m x l old c l' → SameRes w' F' k m x l c l' m' x' l2
  | [], k, m, x, l, base, ⟨k', cm, cx⟩, l', kk, old, h, hg => by
    simp only [Ct.set] at h
    split at h
    case isFalse => cases h
    case isTrue hk =>
      subst hk
      simp [gat] at hg
      subst hg
      exact ⟨cm, cx, l', ⟨h, by simp [gset]⟩, fun w w' F F' H => ⟨H.sat', H.eq, fun b hb => .inr hb, H.nd'⟩⟩
  | s :: p, k, m, x, l, base, c, l', kk, old, h, hg => by
    cases k <;> cases s <;> simp only [gat, Ct.set] at hg h <;> first | cases hg | skip
    · rename_i ka kb
      obtain ⟨m', x', l2, h1, H⟩ := set_same l' h hg
      refine ⟨_, _, (l2, l.2), ⟨h1.1, by simp only [gset, h1.2, Option.map_some]⟩, fun w w' F F' G => ?_⟩
      have hfa : ∀ b ∈ fp ka m.l x.1 l.1, b ∈ fp (.pair ka kb) m x l := fun b hb => by simp only [fp, List.mem_append]; exact .inl hb
      have hfb : ∀ b ∈ fp kb m.r x.2 l.2, b ∈ fp (.pair ka kb) m x l := fun b hb => by simp only [fp, List.mem_append]; exact .inr hb
      have hnd := G.nd
      simp only [fp, List.nodup_append] at hnd
      have hold : ∀ b ∈ old.fp, b ∈ fp ka m.l x.1 l.1 := gat_fp hg
      have Z := H w w' F F'
        { eq := G.eq, sat := G.sat.1, nd := hnd.1, nF := fun b hb => G.nF b (hfa b hb), same := fun b hb => G.same b (hb.imp (hfa b) id), sat' := G.sat', apart := fun b hb hb' => G.apart b hb (hfa b hb'), nd' := G.nd', le := G.le }
      have hsame : ∀ b, b ∈ fp kb m.r x.2 l.2 ∨ F b → w'.heap[b]? = w.heap[b]? := fun b hb => G.same b (hb.imp (hfb b) id) fun ho => by
        rcases hb with hb | hb
        · exact hnd.2.2 _ (hold b ho) _ hb rfl
        · exact G.nF _ (hfa _ (hold b ho)) hb
      refine ⟨⟨by rw [Mk.mkp_l]; exact Z.sat, by rw [Mk.mkp_r]; exact sat_frame G.sat.2 hsame G.le⟩, by simp only [vals, Z.eq], fun b hb => ?_, ?_⟩
      · simp only [fp, List.mem_append, Mk.mkp_l, Mk.mkp_r] at hb ⊢
        rcases hb with hb | hb
        · exact (Z.fp b hb).elim (fun h => .inl (.inl h)) .inr
        · exact .inl (.inr hb)
      · simp only [fp, Mk.mkp_l, Mk.mkp_r, List.nodup_append]
        refine ⟨Z.nd, hnd.2.1, ?_⟩
        rintro b hb b2 hb2 rfl
        rcases Z.fp b hb with hb | hb
        · exact hnd.2.2 _ hb _ hb2 rfl
        · exact hnd.2.2 _ (hold b (G.apart b hb (hfb b hb2))) _ hb2 rfl
    · rename_i ka kb
      obtain ⟨m', x', l2, h1, H⟩ := set_same l' h hg
      refine ⟨_, _, (l.1, l2), ⟨h1.1, by simp only [gset, h1.2, Option.map_some]⟩, fun w w' F F' G => ?_⟩
      have hfa : ∀ b ∈ fp ka m.l x.1 l.1, b ∈ fp (.pair ka kb) m x l := fun b hb => by simp only [fp, List.mem_append]; exact .inl hb
      have hfb : ∀ b ∈ fp kb m.r x.2 l.2, b ∈ fp (.pair ka kb) m x l := fun b hb => by simp only [fp, List.mem_append]; exact .inr hb
      have hnd := G.nd
      simp only [fp, List.nodup_append] at hnd
      have hold : ∀ b ∈ old.fp, b ∈ fp kb m.r x.2 l.2 := gat_fp hg
      have Z := H w w' F F'
        { eq := G.eq, sat := G.sat.2, nd := hnd.2.1, nF := fun b hb => G.nF b (hfb b hb), same := fun b hb => G.same b (hb.imp (hfb b) id), sat' := G.sat', apart := fun b hb hb' => G.apart b hb (hfb b hb'), nd' := G.nd', le := G.le }
      have hsame : ∀ b, b ∈ fp ka m.l x.1 l.1 ∨ F b → w'.heap[b]? = w.heap[b]? := fun b hb => G.same b (hb.imp (hfa b) id) fun ho => by
        rcases hb with hb | hb
        · exact hnd.2.2 _ hb _ (hold b ho) rfl
        · exact G.nF _ (hfb _ (hold b ho)) hb
      refine ⟨⟨by rw [Mk.mkp_l]; exact sat_frame G.sat.1 hsame G.le, by rw [Mk.mkp_r]; exact Z.sat⟩, by simp only [vals, Z.eq], fun b hb => ?_, ?_⟩
      · simp only [fp, List.mem_append, Mk.mkp_l, Mk.mkp_r] at hb ⊢
        rcases hb with hb | hb
        · exact .inl (.inl hb)
        · exact (Z.fp b hb).elim (fun h => .inl (.inr h)) .inr
      · simp only [fp, Mk.mkp_l, Mk.mkp_r, List.nodup_append]
        refine ⟨hnd.1, Z.nd, ?_⟩
        rintro b hb b2 hb2 rfl
        rcases Z.fp b hb2 with hb2 | hb2
        · exact hnd.2.2 _ hb _ hb2 rfl
        · exact hnd.2.2 _ hb _ (hold b (G.apart b hb2 (hfa b hb))) rfl
    · rename_i k i
      split at hg
      · cases hg
      rename_i hm
      cases hx' : x[i]? with
      | none => rw [hx'] at hg; cases hg
      | some y =>
      rw [hx'] at hg h
      simp only [] at h hg
      obtain ⟨m', x', l2, ⟨h1, hgs⟩, H⟩ := set_same l' h hg
      split at h1
      case isFalse => cases h1
      rename_i hcond
      obtain ⟨rfl, hown⟩ := hcond
      have hi : i < x.length := (List.getElem?_eq_some_iff.1 hx').1
      refine ⟨m, x.set i x', (l.1, fun j => if j = i then l2 else l.2 j), ⟨h1, by simp only [gset, hx', hgs, hown, and_self, if_true]⟩, fun w w' F F' G => ?_⟩
      obtain ⟨⟨q1, q2, q3, _⟩, q4⟩ := G.sat hm
      have hcap : l.1.2 ≠ 0 := by omega
      have hnd := G.nd
      simp only [fp, hown, if_true, List.nodup_append] at hnd
      obtain ⟨_, hnd2, hnd3⟩ := hnd
      have hnd2' := nodup_fpL.1 hnd2
      have hfe : ∀ (j : Nat) (z : T k), x[j]? = some z → ∀ b ∈ fp k m.inner z (l.2 j), b ∈ fp (.sl k) m x l := fun j z hz b hb => by
        simp only [fp, hown, if_true, List.mem_append]; exact .inr (mem_fpL.2 ⟨j, z, hz, hb⟩)
      have hfo : ∀ b o, l.1.1 = some (b, o) → b ∈ fp (.sl k) m x l := fun b o e => by
        simp only [fp, hown, if_true, List.mem_append]; exact .inl (mem_own1.2 ⟨hcap, o, e⟩)
      have hof : ∀ b o, l.1.1 = some (b, o) → b ∉ fpL (fp k m.inner) x l.2 := fun b o e hb => hnd3 b (mem_own1.2 ⟨hcap, o, e⟩) b hb rfl
      have hne : x ≠ [] := by rintro rfl; simp at hx'
      have hold : ∀ b ∈ old.fp, b ∈ fp k m.inner y (l.2 i) := gat_fp hg
      have Z := H w w' F F'
        { eq := G.eq, sat := q4 i y hx', nd := hnd2'.1 i y hx', nF := fun b hb => G.nF b (hfe i y hx' b hb), same := fun b hb => G.same b (hb.imp (hfe i y hx' b) id), sat' := G.sat', apart := fun b hb hb' => G.apart b hb (hfe i y hx' b hb'), nd' := G.nd', le := G.le }
      have hkeep : ∀ b o, l.1.1 = some (b, o) → w'.heap[b]? = w.heap[b]? := fun b o e => G.same b (.inl (hfo b o e)) fun ho => hof b o e (mem_fpL.2 ⟨i, y, hx', hold b ho⟩)
      have hother : ∀ j z, x[j]? = some z → j ≠ i → ∀ b, b ∈ fp k m.inner z (l.2 j) ∨ F b → w'.heap[b]? = w.heap[b]? := fun j z hz hji b hb => G.same b (hb.imp (hfe j z hz b) id) fun ho => by
        rcases hb with hb | hb
        · exact hnd2'.2 j i z y hz hx' hji b hb (hold b ho)
        · exact G.nF _ (hfe i y hx' _ (hold b ho)) hb
      have hgetj : ∀ j z, (x.set i x')[j]? = some z → (j = i ∧ z = x') ∨ (j ≠ i ∧ x[j]? = some z) := by
        intro j z hz
        by_cases hji : j = i
        · subst hji
          rw [List.getElem?_set_self hi] at hz
          injection hz with hz
          exact .inl ⟨rfl, hz.symm⟩
        · rw [List.getElem?_set_ne (Ne.symm hji)] at hz
          exact .inr ⟨hji, hz⟩
      refine ⟨fun _ => ⟨⟨by simpa using q1, q2, fun b o e => ⟨fun _ _ => ((q3 b o e).1 hown hcap).frame (hkeep b o e), fun _ => ⟨(fun h => by rw [hown] at h; cases h), ?_⟩⟩, fun _ h0 => absurd h0 hcap⟩, ?_⟩, ?_, ?_, ?_⟩
      · refine ((((q3 b o e).2 hne).2).frame (hkeep b o e)).mono fun cs hc j z hz => ?_
        rcases hgetj j z hz with ⟨rfl, rfl⟩ | ⟨hji, hz⟩
        · simp only [if_true]; rw [Z.eq]; exact hc j y hx'
        · simp only [if_neg hji]; exact hc j z hz
      · intro j z hz
        rcases hgetj j z hz with ⟨rfl, rfl⟩ | ⟨hji, hz⟩
        · simp only [if_true]; exact Z.sat
        · simp only [if_neg hji]; exact sat_frame (q4 j z hz) (hother j z hz hji) G.le
      · exact vals_sl (by simp) rfl
      · intro b hb
        simp only [fp, hown, if_true, List.mem_append] at hb ⊢
        rcases hb with hb | hb
        · exact .inl (.inl hb)
        · obtain ⟨j, z, hz, hb⟩ := mem_fpL.1 hb
          rcases hgetj j z hz with ⟨e1, e2⟩ | ⟨hji, hz⟩
          · have hb : b ∈ fp k m.inner x' l2 := by simpa [e1, e2] using hb
            rcases Z.fp b hb with hb | hb
            · exact .inl (.inr (mem_fpL.2 ⟨_, y, hx', hb⟩))
            · exact .inr hb
          · simp only [if_neg hji] at hb
            exact .inl (.inr (mem_fpL.2 ⟨j, z, hz, hb⟩))
      · simp only [fp, hown, if_true, List.nodup_append]
        have hin : ∀ b ∈ fp k m.inner x' l2, b ∈ fp k m.inner y (l.2 i) ∨ (b ∈ fp c.k c.m c.x l' ∧ (b ∈ fp (.sl k) m x l → b ∈ fp k m.inner y (l.2 i))) := fun b hb => by
          rcases Z.fp b hb with hb | hb
          · exact .inl hb
          · exact .inr ⟨hb, fun h => hold b (G.apart b hb h)⟩
        refine ⟨nodup_own1 _, nodup_fpL.2 ⟨?_, ?_⟩, ?_⟩
        · intro j z hz
          rcases hgetj j z hz with ⟨e1, e2⟩ | ⟨hji, hz⟩
          · simpa [e1, e2] using Z.nd
          · simp only [if_neg hji]; exact hnd2'.1 j z hz
        · intro j1 j2 z1 z2 hz1 hz2 hj b hb hb2
          rcases hgetj j1 z1 hz1 with ⟨e1, e2⟩ | ⟨hji, hz1⟩
          · rcases hgetj j2 z2 hz2 with ⟨f1, f2⟩ | ⟨hji2, hz2⟩
            · exact hj (e1.trans f1.symm)
            · have hb : b ∈ fp k m.inner x' l2 := by simpa [e1, e2] using hb
              simp only [if_neg hji2] at hb2
              rcases hin b hb with hb | ⟨_, hb⟩
              · exact hnd2'.2 _ j2 y z2 hx' hz2 (Ne.symm hji2) b hb hb2
              · exact hnd2'.2 _ j2 y z2 hx' hz2 (Ne.symm hji2) b (hb (hfe j2 z2 hz2 b hb2)) hb2
          · rcases hgetj j2 z2 hz2 with ⟨f1, f2⟩ | ⟨hji2, hz2⟩
            · have hb2 : b ∈ fp k m.inner x' l2 := by simpa [f1, f2] using hb2
              simp only [if_neg hji] at hb
              rcases hin b hb2 with hb2 | ⟨_, hb2⟩
              · exact hnd2'.2 j1 _ z1 y hz1 hx' hji b hb hb2
              · exact hnd2'.2 j1 _ z1 y hz1 hx' hji b hb (hb2 (hfe j1 z1 hz1 b hb))
            · simp only [if_neg hji, if_neg hji2] at hb hb2
              exact hnd2'.2 j1 j2 z1 z2 hz1 hz2 hj b hb hb2
        · rintro b hb b2 hb2 rfl
          obtain ⟨_, o, hbo⟩ := mem_own1.1 hb
          obtain ⟨j, z, hz, hb2⟩ := mem_fpL.1 hb2
          rcases hgetj j z hz with ⟨e1, e2⟩ | ⟨hji, hz⟩
          · have hb2 : b ∈ fp k m.inner x' l2 := by simpa [e1, e2] using hb2
            rcases hin b hb2 with hb2 | ⟨_, hb2⟩
            · exact hof b o hbo (mem_fpL.2 ⟨_, y, hx', hb2⟩)
            · exact hof b o hbo (mem_fpL.2 ⟨_, y, hx', hb2 (hfo b o hbo)⟩)
          · simp only [if_neg hji] at hb2
            exact hof b o hbo (mem_fpL.2 ⟨j, z, hz, hb2⟩)

theorem gset_same_vals : ∀ {q : List Stp} {k : K} {m : Mk} {x : T k} {l : L k} {c : Ct} {l' : L c.k} {m' : Mk} {x' : T k} {l2 : L k} {b : Option (Nat × Nat)} {old : GC}, gset k m x l q c l' = some (m', x', l2) → gat k m x l b q = some old →
    vals c.k c.x l' = vals old.k old.x old.l → vals k x' l2 = vals k x l
  | [], k, m, x, l, c, l', m', x', l2, b, old, h, hg, he => by
    obtain ⟨ck, cm, cx⟩ := c
    simp [gat] at hg
    subst hg
    simp only [gset] at h
    split at h
    · rename_i hk
      subst hk
      simp only [Option.some.injEq, Prod.mk.injEq] at h
      obtain ⟨_, rfl, rfl⟩ := h
      exact he
    · cases h
  | s :: q, k, m, x, l, c, l', m', x', l2, b, old, h, hg, he => by
    cases k <;> cases s <;> simp only [gset, gat] at h hg <;> first | (cases h; done) | skip
    · cases hy : gset _ m.l x.1 l.1 q c l' with
      | none => rw [hy] at h; cases h
      | some y =>
        rw [hy] at h
        simp only [Option.map_some, Option.some.injEq, Prod.mk.injEq] at h
        obtain ⟨_, rfl, rfl⟩ := h
        simp only [vals]
        rw [gset_same_vals (m' := y.1) (x' := y.2.1) (l2 := y.2.2) hy hg he]
    · cases hy : gset _ m.r x.2 l.2 q c l' with
      | none => rw [hy] at h; cases h
      | some y =>
        rw [hy] at h
        simp only [Option.map_some, Option.some.injEq, Prod.mk.injEq] at h
        obtain ⟨_, rfl, rfl⟩ := h
        simp only [vals]
        rw [gset_same_vals (m' := y.1) (x' := y.2.1) (l2 := y.2.2) hy hg he]
    · rename_i k i
      cases hx : x[i]? with
      | none => rw [hx] at h; cases h
      | some z =>
        rw [hx] at h
        simp only at h
        cases hy : gset k m.inner z (l.2 i) q c l' with
        | none => rw [hy] at h; cases h
        | some y =>
          rw [hy] at h
          simp only at h
          split at h
          · simp only [Option.some.injEq, Prod.mk.injEq] at h
            obtain ⟨_, rfl, rfl⟩ := h
            exact vals_sl (by simp) rfl
          · cases h

theorem soft_cons (q p : List Stp) :
    soft (.fst :: q) (.fst :: p) = soft q p ∧ soft (.snd :: q) (.snd :: p) = soft q p ∧ (∀ i j, soft (.el i :: q) (.el j :: p) = soft q p) := by
  refine ⟨?_, ?_, fun i j => ?_⟩ <;> simp [soft]

/-- what does not lie below keeps its cells and where it lies -/
theorem soft_at : ∀ {q p : List Stp} {k : K} {m : Mk} {x : T k} {l : L k} {b b0 : Option (Nat × Nat)} {c : Ct} {l' : L c.k} {m' : Mk} {x' : T k} {l2 : L k} {z old : GC},
    gset k m x l q c l' = some (m', x', l2) → gat k m x l b0 q = some old → vals c.k c.x l' = vals old.k old.x old.l → gat k m x l b p = some z → soft q p = false →
    ∃ m2 x2 l3, gat k m' x' l2 b p = some ⟨z.k, m2, x2, l3, z.b⟩ ∧ vals z.k x2 l3 = vals z.k z.x z.l
  | q, [], k, m, x, l, b, b0, c, l', m', x', l2, z, old, hs, ho, he, hg, hh => by
    simp [gat] at hg
    subst hg
    exact ⟨m', x', l2, by simp [gat], gset_same_vals hs ho he⟩
  | [], s :: p, k, m, x, l, b, b0, c, l', m', x', l2, z, old, hs, ho, he, hg, hh => by simp [soft] at hh
  | s :: q, u :: p, k, m, x, l, b, b0, c, l', m', x', l2, z, old, hs, ho, he, hg, hh => by
    cases k <;> cases s <;> simp only [gset, gat] at hs ho <;> first | (cases hs; done) | skip
    · rename_i ka kb
      cases hy : gset ka m.l x.1 l.1 q c l' with
      | none => rw [hy] at hs; cases hs
      | some y =>
        rw [hy] at hs
        simp only [Option.map_some, Option.some.injEq, Prod.mk.injEq] at hs
        obtain ⟨rfl, rfl, rfl⟩ := hs
        cases u with
        | fst =>
          simp only [gat, Mk.mkp_l] at hg ⊢
          exact soft_at (m' := y.1) (x' := y.2.1) (l2 := y.2.2) hy ho he hg (by rwa [(soft_cons q p).1] at hh)
        | snd =>
          simp only [gat, Mk.mkp_r] at hg ⊢
          exact ⟨z.m, z.x, z.l, hg, rfl⟩
        | el j => simp [gat] at hg
    · rename_i ka kb
      cases hy : gset kb m.r x.2 l.2 q c l' with
      | none => rw [hy] at hs; cases hs
      | some y =>
        rw [hy] at hs
        simp only [Option.map_some, Option.some.injEq, Prod.mk.injEq] at hs
        obtain ⟨rfl, rfl, rfl⟩ := hs
        cases u with
        | fst =>
          simp only [gat, Mk.mkp_l] at hg ⊢
          exact ⟨z.m, z.x, z.l, hg, rfl⟩
        | snd =>
          simp only [gat, Mk.mkp_r] at hg ⊢
          exact soft_at (m' := y.1) (x' := y.2.1) (l2 := y.2.2) hy ho he hg (by rwa [(soft_cons q p).2.1] at hh)
        | el j => simp [gat] at hg
    · rename_i k i
      split at ho
      · cases ho
      cases hx : x[i]? with
      | none => rw [hx] at hs; cases hs
      | some e =>
        rw [hx] at hs ho
        simp only at hs ho
        cases hy : gset k m.inner e (l.2 i) q c l' with
        | none => rw [hy] at hs; cases hs
        | some y =>
          rw [hy] at hs
          simp only at hs
          split at hs
          case isFalse => cases hs
          rename_i hcond
          simp only [Option.some.injEq, Prod.mk.injEq] at hs
          obtain ⟨rfl, rfl, rfl⟩ := hs
          cases u with
          | fst => simp [gat] at hg
          | snd => simp [gat] at hg
          | el j =>
            simp only [gat] at hg ⊢
            split at hg
            · cases hg
            rename_i hmd
            rw [if_neg hmd]
            by_cases hij : j = i
            · subst hij
              rw [hx] at hg
              simp only at hg
              rw [getElem?_set_self' hx]
              simp only [if_true]
              have hyy : gset k m.inner e (l.2 j) q c l' = some (m.inner, y.2.1, y.2.2) := by rw [hy, ← hcond.1]
              exact soft_at hyy ho he hg (by rwa [(soft_cons q p).2.2] at hh)
            · rw [List.getElem?_set_ne (Ne.symm hij)]
              cases hxj : x[j]? with
              | none => rw [hxj] at hg; cases hg
              | some f =>
                rw [hxj] at hg
                simp only [if_neg hij] at hg ⊢
                exact ⟨z.m, z.x, z.l, hg, rfl⟩

theorem PcOk.resetS {w' : World} {F' : Nat → Prop} {c0 : Pc} {v : Value} {t : Nat} {q : GR} (hg : g t = some q) {p : List Stp} {c : Ct} {l' : L c.k} {m' : Mk} {x' : T q.k} {l2 : L q.k} {old : GC}
    (hs : gset q.k q.m q.x q.l p c l' = some (m', x', l2)) (ho : q.at p = some old) (he : vals c.k c.x l' = vals old.k old.x old.l) (hF : ∀ b, F b → F' b) (hFw : ∀ b, F b → w'.heap[b]? = w.heap[b]?)
    (h : PcOk P g F w c0 v) : PcOk P (g.set t (some { q with m := m', x := x', l := l2 })) F' w' (c0.soft t p) v := by
  cases c0 with
  | al u p2 =>
    obtain ⟨q', z, h1, h2, h3⟩ := h
    by_cases hu : u = t
    · subst hu
      rw [hg] at h1; injection h1 with h1; subst h1
      simp only [Pc.soft, Nat.beq_refl, Bool.true_and]
      cases hh : Ev.soft p p2 with
      | true => simp only [cond_true]; trivial
      | false =>
        simp only [cond_false]
        obtain ⟨m2, x2, l3, e1, e2⟩ := soft_at hs ho he h2 hh
        exact ⟨_, _, Gs.set_self _ _ _, e1, by rw [h3]; exact (valOf_of_vals e2).symm⟩
    · simp only [Pc.soft, beq_ne hu, Bool.false_and, cond_false]
      exact ⟨q', z, by rw [Gs.set_ne _ _ hu]; exact h1, h2, h3⟩
  | vw u p2 lo n =>
    obtain ⟨q', k, m, xs, l, b, h1, h2, h3, ad, cap, h4, h5, h6, h7, h8⟩ := h
    by_cases hu : u = t
    · subst hu
      rw [hg] at h1; injection h1 with h1; subst h1
      simp only [Pc.soft, Nat.beq_refl, Bool.true_and]
      cases hh : Ev.soft p p2 with
      | true => simp only [cond_true]; trivial
      | false =>
        simp only [cond_false]
        obtain ⟨m2, x2, l3, e1, e2⟩ := soft_at hs ho he h2 hh
        obtain ⟨v1, v2, v3⟩ := vals_sl_inj e2
        dsimp only at v1 v2 v3
        exact ⟨_, k, m2, x2, l3, b, Gs.set_self _ _ _, e1, by omega, ad, cap, h4, h5, by omega, by rw [v2]; exact h7, by rw [v2, v3]; exact h8⟩
    · simp only [Pc.soft, beq_ne hu, Bool.false_and, cond_false]
      exact ⟨q', k, m, xs, l, b, by rw [Gs.set_ne _ _ hu]; exact h1, h2, h3, ad, cap, h4, h5, h6, h7, h8⟩
  | ptr u p2 =>
    obtain ⟨q', z, y, h1, h2, h3, h4⟩ := h
    by_cases hu : u = t
    · subst hu
      rw [hg] at h1; injection h1 with h1; subst h1
      simp only [Pc.soft, Nat.beq_refl, Bool.true_and]
      cases hh : Ev.soft p p2 with
      | true => simp only [cond_true]; trivial
      | false =>
        simp only [cond_false]
        obtain ⟨m2, x2, l3, e1, e2⟩ := soft_at hs ho he h2 hh
        exact ⟨_, _, y, Gs.set_self _ _ _, e1, h3, h4⟩
    · simp only [Pc.soft, beq_ne hu, Bool.false_and, cond_false]
      exact ⟨q', z, y, by rw [Gs.set_ne _ _ hu]; exact h1, h2, h3, h4⟩
  | v k x => exact PcOk.frame (c := .v k x) h hFw hF
  | sp k x => exact PcOk.frame (c := .sp k x) h hFw hF
  | nil0 => exact PcOk.frame (c := .nil0) h hFw hF
  | fv i o f => exact PcOk.frame (c := .fv i o f) h hFw hF
  | bad => trivial

/-- root t gets another content with the same cells at place p -/
theorem Rel.resetS (h : Rel P X N s g F ow tm w) {t : Nat} {q : GR} (hg : g t = some q) {p : List Stp} {c : Ct} {l' : L c.k} {m' : Mk} {x' : T q.k} {l2 : L q.k} {old : GC}
    (hs : gset q.k q.m q.x q.l p c l' = some (m', x', l2)) (ho : q.at p = some old) (he : vals c.k c.x l' = vals old.k old.x old.l) {w' : World} {F' : Nat → Prop} {ow' : Nat → Option Nat}
    (hF : ∀ b, F b → F' b) (hFw : ∀ b, F b → w'.heap[b]? = w.heap[b]?) (hsat : Ev.sat w' F' q.k m' x' l2) (hmem : atBase w' q.b (vals q.k x' l2))
    (hnd : ((q.b.map (·.1)).toList ++ fp q.k m' x' l2).Nodup)
    (hoth : ∀ n q', n ≠ t → g n = some q' → ∀ b ∈ q'.fp, w'.heap[b]? = w.heap[b]? ∧ ow' b = some n)
    (hown : ∀ b ∈ (q.b.map (·.1)).toList ++ fp q.k m' x' l2, ow' b = some t)
    (hF' : ∀ b, F' b → ow' b = none ∧ b < w'.heap.size) (hlt : ∀ b u, ow' b = some u → b < w'.heap.size)
    (hfree : ∀ b ∈ fp q.k m' x' l2, X.free b) (hFnew : ∀ b, F' b → X.F0 b ∨ X.free b)
    (hkept : ∀ b, b < X.w0.heap.size → ¬ X.hd b → match X.rg b with
      | none => w'.heap[b]? = X.w0.heap[b]?
      | some (o, n) => Rng X.w0 w' b o n)
    (hsize : w.heap.size ≤ w'.heap.size) (hos : w'.os = w.os) (htape : w'.tape = w.tape) (hout : w'.output = w.output) :
    Rel P X N ((s.soft t p).setR t (some ⟨q.k, m', x', q.mem, q.tmp⟩)) (g.set t (some { q with m := m', x := x', l := l2 })) F' ow' tm w' := by
  refine { root := fun n => ?_, slot := fun n => (h.slot n).mapTo fun c v hc => hc.resetS hg hs ho he hF hFw, sat := fun n q' hq => ?_, mem := fun n q' hq => ?_, mb := fun n q' hq => ?_, ho := fun n q' hq b hb => ?_, nd := fun n q' hq => ?_, hF := hF', lt := hlt, own := fun n q' hq => ?_, F0 := fun b hb => hF b (h.F0 b hb), Fnew := hFnew, kept := hkept, size := Nat.le_trans h.size hsize, os := hos.trans h.os, tape := htape.trans h.tape, out := hout.trans h.out, sz := h.sz, big := fun n hn => ?_ }
  · by_cases hn : n = t
    · subst hn; simp [St.setR, Gs.set, GR.rt]
    · simp [St.setR, beq_ne hn, Gs.set, hn, St.soft, h.root n]
  · by_cases hn : n = t
    · subst hn; rw [Gs.set_self] at hq; injection hq with hq; subst hq; exact hsat
    · rw [Gs.set_ne _ _ hn] at hq
      refine sat_frame (h.sat n q' hq) (fun b hb => ?_) hF
      rcases hb with hb | hb
      · exact (hoth n q' hn hq b (by simp only [GR.fp, GR.fpi, List.mem_append]; exact .inr hb)).1
      · exact hFw b hb
  · by_cases hn : n = t
    · subst hn; rw [Gs.set_self] at hq; injection hq with hq; subst hq; exact hmem
    · rw [Gs.set_ne _ _ hn] at hq
      exact fun c o e => (h.mem n q' hq c o e).frame (hoth n q' hn hq c (by simp [GR.fp, e])).1
  · by_cases hn : n = t
    · subst hn; rw [Gs.set_self] at hq; injection hq with hq; subst hq; exact h.mb n q hg
    · rw [Gs.set_ne _ _ hn] at hq; exact h.mb n q' hq
  · by_cases hn : n = t
    · subst hn; rw [Gs.set_self] at hq; injection hq with hq; subst hq; exact hown b hb
    · rw [Gs.set_ne _ _ hn] at hq; exact (hoth n q' hn hq b hb).2
  · by_cases hn : n = t
    · subst hn; rw [Gs.set_self] at hq; injection hq with hq; subst hq; exact hnd
    · rw [Gs.set_ne _ _ hn] at hq; exact h.nd n q' hq
  · by_cases hn : n = t
    · subst hn; rw [Gs.set_self] at hq; injection hq with hq; subst hq; exact ⟨hfree, (h.own n q hg).2⟩
    · rw [Gs.set_ne _ _ hn] at hq; exact h.own n q' hq
  · simp only [St.setR, St.soft, h.big n hn, PV.map, Pc.soft]

/-- behind a call that may change what slices hold -/
theorem Rel.backS (h : Rel P X N s g F ow tm w) {w' : World} {F2 A : Nat → Prop} {t : Nat} {p : List Stp} {q : GR} (hg : g t = some q) {k : K} {m : Mk} {xo x' : T k} {lx l' : L k} {cb : Option (Nat × Nat)} (hgat : q.at p = some ⟨k, m, xo, lx, cb⟩)
    {kk : Mk → T q.k → Option R} (hr : Ct.set q.k q.m q.x p ⟨k, m, x'⟩ kk = some r)
    (hF : ∀ b, F b → F2 b) (hn : ∀ b, F2 b → F b ∨ (w.heap.size ≤ b ∧ b < w'.heap.size) ∨ A b)
    (hA : ∀ c, A c → (ow c = none ∧ X.free c ∧ ¬ F c ∧ c < w.heap.size) ∨ c ∈ fp k m xo lx) (hold : ∀ c, c < w.heap.size → ¬ A c → w'.heap[c]? = w.heap[c]?)
    (hs : Ev.sat w' F2 k m x' l') (hv : vals k x' l' = vals k xo lx)
    (hnd : (fp k m x' l').Nodup) (hap : ∀ c ∈ fp k m x' l', ¬ F2 c ∧ (w.heap.size ≤ c ∨ A c))
    (hz : w.heap.size ≤ w'.heap.size) (hos : w'.os = w.os) (htp : w'.tape = w.tape) (hou : w'.output = w.output) :
    ∃ m' y g2 ow2, kk m' y = some r ∧ Rel P X N ((s.soft t p).setR t (some { q.rt with m := m', x := y })) g2 F2 ow2 tm w' ∧ (∀ c, c ∉ fp k m x' l' → (w.heap.size ≤ c ∨ A c) → ow2 c = none) := by
  obtain ⟨m', x2, l2, ⟨h1, hgs⟩, H⟩ := set_same (c := ⟨k, m, x'⟩) l' hr hgat
  have hqnd := h.nd t q hg
  have hqnd' : (q.b.map (·.1)).toList.Nodup ∧ (fp q.k q.m q.x q.l).Nodup ∧ ∀ b ∈ (q.b.map (·.1)).toList, ∀ c ∈ fp q.k q.m q.x q.l, b ≠ c := by
    simpa [GR.fp, GR.fpi, List.nodup_append] using hqnd
  have hin : ∀ c ∈ fp q.k q.m q.x q.l, ow c = some t := fun c hc => h.ho t q hg c (by simp only [GR.fp, GR.fpi, List.mem_append]; exact .inr hc)
  have hbin : ∀ c o, q.b = some (c, o) → ow c = some t := fun c o e => h.ho t q hg c (by simp [GR.fp, e])
  have holdfp : ∀ c ∈ fp k m xo lx, c ∈ fp q.k q.m q.x q.l := gat_fp hgat
  have hnFt : ∀ c, ow c = some t → ¬ F c := fun c hc hF => by rw [(h.hF c hF).1] at hc; cases hc
  have hAo : ∀ c u, ow c = some u → c ∉ fp k m xo lx → ¬ A c := fun c u hc hn hA' => by
    rcases hA c hA' with ⟨e, _⟩ | e
    · rw [e] at hc; cases hc
    · exact hn e
  have hAF : ∀ c, F c → ¬ A c := fun c hc hA' => by
    rcases hA c hA' with ⟨_, _, e, _⟩ | e
    · exact e hc
    · exact hnFt c (hin c (holdfp c e)) hc
  -- of the new parts: those that the root had before are of the old content
  have hfoo : ∀ c ∈ fp k m x' l', ∀ u, ow c = some u → c ∈ fp k m xo lx := fun c hc u hu => by
    rcases (hap c hc).2 with e | e
    · have := h.lt c u hu; omega
    · rcases hA c e with ⟨e, _⟩ | e
      · rw [e] at hu; cases hu
      · exact e
  have Z := H w w' F F2
    { eq := hv, sat := h.sat t q hg
      nd := hqnd'.2.1, nF := fun c hc => hnFt c (hin c hc)
      same := fun c hc hco => hold c (by
          rcases hc with hc | hc
          · exact h.lt c t (hin c hc)
          · exact (h.hF c hc).2) (by
          rcases hc with hc | hc
          · exact hAo c t (hin c hc) hco
          · exact hAF c hc)
      sat' := hs
      apart := fun c hc hc' => hfoo c hc t (hin c hc')
      nd' := hnd, le := hF }
  have hmem : atBase w' q.b (vals q.k x2 l2) := fun c o e => by
    rw [Z.eq]
    have hc := hbin c o e
    exact (h.mem t q hg c o e).frame (hold c (h.lt c t hc) (hAo c t hc fun hc' => hqnd'.2.2 c (by simp [e]) c (holdfp c hc') rfl))
  have hgone : ∀ c ∈ fp k m xo lx, c ∈ fp q.k m' x2 l2 → c ∈ fp k m x' l' := gset_gone hgs hgat hqnd'.2.1
  refine ⟨m', x2, _, owAdd (owSub ow (fp k m xo lx)) (fp k m x' l') t, h1, h.resetS hg hgs hgat hv hF (fun c hc => hold c (h.hF c hc).2 (hAF c hc)) Z.sat hmem ?_ ?_ ?_ ?_ ?_ ?_ ?_ ?_ hz hos htp hou, ?_⟩
  · rw [List.nodup_append]
    refine ⟨hqnd'.1, Z.nd, ?_⟩
    rintro c hc c2 hc2 rfl
    rcases Z.fp c hc2 with e | e
    · exact hqnd'.2.2 c hc c e rfl
    · have hoc : ow c = some t := h.ho t q hg c (by simp only [GR.fp, List.mem_append]; exact .inl hc)
      exact hqnd'.2.2 c hc c (holdfp c (hfoo c e t hoc)) rfl
  · intro n q' hnt hq c hc
    have hoc := h.ho n q' hq c hc
    have hco : c ∉ fp k m xo lx := fun e => by have := hin c (holdfp c e); rw [hoc] at this; injection this with this; exact hnt this
    refine ⟨hold c (h.lt c n hoc) (hAo c n hoc hco), ?_⟩
    rw [owAdd_not (fun e => hco (hfoo c e n hoc)), owSub_not hco]
    exact hoc
  · intro c hc
    rw [List.mem_append] at hc
    by_cases hcn : c ∈ fp k m x' l'
    · exact owAdd_mem hcn
    · rw [owAdd_not hcn]
      rcases hc with hc | hc
      · have hoc : ow c = some t := h.ho t q hg c (by simp only [GR.fp, List.mem_append]; exact .inl hc)
        rw [owSub_not (fun e => hqnd'.2.2 c hc c (holdfp c e) rfl)]
        exact hoc
      · rcases Z.fp c hc with e | e
        · rw [owSub_not (fun e' => hcn (hgone c e' hc))]
          exact hin c e
        · exact absurd e hcn
  · intro c hc
    have hcn : c ∉ fp k m x' l' := fun e => (hap c e).1 hc
    rw [owAdd_not hcn]
    rcases hn c hc with e | ⟨e1, e2⟩ | e
    · refine ⟨?_, Nat.lt_of_lt_of_le (h.hF c e).2 hz⟩
      unfold owSub; split
      · rfl
      · exact (h.hF c e).1
    · refine ⟨?_, e2⟩
      unfold owSub; split
      · rfl
      · cases e : ow c with
        | none => rfl
        | some u => have := h.lt c u e; omega
    · rcases hA c e with ⟨a1, _, _, a4⟩ | e
      · refine ⟨?_, Nat.lt_of_lt_of_le a4 hz⟩
        unfold owSub; split
        · rfl
        · exact a1
      · exact ⟨owSub_mem e, Nat.lt_of_lt_of_le (h.lt c t (hin c (holdfp c e))) hz⟩
  · intro c u hc
    by_cases hcn : c ∈ fp k m x' l'
    · exact fp_lt hs c hcn
    · rw [owAdd_not hcn] at hc
      exact Nat.lt_of_lt_of_le (h.lt c u (owSub_le _ c u hc)) hz
  · intro c hc
    rcases Z.fp c hc with e | e
    · exact (h.own t q hg).1 c e
    · rcases (hap c e).2 with e' | e'
      · exact .inl (Nat.le_trans h.size e')
      · rcases hA c e' with ⟨_, a2, _⟩ | e2
        · exact a2
        · exact (h.own t q hg).1 c (holdfp c e2)
  · intro c hc
    rcases hn c hc with e | ⟨e1, _⟩ | e
    · exact h.Fnew c e
    · exact .inr (.inl (Nat.le_trans h.size e1))
    · rcases hA c e with ⟨_, a2, _⟩ | e2
      · exact .inr a2
      · exact .inr ((h.own t q hg).1 c (holdfp c e2))
  · intro c hc hhd
    have hk0 := h.kept c hc hhd
    have hA' : ¬ A c := fun hA' => by
      rcases hA c hA' with ⟨_, a2, _⟩ | e2
      · exact a2.elim (fun h => by omega) hhd
      · exact ((h.own t q hg).1 c (holdfp c e2)).elim (fun h => by omega) hhd
    have e := hold c (Nat.lt_of_lt_of_le hc h.size) hA'
    cases hrg : X.rg c with
    | none => rw [hrg] at hk0; simp only at hk0 ⊢; rw [e]; exact hk0
    | some y =>
      rw [hrg] at hk0
      obtain ⟨cs, tt, fr, cs', k1, k2, k3, k4⟩ := hk0
      exact ⟨cs, tt, fr, cs', k1, by rw [e]; exact k2, k3, k4⟩
  · intro c hc1 hc2
    rw [owAdd_not hc1]
    unfold owSub; split
    · rfl
    · rename_i hco
      rcases hc2 with e | e
      · cases e' : ow c with
        | none => rfl
        | some u => have := h.lt c u e'; omega
      · rcases hA c e with ⟨a1, _⟩ | e
        · exact a1
        · exact absurd e hco

end
end Go.Proofs.Ytpegmiofhfmepaa.Ev

/- Calls. -/
set_option linter.unusedSimpArgs false
namespace Go.Proofs.Ytpegmiofhfmepaa.Ev

section
variable {P : Program} {X : Cx} {N : Nat} {a : Act} {s : St} {g : Gs} {F : Nat → Prop} {ow : Nat → Option Nat} {w : World} {R : Type} {r : R} {tm : Array Value} {E : Env}
  {o : Oper} {next : Act → World → Prop} {Q : Exit → Act → World → Prop} {kk : St → Option R}

theorem resPcs_al {q : GR} {d : Nat} (hg : g d = some q) : ∀ (rs : List (K × Mk)) (x : Rs rs) (l : L (resK rs)) (b : Option (Nat × Nat)) (p : List Stp → List Stp), Ev.sat w F (resK rs) (resM rs) x l →
    (∀ path, q.at (p path) = gat (resK rs) (resM rs) x l b path) →
    (resPcs d rs x p).length = (resVals rs x l).length ∧ ∀ (i : Nat) (c : Pc) (u : Value), (resPcs d rs x p)[i]? = some c → (resVals rs x l)[i]? = some u → PcOk P g F w c u
  | [], _, _, _, _, _, _ => ⟨rfl, fun i c u h => by simp [resPcs] at h⟩
  | y :: rs, x, l, b, p, hs, hp => by
    have hs1 := hs.1
    have hs2 := hs.2
    simp only [resM, Mk.mkp_l] at hs1
    simp only [resM, Mk.mkp_r] at hs2
    obtain ⟨h1, h2⟩ := resPcs_al hg rs x.2 l.2 (mv b y.1.size) (fun q => p (.snd :: q)) hs2 (fun path => by rw [hp]; simp only [resK, resM, gat, Mk.mkp_r])
    refine ⟨by simp [resPcs, resVals, h1], fun i c u hi hu => ?_⟩
    cases i with
    | zero =>
      simp only [resPcs, resVals, List.getElem?_cons_zero, Option.some.injEq] at hi hu
      subst hi; subst hu
      cases hc : y.2.clear with
      | true =>
        simp only [cond_true]
        exact ⟨l.1, sat_clear hc hs1, rfl⟩
      | false =>
        simp only [cond_false]
        refine ⟨q, ⟨y.1, (resM (y :: rs)).l, x.1, l.1, b⟩, hg, ?_, rfl⟩
        rw [hp]
        simp [resK, gat]
    | succ i =>
      simp only [resPcs, resVals, List.getElem?_cons_succ] at hi hu
      exact h2 i c u hi hu

def tmAt (d : Option Nat) (tm : Array Value) (v : Value) : Array Value := match d with | none => tm | some d => tm.setIfInBounds d v

theorem giveAll_ok (h : Rel P X N s g F ow tm w) {d : Option Nat} (hd : ∀ dd, d = some dd → dd < N) {rs : List (K × Mk)} {x : Rs rs} {l : L (resK rs)} (ht : Taken X F ow w (resK rs) (resM rs) x l)
    (hr : giveAll s d rs x kk = some r) : ∃ s' g' ow', kk s' = some r ∧ Rel P X N s' g' F ow' (tmAt d tm (resVal rs x l)) w := by
  cases d with
  | none => exact ⟨s, g, ow, hr, h⟩
  | some d =>
    have hd := hd d rfl
    have multi : ∀ (rs : List (K × Mk)) (x : Rs rs) (l : L (resK rs)), Taken X F ow w (resK rs) (resM rs) x l →
        cond (allClear rs) (kk (s.put d (.tup (resPcs d rs x id)))) (kk (((s.drop d).setR d (some ⟨resK rs, resM rs, x, false, true⟩)).put d (.tup (resPcs d rs x id)))) = some r →
        ∃ s' g' ow', kk s' = some r ∧ Rel P X N s' g' F ow' (tm.setIfInBounds d (.tuple (resVals rs x l).toArray)) w := by
      intro rs x l ht hr
      cases hc : allClear rs with
      | true =>
        rw [hc] at hr
        obtain ⟨h1, h2⟩ := resPcs_ok (P := P) (g := g) rs d x l id hc (sat_clear (resM_clear hc) ht.sat)
        exact ⟨_, g, ow, hr, h.put hd ⟨_, rfl, h1.symm, h2⟩⟩
      | false =>
        rw [hc] at hr
        have h1 := h.newV (d := d) ht true
        obtain ⟨e1, e2⟩ := resPcs_al (P := P) (w := w) (F := F) (Gs.set_self (g.set d none) d (some ⟨resK rs, resM rs, x, false, true, l, none⟩)) rs x l none id ht.sat (fun _ => rfl)
        exact ⟨_, _, _, hr, h1.put hd ⟨_, rfl, e1.symm, e2⟩⟩
    match rs, x, l, ht, hr with
    | [], x, l, ht, hr => exact multi [] x l ht hr
    | [y], x, l, ht, hr =>
      have hs := ht.sat.1
      simp only [resM, Mk.mkp_l] at hs
      have hfp : fp (resK [y]) (resM [y]) x l = fp y.1 y.2 x.1 l.1 := by simp [resK, resM, fp, Mk.mkp_l]
      have ht' : Taken X F ow w y.1 y.2 x.1 l.1 := ⟨hs, by rw [← hfp]; exact ht.nd, by rw [← hfp]; exact ht.no⟩
      obtain ⟨g2, ow2, h2⟩ := h.give hd ht'
      exact ⟨_, g2, ow2, hr, h2⟩
    | y :: z :: rs, x, l, ht, hr => exact multi (y :: z :: rs) x l ht hr

theorem nodup_tags {ins : List Pm} {cs : List Pc} (h : argsApart ins cs = true) : nodup (tagsOf ins cs).2 = true ∧ ∀ t ∈ (tagsOf ins cs).1, t ∉ (tagsOf ins cs).2 := by
  simp only [argsApart, Bool.and_eq_true, List.all_eq_true, Bool.not_eq_true', List.elem_eq_mem, decide_eq_false_iff_not] at h
  exact h

theorem argBs_sub {ts : List Nat} : ∀ {ins : List Pm} {x : Ps ins} {l : PL ins} {b : Nat}, b ∈ mpFp ins x l → b ∈ argFp ins x l
  | [], _, _, _, h => by cases h
  | .val _ :: ps, x, l, b, h => argBs_sub (ts := ts) (ins := ps) (x := x.2) (l := l.2) h
  | .fn _ _ :: ps, x, l, b, h => argBs_sub (ts := ts) (ins := ps) (x := x.2) (l := l) h
  | .mov k m :: ps, x, l, b, h => List.mem_append.2 (.inr (argBs_sub (ts := ts) (ins := ps) (x := x.2) (l := l.2) h))
  | .mptr k m :: ps, x, l, b, h => by
    simp only [argFp, mpFp, List.mem_append] at h ⊢
    exact h.imp id fun h => argBs_sub (ts := ts) (ins := ps) h
  | .chg k m :: ps, x, l, b, h => by
    simp only [argFp, mpFp, List.mem_append] at h ⊢
    exact h.imp id fun h => argBs_sub (ts := ts) (ins := ps) h

theorem m_call (h : Rel P X N s g F ow a.tmps w) (hE : EnvOk P E) {c : Call} {f : Nat} {sg : Sig} (hd : ∀ dd, o.dst = some dd → dd < N) (ho : o.op = .call c) (hc : c.callee = .value (.func f)) (hsg : E.fns f = some sg)
    (hr : callSig s o.dst sg (opds s c.args) kk = some r) (hn : ∀ a' w', MOk P X N a o.dst kk r a' w' → next a' w') : o.wp P a w next Q := by
  unfold callSig at hr
  cases hcond : (argsApart sg.ins (opds s c.args) && (sg.lends (opds s c.args) && Nat.ble (Pm.outs sg.ins).length 1)) with
  | false => rw [hcond] at hr; cases hr
  | true =>
  rw [hcond] at hr
  simp only [cond_true] at hr
  simp only [Bool.and_eq_true] at hcond
  obtain ⟨hap, hlend, hlen⟩ := hcond
  have hlen := Nat.le_of_ble_eq_true hlen
  obtain ⟨hnd, hdis⟩ := nodup_tags hap
  obtain ⟨xs, pl, l, s', g', ow', Ln, p1, p2, p3, p4, p5, p6, p7, p8, p9, p10, p11⟩ := argsOf_ok h (h.opds c.args).weak hnd hr
  unfold bnd at p1
  split at p1
  case h_2 => cases p1
  rename_i rr hrr
  have hS := hE.fns f sg hsg
  have hback := split_one p2 hlen p6 p1
  -- who owns what
  have hLnF : ∀ b, Ln b → ¬ F b := fun b hb hF => by
    obtain ⟨t, _, e⟩ := p7 b hb
    rw [(h.hF b hF).1] at e; cases e
  have hown : ∀ b t, t ∈ (tagsOf sg.ins (opds s c.args)).2 → ow b = some t → ¬ (F b ∨ Ln b) ∧ b < w.heap.size := fun b t ht hb => by
    refine ⟨?_, h.lt b t hb⟩
    rintro (hF | hL)
    · rw [(h.hF b hF).1] at hb; cases hb
    · obtain ⟨t', e1, e2⟩ := p7 b hL
      rw [hb] at e2; injection e2 with e2; subst e2
      exact hdis t e1 ht
  have hbase : ∀ q ∈ argBs sg.ins l, (∃ t, t ∈ (tagsOf sg.ins (opds s c.args)).2 ∧ ow q.1 = some t) ∧ q.1 ∉ argFp sg.ins xs l := by
    intro q3 hq3
    cases hback with
    | none a1 a2 a3 a4 => rw [a1] at hq3; cases hq3
    | chg t p q k m xo x' lx b a1 a2 a3 a4 a5 a6 a7 a8 => rw [a4] at hq3; cases hq3
    | one t p q k m xo x' lx b o a1 a2 a3 a4 a5 a6 a7 a8 =>
      rw [a4, List.mem_singleton] at hq3
      subst hq3
      have hwh := set_where a6 a2 (p2.sat t q a1) b o rfl
      have hob : ow' b = some t := by
        refine p2.ho t q a1 b ?_
        simp only [GR.fp, GR.fpi, List.mem_append]
        rcases hwh with ⟨o2, e, _⟩ | e
        · exact .inl (by simp [e])
        · exact .inr e
      refine ⟨⟨t, a3, p3 b t hob⟩, fun hb => ?_⟩
      rcases argFp_or hb with hb | hb
      · rw [(p11 b hb).1] at hob; cases hob
      · rw [a5] at hb
        have hg1 := gat_base a2 (p2.sat t q a1) (p2.nd t q a1)
        simp only [Option.map_some, Option.toList_some, List.singleton_append, List.nodup_cons] at hg1
        exact hg1.1 hb
  have hbs1 : ((argBs sg.ins l).map (·.1)).Nodup := by
    cases hback with
    | none a1 a2 a3 a4 => rw [a1]; exact List.nodup_nil
    | chg t p q k m xo x' lx b a1 a2 a3 a4 a5 a6 a7 a8 => rw [a4]; exact List.nodup_nil
    | one t p q k m xo x' lx b o a1 a2 a3 a4 a5 a6 a7 a8 => rw [a4]; simp
  have hnod : (argFp sg.ins xs l ++ (argBs sg.ins l).map (·.1)).Nodup := by
    rw [List.nodup_append]
    refine ⟨p9, hbs1, ?_⟩
    rintro b hb b2 hb2 rfl
    obtain ⟨q3, hq3, rfl⟩ := List.mem_map.1 hb2
    exact (hbase q3 hq3).2 hb
  have hno : ∀ b ∈ argFp sg.ins xs l ++ (argBs sg.ins l).map (·.1), ¬ (F b ∨ Ln b) ∧ b < w.heap.size := fun b hb => by
    rcases List.mem_append.1 hb with hb | hb
    · obtain ⟨t, e1, e2⟩ := p10 b hb
      exact hown b t e1 e2
    · obtain ⟨q3, hq3, rfl⟩ := List.mem_map.1 hb
      obtain ⟨⟨t, e1, e2⟩, _⟩ := hbase q3 hq3
      exact hown _ t e1 e2
  have hlt : ∀ b, (F b ∨ Ln b) → b < w.heap.size := by
    rintro b (hb | hb)
    · exact (h.hF b hb).2
    · obtain ⟨t, _, e⟩ := p7 b hb
      exact h.lt b t e
  have hcalls := hS.2 xs rr hrr w _ l _ p5 hnod hno hlt
  rw [args_list] at hcalls
  simp only [Oper.wp, exec_call ho hc hS.1, Oper.upon]
  refine hcalls.mono fun e w' he => ?_
  obtain ⟨F', lr, lo, rfl, L⟩ := he
  simp only
  -- what is fixed afterwards
  have hkeep : ∀ b, Ln b → w'.heap[b]? = w.heap[b]? := fun b hb => by
    obtain ⟨t, e1, e2⟩ := p7 b hb
    refine L.old b (h.lt b t e2) (fun hb' => ?_) (fun q3 hq3 e => ?_)
    · obtain ⟨t', f1, f2⟩ := p10 b hb'
      rw [e2] at f2; injection f2 with f2; subst f2
      exact hdis t e1 f1
    · obtain ⟨⟨t', f1, f2⟩, _⟩ := hbase q3 hq3
      rw [e, e2] at f2; injection f2 with f2; subst f2
      exact hdis t e1 f1
  have hfe : (fullRes sg.res = true ∧ fullRes (Pm.outs sg.ins) = true ∧ ∀ b o, F' b → Unf w' b o → F' b ∧ ¬ Ln b) ∨ ∀ b, ¬ Ln b := by
    simp only [Sig.lends, Bool.or_eq_true, Bool.and_eq_true] at hlend
    rcases hlend with ⟨⟨h1, h2⟩, h3⟩ | h1
    · refine .inl ⟨h1, h2, fun b o hF ⟨cs, e, fr, c1, _, _, c2⟩ => ⟨hF, fun hL => ?_⟩⟩
      obtain ⟨cs', e', fr', d1, d2⟩ := p8 h3 b hL
      rw [hkeep b hL, d1] at c1
      injection c1 with c1; injection c1 with c1 _ _
      subst c1
      exact d2 c2
    · refine .inr fun b hb => ?_
      obtain ⟨t, e1, _⟩ := p7 b hb
      rw [List.isEmpty_iff.1 h1] at e1
      cases e1
  have hres : Ev.sat w' (fun b => F' b ∧ ¬ Ln b) (resK sg.res) (resM sg.res) rr.1 lr := by
    rcases hfe with ⟨h1, _, h3⟩ | h1
    · have := L.res
      rw [resM_full h1] at this ⊢
      exact sat_full h3 this
    · exact sat_frame L.res (fun _ _ => rfl) (fun b hb => ⟨hb, h1 b⟩)
  have hle : ∀ b, F b → F' b ∧ ¬ Ln b := fun b hb => ⟨L.le b (.inl hb), fun hL => hLnF b hL hb⟩
  have hnew : ∀ b, (F' b ∧ ¬ Ln b) → F b ∨ (w.heap.size ≤ b ∧ b < w'.heap.size) ∨ b ∈ argFp sg.ins xs l := by
    rintro b ⟨h1, h2⟩
    rcases L.new b h1 with h1 | h1
    · exact h1.elim .inl (fun e => absurd e h2)
    · exact .inr h1
  have hresnd := (List.nodup_append.1 L.nd).1
  have fin : ∀ (s2 : St) (g2 : Gs) (ow2 : Nat → Option Nat), Rel P X N s2 g2 (fun b => F' b ∧ ¬ Ln b) ow2 a.tmps w' → giveAll s2 o.dst sg.res rr.1 kk = some r →
      (∀ b ∈ fp (resK sg.res) (resM sg.res) rr.1 lr, ow2 b = none ∧ X.free b) → next (a.put o.dst (resVal sg.res rr.1 lr)) w' := by
    intro s2 g2 ow2 h2 hr2 ho2
    obtain ⟨s3, g3, ow3, k1, k2⟩ := giveAll_ok h2 hd ⟨hres, hresnd, fun b hb => ⟨(ho2 b hb).1, fun hF => (L.apart b (List.mem_append.2 (.inl hb))).1 hF.1, fp_lt hres b hb, (ho2 b hb).2⟩⟩ hr2
    refine hn _ _ ⟨put_keeps a _ _, s3, g3, fun b => F' b ∧ ¬ Ln b, ow3, k1, ?_⟩
    have : (a.put o.dst (resVal sg.res rr.1 lr)).tmps = tmAt o.dst a.tmps (resVal sg.res rr.1 lr) := by cases o.dst <;> rfl
    rw [this]
    exact k2
  cases hback with
  | none a1 a2 a3 a4 =>
    have hAm : ∀ b ∈ argFp sg.ins xs l, ow' b = none ∧ X.free b := fun b hb => by
      rcases argFp_or hb with hb | hb
      · exact p11 b hb
      · rw [a2] at hb; cases hb
    have hb0 := p2.back0 (A := fun b => b ∈ argFp sg.ins xs l) hle hnew (fun b hb => ⟨(hAm b hb).1, (hAm b hb).2, fun hF => (hno b (List.mem_append.2 (.inl hb))).1 (.inl hF), (hno b (List.mem_append.2 (.inl hb))).2⟩)
      (fun b h1 h2 => L.old b h1 h2 (fun q hq => by rw [a1] at hq; cases hq)) L.size L.os L.tape L.out
    refine fin s' g' ow' hb0 a4 fun b hb => ?_
    rcases (L.apart b (List.mem_append.2 (.inl hb))).2 with e | e
    · refine ⟨?_, .inl (Nat.le_trans h.size e)⟩
      cases e' : ow' b with
      | none => rfl
      | some t => have := p2.lt b t e'; omega
    · exact hAm b e
  | one t p q k m xo x' lx b o3 a1 a2 a3 a4 a5 a6 a7 a8 =>
    obtain ⟨l', b1, b2, b3⟩ := a7 w' F' lo L.outs
    have hnd2 := L.nd
    rw [b3, a4] at hnd2
    have hap2 := L.apart
    rw [b3] at hap2
    have hsx : Ev.sat w' (fun b => F' b ∧ ¬ Ln b) k m x' l' := by
      rcases hfe with ⟨_, h2, h3⟩ | h1
      · rw [a8 h2] at b1 ⊢
        exact sat_full h3 b1
      · exact sat_frame b1 (fun _ _ => rfl) (fun b hb => ⟨hb, h1 b⟩)
    simp only [List.nodup_append, List.map_cons, List.map_nil, List.mem_append, List.mem_singleton] at hnd2
    obtain ⟨_, ⟨n1, _, n2⟩, n3⟩ := hnd2
    have hq := p2.own t q a1
    obtain ⟨m', y, g2, ow2, c1, c2, c3⟩ := p2.back1 (F2 := fun b => F' b ∧ ¬ Ln b) (A := fun b => b ∈ argFp sg.ins xs l) a1 a2 a6 hle hnew
      (fun c hc => by
        rcases argFp_or hc with hc' | hc'
        · exact .inl ⟨(p11 c hc').1, (p11 c hc').2, fun hF => (hno c (List.mem_append.2 (.inl hc))).1 (.inl hF), (hno c (List.mem_append.2 (.inl hc))).2⟩
        · rw [a5] at hc'; exact .inr hc')
      (fun c h1 h2 h3 => L.old c h1 h2 (fun q hq => by rw [a4, List.mem_singleton] at hq; subst hq; exact fun e => h3 e.symm))
      (L.rng (b, o3, k.size) (by rw [a4]; simp)) hsx (b2 b o3 rfl) n1 (fun hb => n2 b hb b rfl rfl)
      (fun c hc => ⟨fun hF => (hap2 c (List.mem_append.2 (.inr hc))).1 hF.1, (hap2 c (List.mem_append.2 (.inr hc))).2⟩) L.size L.os L.tape L.out
    refine fin _ g2 ow2 c2 c1 fun c hc => ⟨c3 c (fun hc' => n3 c hc c (.inl hc') rfl) (hap2 c (List.mem_append.2 (.inl hc))).2, ?_⟩
    rcases (hap2 c (List.mem_append.2 (.inl hc))).2 with e | e
    · exact .inl (Nat.le_trans h.size e)
    · rcases argFp_or e with e | e
      · exact (p11 c e).2
      · rw [a5] at e
        exact hq.1 c (gat_fp a2 c e)
  | chg t p q k m xo x' lx b a1 a2 a3 a4 a5 a6 a7 a8 =>
    obtain ⟨l', b1, b2, b3⟩ := a7 w' F' lo L.outs
    have hnd2 := L.nd
    rw [b3, a4] at hnd2
    have hap2 := L.apart
    rw [b3] at hap2
    have hsx : Ev.sat w' (fun b => F' b ∧ ¬ Ln b) k m x' l' := by
      rcases hfe with ⟨_, h2, h3⟩ | h1
      · rw [a8 h2] at b1 ⊢
        exact sat_full h3 b1
      · exact sat_frame b1 (fun _ _ => rfl) (fun b hb => ⟨hb, h1 b⟩)
    simp only [List.map_nil, List.append_nil, List.nodup_append] at hnd2
    obtain ⟨_, n1, n3⟩ := hnd2
    have hq := p2.own t q a1
    obtain ⟨m', y, g2, ow2, c1, c2, c3⟩ := p2.backS (F2 := fun b => F' b ∧ ¬ Ln b) (A := fun b => b ∈ argFp sg.ins xs l) a1 a2 a6 hle hnew
      (fun c hc => by
        rcases argFp_or hc with hc' | hc'
        · exact .inl ⟨(p11 c hc').1, (p11 c hc').2, fun hF => (hno c (List.mem_append.2 (.inl hc))).1 (.inl hF), (hno c (List.mem_append.2 (.inl hc))).2⟩
        · rw [a5] at hc'; exact .inr hc')
      (fun c h1 h2 => L.old c h1 h2 (fun q hq => by rw [a4] at hq; cases hq)) hsx b2 n1
      (fun c hc => ⟨fun hF => (hap2 c (List.mem_append.2 (.inr hc))).1 hF.1, (hap2 c (List.mem_append.2 (.inr hc))).2⟩) L.size L.os L.tape L.out
    refine fin _ g2 ow2 c2 c1 fun c hc => ⟨c3 c (fun hc' => n3 c hc c hc' rfl) (hap2 c (List.mem_append.2 (.inl hc))).2, ?_⟩
    rcases (hap2 c (List.mem_append.2 (.inl hc))).2 with e | e
    · exact .inl (Nat.le_trans h.size e)
    · rcases argFp_or e with e | e
      · exact (p11 c e).2
      · rw [a5] at e
        exact hq.1 c (gat_fp a2 c e)

end
end Go.Proofs.Ytpegmiofhfmepaa.Ev

/- Every operation; operations in a row. -/
set_option linter.unusedSimpArgs false
namespace Go.Proofs.Ytpegmiofhfmepaa.Ev

section
variable {P : Program} {X : Cx} {N : Nat} {a : Act} {s : St} {g : Gs} {F : Nat → Prop} {ow : Nat → Option Nat} {w : World} {R : Type} {r : R} {tm : Array Value} {E : Env}
  {o : Oper} {next : Act → World → Prop} {Q : Exit → Act → World → Prop} {kk : St → Option R}

theorem evM_ok (h : Rel P X N s g F ow a.tmps w) (hE : EnvOk P E) (hN : E.n = N) (hdo : dstOk E o = true) (hr : evM E s o kk = some r)
    (hn : ∀ a' w', MOk P X N a o.dst kk r a' w' → next a' w') : o.wp P a w next Q := by
  have hd : ∀ dd, o.dst = some dd → dd < N := fun dd e => by
    unfold dstOk at hdo
    rw [e] at hdo
    simp only [Bool.and_eq_true] at hdo
    have : dd < E.n := by simpa [Nat.blt_eq] using hdo.1
    exact hN ▸ this
  unfold evM at hr
  split at hr
  · rename_i hdst
    split at hr
    · rename_i t y x ho
      exact (m_store h hE ho hdst hr hn)
    · rename_i c ho
      split at hr
      · rename_i f hc
        split at hr
        · rename_i sg hsg
          exact (m_call h hE hd ho hc hsg (by rw [hdst]; exact hr) hn)
        · cases hr
      · cases hr
    · cases hr
  · rename_i d hdst
    have hd' := hd d hdst
    split at hr
    · rename_i x ho
      exact (m_assign h hd' ho hdst hr hn)
    · rename_i t ho
      exact (m_alloc h hE hd' ho hdst hr hn)
    · rename_i t x ho
      exact (m_box h hE hd' ho hdst hr hn)
    · rename_i t ps ho
      exact (m_build h hE hd' ho hdst hr hn)
    · rename_i t n ps ho
      exact (m_buildSlice h hE hd' ho hdst hr hn)
    · rename_i t u x ho
      exact (m_convert h hE hd' ho hdst hr hn)
    · rename_i t l c ho
      exact (m_makeSlice h hE hd' ho hdst hr hn)
    · rename_i c ho
      split at hr
      · rename_i hc
        exact m_append h hE hd' ho hc hdst hr hn
      · rename_i f hc
        split at hr
        · rename_i sg hsg
          exact (m_call h hE hd ho hc hsg (by rw [hdst]; exact hr) hn)
        · cases hr
      · cases hr
    · cases hr

theorem evOp_ok (h : Rel P X N s g F ow a.tmps w) (hE : EnvOk P E) (hN : E.n = N) (hdo : dstOk E o = true) (hr : evOp E s o kk = some r)
    (hn : ∀ a' w', MOk P X N a o.dst kk r a' w' → next a' w') : o.wp P a w next Q := by
  unfold evOp at hr
  cases hq : quiet E s o with
  | true =>
    rw [hq] at hr
    simp only [cond_true] at hr
    refine (evQ_ok h hE hq hr fun v w' hv => hn _ _ ?_)
    obtain ⟨pv, F', h1, h2, h3, h4, h5⟩ := hv
    exact ⟨put_keeps a _ _, _, g, F', ow, h1, (h.ext h2 h3 h4).dst hN hdo h5⟩
  | false =>
    rw [hq] at hr
    exact evM_ok h hE hN hdo hr hn

/-- temporaries below n are as they were -/
def Low (n : Nat) (a a' : Act) : Prop := a'.defers = a.defers ∧ ∀ i, i < n → a'.tmps[i]? = a.tmps[i]?

theorem Keeps.low (hdo : dstOk E o = true) {a' : Act} (h : Keeps a o.dst a') : Low E.lo a a' := by
  refine ⟨h.1, fun i hi => h.2 i fun e => ?_⟩
  unfold dstOk at hdo
  rw [e] at hdo
  simp only [Bool.and_eq_true] at hdo
  have := Nat.le_of_ble_eq_true hdo.2
  omega

theorem evOps_ok {ops : Array Oper} (hE : EnvOk P E) (hN : E.n = N) : ∀ {l : List Oper} {s : St} {g : Gs} {F : Nat → Prop} {ow : Nat → Option Nat} {a : Act} {w : World}, Rel P X N s g F ow a.tmps w → evOps E ops l s kk = some r →
    (∀ a' w', Low E.lo a a' → (∃ s' g' F' ow', kk s' = some r ∧ Rel P X N s' g' F' ow' a'.tmps w') → Q .normal a' w') → wpList P ops Q l a w
  | [], s, g, F, ow, a, w, h, hr, hn => hn a w ⟨rfl, fun _ _ => rfl⟩ ⟨s, g, F, ow, hr, h⟩
  | o :: os, s, g, F, ow, a, w, h, hr, hn => by
    simp only [evOps] at hr
    cases hdo : dstOk E o with
    | false => rw [hdo] at hr; cases hr
    | true =>
    rw [hdo] at hr
    simp only [cond_true] at hr
    have go : ∀ {s : St}, Rel P X N s g F ow a.tmps w → evOp E s o (fun s => evOps E ops os s kk) = some r → o.wp P a w (wpList P ops Q os) Q := fun h hr =>
      evOp_ok h hE hN hdo hr fun a' w' ⟨hdf, s2, g2, F2, ow2, h1, h2⟩ => evOps_ok hE hN h2 h1 fun a2 w2 hl hm => hn a2 w2 ⟨hl.1.trans hdf.1, fun i hi => (hl.2 i hi).trans ((hdf.low hdo).2 i hi)⟩ hm
    have skip : ∀ {s : St}, Rel P X N s g F ow a.tmps w → evOps E ops os (s.dst o.dst (.tup [])) kk = some r → wpList P ops Q os (a.put o.dst undef) w := fun h hr =>
      evOps_ok hE hN (h.dst hN hdo (c := .tup []) ⟨[], rfl, rfl, fun i c u hc => by simp at hc⟩) hr fun a2 w2 hl hm => hn a2 w2 ⟨hl.1.trans (put_keeps a _ _).1, fun i hi => (hl.2 i hi).trans (((put_keeps a o.dst undef).low hdo).2 i hi)⟩ hm
    unfold wpList
    cases hgd : o.guard with
    | none =>
      rw [hgd] at hr
      rw [if_pos (by simp [Region.wanted, hgd])]
      exact .inl (go h hr)
    | some jw =>
      obtain ⟨j, want⟩ := jw
      rw [hgd] at hr
      simp only at hr
      split at hr
      case h_2 => cases hr
      rename_i gd hgd2
      split at hr
      case h_3 => cases hr
      case h_2 hsl =>
        -- the guard itself was passed over
        have hslot := h.slot gd
        rw [hsl] at hslot
        obtain ⟨vs, hv, hl, _⟩ := hslot
        have hvs : vs = [] := List.eq_nil_of_length_eq_zero hl
        subst hvs
        have hy : yielded ops a.tmps j = none := by
          simp only [yielded, hgd2, Option.bind_some]
          rcases Nat.lt_or_ge gd a.tmps.size with h1 | h1
          · rw [Array.getD_eq_getD_getElem?, Array.getElem?_eq_getElem h1] at hv
            rw [Array.getElem?_eq_getElem h1]
            simp only [Option.getD_some] at hv
            rw [hv]
          · rw [Array.getElem?_eq_none h1]
        have hwd : Region.wanted o (yielded ops a.tmps) = false := by
          simp only [Region.wanted, hgd, hy]
          rfl
        rw [hwd]
        exact skip h hr
      rename_i b hsl
      -- the guard's word
      have hslot := h.slot gd
      rw [hsl] at hslot
      obtain ⟨_, _, hv⟩ := hslot
      have hv : a.tmps.getD gd undef = .bool b := hv
      have hy : yielded ops a.tmps j = some b := by
        have hlt : gd < a.tmps.size := by
          rcases Nat.lt_or_ge gd a.tmps.size with h1 | h1
          · exact h1
          · rw [Array.getD_eq_getD_getElem?, Array.getElem?_eq_none h1] at hv
            cases hv
        simp only [yielded, hgd2, Option.bind_some]
        rw [Array.getD_eq_getD_getElem?, Array.getElem?_eq_getElem hlt] at hv
        rw [Array.getElem?_eq_getElem hlt]
        simp only [Option.getD_some] at hv
        rw [hv]
      have hwd : Region.wanted o (yielded ops a.tmps) = (b == want) := by
        simp only [Region.wanted, hgd, hy]
        cases b <;> cases want <;> rfl
      have hput : ∀ c, c = b → Rel P X N (s.put gd (.one (.v .bool c))) g F ow a.tmps w := by
        rintro c rfl
        have hgN : gd < N := by
          rcases Nat.lt_or_ge gd N with h1 | h1
          · exact h1
          · have := h.big gd h1; rw [hsl] at this; cases this
        have := h.put hgN (c := .one (.v .bool c)) (v := .bool c) ⟨(), trivial, rfl⟩
        have e : a.tmps.setIfInBounds gd (.bool c) = a.tmps := by
          apply Array.ext
          · simp
          · intro i h1 h2
            rw [Array.getElem_setIfInBounds (by simpa using h1)]
            split
            · rename_i e; subst e
              rw [Array.getD_eq_getD_getElem?, Array.getElem?_eq_getElem h2] at hv
              simp only [Option.getD_some] at hv
              exact hv.symm
            · rfl
        rw [e] at this
        exact this
      rw [hwd]
      cases b with
      | true =>
        simp only [cond_true] at hr
        cases want with
        | true => simp only [cond_true] at hr; exact .inl (go (hput true rfl) hr)
        | false => simp only [cond_false] at hr; exact skip (hput true rfl) hr
      | false =>
        simp only [cond_false] at hr
        cases want with
        | true => simp only [cond_true] at hr; exact skip (hput false rfl) hr
        | false => simp only [cond_false] at hr; exact .inl (go (hput false rfl) hr)

end
end Go.Proofs.Ytpegmiofhfmepaa.Ev

/- Code. -/
set_option linter.unusedSimpArgs false
namespace Go.Proofs.Ytpegmiofhfmepaa.Ev

section
variable {P : Program} {X : Cx} {N : Nat} {a : Act} {s : St} {g : Gs} {F : Nat → Prop} {ow : Nat → Option Nat} {w : World} {R : Type} {r : R} {tm : Array Value} {E : Env}

/-- nothing deferred, the parameters' temporaries as at the entry -/
def Frm (X : Cx) (a : Act) : Prop := a.defers = [] ∧ ∀ i, i < X.lo → a.tmps[i]? = X.tm0[i]?

theorem Frm.low {a' : Act} (h : Frm X a) (hl : Low X.lo a a') : Frm X a' := ⟨hl.1.trans h.1, fun i hi => (hl.2 i hi).trans (h.2 i hi)⟩

/-- where a piece of code ends -/
def OutP (P : Program) (X : Cx) (N : Nat) (kk : Out → Option R) (r : R) : Exit → Act → World → Prop
  | .normal, a, w => Frm X a ∧ ∃ s g F ow, kk (.norm s) = some r ∧ Rel P X N s g F ow a.tmps w
  | .exit i, a, w => Frm X a ∧ ∃ s g F ow, kk (.exit i s) = some r ∧ Rel P X N s g F ow a.tmps w
  | .ret, a, w => Frm X a ∧ ∃ s g F ow, kk (.ret s) = some r ∧ Rel P X N s g F ow a.tmps w
  | _, _, _ => False

/-- a piece of code does what its typed function says -/
def SubOk (P : Program) (X : Cx) (N : Nat) (u : Sub) (c : Code) : Prop :=
  ∀ (R : Type) (r : R) (kk : Out → Option R) (s : St) (g : Gs) (F : Nat → Prop) (ow : Nat → Option Nat) (a : Act) (w : World), Rel P X N s g F ow a.tmps w → Frm X a → u.run s kk = some r → c.wp P (OutP P X N kk r) a w

/-- a region whose order is drawn -/
def RegOk (P : Program) (X : Cx) (N : Nat) (E : Env) (id : Nat) (ops : Array Oper) : Prop :=
  ∀ (R : Type) (r : R) (kk : Out → Option R) (s : St) (g : Gs) (F : Nat → Prop) (ow : Nat → Option Nat) (a : Act) (w : World), Rel P X N s g F ow a.tmps w → Frm X a →
    evD E (E.draw id) ops ops.toList 0 s (fun s => kk (.norm s)) = some r → (Code.region id ops true).wp P (OutP P X N kk r) a w

def Good (P : Program) (X : Cx) (N : Nat) (E : Env) (subs : Bool → Nat → Option Sub) : Code → Prop
  | .seq a b => Good P X N E subs a ∧ Good P X N E subs b
  | .cond c a b => match ((firstReg a).orElse fun _ => firstReg b).bind (subs false) with
    | some u => SubOk P X N u (.cond c a b)
    | none => Good P X N E subs a ∧ Good P X N E subs b
  | .block _ a => Good P X N E subs a
  | .loop a => match (firstReg a).bind (subs true) with
    | some u => SubOk P X N u (.loop a)
    | none => True
  | .region id ops true => RegOk P X N E id ops
  | _ => True

theorem evC_ok {subs : Bool → Nat → Option Sub} (hE : EnvOk P E) (hN : E.n = N) (hlo : E.lo = X.lo) : ∀ {c : Code} {R : Type} {r : R} {kk : Out → Option R} {s : St} {g : Gs} {F : Nat → Prop} {ow : Nat → Option Nat} {a : Act} {w : World},
    Good P X N E subs c → Rel P X N s g F ow a.tmps w → Frm X a → evC E subs c s kk = some r → c.wp P (OutP P X N kk r) a w
  | .skip, R, r, kk, s, g, F, ow, a, w, _, h, hdf, hr => wp_skip ⟨hdf, s, g, F, ow, hr, h⟩
  | .region id ops false, R, r, kk, s, g, F, ow, a, w, _, h, hdf, hr => by
    simp only [evC] at hr
    exact wp_region_list (evOps_ok hE hN h hr fun a' w' hl ⟨s2, g2, F2, ow2, h1, h2⟩ => ⟨hdf.low (hlo ▸ hl), s2, g2, F2, ow2, h1, h2⟩)
  | .region id ops true, R, r, kk, s, g, F, ow, a, w, hg, h, hdf, hr => by
    simp only [evC] at hr
    exact hg R r kk s g F ow a w h hdf hr
  | .seq x y, R, r, kk, s, g, F, ow, a, w, hg, h, hdf, hr => by
    simp only [evC] at hr
    refine wp_seq (wp_mono (evC_ok hE hN hlo hg.1 h hdf hr) fun e a' w' hq => ?_)
    cases e with
    | normal =>
      obtain ⟨d, s2, g2, F2, ow2, h1, h2⟩ := hq
      exact evC_ok hE hN hlo hg.2 h2 d h1
    | exit i => exact hq
    | ret => exact hq
    | outgrown => exact hq
    | goto _ => exact hq
    | panic _ => exact hq
  | .cond c x y, R, r, kk, s, g, F, ow, a, w, hg, h, hdf, hr => by
    simp only [evC] at hr
    simp only [Good] at hg
    cases hu : ((firstReg x).orElse fun _ => firstReg y).bind (subs false) with
    | some u =>
      rw [hu] at hr hg
      exact hg R r kk s g F ow a w h hdf hr
    | none =>
      rw [hu] at hr hg
      simp only at hr hg
      split at hr
      case h_2 => cases hr
      rename_i t ht
      have hc := h.opd c
      have hv : a.eval c = .bool t := by
        cases hp : s.opd c with
        | v k z =>
          rw [hp] at ht hc
          cases k <;> simp only [asBool] at ht <;> first | (cases ht; done) | skip
          injection ht with ht
          subst ht
          obtain ⟨_, _, hv⟩ := hc
          exact hv
        | _ => rw [hp] at ht; cases ht
      refine wp_cond hv ?_
      cases t with
      | true => exact evC_ok hE hN hlo hg.1 h hdf hr
      | false => exact evC_ok hE hN hlo hg.2 h hdf hr
  | .block id x, R, r, kk, s, g, F, ow, a, w, hg, h, hdf, hr => by
    simp only [evC] at hr
    refine wp_block (wp_mono (evC_ok hE hN hlo hg h hdf hr) fun e a' w' hq => ?_)
    cases e with
    | normal => exact hq
    | exit i =>
      obtain ⟨d, s2, g2, F2, ow2, h1, h2⟩ := hq
      simp only [Exit.inBlock]
      simp only at h1
      cases hi : Nat.beq i id with
      | true =>
        rw [hi] at h1
        rw [if_pos (Nat.eq_of_beq_eq_true hi)]
        exact ⟨d, s2, g2, F2, ow2, h1, h2⟩
      | false =>
        rw [hi] at h1
        rw [if_neg (Nat.ne_of_beq_eq_false hi)]
        exact ⟨d, s2, g2, F2, ow2, h1, h2⟩
    | ret => exact hq
    | outgrown => exact hq
    | goto _ => exact hq
    | panic _ => exact hq
  | .loop x, R, r, kk, s, g, F, ow, a, w, hg, h, hdf, hr => by
    simp only [evC] at hr
    simp only [Good] at hg
    cases hu : (firstReg x).bind (subs true) with
    | some u =>
      rw [hu] at hr hg
      exact hg R r kk s g F ow a w h hdf hr
    | none => rw [hu] at hr; cases hr
  | .exit id, R, r, kk, s, g, F, ow, a, w, _, h, hdf, hr => wp_exit ⟨hdf, s, g, F, ow, hr, h⟩
  | .ret, R, r, kk, s, g, F, ow, a, w, _, h, hdf, hr => wp_ret ⟨hdf, s, g, F, ow, hr, h⟩
  | .label _, _, _, _, _, _, _, _, _, _, _, _, _, hr => by cases hr
  | .goto _, _, _, _, _, _, _, _, _, _, _, _, _, hr => by cases hr
  | .scope _, _, _, _, _, _, _, _, _, _, _, _, _, hr => by cases hr
  | .rangeFunc .., _, _, _, _, _, _, _, _, _, _, _, _, hr => by cases hr

end
end Go.Proofs.Ytpegmiofhfmepaa.Ev

/- States of which less is known. -/
set_option linter.unusedSimpArgs false
namespace Go.Proofs.Ytpegmiofhfmepaa.Ev

section
variable {P : Program} {X : Cx} {N : Nat} {a : Act} {s : St} {g : Gs} {F : Nat → Prop} {ow : Nat → Option Nat} {w : World} {R : Type} {r : R} {tm : Array Value} {E : Env}

/-- of s0 no more is known than of s -/
structure Le (s0 s : St) : Prop where
  slot : ∀ n, s0.slot n = .one .bad ∨ (∃ k x c, s0.slot n = .one (.v k x) ∧ s.slot n = .one c ∧ asV k c = some x) ∨ (∃ t p, s0.slot n = .one (.al t p) ∧ s.slot n = .one (.al t p)) ∨ (∃ t p, s0.slot n = .one (.ptr t p) ∧ s.slot n = .one (.ptr t p))
  root : ∀ t, s0.root t = none ∨ ∃ rt, s.root t = some rt ∧ s0.root t = some { rt with tmp := false }

def Closed (s : St) : Prop := ∀ n t p, (s.slot n = .one (.al t p) ∨ s.slot n = .one (.ptr t p)) → s.root t ≠ none

theorem asV_ok {k : K} {c : Pc} {x : T k} {v : Value} (hc : PcOk P g F w c v) (h : asV k c = some x) : ∃ l, Ev.sat w F k .s x l ∧ v = valOf k x l := by
  unfold asV at h
  split at h
  · split at h
    · rename_i hk
      subst hk
      injection h with h
      subst h
      exact hc
    · cases h
  · obtain ⟨q, h1, h2⟩ := hc
    split at h
    · injection h with h
      subst h
      exact ⟨_, nilZ_sat h2, h1⟩
    · cases h
  · cases h

theorem Rel.weak (h : Rel P X N s g F ow tm w) {s0 : St} (hl : Le s0 s) (hc : Closed s0) : ∃ g0, Rel P X N s0 g0 F ow tm w := by
  have hg : ∀ t q, (match s0.root t with | none => none | some _ => (g t).map fun q => { q with tmp := false }) = some q → ∃ q', g t = some q' ∧ q = { q' with tmp := false } := by
    intro t q hq
    cases hr : s0.root t with
    | none => rw [hr] at hq; cases hq
    | some rt =>
      rw [hr] at hq
      simp only at hq
      cases hgt : g t with
      | none => rw [hgt] at hq; cases hq
      | some q' =>
        rw [hgt] at hq
        simp only [Option.map_some, Option.some.injEq] at hq
        exact ⟨q', rfl, hq.symm⟩
  have hto : ∀ t q', g t = some q' → s0.root t ≠ none → (match s0.root t with | none => none | some _ => (g t).map fun q => { q with tmp := false }) = some { q' with tmp := false } := by
    intro t q' hq hr
    cases hr' : s0.root t with
    | none => exact absurd hr' hr
    | some rt => simp [hq]
  refine ⟨fun t => match s0.root t with | none => none | some _ => (g t).map fun q => { q with tmp := false }, { root := fun t => ?_, slot := fun n => ?_, sat := fun t q hq => ?_, mem := fun t q hq => ?_, mb := fun t q hq => ?_, ho := fun t q hq => ?_, nd := fun t q hq => ?_, hF := h.hF, lt := h.lt, own := fun t q hq => ?_, F0 := h.F0, Fnew := h.Fnew, kept := h.kept, size := h.size, os := h.os, tape := h.tape, out := h.out, sz := h.sz, big := fun n hn => ?_ }⟩
  · rcases hl.root t with e | ⟨rt, e1, e2⟩
    · rw [e]; rfl
    · obtain ⟨q, hq, rfl⟩ := h.rootOf e1
      rw [e2]
      simp [hq, GR.rt]
  · have hs := h.slot n
    rcases hl.slot n with e | ⟨k, x, c, e1, e2, e3⟩ | ⟨t, p, e1, e2⟩ | ⟨t, p, e1, e2⟩
    · rw [e]; trivial
    · rw [e1]
      rw [e2] at hs
      exact asV_ok hs e3
    · rw [e1]
      rw [e2] at hs
      obtain ⟨q, c, h1, h2, h3⟩ := hs
      exact ⟨_, c, hto t q h1 (hc n t p (.inl e1)), h2, h3⟩
    · rw [e1]
      rw [e2] at hs
      obtain ⟨q, c, y, h1, h2, h3, h4⟩ := hs
      exact ⟨_, c, y, hto t q h1 (hc n t p (.inr e1)), h2, h3, h4⟩
  · obtain ⟨q', h1, rfl⟩ := hg t q hq; exact h.sat t q' h1
  · obtain ⟨q', h1, rfl⟩ := hg t q hq; exact h.mem t q' h1
  · obtain ⟨q', h1, rfl⟩ := hg t q hq; exact h.mb t q' h1
  · obtain ⟨q', h1, rfl⟩ := hg t q hq; exact h.ho t q' h1
  · obtain ⟨q', h1, rfl⟩ := hg t q hq; exact h.nd t q' h1
  · obtain ⟨q', h1, rfl⟩ := hg t q hq; exact h.own t q' h1
  · have hb := h.big n hn
    rcases hl.slot n with e | ⟨k, x, c, e1, e2, e3⟩ | ⟨t, p, e1, e2⟩ | ⟨t, p, e1, e2⟩
    · exact e
    · rw [hb] at e2
      injection e2 with e2
      subst e2
      simp [asV] at e3
    · rw [hb] at e2; cases e2
    · rw [hb] at e2; cases e2

theorem Le.empty : Le .empty s := ⟨fun _ => .inl rfl, fun _ => .inl rfl⟩

theorem Le.put {s0 : St} (h : Le s0 s) {n : Nat} {c : PV} (hc : c = .one .bad ∨ (∃ k x c', c = .one (.v k x) ∧ s.slot n = .one c' ∧ asV k c' = some x) ∨ (∃ t p, c = .one (.al t p) ∧ s.slot n = .one (.al t p)) ∨ (∃ t p, c = .one (.ptr t p) ∧ s.slot n = .one (.ptr t p))) :
    Le (s0.put n c) s := by
  refine ⟨fun m => ?_, h.root⟩
  by_cases hm : m = n
  · subst hm
    simp only [St.put, Nat.beq_refl, cond_true]
    exact hc
  · simp only [St.put, beq_ne hm, cond_false]
    exact h.slot m

theorem extS_ok : ∀ {l : List (Nat × Sd)} {kk : VarsS l → Option R}, extS s l kk = some r → ∃ x, kk x = some r ∧ ∀ s0, Le s0 s → Le (mkS l x s0) s
  | [], kk, h => ⟨(), h, fun _ h => h⟩
  | (n, .v k) :: l, kk, h => by
    simp only [extS] at h
    split at h
    case h_2 => cases h
    rename_i c hs
    split at h
    case h_2 => cases h
    rename_i x hx
    obtain ⟨y, h1, h2⟩ := extS_ok h
    exact ⟨(x, y), h1, fun s0 hl => h2 _ (hl.put (.inr (.inl ⟨k, x, c, rfl, hs, hx⟩)))⟩
  | (n, .al t p) :: l, kk, h => by
    simp only [extS] at h
    split at h
    case h_2 => cases h
    rename_i t' p' hs
    split at h
    case isFalse => cases h
    rename_i e
    obtain ⟨rfl, rfl⟩ := e
    obtain ⟨y, h1, h2⟩ := extS_ok h
    exact ⟨y, h1, fun s0 hl => h2 _ (hl.put (.inr (.inr (.inl ⟨_, _, rfl, hs⟩))))⟩
  | (n, .ptr t p) :: l, kk, h => by
    simp only [extS] at h
    split at h
    case h_2 => cases h
    rename_i t' p' hs
    split at h
    case isFalse => cases h
    rename_i e
    obtain ⟨rfl, rfl⟩ := e
    obtain ⟨y, h1, h2⟩ := extS_ok h
    exact ⟨y, h1, fun s0 hl => h2 _ (hl.put (.inr (.inr (.inr ⟨_, _, rfl, hs⟩))))⟩

theorem extR_ok : ∀ {l : List (Nat × Rd)} {kk : VarsR l → Option R}, extR s l kk = some r → ∃ x, kk x = some r ∧ ∀ s0, Le s0 s → Le (mkR l x s0) s
  | [], kk, h => ⟨(), h, fun _ h => h⟩
  | (n, d) :: l, kk, h => by
    simp only [extR] at h
    split at h
    case h_2 => cases h
    rename_i rt hs
    split at h
    case isFalse => cases h
    rename_i hk
    split at h
    case isFalse => cases h
    rename_i hm
    obtain ⟨y, h1, h2⟩ := extR_ok h
    refine ⟨(hk ▸ rt.x, y), h1, fun s0 hl => h2 _ ⟨hl.slot, fun t => ?_⟩⟩
    by_cases ht : t = n
    · subst ht
      refine .inr ⟨rt, hs, ?_⟩
      simp only [St.setR, Nat.beq_refl, cond_true]
      obtain ⟨dk, dm, dmem⟩ := d
      obtain ⟨rk, rm, rx, rmem, rtmp⟩ := rt
      dsimp only at hk hm
      obtain ⟨hm1, hm2⟩ := hm
      subst hk; subst hm1; subst hm2
      rfl
    · simp only [St.setR, beq_ne ht, cond_false]
      exact hl.root t

theorem ext_ok {D : Desc} {kk : Vars D → Option R} (h : D.ext s kk = some r) : ∃ x, kk x = some r ∧ ∀ s0, Le s0 s → Le (D.mk2 x s0) s := by
  obtain ⟨x, h1, h2⟩ := extS_ok h
  obtain ⟨y, h3, h4⟩ := extR_ok h1
  exact ⟨(x, y), h3, fun s0 hl => h4 _ (h2 _ hl)⟩

/-! ### roots that slots name are there -/
theorem mkR_root : ∀ {l : List (Nat × Rd)} {x : VarsR l} {s : St} {t : Nat}, (l.any (fun y => Nat.beq y.1 t) = true ∨ s.root t ≠ none) → (mkR l x s).root t ≠ none
  | [], x, s, t, h => by
    rcases h with h | h
    · cases h
    · exact h
  | (n, d) :: l, x, s, t, h => by
    refine mkR_root (l := l) ?_
    by_cases ht : t = n
    · subst ht
      right
      simp [St.setR]
    · simp only [St.setR, beq_ne ht, cond_false]
      rcases h with h | h
      · simp only [List.any_cons, Bool.or_eq_true] at h
        rcases h with h | h
        · exact absurd (Nat.eq_of_beq_eq_true h).symm ht
        · exact .inl h
      · exact .inr h

theorem mkR_slot : ∀ {l : List (Nat × Rd)} {x : VarsR l} {s : St} {n : Nat}, (mkR l x s).slot n = s.slot n
  | [], _, _, _ => rfl
  | (_, d) :: l, x, s, n => (mkR_slot (l := l)).trans rfl

theorem mkS_root : ∀ {l : List (Nat × Sd)} {x : VarsS l} {s : St} {t : Nat}, (mkS l x s).root t = s.root t
  | [], _, _, _ => rfl
  | (_, .v _) :: l, x, s, t => (mkS_root (l := l)).trans rfl
  | (_, .al _ _) :: l, x, s, t => (mkS_root (l := l)).trans rfl
  | (_, .ptr _ _) :: l, x, s, t => (mkS_root (l := l)).trans rfl

theorem mkS_slot : ∀ {l : List (Nat × Sd)} {x : VarsS l} {s : St} {n t : Nat} {p : List Stp}, ((mkS l x s).slot n = .one (.al t p) ∨ (mkS l x s).slot n = .one (.ptr t p)) →
    (s.slot n = .one (.al t p) ∨ s.slot n = .one (.ptr t p)) ∨ ∃ y ∈ l, y.2 = .al t p ∨ y.2 = .ptr t p
  | [], _, _, _, _, _, h => .inl h
  | (m, .v k) :: l, x, s, n, t, p, h => by
    rcases mkS_slot (l := l) h with h | ⟨y, hy, e⟩
    · by_cases hn : n = m
      · subst hn; simp [St.put] at h
      · simp only [St.put, beq_ne hn, cond_false] at h; exact .inl h
    · exact .inr ⟨y, List.mem_cons_of_mem _ hy, e⟩
  | (m, .al t' p') :: l, x, s, n, t, p, h => by
    rcases mkS_slot (l := l) h with h | ⟨y, hy, e⟩
    · by_cases hn : n = m
      · subst hn
        simp [St.put] at h
        obtain ⟨rfl, rfl⟩ := h
        exact .inr ⟨_, List.mem_cons_self, .inl rfl⟩
      · simp only [St.put, beq_ne hn, cond_false] at h; exact .inl h
    · exact .inr ⟨y, List.mem_cons_of_mem _ hy, e⟩
  | (m, .ptr t' p') :: l, x, s, n, t, p, h => by
    rcases mkS_slot (l := l) h with h | ⟨y, hy, e⟩
    · by_cases hn : n = m
      · subst hn
        simp [St.put] at h
        obtain ⟨rfl, rfl⟩ := h
        exact .inr ⟨_, List.mem_cons_self, .inr rfl⟩
      · simp only [St.put, beq_ne hn, cond_false] at h; exact .inl h
    · exact .inr ⟨y, List.mem_cons_of_mem _ hy, e⟩

theorem closed_ok {c d : Desc} (h : closed2 c d = true) (x : Vars c) (y : Vars d) : Closed (d.mk2 y (c.mk2 x .empty)) := by
  intro n t p hs
  simp only [Desc.mk2, mkR_slot] at hs
  have key : ∀ z ∈ c.slots ++ d.slots, (z.2 = .al t p ∨ z.2 = .ptr t p) → (c.roots ++ d.roots).any (fun y => Nat.beq y.1 t) = true := by
    intro z hz e
    have := List.all_eq_true.1 h z hz
    rcases e with e | e <;> (rw [e] at this; exact this)
  have hr : (c.roots ++ d.roots).any (fun y => Nat.beq y.1 t) = true := by
    rcases mkS_slot hs with hs | ⟨z, hz, e⟩
    · simp only [Desc.mk2, mkR_slot] at hs
      rcases mkS_slot hs with hs | ⟨z, hz, e⟩
      · simp [St.empty] at hs
      · exact key z (List.mem_append.2 (.inl hz)) e
    · exact key z (List.mem_append.2 (.inr hz)) e
  simp only [List.any_append, Bool.or_eq_true] at hr
  refine mkR_root ?_
  rcases hr with hr | hr
  · right
    rw [mkS_root]
    exact mkR_root (.inl hr)
  · exact .inl hr

/-- what is known of a state by two descriptors -/
theorem Rel.desc (h : Rel P X N s g F ow tm w) {c d : Desc} (hc : closed2 c d = true) {x : Vars c} {y : Vars d} (h1 : ∀ s0, Le s0 s → Le (c.mk2 x s0) s) (h2 : ∀ s0, Le s0 s → Le (d.mk2 y s0) s) :
    ∃ g0, Rel P X N (d.mk2 y (c.mk2 x .empty)) g0 F ow tm w := h.weak (h2 _ (h1 _ Le.empty)) (closed_ok hc x y)

end
end Go.Proofs.Ytpegmiofhfmepaa.Ev

/- Ifs and loops with a typed function of their own. -/
set_option linter.unusedSimpArgs false
namespace Go.Proofs.Ytpegmiofhfmepaa.Ev

section
variable {P : Program} {X : Cx} {N : Nat} {a : Act} {s : St} {g : Gs} {F : Nat → Prop} {ow : Nat → Option Nat} {w : World} {R : Type} {r : R} {tm : Array Value} {E : Env}

theorem ocOf_ok : ∀ {ex : List (Ek × Desc)} {o : Out} {kk : Oc ex → Option R}, ocOf ex o kk = some r → ∃ (oc : Oc ex) (e : Ek) (d : Desc) (y : Vars d), (e, d) ∈ ex ∧ kk oc = some r ∧
    (∀ (R' : Type) (base : St) (kk0 : Out → Option R'), ocRun base ex oc kk0 = kk0 (e.out (d.mk2 y base))) ∧ e.out o.st = o ∧ ∀ s0, Le s0 o.st → Le (d.mk2 y s0) o.st
  | [], o, kk, h => by cases h
  | [(e, d)], o, kk, h => by
    have go : ∀ (s : St), o.st = s → e.out s = o → d.ext s kk = some r → ∃ (oc : Oc [(e, d)]) (e2 : Ek) (d2 : Desc) (y : Vars d2), (e2, d2) ∈ [(e, d)] ∧ kk oc = some r ∧
        (∀ (R' : Type) (base : St) (kk0 : Out → Option R'), ocRun base [(e, d)] oc kk0 = kk0 (e2.out (d2.mk2 y base))) ∧ e2.out o.st = o ∧ ∀ s0, Le s0 o.st → Le (d2.mk2 y s0) o.st := fun s hs he hx => by
      obtain ⟨y, h1, h2⟩ := ext_ok hx
      exact ⟨y, e, d, y, List.mem_singleton.2 rfl, h1, fun _ _ _ => rfl, by rw [hs]; exact he, by rw [hs]; exact h2⟩
    cases e <;> cases o <;> simp only [ocOf] at h <;> first | (cases h; done) | skip
    · exact go _ rfl rfl h
    · split at h
      · rename_i hij
        subst hij
        exact go _ rfl rfl h
      · cases h
    · exact go _ rfl rfl h
  | (e, d) :: d' :: ex, o, kk, h => by
    have go : ∀ (s : St), o.st = s → e.out s = o → (d.ext s fun x => kk (.inl x)) = some r → ∃ (oc : Oc ((e, d) :: d' :: ex)) (e2 : Ek) (d2 : Desc) (y : Vars d2), (e2, d2) ∈ (e, d) :: d' :: ex ∧ kk oc = some r ∧
        (∀ (R' : Type) (base : St) (kk0 : Out → Option R'), ocRun base ((e, d) :: d' :: ex) oc kk0 = kk0 (e2.out (d2.mk2 y base))) ∧ e2.out o.st = o ∧ ∀ s0, Le s0 o.st → Le (d2.mk2 y s0) o.st := fun s hs he hx => by
      obtain ⟨y, h1, h2⟩ := ext_ok hx
      exact ⟨.inl y, e, d, y, List.mem_cons_self, h1, fun _ _ _ => rfl, by rw [hs]; exact he, by rw [hs]; exact h2⟩
    have on : (ocOf (d' :: ex) o fun x => kk (.inr x)) = some r → ∃ (oc : Oc ((e, d) :: d' :: ex)) (e2 : Ek) (d2 : Desc) (y : Vars d2), (e2, d2) ∈ (e, d) :: d' :: ex ∧ kk oc = some r ∧
        (∀ (R' : Type) (base : St) (kk0 : Out → Option R'), ocRun base ((e, d) :: d' :: ex) oc kk0 = kk0 (e2.out (d2.mk2 y base))) ∧ e2.out o.st = o ∧ ∀ s0, Le s0 o.st → Le (d2.mk2 y s0) o.st := fun hx => by
      obtain ⟨oc, e2, d2, y, h1, h2, h3, h4, h5⟩ := ocOf_ok hx
      exact ⟨.inr oc, e2, d2, y, List.mem_cons_of_mem _ h1, h2, fun R' base kk0 => h3 R' base kk0, h4, h5⟩
    cases e <;> cases o <;> simp only [ocOf] at h <;> first | exact on h | skip
    · exact go _ rfl rfl h
    · split at h
      · rename_i hij
        subst hij
        exact go _ rfl rfl h
      · exact on h
    · exact go _ rfl rfl h

def closedAll (c : Desc) (ex : List (Ek × Desc)) : Bool := ex.all fun d => closed2 c d.2

theorem closedAll_mem {c : Desc} {ex : List (Ek × Desc)} (h : closedAll c ex = true) {e : Ek} {d : Desc} (hd : (e, d) ∈ ex) : closed2 c d = true := List.all_eq_true.1 h (e, d) hd

/-- an outcome, once it is typed, is told by what the types tell -/
theorem chk_ok (h : Rel P X N s g F ow tm w) {c : Desc} {ex : List (Ek × Desc)} (hcl : closedAll c ex = true) {kk : Out → Option R} {o : Out} (hs : o.st = s)
    (hr : (chk c ex o fun c' oc => ocRun (c.mk2 c' .empty) ex oc kk) = some r) : ∃ (e : Ek) (s' : St) (g' : Gs), e.out o.st = o ∧ kk (e.out s') = some r ∧ Rel P X N s' g' F ow tm w := by
  obtain ⟨c', h1, h2⟩ := ext_ok hr
  obtain ⟨oc, e, d, y, h3, h4, h5, h6, h7⟩ := ocOf_ok h1
  simp only [h5] at h4
  rw [hs] at h2 h7
  obtain ⟨g0, hg⟩ := h.desc (closedAll_mem hcl h3) h2 h7
  exact ⟨e, _, g0, h6, h4, hg⟩

theorem outP_chk {c : Desc} {ex : List (Ek × Desc)} (hcl : closedAll c ex = true) {kk : Out → Option R} {e : Exit}
    (h : OutP P X N (fun o => chk c ex o fun c' oc => ocRun (c.mk2 c' .empty) ex oc kk) r e a w) : OutP P X N kk r e a w := by
  cases e with
  | normal =>
    obtain ⟨hd, s, g, F, ow, h1, h2⟩ := h
    obtain ⟨e, s', g', q1, q2, q3⟩ := chk_ok h2 hcl rfl h1
    cases e <;> simp only [Ek.out, Out.st] at q1 <;> first | (cases q1; done) | skip
    exact ⟨hd, s', g', F, ow, q2, q3⟩
  | exit i =>
    obtain ⟨hd, s, g, F, ow, h1, h2⟩ := h
    obtain ⟨e, s', g', q1, q2, q3⟩ := chk_ok h2 hcl rfl h1
    cases e <;> simp only [Ek.out, Out.st] at q1 <;> first | (cases q1; done) | skip
    injection q1 with q1 _
    subst q1
    exact ⟨hd, s', g', F, ow, q2, q3⟩
  | ret =>
    obtain ⟨hd, s, g, F, ow, h1, h2⟩ := h
    obtain ⟨e, s', g', q1, q2, q3⟩ := chk_ok h2 hcl rfl h1
    cases e <;> simp only [Ek.out, Out.st] at q1 <;> first | (cases q1; done) | skip
    exact ⟨hd, s', g', F, ow, q2, q3⟩
  | outgrown => exact h
  | goto _ => exact h
  | panic _ => exact h

theorem sub_if {subs : Bool → Nat → Option Sub} (hE : EnvOk P E) (hN : E.n = N) (hlo : E.lo = X.lo) {u : Sub} {c : Code} (hg : Good P X N E subs c) (h1 : closed2 u.c u.v = true) (h2 : closedAll u.c u.ex = true)
    (eq : ∀ (R : Type) (xc : Vars u.c) (xv : Vars u.v) (kk : Vars u.c → Oc u.ex → Option R), evC E subs c (u.v.mk2 xv (u.c.mk2 xc .empty)) (fun o => chk u.c u.ex o kk) = u.f R xc xv kk) : SubOk P X N u c := by
  intro R r kk s g F ow a w h hdf hr
  unfold Sub.run at hr
  obtain ⟨xc, q1, q2⟩ := ext_ok hr
  obtain ⟨xv, q3, q4⟩ := ext_ok q1
  obtain ⟨g0, hg0⟩ := h.desc h1 q2 q4
  rw [← eq] at q3
  exact wp_mono (evC_ok hE hN hlo hg hg0 hdf q3) fun e a' w' hq => outP_chk h2 hq

theorem exists_min {p : Nat → Prop} (h : ∃ n, p n) : ∃ n, p n ∧ ∀ m, p m → n ≤ m := by
  obtain ⟨n, hn⟩ := h
  induction n using Nat.strongRecOn with
  | _ n ih =>
    by_cases hm : ∃ m, m < n ∧ p m
    · obtain ⟨m, h1, h2⟩ := hm
      exact ih m h1 h2
    · exact ⟨n, hn, fun m h => Nat.le_of_not_lt fun hl => hm ⟨m, hl, h⟩⟩

open Classical in
theorem loopM_some {S A : Type} {step : S → Option (S ⊕ A)} {s : S} {y : A} (h : loopM step s = some y) : ∃ n, iter step n s = some y := by
  unfold loopM at h
  split at h
  · rename_i hx
    injection h with h
    exact ⟨_, h ▸ hx.choose_spec.choose_spec⟩
  · cases h

open Classical in
theorem sub_loop {subs : Bool → Nat → Option Sub} (hE : EnvOk P E) (hN : E.n = N) (hlo : E.lo = X.lo) {c v : Desc} {ex : List (Ek × Desc)} {body : Code} (hg : Good P X N E subs body) (hc1 : closed2 c v = true) (hc2 : closedAll c ex = true)
    {stepK : (R : Type) → Vars c → Vars v → (Vars c → (Vars v ⊕ Oc ex) → Option R) → Option R}
    (eq : ∀ (R : Type) (xc : Vars c) (xv : Vars v) (kk : Vars c → (Vars v ⊕ Oc ex) → Option R), evC E subs body (v.mk2 xv (c.mk2 xc .empty)) (fun o => bodyK c v ex o kk) = stepK R xc xv kk) :
    SubOk P X N ⟨c, v, ex, loopF stepK⟩ (.loop body) := by
  intro R r kk s g F ow a w h hdf hr
  unfold Sub.run at hr
  obtain ⟨xc, q1, q2⟩ := ext_ok hr
  obtain ⟨xv, q3, q4⟩ := ext_ok q1
  obtain ⟨g0, hg0⟩ := h.desc hc1 q2 q4
  simp only [loopF, bnd] at q3
  split at q3
  case h_2 => cases q3
  rename_i y hy
  obtain ⟨n, hn⟩ := loopM_some hy
  let J : Act → World → Nat → Prop := fun a w n => Frm X a ∧ ∃ (xc : Vars c) (xv : Vars v) (g : Gs) (F : Nat → Prop) (ow : Nat → Option Nat), iter (round stepK) n (xc, xv) = some y ∧ Rel P X N (v.mk2 xv (c.mk2 xc .empty)) g F ow a.tmps w
  let μ : Act → World → Nat := fun a w => if h : ∃ n, J a w n then Classical.choose (exists_min h) else 0
  have hμ : ∀ a w n, J a w n → J a w (μ a w) ∧ μ a w ≤ n := fun a w n hn => by
    have hx : ∃ n, J a w n := ⟨n, hn⟩
    have := Classical.choose_spec (exists_min hx)
    simp only [μ, dif_pos hx]
    exact ⟨this.1, this.2 n hn⟩
  refine wp_loop (fun a w => ∃ n, J a w n) μ ⟨n, hdf, xc, xv, g0, F, ow, hn, hg0⟩ fun a1 w1 ⟨n1, hJ⟩ => ?_
  obtain ⟨hd1, xc1, xv1, g1, F1, ow1, i1, r1⟩ := (hμ a1 w1 n1 hJ).1
  cases hm : μ a1 w1 with
  | zero => rw [hm] at i1; cases i1
  | succ m =>
  rw [hm] at i1
  simp only [iter] at i1
  split at i1
  · cases i1
  · -- on with it
    rename_i s2 hs2
    unfold round at hs2
    rw [← eq] at hs2
    refine wp_mono (evC_ok hE hN hlo hg r1 hd1 hs2) fun e a' w' hq => ?_
    cases e with
    | normal =>
      obtain ⟨hd2, s3, g3, F3, ow3, k1, k2⟩ := hq
      obtain ⟨c', e1, e2⟩ := ext_ok k1
      obtain ⟨x', e3, e4⟩ := ext_ok e1
      simp only [Option.some.injEq, Sum.inl.injEq] at e3
      subst e3
      obtain ⟨g4, hg4⟩ := k2.desc hc1 e2 e4
      have hJ' : J a' w' m := ⟨hd2, c', x', g4, F3, ow3, i1, hg4⟩
      exact ⟨⟨m, hJ'⟩, by have := (hμ a' w' m hJ').2; omega⟩
    | exit i =>
      obtain ⟨hd2, s3, g3, F3, ow3, k1, k2⟩ := hq
      obtain ⟨c', e1, e2⟩ := ext_ok k1
      obtain ⟨oc, ek, d, z, _, e3, _⟩ := ocOf_ok e1
      simp at e3
    | ret =>
      obtain ⟨hd2, s3, g3, F3, ow3, k1, k2⟩ := hq
      obtain ⟨c', e1, e2⟩ := ext_ok k1
      obtain ⟨oc, ek, d, z, _, e3, _⟩ := ocOf_ok e1
      simp at e3
    | outgrown => exact hq
    | goto _ => exact hq
    | panic _ => exact hq
  · rename_i y2 hs2
    injection i1 with i1
    subst i1
    unfold round at hs2
    rw [← eq] at hs2
    refine wp_mono (evC_ok hE hN hlo hg r1 hd1 hs2) fun e a' w' hq => ?_
    have fin : ∀ (o : Out) (s3 : St) (g3 : Gs) (F3 : Nat → Prop) (ow3 : Nat → Option Nat), o.st = s3 → Rel P X N s3 g3 F3 ow3 a'.tmps w' → (c.ext s3 fun c' => ocOf ex o fun x => some (Sum.inr (α := Vars c × Vars v) (c', x))) = some (.inr y2) →
        ∃ (e : Ek) (s' : St) (g' : Gs), e.out o.st = o ∧ kk (e.out s') = some r ∧ Rel P X N s' g' F3 ow3 a'.tmps w' := by
      intro o s3 g3 F3 ow3 hs k2 k1
      obtain ⟨c', e1, e2⟩ := ext_ok k1
      obtain ⟨oc, ek, d, z, e3, e4, e5, e6, e7⟩ := ocOf_ok e1
      simp only [Option.some.injEq, Sum.inr.injEq] at e4
      subst e4
      simp only [e5] at q3
      rw [hs] at e7
      obtain ⟨g4, hg4⟩ := k2.desc (closedAll_mem hc2 e3) e2 e7
      exact ⟨ek, _, g4, e6, q3, hg4⟩
    cases e with
    | normal =>
      obtain ⟨hd2, s3, g3, F3, ow3, k1, k2⟩ := hq
      obtain ⟨c', e1, e2⟩ := ext_ok k1
      obtain ⟨x', e3, e4⟩ := ext_ok e1
      simp at e3
    | exit i =>
      obtain ⟨hd2, s3, g3, F3, ow3, k1, k2⟩ := hq
      obtain ⟨ek, s', g', f1, f2, f3⟩ := fin (.exit i s3) s3 g3 F3 ow3 rfl k2 k1
      cases ek <;> simp only [Ek.out, Out.st] at f1 <;> first | (cases f1; done) | skip
      injection f1 with f1 _
      subst f1
      exact ⟨hd2, s', g', F3, ow3, f2, f3⟩
    | ret =>
      obtain ⟨hd2, s3, g3, F3, ow3, k1, k2⟩ := hq
      obtain ⟨ek, s', g', f1, f2, f3⟩ := fin (.ret s3) s3 g3 F3 ow3 rfl k2 k1
      cases ek <;> simp only [Ek.out, Out.st] at f1 <;> first | (cases f1; done) | skip
      exact ⟨hd2, s', g', F3, ow3, f2, f3⟩
    | outgrown => exact hq
    | goto _ => exact hq
    | panic _ => exact hq

end
end Go.Proofs.Ytpegmiofhfmepaa.Ev

/- Functions: the entry. -/
set_option linter.unusedSimpArgs false
namespace Go.Proofs.Ytpegmiofhfmepaa.Ev

section
variable {P : Program} {X : Cx} {N : Nat} {a : Act} {s : St} {g : Gs} {F : Nat → Prop} {ow : Nat → Option Nat} {w : World} {R : Type} {r : R} {tm : Array Value} {E : Env}

theorem Rel.putSame (h : Rel P X N s g F ow tm w) {d : Nat} {v : Value} (hv : tm[d]? = some v) {c : PV} (hc : PvOk P g F w c v) : Rel P X N (s.put d c) g F ow tm w := by
  have hd : d < tm.size := (Array.getElem?_eq_some_iff.1 hv).1
  have := h.put (by rw [← h.sz]; exact hd) hc
  have e : tm.setIfInBounds d v = tm := by
    apply Array.ext
    · simp
    · intro i h1 h2
      rw [Array.getElem_setIfInBounds (by simpa using h1)]
      split
      · rename_i e; subst e
        rw [Array.getElem?_eq_getElem h2] at hv
        injection hv with hv
        exact hv.symm
      · rfl
  rw [e] at this
  exact this

/-- the arguments as roots and words -/
theorem init_ok : ∀ {ins : List Pm} {i : Nat} {x : Ps ins} {l : PL ins} {vs : List Value} {s : St} {g : Gs} {ow : Nat → Option Nat}, Rel P X N s g F ow tm w → (∀ j, i ≤ j → g j = none) → ArgsOk P w F ins x l vs →
    (∀ j v, vs[j]? = some v → tm[i + j]? = some v) → (argFp ins x l ++ (argBs ins l).map (·.1)).Nodup → (∀ b ∈ argFp ins x l ++ (argBs ins l).map (·.1), ow b = none ∧ ¬ F b ∧ b < w.heap.size) →
    (∀ b ∈ argFp ins x l, X.free b) → (∀ q ∈ argBs ins l, X.rg q.1 = some q.2) → ∃ g' ow', Rel P X N (initAt i ins x s) g' F ow' tm w
  | [], i, x, l, vs, s, g, ow, h, _, _, _, _, _, _, _ => ⟨g, ow, h⟩
  | .val k :: ps, i, x, l, vs, s, g, ow, h, hg, ha, ht, hnd, hno, hfr, hrg => by
    obtain ⟨v, vs, rfl, h1, h2, h3⟩ := ha
    have hp := h.putSame (d := i) (by simpa using ht 0 v rfl) (c := .one (.v k x.1)) ⟨l.1, h1, h2⟩
    exact init_ok (ins := ps) (l := l.2) hp (fun j hj => hg j (by omega)) h3 (fun j u hu => by have := ht (j + 1) u (by simpa using hu); rwa [show i + (j + 1) = i + 1 + j by omega] at this) hnd hno hfr hrg
  | .fn a b :: ps, i, x, l, vs, s, g, ow, h, hg, ha, ht, hnd, hno, hfr, hrg => by
    obtain ⟨v, vs, rfl, h1, h3⟩ := ha
    have hp := h.putSame (d := i) (by simpa using ht 0 v rfl) (c := .one (.fv a b x.1)) h1
    exact init_ok (ins := ps) (l := l) hp (fun j hj => hg j (by omega)) h3 (fun j u hu => by have := ht (j + 1) u (by simpa using hu); rwa [show i + (j + 1) = i + 1 + j by omega] at this) hnd hno hfr hrg
  | .mov k m :: ps, i, x, l, vs, s, g, ow, h, hg, ha, ht, hnd, hno, hfr, hrg => by
    obtain ⟨v, vs, rfl, h1, h2, h3⟩ := ha
    simp only [argFp, List.append_assoc] at hnd hno
    have hnd2 := List.nodup_append.1 hnd
    have h4 := h.setNew (d := i) (q := ⟨k, m, x.1, false, false, l.1, none⟩) (hg i (Nat.le_refl _)) h1 (fun c o e => by cases e) rfl (by simpa [GR.fp, GR.fpi] using hnd2.1)
      (fun b hb => hno b (List.mem_append.2 (.inl (by simpa [GR.fp, GR.fpi] using hb)))) ⟨fun b hb => hfr b (by simp only [argFp, List.mem_append]; exact .inl hb), fun b o e => by cases e⟩
    have hp := h4.putSame (d := i) (by simpa using ht 0 v rfl) (c := .one (.al i [])) ⟨_, ⟨k, m, x.1, l.1, none⟩, Gs.set_self _ _ _, by simp [GR.at, gat], h2⟩
    refine init_ok (ins := ps) (l := l.2) hp (fun j hj => by rw [Gs.set_ne _ _ (by omega)]; exact hg j (by omega)) h3 (fun j u hu => by have := ht (j + 1) u (by simpa using hu); rwa [show i + (j + 1) = i + 1 + j by omega] at this) hnd2.2.1 (fun b hb => ?_)
      (fun b hb => hfr b (by simp only [argFp, List.mem_append]; exact .inr hb)) hrg
    obtain ⟨e1, e2⟩ := hno b (List.mem_append.2 (.inr hb))
    refine ⟨?_, e2⟩
    rw [owAdd_not]
    · exact e1
    · intro hb'
      exact hnd2.2.2 b (by simpa [GR.fp, GR.fpi] using hb') b hb rfl
  | .chg k m :: ps, i, x, l, vs, s, g, ow, h, hg, ha, ht, hnd, hno, hfr, hrg => by
    obtain ⟨v, vs, rfl, h1, h2, h3⟩ := ha
    simp only [argFp, List.append_assoc] at hnd hno
    have hnd2 := List.nodup_append.1 hnd
    have h4 := h.setNew (d := i) (q := ⟨k, m, x.1, false, false, l.1, none⟩) (hg i (Nat.le_refl _)) h1 (fun c o e => by cases e) rfl (by simpa [GR.fp, GR.fpi] using hnd2.1)
      (fun b hb => hno b (List.mem_append.2 (.inl (by simpa [GR.fp, GR.fpi] using hb)))) ⟨fun b hb => hfr b (by simp only [argFp, List.mem_append]; exact .inl hb), fun b o e => by cases e⟩
    have hp := h4.putSame (d := i) (by simpa using ht 0 v rfl) (c := .one (.al i [])) ⟨_, ⟨k, m, x.1, l.1, none⟩, Gs.set_self _ _ _, by simp [GR.at, gat], h2⟩
    refine init_ok (ins := ps) (l := l.2) hp (fun j hj => by rw [Gs.set_ne _ _ (by omega)]; exact hg j (by omega)) h3 (fun j u hu => by have := ht (j + 1) u (by simpa using hu); rwa [show i + (j + 1) = i + 1 + j by omega] at this) hnd2.2.1 (fun b hb => ?_)
      (fun b hb => hfr b (by simp only [argFp, List.mem_append]; exact .inr hb)) hrg
    obtain ⟨e1, e2⟩ := hno b (List.mem_append.2 (.inr hb))
    refine ⟨?_, e2⟩
    rw [owAdd_not]
    · exact e1
    · intro hb'
      exact hnd2.2.2 b (by simpa [GR.fp, GR.fpi] using hb') b hb rfl
  | .mptr k m :: ps, i, x, l, vs, s, g, ow, h, hg, ha, ht, hnd, hno, hfr, hrg => by
    obtain ⟨v, vs, rfl, h1, h2, h2', h3⟩ := ha
    simp only [argFp, argBs, List.map_cons] at hnd hno
    have hmem : ∀ b, b ∈ (fp k m x.1 l.1.1 ++ argFp ps x.2 l.2) ++ l.1.2.1 :: (argBs ps l.2).map (·.1) ↔ (b = l.1.2.1 ∨ b ∈ fp k m x.1 l.1.1) ∨ b ∈ argFp ps x.2 l.2 ++ (argBs ps l.2).map (·.1) := by
      intro b; simp only [List.mem_append, List.mem_cons]
      constructor
      · rintro ((h | h) | h | h)
        · exact .inl (.inr h)
        · exact .inr (.inl h)
        · exact .inl (.inl h)
        · exact .inr (.inr h)
      · rintro ((h | h) | h | h)
        · exact .inr (.inl h)
        · exact .inl (.inl h)
        · exact .inl (.inr h)
        · exact .inr (.inr h)
    simp only [List.nodup_append, List.nodup_cons, List.mem_append, List.mem_cons] at hnd
    obtain ⟨⟨n1, n2, n3⟩, ⟨n4, n5⟩, n6⟩ := hnd
    have hb0 : l.1.2.1 ∉ fp k m x.1 l.1.1 := fun hb => n6 _ (.inl hb) _ (.inl rfl) rfl
    have h4 := h.setNew (d := i) (q := ⟨k, m, x.1, true, false, l.1.1, some l.1.2⟩) (hg i (Nat.le_refl _)) h1 h2 rfl (by simpa [GR.fp, GR.fpi, hb0] using n1)
      (fun b hb => hno b ((hmem b).2 (.inl (by simpa [GR.fp, GR.fpi] using hb)))) ⟨fun b hb => hfr b (by simp only [argFp, List.mem_append]; exact .inl hb), fun b o e => by
        injection e with e
        refine .inr ⟨o, k.size, ?_, Nat.le_refl _, Nat.le_refl _⟩
        have := hrg (l.1.2.1, l.1.2.2, k.size) (by simp [argBs])
        rw [e] at this
        exact this⟩
    have hp := h4.putSame (d := i) (by simpa using ht 0 v rfl) (c := .one (.ptr i [])) ⟨_, ⟨k, m, x.1, l.1.1, some l.1.2⟩, l.1.2, Gs.set_self _ _ _, by simp [GR.at, gat], rfl, h2'⟩
    refine init_ok (ins := ps) (l := l.2) hp (fun j hj => by rw [Gs.set_ne _ _ (by omega)]; exact hg j (by omega)) h3 (fun j u hu => by have := ht (j + 1) u (by simpa using hu); rwa [show i + (j + 1) = i + 1 + j by omega] at this) ?_ (fun b hb => ?_)
      (fun b hb => hfr b (by simp only [argFp, List.mem_append]; exact .inr hb)) (fun q hq => hrg q (by simp only [argBs, List.mem_cons]; exact .inr hq))
    · rw [List.nodup_append]
      exact ⟨n2, n5, fun b hb c hc => n6 b (.inr hb) c (.inr hc)⟩
    · obtain ⟨e1, e2⟩ := hno b ((hmem b).2 (.inr hb))
      refine ⟨?_, e2⟩
      rw [owAdd_not]
      · exact e1
      · intro hb'
        simp only [GR.fp, GR.fpi, Option.map_some, Option.toList_some, List.singleton_append, List.mem_cons] at hb'
        rw [List.mem_append] at hb
        rcases hb' with rfl | hb'
        · rcases hb with hb | hb
          · exact n6 _ (.inr hb) _ (.inl rfl) rfl
          · exact n4 hb
        · rcases hb with hb | hb
          · exact n3 b hb' b hb rfl
          · exact n6 b (.inl hb') b (.inr hb) rfl

end
end Go.Proofs.Ytpegmiofhfmepaa.Ev

/- Functions: what they return. -/
set_option linter.unusedSimpArgs false
namespace Go.Proofs.Ytpegmiofhfmepaa.Ev

section
variable {P : Program} {X : Cx} {N : Nat} {a : Act} {s : St} {g : Gs} {F : Nat → Prop} {ow : Nat → Option Nat} {w : World} {R : Type} {r : R} {tm : Array Value} {E : Env}

theorem clear_lr : ∀ {m : Mk}, m.clear = true → m.l.clear = true ∧ m.r.clear = true ∧ m.owns = false ∧ m ≠ .d
  | .s, _ => ⟨rfl, rfl, rfl, by intro h; cases h⟩
  | .pr a b, h => by
    simp only [Mk.clear, Bool.and_eq_true] at h
    exact ⟨h.1, h.2, rfl, by intro h; cases h⟩

theorem sat_to_clear : ∀ {k : K} {m : Mk} {x : T k} {l : L k}, m.clear = true → sat w F k .s x l → sat w F k m x l
  | .int _, _, _, _, _, _ | .bool, _, _, _, _, _ | .str, _, _, _, _, _ | .unit, _, _, _, _, _ => trivial
  | .pair a b, m, x, l, h, hs => ⟨sat_to_clear (clear_lr h).1 hs.1, sat_to_clear (clear_lr h).2.1 hs.2⟩
  | .sl k, m, xs, l, h, hs => fun _ => by
    obtain ⟨_, _, ho, _⟩ := clear_lr h
    obtain ⟨⟨h1, h2, h3, h5⟩, h4⟩ := hs (by intro h; cases h)
    refine ⟨⟨h1, h2, (fun b o hb => ⟨(fun h => by rw [ho] at h; cases h), fun hx => ⟨fun _ => ((h3 b o hb).2 hx).1 rfl, ((h3 b o hb).2 hx).2⟩⟩), (fun h => by rw [ho] at h; cases h)⟩, fun i x hx => ?_⟩
    rw [Mk.inner_s ho]
    exact h4 i x hx

/-- the value of a result variable -/
def resRun (P : Program) (tm : Array Value) : ResultVar → Sem Value
  | .tmp t => pure (tm.getD t undef)
  | .cell a t => do loadVar t (← asAddr (tm.getD a undef))

theorem takeRes_tmp (h : Rel P X N s g F ow a.tmps w) {t : Nat} {k : K} {m : Mk} {kk : T k → St → Option R} (hr : takeRes E s (.tmp t) k m kk = some r) :
    ∃ (x : T k) (l : L k) (s' : St) (g' : Gs) (ow' : Nat → Option Nat), kk x s' = some r ∧ Rel P X N s' g' F ow' a.tmps w ∧ (∀ b t, ow' b = some t → ow b = some t) ∧ a.tmps.getD t undef = valOf k x l ∧
      Taken X F ow' w k m x l ∧ (∀ b ∈ fp k m x l, ∃ t, ow b = some t) := by
  have hc := h.opd (.tmp t)
  simp only [takeRes] at hr
  have hv : a.eval (.tmp t) = a.tmps.getD t undef := rfl
  rw [hv] at hc
  split at hr
  · rename_i hp
    rw [hp] at hc
    obtain ⟨q, h1, h2⟩ := hc
    split at hr
    · exact ⟨[], ((q, 0), fun _ => zeroL _), s, g, ow, hr, h, fun _ _ h => h, h1, nilZ_taken h h2, fun b hb => by rw [nilZ_fp] at hb; cases hb⟩
    · cases hr
  · cases hm : m.clear with
    | true =>
      rw [hm] at hr
      simp only [cond_true] at hr
      obtain ⟨k', m', x, l, q1, q2, q3, q4⟩ := read_ok h hc hr
      simp only at q1
      split at q1
      case isFalse => cases q1
      rename_i hk
      subst hk
      cases hm' : m'.clear with
      | false => rw [hm'] at q1; cases q1
      | true =>
      rw [hm'] at q1
      have hw : m'.whole = true := by
        clear q1 q2 q3 q4 hr hc
        induction m' with
        | s => rfl
        | d => cases hm'
        | o m => cases hm'
        | pr a b iha ihb => simp [Mk.clear] at hm'; simp [Mk.whole, iha hm'.1, ihb hm'.2]
      have hs := sat_frame (satV_lend hw q2) (fun _ _ => rfl) (F' := F) (fun b hb => hb.elim id fun hb => by rw [fp_clear hm'] at hb; cases hb)
      exact ⟨x, l, s, g, ow, q1, h, fun _ _ h => h, q3, ⟨sat_to_clear hm hs, by rw [fp_clear hm]; simp, fun b hb => by rw [fp_clear hm] at hb; cases hb⟩, fun b hb => by rw [fp_clear hm] at hb; cases hb⟩
    | false =>
      rw [hm] at hr
      simp only [cond_false] at hr
      obtain ⟨k', m', x, l, s', g', ow', p1, p2, p3, p4, p5, p6, p7, p8⟩ := take_ok h hc.weak hr
      simp only at p1
      split at p1
      case isFalse => cases p1
      rename_i hk
      subst hk
      split at p1
      case isFalse => cases p1
      rename_i hm'
      subst hm'
      exact ⟨x, l, s', g', ow', p1, p2, p4, p5, p6, fun b hb => by obtain ⟨t, _, e⟩ := p8 b hb; exact ⟨t, e⟩⟩

theorem takeRes_cell (h : Rel P X N s g F ow a.tmps w) (hE : EnvOk P E) {t ty : Nat} {k : K} {m : Mk} {kk : T k → St → Option R} (hr : takeRes E s (.cell t ty) k m kk = some r) :
    ∃ (x : T k) (l : L k) (s' : St) (g' : Gs) (ow' : Nat → Option Nat), kk x s' = some r ∧ Rel P X N s' g' F ow' a.tmps w ∧ (∀ b t, ow' b = some t → ow b = some t) ∧ (resRun P a.tmps (.cell t ty)).run P w = .ok (valOf k x l) w ∧
      Taken X F ow' w k m x l ∧ (∀ b ∈ fp k m x l, ∃ t, ow b = some t) := by
  have hc := h.opd (.tmp t)
  simp only [takeRes] at hr
  have hv : a.eval (.tmp t) = a.tmps.getD t undef := rfl
  rw [hv] at hc
  split at hr
  case h_2 => cases hr
  rename_i u hp
  rw [hp] at hc
  split at hr
  case h_2 => cases hr
  rename_i rt hrt
  obtain ⟨q, hg, rfl⟩ := h.rootOf hrt
  obtain ⟨q', c, y, h1, h2, h3, h4⟩ := hc
  rw [hg] at h1; injection h1 with h1; subst h1
  simp [GR.at, gat] at h2
  subst h2
  split at hr
  case isFalse => cases hr
  rename_i hk
  split at hr
  case isFalse => cases hr
  rename_i hm
  obtain ⟨hm1, hm2, hty⟩ := hm
  obtain ⟨qk, qm, qx, qmem, qtmp, ql, qb⟩ := q
  simp only [GR.rt] at hk hm1
  subst hk; subst hm1
  simp only at h3
  subst h3
  have hqfp := h.nd u _ hg
  simp only [GR.fp, GR.fpi, List.nodup_append] at hqfp
  have hin : ∀ b ∈ fp qk qm qx ql, ow b = some u := fun b hb => h.ho u _ hg b (by simp only [GR.fp, GR.fpi, List.mem_append]; exact .inr hb)
  refine ⟨qx, ql, s.drop u, g.set u none, owDrop ow u, hr, h.drop u, owDrop_le ow u, ?_, ⟨h.sat u _ hg, hqfp.2.1, fun b hb => ?_⟩, fun b hb => ⟨u, hin b hb⟩⟩
  · have hb := h.mem u _ hg y.1 y.2 rfl
    have := run_loadK (P := P) (hE.ty ty qk hty) (x := qx) (l := ql) hb
    simp only [resRun, Sem.run_bind, h4, adr, Option.map_some, asAddr]
    exact this
  · have ho := hin b hb
    refine ⟨by simp [owDrop, ho], fun hF => ?_, h.lt b u ho, (h.own u _ hg).1 b hb⟩
    rw [(h.hF b hF).1] at ho; cases ho

end
end Go.Proofs.Ytpegmiofhfmepaa.Ev

/- Functions: all results. -/
set_option linter.unusedSimpArgs false
namespace Go.Proofs.Ytpegmiofhfmepaa.Ev

section
variable {P : Program} {X : Cx} {N : Nat} {a : Act} {s : St} {g : Gs} {F : Nat → Prop} {ow : Nat → Option Nat} {w : World} {R : Type} {r : R} {tm : Array Value} {E : Env}

theorem takeRes_ok (h : Rel P X N s g F ow a.tmps w) (hE : EnvOk P E) {v : ResultVar} {k : K} {m : Mk} {kk : T k → St → Option R} (hr : takeRes E s v k m kk = some r) :
    ∃ (x : T k) (l : L k) (s' : St) (g' : Gs) (ow' : Nat → Option Nat), kk x s' = some r ∧ Rel P X N s' g' F ow' a.tmps w ∧ (∀ b t, ow' b = some t → ow b = some t) ∧ (resRun P a.tmps v).run P w = .ok (valOf k x l) w ∧
      Taken X F ow' w k m x l ∧ (∀ b ∈ fp k m x l, ∃ t, ow b = some t) := by
  cases v with
  | tmp t =>
    obtain ⟨x, l, s', g', ow', h1, h2, h3, h4, h5, h6⟩ := takeRes_tmp h hr
    exact ⟨x, l, s', g', ow', h1, h2, h3, by simp only [resRun, Sem.run_pure, h4], h5, h6⟩
  | cell t ty => exact takeRes_cell h hE hr

theorem resOf_ok (hE : EnvOk P E) : ∀ {vs : List ResultVar} {rs : List (K × Mk)} {s : St} {g : Gs} {ow : Nat → Option Nat} {kk : Rs rs → St → Option R}, Rel P X N s g F ow a.tmps w → resOf E s vs rs kk = some r →
    ∃ (x : Rs rs) (l : L (resK rs)) (s' : St) (g' : Gs) (ow' : Nat → Option Nat), kk x s' = some r ∧ Rel P X N s' g' F ow' a.tmps w ∧ (∀ b t, ow' b = some t → ow b = some t) ∧
      (vs.mapM (resRun P a.tmps)).run P w = .ok (resVals rs x l) w ∧ Taken X F ow' w (resK rs) (resM rs) x l ∧ (∀ b ∈ fp (resK rs) (resM rs) x l, ∃ t, ow b = some t)
  | [], [], s, g, ow, kk, h, hr => ⟨(), (), s, g, ow, hr, h, fun _ _ h => h, rfl, ⟨trivial, List.nodup_nil, fun b hb => by cases hb⟩, fun b hb => by cases hb⟩
  | [], _ :: _, _, _, _, _, _, hr => by cases hr
  | _ :: _, [], _, _, _, _, _, hr => by cases hr
  | v :: vs, (k, m) :: rs, s, g, ow, kk, h, hr => by
    simp only [resOf] at hr
    obtain ⟨x, l, s1, g1, ow1, q1, q2, q3, q4, q5, q6⟩ := takeRes_ok h hE hr
    obtain ⟨xs, ls, s2, g2, ow2, p1, p2, p3, p4, p5, p6⟩ := resOf_ok hE q2 q1
    have hfp : fp (resK ((k, m) :: rs)) (resM ((k, m) :: rs)) (x, xs) (l, ls) = fp k m x l ++ fp (resK rs) (resM rs) xs ls := by simp only [resK, resM, fp, Mk.mkp_l, Mk.mkp_r]
    have q5' := q5.le p3
    refine ⟨(x, xs), (l, ls), s2, g2, ow2, p1, p2, fun b t hb => q3 b t (p3 b t hb), ?_, ⟨⟨by simp only [resM, Mk.mkp_l]; exact q5.sat, by simp only [resM, Mk.mkp_r]; exact p5.sat⟩, ?_, fun b hb => ?_⟩, fun b hb => ?_⟩
    · simp only [List.mapM_cons, Sem.run_bind, q4, p4, Result.andThen_ok, Sem.run_pure, resVals]
    · rw [hfp, List.nodup_append]
      refine ⟨q5.nd, p5.nd, ?_⟩
      rintro b hb b2 hb2 rfl
      obtain ⟨t, e⟩ := p6 b hb2
      rw [(q5.no b hb).1] at e; cases e
    · rw [hfp, List.mem_append] at hb
      exact hb.elim (q5'.no b) (p5.no b)
    · rw [hfp, List.mem_append] at hb
      rcases hb with hb | hb
      · exact q6 b hb
      · obtain ⟨t, e⟩ := p6 b hb
        exact ⟨t, q3 b t e⟩

theorem results_run {fn : Func} {rs : List (K × Mk)} {x : Rs rs} {l : L (resK rs)} (h : (fn.results.toList.mapM (resRun P a.tmps)).run P w = .ok (resVals rs x l) w) : (results fn a.tmps).run P w = .ok (resVal rs x l) w := by
  have h2 : (fn.results.mapM (resRun P a.tmps)).run P w = .ok (resVals rs x l).toArray w := by
    rw [Array.mapM_eq_mapM_toList, Sem.run_map, h]
    rfl
  have h3 : results fn a.tmps = (fn.results.mapM (resRun P a.tmps)).bind fun vs => Sem.pure (if h : vs.size = 1 then vs[0] else .tuple vs) := by
    unfold results
    rfl
  rw [h3, Sem.run_bind', h2]
  simp only [Result.andThen_ok]
  unfold resVal
  cases resVals rs x l with
  | nil => rfl
  | cons v vs => cases vs with
    | nil => rfl
    | cons u us => rfl

end
end Go.Proofs.Ytpegmiofhfmepaa.Ev

/- Functions: what lies behind pointers at the end. -/
set_option linter.unusedSimpArgs false
namespace Go.Proofs.Ytpegmiofhfmepaa.Ev

section
variable {P : Program} {X : Cx} {N : Nat} {a : Act} {s : St} {g : Gs} {F : Nat → Prop} {ow : Nat → Option Nat} {w : World} {R : Type} {r : R} {tm : Array Value} {E : Env}

/-- is the parameter of this number a pointer, or may be changed? -/
def ptrAt : List Pm → Nat → Bool
  | [], _ => false
  | .mptr _ _ :: _, 0 => true
  | .chg _ _ :: _, 0 => true
  | _ :: _, 0 => false
  | _ :: ps, n + 1 => ptrAt ps n
/-- all pointers are among the first so many -/
def ptrsBelow : List Pm → Nat → Bool
  | [], _ => true
  | .mptr _ _ :: _, 0 => false
  | .chg _ _ :: _, 0 => false
  | _ :: ps, 0 => ptrsBelow ps 0
  | _ :: ps, n + 1 => ptrsBelow ps n
theorem ptrsBelow_lt : ∀ {ins : List Pm} {n j : Nat}, ptrsBelow ins n = true → ptrAt ins j = true → j < n
  | [], _, _, _, h => by cases h
  | .mptr _ _ :: ps, 0, _, h, _ => by cases h
  | .mptr _ _ :: ps, n + 1, 0, _, _ => by omega
  | .mptr _ _ :: ps, n + 1, j + 1, h, h2 => by have := ptrsBelow_lt (ins := ps) (n := n) (j := j) h h2; omega
  | .chg _ _ :: ps, 0, _, h, _ => by cases h
  | .chg _ _ :: ps, n + 1, 0, _, _ => by omega
  | .chg _ _ :: ps, n + 1, j + 1, h, h2 => by have := ptrsBelow_lt (ins := ps) (n := n) (j := j) h h2; omega
  | .val _ :: ps, _, 0, _, h2 => by cases h2
  | .mov _ _ :: ps, _, 0, _, h2 => by cases h2
  | .fn _ _ :: ps, _, 0, _, h2 => by cases h2
  | .val _ :: ps, 0, j + 1, h, h2 => by have := ptrsBelow_lt (ins := ps) (n := 0) (j := j) h h2; omega
  | .mov _ _ :: ps, 0, j + 1, h, h2 => by have := ptrsBelow_lt (ins := ps) (n := 0) (j := j) h h2; omega
  | .fn _ _ :: ps, 0, j + 1, h, h2 => by have := ptrsBelow_lt (ins := ps) (n := 0) (j := j) h h2; omega
  | .val _ :: ps, n + 1, j + 1, h, h2 => by have := ptrsBelow_lt (ins := ps) (n := n) (j := j) h h2; omega
  | .mov _ _ :: ps, n + 1, j + 1, h, h2 => by have := ptrsBelow_lt (ins := ps) (n := n) (j := j) h h2; omega
  | .fn _ _ :: ps, n + 1, j + 1, h, h2 => by have := ptrsBelow_lt (ins := ps) (n := n) (j := j) h h2; omega

theorem outsAt_ok (h : Rel P X N s g F ow a.tmps w) {w0 : World} {F0 : Nat → Prop} : ∀ {ins : List Pm} {i : Nat} {x : Ps ins} {l : PL ins} {vs : List Value} {kk : Rs (Pm.outs ins) → Option R}, ArgsOk P w0 F0 ins x l vs →
    (∀ j v, vs[j]? = some v → ptrAt ins j = true → a.tmps[i + j]? = some v) → outsAt s i ins kk = some r →
    ∃ (ro : Rs (Pm.outs ins)) (lo : L (resK (Pm.outs ins))), kk ro = some r ∧ OutsOk w F ins x l ro lo ∧ (fp (resK (Pm.outs ins)) (resM (Pm.outs ins)) ro lo ++ (argBs ins l).map (·.1)).Nodup ∧
      (∀ b ∈ fp (resK (Pm.outs ins)) (resM (Pm.outs ins)) ro lo ++ (argBs ins l).map (·.1), ∃ t, i ≤ t ∧ ow b = some t) ∧ (∀ b ∈ fp (resK (Pm.outs ins)) (resM (Pm.outs ins)) ro lo, X.free b)
  | [], i, x, l, vs, kk, _, _, hr => ⟨(), (), hr, trivial, List.nodup_nil, (fun b hb => by cases hb), fun b hb => by cases hb⟩
  | .val k :: ps, i, x, l, vs, kk, ⟨v, vs', e, _, _, ha⟩, ht, hr => by
    subst e
    obtain ⟨ro, lo, h1, h2, h3, h4, h5⟩ := outsAt_ok h (ins := ps) (i := i + 1) (x := x.2) (l := l.2) ha (fun j u hu hp => by have := ht (j + 1) u (by simpa using hu) hp; rwa [show i + (j + 1) = i + 1 + j by omega] at this) hr
    exact ⟨ro, lo, h1, h2, h3, fun b hb => by obtain ⟨t, e1, e2⟩ := h4 b hb; exact ⟨t, by omega, e2⟩, h5⟩
  | .mov k m :: ps, i, x, l, vs, kk, ⟨v, vs', e, _, _, ha⟩, ht, hr => by
    subst e
    obtain ⟨ro, lo, h1, h2, h3, h4, h5⟩ := outsAt_ok h (ins := ps) (i := i + 1) (x := x.2) (l := l.2) ha (fun j u hu hp => by have := ht (j + 1) u (by simpa using hu) hp; rwa [show i + (j + 1) = i + 1 + j by omega] at this) hr
    exact ⟨ro, lo, h1, h2, h3, fun b hb => by obtain ⟨t, e1, e2⟩ := h4 b hb; exact ⟨t, by omega, e2⟩, h5⟩
  | .fn c d :: ps, i, x, l, vs, kk, ⟨v, vs', e, _, ha⟩, ht, hr => by
    subst e
    obtain ⟨ro, lo, h1, h2, h3, h4, h5⟩ := outsAt_ok h (ins := ps) (i := i + 1) (x := x.2) (l := l) ha (fun j u hu hp => by have := ht (j + 1) u (by simpa using hu) hp; rwa [show i + (j + 1) = i + 1 + j by omega] at this) hr
    exact ⟨ro, lo, h1, h2, h3, fun b hb => by obtain ⟨t, e1, e2⟩ := h4 b hb; exact ⟨t, by omega, e2⟩, h5⟩
  | .mptr k m :: ps, i, x, l, vs, kk, ⟨v, vs', e, _, _, hv, ha⟩, ht, hr => by
    subst e
    simp only [outsAt] at hr
    split at hr
    case h_2 => cases hr
    rename_i t hsl
    cases hti : Nat.beq t i with
    | false => rw [hti] at hr; cases hr
    | true =>
    rw [hti] at hr
    have hti := Nat.eq_of_beq_eq_true hti
    subst hti
    simp only [cond_true] at hr
    split at hr
    case h_2 => cases hr
    rename_i rt hrt
    obtain ⟨q, hg, rfl⟩ := h.rootOf hrt
    split at hr
    case isFalse => cases hr
    rename_i hk
    split at hr
    case isFalse => cases hr
    rename_i hm
    obtain ⟨qk, qm, qx, qmem, qtmp, ql, qb⟩ := q
    simp only [GR.rt] at hk hm
    subst hk; subst hm
    -- the base is the entry's
    have hslot := h.slot t
    rw [hsl] at hslot
    obtain ⟨q', c, y, e1, e2, e3, e4⟩ := hslot
    rw [hg] at e1; injection e1 with e1; subst e1
    simp [GR.at, gat] at e2
    subst e2
    simp only at e3
    subst e3
    have hval := ht 0 v rfl rfl
    rw [Nat.add_zero] at hval
    have : a.tmps.getD t undef = v := by rw [Array.getD_eq_getD_getElem?, hval]; rfl
    rw [this, hv] at e4
    injection e4 with e4
    have e5 := adr_inj e4
    injection e5 with e5
    subst e5
    obtain ⟨ro, lo, h1, h2, h3, h4, h5⟩ := outsAt_ok h (ins := ps) (i := t + 1) (x := x.2) (l := l.2) ha (fun j u hu hp => by have := ht (j + 1) u (by simpa using hu) hp; rwa [show t + (j + 1) = t + 1 + j by omega] at this) hr
    have hqn := h.nd t _ hg
    have hqo := h.ho t _ hg
    simp only [GR.fp, GR.fpi, Option.map_some, Option.toList_some, List.singleton_append, List.nodup_cons, List.mem_cons] at hqn hqo
    have hfp : fp (resK (Pm.outs (.mptr qk qm :: ps))) (resM (Pm.outs (.mptr qk qm :: ps))) (qx, ro) (ql, lo) = fp qk qm qx ql ++ fp (resK (Pm.outs ps)) (resM (Pm.outs ps)) ro lo := by simp only [Pm.outs, resK, resM, fp, Mk.mkp_l, Mk.mkp_r]
    refine ⟨(qx, ro), (ql, lo), h1, ⟨h.sat t _ hg, h.mem t _ hg, h2⟩, ?_, fun b hb => ?_, fun b hb => ?_⟩
    · rw [hfp]
      simp only [argBs, List.map_cons, List.nodup_append, List.nodup_cons, List.mem_append, List.mem_cons]
      rw [List.nodup_append] at h3
      have hne : ∀ b, ow b = some t → ¬ (b ∈ fp (resK (Pm.outs ps)) (resM (Pm.outs ps)) ro lo ∨ b ∈ (argBs ps l.2).map (·.1)) := fun b hb hb' => by
        obtain ⟨u, f1, f2⟩ := h4 b (List.mem_append.2 hb')
        rw [hb] at f2; injection f2 with f2; omega
      refine ⟨⟨hqn.2, h3.1, fun b hb c hc e => hne b (hqo b (.inr hb)) (.inl (e ▸ hc))⟩, ⟨fun hb => hne _ (hqo _ (.inl rfl)) (.inr hb), h3.2.1⟩, ?_⟩
      rintro b (hb | hb) c (hc | hc) e
      · exact hqn.1 (by rw [← hc, ← e]; exact hb)
      · exact hne b (hqo b (.inr hb)) (.inr (e ▸ hc))
      · exact hne c (hqo c (.inl hc)) (.inl (e ▸ hb))
      · exact h3.2.2 b hb c hc e
    · rw [hfp] at hb
      simp only [argBs, List.map_cons, List.mem_append, List.mem_cons] at hb
      rcases hb with (hb | hb) | hb | hb
      · exact ⟨t, Nat.le_refl _, hqo b (.inr hb)⟩
      · obtain ⟨u, f1, f2⟩ := h4 b (List.mem_append.2 (.inl hb)); exact ⟨u, by omega, f2⟩
      · exact ⟨t, Nat.le_refl _, hqo b (.inl hb)⟩
      · obtain ⟨u, f1, f2⟩ := h4 b (List.mem_append.2 (.inr hb)); exact ⟨u, by omega, f2⟩
    · rw [hfp, List.mem_append] at hb
      exact hb.elim ((h.own t _ hg).1 b) (h5 b)
  | .chg k m :: ps, i, x, l, vs, kk, ⟨v, vs', e, _, hv, ha⟩, ht, hr => by
    subst e
    simp only [outsAt] at hr
    split at hr
    case h_2 => cases hr
    rename_i t hsl
    cases hti : (Nat.ble i t && (Pm.outs ps).isEmpty) with
    | false => rw [hti] at hr; cases hr
    | true =>
    rw [hti] at hr
    simp only [Bool.and_eq_true, List.isEmpty_iff] at hti
    obtain ⟨hit, hos⟩ := hti
    have hit := Nat.le_of_ble_eq_true hit
    simp only [cond_true] at hr
    split at hr
    case h_2 => cases hr
    rename_i rt hrt
    obtain ⟨q, hg, rfl⟩ := h.rootOf hrt
    split at hr
    case isFalse => cases hr
    rename_i hk
    split at hr
    case isFalse => cases hr
    rename_i hm
    obtain ⟨qk, qm, qx, qmem, qtmp, ql, qb⟩ := q
    simp only [GR.rt] at hk hm
    subst hk; subst hm
    -- the value is the entry's
    have hslot := h.slot i
    rw [hsl] at hslot
    obtain ⟨q', c, e1, e2, e3⟩ := hslot
    rw [hg] at e1; injection e1 with e1; subst e1
    simp [GR.at, gat] at e2
    subst e2
    simp only at e3
    have hval := ht 0 v rfl rfl
    rw [Nat.add_zero] at hval
    have : a.tmps.getD i undef = v := by rw [Array.getD_eq_getD_getElem?, hval]; rfl
    rw [this, hv] at e3
    obtain ⟨ro, lo, h1, h2, h3, h4, h5⟩ := outsAt_ok h (ins := ps) (i := i + 1) (x := x.2) (l := l.2) ha (fun j u hu hp => by have := ht (j + 1) u (by simpa using hu) hp; rwa [show i + (j + 1) = i + 1 + j by omega] at this) hr
    have hqn := h.nd t _ hg
    have hqo := h.ho t _ hg
    have hin : ∀ b ∈ fp qk qm qx ql, ow b = some t := fun b hb => hqo b (by simp only [GR.fp, GR.fpi, List.mem_append]; exact .inr hb)
    have hfp : fp (resK (Pm.outs (.chg qk qm :: ps))) (resM (Pm.outs (.chg qk qm :: ps))) (qx, ro) (ql, lo) = fp qk qm qx ql := by
      simp only [Pm.outs, resK, resM, fp, Mk.mkp_l, Mk.mkp_r]
      rw [fp_nil hos, List.append_nil]
    have hbs : argBs (.chg qk qm :: ps) l = [] := (no_outs (ins := ps) x.2 l.2 hos).1
    refine ⟨(qx, ro), (ql, lo), h1, ⟨h.sat t _ hg, e3.symm, h2⟩, ?_, fun b hb => ?_, fun b hb => ?_⟩
    · rw [hfp, hbs]
      simp only [List.map_nil, List.append_nil]
      simp only [GR.fp, GR.fpi, List.nodup_append] at hqn
      exact hqn.2.1
    · rw [hfp, hbs] at hb
      simp only [List.map_nil, List.append_nil] at hb
      exact ⟨t, hit, hin b hb⟩
    · rw [hfp] at hb
      exact (h.own t _ hg).1 b hb

end
end Go.Proofs.Ytpegmiofhfmepaa.Ev

/- Functions: the contract. -/
set_option linter.unusedSimpArgs false
namespace Go.Proofs.Ytpegmiofhfmepaa.Ev

section
variable {P : Program} {X : Cx} {N : Nat} {F : Nat → Prop} {w : World} {E : Env}

/-- nothing is known yet -/
theorem Rel.start {X : Cx} {tm : Array Value} (h0 : X.w0 = w) (h1 : X.F0 = F) (hF : ∀ b, F b → b < w.heap.size) (hsz : tm.size = N)
    (hrg : ∀ b o n, X.rg b = some (o, n) → Blk w b fun _ => True) : Rel P X N .empty (fun _ => none) F (fun _ => none) tm w where
  root := fun _ => rfl
  slot := fun _ => trivial
  sat := fun t r h => by cases h
  mem := fun t r h => by cases h
  mb := fun t r h => by cases h
  ho := fun t r h => by cases h
  nd := fun t r h => by cases h
  hF := fun b hb => ⟨rfl, hF b hb⟩
  lt := fun b t h => by cases h
  own := fun t r h => by cases h
  F0 := fun b hb => by rw [h1] at hb; exact hb
  Fnew := fun b hb => .inl (by rw [h1]; exact hb)
  kept := fun b _ _ => by
    rw [h0]
    cases hr : X.rg b with
    | none => rfl
    | some q =>
      obtain ⟨o, n⟩ := q
      obtain ⟨cs, e, fr, c1, _, _⟩ := hrg b o n hr
      exact ⟨cs, e, fr, cs, c1, c1, rfl, fun _ _ => rfl⟩
  size := by rw [h0]; exact Nat.le_refl _
  os := by rw [h0]
  tape := by rw [h0]
  out := by rw [h0]
  sz := hsz
  big := fun _ _ => rfl

theorem ArgsOk.length : ∀ {ins : List Pm} {x : Ps ins} {l : PL ins} {vs : List Value}, ArgsOk P w F ins x l vs → vs.length = ins.length
  | [], _, _, _, h => by rw [h]; rfl
  | .val _ :: ps, _, _, _, ⟨v, vs, h1, _, _, h2⟩ => by rw [h1]; simp [ArgsOk.length h2]
  | .mov _ _ :: ps, _, _, _, ⟨v, vs, h1, _, _, h2⟩ => by rw [h1]; simp [ArgsOk.length h2]
  | .mptr _ _ :: ps, _, _, _, ⟨v, vs, h1, _, _, _, h2⟩ => by rw [h1]; simp [ArgsOk.length h2]
  | .chg _ _ :: ps, _, _, _, ⟨v, vs, h1, _, _, h2⟩ => by rw [h1]; simp [ArgsOk.length h2]
  | .fn _ _ :: ps, _, _, _, ⟨v, vs, h1, _, h2⟩ => by rw [h1]; simp [ArgsOk.length h2]

theorem find_rg : ∀ {bs : List (Nat × Nat × Nat)}, (bs.map (·.1)).Nodup → ∀ q ∈ bs, (bs.find? fun y => Nat.beq y.1 q.1).map (·.2) = some q.2
  | [], _, q, hq => by cases hq
  | y :: bs, h, q, hq => by
    simp only [List.map_cons, List.nodup_cons] at h
    rw [List.find?_cons]
    rcases List.mem_cons.1 hq with rfl | hq
    · simp
    · have hne : y.1 ≠ q.1 := fun e => h.1 (List.mem_map.2 ⟨q, hq, e.symm⟩)
      rw [beq_ne hne]
      exact find_rg h.2 q hq

theorem base_blk : ∀ {ins : List Pm} {x : Ps ins} {l : PL ins} {vs : List Value}, ArgsOk P w F ins x l vs → ∀ q ∈ argBs ins l, Blk w q.1 fun _ => True
  | [], _, _, _, _, q, hq => by cases hq
  | .val _ :: ps, _, l, _, ⟨_, _, _, _, _, h⟩, q, hq => base_blk (ins := ps) (l := l.2) h q hq
  | .mov _ _ :: ps, _, l, _, ⟨_, _, _, _, _, h⟩, q, hq => base_blk (ins := ps) (l := l.2) h q hq
  | .chg _ _ :: ps, _, l, _, ⟨_, _, _, _, _, h⟩, q, hq => base_blk (ins := ps) (l := l.2) h q hq
  | .fn _ _ :: ps, _, l, _, ⟨_, _, _, _, h⟩, q, hq => base_blk (ins := ps) (l := l) h q hq
  | .mptr k m :: ps, _, l, _, ⟨_, _, _, _, hb, _, h⟩, q, hq => by
    rcases List.mem_cons.1 hq with rfl | hq
    · exact (hb l.1.2.1 l.1.2.2 rfl).mono fun _ _ => trivial
    · exact base_blk (ins := ps) h q hq

theorem sound_of {sg : Sig} {f : Nat} {fn : Func} {c : Code} {subs : Bool → Nat → Option Sub} (hf : P.funcs[f]? = some fn) (hb : fn.body = some c) (hname : fn.name ≠ "runtime.NumGoroutine") (hE : EnvOk P E) (hn : E.n = fn.ntmps)
    (hlo : Nat.ble E.lo sg.ins.length && ptrsBelow sg.ins E.lo) (hlen : sg.ins.length ≤ fn.ntmps) (hgood : ∀ X : Cx, E.lo = X.lo → Good P X E.n E subs c) (heq : ∀ x r, sg.fn x = some r → evF E subs fn sg.ins sg.res x = some r) : Sound P f sg := by
  refine ⟨⟨fn, hf, by rw [hb]; rfl, hname⟩, fun x r hr w F l vs ha hnd hno hlt => calls_of_wp hf hb ?_⟩
  have hvl := ha.length
  obtain ⟨tm, htm⟩ : ∃ tm : Array Value, tm = vs.toArray ++ Array.replicate (fn.ntmps - vs.toArray.size) undef := ⟨_, rfl⟩
  rw [← htm]
  have hsz : tm.size = E.n := by rw [htm, hn]; simp; omega
  have hts : ∀ j v, vs[j]? = some v → tm[0 + j]? = some v := fun j v hj => by
    have hl := (List.getElem?_eq_some_iff.1 hj).1
    rw [htm, Nat.zero_add, Array.getElem?_append_left (by simpa using hl)]
    simpa using hj
  have hbn : ((argBs sg.ins l).map (·.1)).Nodup := (List.nodup_append.1 hnd).2.1
  let X : Cx := ⟨w, F, fun b => b ∈ argFp sg.ins x l, fun b => ((argBs sg.ins l).find? fun y => Nat.beq y.1 b).map (·.2), E.lo, tm⟩
  have hstart : Rel P X E.n .empty (fun _ => none) F (fun _ => none) tm w := Rel.start rfl rfl hlt hsz fun b o n hq => by
    simp only [X] at hq
    cases hfd : (argBs sg.ins l).find? fun y => Nat.beq y.1 b with
    | none => rw [hfd] at hq; cases hq
    | some q =>
      have h1 := List.mem_of_find?_eq_some hfd
      have h2 : Nat.beq q.1 b = true := by have := List.find?_some hfd; exact this
      have h2 := Nat.eq_of_beq_eq_true h2
      rw [← h2]
      exact base_blk ha q h1
  obtain ⟨g, ow, hrel⟩ := init_ok (ins := sg.ins) (i := 0) (x := x) (l := l) hstart (fun _ _ => rfl) ha hts hnd (fun b hb => ⟨rfl, hno b hb⟩) (fun b hb => .inr hb) (fun q hq => find_rg hbn q hq)
  have hev := heq x r hr
  unfold evF at hev
  rw [hb] at hev
  simp only at hev
  have hwp := evC_ok hE rfl rfl (X := X) (hgood X rfl) (a := ⟨tm, []⟩) hrel ⟨rfl, fun _ _ => rfl⟩ hev
  have fin : ∀ (a' : Act) (w' : World), Frm X a' → (∃ s g F' ow, (resOf E s fn.results.toList sg.res fun r s => outsAt s 0 sg.ins fun b => some (r, b)) = some r ∧ Rel P X E.n s g F' ow a'.tmps w') →
      a'.defers = [] ∧ ∃ v, (results fn a'.tmps).run P w' = .ok v w' ∧ CallPost w F sg x l r (.returned v) w' := by
    rintro a' w' ⟨hd, hfr⟩ ⟨s, g, F', ow, h1, h2⟩
    obtain ⟨xr, lr, s2, g2, ow2, q1, q2, q3, q4, q5, q6⟩ := resOf_ok hE h2 h1
    obtain ⟨ro, lo, p1, p2, p3, p4, p5⟩ := outsAt_ok q2 (ins := sg.ins) (i := 0) ha (fun j v hj hp => by
      have hl := (List.getElem?_eq_some_iff.1 hj).1
      have := hfr (0 + j) (by show 0 + j < E.lo; simp only [Bool.and_eq_true] at hlo; have := ptrsBelow_lt hlo.2 hp; omega)
      rw [this]
      exact hts j v hj) q1
    injection p1 with p1
    subst p1
    have hfree : ∀ b, X.free b → w.heap.size ≤ b ∨ b ∈ argFp sg.ins x l := fun b hb => hb
    refine ⟨hd, _, results_run q4, ⟨F', lr, lo, rfl, ?_⟩⟩
    exact {
      size := q2.size, os := q2.os, tape := q2.tape, out := q2.out
      old := fun b h1 h2 h3 => by
        have := q2.kept b h1 h2
        have hrn : X.rg b = none := by
          cases hfd : (argBs sg.ins l).find? fun y => Nat.beq y.1 b with
          | none => simp only [X, hfd, Option.map_none]
          | some q =>
            have e1 := List.mem_of_find?_eq_some hfd
            have e2 : Nat.beq q.1 b = true := by have := List.find?_some hfd; exact this
            have e2 := Nat.eq_of_beq_eq_true e2
            exact absurd e2 (h3 q e1)
        rw [hrn] at this
        exact this
      rng := fun q hq => by
        have hql := (hno q.1 (List.mem_append.2 (.inr (List.mem_map.2 ⟨q, hq, rfl⟩)))).2
        have hqn : ¬ X.hd q.1 := fun hh => (List.nodup_append.1 hnd).2.2 q.1 hh q.1 (List.mem_map.2 ⟨q, hq, rfl⟩) rfl
        have := q2.kept q.1 hql hqn
        have hrg : X.rg q.1 = some q.2 := find_rg hbn q hq
        rw [hrg] at this
        exact this
      le := q2.F0
      new := fun b hb => (q2.Fnew b hb).elim .inl fun e => by
        rcases hfree b e with e | e
        · exact .inr (.inl ⟨e, (q2.hF b hb).2⟩)
        · exact .inr (.inr e)
      res := q5.sat
      outs := p2
      nd := by
        rw [List.nodup_append]
        refine ⟨q5.nd, p3, ?_⟩
        rintro b hb c hc rfl
        obtain ⟨t, _, e⟩ := p4 b hc
        rw [(q5.no b hb).1] at e; cases e
      apart := fun b hb => by
        rcases List.mem_append.1 hb with hb | hb
        · exact ⟨(q5.no b hb).2.1, hfree b (q5.no b hb).2.2.2⟩
        · obtain ⟨t, _, e⟩ := p4 b (List.mem_append.2 (.inl hb))
          exact ⟨(fun hF => by rw [(q2.hF b hF).1] at e; cases e), hfree b (p5 b hb)⟩ }
  refine wp_mono hwp fun e a' w' hq => ?_
  cases e with
  | normal => exact fin a' w' hq.1 hq.2
  | ret => exact fin a' w' hq.1 hq.2
  | exit i => obtain ⟨_, _, _, _, _, h1, _⟩ := hq; cases h1
  | outgrown => exact hq.elim
  | goto _ => exact hq
  | panic _ => exact hq.elim

end
end Go.Proofs.Ytpegmiofhfmepaa.Ev

/- What a generated proof leans on: what a function's code still owes, types, short words for operators. -/
set_option linter.unusedSimpArgs false
namespace Go.Proofs.Ytpegmiofhfmepaa.Ev

/-! ### what a piece of code owes, in a row -/
def GoodN (P : Program) (X : Cx) (N : Nat) (E : Env) (subs : Bool → Nat → Option Sub) : Code → Prop → Prop
  | .seq a b, K => GoodN P X N E subs a (GoodN P X N E subs b K)
  | .cond c a b, K => match ((firstReg a).orElse fun _ => firstReg b).bind (subs false) with
    | some u => SubOk P X N u (.cond c a b) ∧ K
    | none => GoodN P X N E subs a (GoodN P X N E subs b K)
  | .block _ a, K => GoodN P X N E subs a K
  | .loop a, K => match (firstReg a).bind (subs true) with
    | some u => SubOk P X N u (.loop a) ∧ K
    | none => K
  | .region id ops true, K => RegOk P X N E id ops ∧ K
  | _, K => K

theorem GoodN.good {P : Program} {X : Cx} {N : Nat} {E : Env} {subs : Bool → Nat → Option Sub} : ∀ {c : Code} {K : Prop}, GoodN P X N E subs c K → Good P X N E subs c ∧ K
  | .seq a b, K, h => by
    simp only [GoodN] at h
    obtain ⟨h1, h2⟩ := GoodN.good h
    obtain ⟨h2, h3⟩ := GoodN.good h2
    exact ⟨⟨h1, h2⟩, h3⟩
  | .cond c a b, K, h => by
    simp only [GoodN] at h
    simp only [Good]
    cases hu : ((firstReg a).orElse fun _ => firstReg b).bind (subs false) with
    | some u => rw [hu] at h; exact h
    | none =>
      rw [hu] at h
      obtain ⟨h1, h2⟩ := GoodN.good h
      obtain ⟨h2, h3⟩ := GoodN.good h2
      exact ⟨⟨h1, h2⟩, h3⟩
  | .block _ a, K, h => GoodN.good (c := a) h
  | .loop a, K, h => by
    simp only [GoodN] at h
    simp only [Good]
    cases hu : (firstReg a).bind (subs true) with
    | some u => rw [hu] at h; exact h
    | none => rw [hu] at h; exact ⟨trivial, h⟩
  | .region id ops true, K, h => h
  | .region id ops false, K, h => ⟨trivial, h⟩
  | .skip, K, h | .exit _, K, h | .ret, K, h | .label _, K, h | .goto _, K, h | .scope _, K, h | .rangeFunc .., K, h | .refuse _, K, h => ⟨trivial, h⟩

/-! ### pieces of a function's code, by their first region -/
def bodyOf (f : Func) : Code := f.body.getD .skip
def findLoop : Nat → Code → Option Code
  | n, .seq a b => match findLoop n a with | some c => some c | none => findLoop n b
  | n, .cond _ a b => match findLoop n a with | some c => some c | none => findLoop n b
  | n, .block _ a => findLoop n a
  | n, .loop a => match firstReg a with
    | some m => cond (Nat.beq m n) (some a) (findLoop n a)
    | none => findLoop n a
  | _, _ => none
def loopAt (n : Nat) (f : Func) : Code := (findLoop n (bodyOf f)).getD .skip
def findIf : Nat → Code → Option Code
  | n, .seq a b => match findIf n a with | some c => some c | none => findIf n b
  | n, .cond x a b => match (firstReg a).orElse fun _ => firstReg b with
    | some m => cond (Nat.beq m n) (some (.cond x a b)) (match findIf n a with | some c => some c | none => findIf n b)
    | none => match findIf n a with | some c => some c | none => findIf n b
  | n, .block _ a => findIf n a
  | n, .loop a => findIf n a
  | _, _ => none
def ifAt (n : Nat) (f : Func) : Code := (findIf n (bodyOf f)).getD .skip
/-- the branches of an if -/
def condOf : Code → Operand
  | .cond x _ _ => x
  | _ => .const (.bool false)
def thenOf : Code → Code
  | .cond _ a _ => a
  | _ => .skip
def elseOf : Code → Code
  | .cond _ _ b => b
  | _ => .skip

/-! ### environments as lists -/
def assocN {α : Type} : List (Nat × α) → Nat → Option α
  | [], _ => none
  | (m, x) :: r, n => cond (Nat.beq m n) (some x) (assocN r n)

theorem assocN_mem {α : Type} : ∀ {l : List (Nat × α)} {n : Nat} {x : α}, assocN l n = some x → (n, x) ∈ l
  | [], _, _, h => by cases h
  | (m, y) :: r, n, x, h => by
    simp only [assocN] at h
    cases hb : Nat.beq m n with
    | true =>
      rw [hb] at h
      have := Nat.eq_of_beq_eq_true hb
      subst this
      injection h with h
      subst h
      exact List.mem_cons_self
    | false => rw [hb] at h; exact List.mem_cons_of_mem _ (assocN_mem h)

def AllTy (P : Program) : List (Nat × K) → Prop
  | [] => True
  | p :: r => TyOk P p.1 p.2 ∧ AllTy P r
def AllFn (P : Program) : List (Nat × Sig) → Prop
  | [] => True
  | p :: r => Sound P p.1 p.2 ∧ AllFn P r

theorem AllTy.mem {P : Program} : ∀ {l : List (Nat × K)}, AllTy P l → ∀ p ∈ l, TyOk P p.1 p.2
  | [], _, _, h => by cases h
  | _ :: _, ⟨h1, h2⟩, p, h => by
    rcases List.mem_cons.1 h with rfl | h
    · exact h1
    · exact AllTy.mem h2 p h
theorem AllFn.mem {P : Program} : ∀ {l : List (Nat × Sig)}, AllFn P l → ∀ p ∈ l, Sound P p.1 p.2
  | [], _, _, h => by cases h
  | _ :: _, ⟨h1, h2⟩, p, h => by
    rcases List.mem_cons.1 h with rfl | h
    · exact h1
    · exact AllFn.mem h2 p h

theorem envOk_of {P : Program} {E : Env} {tl : List (Nat × K)} {fl : List (Nat × Sig)} (h1 : E.ty = assocN tl) (h2 : E.fns = assocN fl) (ht : AllTy P tl) (hf : AllFn P fl) : EnvOk P E :=
  ⟨fun t k h => ht.mem (t, k) (assocN_mem (by rw [← h1]; exact h)), fun f sg h => hf.mem (f, sg) (assocN_mem (by rw [← h2]; exact h))⟩

/-! ### types -/
theorem ty_int {P : Program} {t : Nat} {k : IntKind} (h1 : TyI P t (.int k)) (h2 : P.underlying t = some (.int k)) : TyOk P t (.int k) := ⟨h1, h2⟩
theorem ty_sl {P : Program} {t e : Nat} {k : K} (h1 : TyI P t (.sl k)) (h2 : P.underlying t = some (.slice e)) (h3 : TyOk P e k) : TyOk P t (.sl k) := ⟨h1, e, h2, h3⟩
theorem ty_struct {P : Program} {t : Nat} {a b : K} {f : Field} {l : List Field} (h1 : TyI P t (.pair a b)) (h2 : P.underlying t = some (.struct ⟨f :: l⟩)) (h3 : P.stoodInHeld t = false)
    (h4 : f.offset = 0 ∧ f.name ≠ "_" ∧ TyOk P f.type a ∧ (TyF P b).2 l a.size) : TyOk P t (.pair a b) := ⟨h1, ⟨f :: l⟩, h2, h3, h4⟩

/-! ### short words, as a typed function is printed with -/
def iand (k : IntKind) (a b : Int) : Int := k.wrap (BitVec.ofInt k.bits a &&& BitVec.ofInt k.bits b).toNat
def ior (k : IntKind) (a b : Int) : Int := k.wrap (BitVec.ofInt k.bits a ||| BitVec.ofInt k.bits b).toNat
def ixor (k : IntKind) (a b : Int) : Int := k.wrap (BitVec.ofInt k.bits a ^^^ BitVec.ofInt k.bits b).toNat
def iandn (k : IntKind) (a b : Int) : Int := k.wrap (BitVec.ofInt k.bits a &&& ~~~ BitVec.ofInt k.bits b).toNat
def inot (k : IntKind) (n : Int) : Int := k.wrap (BitVec.ofInt k.bits (if k.signed then -1 else k.max) ^^^ BitVec.ofInt k.bits n).toNat
def ishl (k : IntKind) (a b : Int) : Int := k.wrap (a * 2 ^ (min b.toNat k.bits))
def ishr (k : IntKind) (a b : Int) : Int := a.fdiv (2 ^ (min b.toNat k.bits))
def iadd (k : IntKind) (a b : Int) : Int := k.wrap (a + b)
def isub (k : IntKind) (a b : Int) : Int := k.wrap (a - b)
def imul (k : IntKind) (a b : Int) : Int := k.wrap (a * b)
def iquo (k : IntKind) (a b : Int) : Int := k.wrap (a.tdiv b)
def irem (_ : IntKind) (a b : Int) : Int := a.tmod b
def ineg (k : IntKind) (n : Int) : Int := k.wrap (0 - n)
def ieq (a b : Int) : Bool := a == b
def ilt (a b : Int) : Bool := decide (a < b)
def ile (a b : Int) : Bool := decide (a ≤ b)
def beqB (a b : Bool) : Bool := a == b
def seq (a b : ByteArray) : Bool := a.toList == b.toList
def slt (a b : ByteArray) : Bool := Op.bytesLess a.toList b.toList
def imin (x y : Int) : Int := if y < x then y else x
def imax (x y : Int) : Int := if y > x then y else x
def slen (s : ByteArray) : Int := s.size
def llen {α : Type} (l : List α) : Int := l.length

end Go.Proofs.Ytpegmiofhfmepaa.Ev

/- Plain facts on the words that typed functions are printed with. -/
set_option linter.unusedSimpArgs false
namespace Go.Proofs.Ytpegmiofhfmepaa.Ev

/-! ### loops -/
section
variable {S A : Type}
theorem iter_more {step : S → Option (S ⊕ A)} : ∀ {n : Nat} {s : S} {a : A}, iter step n s = some a → ∀ m, n ≤ m → iter step m s = some a
  | 0, _, _, h, _, _ => by cases h
  | n + 1, s, a, h, 0, hm => by omega
  | n + 1, s, a, h, m + 1, hm => by
    simp only [iter] at h ⊢
    cases hs : step s with
    | none => rw [hs] at h; cases h
    | some z =>
      rw [hs] at h
      cases z with
      | inl s' => exact iter_more h m (by omega)
      | inr b => exact h

theorem iter_det {step : S → Option (S ⊕ A)} {n m : Nat} {s : S} {a b : A} (h1 : iter step n s = some a) (h2 : iter step m s = some b) : a = b := by
  have := (iter_more h1 (n + m) (by omega)).symm.trans (iter_more h2 (n + m) (by omega))
  exact Option.some.inj this

theorem loopM_of_iter {step : S → Option (S ⊕ A)} {n : Nat} {s : S} {a : A} (h : iter step n s = some a) : loopM step s = some a := by
  have hex : ∃ n a, iter step n s = some a := ⟨n, a, h⟩
  rw [loopM, dif_pos hex]
  have := hex.choose_spec.choose_spec
  rw [iter_det this h]

theorem loopM_eq (step : S → Option (S ⊕ A)) (s : S) : loopM step s = match step s with | none => none | some (.inl s') => loopM step s' | some (.inr a) => some a := by
  cases hs : step s with
  | none =>
    rw [loopM, dif_neg]
    rintro ⟨n, a, h⟩
    cases n with
    | zero => cases h
    | succ n => simp only [iter, hs] at h; cases h
  | some z =>
    cases z with
    | inr a => exact loopM_of_iter (n := 1) (by simp only [iter, hs])
    | inl s' =>
      simp only
      by_cases hex : ∃ n a, iter step n s' = some a
      · obtain ⟨n, a, h⟩ := hex
        rw [loopM_of_iter h]
        exact loopM_of_iter (n := n + 1) (by simp only [iter, hs]; exact h)
      · rw [loopM, loopM, dif_neg hex, dif_neg]
        rintro ⟨n, a, h⟩
        cases n with
        | zero => cases h
        | succ n => simp only [iter, hs] at h; exact hex ⟨n, a, h⟩
end

section
variable {c v : Desc} {ex : List (Ek × Desc)} {stepK : (R : Type) → Vars c → Vars v → (Vars c → (Vars v ⊕ Oc ex) → Option R) → Option R} {R : Type}

theorem loopF_more {xc c' : Vars c} {xv v' : Vars v} (h : round stepK (xc, xv) = some (.inl (c', v'))) (kk : Vars c → Oc ex → Option R) : loopF stepK R xc xv kk = loopF stepK R c' v' kk := by
  simp only [loopF]
  rw [loopM_eq, h]

theorem loopF_done {xc c' : Vars c} {xv : Vars v} {o : Oc ex} (h : round stepK (xc, xv) = some (.inr (c', o))) (kk : Vars c → Oc ex → Option R) : loopF stepK R xc xv kk = kk c' o := by
  simp only [loopF]
  rw [loopM_eq, h]
  rfl
end

/-! ### control -/
theorem bnd_some {α R : Type} (x : α) (k : α → Option R) : bnd (some x) k = k x := rfl
theorem req_true {R : Type} (k : Option R) : req true k = k := rfl
theorem getB_at {R : Type} {s : ByteArray} {i : Int} {k : Int → Option R} {b : UInt8} (h0 : 0 ≤ i) (h : s[i.toNat]? = some b) : getB s i k = k b.toNat := by
  simp [getB, h0, h]
theorem getO_at {R α : Type} {s : List α} {i : Int} {k : α → Option R} {b : α} (h0 : 0 ≤ i) (h : s[i.toNat]? = some b) : getO s i k = k b := by
  simp [getO, h0, h]

/-! ### integers -/
theorem wrap_i64 (n : Int) (h : -9223372036854775808 ≤ n ∧ n ≤ 9223372036854775807) : IntKind.i64.wrap n = n := by
  simp [IntKind.wrap, IntKind.bits, IntKind.signed]
  omega
theorem wrap_u8 (n : Int) : IntKind.u8.wrap n = n % 256 := by simp [IntKind.wrap, IntKind.bits, IntKind.signed]
theorem wrap_u32 (n : Int) : IntKind.u32.wrap n = n % 4294967296 := by simp [IntKind.wrap, IntKind.bits, IntKind.signed]
theorem wrap_u64 (n : Int) : IntKind.u64.wrap n = n % 18446744073709551616 := by simp [IntKind.wrap, IntKind.bits, IntKind.signed]

theorem ofInt_nat (w : Nat) (a : Nat) : (BitVec.ofInt w (a : Int)).toNat = a % 2 ^ w := by simp

theorem ior_nat (a b : Nat) (ha : a < 9223372036854775808) (hb : b < 9223372036854775808) : ior .i64 a b = ((a ||| b : Nat) : Int) := by
  have h : a ||| b < 2 ^ 63 := Nat.or_lt_two_pow ha hb
  have e : (BitVec.ofInt 64 (a : Int) ||| BitVec.ofInt 64 (b : Int)).toNat = a ||| b := by
    rw [BitVec.toNat_or, ofInt_nat, ofInt_nat, Nat.mod_eq_of_lt (a := a) (by omega), Nat.mod_eq_of_lt (a := b) (by omega)]
  show IntKind.i64.wrap ((BitVec.ofInt 64 (a : Int) ||| BitVec.ofInt 64 (b : Int)).toNat : Int) = _
  rw [e]
  exact wrap_i64 _ (by omega)

theorem iand_u8 (a b : Nat) (ha : a < 256) (hb : b < 256) : iand .u8 a b = ((a &&& b : Nat) : Int) := by
  have h : a &&& b ≤ a := Nat.and_le_left
  have e : (BitVec.ofInt 8 (a : Int) &&& BitVec.ofInt 8 (b : Int)).toNat = a &&& b := by
    rw [BitVec.toNat_and, ofInt_nat, ofInt_nat, Nat.mod_eq_of_lt (a := a) (by omega), Nat.mod_eq_of_lt (a := b) (by omega)]
  show IntKind.u8.wrap ((BitVec.ofInt 8 (a : Int) &&& BitVec.ofInt 8 (b : Int)).toNat : Int) = _
  rw [e, wrap_u8]
  omega

theorem ishl_nat (a b : Nat) (hb : b ≤ 64) (h : a * 2 ^ b < 9223372036854775808) : ishl .i64 a b = ((a * 2 ^ b : Nat) : Int) := by
  have hb' : min b 64 = b := by omega
  simp only [ishl, Int.toNat_natCast, IntKind.bits, hb']
  rw [show ((a : Int) * 2 ^ b) = ((a * 2 ^ b : Nat) : Int) by simp]
  exact wrap_i64 _ (by omega)

theorem iadd_i64 {a b : Int} (h : -9223372036854775808 ≤ a + b ∧ a + b ≤ 9223372036854775807) : iadd .i64 a b = a + b := wrap_i64 _ h
theorem isub_i64 {a b : Int} (h : -9223372036854775808 ≤ a - b ∧ a - b ≤ 9223372036854775807) : isub .i64 a b = a - b := wrap_i64 _ h
theorem imul_i64 {a b : Int} (h : -9223372036854775808 ≤ a * b ∧ a * b ≤ 9223372036854775807) : imul .i64 a b = a * b := wrap_i64 _ h

theorem seq_iff (a b : ByteArray) : seq a b = true ↔ a = b := by
  simp only [seq, beq_iff_eq, ByteArray.toList_eq]
  constructor
  · intro h
    exact ByteArray.ext (Array.ext' h)
  · rintro rfl; rfl

theorem seq_self (a : ByteArray) : seq a a = true := (seq_iff a a).2 rfl

theorem ilt_iff {a b : Int} : ilt a b = true ↔ a < b := by simp [ilt]
theorem ilt_false {a b : Int} : ilt a b = false ↔ b ≤ a := by simp [ilt]
theorem ile_iff {a b : Int} : ile a b = true ↔ a ≤ b := by simp [ile]
theorem ile_false {a b : Int} : ile a b = false ↔ b < a := by simp [ile]
theorem ieq_iff {a b : Int} : ieq a b = true ↔ a = b := by simp [ieq]
theorem ieq_false {a b : Int} : ieq a b = false ↔ a ≠ b := by simp [ieq]
theorem seq_false {a b : ByteArray} : seq a b = false ↔ a ≠ b := by
  rw [← Bool.not_eq_true, seq_iff]
theorem imin_eq (a b : Int) : imin a b = min a b := by simp only [imin]; split <;> omega
theorem imax_eq (a b : Int) : imax a b = max a b := by simp only [imax]; split <;> omega

end Go.Proofs.Ytpegmiofhfmepaa.Ev

/- From a contract to a call that changes nothing. -/
set_option linter.unusedSimpArgs false
namespace Go.Proofs.Ytpegmiofhfmepaa.Ev

theorem keptBut_same {w w' : World} (h1 : w'.os = w.os) (h2 : w'.output = w.output) (h : ∀ b, b < w.heap.size → w'.heap[b]? = w.heap[b]?) (may : MemPlace → Prop) : w.keptBut w' may := by
  refine ⟨h1, h2, fun i hi => ?_⟩
  rw [h i hi]
  cases w.heap[i]? with
  | none => rfl
  | some o => cases o <;> first | exact ⟨rfl, rfl, rfl, fun _ _ => rfl⟩ | exact .inr ⟨rfl, rfl⟩ | rfl

/-- a law of arguments that are read alone -/
theorem law_calls {P : Program} {f : Nat} {sg : Sig} (hS : Sound P f sg) (x : Ps sg.ins) (r : Rs sg.res × Rs (Pm.outs sg.ins)) (hx : sg.fn x = some r) (w : World) (F : Nat → Prop) (l : PL sg.ins) (vs : List Value)
    (ha : ArgsOk P w F sg.ins x l vs) (h1 : argFp sg.ins x l = []) (h2 : argBs sg.ins l = []) (hF : ∀ b, F b → b < w.heap.size) (v : Value) (hv : ∀ lr, resVal sg.res r.1 lr = v) :
    Calls P f vs.toArray w fun e w' => e = .returned v ∧ w'.os = w.os ∧ w'.output = w.output ∧ w.heap.size ≤ w'.heap.size ∧ ∀ b, b < w.heap.size → w'.heap[b]? = w.heap[b]? := by
  refine (hS.2 x r hx w F l vs ha (by rw [h1, h2]; simp) (by rw [h1, h2]; simp) hF).mono fun e w' he => ?_
  obtain ⟨F', lr, lo, rfl, L⟩ := he
  exact ⟨by rw [hv], L.os, L.out, L.size, fun b hb => L.old b hb (by rw [h1]; simp) (by rw [h2]; simp)⟩

end Go.Proofs.Ytpegmiofhfmepaa.Ev

/- The evaluator comes to one state, or to none, whatever is asked of it afterwards. -/
set_option linter.all false
namespace Go.Proofs.Ytpegmiofhfmepaa.Ev

/-- a function told to go on comes to one thing, or to nothing -/
def DetF {α : Type} (F : (R : Type) → (α → Option R) → Option R) : Prop := (∃ x, ∀ R f, F R f = f x) ∨ ∀ R f, F R f = none

section
variable {α β : Type}
theorem DetF.none : DetF (fun (R : Type) (_ : α → Option R) => (Option.none : Option R)) := .inr fun _ _ => rfl
theorem DetF.pure (x : α) : DetF (fun (R : Type) (f : α → Option R) => f x) := .inl ⟨x, fun _ _ => rfl⟩
theorem DetF.bind {F : (R : Type) → (α → Option R) → Option R} {H : α → (R : Type) → (β → Option R) → Option R} (hF : DetF F) (hH : ∀ x, DetF (H x)) : DetF (fun R f => F R fun x => H x R f) := by
  rcases hF with ⟨x, hx⟩ | hx
  · rcases hH x with ⟨y, hy⟩ | hy
    · exact .inl ⟨y, fun R f => (hx R _).trans (hy R f)⟩
    · exact .inr fun R f => (hx R _).trans (hy R f)
  · exact .inr fun R f => hx R _
theorem DetF.cond {A B : (R : Type) → (α → Option R) → Option R} (b : Bool) (hA : DetF A) (hB : DetF B) : DetF (fun R f => cond b (A R f) (B R f)) := by
  cases b
  · exact hB
  · exact hA
theorem DetF.ite {A B : (R : Type) → (α → Option R) → Option R} (c : Prop) [Decidable c] (hA : DetF A) (hB : DetF B) : DetF (fun R f => if c then A R f else B R f) := by
  by_cases h : c
  · simp only [h, if_true]; exact hA
  · simp only [h, if_false]; exact hB
theorem DetF.dite {c : Prop} [Decidable c] {A : c → (R : Type) → (α → Option R) → Option R} {B : (R : Type) → (α → Option R) → Option R} (hA : ∀ h, DetF (A h)) (hB : DetF B) : DetF (fun R f => if h : c then A h R f else B R f) := by
  by_cases h : c
  · simp only [h, dif_pos]; exact hA h
  · simp only [h]; exact hB
theorem DetF.req {A : (R : Type) → (α → Option R) → Option R} (b : Bool) (hA : DetF A) : DetF (fun R f => Ev.req b (A R f)) := by
  cases b
  · exact .inr fun _ _ => rfl
  · exact hA
theorem DetF.bnd {o : Option β} {A : β → (R : Type) → (α → Option R) → Option R} (hA : ∀ x, DetF (A x)) : DetF (fun R f => Ev.bnd o fun x => A x R f) := by
  cases o
  · exact .inr fun _ _ => rfl
  · exact hA _
theorem DetF.getO {xs : List β} {i : Int} {A : β → (R : Type) → (α → Option R) → Option R} (hA : ∀ x, DetF (A x)) : DetF (fun R f => Ev.getO xs i fun x => A x R f) := by
  simp only [Ev.getO]
  refine DetF.cond _ ?_ DetF.none
  cases xs[i.toNat]?
  · exact DetF.none
  · exact hA _
theorem DetF.getB {s : ByteArray} {i : Int} {A : Int → (R : Type) → (α → Option R) → Option R} (hA : ∀ x, DetF (A x)) : DetF (fun R f => Ev.getB s i fun x => A x R f) := by
  simp only [Ev.getB]
  refine DetF.cond _ ?_ DetF.none
  cases s[i.toNat]?
  · exact DetF.none
  · exact hA _
theorem DetF.catO {x y : ByteArray} {A : ByteArray → (R : Type) → (α → Option R) → Option R} (hA : ∀ x, DetF (A x)) : DetF (fun R f => Ev.catO x y fun x => A x R f) := DetF.cond _ (hA _) DetF.none
end

/-! ### places -/
theorem det_at : ∀ (p : List Stp) (k : K) (m : Mk) (x : T k), DetF (fun R (f : Ct → Option R) => Ct.at k m x p f)
  | [], k, m, x => by simp only [Ct.at]; exact DetF.pure _
  | e :: p, k, m, x => by
    cases k <;> cases e <;> simp only [Ct.at] <;> first | exact DetF.none | exact det_at p _ _ _ | skip
    rename_i k i
    refine DetF.ite _ DetF.none ?_
    cases x[i]? with
    | none => exact DetF.none
    | some y => exact det_at p k _ y

theorem det_set : ∀ (p : List Stp) (k : K) (m : Mk) (x : T k) (c : Ct), DetF (fun R (f : (Σ _ : Mk, T k) → Option R) => Ct.set k m x p c fun m y => f ⟨m, y⟩)
  | [], k, m, x, c => by
    simp only [Ct.set]
    by_cases h : c.k = k
    · simp only [h, dif_pos]; exact DetF.pure (α := Σ _ : Mk, T k) ⟨_, _⟩
    · simp only [h]; exact DetF.none
  | e :: p, k, m, x, c => by
    cases k <;> cases e <;> simp only [Ct.set] <;> first | exact DetF.none | skip
    · rename_i a b
      exact DetF.bind (det_set p a m.l x.1 c) (H := fun y R (f : (Σ _ : Mk, T (.pair a b)) → Option R) => f ⟨Mk.mkp y.1 m.r, (y.2, x.2)⟩) fun y => DetF.pure (α := Σ _ : Mk, T (.pair a b)) _
    · rename_i a b
      exact DetF.bind (det_set p b m.r x.2 c) (H := fun y R (f : (Σ _ : Mk, T (.pair a b)) → Option R) => f ⟨Mk.mkp m.l y.1, (x.1, y.2)⟩) fun y => DetF.pure (α := Σ _ : Mk, T (.pair a b)) _
    · rename_i k i
      cases x[i]? with
      | none => exact DetF.none
      | some z =>
      exact DetF.bind (det_set p k m.inner z c) (H := fun y R (f : (Σ _ : Mk, T (.sl k)) → Option R) => if y.1 = m.inner ∧ m.owns = true then f ⟨m, List.set x i y.2⟩ else none) fun y => DetF.ite _ (DetF.pure (α := Σ _ : Mk, T (.sl k)) _) DetF.none

section
variable {α : Type}
theorem det_set2 {p : List Stp} {k : K} {m : Mk} {x : T k} {c : Ct} {H : Mk → T k → (R : Type) → (α → Option R) → Option R} (hH : ∀ m y, DetF (H m y)) : DetF (fun R f => Ct.set k m x p c fun m y => H m y R f) :=
  DetF.bind (det_set p k m x c) (H := fun z R f => H z.1 z.2 R f) fun z => hH _ _

theorem det_read (s : St) (c : Pc) : DetF (fun R (f : Ct → Option R) => s.read c f) := by
  cases c <;> simp only [St.read] <;> first | exact DetF.none | exact DetF.pure _ | skip
  · rename_i t p
    cases s.root t with
    | none => exact DetF.none
    | some r => exact det_at _ _ _ _
  · rename_i t p lo n
    cases s.root t with
    | none => exact DetF.none
    | some r =>
    refine DetF.bind (det_at _ _ _ _) fun c => ?_
    obtain ⟨k, m, x⟩ := c
    cases k <;> first | exact DetF.none | exact DetF.pure _

theorem det_readK (s : St) (c : Pc) (k : K) : DetF (fun R (f : T k → Option R) => s.readK c k f) := by
  cases c <;> simp only [St.readK]
  case nil0 => cases k <;> first | exact DetF.none | exact DetF.pure (α := T (.sl _)) _
  all_goals
    refine DetF.bind (det_read s _) fun c => ?_
    exact DetF.dite (fun h => DetF.ite _ (DetF.pure (α := T k) _) DetF.none) DetF.none

theorem det_take (s : St) (c : Pc) : DetF (fun R (f : (Σ' _ : Ct, St) → Option R) => s.take c fun x s => f ⟨x, s⟩) := by
  cases c <;> simp only [St.take] <;> first | exact DetF.none | exact DetF.pure (α := Σ' _ : Ct, St) ⟨_, _⟩ | skip
  rename_i t p
  cases s.root t with
  | none => exact DetF.none
  | some r =>
  refine DetF.cond _ (DetF.cond _ (DetF.pure (α := Σ' _ : Ct, St) ⟨_, _⟩) DetF.none) ?_
  refine DetF.bind (det_at _ _ _ _) fun c => DetF.cond _ ?_ DetF.none
  exact det_set2 fun m y => DetF.pure (α := Σ' _ : Ct, St) ⟨_, _⟩

theorem det_take2 {s : St} {c : Pc} {H : Ct → St → (R : Type) → (α → Option R) → Option R} (hH : ∀ x s, DetF (H x s)) : DetF (fun R f => s.take c fun x s => H x s R f) :=
  DetF.bind (det_take s c) (H := fun z R f => H z.1 z.2 R f) fun z => hH _ _

theorem det_takeAll : ∀ {cs : List Pc} {s : St} {H : List Ct → St → (R : Type) → (α → Option R) → Option R}, (∀ x s, DetF (H x s)) → DetF (fun R f => takeAll s cs fun x s => H x s R f)
  | [], s, H, hH => hH _ _
  | c :: cs, s, H, hH => by
    simp only [takeAll]
    exact det_take2 fun x s => det_takeAll fun xs s => hH _ _

theorem det_buildAt : ∀ {cs : List (Nat × Ct)} {k : K} {m : Mk} {x : T k} {H : Mk → T k → (R : Type) → (α → Option R) → Option R}, (∀ m y, DetF (H m y)) → DetF (fun R f => buildAt k cs m x fun m y => H m y R f)
  | [], k, m, x, H, hH => hH _ _
  | (i, c) :: cs, k, m, x, H, hH => by
    simp only [buildAt]
    exact det_set2 fun m y => det_buildAt hH

theorem det_sameK : ∀ {cs : List Ct} {k : K} {m : Mk} {H : List (T k) → (R : Type) → (α → Option R) → Option R}, (∀ x, DetF (H x)) → DetF (fun R f => sameK k m cs fun x => H x R f)
  | [], k, m, H, hH => hH _
  | c :: cs, k, m, H, hH => by
    simp only [sameK]
    exact DetF.dite (fun h => DetF.ite _ (det_sameK (H := fun xs => H ((h ▸ c.x) :: xs)) fun xs => hH _) DetF.none) DetF.none

theorem det_srcOf {str : Bool} {s : St} {c : Pc} {H : Ct → St → (R : Type) → (α → Option R) → Option R} (hH : ∀ x s, DetF (H x s)) : DetF (fun R f => srcOf str s c fun x s => H x s R f) := by
  have h : ∀ c, DetF (fun R f => cond str none (s.read c fun ct => cond ct.m.inner.clear (H ct s R f) (s.take c fun x s => H x s R f))) := fun c =>
    DetF.cond _ DetF.none (DetF.bind (det_read s c) fun ct => DetF.cond _ (hH _ _) (det_take2 hH))
  unfold srcOf
  cases c with
  | v k x => cases k <;> first | exact DetF.cond _ (hH _ _) DetF.none | exact h _
  | _ => exact h _

theorem det_dstOf {s : St} {c : Pc} {H : Option Ct → St → (R : Type) → (α → Option R) → Option R} (hH : ∀ x s, DetF (H x s)) : DetF (fun R f => dstOf s c fun x s => H x s R f) := by
  unfold dstOf
  cases c <;> first | exact DetF.none | exact hH _ _ | skip
  · exact det_take2 fun x s => hH _ _
  · refine DetF.cond _ (det_take2 fun ct s => ?_) DetF.none
    obtain ⟨k, m, x⟩ := ct
    cases k <;> first | exact DetF.none | exact hH _ _

theorem det_appendTo {k0 : K} {str : Bool} {s : St} {d : Nat} {a b : Pc} {H : St → (R : Type) → (α → Option R) → Option R} (hH : ∀ s, DetF (H s)) : DetF (fun R f => appendTo k0 str s d a b fun s => H s R f) := by
  unfold appendTo
  refine DetF.cond _ ?_ DetF.none
  have h : ∀ b, DetF (fun R f => srcOf str s b fun src s => match src with
    | ⟨.sl k, m, ys⟩ => if k = k0 ∧ m ≠ .d then dstOf s a fun c s => (match c with
      | none => req (decide (ys.length ≤ 17179869184)) (H (s.newRoot d ⟨.sl k, .o m.inner, ys⟩ false (.al d [])) R f)
      | some c => if h : c.k = .sl k then (if c.m = .o m.inner then req (decide ((castT h c.x : List (T k)).length + ys.length ≤ 17179869184)) (H (s.newRoot d ⟨.sl k, c.m, (castT h c.x : List (T k)) ++ ys⟩ false (.al d [])) R f) else none) else none) else none
    | _ => none) := by
    intro b
    refine det_srcOf (H := fun src s R f => match src with
      | ⟨.sl k, m, ys⟩ => if k = k0 ∧ m ≠ .d then dstOf s a fun c s => (match c with
        | none => req (decide (ys.length ≤ 17179869184)) (H (s.newRoot d ⟨.sl k, .o m.inner, ys⟩ false (.al d [])) R f)
        | some c => if h : c.k = .sl k then (if c.m = .o m.inner then req (decide ((castT h c.x : List (T k)).length + ys.length ≤ 17179869184)) (H (s.newRoot d ⟨.sl k, c.m, (castT h c.x : List (T k)) ++ ys⟩ false (.al d [])) R f) else none) else none) else none
      | _ => none) fun src s => ?_
    obtain ⟨k, m, ys⟩ := src
    cases k <;> first | exact DetF.none | skip
    refine DetF.ite _ ?_ DetF.none
    refine det_dstOf (H := fun c s R f => match c with
      | none => req (decide (ys.length ≤ 17179869184)) (H (s.newRoot d ⟨.sl _, .o m.inner, ys⟩ false (.al d [])) R f)
      | some c => if h : c.k = .sl _ then (if c.m = .o m.inner then req (decide ((castT h c.x : List (T _)).length + ys.length ≤ 17179869184)) (H (s.newRoot d ⟨.sl _, c.m, (castT h c.x : List (T _)) ++ ys⟩ false (.al d [])) R f) else none) else none) fun c s => ?_
    cases c with
    | none => exact DetF.req _ (hH _)
    | some c => exact DetF.dite (fun h => DetF.ite _ (DetF.req _ (hH _)) DetF.none) DetF.none
  cases b
  case nil0 =>
    refine DetF.cond _ DetF.none ?_
    have h2 : ∀ a, DetF (fun R f => dstOf s a fun c s => match c with
        | some c => if c.k = .sl k0 then cond c.m.owns (H (s.newRoot d c false (.al d [])) R f) none else none
        | none => none) := by
      intro a
      refine det_dstOf (H := fun c s R f => match c with
        | some c => if c.k = .sl k0 then cond c.m.owns (H (s.newRoot d c false (.al d [])) R f) none else none
        | none => none) fun c s => ?_
      cases c with
      | none => exact DetF.none
      | some c => exact DetF.ite _ (DetF.cond _ (hH _) DetF.none) DetF.none
    cases a <;> first | exact hH _ | exact h2 _
  all_goals exact h _

theorem det_argsOf : ∀ {ins : List Pm} {cs : List Pc} {s : St} {H : Ps ins → St → Plc → (R : Type) → (α → Option R) → Option R}, (∀ x s pl, DetF (H x s pl)) → DetF (fun R f => argsOf ins s cs fun x s pl => H x s pl R f)
  | [], [], s, H, hH => hH _ _ _
  | [], _ :: _, s, H, hH => DetF.none
  | .val k :: ps, [], s, H, hH => DetF.none
  | .mov k m :: ps, [], s, H, hH => DetF.none
  | .mptr k m :: ps, [], s, H, hH => DetF.none
  | .chg k m :: ps, [], s, H, hH => DetF.none
  | .fn i o :: ps, [], s, H, hH => DetF.none
  | .val k :: ps, c :: cs, s, H, hH => by
    simp only [argsOf]
    exact DetF.bind (det_readK s c k) (H := fun x R f => argsOf ps s cs fun xs s pl => H (x, xs) s pl R f) fun x => det_argsOf fun xs s pl => hH _ _ _
  | .mov k m :: ps, c :: cs, s, H, hH => by
    simp only [argsOf]
    exact det_take2 fun ct s => DetF.dite (fun h => DetF.ite _ (det_argsOf (H := fun xs s pl => H (h ▸ ct.x, xs) s pl) fun xs s pl => hH _ _ _) DetF.none) DetF.none
  | .mptr k m :: ps, c :: cs, s, H, hH => by
    simp only [argsOf]
    cases c <;> first | exact DetF.none | skip
    rename_i t p
    dsimp only
    cases s.root t with
    | none => exact DetF.none
    | some r =>
    refine DetF.bind (det_at _ _ _ _) fun ct => ?_
    exact DetF.dite (fun h => DetF.ite _ (det_argsOf (H := fun xs s pl => H (h ▸ ct.x, xs) s ((_, _, _) :: pl)) fun xs s pl => hH _ _ _) DetF.none) DetF.none
  | .chg k m :: ps, c :: cs, s, H, hH => by
    simp only [argsOf]
    cases c <;> first | exact DetF.none | skip
    rename_i t p
    dsimp only
    cases s.root t with
    | none => exact DetF.none
    | some r =>
    refine DetF.bind (det_at _ _ _ _) fun ct => ?_
    exact DetF.dite (fun h => DetF.ite _ (det_argsOf (H := fun xs s pl => H (h ▸ ct.x, xs) s ((_, _, _) :: pl)) fun xs s pl => hH _ _ _) DetF.none) DetF.none
  | .fn i o :: ps, c :: cs, s, H, hH => by
    simp only [argsOf]
    cases c <;> first | exact DetF.none | skip
    exact DetF.dite (fun h => det_argsOf (H := fun xs s pl => H ((h.1 ▸ h.2 ▸ _), xs) s pl) fun xs s pl => hH _ _ _) DetF.none

theorem det_backAt : ∀ {outs : List (K × Mk)} {x : Rs outs} {pl : Plc} {s : St} {H : St → (R : Type) → (α → Option R) → Option R}, (∀ s, DetF (H s)) → DetF (fun R f => backAt outs x pl s fun s => H s R f)
  | [], x, [], s, H, hH => hH _
  | [], x, _ :: _, s, H, hH => DetF.none
  | _ :: _, x, [], s, H, hH => DetF.none
  | (k, m) :: os, x, (t, p, b) :: pl, s, H, hH => by
    simp only [backAt]
    cases s.root t with
    | none => exact DetF.none
    | some r => exact det_set2 fun m y => det_backAt hH

theorem det_giveAll {s : St} {d : Option Nat} {rs : List (K × Mk)} {x : Rs rs} {H : St → (R : Type) → (α → Option R) → Option R} (hH : ∀ s, DetF (H s)) : DetF (fun R f => giveAll s d rs x fun s => H s R f) := by
  unfold giveAll
  cases d with
  | none => exact hH _
  | some d =>
    match rs, x with
    | [r], x => exact hH _
    | [], x => exact DetF.cond _ (hH _) (hH _)
    | _ :: _ :: _, x => exact DetF.cond _ (hH _) (hH _)

theorem det_callSig {s : St} {d : Option Nat} {sg : Sig} {cs : List Pc} {H : St → (R : Type) → (α → Option R) → Option R} (hH : ∀ s, DetF (H s)) : DetF (fun R f => callSig s d sg cs fun s => H s R f) := by
  unfold callSig
  refine DetF.cond _ ?_ DetF.none
  exact det_argsOf fun xs s pl => DetF.bnd fun r => det_backAt fun s => det_giveAll hH

theorem det_readTs : ∀ {ks : List K} {cs : List Pc} {s : St} {H : Ts ks → (R : Type) → (α → Option R) → Option R}, (∀ x, DetF (H x)) → DetF (fun R f => readTs ks s cs fun x => H x R f)
  | [], [], s, H, hH => hH _
  | [], _ :: _, s, H, hH => DetF.none
  | k :: ks, [], s, H, hH => DetF.none
  | k :: ks, c :: cs, s, H, hH => by
    simp only [readTs]
    exact DetF.bind (det_readK s c k) (H := fun x R f => readTs ks s cs fun xs => H (x, xs) R f) fun x => det_readTs fun xs => hH _

theorem det_readPs : ∀ {ins : List Pm} {cs : List Pc} {s : St} {H : Ps ins → (R : Type) → (α → Option R) → Option R}, (∀ x, DetF (H x)) → DetF (fun R f => readPs ins s cs fun x => H x R f)
  | [], [], s, H, hH => hH _
  | [], _ :: _, s, H, hH => DetF.none
  | .val k :: ps, [], s, H, hH => DetF.none
  | .mov k m :: ps, _, s, H, hH => by simp only [readPs]; exact DetF.none
  | .mptr k m :: ps, _, s, H, hH => by simp only [readPs]; exact DetF.none
  | .chg k m :: ps, _, s, H, hH => by simp only [readPs]; exact DetF.none
  | .fn i o :: ps, [], s, H, hH => DetF.none
  | .val k :: ps, c :: cs, s, H, hH => by
    simp only [readPs]
    exact DetF.bind (det_readK s c k) (H := fun x R f => readPs ps s cs fun xs => H (x, xs) R f) fun x => det_readPs fun xs => hH _
  | .fn i o :: ps, c :: cs, s, H, hH => by
    simp only [readPs]
    cases c <;> first | exact DetF.none | skip
    exact DetF.dite (fun h => det_readPs (H := fun xs => H ((h.1 ▸ h.2 ▸ _), xs)) fun xs => hH _) DetF.none

end
end Go.Proofs.Ytpegmiofhfmepaa.Ev

/- Operations: they come to one state, or to none. -/
set_option linter.all false
namespace Go.Proofs.Ytpegmiofhfmepaa.Ev
section
variable {α : Type}
theorem det_lenOf {str : Bool} {s : St} {c : Pc} {H : Int → (R : Type) → (α → Option R) → Option R} (hH : ∀ x, DetF (H x)) : DetF (fun R f => lenOf str s c fun x => H x R f) := by
  have h : ∀ c, DetF (fun R f => cond str none (s.read c fun ct => match ct with
    | ⟨.sl _, _, xs⟩ => H xs.length R f
    | _ => none)) := fun c => DetF.cond _ DetF.none (DetF.bind (det_read s c) (H := fun ct R f => match ct with
    | ⟨.sl _, _, xs⟩ => H xs.length R f
    | _ => none) fun ct => by
      obtain ⟨k, m, x⟩ := ct
      cases k <;> first | exact DetF.none | exact hH _)
  unfold lenOf
  cases c with
  | v k x => cases k <;> first | exact DetF.cond _ (hH _) DetF.none | exact h _
  | nil0 => exact DetF.cond _ DetF.none (hH _)
  | vw => exact DetF.cond _ DetF.none (hH _)
  | _ => exact h _

theorem det_minmax {mx : Bool} {a b : Pc} {H : Pc → (R : Type) → (α → Option R) → Option R} (hH : ∀ x, DetF (H x)) : DetF (fun R f => minmax mx a b fun x => H x R f) := by
  unfold minmax
  cases a with
  | v k x =>
    cases k with
    | int k =>
      cases b with
      | v k' y => cases k' <;> first | exact DetF.none | exact DetF.ite _ (hH _) DetF.none
      | _ => exact DetF.none
    | str =>
      cases b with
      | v k' y => cases k' <;> first | exact DetF.none | exact hH _
      | _ => exact DetF.none
    | _ => exact DetF.none
  | _ => exact DetF.none

theorem det_minmaxs {mx : Bool} : ∀ {r : List Pc} {a : Pc} {H : Pc → (R : Type) → (α → Option R) → Option R}, (∀ x, DetF (H x)) → DetF (fun R f => minmaxs mx a r fun x => H x R f)
  | [], a, H, hH => hH _
  | b :: r, a, H, hH => by
    simp only [minmaxs]
    exact det_minmax fun c => det_minmaxs hH

theorem det_intBin {op : BinOp} {k : IntKind} {a b : Int} {H : Pc → (R : Type) → (α → Option R) → Option R} (hH : ∀ x, DetF (H x)) : DetF (fun R f => intBin op k a b fun x => H x R f) := by
  cases op <;> simp only [intBin] <;> first | exact DetF.none | exact hH _ | exact DetF.req _ (hH _)

theorem det_strBin {op : BinOp} {a b : ByteArray} {H : Pc → (R : Type) → (α → Option R) → Option R} (hH : ∀ x, DetF (H x)) : DetF (fun R f => strBin op a b fun x => H x R f) := by
  cases op <;> simp only [strBin] <;> first | exact DetF.none | exact hH _ | exact DetF.catO fun c => hH _

theorem det_bin {ty : Option K} {op : BinOp} {x y : Pc} {H : Pc → (R : Type) → (α → Option R) → Option R} (hH : ∀ x, DetF (H x)) : DetF (fun R f => bin ty op x y fun x => H x R f) := by
  cases x with
  | v k a =>
    cases y with
    | v k' b =>
      cases k <;> cases k' <;> simp only [bin] <;> first
        | (refine DetF.dite (fun h => DetF.cond _ ?_ DetF.none) DetF.none; cases op <;> first | exact DetF.none | exact hH _)
        | (refine DetF.ite _ ?_ DetF.none; cases op <;> first | exact DetF.none | exact hH _)
        | exact det_strBin hH
        | skip
      cases op <;> dsimp only <;> first | exact DetF.req _ (hH _) | exact DetF.ite _ (det_intBin hH) DetF.none
    | _ => cases k <;> exact DetF.none
  | _ => exact DetF.none

theorem det_un {op : UnOp} {x : Pc} {H : Pc → (R : Type) → (α → Option R) → Option R} (hH : ∀ x, DetF (H x)) : DetF (fun R f => un op x fun x => H x R f) := by
  cases x with
  | v k a => cases k <;> cases op <;> first | exact DetF.none | exact hH _
  | _ => cases op <;> exact DetF.none

theorem det_bnds {n : Nat} {lo hi : Option Int} {H : Nat → Nat → (R : Type) → (α → Option R) → Option R} (hH : ∀ x y, DetF (H x y)) : DetF (fun R f => bnds n lo hi fun x y => H x y R f) := by
  cases lo <;> cases hi <;> simp only [bnds] <;> first | exact hH _ _ | exact DetF.req _ (hH _ _)
end

theorem det_evQ (E : Env) (s : St) (o : Oper) : DetF (fun R (f : PV → Option R) => evQ E s o f) := by
  unfold evQ
  cases o.op <;> (try dsimp only) <;> first | exact DetF.none | skip
  case move x => cases x <;> exact DetF.pure _
  case assign x => cases x <;> exact DetF.pure _
  case pick c a b =>
    cases asBool (s.opd c) with
    | none => exact DetF.none
    | some t => exact DetF.cond _ (DetF.pure _) (DetF.pure _)
  case buildSlice t n ps =>
    cases E.ty t with
    | none => exact DetF.none
    | some k => cases k <;> first | exact DetF.none | exact DetF.cond _ (DetF.pure _) DetF.none
  case load t a =>
    cases E.ty t with
    | none => exact DetF.none
    | some k =>
      dsimp only
      cases s.opd a <;> first | exact DetF.none | exact DetF.ite _ (DetF.pure _) DetF.none | skip
      rename_i u p
      dsimp only
      cases s.root u with
      | none => exact DetF.none
      | some r => exact DetF.bind (det_at _ _ _ _) fun c => DetF.ite _ (DetF.cond _ (DetF.pure _) (DetF.pure _)) DetF.none
  case nilCheck x => cases s.opd x <;> first | exact DetF.none | exact DetF.pure _
  case binOp => exact det_bin fun c => DetF.pure _
  case unOp => exact det_un fun c => DetF.pure _
  case convert a b x =>
    cases E.ty a with
    | none => exact DetF.none
    | some ka =>
    cases E.ty b with
    | none => cases ka with
      | sl e => cases e with
        | int k => cases k <;> exact DetF.none
        | _ => exact DetF.none
      | _ => exact DetF.none
    | some kb =>
    have hr : ∀ c, DetF (fun R (f : PV → Option R) => s.readK c (.sl (.int .u8)) fun l => f (.one (.v .str (strOf l)))) := fun c => DetF.bind (det_readK s c _) fun l => DetF.pure _
    cases ka with
    | int k =>
      cases kb <;> first | exact DetF.none | skip
      dsimp only
      cases s.opd x with
      | v k x => cases k <;> first | exact DetF.none | exact DetF.pure _
      | _ => exact DetF.none
    | sl e =>
      cases e with
      | int k =>
        cases k <;> cases kb <;> first | exact DetF.none | skip
        dsimp only
        cases s.opd x <;> first | exact DetF.pure _ | exact hr _
      | _ => cases kb <;> exact DetF.none
    | _ => cases kb <;> exact DetF.none
  case slice t x lo hi mx =>
    cases optInt s lo with
    | none => exact DetF.none
    | some lo =>
    cases optInt s hi with
    | none => exact DetF.none
    | some hi =>
    cases optInt s mx with
    | none => exact DetF.none
    | some mx =>
    cases mx with
    | some _ => exact DetF.none
    | none =>
    dsimp only
    cases E.ty t with
    | none => exact DetF.none
    | some k =>
    cases k with
    | str =>
      cases s.opd x with
      | v k b => cases k <;> first | exact DetF.none | exact det_bnds fun l h => DetF.pure _
      | _ => exact DetF.none
    | sl k0 =>
      cases s.opd x with
      | v k xs => cases k <;> first | exact DetF.none | exact DetF.ite _ (det_bnds fun l h => DetF.pure _) DetF.none
      | nil0 => exact det_bnds fun l h => DetF.pure _
      | al u p =>
        refine DetF.bind (det_read s (.al u p)) fun c => ?_
        obtain ⟨k, m, xs⟩ := c
        cases k <;> first | exact DetF.none | exact DetF.ite _ (det_bnds fun l h => DetF.pure _) DetF.none
      | vw u p l0 n =>
        refine DetF.bind (det_read s (.vw u p l0 n)) fun c => ?_
        obtain ⟨k, m, xs⟩ := c
        cases k <;> first | exact DetF.none | exact DetF.ite _ (det_bnds fun l h => DetF.pure _) DetF.none
      | _ => exact DetF.none
    | _ => cases s.opd x <;> exact DetF.none
  case fieldAddr t x f =>
    cases E.ty t with
    | none => exact DetF.none
    | some k =>
    dsimp only
    cases k.fld f with
    | none => exact DetF.none
    | some kf =>
    dsimp only
    refine DetF.cond _ DetF.none ?_
    cases s.opd x <;> first | exact DetF.none | skip
    · rename_i u p
      dsimp only
      cases s.root u with
      | none => exact DetF.none
      | some r => exact DetF.bind (det_at _ _ _ _) fun c => DetF.ite _ (DetF.pure _) DetF.none
    · exact DetF.ite _ (DetF.bind (det_at _ _ _ _) fun c => DetF.pure _) DetF.none
  case field t x f =>
    cases E.ty t with
    | none => exact DetF.none
    | some k =>
    dsimp only
    cases s.opd x <;> first | exact DetF.none | skip
    · exact DetF.ite _ (DetF.bind (det_at _ _ _ _) fun c => DetF.pure _) DetF.none
    · rename_i u p
      dsimp only
      cases s.root u with
      | none => exact DetF.none
      | some r => exact DetF.bind (det_at _ _ _ _) fun c => DetF.ite _ (DetF.bind (det_at _ _ _ _) fun c => DetF.cond _ (DetF.pure _) (DetF.pure _)) DetF.none
  case indexAddr t x i =>
    cases E.ty t with
    | none => exact DetF.none
    | some k =>
    cases k <;> first | exact DetF.none | skip
    rename_i k0
    cases asInt (s.opd i) with
    | none => exact DetF.none
    | some i =>
    dsimp only
    cases s.opd x with
    | v k xs => cases k <;> first | exact DetF.none | exact DetF.ite _ (DetF.getO fun x => DetF.pure _) DetF.none
    | al u p =>
      refine DetF.bind (det_read s (.al u p)) fun c => ?_
      obtain ⟨k, m, xs⟩ := c
      cases k <;> first | exact DetF.none | exact DetF.ite _ (DetF.getO fun x => DetF.pure _) DetF.none
    | vw u p l0 n =>
      refine DetF.bind (det_read s (.vw u p l0 n)) fun c => ?_
      obtain ⟨k, m, xs⟩ := c
      cases k <;> first | exact DetF.none | exact DetF.ite _ (DetF.getO fun x => DetF.pure _) DetF.none
    | _ => exact DetF.none
  case index t x i =>
    cases E.ty t with
    | none => exact DetF.none
    | some k =>
    cases k <;> first | exact DetF.none | skip
    cases s.opd x with
    | v k b =>
      cases k <;> first | exact DetF.none | skip
      cases asInt (s.opd i) with
      | none => exact DetF.none
      | some i => exact DetF.getB fun n => DetF.pure _
    | _ => exact DetF.none
  case extract x i =>
    cases x <;> first | exact DetF.none | skip
    rename_i t
    dsimp only
    cases s.slot t with
    | one c => exact DetF.none
    | tup cs =>
      dsimp only
      cases cs[i]? with
      | none => exact DetF.none
      | some c => exact DetF.pure _
  case call c =>
    cases c.callee with
    | invoke _ _ => exact DetF.none
    | builtin b =>
      dsimp only
      cases b <;> first | exact DetF.none | skip
      all_goals
        rcases opds s c.args with _ | ⟨x, _ | ⟨y, r⟩⟩ <;> first
          | exact DetF.none
          | exact det_minmaxs fun c => DetF.pure _
          | skip
      cases lenTy E c.argTypes with
      | none => exact DetF.none
      | some str => exact det_lenOf fun n => DetF.pure _
    | value f =>
      have hv : ∀ f, DetF (fun R (put : PV → Option R) => match s.opd f with
        | .fv i [k] g => cond (k.flat || noTags (opds s c.args)) (readTs i s (opds s c.args) fun xs => bnd (g xs) fun r => put (.one (.v k r.1))) none
        | _ => none) := fun f => by
          cases s.opd f with
          | fv i o g =>
            rcases o with _ | ⟨k, _ | ⟨k2, o⟩⟩ <;> first | exact DetF.none | skip
            exact DetF.cond _ (det_readTs fun xs => DetF.bnd fun r => DetF.pure _) DetF.none
          | _ => exact DetF.none
      cases f with
      | func f =>
        dsimp only
        cases E.fns f with
        | none => exact DetF.none
        | some sg => exact DetF.cond _ (det_readPs fun xs => DetF.bnd fun r => DetF.pure _) DetF.none
      | tmp t => exact hv (.tmp t)
      | const v => exact hv (.const v)
      | global g => exact hv (.global g)

end Go.Proofs.Ytpegmiofhfmepaa.Ev

/- A quiet operation looks at its operands' words and at the roots that they name, and at nothing else. -/
set_option linter.all false
namespace Go.Proofs.Ytpegmiofhfmepaa.Ev
section
variable {R : Type} {s s' : St}

theorem read_congr {c : Pc} (h : ∀ t, tagOf c = some t → s'.root t = s.root t) (f : Ct → Option R) : s'.read c f = s.read c f := by
  cases c <;> simp only [St.read]
  · rw [h _ rfl]
  · rw [h _ rfl]

theorem readK_congr {c : Pc} {k : K} (h : ∀ t, tagOf c = some t → s'.root t = s.root t) (f : T k → Option R) : s'.readK c k f = s.readK c k f := by
  cases c <;> simp only [St.readK] <;> first | rfl | exact read_congr h _

theorem readTs_congr : ∀ {ks : List K} {cs : List Pc} (h : ∀ c ∈ cs, ∀ t, tagOf c = some t → s'.root t = s.root t) (f : Ts ks → Option R), readTs ks s' cs f = readTs ks s cs f
  | [], [], h, f => rfl
  | [], _ :: _, h, f => rfl
  | k :: ks, [], h, f => rfl
  | k :: ks, c :: cs, h, f => by
    simp only [readTs]
    rw [readK_congr (h c List.mem_cons_self)]
    congr 1
    funext x
    exact readTs_congr (fun c hc => h c (List.mem_cons_of_mem _ hc)) _

theorem readPs_congr : ∀ {ins : List Pm} {cs : List Pc} (h : ∀ c ∈ cs, ∀ t, tagOf c = some t → s'.root t = s.root t) (f : Ps ins → Option R), readPs ins s' cs f = readPs ins s cs f
  | [], [], h, f => rfl
  | [], _ :: _, h, f => rfl
  | .val k :: ps, [], h, f => rfl
  | .mov _ _ :: _, _, h, f => by simp only [readPs]
  | .mptr _ _ :: _, _, h, f => by simp only [readPs]
  | .chg _ _ :: _, _, h, f => by simp only [readPs]
  | .fn _ _ :: _, [], h, f => rfl
  | .val k :: ps, c :: cs, h, f => by
    simp only [readPs]
    rw [readK_congr (h c List.mem_cons_self)]
    congr 1
    funext x
    exact readPs_congr (fun c hc => h c (List.mem_cons_of_mem _ hc)) _
  | .fn i o :: ps, c :: cs, h, f => by
    simp only [readPs]
    cases c <;> first | rfl | skip
    dsimp only
    split
    · exact readPs_congr (fun c hc => h c (List.mem_cons_of_mem _ hc)) _
    · rfl

theorem lenOf_congr {str : Bool} {c : Pc} (h : ∀ t, tagOf c = some t → s'.root t = s.root t) (f : Int → Option R) : lenOf str s' c f = lenOf str s c f := by
  unfold lenOf
  cases c with
  | v k x => cases k <;> first | rfl | simp only [read_congr h]
  | nil0 => rfl
  | vw => rfl
  | _ => simp only [read_congr h]

theorem opds_congr {xs : Array Operand} (h : ∀ x ∈ xs, s'.opd x = s.opd x) : opds s' xs = opds s xs := by
  unfold opds
  exact List.map_congr_left fun x hx => h x (by simpa using hx)
end

/-- the two states have the same words for an operation's operands, and the same roots where these words point -/
structure Same (o : Oper) (s s' : St) : Prop where
  slot : ∀ t, Operand.tmp t ∈ o.op.operands → s'.slot t = s.slot t
  root : ∀ x ∈ o.op.operands, ∀ t ∈ opdTags s x, s'.root t = s.root t

theorem Same.opd {o : Oper} {s s' : St} (h : Same o s s') {x : Operand} (hx : x ∈ o.op.operands) : s'.opd x = s.opd x := by
  cases x with
  | tmp t => simp only [St.opd, h.slot t hx]
  | _ => rfl

theorem tags_of_opd {s : St} {x : Operand} {t : Nat} (h : tagOf (s.opd x) = some t) : t ∈ opdTags s x := by
  cases x with
  | tmp n =>
    simp only [St.opd] at h
    simp only [opdTags, pvTags]
    cases hs : s.slot n with
    | one c => rw [hs] at h; simp only at h; simp [h]
    | tup cs => rw [hs] at h; cases h
  | const v => simp only [St.opd] at h; cases v <;> simp only [constPc] at h <;> first | (cases h; done) | skip
               rename_i q n c
               cases q <;> cases n <;> cases c <;> cases h
  | _ => cases h

theorem Same.tag {o : Oper} {s s' : St} (h : Same o s s') {x : Operand} (hx : x ∈ o.op.operands) {t : Nat} (ht : tagOf (s.opd x) = some t) : s'.root t = s.root t := h.root x hx t (tags_of_opd ht)

theorem optInt_congr {o : Oper} {s s' : St} (h : Same o s s') {x : Option Operand} (hx : ∀ y, x = some y → y ∈ o.op.operands) : optInt s' x = optInt s x := by
  cases x with
  | none => rfl
  | some y => simp only [optInt, h.opd (hx y rfl)]

theorem quiet_congr {E : Env} {o : Oper} {s s' : St} (h : Same o s s') : quiet E s' o = quiet E s o := by
  obtain ⟨dst, op, type, pos, after, guard⟩ := o
  unfold quiet
  cases op <;> dsimp only <;> first | rfl | skip
  rename_i x
  have hx : x ∈ (Op.assign x).operands := by simp [Op.operands]
  cases x with
  | tmp t => simp only [h.slot t hx]
  | _ => simp only [h.opd hx]

theorem evQ_congr {E : Env} {o : Oper} {s s' : St} (h : Same o s s') {R : Type} (f : PV → Option R) : evQ E s' o f = evQ E s o f := by
  obtain ⟨dst, op, type, pos, after, guard⟩ := o
  unfold evQ
  cases op <;> dsimp only <;> first | rfl | skip
  case move x =>
    have hx : x ∈ (Op.move x).operands := by simp [Op.operands]
    cases x with
    | tmp t => simp only [h.slot t hx]
    | _ => simp only [h.opd hx]
  case assign x =>
    have hx : x ∈ (Op.assign x).operands := by simp [Op.operands]
    cases x with
    | tmp t => simp only [h.slot t hx]
    | _ => simp only [h.opd hx]
  case pick c a b =>
    rw [h.opd (x := c) (by simp [Op.operands]), h.opd (x := a) (by simp [Op.operands]), h.opd (x := b) (by simp [Op.operands])]
  case load t a =>
    have ha : a ∈ (Op.load t a).operands := by simp [Op.operands]
    rw [h.opd ha]
    have hr := fun u => h.tag ha (t := u)
    cases E.ty t with
    | none => rfl
    | some k =>
      dsimp only
      cases hc : s.opd a <;> first | rfl | skip
      rename_i u p
      rw [hc] at hr
      dsimp only
      rw [hr u rfl]
  case nilCheck x => rw [h.opd (x := x) (by simp [Op.operands])]
  case binOp op t x y sh => rw [h.opd (x := x) (by simp [Op.operands]), h.opd (x := y) (by simp [Op.operands])]
  case unOp op t x => rw [h.opd (x := x) (by simp [Op.operands])]
  case convert a b x =>
    have hx : x ∈ (Op.convert a b x).operands := by simp [Op.operands]
    rw [h.opd hx]
    have hr : ∀ (c : Pc), s.opd x = c → ∀ (g : T (.sl (.int .u8)) → Option R), s'.readK c (.sl (.int .u8)) g = s.readK c (.sl (.int .u8)) g := fun c e g => readK_congr (fun t ht => h.tag hx (by rw [e]; exact ht)) g
    cases E.ty a with
    | none => rfl
    | some ka =>
    cases E.ty b with
    | none => cases ka with
      | sl e => cases e with
        | int k => cases k <;> rfl
        | _ => rfl
      | _ => rfl
    | some kb =>
    cases ka with
    | sl e =>
      cases e with
      | int k =>
        cases k <;> cases kb <;> first | rfl | skip
        dsimp only
        cases hc : s.opd x <;> first | rfl | exact hr _ hc _
      | _ => cases kb <;> rfl
    | _ => cases kb <;> rfl
  case slice t x lo hi mx =>
    have hx : x ∈ (Op.slice t x lo hi mx).operands := by simp [Op.operands]
    rw [optInt_congr h (x := lo) (by rintro y rfl; simp [Op.operands]), optInt_congr h (x := hi) (by rintro y rfl; simp [Op.operands]), optInt_congr h (x := mx) (by rintro y rfl; simp [Op.operands]), h.opd hx]
    have hr : ∀ (c : Pc), s.opd x = c → ∀ (g : Ct → Option R), s'.read c g = s.read c g := fun c e g => read_congr (fun t ht => h.tag hx (by rw [e]; exact ht)) g
    cases optInt s lo with
    | none => rfl
    | some lo =>
    cases optInt s hi with
    | none => rfl
    | some hi =>
    cases optInt s mx with
    | none => rfl
    | some mx =>
    cases mx with
    | some _ => rfl
    | none =>
    dsimp only
    cases E.ty t with
    | none => rfl
    | some k =>
    cases k with
    | sl k0 =>
      cases hc : s.opd x with
      | v k y => cases k <;> rfl
      | al u p => exact hr _ hc _
      | vw u p l0 n => exact hr _ hc _
      | _ => rfl
    | _ =>
      cases s.opd x with
      | v k y => cases k <;> rfl
      | _ => rfl
  case fieldAddr t x f =>
    have hx : x ∈ (Op.fieldAddr t x f).operands := by simp [Op.operands]
    rw [h.opd hx]
    have hr := fun u => h.tag hx (t := u)
    cases E.ty t with
    | none => rfl
    | some k =>
    dsimp only
    cases k.fld f with
    | none => rfl
    | some kf =>
    dsimp only
    cases hc : s.opd x <;> first | rfl | skip
    rename_i u p
    rw [hc] at hr
    dsimp only
    rw [hr u rfl]
  case field t x f =>
    have hx : x ∈ (Op.field t x f).operands := by simp [Op.operands]
    rw [h.opd hx]
    have hr := fun u => h.tag hx (t := u)
    cases E.ty t with
    | none => rfl
    | some k =>
    dsimp only
    cases hc : s.opd x <;> first | rfl | skip
    rename_i u p
    rw [hc] at hr
    dsimp only
    rw [hr u rfl]
  case indexAddr t x i =>
    have hx : x ∈ (Op.indexAddr t x i).operands := by simp [Op.operands]
    rw [h.opd hx, h.opd (x := i) (by simp [Op.operands])]
    have hr : ∀ (c : Pc), s.opd x = c → ∀ (g : Ct → Option R), s'.read c g = s.read c g := fun c e g => read_congr (fun t ht => h.tag hx (by rw [e]; exact ht)) g
    cases E.ty t with
    | none => rfl
    | some k =>
    cases k <;> first | rfl | skip
    cases asInt (s.opd i) with
    | none => rfl
    | some i =>
    dsimp only
    cases hc : s.opd x with
    | v k y => cases k <;> rfl
    | al u p => exact hr _ hc _
    | vw u p l0 n => exact hr _ hc _
    | _ => rfl
  case index t x i => rw [h.opd (x := x) (by simp [Op.operands]), h.opd (x := i) (by simp [Op.operands])]
  case extract x i =>
    have hx : x ∈ (Op.extract x i).operands := by simp [Op.operands]
    cases x with
    | tmp t => simp only [h.slot t hx]
    | _ => rfl
  case call c =>
    have hargs : ∀ x ∈ c.args, x ∈ (Op.call c).operands := fun x hx => by simp [Op.operands, Call.operands, hx]
    have ho : opds s' c.args = opds s c.args := opds_congr fun x hx => h.opd (hargs x hx)
    have hr : ∀ p ∈ opds s c.args, ∀ t, tagOf p = some t → s'.root t = s.root t := fun p hp t ht => by
      simp only [opds, List.mem_map] at hp
      obtain ⟨x, hx, rfl⟩ := hp
      exact h.tag (hargs x (by simpa using hx)) ht
    rw [ho]
    cases hcal : c.callee with
    | invoke _ _ => rfl
    | builtin b =>
      dsimp only
      cases b <;> first | rfl | skip
      all_goals
        generalize hcs : opds s c.args = cs at hr
        rcases cs with _ | ⟨x, _ | ⟨y, r⟩⟩ <;> first | rfl | skip
      dsimp only
      cases lenTy E c.argTypes with
      | none => rfl
      | some str => exact lenOf_congr (hr x List.mem_cons_self) _
    | value f =>
      have hf : f ∈ (Op.call c).operands := by simp [Op.operands, Call.operands, hcal]
      cases f with
      | func f =>
        dsimp only
        cases E.fns f with
        | none => rfl
        | some sg => simp only [readPs_congr hr]
      | tmp n =>
        dsimp only
        rw [h.opd hf]
        cases s.opd (.tmp n) with
        | fv i o g =>
          rcases o with _ | ⟨k, _ | ⟨k2, o⟩⟩ <;> first | rfl | skip
          simp only [readTs_congr hr]
        | _ => rfl
      | const v =>
        dsimp only
        rw [h.opd hf]
        cases s.opd (.const v) with
        | fv i o g =>
          rcases o with _ | ⟨k, _ | ⟨k2, o⟩⟩ <;> first | rfl | skip
          simp only [readTs_congr hr]
        | _ => rfl
      | global n => rfl

end Go.Proofs.Ytpegmiofhfmepaa.Ev

/- An operation that changes roots acts on all words of the state alike, and only on those that name its own roots. -/
set_option linter.all false
namespace Go.Proofs.Ytpegmiofhfmepaa.Ev

/-- words that do not name a root of T stay -/
def Fix (K : Pc → Pc) (U : Nat → Prop) : Prop := (∀ c, (∀ t, tagOf c = some t → ¬ U t) → K c = c) ∧ ∀ c, K c = c ∨ K c = .bad

def FrK {α : Type} (F : St → (R : Type) → (α → St → Option R) → Option R) (rt : Nat → Option Rt) (U : Nat → Prop) : Prop :=
  (∃ (x : α) (K : Pc → Pc) (rt2 : Nat → Option Rt), Fix K U ∧ (∀ t, ¬ U t → rt2 t = rt t) ∧ ∀ σ R f, F ⟨σ, rt⟩ R f = f x ⟨fun n => (σ n).map K, rt2⟩) ∨ ∀ σ R f, F ⟨σ, rt⟩ R f = none

/-- as 'FrK', with a word laid into slot d -/
def FrS (F : St → (R : Type) → (St → Option R) → Option R) (rt : Nat → Option Rt) (d : Option Nat) (U : Nat → Prop) : Prop :=
  (∃ (pv : PV) (K : Pc → Pc) (rt2 : Nat → Option Rt), Fix K U ∧ (∀ t, ¬ U t → rt2 t = rt t) ∧ ∀ σ R f, F ⟨σ, rt⟩ R f = f ⟨fun n => if d = some n then pv else (σ n).map K, rt2⟩) ∨ ∀ σ R f, F ⟨σ, rt⟩ R f = none

theorem PV.map_map (f g : Pc → Pc) (pv : PV) : (pv.map f).map g = pv.map fun c => g (f c) := by
  cases pv with
  | one c => rfl
  | tup cs => simp [PV.map, List.map_map, Function.comp_def]
theorem PV.map_id (pv : PV) : pv.map (fun c => c) = pv := by
  cases pv with
  | one c => rfl
  | tup cs => simp [PV.map]

theorem PV.map_fix {K : Pc → Pc} {U : Nat → Prop} (h : Fix K U) {pv : PV} (hp : ∀ t ∈ pvTags pv, ¬ U t) : pv.map K = pv := by
  cases pv with
  | one c => simp only [PV.map, h.1 c fun t ht => hp t (by simp [pvTags, ht])]
  | tup cs =>
    simp only [PV.map]
    congr 1
    have : ∀ c ∈ cs, K c = c := fun c hc => h.1 c fun t ht => hp t (by simp only [pvTags, List.mem_filterMap]; exact ⟨c, hc, ht⟩)
    rw [List.map_congr_left this]
    simp

theorem PV.map_fine {K : Pc → Pc} {U : Nat → Prop} (h : Fix K U) {pv : PV} (hp : (pv.map K).fine = true) : pv.map K = pv := by
  have one : ∀ c, (match K c with | .bad => false | _ => true) = true → K c = c := fun c hc => by
    rcases h.2 c with h1 | h1
    · exact h1
    · rw [h1] at hc; cases hc
  cases pv with
  | one c =>
    simp only [PV.map] at hp ⊢
    congr 1
    apply one
    cases hk : K c <;> first | rfl | (rw [hk] at hp; cases hp)
  | tup cs =>
    simp only [PV.map] at hp ⊢
    congr 1
    simp only [PV.fine, List.all_map, List.all_eq_true, Function.comp_def] at hp
    rw [List.map_congr_left (g := fun c => c) fun c hc => one c (hp c hc)]
    simp

theorem fix_kill {t : Nat} {q : List Stp} {U : Nat → Prop} (h : U t) : Fix (Pc.kill t q) U := by
  refine ⟨fun c hc => ?_, fun c => ?_⟩
  · cases c <;> simp only [Pc.kill] <;> first
      | (rename_i u p; have : u ≠ t := fun e => hc u rfl (e ▸ h); rw [beq_ne this]; rfl)
      | (rename_i u p lo n; have : u ≠ t := fun e => hc u rfl (e ▸ h); rw [beq_ne this]; rfl)
  · cases c with
    | al u p => simp only [Pc.kill]; cases (Nat.beq u t && hit false q p) <;> simp
    | vw u p lo n => simp only [Pc.kill]; cases (Nat.beq u t && hit false q p) <;> simp
    | ptr u p => simp only [Pc.kill]; cases (Nat.beq u t && hit true q p) <;> simp
    | _ => exact .inl rfl
theorem fix_soft {t : Nat} {q : List Stp} {U : Nat → Prop} (h : U t) : Fix (Pc.soft t q) U := by
  refine ⟨fun c hc => ?_, fun c => ?_⟩
  · cases c <;> simp only [Pc.soft] <;> first
      | (rename_i u p; have : u ≠ t := fun e => hc u rfl (e ▸ h); rw [beq_ne this]; rfl)
      | (rename_i u p lo n; have : u ≠ t := fun e => hc u rfl (e ▸ h); rw [beq_ne this]; rfl)
  · cases c with
    | al u p => simp only [Pc.soft]; cases (Nat.beq u t && Ev.soft q p) <;> simp
    | vw u p lo n => simp only [Pc.soft]; cases (Nat.beq u t && Ev.soft q p) <;> simp
    | ptr u p => simp only [Pc.soft]; cases (Nat.beq u t && Ev.soft q p) <;> simp
    | _ => exact .inl rfl
theorem fix_drop {t : Nat} {U : Nat → Prop} (h : U t) : Fix (Pc.drop t) U := by
  refine ⟨fun c hc => ?_, fun c => ?_⟩
  · cases c <;> simp only [Pc.drop] <;> first
      | (rename_i u p; have : u ≠ t := fun e => hc u rfl (e ▸ h); rw [beq_ne this]; rfl)
      | (rename_i u p lo n; have : u ≠ t := fun e => hc u rfl (e ▸ h); rw [beq_ne this]; rfl)
  · cases c with
    | al u p => simp only [Pc.drop]; cases Nat.beq u t <;> simp
    | vw u p lo n => simp only [Pc.drop]; cases Nat.beq u t <;> simp
    | ptr u p => simp only [Pc.drop]; cases Nat.beq u t <;> simp
    | _ => exact .inl rfl
theorem Fix.comp {K K2 : Pc → Pc} {U : Nat → Prop} (h : Fix K U) (h2 : Fix K2 U) : Fix (fun c => K2 (K c)) U := by
  refine ⟨fun c hc => ?_, fun c => ?_⟩
  · show K2 (K c) = c
    rw [h.1 c hc, h2.1 c hc]
  · show K2 (K c) = c ∨ K2 (K c) = .bad
    rcases h.2 c with h1 | h1
    · rw [h1]; exact h2.2 c
    · rw [h1]
      rcases h2.2 .bad with h3 | h3 <;> exact .inr h3
theorem fix_id {U : Nat → Prop} : Fix (fun c => c) U := ⟨fun _ _ => rfl, fun _ => .inl rfl⟩

section
variable {α β : Type} {rt : Nat → Option Rt} {U : Nat → Prop}

theorem FrK.none : FrK (fun s (R : Type) (_ : α → St → Option R) => (Option.none : Option R)) rt U := .inr fun _ _ _ => rfl
theorem FrK.pure (x : α) : FrK (fun s R f => f x s) rt U := .inl ⟨x, fun c => c, rt, fix_id, fun _ _ => rfl, fun σ R f => by simp only [PV.map_id]⟩
theorem FrK.bind {F : St → (R : Type) → (α → St → Option R) → Option R} {G : α → St → (R : Type) → (β → St → Option R) → Option R} (hF : FrK F rt U) (hG : ∀ x rt2, (∀ t, ¬ U t → rt2 t = rt t) → FrK (G x) rt2 U) :
    FrK (fun s R f => F s R fun x s => G x s R f) rt U := by
  rcases hF with ⟨x, K, rt2, h1, h2, h3⟩ | h
  · rcases hG x rt2 h2 with ⟨y, K2, rt3, k1, k2, k3⟩ | h
    · refine .inl ⟨y, fun c => K2 (K c), rt3, h1.comp k1, fun t ht => (k2 t ht).trans (h2 t ht), fun σ R f => ?_⟩
      show F ⟨σ, rt⟩ R _ = _
      rw [h3, k3]
      simp only [PV.map_map]
    · exact .inr fun σ R f => (h3 σ R _).trans (h _ _ _)
  · exact .inr fun σ R f => h σ R _
theorem FrK.fin {F : St → (R : Type) → (α → St → Option R) → Option R} {G : α → St → (R : Type) → (St → Option R) → Option R} {d : Option Nat} (hF : FrK F rt U) (hG : ∀ x rt2, (∀ t, ¬ U t → rt2 t = rt t) → FrS (G x) rt2 d U) :
    FrS (fun s R f => F s R fun x s => G x s R f) rt d U := by
  rcases hF with ⟨x, K, rt2, h1, h2, h3⟩ | h
  · rcases hG x rt2 h2 with ⟨pv, K2, rt3, k1, k2, k3⟩ | h
    · refine .inl ⟨pv, fun c => K2 (K c), rt3, h1.comp k1, fun t ht => (k2 t ht).trans (h2 t ht), fun σ R f => ?_⟩
      show F ⟨σ, rt⟩ R _ = _
      rw [h3, k3]
      simp only [PV.map_map]
    · exact .inr fun σ R f => (h3 σ R _).trans (h _ _ _)
  · exact .inr fun σ R f => h σ R _
theorem FrS.none {d : Option Nat} : FrS (fun s (R : Type) (_ : St → Option R) => (Option.none : Option R)) rt d U := .inr fun _ _ _ => rfl
theorem FrS.cond {F : St → (R : Type) → (St → Option R) → Option R} {d : Option Nat} (b : Bool) (h : FrS F rt d U) : FrS (fun s R f => cond b (F s R f) Option.none) rt d U := by
  cases b
  · exact FrS.none
  · exact h
theorem FrS.ite {F : St → (R : Type) → (St → Option R) → Option R} {d : Option Nat} (c : Prop) [Decidable c] (h : FrS F rt d U) : FrS (fun s R f => if c then F s R f else Option.none) rt d U := by
  by_cases hc : c
  · simp only [hc, if_true]; exact h
  · simp only [hc, if_false]; exact FrS.none
theorem FrK.cond {F : St → (R : Type) → (α → St → Option R) → Option R} (b : Bool) (h : FrK F rt U) : FrK (fun s R f => cond b (F s R f) Option.none) rt U := by
  cases b
  · exact FrK.none
  · exact h
theorem FrK.dite {c : Prop} [Decidable c] {F : c → St → (R : Type) → (α → St → Option R) → Option R} (h : ∀ hc, FrK (F hc) rt U) : FrK (fun s R f => if hc : c then F hc s R f else Option.none) rt U := by
  by_cases hc : c
  · simp only [hc, dif_pos]; exact h hc
  · simp only [hc]; exact FrK.none
theorem FrK.ite {F : St → (R : Type) → (α → St → Option R) → Option R} (c : Prop) [Decidable c] (h : FrK F rt U) : FrK (fun s R f => if c then F s R f else Option.none) rt U := by
  by_cases hc : c
  · simp only [hc, if_true]; exact h
  · simp only [hc, if_false]; exact FrK.none
/-- what does not look at the state -/
theorem FrK.det {F : (R : Type) → (α → Option R) → Option R} (h : DetF F) : FrK (fun s R f => F R fun x => f x s) rt U := by
  rcases h with ⟨x, hx⟩ | hx
  · exact .inl ⟨x, fun c => c, rt, fix_id, fun _ _ => rfl, fun σ R f => by show F R _ = _; rw [hx]; simp only [PV.map_id]⟩
  · exact .inr fun σ R f => hx R _

/-- a change of one root -/
theorem FrK.set {t : Nat} {q : List Stp} {r : Option Rt} (x : α) (h : U t) : FrK (fun s R f => f x ((s.kill t q).setR t r)) rt U := by
  refine .inl ⟨x, Pc.kill t q, fun n => bif Nat.beq n t then r else rt n, fix_kill h, fun n hn => ?_, fun σ R f => rfl⟩
  have : n ≠ t := fun e => hn (e ▸ h)
  simp [beq_ne this]

theorem FrK.setS {t : Nat} {q : List Stp} {r : Option Rt} (x : α) (h : U t) : FrK (fun s R f => f x ((s.soft t q).setR t r)) rt U := by
  refine .inl ⟨x, Pc.soft t q, fun n => bif Nat.beq n t then r else rt n, fix_soft h, fun n hn => ?_, fun σ R f => rfl⟩
  have : n ≠ t := fun e => hn (e ▸ h)
  simp [beq_ne this]

theorem fr_take {c : Pc} (hU : ∀ t, tagOf c = some t → U t) : FrK (fun s R (f : Ct → St → Option R) => s.take c f) rt U := by
  cases c <;> simp only [St.take] <;> first | exact FrK.none | exact FrK.pure _ | skip
  rename_i t p
  have ht : U t := hU t rfl
  cases hr : rt t with
  | none => exact .inr fun σ R f => by simp only [hr]
  | some r =>
    cases hpm : (p.isEmpty && !r.mem) with
    | true =>
      have h : FrK (fun s R (f : Ct → St → Option R) => cond (p.isEmpty && !r.mem) (cond r.m.whole (f ⟨r.k, r.m, r.x⟩ (s.drop t)) none)
          (Ct.at r.k r.m r.x p fun c => cond (c.m.whole) (Ct.set r.k r.m r.x p ⟨c.k, cond c.m.clear c.m .d, c.x⟩ fun m x => f c ((s.kill t p).setR t (some { r with m := m, x := x }))) none)) rt U := by
        simp only [hpm, cond_true]
        refine FrK.cond _ (.inl ⟨_, Pc.drop t, fun n => bif Nat.beq n t then none else rt n, fix_drop ht, fun n hn => ?_, fun σ R f => rfl⟩)
        have : n ≠ t := fun e => hn (e ▸ ht)
        simp [beq_ne this]
      rcases h with ⟨x, K, rt2, h1, h2, h3⟩ | h
      · exact .inl ⟨x, K, rt2, h1, h2, fun σ R f => by simp only [hr]; exact h3 σ R f⟩
      · exact .inr fun σ R f => by simp only [hr]; exact h σ R f
    | false =>
      have h : FrK (fun s R (f : Ct → St → Option R) => cond (p.isEmpty && !r.mem) (cond r.m.whole (f ⟨r.k, r.m, r.x⟩ (s.drop t)) none)
          (Ct.at r.k r.m r.x p fun c => cond (c.m.whole) (Ct.set r.k r.m r.x p ⟨c.k, cond c.m.clear c.m .d, c.x⟩ fun m x => f c ((s.kill t p).setR t (some { r with m := m, x := x }))) none)) rt U := by
        simp only [hpm, cond_false]
        refine FrK.bind (F := fun s R f => Ct.at r.k r.m r.x p fun c => f c s) (G := fun c s R f => cond (c.m.whole) (Ct.set r.k r.m r.x p ⟨c.k, cond c.m.clear c.m .d, c.x⟩ fun m x => f c ((s.kill t p).setR t (some { r with m := m, x := x }))) none) (FrK.det (det_at _ _ _ _)) fun c rt2 _ => ?_
        refine FrK.cond _ ?_
        exact FrK.bind (F := fun s R f => Ct.set r.k r.m r.x p ⟨c.k, cond c.m.clear c.m .d, c.x⟩ fun m x => f (⟨m, x⟩ : (Σ _ : Mk, T r.k)) s) (G := fun z s R f => f c ((s.kill t p).setR t (some { r with m := z.1, x := z.2 }))) (FrK.det (det_set _ _ _ _ _)) fun z rt3 _ => FrK.set c ht
      rcases h with ⟨x, K, rt2, h1, h2, h3⟩ | h
      · exact .inl ⟨x, K, rt2, h1, h2, fun σ R f => by simp only [hr]; exact h3 σ R f⟩
      · exact .inr fun σ R f => by simp only [hr]; exact h σ R f

theorem fr_takeAll : ∀ {cs : List Pc} {rt : Nat → Option Rt}, (∀ c ∈ cs, ∀ t, tagOf c = some t → U t) → FrK (fun s R (f : List Ct → St → Option R) => takeAll s cs f) rt U
  | [], rt, hU => FrK.pure _
  | c :: cs, rt, hU => by
    simp only [takeAll]
    exact FrK.bind (fr_take (hU c List.mem_cons_self)) (G := fun x s R f => takeAll s cs fun xs s => f (x :: xs) s) fun x rt2 _ =>
      FrK.bind (fr_takeAll fun c hc => hU c (List.mem_cons_of_mem _ hc)) (G := fun xs s R f => f (x :: xs) s) fun xs rt3 _ => FrK.pure _

theorem slot_drop {σ : Nat → PV} {d : Nat} {pv : PV} : (fun n => bif Nat.beq n d then pv else (σ n).map (Pc.drop d)) = fun n => if some d = some n then pv else (σ n).map (Pc.drop d) := by
  funext n
  by_cases hn : n = d
  · subst hn; simp
  · have h2 : ¬ (some d = some n) := fun e => hn (Option.some.inj e).symm
    rw [beq_ne hn, if_neg h2]; rfl

theorem fr_newRoot {d : Nat} {c : Ct} {mem : Bool} {pc : Pc} (h : U d) : FrS (fun s R f => f (s.newRoot d c mem pc)) rt (some d) U := by
  refine .inl ⟨.one pc, Pc.drop d, fun n => bif Nat.beq n d then some ⟨c.k, c.m, c.x, mem, true⟩ else (bif Nat.beq n d then none else rt n), fix_drop h, fun n hn => ?_, fun σ R f => ?_⟩
  · have : n ≠ d := fun e => hn (e ▸ h)
    simp [beq_ne this]
  · exact congrArg f (congr (congrArg St.mk slot_drop) rfl)

theorem fr_put {d : Nat} {pv : PV} : FrS (fun s R f => f (s.put d pv)) rt (some d) U := by
  refine .inl ⟨pv, fun c => c, rt, fix_id, fun _ _ => rfl, fun σ R f => ?_⟩
  refine congrArg f (congr (congrArg St.mk ?_) rfl)
  funext n
  by_cases hn : n = d
  · subst hn; simp
  · have h2 : ¬ (some d = some n) := fun e => hn (Option.some.inj e).symm
    show (bif Nat.beq n d then pv else σ n) = _
    rw [beq_ne hn, if_neg h2, PV.map_id]; rfl

theorem fr_give {d : Nat} {c : Ct} (h : U d) : FrS (fun s R f => f (s.give d c)) rt (some d) U := by
  simp only [St.give]
  cases c.m.clear
  · exact fr_newRoot h
  · exact fr_put

theorem fr_same : FrS (fun s R f => f s) rt none U := .inl ⟨.tup [], fun c => c, rt, fix_id, fun _ _ => rfl, fun σ R f => by simp [PV.map_id]⟩

theorem fr_giveAll {d : Option Nat} {rs : List (K × Mk)} {x : Rs rs} (h : ∀ n, d = some n → U n) : FrS (fun s R f => giveAll s d rs x f) rt d U := by
  cases d with
  | none => exact fr_same
  | some d =>
    have hd := h d rfl
    have h2 : ∀ (rs : List (K × Mk)) (x : Rs rs), FrS (fun s R f => bif allClear rs then f (s.put d (.tup (resPcs d rs x id))) else f (((s.drop d).setR d (some ⟨resK rs, resM rs, x, false, true⟩)).put d (.tup (resPcs d rs x id)))) rt (some d) U := by
      intro rs x
      cases allClear rs with
      | true => exact fr_put
      | false =>
        refine .inl ⟨.tup (resPcs d rs x id), Pc.drop d, fun n => bif Nat.beq n d then some ⟨resK rs, resM rs, x, false, true⟩ else (bif Nat.beq n d then none else rt n), fix_drop hd, fun n hn => ?_, fun σ R f => ?_⟩
        · have : n ≠ d := fun e => hn (e ▸ hd)
          simp [beq_ne this]
        · exact congrArg f (congr (congrArg St.mk slot_drop) rfl)
    match rs, x with
    | [r], x => exact fr_give hd
    | [], x => exact h2 [] x
    | r :: r' :: rs, x => exact h2 (r :: r' :: rs) x

end
end Go.Proofs.Ytpegmiofhfmepaa.Ev

/- Calls, structs, slices built and stores: they act on words alike (as S43 says). -/
set_option linter.all false
namespace Go.Proofs.Ytpegmiofhfmepaa.Ev
section
variable {α β : Type} {rt : Nat → Option Rt} {U : Nat → Prop}

theorem readK_slots {σ σ' : Nat → PV} {c : Pc} {k : K} {R : Type} (f : T k → Option R) : St.readK ⟨σ, rt⟩ c k f = St.readK ⟨σ', rt⟩ c k f := readK_congr (s := ⟨σ', rt⟩) (s' := ⟨σ, rt⟩) (fun _ _ => rfl) f

theorem fr_readK {d : Option Nat} {c : Pc} {k : K} {G : T k → St → (R : Type) → (St → Option R) → Option R} (hG : ∀ x, FrS (G x) rt d U) : FrS (fun s R f => s.readK c k fun x => G x s R f) rt d U := by
  rcases det_readK ⟨fun _ => .one .bad, rt⟩ c k with ⟨x, hx⟩ | hx
  · rcases hG x with ⟨y, K, rt2, h1, h2, h3⟩ | h
    · refine .inl ⟨y, K, rt2, h1, h2, fun σ R f => ?_⟩
      show St.readK ⟨σ, rt⟩ c k _ = _
      rw [readK_slots (σ' := fun _ => .one .bad)]
      exact (hx R _).trans (h3 σ R f)
    · refine .inr fun σ R f => ?_
      show St.readK ⟨σ, rt⟩ c k _ = _
      rw [readK_slots (σ' := fun _ => .one .bad)]
      exact (hx R _).trans (h σ R f)
  · refine .inr fun σ R f => ?_
    show St.readK ⟨σ, rt⟩ c k _ = _
    rw [readK_slots (σ' := fun _ => .one .bad)]
    exact hx R _

theorem FrS.detf {d : Option Nat} {F : (R : Type) → (α → Option R) → Option R} {G : α → St → (R : Type) → (St → Option R) → Option R} (h : DetF F) (hG : ∀ x, FrS (G x) rt d U) : FrS (fun s R f => F R fun x => G x s R f) rt d U := by
  rcases h with ⟨x, hx⟩ | hx
  · rcases hG x with ⟨y, K, rt2, h1, h2, h3⟩ | h
    · exact .inl ⟨y, K, rt2, h1, h2, fun σ R f => (hx R _).trans (h3 σ R f)⟩
    · exact .inr fun σ R f => (hx R _).trans (h σ R f)
  · exact .inr fun σ R f => hx R _

theorem FrS.dite {d : Option Nat} {c : Prop} [Decidable c] {F : c → St → (R : Type) → (St → Option R) → Option R} (h : ∀ hc, FrS (F hc) rt d U) : FrS (fun s R f => if hc : c then F hc s R f else Option.none) rt d U := by
  by_cases hc : c
  · simp only [hc, dif_pos]; exact h hc
  · simp only [hc]; exact FrS.none

/-- a root is looked up -/
theorem fr_root {d : Option Nat} {t : Nat} {G : Rt → St → (R : Type) → (St → Option R) → Option R} (hG : ∀ r, FrS (G r) rt d U) : FrS (fun s R f => match s.root t with | some r => G r s R f | Option.none => Option.none) rt d U := by
  cases hr : rt t with
  | none => exact .inr fun σ R f => by simp only [hr]
  | some r =>
    rcases hG r with ⟨y, K, rt2, h1, h2, h3⟩ | h
    · exact .inl ⟨y, K, rt2, h1, h2, fun σ R f => by simp only [hr]; exact h3 σ R f⟩
    · exact .inr fun σ R f => by simp only [hr]; exact h σ R f

theorem fr_setR {d : Option Nat} {t : Nat} {q : List Stp} {r : Option Rt} {G : St → (R : Type) → (St → Option R) → Option R} (h : U t) (hG : ∀ rt2, FrS G rt2 d U) : FrS (fun s R f => G ((s.kill t q).setR t r) R f) rt d U :=
  FrK.fin (F := fun s R f => f () ((s.kill t q).setR t r)) (G := fun _ s R f => G s R f) (FrK.set () h) fun _ rt2 _ => hG rt2

theorem fr_setC {d : Option Nat} {b : Bool} {t : Nat} {q : List Stp} {r : Option Rt} {G : St → (R : Type) → (St → Option R) → Option R} (h : U t) (hG : ∀ rt2, FrS G rt2 d U) : FrS (fun s R f => G ((cond b (s.soft t q) (s.kill t q)).setR t r) R f) rt d U := by
  cases b with
  | true => exact FrK.fin (F := fun s R f => f () ((s.soft t q).setR t r)) (G := fun _ s R f => G s R f) (FrK.setS () h) fun _ rt2 _ => hG rt2
  | false => exact fr_setR h hG

theorem fr_argsOf : ∀ {ins : List Pm} {cs : List Pc} {rt : Nat → Option Rt} {d : Option Nat} {H : Ps ins → Plc → St → (R : Type) → (St → Option R) → Option R}, (∀ c ∈ cs, ∀ t, tagOf c = some t → U t) →
    (∀ x pl rt2, (∀ q ∈ pl, U q.1) → FrS (H x pl) rt2 d U) → FrS (fun s R f => argsOf ins s cs fun xs s pl => H xs pl s R f) rt d U
  | [], [], rt, d, H, hU, hH => hH () [] rt (fun _ h => by cases h)
  | [], _ :: _, rt, d, H, hU, hH => FrS.none
  | .val k :: ps, [], rt, d, H, hU, hH => FrS.none
  | .mov k m :: ps, [], rt, d, H, hU, hH => FrS.none
  | .mptr k m :: ps, [], rt, d, H, hU, hH => FrS.none
  | .chg k m :: ps, [], rt, d, H, hU, hH => FrS.none
  | .fn i o :: ps, [], rt, d, H, hU, hH => FrS.none
  | .val k :: ps, c :: cs, rt, d, H, hU, hH => by
    simp only [argsOf]
    exact fr_readK (G := fun x s R f => argsOf ps s cs fun xs s pl => H (x, xs) pl s R f) fun x => fr_argsOf (fun c hc => hU c (List.mem_cons_of_mem _ hc)) fun xs pl rt2 h => hH _ _ _ h
  | .mov k m :: ps, c :: cs, rt, d, H, hU, hH => by
    simp only [argsOf]
    refine FrK.fin (fr_take (hU c List.mem_cons_self)) (G := fun ct s R f => if h : ct.k = k then (if ct.m = m then argsOf ps s cs fun xs s pl => H (h ▸ ct.x, xs) pl s R f else none) else none) fun ct rt2 _ => ?_
    exact FrS.dite fun h => FrS.ite _ (fr_argsOf (H := fun xs pl => H (h ▸ ct.x, xs) pl) (fun c hc => hU c (List.mem_cons_of_mem _ hc)) fun xs pl rt2 h => hH _ _ _ h)
  | .mptr k m :: ps, c :: cs, rt, d, H, hU, hH => by
    simp only [argsOf]
    cases c <;> first | exact FrS.none | skip
    rename_i t p
    have ht : U t := hU _ List.mem_cons_self t rfl
    refine fr_root (G := fun r s R f => Ct.at r.k r.m r.x p fun ct => if h : ct.k = k then (if ct.m = m then argsOf ps s cs fun xs s pl => H (h ▸ ct.x, xs) ((t, p, false) :: pl) s R f else none) else none) fun r => ?_
    refine FrS.detf (G := fun ct s R f => if h : ct.k = k then (if ct.m = m then argsOf ps s cs fun xs s pl => H (h ▸ ct.x, xs) ((t, p, false) :: pl) s R f else none) else none) (det_at _ _ _ _) fun ct => ?_
    exact FrS.dite fun h => FrS.ite _ (fr_argsOf (H := fun xs pl => H (h ▸ ct.x, xs) ((t, p, false) :: pl)) (fun c hc => hU c (List.mem_cons_of_mem _ hc)) fun xs pl rt2 h => hH _ _ _ fun q hq => by
      rcases List.mem_cons.1 hq with rfl | hq
      · exact ht
      · exact h q hq)
  | .chg k m :: ps, c :: cs, rt, d, H, hU, hH => by
    simp only [argsOf]
    cases c <;> first | exact FrS.none | skip
    rename_i t p
    have ht : U t := hU _ List.mem_cons_self t rfl
    refine fr_root (G := fun r s R f => Ct.at r.k r.m r.x p fun ct => if h : ct.k = k then (if ct.m = m then argsOf ps s cs fun xs s pl => H (h ▸ ct.x, xs) ((t, p, true) :: pl) s R f else none) else none) fun r => ?_
    refine FrS.detf (G := fun ct s R f => if h : ct.k = k then (if ct.m = m then argsOf ps s cs fun xs s pl => H (h ▸ ct.x, xs) ((t, p, true) :: pl) s R f else none) else none) (det_at _ _ _ _) fun ct => ?_
    exact FrS.dite fun h => FrS.ite _ (fr_argsOf (H := fun xs pl => H (h ▸ ct.x, xs) ((t, p, true) :: pl)) (fun c hc => hU c (List.mem_cons_of_mem _ hc)) fun xs pl rt2 h => hH _ _ _ fun q hq => by
      rcases List.mem_cons.1 hq with rfl | hq
      · exact ht
      · exact h q hq)
  | .fn i o :: ps, c :: cs, rt, d, H, hU, hH => by
    simp only [argsOf]
    cases c <;> first | exact FrS.none | skip
    exact FrS.dite fun h => fr_argsOf (H := fun xs pl => H ((h.1 ▸ h.2 ▸ _), xs) pl) (fun c hc => hU c (List.mem_cons_of_mem _ hc)) fun xs pl rt2 h => hH _ _ _ h

theorem fr_backAt : ∀ {outs : List (K × Mk)} {x : Rs outs} {pl : Plc} {rt : Nat → Option Rt} {d : Option Nat} {H : St → (R : Type) → (St → Option R) → Option R}, (∀ q ∈ pl, U q.1) → (∀ rt2, FrS H rt2 d U) → FrS (fun s R f => backAt outs x pl s fun s => H s R f) rt d U
  | [], x, [], rt, d, H, hU, hH => hH _
  | [], x, _ :: _, rt, d, H, hU, hH => FrS.none
  | _ :: _, x, [], rt, d, H, hU, hH => FrS.none
  | (k, m) :: os, x, (t, p, b) :: pl, rt, d, H, hU, hH => by
    simp only [backAt]
    have ht : U t := hU _ List.mem_cons_self
    refine fr_root (G := fun r s R f => Ct.set r.k r.m r.x p ⟨k, m, x.1⟩ fun m' y => backAt os x.2 pl ((cond b (s.soft t p) (s.kill t p)).setR t (some { r with m := m', x := y })) fun s => H s R f) fun r => ?_
    refine FrS.detf (F := fun R f => Ct.set r.k r.m r.x p ⟨k, m, x.1⟩ fun m' y => f (⟨m', y⟩ : (Σ _ : Mk, T r.k))) (G := fun z s R f => backAt os x.2 pl ((cond b (s.soft t p) (s.kill t p)).setR t (some { r with m := z.1, x := z.2 })) fun s => H s R f) (det_set _ _ _ _ _) fun z => ?_
    exact fr_setC (G := fun s R f => backAt os x.2 pl s fun s => H s R f) ht fun rt2 => fr_backAt (fun q hq => hU q (List.mem_cons_of_mem _ hq)) hH

theorem fr_callSig {d : Option Nat} {sg : Sig} {cs : List Pc} (hU : ∀ c ∈ cs, ∀ t, tagOf c = some t → U t) (hd : ∀ n, d = some n → U n) : FrS (fun s R f => callSig s d sg cs f) rt d U := by
  have h : FrS (fun s R f => argsOf sg.ins s cs fun xs s pl => bnd (sg.fn xs) fun r => backAt (Pm.outs sg.ins) r.2 pl s fun s => giveAll s d sg.res r.1 f) rt d U := by
    refine fr_argsOf (H := fun xs pl s R f => bnd (sg.fn xs) fun r => backAt (Pm.outs sg.ins) r.2 pl s fun s => giveAll s d sg.res r.1 f) hU fun xs pl rt2 hpl => ?_
    cases sg.fn xs with
    | none => exact FrS.none
    | some r => exact fr_backAt (H := fun s R f => giveAll s d sg.res r.1 f) hpl fun rt3 => fr_giveAll hd
  unfold callSig
  exact FrS.cond _ h

theorem fr_build {d : Nat} {k : K} {is : List Nat} {cs : List Pc} (hU : ∀ c ∈ cs, ∀ t, tagOf c = some t → U t) (hd : U d) :
    FrS (fun s R f => takeAll s cs fun cs s => buildAt k (is.zip cs) (Mk.full k) k.zero fun m x => f (s.give d ⟨k, m, x⟩)) rt (some d) U := by
  refine FrK.fin (fr_takeAll hU) (G := fun cs s R f => buildAt k (is.zip cs) (Mk.full k) k.zero fun m x => f (s.give d ⟨k, m, x⟩)) fun cs rt2 _ => ?_
  exact FrS.detf (F := fun R f => buildAt k (is.zip cs) (Mk.full k) k.zero fun m x => f (⟨m, x⟩ : (Σ _ : Mk, T k))) (G := fun z s R f => f (s.give d ⟨k, z.1, z.2⟩)) (det_buildAt fun m y => DetF.pure (α := Σ _ : Mk, T k) _) fun z => fr_give hd

theorem fr_buildSlice {d : Nat} {k : K} {cs : List Pc} (hU : ∀ c ∈ cs, ∀ t, tagOf c = some t → U t) (hd : U d) :
    FrS (fun s R f => takeAll s cs fun cs s => match cs with
        | [] => none
        | c :: cs => sameK k c.m (c :: cs) fun xs => f (s.newRoot d ⟨.sl k, .o c.m, xs⟩ false (.al d []))) rt (some d) U := by
  refine FrK.fin (fr_takeAll hU) (G := fun cs s R f => match cs with
        | [] => none
        | c :: cs => sameK k c.m (c :: cs) fun xs => f (s.newRoot d ⟨.sl k, .o c.m, xs⟩ false (.al d []))) fun cs rt2 _ => ?_
  cases cs with
  | nil => exact FrS.none
  | cons c cs => exact FrS.detf (G := fun xs s R f => f (s.newRoot d ⟨.sl k, .o c.m, xs⟩ false (.al d []))) (det_sameK fun x => DetF.pure x) fun xs => fr_newRoot hd

theorem fr_store {k : K} {u : Nat} {p : List Stp} {x : Pc} (hu : U u) (hx : ∀ t, tagOf x = some t → U t) :
    FrS (fun s R f => s.take x fun c s => if c.k = k then (match s.root u with
              | some r => Ct.set r.k r.m r.x p c fun m y => f ((s.kill u p).setR u (some { r with m := m, x := y }))
              | none => none) else none) rt none U := by
  refine FrK.fin (fr_take hx) (G := fun c s R f => if c.k = k then (match s.root u with
              | some r => Ct.set r.k r.m r.x p c fun m y => f ((s.kill u p).setR u (some { r with m := m, x := y }))
              | none => none) else none) fun c rt2 _ => FrS.ite _ ?_
  refine fr_root (G := fun r s R f => Ct.set r.k r.m r.x p c fun m y => f ((s.kill u p).setR u (some { r with m := m, x := y }))) fun r => ?_
  exact FrS.detf (F := fun R f => Ct.set r.k r.m r.x p c fun m y => f (⟨m, y⟩ : (Σ _ : Mk, T r.k))) (G := fun z s R f => f ((s.kill u p).setR u (some { r with m := z.1, x := z.2 }))) (det_set _ _ _ _ _) fun z => fr_setR (G := fun s R f => f s) hu fun rt3 => fr_same
end
end Go.Proofs.Ytpegmiofhfmepaa.Ev
