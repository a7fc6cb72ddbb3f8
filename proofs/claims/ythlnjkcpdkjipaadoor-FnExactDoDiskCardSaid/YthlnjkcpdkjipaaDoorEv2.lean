/- A verified evaluator of typed functions, part 2. Nothing of the program is in it. -/
import Derived.Test.YthlnjkcpdkjipaaDoorEv1
import Derived.Room.AppendUpon
import Derived.Room.FrozenHead
set_option linter.all false
/- Roots with another content; taking data away. -/
namespace Go.Proofs.YthlnjkcpdkjipaaDoor.Ev
section
variable {P : Program} {X : Cx} {N : Nat} {a : Act} {s : St} {g : Gs} {F : Nat → Prop} {ow : Nat → Option Nat} {w : World} {R : Type} {r : R} {tm : Array Value}
theorem vals_sl_inj {k : K} {xs ys : List (T k)} {l l' : L (.sl k)} (h : vals (.sl k) xs l = vals (.sl k) ys l') : xs.length = ys.length ∧ l.1.1 = l'.1.1 ∧ l.1.2 = l'.1.2 := by
  simp only [vals, List.cons.injEq, Value.slice.injEq, and_true] at h
  refine ⟨h.2.1, ?_, h.2.2⟩
  have := h.1
  obtain ⟨⟨q, c⟩, lf⟩ := l
  obtain ⟨⟨q', c'⟩, lf'⟩ := l'
  simp only [adr] at this ⊢
  cases q <;> cases q' <;> simp at this ⊢
  rename_i q q'
  obtain ⟨b, o⟩ := q
  obtain ⟨b', o'⟩ := q'
  simp at this ⊢
  exact this
theorem PcOk.reset {w' : World} {F' : Nat → Prop} {c0 : Pc} {v : Value} {t : Nat} {q : GR} (hg : g t = some q) {p : List Stp} {c : Ct} {l' : L c.k} {m' : Mk} {x' : T q.k} {l2 : L q.k}
    (hs : gset q.k q.m q.x q.l p c l' = some (m', x', l2)) (hF : ∀ b, F b → F' b) (hFw : ∀ b, F b → w'.heap[b]? = w.heap[b]?)
    (h : PcOk P g F w c0 v) : PcOk P (g.set t (some { q with m := m', x := x', l := l2 })) F' w' (c0.kill t p) v := by
  cases c0 with
  | al u p2 =>
    obtain ⟨q', z, h1, h2, h3⟩ := h
    by_cases hu : u = t
    · subst hu
      rw [hg] at h1; injection h1 with h1; subst h1
      simp only [Pc.kill, Nat.beq_refl, Bool.true_and]
      cases hh : hit false p p2 with
      | true => simp only [cond_true]; trivial
      | false =>
        simp only [cond_false]
        obtain ⟨m2, x2, l3, e1, e2⟩ := hit_al hs h2 hh
        exact ⟨_, _, Gs.set_self _ _ _, e1, by rw [h3]; exact (valOf_of_vals e2).symm⟩
    · simp only [Pc.kill, beq_ne hu, Bool.false_and, cond_false]
      exact ⟨q', z, by rw [Gs.set_ne _ _ hu]; exact h1, h2, h3⟩
  | vw u p2 lo n =>
    obtain ⟨q', k, m, xs, l, b, h1, h2, h3, ad, cap, h4, h5, h6, h7, h8⟩ := h
    by_cases hu : u = t
    · subst hu
      rw [hg] at h1; injection h1 with h1; subst h1
      simp only [Pc.kill, Nat.beq_refl, Bool.true_and]
      cases hh : hit false p p2 with
      | true => simp only [cond_true]; trivial
      | false =>
        simp only [cond_false]
        obtain ⟨m2, x2, l3, e1, e2⟩ := hit_al hs h2 hh
        obtain ⟨v1, v2, v3⟩ := vals_sl_inj e2
        dsimp only at v1 v2 v3
        exact ⟨_, k, m2, x2, l3, b, Gs.set_self _ _ _, e1, by omega, ad, cap, h4, h5, by omega, by rw [v2]; exact h7, by rw [v2, v3]; exact h8⟩
    · simp only [Pc.kill, beq_ne hu, Bool.false_and, cond_false]
      exact ⟨q', k, m, xs, l, b, by rw [Gs.set_ne _ _ hu]; exact h1, h2, h3, ad, cap, h4, h5, h6, h7, h8⟩
  | ptr u p2 =>
    obtain ⟨q', z, y, h1, h2, h3, h4⟩ := h
    by_cases hu : u = t
    · subst hu
      rw [hg] at h1; injection h1 with h1; subst h1
      simp only [Pc.kill, Nat.beq_refl, Bool.true_and]
      cases hh : hit true p p2 with
      | true => simp only [cond_true]; trivial
      | false =>
        simp only [cond_false]
        obtain ⟨z', e1, e2⟩ := hit_ptr hs h2 hh
        exact ⟨_, z', y, Gs.set_self _ _ _, e1, by rw [e2]; exact h3, h4⟩
    · simp only [Pc.kill, beq_ne hu, Bool.false_and, cond_false]
      exact ⟨q', z, y, by rw [Gs.set_ne _ _ hu]; exact h1, h2, h3, h4⟩
  | v k x => exact PcOk.frame (c := .v k x) h hFw hF
  | sp k x => exact PcOk.frame (c := .sp k x) h hFw hF
  | nil0 => exact PcOk.frame (c := .nil0) h hFw hF
  | fv i o f => exact PcOk.frame (c := .fv i o f) h hFw hF
  | bad => trivial
  | unk => exact PcOk.frame (c := .unk) h hFw hF
theorem PvOk.mapTo {g' : Gs} {F' : Nat → Prop} {w' : World} {f : Pc → Pc} {c : PV} {v : Value} (h : PvOk P g F w c v) (hf : ∀ c v, PcOk P g F w c v → PcOk P g' F' w' (f c) v) : PvOk P g' F' w' (c.map f) v := by
  cases c with
  | one c => exact hf c v h
  | tup cs =>
    obtain ⟨vs, h1, h2, h3⟩ := h
    refine ⟨vs, h1, by simpa [PV.map] using h2, fun i c u hi hu => ?_⟩
    rw [List.getElem?_map] at hi
    cases hc : cs[i]? with
    | none => rw [hc] at hi; cases hi
    | some c0 =>
      rw [hc] at hi
      simp at hi
      subst hi
      exact hf _ _ (h3 i c0 u hc hu)
theorem Rel.reset (h : Rel P X N s g F ow tm w) {t : Nat} {q : GR} (hg : g t = some q) {p : List Stp} {c : Ct} {l' : L c.k} {m' : Mk} {x' : T q.k} {l2 : L q.k}
    (hs : gset q.k q.m q.x q.l p c l' = some (m', x', l2)) {w' : World} {F' : Nat → Prop} {ow' : Nat → Option Nat}
    (hF : ∀ b, F b → F' b) (hFw : ∀ b, F b → w'.heap[b]? = w.heap[b]?) (hsat : Ev.sat w' F' q.k m' x' l2) (hmem : atBase w' q.b (vals q.k x' l2))
    (hnd : ((q.b.map (·.1)).toList ++ fp q.k m' x' l2).Nodup)
    (hoth : ∀ n q', n ≠ t → g n = some q' → ∀ b ∈ q'.fp, w'.heap[b]? = w.heap[b]? ∧ ow' b = some n)
    (hown : ∀ b ∈ (q.b.map (·.1)).toList ++ fp q.k m' x' l2, ow' b = some t)
    (hF' : ∀ b, F' b → ow' b = none ∧ b < w'.heap.size) (hlt : ∀ b u, ow' b = some u → b < w'.heap.size)
    (hfree : ∀ b ∈ fp q.k m' x' l2, X.free b) (hFnew : ∀ b, F' b → X.F0 b ∨ X.free b)
    (hkept : ∀ b, b < X.w0.heap.size → ¬ X.hd b → match X.rg b with
      | none => w'.heap[b]? = X.w0.heap[b]?
      | some (o, n) => Rng X.w0 w' b o n)
    (hsize : w.heap.size ≤ w'.heap.size) (hos : w'.os = w.os) (htape : w'.tape = w.tape) (hout : OutLe w w') :
    Rel P X N ((s.kill t p).setR t (some ⟨q.k, m', x', q.mem, q.tmp⟩)) (g.set t (some { q with m := m', x := x', l := l2 })) F' ow' tm w' := by
  refine { root := fun n => ?_, slot := fun n => (h.slot n).mapTo fun c v hc => hc.reset hg hs hF hFw, sat := fun n q' hq => ?_, mem := fun n q' hq => ?_, mb := fun n q' hq => ?_, ho := fun n q' hq b hb => ?_, nd := fun n q' hq => ?_, hF := hF', lt := hlt, own := fun n q' hq => ?_, bl := fun n q' hq => ?_, F0 := fun b hb => hF b (h.F0 b hb), Fnew := hFnew, kept := hkept, size := Nat.le_trans h.size hsize, os := hos.trans h.os, tape := htape.trans h.tape, out := hout.trans h.out, sz := h.sz, big := fun n hn => ?_ }
  · by_cases hn : n = t
    · subst hn; simp [St.setR, Gs.set, GR.rt]
    · simp [St.setR, beq_ne hn, Gs.set, hn, St.kill, h.root n]
  · by_cases hn : n = t
    · subst hn; rw [Gs.set_self] at hq; injection hq with hq; subst hq; exact hsat
    · rw [Gs.set_ne _ _ hn] at hq
      refine sat_frame (h.sat n q' hq) (fun b hb => ?_) hF
      rcases hb with hb | hb
      · exact (hoth n q' hn hq b (by simp only [GR.fp, GR.fpi, List.mem_append]; exact .inr hb)).1
      · exact hFw b hb
  · by_cases hn : n = t
    · subst hn; rw [Gs.set_self] at hq; injection hq with hq; subst hq; exact hmem
    · rw [Gs.set_ne _ _ hn] at hq
      exact fun c o e => (h.mem n q' hq c o e).frame (hoth n q' hn hq c (by simp [GR.fp, e])).1
  · by_cases hn : n = t
    · subst hn; rw [Gs.set_self] at hq; injection hq with hq; subst hq; exact h.mb n q hg
    · rw [Gs.set_ne _ _ hn] at hq; exact h.mb n q' hq
  · by_cases hn : n = t
    · subst hn; rw [Gs.set_self] at hq; injection hq with hq; subst hq; exact hown b hb
    · rw [Gs.set_ne _ _ hn] at hq; exact (hoth n q' hn hq b hb).2
  · by_cases hn : n = t
    · subst hn; rw [Gs.set_self] at hq; injection hq with hq; subst hq; exact hnd
    · rw [Gs.set_ne _ _ hn] at hq; exact h.nd n q' hq
  · by_cases hn : n = t
    · subst hn; rw [Gs.set_self] at hq; injection hq with hq; subst hq; exact ⟨hfree, (h.own n q hg).2⟩
    · rw [Gs.set_ne _ _ hn] at hq; exact h.own n q' hq
  · by_cases hn : n = t
    · subst hn; rw [Gs.set_self] at hq; injection hq with hq; subst hq; exact h.bl n q hg
    · rw [Gs.set_ne _ _ hn] at hq; exact h.bl n q' hq
  · simp only [St.setR, St.kill, h.big n hn, PV.map, Pc.kill]
def owSub (ow : Nat → Option Nat) (l : List Nat) : Nat → Option Nat := fun b => if b ∈ l then none else ow b
theorem owSub_mem {l : List Nat} {b : Nat} (h : b ∈ l) : owSub ow l b = none := by simp [owSub, h]
theorem owSub_not {l : List Nat} {b : Nat} (h : b ∉ l) : owSub ow l b = ow b := by simp [owSub, h]
theorem owSub_le (l : List Nat) : ∀ b u, owSub ow l b = some u → ow b = some u := fun b u h => by
  unfold owSub at h; split at h; cases h; exact h
theorem fp_d : ∀ {k : K} {x : T k} {l : L k}, fp k .d x l = []
  | .int _, _, _ | .bool, _, _ | .str, _, _ | .unit, _, _ => rfl
  | .pair a b, x, l => by
    have h1 : fp a Mk.d.l x.1 l.1 = [] := fp_d
    have h2 : fp b Mk.d.r x.2 l.2 = [] := fp_d
    simp [fp, h1, h2]
  | .sl k, x, l => by simp [fp, Mk.owns]
theorem sat_d : ∀ {k : K} {x : T k} {l : L k}, sat w F k .d x l
  | .int _, _, _ | .bool, _, _ | .str, _, _ | .unit, _, _ => trivial
  | .pair a b, x, l => ⟨sat_d, sat_d⟩
  | .sl k, x, l => fun h => absurd rfl h
theorem take_full (h : Rel P X N s g F ow tm w) {c : Pc} {v : Value} {kk : Ct → St → Option R} (hc : PcW P g F w c v) (hr : s.take c kk = some r) :
    ∃ (k : K) (m : Mk) (x : T k) (l : L k) (s' : St) (g' : Gs) (ow' : Nat → Option Nat), kk ⟨k, m, x⟩ s' = some r ∧ Rel P X N s' g' F ow' tm w ∧ Up g g' ∧ (∀ b t, ow' b = some t → ow b = some t) ∧
      v = valOf k x l ∧ Taken X F ow' w k m x l ∧ m.whole = true ∧ (∀ b ∈ fp k m x l, lent ow c b) ∧ ∀ u, tagOf c ≠ some u → g' u = g u ∧ ∀ b, ow b = some u → ow' b = some u := by
  cases c with
  | v k x =>
    obtain ⟨l, h1, h2⟩ := hc
    exact ⟨k, .s, x, l, s, g, ow, hr, h, Up.refl g, fun _ _ h => h, h2, ⟨h1, by rw [fp_clear rfl]; simp, fun b hb => by rw [fp_clear rfl] at hb; cases hb⟩, rfl, (fun b hb => by rw [fp_clear rfl] at hb; cases hb), fun u _ => ⟨rfl, fun _ h => h⟩⟩
  | al t p =>
    simp only [St.take] at hr
    split at hr
    case h_2 => cases hr
    rename_i rt hrt
    obtain ⟨q, hg, rfl⟩ := h.rootOf hrt
    have hfp : ∀ b ∈ fp q.k q.m q.x q.l, b ∈ q.fp := fun b hb => by simp only [GR.fp, GR.fpi, List.mem_append]; exact .inr hb
    simp only [GR.rt] at hr
    cases hpm : (p.isEmpty && !q.mem) with
    | true =>
      rw [hpm] at hr
      simp only [Bool.and_eq_true, Bool.not_eq_true', List.isEmpty_iff] at hpm
      obtain ⟨rfl, hpm⟩ := hpm
      simp only [cond_true] at hr
      cases hb : q.m.whole with
      | false => rw [hb] at hr; cases hr
      | true =>
        rw [hb] at hr
        have hqb : q.b = none := by
          have := h.mb t q hg
          rw [hpm] at this
          cases hq : q.b with
          | none => rfl
          | some _ => rw [hq] at this; cases this
        have hv := hc q ⟨q.k, q.x, q.l, q.b⟩ hg (by simp [GR.atx, gatx])
        refine ⟨q.k, q.m, q.x, q.l, s.drop t, g.set t none, owDrop ow t, hr, h.drop t, Up.drop g t, owDrop_le ow t, hv, ⟨h.sat t q hg, ?_, fun b hb' => ?_⟩, hb, (fun b hb' => ⟨t, rfl, h.ho t q hg b (hfp b hb')⟩), fun u hu => ?_⟩
        · have := h.nd t q hg
          simp only [GR.fp, List.nodup_append] at this
          exact this.2.1
        · have ho := h.ho t q hg b (hfp b hb')
          refine ⟨by simp [owDrop, ho], fun hF => ?_, h.lt b t ho, (h.own t q hg).1 b hb'⟩
          rw [(h.hF b hF).1] at ho; cases ho
        · have hut : u ≠ t := fun e => hu (by rw [e]; rfl)
          refine ⟨Gs.set_ne _ _ hut, fun b hb => ?_⟩
          unfold owDrop
          rw [if_neg (by rw [hb]; intro e; injection e with e; exact hut e)]
          exact hb
    | false =>
      rw [hpm] at hr
      simp only [cond_false] at hr
      obtain ⟨c, hgat, hr⟩ := at_some hr q.l q.b
      have hv := hc q _ hg (gat_gatx hgat)
      simp only at hr
      cases hw : c.m.whole with
      | false => rw [hw] at hr; cases hr
      | true =>
      rw [hw] at hr
      simp only [cond_true] at hr
      have hcfp : ∀ b ∈ c.fp, b ∈ fp q.k q.m q.x q.l := gat_fp hgat
      have hnd := h.nd t q hg
      simp only [GR.fp, GR.fpi, List.nodup_append] at hnd
      have hctaken : ∀ b ∈ c.fp, ow b = some t := fun b hb => h.ho t q hg b (hfp b (hcfp b hb))
      have hcnd : c.fp.Nodup := by
        -- a part of a list without twins
        have : ∀ {p : List Stp} {k : K} {m : Mk} {x : T k} {l : L k} {b : Option (Nat × Nat)} {c : GC}, gat k m x l b p = some c → (fp k m x l).Nodup → c.fp.Nodup := by
          intro p
          induction p with
          | nil => intro k m x l b c h hn; simp [gat] at h; subst h; exact hn
          | cons s p ih =>
            intro k m x l b c h hn
            cases k <;> cases s <;> simp only [gat] at h <;> first | (cases h; done) | skip
            · simp only [fp, List.nodup_append] at hn; exact ih h hn.1
            · simp only [fp, List.nodup_append] at hn; exact ih h hn.2.1
            · split at h
              · cases h
              split at h
              · rename_i hx
                cases ho : m.owns with
                | false =>
                  have : ∀ b, b ∉ c.fp := fun b hb => by have := gat_fp h b hb; rw [Mk.inner_s ho, fp_clear rfl] at this; cases this
                  rw [List.eq_nil_iff_forall_not_mem.2 this]; simp
                | true =>
                  simp only [fp, ho, if_true, List.nodup_append] at hn
                  exact ih h ((nodup_fpL.1 hn.2.1).1 _ _ hx)
              · cases h
        exact this hgat hnd.2.1
      -- the marks behind it
      obtain ⟨md, hmd⟩ : ∃ md, md = cond c.m.clear c.m .d := ⟨_, rfl⟩
      rw [← hmd] at hr
      have d1 : ∀ w F, sat w F c.k c.m c.x c.l → sat w F c.k md c.x c.l := by
        intro w F hs
        cases hcl : c.m.clear with
        | true => rw [hmd, hcl]; exact hs
        | false => rw [hmd, hcl]; exact sat_d
      have d2 : ∀ b ∈ fp c.k md c.x c.l, b ∈ c.fp := by
        intro b hb
        cases hcl : c.m.clear with
        | true => rw [hmd, hcl] at hb; exact hb
        | false => rw [hmd, hcl] at hb; simp only [cond_false] at hb; rw [fp_d] at hb; cases hb
      have d3 : ∀ b, b ∈ fp c.k md c.x c.l → False := by
        intro b hb
        cases hcl : c.m.clear with
        | true => have := d2 b hb; rw [GC.fp, fp_clear hcl] at this; cases this
        | false => rw [hmd, hcl] at hb; simp only [cond_false] at hb; rw [fp_d] at hb; cases hb
      obtain ⟨m', ⟨hr, hgs⟩, q2, q3, q4⟩ := set_marks hgat hr d1 d2 (fun _ => List.nodup_iff_pairwise_ne.2 (by
        have : fp c.k md c.x c.l = [] := List.eq_nil_iff_forall_not_mem.2 fun b hb => d3 b hb
        rw [this]; exact List.Pairwise.nil))
      obtain ⟨n1, n2⟩ := q4 hnd.2.1
      have n2 := n2 d3
      have hrel := h.reset hg hgs (w' := w) (F' := F) (ow' := owSub ow c.fp) (fun _ h => h) (fun _ _ => rfl) (q2 w F (h.sat t q hg)) (h.mem t q hg)
        (by
          rw [List.nodup_append]
          exact ⟨hnd.1, n1, fun e he b hb => hnd.2.2 e he b (q3 b hb)⟩)
        (fun n q' hn hq b hb => ⟨rfl, by
          rw [owSub_not]
          · exact h.ho n q' hq b hb
          · intro hb'
            have e1 := h.ho n q' hq b hb
            rw [hctaken b hb'] at e1
            injection e1 with e1
            exact hn e1.symm⟩)
        (fun b hb => by
          rw [owSub_not]
          · rw [List.mem_append] at hb
            refine h.ho t q hg b ?_
            simp only [GR.fp, GR.fpi, List.mem_append]
            exact hb.imp id (q3 b)
          · intro hb'
            rw [List.mem_append] at hb
            rcases hb with hb | hb
            · exact hnd.2.2 b hb b (hcfp b hb') rfl
            · exact n2 b hb' hb)
        (fun b hb => ⟨by unfold owSub; split; rfl; exact (h.hF b hb).1, (h.hF b hb).2⟩) (fun b u hb => h.lt b u (owSub_le _ b u hb))
        (fun b hb => (h.own t q hg).1 b (q3 b hb)) h.Fnew h.kept (Nat.le_refl _) rfl rfl OutLe.rfl
      refine ⟨c.k, c.m, c.x, c.l, _, _, _, hr, hrel, ?_, owSub_le _, hv, ⟨gat_sat hgat (h.sat t q hg), hcnd, fun b hb => ?_⟩, hw, (fun b hb => ⟨t, rfl, hctaken b hb⟩), fun u hu => ?_⟩
      · intro u r' hu
        by_cases hut : u = t
        · subst hut
          rw [Gs.set_self] at hu
          injection hu with hu
          subst hu
          exact ⟨q, hg, rfl, HEq.rfl, HEq.rfl, rfl, rfl⟩
        · rw [Gs.set_ne _ _ hut] at hu
          exact Up.refl g u r' hu
      · refine ⟨owSub_mem hb, fun hF => ?_, h.lt b t (hctaken b hb), (h.own t q hg).1 b (hcfp b hb)⟩
        have := hctaken b hb
        rw [(h.hF b hF).1] at this; cases this
      · have hut : u ≠ t := fun e => hu (by rw [e]; rfl)
        refine ⟨Gs.set_ne _ _ hut, fun b hb => ?_⟩
        rw [owSub_not (fun hb' => by rw [hctaken b hb'] at hb; injection hb with hb; exact hut hb.symm)]
        exact hb
  | vw => cases hr
  | ptr => cases hr
  | sp => cases hr
  | nil0 => cases hr
  | fv => cases hr
  | bad => cases hr
  | unk => cases hr
theorem takeN_full (h : Rel P X N s g F ow tm w) {k0 : K} {m0 : Mk} {c : Pc} {v : Value} {kk : Ct → St → Option R} (hc : PcW P g F w c v) (hr : s.takeN k0 m0 c kk = some r) :
    ∃ (k : K) (m : Mk) (x : T k) (l : L k) (s' : St) (g' : Gs) (ow' : Nat → Option Nat), kk ⟨k, m, x⟩ s' = some r ∧ Rel P X N s' g' F ow' tm w ∧ Up g g' ∧ (∀ b t, ow' b = some t → ow b = some t) ∧
      v = valOf k x l ∧ Taken X F ow' w k m x l ∧ True ∧ (∀ b ∈ fp k m x l, lent ow c b) ∧ ∀ u, tagOf c ≠ some u → g' u = g u ∧ ∀ b, ow b = some u → ow' b = some u := by
  cases c with
  | nil0 =>
    cases k0 <;> first | cases hr | skip
    cases m0 <;> first | cases hr | skip
    rename_i k' m'
    obtain ⟨a, rfl, ha⟩ := hc
    have hf : fp (.sl k') (.o m') ([] : List (T k')) ((a, 0), fun _ => zeroL k') = [] := by simp [fp, Mk.owns, own1, fpL]
    exact ⟨.sl k', .o m', [], ((a, 0), fun _ => zeroL k'), s, g, ow, hr, h, Up.refl g, fun _ _ h => h, rfl,
      ⟨fun _ => ⟨⟨Nat.le_refl _, fun _ => rfl, fun b o e => ⟨fun _ hn => absurd rfl hn, fun hn => absurd rfl hn⟩, fun _ _ b o e => ha b o e⟩, fun i x hx => by simp at hx⟩,
        by rw [hf]; simp, fun b hb => by rw [hf] at hb; cases hb⟩, trivial, (fun b hb => by rw [hf] at hb; cases hb), fun u _ => ⟨rfl, fun _ h => h⟩⟩
  | _ =>
    obtain ⟨k, m, x, l, s', g', ow', p1, p2, p3, p4, p5, p6, p7, p8, p9⟩ := take_full h hc hr
    exact ⟨k, m, x, l, s', g', ow', p1, p2, p3, p4, p5, p6, trivial, p8, p9⟩
theorem take_ok (h : Rel P X N s g F ow tm w) {c : Pc} {v : Value} {kk : Ct → St → Option R} (hc : PcW P g F w c v) (hr : s.take c kk = some r) :
    ∃ (k : K) (m : Mk) (x : T k) (l : L k) (s' : St) (g' : Gs) (ow' : Nat → Option Nat), kk ⟨k, m, x⟩ s' = some r ∧ Rel P X N s' g' F ow' tm w ∧ Up g g' ∧ (∀ b t, ow' b = some t → ow b = some t) ∧
      v = valOf k x l ∧ Taken X F ow' w k m x l ∧ m.whole = true ∧ (∀ b ∈ fp k m x l, lent ow c b) := by
  obtain ⟨k, m, x, l, s', g', ow', h1, h2, h3, h4, h5, h6, h7, h8, _⟩ := take_full h hc hr
  exact ⟨k, m, x, l, s', g', ow', h1, h2, h3, h4, h5, h6, h7, h8⟩
end
end Go.Proofs.YthlnjkcpdkjipaaDoor.Ev

/- Operations that change the state: assignments, variables, stores. -/
namespace Go.Proofs.YthlnjkcpdkjipaaDoor.Ev
section
variable {P : Program} {X : Cx} {N : Nat} {a : Act} {s : St} {g : Gs} {F : Nat → Prop} {ow : Nat → Option Nat} {w : World} {R : Type} {r : R} {tm : Array Value} {E : Env}
  {o : Oper} {next : Act → World → Prop} {Q : Exit → Act → World → Prop} {kk : St → Option R}
def Keeps (a : Act) (d : Option Nat) (a' : Act) : Prop := a'.defers = a.defers ∧ ∀ i, d ≠ some i → a'.tmps[i]? = a.tmps[i]?
def MOk (P : Program) (X : Cx) (N : Nat) (a : Act) (d : Option Nat) (kk : St → Option R) (r : R) (a' : Act) (w' : World) : Prop :=
  Keeps a d a' ∧ ∃ s' g' F' ow', kk s' = some r ∧ Rel P X N s' g' F' ow' a'.tmps w'
theorem put_keeps (a : Act) (d : Option Nat) (v : Value) : Keeps a d (a.put d v) := by
  cases d with
  | none => exact ⟨rfl, fun _ _ => rfl⟩
  | some d => exact ⟨rfl, fun i hi => by simp only [Act.put]; rw [Array.getElem?_setIfInBounds_ne (fun e => hi (by rw [e]))]⟩
theorem put_tmps (a : Act) {d : Nat} {o : Oper} (ho : o.dst = some d) (v : Value) : (a.put o.dst v).tmps = a.tmps.setIfInBounds d v := by rw [ho]; rfl
theorem Rel.retmp (h : Rel P X N s g F ow tm w) {t : Nat} {q : GR} (hg : g t = some q) (b : Bool) :
    Rel P X N (s.setR t (some { q.rt with tmp := b })) (g.set t (some { q with tmp := b })) F ow tm w := by
  have sub : ∀ n q', (g.set t (some { q with tmp := b })) n = some q' → ∃ q0, g n = some q0 ∧ q' = { q0 with tmp := q'.tmp } := by
    intro n q' hq
    by_cases hn : n = t
    · subst hn; rw [Gs.set_self] at hq; injection hq with hq; subst hq; exact ⟨q, hg, rfl⟩
    · rw [Gs.set_ne _ _ hn] at hq; exact ⟨q', hq, rfl⟩
  have sup : ∀ n q0, g n = some q0 → ∃ tp, (g.set t (some { q with tmp := b })) n = some { q0 with tmp := tp } := by
    intro n q0 hq
    by_cases hn : n = t
    · subst hn; rw [hg] at hq; injection hq with hq; subst hq; exact ⟨b, Gs.set_self _ _ _⟩
    · rw [Gs.set_ne _ _ hn]; exact ⟨q0.tmp, hq⟩
  refine { h with root := fun n => ?_, slot := fun n => (h.slot n).gs fun c v hc => ?_, sat := fun n q' hq => ?_, mem := fun n q' hq => ?_, mb := fun n q' hq => ?_, ho := fun n q' hq => ?_, nd := fun n q' hq => ?_, own := fun n q' hq => ?_, bl := fun n q' hq => ?_ }
  · by_cases hn : n = t
    · subst hn; simp [St.setR, Gs.set, GR.rt]
    · simp [St.setR, beq_ne hn, Gs.set, hn, h.root n]
  · cases c with
    | al u p => obtain ⟨q', z, e1, e2⟩ := hc; obtain ⟨tp, e3⟩ := sup u q' e1; exact ⟨_, z, e3, e2⟩
    | vw u p lo n => obtain ⟨q', k, m, xs, l, b, e1, e2⟩ := hc; obtain ⟨tp, e3⟩ := sup u q' e1; exact ⟨_, k, m, xs, l, b, e3, e2⟩
    | ptr u p => obtain ⟨q', z, y, e1, e2⟩ := hc; obtain ⟨tp, e3⟩ := sup u q' e1; exact ⟨_, z, y, e3, e2⟩
    | v k x => exact hc
    | sp k x => exact hc
    | nil0 => exact hc
    | fv i o f => exact hc
    | bad => trivial
    | unk => exact hc
  · obtain ⟨q0, e1, e2⟩ := sub n q' hq; rw [e2]; exact h.sat n q0 e1
  · obtain ⟨q0, e1, e2⟩ := sub n q' hq; rw [e2]; exact h.mem n q0 e1
  · obtain ⟨q0, e1, e2⟩ := sub n q' hq; rw [e2]; exact h.mb n q0 e1
  · obtain ⟨q0, e1, e2⟩ := sub n q' hq; rw [e2]; exact h.ho n q0 e1
  · obtain ⟨q0, e1, e2⟩ := sub n q' hq; rw [e2]; exact h.nd n q0 e1
  · obtain ⟨q0, e1, e2⟩ := sub n q' hq; rw [e2]; exact h.own n q0 e1
  · obtain ⟨q0, e1, e2⟩ := sub n q' hq; rw [e2]; exact h.bl n q0 e1
def owTag (ow : Nat → Option Nat) (t d : Nat) : Nat → Option Nat := fun b => if ow b = some t then some d else ow b
theorem Rel.retag (h : Rel P X N s g F ow tm w) {t d : Nat} (hd : g d = none) (hne : t ≠ d) (hbt : ∀ q, g t = some q → X.lo ≤ d → ∀ b o, q.b = some (b, o) → X.free b) :
    Rel P X N (s.retag t d) ((g.set t none).set d (g t)) F (owTag ow t d) tm w := by
  have hno : ∀ b, ow b ≠ some d ∨ True := fun _ => .inr trivial
  have cases' : ∀ n q', ((g.set t none).set d (g t)) n = some q' → (n = d ∧ g t = some q') ∨ (n ≠ d ∧ n ≠ t ∧ g n = some q') := by
    intro n q' hq
    by_cases hn : n = d
    · subst hn; rw [Gs.set_self] at hq; exact .inl ⟨rfl, hq⟩
    · rw [Gs.set_ne _ _ hn] at hq
      by_cases hn2 : n = t
      · subst hn2; rw [Gs.set_self] at hq; cases hq
      · rw [Gs.set_ne _ _ hn2] at hq; exact .inr ⟨hn, hn2, hq⟩
  have to : ∀ u q', g u = some q' → ((g.set t none).set d (g t)) (cond (Nat.beq u t) d u) = some q' := by
    intro u q' hq
    by_cases hu : u = t
    · subst hu; simp only [Nat.beq_refl, cond_true]; rw [Gs.set_self]; exact hq
    · simp only [beq_ne hu, cond_false]
      have : u ≠ d := by rintro rfl; rw [hd] at hq; cases hq
      rw [Gs.set_ne _ _ this, Gs.set_ne _ _ hu]; exact hq
  refine { root := fun n => ?_, slot := fun n => (h.slot n).map fun c v hc => ?_, sat := fun n q' hq => ?_, mem := fun n q' hq => ?_, mb := fun n q' hq => ?_, ho := fun n q' hq b hb => ?_, nd := fun n q' hq => ?_, hF := fun b hb => ?_, lt := fun b u hb => ?_, own := fun n q' hq => ?_, bl := fun n q' hq => ?_, F0 := h.F0, Fnew := h.Fnew, kept := h.kept, size := h.size, os := h.os, tape := h.tape, out := h.out, sz := h.sz, big := fun n hn => ?_ }
  · simp only [St.retag]
    by_cases hn : n = d
    · subst hn; simp [Gs.set, h.root t]
    · simp only [beq_ne hn, cond_false, Gs.set, hn, if_false]
      by_cases hn2 : n = t
      · subst hn2; simp
      · simp [beq_ne hn2, hn2, h.root n]
  · cases c with
    | al u p => obtain ⟨q', z, e1, e2⟩ := hc; exact ⟨q', z, to u q' e1, e2⟩
    | vw u p lo n => obtain ⟨q', k, m, xs, l, b, e1, e2⟩ := hc; exact ⟨q', k, m, xs, l, b, to u q' e1, e2⟩
    | ptr u p => obtain ⟨q', z, y, e1, e2⟩ := hc; exact ⟨q', z, y, to u q' e1, e2⟩
    | v k x => exact hc
    | sp k x => exact hc
    | nil0 => exact hc
    | fv i o f => exact hc
    | bad => trivial
    | unk => exact hc
  · rcases cases' n q' hq with ⟨_, e⟩ | ⟨_, _, e⟩
    · exact h.sat t q' e
    · exact h.sat n q' e
  · rcases cases' n q' hq with ⟨_, e⟩ | ⟨_, _, e⟩
    · exact h.mem t q' e
    · exact h.mem n q' e
  · rcases cases' n q' hq with ⟨_, e⟩ | ⟨_, _, e⟩
    · exact h.mb t q' e
    · exact h.mb n q' e
  · rcases cases' n q' hq with ⟨rfl, e⟩ | ⟨_, hnt, e⟩
    · have := h.ho t q' e b hb
      simp [owTag, this]
    · have := h.ho n q' e b hb
      simp [owTag, this, hnt]
  · rcases cases' n q' hq with ⟨_, e⟩ | ⟨_, _, e⟩
    · exact h.nd t q' e
    · exact h.nd n q' e
  · have := (h.hF b hb).1
    exact ⟨by simp [owTag, this], (h.hF b hb).2⟩
  · unfold owTag at hb
    split at hb
    · rename_i e; exact h.lt b t e
    · exact h.lt b u hb
  · rcases cases' n q' hq with ⟨_, e⟩ | ⟨_, _, e⟩
    · exact h.own t q' e
    · exact h.own n q' e
  · rcases cases' n q' hq with ⟨e0, e⟩ | ⟨_, _, e⟩
    · subst e0; exact hbt q' e
    · exact h.bl n q' e
  · simp only [St.retag, h.big n hn, PV.map, Pc.retag]
theorem gat_rebase : ∀ {p : List Stp} {k : K} {m : Mk} {x : T k} {l : L k} {c : GC} (b : Option (Nat × Nat)), gat k m x l none p = some c →
    ∃ b2, gat k m x l b p = some ⟨c.k, c.m, c.x, c.l, b2⟩ ∧ ∀ q, c.b = some q → b2 = some q
  | [], k, m, x, l, c, b, h => by simp [gat] at h; subst h; exact ⟨b, by simp [gat], fun q h => by cases h⟩
  | s :: p, k, m, x, l, c, b, h => by
    cases k <;> cases s <;> simp only [gat] at h ⊢ <;> first | (cases h; done) | skip
    · exact gat_rebase b h
    · exact gat_rebase _ h
    · split at h
      · cases h
      rename_i hm
      rw [if_neg hm]
      split at h
      · exact ⟨c.b, h, fun q h => h⟩
      · cases h
theorem Rel.toMem (h : Rel P X N s g F ow tm w) {t : Nat} {q : GR} (hg : g t = some q) (hb : q.b = none) (e : TypeId) :
    Rel P X N (s.setR t (some ⟨q.k, q.m, q.x, true, false⟩)) (g.set t (some ⟨q.k, q.m, q.x, true, false, q.l, some (w.heap.size, 0)⟩)) F (owAdd ow [w.heap.size] t) tm { w with heap := w.heap.push (.cells (vals q.k q.x q.l).toArray e) } := by
  have hext := ext_push w (.cells (vals q.k q.x q.l).toArray e)
  have h1 := h.ext hext (fun _ h => h) (fun _ h => .inl h)
  have hqfp : q.fp = q.fpi := by simp [GR.fp, hb]
  have hnew : ow w.heap.size = none := by
    cases e : ow w.heap.size with
    | none => rfl
    | some t => have := h.lt _ t e; omega
  have hfpt : ∀ b ∈ q.fpi, ow b = some t := fun b hb' => h.ho t q hg b (by rw [hqfp]; exact hb')
  refine { root := fun n => ?_, slot := fun n => (h1.slot n).gs fun c v hc => ?_, sat := fun n q' hq => ?_, mem := fun n q' hq => ?_, mb := fun n q' hq => ?_, ho := fun n q' hq b hb' => ?_, nd := fun n q' hq => ?_, hF := fun b hb' => ?_, lt := fun b u hb' => ?_, own := fun n q' hq => ?_, bl := fun n q' hq => ?_, F0 := h1.F0, Fnew := h1.Fnew, kept := h1.kept, size := h1.size, os := h1.os, tape := h1.tape, out := h1.out, sz := h1.sz, big := h1.big }
  · by_cases hn : n = t
    · subst hn; simp [St.setR, Gs.set, GR.rt]
    · simp [St.setR, beq_ne hn, Gs.set, hn, h1.root n]
  · cases c with
    | al u p =>
      obtain ⟨q', z, e1, e2, e3⟩ := hc
      by_cases hu : u = t
      · subst hu
        rw [hg] at e1; injection e1 with e1; subst e1
        simp only [GR.at, hb] at e2
        obtain ⟨b2, f1, _⟩ := gat_rebase (some (w.heap.size, 0)) e2
        exact ⟨_, _, Gs.set_self _ _ _, f1, e3⟩
      · exact ⟨q', z, by rw [Gs.set_ne _ _ hu]; exact e1, e2, e3⟩
    | vw u p lo n =>
      obtain ⟨q', k, m, xs, l, b, e1, e2, e3⟩ := hc
      by_cases hu : u = t
      · subst hu
        rw [hg] at e1; injection e1 with e1; subst e1
        simp only [GR.at, hb] at e2
        obtain ⟨b2, f1, _⟩ := gat_rebase (some (w.heap.size, 0)) e2
        exact ⟨_, k, m, xs, l, b2, Gs.set_self _ _ _, f1, e3⟩
      · exact ⟨q', k, m, xs, l, b, by rw [Gs.set_ne _ _ hu]; exact e1, e2, e3⟩
    | ptr u p =>
      obtain ⟨q', z, y, e1, e2, e3, e4⟩ := hc
      by_cases hu : u = t
      · subst hu
        rw [hg] at e1; injection e1 with e1; subst e1
        simp only [GR.at, hb] at e2
        obtain ⟨b2, f1, f2⟩ := gat_rebase (some (w.heap.size, 0)) e2
        exact ⟨_, _, y, Gs.set_self _ _ _, f1, f2 y e3, e4⟩
      · exact ⟨q', z, y, by rw [Gs.set_ne _ _ hu]; exact e1, e2, e3, e4⟩
    | v k x => exact hc
    | sp k x => exact hc
    | nil0 => exact hc
    | fv i o f => exact hc
    | bad => trivial
    | unk => exact hc
  · by_cases hn : n = t
    · subst hn; rw [Gs.set_self] at hq; injection hq with hq; subst hq; exact h1.sat n q hg
    · rw [Gs.set_ne _ _ hn] at hq; exact h1.sat n q' hq
  · by_cases hn : n = t
    · subst hn; rw [Gs.set_self] at hq; injection hq with hq; subst hq
      intro c o e
      injection e with e; injection e with e1 e2; subst e1; subst e2
      exact ⟨(vals q.k q.x q.l).toArray, e, (0, 0), by simp, fun j _ => by simp, fun j v hj => by simpa using hj⟩
    · rw [Gs.set_ne _ _ hn] at hq; exact h1.mem n q' hq
  · by_cases hn : n = t
    · subst hn; rw [Gs.set_self] at hq; injection hq with hq; subst hq; rfl
    · rw [Gs.set_ne _ _ hn] at hq; exact h1.mb n q' hq
  · by_cases hbn : b = w.heap.size
    · subst hbn
      rw [owAdd_mem (by simp)]
      by_cases hn : n = t
      · subst hn; rfl
      · rw [Gs.set_ne _ _ hn] at hq; have := h.ho n q' hq _ hb'; rw [hnew] at this; cases this
    · rw [owAdd_not (by simpa using hbn)]
      by_cases hn : n = t
      · subst hn; rw [Gs.set_self] at hq; injection hq with hq; subst hq
        simp only [GR.fp, GR.fpi, Option.map_some, Option.toList_some, List.singleton_append, List.mem_cons] at hb'
        exact hfpt b (hb'.resolve_left hbn)
      · rw [Gs.set_ne _ _ hn] at hq; exact h.ho n q' hq b hb'
  · by_cases hn : n = t
    · subst hn; rw [Gs.set_self] at hq; injection hq with hq; subst hq
      simp only [GR.fp, GR.fpi, Option.map_some, Option.toList_some, List.singleton_append, List.nodup_cons]
      refine ⟨fun hb' => ?_, ?_⟩
      · have := hfpt _ hb'; rw [hnew] at this; cases this
      · have := h.nd n q hg; rw [hqfp] at this; exact this
    · rw [Gs.set_ne _ _ hn] at hq; exact h.nd n q' hq
  · obtain ⟨e1, e2⟩ := h.hF b hb'
    exact ⟨by rw [owAdd_not (by simp; omega)]; exact e1, (h1.hF b hb').2⟩
  · by_cases hbn : b = w.heap.size
    · subst hbn; simp
    · rw [owAdd_not (by simpa using hbn)] at hb'
      exact h1.lt b u hb'
  · by_cases hn : n = t
    · subst hn; rw [Gs.set_self] at hq; injection hq with hq; subst hq
      exact ⟨(h.own n q hg).1, fun b o e => by injection e with e; injection e with e1 e2; subst e1; exact .inl (.inl h.size)⟩
    · rw [Gs.set_ne _ _ hn] at hq; exact h.own n q' hq
  · by_cases hn : n = t
    · subst hn; rw [Gs.set_self] at hq; injection hq with hq; subst hq
      exact fun _ b o e => by injection e with e; injection e with e1 e2; subst e1; exact .inl h.size
    · rw [Gs.set_ne _ _ hn] at hq; exact h.bl n q' hq
theorem nilZ_taken (h : Rel P X N s g F ow tm w) {k : K} {m : Mk} {q : Option (Nat × Nat)} (hq : ∀ b o, q = some (b, o) → F b ∧ Unf w b o) : Taken X F ow w (.sl k) m [] ((q, 0), fun _ => zeroL k) :=
  ⟨nilZ_sat hq, by rw [nilZ_fp]; simp, fun b hb => by rw [nilZ_fp] at hb; cases hb⟩
theorem Rel.giveV (h : Rel P X N s g F ow tm w) {d : Nat} (hd : d < N) {k : K} {m : Mk} {x : T k} {l : L k} (ht : Taken X F ow w k m x l) (tmp : Bool) :
    ∃ g' ow', Rel P X N (((s.drop d).setR d (some ⟨k, m, x, false, tmp⟩)).put d (.one (.al d []))) g' F ow' (tm.setIfInBounds d (valOf k x l)) w := by
  have h1 := h.newV (d := d) ht tmp
  exact ⟨_, _, h1.put hd ⟨_, ⟨k, m, x, l, none⟩, Gs.set_self _ _ _, by simp [GR.at, gat], rfl⟩⟩
theorem m_assign (h : Rel P X N s g F ow a.tmps w) {d : Nat} {x : Operand} (hd : d < N) (ho : o.op = .assign x) (hdst : o.dst = some d)
    (hr : (match s.opd x with
      | .al u p => match s.root u with
        | some r => cond (r.tmp && !r.mem) (match p with
            | [] => cond (Nat.beq u d) (kk ((s.setR d (some { r with tmp := false })).put d (.one (.al d [])))) (kk ((((s.drop d).setR u (some { r with tmp := false })).retag u d).put d (.one (.al d []))))
            | p => s.take (.al u p) fun c s => kk (((s.drop d).setR d (some ⟨c.k, c.m, c.x, false, false⟩)).put d (.one (.al d []))))
          (kk (s.put d (.one (.al u p))))
        | none => none
      | .nil0 => match E.hint d with
        | some (k, m) => match k with
          | .sl _ => cond m.clear (kk (s.put d (.one (.v k k.zero)))) (kk (((s.drop d).setR d (some ⟨k, m, k.zero, false, false⟩)).put d (.one (.al d []))))
          | _ => none
        | none => kk (s.put d (.one .nil0))
      | _ => none) = some r) (hn : ∀ a' w', MOk P X N a o.dst kk r a' w' → next a' w') : o.wp P a w next Q := by
  have he : (execOp a.eval o).run P w = .ok (.value (a.eval x)) w := by simp [execOp, ho]
  refine wp_val he (hn _ _ ?_)
  unfold MOk
  refine ⟨put_keeps a _ _, ?_⟩
  rw [put_tmps a hdst]
  have hx := h.opd x
  split at hr
  · rename_i u p hp
    rw [hp] at hx
    obtain ⟨q, c, h1, h2, h4⟩ := hx
    rw [h.rootTo h1] at hr
    simp only [GR.rt] at hr
    cases ht : (q.tmp && !q.mem) with
    | false =>
      rw [ht] at hr
      exact ⟨_, g, F, ow, hr, h.put hd ⟨q, c, h1, h2, h4⟩⟩
    | true =>
      rw [ht] at hr
      simp only [cond_true] at hr
      cases p with
      | nil =>
        dsimp only at hr
        simp [GR.at, gat] at h2
        subst h2
        by_cases hud : u = d
        · subst hud
          simp only [Nat.beq_refl, cond_true] at hr
          have h3 := h.retmp h1 false
          exact ⟨_, _, F, ow, hr, h3.put hd (c := .one (.al u [])) (v := a.eval x) ⟨{ q with tmp := false }, ⟨q.k, q.m, q.x, q.l, q.b⟩, Gs.set_self _ _ _, by simp [GR.at, gat], h4⟩⟩
        · simp only [beq_ne hud, cond_false] at hr
          have e1 := h.drop d
          have hgu : (g.set d none) u = some q := by rw [Gs.set_ne _ _ hud]; exact h1
          have e2 := e1.retmp hgu false
          have hqb : q.b = none := by
            have h5 := h.mb u q h1
            simp only [Bool.and_eq_true, Bool.not_eq_true'] at ht
            rw [ht.2] at h5
            cases hb : q.b with
            | none => rfl
            | some z => rw [hb] at h5; cases h5
          have e3 := e2.retag (t := u) (d := d) (by rw [Gs.set_ne _ _ (Ne.symm hud), Gs.set_self]) hud (fun q1 hq1 _ b o hb => by
            rw [Gs.set_self] at hq1
            injection hq1 with hq1
            subst hq1
            rw [show q.b = some (b, o) from hb] at hqb
            cases hqb)
          have e4 := e3.put hd (c := .one (.al d [])) (v := a.eval x) ⟨{ q with tmp := false }, ⟨q.k, q.m, q.x, q.l, q.b⟩, by rw [Gs.set_self, Gs.set_self], by simp [GR.at, gat], h4⟩
          exact ⟨_, _, F, _, hr, e4⟩
      | cons e p =>
        simp only at hr
        obtain ⟨k, m, z, l, s', g', ow', q1, q2, q3, q4, q5, q6, q7, q8⟩ := take_ok h (c := .al u (e :: p)) (PcOk.weak ⟨q, c, h1, h2, h4⟩) hr
        obtain ⟨g2, ow2, e2⟩ := q2.giveV hd q6 false
        rw [← q5] at e2
        exact ⟨_, g2, F, ow2, q1, e2⟩
  · rename_i hp
    rw [hp] at hx
    obtain ⟨q, h4, hq⟩ := hx
    split at hr
    · rename_i k m hh
      split at hr
      · rename_i k
        cases hc : m.clear with
        | true =>
          rw [hc] at hr
          exact ⟨_, g, F, ow, hr, h.put hd ⟨((q, 0), fun _ => zeroL k), nilZ_sat hq, h4⟩⟩
        | false =>
          rw [hc] at hr
          obtain ⟨g2, ow2, e2⟩ := h.giveV hd (nilZ_taken h (k := k) (m := m) (q := q) hq) false
          rw [show valOf (.sl k) [] ((q, 0), fun _ => zeroL k) = a.eval x from h4.symm] at e2
          exact ⟨_, g2, F, ow2, hr, e2⟩
      · cases hr
    · exact ⟨_, g, F, ow, hr, h.put hd ⟨q, h4, hq⟩⟩
  · cases hr
end
end Go.Proofs.YthlnjkcpdkjipaaDoor.Ev

/- Variables in memory; stores. -/
namespace Go.Proofs.YthlnjkcpdkjipaaDoor.Ev
section
variable {P : Program} {X : Cx} {N : Nat} {a : Act} {s : St} {g : Gs} {F : Nat → Prop} {ow : Nat → Option Nat} {w : World} {R : Type} {r : R} {tm : Array Value} {E : Env}
  {o : Oper} {next : Act → World → Prop} {Q : Exit → Act → World → Prop} {kk : St → Option R}
theorem push_new (w : World) (cs : Array Value) (e : TypeId) : ({ w with heap := w.heap.push (.cells cs e) } : World).heap[w.heap.size]? = some (.cells cs e (0, 0)) := by simp
theorem blk_push (w : World) (cs : Array Value) (e : TypeId) {p : Array Value → Prop} (hp : p cs) : Blk { w with heap := w.heap.push (.cells cs e) } w.heap.size p :=
  ⟨cs, e, (0, 0), push_new w cs e, fun _ j _ => by simp, hp⟩
theorem blkE_push (k : K) {c : Nat} (hc : c ≤ 9223372036854775807) (w : World) (cs : Array Value) (e : TypeId) {p : Array Value → Prop} (hp : p cs) (hu : k.nu8 = true → ∀ (j : Nat) (v : Value), cs[j]? = some v → u8V v = false) : BlkE k c { w with heap := w.heap.push (.cells cs e) } w.heap.size p :=
  ⟨cs, e, (0, 0), push_new w cs e, fun j _ => by simp, ⟨fun _ => ⟨by simp, hc⟩, hu⟩, hp⟩
theorem Taken.ext {w' : World} {k : K} {m : Mk} {x : T k} {l : L k} (h : Taken X F ow w k m x l) (hF : ∀ b, F b → b < w.heap.size) (e : Ext w w') : Taken X F ow w' k m x l :=
  ⟨sat_frame h.sat (fun b hb => e.old b (hb.elim (fun hb => (h.no b hb).2.2.1) (hF b))) (fun _ h => h), h.nd, fun b hb => ⟨(h.no b hb).1, (h.no b hb).2.1, Nat.lt_of_lt_of_le (h.no b hb).2.2.1 e.size, (h.no b hb).2.2.2⟩⟩
theorem Rel.giveM (h : Rel P X N s g F ow tm w) {d : Nat} (hd : d < N) {k : K} {m : Mk} {x : T k} {l : L k} (ht : Taken X F ow w k m x l) (e : TypeId) :
    ∃ g' ow', Rel P X N (((s.drop d).setR d (some ⟨k, m, x, true, false⟩)).put d (.one (.ptr d []))) g' F ow'
      (tm.setIfInBounds d (.pointer (some ⟨w.heap.size, 0, none⟩))) { w with heap := w.heap.push (.cells (vals k x l).toArray e) } := by
  have hext := ext_push w (.cells (vals k x l).toArray e)
  have h1 := h.ext hext (fun _ h => h) (fun _ h => .inl h)
  have h2 := h1.drop d
  have ht2 := ht.ext (fun b hb => (h.hF b hb).2) hext
  have hnew : ow w.heap.size = none := by
    cases e : ow w.heap.size with
    | none => rfl
    | some t => have := h.lt _ t e; omega
  have hnF : ¬ F w.heap.size := fun hF => by have := (h.hF _ hF).2; omega
  have hnotin : w.heap.size ∉ fp k m x l := fun hb => by have := (ht.no _ hb).2.2.1; omega
  have h3 := h2.setNew (d := d) (q := ⟨k, m, x, true, false, l, some (w.heap.size, 0)⟩) (Gs.set_self g d none) ht2.sat
    (fun c o e => by
      injection e with e; injection e with e1 e2; subst e1; subst e2
      exact blk_push w _ _ (fun j v hj => by simpa using hj)) rfl
    (by simpa [GR.fp, GR.fpi, hnotin] using ht.nd)
    (fun b hb => by
      simp only [GR.fp, GR.fpi, Option.map_some, Option.toList_some, List.mem_append, List.mem_singleton] at hb
      rcases hb with rfl | hb
      · exact ⟨by simp [owDrop, hnew], hnF, by simp⟩
      · obtain ⟨g1, g2, g3, _⟩ := ht2.no b hb
        exact ⟨by unfold owDrop; split; rfl; exact g1, g2, g3⟩)
    ⟨fun b hb => (ht.no b hb).2.2.2, fun b o e => by
      injection e with e; injection e with e1 e2; subst e1
      exact .inl (.inl h.size)⟩
    (fun _ b o e => by injection e with e; injection e with e1 e2; subst e1; exact .inl h.size)
  refine ⟨_, _, h3.put hd ⟨_, ⟨k, m, x, l, some (w.heap.size, 0)⟩, (w.heap.size, 0), Gs.set_self _ _ _, by simp [GR.at, gat], rfl, rfl⟩⟩
theorem zero_fp : ∀ (k : K) (m : Mk), fp k m k.zero (zeroL k) = []
  | .int _, _ | .bool, _ | .str, _ | .unit, _ => rfl
  | .pair a b, m => by simp only [fp, K.zero, zeroL, zero_fp a, zero_fp b, List.append_nil]
  | .sl k, m => by simp only [fp, K.zero, zeroL, own1, fpL, if_true, List.append_nil]; split <;> rfl
theorem zero_sat : ∀ (k : K) (m : Mk), sat w F k m k.zero (zeroL k)
  | .int _, _ | .bool, _ | .str, _ | .unit, _ => trivial
  | .pair a b, m => ⟨zero_sat a _, zero_sat b _⟩
  | .sl k, m => fun _ => ⟨⟨Nat.le_refl _, fun _ => rfl, (fun b o e => by cases e), fun _ _ b o e => by cases e⟩, fun i x h => by simp [K.zero] at h⟩
theorem zero_taken (k : K) (m : Mk) : Taken X F ow w k m k.zero (zeroL k) :=
  ⟨zero_sat k m, by rw [zero_fp]; simp, fun b hb => by rw [zero_fp] at hb; cases hb⟩
theorem m_alloc (h : Rel P X N s g F ow a.tmps w) (hE : EnvOk P E) {d t : Nat} (hd : d < N) (ho : o.op = .alloc t) (hdst : o.dst = some d)
    (hr : (match E.ty t with
      | some k => kk (((s.drop d).setR d (some ⟨k, Mk.full k, k.zero, true, false⟩)).put d (.one (.ptr d [])))
      | _ => none) = some r) (hn : ∀ a' w', MOk P X N a o.dst kk r a' w' → next a' w') : o.wp P a w next Q := by
  split at hr
  case h_2 => cases hr
  rename_i k hk
  have ht := hE.ty t k hk
  have he : (execOp a.eval o).run P w = .ok (.value (.pointer (some ⟨w.heap.size, 0, none⟩))) { w with heap := w.heap.push (.cells (vals k k.zero (zeroL k)).toArray t) } := by
    simp [execOp, ho, Instr.alloc, run_zeroK ht, newVar, newRow, valOf_cells]
  simp only [Oper.wp, he, Oper.upon]
  refine hn _ _ ⟨put_keeps a _ _, ?_⟩
  obtain ⟨g', ow', h1⟩ := h.giveM hd (zero_taken k (Mk.full k)) t
  exact ⟨_, g', F, ow', hr, by rw [put_tmps a hdst]; exact h1⟩
theorem m_boxTake (h : Rel P X N s g F ow a.tmps w) {d t : Nat} {x : Operand} (hd : d < N) (ho : o.op = .box t x) (hdst : o.dst = some d) {k : K}
    (hr : boxTake s d k (s.opd x) kk = some r) (hn : ∀ a' w', MOk P X N a o.dst kk r a' w' → next a' w') : o.wp P a w next Q := by
  unfold boxTake at hr
  obtain ⟨k', m, z, l, s', g', ow', q1, q2, q3, q4, q5, q6, q7, q8⟩ := take_ok h (h.opd x).weak hr
  simp only at q1
  split at q1
  case isFalse => cases q1
  rename_i hkk
  subst hkk
  have he : (execOp a.eval o).run P w = .ok (.value (.pointer (some ⟨w.heap.size, 0, none⟩))) { w with heap := w.heap.push (.cells (vals k' z l).toArray t) } := by
    simp [execOp, ho, Instr.box, newVar, newRow, q5, valOf_cells]
  simp only [Oper.wp, he, Oper.upon]
  refine hn _ _ ⟨put_keeps a _ _, ?_⟩
  obtain ⟨g2, ow2, h1⟩ := q2.giveM hd q6 t
  exact ⟨_, g2, F, ow2, q1, by rw [put_tmps a hdst]; exact h1⟩
theorem m_box (h : Rel P X N s g F ow a.tmps w) (hE : EnvOk P E) {d t : Nat} {x : Operand} (hd : d < N) (ho : o.op = .box t x) (hdst : o.dst = some d)
    (hr : (match E.ty t with
      | some k => match s.opd x with
        | .al u [] => match s.root u with
          | some r => cond (!r.mem && !Nat.beq u d) (if r.k = k then kk ((((s.drop d).setR u (some { r with mem := true, tmp := false })).retag u d).put d (.one (.ptr d []))) else none) (boxTake s d k (.al u []) kk)
          | none => none
        | c => boxTake s d k c kk
      | _ => none) = some r) (hn : ∀ a' w', MOk P X N a o.dst kk r a' w' → next a' w') : o.wp P a w next Q := by
  split at hr
  case h_2 => cases hr
  rename_i k hk
  have hx := h.opd x
  split at hr
  · rename_i u hp
    rw [hp] at hx
    obtain ⟨q, c, h1, h2, h4⟩ := hx
    rw [h.rootTo h1] at hr
    simp only [GR.rt] at hr
    cases hb : (!q.mem && !Nat.beq u d) with
    | false =>
      rw [hb] at hr
      rw [← hp] at hr
      exact m_boxTake h hd ho hdst hr hn
    | true =>
      rw [hb] at hr
      simp only [Bool.and_eq_true, Bool.not_eq_true'] at hb
      have hud : u ≠ d := fun e => by rw [e, Nat.beq_refl] at hb; cases hb.2
      simp only [cond_true] at hr
      have key : ∀ (inst : Decidable (q.k = k)) (z : Option R), (@ite _ (q.k = k) inst z none) = some r → q.k = k ∧ z = some r := fun inst z h => by
        cases inst with
        | isTrue h' => exact ⟨h', h⟩
        | isFalse h' => cases h
      obtain ⟨hkk, hr⟩ := key _ _ hr
      simp [GR.at, gat] at h2
      subst h2
      simp only at h4
      have hqb : q.b = none := by
        have := h.mb u q h1
        rw [hb.1] at this
        cases hq : q.b with
        | none => rfl
        | some _ => rw [hq] at this; cases this
      have he : (execOp a.eval o).run P w = .ok (.value (.pointer (some ⟨w.heap.size, 0, none⟩))) { w with heap := w.heap.push (.cells (vals q.k q.x q.l).toArray t) } := by
        simp [execOp, ho, Instr.box, newVar, newRow, h4, valOf_cells]
      simp only [Oper.wp, he, Oper.upon]
      refine hn _ _ ⟨put_keeps a _ _, ?_⟩
      have e1 := h.drop d
      have hgu : (g.set d none) u = some q := by rw [Gs.set_ne _ _ hud]; exact h1
      have e2 := e1.toMem hgu hqb t
      have e3 := e2.retag (t := u) (d := d) (by rw [Gs.set_ne _ _ (Ne.symm hud), Gs.set_self]) hud (fun q1 hq1 _ b o hb => by
        rw [Gs.set_self] at hq1
        injection hq1 with hq1
        subst hq1
        injection hb with hb
        injection hb with e1 e2
        subst e1
        exact .inl h.size)
      have e4 := e3.put hd (c := .one (.ptr d [])) (v := .pointer (some ⟨w.heap.size, 0, none⟩)) ⟨⟨q.k, q.m, q.x, true, false, q.l, some (w.heap.size, 0)⟩, ⟨q.k, q.m, q.x, q.l, some (w.heap.size, 0)⟩, (w.heap.size, 0), by rw [Gs.set_self, Gs.set_self], by simp [GR.at, gat], rfl, rfl⟩
      exact ⟨_, _, F, _, hr, by rw [put_tmps a hdst]; exact e4⟩
  · exact m_boxTake h hd ho hdst hr hn
theorem set_blk {k : K} {m : Mk} {x : T k} {l : L k} {p : List Stp} {base : Option (Nat × Nat)} {c : Ct} {kk : Mk → T k → Option R} {old : GC} (hr : Ct.set k m x p c kk = some r) (hg : gat k m x l base p = some old) (hs : Ev.sat w F k m x l)
    {vs : List Value} (hb : atBase w base vs) {b o : Nat} (e : old.b = some (b, o)) : Blk w b fun _ => True := by
  rcases set_where hr hg hs b o e with ⟨o2, h1, _⟩ | h1
  · exact (hb b o2 h1).mono fun _ _ => trivial
  · exact fp_blk hs b h1
theorem gset_gat : ∀ {p : List Stp} {k : K} {m : Mk} {x : T k} {l : L k} {c : Ct} {l' : L c.k} {m' : Mk} {x' : T k} {l2 : L k}, gset k m x l p c l' = some (m', x', l2) → ∀ base, ∃ b0, gat k m' x' l2 base p = some ⟨c.k, c.m, c.x, l', b0⟩
  | [], k, m, x, l, c, l', m', x', l2, h, base => by
    simp only [gset] at h
    split at h
    case isFalse => cases h
    rename_i hk
    obtain ⟨ck, cm, cx⟩ := c
    dsimp only at hk
    subst hk
    injection h with h
    injection h with h1 h2
    injection h2 with h2 h3
    subst h1; subst h2; subst h3
    exact ⟨base, by simp [gat]⟩
  | st :: p, k, m, x, l, c, l', m', x', l2, h, base => by
    cases k <;> cases st <;> simp only [gset] at h <;> first | (cases h; done) | skip
    · simp only [Option.map_eq_some_iff] at h
      obtain ⟨y, hy, e⟩ := h
      injection e with e1 e2
      injection e2 with e2 e3
      subst e1; subst e2; subst e3
      obtain ⟨b0, hb⟩ := gset_gat (m' := y.1) (x' := y.2.1) (l2 := y.2.2) hy base
      exact ⟨b0, by simp only [gat, Mk.mkp_l]; exact hb⟩
    · simp only [Option.map_eq_some_iff] at h
      obtain ⟨y, hy, e⟩ := h
      injection e with e1 e2
      injection e2 with e2 e3
      subst e1; subst e2; subst e3
      obtain ⟨b0, hb⟩ := gset_gat (m' := y.1) (x' := y.2.1) (l2 := y.2.2) hy (mv base _)
      exact ⟨b0, by simp only [gat, Mk.mkp_r]; exact hb⟩
    · rename_i i
      split at h
      case h_2 => cases h
      rename_i z hz
      split at h
      case h_2 => cases h
      rename_i y hy
      split at h
      case isFalse => cases h
      rename_i hm
      injection h with h
      injection h with h1 h2
      injection h2 with h2 h3
      subst h1; subst h2; subst h3
      have hlen := (List.getElem?_eq_some_iff.1 hz).1
      obtain ⟨b0, hb⟩ := gset_gat (m' := y.1) (x' := y.2.1) (l2 := y.2.2) hy (mv l.1.1 _)
      refine ⟨b0, ?_⟩
      simp only [gat]
      rw [if_neg (by intro e; rw [e] at hm; simp [Mk.owns] at hm), List.getElem?_set_self hlen]
      simp only [if_true]
      rw [← hm.1]
      exact hb
theorem Rel.store (h : Rel P X N s g F ow tm w) {u : Nat} {q : GR} (hg : g u = some q) {p : List Stp} {old : GC} (hgat : q.at p = some old) {b o' : Nat} (hb : old.b = some (b, o'))
    {k : K} {m : Mk} {x : T k} {l : L k} (ht : Taken X F ow w k m x l) {kk : Mk → T q.k → Option R} (hr : Ct.set q.k q.m q.x p ⟨k, m, x⟩ kk = some r) (h0 : k.size ≠ 0) :
    ∃ m' x' g' ow', kk m' x' = some r ∧ old.k = k ∧ Rel P X N ((s.kill u p).setR u (some ⟨q.k, m', x', q.mem, q.tmp⟩)) g' F ow' tm (w.setCells b o' (vals k x l)) ∧ ∃ r0 b0, g' u = some r0 ∧ r0.at p = some ⟨k, m, x, l, b0⟩ := by
  obtain ⟨m', x', l2, ⟨h1, hgs⟩, hk, H⟩ := set_ok (c := ⟨k, m, x⟩) l hr hgat
  simp only at hk
  have hqnd := h.nd u q hg
  have hqnd' : (q.b.map (·.1)).toList.Nodup ∧ (fp q.k q.m q.x q.l).Nodup ∧ ∀ b ∈ (q.b.map (·.1)).toList, ∀ c ∈ fp q.k q.m q.x q.l, b ≠ c := by
    simpa [GR.fp, GR.fpi, List.nodup_append] using hqnd
  have hin : ∀ c ∈ fp q.k q.m q.x q.l, c ∈ q.fp := fun c hc => by simp only [GR.fp, GR.fpi, List.mem_append]; exact .inr hc
  have hbin : ∀ c o, q.b = some (c, o) → c ∈ q.fp := fun c o e => by simp [GR.fp, e]
  have hmem := gat_mem hgat (h.sat u q hg) (h.mem u q hg) b o' hb
  have hbs : Blk w b fun cs => o' + (vals k x l).length ≤ cs.size := by
    rw [vals_length]
    refine ((set_blk hr hgat (h.sat u q hg) (h.mem u q hg) hb).and hmem).mono fun cs hc => ?_
    have hc := hc.2
    have hne : vals old.k old.x old.l ≠ [] := by
      intro e
      have : old.k.size = 0 := by rw [← vals_length old.k old.x old.l, e]; rfl
      rw [← hk] at this
      exact h0 this
    have := hc.size hne
    rw [vals_length, ← hk] at this
    exact this
  obtain ⟨s1, s2, s3, s4, s5, s6, s7⟩ := setCells_spec (vals k x l) o' w hbs
  rw [vals_length] at s1
  have hwh := set_where hr hgat (h.sat u q hg) b o' hb
  have hbq : b ∈ q.fp := by
    rcases hwh with ⟨o2, e, _⟩ | e
    · exact hbin b o2 e
    · exact hin b e
  have hob : ow b = some u := h.ho u q hg b hbq
  have hnF : ¬ F b := fun hF => by rw [(h.hF b hF).1] at hob; cases hob
  have hFw : ∀ c, F c → (w.setCells b o' (vals k x l)).heap[c]? = w.heap[c]? := fun c hc => s3 c (fun e => hnF (e ▸ hc))
  have htno : ∀ c ∈ fp k m x l, c ≠ b := fun c hc e => by rw [← e, (ht.no c hc).1] at hob; cases hob
  have Z := H w (w.setCells b o' (vals k x l)) F F b o'
    { place := hb, sat := h.sat u q hg, mem := h.mem u q hg
      nb := fun c o e => ⟨fun hc => hqnd'.2.2 c (by simp [e]) c hc rfl, (fun hF => by have := h.ho u q hg c (hbin c o e); rw [(h.hF c hF).1] at this; cases this)⟩
      nd := hqnd'.2.1, nF := fun c hc hF => by have := h.ho u q hg c (hin c hc); rw [(h.hF c hF).1] at this; cases this
      rng := s1, new := s2, same := fun c _ hc _ => s3 c hc
      sat' := sat_frame ht.sat (fun c hc => s3 c (hc.elim (htno c) (fun hF e => hnF (e ▸ hF)))) (fun _ h => h)
      apart := fun c hc => ⟨(fun hc' => by have := h.ho u q hg c (hin c hc'); rw [(ht.no c hc).1] at this; cases this), (fun o e => by have := h.ho u q hg c (hbin c o e); rw [(ht.no c hc).1] at this; cases this), htno c hc⟩
      nd' := ht.nd, le := fun _ h => h }
  have hnewfp : ∀ c ∈ fp q.k m' x' l2, ow c = some u ∨ c ∈ fp k m x l := fun c hc => (Z.fp c hc).imp (fun e => h.ho u q hg c (hin c e)) id
  obtain ⟨b0, hb0⟩ := gset_gat hgs q.b
  refine ⟨m', x', _, owAdd ow (fp k m x l) u, h1, hk.symm, h.reset hg hgs (fun _ h => h) hFw Z.sat Z.mem ?_ ?_ ?_ ?_ ?_ ?_ h.Fnew ?_ (by rw [s4]; exact Nat.le_refl _) s5 s6 s7, _, b0, Gs.set_self _ _ _, hb0⟩
  · rw [List.nodup_append]
    refine ⟨hqnd'.1, Z.nd, ?_⟩
    rintro c hc c2 hc2 rfl
    rcases Z.fp c hc2 with e | e
    · exact hqnd'.2.2 c hc c e rfl
    · have : ow c = some u := h.ho u q hg c (by simp only [GR.fp, List.mem_append]; exact .inl hc)
      rw [(ht.no c e).1] at this; cases this
  · intro n q' hnu hq c hc
    have hoc := h.ho n q' hq c hc
    refine ⟨s3 c (fun e => ?_), ?_⟩
    · rw [e, hob] at hoc; injection hoc with hoc; exact hnu hoc.symm
    · rw [owAdd_not (fun hc' => by rw [(ht.no c hc').1] at hoc; cases hoc)]; exact hoc
  · intro c hc
    rw [List.mem_append] at hc
    by_cases hcx : c ∈ fp k m x l
    · exact owAdd_mem hcx
    · rw [owAdd_not hcx]
      rcases hc with hc | hc
      · exact h.ho u q hg c (by simp only [GR.fp, List.mem_append]; exact .inl hc)
      · exact (hnewfp c hc).resolve_right hcx
  · intro c hc
    refine ⟨?_, by rw [s4]; exact (h.hF c hc).2⟩
    rw [owAdd_not (fun hc' => (ht.no c hc').2.1 hc)]
    exact (h.hF c hc).1
  · intro c t hc
    rw [s4]
    by_cases hcx : c ∈ fp k m x l
    · exact (ht.no c hcx).2.2.1
    · rw [owAdd_not hcx] at hc; exact h.lt c t hc
  · intro c hc
    rcases Z.fp c hc with e | e
    · exact (h.own u q hg).1 c e
    · exact (ht.no c e).2.2.2
  · intro c hc hhd
    have hk0 := h.kept c hc hhd
    by_cases hcb : c = b
    · subst hcb
      -- the block is an outer one, reached by a pointer: the store lies in its range
      have hfree : ¬ X.free c := fun hf => hf.elim (fun hf => by omega) hhd
      rcases hwh with ⟨o2, e, e1, e2, _⟩ | e
      · rcases (h.own u q hg).2 c o2 e with hf | ⟨o3, n3, hr3, e3, e4⟩
        · exact absurd hf hfree
        · rw [hr3] at hk0 ⊢
          obtain ⟨cs, t, fr, cs', k1, k2, k3, k4⟩ := hk0
          obtain ⟨ds, t', fr', ds', j1, j2, j3, j4⟩ := s1
          rw [k2] at j1
          injection j1 with j1; injection j1 with i1 i2 i3
          subst i1; subst i2; subst i3
          refine ⟨cs, t, fr, ds', k1, j2, by rw [j3, k3], fun j hj => ?_⟩
          rw [j4 j (by rw [← hk] at e2; omega), k4 j hj]
      · exact absurd ((h.own u q hg).1 c e) hfree
    · have e := s3 c hcb
      cases hrg : X.rg c with
      | none => rw [hrg] at hk0; simp only at hk0 ⊢; rw [e]; exact hk0
      | some y =>
        rw [hrg] at hk0
        obtain ⟨cs, t, fr, cs', k1, k2, k3, k4⟩ := hk0
        exact ⟨cs, t, fr, cs', k1, by rw [e]; exact k2, k3, k4⟩
theorem keepOf_some {x : Operand} {t : Nat} (h : keepOf E s x = some t) : ∃ rt, s.opd x = .al t [] ∧ s.root t = some rt ∧ rt.mem = false := by
  unfold keepOf at h
  split at h
  case h_2 => cases h
  rename_i n
  cases hk : E.keep n with
  | false => rw [hk] at h; cases h
  | true =>
  rw [hk] at h
  simp only [cond_true] at h
  split at h
  case h_2 => cases h
  rename_i t' ho
  split at h
  case h_2 => cases h
  rename_i rt hr
  cases hm : rt.mem with
  | true => rw [hm] at h; cases h
  | false =>
    rw [hm] at h
    simp only [cond_false, Option.some.injEq] at h
    subst h
    exact ⟨rt, ho, hr, hm⟩
theorem Rel.taken (h : Rel P X N s g F ow tm w) {t : Nat} {q : GR} (hg : g t = some q) : Taken X F (owDrop ow t) w q.k q.m q.x q.l := by
  have hnd := h.nd t q hg
  simp only [GR.fp, GR.fpi, List.nodup_append] at hnd
  refine ⟨h.sat t q hg, hnd.2.1, fun b hb => ?_⟩
  have hob : ow b = some t := h.ho t q hg b (by simp only [GR.fp, GR.fpi, List.mem_append]; exact .inr hb)
  exact ⟨by simp [owDrop, hob], fun hF => (by rw [(h.hF b hF).1] at hob; cases hob), h.lt b t hob, (h.own t q hg).1 b hb⟩
theorem m_store (h : Rel P X N s g F ow a.tmps w) (hE : EnvOk P E) {t : Nat} {y x : Operand} (ho : o.op = .store t y x) (hdst : o.dst = none)
    (hr : (match E.ty t with
      | some k => cond (Nat.beq k.size 0) none (match s.opd y with
        | .ptr u p => match s.opd x with
          | .nil0 => match k with
            | .sl k' => match s.root u with
              | some r => Ct.set r.k r.m r.x p ⟨.sl k', Mk.full (.sl k'), []⟩ fun m y => kk ((s.kill u p).setR u (some { r with m := m, x := y }))
              | none => none
            | _ => none
          | xw => s.take xw fun c s' => if c.k = k then (match s'.root u with
              | some r => Ct.set r.k r.m r.x p c fun m y => kk (keepS E s x u p ((s'.kill u p).setR u (some { r with m := m, x := y })))
              | none => none) else none
        | _ => none)
      | none => none) = some r) (hn : ∀ a' w', MOk P X N a o.dst kk r a' w' → next a' w') : o.wp P a w next Q := by
  split at hr
  case h_2 => cases hr
  rename_i k hk
  have ht := hE.ty t k hk
  cases hz : Nat.beq k.size 0 with
  | true => rw [hz] at hr; cases hr
  | false =>
  rw [hz] at hr
  simp only [cond_false] at hr
  have h0 : k.size ≠ 0 := by intro h; rw [h] at hz; cases hz
  have hy := h.opd y
  have hx := h.opd x
  split at hr
  case h_2 => cases hr
  rename_i u p hp
  rw [hp] at hy
  -- the store itself, whatever was taken before
  have fin : ∀ (s' : St) (g' : Gs) (ow' : Nat → Option Nat) (m : Mk) (z : T k) (l : L k) (G : St → St), Rel P X N s' g' F ow' a.tmps w → Up g g' → Taken X F ow' w k m z l → a.eval x = valOf k z l →
      (∀ (σ : St) (g2 : Gs) (F2 : Nat → Prop) (ow2 : Nat → Option Nat) (w2 : World), Rel P X N σ g2 F2 ow2 a.tmps w2 → (∃ r0 b0, g2 u = some r0 ∧ r0.at p = some ⟨k, m, z, l, b0⟩) → Rel P X N (G σ) g2 F2 ow2 a.tmps w2) →
      (match s'.root u with
        | some r => Ct.set r.k r.m r.x p ⟨k, m, z⟩ fun m y => kk (G ((s'.kill u p).setR u (some { r with m := m, x := y })))
        | none => none) = some r → o.wp P a w next Q := by
    intro s' g' ow' m z l G h' hup ht' hv hG hr
    split at hr
    case h_2 => cases hr
    rename_i rt hrt
    obtain ⟨q, hg, rfl⟩ := h'.rootOf hrt
    simp only [GR.rt] at hr
    -- the place
    have hgat : ∃ old, q.at p = some old := by
      have : ∀ {p : List Stp} {k : K} {m : Mk} {x : T k} {l : L k} {b : Option (Nat × Nat)} {c : Ct} {kk : Mk → T k → Option R}, Ct.set k m x p c kk = some r → ∃ z, gat k m x l b p = some z := by
        intro p
        induction p with
        | nil => intro k m x l b c kk _; exact ⟨_, by simp [gat]; rfl⟩
        | cons e p ih =>
          intro k m x l b c kk h
          cases k <;> cases e <;> simp only [Ct.set, gat] at h ⊢ <;> first | (cases h; done) | skip
          · exact ih h
          · exact ih h
          · rename_i k i
            split at h
            case h_2 => cases h
            rename_i z hz
            by_cases hmd : m = .d
            · subst hmd
              -- nothing is set below what has been moved away
              exfalso
              obtain ⟨y, hy⟩ := ih (l := zeroL k) (b := none) h
              have : ∀ {p : List Stp} {k : K} {m0 : Mk} {x : T k} {c : Ct} {g : Mk → T k → Option R}, Ct.set k m0 x p c g = some r → ∃ m' y, g m' y = some r := by
                intro p
                induction p with
                | nil =>
                  intro k m0 x c g h
                  simp only [Ct.set] at h
                  split at h
                  · exact ⟨_, _, h⟩
                  · cases h
                | cons e p ih =>
                  intro k m0 x c g h
                  cases k <;> cases e <;> simp only [Ct.set] at h <;> first | (cases h; done) | skip
                  · obtain ⟨m', y, e⟩ := ih h; exact ⟨_, _, e⟩
                  · obtain ⟨m', y, e⟩ := ih h; exact ⟨_, _, e⟩
                  · split at h
                    case h_2 => cases h
                    obtain ⟨m', y, e⟩ := ih h
                    split at e
                    · exact ⟨_, _, e⟩
                    · cases e
              obtain ⟨m', y, e⟩ := this h
              simp [Mk.owns] at e
            · first
                | (rw [if_neg hmd, hz]; exact ih h)
                | (rw [if_neg hmd]; exact ih h)
      exact this hr
    obtain ⟨old, hgat⟩ := hgat
    have hyW := (PcOk.weak hy).up hup
    obtain ⟨⟨b, o'⟩, hb, hpv⟩ := hyW q _ hg (gat_gatx hgat)
    simp only at hb
    obtain ⟨m', x', g2, ow2, e1, e2, e3, e4⟩ := h'.store hg hgat hb ht' hr h0
    have hmem := gat_mem hgat (h'.sat u q hg) (h'.mem u q hg) b o' hb
    have hrun := run_storeK (P := P) ht (x := z) (l := l) (((set_blk hr hgat (h'.sat u q hg) (h'.mem u q hg) hb).and hmem).mono fun cs hc => by
      have hc := hc.2
      have hne : vals old.k old.x old.l ≠ [] := by
        intro e
        have : old.k.size = 0 := by rw [← vals_length old.k old.x old.l, e]; rfl
        rw [e2] at this
        exact h0 this
      have := hc.size hne
      rw [vals_length, e2] at this
      exact this)
    have he : (execOp a.eval o).run P w = .ok .skip (w.setCells b o' (vals k z l)) := by
      simp [execOp, ho, Instr.storeAt, hpv, adr, Instr.sureAddr, hv, hrun]
    simp only [Oper.wp, he, Oper.upon]
    refine hn _ _ ⟨put_keeps a _ _, _, g2, F, ow2, e1, ?_⟩
    rw [hdst]
    exact hG _ _ _ _ _ e3 e4
  split at hr
  · rename_i hxp
    rw [hxp] at hx
    obtain ⟨qa, h4, hqa⟩ := hx
    split at hr
    case h_2 => cases hr
    rename_i k'
    exact fin s g ow _ [] ((qa, 0), fun _ => zeroL k') id h (Up.refl g) (nilZ_taken h hqa) h4 (fun _ _ _ _ _ h _ => h) hr
  · cases hko : keepOf E s x with
    | none =>
      obtain ⟨k', m, z, l, s', g', ow', q1, q2, q3, q4, q5, q6, q7, q8⟩ := take_ok h hx.weak hr
      simp only at q1
      split at q1
      case isFalse => cases q1
      rename_i hkk
      subst hkk
      exact fin s' g' ow' m z l (keepS E s x u p) q2 q3 q6 q5 (fun σ _ _ _ _ h _ => by simp only [keepS, hko]; exact h) q1
    | some t =>
      obtain ⟨rt, h1, h2, h3⟩ := keepOf_some hko
      rw [h1] at hr hx
      obtain ⟨q, hg, rfl⟩ := h.rootOf h2
      have hm : q.mem = false := h3
      have hqb : q.b = none := by
        have h5 := h.mb t q hg
        rw [hm] at h5
        cases hb : q.b with
        | none => rfl
        | some z => rw [hb] at h5; cases h5
      simp only [St.take, h2, List.isEmpty_nil, GR.rt, hm, Bool.not_false, Bool.true_and, cond_true] at hr
      cases hw : q.m.whole with
      | false => rw [hw] at hr; cases hr
      | true =>
      rw [hw] at hr
      simp only [cond_true] at hr
      split at hr
      case isFalse => cases hr
      rename_i hkk
      subst hkk
      obtain ⟨qx, cx, x1, x2, x3⟩ := hx
      rw [hg] at x1
      injection x1 with x1
      subst x1
      simp [GR.at, gat] at x2
      subst x2
      refine fin (s.drop t) (g.set t none) (owDrop ow t) q.m q.x q.l (keepS E s x u p) (h.drop t) ?_ (h.taken hg) x3 ?_ hr
      · intro n q' hn
        by_cases hnt : n = t
        · subst hnt; rw [Gs.set_self] at hn; cases hn
        · rw [Gs.set_ne _ _ hnt] at hn; exact ⟨q', hn, rfl, HEq.rfl, HEq.rfl, rfl, rfl⟩
      · rintro σ g2 F2 ow2 w2 hσ ⟨r0, b0, k1, k2⟩
        simp only [keepS, hko]
        refine hσ.slots (σ := (σ.movedS s t u p).slot) fun n => ?_
        simp only [St.movedS]
        split
        · rename_i t' p' hsl
          cases htt : Nat.beq t' t with
          | false => left; rfl
          | true =>
          simp only [cond_true]
          have htt := Nat.eq_of_beq_eq_true htt
          subst htt
          split
          · rename_i hbad
            right
            have hnN : n < N := by
              rcases Nat.lt_or_ge n N with e | e
              · exact e
              · rw [h.big n e] at hsl; cases hsl
            refine ⟨?_, hnN⟩
            have hv1 := h.slot n
            rw [hsl] at hv1
            obtain ⟨qq, cc, g1, g2', g3⟩ := hv1
            rw [hg] at g1
            injection g1 with g1
            subst g1
            simp only [GR.at, hqb] at g2'
            obtain ⟨b3, k3, _⟩ := gat_rebase b0 g2'
            refine ⟨r0, ⟨cc.k, cc.m, cc.x, cc.l, b3⟩, k1, ?_, g3⟩
            simp only [GR.at] at k2 ⊢
            rw [gat_append, k2]
            exact k3
          · left; rfl
        · left; rfl
end
end Go.Proofs.YthlnjkcpdkjipaaDoor.Ev

/- Structs and slices that are made. -/
namespace Go.Proofs.YthlnjkcpdkjipaaDoor.Ev
section
variable {P : Program} {X : Cx} {N : Nat} {a : Act} {s : St} {g : Gs} {F : Nat → Prop} {ow : Nat → Option Nat} {w : World} {R : Type} {r : R} {tm : Array Value} {E : Env}
  {o : Oper} {next : Act → World → Prop} {Q : Exit → Act → World → Prop} {kk : St → Option R}
structure LC where
  k : K
  m : Mk
  x : T k
  l : L k
@[reducible] def LC.ct (c : LC) : Ct := ⟨c.k, c.m, c.x⟩
def LC.fp (c : LC) : List Nat := Ev.fp c.k c.m c.x c.l
def LC.val (c : LC) : Value := valOf c.k c.x c.l
theorem takeAll_ok : ∀ {cs : List Pc} {vs : List Value} {s : St} {g : Gs} {ow : Nat → Option Nat} {kk : List Ct → St → Option R}, Rel P X N s g F ow tm w → PcsW P g F w cs vs → takeAll s cs kk = some r →
    ∃ (ls : List LC) (s' : St) (g' : Gs) (ow' : Nat → Option Nat), kk (ls.map LC.ct) s' = some r ∧ Rel P X N s' g' F ow' tm w ∧ Up g g' ∧ (∀ b t, ow' b = some t → ow b = some t) ∧
      vs = ls.map LC.val ∧ (∀ c ∈ ls, Taken X F ow' w c.k c.m c.x c.l) ∧ (ls.flatMap LC.fp).Nodup ∧ (∀ b ∈ ls.flatMap LC.fp, ∃ t, ow b = some t)
  | [], _, s, g, ow, kk, h, hc, hr => by
    cases hc
    exact ⟨[], s, g, ow, hr, h, Up.refl g, fun _ _ h => h, rfl, (fun c hc => by cases hc), List.nodup_nil, (fun b hb => by cases hb)⟩
  | c :: cs, _, s, g, ow, kk, h, hc, hr => by
    cases hc with
    | cons h1 h2 =>
    simp only [takeAll] at hr
    obtain ⟨k, m, x, l, s1, g1, ow1, q1, q2, q3, q4, q5, q6, q7, q8⟩ := take_ok h h1 hr
    obtain ⟨ls, s2, g2, ow2, p1, p2, p3, p4, p5, p6, p7, p8⟩ := takeAll_ok q2 (h2.up q3) q1
    refine ⟨⟨k, m, x, l⟩ :: ls, s2, g2, ow2, p1, p2, q3.trans p3, fun b t hb => q4 b t (p4 b t hb), by simp [p5, q5, LC.val], ?_, ?_, ?_⟩
    · intro c hc
      rcases List.mem_cons.1 hc with rfl | hc
      · exact q6.le p4
      · exact p6 c hc
    · simp only [List.flatMap_cons, List.nodup_append]
      refine ⟨q6.nd, p7, ?_⟩
      rintro b hb b2 hb2 rfl
      obtain ⟨t, ht⟩ := p8 b hb2
      rw [(q6.no b hb).1] at ht; cases ht
    · intro b hb
      simp only [List.flatMap_cons, List.mem_append] at hb
      rcases hb with hb | hb
      · obtain ⟨t, _, ht⟩ := q8 b hb; exact ⟨t, ht⟩
      · obtain ⟨t, ht⟩ := p8 b hb; exact ⟨t, q4 b t ht⟩
def splice (l : List Value) (o : Nat) (v : List Value) : List Value := l.take o ++ v ++ l.drop (o + v.length)
theorem splice_length {l : List Value} {o : Nat} {v : List Value} (h : o + v.length ≤ l.length) : (splice l o v).length = l.length := by
  simp [splice]; omega
theorem splice_append (A B v : List Value) (o : Nat) : splice (A ++ B) (A.length + o) v = A ++ splice B o v := by
  simp only [splice, List.take_length_add_append, Nat.add_assoc, List.drop_length_add_append, List.append_assoc]
theorem fset {r : R} : ∀ {f : Nat} {k : K} {m : Mk} {x : T k} (l : L k) {c : LC} {kk : Mk → T k → Option R}, Ct.set k m x (fpath f) c.ct kk = some r →
    k.fld f = some c.k ∧ ∃ m' x' l', kk m' x' = some r ∧ (∀ w F, sat w F k m x l → sat w F c.k c.m c.x c.l → sat w F k m' x' l') ∧ (∀ b ∈ fp k m' x' l', b ∈ fp k m x l ∨ b ∈ c.fp) ∧
      ((fp k m x l).Nodup → c.fp.Nodup → (∀ b ∈ c.fp, b ∉ fp k m x l) → (fp k m' x' l').Nodup) ∧ vals k x' l' = splice (vals k x l) (k.offs f) (vals c.k c.x c.l) ∧ k.offs f + c.k.size ≤ k.size ∧
      gatx k x' l' none (fpath f) = some ⟨c.k, c.x, c.l, none⟩ ∧ ∀ f', f' ≠ f → gatx k x' l' none (fpath f') = gatx k x l none (fpath f')
  | 0, k, m, x, l, c, kk, h => by
    cases k <;> simp only [fpath, Ct.set] at h <;> first | (cases h; done) | skip
    rename_i ka kb
    split at h
    case isFalse => cases h
    rename_i hk
    obtain ⟨ck, cm, cx, cl⟩ := c
    dsimp only at hk
    subst hk
    refine ⟨rfl, _, _, (cl, l.2), h, fun w F h1 h2 => ⟨by rw [Mk.mkp_l]; exact h2, by rw [Mk.mkp_r]; exact h1.2⟩, fun b hb => ?_, fun h1 h2 h3 => ?_, ?_, by simp [K.offs, K.size], by simp [fpath, gatx], fun f' hf' => ?_⟩
    · simp only [fp, Mk.mkp_l, Mk.mkp_r, List.mem_append] at hb ⊢
      exact hb.elim .inr (fun hb => .inl (.inr hb))
    · simp only [fp, Mk.mkp_l, Mk.mkp_r, List.nodup_append] at h1 ⊢
      refine ⟨h2, h1.2.1, ?_⟩
      rintro b hb b2 hb2 rfl
      exact h3 b hb (by simp only [fp, List.mem_append]; exact .inr hb2)
    · simp only [K.offs, splice, vals, List.take_zero, List.nil_append, Nat.zero_add]
      rw [vals_length, List.drop_append_of_le_length (by rw [vals_length]; exact Nat.le_refl _)]
      rw [List.drop_of_length_le (by rw [vals_length]; exact Nat.le_refl _), List.nil_append]
    · cases f' with
      | zero => exact absurd rfl hf'
      | succ f' => simp [fpath, gatx]
  | f + 1, k, m, x, l, c, kk, h => by
    cases k <;> simp only [fpath, Ct.set] at h <;> first | (cases h; done) | skip
    rename_i ka kb
    obtain ⟨h0, m', x', l', h1, h2, h3, h4, h5, h6, h7, h8⟩ := fset l.2 h
    refine ⟨h0, _, _, (l.1, l'), h1, fun w F g1 g2 => ⟨by rw [Mk.mkp_l]; exact g1.1, by rw [Mk.mkp_r]; exact h2 w F g1.2 g2⟩, fun b hb => ?_, fun g1 g2 g3 => ?_, ?_, by simp [K.offs, K.size]; omega, by simpa [fpath, gatx, mv] using h7, fun f' hf' => ?_⟩
    · simp only [fp, Mk.mkp_l, Mk.mkp_r, List.mem_append] at hb ⊢
      rcases hb with hb | hb
      · exact .inl (.inl hb)
      · exact (h3 b hb).imp .inr id
    · simp only [fp, Mk.mkp_l, Mk.mkp_r, List.nodup_append] at g1 ⊢
      have g3' : ∀ b ∈ c.fp, b ∉ fp ka m.l x.1 l.1 ∧ b ∉ fp kb m.r x.2 l.2 := fun b hb => by
        have := g3 b hb
        simp only [fp, List.mem_append, not_or] at this
        exact this
      refine ⟨g1.1, h4 g1.2.1 g2 (fun b hb => (g3' b hb).2), ?_⟩
      rintro b hb b2 hb2 rfl
      rcases h3 b hb2 with e | e
      · exact g1.2.2 b hb b e rfl
      · exact (g3' b e).1 hb
    · simp only [vals, h5, splice, K.offs]
      have hl : (vals ka x.1 l.1).length = ka.size := vals_length _ _ _
      have := splice_append (vals ka x.1 l.1) (vals kb x.2 l.2) (vals c.k c.x c.l) (kb.offs f)
      rw [hl] at this
      simp only [splice] at this
      rw [this]
    · cases f' with
      | zero => simp [fpath, gatx]
      | succ f' => simpa [fpath, gatx, mv] using h8 f' (fun e => hf' (by rw [e]))
theorem buildAt_ok {w : World} {F : Nat → Prop} : ∀ {cs : List (Nat × LC)} {k : K} {m : Mk} {x : T k} (l : L k) {kk : Mk → T k → Option R}, buildAt k (cs.map fun y => (y.1, y.2.ct)) m x kk = some r →
    (fp k m x l ++ cs.flatMap fun y => y.2.fp).Nodup → sat w F k m x l → (∀ y ∈ cs, sat w F y.2.k y.2.m y.2.x y.2.l) →
    ∃ m' x' l', kk m' x' = some r ∧ (∀ y ∈ cs, k.fld y.1 = some y.2.k ∧ k.offs y.1 + y.2.k.size ≤ k.size) ∧ sat w F k m' x' l' ∧
      (∀ b ∈ fp k m' x' l', b ∈ fp k m x l ∨ b ∈ cs.flatMap fun y => y.2.fp) ∧ (fp k m' x' l').Nodup ∧
      vals k x' l' = cs.foldl (fun l y => splice l (k.offs y.1) (vals y.2.k y.2.x y.2.l)) (vals k x l) ∧
      (∀ f', f' ∉ cs.map (·.1) → gatx k x' l' none (fpath f') = gatx k x l none (fpath f')) ∧ ((cs.map (·.1)).Nodup → ∀ y ∈ cs, gatx k x' l' none (fpath y.1) = some ⟨y.2.k, y.2.x, y.2.l, none⟩)
  | [], k, m, x, l, kk, hr, hn, hs, _ => ⟨m, x, l, hr, (fun y hy => by cases hy), hs, fun b hb => .inl hb, by simpa using hn, rfl, fun _ _ => rfl, fun _ y hy => by cases hy⟩
  | (f, c) :: cs, k, m, x, l, kk, hr, hn, hs, hcs => by
    simp only [List.map_cons, buildAt] at hr
    obtain ⟨h0, m1, x1, l1, h1, h2, h3, h4, h5, h6, h7, h8⟩ := fset (c := c) l hr
    simp only [List.flatMap_cons, List.nodup_append, List.mem_append] at hn
    obtain ⟨n1, ⟨n2, n3, n4⟩, n5⟩ := hn
    have n6 : (fp k m1 x1 l1 ++ cs.flatMap fun y => y.2.fp).Nodup := by
      rw [List.nodup_append]
      refine ⟨h4 n1 n2 (fun b hb hb' => n5 b hb' b (.inl hb) rfl), n3, ?_⟩
      rintro b hb b2 hb2 rfl
      rcases h3 b hb with e | e
      · exact n5 b e b (.inr hb2) rfl
      · exact n4 b e b hb2 rfl
    obtain ⟨m', x', l', q1, q2, q3, q4, q5, q6, q7, q8⟩ := buildAt_ok l1 h1 n6 (h2 w F hs (hcs _ (List.mem_cons_self))) (fun y hy => hcs y (List.mem_cons_of_mem _ hy))
    refine ⟨m', x', l', q1, ?_, q3, ?_, q5, ?_, ?_, ?_⟩
    · intro y hy
      rcases List.mem_cons.1 hy with rfl | hy
      · exact ⟨h0, h6⟩
      · exact q2 y hy
    · intro b hb
      simp only [List.flatMap_cons, List.mem_append]
      rcases q4 b hb with e | e
      · exact (h3 b e).imp id .inl
      · exact .inr (.inr e)
    · rw [q6, List.foldl_cons, h5]
    · intro f' hf'
      simp only [List.map_cons, List.mem_cons, not_or] at hf'
      rw [q7 f' hf'.2, h8 f' hf'.1]
    · intro hnd y hy
      simp only [List.map_cons, List.nodup_cons] at hnd
      rcases List.mem_cons.1 hy with rfl | hy
      · rw [q7 _ hnd.1]; exact h7
      · exact q8 hnd.2 y hy
theorem splice_set {l : List Value} {p : Nat} {u : Value} {v : List Value} (h : p < l.length) : splice (l.set p u) (p + 1) v = splice l p (u :: v) := by
  simp only [splice, List.length_cons]
  rw [List.take_add_one, List.take_set_of_le (Nat.le_refl _), List.getElem?_set_self h, List.drop_set_of_lt (by omega), show p + 1 + v.length = p + (v.length + 1) by omega]
  simp
theorem foldl_splice : ∀ (v : List Value) (n : Nat) (cells : Array Value) (o : Nat), o + n + v.length ≤ cells.size →
    ((v.zipIdx n).foldl (fun cs (y : Value × Nat) => cs.setIfInBounds (o + y.2) y.1) cells).toList = splice cells.toList (o + n) v
  | [], n, cells, o, h => by simp [splice]
  | u :: v, n, cells, o, h => by
    simp only [List.length_cons] at h
    simp only [List.zipIdx_cons, List.foldl_cons]
    rw [foldl_splice v (n + 1) _ o (by simp; omega)]
    rw [Array.toList_setIfInBounds, show o + (n + 1) = (o + n) + 1 by omega]
    exact splice_set (by simp; omega)
theorem run_fill {places : Nat → Option (Nat × Nat)} : ∀ (ps : List (Nat × Value)) (cells : Array Value),
    (∀ y ∈ ps, ∃ o n, places y.1 = some (o, n) ∧ y.2.cells.size = n ∧ o + n ≤ cells.size) →
    ∃ out : Array Value, Instr.fill places cells ps = some out ∧ out.size = cells.size ∧ out.toList = ps.foldl (fun l y => splice l ((places y.1).getD (0, 0)).1 y.2.cells.toList) cells.toList
  | [], cells, _ => ⟨cells, rfl, rfl, rfl⟩
  | (i, v) :: ps, cells, h => by
    obtain ⟨o, n, h1, h2, h3⟩ := h (i, v) (List.mem_cons_self)
    simp only at h1 h2
    have hsz := foldl_splice v.cells.toList 0 cells o (by simpa [h2] using h3)
    have hfold : (v.cells.zipIdx.foldl (fun cs (y : Value × Nat) => cs.setIfInBounds (o + y.2) y.1) cells) = (v.cells.toList.zipIdx 0).foldl (fun cs (y : Value × Nat) => cs.setIfInBounds (o + y.2) y.1) cells := by
      rw [← Array.foldl_toList, Array.toList_zipIdx]
    have hs : (v.cells.zipIdx.foldl (fun cs (y : Value × Nat) => cs.setIfInBounds (o + y.2) y.1) cells).size = cells.size := by
      rw [hfold, ← Array.length_toList, hsz, splice_length (by simpa [h2] using h3), Array.length_toList]
    obtain ⟨out, q1, q2, q3⟩ := run_fill ps (v.cells.zipIdx.foldl (fun cs (y : Value × Nat) => cs.setIfInBounds (o + y.2) y.1) cells) (fun y hy => by rw [hs]; exact h y (List.mem_cons_of_mem _ hy))
    refine ⟨out, ?_, by rw [q2, hs], ?_⟩
    · simp only [Instr.fill, h1]
      rw [if_neg (by simp [h2]; omega)]
      exact q1
    · rw [q3, List.foldl_cons, hfold, hsz, h1]
      rfl
theorem run_mapM {α β : Type} (f : α → Sem β) (q : α → β) (xs : Array α) (h : ∀ x ∈ xs.toList, (f x).run P w = .ok (q x) w) : (xs.mapM f).run P w = .ok (xs.map q) w := by
  have key : ∀ (l : List α), (∀ x ∈ l, (f x).run P w = .ok (q x) w) → (l.mapM f).run P w = .ok (l.map q) w := by
    intro l
    induction l with
    | nil => intro _; rfl
    | cons x l ih =>
      intro h
      simp only [List.mapM_cons, Sem.run_bind, h x (List.mem_cons_self), Result.andThen_ok, ih (fun y hy => h y (List.mem_cons_of_mem _ hy)), Sem.run_pure, List.map_cons]
  rw [Array.mapM_eq_mapM_toList, Sem.run_map, key _ h]
  simp only [Result.andThen_ok]
  congr 1
  apply Array.ext'
  simp
end
end Go.Proofs.YthlnjkcpdkjipaaDoor.Ev

/- Structs and slices that are made: the operations. -/
namespace Go.Proofs.YthlnjkcpdkjipaaDoor.Ev
section
variable {P : Program} {X : Cx} {N : Nat} {a : Act} {s : St} {g : Gs} {F : Nat → Prop} {ow : Nat → Option Nat} {w : World} {R : Type} {r : R} {tm : Array Value} {E : Env}
  {o : Oper} {next : Act → World → Prop} {Q : Exit → Act → World → Prop} {kk : St → Option R}
theorem Rel.give (h : Rel P X N s g F ow tm w) {d : Nat} (hd : d < N) {k : K} {m : Mk} {x : T k} {l : L k} (ht : Taken X F ow w k m x l) :
    ∃ g' ow', Rel P X N (s.give d ⟨k, m, x⟩) g' F ow' (tm.setIfInBounds d (valOf k x l)) w := by
  unfold St.give
  cases hc : m.clear with
  | true =>
    simp only [cond_true]
    exact ⟨g, ow, h.put hd ⟨l, sat_clear hc ht.sat, rfl⟩⟩
  | false =>
    simp only [cond_false]
    exact h.giveV hd ht true
theorem flds_ok : ∀ (k : K) (fs : List Field) (off : Nat), (TyF P k).2 fs off → ∀ f ∈ fs, ∃ kf, TyOk P f.type kf
  | .pair ka kb, fs, off, h, f, hf => by
    cases fs with
    | nil => cases hf
    | cons f0 fs =>
      obtain ⟨_, _, h3, h4⟩ := h
      rcases List.mem_cons.1 hf with rfl | hf
      · exact ⟨ka, h3⟩
      · exact flds_ok kb fs _ h4 f hf
  | .unit, fs, off, h, f, hf => by
    have h : fs = [] := h
    subst h; cases hf
  | .int _, _, _, h, _, _ | .bool, _, _, h, _, _ | .str, _, _, h, _, _ | .sl _, _, _, h, _, _ => h.elim
theorem struct_flds {t : Nat} {k : K} (ht : TyOk P t k) (hs : k.isStruct = true) : ∃ fs, P.underlying t = some (.struct fs) ∧ (TyF P k).2 fs.toList 0 := by
  cases k <;> simp only [K.isStruct] at hs <;> first | (cases hs; done) | skip
  · obtain ⟨_, fs, hu, hfs, _⟩ := ht
    exact ⟨fs, hu, hfs⟩
  · obtain ⟨_, fs, hu, hst, hfs⟩ := ht
    refine ⟨fs, hu, ?_⟩
    cases hl : fs.toList with
    | nil => rw [hl] at hfs; exact hfs.elim
    | cons fd l =>
      rw [hl] at hfs
      obtain ⟨h1, h2, h3, h4⟩ := hfs
      exact ⟨h1, h2, h3, by rw [Nat.zero_add]; exact h4⟩
theorem valOf_struct {k : K} (hs : k.isStruct = true) (x : T k) (l : L k) : valOf k x l = .agg (vals k x l).toArray := by
  cases k <;> first | rfl | cases hs
theorem run_sizeOf {t : TypeId} {i : TypeInfo} (hi : P.info? t = some i) : (sizeOf t).run P w = .ok (P.cellsOf t) w := by
  simp [sizeOf, typeInfo, hi, Program.cellsOf]
theorem run_build {t : Nat} {k : K} (ht : TyOk P t k) (hs : k.isStruct = true) {cs : List (Nat × LC)} (hcs : ∀ y ∈ cs, k.fld y.1 = some y.2.k ∧ k.offs y.1 + y.2.k.size ≤ k.size) {ps : Array (Nat × Value)} (hps : ps.toList = cs.map fun y => (y.1, y.2.val))
    {x' : T k} {l' : L k} (hv : vals k x' l' = cs.foldl (fun l y => splice l (k.offs y.1) (vals y.2.k y.2.x y.2.l)) (vals k k.zero (zeroL k))) :
    (Instr.build t ps).run P w = .ok (valOf k x' l') w := by
  obtain ⟨fs, hu, hfs⟩ := struct_flds ht hs
  have hm : (fs.mapM fun f => do pure (f.offset, ← sizeOf f.type) : Sem (Array (Nat × Nat))).run P w = .ok (fs.map fun f => (f.offset, P.cellsOf f.type)) w := by
    refine run_mapM _ _ fs fun f hf => ?_
    obtain ⟨kf, hkf⟩ := flds_ok k fs.toList 0 hfs f hf
    obtain ⟨i, hi, _⟩ := hkf.i.info
    simp only [Sem.run_bind, run_sizeOf hi, Result.andThen_ok, Sem.run_pure]
  have hpl : ∀ y ∈ cs, (fs.map fun f => (f.offset, P.cellsOf f.type))[y.1]? = some (k.offs y.1, y.2.k.size) := by
    intro y hy
    obtain ⟨fd, h1, h2, h3⟩ := fld_type k y.1 y.2.k (hcs y hy).1 fs.toList 0 hfs
    obtain ⟨i, hi, hsz, _⟩ := h3.i.info
    have h1' : fs[y.1]? = some fd := by simpa using h1
    rw [Array.getElem?_map, h1']
    simp only [Option.map_some, Option.some.injEq, Prod.mk.injEq]
    exact ⟨by simpa using h2, by simp [Program.cellsOf, hi, hsz]⟩
  obtain ⟨out, q1, q2, q3⟩ := run_fill (places := fun j => (fs.map fun f => (f.offset, P.cellsOf f.type))[j]?) (ps.toList) (vals k k.zero (zeroL k)).toArray (fun y hy => by
    rw [hps] at hy
    obtain ⟨z, hz, rfl⟩ := List.mem_map.1 hy
    refine ⟨_, _, hpl z hz, by simp [LC.val, valOf_cells, vals_length], ?_⟩
    rw [List.size_toArray, vals_length]
    exact (hcs z hz).2)
  have hout : out = (vals k x' l').toArray := by
    apply Array.ext'
    rw [q3, hv, hps, List.foldl_map]
    have : ∀ (cs : List (Nat × LC)) (l : List Value), (∀ y ∈ cs, (fs.map fun f => (f.offset, P.cellsOf f.type))[y.1]? = some (k.offs y.1, y.2.k.size)) →
        cs.foldl (fun l y => splice l (((fs.map fun f => (f.offset, P.cellsOf f.type))[y.1]?).getD (0, 0)).1 (LC.val y.2).cells.toList) l = cs.foldl (fun l y => splice l (k.offs y.1) (vals y.2.k y.2.x y.2.l)) l := by
      intro cs
      induction cs with
      | nil => intro l _; rfl
      | cons y cs ih =>
        intro l h
        simp only [List.foldl_cons]
        rw [h y (List.mem_cons_self), ih _ (fun z hz => h z (List.mem_cons_of_mem _ hz))]
        simp [LC.val, valOf_cells]
    exact this cs _ hpl
  simp only [Instr.build, Sem.run_bind, run_zeroK ht, Result.andThen_ok, run_underlying hu, hm, valOf_cells]
  rw [q1]
  simp only [Sem.run_pure, hout, valOf_struct hs]
theorem zip_lcs {is : List Nat} {ls : List LC} : (is.zip (ls.map LC.ct)) = (is.zip ls).map fun y => (y.1, y.2.ct) := by
  induction is generalizing ls with
  | nil => rfl
  | cons i is ih => cases ls with
    | nil => rfl
    | cons l ls => simp [ih]
theorem movedTo_mem {d : Nat} : ∀ {l : List (Nat × Pc)} {u f : Nat}, movedTo d l u = some f → (f, Pc.al u []) ∈ l
  | [], u, f, h => by cases h
  | (f', c) :: r, u, f, h => by
    cases c with
    | al t p =>
      cases p with
      | nil =>
        simp only [movedTo] at h
        cases hb : Nat.beq t u with
        | true =>
          rw [hb] at h
          simp only [cond_true, Option.some.injEq] at h
          have := Nat.eq_of_beq_eq_true hb
          subst this; subst h
          exact List.mem_cons_self
        | false => rw [hb] at h; exact List.mem_cons_of_mem _ (movedTo_mem h)
      | cons e p => exact List.mem_cons_of_mem _ (movedTo_mem h)
    | _ => exact List.mem_cons_of_mem _ (movedTo_mem h)
theorem nodup_list : ∀ {l : List Nat}, nodup l = true → l.Nodup
  | [], _ => List.nodup_nil
  | x :: l, h => by
    simp only [nodup, Bool.and_eq_true, Bool.not_eq_true'] at h
    rw [List.nodup_cons]
    refine ⟨fun hm => ?_, nodup_list h.2⟩
    have := List.elem_iff.2 hm
    rw [h.1] at this
    cases this
theorem zip_val {f : Operand → Value} : ∀ {l : List (Nat × Operand)} {ls : List LC}, (l.map fun x => f x.2) = ls.map LC.val → ∀ {y : Nat × Operand}, y ∈ l → ∃ c, (y.1, c) ∈ (l.map (·.1)).zip ls ∧ f y.2 = c.val
  | [], _, _, y, hy => by cases hy
  | z :: l, [], h, y, hy => by cases h
  | z :: l, c :: ls, h, y, hy => by
    simp only [List.map_cons, List.cons.injEq] at h
    rcases List.mem_cons.1 hy with rfl | hy
    · exact ⟨c, by simp, h.1⟩
    · obtain ⟨c', h1, h2⟩ := zip_val h.2 hy
      exact ⟨c', by simp [h1], h2⟩
theorem m_build (h : Rel P X N s g F ow a.tmps w) (hE : EnvOk P E) {d t : Nat} {ps : Array (Nat × Operand)} (hd : d < N) (ho : o.op = .build t ps) (hdst : o.dst = some d)
    (hr : (match E.ty t with
      | some k => cond k.isStruct (takeAll s (ps.toList.map fun x => s.opd x.2) fun cs s' =>
        buildAt k ((ps.toList.map (·.1)).zip cs) (Mk.full k) k.zero fun m x => match E.keep d with
          | false => kk (s'.give d ⟨k, m, x⟩)
          | true => cond (!m.clear && nodup (ps.toList.map (·.1))) (kk ((s'.give d ⟨k, m, x⟩).repoint s d (ps.toList.map fun x => (x.1, s.opd x.2)))) none) none
      | _ => none) = some r) (hn : ∀ a' w', MOk P X N a o.dst kk r a' w' → next a' w') : o.wp P a w next Q := by
  split at hr
  case h_2 => cases hr
  rename_i k hk
  have ht := hE.ty t k hk
  cases hst : k.isStruct with
  | false => rw [hst] at hr; cases hr
  | true =>
  rw [hst] at hr
  simp only [cond_true] at hr
  have hpcs : PcsOk P g F w (ps.toList.map fun x => s.opd x.2) (ps.toList.map fun x => a.eval x.2) := by
    induction ps.toList with
    | nil => exact .nil
    | cons y l ih => exact .cons (h.opd y.2) ih
  obtain ⟨ls, s', g', ow', q1, q2, q3, q4, q5, q6, q7, q8⟩ := takeAll_ok h hpcs.weak hr
  rw [zip_lcs] at q1
  have hlen : ls.length = ps.toList.length := by
    have := congrArg List.length q5
    simpa using this.symm
  have hsub : ∀ y ∈ (ps.toList.map (·.1)).zip ls, y.2 ∈ ls := fun y hy => (List.of_mem_zip (show (y.1, y.2) ∈ _ from hy)).2
  have hflat : ((ps.toList.map (·.1)).zip ls).flatMap (fun y => y.2.fp) = ls.flatMap LC.fp := by
    have : ((ps.toList.map (·.1)).zip ls).map Prod.snd = ls := by
      rw [List.map_snd_zip]
      simp [hlen]
    rw [← List.flatMap_map, this]
  obtain ⟨m', x', l', p1, p2, p3, p4, p5, p6, p7, p8⟩ := buildAt_ok (w := w) (F := F) (zeroL k) q1 (by rw [zero_fp, List.nil_append, hflat]; exact q7) (zero_sat k _) (fun y hy => (q6 _ (hsub y hy)).sat)
  have hrun : (Instr.build t (ps.map fun y => (y.1, a.eval y.2))).run P w = .ok (valOf k x' l') w := by
    refine run_build ht hst p2 ?_ p6
    simp only [Array.toList_map]
    have : ∀ (l : List (Nat × Operand)) (ls : List LC), (l.map fun x => a.eval x.2) = ls.map LC.val → (l.map fun y => (y.1, a.eval y.2)) = ((l.map (·.1)).zip ls).map fun y => (y.1, y.2.val) := by
      intro l
      induction l with
      | nil => intro ls _; rfl
      | cons y l ih =>
        intro ls he
        cases ls with
        | nil => cases he
        | cons c ls =>
          simp only [List.map_cons, List.cons.injEq] at he
          simp only [List.map_cons, List.zip_cons_cons, List.cons.injEq, Prod.mk.injEq, true_and]
          exact ⟨he.1, ih ls he.2⟩
    exact this _ _ q5
  have he : (execOp a.eval o).run P w = .ok (.value (valOf k x' l')) w := exec_v (x := Instr.build t (ps.map fun y => (y.1, a.eval y.2))) (by simp only [execOp, ho]) hrun
  have htk : Taken X F ow' w k m' x' l' := ⟨p3, p5, fun b hb => by
    rcases p4 b hb with e | e
    · rw [zero_fp] at e; cases e
    · rw [hflat] at e
      obtain ⟨c, hc, hb⟩ := List.mem_flatMap.1 e
      exact (q6 c hc).no b hb⟩
  split at p1
  · obtain ⟨g2, ow2, e2⟩ := q2.give hd htk
    exact wp_val he (hn _ _ ⟨put_keeps a _ _, _, g2, F, ow2, p1, by rw [put_tmps a hdst]; exact e2⟩)
  cases hc : (!m'.clear && nodup (ps.toList.map (·.1))) with
  | false => rw [hc] at p1; cases p1
  | true =>
  rw [hc] at p1
  simp only [cond_true] at p1
  simp only [Bool.and_eq_true, Bool.not_eq_true'] at hc
  have hgive : s'.give d ⟨k, m', x'⟩ = (((s'.drop d).setR d (some ⟨k, m', x', false, true⟩)).put d (.one (.al d []))) := by
    unfold St.give
    rw [show Mk.clear (Ct.mk k m' x').m = false from hc.1]
    rfl
  have r3 := (q2.newV (d := d) htk true).put hd (c := .one (.al d [])) (v := valOf k x' l') ⟨_, ⟨k, m', x', l', none⟩, Gs.set_self _ _ _, by simp [GR.at, gat], rfl⟩
  rw [← hgive] at r3
  have hzf : ((ps.toList.map (·.1)).zip ls).map (·.1) = ps.toList.map (·.1) := by
    rw [List.map_fst_zip]
    simp [hlen]
  have hnd := nodup_list hc.2
  rw [← hzf] at hnd
  have r4 := r3.slots (σ := ((s'.give d ⟨k, m', x'⟩).repoint s d (ps.toList.map fun x => (x.1, s.opd x.2))).slot) (fun n => by
    simp only [St.repoint]
    split
    · rename_i t hsl
      split
      · rename_i hbad
        split
        · rename_i f hf
          right
          have hnN : n < N := by
            rcases Nat.lt_or_ge n N with e | e
            · exact e
            · rw [h.big n e] at hsl; cases hsl
          refine ⟨?_, hnN⟩
          have hmem := movedTo_mem hf
          obtain ⟨y, hy, he2⟩ := List.mem_map.1 hmem
          simp only [Prod.mk.injEq] at he2
          obtain ⟨e1, e3⟩ := he2
          have hnd' : n ≠ d := by
            rintro rfl
            rw [hgive] at hbad
            simp [St.put] at hbad
          have hv1 := h.slot n
          rw [hsl] at hv1
          obtain ⟨qq, cc, g1, g2, g3⟩ := hv1
          have hv2 := h.opd y.2
          rw [e3] at hv2
          obtain ⟨qq', cc', g1', g2', g3'⟩ := hv2
          rw [g1] at g1'
          injection g1' with g1'
          subst g1'
          rw [g2] at g2'
          injection g2' with g2'
          subst g2'
          obtain ⟨c, hc1, hc2⟩ := zip_val (f := a.eval) q5 hy
          have hgx := p8 hnd (y.1, c) hc1
          obtain ⟨gc, k1, k2, k3⟩ := fld_gat k y.1 c.k (p2 (y.1, c) hc1).1 m' x' l' none
          have hgx2 := gat_gatx k1
          rw [hgx] at hgx2
          injection hgx2 with hgx2
          refine ⟨_, gc, Gs.set_self _ _ _, by rw [← e1]; exact k1, ?_⟩
          rw [show (a.tmps.setIfInBounds d (valOf k x' l')).getD n undef = a.tmps.getD n undef by simp [Array.getD_eq_getD_getElem?, Array.getElem?_setIfInBounds_ne (Ne.symm hnd')]]
          rw [g3, ← g3', hc2]
          obtain ⟨ck, cm, cx, cl⟩ := c
          obtain ⟨gk, gm, gx, gl, gb⟩ := gc
          simp only [GX.mk.injEq] at hgx2
          obtain ⟨rfl, h2, h3, _⟩ := hgx2
          have h2 := eq_of_heq h2
          have h3 := eq_of_heq h3
          subst h2; subst h3
          rfl
        · left; exact hbad.symm
      · left; rfl
    · left; rfl)
  exact wp_val he (hn _ _ ⟨put_keeps a _ _, _, _, F, _, p1, by rw [put_tmps a hdst]; exact r4⟩)
theorem takeV_ok : ∀ {cs : List Pc} {vs : List Value} {f : List Ct → Option R}, takeV cs f = some r → PcsOk P g F w cs vs → ∃ ls : List LC, f (ls.map LC.ct) = some r ∧ vs = ls.map LC.val ∧ ∀ c ∈ ls, c.m = .s ∧ Ev.sat w F c.k .s c.x c.l
  | [], _, f, hr, hp => by cases hp; exact ⟨[], hr, rfl, fun c hc => by cases hc⟩
  | c :: cs, _, f, hr, hp => by
    cases hp with
    | cons hc hp =>
      cases c <;> first | (cases hr; done) | skip
      rename_i k x
      obtain ⟨l, h1, rfl⟩ := hc
      obtain ⟨ls, q1, rfl, q3⟩ := takeV_ok (f := fun xs => f (⟨k, .s, x⟩ :: xs)) hr hp
      exact ⟨⟨k, .s, x, l⟩ :: ls, q1, rfl, fun c hc => by
        rcases List.mem_cons.1 hc with rfl | hc
        · exact ⟨rfl, h1⟩
        · exact q3 c hc⟩
theorem q_build {put : PV → Option R} (h : Rel P X N s g F ow a.tmps w) (hE : EnvOk P E) {t : Nat} {ps : Array (Nat × Operand)} (ho : o.op = .build t ps) (hr : evQ E s o put = some r)
    (hn : ∀ v w', QOk P g F w put r v w' → next (a.put o.dst v) w') : o.wp P a w next Q := by
  unfold evQ at hr
  rw [ho] at hr
  dsimp only at hr
  split at hr
  case h_2 => cases hr
  rename_i k hk
  have ht := hE.ty t k hk
  cases hst : k.isStruct with
  | false => rw [hst] at hr; cases hr
  | true =>
  rw [hst] at hr
  simp only [cond_true] at hr
  have hpcs : PcsOk P g F w (ps.toList.map fun x => s.opd x.2) (ps.toList.map fun x => a.eval x.2) := by
    induction ps.toList with
    | nil => exact .nil
    | cons y l ih => exact .cons (h.opd y.2) ih
  obtain ⟨ls, q1, q5, q6⟩ := takeV_ok hr hpcs
  rw [zip_lcs] at q1
  have hsub : ∀ y ∈ (ps.toList.map (·.1)).zip ls, y.2 ∈ ls := fun y hy => (List.of_mem_zip (show (y.1, y.2) ∈ _ from hy)).2
  have hflat : ((ps.toList.map (·.1)).zip ls).flatMap (fun y => y.2.fp) = [] := List.eq_nil_iff_forall_not_mem.2 fun b hb => by
    obtain ⟨y, hy, hb⟩ := List.mem_flatMap.1 hb
    unfold LC.fp at hb
    rw [(q6 _ (hsub y hy)).1, fp_clear rfl] at hb
    cases hb
  obtain ⟨m', x', l', p1, p2, p3, p4, p5, p6, p7, p8⟩ := buildAt_ok (w := w) (F := F) (zeroL k) q1 (by rw [zero_fp, List.nil_append, hflat]; exact List.nodup_nil) (zero_sat k _) (fun y hy => by rw [(q6 _ (hsub y hy)).1]; exact (q6 _ (hsub y hy)).2)
  have hrun : (Instr.build t (ps.map fun y => (y.1, a.eval y.2))).run P w = .ok (valOf k x' l') w := by
    refine run_build ht hst p2 ?_ p6
    simp only [Array.toList_map]
    have : ∀ (l : List (Nat × Operand)) (ls : List LC), (l.map fun x => a.eval x.2) = ls.map LC.val → (l.map fun y => (y.1, a.eval y.2)) = ((l.map (·.1)).zip ls).map fun y => (y.1, y.2.val) := by
      intro l
      induction l with
      | nil => intro ls _; rfl
      | cons y l ih =>
        intro ls he
        cases ls with
        | nil => cases he
        | cons c ls =>
          simp only [List.map_cons, List.cons.injEq] at he
          simp only [List.map_cons, List.zip_cons_cons, List.cons.injEq, Prod.mk.injEq, true_and]
          exact ⟨he.1, ih ls he.2⟩
    exact this _ _ q5
  have he : (execOp a.eval o).run P w = .ok (.value (valOf k x' l')) w := exec_v (x := Instr.build t (ps.map fun y => (y.1, a.eval y.2))) (by simp only [execOp, ho]) hrun
  cases hc : m'.clear with
  | false => rw [hc] at p1; cases p1
  | true =>
    rw [hc] at p1
    exact wp_val he (hn _ _ (QOk.now p1 ⟨l', sat_clear hc p3, rfl⟩))
theorem slice_new {w' : World} (h : Rel P X N s g F ow tm w) (he : Ext w w') (hlt : w.heap.size < w'.heap.size) {k : K} {m : Mk} {xs : List (T k)} {lf : Nat → L k} {cap : Nat}
    (hb : BlkE k cap w' w.heap.size fun cs => (∀ i x, xs[i]? = some x → cellsAt cs (i * k.size) (vals k x (lf i))) ∧ cap * k.size ≤ cs.size) (hu : cap = 0 → Unf w' w.heap.size 0)
    (hs : ∀ i x, xs[i]? = some x → Ev.sat w F k m x (lf i)) (hnd : (fpL (fp k m) xs lf).Nodup) (hno : ∀ b ∈ fpL (fp k m) xs lf, ow b = none ∧ ¬ F b ∧ b < w.heap.size ∧ X.free b) (hlen : xs.length ≤ cap) :
    Rel P X N s g (fun b => F b ∨ (cap = 0 ∧ b = w.heap.size)) ow tm w' ∧ Taken X (fun b => F b ∨ (cap = 0 ∧ b = w.heap.size)) ow w' (.sl k) (.o m) xs ((some (w.heap.size, 0), cap), lf) := by
  refine ⟨h.ext he (fun _ h => .inl h) (fun b hb => hb.imp id fun e => ⟨by omega, by omega⟩), fun _ => ⟨⟨hlen, (fun h => by cases h), (fun b o hq => ?_), fun _ h0 b o hq => ?_⟩, fun i x hx => ?_⟩, ?_, fun b hb => ?_⟩
  · simp only [Option.some.injEq, Prod.mk.injEq] at hq
    obtain ⟨rfl, rfl⟩ := hq
    refine ⟨fun _ _ => hb.mono fun cs hc => by simpa using hc.2, fun _ => ⟨(fun h => by cases h), hb.blk.mono fun cs hc i x hx => by simpa using hc.1 i x hx⟩⟩
  · simp only [Option.some.injEq, Prod.mk.injEq] at hq
    obtain ⟨rfl, rfl⟩ := hq
    exact ⟨.inr ⟨h0, rfl⟩, hu h0⟩
  · have hfx : ∀ b ∈ fp k m x (lf i), b ∈ fpL (fp k m) xs lf := fun b hb => mem_fpL.2 ⟨i, x, hx, hb⟩
    exact sat_frame (hs i x hx) (fun b hb => he.old b (hb.elim (fun hb => (hno b (hfx b hb)).2.2.1) (fun hb => (h.hF b hb).2))) (fun _ h => .inl h)
  · simp only [fp, Mk.owns, if_true, Mk.inner, List.nodup_append]
    refine ⟨nodup_own1 _, hnd, ?_⟩
    rintro b hb b2 hb2 rfl
    obtain ⟨_, o, e⟩ := mem_own1.1 hb
    simp only [Option.some.injEq, Prod.mk.injEq] at e
    have := (hno b hb2).2.2.1
    omega
  · simp only [fp, Mk.owns, if_true, Mk.inner, List.mem_append] at hb
    rcases hb with hb | hb
    · obtain ⟨h0, o, e⟩ := mem_own1.1 hb
      simp only [Option.some.injEq, Prod.mk.injEq] at e
      obtain ⟨rfl, _⟩ := e
      refine ⟨?_, fun hF => ?_, hlt, .inl h.size⟩
      · cases e : ow w.heap.size with
        | none => rfl
        | some t => have := h.lt _ t e; omega
      · rcases hF with hF | hF
        · have := (h.hF _ hF).2; omega
        · exact h0 hF.1
    · obtain ⟨h1, h2, h3, h4⟩ := hno b hb
      exact ⟨h1, fun hF => hF.elim h2 (fun e => by omega), Nat.lt_of_lt_of_le h3 he.size, h4⟩
end
end Go.Proofs.YthlnjkcpdkjipaaDoor.Ev

/- Slices that are made: literals, make, bytes of a string. -/
namespace Go.Proofs.YthlnjkcpdkjipaaDoor.Ev
section
variable {P : Program} {X : Cx} {N : Nat} {a : Act} {s : St} {g : Gs} {F : Nat → Prop} {ow : Nat → Option Nat} {w : World} {R : Type} {r : R} {tm : Array Value} {E : Env}
  {o : Oper} {next : Act → World → Prop} {Q : Exit → Act → World → Prop} {kk : St → Option R}
theorem Rel.newRoot (h : Rel P X N s g F ow tm w) {d : Nat} (hd : d < N) {k : K} {m : Mk} {x : T k} {l : L k} (ht : Taken X F ow w k m x l) :
    ∃ g' ow', Rel P X N (s.newRoot d ⟨k, m, x⟩ false (.al d [])) g' F ow' (tm.setIfInBounds d (valOf k x l)) w := h.giveV hd ht true
theorem sameK_ok {k : K} {m : Mk} : ∀ {ls : List LC} {kk : List (T k) → Option R}, sameK k m (ls.map LC.ct) kk = some r →
    ∃ (xs : List (T k)) (lf : Nat → L k), kk xs = some r ∧ xs.length = ls.length ∧ fpL (fp k m) xs lf = ls.flatMap LC.fp ∧
      (∀ i x, xs[i]? = some x → ∃ c, ls[i]? = some c ∧ vals c.k c.x c.l = vals k x (lf i) ∧ ∀ w F, sat w F c.k c.m c.x c.l → sat w F k m x (lf i))
  | [], kk, h => ⟨[], fun _ => zeroL k, h, rfl, rfl, fun i x hx => by simp at hx⟩
  | c :: ls, kk, h => by
    simp only [List.map_cons, sameK] at h
    split at h
    case isFalse => cases h
    rename_i hk
    split at h
    case isFalse => cases h
    rename_i hm
    obtain ⟨ck, cm, cx, cl⟩ := c
    dsimp only at hk hm
    subst hk; subst hm
    obtain ⟨xs, lf, h1, h2, h3, h4⟩ := sameK_ok h
    refine ⟨cx :: xs, fun i => match i with | 0 => cl | i + 1 => lf i, h1, by simp [h2], by simp [fpL, h3, LC.fp], fun i x hx => ?_⟩
    cases i with
    | zero => simp at hx; subst hx; exact ⟨_, rfl, rfl, fun _ _ h => h⟩
    | succ i =>
      obtain ⟨c, e1, e2⟩ := h4 i x (by simpa using hx)
      exact ⟨c, by simpa using e1, e2⟩
theorem splices (n : Nat) : ∀ (vs : List (List Value)) (s : Nat) (l : List Value), (∀ v ∈ vs, v.length = n) → l.length = (s + vs.length) * n →
    ((List.range' s vs.length).zip vs).foldl (fun l y => splice l (y.1 * n) y.2) l = l.take (s * n) ++ vs.flatten
  | [], s, l, _, h => by
    simp only [List.length_nil, Nat.add_zero] at h
    simp [← h]
  | v :: vs, s, l, hv, h => by
    have hvn : v.length = n := hv v (List.mem_cons_self)
    simp only [List.length_cons, List.range'_succ, List.zip_cons_cons, List.foldl_cons]
    have hsz : s * n + v.length ≤ l.length := by
      rw [h, hvn, List.length_cons]
      have : (s + 1) * n ≤ (s + (vs.length + 1)) * n := Nat.mul_le_mul_right _ (by omega)
      rw [Nat.add_mul] at this
      omega
    rw [splices n vs (s + 1) _ (fun v hv' => hv v (List.mem_cons_of_mem _ hv')) (by rw [splice_length hsz, h, List.length_cons]; congr 1; omega)]
    simp only [splice, List.flatten_cons]
    rw [List.take_append_of_le_length (by simp only [List.length_append, List.length_take, hvn, Nat.add_mul]; omega)]
    rw [List.take_of_length_le (by simp only [List.length_append, List.length_take, hvn, Nat.add_mul]; omega)]
    simp
theorem flatten_get {n : Nat} : ∀ {vs : List (List Value)} {i j : Nat} {v : List Value}, (∀ v ∈ vs, v.length = n) → vs[i]? = some v → j < n → vs.flatten[i * n + j]? = v[j]?
  | [], i, j, v, _, h, _ => by simp at h
  | u :: vs, i, j, v, hv, h, hj => by
    have hu : u.length = n := hv u (List.mem_cons_self)
    cases i with
    | zero =>
      simp at h; subst h
      rw [List.flatten_cons, Nat.zero_mul, Nat.zero_add, List.getElem?_append_left (by omega)]
    | succ i =>
      rw [List.flatten_cons, List.getElem?_append_right (by rw [hu, Nat.add_mul]; omega), hu, show (i + 1) * n + j - n = i * n + j by rw [Nat.add_mul]; omega]
      exact flatten_get (fun v hv' => hv v (List.mem_cons_of_mem _ hv')) (by simpa using h) hj
theorem run_zeroCells {t : Nat} {k : K} (ht : TyOk P t k) (n : Nat) : (if n = 0 then pure #[] else do pure (← zeroValue t).cells : Sem (Array Value)).run P w = .ok (if n = 0 then #[] else (vals k k.zero (zeroL k)).toArray) w := by
  split
  · rfl
  · simp only [Sem.run_bind, run_zeroK ht, Result.andThen_ok, Sem.run_pure, valOf_cells]
theorem m_buildSlice (h : Rel P X N s g F ow a.tmps w) (hE : EnvOk P E) {d t n : Nat} {ps : Array (Nat × Operand)} (hd : d < N) (ho : o.op = .buildSlice t n ps) (hdst : o.dst = some d)
    (hr : (match E.ty t with
      | some (.sl k) => cond (Nat.beq ps.size n && ((ps.toList.map (·.1)) == List.range n && (Nat.ble (n * k.size) 1000 && Nat.ble 1 k.size))) (takeAll s (ps.toList.map fun x => s.opd x.2) fun cs s => match cs with
        | [] => none
        | c :: cs => sameK k c.m (c :: cs) fun xs => kk (s.newRoot d ⟨.sl k, .o c.m, xs⟩ false (.al d []))) none
      | _ => none) = some r) (hn : ∀ a' w', MOk P X N a o.dst kk r a' w' → next a' w') : o.wp P a w next Q := by
  split at hr
  case h_2 => cases hr
  rename_i k hk
  obtain ⟨_, e, hu, he⟩ := hE.ty t _ hk
  have he : TyOk P e k := he
  cases hc : (Nat.beq ps.size n && ((ps.toList.map (·.1)) == List.range n && (Nat.ble (n * k.size) 1000 && Nat.ble 1 k.size))) with
  | false => rw [hc] at hr; cases hr
  | true =>
  rw [hc] at hr
  simp only [cond_true] at hr
  simp only [Bool.and_eq_true, beq_iff_eq] at hc
  obtain ⟨hc1, hc2, hc3, hc4⟩ := hc
  have hc4 := Nat.le_of_ble_eq_true hc4
  have hc1 := Nat.eq_of_beq_eq_true hc1
  have hc3 := Nat.le_of_ble_eq_true hc3
  have hpcs : PcsOk P g F w (ps.toList.map fun x => s.opd x.2) (ps.toList.map fun x => a.eval x.2) := by
    induction ps.toList with
    | nil => exact .nil
    | cons y l ih => exact .cons (h.opd y.2) ih
  obtain ⟨ls, s', g', ow', q1, q2, q3, q4, q5, q6, q7, q8⟩ := takeAll_ok h hpcs.weak hr
  have hlen : ls.length = n := by
    have := congrArg List.length q5
    simp at this
    omega
  cases ls with
  | nil => cases q1
  | cons c0 ls0 =>
  obtain ⟨ls, hls⟩ : ∃ ls, ls = c0 :: ls0 := ⟨_, rfl⟩
  simp only [List.map_cons] at q1
  have q1' : sameK k c0.m (ls.map LC.ct) (fun xs => kk (s'.newRoot d ⟨.sl k, .o c0.m, xs⟩ false (.al d []))) = some r := by rw [hls]; exact q1
  rw [← hls] at q5 q6 q7 q8 hlen
  obtain ⟨xs, lf, z1, z2, z3, z4⟩ := sameK_ok q1'
  have hck : ∀ c ∈ ls, (LC.val c).cells.toList.length = k.size := by
    intro c hc
    obtain ⟨i, hi, rfl⟩ := List.mem_iff_getElem.1 hc
    obtain ⟨c', e1, e2, _⟩ := z4 i (xs[i]'(by omega)) (List.getElem?_eq_getElem _)
    rw [List.getElem?_eq_getElem hi] at e1
    injection e1 with e1
    rw [e1]
    simp only [LC.val, valOf_cells, e2, vals_length]
  -- the cells
  obtain ⟨z, hz⟩ : ∃ z : Array Value, z = (Array.range (n * k.size)).map ((if n * k.size = 0 then #[] else (vals k k.zero (zeroL k)).toArray)[· % (if n * k.size = 0 then #[] else (vals k k.zero (zeroL k)).toArray).size]!) := ⟨_, rfl⟩
  have hzs : z.size = n * k.size := by rw [hz]; simp
  have hparts : (ps.map fun y => (y.1, a.eval y.2)).toList = (List.range' 0 n).zip (ls.map LC.val) := by
    rw [Array.toList_map, ← List.range_eq_range', ← hc2, ← q5]
    generalize ps.toList = l
    induction l with
    | nil => rfl
    | cons y l ih => simp [ih]
  obtain ⟨out, o1, o2, o3⟩ := run_fill (places := fun i => some (i * k.size, k.size)) ((List.range' 0 n).zip (ls.map LC.val)) z (fun y hy => by
    obtain ⟨y1, y2⟩ := y
    obtain ⟨hy1, hy2⟩ := List.of_mem_zip hy
    obtain ⟨c, hc, rfl⟩ := List.mem_map.1 hy2
    refine ⟨_, _, rfl, by have := hck c hc; simpa using this, ?_⟩
    rw [hzs]
    simp only [List.mem_range'_1] at hy1
    have : (y1 + 1) * k.size ≤ n * k.size := Nat.mul_le_mul_right _ (by omega)
    rw [Nat.add_mul] at this
    show y1 * k.size + k.size ≤ n * k.size
    omega)
  have hout : out.toList = (ls.map fun c => (LC.val c).cells.toList).flatten := by
    rw [o3]
    have key : ∀ (cs : List LC) (st : Nat) (l : List Value), ((List.range' st cs.length).zip (cs.map LC.val)).foldl (fun l y => splice l ((some (y.1 * k.size, k.size)).getD (0, 0)).1 y.2.cells.toList) l =
        ((List.range' st (cs.map fun c => (LC.val c).cells.toList).length).zip (cs.map fun c => (LC.val c).cells.toList)).foldl (fun l y => splice l (y.1 * k.size) y.2) l := by
      intro cs
      induction cs with
      | nil => intro _ _; rfl
      | cons c cs ih => intro st l; simp only [List.map_cons, List.length_cons, List.range'_succ, List.zip_cons_cons, List.foldl_cons]; rw [ih]; simp
    rw [← hlen, key, splices k.size _ 0 _ (by intro v hv; obtain ⟨c, hc, rfl⟩ := List.mem_map.1 hv; exact hck c hc) (by simp [hzs, hlen])]
    simp
  have hrun : (Instr.buildSlice t n (ps.map fun y => (y.1, a.eval y.2))).run P w = .ok (.slice (some ⟨w.heap.size, 0, none⟩) n n) { w with heap := w.heap.push (.cells out e) } := by
    obtain ⟨i, hi, hsz, hzi, _⟩ := he.i.info
    rw [← hparts] at o1
    have hn0 : 1 ≤ n := by rw [← hlen, hls]; simp
    have h0 : n * k.size ≠ 0 := Nat.ne_of_gt (Nat.mul_pos hn0 hc4)
    simp only [h0, if_false] at hz
    subst hz
    simp only [Instr.buildSlice, Sem.run_bind, run_underlying hu, Result.andThen_ok, run_sizeK he, Sem.run_ite, h0, if_false]
    rw [if_neg (by omega)]
    simp only [run_zeroK he, Sem.run_bind, Sem.run_pure, Result.andThen_ok, valOf_cells]
    rw [o1]
    simp [newRow]
  have hex : (execOp a.eval o).run P w = .ok (.value (.slice (some ⟨w.heap.size, 0, none⟩) n n)) { w with heap := w.heap.push (.cells out e) } := by
    simp [execOp, ho, hrun]
  have hos : out.size = n * k.size := by rw [o2, hzs]
  obtain ⟨r1, r2⟩ := slice_new (w' := { w with heap := w.heap.push (.cells out e) }) q2 (ext_push w _) (by simp) (k := k) (m := c0.m) (xs := xs) (lf := lf) (cap := n)
    (blkE_push _ (by have := Nat.le_mul_of_pos_right n (show 0 < k.size by omega); omega) w out e ⟨fun i x hx j v hv => by
      obtain ⟨c, e1, e2, _⟩ := z4 i x hx
      have hj : j < k.size := by have := (List.getElem?_eq_some_iff.1 hv).1; rwa [vals_length] at this
      have := flatten_get (n := k.size) (vs := ls.map fun c => (LC.val c).cells.toList) (i := i) (j := j) (v := (LC.val c).cells.toList) (by intro v hv; obtain ⟨c, hc, rfl⟩ := List.mem_map.1 hv; exact hck c hc) (by simp [e1]) hj
      rw [← hout] at this
      simp only [LC.val, valOf_cells, e2, hv] at this
      simpa using this, by omega⟩ fun hn j v hj => by
        have hm : v ∈ out.toList := by rw [Array.mem_toList_iff]; exact Array.mem_of_getElem? hj
        rw [hout] at hm
        obtain ⟨vs, hvs, hm⟩ := List.mem_flatten.1 hm
        obtain ⟨c, hc, rfl⟩ := List.mem_map.1 hvs
        obtain ⟨i, hi, rfl⟩ := List.getElem_of_mem hc
        obtain ⟨c', e1, e2, _⟩ := z4 i (xs[i]'(by omega)) (List.getElem?_eq_getElem _)
        rw [List.getElem?_eq_getElem hi] at e1
        injection e1 with e1
        subst e1
        simp only [LC.val, valOf_cells, e2] at hm
        exact vals_nu8 hn v hm) (fun h => by rw [hls] at hlen; simp at hlen; omega)
    (fun i x hx => by
      obtain ⟨c, e1, _, e3⟩ := z4 i x hx
      exact e3 w F (q6 c (List.mem_of_getElem? e1)).sat)
    (by rw [z3]; exact q7)
    (fun b hb => by
      rw [z3] at hb
      obtain ⟨c, hc, hb⟩ := List.mem_flatMap.1 hb
      exact (q6 c hc).no b hb) (by omega)
  obtain ⟨g2, ow2, e2⟩ := r1.newRoot hd r2
  simp only [Oper.wp, hex, Oper.upon]
  rw [show valOf (.sl k) xs ((some (w.heap.size, 0), n), lf) = .slice (some ⟨w.heap.size, 0, none⟩) n n by simp [valOf, adr, z2, hlen]] at e2
  exact hn _ _ ⟨put_keeps a _ _, _, g2, _, ow2, z1, by rw [put_tmps a hdst]; exact e2⟩
theorem m_makeSlice (h : Rel P X N s g F ow a.tmps w) (hE : EnvOk P E) {d t : Nat} {l c : Operand} (hd : d < N) (ho : o.op = .makeSlice t l c) (hdst : o.dst = some d)
    (hr : (match E.ty t with
      | some (.sl k) => match asInt (s.opd l), asInt (s.opd c) with
        | some (_, n), some (_, n') => cond (Nat.beq k.size 0) none <| req (decide (n = n') && (decide (0 ≤ n) && decide (n ≤ 68719476736))) (kk (s.newRoot d ⟨.sl k, .o (Mk.full k), List.replicate n.toNat k.zero⟩ false (.al d [])))
        | _, _ => none
      | _ => none) = some r) (hn : ∀ a' w', MOk P X N a o.dst kk r a' w' → next a' w') : o.wp P a w next Q := by
  split at hr
  case h_2 => cases hr
  rename_i k hk
  obtain ⟨_, e, hu, he⟩ := hE.ty t _ hk
  have he : TyOk P e k := he
  split at hr
  case h_2 => cases hr
  rename_i ka n kb n' h1 h2
  obtain ⟨v1, _⟩ := asInt_ok (h.opd l) h1
  obtain ⟨v2, _⟩ := asInt_ok (h.opd c) h2
  cases hk0 : Nat.beq k.size 0 with
  | true => rw [hk0] at hr; cases hr
  | false =>
  rw [hk0] at hr
  simp only [cond_false] at hr
  have hk0 : k.size ≠ 0 := fun h0 => by rw [h0] at hk0; cases hk0
  obtain ⟨hq, hr2⟩ := req_some hr
  simp only [Bool.and_eq_true, decide_eq_true_eq] at hq
  obtain ⟨rfl, hq1, hq2⟩ := hq
  obtain ⟨i, hi, hsz, hz, hby⟩ := he.i.info
  obtain ⟨hb0, hb1⟩ := hby hk0
  have hbc : (i.bytes : Int) * n ≤ 281474976710656 := by
    have h1 : (i.bytes : Int) * n ≤ 4096 * n := Int.mul_le_mul_of_nonneg_right (by omega) hq1
    omega
  have hrun := run_make (P := P) w t e i _ hu hi hz ka kb n n hq1 (Int.le_refl _) hbc (by omega)
  rw [valOf_cells, hsz] at hrun
  have hex : (execOp a.eval o).run P w = .ok (.value (.slice (some ⟨w.heap.size, 0, none⟩) n.toNat n.toNat)) { w with heap := w.heap.push (.cells (madeCells (vals k k.zero (zeroL k)).toArray (n.toNat * k.size)) e) } := by
    simp only [execOp, ho, v1, v2, Sem.run_bind, hrun, Result.andThen_ok]
    rfl
  have hcell : ∀ i, i < n.toNat → cellsAt (madeCells (vals k k.zero (zeroL k)).toArray (n.toNat * k.size)) (i * k.size) (vals k k.zero (zeroL k)) := by
    intro i hi j v hv
    have hj : j < k.size := by have := (List.getElem?_eq_some_iff.1 hv).1; rwa [vals_length] at this
    have hlt : i * k.size + j < n.toNat * k.size := by
      have : (i + 1) * k.size ≤ n.toNat * k.size := Nat.mul_le_mul_right _ (by omega)
      rw [Nat.add_mul] at this
      omega
    have hmod : (i * k.size + j) % k.size = j := by rw [Nat.mul_comm, Nat.mul_add_mod, Nat.mod_eq_of_lt hj]
    have hj' : j < (vals k k.zero (zeroL k)).length := by rw [vals_length]; exact hj
    simp only [madeCells, Array.getElem?_map, Array.getElem?_range, hlt, if_true, Option.map_some, List.size_toArray, vals_length, hmod]
    rw [List.getElem?_eq_getElem hj'] at hv
    injection hv with hv
    rw [← hv]
    simp [hj']
  have hget : ∀ (i : Nat) (x : T k), (List.replicate n.toNat k.zero)[i]? = some x → i < n.toNat ∧ x = k.zero := fun i x hx => by
    rw [List.getElem?_replicate] at hx
    split at hx
    · exact ⟨by assumption, by injection hx with hx; exact hx.symm⟩
    · cases hx
  have hfp : fpL (fp k (Mk.full k)) (List.replicate n.toNat k.zero) (fun _ => zeroL k) = [] := by
    rw [List.eq_nil_iff_forall_not_mem]
    intro b hb
    obtain ⟨i, x, hx, hb⟩ := mem_fpL.1 hb
    obtain ⟨_, rfl⟩ := hget i x hx
    rw [zero_fp] at hb
    cases hb
  obtain ⟨r1, r2⟩ := slice_new (w' := { w with heap := w.heap.push (.cells (madeCells (vals k k.zero (zeroL k)).toArray (n.toNat * k.size)) e) }) h (ext_push w _) (by simp) (k := k) (m := Mk.full k)
    (xs := List.replicate n.toNat k.zero) (lf := fun _ => zeroL k) (cap := n.toNat)
    (blkE_push _ (by omega) w _ e ⟨fun i x hx => by obtain ⟨h1, rfl⟩ := hget i x hx; exact hcell i h1, by rw [size_madeCells]; exact Nat.le_refl _⟩ fun hn j v hj => by
      simp only [madeCells, Array.getElem?_map] at hj
      cases hr : (Array.range (n.toNat * k.size))[j]? with
      | none => rw [hr] at hj; cases hj
      | some q =>
        rw [hr] at hj
        injection hj with hj
        rw [← hj]
        have hpos : 0 < (vals k k.zero (zeroL k)).length := by
          have := (Array.getElem?_eq_some_iff.1 hr).1
          rw [vals_length]
          rcases Nat.eq_zero_or_pos k.size with h0 | h0
          · rw [h0] at this; simp at this
          · exact h0
        refine vals_nu8 hn _ (?_ : _ ∈ vals k k.zero (zeroL k))
        simp only [List.size_toArray]
        rw [getElem!_pos _ _ (by simpa using Nat.mod_lt _ hpos)]
        simp)
    (fun h0 => ⟨_, e, (0, 0), push_new w _ e, by simp, Nat.zero_le _, by rw [size_madeCells, h0, Nat.zero_mul]⟩)
    (fun i x hx => by obtain ⟨_, rfl⟩ := hget i x hx; exact zero_sat k _) (by rw [hfp]; exact List.nodup_nil) (fun b hb => by rw [hfp] at hb; cases hb) (by simp)
  obtain ⟨g2, ow2, e2⟩ := r1.newRoot hd r2
  simp only [Oper.wp, hex, Oper.upon]
  rw [show valOf (.sl k) (List.replicate n.toNat k.zero) ((some (w.heap.size, 0), n.toNat), fun _ => zeroL k) = .slice (some ⟨w.heap.size, 0, none⟩) n.toNat n.toNat by simp [valOf, adr]] at e2
  exact hn _ _ ⟨put_keeps a _ _, _, g2, _, ow2, hr2, by rw [put_tmps a hdst]; exact e2⟩
theorem push_modify (h : Array Obj) (x : Obj) (f : Obj → Obj) : (h.push x).modify h.size f = h.push (f x) := by
  apply Array.ext
  · simp
  · intro i h1 h2
    rw [Array.getElem_modify]
    simp only [Array.size_modify, Array.size_push] at h1
    by_cases hi : i = h.size
    · subst hi; simp
    · rw [if_neg (Ne.symm hi), Array.getElem_push, Array.getElem_push]
      simp [show i < h.size by omega]
theorem run_toBytes (e : TypeId) (b : ByteArray) : ∃ (w' : World) (cap : Nat), (Conv.stringToBytes e b).run P w = .ok (.slice (some ⟨w.heap.size, 0, none⟩) b.size cap) w' ∧ Ext w w' ∧ w.heap.size < w'.heap.size ∧ b.size ≤ cap ∧
    BlkE (.int .u8) cap w' w.heap.size fun (cs : Array Value) => cs.size = cap ∧ ∀ (j : Nat) (x : Int), (bytesOf b)[j]? = some x → cs[j]? = some (Value.int .u8 x) := by
  obtain ⟨cap, hcap⟩ : ∃ c, c = (Question.appendCap b.size 0 e).cut (w.tape w.drawn (.appendCap b.size 0 e)) := ⟨_, rfl⟩
  have hle : b.size ≤ cap := by rw [hcap]; simp [Question.cut]
  obtain ⟨cs, hcs⟩ : ∃ cs : Array Value, cs = (b.data.map fun b => Value.int .u8 b.toNat) ++ Array.replicate (cap - b.size) (.int .u8 0) := ⟨_, rfl⟩
  have hbs : b.data.size = b.size := rfl
  have hsz : cs.size = cap := by
    rw [hcs]
    simp
    omega
  refine ⟨{ w with drawn := w.drawn + 1, heap := w.heap.push (.cells cs e (cap, cap + 1)) }, cap, ?_, ⟨by simp, fun i hi => by simp [Array.getElem?_push, Nat.ne_of_lt hi], rfl, rfl, ⟨rfl, Nat.le_succ _⟩⟩, by simp, hle, cs, e, (cap, cap + 1), by simp, fun j hj => by simp only; omega, ⟨fun h => absurd rfl h, fun h => by cases h⟩, hsz, ?_⟩
  · have hq : (Question.appendCap b.size 0 e).forced = false := rfl
    simp only [Conv.stringToBytes, Sem.run_bind, run_choose, hq, Bool.false_eq_true, if_false, Result.andThen_ok, ← hcap, ← hcs, newRow, run_newObj, markStringish, Sem.run_pure, run_shape]
    have hsh : ({ w with drawn := w.drawn + 1, heap := w.heap.push (.cells cs e) } : World).shape? w.heap.size = some (e, cap) := by
      simp [World.shape?, hsz]
    have hfr : ({ w with drawn := w.drawn + 1, heap := w.heap.push (.cells cs e) } : World).freeze ⟨w.heap.size, cap, none⟩ 1 = { w with drawn := w.drawn + 1, heap := w.heap.push (.cells cs e (cap, cap + 1)) } := by
      unfold World.freeze
      rw [if_neg (by decide)]
      simp only [push_modify]
      simp
    rw [hsh]
    simp only [run_freeze, Result.andThen_ok, hfr]
  · intro j x hj
    rw [bytesOf, List.getElem?_map] at hj
    have hjl : j < b.data.size := by
      cases hq : b.data.toList[j]? with
      | none => rw [hq] at hj; cases hj
      | some y => have := (List.getElem?_eq_some_iff.1 hq).1; simpa using this
    rw [hcs, Array.getElem?_append_left (by simpa using hjl)]
    rw [Array.getElem?_map]
    rw [Array.getElem?_toList] at hj
    cases hq : b.data[j]? with
    | none => rw [hq] at hj; cases hj
    | some y => rw [hq] at hj; simp at hj; simp [← hj]
theorem m_convert (h : Rel P X N s g F ow a.tmps w) (hE : EnvOk P E) {d t u : Nat} {x : Operand} (hd : d < N) (ho : o.op = .convert t u x) (hdst : o.dst = some d)
    (hr : (match E.ty t, E.ty u with
      | some .str, some (.sl (.int .u8)) => match s.opd x with
        | .v .str b => cond (Nat.beq b.size 0) (kk (s.put d (.one (.v (.sl (.int .u8)) [])))) (kk (s.newRoot d ⟨.sl (.int .u8), .o .s, bytesOf b⟩ false (.al d [])))
        | _ => none
      | _, _ => none) = some r) (hn : ∀ a' w', MOk P X N a o.dst kk r a' w' → next a' w') : o.wp P a w next Q := by
  have hx := h.opd x
  split at hr
  case h_2 => cases hr
  rename_i h1 h2
  have t1 := (hE.ty _ _ h1).2
  obtain ⟨_, e, t2, _, te⟩ := hE.ty _ _ h2
  split at hr
  case h_2 => cases hr
  rename_i b hp
  rw [hp] at hx
  obtain ⟨_, _, hv⟩ := hx
  obtain ⟨w', cap, hrun, hext, hlt, hcap, hblk⟩ := run_toBytes (P := P) (w := w) e b
  have hex : (execOp a.eval o).run P w = .ok (.value (.slice (some ⟨w.heap.size, 0, none⟩) b.size cap)) w' := by
    have : (convert t u (a.eval x)).run P w = (Conv.stringToBytes e b).run P w := by
      rw [hv]
      simp [convert, run_underlying t1, run_underlying t2, run_underlying te, valOf]
    simp only [execOp, ho, Sem.run_bind, this, hrun, Result.andThen_ok]
    rfl
  have hlen : (bytesOf b).length = b.size := by
    simp [bytesOf]
  simp only [Oper.wp, hex, Oper.upon]
  cases hz : Nat.beq b.size 0 with
  | true =>
    rw [hz] at hr
    simp only [cond_true] at hr
    have hz : b.size = 0 := Nat.eq_of_beq_eq_true hz
    have h1 := (h.ext hext (fun _ h => h) (fun _ h => .inl h)).put hd (c := .one (.v (.sl (.int .u8)) [])) (v := .slice (some ⟨w.heap.size, 0, none⟩) b.size cap)
      ⟨((some (w.heap.size, 0), cap), fun _ => ()), fun _ => ⟨⟨Nat.zero_le _, (fun h => by cases h), fun b o e => ⟨(fun h => by cases h), fun h => absurd rfl h⟩, fun h => by cases h⟩, fun i x hx => trivial⟩, by simp [valOf, adr, hz]⟩
    exact hn _ _ ⟨put_keeps a _ _, _, _, _, _, hr, by rw [put_tmps a hdst]; exact h1⟩
  | false =>
    rw [hz] at hr
    simp only [cond_false] at hr
    have hz : b.size ≠ 0 := fun e => by rw [e] at hz; cases hz
    have hfp : ∀ c, c ∉ fpL (fp (.int .u8) .s) (bytesOf b) (fun _ => ()) := fun c hc => by
      obtain ⟨i, x, _, hb⟩ := mem_fpL.1 hc
      cases hb
    obtain ⟨r1, r2⟩ := slice_new h hext hlt (k := .int .u8) (m := .s) (xs := bytesOf b) (lf := fun _ => ()) (cap := cap)
      (hblk.mono fun cs hc => ⟨fun i x hx j v hv => by
        cases j with
        | zero =>
          simp only [vals, List.getElem?_cons_zero, Option.some.injEq] at hv
          subst hv
          have := hc.2 i x hx
          simpa [K.size] using this
        | succ j => simp [vals] at hv, by simp [K.size, hc.1]⟩)
      (fun h0 => by omega) (fun i x hx => trivial) (by rw [List.eq_nil_iff_forall_not_mem.2 hfp]; exact List.nodup_nil) (fun c hc => absurd hc (hfp c)) (by omega)
    obtain ⟨g2, ow2, e2⟩ := r1.newRoot hd r2
    rw [show valOf (.sl (.int .u8)) (bytesOf b) ((some (w.heap.size, 0), cap), fun _ => ()) = .slice (some ⟨w.heap.size, 0, none⟩) b.size cap by simp [valOf, adr, hlen]] at e2
    exact hn _ _ ⟨put_keeps a _ _, _, g2, _, ow2, hr, by rw [put_tmps a hdst]; exact e2⟩
end
end Go.Proofs.YthlnjkcpdkjipaaDoor.Ev

/- What 'append' does to the world. -/
namespace Go.Proofs.YthlnjkcpdkjipaaDoor.Ev
section
variable {P : Program} {X : Cx} {N : Nat} {a : Act} {s : St} {g : Gs} {F : Nat → Prop} {ow : Nat → Option Nat} {w : World} {R : Type} {r : R} {tm : Array Value} {E : Env}
  {o : Oper} {next : Act → World → Prop} {Q : Exit → Act → World → Prop} {kk : St → Option R}
theorem Rel.world (h : Rel P X N s g F ow tm w) {w' : World} (hs : ∀ c, F c ∨ (∃ t, ow c = some t) ∨ (c < X.w0.heap.size ∧ ¬ X.hd c) → w'.heap[c]? = w.heap[c]?) (hz : w.heap.size ≤ w'.heap.size)
    (hos : w'.os = w.os) (htp : w'.tape = w.tape) (hou : OutLe w w') : Rel P X N s g F ow tm w' := by
  have hw : ∀ b, F b → w'.heap[b]? = w.heap[b]? := fun b hb => hs b (.inl hb)
  have hfp : ∀ t r, g t = some r → ∀ b ∈ r.fp, w'.heap[b]? = w.heap[b]? := fun t r hr b hb => hs b (.inr (.inl ⟨t, h.ho t r hr b hb⟩))
  refine { root := h.root, slot := fun n => (h.slot n).frame hw (fun _ h => h), sat := fun t r hr => sat_frame (h.sat t r hr) (fun b hb => ?_) (fun _ h => h), mem := fun t r hr c o hc => ?_, mb := h.mb, ho := h.ho, nd := h.nd, hF := fun b hb => ⟨(h.hF b hb).1, Nat.lt_of_lt_of_le (h.hF b hb).2 hz⟩, lt := fun b t hb => Nat.lt_of_lt_of_le (h.lt b t hb) hz, own := h.own, bl := h.bl, F0 := h.F0, Fnew := h.Fnew, kept := fun b hb hm => ?_, size := Nat.le_trans h.size hz, os := hos.trans h.os, tape := htp.trans h.tape, out := hou.trans h.out, sz := h.sz, big := h.big }
  · rcases hb with hb | hb
    · exact hfp t r hr b (by simp only [GR.fp, GR.fpi, List.mem_append]; exact .inr hb)
    · exact hw b hb
  · exact (h.mem t r hr c o hc).frame (hfp t r hr c (by simp [GR.fp, hc]))
  · have hk := h.kept b hb hm
    have he := hs b (.inr (.inr ⟨hb, hm⟩))
    cases hr : X.rg b with
    | none => rw [hr] at hk; simp only at hk ⊢; rw [he]; exact hk
    | some q =>
      rw [hr] at hk
      obtain ⟨cs, t, fr, cs', h1, h2, h3, h4⟩ := hk
      exact ⟨cs, t, fr, cs', h1, by rw [he]; exact h2, h3, h4⟩
def lfApp {α : Type} (n : Nat) (l l2 : Nat → α) : Nat → α := fun i => if i < n then l i else l2 (i - n)
theorem getElem?_app {α : Type} {xs ys : List α} {i : Nat} {x : α} (h : (xs ++ ys)[i]? = some x) : (i < xs.length ∧ xs[i]? = some x) ∨ (xs.length ≤ i ∧ ys[i - xs.length]? = some x) := by
  rcases Nat.lt_or_ge i xs.length with hlt | hge
  · rw [List.getElem?_append_left hlt] at h
    exact .inl ⟨hlt, h⟩
  · rw [List.getElem?_append_right hge] at h
    exact .inr ⟨hge, h⟩
theorem fpL_app {α β : Type} (f : α → β → List Nat) : ∀ (xs ys : List α) (l l2 : Nat → β), fpL f (xs ++ ys) (lfApp xs.length l l2) = fpL f xs l ++ fpL f ys l2
  | [], ys, l, l2 => by
    have : lfApp (List.length ([] : List α)) l l2 = l2 := by funext i; simp [lfApp]
    rw [this]; rfl
  | x :: xs, ys, l, l2 => by
    have h0 : lfApp (x :: xs).length l l2 0 = l 0 := by simp [lfApp]
    have h1 : (fun i => lfApp (x :: xs).length l l2 (i + 1)) = lfApp xs.length (fun i => l (i + 1)) l2 := by
      funext i
      simp only [lfApp, List.length_cons]
      by_cases hi : i < xs.length
      · rw [if_pos (by omega), if_pos hi]
      · rw [if_neg (by omega), if_neg hi]; congr 1; omega
    simp only [List.cons_append, fpL, h0, h1, List.append_assoc]
    rw [fpL_app f xs ys]
def elCells (k : K) (n : Nat) (xs : List (T k)) (l : Nat → L k) : List Value := (List.range n).flatMap fun i => match xs[i]? with | some x => vals k x (l i) | none => []
theorem flatMap_len {α : Type} (f : α → List Value) (n : Nat) : ∀ (l : List α), (∀ x ∈ l, (f x).length = n) → (l.flatMap f).length = l.length * n
  | [], _ => by simp
  | x :: l, h => by
    rw [List.flatMap_cons, List.length_append, h x (List.mem_cons_self), flatMap_len f n l (fun y hy => h y (List.mem_cons_of_mem _ hy)), List.length_cons, Nat.add_mul]
    omega
theorem elCells_length {k : K} {xs : List (T k)} {l : Nat → L k} : (elCells k xs.length xs l).length = xs.length * k.size := by
  unfold elCells
  rw [flatMap_len _ k.size _ fun i hi => ?_, List.length_range]
  rw [List.mem_range] at hi
  rw [List.getElem?_eq_getElem hi]
  exact vals_length _ _ _
theorem elCells_get {k : K} {xs : List (T k)} {l : Nat → L k} {i : Nat} {x : T k} (h : xs[i]? = some x) {j : Nat} (hj : j < k.size) : (elCells k xs.length xs l)[i * k.size + j]? = (vals k x (l i))[j]? := by
  unfold elCells
  rw [List.flatMap_def]
  have hi := (List.getElem?_eq_some_iff.1 h).1
  rw [flatten_get (n := k.size) (i := i) (j := j) (v := vals k x (l i)) ?_ ?_ hj]
  · intro v hv
    obtain ⟨i, hi, rfl⟩ := List.mem_map.1 hv
    rw [List.mem_range] at hi
    rw [List.getElem?_eq_getElem hi]
    exact vals_length _ _ _
  · rw [List.getElem?_map, List.getElem?_range hi]
    simp [h]
theorem elCells_nu8 {k : K} (hn : k.nu8 = true) {n : Nat} {xs : List (T k)} {l : Nat → L k} : ∀ v ∈ elCells k n xs l, u8V v = false := by
  intro v hv
  unfold elCells at hv
  obtain ⟨i, _, hv⟩ := List.mem_flatMap.1 hv
  cases hx : xs[i]? with
  | none => rw [hx] at hv; cases hv
  | some x => rw [hx] at hv; exact vals_nu8 hn v hv
theorem zeroCells_nu8 {k : K} (hn : k.nu8 = true) (hk : k.size ≠ 0) {n : Nat} : ∀ v ∈ (Builtin.zeroCells (vals k k.zero (zeroL k)).toArray n).toList, u8V v = false := by
  intro v hv
  rw [Builtin.zeroCells] at hv
  simp only [List.size_toArray, vals_length, Array.toList_map, Array.toList_range, List.mem_map, List.mem_range] at hv
  obtain ⟨p, hp, rfl⟩ := hv
  have hp2 : p % k.size < (vals k k.zero (zeroL k)).length := by rw [vals_length]; exact Nat.mod_lt _ (Nat.pos_of_ne_zero hk)
  rw [getElem!_pos _ _ (by simpa using hp2)]
  exact vals_nu8 hn _ (List.getElem_mem hp2)
theorem range_nu8 {w : World} {b o : Nat} {vs : List Value} (h : Blk w b fun cs => cellsAt cs o vs) (hv : ∀ v ∈ vs, u8V v = false) (cs : Array Value) (e : TypeId) (fr : Nat × Nat) (hc : w.heap[b]? = some (.cells cs e fr)) (j : Nat) (v : Value) (h1 : o ≤ j) (h2 : j < o + vs.length) (hj : cs[j]? = some v) : u8V v = false := by
  obtain ⟨cs', e', fr', k1, _, k3⟩ := h
  rw [hc] at k1
  injection k1 with k1
  injection k1 with k1 _ _
  subst k1
  have hl : j - o < vs.length := by omega
  have := k3 _ _ (List.getElem?_eq_getElem hl)
  rw [show o + (j - o) = j by omega, hj] at this
  injection this with this
  rw [this]
  exact hv _ (List.getElem_mem hl)
theorem elCells_at {k : K} (hk : k.size ≠ 0) {xs : List (T k)} {l : Nat → L k} {p : Nat} {u : Value} (h : (elCells k xs.length xs l)[p]? = some u) :
    ∃ x, xs[p / k.size]? = some x ∧ (vals k x (l (p / k.size)))[p % k.size]? = some u := by
  have hp : p < xs.length * k.size := by have := (List.getElem?_eq_some_iff.1 h).1; rwa [elCells_length] at this
  have hi : p / k.size < xs.length := Nat.div_lt_of_lt_mul (by rw [Nat.mul_comm]; exact hp)
  have hx := List.getElem?_eq_getElem hi
  have := elCells_get (l := l) hx (Nat.mod_lt p (Nat.pos_of_ne_zero hk))
  rw [Nat.mul_comm, Nat.div_add_mod] at this
  exact ⟨_, hx, by rw [← this]; exact h⟩
theorem cells_of {v : Bool} {k : K} (hk : k.size ≠ 0) {xs : List (T k)} {l : Nat → L k} {b off : Nat} (h : xs ≠ [] → BlkG v w b fun cs => ∀ i x, xs[i]? = some x → cellsAt cs (off + i * k.size) (vals k x (l i))) :
    ∀ j u, (elCells k xs.length xs l)[j]? = some u → w.cell? ((⟨b, off, none⟩ : Addr).add j) = some u := by
  intro j u hj
  obtain ⟨x, hx, hu⟩ := elCells_at hk hj
  have hne : xs ≠ [] := by rintro rfl; simp at hx
  obtain ⟨cs, e, fr, h1, _, h3⟩ := h hne
  rw [add_mk, cell_of h1]
  have := h3 _ _ hx _ _ hu
  rwa [Nat.add_assoc, Nat.mul_comm, Nat.div_add_mod] at this
end
end Go.Proofs.YthlnjkcpdkjipaaDoor.Ev

/- 'append': what comes of it. -/
namespace Go.Proofs.YthlnjkcpdkjipaaDoor.Ev
section
variable {P : Program} {X : Cx} {N : Nat} {a : Act} {s : St} {g : Gs} {F : Nat → Prop} {ow : Nat → Option Nat} {w : World} {R : Type} {r : R} {tm : Array Value} {E : Env}
  {o : Oper} {next : Act → World → Prop} {Q : Exit → Act → World → Prop} {kk : St → Option R}
theorem src_kind {size : Nat} {tx : TypeId} {x : Value} {n : Nat} {news : List Value} (h : Src P size tx x n news w) : ∃ d, P.underlying tx = some d ∧ ∀ k, d ≠ .int k := by
  rcases h.kind with ⟨e', hk⟩ | hk
  · exact ⟨_, hk, fun _ h => by cases h⟩
  · exact ⟨_, hk, fun _ h => by cases h⟩
theorem run_append_none {t tx ty e : TypeId} {i : TypeInfo} (ht : P.underlying t = some (.slice e)) (hi : P.info? e = some i) {x : Value} {news : List Value} (hs : Src P i.size tx x 0 news w) (q : Option Addr) (n c : Nat) (hn : n ≤ c) :
    (Builtin.append_ #[t, tx] ty #[.slice q n c, x]).run P w = .ok (.slice q n c) w := by
  have hnews : news = [] := by have := hs.newsLen; rw [Nat.zero_mul] at this; exact List.eq_nil_of_length_eq_zero this
  subst hnews
  rcases hs.kind with ⟨e', hk⟩ | hk <;> simp [Builtin.append_, run_underlying ht, run_underlying hk, sizeOf, typeInfo, hi, hs.len, hn, hs.cells]
  all_goals
    cases q with
    | none => simp
    | some q => simp [storeCells]
theorem append_core (h : Rel P X N s g F ow tm w) {t tx ty e : TypeId} {k : K} (ht : P.underlying t = some (.slice e)) (he : TyOk P e k) (hk : k.size ≠ 0)
    {mi : Mk} {xs : List (T k)} {l : L (.sl k)} (hd : Taken X F ow w (.sl k) (.o mi) xs l) {ys : List (T k)} {lf : Nat → L k} {v : Value}
    (hsrc : Src P k.size tx v ys.length (elCells k ys.length ys lf) w) (hmax : xs.length + ys.length ≤ 17179869184)
    (hs : ∀ i y, ys[i]? = some y → Ev.sat w F k mi y (lf i)) (hnd : (fpL (fp k mi) ys lf).Nodup) (hno : ∀ b ∈ fpL (fp k mi) ys lf, ow b = none ∧ ¬ F b ∧ b < w.heap.size ∧ X.free b)
    (hdj : ∀ b ∈ fpL (fp k mi) ys lf, b ∉ fp (.sl k) (.o mi) xs l) :
    ∃ w' F' l', (Builtin.append_ #[t, tx] ty #[valOf (.sl k) xs l, v]).run P w = .ok (valOf (.sl k) (xs ++ ys) l') w' ∧ Rel P X N s g F' ow tm w' ∧ Taken X F' ow w' (.sl k) (.o mi) (xs ++ ys) l' := by
  obtain ⟨⟨q, cap⟩, lx⟩ := l
  obtain ⟨i, hi, hsz, hz, hby⟩ := he.i.info
  obtain ⟨hb0, hb1⟩ := hby hk
  have hsrc' := hsrc
  rw [← hsz] at hsrc'
  obtain ⟨⟨h1, h2, h3, h5⟩, h4⟩ := hd.sat (by intro h; cases h)
  simp only at h1 h2 h3 h5 h4
  simp only [valOf]
  by_cases hys : ys = []
  · subst hys
    have hrun := run_append_none (w := w) (ty := ty) ht hi (news := _) hsrc' (adr q) xs.length cap h1
    refine ⟨w, F, ((q, cap), lx), ?_, h, by rw [List.append_nil]; exact hd⟩
    rw [List.append_nil]
    exact hrun
  have hyl : 0 < ys.length := List.length_pos_iff.2 hys
  have hfpd : fp (.sl k) (.o mi) xs ((q, cap), lx) = own1 (q, cap) ++ fpL (fp k mi) xs lx := by simp [fp, Mk.owns, Mk.inner]
  have hndx := hd.nd
  rw [hfpd, List.nodup_append] at hndx
  obtain ⟨_, hnd1, hnd2⟩ := hndx
  have hfx : ∀ (i : Nat) (x : T k), xs[i]? = some x → ∀ b ∈ fp k mi x (lx i), b ∈ fpL (fp k mi) xs lx := fun i x hx b hb => mem_fpL.2 ⟨i, x, hx, hb⟩
  have hfy : ∀ (i : Nat) (y : T k), ys[i]? = some y → ∀ b ∈ fp k mi y (lf i), b ∈ fpL (fp k mi) ys lf := fun i x hx b hb => mem_fpL.2 ⟨i, x, hx, hb⟩
  have hcells : ∀ b o, q = some (b, o) → xs ≠ [] → Blk w b fun cs => ∀ i x, xs[i]? = some x → cellsAt cs (o + i * k.size) (vals k x (lx i)) := fun b o e hne => ((h3 b o e).2 hne).2
  by_cases hroom : xs.length + ys.length ≤ cap
  · -- there is room
    have hcap : cap ≠ 0 := by omega
    cases q with
    | none => exact absurd (h2 rfl) hcap
    | some q =>
    obtain ⟨b, off⟩ := q
    have hblk := (h3 b off rfl).1 rfl hcap
    have hlen := elCells_length (xs := ys) (l := lf)
    have hfit : off + xs.length * k.size + ys.length * k.size ≤ off + cap * k.size := by
      have := Nat.mul_le_mul_right k.size hroom
      rw [Nat.add_mul] at this
      omega
    obtain ⟨cs, et, fr, c1, c2, c2', c3⟩ := hblk
    have hrun := run_append_room_src (P := P) w t tx ty e i ht hi b off xs.length cap v ys.length (elCells k ys.length ys lf) hsrc' hroom
      (fun j hj => by
        rw [hlen] at hj
        rw [cell_of c1, hsz, Array.getElem?_eq_getElem (by omega)]; rfl)
      (fun j hj => by
        rw [hlen] at hj
        exact frozen_of c1 c2 _ (by rw [hsz]; omega))
    rw [hsz] at hrun
    obtain ⟨s1, s2, s3, s4, s5, s6, s7⟩ := setCells_spec (elCells k ys.length ys lf) (off + xs.length * k.size) w ⟨cs, et, fr, c1, fun _ => c2, by rw [hlen]; omega⟩
    rw [hlen] at s1
    have hbown : b ∈ own1 (some (b, off), cap) := mem_own1.2 ⟨hcap, off, rfl⟩
    obtain ⟨n1, n2, n3, n4⟩ := hd.no b (by rw [hfpd]; exact List.mem_append.2 (.inl hbown))
    have hbx : b ∉ fpL (fp k mi) xs lx := fun hb => hnd2 b hbown b hb rfl
    have hby' : b ∉ fpL (fp k mi) ys lf := fun hb => hdj b hb (by rw [hfpd]; exact List.mem_append.2 (.inl hbown))
    refine ⟨_, F, ((some (b, off), cap), lfApp xs.length lx lf), ?_, h.world (fun c hc => s3 c ?_) (by rw [s4]; exact Nat.le_refl _) s5 s6 s7, fun _ => ⟨⟨?_, (fun h => by cases h), (fun b' o' e' => ?_), fun _ h0 => absurd h0 hcap⟩, fun j z hj => ?_⟩, ?_, fun c hc => ?_⟩
    · show (Builtin.append_ #[t, tx] ty #[.slice (some ⟨b, off, none⟩) xs.length cap, v]).run P w = _
      rw [hrun]
      simp [valOf, adr]
    · rintro rfl
      rcases hc with hc | ⟨t', hc⟩ | ⟨hc1, hc2⟩
      · exact n2 hc
      · rw [n1] at hc; cases hc
      · exact n4.elim (fun h => by omega) hc2
    · simp only [List.length_append]; omega
    · simp only [Option.some.injEq, Prod.mk.injEq] at e'
      obtain ⟨rfl, rfl⟩ := e'
      refine ⟨fun _ _ => s1.blkE (P := fun cs => off + cap * k.size ≤ cs.size) ⟨cs, et, fr, c1, c2, c2', c3⟩ (fun hn cs' e9 fr9 hc j v h1 h2 hj => range_nu8 s2 (elCells_nu8 hn) cs' e9 fr9 hc j v h1 (by rw [hlen]; exact h2) hj) fun cs cs' p1 p2 _ => by rw [p2]; exact p1, fun _ => ⟨(fun h => by cases h), ?_⟩⟩
      obtain ⟨cs1, e1, fr1, cs2, g1, g2, g3, g4⟩ := s1
      obtain ⟨cs3, e3, fr3, k1, k2, k3⟩ := s2
      rw [g2] at k1
      injection k1 with k1
      injection k1 with k1' k2' k3'
      subst k1'; subst k2'; subst k3'
      refine ⟨cs2, _, _, g2, k2, fun j z hj => ?_⟩
      rcases getElem?_app hj with ⟨hlt, hj⟩ | ⟨hge, hj⟩
      · have hxs : xs ≠ [] := by rintro rfl; simp at hlt
        obtain ⟨cs4, e4, fr4, m1, m2, m3⟩ := hcells b off rfl hxs
        rw [g1] at m1
        injection m1 with m1
        injection m1 with m1' m2' m3'
        subst m1'
        intro p u hp
        have hpl : p < k.size := by have := (List.getElem?_eq_some_iff.1 hp).1; rwa [vals_length] at this
        have hjl : (j + 1) * k.size ≤ xs.length * k.size := Nat.mul_le_mul_right _ (by omega)
        rw [Nat.add_mul] at hjl
        rw [g4 _ (by omega)]
        simp only [lfApp, if_pos hlt] at hp
        exact m3 j z hj p u hp
      · intro p u hp
        have hpl : p < k.size := by have := (List.getElem?_eq_some_iff.1 hp).1; rwa [vals_length] at this
        simp only [lfApp, if_neg (Nat.not_lt.2 hge)] at hp
        have := k3 ((j - xs.length) * k.size + p) u (by rw [elCells_get hj hpl]; exact hp)
        have hm : j * k.size = xs.length * k.size + (j - xs.length) * k.size := by rw [← Nat.add_mul]; congr 1; omega
        rw [show off + j * k.size + p = off + xs.length * k.size + ((j - xs.length) * k.size + p) by omega]
        exact this
    · rcases getElem?_app hj with ⟨hlt, hj⟩ | ⟨hge, hj⟩
      · simp only [lfApp, if_pos hlt, Mk.inner]
        exact sat_frame (h4 j z hj) (fun c hc => s3 c (by
          rintro rfl
          exact hc.elim (fun hc => hbx (hfx j z hj _ hc)) n2)) (fun _ h => h)
      · simp only [lfApp, if_neg (Nat.not_lt.2 hge), Mk.inner]
        exact sat_frame (hs _ z hj) (fun c hc => s3 c (by
          rintro rfl
          exact hc.elim (fun hc => hby' (hfy _ z hj _ hc)) n2)) (fun _ h => h)
    · simp only [fp, Mk.owns, if_true, Mk.inner, fpL_app, List.nodup_append]
      refine ⟨nodup_own1 _, ⟨hnd1, hnd, ?_⟩, ?_⟩
      · rintro c hc c2 hc2 rfl
        exact hdj c hc2 (by rw [hfpd]; exact List.mem_append.2 (.inr hc))
      · rintro c hc c2 hc2 rfl
        rcases List.mem_append.1 hc2 with hc2 | hc2
        · exact hnd2 c hc c hc2 rfl
        · exact hdj c hc2 (by rw [hfpd]; exact List.mem_append.2 (.inl hc))
    · simp only [fp, Mk.owns, if_true, Mk.inner, fpL_app, List.mem_append] at hc
      rw [s4]
      rcases hc with hc | hc | hc
      · exact hd.no c (by rw [hfpd]; exact List.mem_append.2 (.inl hc))
      · exact hd.no c (by rw [hfpd]; exact List.mem_append.2 (.inr hc))
      · exact hno c hc
  · -- there is none
    have hroom' : cap < xs.length + ys.length := by omega
    have hfit : Builtin.nextslicecap (xs.length + ys.length) cap * i.bytes ≤ 281474976710656 := by
      have h1 := nextslicecap_le hroom'
      have h2 : Builtin.nextslicecap (xs.length + ys.length) cap * i.bytes ≤ 34359738368 * 4096 := Nat.mul_le_mul (by omega) hb1
      omega
    · have h63 : ((xs.length + ys.length : Nat) : Int) ≤ 9223372036854775807 := by
        have h1 := le_nextslicecap hroom'
        have h2 : xs.length + ys.length ≤ Builtin.nextslicecap (xs.length + ys.length) cap * i.bytes := Nat.le_trans h1 (Nat.le_mul_of_pos_right _ hb0)
        omega
      have hold : (Builtin.firstCells i.size xs.length (.slice (adr q) xs.length cap)).run P w.drew = .ok (elCells k xs.length xs lx).toArray w.drew := by
        cases q with
        | none =>
          have : xs = [] := by have := h2 rfl; exact List.eq_nil_of_length_eq_zero (by omega)
          subst this
          exact run_firstCells_none _ _ _ _ _
        | some q =>
          obtain ⟨b, off⟩ := q
          exact run_firstCells_some (P := P) w.drew i.size xs.length ⟨b, off, none⟩ xs.length cap _ (by rw [hsz]; exact elCells_length) (by simpa using cells_of hk (hcells b off rfl))
      have hrun := run_append_grow_src (P := P) w t tx ty e i _ ht hi hz (adr q) xs.length cap _ hold v ys.length _ hsrc' hroom' h63 hfit
      obtain ⟨c2, hc2⟩ : ∃ c2, c2 = grownCap w (xs.length + ys.length) cap e := ⟨_, rfl⟩
      have hc2g : xs.length + ys.length ≤ c2 := by rw [hc2]; exact grownCap_ge w _ _ _
      rw [← hc2, valOf_cells] at hrun
      obtain ⟨cs, hcs⟩ : ∃ cs : Array Value, cs = (elCells k xs.length xs lx ++ elCells k ys.length ys lf).toArray ++ Builtin.zeroCells (vals k k.zero (zeroL k)).toArray (c2 - (xs.length + ys.length)) := ⟨_, rfl⟩
      rw [← hcs] at hrun
      have hl1 := elCells_length (xs := xs) (l := lx)
      have hl2 := elCells_length (xs := ys) (l := lf)
      have hsize : cs.size = c2 * k.size := by
        rw [hcs]
        simp only [Builtin.zeroCells, Array.size_append, List.size_toArray, List.length_append, hl1, hl2, Array.size_map, Array.size_range, vals_length]
        rw [← Nat.add_mul, ← Nat.add_mul]
        congr 1
        omega
      have hext : Ext w (w.drew.alloc (.cells cs e)) := ⟨by show w.heap.size ≤ (w.heap.push _).size; simp, fun b hb => by show (w.heap.push _)[b]? = w.heap[b]?; simp [Array.getElem?_push, Nat.ne_of_lt hb], rfl, rfl, ⟨rfl, Nat.le_succ _⟩⟩
      obtain ⟨r1, r2⟩ := slice_new (w' := w.drew.alloc (.cells cs e)) h hext (by show w.heap.size < (w.heap.push _).size; simp) (k := k) (m := mi) (xs := xs ++ ys) (lf := lfApp xs.length lx lf) (cap := c2)
        ⟨cs, e, (0, 0), by show (w.heap.push _)[w.heap.size]? = _; simp, fun j _ => by simp, ⟨fun _ => ⟨by simp, by have := grownCap_le_maxLen w (xs.length + ys.length) cap e (by unfold maxLen; omega); rw [← hc2] at this; unfold maxLen at this; omega⟩, fun hn j v hj => by
          have hm : v ∈ cs.toList := by rw [Array.mem_toList_iff]; exact Array.mem_of_getElem? hj
          rw [hcs, Array.toList_append] at hm
          rcases List.mem_append.1 hm with hm | hm
          · rcases List.mem_append.1 hm with hm | hm
            · exact elCells_nu8 hn v hm
            · exact elCells_nu8 hn v hm
          · exact zeroCells_nu8 hn hk v hm⟩, fun j z hj => by
          intro p u hp
          have hpl : p < k.size := by have := (List.getElem?_eq_some_iff.1 hp).1; rwa [vals_length] at this
          rw [hcs]
          rcases getElem?_app hj with ⟨hlt, hj⟩ | ⟨hge, hj⟩
          · simp only [lfApp, if_pos hlt] at hp
            have hjl : (j + 1) * k.size ≤ xs.length * k.size := Nat.mul_le_mul_right _ (by omega)
            rw [Nat.add_mul] at hjl
            rw [Array.getElem?_append_left (by simp only [List.size_toArray, List.length_append, hl1]; omega)]
            rw [List.getElem?_toArray, List.getElem?_append_left (by rw [hl1]; omega), elCells_get hj hpl]
            exact hp
          · simp only [lfApp, if_neg (Nat.not_lt.2 hge)] at hp
            have hjl := (List.getElem?_eq_some_iff.1 hj).1
            have hm : j * k.size = xs.length * k.size + (j - xs.length) * k.size := by rw [← Nat.add_mul]; congr 1; omega
            have hjl2 : (j - xs.length + 1) * k.size ≤ ys.length * k.size := Nat.mul_le_mul_right _ (by omega)
            rw [Nat.add_mul] at hjl2
            rw [Array.getElem?_append_left (by simp only [List.size_toArray, List.length_append, hl1, hl2]; omega)]
            rw [List.getElem?_toArray, List.getElem?_append_right (by rw [hl1]; omega), hl1, show j * k.size + p - xs.length * k.size = (j - xs.length) * k.size + p by omega, elCells_get hj hpl]
            exact hp, by rw [hsize]; exact Nat.le_refl _⟩
        (fun h0 => by omega)
        (fun j z hj => by
          rcases getElem?_app hj with ⟨hlt, hj⟩ | ⟨hge, hj⟩
          · simp only [lfApp, if_pos hlt]; exact h4 j z hj
          · simp only [lfApp, if_neg (Nat.not_lt.2 hge)]; exact hs _ z hj)
        (by
          rw [fpL_app, List.nodup_append]
          refine ⟨hnd1, hnd, ?_⟩
          rintro c hc c2 hc2 rfl
          exact hdj c hc2 (by rw [hfpd]; exact List.mem_append.2 (.inr hc)))
        (fun c hc => by
          rw [fpL_app, List.mem_append] at hc
          rcases hc with hc | hc
          · exact hd.no c (by rw [hfpd]; exact List.mem_append.2 (.inr hc))
          · exact hno c hc) (by simp only [List.length_append]; omega)
      refine ⟨_, _, _, ?_, r1, r2⟩
      rw [hrun]
      simp [valOf, adr]
end
end Go.Proofs.YthlnjkcpdkjipaaDoor.Ev

/- 'append': the operation. -/
namespace Go.Proofs.YthlnjkcpdkjipaaDoor.Ev
section
variable {P : Program} {X : Cx} {N : Nat} {a : Act} {s : St} {g : Gs} {F : Nat → Prop} {ow : Nat → Option Nat} {w : World} {R : Type} {r : R} {tm : Array Value} {E : Env}
  {o : Oper} {next : Act → World → Prop} {Q : Exit → Act → World → Prop} {kk : St → Option R}
def inFp : (k : K) → Mk → T k → L k → List Nat
  | .sl k, m, xs, l => fpL (fp k m.inner) xs l.2
  | _, _, _, _ => []
def outB : (k : K) → T k → L k → Option (Nat × Nat)
  | .sl _, xs, l => cond xs.isEmpty none l.1.1
  | _, _, _ => none
theorem inFp_fp {k : K} {m : Mk} {x : T k} {l : L k} (hm : m.inner.clear = true ∨ m.owns = true) : ∀ b ∈ inFp k m x l, b ∈ fp k m x l := by
  intro b hb
  cases k with
  | sl k =>
    simp only [inFp] at hb
    rcases hm with hm | hm
    · obtain ⟨i, x, _, hb⟩ := mem_fpL.1 hb
      rw [fp_clear hm] at hb; cases hb
    · simp only [fp, hm, if_true, List.mem_append]; exact .inr hb
  | _ => cases hb
theorem inFp_nil {k : K} {m : Mk} {x : T k} {l : L k} (hm : m.inner.clear = true) : inFp k m x l = [] := by
  cases k with
  | sl k =>
    simp only [inFp]
    rw [List.eq_nil_iff_forall_not_mem]
    intro b hb
    obtain ⟨i, x, _, hb⟩ := mem_fpL.1 hb
    rw [fp_clear hm] at hb; cases hb
  | _ => rfl
theorem inFp_nodup {k : K} {m : Mk} {x : T k} {l : L k} (hm : m.owns = true) (h : (fp k m x l).Nodup) : (inFp k m x l).Nodup := by
  cases k with
  | sl k =>
    simp only [inFp]
    simp only [fp, hm, if_true, List.nodup_append] at h
    exact h.2.1
  | _ => exact List.nodup_nil
theorem outB_own {k : K} {m : Mk} {x : T k} {l : L k} (h : satV w F k m x l) (hm : m ≠ .d) {b off : Nat} (hb : outB k x l = some (b, off)) : F b ∨ b ∈ fp k m x l := by
  cases k with
  | sl k =>
    obtain ⟨⟨h1, h2, h3⟩, h4⟩ := h hm
    simp only [outB] at hb
    cases x with
    | nil => simp at hb
    | cons y ys =>
      simp only [List.isEmpty_cons, cond_false] at hb
      cases ho : m.owns with
      | false => exact .inl (((h3 b off hb).2 (by simp)).1 ho)
      | true =>
        refine .inr ?_
        simp only [fp, ho, if_true, List.mem_append]
        refine .inl (mem_own1.2 ⟨?_, off, hb⟩)
        simp only [List.length_cons] at h1
        omega
  | _ => cases hb
theorem srcOf_ok (h : Rel P X N s g F ow tm w) {fl str : Bool} {c : Pc} {v : Value} {kk : Ct → St → Option R} (hc : PcOk P g F w c v) (hr : srcOf fl str s c kk = some r) :
    (∃ b, c = .v .str b ∧ str = true ∧ v = .string b ∧ kk ⟨.sl (.int .u8), .o .s, bytesOf b⟩ s = some r) ∨
    (str = false ∧ ∃ (k : K) (m : Mk) (x : T k) (l : L k) (s' : St) (g' : Gs) (ow' : Nat → Option Nat), kk ⟨k, m, x⟩ s' = some r ∧ Rel P X N s' g' F ow' tm w ∧ Up g g' ∧ (∀ b t, ow' b = some t → ow b = some t) ∧
      v = valOf k x l ∧ satV w F k m x l ∧ (inFp k m x l).Nodup ∧ (∀ b ∈ inFp k m x l, ow' b = none ∧ ¬ F b ∧ b < w.heap.size ∧ X.free b) ∧
      (m ≠ .d → ∀ b off, outB k x l = some (b, off) → ∀ t, ow' b = some t → tagOf c = some t)) := by
  unfold srcOf at hr
  split at hr
  · rename_i b
    cases str with
    | false => cases hr
    | true =>
      obtain ⟨_, _, hv⟩ := hc
      exact .inl ⟨b, rfl, rfl, hv, hr⟩
  · have hst : str = false := by
      cases str with
      | true => cases hr
      | false => rfl
    subst hst
    simp only [cond_false] at hr
    obtain ⟨k, m, x, l, q1, q2, q3, q4⟩ := read_ok h hc hr
    simp only at q1
    cases hcl : m.inner.clear with
    | true =>
      rw [hcl] at q1
      refine .inr ⟨rfl, k, m, x, l, s, g, ow, q1, h, Up.refl g, fun _ _ h => h, q3, q2, by rw [inFp_nil hcl]; simp, (fun b hb => by rw [inFp_nil hcl] at hb; cases hb), fun hm b off hb t ht => ?_⟩
      rcases outB_own q2 hm hb with hF | hF
      · rw [(h.hF b hF).1] at ht; cases ht
      · obtain ⟨t', h1, h2⟩ := q4 b hF
        rw [ht] at h2; injection h2 with h2; subst h2
        exact h1
    | false =>
      rw [hcl] at q1
      simp only [cond_false] at q1
      cases fl with
      | true => cases q1
      | false =>
      simp only [cond_false] at q1
      obtain ⟨k, m, x, l, s', g', ow', p1, p2, p3, p4, p5, p6, p7, p8⟩ := take_ok h hc.weak q1
      have hin : m.inner.clear = true ∨ m.owns = true := by cases m <;> simp [Mk.inner, Mk.owns, Mk.clear]
      refine .inr ⟨rfl, k, m, x, l, s', g', ow', p1, p2, p3, p4, p5, p6.sat.V, ?_, (fun b hb => p6.no b (inFp_fp hin b hb)), fun hm b off hb t ht => ?_⟩
      · rcases hin with hin | hin
        · rw [inFp_nil hin]; simp
        · exact inFp_nodup hin p6.nd
      · rcases outB_own p6.sat.V hm hb with hF | hF
        · rw [(p2.hF b hF).1] at ht; cases ht
        · rw [(p6.no b hF).1] at ht; cases ht
theorem adr_inj {a b : Option (Nat × Nat)} (h : adr a = adr b) : a = b := by
  cases a with
  | none => cases b with
    | none => rfl
    | some b => cases h
  | some a => cases b with
    | none => cases h
    | some b =>
      obtain ⟨a1, a2⟩ := a
      obtain ⟨b1, b2⟩ := b
      simp only [adr, Option.map_some, Option.some.injEq, Addr.mk.injEq] at h
      obtain ⟨rfl, rfl, _⟩ := h
      rfl
theorem dstOf_ok (h : Rel P X N s g F ow tm w) {c : Pc} {v : Value} {kk : Option Ct → St → Option R} (hc : PcW P g F w c v) (hr : dstOf s c kk = some r) :
    (c = .nil0 ∧ kk none s = some r) ∨
    (∃ (k : K) (m : Mk) (x : T k) (l : L k) (s' : St) (g' : Gs) (ow' : Nat → Option Nat), kk (some ⟨k, m, x⟩) s' = some r ∧ Rel P X N s' g' F ow' tm w ∧ (∀ b t, ow' b = some t → ow b = some t) ∧
      v = valOf k x l ∧ Taken X F ow' w k m x l ∧ (∀ b ∈ fp k m x l, lent ow c b)) := by
  unfold dstOf at hr
  split at hr
  · exact .inl ⟨rfl, hr⟩
  · obtain ⟨k, m, x, l, s', g', ow', p1, p2, p3, p4, p5, p6, p7, p8⟩ := take_ok h hc hr
    exact .inr ⟨k, m, x, l, s', g', ow', p1, p2, p4, p5, p6, p8⟩
  · rename_i t p lo n
    cases hlo : Nat.beq lo 0 with
    | false => rw [hlo] at hr; cases hr
    | true =>
    rw [hlo] at hr
    have hlo := Nat.eq_of_beq_eq_true hlo
    subst hlo
    simp only [cond_true] at hr
    -- where it lies
    obtain ⟨q, c0, hg, hgat⟩ : ∃ q c0, g t = some q ∧ q.at p = some c0 := by
      have hr' := hr
      simp only [St.take] at hr'
      split at hr'
      case h_2 => cases hr'
      rename_i rt hrt
      obtain ⟨q, hg, rfl⟩ := h.rootOf hrt
      cases p with
      | nil => exact ⟨q, ⟨q.k, q.m, q.x, q.l, q.b⟩, hg, by simp [GR.at, gat]⟩
      | cons e p =>
        simp only [GR.rt, List.isEmpty_cons, Bool.false_and, cond_false] at hr'
        obtain ⟨c, h1, _⟩ := at_some hr' q.l q.b
        exact ⟨q, c, hg, h1⟩
    have hcw : PcW P g F w (.al t p) (valOf c0.k c0.x c0.l) := by
      intro q' c' e1 e2
      rw [hg] at e1; injection e1 with e1; subst e1
      have := gat_gatx hgat
      simp only [GR.atx] at e2
      rw [this] at e2
      injection e2 with e2
      subst e2
      rfl
    obtain ⟨k, m, x, l, s', g', ow', p1, p2, p3, p4, p5, p6, p7, p8⟩ := take_ok h hcw hr
    cases k <;> dsimp only at p1 <;> first | (cases p1; done) | skip
    rename_i k
    obtain ⟨ck, cm, cx, cl, cb⟩ := c0
    cases ck <;> simp only [valOf] at p5 <;> first | (cases p5; done) | skip
    rename_i k2
    injection p5 with e1 e2 e3
    have e1 := adr_inj e1
    obtain ⟨n1, ad, cap, n2, n3, n4, n5, n6, n7⟩ := hc q k2 cx cl cb hg (gat_gatx hgat)
    obtain ⟨rfl, rfl⟩ := n7 rfl
    have hmd : m ≠ .d := by rintro rfl; cases p7
    have hsub : ∀ b ∈ fpL (fp k m.inner) (x.take n) l.2, b ∈ fpL (fp k m.inner) x l.2 := fun b hb => by
      obtain ⟨i, y, hy, hb⟩ := mem_fpL.1 hb
      rw [List.getElem?_take] at hy
      split at hy
      · exact mem_fpL.2 ⟨i, y, hy, hb⟩
      · cases hy
    have hsubfp : ∀ b ∈ fp (.sl k) m (x.take n) l, b ∈ fp (.sl k) m x l := fun b hb => by
      simp only [fp] at hb ⊢
      split at hb
      · rw [if_pos (by assumption)]
        rw [List.mem_append] at hb ⊢
        exact hb.imp id (hsub b)
      · cases hb
    obtain ⟨⟨s1, s2, s3, s5⟩, s4⟩ := p6.sat hmd
    have hlen : x.length = cx.length := e2.symm
    refine .inr ⟨.sl k, m, x.take n, l, s', g', ow', p1, p2, p4, ?_, ⟨fun _ => ⟨⟨?_, s2, (fun b o' hb => ⟨(s3 b o' hb).1, fun hne => ?_⟩), s5⟩, fun i y hy => ?_⟩, ?_, fun b hb => p6.no b (hsubfp b hb)⟩, fun b hb => ?_⟩
    · simp only [valOf, List.length_take]
      rw [n2, ← e1, ← e3]
      congr 1
      omega
    · simp only [List.length_take]; omega
    · have hx : x ≠ [] := by rintro rfl; simp at hne
      refine ⟨((s3 b o' hb).2 hx).1, ((s3 b o' hb).2 hx).2.mono fun cs hcs i y hy => ?_⟩
      rw [List.getElem?_take] at hy
      split at hy
      · exact hcs i y hy
      · cases hy
    · rw [List.getElem?_take] at hy
      split at hy
      · exact s4 i y hy
      · cases hy
    · have := p6.nd
      simp only [fp] at this ⊢
      split
      · rw [if_pos (by assumption), List.nodup_append] at this
        rw [List.nodup_append]
        refine ⟨this.1, ?_, fun a ha b hb => this.2.2 a ha b (hsub b hb)⟩
        have h2 := nodup_fpL.1 this.2.1
        refine nodup_fpL.2 ⟨fun i y hy => ?_, fun i j y z hy hz => ?_⟩
        · rw [List.getElem?_take] at hy
          split at hy
          · exact h2.1 i y hy
          · cases hy
        · rw [List.getElem?_take] at hy hz
          split at hy
          · split at hz
            · exact h2.2 i j y z hy hz
            · cases hz
          · cases hy
      · exact List.nodup_nil
    · obtain ⟨t', h1, h2⟩ := p8 b (hsubfp b hb)
      exact ⟨t', h1, h2⟩
  · cases hr
end
end Go.Proofs.YthlnjkcpdkjipaaDoor.Ev

/- 'append': the operation, joined. -/
namespace Go.Proofs.YthlnjkcpdkjipaaDoor.Ev
section
variable {P : Program} {X : Cx} {N : Nat} {a : Act} {s : St} {g : Gs} {F : Nat → Prop} {ow : Nat → Option Nat} {w : World} {R : Type} {r : R} {tm : Array Value} {E : Env}
  {o : Oper} {next : Act → World → Prop} {Q : Exit → Act → World → Prop} {kk : St → Option R}
theorem elCells_bytes (b : ByteArray) : elCells (.int .u8) (bytesOf b).length (bytesOf b) (fun _ => ()) = byteCells b := by
  have hl := elCells_length (k := .int .u8) (xs := bytesOf b) (l := fun _ => ())
  have hbl : (bytesOf b).length = (byteCells b).length := by rw [byteCells_length]; simp [bytesOf]
  simp only [K.size, Nat.mul_one] at hl
  apply List.ext_getElem?
  intro p
  cases hx : (bytesOf b)[p]? with
  | none =>
    have : (bytesOf b).length ≤ p := List.getElem?_eq_none_iff.1 hx
    rw [List.getElem?_eq_none (by omega), List.getElem?_eq_none (by omega)]
  | some x =>
    have := elCells_get (k := .int .u8) (xs := bytesOf b) (l := fun _ => ()) hx (j := 0) (by decide)
    simp only [K.size, Nat.mul_one, Nat.add_zero, vals, List.getElem?_cons_zero] at this
    rw [this]
    simp only [bytesOf, List.getElem?_map] at hx
    simp only [byteCells, List.getElem?_map]
    cases hy : b.data.toList[p]? with
    | none => rw [hy] at hx; cases hx
    | some y => rw [hy] at hx; simp at hx; simp [← hx]
theorem src_slice {k : K} (hk : k.size ≠ 0) {tx e' : TypeId} (ht : P.underlying tx = some (.slice e')) {m : Mk} {ys : List (T k)} {q : Option (Nat × Nat)} {c : Nat} {lf : Nat → L k} (h : satV w F (.sl k) m ys ((q, c), lf)) (hm : m ≠ .d) :
    Src P k.size tx (valOf (.sl k) ys ((q, c), lf)) ys.length (elCells k ys.length ys lf) w := by
  obtain ⟨⟨h1, h2, h3⟩, h4⟩ := h hm
  cases q with
  | none =>
    have hc : c = 0 := h2 rfl
    have : ys = [] := List.eq_nil_of_length_eq_zero (by simp only at h1; omega)
    subst this
    exact Src.ofNil w ht c
  | some q =>
    obtain ⟨b, off⟩ := q
    refine Src.ofSlice w ht ⟨b, off, none⟩ ys.length c _ elCells_length (cells_of hk fun hne => ((h3 b off rfl).2 hne).2) fun u hu => ?_
    obtain ⟨p, hp⟩ := List.mem_iff_getElem?.1 hu
    obtain ⟨x, _, hx⟩ := elCells_at hk hp
    exact one_cell u (vals_one k _ _ u (List.mem_of_getElem? hx))
theorem src_holds {k : K} (hk : k.size ≠ 0) {m : Mk} {ys : List (T k)} {b off c : Nat} {lf : Nat → L k} (h : satV w F (.sl k) m ys ((some (b, off), c), lf)) (hm : m ≠ .d) (hne : ys ≠ []) :
    ∃ cs e fr, w.heap[b]? = some (.cells cs e fr) ∧ off + ys.length * k.size ≤ cs.size := by
  obtain ⟨⟨h1, h2, h3⟩, h4⟩ := h hm
  obtain ⟨cs, e, fr, c1, c2, c3⟩ := ((h3 b off rfl).2 hne).2
  refine ⟨cs, e, fr, c1, ?_⟩
  have hl : 0 < ys.length := List.length_pos_iff.2 hne
  have hx := List.getElem?_eq_getElem (l := ys) (i := ys.length - 1) (by omega)
  have := (c3 _ _ hx).size (by intro e; have := vals_length k (ys[ys.length - 1]'(by omega)) (lf (ys.length - 1)); rw [e] at this; simp at this; omega)
  rw [vals_length] at this
  have : (ys.length - 1 + 1) * k.size = ys.length * k.size := by congr 1; omega
  rw [Nat.add_mul] at this
  simp only at *
  omega
theorem appTy_ok (hE : EnvOk P E) {ts : Array TypeId} {k : K} {str : Bool} (h : appTy E ts = some (k, str)) :
    ∃ t u e, ts = #[t, u] ∧ P.underlying t = some (.slice e) ∧ TyOk P e k ∧ k.size ≠ 0 ∧ (if str then P.underlying u = some .string else ∃ e', P.underlying u = some (.slice e')) := by
  unfold appTy at h
  split at h
  case h_2 => cases h
  rename_i t u hts
  split at h
  case h_2 => cases h
  rename_i k' hk
  obtain ⟨_, e, hu, he⟩ := hE.ty t _ hk
  cases hz : Nat.beq k'.size 0 with
  | true => rw [hz] at h; cases h
  | false =>
  rw [hz] at h
  simp only [cond_false] at h
  have hz : k'.size ≠ 0 := fun h0 => by rw [h0] at hz; cases hz
  have hts : ts = #[t, u] := Array.ext' hts
  split at h
  · rename_i hu'
    injection h with h; injection h with h1 h2
    subst h1; subst h2
    exact ⟨t, u, e, hts, hu, he, hz, (hE.ty u _ hu').2⟩
  · rename_i k2 hu'
    injection h with h; injection h with h1 h2
    subst h1; subst h2
    obtain ⟨_, e2, hu2, _⟩ := hE.ty u _ hu'
    exact ⟨t, u, e, hts, hu, he, hz, e2, hu2⟩
  · cases h
def AppRes (P : Program) (w : World) (t u ty : TypeId) (va v : Value) (good : Value → World → Prop) : Prop :=
  ∃ v' w', (Builtin.append_ #[t, u] ty #[va, v]).run P w = .ok v' w' ∧ good v' w'
theorem append_out {x y : Operand} {t u : TypeId} (ho : o.op = .call { callee := .builtin .append, args := #[x, y], argTypes := #[t, u] })
    (H : AppRes P w t u o.type (a.eval x) (a.eval y) fun v' w' => next (a.put o.dst v') w') :
    o.wp P a w next Q := by
  obtain ⟨v', w', hr, hn⟩ := H
  have hex : (execOp a.eval o).run P w = .ok (.value v') w' := by
    rw [exec_builtin ho rfl]
    simp only [builtin]
    have : (#[x, y] : Array Operand).map a.eval = #[a.eval x, a.eval y] := by simp
    rw [this]
    simp only [Sem.run_bind, hr, Result.andThen_ok]
    rfl
  simp only [Oper.wp, hex, Oper.upon]
  exact hn
theorem append_fin (h : Rel P X N s g F ow a.tmps w) {d : Nat} (hd : d < N) (hdst : o.dst = some d) {t u ty e : TypeId} {k : K} (ht : P.underlying t = some (.slice e)) (he : TyOk P e k) (hk : k.size ≠ 0)
    {m : Mk} {ys : List (T k)} {lf : Nat → L k} {v va : Value} {pa pb : Pc} (hap : apart pa pb = true) (hpa : PcW P g F w pa va) (hnil : pa = .nil0 → ∃ q, va = .slice (adr q) 0 0 ∧ ∀ b o, q = some (b, o) → F b ∧ Unf w b o)
    (hsrc : Src P k.size u v ys.length (elCells k ys.length ys lf) w)
    (hs : ∀ i y, ys[i]? = some y → Ev.sat w F k m.inner y (lf i)) (hnd : (fpL (fp k m.inner) ys lf).Nodup) (hno : ∀ b ∈ fpL (fp k m.inner) ys lf, ow b = none ∧ ¬ F b ∧ b < w.heap.size ∧ X.free b)
    (hr : (dstOf s pa fun c s => (match c with
      | none => req (decide (ys.length ≤ 17179869184)) (kk (s.newRoot d ⟨.sl k, .o m.inner, ys⟩ false (.al d [])))
      | some c => if h : c.k = .sl k then (if c.m = .o m.inner then req (decide ((castT h c.x : List (T k)).length + ys.length ≤ 17179869184)) (kk (s.newRoot d ⟨.sl k, c.m, (castT h c.x : List (T k)) ++ ys⟩ false (.al d []))) else none) else none)) = some r)
    (hn : ∀ a' w', MOk P X N a o.dst kk r a' w' → next a' w') :
    AppRes P w t u ty va v fun v' w' => next (a.put o.dst v') w' := by
  have fin : ∀ (xs : List (T k)) (l : L (.sl k)) (s2 : St) (g2 : Gs) (ow2 : Nat → Option Nat), Rel P X N s2 g2 F ow2 a.tmps w → (∀ b t, ow2 b = some t → ow b = some t) → va = valOf (.sl k) xs l →
      Taken X F ow2 w (.sl k) (.o m.inner) xs l → (∀ b ∈ fp (.sl k) (.o m.inner) xs l, lent ow pa b) → xs.length + ys.length ≤ 17179869184 → kk (s2.newRoot d ⟨.sl k, .o m.inner, xs ++ ys⟩ false (.al d [])) = some r →
      AppRes P w t u ty va v fun v' w' => next (a.put o.dst v') w' := by
    intro xs l s2 g2 ow2 h2 hle hva htk hlent hmax hr
    have hdj : ∀ b ∈ fpL (fp k m.inner) ys lf, b ∉ fp (.sl k) (.o m.inner) xs l := fun b hb hb' => by
      obtain ⟨t', _, e'⟩ := hlent b hb'
      rw [(hno b hb).1] at e'; cases e'
    have hno2 : ∀ b ∈ fpL (fp k m.inner) ys lf, ow2 b = none ∧ ¬ F b ∧ b < w.heap.size ∧ X.free b := fun b hb => by
      obtain ⟨n1, n2⟩ := hno b hb
      refine ⟨?_, n2⟩
      cases e' : ow2 b with
      | none => rfl
      | some t' => rw [hle b t' e'] at n1; cases n1
    obtain ⟨w', F', l', c1, c2, c3⟩ := append_core (ty := ty) h2 ht he hk htk hsrc hmax hs hnd hno2 hdj
    rw [hva]
    obtain ⟨g3, ow3, c4⟩ := c2.newRoot hd c3
    exact ⟨_, w', c1, hn _ _ ⟨put_keeps a _ _, _, g3, F', ow3, hr, by rw [put_tmps a hdst]; exact c4⟩⟩
  rcases dstOf_ok h hpa hr with ⟨hp, hr⟩ | ⟨k', m', x, l, s', g', ow', p1, p2, p3, p4, p5, p6⟩
  · obtain ⟨q, hv, hq⟩ := hnil hp
    simp only at hr
    obtain ⟨hmax, hr⟩ := req_some hr
    exact fin [] ((q, 0), fun _ => zeroL k) s g ow h (fun _ _ h => h) hv (nilZ_taken h hq) (fun b hb => by rw [nilZ_fp] at hb; cases hb) (by simpa using hmax) (by rw [List.nil_append]; exact hr)
  · simp only at p1
    split at p1
    case isFalse => cases p1
    rename_i hk'
    split at p1
    case isFalse => cases p1
    rename_i hm'
    subst hk'
    subst hm'
    obtain ⟨hmax, p1⟩ := req_some p1
    exact fin x l s' g' ow' p2 p3 p4 p5 p6 (of_decide_eq_true hmax) p1
theorem m_append (h : Rel P X N s g F ow a.tmps w) (hE : EnvOk P E) {c : Call} {d : Nat} (hd : d < N) (ho : o.op = .call c) (hcal : c.callee = .builtin .append) (hdst : o.dst = some d)
    (hr : (match appTy E c.argTypes, opds E s c.args with
        | some (k, str), [a, b] => appendTo k str s d a b kk
        | _, _ => none) = some r) (hn : ∀ a' w', MOk P X N a o.dst kk r a' w' → next a' w') : o.wp P a w next Q := by
  split at hr
  case h_2 => cases hr
  rename_i k str pa pb hty hop
  obtain ⟨t, u, e, hts, ht, he, hk, hu⟩ := appTy_ok hE hty
  obtain ⟨callee, args, argTypes⟩ := c
  simp only at hcal hts hop hty
  subst hcal; subst hts
  obtain ⟨x, y, hargs⟩ : ∃ x y, args = #[x, y] := by
    have hl : args.toList.length = 2 := by have := congrArg List.length hop; simpa [opds] using this
    match hq : args.toList, hl with
    | [x, y], _ => exact ⟨x, y, Array.ext' hq⟩
  subst hargs
  have hxy : Ev.opdE E s x = pa ∧ Ev.opdE E s y = pb := by
    simp only [opds, List.map_cons, List.map_nil, List.cons.injEq, and_true] at hop
    exact hop
  obtain ⟨hpx, hpy⟩ := hxy
  have ha := h.opdE hE x
  have hb := h.opdE hE y
  rw [hpx] at ha
  rw [hpy] at hb
  refine append_out ho ?_
  unfold appendTo at hr
  cases hap : apart pa pb with
  | false => rw [hap] at hr; cases hr
  | true =>
  rw [hap] at hr
  simp only [cond_true] at hr
  obtain ⟨i, hi, hsz, _⟩ := he.i.info
  have hnil : pa = .nil0 → ∃ q, a.eval x = .slice (adr q) 0 0 ∧ ∀ b o, q = some (b, o) → F b ∧ Unf w b o := fun e => by subst e; exact ha
  split at hr
  · -- nothing is appended
    obtain ⟨q2, hv2, hq2⟩ := hb
    cases str with
    | true => cases hr
    | false =>
    simp only [cond_false] at hr
    simp only [Bool.false_eq_true, if_false] at hu
    obtain ⟨e', hu⟩ := hu
    have hs0 : Src P i.size u (a.eval y) 0 [] w := by
      have := src_slice (w := w) (F := F) (m := .s) hk hu (nilZ_sat hq2).V (by intro h; cases h)
      rw [hv2, hsz]
      exact this
    split at hr
    · obtain ⟨q1, hv1, hq1⟩ := ha
      have hrun := run_append_none (w := w) (ty := o.type) ht hi hs0 (adr q1) 0 0 (Nat.le_refl _)
      rw [← hv1] at hrun
      exact ⟨_, w, hrun, hn _ _ ⟨put_keeps a _ _, _, g, F, ow, hr, by rw [put_tmps a hdst]; exact h.put hd ⟨q1, hv1, hq1⟩⟩⟩
    · rename_i hne
      rcases dstOf_ok h ha.weak hr with ⟨hp, hr⟩ | ⟨k', m', z, l, s', g', ow', p1, p2, p3, p4, p5, p6⟩
      · cases hr
      · simp only at p1
        split at p1
        case isFalse => cases p1
        rename_i hk'
        subst hk'
        cases hm : m'.owns with
        | false => rw [hm] at p1; cases p1
        | true =>
        rw [hm] at p1
        have hsat := p5.sat (by rintro rfl; cases hm)
        have hrun := run_append_none (w := w) (ty := o.type) ht hi hs0 (adr l.1.1) z.length l.1.2 hsat.1.1
        have hv : a.eval x = .slice (adr l.1.1) z.length l.1.2 := p4
        rw [← hv] at hrun
        obtain ⟨g3, ow3, c4⟩ := p2.newRoot hd p5
        exact ⟨_, w, hrun, hn _ _ ⟨put_keeps a _ _, _, g3, F, ow3, p1, by rw [put_tmps a hdst, p4]; exact c4⟩⟩
  · rename_i hne
    rcases srcOf_ok h hb hr with ⟨b, rfl, rfl, hv, hr⟩ | ⟨rfl, k', m, ys, l, s', g', ow', q1, q2, q3, q4, q5, q6, q7, q8, q9⟩
    · -- a string
      simp only at hr
      split at hr
      case isFalse => cases hr
      rename_i hk'
      obtain ⟨hk', _⟩ := hk'
      subst hk'
      simp only [if_true] at hu
      rw [hv]
      refine append_fin (m := .o .s) (ys := bytesOf b) (lf := fun _ => ()) h hd hdst ht he hk hap ha.weak hnil ?_ (fun _ _ _ => trivial) ?_ ?_ hr hn
      · rw [elCells_bytes]
        have := Src.ofString (P := P) w hu b
        have hl : (bytesOf b).length = b.size := by simp [bytesOf]
        rw [hl]
        exact this
      · have : fpL (fp (.int .u8) (Mk.o .s).inner) (bytesOf b) (fun _ => ()) = [] := by
          rw [List.eq_nil_iff_forall_not_mem]
          intro c hc
          obtain ⟨_, _, _, hc⟩ := mem_fpL.1 hc
          cases hc
        rw [this]; exact List.nodup_nil
      · intro c hc
        obtain ⟨_, _, _, hc⟩ := mem_fpL.1 hc
        cases hc
    · -- a slice
      cases k' <;> dsimp only at q1 <;> first | (cases q1; done) | skip
      rename_i k'
      split at q1
      case isFalse => cases q1
      rename_i hk'
      obtain ⟨hk', hmd⟩ := hk'
      subst hk'
      simp only [Bool.false_eq_true, if_false] at hu
      obtain ⟨e', hu⟩ := hu
      obtain ⟨⟨q, cap⟩, lf⟩ := l
      simp only [inFp] at q7 q8
      refine append_fin (m := m) (ys := ys) (lf := lf) (pb := pb) q2 hd hdst ht he hk hap (ha.weak.up q3) hnil ?_ (q6 hmd).2 q7 q8 q1 hn
      rw [q5]; exact src_slice hk hu q6 hmd
end
end Go.Proofs.YthlnjkcpdkjipaaDoor.Ev

/- Calls: the arguments. -/
namespace Go.Proofs.YthlnjkcpdkjipaaDoor.Ev
section
variable {P : Program} {X : Cx} {N : Nat} {a : Act} {s : St} {g : Gs} {F : Nat → Prop} {ow : Nat → Option Nat} {w : World} {R : Type} {r : R} {tm : Array Value} {E : Env}
  {o : Oper} {next : Act → World → Prop} {Q : Exit → Act → World → Prop} {kk : St → Option R}
theorem fp_solid : ∀ {k : K} {m : Mk} {x : T k} {l : L k}, sat w F k m x l → k.solid = true → ∀ b ∈ fp k m x l, ∃ (cs : Array Value) (e : TypeId) (fr : Nat × Nat), w.heap[b]? = some (.cells cs e fr) ∧ cs.size ≠ 0 ∧ (k.nu8s = true → ∀ (j : Nat) (v : Value), cs[j]? = some v → u8V v = false)
  | .int _, _, _, _, _, _ | .bool, _, _, _, _, _ | .str, _, _, _, _, _ | .unit, _, _, _, _, _ => by intro b hb; cases hb
  | .pair a b, m, x, l, h, hs => by
    intro c hc
    simp only [K.solid, Bool.and_eq_true] at hs
    simp only [fp, List.mem_append] at hc
    rcases hc with hc | hc
    · obtain ⟨cs, e, fr, c1, c2, c3⟩ := fp_solid h.1 hs.1 c hc
      exact ⟨cs, e, fr, c1, c2, fun hn => c3 (Bool.and_eq_true _ _ ▸ hn).1⟩
    · obtain ⟨cs, e, fr, c1, c2, c3⟩ := fp_solid h.2 hs.2 c hc
      exact ⟨cs, e, fr, c1, c2, fun hn => c3 (Bool.and_eq_true _ _ ▸ hn).2⟩
  | .sl k, m, xs, l, h, hs => by
    intro c hc
    simp only [K.solid, Bool.and_eq_true, Bool.not_eq_true'] at hs
    have hk : k.size ≠ 0 := fun h0 => by rw [h0] at hs; cases hs.1
    cases ho : m.owns with
    | false => simp [fp, ho] at hc
    | true =>
      have hm : m ≠ .d := by rintro rfl; cases ho
      obtain ⟨⟨h1, h2, h3, _⟩, h4⟩ := h hm
      simp only [fp, ho, if_true, List.mem_append] at hc
      rcases hc with hc | hc
      · obtain ⟨h0, o, hq⟩ := mem_own1.1 hc
        obtain ⟨cs, e, fr, c1, _, c4, c3⟩ := (h3 c o hq).1 ho h0
        refine ⟨cs, e, fr, c1, ?_, fun hn => c4.2 (Bool.and_eq_true _ _ ▸ hn).1⟩
        have := Nat.mul_pos (Nat.pos_of_ne_zero h0) (Nat.pos_of_ne_zero hk)
        omega
      · obtain ⟨i, x, hx, hb⟩ := mem_fpL.1 hc
        obtain ⟨cs, e, fr, c1, c2, c3⟩ := fp_solid (h4 i x hx) hs.2 c hb
        exact ⟨cs, e, fr, c1, c2, fun hn => c3 (Bool.and_eq_true _ _ ▸ hn).2⟩
theorem fp_solidV {k : K} {m : Mk} {x : T k} {l : L k} (h : satV w F k m x l) (hs : k.solid = true) : ∀ b ∈ fp k m x l, ∃ (cs : Array Value) (e : TypeId) (fr : Nat × Nat), w.heap[b]? = some (.cells cs e fr) ∧ cs.size ≠ 0 ∧ (k.nu8s = true → ∀ (j : Nat) (v : Value), cs[j]? = some v → u8V v = false) := by
  cases k with
  | sl k =>
    intro c hc
    simp only [K.solid, Bool.and_eq_true, Bool.not_eq_true'] at hs
    have hk : k.size ≠ 0 := fun h0 => by rw [h0] at hs; cases hs.1
    cases ho : m.owns with
    | false => simp [fp, ho] at hc
    | true =>
      have hm : m ≠ .d := by rintro rfl; cases ho
      obtain ⟨⟨h1, h2, h3⟩, h4⟩ := h hm
      simp only [fp, ho, if_true, List.mem_append] at hc
      rcases hc with hc | hc
      · obtain ⟨h0, o, hq⟩ := mem_own1.1 hc
        obtain ⟨cs, e, fr, c1, _, c4, c3⟩ := (h3 c o hq).1 ho h0
        refine ⟨cs, e, fr, c1, ?_, fun hn => c4.2 (Bool.and_eq_true _ _ ▸ hn).1⟩
        have := Nat.mul_pos (Nat.pos_of_ne_zero h0) (Nat.pos_of_ne_zero hk)
        omega
      · obtain ⟨i, x, hx, hb⟩ := mem_fpL.1 hc
        obtain ⟨cs, e, fr, c1, c2, c3⟩ := fp_solid (h4 i x hx) hs.2 c hb
        exact ⟨cs, e, fr, c1, c2, fun hn => c3 (Bool.and_eq_true _ _ ▸ hn).2⟩
  | int _ => intro b hb; cases hb
  | bool => intro b hb; cases hb
  | str => intro b hb; cases hb
  | unit => intro b hb; cases hb
  | pair a b => exact fp_solid h hs
theorem readK_ok2 (h : Rel P X N s g F ow tm w) {c : Pc} {v : Value} {k : K} {kk : T k → Option R} (hc : PcW P g F w c v) (hr : s.readK c k kk = some r) :
    ∃ (x : T k) (l : L k) (Ln : Nat → Prop), kk x = some r ∧ sat w (fun b => F b ∨ Ln b) k .s x l ∧ v = valOf k x l ∧ (∀ b, Ln b → lent ow c b) ∧ (k.solid = true → ∀ b, Ln b → ∃ (cs : Array Value) (e : TypeId) (fr : Nat × Nat), w.heap[b]? = some (.cells cs e fr) ∧ cs.size ≠ 0 ∧ (k.nu8s = true → ∀ (j : Nat) (v : Value), cs[j]? = some v → u8V v = false)) := by
  have key : ∀ (c : Pc), PcW P g F w c v → (s.read c fun c => if h : c.k = k then (if c.m.whole then kk (h ▸ c.x) else none) else none) = some r →
      ∃ (x : T k) (l : L k) (Ln : Nat → Prop), kk x = some r ∧ sat w (fun b => F b ∨ Ln b) k .s x l ∧ v = valOf k x l ∧ (∀ b, Ln b → lent ow c b) ∧ (k.solid = true → ∀ b, Ln b → ∃ (cs : Array Value) (e : TypeId) (fr : Nat × Nat), w.heap[b]? = some (.cells cs e fr) ∧ cs.size ≠ 0 ∧ (k.nu8s = true → ∀ (j : Nat) (v : Value), cs[j]? = some v → u8V v = false)) := by
    intro c hc hr
    obtain ⟨k', m, x, l, h1, h2, h3, h4⟩ := read_okW h hc hr
    simp only at h1
    split at h1
    case isFalse => cases h1
    rename_i hk
    subst hk
    split at h1
    case isFalse => cases h1
    rename_i hw
    exact ⟨x, l, fun b => b ∈ fp k' m x l, h1, satV_lend hw h2, h3, h4, fun hs => fp_solidV h2 hs⟩
  cases c with
  | nil0 =>
    obtain ⟨q, rfl, hq⟩ := hc
    cases k <;> simp only [St.readK] at hr <;> first | cases hr | skip
    exact ⟨[], _, fun _ => False, hr, nilZ_sat (q := q) fun b o e => ⟨.inl (hq b o e).1, (hq b o e).2⟩, rfl, fun _ h => h.elim, fun _ _ h => h.elim⟩
  | v => exact key _ hc hr
  | al => exact key _ hc hr
  | vw => exact key _ hc hr
  | ptr => exact key _ hc hr
  | sp => exact key _ hc hr
  | fv => exact key _ hc hr
  | bad => exact key _ hc hr
  | unk => exact key _ hc hr
theorem gat_base : ∀ {p : List Stp} {k : K} {m : Mk} {x : T k} {l : L k} {base : Option (Nat × Nat)} {c : GC}, gat k m x l base p = some c → sat w F k m x l → ((base.map (·.1)).toList ++ fp k m x l).Nodup →
    ((c.b.map (·.1)).toList ++ c.fp).Nodup
  | [], k, m, x, l, base, c, h, hst, hn => by simp [gat] at h; subst h; exact hn
  | s :: p, k, m, x, l, base, c, h, hst, hn => by
    cases k <;> cases s <;> simp only [gat] at h <;> first | (cases h; done) | skip
    · refine gat_base h hst.1 ?_
      simp only [fp] at hn
      rw [← List.append_assoc] at hn
      exact (List.nodup_append.1 hn).1
    · refine gat_base h hst.2 ?_
      simp only [fp, List.nodup_append, List.mem_append] at hn ⊢
      obtain ⟨h1, ⟨h2, h3, h4⟩, h5⟩ := hn
      have hm : ∀ (q : Option (Nat × Nat)) (n : Nat), ((mv q n).map (·.1)) = q.map (·.1) := fun q n => by cases q <;> rfl
      refine ⟨by rw [hm]; exact h1, h3, fun a ha b hb => ?_⟩
      rw [hm] at ha
      exact h5 a ha b (.inr hb)
    · split at h
      · cases h
      rename_i hmd
      split at h
      · rename_i y hy
        obtain ⟨⟨h1, _⟩, h4⟩ := hst hmd
        have hi := (List.getElem?_eq_some_iff.1 hy).1
        refine gat_base h (h4 _ y hy) ?_
        have hm : ∀ (q : Option (Nat × Nat)) (n : Nat), ((mv q n).map (·.1)) = q.map (·.1) := fun q n => by cases q <;> rfl
        rw [hm]
        cases ho : m.owns with
        | false =>
          rw [Mk.inner_s ho, fp_clear rfl, List.append_nil]
          cases l.1.1 <;> simp
        | true =>
          simp only [fp, ho, if_true, List.nodup_append] at hn
          have h2 := (nodup_fpL.1 hn.2.1.2.1).1 _ y hy
          rw [List.nodup_append]
          refine ⟨by cases l.1.1 <;> simp, h2, ?_⟩
          rintro b hb b2 hb2 rfl
          refine hn.2.1.2.2 b (mem_own1.2 ⟨by omega, ?_⟩) b (mem_fpL.2 ⟨_, y, hy, hb2⟩) rfl
          cases hq : l.1.1 with
          | none => rw [hq] at hb; cases hb
          | some q => rw [hq] at hb; simp at hb; exact ⟨q.2, by rw [hb]⟩
      · cases h
end
end Go.Proofs.YthlnjkcpdkjipaaDoor.Ev

/- Calls: all arguments. -/
namespace Go.Proofs.YthlnjkcpdkjipaaDoor.Ev
section
variable {P : Program} {X : Cx} {N : Nat} {a : Act} {s : St} {g : Gs} {F : Nat → Prop} {ow : Nat → Option Nat} {w : World} {R : Type} {r : R} {tm : Array Value} {E : Env}
  {o : Oper} {next : Act → World → Prop} {Q : Exit → Act → World → Prop} {kk : St → Option R}
def PlOk (g : Gs) (ts : List Nat) : (ins : List Pm) → Ps ins → PL ins → Plc → Prop
  | [], _, _, pl => pl = []
  | .val _ :: ps, x, l, pl => PlOk g ts ps x.2 l.2 pl
  | .mov _ _ :: ps, x, l, pl => PlOk g ts ps x.2 l.2 pl
  | .fn _ _ :: ps, x, l, pl => PlOk g ts ps x.2 l pl
  | .rp _ :: ps, x, l, pl => PlOk g ts ps x.2 l.2 pl
  | .mptr k m :: ps, x, l, pl => ∃ t p pl' q, pl = (t, p, false) :: pl' ∧ g t = some q ∧ q.at p = some ⟨k, m, x.1, l.1.1, some l.1.2⟩ ∧ t ∈ ts ∧ PlOk g ts ps x.2 l.2 pl'
  | .chg k m :: ps, x, l, pl => ∃ t p pl' q b, pl = (t, p, true) :: pl' ∧ g t = some q ∧ q.at p = some ⟨k, m, x.1, l.1, b⟩ ∧ t ∈ ts ∧ PlOk g ts ps x.2 l.2 pl'
theorem PlOk.mono {ts ts' : List Nat} (ht : ∀ t ∈ ts, t ∈ ts') : ∀ {ins : List Pm} {x : Ps ins} {l : PL ins} {pl : Plc}, PlOk g ts ins x l pl → PlOk g ts' ins x l pl
  | [], _, _, _, h => h
  | .val _ :: ps, x, l, pl, h => PlOk.mono (ins := ps) (x := x.2) (l := l.2) ht h
  | .mov _ _ :: ps, x, l, pl, h => PlOk.mono (ins := ps) (x := x.2) (l := l.2) ht h
  | .fn _ _ :: ps, x, l, pl, h => PlOk.mono (ins := ps) (x := x.2) (l := l) ht h
  | .rp _ :: ps, x, l, pl, h => PlOk.mono (ins := ps) (x := x.2) (l := l.2) ht h
  | .mptr k m :: ps, x, l, pl, ⟨t, p, pl', q, h1, h2, h3, h4, h5⟩ => ⟨t, p, pl', q, h1, h2, h3, ht t h4, PlOk.mono (ins := ps) ht h5⟩
  | .chg k m :: ps, x, l, pl, ⟨t, p, pl', q, b, h1, h2, h3, h4, h5⟩ => ⟨t, p, pl', q, b, h1, h2, h3, ht t h4, PlOk.mono (ins := ps) ht h5⟩
def movFp : (ins : List Pm) → Ps ins → PL ins → List Nat
  | [], _, _ => []
  | .val _ :: ps, x, l => movFp ps x.2 l.2
  | .mov k m :: ps, x, l => fp k m x.1 l.1 ++ movFp ps x.2 l.2
  | .mptr _ _ :: ps, x, l => movFp ps x.2 l.2
  | .chg _ _ :: ps, x, l => movFp ps x.2 l.2
  | .fn _ _ :: ps, x, l => movFp ps x.2 l
  | .rp _ :: ps, x, l => movFp ps x.2 l.2
theorem ArgsOk.mono {F' : Nat → Prop} (hF : ∀ b, F b → F' b) : ∀ {ins : List Pm} {x : Ps ins} {l : PL ins} {vs : List Value}, ArgsOk P w F ins x l vs → ArgsOk P w F' ins x l vs
  | [], _, _, _, h => h
  | .val k :: ps, _, _, _, ⟨v, vs, h1, h2, h3, h4⟩ => ⟨v, vs, h1, sat_frame h2 (fun _ _ => rfl) hF, h3, ArgsOk.mono hF h4⟩
  | .mov k m :: ps, _, _, _, ⟨v, vs, h1, h2, h3, h4⟩ => ⟨v, vs, h1, sat_frame h2 (fun _ _ => rfl) hF, h3, ArgsOk.mono hF h4⟩
  | .mptr k m :: ps, _, _, _, ⟨v, vs, h1, h2, h3, h4, h5⟩ => ⟨v, vs, h1, sat_frame h2 (fun _ _ => rfl) hF, h3, h4, ArgsOk.mono hF h5⟩
  | .chg k m :: ps, _, _, _, ⟨v, vs, h1, h2, h3, h4⟩ => ⟨v, vs, h1, sat_frame h2 (fun _ _ => rfl) hF, h3, ArgsOk.mono hF h4⟩
  | .fn i o :: ps, _, _, _, ⟨v, vs, h1, h2, h3⟩ => ⟨v, vs, h1, FnOk.frame h2 (fun _ _ => rfl) hF, ArgsOk.mono hF h3⟩
  | .rp k :: ps, _, _, _, ⟨v, vs, h1, ⟨h2, h3, h4, h5⟩, h6⟩ => ⟨v, vs, h1, ⟨sat_frame h2 (fun _ _ => rfl) hF, hF _ h3, h4, h5⟩, ArgsOk.mono hF h6⟩
theorem PcsW.length {cs : List Pc} {vs : List Value} (h : PcsW P g F w cs vs) : cs.length = vs.length := by
  induction h with
  | nil => rfl
  | cons _ _ ih => simp [ih]
theorem argsOf_ok : ∀ {ins : List Pm} {cs : List Pc} {vs : List Value} {s : St} {g : Gs} {ow : Nat → Option Nat} {kk : Ps ins → St → Plc → Option R},
    Rel P X N s g F ow tm w → PcsW P g F w cs vs → nodup (tagsOf ins cs).2 = true → argsOf ins s cs kk = some r →
    ∃ (xs : Ps ins) (pl : Plc) (l : PL ins) (s' : St) (g' : Gs) (ow' : Nat → Option Nat) (Ln : Nat → Prop), kk xs s' pl = some r ∧ Rel P X N s' g' F ow' tm w ∧ (∀ b t, ow' b = some t → ow b = some t) ∧
      (∀ u, u ∉ (tagsOf ins cs).2 → g' u = g u ∧ ∀ b, ow b = some u → ow' b = some u) ∧
      ArgsOk P w (fun b => F b ∨ Ln b) ins xs l vs ∧ PlOk g' (tagsOf ins cs).2 ins xs l pl ∧
      (∀ b, Ln b → ∃ t, t ∈ (tagsOf ins cs).1 ∧ ow b = some t) ∧ (Pm.solid ins = true → ∀ b, Ln b → ∃ (cs : Array Value) (e : TypeId) (fr : Nat × Nat), w.heap[b]? = some (.cells cs e fr) ∧ cs.size ≠ 0 ∧ (Pm.nu8s ins = true → ∀ (j : Nat) (v : Value), cs[j]? = some v → u8V v = false)) ∧
      (argFp ins xs l).Nodup ∧ (∀ b ∈ argFp ins xs l, ∃ t, t ∈ (tagsOf ins cs).2 ∧ ow b = some t) ∧ (∀ b ∈ movFp ins xs l, ow' b = none ∧ X.free b)
  | [], _, _, s, g, ow, kk, h, hc, hd, hr => by
    cases hc with
    | cons => cases hr
    | nil => exact ⟨(), [], (), s, g, ow, fun _ => False, hr, h, fun _ _ h => h, fun _ _ => ⟨rfl, fun _ h => h⟩, rfl, rfl, fun _ h => h.elim, fun _ _ h => h.elim, List.nodup_nil, (fun b hb => by cases hb), fun b hb => by cases hb⟩
  | .val k :: ps, _, _, s, g, ow, kk, h, hc, hd, hr => by
    cases hc with
    | nil => cases hr
    | cons hc hcs =>
      simp only [argsOf] at hr
      obtain ⟨x, l, Ln, q1, q2, q3, q4, q5⟩ := readK_ok2 h hc hr
      simp only [tagsOf] at hd
      obtain ⟨xs, pl, ls, s', g', ow', Lt, p1, p2, p3, p4, p5, p6, p7, p8, p9, p10, p11⟩ := argsOf_ok h hcs hd q1
      refine ⟨(x, xs), pl, (l, ls), s', g', ow', fun b => Ln b ∨ Lt b, p1, p2, p3, p4, ⟨_, _, rfl, sat_frame q2 (fun _ _ => rfl) (fun b hb => hb.imp id .inl), q3, p5.mono fun b hb => hb.imp id .inr⟩, p6, ?_, ?_, p9, p10, p11⟩
      · rintro b (hb | hb)
        · obtain ⟨t, e1, e2⟩ := q4 b hb
          exact ⟨t, by simp [tagsOf, e1], e2⟩
        · obtain ⟨t, e1, e2⟩ := p7 b hb
          exact ⟨t, by simp only [tagsOf, List.mem_append]; exact .inr e1, e2⟩
      · intro hs
        simp only [Pm.solid, Bool.and_eq_true] at hs
        rintro b (hb | hb)
        · obtain ⟨cs, e, fr, c1, c2, c3⟩ := q5 hs.1 b hb
          exact ⟨cs, e, fr, c1, c2, fun hn => c3 (Bool.and_eq_true _ _ ▸ hn).1⟩
        · obtain ⟨cs, e, fr, c1, c2, c3⟩ := p8 hs.2 b hb
          exact ⟨cs, e, fr, c1, c2, fun hn => c3 (Bool.and_eq_true _ _ ▸ hn).2⟩
  | .fn i o :: ps, _, _, s, g, ow, kk, h, hc, hd, hr => by
    cases hc with
    | nil => cases hr
    | cons hc hcs =>
      simp only [argsOf] at hr
      split at hr
      · rename_i i' o' f
        split at hr
        case isFalse => cases hr
        rename_i hio
        obtain ⟨rfl, rfl⟩ := hio
        simp only [tagsOf] at hd
        obtain ⟨xs, pl, ls, s', g', ow', Lt, p1, p2, p3, p4, p5, p6, p7, p8, p9, p10, p11⟩ := argsOf_ok h hcs hd hr
        exact ⟨(f, xs), pl, ls, s', g', ow', Lt, p1, p2, p3, p4, ⟨_, _, rfl, FnOk.frame hc (fun _ _ => rfl) (fun b hb => .inl hb), p5⟩, p6, p7, p8, p9, p10, p11⟩
      · cases hr
  | .rp k :: ps, _, _, s, g, ow, kk, h, hc, hd, hr => by
    cases hc with
    | nil => cases hr
    | cons hc hcs =>
      simp only [argsOf] at hr
      split at hr
      · rename_i k' x
        split at hr
        case isFalse => cases hr
        rename_i hk
        subst hk
        simp only [tagsOf] at hd
        obtain ⟨xs, pl, ls, s', g', ow', Lt, p1, p2, p3, p4, p5, p6, p7, p8, p9, p10, p11⟩ := argsOf_ok h hcs hd hr
        obtain ⟨lk, b, o, e1, e2, e3, e4⟩ := hc
        exact ⟨(x, xs), pl, ((lk, (b, o)), ls), s', g', ow', Lt, p1, p2, p3, p4, ⟨_, _, rfl, ⟨sat_s_frame e1 (fun _ _ => rfl) (fun b hb => .inl hb), .inl e2, e3, e4⟩, p5⟩, p6, p7, p8, p9, p10, p11⟩
      · cases hr
  | .mov k m :: ps, _, _, s, g, ow, kk, h, hc, hd, hr => by
    cases hc with
    | nil => cases hr
    | @cons c v cs vs hc hcs =>
      simp only [argsOf] at hr
      obtain ⟨k', m', x, l, s1, g1, ow1, q1, q2, q3, q4, q5, q6, q7, q8, q9⟩ := takeN_full h hc hr
      simp only at q1
      split at q1
      case isFalse => cases q1
      rename_i hk
      split at q1
      case isFalse => cases q1
      rename_i hm
      subst hk; subst hm
      simp only [tagsOf] at hd
      have hd' : nodup (tagsOf ps cs).2 = true ∧ ∀ t, tagOf c = some t → t ∉ (tagsOf ps cs).2 := by
        cases ht : tagOf c with
        | none => rw [ht] at hd; exact ⟨hd, fun t h => by cases h⟩
        | some t =>
          rw [ht] at hd
          simp only [Option.toList_some, List.singleton_append, nodup, Bool.and_eq_true, Bool.not_eq_true', List.elem_eq_mem, decide_eq_false_iff_not] at hd
          exact ⟨hd.2, fun u hu => by injection hu with hu; subst hu; exact hd.1⟩
      obtain ⟨xs, pl, ls, s', g', ow', Lt, p1, p2, p3, p4, p5, p6, p7, p8, p9, p10, p11⟩ := argsOf_ok q2 (hcs.up q3) hd'.1 q1
      refine ⟨(x, xs), pl, (l, ls), s', g', ow', Lt, p1, p2, fun b t hb => q4 b t (p3 b t hb), fun u hu => ?_, ⟨_, _, rfl, sat_frame q6.sat (fun _ _ => rfl) (fun b hb => .inl hb), q5, p5⟩, p6.mono (fun t ht => by simp only [tagsOf, List.mem_append]; exact .inr ht), fun b hb => ?_, p8, ?_, fun b hb => ?_, fun b hb => ?_⟩
      · simp only [tagsOf, List.mem_append, not_or] at hu
        obtain ⟨e1, e2⟩ := q9 u (fun e => hu.1 (by rw [e]; simp))
        obtain ⟨e3, e4⟩ := p4 u hu.2
        exact ⟨e3.trans e1, fun b hb => e4 b (e2 b hb)⟩
      · obtain ⟨t, e1, e2⟩ := p7 b hb
        exact ⟨t, e1, q4 b t e2⟩
      · simp only [argFp, List.nodup_append]
        refine ⟨q6.nd, p9, ?_⟩
        rintro b hb b2 hb2 rfl
        obtain ⟨t, _, e⟩ := p10 b hb2
        rw [(q6.no b hb).1] at e; cases e
      · simp only [argFp, List.mem_append] at hb
        rcases hb with hb | hb
        · obtain ⟨t, e1, e2⟩ := q8 b hb
          exact ⟨t, by simp [tagsOf, e1], e2⟩
        · obtain ⟨t, e1, e2⟩ := p10 b hb
          exact ⟨t, by simp only [tagsOf, List.mem_append]; exact .inr e1, q4 b t e2⟩
      · simp only [movFp, List.mem_append] at hb
        rcases hb with hb | hb
        · obtain ⟨e1, e2, e3, e4⟩ := q6.no b hb
          refine ⟨?_, e4⟩
          cases e : ow' b with
          | none => rfl
          | some t => rw [p3 b t e] at e1; cases e1
        · exact p11 b hb
  | .mptr k m :: ps, _, _, s, g, ow, kk, h, hc, hd, hr => by
    cases hc with
    | nil => cases hr
    | @cons c v cs vs hc hcs =>
      simp only [argsOf] at hr
      split at hr
      case h_2 => cases hr
      rename_i t p
      split at hr
      case h_2 => cases hr
      rename_i rt hrt
      obtain ⟨q, hg, rfl⟩ := h.rootOf hrt
      obtain ⟨⟨ck, cm, cx, cl, cb⟩, hgat, hr⟩ := at_some hr q.l q.b
      simp only at hr
      split at hr
      case isFalse => cases hr
      rename_i hk
      split at hr
      case isFalse => cases hr
      rename_i hm
      subst hk; subst hm
      obtain ⟨bq, e1, hv⟩ := hc q _ hg (gat_gatx hgat)
      simp only at e1
      subst e1
      simp only [tagsOf, tagOf, Option.toList_some, List.singleton_append, nodup, Bool.and_eq_true, Bool.not_eq_true', List.elem_eq_mem, decide_eq_false_iff_not] at hd
      obtain ⟨xs, pl, ls, s', g', ow', Lt, p1, p2, p3, p4, p5, p6, p7, p8, p9, p10, p11⟩ := argsOf_ok h hcs hd.2 hr
      have hcfp : ∀ b ∈ fp ck cm cx cl, ow b = some t := fun b hb => h.ho t q hg b (by simp only [GR.fp, GR.fpi, List.mem_append]; exact .inr (gat_fp hgat b hb))
      refine ⟨(cx, xs), (t, p, false) :: pl, ((cl, bq), ls), s', g', ow', Lt, p1, p2, p3, fun u hu => ?_, ⟨_, _, rfl, sat_frame (gat_sat hgat (h.sat t q hg)) (fun _ _ => rfl) (fun b hb => .inl hb), gat_mem hgat (h.sat t q hg) (h.mem t q hg), hv, p5⟩,
        ⟨t, p, pl, q, rfl, (p4 t hd.1).1.trans hg, hgat, by simp [tagsOf, tagOf], p6.mono (fun t ht => by simp only [tagsOf, List.mem_append]; exact .inr ht)⟩, p7, p8, ?_, fun b hb => ?_, p11⟩
      · simp only [tagsOf, List.mem_append, not_or] at hu
        exact p4 u hu.2
      · simp only [argFp, List.nodup_append]
        have hg1 := gat_base hgat (h.sat t q hg) (h.nd t q hg)
        refine ⟨(List.nodup_append.1 hg1).2.1, p9, ?_⟩
        rintro b hb b2 hb2 rfl
        obtain ⟨t', e1, e2⟩ := p10 b hb2
        rw [hcfp b hb] at e2
        injection e2 with e2
        subst e2
        exact hd.1 e1
      · simp only [argFp, List.mem_append] at hb
        rcases hb with hb | hb
        · exact ⟨t, by simp [tagsOf, tagOf], hcfp b hb⟩
        · obtain ⟨t', e1, e2⟩ := p10 b hb
          exact ⟨t', by simp only [tagsOf, List.mem_append]; exact .inr e1, e2⟩
  | .chg k m :: ps, _, _, s, g, ow, kk, h, hc, hd, hr => by
    cases hc with
    | nil => cases hr
    | @cons c v cs vs hc hcs =>
      simp only [argsOf] at hr
      split at hr
      case h_2 => cases hr
      rename_i t p
      split at hr
      case h_2 => cases hr
      rename_i rt hrt
      obtain ⟨q, hg, rfl⟩ := h.rootOf hrt
      obtain ⟨⟨ck, cm, cx, cl, cb⟩, hgat, hr⟩ := at_some hr q.l q.b
      simp only at hr
      split at hr
      case isFalse => cases hr
      rename_i hk
      split at hr
      case isFalse => cases hr
      rename_i hm
      subst hk; subst hm
      have hv := hc q _ hg (gat_gatx hgat)
      simp only at hv
      simp only [tagsOf, tagOf, Option.toList_some, List.singleton_append, nodup, Bool.and_eq_true, Bool.not_eq_true', List.elem_eq_mem, decide_eq_false_iff_not] at hd
      obtain ⟨xs, pl, ls, s', g', ow', Lt, p1, p2, p3, p4, p5, p6, p7, p8, p9, p10, p11⟩ := argsOf_ok h hcs hd.2 hr
      have hcfp : ∀ b ∈ fp ck cm cx cl, ow b = some t := fun b hb => h.ho t q hg b (by simp only [GR.fp, GR.fpi, List.mem_append]; exact .inr (gat_fp hgat b hb))
      refine ⟨(cx, xs), (t, p, true) :: pl, (cl, ls), s', g', ow', Lt, p1, p2, p3, fun u hu => ?_, ⟨_, _, rfl, sat_frame (gat_sat hgat (h.sat t q hg)) (fun _ _ => rfl) (fun b hb => .inl hb), hv, p5⟩,
        ⟨t, p, pl, q, cb, rfl, (p4 t hd.1).1.trans hg, hgat, by simp [tagsOf, tagOf], p6.mono (fun t ht => by simp only [tagsOf, List.mem_append]; exact .inr ht)⟩, p7, p8, ?_, fun b hb => ?_, p11⟩
      · simp only [tagsOf, List.mem_append, not_or] at hu
        exact p4 u hu.2
      · simp only [argFp, List.nodup_append]
        have hg1 := gat_base hgat (h.sat t q hg) (h.nd t q hg)
        refine ⟨(List.nodup_append.1 hg1).2.1, p9, ?_⟩
        rintro b hb b2 hb2 rfl
        obtain ⟨t', e1, e2⟩ := p10 b hb2
        rw [hcfp b hb] at e2
        injection e2 with e2
        subst e2
        exact hd.1 e1
      · simp only [argFp, List.mem_append] at hb
        rcases hb with hb | hb
        · exact ⟨t, by simp [tagsOf, tagOf], hcfp b hb⟩
        · obtain ⟨t', e1, e2⟩ := p10 b hb
          exact ⟨t', by simp only [tagsOf, List.mem_append]; exact .inr e1, e2⟩
end
end Go.Proofs.YthlnjkcpdkjipaaDoor.Ev

/- Calls: what came back through a pointer. -/
namespace Go.Proofs.YthlnjkcpdkjipaaDoor.Ev
section
variable {P : Program} {X : Cx} {N : Nat} {a : Act} {s : St} {g : Gs} {F : Nat → Prop} {ow : Nat → Option Nat} {w : World} {R : Type} {r : R} {tm : Array Value} {E : Env}
  {o : Oper} {next : Act → World → Prop} {Q : Exit → Act → World → Prop} {kk : St → Option R}
theorem full_l (a b : K) : (Mk.full (.pair a b)).l = Mk.full a := by simp [Mk.full, Mk.mkp_l]
theorem full_r (a b : K) : (Mk.full (.pair a b)).r = Mk.full b := by simp [Mk.full, Mk.mkp_r]
theorem sat_full {F' : Nat → Prop} (hF : ∀ b o, F b → Unf w b o → F' b) : ∀ {k : K} {x : T k} {l : L k}, sat w F k (Mk.full k) x l → sat w F' k (Mk.full k) x l
  | .int _, _, _, _ | .bool, _, _, _ | .str, _, _, _ | .unit, _, _, _ => trivial
  | .pair a b, x, l, h => by
    have h1 := h.1
    have h2 := h.2
    rw [full_l] at h1
    rw [full_r] at h2
    exact ⟨by rw [full_l]; exact sat_full hF h1, by rw [full_r]; exact sat_full hF h2⟩
  | .sl k, xs, l, h => by
    intro hm
    obtain ⟨⟨h1, h2, h3, h5⟩, h4⟩ := h hm
    refine ⟨⟨h1, h2, fun b o hb => ⟨(h3 b o hb).1, fun hx => ⟨(fun ho => by cases ho), ((h3 b o hb).2 hx).2⟩⟩, fun ho hc b o hb => ⟨hF b o (h5 ho hc b o hb).1 (h5 ho hc b o hb).2, (h5 ho hc b o hb).2⟩⟩, fun i x hx => sat_full hF (h4 i x hx)⟩
theorem resM_full : ∀ {rs : List (K × Mk)}, fullRes rs = true → resM rs = Mk.full (resK rs)
  | [], _ => rfl
  | q :: rs, h => by
    simp only [fullRes, Bool.and_eq_true, decide_eq_true_eq] at h
    simp only [resM, resK, Mk.full, h.1, resM_full h.2]
def mpFp : (ins : List Pm) → Ps ins → PL ins → List Nat
  | [], _, _ => []
  | .val _ :: ps, x, l => mpFp ps x.2 l.2
  | .mov _ _ :: ps, x, l => mpFp ps x.2 l.2
  | .mptr k m :: ps, x, l => fp k m x.1 l.1.1 ++ mpFp ps x.2 l.2
  | .chg k m :: ps, x, l => fp k m x.1 l.1 ++ mpFp ps x.2 l.2
  | .fn _ _ :: ps, x, l => mpFp ps x.2 l
  | .rp _ :: ps, x, l => mpFp ps x.2 l.2
theorem argFp_or : ∀ {ins : List Pm} {x : Ps ins} {l : PL ins} {b : Nat}, b ∈ argFp ins x l → b ∈ movFp ins x l ∨ b ∈ mpFp ins x l
  | [], _, _, _, h => by cases h
  | .val _ :: ps, x, l, b, h => argFp_or (ins := ps) (x := x.2) (l := l.2) h
  | .fn _ _ :: ps, x, l, b, h => argFp_or (ins := ps) (x := x.2) (l := l) h
  | .rp _ :: ps, x, l, b, h => argFp_or (ins := ps) (x := x.2) (l := l.2) h
  | .mov k m :: ps, x, l, b, h => by
    simp only [argFp, movFp, mpFp, List.mem_append] at h ⊢
    rcases h with h | h
    · exact .inl (.inl h)
    · exact (argFp_or (ins := ps) h).imp .inr id
  | .mptr k m :: ps, x, l, b, h => by
    simp only [argFp, movFp, mpFp, List.mem_append] at h ⊢
    rcases h with h | h
    · exact .inr (.inl h)
    · exact (argFp_or (ins := ps) h).imp id .inr
  | .chg k m :: ps, x, l, b, h => by
    simp only [argFp, movFp, mpFp, List.mem_append] at h ⊢
    rcases h with h | h
    · exact .inr (.inl h)
    · exact (argFp_or (ins := ps) h).imp id .inr
theorem no_outs : ∀ {ins : List Pm} (x : Ps ins) (l : PL ins), Pm.outs ins = [] → argBs ins l = [] ∧ mpFp ins x l = []
  | [], _, _, _ => ⟨rfl, rfl⟩
  | .val _ :: ps, x, l, h => no_outs (ins := ps) x.2 l.2 h
  | .mov _ _ :: ps, x, l, h => no_outs (ins := ps) x.2 l.2 h
  | .fn _ _ :: ps, x, l, h => no_outs (ins := ps) x.2 l h
  | .rp _ :: ps, x, l, h => no_outs (ins := ps) x.2 l.2 h
  | .mptr _ _ :: ps, x, l, h => by cases h
  | .chg _ _ :: ps, x, l, h => by cases h
theorem back_nil {os : List (K × Mk)} (ho : os = []) {ro : Rs os} {pl : Plc} (hr : backAt os ro pl s kk = some r) : kk s = some r := by
  subst ho
  cases pl with
  | nil => exact hr
  | cons => cases hr
theorem fp_nil {os : List (K × Mk)} (ho : os = []) {ro : Rs os} {lo : L (resK os)} : fp (resK os) (resM os) ro lo = [] := by
  subst ho; rfl
theorem back_nil_eq {os : List (K × Mk)} (ho : os = []) {ro : Rs os} : backAt os ro [] s kk = kk s := by
  subst ho; rfl
theorem PlOk.nil {ts : List Nat} : ∀ {ins : List Pm} {x : Ps ins} {l : PL ins} {pl : Plc}, Pm.outs ins = [] → PlOk g ts ins x l pl → pl = []
  | [], _, _, _, _, h => h
  | .val _ :: ps, x, l, _, ho, h => PlOk.nil (ins := ps) (x := x.2) (l := l.2) ho h
  | .mov _ _ :: ps, x, l, _, ho, h => PlOk.nil (ins := ps) (x := x.2) (l := l.2) ho h
  | .fn _ _ :: ps, x, l, _, ho, h => PlOk.nil (ins := ps) (x := x.2) (l := l) ho h
  | .rp _ :: ps, x, l, _, ho, h => PlOk.nil (ins := ps) (x := x.2) (l := l.2) ho h
  | .mptr _ _ :: ps, x, l, _, ho, _ => by cases ho
  | .chg _ _ :: ps, x, l, _, ho, _ => by cases ho
inductive BackCase (g : Gs) (ts : List Nat) (s : St) (kk : St → Option R) (r : R) (ins : List Pm) (x : Ps ins) (l : PL ins) (ro : Rs (Pm.outs ins)) : Prop where
  | none : argBs ins l = [] → mpFp ins x l = [] → (∀ lo, fp (resK (Pm.outs ins)) (resM (Pm.outs ins)) ro lo = []) → kk s = some r → BackCase g ts s kk r ins x l ro
  | one (t : Nat) (p : List Stp) (q : GR) (k : K) (m : Mk) (xo x' : T k) (lx : L k) (b o : Nat) : g t = some q → q.at p = some ⟨k, m, xo, lx, some (b, o)⟩ → t ∈ ts → argBs ins l = [(b, o, k.size)] → mpFp ins x l = fp k m xo lx →
      Ct.set q.k q.m q.x p ⟨k, m, x'⟩ (fun m' y => kk ((s.kill t p).setR t (some { q.rt with m := m', x := y }))) = some r →
      (∀ (w' : World) (F' : Nat → Prop) lo, OutsOk w' F' ins x l ro lo → ∃ l', sat w' F' k m x' l' ∧ atBase w' (some (b, o)) (vals k x' l') ∧ fp (resK (Pm.outs ins)) (resM (Pm.outs ins)) ro lo = fp k m x' l') →
      ((fullRes (Pm.outs ins) = true → m = Mk.full k) ∧ (allSh (Pm.outs ins) = true → shU8 k m = true)) → BackCase g ts s kk r ins x l ro
  | chg (t : Nat) (p : List Stp) (q : GR) (k : K) (m : Mk) (xo x' : T k) (lx : L k) (b : Option (Nat × Nat)) : g t = some q → q.at p = some ⟨k, m, xo, lx, b⟩ → t ∈ ts → argBs ins l = [] → mpFp ins x l = fp k m xo lx →
      Ct.set q.k q.m q.x p ⟨k, m, x'⟩ (fun m' y => kk ((s.soft t p).setR t (some { q.rt with m := m', x := y }))) = some r →
      (∀ (w' : World) (F' : Nat → Prop) lo, OutsOk w' F' ins x l ro lo → ∃ l', sat w' F' k m x' l' ∧ vals k x' l' = vals k xo lx ∧ fp (resK (Pm.outs ins)) (resM (Pm.outs ins)) ro lo = fp k m x' l') →
      ((fullRes (Pm.outs ins) = true → m = Mk.full k) ∧ (allSh (Pm.outs ins) = true → shU8 k m = true)) → BackCase g ts s kk r ins x l ro
theorem vals_of_valOf {k : K} {x y : T k} {l l' : L k} (h : valOf k x l = valOf k y l') : vals k x l = vals k y l' := by
  have := congrArg Value.cells h
  rw [valOf_cells, valOf_cells] at this
  exact List.toArray_inj this
theorem split_one (h : Rel P X N s g F ow tm w) {ts : List Nat} : ∀ {ins : List Pm} {x : Ps ins} {l : PL ins} {pl : Plc} {ro : Rs (Pm.outs ins)},
    (Pm.outs ins).length ≤ 1 → PlOk g ts ins x l pl → backAt (Pm.outs ins) ro pl s kk = some r → BackCase g ts s kk r ins x l ro
  | [], _, _, pl, ro, _, hp, hr => by
    have hp : pl = [] := hp
    subst hp
    exact .none rfl rfl (fun _ => rfl) hr
  | .val _ :: ps, x, l, pl, ro, h1, h2, h4 => match split_one h (ins := ps) (x := x.2) (l := l.2) h1 h2 h4 with
    | .none a1 a2 a3 a4 => .none a1 a2 a3 a4
    | .one t p q k m xo x' lx b o a1 a2 a3 a4 a5 a6 a7 a8 => .one t p q k m xo x' lx b o a1 a2 a3 a4 a5 a6 a7 a8
    | .chg t p q k m xo x' lx b a1 a2 a3 a4 a5 a6 a7 a8 => .chg t p q k m xo x' lx b a1 a2 a3 a4 a5 a6 a7 a8
  | .mov _ _ :: ps, x, l, pl, ro, h1, h2, h4 => match split_one h (ins := ps) (x := x.2) (l := l.2) h1 h2 h4 with
    | .none a1 a2 a3 a4 => .none a1 a2 a3 a4
    | .one t p q k m xo x' lx b o a1 a2 a3 a4 a5 a6 a7 a8 => .one t p q k m xo x' lx b o a1 a2 a3 a4 a5 a6 a7 a8
    | .chg t p q k m xo x' lx b a1 a2 a3 a4 a5 a6 a7 a8 => .chg t p q k m xo x' lx b a1 a2 a3 a4 a5 a6 a7 a8
  | .fn _ _ :: ps, x, l, pl, ro, h1, h2, h4 => match split_one h (ins := ps) (x := x.2) (l := l) h1 h2 h4 with
    | .none a1 a2 a3 a4 => .none a1 a2 a3 a4
    | .one t p q k m xo x' lx b o a1 a2 a3 a4 a5 a6 a7 a8 => .one t p q k m xo x' lx b o a1 a2 a3 a4 a5 a6 a7 a8
    | .chg t p q k m xo x' lx b a1 a2 a3 a4 a5 a6 a7 a8 => .chg t p q k m xo x' lx b a1 a2 a3 a4 a5 a6 a7 a8
  | .rp _ :: ps, x, l, pl, ro, h1, h2, h4 => match split_one h (ins := ps) (x := x.2) (l := l.2) h1 h2 h4 with
    | .none a1 a2 a3 a4 => .none a1 a2 a3 a4
    | .one t p q k m xo x' lx b o a1 a2 a3 a4 a5 a6 a7 a8 => .one t p q k m xo x' lx b o a1 a2 a3 a4 a5 a6 a7 a8
    | .chg t p q k m xo x' lx b a1 a2 a3 a4 a5 a6 a7 a8 => .chg t p q k m xo x' lx b a1 a2 a3 a4 a5 a6 a7 a8
  | .mptr k m :: ps, x, l, pl, ro, h1, h2, h4 => by
    obtain ⟨t, p, pl', q, rfl, hg, hgat, ht, hps⟩ := h2
    have hos : Pm.outs ps = [] := by
      simp only [Pm.outs, List.length_cons] at h1
      exact List.eq_nil_of_length_eq_zero (by omega)
    obtain ⟨n1, n2⟩ := no_outs (ins := ps) x.2 l.2 hos
    simp only [backAt, Pm.outs, h.rootTo hg] at h4
    refine .one t p q k m x.1 ro.1 l.1.1 l.1.2.1 l.1.2.2 hg hgat ht (by simp [argBs, n1]) (by simp [mpFp, n2]) ?_ ?_ ?_
    · have hpl := PlOk.nil (ins := ps) hos hps
      subst hpl
      have hkk : (fun (m' : Mk) (y : T q.k) => backAt (Pm.outs ps) ro.2 [] ((s.kill t p).setR t (some { q.rt with m := m', x := y })) kk) = fun m' y => kk ((s.kill t p).setR t (some { q.rt with m := m', x := y })) := by
        funext m' y
        exact back_nil_eq hos
      exact (congrArg (fun f => Ct.set q.k q.m q.x p ⟨k, m, (ro.1 : T k)⟩ f) hkk.symm).trans h4
    · rintro w' F' lo ⟨o1, o2, o3⟩
      refine ⟨lo.1, o1, o2, ?_⟩
      simp only [Pm.outs, resK, resM, fp, Mk.mkp_l, Mk.mkp_r]
      have := fp_nil hos (ro := ro.2) (lo := lo.2)
      rw [this, List.append_nil]
    · refine ⟨fun hf => ?_, fun hf => ?_⟩
      · simp only [Pm.outs, fullRes, Bool.and_eq_true, decide_eq_true_eq] at hf
        exact hf.1
      · simp only [Pm.outs, allSh, Bool.and_eq_true] at hf
        exact hf.1
  | .chg k m :: ps, x, l, pl, ro, h1, h2, h4 => by
    obtain ⟨t, p, pl', q, b, rfl, hg, hgat, ht, hps⟩ := h2
    have hos : Pm.outs ps = [] := by
      simp only [Pm.outs, List.length_cons] at h1
      exact List.eq_nil_of_length_eq_zero (by omega)
    obtain ⟨n1, n2⟩ := no_outs (ins := ps) x.2 l.2 hos
    simp only [backAt, Pm.outs, h.rootTo hg] at h4
    refine .chg t p q k m x.1 ro.1 l.1 b hg hgat ht (by simpa [argBs] using n1) (by simp [mpFp, n2]) ?_ ?_ ?_
    · have hpl := PlOk.nil (ins := ps) hos hps
      subst hpl
      have hkk : (fun (m' : Mk) (y : T q.k) => backAt (Pm.outs ps) ro.2 [] ((s.soft t p).setR t (some { q.rt with m := m', x := y })) kk) = fun m' y => kk ((s.soft t p).setR t (some { q.rt with m := m', x := y })) := by
        funext m' y
        exact back_nil_eq hos
      exact (congrArg (fun f => Ct.set q.k q.m q.x p ⟨k, m, (ro.1 : T k)⟩ f) hkk.symm).trans h4
    · rintro w' F' lo ⟨o1, o2, o3⟩
      refine ⟨lo.1, o1, vals_of_valOf o2, ?_⟩
      simp only [Pm.outs, resK, resM, fp, Mk.mkp_l, Mk.mkp_r]
      have := fp_nil hos (ro := ro.2) (lo := lo.2)
      rw [this, List.append_nil]
    · refine ⟨fun hf => ?_, fun hf => ?_⟩
      · simp only [Pm.outs, fullRes, Bool.and_eq_true, decide_eq_true_eq] at hf
        exact hf.1
      · simp only [Pm.outs, allSh, Bool.and_eq_true] at hf
        exact hf.1
end
end Go.Proofs.YthlnjkcpdkjipaaDoor.Ev

/- Calls: the state behind a call. -/
namespace Go.Proofs.YthlnjkcpdkjipaaDoor.Ev
section
variable {P : Program} {X : Cx} {N : Nat} {a : Act} {s : St} {g : Gs} {F : Nat → Prop} {ow : Nat → Option Nat} {w : World} {R : Type} {r : R} {tm : Array Value} {E : Env}
  {o : Oper} {next : Act → World → Prop} {Q : Exit → Act → World → Prop} {kk : St → Option R}
theorem gset_gone : ∀ {p : List Stp} {k : K} {m m' : Mk} {x x' : T k} {l l2 : L k} {base : Option (Nat × Nat)} {c : Ct} {l' : L c.k} {old : GC}, gset k m x l p c l' = some (m', x', l2) → gat k m x l base p = some old →
    (fp k m x l).Nodup → ∀ b ∈ old.fp, b ∈ fp k m' x' l2 → b ∈ fp c.k c.m c.x l'
  | [], k, m, m', x, x', l, l2, base, c, l', old, h, hg, hn, b, hb, hb' => by
    obtain ⟨ck, cm, cx⟩ := c
    simp only [gset] at h
    split at h
    · rename_i hk
      subst hk
      simp only [Option.some.injEq, Prod.mk.injEq] at h
      obtain ⟨rfl, rfl, rfl⟩ := h
      exact hb'
    · cases h
  | s :: p, k, m, m', x, x', l, l2, base, c, l', old, h, hg, hn, b, hb, hb' => by
    cases k <;> cases s <;> simp only [gat, gset] at hg h <;> first | (cases hg; done) | skip
    · rename_i ka kb
      cases hy : gset ka m.l x.1 l.1 p c l' with
      | none => rw [hy] at h; cases h
      | some y =>
        rw [hy] at h
        simp only [Option.map_some, Option.some.injEq, Prod.mk.injEq] at h
        obtain ⟨rfl, rfl, rfl⟩ := h
        simp only [fp, List.nodup_append] at hn
        simp only [fp, Mk.mkp_l, Mk.mkp_r, List.mem_append] at hb'
        rcases hb' with hb' | hb'
        · exact gset_gone hy hg hn.1 b hb hb'
        · exact absurd rfl (hn.2.2 b (gat_fp hg b hb) b hb')
    · rename_i ka kb
      cases hy : gset kb m.r x.2 l.2 p c l' with
      | none => rw [hy] at h; cases h
      | some y =>
        rw [hy] at h
        simp only [Option.map_some, Option.some.injEq, Prod.mk.injEq] at h
        obtain ⟨rfl, rfl, rfl⟩ := h
        simp only [fp, List.nodup_append] at hn
        simp only [fp, Mk.mkp_l, Mk.mkp_r, List.mem_append] at hb'
        rcases hb' with hb' | hb'
        · exact absurd rfl (hn.2.2 b hb' b (gat_fp hg b hb))
        · exact gset_gone hy hg hn.2.1 b hb hb'
    · rename_i k i
      split at hg
      · cases hg
      rename_i hm
      cases hx' : x[i]? with
      | none => rw [hx'] at hg; cases hg
      | some z =>
      rw [hx'] at hg h
      simp only at h hg
      cases hy : gset k m.inner z (l.2 i) p c l' with
      | none => rw [hy] at h; cases h
      | some y =>
        rw [hy] at h
        simp only at h
        split at h
        case isFalse => cases h
        rename_i hcond
        obtain ⟨hc1, hown⟩ := hcond
        simp only [Option.some.injEq, Prod.mk.injEq] at h
        obtain ⟨rfl, rfl, rfl⟩ := h
        simp only [fp, hown, if_true, List.nodup_append] at hn
        obtain ⟨_, hn1, hn2⟩ := hn
        have hn1 := nodup_fpL.1 hn1
        have hbz : b ∈ fp k m.inner z (l.2 i) := gat_fp hg b hb
        simp only [fp, hown, if_true, List.mem_append] at hb'
        rcases hb' with hb' | hb'
        · exact absurd rfl (hn2 b hb' b (mem_fpL.2 ⟨i, z, hx', hbz⟩))
        · obtain ⟨j, u, hu, hb'⟩ := mem_fpL.1 hb'
          by_cases hji : j = i
          · subst hji
            have hi := (List.getElem?_eq_some_iff.1 hx').1
            rw [List.getElem?_set_self hi] at hu
            injection hu with hu
            subst hu
            simp only [if_true] at hb'
            rw [← hc1] at hb'
            exact gset_gone hy hg (hn1.1 j z hx') b hb hb'
          · rw [List.getElem?_set_ne (Ne.symm hji)] at hu
            simp only [if_neg hji] at hb'
            exact absurd hb' (hn1.2 i j z u hx' hu (Ne.symm hji) b hbz)
theorem Rel.grow (h : Rel P X N s g F ow tm w) {F2 : Nat → Prop} (hF : ∀ b, F b → F2 b) (hn : ∀ b, F2 b → F b ∨ (ow b = none ∧ b < w.heap.size ∧ X.free b)) : Rel P X N s g F2 ow tm w :=
  { h with
    slot := fun n => (h.slot n).frame (fun _ _ => rfl) hF
    sat := fun t r hr => sat_frame (h.sat t r hr) (fun _ _ => rfl) hF
    hF := fun b hb => (hn b hb).elim (h.hF b) (fun e => ⟨e.1, e.2.1⟩)
    F0 := fun b hb => hF b (h.F0 b hb)
    Fnew := fun b hb => (hn b hb).elim (h.Fnew b) (fun e => .inr e.2.2) }
theorem Rel.back0 (h : Rel P X N s g F ow tm w) {w' : World} {F2 A : Nat → Prop} (hF : ∀ b, F b → F2 b) (hn : ∀ b, F2 b → F b ∨ (w.heap.size ≤ b ∧ b < w'.heap.size) ∨ A b)
    (hA : ∀ b, A b → ow b = none ∧ X.free b ∧ ¬ F b ∧ b < w.heap.size) (hold : ∀ b, b < w.heap.size → ¬ A b → w'.heap[b]? = w.heap[b]?)
    (hz : w.heap.size ≤ w'.heap.size) (hos : w'.os = w.os) (htp : w'.tape = w.tape) (hou : OutLe w w') : Rel P X N s g F2 ow tm w' := by
  refine (h.world (fun c hc => hold c ?_ fun hA' => ?_) hz hos htp hou).grow hF fun b hb => ?_
  · rcases hc with hc | ⟨t, hc⟩ | ⟨hc, _⟩
    · exact (h.hF c hc).2
    · exact h.lt c t hc
    · exact Nat.lt_of_lt_of_le hc h.size
  · obtain ⟨a1, a2, a3, _⟩ := hA c hA'
    rcases hc with hc | ⟨t, hc⟩ | ⟨hc, hd⟩
    · exact a3 hc
    · rw [a1] at hc; cases hc
    · exact a2.elim (fun h => by omega) hd
  · rcases hn b hb with hb | ⟨h1, h2⟩ | hb
    · exact .inl hb
    · refine .inr ⟨?_, h2, .inl (Nat.le_trans h.size h1)⟩
      cases e : ow b with
      | none => rfl
      | some t => have := h.lt b t e; omega
    · obtain ⟨a1, a2, a3, a4⟩ := hA b hb
      exact .inr ⟨a1, Nat.lt_of_lt_of_le a4 hz, a2⟩
theorem Rel.back1 (h : Rel P X N s g F ow tm w) {w' : World} {F2 A : Nat → Prop} {t : Nat} {p : List Stp} {q : GR} (hg : g t = some q) {k : K} {m : Mk} {xo x' : T k} {lx l' : L k} {b o' : Nat} (hgat : q.at p = some ⟨k, m, xo, lx, some (b, o')⟩)
    {kk : Mk → T q.k → Option R} (hr : Ct.set q.k q.m q.x p ⟨k, m, x'⟩ kk = some r)
    (hF : ∀ b, F b → F2 b) (hn : ∀ b, F2 b → F b ∨ (w.heap.size ≤ b ∧ b < w'.heap.size) ∨ A b)
    (hA : ∀ c, A c → (ow c = none ∧ X.free c ∧ ¬ F c ∧ c < w.heap.size) ∨ c ∈ fp k m xo lx) (hold : ∀ c, c < w.heap.size → ¬ A c → c ≠ b → w'.heap[c]? = w.heap[c]?)
    (hrng : Rng w w' b o' k.size) (hs : Ev.sat w' F2 k m x' l') (hb : Blk w' b fun cs => cellsAt cs o' (vals k x' l'))
    (hnd : (fp k m x' l').Nodup) (hnb : b ∉ fp k m x' l') (hap : ∀ c ∈ fp k m x' l', ¬ F2 c ∧ (w.heap.size ≤ c ∨ A c))
    (hz : w.heap.size ≤ w'.heap.size) (hos : w'.os = w.os) (htp : w'.tape = w.tape) (hou : OutLe w w') :
    ∃ m' y g2 ow2, kk m' y = some r ∧ Rel P X N ((s.kill t p).setR t (some { q.rt with m := m', x := y })) g2 F2 ow2 tm w' ∧ (∀ c, c ∉ fp k m x' l' → (w.heap.size ≤ c ∨ A c) → ow2 c = none) := by
  obtain ⟨m', x2, l2, ⟨h1, hgs⟩, hk, H⟩ := set_ok (c := ⟨k, m, x'⟩) l' hr hgat
  have hqnd := h.nd t q hg
  have hqnd' : (q.b.map (·.1)).toList.Nodup ∧ (fp q.k q.m q.x q.l).Nodup ∧ ∀ b ∈ (q.b.map (·.1)).toList, ∀ c ∈ fp q.k q.m q.x q.l, b ≠ c := by
    simpa [GR.fp, GR.fpi, List.nodup_append] using hqnd
  have hin : ∀ c ∈ fp q.k q.m q.x q.l, ow c = some t := fun c hc => h.ho t q hg c (by simp only [GR.fp, GR.fpi, List.mem_append]; exact .inr hc)
  have hbin : ∀ c o, q.b = some (c, o) → ow c = some t := fun c o e => h.ho t q hg c (by simp [GR.fp, e])
  have holdfp : ∀ c ∈ fp k m xo lx, c ∈ fp q.k q.m q.x q.l := gat_fp hgat
  have hwh := set_where hr hgat (h.sat t q hg) b o' rfl
  have hob : ow b = some t := by
    rcases hwh with ⟨o2, e, _⟩ | e
    · exact hbin b o2 e
    · exact hin b e
  have hnFt : ∀ c, ow c = some t → ¬ F c := fun c hc hF => by rw [(h.hF c hF).1] at hc; cases hc
  have hAo : ∀ c u, ow c = some u → c ∉ fp k m xo lx → ¬ A c := fun c u hc hn hA' => by
    rcases hA c hA' with ⟨e, _⟩ | e
    · rw [e] at hc; cases hc
    · exact hn e
  have hAF : ∀ c, F c → ¬ A c := fun c hc hA' => by
    rcases hA c hA' with ⟨_, _, e, _⟩ | e
    · exact e hc
    · exact hnFt c (hin c (holdfp c e)) hc
  -- of the new parts: those that the root had before are of the old content
  have hfoo : ∀ c ∈ fp k m x' l', ∀ u, ow c = some u → c ∈ fp k m xo lx := fun c hc u hu => by
    rcases (hap c hc).2 with e | e
    · have := h.lt c u hu; omega
    · rcases hA c e with ⟨e, _⟩ | e
      · rw [e] at hu; cases hu
      · exact e
  have Z := H w w' F F2 b o'
    { place := rfl, sat := h.sat t q hg, mem := h.mem t q hg
      nb := fun c o e => ⟨(fun hc => hqnd'.2.2 c (by simp [e]) c hc rfl), hnFt c (hbin c o e)⟩
      nd := hqnd'.2.1, nF := fun c hc => hnFt c (hin c hc)
      rng := hrng, new := hb
      same := fun c hc hcb hco => hold c (by
          rcases hc with hc | hc | ⟨o, hc⟩
          · exact h.lt c t (hin c hc)
          · exact (h.hF c hc).2
          · exact h.lt c t (hbin c o hc)) (by
          rcases hc with hc | hc | ⟨o, hc⟩
          · exact hAo c t (hin c hc) hco
          · exact hAF c hc
          · exact hAo c t (hbin c o hc) hco) hcb
      sat' := hs
      apart := fun c hc => ⟨(fun hc' => hfoo c hc t (hin c hc')), (fun o e => hqnd'.2.2 c (by simp [e]) c (holdfp c (hfoo c hc t (hbin c o e))) rfl), (fun e => hnb (e ▸ hc))⟩
      nd' := hnd, le := hF }
  have hgone : ∀ c ∈ fp k m xo lx, c ∈ fp q.k m' x2 l2 → c ∈ fp k m x' l' := gset_gone hgs hgat hqnd'.2.1
  refine ⟨m', x2, _, owAdd (owSub ow (fp k m xo lx)) (fp k m x' l') t, h1, h.reset hg hgs hF (fun c hc => hold c (h.hF c hc).2 (hAF c hc) (fun e => hnFt b hob (e ▸ hc))) Z.sat Z.mem ?_ ?_ ?_ ?_ ?_ ?_ ?_ ?_ hz hos htp hou, ?_⟩
  · rw [List.nodup_append]
    refine ⟨hqnd'.1, Z.nd, ?_⟩
    rintro c hc c2 hc2 rfl
    rcases Z.fp c hc2 with e | e
    · exact hqnd'.2.2 c hc c e rfl
    · have hoc : ow c = some t := h.ho t q hg c (by simp only [GR.fp, List.mem_append]; exact .inl hc)
      exact hqnd'.2.2 c hc c (holdfp c (hfoo c e t hoc)) rfl
  · intro n q' hnt hq c hc
    have hoc := h.ho n q' hq c hc
    have hco : c ∉ fp k m xo lx := fun e => by have := hin c (holdfp c e); rw [hoc] at this; injection this with this; exact hnt this
    refine ⟨hold c (h.lt c n hoc) (hAo c n hoc hco) (fun e => by rw [e, hob] at hoc; injection hoc with hoc; exact hnt hoc.symm), ?_⟩
    rw [owAdd_not (fun e => hco (hfoo c e n hoc)), owSub_not hco]
    exact hoc
  · intro c hc
    rw [List.mem_append] at hc
    by_cases hcn : c ∈ fp k m x' l'
    · exact owAdd_mem hcn
    · rw [owAdd_not hcn]
      rcases hc with hc | hc
      · have hoc : ow c = some t := h.ho t q hg c (by simp only [GR.fp, List.mem_append]; exact .inl hc)
        rw [owSub_not (fun e => hqnd'.2.2 c hc c (holdfp c e) rfl)]
        exact hoc
      · rcases Z.fp c hc with e | e
        · rw [owSub_not (fun e' => hcn (hgone c e' hc))]
          exact hin c e
        · exact absurd e hcn
  · intro c hc
    have hcn : c ∉ fp k m x' l' := fun e => (hap c e).1 hc
    rw [owAdd_not hcn]
    rcases hn c hc with e | ⟨e1, e2⟩ | e
    · refine ⟨?_, Nat.lt_of_lt_of_le (h.hF c e).2 hz⟩
      unfold owSub; split
      · rfl
      · exact (h.hF c e).1
    · refine ⟨?_, e2⟩
      unfold owSub; split
      · rfl
      · cases e : ow c with
        | none => rfl
        | some u => have := h.lt c u e; omega
    · rcases hA c e with ⟨a1, _, _, a4⟩ | e
      · refine ⟨?_, Nat.lt_of_lt_of_le a4 hz⟩
        unfold owSub; split
        · rfl
        · exact a1
      · exact ⟨owSub_mem e, Nat.lt_of_lt_of_le (h.lt c t (hin c (holdfp c e))) hz⟩
  · intro c u hc
    by_cases hcn : c ∈ fp k m x' l'
    · exact fp_lt hs c hcn
    · rw [owAdd_not hcn] at hc
      exact Nat.lt_of_lt_of_le (h.lt c u (owSub_le _ c u hc)) hz
  · intro c hc
    rcases Z.fp c hc with e | e
    · exact (h.own t q hg).1 c e
    · rcases (hap c e).2 with e' | e'
      · exact .inl (Nat.le_trans h.size e')
      · rcases hA c e' with ⟨_, a2, _⟩ | e2
        · exact a2
        · exact (h.own t q hg).1 c (holdfp c e2)
  · intro c hc
    rcases hn c hc with e | ⟨e1, _⟩ | e
    · exact h.Fnew c e
    · exact .inr (.inl (Nat.le_trans h.size e1))
    · rcases hA c e with ⟨_, a2, _⟩ | e2
      · exact .inr a2
      · exact .inr ((h.own t q hg).1 c (holdfp c e2))
  · intro c hc hhd
    have hk0 := h.kept c hc hhd
    by_cases hcb : c = b
    · subst hcb
      have hfree : ¬ X.free c := fun hf => hf.elim (fun hf => by omega) hhd
      rcases hwh with ⟨o2, e, e1, e2, _⟩ | e
      · rcases (h.own t q hg).2 c o2 e with hf | ⟨o3, n3, hr3, e3, e4⟩
        · exact absurd hf hfree
        · rw [hr3] at hk0 ⊢
          obtain ⟨cs, tt, fr, cs', k1, k2, k3, k4⟩ := hk0
          obtain ⟨ds, t', fr', ds', j1, j2, j3, j4⟩ := hrng
          rw [k2] at j1
          injection j1 with j1; injection j1 with i1 i2 i3
          subst i1; subst i2; subst i3
          refine ⟨cs, tt, fr, ds', k1, j2, by rw [j3, k3], fun j hj => ?_⟩
          simp only at e2
          rw [j4 j (by omega), k4 j hj]
      · exact absurd ((h.own t q hg).1 c e) hfree
    · have hA' : ¬ A c := fun hA' => by
        rcases hA c hA' with ⟨_, a2, _⟩ | e2
        · exact a2.elim (fun h => by omega) hhd
        · exact ((h.own t q hg).1 c (holdfp c e2)).elim (fun h => by omega) hhd
      have e := hold c (Nat.lt_of_lt_of_le hc h.size) hA' hcb
      cases hrg : X.rg c with
      | none => rw [hrg] at hk0; simp only at hk0 ⊢; rw [e]; exact hk0
      | some y =>
        rw [hrg] at hk0
        obtain ⟨cs, tt, fr, cs', k1, k2, k3, k4⟩ := hk0
        exact ⟨cs, tt, fr, cs', k1, by rw [e]; exact k2, k3, k4⟩
  · intro c hc1 hc2
    rw [owAdd_not hc1]
    unfold owSub; split
    · rfl
    · rename_i hco
      rcases hc2 with e | e
      · cases e' : ow c with
        | none => rfl
        | some u => have := h.lt c u e'; omega
      · rcases hA c e with ⟨a1, _⟩ | e
        · exact a1
        · exact absurd e hco
structure SameHyp (w w' : World) (F F' : Nat → Prop) (k : K) (m : Mk) (x : T k) (l : L k) (old : GC) (c : Ct) (l' : L c.k) : Prop where
  eq : vals c.k c.x l' = vals old.k old.x old.l
  sat : Ev.sat w F k m x l
  nd : (fp k m x l).Nodup
  nF : ∀ b ∈ fp k m x l, ¬ F b
  same : ∀ b, (b ∈ fp k m x l ∨ F b) → b ∉ old.fp → w'.heap[b]? = w.heap[b]?
  sat' : Ev.sat w' F' c.k c.m c.x l'
  apart : ∀ b ∈ fp c.k c.m c.x l', b ∈ fp k m x l → b ∈ old.fp
  nd' : (fp c.k c.m c.x l').Nodup
  le : ∀ b, F b → F' b
structure SameRes (w' : World) (F' : Nat → Prop) (k : K) (m : Mk) (x : T k) (l : L k) (c : Ct) (l' : L c.k) (m' : Mk) (x' : T k) (l2 : L k) : Prop where
  sat : Ev.sat w' F' k m' x' l2
  eq : vals k x' l2 = vals k x l
  fp : ∀ b ∈ fp k m' x' l2, b ∈ Ev.fp k m x l ∨ b ∈ Ev.fp c.k c.m c.x l'
  nd : (Ev.fp k m' x' l2).Nodup
theorem set_same {R : Type} {r : R} : ∀ {p : List Stp} {k : K} {m : Mk} {x : T k} {l : L k} {base : Option (Nat × Nat)} {c : Ct} (l' : L c.k) {kk : Mk → T k → Option R} {old : GC},
    Ct.set k m x p c kk = some r → gat k m x l base p = some old →
    ∃ m' x' l2, (kk m' x' = some r ∧ gset k m x l p c l' = some (m', x', l2)) ∧ ∀ w w' F F', SameHyp w w' F F' k m x l old c l' → SameRes w' F' k m x l c l' m' x' l2
  | [], k, m, x, l, base, ⟨k', cm, cx⟩, l', kk, old, h, hg => by
    simp only [Ct.set] at h
    split at h
    case isFalse => cases h
    case isTrue hk =>
      subst hk
      simp [gat] at hg
      subst hg
      exact ⟨cm, cx, l', ⟨h, by simp [gset]⟩, fun w w' F F' H => ⟨H.sat', H.eq, fun b hb => .inr hb, H.nd'⟩⟩
  | s :: p, k, m, x, l, base, c, l', kk, old, h, hg => by
    cases k <;> cases s <;> simp only [gat, Ct.set] at hg h <;> first | cases hg | skip
    · rename_i ka kb
      obtain ⟨m', x', l2, h1, H⟩ := set_same l' h hg
      refine ⟨_, _, (l2, l.2), ⟨h1.1, by simp only [gset, h1.2, Option.map_some]⟩, fun w w' F F' G => ?_⟩
      have hfa : ∀ b ∈ fp ka m.l x.1 l.1, b ∈ fp (.pair ka kb) m x l := fun b hb => by simp only [fp, List.mem_append]; exact .inl hb
      have hfb : ∀ b ∈ fp kb m.r x.2 l.2, b ∈ fp (.pair ka kb) m x l := fun b hb => by simp only [fp, List.mem_append]; exact .inr hb
      have hnd := G.nd
      simp only [fp, List.nodup_append] at hnd
      have hold : ∀ b ∈ old.fp, b ∈ fp ka m.l x.1 l.1 := gat_fp hg
      have Z := H w w' F F'
        { eq := G.eq, sat := G.sat.1, nd := hnd.1, nF := fun b hb => G.nF b (hfa b hb), same := fun b hb => G.same b (hb.imp (hfa b) id), sat' := G.sat', apart := fun b hb hb' => G.apart b hb (hfa b hb'), nd' := G.nd', le := G.le }
      have hsame : ∀ b, b ∈ fp kb m.r x.2 l.2 ∨ F b → w'.heap[b]? = w.heap[b]? := fun b hb => G.same b (hb.imp (hfb b) id) fun ho => by
        rcases hb with hb | hb
        · exact hnd.2.2 _ (hold b ho) _ hb rfl
        · exact G.nF _ (hfa _ (hold b ho)) hb
      refine ⟨⟨by rw [Mk.mkp_l]; exact Z.sat, by rw [Mk.mkp_r]; exact sat_frame G.sat.2 hsame G.le⟩, by simp only [vals, Z.eq], fun b hb => ?_, ?_⟩
      · simp only [fp, List.mem_append, Mk.mkp_l, Mk.mkp_r] at hb ⊢
        rcases hb with hb | hb
        · exact (Z.fp b hb).elim (fun h => .inl (.inl h)) .inr
        · exact .inl (.inr hb)
      · simp only [fp, Mk.mkp_l, Mk.mkp_r, List.nodup_append]
        refine ⟨Z.nd, hnd.2.1, ?_⟩
        rintro b hb b2 hb2 rfl
        rcases Z.fp b hb with hb | hb
        · exact hnd.2.2 _ hb _ hb2 rfl
        · exact hnd.2.2 _ (hold b (G.apart b hb (hfb b hb2))) _ hb2 rfl
    · rename_i ka kb
      obtain ⟨m', x', l2, h1, H⟩ := set_same l' h hg
      refine ⟨_, _, (l.1, l2), ⟨h1.1, by simp only [gset, h1.2, Option.map_some]⟩, fun w w' F F' G => ?_⟩
      have hfa : ∀ b ∈ fp ka m.l x.1 l.1, b ∈ fp (.pair ka kb) m x l := fun b hb => by simp only [fp, List.mem_append]; exact .inl hb
      have hfb : ∀ b ∈ fp kb m.r x.2 l.2, b ∈ fp (.pair ka kb) m x l := fun b hb => by simp only [fp, List.mem_append]; exact .inr hb
      have hnd := G.nd
      simp only [fp, List.nodup_append] at hnd
      have hold : ∀ b ∈ old.fp, b ∈ fp kb m.r x.2 l.2 := gat_fp hg
      have Z := H w w' F F'
        { eq := G.eq, sat := G.sat.2, nd := hnd.2.1, nF := fun b hb => G.nF b (hfb b hb), same := fun b hb => G.same b (hb.imp (hfb b) id), sat' := G.sat', apart := fun b hb hb' => G.apart b hb (hfb b hb'), nd' := G.nd', le := G.le }
      have hsame : ∀ b, b ∈ fp ka m.l x.1 l.1 ∨ F b → w'.heap[b]? = w.heap[b]? := fun b hb => G.same b (hb.imp (hfa b) id) fun ho => by
        rcases hb with hb | hb
        · exact hnd.2.2 _ hb _ (hold b ho) rfl
        · exact G.nF _ (hfb _ (hold b ho)) hb
      refine ⟨⟨by rw [Mk.mkp_l]; exact sat_frame G.sat.1 hsame G.le, by rw [Mk.mkp_r]; exact Z.sat⟩, by simp only [vals, Z.eq], fun b hb => ?_, ?_⟩
      · simp only [fp, List.mem_append, Mk.mkp_l, Mk.mkp_r] at hb ⊢
        rcases hb with hb | hb
        · exact .inl (.inl hb)
        · exact (Z.fp b hb).elim (fun h => .inl (.inr h)) .inr
      · simp only [fp, Mk.mkp_l, Mk.mkp_r, List.nodup_append]
        refine ⟨hnd.1, Z.nd, ?_⟩
        rintro b hb b2 hb2 rfl
        rcases Z.fp b hb2 with hb2 | hb2
        · exact hnd.2.2 _ hb _ hb2 rfl
        · exact hnd.2.2 _ hb _ (hold b (G.apart b hb2 (hfa b hb))) rfl
    · rename_i k i
      split at hg
      · cases hg
      rename_i hm
      cases hx' : x[i]? with
      | none => rw [hx'] at hg; cases hg
      | some y =>
      rw [hx'] at hg h
      simp only [] at h hg
      obtain ⟨m', x', l2, ⟨h1, hgs⟩, H⟩ := set_same l' h hg
      split at h1
      case isFalse => cases h1
      rename_i hcond
      obtain ⟨rfl, hown⟩ := hcond
      have hi : i < x.length := (List.getElem?_eq_some_iff.1 hx').1
      refine ⟨m, x.set i x', (l.1, fun j => if j = i then l2 else l.2 j), ⟨h1, by simp only [gset, hx', hgs, hown, and_self, if_true]⟩, fun w w' F F' G => ?_⟩
      obtain ⟨⟨q1, q2, q3, _⟩, q4⟩ := G.sat hm
      have hcap : l.1.2 ≠ 0 := by omega
      have hnd := G.nd
      simp only [fp, hown, if_true, List.nodup_append] at hnd
      obtain ⟨_, hnd2, hnd3⟩ := hnd
      have hnd2' := nodup_fpL.1 hnd2
      have hfe : ∀ (j : Nat) (z : T k), x[j]? = some z → ∀ b ∈ fp k m.inner z (l.2 j), b ∈ fp (.sl k) m x l := fun j z hz b hb => by
        simp only [fp, hown, if_true, List.mem_append]; exact .inr (mem_fpL.2 ⟨j, z, hz, hb⟩)
      have hfo : ∀ b o, l.1.1 = some (b, o) → b ∈ fp (.sl k) m x l := fun b o e => by
        simp only [fp, hown, if_true, List.mem_append]; exact .inl (mem_own1.2 ⟨hcap, o, e⟩)
      have hof : ∀ b o, l.1.1 = some (b, o) → b ∉ fpL (fp k m.inner) x l.2 := fun b o e hb => hnd3 b (mem_own1.2 ⟨hcap, o, e⟩) b hb rfl
      have hne : x ≠ [] := by rintro rfl; simp at hx'
      have hold : ∀ b ∈ old.fp, b ∈ fp k m.inner y (l.2 i) := gat_fp hg
      have Z := H w w' F F'
        { eq := G.eq, sat := q4 i y hx', nd := hnd2'.1 i y hx', nF := fun b hb => G.nF b (hfe i y hx' b hb), same := fun b hb => G.same b (hb.imp (hfe i y hx' b) id), sat' := G.sat', apart := fun b hb hb' => G.apart b hb (hfe i y hx' b hb'), nd' := G.nd', le := G.le }
      have hkeep : ∀ b o, l.1.1 = some (b, o) → w'.heap[b]? = w.heap[b]? := fun b o e => G.same b (.inl (hfo b o e)) fun ho => hof b o e (mem_fpL.2 ⟨i, y, hx', hold b ho⟩)
      have hother : ∀ j z, x[j]? = some z → j ≠ i → ∀ b, b ∈ fp k m.inner z (l.2 j) ∨ F b → w'.heap[b]? = w.heap[b]? := fun j z hz hji b hb => G.same b (hb.imp (hfe j z hz b) id) fun ho => by
        rcases hb with hb | hb
        · exact hnd2'.2 j i z y hz hx' hji b hb (hold b ho)
        · exact G.nF _ (hfe i y hx' _ (hold b ho)) hb
      have hgetj : ∀ j z, (x.set i x')[j]? = some z → (j = i ∧ z = x') ∨ (j ≠ i ∧ x[j]? = some z) := by
        intro j z hz
        by_cases hji : j = i
        · subst hji
          rw [List.getElem?_set_self hi] at hz
          injection hz with hz
          exact .inl ⟨rfl, hz.symm⟩
        · rw [List.getElem?_set_ne (Ne.symm hji)] at hz
          exact .inr ⟨hji, hz⟩
      refine ⟨fun _ => ⟨⟨by simpa using q1, q2, fun b o e => ⟨fun _ _ => ((q3 b o e).1 hown hcap).frame (hkeep b o e), fun _ => ⟨(fun h => by rw [hown] at h; cases h), ?_⟩⟩, fun _ h0 => absurd h0 hcap⟩, ?_⟩, ?_, ?_, ?_⟩
      · refine ((((q3 b o e).2 hne).2).frame (hkeep b o e)).mono fun cs hc j z hz => ?_
        rcases hgetj j z hz with ⟨rfl, rfl⟩ | ⟨hji, hz⟩
        · simp only [if_true]; rw [Z.eq]; exact hc j y hx'
        · simp only [if_neg hji]; exact hc j z hz
      · intro j z hz
        rcases hgetj j z hz with ⟨rfl, rfl⟩ | ⟨hji, hz⟩
        · simp only [if_true]; exact Z.sat
        · simp only [if_neg hji]; exact sat_frame (q4 j z hz) (hother j z hz hji) G.le
      · exact vals_sl (by simp) rfl
      · intro b hb
        simp only [fp, hown, if_true, List.mem_append] at hb ⊢
        rcases hb with hb | hb
        · exact .inl (.inl hb)
        · obtain ⟨j, z, hz, hb⟩ := mem_fpL.1 hb
          rcases hgetj j z hz with ⟨e1, e2⟩ | ⟨hji, hz⟩
          · have hb : b ∈ fp k m.inner x' l2 := by simpa [e1, e2] using hb
            rcases Z.fp b hb with hb | hb
            · exact .inl (.inr (mem_fpL.2 ⟨_, y, hx', hb⟩))
            · exact .inr hb
          · simp only [if_neg hji] at hb
            exact .inl (.inr (mem_fpL.2 ⟨j, z, hz, hb⟩))
      · simp only [fp, hown, if_true, List.nodup_append]
        have hin : ∀ b ∈ fp k m.inner x' l2, b ∈ fp k m.inner y (l.2 i) ∨ (b ∈ fp c.k c.m c.x l' ∧ (b ∈ fp (.sl k) m x l → b ∈ fp k m.inner y (l.2 i))) := fun b hb => by
          rcases Z.fp b hb with hb | hb
          · exact .inl hb
          · exact .inr ⟨hb, fun h => hold b (G.apart b hb h)⟩
        refine ⟨nodup_own1 _, nodup_fpL.2 ⟨?_, ?_⟩, ?_⟩
        · intro j z hz
          rcases hgetj j z hz with ⟨e1, e2⟩ | ⟨hji, hz⟩
          · simpa [e1, e2] using Z.nd
          · simp only [if_neg hji]; exact hnd2'.1 j z hz
        · intro j1 j2 z1 z2 hz1 hz2 hj b hb hb2
          rcases hgetj j1 z1 hz1 with ⟨e1, e2⟩ | ⟨hji, hz1⟩
          · rcases hgetj j2 z2 hz2 with ⟨f1, f2⟩ | ⟨hji2, hz2⟩
            · exact hj (e1.trans f1.symm)
            · have hb : b ∈ fp k m.inner x' l2 := by simpa [e1, e2] using hb
              simp only [if_neg hji2] at hb2
              rcases hin b hb with hb | ⟨_, hb⟩
              · exact hnd2'.2 _ j2 y z2 hx' hz2 (Ne.symm hji2) b hb hb2
              · exact hnd2'.2 _ j2 y z2 hx' hz2 (Ne.symm hji2) b (hb (hfe j2 z2 hz2 b hb2)) hb2
          · rcases hgetj j2 z2 hz2 with ⟨f1, f2⟩ | ⟨hji2, hz2⟩
            · have hb2 : b ∈ fp k m.inner x' l2 := by simpa [f1, f2] using hb2
              simp only [if_neg hji] at hb
              rcases hin b hb2 with hb2 | ⟨_, hb2⟩
              · exact hnd2'.2 j1 _ z1 y hz1 hx' hji b hb hb2
              · exact hnd2'.2 j1 _ z1 y hz1 hx' hji b hb (hb2 (hfe j1 z1 hz1 b hb))
            · simp only [if_neg hji, if_neg hji2] at hb hb2
              exact hnd2'.2 j1 j2 z1 z2 hz1 hz2 hj b hb hb2
        · rintro b hb b2 hb2 rfl
          obtain ⟨_, o, hbo⟩ := mem_own1.1 hb
          obtain ⟨j, z, hz, hb2⟩ := mem_fpL.1 hb2
          rcases hgetj j z hz with ⟨e1, e2⟩ | ⟨hji, hz⟩
          · have hb2 : b ∈ fp k m.inner x' l2 := by simpa [e1, e2] using hb2
            rcases hin b hb2 with hb2 | ⟨_, hb2⟩
            · exact hof b o hbo (mem_fpL.2 ⟨_, y, hx', hb2⟩)
            · exact hof b o hbo (mem_fpL.2 ⟨_, y, hx', hb2 (hfo b o hbo)⟩)
          · simp only [if_neg hji] at hb2
            exact hof b o hbo (mem_fpL.2 ⟨j, z, hz, hb2⟩)
theorem gset_same_vals : ∀ {q : List Stp} {k : K} {m : Mk} {x : T k} {l : L k} {c : Ct} {l' : L c.k} {m' : Mk} {x' : T k} {l2 : L k} {b : Option (Nat × Nat)} {old : GC}, gset k m x l q c l' = some (m', x', l2) → gat k m x l b q = some old →
    vals c.k c.x l' = vals old.k old.x old.l → vals k x' l2 = vals k x l
  | [], k, m, x, l, c, l', m', x', l2, b, old, h, hg, he => by
    obtain ⟨ck, cm, cx⟩ := c
    simp [gat] at hg
    subst hg
    simp only [gset] at h
    split at h
    · rename_i hk
      subst hk
      simp only [Option.some.injEq, Prod.mk.injEq] at h
      obtain ⟨_, rfl, rfl⟩ := h
      exact he
    · cases h
  | s :: q, k, m, x, l, c, l', m', x', l2, b, old, h, hg, he => by
    cases k <;> cases s <;> simp only [gset, gat] at h hg <;> first | (cases h; done) | skip
    · cases hy : gset _ m.l x.1 l.1 q c l' with
      | none => rw [hy] at h; cases h
      | some y =>
        rw [hy] at h
        simp only [Option.map_some, Option.some.injEq, Prod.mk.injEq] at h
        obtain ⟨_, rfl, rfl⟩ := h
        simp only [vals]
        rw [gset_same_vals (m' := y.1) (x' := y.2.1) (l2 := y.2.2) hy hg he]
    · cases hy : gset _ m.r x.2 l.2 q c l' with
      | none => rw [hy] at h; cases h
      | some y =>
        rw [hy] at h
        simp only [Option.map_some, Option.some.injEq, Prod.mk.injEq] at h
        obtain ⟨_, rfl, rfl⟩ := h
        simp only [vals]
        rw [gset_same_vals (m' := y.1) (x' := y.2.1) (l2 := y.2.2) hy hg he]
    · rename_i k i
      cases hx : x[i]? with
      | none => rw [hx] at h; cases h
      | some z =>
        rw [hx] at h
        simp only at h
        cases hy : gset k m.inner z (l.2 i) q c l' with
        | none => rw [hy] at h; cases h
        | some y =>
          rw [hy] at h
          simp only at h
          split at h
          · simp only [Option.some.injEq, Prod.mk.injEq] at h
            obtain ⟨_, rfl, rfl⟩ := h
            exact vals_sl (by simp) rfl
          · cases h
theorem soft_cons (q p : List Stp) :
    soft (.fst :: q) (.fst :: p) = soft q p ∧ soft (.snd :: q) (.snd :: p) = soft q p ∧ (∀ i j, soft (.el i :: q) (.el j :: p) = soft q p) := by
  refine ⟨?_, ?_, fun i j => ?_⟩ <;> simp [soft]
theorem soft_at : ∀ {q p : List Stp} {k : K} {m : Mk} {x : T k} {l : L k} {b b0 : Option (Nat × Nat)} {c : Ct} {l' : L c.k} {m' : Mk} {x' : T k} {l2 : L k} {z old : GC},
    gset k m x l q c l' = some (m', x', l2) → gat k m x l b0 q = some old → vals c.k c.x l' = vals old.k old.x old.l → gat k m x l b p = some z → soft q p = false →
    ∃ m2 x2 l3, gat k m' x' l2 b p = some ⟨z.k, m2, x2, l3, z.b⟩ ∧ vals z.k x2 l3 = vals z.k z.x z.l
  | q, [], k, m, x, l, b, b0, c, l', m', x', l2, z, old, hs, ho, he, hg, hh => by
    simp [gat] at hg
    subst hg
    exact ⟨m', x', l2, by simp [gat], gset_same_vals hs ho he⟩
  | [], s :: p, k, m, x, l, b, b0, c, l', m', x', l2, z, old, hs, ho, he, hg, hh => by simp [soft] at hh
  | s :: q, u :: p, k, m, x, l, b, b0, c, l', m', x', l2, z, old, hs, ho, he, hg, hh => by
    cases k <;> cases s <;> simp only [gset, gat] at hs ho <;> first | (cases hs; done) | skip
    · rename_i ka kb
      cases hy : gset ka m.l x.1 l.1 q c l' with
      | none => rw [hy] at hs; cases hs
      | some y =>
        rw [hy] at hs
        simp only [Option.map_some, Option.some.injEq, Prod.mk.injEq] at hs
        obtain ⟨rfl, rfl, rfl⟩ := hs
        cases u with
        | fst =>
          simp only [gat, Mk.mkp_l] at hg ⊢
          exact soft_at (m' := y.1) (x' := y.2.1) (l2 := y.2.2) hy ho he hg (by rwa [(soft_cons q p).1] at hh)
        | snd =>
          simp only [gat, Mk.mkp_r] at hg ⊢
          exact ⟨z.m, z.x, z.l, hg, rfl⟩
        | el j => simp [gat] at hg
    · rename_i ka kb
      cases hy : gset kb m.r x.2 l.2 q c l' with
      | none => rw [hy] at hs; cases hs
      | some y =>
        rw [hy] at hs
        simp only [Option.map_some, Option.some.injEq, Prod.mk.injEq] at hs
        obtain ⟨rfl, rfl, rfl⟩ := hs
        cases u with
        | fst =>
          simp only [gat, Mk.mkp_l] at hg ⊢
          exact ⟨z.m, z.x, z.l, hg, rfl⟩
        | snd =>
          simp only [gat, Mk.mkp_r] at hg ⊢
          exact soft_at (m' := y.1) (x' := y.2.1) (l2 := y.2.2) hy ho he hg (by rwa [(soft_cons q p).2.1] at hh)
        | el j => simp [gat] at hg
    · rename_i k i
      split at ho
      · cases ho
      cases hx : x[i]? with
      | none => rw [hx] at hs; cases hs
      | some e =>
        rw [hx] at hs ho
        simp only at hs ho
        cases hy : gset k m.inner e (l.2 i) q c l' with
        | none => rw [hy] at hs; cases hs
        | some y =>
          rw [hy] at hs
          simp only at hs
          split at hs
          case isFalse => cases hs
          rename_i hcond
          simp only [Option.some.injEq, Prod.mk.injEq] at hs
          obtain ⟨rfl, rfl, rfl⟩ := hs
          cases u with
          | fst => simp [gat] at hg
          | snd => simp [gat] at hg
          | el j =>
            simp only [gat] at hg ⊢
            split at hg
            · cases hg
            rename_i hmd
            rw [if_neg hmd]
            by_cases hij : j = i
            · subst hij
              rw [hx] at hg
              simp only at hg
              rw [getElem?_set_self' hx]
              simp only [if_true]
              have hyy : gset k m.inner e (l.2 j) q c l' = some (m.inner, y.2.1, y.2.2) := by rw [hy, ← hcond.1]
              exact soft_at hyy ho he hg (by rwa [(soft_cons q p).2.2] at hh)
            · rw [List.getElem?_set_ne (Ne.symm hij)]
              cases hxj : x[j]? with
              | none => rw [hxj] at hg; cases hg
              | some f =>
                rw [hxj] at hg
                simp only [if_neg hij] at hg ⊢
                exact ⟨z.m, z.x, z.l, hg, rfl⟩
theorem PcOk.resetS {w' : World} {F' : Nat → Prop} {c0 : Pc} {v : Value} {t : Nat} {q : GR} (hg : g t = some q) {p : List Stp} {c : Ct} {l' : L c.k} {m' : Mk} {x' : T q.k} {l2 : L q.k} {old : GC}
    (hs : gset q.k q.m q.x q.l p c l' = some (m', x', l2)) (ho : q.at p = some old) (he : vals c.k c.x l' = vals old.k old.x old.l) (hF : ∀ b, F b → F' b) (hFw : ∀ b, F b → w'.heap[b]? = w.heap[b]?)
    (h : PcOk P g F w c0 v) : PcOk P (g.set t (some { q with m := m', x := x', l := l2 })) F' w' (c0.soft t p) v := by
  cases c0 with
  | al u p2 =>
    obtain ⟨q', z, h1, h2, h3⟩ := h
    by_cases hu : u = t
    · subst hu
      rw [hg] at h1; injection h1 with h1; subst h1
      simp only [Pc.soft, Nat.beq_refl, Bool.true_and]
      cases hh : Ev.soft p p2 with
      | true => simp only [cond_true]; trivial
      | false =>
        simp only [cond_false]
        obtain ⟨m2, x2, l3, e1, e2⟩ := soft_at hs ho he h2 hh
        exact ⟨_, _, Gs.set_self _ _ _, e1, by rw [h3]; exact (valOf_of_vals e2).symm⟩
    · simp only [Pc.soft, beq_ne hu, Bool.false_and, cond_false]
      exact ⟨q', z, by rw [Gs.set_ne _ _ hu]; exact h1, h2, h3⟩
  | vw u p2 lo n =>
    obtain ⟨q', k, m, xs, l, b, h1, h2, h3, ad, cap, h4, h5, h6, h7, h8⟩ := h
    by_cases hu : u = t
    · subst hu
      rw [hg] at h1; injection h1 with h1; subst h1
      simp only [Pc.soft, Nat.beq_refl, Bool.true_and]
      cases hh : Ev.soft p p2 with
      | true => simp only [cond_true]; trivial
      | false =>
        simp only [cond_false]
        obtain ⟨m2, x2, l3, e1, e2⟩ := soft_at hs ho he h2 hh
        obtain ⟨v1, v2, v3⟩ := vals_sl_inj e2
        dsimp only at v1 v2 v3
        exact ⟨_, k, m2, x2, l3, b, Gs.set_self _ _ _, e1, by omega, ad, cap, h4, h5, by omega, by rw [v2]; exact h7, by rw [v2, v3]; exact h8⟩
    · simp only [Pc.soft, beq_ne hu, Bool.false_and, cond_false]
      exact ⟨q', k, m, xs, l, b, by rw [Gs.set_ne _ _ hu]; exact h1, h2, h3, ad, cap, h4, h5, h6, h7, h8⟩
  | ptr u p2 =>
    obtain ⟨q', z, y, h1, h2, h3, h4⟩ := h
    by_cases hu : u = t
    · subst hu
      rw [hg] at h1; injection h1 with h1; subst h1
      simp only [Pc.soft, Nat.beq_refl, Bool.true_and]
      cases hh : Ev.soft p p2 with
      | true => simp only [cond_true]; trivial
      | false =>
        simp only [cond_false]
        obtain ⟨m2, x2, l3, e1, e2⟩ := soft_at hs ho he h2 hh
        exact ⟨_, _, y, Gs.set_self _ _ _, e1, h3, h4⟩
    · simp only [Pc.soft, beq_ne hu, Bool.false_and, cond_false]
      exact ⟨q', z, y, by rw [Gs.set_ne _ _ hu]; exact h1, h2, h3, h4⟩
  | v k x => exact PcOk.frame (c := .v k x) h hFw hF
  | sp k x => exact PcOk.frame (c := .sp k x) h hFw hF
  | nil0 => exact PcOk.frame (c := .nil0) h hFw hF
  | fv i o f => exact PcOk.frame (c := .fv i o f) h hFw hF
  | bad => trivial
  | unk => exact PcOk.frame (c := .unk) h hFw hF
theorem Rel.resetS (h : Rel P X N s g F ow tm w) {t : Nat} {q : GR} (hg : g t = some q) {p : List Stp} {c : Ct} {l' : L c.k} {m' : Mk} {x' : T q.k} {l2 : L q.k} {old : GC}
    (hs : gset q.k q.m q.x q.l p c l' = some (m', x', l2)) (ho : q.at p = some old) (he : vals c.k c.x l' = vals old.k old.x old.l) {w' : World} {F' : Nat → Prop} {ow' : Nat → Option Nat}
    (hF : ∀ b, F b → F' b) (hFw : ∀ b, F b → w'.heap[b]? = w.heap[b]?) (hsat : Ev.sat w' F' q.k m' x' l2) (hmem : atBase w' q.b (vals q.k x' l2))
    (hnd : ((q.b.map (·.1)).toList ++ fp q.k m' x' l2).Nodup)
    (hoth : ∀ n q', n ≠ t → g n = some q' → ∀ b ∈ q'.fp, w'.heap[b]? = w.heap[b]? ∧ ow' b = some n)
    (hown : ∀ b ∈ (q.b.map (·.1)).toList ++ fp q.k m' x' l2, ow' b = some t)
    (hF' : ∀ b, F' b → ow' b = none ∧ b < w'.heap.size) (hlt : ∀ b u, ow' b = some u → b < w'.heap.size)
    (hfree : ∀ b ∈ fp q.k m' x' l2, X.free b) (hFnew : ∀ b, F' b → X.F0 b ∨ X.free b)
    (hkept : ∀ b, b < X.w0.heap.size → ¬ X.hd b → match X.rg b with
      | none => w'.heap[b]? = X.w0.heap[b]?
      | some (o, n) => Rng X.w0 w' b o n)
    (hsize : w.heap.size ≤ w'.heap.size) (hos : w'.os = w.os) (htape : w'.tape = w.tape) (hout : OutLe w w') :
    Rel P X N ((s.soft t p).setR t (some ⟨q.k, m', x', q.mem, q.tmp⟩)) (g.set t (some { q with m := m', x := x', l := l2 })) F' ow' tm w' := by
  refine { root := fun n => ?_, slot := fun n => (h.slot n).mapTo fun c v hc => hc.resetS hg hs ho he hF hFw, sat := fun n q' hq => ?_, mem := fun n q' hq => ?_, mb := fun n q' hq => ?_, ho := fun n q' hq b hb => ?_, nd := fun n q' hq => ?_, hF := hF', lt := hlt, own := fun n q' hq => ?_, bl := fun n q' hq => ?_, F0 := fun b hb => hF b (h.F0 b hb), Fnew := hFnew, kept := hkept, size := Nat.le_trans h.size hsize, os := hos.trans h.os, tape := htape.trans h.tape, out := hout.trans h.out, sz := h.sz, big := fun n hn => ?_ }
  · by_cases hn : n = t
    · subst hn; simp [St.setR, Gs.set, GR.rt]
    · simp [St.setR, beq_ne hn, Gs.set, hn, St.soft, h.root n]
  · by_cases hn : n = t
    · subst hn; rw [Gs.set_self] at hq; injection hq with hq; subst hq; exact hsat
    · rw [Gs.set_ne _ _ hn] at hq
      refine sat_frame (h.sat n q' hq) (fun b hb => ?_) hF
      rcases hb with hb | hb
      · exact (hoth n q' hn hq b (by simp only [GR.fp, GR.fpi, List.mem_append]; exact .inr hb)).1
      · exact hFw b hb
  · by_cases hn : n = t
    · subst hn; rw [Gs.set_self] at hq; injection hq with hq; subst hq; exact hmem
    · rw [Gs.set_ne _ _ hn] at hq
      exact fun c o e => (h.mem n q' hq c o e).frame (hoth n q' hn hq c (by simp [GR.fp, e])).1
  · by_cases hn : n = t
    · subst hn; rw [Gs.set_self] at hq; injection hq with hq; subst hq; exact h.mb n q hg
    · rw [Gs.set_ne _ _ hn] at hq; exact h.mb n q' hq
  · by_cases hn : n = t
    · subst hn; rw [Gs.set_self] at hq; injection hq with hq; subst hq; exact hown b hb
    · rw [Gs.set_ne _ _ hn] at hq; exact (hoth n q' hn hq b hb).2
  · by_cases hn : n = t
    · subst hn; rw [Gs.set_self] at hq; injection hq with hq; subst hq; exact hnd
    · rw [Gs.set_ne _ _ hn] at hq; exact h.nd n q' hq
  · by_cases hn : n = t
    · subst hn; rw [Gs.set_self] at hq; injection hq with hq; subst hq; exact ⟨hfree, (h.own n q hg).2⟩
    · rw [Gs.set_ne _ _ hn] at hq; exact h.own n q' hq
  · by_cases hn : n = t
    · subst hn; rw [Gs.set_self] at hq; injection hq with hq; subst hq; exact h.bl n q hg
    · rw [Gs.set_ne _ _ hn] at hq; exact h.bl n q' hq
  · simp only [St.setR, St.soft, h.big n hn, PV.map, Pc.soft]
theorem Rel.backS (h : Rel P X N s g F ow tm w) {w' : World} {F2 A : Nat → Prop} {t : Nat} {p : List Stp} {q : GR} (hg : g t = some q) {k : K} {m : Mk} {xo x' : T k} {lx l' : L k} {cb : Option (Nat × Nat)} (hgat : q.at p = some ⟨k, m, xo, lx, cb⟩)
    {kk : Mk → T q.k → Option R} (hr : Ct.set q.k q.m q.x p ⟨k, m, x'⟩ kk = some r)
    (hF : ∀ b, F b → F2 b) (hn : ∀ b, F2 b → F b ∨ (w.heap.size ≤ b ∧ b < w'.heap.size) ∨ A b)
    (hA : ∀ c, A c → (ow c = none ∧ X.free c ∧ ¬ F c ∧ c < w.heap.size) ∨ c ∈ fp k m xo lx) (hold : ∀ c, c < w.heap.size → ¬ A c → w'.heap[c]? = w.heap[c]?)
    (hs : Ev.sat w' F2 k m x' l') (hv : vals k x' l' = vals k xo lx)
    (hnd : (fp k m x' l').Nodup) (hap : ∀ c ∈ fp k m x' l', ¬ F2 c ∧ (w.heap.size ≤ c ∨ A c))
    (hz : w.heap.size ≤ w'.heap.size) (hos : w'.os = w.os) (htp : w'.tape = w.tape) (hou : OutLe w w') :
    ∃ m' y g2 ow2, kk m' y = some r ∧ Rel P X N ((s.soft t p).setR t (some { q.rt with m := m', x := y })) g2 F2 ow2 tm w' ∧ (∀ c, c ∉ fp k m x' l' → (w.heap.size ≤ c ∨ A c) → ow2 c = none) := by
  obtain ⟨m', x2, l2, ⟨h1, hgs⟩, H⟩ := set_same (c := ⟨k, m, x'⟩) l' hr hgat
  have hqnd := h.nd t q hg
  have hqnd' : (q.b.map (·.1)).toList.Nodup ∧ (fp q.k q.m q.x q.l).Nodup ∧ ∀ b ∈ (q.b.map (·.1)).toList, ∀ c ∈ fp q.k q.m q.x q.l, b ≠ c := by
    simpa [GR.fp, GR.fpi, List.nodup_append] using hqnd
  have hin : ∀ c ∈ fp q.k q.m q.x q.l, ow c = some t := fun c hc => h.ho t q hg c (by simp only [GR.fp, GR.fpi, List.mem_append]; exact .inr hc)
  have hbin : ∀ c o, q.b = some (c, o) → ow c = some t := fun c o e => h.ho t q hg c (by simp [GR.fp, e])
  have holdfp : ∀ c ∈ fp k m xo lx, c ∈ fp q.k q.m q.x q.l := gat_fp hgat
  have hnFt : ∀ c, ow c = some t → ¬ F c := fun c hc hF => by rw [(h.hF c hF).1] at hc; cases hc
  have hAo : ∀ c u, ow c = some u → c ∉ fp k m xo lx → ¬ A c := fun c u hc hn hA' => by
    rcases hA c hA' with ⟨e, _⟩ | e
    · rw [e] at hc; cases hc
    · exact hn e
  have hAF : ∀ c, F c → ¬ A c := fun c hc hA' => by
    rcases hA c hA' with ⟨_, _, e, _⟩ | e
    · exact e hc
    · exact hnFt c (hin c (holdfp c e)) hc
  -- of the new parts: those that the root had before are of the old content
  have hfoo : ∀ c ∈ fp k m x' l', ∀ u, ow c = some u → c ∈ fp k m xo lx := fun c hc u hu => by
    rcases (hap c hc).2 with e | e
    · have := h.lt c u hu; omega
    · rcases hA c e with ⟨e, _⟩ | e
      · rw [e] at hu; cases hu
      · exact e
  have Z := H w w' F F2
    { eq := hv, sat := h.sat t q hg
      nd := hqnd'.2.1, nF := fun c hc => hnFt c (hin c hc)
      same := fun c hc hco => hold c (by
          rcases hc with hc | hc
          · exact h.lt c t (hin c hc)
          · exact (h.hF c hc).2) (by
          rcases hc with hc | hc
          · exact hAo c t (hin c hc) hco
          · exact hAF c hc)
      sat' := hs
      apart := fun c hc hc' => hfoo c hc t (hin c hc')
      nd' := hnd, le := hF }
  have hmem : atBase w' q.b (vals q.k x2 l2) := fun c o e => by
    rw [Z.eq]
    have hc := hbin c o e
    exact (h.mem t q hg c o e).frame (hold c (h.lt c t hc) (hAo c t hc fun hc' => hqnd'.2.2 c (by simp [e]) c (holdfp c hc') rfl))
  have hgone : ∀ c ∈ fp k m xo lx, c ∈ fp q.k m' x2 l2 → c ∈ fp k m x' l' := gset_gone hgs hgat hqnd'.2.1
  refine ⟨m', x2, _, owAdd (owSub ow (fp k m xo lx)) (fp k m x' l') t, h1, h.resetS hg hgs hgat hv hF (fun c hc => hold c (h.hF c hc).2 (hAF c hc)) Z.sat hmem ?_ ?_ ?_ ?_ ?_ ?_ ?_ ?_ hz hos htp hou, ?_⟩
  · rw [List.nodup_append]
    refine ⟨hqnd'.1, Z.nd, ?_⟩
    rintro c hc c2 hc2 rfl
    rcases Z.fp c hc2 with e | e
    · exact hqnd'.2.2 c hc c e rfl
    · have hoc : ow c = some t := h.ho t q hg c (by simp only [GR.fp, List.mem_append]; exact .inl hc)
      exact hqnd'.2.2 c hc c (holdfp c (hfoo c e t hoc)) rfl
  · intro n q' hnt hq c hc
    have hoc := h.ho n q' hq c hc
    have hco : c ∉ fp k m xo lx := fun e => by have := hin c (holdfp c e); rw [hoc] at this; injection this with this; exact hnt this
    refine ⟨hold c (h.lt c n hoc) (hAo c n hoc hco), ?_⟩
    rw [owAdd_not (fun e => hco (hfoo c e n hoc)), owSub_not hco]
    exact hoc
  · intro c hc
    rw [List.mem_append] at hc
    by_cases hcn : c ∈ fp k m x' l'
    · exact owAdd_mem hcn
    · rw [owAdd_not hcn]
      rcases hc with hc | hc
      · have hoc : ow c = some t := h.ho t q hg c (by simp only [GR.fp, List.mem_append]; exact .inl hc)
        rw [owSub_not (fun e => hqnd'.2.2 c hc c (holdfp c e) rfl)]
        exact hoc
      · rcases Z.fp c hc with e | e
        · rw [owSub_not (fun e' => hcn (hgone c e' hc))]
          exact hin c e
        · exact absurd e hcn
  · intro c hc
    have hcn : c ∉ fp k m x' l' := fun e => (hap c e).1 hc
    rw [owAdd_not hcn]
    rcases hn c hc with e | ⟨e1, e2⟩ | e
    · refine ⟨?_, Nat.lt_of_lt_of_le (h.hF c e).2 hz⟩
      unfold owSub; split
      · rfl
      · exact (h.hF c e).1
    · refine ⟨?_, e2⟩
      unfold owSub; split
      · rfl
      · cases e : ow c with
        | none => rfl
        | some u => have := h.lt c u e; omega
    · rcases hA c e with ⟨a1, _, _, a4⟩ | e
      · refine ⟨?_, Nat.lt_of_lt_of_le a4 hz⟩
        unfold owSub; split
        · rfl
        · exact a1
      · exact ⟨owSub_mem e, Nat.lt_of_lt_of_le (h.lt c t (hin c (holdfp c e))) hz⟩
  · intro c u hc
    by_cases hcn : c ∈ fp k m x' l'
    · exact fp_lt hs c hcn
    · rw [owAdd_not hcn] at hc
      exact Nat.lt_of_lt_of_le (h.lt c u (owSub_le _ c u hc)) hz
  · intro c hc
    rcases Z.fp c hc with e | e
    · exact (h.own t q hg).1 c e
    · rcases (hap c e).2 with e' | e'
      · exact .inl (Nat.le_trans h.size e')
      · rcases hA c e' with ⟨_, a2, _⟩ | e2
        · exact a2
        · exact (h.own t q hg).1 c (holdfp c e2)
  · intro c hc
    rcases hn c hc with e | ⟨e1, _⟩ | e
    · exact h.Fnew c e
    · exact .inr (.inl (Nat.le_trans h.size e1))
    · rcases hA c e with ⟨_, a2, _⟩ | e2
      · exact .inr a2
      · exact .inr ((h.own t q hg).1 c (holdfp c e2))
  · intro c hc hhd
    have hk0 := h.kept c hc hhd
    have hA' : ¬ A c := fun hA' => by
      rcases hA c hA' with ⟨_, a2, _⟩ | e2
      · exact a2.elim (fun h => by omega) hhd
      · exact ((h.own t q hg).1 c (holdfp c e2)).elim (fun h => by omega) hhd
    have e := hold c (Nat.lt_of_lt_of_le hc h.size) hA'
    cases hrg : X.rg c with
    | none => rw [hrg] at hk0; simp only at hk0 ⊢; rw [e]; exact hk0
    | some y =>
      rw [hrg] at hk0
      obtain ⟨cs, tt, fr, cs', k1, k2, k3, k4⟩ := hk0
      exact ⟨cs, tt, fr, cs', k1, by rw [e]; exact k2, k3, k4⟩
  · intro c hc1 hc2
    rw [owAdd_not hc1]
    unfold owSub; split
    · rfl
    · rename_i hco
      rcases hc2 with e | e
      · cases e' : ow c with
        | none => rfl
        | some u => have := h.lt c u e'; omega
      · rcases hA c e with ⟨a1, _⟩ | e
        · exact a1
        · exact absurd e hco
end
end Go.Proofs.YthlnjkcpdkjipaaDoor.Ev

/- Calls. -/
namespace Go.Proofs.YthlnjkcpdkjipaaDoor.Ev
section
variable {P : Program} {X : Cx} {N : Nat} {a : Act} {s : St} {g : Gs} {F : Nat → Prop} {ow : Nat → Option Nat} {w : World} {R : Type} {r : R} {tm : Array Value} {E : Env}
  {o : Oper} {next : Act → World → Prop} {Q : Exit → Act → World → Prop} {kk : St → Option R}
theorem resPcs_al {q : GR} {d : Nat} (hg : g d = some q) : ∀ (rs : List (K × Mk)) (x : Rs rs) (l : L (resK rs)) (b : Option (Nat × Nat)) (p : List Stp → List Stp), Ev.sat w F (resK rs) (resM rs) x l →
    (∀ path, q.at (p path) = gat (resK rs) (resM rs) x l b path) →
    (resPcs d rs x p).length = (resVals rs x l).length ∧ ∀ (i : Nat) (c : Pc) (u : Value), (resPcs d rs x p)[i]? = some c → (resVals rs x l)[i]? = some u → PcOk P g F w c u
  | [], _, _, _, _, _, _ => ⟨rfl, fun i c u h => by simp [resPcs] at h⟩
  | y :: rs, x, l, b, p, hs, hp => by
    have hs1 := hs.1
    have hs2 := hs.2
    simp only [resM, Mk.mkp_l] at hs1
    simp only [resM, Mk.mkp_r] at hs2
    obtain ⟨h1, h2⟩ := resPcs_al hg rs x.2 l.2 (mv b y.1.size) (fun q => p (.snd :: q)) hs2 (fun path => by rw [hp]; simp only [resK, resM, gat, Mk.mkp_r])
    refine ⟨by simp [resPcs, resVals, h1], fun i c u hi hu => ?_⟩
    cases i with
    | zero =>
      simp only [resPcs, resVals, List.getElem?_cons_zero, Option.some.injEq] at hi hu
      subst hi; subst hu
      cases hc : y.2.clear with
      | true =>
        simp only [cond_true]
        exact ⟨l.1, sat_clear hc hs1, rfl⟩
      | false =>
        simp only [cond_false]
        refine ⟨q, ⟨y.1, (resM (y :: rs)).l, x.1, l.1, b⟩, hg, ?_, rfl⟩
        rw [hp]
        simp [resK, gat]
    | succ i =>
      simp only [resPcs, resVals, List.getElem?_cons_succ] at hi hu
      exact h2 i c u hi hu
def tmAt (d : Option Nat) (tm : Array Value) (v : Value) : Array Value := match d with | none => tm | some d => tm.setIfInBounds d v
theorem giveAll_ok (h : Rel P X N s g F ow tm w) {d : Option Nat} (hd : ∀ dd, d = some dd → dd < N) {rs : List (K × Mk)} {x : Rs rs} {l : L (resK rs)} (ht : Taken X F ow w (resK rs) (resM rs) x l)
    (hr : giveAll s d rs x kk = some r) : ∃ s' g' ow', kk s' = some r ∧ Rel P X N s' g' F ow' (tmAt d tm (resVal rs x l)) w := by
  cases d with
  | none => exact ⟨s, g, ow, hr, h⟩
  | some d =>
    have hd := hd d rfl
    have multi : ∀ (rs : List (K × Mk)) (x : Rs rs) (l : L (resK rs)), Taken X F ow w (resK rs) (resM rs) x l →
        cond (allClear rs) (kk (s.put d (.tup (resPcs d rs x id)))) (kk (((s.drop d).setR d (some ⟨resK rs, resM rs, x, false, true⟩)).put d (.tup (resPcs d rs x id)))) = some r →
        ∃ s' g' ow', kk s' = some r ∧ Rel P X N s' g' F ow' (tm.setIfInBounds d (.tuple (resVals rs x l).toArray)) w := by
      intro rs x l ht hr
      cases hc : allClear rs with
      | true =>
        rw [hc] at hr
        obtain ⟨h1, h2⟩ := resPcs_ok (P := P) (g := g) rs d x l id hc (sat_clear (resM_clear hc) ht.sat)
        exact ⟨_, g, ow, hr, h.put hd ⟨_, rfl, h1.symm, h2⟩⟩
      | false =>
        rw [hc] at hr
        have h1 := h.newV (d := d) ht true
        obtain ⟨e1, e2⟩ := resPcs_al (P := P) (w := w) (F := F) (Gs.set_self (g.set d none) d (some ⟨resK rs, resM rs, x, false, true, l, none⟩)) rs x l none id ht.sat (fun _ => rfl)
        exact ⟨_, _, _, hr, h1.put hd ⟨_, rfl, e1.symm, e2⟩⟩
    match rs, x, l, ht, hr with
    | [], x, l, ht, hr => exact multi [] x l ht hr
    | [y], x, l, ht, hr =>
      have hs := ht.sat.1
      simp only [resM, Mk.mkp_l] at hs
      have hfp : fp (resK [y]) (resM [y]) x l = fp y.1 y.2 x.1 l.1 := by simp [resK, resM, fp, Mk.mkp_l]
      have ht' : Taken X F ow w y.1 y.2 x.1 l.1 := ⟨hs, by rw [← hfp]; exact ht.nd, by rw [← hfp]; exact ht.no⟩
      obtain ⟨g2, ow2, h2⟩ := h.give hd ht'
      exact ⟨_, g2, ow2, hr, h2⟩
    | y :: z :: rs, x, l, ht, hr => exact multi (y :: z :: rs) x l ht hr
theorem nodup_tags {ins : List Pm} {cs : List Pc} (h : argsApart ins cs = true) : nodup (tagsOf ins cs).2 = true ∧ ∀ t ∈ (tagsOf ins cs).1, t ∉ (tagsOf ins cs).2 := by
  simp only [argsApart, Bool.and_eq_true, List.all_eq_true, Bool.not_eq_true', List.elem_eq_mem, decide_eq_false_iff_not] at h
  exact h
theorem argBs_sub {ts : List Nat} : ∀ {ins : List Pm} {x : Ps ins} {l : PL ins} {b : Nat}, b ∈ mpFp ins x l → b ∈ argFp ins x l
  | [], _, _, _, h => by cases h
  | .val _ :: ps, x, l, b, h => argBs_sub (ts := ts) (ins := ps) (x := x.2) (l := l.2) h
  | .fn _ _ :: ps, x, l, b, h => argBs_sub (ts := ts) (ins := ps) (x := x.2) (l := l) h
  | .rp _ :: ps, x, l, b, h => argBs_sub (ts := ts) (ins := ps) (x := x.2) (l := l.2) h
  | .mov k m :: ps, x, l, b, h => List.mem_append.2 (.inr (argBs_sub (ts := ts) (ins := ps) (x := x.2) (l := l.2) h))
  | .mptr k m :: ps, x, l, b, h => by
    simp only [argFp, mpFp, List.mem_append] at h ⊢
    exact h.imp id fun h => argBs_sub (ts := ts) (ins := ps) h
  | .chg k m :: ps, x, l, b, h => by
    simp only [argFp, mpFp, List.mem_append] at h ⊢
    exact h.imp id fun h => argBs_sub (ts := ts) (ins := ps) h
theorem shU8_res : ∀ {rs : List (K × Mk)}, allSh rs = true → shU8 (resK rs) (resM rs) = true
  | [], _ => rfl
  | r :: rs, h => by
    simp only [allSh, Bool.and_eq_true] at h
    simp only [resK, resM, shU8, Mk.mkp_l, Mk.mkp_r, Bool.and_eq_true]
    exact ⟨h.1, shU8_res h.2⟩
theorem sat_sh {w' : World} {F' Ln : Nat → Prop} (h3 : ∀ b o, F' b → Unf w' b o → F' b ∧ ¬ Ln b) (h4 : ∀ b, Ln b → ∃ (cs : Array Value) (e : TypeId) (fr : Nat × Nat), w'.heap[b]? = some (.cells cs e fr) ∧ ∀ (j : Nat) (v : Value), cs[j]? = some v → u8V v = false) :
    ∀ {k : K} {m : Mk} {x : T k} {l : L k}, shU8 k m = true → Ev.sat w' F' k m x l → Ev.sat w' (fun b => F' b ∧ ¬ Ln b) k m x l
  | .int _, _, _, _, _, _ | .bool, _, _, _, _, _ | .str, _, _, _, _, _ | .unit, _, _, _, _, _ => trivial
  | .pair a b, m, x, l, h, hs => by
    simp only [shU8, Bool.and_eq_true] at h
    exact ⟨sat_sh h3 h4 h.1 hs.1, sat_sh h3 h4 h.2 hs.2⟩
  | .sl k, m, xs, l, h, hs => by
    intro hm
    obtain ⟨⟨q1, q2, q3, q4⟩, q5⟩ := hs hm
    simp only [shU8] at h
    cases ho : m.owns with
    | true =>
      rw [ho] at h q3 q4
      refine ⟨?_, fun i x hx => sat_sh h3 h4 h (q5 i x hx)⟩
      refine ⟨q1, q2, fun b o e => ⟨(q3 b o e).1, fun hx => ⟨(fun hh => by cases hh), ((q3 b o e).2 hx).2⟩⟩, fun hh h0 b o e => ?_⟩
      have := q4 rfl h0 b o e
      exact ⟨h3 b o this.1 this.2, this.2⟩
    | false =>
      rw [ho] at h q3
      have hk : k = .int .u8 := of_decide_eq_true h
      subst hk
      refine ⟨?_, fun i x hx => trivial⟩
      refine ⟨q1, q2, fun b o e => ⟨(fun hh => by cases hh), fun hx => ⟨fun _ => ⟨((q3 b o e).2 hx).1 rfl, fun hL => ?_⟩, ((q3 b o e).2 hx).2⟩⟩, (fun hh => by cases hh)⟩
      obtain ⟨cs, e1, fr, c1, c2⟩ := h4 b hL
      obtain ⟨cs', e2, fr', d1, _, d3⟩ := ((q3 b o e).2 hx).2
      rw [c1] at d1
      injection d1 with d1; injection d1 with d1 _ _
      subst d1
      cases xs with
      | nil => exact hx rfl
      | cons y ys =>
        have := d3 0 y rfl 0 (.int .u8 y) rfl
        have := c2 _ _ this
        cases this
theorem m_call (h : Rel P X N s g F ow a.tmps w) (hE : EnvOk P E) {c : Call} {f : Nat} {sg : Sig} (hd : ∀ dd, o.dst = some dd → dd < N) (ho : o.op = .call c) (hc : c.callee = .value (.func f)) (hsg : E.fns f = some sg)
    (hr : callSig s o.dst sg (opds E s c.args) kk = some r) (hn : ∀ a' w', MOk P X N a o.dst kk r a' w' → next a' w') : o.wp P a w next Q := by
  unfold callSig at hr
  cases hcond : (argsApart sg.ins (opds E s c.args) && (sg.lends (opds E s c.args) && Nat.ble (Pm.outs sg.ins).length 1)) with
  | false => rw [hcond] at hr; cases hr
  | true =>
  rw [hcond] at hr
  simp only [cond_true] at hr
  simp only [Bool.and_eq_true] at hcond
  obtain ⟨hap, hlend, hlen⟩ := hcond
  have hlen := Nat.le_of_ble_eq_true hlen
  obtain ⟨hnd, hdis⟩ := nodup_tags hap
  obtain ⟨xs, pl, l, s', g', ow', Ln, p1, p2, p3, p4, p5, p6, p7, p8, p9, p10, p11⟩ := argsOf_ok h (h.opds hE c.args).weak hnd hr
  unfold bnd at p1
  split at p1
  case h_2 => cases p1
  rename_i rr hrr
  have hS := hE.fns f sg hsg
  have hback := split_one p2 hlen p6 p1
  -- who owns what
  have hLnF : ∀ b, Ln b → ¬ F b := fun b hb hF => by
    obtain ⟨t, _, e⟩ := p7 b hb
    rw [(h.hF b hF).1] at e; cases e
  have hown : ∀ b t, t ∈ (tagsOf sg.ins (opds E s c.args)).2 → ow b = some t → ¬ (F b ∨ Ln b) ∧ b < w.heap.size := fun b t ht hb => by
    refine ⟨?_, h.lt b t hb⟩
    rintro (hF | hL)
    · rw [(h.hF b hF).1] at hb; cases hb
    · obtain ⟨t', e1, e2⟩ := p7 b hL
      rw [hb] at e2; injection e2 with e2; subst e2
      exact hdis t e1 ht
  have hbase : ∀ q ∈ argBs sg.ins l, (∃ t, t ∈ (tagsOf sg.ins (opds E s c.args)).2 ∧ ow q.1 = some t) ∧ q.1 ∉ argFp sg.ins xs l := by
    intro q3 hq3
    cases hback with
    | none a1 a2 a3 a4 => rw [a1] at hq3; cases hq3
    | chg t p q k m xo x' lx b a1 a2 a3 a4 a5 a6 a7 a8 => rw [a4] at hq3; cases hq3
    | one t p q k m xo x' lx b o a1 a2 a3 a4 a5 a6 a7 a8 =>
      rw [a4, List.mem_singleton] at hq3
      subst hq3
      have hwh := set_where a6 a2 (p2.sat t q a1) b o rfl
      have hob : ow' b = some t := by
        refine p2.ho t q a1 b ?_
        simp only [GR.fp, GR.fpi, List.mem_append]
        rcases hwh with ⟨o2, e, _⟩ | e
        · exact .inl (by simp [e])
        · exact .inr e
      refine ⟨⟨t, a3, p3 b t hob⟩, fun hb => ?_⟩
      rcases argFp_or hb with hb | hb
      · rw [(p11 b hb).1] at hob; cases hob
      · rw [a5] at hb
        have hg1 := gat_base a2 (p2.sat t q a1) (p2.nd t q a1)
        simp only [Option.map_some, Option.toList_some, List.singleton_append, List.nodup_cons] at hg1
        exact hg1.1 hb
  have hbs1 : ((argBs sg.ins l).map (·.1)).Nodup := by
    cases hback with
    | none a1 a2 a3 a4 => rw [a1]; exact List.nodup_nil
    | chg t p q k m xo x' lx b a1 a2 a3 a4 a5 a6 a7 a8 => rw [a4]; exact List.nodup_nil
    | one t p q k m xo x' lx b o a1 a2 a3 a4 a5 a6 a7 a8 => rw [a4]; simp
  have hnod : (argFp sg.ins xs l ++ (argBs sg.ins l).map (·.1)).Nodup := by
    rw [List.nodup_append]
    refine ⟨p9, hbs1, ?_⟩
    rintro b hb b2 hb2 rfl
    obtain ⟨q3, hq3, rfl⟩ := List.mem_map.1 hb2
    exact (hbase q3 hq3).2 hb
  have hno : ∀ b ∈ argFp sg.ins xs l ++ (argBs sg.ins l).map (·.1), ¬ (F b ∨ Ln b) ∧ b < w.heap.size := fun b hb => by
    rcases List.mem_append.1 hb with hb | hb
    · obtain ⟨t, e1, e2⟩ := p10 b hb
      exact hown b t e1 e2
    · obtain ⟨q3, hq3, rfl⟩ := List.mem_map.1 hb
      obtain ⟨⟨t, e1, e2⟩, _⟩ := hbase q3 hq3
      exact hown _ t e1 e2
  have hlt : ∀ b, (F b ∨ Ln b) → b < w.heap.size := by
    rintro b (hb | hb)
    · exact (h.hF b hb).2
    · obtain ⟨t, _, e⟩ := p7 b hb
      exact h.lt b t e
  have hbu : ∀ q ∈ argBs sg.ins l, Blk w q.1 fun _ => True := by
    intro q3 hq3
    cases hback with
    | none a1 a2 a3 a4 => rw [a1] at hq3; cases hq3
    | chg t p q k m xo x' lx b a1 a2 a3 a4 a5 a6 a7 a8 => rw [a4] at hq3; cases hq3
    | one t p q k m xo x' lx b o a1 a2 a3 a4 a5 a6 a7 a8 =>
      rw [a4, List.mem_singleton] at hq3
      subst hq3
      exact set_blk a6 a2 (p2.sat t q a1) (p2.mem t q a1) rfl
  have hcalls := hS.2 xs rr hrr w _ l _ p5 hnod hno hlt hbu
  rw [args_list] at hcalls
  simp only [Oper.wp, exec_call ho hc hS.1, Oper.upon]
  refine hcalls.mono fun e w' he => ?_
  obtain ⟨F', lr, lo, rfl, L⟩ := he
  simp only
  -- what is fixed afterwards
  have hkeep : ∀ b, Ln b → w'.heap[b]? = w.heap[b]? := fun b hb => by
    obtain ⟨t, e1, e2⟩ := p7 b hb
    refine L.old b (h.lt b t e2) (fun hb' => ?_) (fun q3 hq3 e => ?_)
    · obtain ⟨t', f1, f2⟩ := p10 b hb'
      rw [e2] at f2; injection f2 with f2; subst f2
      exact hdis t e1 f1
    · obtain ⟨⟨t', f1, f2⟩, _⟩ := hbase q3 hq3
      rw [e, e2] at f2; injection f2 with f2; subst f2
      exact hdis t e1 f1
  have hfe : (fullRes sg.res = true ∧ fullRes (Pm.outs sg.ins) = true ∧ ∀ b o, F' b → Unf w' b o → F' b ∧ ¬ Ln b) ∨ ((∀ b, ¬ Ln b) ∨ (allSh sg.res = true ∧ allSh (Pm.outs sg.ins) = true ∧ (∀ b o, F' b → Unf w' b o → F' b ∧ ¬ Ln b) ∧ ∀ b, Ln b → ∃ (cs : Array Value) (e : TypeId) (fr : Nat × Nat), w'.heap[b]? = some (.cells cs e fr) ∧ ∀ (j : Nat) (v : Value), cs[j]? = some v → u8V v = false)) := by
    simp only [Sig.lends, Bool.or_eq_true, Bool.and_eq_true] at hlend
    have hunf : Pm.solid sg.ins = true → ∀ b o, F' b → Unf w' b o → F' b ∧ ¬ Ln b := fun h3 b o hF ⟨cs, e, fr, c1, _, _, c2⟩ => ⟨hF, fun hL => by
      obtain ⟨cs', e', fr', d1, d2, _⟩ := p8 h3 b hL
      rw [hkeep b hL, d1] at c1
      injection c1 with c1; injection c1 with c1 _ _
      subst c1
      exact d2 c2⟩
    rcases hlend with ⟨⟨h1, h2⟩, h3⟩ | h1 | ⟨⟨h1, h2⟩, h3, h4⟩
    · exact .inl ⟨h1, h2, hunf h3⟩
    rotate_left
    · refine .inr (.inr ⟨h1, h2, hunf h3, fun b hL => ?_⟩)
      obtain ⟨cs', e', fr', d1, _, d3⟩ := p8 h3 b hL
      exact ⟨cs', e', fr', by rw [hkeep b hL]; exact d1, d3 h4⟩
    · refine .inr (.inl fun b hb => ?_)
      obtain ⟨t, e1, _⟩ := p7 b hb
      rw [List.isEmpty_iff.1 h1] at e1
      cases e1
  have hres : Ev.sat w' (fun b => F' b ∧ ¬ Ln b) (resK sg.res) (resM sg.res) rr.1 lr := by
    rcases hfe with ⟨h1, _, h3⟩ | h1 | ⟨h1, _, h3, h4⟩
    · have := L.res
      rw [resM_full h1] at this ⊢
      exact sat_full h3 this
    · exact sat_frame L.res (fun _ _ => rfl) (fun b hb => ⟨hb, h1 b⟩)
    · exact sat_sh h3 h4 (shU8_res h1) L.res
  have hle : ∀ b, F b → F' b ∧ ¬ Ln b := fun b hb => ⟨L.le b (.inl hb), fun hL => hLnF b hL hb⟩
  have hnew : ∀ b, (F' b ∧ ¬ Ln b) → F b ∨ (w.heap.size ≤ b ∧ b < w'.heap.size) ∨ b ∈ argFp sg.ins xs l := by
    rintro b ⟨h1, h2⟩
    rcases L.new b h1 with h1 | h1
    · exact h1.elim .inl (fun e => absurd e h2)
    · exact .inr h1
  have hresnd := (List.nodup_append.1 L.nd).1
  have fin : ∀ (s2 : St) (g2 : Gs) (ow2 : Nat → Option Nat), Rel P X N s2 g2 (fun b => F' b ∧ ¬ Ln b) ow2 a.tmps w' → giveAll s2 o.dst sg.res rr.1 kk = some r →
      (∀ b ∈ fp (resK sg.res) (resM sg.res) rr.1 lr, ow2 b = none ∧ X.free b) → next (a.put o.dst (resVal sg.res rr.1 lr)) w' := by
    intro s2 g2 ow2 h2 hr2 ho2
    obtain ⟨s3, g3, ow3, k1, k2⟩ := giveAll_ok h2 hd ⟨hres, hresnd, fun b hb => ⟨(ho2 b hb).1, fun hF => (L.apart b (List.mem_append.2 (.inl hb))).1 hF.1, fp_lt hres b hb, (ho2 b hb).2⟩⟩ hr2
    refine hn _ _ ⟨put_keeps a _ _, s3, g3, fun b => F' b ∧ ¬ Ln b, ow3, k1, ?_⟩
    have : (a.put o.dst (resVal sg.res rr.1 lr)).tmps = tmAt o.dst a.tmps (resVal sg.res rr.1 lr) := by cases o.dst <;> rfl
    rw [this]
    exact k2
  cases hback with
  | none a1 a2 a3 a4 =>
    have hAm : ∀ b ∈ argFp sg.ins xs l, ow' b = none ∧ X.free b := fun b hb => by
      rcases argFp_or hb with hb | hb
      · exact p11 b hb
      · rw [a2] at hb; cases hb
    have hb0 := p2.back0 (A := fun b => b ∈ argFp sg.ins xs l) hle hnew (fun b hb => ⟨(hAm b hb).1, (hAm b hb).2, fun hF => (hno b (List.mem_append.2 (.inl hb))).1 (.inl hF), (hno b (List.mem_append.2 (.inl hb))).2⟩)
      (fun b h1 h2 => L.old b h1 h2 (fun q hq => by rw [a1] at hq; cases hq)) L.size L.os L.tape L.out
    refine fin s' g' ow' hb0 a4 fun b hb => ?_
    rcases (L.apart b (List.mem_append.2 (.inl hb))).2 with e | e
    · refine ⟨?_, .inl (Nat.le_trans h.size e)⟩
      cases e' : ow' b with
      | none => rfl
      | some t => have := p2.lt b t e'; omega
    · exact hAm b e
  | one t p q k m xo x' lx b o3 a1 a2 a3 a4 a5 a6 a7 a8 =>
    obtain ⟨l', b1, b2, b3⟩ := a7 w' F' lo L.outs
    have hnd2 := L.nd
    rw [b3, a4] at hnd2
    have hap2 := L.apart
    rw [b3] at hap2
    have hsx : Ev.sat w' (fun b => F' b ∧ ¬ Ln b) k m x' l' := by
      rcases hfe with ⟨_, h2, h3⟩ | h1 | ⟨_, h2, h3, h4⟩
      · rw [a8.1 h2] at b1 ⊢
        exact sat_full h3 b1
      · exact sat_frame b1 (fun _ _ => rfl) (fun b hb => ⟨hb, h1 b⟩)
      · exact sat_sh h3 h4 (a8.2 h2) b1
    simp only [List.nodup_append, List.map_cons, List.map_nil, List.mem_append, List.mem_singleton] at hnd2
    obtain ⟨_, ⟨n1, _, n2⟩, n3⟩ := hnd2
    have hq := p2.own t q a1
    obtain ⟨m', y, g2, ow2, c1, c2, c3⟩ := p2.back1 (F2 := fun b => F' b ∧ ¬ Ln b) (A := fun b => b ∈ argFp sg.ins xs l) a1 a2 a6 hle hnew
      (fun c hc => by
        rcases argFp_or hc with hc' | hc'
        · exact .inl ⟨(p11 c hc').1, (p11 c hc').2, fun hF => (hno c (List.mem_append.2 (.inl hc))).1 (.inl hF), (hno c (List.mem_append.2 (.inl hc))).2⟩
        · rw [a5] at hc'; exact .inr hc')
      (fun c h1 h2 h3 => L.old c h1 h2 (fun q hq => by rw [a4, List.mem_singleton] at hq; subst hq; exact fun e => h3 e.symm))
      (L.rng (b, o3, k.size) (by rw [a4]; simp)) hsx (b2 b o3 rfl) n1 (fun hb => n2 b hb b rfl rfl)
      (fun c hc => ⟨fun hF => (hap2 c (List.mem_append.2 (.inr hc))).1 hF.1, (hap2 c (List.mem_append.2 (.inr hc))).2⟩) L.size L.os L.tape L.out
    refine fin _ g2 ow2 c2 c1 fun c hc => ⟨c3 c (fun hc' => n3 c hc c (.inl hc') rfl) (hap2 c (List.mem_append.2 (.inl hc))).2, ?_⟩
    rcases (hap2 c (List.mem_append.2 (.inl hc))).2 with e | e
    · exact .inl (Nat.le_trans h.size e)
    · rcases argFp_or e with e | e
      · exact (p11 c e).2
      · rw [a5] at e
        exact hq.1 c (gat_fp a2 c e)
  | chg t p q k m xo x' lx b a1 a2 a3 a4 a5 a6 a7 a8 =>
    obtain ⟨l', b1, b2, b3⟩ := a7 w' F' lo L.outs
    have hnd2 := L.nd
    rw [b3, a4] at hnd2
    have hap2 := L.apart
    rw [b3] at hap2
    have hsx : Ev.sat w' (fun b => F' b ∧ ¬ Ln b) k m x' l' := by
      rcases hfe with ⟨_, h2, h3⟩ | h1 | ⟨_, h2, h3, h4⟩
      · rw [a8.1 h2] at b1 ⊢
        exact sat_full h3 b1
      · exact sat_frame b1 (fun _ _ => rfl) (fun b hb => ⟨hb, h1 b⟩)
      · exact sat_sh h3 h4 (a8.2 h2) b1
    simp only [List.map_nil, List.append_nil, List.nodup_append] at hnd2
    obtain ⟨_, n1, n3⟩ := hnd2
    have hq := p2.own t q a1
    obtain ⟨m', y, g2, ow2, c1, c2, c3⟩ := p2.backS (F2 := fun b => F' b ∧ ¬ Ln b) (A := fun b => b ∈ argFp sg.ins xs l) a1 a2 a6 hle hnew
      (fun c hc => by
        rcases argFp_or hc with hc' | hc'
        · exact .inl ⟨(p11 c hc').1, (p11 c hc').2, fun hF => (hno c (List.mem_append.2 (.inl hc))).1 (.inl hF), (hno c (List.mem_append.2 (.inl hc))).2⟩
        · rw [a5] at hc'; exact .inr hc')
      (fun c h1 h2 => L.old c h1 h2 (fun q hq => by rw [a4] at hq; cases hq)) hsx b2 n1
      (fun c hc => ⟨fun hF => (hap2 c (List.mem_append.2 (.inr hc))).1 hF.1, (hap2 c (List.mem_append.2 (.inr hc))).2⟩) L.size L.os L.tape L.out
    refine fin _ g2 ow2 c2 c1 fun c hc => ⟨c3 c (fun hc' => n3 c hc c hc' rfl) (hap2 c (List.mem_append.2 (.inl hc))).2, ?_⟩
    rcases (hap2 c (List.mem_append.2 (.inl hc))).2 with e | e
    · exact .inl (Nat.le_trans h.size e)
    · rcases argFp_or e with e | e
      · exact (p11 c e).2
      · rw [a5] at e
        exact hq.1 c (gat_fp a2 c e)
theorem gat_whole : ∀ {p : List Stp} {k : K} {m : Mk} {x : T k} {l : L k} {b : Option (Nat × Nat)} {c : GC}, gat k m x l b p = some c → m.whole = true → c.m.whole = true
  | [], k, m, x, l, b, c, h, hm => by simp [gat] at h; subst h; exact hm
  | s :: p, k, m, x, l, b, c, h, hm => by
    cases k <;> cases s <;> simp only [gat] at h <;> first | (cases h; done) | skip
    · exact gat_whole h (by cases m <;> simp_all [Mk.whole, Mk.l])
    · exact gat_whole h (by cases m <;> simp_all [Mk.whole, Mk.r])
    · split at h
      · cases h
      split at h
      · exact gat_whole h (by cases m <;> simp_all [Mk.whole, Mk.inner])
      · cases h
theorem gat_in : ∀ {p : List Stp} {k : K} {m : Mk} {x : T k} {l : L k} {base : Option (Nat × Nat)} {c : GC}, gat k m x l base p = some c → Ev.sat w F k m x l → ∀ b o, c.b = some (b, o) →
    (∃ o', base = some (b, o')) ∨ b ∈ fp k m x l ∨ F b
  | [], k, m, x, l, base, c, h, hs, b, o, e => by simp [gat] at h; subst h; exact .inl ⟨o, e⟩
  | s :: p, k, m, x, l, base, c, h, hs, b, o, e => by
    cases k <;> cases s <;> simp only [gat] at h <;> first | (cases h; done) | skip
    · rcases gat_in h hs.1 b o e with h1 | h1 | h1
      · exact .inl h1
      · exact .inr (.inl (by simp only [fp, List.mem_append]; exact .inl h1))
      · exact .inr (.inr h1)
    · rcases gat_in h hs.2 b o e with ⟨o', h1⟩ | h1 | h1
      · obtain ⟨o2, h2, _⟩ := mv_some h1
        exact .inl ⟨o2, h2⟩
      · exact .inr (.inl (by simp only [fp, List.mem_append]; exact .inr h1))
      · exact .inr (.inr h1)
    · split at h
      · cases h
      rename_i hm
      split at h
      · rename_i y hy
        obtain ⟨⟨h1, h2, h3, _⟩, h4⟩ := hs hm
        have hlen := (List.getElem?_eq_some_iff.1 hy).1
        have hne : x ≠ [] := by rintro rfl; simp at hlen
        rcases gat_in h (h4 _ y hy) b o e with ⟨o', q1⟩ | q1 | q1
        · obtain ⟨o2, q2, _⟩ := mv_some q1
          cases ho : m.owns with
          | false => exact .inr (.inr (((h3 b o2 q2).2 hne).1 ho))
          | true =>
            refine .inr (.inl ?_)
            simp only [fp, ho, if_true, List.mem_append]
            exact .inl (mem_own1.2 ⟨by omega, o2, q2⟩)
        · cases ho : m.owns with
          | false => rw [Mk.inner_s ho, fp_clear rfl] at q1; cases q1
          | true =>
            refine .inr (.inl ?_)
            simp only [fp, ho, if_true, List.mem_append]
            exact .inr (mem_fpL.2 ⟨_, y, hy, q1⟩)
        · exact .inr (.inr q1)
      · cases h
theorem Rel.share (h : Rel P X N s g F ow tm w) {t : Nat} {q : GR} (hg : g t = some q) (hm : q.m.whole = true) (hlo : X.lo ≤ t) :
    Rel P X N (s.shareR t q.rt) (g.set t none) (fun b => F b ∨ b ∈ q.fp) (owDrop ow t) tm w := by
  have hF : ∀ b, F b → (F b ∨ b ∈ q.fp) := fun b hb => .inl hb
  have hin : ∀ b ∈ q.fp, ow b = some t := h.ho t q hg
  refine { root := fun n => ?_, slot := fun n => (h.slot n).mapTo fun c v hc => ?_, sat := fun n q' hq => ?_, mem := fun n q' hq => ?_, mb := fun n q' hq => ?_, ho := fun n q' hq b hb => ?_, nd := fun n q' hq => ?_, hF := fun b hb => ?_, lt := fun b u hb => h.lt b u (owDrop_some hb).1, own := fun n q' hq => ?_, bl := fun n q' hq => ?_, F0 := fun b hb => .inl (h.F0 b hb), Fnew := fun b hb => ?_, kept := h.kept, size := h.size, os := h.os, tape := h.tape, out := h.out, sz := h.sz, big := fun n hn => by simp only [St.shareR, h.big n hn, PV.map, Pc.share] }
  · by_cases hn : n = t
    · subst hn; simp [St.shareR, Gs.set]
    · simp [St.shareR, beq_ne hn, Gs.set, hn, h.root n]
  · have key : ∀ (u : Nat), u ≠ t → (g.set t none) u = g u := fun u hu => Gs.set_ne g none hu
    cases c with
    | al u p =>
      by_cases hu : u = t
      · subst hu
        simp only [Pc.share, Nat.beq_refl, cond_true]
        obtain ⟨q', c, h1, h2, h3⟩ := hc
        rw [hg] at h1
        injection h1 with h1
        subst h1
        have hat : Ct.at q.rt.k q.rt.m q.rt.x p (fun c => some c) = some c.ct := gat_at h2
        rw [hat]
        have hcm := gat_whole h2 hm
        have hs := gat_sat h2 (h.sat u q hg)
        refine ⟨c.l, sat_frame (sat_lend hcm hs) (fun _ _ => rfl) (fun z hz => hz.imp id fun hz => ?_), h3⟩
        simp only [GR.fp, GR.fpi, List.mem_append]; exact .inr (gat_fp h2 z hz)
      · simp only [Pc.share, beq_ne hu, cond_false]
        obtain ⟨q', z, h1, h2⟩ := hc
        exact ⟨q', z, by rw [key u hu]; exact h1, h2⟩
    | vw u p lo n =>
      by_cases hu : u = t
      · subst hu
        simp only [Pc.share, Nat.beq_refl, cond_true]
        obtain ⟨q', k, m, xs, l, b0, h1, h2, h3, ad, cap, h4, h5, h6, h7, h8⟩ := hc
        rw [hg] at h1
        injection h1 with h1
        subst h1
        have hat : Ct.at q.rt.k q.rt.m q.rt.x p (fun c => some c) = some ⟨.sl k, m, xs⟩ := gat_at h2
        rw [hat]
        have hcm : m.whole = true := gat_whole h2 hm
        have hs := gat_sat h2 (h.sat u q hg)
        have hmd : m ≠ .d := by rintro rfl; cases hcm
        refine ⟨((ad, cap), fun i => l.2 (lo + i)), sat_frame (satV_lend hcm (sat_sub hmd hs.V h3 h5 h6 h7 h8.1)) (fun _ _ => rfl) (fun z hz => hz.imp id fun hz => ?_), ?_⟩
        · simp only [GR.fp, GR.fpi, List.mem_append]; exact .inr (gat_fp h2 z (fp_sub h6 h7 z hz))
        · rw [h4]
          simp only [valOf]
          rw [show ((List.drop lo xs).take n).length = n by simp; omega]
      · simp only [Pc.share, beq_ne hu, cond_false]
        obtain ⟨q', k, m, xs, l, b, h1, h2⟩ := hc
        exact ⟨q', k, m, xs, l, b, by rw [key u hu]; exact h1, h2⟩
    | ptr u p =>
      by_cases hu : u = t
      · subst hu
        simp only [Pc.share, Nat.beq_refl, cond_true]
        obtain ⟨q', c, ⟨b, o⟩, h1, h2, h3, h4⟩ := hc
        rw [hg] at h1
        injection h1 with h1
        subst h1
        have hat : Ct.at q.rt.k q.rt.m q.rt.x p (fun c => some c) = some c.ct := gat_at h2
        rw [hat]
        have hcm := gat_whole h2 hm
        have hs := gat_sat h2 (h.sat u q hg)
        refine ⟨c.l, b, o, sat_frame (sat_lend hcm hs) (fun _ _ => rfl) (fun z hz => hz.imp id fun hz => ?_), ?_, gat_mem h2 (h.sat u q hg) (h.mem u q hg) b o h3, h4⟩
        · simp only [GR.fp, GR.fpi, List.mem_append]; exact .inr (gat_fp h2 z hz)
        · rcases gat_in h2 (h.sat u q hg) b o h3 with ⟨o', e⟩ | e | e
          · exact .inr (by simp [GR.fp, e])
          · exact .inr (by simp only [GR.fp, GR.fpi, List.mem_append]; exact .inr e)
          · exact .inl e
      · simp only [Pc.share, beq_ne hu, cond_false]
        obtain ⟨q', z, y, h1, h2⟩ := hc
        exact ⟨q', z, y, by rw [key u hu]; exact h1, h2⟩
    | v k x => exact PcOk.frame (c := .v k x) hc (fun _ _ => rfl) hF
    | sp k x => exact PcOk.frame (c := .sp k x) hc (fun _ _ => rfl) hF
    | nil0 => exact PcOk.frame (c := .nil0) hc (fun _ _ => rfl) hF
    | fv i o f => exact PcOk.frame (c := .fv i o f) hc (fun _ _ => rfl) hF
    | bad => trivial
    | unk => exact hc
  all_goals
    first
    | (by_cases hn : n = t
       · subst hn; rw [Gs.set_self] at hq; cases hq
       · rw [Gs.set_ne _ _ hn] at hq
         first | exact sat_frame (h.sat n q' hq) (fun _ _ => rfl) hF | exact h.mem n q' hq | exact h.mb n q' hq | exact h.nd n q' hq | exact h.own n q' hq | exact h.bl n q' hq | (have := h.ho n q' hq b hb; simp [owDrop, this, hn]))
    | skip
  · rcases hb with hb | hb
    · exact ⟨by unfold owDrop; split; rfl; exact (h.hF b hb).1, (h.hF b hb).2⟩
    · exact ⟨by simp [owDrop, hin b hb], h.lt b t (hin b hb)⟩
  · rcases hb with hb | hb
    · exact h.Fnew b hb
    · refine .inr ?_
      simp only [GR.fp, GR.fpi, List.mem_append] at hb
      rcases hb with hb | hb
      · cases hqb : q.b with
        | none => rw [hqb] at hb; cases hb
        | some z =>
          rw [hqb] at hb
          simp only [Option.map_some, Option.toList_some, List.mem_singleton] at hb
          subst hb
          exact h.bl t q hg hlo z.1 z.2 hqb
      · exact (h.own t q hg).1 b hb
theorem Rel.lendC (h : Rel P X N s g F ow tm w) {t : Nat} {q : GR} (hg : g t = some q) (hm : q.m.whole = true) :
    Rel P X N { slot := fun n => (s.slot n).map (Pc.lendC t), root := fun n => cond (Nat.beq n t) (some { q.rt with m := .s }) (s.root n) } (g.set t (some { q with m := .s })) (fun b => F b ∨ b ∈ q.fpi) (fun b => if b ∈ q.fpi then none else ow b) tm w := by
  have hF : ∀ b, F b → (F b ∨ b ∈ q.fpi) := fun b hb => .inl hb
  have hfp : ∀ b, b ∈ q.fpi → b ∈ q.fp := fun b hb => by simp only [GR.fp, List.mem_append]; exact .inr hb
  have hin : ∀ b ∈ q.fp, ow b = some t := h.ho t q hg
  have hnd := h.nd t q hg
  have h0 : GR.fpi { q with m := .s } = [] := by show fp q.k .s q.x q.l = []; exact fp_clear rfl
  have hother : ∀ n q', g n = some q' → n ≠ t → ∀ b ∈ q'.fp, b ∉ q.fpi := fun n q' hq hn b hb hb2 => by
    have e1 := h.ho n q' hq b hb
    have e2 := hin b (hfp b hb2)
    rw [e1] at e2
    exact hn (Option.some.inj e2)
  refine { root := fun n => ?_, slot := fun n => (h.slot n).mapTo fun c v hc => ?_, sat := fun n q' hq => ?_, mem := fun n q' hq => ?_, mb := fun n q' hq => ?_, ho := fun n q' hq b hb => ?_, nd := fun n q' hq => ?_, hF := fun b hb => ?_, lt := fun b u hb => ?_, own := fun n q' hq => ?_, bl := fun n q' hq => ?_, F0 := fun b hb => .inl (h.F0 b hb), Fnew := fun b hb => ?_, kept := h.kept, size := h.size, os := h.os, tape := h.tape, out := h.out, sz := h.sz, big := fun n hn => ?_ }
  · by_cases hn : n = t
    · subst hn; simp [Gs.set, GR.rt]
    · simp [beq_ne hn, Gs.set, hn, h.root n]
  · have key : ∀ (u : Nat), u ≠ t → (g.set t (some { q with m := .s })) u = g u := fun u hu => Gs.set_ne g _ hu
    cases c with
    | al u p =>
      by_cases hu : u = t
      · subst hu; simp only [Pc.lendC, Nat.beq_refl, cond_true]; trivial
      · simp only [Pc.lendC, beq_ne hu, cond_false]
        obtain ⟨q', z, h1, h2⟩ := hc
        exact ⟨q', z, by rw [key u hu]; exact h1, h2⟩
    | vw u p lo n =>
      by_cases hu : u = t
      · subst hu; simp only [Pc.lendC, Nat.beq_refl, cond_true]; trivial
      · simp only [Pc.lendC, beq_ne hu, cond_false]
        obtain ⟨q', k, m, xs, l, b, h1, h2⟩ := hc
        exact ⟨q', k, m, xs, l, b, by rw [key u hu]; exact h1, h2⟩
    | ptr u p =>
      by_cases hu : u = t
      · subst hu
        cases p with
        | nil =>
          simp only [Pc.lendC]
          obtain ⟨q', c, y, h1, h2, h3, h4⟩ := hc
          rw [hg] at h1
          injection h1 with h1
          subst h1
          simp [GR.at, gat] at h2
          subst h2
          exact ⟨_, ⟨q.k, .s, q.x, q.l, q.b⟩, y, Gs.set_self g _ _, by simp only [GR.at, gat], h3, h4⟩
        | cons e p => simp only [Pc.lendC, Nat.beq_refl, cond_true]; trivial
      · have : Pc.lendC t (.ptr u p) = .ptr u p := by cases p <;> simp only [Pc.lendC, beq_ne hu, cond_false]
        rw [this]
        obtain ⟨q', z, y, h1, h2⟩ := hc
        exact ⟨q', z, y, by rw [key u hu]; exact h1, h2⟩
    | v k x => exact PcOk.frame (c := .v k x) hc (fun _ _ => rfl) hF
    | sp k x => exact PcOk.frame (c := .sp k x) hc (fun _ _ => rfl) hF
    | nil0 => exact PcOk.frame (c := .nil0) hc (fun _ _ => rfl) hF
    | fv i o f => exact PcOk.frame (c := .fv i o f) hc (fun _ _ => rfl) hF
    | bad => trivial
    | unk => exact hc
  · by_cases hn : n = t
    · subst hn; rw [Gs.set_self] at hq; injection hq with hq; subst hq
      exact sat_frame (sat_lend hm (h.sat n q hg)) (fun _ _ => rfl) fun _ h => h
    · rw [Gs.set_ne _ _ hn] at hq; exact sat_frame (h.sat n q' hq) (fun _ _ => rfl) hF
  · by_cases hn : n = t
    · subst hn; rw [Gs.set_self] at hq; injection hq with hq; subst hq; exact h.mem n q hg
    · rw [Gs.set_ne _ _ hn] at hq; exact h.mem n q' hq
  · by_cases hn : n = t
    · subst hn; rw [Gs.set_self] at hq; injection hq with hq; subst hq; exact h.mb n q hg
    · rw [Gs.set_ne _ _ hn] at hq; exact h.mb n q' hq
  · by_cases hn : n = t
    · subst hn; rw [Gs.set_self] at hq; injection hq with hq; subst hq
      simp only [GR.fp, h0, List.append_nil] at hb
      have hb2 : b ∉ q.fpi := fun e => by
        simp only [GR.fp, List.nodup_append] at hnd
        exact hnd.2.2 b hb b e rfl
      simp only [if_neg hb2]
      exact hin b (by simp only [GR.fp, List.mem_append]; exact .inl hb)
    · rw [Gs.set_ne _ _ hn] at hq
      simp only [if_neg (hother n q' hq hn b hb)]
      exact h.ho n q' hq b hb
  · by_cases hn : n = t
    · subst hn; rw [Gs.set_self] at hq; injection hq with hq; subst hq
      simp only [GR.fp, List.nodup_append] at hnd
      simp only [GR.fp, h0, List.append_nil]
      exact hnd.1
    · rw [Gs.set_ne _ _ hn] at hq; exact h.nd n q' hq
  · rcases hb with hb | hb
    · exact ⟨by split; rfl; exact (h.hF b hb).1, (h.hF b hb).2⟩
    · exact ⟨by simp only [if_pos hb], h.lt b t (hin b (hfp b hb))⟩
  · split at hb
    · cases hb
    · exact h.lt b u hb
  · by_cases hn : n = t
    · subst hn; rw [Gs.set_self] at hq; injection hq with hq; subst hq
      exact ⟨fun b hb => by rw [h0] at hb; (cases hb), (h.own n q hg).2⟩
    · rw [Gs.set_ne _ _ hn] at hq; exact h.own n q' hq
  · by_cases hn : n = t
    · subst hn; rw [Gs.set_self] at hq; injection hq with hq; subst hq; exact h.bl n q hg
    · rw [Gs.set_ne _ _ hn] at hq; exact h.bl n q' hq
  · rcases hb with hb | hb
    · exact h.Fnew b hb
    · exact .inr ((h.own t q hg).1 b hb)
  · show (s.slot n).map (Pc.lendC t) = _
    rw [h.big n hn]; rfl
theorem lendC_ok (h : Rel P X N s g F ow tm w) (t : Nat) : ∃ g' F' ow', Rel P X N (s.lendC t) g' F' ow' tm w := by
  unfold St.lendC
  cases hr : s.root t with
  | none => exact ⟨g, F, ow, h⟩
  | some r =>
    obtain ⟨q, hg, rfl⟩ := h.rootOf hr
    dsimp only
    cases hc : q.rt.m.whole with
    | false => exact ⟨g, F, ow, h⟩
    | true => exact ⟨_, _, _, h.lendC hg hc⟩
theorem lendR_ok (hlo : X.lo ≤ E.lo) (h : Rel P X N s g F ow tm w) (t : Nat) : ∃ g' F' ow', Rel P X N (s.lendR E.lo t) g' F' ow' tm w := by
  unfold St.lendR
  cases hr : s.root t with
  | none => exact ⟨g, F, ow, h⟩
  | some r =>
    obtain ⟨q, hg, rfl⟩ := h.rootOf hr
    dsimp only
    cases hc : (q.rt.m.whole && (!q.rt.m.clear && Nat.ble E.lo t)) with
    | false => exact ⟨g, F, ow, h⟩
    | true =>
      simp only [Bool.and_eq_true] at hc
      exact ⟨_, _, _, h.share hg hc.1 (Nat.le_trans hlo (Nat.le_of_ble_eq_true hc.2.2))⟩
theorem lendS_ok (hlo : X.lo ≤ E.lo) (h : Rel P X N s g F ow tm w) (d : Nat) : ∃ g' F' ow', Rel P X N (s.lendS E.lo d) g' F' ow' tm w := by
  unfold St.lendS
  split <;> first | exact lendR_ok hlo h _ | exact ⟨g, F, ow, h⟩
theorem lendF_ok (hlo : X.lo ≤ E.lo) (h : Rel P X N s g F ow tm w) (d : Nat) : ∃ g' F' ow', Rel P X N (s.lendF E.lo d) g' F' ow' tm w := by
  unfold St.lendF
  split <;> first | exact lendR_ok hlo h _ | exact ⟨g, F, ow, h⟩ | skip
  rename_i t _ _
  cases hr : s.root t with
  | none => exact ⟨g, F, ow, h⟩
  | some r =>
    obtain ⟨q, hg, rfl⟩ := h.rootOf hr
    dsimp only
    cases hc : (q.rt.m.whole && (q.rt.m.clear && Nat.ble E.lo t)) with
    | false => exact lendC_ok h t
    | true =>
      simp only [Bool.and_eq_true] at hc
      exact ⟨_, _, _, h.share hg hc.1 (Nat.le_trans hlo (Nat.le_of_ble_eq_true hc.2.2))⟩
theorem frz_ok (hlo : X.lo ≤ E.lo) : ∀ (ds : List Nat) {s : St} {g : Gs} {F : Nat → Prop} {ow : Nat → Option Nat}, Rel P X N s g F ow tm w → ∃ g' F' ow', Rel P X N (s.frz E.lo ds) g' F' ow' tm w
  | [], s, g, F, ow, h => ⟨g, F, ow, h⟩
  | d :: ds, s, g, F, ow, h => by
    obtain ⟨g', F', ow', h2⟩ := lendF_ok hlo h d
    exact frz_ok hlo ds h2
theorem endS_ok (hlo : X.lo ≤ E.lo) : ∀ (vs : List ResultVar) (rs : List (K × Mk)) {s : St} {g : Gs} {F : Nat → Prop} {ow : Nat → Option Nat}, Rel P X N s g F ow tm w → ∃ g' F' ow', Rel P X N (endS E.lo vs rs s) g' F' ow' tm w
  | [], rs, s, g, F, ow, h => ⟨g, F, ow, by unfold endS; exact h⟩
  | v :: vs, [], s, g, F, ow, h => ⟨g, F, ow, by cases v <;> exact h⟩
  | v :: vs, (k, m) :: rs, s, g, F, ow, h => by
    have key : ∀ n, ∃ g' F' ow', Rel P X N (cond m.clear (s.lendS E.lo n) s) g' F' ow' tm w := fun n => by
      cases m.clear with
      | true => exact lendS_ok hlo h n
      | false => exact ⟨g, F, ow, h⟩
    cases v with
    | tmp n => obtain ⟨g', F', ow', h2⟩ := key n; exact endS_ok hlo vs rs h2
    | cell n t => obtain ⟨g', F', ow', h2⟩ := key n; exact endS_ok hlo vs rs h2
theorem shareAll_ok (hlo : E.lo = X.lo) : ∀ {xs : List Operand} {s : St} {g : Gs} {F : Nat → Prop} {ow : Nat → Option Nat} {kk : St → Option R}, Rel P X N s g F ow tm w → shareAll E.lo xs s kk = some r →
    ∃ s' g' F' ow', kk s' = some r ∧ Rel P X N s' g' F' ow' tm w
  | [], s, g, F, ow, kk, h, hr => ⟨s, g, F, ow, hr, h⟩
  | x :: xs, s, g, F, ow, kk, h, hr => by
    simp only [shareAll] at hr
    split at hr
    · rename_i t p ht
      split at hr
      · rename_i rt hrt
        obtain ⟨q, hg, rfl⟩ := h.rootOf hrt
        cases hc : (q.rt.m.whole && Nat.ble E.lo t) with
        | false => rw [hc] at hr; cases hr
        | true =>
          rw [hc] at hr
          simp only [cond_true] at hr
          simp only [Bool.and_eq_true] at hc
          exact shareAll_ok hlo (h.share hg hc.1 (hlo ▸ Nat.le_of_ble_eq_true hc.2)) hr
      · cases hr
    · exact shareAll_ok hlo h hr
theorem m_makeFunc (h : Rel P X N s g F ow a.tmps w) (hE : EnvOk P E) (hlo : E.lo = X.lo) {d : Nat} (hd : d < N) {f : Nat} {first caps : Array Operand} (ho : o.op = .makeFunc (.func f) first caps) (hdst : o.dst = some d)
    (hr : cond (Nat.beq first.size 0) (match E.fns f with
      | some sg => shareAll E.lo caps.toList s fun s => kk (s.put d (.one (fvWord sg (caps.toList.map s.opd))))
      | none => none) none = some r) (hn : ∀ a' w', MOk P X N a o.dst kk r a' w' → next a' w') : o.wp P a w next Q := by
  cases hz : Nat.beq first.size 0 with
  | false => rw [hz] at hr; cases hr
  | true =>
  rw [hz] at hr
  simp only [cond_true] at hr
  have hfirst : first = #[] := Array.eq_empty_of_size_eq_zero (Nat.eq_of_beq_eq_true hz)
  subst hfirst
  split at hr
  case h_2 => cases hr
  rename_i sg hsg
  obtain ⟨s', g', F', ow', h1, h2⟩ := shareAll_ok (tm := a.tmps) (w := w) hlo h hr
  have hcs : ∀ l : List Operand, PcsOk P g' F' w (l.map s'.opd) (l.map a.eval) := by
    intro l
    induction l with
    | nil => exact .nil
    | cons x l ih => exact .cons (h2.opd x) ih
  have hw := fvWord_ok (hE.fns f sg hsg) (hcs caps.toList)
  have he : (execOp a.eval o).run P w = .ok (.value (.func (.func f) #[] (caps.toList.map a.eval).toArray)) w := by
    simp only [execOp, ho, Instr.makeFunc, Sem.run_bind, Sem.run_pure, Result.andThen_ok]
    rw [show (#[] : Array Operand).map a.eval = #[] by simp, show caps.map a.eval = (caps.toList.map a.eval).toArray by apply Array.ext'; simp]
  refine wp_val he (hn _ _ ⟨put_keeps a _ _, ?_⟩)
  rw [put_tmps a hdst]
  exact ⟨_, g', F', ow', h1, h2.put hd hw⟩
end
end Go.Proofs.YthlnjkcpdkjipaaDoor.Ev
