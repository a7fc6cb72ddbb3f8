/- A verified evaluator of typed functions, part 4. Nothing of the program is in it. -/
import Derived.Test.YtpegmiofhfmepaaEv3
set_option linter.all false
/- One step of a region: what it comes to, and on what it hangs. -/
set_option linter.all false
namespace Go.Proofs.Ytpegmiofhfmepaa.Ev

theorem det_evM (E : Env) (s : St) (o : Oper) : DetF (fun R (f : St → Option R) => evM E s o f) := by
  unfold evM
  cases o.dst with
  | none =>
    cases o.op <;> (try dsimp only) <;> first | exact DetF.none | skip
    case store t a x =>
      cases E.ty t with
      | none => exact DetF.none
      | some k =>
      dsimp only
      refine DetF.cond _ DetF.none ?_
      cases s.opd a <;> first | exact DetF.none | skip
      rename_i u p
      have hx : ∀ x, DetF (fun R (f : St → Option R) => s.take x fun c s => if c.k = k then (match s.root u with
              | some r => Ct.set r.k r.m r.x p c fun m y => f ((s.kill u p).setR u (some { r with m := m, x := y }))
              | none => none) else none) := fun x => by
        refine det_take2 fun c s => DetF.ite _ ?_ DetF.none
        cases s.root u with
        | none => exact DetF.none
        | some r => exact det_set2 fun m y => DetF.pure _
      dsimp only
      cases s.opd x <;> first | exact hx _ | skip
      cases k <;> first | exact DetF.none | skip
      dsimp only
      cases s.root u with
      | none => exact DetF.none
      | some r => exact det_set2 fun m y => DetF.pure _
    case call c =>
      cases c.callee <;> first | exact DetF.none | skip
      rename_i f
      cases f <;> first | exact DetF.none | skip
      rename_i f
      dsimp only
      cases E.fns f with
      | none => exact DetF.none
      | some sg => exact det_callSig fun s => DetF.pure _
  | some d =>
    cases o.op <;> (try dsimp only) <;> first | exact DetF.none | skip
    case assign x =>
      cases s.opd x <;> first | exact DetF.none | skip
      · rename_i u p
        dsimp only
        cases s.root u with
        | none => exact DetF.none
        | some r =>
        refine DetF.cond _ ?_ (DetF.pure _)
        cases p with
        | nil => exact DetF.cond _ (DetF.pure _) (DetF.pure _)
        | cons e p => exact det_take2 fun c s => DetF.pure _
      · dsimp only
        cases E.hint d with
        | none => exact DetF.pure _
        | some h =>
        obtain ⟨k, m⟩ := h
        cases k <;> first | exact DetF.none | exact DetF.cond _ (DetF.pure _) (DetF.pure _)
    case alloc t =>
      cases E.ty t with
      | none => exact DetF.none
      | some k => exact DetF.pure _
    case box t x =>
      cases E.ty t with
      | none => exact DetF.none
      | some k =>
        have hb : ∀ c, DetF (fun R (f : St → Option R) => boxTake s d k c f) := fun c => det_take2 fun c s => DetF.ite _ (DetF.pure _) DetF.none
        dsimp only
        split
        · rename_i u _
          cases s.root u with
          | none => exact DetF.none
          | some r => exact DetF.cond _ (DetF.ite _ (DetF.pure _) DetF.none) (hb _)
        · exact hb _
    case build t ps =>
      cases E.ty t with
      | none => exact DetF.none
      | some k => exact DetF.cond _ (det_takeAll fun cs s => det_buildAt fun m x => DetF.pure _) DetF.none
    case buildSlice t n ps =>
      cases E.ty t with
      | none => exact DetF.none
      | some k =>
      cases k <;> first | exact DetF.none | skip
      refine DetF.cond _ (det_takeAll fun cs s => ?_) DetF.none
      cases cs with
      | nil => exact DetF.none
      | cons c cs => exact det_sameK fun xs => DetF.pure _
    case convert a b x =>
      cases E.ty a with
      | none => exact DetF.none
      | some ka =>
      cases E.ty b with
      | none => cases ka <;> exact DetF.none
      | some kb =>
      cases ka <;> first | exact DetF.none | skip
      cases kb <;> first | exact DetF.none | skip
      rename_i e
      cases e <;> first | exact DetF.none | skip
      rename_i k
      cases k <;> first | exact DetF.none | skip
      dsimp only
      cases s.opd x <;> first | exact DetF.none | skip
      rename_i k b
      cases k <;> first | exact DetF.none | exact DetF.cond _ (DetF.pure _) (DetF.pure _)
    case makeSlice t l c =>
      cases E.ty t with
      | none => exact DetF.none
      | some k =>
      cases k <;> first | exact DetF.none | skip
      dsimp only
      cases asInt (s.opd l) with
      | none => exact DetF.none
      | some n =>
      cases asInt (s.opd c) with
      | none => exact DetF.none
      | some n' => exact DetF.cond _ DetF.none (DetF.req _ (DetF.pure _))
    case call c =>
      cases c.callee <;> (try dsimp only) <;> first | exact DetF.none | skip
      · rename_i f
        cases f <;> first | exact DetF.none | skip
        rename_i f
        dsimp only
        cases E.fns f with
        | none => exact DetF.none
        | some sg => exact det_callSig fun s => DetF.pure _
      · rename_i b
        cases b <;> first | exact DetF.none | skip
        dsimp only
        cases appTy E c.argTypes with
        | none => exact DetF.none
        | some q =>
        obtain ⟨k, str⟩ := q
        rcases opds s c.args with _ | ⟨x, _ | ⟨y, _ | ⟨z, r⟩⟩⟩ <;> first | exact DetF.none | exact det_appendTo fun s => DetF.pure _

/-- may the operation run? -/
def gdOf (ops : Array Oper) (s : St) (o : Oper) : Option Bool :=
  match o.guard with
  | none => some true
  | some (j, want) => match (ops[j]?).bind (·.dst) with
    | some g => match s.slot g with
      | .one (.v .bool b) => some (b == want)
      | .tup [] => some false
      | _ => none
    | none => none

theorem put_self {s : St} {g : Nat} {pv : PV} (h : s.slot g = pv) : s.put g pv = s := by
  cases s with
  | mk slot root =>
  simp only [St.put, St.mk.injEq, and_true]
  funext n
  by_cases hn : n = g
  · subst hn; simp only [Nat.beq_refl, cond_true]; exact h.symm
  · rw [beq_ne hn]; rfl

theorem step_eq (E : Env) (ops : Array Oper) (o : Oper) (s : St) {R : Type} (f : St → Option R) :
    evOps E ops [o] s f = cond (dstOk E o) (match gdOf ops s o with | some true => evOp E s o f | some false => f (s.dst o.dst (.tup [])) | none => none) none := by
  simp only [evOps]
  cases dstOk E o with
  | false => rfl
  | true =>
  simp only [cond_true, gdOf]
  cases o.guard with
  | none => rfl
  | some jw =>
  obtain ⟨j, want⟩ := jw
  dsimp only
  cases (ops[j]?).bind (·.dst) with
  | none => rfl
  | some g =>
  dsimp only
  cases hs : s.slot g with
  | tup cs => cases cs <;> rfl
  | one c =>
    cases c with
    | v k b =>
      cases k <;> first | rfl | skip
      have hp := put_self hs
      cases b with
      | true =>
        simp only [cond_true]
        rw [show (s.put g (.one (.v .bool true))) = s from hp]
        cases want <;> rfl
      | false =>
        simp only [cond_false]
        rw [show (s.put g (.one (.v .bool false))) = s from hp]
        cases want <;> rfl
    | _ => rfl

theorem det_evOp (E : Env) (s : St) (o : Oper) : DetF (fun R (f : St → Option R) => evOp E s o f) :=
  DetF.cond _ (DetF.bind (det_evQ E s o) (H := fun pv R f => f (s.dst o.dst pv)) fun pv => DetF.pure _) (det_evM E s o)

theorem det_step (E : Env) (ops : Array Oper) (o : Oper) (s : St) : DetF (fun R (f : St → Option R) => evOps E ops [o] s f) := by
  have h : DetF (fun R (f : St → Option R) => cond (dstOk E o) (match gdOf ops s o with | some true => evOp E s o f | some false => f (s.dst o.dst (.tup [])) | none => none) none) := by
    refine DetF.cond _ ?_ DetF.none
    cases gdOf ops s o with
    | none => exact DetF.none
    | some b => cases b <;> first | exact DetF.pure _ | exact det_evOp E s o
  rcases h with ⟨x, hx⟩ | hx
  · exact .inl ⟨x, fun R f => (step_eq E ops o s f).trans (hx R f)⟩
  · exact .inr fun R f => (step_eq E ops o s f).trans (hx R f)

end Go.Proofs.Ytpegmiofhfmepaa.Ev

/- Steps that stand in no order to each other can be swapped. -/
set_option linter.all false
namespace Go.Proofs.Ytpegmiofhfmepaa.Ev

/-- always quiet -/
def kindQ (E : Env) (o : Oper) : Bool :=
  match o.op with
  | .move _ | .pick .. | .load .. | .nilCheck _ | .binOp .. | .unOp .. | .slice .. | .fieldAddr .. | .field .. | .indexAddr .. | .index .. | .extract .. => true
  | .buildSlice _ n _ => Nat.beq n 0
  | .convert _ b _ => match E.ty b with
    | some (.sl _) => false
    | _ => true
  | .call c => match c.callee with
    | .builtin b => match b with
      | .len | .min | .max => true
      | _ => false
    | .value (.func f) => match E.fns f with
      | some sg => sg.quiet
      | none => false
    | _ => false
  | _ => false
/-- never quiet, and of a kind whose frame is known -/
def kindM (E : Env) (o : Oper) : Bool :=
  match o.op with
  | .buildSlice _ n _ => !Nat.beq n 0
  | .build .. => true
  | .store .. => true
  | .call c => match c.callee with
    | .value (.func f) => match E.fns f with
      | some sg => !sg.quiet
      | none => false
    | _ => false
  | _ => false

theorem kindQ_quiet {E : Env} {o : Oper} (h : kindQ E o = true) (s : St) : quiet E s o = true := by
  obtain ⟨dst, op, type, pos, after, guard⟩ := o
  unfold kindQ at h
  unfold quiet
  cases op <;> dsimp only at h ⊢ <;> first | rfl | (cases h; done) | exact h | skip
  rename_i c
  cases hc : c.callee with
  | value f => rw [hc] at h; cases f <;> dsimp only at h ⊢ <;> first | (cases h; done) | exact h
  | builtin b => rw [hc] at h; exact h
  | invoke _ _ => rw [hc] at h; cases h

theorem kindM_quiet {E : Env} {o : Oper} (h : kindM E o = true) (s : St) : quiet E s o = false := by
  obtain ⟨dst, op, type, pos, after, guard⟩ := o
  unfold kindM at h
  unfold quiet
  cases op <;> dsimp only at h ⊢ <;> first | rfl | (cases h; done) | skip
  · rename_i t n ps
    cases hb : Nat.beq n 0 with
    | true => rw [hb] at h; cases h
    | false => rfl
  · rename_i c
    cases hc : c.callee with
    | value f =>
      rw [hc] at h
      cases f <;> dsimp only at h ⊢ <;> first | (cases h; done) | skip
      rename_i f
      cases hf : E.fns f with
      | none => rfl
      | some sg => rw [hf] at h; simp only [Bool.not_eq_true'] at h; exact h
    | builtin b => rw [hc] at h; cases h
    | invoke _ _ => rfl

/-- the frame of an operation that changes roots -/
theorem fr_evM {E : Env} {o : Oper} (h : kindM E o = true) (s0 : St) {U : Nat → Prop} (hU : ∀ x ∈ o.op.operands, ∀ t ∈ opdTags s0 x, U t) (hd : ∀ d, o.dst = some d → U d) :
    (∃ (pv : PV) (K : Pc → Pc) (rt2 : Nat → Option Rt), Fix K U ∧ (∀ t, ¬ U t → rt2 t = s0.root t) ∧ ∀ σ, (∀ t, Operand.tmp t ∈ o.op.operands → σ t = s0.slot t) → ∀ (R : Type) (f : St → Option R), evM E ⟨σ, s0.root⟩ o f = f ⟨fun n => if o.dst = some n then pv else (σ n).map K, rt2⟩) ∨
    ∀ σ, (∀ t, Operand.tmp t ∈ o.op.operands → σ t = s0.slot t) → ∀ (R : Type) f, evM E ⟨σ, s0.root⟩ o f = (none : Option R) := by
  have fin : ∀ {F : St → (R : Type) → (St → Option R) → Option R}, FrS F s0.root o.dst U → (∀ σ, (∀ t, Operand.tmp t ∈ o.op.operands → σ t = s0.slot t) → ∀ (R : Type) (f : St → Option R), evM E ⟨σ, s0.root⟩ o f = F ⟨σ, s0.root⟩ R f) →
      (∃ (pv : PV) (K : Pc → Pc) (rt2 : Nat → Option Rt), Fix K U ∧ (∀ t, ¬ U t → rt2 t = s0.root t) ∧ ∀ σ, (∀ t, Operand.tmp t ∈ o.op.operands → σ t = s0.slot t) → ∀ (R : Type) (f : St → Option R), evM E ⟨σ, s0.root⟩ o f = f ⟨fun n => if o.dst = some n then pv else (σ n).map K, rt2⟩) ∨
      ∀ σ, (∀ t, Operand.tmp t ∈ o.op.operands → σ t = s0.slot t) → ∀ (R : Type) f, evM E ⟨σ, s0.root⟩ o f = (none : Option R) := by
    intro F hF hE
    rcases hF with ⟨pv, K, rt2, h1, h2, h3⟩ | h0
    · exact .inl ⟨pv, K, rt2, h1, h2, fun σ hσ R f => (hE σ hσ R f).trans (h3 σ R f)⟩
    · exact .inr fun σ hσ R f => (hE σ hσ R f).trans (h0 σ R f)
  have opd : ∀ σ, (∀ t, Operand.tmp t ∈ o.op.operands → σ t = s0.slot t) → ∀ x ∈ o.op.operands, St.opd ⟨σ, s0.root⟩ x = s0.opd x := fun σ hσ x hx => by
    cases x with
    | tmp t => simp only [St.opd, hσ t hx]
    | _ => rfl
  have tag : ∀ x ∈ o.op.operands, ∀ t, tagOf (s0.opd x) = some t → U t := fun x hx t ht => hU x hx t (tags_of_opd ht)
  obtain ⟨dst, op, type, pos, after, guard⟩ := o
  dsimp only at *
  unfold kindM at h
  have none' : ∀ {F : St → (R : Type) → (St → Option R) → Option R} {d : Option Nat}, (∀ s R f, F s R f = none) → FrS F s0.root d U := fun hF => .inr fun σ R f => hF _ _ _
  cases op <;> dsimp only at h <;> first | (cases h; done) | skip
  case build t ps =>
    cases dst with
    | none => exact .inr fun σ hσ R f => rfl
    | some d =>
      cases ht : E.ty t with
      | none => exact .inr fun σ hσ R f => by simp only [evM, ht]
      | some k =>
        refine fin (FrS.cond k.isStruct (fr_build (k := k) (is := ps.toList.map (·.1)) (cs := ps.toList.map fun x => s0.opd x.2) (fun c hc u hu => ?_) (hd d rfl))) fun σ hσ R f => ?_
        · obtain ⟨q, hq, rfl⟩ := List.mem_map.1 hc
          exact tag q.2 (by simp only [Op.operands]; simp; exact ⟨q.1, by simpa using hq⟩) u hu
        · simp only [evM, ht]
          have : (ps.toList.map fun x => St.opd ⟨σ, s0.root⟩ x.2) = ps.toList.map fun x => s0.opd x.2 := List.map_congr_left fun q hq => opd σ hσ q.2 (by simp only [Op.operands]; simp; exact ⟨q.1, by simpa using hq⟩)
          rw [this]
  case buildSlice t n ps =>
    cases dst with
    | none => exact .inr fun σ hσ R f => rfl
    | some d =>
      cases ht : E.ty t with
      | none => exact .inr fun σ hσ R f => by simp only [evM, ht]
      | some k =>
      cases k with
      | sl k =>
        refine fin (FrS.cond (Nat.beq ps.size n && ((ps.toList.map (·.1)) == List.range n && (Nat.ble (n * k.size) 1000 && Nat.ble 1 k.size))) (fr_buildSlice (k := k) (cs := ps.toList.map fun x => s0.opd x.2) (fun c hc u hu => ?_) (hd d rfl))) fun σ hσ R f => ?_
        · obtain ⟨q, hq, rfl⟩ := List.mem_map.1 hc
          exact tag q.2 (by simp only [Op.operands]; simp; exact ⟨q.1, by simpa using hq⟩) u hu
        · simp only [evM, ht]
          have : (ps.toList.map fun x => St.opd ⟨σ, s0.root⟩ x.2) = ps.toList.map fun x => s0.opd x.2 := List.map_congr_left fun q hq => opd σ hσ q.2 (by simp only [Op.operands]; simp; exact ⟨q.1, by simpa using hq⟩)
          rw [this]
          rfl
      | _ => exact .inr fun σ hσ R f => by simp only [evM, ht]
  case store t a x =>
    cases dst with
    | some d => exact .inr fun σ hσ R f => rfl
    | none =>
      have ha : a ∈ (Op.store t a x).operands := by simp [Op.operands]
      have hx : x ∈ (Op.store t a x).operands := by simp [Op.operands]
      cases ht : E.ty t with
      | none => exact .inr fun σ hσ R f => by simp only [evM, ht]
      | some k =>
      cases hz : Nat.beq k.size 0 with
      | true => exact .inr fun σ hσ R f => by simp only [evM, ht, hz, cond_true]
      | false =>
      have hnp : (∀ u p, s0.opd a ≠ .ptr u p) → ∀ σ, (∀ t', Operand.tmp t' ∈ (Op.store t a x).operands → σ t' = s0.slot t') → ∀ (R : Type) (f : St → Option R), evM E ⟨σ, s0.root⟩ ⟨none, .store t a x, type, pos, after, guard⟩ f = (none : Option R) := fun hne σ hσ R f => by
        simp only [evM, ht, hz, cond_false]
        rw [opd σ hσ a ha]
        generalize s0.opd a = y at hne
        cases y <;> first | rfl | exact absurd rfl (hne _ _)
      by_cases hpx : ∃ u p, s0.opd a = .ptr u p
      case neg => exact .inr (hnp fun u p e => hpx ⟨u, p, e⟩)
      obtain ⟨u, p, hpa⟩ := hpx
      have hu : U u := tag a ha u (by rw [hpa]; rfl)
      have hxx : ∀ t', tagOf (s0.opd x) = some t' → U t' := tag x hx
      by_cases hn : s0.opd x = .nil0
      · by_cases hks : ∃ k', k = .sl k'
        · obtain ⟨k', rfl⟩ := hks
          refine fin (F := fun s R f => match s.root u with
                | some r => Ct.set r.k r.m r.x p ⟨.sl k', Mk.full (.sl k'), []⟩ fun m y => f ((s.kill u p).setR u (some { r with m := m, x := y }))
                | none => none) (fr_root (G := fun r s R f => Ct.set r.k r.m r.x p ⟨.sl k', Mk.full (.sl k'), []⟩ fun m y => f ((s.kill u p).setR u (some { r with m := m, x := y }))) fun r => ?_) fun σ hσ R f => by
            simp only [evM, ht, hz, cond_false]
            rw [opd σ hσ a ha, opd σ hσ x hx, hpa, hn]
            rfl
          exact FrS.detf (F := fun R f => Ct.set r.k r.m r.x p ⟨.sl k', Mk.full (.sl k'), []⟩ fun m y => f (⟨m, y⟩ : (Σ _ : Mk, T r.k))) (G := fun z s R f => f ((s.kill u p).setR u (some { r with m := z.1, x := z.2 }))) (det_set _ _ _ _ _) fun z => fr_setR (G := fun s R f => f s) hu fun rt3 => fr_same
        · exact .inr fun σ hσ R f => by
            simp only [evM, ht, hz, cond_false]
            rw [opd σ hσ a ha, opd σ hσ x hx, hpa, hn]
            dsimp only
            cases k <;> first | rfl | exact absurd ⟨_, rfl⟩ hks
      · refine fin (fr_store (k := k) (p := p) hu hxx) fun σ hσ R f => ?_
        simp only [evM, ht, hz, cond_false]
        rw [opd σ hσ a ha, opd σ hσ x hx, hpa]
        generalize s0.opd x = y at hn
        cases y <;> first | exact absurd rfl hn | rfl
  case call c =>
    have hargs : ∀ x ∈ c.args, x ∈ (Op.call c).operands := fun x hx => by simp [Op.operands, Call.operands, hx]
    have hops : ∀ p ∈ opds s0 c.args, ∀ t, tagOf p = some t → U t := fun p hp t ht => by
      simp only [opds, List.mem_map] at hp
      obtain ⟨x, hx, rfl⟩ := hp
      exact tag x (hargs x (by simpa using hx)) t ht
    have hcs : ∀ σ, (∀ t, Operand.tmp t ∈ (Op.call c).operands → σ t = s0.slot t) → opds ⟨σ, s0.root⟩ c.args = opds s0 c.args := fun σ hσ => opds_congr fun x hx => opd σ hσ x (hargs x hx)
    cases hcal : c.callee with
    | invoke _ _ => rw [hcal] at h; cases h
    | builtin b => rw [hcal] at h; cases h
    | value f =>
      rw [hcal] at h
      cases f <;> dsimp only at h <;> first | (cases h; done) | skip
      rename_i f
      cases hf : E.fns f with
      | none => rw [hf] at h; cases h
      | some sg =>
        refine fin (fr_callSig (sg := sg) (d := dst) hops hd) fun σ hσ R f => ?_
        cases dst with
        | none => simp only [evM, hcal, hf, hcs σ hσ]
        | some d => simp only [evM, hcal, hf, hcs σ hσ]

/-! ### what a step does -/
section
variable {E : Env} {ops : Array Oper}

/-- the step of o comes to s' -/
def EvS (E : Env) (ops : Array Oper) (o : Oper) (s s' : St) : Prop := ∀ (R : Type) (f : St → Option R), evOps E ops [o] s f = f s'

theorem EvS.uniq {o : Oper} {s a b : St} (h1 : EvS E ops o s a) (h2 : EvS E ops o s b) : a = b := Option.some.inj ((h1 _ some).symm.trans (h2 _ some))

theorem EvS.of {o : Oper} {s : St} {R : Type} {f : St → Option R} {r : R} (h : evOps E ops [o] s f = some r) : ∃ s', EvS E ops o s s' ∧ f s' = some r := by
  rcases det_step E ops o s with ⟨x, hx⟩ | hx
  · exact ⟨x, hx, by rw [← h]; exact (hx R f).symm⟩
  · have h2 := h.symm.trans (hx R f); cases h2

/-- two states that an operation, with its guard, does not tell apart -/
structure Alike (ops : Array Oper) (o : Oper) (s s' : St) : Prop extends Same o s s' where
  gd : gdOf ops s' o = gdOf ops s o

theorem eff_skip {o : Oper} {s s1 : St} (hd : dstOk E o = true) (hg : gdOf ops s o = some false) (h : EvS E ops o s s1) : s1 = s.dst o.dst (.tup []) := by
  have := h _ some
  rw [step_eq, hd, hg] at this
  exact (Option.some.inj this).symm

theorem step_ok {o : Oper} {s s1 : St} (h : EvS E ops o s s1) : dstOk E o = true ∧ ∃ b, gdOf ops s o = some b := by
  have := h _ some
  rw [step_eq] at this
  cases hd : dstOk E o with
  | false => rw [hd] at this; cases this
  | true =>
    rw [hd] at this
    cases hg : gdOf ops s o with
    | none => rw [hg] at this; cases this
    | some b => exact ⟨rfl, b, rfl⟩

/-- a quiet step lays one word, and does so in all states that are alike -/
theorem eff_q {o : Oper} {s s1 : St} (hk : kindQ E o = true) (h : EvS E ops o s s1) : ∃ pv, s1 = s.dst o.dst pv ∧ ∀ s', Alike ops o s s' → EvS E ops o s' (s'.dst o.dst pv) := by
  obtain ⟨hd, b, hg⟩ := step_ok h
  cases b with
  | false =>
    refine ⟨_, eff_skip hd hg h, fun s' hs R f => ?_⟩
    rw [step_eq, hd, hs.gd, hg]
    rfl
  | true =>
    have hev : ∀ (R : Type) (f : St → Option R), evQ E s o (fun pv => f (s.dst o.dst pv)) = f s1 := fun R f => by
      have := h R f
      rw [step_eq, hd, hg] at this
      simp only [cond_true, evOp, kindQ_quiet hk s] at this
      exact this
    rcases det_evQ E s o with ⟨pv, hpv⟩ | hpv
    · have e1 : s1 = s.dst o.dst pv := by
        have := hev _ some
        rw [show evQ E s o (fun pv => some (s.dst o.dst pv)) = some (s.dst o.dst pv) from hpv _ (fun pv => some (s.dst o.dst pv))] at this
        exact (Option.some.inj this).symm
      refine ⟨pv, e1, fun s' hs R f => ?_⟩
      rw [step_eq, hd, hs.gd, hg]
      simp only [cond_true, evOp, kindQ_quiet hk s']
      rw [evQ_congr hs.toSame]
      exact hpv R fun pv => f (s'.dst o.dst pv)
    · have := hev _ some
      rw [show evQ E s o (fun pv => some (s.dst o.dst pv)) = none from hpv _ _] at this
      cases this

/-- a step that changes roots acts on words alike -/
theorem eff_m {o : Oper} {s s1 : St} {U : Nat → Prop} (hk : kindM E o = true) (h : EvS E ops o s s1) (hU : ∀ x ∈ o.op.operands, ∀ t ∈ opdTags s x, U t) (hdU : ∀ d, o.dst = some d → U d) :
    ∃ (pv : PV) (K : Pc → Pc) (rt2 : Nat → Option Rt), Fix K U ∧ (∀ t, ¬ U t → rt2 t = s.root t) ∧ s1 = ⟨fun n => if o.dst = some n then pv else (s.slot n).map K, rt2⟩ ∧
      ∀ σ, (∀ t, Operand.tmp t ∈ o.op.operands → σ t = s.slot t) → gdOf ops ⟨σ, s.root⟩ o = gdOf ops s o → EvS E ops o ⟨σ, s.root⟩ ⟨fun n => if o.dst = some n then pv else (σ n).map K, rt2⟩ := by
  obtain ⟨hd, b, hg⟩ := step_ok h
  cases b with
  | false =>
    have hs : ∀ σ, (⟨fun n => if o.dst = some n then .tup [] else (σ n).map fun c => c, s.root⟩ : St) = St.dst ⟨σ, s.root⟩ o.dst (.tup []) := fun σ => by
      simp only [PV.map_id]
      cases o.dst with
      | none => simp [St.dst]
      | some d =>
        simp only [St.dst, St.put, St.mk.injEq, and_true]
        funext n
        by_cases hn : n = d
        · subst hn; simp
        · have h2 : ¬ (some d = some n) := fun e => hn (Option.some.inj e).symm
          rw [beq_ne hn, if_neg h2]; rfl
    refine ⟨.tup [], fun c => c, s.root, fix_id, fun _ _ => rfl, ?_, fun σ _ hgd R f => ?_⟩
    · rw [eff_skip hd hg h]
      exact (hs s.slot).symm
    · rw [step_eq, hd, hgd, hg, hs σ]
      rfl
  | true =>
    have hev : ∀ (R : Type) (f : St → Option R), evM E s o f = f s1 := fun R f => by
      have := h R f
      rw [step_eq, hd, hg] at this
      simp only [cond_true, evOp, kindM_quiet hk s, cond_false] at this
      exact this
    rcases fr_evM (E := E) hk s hU hdU with ⟨pv, K, rt2, h1, h2, h3⟩ | h0
    · refine ⟨pv, K, rt2, h1, h2, ?_, fun σ hσ hgd R f => ?_⟩
      · have e := h3 s.slot (fun _ _ => rfl) _ some
        rw [show (⟨s.slot, s.root⟩ : St) = s from rfl, hev] at e
        exact Option.some.inj e
      · rw [step_eq, hd, hgd, hg]
        simp only [cond_true, evOp, kindM_quiet hk _, cond_false]
        exact h3 σ hσ R f
    · have e := h0 s.slot (fun _ _ => rfl) _ some
      rw [show (⟨s.slot, s.root⟩ : St) = s from rfl, hev] at e
      cases e

end
end Go.Proofs.Ytpegmiofhfmepaa.Ev

/- A region whose order is drawn: any order comes to what the text's order comes to. -/
set_option linter.all false
namespace Go.Proofs.Ytpegmiofhfmepaa.Ev

section
variable {E : Env} {ops : Array Oper} {H : List (List Nat)}

/-- a told step -/
structure Told (E : Env) (H : List (List Nat)) (ops : Array Oper) (i : Nat) (o : Oper) (s s' : St) : Prop where
  ev : EvS E ops o s s'
  ok : hintOk H i s o = true
  back : hintBack H i s' o = true

theorem Told.tags {i : Nat} {o : Oper} {s s' : St} {l : List Nat} (h : Told E H ops i o s s') (hl : H[i]? = some l) :
    (∀ x ∈ o.op.operands, opdFine s x = true ∧ ∀ t ∈ opdTags s x, t ∈ l) ∧ (∀ d, o.dst = some d → d ∈ l ∧ ∀ t ∈ pvTags (s'.slot d), t ∈ l) := by
  have h1 := h.ok
  have h2 := h.back
  simp only [hintOk, hl, Bool.and_eq_true, List.all_eq_true] at h1
  simp only [hintBack, hl] at h2
  refine ⟨fun x hx => ?_, fun d hd => ?_⟩
  · have := h1.1 x (by simpa using hx)
    exact ⟨this.1, fun t ht => List.elem_iff.1 (this.2 t ht)⟩
  · rw [hd] at h1 h2
    simp only [List.all_eq_true] at h2
    exact ⟨List.elem_iff.1 h1.2, fun t ht => List.elem_iff.1 (h2 t ht)⟩

/-- the guard's slot -/
def gslot (ops : Array Oper) (o : Oper) : Option Nat := match o.guard with
  | some (j, _) => (ops[j]?).bind (·.dst)
  | none => none

theorem gd_congr {o : Oper} {s s' : St} (h : ∀ g, gslot ops o = some g → s'.slot g = s.slot g) : gdOf ops s' o = gdOf ops s o := by
  unfold gdOf
  cases hg : o.guard with
  | none => rfl
  | some jw =>
    obtain ⟨j, want⟩ := jw
    dsimp only
    cases hj : (ops[j]?).bind (·.dst) with
    | none => rfl
    | some g =>
      dsimp only
      rw [h g (by simp only [gslot, hg, hj])]

theorem looks_mem {o : Oper} {t : Nat} (h : Operand.tmp t ∈ o.op.operands) : t ∈ o.looksAt ops := by
  simp only [Oper.looksAt, List.mem_append, List.mem_filterMap]
  exact .inl ⟨.tmp t, by simpa using h, rfl⟩
theorem looks_guard {o : Oper} {g : Nat} (h : gslot ops o = some g) : g ∈ o.looksAt ops := by
  unfold gslot at h
  cases hg : o.guard with
  | none => rw [hg] at h; cases h
  | some jw =>
    obtain ⟨j, want⟩ := jw
    rw [hg] at h
    simp only [Oper.looksAt, List.mem_append, hg]
    exact .inr (by simp only [h]; simp)

theorem dst_slot {s : St} {d : Option Nat} {pv : PV} {n : Nat} (h : d ≠ some n) : (s.dst d pv).slot n = s.slot n := by
  cases d with
  | none => rfl
  | some d =>
    have : n ≠ d := fun e => h (by rw [e])
    simp only [St.dst, St.put, beq_ne this, cond_false]
theorem dst_root {s : St} {d : Option Nat} {pv : PV} : (s.dst d pv).root = s.root := by cases d <;> rfl
theorem dst_self {s : St} {d : Nat} {pv : PV} : (s.dst (some d) pv).slot d = pv := by simp [St.dst, St.put]

theorem st_eq {a b : St} (h1 : ∀ n, a.slot n = b.slot n) (h2 : a.root = b.root) : a = b := by
  cases a; cases b
  simp only [St.mk.injEq] at *
  exact ⟨funext h1, h2⟩

theorem dst_slot_ite {s : St} {d : Option Nat} {pv : PV} (n : Nat) : (s.dst d pv).slot n = if d = some n then pv else s.slot n := by
  by_cases h : d = some n
  · subst h; rw [if_pos rfl]; exact dst_self
  · rw [if_neg h]; exact dst_slot h

theorem hintOk_congr {i : Nat} {o : Oper} {s s' : St} (h : ∀ t, Operand.tmp t ∈ o.op.operands → s'.slot t = s.slot t) : hintOk H i s' o = hintOk H i s o := by
  unfold hintOk
  cases H[i]? with
  | none => rfl
  | some l =>
    dsimp only
    congr 1
    apply Bool.eq_iff_iff.2
    simp only [List.all_eq_true]
    have e : ∀ x ∈ o.op.operands, opdFine s' x = opdFine s x ∧ opdTags s' x = opdTags s x := fun x hx => by
      cases x with
      | tmp t => simp only [opdFine, opdTags, h t hx, and_self]
      | _ => exact ⟨rfl, rfl⟩
    constructor
    · intro hh x hx; have := hh x hx; rwa [(e x (by simpa using hx)).1, (e x (by simpa using hx)).2] at this
    · intro hh x hx; have := hh x hx; rwa [(e x (by simpa using hx)).1, (e x (by simpa using hx)).2]

theorem hintBack_congr {i : Nat} {o : Oper} {s s' : St} (h : ∀ d, o.dst = some d → s'.slot d = s.slot d) : hintBack H i s' o = hintBack H i s o := by
  unfold hintBack
  cases H[i]? with
  | none => rfl
  | some l =>
    dsimp only
    cases hd : o.dst with
    | none => rfl
    | some d => simp only [h d hd]

def disj (a b : List Nat) : Bool := a.all fun x => !b.elem x
theorem disj_spec {a b : List Nat} (h : disj a b = true) {x : Nat} (ha : x ∈ a) (hb : x ∈ b) : False := by
  have := List.all_eq_true.1 h x ha
  simp at this
  exact this hb

/-- may two operations be done in either order? -/
def swapOk (E : Env) (H : List (List Nat)) (ops : Array Oper) (i j : Nat) (o p : Oper) : Bool :=
  o.apart ops p && (kindQ E o && kindQ E p || (match H[i]?, H[j]? with
    | some a, some b => disj a b && (kindQ E o && kindM E p || kindM E o && kindQ E p)
    | _, _ => false))

theorem swap_qq {i j : Nat} {o p : Oper} {s s1 s2 : St} (hap : o.apart ops p = true) (ho : kindQ E o = true) (hp : kindQ E p = true) (h1 : Told E H ops i o s s1) (h2 : Told E H ops j p s1 s2) :
    ∃ s', Told E H ops j p s s' ∧ Told E H ops i o s' s2 := by
  obtain ⟨a1, a2, a3⟩ := Oper.apart_spec hap
  obtain ⟨pv1, e1, f1⟩ := eff_q ho h1.ev
  obtain ⟨pv2, e2, f2⟩ := eff_q hp h2.ev
  subst e1
  have hsl : ∀ n, n ∈ p.looksAt ops → (s.dst o.dst pv1).slot n = s.slot n := fun n hn => dst_slot fun e => a1 n e hn
  have hev2 := f2 s ⟨⟨fun t ht => (hsl t (looks_mem ht)).symm, fun _ _ _ _ => by rw [dst_root]⟩, gd_congr fun g hg => (hsl g (looks_guard hg)).symm⟩
  have hsl2 : ∀ n, n ∈ o.looksAt ops → (s.dst p.dst pv2).slot n = s.slot n := fun n hn => dst_slot fun e => a3 n e hn
  have hev1 := f1 (s.dst p.dst pv2) ⟨⟨fun t ht => hsl2 t (looks_mem ht), fun _ _ _ _ => by rw [dst_root]⟩, gd_congr fun g hg => hsl2 g (looks_guard hg)⟩
  have heq : (s.dst p.dst pv2).dst o.dst pv1 = s2 := by
    rw [e2]
    refine st_eq (fun n => ?_) (by simp only [dst_root])
    simp only [dst_slot_ite]
    by_cases hn1 : o.dst = some n
    · have hn2 : p.dst ≠ some n := a2 n hn1
      simp only [hn1, hn2, if_true, if_false]
    · by_cases hn2 : p.dst = some n <;> simp only [hn1, hn2, if_true, if_false]
  rw [heq] at hev1
  refine ⟨_, ⟨hev2, ?_, ?_⟩, ⟨hev1, ?_, ?_⟩⟩
  · rw [← hintOk_congr (s := s) (s' := s.dst o.dst pv1) fun t ht => hsl t (looks_mem ht)]; exact h2.ok
  · rw [← h2.back]
    refine hintBack_congr fun d hd => ?_
    rw [e2, hd, dst_self, dst_self]
  · rw [hintOk_congr (s := s) fun t ht => hsl2 t (looks_mem ht)]; exact h1.ok
  · rw [← h1.back]
    refine hintBack_congr fun d hd => ?_
    have hne : p.dst ≠ some d := a2 d hd
    rw [e2, dst_slot hne]

theorem gd_ite {o : Oper} {s : St} {pv : PV} {K : Pc → Pc} {U : Nat → Prop} {d : Option Nat} {rt2 : Nat → Option Rt} (hK : Fix K U) (hg : ∀ g, gslot ops o = some g → d ≠ some g) (b : Bool) :
    gdOf ops s o = some b → gdOf ops ⟨fun n => if d = some n then pv else (s.slot n).map K, rt2⟩ o = some b := by
  intro h
  unfold gdOf at h ⊢
  cases hgd : o.guard with
  | none => rw [hgd] at h; exact h
  | some jw =>
    obtain ⟨j, want⟩ := jw
    rw [hgd] at h
    dsimp only at h ⊢
    cases hj : (ops[j]?).bind (·.dst) with
    | none => rw [hj] at h; cases h
    | some g =>
      rw [hj] at h
      dsimp only at h ⊢
      rw [if_neg (hg g (by simp only [gslot, hgd, hj]))]
      cases hs : s.slot g with
      | tup cs => rw [hs] at h; cases cs with
        | nil => exact h
        | cons c cs => cases h
      | one c =>
        rw [hs] at h
        cases c with
        | v k x =>
          have : K (.v k x) = .v k x := hK.1 _ fun t ht => by cases ht
          simp only [PV.map, this]
          exact h
        | _ => cases h

theorem gd_ite_back {o : Oper} {s : St} {pv : PV} {K : Pc → Pc} {U : Nat → Prop} {d : Option Nat} {rt2 : Nat → Option Rt} (hK : Fix K U) (hg : ∀ g, gslot ops o = some g → d ≠ some g) (b : Bool) :
    gdOf ops ⟨fun n => if d = some n then pv else (s.slot n).map K, rt2⟩ o = some b → gdOf ops s o = some b := by
  intro h
  unfold gdOf at h ⊢
  cases hgd : o.guard with
  | none => rw [hgd] at h; exact h
  | some jw =>
    obtain ⟨j, want⟩ := jw
    rw [hgd] at h
    dsimp only at h ⊢
    cases hj : (ops[j]?).bind (·.dst) with
    | none => rw [hj] at h; cases h
    | some g =>
      rw [hj] at h
      dsimp only at h ⊢
      rw [if_neg (hg g (by simp only [gslot, hgd, hj]))] at h
      cases hs : s.slot g with
      | tup cs => rw [hs] at h; cases cs with
        | nil => exact h
        | cons c cs => cases h
      | one c =>
        rw [hs] at h
        simp only [PV.map] at h
        rcases hK.2 c with h1 | h1
        · rw [h1] at h; exact h
        · rw [h1] at h; cases h

theorem swap_qm {i j : Nat} {o p : Oper} {s s1 s2 : St} {a b : List Nat} (hap : o.apart ops p = true) (ho : kindQ E o = true) (hp : kindM E p = true) (ha : H[i]? = some a) (hb : H[j]? = some b) (hd : disj a b = true)
    (h1 : Told E H ops i o s s1) (h2 : Told E H ops j p s1 s2) : ∃ s', Told E H ops j p s s' ∧ Told E H ops i o s' s2 := by
  obtain ⟨a1, a2, a3⟩ := Oper.apart_spec hap
  obtain ⟨t1, t2⟩ := h1.tags ha
  obtain ⟨u1, u2⟩ := h2.tags hb
  obtain ⟨pv1, e1, f1⟩ := eff_q ho h1.ev
  subst e1
  obtain ⟨pv2, K, rt2, k1, k2, e2, f2⟩ := eff_m (U := (· ∈ b)) hp h2.ev (fun x hx t ht => (u1 x hx).2 t ht) (fun d hd => (u2 d hd).1)
  rw [dst_root] at k2 f2
  have hsl : ∀ n, n ∈ p.looksAt ops → (s.dst o.dst pv1).slot n = s.slot n := fun n hn => dst_slot fun e => a1 n e hn
  have hev2 := f2 s.slot (fun t ht => (hsl t (looks_mem ht)).symm) (gd_congr (s' := ⟨s.slot, s.root⟩) fun g hg => (hsl g (looks_guard hg)).symm)
  -- what the first looks at is as it was
  have hsl2 : ∀ t, Operand.tmp t ∈ o.op.operands → (if p.dst = some t then pv2 else (s.slot t).map K) = s.slot t := fun t ht => by
    rw [if_neg fun e => a3 t e (looks_mem ht)]
    refine PV.map_fix k1 fun u hu hub => disj_spec hd ((t1 _ ht).2 u ?_) hub
    exact hu
  have hrt : ∀ x ∈ o.op.operands, ∀ t ∈ opdTags s x, rt2 t = s.root t := fun x hx t ht => k2 t fun hub => disj_spec hd ((t1 x hx).2 t ht) hub
  obtain ⟨_, bo, hgo⟩ := step_ok h1.ev
  have hgd' := gd_ite (rt2 := rt2) (pv := pv2) k1 (fun g hg e => a3 g e (looks_guard hg)) bo hgo
  have hev1 := f1 ⟨fun n => if p.dst = some n then pv2 else (s.slot n).map K, rt2⟩ ⟨⟨hsl2, hrt⟩, by rw [hgd', hgo]⟩
  have heq : St.dst ⟨fun n => if p.dst = some n then pv2 else (s.slot n).map K, rt2⟩ o.dst pv1 = s2 := by
    rw [e2]
    refine st_eq (fun n => ?_) (by simp only [dst_root])
    simp only [dst_slot_ite]
    by_cases hn1 : o.dst = some n
    · have hn2 : p.dst ≠ some n := a2 n hn1
      simp only [hn1, hn2, if_true, if_false]
      have := (t2 n hn1).2
      rw [hn1, dst_self] at this
      exact (PV.map_fix k1 fun u hu hub => disj_spec hd (this u hu) hub).symm
    · by_cases hn2 : p.dst = some n <;> simp only [hn1, hn2, if_true, if_false]
  rw [heq] at hev1
  refine ⟨_, ⟨hev2, ?_, ?_⟩, ⟨hev1, ?_, ?_⟩⟩
  · rw [← hintOk_congr (s := s) (s' := s.dst o.dst pv1) fun t ht => hsl t (looks_mem ht)]; exact h2.ok
  · rw [← h2.back]
    refine hintBack_congr fun d hd => ?_
    rw [e2]
    simp only [hd, if_true]
  · rw [hintOk_congr (s := s) hsl2]; exact h1.ok
  · rw [← h1.back]
    refine hintBack_congr fun d hd => ?_
    rw [← heq, hd, dst_self, dst_self]

theorem swap_mq {i j : Nat} {o p : Oper} {s s1 s2 : St} {a b : List Nat} (hap : o.apart ops p = true) (ho : kindM E o = true) (hp : kindQ E p = true) (ha : H[i]? = some a) (hb : H[j]? = some b) (hd : disj a b = true)
    (h1 : Told E H ops i o s s1) (h2 : Told E H ops j p s1 s2) : ∃ s', Told E H ops j p s s' ∧ Told E H ops i o s' s2 := by
  obtain ⟨a1, a2, a3⟩ := Oper.apart_spec hap
  obtain ⟨t1, t2⟩ := h1.tags ha
  obtain ⟨u1, u2⟩ := h2.tags hb
  obtain ⟨pv1, K, rt2, k1, k2, e1, f1⟩ := eff_m (U := (· ∈ a)) ho h1.ev (fun x hx t ht => (t1 x hx).2 t ht) (fun d hd => (t2 d hd).1)
  obtain ⟨pv2, e2, f2⟩ := eff_q hp h2.ev
  subst e1
  -- what the second looks at was there before
  have hsl : ∀ t, Operand.tmp t ∈ p.op.operands → (if o.dst = some t then pv1 else (s.slot t).map K) = s.slot t := fun t ht => by
    have hf := (u1 _ ht).1
    simp only [opdFine] at hf
    rw [if_neg fun e => a1 t e (looks_mem ht)] at hf ⊢
    exact PV.map_fine k1 hf
  have hrt : ∀ x ∈ p.op.operands, ∀ t ∈ opdTags ⟨fun n => if o.dst = some n then pv1 else (s.slot n).map K, rt2⟩ x, s.root t = rt2 t := fun x hx t ht => (k2 t fun hta => disj_spec hd hta ((u1 x hx).2 t ht)).symm
  obtain ⟨_, bp, hgp⟩ := step_ok h2.ev
  have hgd' := gd_ite_back (s := s) k1 (fun g hg e => a1 g e (looks_guard hg)) bp hgp
  have hev2 := f2 s ⟨⟨fun t ht => (hsl t ht).symm, hrt⟩, by rw [hgd', hgp]⟩
  have hsl2 : ∀ n, n ∈ o.looksAt ops → (s.dst p.dst pv2).slot n = s.slot n := fun n hn => dst_slot fun e => a3 n e hn
  have hev1 := f1 (s.dst p.dst pv2).slot (fun t ht => hsl2 t (looks_mem ht)) (gd_congr (s := s) (s' := ⟨(s.dst p.dst pv2).slot, s.root⟩) fun g hg => hsl2 g (looks_guard hg))
  rw [show (⟨(s.dst p.dst pv2).slot, s.root⟩ : St) = s.dst p.dst pv2 from st_eq (fun _ => rfl) (by rw [dst_root])] at hev1
  have hpv2 : ∀ d, p.dst = some d → pv2.map K = pv2 := fun d hdd => by
    have := (u2 d hdd).2
    rw [e2, hdd, dst_self] at this
    exact PV.map_fix k1 fun u hu hua => disj_spec hd hua (this u hu)
  have heq : (⟨fun n => if o.dst = some n then pv1 else ((s.dst p.dst pv2).slot n).map K, rt2⟩ : St) = s2 := by
    rw [e2]
    refine st_eq (fun n => ?_) (by simp only [dst_root])
    simp only [dst_slot_ite]
    by_cases hn1 : o.dst = some n
    · have hn2 : p.dst ≠ some n := a2 n hn1
      simp only [hn1, hn2, if_true, if_false]
    · by_cases hn2 : p.dst = some n
      · simp only [hn1, hn2, if_true, if_false]
        exact hpv2 n hn2
      · simp only [hn1, hn2, if_false]
  rw [heq] at hev1
  refine ⟨_, ⟨hev2, ?_, ?_⟩, ⟨hev1, ?_, ?_⟩⟩
  · rw [← h2.ok]
    exact hintOk_congr fun t ht => (hsl t ht).symm
  · rw [← h2.back]
    refine hintBack_congr fun d hd => ?_
    rw [e2, hd, dst_self, dst_self]
  · rw [hintOk_congr (s := s) fun t ht => hsl2 t (looks_mem ht)]; exact h1.ok
  · rw [← h1.back]
    refine hintBack_congr fun d hd => ?_
    rw [← heq]
    simp only [hd, if_true]

theorem swap_ok {i j : Nat} {o p : Oper} {s s1 s2 : St} (h : swapOk E H ops i j o p = true) (h1 : Told E H ops i o s s1) (h2 : Told E H ops j p s1 s2) : ∃ s', Told E H ops j p s s' ∧ Told E H ops i o s' s2 := by
  simp only [swapOk, Bool.and_eq_true, Bool.or_eq_true] at h
  obtain ⟨hap, ⟨ho, hp⟩ | h⟩ := h
  · exact swap_qq hap ho hp h1 h2
  · cases ha : H[i]? with
    | none => rw [ha] at h; cases h
    | some a =>
    cases hb : H[j]? with
    | none => rw [ha, hb] at h; cases h
    | some b =>
    rw [ha, hb] at h
    simp only [Bool.and_eq_true, Bool.or_eq_true] at h
    obtain ⟨hd, ⟨ho, hp⟩ | ⟨ho, hp⟩⟩ := h
    · exact swap_qm hap ho hp ha hb hd h1 h2
    · exact swap_mq hap ho hp ha hb hd h1 h2

end
end Go.Proofs.Ytpegmiofhfmepaa.Ev

/- A region whose order is drawn: the proof over all orders. -/
set_option linter.all false
namespace Go.Proofs.Ytpegmiofhfmepaa.Ev

section
variable {E : Env} {ops : Array Oper} {H : List (List Nat)}

/-- steps in a row -/
inductive Run (E : Env) (H : List (List Nat)) (ops : Array Oper) : List Nat → St → St → Prop
  | nil (s : St) : Run E H ops [] s s
  | cons {i : Nat} {o : Oper} {l : List Nat} {s s1 s2 : St} (ho : ops[i]? = some o) (h1 : Told E H ops i o s s1) (h2 : Run E H ops l s1 s2) : Run E H ops (i :: l) s s2

/-- does i stand behind p by the edges? -/
def behind (ops : Array Oper) : Nat → Nat → Nat → Bool
  | 0, _, _ => false
  | f + 1, i, p => match ops[i]? with
    | some o => (o.after.any fun e => Region.binds .any e && Nat.beq e.on p) || o.after.any fun e => Region.binds .any e && behind ops f e.on p
    | none => false

def pairOk (E : Env) (H : List (List Nat)) (ops : Array Oper) (i j : Nat) : Bool :=
  behind ops ops.size j i || match ops[i]?, ops[j]? with
    | some o, some p => swapOk E H ops i j o p
    | _, _ => false

/-- edges point back; what stands in no order can be swapped -/
def drawOk (E : Env) (H : List (List Nat)) (ops : Array Oper) : Bool :=
  (List.range ops.size).all fun j => (match ops[j]? with
    | some o => o.after.all fun e => !Region.binds .any e || Nat.blt e.on j
    | none => false) && (List.range j).all fun i => pairOk E H ops i j

theorem Run.swap {i j : Nat} {l : List Nat} {s sf : St} (hp : ∀ o p, ops[i]? = some o → ops[j]? = some p → swapOk E H ops i j o p = true) (h : Run E H ops (i :: j :: l) s sf) : Run E H ops (j :: i :: l) s sf := by
  cases h with
  | cons ho h1 h2 =>
    cases h2 with
    | cons ho' h1' h2' =>
      obtain ⟨s', g1, g2⟩ := swap_ok (hp _ _ ho ho') h1 h1'
      exact .cons ho' g1 (.cons ho g2 h2')

theorem Run.front {i : Nat} : ∀ {pre post : List Nat} {s sf : St}, (∀ p ∈ pre, ∀ o q, ops[p]? = some o → ops[i]? = some q → swapOk E H ops p i o q = true) → Run E H ops (pre ++ i :: post) s sf → Run E H ops (i :: (pre ++ post)) s sf
  | [], post, s, sf, _, h => h
  | p :: pre, post, s, sf, hp, h => by
    cases h with
    | cons ho h1 h2 =>
      exact Run.swap (hp p List.mem_cons_self) (.cons ho h1 (Run.front (fun q hq => hp q (List.mem_cons_of_mem _ hq)) h2))

theorem run_of {R : Type} {r : R} {kk : St → Option R} : ∀ {l : List Oper} {i : Nat} {s : St}, (∀ k, l[k]? = ops[i + k]?) → evD E H ops l i s kk = some r → ∃ sf, kk sf = some r ∧ Run E H ops (List.range' i l.length) s sf
  | [], i, s, _, h => ⟨s, h, .nil s⟩
  | o :: os, i, s, hl, h => by
    simp only [evD] at h
    cases h1 : hintOk H i s o with
    | false => rw [h1] at h; cases h
    | true =>
    rw [h1] at h
    simp only [cond_true] at h
    obtain ⟨s1, e1, e2⟩ := EvS.of h
    cases h2 : hintBack H i s1 o with
    | false => rw [h2] at e2; cases e2
    | true =>
    rw [h2] at e2
    simp only [cond_true] at e2
    obtain ⟨sf, g1, g2⟩ := run_of (i := i + 1) (fun k => by have := hl (k + 1); rw [show i + (k + 1) = i + 1 + k by omega] at this; simpa using this) e2
    refine ⟨sf, g1, ?_⟩
    rw [List.length_cons, List.range'_succ]
    exact .cons (by have := hl 0; simpa using this.symm) ⟨e1, h1, h2⟩ g2

end

section
variable {P : Program} {X : Cx} {N : Nat} {s : St} {g : Gs} {F : Nat → Prop} {ow : Nat → Option Nat} {E : Env} {ops : Array Oper}

theorem wp_monoQ {o : Oper} {a : Act} {w : World} {K K' : Act → World → Prop} {Q : Exit → Act → World → Prop} (h : ∀ a w, K a w → K' a w) (hh : o.wp P a w K (fun _ _ _ => False)) : o.wp P a w K' Q := by
  unfold Oper.wp at *
  generalize (execOp a.eval o).run P w = r at *
  cases r with
  | ok n w' =>
    cases n <;> simp only [Oper.upon] at hh ⊢ <;>
      first
        | exact h _ _ hh
        | exact Calls.mono hh (fun e w'' he => by
            cases e with
            | returned v => exact h _ _ he
            | panicked c => exact he.elim
            | outgrown => exact he.elim fun _ h => h.elim fun _ h => h.elim)
        | exact Rows.mono hh (fun _ _ he => h _ _ he)
  | halt x w' => cases x <;> simp only [Oper.upon] at hh ⊢

/-- a step of the machine -/
theorem step_wp (hE : EnvOk P E) (hN : E.n = N) {i : Nat} {o : Oper} (ho : ops[i]? = some o) {s' : St} (hev : EvS E ops o s s') {a : Act} {w : World} (h : Rel P X N s g F ow a.tmps w) {K : Act → World → Prop} {Q : Exit → Act → World → Prop}
    (hK : ∀ a' w', Low E.lo a a' → (∃ g' F' ow', Rel P X N s' g' F' ow' a'.tmps w') → K a' w') : wpOp P ops Q i K a w := by
  have hl := evOps_ok (Q := fun e a' w' => e = .normal ∧ K a' w') (ops := ops) (l := [o]) hE hN h (hev _ some) fun a' w' hl ⟨s2, g', F', ow', e, hr⟩ => ⟨rfl, hK a' w' hl ⟨g', F', ow', (Option.some.inj e) ▸ hr⟩⟩
  unfold wpOp
  simp only [ho]
  unfold wpList at hl
  by_cases hw : Region.wanted o (yielded ops a.tmps) = true
  · rw [if_pos hw] at hl ⊢
    rcases hl with hl | ⟨_, _, _, h2⟩
    · refine .inl ?_
      have hm : ∀ (K2 : Act → World → Prop) (hh : o.wp P a w K2 (fun e a' w' => e = .normal ∧ K a' w')), o.wp P a w K2 (fun _ _ _ => False) := by
        intro K2 hh
        unfold Oper.wp at *
        generalize (execOp a.eval o).run P w = r at *
        cases r with
        | ok n w' =>
          cases n <;> simp only [Oper.upon] at hh ⊢ <;>
            first
              | exact hh
              | exact Calls.mono hh (fun e w'' he => by
                  cases e with
                  | returned v => exact he
                  | panicked c => exact absurd he.1 (by intro h; cases h)
                  | outgrown => obtain ⟨_, _, h, _⟩ := he; cases h)
        | halt x w' => cases x <;> simp only [Oper.upon] at hh ⊢; exact absurd hh.1 (by intro h; cases h)
      exact wp_monoQ (fun a' w' hh => by unfold wpList at hh; exact hh.2) (hm _ hl)
    · cases h2.1
  · rw [if_neg hw] at hl ⊢
    unfold wpList at hl
    exact hl.2

theorem behind_listed {listed : Array Bool} (hcl : ∀ (k : Nat) (o : Oper), ops[k]? = some o → listed.getD k false = true → ∀ e ∈ o.after, Region.binds .any e = true → listed.getD e.on false = true) :
    ∀ (f i p : Nat) (o : Oper), ops[i]? = some o → (∀ e ∈ o.after, Region.binds .any e = true → listed.getD e.on false = true) → behind ops f i p = true → listed.getD p false = true
  | 0, _, _, _, _, _, h => by cases h
  | f + 1, i, p, o, ho, hpre, h => by
    simp only [behind, ho, Bool.or_eq_true] at h
    rcases h with h | h
    · obtain ⟨e, he, hb⟩ := Array.any_eq_true'.1 h
      simp only [Bool.and_eq_true] at hb
      have := Nat.eq_of_beq_eq_true hb.2
      rw [← this]
      exact hpre e he hb.1
    · obtain ⟨e, he, hb⟩ := Array.any_eq_true'.1 h
      simp only [Bool.and_eq_true] at hb
      have hl := hpre e he hb.1
      cases ho2 : ops[e.on]? with
      | none =>
        have := hb.2
        cases f with
        | zero => cases this
        | succ f => simp only [behind, ho2] at this; cases this
      | some o2 => exact behind_listed hcl f e.on p o2 ho2 (hcl e.on o2 ho2 hl) hb.2

theorem wpAny_run (hE : EnvOk P E) (hN : E.n = N) (hlo : E.lo = X.lo) {H : List (List Nat)} (hd : drawOk E H ops = true) {R : Type} {r : R} {kk : Out → Option R} {sf : St} (hkk : kk (.norm sf) = some r) :
    ∀ (fuel : Nat) (l : List Nat) (listed : Array Bool) (s : St) (g : Gs) (F : Nat → Prop) (ow : Nat → Option Nat) (a : Act) (w : World), l.length ≤ fuel → l.Pairwise (· < ·) → listed.size = ops.size →
      (∀ i, i ∈ l ↔ i < ops.size ∧ listed.getD i true = false) →
      (∀ (k : Nat) (o : Oper), ops[k]? = some o → listed.getD k false = true → ∀ e ∈ o.after, Region.binds .any e = true → listed.getD e.on false = true) →
      Run E H ops l s sf → Rel P X N s g F ow a.tmps w → Frm X a → wpAny P .any ops (OutP P X N kk r) fuel listed a w := by
  have hall : ∀ j, j < ops.size → (∃ o, ops[j]? = some o ∧ ∀ e ∈ o.after, Region.binds .any e = true → e.on < j) ∧ ∀ i, i < j → pairOk E H ops i j = true := fun j hj => by
    have := List.all_eq_true.1 hd j (List.mem_range.2 hj)
    simp only [Bool.and_eq_true, List.all_eq_true, List.mem_range] at this
    refine ⟨?_, this.2⟩
    cases ho : ops[j]? with
    | none => rw [ho] at this; cases this.1
    | some o =>
      rw [ho] at this
      refine ⟨o, rfl, fun e he hb => ?_⟩
      have h1 := Array.all_eq_true_iff_forall_mem.1 this.1 e he
      rw [hb] at h1
      simpa [Nat.blt_eq] using h1
  have lst : ∀ (listed : Array Bool) (i : Nat), listed.size = ops.size → i < ops.size → (listed.getD i false = true ↔ ¬ listed.getD i true = false) := fun listed i hs hi => by
    have hi : i < listed.size := by omega
    simp only [Array.getD_eq_getD_getElem?, Array.getElem?_eq_getElem hi, Option.getD_some]
    cases listed[i] <;> simp
  -- the first of what is left is ready
  have first : ∀ (i : Nat) (l : List Nat) (listed : Array Bool), (i :: l).Pairwise (· < ·) → listed.size = ops.size → (∀ k, k ∈ i :: l ↔ k < ops.size ∧ listed.getD k true = false) → i ∈ Region.ready .any ops listed := fun i l listed hs hz hm => by
    obtain ⟨hi, hu⟩ := (hm i).1 List.mem_cons_self
    obtain ⟨⟨o, ho, he⟩, _⟩ := hall i hi
    refine mem_ready.2 ⟨hu, o, ho, fun e hee hb => ?_⟩
    have hlt := he e hee hb
    refine (lst listed e.on hz (by omega)).2 fun hf => ?_
    have : e.on ∈ i :: l := (hm e.on).2 ⟨by omega, hf⟩
    rcases List.mem_cons.1 this with h | h
    · omega
    · have := (List.pairwise_cons.1 hs).1 _ h; omega
  intro fuel
  induction fuel with
  | zero =>
    intro l listed s g F ow a w hlen hs hz hm hcl hrun hrel hfr
    have hl : l = [] := List.eq_nil_of_length_eq_zero (by omega)
    subst hl
    cases hrun
    refine ⟨?_, hfr, _, g, F, ow, hkk, hrel⟩
    rw [List.eq_nil_iff_forall_not_mem]
    intro i hi
    obtain ⟨h1, o, ho, _⟩ := mem_ready.1 hi
    have := (hm i).2 ⟨(Array.getElem?_eq_some_iff.1 ho).1, h1⟩
    cases this
  | succ fuel ih =>
    intro l listed s g F ow a w hlen hs hz hm hcl hrun hrel hfr
    refine ⟨fun hr => ?_, fun i hi => ?_⟩
    · cases l with
      | nil => cases hrun; exact ⟨hfr, _, g, F, ow, hkk, hrel⟩
      | cons i l => have := first i l listed hs hz hm; rw [hr] at this; cases this
    · obtain ⟨hu, o, ho, hpre⟩ := mem_ready.1 hi
      have hin : i < ops.size := (Array.getElem?_eq_some_iff.1 ho).1
      obtain ⟨pre, post, rfl⟩ := List.append_of_mem ((hm i).2 ⟨hin, hu⟩)
      have hpw := List.pairwise_append.1 hs
      have hpw2 := List.pairwise_cons.1 hpw.2.1
      have hswap : ∀ p ∈ pre, ∀ o' q, ops[p]? = some o' → ops[i]? = some q → swapOk E H ops p i o' q = true := fun p hp o' q ho' hq => by
        have hlt : p < i := hpw.2.2 p hp i List.mem_cons_self
        have hpr := (hall i hin).2 p hlt
        simp only [pairOk, ho', hq, Bool.or_eq_true] at hpr
        rcases hpr with hpr | hpr
        · have hli := behind_listed hcl _ i p o ho hpre hpr
          have := (hm p).1 (List.mem_append.2 (.inl hp))
          exact absurd this.2 ((lst listed p hz this.1).1 hli)
        · exact hpr
      have hrun' := Run.front hswap hrun
      cases hrun' with
      | cons ho2 h1 h2 =>
        rw [ho] at ho2
        injection ho2 with ho2
        subst ho2
        refine step_wp hE hN ho h1.ev hrel fun a' w' hl ⟨g', F', ow', hrel'⟩ => ?_
        have hmem : ∀ k, k ∈ pre ++ post ↔ k < ops.size ∧ (listed.setIfInBounds i true).getD k true = false := fun k => by
          by_cases hk : k = i
          · subst hk
            have : k < listed.size := by omega
            constructor
            · intro hk
              rcases List.mem_append.1 hk with hk | hk
              · have := hpw.2.2 k hk k List.mem_cons_self; omega
              · have := hpw2.1 k hk; omega
            · rintro ⟨_, h⟩
              simp [this] at h
          · rw [getD_set_ne true (Ne.symm hk), ← hm k]
            simp only [List.mem_append, List.mem_cons, hk, false_or]
        refine ih (pre ++ post) (listed.setIfInBounds i true) _ g' F' ow' a' w' (by simp at hlen ⊢; omega) ?_ (by simpa using hz) hmem (fun k o' ho' hk e he hb => ?_) h2 hrel' (hfr.low (hlo ▸ hl))
        · exact List.pairwise_append.2 ⟨hpw.1, hpw2.2, fun x hx y hy => hpw.2.2 x hx y (List.mem_cons_of_mem _ hy)⟩
        · by_cases hki : k = i
          · subst hki
            rw [ho] at ho'
            injection ho' with ho'
            subst ho'
            exact getD_set_true (hpre e he hb)
          · rw [getD_set_ne false (Ne.symm hki)] at hk
            exact getD_set_true (hcl k o' ho' hk e he hb)

/-- a region whose order is drawn does what its text says -/
theorem regOk_of (hE : EnvOk P E) (hN : E.n = N) (hlo : E.lo = X.lo) {id : Nat} (hm : P.follows .mixedOrders = true) (hd : drawOk E (E.draw id) ops = true) : RegOk P X N E id ops := by
  intro R r kk s g F ow a w h hfr hr
  refine wp_region_any hm ?_
  obtain ⟨sf, g1, g2⟩ := run_of (i := 0) (fun k => by rw [Nat.zero_add]; exact Array.getElem?_toList) hr
  have hext : Ext w { w with drawn := w.drawn + 1 } := ⟨Nat.le_refl _, fun _ _ => rfl, rfl, rfl, rfl⟩
  refine wpAny_run hE hN hlo hd g1 ops.size (List.range' 0 ops.toList.length) (Array.replicate ops.size false) s g F ow a _ (by simp) ?_ (by simp) (fun i => ?_) (fun k o ho hk => ?_) g2 (h.ext hext (fun _ h => h) fun b hb => .inl hb) hfr
  · exact List.pairwise_lt_range'
  · simp only [List.mem_range'_1, Array.length_toList, Nat.zero_add, Nat.zero_le, true_and]
    constructor
    · intro hi
      exact ⟨hi, by simp [hi]⟩
    · exact fun h => h.1
  · have hi : k < ops.size := (Array.getElem?_eq_some_iff.1 ho).1
    simp [hi] at hk

end
end Go.Proofs.Ytpegmiofhfmepaa.Ev

/- Regions of a function's code, by their numbers. -/
set_option linter.all false
namespace Go.Proofs.Ytpegmiofhfmepaa.Ev
def findReg : Nat → Code → Option (Array Oper)
  | n, .seq a b => match findReg n a with | some c => some c | none => findReg n b
  | n, .cond _ a b => match findReg n a with | some c => some c | none => findReg n b
  | n, .block _ a => findReg n a
  | n, .loop a => findReg n a
  | n, .region m ops _ => cond (Nat.beq m n) (some ops) none
  | _, _ => none
def regAt (n : Nat) (f : Func) : Array Oper := (findReg n (bodyOf f)).getD #[]
def drawOf (l : List (Nat × List (List Nat))) (n : Nat) : List (List Nat) := (assocN l n).getD []
end Go.Proofs.Ytpegmiofhfmepaa.Ev
