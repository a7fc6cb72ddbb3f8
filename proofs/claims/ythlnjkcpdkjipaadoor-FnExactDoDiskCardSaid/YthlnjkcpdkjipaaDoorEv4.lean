/- A verified evaluator of typed functions, part 4. Nothing of the program is in it. -/
import Derived.Test.YthlnjkcpdkjipaaDoorEv3
import Derived.ProofKit
import Derived.Shelf.Spec.SlicesInsert
import Derived.Lib.AppendZerosOnto
import Derived.Deep.RegionLaw
import Derived.Lib.SliceRun
import Derived.Deep.Slices
import Derived.Shelf.Spec.SlicesGrow
import Derived.Shelf.Strings.SlTrimAscii
set_option linter.all false
/- What a typed function surely answers, and what holds of the answer: rules. -/
namespace Go.Proofs.YthlnjkcpdkjipaaDoor.Ev
def Does {α : Type} (o : Option α) (Q : α → Prop) : Prop := ∃ r, o = some r ∧ Q r
section
variable {α β : Type} {Q : α → Prop}
theorem Does.val {x : α} (h : Q x) : Does (some x) Q := ⟨x, rfl, h⟩
theorem Does.mono {o : Option α} {P : α → Prop} (h : Does o P) (hq : ∀ x, P x → Q x) : Does o Q := by
  obtain ⟨r, h1, h2⟩ := h; exact ⟨r, h1, hq r h2⟩
theorem Does.bnd {o : Option β} {P : β → Prop} {k : β → Option α} (h : Does o P) (hk : ∀ r, P r → Does (k r) Q) : Does (bnd o k) Q := by
  obtain ⟨r, h1, h2⟩ := h
  rw [h1]
  exact hk r h2
theorem Does.cond {b : Bool} {x y : Option α} (h1 : b = true → Does x Q) (h2 : b = false → Does y Q) : Does (bif b then x else y) Q := by
  cases b with
  | true => exact h1 rfl
  | false => exact h2 rfl
theorem Does.req {b : Bool} {k : Option α} (h1 : b = true) (h2 : Does k Q) : Does (req b k) Q := by
  subst h1; exact h2
theorem Does.getO {l : List β} {i : Int} {k : β → Option α} (h0 : 0 ≤ i) (h1 : i < l.length) (hk : ∀ x, l[i.toNat]? = some x → Does (k x) Q) : Does (getO l i k) Q := by
  have h : i.toNat < l.length := by omega
  obtain ⟨x, hx⟩ : ∃ x, l[i.toNat]? = some x := ⟨_, List.getElem?_eq_getElem h⟩
  rw [getO_at h0 hx]
  exact hk x hx
theorem Does.getB {s : ByteArray} {i : Int} {k : Int → Option α} (h0 : 0 ≤ i) (h1 : i < s.size) (hk : ∀ b : UInt8, s[i.toNat]? = some b → Does (k b.toNat) Q) : Does (getB s i k) Q := by
  have h : i.toNat < s.size := by omega
  have hx : s[i.toNat]? = some s[i.toNat] := getElem?_pos s i.toNat h
  rw [getB_at h0 hx]
  exact hk _ hx
theorem Does.catO {x y : ByteArray} {k : ByteArray → Option α} (h : x.size + y.size ≤ 9223372036854775807) (hk : Does (k (x ++ y)) Q) : Does (catO x y k) Q := by
  unfold Go.Proofs.YthlnjkcpdkjipaaDoor.Ev.catO
  rw [decide_eq_true h]
  exact hk
theorem Does.eq {o : Option α} {x : α} (h : o = some x) (hq : Q x) : Does o Q := ⟨x, h, hq⟩
end
theorem Does.loop {c v : Desc} {ex : List (Ek × Desc)} {R : Type} {Q : R → Prop} {stepK : (R : Type) → Vars c → Vars v → (Vars c → (Vars v ⊕ Oc ex) → Option R) → Option R} {kk : Vars c → Oc ex → Option R}
    (I : Vars c → Vars v → Prop) (μ : Vars c → Vars v → Nat)
    (h : ∀ xc xv, I xc xv → Does (round stepK (xc, xv)) fun z => match z with | .inl p => I p.1 p.2 ∧ μ p.1 p.2 < μ xc xv | .inr q => Does (kk q.1 q.2) Q) :
    ∀ {xc : Vars c} {xv : Vars v}, I xc xv → Does (loopF stepK R xc xv kk) Q := by
  have key : ∀ (n : Nat) (xc : Vars c) (xv : Vars v), μ xc xv < n → I xc xv → Does (loopF stepK R xc xv kk) Q := by
    intro n
    induction n with
    | zero => intro xc xv hn; omega
    | succ n ih =>
      intro xc xv hn hI
      obtain ⟨z, h1, h2⟩ := h xc xv hI
      cases z with
      | inl p =>
        rw [loopF_more (c' := p.1) (v' := p.2) h1]
        exact ih p.1 p.2 (by omega) h2.1
      | inr q =>
        rw [loopF_done (c' := q.1) (o := q.2) h1]
        exact h2
  intro xc xv hI
  exact key (μ xc xv + 1) xc xv (by omega) hI
theorem wrap_range {k : IntKind} (n : Int) (h : k.signed = false) : 0 ≤ k.wrap n ∧ k.wrap n < 2 ^ k.bits := by
  have h1 : k.wrap n = n % (2 ^ k.bits : Int) := by simp [IntKind.wrap, h]
  have h2 : (0 : Int) < 2 ^ k.bits := Int.pow_pos (by decide)
  rw [h1]
  exact ⟨Int.emod_nonneg _ (by omega), Int.emod_lt_of_pos _ h2⟩
theorem iand_255 (k : IntKind) (a : Int) (hk : k = .u64 ∨ k = .i64) : 0 ≤ iand k a 255 ∧ iand k a 255 ≤ 255 := by
  have e : ∀ w, 8 ≤ w → (BitVec.ofInt w a &&& BitVec.ofInt w 255).toNat ≤ 255 := by
    intro w hw
    rw [BitVec.toNat_and]
    have : (BitVec.ofInt w (255 : Int)).toNat = 255 := by
      have h2 : 2 ^ 8 ≤ 2 ^ w := Nat.pow_le_pow_right (by decide) hw
      have := ofInt_nat w 255
      rw [show ((255 : Nat) : Int) = (255 : Int) from rfl] at this
      rw [this, Nat.mod_eq_of_lt (by omega)]
    rw [this]
    exact Nat.and_le_right
  rcases hk with rfl | rfl
  · have := e 64 (by decide)
    simp only [iand]
    show 0 ≤ IntKind.u64.wrap ((BitVec.ofInt 64 a &&& BitVec.ofInt 64 255).toNat : Int) ∧ IntKind.u64.wrap ((BitVec.ofInt 64 a &&& BitVec.ofInt 64 255).toNat : Int) ≤ 255
    rw [wrap_u64]
    omega
  · have := e 64 (by decide)
    simp only [iand]
    show 0 ≤ IntKind.i64.wrap ((BitVec.ofInt 64 a &&& BitVec.ofInt 64 255).toNat : Int) ∧ IntKind.i64.wrap ((BitVec.ofInt 64 a &&& BitVec.ofInt 64 255).toNat : Int) ≤ 255
    rw [wrap_i64 _ (by omega)]
    omega
theorem irem_range {a m : Int} (ha : 0 ≤ a) (hm : 0 < m) : 0 ≤ irem .i64 a m ∧ irem .i64 a m < m ∧ irem .i64 a m ≤ a := by
  simp only [irem]
  rw [Int.tmod_eq_emod_of_nonneg ha]
  have h1 := Int.emod_nonneg a (show m ≠ 0 by omega)
  have h2 := Int.emod_lt_of_pos a hm
  have h3 := Int.mul_ediv_add_emod a m
  have h4 : 0 ≤ m * (a / m) := Int.mul_nonneg (by omega) (Int.ediv_nonneg ha (by omega))
  omega
end Go.Proofs.YthlnjkcpdkjipaaDoor.Ev

/- Arguments of a law that are slices of numbers. -/
namespace Go.Proofs.YthlnjkcpdkjipaaDoor.Ev
open Go.ChangeMaps Go.ChangeShapes Go.WideShapes Go.ChangeAt Go.RowKit
section
variable {P : Program} {H : Type} {enc : TypeId × Value → H}
theorem ints_arg {W : World} {base : Nat} {t e : TypeId} {k : IntKind} (ht : P.underlying t = some (.slice e)) (he : P.underlying e = some (.int k)) (hc : P.cellsOf e = 1) {v : Value} {d : DataW H} {ps : List MemPlace}
    (hval : Value.okWide P W .any base t v) (h : DataW.Trod enc P W 0 (fun _ => true) true t v d ps) :
    ∃ (xs : List Int) (l : L (.sl (.int k))) (F : Nat → Prop), sat W F (.sl (.int k)) .s xs l ∧ v = valOf (.sl (.int k)) xs l ∧ (∀ b, F b → b < W.heap.size) ∧ (∀ x ∈ xs, k.min ≤ x ∧ x ≤ k.max) ∧ ∀ p ∈ ps, ∃ b o, p = .cell b o := by
  obtain ⟨a1, len, cap, rfl⟩ := okWide_slice ht hval
  obtain ⟨fuel, hf⟩ := h
  rcases open_ints ht he hc hf with ⟨hcs, hx⟩ | ⟨a, len', cap', zs, hcs, _, hl, hm, hz, hx, hcell, hwz⟩
  · simp [Value.cells] at hcs
    obtain ⟨rfl, rfl, rfl⟩ := hcs
    simp only [Prod.mk.injEq] at hx
    obtain ⟨rfl, rfl⟩ := hx
    refine ⟨[], ((none, 0), fun _ => ()), fun _ => False, fun _ => ⟨⟨Nat.le_refl _, fun _ => rfl, (fun b o e => by cases e), fun _ _ b o e => by cases e⟩, fun i x h => by simp at h⟩, rfl, (fun b h => h.elim), (fun x h => by cases h), (fun p h => by cases h)⟩
  · simp [Value.cells] at hcs
    obtain ⟨rfl, rfl, rfl⟩ := hcs
    simp only [Prod.mk.injEq] at hx
    obtain ⟨rfl, rfl⟩ := hx
    simp only [if_true] at hz
    have hspot : a.spot = none := by
      simp only [Value.okWide, ht, Cell.okWide, Cell.ok] at hval
      exact hval.2.2.2.1
    obtain ⟨ab, ao, spot⟩ := a
    simp only at hspot
    subst hspot
    have hk : ∀ n ∈ zs, k.min ≤ n ∧ n ≤ k.max := fun n hn => by
      have := hwz n hn
      simpa [Lit.wf] using this
    refine ⟨zs.take len, ((some (ab, ao), cap), fun _ => ()), fun b => b = ab ∧ b < W.heap.size, fun _ => ⟨⟨by simp; omega, (fun h => by cases h), ?_, (fun h => by cases h)⟩, fun i x h => trivial⟩, ?_, fun b h => h.2, fun x hx => hk x (List.mem_of_mem_take hx), fun p hp => ?_⟩
    · intro b o e
      injection e with e
      injection e with e1 e2
      subst e1; subst e2
      refine ⟨(fun h => by cases h), fun hne => ?_⟩
      have hpos : 0 < zs.length := by
        rcases Nat.eq_zero_or_pos zs.length with e | e
        · rw [List.length_eq_zero_iff] at e; subst e; simp at hne
        · exact e
      have hc0 := hcell 0 hpos
      rw [Addr.add_lit] at hc0
      obtain ⟨cs, te, fr, hcs⟩ : ∃ cs te fr, W.heap[ab]? = some (.cells cs te fr) := by
        unfold World.cell? at hc0
        split at hc0
        · rename_i c x1 x2 hh; exact ⟨c, x1, x2, hh⟩
        · cases hc0
      refine ⟨fun _ => ⟨rfl, (Array.getElem?_eq_some_iff.1 hcs).1⟩, cs, te, fr, hcs, (fun h => by cases h), ?_⟩
      intro i x hi j v hj
      have hil : i < zs.length := by
        have := (List.getElem?_eq_some_iff.1 hi).1
        rw [List.length_take] at this
        omega
      simp only [vals] at hj
      have hj0 : j = 0 ∧ v = .int k x := by
        cases j with
        | zero => simp at hj; exact ⟨rfl, hj.symm⟩
        | succ j => simp at hj
      obtain ⟨rfl, rfl⟩ := hj0
      have hci := hcell i hil
      rw [Addr.add_lit] at hci
      unfold World.cell? at hci
      rw [hcs] at hci
      simp only [Option.isSome_none, Bool.false_eq_true, if_false] at hci
      have hzi : zs.getD i 0 = x := by
        rw [List.getElem?_take] at hi
        split at hi
        · rw [List.getD_eq_getElem?_getD, hi]; rfl
        · cases hi
      rw [hzi] at hci
      simpa [K.size] using hci
    · simp only [valOf, adr]
      rw [List.length_take, hz, Nat.min_eq_left hl]
      rfl
    · simp only [MemPlace.row, List.mem_map] at hp
      obtain ⟨i, _, rfl⟩ := hp
      exact ⟨_, _, rfl⟩
theorem arg_stays {W W' : World} {t : TypeId} (hl : laidOutB P = true) (hr : P.readableRec t = true) (hrow : t < P.types.size) {v : Value} {d : DataW H} {ps : List MemPlace}
    (h : DataW.Trod enc P W 0 (fun _ => true) true t v d ps) (hlt : ∀ p ∈ ps, p.block < W.heap.size) (hold : ∀ b, b < W.heap.size → W'.heap[b]? = W.heap[b]?) :
    DataW.Trod enc P W' 0 (fun b => decide (b < W.heap.size)) true t v d ps :=
  WideElems.Trod_stays hl hr hrow h (fun p hp => by
    have hb := hold p.block (hlt p hp)
    cases p with
    | cell b o => simp only [World.sameAt, World.cell?, MemPlace.block] at hb ⊢; rw [hb]
    | map b => exact hb) (fun p hp => by simpa using hlt p hp)
end
end Go.Proofs.YthlnjkcpdkjipaaDoor.Ev

/- Functions of Go's library, as typed functions. -/
namespace Go.Proofs.YthlnjkcpdkjipaaDoor.Ev
def repB (s : ByteArray) : Nat → ByteArray
  | 0 => ⟨#[]⟩
  | n + 1 => s ++ repB s n
def f_strings_Repeat (x : ByteArray × Int × Unit) : Option ((ByteArray × Unit) × Unit) :=
  req (decide (0 ≤ x.2.1) && (decide (x.2.1 ≤ 1000000) && decide (x.1.size * x.2.1.toNat ≤ 1000000))) (some ((repB x.1 x.2.1.toNat, ()), ()))
def sgf_strings_Repeat : Sig := ⟨[.val .str, .val (.int .i64)], [(.str, .s)], f_strings_Repeat⟩
theorem quiet_left {P : Program} {w w' : World} {F : Nat → Prop} {sg : Sig} {x : Ps sg.ins} {l : PL sg.ins} {r : Rs sg.res} {ro : Rs (Pm.outs sg.ins)} (h1 : argFp sg.ins x l = []) (h2 : argBs sg.ins l = []) (h3 : Pm.outs sg.ins = [])
    (he : Ext w w') (hk : (resK sg.res).flat = true) (hm : (resM sg.res).clear = true) (lr : L (resK sg.res)) (lo : L (resK (Pm.outs sg.ins))) (ho : OutsOk w' F sg.ins x l ro lo) : Left w w' F F sg x l r ro lr lo where
  size := he.size
  os := he.os
  tape := he.tape
  out := he.out
  old := fun b hb _ _ => he.old b hb
  rng := fun q hq => by rw [h2] at hq; cases hq
  le := fun _ h => h
  new := fun _ h => .inl h
  res := sat_flat hk
  outs := ho
  nd := by
    have e : fp (resK (Pm.outs sg.ins)) (resM (Pm.outs sg.ins)) ro lo = [] := fp_nil h3
    rw [fp_clear hm, e, h2]
    simp
  apart := fun b hb => by
    have e : fp (resK (Pm.outs sg.ins)) (resM (Pm.outs sg.ins)) ro lo = [] := fp_nil h3
    rw [fp_clear hm, e] at hb
    simp at hb
theorem sound_Repeat {P : Program} {f : Nat} (hf : ∃ fn, P.funcs[f]? = some fn ∧ fn.body.isSome ∧ fn.name ≠ "runtime.NumGoroutine")
    (h : ∀ (s : ByteArray) (c : Nat) (w : World), c ≤ 1000000 → s.size * c ≤ 1000000 → Calls P f #[.string s, .int .i64 c] w fun e w' => e = .returned (.string (repB s c)) ∧ Ext w w') : Sound P f sgf_strings_Repeat := by
  refine ⟨hf, ?_⟩
  rintro ⟨s, n, ⟨⟩⟩ r hr w F l vs ha hnd hno hlt hbu
  obtain ⟨hb, hr⟩ := req_some hr
  injection hr with hr
  subst hr
  simp only [Bool.and_eq_true, decide_eq_true_eq] at hb
  obtain ⟨h0, h1, h2⟩ := hb
  have h0 : 0 ≤ n := h0
  have h1 : n ≤ 1000000 := h1
  have h2 : s.size * n.toNat ≤ 1000000 := h2
  obtain ⟨v, vs, rfl, _, rfl, ha⟩ := ha
  obtain ⟨v, vs, rfl, _, rfl, ha⟩ := ha
  have ha : vs = [] := ha
  subst ha
  have hc := h s n.toNat w (by omega) h2
  rw [show ((n.toNat : Nat) : Int) = n by omega] at hc
  refine hc.mono fun e w' ⟨he, hw⟩ => ?_
  subst he
  exact ⟨F, ((), ()), (), rfl, quiet_left (P := P) rfl rfl rfl hw rfl rfl _ _ trivial⟩
end Go.Proofs.YthlnjkcpdkjipaaDoor.Ev

/- slices.Insert: its roads through memory. (The roads of the kit's SlicesInsert and SlicesInsertGrow, turned to elements of many cells.) -/
namespace Go.Proofs.YthlnjkcpdkjipaaDoor.Ev
open Go Go.Shelf Go.RowKit Go.Lib Go.Proofs
theorem run_copy_cellsK {P : Program} (z : Nat) (w : World) (dT sT ty elem : TypeId) (b o dLen dCap : Nat) (a : Addr) (sLen sCap : Nat) (cs : List Value)
    (hu : P.underlying dT = some (.slice elem)) (hs : (P.info? elem).map (·.size) = some z) (hn : cs.length = Nat.min sLen dLen * z)
    (hsrc : ∀ j v, cs[j]? = some v → w.cell? (a.add j) = some v) (hc : ∀ j, j < cs.length → (w.cell? ⟨b, o + j, none⟩).isSome = true) (hf : ∀ j, j < cs.length → w.frozen? ⟨b, o + j, none⟩ = false) (h1 : ∀ v ∈ cs, v.oneCell' = true) :
    (Builtin.copy_ #[dT, sT] ty #[.slice (some ⟨b, o, none⟩) dLen dCap, .slice (some a) sLen sCap]).run P w = .ok (goInt (Nat.min sLen dLen)) (w.setCells b o cs) := by
  have hl := run_loadCells_list (P := P) w a cs hsrc
  have hst := run_storeCells_cells (P := P) b o cs 0 w (by simpa using hc) (by simpa using hf) h1
  cases hq : P.info? elem with
  | none => simp [hq] at hs
  | some i =>
    have hi : i.size = z := by simpa [hq] using hs
    rw [hn] at hl
    simp [Builtin.copy_, run_underlying hu, Builtin.lenOf, Builtin.firstCells, sizeOf, typeInfo, hq, hi, hl, hst]
def Named (P : Program) (f : Nat) (B : Func) : Prop := ∃ nm : String, nm ≠ "runtime.NumGoroutine" ∧ P.funcs[f]? = some { B with name := nm }
def OverIn (P : Program) (f : Nat) (ts : Array TypeId) (b : TypeId) : Prop :=
  ∃ fn, P.funcs[f]? = some fn ∧ (fn.name == "runtime.NumGoroutine") = false ∧ fn.body.isNone = true ∧ Extern.findNext fn = none ∧ Extern.find fn = some (Extern.SlicesOverlaps.overlaps ts #[b])
structure InsIn (P : Program) (ρ : Ren) (z : Nat) (zv : Value) : Prop where
  mixed : P.follows .mixedOrders = true
  f22 : Named P (ρ.f 22) (Body2.n22 ρ)
  f29 : OverIn P (ρ.f 29) #[ρ.t 24, ρ.t 24] (ρ.t 4)
  t0 : P.underlying (ρ.t 0) = some (TypeDesc.tuple #[])
  a0 : ∀ w, (isAgg (ρ.t 0)).run P w = .ok false w
  z0 : ∀ w, (Go.sizeOf (ρ.t 0)).run P w = .ok 1 w
  v0 : ∀ w, (zeroValue (ρ.t 0)).run P w = .ok (Value.tuple #[]) w
  t3 : P.underlying (ρ.t 3) = some (TypeDesc.int IntKind.i64)
  a3 : ∀ w, (isAgg (ρ.t 3)).run P w = .ok false w
  z3 : ∀ w, (Go.sizeOf (ρ.t 3)).run P w = .ok 1 w
  v3 : ∀ w, (zeroValue (ρ.t 3)).run P w = .ok (Value.int IntKind.i64 0) w
  t4 : P.underlying (ρ.t 4) = some (TypeDesc.bool)
  a4 : ∀ w, (isAgg (ρ.t 4)).run P w = .ok false w
  z4 : ∀ w, (Go.sizeOf (ρ.t 4)).run P w = .ok 1 w
  v4 : ∀ w, (zeroValue (ρ.t 4)).run P w = .ok (Value.bool false) w
  z9 : ∀ w, (Go.sizeOf (ρ.t 9)).run P w = .ok z w
  t24 : P.underlying (ρ.t 24) = some (TypeDesc.slice (ρ.t 9))
  a24 : ∀ w, (isAgg (ρ.t 24)).run P w = .ok false w
  z24 : ∀ w, (Go.sizeOf (ρ.t 24)).run P w = .ok 1 w
  v24 : ∀ w, (zeroValue (ρ.t 24)).run P w = .ok (Value.slice none 0 0) w
  i9 : ∃ i, P.info? (ρ.t 9) = some i ∧ i.zero = some zv ∧ i.size = z ∧ i.bytes ≤ 4096
  zc : zv.cells.size = z
  zn : z ≠ 0
theorem overlaps_no {P : Program} (w : World) (tS tR e : TypeId) (ht : P.underlying tS = some (.slice e)) (size : Nat) (hz : ∀ w, (Go.sizeOf e).run P w = .ok size w)
    (a b : Addr) (la ca lb cb : Nat) (hne : a.block ≠ b.block) (tA tB : TypeId) (kA kB : Nat)
    (hsa : w.shape? a.block = some (tA, kA)) (hsb : w.shape? b.block = some (tB, kB)) (hkA : kA ≠ 0)
    (hfb : w.frozen? b = false) (hfe : w.frozen? { block := b.block, off := kB } = false) :
    (Extern.SlicesOverlaps.overlaps #[tS, tS] #[tR] #[.slice (some a) la ca, .slice (some b) lb cb]).run P w = .ok (.bool false) w := by
  have hnb : (a.block != b.block) = true := by simpa using hne
  have hnb' : (a.block == b.block) = false := by simpa using hne
  change Sem.run P (α := Value) (do
    let some t := (#[tS, tS] : Array TypeId)[0]? | stuck "slices.overlaps: no parameter types"
    let .slice elem ← underlying t | stuck "slices.overlaps: slice type expected"
    let size ← sizeOf elem
    match (some a : Option Addr), (some b : Option Addr) with
    | some a, some b =>
      if la = 0 ∨ lb = 0 ∨ size = 0 then pure (Value.bool false)
      else if a.block != b.block && (← frozen a) && (← frozen b) then unsupported .addressObserved
      else do
        if a.block != b.block then do
          noView a; noView b
          if ← mayBeOne a b then return Value.bool ((← choose (.extern "sameAddr.stringBytes" 2)) == 1)
        pure (Value.bool (a.block == b.block && a.off < b.off + lb * size && b.off < a.off + la * size))
    | _, _ => pure (Value.bool false)) w = _
  by_cases h0 : la = 0 ∨ lb = 0 ∨ size = 0
  · simp [run_underlying ht, hz, h0]
  · cases kA with
    | zero => exact absurd rfl hkA
    | succ kA =>
      cases hfa : w.frozen? a <;> cases hfa2 : w.frozen? { block := a.block, off := kA + 1 } <;>
      simp [run_underlying ht, hz, h0, hnb, hnb', frozen, noView, viewAt, mayBeOne, stringish, shape, Sem.run, hsa, hsb, hfb, hfe, hfa, hfa2]
section
variable {P : Program} {ρ : Ren} {z : Nat} {zv : Value}
set_option maxHeartbeats 4000000 in
set_option maxRecDepth 100000 in
theorem insert_shift (L : InsIn P ρ z zv) (b off n c i vb voff m vc : Nat) (cs vs : List Value) (w : World) (hi : i < n) (hm : 0 < m) (hroom : n + m ≤ c) (hc63 : c ≤ 9223372036854775807) (hvb : vb ≠ b)
    (hcl : cs.length = n * z) (hvl : vs.length = m * z)
    (hcs : ∀ j v, cs[j]? = some v → w.cell? ⟨b, off + j, none⟩ = some v) (hsp : ∀ j, j < (n + m) * z → (w.cell? ⟨b, off + j, none⟩).isSome = true) (hfz : ∀ j, j < (n + m) * z → w.frozen? ⟨b, off + j, none⟩ = false)
    (hvs : ∀ j v, vs[j]? = some v → w.cell? ⟨vb, voff + j, none⟩ = some v) (h1c : ∀ v ∈ cs, v.oneCell' = true) (h1v : ∀ v ∈ vs, v.oneCell' = true)
    (hov : ∀ lb cb, (Extern.SlicesOverlaps.overlaps #[(ρ.t 24), (ρ.t 24)] #[(ρ.t 4)] #[.slice (some ⟨vb, voff, none⟩) m vc, .slice (some ⟨b, off + (i * z + m * z), none⟩) lb cb]).run P w = .ok (.bool false) w) :
    Calls P (ρ.f 22) #[.slice (some ⟨b, off, none⟩) n c, .int .i64 i, .slice (some ⟨vb, voff, none⟩) m vc] w fun e w' =>
      e = .returned (.slice (some ⟨b, off, none⟩) (n + m) c) ∧ w' = (w.drew.setCells b (off + (i * z + m * z)) (cs.drop (i * z))).setCells b (off + i * z) vs := by
  have t0 := L.t0; have a0 := L.a0; have z0 := L.z0; have v0 := L.v0; have t3 := L.t3; have a3 := L.a3; have z3 := L.z3; have v3 := L.v3; have t4 := L.t4; have a4 := L.a4; have z4 := L.z4; have v4 := L.v4; have z9 := L.z9; have t24 := L.t24; have a24 := L.a24; have z24 := L.z24; have v24 := L.v24
  have u0 := run_underlying L.t0; have u3 := run_underlying L.t3; have u4 := run_underlying L.t4; have u24 := run_underlying L.t24
  have hz1 : ¬ ((m : Int) = 0) := by omega
  have hz2 : ¬ ((i : Int) = (n : Int)) := by omega
  have hsz : (P.info? (ρ.t 9)).map (·.size) = some z := by
    obtain ⟨i0, hi0, h0, h1, h2⟩ := L.i9
    rw [hi0]; simp [h1]
  have hov : ∀ lb cb, (callFunc (ρ.f 29) #[.slice (some ⟨vb, voff, none⟩) m vc, .slice (some ⟨b, off + (i * z + m * z), none⟩) lb cb]).run P w = .ok (.value (.bool false)) w := fun lb cb => by
    obtain ⟨_, e1, e2, e3, e4, e5⟩ := L.f29
    rw [run_callFunc_extern e1 e2 e3 e4 e5, hov lb cb]
    rfl
  have hmz : (n + m) * z = n * z + m * z := Nat.add_mul _ _ _
  have hmz1 : (i + m) * z = i * z + m * z := Nat.add_mul _ _ _
  have hmz2 : (n - i) * z + i * z = n * z := by rw [← Nat.add_mul]; congr 1; omega
  have hdl : (cs.drop (i * z)).length = (n - i) * z := by rw [List.length_drop, hcl]; omega
  have hmin1 : Nat.min (n + m - i) (n + m - (i + m)) = n - i := by simp only [Nat.min_def]; split <;> omega
  have hmin2 : Nat.min m (n + m - i) = m := by simp only [Nat.min_def]; split <;> omega
  have mixed := L.mixed
  have hw1 : IntKind.i64.wrap ((i : Int) + (m : Int)) = (i : Int) + (m : Int) := by rw [IntKind.wrap_i64]; omega
  have hb1 : (0 : Int) ≤ (i : Int) + (m : Int) := by omega
  have hin : i ≤ n := by omega
  have htn : ((i : Int) + (m : Int)).toNat = i + m := by omega
  have hb2 : ¬ (c = i + m) := by omega
  have hb3 : (i : Int) ≤ (n : Int) + (m : Int) := by omega
  have hb4 : ¬ (c = i) := by omega
  have hcp1 : ∀ ty dc sc, (Builtin.copy_ #[(ρ.t 24), (ρ.t 24)] ty #[.slice (some ⟨b, off + (i * z + m * z), none⟩) (n + m - (i + m)) dc, .slice (some ⟨b, off + i * z, none⟩) (n + m - i) sc]).run P w.drew = .ok (goInt (Nat.min (n + m - i) (n + m - (i + m)))) (w.drew.setCells b (off + (i * z + m * z)) (cs.drop (i * z))) := fun ty dc sc =>
    run_copy_cellsK z w.drew _ _ ty (ρ.t 9) b (off + (i * z + m * z)) (n + m - (i + m)) dc ⟨b, off + i * z, none⟩ (n + m - i) sc (cs.drop (i * z)) L.t24 hsz (by rw [hdl, hmin1])
      (fun j v hj => by rw [Addr.add_lit, Nat.add_assoc]; exact hcs (i * z + j) v (by rwa [List.getElem?_drop] at hj))
      (fun j hj => by rw [Nat.add_assoc]; exact hsp _ (by omega)) (fun j hj => by rw [Nat.add_assoc]; exact hfz _ (by omega)) (fun v hv => h1c v (List.mem_of_mem_drop hv))
  obtain ⟨W1, hW1⟩ : ∃ W1, W1 = w.drew.setCells b (off + (i * z + m * z)) (cs.drop (i * z)) := ⟨_, rfl⟩
  have hsp1 : ∀ k, k < (n + m) * z → (W1.cell? ⟨b, off + k, none⟩).isSome = true := fun k hk => by
    rw [hW1]
    exact isSome_setCells b _ _ _ (fun j hj => by rw [Nat.add_assoc]; exact hsp _ (by omega)) _ (hsp k hk)
  have hcp2 : ∀ (W : World), (∀ x, W.cell? x = W1.cell? x) → (∀ x, W.frozen? x = W1.frozen? x) → ∀ ty dc, (Builtin.copy_ #[(ρ.t 24), (ρ.t 24)] ty #[.slice (some ⟨b, off + i * z, none⟩) (n + m - i) dc, .slice (some ⟨vb, voff, none⟩) m vc]).run P W = .ok (goInt (Nat.min m (n + m - i))) (W.setCells b (off + i * z) vs) := fun W hWc hWf ty dc =>
    run_copy_cellsK z W _ _ ty (ρ.t 9) b (off + i * z) (n + m - i) dc ⟨vb, voff, none⟩ m vc vs L.t24 hsz (by rw [hvl, hmin2])
      (fun j v hj => by
        rw [Addr.add_lit, hWc, hW1, World.cell?_setCells_out b _ _ _ _ (fun h _ => absurd h hvb)]
        exact hvs j v hj)
      (fun j hj => by rw [hWc, Nat.add_assoc]; exact hsp1 _ (by omega)) (fun j hj => by rw [hWf, hW1, World.frozen?_setCells, Nat.add_assoc]; exact hfz _ (by omega)) h1v
  rw [← hW1] at hcp1
  obtain ⟨_, _, FG⟩ := L.f22
  go_enter FG, Body2.n22_ntmps ρ
  go_wp2_with (simp only [hov])
  go_region_law_o (refine step_copy_runI rfl _ _ (ρ.t 24) (ρ.t 24) rfl _ _ (by simp [Act.eval, Act.put]) (by simp [Act.eval, Act.put]) (hcp1 _ _ _) ?_)
  go_wp2_with (at_builtin; refine wpList_copy_runI _ rfl _ _ (ρ.t 24) (ρ.t 24) rfl _ _ rfl rfl (hcp2 _ (fun _ => rfl) (fun _ => rfl) _ _) ?_)
  go_ret
  first | exact ⟨rfl, rfl⟩ | exact ⟨rfl, by rw [hW1]⟩
set_option maxHeartbeats 4000000 in
set_option maxRecDepth 100000 in
theorem insert_end (L : InsIn P ρ z zv) (b off n c vb voff m vc : Nat) (w w' : World) (v' : Value) (hm : 0 < m)
    (hrun : ∀ ty, (Builtin.append_ #[(ρ.t 24), (ρ.t 24)] ty #[.slice (some ⟨b, off, none⟩) n c, .slice (some ⟨vb, voff, none⟩) m vc]).run P w = .ok v' w') :
    Calls P (ρ.f 22) #[.slice (some ⟨b, off, none⟩) n c, .int .i64 n, .slice (some ⟨vb, voff, none⟩) m vc] w fun e w2 => e = .returned v' ∧ w2 = w' := by
  have t0 := L.t0; have a0 := L.a0; have z0 := L.z0; have v0 := L.v0; have t3 := L.t3; have a3 := L.a3; have z3 := L.z3; have v3 := L.v3; have t4 := L.t4; have a4 := L.a4; have z4 := L.z4; have v4 := L.v4; have z9 := L.z9; have t24 := L.t24; have a24 := L.a24; have z24 := L.z24; have v24 := L.v24
  have u0 := run_underlying L.t0; have u3 := run_underlying L.t3; have u4 := run_underlying L.t4; have u24 := run_underlying L.t24
  have mixed := L.mixed
  have hz1 : ¬ ((m : Int) = 0) := by omega
  obtain ⟨_, _, FG⟩ := L.f22
  go_enter FG, Body2.n22_ntmps ρ
  go_wp2_with (at_builtin; refine Lib.wpList_append_run _ rfl _ _ _ _ rfl _ _ rfl rfl _ _ (hrun _) ?_)
  all_goals (go_ret; exact ⟨rfl, rfl⟩)
set_option maxHeartbeats 4000000 in
set_option maxRecDepth 100000 in
theorem insert_end_nil (L : InsIn P ρ z zv) (vb voff m vc : Nat) (w w' : World) (v' : Value) (hm : 0 < m)
    (hrun : ∀ ty, (Builtin.append_ #[(ρ.t 24), (ρ.t 24)] ty #[.slice none 0 0, .slice (some ⟨vb, voff, none⟩) m vc]).run P w = .ok v' w') :
    Calls P (ρ.f 22) #[.slice none 0 0, .int .i64 (0 : Nat), .slice (some ⟨vb, voff, none⟩) m vc] w fun e w2 => e = .returned v' ∧ w2 = w' := by
  have t0 := L.t0; have a0 := L.a0; have z0 := L.z0; have v0 := L.v0; have t3 := L.t3; have a3 := L.a3; have z3 := L.z3; have v3 := L.v3; have t4 := L.t4; have a4 := L.a4; have z4 := L.z4; have v4 := L.v4; have z9 := L.z9; have t24 := L.t24; have a24 := L.a24; have z24 := L.z24; have v24 := L.v24
  have u0 := run_underlying L.t0; have u3 := run_underlying L.t3; have u4 := run_underlying L.t4; have u24 := run_underlying L.t24
  have mixed := L.mixed
  have hz1 : ¬ ((m : Int) = 0) := by omega
  obtain ⟨_, _, FG⟩ := L.f22
  go_enter FG, Body2.n22_ntmps ρ
  go_wp2_with (at_builtin; refine Lib.wpList_append_run _ rfl _ _ _ _ rfl _ _ rfl rfl _ _ (hrun _) ?_)
  all_goals (go_ret; exact ⟨rfl, rfl⟩)
set_option maxHeartbeats 4000000 in
set_option maxRecDepth 100000 in
theorem insert_grow (L : InsIn P ρ z zv) (b off n c i vb voff m vc : Nat) (cs vs : List Value) (w : World) (hi : i < n) (hm : 0 < m) (hnc : n ≤ c) (hroom : c < n + m) (hbig : n + m ≤ 17179869184)
    (hcl : cs.length = n * z) (hvl : vs.length = m * z)
    (hcs : ∀ j v, cs[j]? = some v → w.cell? ⟨b, off + j, none⟩ = some v) (hbw : b < w.heap.size) (hvw : vb < w.heap.size)
    (hvs : ∀ j v, vs[j]? = some v → w.cell? ⟨vb, voff + j, none⟩ = some v) (h1c : ∀ v ∈ cs, v.oneCell' = true) (h1v : ∀ v ∈ vs, v.oneCell' = true) :
    Calls P (ρ.f 22) #[.slice (some ⟨b, off, none⟩) n c, .int .i64 i, .slice (some ⟨vb, voff, none⟩) m vc] w fun e w' =>
      e = .returned (.slice (some ⟨w.heap.size, 0, none⟩) (n + m) (grownCap w (n + m) c (ρ.t 9))) ∧
      w' = (((w.alloc (.cells ((cs.take (i * z)).toArray ++ Builtin.zeroCells zv.cells (n + m - i) ++ Builtin.zeroCells zv.cells (grownCap w (n + m) c (ρ.t 9) - (n + m))) (ρ.t 9))).drew.setCells w.heap.size (i * z) vs).drew).setCells w.heap.size (i * z + m * z) (cs.drop (i * z)) := by
  have t0 := L.t0; have a0 := L.a0; have z0 := L.z0; have v0 := L.v0; have t3 := L.t3; have a3 := L.a3; have z3 := L.z3; have v3 := L.v3; have t4 := L.t4; have a4 := L.a4; have z4 := L.z4; have v4 := L.v4; have z9 := L.z9; have t24 := L.t24; have a24 := L.a24; have z24 := L.z24; have v24 := L.v24
  have u0 := run_underlying L.t0; have u3 := run_underlying L.t3; have u4 := run_underlying L.t4; have u24 := run_underlying L.t24
  have mixed := L.mixed
  obtain ⟨i0, hi0, hz0, hzs, hzb⟩ := L.i9
  have zn := L.zn
  have zc := L.zc
  have hz1 : ¬ ((m : Int) = 0) := by omega
  have hz2 : ¬ ((i : Int) = (n : Int)) := by omega
  have hz3 : (c : Int) < (n : Int) + (m : Int) := by omega
  have hsz : (P.info? (ρ.t 9)).map (·.size) = some z := by rw [hi0]; simp [hzs]
  have hkk : (n : Int) + (m : Int) - (i : Int) = ((n + m - i : Nat) : Int) := by omega
  have hik : i + (n + m - i) = n + m := by omega
  have hni : n * z = i * z + (n - i) * z := by rw [← Nat.add_mul]; congr 1; omega
  have hold : (Builtin.firstCells i0.size i (.slice (some ⟨b, off, none⟩) i c)).run P w.drew = .ok (cs.take (i * z)).toArray w.drew := by
    rw [hzs]
    exact run_firstCells_some w.drew z i ⟨b, off, none⟩ i c (cs.take (i * z)) (by rw [List.length_take]; omega) (fun j v hj => by
      rw [Addr.add_lit]
      rw [List.getElem?_take] at hj
      split at hj
      · exact hcs j v hj
      · cases hj)
  have hrz : ∀ ty, (Builtin.append_ #[(ρ.t 24), (ρ.t 3)] ty #[.slice (some ⟨b, off, none⟩) i c, .int .i64 ((n : Int) + (m : Int) - (i : Int))]).run P w =
      .ok (.slice (some ⟨w.heap.size, 0, none⟩) (n + m) (grownCap w (n + m) c (ρ.t 9))) (w.drew.alloc (.cells ((cs.take (i * z)).toArray ++ Builtin.zeroCells zv.cells (n + m - i) ++ Builtin.zeroCells zv.cells (grownCap w (n + m) c (ρ.t 9) - (n + m))) (ρ.t 9))) := fun ty => by
    have hfit : Builtin.nextslicecap (n + m) c * i0.bytes ≤ 281474976710656 := by
      have h1 := nextslicecap_le hroom
      have h2 : Builtin.nextslicecap (n + m) c * i0.bytes ≤ 34359738368 * 4096 := Nat.mul_le_mul (by omega) hzb
      omega
    have hfit2 : (n + m - i) * i0.bytes ≤ 281474976710656 := by
      have h2 : (n + m - i) * i0.bytes ≤ 34359738368 * 4096 := Nat.mul_le_mul (by omega) hzb
      omega
    have h := Lib.run_append_grow_zeros w (ρ.t 24) (ρ.t 3) ty (ρ.t 9) i0 _ .i64 .i64 L.t24 L.t3 hi0 hz0 (some ⟨b, off, none⟩) i c (cs.take (i * z)) hold (n + m - i) (by omega) (by omega) (by omega) (by omega) hfit2 (by rw [hik]; exact hfit)
    rw [hik] at h
    rw [hkk]
    exact h
  obtain ⟨G, hG⟩ : ∃ G, G = grownCap w (n + m) c (ρ.t 9) := ⟨_, rfl⟩
  obtain ⟨ROW, hROW⟩ : ∃ ROW : Array Value, ROW = (cs.take (i * z)).toArray ++ Builtin.zeroCells zv.cells (n + m - i) ++ Builtin.zeroCells zv.cells (G - (n + m)) := ⟨_, rfl⟩
  rw [← hG] at hrz ⊢
  rw [← hROW] at hrz ⊢
  have hmz : (n + m) * z = n * z + m * z := Nat.add_mul _ _ _
  have hmz2 : (n + m - i) * z + i * z = (n + m) * z := by rw [← Nat.add_mul]; congr 1; omega
  have hRl : (n + m) * z ≤ ROW.size := by
    have e1 : ((cs.take (i * z)).toArray ++ Builtin.zeroCells zv.cells (n + m - i)).size = i * z + (n + m - i) * z := by
      simp [Builtin.zeroCells, zc]
      omega
    rw [hROW, Array.size_append, e1]
    omega
  obtain ⟨W1, hW1⟩ : ∃ W1, W1 = w.drew.alloc (.cells ROW (ρ.t 9)) := ⟨_, rfl⟩
  rw [← hW1] at hrz
  have hN : ∀ j, j < (n + m) * z → (W1.cell? ⟨w.heap.size, j, none⟩).isSome = true := fun j hj => by
    rw [hW1, World.cell?_alloc_at (w := w.drew) ROW _ w.heap.size j rfl, Array.getElem?_eq_getElem (by omega)]; rfl
  have hNf : ∀ j, W1.frozen? ⟨w.heap.size, j, none⟩ = false := fun j => by rw [hW1]; exact World.frozen?_alloc_at (w := w.drew) ROW _ w.heap.size j rfl
  have hOb : ∀ j v, w.cell? ⟨b, j, none⟩ = some v → W1.cell? ⟨b, j, none⟩ = some v := fun j v h => by rw [hW1, World.cell?_alloc_past (w := w.drew) _ b j hbw]; exact h
  have hOv : ∀ j v, w.cell? ⟨vb, j, none⟩ = some v → W1.cell? ⟨vb, j, none⟩ = some v := fun j v h => by rw [hW1, World.cell?_alloc_past (w := w.drew) _ vb j hvw]; exact h
  have hmin1 : Nat.min m (n + m - i) = m := by simp only [Nat.min_def]; split <;> omega
  have hmin2 : Nat.min (n - i) (n + m - (i + m)) = n - i := by simp only [Nat.min_def]; split <;> omega
  have hcpA : ∀ (W : World), (∀ x, W.cell? x = W1.cell? x) → (∀ x, W.frozen? x = W1.frozen? x) → ∀ ty dc, (Builtin.copy_ #[(ρ.t 24), (ρ.t 24)] ty #[.slice (some ⟨w.heap.size, i * z, none⟩) (n + m - i) dc, .slice (some ⟨vb, voff, none⟩) m vc]).run P W = .ok (goInt (Nat.min m (n + m - i))) (W.setCells w.heap.size (i * z) vs) := fun W hWc hWf ty dc =>
    run_copy_cellsK z W _ _ ty (ρ.t 9) w.heap.size (i * z) (n + m - i) dc ⟨vb, voff, none⟩ m vc vs L.t24 hsz (by rw [hvl, hmin1])
      (fun j v hj => by rw [Addr.add_lit, hWc]; exact hOv _ v (hvs j v hj))
      (fun j hj => by rw [hWc]; exact hN _ (by omega)) (fun j hj => by rw [hWf]; exact hNf _) h1v
  have hGn : n + m ≤ G := by rw [hG]; exact grownCap_ge w _ _ _
  have hG63 : G ≤ 9223372036854775807 := by
    have := grownCap_le_maxLen w (n + m) c (ρ.t 9) (by unfold maxLen; omega)
    rw [← hG] at this
    unfold maxLen at this
    omega
  have hGi : ¬ (G = i) := by omega
  have hGim : ¬ (G = i + m) := by omega
  have hci : ¬ (c = i) := by omega
  have hbN : b ≠ w.heap.size := by omega
  have hdl : (cs.drop (i * z)).length = (n - i) * z := by rw [List.length_drop, hcl]; omega
  have hcpB : ∀ (W : World), (∀ x, W.cell? x = (W1.setCells w.heap.size (i * z) vs).cell? x) → (∀ x, W.frozen? x = (W1.setCells w.heap.size (i * z) vs).frozen? x) → ∀ ty dc sc, (Builtin.copy_ #[(ρ.t 24), (ρ.t 24)] ty #[.slice (some ⟨w.heap.size, i * z + m * z, none⟩) (n + m - (i + m)) dc, .slice (some ⟨b, off + i * z, none⟩) (n - i) sc]).run P W = .ok (goInt (Nat.min (n - i) (n + m - (i + m)))) (W.setCells w.heap.size (i * z + m * z) (cs.drop (i * z))) := fun W hWc hWf ty dc sc =>
    run_copy_cellsK z W _ _ ty (ρ.t 9) w.heap.size (i * z + m * z) (n + m - (i + m)) dc ⟨b, off + i * z, none⟩ (n - i) sc (cs.drop (i * z)) L.t24 hsz (by rw [hdl, hmin2])
      (fun j v hj => by
        rw [Addr.add_lit, hWc, World.cell?_setCells_out _ _ _ _ _ (fun h _ => absurd h hbN), Nat.add_assoc]
        exact hOb _ v (hcs (i * z + j) v (by rwa [List.getElem?_drop] at hj)))
      (fun j hj => by rw [hWc]; exact isSome_setCells _ _ _ _ (fun t ht => hN _ (by omega)) _ (hN _ (by omega)))
      (fun j hj => by rw [hWf, World.frozen?_setCells]; exact hNf _) (fun v hv => h1c v (List.mem_of_mem_drop hv))
  subst hW1
  have hE1 : ∀ x, ((w.alloc (.cells ROW (ρ.t 9))).drew).cell? x = (w.drew.alloc (.cells ROW (ρ.t 9))).cell? x := fun x => rfl
  have hE2 : ∀ x, ((w.alloc (.cells ROW (ρ.t 9))).drew).frozen? x = (w.drew.alloc (.cells ROW (ρ.t 9))).frozen? x := fun x => rfl
  have hF1 : ∀ x, (((w.alloc (.cells ROW (ρ.t 9))).drew.setCells w.heap.size (i * z) vs).drew).cell? x = ((w.drew.alloc (.cells ROW (ρ.t 9))).setCells w.heap.size (i * z) vs).cell? x := fun x => rfl
  have hF2 : ∀ x, (((w.alloc (.cells ROW (ρ.t 9))).drew.setCells w.heap.size (i * z) vs).drew).frozen? x = ((w.drew.alloc (.cells ROW (ρ.t 9))).setCells w.heap.size (i * z) vs).frozen? x := fun x => rfl
  have hw1 : IntKind.i64.wrap ((i : Int) + (m : Int)) = (i : Int) + (m : Int) := by rw [IntKind.wrap_i64]; omega
  have hb1 : (0 : Int) ≤ (i : Int) + (m : Int) := by omega
  have hin : i ≤ n := by omega
  have htn : ((i : Int) + (m : Int)).toNat = i + m := by omega
  have hb3 : (i : Int) ≤ (n : Int) := by omega
  have him : (i + m) * z = i * z + m * z := Nat.add_mul _ _ _
  clear hkk hik hold hROW hG hRl hmz hmz2 hni zn zc hdl hmin1 hmin2
  obtain ⟨_, _, FG⟩ := L.f22
  go_enter FG, Body2.n22_ntmps ρ
  go_wp2_with (first
    | (at_builtin; refine Lib.wpList_append_run _ rfl _ _ _ _ rfl _ _ rfl rfl _ _ (hrz _) ?_)
    | (at_builtin; refine wpList_copy_runI _ rfl _ _ (ρ.t 24) (ρ.t 24) rfl _ _ rfl rfl (hcpA _ hE1 hE2 _ _) ?_)
    | (at_builtin; refine wpList_copy_runI _ rfl _ _ (ρ.t 24) (ρ.t 24) rfl _ _ rfl rfl (hcpB _ (fun _ => rfl) (fun _ => rfl) _ _ _) ?_))
  go_region_law_o (refine step_copy_runI rfl _ _ (ρ.t 24) (ρ.t 24) rfl (.slice (some ⟨w.heap.size, i * z + m * z, none⟩) (n + m - (i + m)) (G - (i + m))) (.slice (some ⟨b, off + i * z, none⟩) (n - i) (c - i)) (by simp [Act.eval, Act.put, him]) (by simp [Act.eval, Act.put]) (hcpB _ hF1 hF2 (ρ.t 3) (G - (i + m)) (c - i)) ?_)
  go_wp2
  go_ret
  exact ⟨rfl, rfl⟩
end
theorem vals_flat : ∀ {k : K} (x : T k) (l l' : L k), k.flat = true → vals k x l = vals k x l'
  | .int _, _, _, _, _ | .bool, _, _, _, _ | .str, _, _, _, _ | .unit, _, _, _, _ => rfl
  | .pair a b, x, l, l', h => by
    simp only [K.flat, Bool.and_eq_true] at h
    simp only [vals, vals_flat x.1 l.1 l'.1 h.1, vals_flat x.2 l.2 l'.2 h.2]
  | .sl _, _, _, _, h => by cases h
theorem valOf_L {k : K} : ∀ (x : T k) (l l' : L k), k.flat = true → valOf k x l = valOf k x l' := by
  intro x l l' h
  cases k with
  | pair a b => simp only [valOf, vals_flat x l l' h]
  | sl _ => cases h
  | _ => rfl
def flCells (k : K) (xs : List (T k)) : List Value := elCells k xs.length xs fun _ => zeroL k
theorem flCells_len {k : K} (xs : List (T k)) : (flCells k xs).length = xs.length * k.size := elCells_length
theorem flCells_one {k : K} (hk : k.size ≠ 0) (xs : List (T k)) : ∀ v ∈ flCells k xs, v.oneCell' = true := by
  intro v hv
  obtain ⟨j, hj⟩ := List.getElem?_of_mem hv
  obtain ⟨x, _, hu⟩ := elCells_at hk hj
  exact one_cell v (vals_one k x _ v (List.mem_of_getElem? hu))
theorem flCells_app {k : K} (xs ys : List (T k)) : flCells k (xs ++ ys) = flCells k xs ++ flCells k ys := by
  have h : ∀ (zs : List (T k)), flCells k zs = (zs.map fun x => vals k x (zeroL k)).flatten := by
    intro zs
    unfold flCells elCells
    rw [List.flatMap_def]
    congr 1
    apply List.ext_getElem?
    intro i
    simp only [List.getElem?_map]
    rcases Nat.lt_or_ge i zs.length with hi | hi
    · rw [List.getElem?_range hi, List.getElem?_eq_getElem hi]
      simp [List.getElem?_eq_getElem hi]
    · rw [List.getElem?_eq_none (by simpa using hi), List.getElem?_eq_none hi]; rfl
  rw [h, h, h, List.map_append, List.flatten_append]
theorem flCells_take {k : K} (xs : List (T k)) (i : Nat) (hi : i ≤ xs.length) : (flCells k xs).take (i * k.size) = flCells k (xs.take i) ∧ (flCells k xs).drop (i * k.size) = flCells k (xs.drop i) := by
  have h := flCells_app (xs.take i) (xs.drop i)
  rw [List.take_append_drop] at h
  have hl : (flCells k (xs.take i)).length = i * k.size := by rw [flCells_len, List.length_take, Nat.min_eq_left hi]
  rw [h, ← hl]
  exact ⟨List.take_left' rfl, List.drop_left' rfl⟩
theorem cellsAt_fl {k : K} {cs : Array Value} {o : Nat} {xs : List (T k)} (hf : k.flat = true) (h : cellsAt cs o (flCells k xs)) (l : Nat → L k) : ∀ i x, xs[i]? = some x → cellsAt cs (o + i * k.size) (vals k x (l i)) := by
  intro i x hx j v hj
  rw [vals_flat x (l i) (zeroL k) hf] at hj
  have hjl : j < k.size := by have := (List.getElem?_eq_some_iff.1 hj).1; rwa [vals_length] at this
  rw [Nat.add_assoc]
  exact h _ _ (by rw [flCells, elCells_get hx hjl]; exact hj)
theorem fl_cells {k : K} {cs : Array Value} {o : Nat} {xs : List (T k)} (hk : k.size ≠ 0) (hf : k.flat = true) {l : Nat → L k} (h : ∀ i x, xs[i]? = some x → cellsAt cs (o + i * k.size) (vals k x (l i))) : cellsAt cs o (flCells k xs) := by
  intro j v hj
  obtain ⟨x, hx, hu⟩ := elCells_at hk hj
  rw [vals_flat x (zeroL k) (l (j / k.size)) hf] at hu
  have := h _ _ hx _ _ hu
  rwa [Nat.add_assoc, Nat.mul_comm, Nat.div_add_mod] at this
theorem slice_left {k : K} {ps : List Pm} {fn : Ps (.mov (.sl k) (.o .s) :: ps) → Option (Rs [((.sl k : K), Mk.o .s)] × Rs (Pm.outs (.mov (.sl k) (.o .s) :: ps)))} {w w' : World} {F : Nat → Prop} {x : Ps (.mov (.sl k) (.o .s) :: ps)} {l : PL (.mov (.sl k) (.o .s) :: ps)} {zs : List (T k)} {b' o' cap' : Nat}
    (hf : k.flat = true) (h1 : argFp ps x.2 l.2 = []) (h2 : argBs ps l.2 = []) (h3 : Pm.outs ps = []) (ro : Rs (Pm.outs (.mov (.sl k) (.o .s) :: ps))) (lo : L (resK (Pm.outs (.mov (.sl k) (.o .s) :: ps)))) (ho : OutsOk w' F ps x.2 l.2 ro lo)
    (hb : BlkE k cap' w' b' fun cs => cellsAt cs o' (flCells k zs) ∧ o' + cap' * k.size ≤ cs.size) (hlen : zs.length ≤ cap') (hc : cap' ≠ 0)
    (hw : b' ∈ fp (.sl k) (.o .s) x.1 l.1 ∨ b' = w.heap.size) (hnF : ∀ b ∈ fp (.sl k) (.o .s) x.1 l.1, ¬ F b) (hlt : ∀ b, F b → b < w.heap.size)
    (hold : ∀ c, c ≠ b' → c < w.heap.size → w'.heap[c]? = w.heap[c]?) (hsz : w.heap.size ≤ w'.heap.size) (hos : w'.os = w.os) (htp : w'.tape = w.tape) (hou : OutLe w w') :
    Left w w' F F ⟨.mov (.sl k) (.o .s) :: ps, [((.sl k : K), Mk.o .s)], fn⟩ x l (zs, ()) ro (((some (b', o'), cap'), fun _ => zeroL k), ()) lo := by
  have hfp : fp (resK [((.sl k : K), Mk.o .s)]) (resM [((.sl k : K), Mk.o .s)]) (zs, ()) (((some (b', o'), cap'), fun _ => zeroL k), ()) = [b'] := by
    have : fpL (fp k .s) zs (fun _ => zeroL k) = [] := List.eq_nil_iff_forall_not_mem.2 fun c hc => by
      obtain ⟨i, y, _, hb⟩ := mem_fpL.1 hc
      rw [fp_clear rfl] at hb
      cases hb
    show fp (.sl k) (.o .s) zs ((some (b', o'), cap'), fun _ => zeroL k) ++ fp .unit .s () () = _
    simp only [fp, Mk.owns, if_true, Mk.inner, this, own1, hc, if_false, List.append_nil, Option.map_some, Option.toList_some]
  have hfo : fp (resK (Pm.outs (.mov (.sl k) (.o .s) :: ps))) (resM (Pm.outs (.mov (.sl k) (.o .s) :: ps))) ro lo = [] := fp_nil h3
  have hbs : argBs (.mov (.sl k) (.o .s) :: ps) l = [] := h2
  have hfx : argFp (.mov (.sl k) (.o .s) :: ps) x l = fp (.sl k) (.o .s) x.1 l.1 := by show fp _ _ _ _ ++ argFp ps x.2 l.2 = _; rw [h1, List.append_nil]
  exact {
    size := hsz, os := hos, tape := htp, out := hou
    old := fun b hb1 hb2 _ => by
      refine hold b (fun e => ?_) hb1
      rcases hw with hw | hw
      · exact hb2 (by rw [hfx, e]; exact hw)
      · omega
    rng := fun q hq => by rw [hbs] at hq; cases hq
    le := fun _ h => h
    new := fun _ h => .inl h
    res := ⟨fun _ => ⟨⟨hlen, (fun h => by cases h), (fun b o e => by
        injection e with e; injection e with e1 e2; subst e1; subst e2
        exact ⟨fun _ _ => hb.mono fun cs h => h.2, fun _ => ⟨(fun h => by cases h), hb.blk.mono fun cs h => cellsAt_fl hf h.1 _⟩⟩), fun _ h0 => absurd h0 hc⟩, fun i x _ => sat_flat hf⟩, trivial⟩
    outs := ho
    nd := by rw [hfp, hfo, hbs]; simp
    apart := fun b hb1 => by
      rw [hfp, hfo] at hb1
      simp only [List.append_nil, List.mem_singleton] at hb1
      subst hb1
      rw [hfx]
      rcases hw with hw | hw
      · exact ⟨hnF _ hw, .inr hw⟩
      · exact ⟨fun hF => by have := hlt _ hF; omega, .inl (by omega)⟩ }
def f_slices_Insert (k : K) (x : Ps [.mov (.sl k) (.o .s), .val (.int .i64), .val (.sl k)]) : Option ((List (T k) × Unit) × Unit) :=
  req (decide (0 ≤ x.2.1) && (decide (x.2.1 ≤ x.1.length) && (decide (1 ≤ x.2.2.1.length) && decide (x.1.length + x.2.2.1.length ≤ 17179869184)))) (some ((x.1.take x.2.1.toNat ++ (x.2.2.1 ++ x.1.drop x.2.1.toNat), ()), ()))
def sgf_slices_Insert (k : K) : Sig := ⟨[.mov (.sl k) (.o .s), .val (.int .i64), .val (.sl k)], [(.sl k, .o .s)], f_slices_Insert k⟩
structure InsLay (P : Program) (ρ : Ren) (k : K) : Prop where
  mixed : P.follows .mixedOrders = true
  f22 : Named P (ρ.f 22) (Body2.n22 ρ)
  f29 : OverIn P (ρ.f 29) #[ρ.t 24, ρ.t 24] (ρ.t 4)
  t0 : P.underlying (ρ.t 0) = some (TypeDesc.tuple #[])
  a0 : ∀ w, (isAgg (ρ.t 0)).run P w = .ok false w
  z0 : ∀ w, (Go.sizeOf (ρ.t 0)).run P w = .ok 1 w
  v0 : ∀ w, (zeroValue (ρ.t 0)).run P w = .ok (Value.tuple #[]) w
  t3 : TyOk P (ρ.t 3) (.int .i64)
  t4 : TyOk P (ρ.t 4) .bool
  t9 : TyOk P (ρ.t 9) k
  t24 : P.underlying (ρ.t 24) = some (TypeDesc.slice (ρ.t 9))
  t24k : TyOk P (ρ.t 24) (.sl k)
  fl : k.flat = true
  ne : k.size ≠ 0
  nb : k ≠ .int .u8
theorem InsLay.in {P : Program} {ρ : Ren} {k : K} (h : InsLay P ρ k) : InsIn P ρ k.size (valOf k k.zero (zeroL k)) where
  mixed := h.mixed
  f22 := h.f22
  f29 := h.f29
  t0 := h.t0
  a0 := h.a0
  z0 := h.z0
  v0 := h.v0
  t3 := h.t3.2
  a3 := run_isAgg h.t3
  z3 := run_sizeK h.t3
  v3 := run_zeroK h.t3
  t4 := h.t4.2
  a4 := run_isAgg h.t4
  z4 := run_sizeK h.t4
  v4 := run_zeroK h.t4
  z9 := run_sizeK h.t9
  t24 := h.t24
  a24 := run_isAgg h.t24k
  z24 := run_sizeK h.t24k
  v24 := run_zeroK h.t24k
  i9 := by
    obtain ⟨i, hi, hsz, hz, hby⟩ := h.t9.i.info
    exact ⟨i, hi, hz, hsz, (hby h.ne).2⟩
  zc := by rw [valOf_cells]; simp [vals_length]
  zn := h.ne
end Go.Proofs.YthlnjkcpdkjipaaDoor.Ev

/- slices.Insert does what its typed function says. -/
namespace Go.Proofs.YthlnjkcpdkjipaaDoor.Ev
open Go Go.Shelf Go.RowKit Go.Lib Go.Proofs
theorem slOk_blk {P : Program} {w : World} {F : Nat → Prop} {k : K} {xs : List (T k)} {q : Option (Nat × Nat)} {cap : Nat} {lx : Nat → L k} (hk : k.size ≠ 0) (hf : k.flat = true)
    (h : sat w F (.sl k) (.o .s) xs ((q, cap), lx)) (hc : cap ≠ 0) : ∃ b off, q = some (b, off) ∧ BlkE k cap w b fun cs => cellsAt cs off (flCells k xs) ∧ off + cap * k.size ≤ cs.size := by
  obtain ⟨⟨h1, h2, h3, _⟩, _⟩ := h (by intro h; cases h)
  cases q with
  | none => exact absurd (h2 rfl) hc
  | some q =>
    obtain ⟨b, off⟩ := q
    refine ⟨b, off, rfl, ?_⟩
    have hb := (h3 b off rfl).1 rfl hc
    by_cases hx : xs = []
    · subst hx
      exact hb.mono fun cs h => ⟨fun j v hj => by have := (List.getElem?_eq_some_iff.1 hj).1; rw [flCells_len] at this; simp at this, h⟩
    · obtain ⟨cs, e, fr, c1, c2, c3, c4⟩ := hb
      obtain ⟨cs', e', fr', d1, _, d2⟩ := ((h3 b off rfl).2 hx).2
      rw [c1] at d1
      injection d1 with d1
      injection d1 with e1 e2 e3
      subst e1
      exact ⟨cs, e, fr, c1, c2, c3, fl_cells hk hf d2, c4⟩
def SlPost (w : World) (k : K) (bs : List Nat) (zs : List (T k)) (e : Ending) (w' : World) : Prop :=
  ∃ b' o' cap', e = .returned (.slice (some ⟨b', o', none⟩) zs.length cap') ∧ (BlkE k cap' w' b' fun cs => cellsAt cs o' (flCells k zs) ∧ o' + cap' * k.size ≤ cs.size) ∧ zs.length ≤ cap' ∧ cap' ≠ 0 ∧
    (b' ∈ bs ∨ b' = w.heap.size) ∧ (∀ c, c ≠ b' → c < w.heap.size → w'.heap[c]? = w.heap[c]?) ∧ w.heap.size ≤ w'.heap.size ∧ w'.os = w.os ∧ w'.tape = w.tape ∧ OutLe w w'
theorem setCells_E {k : K} {c : Nat} {w : World} {b o : Nat} {vs : List Value} {p : Array Value → Prop} (h : BlkE k c w b fun cs => p cs ∧ o + vs.length ≤ cs.size) {q : Array Value → Prop}
    (hq : ∀ cs cs', p cs → cs'.size = cs.size → (∀ j, ¬ (o ≤ j ∧ j < o + vs.length) → cs'[j]? = cs[j]?) → cellsAt cs' o vs → q cs')
    (hu : k.nu8 = true → ∀ v ∈ vs, u8V v = false := by intro hn v hv; first | exact elCells_nu8 hn v hv | exact elCells_nu8 hn v (List.mem_of_mem_drop hv) | exact elCells_nu8 hn v (List.mem_of_mem_take hv)) :
    BlkE k c (w.setCells b o vs) b q ∧ (∀ d, d ≠ b → (w.setCells b o vs).heap[d]? = w.heap[d]?) ∧ (w.setCells b o vs).heap.size = w.heap.size ∧ (w.setCells b o vs).os = w.os ∧ (w.setCells b o vs).tape = w.tape ∧ OutLe w (w.setCells b o vs) := by
  obtain ⟨s1, s2, s3, s4, s5, s6, s7⟩ := setCells_spec vs o w (h.blk.mono fun cs h => h.2)
  refine ⟨?_, s3, s4, s5, s6, s7⟩
  obtain ⟨cs, e, fr, cs', g1, g2, g3, g4⟩ := s1
  obtain ⟨cs2, e2, fr2, k1, _, k3⟩ := s2
  obtain ⟨cs3, e3, fr3, m1, m2, m4, m3, _⟩ := h
  rw [g2] at k1
  injection k1 with k1
  injection k1 with e1 _ _
  subst e1
  rw [g1] at m1
  injection m1 with m1
  injection m1 with e1 e2 e3
  subst e1; subst e2; subst e3
  refine ⟨cs', e, fr, g2, by rw [g3]; exact m2, ⟨by rw [g3]; exact m4.1, fun hn j v hj => ?_⟩, hq cs cs' m3 g3 g4 k3⟩
  by_cases hjo : o ≤ j ∧ j < o + vs.length
  · have hl : j - o < vs.length := by omega
    have := k3 _ _ (List.getElem?_eq_getElem hl)
    rw [show o + (j - o) = j by omega, hj] at this
    injection this with this
    rw [this]
    exact hu hn _ (List.getElem_mem hl)
  · exact m4.2 hn j v (by rw [← g4 j hjo]; exact hj)
theorem cellsAt_keep {cs cs' : Array Value} {o : Nat} {vs : List Value} (h : cellsAt cs o vs) (hs : ∀ j, o ≤ j → j < o + vs.length → cs'[j]? = cs[j]?) : cellsAt cs' o vs := by
  intro j v hj
  have := (List.getElem?_eq_some_iff.1 hj).1
  rw [hs _ (by omega) (by omega)]
  exact h j v hj
theorem ins_cells {k : K} {cs : Array Value} {o i : Nat} {xs ys : List (T k)} (hi : i ≤ xs.length) (h1 : cellsAt cs o ((flCells k xs).take (i * k.size))) (h2 : cellsAt cs (o + i * k.size) (flCells k ys))
    (h3 : cellsAt cs (o + (i * k.size + ys.length * k.size)) ((flCells k xs).drop (i * k.size))) : cellsAt cs o (flCells k (xs.take i ++ (ys ++ xs.drop i))) := by
  rw [flCells_app, flCells_app, ← (flCells_take xs i hi).1, ← (flCells_take xs i hi).2]
  have hl : ((flCells k xs).take (i * k.size)).length = i * k.size := by
    rw [(flCells_take xs i hi).1, flCells_len, List.length_take, Nat.min_eq_left hi]
  refine cellsAt_append.2 ⟨h1, cellsAt_append.2 ⟨by rw [hl]; exact h2, ?_⟩⟩
  rw [hl, flCells_len, Nat.add_assoc]
  exact h3
theorem insert_calls {P : Program} {ρ : Ren} {k : K} (L : InsLay P ρ k) {w : World} {F : Nat → Prop} {xs ys : List (T k)} {i : Nat} {q : Option (Nat × Nat)} {cap : Nat} {lx : Nat → Ev.L k} {vb voff vc : Nat}
    (hs : sat w F (.sl k) (.o .s) xs ((q, cap), lx)) (hno : ∀ b ∈ fp (.sl k) (.o .s) xs ((q, cap), lx), ¬ F b ∧ b < w.heap.size) (hv : BlkG false w vb fun cs => cellsAt cs voff (flCells k ys)) (hF : F vb)
    (hi : i ≤ xs.length) (hm : 1 ≤ ys.length) (hbig : xs.length + ys.length ≤ 17179869184) :
    Calls P (ρ.f 22) #[.slice (adr q) xs.length cap, .int .i64 i, .slice (some ⟨vb, voff, none⟩) ys.length vc] w (SlPost w k (fp (.sl k) (.o .s) xs ((q, cap), lx)) (xs.take i ++ (ys ++ xs.drop i))) := by
  have I := L.in
  have hk := L.ne
  have hf := L.fl
  have hkp := Nat.pos_of_ne_zero hk
  have hcl := flCells_len xs
  have hvl := flCells_len ys
  have hvs : ∀ j v, (flCells k ys)[j]? = some v → w.cell? ⟨vb, voff + j, none⟩ = some v := fun j v hj => by
    have := blk_cells hv j v hj
    rwa [add_mk] at this
  have h1v := flCells_one hk ys
  have h1c := flCells_one hk xs
  have hzl : (xs.take i ++ (ys ++ xs.drop i)).length = xs.length + ys.length := by
    simp only [List.length_append, List.length_take, List.length_drop, Nat.min_eq_left hi]
    omega
  have hcap1 : xs.length ≤ cap := (hs (by intro h; cases h)).1.1
  obtain ⟨i0, hi0, hz0, hsz0, hby⟩ := I.i9
  have hsrc : Src P i0.size (ρ.t 24) (.slice (some ⟨vb, voff, none⟩) ys.length vc) ys.length (flCells k ys) w := by
    rw [hsz0]
    exact Src.ofSlice w I.t24 ⟨vb, voff, none⟩ ys.length vc _ hvl (fun j u hj => by rw [Addr.add_lit]; exact hvs j u hj) h1v
  have hfpc : ∀ b o, q = some (b, o) → cap ≠ 0 → b ∈ fp (.sl k) (.o .s) xs ((q, cap), lx) := fun b o e hc => by
    simp only [fp, Mk.owns, if_true, List.mem_append]
    exact .inl (mem_own1.2 ⟨hc, o, e⟩)
  rcases Nat.lt_or_ge cap (xs.length + ys.length) with hroom | hroom
  · -- a new row
    have hfit : Builtin.nextslicecap (xs.length + ys.length) cap * i0.bytes ≤ 281474976710656 := by
      have h1 := nextslicecap_le hroom
      have h2 : Builtin.nextslicecap (xs.length + ys.length) cap * i0.bytes ≤ 34359738368 * 4096 := Nat.mul_le_mul (by omega) hby
      omega
    have hG63 : grownCap w (xs.length + ys.length) cap (ρ.t 9) ≤ 9223372036854775807 := by
      have := grownCap_le_maxLen w (xs.length + ys.length) cap (ρ.t 9) (by unfold maxLen; omega)
      unfold maxLen at this
      omega
    have hGn : xs.length + ys.length ≤ grownCap w (xs.length + ys.length) cap (ρ.t 9) := grownCap_ge w _ _ _
    obtain ⟨G, hG⟩ : ∃ G, G = grownCap w (xs.length + ys.length) cap (ρ.t 9) := ⟨_, rfl⟩
    by_cases hin : i = xs.length
    · -- at the end
      subst hin
      have hzs : xs.take xs.length ++ (ys ++ xs.drop xs.length) = xs ++ ys := by simp
      have hpost : ∀ (olds : List Value), olds = flCells k xs → SlPost w k (fp (.sl k) (.o .s) xs ((q, cap), lx)) (xs.take xs.length ++ (ys ++ xs.drop xs.length)) (.returned (.slice (some ⟨w.heap.size, 0, none⟩) (xs.length + ys.length) (grownCap w (xs.length + ys.length) cap (ρ.t 9))))
          (w.drew.alloc (.cells ((olds ++ flCells k ys).toArray ++ Builtin.zeroCells (valOf k k.zero (zeroL k)).cells (grownCap w (xs.length + ys.length) cap (ρ.t 9) - (xs.length + ys.length))) (ρ.t 9))) := by
        intro olds ho
        subst ho
        rw [← hG] at hG63 hGn ⊢
        obtain ⟨ROW, hROW⟩ : ∃ ROW : Array Value, ROW = (flCells k xs ++ flCells k ys).toArray ++ Builtin.zeroCells (valOf k k.zero (zeroL k)).cells (G - (xs.length + ys.length)) := ⟨_, rfl⟩
        rw [← hROW]
        refine ⟨w.heap.size, 0, G, by rw [hzs, List.length_append], ⟨ROW, ρ.t 9, (0, 0), by show (w.heap.push _)[w.heap.size]? = _; simp, fun j _ => by simp, ⟨fun _ => ⟨by simp, hG63⟩, fun hn j v hj => by
          have hm : v ∈ ROW.toList := by rw [Array.mem_toList_iff]; exact Array.mem_of_getElem? hj
          rw [hROW, Array.toList_append] at hm
          rcases List.mem_append.1 hm with hm | hm
          · rcases List.mem_append.1 hm with hm | hm
            · exact elCells_nu8 hn v hm
            · exact elCells_nu8 hn v hm
          · rw [valOf_cells] at hm; exact zeroCells_nu8 hn hk v hm⟩, ?_, ?_⟩, by rw [hzs, List.length_append]; exact hGn, by omega, .inr rfl, fun c h1 h2 => by show (w.heap.push _)[c]? = _; simp [Array.getElem?_push, Nat.ne_of_lt h2], by show w.heap.size ≤ (w.heap.push _).size; simp, rfl, rfl, ⟨rfl, Nat.le_succ _⟩⟩
        · rw [hzs, flCells_app]
          intro j v hj
          have hjl := (List.getElem?_eq_some_iff.1 hj).1
          rw [Nat.zero_add, hROW, Array.getElem?_append_left (by simpa using hjl), List.getElem?_toArray]
          exact hj
        · have e1 : (Builtin.zeroCells (valOf k k.zero (zeroL k)).cells (G - (xs.length + ys.length))).size = (G - (xs.length + ys.length)) * k.size := by
            rw [valOf_cells]
            simp [Builtin.zeroCells, vals_length]
          rw [hROW, Array.size_append, e1]
          simp only [List.size_toArray, List.length_append, hcl, hvl]
          have : G * k.size = (G - (xs.length + ys.length)) * k.size + (xs.length + ys.length) * k.size := by rw [← Nat.add_mul]; congr 1; omega
          rw [this, Nat.add_mul]
          omega
      by_cases hc0 : cap = 0
      · subst hc0
        have hx : xs = [] := List.eq_nil_of_length_eq_zero (by omega)
        subst hx
        cases q with
        | none =>
          have hrun := fun ty => run_append_grow_src (P := P) w (ρ.t 24) (ρ.t 24) ty (ρ.t 9) i0 _ I.t24 hi0 hz0 none 0 0 [] (run_firstCells_none _ _ _ _ _) _ ys.length _ hsrc hroom (by omega) hfit
          exact (insert_end_nil I vb voff ys.length vc w _ _ hm hrun).mono fun e w' ⟨h1, h2⟩ => by subst h1; subst h2; exact hpost [] rfl
        | some q =>
          obtain ⟨b, off⟩ := q
          have hrun := fun ty => run_append_grow_src (P := P) w (ρ.t 24) (ρ.t 24) ty (ρ.t 9) i0 _ I.t24 hi0 hz0 (some ⟨b, off, none⟩) 0 0 [] (run_firstCells_some (P := P) w.drew i0.size 0 ⟨b, off, none⟩ 0 0 [] (by simp) (fun j v hj => by simp at hj)) _ ys.length _ hsrc hroom (by omega) hfit
          exact (insert_end I b off 0 0 vb voff ys.length vc w _ _ hm hrun).mono fun e w' ⟨h1, h2⟩ => by subst h1; subst h2; exact hpost [] rfl
      · obtain ⟨b, off, rfl, hb⟩ := slOk_blk (P := P) hk hf hs hc0
        have hrun := fun ty => run_append_grow_src (P := P) w (ρ.t 24) (ρ.t 24) ty (ρ.t 9) i0 _ I.t24 hi0 hz0 (some ⟨b, off, none⟩) xs.length cap (flCells k xs)
          (by rw [hsz0]; exact run_firstCells_some (P := P) w.drew k.size xs.length ⟨b, off, none⟩ xs.length cap _ (by rw [hcl]) (fun j v hj => blk_cells (w := w) (hb.blk.mono fun cs h => h.1) j v hj)) _ ys.length _ hsrc hroom (by omega) hfit
        exact (insert_end I b off xs.length cap vb voff ys.length vc w _ _ hm hrun).mono fun e w' ⟨h1, h2⟩ => by subst h1; subst h2; exact hpost _ rfl
    · -- in the midst
      have hin : i < xs.length := by omega
      obtain ⟨b, off, rfl, hb⟩ := slOk_blk (P := P) hk hf hs (by omega)
      have hbf := hfpc b off rfl (by omega)
      refine (insert_grow I b off xs.length cap i vb voff ys.length vc (flCells k xs) (flCells k ys) w hin hm hcap1 hroom hbig hcl hvl
        (fun j v hj => by have := blk_cells (w := w) (hb.blk.mono fun cs h => h.1) j v hj; rwa [add_mk] at this) (hno b hbf).2 hv.lt hvs h1c h1v).mono fun e w' ⟨h1, h2⟩ => ?_
      subst h1; subst h2
      rw [← hG] at hG63 hGn ⊢
      have hmz : (xs.length + ys.length) * k.size = xs.length * k.size + ys.length * k.size := Nat.add_mul _ _ _
      have hni : xs.length * k.size = i * k.size + (xs.length - i) * k.size := by rw [← Nat.add_mul]; congr 1; omega
      have hmz2 : (xs.length + ys.length - i) * k.size + i * k.size = (xs.length + ys.length) * k.size := by rw [← Nat.add_mul]; congr 1; omega
      have hdl : ((flCells k xs).drop (i * k.size)).length = (xs.length - i) * k.size := by rw [List.length_drop, hcl]; omega
      have htl : ((flCells k xs).take (i * k.size)).length = i * k.size := by rw [List.length_take, hcl]; omega
      have hgz : G * k.size = (G - (xs.length + ys.length)) * k.size + (xs.length + ys.length) * k.size := by rw [← Nat.add_mul]; congr 1; omega
      have hzc : ∀ n, (Builtin.zeroCells (valOf k k.zero (zeroL k)).cells n).size = n * k.size := fun n => by
        rw [valOf_cells]
        simp [Builtin.zeroCells, vals_length]
      obtain ⟨ROW, hROW⟩ : ∃ ROW : Array Value, ROW = ((flCells k xs).take (i * k.size)).toArray ++ Builtin.zeroCells (valOf k k.zero (zeroL k)).cells (xs.length + ys.length - i) ++ Builtin.zeroCells (valOf k k.zero (zeroL k)).cells (G - (xs.length + ys.length)) := ⟨_, rfl⟩
      rw [← hROW]
      have hRs : ROW.size = G * k.size := by
        rw [hROW, Array.size_append, Array.size_append, hzc, hzc, List.size_toArray, htl]
        omega
      have hR1 : cellsAt ROW 0 ((flCells k xs).take (i * k.size)) := by
        intro j v hj
        have hjl := (List.getElem?_eq_some_iff.1 hj).1
        rw [Nat.zero_add, hROW, Array.getElem?_append_left (by rw [Array.size_append, List.size_toArray]; omega), Array.getElem?_append_left (by simpa using hjl), List.getElem?_toArray]
        exact hj
      obtain ⟨W1, hW1⟩ : ∃ W1 : World, W1 = (w.alloc (.cells ROW (ρ.t 9))).drew := ⟨_, rfl⟩
      rw [← hW1]
      have a1 : BlkE k G W1 w.heap.size fun cs => (cellsAt cs 0 ((flCells k xs).take (i * k.size)) ∧ G * k.size ≤ cs.size) ∧ i * k.size + (flCells k ys).length ≤ cs.size := by
        rw [hW1]
        refine ⟨ROW, ρ.t 9, (0, 0), by show (w.heap.push _)[w.heap.size]? = _; simp, fun j _ => by simp, ⟨fun _ => ⟨by simp, hG63⟩, fun hn j v hj => by
          have hm : v ∈ ROW.toList := by rw [Array.mem_toList_iff]; exact Array.mem_of_getElem? hj
          rw [hROW, Array.toList_append, Array.toList_append, valOf_cells] at hm
          rcases List.mem_append.1 hm with hm | hm
          · rcases List.mem_append.1 hm with hm | hm
            · exact elCells_nu8 hn v (List.mem_of_mem_take hm)
            · exact zeroCells_nu8 hn hk v hm
          · exact zeroCells_nu8 hn hk v hm⟩, ⟨hR1, by omega⟩, by rw [hvl]; omega⟩
      obtain ⟨b1, c1, d1, e1, f1, g1⟩ := setCells_E (q := fun cs => ((cellsAt cs 0 ((flCells k xs).take (i * k.size)) ∧ cellsAt cs (i * k.size) (flCells k ys)) ∧ G * k.size ≤ cs.size) ∧ (i * k.size + ys.length * k.size) + ((flCells k xs).drop (i * k.size)).length ≤ cs.size) a1
        (fun cs cs' h1 h2 h3 h4 => ⟨⟨⟨cellsAt_keep h1.1 fun j _ hj => h3 j (by rw [htl] at hj; omega), h4⟩, by omega⟩, by rw [hdl]; omega⟩)
      obtain ⟨W2, hW2⟩ : ∃ W2 : World, W2 = (W1.setCells w.heap.size (i * k.size) (flCells k ys)).drew := ⟨_, rfl⟩
      rw [← hW2]
      have b2 : BlkE k G W2 w.heap.size fun cs => ((cellsAt cs 0 ((flCells k xs).take (i * k.size)) ∧ cellsAt cs (i * k.size) (flCells k ys)) ∧ G * k.size ≤ cs.size) ∧ (i * k.size + ys.length * k.size) + ((flCells k xs).drop (i * k.size)).length ≤ cs.size := by
        rw [hW2]; exact b1
      obtain ⟨b3, c3, d3, e3, f3, g3⟩ := setCells_E (q := fun cs => cellsAt cs 0 (flCells k (xs.take i ++ (ys ++ xs.drop i))) ∧ 0 + G * k.size ≤ cs.size) b2
        (fun cs cs' h1 h2 h3 h4 => ⟨ins_cells hi (cellsAt_keep h1.1.1 fun j _ hj => h3 j (by rw [htl] at hj; omega)) (by
          rw [Nat.zero_add]
          exact cellsAt_keep h1.1.2 fun j _ hj => h3 j (by rw [hvl] at hj; omega)) (by rw [Nat.zero_add]; exact h4), by omega⟩)
      have hW1h : ∀ c, c < w.heap.size → W1.heap[c]? = w.heap[c]? := fun c h => by rw [hW1]; show (w.heap.push _)[c]? = _; simp [Array.getElem?_push, Nat.ne_of_lt h]
      have hW1s : W1.heap.size = w.heap.size + 1 := by rw [hW1]; show (w.heap.push _).size = _; simp
      refine ⟨w.heap.size, 0, G, by rw [hzl], b3, by rw [hzl]; exact hGn, by omega, .inr rfl, fun c h1 h2 => ?_, ?_, ?_, ?_, ?_⟩
      · rw [c3 c h1, hW2]
        show (W1.setCells _ _ _).heap[c]? = _
        rw [c1 c h1, hW1h c h2]
      · rw [d3, hW2]
        show _ ≤ (W1.setCells _ _ _).heap.size
        rw [d1, hW1s]; omega
      · rw [e3, hW2]
        show (W1.setCells _ _ _).os = _
        rw [e1, hW1]; rfl
      · rw [f3, hW2]
        show (W1.setCells _ _ _).tape = _
        rw [f1, hW1]; rfl
      · refine g3.trans ?_
        rw [hW2]
        refine OutLe.trans (b := W1.setCells w.heap.size (i * k.size) (flCells k ys)) ⟨rfl, Nat.le_succ _⟩ (g1.trans ?_)
        rw [hW1]
        exact ⟨rfl, Nat.le_succ _⟩
  · -- in place
    obtain ⟨b, off, rfl, hb⟩ := slOk_blk (P := P) hk hf hs (by omega)
    have hbf := hfpc b off rfl (by omega)
    have hvb : vb ≠ b := fun e => (hno b hbf).1 (e ▸ hF)
    have hmz : (xs.length + ys.length) * k.size = xs.length * k.size + ys.length * k.size := Nat.add_mul _ _ _
    have hcz : (xs.length + ys.length) * k.size ≤ cap * k.size := Nat.mul_le_mul_right _ hroom
    obtain ⟨cs0, e0, fr0, q1, q2, q3, q4, q5⟩ := hb
    have hb : BlkE k cap w b fun cs => cellsAt cs off (flCells k xs) ∧ off + cap * k.size ≤ cs.size := ⟨cs0, e0, fr0, q1, q2, q3, q4, q5⟩
    have hsp : ∀ j, j < (xs.length + ys.length) * k.size → (w.cell? ⟨b, off + j, none⟩).isSome = true := fun j hj => by
      rw [cell_of q1, Array.getElem?_eq_getElem (by omega)]; rfl
    have hfz : ∀ j, j < (xs.length + ys.length) * k.size → w.frozen? ⟨b, off + j, none⟩ = false := fun j hj => frozen_of q1 q2 _ (by omega)
    by_cases hin : i = xs.length
    · -- at the end
      subst hin
      have hzs : xs.take xs.length ++ (ys ++ xs.drop xs.length) = xs ++ ys := by simp
      have hrun := fun ty => run_append_room_src (P := P) w (ρ.t 24) (ρ.t 24) ty (ρ.t 9) i0 I.t24 hi0 b off xs.length cap _ ys.length _ hsrc hroom
        (fun j hj => by rw [hsz0, Nat.add_assoc]; exact hsp _ (by rw [hvl] at hj; omega)) (fun j hj => by rw [hsz0, Nat.add_assoc]; exact hfz _ (by rw [hvl] at hj; omega))
      refine (insert_end I b off xs.length cap vb voff ys.length vc w _ _ hm hrun).mono fun e w' ⟨h1, h2⟩ => ?_
      subst h1; subst h2
      rw [hsz0]
      obtain ⟨b1, c1, d1, e1, f1, g1⟩ := setCells_E (vs := flCells k ys) (o := off + xs.length * k.size) (q := fun cs => cellsAt cs off (flCells k (xs ++ ys)) ∧ off + cap * k.size ≤ cs.size) (hb.mono fun cs h => ⟨h, by rw [hvl]; omega⟩)
        (fun cs cs' h1 h2 h3 h4 => ⟨by
          rw [flCells_app]
          exact cellsAt_append.2 ⟨cellsAt_keep h1.1 fun j _ hj => h3 j (by rw [hcl] at hj; omega), by rw [hcl]; exact h4⟩, by omega⟩)
      exact ⟨b, off, cap, by rw [hzl], by rw [hzs]; exact b1, by rw [hzl]; exact hroom, by omega, .inl hbf, fun c h1 _ => c1 c h1, by rw [d1]; exact Nat.le_refl _, e1, f1, g1⟩
    · -- in the midst
      have hin : i < xs.length := by omega
      obtain ⟨csv, ev, frv, v1, _, v3⟩ := hv
      have hv0 : csv.size ≠ 0 := by
        have h0 : 0 < (flCells k ys).length := by rw [hvl]; exact Nat.mul_pos hm hkp
        have := (Array.getElem?_eq_some_iff.1 (v3 0 _ (List.getElem?_eq_getElem h0))).1
        omega
      have him : (i + ys.length) * k.size = i * k.size + ys.length * k.size := Nat.add_mul _ _ _
      have him2 : (i + ys.length) * k.size < (xs.length + ys.length) * k.size := Nat.mul_lt_mul_of_pos_right (by omega) hkp
      have hni : xs.length * k.size = i * k.size + (xs.length - i) * k.size := by rw [← Nat.add_mul]; congr 1; omega
      have hdl : ((flCells k xs).drop (i * k.size)).length = (xs.length - i) * k.size := by rw [List.length_drop, hcl]; omega
      have htl : ((flCells k xs).take (i * k.size)).length = i * k.size := by rw [List.length_take, hcl]; omega
      refine (insert_shift I b off xs.length cap i vb voff ys.length vc (flCells k xs) (flCells k ys) w hin hm hroom (q3.1 L.nb).2 hvb hcl hvl
        (fun j v hj => by have := blk_cells (w := w) (hb.blk.mono fun cs h => h.1) j v hj; rwa [add_mk] at this) hsp hfz hvs h1c h1v
        (fun lb cb => overlaps_no w (ρ.t 24) (ρ.t 4) (ρ.t 9) I.t24 k.size I.z9 ⟨vb, voff, none⟩ ⟨b, off + (i * k.size + ys.length * k.size), none⟩ ys.length vc lb cb hvb ev e0 csv.size cs0.size (by simp [World.shape?, v1]) (by simp [World.shape?, q1]) hv0 (hfz _ (by omega)) (by
          have := (q3.1 L.nb).1
          obtain ⟨lo, hi⟩ := fr0
          simp only [World.frozen?, q1]
          simp at this ⊢
          intro h1
          omega))).mono fun e w' ⟨h1, h2⟩ => ?_
      subst h1; subst h2
      have hbd : BlkE k cap w.drew b fun cs => cellsAt cs off (flCells k xs) ∧ off + cap * k.size ≤ cs.size := hb
      have hxs : ∀ cs, cellsAt cs off (flCells k xs) → cellsAt cs off ((flCells k xs).take (i * k.size)) := fun cs h => by
        rw [← List.take_append_drop (i * k.size) (flCells k xs)] at h
        exact (cellsAt_append.1 h).1
      obtain ⟨b1, c1, d1, e1, f1, g1⟩ := setCells_E (vs := (flCells k xs).drop (i * k.size)) (o := off + (i * k.size + ys.length * k.size)) (q := fun cs => ((cellsAt cs off ((flCells k xs).take (i * k.size)) ∧ cellsAt cs (off + (i * k.size + ys.length * k.size)) ((flCells k xs).drop (i * k.size))) ∧ off + cap * k.size ≤ cs.size) ∧ off + i * k.size + (flCells k ys).length ≤ cs.size) (hbd.mono fun cs h => ⟨h, by rw [hdl]; omega⟩)
        (fun cs cs' h1 h2 h3 h4 => ⟨⟨⟨cellsAt_keep (hxs _ h1.1) fun j _ hj => h3 j (by rw [htl] at hj; omega), h4⟩, by omega⟩, by rw [hvl]; omega⟩)
      obtain ⟨b3, c3, d3, e3, f3, g3⟩ := setCells_E (q := fun cs => cellsAt cs off (flCells k (xs.take i ++ (ys ++ xs.drop i))) ∧ off + cap * k.size ≤ cs.size) b1
        (fun cs cs' h1 h2 h3 h4 => ⟨ins_cells hi (cellsAt_keep h1.1.1 fun j _ hj => h3 j (by rw [htl] at hj; omega)) h4 (cellsAt_keep h1.1.2 fun j hj _ => h3 j (by rw [hvl]; omega)), by omega⟩)
      refine ⟨b, off, cap, by rw [hzl], b3, by rw [hzl]; exact hroom, by omega, .inl hbf, fun c h1 _ => ?_, ?_, ?_, ?_, ?_⟩
      · rw [c3 c h1, c1 c h1]; rfl
      · rw [d3, d1]; exact Nat.le_refl _
      · rw [e3, e1]; rfl
      · rw [f3, f1]; rfl
      · exact g3.trans (OutLe.trans (b := w.drew) g1 ⟨rfl, Nat.le_succ _⟩)
theorem sound_Insert {P : Program} {ρ : Ren} {k : K} (L : InsLay P ρ k) : Sound P (ρ.f 22) (sgf_slices_Insert k) := by
  obtain ⟨nm, hnm, hfn⟩ := L.f22
  refine ⟨⟨_, hfn, rfl, hnm⟩, ?_⟩
  rintro ⟨xs, i, ys, ⟨⟩⟩ r hr w F l vs ha hnd hno hlt hbu
  obtain ⟨hb, hr⟩ := req_some hr
  injection hr with hr
  subst hr
  simp only [Bool.and_eq_true, decide_eq_true_eq] at hb
  obtain ⟨h0, h1, h2, h3⟩ := hb
  have h0 : (0 : Int) ≤ i := h0
  have h1 : i ≤ xs.length := h1
  have h2 : 1 ≤ ys.length := h2
  have h3 : xs.length + ys.length ≤ 17179869184 := h3
  obtain ⟨⟨⟨q, cap⟩, lx⟩, li, ⟨⟨qv, vc⟩, ly⟩, ⟨⟩⟩ := l
  obtain ⟨v, vs, rfl, s1, rfl, ha⟩ := ha
  obtain ⟨v, vs, rfl, _, rfl, ha⟩ := ha
  obtain ⟨v, vs, rfl, s3, rfl, ha⟩ := ha
  have ha : vs = [] := ha
  subst ha
  have s1 : sat w F (.sl k) (.o .s) xs ((q, cap), lx) := s1
  have s3 : sat w F (.sl k) .s ys ((qv, vc), ly) := s3
  obtain ⟨⟨p1, p2, p3, _⟩, _⟩ := s3 (by intro h; cases h)
  have hyne : ys ≠ [] := by rintro rfl; simp at h2
  simp only at p1 p2 p3
  have hno' : ∀ b ∈ fp (.sl k) (.o .s) xs ((q, cap), lx), ¬ F b ∧ b < w.heap.size := fun b hb => hno b (List.mem_append.2 (.inl (by show b ∈ fp _ _ _ _ ++ _; exact List.mem_append.2 (.inl hb))))
  cases qv with
  | none => have := p2 rfl; omega
  | some qv =>
    obtain ⟨vb, voff⟩ := qv
    obtain ⟨hFv, hvb⟩ := (p3 vb voff rfl).2 hyne
    have hc := insert_calls L (vc := vc) s1 hno' (hvb.mono fun cs h => fl_cells L.ne L.fl h) (hFv rfl) (i := i.toNat) (Int.toNat_le.2 h1) h2 h3
    rw [show ((i.toNat : Nat) : Int) = i from Int.toNat_of_nonneg h0] at hc
    refine hc.mono fun e w' ⟨b', o', cap', e1, e2, e3, e4, e5, e6, e7, e8, e9, e10⟩ => ?_
    subst e1
    exact ⟨F, _, (), rfl, slice_left L.fl rfl rfl rfl _ _ trivial e2 e3 e4 e5 (fun b hb => (hno' b hb).1) hlt e6 e7 e8 e9 e10⟩
end Go.Proofs.YthlnjkcpdkjipaaDoor.Ev

/- slices.Delete does what its typed function says. (The road of the kit's SlicesE.Delete, turned to elements of many cells.) -/
namespace Go.Proofs.YthlnjkcpdkjipaaDoor.Ev
open Go Go.Shelf Go.RowKit Go.Lib Go.Proofs
theorem run_clear_cells {P : Program} (w : World) (t e ty : TypeId) (z : Value) (ht : P.underlying t = some (.slice e)) (hv : ∀ w, (zeroValue e).run P w = .ok z w) (b o n c : Nat) (hn : 0 < n) (vs : List Value) (hvs : (Builtin.zeroCells z.cells n).toList = vs) (h1 : ∀ v ∈ vs, v.oneCell' = true)
    (hc : ∀ j, j < vs.length → (w.cell? ⟨b, o + j, none⟩).isSome = true) (hf : ∀ j, j < vs.length → w.frozen? ⟨b, o + j, none⟩ = false) :
    (Builtin.clear_ #[t] ty #[.slice (some ⟨b, o, none⟩) n c]).run P w = .ok (.tuple #[]) (w.setCells b o vs) := by
  have hst := run_storeCells_cells (P := P) b o vs 0 w (by simpa using hc) (by simpa using hf) h1
  simp only [Nat.add_zero] at hst
  obtain ⟨m, rfl⟩ : ∃ m, n = m + 1 := ⟨n - 1, by omega⟩
  simp [Builtin.clear_, run_underlying ht, hv, hvs, hst]
structure DelLay (P : Program) (ρ : Ren) (k : K) : Prop where
  mixed : P.follows .mixedOrders = true
  f24 : Named P (ρ.f 24) (Body2.n24 ρ)
  t0 : P.underlying (ρ.t 0) = some (TypeDesc.tuple #[])
  a0 : ∀ w, (isAgg (ρ.t 0)).run P w = .ok false w
  z0 : ∀ w, (Go.sizeOf (ρ.t 0)).run P w = .ok 1 w
  v0 : ∀ w, (zeroValue (ρ.t 0)).run P w = .ok (Value.tuple #[]) w
  t3 : TyOk P (ρ.t 3) (.int .i64)
  t4 : TyOk P (ρ.t 4) .bool
  t9 : TyOk P (ρ.t 9) k
  t24 : P.underlying (ρ.t 24) = some (TypeDesc.slice (ρ.t 9))
  t24k : TyOk P (ρ.t 24) (.sl k)
  fl : k.flat = true
  ne : k.size ≠ 0
  nb : k ≠ .int .u8
set_option maxHeartbeats 4000000 in
set_option maxRecDepth 100000 in
theorem delete_raw {P : Program} {ρ : Ren} {k : K} (L : DelLay P ρ k) (b off n c i j : Nat) (cs zs : List Value) (w : World) (hij : i < j) (hj : j ≤ n) (hnc : n ≤ c) (hm : c ≤ 9223372036854775807)
    (hcl : cs.length = n * k.size) (hzl : zs.length = (j - i) * k.size) (hzs : (Builtin.zeroCells (valOf k k.zero (zeroL k)).cells (j - i)).toList = zs) (h1z : ∀ v ∈ zs, v.oneCell' = true)
    (hcs : ∀ j v, cs[j]? = some v → w.cell? ⟨b, off + j, none⟩ = some v) (hfz : ∀ j, j < n * k.size → w.frozen? ⟨b, off + j, none⟩ = false) (h1c : ∀ v ∈ cs, v.oneCell' = true) :
    Calls P (ρ.f 24) #[.slice (some ⟨b, off, none⟩) n c, .int .i64 i, .int .i64 j] w fun e w' =>
      e = .returned (.slice (some ⟨b, off, none⟩) (i + (n - j)) c) ∧ w' = (w.drew.setCells b (off + i * k.size) (cs.drop (j * k.size))).setCells b (off + (i + (n - j)) * k.size) zs := by
  obtain ⟨z, hz⟩ : ∃ z, k.size = z := ⟨_, rfl⟩
  have mixed := L.mixed
  have t0 := L.t0; have a0 := L.a0; have z0 := L.z0; have v0 := L.v0; have t3 := L.t3.2; have a3 := run_isAgg L.t3; have z3 := run_sizeK L.t3; have v3 := run_zeroK L.t3; have t4 := L.t4.2; have a4 := run_isAgg L.t4; have z4 := run_sizeK L.t4; have v4 := run_zeroK L.t4
  have z9 := run_sizeK L.t9; have v9 := run_zeroK L.t9; have t24 := L.t24; have a24 := run_isAgg L.t24k; have z24 := run_sizeK L.t24k; have v24 := run_zeroK L.t24k
  have u0 := run_underlying L.t0; have u3 := run_underlying t3; have u4 := run_underlying t4; have u24 := run_underlying L.t24
  obtain ⟨i0, hi0, hs0, _, _⟩ := L.t9.i.info
  rw [hz] at hs0 z9 hcl hzl hfz ⊢
  simp only [K.size] at z3 z4 z24
  have hiz : j * z ≤ n * z := Nat.mul_le_mul_right _ hj
  have hnj : (n - j) * z + j * z = n * z := by rw [← Nat.add_mul]; congr 1; omega
  have hji : (j - i) * z + i * z = j * z := by rw [← Nat.add_mul]; congr 1; omega
  have hij2 : (i + (n - j)) * z = i * z + (n - j) * z := Nat.add_mul _ _ _
  obtain ⟨news, hnews⟩ : ∃ news, news = cs.drop (j * z) := ⟨_, rfl⟩
  have hlen : news.length = (n - j) * z := by rw [hnews, List.length_drop, hcl]; omega
  obtain ⟨A, hA, hsrc⟩ : ∃ A : Addr, (if c = j then some (⟨b, off, none⟩ : Addr) else some ⟨b, off + j * z, none⟩) = some A ∧ Hid (∀ t u, news[t]? = some u → w.drew.cell? (A.add t) = some u) := by
    by_cases h : c = j
    · refine ⟨⟨b, off, none⟩, by simp [h], fun t u hu => ?_⟩
      have h0 : news.length = 0 := by rw [hlen, show n - j = 0 by omega, Nat.zero_mul]
      rw [List.length_eq_zero_iff.1 h0] at hu
      simp at hu
    · refine ⟨⟨b, off + j * z, none⟩, by simp [h], fun t u hu => ?_⟩
      rw [Addr.add_lit, show off + j * z + t = off + (j * z + t) by omega]
      rw [hnews, List.getElem?_drop] at hu
      exact hcs _ _ hu
  have s1 : Hid (news.length = (n - j) * z) := hlen
  have s2 : Hid (∀ u ∈ news, u.oneCell' = true) := by
    intro u hu
    rw [hnews] at hu
    exact h1c u (List.mem_of_mem_drop hu)
  have hcell : ∀ t, t < n * z → (w.cell? ⟨b, off + t, none⟩).isSome = true := fun t ht => by
    rw [hcs t _ (List.getElem?_eq_getElem (by omega))]; rfl
  have s3 : Hid (∀ t, t < news.length → (w.drew.cell? ⟨b, off + i * z + t, none⟩).isSome = true ∧ w.drew.frozen? ⟨b, off + i * z + t, none⟩ = false) := by
    intro t ht
    rw [hlen] at ht
    rw [Nat.add_assoc]
    exact ⟨hcell _ (by omega), hfz _ (by omega)⟩
  obtain ⟨W1, hW1⟩ : ∃ W1, W1 = w.drew.setCells b (off + i * z) news := ⟨_, rfl⟩
  have hW1c : ∀ t, t < n * z → (W1.cell? ⟨b, off + t, none⟩).isSome = true := fun t ht => by
    rw [hW1]
    exact isSome_setCells b _ _ _ (fun q hq => (s3.out q hq).1) _ (hcell t ht)
  have hcl2 : ∀ ty, (Builtin.clear_ #[ρ.t 24] ty #[.slice (some ⟨b, off + (i + (n - j)) * z, none⟩) (n - (i + (n - j))) (c - (i + (n - j)))]).run P W1 = .ok (.tuple #[]) (W1.setCells b (off + (i + (n - j)) * z) zs) :=
    fun ty => run_clear_cells W1 _ _ ty _ t24 v9 b (off + (i + (n - j)) * z) _ _ (by omega) zs (by rw [show n - (i + (n - j)) = j - i by omega]; exact hzs) h1z (fun t ht => by rw [hzl] at ht; rw [Nat.add_assoc]; exact hW1c _ (by omega)) (fun t ht => by rw [hzl] at ht; rw [hW1, World.frozen?_setCells, Nat.add_assoc]; exact hfz _ (by omega))
  have hW : Hid (W1 = w.drew.setCells b (off + i * z) news) := hW1
  have hic : i ≤ c := by omega
  have hjc : j ≤ c := by omega
  have hdn : Hid (news = cs.drop (j * z)) := hnews
  have hij3 : Hid ((i + (n - j)) * z = i * z + (n - j) * z) := hij2
  have hlt : i < j := hij
  have hne : ¬ (i = j) := by omega
  clear hW1 hnews hlen hcell hW1c hnj hji hiz hij2 hzs h1z hzl hcl
  obtain ⟨_, _, FG⟩ := L.f24
  go_enter FG, Body2.n24_ntmps ρ
  go_wp2_with fail
  go_region_law_o (refine step_append_room rfl (.tmp 22) (.tmp 25) (ρ.t 24) rfl (ρ.t 9) i0 z t24 hi0 hs0 b off i c (by simp [Act.eval, Act.put]) A (n - j) (c - j) news (by simp [Act.eval, Act.put]) s1.out hsrc.out s2.out (by omega) s3.out ?_; rw [← hW.out])
  go_wp2
  go_ret
  refine ⟨rfl, ?_⟩
  rw [hW.out, hdn.out, hij3.out]
def f_slices_Delete (k : K) (x : Ps [.mov (.sl k) (.o .s), .val (.int .i64), .val (.int .i64)]) : Option ((List (T k) × Unit) × Unit) :=
  req (decide (0 ≤ x.2.1) && (decide (x.2.1 < x.2.2.1) && decide (x.2.2.1 ≤ x.1.length))) (some ((x.1.take x.2.1.toNat ++ x.1.drop x.2.2.1.toNat, ()), ()))
def sgf_slices_Delete (k : K) : Sig := ⟨[.mov (.sl k) (.o .s), .val (.int .i64), .val (.int .i64)], [(.sl k, .o .s)], f_slices_Delete k⟩
theorem delete_calls {P : Program} {ρ : Ren} {k : K} (L : DelLay P ρ k) {w : World} {F : Nat → Prop} {xs : List (T k)} {i j : Nat} {q : Option (Nat × Nat)} {cap : Nat} {lx : Nat → Ev.L k}
    (hs : sat w F (.sl k) (.o .s) xs ((q, cap), lx)) (hij : i < j) (hj : j ≤ xs.length) :
    Calls P (ρ.f 24) #[.slice (adr q) xs.length cap, .int .i64 i, .int .i64 j] w (SlPost w k (fp (.sl k) (.o .s) xs ((q, cap), lx)) (xs.take i ++ xs.drop j)) := by
  have hk := L.ne
  have hf := L.fl
  have hcap1 : xs.length ≤ cap := (hs (by intro h; cases h)).1.1
  obtain ⟨b, off, rfl, hb⟩ := slOk_blk (P := P) hk hf hs (by omega)
  have hbf : b ∈ fp (.sl k) (.o .s) xs ((some (b, off), cap), lx) := by
    simp only [fp, Mk.owns, if_true, List.mem_append]
    exact .inl (mem_own1.2 ⟨show cap ≠ 0 by omega, off, rfl⟩)
  have hcl := flCells_len xs
  obtain ⟨cs0, e0, fr0, q1, q2, q3, q4, q5⟩ := hb
  have hb : BlkE k cap w b fun cs => cellsAt cs off (flCells k xs) ∧ off + cap * k.size ≤ cs.size := ⟨cs0, e0, fr0, q1, q2, q3, q4, q5⟩
  obtain ⟨zs, hzs⟩ : ∃ zs, zs = (Builtin.zeroCells (valOf k k.zero (zeroL k)).cells (j - i)).toList := ⟨_, rfl⟩
  have hzl : zs.length = (j - i) * k.size := by
    rw [hzs, Array.length_toList, valOf_cells]
    simp [Builtin.zeroCells, vals_length]
  have h1z : ∀ v ∈ zs, v.oneCell' = true := by
    intro v hv
    rw [hzs, valOf_cells, Builtin.zeroCells] at hv
    simp only [List.size_toArray, vals_length, Array.toList_map, Array.toList_range, List.mem_map, List.mem_range] at hv
    obtain ⟨p, hp, rfl⟩ := hv
    have hp2 : p % k.size < (vals k k.zero (zeroL k)).length := by rw [vals_length]; exact Nat.mod_lt _ (Nat.pos_of_ne_zero hk)
    rw [getElem!_pos _ _ (by simpa using hp2)]
    exact one_cell _ (vals_one k k.zero (zeroL k) _ (by simp))
  have hcz : xs.length * k.size ≤ cap * k.size := Nat.mul_le_mul_right _ hcap1
  have hnj : (xs.length - j) * k.size + j * k.size = xs.length * k.size := by rw [← Nat.add_mul]; congr 1; omega
  have hji : (j - i) * k.size + i * k.size = j * k.size := by rw [← Nat.add_mul]; congr 1; omega
  have hij2 : (i + (xs.length - j)) * k.size = i * k.size + (xs.length - j) * k.size := Nat.add_mul _ _ _
  have hdl : ((flCells k xs).drop (j * k.size)).length = (xs.length - j) * k.size := by rw [List.length_drop, hcl]; omega
  have htl : ((flCells k xs).take (i * k.size)).length = i * k.size := by rw [List.length_take, hcl]; omega
  have hzl2 : (xs.take i ++ xs.drop j).length = i + (xs.length - j) := by simp only [List.length_append, List.length_take, List.length_drop]; omega
  refine (delete_raw L b off xs.length cap i j (flCells k xs) zs w hij hj hcap1 (q3.1 L.nb).2 hcl hzl hzs.symm h1z
    (fun p v hp => by have := blk_cells (w := w) (hb.blk.mono fun cs h => h.1) p v hp; rwa [add_mk] at this) (fun p hp => frozen_of q1 q2 _ (by omega)) (flCells_one hk xs)).mono fun e w' ⟨h1, h2⟩ => ?_
  subst h1; subst h2
  have hbd : BlkE k cap w.drew b fun cs => cellsAt cs off (flCells k xs) ∧ off + cap * k.size ≤ cs.size := hb
  have hxs : ∀ cs, cellsAt cs off (flCells k xs) → cellsAt cs off ((flCells k xs).take (i * k.size)) := fun cs h => by
    rw [← List.take_append_drop (i * k.size) (flCells k xs)] at h
    exact (cellsAt_append.1 h).1
  obtain ⟨b1, c1, d1, e1, f1, g1⟩ := setCells_E (vs := (flCells k xs).drop (j * k.size)) (o := off + i * k.size) (q := fun cs => (cellsAt cs off (flCells k (xs.take i ++ xs.drop j)) ∧ off + cap * k.size ≤ cs.size) ∧ off + (i + (xs.length - j)) * k.size + zs.length ≤ cs.size) (hbd.mono fun cs h => ⟨h, by rw [hdl]; omega⟩)
    (fun cs cs' h1 h2 h3 h4 => ⟨⟨by
      rw [flCells_app, ← (flCells_take xs i (by omega)).1, ← (flCells_take xs j hj).2]
      exact cellsAt_append.2 ⟨cellsAt_keep (hxs _ h1.1) fun p _ hp => h3 p (by rw [htl] at hp; omega), by rw [htl]; exact h4⟩, by omega⟩, by rw [hzl]; omega⟩)
  obtain ⟨b3, c3, d3, e3, f3, g3⟩ := setCells_E (hu := fun hn v hv => by rw [hzs, valOf_cells] at hv; exact zeroCells_nu8 hn hk v hv) (q := fun cs => cellsAt cs off (flCells k (xs.take i ++ xs.drop j)) ∧ off + cap * k.size ≤ cs.size) b1
    (fun cs cs' h1 h2 h3 h4 => ⟨cellsAt_keep h1.1 fun p _ hp => h3 p (by rw [flCells_len, hzl2, hij2] at hp; omega), by omega⟩)
  refine ⟨b, off, cap, by rw [hzl2], b3, by rw [hzl2]; omega, by omega, .inl hbf, fun c h1 _ => ?_, ?_, ?_, ?_, ?_⟩
  · rw [c3 c h1, c1 c h1]; rfl
  · rw [d3, d1]; exact Nat.le_refl _
  · rw [e3, e1]; rfl
  · rw [f3, f1]; rfl
  · exact g3.trans (OutLe.trans (b := w.drew) g1 ⟨rfl, Nat.le_succ _⟩)
theorem sound_Delete {P : Program} {ρ : Ren} {k : K} (L : DelLay P ρ k) : Sound P (ρ.f 24) (sgf_slices_Delete k) := by
  obtain ⟨nm, hnm, hfn⟩ := L.f24
  refine ⟨⟨_, hfn, rfl, hnm⟩, ?_⟩
  rintro ⟨xs, i, j, ⟨⟩⟩ r hr w F l vs ha hnd hno hlt hbu
  obtain ⟨hb, hr⟩ := req_some hr
  injection hr with hr
  subst hr
  simp only [Bool.and_eq_true, decide_eq_true_eq] at hb
  obtain ⟨h0, h1, h2⟩ := hb
  have h0 : (0 : Int) ≤ i := h0
  have h1 : (i : Int) < (j : Int) := h1
  have h2 : (j : Int) ≤ xs.length := h2
  obtain ⟨⟨⟨q, cap⟩, lx⟩, li, lj, ⟨⟩⟩ := l
  obtain ⟨v, vs, rfl, s1, rfl, ha⟩ := ha
  obtain ⟨v, vs, rfl, _, rfl, ha⟩ := ha
  obtain ⟨v, vs, rfl, _, rfl, ha⟩ := ha
  have ha : vs = [] := ha
  subst ha
  have s1 : sat w F (.sl k) (.o .s) xs ((q, cap), lx) := s1
  have hno' : ∀ b ∈ fp (.sl k) (.o .s) xs ((q, cap), lx), ¬ F b ∧ b < w.heap.size := fun b hb => hno b (List.mem_append.2 (.inl (by show b ∈ fp _ _ _ _ ++ _; exact List.mem_append.2 (.inl hb))))
  have h3 : (0 : Int) ≤ (j : Int) := Int.le_of_lt (Int.lt_of_le_of_lt h0 h1)
  have hc := delete_calls L s1 (i := Int.toNat i) (j := Int.toNat j) (by
    have e1 := Int.toNat_of_nonneg h0
    have e2 := Int.toNat_of_nonneg h3
    have : ((Int.toNat i : Nat) : Int) < ((Int.toNat j : Nat) : Int) := by rw [e1, e2]; exact h1
    omega) (Int.toNat_le.2 h2)
  rw [show ((Int.toNat i : Nat) : Int) = i from Int.toNat_of_nonneg h0, show ((Int.toNat j : Nat) : Int) = j from Int.toNat_of_nonneg h3] at hc
  refine hc.mono fun e w' ⟨b', o', cap', e1, e2, e3, e4, e5, e6, e7, e8, e9, e10⟩ => ?_
  subst e1
  exact ⟨F, _, (), rfl, slice_left L.fl rfl rfl rfl _ _ trivial e2 e3 e4 e5 (fun b hb => (hno' b hb).1) hlt e6 e7 e8 e9 e10⟩
end Go.Proofs.YthlnjkcpdkjipaaDoor.Ev

/- Arguments of a law that are slices of structs. -/
namespace Go.Proofs.YthlnjkcpdkjipaaDoor.Ev
open Go.ChangeMaps Go.ChangeShapes Go.WideShapes Go.ChangeAt Go.RowKit
def inR : (k : K) → T k → Prop
  | .int k, n => k.min ≤ n ∧ n ≤ k.max
  | .bool, _ => True
  | .str, s => s.size ≤ maxLen
  | .unit, _ => True
  | .pair a b, x => inR a x.1 ∧ inR b x.2
  | .sl _, _ => True
section
variable {P : Program} {H : Type} {enc : TypeId × Value → H}
theorem cellsOf_k {t : Nat} {k : K} (h : TyOk P t k) : P.cellsOf t = k.size := by
  obtain ⟨i, hi, hs, _⟩ := h.i.info
  simp [Program.cellsOf, hi, hs]
theorem mapM_cons_some {α β : Type} {f : α → Option β} {a : α} {l : List α} {ys : List β} (h : (a :: l).mapM f = some ys) : ∃ y ys', f a = some y ∧ l.mapM f = some ys' ∧ ys = y :: ys' := by
  rw [List.mapM_cons] at h
  cases h1 : f a with
  | none => rw [h1] at h; cases h
  | some y =>
    rw [h1] at h
    cases h2 : l.mapM f with
    | none => rw [h2] at h; cases h
    | some ys' =>
      rw [h2] at h
      exact ⟨y, ys', rfl, rfl, (Option.some.inj h).symm⟩
theorem trod_flat {w : World} {base : Nat} {sp : Nat → Bool} {hd : Bool} : ∀ {k : K}, k.flat = true →
    (∀ {t fuel : Nat} {cs : List Value} {x : DataW H × List MemPlace}, TyOk P t k → DataW.trod enc P w base sp hd fuel t cs = some x → ∃ v : T k, cs = vals k v (zeroL k) ∧ inR k v ∧ x.2 = []) ∧
    (∀ {fs : List Field} {off fuel : Nat} {cs : List Value} {xs : List (DataW H × List MemPlace)}, (TyF P k).2 fs off → off + k.size ≤ cs.length →
      fs.mapM (fun f => DataW.trod enc P w base sp hd fuel f.type ((cs.drop f.offset).take (P.cellsOf f.type))) = some xs → ∃ v : T k, (cs.drop off).take k.size = vals k v (zeroL k) ∧ inR k v ∧ ∀ x ∈ xs, x.2 = [])
  | .int k, _ => ⟨fun {t fuel cs x} ht h => by
      have hu := ht.2
      cases fuel with
      | zero => cases h
      | succ fuel =>
        rcases cs with _ | ⟨v, _ | ⟨v2, r⟩⟩ <;> try (simp [DataW.trod, hu] at h; done)
        cases v <;> simp [DataW.trod, hu] at h
        obtain ⟨⟨rfl, hw⟩, rfl⟩ := h
        exact ⟨_, rfl, (by simpa [Lit.wf] using hw : _ ∧ _), rfl⟩, fun h => h.elim⟩
  | .bool, _ => ⟨fun {t fuel cs x} ht h => by
      have hu := ht.2
      cases fuel with
      | zero => cases h
      | succ fuel =>
        rcases cs with _ | ⟨v, _ | ⟨v2, r⟩⟩ <;> try (simp [DataW.trod, hu] at h; done)
        cases v <;> simp [DataW.trod, hu] at h
        subst h
        exact ⟨_, rfl, trivial, rfl⟩, fun h => h.elim⟩
  | .str, _ => ⟨fun {t fuel cs x} ht h => by
      have hu := ht.2
      cases fuel with
      | zero => cases h
      | succ fuel =>
        rcases cs with _ | ⟨v, _ | ⟨v2, r⟩⟩ <;> try (simp [DataW.trod, hu] at h; done)
        cases v <;> simp [DataW.trod, hu] at h
        obtain ⟨hw, rfl⟩ := h
        exact ⟨_, rfl, hw, rfl⟩, fun h => h.elim⟩
  | .unit, _ => ⟨fun {t fuel cs x} ht h => by
      have hc := cellsOf_k ht
      obtain ⟨_, fs, hu, hfs, _⟩ := ht
      cases fuel with
      | zero => cases h
      | succ fuel =>
        simp only [DataW.trod, hu, hfs, hc] at h
        split at h
        · rename_i hl
          simp at h
          subst h
          exact ⟨(), List.eq_nil_of_length_eq_zero hl, trivial, rfl⟩
        · exact absurd h (by simp), fun {fs off fuel cs xs} h hl hm => by
      have h : fs = [] := h
      subst h
      simp at hm
      subst hm
      exact ⟨(), by simp [K.size, vals], trivial, fun x hx => by cases hx⟩⟩
  | .pair a b, hf => by
    simp only [K.flat, Bool.and_eq_true] at hf
    have key : ∀ {fs : List Field} {off fuel : Nat} {cs : List Value} {xs : List (DataW H × List MemPlace)}, (TyF P (.pair a b)).2 fs off → off + (K.pair a b).size ≤ cs.length →
      fs.mapM (fun f => DataW.trod enc P w base sp hd fuel f.type ((cs.drop f.offset).take (P.cellsOf f.type))) = some xs → ∃ v : T (.pair a b), (cs.drop off).take (K.pair a b).size = vals (.pair a b) v (zeroL (.pair a b)) ∧ inR (.pair a b) v ∧ ∀ x ∈ xs, x.2 = [] := by
      intro fs off fuel cs xs h hl hm
      cases fs with
      | nil => exact h.elim
      | cons f l =>
        obtain ⟨h1, _, h3, h4⟩ := h
        subst h1
        obtain ⟨y, ys, e1, e2, rfl⟩ := mapM_cons_some hm
        rw [cellsOf_k h3] at e1
        obtain ⟨v1, q1, q2, q3⟩ := (trod_flat hf.1).1 h3 e1
        simp only [K.size] at hl
        obtain ⟨v2, p1, p2, p3⟩ := (trod_flat hf.2).2 h4 (by omega) e2
        refine ⟨(v1, v2), ?_, ⟨q2, p2⟩, fun x hx => ?_⟩
        · simp only [K.size, vals, zeroL]
          rw [← q1, ← p1, List.take_add, List.drop_drop]
        · rcases List.mem_cons.1 hx with rfl | hx
          · exact q3
          · exact p3 x hx
    refine ⟨fun {t fuel cs x} ht h => ?_, key⟩
    cases fuel with
    | zero => cases h
    | succ fuel =>
      have hc := cellsOf_k ht
      obtain ⟨_, fs, hu, _, hfs⟩ := ht
      simp only [DataW.trod, hu] at h
      split at h
      · rename_i hl
        cases hm : fs.toList.mapM (fun f => DataW.trod enc P w base sp hd fuel f.type ((cs.drop f.offset).take (P.cellsOf f.type))) with
        | none => rw [hm] at h; cases h
        | some xs =>
          rw [hm] at h
          simp only [Option.map_some, Option.some.injEq] at h
          subst h
          rw [hc] at hl
          obtain ⟨v, q1, q2, q3⟩ := key (fs := fs.toList) (off := 0) (by
            cases hl2 : fs.toList with
            | nil => rw [hl2] at hfs; exact hfs.elim
            | cons f l =>
              rw [hl2] at hfs
              obtain ⟨h1, h2, h3, h4⟩ := hfs
              exact ⟨h1, h2, h3, by rw [Nat.zero_add]; exact h4⟩) (by omega) hm
          refine ⟨v, ?_, q2, ?_⟩
          · rw [← q1, List.drop_zero, ← hl, List.take_length]
          · simp only [List.flatMap_eq_nil_iff]
            exact q3
      · cases h
  | .sl _, h => by cases h
theorem cells_some {w : World} {base : Nat} {a : Addr} {n : Nat} {cs : List Value} (h : w.cells? base a n = some cs) : cs.length = n ∧ ∀ i v, cs[i]? = some v → w.cell? (a.add i) = some v := by
  unfold World.cells? at h
  split at h
  · have key : ∀ (l : List Nat) (cs : List Value), (l.mapM fun i => w.cell? (a.add i)) = some cs → cs.length = l.length ∧ ∀ (i : Nat) (v : Value) (j : Nat), cs[i]? = some v → l[i]? = some j → w.cell? (a.add j) = some v := by
      intro l
      induction l with
      | nil => intro cs h; simp at h; subst h; exact ⟨rfl, fun i v j h => by simp at h⟩
      | cons x l ih =>
        intro cs h
        obtain ⟨y, ys, h1, h2, rfl⟩ := mapM_cons_some h
        obtain ⟨h3, h4⟩ := ih ys h2
        refine ⟨by simp [h3], fun i v j hi hj => ?_⟩
        cases i with
        | zero => simp at hi hj; subst hi; subst hj; exact h1
        | succ i => exact h4 i v j (by simpa using hi) (by simpa using hj)
    obtain ⟨h1, h2⟩ := key _ cs h
    rw [List.length_range] at h1
    refine ⟨h1, fun i v hi => h2 i v i hi ?_⟩
    have := (List.getElem?_eq_some_iff.1 hi).1
    rw [List.getElem?_range (by omega)]
  · cases h
theorem structs_arg {W : World} {base : Nat} {t e : TypeId} {k : K} (ht : P.underlying t = some (.slice e)) (he : TyOk P e k) (hf : k.flat = true) (hk : k.size ≠ 0) {v : Value} {d : DataW H} {ps : List MemPlace}
    (hval : Value.okWide P W .any base t v) (h : DataW.Trod enc P W 0 (fun _ => true) true t v d ps) :
    ∃ (xs : List (T k)) (l : L (.sl k)) (F : Nat → Prop), sat W F (.sl k) .s xs l ∧ v = valOf (.sl k) xs l ∧ (∀ b, F b → b < W.heap.size) ∧ xs.length ≤ maxLen ∧ (∀ x ∈ xs, inR k x) ∧ ∀ p ∈ ps, ∃ b o, p = .cell b o := by
  obtain ⟨a1, len, cap, rfl⟩ := okWide_slice ht hval
  obtain ⟨fuel, hfu⟩ := h
  rcases Go.Deep.open_slice ht hfu with ⟨hcs, hx⟩ | ⟨a, len', cap', m, n, D, Pl, hcs, _, hl, hmx, hm, hx, hcell⟩
  · simp [Value.cells] at hcs
    obtain ⟨rfl, rfl, rfl⟩ := hcs
    simp only [Prod.mk.injEq] at hx
    obtain ⟨rfl, rfl⟩ := hx
    refine ⟨[], ((none, 0), fun _ => zeroL k), fun _ => False, fun _ => ⟨⟨Nat.le_refl _, fun _ => rfl, (fun b o e => by cases e), fun _ _ b o e => by cases e⟩, fun i x h => by simp at h⟩, rfl, (fun b h => h.elim), by simp, (fun x h => by cases h), (fun p h => by cases h)⟩
  · simp [Value.cells] at hcs
    obtain ⟨rfl, rfl, rfl⟩ := hcs
    simp only [Prod.mk.injEq] at hx
    obtain ⟨rfl, rfl⟩ := hx
    simp only [if_true] at hm
    have hspot : a.spot = none := by
      simp only [Value.okWide, ht, Cell.okWide, Cell.ok] at hval
      exact hval.2.2.2.1
    obtain ⟨ab, ao, spot⟩ := a
    simp only at hspot
    subst hspot
    rw [cellsOf_k he] at hcell ⊢
    have hel : ∀ i, i < m → ∃ x : T k, (∀ j v, (vals k x (zeroL k))[j]? = some v → W.cell? ⟨ab, ao + i * k.size + j, none⟩ = some v) ∧ inR k x ∧ Pl i = [] := fun i hi => by
      obtain ⟨cs', h1, h2⟩ := hcell i hi
      obtain ⟨x, q1, q2, q3⟩ := (trod_flat hf).1 he h2
      obtain ⟨_, h3⟩ := cells_some h1
      refine ⟨x, fun j v hj => ?_, q2, q3⟩
      rw [← q1] at hj
      have := h3 j v hj
      rwa [add_mk, add_mk] at this
    obtain ⟨X, hX⟩ : ∃ X : Nat → T k, ∀ i, i < m → (∀ j v, (vals k (X i) (zeroL k))[j]? = some v → W.cell? ⟨ab, ao + i * k.size + j, none⟩ = some v) ∧ inR k (X i) ∧ Pl i = [] := by
      classical
      refine ⟨fun i => if hi : i < m then Classical.choose (hel i hi) else k.zero, fun i hi => ?_⟩
      simp only [dif_pos hi]
      exact Classical.choose_spec (hel i hi)
    refine ⟨(List.range len).map X, ((some (ab, ao), cap), fun _ => zeroL k), fun b => b = ab ∧ b < W.heap.size, fun _ => ⟨⟨by simp; omega, (fun h => by cases h), ?_, (fun h => by cases h)⟩, fun i x h => sat_flat hf⟩, ?_, fun b h => h.2, by simp; omega, fun x hx => ?_, fun p hp => ?_⟩
    · intro b o e
      injection e with e
      injection e with e1 e2
      subst e1; subst e2
      refine ⟨(fun h => by cases h), fun hne => ?_⟩
      have hpos : 0 < len := by
        rcases Nat.eq_zero_or_pos len with e | e
        · subst e; simp at hne
        · exact e
      have hv0 : 0 < (vals k (X 0) (zeroL k)).length := by rw [vals_length]; omega
      have hc0 := (hX 0 (by omega)).1 0 _ (List.getElem?_eq_getElem hv0)
      obtain ⟨cs, te, fr, hcs⟩ : ∃ cs te fr, W.heap[ab]? = some (.cells cs te fr) := by
        unfold World.cell? at hc0
        split at hc0
        · rename_i c x1 x2 hh; exact ⟨c, x1, x2, hh⟩
        · cases hc0
      refine ⟨fun _ => ⟨rfl, (Array.getElem?_eq_some_iff.1 hcs).1⟩, cs, te, fr, hcs, (fun h => by cases h), ?_⟩
      intro i x hi j v hj
      have hil : i < len := by
        have := (List.getElem?_eq_some_iff.1 hi).1
        simpa using this
      rw [List.getElem?_map, List.getElem?_range hil] at hi
      simp at hi
      subst hi
      have := (hX i (by omega)).1 j v hj
      rwa [cell_of hcs] at this
    · simp only [valOf, adr]
      rw [List.length_map, List.length_range]
      rfl
    · obtain ⟨i, hi, rfl⟩ := List.mem_map.1 hx
      rw [List.mem_range] at hi
      exact (hX i (by omega)).2.1
    · rcases List.mem_append.1 hp with hp | hp
      · simp only [MemPlace.row, List.mem_map] at hp
        obtain ⟨i, _, rfl⟩ := hp
        exact ⟨_, _, rfl⟩
      · obtain ⟨i, hi, hp⟩ := List.mem_flatMap.1 hp
        rw [List.mem_range] at hi
        rw [(hX i hi).2.2] at hp
        cases hp
end
end Go.Proofs.YthlnjkcpdkjipaaDoor.Ev

/- strings.Trim at a constant set of ASCII signs, slices.Grow of an empty slice. -/
namespace Go.Proofs.YthlnjkcpdkjipaaDoor.Ev
open Go Go.Shelf Go.RowKit Go.Lib Go.Proofs
def trimB (s cs : ByteArray) : ByteArray := ⟨(Lib.trimS s.data.toList cs.data.toList).toArray⟩
def f_strings_Trim (x : ByteArray × ByteArray × Unit) : Option ((ByteArray × Unit) × Unit) :=
  req (decide (x.1.size ≤ 9223372036854775807) && (decide (2 ≤ x.2.1.size ∧ x.2.1.size < 4294967281) && x.2.1.data.toList.all fun b => decide (b.toNat < 128))) (some ((trimB x.1 x.2.1, ()), ()))
def sgf_strings_Trim : Sig := ⟨[.val .str, .val .str], [(.str, .s)], f_strings_Trim⟩
theorem sound_Trim {P : Program} {f : Nat} (hf : ∃ fn, P.funcs[f]? = some fn ∧ fn.body.isSome ∧ fn.name ≠ "runtime.NumGoroutine")
    (h : ∀ (s cs : ByteArray) (w : World), s.size ≤ 9223372036854775807 → 2 ≤ cs.size → cs.size < 4294967281 → (∀ (j : Nat) b, cs.data.toList[j]? = some b → b.toNat < 128) →
      Calls P f #[.string s, .string cs] w fun e w' => e = .returned (.string (trimB s cs)) ∧ Ext w w') : Sound P f sgf_strings_Trim := by
  refine ⟨hf, ?_⟩
  rintro ⟨s, cs, ⟨⟩⟩ r hr w F l vs ha hnd hno hlt hbu
  obtain ⟨hb, hr⟩ := req_some hr
  injection hr with hr
  subst hr
  simp only [Bool.and_eq_true, decide_eq_true_eq, List.all_eq_true] at hb
  obtain ⟨h0, h1, h2⟩ := hb
  obtain ⟨v, vs, rfl, _, rfl, ha⟩ := ha
  obtain ⟨v, vs, rfl, _, rfl, ha⟩ := ha
  have ha : vs = [] := ha
  subst ha
  refine (h s cs w h0 h1.1 h1.2 fun j b hj => h2 b (List.mem_of_getElem? hj)).mono fun e w' ⟨he, hw⟩ => ?_
  subst he
  exact ⟨F, ((), ()), (), rfl, quiet_left (P := P) rfl rfl rfl hw rfl rfl _ _ trivial⟩
theorem drewN_heap (w : World) (q : Nat) : (w.drewN q).heap = w.heap := rfl
theorem trim_calls {P : Program} {ρ : Ren} (L : Lays.n160 P ρ) (h116 : (P.info? (ρ.t 116)).map (fun i => (i.zero, i.size)) = some (some (.agg (Array.replicate 256 (.bool false))), 256)) (s cs : ByteArray) (w : World)
    (h0 : s.size ≤ 9223372036854775807) (h1 : 2 ≤ cs.size) (h2 : cs.size < 4294967281) (h3 : ∀ (j : Nat) b, cs.data.toList[j]? = some b → b.toNat < 128) :
    Calls P (ρ.f 160) #[.string s, .string cs] w fun e w' => e = .returned (.string (trimB s cs)) ∧ Ext w w' := by
  by_cases hs : s.size = 0
  · refine (Any.strings_Trim_empty L s cs w (.inl hs)).mono fun e w' ⟨he, hw⟩ => ?_
    subst he; subst hw
    refine ⟨?_, Ext.refl _⟩
    have : s.data.toList = [] := by
      have h : s.data.size = 0 := hs
      exact List.length_eq_zero_iff.1 h
    obtain ⟨d⟩ := s
    have hd : d = #[] := by cases d; simp_all
    subst hd
    rfl
  · refine (Any.strings_Trim_set L (zero_of_info h116).1 (zero_of_info h116).2 s cs w h1 (by omega) h0 h2 h3).mono fun e w' ⟨he, q, hw⟩ => ?_
    subst he; subst hw
    refine ⟨rfl, ?_, fun b hb => ?_, rfl, rfl, rfl, Nat.le_add_right _ _⟩
    · show w.heap.size ≤ ((w.heap.push _).push _).size
      simp only [Array.size_push]; omega
    · show ((w.heap.push _).push _)[b]? = _
      rw [Array.getElem?_push_lt (h := by simp only [Array.size_push]; omega), Array.getElem_push_lt (h := hb)]
      simp [hb]
def f_slices_Grow (k : K) (x : Ps [.mov (.sl k) (.o .s), .val (.int .i64)]) : Option ((List (T k) × Unit) × Unit) :=
  req (decide (x.1.length = 0) && (decide (0 ≤ x.2.1) && decide (x.2.1 ≤ 17179869184))) (some (([], ()), ()))
def sgf_slices_Grow (k : K) : Sig := ⟨[.mov (.sl k) (.o .s), .val (.int .i64)], [(.sl k, .o .s)], f_slices_Grow k⟩
structure GrowLay (P : Program) (ρ : Ren) (k : K) : Prop where
  lay : Lays8.n4 P ρ
  t25 : TyOk P (ρ.t 25) k
  fl : k.flat = true
  ne : k.size ≠ 0
  nb : k ≠ .int .u8
theorem sound_Grow {P : Program} {ρ : Ren} {k : K} (L : GrowLay P ρ k) : Sound P (ρ.f 4) (sgf_slices_Grow k) := by
  obtain ⟨nm, hnm, hfn⟩ := L.lay.f4
  refine ⟨⟨_, hfn, rfl, by simpa using hnm⟩, ?_⟩
  rintro ⟨xs, n, ⟨⟩⟩ r hr w F l vs ha hnd hno hlt hbu
  obtain ⟨hb, hr⟩ := req_some hr
  injection hr with hr
  subst hr
  simp only [Bool.and_eq_true, decide_eq_true_eq] at hb
  obtain ⟨h0, h1, h2⟩ := hb
  have h0 : xs = [] := List.length_eq_zero_iff.1 h0
  subst h0
  have h1 : (0 : Int) ≤ n := h1
  have h2 : n ≤ 17179869184 := h2
  obtain ⟨⟨⟨q, cap⟩, lx⟩, ln, ⟨⟩⟩ := l
  obtain ⟨v, vs, rfl, s1, rfl, ha⟩ := ha
  obtain ⟨v, vs, rfl, _, rfl, ha⟩ := ha
  have ha : vs = [] := ha
  subst ha
  have s1 : sat w F (.sl k) (.o .s) ([] : List (T k)) ((q, cap), lx) := s1
  have hno' : ∀ b ∈ fp (.sl k) (.o .s) ([] : List (T k)) ((q, cap), lx), ¬ F b ∧ b < w.heap.size := fun b hb => hno b (List.mem_append.2 (.inl (by show b ∈ fp _ _ _ _ ++ _; exact List.mem_append.2 (.inl hb))))
  obtain ⟨N, rfl⟩ : ∃ N : Nat, n = (N : Int) := ⟨n.toNat, (Int.toNat_of_nonneg h1).symm⟩
  have hN : N ≤ 17179869184 := Int.ofNat_le.1 h2
  have hnone : q = none → cap = 0 := (s1 (by intro h; cases h)).1.2.1
  have hcap : cap ≤ 9223372036854775807 := by
    by_cases hc : cap = 0
    · omega
    · obtain ⟨b, off, rfl, cs, e, fr, q1, q2, q3, q4⟩ := slOk_blk (P := P) L.ne L.fl s1 hc
      exact (q3.1 L.nb).2
  by_cases hroom : N ≤ cap
  · have hc := Any8.slices_Grow_room L.lay (adr q) 0 cap N w (by omega) hcap (by omega) (by omega)
    refine hc.mono fun e w' ⟨he, hw⟩ => ?_
    subst he; subst hw
    have hfp : fp (resK [((.sl k : K), Mk.o .s)]) (resM [((.sl k : K), Mk.o .s)]) ([], ()) (((q, cap), lx), ()) = fp (.sl k) (.o .s) ([] : List (T k)) ((q, cap), lx) := by
      show fp (.sl k) (.o .s) ([] : List (T k)) ((q, cap), lx) ++ fp .unit .s () () = _
      simp [fp]
    refine ⟨F, (((q, cap), lx), ()), (), rfl, { size := Nat.le_refl _, os := rfl, tape := rfl, out := OutLe.rfl, old := fun _ _ _ _ => rfl, rng := fun q hq => (by cases hq), le := fun _ h => h, new := fun _ h => .inl h, res := ⟨s1, trivial⟩, outs := trivial, nd := ?_, apart := fun b hb => ?_ }⟩
    · show (fp (resK [((.sl k : K), Mk.o .s)]) (resM [((.sl k : K), Mk.o .s)]) ([], ()) (((q, cap), lx), ()) ++ ([] ++ [])).Nodup
      rw [hfp]
      show (fp (.sl k) (.o .s) ([] : List (T k)) ((q, cap), lx) ++ ([] ++ [])).Nodup
      simp only [List.append_nil, fp, Mk.owns, if_true, fpL]
      exact nodup_own1 _
    · have hb : b ∈ fp (resK [((.sl k : K), Mk.o .s)]) (resM [((.sl k : K), Mk.o .s)]) ([], ()) (((q, cap), lx), ()) ++ [] := hb
      rw [hfp] at hb
      have hb : b ∈ fp (.sl k) (.o .s) ([] : List (T k)) ((q, cap), lx) := by
        rcases List.mem_append.1 hb with h | h
        · exact h
        · cases h
      exact ⟨(hno' b hb).1, .inr (by show b ∈ fp _ _ _ _ ++ _; exact List.mem_append.2 (.inl hb))⟩
  · obtain ⟨i0, hi0, hs0, hz0, hby⟩ := L.t25.i.info
    obtain ⟨cs, hcl, hcs, hcu⟩ : ∃ cs : List Value, cs.length = cap * i0.size ∧ (∀ a, adr q = some a → ∀ j v, cs[j]? = some v → w.cell? (a.add j) = some v) ∧ (k.nu8 = true → ∀ v ∈ cs, u8V v = false) := by
      by_cases hc : cap = 0
      · exact ⟨[], by simp [hc], fun a _ j v hj => by simp at hj, fun _ v hv => by cases hv⟩
      · obtain ⟨b, off, rfl, cs, e, fr, q1, q2, q3, q4⟩ := slOk_blk (P := P) L.ne L.fl s1 hc
        refine ⟨(cs.toList.drop off).take (cap * k.size), ?_, fun a ha j v hj => ?_, fun hn v hv => ?_⟩
        · rw [hs0, List.length_take, List.length_drop, Array.length_toList]
          have := q4.2
          omega
        · injection ha with ha
          subst ha
          rw [add_mk, cell_of q1]
          rw [List.getElem?_take] at hj
          split at hj
          · rw [List.getElem?_drop] at hj
            simpa using hj
          · cases hj
        · obtain ⟨j, hj⟩ := List.getElem?_of_mem (List.mem_of_mem_drop (List.mem_of_mem_take hv))
          exact q3.2 hn j v (by simpa using hj)
    have hc := Any8.slices_Grow_grow L.lay i0 _ hi0 hz0 (by rw [hs0]; exact Nat.pos_of_ne_zero L.ne) (adr q) 0 cap N cs w (by omega) (by omega)
      (by have := (hby L.ne).2
          have h3 : (0 + N) * i0.bytes ≤ 17179869184 * 4096 := Nat.mul_le_mul (by omega) this
          omega) (by omega) hcl (fun h => hnone (by cases q <;> first | rfl | cases h)) hcs
    refine hc.mono fun e w' ⟨he, hw⟩ => ?_
    have hGn := grownCap_ge w (0 + N) cap (ρ.t 25)
    have hG63 := grownCap_le_maxLen w (0 + N) cap (ρ.t 25) (by unfold maxLen; omega)
    unfold maxLen at hG63
    obtain ⟨G, hG⟩ : ∃ G, G = grownCap w (0 + N) cap (ρ.t 25) := ⟨_, rfl⟩
    rw [← hG] at he hw hGn hG63
    subst he
    obtain ⟨row, hrow⟩ : ∃ row, row = cs.toArray ++ Builtin.zeroCells (valOf k k.zero (zeroL k)).cells (0 + N - cap) ++ Builtin.zeroCells (valOf k k.zero (zeroL k)).cells (G - (0 + N)) := ⟨_, rfl⟩
    rw [← hrow] at hw
    subst hw
    have hh : (w.drew.alloc (.cells row (ρ.t 25))).heap = w.heap.push (.cells row (ρ.t 25)) := rfl
    have hsz : row.size = G * k.size := by
      have e1 : ∀ m, (Builtin.zeroCells (valOf k k.zero (zeroL k)).cells m).size = m * k.size := fun m => by rw [valOf_cells]; simp [Builtin.zeroCells, vals_length]
      rw [hrow, Array.size_append, Array.size_append, e1, e1, List.size_toArray, hcl, hs0, ← Nat.add_mul, ← Nat.add_mul]
      congr 1
      omega
    have hblk : BlkE k G (w.drew.alloc (.cells row (ρ.t 25))) w.heap.size fun cs => cellsAt cs 0 (flCells k ([] : List (T k))) ∧ 0 + G * k.size ≤ cs.size := by
      refine ⟨row, ρ.t 25, (0, 0), by rw [hh]; simp, fun j _ h => by omega, ⟨fun _ => ⟨fun h => by omega, by omega⟩, fun hn j v hj => ?_⟩, fun j v hj => ?_, by omega⟩
      · have hm : v ∈ row.toList := List.mem_of_getElem? (by simpa using hj)
        rw [hrow] at hm
        simp only [Array.toList_append, List.mem_append] at hm
        rcases hm with (hm | hm) | hm
        · exact hcu hn v (by simpa using hm)
        · rw [valOf_cells] at hm; exact zeroCells_nu8 hn L.ne v hm
        · rw [valOf_cells] at hm; exact zeroCells_nu8 hn L.ne v hm
      · have := (List.getElem?_eq_some_iff.1 hj).1
        rw [flCells_len] at this
        simp at this
    refine ⟨F, _, (), rfl, slice_left L.fl rfl rfl rfl _ _ trivial hblk (by simp) (by omega) (.inr rfl) (fun b hb => (hno' b hb).1) hlt (fun c _ hc => ?_) ?_ rfl rfl ⟨rfl, Nat.le_succ _⟩⟩
    · rw [hh, Array.getElem?_push_lt (h := hc)]
      simp
    · rw [hh, Array.size_push]
      exact Nat.le_succ _
end Go.Proofs.YthlnjkcpdkjipaaDoor.Ev

/- Arguments of a law that are structs with slices of flat data. -/
namespace Go.Proofs.YthlnjkcpdkjipaaDoor.Ev
open Go.ChangeMaps Go.ChangeShapes Go.WideShapes Go.ChangeAt Go.RowKit
def K.flat1 : K → Bool
  | .pair a b => a.flat1 && b.flat1
  | .sl k => k.flat && !decide (k.size = 0)
  | _ => true
def inR1 : (k : K) → T k → Prop
  | .pair a b, x => inR1 a x.1 ∧ inR1 b x.2
  | .sl k, xs => xs.length ≤ maxLen ∧ ∀ x ∈ xs, inR k x
  | .int k, n => inR (.int k) n
  | .bool, _ => True
  | .str, s => inR .str s
  | .unit, _ => True
def NoSpot (cs : List Value) : Prop := ∀ a n c, Value.slice (some a) n c ∈ cs → a.spot = none
section
variable {P : Program} {H : Type} {enc : TypeId × Value → H}
theorem slice_trod {W : World} {t e : TypeId} {k : K} (ht : P.underlying t = some (.slice e)) (he : TyOk P e k) (hf : k.flat = true) (hk : k.size ≠ 0) {fuel : Nat} {cs : List Value} {x : DataW H × List MemPlace} (hsp : NoSpot cs)
    (h : DataW.trod enc P W 0 (fun _ => true) true fuel t cs = some x) :
    ∃ (xs : List (T k)) (l : L (.sl k)) (F : Nat → Prop), sat W F (.sl k) .s xs l ∧ cs = vals (.sl k) xs l ∧ (∀ b, F b → b < W.heap.size) ∧ inR1 (.sl k) xs := by
  rcases Go.Deep.open_slice ht h with ⟨rfl, hx⟩ | ⟨a, len, cap, m, n, D, Pl, rfl, _, hl, hmx, hm, hx, hcell⟩
  · exact ⟨[], ((none, 0), fun _ => zeroL k), fun _ => False, fun _ => ⟨⟨Nat.le_refl _, fun _ => rfl, (fun b o e => by cases e), fun _ _ b o e => by cases e⟩, fun i x h => by simp at h⟩, rfl, (fun b h => h.elim), by simp, (fun x h => by cases h)⟩
  · simp only [if_true] at hm
    have hspot : a.spot = none := hsp a len cap (by simp)
    obtain ⟨ab, ao, spot⟩ := a
    simp only at hspot
    subst hspot
    rw [cellsOf_k he] at hcell
    have hel : ∀ i, i < m → ∃ x : T k, (∀ j v, (vals k x (zeroL k))[j]? = some v → W.cell? ⟨ab, ao + i * k.size + j, none⟩ = some v) ∧ inR k x := fun i hi => by
      obtain ⟨cs', h1, h2⟩ := hcell i hi
      obtain ⟨x, q1, q2, q3⟩ := (trod_flat hf).1 he h2
      obtain ⟨_, h3⟩ := cells_some h1
      refine ⟨x, fun j v hj => ?_, q2⟩
      rw [← q1] at hj
      have := h3 j v hj
      rwa [add_mk, add_mk] at this
    obtain ⟨X, hX⟩ : ∃ X : Nat → T k, ∀ i, i < m → (∀ j v, (vals k (X i) (zeroL k))[j]? = some v → W.cell? ⟨ab, ao + i * k.size + j, none⟩ = some v) ∧ inR k (X i) := by
      classical
      refine ⟨fun i => if hi : i < m then Classical.choose (hel i hi) else k.zero, fun i hi => ?_⟩
      simp only [dif_pos hi]
      exact Classical.choose_spec (hel i hi)
    refine ⟨(List.range len).map X, ((some (ab, ao), cap), fun _ => zeroL k), fun b => b = ab ∧ b < W.heap.size, fun _ => ⟨⟨by simp; omega, (fun h => by cases h), ?_, (fun h => by cases h)⟩, fun i x h => sat_flat hf⟩, ?_, fun b h => h.2, by simp; omega, fun x hx => ?_⟩
    · intro b o e
      injection e with e
      injection e with e1 e2
      subst e1; subst e2
      refine ⟨(fun h => by cases h), fun hne => ?_⟩
      have hpos : 0 < len := by
        rcases Nat.eq_zero_or_pos len with e | e
        · subst e; simp at hne
        · exact e
      have hv0 : 0 < (vals k (X 0) (zeroL k)).length := by rw [vals_length]; omega
      have hc0 := (hX 0 (by omega)).1 0 _ (List.getElem?_eq_getElem hv0)
      obtain ⟨cs, te, fr, hcs⟩ : ∃ cs te fr, W.heap[ab]? = some (.cells cs te fr) := by
        unfold World.cell? at hc0
        split at hc0
        · rename_i c x1 x2 hh; exact ⟨c, x1, x2, hh⟩
        · cases hc0
      refine ⟨fun _ => ⟨rfl, (Array.getElem?_eq_some_iff.1 hcs).1⟩, cs, te, fr, hcs, (fun h => by cases h), ?_⟩
      intro i x hi j v hj
      have hil : i < len := by
        have := (List.getElem?_eq_some_iff.1 hi).1
        simpa using this
      rw [List.getElem?_map, List.getElem?_range hil] at hi
      simp at hi
      subst hi
      have := (hX i (by omega)).1 j v hj
      rwa [cell_of hcs] at this
    · simp only [vals, adr]
      rw [List.length_map, List.length_range]
      rfl
    · obtain ⟨i, hi, rfl⟩ := List.mem_map.1 hx
      rw [List.mem_range] at hi
      exact (hX i (by omega)).2
theorem NoSpot.sub {cs ds : List Value} (h : NoSpot cs) (hs : ∀ v ∈ ds, v ∈ cs) : NoSpot ds := fun a n c hm => h a n c (hs _ hm)
theorem trod_flat1 {W : World} : ∀ {k : K}, k.flat1 = true →
    (∀ {t fuel : Nat} {cs : List Value} {x : DataW H × List MemPlace}, TyOk P t k → NoSpot cs → DataW.trod enc P W 0 (fun _ => true) true fuel t cs = some x →
      ∃ (v : T k) (l : L k) (F : Nat → Prop), sat W F k .s v l ∧ cs = vals k v l ∧ (∀ b, F b → b < W.heap.size) ∧ inR1 k v) ∧
    (∀ {fs : List Field} {off fuel : Nat} {cs : List Value} {xs : List (DataW H × List MemPlace)}, (TyF P k).2 fs off → NoSpot cs → off + k.size ≤ cs.length →
      fs.mapM (fun f => DataW.trod enc P W 0 (fun _ => true) true fuel f.type ((cs.drop f.offset).take (P.cellsOf f.type))) = some xs →
      ∃ (v : T k) (l : L k) (F : Nat → Prop), sat W F k .s v l ∧ (cs.drop off).take k.size = vals k v l ∧ (∀ b, F b → b < W.heap.size) ∧ inR1 k v)
  | .int k, _ => ⟨fun {t fuel cs x} ht _ h => by
      obtain ⟨v, h1, h2, _⟩ := (trod_flat (k := .int k) rfl).1 ht h
      exact ⟨v, (), fun _ => False, trivial, h1, (fun _ h => h.elim), h2⟩, fun h => h.elim⟩
  | .bool, _ => ⟨fun {t fuel cs x} ht _ h => by
      obtain ⟨v, h1, h2, _⟩ := (trod_flat (k := .bool) rfl).1 ht h
      exact ⟨v, (), fun _ => False, trivial, h1, (fun _ h => h.elim), trivial⟩, fun h => h.elim⟩
  | .str, _ => ⟨fun {t fuel cs x} ht _ h => by
      obtain ⟨v, h1, h2, _⟩ := (trod_flat (k := .str) rfl).1 ht h
      exact ⟨v, (), fun _ => False, trivial, h1, (fun _ h => h.elim), h2⟩, fun h => h.elim⟩
  | .unit, _ => ⟨fun {t fuel cs x} ht _ h => by
      obtain ⟨v, h1, h2, _⟩ := (trod_flat (k := .unit) rfl).1 ht h
      exact ⟨v, (), fun _ => False, trivial, h1, (fun _ h => h.elim), trivial⟩, fun {fs off fuel cs xs} h _ hl hm => by
      obtain ⟨v, h1, h2, _⟩ := (trod_flat (k := .unit) rfl).2 h hl hm
      exact ⟨v, (), fun _ => False, trivial, h1, (fun _ h => h.elim), trivial⟩⟩
  | .sl k, hf => by
    simp only [K.flat1, Bool.and_eq_true, Bool.not_eq_true', decide_eq_false_iff_not] at hf
    exact ⟨fun {t fuel cs x} ht hs h => by
      obtain ⟨_, e, hu, he⟩ := ht
      exact slice_trod hu he hf.1 hf.2 hs h, fun h => h.elim⟩
  | .pair a b, hf => by
    simp only [K.flat1, Bool.and_eq_true] at hf
    have key : ∀ {fs : List Field} {off fuel : Nat} {cs : List Value} {xs : List (DataW H × List MemPlace)}, (TyF P (.pair a b)).2 fs off → NoSpot cs → off + (K.pair a b).size ≤ cs.length →
      fs.mapM (fun f => DataW.trod enc P W 0 (fun _ => true) true fuel f.type ((cs.drop f.offset).take (P.cellsOf f.type))) = some xs →
      ∃ (v : T (.pair a b)) (l : L (.pair a b)) (F : Nat → Prop), sat W F (.pair a b) .s v l ∧ (cs.drop off).take (K.pair a b).size = vals (.pair a b) v l ∧ (∀ b, F b → b < W.heap.size) ∧ inR1 (.pair a b) v := by
      intro fs off fuel cs xs h hs hl hm
      cases fs with
      | nil => exact h.elim
      | cons f l =>
        obtain ⟨h1, _, h3, h4⟩ := h
        subst h1
        obtain ⟨y, ys, e1, e2, rfl⟩ := mapM_cons_some hm
        rw [cellsOf_k h3] at e1
        obtain ⟨v1, l1, F1, s1, q1, f1, q2⟩ := (trod_flat1 hf.1).1 h3 (hs.sub fun v hv => List.mem_of_mem_drop (List.mem_of_mem_take hv)) e1
        simp only [K.size] at hl
        obtain ⟨v2, l2, F2, s2, p1, f2, p2⟩ := (trod_flat1 hf.2).2 h4 hs (by omega) e2
        refine ⟨(v1, v2), (l1, l2), fun b => F1 b ∨ F2 b, ⟨sat_frame s1 (fun _ _ => rfl) fun _ h => .inl h, sat_frame s2 (fun _ _ => rfl) fun _ h => .inr h⟩, ?_, fun b h => h.elim (f1 b) (f2 b), q2, p2⟩
        simp only [K.size, vals]
        rw [← q1, ← p1, List.take_add, List.drop_drop]
    refine ⟨fun {t fuel cs x} ht hs h => ?_, key⟩
    cases fuel with
    | zero => cases h
    | succ fuel =>
      have hc := cellsOf_k ht
      obtain ⟨_, fs, hu, _, hfs⟩ := ht
      simp only [DataW.trod, hu] at h
      split at h
      · rename_i hl
        cases hm : fs.toList.mapM (fun f => DataW.trod enc P W 0 (fun _ => true) true fuel f.type ((cs.drop f.offset).take (P.cellsOf f.type))) with
        | none => rw [hm] at h; cases h
        | some xs =>
          rw [hc] at hl
          obtain ⟨v, l, F, s1, q1, q2, q3⟩ := key (fs := fs.toList) (off := 0) (by
            cases hl2 : fs.toList with
            | nil => rw [hl2] at hfs; exact hfs.elim
            | cons f l =>
              rw [hl2] at hfs
              obtain ⟨h1, h2, h3, h4⟩ := hfs
              exact ⟨h1, h2, h3, by rw [Nat.zero_add]; exact h4⟩) hs (by omega) hm
          exact ⟨v, l, F, s1, by rw [← q1, List.drop_zero, ← hl, List.take_length], q2, q3⟩
      · cases h
theorem struct_arg {W : World} {base : Nat} {t : TypeId} {a b : K} (ht : TyOk P t (.pair a b)) (hf : (K.pair a b).flat1 = true) {v : Value} {d : DataW H} {ps : List MemPlace}
    (hval : Value.okWide P W .any base t v) (h : DataW.Trod enc P W 0 (fun _ => true) true t v d ps) :
    ∃ (x : T (.pair a b)) (l : L (.pair a b)) (F : Nat → Prop), sat W F (.pair a b) .s x l ∧ v = valOf (.pair a b) x l ∧ (∀ b, F b → b < W.heap.size) ∧ inR1 (.pair a b) x := by
  have ht' := ht
  obtain ⟨_, fs, hu, _⟩ := ht'
  simp only [Value.okWide, hu] at hval
  obtain ⟨cs, rfl, _, ts, _, _, hrow⟩ := hval
  obtain ⟨fuel, hfu⟩ := h
  have hns : NoSpot (Value.agg cs).cells.toList := by
    intro q n c hm
    have hm : Value.slice (some q) n c ∈ cs.toList := hm
    obtain ⟨i, hi⟩ := List.getElem?_of_mem hm
    rw [Array.getElem?_toList] at hi
    obtain ⟨u, _, hc⟩ := hrow i _ hi
    simp only [Cell.okWide, Cell.ok] at hc
    cases hq : P.underlying u with
    | none => simp [hq] at hc
    | some td =>
      cases td <;> simp [hq, World.has] at hc
      exact hc.2.2.2.1
  obtain ⟨x, l, F, h1, h2, h3, h4⟩ := (trod_flat1 hf).1 ht hns hfu
  refine ⟨x, l, F, h1, ?_, h3, h4⟩
  have h2 : cs.toList = vals (.pair a b) x l := h2
  show Value.agg cs = Value.agg (vals (.pair a b) x l).toArray
  rw [← h2]
end
end Go.Proofs.YthlnjkcpdkjipaaDoor.Ev
