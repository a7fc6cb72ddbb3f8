/- Edits read: good metas, and bytes of edits. -/
import Derived.Test.YtpegmiofhfmepaaR1Edit3
set_option linter.all false
noncomputable section
namespace Go.Proofs.Ytpegmiofhfmepaa
open Go Go.Proofs.Ytpegmiofhfmepaa.Ev

def goodMetaB (m : D62) : Bool :=
  cond (inR m.1 1 100000) (cond (inR m.2.1 0 3) (cond (inR (slen m.2.2.1) 1 16) (cond (inR (slen m.2.2.2.1) 1 16) (slt m.2.2.1 m.2.2.2.1 || seq m.2.2.1 m.2.2.2.1) false) false) false) false

theorem t101Val (x : D62 × Unit) : t101 x = some ((goodMetaB x.1, ()), ()) := by
  unfold t101 goodMetaB t86
  rw [valT85, bnd_some]; dsimp only
  cases inR x.1.1 1 100000
  · rfl
  rw [cond_true, cond_true, valT85, bnd_some]; dsimp only
  cases inR x.1.2.1 0 3
  · rfl
  rw [cond_true, cond_true, valT85, bnd_some]; dsimp only
  cases inR (slen x.1.2.2.1) 1 16
  · rfl
  rw [bnd_some]; dsimp only
  rw [cond_true, cond_true, valT85, bnd_some]; dsimp only
  cases inR (slen x.1.2.2.2.1) 1 16 <;> rfl

theorem t90Val (x : D62 × Unit) : t90 x = some ((goodMetaB x.1, ()), ()) := by
  unfold t90 goodMetaB t59
  rw [valT58, bnd_some]; dsimp only
  cases inR x.1.1 1 100000
  · rfl
  rw [cond_true, cond_true, valT58, bnd_some]; dsimp only
  cases inR x.1.2.1 0 3
  · rfl
  rw [cond_true, cond_true, valT58, bnd_some]; dsimp only
  cases inR (slen x.1.2.2.1) 1 16
  · rfl
  rw [bnd_some]; dsimp only
  rw [cond_true, cond_true, valT58, bnd_some]; dsimp only
  cases inR (slen x.1.2.2.2.1) 1 16 <;> rfl

theorem meta_same : t101 = t90 := by funext x; rw [t101Val, t90Val]
theorem metas_same : t88 = t64 := by
  have h : t88l2 = t64l2 := by funext R c v kk; unfold t88l2 t64l2; rw [meta_same]
  funext x
  unfold t88 t64
  rw [h]
  rfl

def MetaAt (l : List D62) (i : Nat) (m : D62) : Prop := goodMetaB m = true ∧ ∀ y, 0 < i → l[i - 1]? = some y → y.1 < m.1
def MetasOk (l : List D62) : Prop := l.length ≤ 30 ∧ ∀ i x, l[i]? = some x → MetaAt l i x

theorem t64Does {x : List D62 × Unit} (hl : x.1.length ≤ 1000) : Does (t64 x) fun r => (r.1.1 = true ↔ MetasOk x.1) := by
  obtain ⟨l, ⟨⟩⟩ := x
  dsimp only at hl
  unfold t64
  refine Does.loop (c := t64l2c) (v := t64l2v) (ex := t64l2e)
    (fun (xc : ((List D62) × (List D62) × Int × Unit) × Unit) (xv : (Int × Unit) × Unit) => xc.1.1 = l ∧ xc.1.2.1 = l ∧ xc.1.2.2.1 = llen l ∧ ∃ j : Nat, xv.1.1 = (j : Int) ∧ j ≤ l.length ∧ ∀ i x, i < j → l[i]? = some x → MetaAt l i x)
    (fun _ (xv : (Int × Unit) × Unit) => l.length - Int.toNat xv.1.1) ?_ ⟨rfl, rfl, rfl, 0, rfl, by omega, fun i x h => by omega⟩
  rintro ⟨⟨a, b, n, ⟨⟩⟩, ⟨⟩⟩ ⟨⟨i, ⟨⟩⟩, ⟨⟩⟩ ⟨h1, h2, h3, j, h4, h5, h6⟩
  dsimp only at h1 h2 h3 h4
  subst h1; subst h2; subst h3; subst h4
  simp only [round, t64l2]
  refine Does.cond (fun hlt => ?_) (fun hlt => ?_)
  · have hlt := ilt_iff.1 hlt
    simp only [llen] at hlt
    refine Does.getO (by omega) (by omega) fun y hy => ?_
    rw [Int.toNat_natCast] at hy
    rw [t90Val, bnd_some]
    refine Does.cond (fun hb => Does.val (Does.val ?_)) (fun hb => ?_)
    · refine ⟨(fun h => by cases h), fun h => ?_⟩
      have := (h.2 j y hy).1
      rw [this] at hb
      cases hb
    · have hb : goodMetaB y = true := by simpa using hb
      have hnext : (∀ z, 0 < j → b[j - 1]? = some z → z.1 < y.1) → (b = b ∧ b = b ∧ llen b = llen b ∧ ∃ k : Nat, iadd .i64 (j : Int) (1 : Int) = (k : Int) ∧ k ≤ b.length ∧ ∀ i x, i < k → b[i]? = some x → MetaAt b i x) ∧ b.length - Int.toNat (iadd .i64 (j : Int) (1 : Int)) < b.length - Int.toNat (j : Int) := by
        intro hz
        rw [iadd_i64 (by omega)]
        exact ⟨⟨rfl, rfl, rfl, j + 1, by omega, by omega, upto_step h6 hy ⟨hb, hz⟩⟩, by omega⟩
      refine Does.cond (fun h0 => ?_) (fun h0 => ?_)
      · have h0 := ilt_iff.1 h0
        have e : isub .i64 (j : Int) (1 : Int) = ((j - 1 : Nat) : Int) := by rw [isub_i64 (by omega)]; omega
        rw [e]
        refine Does.getO (by omega) (by omega) fun z hz => ?_
        rw [Int.toNat_natCast] at hz
        refine Does.cond (fun hle => Does.val (Does.val ?_)) (fun hle => Does.val ?_)
        · have hle := ile_iff.1 hle
          refine ⟨(fun h => by cases h), fun h => ?_⟩
          have := (h.2 j y hy).2 z (by omega) hz
          omega
        · have hle := ile_false.1 hle
          exact hnext fun z' _ hz' => by rw [hz] at hz'; injection hz' with hz'; rw [← hz']; exact hle
      · have h0 := ilt_false.1 h0
        exact Does.val (hnext fun z' h _ => by omega)
  · have hlt := ilt_false.1 hlt
    simp only [llen] at hlt
    refine Does.val (Does.val ?_)
    constructor
    · intro h
      have h := ile_iff.1 h
      simp only [llen] at h
      exact ⟨by omega, upto_all (by omega) h6⟩
    · intro h
      exact ile_iff.2 (by have := h.1; simp only [llen]; omega)

/-! ### good edits -/
def GoodEd (e : D31) : Prop := inR e.1 1 100001 = true ∧ inR e.2.1 0 1000000000 = true ∧ e.2.2.1.length ≤ 30 ∧ MetasOk e.2.2.2.1 ∧ NumsOk e.2.2.1

theorem t40Does {x : D31 × Unit} (h1 : x.1.2.2.1.length ≤ 1000) (h2 : x.1.2.2.2.1.length ≤ 1000) : Does (t40 x) fun r => (r.1.1 = true ↔ GoodEd x.1) := by
  unfold t40 t63 t89
  rw [valT58, bnd_some]; dsimp only
  cases a1 : inR x.1.1 1 100001
  · exact Does.val ⟨(fun h => by cases h), fun h => by have := h.1; rw [a1] at this; cases this⟩
  rw [cond_true, valT58, bnd_some]; dsimp only
  rw [bnd_some]; dsimp only
  rw [bnd_some]; dsimp only
  cases a2 : inR x.1.2.1 0 1000000000
  · exact Does.val ⟨(fun h => by cases h), fun h => by have := h.2.1; rw [a2] at this; cases this⟩
  rw [cond_true]
  refine Does.cond (fun a3 => ?_) (fun a3 => ?_)
  · have a3 := ile_iff.1 a3
    simp only [llen] at a3
    refine Does.bnd (t64Does (x := (x.1.2.2.2.1, ())) h2) fun r2 hr2 => ?_
    refine Does.cond (fun a4 => ?_) (fun a4 => ?_)
    · refine Does.bnd (t65Does (x := (x.1.2.2.1, ())) h1) fun r3 hr3 => ?_
      refine Does.val ⟨fun h => ⟨a1, a2, by omega, hr2.1 a4, hr3.1 h⟩, fun h => hr3.2 h.2.2.2.2⟩
    · refine Does.val ⟨(fun h => by cases h), fun h => ?_⟩
      have := hr2.2 h.2.2.2.1
      rw [this] at a4; cases a4
  · have a3 := ile_false.1 a3
    simp only [llen] at a3
    exact Does.val ⟨(fun h => by cases h), fun h => by have := h.2.2.1; omega⟩

theorem t61Does {x : D31 × Unit} (h1 : x.1.2.2.1.length ≤ 1000) (h2 : x.1.2.2.2.1.length ≤ 1000) : Does (t61 x) fun r => (r.1.1 = true ↔ GoodEd x.1) := by
  obtain ⟨e, ⟨⟩⟩ := x
  dsimp only at h1 h2 ⊢
  unfold t61
  refine Does.loop (c := t61l2c) (v := t61l2v) (ex := t61l2e)
    (fun (xc : ((List Int) × Int × Unit) × (D31 × Unit)) (xv : (Int × Unit) × Unit) => xc.1.1 = e.2.2.1 ∧ xc.1.2.1 = llen e.2.2.1 ∧ xc.2.1 = e ∧ ∃ j : Nat, xv.1.1 = (j : Int) ∧ j ≤ e.2.2.1.length ∧ ∀ i x, i < j → e.2.2.1[i]? = some x → NumAt e.2.2.1 i x)
    (fun _ (xv : (Int × Unit) × Unit) => e.2.2.1.length - Int.toNat xv.1.1) ?_ ⟨rfl, rfl, rfl, 0, rfl, by omega, fun i x h => by omega⟩
  rintro ⟨⟨a, n, ⟨⟩⟩, e', ⟨⟩⟩ ⟨⟨i, ⟨⟩⟩, ⟨⟩⟩ ⟨k1, k2, k3, j, h4, h5, h6⟩
  dsimp only at k1 k2 k3 h4
  subst k3; subst k1; subst k2; subst h4
  simp only [round, t61l2]
  refine Does.cond (fun hlt => ?_) (fun hlt => ?_)
  · have hlt := ilt_iff.1 hlt
    simp only [llen] at hlt
    refine Does.getO (by omega) (by omega) fun y hy => ?_
    rw [Int.toNat_natCast] at hy
    rw [valT85, bnd_some]
    refine Does.cond (fun hb => Does.val (Does.val ?_)) (fun hb => ?_)
    · refine ⟨(fun h => by cases h), fun h => ?_⟩
      have := (h.2.2.2.2 j y hy).1
      rw [this] at hb
      cases hb
    · have hb : inR y 1 100000 = true := by simpa using hb
      have hnext : (∀ z, 0 < j → e'.2.2.1[j - 1]? = some z → z < y) → (e'.2.2.1 = e'.2.2.1 ∧ llen e'.2.2.1 = llen e'.2.2.1 ∧ e' = e' ∧ ∃ k : Nat, iadd .i64 (j : Int) (1 : Int) = (k : Int) ∧ k ≤ e'.2.2.1.length ∧ ∀ i x, i < k → e'.2.2.1[i]? = some x → NumAt e'.2.2.1 i x) ∧ e'.2.2.1.length - Int.toNat (iadd .i64 (j : Int) (1 : Int)) < e'.2.2.1.length - Int.toNat (j : Int) := by
        intro hz
        rw [iadd_i64 (by omega)]
        exact ⟨⟨rfl, rfl, rfl, j + 1, by omega, by omega, upto_step h6 hy ⟨hb, hz⟩⟩, by omega⟩
      refine Does.cond (fun h0 => ?_) (fun h0 => ?_)
      · have h0 := ilt_iff.1 h0
        have e : isub .i64 (j : Int) (1 : Int) = ((j - 1 : Nat) : Int) := by rw [isub_i64 (by omega)]; omega
        rw [e]
        refine Does.getO (by omega) (by omega) fun z hz => ?_
        rw [Int.toNat_natCast] at hz
        refine Does.cond (fun hle => Does.val (Does.val ?_)) (fun hle => Does.val ?_)
        · have hle := ile_iff.1 hle
          refine ⟨(fun h => by cases h), fun h => ?_⟩
          have := (h.2.2.2.2 j y hy).2 z (by omega) hz
          omega
        · have hle := ile_false.1 hle
          exact hnext fun z' _ hz' => by rw [hz] at hz'; injection hz' with hz'; rw [← hz']; exact hle
      · have h0 := ilt_false.1 h0
        exact Does.val (hnext fun z' h _ => by omega)
  · have hlt := ilt_false.1 hlt
    simp only [llen] at hlt
    have hnums : NumsOk e'.2.2.1 := upto_all (by omega) h6
    refine Does.val ?_
    dsimp only
    unfold t87 t100
    rw [valT85, bnd_some]; dsimp only
    cases a1 : inR e'.1 1 100001
    · exact Does.val ⟨(fun h => by cases h), fun h => by have := h.1; rw [a1] at this; cases this⟩
    rw [cond_true, valT85, bnd_some]; dsimp only
    rw [bnd_some]; dsimp only
    rw [bnd_some]; dsimp only
    cases a2 : inR e'.2.1 0 1000000000
    · exact Does.val ⟨(fun h => by cases h), fun h => by have := h.2.1; rw [a2] at this; cases this⟩
    rw [cond_true]
    refine Does.cond (fun a3 => ?_) (fun a3 => ?_)
    · have a3 := ile_iff.1 a3
      simp only [llen] at a3
      rw [metas_same]
      refine Does.bnd (t64Does (x := (e'.2.2.2.1, ())) h2) fun r2 hr2 => ?_
      exact Does.val ⟨fun h => ⟨a1, a2, by omega, hr2.1 h, hnums⟩, fun h => hr2.2 h.2.2.2.1⟩
    · have a3 := ile_false.1 a3
      simp only [llen] at a3
      exact Does.val ⟨(fun h => by cases h), fun h => by have := h.2.2.1; omega⟩

/-! ### bytes -/
def numsB : List Int → ByteArray
  | [] => ⟨#[]⟩
  | x :: l => varB x.toNat ++ numsB l
def metaB (m : D62) : ByteArray := varB m.1.toNat ++ varB m.2.1.toNat ++ varB m.2.2.1.size ++ m.2.2.1 ++ varB m.2.2.2.1.size ++ m.2.2.2.1
def metasB : List D62 → ByteArray
  | [] => ⟨#[]⟩
  | x :: l => metaB x ++ metasB l
def editB (e : D31) : ByteArray := varB e.1.toNat ++ varB e.2.1.toNat ++ varB e.2.2.1.length ++ numsB e.2.2.1 ++ varB e.2.2.2.1.length ++ metasB e.2.2.2.1

def natI (x : Int) : Prop := 0 ≤ x ∧ x < 9223372036854775808
def MetaN (m : D62) : Prop := natI m.1 ∧ natI m.2.1 ∧ m.2.2.1.size ≤ 1000 ∧ m.2.2.2.1.size ≤ 1000

theorem natI.nat {x : Int} (h : natI x) : ∃ n : Nat, x = (n : Int) ∧ n < 9223372036854775808 := ⟨x.toNat, by have := h.1; omega, by have := h.2; have := h.1; omega⟩
theorem t83I {x : Int} (h : natI x) : t83 (x, ()) = some ((varB x.toNat, ()), ()) := t83Val (x, ()) x.toNat (by have := h.1; dsimp only; omega) (by have := h.2; have := h.1; omega)

theorem t62l3Loop {R : Type} (l : List Int) (hl : l.length ≤ 1000) (hn : ∀ x ∈ l, natI x) (e : D31) (kk : (((List Int) × Int × Unit) × (D31 × Unit)) → ((ByteArray × Unit) × Unit) → Option R) :
    ∀ (B A : List Int) (out : ByteArray), A ++ B = l → out.size + 9 * B.length ≤ 1000000 →
      loopF (c := t62l3c) (v := t62l3v) (ex := t62l3e) t62l3 R ((l, (llen l, ())), (e, ())) ((out, (((A.length : Nat) : Int), ())), ()) kk = kk ((l, (llen l, ())), (e, ())) ((out ++ numsB B, ()), ())
  | [], A, out, h, ho => by
    subst h
    rw [loopF_done (c' := ((A ++ [], (llen (A ++ []), ())), (e, ()))) (o := ((out, ()), ())) (by simp only [round, t62l3, mid_end, cond_false])]
    simp only [numsB, append_empty]
  | y :: B, A, out, h, ho => by
    have hA : A.length + 1 ≤ l.length := by rw [← h]; simp
    have hy := hn y (by rw [← h]; simp)
    have hs := varB_size y.toNat
    simp only [List.length_cons] at ho
    rw [loopF_more (c' := ((l, (llen l, ())), (e, ()))) (v' := ((out ++ varB y.toNat, ((((A ++ [y]).length : Nat) : Int), ())), ())) (by
      rw [← h]
      simp only [round, t62l3, mid_lt, cond_true, mid_getO]
      rw [t83I hy, bnd_some, catO_some (by dsimp only; omega), mid_next A y (by omega)])]
    rw [t62l3Loop l hl hn e kk B (A ++ [y]) (out ++ varB y.toNat) (by simp [← h]) (by rw [ByteArray.size_append]; omega)]
    simp only [numsB, ByteArray.append_assoc]

theorem metaB_size {m : D62} (h : MetaN m) : (metaB m).size ≤ 2036 := by
  have h1 := varB_size m.1.toNat
  have h2 := varB_size m.2.1.toNat
  have h3 := varB_size m.2.2.1.size
  have h4 := varB_size m.2.2.2.1.size
  have := h.2.2
  simp only [metaB, ByteArray.size_append]
  omega

theorem t62l9Loop {R : Type} (l : List D62) (hl : l.length ≤ 1000) (hn : ∀ x ∈ l, MetaN x) (kk : (((List D62) × Int × Unit) × Unit) → ((ByteArray × Unit) × Unit) → Option R) :
    ∀ (B A : List D62) (out : ByteArray), A ++ B = l → out.size + 2036 * B.length ≤ 100000000 →
      loopF (c := t62l9c) (v := t62l9v) (ex := t62l9e) t62l9 R ((l, (llen l, ())), ()) ((out, (((A.length : Nat) : Int), ())), ()) kk = kk ((l, (llen l, ())), ()) ((out ++ metasB B, ()), ())
  | [], A, out, h, ho => by
    subst h
    rw [loopF_done (c' := ((A ++ [], (llen (A ++ []), ())), ())) (o := ((out, ()), ())) (by simp only [round, t62l9, mid_end, cond_false])]
    simp only [metasB, append_empty]
  | y :: B, A, out, h, ho => by
    have hA : A.length + 1 ≤ l.length := by rw [← h]; simp
    have hy := hn y (by rw [← h]; simp)
    have hs := metaB_size hy
    simp only [List.length_cons] at ho
    have h1 := varB_size y.1.toNat
    have h2 := varB_size y.2.1.toNat
    have h3 := varB_size y.2.2.1.size
    have h4 := varB_size y.2.2.2.1.size
    obtain ⟨n1, n2, n3, n4⟩ := hy
    rw [loopF_more (c' := ((l, (llen l, ())), ())) (v' := ((out ++ metaB y, ((((A ++ [y]).length : Nat) : Int), ())), ())) (by
      rw [← h]
      simp only [round, t62l9, mid_lt, cond_true, mid_getO]
      rw [t83I n1, bnd_some, t83I n2, bnd_some, catO_some (by dsimp only; omega), t83Val (slen y.2.2.1, ()) y.2.2.1.size rfl (by omega), bnd_some, catO_some (by simp only [ByteArray.size_append]; omega), catO_some (by simp only [ByteArray.size_append]; omega),
        t83Val (slen y.2.2.2.1, ()) y.2.2.2.1.size rfl (by omega), bnd_some, catO_some (by simp only [ByteArray.size_append]; omega), catO_some (by simp only [ByteArray.size_append]; omega), catO_some (by simp only [ByteArray.size_append]; omega), mid_next A y (by omega)]
      rfl)]
    rw [t62l9Loop l hl hn kk B (A ++ [y]) (out ++ metaB y) (by simp [← h]) (by rw [ByteArray.size_append]; omega)]
    simp only [metasB, ByteArray.append_assoc]

theorem numsB_size (l : List Int) : (numsB l).size ≤ 9 * l.length := by
  induction l with
  | nil => exact Nat.zero_le _
  | cons x l ih =>
    have := varB_size x.toNat
    simp only [numsB, ByteArray.size_append, List.length_cons]
    omega

theorem t62Val {x : D31 × Unit} (h1 : x.1.2.2.1.length ≤ 1000) (h2 : x.1.2.2.2.1.length ≤ 1000) (a1 : natI x.1.1) (a2 : natI x.1.2.1) (a3 : ∀ y ∈ x.1.2.2.1, natI y) (a4 : ∀ y ∈ x.1.2.2.2.1, MetaN y) :
    t62 x = some ((editB x.1, ()), ()) := by
  obtain ⟨e, ⟨⟩⟩ := x
  dsimp only at *
  have s1 := varB_size e.1.toNat
  have s2 := varB_size e.2.1.toNat
  have s3 := varB_size e.2.2.1.length
  have s4 := varB_size e.2.2.2.1.length
  have s5 := numsB_size e.2.2.1
  unfold t62
  dsimp only
  rw [t83I a1, bnd_some, t83I a2, bnd_some, catO_some (by dsimp only; omega), t83Val (llen e.2.2.1, ()) e.2.2.1.length rfl (by omega), bnd_some, catO_some (by simp only [ByteArray.size_append]; omega)]
  refine (t62l3Loop e.2.2.1 h1 a3 e _ e.2.2.1 [] _ rfl (by simp only [ByteArray.size_append]; omega)).trans ?_
  dsimp only
  rw [t83Val (llen e.2.2.2.1, ()) e.2.2.2.1.length rfl (by omega), bnd_some, catO_some (by simp only [ByteArray.size_append]; omega)]
  refine (t62l9Loop e.2.2.2.1 h2 a4 _ e.2.2.2.1 [] _ rfl (by simp only [ByteArray.size_append]; omega)).trans ?_
  rfl

end Go.Proofs.Ytpegmiofhfmepaa
