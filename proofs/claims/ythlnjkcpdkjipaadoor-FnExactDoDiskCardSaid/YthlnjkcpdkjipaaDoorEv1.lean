/- A verified evaluator of typed functions, part 1. Nothing of the program is in it. -/
import Derived.Calls
import Derived.Orders
import Derived.KernelRfl
import Derived.Laws.IdiomCopy
import Derived.Deep.AppendSrc
import Derived.Room.AppendAny
import Derived.Room.FrozenHead
import Derived.Laws.StructEq
import Derived.Laws.BytesString
set_option linter.all false
/- The evaluator: kinds, typed values, states, and what each operation makes of a state. -/
namespace Go.Proofs.YthlnjkcpdkjipaaDoor.Ev
inductive K where
  | int (k : IntKind) | bool | str | unit
  | pair (a b : K)
  | sl (k : K)
  deriving DecidableEq
@[reducible] def T : K → Type
  | .int _ => Int
  | .bool => Bool
  | .str => ByteArray
  | .unit => Unit
  | .pair a b => T a × T b
  | .sl k => List (T k)
def castT {a b : K} (h : a = b) (x : T a) : T b := h ▸ x
def K.size : K → Nat
  | .pair a b => a.size + b.size
  | .unit => 0
  | _ => 1
def K.zero : (k : K) → T k
  | .int _ => (0 : Int)
  | .bool => false
  | .str => ⟨#[]⟩
  | .unit => ()
  | .pair a b => (a.zero, b.zero)
  | .sl _ => []
def K.flat : K → Bool
  | .pair a b => a.flat && b.flat
  | .sl _ => false
  | _ => true
inductive Mk where
  | s | d
  | pr (a b : Mk)
  | o (m : Mk)
  deriving DecidableEq
def Mk.l : Mk → Mk
  | .pr a _ => a
  | .d => .d
  | _ => .s
def Mk.r : Mk → Mk
  | .pr _ b => b
  | .d => .d
  | _ => .s
def Mk.inner : Mk → Mk
  | .o m => m
  | _ => .s
def Mk.owns : Mk → Bool
  | .o _ => true
  | _ => false
def Mk.mkp : Mk → Mk → Mk
  | .s, .s => .s
  | a, b => .pr a b
def Mk.clear : Mk → Bool
  | .s => true
  | .pr a b => a.clear && b.clear
  | _ => false
def Mk.whole : Mk → Bool
  | .s => true
  | .d => false
  | .pr a b => a.whole && b.whole
  | .o m => m.whole
def Mk.full : K → Mk
  | .pair a b => Mk.mkp (Mk.full a) (Mk.full b)
  | .sl k => .o (Mk.full k)
  | _ => .s
def K.isStruct : K → Bool
  | .pair _ _ => true
  | .unit => true
  | _ => false
def K.high : K → Nat
  | .pair a b => max (a.high + 1) b.high
  | _ => 1
inductive Stp where
  | fst | snd | el (i : Nat)
  deriving DecidableEq
inductive Pm where
  | val (k : K)
  | mov (k : K) (m : Mk)
  | mptr (k : K) (m : Mk)
  | chg (k : K) (m : Mk)
  | fn (ins : List K) (out : List K)
  | rp (k : K)
@[reducible] def tsK : List K → K
  | [] => .unit
  | k :: ks => .pair k (tsK ks)
@[reducible] def Ts (ks : List K) : Type := T (tsK ks)
@[reducible] def Pm.Ty : Pm → Type
  | .val k => T k
  | .mov k _ => T k
  | .mptr k _ => T k
  | .chg k _ => T k
  | .fn i o => Ts i → Option (Ts o)
  | .rp k => T k
@[reducible] def Ps : List Pm → Type
  | [] => Unit
  | p :: ps => p.Ty × Ps ps
@[reducible] def resK : List (K × Mk) → K
  | [] => .unit
  | r :: rs => .pair r.1 (resK rs)
def resM : List (K × Mk) → Mk
  | [] => .s
  | r :: rs => .mkp r.2 (resM rs)
@[reducible] def Rs (rs : List (K × Mk)) : Type := T (resK rs)
def Pm.outs : List Pm → List (K × Mk)
  | [] => []
  | .mptr k m :: ps => (k, m) :: Pm.outs ps
  | .chg k m :: ps => (k, m) :: Pm.outs ps
  | _ :: ps => Pm.outs ps
structure Sig where
  ins : List Pm
  res : List (K × Mk)
  fn : Ps ins → Option (Rs res × Rs (Pm.outs ins))
inductive Pc where
  | v (k : K) (x : T k)
  | al (t : Nat) (p : List Stp)
  | vw (t : Nat) (p : List Stp) (lo n : Nat)
  | ptr (t : Nat) (p : List Stp)
  | sp (k : K) (x : T k)
  | nil0
  | fv (i o : List K) (f : Ts i → Option (Ts o))
  | bad
  | unk
inductive PV where
  | one (c : Pc)
  | tup (cs : List Pc)
structure Rt where
  k : K
  m : Mk
  x : T k
  mem : Bool
  tmp : Bool
structure St where
  slot : Nat → PV
  root : Nat → Option Rt
def St.empty : St := { slot := fun _ => .one .bad, root := fun _ => none }
def St.put (s : St) (d : Nat) (c : PV) : St := { s with slot := fun n => cond (Nat.beq n d) c (s.slot n) }
def St.setR (s : St) (t : Nat) (r : Option Rt) : St := { s with root := fun n => cond (Nat.beq n t) r (s.root n) }
def St.dst (s : St) (d : Option Nat) (c : PV) : St := match d with | some d => s.put d c | none => s
section
variable {R : Type}
@[inline] def req (b : Bool) (k : Option R) : Option R := cond b k none
def getO {α : Type} (xs : List α) (i : Int) (k : α → Option R) : Option R := cond (decide (0 ≤ i)) (match xs[i.toNat]? with | some x => k x | none => none) none
def getB (s : ByteArray) (i : Int) (k : Int → Option R) : Option R := cond (decide (0 ≤ i)) (match s[i.toNat]? with | some x => k x.toNat | none => none) none
def catO (x y : ByteArray) (k : ByteArray → Option R) : Option R := cond (decide (x.size + y.size ≤ 9223372036854775807)) (k (x ++ y)) none
def bnd {α : Type} (o : Option α) (k : α → Option R) : Option R := match o with | some x => k x | none => none
open Classical in
noncomputable def bothK (x y : Option R) : Option R := if x = y then x else none
end
structure Ct where
  k : K
  m : Mk
  x : T k
section
variable {R : Type}
def Ct.at : (k : K) → Mk → T k → List Stp → (Ct → Option R) → Option R
  | k, m, x, [], kk => kk ⟨k, m, x⟩
  | .pair a _, m, x, .fst :: p, kk => Ct.at a m.l x.1 p kk
  | .pair _ b, m, x, .snd :: p, kk => Ct.at b m.r x.2 p kk
  | .sl k, m, xs, .el i :: p, kk => if m = .d then none else match xs[i]? with | some x => Ct.at k m.inner x p kk | none => none
  | _, _, _, _ :: _, _ => none
def Ct.set : (k : K) → Mk → T k → List Stp → Ct → (Mk → T k → Option R) → Option R
  | k, _, _, [], c, kk => if h : c.k = k then kk c.m (h ▸ c.x) else none
  | .pair a _, m, x, .fst :: p, c, kk => Ct.set a m.l x.1 p c fun m' y => kk (Mk.mkp m' m.r) (y, x.2)
  | .pair _ b, m, x, .snd :: p, c, kk => Ct.set b m.r x.2 p c fun m' y => kk (Mk.mkp m.l m') (x.1, y)
  | .sl k, m, xs, .el i :: p, c, kk => match xs[i]? with
    | some x => Ct.set k m.inner x p c fun m' y => if m' = m.inner ∧ m.owns = true then kk m (xs.set i y) else none
    | none => none
  | _, _, _, _ :: _, _, _ => none
end
def hasEl : List Stp → Bool
  | [] => false
  | .el _ :: _ => true
  | _ :: p => hasEl p
def hit (ptr : Bool) : List Stp → List Stp → Bool
  | [], [] => !ptr
  | [], p => !ptr || hasEl p
  | q, [] => !ptr && !hasEl q
  | .fst :: q, .fst :: p => hit ptr q p
  | .snd :: q, .snd :: p => hit ptr q p
  | .el _ :: q, .el _ :: p => hit ptr q p
  | _ :: _, _ :: _ => false
def soft : List Stp → List Stp → Bool
  | [], [] => false
  | [], _ :: _ => true
  | _ :: _, [] => false
  | .fst :: q, .fst :: p => soft q p
  | .snd :: q, .snd :: p => soft q p
  | .el _ :: q, .el _ :: p => soft q p
  | _ :: _, _ :: _ => false
def Pc.soft (t : Nat) (q : List Stp) : Pc → Pc
  | .al u p => cond (Nat.beq u t && Ev.soft q p) .bad (.al u p)
  | .vw u p lo n => cond (Nat.beq u t && Ev.soft q p) .bad (.vw u p lo n)
  | .ptr u p => cond (Nat.beq u t && Ev.soft q p) .bad (.ptr u p)
  | c => c
def Pc.kill (t : Nat) (q : List Stp) : Pc → Pc
  | .al u p => cond (Nat.beq u t && hit false q p) .bad (.al u p)
  | .vw u p lo n => cond (Nat.beq u t && hit false q p) .bad (.vw u p lo n)
  | .ptr u p => cond (Nat.beq u t && hit true q p) .bad (.ptr u p)
  | c => c
def Pc.drop (t : Nat) : Pc → Pc
  | .al u p => cond (Nat.beq u t) .bad (.al u p)
  | .vw u p lo n => cond (Nat.beq u t) .bad (.vw u p lo n)
  | .ptr u p => cond (Nat.beq u t) .bad (.ptr u p)
  | c => c
def Pc.retag (t d : Nat) : Pc → Pc
  | .al u p => .al (cond (Nat.beq u t) d u) p
  | .vw u p lo n => .vw (cond (Nat.beq u t) d u) p lo n
  | .ptr u p => .ptr (cond (Nat.beq u t) d u) p
  | c => c
def PV.map (f : Pc → Pc) : PV → PV
  | .one c => .one (f c)
  | .tup cs => .tup (cs.map f)
def St.kill (s : St) (t : Nat) (q : List Stp) : St := { s with slot := fun n => (s.slot n).map (Pc.kill t q) }
def St.soft (s : St) (t : Nat) (q : List Stp) : St := { s with slot := fun n => (s.slot n).map (Pc.soft t q) }
def St.drop (s : St) (t : Nat) : St := { slot := fun n => (s.slot n).map (Pc.drop t), root := fun n => cond (Nat.beq n t) none (s.root n) }
def St.retag (s : St) (t d : Nat) : St :=
  { slot := fun n => (s.slot n).map (Pc.retag t d), root := fun n => cond (Nat.beq n d) (s.root t) (cond (Nat.beq n t) none (s.root n)) }
structure Env where
  n : Nat
  ty : Nat → Option K
  fns : Nat → Option Sig
  /-- kind and marks of a slice that begins empty, by the slot that it is laid in -/
  hint : Nat → Option (K × Mk) := fun _ => none
  /-- slots below it are never written: parameters -/
  lo : Nat := 0
  /-- tags that the operations of a region bear whose order is drawn -/
  draw : Nat → List (List Nat × List Nat) := fun _ => []
  /-- slots: what goes from or into them keeps its words -/
  keep : Nat → Bool := fun _ => false
  /-- slots whose data are shared from the end of a region on -/
  frz : Nat → List Nat := fun _ => []
def constPc : Value → Pc
  | .bool b => .v .bool b
  | .int k n => .v (.int k) n
  | .string s => .v .str s
  | .slice none 0 0 => .nil0
  | _ => .bad
def St.opd (s : St) : Operand → Pc
  | .tmp t => match s.slot t with | .one c => c | .tup _ => .bad
  | .const v => constPc v
  | _ => .bad
def K.fld : K → Nat → Option K
  | .pair a _, 0 => some a
  | .pair _ b, f + 1 => b.fld f
  | _, _ => none
def K.offs : K → Nat → Nat
  | .pair _ _, 0 => 0
  | .pair a b, f + 1 => a.size + b.offs f
  | _, _ => 0
def fpath : Nat → List Stp
  | 0 => [.fst]
  | f + 1 => .snd :: fpath f
section
variable {R : Type}
def asV (k : K) : Pc → Option (T k)
  | .v k' x => if h : k' = k then some (h ▸ x) else none
  | .nil0 => match k with | .sl _ => some [] | _ => none
  | _ => none
def St.read (s : St) : Pc → (Ct → Option R) → Option R
  | .v k x, kk => kk ⟨k, .s, x⟩
  | .al t p, kk => match s.root t with | some r => Ct.at r.k r.m r.x p kk | none => none
  | .vw t p lo n, kk => match s.root t with
    | some r => Ct.at r.k r.m r.x p fun c => match c with
      | ⟨.sl k, m, xs⟩ => kk ⟨.sl k, m, (xs.drop lo).take n⟩
      | _ => none
    | none => none
  | _, _ => none
def St.readK (s : St) (c : Pc) (k : K) (kk : T k → Option R) : Option R :=
  match c with
  | .nil0 => match k with | .sl _ => kk [] | _ => none
  | c => s.read c fun c => if h : c.k = k then (if c.m.whole then kk (h ▸ c.x) else none) else none
def St.take (s : St) : Pc → (Ct → St → Option R) → Option R
  | .v k x, kk => kk ⟨k, .s, x⟩ s
  | .al t p, kk => match s.root t with
    | some r => cond (p.isEmpty && !r.mem) (cond r.m.whole (kk ⟨r.k, r.m, r.x⟩ (s.drop t)) none)
      (Ct.at r.k r.m r.x p fun c => cond (c.m.whole) (Ct.set r.k r.m r.x p ⟨c.k, cond c.m.clear c.m .d, c.x⟩ fun m x => kk c ((s.kill t p).setR t (some { r with m := m, x := x }))) none)
    | none => none
  | _, _ => none
def St.newRoot (s : St) (d : Nat) (c : Ct) (mem : Bool) (pc : Pc) : St :=
  ((s.drop d).setR d (some ⟨c.k, c.m, c.x, mem, true⟩)).put d (.one pc)
def St.give (s : St) (d : Nat) (c : Ct) : St :=
  cond c.m.clear (s.put d (.one (.v c.k c.x))) (s.newRoot d c false (.al d []))
def asInt : Pc → Option (IntKind × Int)
  | .v (.int k) n => some (k, n)
  | _ => none
def asBool : Pc → Option Bool
  | .v .bool b => some b
  | _ => none
def asStr : Pc → Option ByteArray
  | .v .str b => some b
  | _ => none
def intBin (op : BinOp) (k : IntKind) (a b : Int) (kk : Pc → Option R) : Option R :=
  match op with
  | .add => kk (.v (.int k) (k.wrap (a + b)))
  | .sub => kk (.v (.int k) (k.wrap (a - b)))
  | .mul => kk (.v (.int k) (k.wrap (a * b)))
  | .quo => req (!decide (b = 0)) (kk (.v (.int k) (k.wrap (a.tdiv b))))
  | .rem => req (!decide (b = 0)) (kk (.v (.int k) (a.tmod b)))
  | .and => kk (.v (.int k) (k.wrap (BitVec.ofInt k.bits a &&& BitVec.ofInt k.bits b).toNat))
  | .or => kk (.v (.int k) (k.wrap (BitVec.ofInt k.bits a ||| BitVec.ofInt k.bits b).toNat))
  | .xor => kk (.v (.int k) (k.wrap (BitVec.ofInt k.bits a ^^^ BitVec.ofInt k.bits b).toNat))
  | .andNot => kk (.v (.int k) (k.wrap (BitVec.ofInt k.bits a &&& ~~~ BitVec.ofInt k.bits b).toNat))
  | .eql => kk (.v .bool (a == b))
  | .neq => kk (.v .bool (a != b))
  | .lss => kk (.v .bool (decide (a < b)))
  | .leq => kk (.v .bool (decide (a ≤ b)))
  | .gtr => kk (.v .bool (decide (a > b)))
  | .geq => kk (.v .bool (decide (a ≥ b)))
  | _ => none
def strBin (op : BinOp) (a b : ByteArray) (kk : Pc → Option R) : Option R :=
  match op with
  | .add => catO a b fun c => kk (.v .str c)
  | .eql => kk (.v .bool (a.toList == b.toList))
  | .neq => kk (.v .bool (!(a.toList == b.toList)))
  | .lss => kk (.v .bool (Op.bytesLess a.toList b.toList))
  | .leq => kk (.v .bool (Op.bytesLess a.toList b.toList || a.toList == b.toList))
  | .gtr => kk (.v .bool (!(Op.bytesLess a.toList b.toList || a.toList == b.toList)))
  | .geq => kk (.v .bool (!Op.bytesLess a.toList b.toList))
  | _ => none
def eqK : (k : K) → T k → T k → Bool
  | .int _, a, b => @BEq.beq Int _ a b
  | .bool, a, b => @BEq.beq Bool _ a b
  | .str, a, b => a.toList == b.toList
  | .unit, _, _ => true
  | .pair a b, x, y => eqK a x.1 y.1 && eqK b x.2 y.2
  | .sl _, _, _ => false
def bin (ty : Option K) (op : BinOp) (x y : Pc) (kk : Pc → Option R) : Option R :=
  match x, y with
  | .v (.int k) a, .v (.int k') b => match op with
    | .shl => req (decide (0 ≤ b)) (kk (.v (.int k) (k.wrap (a * 2 ^ (min b.toNat k.bits)))))
    | .shr => req (decide (0 ≤ b)) (kk (.v (.int k) (a.fdiv (2 ^ (min b.toNat k.bits)))))
    | _ => if k = k' then intBin op k a b kk else none
  | .v .str a, .v .str b => strBin op a b kk
  | .v .bool a, .v .bool b => if ty = some .bool then (match op with
    | .eql => kk (.v .bool (a == b))
    | .neq => kk (.v .bool (!(a == b)))
    | _ => none) else none
  | .v k a, .v k' b => if h : k' = k then cond (decide (ty = some k) && (k.flat && Nat.ble k.high 100)) (match op with
      | .eql => kk (.v .bool (eqK k a (h ▸ b)))
      | .neq => kk (.v .bool (!(eqK k a (h ▸ b))))
      | _ => none) none else none
  | _, _ => none
def un (op : UnOp) (x : Pc) (kk : Pc → Option R) : Option R :=
  match op, x with
  | .neg, .v (.int k) n => kk (.v (.int k) (k.wrap (0 - n)))
  | .xor, .v (.int k) n => kk (.v (.int k) (k.wrap (BitVec.ofInt k.bits (if k.signed then -1 else k.max) ^^^ BitVec.ofInt k.bits n).toNat))
  | .not, .v .bool b => kk (.v .bool (!b))
  | _, _ => none
def bytesOf (s : ByteArray) : List Int := s.data.toList.map fun b => (b.toNat : Int)
def strOf (l : List Int) : ByteArray := ⟨(l.map fun n => UInt8.ofNat n.toNat).toArray⟩
def bnds (len : Nat) (lo hi : Option Int) (kk : Nat → Nat → Option R) : Option R :=
  match lo, hi with
  | none, none => kk 0 len
  | some l, none => req (decide (0 ≤ l) && decide (l ≤ len)) (kk l.toNat len)
  | none, some h => req (decide (0 ≤ h) && decide (h ≤ len)) (kk 0 h.toNat)
  | some l, some h => req (decide (0 ≤ l) && (decide (l ≤ h) && decide (h ≤ len))) (kk l.toNat h.toNat)
def optInt (s : St) : Option Operand → Option (Option Int)
  | none => some none
  | some x => match asInt (s.opd x) with | some (_, n) => some (some n) | none => none
end
end Go.Proofs.YthlnjkcpdkjipaaDoor.Ev

/- The evaluator: operations, code, functions. -/
namespace Go.Proofs.YthlnjkcpdkjipaaDoor.Ev
section
variable {R : Type}
def takeAll (s : St) : List Pc → (List Ct → St → Option R) → Option R
  | [], kk => kk [] s
  | c :: cs, kk => s.take c fun x s => takeAll s cs fun xs s => kk (x :: xs) s
def takeV : List Pc → (List Ct → Option R) → Option R
  | [], kk => kk []
  | .v k x :: cs, kk => takeV cs fun xs => kk (⟨k, .s, x⟩ :: xs)
  | _ :: _, _ => none
def buildAt (k : K) : List (Nat × Ct) → Mk → T k → (Mk → T k → Option R) → Option R
  | [], m, x, kk => kk m x
  | (i, c) :: cs, m, x, kk => Ct.set k m x (fpath i) c fun m x => buildAt k cs m x kk
def sameK (k : K) (m : Mk) : List Ct → (List (T k) → Option R) → Option R
  | [], kk => kk []
  | c :: cs, kk => if h : c.k = k then (if c.m = m then sameK k m cs fun xs => kk ((h ▸ c.x) :: xs) else none) else none
def srcOf (fl str : Bool) (s : St) (c : Pc) (kk : Ct → St → Option R) : Option R :=
  match c with
  | .v .str b => cond str (kk ⟨.sl (.int .u8), .o .s, bytesOf b⟩ s) none
  | c => cond str none (s.read c fun ct => cond ct.m.inner.clear (kk ct s) (cond fl none (s.take c kk)))
def dstOf (s : St) (c : Pc) (kk : Option Ct → St → Option R) : Option R :=
  match c with
  | .nil0 => kk none s
  | .al t p => s.take (.al t p) fun ct s => kk (some ct) s
  | .vw t p lo n => cond (Nat.beq lo 0) (s.take (.al t p) fun ct s => match ct with
    | ⟨.sl k, m, xs⟩ => kk (some ⟨.sl k, m, xs.take n⟩) s
    | _ => none) none
  | _ => none
def tagOf : Pc → Option Nat
  | .al t _ => some t
  | .vw t _ _ _ => some t
  | .ptr t _ => some t
  | _ => none
def apart (a b : Pc) : Bool :=
  match tagOf a, tagOf b with
  | some x, some y => !(Nat.beq x y)
  | _, _ => true
def appendTo (k0 : K) (str : Bool) (s : St) (d : Nat) (a b : Pc) (kk : St → Option R) : Option R :=
  cond (apart a b) (match b with
  | .nil0 => cond str none (match a with
    | .nil0 => kk (s.put d (.one .nil0))
    | a => dstOf s a fun c s => match c with
      | some c => if c.k = .sl k0 then cond c.m.owns (kk (s.newRoot d c false (.al d []))) none else none
      | none => none)
  | b => srcOf k0.flat str s b fun src s => match src with
    | ⟨.sl k, m, ys⟩ => if k = k0 ∧ m ≠ .d then dstOf s a fun c s => (match c with
      | none => req (decide (ys.length ≤ 17179869184)) (kk (s.newRoot d ⟨.sl k, .o m.inner, ys⟩ false (.al d [])))
      | some c => if h : c.k = .sl k then (if c.m = .o m.inner then req (decide ((castT h c.x : List (T k)).length + ys.length ≤ 17179869184)) (kk (s.newRoot d ⟨.sl k, c.m, (castT h c.x : List (T k)) ++ ys⟩ false (.al d []))) else none) else none) else none
    | _ => none) none
def lenOf (str : Bool) (s : St) (c : Pc) (kk : Int → Option R) : Option R :=
  match c with
  | .v .str b => cond str (kk b.size) none
  | .nil0 => cond str none (kk 0)
  | .vw _ _ _ n => cond str none (kk n)
  | c => cond str none (s.read c fun ct => match ct with
    | ⟨.sl _, _, xs⟩ => kk xs.length
    | _ => none)
def minmax (mx : Bool) (a b : Pc) (kk : Pc → Option R) : Option R :=
  match a, b with
  | .v (.int k) x, .v (.int k') y => if k = k' then kk (.v (.int k) (cond mx (if y > x then y else x) (if y < x then y else x))) else none
  | .v .str x, .v .str y => kk (.v .str (cond mx (cond (!Op.bytesLess x.toList y.toList) x y) (cond (Op.bytesLess x.toList y.toList || x.toList == y.toList) x y)))
  | _, _ => none
def minmaxs (mx : Bool) (a : Pc) : List Pc → (Pc → Option R) → Option R
  | [], kk => kk a
  | b :: r, kk => minmax mx a b fun c => minmaxs mx c r kk
abbrev Plc := List (Nat × List Stp × Bool)
def St.takeN (s : St) (k : K) (m : Mk) : Pc → (Ct → St → Option R) → Option R
  | .nil0, kk => match k, m with
    | .sl k', .o m' => kk ⟨.sl k', .o m', []⟩ s
    | _, _ => none
  | c, kk => s.take c kk
def argsOf : (ins : List Pm) → St → List Pc → (Ps ins → St → Plc → Option R) → Option R
  | [], s, [], kk => kk () s []
  | .val k :: ps, s, c :: cs, kk => s.readK c k fun x => argsOf ps s cs fun xs s pl => kk (x, xs) s pl
  | .mov k m :: ps, s, c :: cs, kk => s.takeN k m c fun ct s => if h : ct.k = k then (if ct.m = m then argsOf ps s cs fun xs s pl => kk (h ▸ ct.x, xs) s pl else none) else none
  | .mptr k m :: ps, s, c :: cs, kk => match c with
    | .ptr t p => match s.root t with
      | some r => Ct.at r.k r.m r.x p fun ct => if h : ct.k = k then (if ct.m = m then argsOf ps s cs fun xs s pl => kk (h ▸ ct.x, xs) s ((t, p, false) :: pl) else none) else none
      | none => none
    | _ => none
  | .chg k m :: ps, s, c :: cs, kk => match c with
    | .al t p => match s.root t with
      | some r => Ct.at r.k r.m r.x p fun ct => if h : ct.k = k then (if ct.m = m then argsOf ps s cs fun xs s pl => kk (h ▸ ct.x, xs) s ((t, p, true) :: pl) else none) else none
      | none => none
    | _ => none
  | .fn i o :: ps, s, c :: cs, kk => match c with
    | .fv i' o' f => if h : i' = i ∧ o' = o then argsOf ps s cs fun xs s pl => kk ((h.1 ▸ h.2 ▸ f), xs) s pl else none
    | _ => none
  | .rp k :: ps, s, c :: cs, kk => match c with
    | .sp k' x => if h : k' = k then argsOf ps s cs fun xs s pl => kk ((h ▸ x), xs) s pl else none
    | _ => none
  | _, _, _, _ => none
def tagsOf : List Pm → List Pc → List Nat × List Nat
  | .val _ :: ps, c :: cs => ((tagOf c).toList ++ (tagsOf ps cs).1, (tagsOf ps cs).2)
  | .mov .. :: ps, c :: cs => ((tagsOf ps cs).1, (tagOf c).toList ++ (tagsOf ps cs).2)
  | .mptr .. :: ps, c :: cs => ((tagsOf ps cs).1, (tagOf c).toList ++ (tagsOf ps cs).2)
  | .chg .. :: ps, c :: cs => ((tagsOf ps cs).1, (tagOf c).toList ++ (tagsOf ps cs).2)
  | _ :: ps, _ :: cs => tagsOf ps cs
  | _, _ => ([], [])
def nodup : List Nat → Bool
  | [] => true
  | x :: xs => !xs.elem x && nodup xs
def argsApart (ps : List Pm) (cs : List Pc) : Bool :=
  let t := tagsOf ps cs
  nodup t.2 && t.1.all fun x => !t.2.elem x
def backAt : (outs : List (K × Mk)) → Rs outs → Plc → St → (St → Option R) → Option R
  | [], _, [], s, kk => kk s
  | (k, m) :: os, x, (t, p, b) :: pl, s, kk => match s.root t with
    | some r => Ct.set r.k r.m r.x p ⟨k, m, x.1⟩ fun m' y => backAt os x.2 pl ((cond b (s.soft t p) (s.kill t p)).setR t (some { r with m := m', x := y })) kk
    | none => none
  | _, _, _, _, _ => none
def resPcs (d : Nat) : (rs : List (K × Mk)) → Rs rs → (List Stp → List Stp) → List Pc
  | [], _, _ => []
  | r :: rs, x, p => cond r.2.clear (.v r.1 x.1) (.al d (p [.fst])) :: resPcs d rs x.2 fun q => p (.snd :: q)
def allClear : List (K × Mk) → Bool
  | [] => true
  | r :: rs => r.2.clear && allClear rs
def giveAll (s : St) (d : Option Nat) (rs : List (K × Mk)) (x : Rs rs) (kk : St → Option R) : Option R :=
  match d with
  | none => kk s
  | some d => match rs, x with
    | [r], x => kk (s.give d ⟨r.1, r.2, x.1⟩)
    | rs, x => cond (allClear rs) (kk (s.put d (.tup (resPcs d rs x id)))) (kk (((s.drop d).setR d (some ⟨resK rs, resM rs, x, false, true⟩)).put d (.tup (resPcs d rs x id))))
def fullRes : List (K × Mk) → Bool
  | [] => true
  | r :: rs => decide (r.2 = Mk.full r.1) && fullRes rs
def noTags (cs : List Pc) : Bool := cs.all fun c => (tagOf c).isNone
def K.solid : K → Bool
  | .pair a b => a.solid && b.solid
  | .sl k => !(Nat.beq k.size 0) && k.solid
  | _ => true
def Pm.solid : List Pm → Bool
  | [] => true
  | .val k :: ps => k.solid && Pm.solid ps
  | _ :: ps => Pm.solid ps
def K.nu8 : K → Bool
  | .int .u8 => false
  | .pair a b => a.nu8 && b.nu8
  | _ => true
def K.nu8s : K → Bool
  | .pair a b => a.nu8s && b.nu8s
  | .sl k => k.nu8 && k.nu8s
  | _ => true
def Pm.nu8s : List Pm → Bool
  | [] => true
  | .val k :: ps => k.nu8s && Pm.nu8s ps
  | _ :: ps => Pm.nu8s ps
def shU8 : K → Mk → Bool
  | .pair a b, m => shU8 a m.l && shU8 b m.r
  | .sl k, m => cond m.owns (shU8 k m.inner) (decide (k = .int .u8))
  | _, _ => true
def allSh : List (K × Mk) → Bool
  | [] => true
  | r :: rs => shU8 r.1 r.2 && allSh rs
def Sig.lends (sg : Sig) (cs : List Pc) : Bool := (fullRes sg.res && fullRes (Pm.outs sg.ins) && Pm.solid sg.ins) || ((tagsOf sg.ins cs).1.isEmpty || (allSh sg.res && allSh (Pm.outs sg.ins) && (Pm.solid sg.ins && Pm.nu8s sg.ins)))
def callSig (s : St) (d : Option Nat) (sg : Sig) (cs : List Pc) (kk : St → Option R) : Option R :=
  cond (argsApart sg.ins cs && (sg.lends cs && Nat.ble (Pm.outs sg.ins).length 1)) (argsOf sg.ins s cs fun xs s pl => bnd (sg.fn xs) fun r => backAt (Pm.outs sg.ins) r.2 pl s fun s => giveAll s d sg.res r.1 kk) none
def readTs : (ks : List K) → St → List Pc → (Ts ks → Option R) → Option R
  | [], _, [], kk => kk ()
  | k :: ks, s, c :: cs, kk => s.readK c k fun x => readTs ks s cs fun xs => kk (x, xs)
  | _, _, _, _ => none
def capsOf : (ins : List Pm) → List Pc → Option (Ps ins)
  | [], [] => some ()
  | .rp k :: ps, .sp k' x :: cs => if h : k' = k then (match capsOf ps cs with | some y => some (h ▸ x, y) | none => none) else none
  | _, _ => none
def fvOf : (ins : List Pm) → List Pc → Option ((i : List K) × (Ts i → Ps ins))
  | .val k :: ps, cs => match fvOf ps cs with | some q => some ⟨k :: q.1, fun x => (x.1, q.2 x.2)⟩ | none => none
  | ins, cs => match capsOf ins cs with | some y => some ⟨[], fun _ => y⟩ | none => none
def fvWord : Sig → List Pc → Pc
  | ⟨ins, [(k, m)], fn⟩, cs => cond m.clear (match fvOf ins cs with | some q => .fv q.1 [k] (fun x => bnd (fn (q.2 x)) fun r => some r.1) | none => .bad) .bad
  | _, _ => .bad
def opdE (E : Env) (s : St) : Operand → Pc
  | .func f => match E.fns f with | some sg => fvWord sg [] | none => .bad
  | x => s.opd x
def opds (E : Env) (s : St) (xs : Array Operand) : List Pc := xs.toList.map (opdE E s)
def emptyOf (s : St) (c : Pc) (kk : Bool → Option R) : Option R :=
  match c with
  | .nil0 => kk true
  | .vw _ _ _ n => kk (Nat.beq n 0)
  | c => s.read c fun ct => match ct with
    | ⟨.sl _, m, xs⟩ => if m = .d then none else kk (Nat.beq xs.length 0)
    | _ => none
def nilTest (s : St) (op : BinOp) (c : Pc) (kk : Pc → Option R) : Option R :=
  match op with
  | .eql => emptyOf s c fun e => cond e (kk .unk) (kk (.v .bool false))
  | .neq => emptyOf s c fun e => cond e (kk .unk) (kk (.v .bool true))
  | _ => none
def readPs : (ins : List Pm) → St → List Pc → (Ps ins → Option R) → Option R
  | [], _, [], kk => kk ()
  | .val k :: ps, s, c :: cs, kk => s.readK c k fun x => readPs ps s cs fun xs => kk (x, xs)
  | .fn i o :: ps, s, c :: cs, kk => match c with
    | .fv i' o' f => if h : i' = i ∧ o' = o then readPs ps s cs fun xs => kk ((h.1 ▸ h.2 ▸ f), xs) else none
    | _ => none
  | .rp k :: ps, s, c :: cs, kk => match c with
    | .sp k' x => if h : k' = k then readPs ps s cs fun xs => kk ((h ▸ x), xs) else none
    | _ => none
  | _, _, _, _ => none
def Pm.reads : List Pm → Bool
  | [] => true
  | .val _ :: ps => Pm.reads ps
  | .fn _ _ :: ps => Pm.reads ps
  | .rp _ :: ps => Pm.reads ps
  | _ :: _ => false
def Sig.quiet (sg : Sig) : Bool := Pm.reads sg.ins && allClear sg.res
def clearPV : (rs : List (K × Mk)) → Rs rs → PV
  | [r], x => .one (.v r.1 x.1)
  | rs, x => .tup (resPcs 0 rs x id)
def flatTy (E : Env) (t : Nat) : Bool := match E.ty t with
  | some k => k.flat
  | none => false
def asgQ (s : St) : Operand → Bool
  | .tmp t => match s.slot t with
    | .one (.al ..) => false
    | .one .nil0 => false
    | _ => true
  | x => match s.opd x with
    | .nil0 => false
    | _ => true
def quiet (E : Env) (s : St) (o : Oper) : Bool :=
  match o.op with
  | .move _ | .pick .. | .load .. | .nilCheck _ | .binOp .. | .unOp .. | .slice .. | .fieldAddr .. | .field .. | .indexAddr .. | .index .. | .extract .. => true
  | .assign x => flatTy E o.type || asgQ s x
  | .buildSlice _ n _ => Nat.beq n 0
  | .build t _ => flatTy E t
  | .convert _ b _ => match E.ty b with
    | some (.sl _) => false
    | _ => true
  | .call c => match c.callee with
    | .builtin b => match b with
      | .len | .min | .max => true
      | _ => false
    | .value (.func f) => match E.fns f with
      | some sg => sg.quiet
      | none => false
    | .value _ => true
    | .invoke .. => false
  | _ => false
def lenTy (E : Env) (ts : Array TypeId) : Option Bool := match ts[0]? with
  | some t => match E.ty t with
    | some .str => some true
    | some (.sl _) => some false
    | _ => none
  | none => none
def evQ (E : Env) (s : St) (o : Oper) (put : PV → Option R) : Option R :=
  match o.op with
  | .move (.tmp t) => put (s.slot t)
  | .move x => put (.one (s.opd x))
  | .assign (.tmp t) => put (s.slot t)
  | .assign x => put (.one (s.opd x))
  | .pick c a b => match asBool (s.opd c) with
    | some t => cond t (put (.one (s.opd a))) (put (.one (s.opd b)))
    | none => none
  | .buildSlice t _ ps => match E.ty t with
    | some (.sl _) => cond (Nat.beq ps.size 0) (put (.one .nil0)) none
    | _ => none
  | .build t ps => match E.ty t with
    | some k => cond k.isStruct (takeV (ps.toList.map fun x => s.opd x.2) fun cs => buildAt k ((ps.toList.map (·.1)).zip cs) (Mk.full k) k.zero fun m x => cond m.clear (put (.one (.v k x))) none) none
    | none => none
  | .load t a => match E.ty t with
    | some k => match s.opd a with
      | .ptr u p => match s.root u with
        | some r => Ct.at r.k r.m r.x p fun c => if c.k = k then cond c.m.clear (put (.one (.v c.k c.x))) (put (.one (.al u p))) else none
        | none => none
      | .sp k' x => if k' = k then put (.one (.v k' x)) else none
      | _ => none
    | none => none
  | .nilCheck x => match s.opd x with
    | .ptr t p => put (.one (.ptr t p))
    | .sp k x => put (.one (.sp k x))
    | _ => none
  | .binOp op t x y _ => match y with
    | .const (.slice none 0 0) => match E.ty t with
      | some (.sl _) => nilTest s op (s.opd x) fun c => put (.one c)
      | _ => none
    | y => bin (E.ty t) op (s.opd x) (s.opd y) fun c => put (.one c)
  | .unOp op _ x => un op (s.opd x) fun c => put (.one c)
  | .convert a b x => match E.ty a, E.ty b with
    | some (.int _), some (.int kb) => match s.opd x with
      | .v (.int _) n => put (.one (.v (.int kb) (kb.wrap n)))
      | _ => none
    | some (.sl (.int .u8)), some .str => match s.opd x with
      | .nil0 => put (.one (.v .str ⟨#[]⟩))
      | c => s.readK c (.sl (.int .u8)) fun l => put (.one (.v .str (strOf l)))
    | _, _ => none
  | .slice t x lo hi mx => match optInt s lo, optInt s hi, optInt s mx with
    | some lo, some hi, some mx => match mx with
      | some _ => none
      | none => match E.ty t, s.opd x with
        | some .str, .v .str b => bnds b.size lo hi fun l h => put (.one (.v .str (b.extract l h)))
        | some (.sl k0), .v (.sl k) xs => if k = k0 then bnds xs.length lo hi fun l h => put (.one (.v (.sl k) ((xs.drop l).take (h - l)))) else none
        | some (.sl _), .nil0 => bnds 0 lo hi fun _ _ => put (.one .nil0)
        | some (.sl k0), .al u p => s.read (.al u p) fun c => match c with
          | ⟨.sl k, m, xs⟩ => if k = k0 ∧ m ≠ .d then bnds xs.length lo hi fun l h => put (.one (.vw u p l (h - l))) else none
          | _ => none
        | some (.sl k0), .vw u p l0 n => s.read (.vw u p l0 n) fun c => match c with
          | ⟨.sl k, _, _⟩ => if k = k0 then bnds n lo hi fun l h => put (.one (.vw u p (l0 + l) (h - l))) else none
          | _ => none
        | _, _ => none
    | _, _, _ => none
  | .fieldAddr t x f => match E.ty t with
    | some k => match k.fld f with
      | some kf => cond (Nat.beq kf.size 0) none (match s.opd x with
        | .ptr u p => match s.root u with
          | some r => Ct.at r.k r.m r.x p fun c => if c.k = k then put (.one (.ptr u (p ++ fpath f))) else none
          | none => none
        | .sp k' x => if k' = k then Ct.at k' .s x (fpath f) fun c => put (.one (.sp c.k c.x)) else none
        | _ => none)
      | none => none
    | none => none
  | .field t x f => match E.ty t with
    | some k => match s.opd x with
      | .v k' x => if k' = k then Ct.at k' .s x (fpath f) fun c => put (.one (.v c.k c.x)) else none
      | .al u p => match s.root u with
        | some r => Ct.at r.k r.m r.x p fun c => if c.k = k then Ct.at c.k c.m c.x (fpath f) fun c => cond c.m.clear (put (.one (.v c.k c.x))) (put (.one (.al u (p ++ fpath f)))) else none
        | none => none
      | _ => none
    | none => none
  | .indexAddr t x i => match E.ty t, asInt (s.opd i) with
    | some (.sl k0), some (_, i) => match s.opd x with
      | .v (.sl k) xs => if k = k0 then getO xs i fun x => put (.one (.sp k x)) else none
      | .al u p => s.read (.al u p) fun c => match c with
        | ⟨.sl k, m, xs⟩ => if k = k0 ∧ m ≠ .d then getO xs i fun _ => put (.one (.ptr u (p ++ [.el i.toNat]))) else none
        | _ => none
      | .vw u p lo n => s.read (.vw u p lo n) fun c => match c with
        | ⟨.sl k, m, xs⟩ => if k = k0 ∧ m ≠ .d then getO xs i fun _ => put (.one (.ptr u (p ++ [.el (lo + i.toNat)]))) else none
        | _ => none
      | _ => none
    | _, _ => none
  | .index t x i => match E.ty t, s.opd x, asInt (s.opd i) with
    | some .str, .v .str b, some (_, i) => getB b i fun n => put (.one (.v (.int .u8) n))
    | _, _, _ => none
  | .extract (.tmp t) i => match s.slot t with
    | .tup cs => match cs[i]? with
      | some c => put (.one c)
      | none => none
    | _ => none
  | .call c => match c.callee with
    | .builtin b => match b, opds E s c.args with
      | .len, [x] => match lenTy E c.argTypes with
        | some str => lenOf str s x fun n => put (.one (.v (.int .i64) n))
        | none => none
      | .min, a :: r => minmaxs false a r fun c => put (.one c)
      | .max, a :: r => minmaxs true a r fun c => put (.one c)
      | _, _ => none
    | .value (.func f) => match E.fns f with
      | some sg => cond (fullRes sg.res || noTags (opds E s c.args)) (readPs sg.ins s (opds E s c.args) fun xs => bnd (sg.fn xs) fun r => put (clearPV sg.res r.1)) none
      | none => none
    | .value f => match s.opd f with
      | .fv i [k] g => cond (k.flat || noTags (opds E s c.args)) (readTs i s (opds E s c.args) fun xs => bnd (g xs) fun r => put (.one (.v k r.1))) none
      | _ => none
    | .invoke .. => none
  | _ => none
def appTy (E : Env) (ts : Array TypeId) : Option (K × Bool) :=
  match ts.toList with
  | [t, u] => match E.ty t with
    | some (.sl k) => cond (Nat.beq k.size 0) none (match E.ty u with
      | some .str => some (k, true)
      | some (.sl _) => some (k, false)
      | _ => none)
    | _ => none
  | _ => none
def boxTake (s : St) (d : Nat) (k : K) (c : Pc) (kk : St → Option R) : Option R :=
  s.take c fun c s => if c.k = k then kk (((s.drop d).setR d (some ⟨c.k, c.m, c.x, true, false⟩)).put d (.one (.ptr d []))) else none
def movedTo (d : Nat) : List (Nat × Pc) → Nat → Option Nat
  | [], _ => none
  | (f, .al t []) :: r, u => cond (Nat.beq t u) (some f) (movedTo d r u)
  | _ :: r, u => movedTo d r u
def St.repoint (s s0 : St) (d : Nat) (l : List (Nat × Pc)) : St := { s with slot := fun n => match s0.slot n with
  | .one (.al t []) => (match s.slot n with
    | .one .bad => (match movedTo d l t with
      | some f => .one (.al d (fpath f))
      | none => .one .bad)
    | pv => pv)
  | _ => s.slot n }
def St.movedS (σ s0 : St) (t u : Nat) (p : List Stp) : St := { σ with slot := fun n => match s0.slot n with
  | .one (.al t' p') => cond (Nat.beq t' t) (match σ.slot n with
    | .one .bad => .one (.al u (p ++ p'))
    | pv => pv) (σ.slot n)
  | _ => σ.slot n }
def keepOf (E : Env) (s : St) (x : Operand) : Option Nat := match x with
  | .tmp n => cond (E.keep n) (match s.opd x with
    | .al t [] => (match s.root t with
      | some r => cond r.mem none (some t)
      | none => none)
    | _ => none) none
  | _ => none
def keepS (E : Env) (s : St) (x : Operand) (u : Nat) (p : List Stp) (σ : St) : St := match keepOf E s x with
  | some t => σ.movedS s t u p
  | none => σ
def Pc.share (t : Nat) (r : Rt) : Pc → Pc
  | .al u p => cond (Nat.beq u t) (match Ct.at r.k r.m r.x p (fun c => some c) with | some c => .v c.k c.x | none => .bad) (.al u p)
  | .vw u p lo n => cond (Nat.beq u t) (match Ct.at r.k r.m r.x p (fun c => some c) with | some ⟨.sl k, _, xs⟩ => .v (.sl k) ((xs.drop lo).take n) | _ => .bad) (.vw u p lo n)
  | .ptr u p => cond (Nat.beq u t) (match Ct.at r.k r.m r.x p (fun c => some c) with | some c => .sp c.k c.x | none => .bad) (.ptr u p)
  | c => c
def St.shareR (s : St) (t : Nat) (r : Rt) : St := { slot := fun n => (s.slot n).map (Pc.share t r), root := fun n => cond (Nat.beq n t) none (s.root n) }
def St.lendR (lo : Nat) (s : St) (t : Nat) : St := match s.root t with
  | some r => cond (r.m.whole && (!r.m.clear && Nat.ble lo t)) (s.shareR t r) s
  | none => s
def St.lendS (lo : Nat) (s : St) (d : Nat) : St := match s.slot d with
  | .one (.al t _) => s.lendR lo t
  | .one (.vw t _ _ _) => s.lendR lo t
  | .one (.ptr t _) => s.lendR lo t
  | _ => s
def Pc.lendC (t : Nat) : Pc → Pc
  | .al u p => cond (Nat.beq u t) .bad (.al u p)
  | .vw u p lo n => cond (Nat.beq u t) .bad (.vw u p lo n)
  | .ptr u [] => .ptr u []
  | .ptr u p => cond (Nat.beq u t) .bad (.ptr u p)
  | c => c
def St.lendC (s : St) (t : Nat) : St := match s.root t with
  | some r => cond r.m.whole { slot := fun n => (s.slot n).map (Pc.lendC t), root := fun n => cond (Nat.beq n t) (some { r with m := .s }) (s.root n) } s
  | none => s
def St.lendF (lo : Nat) (s : St) (d : Nat) : St := match s.slot d with
  | .one (.al t _) => s.lendR lo t
  | .one (.vw t _ _ _) => s.lendR lo t
  | .one (.ptr t _) => match s.root t with
    | some r => cond (r.m.whole && (r.m.clear && Nat.ble lo t)) (s.shareR t r) (s.lendC t)
    | none => s
  | _ => s
def St.frz (lo : Nat) : List Nat → St → St
  | [], s => s
  | d :: ds, s => St.frz lo ds (s.lendF lo d)
def shareAll (lo : Nat) : List Operand → St → (St → Option R) → Option R
  | [], s, kk => kk s
  | x :: xs, s, kk => match s.opd x with
    | .ptr t _ => match s.root t with
      | some r => cond (r.m.whole && Nat.ble lo t) (shareAll lo xs (s.shareR t r) kk) none
      | none => none
    | _ => shareAll lo xs s kk
def evM (E : Env) (s : St) (o : Oper) (kk : St → Option R) : Option R :=
  match o.dst with
  | none => match o.op with
    | .store t a x => match E.ty t with
      | some k => cond (Nat.beq k.size 0) none (match s.opd a with
        | .ptr u p => match s.opd x with
          | .nil0 => match k with
            | .sl k' => match s.root u with
              | some r => Ct.set r.k r.m r.x p ⟨.sl k', Mk.full (.sl k'), []⟩ fun m y => kk ((s.kill u p).setR u (some { r with m := m, x := y }))
              | none => none
            | _ => none
          | xw => s.take xw fun c s' => if c.k = k then (match s'.root u with
              | some r => Ct.set r.k r.m r.x p c fun m y => kk (keepS E s x u p ((s'.kill u p).setR u (some { r with m := m, x := y })))
              | none => none) else none
        | _ => none)
      | none => none
    | .call c => match c.callee with
      | .value (.func f) => match E.fns f with
        | some sg => callSig s none sg (opds E s c.args) kk
        | none => none
      | _ => none
    | _ => none
  | some d => match o.op with
    | .assign x => match s.opd x with
      | .al u p => match s.root u with
        | some r => cond (r.tmp && !r.mem) (match p with
            | [] => cond (Nat.beq u d) (kk ((s.setR d (some { r with tmp := false })).put d (.one (.al d [])))) (kk ((((s.drop d).setR u (some { r with tmp := false })).retag u d).put d (.one (.al d []))))
            | p => s.take (.al u p) fun c s => kk (((s.drop d).setR d (some ⟨c.k, c.m, c.x, false, false⟩)).put d (.one (.al d []))))
          (kk (s.put d (.one (.al u p))))
        | none => none
      | .nil0 => match E.hint d with
        | some (k, m) => match k with
          | .sl _ => cond m.clear (kk (s.put d (.one (.v k k.zero)))) (kk (((s.drop d).setR d (some ⟨k, m, k.zero, false, false⟩)).put d (.one (.al d []))))
          | _ => none
        | none => kk (s.put d (.one .nil0))
      | _ => none
    | .alloc t => match E.ty t with
      | some k => kk (((s.drop d).setR d (some ⟨k, Mk.full k, k.zero, true, false⟩)).put d (.one (.ptr d [])))
      | _ => none
    | .box t x => match E.ty t with
      | some k => match s.opd x with
        | .al u [] => match s.root u with
          | some r => cond (!r.mem && !Nat.beq u d) (if r.k = k then kk ((((s.drop d).setR u (some { r with mem := true, tmp := false })).retag u d).put d (.one (.ptr d []))) else none) (boxTake s d k (.al u []) kk)
          | none => none
        | c => boxTake s d k c kk
      | _ => none
    | .build t ps => match E.ty t with
      | some k => cond k.isStruct (takeAll s (ps.toList.map fun x => s.opd x.2) fun cs s' =>
        buildAt k ((ps.toList.map (·.1)).zip cs) (Mk.full k) k.zero fun m x => match E.keep d with
          | false => kk (s'.give d ⟨k, m, x⟩)
          | true => cond (!m.clear && nodup (ps.toList.map (·.1))) (kk ((s'.give d ⟨k, m, x⟩).repoint s d (ps.toList.map fun x => (x.1, s.opd x.2)))) none) none
      | _ => none
    | .buildSlice t n ps => match E.ty t with
      | some (.sl k) => cond (Nat.beq ps.size n && ((ps.toList.map (·.1)) == List.range n && (Nat.ble (n * k.size) 1000 && Nat.ble 1 k.size))) (takeAll s (ps.toList.map fun x => s.opd x.2) fun cs s => match cs with
        | [] => none
        | c :: cs => sameK k c.m (c :: cs) fun xs => kk (s.newRoot d ⟨.sl k, .o c.m, xs⟩ false (.al d []))) none
      | _ => none
    | .convert a b x => match E.ty a, E.ty b with
      | some .str, some (.sl (.int .u8)) => match s.opd x with
        | .v .str b => cond (Nat.beq b.size 0) (kk (s.put d (.one (.v (.sl (.int .u8)) [])))) (kk (s.newRoot d ⟨.sl (.int .u8), .o .s, bytesOf b⟩ false (.al d [])))
        | _ => none
      | _, _ => none
    | .makeFunc (.func f) first caps => cond (Nat.beq first.size 0) (match E.fns f with
      | some sg => shareAll E.lo caps.toList s fun s => kk (s.put d (.one (fvWord sg (caps.toList.map s.opd))))
      | none => none) none
    | .makeSlice t l c => match E.ty t with
      | some (.sl k) => match asInt (s.opd l), asInt (s.opd c) with
        | some (_, n), some (_, n') => cond (Nat.beq k.size 0) none <| req (decide (n = n') && (decide (0 ≤ n) && decide (n ≤ 68719476736))) (kk (s.newRoot d ⟨.sl k, .o (Mk.full k), List.replicate n.toNat k.zero⟩ false (.al d [])))
        | _, _ => none
      | _ => none
    | .call c => match c.callee with
      | .builtin .append => match appTy E c.argTypes, opds E s c.args with
        | some (k, str), [a, b] => appendTo k str s d a b kk
        | _, _ => none
      | .value (.func f) => match E.fns f with
        | some sg => callSig s (some d) sg (opds E s c.args) kk
        | none => none
      | _ => none
    | _ => none
def dstOk (E : Env) (o : Oper) : Bool := match o.dst with | some d => Nat.blt d E.n && Nat.ble E.lo d | none => true
def evOp (E : Env) (s : St) (o : Oper) (kk : St → Option R) : Option R :=
  cond (quiet E s o) (evQ E s o fun pv => kk (s.dst o.dst pv)) (evM E s o kk)
def evOps (E : Env) (ops : Array Oper) : List Oper → St → (St → Option R) → Option R
  | [], s, kk => kk s
  | o :: os, s, kk => cond (dstOk E o) (match o.guard with
    | none => evOp E s o fun s => evOps E ops os s kk
    | some (j, want) => match (ops[j]?).bind (·.dst) with
      | some g => match s.slot g with
        | .one (.v .bool b) => cond b
            (cond want (evOp E (s.put g (.one (.v .bool true))) o fun s => evOps E ops os s kk) (evOps E ops os ((s.put g (.one (.v .bool true))).dst o.dst (.tup [])) kk))
            (cond want (evOps E ops os ((s.put g (.one (.v .bool false))).dst o.dst (.tup [])) kk) (evOp E (s.put g (.one (.v .bool false))) o fun s => evOps E ops os s kk))
        | .tup [] => evOps E ops os (s.dst o.dst (.tup [])) kk
        | _ => none
      | none => none) none
def pvTags : PV → List Nat
  | .one c => (tagOf c).toList
  | .tup cs => cs.filterMap tagOf
def opdTags (s : St) : Operand → List Nat
  | .tmp t => pvTags (s.slot t)
  | _ => []
def PV.fine : PV → Bool
  | .one .bad => false
  | .one _ => true
  | .tup cs => cs.all fun c => match c with | .bad => false | _ => true
def opdFine (s : St) : Operand → Bool
  | .tmp t => (s.slot t).fine
  | _ => true
def isMove (o : Oper) : Bool := match o.op with
  | .move (.tmp _) => true
  | .extract (.tmp _) _ => true
  | _ => false
def chArgs : List Pm → List Operand → List Operand
  | .val _ :: ps, _ :: xs => chArgs ps xs
  | _ :: ps, x :: xs => x :: chArgs ps xs
  | _, _ => []
def chOpds (E : Env) (o : Oper) : List Operand :=
  match o.op with
  | .call c => match c.callee with
    | .value (.func f) => match E.fns f with
      | some sg => chArgs sg.ins c.args.toList
      | none => o.op.operands.toList
    | .builtin .append => match appTy E c.argTypes with
      | some (k, _) => cond k.flat (c.args.toList.take 1) o.op.operands.toList
      | none => o.op.operands.toList
    | _ => o.op.operands.toList
  | _ => o.op.operands.toList
def hintOk (E : Env) (H : List (List Nat × List Nat)) (i : Nat) (s : St) (o : Oper) : Bool := isMove o || match H[i]? with
  | none => true
  | some l => ((o.op.operands.toList.all fun x => opdFine s x && (opdTags s x).all fun t => (l.1 ++ l.2).elem t) && (chOpds E o).all fun x => (opdTags s x).all fun t => l.1.elem t) && (match o.dst with | some d => l.1.elem d | none => true)
def hintBack (H : List (List Nat × List Nat)) (i : Nat) (s : St) (o : Oper) : Bool := isMove o || match H[i]? with
  | none => true
  | some l => match o.dst with
    | some d => (pvTags (s.slot d)).all fun t => (l.1 ++ l.2).elem t
    | none => true
def evD (E : Env) (H : List (List Nat × List Nat)) (ops : Array Oper) : List Oper → Nat → St → (St → Option R) → Option R
  | [], _, s, kk => kk s
  | o :: os, i, s, kk => cond (hintOk E H i s o) (evOps E ops [o] s fun s => cond (hintBack H i s o) (evD E H ops os (i + 1) s kk) none) none
end
inductive Sd where
  | v (k : K)
  | al (t : Nat) (p : List Stp)
  | ptr (t : Nat) (p : List Stp)
  | fv (i o : List K)
  | sp (k : K)
structure Rd where
  k : K
  m : Mk
  mem : Bool
structure Desc where
  slots : List (Nat × Sd)
  roots : List (Nat × Rd)
@[reducible] def VarsS : List (Nat × Sd) → Type
  | [] => Unit
  | (_, .v k) :: r => T k × VarsS r
  | (_, .fv i o) :: r => (Ts i → Option (Ts o)) × VarsS r
  | (_, .sp k) :: r => T k × VarsS r
  | (_, .al _ _) :: r => VarsS r
  | (_, .ptr _ _) :: r => VarsS r
@[reducible] def VarsR : List (Nat × Rd) → Type
  | [] => Unit
  | (_, d) :: r => T d.k × VarsR r
@[reducible] def Vars (D : Desc) : Type := VarsS D.slots × VarsR D.roots
def mkS : (l : List (Nat × Sd)) → VarsS l → St → St
  | [], _, s => s
  | (n, .v k) :: r, x, s => mkS r x.2 (s.put n (.one (.v k x.1)))
  | (n, .al t p) :: r, x, s => mkS r x (s.put n (.one (.al t p)))
  | (n, .ptr t p) :: r, x, s => mkS r x (s.put n (.one (.ptr t p)))
  | (n, .fv i o) :: r, x, s => mkS r x.2 (s.put n (.one (.fv i o x.1)))
  | (n, .sp k) :: r, x, s => mkS r x.2 (s.put n (.one (.sp k x.1)))
def mkR : (l : List (Nat × Rd)) → VarsR l → St → St
  | [], _, s => s
  | (n, d) :: r, x, s => mkR r x.2 (s.setR n (some ⟨d.k, d.m, x.1, d.mem, false⟩))
def Desc.mk2 (D : Desc) (x : Vars D) (s : St) : St := mkR D.roots x.2 (mkS D.slots x.1 s)
section
variable {R : Type}
def extS (s : St) : (l : List (Nat × Sd)) → (VarsS l → Option R) → Option R
  | [], kk => kk ()
  | (n, .v k) :: r, kk => match s.slot n with
    | .one c => match asV k c with
      | some x => extS s r fun y => kk (x, y)
      | none => none
    | _ => none
  | (n, .al t p) :: r, kk => match s.slot n with
    | .one (.al t' p') => if t' = t ∧ p' = p then extS s r kk else none
    | _ => none
  | (n, .ptr t p) :: r, kk => match s.slot n with
    | .one (.ptr t' p') => if t' = t ∧ p' = p then extS s r kk else none
    | _ => none
  | (n, .fv i o) :: r, kk => match s.slot n with
    | .one (.fv i' o' f) => if h : i' = i ∧ o' = o then extS s r fun y => kk ((h.1 ▸ h.2 ▸ f), y) else none
    | _ => none
  | (n, .sp k) :: r, kk => match s.slot n with
    | .one (.sp k' x) => if h : k' = k then extS s r fun y => kk ((h ▸ x), y) else none
    | _ => none
def extR (s : St) : (l : List (Nat × Rd)) → (VarsR l → Option R) → Option R
  | [], kk => kk ()
  | (n, d) :: r, kk => match s.root n with
    | some rt => if h : rt.k = d.k then (if rt.m = d.m ∧ rt.mem = d.mem then extR s r fun y => kk (h ▸ rt.x, y) else none) else none
    | none => none
def Desc.ext (D : Desc) (s : St) (kk : Vars D → Option R) : Option R := extS s D.slots fun a => extR s D.roots fun b => kk (a, b)
end
inductive Ek where
  | norm | exit (id : Nat) | ret
  deriving DecidableEq
inductive Out where
  | norm (s : St) | exit (id : Nat) (s : St) | ret (s : St)
def Ek.out : Ek → St → Out
  | .norm, s => .norm s
  | .exit i, s => .exit i s
  | .ret, s => .ret s
@[reducible] def Oc : List (Ek × Desc) → Type
  | [] => Empty
  | [d] => Vars d.2
  | d :: d' :: r => Vars d.2 ⊕ Oc (d' :: r)
def Out.st : Out → St
  | .norm s => s
  | .exit _ s => s
  | .ret s => s
structure Sub where
  c : Desc
  v : Desc
  ex : List (Ek × Desc)
  f : (R : Type) → Vars c → Vars v → (Vars c → Oc ex → Option R) → Option R
section
variable {R : Type}
def ocRun (base : St) : (ex : List (Ek × Desc)) → Oc ex → (Out → Option R) → Option R
  | [], x, _ => nomatch x
  | [d], x, kk => kk (d.1.out (d.2.mk2 x base))
  | d :: d' :: r, x, kk => match x with
    | .inl y => kk (d.1.out (d.2.mk2 y base))
    | .inr y => ocRun base (d' :: r) y kk
def Sub.run (u : Sub) (s : St) (kk : Out → Option R) : Option R :=
  u.c.ext s fun c => u.v.ext s fun v => u.f R c v fun c' o => ocRun (u.c.mk2 c' .empty) u.ex o kk
def ocOf : (ex : List (Ek × Desc)) → Out → (Oc ex → Option R) → Option R
  | [], _, _ => none
  | [d], o, kk => match d.1, o with
    | .norm, .norm s => d.2.ext s kk
    | .exit i, .exit j s => if i = j then d.2.ext s kk else none
    | .ret, .ret s => d.2.ext s kk
    | _, _ => none
  | d :: d' :: r, o, kk => match d.1, o with
    | .norm, .norm s => d.2.ext s fun x => kk (.inl x)
    | .exit i, .exit j s => if i = j then d.2.ext s fun x => kk (.inl x) else ocOf (d' :: r) o fun x => kk (.inr x)
    | .ret, .ret s => d.2.ext s fun x => kk (.inl x)
    | _, o => ocOf (d' :: r) o fun x => kk (.inr x)
def firstReg : Code → Option Nat
  | .region id _ _ => some id
  | .seq a b => match firstReg a with | some n => some n | none => firstReg b
  | .cond _ a b => match firstReg a with | some n => some n | none => firstReg b
  | .block _ b => firstReg b
  | .loop b => firstReg b
  | _ => none
noncomputable def evC (E : Env) (subs : Bool → Nat → Option Sub) : Code → St → (Out → Option R) → Option R
  | .skip, s, kk => kk (.norm s)
  | .region id ops false, s, kk => evOps E ops ops.toList s fun s => kk (.norm (s.frz E.lo (E.frz id)))
  | .region id ops true, s, kk => evD E (E.draw id) ops ops.toList 0 s fun s => kk (.norm (s.frz E.lo (E.frz id)))
  | .seq a b, s, kk => evC E subs a s fun o => match o with
    | .norm s => evC E subs b s kk
    | .exit i s => kk (.exit i s)
    | .ret s => kk (.ret s)
  | .cond c a b, s, kk => match ((firstReg a).orElse fun _ => firstReg b).bind (subs false) with
    | some u => u.run s kk
    | none => match s.opd c with
      | .unk => bothK (evC E subs a s kk) (evC E subs b s kk)
      | w => match asBool w with
        | some t => cond t (evC E subs a s kk) (evC E subs b s kk)
        | none => none
  | .block id a, s, kk => evC E subs a s fun o => match o with
    | .exit i s => cond (Nat.beq i id) (kk (.norm s)) (kk (.exit i s))
    | .norm s => kk (.norm s)
    | .ret s => kk (.ret s)
  | .loop a, s, kk => match (firstReg a).bind (subs true) with
    | some u => u.run s kk
    | none => none
  | .exit id, s, kk => kk (.exit id s)
  | .ret, s, kk => kk (.ret s)
  | _, _, _ => none
end
def initAt : Nat → (ins : List Pm) → Ps ins → St → St
  | _, [], _, s => s
  | i, .val k :: ps, x, s => initAt (i + 1) ps x.2 (s.put i (.one (.v k x.1)))
  | i, .mov k m :: ps, x, s => initAt (i + 1) ps x.2 ((s.setR i (some ⟨k, m, x.1, false, false⟩)).put i (.one (.al i [])))
  | i, .chg k m :: ps, x, s => initAt (i + 1) ps x.2 ((s.setR i (some ⟨k, m, x.1, false, false⟩)).put i (.one (.al i [])))
  | i, .mptr k m :: ps, x, s => initAt (i + 1) ps x.2 ((s.setR i (some ⟨k, m, x.1, true, false⟩)).put i (.one (.ptr i [])))
  | i, .fn a b :: ps, x, s => initAt (i + 1) ps x.2 (s.put i (.one (.fv a b x.1)))
  | i, .rp k :: ps, x, s => initAt (i + 1) ps x.2 (s.put i (.one (.sp k x.1)))
section
variable {R : Type}
def takeRes (E : Env) (s : St) : ResultVar → (k : K) → Mk → (T k → St → Option R) → Option R
  | .tmp t, k, m, kk => match s.opd (.tmp t) with
    | .nil0 => match k with
      | .sl _ => kk [] s
      | _ => none
    | c => cond m.clear (s.read c fun ct => if h : ct.k = k then (cond ct.m.clear (kk (h ▸ ct.x) s) none) else none)
      (s.take c fun ct s => if h : ct.k = k then (if ct.m = m then kk (h ▸ ct.x) s else none) else none)
  | .cell a ty, k, m, kk => match s.opd (.tmp a) with
    | .ptr t [] => match s.root t with
      | some r => if h : r.k = k then (if r.m = m ∧ m.whole = true ∧ E.ty ty = some k then kk (h ▸ r.x) (s.drop t) else none) else none
      | none => none
    | .sp k' x => if h : k' = k then (if m.clear = true ∧ E.ty ty = some k then kk (h ▸ x) s else none) else none
    | _ => none
def resOf (E : Env) (s : St) : List ResultVar → (rs : List (K × Mk)) → (Rs rs → St → Option R) → Option R
  | [], [], kk => kk () s
  | v :: vs, (k, m) :: rs, kk => takeRes E s v k m fun x s => resOf E s vs rs fun xs s => kk (x, xs) s
  | _, _, _ => none
def endS (lo : Nat) : List ResultVar → List (K × Mk) → St → St
  | .tmp n :: vs, (_, m) :: rs, s => endS lo vs rs (cond m.clear (s.lendS lo n) s)
  | .cell n _ :: vs, (_, m) :: rs, s => endS lo vs rs (cond m.clear (s.lendS lo n) s)
  | _, _, s => s
def outsAt (s : St) : Nat → (ins : List Pm) → (Rs (Pm.outs ins) → Option R) → Option R
  | _, [], kk => kk ()
  | i, .mptr k m :: ps, kk => match s.slot i with
    | .one (.ptr t []) => cond (Nat.beq t i) (match s.root i with
      | some r => if h : r.k = k then (if r.m = m then outsAt s (i + 1) ps fun xs => kk (h ▸ r.x, xs) else none) else none
      | none => none) none
    | _ => none
  | i, .chg k m :: ps, kk => match s.slot i with
    | .one (.al t []) => cond (Nat.ble i t && (Pm.outs ps).isEmpty) (match s.root t with
      | some r => if h : r.k = k then (if r.m = m then outsAt s (i + 1) ps fun xs => kk (h ▸ r.x, xs) else none) else none
      | none => none) none
    | _ => none
  | i, .val _ :: ps, kk => outsAt s (i + 1) ps kk
  | i, .mov _ _ :: ps, kk => outsAt s (i + 1) ps kk
  | i, .fn _ _ :: ps, kk => outsAt s (i + 1) ps kk
  | i, .rp _ :: ps, kk => outsAt s (i + 1) ps kk
end
noncomputable def evF (E : Env) (subs : Bool → Nat → Option Sub) (fn : Func) (ins : List Pm) (res : List (K × Mk)) (x : Ps ins) : Option (Rs res × Rs (Pm.outs ins)) :=
  match fn.body with
  | none => none
  | some c => evC E subs c (initAt 0 ins x .empty) fun o =>
    let fin (s : St) := resOf E (endS E.lo fn.results.toList res s) fn.results.toList res fun r s => outsAt s 0 ins fun b => some (r, b)
    match o with
    | .norm s => fin s
    | .ret s => fin s
    | .exit _ _ => none
def iter {S A : Type} (step : S → Option (S ⊕ A)) : Nat → S → Option A
  | 0, _ => none
  | n + 1, s => match step s with
    | none => none
    | some (.inl s) => iter step n s
    | some (.inr a) => some a
open Classical in
noncomputable def loopM {S A : Type} (step : S → Option (S ⊕ A)) (s : S) : Option A :=
  if h : ∃ n a, iter step n s = some a then some h.choose_spec.choose else none
def chk {R : Type} (c : Desc) (ex : List (Ek × Desc)) (o : Out) (kk : Vars c → Oc ex → Option R) : Option R :=
  c.ext o.st fun c' => ocOf ex o fun y => kk c' y
def bodyK {R : Type} (c v : Desc) (ex : List (Ek × Desc)) (o : Out) (kk : Vars c → (Vars v ⊕ Oc ex) → Option R) : Option R :=
  c.ext o.st fun c' => match o with
  | .norm s => v.ext s fun x => kk c' (.inl x)
  | .exit i s => ocOf ex (.exit i s) fun x => kk c' (.inr x)
  | .ret s => ocOf ex (.ret s) fun x => kk c' (.inr x)
def round {c v : Desc} {ex : List (Ek × Desc)} (stepK : (R : Type) → Vars c → Vars v → (Vars c → (Vars v ⊕ Oc ex) → Option R) → Option R) (p : Vars c × Vars v) : Option ((Vars c × Vars v) ⊕ (Vars c × Oc ex)) :=
  stepK _ p.1 p.2 fun c' z => match z with
    | .inl v' => some (.inl (c', v'))
    | .inr y => some (.inr (c', y))
noncomputable def loopF {c v : Desc} {ex : List (Ek × Desc)} (stepK : (R : Type) → Vars c → Vars v → (Vars c → (Vars v ⊕ Oc ex) → Option R) → Option R) (R : Type) (xc : Vars c) (xv : Vars v) (kk : Vars c → Oc ex → Option R) : Option R :=
  bnd (loopM (round stepK) (xc, xv)) fun y => kk y.1 y.2
def closed2 (c d : Desc) : Bool :=
  (c.slots ++ d.slots).all fun x => match x.2 with
    | .v _ => true
    | .fv _ _ => true
    | .sp _ => true
    | .al t _ => (c.roots ++ d.roots).any fun y => Nat.beq y.1 t
    | .ptr t _ => (c.roots ++ d.roots).any fun y => Nat.beq y.1 t
end Go.Proofs.YthlnjkcpdkjipaaDoor.Ev

/- Where data lie in memory. -/
namespace Go.Proofs.YthlnjkcpdkjipaaDoor.Ev
@[reducible] def L : K → Type
  | .pair a b => L a × L b
  | .sl k => (Option (Nat × Nat) × Nat) × (Nat → L k)
  | _ => Unit
def adr (q : Option (Nat × Nat)) : Option Addr := q.map fun x => ⟨x.1, x.2, none⟩
def vals : (k : K) → T k → L k → List Value
  | .int k, n, _ => [.int k n]
  | .bool, b, _ => [.bool b]
  | .str, s, _ => [.string s]
  | .unit, _, _ => []
  | .pair a b, x, l => vals a x.1 l.1 ++ vals b x.2 l.2
  | .sl _, xs, l => [.slice (adr l.1.1) xs.length l.1.2]
def valOf : (k : K) → T k → L k → Value
  | .int k, n, _ => .int k n
  | .bool, b, _ => .bool b
  | .str, s, _ => .string s
  | .unit, _, _ => .agg #[]
  | .pair a b, x, l => .agg (vals (.pair a b) x l).toArray
  | .sl _, xs, l => .slice (adr l.1.1) xs.length l.1.2
theorem vals_length : ∀ (k : K) (x : T k) (l : L k), (vals k x l).length = k.size
  | .int _, _, _ | .bool, _, _ | .str, _, _ | .unit, _, _ | .sl _, _, _ => rfl
  | .pair a b, x, l => by simp [vals, K.size, vals_length a, vals_length b]
theorem valOf_cells (k : K) (x : T k) (l : L k) : (valOf k x l).cells = (vals k x l).toArray := by
  cases k <;> rfl
def one : Value → Bool
  | .agg _ | .tuple _ => false
  | _ => true
theorem vals_one : ∀ (k : K) (x : T k) (l : L k), ∀ v ∈ vals k x l, one v = true
  | .int _, _, _ | .bool, _, _ | .str, _, _ | .sl _, _, _ => by intro v hv; simp only [vals, List.mem_singleton] at hv; subst hv; rfl
  | .unit, _, _ => by intro v hv; simp [vals] at hv
  | .pair a b, x, l => by
    intro v hv
    simp only [vals, List.mem_append] at hv
    rcases hv with hv | hv
    · exact vals_one a _ _ v hv
    · exact vals_one b _ _ v hv
def BlkG (u : Bool) (w : World) (b : Nat) (P : Array Value → Prop) : Prop :=
  ∃ cs e fr, w.heap[b]? = some (.cells cs e fr) ∧ (u = true → ∀ j, j < cs.size → ¬ (fr.1 ≤ j ∧ j < fr.2)) ∧ P cs
abbrev Blk := BlkG true
theorem BlkG.mono {u : Bool} {w : World} {b : Nat} {P Q : Array Value → Prop} (h : BlkG u w b P) (hq : ∀ cs, P cs → Q cs) : BlkG u w b Q :=
  let ⟨cs, e, fr, h1, h2, h3⟩ := h
  ⟨cs, e, fr, h1, h2, hq _ h3⟩
theorem BlkG.frame {u : Bool} {w w' : World} {b : Nat} {P : Array Value → Prop} (h : BlkG u w b P) (e : w'.heap[b]? = w.heap[b]?) : BlkG u w' b P := by
  obtain ⟨cs, t, fr, h1, h2, h3⟩ := h
  exact ⟨cs, t, fr, by rw [e]; exact h1, h2, h3⟩
theorem BlkG.lt {u : Bool} {w : World} {b : Nat} {P : Array Value → Prop} (h : BlkG u w b P) : b < w.heap.size := by
  obtain ⟨cs, t, fr, h1, _⟩ := h
  exact (Array.getElem?_eq_some_iff.1 h1).1
theorem BlkG.and {u v : Bool} {w : World} {b : Nat} {P Q : Array Value → Prop} (h : BlkG u w b P) (h' : BlkG v w b Q) : BlkG u w b fun cs => P cs ∧ Q cs := by
  obtain ⟨cs, t, fr, h1, h2, h3⟩ := h
  obtain ⟨cs', t', fr', h1', _, h3'⟩ := h'
  rw [h1] at h1'
  injection h1' with h1'
  injection h1' with e1 e2 e3
  subst e1
  exact ⟨cs, t, fr, h1, h2, h3, h3'⟩
theorem BlkG.weak {u : Bool} {w : World} {b : Nat} {P : Array Value → Prop} (h : BlkG u w b P) : BlkG false w b P := by
  obtain ⟨cs, t, fr, h1, h2, h3⟩ := h
  exact ⟨cs, t, fr, h1, fun h => (by cases h), h3⟩
theorem BlkG.any {u : Bool} {w : World} {b : Nat} {P : Array Value → Prop} (h : BlkG true w b P) : BlkG u w b P := by
  obtain ⟨cs, t, fr, h1, h2, h3⟩ := h
  exact ⟨cs, t, fr, h1, fun _ => h2 rfl, h3⟩
def u8V : Value → Bool
  | .int .u8 _ => true
  | _ => false
theorem vals_nu8 : ∀ {k : K} {x : T k} {l : L k}, k.nu8 = true → ∀ v ∈ vals k x l, u8V v = false
  | .int j, x, l, h, v, hv => by
    simp only [vals, List.mem_singleton] at hv
    subst hv
    cases j <;> first | rfl | cases h
  | .bool, x, l, h, v, hv => by simp only [vals, List.mem_singleton] at hv; subst hv; rfl
  | .str, x, l, h, v, hv => by simp only [vals, List.mem_singleton] at hv; subst hv; rfl
  | .unit, x, l, h, v, hv => by cases hv
  | .sl k, x, l, h, v, hv => by simp only [vals, List.mem_singleton] at hv; subst hv; rfl
  | .pair a b, x, l, h, v, hv => by
    simp only [K.nu8, Bool.and_eq_true] at h
    simp only [vals, List.mem_append] at hv
    exact hv.elim (vals_nu8 h.1 v) (vals_nu8 h.2 v)
def BlkE (k : K) (c : Nat) (w : World) (b : Nat) (P : Array Value → Prop) : Prop :=
  ∃ cs e fr, w.heap[b]? = some (.cells cs e fr) ∧ (∀ j, j < cs.size → ¬ (fr.1 ≤ j ∧ j < fr.2)) ∧ ((k ≠ .int .u8 → ¬ (fr.1 ≤ cs.size ∧ cs.size < fr.2) ∧ c ≤ 9223372036854775807) ∧ (k.nu8 = true → ∀ (j : Nat) (v : Value), cs[j]? = some v → u8V v = false)) ∧ P cs
theorem BlkE.blk {k : K} {c : Nat} {w : World} {b : Nat} {P : Array Value → Prop} (h : BlkE k c w b P) : Blk w b P :=
  let ⟨cs, e, fr, h1, h2, _, h3⟩ := h
  ⟨cs, e, fr, h1, fun _ => h2, h3⟩
theorem BlkE.frame {k : K} {c : Nat} {w w' : World} {b : Nat} {P : Array Value → Prop} (h : BlkE k c w b P) (e : w'.heap[b]? = w.heap[b]?) : BlkE k c w' b P := by
  obtain ⟨cs, t, fr, h1, h2⟩ := h
  exact ⟨cs, t, fr, by rw [e]; exact h1, h2⟩
theorem BlkE.mono {k : K} {c : Nat} {w : World} {b : Nat} {P Q : Array Value → Prop} (h : BlkE k c w b P) (hq : ∀ cs, P cs → Q cs) : BlkE k c w b Q :=
  let ⟨cs, e, fr, h1, h2, h4, h3⟩ := h
  ⟨cs, e, fr, h1, h2, h4, hq _ h3⟩
theorem BlkE.le {k : K} {c c' : Nat} {w : World} {b : Nat} {P : Array Value → Prop} (h : BlkE k c w b P) (hc : c' ≤ c) : BlkE k c' w b P :=
  let ⟨cs, e, fr, h1, h2, h4, h3⟩ := h
  ⟨cs, e, fr, h1, h2, ⟨fun hk => ⟨(h4.1 hk).1, Nat.le_trans hc (h4.1 hk).2⟩, h4.2⟩, h3⟩
theorem BlkE.lt {k : K} {c : Nat} {w : World} {b : Nat} {P : Array Value → Prop} (h : BlkE k c w b P) : b < w.heap.size := h.blk.lt
def cellsAt (cs : Array Value) (o : Nat) (vs : List Value) : Prop := ∀ j v, vs[j]? = some v → cs[o + j]? = some v
theorem cellsAt_append {cs : Array Value} {o : Nat} {a b : List Value} : cellsAt cs o (a ++ b) ↔ cellsAt cs o a ∧ cellsAt cs (o + a.length) b := by
  constructor
  · intro h
    refine ⟨fun j v hj => h j v ?_, fun j v hj => ?_⟩
    · rw [List.getElem?_append_left]
      · exact hj
      · exact (List.getElem?_eq_some_iff.1 hj).1
    · have := h (a.length + j) v (by rw [List.getElem?_append_right (by omega)]; simpa using hj)
      rw [← Nat.add_assoc] at this
      exact this
  · rintro ⟨h1, h2⟩ j v hj
    rcases Nat.lt_or_ge j a.length with hlt | hge
    · rw [List.getElem?_append_left hlt] at hj
      exact h1 j v hj
    · rw [List.getElem?_append_right hge] at hj
      have := h2 (j - a.length) v hj
      rwa [show o + a.length + (j - a.length) = o + j by omega] at this
theorem cellsAt.size {cs : Array Value} {o : Nat} {a : List Value} (h : cellsAt cs o a) (hne : a ≠ []) : o + a.length ≤ cs.size := by
  have hl : 0 < a.length := List.length_pos_iff.2 hne
  have := h (a.length - 1) (a[a.length - 1]) (List.getElem?_eq_getElem _)
  have := (Array.getElem?_eq_some_iff.1 this).1
  omega
def Unf (w : World) (b o : Nat) : Prop := ∃ cs e fr, w.heap[b]? = some (.cells cs e fr) ∧ ¬ (fr.1 ≤ o ∧ o < fr.2) ∧ o ≤ cs.size ∧ cs.size = 0
theorem Unf.frame {w w' : World} {b o : Nat} (h : Unf w b o) (e : w'.heap[b]? = w.heap[b]?) : Unf w' b o := by
  obtain ⟨cs, t, fr, h1, h2⟩ := h
  exact ⟨cs, t, fr, by rw [e]; exact h1, h2⟩
def slOk (w : World) (F : Nat → Prop) (own : Bool) (k : K) (xs : List (T k)) (l : L (.sl k)) : Prop :=
  xs.length ≤ l.1.2 ∧ (l.1.1 = none → l.1.2 = 0) ∧
    (∀ b o, l.1.1 = some (b, o) → (own = true → l.1.2 ≠ 0 → BlkE k l.1.2 w b fun cs => o + l.1.2 * k.size ≤ cs.size) ∧
      (xs ≠ [] → (own = false → F b) ∧ BlkG own w b fun cs => ∀ i x, xs[i]? = some x → cellsAt cs (o + i * k.size) (vals k x (l.2 i)))) ∧
    (own = true → l.1.2 = 0 → ∀ b o, l.1.1 = some (b, o) → F b ∧ Unf w b o)
def sat (w : World) (F : Nat → Prop) : (k : K) → Mk → T k → L k → Prop
  | .pair a b, m, x, l => sat w F a m.l x.1 l.1 ∧ sat w F b m.r x.2 l.2
  | .sl k, m, xs, l => m ≠ .d → slOk w F m.owns k xs l ∧ ∀ i x, xs[i]? = some x → sat w F k m.inner x (l.2 i)
  | .int _, _, _, _ | .bool, _, _, _ | .str, _, _, _ | .unit, _, _, _ => True
def satV (w : World) (F : Nat → Prop) : (k : K) → Mk → T k → L k → Prop
  | .sl k, m, xs, l => m ≠ .d → (xs.length ≤ l.1.2 ∧ (l.1.1 = none → l.1.2 = 0) ∧
    ∀ b o, l.1.1 = some (b, o) → (m.owns = true → l.1.2 ≠ 0 → BlkE k l.1.2 w b fun cs => o + l.1.2 * k.size ≤ cs.size) ∧
      (xs ≠ [] → (m.owns = false → F b) ∧ BlkG m.owns w b fun cs => ∀ i x, xs[i]? = some x → cellsAt cs (o + i * k.size) (vals k x (l.2 i)))) ∧
    ∀ i x, xs[i]? = some x → sat w F k m.inner x (l.2 i)
  | k, m, x, l => sat w F k m x l
theorem sat.V {w : World} {F : Nat → Prop} {k : K} {m : Mk} {x : T k} {l : L k} (h : sat w F k m x l) : satV w F k m x l := by
  cases k with
  | sl k => exact fun hm => ⟨⟨(h hm).1.1, (h hm).1.2.1, (h hm).1.2.2.1⟩, (h hm).2⟩
  | int _ => trivial
  | bool => trivial
  | str => trivial
  | unit => trivial
  | pair a b => exact h
theorem satV.s {w : World} {F : Nat → Prop} {k : K} {x : T k} {l : L k} (h : satV w F k .s x l) : sat w F k .s x l := by
  cases k with
  | sl k => exact fun hm => ⟨⟨(h hm).1.1, (h hm).1.2.1, (h hm).1.2.2, fun ho => by simp [Mk.owns] at ho⟩, (h hm).2⟩
  | int _ => trivial
  | bool => trivial
  | str => trivial
  | unit => trivial
  | pair a b => exact h
def fpL {α β : Type} (f : α → β → List Nat) : List α → (Nat → β) → List Nat
  | [], _ => []
  | x :: xs, l => f x (l 0) ++ fpL f xs fun i => l (i + 1)
theorem mem_fpL {α β : Type} {f : α → β → List Nat} {b : Nat} : ∀ {xs : List α} {l : Nat → β}, b ∈ fpL f xs l ↔ ∃ i x, xs[i]? = some x ∧ b ∈ f x (l i)
  | [], l => by simp [fpL]
  | y :: xs, l => by
    rw [fpL, List.mem_append, mem_fpL]
    constructor
    · rintro (h | ⟨i, x, hx, hb⟩)
      · exact ⟨0, y, rfl, h⟩
      · exact ⟨i + 1, x, by simpa using hx, hb⟩
    · rintro ⟨i, x, hx, hb⟩
      cases i with
      | zero => simp at hx; subst hx; exact .inl hb
      | succ i => exact .inr ⟨i, x, by simpa using hx, hb⟩
theorem nodup_fpL {α β : Type} {f : α → β → List Nat} : ∀ {xs : List α} {l : Nat → β},
    (fpL f xs l).Nodup ↔ (∀ i x, xs[i]? = some x → (f x (l i)).Nodup) ∧ ∀ i j x y, xs[i]? = some x → xs[j]? = some y → i ≠ j → ∀ b, b ∈ f x (l i) → b ∉ f y (l j)
  | [], l => by simp [fpL]
  | z :: xs, l => by
    rw [fpL, List.nodup_append, nodup_fpL]
    constructor
    · rintro ⟨h1, ⟨h2, h3⟩, h4⟩
      refine ⟨?_, ?_⟩
      · intro i x hx
        cases i with
        | zero => simp at hx; subst hx; exact h1
        | succ i => exact h2 i x (by simpa using hx)
      · intro i j x y hx hy hij b hb hb'
        cases i with
        | zero =>
          simp at hx; subst hx
          cases j with
          | zero => exact hij rfl
          | succ j => exact h4 b hb b (mem_fpL.2 ⟨j, y, by simpa using hy, hb'⟩) rfl
        | succ i =>
          cases j with
          | zero =>
            simp at hy; subst hy
            exact h4 b hb' b (mem_fpL.2 ⟨i, x, by simpa using hx, hb⟩) rfl
          | succ j => exact h3 i j x y (by simpa using hx) (by simpa using hy) (by omega) b hb hb'
    · rintro ⟨h1, h2⟩
      refine ⟨h1 0 z rfl, ⟨fun i x hx => h1 (i + 1) x (by simpa using hx), fun i j x y hx hy hij => h2 (i + 1) (j + 1) x y (by simpa using hx) (by simpa using hy) (by omega)⟩, ?_⟩
      rintro b hb c hc rfl
      obtain ⟨i, x, hx, hb'⟩ := mem_fpL.1 hc
      exact h2 0 (i + 1) z x rfl (by simpa using hx) (by omega) b hb hb'
def own1 (l : Option (Nat × Nat) × Nat) : List Nat := if l.2 = 0 then [] else (l.1.map (·.1)).toList
def fp : (k : K) → Mk → T k → L k → List Nat
  | .pair a b, m, x, l => fp a m.l x.1 l.1 ++ fp b m.r x.2 l.2
  | .sl k, m, xs, l => if m.owns then own1 l.1 ++ fpL (fp k m.inner) xs l.2 else []
  | .int _, _, _, _ | .bool, _, _, _ | .str, _, _, _ | .unit, _, _, _ => []
theorem mem_own1 {l : Option (Nat × Nat) × Nat} {b : Nat} : b ∈ own1 l ↔ l.2 ≠ 0 ∧ ∃ o, l.1 = some (b, o) := by
  obtain ⟨q, c⟩ := l
  unfold own1
  cases q with
  | none => simp
  | some q =>
    obtain ⟨b', o'⟩ := q
    by_cases h : c = 0 <;> simp [h, eq_comm]
theorem nodup_own1 (l : Option (Nat × Nat) × Nat) : (own1 l).Nodup := by
  unfold own1
  split
  · simp
  · cases l.1 <;> simp
theorem fp_clear : ∀ {k : K} {m : Mk} {x : T k} {l : L k}, m.clear = true → fp k m x l = []
  | .int _, _, _, _, _ | .bool, _, _, _, _ | .str, _, _, _, _ | .unit, _, _, _, _ => rfl
  | .pair a b, m, x, l, h => by
    have h1 : m.l.clear = true := by cases m <;> simp_all [Mk.clear, Mk.l]
    have h2 : m.r.clear = true := by cases m <;> simp_all [Mk.clear, Mk.r]
    simp [fp, fp_clear h1, fp_clear h2]
  | .sl k, m, x, l, h => by
    have h1 : m.owns = false := by cases m <;> simp_all [Mk.clear, Mk.owns]
    simp [fp, h1]
theorem sat_frame {w w' : World} {F F' : Nat → Prop} : ∀ {k : K} {m : Mk} {x : T k} {l : L k},
    sat w F k m x l → (∀ b, b ∈ fp k m x l ∨ F b → w'.heap[b]? = w.heap[b]?) → (∀ b, F b → F' b) → sat w' F' k m x l
  | .int _, _, _, _, _, _, _ | .bool, _, _, _, _, _, _ | .str, _, _, _, _, _, _ | .unit, _, _, _, _, _, _ => trivial
  | .pair a b, m, x, l, h, hf, hF => by
    refine ⟨sat_frame h.1 (fun c hc => hf c ?_) hF, sat_frame h.2 (fun c hc => hf c ?_) hF⟩
    · exact hc.imp (fun hc => by simp [fp, hc]) id
    · exact hc.imp (fun hc => by simp [fp, hc]) id
  | .sl k, m, xs, l, h, hf, hF => by
    intro hm
    obtain ⟨⟨h1, h2, h3, h5⟩, h4⟩ := h hm
    refine ⟨⟨h1, h2, fun b o hb => ⟨fun ho hc => ((h3 b o hb).1 ho hc).frame (hf b (.inl ?_)), fun hx => ⟨fun ho => hF b (((h3 b o hb).2 hx).1 ho), (((h3 b o hb).2 hx).2).frame (hf b ?_)⟩⟩,
      fun ho hc b o hb => ⟨hF b (h5 ho hc b o hb).1, (h5 ho hc b o hb).2.frame (hf b (.inr (h5 ho hc b o hb).1))⟩⟩, fun i x hx => sat_frame (h4 i x hx) (fun b hb => hf b ?_) hF⟩
    · simp only [fp, ho, if_true, List.mem_append]
      exact .inl (mem_own1.2 ⟨hc, o, hb⟩)
    · cases ho : m.owns with
      | false => exact .inr (((h3 b o hb).2 hx).1 ho)
      | true =>
        refine .inl ?_
        simp only [fp, ho, if_true, List.mem_append]
        refine .inl (mem_own1.2 ⟨?_, o, hb⟩)
        have : 0 < xs.length := List.length_pos_iff.2 hx
        omega
    · rcases hb with hb | hb
      · cases ho : m.owns with
        | false =>
          have : m.inner = .s := by cases m <;> simp_all [Mk.owns, Mk.inner]
          rw [this, fp_clear rfl] at hb
          cases hb
        | true =>
          refine .inl ?_
          simp only [fp, ho, if_true, List.mem_append]
          exact .inr (mem_fpL.2 ⟨i, x, hx, hb⟩)
      · exact .inr hb
theorem Mk.l_s {m : Mk} (h : m = .s) : m.l = .s := by subst h; rfl
theorem lend_sl {w : World} {F : Nat → Prop} {k : K} {m : Mk} {xs : List (T k)} {l : L (.sl k)} (hw : m.whole = true) (h : satV w F (.sl k) m xs l)
    (ih : ∀ i x, xs[i]? = some x → m.inner.whole = true → sat w (fun b => F b ∨ b ∈ fp k m.inner x (l.2 i)) k .s x (l.2 i)) :
    sat w (fun b => F b ∨ b ∈ fp (.sl k) m xs l) (.sl k) .s xs l := by
  intro _
  have hm : m ≠ .d := by rintro rfl; cases hw
  obtain ⟨⟨h1, h2, h3⟩, h4⟩ := h hm
  have hin : m.inner.whole = true := by cases m <;> simp_all [Mk.whole, Mk.inner]
  refine ⟨⟨h1, h2, fun b o hb => ⟨fun ho => by simp [Mk.owns] at ho, fun hx => ⟨fun _ => ?_, ((h3 b o hb).2 hx).2.weak⟩⟩, fun ho => by simp [Mk.owns] at ho⟩, fun i x hx => sat_frame (ih i x hx hin) (fun _ _ => rfl) (fun c hc => ?_)⟩
  · cases ho : m.owns with
    | false => exact .inl (((h3 b o hb).2 hx).1 ho)
    | true =>
      refine .inr ?_
      simp only [fp, ho, if_true, List.mem_append]
      refine .inl (mem_own1.2 ⟨?_, o, hb⟩)
      have : 0 < xs.length := List.length_pos_iff.2 hx
      omega
  · refine hc.imp id fun hc => ?_
    cases ho : m.owns with
    | false =>
      have : m.inner = .s := by cases m <;> simp_all [Mk.owns, Mk.inner]
      rw [this, fp_clear rfl] at hc
      cases hc
    | true =>
      simp only [fp, ho, if_true, List.mem_append]
      exact .inr (mem_fpL.2 ⟨i, x, hx, hc⟩)
theorem sat_lend {w : World} {F : Nat → Prop} : ∀ {k : K} {m : Mk} {x : T k} {l : L k}, m.whole = true →
    sat w F k m x l → sat w (fun b => F b ∨ b ∈ fp k m x l) k .s x l
  | .int _, _, _, _, _, _ | .bool, _, _, _, _, _ | .str, _, _, _, _, _ | .unit, _, _, _, _, _ => trivial
  | .pair a b, m, x, l, hw, h => by
    have h1 : m.l.whole = true := by cases m <;> simp_all [Mk.whole, Mk.l]
    have h2 : m.r.whole = true := by cases m <;> simp_all [Mk.whole, Mk.r]
    refine ⟨sat_frame (sat_lend h1 h.1) (fun _ _ => rfl) (fun c hc => ?_), sat_frame (sat_lend h2 h.2) (fun _ _ => rfl) (fun c hc => ?_)⟩
    · exact hc.imp id fun hc => by simp [fp, hc]
    · exact hc.imp id fun hc => by simp [fp, hc]
  | .sl k, m, xs, l, hw, h => lend_sl hw h.V fun i x hx hin => sat_lend hin ((h (by rintro rfl; cases hw)).2 i x hx)
theorem satV_lend {w : World} {F : Nat → Prop} {k : K} {m : Mk} {x : T k} {l : L k} (hw : m.whole = true) (h : satV w F k m x l) : sat w (fun b => F b ∨ b ∈ fp k m x l) k .s x l := by
  cases k with
  | sl k => exact lend_sl hw h fun i y hy hin => sat_lend hin ((h (by rintro rfl; cases hw)).2 i y hy)
  | int _ => trivial
  | bool => trivial
  | str => trivial
  | unit => trivial
  | pair a b => exact sat_lend hw h
theorem sat_clear {w : World} {F : Nat → Prop} {k : K} {m : Mk} {x : T k} {l : L k} (hc : m.clear = true) (h : sat w F k m x l) : sat w F k .s x l := by
  have hw : m.whole = true := by
    clear h x l
    induction m with
    | s => rfl
    | d => cases hc
    | o m => cases hc
    | pr a b iha ihb => simp [Mk.clear] at hc; simp [Mk.whole, iha hc.1, ihb hc.2]
  refine sat_frame (sat_lend hw h) (fun _ _ => rfl) fun b hb => ?_
  rw [fp_clear hc] at hb
  simpa using hb
theorem fp_lt {w : World} {F : Nat → Prop} : ∀ {k : K} {m : Mk} {x : T k} {l : L k}, sat w F k m x l → ∀ b ∈ fp k m x l, b < w.heap.size
  | .int _, _, _, _, _ | .bool, _, _, _, _ | .str, _, _, _, _ | .unit, _, _, _, _ => by intro b hb; cases hb
  | .pair a b, m, x, l, h => by
    intro c hc
    simp only [fp, List.mem_append] at hc
    rcases hc with hc | hc
    · exact fp_lt h.1 c hc
    · exact fp_lt h.2 c hc
  | .sl k, m, xs, l, h => by
    intro c hc
    cases ho : m.owns with
    | false => simp [fp, ho] at hc
    | true =>
      have hm : m ≠ .d := by rintro rfl; cases ho
      obtain ⟨⟨h1, h2, h3, h5⟩, h4⟩ := h hm
      simp only [fp, ho, if_true, List.mem_append] at hc
      rcases hc with hc | hc
      · obtain ⟨h0, o, hq⟩ := mem_own1.1 hc
        exact ((h3 c o hq).1 ho h0).lt
      · obtain ⟨i, x, hx, hb⟩ := mem_fpL.1 hc
        exact fp_lt (h4 i x hx) c hb
theorem fp_blk {w : World} {F : Nat → Prop} : ∀ {k : K} {m : Mk} {x : T k} {l : L k}, sat w F k m x l → ∀ b ∈ fp k m x l, Blk w b fun _ => True
  | .int _, _, _, _, _ | .bool, _, _, _, _ | .str, _, _, _, _ | .unit, _, _, _, _ => by intro b hb; cases hb
  | .pair a b, m, x, l, h => by
    intro c hc
    simp only [fp, List.mem_append] at hc
    rcases hc with hc | hc
    · exact fp_blk h.1 c hc
    · exact fp_blk h.2 c hc
  | .sl k, m, xs, l, h => by
    intro c hc
    cases ho : m.owns with
    | false => simp [fp, ho] at hc
    | true =>
      have hm : m ≠ .d := by rintro rfl; cases ho
      obtain ⟨⟨h1, h2, h3, h5⟩, h4⟩ := h hm
      simp only [fp, ho, if_true, List.mem_append] at hc
      rcases hc with hc | hc
      · obtain ⟨h0, o, hq⟩ := mem_own1.1 hc
        exact ((h3 c o hq).1 ho h0).blk.mono fun _ _ => trivial
      · obtain ⟨i, x, hx, hb⟩ := mem_fpL.1 hc
        exact fp_blk (h4 i x hx) c hb
end Go.Proofs.YthlnjkcpdkjipaaDoor.Ev

/- Places in data: what lies there, and what another content does. -/
namespace Go.Proofs.YthlnjkcpdkjipaaDoor.Ev
structure GC where
  k : K
  m : Mk
  x : T k
  l : L k
  b : Option (Nat × Nat)
@[reducible] def GC.ct (c : GC) : Ct := ⟨c.k, c.m, c.x⟩
def GC.fp (c : GC) : List Nat := Ev.fp c.k c.m c.x c.l
def mv (b : Option (Nat × Nat)) (n : Nat) : Option (Nat × Nat) := b.map fun q => (q.1, q.2 + n)
theorem mv_some {b : Option (Nat × Nat)} {n : Nat} {c o : Nat} (h : mv b n = some (c, o)) : ∃ o', b = some (c, o') ∧ o = o' + n := by
  cases b with
  | none => cases h
  | some q => obtain ⟨c', o'⟩ := q; simp [mv] at h; exact ⟨o', by rw [h.1], h.2.symm⟩
def gat : (k : K) → Mk → T k → L k → Option (Nat × Nat) → List Stp → Option GC
  | k, m, x, l, b, [] => some ⟨k, m, x, l, b⟩
  | .pair a _, m, x, l, b, .fst :: p => gat a m.l x.1 l.1 b p
  | .pair a c, m, x, l, b, .snd :: p => gat c m.r x.2 l.2 (mv b a.size) p
  | .sl k, m, xs, l, _, .el i :: p => if m = .d then none else match xs[i]? with
    | some x => gat k m.inner x (l.2 i) (mv l.1.1 (i * k.size)) p
    | none => none
  | _, _, _, _, _, _ :: _ => none
theorem at_some {R : Type} {r : R} : ∀ {p : List Stp} {k : K} {m : Mk} {x : T k} {kk : Ct → Option R}, Ct.at k m x p kk = some r →
    ∀ (l : L k) (b : Option (Nat × Nat)), ∃ c, gat k m x l b p = some c ∧ kk c.ct = some r
  | [], k, m, x, kk, h => fun l b => ⟨⟨k, m, x, l, b⟩, by simp [gat], by simpa [Ct.at, GC.ct] using h⟩
  | s :: p, k, m, x, kk, h => by
    intro l b
    cases k <;> cases s <;> simp only [Ct.at] at h <;> first | cases h | skip
    · exact at_some h l.1 b
    · exact at_some h l.2 _
    · rename_i k i
      simp only [gat]
      split at h
      · cases h
      · rename_i hm
        rw [if_neg hm]
        cases hx' : x[i]? with
        | none => rw [hx'] at h; cases h
        | some y => rw [hx'] at h; exact at_some h _ _
theorem gat_at {R : Type} : ∀ {p : List Stp} {k : K} {m : Mk} {x : T k} {l : L k} {b : Option (Nat × Nat)} {c : GC} {kk : Ct → Option R}, gat k m x l b p = some c →
    Ct.at k m x p kk = kk c.ct
  | [], k, m, x, l, b, c, kk, h => by simp [gat] at h; subst h; simp [Ct.at, GC.ct]
  | s :: p, k, m, x, l, b, c, kk, h => by
    cases k <;> cases s <;> simp only [gat] at h <;> first | cases h | skip
    · exact gat_at (l := l.1) h
    · exact gat_at (l := l.2) h
    · rename_i k i
      simp only [Ct.at]
      split at h
      · cases h
      · rename_i hm
        rw [if_neg hm]
        cases hx' : x[i]? with
        | none => rw [hx'] at h; cases h
        | some y => rw [hx'] at h; exact gat_at h
theorem gat_sat {w : World} {F : Nat → Prop} : ∀ {p : List Stp} {k : K} {m : Mk} {x : T k} {l : L k} {b : Option (Nat × Nat)} {c : GC}, gat k m x l b p = some c →
    sat w F k m x l → sat w F c.k c.m c.x c.l
  | [], k, m, x, l, b, c, h, hs => by simp [gat] at h; subst h; exact hs
  | s :: p, k, m, x, l, b, c, h, hs => by
    cases k <;> cases s <;> simp only [gat] at h <;> first | cases h | skip
    · exact gat_sat h hs.1
    · exact gat_sat h hs.2
    · rename_i k i
      split at h
      · cases h
      · rename_i hm
        cases hx' : x[i]? with
        | none => rw [hx'] at h; cases h
        | some y => rw [hx'] at h; exact gat_sat h ((hs hm).2 i y hx')
theorem Mk.inner_s {m : Mk} (h : m.owns = false) : m.inner = .s := by cases m <;> simp_all [Mk.owns, Mk.inner]
theorem gat_fp : ∀ {p : List Stp} {k : K} {m : Mk} {x : T k} {l : L k} {b : Option (Nat × Nat)} {c : GC}, gat k m x l b p = some c →
    ∀ a ∈ c.fp, a ∈ fp k m x l
  | [], k, m, x, l, b, c, h => by simp [gat] at h; subst h; exact fun _ h => h
  | s :: p, k, m, x, l, b, c, h => by
    intro a ha
    cases k <;> cases s <;> simp only [gat] at h <;> first | cases h | skip
    · simp only [fp, List.mem_append]; exact .inl (gat_fp h a ha)
    · simp only [fp, List.mem_append]; exact .inr (gat_fp h a ha)
    · rename_i k i
      split at h
      · cases h
      · cases hx' : x[i]? with
        | none => rw [hx'] at h; cases h
        | some y =>
          rw [hx'] at h
          have h1 := gat_fp h a ha
          cases ho : m.owns with
          | false => rw [Mk.inner_s ho, fp_clear rfl] at h1; cases h1
          | true =>
            simp only [fp, ho, if_true, List.mem_append]
            exact .inr (mem_fpL.2 ⟨i, y, hx', h1⟩)
def atBaseG (u : Bool) (w : World) (b : Option (Nat × Nat)) (vs : List Value) : Prop := ∀ c o, b = some (c, o) → BlkG u w c fun cs => cellsAt cs o vs
abbrev atBase := atBaseG true
theorem atBaseG.weak {u : Bool} {w : World} {b : Option (Nat × Nat)} {vs : List Value} (h : atBaseG u w b vs) : atBaseG false w b vs := fun c o e => (h c o e).weak
theorem gat_mem {w : World} {F : Nat → Prop} : ∀ {p : List Stp} {k : K} {m : Mk} {x : T k} {l : L k} {b : Option (Nat × Nat)} {c : GC}, gat k m x l b p = some c →
    ∀ {u : Bool}, sat w F k m x l → atBaseG u w b (vals k x l) → atBaseG false w c.b (vals c.k c.x c.l)
  | [], k, m, x, l, b, c, h, u, hs, hb => by simp [gat] at h; subst h; exact hb.weak
  | s :: p, k, m, x, l, b, c, h, u, hs, hb => by
    cases k <;> cases s <;> simp only [gat] at h <;> first | cases h | skip
    · refine gat_mem (u := u) h hs.1 fun c o e => (hb c o e).mono fun cs hc => (cellsAt_append.1 hc).1
    · rename_i k1 k2
      refine gat_mem (u := u) h hs.2 fun c o e => ?_
      obtain ⟨o', e1, rfl⟩ := mv_some e
      exact (hb c o' e1).mono fun cs hc => by have := (cellsAt_append.1 hc).2; rwa [vals_length] at this
    · rename_i k i
      split at h
      · cases h
      · rename_i hm
        cases hx' : x[i]? with
        | none => rw [hx'] at h; cases h
        | some y =>
          rw [hx'] at h
          refine gat_mem (u := m.owns) h ((hs hm).2 i y hx') fun c o e => ?_
          obtain ⟨o', e1, rfl⟩ := mv_some e
          have hne : x ≠ [] := by rintro rfl; simp at hx'
          exact ((((hs hm).1.2.2.1 c o' e1).2 hne).2).mono fun cs hc => hc i y hx'
theorem gat_off : ∀ {p : List Stp} {k : K} {m : Mk} {x : T k} {l : L k} {b : Option (Nat × Nat)} {c : GC}, gat k m x l b p = some c → hasEl p = false →
    ∀ c' o', c.b = some (c', o') → ∃ o, b = some (c', o) ∧ o ≤ o' ∧ o' + c.k.size ≤ o + k.size
  | [], k, m, x, l, b, c, h, _, c', o', e => by simp [gat] at h; subst h; exact ⟨o', e, Nat.le_refl _, Nat.le_refl _⟩
  | s :: p, k, m, x, l, b, c, h, hp, c', o', e => by
    cases k <;> cases s <;> simp only [gat] at h <;> first | cases h | skip
    · obtain ⟨o, h1, h2, h3⟩ := gat_off h (by simpa [hasEl] using hp) c' o' e
      exact ⟨o, h1, h2, by simp only [K.size]; omega⟩
    · obtain ⟨o, h1, h2, h3⟩ := gat_off h (by simpa [hasEl] using hp) c' o' e
      obtain ⟨o2, h4, rfl⟩ := mv_some h1
      exact ⟨o2, h4, by omega, by simp only [K.size]; omega⟩
    · simp [hasEl] at hp
def gset : (k : K) → Mk → T k → L k → List Stp → (c : Ct) → L c.k → Option (Mk × T k × L k)
  | k, _, _, _, [], c, l' => if h : c.k = k then some (c.m, h ▸ c.x, h ▸ l') else none
  | .pair a _, m, x, l, .fst :: p, c, l' => (gset a m.l x.1 l.1 p c l').map fun y => (Mk.mkp y.1 m.r, (y.2.1, x.2), (y.2.2, l.2))
  | .pair _ b, m, x, l, .snd :: p, c, l' => (gset b m.r x.2 l.2 p c l').map fun y => (Mk.mkp m.l y.1, (x.1, y.2.1), (l.1, y.2.2))
  | .sl k, m, xs, l, .el i :: p, c, l' => match xs[i]? with
    | some x => match gset k m.inner x (l.2 i) p c l' with
      | some y => if y.1 = m.inner ∧ m.owns = true then some (m, xs.set i y.2.1, (l.1, fun j => if j = i then y.2.2 else l.2 j)) else none
      | none => none
    | none => none
  | _, _, _, _, _ :: _, _, _ => none
def Rng (w w' : World) (b o n : Nat) : Prop :=
  ∃ cs e fr cs', w.heap[b]? = some (.cells cs e fr) ∧ w'.heap[b]? = some (.cells cs' e fr) ∧ cs'.size = cs.size ∧ ∀ j, ¬ (o ≤ j ∧ j < o + n) → cs'[j]? = cs[j]?
theorem Rng.blk {u : Bool} {w w' : World} {b o n : Nat} {P Q : Array Value → Prop} (h : Rng w w' b o n) (hp : BlkG u w b P)
    (hq : ∀ cs cs', P cs → cs'.size = cs.size → (∀ j, ¬ (o ≤ j ∧ j < o + n) → cs'[j]? = cs[j]?) → Q cs') : BlkG u w' b Q := by
  obtain ⟨cs, e, fr, cs', h1, h2, h3, h4⟩ := h
  obtain ⟨ds, e', fr', g1, g2, g3⟩ := hp
  rw [h1] at g1
  injection g1 with g1
  injection g1 with e1 e2 e3
  subst e1; subst e2; subst e3
  exact ⟨cs', e, fr, h2, by rw [h3]; exact g2, hq _ _ g3 h3 h4⟩
theorem Rng.blkE {q : K} {c : Nat} {w w' : World} {b o n : Nat} {P Q : Array Value → Prop} (h : Rng w w' b o n) (hp : BlkE q c w b P) (hu : q.nu8 = true → ∀ (cs' : Array Value) e fr, w'.heap[b]? = some (.cells cs' e fr) → ∀ (j : Nat) (v : Value), o ≤ j → j < o + n → cs'[j]? = some v → u8V v = false)
    (hq : ∀ cs cs', P cs → cs'.size = cs.size → (∀ j, ¬ (o ≤ j ∧ j < o + n) → cs'[j]? = cs[j]?) → Q cs') : BlkE q c w' b Q := by
  obtain ⟨cs, e, fr, cs', h1, h2, h3, h4⟩ := h
  obtain ⟨ds, e', fr', g1, g2, g4, g3⟩ := hp
  rw [h1] at g1
  injection g1 with g1
  injection g1 with e1 e2 e3
  subst e1; subst e2; subst e3
  refine ⟨cs', e, fr, h2, by rw [h3]; exact g2, ⟨by rw [h3]; exact g4.1, fun hn j v hj => ?_⟩, hq _ _ g3 h3 h4⟩
  by_cases hjo : o ≤ j ∧ j < o + n
  · exact hu hn cs' e fr h2 j v hjo.1 hjo.2 hj
  · exact g4.2 hn j v (by rw [← h4 j hjo]; exact hj)
theorem Rng.cells {u : Bool} {w w' : World} {b o n o2 : Nat} {vs : List Value} (h : Rng w w' b o n) (hp : BlkG u w b fun cs => cellsAt cs o2 vs)
    (hd : o2 + vs.length ≤ o ∨ o + n ≤ o2) : BlkG u w' b fun cs => cellsAt cs o2 vs :=
  h.blk hp fun cs cs' h1 _ h3 j v hj => by
    rw [h3 _ (by have := (List.getElem?_eq_some_iff.1 hj).1; omega)]
    exact h1 j v hj
structure SetHyp (w w' : World) (F F' : Nat → Prop) (k : K) (m : Mk) (x : T k) (l : L k) (base : Option (Nat × Nat)) (old : GC) (c : Ct) (l' : L c.k) (b' o' : Nat) : Prop where
  place : old.b = some (b', o')
  sat : Ev.sat w F k m x l
  mem : atBase w base (vals k x l)
  nb : ∀ b o, base = some (b, o) → b ∉ fp k m x l ∧ ¬ F b
  nd : (fp k m x l).Nodup
  nF : ∀ b ∈ fp k m x l, ¬ F b
  rng : Rng w w' b' o' c.k.size
  new : Blk w' b' fun cs => cellsAt cs o' (vals c.k c.x l')
  same : ∀ b, (b ∈ fp k m x l ∨ F b ∨ ∃ o, base = some (b, o)) → b ≠ b' → b ∉ old.fp → w'.heap[b]? = w.heap[b]?
  sat' : Ev.sat w' F' c.k c.m c.x l'
  apart : ∀ b ∈ fp c.k c.m c.x l', (b ∈ fp k m x l → b ∈ old.fp) ∧ (∀ o, base ≠ some (b, o)) ∧ b ≠ b'
  nd' : (fp c.k c.m c.x l').Nodup
  le : ∀ b, F b → F' b
structure SetRes (w' : World) (F' : Nat → Prop) (k : K) (m : Mk) (x : T k) (l : L k) (base : Option (Nat × Nat)) (c : Ct) (l' : L c.k) (m' : Mk) (x' : T k) (l2 : L k) : Prop where
  sat : Ev.sat w' F' k m' x' l2
  mem : atBase w' base (vals k x' l2)
  fp : ∀ b ∈ fp k m' x' l2, b ∈ Ev.fp k m x l ∨ b ∈ Ev.fp c.k c.m c.x l'
  nd : (Ev.fp k m' x' l2).Nodup
theorem Mk.mkp_l (a b : Mk) : (Mk.mkp a b).l = a := by cases a <;> cases b <;> rfl
theorem Mk.mkp_r (a b : Mk) : (Mk.mkp a b).r = b := by cases a <;> cases b <;> rfl
theorem set_where {w : World} {F : Nat → Prop} {R : Type} {r : R} : ∀ {p : List Stp} {k : K} {m : Mk} {x : T k} {l : L k} {base : Option (Nat × Nat)} {c : Ct} {kk : Mk → T k → Option R} {old : GC},
    Ct.set k m x p c kk = some r → gat k m x l base p = some old → sat w F k m x l → ∀ b' o', old.b = some (b', o') →
    (∃ o, base = some (b', o) ∧ o ≤ o' ∧ o' + old.k.size ≤ o + k.size ∧ hasEl p = false) ∨ b' ∈ fp k m x l
  | [], k, m, x, l, base, c, kk, old, h, hg, hs, b', o', e => by
    simp [gat] at hg; subst hg
    exact .inl ⟨o', e, Nat.le_refl _, Nat.le_refl _, rfl⟩
  | s :: p, k, m, x, l, base, c, kk, old, h, hg, hs, b', o', e => by
    cases k <;> cases s <;> simp only [gat, Ct.set] at hg h <;> first | cases hg | skip
    · rcases set_where h hg hs.1 b' o' e with ⟨o, h1, h2, h3, h4⟩ | h1
      · exact .inl ⟨o, h1, h2, by simp only [K.size]; omega, by simpa [hasEl] using h4⟩
      · exact .inr (by simp only [fp, List.mem_append]; exact .inl h1)
    · rcases set_where h hg hs.2 b' o' e with ⟨o, h1, h2, h3, h4⟩ | h1
      · obtain ⟨o2, h5, rfl⟩ := mv_some h1
        exact .inl ⟨o2, h5, by omega, by simp only [K.size]; omega, by simpa [hasEl] using h4⟩
      · exact .inr (by simp only [fp, List.mem_append]; exact .inr h1)
    · rename_i k i
      split at hg
      · cases hg
      · rename_i hm
        cases hx' : x[i]? with
        | none => rw [hx'] at hg; cases hg
        | some y =>
          rw [hx'] at hg h
          simp only [] at h hg
          have hown : m.owns = true := by
            have key : ∀ {p : List Stp} {k : K} {m0 : Mk} {x : T k} {c : Ct} {P : Mk → Prop} [DecidablePred P] {g : Mk → T k → Option R}, Ct.set k m0 x p c (fun m' y => if P m' ∧ m.owns = true then g m' y else none) = some r → m.owns = true := by
              intro p
              induction p with
              | nil =>
                intro k m0 x c P _ g h
                simp only [Ct.set] at h
                split at h
                · split at h
                  · rename_i h1; exact h1.2
                  · cases h
                · cases h
              | cons s p ih =>
                intro k m0 x c P _ g h
                cases k <;> cases s <;> simp only [Ct.set] at h <;> first | cases h | skip
                · exact ih (P := fun m' => P (Mk.mkp m' m0.r)) (g := fun m' y => g (Mk.mkp m' m0.r) (y, x.2)) h
                · exact ih (P := fun m' => P (Mk.mkp m0.l m')) (g := fun m' y => g (Mk.mkp m0.l m') (x.1, y)) h
                · rename_i k i
                  cases hx2 : x[i]? with
                  | none => rw [hx2] at h; cases h
                  | some z =>
                    rw [hx2] at h
                    simp only [] at h
                    have : (fun (m' : Mk) (y : T k) => if m' = m0.inner ∧ m0.owns = true then (if P m0 ∧ m.owns = true then g m0 (x.set i y) else none) else none) = fun m' y => if (m' = m0.inner ∧ m0.owns = true ∧ P m0) ∧ m.owns = true then g m0 (x.set i y) else none := by
                      funext m' y
                      by_cases h1 : m' = m0.inner <;> by_cases h2 : m0.owns = true <;> by_cases h3 : P m0 <;> by_cases h4 : m.owns = true <;> simp [h1, h2, h3, h4]
                    rw [this] at h
                    exact ih (P := fun m' => m' = m0.inner ∧ m0.owns = true ∧ P m0) (g := fun m' y => g m0 (x.set i y)) h
            exact key (P := fun m' => m' = m.inner) (g := fun m' y => kk m (x.set i y)) h
          obtain ⟨⟨q1, q2, q3⟩, q4⟩ := hs hm
          rcases set_where h hg (q4 i y hx') b' o' e with ⟨o, h1, h2, h3, h4⟩ | h1
          · obtain ⟨o2, h5, rfl⟩ := mv_some h1
            refine .inr ?_
            simp only [fp, hown, if_true, List.mem_append]
            refine .inl (mem_own1.2 ⟨?_, o2, h5⟩)
            have : i < x.length := (List.getElem?_eq_some_iff.1 hx').1
            omega
          · refine .inr ?_
            simp only [fp, hown, if_true, List.mem_append]
            exact .inr (mem_fpL.2 ⟨i, y, hx', h1⟩)
end Go.Proofs.YthlnjkcpdkjipaaDoor.Ev

/- Another content at a place. -/
namespace Go.Proofs.YthlnjkcpdkjipaaDoor.Ev
theorem set_ok {R : Type} {r : R} : ∀ {p : List Stp} {k : K} {m : Mk} {x : T k} {l : L k} {base : Option (Nat × Nat)} {c : Ct} (l' : L c.k) {kk : Mk → T k → Option R} {old : GC},
    Ct.set k m x p c kk = some r → gat k m x l base p = some old →
    ∃ m' x' l2, (kk m' x' = some r ∧ gset k m x l p c l' = some (m', x', l2)) ∧ c.k = old.k ∧ ∀ w w' F F' b' o', SetHyp w w' F F' k m x l base old c l' b' o' → SetRes w' F' k m x l base c l' m' x' l2
  | [], k, m, x, l, base, ⟨k', cm, cx⟩, l', kk, old, h, hg => by
    simp only [Ct.set] at h
    split at h
    case isFalse => cases h
    case isTrue hk =>
      subst hk
      simp [gat] at hg
      subst hg
      refine ⟨cm, cx, l', ⟨h, by simp [gset]⟩, rfl, fun w w' F F' b' o' H => ⟨H.sat', fun c o e => ?_, fun b hb => .inr hb, H.nd'⟩⟩
      have hpl : base = some (b', o') := H.place
      rw [hpl] at e
      injection e with e
      injection e with e1 e2
      subst e1; subst e2
      exact H.new
  | s :: p, k, m, x, l, base, c, l', kk, old, h, hg => by
    have hcase : ∀ (w : World) (F : Nat → Prop) (b' o' : Nat), sat w F k m x l → old.b = some (b', o') → _ := fun w F b' o' hs e => set_where h hg hs b' o' e
    cases k <;> cases s <;> simp only [gat, Ct.set] at hg h <;> first | cases hg | skip
    · -- fst
      rename_i ka kb
      obtain ⟨m', x', l2, h1, hk, H⟩ := set_ok l' h hg
      refine ⟨_, _, (l2, l.2), ⟨h1.1, by simp only [gset, h1.2, Option.map_some]⟩, hk, fun w w' F F' b' o' G => ?_⟩
      have hfa : ∀ b ∈ fp ka m.l x.1 l.1, b ∈ fp (.pair ka kb) m x l := fun b hb => by simp only [fp, List.mem_append]; exact .inl hb
      have hfb : ∀ b ∈ fp kb m.r x.2 l.2, b ∈ fp (.pair ka kb) m x l := fun b hb => by simp only [fp, List.mem_append]; exact .inr hb
      have hnd := G.nd
      simp only [fp, List.nodup_append] at hnd
      have hwh := set_where h hg G.sat.1 b' o' G.place
      -- the part's hypotheses
      have G1 : SetHyp w w' F F' ka m.l x.1 l.1 base old c l' b' o' :=
        { place := G.place, sat := G.sat.1, mem := fun c o e => (G.mem c o e).mono fun cs hc => (cellsAt_append.1 hc).1
          nb := fun b o e => ⟨fun hb => (G.nb b o e).1 (hfa b hb), (G.nb b o e).2⟩
          nd := hnd.1, nF := fun b hb => G.nF b (hfa b hb), rng := G.rng, new := G.new
          same := fun b hb => G.same b (hb.imp (hfa b) id), sat' := G.sat'
          apart := fun b hb => ⟨fun hb' => (G.apart b hb).1 (hfa b hb'), (G.apart b hb).2⟩
          nd' := G.nd', le := G.le }
      have Z := H w w' F F' b' o' G1
      have hold : ∀ b ∈ old.fp, b ∈ fp ka m.l x.1 l.1 := gat_fp hg
      have hsame : ∀ b, b ∈ fp kb m.r x.2 l.2 ∨ F b → w'.heap[b]? = w.heap[b]? := by
        intro b hb
        refine G.same b (hb.elim (fun h => .inl (hfb b h)) (fun h => .inr (.inl h))) ?_ ?_
        · rintro rfl
          rcases hwh with ⟨o, h1, _⟩ | h1
          · rcases hb with hb | hb
            · exact (G.nb _ o h1).1 (hfb _ hb)
            · exact (G.nb _ o h1).2 hb
          · rcases hb with hb | hb
            · exact hnd.2.2 _ h1 _ hb rfl
            · exact G.nF _ (hfa _ h1) hb
        · intro ho
          rcases hb with hb | hb
          · exact hnd.2.2 _ (hold b ho) _ hb rfl
          · exact G.nF _ (hfa _ (hold b ho)) hb
      refine ⟨⟨by rw [Mk.mkp_l]; exact Z.sat, by rw [Mk.mkp_r]; exact sat_frame G.sat.2 hsame G.le⟩, fun b o e => ?_, ?_, ?_⟩
      · have z1 := Z.mem b o e
        have z2 : Blk w b fun cs => cellsAt cs (o + ka.size) (vals kb x.2 l.2) := (G.mem b o e).mono fun cs hc => by have := (cellsAt_append.1 hc).2; rwa [vals_length] at this
        have z3 : Blk w' b fun cs => cellsAt cs (o + ka.size) (vals kb x.2 l.2) := by
          by_cases hbb : b = b'
          · subst hbb
            rcases hwh with ⟨o2, h1, h2, h3, _⟩ | h1
            · rw [e] at h1
              injection h1 with h1; injection h1 with _ h1; subst h1
              refine G.rng.cells z2 ?_
              rw [hk] at *
              exact .inr h3
            · exact absurd (hfa _ h1) (G.nb b o e).1
          · exact z2.frame (G.same b (.inr (.inr ⟨o, e⟩)) hbb fun ho => (G.nb b o e).1 (hfa _ (hold b ho)))
        exact (z1.and z3).mono fun cs hc => cellsAt_append.2 ⟨hc.1, by rw [vals_length]; exact hc.2⟩
      · intro b hb
        simp only [fp, List.mem_append, Mk.mkp_l, Mk.mkp_r] at hb ⊢
        rcases hb with hb | hb
        · rcases Z.fp b hb with hb | hb
          · exact .inl (.inl hb)
          · exact .inr hb
        · exact .inl (.inr hb)
      · simp only [fp, Mk.mkp_l, Mk.mkp_r, List.nodup_append]
        refine ⟨Z.nd, hnd.2.1, ?_⟩
        rintro b hb b2 hb2 rfl
        rcases Z.fp b hb with hb | hb
        · exact hnd.2.2 _ hb _ hb2 rfl
        · exact hnd.2.2 _ (hold b ((G.apart b hb).1 (hfb b hb2))) _ hb2 rfl
    · -- snd
      rename_i ka kb
      obtain ⟨m', x', l2, h1, hk, H⟩ := set_ok l' h hg
      refine ⟨_, _, (l.1, l2), ⟨h1.1, by simp only [gset, h1.2, Option.map_some]⟩, hk, fun w w' F F' b' o' G => ?_⟩
      have hfa : ∀ b ∈ fp ka m.l x.1 l.1, b ∈ fp (.pair ka kb) m x l := fun b hb => by simp only [fp, List.mem_append]; exact .inl hb
      have hfb : ∀ b ∈ fp kb m.r x.2 l.2, b ∈ fp (.pair ka kb) m x l := fun b hb => by simp only [fp, List.mem_append]; exact .inr hb
      have hnd := G.nd
      simp only [fp, List.nodup_append] at hnd
      have hwh := set_where h hg G.sat.2 b' o' G.place
      have G1 : SetHyp w w' F F' kb m.r x.2 l.2 (mv base ka.size) old c l' b' o' :=
        { place := G.place, sat := G.sat.2
          mem := fun c o e => by
            obtain ⟨o2, e1, rfl⟩ := mv_some e
            exact (G.mem c o2 e1).mono fun cs hc => by have := (cellsAt_append.1 hc).2; rwa [vals_length] at this
          nb := fun b o e => by
            obtain ⟨o2, e1, rfl⟩ := mv_some e
            exact ⟨fun hb => (G.nb b o2 e1).1 (hfb b hb), (G.nb b o2 e1).2⟩
          nd := hnd.2.1, nF := fun b hb => G.nF b (hfb b hb), rng := G.rng, new := G.new
          same := fun b hb => G.same b (by
            rcases hb with hb | hb | ⟨o, hb⟩
            · exact .inl (hfb b hb)
            · exact .inr (.inl hb)
            · obtain ⟨o2, e1, rfl⟩ := mv_some hb
              exact .inr (.inr ⟨o2, e1⟩))
          sat' := G.sat'
          apart := fun b hb => ⟨fun hb' => (G.apart b hb).1 (hfb b hb'), fun o e => by
            obtain ⟨o2, e1, rfl⟩ := mv_some e
            exact (G.apart b hb).2.1 o2 e1, (G.apart b hb).2.2⟩
          nd' := G.nd', le := G.le }
      have Z := H w w' F F' b' o' G1
      have hold : ∀ b ∈ old.fp, b ∈ fp kb m.r x.2 l.2 := gat_fp hg
      have hsame : ∀ b, b ∈ fp ka m.l x.1 l.1 ∨ F b → w'.heap[b]? = w.heap[b]? := by
        intro b hb
        refine G.same b (hb.elim (fun h => .inl (hfa b h)) (fun h => .inr (.inl h))) ?_ ?_
        · rintro rfl
          rcases hwh with ⟨o, h1, _⟩ | h1
          · obtain ⟨o2, e1, rfl⟩ := mv_some h1
            rcases hb with hb | hb
            · exact (G.nb _ o2 e1).1 (hfa _ hb)
            · exact (G.nb _ o2 e1).2 hb
          · rcases hb with hb | hb
            · exact hnd.2.2 _ hb _ h1 rfl
            · exact G.nF _ (hfb _ h1) hb
        · intro ho
          rcases hb with hb | hb
          · exact hnd.2.2 _ hb _ (hold b ho) rfl
          · exact G.nF _ (hfb _ (hold b ho)) hb
      refine ⟨⟨by rw [Mk.mkp_l]; exact sat_frame G.sat.1 hsame G.le, by rw [Mk.mkp_r]; exact Z.sat⟩, fun b o e => ?_, ?_, ?_⟩
      · have z1 : Blk w' b fun cs => cellsAt cs (o + ka.size) (vals kb x' l2) := Z.mem b (o + ka.size) (by rw [e]; rfl)
        have z2 : Blk w b fun cs => cellsAt cs o (vals ka x.1 l.1) := (G.mem b o e).mono fun cs hc => (cellsAt_append.1 hc).1
        have z3 : Blk w' b fun cs => cellsAt cs o (vals ka x.1 l.1) := by
          by_cases hbb : b = b'
          · subst hbb
            rcases hwh with ⟨o2, h1, h2, h3, _⟩ | h1
            · obtain ⟨o3, e1, rfl⟩ := mv_some h1
              rw [e] at e1
              injection e1 with e1; injection e1 with _ e1; subst e1
              refine G.rng.cells z2 (.inl ?_)
              rw [vals_length]
              exact h2
            · exact absurd (hfb _ h1) (G.nb b o e).1
          · exact z2.frame (G.same b (.inr (.inr ⟨o, e⟩)) hbb fun ho => (G.nb b o e).1 (hfb _ (hold b ho)))
        exact (z3.and z1).mono fun cs hc => cellsAt_append.2 ⟨hc.1, by rw [vals_length]; exact hc.2⟩
      · intro b hb
        simp only [fp, List.mem_append, Mk.mkp_l, Mk.mkp_r] at hb ⊢
        rcases hb with hb | hb
        · exact .inl (.inl hb)
        · rcases Z.fp b hb with hb | hb
          · exact .inl (.inr hb)
          · exact .inr hb
      · simp only [fp, Mk.mkp_l, Mk.mkp_r, List.nodup_append]
        refine ⟨hnd.1, Z.nd, ?_⟩
        rintro b hb b2 hb2 rfl
        rcases Z.fp b hb2 with hb2 | hb2
        · exact hnd.2.2 _ hb _ hb2 rfl
        · exact hnd.2.2 _ hb _ (hold b ((G.apart b hb2).1 (hfa b hb))) rfl
    · -- el
      rename_i k i
      split at hg
      · cases hg
      rename_i hm
      cases hx' : x[i]? with
      | none => rw [hx'] at hg; cases hg
      | some y =>
      rw [hx'] at hg h
      simp only [] at h hg
      obtain ⟨m', x', l2, ⟨h1, hgs⟩, hk, H⟩ := set_ok l' h hg
      split at h1
      case isFalse => cases h1
      rename_i hcond
      obtain ⟨rfl, hown⟩ := hcond
      have hi : i < x.length := (List.getElem?_eq_some_iff.1 hx').1
      refine ⟨m, x.set i x', (l.1, fun j => if j = i then l2 else l.2 j), ⟨h1, by simp only [gset, hx', hgs, hown, and_self, if_true]⟩, hk, fun w w' F F' b' o' G => ?_⟩
      obtain ⟨⟨q1, q2, q3, _⟩, q4⟩ := G.sat hm
      have hcap : l.1.2 ≠ 0 := by omega
      have hnd := G.nd
      simp only [fp, hown, if_true, List.nodup_append] at hnd
      obtain ⟨_, hnd2, hnd3⟩ := hnd
      have hnd2' := nodup_fpL.1 hnd2
      have hfe : ∀ (j : Nat) (z : T k), x[j]? = some z → ∀ b ∈ fp k m.inner z (l.2 j), b ∈ fp (.sl k) m x l := fun j z hz b hb => by
        simp only [fp, hown, if_true, List.mem_append]; exact .inr (mem_fpL.2 ⟨j, z, hz, hb⟩)
      have hfo : ∀ b o, l.1.1 = some (b, o) → b ∈ fp (.sl k) m x l := fun b o e => by
        simp only [fp, hown, if_true, List.mem_append]; exact .inl (mem_own1.2 ⟨hcap, o, e⟩)
      have hof : ∀ b o, l.1.1 = some (b, o) → b ∉ fpL (fp k m.inner) x l.2 := fun b o e hb => hnd3 b (mem_own1.2 ⟨hcap, o, e⟩) b hb rfl
      have hwh := set_where h hg (q4 i y hx') b' o' G.place
      have hne : x ≠ [] := by rintro rfl; simp at hx'
      have hblkOf : ∀ b o, l.1.1 = some (b, o) → BlkE k l.1.2 w b fun cs => o + l.1.2 * k.size ≤ cs.size := fun b o e => (q3 b o e).1 hown hcap
      have hcellsOf : ∀ b o, l.1.1 = some (b, o) → Blk w b fun cs => ∀ i z, x[i]? = some z → cellsAt cs (o + i * k.size) (vals k z (l.2 i)) := fun b o e => by have := ((q3 b o e).2 hne).2; rw [hown] at this; exact this
      have G1 : SetHyp w w' F F' k m.inner y (l.2 i) (mv l.1.1 (i * k.size)) old c l' b' o' :=
        { place := G.place, sat := q4 i y hx'
          mem := fun c o e => by
            obtain ⟨o2, e1, rfl⟩ := mv_some e
            exact (hcellsOf c o2 e1).mono fun cs hc => hc i y hx'
          nb := fun b o e => by
            obtain ⟨o2, e1, rfl⟩ := mv_some e
            exact ⟨fun hb => hof b o2 e1 (mem_fpL.2 ⟨i, y, hx', hb⟩), G.nF b (hfo b o2 e1)⟩
          nd := hnd2'.1 i y hx', nF := fun b hb => G.nF b (hfe i y hx' b hb), rng := G.rng, new := G.new
          same := fun b hb => G.same b (by
            rcases hb with hb | hb | ⟨o, hb⟩
            · exact .inl (hfe i y hx' b hb)
            · exact .inr (.inl hb)
            · obtain ⟨o2, e1, rfl⟩ := mv_some hb
              exact .inl (hfo b o2 e1))
          sat' := G.sat'
          apart := fun b hb => ⟨fun hb' => (G.apart b hb).1 (hfe i y hx' b hb'), fun o e => by
            obtain ⟨o2, e1, rfl⟩ := mv_some e
            exact hof b o2 e1 (mem_fpL.2 ⟨i, y, hx', gat_fp hg b ((G.apart b hb).1 (hfo b o2 e1))⟩), (G.apart b hb).2.2⟩
          nd' := G.nd', le := G.le }
      have Z := H w w' F F' b' o' G1
      have hold : ∀ b ∈ old.fp, b ∈ fp k m.inner y (l.2 i) := gat_fp hg
      have hb'fp : b' ∈ fp (.sl k) m x l := by
        rcases hwh with ⟨o, e1, _⟩ | e1
        · obtain ⟨o2, e2, rfl⟩ := mv_some e1; exact hfo b' o2 e2
        · exact hfe i y hx' b' e1
      -- other elements stay
      have hother : ∀ j z, x[j]? = some z → j ≠ i → ∀ b, b ∈ fp k m.inner z (l.2 j) ∨ F b → w'.heap[b]? = w.heap[b]? := by
        intro j z hz hji b hb
        refine G.same b (hb.elim (fun h => .inl (hfe j z hz b h)) (fun h => .inr (.inl h))) ?_ ?_
        · rintro rfl
          rcases hb with hb | hb
          · rcases hwh with ⟨o, e1, _⟩ | e1
            · obtain ⟨o2, e2, rfl⟩ := mv_some e1
              exact hof b o2 e2 (mem_fpL.2 ⟨j, z, hz, hb⟩)
            · exact hnd2'.2 j i z y hz hx' hji b hb e1
          · exact G.nF _ hb'fp hb
        · intro ho
          rcases hb with hb | hb
          · exact hnd2'.2 j i z y hz hx' hji b hb (hold b ho)
          · exact G.nF _ (hfe i y hx' _ (hold b ho)) hb
      have hgetj : ∀ j z, (x.set i x')[j]? = some z → (j = i ∧ z = x') ∨ (j ≠ i ∧ x[j]? = some z) := by
        intro j z hz
        by_cases hji : j = i
        · subst hji
          rw [List.getElem?_set_self hi] at hz
          injection hz with hz
          exact .inl ⟨rfl, hz.symm⟩
        · rw [List.getElem?_set_ne (Ne.symm hji)] at hz
          exact .inr ⟨hji, hz⟩
      refine ⟨fun _ => ⟨⟨by simpa using q1, q2, fun b o e => ⟨fun _ _ => ?_, fun _ => ⟨(fun h => by rw [hown] at h; cases h), ?_⟩⟩, fun _ h0 => absurd h0 hcap⟩, ?_⟩, ?_, ?_, ?_⟩
      · -- room
        by_cases hbb : b = b'
        · subst hbb
          refine G.rng.blkE (hblkOf b o e) (fun hn cs' e9 fr9 hc j v h1 h2 hj => ?_) fun cs cs' h1 h2 _ => by rw [h2]; exact h1
          obtain ⟨cs3, e3, fr3, z1, _, z3⟩ := Z.mem b (o + i * k.size) (by rw [e]; rfl)
          rw [hc] at z1
          injection z1 with z1
          injection z1 with z1 _ _
          subst z1
          rcases hwh with ⟨o2, e1, e2, e3, _⟩ | e1
          · obtain ⟨o3, e4, rfl⟩ := mv_some e1
            rw [e] at e4
            injection e4 with e4; injection e4 with _ e4; subst e4
            have hjk : j - (o + i * k.size) < (vals k x' l2).length := by rw [vals_length]; rw [hk] at h2; omega
            have := z3 _ _ (List.getElem?_eq_getElem hjk)
            rw [show o + i * k.size + (j - (o + i * k.size)) = j by omega, hj] at this
            injection this with this
            rw [this]
            exact vals_nu8 hn _ (List.getElem_mem hjk)
          · exact absurd (mem_fpL.2 ⟨i, y, hx', e1⟩) (hof b o e)
        · exact (hblkOf b o e).frame (G.same b (.inl (hfo b o e)) hbb fun ho => hof b o e (mem_fpL.2 ⟨i, y, hx', hold b ho⟩))
      · -- cells
        have z1 := Z.mem b (o + i * k.size) (by rw [e]; rfl)
        have z2 : Blk w' b fun cs => ∀ j z, x[j]? = some z → j ≠ i → cellsAt cs (o + j * k.size) (vals k z (l.2 j)) := by
          by_cases hbb : b = b'
          · subst hbb
            rcases hwh with ⟨o2, e1, e2, e3, _⟩ | e1
            · obtain ⟨o3, e4, rfl⟩ := mv_some e1
              rw [e] at e4
              injection e4 with e4; injection e4 with _ e4; subst e4
              refine G.rng.blk (hcellsOf b o e) fun cs cs' h1 h2 h3 j z hz hji => ?_
              intro j2 v hv
              have hlen : j2 < k.size := by have := (List.getElem?_eq_some_iff.1 hv).1; rwa [vals_length] at this
              rw [h3 _ ?_]
              · exact h1 j z hz j2 v hv
              · rw [hk]
                rcases Nat.lt_or_ge j i with hlt | hge
                · have : (j + 1) * k.size ≤ i * k.size := Nat.mul_le_mul_right _ hlt
                  rw [Nat.add_mul] at this
                  omega
                · have : (i + 1) * k.size ≤ j * k.size := Nat.mul_le_mul_right _ (by omega)
                  rw [Nat.add_mul] at this
                  omega
            · exact absurd (mem_fpL.2 ⟨i, y, hx', e1⟩) (hof b o e)
          · exact ((hcellsOf b o e).frame (G.same b (.inl (hfo b o e)) hbb fun ho => hof b o e (mem_fpL.2 ⟨i, y, hx', hold b ho⟩))).mono fun cs hc j z hz _ => hc j z hz
        refine BlkG.any ((z1.and z2).mono fun cs hc j z hz => ?_)
        rcases hgetj j z hz with ⟨rfl, rfl⟩ | ⟨hji, hz⟩
        · simp only [if_true]; exact hc.1
        · simp only [if_neg hji]; exact hc.2 j z hz hji
      · -- parts
        intro j z hz
        rcases hgetj j z hz with ⟨rfl, rfl⟩ | ⟨hji, hz⟩
        · simp only [if_true]; exact Z.sat
        · simp only [if_neg hji]; exact sat_frame (q4 j z hz) (hother j z hz hji) G.le
      · -- the base: the slice's own word is as it was
        intro b o e
        have z1 := G.mem b o e
        have hvals : vals (.sl k) (x.set i x') (l.1, fun j => if j = i then l2 else l.2 j) = vals (.sl k) x l := by simp [vals]
        rw [hvals]
        refine z1.frame (G.same b (.inr (.inr ⟨o, e⟩)) ?_ fun ho => (G.nb b o e).1 (hfe i y hx' _ (hold b ho)))
        rintro rfl
        exact (G.nb b o e).1 hb'fp
      · intro b hb
        simp only [fp, hown, if_true, List.mem_append] at hb ⊢
        rcases hb with hb | hb
        · exact .inl (.inl hb)
        · obtain ⟨j, z, hz, hb⟩ := mem_fpL.1 hb
          rcases hgetj j z hz with ⟨e1, e2⟩ | ⟨hji, hz⟩
          · have hb : b ∈ fp k m.inner x' l2 := by simpa [e1, e2] using hb
            rcases Z.fp b hb with hb | hb
            · exact .inl (.inr (mem_fpL.2 ⟨_, y, hx', hb⟩))
            · exact .inr hb
          · simp only [if_neg hji] at hb
            exact .inl (.inr (mem_fpL.2 ⟨j, z, hz, hb⟩))
      · simp only [fp, hown, if_true, List.nodup_append]
        have hin : ∀ b ∈ fp k m.inner x' l2, b ∈ fp k m.inner y (l.2 i) ∨ (b ∈ fp c.k c.m c.x l' ∧ (b ∈ fp (.sl k) m x l → b ∈ fp k m.inner y (l.2 i))) := fun b hb => by
          rcases Z.fp b hb with hb | hb
          · exact .inl hb
          · exact .inr ⟨hb, fun h => hold b ((G.apart b hb).1 h)⟩
        refine ⟨nodup_own1 _, nodup_fpL.2 ⟨?_, ?_⟩, ?_⟩
        · intro j z hz
          rcases hgetj j z hz with ⟨e1, e2⟩ | ⟨hji, hz⟩
          · simpa [e1, e2] using Z.nd
          · simp only [if_neg hji]; exact hnd2'.1 j z hz
        · intro j1 j2 z1 z2 hz1 hz2 hj b hb hb2
          rcases hgetj j1 z1 hz1 with ⟨e1, e2⟩ | ⟨hji, hz1⟩
          · rcases hgetj j2 z2 hz2 with ⟨f1, f2⟩ | ⟨hji2, hz2⟩
            · exact hj (e1.trans f1.symm)
            · have hb : b ∈ fp k m.inner x' l2 := by simpa [e1, e2] using hb
              simp only [if_neg hji2] at hb2
              rcases hin b hb with hb | ⟨_, hb⟩
              · exact hnd2'.2 _ j2 y z2 hx' hz2 (Ne.symm hji2) b hb hb2
              · exact hnd2'.2 _ j2 y z2 hx' hz2 (Ne.symm hji2) b (hb (hfe j2 z2 hz2 b hb2)) hb2
          · rcases hgetj j2 z2 hz2 with ⟨f1, f2⟩ | ⟨hji2, hz2⟩
            · have hb2 : b ∈ fp k m.inner x' l2 := by simpa [f1, f2] using hb2
              simp only [if_neg hji] at hb
              rcases hin b hb2 with hb2 | ⟨_, hb2⟩
              · exact hnd2'.2 j1 _ z1 y hz1 hx' hji b hb hb2
              · exact hnd2'.2 j1 _ z1 y hz1 hx' hji b hb (hb2 (hfe j1 z1 hz1 b hb))
            · simp only [if_neg hji, if_neg hji2] at hb hb2
              exact hnd2'.2 j1 j2 z1 z2 hz1 hz2 hj b hb hb2
        · rintro b hb b2 hb2 rfl
          obtain ⟨_, o, hbo⟩ := mem_own1.1 hb
          obtain ⟨j, z, hz, hb2⟩ := mem_fpL.1 hb2
          rcases hgetj j z hz with ⟨e1, e2⟩ | ⟨hji, hz⟩
          · have hb2 : b ∈ fp k m.inner x' l2 := by simpa [e1, e2] using hb2
            rcases hin b hb2 with hb2 | ⟨_, hb2⟩
            · exact hof b o hbo (mem_fpL.2 ⟨_, y, hx', hb2⟩)
            · exact hof b o hbo (mem_fpL.2 ⟨_, y, hx', hb2 (hfo b o hbo)⟩)
          · simp only [if_neg hji] at hb2
            exact hof b o hbo (mem_fpL.2 ⟨j, z, hz, hb2⟩)
theorem set_marks {R : Type} {r : R} : ∀ {p : List Stp} {k : K} {m : Mk} {x : T k} {l : L k} {base : Option (Nat × Nat)} {kk : Mk → T k → Option R} {old : GC} {md : Mk},
    gat k m x l base p = some old → Ct.set k m x p ⟨old.k, md, old.x⟩ kk = some r →
    (∀ w F, sat w F old.k old.m old.x old.l → sat w F old.k md old.x old.l) → (∀ b ∈ fp old.k md old.x old.l, b ∈ old.fp) → (old.fp.Nodup → (fp old.k md old.x old.l).Nodup) →
    ∃ m', (kk m' x = some r ∧ gset k m x l p ⟨old.k, md, old.x⟩ old.l = some (m', x, l)) ∧ (∀ w F, sat w F k m x l → sat w F k m' x l) ∧ (∀ b ∈ fp k m' x l, b ∈ fp k m x l) ∧ ((fp k m x l).Nodup → (fp k m' x l).Nodup ∧ ((∀ b, b ∈ fp old.k md old.x old.l → False) → ∀ b ∈ old.fp, b ∉ fp k m' x l))
  | [], k, m, x, l, base, kk, old, md, hg, h, h1, h2, h3 => by
    simp [gat] at hg
    subst hg
    simp only [Ct.set, dite_true] at h
    exact ⟨md, ⟨h, by simp [gset]⟩, h1, h2, fun hn => ⟨h3 hn, fun h b _ hb => h b hb⟩⟩
  | s :: p, k, m, x, l, base, kk, old, md, hg, h, h1, h2, h3 => by
    cases k <;> cases s <;> simp only [gat, Ct.set] at hg h <;> first | cases hg | skip
    · obtain ⟨m', q1, q2, q3, q4⟩ := set_marks hg h h1 h2 h3
      refine ⟨_, ⟨q1.1, by simp only [gset, q1.2, Option.map_some]⟩, fun w F hs => ⟨by rw [Mk.mkp_l]; exact q2 w F hs.1, by rw [Mk.mkp_r]; exact hs.2⟩, fun b hb => ?_, fun hn => ?_⟩
      · simp only [fp, List.mem_append, Mk.mkp_l, Mk.mkp_r] at hb ⊢
        exact hb.imp (q3 b) id
      · simp only [fp, List.nodup_append, Mk.mkp_l, Mk.mkp_r, List.mem_append] at hn ⊢
        refine ⟨⟨(q4 hn.1).1, hn.2.1, fun a ha b hb => hn.2.2 a (q3 a ha) b hb⟩, fun hz b hb => ?_⟩
        rintro (hc | hc)
        · exact (q4 hn.1).2 hz b hb hc
        · exact hn.2.2 b (gat_fp hg b hb) b hc rfl
    · obtain ⟨m', q1, q2, q3, q4⟩ := set_marks hg h h1 h2 h3
      refine ⟨_, ⟨q1.1, by simp only [gset, q1.2, Option.map_some]⟩, fun w F hs => ⟨by rw [Mk.mkp_l]; exact hs.1, by rw [Mk.mkp_r]; exact q2 w F hs.2⟩, fun b hb => ?_, fun hn => ?_⟩
      · simp only [fp, List.mem_append, Mk.mkp_l, Mk.mkp_r] at hb ⊢
        exact hb.imp id (q3 b)
      · simp only [fp, List.nodup_append, Mk.mkp_l, Mk.mkp_r, List.mem_append] at hn ⊢
        refine ⟨⟨hn.1, (q4 hn.2.1).1, fun a ha b hb => hn.2.2 a ha b (q3 b hb)⟩, fun hz b hb => ?_⟩
        rintro (hc | hc)
        · exact hn.2.2 b hc b (gat_fp hg b hb) rfl
        · exact (q4 hn.2.1).2 hz b hb hc
    · rename_i k i
      split at hg
      · cases hg
      rename_i hm
      cases hx' : x[i]? with
      | none => rw [hx'] at hg; cases hg
      | some y =>
      rw [hx'] at hg h
      simp only [] at h hg
      obtain ⟨m', ⟨q1, qg⟩, q2, q3, q4⟩ := set_marks hg h h1 h2 h3
      split at q1
      case isFalse => cases q1
      rename_i hcond
      obtain ⟨rfl, hown⟩ := hcond
      have hset : x.set i y = x := by
        apply List.ext_getElem?
        intro j
        by_cases hji : j = i
        · subst hji
          rw [List.getElem?_set_self (List.getElem?_eq_some_iff.1 hx').1, hx']
        · rw [List.getElem?_set_ne (Ne.symm hji)]
      rw [hset] at q1
      have hfun : (fun j => if j = i then l.2 i else l.2 j) = l.2 := by
        funext j
        split
        · rename_i h; rw [h]
        · rfl
      refine ⟨m, ⟨q1, by simp only [gset, hx', qg, hown, and_self, if_true, hset, hfun]⟩, fun w F hs => hs, fun b hb => hb, fun hn => ⟨hn, fun hz b hb hc => ?_⟩⟩
      have hn2 : (fp k m.inner y (l.2 i)).Nodup := by
        simp only [fp, hown, if_true, List.nodup_append] at hn
        exact (nodup_fpL.1 hn.2.1).1 i y hx'
      exact (q4 hn2).2 hz b hb (gat_fp hg b hb)
end Go.Proofs.YthlnjkcpdkjipaaDoor.Ev

/- A state of the evaluation and a frame of the machine. -/
namespace Go.Proofs.YthlnjkcpdkjipaaDoor.Ev
def zeroL : (k : K) → L k
  | .int _ | .bool | .str | .unit => ()
  | .pair a b => (zeroL a, zeroL b)
  | .sl k => ((none, 0), fun _ => zeroL k)
structure TyI (P : Program) (t : Nat) (k : K) : Prop where
  size : (P.info? t).map (fun i => (i.zero, i.size)) = some (some (valOf k k.zero (zeroL k)), k.size)
  bytes : (P.info? t).map (fun i => decide (0 < i.bytes ∧ i.bytes ≤ 4096) || k.size == 0) = some true
def TyF (P : Program) : K → (Nat → Prop) × (List Field → Nat → Prop)
  | .int k => (fun t => TyI P t (.int k) ∧ P.underlying t = some (.int k), fun _ _ => False)
  | .bool => (fun t => TyI P t .bool ∧ P.underlying t = some .bool, fun _ _ => False)
  | .str => (fun t => TyI P t .str ∧ P.underlying t = some .string, fun _ _ => False)
  | .unit => (fun t => TyI P t .unit ∧ ∃ fs, P.underlying t = some (.struct fs) ∧ fs.toList = [] ∧ P.stoodInHeld t = false, fun l _ => l = [])
  | .pair a b => (fun t => TyI P t (.pair a b) ∧ ∃ fs, P.underlying t = some (.struct fs) ∧ P.stoodInHeld t = false ∧
      (match fs.toList with
        | f :: l => f.offset = 0 ∧ f.name ≠ "_" ∧ (TyF P a).1 f.type ∧ (TyF P b).2 l a.size
        | [] => False),
    fun l off => match l with
      | f :: l => f.offset = off ∧ f.name ≠ "_" ∧ (TyF P a).1 f.type ∧ (TyF P b).2 l (off + a.size)
      | [] => False)
  | .sl k => (fun t => TyI P t (.sl k) ∧ ∃ e, P.underlying t = some (.slice e) ∧ (TyF P k).1 e, fun _ _ => False)
abbrev TyOk (P : Program) (t : Nat) (k : K) : Prop := (TyF P k).1 t
theorem TyOk.i {P : Program} {t : Nat} {k : K} (h : TyOk P t k) : TyI P t k := by
  cases k <;> exact h.1
theorem TyI.info {P : Program} {t : Nat} {k : K} (h : TyI P t k) : ∃ i, P.info? t = some i ∧ i.size = k.size ∧ i.zero = some (valOf k k.zero (zeroL k)) ∧ (k.size ≠ 0 → 0 < i.bytes ∧ i.bytes ≤ 4096) := by
  have h1 := h.size
  have h2 := h.bytes
  cases hi : P.info? t with
  | none => rw [hi] at h1; cases h1
  | some i =>
    rw [hi] at h1 h2
    simp at h1 h2
    refine ⟨i, rfl, h1.2, h1.1, fun hk => h2.resolve_right hk⟩
section
variable {P : Program}
theorem run_isAgg {t : Nat} {k : K} (h : TyOk P t k) (w : World) : (isAgg t).run P w = .ok (match k with | .pair .. | .unit => true | _ => false) w := by
  unfold isAgg
  cases k with
  | int k => simp [run_underlying h.2]
  | bool => simp [run_underlying h.2]
  | str => simp [run_underlying h.2]
  | unit => obtain ⟨_, fs, hu, _⟩ := h; simp [run_underlying hu]
  | pair a b => obtain ⟨_, fs, hu, _⟩ := h; simp [run_underlying hu]
  | sl k => obtain ⟨_, e, hu, _⟩ := h; simp [run_underlying hu]
theorem run_sizeK {t : Nat} {k : K} (h : TyOk P t k) (w : World) : (sizeOf t).run P w = .ok k.size w := by
  obtain ⟨i, hi, hs, _⟩ := h.i.info
  simp [sizeOf, typeInfo, hi, hs]
theorem run_zeroK {t : Nat} {k : K} (h : TyOk P t k) (w : World) : (zeroValue t).run P w = .ok (valOf k k.zero (zeroL k)) w := by
  obtain ⟨i, hi, _, hz, _⟩ := h.i.info
  simp [zeroValue, typeInfo, hi, hz]
theorem cell_of {w : World} {b : Nat} {cs : Array Value} {e : TypeId} {fr : Nat × Nat} (h : w.heap[b]? = some (.cells cs e fr)) (o : Nat) : w.cell? ⟨b, o, none⟩ = cs[o]? := by
  simp [World.cell?, h]
theorem add_mk (b o n : Nat) : (⟨b, o, none⟩ : Addr).add n = ⟨b, o + n, none⟩ := by
  unfold Addr.add
  split <;> simp_all
theorem blk_cells {u : Bool} {w : World} {b o : Nat} {vs : List Value} (h : BlkG u w b fun cs => cellsAt cs o vs) : ∀ j v, vs[j]? = some v → w.cell? ((⟨b, o, none⟩ : Addr).add j) = some v := by
  obtain ⟨cs, e, fr, h1, _, h3⟩ := h
  intro j v hj
  rw [add_mk, cell_of h1]
  exact h3 j v hj
theorem run_loadK {u : Bool} {t : Nat} {k : K} (h : TyOk P t k) {w : World} {b o : Nat} {x : T k} {l : L k} (hb : BlkG u w b fun cs => cellsAt cs o (vals k x l)) :
    (loadVar t ⟨b, o, none⟩).run P w = .ok (valOf k x l) w := by
  have hl := run_loadCells_list (P := P) w ⟨b, o, none⟩ _ (blk_cells hb)
  rw [vals_length] at hl
  have hc0 : ∀ v, (vals k x l)[0]? = some v → w.cell? ⟨b, o, none⟩ = some v := fun v hv => by simpa [add_mk] using blk_cells hb 0 v hv
  unfold loadVar
  cases k <;> simp [run_isAgg h, run_sizeK h, hl, valOf] <;> first | (have := hc0 _ rfl; simp [this]; done) | (simp [vals, K.size] at hl ⊢; done) | skip
theorem frozen_of {w : World} {b : Nat} {cs : Array Value} {e : TypeId} {fr : Nat × Nat} (h : w.heap[b]? = some (.cells cs e fr))
    (hf : ∀ j, j < cs.size → ¬ (fr.1 ≤ j ∧ j < fr.2)) (o : Nat) (ho : o < cs.size) : w.frozen? ⟨b, o, none⟩ = false := by
  obtain ⟨lo, hi⟩ := fr
  have := hf o ho
  simp [World.frozen?, h]
  simp at this
  intro h1
  omega
theorem one_cell (v : Value) (h : one v = true) : v.oneCell' = true := by
  cases v <;> first | rfl | cases h
def OutLe (w w' : World) : Prop := w'.output = w.output ∧ w.drawn ≤ w'.drawn
theorem OutLe.rfl {w : World} : OutLe w w := ⟨Eq.refl _, Nat.le_refl _⟩
theorem OutLe.trans {a b c : World} (h : OutLe b c) (h' : OutLe a b) : OutLe a c := ⟨h.1.trans h'.1, Nat.le_trans h'.2 h.2⟩
theorem OutLe.of {w w' : World} (h : w'.output = w.output) (h' : w'.drawn = w.drawn) : OutLe w w' := ⟨h, h' ▸ Nat.le_refl _⟩
theorem setCells_spec {b : Nat} : ∀ (vs : List Value) (o : Nat) (w : World), Blk w b (fun cs => o + vs.length ≤ cs.size) →
    Rng w (w.setCells b o vs) b o vs.length ∧ (Blk (w.setCells b o vs) b fun cs => cellsAt cs o vs) ∧ (∀ c, c ≠ b → (w.setCells b o vs).heap[c]? = w.heap[c]?) ∧
    (w.setCells b o vs).heap.size = w.heap.size ∧ (w.setCells b o vs).os = w.os ∧ (w.setCells b o vs).tape = w.tape ∧ OutLe w (w.setCells b o vs)
  | [], o, w, h => by
    obtain ⟨cs, e, fr, h1, h2, h3⟩ := h
    exact ⟨⟨cs, e, fr, cs, h1, h1, rfl, fun _ _ => rfl⟩, ⟨cs, e, fr, h1, h2, fun j v hj => by simp at hj⟩, fun _ _ => rfl, rfl, rfl, rfl, OutLe.rfl⟩
  | v :: vs, o, w, h => by
    obtain ⟨cs, e, fr, h1, h2, h3⟩ := h
    simp only [List.length_cons] at h3
    have hw1 : (w.setCell ⟨b, o, none⟩ v).heap[b]? = some (.cells (cs.setIfInBounds o v) e fr) := by
      have hb : b < w.heap.size := (Array.getElem?_eq_some_iff.1 h1).1
      simp [World.setCell, Array.getElem?_modify, h1]
    have hother : ∀ c, c ≠ b → (w.setCell ⟨b, o, none⟩ v).heap[c]? = w.heap[c]? := fun c hc => by
      simp [World.setCell, Array.getElem?_modify, Ne.symm hc]
    obtain ⟨⟨cs1, e1, fr1, cs2, g1, g2, g3, g4⟩, ⟨cs3, e3, fr3, k1, k2, k3⟩, q3, q4, q5, q6, q7⟩ := setCells_spec vs (o + 1) (w.setCell ⟨b, o, none⟩ v) ⟨_, e, fr, hw1, by simpa using h2, by simp; omega⟩
    rw [hw1] at g1
    injection g1 with g1
    injection g1 with e1' e2' e3'
    subst e1'; subst e2'; subst e3'
    rw [g2] at k1
    injection k1 with k1
    injection k1 with k1' k2' k3'
    subst k1'; subst k2'; subst k3'
    refine ⟨⟨cs, e, fr, cs2, h1, g2, by rw [g3]; simp, fun j hj => ?_⟩, ⟨cs2, e, fr, g2, k2, fun j u hj => ?_⟩, fun c hc => by rw [World.setCells, q3 c hc, hother c hc], by rw [World.setCells, q4]; simp [World.setCell], q5, q6, q7⟩
    · simp only [List.length_cons] at hj
      rw [g4 j (by omega), Array.getElem?_setIfInBounds_ne (by omega)]
    · cases j with
      | zero =>
        simp at hj
        subst hj
        rw [Nat.add_zero, g4 o (by omega), Array.getElem?_setIfInBounds_self_of_lt (by omega)]
      | succ j =>
        have := k3 j u (by simpa using hj)
        rwa [show o + 1 + j = o + (j + 1) by omega] at this
theorem run_storeK {t : Nat} {k : K} (h : TyOk P t k) {w : World} {b o : Nat} {x : T k} {l : L k} (hb : Blk w b fun cs => o + k.size ≤ cs.size) :
    (storeVar t ⟨b, o, none⟩ (valOf k x l)).run P w = .ok () (w.setCells b o (vals k x l)) := by
  obtain ⟨cs, e, fr, h1, h2, h3⟩ := hb
  have hst := run_storeCells_cells (P := P) b o (vals k x l) 0 w
    (fun j hj => by
      rw [vals_length] at hj
      rw [cell_of h1, Nat.add_zero, Array.getElem?_eq_getElem (by omega)]
      rfl)
    (fun j hj => by
      rw [vals_length] at hj
      exact frozen_of h1 (h2 rfl) _ (by omega))
    (fun v hv => one_cell v (vals_one k x l v hv))
  simp only [storeVar, Sem.run_bind, run_sizeK h, Result.andThen_ok, valOf_cells, List.size_toArray, vals_length, ne_eq, not_true, if_false, Sem.run_ite, ite_false, Sem.run_pure]
  simpa using hst
end
end Go.Proofs.YthlnjkcpdkjipaaDoor.Ev

/- A state of the evaluation and a frame of the machine: what it is to fit. Contracts. -/
namespace Go.Proofs.YthlnjkcpdkjipaaDoor.Ev
structure GR where
  k : K
  m : Mk
  x : T k
  mem : Bool
  tmp : Bool
  l : L k
  b : Option (Nat × Nat)
def GR.rt (r : GR) : Rt := ⟨r.k, r.m, r.x, r.mem, r.tmp⟩
def GR.fpi (r : GR) : List Nat := fp r.k r.m r.x r.l
def GR.fp (r : GR) : List Nat := (r.b.map (·.1)).toList ++ r.fpi
def GR.at (r : GR) (p : List Stp) : Option GC := gat r.k r.m r.x r.l r.b p
abbrev Gs := Nat → Option GR
structure Ext (w w' : World) : Prop where
  size : w.heap.size ≤ w'.heap.size
  old : ∀ b, b < w.heap.size → w'.heap[b]? = w.heap[b]?
  os : w'.os = w.os
  tape : w'.tape = w.tape
  out : OutLe w w'
theorem Ext.refl (w : World) : Ext w w := ⟨Nat.le_refl _, fun _ _ => rfl, rfl, rfl, OutLe.rfl⟩
theorem Ext.trans {a b c : World} (h : Ext a b) (h' : Ext b c) : Ext a c :=
  ⟨Nat.le_trans h.size h'.size, fun i hi => (h'.old i (Nat.lt_of_lt_of_le hi h.size)).trans (h.old i hi), h'.os.trans h.os, h'.tape.trans h.tape, h'.out.trans h.out⟩
def tsVals : (ks : List K) → Ts ks → L (tsK ks) → List Value
  | [], _, _ => []
  | k :: ks, x, l => valOf k x.1 l.1 :: tsVals ks x.2 l.2
def resVals : (rs : List (K × Mk)) → Rs rs → L (resK rs) → List Value
  | [], _, _ => []
  | r :: rs, x, l => valOf r.1 x.1 l.1 :: resVals rs x.2 l.2
def resVal (rs : List (K × Mk)) (x : Rs rs) (l : L (resK rs)) : Value :=
  match resVals rs x l with
  | [v] => v
  | vs => .tuple vs.toArray
def QuietPost (w : World) (F : Nat → Prop) (rs : List (K × Mk)) (r : Rs rs) (e : Ending) (w' : World) : Prop :=
  ∃ (F' : Nat → Prop) (l : L (resK rs)), e = .returned (resVal rs r l) ∧ Ext w w' ∧ (∀ b, F b → F' b) ∧ (∀ b, F' b → F b ∨ w.heap.size ≤ b ∧ b < w'.heap.size) ∧
    sat w' F' (resK rs) .s r l
def FnOk (P : Program) (w : World) (F : Nat → Prop) (i : List K) : (o : List K) → (Ts i → Option (Ts o)) → Value → Prop
  | [k], f, v => ∃ g caps, v = .func (.func g) #[] caps ∧ (∃ fn, P.funcs[g]? = some fn ∧ fn.body.isSome ∧ fn.name ≠ "runtime.NumGoroutine") ∧
    ∀ (F' : Nat → Prop) (w' : World), (∀ b, F b → F' b) → (∀ b, F b → w'.heap[b]? = w.heap[b]?) → (∀ b, F' b → b < w'.heap.size) →
      ∀ x l r, sat w' F' (tsK i) .s x l → f x = some r → Calls P g ((tsVals i x l).toArray ++ caps) w' (QuietPost w' F' [(k, .s)] r)
  | _, _, _ => False
@[reducible] def PL : List Pm → Type
  | [] => Unit
  | .val k :: ps => L k × PL ps
  | .mov k _ :: ps => L k × PL ps
  | .mptr k _ :: ps => (L k × (Nat × Nat)) × PL ps
  | .chg k _ :: ps => L k × PL ps
  | .fn _ _ :: ps => PL ps
  | .rp k :: ps => (L k × (Nat × Nat)) × PL ps
def ArgsOk (P : Program) (w : World) (F : Nat → Prop) : (ins : List Pm) → Ps ins → PL ins → List Value → Prop
  | [], _, _, vs => vs = []
  | .val k :: ps, x, l, vs => ∃ v vs', vs = v :: vs' ∧ sat w F k .s x.1 l.1 ∧ v = valOf k x.1 l.1 ∧ ArgsOk P w F ps x.2 l.2 vs'
  | .mov k m :: ps, x, l, vs => ∃ v vs', vs = v :: vs' ∧ sat w F k m x.1 l.1 ∧ v = valOf k x.1 l.1 ∧ ArgsOk P w F ps x.2 l.2 vs'
  | .chg k m :: ps, x, l, vs => ∃ v vs', vs = v :: vs' ∧ sat w F k m x.1 l.1 ∧ v = valOf k x.1 l.1 ∧ ArgsOk P w F ps x.2 l.2 vs'
  | .mptr k m :: ps, x, l, vs => ∃ v vs', vs = v :: vs' ∧ sat w F k m x.1 l.1.1 ∧ atBaseG false w (some l.1.2) (vals k x.1 l.1.1) ∧ v = .pointer (adr (some l.1.2)) ∧ ArgsOk P w F ps x.2 l.2 vs'
  | .fn i o :: ps, x, l, vs => ∃ v vs', vs = v :: vs' ∧ FnOk P w F i o x.1 v ∧ ArgsOk P w F ps x.2 l vs'
  | .rp k :: ps, x, l, vs => ∃ v vs', vs = v :: vs' ∧ (sat w F k .s x.1 l.1.1 ∧ F l.1.2.1 ∧ (BlkG false w l.1.2.1 fun cs => cellsAt cs l.1.2.2 (vals k x.1 l.1.1)) ∧ v = .pointer (adr (some l.1.2))) ∧ ArgsOk P w F ps x.2 l.2 vs'
def argFp : (ins : List Pm) → Ps ins → PL ins → List Nat
  | [], _, _ => []
  | .val _ :: ps, x, l => argFp ps x.2 l.2
  | .mov k m :: ps, x, l => fp k m x.1 l.1 ++ argFp ps x.2 l.2
  | .chg k m :: ps, x, l => fp k m x.1 l.1 ++ argFp ps x.2 l.2
  | .mptr k m :: ps, x, l => fp k m x.1 l.1.1 ++ argFp ps x.2 l.2
  | .fn _ _ :: ps, x, l => argFp ps x.2 l
  | .rp _ :: ps, x, l => argFp ps x.2 l.2
def argBs : (ins : List Pm) → PL ins → List (Nat × Nat × Nat)
  | [], _ => []
  | .val _ :: ps, l => argBs ps l.2
  | .mov _ _ :: ps, l => argBs ps l.2
  | .chg _ _ :: ps, l => argBs ps l.2
  | .mptr k _ :: ps, l => (l.1.2.1, l.1.2.2, k.size) :: argBs ps l.2
  | .fn _ _ :: ps, l => argBs ps l
  | .rp _ :: ps, l => argBs ps l.2
def OutsOk (w : World) (F : Nat → Prop) : (ins : List Pm) → Ps ins → PL ins → Rs (Pm.outs ins) → L (resK (Pm.outs ins)) → Prop
  | [], _, _, _, _ => True
  | .val _ :: ps, a, l, x, lo => OutsOk w F ps a.2 l.2 x lo
  | .mov _ _ :: ps, a, l, x, lo => OutsOk w F ps a.2 l.2 x lo
  | .mptr k m :: ps, a, l, x, lo => sat w F k m x.1 lo.1 ∧ atBase w (some l.1.2) (vals k x.1 lo.1) ∧ OutsOk w F ps a.2 l.2 x.2 lo.2
  | .chg k m :: ps, a, l, x, lo => sat w F k m x.1 lo.1 ∧ valOf k x.1 lo.1 = valOf k a.1 l.1 ∧ OutsOk w F ps a.2 l.2 x.2 lo.2
  | .fn _ _ :: ps, a, l, x, lo => OutsOk w F ps a.2 l x lo
  | .rp _ :: ps, a, l, x, lo => OutsOk w F ps a.2 l.2 x lo
structure Left (w w' : World) (F F' : Nat → Prop) (sg : Sig) (x : Ps sg.ins) (l : PL sg.ins) (r : Rs sg.res) (ro : Rs (Pm.outs sg.ins)) (lr : L (resK sg.res)) (lo : L (resK (Pm.outs sg.ins))) : Prop where
  size : w.heap.size ≤ w'.heap.size
  os : w'.os = w.os
  tape : w'.tape = w.tape
  out : OutLe w w'
  old : ∀ b, b < w.heap.size → b ∉ argFp sg.ins x l → (∀ q ∈ argBs sg.ins l, q.1 ≠ b) → w'.heap[b]? = w.heap[b]?
  rng : ∀ q ∈ argBs sg.ins l, Rng w w' q.1 q.2.1 q.2.2
  le : ∀ b, F b → F' b
  new : ∀ b, F' b → F b ∨ ((w.heap.size ≤ b ∧ b < w'.heap.size) ∨ b ∈ argFp sg.ins x l)
  res : sat w' F' (resK sg.res) (resM sg.res) r lr
  outs : OutsOk w' F' sg.ins x l ro lo
  nd : (fp (resK sg.res) (resM sg.res) r lr ++ (fp (resK (Pm.outs sg.ins)) (resM (Pm.outs sg.ins)) ro lo ++ (argBs sg.ins l).map (·.1))).Nodup
  apart : ∀ b ∈ fp (resK sg.res) (resM sg.res) r lr ++ fp (resK (Pm.outs sg.ins)) (resM (Pm.outs sg.ins)) ro lo, ¬ F' b ∧ (w.heap.size ≤ b ∨ b ∈ argFp sg.ins x l)
def CallPost (w : World) (F : Nat → Prop) (sg : Sig) (x : Ps sg.ins) (l : PL sg.ins) (r : Rs sg.res × Rs (Pm.outs sg.ins)) (e : Ending) (w' : World) : Prop :=
  ∃ F' lr lo, e = .returned (resVal sg.res r.1 lr) ∧ Left w w' F F' sg x l r.1 r.2 lr lo
def Sound (P : Program) (f : Nat) (sg : Sig) : Prop :=
  (∃ fn, P.funcs[f]? = some fn ∧ fn.body.isSome ∧ fn.name ≠ "runtime.NumGoroutine") ∧
  ∀ (x : Ps sg.ins) (r : Rs sg.res × Rs (Pm.outs sg.ins)), sg.fn x = some r → ∀ (w : World) (F : Nat → Prop) (l : PL sg.ins) (vs : List Value),
    ArgsOk P w F sg.ins x l vs → (argFp sg.ins x l ++ (argBs sg.ins l).map (·.1)).Nodup → (∀ b ∈ argFp sg.ins x l ++ (argBs sg.ins l).map (·.1), ¬ F b ∧ b < w.heap.size) →
    (∀ b, F b → b < w.heap.size) → (∀ q ∈ argBs sg.ins l, Blk w q.1 fun _ => True) → Calls P f vs.toArray w (CallPost w F sg x l r)
def adrAt (c : GC) : Option Addr := adr c.b
def PcOk (P : Program) (g : Gs) (F : Nat → Prop) (w : World) : Pc → Value → Prop
  | .v k x, v => ∃ l, sat w F k .s x l ∧ v = valOf k x l
  | .al t p, v => ∃ r c, g t = some r ∧ r.at p = some c ∧ v = valOf c.k c.x c.l
  | .vw t p lo n, v => ∃ r k m xs l b, g t = some r ∧ r.at p = some ⟨.sl k, m, xs, l, b⟩ ∧ lo + n ≤ xs.length ∧
      ∃ a cap, v = .slice (adr a) n cap ∧ n ≤ cap ∧ lo + cap ≤ l.1.2 ∧ (cap ≠ 0 → a = mv l.1.1 (lo * k.size)) ∧ (a = none → cap = 0) ∧ (lo = 0 → a = l.1.1 ∧ cap = l.1.2)
  | .ptr t p, v => ∃ r c q, g t = some r ∧ r.at p = some c ∧ c.b = some q ∧ v = .pointer (adr (some q))
  | .sp k x, v => ∃ l b o, sat w F k .s x l ∧ F b ∧ (BlkG false w b fun cs => cellsAt cs o (vals k x l)) ∧ v = .pointer (adr (some (b, o)))
  | .nil0, v => ∃ a, v = .slice (adr a) 0 0 ∧ ∀ b o, a = some (b, o) → F b ∧ Unf w b o
  | .fv i o f, v => FnOk P w F i o f v
  | .bad, _ => True
  | .unk, v => ∃ b, v = .bool b
def PvOk (P : Program) (g : Gs) (F : Nat → Prop) (w : World) : PV → Value → Prop
  | .one c, v => PcOk P g F w c v
  | .tup cs, v => ∃ vs : List Value, v = .tuple vs.toArray ∧ vs.length = cs.length ∧ ∀ (i : Nat) (c : Pc) (u : Value), cs[i]? = some c → vs[i]? = some u → PcOk P g F w c u
structure Cx where
  w0 : World
  F0 : Nat → Prop
  hd : Nat → Prop
  rg : Nat → Option (Nat × Nat)
  lo : Nat
  tm0 : Array Value
def Cx.free (X : Cx) (b : Nat) : Prop := X.w0.heap.size ≤ b ∨ X.hd b
structure Rel (P : Program) (X : Cx) (N : Nat) (s : St) (g : Gs) (F : Nat → Prop) (ow : Nat → Option Nat) (tm : Array Value) (w : World) : Prop where
  root : ∀ t, s.root t = (g t).map GR.rt
  slot : ∀ n, PvOk P g F w (s.slot n) (tm.getD n undef)
  sat : ∀ t r, g t = some r → Ev.sat w F r.k r.m r.x r.l
  mem : ∀ t r, g t = some r → atBase w r.b (vals r.k r.x r.l)
  mb : ∀ t r, g t = some r → r.mem = r.b.isSome
  ho : ∀ t r, g t = some r → ∀ b ∈ r.fp, ow b = some t
  nd : ∀ t r, g t = some r → r.fp.Nodup
  hF : ∀ b, F b → ow b = none ∧ b < w.heap.size
  lt : ∀ b t, ow b = some t → b < w.heap.size
  own : ∀ t r, g t = some r → (∀ b ∈ r.fpi, X.free b) ∧ ∀ b o, r.b = some (b, o) → X.free b ∨ ∃ o' n', X.rg b = some (o', n') ∧ o' ≤ o ∧ o + r.k.size ≤ o' + n'
  bl : ∀ t r, g t = some r → X.lo ≤ t → ∀ b o, r.b = some (b, o) → X.free b
  F0 : ∀ b, X.F0 b → F b
  Fnew : ∀ b, F b → X.F0 b ∨ X.free b
  kept : ∀ b, b < X.w0.heap.size → ¬ X.hd b → match X.rg b with
    | none => w.heap[b]? = X.w0.heap[b]?
    | some (o, n) => Rng X.w0 w b o n
  size : X.w0.heap.size ≤ w.heap.size
  os : w.os = X.w0.os
  tape : w.tape = X.w0.tape
  out : OutLe X.w0 w
  sz : tm.size = N
  big : ∀ n, N ≤ n → s.slot n = .one .bad
theorem beq_ne {n d : Nat} (h : n ≠ d) : Nat.beq n d = false := by
  cases hb : Nat.beq n d with
  | false => rfl
  | true => exact absurd (Nat.eq_of_beq_eq_true hb) h
section
variable {P : Program} {X : Cx} {N : Nat} {a : Act} {s : St} {g : Gs} {F : Nat → Prop} {ow : Nat → Option Nat} {tm : Array Value} {w : World}
theorem FnOk.frame {w' : World} {F' : Nat → Prop} {i o : List K} {f : Ts i → Option (Ts o)} {v : Value} (h : FnOk P w F i o f v)
    (hw : ∀ b, F b → w'.heap[b]? = w.heap[b]?) (hF : ∀ b, F b → F' b) : FnOk P w' F' i o f v := by
  match o, f, h with
  | [k], f, h =>
    obtain ⟨q, caps, h1, h2, h3⟩ := h
    exact ⟨q, caps, h1, h2, fun F2 w2 a1 a2 a3 => h3 F2 w2 (fun b hb => a1 b (hF b hb)) (fun b hb => (a2 b (hF b hb)).trans (hw b hb)) a3⟩
theorem sat_s_frame {w' : World} {F' : Nat → Prop} {k : K} {x : T k} {l : L k} (h : Ev.sat w F k .s x l)
    (hw : ∀ b, F b → w'.heap[b]? = w.heap[b]?) (hF : ∀ b, F b → F' b) : Ev.sat w' F' k .s x l :=
  sat_frame h (fun b hb => by rw [fp_clear rfl] at hb; exact hw b (hb.resolve_left (by simp))) hF
theorem PcOk.frame {w' : World} {F' : Nat → Prop} {c : Pc} {v : Value} (h : PcOk P g F w c v)
    (hw : ∀ b, F b → w'.heap[b]? = w.heap[b]?) (hF : ∀ b, F b → F' b) : PcOk P g F' w' c v := by
  cases c with
  | v k x => obtain ⟨l, h1, h2⟩ := h; exact ⟨l, sat_s_frame h1 hw hF, h2⟩
  | al t p => exact h
  | vw t p lo n => exact h
  | ptr t p => exact h
  | sp k x => obtain ⟨l, b, o, h1, h2, h3, h4⟩ := h; exact ⟨l, b, o, sat_s_frame h1 hw hF, hF b h2, h3.frame (hw b h2), h4⟩
  | nil0 => obtain ⟨q, h1, h2⟩ := h; exact ⟨q, h1, fun b o e => ⟨hF b (h2 b o e).1, (h2 b o e).2.frame (hw b (h2 b o e).1)⟩⟩
  | fv i o f => exact FnOk.frame h hw hF
  | bad => trivial
  | unk => exact h
theorem PvOk.frame {w' : World} {F' : Nat → Prop} {c : PV} {v : Value} (h : PvOk P g F w c v)
    (hw : ∀ b, F b → w'.heap[b]? = w.heap[b]?) (hF : ∀ b, F b → F' b) : PvOk P g F' w' c v := by
  cases c with
  | one c => exact PcOk.frame h hw hF
  | tup cs => obtain ⟨vs, h1, h2, h3⟩ := h; exact ⟨vs, h1, h2, fun i c u hc hu => (h3 i c u hc hu).frame hw hF⟩
theorem Rel.put (h : Rel P X N s g F ow tm w) {d : Nat} (hd : d < N) {c : PV} {v : Value} (hc : PvOk P g F w c v) :
    Rel P X N (s.put d c) g F ow (tm.setIfInBounds d v) w := by
  refine { h with root := h.root, slot := fun n => ?_, sz := by simpa using h.sz, big := fun n hn => ?_ }
  · have hn := h.slot n
    simp only [St.put]
    by_cases hnd : n = d
    · subst hnd
      simp only [Nat.beq_refl, cond_true]
      have hlt : n < tm.size := by rw [h.sz]; exact hd
      rw [show (tm.setIfInBounds n v).getD n undef = v by simp [Array.getD_eq_getD_getElem?, hlt]]
      exact hc
    · rw [show Nat.beq n d = false from beq_ne hnd]
      simp only [cond_false]
      rw [show (tm.setIfInBounds d v).getD n undef = tm.getD n undef by simp [Array.getD_eq_getD_getElem?, Array.getElem?_setIfInBounds_ne (Ne.symm hnd)]]
      exact hn
  · have : n ≠ d := by omega
    simp only [St.put, show Nat.beq n d = false from beq_ne this, cond_false]
    exact h.big n hn
theorem Rel.dst (h : Rel P X N s g F ow a.tmps w) {E : Env} (hE : E.n = N) {o : Oper} (hd : dstOk E o = true) {c : PV} {v : Value} (hc : PvOk P g F w c v) :
    Rel P X N (s.dst o.dst c) g F ow (a.put o.dst v).tmps w := by
  unfold dstOk at hd
  cases ho : o.dst with
  | none => exact h
  | some d =>
    rw [ho] at hd
    simp only [Bool.and_eq_true] at hd
    have hd : d < E.n := by simpa [Nat.blt_eq] using hd.1
    exact h.put (hE ▸ hd) hc
theorem Rel.ext (h : Rel P X N s g F ow tm w) {w' : World} {F' : Nat → Prop} (e : Ext w w') (hF : ∀ b, F b → F' b) (hn : ∀ b, F' b → F b ∨ w.heap.size ≤ b ∧ b < w'.heap.size) :
    Rel P X N s g F' ow tm w' := by
  have hw : ∀ b, F b → w'.heap[b]? = w.heap[b]? := fun b hb => e.old b (h.hF b hb).2
  have hfp : ∀ t r, g t = some r → ∀ b ∈ r.fp, w'.heap[b]? = w.heap[b]? := fun t r hr b hb => e.old b (h.lt b t (h.ho t r hr b hb))
  refine { root := h.root, slot := fun n => (h.slot n).frame hw hF, sat := fun t r hr => sat_frame (h.sat t r hr) (fun b hb => ?_) hF, mem := fun t r hr c o hc => ?_, mb := h.mb, ho := h.ho, nd := h.nd, hF := fun b hb => ?_, lt := fun b t hb => Nat.lt_of_lt_of_le (h.lt b t hb) e.size, own := h.own, bl := h.bl, F0 := fun b hb => hF b (h.F0 b hb), Fnew := fun b hb => ?_, kept := fun b hb hm => ?_, size := Nat.le_trans h.size e.size, os := e.os.trans h.os, tape := e.tape.trans h.tape, out := e.out.trans h.out, sz := h.sz, big := h.big }
  · rcases hb with hb | hb
    · exact hfp t r hr b (by simp only [GR.fp, GR.fpi, List.mem_append]; exact .inr hb)
    · exact hw b hb
  · exact (h.mem t r hr c o hc).frame (hfp t r hr c (by simp [GR.fp, hc]))
  · rcases hn b hb with hb | ⟨h1, h2⟩
    · exact ⟨(h.hF b hb).1, Nat.lt_of_lt_of_le (h.hF b hb).2 e.size⟩
    · refine ⟨?_, h2⟩
      cases ho : ow b with
      | none => rfl
      | some t => have := h.lt b t ho; omega
  · rcases hn b hb with hb | ⟨h1, h2⟩
    · exact h.Fnew b hb
    · exact .inr (.inl (Nat.le_trans h.size h1))
  · have hk := h.kept b hb hm
    have he := e.old b (Nat.lt_of_lt_of_le hb h.size)
    cases hr : X.rg b with
    | none => rw [hr] at hk; simp only at hk ⊢; rw [he]; exact hk
    | some q =>
      rw [hr] at hk
      obtain ⟨cs, t, fr, cs', h1, h2, h3, h4⟩ := hk
      exact ⟨cs, t, fr, cs', h1, by rw [he]; exact h2, h3, h4⟩
theorem constPc_ok (v : Value) : PcOk P g F w (constPc v) v := by
  cases v <;> first | trivial | skip
  case bool b => exact ⟨(), trivial, rfl⟩
  case int k n => exact ⟨(), trivial, rfl⟩
  case string s => exact ⟨(), trivial, rfl⟩
  case slice q n c =>
    cases q with
    | some _ => trivial
    | none =>
      cases n with
      | succ _ => trivial
      | zero =>
        cases c with
        | succ _ => trivial
        | zero => exact ⟨none, rfl, fun b o e => by cases e⟩
theorem Rel.opd (h : Rel P X N s g F ow a.tmps w) (x : Operand) : PcOk P g F w (s.opd x) (a.eval x) := by
  cases x with
  | tmp t =>
    have := h.slot t
    simp only [St.opd, Act.eval]
    cases hs : s.slot t with
    | one c => rw [hs] at this; exact this
    | tup cs => trivial
  | const v => exact constPc_ok v
  | global n => trivial
  | func f => trivial
end
end Go.Proofs.YthlnjkcpdkjipaaDoor.Ev

/- What operations do: reading. -/
namespace Go.Proofs.YthlnjkcpdkjipaaDoor.Ev
structure EnvOk (P : Program) (E : Env) : Prop where
  ty : ∀ t k, E.ty t = some k → TyOk P t k
  fns : ∀ f sg, E.fns f = some sg → Sound P f sg
section
variable {P : Program} {X : Cx} {N : Nat} {a : Act} {s : St} {g : Gs} {F : Nat → Prop} {ow : Nat → Option Nat} {w : World} {R : Type} {r : R}
def lent (ow : Nat → Option Nat) (c : Pc) (b : Nat) : Prop := ∃ t, tagOf c = some t ∧ ow b = some t
theorem Rel.rootOf {tm : Array Value} (h : Rel P X N s g F ow tm w) {t : Nat} {rt : Rt} (hr : s.root t = some rt) : ∃ r, g t = some r ∧ rt = r.rt := by
  have := h.root t
  rw [hr] at this
  cases hg : g t with
  | none => rw [hg] at this; cases this
  | some q => rw [hg] at this; simp at this; exact ⟨q, rfl, this⟩
theorem Rel.rootTo {tm : Array Value} (h : Rel P X N s g F ow tm w) {t : Nat} {q : GR} (hg : g t = some q) : s.root t = some q.rt := by
  rw [h.root t, hg]; rfl
theorem sat_sub {k : K} {m : Mk} {xs : List (T k)} {l : L (.sl k)} {lo n cap : Nat} {q : Option (Nat × Nat)} (hm : m ≠ .d) (h : satV w F (.sl k) m xs l) (hn : lo + n ≤ xs.length)
    (hc : n ≤ cap) (hlc : lo + cap ≤ l.1.2) (hq : cap ≠ 0 → q = mv l.1.1 (lo * k.size)) (hq0 : q = none → cap = 0) :
    satV w F (.sl k) m ((xs.drop lo).take n) ((q, cap), fun i => l.2 (lo + i)) := by
  intro _
  obtain ⟨⟨h1, h2, h3⟩, h4⟩ := h hm
  have hget : ∀ i x, ((xs.drop lo).take n)[i]? = some x → xs[lo + i]? = some x ∧ i < n := by
    intro i x hx
    rw [List.getElem?_take] at hx
    split at hx
    · rename_i hi
      rw [List.getElem?_drop] at hx
      exact ⟨hx, hi⟩
    · cases hx
  refine ⟨⟨by simp; omega, hq0, fun b o e => ⟨fun ho hc0 => ?_, fun hne => ?_⟩⟩, fun i x hx => h4 (lo + i) x (hget i x hx).1⟩
  · simp only at hc0 e
    have := hq hc0
    rw [e] at this
    obtain ⟨o', e1, rfl⟩ := mv_some this.symm
    refine (((h3 b o' e1).1 ho (by omega)).le (show cap ≤ l.1.2 by omega)).mono fun cs hcs => ?_
    have : (lo + cap) * k.size ≤ l.1.2 * k.size := Nat.mul_le_mul_right _ hlc
    rw [Nat.add_mul] at this
    simp only
    omega
  · have hn0 : n ≠ 0 := by rintro rfl; simp at hne
    have := hq (by omega)
    simp only at e
    rw [e] at this
    obtain ⟨o', e1, rfl⟩ := mv_some this.symm
    have hxs : xs ≠ [] := by rintro rfl; simp at hn; omega
    refine ⟨fun ho => ((h3 b o' e1).2 hxs).1 ho, (((h3 b o' e1).2 hxs).2).mono fun cs hcs i x hx => ?_⟩
    have := hcs (lo + i) x (hget i x hx).1
    rwa [Nat.add_mul, ← Nat.add_assoc] at this
theorem fp_sub {k : K} {m : Mk} {xs : List (T k)} {l : L (.sl k)} {lo n cap : Nat} {q : Option (Nat × Nat)}
    (hlc : lo + cap ≤ l.1.2) (hq : cap ≠ 0 → q = mv l.1.1 (lo * k.size)) : ∀ b ∈ fp (.sl k) m ((xs.drop lo).take n) ((q, cap), fun i => l.2 (lo + i)), b ∈ fp (.sl k) m xs l := by
  intro b hb
  cases ho : m.owns with
  | false => simp [fp, ho] at hb
  | true =>
    simp only [fp, ho, if_true, List.mem_append] at hb ⊢
    rcases hb with hb | hb
    · obtain ⟨h0, o, e⟩ := mem_own1.1 hb
      simp only at h0 e
      have := hq h0
      rw [e] at this
      obtain ⟨o', e1, _⟩ := mv_some this.symm
      exact .inl (mem_own1.2 ⟨by omega, o', e1⟩)
    · obtain ⟨i, x, hx, hb⟩ := mem_fpL.1 hb
      rw [List.getElem?_take] at hx
      split at hx
      · rw [List.getElem?_drop] at hx
        exact .inr (mem_fpL.2 ⟨lo + i, x, hx, hb⟩)
      · cases hx
theorem read_ok {tm : Array Value} (h : Rel P X N s g F ow tm w) {c : Pc} {v : Value} {kk : Ct → Option R} (hc : PcOk P g F w c v) (hr : s.read c kk = some r) :
    ∃ (k : K) (m : Mk) (x : T k) (l : L k), kk ⟨k, m, x⟩ = some r ∧ satV w F k m x l ∧ v = valOf k x l ∧ (∀ b ∈ fp k m x l, lent ow c b) := by
  cases c with
  | v k x =>
    obtain ⟨l, h1, h2⟩ := hc
    exact ⟨k, .s, x, l, hr, h1.V, h2, fun b hb => by rw [fp_clear rfl] at hb; cases hb⟩
  | al t p =>
    obtain ⟨q, c, h1, h2, h3⟩ := hc
    simp only [St.read, h.rootTo h1, GR.rt] at hr
    rw [gat_at h2] at hr
    refine ⟨c.k, c.m, c.x, c.l, hr, (gat_sat h2 (h.sat t q h1)).V, h3, fun b hb => ⟨t, rfl, h.ho t q h1 b ?_⟩⟩
    simp only [GR.fp, List.mem_append]
    exact .inr (gat_fp h2 b hb)
  | vw t p lo n =>
    obtain ⟨q, k, m, xs, l, b0, h1, h2, h3, ad, cap, h4, h5, h6, h7, h8⟩ := hc
    simp only [St.read, h.rootTo h1, GR.rt] at hr
    rw [gat_at h2] at hr
    dsimp only [GC.ct] at hr
    refine ⟨.sl k, m, _, ((ad, cap), fun i => l.2 (lo + i)), hr, ?_, ?_, ?_⟩
    · by_cases hm : m = .d
      · intro hm'; exact absurd hm hm'
      · exact sat_sub hm (gat_sat h2 (h.sat t q h1)).V h3 h5 h6 h7 h8.1
    · rw [h4]
      simp only [valOf]
      rw [show ((List.drop lo xs).take n).length = n by simp; omega]
    · intro b hb
      refine ⟨t, rfl, h.ho t q h1 b ?_⟩
      simp only [GR.fp, List.mem_append]
      exact .inr (gat_fp h2 b (fp_sub h6 h7 b hb))
  | ptr t p => cases hr
  | sp k x => cases hr
  | nil0 => cases hr
  | fv i o f => cases hr
  | bad => cases hr
  | unk => cases hr
theorem nilZ_sat {k : K} {F : Nat → Prop} {q : Option (Nat × Nat)} {m : Mk} (h : ∀ b o, q = some (b, o) → F b ∧ Unf w b o) : sat w F (.sl k) m [] ((q, 0), fun _ => zeroL k) :=
  fun _ => ⟨⟨Nat.le_refl _, fun _ => rfl, fun _ _ _ => ⟨fun _ h => absurd rfl h, fun h => absurd rfl h⟩, fun _ _ => h⟩, fun i x h => by simp at h⟩
theorem nilZ_fp {k : K} {q : Option (Nat × Nat)} {m : Mk} : fp (.sl k) m [] ((q, 0), fun _ => zeroL k) = [] := by
  simp [fp, own1, fpL]
theorem readK_ok {tm : Array Value} (h : Rel P X N s g F ow tm w) {c : Pc} {v : Value} {k : K} {kk : T k → Option R} (hc : PcOk P g F w c v) (hr : s.readK c k kk = some r) :
    ∃ (x : T k) (l : L k), kk x = some r ∧ sat w (fun b => F b ∨ lent ow c b) k .s x l ∧ v = valOf k x l := by
  have key : ∀ (c : Pc), PcOk P g F w c v → (s.read c fun c => if h : c.k = k then (if c.m.whole then kk (h ▸ c.x) else none) else none) = some r →
      ∃ (x : T k) (l : L k), kk x = some r ∧ sat w (fun b => F b ∨ lent ow c b) k .s x l ∧ v = valOf k x l := by
    intro c hc hr
    obtain ⟨k', m, x, l, h1, h2, h3, h4⟩ := read_ok h hc hr
    simp only at h1
    split at h1
    case isFalse => cases h1
    rename_i hk
    subst hk
    split at h1
    case isFalse => cases h1
    rename_i hw
    exact ⟨x, l, h1, sat_frame (satV_lend hw h2) (fun _ _ => rfl) fun b hb => hb.imp id (h4 b), h3⟩
  cases c with
  | nil0 =>
    obtain ⟨q, rfl, hq⟩ := hc
    cases k <;> simp only [St.readK] at hr <;> first | cases hr | skip
    exact ⟨[], _, hr, nilZ_sat (q := q) fun b o e => ⟨.inl (hq b o e).1, (hq b o e).2⟩, rfl⟩
  | v => exact key _ hc hr
  | al => exact key _ hc hr
  | vw => exact key _ hc hr
  | ptr => exact key _ hc hr
  | sp => exact key _ hc hr
  | fv => exact key _ hc hr
  | bad => exact key _ hc hr
  | unk => exact key _ hc hr
theorem asInt_ok {c : Pc} {v : Value} (hc : PcOk P g F w c v) {k : IntKind} {n : Int} (h : asInt c = some (k, n)) : v = .int k n ∧ c = .v (.int k) n := by
  cases c with
  | v kk x =>
    cases kk <;> simp only [asInt] at h <;> cases h
    obtain ⟨l, _, h2⟩ := hc
    exact ⟨h2, rfl⟩
  | _ => cases h
theorem asBool_ok {c : Pc} {v : Value} (hc : PcOk P g F w c v) {b : Bool} (h : asBool c = some b) : v = .bool b := by
  cases c with
  | v kk x =>
    cases kk <;> simp only [asBool] at h <;> cases h
    obtain ⟨l, _, h2⟩ := hc
    exact h2
  | _ => cases h
theorem run_binInt (op : BinOp) (t : TypeId) (k k' : IntKind) (x y : Int) (r : R) {kk : Pc → Option R}
    {ty : Option K} (h : bin ty op (.v (.int k) x) (.v (.int k') y) kk = some r) : ∃ c v, kk c = some r ∧ (binOp op t (.int k x) (.int k' y)).run P w = .ok v w ∧ ∀ (g : Gs) (F : Nat → Prop), PcOk P g F w c v := by
  have hv : ∀ (b : Bool) (g : Gs) (F : Nat → Prop), PcOk P g F w (.v .bool b) (.bool b) := fun b g F => ⟨(), trivial, rfl⟩
  have hi : ∀ (k : IntKind) (n : Int) (g : Gs) (F : Nat → Prop), PcOk P g F w (.v (.int k) n) (.int k n) := fun k n g F => ⟨(), trivial, rfl⟩
  simp only [bin] at h
  cases op <;> simp only at h <;>
    first
    | (-- shifts
       simp only [req] at h
       cases hb : decide (0 ≤ y) with
       | false => rw [hb] at h; cases h
       | true =>
         rw [hb] at h
         simp only [cond_true] at h
         have hb' : ¬ y < 0 := by simpa using hb
         exact ⟨_, _, h, by simp [binOp, Op.shift, hb'], hi _ _⟩)
    | (split at h
       case isFalse => cases h
       rename_i hk
       subst hk
       simp only [intBin] at h
       first
       | exact ⟨_, _, h, by simp [binOp, Op.intArith, Op.intBits, Op.intCmp], hi _ _⟩
       | exact ⟨_, _, h, by simp [binOp, Op.intArith, Op.intBits, Op.intCmp], hv _⟩
       | (simp only [req] at h
          cases hb : decide (y = 0) with
          | true => rw [hb] at h; cases h
          | false =>
            rw [hb] at h
            simp only [Bool.not_false, cond_true] at h
            have hb' : ¬ y = 0 := by simpa using hb
            exact ⟨_, _, h, by simp [binOp, Op.intDiv, hb'], hi _ _⟩))
theorem run_binStr (op : BinOp) (t : TypeId) (x y : ByteArray) (r : R) {kk : Pc → Option R}
    (h : strBin op x y kk = some r) : ∃ c v, kk c = some r ∧ (binOp op t (.string x) (.string y)).run P w = .ok v w ∧ ∀ (g : Gs) (F : Nat → Prop), PcOk P g F w c v := by
  have hv : ∀ (b : Bool) (g : Gs) (F : Nat → Prop), PcOk P g F w (.v .bool b) (.bool b) := fun b g F => ⟨(), trivial, rfl⟩
  have hs : ∀ (n : ByteArray) (g : Gs) (F : Nat → Prop), PcOk P g F w (.v .str n) (.string n) := fun n g F => ⟨(), trivial, rfl⟩
  cases op <;> simp only [strBin] at h <;>
    first
    | cases h; done
    | exact ⟨_, _, h, by simp [binOp, Op.stringOp], hv _⟩
    | (simp only [catO] at h
       cases hb : decide (x.size + y.size ≤ 9223372036854775807) with
       | false => rw [hb] at h; cases h
       | true =>
         rw [hb] at h
         simp only [cond_true] at h
         have hb' : x.size + y.size ≤ 9223372036854775807 := of_decide_eq_true hb
         have hb2 : ¬ (((x.size + y.size : Nat) : Int) > IntKind.i64.max) := by
           have : IntKind.i64.max = 9223372036854775807 := by decide
           rw [this]; omega
         exact ⟨_, _, h, by simp only [binOp, Op.stringOp]; rw [if_neg hb2]; rfl, hs _⟩)
theorem run_partK {t : Nat} {k : K} (h : TyOk P t k) {cs : Array Value} {o : Nat} {x : T k} {l : L k} (hc : cellsAt cs o (vals k x l)) (hs : o + k.size ≤ cs.size) :
    (part t cs o).run P w = .ok (valOf k x l) w := by
  have hx : cs.extract o (o + k.size) = (vals k x l).toArray := by
    apply Array.ext
    · simp [vals_length]; omega
    · intro i h1 h2
      simp [vals_length] at h2
      have := hc i ((vals k x l)[i]'(by rw [vals_length]; exact h2)) (List.getElem?_eq_getElem _)
      simp only [Array.getElem_extract, List.getElem_toArray]
      rw [Array.getElem?_eq_getElem (by omega)] at this
      injection this
  have hc0 : ∀ v, (vals k x l)[0]? = some v → cs[o]? = some v := fun v hv => by simpa using hc 0 v hv
  unfold part
  cases k <;> simp [run_isAgg h, run_sizeK h, hx, valOf] <;> first | (have := hc0 _ rfl; simp [this]; done) | rfl
theorem vals_agg {k : K} (x : T k) (l : L k) (hk : (∃ a b, k = .pair a b) ∨ k = .unit) : valOf k x l = .agg (vals k x l).toArray := by
  rcases hk with ⟨a, b, rfl⟩ | rfl <;> rfl
theorem run_equal_both : ∀ (k : K), k.flat = true → ∀ (d : Nat), k.high ≤ d →
    (∀ t, TyOk P t k → ∀ (w : World) (x y : T k) (l l' : L k), (Op.equalIn d t (valOf k x l) (valOf k y l')).run P w = .ok (eqK k x y) w) ∧
    (∀ (fs : List Field) (off : Nat), (TyF P k).2 fs off → ∀ (w : World) (xs ys : Array Value) (x y : T k) (l l' : L k), cellsAt xs off (vals k x l) → cellsAt ys off (vals k y l') → off + k.size ≤ xs.size → off + k.size ≤ ys.size →
      (Op.eqFields (d - 1) xs ys fs).run P w = .ok (eqK k x y) w)
  | .int k, _, d, hd => by
    obtain ⟨d, rfl⟩ : ∃ e, d = e + 1 := ⟨d - 1, by simp [K.high] at hd; omega⟩
    exact ⟨fun t h w x y l l' => run_equalIn_int w d t _ _ _ _ h.2, fun _ _ h => h.elim⟩
  | .bool, _, d, hd => by
    obtain ⟨d, rfl⟩ : ∃ e, d = e + 1 := ⟨d - 1, by simp [K.high] at hd; omega⟩
    exact ⟨fun t h w x y l l' => run_equalIn_bool' w d t _ _ h.2, fun _ _ h => h.elim⟩
  | .str, _, d, hd => by
    obtain ⟨d, rfl⟩ : ∃ e, d = e + 1 := ⟨d - 1, by simp [K.high] at hd; omega⟩
    exact ⟨fun t h w x y l l' => run_equalIn_string w d t _ _ h.2, fun _ _ h => h.elim⟩
  | .unit, _, d, hd => by
    obtain ⟨d, rfl⟩ : ∃ e, d = e + 1 := ⟨d - 1, by simp [K.high] at hd; omega⟩
    refine ⟨fun t h w x y l l' => ?_, fun fs off h w xs ys x y l l' _ _ _ _ => ?_⟩
    · obtain ⟨_, fs, hu, hfs, hst⟩ := h
      have hf : P.fieldsOf t = fs := by simp [Program.fieldsOf, hu]
      have := run_equalIn_struct (P := P) w d t #[] #[] (by rw [hf]; exact hu) hst
      rw [hf, hfs] at this
      simpa [valOf, eqK, Op.eqFields] using this
    · have h : fs = [] := h
      subst h
      simp [Op.eqFields, eqK]
  | .sl k, hf, _, _ => by cases hf
  | .pair a b, hf, d, hd => by
    simp only [K.flat, Bool.and_eq_true] at hf
    simp only [K.high] at hd
    obtain ⟨d, rfl⟩ : ∃ e, d = e + 1 := ⟨d - 1, by omega⟩
    have iha := run_equal_both a hf.1 d (by omega)
    have ihb := run_equal_both b hf.2 (d + 1) (by omega)
    have key : ∀ (f : Field) (fs : List Field) (off : Nat), f.offset = off → f.name ≠ "_" → TyOk P f.type a → (TyF P b).2 fs (off + a.size) → ∀ (w : World) (xs ys : Array Value) (x y : T (.pair a b)) (l l' : L (.pair a b)),
        cellsAt xs off (vals (.pair a b) x l) → cellsAt ys off (vals (.pair a b) y l') → off + (a.size + b.size) ≤ xs.size → off + (a.size + b.size) ≤ ys.size → (Op.eqFields d xs ys (f :: fs)).run P w = .ok (eqK (.pair a b) x y) w := by
      intro f fs off h1 h2 h3 h4 w xs ys x y l l' hx hy sx sy
      subst h1
      have hx' := cellsAt_append.1 hx
      have hy' := cellsAt_append.1 hy
      rw [vals_length] at hx' hy'
      have p1 := run_partK (w := w) h3 hx'.1 (by omega)
      have p2 := run_partK (w := w) h3 hy'.1 (by omega)
      have p3 := iha.1 f.type h3 w x.1 y.1 l.1 l'.1
      have p4 := ihb.2 fs (f.offset + a.size) h4 w xs ys x.2 y.2 l.2 l'.2 hx'.2 hy'.2 (by omega) (by omega)
      simp only [Nat.add_sub_cancel] at p4
      simp only [Op.eqFields, h2, ne_eq, not_false_iff, if_true, Sem.run_bind, p1, p2, p3, Result.andThen_ok, Sem.run_ite, p4, Sem.run_pure, eqK]
      cases eqK a x.1 y.1 <;> simp
    refine ⟨fun t h w x y l l' => ?_, fun fs off h w xs ys x y l l' hx hy sx sy => ?_⟩
    · obtain ⟨_, fs, hu, hst, hfs⟩ := h
      have hf : P.fieldsOf t = fs := by simp [Program.fieldsOf, hu]
      have := run_equalIn_struct (P := P) w d t (vals (.pair a b) x l).toArray (vals (.pair a b) y l').toArray (by rw [hf]; exact hu) hst
      rw [hf] at this
      simp only [valOf]
      rw [this]
      cases hl : fs.toList with
      | nil => rw [hl] at hfs; exact hfs.elim
      | cons f l0 =>
        rw [hl] at hfs
        obtain ⟨h1, h2, h3, h4⟩ := hfs
        exact key f l0 0 h1 h2 h3 (by rw [Nat.zero_add]; exact h4) w _ _ x y l l' (fun j v hj => by simpa using hj) (fun j v hj => by simpa using hj) (by rw [List.size_toArray, vals_length]; simp [K.size]) (by rw [List.size_toArray, vals_length]; simp [K.size])
    · cases fs with
      | nil => exact h.elim
      | cons f l0 =>
        obtain ⟨h1, h2, h3, h4⟩ := h
        exact key f l0 off h1 h2 h3 h4 w xs ys x y l l' hx hy sx sy
theorem eqGuard_false : ∀ (k : K), k.flat = true → ∀ (d : Nat), k.high ≤ d →
    (∀ t, TyOk P t k → P.eqGuardType d t = false) ∧ (∀ (fs : List Field) (off : Nat), (TyF P k).2 fs off → (fs.any fun f => f.name != "_" && P.eqGuardType (d - 1) f.type) = false)
  | .int k, _, d, hd => by
    obtain ⟨d, rfl⟩ : ∃ e, d = e + 1 := ⟨d - 1, by simp [K.high] at hd; omega⟩
    exact ⟨fun t h => by simp [Program.eqGuardType, h.2], fun _ _ h => h.elim⟩
  | .bool, _, d, hd => by
    obtain ⟨d, rfl⟩ : ∃ e, d = e + 1 := ⟨d - 1, by simp [K.high] at hd; omega⟩
    exact ⟨fun t h => by simp [Program.eqGuardType, h.2], fun _ _ h => h.elim⟩
  | .str, _, d, hd => by
    obtain ⟨d, rfl⟩ : ∃ e, d = e + 1 := ⟨d - 1, by simp [K.high] at hd; omega⟩
    exact ⟨fun t h => by simp [Program.eqGuardType, h.2], fun _ _ h => h.elim⟩
  | .unit, _, d, hd => by
    obtain ⟨d, rfl⟩ : ∃ e, d = e + 1 := ⟨d - 1, by simp [K.high] at hd; omega⟩
    refine ⟨fun t h => ?_, fun fs off h => ?_⟩
    · obtain ⟨_, fs, hu, hfs, hst⟩ := h
      simp only [Program.eqGuardType, hu]
      rw [← Array.any_toList, hfs]
      rfl
    · have h : fs = [] := h
      subst h; rfl
  | .sl k, hf, _, _ => by cases hf
  | .pair a b, hf, d, hd => by
    simp only [K.flat, Bool.and_eq_true] at hf
    simp only [K.high] at hd
    obtain ⟨d, rfl⟩ : ∃ e, d = e + 1 := ⟨d - 1, by omega⟩
    have iha := eqGuard_false a hf.1 d (by omega)
    have ihb := eqGuard_false b hf.2 (d + 1) (by omega)
    simp only [Nat.add_sub_cancel] at ihb
    refine ⟨fun t h => ?_, fun fs off h => ?_⟩
    · obtain ⟨_, fs, hu, hst, hfs⟩ := h
      simp only [Program.eqGuardType, hu]
      rw [← Array.any_toList]
      cases hl : fs.toList with
      | nil => rfl
      | cons f l0 =>
        rw [hl] at hfs
        obtain ⟨h1, h2, h3, h4⟩ := hfs
        simp [iha.1 f.type h3]
        simpa using ihb.2 l0 _ h4
    · cases fs with
      | nil => exact h.elim
      | cons f l0 =>
        obtain ⟨h1, h2, h3, h4⟩ := h
        simp [iha.1 f.type h3]
        simpa using ihb.2 l0 _ h4
theorem eqK_lit : ∀ (k : K) (x : T k) (l l' : L k), k.flat = true → valOf k x l = valOf k x l' := by
  intro k x l l' h
  cases k <;> first | rfl | (cases h; done) | skip
  rename_i a b
  have : ∀ (k : K) (x : T k) (l l' : L k), k.flat = true → vals k x l = vals k x l' := by
    intro k
    induction k with
    | int | bool | str | unit => intros; rfl
    | sl => intro _ _ _ h; cases h
    | pair a b iha ihb =>
      intro x l l' h
      simp only [K.flat, Bool.and_eq_true] at h
      simp only [vals]
      rw [iha x.1 l.1 l'.1 h.1, ihb x.2 l.2 l'.2 h.2]
  simp only [valOf]
  rw [this _ x l l' h]
end
section
variable {P : Program} {X : Cx} {N : Nat} {a : Act} {s : St} {g : Gs} {F : Nat → Prop} {ow : Nat → Option Nat} {w : World} {R : Type} {r : R}
theorem bool_ok (b : Bool) : PcOk P g F w (.v .bool b) (.bool b) := ⟨(), trivial, rfl⟩
theorem int_ok (k : IntKind) (n : Int) : PcOk P g F w (.v (.int k) n) (.int k n) := ⟨(), trivial, rfl⟩
theorem str_ok (n : ByteArray) : PcOk P g F w (.v .str n) (.string n) := ⟨(), trivial, rfl⟩
theorem eqGuard_ok (op : BinOp) (t : TypeId) (x y : Operand) (u v : Value) (h : (∃ p q, u = .agg p ∧ v = .agg q) → P.eqGuardType P.depth t = false) (h' : ¬ (u = .nilIface ∧ v = .nilIface)) : (eqGuard op t x y u v).run P w = .ok () w := by
  unfold eqGuard
  simp only [Sem.run_ite]
  split
  all_goals
    first
    | (simp; done)
    | (simp only [Bool.not_true, Bool.false_eq_true, if_false]
       split
       · exact absurd ⟨rfl, rfl⟩ h'
       · have := h ⟨_, _, rfl, rfl⟩
         simp [this]
       · rfl)
theorem bin_ok {x y : Pc} {u v : Value} (hx : PcOk P g F w x u) (hy : PcOk P g F w y v) {ty : Option K} {op : BinOp} {t : TypeId} {kk : Pc → Option R} (ox oy : Operand)
    (h : bin ty op x y kk = some r) (ht : ∀ k, ty = some k → TyOk P t k) :
    ∃ c z, kk c = some r ∧ (do eqGuard op t ox oy u v; binOp op t u v).run P w = .ok z w ∧ PcOk P g F w c z := by
  cases x with
  | v k x =>
    cases y with
    | v k' y =>
      obtain ⟨l, hl, rfl⟩ := hx
      obtain ⟨l', hl', rfl⟩ := hy
      have gen : ∀ (h : k' = k), (cond (decide (ty = some k) && (k.flat && Nat.ble k.high 100)) (match op with
          | .eql => kk (.v .bool (eqK k x (h ▸ y)))
          | .neq => kk (.v .bool (!(eqK k x (h ▸ y))))
          | _ => none) none) = some r → (∀ _n : Unit, valOf k x l ≠ .nilIface) → (∀ kk n, valOf k x l ≠ .int kk n) → (∀ n, valOf k x l ≠ .string n) →
          ∃ c z, kk c = some r ∧ (do eqGuard op t ox oy (valOf k x l) (valOf k' y l'); binOp op t (valOf k x l) (valOf k' y l')).run P w = .ok z w ∧ PcOk P g F w c z := by
        intro hk h2 hn1 hn2 hn3
        subst hk
        cases hc : (decide (ty = some k') && (k'.flat && Nat.ble k'.high 100)) with
        | false => rw [hc] at h2; cases h2
        | true =>
        rw [hc] at h2
        simp only [cond_true] at h2
        simp only [Bool.and_eq_true, decide_eq_true_eq] at hc
        obtain ⟨hty, hflat, hhigh⟩ := hc
        have hhi : k'.high ≤ 100 := Nat.le_of_ble_eq_true hhigh
        have hT := ht k' hty
        have hd : k'.high ≤ P.depth := by unfold Program.depth Made.depth; omega
        have hg := (eqGuard_false k' hflat P.depth hd).1 t hT
        have he := (run_equal_both k' hflat Op.maxDepth (by unfold Op.maxDepth; omega)).1 t hT w x y l l'
        have hgd : (eqGuard op t ox oy (valOf k' x l) (valOf k' y l')).run P w = .ok () w := eqGuard_ok _ _ _ _ _ _ (fun _ => hg) (fun h => hn1 () h.1)
        have hb : ∀ (neg : Bool), (op = if neg then .neq else .eql) → (binOp op t (valOf k' x l) (valOf k' y l')).run P w = .ok (.bool (if neg then !(eqK k' x y) else eqK k' x y)) w := by
          intro neg ho
          cases neg
          · simp only [Bool.false_eq_true, if_false] at ho ⊢
            subst ho
            unfold binOp
            cases k' <;> simp only [valOf, Op.equal] at he ⊢ <;> first | (exact absurd rfl (hn2 _ _)) | (exact absurd rfl (hn3 _)) | (simp [Op.equal, he]; done) | (cases hflat; done)
          · simp only [if_true] at ho ⊢
            subst ho
            unfold binOp
            cases k' <;> simp only [valOf, Op.equal] at he ⊢ <;> first | (exact absurd rfl (hn2 _ _)) | (exact absurd rfl (hn3 _)) | (simp [Op.equal, he]; done) | (cases hflat; done)
        cases op <;> simp only at h2 <;> first | (cases h2; done) | skip
        · exact ⟨_, _, h2, by rw [Sem.run_bind, hgd]; exact hb false rfl, bool_ok _⟩
        · exact ⟨_, _, h2, by rw [Sem.run_bind, hgd]; exact hb true rfl, bool_ok _⟩
      cases k with
      | int k =>
        cases k' with
        | int k' =>
          obtain ⟨c, z, h1, h2, h3⟩ := run_binInt (P := P) (w := w) op t k k' x y r h
          refine ⟨c, z, h1, ?_, h3 g F⟩
          rw [Sem.run_bind, eqGuard_ok _ _ _ _ _ _ (by simp [valOf]) (by simp [valOf])]
          exact h2
        | _ => simp [bin] at h
      | str =>
        cases k' with
        | str =>
          simp only [bin] at h
          obtain ⟨c, z, h1, h2, h3⟩ := run_binStr (P := P) (w := w) op t x y r h
          refine ⟨c, z, h1, ?_, h3 g F⟩
          rw [Sem.run_bind, eqGuard_ok _ _ _ _ _ _ (by simp [valOf]) (by simp [valOf])]
          exact h2
        | _ => simp [bin] at h
      | bool =>
        cases k' with
        | bool =>
          simp only [bin] at h
          split at h
          case isFalse => cases h
          rename_i hty
          refine gen rfl ?_ (by intro _ h; cases h) (by intro _ _ h; cases h) (by intro _ h; cases h)
          simp only [hty, decide_true, K.flat, Bool.true_and, K.high]
          exact h
        | _ => simp [bin] at h
      | unit =>
        cases k' with
        | unit => simp only [bin, dite_true] at h; exact gen rfl h (by intro _ h; cases h) (by intro _ _ h; cases h) (by intro _ h; cases h)
        | _ => simp [bin] at h
      | pair ka kb =>
        cases k' with
        | pair ka' kb' =>
          simp only [bin] at h
          split at h
          case isFalse => cases h
          rename_i hk
          exact gen hk h (by intro _ h; cases h) (by intro _ _ h; cases h) (by intro _ h; cases h)
        | _ => simp [bin] at h
      | sl k =>
        cases k' with
        | sl k' =>
          simp only [bin] at h
          split at h
          case isFalse => cases h
          simp [K.flat] at h
        | _ => simp [bin] at h
    | _ => cases k <;> simp [bin] at h
  | _ => simp [bin] at h
theorem un_ok {x : Pc} {u : Value} (hx : PcOk P g F w x u) {op : UnOp} {kk : Pc → Option R} (h : un op x kk = some r) :
    ∃ c z, kk c = some r ∧ (Op.unary op u).run P w = .ok z w ∧ PcOk P g F w c z := by
  cases x with
  | v k x =>
    obtain ⟨l, hl, rfl⟩ := hx
    cases op <;> cases k <;> simp only [un] at h <;> first | (cases h; done) | skip
    · exact ⟨_, _, h, by simp [valOf, Op.unary, Op.intArith], int_ok _ _⟩
    · exact ⟨_, _, h, by simp [valOf, Op.unary, Op.intBits], int_ok _ _⟩
    · exact ⟨_, _, h, by simp [valOf, Op.unary], bool_ok _⟩
  | _ => cases op <;> simp [un] at h
end
end Go.Proofs.YthlnjkcpdkjipaaDoor.Ev

/- Quiet operations, one by one. -/
namespace Go.Proofs.YthlnjkcpdkjipaaDoor.Ev
section
variable {P : Program} {X : Cx} {N : Nat} {a : Act} {s : St} {g : Gs} {F : Nat → Prop} {ow : Nat → Option Nat} {w : World} {R : Type} {r : R} {E : Env}
  {o : Oper} {next : Act → World → Prop} {Q : Exit → Act → World → Prop} {put : PV → Option R}
theorem wp_val {v : Value} (he : (execOp a.eval o).run P w = .ok (.value v) w) (hn : next (a.put o.dst v) w) : o.wp P a w next Q := by
  simp only [Oper.wp, he, Oper.upon]
  exact hn
def QOk (P : Program) (g : Gs) (F : Nat → Prop) (w : World) (put : PV → Option R) (r : R) (v : Value) (w' : World) : Prop :=
  ∃ pv F', put pv = some r ∧ Ext w w' ∧ (∀ b, F b → F' b) ∧ (∀ b, F' b → F b ∨ w.heap.size ≤ b ∧ b < w'.heap.size) ∧ PvOk P g F' w' pv v
theorem QOk.now {pv : PV} {v : Value} (h : put pv = some r) (hv : PvOk P g F w pv v) : QOk P g F w put r v w :=
  ⟨pv, F, h, Ext.refl w, fun _ h => h, fun _ h => .inl h, hv⟩
theorem QOk.one {c : Pc} {v : Value} (h : put (.one c) = some r) (hv : PcOk P g F w c v) : QOk P g F w put r v w := QOk.now h hv
theorem exec_v {x : Sem Value} (ho : execOp a.eval o = (do pure (.value (← x)))) {v : Value} (hx : x.run P w = .ok v w) : (execOp a.eval o).run P w = .ok (.value v) w := by
  rw [ho]; simp [hx]
theorem gat_append : ∀ (p q : List Stp) (k : K) (m : Mk) (x : T k) (l : L k) (b : Option (Nat × Nat)),
    gat k m x l b (p ++ q) = (gat k m x l b p).bind fun c => gat c.k c.m c.x c.l c.b q
  | [], q, k, m, x, l, b => by simp [gat]
  | s :: p, q, k, m, x, l, b => by
    cases k <;> cases s <;> simp only [List.cons_append, gat, Option.bind_none] <;> first | rfl | skip
    · exact gat_append p q ..
    · exact gat_append p q ..
    · split
      · rfl
      · split
        · exact gat_append p q ..
        · rfl
theorem fld_gat : ∀ (k : K) (f : Nat) (kf : K), k.fld f = some kf → ∀ (m : Mk) (x : T k) (l : L k) (b : Option (Nat × Nat)),
    ∃ c, gat k m x l b (fpath f) = some c ∧ c.k = kf ∧ c.b = mv b (k.offs f)
  | .pair ka kb, 0, kf, h, m, x, l, b => by
    simp only [K.fld, Option.some.injEq] at h
    subst h
    refine ⟨⟨ka, m.l, x.1, l.1, b⟩, by simp [fpath, gat], rfl, ?_⟩
    cases b <;> simp [mv, K.offs]
  | .pair ka kb, f + 1, kf, h, m, x, l, b => by
    simp only [K.fld] at h
    obtain ⟨c, h1, h2, h3⟩ := fld_gat kb f kf h m.r x.2 l.2 (mv b ka.size)
    refine ⟨c, by simpa [fpath, gat] using h1, h2, ?_⟩
    rw [h3]
    cases b <;> simp [mv, K.offs, Nat.add_assoc]
  | .int _, _, _, h, _, _, _, _ | .bool, _, _, h, _, _, _, _ | .str, _, _, h, _, _, _, _ | .unit, _, _, h, _, _, _, _ | .sl _, _, _, h, _, _, _, _ => by cases h
theorem fld_type : ∀ (k : K) (f : Nat) (kf : K), k.fld f = some kf → ∀ (fs : List Field) (off : Nat), (TyF P k).2 fs off →
    ∃ fd, fs[f]? = some fd ∧ fd.offset = off + k.offs f ∧ TyOk P fd.type kf
  | .pair ka kb, 0, kf, h, fs, off, hf => by
    simp only [K.fld, Option.some.injEq] at h
    subst h
    cases fs with
    | nil => exact hf.elim
    | cons fd fs => exact ⟨fd, rfl, by simp [K.offs, hf.1], hf.2.2.1⟩
  | .pair ka kb, f + 1, kf, h, fs, off, hf => by
    simp only [K.fld] at h
    cases fs with
    | nil => exact hf.elim
    | cons fd fs =>
      obtain ⟨fd2, h1, h2, h3⟩ := fld_type kb f kf h fs _ hf.2.2.2
      exact ⟨fd2, by simpa using h1, by rw [h2]; simp [K.offs, Nat.add_assoc], h3⟩
  | .int _, _, _, h, _, _, _ | .bool, _, _, h, _, _, _ | .str, _, _, h, _, _, _ | .unit, _, _, h, _, _, _ | .sl _, _, _, h, _, _, _ => by cases h
theorem fld_struct {t : Nat} {k kf : K} {f : Nat} (ht : TyOk P t k) (hf : k.fld f = some kf) :
    ∃ fs fd, P.underlying t = some (.struct fs) ∧ fs[f]? = some fd ∧ fd.offset = k.offs f ∧ TyOk P fd.type kf := by
  cases k <;> first | (cases hf; done) | skip
  rename_i ka kb
  obtain ⟨_, fs, hu, hst, hfs⟩ := ht
  have : (TyF P (.pair ka kb)).2 fs.toList 0 := by
    cases hl : fs.toList with
    | nil => rw [hl] at hfs; exact hfs.elim
    | cons fd l =>
      rw [hl] at hfs
      obtain ⟨h1, h2, h3, h4⟩ := hfs
      exact ⟨h1, h2, h3, by rw [Nat.zero_add]; exact h4⟩
  obtain ⟨fd, h1, h2, h3⟩ := fld_type _ f kf hf _ _ this
  exact ⟨fs, fd, hu, by simpa using h1, by simpa using h2, h3⟩
theorem run_fieldAt {t : Nat} {k kf : K} {f : Nat} (ht : TyOk P t k) (hf : k.fld f = some kf) (h0 : kf.size ≠ 0) (b o' : Nat) :
    (Instr.fieldAt t (.pointer (some ⟨b, o', none⟩)) f).run P w = .ok (.pointer (some ⟨b, o' + k.offs f, none⟩)) w := by
  obtain ⟨fs, fd, hu, hfd, ho, hT⟩ := fld_struct ht hf
  simp [Instr.fieldAt, run_underlying hu, hfd, Instr.sureAddr, fieldPlace, run_sizeK hT, h0, ho, add_mk]
theorem run_fieldK {t : Nat} {k kf : K} {f : Nat} (ht : TyOk P t k) (hf : k.fld f = some kf) (m : Mk) (x : T k) (l : L k) (b : Option (Nat × Nat)) :
    ∃ c, gat k m x l b (fpath f) = some c ∧ c.k = kf ∧ (Instr.field t (valOf k x l) f).run P w = .ok (valOf c.k c.x c.l) w := by
  obtain ⟨fs, fd, hu, hfd, ho, hT⟩ := fld_struct ht hf
  -- the cells of the whole, read at a made-up block
  obtain ⟨c, h1, h2, h3⟩ := fld_gat k f kf hf m x l b
  refine ⟨c, h1, h2, ?_⟩
  have hcells : ∀ (k : K) (f : Nat) (kf : K), k.fld f = some kf → ∀ (m : Mk) (x : T k) (l : L k) (b : Option (Nat × Nat)) (c : GC), gat k m x l b (fpath f) = some c →
      cellsAt (vals k x l).toArray (k.offs f) (vals c.k c.x c.l) ∧ k.offs f + c.k.size ≤ k.size := by
    intro k
    induction k with
    | pair ka kb _ ihb =>
      intro f kf hf m x l b c hc
      cases f with
      | zero =>
        simp [fpath, gat] at hc
        subst hc
        refine ⟨?_, by simp [K.offs, K.size]⟩
        have : cellsAt (vals (.pair ka kb) x l).toArray 0 (vals ka x.1 l.1 ++ vals kb x.2 l.2) := fun j v hj => by simpa [vals] using hj
        exact (cellsAt_append.1 this).1
      | succ f =>
        simp only [fpath, gat] at hc
        obtain ⟨q1, q2⟩ := ihb f kf hf m.r x.2 l.2 _ c hc
        refine ⟨fun j v hj => ?_, by simp [K.offs, K.size]; omega⟩
        have := q1 j v hj
        simp only [K.offs, vals]
        rw [List.getElem?_toArray] at this ⊢
        rw [List.getElem?_append_right (by rw [vals_length]; omega), vals_length]
        rwa [show ka.size + kb.offs f + j - ka.size = kb.offs f + j by omega]
    | _ => intro f kf hf; cases hf
  obtain ⟨q1, q2⟩ := hcells k f kf hf m x l b c h1
  cases k <;> first | (cases hf; done) | skip
  rename_i ka kb
  subst h2
  have := run_partK (P := P) (w := w) hT q1 (by rw [List.size_toArray, vals_length]; exact q2)
  simp only [Instr.field, Sem.run_bind, run_underlying hu, Result.andThen_ok, hfd, valOf, asAgg, Sem.run_pure, ho]
  exact this
theorem run_indexAt {t : Nat} {k : K} (ht : TyOk P t (.sl k)) {b o' n c : Nat} {ik : IntKind} {i : Int} (h0 : 0 ≤ i) (hi : i.toNat < n) :
    (Instr.indexAt t (.slice (some ⟨b, o', none⟩) n c) (.int ik i)).run P w = .ok (.pointer (some ⟨b, o' + i.toNat * k.size, none⟩)) w := by
  obtain ⟨_, e, hu, he⟩ := ht
  have h2 : i < (n : Int) := by omega
  simp [Instr.indexAt, asIntOf, run_underlying hu, h0, h2, run_sizeK he, add_mk]
theorem getO_some {α : Type} {xs : List α} {i : Int} {kk : α → Option R} (h : getO xs i kk = some r) : 0 ≤ i ∧ ∃ x, xs[i.toNat]? = some x ∧ kk x = some r := by
  unfold getO at h
  cases hb : decide (0 ≤ i) with
  | false => rw [hb] at h; cases h
  | true =>
    rw [hb] at h
    simp only [cond_true] at h
    refine ⟨of_decide_eq_true hb, ?_⟩
    split at h
    · rename_i x hx; exact ⟨x, hx, h⟩
    · cases h
theorem req_some {b : Bool} {x : Option R} (h : req b x = some r) : b = true ∧ x = some r := by
  cases b with
  | false => cases h
  | true => exact ⟨rfl, h⟩
theorem bnds_some {len : Nat} {lo hi : Option Int} {kk : Nat → Nat → Option R} (h : bnds len lo hi kk = some r) :
    ∃ l u, kk l u = some r ∧ l ≤ u ∧ u ≤ len ∧ (∀ x, lo = some x → x = l) ∧ (∀ x, hi = some x → x = u) ∧ (lo = none → l = 0) ∧ (hi = none → u = len) := by
  cases lo <;> cases hi <;> simp only [bnds] at h
  · exact ⟨0, len, h, Nat.zero_le _, Nat.le_refl _, by simp, by simp, by simp, by simp⟩
  · rename_i y
    obtain ⟨h1, h2⟩ := req_some h
    simp at h1
    exact ⟨0, y.toNat, h2, Nat.zero_le _, by omega, by simp, by intro x hx; injection hx with hx; omega, by simp, by simp⟩
  · rename_i y
    obtain ⟨h1, h2⟩ := req_some h
    simp at h1
    exact ⟨y.toNat, len, h2, by omega, Nat.le_refl _, by intro x hx; injection hx with hx; omega, by simp, by simp, by simp⟩
  · rename_i y z
    obtain ⟨h1, h2⟩ := req_some h
    simp at h1
    exact ⟨y.toNat, z.toNat, h2, by omega, by omega, by intro x hx; injection hx with hx; omega, by intro x hx; injection hx with hx; omega, by simp, by simp⟩
theorem optInt_ok (h : Rel P X N s g F ow a.tmps w) {x : Option Operand} {y : Option Int} (hx : optInt s x = some y) :
    (x = none ∧ y = none) ∨ ∃ q ik n, x = some q ∧ y = some n ∧ a.eval q = .int ik n := by
  cases x with
  | none => simp [optInt] at hx; exact .inl ⟨rfl, hx.symm⟩
  | some q =>
    simp only [optInt] at hx
    split at hx
    · rename_i ik n hq
      injection hx with hx
      exact .inr ⟨q, ik, n, rfl, hx.symm, (asInt_ok (h.opd q) hq).1⟩
    · cases hx
theorem run_bounds (isSlice : Bool) {len cap l u : Nat} (hl : l ≤ u) (hu : u ≤ len) (hc : len ≤ cap) {lo hi : Option Operand} {lo' hi' : Option Int}
    (h1 : (lo = none ∧ lo' = none) ∨ ∃ q ik n, lo = some q ∧ lo' = some n ∧ a.eval q = .int ik n) (h2 : (hi = none ∧ hi' = none) ∨ ∃ q ik n, hi = some q ∧ hi' = some n ∧ a.eval q = .int ik n)
    (e1 : ∀ x, lo' = some x → x = l) (e2 : ∀ x, hi' = some x → x = u) (e3 : lo' = none → l = 0) (e4 : hi' = none → u = len) :
    (Instr.sliceBounds isSlice len cap (lo.map a.eval) (hi.map a.eval) none).run P w = .ok (l, u, cap) w := by
  have b1 : ∀ (ik : IntKind) (n : Int) (y : Nat) (m : Nat) (code : BoundsCode), n = m → m ≤ y → (Instr.sliceBound (.int ik n) y code).run P w = .ok m w := by
    intro ik n y m code hn hm
    subst hn
    have : (m : Int) ≤ (y : Int) := by omega
    simp [Instr.sliceBound, asIntOf, this]
  rcases h1 with ⟨rfl, rfl⟩ | ⟨q1, k1, n1, rfl, rfl, v1⟩ <;> rcases h2 with ⟨rfl, rfl⟩ | ⟨q2, k2, n2, rfl, rfl, v2⟩
  · simp [Instr.sliceBounds, e3 rfl, e4 rfl]
  · have := e2 _ rfl
    simp [Instr.sliceBounds, v2, b1 k2 n2 cap u _ this (by omega), e3 rfl]
  · have := e1 _ rfl
    have h4 := e4 rfl
    subst h4
    simp [Instr.sliceBounds, v1, b1 k1 n1 u l _ this hl]
  · have := e1 _ rfl
    have h4 := e2 _ rfl
    simp [Instr.sliceBounds, v1, v2, b1 k2 n2 cap u _ h4 (by omega), b1 k1 n1 u l _ this hl]
end
end Go.Proofs.YthlnjkcpdkjipaaDoor.Ev

/- Quiet operations: each does what the evaluation says. -/
namespace Go.Proofs.YthlnjkcpdkjipaaDoor.Ev
section
variable {P : Program} {X : Cx} {N : Nat} {a : Act} {s : St} {g : Gs} {F : Nat → Prop} {ow : Nat → Option Nat} {w : World} {R : Type} {r : R} {E : Env}
  {o : Oper} {next : Act → World → Prop} {Q : Exit → Act → World → Prop} {put : PV → Option R}
theorem q_move (h : Rel P X N s g F ow a.tmps w) {x : Operand} (ho : o.op = .move x ∨ o.op = .assign x)
    (hr : (match x with | .tmp t => put (s.slot t) | x => put (.one (s.opd x))) = some r) (hn : ∀ v w', QOk P g F w put r v w' → next (a.put o.dst v) w') : o.wp P a w next Q := by
  have he : (execOp a.eval o).run P w = .ok (.value (a.eval x)) w := by rcases ho with ho | ho <;> simp [execOp, ho]
  refine wp_val he (hn _ _ ?_)
  cases x with
  | tmp t => exact QOk.now hr (h.slot t)
  | const v => exact QOk.now hr (h.opd (.const v))
  | global n => exact QOk.now hr (h.opd (.global n))
  | func f => exact QOk.now hr (h.opd (.func f))
theorem q_pick (h : Rel P X N s g F ow a.tmps w) {c x y : Operand} (ho : o.op = .pick c x y)
    (hr : (match asBool (s.opd c) with | some t => cond t (put (.one (s.opd x))) (put (.one (s.opd y))) | none => none) = some r)
    (hn : ∀ v w', QOk P g F w put r v w' → next (a.put o.dst v) w') : o.wp P a w next Q := by
  split at hr
  case h_2 => cases hr
  rename_i t hc
  have hb := asBool_ok (h.opd c) hc
  cases t with
  | true => exact wp_val (v := a.eval x) (by simp [execOp, ho, hb, Ev.asBool, Go.asBool]) (hn _ _ (QOk.now hr (h.opd x)))
  | false => exact wp_val (v := a.eval y) (by simp [execOp, ho, hb, Ev.asBool, Go.asBool]) (hn _ _ (QOk.now hr (h.opd y)))
theorem q_load (h : Rel P X N s g F ow a.tmps w) (hE : EnvOk P E) {t : Nat} {x : Operand} (ho : o.op = .load t x)
    (hr : (match E.ty t with
    | some k => match s.opd x with
      | .ptr u p => match s.root u with
        | some r => Ct.at r.k r.m r.x p fun c => if c.k = k then cond c.m.clear (put (.one (.v c.k c.x))) (put (.one (.al u p))) else none
        | none => none
      | .sp k' x => if k' = k then put (.one (.v k' x)) else none
      | _ => none
    | none => none) = some r) (hn : ∀ v w', QOk P g F w put r v w' → next (a.put o.dst v) w') : o.wp P a w next Q := by
  split at hr
  case h_2 => cases hr
  rename_i k hk
  have ht := hE.ty t k hk
  have hx := h.opd x
  split at hr
  · rename_i u p hp
    rw [hp] at hx
    obtain ⟨q, c, ⟨b, o'⟩, h1, h2, h3, h4⟩ := hx
    rw [h.rootTo h1] at hr
    simp only [GR.rt] at hr
    rw [gat_at h2] at hr
    dsimp only [GC.ct] at hr
    by_cases hck : c.k = k
    case neg => rw [if_neg hck] at hr; cases hr
    rw [if_pos hck] at hr
    subst hck
    have hm := gat_mem h2 (h.sat u q h1) (h.mem u q h1) b o' h3
    have hl := run_loadK (P := P) ht hm
    have he : (execOp a.eval o).run P w = .ok (.value (valOf c.k c.x c.l)) w := by
      simp [execOp, ho, Instr.loadAt, h4, adr, Instr.sureAddr, hl]
    refine wp_val he (hn _ _ ?_)
    cases hc : c.m.clear with
    | true =>
      rw [hc] at hr
      exact QOk.one hr ⟨c.l, sat_clear hc (gat_sat h2 (h.sat u q h1)), rfl⟩
    | false =>
      rw [hc] at hr
      exact QOk.one hr ⟨q, c, h1, h2, rfl⟩
  · rename_i k' x' hp
    rw [hp] at hx
    obtain ⟨l, b, o', h1, h2, h3, h4⟩ := hx
    split at hr
    case isFalse => cases hr
    rename_i hck
    subst hck
    have hl := run_loadK (P := P) ht h3
    have he : (execOp a.eval o).run P w = .ok (.value (valOf k' x' l)) w := by
      simp [execOp, ho, Instr.loadAt, h4, adr, Instr.sureAddr, hl]
    exact wp_val he (hn _ _ (QOk.one hr ⟨l, h1, rfl⟩))
  · cases hr
theorem q_nilCheck (h : Rel P X N s g F ow a.tmps w) {x : Operand} (ho : o.op = .nilCheck x)
    (hr : (match s.opd x with
    | .ptr t p => put (.one (.ptr t p))
    | .sp k x => put (.one (.sp k x))
    | _ => none) = some r) (hn : ∀ v w', QOk P g F w put r v w' → next (a.put o.dst v) w') : o.wp P a w next Q := by
  have hx := h.opd x
  split at hr
  · rename_i t p hp
    rw [hp] at hx
    have hx' := hx
    obtain ⟨q, c, z, h1, h2, h3, h4⟩ := hx
    have he : (execOp a.eval o).run P w = .ok (.value (a.eval x)) w := by simp [execOp, ho, h4, adr]
    exact wp_val he (hn _ _ (QOk.now hr hx'))
  · rename_i k x' hp
    rw [hp] at hx
    have hx' := hx
    obtain ⟨l, b, o', h1, h2, h3, h4⟩ := hx
    have he : (execOp a.eval o).run P w = .ok (.value (a.eval x)) w := by simp [execOp, ho, h4, adr]
    exact wp_val he (hn _ _ (QOk.now hr hx'))
  · cases hr
theorem q_binOp (h : Rel P X N s g F ow a.tmps w) (hE : EnvOk P E) {op : BinOp} {t u : Nat} {x y : Operand} (ho : o.op = .binOp op t x y u)
    (hr : bin (E.ty t) op (s.opd x) (s.opd y) (fun c => put (.one c)) = some r) (hn : ∀ v w', QOk P g F w put r v w' → next (a.put o.dst v) w') : o.wp P a w next Q := by
  obtain ⟨c, z, h1, h2, h3⟩ := bin_ok (t := t) (h.opd x) (h.opd y) x y hr (fun k hk => hE.ty t k hk)
  exact wp_val (exec_v (by simp only [execOp, ho]) h2) (hn _ _ (QOk.now h1 h3))
theorem q_unOp (h : Rel P X N s g F ow a.tmps w) {op : UnOp} {t : Nat} {x : Operand} (ho : o.op = .unOp op t x)
    (hr : un op (s.opd x) (fun c => put (.one c)) = some r) (hn : ∀ v w', QOk P g F w put r v w' → next (a.put o.dst v) w') : o.wp P a w next Q := by
  obtain ⟨c, z, h1, h2, h3⟩ := un_ok (h.opd x) hr
  exact wp_val (exec_v (by simp only [execOp, ho]) h2) (hn _ _ (QOk.now h1 h3))
theorem foldl_push (ns : List Int) : ∀ (s : ByteArray), ns.foldl (fun r n => r.push (UInt8.ofNat n.toNat)) s = ⟨s.data ++ (ns.map fun n => UInt8.ofNat n.toNat).toArray⟩ := by
  induction ns with
  | nil => intro s; simp
  | cons n ns ih =>
    intro s
    simp only [List.foldl_cons, ih]
    congr 1
    apply Array.ext'
    simp [ByteArray.push]
theorem bytes_run {xs : List Int} {l : L (.sl (.int .u8))} {F : Nat → Prop} (h : sat w F (.sl (.int .u8)) .s xs l) :
    (Conv.bytesToString (valOf (.sl (.int .u8)) xs l)).run P w = .ok (.string (strOf xs)) w := by
  obtain ⟨⟨h1, h2, h3⟩, h4⟩ := h (by intro h; cases h)
  obtain ⟨⟨q, c⟩, lf⟩ := l
  simp only [valOf]
  cases q with
  | none =>
    have : c = 0 := h2 rfl
    subst this
    have : xs = [] := by
      cases xs with
      | nil => rfl
      | cons x xs => simp at h1
    subst this
    rfl
  | some q =>
    obtain ⟨b, o'⟩ := q
    have hl : (loadCells ⟨b, o', none⟩ xs.length).run P w = .ok (xs.map (Value.int .u8)).toArray w := by
      have := run_loadCells_list (P := P) w ⟨b, o', none⟩ (xs.map (Value.int .u8)) (fun j v hj => by
        rw [List.getElem?_map] at hj
        cases hx : xs[j]? with
        | none => rw [hx] at hj; cases hj
        | some x =>
          rw [hx] at hj
          simp at hj
          subst hj
          have hne : xs ≠ [] := by rintro rfl; simp at hx
          obtain ⟨cs, e, fr, g1, _, g3⟩ := ((h3.1 b o' rfl).2 hne).2
          rw [add_mk, cell_of g1]
          have := g3 j x hx 0 (.int .u8 x) rfl
          simpa [K.size] using this)
      simpa using this
    rw [show adr (some (b, o')) = some ⟨b, o', none⟩ from rfl, run_bytesToString w _ _ _ xs hl, foldl_push]
    simp [strOf, ByteArray.empty, ByteArray.emptyWithCapacity]
    rfl
theorem q_convert (h : Rel P X N s g F ow a.tmps w) (hE : EnvOk P E) {t u : Nat} {x : Operand} (ho : o.op = .convert t u x)
    (hr : (match E.ty t, E.ty u with
    | some (.int _), some (.int kb) => match s.opd x with
      | .v (.int _) n => put (.one (.v (.int kb) (kb.wrap n)))
      | _ => none
    | some (.sl (.int .u8)), some .str => match s.opd x with
      | .nil0 => put (.one (.v .str ⟨#[]⟩))
      | c => s.readK c (.sl (.int .u8)) fun l => put (.one (.v .str (strOf l)))
    | _, _ => none) = some r) (hn : ∀ v w', QOk P g F w put r v w' → next (a.put o.dst v) w') : o.wp P a w next Q := by
  have hx := h.opd x
  split at hr
  · rename_i ka kb h1 h2
    have t1 := (hE.ty _ _ h1).2
    have t2 := (hE.ty _ _ h2).2
    split at hr
    · rename_i k n hp
      rw [hp] at hx
      obtain ⟨l, _, h4⟩ := hx
      have he : (convert t u (a.eval x)).run P w = .ok (.int kb (kb.wrap n)) w := by
        rw [h4]
        simp [convert, run_underlying t1, run_underlying t2, valOf, Conv.intToInt]
      exact wp_val (exec_v (by simp only [execOp, ho]) he) (hn _ _ (QOk.one hr (int_ok _ _)))
    · cases hr
  · rename_i h1 h2
    obtain ⟨_, e, t1, _, te⟩ := hE.ty _ _ h1
    have t2 := (hE.ty _ _ h2).2
    have hconv : ∀ (v : Value), (∃ q n c, v = .slice q n c) → (convert t u v).run P w = (Conv.bytesToString v).run P w := by
      rintro v ⟨q, n, c, rfl⟩
      simp [convert, run_underlying t1, run_underlying t2, run_underlying te]
    split at hr
    · rename_i hp
      rw [hp] at hx
      obtain ⟨q, h4, h5⟩ := hx
      have hs : sat w F (.sl (.int .u8)) .s [] ((q, 0), fun _ => zeroL (.int .u8)) := nilZ_sat h5
      have he := bytes_run (P := P) hs
      refine wp_val (exec_v (x := convert t u (a.eval x)) (v := .string ⟨#[]⟩) (by simp only [execOp, ho]) ?_) (hn _ _ (QOk.one hr (str_ok _)))
      rw [h4, hconv _ ⟨_, _, _, rfl⟩]
      exact he
    · obtain ⟨xs, l, q1, q2, q3⟩ := readK_ok h hx hr
      refine wp_val (exec_v (x := convert t u (a.eval x)) (v := .string (strOf xs)) (by simp only [execOp, ho]) ?_) (hn _ _ (QOk.one q1 (str_ok _)))
      rw [q3, hconv (valOf (.sl (.int .u8)) xs l) ⟨_, _, _, rfl⟩]
      exact bytes_run q2
  · cases hr
theorem q_fieldAddr (h : Rel P X N s g F ow a.tmps w) (hE : EnvOk P E) {t f : Nat} {x : Operand} (ho : o.op = .fieldAddr t x f)
    (hr : (match E.ty t with
    | some k => match k.fld f with
      | some kf => cond (Nat.beq kf.size 0) none (match s.opd x with
        | .ptr u p => match s.root u with
          | some r => Ct.at r.k r.m r.x p fun c => if c.k = k then put (.one (.ptr u (p ++ fpath f))) else none
          | none => none
        | .sp k' x => if k' = k then Ct.at k' .s x (fpath f) fun c => put (.one (.sp c.k c.x)) else none
        | _ => none)
      | none => none
    | none => none) = some r) (hn : ∀ v w', QOk P g F w put r v w' → next (a.put o.dst v) w') : o.wp P a w next Q := by
  split at hr
  case h_2 => cases hr
  rename_i k hk
  have ht := hE.ty t k hk
  split at hr
  case h_2 => cases hr
  rename_i kf hf
  cases hz : Nat.beq kf.size 0 with
  | true => rw [hz] at hr; cases hr
  | false =>
  rw [hz] at hr
  simp only [cond_false] at hr
  have h0 : kf.size ≠ 0 := by intro h; rw [h] at hz; cases hz
  have hx := h.opd x
  split at hr
  · rename_i u p hp
    rw [hp] at hx
    obtain ⟨q, c, ⟨b, o'⟩, h1, h2, h3, h4⟩ := hx
    rw [h.rootTo h1] at hr
    simp only [GR.rt] at hr
    rw [gat_at h2] at hr
    dsimp only [GC.ct] at hr
    by_cases hck : c.k = k
    case neg => rw [if_neg hck] at hr; cases hr
    rw [if_pos hck] at hr
    subst hck
    obtain ⟨c2, g1, g2, g3⟩ := fld_gat c.k f kf hf c.m c.x c.l c.b
    have he := run_fieldAt (P := P) (w := w) ht hf h0 b o'
    refine wp_val (exec_v (x := Instr.fieldAt t (a.eval x) f) (v := .pointer (some ⟨b, o' + c.k.offs f, none⟩)) (by simp only [execOp, ho]) ?_) (hn _ _ (QOk.one hr ⟨q, c2, (b, o' + c.k.offs f), h1, ?_, ?_, rfl⟩))
    · rw [h4]; exact he
    · simp only [GR.at] at h2 ⊢
      rw [gat_append, h2]; exact g1
    · rw [g3, h3]; rfl
  · rename_i k' x' hp
    rw [hp] at hx
    obtain ⟨l, b, o', h1, h2, h3, h4⟩ := hx
    by_cases hck : k' = k
    case neg => rw [if_neg hck] at hr; cases hr
    rw [if_pos hck] at hr
    subst hck
    obtain ⟨c2, g1, g2, g3⟩ := fld_gat k' f kf hf .s x' l (some (b, o'))
    rw [gat_at g1] at hr
    have he := run_fieldAt (P := P) (w := w) ht hf h0 b o'
    have hc2 : c2.m = .s := by
      have : ∀ (f : Nat) (k : K) (x : T k) (l : L k) (b : Option (Nat × Nat)) (c : GC), gat k .s x l b (fpath f) = some c → c.m = .s := by
        intro f
        induction f with
        | zero => intro k x l b c hc; cases k <;> simp [fpath, gat] at hc; subst hc; rfl
        | succ f ih => intro k x l b c hc; cases k <;> simp only [fpath, gat] at hc <;> first | (cases hc; done) | exact ih _ _ _ _ _ hc
      exact this f _ _ _ _ _ g1
    refine wp_val (exec_v (x := Instr.fieldAt t (a.eval x) f) (v := .pointer (some ⟨b, o' + k'.offs f, none⟩)) (by simp only [execOp, ho]) ?_) (hn _ _ (QOk.one hr ⟨c2.l, b, o' + k'.offs f, ?_, h2, ?_, rfl⟩))
    · rw [h4]; exact he
    · have := gat_sat g1 h1; rwa [hc2] at this
    · exact gat_mem g1 h1 (fun c o e => by injection e with e; injection e with e1 e2; subst e1; subst e2; exact h3) b (o' + k'.offs f) (by rw [g3]; rfl)
  · cases hr
theorem q_field (h : Rel P X N s g F ow a.tmps w) (hE : EnvOk P E) {t f : Nat} {x : Operand} (ho : o.op = .field t x f)
    (hr : (match E.ty t with
    | some k => match s.opd x with
      | .v k' x => if k' = k then Ct.at k' .s x (fpath f) fun c => put (.one (.v c.k c.x)) else none
      | .al u p => match s.root u with
        | some r => Ct.at r.k r.m r.x p fun c => if c.k = k then Ct.at c.k c.m c.x (fpath f) fun c => cond c.m.clear (put (.one (.v c.k c.x))) (put (.one (.al u (p ++ fpath f)))) else none
        | none => none
      | _ => none
    | none => none) = some r) (hn : ∀ v w', QOk P g F w put r v w' → next (a.put o.dst v) w') : o.wp P a w next Q := by
  split at hr
  case h_2 => cases hr
  rename_i k hk
  have ht := hE.ty t k hk
  have hx := h.opd x
  have fldOf : ∀ (k : K) (m : Mk) (x : T k) (kk : Ct → Option R), Ct.at k m x (fpath f) kk = some r → ∃ kf, k.fld f = some kf := by
    intro k m x kk
    clear hr hx ht hk ho
    induction f generalizing k m with
    | zero => cases k <;> simp [fpath, Ct.at, K.fld]
    | succ f ih =>
      cases k with
      | pair a b => simp only [fpath, Ct.at, K.fld]; exact ih b m.r x.2
      | _ => simp [fpath, Ct.at]
  split at hr
  · rename_i k' x' hp
    rw [hp] at hx
    obtain ⟨l, h1, h4⟩ := hx
    by_cases hck : k' = k
    case neg => rw [if_neg hck] at hr; cases hr
    rw [if_pos hck] at hr
    subst hck
    obtain ⟨kf, hf⟩ := fldOf _ _ _ _ hr
    obtain ⟨c2, g1, g2, g3⟩ := run_fieldK (P := P) (w := w) ht hf .s x' l none
    rw [gat_at g1] at hr
    have hc2 : c2.m = .s := by
      have : ∀ (f : Nat) (k : K) (x : T k) (l : L k) (b : Option (Nat × Nat)) (c : GC), gat k .s x l b (fpath f) = some c → c.m = .s := by
        intro f
        induction f with
        | zero => intro k x l b c hc; cases k <;> simp [fpath, gat] at hc; subst hc; rfl
        | succ f ih => intro k x l b c hc; cases k <;> simp only [fpath, gat] at hc <;> first | (cases hc; done) | exact ih _ _ _ _ _ hc
      exact this f _ _ _ _ _ g1
    refine wp_val (exec_v (x := Instr.field t (a.eval x) f) (v := valOf c2.k c2.x c2.l) (by simp only [execOp, ho]) ?_) (hn _ _ (QOk.one hr ⟨c2.l, ?_, rfl⟩))
    · rw [h4]; exact g3
    · have := gat_sat g1 h1; rwa [hc2] at this
  · rename_i u p hp
    rw [hp] at hx
    obtain ⟨q, c, h1, h2, h4⟩ := hx
    rw [h.rootTo h1] at hr
    simp only [GR.rt] at hr
    rw [gat_at h2] at hr
    dsimp only [GC.ct] at hr
    by_cases hck : c.k = k
    case neg => rw [if_neg hck] at hr; cases hr
    rw [if_pos hck] at hr
    subst hck
    obtain ⟨kf, hf⟩ := fldOf _ _ _ _ hr
    obtain ⟨c2, g1, g2, g3⟩ := run_fieldK (P := P) (w := w) ht hf c.m c.x c.l c.b
    rw [gat_at g1] at hr
    have hat : q.at (p ++ fpath f) = some c2 := by simp only [GR.at] at h2 ⊢; rw [gat_append, h2]; exact g1
    have he : (Instr.field t (a.eval x) f).run P w = .ok (valOf c2.k c2.x c2.l) w := by rw [h4]; exact g3
    refine wp_val (exec_v (by simp only [execOp, ho]) he) (hn _ _ ?_)
    dsimp only [GC.ct] at hr
    cases hc : c2.m.clear with
    | true =>
      rw [hc] at hr
      exact QOk.one hr ⟨c2.l, sat_clear hc (gat_sat hat (h.sat u q h1)), rfl⟩
    | false =>
      rw [hc] at hr
      exact QOk.one hr ⟨q, c2, h1, hat, rfl⟩
  · cases hr
theorem q_indexAddr (h : Rel P X N s g F ow a.tmps w) (hE : EnvOk P E) {t : Nat} {x y : Operand} (ho : o.op = .indexAddr t x y)
    (hr : (match E.ty t, asInt (s.opd y) with
    | some (.sl k0), some (_, i) => match s.opd x with
      | .v (.sl k) xs => if k = k0 then getO xs i fun x => put (.one (.sp k x)) else none
      | .al u p => s.read (.al u p) fun c => match c with
        | ⟨.sl k, m, xs⟩ => if k = k0 ∧ m ≠ .d then getO xs i fun _ => put (.one (.ptr u (p ++ [.el i.toNat]))) else none
        | _ => none
      | .vw u p lo n => s.read (.vw u p lo n) fun c => match c with
        | ⟨.sl k, m, xs⟩ => if k = k0 ∧ m ≠ .d then getO xs i fun _ => put (.one (.ptr u (p ++ [.el (lo + i.toNat)]))) else none
        | _ => none
      | _ => none
    | _, _ => none) = some r) (hn : ∀ v w', QOk P g F w put r v w' → next (a.put o.dst v) w') : o.wp P a w next Q := by
  have hx := h.opd x
  split at hr
  case h_2 => cases hr
  rename_i k0 ik i hk hi
  have ht := hE.ty t _ hk
  have hiv := (asInt_ok (h.opd y) hi).1
  have run : ∀ (b o' n c : Nat), 0 ≤ i → i.toNat < n → a.eval x = .slice (some ⟨b, o', none⟩) n c →
      (execOp a.eval o).run P w = .ok (.value (.pointer (some ⟨b, o' + i.toNat * k0.size, none⟩))) w := by
    intro b o' n c h0 hlt hxv
    refine exec_v (x := Instr.indexAt t (a.eval x) (a.eval y)) (by simp only [execOp, ho]) ?_
    rw [hxv, hiv]
    exact run_indexAt ht h0 hlt
  split at hr
  · rename_i k xs hp
    rw [hp] at hx
    obtain ⟨⟨⟨q, c⟩, lf⟩, h1, h4⟩ := hx
    by_cases hck : k = k0
    case neg => rw [if_neg hck] at hr; cases hr
    rw [if_pos hck] at hr
    subst hck
    obtain ⟨h0, z, hz, hr⟩ := getO_some hr
    obtain ⟨⟨g1, g2, g3⟩, g4⟩ := h1 (by intro h; cases h)
    have hlt : i.toNat < xs.length := (List.getElem?_eq_some_iff.1 hz).1
    have hne : xs ≠ [] := by rintro rfl; simp at hz
    cases q with
    | none =>
      have : c = 0 := g2 rfl
      simp only at g1
      omega
    | some q =>
      obtain ⟨b, o'⟩ := q
      have gb := (g3.1 b o' rfl).2 hne
      refine wp_val (run b o' _ _ h0 hlt h4) (hn _ _ (QOk.one hr ⟨lf i.toNat, b, o' + i.toNat * k.size, g4 _ z hz, gb.1 rfl, ?_, rfl⟩))
      exact gb.2.mono fun cs hcs => hcs _ z hz
  · rename_i u p hp
    rw [hp] at hx
    obtain ⟨q, c, h1, h2, h4⟩ := hx
    simp only [St.read, h.rootTo h1, GR.rt] at hr
    rw [gat_at h2] at hr
    dsimp only [GC.ct] at hr
    obtain ⟨ck, cm, cx, cl, cb⟩ := c
    cases ck <;> dsimp only at hr <;> first | (cases hr; done) | skip
    rename_i k
    by_cases hck : k = k0 ∧ cm ≠ .d
    case neg => rw [if_neg hck] at hr; cases hr
    rw [if_pos hck] at hr
    obtain ⟨rfl, hmd⟩ := hck
    obtain ⟨h0, z, hz, hr⟩ := getO_some hr
    have hs := gat_sat h2 (h.sat u q h1)
    obtain ⟨⟨g1, g2, g3⟩, g4⟩ := hs hmd
    have hlt : i.toNat < cx.length := (List.getElem?_eq_some_iff.1 hz).1
    obtain ⟨⟨qa, cap⟩, lf⟩ := cl
    cases qa with
    | none =>
      have : cap = 0 := g2 rfl
      simp only at g1
      omega
    | some qa =>
      obtain ⟨b, o'⟩ := qa
      refine wp_val (run b o' _ _ h0 hlt h4) (hn _ _ (QOk.one hr ⟨q, ⟨k, cm.inner, z, lf i.toNat, some (b, o' + i.toNat * k.size)⟩, (b, o' + i.toNat * k.size), h1, ?_, rfl, rfl⟩))
      simp only [GR.at] at h2 ⊢
      rw [gat_append, h2]
      simp only [Option.bind_some, gat, if_neg hmd, hz, mv, Option.map_some]
  · rename_i u p lo n hp
    rw [hp] at hx
    obtain ⟨q, k, cm, cx, cl, cb, h1, h2, h3, ad, cap, h4, h5, h6, h7, h8⟩ := hx
    simp only [St.read, h.rootTo h1, GR.rt] at hr
    rw [gat_at h2] at hr
    dsimp only [GC.ct] at hr
    by_cases hck : k = k0 ∧ cm ≠ .d
    case neg => rw [if_neg hck] at hr; cases hr
    rw [if_pos hck] at hr
    obtain ⟨rfl, hmd⟩ := hck
    obtain ⟨h0, z, hz, hr⟩ := getO_some hr
    rw [List.getElem?_take] at hz
    split at hz
    case isFalse => cases hz
    rename_i hlt
    rw [List.getElem?_drop] at hz
    have hcap : cap ≠ 0 := by omega
    have hq := h7 hcap
    cases ad with
    | none => exact absurd (h8.1 rfl) hcap
    | some ad =>
      obtain ⟨b, o'⟩ := ad
      obtain ⟨o2, e1, e2⟩ := mv_some hq.symm
      refine wp_val (run b o' _ _ h0 hlt h4) (hn _ _ (QOk.one hr ⟨q, ⟨k, cm.inner, z, cl.2 (lo + i.toNat), some (b, o2 + (lo + i.toNat) * k.size)⟩, (b, o2 + (lo + i.toNat) * k.size), h1, ?_, rfl, ?_⟩))
      · simp only [GR.at] at h2 ⊢
        rw [gat_append, h2]
        simp only [Option.bind_some, gat, if_neg hmd, hz, e1, mv, Option.map_some]
      · subst e2
        simp [adr, Nat.add_mul, Nat.add_assoc]
  · cases hr
theorem q_index (h : Rel P X N s g F ow a.tmps w) (hE : EnvOk P E) {t : Nat} {x y : Operand} (ho : o.op = .index t x y)
    (hr : (match E.ty t, s.opd x, asInt (s.opd y) with
    | some .str, .v .str b, some (_, i) => getB b i fun n => put (.one (.v (.int .u8) n))
    | _, _, _ => none) = some r) (hn : ∀ v w', QOk P g F w put r v w' → next (a.put o.dst v) w') : o.wp P a w next Q := by
  have hx := h.opd x
  split at hr
  case h_2 => cases hr
  rename_i b ik i hk hp hi
  have ht := (hE.ty t _ hk).2
  have hiv := (asInt_ok (h.opd y) hi).1
  rw [hp] at hx
  obtain ⟨l, _, h4⟩ := hx
  unfold getB at hr
  cases hb : decide (0 ≤ i) with
  | false => rw [hb] at hr; cases hr
  | true =>
    rw [hb] at hr
    simp only [cond_true] at hr
    have h0 : 0 ≤ i := of_decide_eq_true hb
    split at hr
    · rename_i z hz
      refine wp_val (exec_v (x := Instr.index t (a.eval x) (a.eval y)) (v := .int .u8 z.toNat) (by simp only [execOp, ho]) ?_) (hn _ _ (QOk.one hr (int_ok _ _)))
      rw [h4, hiv]
      simp [Instr.index, asIntOf, run_underlying ht, valOf, h0, hz]
    · cases hr
theorem q_extract (h : Rel P X N s g F ow a.tmps w) {x : Operand} {i : Nat} (ho : o.op = .extract x i)
    (hr : (match x with
    | .tmp t => match s.slot t with
      | .tup cs => match cs[i]? with
        | some c => put (.one c)
        | none => none
      | _ => none
    | _ => none) = some r) (hn : ∀ v w', QOk P g F w put r v w' → next (a.put o.dst v) w') : o.wp P a w next Q := by
  cases x with
  | tmp t =>
    simp only at hr
    have hs := h.slot t
    split at hr
    · rename_i cs hc
      rw [hc] at hs
      obtain ⟨vs, h1, h2, h3⟩ := hs
      split at hr
      · rename_i c hi
        have hlt : i < vs.length := by rw [h2]; exact (List.getElem?_eq_some_iff.1 hi).1
        have hv : vs[i]? = some vs[i] := List.getElem?_eq_getElem hlt
        refine wp_val (exec_v (x := Instr.extract (a.eval (.tmp t)) i) (v := vs[i]) (by simp only [execOp, ho]) ?_) (hn _ _ (QOk.one hr (h3 i c _ hi hv)))
        simp only [Act.eval, h1, Instr.extract, List.getElem?_toArray, hv, Sem.run_pure]
      · cases hr
    · cases hr
  | const v => cases hr
  | global n => cases hr
  | func f => cases hr
end
end Go.Proofs.YthlnjkcpdkjipaaDoor.Ev

/- Quiet operations: slices, built-ins. -/
namespace Go.Proofs.YthlnjkcpdkjipaaDoor.Ev
section
variable {P : Program} {X : Cx} {N : Nat} {a : Act} {s : St} {g : Gs} {F : Nat → Prop} {ow : Nat → Option Nat} {w : World} {R : Type} {r : R} {E : Env}
  {o : Oper} {next : Act → World → Prop} {Q : Exit → Act → World → Prop} {put : PV → Option R}
theorem run_sliceSl {t : Nat} {k : K} (ht : TyOk P t (.sl k)) {q : Option (Nat × Nat)} {len cap l u : Nat} (hl : l ≤ u) (hu : u ≤ len) (hc : len ≤ cap) {lo hi : Option Operand} {lo' hi' : Option Int}
    (h1 : (lo = none ∧ lo' = none) ∨ ∃ q ik n, lo = some q ∧ lo' = some n ∧ a.eval q = .int ik n) (h2 : (hi = none ∧ hi' = none) ∨ ∃ q ik n, hi = some q ∧ hi' = some n ∧ a.eval q = .int ik n)
    (e1 : ∀ x, lo' = some x → x = l) (e2 : ∀ x, hi' = some x → x = u) (e3 : lo' = none → l = 0) (e4 : hi' = none → u = len) :
    (Instr.sliceAt t (.slice (adr q) len cap) (lo.map a.eval) (hi.map a.eval) none).run P w = .ok (.slice (adr (if cap = l then q else mv q (l * k.size))) (u - l) (cap - l)) w := by
  obtain ⟨_, e, hun, he⟩ := ht
  have hb := run_bounds (P := P) (w := w) (a := a) true hl hu hc h1 h2 e1 e2 e3 e4
  have hadr : (if cap = l then adr q else (adr q).map (·.add (l * k.size))) = adr (if cap = l then q else mv q (l * k.size)) := by
    split
    · rfl
    · cases q <;> simp [adr, mv, add_mk]
  simp only [Instr.sliceAt, Sem.run_bind, run_underlying hun, Result.andThen_ok, Instr.slice, hb, run_sizeK he, Sem.run_pure, hadr]
theorem q_slice (h : Rel P X N s g F ow a.tmps w) (hE : EnvOk P E) {t : Nat} {x : Operand} {lo hi mx : Option Operand} (ho : o.op = .slice t x lo hi mx)
    (hr : (match optInt s lo, optInt s hi, optInt s mx with
    | some lo, some hi, some mx => match mx with
      | some _ => none
      | none => match E.ty t, s.opd x with
        | some .str, .v .str b => bnds b.size lo hi fun l h => put (.one (.v .str (b.extract l h)))
        | some (.sl k0), .v (.sl k) xs => if k = k0 then bnds xs.length lo hi fun l h => put (.one (.v (.sl k) ((xs.drop l).take (h - l)))) else none
        | some (.sl _), .nil0 => bnds 0 lo hi fun _ _ => put (.one .nil0)
        | some (.sl k0), .al u p => s.read (.al u p) fun c => match c with
          | ⟨.sl k, m, xs⟩ => if k = k0 ∧ m ≠ .d then bnds xs.length lo hi fun l h => put (.one (.vw u p l (h - l))) else none
          | _ => none
        | some (.sl k0), .vw u p l0 n => s.read (.vw u p l0 n) fun c => match c with
          | ⟨.sl k, _, _⟩ => if k = k0 then bnds n lo hi fun l h => put (.one (.vw u p (l0 + l) (h - l))) else none
          | _ => none
        | _, _ => none
    | _, _, _ => none) = some r) (hn : ∀ v w', QOk P g F w put r v w' → next (a.put o.dst v) w') : o.wp P a w next Q := by
  have hx := h.opd x
  split at hr
  case h_2 => cases hr
  rename_i lo' hi' mx' hlo hhi hmx
  have klo := optInt_ok h hlo
  have khi := optInt_ok h hhi
  have kmx := optInt_ok h hmx
  have exec : ∀ v, (Instr.sliceAt t (a.eval x) (lo.map a.eval) (hi.map a.eval) (mx.map a.eval)).run P w = .ok v w → (execOp a.eval o).run P w = .ok (.value v) w := fun v hv =>
    exec_v (x := Instr.sliceAt t (a.eval x) (lo.map a.eval) (hi.map a.eval) (mx.map a.eval)) (by simp only [execOp, ho]) hv
  split at hr
  · -- the full form, empty
    cases hr
  · -- two indexes
    rcases kmx with ⟨rfl, _⟩ | ⟨_, _, _, _, hq, _⟩
    case inr => cases hq
    split at hr
    · -- a string
      rename_i b hk hp
      rw [hp] at hx
      obtain ⟨l, _, h4⟩ := hx
      have ht := (hE.ty t _ hk).2
      obtain ⟨l, u, hr, hlu, hul, e1, e2, e3, e4⟩ := bnds_some hr
      have hb := run_bounds (P := P) (w := w) (a := a) false hlu hul (Nat.le_refl _) klo khi e1 e2 e3 e4
      refine wp_val (exec (.string (b.extract l u)) ?_) (hn _ _ (QOk.one hr (str_ok _)))
      simp only [Option.map_none, Instr.sliceAt, Sem.run_bind, run_underlying ht, Result.andThen_ok, Instr.slice, h4, valOf, Option.isSome_none, Bool.false_eq_true, if_false, hb, Sem.run_pure, Sem.run_ite]
    · -- a slice that is only read
      rename_i k0 k xs hk hp
      rw [hp] at hx
      obtain ⟨⟨⟨q, c⟩, lf⟩, h1, h4⟩ := hx
      by_cases hck : k = k0
      case neg => rw [if_neg hck] at hr; cases hr
      rw [if_pos hck] at hr
      subst hck
      obtain ⟨l, u, hr, hlu, hul, e1, e2, e3, e4⟩ := bnds_some hr
      have hs := h1 (by intro h; cases h)
      have hrun := run_sliceSl (P := P) (w := w) (a := a) (hE.ty t _ hk) (q := q) hlu hul hs.1.1 klo khi e1 e2 e3 e4
      have hlen : ((xs.drop l).take (u - l)).length = u - l := by simp; omega
      refine wp_val (exec _ (by rw [h4]; exact hrun)) (hn _ _ (QOk.one hr ⟨((if c = l then q else mv q (l * k.size), c - l), fun i => lf (l + i)), ?_, by simp only [valOf, hlen]⟩))
      have hc : xs.length ≤ c := hs.1.1
      refine satV.s (sat_sub (by intro h; cases h) h1.V (by omega) (by omega) (by simp only; omega) (fun h0 => ?_) (fun h0 => ?_))
      · rw [if_neg (by omega)]
      · by_cases hcl : c = l
        · omega
        · rw [if_neg hcl] at h0
          have : q = none := by cases q <;> simp [mv] at h0 ⊢
          have := hs.1.2.1 this
          simp only at this
          omega
    · -- nil
      rename_i hk hp
      rw [hp] at hx
      obtain ⟨q, h4, h5⟩ := hx
      obtain ⟨l, u, hr, hlu, hul, e1, e2, e3, e4⟩ := bnds_some hr
      have hrun := run_sliceSl (P := P) (w := w) (a := a) (hE.ty t _ hk) (q := q) hlu hul (Nat.le_refl _) klo khi e1 e2 e3 e4
      have hl0 : l = 0 := by omega
      have hu0 : u = 0 := by omega
      subst hl0; subst hu0
      exact wp_val (exec _ (by rw [h4]; exact hrun)) (hn _ _ (QOk.one hr ⟨_, rfl, h5⟩))
    · -- an owned slice
      rename_i k0 u0 p hk hp
      rw [hp] at hx
      obtain ⟨z, c, h1, h2, h4⟩ := hx
      simp only [St.read, h.rootTo h1, GR.rt] at hr
      rw [gat_at h2] at hr
      dsimp only [GC.ct] at hr
      obtain ⟨ck, cm, cx, cl, cb⟩ := c
      cases ck <;> dsimp only at hr <;> first | (cases hr; done) | skip
      rename_i k
      by_cases hck : k = k0 ∧ cm ≠ .d
      case neg => rw [if_neg hck] at hr; cases hr
      rw [if_pos hck] at hr
      obtain ⟨rfl, hmd⟩ := hck
      obtain ⟨l, u, hr, hlu, hul, e1, e2, e3, e4⟩ := bnds_some hr
      obtain ⟨⟨q, c⟩, lf⟩ := cl
      have hs := gat_sat h2 (h.sat u0 z h1) hmd
      have hc : cx.length ≤ c := hs.1.1
      have hrun := run_sliceSl (P := P) (w := w) (a := a) (hE.ty t _ hk) (q := q) hlu hul hc klo khi e1 e2 e3 e4
      refine wp_val (exec _ (by rw [h4]; exact hrun)) (hn _ _ (QOk.one hr ⟨z, k, cm, cx, ((q, c), lf), cb, h1, h2, by omega, _, _, rfl, by omega, by simp only; omega, fun h0 => ?_, fun h0 => ?_, fun h0 => ?_⟩))
      · rw [if_neg (by omega)]
      · by_cases hcl : c = l
        · omega
        · rw [if_neg hcl] at h0
          have : q = none := by cases q <;> simp [mv] at h0 ⊢
          have := hs.1.2.1 this
          simp only at this
          omega
      · subst h0
        refine ⟨?_, by simp⟩
        simp only [Nat.zero_mul]
        split
        · rfl
        · cases q <;> simp [mv]
    · -- a part of an owned slice
      rename_i k0 u0 p l0 n0 hk hp
      rw [hp] at hx
      obtain ⟨z, k, cm, cx, ⟨⟨q, c⟩, lf⟩, cb, h1, h2, h3, ad, cap, h4, h5, h6, h7, h8⟩ := hx
      simp only [St.read, h.rootTo h1, GR.rt] at hr
      rw [gat_at h2] at hr
      dsimp only [GC.ct] at hr
      by_cases hck : k = k0
      case neg => rw [if_neg hck] at hr; cases hr
      rw [if_pos hck] at hr
      subst hck
      obtain ⟨l, u, hr, hlu, hul, e1, e2, e3, e4⟩ := bnds_some hr
      have hrun := run_sliceSl (P := P) (w := w) (a := a) (hE.ty t _ hk) (q := ad) hlu hul h5 klo khi e1 e2 e3 e4
      simp only at h6 h7
      refine wp_val (exec _ (by rw [h4]; exact hrun)) (hn _ _ (QOk.one hr ⟨z, k, cm, cx, ((q, c), lf), cb, h1, h2, by omega, _, _, rfl, by omega, by simp only; omega, fun h0 => ?_, fun h0 => ?_, fun h0 => ?_⟩))
      · rw [if_neg (by omega), h7 (by omega)]
        cases q <;> simp [mv, Nat.add_mul, Nat.add_assoc]
      · by_cases hcl : cap = l
        · omega
        · rw [if_neg hcl] at h0
          have : ad = none := by cases ad <;> simp [mv] at h0 ⊢
          have := h8.1 this
          omega
      · have hl0 : l = 0 := by omega
        subst hl0
        obtain ⟨z1, z2⟩ := h8.2 (by omega)
        simp only at z1 z2
        refine ⟨?_, by simp only; omega⟩
        simp only [Nat.zero_mul]
        rw [← z1]
        split
        · rfl
        · cases ad <;> simp [mv]
    · cases hr
end
end Go.Proofs.YthlnjkcpdkjipaaDoor.Ev

/- Quiet operations: built-ins and calls that read alone. -/
namespace Go.Proofs.YthlnjkcpdkjipaaDoor.Ev
section
variable {P : Program} {X : Cx} {N : Nat} {a : Act} {s : St} {g : Gs} {F : Nat → Prop} {ow : Nat → Option Nat} {w : World} {R : Type} {r : R} {E : Env}
  {o : Oper} {next : Act → World → Prop} {Q : Exit → Act → World → Prop} {put : PV → Option R}
inductive PcsOk (P : Program) (g : Gs) (F : Nat → Prop) (w : World) : List Pc → List Value → Prop
  | nil : PcsOk P g F w [] []
  | cons {c : Pc} {v : Value} {cs : List Pc} {vs : List Value} : PcOk P g F w c v → PcsOk P g F w cs vs → PcsOk P g F w (c :: cs) (v :: vs)
theorem mkp_clear {a b : Mk} (h1 : a.clear = true) (h2 : b.clear = true) : (Mk.mkp a b).clear = true := by
  cases a <;> cases b <;> simp_all [Mk.mkp, Mk.clear]
theorem capsOf_ok {w' : World} {F' : Nat → Prop} (hF : ∀ b, F b → F' b) (hw : ∀ b, F b → w'.heap[b]? = w.heap[b]?) : ∀ {ins : List Pm} {cs : List Pc} {vs : List Value} {y : Ps ins}, PcsOk P g F w cs vs → capsOf ins cs = some y →
    ∃ l : PL ins, ArgsOk P w' F' ins y l vs ∧ argFp ins y l = [] ∧ argBs ins l = []
  | [], [], _, y, h, _ => by cases h; exact ⟨(), rfl, rfl, rfl⟩
  | .rp k :: ps, .sp k' x :: cs, _, y, h, hy => by
    cases h with
    | cons hc hcs =>
      simp only [capsOf] at hy
      split at hy
      case isFalse => cases hy
      rename_i hk
      subst hk
      cases hr : capsOf ps cs with
      | none => rw [hr] at hy; cases hy
      | some z =>
        rw [hr] at hy
        injection hy with hy
        subst hy
        obtain ⟨l, h1, h2, h3⟩ := capsOf_ok hF hw hcs hr
        obtain ⟨lk, b, o, q1, q2, q3, q4⟩ := hc
        exact ⟨((lk, (b, o)), l), ⟨_, _, rfl, ⟨sat_s_frame q1 hw hF, hF b q2, q3.frame (hw b q2), q4⟩, h1⟩, h2, h3⟩
theorem fvOf_ok {w' : World} {F' : Nat → Prop} (hF : ∀ b, F b → F' b) (hw : ∀ b, F b → w'.heap[b]? = w.heap[b]?) : ∀ {ins : List Pm} {cs : List Pc} {vs : List Value} {q : (i : List K) × (Ts i → Ps ins)}, PcsOk P g F w cs vs → fvOf ins cs = some q →
    ∀ (x : Ts q.1) (l : L (tsK q.1)), sat w' F' (tsK q.1) .s x l → ∃ l' : PL ins, ArgsOk P w' F' ins (q.2 x) l' (tsVals q.1 x l ++ vs) ∧ argFp ins (q.2 x) l' = [] ∧ argBs ins l' = [] := by
  have base : ∀ {ins : List Pm} {cs : List Pc} {vs : List Value} {q : (i : List K) × (Ts i → Ps ins)}, PcsOk P g F w cs vs → (match capsOf ins cs with | some y => some (⟨[], fun _ => y⟩ : (i : List K) × (Ts i → Ps ins)) | none => none) = some q →
      ∀ (x : Ts q.1) (l : L (tsK q.1)), sat w' F' (tsK q.1) .s x l → ∃ l' : PL ins, ArgsOk P w' F' ins (q.2 x) l' (tsVals q.1 x l ++ vs) ∧ argFp ins (q.2 x) l' = [] ∧ argBs ins l' = [] := by
    intro ins cs vs q h hq x l hs
    cases hc : capsOf ins cs with
    | none => rw [hc] at hq; cases hq
    | some y =>
      rw [hc] at hq
      injection hq with hq
      subst hq
      exact capsOf_ok hF hw h hc
  intro ins
  induction ins with
  | nil => intro cs vs q h hq; exact base h hq
  | cons p ps ih =>
    intro cs vs q h hq
    cases p with
    | val k =>
      simp only [fvOf] at hq
      cases hr : fvOf ps cs with
      | none => rw [hr] at hq; cases hq
      | some z =>
        rw [hr] at hq
        injection hq with hq
        subst hq
        intro x l hs
        obtain ⟨l', h1, h2, h3⟩ := ih h hr x.2 l.2 hs.2
        exact ⟨(l.1, l'), ⟨_, _, rfl, hs.1, rfl, h1⟩, h2, h3⟩
    | mov k m => exact base h hq
    | mptr k m => exact base h hq
    | chg k m => exact base h hq
    | fn i o => exact base h hq
    | rp k => exact base h hq
theorem fvWord_ok {f : Nat} {sg : Sig} (hS : Sound P f sg) {cs : List Pc} {vs : List Value} (h : PcsOk P g F w cs vs) : PcOk P g F w (fvWord sg cs) (.func (.func f) #[] vs.toArray) := by
  obtain ⟨ins, res, fn⟩ := sg
  match res, fn, hS with
  | [], fn, hS => trivial
  | q :: q2 :: rs, fn, hS => trivial
  | [(k, m)], fn, hS =>
    simp only [fvWord]
    cases hm : m.clear with
    | false => trivial
    | true =>
      simp only [cond_true]
      cases hq : fvOf ins cs with
      | none => trivial
      | some q =>
        dsimp only
        refine ⟨f, vs.toArray, rfl, hS.1, ?_⟩
        intro F' w' hF hw hlt x l r hs hr
        dsimp only at hr
        cases hrr : fn (q.2 x) with
        | none => rw [hrr] at hr; cases hr
        | some rr =>
        rw [hrr] at hr
        injection hr with hr
        subst hr
        obtain ⟨l', h1, h2, h3⟩ := fvOf_ok hF hw h hq x l hs
        have hc := hS.2 (q.2 x) rr hrr w' F' l' _ h1 (by rw [h2, h3]; simp) (by rw [h2, h3]; simp) hlt (fun y hy => by rw [h3] at hy; cases hy)
        rw [show (tsVals q.1 x l).toArray ++ vs.toArray = (tsVals q.1 x l ++ vs).toArray by simp]
        refine hc.mono fun e w'' he => ?_
        obtain ⟨F2, lr, lo, rfl, Lf⟩ := he
        refine ⟨F2, lr, rfl, ⟨Lf.size, fun b hb => Lf.old b hb (by rw [h2]; simp) (by rw [h3]; simp), Lf.os, Lf.tape, Lf.out⟩, Lf.le, fun b hb => ?_, ?_⟩
        · rcases Lf.new b hb with hb | hb | hb
          · exact .inl hb
          · exact .inr hb
          · rw [h2] at hb; cases hb
        · exact sat_clear (mkp_clear hm rfl) Lf.res
theorem Rel.opdE (h : Rel P X N s g F ow a.tmps w) (hE : EnvOk P E) (x : Operand) : PcOk P g F w (opdE E s x) (a.eval x) := by
  cases x with
  | func f =>
    simp only [Ev.opdE]
    cases hf : E.fns f with
    | none => trivial
    | some sg => exact fvWord_ok (hE.fns f sg hf) .nil
  | tmp t => exact h.opd (.tmp t)
  | const v => exact h.opd (.const v)
  | global n => exact h.opd (.global n)
theorem Rel.opds (h : Rel P X N s g F ow a.tmps w) (hE : EnvOk P E) (xs : Array Operand) : PcsOk P g F w (opds E s xs) (xs.toList.map a.eval) := by
  unfold Ev.opds
  induction xs.toList with
  | nil => exact .nil
  | cons x l ih => exact .cons (h.opdE hE x) ih
theorem lenOf_ok (h : Rel P X N s g F ow a.tmps w) {c : Pc} {v : Value} (hc : PcOk P g F w c v) {str : Bool} {kk : Int → Option R} (hr : lenOf str s c kk = some r) :
    ∃ n : Int, kk n = some r ∧ ((str = true ∧ ∃ b, v = .string b ∧ n = b.size) ∨ (str = false ∧ ∃ q m cp, v = .slice q m cp ∧ n = m)) := by
  have key : ∀ (c : Pc), PcOk P g F w c v → cond str none (s.read c fun ct => match ct with
      | ⟨.sl _, _, xs⟩ => kk xs.length
      | _ => none) = some r → ∃ n : Int, kk n = some r ∧ ((str = true ∧ ∃ b, v = .string b ∧ n = b.size) ∨ (str = false ∧ ∃ q m cp, v = .slice q m cp ∧ n = m)) := by
    intro c hc hr
    cases str with
    | true => cases hr
    | false =>
    obtain ⟨k, m, xs, l, q1, q2, q3, q4⟩ := read_ok h hc hr
    cases k <;> dsimp only at q1 <;> first | (cases q1; done) | skip
    exact ⟨_, q1, .inr ⟨rfl, _, _, _, q3, rfl⟩⟩
  cases c with
  | v k x =>
    cases k with
    | str =>
      obtain ⟨l, _, h4⟩ := hc
      cases str with
      | false => cases hr
      | true => exact ⟨_, hr, .inl ⟨rfl, _, h4, rfl⟩⟩
    | _ => exact key _ hc hr
  | al => exact key _ hc hr
  | vw t p lo n =>
    obtain ⟨q, k, m, xs, l, b, h1, h2, h3, ad, cap, h4, _⟩ := hc
    cases str with
    | true => cases hr
    | false => exact ⟨_, hr, .inr ⟨rfl, _, _, _, h4, rfl⟩⟩
  | ptr => exact key _ hc hr
  | sp => exact key _ hc hr
  | nil0 =>
    obtain ⟨q, h4, _⟩ := hc
    cases str with
    | true => cases hr
    | false => exact ⟨_, hr, .inr ⟨rfl, _, _, _, h4, rfl⟩⟩
  | fv => exact key _ hc hr
  | bad => exact key _ hc hr
  | unk => exact key _ hc hr
theorem minmax_ok {c d : Pc} {u v : Value} (hc : PcOk P g F w c u) (hd : PcOk P g F w d v) {mx : Bool} {kk : Pc → Option R} (hr : minmax mx c d kk = some r) :
    ∃ e z, kk e = some r ∧ PcOk P g F w e z ∧ ((if mx then Builtin.max2 u v else Builtin.min2 u v).run P w = .ok z w) := by
  unfold minmax at hr
  split at hr
  · rename_i k x k' y
    obtain ⟨l, _, rfl⟩ := hc
    obtain ⟨l', _, rfl⟩ := hd
    split at hr
    case isFalse => cases hr
    rename_i hk
    subst hk
    cases mx with
    | true => exact ⟨_, _, hr, int_ok _ _, by simp [valOf, Builtin.max2]⟩
    | false => exact ⟨_, _, hr, int_ok _ _, by simp [valOf, Builtin.min2]⟩
  · rename_i x y
    obtain ⟨l, _, rfl⟩ := hc
    obtain ⟨l', _, rfl⟩ := hd
    cases mx with
    | true =>
      refine ⟨_, _, hr, str_ok _, ?_⟩
      simp only [valOf, if_true, Builtin.max2, Op.stringOp, Sem.run_bind, Sem.run_pure, Result.andThen_ok, Go.asBool, cond_true]
      cases Op.bytesLess x.toList y.toList <;> rfl
    | false =>
      refine ⟨_, _, hr, str_ok _, ?_⟩
      simp only [valOf, Bool.false_eq_true, if_false, Builtin.min2, Op.stringOp, Sem.run_bind, Sem.run_pure, Result.andThen_ok, Go.asBool, cond_false]
      cases (Op.bytesLess x.toList y.toList || x.toList == y.toList) <;> rfl
  · cases hr
theorem minmaxs_ok {mx : Bool} : ∀ {cs : List Pc} {vs : List Value} {c : Pc} {u : Value}, PcsOk P g F w cs vs → PcOk P g F w c u → ∀ {kk : Pc → Option R}, minmaxs mx c cs kk = some r →
    ∃ e z, kk e = some r ∧ PcOk P g F w e z ∧ (vs.foldlM (if mx then Builtin.max2 else Builtin.min2) u).run P w = .ok z w
  | [], _, c, u, h1, h2, kk, hr => by
    cases h1
    exact ⟨c, u, hr, h2, rfl⟩
  | d :: cs, _, c, u, h1, h2, kk, hr => by
    cases h1 with
    | cons hd hcs =>
      simp only [minmaxs] at hr
      obtain ⟨e, z, q1, q2, q3⟩ := minmax_ok h2 hd hr
      obtain ⟨e2, z2, p1, p2, p3⟩ := minmaxs_ok hcs q2 q1
      refine ⟨e2, z2, p1, p2, ?_⟩
      rw [List.foldlM_cons, Sem.run_bind]
      rename_i v0 vs0
      have : ((if mx then Builtin.max2 else Builtin.min2) u v0).run P w = .ok z w := by cases mx <;> simpa using q3
      rw [this]
      exact p3
theorem exec_builtin {c : Call} {b : Builtin} (ho : o.op = .call c) (hb : c.callee = .builtin b) :
    execOp a.eval o = builtin b c.argTypes o.type (c.args.map fun | .const _ => true | _ => false) (c.args.map a.eval) := by
  simp only [execOp, ho, resolve, hb]
  rfl
theorem q_len (h : Rel P X N s g F ow a.tmps w) (hE : EnvOk P E) {c : Call} {x : Pc} (ho : o.op = .call c) (hb : c.callee = .builtin .len) (hx : opds E s c.args = [x])
    (hr : (match lenTy E c.argTypes with
        | some str => lenOf str s x fun n => put (.one (.v (.int .i64) n))
        | none => none) = some r) (hn : ∀ v w', QOk P g F w put r v w' → next (a.put o.dst v) w') : o.wp P a w next Q := by
  have hargs := h.opds hE c.args
  rw [hx] at hargs
  cases hv : c.args.toList.map a.eval with
  | nil => rw [hv] at hargs; cases hargs
  | cons v vs =>
  rw [hv] at hargs
  cases hargs with
  | cons h1 h2 =>
  cases h2
  split at hr
  case h_2 => cases hr
  rename_i str hl
  obtain ⟨n, q1, q2⟩ := lenOf_ok h h1 hr
  unfold lenTy at hl
  have ha : c.args.map a.eval = #[v] := by
    apply Array.ext'
    simpa using hv
  split at hl
  case h_2 => cases hl
  rename_i t ht
  have hE' := hE.ty t
  split at hl
  · rename_i hk
    injection hl with hl
    subst hl
    have hu := (hE' _ hk).2
    rcases q2 with ⟨_, b, rfl, rfl⟩ | ⟨hf, _⟩
    · exact wp_val (v := .int .i64 b.size) (by rw [exec_builtin ho hb, ha]; simp [builtin, Builtin.len_, ht, run_underlying hu, goInt]) (hn _ _ (QOk.one q1 (int_ok _ _)))
    · cases hf
  · rename_i k hk
    injection hl with hl
    subst hl
    obtain ⟨_, e, hu, _⟩ := hE' _ hk
    rcases q2 with ⟨hf, _⟩ | ⟨_, q, m, cp, rfl, rfl⟩
    · cases hf
    · exact wp_val (v := .int .i64 m) (by rw [exec_builtin ho hb, ha]; simp [builtin, Builtin.len_, ht, run_underlying hu, goInt]) (hn _ _ (QOk.one q1 (int_ok _ _)))
  · cases hl
theorem q_minmax (h : Rel P X N s g F ow a.tmps w) (hE : EnvOk P E) {c : Call} {x : Pc} {xs : List Pc} (mx : Bool) (ho : o.op = .call c) (hb : c.callee = .builtin (if mx then .max else .min)) (hx : opds E s c.args = x :: xs)
    (hr : minmaxs mx x xs (fun c => put (.one c)) = some r) (hn : ∀ v w', QOk P g F w put r v w' → next (a.put o.dst v) w') : o.wp P a w next Q := by
  have hargs := h.opds hE c.args
  rw [hx] at hargs
  cases hv : c.args.toList.map a.eval with
  | nil => rw [hv] at hargs; cases hargs
  | cons v vs =>
  rw [hv] at hargs
  cases hargs with
  | cons h1 h2 =>
  obtain ⟨e, z, q1, q2, q3⟩ := minmaxs_ok h2 h1 hr
  have ha : (c.args.map a.eval).toList = v :: vs := by simpa using hv
  refine wp_val (v := z) ?_ (hn _ _ (QOk.one q1 q2))
  rw [exec_builtin ho hb]
  cases mx with
  | true => simp only [if_true, builtin, Builtin.max_, ha] at q3 ⊢; simp [q3]
  | false => simp only [Bool.false_eq_true, if_false, builtin, Builtin.min_, ha] at q3 ⊢; simp [q3]
theorem readPs_ok (h : Rel P X N s g F ow a.tmps w) {F' : Nat → Prop} (hF : ∀ b, F b → F' b) : ∀ {ins : List Pm} {cs : List Pc} {vs : List Value}, PcsOk P g F w cs vs → (∀ c ∈ cs, ∀ b, lent ow c b → F' b) →
    ∀ {kk : Ps ins → Option R}, readPs ins s cs kk = some r → ∃ (x : Ps ins) (l : PL ins), kk x = some r ∧ ArgsOk P w F' ins x l vs ∧ argFp ins x l = [] ∧ argBs ins l = []
  | [], _, _, h1, _, kk, hr => by
    cases h1 with
    | nil => exact ⟨(), (), hr, rfl, rfl, rfl⟩
    | cons => cases hr
  | .val k :: ps, _, _, h1, hl, kk, hr => by
    cases h1 with
    | nil => cases hr
    | cons hc hcs =>
      simp only [readPs] at hr
      obtain ⟨x, l, q1, q2, q3⟩ := readK_ok h hc hr
      obtain ⟨xs, ls, p1, p2, p3, p4⟩ := readPs_ok h hF hcs (fun c hc => hl c (List.mem_cons_of_mem _ hc)) q1
      exact ⟨(x, xs), (l, ls), p1, ⟨_, _, rfl, sat_s_frame q2 (fun _ _ => rfl) (fun b hb => hb.elim (hF b) (hl _ (List.mem_cons_self) b)), q3, p2⟩, p3, p4⟩
  | .fn i o :: ps, _, _, h1, hl, kk, hr => by
    cases h1 with
    | nil => cases hr
    | cons hc hcs =>
      simp only [readPs] at hr
      split at hr
      · rename_i i' o' f
        split at hr
        case isFalse => cases hr
        rename_i hio
        obtain ⟨rfl, rfl⟩ := hio
        obtain ⟨xs, ls, p1, p2, p3, p4⟩ := readPs_ok h hF hcs (fun c hc => hl c (List.mem_cons_of_mem _ hc)) hr
        exact ⟨(f, xs), ls, p1, ⟨_, _, rfl, FnOk.frame hc (fun _ _ => rfl) hF, p2⟩, p3, p4⟩
      · cases hr
  | .rp k :: ps, _, _, h1, hl, kk, hr => by
    cases h1 with
    | nil => cases hr
    | cons hc hcs =>
      simp only [readPs] at hr
      split at hr
      · rename_i k' x
        split at hr
        case isFalse => cases hr
        rename_i hk
        subst hk
        obtain ⟨xs, ls, p1, p2, p3, p4⟩ := readPs_ok h hF hcs (fun c hc => hl c (List.mem_cons_of_mem _ hc)) hr
        obtain ⟨lk, b, o, q1, q2, q3, q4⟩ := hc
        exact ⟨(x, xs), ((lk, (b, o)), ls), p1, ⟨_, _, rfl, ⟨sat_s_frame q1 (fun _ _ => rfl) hF, hF b q2, q3, q4⟩, p2⟩, p3, p4⟩
      · cases hr
  | .mov k m :: ps, _, _, h1, hl, kk, hr => by cases h1 <;> cases hr
  | .mptr k m :: ps, _, _, h1, hl, kk, hr => by cases h1 <;> cases hr
  | .chg k m :: ps, _, _, h1, hl, kk, hr => by cases h1 <;> cases hr
theorem sat_flat : ∀ {k : K} {m : Mk} {x : T k} {l : L k}, k.flat = true → sat w F k m x l
  | .int _, _, _, _, _ | .bool, _, _, _, _ | .str, _, _, _, _ | .unit, _, _, _, _ => trivial
  | .pair a b, m, x, l, h => by
    simp only [K.flat, Bool.and_eq_true] at h
    exact ⟨sat_flat h.1, sat_flat h.2⟩
theorem full_clear_flat : ∀ {k : K}, (Mk.full k).clear = true → k.flat = true
  | .int _, _ | .bool, _ | .str, _ | .unit, _ => rfl
  | .sl k, h => by cases h
  | .pair a b, h => by
    have h1 : (Mk.full a).clear = true ∧ (Mk.full b).clear = true := by
      simp only [Mk.full] at h
      cases ha : Mk.full a <;> cases hb : Mk.full b <;> rw [ha, hb] at h <;> simp_all [Mk.mkp, Mk.clear]
    simp [K.flat, full_clear_flat h1.1, full_clear_flat h1.2]
theorem resK_flat : ∀ {rs : List (K × Mk)}, fullRes rs = true → allClear rs = true → (resK rs).flat = true
  | [], _, _ => rfl
  | q :: rs, h1, h2 => by
    simp only [fullRes, allClear, Bool.and_eq_true, decide_eq_true_eq] at h1 h2
    simp only [resK, K.flat, Bool.and_eq_true]
    exact ⟨full_clear_flat (by rw [← h1.1]; exact h2.1), resK_flat h1.2 h2.2⟩
theorem resM_clear : ∀ {rs : List (K × Mk)}, allClear rs = true → (resM rs).clear = true
  | [], _ => rfl
  | q :: rs, h => by
    simp only [allClear, Bool.and_eq_true] at h
    exact mkp_clear h.1 (resM_clear h.2)
theorem resPcs_ok : ∀ (rs : List (K × Mk)) (d : Nat) (x : Rs rs) (l : L (resK rs)) (p : List Stp → List Stp), allClear rs = true → sat w F (resK rs) .s x l →
    (resPcs d rs x p).length = (resVals rs x l).length ∧ ∀ (i : Nat) (c : Pc) (u : Value), (resPcs d rs x p)[i]? = some c → (resVals rs x l)[i]? = some u → PcOk P g F w c u
  | [], _, _, _, _, _, _ => ⟨rfl, fun i c u h => by simp [resPcs] at h⟩
  | q :: rs, d, x, l, p, hc, hs => by
    simp only [allClear, Bool.and_eq_true] at hc
    obtain ⟨h1, h2⟩ := resPcs_ok rs d x.2 l.2 (fun q => p (.snd :: q)) hc.2 hs.2
    refine ⟨by simp [resPcs, resVals, h1], fun i c u hi hu => ?_⟩
    cases i with
    | zero =>
      simp only [resPcs, resVals, hc.1, cond_true, List.getElem?_cons_zero, Option.some.injEq] at hi hu
      subst hi; subst hu
      exact ⟨l.1, hs.1, rfl⟩
    | succ i =>
      simp only [resPcs, resVals, List.getElem?_cons_succ] at hi hu
      exact h2 i c u hi hu
theorem clearPV_ok (rs : List (K × Mk)) (x : Rs rs) (l : L (resK rs)) (hc : allClear rs = true) (hs : sat w F (resK rs) .s x l) : PvOk P g F w (clearPV rs x) (resVal rs x l) := by
  match rs, x, l, hc, hs with
  | [], x, l, hc, hs => exact ⟨[], rfl, rfl, fun i c u h => by change ([] : List Pc)[i]? = some c at h; simp at h⟩
  | [q], x, l, hc, hs => exact ⟨l.1, hs.1, rfl⟩
  | q :: q2 :: rs, x, l, hc, hs =>
    obtain ⟨h1, h2⟩ := resPcs_ok (P := P) (g := g) (q :: q2 :: rs) 0 x l id hc hs
    exact ⟨resVals (q :: q2 :: rs) x l, rfl, h1.symm, h2⟩
theorem exec_call {c : Call} {f : Nat} (ho : o.op = .call c) (hc : c.callee = .value (.func f)) (hf : ∃ fn, P.funcs[f]? = some fn ∧ fn.body.isSome ∧ fn.name ≠ "runtime.NumGoroutine") :
    (execOp a.eval o).run P w = .ok (.enter f (c.args.map a.eval)) w := by
  obtain ⟨fn, h1, h2, h3⟩ := hf
  obtain ⟨b, hb⟩ : ∃ b, fn.body = some b := Option.isSome_iff_exists.1 h2
  simp [execOp, ho, resolve, hc, Act.eval, Deferred.ofValue, invoke, callFunc, h1, h3, hb]
theorem args_list (c : Call) : (c.args.toList.map a.eval).toArray = c.args.map a.eval := by
  apply Array.ext'
  simp
theorem noTags_ok {cs : List Pc} (h : noTags cs = true) : ∀ c ∈ cs, ∀ b, ¬ lent ow c b := by
  intro c hc b
  rintro ⟨t, h1, _⟩
  have := List.all_eq_true.1 h c hc
  rw [h1] at this
  cases this
theorem q_call (h : Rel P X N s g F ow a.tmps w) (hE : EnvOk P E) {c : Call} {f : Nat} {sg : Sig} (ho : o.op = .call c) (hc : c.callee = .value (.func f)) (hsg : E.fns f = some sg) (hq : sg.quiet = true)
    (hr : cond (fullRes sg.res || noTags (opds E s c.args)) (readPs sg.ins s (opds E s c.args) fun xs => bnd (sg.fn xs) fun r => put (clearPV sg.res r.1)) none = some r)
    (hn : ∀ v w', QOk P g F w put r v w' → next (a.put o.dst v) w') : o.wp P a w next Q := by
  cases hl : (fullRes sg.res || noTags (opds E s c.args)) with
  | false => rw [hl] at hr; cases hr
  | true =>
  rw [hl] at hr
  simp only [cond_true] at hr
  simp only [Sig.quiet, Bool.and_eq_true] at hq
  obtain ⟨hrd, hcl⟩ := hq
  have hargs := h.opds hE c.args
  -- what is fixed during the call
  obtain ⟨xs, ls, q1, q2, q3, q4⟩ := readPs_ok h (F' := fun b => F b ∨ ∃ c' ∈ opds E s c.args, lent ow c' b) (fun b hb => .inl hb) hargs (fun c' hc' b hb => .inr ⟨c', hc', hb⟩) hr
  have hS := hE.fns f sg hsg
  unfold bnd at q1
  split at q1
  case h_2 => cases q1
  rename_i rr hrr
  have hlt : ∀ b, (F b ∨ ∃ c' ∈ opds E s c.args, lent ow c' b) → b < w.heap.size := by
    rintro b (hb | ⟨c', _, t, _, hb⟩)
    · exact (h.hF b hb).2
    · exact h.lt b t hb
  have hcalls := hS.2 xs rr hrr w _ ls _ q2 (by rw [q3, q4]; simp) (by rw [q3, q4]; simp) hlt (fun q hq => by rw [q4] at hq; cases hq)
  rw [args_list] at hcalls
  simp only [Oper.wp, exec_call ho hc hS.1, Oper.upon]
  refine hcalls.mono fun e w' he => ?_
  obtain ⟨F', lr, lo, rfl, L⟩ := he
  · refine hn _ _ ⟨_, fun b => F b ∨ (w.heap.size ≤ b ∧ b < w'.heap.size), q1, ⟨L.size, fun b hb => L.old b hb (by rw [q3]; simp) (by rw [q4]; simp), L.os, L.tape, L.out⟩, fun b hb => .inl hb, fun b hb => hb, ?_⟩
    refine clearPV_ok sg.res rr.1 lr hcl ?_
    have hs := sat_clear (resM_clear hcl) L.res
    by_cases hf : fullRes sg.res = true
    · exact sat_flat (resK_flat hf hcl)
    · have hnt : noTags (opds E s c.args) = true := by simpa [hf] using hl
      refine sat_s_frame hs (fun _ _ => rfl) fun b hb => ?_
      rcases L.new b hb with hb | hb | hb
      · rcases hb with hb | ⟨c', hc', hb⟩
        · exact .inl hb
        · exact absurd hb (noTags_ok hnt c' hc' b)
      · exact .inr hb
      · rw [q3] at hb; cases hb
theorem readTs_ok (h : Rel P X N s g F ow a.tmps w) {F' : Nat → Prop} (hF : ∀ b, F b → F' b) : ∀ {ks : List K} {cs : List Pc} {vs : List Value}, PcsOk P g F w cs vs → (∀ c ∈ cs, ∀ b, lent ow c b → F' b) →
    ∀ {kk : Ts ks → Option R}, readTs ks s cs kk = some r → ∃ (x : Ts ks) (l : L (tsK ks)), kk x = some r ∧ sat w F' (tsK ks) .s x l ∧ vs = tsVals ks x l
  | [], _, _, h1, _, kk, hr => by
    cases h1 with
    | nil => exact ⟨(), (), hr, trivial, rfl⟩
    | cons => cases hr
  | k :: ks, _, _, h1, hl, kk, hr => by
    cases h1 with
    | nil => cases hr
    | cons hc hcs =>
      simp only [readTs] at hr
      obtain ⟨x, l, q1, q2, q3⟩ := readK_ok h hc hr
      obtain ⟨xs, ls, p1, p2, p3⟩ := readTs_ok h hF hcs (fun c hc => hl c (List.mem_cons_of_mem _ hc)) q1
      exact ⟨(x, xs), (l, ls), p1, ⟨sat_s_frame q2 (fun _ _ => rfl) (fun b hb => hb.elim (hF b) (hl _ (List.mem_cons_self) b)), p2⟩, by simp only [tsVals, ← p3, ← q3]⟩
theorem q_fv (h : Rel P X N s g F ow a.tmps w) (hE : EnvOk P E) {c : Call} {f : Operand} {i : List K} {k : K} {fn : Ts i → Option (Ts [k])} (ho : o.op = .call c) (hc : c.callee = .value f) (hf : s.opd f = .fv i [k] fn)
    (hr : cond (k.flat || noTags (opds E s c.args)) (readTs i s (opds E s c.args) fun xs => bnd (fn xs) fun r => put (.one (.v k r.1))) none = some r)
    (hn : ∀ v w', QOk P g F w put r v w' → next (a.put o.dst v) w') : o.wp P a w next Q := by
  cases hl : (k.flat || noTags (opds E s c.args)) with
  | false => rw [hl] at hr; cases hr
  | true =>
  rw [hl] at hr
  simp only [cond_true] at hr
  have hargs := h.opds hE c.args
  have hfo := h.opd f
  rw [hf] at hfo
  obtain ⟨q, caps, v1, ⟨fd, d1, d2, d3⟩, v3⟩ := hfo
  obtain ⟨xs, ls, q1, q2, q3⟩ := readTs_ok h (F' := fun b => F b ∨ ∃ c' ∈ opds E s c.args, lent ow c' b) (fun b hb => .inl hb) hargs (fun c' hc' b hb => .inr ⟨c', hc', hb⟩) hr
  unfold bnd at q1
  split at q1
  case h_2 => cases q1
  rename_i rr hrr
  have hlt : ∀ b, (F b ∨ ∃ c' ∈ opds E s c.args, lent ow c' b) → b < w.heap.size := by
    rintro b (hb | ⟨c', _, t, _, hb⟩)
    · exact (h.hF b hb).2
    · exact h.lt b t hb
  have hcalls := v3 _ w (fun b hb => .inl hb) (fun _ _ => rfl) hlt xs ls rr q2 hrr
  rw [← q3, args_list] at hcalls
  obtain ⟨bd, hbd⟩ : ∃ b, fd.body = some b := Option.isSome_iff_exists.1 d2
  have he : (execOp a.eval o).run P w = .ok (.enter q (c.args.map a.eval ++ caps)) w := by
    simp [execOp, ho, resolve, hc, v1, Deferred.ofValue, invoke, callFunc, d1, d3, hbd]
  simp only [Oper.wp, he, Oper.upon]
  refine hcalls.mono fun e w' he => ?_
  obtain ⟨F', l, rfl, e1, e2, e3, e4⟩ := he
  · refine hn _ _ ⟨_, fun b => F b ∨ (w.heap.size ≤ b ∧ b < w'.heap.size), q1, e1, fun b hb => .inl hb, fun b hb => hb, ?_⟩
    refine ⟨l.1, ?_, rfl⟩
    by_cases hfl : k.flat = true
    · exact sat_flat hfl
    · have hnt : noTags (opds E s c.args) = true := by simpa [hfl] using hl
      refine sat_s_frame e4.1 (fun _ _ => rfl) fun b hb => ?_
      rcases e3 b hb with hb | hb
      · rcases hb with hb | ⟨c', hc', hb⟩
        · exact .inl hb
        · exact absurd hb (noTags_ok hnt c' hc' b)
      · exact .inr hb
theorem emptyOf_ok (h : Rel P X N s g F ow a.tmps w) {c : Pc} {v : Value} (hc : PcOk P g F w c v) {kk : Bool → Option R} (hr : emptyOf s c kk = some r) :
    ∃ (e : Bool) (q : Option Addr) (n cp : Nat), kk e = some r ∧ v = .slice q n cp ∧ (e = false → q.isSome = true) := by
  have key : ∀ (c : Pc), PcOk P g F w c v → (s.read c fun ct => match ct with
      | ⟨.sl _, m, xs⟩ => if m = .d then none else kk (Nat.beq xs.length 0)
      | _ => none) = some r → ∃ (e : Bool) (q : Option Addr) (n cp : Nat), kk e = some r ∧ v = .slice q n cp ∧ (e = false → q.isSome = true) := by
    intro c hc hr
    obtain ⟨k, m, xs, l, q1, q2, q3, q4⟩ := read_ok h hc hr
    cases k <;> dsimp only at q1 <;> first | (cases q1; done) | skip
    rename_i k
    split at q1
    · cases q1
    rename_i hm
    refine ⟨_, _, _, _, q1, q3, fun he => ?_⟩
    have hlen : List.length (α := T k) xs ≠ 0 := by
      intro h0
      rw [h0] at he
      cases he
    obtain ⟨⟨h1, h2, _⟩, _⟩ := q2 hm
    cases hl : l.1.1 with
    | none => have := h2 hl; omega
    | some z => rfl
  cases c with
  | nil0 =>
    obtain ⟨q, h4, _⟩ := hc
    exact ⟨_, _, _, _, hr, h4, fun he => by cases he⟩
  | vw t p lo n =>
    obtain ⟨q, k, m, xs, l, b, h1, h2, h3, ad, cap, h4, h5, _, _, h8, _⟩ := hc
    refine ⟨_, _, _, _, hr, h4, fun he => ?_⟩
    cases had : ad with
    | none =>
      have := h8 had
      have h0 : n = 0 := by omega
      rw [h0] at he
      cases he
    | some z => rfl
  | v k x => exact key _ hc hr
  | al => exact key _ hc hr
  | ptr => exact key _ hc hr
  | sp => exact key _ hc hr
  | fv => exact key _ hc hr
  | bad => exact key _ hc hr
  | unk => exact key _ hc hr
theorem run_equalIn_nil0 (w : World) (d : Nat) (t e : TypeId) (q : Option Addr) (n c : Nat) (h : P.underlying t = some (.slice e)) :
    (Op.equalIn (d + 1) t (.slice q n c) (.slice none 0 0)).run P w = .ok q.isNone w := by
  cases q <;> simp [Op.equalIn, run_underlying h]
theorem run_equal_nil0 (w : World) (t e : TypeId) (q : Option Addr) (n c : Nat) (h : P.underlying t = some (.slice e)) :
    (Op.equal t (.slice q n c) (.slice none 0 0)).run P w = .ok q.isNone w := run_equalIn_nil0 w 9999 t e q n c h
theorem q_nilTest (h : Rel P X N s g F ow a.tmps w) (hE : EnvOk P E) {op : BinOp} {t u : Nat} {x : Operand} {k : K} (ho : o.op = .binOp op t x (.const (.slice none 0 0)) u) (hk : E.ty t = some (.sl k))
    (hr : nilTest s op (s.opd x) (fun c => put (.one c)) = some r) (hn : ∀ v w', QOk P g F w put r v w' → next (a.put o.dst v) w') : o.wp P a w next Q := by
  obtain ⟨_, e, hu, he⟩ := hE.ty t _ hk
  have hx := h.opd x
  have gd : ∀ (q : Option Addr) (n cp : Nat), (eqGuard op t x (.const (.slice none 0 0)) (.slice q n cp) (.slice none 0 0)).run P w = .ok () w := fun q n cp =>
    eqGuard_ok _ _ _ _ _ _ (fun ⟨_, _, h, _⟩ => by cases h) (fun h => by cases h.1)
  have heq : ∀ (q : Option Addr) (n cp : Nat), (binOp .eql t (.slice q n cp) (.slice none 0 0)).run P w = .ok (.bool q.isNone) w := by
    intro q n cp
    simp only [binOp]
    simp [run_equal_nil0 w t e q n cp hu]
  have hne : ∀ (q : Option Addr) (n cp : Nat), (binOp .neq t (.slice q n cp) (.slice none 0 0)).run P w = .ok (.bool (!q.isNone)) w := by
    intro q n cp
    simp only [binOp]
    simp [run_equal_nil0 w t e q n cp hu]
  unfold nilTest at hr
  split at hr
  · obtain ⟨b, q, n, cp, q1, q2, q3⟩ := emptyOf_ok h hx hr
    have hrun : (do eqGuard .eql t x (.const (.slice none 0 0)) (a.eval x) (a.eval (.const (.slice none 0 0))); binOp .eql t (a.eval x) (a.eval (.const (.slice none 0 0)))).run P w = .ok (.bool q.isNone) w := by
      rw [q2]
      show (do eqGuard .eql t x (.const (.slice none 0 0)) (.slice q n cp) (.slice none 0 0); binOp .eql t (.slice q n cp) (.slice none 0 0)).run P w = _
      rw [Sem.run_bind, gd, Result.andThen_ok, heq]
    refine wp_val (exec_v (by simp only [execOp, ho]) hrun) (hn _ _ ?_)
    cases b with
    | true => exact QOk.one q1 ⟨_, rfl⟩
    | false =>
      refine QOk.one q1 ?_
      have : q.isNone = false := by have := q3 rfl; cases q <;> simp_all
      rw [this]
      exact bool_ok _
  · obtain ⟨b, q, n, cp, q1, q2, q3⟩ := emptyOf_ok h hx hr
    have hrun : (do eqGuard .neq t x (.const (.slice none 0 0)) (a.eval x) (a.eval (.const (.slice none 0 0))); binOp .neq t (a.eval x) (a.eval (.const (.slice none 0 0)))).run P w = .ok (.bool (!q.isNone)) w := by
      rw [q2]
      show (do eqGuard .neq t x (.const (.slice none 0 0)) (.slice q n cp) (.slice none 0 0); binOp .neq t (.slice q n cp) (.slice none 0 0)).run P w = _
      rw [Sem.run_bind, gd, Result.andThen_ok, hne]
    refine wp_val (exec_v (by simp only [execOp, ho]) hrun) (hn _ _ ?_)
    cases b with
    | true => exact QOk.one q1 ⟨_, rfl⟩
    | false =>
      refine QOk.one q1 ?_
      have : q.isNone = false := by have := q3 rfl; cases q <;> simp_all
      rw [this]
      exact bool_ok _
  · cases hr
theorem ext_push (w : World) (ob : Obj) : Ext w { w with heap := w.heap.push ob } :=
  ⟨by simp, fun b hb => by simp [Array.getElem?_push, Nat.ne_of_lt hb], rfl, rfl, OutLe.rfl⟩
theorem q_nil (h : Rel P X N s g F ow a.tmps w) (hE : EnvOk P E) {t : Nat} {ps : Array (Nat × Operand)} (ho : o.op = .buildSlice t 0 ps)
    (hr : (match E.ty t with
    | some (.sl _) => cond (Nat.beq ps.size 0) (put (.one .nil0)) none
    | _ => none) = some r) (hn : ∀ v w', QOk P g F w put r v w' → next (a.put o.dst v) w') : o.wp P a w next Q := by
  split at hr
  case h_2 => cases hr
  rename_i k hk
  obtain ⟨_, e, hu, he⟩ := hE.ty t _ hk
  cases hb : Nat.beq ps.size 0 with
  | false => rw [hb] at hr; cases hr
  | true =>
  rw [hb] at hr
  have hps : ps = #[] := Array.eq_empty_of_size_eq_zero (Nat.eq_of_beq_eq_true hb)
  subst hps
  have hrun : (Instr.buildSlice t 0 #[]).run P w = .ok (.slice (some ⟨w.heap.size, 0, none⟩) 0 0) { w with heap := w.heap.push (.cells #[] e) } := by
    simp [Instr.buildSlice, run_underlying hu, run_sizeK he, Instr.fill, newRow]
    congr 2
    apply Array.ext <;> simp
  have hex : (execOp a.eval o).run P w = .ok (.value (.slice (some ⟨w.heap.size, 0, none⟩) 0 0)) { w with heap := w.heap.push (.cells #[] e) } := by
    simp [execOp, ho, hrun]
  simp only [Oper.wp, hex, Oper.upon]
  refine hn _ _ ⟨_, fun b => F b ∨ b = w.heap.size, hr, ext_push w _, fun _ h => .inl h, fun b hb => hb.imp id (fun e => ⟨by omega, by subst e; simp⟩), ⟨some (w.heap.size, 0), rfl, fun b o e => ?_⟩⟩
  simp only [Option.some.injEq, Prod.mk.injEq] at e
  obtain ⟨rfl, rfl⟩ := e
  exact ⟨.inr rfl, #[], e, (0, 0), by simp, by simp, Nat.le_refl _, rfl⟩
theorem evQ_ok (h : Rel P X N s g F ow a.tmps w) (hE : EnvOk P E) (hb : ∀ t ps, o.op ≠ .build t ps) (hq : quiet E s o = true) (hr : evQ E s o put = some r)
    (hn : ∀ v w', QOk P g F w put r v w' → next (a.put o.dst v) w') : o.wp P a w next Q := by
  unfold evQ at hr
  unfold quiet at hq
  split at hr <;> rename_i ho <;> first | (cases hr; done) | skip
  · exact q_move h (.inl ho) hr hn
  · rename_i x hx
    refine q_move h (.inl ho) ?_ hn
    cases x with
    | tmp t => exact absurd rfl (hx t)
    | const v => exact hr
    | global v => exact hr
    | func v => exact hr
  · exact q_move h (.inr ho) hr hn
  · rename_i x hx
    refine q_move h (.inr ho) ?_ hn
    cases x with
    | tmp t => exact absurd rfl (hx t)
    | const v => exact hr
    | global v => exact hr
    | func v => exact hr
  · exact q_pick h ho hr hn
  · -- buildSlice of nothing
    rename_i t n ps
    rw [ho] at hq
    simp only at hq
    have hn0 : n = 0 := Nat.eq_of_beq_eq_true hq
    subst hn0
    exact q_nil h hE ho hr hn
  · exact absurd ho (hb _ _)
  · exact q_load h hE ho hr hn
  · exact q_nilCheck h ho hr hn
  · split at hr
    · rename_i hy
      split at hr
      · rename_i k hk
        exact q_nilTest h hE ho hk hr hn
      · cases hr
    · exact q_binOp h hE ho hr hn
  · exact q_unOp h ho hr hn
  · exact q_convert h hE ho hr hn
  · exact q_slice h hE ho hr hn
  · exact q_fieldAddr h hE ho hr hn
  · exact q_field h hE ho hr hn
  · exact q_indexAddr h hE ho hr hn
  · exact q_index h hE ho hr hn
  · exact q_extract h ho hr hn
  · rename_i c
    rw [ho] at hq
    simp only at hq
    split at hr
    · rename_i b hb
      split at hr
      · rename_i x hx
        exact q_len h hE ho hb hx hr hn
      · rename_i x xs hx
        exact q_minmax h hE false ho (by simpa using hb) hx hr hn
      · rename_i x xs hx
        exact q_minmax h hE true ho (by simpa using hb) hx hr hn
      · cases hr
    · rename_i f hf
      rw [hf] at hq
      simp only at hq
      split at hr
      · rename_i sg hsg
        rw [hsg] at hq
        exact q_call h hE ho hf hsg hq hr hn
      · cases hr
    · rename_i f hff hf
      split at hr
      · rename_i i k fn hfv
        exact q_fv h hE ho hf hfv hr hn
      · cases hr
    · cases hr
end
end Go.Proofs.YthlnjkcpdkjipaaDoor.Ev

/- What another content at a place leaves alone; words that may be stale. -/
namespace Go.Proofs.YthlnjkcpdkjipaaDoor.Ev
structure GX where
  k : K
  x : T k
  l : L k
  b : Option (Nat × Nat)
def gatx : (k : K) → T k → L k → Option (Nat × Nat) → List Stp → Option GX
  | k, x, l, b, [] => some ⟨k, x, l, b⟩
  | .pair a _, x, l, b, .fst :: p => gatx a x.1 l.1 b p
  | .pair a c, x, l, b, .snd :: p => gatx c x.2 l.2 (mv b a.size) p
  | .sl k, xs, l, _, .el i :: p => match xs[i]? with
    | some x => gatx k x (l.2 i) (mv l.1.1 (i * k.size)) p
    | none => none
  | _, _, _, _, _ :: _ => none
theorem gat_gatx : ∀ {p : List Stp} {k : K} {m : Mk} {x : T k} {l : L k} {b : Option (Nat × Nat)} {c : GC}, gat k m x l b p = some c → gatx k x l b p = some ⟨c.k, c.x, c.l, c.b⟩
  | [], k, m, x, l, b, c, h => by simp [gat] at h; subst h; simp [gatx]
  | s :: p, k, m, x, l, b, c, h => by
    cases k <;> cases s <;> simp only [gat, gatx] at h ⊢ <;> first | (cases h; done) | skip
    · exact gat_gatx h
    · exact gat_gatx h
    · split at h
      · cases h
      · split at h
        · rename_i hx; first | exact gat_gatx h | (rw [hx]; exact gat_gatx h)
        · cases h
theorem gat_cong : ∀ {p : List Stp} {k : K} {m m' : Mk} {x : T k} {l : L k} {b : Option (Nat × Nat)} {c : GC}, hasEl p = false → gat k m x l b p = some c →
    ∀ (x' : T k) (l' : L k), ∃ c', gat k m' x' l' b p = some c' ∧ c'.k = c.k ∧ c'.b = c.b
  | [], k, m, m', x, l, b, c, _, h, x', l' => by simp [gat] at h; subst h; exact ⟨⟨k, m', x', l', b⟩, by simp [gat], rfl, rfl⟩
  | s :: p, k, m, m', x, l, b, c, hp, h, x', l' => by
    cases k <;> cases s <;> simp only [gat] at h ⊢ <;> first | (cases h; done) | skip
    · exact gat_cong (by simpa [hasEl] using hp) h x'.1 l'.1
    · exact gat_cong (by simpa [hasEl] using hp) h x'.2 l'.2
    · simp [hasEl] at hp
theorem vals_sl {k : K} {xs ys : List (T k)} {l l' : L (.sl k)} (h : xs.length = ys.length) (h' : l.1 = l'.1) : vals (.sl k) xs l = vals (.sl k) ys l' := by
  simp only [vals, h, h']
theorem gset_vals : ∀ {q : List Stp} {k : K} {m : Mk} {x : T k} {l : L k} {c : Ct} {l' : L c.k} {m' : Mk} {x' : T k} {l2 : L k}, gset k m x l q c l' = some (m', x', l2) → hasEl q = true → vals k x' l2 = vals k x l
  | [], k, m, x, l, c, l', m', x', l2, h, hq => by cases hq
  | s :: q, k, m, x, l, c, l', m', x', l2, h, hq => by
    cases k <;> cases s <;> simp only [gset] at h <;> first | (cases h; done) | skip
    · cases hg : gset _ m.l x.1 l.1 q c l' with
      | none => rw [hg] at h; cases h
      | some y =>
        rw [hg] at h
        simp only [Option.map_some, Option.some.injEq, Prod.mk.injEq] at h
        obtain ⟨_, rfl, rfl⟩ := h
        simp only [vals]
        rw [gset_vals (m' := y.1) (x' := y.2.1) (l2 := y.2.2) hg (by simpa [hasEl] using hq)]
    · cases hg : gset _ m.r x.2 l.2 q c l' with
      | none => rw [hg] at h; cases h
      | some y =>
        rw [hg] at h
        simp only [Option.map_some, Option.some.injEq, Prod.mk.injEq] at h
        obtain ⟨_, rfl, rfl⟩ := h
        simp only [vals]
        rw [gset_vals (m' := y.1) (x' := y.2.1) (l2 := y.2.2) hg (by simpa [hasEl] using hq)]
    · rename_i k i
      cases hx : x[i]? with
      | none => rw [hx] at h; cases h
      | some z =>
        rw [hx] at h
        simp only at h
        cases hg : gset k m.inner z (l.2 i) q c l' with
        | none => rw [hg] at h; cases h
        | some y =>
          rw [hg] at h
          simp only at h
          split at h
          · simp only [Option.some.injEq, Prod.mk.injEq] at h
            obtain ⟨_, rfl, rfl⟩ := h
            exact vals_sl (by simp) rfl
          · cases h
theorem valOf_of_vals {k : K} {x y : T k} {l l' : L k} (h : vals k x l = vals k y l') : valOf k x l = valOf k y l' := by
  cases k <;> simp only [vals, valOf] at h ⊢ <;> first | rfl | simpa using h | (rw [h])
theorem getElem?_set_self' {α : Type} {xs : List α} {i : Nat} {x y : α} (h : xs[i]? = some x) : (xs.set i y)[i]? = some y := by
  rw [List.getElem?_set_self (List.getElem?_eq_some_iff.1 h).1]
theorem hit_cons (ptr : Bool) (q p : List Stp) :
    hit ptr (.fst :: q) (.fst :: p) = hit ptr q p ∧ hit ptr (.snd :: q) (.snd :: p) = hit ptr q p ∧ (∀ i j, hit ptr (.el i :: q) (.el j :: p) = hit ptr q p) := by
  refine ⟨?_, ?_, fun i j => ?_⟩ <;> simp [hit]
theorem hit_nil_al (p : List Stp) : hit false [] p = true := by cases p <;> simp [hit]
theorem hit_nil_ptr (p : List Stp) : hit true [] p = hasEl p := by cases p <;> simp [hit, hasEl]
theorem hit_al_nil (q : List Stp) (h : q ≠ []) : hit false q [] = !hasEl q := by cases q <;> simp [hit, hasEl] at h ⊢
theorem hit_al : ∀ {q p : List Stp} {k : K} {m : Mk} {x : T k} {l : L k} {b : Option (Nat × Nat)} {c : Ct} {l' : L c.k} {m' : Mk} {x' : T k} {l2 : L k} {z : GC},
    gset k m x l q c l' = some (m', x', l2) → gat k m x l b p = some z → hit false q p = false →
    ∃ m2 x2 l3, gat k m' x' l2 b p = some ⟨z.k, m2, x2, l3, z.b⟩ ∧ vals z.k x2 l3 = vals z.k z.x z.l
  | [], p, _, _, _, _, _, _, _, _, _, _, _, _, _, hh => by rw [hit_nil_al] at hh; cases hh
  | s :: q, [], k, m, x, l, b, c, l', m', x', l2, z, hs, hg, hh => by
    rw [hit_al_nil _ (by simp)] at hh
    simp [gat] at hg
    subst hg
    exact ⟨m', x', l2, by simp [gat], gset_vals hs (by simpa using hh)⟩
  | s :: q, u :: p, k, m, x, l, b, c, l', m', x', l2, z, hs, hg, hh => by
    cases k <;> cases s <;> simp only [gset] at hs <;> first | (cases hs; done) | skip
    · rename_i ka kb
      cases hy : gset ka m.l x.1 l.1 q c l' with
      | none => rw [hy] at hs; cases hs
      | some y =>
        rw [hy] at hs
        simp only [Option.map_some, Option.some.injEq, Prod.mk.injEq] at hs
        obtain ⟨rfl, rfl, rfl⟩ := hs
        cases u with
        | fst =>
          simp only [gat, Mk.mkp_l] at hg ⊢
          exact hit_al (m' := y.1) (x' := y.2.1) (l2 := y.2.2) hy hg (by rwa [(hit_cons false q p).1] at hh)
        | snd =>
          simp only [gat, Mk.mkp_r] at hg ⊢
          exact ⟨z.m, z.x, z.l, hg, rfl⟩
        | el j => simp [gat] at hg
    · rename_i ka kb
      cases hy : gset kb m.r x.2 l.2 q c l' with
      | none => rw [hy] at hs; cases hs
      | some y =>
        rw [hy] at hs
        simp only [Option.map_some, Option.some.injEq, Prod.mk.injEq] at hs
        obtain ⟨rfl, rfl, rfl⟩ := hs
        cases u with
        | fst =>
          simp only [gat, Mk.mkp_l] at hg ⊢
          exact ⟨z.m, z.x, z.l, hg, rfl⟩
        | snd =>
          simp only [gat, Mk.mkp_r] at hg ⊢
          exact hit_al (m' := y.1) (x' := y.2.1) (l2 := y.2.2) hy hg (by rwa [(hit_cons false q p).2.1] at hh)
        | el j => simp [gat] at hg
    · rename_i k i
      cases hx : x[i]? with
      | none => rw [hx] at hs; cases hs
      | some e =>
        rw [hx] at hs
        simp only at hs
        cases hy : gset k m.inner e (l.2 i) q c l' with
        | none => rw [hy] at hs; cases hs
        | some y =>
          rw [hy] at hs
          simp only at hs
          split at hs
          case isFalse => cases hs
          rename_i hcond
          simp only [Option.some.injEq, Prod.mk.injEq] at hs
          obtain ⟨rfl, rfl, rfl⟩ := hs
          cases u with
          | fst => simp [gat] at hg
          | snd => simp [gat] at hg
          | el j =>
            simp only [gat] at hg ⊢
            split at hg
            · cases hg
            rename_i hmd
            rw [if_neg hmd]
            by_cases hij : j = i
            · subst hij
              rw [hx] at hg
              simp only at hg
              rw [getElem?_set_self' hx]
              simp only [if_true]
              have hyy : gset k m.inner e (l.2 j) q c l' = some (m.inner, y.2.1, y.2.2) := by rw [hy, ← hcond.1]
              exact hit_al hyy hg (by rwa [(hit_cons false q p).2.2] at hh)
            · rw [List.getElem?_set_ne (Ne.symm hij)]
              cases hxj : x[j]? with
              | none => rw [hxj] at hg; cases hg
              | some f =>
                rw [hxj] at hg
                simp only [if_neg hij] at hg ⊢
                exact ⟨z.m, z.x, z.l, hg, rfl⟩
theorem hit_ptr : ∀ {q p : List Stp} {k : K} {m : Mk} {x : T k} {l : L k} {b : Option (Nat × Nat)} {c : Ct} {l' : L c.k} {m' : Mk} {x' : T k} {l2 : L k} {z : GC},
    gset k m x l q c l' = some (m', x', l2) → gat k m x l b p = some z → hit true q p = false →
    ∃ z', gat k m' x' l2 b p = some z' ∧ z'.b = z.b
  | [], p, k, m, x, l, b, c, l', m', x', l2, z, hs, hg, hh => by
    rw [hit_nil_ptr] at hh
    obtain ⟨z', h1, _, h3⟩ := gat_cong (m' := m') hh hg x' l2
    exact ⟨z', h1, h3⟩
  | s :: q, [], k, m, x, l, b, c, l', m', x', l2, z, hs, hg, hh => by
    simp [gat] at hg
    subst hg
    exact ⟨⟨k, m', x', l2, b⟩, by simp [gat], rfl⟩
  | s :: q, u :: p, k, m, x, l, b, c, l', m', x', l2, z, hs, hg, hh => by
    cases k <;> cases s <;> simp only [gset] at hs <;> first | (cases hs; done) | skip
    · rename_i ka kb
      cases hy : gset ka m.l x.1 l.1 q c l' with
      | none => rw [hy] at hs; cases hs
      | some y =>
        rw [hy] at hs
        simp only [Option.map_some, Option.some.injEq, Prod.mk.injEq] at hs
        obtain ⟨rfl, rfl, rfl⟩ := hs
        cases u with
        | fst =>
          simp only [gat, Mk.mkp_l] at hg ⊢
          exact hit_ptr (m' := y.1) (x' := y.2.1) (l2 := y.2.2) hy hg (by rwa [(hit_cons true q p).1] at hh)
        | snd =>
          simp only [gat, Mk.mkp_r] at hg ⊢
          exact ⟨z, hg, rfl⟩
        | el j => simp [gat] at hg
    · rename_i ka kb
      cases hy : gset kb m.r x.2 l.2 q c l' with
      | none => rw [hy] at hs; cases hs
      | some y =>
        rw [hy] at hs
        simp only [Option.map_some, Option.some.injEq, Prod.mk.injEq] at hs
        obtain ⟨rfl, rfl, rfl⟩ := hs
        cases u with
        | fst =>
          simp only [gat, Mk.mkp_l] at hg ⊢
          exact ⟨z, hg, rfl⟩
        | snd =>
          simp only [gat, Mk.mkp_r] at hg ⊢
          exact hit_ptr (m' := y.1) (x' := y.2.1) (l2 := y.2.2) hy hg (by rwa [(hit_cons true q p).2.1] at hh)
        | el j => simp [gat] at hg
    · rename_i k i
      cases hx : x[i]? with
      | none => rw [hx] at hs; cases hs
      | some e =>
        rw [hx] at hs
        simp only at hs
        cases hy : gset k m.inner e (l.2 i) q c l' with
        | none => rw [hy] at hs; cases hs
        | some y =>
          rw [hy] at hs
          simp only at hs
          split at hs
          case isFalse => cases hs
          rename_i hcond
          simp only [Option.some.injEq, Prod.mk.injEq] at hs
          obtain ⟨rfl, rfl, rfl⟩ := hs
          cases u with
          | fst => simp [gat] at hg
          | snd => simp [gat] at hg
          | el j =>
            simp only [gat] at hg ⊢
            split at hg
            · cases hg
            rename_i hmd
            rw [if_neg hmd]
            by_cases hij : j = i
            · subst hij
              rw [hx] at hg
              simp only at hg
              rw [getElem?_set_self' hx]
              simp only [if_true]
              have hyy : gset k m.inner e (l.2 j) q c l' = some (m.inner, y.2.1, y.2.2) := by rw [hy, ← hcond.1]
              exact hit_ptr hyy hg (by rwa [(hit_cons true q p).2.2] at hh)
            · rw [List.getElem?_set_ne (Ne.symm hij)]
              cases hxj : x[j]? with
              | none => rw [hxj] at hg; cases hg
              | some f =>
                rw [hxj] at hg
                simp only [if_neg hij] at hg ⊢
                exact ⟨z, hg, rfl⟩
def GR.atx (r : GR) (p : List Stp) : Option GX := gatx r.k r.x r.l r.b p
def PcW (P : Program) (g : Gs) (F : Nat → Prop) (w : World) : Pc → Value → Prop
  | .al t p, v => ∀ r c, g t = some r → r.atx p = some c → v = valOf c.k c.x c.l
  | .vw t p lo n, v => ∀ r k xs l b, g t = some r → r.atx p = some ⟨.sl k, xs, l, b⟩ → lo + n ≤ xs.length ∧
      ∃ a cap, v = .slice (adr a) n cap ∧ n ≤ cap ∧ lo + cap ≤ l.1.2 ∧ (cap ≠ 0 → a = mv l.1.1 (lo * k.size)) ∧ (a = none → cap = 0) ∧ (lo = 0 → a = l.1.1 ∧ cap = l.1.2)
  | .ptr t p, v => ∀ r c, g t = some r → r.atx p = some c → ∃ q, c.b = some q ∧ v = .pointer (adr (some q))
  | c, v => PcOk P g F w c v
def Up (g g' : Gs) : Prop := ∀ t r', g' t = some r' → ∃ r, g t = some r ∧ ∃ (hk : r'.k = r.k), HEq r'.x r.x ∧ HEq r'.l r.l ∧ r'.b = r.b ∧ r'.mem = r.mem
section
variable {P : Program} {X : Cx} {N : Nat} {a : Act} {s : St} {g : Gs} {F : Nat → Prop} {ow : Nat → Option Nat} {w : World} {R : Type} {r : R}
theorem PcOk.weak {c : Pc} {v : Value} (h : PcOk P g F w c v) : PcW P g F w c v := by
  cases c with
  | al t p =>
    obtain ⟨q, c, h1, h2, h3⟩ := h
    intro q' c' e1 e2
    rw [h1] at e1; injection e1 with e1; subst e1
    have := gat_gatx h2
    simp only [GR.atx] at e2
    rw [this] at e2
    injection e2 with e2
    subst e2
    exact h3
  | vw t p lo n =>
    obtain ⟨q, k, m, xs, l, b, h1, h2, h3, h4⟩ := h
    intro q' k' xs' l' b' e1 e2
    rw [h1] at e1; injection e1 with e1; subst e1
    have := gat_gatx h2
    simp only [GR.atx] at e2
    rw [this] at e2
    simp only [Option.some.injEq, GX.mk.injEq, K.sl.injEq] at e2
    obtain ⟨rfl, e3, e4, rfl⟩ := e2
    cases eq_of_heq e3
    cases eq_of_heq e4
    exact ⟨h3, h4⟩
  | ptr t p =>
    obtain ⟨q, c, z, h1, h2, h3, h4⟩ := h
    intro q' c' e1 e2
    rw [h1] at e1; injection e1 with e1; subst e1
    have := gat_gatx h2
    simp only [GR.atx] at e2
    rw [this] at e2
    injection e2 with e2
    subst e2
    exact ⟨z, h3, h4⟩
  | v k x => exact h
  | sp k x => exact h
  | nil0 => exact h
  | fv i o f => exact h
  | bad => trivial
  | unk => exact h
theorem Up.refl (g : Gs) : Up g g := fun _ r' h => ⟨r', h, rfl, HEq.rfl, HEq.rfl, rfl, rfl⟩
theorem Up.trans {g1 g2 g3 : Gs} (h : Up g1 g2) (h' : Up g2 g3) : Up g1 g3 := by
  intro t r' hr
  obtain ⟨r, h1, h2, h3, h4, h5, h6⟩ := h' t r' hr
  obtain ⟨q, k1, k2, k3, k4, k5, k6⟩ := h t r h1
  exact ⟨q, k1, h2.trans k2, h3.trans k3, h4.trans k4, h5.trans k5, h6.trans k6⟩
theorem PcW.up {g' : Gs} {c : Pc} {v : Value} (h : PcW P g F w c v) (hu : Up g g') : PcW P g' F w c v := by
  have key : ∀ (t : Nat) (p : List Stp) (r' : GR) (z : GX), g' t = some r' → r'.atx p = some z → ∃ r, g t = some r ∧ r.atx p = some z := by
    intro t p r' z h1 h2
    obtain ⟨r, q1, q2, q3, q4, q5, _⟩ := hu t r' h1
    refine ⟨r, q1, ?_⟩
    obtain ⟨k, m, x, mem, tmp, l, b⟩ := r
    obtain ⟨k', m', x', mem', tmp', l', b'⟩ := r'
    simp only at q2
    subst q2
    cases eq_of_heq q3
    cases eq_of_heq q4
    simp only at q5
    subst q5
    exact h2
  cases c with
  | al t p => intro r' z h1 h2; obtain ⟨r, q1, q2⟩ := key t p r' z h1 h2; exact h r z q1 q2
  | vw t p lo n => intro r' k xs l b h1 h2; obtain ⟨r, q1, q2⟩ := key t p r' _ h1 h2; exact h r k xs l b q1 q2
  | ptr t p => intro r' z h1 h2; obtain ⟨r, q1, q2⟩ := key t p r' z h1 h2; exact h r z q1 q2
  | v k x => exact h
  | sp k x => exact h
  | nil0 => exact h
  | fv i o f => exact h
  | bad => trivial
  | unk => exact h
inductive PcsW (P : Program) (g : Gs) (F : Nat → Prop) (w : World) : List Pc → List Value → Prop
  | nil : PcsW P g F w [] []
  | cons {c : Pc} {v : Value} {cs : List Pc} {vs : List Value} : PcW P g F w c v → PcsW P g F w cs vs → PcsW P g F w (c :: cs) (v :: vs)
theorem PcsOk.weak : ∀ {cs : List Pc} {vs : List Value}, PcsOk P g F w cs vs → PcsW P g F w cs vs
  | _, _, .nil => .nil
  | _, _, .cons h hs => .cons h.weak (PcsOk.weak hs)
theorem PcsW.up {g' : Gs} (hu : Up g g') : ∀ {cs : List Pc} {vs : List Value}, PcsW P g F w cs vs → PcsW P g' F w cs vs
  | _, _, .nil => .nil
  | _, _, .cons h hs => .cons (h.up hu) (PcsW.up hu hs)
end
end Go.Proofs.YthlnjkcpdkjipaaDoor.Ev

/- States that change: roots that go, come, get another name or content. -/
namespace Go.Proofs.YthlnjkcpdkjipaaDoor.Ev
section
variable {P : Program} {X : Cx} {N : Nat} {a : Act} {s : St} {g : Gs} {F : Nat → Prop} {ow : Nat → Option Nat} {w : World} {R : Type} {r : R} {tm : Array Value}
theorem read_okW (h : Rel P X N s g F ow tm w) {c : Pc} {v : Value} {kk : Ct → Option R} (hc : PcW P g F w c v) (hr : s.read c kk = some r) :
    ∃ (k : K) (m : Mk) (x : T k) (l : L k), kk ⟨k, m, x⟩ = some r ∧ satV w F k m x l ∧ v = valOf k x l ∧ (∀ b ∈ fp k m x l, lent ow c b) := by
  cases c with
  | v k x => exact read_ok h (c := .v k x) hc hr
  | al t p =>
    have hr' := hr
    simp only [St.read] at hr
    split at hr
    case h_2 => cases hr
    rename_i rt hrt
    obtain ⟨q, hg, rfl⟩ := h.rootOf hrt
    obtain ⟨c, h2, _⟩ := at_some hr q.l q.b
    exact read_ok h (c := .al t p) ⟨q, c, hg, h2, hc q _ hg (gat_gatx h2)⟩ hr'
  | vw t p lo n =>
    have hr' := hr
    simp only [St.read] at hr
    split at hr
    case h_2 => cases hr
    rename_i rt hrt
    obtain ⟨q, hg, rfl⟩ := h.rootOf hrt
    obtain ⟨⟨ck, cm, cx, cl, cb⟩, h2, h3⟩ := at_some hr q.l q.b
    cases ck <;> dsimp only at h3 <;> first | (cases h3; done) | skip
    obtain ⟨h4, h5⟩ := hc q _ _ _ _ hg (gat_gatx h2)
    exact read_ok h (c := .vw t p lo n) ⟨q, _, _, _, _, _, hg, h2, h4, h5⟩ hr'
  | ptr => cases hr
  | sp => cases hr
  | nil0 => cases hr
  | fv => cases hr
  | bad => cases hr
  | unk => cases hr
theorem readK_okW (h : Rel P X N s g F ow tm w) {c : Pc} {v : Value} {k : K} {kk : T k → Option R} (hc : PcW P g F w c v) (hr : s.readK c k kk = some r) :
    ∃ (x : T k) (l : L k), kk x = some r ∧ sat w (fun b => F b ∨ lent ow c b) k .s x l ∧ v = valOf k x l := by
  have key : ∀ (c : Pc), PcW P g F w c v → (s.read c fun c => if h : c.k = k then (if c.m.whole then kk (h ▸ c.x) else none) else none) = some r →
      ∃ (x : T k) (l : L k), kk x = some r ∧ sat w (fun b => F b ∨ lent ow c b) k .s x l ∧ v = valOf k x l := by
    intro c hc hr
    obtain ⟨k', m, x, l, h1, h2, h3, h4⟩ := read_okW h hc hr
    simp only at h1
    split at h1
    case isFalse => cases h1
    rename_i hk
    subst hk
    split at h1
    case isFalse => cases h1
    rename_i hw
    exact ⟨x, l, h1, sat_frame (satV_lend hw h2) (fun _ _ => rfl) fun b hb => hb.imp id (h4 b), h3⟩
  cases c with
  | nil0 => exact readK_ok h (c := .nil0) hc hr
  | v => exact key _ hc hr
  | al => exact key _ hc hr
  | vw => exact key _ hc hr
  | ptr => exact key _ hc hr
  | sp => exact key _ hc hr
  | fv => exact key _ hc hr
  | bad => exact key _ hc hr
  | unk => exact key _ hc hr
def Gs.set (g : Gs) (t : Nat) (r : Option GR) : Gs := fun n => if n = t then r else g n
theorem Gs.set_self (g : Gs) (t : Nat) (r : Option GR) : g.set t r t = r := by simp [Gs.set]
theorem Gs.set_ne (g : Gs) {t n : Nat} (r : Option GR) (h : n ≠ t) : g.set t r n = g n := by simp [Gs.set, h]
theorem PvOk.map {g' : Gs} {f : Pc → Pc} {c : PV} {v : Value} (h : PvOk P g F w c v) (hf : ∀ c v, PcOk P g F w c v → PcOk P g' F w (f c) v) : PvOk P g' F w (c.map f) v := by
  cases c with
  | one c => exact hf c v h
  | tup cs =>
    obtain ⟨vs, h1, h2, h3⟩ := h
    refine ⟨vs, h1, by simpa [PV.map] using h2, fun i c u hi hu => ?_⟩
    rw [List.getElem?_map] at hi
    cases hc : cs[i]? with
    | none => rw [hc] at hi; cases hi
    | some c0 =>
      rw [hc] at hi
      simp at hi
      subst hi
      exact hf _ _ (h3 i c0 u hc hu)
theorem PvOk.gs {g' : Gs} {c : PV} {v : Value} (h : PvOk P g F w c v) (hf : ∀ c v, PcOk P g F w c v → PcOk P g' F w c v) : PvOk P g' F w c v := by
  cases c with
  | one c => exact hf c v h
  | tup cs => obtain ⟨vs, h1, h2, h3⟩ := h; exact ⟨vs, h1, h2, fun i c u hi hu => hf _ _ (h3 i c u hi hu)⟩
theorem PcOk.drop {c : Pc} {v : Value} (t : Nat) (h : PcOk P g F w c v) : PcOk P (g.set t none) F w (c.drop t) v := by
  have key : ∀ (u : Nat), u ≠ t → (g.set t none) u = g u := fun u hu => Gs.set_ne g none hu
  cases c with
  | al u p =>
    by_cases hu : u = t
    · subst hu; simp only [Pc.drop, Nat.beq_refl, cond_true]; trivial
    · simp only [Pc.drop, beq_ne hu, cond_false]
      obtain ⟨q, z, h1, h2⟩ := h
      exact ⟨q, z, by rw [key u hu]; exact h1, h2⟩
  | vw u p lo n =>
    by_cases hu : u = t
    · subst hu; simp only [Pc.drop, Nat.beq_refl, cond_true]; trivial
    · simp only [Pc.drop, beq_ne hu, cond_false]
      obtain ⟨q, k, m, xs, l, b, h1, h2⟩ := h
      exact ⟨q, k, m, xs, l, b, by rw [key u hu]; exact h1, h2⟩
  | ptr u p =>
    by_cases hu : u = t
    · subst hu; simp only [Pc.drop, Nat.beq_refl, cond_true]; trivial
    · simp only [Pc.drop, beq_ne hu, cond_false]
      obtain ⟨q, z, y, h1, h2⟩ := h
      exact ⟨q, z, y, by rw [key u hu]; exact h1, h2⟩
  | v k x => exact h
  | sp k x => exact h
  | nil0 => exact h
  | fv i o f => exact h
  | bad => trivial
  | unk => exact h
def owDrop (ow : Nat → Option Nat) (t : Nat) : Nat → Option Nat := fun b => if ow b = some t then none else ow b
theorem owDrop_some {t u b : Nat} (h : owDrop ow t b = some u) : ow b = some u ∧ u ≠ t := by
  unfold owDrop at h
  split at h
  · cases h
  · rename_i hn; exact ⟨h, fun e => hn (e ▸ h)⟩
theorem Rel.drop (h : Rel P X N s g F ow tm w) (t : Nat) : Rel P X N (s.drop t) (g.set t none) F (owDrop ow t) tm w where
  root := fun n => by
    by_cases hn : n = t
    · subst hn; simp [St.drop, Gs.set]
    · simp [St.drop, beq_ne hn, Gs.set, hn, h.root n]
  slot := fun n => (h.slot n).map fun c v hc => hc.drop t
  sat := fun n q hq => by
    by_cases hn : n = t
    · subst hn; rw [Gs.set_self] at hq; cases hq
    · rw [Gs.set_ne _ _ hn] at hq; exact h.sat n q hq
  mem := fun n q hq => by
    by_cases hn : n = t
    · subst hn; rw [Gs.set_self] at hq; cases hq
    · rw [Gs.set_ne _ _ hn] at hq; exact h.mem n q hq
  mb := fun n q hq => by
    by_cases hn : n = t
    · subst hn; rw [Gs.set_self] at hq; cases hq
    · rw [Gs.set_ne _ _ hn] at hq; exact h.mb n q hq
  ho := fun n q hq b hb => by
    by_cases hn : n = t
    · subst hn; rw [Gs.set_self] at hq; cases hq
    · rw [Gs.set_ne _ _ hn] at hq
      have := h.ho n q hq b hb
      simp [owDrop, this, hn]
  nd := fun n q hq => by
    by_cases hn : n = t
    · subst hn; rw [Gs.set_self] at hq; cases hq
    · rw [Gs.set_ne _ _ hn] at hq; exact h.nd n q hq
  hF := fun b hb => ⟨by unfold owDrop; split; rfl; exact (h.hF b hb).1, (h.hF b hb).2⟩
  lt := fun b u hb => h.lt b u (owDrop_some hb).1
  own := fun n q hq => by
    by_cases hn : n = t
    · subst hn; rw [Gs.set_self] at hq; cases hq
    · rw [Gs.set_ne _ _ hn] at hq; exact h.own n q hq
  bl := fun n q hq => by
    by_cases hn : n = t
    · subst hn; rw [Gs.set_self] at hq; cases hq
    · rw [Gs.set_ne _ _ hn] at hq; exact h.bl n q hq
  F0 := h.F0
  Fnew := h.Fnew
  kept := h.kept
  size := h.size
  os := h.os
  tape := h.tape
  out := h.out
  sz := h.sz
  big := fun n hn => by simp only [St.drop, h.big n hn, PV.map, Pc.drop]
theorem Rel.slots (h : Rel P X N s g F ow tm w) {σ : Nat → PV} (hs : ∀ n, σ n = s.slot n ∨ (PvOk P g F w (σ n) (tm.getD n undef) ∧ n < N)) : Rel P X N { s with slot := σ } g F ow tm w :=
  { h with
    root := h.root
    slot := fun n => by
      rcases hs n with e | e
      · show PvOk P g F w (σ n) _
        rw [e]; exact h.slot n
      · exact e.1
    big := fun n hn => by
      rcases hs n with e | e
      · exact e.trans (h.big n hn)
      · omega }
def owAdd (ow : Nat → Option Nat) (l : List Nat) (d : Nat) : Nat → Option Nat := fun b => if b ∈ l then some d else ow b
theorem owAdd_mem {l : List Nat} {d b : Nat} (h : b ∈ l) : owAdd ow l d b = some d := by simp [owAdd, h]
theorem owAdd_not {l : List Nat} {d b : Nat} (h : b ∉ l) : owAdd ow l d b = ow b := by simp [owAdd, h]
theorem Rel.setNew (h : Rel P X N s g F ow tm w) {d : Nat} (hd : g d = none) {q : GR} (h1 : Ev.sat w F q.k q.m q.x q.l) (h2 : atBase w q.b (vals q.k q.x q.l)) (h3 : q.mem = q.b.isSome)
    (h4 : q.fp.Nodup) (h5 : ∀ b ∈ q.fp, ow b = none ∧ ¬ F b ∧ b < w.heap.size)
    (h6 : (∀ b ∈ q.fpi, X.free b) ∧ ∀ b o, q.b = some (b, o) → X.free b ∨ ∃ o' n', X.rg b = some (o', n') ∧ o' ≤ o ∧ o + q.k.size ≤ o' + n')
    (h7 : X.lo ≤ d → ∀ b o, q.b = some (b, o) → X.free b := by intro _ b o hb; cases hb) :
    Rel P X N (s.setR d (some q.rt)) (g.set d (some q)) F (owAdd ow q.fp d) tm w := by
  have hne : ∀ n q', g n = some q' → n ≠ d := fun n q' hq e => by rw [e, hd] at hq; cases hq
  have hold : ∀ n q', g n = some q' → ∀ b ∈ q'.fp, b ∉ q.fp := fun n q' hq b hb hb' => by have := h.ho n q' hq b hb; rw [(h5 b hb').1] at this; cases this
  refine { root := fun n => ?_, slot := fun n => (h.slot n).gs fun c v hc => ?_, sat := fun n q' hq => ?_, mem := fun n q' hq => ?_, mb := fun n q' hq => ?_, ho := fun n q' hq b hb => ?_, nd := fun n q' hq => ?_, hF := fun b hb => ?_, lt := fun b u hb => ?_, own := fun n q' hq => ?_, bl := fun n q' hq => ?_, F0 := h.F0, Fnew := h.Fnew, kept := h.kept, size := h.size, os := h.os, tape := h.tape, out := h.out, sz := h.sz, big := h.big }
  · by_cases hn : n = d
    · subst hn; simp [St.setR, Gs.set]
    · simp [St.setR, beq_ne hn, Gs.set, hn, h.root n]
  · cases c with
    | al u p => obtain ⟨q', z, e1, e2⟩ := hc; exact ⟨q', z, by rw [Gs.set_ne _ _ (hne u q' e1)]; exact e1, e2⟩
    | vw u p lo n => obtain ⟨q', k, m, xs, l, b, e1, e2⟩ := hc; exact ⟨q', k, m, xs, l, b, by rw [Gs.set_ne _ _ (hne u q' e1)]; exact e1, e2⟩
    | ptr u p => obtain ⟨q', z, y, e1, e2⟩ := hc; exact ⟨q', z, y, by rw [Gs.set_ne _ _ (hne u q' e1)]; exact e1, e2⟩
    | v k x => exact hc
    | sp k x => exact hc
    | nil0 => exact hc
    | fv i o f => exact hc
    | bad => trivial
    | unk => exact hc
  all_goals
    first
    | (by_cases hn : n = d
       · subst hn
         rw [Gs.set_self] at hq
         injection hq with hq
         subst hq
         first | exact h1 | exact h2 | exact h3 | exact h4 | exact h6 | exact h7 | exact owAdd_mem hb
       · rw [Gs.set_ne _ _ hn] at hq
         first | exact h.sat n q' hq | exact h.mem n q' hq | exact h.mb n q' hq | exact h.nd n q' hq | exact h.own n q' hq | exact h.bl n q' hq | (rw [owAdd_not (hold n q' hq b hb)]; exact h.ho n q' hq b hb))
    | skip
  · refine ⟨?_, (h.hF b hb).2⟩
    rw [owAdd_not (fun hb' => (h5 b hb').2.1 hb)]
    exact (h.hF b hb).1
  · by_cases hb' : b ∈ q.fp
    · exact (h5 b hb').2.2
    · rw [owAdd_not hb'] at hb; exact h.lt b u hb
structure Taken (X : Cx) (F : Nat → Prop) (ow : Nat → Option Nat) (w : World) (k : K) (m : Mk) (x : T k) (l : L k) : Prop where
  sat : Ev.sat w F k m x l
  nd : (fp k m x l).Nodup
  no : ∀ b ∈ fp k m x l, ow b = none ∧ ¬ F b ∧ b < w.heap.size ∧ X.free b
theorem Rel.newV (h : Rel P X N s g F ow tm w) {d : Nat} {k : K} {m : Mk} {x : T k} {l : L k} (ht : Taken X F ow w k m x l) (tmp : Bool) :
    Rel P X N ((s.drop d).setR d (some ⟨k, m, x, false, tmp⟩)) ((g.set d none).set d (some ⟨k, m, x, false, tmp, l, none⟩)) F
      (owAdd (owDrop ow d) (fp k m x l) d) tm w := by
  have hd := h.drop d
  have := hd.setNew (d := d) (q := ⟨k, m, x, false, tmp, l, none⟩) (Gs.set_self g d none) ht.sat (fun c o e => by cases e) rfl (by simpa [GR.fp, GR.fpi] using ht.nd)
    (fun b hb => by
      have hb : b ∈ fp k m x l := by simpa [GR.fp, GR.fpi] using hb
      obtain ⟨h1, h2, h3, _⟩ := ht.no b hb
      exact ⟨by unfold owDrop; split; rfl; exact h1, h2, h3⟩)
    ⟨fun b hb => (ht.no b hb).2.2.2, fun b o e => by cases e⟩
  simpa [GR.fp, GR.fpi, GR.rt] using this
theorem Taken.le {ow' : Nat → Option Nat} {k : K} {m : Mk} {x : T k} {l : L k} (h : Taken X F ow w k m x l) (ho : ∀ b t, ow' b = some t → ow b = some t) : Taken X F ow' w k m x l :=
  ⟨h.sat, h.nd, fun b hb => by
    obtain ⟨h1, h2⟩ := h.no b hb
    refine ⟨?_, h2⟩
    cases e : ow' b with
    | none => rfl
    | some t => rw [ho b t e] at h1; cases h1⟩
theorem owDrop_le (ow : Nat → Option Nat) (t : Nat) : ∀ b u, owDrop ow t b = some u → ow b = some u := fun _ _ h => (owDrop_some h).1
theorem Up.drop (g : Gs) (t : Nat) : Up g (g.set t none) := by
  intro u r' h
  by_cases hu : u = t
  · subst hu; rw [Gs.set_self] at h; cases h
  · rw [Gs.set_ne _ _ hu] at h; exact Up.refl g u r' h
end
end Go.Proofs.YthlnjkcpdkjipaaDoor.Ev
