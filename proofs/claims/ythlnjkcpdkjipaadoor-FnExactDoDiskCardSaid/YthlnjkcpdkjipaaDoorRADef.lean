/- What (*Disk).used computes: the bytes of the blobs that have a name, each once. -/
import Derived.Test.YthlnjkcpdkjipaaDoorEv4
set_option linter.all false
noncomputable section
namespace Go.Proofs.YthlnjkcpdkjipaaDoor
open Go Go.Proofs.YthlnjkcpdkjipaaDoor.Ev

abbrev kNm : K := .pair .str (.pair (.int .i64) .unit)
abbrev kDsk : K := .pair (.sl kNm) (.pair (.sl kNm) (.pair (.sl kNm) (.pair (.int .i64) .unit)))

/-- names, in order; the blobs that were counted; how many bytes they have -/
def usedGo (bl : List (T kNm)) : List (T kNm) → List Int → Int → Option Int
  | [], _, s => some s
  | n :: r, seen, s => cond (seen.elem n.2.1) (usedGo bl r (n.2.1 :: seen) s) (getO bl n.2.1 fun b => usedGo bl r (n.2.1 :: seen) (iadd .i64 s (slen b.1)))

def f_impl_Disk_used (x : Ps [.rp kDsk]) : Option ((Int × Unit) × Unit) :=
  req (decide (x.1.2.1.length + x.1.2.2.1.length ≤ 17179869184) && ((x.1.2.1 ++ x.1.2.2.1).all fun n => decide (-9223372036854775808 ≤ n.2.1 ∧ n.2.1 ≤ 9223372036854775807)))
    (bnd (usedGo x.1.1 (x.1.2.1 ++ x.1.2.2.1) [] 0) fun s => some ((s, ()), ()))
def sgf_impl_Disk_used : Sig := ⟨[.rp kDsk], [(.int .i64, .s)], f_impl_Disk_used⟩
end Go.Proofs.YthlnjkcpdkjipaaDoor
