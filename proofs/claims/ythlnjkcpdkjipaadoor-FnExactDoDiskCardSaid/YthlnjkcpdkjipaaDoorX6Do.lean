/- Disks: the reference's DoDisk. -/
import Derived.Test.YthlnjkcpdkjipaaDoorX6Step
set_option linter.all false
set_option maxRecDepth 100000
noncomputable section
namespace Go.Proofs.YthlnjkcpdkjipaaDoor
open Go Go.Proofs.YthlnjkcpdkjipaaDoor.Ev

theorem f_spec_DoDiskVal {d : DDisk} {s : DDiskStep} (hd : LenOk d) (hs : StepOk s) : f_spec_DoDisk (d, (s, ())) = some (((doD d s).1, ((doD d s).2, ())), ()) := by
  unfold f_spec_DoDisk doD
  rw [f_spec_GoodDiskVal d hd, bnd_some]
  dsimp only
  cases hg : goodB d with
  | false => rfl
  | true =>
    rw [Bool.not_true, cond_false, cond_true, f_spec_l1OwnVal d hd, bnd_some]
    dsimp only
    rw [l1DoVal (goodB_iff.1 hg) hs, bnd_some]
    dsimp only
    cases hc : ieq (resD d s).2 0 with
    | false => rfl
    | true =>
      rw [Bool.not_true, cond_false, cond_true, ieq_iff.1 hc]

end Go.Proofs.YthlnjkcpdkjipaaDoor
