/- What the program says of the sample, reckoned. -/
import Derived.Test.YtlfemkelnllmnaaMath3
import Derived.Test.YtlfemkelnllmnaaLaw10
import Derived.Test.YtlfemkelnllmnaaApart1
set_option linter.all false
set_option linter.unusedVariables false
set_option linter.unusedSimpArgs false
namespace Go.Proofs.Ytlfemkelnllmnaa

def servesE (x : Fld) (s : Nat) : Bool := decide (x.times ≤ (takeL x.gap (isortI (daysN x s x.ps.length))).1)
theorem servesE_eq : servesB = servesE := by funext x s; unfold servesB servesE; rw [sortI_eq]
/-- The sample, where two plates are wanted of each place. -/
def smp2 : Fld := { smp with times := 2, gap := 30 }
theorem eval_useful : usefulV smp = (23, 0) := by decide +kernel
theorem eval_served : servedV smp2 3 1 0 = (true, 0) := by
  unfold servedV; rw [servesE_eq]; decide +kernel
theorem eval_missing : missingV smp 3 = (3, 0, 1, 0) := by
  unfold missingV missL; rw [servesE_eq]; decide +kernel
theorem eval_shortest : shortestV smp = (5, 0) := by
  unfold shortestV shortestL listB; rw [servesE_eq]; decide +kernel
theorem eval_lists : listsV smp = (1, 0) := by
  unfold listsV shortestL listsN listB; rw [servesE_eq]; decide +kernel
theorem eval_needed : neededV smp = (1, 0) := by
  unfold neededV neededM needI listB; rw [servesE_eq]; decide +kernel
theorem eval_apart : apartV smp = ([(0, 0), (2, 0)], 0) := by
  unfold apartV listB; rw [servesE_eq]; decide +kernel

end Go.Proofs.Ytlfemkelnllmnaa
