/- cover.Apart: the contract. -/
import Derived.Test.YtlfemkelnllmnaaApart2
import Derived.Test.YtlfemkelnllmnaaApart3
set_option linter.all false
set_option linter.unusedVariables false
set_option linter.unusedSimpArgs false
namespace Go.Proofs.Ytlfemkelnllmnaa
open Go.RowKit

theorem apart_calls (a : Option Addr) (cap : Nat) (x : Fld) (w : World) (hs : SlW 6 skyRow w (.slice a x.ps.length cap) x.ps) :
    Calls Try.prog 18 #[fldV a cap x] w fun e w' => ∃ v, e = .returned (.tuple #[v, .int .i64 (apartV x).2]) ∧ w'.ownsRow w.heap.size 43 2 v (apartV x).1.length (flat2 (apartV x).1) ∧ Below w.heap.size w w' := by
  by_cases hv : validB x = true
  · have h1 : apartV x = (if listB x (usefulM x) then ((apartL x (placesL x)).1, 0) else ([], 4)) := by unfold apartV; rw [if_pos hv]
    rw [h1]
    cases hl : listB x (usefulM x) with
    | true => exact apart_good a cap x w hs hv hl
    | false => exact (apart_none a cap x w hs hv hl).mono fun e w' h => ⟨_, h.1, World.ownsRow_nil _ _ _ _, h.2⟩
  · have hV : apartV x = ([], 1) := by unfold apartV; rw [if_neg hv]
    rw [hV]
    exact (apart_bad a cap x w hs hv).mono fun e w' h => ⟨_, h.1, World.ownsRow_nil _ _ _ _, h.2⟩

end Go.Proofs.Ytlfemkelnllmnaa
