/- cover.Missing: the contract. -/
import Derived.Test.YtlfemkelnllmnaaMissing2
set_option linter.all false
set_option linter.unusedVariables false
set_option linter.unusedSimpArgs false
namespace Go.Proofs.Ytlfemkelnllmnaa
open Go.RowKit

theorem missing_calls (a : Option Addr) (cap : Nat) (x : Fld) (s : Int) (w : World) (hs : SlW 6 skyRow w (.slice a x.ps.length cap) x.ps) :
    Calls Try.prog 14 #[fldV a cap x, .int .i64 s] w fun e w' => e = .returned (.tuple #[.int .i64 (missingV x s).1, .int .i64 (missingV x s).2.1, .int .i64 (missingV x s).2.2.1, .int .i64 (missingV x s).2.2.2]) ∧ Below w.heap.size w w' := by
  by_cases hv : validB x = true
  · cases hw : withinB s 0 (allN x : Int) with
    | false =>
      have h1 : missingV x s = (0, 0, 0, 2) := by unfold missingV; rw [if_pos hv, hw]; rfl
      rw [h1]; exact missing_range a cap x s w hs hv hw
    | true =>
      have hs1 : 0 ≤ s ∧ s ≤ (allN x : Int) := by simpa [withinB] using hw
      obtain ⟨n, rfl⟩ := Int.eq_ofNat_of_zero_le hs1.1
      have hn : n ≤ allN x := by omega
      have h1 : missingV x (n : Int) = (match missL x n (placesL x) with | [] => (0, 0, 0, 4) | q :: l => (q.1, q.2, ((l.length + 1 : Nat) : Int), 0)) := by
        unfold missingV; rw [if_pos hv, hw, if_pos rfl]; rfl
      rw [h1]
      cases hm : missL x n (placesL x) with
      | nil => exact missing_some a cap x n w hs hv hn _ _ _ _ (fun _ => ⟨rfl, rfl, rfl, rfl⟩) (fun h => absurd hm h)
      | cons q l => exact missing_some a cap x n w hs hv hn _ _ _ _ (fun h => by rw [hm] at h; cases h) (fun _ => by rw [hm]; exact ⟨rfl, rfl, rfl, rfl⟩)
  · have h1 : missingV x s = (0, 0, 0, 1) := by unfold missingV; rw [if_neg hv]
    rw [h1]; exact missing_bad a cap x s w hs hv

end Go.Proofs.Ytlfemkelnllmnaa
