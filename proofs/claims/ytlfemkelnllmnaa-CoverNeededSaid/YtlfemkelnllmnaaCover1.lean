/- cover.within, isSpan, must, isField and what tells whether a plate is of use: what each call returns. -/
import Derived.Test.YtlfemkelnllmnaaSlices
set_option linter.all false
set_option linter.unusedVariables false
set_option linter.unusedSimpArgs false
namespace Go.Proofs.Ytlfemkelnllmnaa
open Go.RowKit

/-- A field as a value, its plates in the slice (a, cap). -/
def fldV (a : Option Addr) (cap : Nat) (x : Fld) : Value := .agg #[.slice a x.ps.length cap, .int .i64 x.e0, .int .i64 x.e1, .int .i64 x.n0, .int .i64 x.n1, .int .i64 x.d0, .int .i64 x.d1, .int .i64 x.depth, .int .i64 x.times, .int .i64 x.gap]

set_option maxHeartbeats 400000 in
theorem within_calls (n lo hi : Int) (w : World) :
    Calls Try.prog 48 #[.int .i64 n, .int .i64 lo, .int .i64 hi] w fun e w' => e = .returned (.bool (withinB n lo hi)) ∧ w = w' := by
  have H : ∀ b, withinB n lo hi = b → Hid (withinB n lo hi = b) := fun _ h => h
  by_cases h1 : lo ≤ n
  · by_cases h2 : n ≤ hi
    · have h3 := H true (by simp [withinB, h1, h2]); clear H
      go_enter Try.func48, Try.ntmps48
      go_wp2
      go_ret
      exact ⟨ret_bool h3.out.symm, rfl⟩
    · have h3 := H false (by simp [withinB, h2]); clear H
      go_enter Try.func48, Try.ntmps48
      go_wp2
      go_ret
      exact ⟨ret_bool h3.out.symm, rfl⟩
  · have h3 := H false (by simp [withinB, h1]); clear H
    go_enter Try.func48, Try.ntmps48
    go_wp2
    go_ret
    exact ⟨ret_bool h3.out.symm, rfl⟩

set_option maxHeartbeats 400000 in
theorem isSpan_calls (lo hi high : Int) (w : World) :
    Calls Try.prog 63 #[.agg #[.int .i64 lo, .int .i64 hi], .int .i64 high] w fun e w' => e = .returned (.bool (spanB lo hi high)) ∧ Below w.heap.size w w' := by
  have H : ∀ b, spanB lo hi high = b → Hid (spanB lo hi high = b) := fun _ h => h
  by_cases h1 : 0 ≤ lo
  · by_cases h2 : lo ≤ hi
    · by_cases h3 : hi ≤ high
      · have h4 := H true (by simp [spanB, h1, h2, h3]); clear H
        go_enter Try.func63, Try.ntmps63
        go_wp2
        go_ret
        exact ⟨ret_bool h4.out.symm, (Below.refl _ _).alloc (Nat.le_refl _) _⟩
      · have h4 := H false (by simp [spanB, h3]); clear H
        go_enter Try.func63, Try.ntmps63
        go_wp2
        go_ret
        exact ⟨ret_bool h4.out.symm, (Below.refl _ _).alloc (Nat.le_refl _) _⟩
    · have h4 := H false (by simp [spanB, h2]); clear H
      go_enter Try.func63, Try.ntmps63
      go_wp2
      go_ret
      exact ⟨ret_bool h4.out.symm, (Below.refl _ _).alloc (Nat.le_refl _) _⟩
  · have h4 := H false (by simp [spanB, h1]); clear H
    go_enter Try.func63, Try.ntmps63
    go_wp2
    go_ret
    exact ⟨ret_bool h4.out.symm, (Below.refl _ _).alloc (Nat.le_refl _) _⟩

set_option maxHeartbeats 400000 in
theorem must_true (n : Int) (w : World) :
    Calls Try.prog 34 #[.bool true, .int .i64 n] w fun e w' => e = .returned (.tuple #[]) ∧ w = w' := by
  go_enter Try.func34, Try.ntmps34
  go_wp2
  go_end0
  exact ⟨rfl, rfl⟩

/-- What a panic of this package tells. -/
def failure (n : Int) : Value := .iface 95 (.agg #[.int .i64 n])

set_option maxHeartbeats 400000 in
theorem must_false (n : Int) (w : World) :
    Calls Try.prog 34 #[.bool false, .int .i64 n] w fun e w' => e = .panicked [{ v := failure n, recovered := false }] ∧ w = w' := by
  go_enter Try.func34, Try.ntmps34
  go_wp2
  exact ⟨rfl, rfl, rfl⟩

set_option maxHeartbeats 1000000 in
theorem badSky_calls (p : Sky) (w : World) :
    Calls Try.prog 62 #[.agg (skyRow p).toArray] w fun e w' => e = .returned (.bool (badSkyB p)) ∧ Below w.heap.size w w' := by
  have H : ∀ b, badSkyB p = b → Hid (badSkyB p = b) := fun _ h => h
  simp only [skyRow]
  generalize h1 : spanB p.e0 p.e1 32 = b1
  generalize h2 : spanB p.n0 p.n1 32 = b2
  generalize h3 : withinB p.day 0 65536 = b3
  generalize h4 : withinB p.depth 0 100 = b4
  have hb : Hid (badSkyB p = (!b1 || !b2 || !b3 || !b4)) := by unfold Hid; rw [← h1, ← h2, ← h3, ← h4]; rfl
  have G1 := Lib.hid h1; have G2 := Lib.hid h2; have G3 := Lib.hid h3; have G4 := Lib.hid h4
  clear h1 h2 h3 h4 H
  go_enter Try.func62, Try.ntmps62
  go_wp2_with fail
  refine (isSpan_calls _ _ _ _).mono ?_
  rintro e w1 ⟨rfl, hb1⟩
  obtain ⟨g1, rfl⟩ := GW.of hb1; clear hb1
  rw [G1.out]
  cases b1
  · go_wp2_with fail
    go_ret
    exact ⟨ret_bool (by rw [hb.out]; rfl), Up.gw _ (Up.alloc _ (Up.refl _))⟩
  · go_wp2_with fail
    refine (isSpan_calls _ _ _ _).mono ?_
    rintro e w2 ⟨rfl, hb2⟩
    obtain ⟨g2, rfl⟩ := GW.of hb2; clear hb2
    rw [G2.out]
    cases b2
    · go_wp2_with fail
      go_ret
      exact ⟨ret_bool (by rw [hb.out]; rfl), Up.gw _ (Up.gw _ (Up.alloc _ (Up.refl _)))⟩
    · go_wp2_with fail
      refine (within_calls _ _ _ _).mono ?_
      rintro e _ ⟨rfl, rfl⟩
      rw [G3.out]
      cases b3
      · go_wp2_with fail
        go_ret
        exact ⟨ret_bool (by rw [hb.out]; rfl), Up.gw _ (Up.gw _ (Up.alloc _ (Up.refl _)))⟩
      · go_wp2_with fail
        refine (within_calls _ _ _ _).mono ?_
        rintro e _ ⟨rfl, rfl⟩
        rw [G4.out]
        cases b4
        · go_wp2_with fail
          go_ret
          exact ⟨ret_bool (by rw [hb.out]; rfl), Up.gw _ (Up.gw _ (Up.alloc _ (Up.refl _)))⟩
        · go_wp2_with fail
          go_ret
          exact ⟨ret_bool (by rw [hb.out]; rfl), Up.gw _ (Up.gw _ (Up.alloc _ (Up.refl _)))⟩

end Go.Proofs.Ytlfemkelnllmnaa
