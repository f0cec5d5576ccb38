/- Bits of an int: a bit looked at, a bit taken out. -/
import Derived.Test.YtlfemkelnllmnaaBits2
set_option linter.all false
set_option linter.unusedVariables false
set_option linter.unusedSimpArgs false
namespace Go.Proofs.Ytlfemkelnllmnaa
open Go.RowKit

theorem bit_i64 (s i : Nat) (hs : s < 4096) : bits .and .i64 ((s : Int) / 2 ^ i) 1 = (if s.testBit i then 1 else 0) := by
  have h1 : ((s : Int) / 2 ^ i) = ((s / 2 ^ i : Nat) : Int) := by push_cast; rfl
  have hd : s / 2 ^ i ≤ s := Nat.div_le_self _ _
  rw [h1, show (1 : Int) = ((1 : Nat) : Int) from rfl, i64_and_nat _ _ (by omega) (by omega), Nat.and_one_is_mod, Nat.testBit_eq_decide_div_mod_eq]
  by_cases h : s / 2 ^ i % 2 = 1
  · rw [h]; simp
  · have h0 : s / 2 ^ i % 2 = 0 := by omega
    rw [h0]; simp
theorem without_wrap64 (s i : Nat) (hs : s < 4096) (hi : i < 12) : bits .andNot .i64 (s : Int) (wrap64 (2 ^ i)) = (withoutN s i : Int) := by
  have h := without_i64 s i hs hi
  rw [IntKind.wrap_i64] at h
  unfold wrap64
  exact h

end Go.Proofs.Ytlfemkelnllmnaa
