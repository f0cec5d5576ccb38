/- The stack of cover.Apart: all. -/
import Derived.Test.YtlfemkelnllmnaaPush
import Derived.Test.YtlfemkelnllmnaaShelf
set_option linter.all false
set_option linter.unusedVariables false
set_option linter.unusedSimpArgs false
namespace Go.Proofs.Ytlfemkelnllmnaa
open Go.RowKit

set_option maxHeartbeats 2000000 in
theorem all_stack (bs base : Nat) (v : Value) (k : Nat) (xs : List Value) (W : World) (hb : Boxed W bs 87 v) (hown : W.ownsRow base 43 2 v k xs) (hk : k < 5000) (h1 : ∀ u ∈ xs, u.oneCell' = true) :
    Calls Try.prog 43 #[.pointer (some ⟨bs, 0, none⟩)] W fun e W' => ∃ v', e = .returned v' ∧ W'.ownsRow W.heap.size 43 2 v' k xs ∧ Below W.heap.size W W' := by
  obtain ⟨i0, hi, hz0, hz1, hz2⟩ := info_parts Try.infoPair
  have c0 := hb.cell; have f0 := hb.frozen; have l0 := hb.lt
  have HO := Lib.hid hown
  go_enter Try.func43, Try.ntmps43
  go_wp2_with fail
  have hz23 : ∀ w, (Go.sizeOf 43).run Try.prog w = .ok 2 w := fun w => Try.sizeOf43 w
  have hlen := hown.1
  rcases hown.2 with ⟨rfl, h0⟩ | ⟨g, cap, cur, rfl, hB, hg, hcap, hmax, _, _⟩
  · subst h0
    refine (Try.slices_Clone_nil 0 0 W).mono ?_
    rintro e w' ⟨rfl, rfl⟩
    go_wp2
    go_ret
    obtain rfl : xs = [] := List.length_eq_zero_iff.1 (by omega)
    exact ⟨_, rfl, World.ownsRow_nil _ _ _ _, Below.refl _ _⟩
  · refine (Try.slices_Clone i0 (.agg #[.int .i64 0, .int .i64 0]) 2 16 hi hz0 hz1 hz2 rfl (by decide) hz23 g 0 k cap xs W hlen (by unfold maxLen; omega) (by omega) (fun j u hj => ?_) h1).mono ?_
    · rw [Nat.zero_add, World.ownsRow.cellAt HO.out j (by have := (List.getElem?_eq_some_iff.1 hj).1; omega)]; exact hj
    · rintro e w' ⟨v', rfl, hv', _, hb'⟩
      go_wp2
      go_ret
      exact ⟨v', rfl, hv', hb'⟩

end Go.Proofs.Ytlfemkelnllmnaa
