/- The stack of cover.Apart: push, all. -/
import Derived.Test.YtlfemkelnllmnaaMost
import Derived.Deep.AppendLies
set_option linter.all false
set_option linter.unusedVariables false
set_option linter.unusedSimpArgs false
namespace Go.Proofs.Ytlfemkelnllmnaa
open Go.RowKit

theorem Try.infoPair : (Try.prog.info? 43).map (fun i => (i.zero, i.size, i.bytes)) = some (some (.agg #[.int .i64 0, .int .i64 0]), 2, 16) := by kernel_rfl

set_option maxHeartbeats 2000000 in
theorem push_calls (bs base : Nat) (v : Value) (k : Nat) (xs : List Value) (q : Int × Int) (W : World) (hb : Boxed W bs 87 v) (hown : W.ownsRow base 43 2 v k xs) (hbase : base ≤ W.heap.size) (hk : k < 5000) :
    Calls Try.prog 42 #[.pointer (some ⟨bs, 0, none⟩), .agg #[.int .i64 q.1, .int .i64 q.2]] W fun e W' => e = .returned (.tuple #[]) ∧ ∃ g cap w1, W.grownBy w1 v.ownBlock ∧ W' = w1.setCell ⟨bs, 0, none⟩ (.slice (some ⟨g, 0, none⟩) (k + 1) cap) ∧ Boxed W' bs 87 (.slice (some ⟨g, 0, none⟩) (k + 1) cap) ∧ W'.ownsRow base 43 2 (.slice (some ⟨g, 0, none⟩) (k + 1) cap) (k + 1) (xs ++ [.int .i64 q.1, .int .i64 q.2]) := by
  obtain ⟨i0, hi, hz0, hz1, hz2⟩ := info_parts Try.infoPair
  have c0 := hb.cell; have f0 := hb.frozen; have l0 := hb.lt
  go_enter Try.func42, Try.ntmps42
  go_wp2_with fail
  have hnb : some bs ≠ v.ownBlock := hb.not_row (by decide) hown
  go_region_law (refine step_append_lies _ rfl _ _ 40 rfl base 43 i0 (.agg #[.int .i64 0, .int .i64 0]) 2 16 Try.underlying40 hi hz0 hz1 hz2 rfl (by decide) v k xs rfl (by first | exact ((hown.alloc _).alloc _).drew | exact (hown.alloc _).alloc _) ⟨W.heap.size + 1, 0, none⟩ 1 1 [.int .i64 q.1, .int .i64 q.2] rfl rfl (by intro j u hj; match j, hj with | 0, hj => (cases hj; go_simp) | 1, hj => (cases hj; go_simp)) (by simp [Value.oneCell']) (by decide) (by unfold maxLen; omega) (by omega) (by simp <;> omega) _ rfl ?_; intro g cap w' hown' hgrow hat hlt; have hbw : Boxed w' bs 87 v := (by (refine Boxed.kept ?_ hgrow hnb; exact (hb.alloc _).alloc _)); have cw := hbw.cell; have fw := hbw.frozen)
  all_goals go_wp2
  all_goals go_end0
  all_goals refine ⟨rfl, g, cap, w', ?_, rfl, hbw.set _, hown'.kept (grownBy_setCell' w' bs _) (.inr (hbw.not_row (by decide) hown').symm)⟩
  all_goals exact ((World.grownBy_alloc _ _ _).trans (World.grownBy_alloc _ _ _)).trans (show World.grownBy ((W.alloc (.cells #[.int .i64 q.1, .int .i64 q.2] 43)).alloc (.cells #[.int .i64 q.1, .int .i64 q.2] 43)) w' v.ownBlock from ⟨hgrow.os, hgrow.tape, hgrow.output, hgrow.size, fun k hk hr => hgrow.block k hk hr⟩)

end Go.Proofs.Ytlfemkelnllmnaa
