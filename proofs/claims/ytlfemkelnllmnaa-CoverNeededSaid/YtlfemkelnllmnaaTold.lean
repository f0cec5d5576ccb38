/- cover.told: the deferred call that turns a failure into its number. -/
import Derived.Test.YtlfemkelnllmnaaFirst
import Derived.RecoverIn
import Derived.DefersIn
set_option linter.all false
set_option linter.unusedVariables false
set_option linter.unusedSimpArgs false
namespace Go.Proofs.Ytlfemkelnllmnaa
open Go.RowKit

theorem told_idle (b : Nat) (w : World) :
    CallsD Try.prog 26 #[.pointer (some ⟨b, 0, none⟩)] .returning w fun e u' w' => e = .returned (.tuple #[]) ∧ u' = .returning ∧ w' = w := by
  refine callsD_of_wpS Try.func26 rfl fun c₀ cs hu => ?_
  apply wpS_seq
  apply wpS_region
  simp [wpOpsS, go_sem, recoverD, hu, Try.ntmps26, Exit.thenS]
  refine wpS_of_wp ?_

  go_wp2
  cases c₀
  simp_all [bodyPostS, results, Try.results26, Exit.thenS]

set_option maxHeartbeats 1000000 in
set_option maxRecDepth 10000 in
theorem told_panic (b : Nat) (n old : Int) (w : World) (hc : w.cell? ⟨b, 0, none⟩ = some (.int .i64 old)) (hf : w.frozen? ⟨b, 0, none⟩ = false) :
    CallsD Try.prog 26 #[.pointer (some ⟨b, 0, none⟩)] (.panicking [{ v := failure n, recovered := false }]) w fun e u' w' => e = .returned (.tuple #[]) ∧ u' = .panicking [{ v := failure n, recovered := true }] ∧ w' = (w.setCell ⟨b, 0, none⟩ (.int .i64 n)).alloc (.cells #[.int .i64 n] 95) := by
  refine callsD_of_wpS Try.func26 rfl fun c₀ cs hu => ?_
  apply wpS_seq
  apply wpS_region
  simp [wpOpsS, go_sem, recoverD, hu, Try.ntmps26, Exit.thenS]
  refine wpS_of_wp ?_
  simp only [failure, Array.replicate_succ, Array.replicate_zero, List.push_toArray, List.append_toArray, List.nil_append, List.cons_append, List.setIfInBounds_toArray, List.set_cons_succ, List.set_cons_zero]
  clear hu
  have hta : ∀ w : World, (Instr.typeAssert (.iface 95 (.agg #[.int .i64 n])) 20 95 true).run Try.prog w = .ok (.tuple #[.agg #[.int .i64 n], .bool true]) w := fun w => by kernel_rfl
  have hl : b < w.heap.size := by
    apply Classical.byContradiction
    intro h
    unfold World.cell? at hc
    simp [show w.heap[b]? = none by simp; omega] at hc

  go_wp2

  cases c₀
  simp_all [bodyPostS, results, Try.results26, Exit.thenS]

theorem told_idleIn (n' b : Nat) (w : World) :
    CallsDIn Fence.wide n' Try.prog 26 #[.pointer (some ⟨b, 0, none⟩)] .returning w fun e u' w' => e = .returned (.tuple #[]) ∧ u' = .returning ∧ w' = w := by
  refine callsDIn_of_wpSIn Try.func26 rfl trivial fun c₀ cs hu => ?_
  apply wpSIn_seq
  apply wpSIn_region
  simp [wpOpsSIn, go_sem, recoverD, hu, Try.ntmps26, Exit.thenS]
  refine wpSIn_of_wpIn rfl ?_

  gi_wp2
  cases c₀
  simp_all [bodyPostS, results, Try.results26, Exit.thenS]

set_option maxHeartbeats 1000000 in
set_option maxRecDepth 10000 in
theorem told_panicIn (n' b : Nat) (n old : Int) (w : World) (hc : w.cell? ⟨b, 0, none⟩ = some (.int .i64 old)) (hf : w.frozen? ⟨b, 0, none⟩ = false) :
    CallsDIn Fence.wide n' Try.prog 26 #[.pointer (some ⟨b, 0, none⟩)] (.panicking [{ v := failure n, recovered := false }]) w fun e u' w' => e = .returned (.tuple #[]) ∧ u' = .panicking [{ v := failure n, recovered := true }] ∧ w' = (w.setCell ⟨b, 0, none⟩ (.int .i64 n)).alloc (.cells #[.int .i64 n] 95) := by
  refine callsDIn_of_wpSIn Try.func26 rfl trivial fun c₀ cs hu => ?_
  apply wpSIn_seq
  apply wpSIn_region
  simp [wpOpsSIn, go_sem, recoverD, hu, Try.ntmps26, Exit.thenS]
  refine wpSIn_of_wpIn rfl ?_
  simp only [failure, Array.replicate_succ, Array.replicate_zero, List.push_toArray, List.append_toArray, List.nil_append, List.cons_append, List.setIfInBounds_toArray, List.set_cons_succ, List.set_cons_zero]
  clear hu
  have hta : ∀ w : World, (Instr.typeAssert (.iface 95 (.agg #[.int .i64 n])) 20 95 true).run Try.prog w = .ok (.tuple #[.agg #[.int .i64 n], .bool true]) w := fun w => by kernel_rfl
  have hl : b < w.heap.size := by
    apply Classical.byContradiction
    intro h
    unfold World.cell? at hc
    simp [show w.heap[b]? = none by simp; omega] at hc

  gi_wp2

  cases c₀
  simp_all [bodyPostS, results, Try.results26, Exit.thenS]


/-! ### How a frame leaves whose only deferred call is told -/
section
variable {n : Nat} {fn : Func} {tmps : Array Value} {R : Ending → World → Prop} {w : World}
theorem leavesM_collected {P : Program} {D : Nat} {ds : List Deferred} {u : FrameMode} (hu : u ≠ .run) (hK : w.heap[D]? = some (.deferred (some []))) (h : LeavesInM Fence.wide n P fn tmps R ds u (w.putObj D (.deferred none))) :
    LeavesInM Fence.wide n P fn tmps R ({ target := .collected D, args := #[] } :: ds) u w := ⟨hu, .inl ⟨_, _, rfl, run_takeDeferred hK, h⟩⟩
theorem leavesM_told {b : Nat} {v : Value} (hr : (results fn tmps).run Try.prog w = .ok v w) (hR : R (.returned v) w) :
    LeavesInM Fence.wide n Try.prog fn tmps R [{ target := .fn (.func 26) #[], args := #[.pointer (some ⟨b, 0, none⟩)] }] .returning w := by
  refine ⟨by simp, .inr ⟨fun h => by simp [Fence.wide] at h, .func 26, #[], 26, #[.pointer (some ⟨b, 0, none⟩)], rfl, by simp [go_sem], fun _ _ => trivial, ?_⟩⟩
  refine (told_idleIn _ b w).mono ?_
  rintro e u' w' ⟨rfl, rfl, rfl⟩
  exact ⟨v, hr, hR⟩
theorem leavesM_told_panic {b : Nat} {k old : Int} {v : Value} (hc : w.cell? ⟨b, 0, none⟩ = some (.int .i64 old)) (hf : w.frozen? ⟨b, 0, none⟩ = false)
    (hr : (results fn tmps).run Try.prog ((w.setCell ⟨b, 0, none⟩ (.int .i64 k)).alloc (.cells #[.int .i64 k] 95)) = .ok v ((w.setCell ⟨b, 0, none⟩ (.int .i64 k)).alloc (.cells #[.int .i64 k] 95)))
    (hR : R (.returned v) ((w.setCell ⟨b, 0, none⟩ (.int .i64 k)).alloc (.cells #[.int .i64 k] 95))) :
    LeavesInM Fence.wide n Try.prog fn tmps R [{ target := .fn (.func 26) #[], args := #[.pointer (some ⟨b, 0, none⟩)] }] (.panicking [{ v := failure k, recovered := false }]) w := by
  refine ⟨by simp, .inr ⟨fun h => by simp [Fence.wide] at h, .func 26, #[], 26, #[.pointer (some ⟨b, 0, none⟩)], rfl, by simp [go_sem], fun _ _ => trivial, ?_⟩⟩
  refine (told_panicIn _ b k old w hc hf).mono ?_
  rintro e u' w' ⟨rfl, rfl, rfl⟩
  exact ⟨v, hr, hR⟩
end

end Go.Proofs.Ytlfemkelnllmnaa
