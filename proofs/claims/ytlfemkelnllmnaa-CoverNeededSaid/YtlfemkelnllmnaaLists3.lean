/- cover.Lists: the contract. -/
import Derived.Test.YtlfemkelnllmnaaLists2
set_option linter.all false
set_option linter.unusedVariables false
set_option linter.unusedSimpArgs false
namespace Go.Proofs.Ytlfemkelnllmnaa
open Go.RowKit

set_option maxHeartbeats 1000000 in
theorem lists_bad (a : Option Addr) (cap : Nat) (x : Fld) (w : World) (hs : SlW 6 skyRow w (.slice a x.ps.length cap) x.ps) (hv : ¬ validB x = true) :
    Calls Try.prog 11 #[fldV a cap x] w fun e w' => e = .returned (.tuple #[.int .i64 0, .int .i64 1]) ∧ Below w.heap.size w w' := by
  have HO := Lib.hid (open_bad a cap x (top3 w a cap x) (hs.below (Nat.le_refl _) (top3_up w a cap x)) (by simpa using hv))
  clear hs
  have HU0 := Lib.hid (top3_up w a cap x); have HB0 := Lib.hid (top3_e w a cap x); have HN0 := Lib.hid (top3_n w a cap x)
  have htop : ((w.alloc (.cells #[.slice a x.ps.length cap, .int .i64 x.e0, .int .i64 x.e1, .int .i64 x.n0, .int .i64 x.n1, .int .i64 x.d0, .int .i64 x.d1, .int .i64 x.depth, .int .i64 x.times, .int .i64 x.gap] 26)).alloc (.cells #[.int .i64 0] 3)).alloc (.cells #[.int .i64 0] 30) = top3 w a cap x := rfl
  have HT := Lib.hid htop
  clear htop
  unfold fldV at *
  go_enter_defers Try.func11, Try.ntmps11
  go_wp2_with fail
  rw [HT.out]
  generalize top3 w a cap x = w0 at *
  refine HO.out.mono ?_
  rintro e w3 ⟨rfl, hb⟩
  have hE := boxed_below HB0.out (Nat.le_refl _) hb
  have hN := boxed_below HN0.out (Nat.le_refl _) hb
  have hU := HU0.out.trans (hb.mono HU0.out.size)
  have hc3 := hE.cell; have hf3 := hE.frozen; have hl3 := hE.lt
  have HE := Lib.hid hE; have HN := Lib.hid hN; have HU := Lib.hid hU
  clear hb hE hN hU
  go_wp2
  refine leaves_cons (f := 26) (args := #[.pointer (some ⟨w.heap.size + 1 + 1, 0, none⟩)]) (by simp) (by simp [go_sem]) ?_
  refine (told_panic _ _ _ _ hc3 hf3).mono ?_
  rintro e u' w'' ⟨rfl, rfl, rfl⟩
  have k1 := ((HN.out.other (B' := w.heap.size + 1 + 1) (by omega) (.int .i64 1)).alloc (.cells #[.int .i64 1] 95)).cell
  have k2 := ((HE.out.set (.int .i64 1)).alloc (.cells #[.int .i64 1] 95)).cell
  simp [Leaves, settle, results, Try.results11, go_sem, k1, k2]
  exact (HU.out.setCell (p := ⟨w.heap.size + 1 + 1, 0, none⟩) (show w.heap.size ≤ w.heap.size + 1 + 1 by omega) _).alloc (by simpa using HU.out.size) _

theorem lists_calls (a : Option Addr) (cap : Nat) (x : Fld) (w : World) (hs : SlW 6 skyRow w (.slice a x.ps.length cap) x.ps) :
    Calls Try.prog 11 #[fldV a cap x] w fun e w' => e = .returned (.tuple #[.int .i64 (listsV x).1, .int .i64 (listsV x).2]) ∧ Below w.heap.size w w' := by
  unfold listsV
  by_cases hv : validB x = true
  · rw [if_pos hv]
    cases hf : shortestL x with
    | some s => exact lists_some a cap x w hs hv s hf
    | none => exact lists_none a cap x w hs hv hf
  · rw [if_neg hv]
    exact lists_bad a cap x w hs hv

end Go.Proofs.Ytlfemkelnllmnaa
