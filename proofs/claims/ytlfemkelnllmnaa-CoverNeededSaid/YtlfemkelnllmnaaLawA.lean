/- CoverShortest: the closure, and the walk. -/
import Derived.Test.YtlfemkelnllmnaaAwake
set_option linter.all false
set_option linter.unusedVariables false
set_option linter.unusedSimpArgs false
namespace Go.Proofs.Ytlfemkelnllmnaa
open Go.RowKit

set_option maxHeartbeats 1000000 in
theorem is_calls (b : Nat) (a : Option Addr) (cap : Nat) (x : Fld) (t : Nat) (w : World) (hv : validB x = true) (ht : t ≤ allN x) (hF : FBox w b a cap x) (hs : SlW 6 skyRow w (.slice a x.ps.length cap) x.ps) :
    Calls Try.prog 13 #[.int .i64 (t : Int), .pointer (some ⟨b, 0, none⟩)] w fun e w' => e = .returned (.bool (listB x t)) ∧ Below w.heap.size w w' := by
  have hm := missing_calls a cap x (t : Int) w hs
  rw [missing_list hv ht] at hm
  unfold fldV at hm
  have HM := Lib.hid hm
  have c0 := hF.c0; have c1 := hF.c1; have c2 := hF.c2; have c3 := hF.c3; have c4 := hF.c4; have c5 := hF.c5; have c6 := hF.c6; have c7 := hF.c7; have c8 := hF.c8; have c9 := hF.c9
  have lf := hF.lt
  clear hm hF hs
  generalize missingV x (t : Int) = mv at *
  cases hl : listB x t with
  | true =>
    rw [hl, if_pos rfl] at HM
    clear hl
    go_enter Try.func13, Try.ntmps13
    go_wp2_with fail
    refine HM.out.mono ?_
    rintro e w1 ⟨rfl, hb⟩
    go_wp2_with fail
    go_ret
    exact ⟨rfl, hb⟩
  | false =>
    rw [hl, if_neg (by simp)] at HM
    clear hl
    go_enter Try.func13, Try.ntmps13
    go_wp2_with fail
    refine HM.out.mono ?_
    rintro e w1 ⟨rfl, hb⟩
    go_wp2_with fail
    go_ret
    exact ⟨rfl, hb⟩

end Go.Proofs.Ytlfemkelnllmnaa
