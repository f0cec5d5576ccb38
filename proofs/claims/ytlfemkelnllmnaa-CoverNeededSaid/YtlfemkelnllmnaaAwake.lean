/- The laws of chapter 10: awake. -/
import Derived.Test.YtlfemkelnllmnaaEval
import Derived.Test.YtlfemkelnllmnaaSample
import Derived.Test.YtlfemkelnllmnaaApart4
set_option linter.all false
set_option linter.unusedVariables false
set_option linter.unusedSimpArgs false
namespace Go.Proofs.Ytlfemkelnllmnaa
open Go.RowKit

section
variable (b : Nat) (cap : Nat) (w : World)
theorem smp_useful (hs : SlW 6 skyRow w (.slice (some ⟨b, 0, none⟩) smp.ps.length cap) smp.ps) : Calls Try.prog 17 #[fldV (some ⟨b, 0, none⟩) cap smp] w fun e w' => e = .returned (.tuple #[.int .i64 23, .int .i64 0]) ∧ Below w.heap.size w w' := by
  have h := useful_calls _ cap smp w hs; rwa [eval_useful] at h
theorem smp_served (hs : SlW 6 skyRow w (.slice (some ⟨b, 0, none⟩) smp2.ps.length cap) smp2.ps) : Calls Try.prog 25 #[fldV (some ⟨b, 0, none⟩) cap smp2, .int .i64 3, .int .i64 1, .int .i64 0] w fun e w' => e = .returned (.tuple #[.bool true, .int .i64 0]) ∧ Below w.heap.size w w' := by
  have h := served_calls _ cap smp2 3 1 0 w hs; rwa [eval_served] at h
theorem smp_missing (hs : SlW 6 skyRow w (.slice (some ⟨b, 0, none⟩) smp.ps.length cap) smp.ps) : Calls Try.prog 14 #[fldV (some ⟨b, 0, none⟩) cap smp, .int .i64 3] w fun e w' => e = .returned (.tuple #[.int .i64 3, .int .i64 0, .int .i64 1, .int .i64 0]) ∧ Below w.heap.size w w' := by
  have h := missing_calls _ cap smp 3 w hs; rwa [eval_missing] at h
theorem smp_shortest (hs : SlW 6 skyRow w (.slice (some ⟨b, 0, none⟩) smp.ps.length cap) smp.ps) : Calls Try.prog 10 #[fldV (some ⟨b, 0, none⟩) cap smp] w fun e w' => e = .returned (.tuple #[.int .i64 5, .int .i64 0]) ∧ Below w.heap.size w w' := by
  have h := shortest_calls _ cap smp w hs; rwa [eval_shortest] at h
theorem smp_lists (hs : SlW 6 skyRow w (.slice (some ⟨b, 0, none⟩) smp.ps.length cap) smp.ps) : Calls Try.prog 11 #[fldV (some ⟨b, 0, none⟩) cap smp] w fun e w' => e = .returned (.tuple #[.int .i64 1, .int .i64 0]) ∧ Below w.heap.size w w' := by
  have h := lists_calls _ cap smp w hs; rwa [eval_lists] at h
theorem smp_needed (hs : SlW 6 skyRow w (.slice (some ⟨b, 0, none⟩) smp.ps.length cap) smp.ps) : Calls Try.prog 16 #[fldV (some ⟨b, 0, none⟩) cap smp] w fun e w' => e = .returned (.tuple #[.int .i64 1, .int .i64 0]) ∧ Below w.heap.size w w' := by
  have h := needed_calls _ cap smp w hs; rwa [eval_needed] at h
theorem smp_apart (hs : SlW 6 skyRow w (.slice (some ⟨b, 0, none⟩) smp.ps.length cap) smp.ps) : Calls Try.prog 18 #[fldV (some ⟨b, 0, none⟩) cap smp] w fun e w' => ∃ v, e = .returned (.tuple #[v, .int .i64 0]) ∧ w'.ownsRow w.heap.size 43 2 v 2 [.int .i64 0, .int .i64 0, .int .i64 2, .int .i64 0] ∧ Below w.heap.size w w' := by
  have h := apart_calls _ cap smp w hs; rwa [eval_apart] at h
end

set_option maxHeartbeats 4000000 in
set_option maxRecDepth 10000 in
theorem awake_calls (w : World) :
    Calls Try.prog 9 #[] w fun e w' => e = .returned (.bool true) ∧ Below w.heap.size w w' := by
  have HU := Lib.hid (Below.refl w.heap.size w)
  go_enter Try.func9, Try.ntmps9
  go_wp2_with fail
  refine (sample_calls _).mono ?_
  rintro e w1 ⟨b1, c1, rfl, hs, hb⟩
  have HU1 := Lib.hid (HU.out.trans (hb.mono HU.out.size)); have HS := Lib.hid hs; clear hb hs HU
  go_wp2_with fail
  refine (smp_useful _ _ _ HS.out).mono ?_
  rintro e w2 ⟨rfl, hb⟩
  have HU2 := Lib.hid (HU1.out.trans (hb.mono HU1.out.size)); clear hb HU1 HS
  go_wp2_with fail
  refine (sample_calls _).mono ?_
  rintro e w3 ⟨b3, c3, rfl, hs, hb⟩
  have HU3 := Lib.hid (HU2.out.trans (hb.mono HU2.out.size)); have HS := Lib.hid hs; clear hb hs HU2
  unfold fldV
  go_wp2_with fail
  have hs4 : SlW 6 skyRow (w3.alloc (.cells #[.slice (some ⟨b3, 0, none⟩) smp.ps.length c3, .int .i64 smp.e0, .int .i64 smp.e1, .int .i64 smp.n0, .int .i64 smp.n1, .int .i64 smp.d0, .int .i64 smp.d1, .int .i64 smp.depth, .int .i64 2, .int .i64 30] 26)) (.slice (some ⟨b3, 0, none⟩) smp2.ps.length c3) smp2.ps := HS.out.below (Nat.le_refl _) (Up.alloc _ (Up.refl _))
  have hu4 : Below w.heap.size w (w3.alloc (.cells #[.slice (some ⟨b3, 0, none⟩) smp.ps.length c3, .int .i64 smp.e0, .int .i64 smp.e1, .int .i64 smp.n0, .int .i64 smp.n1, .int .i64 smp.d0, .int .i64 smp.d1, .int .i64 smp.depth, .int .i64 2, .int .i64 30] 26)) := Up.alloc _ HU3.out
  refine (smp_served b3 c3 _ hs4).mono ?_
  rintro e w4 ⟨rfl, hb⟩
  have HU4 := Lib.hid (hu4.trans (hb.mono hu4.size)); clear hb hs4 hu4 HU3 HS
  go_wp2_with fail
  refine (sample_calls _).mono ?_
  rintro e w5 ⟨b5, c5, rfl, hs, hb⟩
  have HU5 := Lib.hid (HU4.out.trans (hb.mono HU4.out.size)); have HS := Lib.hid hs; clear hb hs HU4
  go_wp2_with fail
  refine (smp_missing _ _ _ HS.out).mono ?_
  rintro e w6 ⟨rfl, hb⟩
  have HU6 := Lib.hid (HU5.out.trans (hb.mono HU5.out.size)); clear hb HU5 HS
  go_wp2_with fail
  refine (sample_calls _).mono ?_
  rintro e w7 ⟨b7, c7, rfl, hs, hb⟩
  have HU7 := Lib.hid (HU6.out.trans (hb.mono HU6.out.size)); have HS := Lib.hid hs; clear hb hs HU6
  go_wp2_with fail
  refine (smp_shortest _ _ _ HS.out).mono ?_
  rintro e w8 ⟨rfl, hb⟩
  have HU8 := Lib.hid (HU7.out.trans (hb.mono HU7.out.size)); clear hb HU7 HS
  go_wp2_with fail
  refine (sample_calls _).mono ?_
  rintro e w9 ⟨b9, c9, rfl, hs, hb⟩
  have HU9 := Lib.hid (HU8.out.trans (hb.mono HU8.out.size)); have HS := Lib.hid hs; clear hb hs HU8
  go_wp2_with fail
  refine (smp_lists _ _ _ HS.out).mono ?_
  rintro e w10 ⟨rfl, hb⟩
  have HU10 := Lib.hid (HU9.out.trans (hb.mono HU9.out.size)); clear hb HU9 HS
  go_wp2_with fail
  refine (sample_calls _).mono ?_
  rintro e w11 ⟨b11, c11, rfl, hs, hb⟩
  have HU11 := Lib.hid (HU10.out.trans (hb.mono HU10.out.size)); have HS := Lib.hid hs; clear hb hs HU10
  go_wp2_with fail
  refine (smp_needed _ _ _ HS.out).mono ?_
  rintro e w12 ⟨rfl, hb⟩
  have HU12 := Lib.hid (HU11.out.trans (hb.mono HU11.out.size)); clear hb HU11 HS
  go_wp2_with fail
  refine (sample_calls _).mono ?_
  rintro e w13 ⟨b13, c13, rfl, hs, hb⟩
  have HU13 := Lib.hid (HU12.out.trans (hb.mono HU12.out.size)); have HS := Lib.hid hs; clear hb hs HU12
  go_wp2_with fail
  refine (smp_apart _ _ _ HS.out).mono ?_
  rintro e w14 ⟨v, rfl, hown, hb⟩
  have HU14 := Lib.hid (HU13.out.trans (hb.mono HU13.out.size)); have HOWN := Lib.hid hown; clear hb hown HU13 HS
  go_wp2_with fail
  have hz : SlW 2 prRow (w14.alloc (.cells #[.int .i64 0, .int .i64 0, .int .i64 2, .int .i64 0] 43)) v [(0, 0), (2, 0)] :=
    (slW_of_owns (E := 2) (row := prRow) (fun _ => rfl) (l := [(0, 0), (2, 0)]) HOWN.out).below (Nat.le_refl _) (Up.alloc _ (Up.refl _))
  have hz2 : SlW 2 prRow (w14.alloc (.cells #[.int .i64 0, .int .i64 0, .int .i64 2, .int .i64 0] 43)) (.slice (some ⟨w14.heap.size, 0, none⟩) 2 2) [(0, 0), (2, 0)] := by
    refine ⟨_, 2, rfl, by decide, .inr ⟨w14.heap.size, 0, rfl, by simp, ?_⟩⟩
    intro k hk j hj
    have hk2 : k < 2 := hk
    have hj2 : j < 2 := hj
    have hkk : k = 0 ∨ k = 1 := by omega
    have hjj : j = 0 ∨ j = 1 := by omega
    rcases hkk with rfl | rfl <;> rcases hjj with rfl | rfl <;> (simp only [prRow]; go_simp)
  refine (rPlaces_calls _ _ _ _ _ hz hz2).mono ?_
  rintro e w15 ⟨rfl, hb⟩
  have hu : Below w.heap.size w (w14.alloc (.cells #[.int .i64 0, .int .i64 0, .int .i64 2, .int .i64 0] 43)) := Up.alloc _ HU14.out
  have HUE := Lib.hid (hu.trans (hb.mono hu.size)); clear hz hz2 hb hu HOWN
  rw [show decide (([(0, 0), (2, 0)] : List (Int × Int)) = [(0, 0), (2, 0)]) = true from by decide]
  go_wp2_with fail
  go_ret
  exact ⟨rfl, HUE.out⟩

end Go.Proofs.Ytlfemkelnllmnaa
