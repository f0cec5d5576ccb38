/- The document's words for fields (zoneworksref10): Size, Place, Of, Together, Places. -/
import Derived.Test.YtlfemkelnllmnaaRef10
import Derived.Test.YtlfemkelnllmnaaSets
set_option linter.all false
set_option linter.unusedVariables false
set_option linter.unusedSimpArgs false
namespace Go.Proofs.Ytlfemkelnllmnaa
open Go.RowKit

theorem size_step : ∀ s : Nat, s < 4096 → sizeN s = s % 2 + sizeN (s / 2) := by
  refine all_4096 _ ?_
  decide +kernel

set_option maxHeartbeats 1000000 in
theorem rSize_calls (s : Nat) (w : World) (hs : s < 4096) :
    Calls Try.prog 15 #[.int .i64 (s : Int)] w fun e w' => e = .returned (.int .i64 (sizeN s : Nat)) ∧ w = w' := by
  have hsz := sizeN_le s
  generalize hz : sizeN s = z at *
  have HZ := Lib.hid hz; clear hz
  go_enter Try.func15, Try.ntmps15
  go_wp2
  go_loopw [0, 3] (fun s0 s3 wr => ∃ t n : Nat, s0 = .int .i64 (t : Int) ∧ s3 = .int .i64 (n : Int) ∧ t < 4096 ∧ Hid (n + sizeN t = z) ∧ n ≤ 12 ∧ w = wr) (fun s0 _ _ => (intOf s0).toNat)
  case atStart => exact ⟨s, 0, rfl, rfl, hs, by unfold Hid; rw [HZ.out]; omega, by omega, rfl⟩
  case round =>
    obtain ⟨t, n, rfl, rfl, ht, hn, hn12, rfl⟩ := hrel
    by_cases h0 : 0 < t
    · have h1 : (0 : Int) < (t : Int) := by omega
      have hst := size_step t ht
      have hm : (t : Int).tmod 2 = ((t % 2 : Nat) : Int) := by rw [Int.tmod_eq_emod_of_nonneg (by omega)]; omega
      have hd : (t : Int).tdiv 2 = ((t / 2 : Nat) : Int) := by rw [Int.tdiv_eq_ediv_of_nonneg (by omega)]; omega
      have HST := Lib.hid hst; clear hst
      go_wp2
      go_roundw
      case rel =>
        have e1 := hn.out; have e2 := HST.out
        refine ⟨t / 2, n + t % 2, by go_num, ?_, by omega, by unfold Hid; omega, by have := sizeN_le (t / 2); omega, trivial⟩
        congr 1
      case measure => simp [intOf]; omega
    · have h1 : ¬ (0 : Int) < (t : Int) := by omega
      obtain rfl : t = 0 := by omega
      have e1 := hn.out
      have e2 : sizeN 0 = 0 := by decide
      obtain rfl : n = z := by omega
      clear e1 hn
      go_wp2
      go_ret
      exact ⟨rfl, rfl⟩

set_option maxHeartbeats 1000000 in
theorem rPlace_calls (a : Option Addr) (cap : Nat) (x : Fld) (east north : Int) (w : World) :
    Calls Try.prog 20 #[fldV a cap x, .int .i64 east, .int .i64 north] w fun e w' => e = .returned (.bool (withinB east x.e0 x.e1 && withinB north x.n0 x.n1)) ∧ Below w.heap.size w w' := by
  have htop : w.alloc (.cells #[.slice a x.ps.length cap, .int .i64 x.e0, .int .i64 x.e1, .int .i64 x.n0, .int .i64 x.n1, .int .i64 x.d0, .int .i64 x.d1, .int .i64 x.depth, .int .i64 x.times, .int .i64 x.gap] 26) = boxF w a cap x := rfl
  have HT := Lib.hid htop; clear htop
  have hF := boxF_is w a cap x
  have c1 := hF.c1; have c2 := hF.c2; have c3 := hF.c3; have c4 := hF.c4
  have hl := hF.lt
  have HU := Lib.hid (boxF_up w a cap x)
  clear hF
  generalize h1 : withinB east x.e0 x.e1 = b1
  generalize h2 : withinB north x.n0 x.n1 = b2
  have G1 := Lib.hid h1; have G2 := Lib.hid h2; clear h1 h2
  unfold fldV
  go_enter Try.func20, Try.ntmps20
  go_wp2_with fail
  rw [HT.out]
  generalize boxF w a cap x = w1 at *
  refine (rHas_calls _ _ _ _).mono ?_
  rintro e w2 ⟨rfl, hb1⟩
  obtain ⟨g1, rfl⟩ := GW.of hb1; clear hb1
  rw [G1.out]
  cases b1
  · go_wp2_with fail
    go_ret
    exact ⟨rfl, Up.gw _ HU.out⟩
  · go_wp2_with fail
    refine (rHas_calls _ _ _ _).mono ?_
    rintro e w3 ⟨rfl, hb2⟩
    obtain ⟨g2, rfl⟩ := GW.of hb2; clear hb2
    rw [G2.out]
    go_wp2_with fail
    go_ret
    exact ⟨by cases b2 <;> rfl, Up.gw _ (Up.gw _ HU.out)⟩

set_option maxHeartbeats 2000000 in
theorem rOf_calls (a : Option Addr) (cap : Nat) (x : Fld) (p : Sky) (w : World) :
    Calls Try.prog 45 #[fldV a cap x, .agg (skyRow p).toArray] w fun e w' => e = .returned (.bool (useB x p)) ∧ Below w.heap.size w w' := by
  have htop : w.alloc (.cells #[.slice a x.ps.length cap, .int .i64 x.e0, .int .i64 x.e1, .int .i64 x.n0, .int .i64 x.n1, .int .i64 x.d0, .int .i64 x.d1, .int .i64 x.depth, .int .i64 x.times, .int .i64 x.gap] 26) = boxF w a cap x := rfl
  have HT := Lib.hid htop; clear htop
  have hF := (boxF_is w a cap x)
  have c1 := hF.c1; have c2 := hF.c2; have c3 := hF.c3; have c4 := hF.c4; have c5 := hF.c5; have c6 := hF.c6; have c7 := hF.c7
  have hl := hF.lt
  have hl2 : w.heap.size < (boxF w a cap x).heap.size + 1 := by omega
  have HU := Lib.hid (boxF_up w a cap x)
  clear hF
  generalize h1 : withinB p.day x.d0 x.d1 = b1
  generalize h2 : decide (x.depth ≤ p.depth) = b2
  generalize h3 : decide (max p.e0 x.e0 ≤ min p.e1 x.e1) = b3
  generalize h4 : decide (max p.n0 x.n0 ≤ min p.n1 x.n1) = b4
  have hv : useB x p = (b1 && b2 && (b3 && b4)) := by
    unfold useB meetB
    rw [h1, h2, ← h3, ← h4]
    congr 2
    · rw [Bool.eq_iff_iff]; simp only [decide_eq_true_eq]; unfold imax imin; omega
    · rw [Bool.eq_iff_iff]; simp only [decide_eq_true_eq]; unfold imax imin; omega
  have G1 := Lib.hid h1
  rw [hv]
  clear h1 hv
  unfold fldV
  simp only [skyRow]
  go_enter Try.func45, Try.ntmps45
  go_wp2_with fail
  refine (rHas_calls _ _ _ _).mono ?_
  rintro e w2 ⟨rfl, hb1⟩
  rw [HT.out] at hb1
  obtain ⟨g1, rfl⟩ := GW.of hb1; clear hb1
  rw [G1.out]
  have hup : Hid (Below w.heap.size w g1.w) := Up.gw _ (Up.alloc _ HU.out)
  have e7 : g1.w.cell? ⟨w.heap.size, 7, none⟩ = some (.int .i64 x.depth) := by
    rw [g1.h.cell (p := ⟨w.heap.size, 7, none⟩) (by simp; omega)]
    go_simp
  have e3 : g1.w.cell? ⟨w.heap.size + 1, 5, none⟩ = some (.int .i64 p.depth) := by
    rw [g1.h.cell (p := ⟨w.heap.size + 1, 5, none⟩) (by simp [boxF])]
    unfold boxF
    go_simp
  have hlg : w.heap.size < g1.w.heap.size := Nat.lt_of_lt_of_le (by simp; omega) g1.h.size
  have hlg2 : w.heap.size + 1 < g1.w.heap.size := Nat.lt_of_lt_of_le (by simp [boxF]) g1.h.size
  generalize g1.w = w2 at *
  cases b1 <;> cases b2 <;> cases b3 <;> cases b4
  all_goals simp only [decide_eq_true_eq, decide_eq_false_iff_not] at h2 h3 h4
  all_goals go_wp2_with fail
  all_goals go_ret
  all_goals first | exact ⟨rfl, hup.out⟩ | (refine ⟨?_, hup.out⟩; simp; done) | (refine ⟨?_, hup.out⟩; simp; omega)

end Go.Proofs.Ytlfemkelnllmnaa
