/- The document's words for fields (zoneworksref10): in, span, has, Field, Place, Size. -/
import Derived.Test.YtlfemkelnllmnaaCover1
set_option linter.all false
set_option linter.unusedVariables false
set_option linter.unusedSimpArgs false
namespace Go.Proofs.Ytlfemkelnllmnaa
open Go.RowKit

set_option maxHeartbeats 400000 in
theorem rIn_calls (n lo hi : Int) (w : World) :
    Calls Try.prog 33 #[.int .i64 n, .int .i64 lo, .int .i64 hi] w fun e w' => e = .returned (.bool (withinB n lo hi)) ∧ w = w' := by
  have H : ∀ b, withinB n lo hi = b → Hid (withinB n lo hi = b) := fun _ h => h
  by_cases h1 : lo ≤ n
  · by_cases h2 : n ≤ hi
    · have h3 := H true (by simp [withinB, h1, h2]); clear H
      go_enter Try.func33, Try.ntmps33
      go_wp2
      go_ret
      exact ⟨ret_bool h3.out.symm, rfl⟩
    · have h3 := H false (by simp [withinB, h2]); clear H
      go_enter Try.func33, Try.ntmps33
      go_wp2
      go_ret
      exact ⟨ret_bool h3.out.symm, rfl⟩
  · have h3 := H false (by simp [withinB, h1]); clear H
    go_enter Try.func33, Try.ntmps33
    go_wp2
    go_ret
    exact ⟨ret_bool h3.out.symm, rfl⟩

set_option maxHeartbeats 400000 in
theorem rSpan_calls (lo hi high : Int) (w : World) :
    Calls Try.prog 32 #[.agg #[.int .i64 lo, .int .i64 hi], .int .i64 0, .int .i64 high] w fun e w' => e = .returned (.bool (spanB lo hi high)) ∧ Below w.heap.size w w' := by
  have H : ∀ b, spanB lo hi high = b → Hid (spanB lo hi high = b) := fun _ h => h
  by_cases h1 : 0 ≤ lo
  · by_cases h2 : lo ≤ hi
    · by_cases h3 : hi ≤ high
      · have h4 := H true (by simp [spanB, h1, h2, h3]); clear H
        go_enter Try.func32, Try.ntmps32
        go_wp2
        go_ret
        exact ⟨ret_bool h4.out.symm, (Below.refl _ _).alloc (Nat.le_refl _) _⟩
      · have h4 := H false (by simp [spanB, h3]); clear H
        go_enter Try.func32, Try.ntmps32
        go_wp2
        go_ret
        exact ⟨ret_bool h4.out.symm, (Below.refl _ _).alloc (Nat.le_refl _) _⟩
    · have h4 := H false (by simp [spanB, h2]); clear H
      go_enter Try.func32, Try.ntmps32
      go_wp2
      go_ret
      exact ⟨ret_bool h4.out.symm, (Below.refl _ _).alloc (Nat.le_refl _) _⟩
  · have h4 := H false (by simp [spanB, h1]); clear H
    go_enter Try.func32, Try.ntmps32
    go_wp2
    go_ret
    exact ⟨ret_bool h4.out.symm, (Below.refl _ _).alloc (Nat.le_refl _) _⟩

set_option maxHeartbeats 400000 in
theorem rHas_calls (lo hi n : Int) (w : World) :
    Calls Try.prog 44 #[.agg #[.int .i64 lo, .int .i64 hi], .int .i64 n] w fun e w' => e = .returned (.bool (withinB n lo hi)) ∧ Below w.heap.size w w' := by
  generalize hb : withinB n lo hi = b
  have HB := Lib.hid hb; clear hb
  go_enter Try.func44, Try.ntmps44
  go_wp2_with fail
  refine (rIn_calls _ _ _ _).mono ?_
  rintro e _ ⟨rfl, rfl⟩
  rw [HB.out]
  go_wp2
  go_ret
  exact ⟨rfl, (Below.refl _ _).alloc (Nat.le_refl _) _⟩

theorem validB_bad {x : Fld} (k : Nat) (hk : k < x.ps.length) (h : badSkyB x.ps[k] = true) : validB x = false := by
  have : x.ps.any badSkyB = true := List.any_eq_true.2 ⟨_, List.getElem_mem hk, h⟩
  unfold validB; rw [this]; simp
theorem not_any_snoc {x : Fld} (k : Nat) (hk : k < x.ps.length) (h0 : Hid ((x.ps.take k).any badSkyB = false)) (h : badSkyB x.ps[k] = false) : Hid ((x.ps.take (k + 1)).any badSkyB = false) := by
  unfold Hid at *
  rw [List.take_succ_eq_append_getElem hk, List.any_append, h0]; simp [h]
/-- What stands behind the loop of Field. -/
theorem validB_rest {x : Fld} (h0 : Hid ((x.ps.take x.ps.length).any badSkyB = false)) (b1 b2 b3 b4 b5 b6 b7 : Bool) (h1 : decide (12 < (x.ps.length : Int)) = b1) (h2 : spanB x.e0 x.e1 32 = b2) (h3 : spanB x.n0 x.n1 32 = b3) (h4 : spanB x.d0 x.d1 65536 = b4) (h5 : withinB x.depth 0 100 = b5) (h6 : withinB x.times 1 4 = b6) (h7 : withinB x.gap 0 65536 = b7) :
    validB x = (!(b1 || !b2 || !b3 || !b4) && (b5 && b6 && b7)) := by
  unfold Hid at h0
  rw [List.take_length] at h0
  have e1 : decide (x.ps.length ≤ 12) = !b1 := by rw [← h1, Bool.eq_iff_iff]; simp; omega
  unfold validB skyB numbersB
  rw [h0, e1, h2, h3, h4, h5, h6, h7]
  cases b1 <;> cases b2 <;> cases b3 <;> cases b4 <;> cases b5 <;> cases b6 <;> cases b7 <;> rfl

/-- A field in a box. -/
structure FBox (W : World) (b : Nat) (a : Option Addr) (cap : Nat) (x : Fld) : Prop where
  lt : b < W.heap.size
  c0 : W.cell? ⟨b, 0, none⟩ = some (.slice a x.ps.length cap)
  c1 : W.cell? ⟨b, 1, none⟩ = some (.int .i64 x.e0)
  c2 : W.cell? ⟨b, 2, none⟩ = some (.int .i64 x.e1)
  c3 : W.cell? ⟨b, 3, none⟩ = some (.int .i64 x.n0)
  c4 : W.cell? ⟨b, 4, none⟩ = some (.int .i64 x.n1)
  c5 : W.cell? ⟨b, 5, none⟩ = some (.int .i64 x.d0)
  c6 : W.cell? ⟨b, 6, none⟩ = some (.int .i64 x.d1)
  c7 : W.cell? ⟨b, 7, none⟩ = some (.int .i64 x.depth)
  c8 : W.cell? ⟨b, 8, none⟩ = some (.int .i64 x.times)
  c9 : W.cell? ⟨b, 9, none⟩ = some (.int .i64 x.gap)
/-- The world with a field in a new box. -/
def boxF (w : World) (a : Option Addr) (cap : Nat) (x : Fld) : World := w.alloc (.cells #[.slice a x.ps.length cap, .int .i64 x.e0, .int .i64 x.e1, .int .i64 x.n0, .int .i64 x.n1, .int .i64 x.d0, .int .i64 x.d1, .int .i64 x.depth, .int .i64 x.times, .int .i64 x.gap] 26)
theorem boxF_is (w : World) (a : Option Addr) (cap : Nat) (x : Fld) : FBox (boxF w a cap x) w.heap.size a cap x := by
  unfold boxF; refine ⟨by simp, ?_, ?_, ?_, ?_, ?_, ?_, ?_, ?_, ?_, ?_⟩ <;> go_simp
theorem boxF_up (w : World) (a : Option Addr) (cap : Nat) (x : Fld) : Below w.heap.size w (boxF w a cap x) := Up.alloc _ (Up.refl _)
theorem boxF_size (w : World) (a : Option Addr) (cap : Nat) (x : Fld) : (boxF w a cap x).heap.size = w.heap.size + 1 := by simp [boxF]
theorem FBox.below {w w' : World} {b : Nat} {a : Option Addr} {cap : Nat} {x : Fld} (h : FBox w b a cap x) {B : Nat} (hB : b < B) (hb : Below B w w') : FBox w' b a cap x := by
  have hc : ∀ o v, w.cell? ⟨b, o, none⟩ = some v → w'.cell? ⟨b, o, none⟩ = some v := fun o v hv => (hb.cell (p := ⟨b, o, none⟩) hB).trans hv
  exact ⟨Nat.lt_of_lt_of_le h.lt hb.size, hc _ _ h.c0, hc _ _ h.c1, hc _ _ h.c2, hc _ _ h.c3, hc _ _ h.c4, hc _ _ h.c5, hc _ _ h.c6, hc _ _ h.c7, hc _ _ h.c8, hc _ _ h.c9⟩

set_option maxHeartbeats 4000000 in
set_option maxRecDepth 10000 in
theorem rField_calls (a : Option Addr) (cap : Nat) (x : Fld) (w : World) (hs : SlW 6 skyRow w (.slice a x.ps.length cap) x.ps) :
    Calls Try.prog 12 #[fldV a cap x] w fun e w' => e = .returned (.bool (validB x)) ∧ Below w.heap.size w w' := by
  have hlen : x.ps.length ≤ 9223372036854775807 := by obtain ⟨_, _, _, h, _⟩ := hs; exact h
  have hlN : (x.ps.length : Int) ≤ 9223372036854775807 := by omega
  have htop : w.alloc (.cells #[.slice a x.ps.length cap, .int .i64 x.e0, .int .i64 x.e1, .int .i64 x.n0, .int .i64 x.n1, .int .i64 x.d0, .int .i64 x.d1, .int .i64 x.depth, .int .i64 x.times, .int .i64 x.gap] 26) = boxF w a cap x := rfl
  have HT := Lib.hid htop; clear htop
  have HS := Lib.hid (hs.below (Nat.le_refl _) (boxF_up w a cap x)); have HU := Lib.hid (boxF_up w a cap x); have HF := Lib.hid (boxF_is w a cap x); have HZ := Lib.hid (boxF_size w a cap x)
  clear hs
  unfold fldV
  go_enter Try.func12, Try.ntmps12
  go_wp2
  rw [HT.out]
  generalize boxF w a cap x = w1 at *
  clear HT
  go_loopw [3] (fun s3 wr => ∃ k : Nat, s3 = .int .i64 (k : Int) ∧ k ≤ x.ps.length ∧ Below w1.heap.size w1 wr ∧ Hid ((x.ps.take k).any badSkyB = false)) (fun s3 _ => (x.ps.length + 1 - intOf s3).toNat)
  case atStart => exact ⟨0, rfl, Nat.zero_le _, Below.refl _ _, by simp [Hid]⟩
  case round =>
    obtain ⟨k, rfl, hk, hb, hn⟩ := hrel
    have hF := HF.out.below HF.out.lt hb
    have HB := Lib.hid hb; clear hb
    have c0 := hF.c0; have lf := hF.lt
    by_cases hin : k < x.ps.length
    · have hin2 : (k : Int) < (x.ps.length : Int) := by omega
      rcases (HS.out.below (Nat.le_refl _) HB.out) with ⟨a', cap', hv, _, hx | ⟨ba, off, ha, hbl, hc⟩⟩
      · exfalso; rw [hx] at hin; simp at hin
      cases hv
      subst ha
      have hc' := hc k hin
      have q0 := hc' 0 (by simp [skyRow])
      have q1 := hc' 1 (by simp [skyRow])
      have q2 := hc' 2 (by simp [skyRow])
      have q3 := hc' 3 (by simp [skyRow])
      have q4 := hc' 4 (by simp [skyRow])
      have q5 := hc' 5 (by simp [skyRow])
      simp only [skyRow, List.getElem_cons_zero, List.getElem_cons_succ, Nat.add_zero] at q0 q1 q2 q3 q4 q5
      have hbad := validB_bad k hin
      have hsn := not_any_snoc k hin hn
      have HN := Lib.hid hn
      have HW : Hid (Below w.heap.size w wr) := HU.out.trans (HB.out.mono HU.out.size)
      have HW1 : Hid (∀ (g1 : GW (wr.alloc (.cells (skyRow x.ps[k]).toArray 48)).heap.size (wr.alloc (.cells (skyRow x.ps[k]).toArray 48))) (g2 : GW g1.w.heap.size g1.w), Below w1.heap.size w1 g2.w) := fun g1 g2 => Up.gw g2 (Up.gw g1 (Up.alloc _ HB.out))
      clear hc hc' hn hF
      generalize x.ps[k] = p at *
      generalize h1 : spanB p.e0 p.e1 32 = b1
      generalize h2 : spanB p.n0 p.n1 32 = b2
      generalize h3 : withinB p.day 0 65536 = b3
      generalize h4 : withinB p.depth 0 100 = b4
      have hbs : Hid (badSkyB p = (!b1 || !b2 || !b3 || !b4)) := by unfold Hid; rw [← h1, ← h2, ← h3, ← h4]; rfl
      have G1 := Lib.hid h1; have G2 := Lib.hid h2; have G3 := Lib.hid h3; have G4 := Lib.hid h4
      have HBAD := Lib.hid hbad; have HSNO := Lib.hid hsn
      clear h1 h2 h3 h4 hbad hsn
      go_wp2_with fail
      refine (rSpan_calls _ _ _ _).mono ?_
      rintro e w2 ⟨rfl, hb1⟩
      obtain ⟨g1, rfl⟩ := GW.of hb1; clear hb1
      rw [G1.out]
      cases b1
      · go_wp2_with fail
        go_ret
        exact ⟨ret_bool (HBAD.out (by rw [hbs.out]; rfl)).symm, Up.gw _ (Up.alloc _ HW.out)⟩
      · go_wp2_with fail
        refine (rSpan_calls _ _ _ _).mono ?_
        rintro e w3 ⟨rfl, hb2⟩
        obtain ⟨g2, rfl⟩ := GW.of hb2; clear hb2
        rw [G2.out]
        cases b2
        · go_wp2_with fail
          go_ret
          exact ⟨ret_bool (HBAD.out (by rw [hbs.out]; rfl)).symm, Up.gw _ (Up.gw _ (Up.alloc _ HW.out))⟩
        · go_wp2_with fail
          refine (rIn_calls _ _ _ _).mono ?_
          rintro e _ ⟨rfl, rfl⟩
          rw [G3.out]
          cases b3
          · go_wp2_with fail
            go_ret
            exact ⟨ret_bool (HBAD.out (by rw [hbs.out]; rfl)).symm, Up.gw _ (Up.gw _ (Up.alloc _ HW.out))⟩
          · go_wp2_with fail
            refine (rIn_calls _ _ _ _).mono ?_
            rintro e _ ⟨rfl, rfl⟩
            rw [G4.out]
            cases b4
            · go_wp2_with fail
              go_ret
              exact ⟨ret_bool (HBAD.out (by rw [hbs.out]; rfl)).symm, Up.gw _ (Up.gw _ (Up.alloc _ HW.out))⟩
            · go_wp2_with fail
              go_roundw
              case rel => exact ⟨k + 1, by go_num, by omega, HW1.out _ _, HSNO.out (by rw [hbs.out]; rfl)⟩
              case measure => simp [intOf]; omega
    · have hin2 : ¬ (k : Int) < (x.ps.length : Int) := by omega
      obtain rfl : k = x.ps.length := by omega
      have c1 := hF.c1; have c2 := hF.c2; have c3 := hF.c3; have c4 := hF.c4; have c5 := hF.c5; have c6 := hF.c6; have c7 := hF.c7; have c8 := hF.c8; have c9 := hF.c9
      have HW : Hid (Below w.heap.size w wr) := HU.out.trans (HB.out.mono HU.out.size)
      clear hF
      have hre := fun b1 b2 b3 b4 b5 b6 b7 => validB_rest (x := x) hn b1 b2 b3 b4 b5 b6 b7
      have HN := Lib.hid hn
      clear hn
      generalize h1 : decide (12 < (x.ps.length : Int)) = b1 at *
      generalize h2 : spanB x.e0 x.e1 32 = b2 at *
      generalize h3 : spanB x.n0 x.n1 32 = b3 at *
      generalize h4 : spanB x.d0 x.d1 65536 = b4 at *
      generalize h5 : withinB x.depth 0 100 = b5 at *
      generalize h6 : withinB x.times 1 4 = b6 at *
      generalize h7 : withinB x.gap 0 65536 = b7 at *
      have HV : Hid (validB x = (!(b1 || !b2 || !b3 || !b4) && (b5 && b6 && b7))) := hre b1 b2 b3 b4 b5 b6 b7 rfl rfl rfl rfl rfl rfl rfl
      have G1 := Lib.hid h1; have G2 := Lib.hid h2; have G3 := Lib.hid h3; have G4 := Lib.hid h4; have G5 := Lib.hid h5; have G6 := Lib.hid h6; have G7 := Lib.hid h7
      clear h1 h2 h3 h4 h5 h6 h7 hre
      cases b1
      · have h12 : ¬ (12 < (x.ps.length : Int)) := of_decide_eq_false G1.out
        go_wp2_with fail
        refine (rSpan_calls _ _ _ _).mono ?_
        rintro e w2 ⟨rfl, hb1⟩
        obtain ⟨g1, rfl⟩ := GW.of hb1; clear hb1
        rw [G2.out]
        cases b2
        · go_wp2_with fail
          go_ret
          exact ⟨ret_bool (by rw [HV.out]; rfl), Up.gw _ HW.out⟩
        · go_wp2_with fail
          refine (rSpan_calls _ _ _ _).mono ?_
          rintro e w3 ⟨rfl, hb2⟩
          obtain ⟨g2, rfl⟩ := GW.of (g1.h.trans (hb2.mono g1.h.size)); clear hb2
          rw [G3.out]
          cases b3
          · go_wp2_with fail
            go_ret
            exact ⟨ret_bool (by rw [HV.out]; rfl), Up.gw _ HW.out⟩
          · go_wp2_with fail
            refine (rSpan_calls _ _ _ _).mono ?_
            rintro e w4 ⟨rfl, hb3⟩
            obtain ⟨g3, rfl⟩ := GW.of (g2.h.trans (hb3.mono g2.h.size)); clear hb3
            rw [G4.out]
            cases b4
            · go_wp2_with fail
              go_ret
              exact ⟨ret_bool (by rw [HV.out]; rfl), Up.gw _ HW.out⟩
            · go_wp2_with fail
              refine (rIn_calls _ _ _ _).mono ?_
              rintro e _ ⟨rfl, rfl⟩
              rw [G5.out]
              cases b5
              · go_wp2_with fail
                go_ret
                exact ⟨ret_bool (by rw [HV.out]; rfl), Up.gw _ HW.out⟩
              · go_wp2_with fail
                refine (rIn_calls _ _ _ _).mono ?_
                rintro e _ ⟨rfl, rfl⟩
                rw [G6.out]
                cases b6
                · go_wp2_with fail
                  go_ret
                  exact ⟨ret_bool (by rw [HV.out]; rfl), Up.gw _ HW.out⟩
                · go_wp2_with fail
                  refine (rIn_calls _ _ _ _).mono ?_
                  rintro e _ ⟨rfl, rfl⟩
                  rw [G7.out]
                  go_wp2_with fail
                  go_ret
                  exact ⟨ret_bool (by rw [HV.out]; cases b7 <;> rfl), Up.gw _ HW.out⟩
      · have h12 : 12 < (x.ps.length : Int) := of_decide_eq_true G1.out
        go_wp2_with fail
        go_ret
        exact ⟨ret_bool (by rw [HV.out]; rfl), HW.out⟩

end Go.Proofs.Ytlfemkelnllmnaa
