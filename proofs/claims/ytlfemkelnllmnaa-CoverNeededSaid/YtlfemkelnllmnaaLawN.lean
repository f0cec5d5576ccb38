/- CoverNeeded: the walk. -/
import Derived.Test.YtlfemkelnllmnaaLawB
import Derived.Test.YtlfemkelnllmnaaMath4
set_option linter.all false
set_option linter.unusedVariables false
set_option linter.unusedSimpArgs false
namespace Go.Proofs.Ytlfemkelnllmnaa
open Go.RowKit

theorem andnot_zero {s u : Nat} (hs : s < 4096) (hu : u < 4096) (h : s &&& u = s) : bits .andNot .i64 (s : Int) (u : Int) = 0 := by
  have h1 := notsub s u hs hu
  rw [decide_eq_true h, u64_andNot_nat s u (by omega) (by omega)] at h1
  rw [i64_andNot_nat s u (by omega) (by omega)]
  simpa using h1

set_option maxHeartbeats 4000000 in
set_option maxRecDepth 10000 in
theorem needed_law (a : Option Addr) (cap : Nat) (x : Fld) (w : World) (hs : SlW 6 skyRow w (.slice a x.ps.length cap) x.ps) :
    Calls Try.prog 4 #[fldV a cap x] w fun e w' => e = .returned (.bool true) ∧ Below w.heap.size w w' := by
  have htop : w.alloc (.cells #[.slice a x.ps.length cap, .int .i64 x.e0, .int .i64 x.e1, .int .i64 x.n0, .int .i64 x.n1, .int .i64 x.d0, .int .i64 x.d1, .int .i64 x.depth, .int .i64 x.times, .int .i64 x.gap] 26) = boxF w a cap x := rfl
  have HT := Lib.hid htop; clear htop
  have HS := Lib.hid (hs.below (Nat.le_refl _) (boxF_up w a cap x)); have HU := Lib.hid (boxF_up w a cap x); have HF := Lib.hid (boxF_is w a cap x)
  clear hs
  have hH := fun W h => heavy_calls a cap x 12 300 W h
  have hSh := fun W h => shortest_calls a cap x W h
  have hNe := fun W h => needed_calls a cap x W h
  have hUs := fun W h => useful_calls a cap x W h
  have hLi := fun W h => lists_calls a cap x W h
  have hMi := fun t W h => missing_calls a cap x t W h
  have hFi := fun W h => rField_calls a cap x W h
  unfold fldV at *
  have HH := Lib.hid hH; have HSH := Lib.hid hSh; have HNE := Lib.hid hNe; have HUS := Lib.hid hUs; have HLI := Lib.hid hLi; have HMI := Lib.hid hMi; have HFI := Lib.hid hFi
  clear hH hSh hNe hUs hLi hMi hFi
  have HB0 := Lib.hid (Below.refl (boxF w a cap x).heap.size (boxF w a cap x))
  have hF := HF.out.below HF.out.lt HB0.out
  have c0 := hF.c0; have c1 := hF.c1; have c2 := hF.c2; have c3 := hF.c3; have c4 := hF.c4; have c5 := hF.c5; have c6 := hF.c6; have c7 := hF.c7; have c8 := hF.c8; have c9 := hF.c9
  have lf := hF.lt; clear hF
  go_enter Try.func4, Try.ntmps4
  go_wp2_with fail
  rw [HT.out]
  generalize boxF w a cap x = w1 at *
  clear HT
  refine (HH.out _ (HS.out.below (Nat.le_refl _) HB0.out)).mono ?_
  rintro e w2 ⟨rfl, hb⟩
  have HB1 := Lib.hid (HB0.out.trans (hb.mono HB0.out.size)); clear hb HB0
  clear c0 c1 c2 c3 c4 c5 c6 c7 c8 c9 lf
  have hF := HF.out.below HF.out.lt HB1.out
  have c0 := hF.c0; have c1 := hF.c1; have c2 := hF.c2; have c3 := hF.c3; have c4 := hF.c4; have c5 := hF.c5; have c6 := hF.c6; have c7 := hF.c7; have c8 := hF.c8; have c9 := hF.c9
  have lf := hF.lt; clear hF
  cases hhv : heavyB x 12 300 with
  | true =>
    clear hhv
    go_wp2_with fail
    refine (awake_calls _).mono ?_
    rintro e wz ⟨rfl, hb⟩
    have HBZ := Lib.hid (HB1.out.trans (hb.mono HB1.out.size)); clear hb
    go_wp2_with fail
    go_ret
    exact ⟨rfl, HU.out.trans (HBZ.out.mono HU.out.size)⟩
  | false =>
    clear hhv
    go_wp2_with fail
    refine (HFI.out _ (HS.out.below (Nat.le_refl _) HB1.out)).mono ?_
    rintro e w3 ⟨rfl, hb⟩
    have HB2 := Lib.hid (HB1.out.trans (hb.mono HB1.out.size)); clear hb HB1
    clear c0 c1 c2 c3 c4 c5 c6 c7 c8 c9 lf
    have hF := HF.out.below HF.out.lt HB2.out
    have c0 := hF.c0; have c1 := hF.c1; have c2 := hF.c2; have c3 := hF.c3; have c4 := hF.c4; have c5 := hF.c5; have c6 := hF.c6; have c7 := hF.c7; have c8 := hF.c8; have c9 := hF.c9
    have lf := hF.lt; clear hF
    cases hval : validB x with
    | false =>
      clear hval
      go_wp2_with fail
      refine (awake_calls _).mono ?_
      rintro e wz ⟨rfl, hb⟩
      have HBZ := Lib.hid (HB2.out.trans (hb.mono HB2.out.size)); clear hb
      go_wp2_with fail
      go_ret
      exact ⟨rfl, HU.out.trans (HBZ.out.mono HU.out.size)⟩
    | true =>
      have hlen := (valid_bounds hval).2.2.2.2.2.2.1
      have hall : wrap64 (wrap64 (2 ^ x.ps.length) - 1) = (allN x : Int) := all64 x.ps.length hlen
      have HVAL := Lib.hid hval; clear hval
      go_wp2_with fail
      refine (HNE.out _ (HS.out.below (Nat.le_refl _) HB2.out)).mono ?_
      rintro e w4 ⟨rfl, hb⟩
      have HB3 := Lib.hid (HB2.out.trans (hb.mono HB2.out.size)); clear hb HB2
      clear c0 c1 c2 c3 c4 c5 c6 c7 c8 c9 lf
      have hF := HF.out.below HF.out.lt HB3.out
      have c0 := hF.c0; have c1 := hF.c1; have c2 := hF.c2; have c3 := hF.c3; have c4 := hF.c4; have c5 := hF.c5; have c6 := hF.c6; have c7 := hF.c7; have c8 := hF.c8; have c9 := hF.c9
      have lf := hF.lt; clear hF
      go_wp2_with fail
      refine (HSH.out _ (HS.out.below (Nat.le_refl _) HB3.out)).mono ?_
      rintro e w5 ⟨rfl, hb⟩
      have HB4 := Lib.hid (HB3.out.trans (hb.mono HB3.out.size)); clear hb HB3
      clear c0 c1 c2 c3 c4 c5 c6 c7 c8 c9 lf
      have hF := HF.out.below HF.out.lt HB4.out
      have c0 := hF.c0; have c1 := hF.c1; have c2 := hF.c2; have c3 := hF.c3; have c4 := hF.c4; have c5 := hF.c5; have c6 := hF.c6; have c7 := hF.c7; have c8 := hF.c8; have c9 := hF.c9
      have lf := hF.lt; clear hF
      go_wp2_with fail
      refine (HUS.out _ (HS.out.below (Nat.le_refl _) HB4.out)).mono ?_
      rintro e w6 ⟨rfl, hb⟩
      have HB5 := Lib.hid (HB4.out.trans (hb.mono HB4.out.size)); clear hb HB4
      clear c0 c1 c2 c3 c4 c5 c6 c7 c8 c9 lf
      have hF := HF.out.below HF.out.lt HB5.out
      have c0 := hF.c0; have c1 := hF.c1; have c2 := hF.c2; have c3 := hF.c3; have c4 := hF.c4; have c5 := hF.c5; have c6 := hF.c6; have c7 := hF.c7; have c8 := hF.c8; have c9 := hF.c9
      have lf := hF.lt; clear hF
      have huv : usefulV x = (((usefulM x : Nat) : Int), 0) := by unfold usefulV; rw [if_pos HVAL.out]
      cases hsh : shortestL x with
      | none =>
        have hno := shortest_none HVAL.out hsh
        rw [list_all_useful] at hno
        have hsv : shortestV x = (0, 4) := by unfold shortestV; rw [if_pos HVAL.out, hsh]
        have hnv : neededV x = (0, 4) := by unfold neededV; rw [if_pos HVAL.out, hno]; rfl
        rw [hsv, hnv, huv]
        clear hsv hnv huv hsh hno
        dsimp only
        go_wp2_with fail
        refine (awake_calls _).mono ?_
        rintro e wz ⟨rfl, hb⟩
        have HBZ := Lib.hid (HB5.out.trans (hb.mono HB5.out.size)); clear hb
        go_wp2_with fail
        go_ret
        exact ⟨rfl, HU.out.trans (HBZ.out.mono HU.out.size)⟩
      | some s =>
        have hyes := (shortest_all HVAL.out).1 ⟨s, hsh⟩
        rw [list_all_useful] at hyes
        have hsv : shortestV x = ((s.val : Int), 0) := by unfold shortestV; rw [if_pos HVAL.out, hsh]
        have hnv : neededV x = (((neededM x : Nat) : Int), 0) := by unfold neededV; rw [if_pos HVAL.out, hyes]; rfl
        have hlv : listsV x = (((listsN x s.val : Nat) : Int), 0) := by unfold listsV; rw [if_pos HVAL.out, hsh]
        rw [hsv, hnv, huv]
        obtain ⟨hs1, _, _, _⟩ := shortest_some HVAL.out hsh
        have hal := allN_lt hlen
        have hul := usefulM_lt hlen
        have hnl := need_lt x
        have hn4 : neededM x < 4096 := by omega
        have hz1 := andnot_zero hn4 s.isLt (need_best HVAL.out hsh)
        have hz2 := andnot_zero hn4 hul (need_useful x)
        have hslt := s.isLt
        have HYES := Lib.hid hyes; have HSHL := Lib.hid hsh; have HLV := Lib.hid hlv
        clear hsv hnv huv hsh hyes hlv
        dsimp only
        go_wp2_with fail
        clear c0 c1 c2 c3 c4 c5 c6 c7 c8 c9 lf
        go_loopw [10, 11, 12, 13, 14, 84] (fun _ _ _ _ _ s84 wr => ∃ i : Nat, s84 = .int .i64 (i : Int) ∧ i ≤ x.ps.length ∧ Below w1.heap.size w1 wr) (fun _ _ _ _ _ s84 _ => (14 - intOf s84).toNat)
        case atStart => exact ⟨0, rfl, Nat.zero_le _, HB5.out⟩
        case round =>
          obtain ⟨i, rfl, hi, hb⟩ := hrel
          have HB6 := Lib.hid hb; clear hb HB5
          have hF := HF.out.below HF.out.lt HB6.out
          have c0 := hF.c0; have c1 := hF.c1; have c2 := hF.c2; have c3 := hF.c3; have c4 := hF.c4; have c5 := hF.c5; have c6 := hF.c6; have c7 := hF.c7; have c8 := hF.c8; have c9 := hF.c9
          have lf := hF.lt; clear hF
          by_cases hil : i < x.ps.length
          · have hil2 : (i : Int) < (x.ps.length : Int) := by omega
            have hi12 : i < 12 := by omega
            have hw1 := without_wrap64 (allN x) i hal hi12
            have hw2 := without_i64 (allN x) i hal hi12
            have hle : withoutN (allN x) i ≤ allN x := Nat.and_le_left
            have hnd := need_iff HVAL.out HYES.out i hil
            obtain ⟨q1, q2, n, hmv, hn1⟩ := missing_is HVAL.out hle
            have hmi := fun g : GW wr.heap.size wr => HMI.out ((withoutN (allN x) i : Nat) : Int) g.w ((HS.out.below (Nat.le_refl _) HB6.out).below (Nat.le_refl _) g.h)
            rw [hmv] at hmi
            have hbit := bit_i64 (neededM x) i hn4
            cases hlb : listB x (withoutN (allN x) i) with
            | true =>
              rw [hlb] at hmi hnd
              rw [hnd] at hbit
              have hbit2 : bits .and .i64 (((neededM x : Nat) : Int) / 2 ^ i) 1 = 0 := by rw [hbit]; rfl
              have HMV := Lib.hid hmi
              clear hmi hnd hbit hmv hn1 hlb
              dsimp only at HMV
              go_wp2_with fail
              refine GW.region wr (by kernel_rfl) (by kernel_rfl) (Up.refl _) ?_
              repeat (go_big_quiet_step ((go_at_call 14; exact GW.call (Nat.le_refl _) (HMV.out _))))
              refine wpQuiet_nil ?_
              rintro _ ⟨g, rfl⟩
              have HB7 := Lib.hid (HB6.out.trans (g.h.mono HB6.out.size))
              go_wp2_with fail
              go_roundw
              case rel => exact ⟨i + 1, by go_num, by omega, HB7.out⟩
              case measure => simp [intOf]; omega
            | false =>
              rw [hlb] at hmi hnd
              rw [hnd] at hbit
              have hbit2 : bits .and .i64 (((neededM x : Nat) : Int) / 2 ^ i) 1 = 1 := by rw [hbit]; rfl
              have hn2 := hn1 hlb
              have hd1 : decide (n < 1) = false := decide_eq_false (by omega)
              have HMV := Lib.hid hmi
              clear hmi hnd hbit hmv hn1 hlb
              dsimp only at HMV
              go_wp2_with fail
              refine GW.region wr (by kernel_rfl) (by kernel_rfl) (Up.refl _) ?_
              repeat (go_big_quiet_step ((go_at_call 14; exact GW.call (Nat.le_refl _) (HMV.out _))))
              refine wpQuiet_nil ?_
              rintro _ ⟨g, rfl⟩
              have HB7 := Lib.hid (HB6.out.trans (g.h.mono HB6.out.size))
              go_wp2_with fail
              go_roundw
              case rel => exact ⟨i + 1, by go_num, by omega, HB7.out⟩
              case measure => simp [intOf]; omega
          · have hil2 : ¬ (i : Int) < (x.ps.length : Int) := by omega
            obtain rfl : i = x.ps.length := by omega
            obtain ⟨q1, q2, n, hmv, _⟩ := missing_is HVAL.out hnl
            have hmi := HMI.out ((neededM x : Nat) : Int) wr (HS.out.below (Nat.le_refl _) HB6.out)
            rw [hmv] at hmi
            cases hlb : listB x (neededM x) with
            | true =>
              have he1 := need_list HVAL.out HSHL.out hlb
              have he2 := need_one HVAL.out HSHL.out hlb
              rw [hlb] at hmi
              have HMV := Lib.hid hmi
              have HE2 := Lib.hid he2; have HE1 := Lib.hid he1
              clear hmi hmv hlb he2 he1
              dsimp only at HMV
              go_wp2_with fail
              refine HMV.out.mono ?_
              rintro e w8 ⟨rfl, hb⟩
              have HB7 := Lib.hid (HB6.out.trans (hb.mono HB6.out.size)); clear hb
              clear c0 c1 c2 c3 c4 c5 c6 c7 c8 c9 lf
              have hF := HF.out.below HF.out.lt HB7.out
              have c0 := hF.c0; have c1 := hF.c1; have c2 := hF.c2; have c3 := hF.c3; have c4 := hF.c4; have c5 := hF.c5; have c6 := hF.c6; have c7 := hF.c7; have c8 := hF.c8; have c9 := hF.c9
              have lf := hF.lt; clear hF
              go_wp2_with fail
              refine (HLI.out _ (HS.out.below (Nat.le_refl _) HB7.out)).mono ?_
              rintro e w9 ⟨rfl, hb⟩
              have HB8 := Lib.hid (HB7.out.trans (hb.mono HB7.out.size)); clear hb HB7
              rw [HLV.out, HE2.out]
              have heq : ((s.val : Int) == ((neededM x : Nat) : Int)) = true := by rw [HE1.out]; simp
              dsimp only
              go_wp2_with fail
              refine (awake_calls _).mono ?_
              rintro e wz ⟨rfl, hb⟩
              have HBZ := Lib.hid (HB8.out.trans (hb.mono HB8.out.size)); clear hb
              go_wp2_with fail
              go_ret
              exact ⟨rfl, HU.out.trans (HBZ.out.mono HU.out.size)⟩
            | false =>
              rw [hlb] at hmi
              have HMV := Lib.hid hmi
              clear hmi hmv hlb
              dsimp only at HMV
              go_wp2_with fail
              refine HMV.out.mono ?_
              rintro e w8 ⟨rfl, hb⟩
              have HB7 := Lib.hid (HB6.out.trans (hb.mono HB6.out.size)); clear hb
              clear c0 c1 c2 c3 c4 c5 c6 c7 c8 c9 lf
              have hF := HF.out.below HF.out.lt HB7.out
              have c0 := hF.c0; have c1 := hF.c1; have c2 := hF.c2; have c3 := hF.c3; have c4 := hF.c4; have c5 := hF.c5; have c6 := hF.c6; have c7 := hF.c7; have c8 := hF.c8; have c9 := hF.c9
              have lf := hF.lt; clear hF
              go_wp2_with fail
              refine (HLI.out _ (HS.out.below (Nat.le_refl _) HB7.out)).mono ?_
              rintro e w9 ⟨rfl, hb⟩
              have HB8 := Lib.hid (HB7.out.trans (hb.mono HB7.out.size)); clear hb HB7
              rw [HLV.out]
              dsimp only
              go_wp2_with fail
              refine (awake_calls _).mono ?_
              rintro e wz ⟨rfl, hb⟩
              have HBZ := Lib.hid (HB8.out.trans (hb.mono HB8.out.size)); clear hb
              go_wp2_with fail
              go_ret
              exact ⟨rfl, HU.out.trans (HBZ.out.mono HU.out.size)⟩

end Go.Proofs.Ytlfemkelnllmnaa
