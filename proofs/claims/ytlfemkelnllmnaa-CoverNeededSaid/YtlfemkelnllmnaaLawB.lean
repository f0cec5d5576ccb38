/- CoverShortest: the walk. -/
import Derived.Test.YtlfemkelnllmnaaLawA
import Derived.Test.YtlfemkelnllmnaaBits3
set_option linter.all false
set_option linter.unusedVariables false
set_option linter.unusedSimpArgs false
namespace Go.Proofs.Ytlfemkelnllmnaa
open Go.RowKit

theorem all64 (n : Nat) (h : n ≤ 12) : wrap64 (wrap64 (2 ^ n) - 1) = ((2 ^ n - 1 : Nat) : Int) := by
  have : n = 0 ∨ n = 1 ∨ n = 2 ∨ n = 3 ∨ n = 4 ∨ n = 5 ∨ n = 6 ∨ n = 7 ∨ n = 8 ∨ n = 9 ∨ n = 10 ∨ n = 11 ∨ n = 12 := by omega
  rcases this with rfl | rfl | rfl | rfl | rfl | rfl | rfl | rfl | rfl | rfl | rfl | rfl | rfl <;> decide +kernel

set_option maxHeartbeats 4000000 in
set_option maxRecDepth 10000 in
theorem shortest_law (a : Option Addr) (cap : Nat) (x : Fld) (other : Nat) (w : World) (hs : SlW 6 skyRow w (.slice a x.ps.length cap) x.ps) (ho : other < 65536) :
    Calls Try.prog 3 #[fldV a cap x, .int .u16 (other : Int)] w fun e w' => e = .returned (.bool true) ∧ Below w.heap.size w w' := by
  have htop : w.alloc (.cells #[.slice a x.ps.length cap, .int .i64 x.e0, .int .i64 x.e1, .int .i64 x.n0, .int .i64 x.n1, .int .i64 x.d0, .int .i64 x.d1, .int .i64 x.depth, .int .i64 x.times, .int .i64 x.gap] 26) = boxF w a cap x := rfl
  have HT := Lib.hid htop; clear htop
  have HS := Lib.hid (hs.below (Nat.le_refl _) (boxF_up w a cap x)); have HU := Lib.hid (boxF_up w a cap x); have HF := Lib.hid (boxF_is w a cap x)
  clear hs
  have hH := fun W h => heavy_calls a cap x 9 100 W h
  have hSh := fun W h => shortest_calls a cap x W h
  have hLi := fun W h => lists_calls a cap x W h
  have hFi := fun W h => rField_calls a cap x W h
  unfold fldV at *
  have HH := Lib.hid hH; have HSH := Lib.hid hSh; have HLI := Lib.hid hLi; have HFI := Lib.hid hFi
  clear hH hSh hLi hFi
  have HB0 := Lib.hid (Below.refl (boxF w a cap x).heap.size (boxF w a cap x))
  have hF := HF.out.below HF.out.lt HB0.out
  have c0 := hF.c0; have c1 := hF.c1; have c2 := hF.c2; have c3 := hF.c3; have c4 := hF.c4; have c5 := hF.c5; have c6 := hF.c6; have c7 := hF.c7; have c8 := hF.c8; have c9 := hF.c9
  have lf := hF.lt; clear hF
  go_enter Try.func3, Try.ntmps3
  go_wp2_with fail
  rw [HT.out]
  generalize boxF w a cap x = w1 at *
  clear HT
  refine (HH.out _ (HS.out.below (Nat.le_refl _) HB0.out)).mono ?_
  rintro e w2 ⟨rfl, hb⟩
  have HB1 := Lib.hid (HB0.out.trans (hb.mono HB0.out.size)); clear hb HB0
  clear c0 c1 c2 c3 c4 c5 c6 c7 c8 c9 lf
  have hF := HF.out.below HF.out.lt HB1.out
  have c0 := hF.c0; have c1 := hF.c1; have c2 := hF.c2; have c3 := hF.c3; have c4 := hF.c4; have c5 := hF.c5; have c6 := hF.c6; have c7 := hF.c7; have c8 := hF.c8; have c9 := hF.c9
  have lf := hF.lt; clear hF
  cases hhv : heavyB x 9 100 with
  | true =>
    clear hhv
    go_wp2_with fail
    refine (awake_calls _).mono ?_
    rintro e w3 ⟨rfl, hb⟩
    have HB2 := Lib.hid (HB1.out.trans (hb.mono HB1.out.size)); clear hb HB1
    go_wp2_with fail
    go_ret
    exact ⟨rfl, HU.out.trans (HB2.out.mono HU.out.size)⟩
  | false =>
    have HHV := Lib.hid hhv; clear hhv
    go_wp2_with fail
    refine (HSH.out _ (HS.out.below (Nat.le_refl _) HB1.out)).mono ?_
    rintro e w3 ⟨rfl, hb⟩
    have HB2 := Lib.hid (HB1.out.trans (hb.mono HB1.out.size)); clear hb HB1
    clear c0 c1 c2 c3 c4 c5 c6 c7 c8 c9 lf
    have hF := HF.out.below HF.out.lt HB2.out
    have c0 := hF.c0; have c1 := hF.c1; have c2 := hF.c2; have c3 := hF.c3; have c4 := hF.c4; have c5 := hF.c5; have c6 := hF.c6; have c7 := hF.c7; have c8 := hF.c8; have c9 := hF.c9
    have lf := hF.lt; clear hF
    go_wp2_with fail
    refine (HLI.out _ (HS.out.below (Nat.le_refl _) HB2.out)).mono ?_
    rintro e w4 ⟨rfl, hb⟩
    have HB3 := Lib.hid (HB2.out.trans (hb.mono HB2.out.size)); clear hb HB2
    clear c0 c1 c2 c3 c4 c5 c6 c7 c8 c9 lf
    have hF := HF.out.below HF.out.lt HB3.out
    have c0 := hF.c0; have c1 := hF.c1; have c2 := hF.c2; have c3 := hF.c3; have c4 := hF.c4; have c5 := hF.c5; have c6 := hF.c6; have c7 := hF.c7; have c8 := hF.c8; have c9 := hF.c9
    have lf := hF.lt; clear hF
    go_wp2_with fail
    refine (HFI.out _ (HS.out.below (Nat.le_refl _) HB3.out)).mono ?_
    rintro e w5 ⟨rfl, hb⟩
    have HB4 := Lib.hid (HB3.out.trans (hb.mono HB3.out.size)); clear hb HB3
    clear c0 c1 c2 c3 c4 c5 c6 c7 c8 c9 lf
    have hF := HF.out.below HF.out.lt HB4.out
    have c0 := hF.c0; have c1 := hF.c1; have c2 := hF.c2; have c3 := hF.c3; have c4 := hF.c4; have c5 := hF.c5; have c6 := hF.c6; have c7 := hF.c7; have c8 := hF.c8; have c9 := hF.c9
    have lf := hF.lt; clear hF
    cases hval : validB x with
    | false =>
      have hsv : shortestV x = (0, 1) := by unfold shortestV; rw [hval]; rfl
      have hlv : listsV x = (0, 1) := by unfold listsV; rw [hval]; rfl
      rw [hsv, hlv]
      clear hsv hlv hval
      dsimp only
      go_wp2_with fail
      refine (awake_calls _).mono ?_
      rintro e w6 ⟨rfl, hb⟩
      have HB5 := Lib.hid (HB4.out.trans (hb.mono HB4.out.size)); clear hb HB4
      go_wp2_with fail
      go_ret
      exact ⟨rfl, HU.out.trans (HB5.out.mono HU.out.size)⟩
    | true =>
      have hlen := (valid_bounds hval).2.2.2.2.2.2.1
      have hall : wrap64 (wrap64 (2 ^ x.ps.length) - 1) = (allN x : Int) := all64 x.ps.length hlen
      have HIS := Lib.hid (fun t W (ht : t ≤ allN x) (hF : FBox W w.heap.size a cap x) hs => is_calls w.heap.size a cap x t W hval ht hF hs)
      have HVAL := Lib.hid hval
      cases hsh : shortestL x with
      | none =>
        have hsv : shortestV x = (0, 4) := by unfold shortestV; rw [if_pos hval, hsh]
        have hlv : listsV x = (0, 4) := by unfold listsV; rw [if_pos hval, hsh]
        rw [hsv, hlv]
        have hno := shortest_none hval hsh
        have HNO := Lib.hid hno
        clear hsv hlv hval hsh hno
        dsimp only
        go_wp2_with fail
        refine (HIS.out (allN x) _ (by omega) (HF.out.below HF.out.lt HB4.out) (HS.out.below (Nat.le_refl _) HB4.out)).mono ?_
        rintro e w6 ⟨rfl, hb⟩
        have HB5 := Lib.hid (HB4.out.trans (hb.mono HB4.out.size)); clear hb HB4
        rw [HNO.out]
        clear c0 c1 c2 c3 c4 c5 c6 c7 c8 c9 lf
        have hF := HF.out.below HF.out.lt HB5.out
        have c0 := hF.c0; have c1 := hF.c1; have c2 := hF.c2; have c3 := hF.c3; have c4 := hF.c4; have c5 := hF.c5; have c6 := hF.c6; have c7 := hF.c7; have c8 := hF.c8; have c9 := hF.c9
        have lf := hF.lt; clear hF
        go_wp2_with fail
        refine (awake_calls _).mono ?_
        rintro e w7 ⟨rfl, hb⟩
        have HB6 := Lib.hid (HB5.out.trans (hb.mono HB5.out.size)); clear hb HB5
        go_wp2_with fail
        go_ret
        exact ⟨rfl, HU.out.trans (HB6.out.mono HU.out.size)⟩
      | some s =>
        have hsv : shortestV x = ((s.val : Int), 0) := by unfold shortestV; rw [if_pos hval, hsh]
        have hlv : listsV x = (((listsN x s.val : Nat) : Int), 0) := by unfold listsV; rw [if_pos hval, hsh]
        rw [hsv, hlv]
        have hyes := (shortest_all hval).1 ⟨s, hsh⟩
        obtain ⟨hs1, hs2, hs3, _⟩ := shortest_some hval hsh
        have hpos := shortest_pos hval hsh
        have hcnt := lists_count hval hsh
        have HYES := Lib.hid hyes; have HSL := Lib.hid hs3; have HCNT := Lib.hid hcnt; have HSHL := Lib.hid hsh
        have hp1 : (1 : Int) ≤ (s.val : Int) := by omega
        have hp2 : (s.val : Int) ≤ (allN x : Int) := by omega
        have hd1 : decide ((s.val : Int) < 1) = false := decide_eq_false (by omega)
        have hd2 : decide (allN x < s.val) = false := decide_eq_false (by omega)
        have hal := allN_lt hlen
        have hslt := s.isLt
        clear hsv hlv hval hsh hyes hs2 hs3 hcnt
        generalize hsn : s.val = sn at *
        have HSN := Lib.hid hsn; clear hsn
        dsimp only
        go_wp2_with fail
        refine (HIS.out (allN x) _ (by omega) (HF.out.below HF.out.lt HB4.out) (HS.out.below (Nat.le_refl _) HB4.out)).mono ?_
        rintro e w6 ⟨rfl, hb⟩
        have HB5 := Lib.hid (HB4.out.trans (hb.mono HB4.out.size)); clear hb HB4
        rw [HYES.out]
        clear c0 c1 c2 c3 c4 c5 c6 c7 c8 c9 lf
        have hF := HF.out.below HF.out.lt HB5.out
        have c0 := hF.c0; have c1 := hF.c1; have c2 := hF.c2; have c3 := hF.c3; have c4 := hF.c4; have c5 := hF.c5; have c6 := hF.c6; have c7 := hF.c7; have c8 := hF.c8; have c9 := hF.c9
        have lf := hF.lt; clear hF
        go_wp2_with fail
        refine (HIS.out sn _ (by omega) (HF.out.below HF.out.lt HB5.out) (HS.out.below (Nat.le_refl _) HB5.out)).mono ?_
        rintro e w7 ⟨rfl, hb⟩
        have HB6 := Lib.hid (HB5.out.trans (hb.mono HB5.out.size)); clear hb HB5
        rw [HSL.out]
        clear c0 c1 c2 c3 c4 c5 c6 c7 c8 c9 lf
        have hF := HF.out.below HF.out.lt HB6.out
        have c0 := hF.c0; have c1 := hF.c1; have c2 := hF.c2; have c3 := hF.c3; have c4 := hF.c4; have c5 := hF.c5; have c6 := hF.c6; have c7 := hF.c7; have c8 := hF.c8; have c9 := hF.c9
        have lf := hF.lt; clear hF
        go_wp2_with fail
        obtain ⟨cnt, hc0, hcs, hce, hcl⟩ : ∃ cnt : Nat → Nat, cnt 0 = 0 ∧ (∀ k, cnt (k + 1) = cnt k + if (decide (sizeN k = sizeN sn) && listB x k) = true then 1 else 0) ∧ listsN x sn = cnt (allN x + 1) ∧ ∀ k, cnt k ≤ k :=
          ⟨fun k => (List.range k).countP fun t => decide (sizeN t = sizeN sn) && listB x t, rfl, fun k => by
            simp only [List.range_succ, List.countP_append, List.countP_singleton], HCNT.out, fun k => by
            have := List.countP_le_length (p := fun t => decide (sizeN t = sizeN sn) && listB x t) (l := List.range k); simpa using this⟩
        have HC0 := Lib.hid hc0; have HCS := Lib.hid hcs; have HCE := Lib.hid hce; have HCL := Lib.hid hcl
        clear hc0 hcs hce hcl HCNT
        go_loopw [12, 13, 97] (fun s12 _ s97 wr => ∃ k : Nat, s97 = .int .i64 (k : Int) ∧ k ≤ allN x + 1 ∧ s12 = .int .i64 ((cnt k : Nat) : Int) ∧ Below w1.heap.size w1 wr) (fun _ _ s97 _ => (4098 - intOf s97).toNat)
        case atStart => exact ⟨0, rfl, Nat.zero_le _, by rw [HC0.out]; rfl, HB6.out⟩
        case round =>
          clear c0 c1 c2 c3 c4 c5 c6 c7 c8 c9 lf
          obtain ⟨k, rfl, hk, rfl, hb⟩ := hrel
          have HB7 := Lib.hid hb; clear hb HB6
          by_cases hin : k < allN x + 1
          · have hin2 : (k : Int) < (allN x : Int) + 1 := by omega
            have hk4 : k < 4096 := by omega
            have hcl := HCL.out k
            have hcs := HCS.out k
            have HCK := Lib.hid hcs; clear hcs
            go_wp2_with fail
            refine (rSize_calls k _ hk4).mono ?_
            rintro e _ ⟨rfl, rfl⟩
            go_wp2_with fail
            refine (rSize_calls sn _ hslt).mono ?_
            rintro e _ ⟨rfl, rfl⟩
            by_cases hz : sizeN k = sizeN sn
            · have hz2 : (((sizeN k : Nat) : Int) == ((sizeN sn : Nat) : Int)) = true := by simp [hz]
              have HZ := Lib.hid hz; clear hz
              go_wp2_with fail
              refine (HIS.out k _ (by omega) (HF.out.below HF.out.lt HB7.out) (HS.out.below (Nat.le_refl _) HB7.out)).mono ?_
              rintro e w9 ⟨rfl, hb⟩
              have HB8 := Lib.hid (HB7.out.trans (hb.mono HB7.out.size)); clear hb
              cases hlk : listB x k with
              | true =>
                have h1 : cnt (k + 1) = cnt k + 1 := by rw [HCK.out, hlk, decide_eq_true HZ.out]; rfl
                have H1 := Lib.hid h1; clear h1 hlk
                go_wp2_with fail
                go_roundw
                case rel => exact ⟨k + 1, by go_num, by omega, by rw [H1.out]; try go_num, HB8.out⟩
                case measure => simp [intOf]; omega
              | false =>
                have h1 : cnt (k + 1) = cnt k := by rw [HCK.out, hlk]; simp
                have H1 := Lib.hid h1; clear h1 hlk
                go_wp2_with fail
                go_roundw
                case rel => exact ⟨k + 1, by go_num, by omega, by rw [H1.out]; try go_num, HB8.out⟩
                case measure => simp [intOf]; omega
            · have hz2 : (((sizeN k : Nat) : Int) == ((sizeN sn : Nat) : Int)) = false := by simp only [beq_eq_false_iff_ne, ne_eq]; omega
              have h1 : cnt (k + 1) = cnt k := by rw [HCK.out, decide_eq_false hz]; simp
              have H1 := Lib.hid h1; clear h1 hz
              go_wp2_with fail
              go_roundw
              case rel => exact ⟨k + 1, by go_num, by omega, by rw [H1.out], HB7.out⟩
              case measure => simp [intOf]; omega
          · have hin2 : ¬ (k : Int) < (allN x : Int) + 1 := by omega
            obtain rfl : k = allN x + 1 := by omega
            rw [← HCE.out]
            have hF := HF.out.below HF.out.lt HB7.out
            have c0 := hF.c0; have lf := hF.lt; clear hF
            go_wp2_with fail
            clear c0 lf
            go_loopw [14, 118] (fun _ s118 wr => ∃ i : Nat, s118 = .int .i64 (i : Int) ∧ i ≤ x.ps.length ∧ Below w1.heap.size w1 wr) (fun _ s118 _ => (14 - intOf s118).toNat)
            case atStart => exact ⟨0, rfl, Nat.zero_le _, HB7.out⟩
            case round =>
              obtain ⟨i, rfl, hi, hb⟩ := hrel
              have HB8 := Lib.hid hb; clear hb
              by_cases hil : i < x.ps.length
              · have hil2 : (i : Int) < (x.ps.length : Int) := by omega
                have hi12 : i < 12 := by omega
                cases hbit : sn.testBit i with
                | true =>
                  have hb64 : bits .and .i64 ((sn : Int) / 2 ^ i) 1 = 1 := by rw [bit_i64 sn i hslt, hbit]; rfl
                  have hw64 := without_wrap64 sn i hslt hi12
                  have hle : withoutN sn i ≤ allN x := Nat.le_trans Nat.and_le_left (by omega)
                  have hno := shortest_less HVAL.out HSHL.out (i := i) (t := withoutN sn i) (by rw [HSN.out]; exact hbit) (fun j hj => by rw [withoutN_testBit sn i j hslt hi12] at hj; rw [HSN.out]; simp at hj; exact hj.1) (by rw [withoutN_testBit sn i i hslt hi12]; simp) hle
                  have HNO := Lib.hid hno; clear hno hbit
                  go_wp2_with fail
                  refine (HIS.out (withoutN sn i) _ hle (HF.out.below HF.out.lt HB8.out) (HS.out.below (Nat.le_refl _) HB8.out)).mono ?_
                  rintro e w9 ⟨rfl, hb⟩
                  have HB9 := Lib.hid (HB8.out.trans (hb.mono HB8.out.size)); clear hb
                  rw [HNO.out]
                  go_wp2_with fail
                  go_roundw
                  case rel => exact ⟨i + 1, by go_num, by omega, HB9.out⟩
                  case measure => simp [intOf]; omega
                | false =>
                  have hb64 : bits .and .i64 ((sn : Int) / 2 ^ i) 1 = 0 := by rw [bit_i64 sn i hslt, hbit]; rfl
                  clear hbit
                  go_wp2_with fail
                  go_roundw
                  case rel => exact ⟨i + 1, by go_num, by omega, HB8.out⟩
                  case measure => simp [intOf]; omega
              · have hil2 : ¬ (i : Int) < (x.ps.length : Int) := by omega
                obtain rfl : i = x.ps.length := by omega
                have hown : bits .and .i64 (other : Int) (allN x : Int) = ((other &&& allN x : Nat) : Int) := i64_and_nat _ _ (by omega) (by omega)
                have hole : other &&& allN x ≤ allN x := Nat.and_le_right
                have hbest := shortest_best HVAL.out HSHL.out (t := other &&& allN x) hole
                rw [HSN.out] at hbest
                have HBEST := Lib.hid hbest; clear hbest
                generalize other &&& allN x = own at *
                have ho4 : own < 4096 := by omega
                go_wp2_with fail
                refine (HIS.out own _ hole (HF.out.below HF.out.lt HB8.out) (HS.out.below (Nat.le_refl _) HB8.out)).mono ?_
                rintro e w9 ⟨rfl, hb⟩
                have HB9 := Lib.hid (HB8.out.trans (hb.mono HB8.out.size)); clear hb
                cases hlo : listB x own with
                | true =>
                  obtain ⟨hz1, hz2⟩ := HBEST.out hlo
                  clear hlo
                  have hd5 : decide (sizeN own < sizeN sn) = false := decide_eq_false hz1
                  by_cases hz3 : sizeN own = sizeN sn
                  · have hz4 : ¬ own < sn := fun h => hz2 ⟨hz3, h⟩
                    have hd6 : decide (own < sn) = false := decide_eq_false hz4
                    have hd7 : (((sizeN own : Nat) : Int) == ((sizeN sn : Nat) : Int)) = true := by simp [hz3]
                    clear hz1 hz2 hz3 hz4
                    go_wp2_with fail
                    refine (rSize_calls own _ ho4).mono ?_
                    rintro e _ ⟨rfl, rfl⟩
                    go_wp2_with fail
                    refine (rSize_calls sn _ hslt).mono ?_
                    rintro e _ ⟨rfl, rfl⟩
                    go_wp2_with fail
                    refine (rSize_calls own _ ho4).mono ?_
                    rintro e _ ⟨rfl, rfl⟩
                    go_wp2_with fail
                    refine (rSize_calls sn _ hslt).mono ?_
                    rintro e _ ⟨rfl, rfl⟩
                    go_wp2_with fail
                    refine (awake_calls _).mono ?_
                    rintro e w10 ⟨rfl, hb⟩
                    have HB10 := Lib.hid (HB9.out.trans (hb.mono HB9.out.size)); clear hb
                    go_wp2_with fail
                    go_ret
                    exact ⟨rfl, HU.out.trans (HB10.out.mono HU.out.size)⟩
                  · have hd7 : (((sizeN own : Nat) : Int) == ((sizeN sn : Nat) : Int)) = false := by simp only [beq_eq_false_iff_ne, ne_eq]; omega
                    clear hz1 hz2 hz3
                    go_wp2_with fail
                    refine (rSize_calls own _ ho4).mono ?_
                    rintro e _ ⟨rfl, rfl⟩
                    go_wp2_with fail
                    refine (rSize_calls sn _ hslt).mono ?_
                    rintro e _ ⟨rfl, rfl⟩
                    go_wp2_with fail
                    refine (rSize_calls own _ ho4).mono ?_
                    rintro e _ ⟨rfl, rfl⟩
                    go_wp2_with fail
                    refine (rSize_calls sn _ hslt).mono ?_
                    rintro e _ ⟨rfl, rfl⟩
                    go_wp2_with fail
                    refine (awake_calls _).mono ?_
                    rintro e w10 ⟨rfl, hb⟩
                    have HB10 := Lib.hid (HB9.out.trans (hb.mono HB9.out.size)); clear hb
                    go_wp2_with fail
                    go_ret
                    exact ⟨rfl, HU.out.trans (HB10.out.mono HU.out.size)⟩
                | false =>
                  clear hlo
                  go_wp2_with fail
                  refine (awake_calls _).mono ?_
                  rintro e w10 ⟨rfl, hb⟩
                  have HB10 := Lib.hid (HB9.out.trans (hb.mono HB9.out.size)); clear hb
                  go_wp2_with fail
                  go_ret
                  exact ⟨rfl, HU.out.trans (HB10.out.mono HU.out.size)⟩

end Go.Proofs.Ytlfemkelnllmnaa
