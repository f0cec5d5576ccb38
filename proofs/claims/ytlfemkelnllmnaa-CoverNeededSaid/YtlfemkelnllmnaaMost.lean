/- The closure of cover.Apart that counts how many places can be apart. -/
import Derived.Test.YtlfemkelnllmnaaBits2
set_option linter.all false
set_option linter.unusedVariables false
set_option linter.unusedSimpArgs false
namespace Go.Proofs.Ytlfemkelnllmnaa
open Go.RowKit

/-- A set without the plates of another one. -/
def minusN (s k : Nat) : Nat := s &&& (18446744073709551615 - k)
theorem minusN_lt {s k : Nat} (h : s < 4096) : minusN s k < 4096 := Nat.lt_of_le_of_lt Nat.and_le_left h
theorem minus_u64 (s k : Nat) (hs : s < 4096) (hk : k < 4096) : bits .andNot .u64 (s : Int) (k : Int) = (minusN s k : Int) := u64_andNot_nat _ _ (by omega) (by omega)
theorem high_bit {s j : Nat} (hs : s < 4096) (hj : 12 ≤ j) : s.testBit j = false :=
  Nat.testBit_lt_two_pow (Nat.lt_of_lt_of_le hs (by have : 2 ^ 12 ≤ 2 ^ j := Nat.pow_le_pow_right (by omega) (by omega); omega))
theorem minusN_testBit (s k j : Nat) (hs : s < 4096) (hk : k < 4096) : (minusN s k).testBit j = (s.testBit j && !k.testBit j) := by
  unfold minusN
  have hb : (18446744073709551615 - k).testBit j = (decide (j < 64) && !k.testBit j) := by
    have := Nat.testBit_two_pow_sub_succ (show k < 2 ^ 64 by omega) j
    rwa [show 2 ^ 64 - (k + 1) = 18446744073709551615 - k by omega] at this
  rw [Nat.testBit_and, hb]
  by_cases hj : j < 64
  · simp [hj]
  · simp [high_bit hs (show 12 ≤ j by omega)]
theorem minusN_less {s k : Nat} (hs : s < 4096) (hk : k < 4096) (h0 : k ≠ 0) (hin : k &&& s = k) : minusN s k < s := by
  refine Nat.lt_of_le_of_ne Nat.and_le_left (fun e => ?_)
  obtain ⟨i, hi⟩ : ∃ i, k.testBit i = true := Classical.byContradiction fun hn => h0 (Nat.eq_of_testBit_eq fun i => by
    rw [Nat.zero_testBit]
    cases hb : k.testBit i with
    | false => rfl
    | true => exact absurd ⟨i, hb⟩ hn)
  have h1 := congrArg (fun n => n.testBit i) hin
  have h2 := congrArg (fun n => n.testBit i) e
  simp only [Nat.testBit_and, hi, Bool.true_and] at h1
  simp only [minusN_testBit s k i hs hk, h1, hi] at h2
  cases h2

/-- The best so far, and one kind more. -/
def bestOf (M : Nat → Nat) (free b k : Nat) : Nat := if k &&& free = k then max b (1 + M (minusN free k)) else b

/-- What 'most' has captured: known (its map mk), kinds, itself. -/
structure MostC (W : World) (b1 b2 b3 mk : Nat) (ks : List Nat) (M : Nat → Nat) : Prop where
  l1 : b1 < W.heap.size
  l2 : b2 < W.heap.size
  l3 : b3 < W.heap.size
  c1 : W.cell? ⟨b1, 0, none⟩ = some (.map (some mk))
  c2 : ∃ v, W.cell? ⟨b2, 0, none⟩ = some v ∧ SlW 1 setRow W v ks
  c3 : W.cell? ⟨b3, 0, none⟩ = some (.func (.func 40) #[] #[.pointer (some ⟨b1, 0, none⟩), .pointer (some ⟨b2, 0, none⟩), .pointer (some ⟨b3, 0, none⟩)])
  m : ∃ mm, MapIs W mk (fun s : Nat => Value.int .u64 (s : Int)) mm ∧ ∀ s v, mm s = some v → v = .int .i64 (M s : Nat)
theorem cells_not_map {W : World} {mk b o : Nat} {v : Value} {κ : Type} [DecidableEq κ] {ke : κ → Value} {m : κ → Option Value} (hm : MapIs W mk ke m) (h : W.cell? ⟨b, o, none⟩ = some v) : b ≠ mk := fun e => by
  subst e
  obtain ⟨ob, ho, hc⟩ := hm.isMap
  unfold World.cell? at h
  rw [ho] at h
  cases ob <;> simp_all [Obj.isCells]

/-- What a call of 'most' leaves: but for the map all is as it was. -/
structure Mostly (W W' : World) (mk : Nat) : Prop where
  g : W.grownBy W' (some mk)
theorem MostC.next {W W' : World} {b1 b2 b3 mk : Nat} {ks : List Nat} {M : Nat → Nat} (h : MostC W b1 b2 b3 mk ks M) (hg : W.grownBy W' (some mk)) (hm : ∃ mm, MapIs W' mk (fun s : Nat => Value.int .u64 (s : Int)) mm ∧ ∀ s v, mm s = some v → v = .int .i64 (M s : Nat)) : MostC W' b1 b2 b3 mk ks M := by
  obtain ⟨mm, hmm, _⟩ := h.m
  have hr : ∀ r, some mk = some r → ∃ o : Obj, W.heap[r]? = some o ∧ o.isCells = false := fun r e => by cases e; exact hmm.isMap
  obtain ⟨v, hv1, a, cap, rfl, hl, hx⟩ := h.c2
  have hs := hg.size
  refine ⟨Nat.lt_of_lt_of_le h.l1 hs, Nat.lt_of_lt_of_le h.l2 hs, Nat.lt_of_lt_of_le h.l3 hs, cell_kept h.c1 hg hr, ⟨_, cell_kept hv1 hg hr, a, cap, rfl, hl, hx.imp id ?_⟩, cell_kept h.c3 hg hr, hm⟩
  rintro ⟨b, off, ha, hb, hc⟩
  exact ⟨b, off, ha, Nat.lt_of_lt_of_le hb hs, fun k hk j hj => cell_kept (hc k hk j hj) hg hr⟩

set_option maxHeartbeats 4000000 in
theorem most_calls (b1 b2 b3 mk : Nat) (ks : List Nat) (M : Nat → Nat) (hks : ∀ k ∈ ks, k < 4096 ∧ k ≠ 0) (hM : ∀ free, free < 4096 → M free = ks.foldl (bestOf M free) 0) (hMb : ∀ free, free < 4096 → M free ≤ 12) :
    ∀ n free : Nat, free < 4096 → free < n → ∀ W, MostC W b1 b2 b3 mk ks M →
      Calls Try.prog 40 #[.int .u64 (free : Int), .pointer (some ⟨b1, 0, none⟩), .pointer (some ⟨b2, 0, none⟩), .pointer (some ⟨b3, 0, none⟩)] W fun e W' => e = .returned (.int .i64 (M free : Nat)) ∧ W.grownBy W' (some mk) ∧ MostC W' b1 b2 b3 mk ks M := by
  intro n
  induction n with
  | zero => intro free _ h; omega
  | succ n ih =>
    intro free hf hn W hC
    obtain ⟨mm, hmm, hmv⟩ := hC.m
    have c1 := hC.c1; have c3 := hC.c3
    obtain ⟨v, cv, a, cap, rfl, hl, hx⟩ := hC.c2
    have hz : ∀ w, (zeroValue 3).run Try.prog w = .ok (.int .i64 0) w := fun w => Try.zeroValue3 w
    have hlk := hmm.lookupOk setKeys Try.underlying82 hz free
    have HC := Lib.hid hC; have HX := Lib.hid hx; have HM := Lib.hid hM; have HIH := Lib.hid ih
    clear hC hx hM ih
    cases hmf : mm free with
    | some v =>
      rw [hmf, Option.getD_some, hmv free v hmf] at hlk
      simp only [Option.isSome_some] at hlk
      clear hmf hmv
      go_enter Try.func40, Try.ntmps40
      go_wp2
      go_ret
      exact ⟨rfl, World.grownBy.refl _ _, HC.out⟩
    | none =>
      rw [hmf, Option.getD_none] at hlk
      simp only [Option.isSome_none] at hlk
      clear hmf
      go_enter Try.func40, Try.ntmps40
      go_wp2
      have hlN : (ks.length : Int) ≤ 9223372036854775807 := by omega
      go_loopw [8, 21] (fun s8 s21 wr => ∃ j : Nat, s21 = .int .i64 (j : Int) ∧ j ≤ ks.length ∧ s8 = .int .i64 (((ks.take j).foldl (bestOf M free) 0 : Nat) : Int) ∧ (ks.take j).foldl (bestOf M free) 0 ≤ 13 ∧ W.grownBy wr (some mk) ∧ MostC wr b1 b2 b3 mk ks M) (fun _ s21 _ => (ks.length + 1 - intOf s21).toNat)
      case atStart => exact ⟨0, rfl, Nat.zero_le _, rfl, by simp, World.grownBy.refl _ _, HC.out⟩
      case round =>
        obtain ⟨j, rfl, hj, rfl, hb13, hg, hCr⟩ := hrel
        have c1r := hCr.c1; have c3r := hCr.c3
        have HG := Lib.hid hg; have HCR := Lib.hid hCr
        by_cases hin : j < ks.length
        · have hin2 : (j : Int) < (ks.length : Int) := by omega
          rcases HX.out with h | ⟨b, off, ha, hbl, hx⟩
          · subst h; simp at hin
          · subst ha
            have hr : ∀ r, some mk = some r → ∃ o : Obj, W.heap[r]? = some o ∧ o.isCells = false := fun r e => by cases e; exact hmm.isMap
            have hcell : wr.cell? ⟨b, off + j, none⟩ = some (.int .u64 ((ks[j] : Nat) : Int)) := by
              have := hx j hin 0 (by simp [setRow])
              simp only [setRow, Nat.mul_one, Nat.add_zero, List.getElem_cons_zero] at this
              exact cell_kept this hg hr
            have hkj := hks ks[j] (List.getElem_mem hin)
            have hns := notsub ks[j] free hkj.1 hf
            have hmi := minus_u64 free ks[j] hf hkj.1
            have htake : (ks.take (j + 1)).foldl (bestOf M free) 0 = bestOf M free ((ks.take j).foldl (bestOf M free) 0) ks[j] := by
              rw [List.take_succ_eq_append_getElem hin, List.foldl_append]; rfl
            have hless := fun h => minusN_less hf hkj.1 hkj.2 h
            have hmlt := minusN_lt (k := ks[j]) hf
            have hmb := hMb (minusN free ks[j]) hmlt
            have HT := Lib.hid htake; have HLS := Lib.hid hless
            clear htake hless hx hr hg hCr
            generalize ks[j] = kj at *
            generalize (ks.take j).foldl (bestOf M free) 0 = bj at *
            by_cases hsub : kj &&& free = kj
            · rw [decide_eq_true hsub] at hns
              have hcall := HIH.out (minusN free kj) hmlt (by have := HLS.out hsub; omega) wr HCR.out
              have HCA := Lib.hid hcall; have HSUB := Lib.hid hsub
              clear hcall hsub
              go_wp2_with fail
              refine HCA.out.mono ?_
              rintro e w' ⟨rfl, hg2, hC2⟩
              have HG2 := Lib.hid hg2; have HC2 := Lib.hid hC2
              clear hg2 hC2
              generalize hmz : M (minusN free kj) = mz at *
              have HMZ := Lib.hid hmz; clear hmz
              go_wp2
              go_roundw
              case rel =>
                have e1 := HT.out
                rw [bestOf, if_pos HSUB.out, HMZ.out] at e1
                refine ⟨j + 1, by go_num, by omega, ?_, by rw [e1]; omega, HG.out.trans HG2.out, HC2.out⟩
                have e2 : max (bj : Int) (1 + (mz : Int)) = ((max bj (1 + mz) : Nat) : Int) := by omega
                rw [e1, ← e2]
              case measure => simp [intOf]; omega
            · rw [decide_eq_false hsub] at hns
              have HSUB := Lib.hid hsub
              clear hsub
              go_wp2
              go_roundw
              case rel =>
                have e1 := HT.out
                rw [bestOf, if_neg HSUB.out] at e1
                exact ⟨j + 1, by go_num, by omega, by rw [e1], by rw [e1]; exact hb13, HG.out, HCR.out⟩
              case measure => simp [intOf]; omega
        · have hin2 : ¬ (j : Int) < (ks.length : Int) := by omega
          obtain rfl : j = ks.length := by omega
          have hfo : (ks.take ks.length).foldl (bestOf M free) 0 = M free := by rw [List.take_length]; exact (HM.out free hf).symm
          rw [hfo] at hb13 ⊢
          obtain ⟨mm2, hmm2, hmv2⟩ := hCr.m
          obtain ⟨o, hupd, hoc, hnx⟩ := hmm2.update setKeys Try.underlying82 free (.int .i64 (M free : Nat))
          have hml := hmm2.lt
          have hg3 : wr.grownBy (wr.putObj mk o) (some mk) := grownBy_putObj' _ _ _
          have hC3 := HCR.out.next hg3 ⟨_, hnx _ (World.putObj_heap_same hml), fun s v hsv => by
            unfold upd at hsv
            by_cases e : s = free
            · subst e; simp at hsv; exact hsv.symm
            · simp [e] at hsv; exact hmv2 s v hsv⟩
          have HG3 := Lib.hid (HG.out.trans hg3); have HC3 := Lib.hid hC3
          clear hnx hmm2 hmv2 hg3 hC3 hg hCr hfo
          go_wp2
          go_ret
          exact ⟨rfl, HG3.out, HC3.out⟩

end Go.Proofs.Ytlfemkelnllmnaa
