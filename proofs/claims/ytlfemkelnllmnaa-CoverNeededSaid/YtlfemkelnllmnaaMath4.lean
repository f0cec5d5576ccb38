/- Plain words: what CoverNeeded asks. -/
import Derived.Test.YtlfemkelnllmnaaMath3
import Derived.Test.YtlfemkelnllmnaaBits2
set_option linter.all false
set_option linter.unusedVariables false
set_option linter.unusedSimpArgs false
namespace Go.Proofs.Ytlfemkelnllmnaa

theorem missing_is {x : Fld} (hv : validB x = true) {t : Nat} (ht : t ≤ allN x) : ∃ q1 q2 n : Int, missingV x (t : Int) = (q1, q2, n, if listB x t then 4 else 0) ∧ (listB x t = false → 1 ≤ n) := by
  have h := missing_list hv ht
  refine ⟨(missingV x (t : Int)).1, (missingV x (t : Int)).2.1, (missingV x (t : Int)).2.2.1, by rw [← h], fun hl => ?_⟩
  have hw : withinB (t : Int) 0 (allN x : Int) = true := by simp [withinB]; omega
  unfold missingV
  rw [if_pos hv, hw, if_pos rfl, Int.toNat_natCast]
  cases hm : missL x t (placesL x) with
  | nil => rw [(missL_nil x t).1 hm] at hl; cases hl
  | cons q l => simp; omega
theorem testBit_all {x : Fld} (i : Nat) : (allN x).testBit i = decide (i < x.ps.length) := by unfold allN; rw [Nat.testBit_two_pow_sub_one]
theorem list_all_useful {x : Fld} : listB x (allN x) = listB x (usefulM x) := by
  rw [← list_useful]
  congr 1
  rw [Nat.and_comm]
  refine sub_of_testBit fun i hi => ?_
  unfold usefulM at hi
  rw [maskN_testBit] at hi
  simp only [Bool.and_eq_true, decide_eq_true_eq] at hi
  rw [testBit_all]; simp [hi.1]
/-- All plates but one are a list just if those of use but that one are. -/
theorem list_without {x : Fld} (hv : validB x = true) (i : Nat) (hi : i < 12) : listB x (withoutN (allN x) i) = listB x (withoutN (usefulM x) i) := by
  have hl := (valid_bounds hv).2.2.2.2.2.2.1
  rw [← list_useful]
  congr 1
  apply Nat.eq_of_testBit_eq
  intro j
  rw [Nat.testBit_and, withoutN_testBit _ i j (allN_lt hl) hi, withoutN_testBit _ i j (usefulM_lt hl) hi]
  cases hu : (usefulM x).testBit j with
  | false => simp
  | true =>
    have hj : (allN x).testBit j = true := by
      have : usefulM x &&& allN x = usefulM x := sub_of_testBit fun k hk => by
        unfold usefulM at hk
        rw [maskN_testBit] at hk
        simp only [Bool.and_eq_true, decide_eq_true_eq] at hk
        rw [testBit_all]; simp [hk.1]
      exact sub_testBit this j hu
    rw [hj]; simp
theorem need_iff {x : Fld} (hv : validB x = true) (hl : listB x (usefulM x) = true) (i : Nat) (hi : i < x.ps.length) : (neededM x).testBit i = !listB x (withoutN (allN x) i) := by
  have hlen := (valid_bounds hv).2.2.2.2.2.2.1
  rw [list_without hv i (by omega)]
  unfold neededM
  rw [maskN_testBit]
  unfold needI
  cases hu : (usefulM x).testBit i with
  | true => simp [hi]
  | false =>
    have e : withoutN (usefulM x) i = usefulM x := by
      apply Nat.eq_of_testBit_eq
      intro j
      rw [withoutN_testBit _ i j (usefulM_lt hlen) (by omega)]
      by_cases hj : j = i
      · subst hj; rw [hu]; simp
      · simp [hj]
    rw [e, hl]; simp
theorem need_lt (x : Fld) : neededM x ≤ allN x := by have := maskN_lt (needI x) x.ps.length; unfold neededM allN; omega
theorem need_useful (x : Fld) : neededM x &&& usefulM x = neededM x := sub_of_testBit fun i hi => by
  unfold neededM at hi
  rw [maskN_testBit] at hi
  unfold needI at hi
  simp only [Bool.and_eq_true] at hi
  exact hi.2.1
/-- A plate that is needed is in each list. -/
theorem need_in {x : Fld} (hv : validB x = true) {t : Nat} (hta : t ≤ allN x) (ht : listB x t = true) (i : Nat) (hi : (neededM x).testBit i = true) : t.testBit i = true := by
  have hlen := (valid_bounds hv).2.2.2.2.2.2.1
  have hi' := hi
  unfold neededM at hi'
  rw [maskN_testBit] at hi'
  unfold needI at hi'
  simp only [Bool.and_eq_true, decide_eq_true_eq, Bool.not_eq_true'] at hi'
  obtain ⟨h1, h2, h3⟩ := hi'
  refine Classical.byContradiction fun hno => ?_
  rw [← list_without hv i (by omega)] at h3
  have hmono := list_mono hv (s := t) (s' := withoutN (allN x) i) (fun j hj => by
    rw [withoutN_testBit _ i j (allN_lt hlen) (by omega)]
    have hne : j ≠ i := fun e => hno (by rw [← e]; exact hj)
    have hja : (allN x).testBit j = true := by
      rw [testBit_all]
      refine decide_eq_true (Classical.byContradiction fun hge => ?_)
      have hlt : t < 2 ^ j := Nat.lt_of_lt_of_le (show t < 2 ^ x.ps.length by unfold allN at hta; have := Nat.two_pow_pos x.ps.length; omega) (Nat.pow_le_pow_right (by omega) (by omega))
      rw [Nat.testBit_lt_two_pow hlt] at hj; cases hj
    rw [hja]; simp [hne]) ht
  rw [h3] at hmono; cases hmono
theorem need_best {x : Fld} (hv : validB x = true) {s : Fin 4096} (h : shortestL x = some s) : neededM x &&& s.val = neededM x := by
  obtain ⟨h1, _, h3, _⟩ := shortest_some hv h
  exact sub_of_testBit fun i hi => need_in hv h1 h3 i hi
theorem sub_size_eq {s t : Nat} (ht : t < 4096) (h : s &&& t = s) (hs : sizeN t ≤ sizeN s) : s = t := by
  apply Nat.eq_of_testBit_eq
  intro i
  cases hi : t.testBit i with
  | true =>
    cases hsi : s.testBit i with
    | true => rfl
    | false =>
      have := sizeN_lt ht (fun j hj => sub_testBit h j hj) i hi hsi
      omega
  | false =>
    cases hsi : s.testBit i with
    | true => rw [sub_testBit h i hsi] at hi; cases hi
    | false => rfl
/-- If those that are needed are a list, it is the shortest one. -/
theorem need_list {x : Fld} (hv : validB x = true) {s : Fin 4096} (h : shortestL x = some s) (hn : listB x (neededM x) = true) : neededM x = s.val := by
  obtain ⟨h1, _, h3, h4⟩ := shortest_some hv h
  refine sub_size_eq s.isLt (need_best hv h) ?_
  rcases h4 _ (need_lt x) hn with e | e | e
  · rw [e]; exact Nat.le_refl _
  · omega
  · omega
theorem need_one {x : Fld} (hv : validB x = true) {s : Fin 4096} (h : shortestL x = some s) (hn : listB x (neededM x) = true) : listsN x s.val = 1 := by
  have he := need_list hv h hn
  have hlen := (valid_bounds hv).2.2.2.2.2.2.1
  obtain ⟨h1, _, h3, h4⟩ := shortest_some hv h
  rw [lists_count hv h]
  have hc : (List.range (allN x + 1)).countP (fun t => decide (sizeN t = sizeN s.val) && listB x t) = (List.range (allN x + 1)).count s.val := by
    rw [List.count]
    refine List.countP_congr fun t ht => ?_
    rw [List.mem_range] at ht
    simp only [Bool.and_eq_true, decide_eq_true_eq, beq_iff_eq]
    constructor
    · rintro ⟨h5, h6⟩
      have hsub : s.val &&& t = s.val := by rw [← he]; exact sub_of_testBit fun i hi => need_in hv (by omega) h6 i hi
      exact (sub_size_eq (Nat.lt_of_lt_of_le ht (by have := allN_lt hlen; omega)) hsub (by omega)).symm
    · rintro rfl; exact ⟨rfl, h3⟩
  rw [hc, List.nodup_range.count, if_pos (List.mem_range.2 (by omega))]

end Go.Proofs.Ytlfemkelnllmnaa
