/- Plain words: what CoverShortest and CoverNeeded ask. -/
import Derived.Test.YtlfemkelnllmnaaMath2
import Derived.Test.YtlfemkelnllmnaaNeeded
import Derived.Test.YtlfemkelnllmnaaLists3
set_option linter.all false
set_option linter.unusedVariables false
set_option linter.unusedSimpArgs false
namespace Go.Proofs.Ytlfemkelnllmnaa

theorem missL_nil (x : Fld) (s : Nat) : missL x s (placesL x) = [] ↔ listB x s = true := by
  rw [list_iff]
  unfold missL
  rw [List.filter_eq_nil_iff]
  simp
theorem missing_list {x : Fld} (hv : validB x = true) {t : Nat} (ht : t ≤ allN x) : (missingV x (t : Int)).2.2.2 = (if listB x t then 4 else 0) := by
  have hw : withinB (t : Int) 0 (allN x : Int) = true := by simp [withinB]; omega
  unfold missingV
  rw [if_pos hv, hw, if_pos rfl, Int.toNat_natCast]
  cases hm : missL x t (placesL x) with
  | nil => rw [if_pos ((missL_nil x t).1 hm)]
  | cons q l =>
    rw [if_neg]
    intro h
    rw [(missL_nil x t).2 h] at hm; cases hm
theorem lists_count {x : Fld} (hv : validB x = true) {s : Fin 4096} (h : shortestL x = some s) :
    listsN x s.val = (List.range (allN x + 1)).countP fun t => decide (sizeN t = sizeN s.val) && listB x t := by
  have hl := (valid_bounds hv).2.2.2.2.2.2.1
  obtain ⟨h1, h2, h3, h4⟩ := shortest_some hv h
  unfold listsN setsF
  rw [List.countP_map]
  have e1 : (setsL x).countP ((fun t : Fin 4096 => decide (sizeN t.val = sizeN s.val) && listB x t.val) ∘ f12) = (setsL x).countP fun t => decide (sizeN t = sizeN s.val) && listB x t := by
    refine List.countP_congr fun t ht => ?_
    simp only [Function.comp]
    rw [f12_val (Nat.lt_of_le_of_lt (mem_setsL.1 ht).1 (allN_lt hl))]
  rw [e1, List.countP_eq_length_filter, List.countP_eq_length_filter]
  refine List.Perm.length_eq ?_
  have nd1 : (setsL x).Nodup := (setsL_sorted x).imp fun {a b} hb e => by
    subst e
    rcases hb with hb | hb <;> omega
  refine (List.perm_ext_iff_of_nodup (nd1.filter _) (List.Pairwise.filter _ List.nodup_range)).2 fun t => ?_
  rw [List.mem_filter, List.mem_filter, mem_setsL, List.mem_range]
  simp only [Bool.and_eq_true, decide_eq_true_eq]
  constructor
  · rintro ⟨⟨h5, _⟩, h6⟩; exact ⟨by omega, h6⟩
  · rintro ⟨h5, h6, h7⟩
    refine ⟨⟨by omega, ?_⟩, h6, h7⟩
    -- a list as short has plates of use alone
    have hl2 : listB x (t &&& usefulM x) = true := by rw [list_useful]; exact h7
    have ht2 : t &&& usefulM x ≤ allN x := Nat.le_trans Nat.and_le_left (by omega)
    have hmono : sizeN (t &&& usefulM x) ≤ sizeN t := sizeN_mono fun i hi => by rw [Nat.testBit_and] at hi; simp at hi; exact hi.1
    have hge : sizeN s.val ≤ sizeN (t &&& usefulM x) := by
      rcases h4 _ ht2 hl2 with e | e | e
      · rw [e]; exact Nat.le_refl _
      · omega
      · omega
    refine sub_of_testBit fun i hi => Classical.byContradiction fun hno => ?_
    have hno' : (usefulM x).testBit i = false := by simpa using hno
    have := sizeN_lt (s := t &&& usefulM x) (t := t) (Nat.lt_of_le_of_lt (by omega : t ≤ allN x) (allN_lt hl)) (fun j hj => by rw [Nat.testBit_and] at hj; simp at hj; exact hj.1) i hi (by rw [Nat.testBit_and, hno']; simp)
    omega
/-- A list of no plates is none. -/
theorem list_zero {x : Fld} (hv : validB x = true) : listB x 0 = false := by
  cases h : listB x 0 with
  | false => rfl
  | true =>
    obtain ⟨⟨b1, b2, b3⟩, ⟨b4, b5, b6⟩, _⟩ := valid_bounds hv
    have hq : (x.e0, x.n0) ∈ placesL x := mem_places _ |>.2 ⟨⟨Int.le_refl _, b2⟩, Int.le_refl _, b5⟩
    have := (list_iff x 0).1 h _ hq
    rw [Nat.and_zero, serves_iff hv (Nat.two_pow_pos _)] at this
    obtain ⟨t, h1, h2, _⟩ := this
    rw [Nat.and_zero] at h1
    subst h1
    have : sizeN 0 = 0 := by decide
    have := (valid_bounds hv).2.2.2.2.1
    omega
theorem shortest_pos {x : Fld} (hv : validB x = true) {s : Fin 4096} (h : shortestL x = some s) : 1 ≤ s.val := by
  obtain ⟨_, _, h3, _⟩ := shortest_some hv h
  refine Nat.one_le_iff_ne_zero.2 fun e => ?_
  rw [e, list_zero hv] at h3; cases h3
/-- Without one of its plates the shortest list is none. -/
theorem shortest_less {x : Fld} (hv : validB x = true) {s : Fin 4096} (h : shortestL x = some s) {t i : Nat} (hi : s.val.testBit i = true) (ht : ∀ j, t.testBit j = true → s.val.testBit j = true) (hti : t.testBit i = false) (hta : t ≤ allN x) : listB x t = false := by
  obtain ⟨h1, _, _, h4⟩ := shortest_some hv h
  have hlt := sizeN_lt s.isLt ht i hi hti
  cases hl : listB x t with
  | false => rfl
  | true =>
    rcases h4 t hta hl with e | e | e
    · rw [e] at hlt; omega
    · omega
    · omega
theorem shortest_best {x : Fld} (hv : validB x = true) {s : Fin 4096} (h : shortestL x = some s) {t : Nat} (hta : t ≤ allN x) (hl : listB x t = true) : ¬ sizeN t < sizeN s.val ∧ ¬ (sizeN t = sizeN s.val ∧ t < s.val) := by
  obtain ⟨_, _, _, h4⟩ := shortest_some hv h
  rcases h4 t hta hl with e | e | e
  · rw [e]; omega
  · omega
  · omega
theorem shortest_all {x : Fld} (hv : validB x = true) : (∃ s, shortestL x = some s) ↔ listB x (allN x) = true := by
  constructor
  · rintro ⟨s, h⟩
    obtain ⟨h1, h2, h3, _⟩ := shortest_some hv h
    refine list_mono hv (fun i hi => ?_) h3
    have h5 := sub_testBit h2 i hi
    unfold usefulM at h5
    rw [maskN_testBit] at h5
    simp only [Bool.and_eq_true, decide_eq_true_eq] at h5
    unfold allN
    rw [Nat.testBit_two_pow_sub_one]; simp [h5.1]
  · intro h
    cases hs : shortestL x with
    | some s => exact ⟨s, rfl⟩
    | none => rw [shortest_none hv hs] at h; cases h

end Go.Proofs.Ytlfemkelnllmnaa
