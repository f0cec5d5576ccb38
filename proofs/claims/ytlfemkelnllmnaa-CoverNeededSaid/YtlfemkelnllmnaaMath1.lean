/- Plain words: days that are far enough apart, chosen one by one. -/
import Derived.Test.YtlfemkelnllmnaaServes
set_option linter.all false
set_option linter.unusedVariables false
set_option linter.unusedSimpArgs false
namespace Go.Proofs.Ytlfemkelnllmnaa

/-! ### Sorting -/
def insI (d : Int) : List Int → List Int
  | [] => [d]
  | e :: l => if d ≤ e then d :: e :: l else e :: insI d l
def isortI : List Int → List Int
  | [] => []
  | d :: l => insI d (isortI l)
theorem insI_perm (d : Int) : ∀ l, (insI d l).Perm (d :: l)
  | [] => .refl _
  | e :: l => by
    rw [insI]
    split
    · exact .refl _
    · exact ((insI_perm d l).cons e).trans (List.Perm.swap d e l)
theorem insI_sorted (d : Int) : ∀ l, l.Pairwise (· ≤ ·) → (insI d l).Pairwise (· ≤ ·)
  | [], _ => by simp [insI]
  | e :: l, h => by
    rw [insI]
    rw [List.pairwise_cons] at h
    split
    · rename_i hde
      rw [List.pairwise_cons, List.pairwise_cons]
      refine ⟨fun a ha => ?_, h⟩
      rcases List.mem_cons.1 ha with rfl | ha
      · exact hde
      · exact Int.le_trans hde (h.1 a ha)
    · rename_i hde
      rw [List.pairwise_cons]
      refine ⟨fun a ha => ?_, insI_sorted d l h.2⟩
      rcases List.mem_cons.1 ((insI_perm d l).mem_iff.1 ha) with rfl | ha
      · omega
      · exact h.1 a ha
theorem isortI_perm : ∀ l, (isortI l).Perm l
  | [] => .refl _
  | d :: l => (insI_perm d _).trans ((isortI_perm l).cons d)
theorem isortI_sorted : ∀ l, (isortI l).Pairwise (· ≤ ·)
  | [] => .nil
  | d :: l => insI_sorted d _ (isortI_sorted l)
theorem sorted_unique {l m : List Int} (h : l.Perm m) (hl : l.Pairwise (· ≤ ·)) (hm : m.Pairwise (· ≤ ·)) : l = m :=
  List.Perm.eq_of_pairwise (le := (· ≤ ·)) (fun _ _ _ _ h1 h2 => Int.le_antisymm h1 h2) hl hm h
theorem sortI_perm (l : List Int) : (sortI l).Perm l := List.mergeSort_perm _ _
theorem sortI_sorted (l : List Int) : (sortI l).Pairwise (· ≤ ·) := by
  have := List.pairwise_mergeSort (le := fun a b : Int => decide (a ≤ b)) (fun a b c h1 h2 => by simp at *; omega) (fun a b => by simp; omega) l
  exact this.imp (fun h => by simpa using h)
theorem sortI_eq (l : List Int) : sortI l = isortI l := sorted_unique ((sortI_perm l).trans (isortI_perm l).symm) (sortI_sorted l) (isortI_sorted l)

/-! ### The greatest number of days that are far enough apart -/
/-- How many are taken after a day 'last'. -/
def moreL (gap : Int) : Int → List Int → Nat
  | _, [] => 0
  | last, d :: l => if gap ≤ d - last then moreL gap d l + 1 else moreL gap last l
theorem takeL_more (gap : Int) : ∀ (l : List Int) (n last : Int), 1 ≤ n → (l.foldl (takeS gap) (n, last)).1 = n + (moreL gap last l : Nat)
  | [], n, last, _ => by simp [moreL]
  | d :: l, n, last, hn => by
    rw [List.foldl_cons, moreL]
    unfold takeS
    by_cases h : gap ≤ d - last
    · rw [if_pos (.inr h), if_pos h]
      have := takeL_more gap l (n + 1) d (by omega)
      unfold takeS at this
      rw [this]; push_cast; omega
    · rw [if_neg (by simp; omega), if_neg h]
      have := takeL_more gap l n last hn
      unfold takeS at this
      exact this
theorem takeL_cons (gap d : Int) (l : List Int) : (takeL gap (d :: l)).1 = 1 + (moreL gap d l : Nat) := by
  unfold takeL
  rw [List.foldl_cons]
  have : takeS gap (0, 0) d = (1, d) := by simp [takeS]
  rw [this]
  exact takeL_more gap l 1 d (by omega)
theorem takeL_nil (gap : Int) : (takeL gap []).1 = 0 := rfl
/-- Whatever lies far enough apart in a sorted list is no more than is taken. -/
theorem moreL_best (gap : Int) : ∀ (l : List Int), l.Pairwise (· ≤ ·) → ∀ (last : Int) (m : List Int), m.Sublist l → m.Pairwise (fun a b => gap ≤ b - a) → (∀ a ∈ m, gap ≤ a - last) → m.length ≤ moreL gap last l
  | [], _, last, m, hm, _, _ => by simp [List.sublist_nil.1 hm]
  | d :: l, hl, last, m, hm, hp, hg => by
    rw [List.pairwise_cons] at hl
    have key : ∀ a m', (a :: m').Sublist (d :: l) → (a :: m').Pairwise (fun a b => gap ≤ b - a) → m'.length ≤ moreL gap d l := by
      intro a m' h1 h2
      rw [List.pairwise_cons] at h2
      have hda : d ≤ a := by
        rcases List.mem_cons.1 (h1.subset (List.mem_cons_self ..)) with rfl | h
        · exact Int.le_refl _
        · exact hl.1 a h
      refine moreL_best gap l hl.2 d m' ?_ h2.2 (fun c hc => ?_)
      · cases h1 with
        | cons _ h => exact (List.sublist_cons_self a m').trans h
        | cons_cons _ h => exact h
      · have := h2.1 c hc; omega
    cases m with
    | nil => simp
    | cons a m' =>
      rw [moreL]
      by_cases h : gap ≤ d - last
      · rw [if_pos h]
        have := key a m' hm hp
        simp; omega
      · rw [if_neg h]
        refine moreL_best gap l hl.2 last (a :: m') ?_ hp hg
        cases hm with
        | cons _ h2 => exact h2
        | cons_cons _ h2 => exact absurd (hg d (List.mem_cons_self ..)) h
/-- And as many as are taken lie far enough apart. -/
theorem moreL_some (gap : Int) (hg0 : 0 ≤ gap) : ∀ (l : List Int) (last : Int), ∃ m : List Int, m.Sublist l ∧ m.length = moreL gap last l ∧ m.Pairwise (fun a b => gap ≤ b - a) ∧ ∀ a ∈ m, gap ≤ a - last
  | [], last => ⟨[], .slnil, rfl, .nil, by simp⟩
  | d :: l, last => by
    rw [moreL]
    by_cases h : gap ≤ d - last
    · rw [if_pos h]
      obtain ⟨m, h1, h2, h3, h4⟩ := moreL_some gap hg0 l d
      refine ⟨d :: m, h1.cons_cons d, by simp [h2], List.pairwise_cons.2 ⟨h4, h3⟩, fun a ha => ?_⟩
      rcases List.mem_cons.1 ha with rfl | ha
      · exact h
      · have := h4 a ha; omega
    · rw [if_neg h]
      obtain ⟨m, h1, h2, h3, h4⟩ := moreL_some gap hg0 l last
      exact ⟨m, h1.cons d, h2, h3, h4⟩
theorem takeL_best (gap : Int) (l : List Int) (hl : l.Pairwise (· ≤ ·)) (m : List Int) (hm : m.Sublist l) (hp : m.Pairwise (fun a b => gap ≤ b - a)) : (m.length : Int) ≤ (takeL gap l).1 := by
  cases l with
  | nil => rw [List.sublist_nil.1 hm]; simp [takeL_nil]
  | cons d l =>
    rw [takeL_cons]
    cases m with
    | nil => simp; omega
    | cons a m' =>
      rw [List.pairwise_cons] at hl hp
      have hda : d ≤ a := by
        rcases List.mem_cons.1 (hm.subset (List.mem_cons_self ..)) with rfl | h
        · exact Int.le_refl _
        · exact hl.1 a h
      have := moreL_best gap l hl.2 d m' (by
        cases hm with
        | cons _ h => exact (List.sublist_cons_self a m').trans h
        | cons_cons _ h => exact h) hp.2 (fun c hc => by have := hp.1 c hc; omega)
      simp; omega
theorem takeL_some (gap : Int) (hg0 : 0 ≤ gap) (l : List Int) : ∃ m : List Int, m.Sublist l ∧ (m.length : Int) = (takeL gap l).1 ∧ m.Pairwise (fun a b => gap ≤ b - a) := by
  cases l with
  | nil => exact ⟨[], .slnil, by simp [takeL_nil], .nil⟩
  | cons d l =>
    obtain ⟨m, h1, h2, h3, h4⟩ := moreL_some gap hg0 l d
    exact ⟨d :: m, h1.cons_cons d, by rw [takeL_cons]; simp [h2]; omega, List.pairwise_cons.2 ⟨h4, h3⟩⟩

/-! ### The same of sets of plates -/
def dayI (x : Fld) (i : Nat) : Int := (x.ps.getD i default).day
/-- Plates whose days are far enough apart. -/
def wide (x : Fld) (t : Nat) : Prop := ∀ i j, t.testBit i = true → t.testBit j = true → i ≠ j → x.gap ≤ dayI x i - dayI x j ∨ x.gap ≤ dayI x j - dayI x i
def idxN (s n : Nat) : List Nat := (List.range n).filter s.testBit
theorem daysN_idx (x : Fld) (s : Nat) : ∀ n, daysN x s n = (idxN s n).map (dayI x)
  | 0 => rfl
  | n + 1 => by
    rw [daysN, daysN_idx x s n, idxN, idxN, List.range_succ, List.filter_append, List.map_append]
    congr 1
    by_cases h : s.testBit n = true
    · simp [h, dayI]
    · simp [h]
theorem idxN_nodup (s n : Nat) : (idxN s n).Nodup := List.Pairwise.filter _ List.nodup_range
theorem mem_idxN (s n i : Nat) : i ∈ idxN s n ↔ i < n ∧ s.testBit i = true := by simp [idxN]
theorem sizeN_idx {s n : Nat} (hs : s < 2 ^ n) (hn : n ≤ 12) : sizeN s = (idxN s n).length := by
  unfold sizeN idxN
  rw [List.countP_eq_length_filter]
  have : ((List.range 12).filter s.testBit).Perm ((List.range n).filter s.testBit) := by
    refine (List.perm_ext_iff_of_nodup (List.Pairwise.filter _ List.nodup_range) (List.Pairwise.filter _ List.nodup_range)).2 (fun a => ?_)
    simp only [List.mem_filter, List.mem_range]
    constructor
    · rintro ⟨h1, h2⟩
      refine ⟨Classical.byContradiction fun h => ?_, h2⟩
      have := Nat.testBit_lt_two_pow (Nat.lt_of_lt_of_le hs (Nat.pow_le_pow_right (by omega) (show n ≤ a by omega)))
      rw [this] at h2; cases h2
    · rintro ⟨h1, h2⟩; exact ⟨by omega, h2⟩
  exact this.length_eq
theorem sub_testBit {t k : Nat} (h : t &&& k = t) (i : Nat) (hi : t.testBit i = true) : k.testBit i = true := by
  have := congrArg (fun n => n.testBit i) h
  simp only [Nat.testBit_and, hi, Bool.true_and] at this
  exact this
theorem sub_of_testBit {t k : Nat} (h : ∀ i, t.testBit i = true → k.testBit i = true) : t &&& k = t := by
  apply Nat.eq_of_testBit_eq
  intro i
  rw [Nat.testBit_and]
  cases ht : t.testBit i
  · rfl
  · rw [h i ht]; rfl

theorem pairwise_all {α : Type} {R : α → α → Prop} (hs : ∀ a b, R a b → R b a) (hr : ∀ a, R a a) : ∀ {l : List α}, l.Pairwise R → ∀ a ∈ l, ∀ b ∈ l, R a b
  | [], _, _, h, _, _ => by cases h
  | c :: l, h, a, ha, b, hb => by
    rw [List.pairwise_cons] at h
    rcases List.mem_cons.1 ha with h1 | h1 <;> rcases List.mem_cons.1 hb with h2 | h2
    · rw [h1, h2]; exact hr _
    · rw [h1]; exact h.1 b h2
    · rw [h2]; exact hs _ _ (h.1 a h1)
    · exact pairwise_all hs hr h.2 a h1 b h2
theorem serves_iff {x : Fld} (hv : validB x = true) {k : Nat} (hk : k < 2 ^ x.ps.length) : servesB x k = true ↔ ∃ t : Nat, t &&& k = t ∧ x.times ≤ (sizeN t : Int) ∧ wide x t := by
  have hb := valid_bounds hv
  have hg0 := hb.2.2.2.2.2.1.1
  have hn := hb.2.2.2.2.2.2.1
  -- the plates of the set, by rising days
  let σ := (idxN k x.ps.length).mergeSort fun i j => decide (dayI x i ≤ dayI x j)
  have hperm : σ.Perm (idxN k x.ps.length) := List.mergeSort_perm _ _
  have hsort : σ.Pairwise fun i j => dayI x i ≤ dayI x j := by
    have := List.pairwise_mergeSort (le := fun i j : Nat => decide (dayI x i ≤ dayI x j)) (fun a b c h1 h2 => by simp at *; omega) (fun a b => by simp; omega) (idxN k x.ps.length)
    exact this.imp (fun h => by simpa using h)
  have hnd : σ.Nodup := hperm.nodup_iff.2 (idxN_nodup _ _)
  have hmap : sortI (daysN x k x.ps.length) = σ.map (dayI x) := by
    refine sorted_unique ((sortI_perm _).trans ?_) (sortI_sorted _) (List.pairwise_map.2 hsort)
    rw [daysN_idx]
    exact (hperm.map _).symm
  have hmem : ∀ i, i ∈ σ ↔ i < x.ps.length ∧ k.testBit i = true := fun i => by rw [hperm.mem_iff, mem_idxN]
  unfold servesB
  rw [hmap, decide_eq_true_eq]
  constructor
  · intro ht
    obtain ⟨m, h1, h2, h3⟩ := takeL_some x.gap hg0 (σ.map (dayI x))
    obtain ⟨l, hl, rfl⟩ := List.sublist_map_iff.1 h1
    have hlm : ∀ i ∈ l, i < x.ps.length ∧ k.testBit i = true := fun i hi => (hmem i).1 (hl.subset hi)
    have hlnd : l.Nodup := hnd.sublist hl
    have htb : ∀ i, (maskN (fun i => decide (i ∈ l)) x.ps.length).testBit i = decide (i ∈ l) := fun i => by
      rw [maskN_testBit]
      by_cases hi : i ∈ l
      · simp [hi, (hlm i hi).1]
      · simp [hi]
    refine ⟨maskN (fun i => decide (i ∈ l)) x.ps.length, sub_of_testBit fun i hi => ?_, ?_, ?_⟩
    · rw [htb] at hi; exact (hlm i (by simpa using hi)).2
    · rw [sizeN_idx (maskN_lt _ _) hn]
      have : (idxN (maskN (fun i => decide (i ∈ l)) x.ps.length) x.ps.length).Perm l := by
        refine (List.perm_ext_iff_of_nodup (idxN_nodup _ _) hlnd).2 (fun i => ?_)
        rw [mem_idxN, htb]
        constructor
        · rintro ⟨_, h⟩; simpa using h
        · intro h; exact ⟨(hlm i h).1, by simpa using h⟩
      rw [this.length_eq]
      rw [List.length_map] at h2
      omega
    · intro i j hi hj hne
      rw [htb] at hi hj
      have hi' : i ∈ l := by simpa using hi
      have hj' : j ∈ l := by simpa using hj
      have hpw : l.Pairwise fun i j => x.gap ≤ dayI x j - dayI x i := List.pairwise_map.1 h3
      have hsym : l.Pairwise fun i j => i ≠ j → x.gap ≤ dayI x i - dayI x j ∨ x.gap ≤ dayI x j - dayI x i := hpw.imp (fun h _ => .inr h)
      exact pairwise_all (R := fun i j => i ≠ j → x.gap ≤ dayI x i - dayI x j ∨ x.gap ≤ dayI x j - dayI x i) (fun _ _ h hne => (h hne.symm).symm) (fun _ h => absurd rfl h) hsym i hi' j hj' hne
  · rintro ⟨t, h1, h2, h3⟩
    have htk : t < 2 ^ x.ps.length := by
      rw [← h1]; exact Nat.lt_of_le_of_lt Nat.and_le_right hk
    have hp : (σ.filter t.testBit).Perm (idxN t x.ps.length) := by
      refine (List.perm_ext_iff_of_nodup (hnd.filter _) (idxN_nodup _ _)).2 (fun i => ?_)
      rw [List.mem_filter, hmem, mem_idxN]
      constructor
      · rintro ⟨⟨a, _⟩, b⟩; exact ⟨a, b⟩
      · rintro ⟨a, b⟩; exact ⟨⟨a, sub_testBit h1 i b⟩, b⟩
    have hpw : ((σ.filter t.testBit).map (dayI x)).Pairwise (fun a b => x.gap ≤ b - a) := by
      rw [List.pairwise_map, List.pairwise_filter]
      have hboth : σ.Pairwise fun i j => i ≠ j ∧ dayI x i ≤ dayI x j := by
        have := hnd
        exact List.Pairwise.and this hsort
      refine hboth.imp (fun {i j} h hi hj => ?_)
      rcases h3 i j hi hj h.1 with h | h <;> omega
    have := takeL_best x.gap (σ.map (dayI x)) (List.pairwise_map.2 hsort) _ (List.filter_sublist.map _) hpw
    rw [List.length_map, hp.length_eq, ← sizeN_idx htk hn] at this
    omega

end Go.Proofs.Ytlfemkelnllmnaa
