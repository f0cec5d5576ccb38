/- Plain words: lists of plates; the shortest one, and how many there are. -/
import Derived.Test.YtlfemkelnllmnaaMath1
import Derived.Test.YtlfemkelnllmnaaMissing3
import Derived.Test.YtlfemkelnllmnaaReads
set_option linter.all false
set_option linter.unusedVariables false
set_option linter.unusedSimpArgs false
namespace Go.Proofs.Ytlfemkelnllmnaa

theorem mem_rowL (a : Int) (q : Int × Int) : ∀ (n : Nat) (b : Int), q ∈ rowL a b n ↔ q.1 = a ∧ b ≤ q.2 ∧ q.2 < b + n
  | 0, b => by
    simp only [rowL, List.not_mem_nil, false_iff]
    omega
  | n + 1, b => by
    rw [rowL, List.mem_cons, mem_rowL a q n (b + 1), Prod.ext_iff]
    push_cast
    constructor
    · rintro (⟨h1, h2⟩ | ⟨h1, h2, h3⟩)
      · omega
      · omega
    · rintro ⟨h1, h2, h3⟩
      by_cases h : q.2 = b
      · exact .inl ⟨h1, h⟩
      · exact .inr ⟨h1, by omega, by omega⟩
theorem mem_gridL (b : Int) (m : Nat) (q : Int × Int) : ∀ (n : Nat) (a : Int), q ∈ gridL a b m n ↔ (a ≤ q.1 ∧ q.1 < a + n) ∧ b ≤ q.2 ∧ q.2 < b + m
  | 0, a => by
    simp only [gridL, List.not_mem_nil, false_iff]
    omega
  | n + 1, a => by
    rw [gridL, List.mem_append, mem_rowL, mem_gridL b m q n (a + 1)]
    push_cast
    constructor
    · rintro (⟨h1, h2⟩ | h) <;> omega
    · rintro ⟨⟨h1, h2⟩, h3⟩
      by_cases h : q.1 = a
      · exact .inl ⟨h, h3⟩
      · exact .inr ⟨⟨by omega, by omega⟩, h3⟩
theorem mem_places {x : Fld} (q : Int × Int) : q ∈ placesL x ↔ (x.e0 ≤ q.1 ∧ q.1 ≤ x.e1) ∧ x.n0 ≤ q.2 ∧ q.2 ≤ x.n1 := by
  unfold placesL
  rw [mem_gridL]
  omega
theorem mem_kinds (x : Fld) (k : Nat) (l : List (Int × Int)) : k ∈ kindsOf x l ↔ ∃ q ∈ l, atM x q = k := by
  have key : ∀ (l : List (Int × Int)) (acc : List Nat), k ∈ l.foldl (fun l q => if atM x q ∈ l then l else l ++ [atM x q]) acc ↔ k ∈ acc ∨ ∃ q ∈ l, atM x q = k := by
    intro l
    induction l with
    | nil => simp
    | cons q l ih =>
      intro acc
      rw [List.foldl_cons, ih]
      split
      · rename_i h
        constructor
        · rintro (h1 | ⟨q', h1, h2⟩)
          · exact .inl h1
          · exact .inr ⟨q', List.mem_cons_of_mem _ h1, h2⟩
        · rintro (h1 | ⟨q', h1, h2⟩)
          · exact .inl h1
          · rcases List.mem_cons.1 h1 with rfl | h1
            · subst h2; exact .inl h
            · exact .inr ⟨q', h1, h2⟩
      · rw [List.mem_append, List.mem_singleton]
        constructor
        · rintro ((h1 | h1) | ⟨q', h1, h2⟩)
          · exact .inl h1
          · exact .inr ⟨q, List.mem_cons_self .., h1.symm⟩
          · exact .inr ⟨q', List.mem_cons_of_mem _ h1, h2⟩
        · rintro (h1 | ⟨q', h1, h2⟩)
          · exact .inl (.inl h1)
          · rcases List.mem_cons.1 h1 with rfl | h1
            · exact .inl (.inr h2.symm)
            · exact .inr ⟨q', h1, h2⟩
  have := key l []
  simpa [kindsOf] using this
theorem list_iff (x : Fld) (s : Nat) : listB x s = true ↔ ∀ q ∈ placesL x, servesB x (atM x q &&& s) = true := by
  unfold listB
  simp only [Bool.not_eq_true', List.any_eq_false, Bool.not_eq_true', Bool.not_eq_false]
  constructor
  · intro h q hq
    have := h (atM x q) ((mem_kinds x _ _).2 ⟨q, hq, rfl⟩)
    simpa using this
  · intro h k hk
    obtain ⟨q, hq, rfl⟩ := (mem_kinds x _ _).1 hk
    simpa using h q hq
theorem at_useful (x : Fld) (q : Int × Int) : atM x q &&& usefulM x = atM x q := by
  refine sub_of_testBit fun i hi => ?_
  unfold atM at hi; unfold usefulM
  rw [maskN_testBit] at hi ⊢
  simp only [Bool.and_eq_true] at hi ⊢
  refine ⟨hi.1, ?_⟩
  have := hi.2
  unfold onI at this
  simp only [Bool.and_eq_true] at this
  exact this.1
theorem list_useful (x : Fld) (s : Nat) : listB x (s &&& usefulM x) = listB x s := by
  rw [Bool.eq_iff_iff, list_iff, list_iff]
  have e : ∀ q, atM x q &&& (s &&& usefulM x) = atM x q &&& s := fun q => by
    rw [Nat.and_comm s, ← Nat.and_assoc, at_useful]
  simp only [e]
theorem at_lt (x : Fld) (q : Int × Int) (s : Nat) : atM x q &&& s < 2 ^ x.ps.length := Nat.lt_of_le_of_lt Nat.and_le_left (maskN_lt _ _)
theorem list_iff2 {x : Fld} (hv : validB x = true) (s : Nat) : listB x s = true ↔ ∀ q ∈ placesL x, ∃ t, (t &&& atM x q = t ∧ t &&& s = t) ∧ x.times ≤ (sizeN t : Int) ∧ wide x t := by
  rw [list_iff]
  refine forall_congr' fun q => forall_congr' fun hq => ?_
  rw [serves_iff hv (at_lt x q s)]
  refine exists_congr fun t => and_congr ?_ Iff.rfl
  constructor
  · intro h
    exact ⟨sub_of_testBit fun i hi => by have := sub_testBit h i hi; rw [Nat.testBit_and] at this; simp at this; exact this.1, sub_of_testBit fun i hi => by have := sub_testBit h i hi; rw [Nat.testBit_and] at this; simp at this; exact this.2⟩
  · rintro ⟨h1, h2⟩
    exact sub_of_testBit fun i hi => by rw [Nat.testBit_and, sub_testBit h1 i hi, sub_testBit h2 i hi]; rfl
theorem list_mono {x : Fld} (hv : validB x = true) {s s' : Nat} (h : ∀ i, s.testBit i = true → s'.testBit i = true) (hl : listB x s = true) : listB x s' = true := by
  rw [list_iff2 hv] at hl ⊢
  intro q hq
  obtain ⟨t, ⟨h1, h2⟩, h3⟩ := hl q hq
  exact ⟨t, ⟨h1, sub_of_testBit fun i hi => h i (sub_testBit h2 i hi)⟩, h3⟩

/-! ### Sizes -/
theorem sizeN_mono {s t : Nat} (h : ∀ i, s.testBit i = true → t.testBit i = true) : sizeN s ≤ sizeN t := by
  unfold sizeN; exact List.countP_mono_left fun i _ hi => h i hi
theorem sizeN_lt {s t : Nat} (ht : t < 4096) (h : ∀ i, s.testBit i = true → t.testBit i = true) (i : Nat) (hi : t.testBit i = true) (hs : s.testBit i = false) : sizeN s < sizeN t := by
  unfold sizeN
  have hi12 : i < 12 := Classical.byContradiction fun h' => by
    have := Nat.testBit_lt_two_pow (Nat.lt_of_lt_of_le ht (show 4096 ≤ 2 ^ i from (show (4096 : Nat) = 2 ^ 12 by decide) ▸ Nat.pow_le_pow_right (by omega) (by omega)))
    rw [this] at hi; cases hi
  have key : ∀ l : List Nat, i ∈ l → l.countP s.testBit < l.countP t.testBit := by
    intro l
    induction l with
    | nil => simp
    | cons j l ih =>
      intro hj
      have hle : l.countP s.testBit ≤ l.countP t.testBit := List.countP_mono_left fun i _ hi => h i hi
      rw [List.countP_cons, List.countP_cons]
      rcases List.mem_cons.1 hj with rfl | hj
      · rw [hi, hs]; simp; omega
      · have := ih hj
        by_cases hsj : s.testBit j = true
        · rw [if_pos hsj, if_pos (h j hsj)]; omega
        · rw [if_neg hsj]; omega
  exact key _ (List.mem_range.2 hi12)

/-! ### The sets, by their sizes -/
/-- One set comes before another one. -/
def before (s t : Nat) : Prop := sizeN s < sizeN t ∨ sizeN s = sizeN t ∧ s < t
theorem mem_rowS {u c s r t : Nat} : t ∈ rowS u c s r ↔ (s ≤ t ∧ t < s + r) ∧ t &&& u = t ∧ sizeN t = c := by
  simp [rowS, okS, List.mem_range'_1]
theorem mem_setsL {x : Fld} {t : Nat} : t ∈ setsL x ↔ t ≤ allN x ∧ t &&& usefulM x = t := by
  unfold setsL gridS
  simp only [List.mem_flatMap, mem_rowS, List.mem_range'_1]
  constructor
  · rintro ⟨c, _, ⟨_, h1⟩, h2, _⟩; exact ⟨by omega, h2⟩
  · rintro ⟨h1, h2⟩
    refine ⟨sizeN t, ⟨by omega, ?_⟩, ⟨by omega, by omega⟩, h2, rfl⟩
    have := sizeN_mono (s := t) (t := usefulM x) (fun i hi => sub_testBit h2 i hi)
    omega
theorem setsL_sorted (x : Fld) : (setsL x).Pairwise before := by
  unfold setsL gridS
  rw [List.pairwise_flatMap]
  refine ⟨fun c _ => ?_, ?_⟩
  · unfold rowS
    have h : (List.range' 0 (allN x + 1)).Pairwise (· < ·) := List.pairwise_lt_range'
    have h2 := h.filter (okS (usefulM x) c)
    refine (List.Pairwise.and_mem.1 h2).imp ?_
    rintro a b ⟨ha, hb, hlt⟩
    have h3 := (List.mem_filter.1 ha).2; have h4 := (List.mem_filter.1 hb).2
    unfold okS at h3 h4
    simp only [Bool.and_eq_true, decide_eq_true_eq] at h3 h4
    exact .inr ⟨by omega, hlt⟩
  · have h : (List.range' 0 (sizeN (usefulM x) + 1)).Pairwise (· < ·) := List.pairwise_lt_range'
    refine h.imp ?_
    intro c d hcd a ha b hb
    have h3 := (mem_rowS.1 ha).2.2; have h4 := (mem_rowS.1 hb).2.2
    exact .inl (by omega)
theorem find_first {α : Type} {R : α → α → Prop} {p : α → Bool} : ∀ {l : List α}, l.Pairwise R → ∀ {s : α}, l.find? p = some s → s ∈ l ∧ p s = true ∧ ∀ t ∈ l, p t = true → t = s ∨ R s t
  | [], _, s, h => by cases h
  | a :: l, hp, s, h => by
    rw [List.pairwise_cons] at hp
    rw [List.find?_cons] at h
    cases hpa : p a with
    | true =>
      rw [hpa] at h
      cases h
      refine ⟨List.mem_cons_self .., hpa, fun t ht _ => ?_⟩
      rcases List.mem_cons.1 ht with rfl | ht
      · exact .inl rfl
      · exact .inr (hp.1 t ht)
    | false =>
      rw [hpa] at h
      obtain ⟨h1, h2, h3⟩ := find_first hp.2 h
      refine ⟨List.mem_cons_of_mem _ h1, h2, fun t ht hpt => ?_⟩
      rcases List.mem_cons.1 ht with rfl | ht
      · rw [hpa] at hpt; cases hpt
      · exact h3 t ht hpt

theorem useful_le_all (x : Fld) : usefulM x ≤ allN x := by have := maskN_lt (useI x) x.ps.length; unfold usefulM allN; omega
theorem shortestL_eq (x : Fld) (hl : x.ps.length ≤ 12) : shortestL x = ((setsL x).find? (listB x)).map f12 := by
  unfold shortestL setsF
  rw [List.find?_map]
  congr 1
  have hlt : ∀ t ∈ setsL x, t < 4096 := fun t ht => Nat.lt_of_le_of_lt (mem_setsL.1 ht).1 (allN_lt hl)
  have key : ∀ l : List Nat, (∀ t ∈ l, t < 4096) → l.find? ((fun s : Fin 4096 => listB x s.val) ∘ f12) = l.find? (listB x) := by
    intro l
    induction l with
    | nil => intro _; rfl
    | cons a l ih =>
      intro h
      rw [List.find?_cons, List.find?_cons, ih (fun t ht => h t (List.mem_cons_of_mem _ ht))]
      have : ((fun s : Fin 4096 => listB x s.val) ∘ f12) a = listB x a := by
        simp only [Function.comp]; rw [f12_val (h a (List.mem_cons_self ..))]
      rw [this]
  exact key _ hlt
/-- The shortest list, as a number. -/
theorem shortest_some {x : Fld} (hv : validB x = true) {s : Fin 4096} (h : shortestL x = some s) :
    s.val ≤ allN x ∧ s.val &&& usefulM x = s.val ∧ listB x s.val = true ∧ ∀ t, t ≤ allN x → listB x t = true → t = s.val ∨ before s.val t := by
  have hl := (valid_bounds hv).2.2.2.2.2.2.1
  rw [shortestL_eq x hl] at h
  obtain ⟨n, hn, rfl⟩ := Option.map_eq_some_iff.1 h
  obtain ⟨h1, h2, h3⟩ := find_first (setsL_sorted x) hn
  obtain ⟨h4, h5⟩ := mem_setsL.1 h1
  rw [f12_val (Nat.lt_of_le_of_lt h4 (allN_lt hl))]
  refine ⟨h4, h5, h2, fun t ht htl => ?_⟩
  have hsub : (t &&& usefulM x) &&& usefulM x = t &&& usefulM x := by rw [Nat.and_assoc, Nat.and_self]
  have hm : t &&& usefulM x ∈ setsL x := mem_setsL.2 ⟨Nat.le_trans Nat.and_le_left ht, hsub⟩
  have hst : ∀ i, (t &&& usefulM x).testBit i = true → t.testBit i = true := fun i hi => by rw [Nat.testBit_and] at hi; simp at hi; exact hi.1
  have hc := h3 _ hm (by rw [list_useful]; exact htl)
  by_cases he : t &&& usefulM x = t
  · rw [he] at hc; exact hc
  · have ht4 : t < 4096 := Nat.lt_of_le_of_lt ht (allN_lt hl)
    obtain ⟨i, hi, hi2⟩ : ∃ i, t.testBit i = true ∧ (t &&& usefulM x).testBit i = false := Classical.byContradiction fun hno => he (sub_of_testBit (t := t) (k := usefulM x) fun i hi => by
      cases hb : (t &&& usefulM x).testBit i with
      | true => rw [Nat.testBit_and] at hb; simp at hb; exact hb.2
      | false => exact absurd ⟨i, hi, hb⟩ hno)
    have hlt := sizeN_lt ht4 hst i hi hi2
    right
    rcases hc with hc | hc | hc
    · rw [hc] at hlt; exact .inl hlt
    · exact .inl (by omega)
    · exact .inl (by omega)
theorem shortest_none {x : Fld} (hv : validB x = true) (h : shortestL x = none) : listB x (allN x) = false := by
  have hl := (valid_bounds hv).2.2.2.2.2.2.1
  rw [shortestL_eq x hl, Option.map_eq_none_iff, List.find?_eq_none] at h
  have := h (usefulM x) (mem_setsL.2 ⟨useful_le_all x, Nat.and_self _⟩)
  have e : allN x &&& usefulM x = usefulM x := by
    rw [Nat.and_comm]
    refine sub_of_testBit fun i hi => ?_
    unfold usefulM at hi
    rw [maskN_testBit] at hi
    simp only [Bool.and_eq_true, decide_eq_true_eq] at hi
    unfold allN
    rw [Nat.testBit_two_pow_sub_one]; simp [hi.1]
  rw [← list_useful, e]
  simpa using this

end Go.Proofs.Ytlfemkelnllmnaa
