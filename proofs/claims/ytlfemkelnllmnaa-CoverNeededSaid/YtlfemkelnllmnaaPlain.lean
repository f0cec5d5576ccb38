/- Plain words for chapter 10: plates, fields, sets as numbers, the places; no program in sight. -/
set_option linter.all false
set_option linter.unusedVariables false
set_option linter.unusedSimpArgs false
namespace Go.Proofs.Ytlfemkelnllmnaa

structure Sky where
  e0 : Int
  e1 : Int
  n0 : Int
  n1 : Int
  day : Int
  depth : Int
  deriving DecidableEq, Inhabited

structure Fld where
  ps : List Sky
  e0 : Int
  e1 : Int
  n0 : Int
  n1 : Int
  d0 : Int
  d1 : Int
  depth : Int
  times : Int
  gap : Int
  deriving DecidableEq, Inhabited

/-- max and min, closed to the walk's simp. -/
def imax (a b : Int) : Int := max a b
def imin (a b : Int) : Int := min a b

def withinB (n lo hi : Int) : Bool := decide (lo ≤ n) && decide (n ≤ hi)
def spanB (lo hi high : Int) : Bool := decide (0 ≤ lo) && decide (lo ≤ hi) && decide (hi ≤ high)
def badSkyB (p : Sky) : Bool := !spanB p.e0 p.e1 32 || !spanB p.n0 p.n1 32 || !withinB p.day 0 65536 || !withinB p.depth 0 100
def numbersB (x : Fld) : Bool := withinB x.depth 0 100 && withinB x.times 1 4 && withinB x.gap 0 65536
def skyB (x : Fld) : Bool := spanB x.e0 x.e1 32 && spanB x.n0 x.n1 32 && spanB x.d0 x.d1 65536
def validB (x : Fld) : Bool := skyB x && numbersB x && decide (x.ps.length ≤ 12) && !x.ps.any badSkyB
def meetB (a0 a1 b0 b1 : Int) : Bool := decide (imax a0 b0 ≤ imin a1 b1)
def useB (x : Fld) (p : Sky) : Bool := withinB p.day x.d0 x.d1 && decide (x.depth ≤ p.depth) && (meetB x.e0 x.e1 p.e0 p.e1 && meetB x.n0 x.n1 p.n0 p.n1)

/-- The set of those numbers below n for which q holds. -/
def maskN (q : Nat → Bool) : Nat → Nat
  | 0 => 0
  | n + 1 => maskN q n ||| (if q n then 2 ^ n else 0)
theorem maskN_testBit (q : Nat → Bool) (n i : Nat) : (maskN q n).testBit i = (decide (i < n) && q i) := by
  induction n with
  | zero => simp [maskN]
  | succ n ih =>
    rw [maskN, Nat.testBit_or, ih]
    by_cases hq : q n
    · rw [if_pos hq, Nat.testBit_two_pow]
      by_cases h : n = i
      · subst h; simp [hq]
      · have h1 : (i < n + 1) ↔ i < n := by omega
        simp [h, h1]
    · rw [if_neg hq]
      by_cases h : n = i
      · subst h; simp at hq; simp [hq]
      · have h1 : (i < n + 1) ↔ i < n := by omega
        simp [h1]
theorem maskN_lt (q : Nat → Bool) (n : Nat) : maskN q n < 2 ^ n := by
  apply Nat.lt_pow_two_of_testBit
  intro i hi
  rw [maskN_testBit]
  simp; omega
theorem maskN_congr {q r : Nat → Bool} (n : Nat) (h : ∀ i, i < n → q i = r i) : maskN q n = maskN r n := by
  apply Nat.eq_of_testBit_eq
  intro i
  rw [maskN_testBit, maskN_testBit]
  by_cases hi : i < n
  · simp [hi, h i hi]
  · simp [hi]

/-- Whether plate number i is of use. -/
def useI (x : Fld) (i : Nat) : Bool := useB x (x.ps.getD i default)
/-- Whether a place lies both in the field and on a plate. -/
def onB (x : Fld) (p : Sky) (q : Int × Int) : Bool := decide (imax p.e0 x.e0 ≤ q.1) && decide (q.1 ≤ imin p.e1 x.e1) && (decide (imax p.n0 x.n0 ≤ q.2) && decide (q.2 ≤ imin p.n1 x.n1))
def onI (x : Fld) (q : Int × Int) (i : Nat) : Bool := useI x i && onB x (x.ps.getD i default) q
/-- The plates that are of use; those that have a place, too. -/
def usefulM (x : Fld) : Nat := maskN (useI x) x.ps.length
def atM (x : Fld) (q : Int × Int) : Nat := maskN (onI x q) x.ps.length

/-- What the map holds of a place q when, of plate number k (which is p), all places before (a, b) have been told. -/
def doneM (x : Fld) (k : Nat) (p : Sky) (a b : Int) (q : Int × Int) : Nat :=
  maskN (onI x q) k ||| (if onB x p q && (decide (q.1 < a) || decide (q.1 = a) && decide (q.2 < b)) then 2 ^ k else 0)

theorem onB_iff (x : Fld) (p : Sky) (q : Int × Int) : onB x p q = true ↔ (imax p.e0 x.e0 ≤ q.1 ∧ q.1 ≤ imin p.e1 x.e1) ∧ imax p.n0 x.n0 ≤ q.2 ∧ q.2 ≤ imin p.n1 x.n1 := by
  simp [onB]
theorem doneM_start (x : Fld) (k : Nat) (p : Sky) (q : Int × Int) : doneM x k p (imax p.e0 x.e0) (imax p.n0 x.n0) q = maskN (onI x q) k := by
  unfold doneM
  rw [if_neg, Nat.or_zero]
  simp only [Bool.and_eq_true, Bool.or_eq_true, decide_eq_true_eq, onB_iff]
  omega
theorem doneM_row (x : Fld) (k : Nat) (p : Sky) (a b : Int) (q : Int × Int) (hb : imin p.n1 x.n1 < b) : doneM x k p a b q = doneM x k p (a + 1) (imax p.n0 x.n0) q := by
  unfold doneM
  congr 1
  have : (onB x p q && (decide (q.1 < a) || decide (q.1 = a) && decide (q.2 < b))) = (onB x p q && (decide (q.1 < a + 1) || decide (q.1 = a + 1) && decide (q.2 < imax p.n0 x.n0))) := by
    rw [Bool.eq_iff_iff]
    simp only [Bool.and_eq_true, Bool.or_eq_true, decide_eq_true_eq, onB_iff]
    omega
  rw [this]
theorem doneM_end (x : Fld) (k : Nat) (p : Sky) (a : Int) (q : Int × Int) (hp : x.ps.getD k default = p) (hu : useB x p = true) (ha : imin p.e1 x.e1 < a) : doneM x k p a (imax p.n0 x.n0) q = maskN (onI x q) (k + 1) := by
  unfold doneM
  rw [maskN]
  congr 1
  have : (onB x p q && (decide (q.1 < a) || decide (q.1 = a) && decide (q.2 < imax p.n0 x.n0))) = onI x q k := by
    unfold onI useI
    rw [hp, hu, Bool.eq_iff_iff]
    simp only [Bool.and_eq_true, Bool.or_eq_true, decide_eq_true_eq, onB_iff, true_and]
    omega
  rw [this]
theorem doneM_here (x : Fld) (k : Nat) (p : Sky) (a b : Int) : doneM x k p a b (a, b) = maskN (onI x (a, b)) k := by
  unfold doneM
  rw [if_neg, Nat.or_zero]
  simp
theorem doneM_step (x : Fld) (k : Nat) (p : Sky) (a b : Int) (q : Int × Int) (h : onB x p (a, b) = true) : doneM x k p a (b + 1) q = if q = (a, b) then maskN (onI x (a, b)) k ||| 2 ^ k else doneM x k p a b q := by
  obtain ⟨q1, q2⟩ := q
  by_cases e : (q1, q2) = (a, b)
  · rw [if_pos e]
    cases e
    unfold doneM
    rw [if_pos]
    simp [h]
    omega
  · rw [if_neg e]
    unfold doneM
    congr 1
    have : (onB x p (q1, q2) && (decide (q1 < a) || decide (q1 = a) && decide (q2 < b + 1))) = (onB x p (q1, q2) && (decide (q1 < a) || decide (q1 = a) && decide (q2 < b))) := by
      rw [Bool.eq_iff_iff]
      simp only [Bool.and_eq_true, Bool.or_eq_true, decide_eq_true_eq, onB_iff]
      have : ¬ (q1 = a ∧ q2 = b) := fun ⟨h1, h2⟩ => e (by rw [h1, h2])
      omega
    rw [this]
theorem doneM_lt (x : Fld) (k : Nat) (p : Sky) (a b : Int) (q : Int × Int) : doneM x k p a b q < 2 ^ (k + 1) := by
  unfold doneM
  apply Nat.or_lt_two_pow
  · exact Nat.lt_of_lt_of_le (maskN_lt _ _) (Nat.pow_le_pow_right (by omega) (by omega))
  · split
    · exact Nat.pow_lt_pow_right (by omega) (by omega)
    · exact Nat.two_pow_pos _
/-- The bounds that a valid field gives. -/
theorem valid_bounds {x : Fld} (h : validB x = true) : (0 ≤ x.e0 ∧ x.e0 ≤ x.e1 ∧ x.e1 ≤ 32) ∧ (0 ≤ x.n0 ∧ x.n0 ≤ x.n1 ∧ x.n1 ≤ 32) ∧ (0 ≤ x.d0 ∧ x.d0 ≤ x.d1 ∧ x.d1 ≤ 65536) ∧ (0 ≤ x.depth ∧ x.depth ≤ 100) ∧ (1 ≤ x.times ∧ x.times ≤ 4) ∧ (0 ≤ x.gap ∧ x.gap ≤ 65536) ∧ x.ps.length ≤ 12 ∧ ∀ p ∈ x.ps, badSkyB p = false := by
  simp only [validB, skyB, numbersB, spanB, withinB, Bool.and_eq_true, decide_eq_true_eq, Bool.not_eq_true', List.any_eq_false] at h
  obtain ⟨⟨⟨⟨⟨⟨⟨a1, a2⟩, a3⟩, ⟨b1, b2⟩, b3⟩, ⟨c1, c2⟩, c3⟩, ⟨⟨d1, d2⟩, e1, e2⟩, f1, f2⟩, g⟩, hp⟩ := h
  exact ⟨⟨a1, a2, a3⟩, ⟨b1, b2, b3⟩, ⟨c1, c2, c3⟩, ⟨d1, d2⟩, ⟨e1, e2⟩, ⟨f1, f2⟩, g, fun p hp' => by simpa using hp p hp'⟩
theorem sky_bounds {p : Sky} (h : badSkyB p = false) : (0 ≤ p.e0 ∧ p.e0 ≤ p.e1 ∧ p.e1 ≤ 32) ∧ (0 ≤ p.n0 ∧ p.n0 ≤ p.n1 ∧ p.n1 ≤ 32) ∧ (0 ≤ p.day ∧ p.day ≤ 65536) ∧ (0 ≤ p.depth ∧ p.depth ≤ 100) := by
  simp only [badSkyB, spanB, withinB, Bool.or_eq_false_iff, Bool.not_eq_false', Bool.and_eq_true, decide_eq_true_eq] at h
  obtain ⟨⟨⟨⟨⟨a1, a2⟩, a3⟩, ⟨b1, b2⟩, b3⟩, c1, c2⟩, d1, d2⟩ := h
  exact ⟨⟨a1, a2, a3⟩, ⟨b1, b2, b3⟩, ⟨c1, c2⟩, d1, d2⟩
theorem imax_le (a b c : Int) : imax a b ≤ c ↔ a ≤ c ∧ b ≤ c := by unfold imax; omega
theorem le_imax (a b c : Int) : c ≤ imax a b ↔ c ≤ a ∨ c ≤ b := by unfold imax; omega
theorem imin_le (a b c : Int) : imin a b ≤ c ↔ a ≤ c ∨ b ≤ c := by unfold imin; omega
theorem le_imin (a b c : Int) : c ≤ imin a b ↔ c ≤ a ∧ c ≤ b := by unfold imin; omega

/-- All places from (a, b) on, in order. -/
def rowL (a b : Int) : Nat → List (Int × Int)
  | 0 => []
  | n + 1 => (a, b) :: rowL a (b + 1) n
def gridL (a b : Int) (m : Nat) : Nat → List (Int × Int)
  | 0 => []
  | n + 1 => rowL a b m ++ gridL (a + 1) b m n
def placesL (x : Fld) : List (Int × Int) := gridL x.e0 x.n0 (x.n1 - x.n0 + 1).toNat (x.e1 - x.e0 + 1).toNat

end Go.Proofs.Ytlfemkelnllmnaa
