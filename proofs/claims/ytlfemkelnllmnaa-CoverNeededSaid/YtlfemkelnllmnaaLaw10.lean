/- The laws of chapter 10: heavy, the sample. -/
import Derived.Test.YtlfemkelnllmnaaRef10c
import Derived.Laws.IdiomCopy
set_option linter.all false
set_option linter.unusedVariables false
set_option linter.unusedSimpArgs false
namespace Go.Proofs.Ytlfemkelnllmnaa
open Go.RowKit

def heavyB (x : Fld) (p q : Int) : Bool := decide (40 < (x.ps.length : Int)) || (validB x && (decide (p < (x.ps.length : Int)) || decide (q < (x.e1 - x.e0 + 1) * (x.n1 - x.n0 + 1))))
theorem area_bounds {x : Fld} (h : validB x = true) : 1 ≤ (x.e1 - x.e0 + 1) * (x.n1 - x.n0 + 1) ∧ (x.e1 - x.e0 + 1) * (x.n1 - x.n0 + 1) ≤ 1089 := by
  obtain ⟨⟨h1, h2, h3⟩, ⟨h4, h5, h6⟩, _⟩ := valid_bounds h
  constructor
  · have := Int.mul_le_mul (show (1 : Int) ≤ x.e1 - x.e0 + 1 by omega) (show (1 : Int) ≤ x.n1 - x.n0 + 1 by omega) (by omega) (by omega)
    omega
  · have := Int.mul_le_mul (show x.e1 - x.e0 + 1 ≤ 33 by omega) (show x.n1 - x.n0 + 1 ≤ 33 by omega) (by omega) (by omega)
    omega

set_option maxHeartbeats 2000000 in
theorem heavy_calls (a : Option Addr) (cap : Nat) (x : Fld) (p q : Int) (w : World) (hs : SlW 6 skyRow w (.slice a x.ps.length cap) x.ps) :
    Calls Try.prog 8 #[fldV a cap x, .int .i64 p, .int .i64 q] w fun e w' => e = .returned (.bool (heavyB x p q)) ∧ Below w.heap.size w w' := by
  have hlen : x.ps.length ≤ 9223372036854775807 := by obtain ⟨_, _, _, h, _⟩ := hs; exact h
  have hlN : (x.ps.length : Int) ≤ 9223372036854775807 := by omega
  have htop : w.alloc (.cells #[.slice a x.ps.length cap, .int .i64 x.e0, .int .i64 x.e1, .int .i64 x.n0, .int .i64 x.n1, .int .i64 x.d0, .int .i64 x.d1, .int .i64 x.depth, .int .i64 x.times, .int .i64 x.gap] 26) = boxF w a cap x := rfl
  have HT := Lib.hid htop; clear htop
  have HU := Lib.hid (boxF_up w a cap x)
  have hF := boxF_is w a cap x
  have c0 := hF.c0; have c1 := hF.c1; have c2 := hF.c2; have c3 := hF.c3; have c4 := hF.c4; have c5 := hF.c5; have c6 := hF.c6; have c7 := hF.c7; have c8 := hF.c8; have c9 := hF.c9
  have lf := hF.lt
  have hR := rField_calls a cap x (boxF w a cap x) (hs.below (Nat.le_refl _) (boxF_up w a cap x))
  clear hF hs
  unfold fldV at *
  by_cases h40 : 40 < (x.ps.length : Int)
  · have hv : heavyB x p q = true := by unfold heavyB; rw [decide_eq_true h40]; rfl
    have HV := Lib.hid hv
    clear hv hR
    go_enter Try.func8, Try.ntmps8
    go_wp2_with fail
    rw [HT.out]
    go_wp2_with fail
    go_ret
    exact ⟨ret_bool HV.out.symm, HU.out⟩
  · cases hval : validB x with
    | false =>
      have hv : heavyB x p q = false := by unfold heavyB; rw [decide_eq_false h40, hval]; rfl
      rw [hval] at hR
      have HV := Lib.hid hv; have HR := Lib.hid hR
      clear hv hR hval
      go_enter Try.func8, Try.ntmps8
      go_wp2_with fail
      rw [HT.out]
      generalize boxF w a cap x = w1 at *
      refine HR.out.mono ?_
      rintro e w2 ⟨rfl, hb⟩
      obtain ⟨g, rfl⟩ := GW.of hb; clear hb
      go_wp2_with fail
      go_ret
      exact ⟨ret_bool HV.out.symm, Up.gw _ HU.out⟩
    | true =>
      have hv : heavyB x p q = (decide (p < (x.ps.length : Int)) || decide (q < (x.e1 - x.e0 + 1) * (x.n1 - x.n0 + 1))) := by unfold heavyB; rw [decide_eq_false h40, hval]; rfl
      have hab := area_bounds hval
      obtain ⟨⟨b1, b2, b3⟩, ⟨b4, b5, b6⟩, _⟩ := valid_bounds hval
      rw [hval] at hR
      have HV := Lib.hid hv; have HR := Lib.hid hR
      clear hv hR hval
      have e1 : wrap64 (x.e1 - x.e0) = x.e1 - x.e0 := by unfold wrap64; omega
      have e2 : wrap64 (x.n1 - x.n0) = x.n1 - x.n0 := by unfold wrap64; omega
      have e3 : wrap64 ((x.e1 - x.e0 + 1) * (x.n1 - x.n0 + 1)) = (x.e1 - x.e0 + 1) * (x.n1 - x.n0 + 1) := by unfold wrap64; omega
      by_cases hp : p < (x.ps.length : Int)
      · go_enter Try.func8, Try.ntmps8
        go_wp2_with fail
        rw [HT.out]
        generalize boxF w a cap x = w1 at *
        refine HR.out.mono ?_
        rintro e w2 ⟨rfl, hb⟩
        obtain ⟨g, rfl⟩ := GW.of hb; clear hb
        go_wp2_with fail
        go_ret
        exact ⟨ret_bool (by rw [HV.out, decide_eq_true hp]; rfl), Up.gw _ HU.out⟩
      · by_cases hq : q < (x.e1 - x.e0 + 1) * (x.n1 - x.n0 + 1)
        · go_enter Try.func8, Try.ntmps8
          go_wp2_with fail
          rw [HT.out]
          generalize boxF w a cap x = w1 at *
          refine HR.out.mono ?_
          rintro e w2 ⟨rfl, hb⟩
          obtain ⟨g, rfl⟩ := GW.of hb; clear hb
          go_wp2_with fail
          go_ret
          exact ⟨ret_bool (by rw [HV.out, decide_eq_true hq]; simp), Up.gw _ HU.out⟩
        · go_enter Try.func8, Try.ntmps8
          go_wp2_with fail
          rw [HT.out]
          generalize boxF w a cap x = w1 at *
          refine HR.out.mono ?_
          rintro e w2 ⟨rfl, hb⟩
          obtain ⟨g, rfl⟩ := GW.of hb; clear hb
          go_wp2_with fail
          go_ret
          exact ⟨ret_bool (by rw [HV.out, decide_eq_false (by omega), decide_eq_false (by omega)]), Up.gw _ HU.out⟩

/-- The field of the document's examples. -/
def smp : Fld := ⟨[⟨0, 1, 0, 2, 120, 12⟩, ⟨1, 2, 0, 0, 150, 15⟩, ⟨2, 3, 0, 0, 250, 10⟩, ⟨0, 3, 0, 0, 99, 20⟩, ⟨3, 5, 0, 1, 300, 11⟩], 0, 3, 0, 0, 100, 300, 10, 1, 0⟩

theorem span_calls (a b : Int) (w : World) :
    Calls Try.prog 47 #[.int .i64 a, .int .i64 b] w fun e' w' => e' = .returned (.agg #[.int .i64 a, .int .i64 b]) ∧ Below w.heap.size w w' := by
  go_enter Try.func47, Try.ntmps47
  go_wp2
  refine bodyPost_ret (v := .agg #[.int .i64 a, .int .i64 b]) (by simp [results, Try.results47, go_sem]) rfl ?_
  exact ⟨rfl, by repeat (first | exact Up.refl _ | refine Up.alloc _ ?_ | refine Up.setCell _ ?_ (by simp))⟩

theorem setCells_below {a : World} {b : Nat} (hb : a.heap.size ≤ b) : ∀ (vs : List Value) (o : Nat) (w : World), Below a.heap.size a w → Below a.heap.size a (w.setCells b o vs)
  | [], _, _, h => h
  | v :: vs, o, w, h => setCells_below hb vs (o + 1) (w.setCell ⟨b, o, none⟩ v) (h.setCell (p := ⟨b, o, none⟩) hb v)

set_option maxHeartbeats 2000000 in
theorem sky_calls (a b c d e f : Int) (w : World) :
    Calls Try.prog 46 #[.int .i64 a, .int .i64 b, .int .i64 c, .int .i64 d, .int .i64 e, .int .i64 f] w fun e' w' => e' = .returned (.agg #[.int .i64 a, .int .i64 b, .int .i64 c, .int .i64 d, .int .i64 e, .int .i64 f]) ∧ Below w.heap.size w w' := by
  go_enter Try.func46, Try.ntmps46
  go_wp2_with (go_at_call 47; refine (span_calls _ _ _).mono ?_; rintro e w' ⟨rfl, hb⟩; obtain ⟨g, rfl⟩ := GW.of hb; clear hb)
  rename_i g1
  have hz : ∀ i, i < 6 → g.w.cell? ⟨w.heap.size, i, none⟩ = some (.int .i64 0) := by
    intro i hi
    have : i = 0 ∨ i = 1 ∨ i = 2 ∨ i = 3 ∨ i = 4 ∨ i = 5 := by omega
    have hl : w.heap.size < g1.w.heap.size := Nat.lt_of_lt_of_le (by simp) g1.h.size
    rcases this with rfl | rfl | rfl | rfl | rfl | rfl <;> go_simp
  have h0 := hz 0 (by omega); have h1 := hz 1 (by omega); have h2 := hz 2 (by omega); have h3 := hz 3 (by omega); have h4 := hz 4 (by omega); have h5 := hz 5 (by omega)
  have hup : Below w.heap.size w g.w := Up.gw g (Up.gw g1 (Up.alloc _ (Up.refl _)))
  clear hz
  generalize g.w = w5 at *
  change bodyPost _ _ _ _ _ (w5.setCells w.heap.size 0 [.int .i64 a, .int .i64 b, .int .i64 c, .int .i64 d, .int .i64 e, .int .i64 f])
  have hin := World.cell?_setCells_in w.heap.size [.int .i64 a, .int .i64 b, .int .i64 c, .int .i64 d, .int .i64 e, .int .i64 f] 0 w5 (by
    intro j hj
    have hj2 : j < 6 := hj
    have : j = 0 ∨ j = 1 ∨ j = 2 ∨ j = 3 ∨ j = 4 ∨ j = 5 := by omega
    rcases this with rfl | rfl | rfl | rfl | rfl | rfl <;> simp [h0, h1, h2, h3, h4, h5])
  have k0 := hin 0 (by simp); have k1 := hin 1 (by simp); have k2 := hin 2 (by simp); have k3 := hin 3 (by simp); have k4 := hin 4 (by simp); have k5 := hin 5 (by simp)
  simp only [Nat.zero_add, List.getElem_cons_zero, List.getElem_cons_succ] at k0 k1 k2 k3 k4 k5
  have hup2 := setCells_below (Nat.le_refl w.heap.size) [.int .i64 a, .int .i64 b, .int .i64 c, .int .i64 d, .int .i64 e, .int .i64 f] 0 w5 hup
  clear hin h0 h1 h2 h3 h4 h5
  generalize w5.setCells w.heap.size 0 _ = w4 at *
  refine bodyPost_ret (v := .agg #[.int .i64 a, .int .i64 b, .int .i64 c, .int .i64 d, .int .i64 e, .int .i64 f]) (by simp [results, Try.results46, go_sem, k0, k1, k2, k3, k4, k5]) rfl ?_
  exact ⟨rfl, hup2⟩

end Go.Proofs.Ytlfemkelnllmnaa
