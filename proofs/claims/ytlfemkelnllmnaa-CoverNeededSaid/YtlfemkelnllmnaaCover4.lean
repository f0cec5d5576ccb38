/- cover.open: the field that is looked at. -/
import Derived.Test.YtlfemkelnllmnaaCover3
import Derived.Test.YtlfemkelnllmnaaMaps
set_option linter.all false
set_option linter.unusedVariables false
set_option linter.unusedSimpArgs false
namespace Go.Proofs.Ytlfemkelnllmnaa
open Go.RowKit

set_option maxHeartbeats 1000000 in
set_option maxRecDepth 10000 in
theorem open_bad (a : Option Addr) (cap : Nat) (x : Fld) (w : World) (hs : SlW 6 skyRow w (.slice a x.ps.length cap) x.ps) (hv : validB x = false) :
    Calls Try.prog 27 #[fldV a cap x] w fun e w' => e = .panicked [{ v := failure 1, recovered := false }] ∧ Below w.heap.size w w' := by
  have HV := Lib.hid hv; clear hv
  have hI : Hid (∀ W, Below w.heap.size w W → Calls Try.prog 49 #[fldV a cap x] W fun e w' => e = .returned (.bool false) ∧ Below W.heap.size W w') := fun W h => by
    rw [← HV.out]; exact isField_calls a cap x W (hs.below (Nat.le_refl _) h)
  clear hs
  unfold fldV at *
  go_enter Try.func27, Try.ntmps27
  go_wp2_with fail
  refine (hI.out _ (Up.alloc _ (Up.refl _))).mono ?_
  rintro e _ ⟨rfl, hb⟩
  obtain ⟨g, rfl⟩ := GW.of hb; clear hb
  go_wp2_with fail
  refine (must_false _ _).mono ?_
  rintro e _ ⟨rfl, rfl⟩
  go_wp2_with fail
  exact ⟨rfl, rfl, Up.gw _ (Up.alloc _ (Up.refl _))⟩

theorem or_pow (m k : Nat) (hm : m < 2 ^ 12) (hk : k < 12) : bits .or .u64 (m : Int) (IntKind.u64.wrap (2 ^ k)) = ((m ||| 2 ^ k : Nat) : Int) := by
  have h2 : (2 : Nat) ^ k ≤ 2 ^ 12 := Nat.pow_le_pow_right (by omega) (by omega)
  have h3 : IntKind.u64.wrap (2 ^ k) = ((2 ^ k : Nat) : Int) := by
    rw [IntKind.wrap_u64]
    have : ((2 : Int) ^ k) = ((2 ^ k : Nat) : Int) := by norm_cast
    have h4 : 0 < 2 ^ k := Nat.two_pow_pos k
    rw [this]
    generalize 2 ^ k = c at *
    omega
  rw [h3]
  exact u64_or_nat _ _ (by omega) (by omega)

/-- What stands between two rounds of open: k plates have been looked at. -/
structure OpenInv (w : World) (bp bf mb bt : Nat) (a : Option Addr) (cap : Nat) (x : Fld) (um : Nat) (am : Int × Int → Nat) (wr : World) : Prop where
  f : FieldC wr bf a cap x um mb
  fz : ∀ o, wr.frozen? ⟨bf, o, none⟩ = false
  m : ∃ m, MapIs wr mb placeV m ∧ ∀ q, (m q).getD (.int .u64 0) = .int .u64 (am q : Int)
  t : wr.cell? ⟨bt, 0, none⟩ = some (.pointer (some ⟨bf, 0, none⟩))
  p1 : wr.cell? ⟨bp, 1, none⟩ = some (.int .i64 x.e0)
  p2 : wr.cell? ⟨bp, 2, none⟩ = some (.int .i64 x.e1)
  p3 : wr.cell? ⟨bp, 3, none⟩ = some (.int .i64 x.n0)
  p4 : wr.cell? ⟨bp, 4, none⟩ = some (.int .i64 x.n1)
  up : Below w.heap.size w wr
  lp : bp < mb
  lm : mb < bf
  lf : bf < bt
  lt : bt < wr.heap.size

theorem OpenInv.keep {w : World} {bp bf mb bt : Nat} {a : Option Addr} {cap : Nat} {x : Fld} {um : Nat} {am : Int × Int → Nat} {wr wr' : World} (h : OpenInv w bp bf mb bt a cap x um am wr)
    (hw : w.heap.size ≤ bt + 1) (hb : Below (bt + 1) wr wr') : OpenInv w bp bf mb bt a cap x um am wr' := by
  have l1 := h.lp; have l2 := h.lm; have l3 := h.lf
  have hc : ∀ b o, b < bt + 1 → wr'.cell? ⟨b, o, none⟩ = wr.cell? ⟨b, o, none⟩ := fun b o hlt => hb.cell (p := ⟨b, o, none⟩) hlt
  refine ⟨⟨Nat.lt_of_lt_of_le h.f.lt hb.size, ?_, ?_, ?_, ?_, ?_, ?_, ?_, ?_, ?_, ?_, ?_, ?_⟩, fun o => (hb.frozen (p := ⟨bf, o, none⟩) (by simp; omega)).trans (h.fz o), ?_, (hc _ _ (by omega)).trans h.t, (hc _ _ (by omega)).trans h.p1, (hc _ _ (by omega)).trans h.p2, (hc _ _ (by omega)).trans h.p3, (hc _ _ (by omega)).trans h.p4, h.up.trans (hb.mono hw), l1, l2, l3, Nat.lt_of_lt_of_le h.lt hb.size⟩
  · exact (hc _ _ (by omega)).trans h.f.c0
  · exact (hc _ _ (by omega)).trans h.f.c1
  · exact (hc _ _ (by omega)).trans h.f.c2
  · exact (hc _ _ (by omega)).trans h.f.c3
  · exact (hc _ _ (by omega)).trans h.f.c4
  · exact (hc _ _ (by omega)).trans h.f.c5
  · exact (hc _ _ (by omega)).trans h.f.c6
  · exact (hc _ _ (by omega)).trans h.f.c7
  · exact (hc _ _ (by omega)).trans h.f.c8
  · exact (hc _ _ (by omega)).trans h.f.c9
  · exact (hc _ _ (by omega)).trans h.f.c10
  · exact (hc _ _ (by omega)).trans h.f.c11
  · obtain ⟨m, hm, hq⟩ := h.m
    exact ⟨m, hm.of_heap (hb.block _ (by omega)), hq⟩

theorem OpenInv.useful {w : World} {bp bf mb bt : Nat} {a : Option Addr} {cap : Nat} {x : Fld} {um : Nat} {am : Int × Int → Nat} {wr : World} (h : OpenInv w bp bf mb bt a cap x um am wr) (um' : Nat) (hw : w.heap.size ≤ bf) :
    OpenInv w bp bf mb bt a cap x um' am ((wr.setCell ⟨bf, 10, none⟩ (.int .u64 (um' : Int))).drew) := by
  have l1 := h.lp; have l2 := h.lm; have l3 := h.lf
  have hc : ∀ b o, (b ≠ bf ∨ o ≠ 10) → ((wr.setCell ⟨bf, 10, none⟩ (.int .u64 (um' : Int))).drew).cell? ⟨b, o, none⟩ = wr.cell? ⟨b, o, none⟩ := fun b o hne => by
    rw [show ((wr.setCell ⟨bf, 10, none⟩ (.int .u64 (um' : Int))).drew).cell? ⟨b, o, none⟩ = (wr.setCell ⟨bf, 10, none⟩ (.int .u64 (um' : Int))).cell? ⟨b, o, none⟩ from rfl]
    exact World.cell?_setCell_other wr _ _ _ (by intro e; cases e; simp at hne)
  refine ⟨⟨by simpa using h.f.lt, ?_, ?_, ?_, ?_, ?_, ?_, ?_, ?_, ?_, ?_, ?_, ?_⟩, fun o => ?_, ?_, (hc _ _ (by omega)).trans h.t, (hc _ _ (by omega)).trans h.p1, (hc _ _ (by omega)).trans h.p2, (hc _ _ (by omega)).trans h.p3, (hc _ _ (by omega)).trans h.p4, (h.up.setCell (by simpa using hw) _).drew, l1, l2, l3, by simpa using h.lt⟩
  · exact (hc _ _ (by omega)).trans h.f.c0
  · exact (hc _ _ (by omega)).trans h.f.c1
  · exact (hc _ _ (by omega)).trans h.f.c2
  · exact (hc _ _ (by omega)).trans h.f.c3
  · exact (hc _ _ (by omega)).trans h.f.c4
  · exact (hc _ _ (by omega)).trans h.f.c5
  · exact (hc _ _ (by omega)).trans h.f.c6
  · exact (hc _ _ (by omega)).trans h.f.c7
  · exact (hc _ _ (by omega)).trans h.f.c8
  · exact (hc _ _ (by omega)).trans h.f.c9
  · exact World.cell?_setCell_same wr _ _ h.f.c10
  · exact (hc _ _ (by omega)).trans h.f.c11
  · have := h.fz o
    rw [← this]
    exact World.frozen?_setCell _ _ _ _
  · obtain ⟨m, hm, hq⟩ := h.m
    refine ⟨m, hm.of_heap ?_, hq⟩
    exact Below.heap_setCell wr ⟨bf, 10, none⟩ _ mb (by simp; omega)

theorem OpenInv.told {w : World} {bp bf mb bt : Nat} {a : Option Addr} {cap : Nat} {x : Fld} {um : Nat} {am am' : Int × Int → Nat} {wr wr' : World} (h : OpenInv w bp bf mb bt a cap x um am wr) (hw : w.heap.size ≤ mb)
    (hc : ∀ a, wr'.cell? a = wr.cell? a) (hz : ∀ a, wr'.frozen? a = wr.frozen? a) (hs : wr.heap.size ≤ wr'.heap.size) (hup : Below w.heap.size wr wr') (hm : ∃ m, MapIs wr' mb placeV m ∧ ∀ q, (m q).getD (.int .u64 0) = .int .u64 (am' q : Int)) :
    OpenInv w bp bf mb bt a cap x um am' wr' :=
  ⟨⟨Nat.lt_of_lt_of_le h.f.lt hs, (hc _).trans h.f.c0, (hc _).trans h.f.c1, (hc _).trans h.f.c2, (hc _).trans h.f.c3, (hc _).trans h.f.c4, (hc _).trans h.f.c5, (hc _).trans h.f.c6, (hc _).trans h.f.c7, (hc _).trans h.f.c8, (hc _).trans h.f.c9, (hc _).trans h.f.c10, (hc _).trans h.f.c11⟩,
    fun o => (hz _).trans (h.fz o), hm, (hc _).trans h.t, (hc _).trans h.p1, (hc _).trans h.p2, (hc _).trans h.p3, (hc _).trans h.p4, h.up.trans hup, h.lp, h.lm, h.lf, Nat.lt_of_lt_of_le h.lt hs⟩

theorem OpenInv.congr {w : World} {bp bf mb bt : Nat} {a : Option Addr} {cap : Nat} {x : Fld} {um : Nat} {am am' : Int × Int → Nat} {wr : World} (h : OpenInv w bp bf mb bt a cap x um am wr) (he : ∀ q, am q = am' q) : OpenInv w bp bf mb bt a cap x um am' wr := by
  have : am = am' := funext he
  rw [← this]; exact h

/-- A field that has been looked at: what open returns. -/
def FieldW (w : World) (bf : Nat) (a : Option Addr) (cap : Nat) (x : Fld) : Prop :=
  ∃ mb m, FieldC w bf a cap x (usefulM x) mb ∧ MapIs w mb placeV m ∧ ∀ q, (m q).getD (.int .u64 0) = .int .u64 ((maskN (onI x q) x.ps.length : Nat) : Int)
theorem FieldW.below {w w' : World} {bf : Nat} {a : Option Addr} {cap : Nat} {x : Fld} (h : FieldW w bf a cap x) {B : Nat} (hB : w.heap.size ≤ B) (hb : Below B w w') : FieldW w' bf a cap x := by
  obtain ⟨mb, m, h1, h2, h3⟩ := h
  exact ⟨mb, m, h1.below hB hb, h2.of_heap (hb.block _ (Nat.lt_of_lt_of_le h2.lt hB)), h3⟩

/-- The plate that is looked at, in its own variable. -/
structure PBox (bp : Nat) (p : Sky) (wr : World) : Prop where
  lt : bp < wr.heap.size
  q0 : wr.cell? ⟨bp, 0, none⟩ = some (.int .i64 p.e0)
  q1 : wr.cell? ⟨bp, 1, none⟩ = some (.int .i64 p.e1)
  q2 : wr.cell? ⟨bp, 2, none⟩ = some (.int .i64 p.n0)
  q3 : wr.cell? ⟨bp, 3, none⟩ = some (.int .i64 p.n1)

set_option maxHeartbeats 4000000 in
set_option maxRecDepth 10000 in
theorem open_good (a : Option Addr) (cap : Nat) (x : Fld) (w : World) (hs : SlW 6 skyRow w (.slice a x.ps.length cap) x.ps) (hv : validB x = true) :
    Calls Try.prog 27 #[fldV a cap x] w fun e w' => ∃ bf, e = .returned (.pointer (some ⟨bf, 0, none⟩)) ∧ w.heap.size ≤ bf ∧ FieldW w' bf a cap x ∧ Below w.heap.size w w' := by
  have hlen : x.ps.length ≤ 12 := by
    unfold validB at hv; simp only [Bool.and_eq_true, decide_eq_true_eq] at hv; exact hv.1.2
  obtain ⟨⟨xe0, xe1, xe2⟩, ⟨xn0, xn1, xn2⟩, _, _, _, _, _, hbad⟩ := valid_bounds hv
  have HBAD := Lib.hid hbad; clear hbad
  have HV := Lib.hid hv; clear hv
  have hI : Hid (∀ W, Below w.heap.size w W → Calls Try.prog 49 #[fldV a cap x] W fun e w' => e = .returned (.bool true) ∧ Below W.heap.size W w') := fun W h => by
    rw [← HV.out]; exact isField_calls a cap x W (hs.below (Nat.le_refl _) h)
  have HS := Lib.hid hs; clear hs
  generalize hn : x.ps.length = len at *
  have HN := Lib.hid hn; clear hn
  unfold fldV at *
  rw [HN.out] at hI
  go_enter Try.func27, Try.ntmps27
  rw [HN.out]
  go_wp2_with fail
  refine (hI.out _ (Up.alloc _ (Up.refl _))).mono ?_
  rintro e _ ⟨rfl, hb⟩
  obtain ⟨g, rfl⟩ := GW.of hb; clear hb
  go_wp2_with fail
  refine (must_true _ _).mono ?_
  rintro e _ ⟨rfl, rfl⟩
  have hlt1 : w.heap.size < g.w.heap.size := by have := g.h.size; simp at this; omega
  have hlt2 : w.heap.size < g.w.heap.size + 1 := by omega
  have hlt3 : w.heap.size < g.w.heap.size + 1 + 1 := by omega
  go_wp2_with fail
  go_loopw [18] (fun i wr => ∃ k : Nat, k ≤ len ∧ i = .int .i64 k ∧ OpenInv w w.heap.size (g.w.heap.size + 1) g.w.heap.size (g.w.heap.size + 1 + 1) a cap x (maskN (useI x) k) (fun q => maskN (onI x q) k) wr) (fun i _ => len - (intOf i).toNat)
  case atStart =>
    refine ⟨0, Nat.zero_le _, rfl, ⟨⟨by simp, by rw [HN.out]; go_simp, by go_simp, by go_simp, by go_simp, by go_simp, by go_simp, by go_simp, by go_simp, by go_simp, by go_simp, by rw [show maskN (useI x) 0 = 0 from rfl]; go_simp, by go_simp⟩, ?_, ⟨fun _ => none, ?_, fun q => rfl⟩, by go_simp, by go_simp, by go_simp, by go_simp, by go_simp, Up.alloc _ (Up.alloc _ (Up.alloc _ (Up.gw _ (Up.alloc _ (Up.refl _))))), hlt1, by omega, by omega, by simp⟩⟩
    · intro o; go_simp
    · exact MapIs.of_heap (MapIs.made (w := g.w)) ((Below.heap_alloc _ _ _ (by simp <;> omega)).trans (Below.heap_alloc _ _ _ (by simp)))
  case round =>
    obtain ⟨k, hk, rfl, hO⟩ := hrel
    generalize g.w.heap.size = mb at *
    by_cases hlt : k < len
    · obtain ⟨a', cap', hv, _, hx⟩ := HS.out
      rcases hx with hx | ⟨b, off, ha, hbl, hc⟩
      · exfalso; have := HN.out; rw [hx] at this; simp at this; omega
      cases hv
      subst ha
      have hkl : k < x.ps.length := by rw [HN.out]; exact hlt
      have hc' : ∀ j (hj : j < (skyRow x.ps[k]).length), wr.cell? ⟨b, off + k * 6 + j, none⟩ = some (skyRow x.ps[k])[j] := fun j hj => (hO.up.cell (p := ⟨b, off + k * 6 + j, none⟩) hbl).trans (hc k hkl j hj)
      have hp : x.ps.getD k default = x.ps[k] := by simp [hkl]
      have hpb := sky_bounds (HBAD.out x.ps[k] (List.getElem_mem hkl))
      generalize hpe : x.ps[k] = p at hc' hp hpb
      obtain ⟨⟨pe0, pe1, pe2⟩, ⟨pn0, pn1, pn2⟩, _, _⟩ := hpb
      have HP := Lib.hid hp; clear hp hpe hc
      have s0 := hc' 0 (by simp [skyRow])
      have s1 := hc' 1 (by simp [skyRow])
      have s2 := hc' 2 (by simp [skyRow])
      have s3 := hc' 3 (by simp [skyRow])
      have s4 := hc' 4 (by simp [skyRow])
      have s5 := hc' 5 (by simp [skyRow])
      clear hc'
      simp only [skyRow, List.getElem_cons_zero, List.getElem_cons_succ, Nat.add_zero] at s0 s1 s2 s3 s4 s5
      have hO' := hO
      obtain ⟨hF, fz, hm, ht, p1, p2, p3, p4, hup, lp, lm, lf, lt⟩ := hO
      have HM := Lib.hid hm; clear hm
      have HO := Lib.hid hO'; clear hO'
      have HF := Lib.hid hF; clear hF
      go_wp2_with fail
      refine (tests_calls _).mono ?_
      rintro e _ ⟨rfl, rfl⟩
      go_wp2_with fail
      refine (useless_calls (mb + 1 + 1) wr.heap.size (mb + 1) (some ⟨b, off, none⟩) cap x (maskN (useI x) k) mb p _ (wr.heap.size + 1) _ ?_ ?_ ?_ ?_ ?_ ?_ ?_ ?_ ?_ ?_ ?_).mono ?_
      · exact HF.out.below (Nat.le_refl _) (Up.alloc _ (Up.alloc _ (Up.alloc _ (Up.refl _))))
      · exact ((Up.alloc _ (Up.alloc _ (Up.alloc _ (Up.refl wr)))).cell (p := ⟨mb + 1 + 1, 0, none⟩) lt).trans ht
      · simp <;> omega
      · intro j hj
        match j, hj with
        | 0, _ => simp only [skyRow, List.getElem_cons_zero, List.getElem_cons_succ]; go_simp
        | 1, _ => simp only [skyRow, List.getElem_cons_zero, List.getElem_cons_succ]; go_simp
        | 2, _ => simp only [skyRow, List.getElem_cons_zero, List.getElem_cons_succ]; go_simp
        | 3, _ => simp only [skyRow, List.getElem_cons_zero, List.getElem_cons_succ]; go_simp
        | 4, _ => simp only [skyRow, List.getElem_cons_zero, List.getElem_cons_succ]; go_simp
        | 5, _ => simp only [skyRow, List.getElem_cons_zero, List.getElem_cons_succ]; go_simp
      · simp <;> omega
      · simp <;> omega
      · simp <;> omega
      · go_simp
      · go_simp
      · go_simp
      · go_simp
      rintro e _ ⟨rfl, hb⟩
      obtain ⟨g2, rfl⟩ := GW.of hb; clear hb
      have hup2 : Below wr.heap.size wr g2.w := Up.gw _ (Up.alloc _ (Up.alloc _ (Up.alloc _ (Up.refl _))))
      have hO2 := HO.out.keep (by omega) (hup2.mono lt)
      generalize hu : useB x p = ub
      have HU := Lib.hid hu; clear hu
      cases ub
      · have h1 : maskN (useI x) (k + 1) = maskN (useI x) k := by
          rw [maskN, show useI x k = false from by unfold useI; rw [HP.out]; exact HU.out]; simp
        have h2 : ∀ q, maskN (onI x q) k = maskN (onI x q) (k + 1) := fun q => by
          rw [maskN, show onI x q k = false from by unfold onI useI; rw [HP.out, HU.out]; rfl]; simp
        have hO3 := hO2.congr h2
        rw [← h1] at hO3
        have HO3 := Lib.hid hO3
        clear hO2 hO3 h1 h2
        go_wp2_with fail
        go_roundw
        case rel => exact ⟨k + 1, by omega, by go_num, HO3.out⟩
        case measure => simp [intOf]; omega
      · have q0 : g2.w.cell? ⟨wr.heap.size, 0, none⟩ = some (.int .i64 p.e0) := by go_simp
        have q1 : g2.w.cell? ⟨wr.heap.size, 1, none⟩ = some (.int .i64 p.e1) := by go_simp
        have q2 : g2.w.cell? ⟨wr.heap.size, 2, none⟩ = some (.int .i64 p.n0) := by go_simp
        have q3 : g2.w.cell? ⟨wr.heap.size, 3, none⟩ = some (.int .i64 p.n1) := by go_simp
        have hpl : wr.heap.size < g2.w.heap.size := by have := g2.h.size; simp at this; omega
        have hbp : mb + 1 + 1 < wr.heap.size := lt
        clear HM HO HF ht p1 p2 p3 p4 hup lp lm lf lt fz hup2
        generalize g2.w = wq at *
        generalize wr.heap.size = bp at *
        clear g2
        go_wp2_with fail
        have hO3 := hO2
        obtain ⟨⟨hfl, c0, c1, c2, c3, c4, c5, c6, c7, c8, c9, c10, c11⟩, fz, hm, ht, p1, p2, p3, p4, hup, lp, lm, lf, lt⟩ := hO2
        have fz10 := fz 10
        clear fz
        have hpv : ∀ j (hj : j < (skyRow p).length), Hid True := fun _ _ => trivial
        clear hpv
        have HOR : Hid (bits BinOp.or IntKind.u64 (↑(maskN (useI x) k)) (IntKind.u64.wrap (2 ^ k)) = ((maskN (useI x) (k + 1) : Nat) : Int)) := by
          unfold Hid
          rw [or_pow _ _ (Nat.lt_of_lt_of_le (maskN_lt _ _) (Nat.pow_le_pow_right (by omega) (by omega : k ≤ 12))) (by omega), maskN, show useI x k = true from by unfold useI; rw [HP.out]; exact HU.out, if_pos rfl]
        go_region
        rw [HOR.out]
        have hO4 := (hO3.useful (maskN (useI x) (k + 1)) (by omega)).congr (am' := doneM x k p (imax p.e0 x.e0) (imax p.n0 x.n0)) (fun q => (doneM_start x k p q).symm)
        have hPB : PBox bp p ((wq.setCell ⟨mb + 1, 10, none⟩ (.int .u64 ((maskN (useI x) (k + 1) : Nat) : Int))).drew) := ⟨by simpa using hpl, by go_simp, by go_simp, by go_simp, by go_simp⟩
        generalize ((wq.setCell ⟨mb + 1, 10, none⟩ (.int .u64 ((maskN (useI x) (k + 1) : Nat) : Int))).drew) = ws at *
        clear hO3 q0 q1 q2 q3 hpl HOR fz10 c0 c1 c2 c3 c4 c5 c6 c7 c8 c9 c10 c11 hfl hm ht p1 p2 p3 p4 hup
        have be0 : 0 ≤ imax p.e0 x.e0 := by rw [le_imax]; omega
        have be1 : imax p.e0 x.e0 ≤ 32 := by rw [imax_le]; omega
        have be2 : imin p.e1 x.e1 ≤ 32 := by rw [imin_le]; omega
        have bn0 : 0 ≤ imax p.n0 x.n0 := by rw [le_imax]; omega
        have bn1 : imax p.n0 x.n0 ≤ 32 := by rw [imax_le]; omega
        have bn2 : imin p.n1 x.n1 ≤ 32 := by rw [imin_le]; omega
        have hO5 := hO4
        have hPB2 := hPB
        obtain ⟨hF, fz, hm, ht, p1, p2, p3, p4, hup, _, _, _, lt⟩ := hO4
        obtain ⟨hpl, q0, q1, q2, q3⟩ := hPB
        clear hF fz hm hup
        go_wp2_with fail
        go_loopw [6] (fun s6 wr2 => ∃ av : Int, imax p.e0 x.e0 ≤ av ∧ av ≤ 33 ∧ s6 = .int .i64 av ∧ OpenInv w w.heap.size (mb + 1) mb (mb + 1 + 1) (some ⟨b, off, none⟩) cap x (maskN (useI x) (k + 1)) (doneM x k p av (imax p.n0 x.n0)) wr2 ∧ PBox bp p wr2) (fun s6 _ => (33 - intOf s6).toNat)
        case atStart => exact ⟨_, Int.le_refl _, by omega, rfl, hO5, hPB2⟩
        case round =>
          clear hO5 hPB2 hpl q0 q1 q2 q3 ht p1 p2 p3 p4 lt
          obtain ⟨av, ha1, ha2, rfl, hO6, hPB⟩ := hrel
          have hO7 := hO6
          have hPB2 := hPB
          obtain ⟨hF, fz, hm, ht, p1, p2, p3, p4, hup, _, _, _, lt⟩ := hO7
          obtain ⟨hpl, q0, q1, q2, q3⟩ := hPB
          clear hF fz hm hup
          by_cases hin : av ≤ imin p.e1 x.e1
          · go_wp2_with fail
            go_loopw [7] (fun s7 wr3 => ∃ bv : Int, imax p.n0 x.n0 ≤ bv ∧ bv ≤ 33 ∧ s7 = .int .i64 bv ∧ OpenInv w w.heap.size (mb + 1) mb (mb + 1 + 1) (some ⟨b, off, none⟩) cap x (maskN (useI x) (k + 1)) (doneM x k p av bv) wr3 ∧ PBox bp p wr3) (fun s7 _ => (33 - intOf s7).toNat)
            case atStart => exact ⟨_, Int.le_refl _, by omega, rfl, hO6, hPB2⟩
            case round =>
              clear hO6 hPB2 hpl q0 q1 q2 q3 ht p1 p2 p3 p4 lt
              obtain ⟨bv, hb1, hb2, rfl, hO8, hPB⟩ := hrel
              have hO9 := hO8
              have hPB2 := hPB
              obtain ⟨⟨hfl, c0, c1, c2, c3, c4, c5, c6, c7, c8, c9, c10, c11⟩, fz, hm, ht, p1, p2, p3, p4, hup, _, _, _, lt⟩ := hO9
              obtain ⟨hpl, q0, q1, q2, q3⟩ := hPB
              by_cases hinb : bv ≤ imin p.n1 x.n1
              · obtain ⟨m, hmm, hq⟩ := hm
                have hkk : k ≤ 12 := by omega
                have hz : ∀ w, (zeroValue 61).run Try.prog w = .ok (.int .u64 0) w := fun w => Try.zeroValue61 w
                have hm0 : MapIs wr.drew mb placeV m := hmm.of_heap rfl
                have hlk := hm0.lookup placeKeys Try.underlying77 hz (av, bv)
                obtain ⟨o1, st, hent, hoc, hnext⟩ := hm0.entry placeKeys Try.underlying77 hz (av, bv)
                have hh1 : (wr.drew.putObj mb o1).heap[mb]? = some o1 := World.putObj_heap_same hmm.lt
                obtain ⟨hm1, hst⟩ := hnext _ hh1
                have hlk1 := hm1.lookup placeKeys Try.underlying77 hz (av, bv)
                obtain ⟨o2, hes, hoc2, hm2⟩ := hst (.int .u64 ((maskN (onI x (av, bv)) k ||| 2 ^ k : Nat) : Int))
                simp only [upd, if_true, Option.getD_some] at hlk1
                rw [hq, doneM_here] at hlk hent hlk1
                simp only [placeV] at hlk hent hlk1
                have hor := or_pow (maskN (onI x (av, bv)) k) k (Nat.lt_of_lt_of_le (maskN_lt _ _) (Nat.pow_le_pow_right (by omega) hkk)) (by omega)
                have hO9' := hO8
                clear hst hm1 hnext hh1 hO8 hPB2 HBAD
                go_wp2_with fail
                go_region
                obtain ⟨om, hom, homc⟩ := hm0.isMap
                have hW' : OpenInv w w.heap.size (mb + 1) mb (mb + 1 + 1) (some ⟨b, off, none⟩) cap x (maskN (useI x) (k + 1)) (doneM x k p av (bv + 1)) ((wr.drew.putObj mb o1).putObj mb o2) := by
                  have h1 : (wr.drew.putObj mb o1).heap[mb]? = some o1 := World.putObj_heap_same hmm.lt
                  refine hO9'.told (by omega) (fun a => (putObj_cell h1 hoc hoc2 a).trans (putObj_cell hom homc hoc a)) (fun a => (putObj_frozen h1 hoc hoc2 a).trans (putObj_frozen hom homc hoc a)) (by rw [World.putObj_size, World.putObj_size]; exact Nat.le_refl _) ((Below.refl _ wr).drew.trans ((putObj_below _ (by omega)).trans (putObj_below _ (by omega)))) ⟨_, hm2 _ (World.putObj_heap_same (by simpa using hmm.lt)), fun q => ?_⟩
                  rw [doneM_step x k p av bv q ((onB_iff _ _ _).2 ⟨⟨ha1, hin⟩, hb1, hinb⟩)]
                  unfold upd
                  split
                  · simp
                  · exact hq q
                have hP' : PBox bp p ((wr.drew.putObj mb o1).putObj mb o2) := by
                  have h1 : (wr.drew.putObj mb o1).heap[mb]? = some o1 := World.putObj_heap_same hmm.lt
                  have hce : ∀ a, ((wr.drew.putObj mb o1).putObj mb o2).cell? a = wr.cell? a := fun a => (putObj_cell h1 hoc hoc2 a).trans (putObj_cell hom homc hoc a)
                  exact ⟨by rw [World.putObj_size, World.putObj_size]; exact hpl, (hce _).trans q0, (hce _).trans q1, (hce _).trans q2, (hce _).trans q3⟩
                clear hlk hent hlk1 hes hm2 hq hmm hm0 hom
                generalize (wr.drew.putObj mb o1).putObj mb o2 = wz at *
                go_wp2_with fail
                go_roundw
                case rel => exact ⟨bv + 1, by omega, by omega, by go_num, hW', hP'⟩
                case measure => simp [intOf]; omega
              · go_wp2_with fail
                go_roundw
                case rel => exact ⟨av + 1, by omega, by omega, by go_num, hO8.congr (fun q => doneM_row x k p av bv q (by omega)), hPB2⟩
                case measure => simp [intOf]; omega
          · go_wp2_with fail
            go_roundw
            case rel => exact ⟨k + 1, by omega, by go_num, hO6.congr (fun q => doneM_end x k p av q HP.out HU.out (by omega))⟩
            case measure => simp [intOf]; omega
    · have hkl : k = x.ps.length := by have := HN.out; omega
      have hO' := hO
      obtain ⟨⟨hfl, c0, c1, c2, c3, c4, c5, c6, c7, c8, c9, c10, c11⟩, fz, hm, ht, p1, p2, p3, p4, hup, lp, lm, lf, lt⟩ := hO
      have HK := Lib.hid hkl; clear hkl hm fz
      go_wp2_with fail
      go_ret
      refine ⟨mb + 1, rfl, by omega, ?_, hup⟩
      rw [HK.out] at hO'
      obtain ⟨m, hm, hq⟩ := hO'.m
      exact ⟨mb, m, hO'.f, hm, hq⟩

end Go.Proofs.Ytlfemkelnllmnaa
