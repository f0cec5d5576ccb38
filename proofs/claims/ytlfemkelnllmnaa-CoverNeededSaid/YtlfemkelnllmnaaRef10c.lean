/- The document's words for fields (zoneworksref10): Together, Places. -/
import Derived.Test.YtlfemkelnllmnaaRef10b
import Derived.Laws.StructEq
set_option linter.all false
set_option linter.unusedVariables false
set_option linter.unusedSimpArgs false
namespace Go.Proofs.Ytlfemkelnllmnaa
open Go.RowKit

def hasB (p : Sky) (q : Int × Int) : Bool := withinB q.1 p.e0 p.e1 && withinB q.2 p.n0 p.n1
def togetherB (x : Fld) (a b : Int × Int) : Bool := x.ps.any fun p => useB x p && hasB p a && hasB p b
theorem any_snoc_false {α : Type} {q : α → Bool} {l : List α} (k : Nat) (hk : k < l.length) (h0 : Hid ((l.take k).any q = false)) (h : q l[k] = false) : Hid ((l.take (k + 1)).any q = false) := by
  unfold Hid at *
  rw [List.take_succ_eq_append_getElem hk, List.any_append, h0]; simp [h]
theorem any_at_true {α : Type} {q : α → Bool} {l : List α} (k : Nat) (hk : k < l.length) (h : q l[k] = true) : l.any q = true := List.any_eq_true.2 ⟨_, List.getElem_mem hk, h⟩
theorem any_end_false {α : Type} {q : α → Bool} {l : List α} (h0 : Hid ((l.take l.length).any q = false)) : l.any q = false := by unfold Hid at h0; rwa [List.take_length] at h0

set_option maxHeartbeats 4000000 in
set_option maxRecDepth 10000 in
theorem rTogether_calls (a : Option Addr) (cap : Nat) (x : Fld) (qa qb : Int × Int) (w : World) (hs : SlW 6 skyRow w (.slice a x.ps.length cap) x.ps) :
    Calls Try.prog 21 #[fldV a cap x, .agg #[.int .i64 qa.1, .int .i64 qa.2], .agg #[.int .i64 qb.1, .int .i64 qb.2]] w fun e w' => e = .returned (.bool (togetherB x qa qb)) ∧ Below w.heap.size w w' := by
  have hlen : x.ps.length ≤ 9223372036854775807 := by obtain ⟨_, _, _, h, _⟩ := hs; exact h
  have hlN : (x.ps.length : Int) ≤ 9223372036854775807 := by omega
  have htop : ((w.alloc (.cells #[.slice a x.ps.length cap, .int .i64 x.e0, .int .i64 x.e1, .int .i64 x.n0, .int .i64 x.n1, .int .i64 x.d0, .int .i64 x.d1, .int .i64 x.depth, .int .i64 x.times, .int .i64 x.gap] 26)).alloc (.cells #[.int .i64 qa.1, .int .i64 qa.2] 43)).alloc (.cells #[.int .i64 qb.1, .int .i64 qb.2] 43) = ((boxF w a cap x).alloc (.cells #[.int .i64 qa.1, .int .i64 qa.2] 43)).alloc (.cells #[.int .i64 qb.1, .int .i64 qb.2] 43) := rfl
  have HT := Lib.hid htop; clear htop
  have hup : Below w.heap.size w (((boxF w a cap x).alloc (.cells #[.int .i64 qa.1, .int .i64 qa.2] 43)).alloc (.cells #[.int .i64 qb.1, .int .i64 qb.2] 43)) := Up.alloc _ (Up.alloc _ (boxF_up w a cap x))
  have hsz : (((boxF w a cap x).alloc (.cells #[.int .i64 qa.1, .int .i64 qa.2] 43)).alloc (.cells #[.int .i64 qb.1, .int .i64 qb.2] 43)).heap.size = w.heap.size + 1 + 1 + 1 := by simp [boxF]
  have hA : (((boxF w a cap x).alloc (.cells #[.int .i64 qa.1, .int .i64 qa.2] 43)).alloc (.cells #[.int .i64 qb.1, .int .i64 qb.2] 43)).cell? ⟨w.heap.size + 1, 0, none⟩ = some (.int .i64 qa.1) := by unfold boxF; go_simp
  have hA2 : (((boxF w a cap x).alloc (.cells #[.int .i64 qa.1, .int .i64 qa.2] 43)).alloc (.cells #[.int .i64 qb.1, .int .i64 qb.2] 43)).cell? ⟨w.heap.size + 1, 1, none⟩ = some (.int .i64 qa.2) := by unfold boxF; go_simp
  have hB : (((boxF w a cap x).alloc (.cells #[.int .i64 qa.1, .int .i64 qa.2] 43)).alloc (.cells #[.int .i64 qb.1, .int .i64 qb.2] 43)).cell? ⟨w.heap.size + 1 + 1, 0, none⟩ = some (.int .i64 qb.1) := by unfold boxF; go_simp
  have hB2 : (((boxF w a cap x).alloc (.cells #[.int .i64 qa.1, .int .i64 qa.2] 43)).alloc (.cells #[.int .i64 qb.1, .int .i64 qb.2] 43)).cell? ⟨w.heap.size + 1 + 1, 1, none⟩ = some (.int .i64 qb.2) := by unfold boxF; go_simp
  have hFB : FBox (((boxF w a cap x).alloc (.cells #[.int .i64 qa.1, .int .i64 qa.2] 43)).alloc (.cells #[.int .i64 qb.1, .int .i64 qb.2] 43)) w.heap.size a cap x :=
    (boxF_is w a cap x).below (Nat.lt_of_lt_of_le (boxF_is w a cap x).lt (Nat.le_refl _)) (Up.alloc _ (Up.alloc _ (Up.refl _)))
  have HS := Lib.hid (hs.below (Nat.le_refl _) hup); have HU := Lib.hid hup; have HF := Lib.hid hFB
  have HA := Lib.hid hA; have HA2 := Lib.hid hA2; have HB := Lib.hid hB; have HB2 := Lib.hid hB2; have HZ := Lib.hid hsz
  clear hs hup hsz hA hA2 hB hB2 hFB
  unfold fldV
  go_enter Try.func21, Try.ntmps21
  go_wp2
  rw [HT.out]
  generalize ((boxF w a cap x).alloc (.cells #[.int .i64 qa.1, .int .i64 qa.2] 43)).alloc (.cells #[.int .i64 qb.1, .int .i64 qb.2] 43) = w1 at *
  clear HT
  have hz1 := HZ.out
  go_loopw [7] (fun s7 wr => ∃ k : Nat, s7 = .int .i64 (k : Int) ∧ k ≤ x.ps.length ∧ Below w1.heap.size w1 wr ∧ Hid ((x.ps.take k).any (fun p => useB x p && hasB p qa && hasB p qb) = false)) (fun s7 _ => (x.ps.length + 1 - intOf s7).toNat)
  case atStart => exact ⟨0, rfl, Nat.zero_le _, Below.refl _ _, by simp [Hid]⟩
  case round =>
    obtain ⟨k, rfl, hk, hb, hn⟩ := hrel
    have hF := HF.out.below HF.out.lt hb
    have c0 := hF.c0; have lf := hF.lt
    by_cases hin : k < x.ps.length
    · have hin2 : (k : Int) < (x.ps.length : Int) := by omega
      rcases (HS.out.below (Nat.le_refl _) hb) with ⟨a', cap', hv, _, hx | ⟨ba, off, ha, hbl, hc⟩⟩
      · exfalso; rw [hx] at hin; simp at hin
      cases hv
      subst ha
      have hc' := hc k hin
      have q0 := hc' 0 (by simp [skyRow])
      have q1 := hc' 1 (by simp [skyRow])
      have q2 := hc' 2 (by simp [skyRow])
      have q3 := hc' 3 (by simp [skyRow])
      have q4 := hc' 4 (by simp [skyRow])
      have q5 := hc' 5 (by simp [skyRow])
      simp only [skyRow, List.getElem_cons_zero, List.getElem_cons_succ, Nat.add_zero] at q0 q1 q2 q3 q4 q5
      have hyes := any_at_true (q := fun p => useB x p && hasB p qa && hasB p qb) k hin
      have hno := any_snoc_false (q := fun p => useB x p && hasB p qa && hasB p qb) k hin hn
      have e1 := hF.c1; have e2 := hF.c2; have e3 := hF.c3; have e4 := hF.c4; have e5 := hF.c5; have e6 := hF.c6; have e7 := hF.c7; have e8 := hF.c8; have e9 := hF.c9
      have za := (hb.cell (p := ⟨w.heap.size + 1, 0, none⟩) (by show w.heap.size + 1 < _; omega)).trans HA.out
      have za2 := (hb.cell (p := ⟨w.heap.size + 1, 1, none⟩) (by show w.heap.size + 1 < _; omega)).trans HA2.out
      have zb := (hb.cell (p := ⟨w.heap.size + 1 + 1, 0, none⟩) (by show w.heap.size + 1 + 1 < _; omega)).trans HB.out
      have zb2 := (hb.cell (p := ⟨w.heap.size + 1 + 1, 1, none⟩) (by show w.heap.size + 1 + 1 < _; omega)).trans HB2.out
      have hbs := hb.size
      have l1 : w.heap.size + 1 < wr.heap.size := by omega
      have l2 : w.heap.size + 1 + 1 < wr.heap.size := by omega
      have HBW := Lib.hid hb
      have HN := Lib.hid hn
      clear hc hc' hn hF hbs hb
      generalize x.ps[k] = p at *
      dsimp only [hasB] at hyes hno
      generalize h1 : useB x p = b1 at *
      generalize h2 : withinB qa.1 p.e0 p.e1 = b2 at *
      generalize h3 : withinB qa.2 p.n0 p.n1 = b3 at *
      generalize h4 : withinB qb.1 p.e0 p.e1 = b4 at *
      generalize h5 : withinB qb.2 p.n0 p.n1 = b5 at *
      have HYES := Lib.hid hyes; have HNO := Lib.hid hno
      have G1 := Lib.hid h1; have G2 := Lib.hid h2; have G3 := Lib.hid h3; have G4 := Lib.hid h4; have G5 := Lib.hid h5
      clear hyes hno h1 h2 h3 h4 h5
      have hOF := fun W => rOf_calls (some ⟨ba, off, none⟩) cap x p W
      unfold fldV at hOF
      simp only [skyRow] at hOF
      have HOF := Lib.hid hOF; clear hOF
      have hpb : Hid (∀ g : GW (wr.alloc (.cells #[.int .i64 p.e0, .int .i64 p.e1, .int .i64 p.n0, .int .i64 p.n1, .int .i64 p.day, .int .i64 p.depth] 48)).heap.size (wr.alloc (.cells #[.int .i64 p.e0, .int .i64 p.e1, .int .i64 p.n0, .int .i64 p.n1, .int .i64 p.day, .int .i64 p.depth] 48)), Below w1.heap.size w1 g.w) := fun g => Up.gw g (Up.alloc _ HBW.out)
      go_wp2_with fail
      refine (HOF.out _).mono ?_
      rintro e w2 ⟨rfl, hb1⟩
      obtain ⟨g1, rfl⟩ := GW.of hb1; clear hb1
      rw [G1.out]
      cases b1
      · go_wp2_with fail
        go_roundw
        case rel => exact ⟨k + 1, by go_num, by omega, hpb.out g1, HNO.out rfl⟩
        case measure => simp [intOf]; omega
      · go_wp2_with fail
        refine (rHas_calls _ _ _ _).mono ?_
        rintro e w3 ⟨rfl, hb2⟩
        obtain ⟨g2, rfl⟩ := GW.of (g1.h.trans (hb2.mono g1.h.size)); clear hb2
        rw [G2.out]
        cases b2
        · go_wp2_with fail
          go_roundw
          case rel => exact ⟨k + 1, by go_num, by omega, hpb.out g2, HNO.out rfl⟩
          case measure => simp [intOf]; omega
        · go_wp2_with fail
          refine (rHas_calls _ _ _ _).mono ?_
          rintro e w3 ⟨rfl, hb3⟩
          obtain ⟨g3, rfl⟩ := GW.of (g2.h.trans (hb3.mono g2.h.size)); clear hb3
          rw [G3.out]
          cases b3
          · go_wp2_with fail
            go_roundw
            case rel => exact ⟨k + 1, by go_num, by omega, hpb.out g3, HNO.out rfl⟩
            case measure => simp [intOf]; omega
          · go_wp2_with fail
            refine (rHas_calls _ _ _ _).mono ?_
            rintro e w3 ⟨rfl, hb4⟩
            obtain ⟨g4, rfl⟩ := GW.of (g3.h.trans (hb4.mono g3.h.size)); clear hb4
            rw [G4.out]
            cases b4
            · go_wp2_with fail
              go_roundw
              case rel => exact ⟨k + 1, by go_num, by omega, hpb.out g4, HNO.out rfl⟩
              case measure => simp [intOf]; omega
            · go_wp2_with fail
              refine (rHas_calls _ _ _ _).mono ?_
              rintro e w3 ⟨rfl, hb5⟩
              obtain ⟨g5, rfl⟩ := GW.of (g4.h.trans (hb5.mono g4.h.size)); clear hb5
              rw [G5.out]
              cases b5
              · go_wp2_with fail
                go_roundw
                case rel => exact ⟨k + 1, by go_num, by omega, hpb.out g5, HNO.out rfl⟩
                case measure => simp [intOf]; omega
              · go_wp2_with fail
                go_ret
                have hh := hpb.out g5
                exact ⟨ret_bool (HYES.out rfl).symm, HU.out.trans (hh.mono HU.out.size)⟩
    · have hin2 : ¬ (k : Int) < (x.ps.length : Int) := by omega
      obtain rfl : k = x.ps.length := by omega
      have HE := Lib.hid (any_end_false hn)
      have HBW := Lib.hid hb
      clear hn hb
      go_wp2
      go_ret
      exact ⟨ret_bool HE.out.symm, HU.out.trans (HBW.out.mono HU.out.size)⟩

def prRow (q : Int × Int) : List Value := [.int .i64 q.1, .int .i64 q.2]
theorem take_snoc_eq {α : Type} {l m : List α} (k : Nat) (h1 : k < l.length) (h2 : k < m.length) (h0 : Hid (l.take k = m.take k)) (h : l[k] = m[k]) : Hid (l.take (k + 1) = m.take (k + 1)) := by
  unfold Hid at *
  rw [List.take_succ_eq_append_getElem h1, List.take_succ_eq_append_getElem h2, h0, h]
theorem pair_ne {a b : Int × Int} (h : a ≠ b) : (a.1 == b.1 && a.2 == b.2) = false := by
  rw [Bool.and_eq_false_iff]
  simp only [beq_eq_false_iff_ne, ne_eq]
  by_cases h1 : a.1 = b.1
  · exact .inr fun h2 => h (Prod.ext h1 h2)
  · exact .inl h1

@[go_sem] theorem pair_equal (a0 a1 b0 b1 : Int) (w : World) : (Op.equalIn 10000 43 (.agg #[.int .i64 a0, .int .i64 a1]) (.agg #[.int .i64 b0, .int .i64 b1])).run Try.prog w = .ok (a0 == b0 && a1 == b1) w := by
  have hsz : ∀ w, (sizeOf 3).run Try.prog w = .ok 1 w := fun w => Try.sizeOf3 w
  rw [show (10000 : Nat) = 9998 + 1 + 1 from rfl, Op.equalIn]
  simp only [Sem.run_bind, run_underlying Try.underlying43, Result.andThen_ok, hsz, Std.Legacy.Range.forIn_eq_forIn_range', Std.Legacy.Range.size, Nat.sub_zero, Nat.add_sub_cancel, Nat.div_one, Nat.mul_one]
  rw [show List.range' 0 2 1 = [0, 1] from rfl]
  have p0 : ∀ x y : Int, (part 3 #[.int .i64 x, .int .i64 y] 0).run Try.prog w = .ok (.int .i64 x) w := fun x y => by simp [part, isAgg, run_underlying Try.underlying3]
  have p1 : ∀ x y : Int, (part 3 #[.int .i64 x, .int .i64 y] 1).run Try.prog w = .ok (.int .i64 y) w := fun x y => by simp [part, isAgg, run_underlying Try.underlying3]
  simp only [List.forIn_cons, List.forIn_nil, Sem.run_bind, p0, p1, Result.andThen_ok, run_equalIn_int w _ 3 .i64 .i64 _ _ Try.underlying3]
  cases h0 : (a0 == b0)
  · simp
  · cases h1 : (a1 == b1)
    · simp [p1, run_equalIn_int w _ 3 .i64 .i64 _ _ Try.underlying3, h1]
    · simp [p1, run_equalIn_int w _ 3 .i64 .i64 _ _ Try.underlying3, h1]
theorem eqGuard_pair : Try.prog.eqGuardType Try.prog.depth 43 = false := by kernel_rfl
@[go_sem] theorem run_neq_pair (a0 a1 b0 b1 : Int) (w : World) : (binOp .neq 43 (.agg #[.int .i64 a0, .int .i64 a1]) (.agg #[.int .i64 b0, .int .i64 b1])).run Try.prog w = .ok (.bool (!(a0 == b0 && a1 == b1))) w := by
  rw [run_neq_struct, pair_equal]; rfl
@[go_sem] theorem run_eql_pair (a0 a1 b0 b1 : Int) (w : World) : (binOp .eql 43 (.agg #[.int .i64 a0, .int .i64 a1]) (.agg #[.int .i64 b0, .int .i64 b1])).run Try.prog w = .ok (.bool (a0 == b0 && a1 == b1)) w := by
  rw [run_eql_struct, pair_equal]; rfl

set_option maxHeartbeats 2000000 in
theorem rPlaces_calls (va vb : Value) (l m : List (Int × Int)) (w : World) (ha : SlW 2 prRow w va l) (hb : SlW 2 prRow w vb m) :
    Calls Try.prog 23 #[va, vb] w fun e w' => e = .returned (.bool (decide (l = m))) ∧ Below w.heap.size w w' := by
  obtain ⟨aa, ca, rfl, hla, hxa⟩ := ha
  obtain ⟨ab, cb, rfl, hlb, hxb⟩ := hb
  have hla' : (l.length : Int) ≤ 9223372036854775807 := by omega
  have HXA := Lib.hid hxa; have HXB := Lib.hid hxb
  clear hxa hxb
  by_cases hl : l.length = m.length
  · have hl2 : ((l.length : Int) != (m.length : Int)) = false := by simp [hl]
    have HL := Lib.hid hl
    clear hl
    generalize hd : decide (l = m) = d
    have hgp := eqGuard_pair
    have HD := Lib.hid hd; clear hd
    go_enter Try.func23, Try.ntmps23
    go_wp2
    go_loopw [5] (fun s5 wr => ∃ k : Nat, s5 = .int .i64 (k : Int) ∧ k ≤ l.length ∧ Below w.heap.size w wr ∧ Hid (l.take k = m.take k)) (fun s5 _ => (l.length + 1 - intOf s5).toNat)
    case atStart => exact ⟨0, rfl, Nat.zero_le _, Below.refl _ _, by simp [Hid]⟩
    case round =>
      obtain ⟨k, rfl, hk, hb, hn⟩ := hrel
      have HB := Lib.hid hb; have HN := Lib.hid hn
      clear hn hb
      by_cases hin : k < l.length
      · have hin2 : (k : Int) < (l.length : Int) := by omega
        have hkm : k < m.length := by have := HL.out; omega
        have hkm2 : (k : Int) < (m.length : Int) := by omega
        rcases HXA.out with h | ⟨ba, oa, rfl, hba, hca⟩
        · subst h; simp at hin
        rcases HXB.out with h | ⟨bb, ob, rfl, hbb, hcb⟩
        · subst h; simp at hkm
        have a0 := (HB.out.cell (p := ⟨ba, oa + k * 2 + 0, none⟩) hba).trans (hca k hin 0 (by simp [prRow]))
        have a1 := (HB.out.cell (p := ⟨ba, oa + k * 2 + 1, none⟩) hba).trans (hca k hin 1 (by simp [prRow]))
        have b0 := (HB.out.cell (p := ⟨bb, ob + k * 2 + 0, none⟩) hbb).trans (hcb k hkm 0 (by simp [prRow]))
        have b1 := (HB.out.cell (p := ⟨bb, ob + k * 2 + 1, none⟩) hbb).trans (hcb k hkm 1 (by simp [prRow]))
        simp only [prRow, List.getElem_cons_zero, List.getElem_cons_succ, Nat.add_zero] at a0 a1 b0 b1
        have hto := take_snoc_eq k hin hkm HN.out
        have hneq : l[k] ≠ m[k] → d = false := fun h => by rw [← HD.out]; exact decide_eq_false (fun e => h (by subst e; rfl))
        have HTO := Lib.hid hto; have HNEQ := Lib.hid hneq
        have hba2 : ba < wr.heap.size := Nat.lt_of_lt_of_le hba HB.out.size
        have hbb2 : bb < wr.heap.size := Nat.lt_of_lt_of_le hbb HB.out.size
        have HB2 := Lib.hid (show ∀ g : GW wr.heap.size wr, Below w.heap.size w g.w from fun g => Up.gw g HB.out)
        clear hto hneq hca hcb
        generalize l[k] = ql at *
        generalize m[k] = qm at *
        by_cases he : ql = qm
        · have h1 := HTO.out he
          have H1 := Lib.hid h1; clear h1
          subst he
          go_wp2_with fail
          refine GW.region wr (by kernel_rfl) (by kernel_rfl) (Up.refl _) ?_
          repeat (go_big_quiet_step (fail))
          refine wpQuiet_nil ?_
          rintro _ ⟨g, rfl⟩
          go_wp2_with fail
          go_roundw
          case rel => exact ⟨k + 1, by go_num, by omega, HB2.out g, H1.out⟩
          case measure => simp [intOf]; omega
        · have h1 := HNEQ.out he
          have hp := pair_ne he
          have H1 := Lib.hid h1; clear h1 he
          go_wp2_with fail
          refine GW.region wr (by kernel_rfl) (by kernel_rfl) (Up.refl _) ?_
          repeat (go_big_quiet_step (fail))
          refine wpQuiet_nil ?_
          rintro _ ⟨g, rfl⟩
          go_wp2_with fail
          go_ret
          exact ⟨ret_bool H1.out.symm, HB2.out g⟩
      · have hin2 : ¬ (k : Int) < (l.length : Int) := by omega
        obtain rfl : k = l.length := by omega
        have hd : d = true := by
          rw [← HD.out]
          have := HN.out
          unfold Hid at this
          rw [List.take_length, HL.out, List.take_length] at this
          exact decide_eq_true this
        have HDD := Lib.hid hd; clear hd
        go_wp2
        go_ret
        exact ⟨ret_bool HDD.out.symm, HB.out⟩
  · have hl2 : ((l.length : Int) != (m.length : Int)) = true := by simp; omega
    have hd : decide (l = m) = false := decide_eq_false (fun e => hl (by rw [e]))
    have HD := Lib.hid hd; clear hd hl
    go_enter Try.func23, Try.ntmps23
    go_wp2
    go_ret
    exact ⟨ret_bool HD.out.symm, Below.refl _ _⟩

end Go.Proofs.Ytlfemkelnllmnaa
