/- (*cover.field).all, isSet, sets: all sets of plates of use, by size and then by number. -/
import Derived.Test.YtlfemkelnllmnaaList
import Derived.Scope
set_option linter.all false
set_option linter.unusedVariables false
set_option linter.unusedSimpArgs false
namespace Go.Proofs.Ytlfemkelnllmnaa
open Go.RowKit
attribute [local go_sem] Oper.semAt_some

/-! ### A scope through which the run goes straight, in a fence -/
theorem stepR_scope {P : Program} {b : Frame} {a : Act} {k : List Item} {cs : List Frame} {w : World} {c : Code} : step P (lone (b.atR a (.code (.scope c) :: k)) cs w) = .next (lone (b.atR a (.code c :: .inScope c :: k)) cs w) :=
  step_lone_go (by simp [stepG, stepG.exec, Frame.atR])
theorem stepR_inScope {P : Program} {b : Frame} {a : Act} {k : List Item} {cs : List Frame} {w : World} {c : Code} : step P (lone (b.atR a (.inScope c :: k)) cs w) = .next (lone (b.atR a k) cs w) :=
  step_lone_go (by simp [stepG, stepG.exec, Frame.atR])
theorem wpIn_scope_straight {F : Fence} {n : Nat} {P : Program} {Q : Exit → Act → World → Prop} {a : Act} {w : World} {c : Code} (h : c.wpIn F n P (Exit.noGoto Q) a w) : (Code.scope c).wpIn F n P Q a w := by
  intro b k cs hro hb hr
  have h0 : (lone (b.atR a (.code (.scope c) :: k)) cs w).fenced P F := fenced_calm hb hr rfl
  obtain ⟨e, a₁, w₁, hq, harr⟩ := h b (.inScope c :: k) cs hro hb hr
  cases e with
  | normal => exact ⟨.normal, a₁, w₁, hq, .head h0 stepR_scope (StepsIn.trans harr (.one (fenced_calm hb hr rfl) stepR_inScope))⟩
  | exit id =>
    have hx : exitTo id (.inScope c :: k) = exitTo id k := by simp [exitTo]
    exact ⟨.exit id, a₁, w₁, hq, fun k' hk => .head h0 stepR_scope (harr.1 k' (by rw [hx]; exact hk)),
      fun hr' hk => let ⟨k₁, h1, h2⟩ := harr.2 hr' (by rw [hx]; exact hk); ⟨k₁, h1, .head h0 stepR_scope h2⟩⟩
  | goto l => exact hq.elim
  | ret => exact ⟨_, a₁, w₁, hq, .of_steps (.one h0 stepR_scope) harr⟩
  | panic ch => exact ⟨_, a₁, w₁, hq, .of_steps (.one h0 stepR_scope) harr⟩
  | outgrown => exact ⟨_, a₁, w₁, hq, .of_steps (.one h0 stepR_scope) harr⟩

theorem all_val (n : Nat) (h : n ≤ 12) : IntKind.u64.wrap (IntKind.u64.wrap (2 ^ n) - 1) = ((2 ^ n - 1 : Nat) : Int) := by
  have : n = 0 ∨ n = 1 ∨ n = 2 ∨ n = 3 ∨ n = 4 ∨ n = 5 ∨ n = 6 ∨ n = 7 ∨ n = 8 ∨ n = 9 ∨ n = 10 ∨ n = 11 ∨ n = 12 := by omega
  rcases this with rfl | rfl | rfl | rfl | rfl | rfl | rfl | rfl | rfl | rfl | rfl | rfl | rfl <;> decide
theorem two_pow_le (n : Nat) (h : n ≤ 12) : 2 ^ n ≤ 4096 := Nat.pow_le_pow_right (by omega) h

/-- The set of all plates, and of those alone. -/
def allN (x : Fld) : Nat := 2 ^ x.ps.length - 1
theorem allN_lt {x : Fld} (h : x.ps.length ≤ 12) : allN x < 4096 := by have := two_pow_le _ h; unfold allN; omega

theorem all_calls (bf : Nat) (a : Option Addr) (cap : Nat) (x : Fld) (w : World) (hl : x.ps.length ≤ 12) (um mb : Nat) (hF : FieldC w bf a cap x um mb) :
    Calls Try.prog 41 #[.pointer (some ⟨bf, 0, none⟩)] w fun e w' => e = .returned (.int .u64 (allN x : Int)) ∧ w = w' := by
  have H := Lib.hid (all_val x.ps.length hl)
  have h0 := hF.c0
  clear hF
  go_enter Try.func41, Try.ntmps41
  go_wp2
  go_ret
  exact ⟨ret_int H.out, rfl⟩

theorem isSet_calls (bf : Nat) (a : Option Addr) (cap : Nat) (x : Fld) (w : World) (s : Int) (hl : x.ps.length ≤ 12) (um mb : Nat) (hF : FieldC w bf a cap x um mb) :
    Calls Try.prog 35 #[.pointer (some ⟨bf, 0, none⟩), .int .i64 s] w fun e w' => e = .returned (.bool (withinB s 0 (allN x : Int))) ∧ w = w' := by
  have H := Lib.hid (all_calls bf a cap x w hl um mb hF)
  have hp := allN_lt hl
  clear hF
  go_enter Try.func35, Try.ntmps35
  go_wp2_with (first
    | (go_at_call 41; refine H.out.mono ?_; rintro e w1 ⟨rfl, rfl⟩)
    | (go_at_call 48; refine (within_calls _ _ _ _).mono ?_; rintro e w1 ⟨rfl, rfl⟩))
  go_ret
  exact ⟨ret_bool (by rfl), rfl⟩

theorem notsub (s u : Nat) (hs : s < 4096) (hu : u < 4096) : (bits .andNot .u64 (s : Int) (u : Int) == 0) = decide (s &&& u = s) := by
  rw [u64_andNot_nat s u (by omega) (by omega), Bool.eq_iff_iff, beq_iff_eq, decide_eq_true_eq]
  have hb : ∀ i, (18446744073709551615 - u).testBit i = (decide (i < 64) && !u.testBit i) := fun i => by
    have := Nat.testBit_two_pow_sub_succ (show u < 2 ^ 64 by omega) i
    rwa [show 2 ^ 64 - (u + 1) = 18446744073709551615 - u by omega] at this
  constructor
  · intro h
    have h' : s &&& (18446744073709551615 - u) = 0 := by omega
    apply Nat.eq_of_testBit_eq
    intro i
    have h2 := congrArg (fun n => n.testBit i) h'
    simp only [Nat.testBit_and, hb, Nat.zero_testBit] at h2
    rw [Nat.testBit_and]
    by_cases hi : i < 64
    · simp only [hi, decide_true, Bool.true_and] at h2
      revert h2; cases s.testBit i <;> cases u.testBit i <;> simp
    · have : s.testBit i = false := Nat.testBit_lt_two_pow (Nat.lt_of_lt_of_le hs (by have : 2 ^ 12 ≤ 2 ^ i := Nat.pow_le_pow_right (by omega) (by omega); omega))
      rw [this]; rfl
  · intro h
    have h' : s &&& (18446744073709551615 - u) = 0 := by
      apply Nat.eq_of_testBit_eq
      intro i
      have h2 := congrArg (fun n => n.testBit i) h
      simp only [Nat.testBit_and] at h2
      rw [Nat.testBit_and, hb, Nat.zero_testBit]
      revert h2; cases s.testBit i <;> cases u.testBit i <;> simp
    omega

/-- Whether the set s is of plates of use, and of size c. -/
def okS (u c s : Nat) : Bool := decide (s &&& u = s) && decide (sizeN s = c)
def rowS (u c s r : Nat) : List Nat := (List.range' s r).filter (okS u c)
def gridS (u n c r : Nat) : List Nat := (List.range' c r).flatMap fun c => rowS u c 0 n
def setsL (x : Fld) : List Nat := gridS (usefulM x) (allN x + 1) 0 (sizeN (usefulM x) + 1)
theorem rowS_succ (u c s r : Nat) : rowS u c s (r + 1) = if okS u c s then s :: rowS u c (s + 1) r else rowS u c (s + 1) r := by
  unfold rowS; rw [List.range'_succ, List.filter_cons]
theorem gridS_succ (u n c r : Nat) : gridS u n c (r + 1) = rowS u c 0 n ++ gridS u n (c + 1) r := by
  unfold gridS; rw [List.range'_succ, List.flatMap_cons]
def f12 (s : Nat) : Fin 4096 := Fin.ofNat 4096 s
theorem f12_val {s : Nat} (h : s < 4096) : (f12 s).val = s := Nat.mod_eq_of_lt h
def setsF (x : Fld) : List (Fin 4096) := (setsL x).map f12
def encS (s : Fin 4096) : Array Value := #[.int .u64 ((s.val : Nat) : Int)]

theorem sizeN_le (s : Nat) : sizeN s ≤ 12 := by
  have := List.countP_le_length (p := s.testBit) (l := List.range 12)
  simpa [sizeN] using this

theorem usefulM_lt {x : Fld} (hl : x.ps.length ≤ 12) : usefulM x < 4096 := Nat.lt_of_lt_of_le (maskN_lt _ _) (two_pow_le _ hl)

theorem FieldC.belowB {w w' : World} {bf : Nat} {a : Option Addr} {cap : Nat} {x : Fld} {um mb : Nat} (h : FieldC w bf a cap x um mb) {B : Nat} (hB : bf < B) (hs : w.heap.size ≤ w'.heap.size) (hb : Below B w w') : FieldC w' bf a cap x um mb := by
  have hl := h.lt
  have hc : ∀ o, w'.cell? ⟨bf, o, none⟩ = w.cell? ⟨bf, o, none⟩ := fun o => hb.cell (p := ⟨bf, o, none⟩) hB
  exact ⟨Nat.lt_of_lt_of_le hl hs, (hc _).trans h.c0, (hc _).trans h.c1, (hc _).trans h.c2, (hc _).trans h.c3, (hc _).trans h.c4, (hc _).trans h.c5, (hc _).trans h.c6, (hc _).trans h.c7, (hc _).trans h.c8, (hc _).trans h.c9, (hc _).trans h.c10, (hc _).trans h.c11⟩

set_option maxHeartbeats 2000000 in
set_option maxRecDepth 10000 in
theorem sets1_stops (n : Nat) (hn : 3 ≤ n) (bx bf n₀ : Nat) (a : Option Addr) (cap : Nat) (x : Fld) (mb : Nat) (w : World) (hv : validB x = true) (hF : FieldC w bf a cap x (usefulM x) mb) (hbx : bx < w.heap.size) (hn0 : n₀ ≤ w.heap.size) (hx : w.cell? ⟨bx, 0, none⟩ = some (.pointer (some ⟨bf, 0, none⟩))) :
    SeqStopsK Fence.wide n Try.prog 53 #[.pointer (some ⟨bx, 0, none⟩)] encS (KpG n₀ bx bf) (· = setsF x) (· <+: setsF x) (setsF x).length w := by
  intro l J Jx W hW hJ hJx hY h0
  have hl : x.ps.length ≤ 12 := (valid_bounds hv).2.2.2.2.2.2.1
  clear hv hJ hJx
  have hn1 : 1 ≤ n := by omega
  have hu := usefulM_lt hl
  have hFx : ∀ wr, KpG n₀ bx bf w wr → wr.cell? ⟨bx, 0, none⟩ = some (.pointer (some ⟨bf, 0, none⟩)) ∧ FieldC wr bf a cap x (usefulM x) mb := fun wr h =>
    ⟨h.2 bx (.inl rfl) _ _ hx, hF.keptG h⟩
  have HFX := Lib.hid hFx; clear hFx hx
  have HY := Lib.hid hY; clear hY
  have hWn : KpG n₀ bx bf w W := ⟨hW.mono hn0, fun b hb o v hv => (hW.cell (p := ⟨b, o, none⟩) (by cases hb with | inl e => subst e; exact hbx | inr e => subst e; exact hF.lt)).trans hv⟩
  have hpl : setsF x = [] ++ (gridS (usefulM x) (allN x + 1) 0 (sizeN (usefulM x) + 1)).map f12 := rfl
  generalize setsF x = pl at *
  have HPL := Lib.hid hpl; clear hpl
  have hsz := sizeN_le (usefulM x)
  have hal := allN_lt hl
  obtain ⟨d0, d1⟩ := HFX.out W hWn
  have d2 := d1.c10
  have HD := Lib.hid d1; clear d1
  refine callsIn_of_wp Try.func53 rfl trivial ?_ rfl
  simp only [Try.ntmps53, List.size_toArray, List.length_cons, List.length_nil, Nat.reduceAdd, Nat.reduceSub, Array.replicate_succ, Array.replicate_zero, List.push_toArray, List.append_toArray, List.nil_append, List.cons_append]
  gi_wp2_with (refine ⟨trivial, ?_⟩; gi_at_call 31; refine (callsIn_wide.2 (size_calls (usefulM x) _ hu)).mono ?_; rintro e w1 ⟨rfl, rfl⟩)
  gi_loopw [11] (fun s wr => ∃ (c : Nat) (pre : List (Fin 4096)) (rr : Nat), s = .int .i64 (c : Int) ∧ Hid (rr + c = sizeN (usefulM x) + 1) ∧ Hid (pl = pre ++ (gridS (usefulM x) (allN x + 1) c rr).map f12) ∧ J pre wr ∧ KpG n₀ bx bf w wr) (fun s _ => (33 - intOf s).toNat)
  case atStart => exact ⟨0, [], _, rfl, by unfold Hid; rfl, HPL.out, h0, hWn⟩
  case round =>
    clear d0 d2 HD
    obtain ⟨c, pre, rr, rfl, hrr, hpre, hJ, hB⟩ := hrel
    obtain ⟨d0, d1⟩ := HFX.out wr hB
    have H1 := Lib.hid (all_calls bf a cap x wr hl _ _ d1)
    have d2 := d1.c10
    have HD := Lib.hid d1; clear d1
    by_cases hin : c < sizeN (usefulM x) + 1
    · have hin2 : (c : Int) < (sizeN (usefulM x) : Int) + 1 := by omega
      gi_wp2_with (refine ⟨trivial, ?_⟩; gi_at_call 41; refine (callsIn_wide.2 H1.out).mono ?_; rintro e w1 ⟨rfl, rfl⟩)
      refine wpIn_scope_straight ?_
      refine wpIn_seq ?_
      refine wpIn_label ?_
      change Code.wpIn _ _ _ _ _ _ _
      gi_wp2_with (refine ⟨trivial, ?_⟩; gi_at_call 41; refine (callsIn_wide.2 H1.out).mono ?_; rintro e w1 ⟨rfl, rfl⟩)
      gi_loopw [17] (fun s wr => ∃ (d : Nat) (pre' : List (Fin 4096)) (r2 : Nat), s = .int .u64 (d : Int) ∧ Hid (r2 + d = allN x + 1) ∧ Hid (pl = pre' ++ (rowS (usefulM x) c d r2 ++ gridS (usefulM x) (allN x + 1) (c + 1) (rr - 1)).map f12) ∧ J pre' wr ∧ KpG n₀ bx bf w wr) (fun s _ => (5000 - intOf s).toNat)
      case atStart =>
        refine ⟨0, pre, allN x + 1, rfl, by unfold Hid; rfl, ?_, hJ, hB⟩
        have h1 := hrr.out; have h2 := hpre.out
        obtain ⟨r3, rfl⟩ : ∃ r3, rr = r3 + 1 := ⟨rr - 1, by omega⟩
        rw [gridS_succ] at h2
        exact h2
      case round =>
        clear d0 d2 HD H1 hJ hB
        obtain ⟨d, pre', r2, rfl, hr2, hpre', hJ, hB⟩ := hrel
        obtain ⟨d0, d1⟩ := HFX.out wr hB
        have d2 := d1.c10
        have HD := Lib.hid d1; clear d1
        by_cases hinb : d < allN x + 1
        · have hinb2 : (d : Int) < (allN x : Int) + 1 := by omega
          have hd : d < 4096 := by omega
          have hns := notsub d (usefulM x) hd hu
          have hsd := size_calls d wr hd
          have HSD := Lib.hid hsd; clear hsd
          obtain ⟨r3, hr3⟩ : ∃ r3, r2 = r3 + 1 := ⟨r2 - 1, by have := hr2.out; omega⟩
          subst hr3
          have hstep : ∀ b, okS (usefulM x) c d = b → Hid (pl = pre' ++ ((if b then [d] else []) ++ rowS (usefulM x) c (d + 1) r3 ++ gridS (usefulM x) (allN x + 1) (c + 1) (rr - 1)).map f12) := fun b hb => by
            have h := hpre'.out
            rw [rowS_succ, hb] at h
            cases b <;> (unfold Hid; simpa using h)
          have HST := Lib.hid hstep; clear hstep hpre'
          by_cases hsub : d &&& usefulM x = d
          · rw [decide_eq_true hsub, beq_iff_eq] at hns
            have hsz2 := sizeN_le d
            by_cases hc : sizeN d = c
            · have hci : ((sizeN d : Nat) : Int) = (c : Int) := by omega
              have hp2 := HST.out true (by simp [okS, hsub, hc])
              have hlen : pre'.length < pl.length := by rw [hp2.out]; simp
              obtain ⟨fn, tmps, assign, body, hy, hRR⟩ := HY.out pre' (f12 d) wr hJ hlen
              simp only [encS, f12_val hd] at hy
              have HRR := Lib.hid hRR; have HSUB := Lib.hid hsub; have HC := Lib.hid hc; have HN := Lib.hid hns
              clear hRR hlen hsub hc HST
              gi_wp2_with (refine ⟨trivial, ?_⟩; gi_at_call 31; refine (callsIn_wide.2 HSD.out).mono ?_; rintro e w1 ⟨rfl, rfl⟩)
              refine HRR.out.mono ?_
              rintro e W3 (⟨rfl, hJ3, hk3⟩ | ⟨rfl, hJx3⟩)
              · gi_wp2
                go_roundw
                case rel => exact ⟨d + 1, pre' ++ [f12 d], r3, by go_num, by have := hr2.out; unfold Hid; omega, by have := hp2.out; unfold Hid; rw [this]; simp, hJ3, kpG_t hB hk3⟩
                case measure => simp [intOf]; omega
              · gi_wp2
                simp only [Exit.noGoto]
                gi_wp2
                refine bodyPost_ret (results_none rfl _ _ _) rfl ?_
                refine ⟨⟨_, rfl⟩, .inr ⟨pre' ++ [f12 d], ?_, hJx3⟩⟩
                have := hp2.out
                exact ⟨(rowS (usefulM x) c (d + 1) r3 ++ gridS (usefulM x) (allN x + 1) (c + 1) (rr - 1)).map f12, by rw [this]; simp⟩
            · have hci : ¬ ((sizeN d : Nat) : Int) = (c : Int) := by omega
              have hp2 := HST.out false (by simp [okS, hc])
              clear HST hc
              gi_wp2_with (refine ⟨trivial, ?_⟩; gi_at_call 31; refine (callsIn_wide.2 HSD.out).mono ?_; rintro e w1 ⟨rfl, rfl⟩)
              go_roundw
              case rel => exact ⟨d + 1, pre', r3, by go_num, by have := hr2.out; unfold Hid; omega, by have := hp2.out; unfold Hid; rw [this]; simp, hJ, hB⟩
              case measure => simp [intOf]; omega
          · rw [decide_eq_false hsub] at hns
            have hns2 : (bits .andNot .u64 (d : Int) (usefulM x : Int) != 0) = true := by rw [bne, hns]; rfl
            have hp2 := HST.out false (by simp [okS, hsub])
            clear HST hsub hns
            gi_wp2_with (refine ⟨trivial, ?_⟩)
            go_roundw
            case rel => exact ⟨d + 1, pre', r3, by go_num, by have := hr2.out; unfold Hid; omega, by have := hp2.out; unfold Hid; rw [this]; simp, hJ, hB⟩
            case measure => simp [intOf]; omega
        · have hinb2 : ¬ (d : Int) < (allN x : Int) + 1 := by omega
          gi_wp2
          go_roundw
          case rel =>
            refine ⟨c + 1, pre', rr - 1, by go_num, by have := hrr.out; unfold Hid; omega, ?_, hJ, hB⟩
            have h1 := hr2.out; have h2 := hpre'.out
            obtain rfl : r2 = 0 := by omega
            unfold Hid; rw [h2]; simp [rowS]
          case measure => simp [intOf]; omega
    · have hin2 : ¬ ((c : Int) < (sizeN (usefulM x) : Int) + 1) := by omega
      gi_wp2
      go_end0
      have h1 := hrr.out; have h2 := hpre.out
      obtain rfl : rr = 0 := by omega
      have h3 : pl = pre := by rw [h2]; simp [gridS]
      have h4 : J pl wr := by rw [h3]; exact hJ
      first | exact ⟨⟨_, rfl⟩, .inl h4⟩ | exact ⟨⟨_, rfl⟩, .inl ⟨pl, rfl, h4⟩⟩

end Go.Proofs.Ytlfemkelnllmnaa
