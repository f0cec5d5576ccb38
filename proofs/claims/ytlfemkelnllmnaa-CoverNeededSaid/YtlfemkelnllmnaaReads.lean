/- cover.Useful, cover.Served. -/
import Derived.Test.YtlfemkelnllmnaaShort
set_option linter.all false
set_option linter.unusedVariables false
set_option linter.unusedSimpArgs false
namespace Go.Proofs.Ytlfemkelnllmnaa
open Go.RowKit

def usefulV (x : Fld) : Int × Int := if validB x then (((usefulM x : Nat) : Int), 0) else (0, 1)
def servedV (x : Fld) (s east north : Int) : Bool × Int :=
  if validB x then (if withinB s 0 (allN x : Int) && withinB east x.e0 x.e1 && withinB north x.n0 x.n1 then (servesB x (atM x (east, north) &&& s.toNat), 0) else (false, 2)) else (false, 1)

set_option maxHeartbeats 1000000 in
theorem useful_calls (a : Option Addr) (cap : Nat) (x : Fld) (w : World) (hs : SlW 6 skyRow w (.slice a x.ps.length cap) x.ps) :
    Calls Try.prog 17 #[fldV a cap x] w fun e w' => e = .returned (.tuple #[.int .i64 (usefulV x).1, .int .i64 (usefulV x).2]) ∧ Below w.heap.size w w' := by
  have HU0 := Lib.hid (topW_up w a cap x); have HB0 := Lib.hid (topW_box w a cap x)
  have htop : (w.alloc (.cells #[.slice a x.ps.length cap, .int .i64 x.e0, .int .i64 x.e1, .int .i64 x.n0, .int .i64 x.n1, .int .i64 x.d0, .int .i64 x.d1, .int .i64 x.depth, .int .i64 x.times, .int .i64 x.gap] 26)).alloc (.cells #[.int .i64 0] 30) = topW w a cap x := rfl
  have HT := Lib.hid htop; clear htop
  by_cases hv : validB x = true
  · have hV : usefulV x = (((usefulM x : Nat) : Int), 0) := by unfold usefulV; rw [if_pos hv]
    have hu := usefulM_lt (valid_bounds hv).2.2.2.2.2.2.1
    have HO := Lib.hid (openP_calls a cap x w _ hs hv (topW_up w a cap x))
    have HV := Lib.hid hV; clear hs hV
    unfold fldV at *
    go_enter_defers Try.func17, Try.ntmps17
    go_wp2_with fail
    rw [HT.out]
    generalize topW w a cap x = w0 at *
    refine HO.out.mono ?_
    rintro e w1 ⟨bf, rfl, hF, hb⟩
    have hE := boxed_below HB0.out (Nat.le_refl _) hb
    have hU := HU0.out.trans (hb.mono HU0.out.size)
    obtain ⟨⟨mb, m, hf, hm, hq⟩, hps⟩ := hF
    have c10 := hf.c10; have hc := hE.cell; have hz := hE.frozen; have hl := hE.lt
    have HE := Lib.hid hE; have HU := Lib.hid hU
    clear hf hm hq hps hE hU hb
    go_wp2
    refine leaves_cons (f := 26) (args := #[.pointer (some ⟨w.heap.size + 1, 0, none⟩)]) (by simp) (by simp [go_sem]) ?_
    refine (told_idle _ _).mono ?_
    rintro e u' w'' ⟨rfl, rfl, rfl⟩
    rw [HV.out]
    have h4 := (HE.out.set (.int .i64 0)).cell
    simp [Leaves, settle, results, Try.results17, go_sem, h4]
    exact HU.out.setCell (by simp) _
  · have hV : usefulV x = (0, 1) := by unfold usefulV; rw [if_neg hv]
    have HO := Lib.hid (open_bad a cap x (topW w a cap x) (hs.below (Nat.le_refl _) (topW_up w a cap x)) (by simpa using hv))
    have HV := Lib.hid hV; clear hs hV
    unfold fldV at *
    go_enter_defers Try.func17, Try.ntmps17
    go_wp2_with fail
    rw [HT.out]
    generalize topW w a cap x = w0 at *
    refine HO.out.mono ?_
    rintro e w3 ⟨rfl, hb⟩
    have hbx3 := boxed_below HB0.out (Nat.le_refl _) hb
    have hup3 := HU0.out.trans (hb.mono HU0.out.size)
    have hc3 := hbx3.cell; have hf3 := hbx3.frozen; have hl3 := hbx3.lt
    have HU3 := Lib.hid hup3; have HB3 := Lib.hid hbx3
    clear hb hbx3 hup3
    go_wp2
    refine leaves_cons (f := 26) (args := #[.pointer (some ⟨w.heap.size + 1, 0, none⟩)]) (by simp) (by simp [go_sem]) ?_
    refine (told_panic _ _ _ _ hc3 hf3).mono ?_
    rintro e u' w'' ⟨rfl, rfl, rfl⟩
    rw [HV.out]
    have h4 := ((HB3.out.set (.int .i64 1)).alloc (.cells #[.int .i64 1] 95)).cell
    simp [Leaves, settle, results, Try.results17, go_sem, h4]
    exact (HU3.out.setCell (by simp) _).alloc (by simpa using HU3.out.size) _

set_option maxHeartbeats 2000000 in
theorem served_calls (a : Option Addr) (cap : Nat) (x : Fld) (s east north : Int) (w : World) (hs : SlW 6 skyRow w (.slice a x.ps.length cap) x.ps) :
    Calls Try.prog 25 #[fldV a cap x, .int .i64 s, .int .i64 east, .int .i64 north] w fun e w' => e = .returned (.tuple #[.bool (servedV x s east north).1, .int .i64 (servedV x s east north).2]) ∧ Below w.heap.size w w' := by
  have HU0 := Lib.hid (topW_up w a cap x); have HB0 := Lib.hid (topW_box w a cap x); have HS0 := Lib.hid (topW_size w a cap x)
  have hcells : (topW w a cap x).cell? ⟨w.heap.size, 1, none⟩ = some (.int .i64 x.e0) ∧ (topW w a cap x).cell? ⟨w.heap.size, 2, none⟩ = some (.int .i64 x.e1) ∧ (topW w a cap x).cell? ⟨w.heap.size, 3, none⟩ = some (.int .i64 x.n0) ∧ (topW w a cap x).cell? ⟨w.heap.size, 4, none⟩ = some (.int .i64 x.n1) := by
    unfold topW fldL; go_simp
  have htop : (w.alloc (.cells #[.slice a x.ps.length cap, .int .i64 x.e0, .int .i64 x.e1, .int .i64 x.n0, .int .i64 x.n1, .int .i64 x.d0, .int .i64 x.d1, .int .i64 x.depth, .int .i64 x.times, .int .i64 x.gap] 26)).alloc (.cells #[.int .i64 0] 30) = topW w a cap x := rfl
  have HT := Lib.hid htop; have HCE := Lib.hid hcells; clear htop hcells
  by_cases hv : validB x = true
  · have hV : servedV x s east north = (if withinB s 0 (allN x : Int) && withinB east x.e0 x.e1 && withinB north x.n0 x.n1 then (servesB x (atM x (east, north) &&& s.toNat), 0) else (false, 2)) := by unfold servedV; rw [if_pos hv]
    have hlen := (valid_bounds hv).2.2.2.2.2.2.1
    have hal := allN_lt hlen
    have hu := usefulM_lt hlen
    have HO := Lib.hid (openP_calls a cap x w _ hs hv (topW_up w a cap x))
    clear hs
    unfold fldV at *
    have HV := Lib.hid hV; clear hV
    go_enter_defers Try.func25, Try.ntmps25
    go_wp2_with fail
    rw [HT.out]
    generalize topW w a cap x = w0 at *
    refine HO.out.mono ?_
    rintro e w1 ⟨bf, rfl, hF, hb⟩
    have hE := boxed_below HB0.out (Nat.le_refl _) hb
    have hU := HU0.out.trans (hb.mono HU0.out.size)
    have hlt0 : w.heap.size < w0.heap.size := by have := HS0.out; omega
    obtain ⟨q1, q2, q3, q4⟩ := HCE.out
    have d1 := (hb.cell (p := ⟨w.heap.size, 1, none⟩) hlt0).trans q1
    have d2 := (hb.cell (p := ⟨w.heap.size, 2, none⟩) hlt0).trans q2
    have d3 := (hb.cell (p := ⟨w.heap.size, 3, none⟩) hlt0).trans q3
    have d4 := (hb.cell (p := ⟨w.heap.size, 4, none⟩) hlt0).trans q4
    clear q1 q2 q3 q4 hlt0 HCE
    obtain ⟨⟨mb, m, hf, hm, hq⟩, hps⟩ := hF
    have c11 := hf.c11; have hc := hE.cell; have hz := hE.frozen; have hl := hE.lt
    have HIS := Lib.hid (isSet_calls bf a cap x w1 s hlen _ _ hf)
    have hzs : ∀ w, (zeroValue 61).run Try.prog w = .ok (.int .u64 0) w := fun w => Try.zeroValue61 w
    have hlk : (Instr.lookup 77 (.map (some mb)) (.agg #[.int .i64 east, .int .i64 north]) false).run Try.prog w1 = .ok (.int .u64 (atM x (east, north) : Int)) w1 := by
      have h2 := hm.lookup placeKeys Try.underlying77 hzs (east, north)
      rw [hq (east, north)] at h2
      exact h2
    have hat : atM x (east, north) < 4096 := Nat.lt_of_lt_of_le (maskN_lt _ _) (two_pow_le _ hlen)
    have hsv := fun k (hk : k < 4096) => serves_calls bf a cap x k w1 hv hk _ _ hf hps
    have HSV := Lib.hid hsv
    have HE := Lib.hid hE; have HU := Lib.hid hU
    clear hf hm hq hps hE hU hb hsv
    cases h1 : withinB s 0 (allN x : Int) with
    | false =>
      have hv2 := HV.out
      rw [h1, Bool.false_and, Bool.false_and, if_neg (by simp)] at hv2
      have HV2 := Lib.hid hv2
      rw [h1] at HIS
      clear hv2 h1 HV
      go_wp2_with (first
        | (go_at_call 35; refine HIS.out.mono ?_; rintro e w' ⟨rfl, rfl⟩)
        | (go_at_call 34; refine (must_false _ _).mono ?_; rintro e w' ⟨rfl, rfl⟩))
      refine leaves_cons (f := 26) (args := #[.pointer (some ⟨w.heap.size + 1, 0, none⟩)]) (by simp) (by simp [go_sem]) ?_
      refine (told_panic _ _ _ _ hc hz).mono ?_
      rintro e u' w'' ⟨rfl, rfl, rfl⟩
      rw [HV2.out]
      have h4 := ((HE.out.set (.int .i64 2)).alloc (.cells #[.int .i64 2] 95)).cell
      simp [Leaves, settle, results, Try.results25, go_sem, h4]
      exact (HU.out.setCell (by simp) _).alloc (by simpa using HU.out.size) _
    | true =>
      have hs1 : 0 ≤ s ∧ s ≤ (allN x : Int) := by simpa [withinB] using h1
      have hst : (s.toNat : Int) = s := by omega
      have hs4 : s.toNat < 4096 := by omega
      rw [h1] at HIS
      cases h2 : withinB east x.e0 x.e1 with
      | false =>
        have hv2 := HV.out
        rw [h1, h2, Bool.true_and, Bool.false_and, if_neg (by simp)] at hv2
        have HV2 := Lib.hid hv2
        clear hv2 h1 HV
        go_wp2_with (first
          | (go_at_call 35; refine HIS.out.mono ?_; rintro e w' ⟨rfl, rfl⟩)
          | (go_at_call 48; refine (within_calls _ _ _ _).mono ?_; rintro e w' ⟨rfl, rfl⟩)
          | (go_at_call 34; refine (must_false _ _).mono ?_; rintro e w' ⟨rfl, rfl⟩))
        refine leaves_cons (f := 26) (args := #[.pointer (some ⟨w.heap.size + 1, 0, none⟩)]) (by simp) (by simp [go_sem]) ?_
        refine (told_panic _ _ _ _ hc hz).mono ?_
        rintro e u' w'' ⟨rfl, rfl, rfl⟩
        rw [HV2.out]
        have h4 := ((HE.out.set (.int .i64 2)).alloc (.cells #[.int .i64 2] 95)).cell
        simp [Leaves, settle, results, Try.results25, go_sem, h4]
        exact (HU.out.setCell (by simp) _).alloc (by simpa using HU.out.size) _
      | true =>
        cases h3 : withinB north x.n0 x.n1 with
        | false =>
          have hv2 := HV.out
          rw [h1, h2, h3, Bool.true_and, Bool.true_and, if_neg (by simp)] at hv2
          have HV2 := Lib.hid hv2
          clear hv2 h1 HV
          go_wp2_with (first
            | (go_at_call 35; refine HIS.out.mono ?_; rintro e w' ⟨rfl, rfl⟩)
            | (go_at_call 48; refine (within_calls _ _ _ _).mono ?_; rintro e w' ⟨rfl, rfl⟩)
            | (go_at_call 34; refine (must_false _ _).mono ?_; rintro e w' ⟨rfl, rfl⟩))
          refine leaves_cons (f := 26) (args := #[.pointer (some ⟨w.heap.size + 1, 0, none⟩)]) (by simp) (by simp [go_sem]) ?_
          refine (told_panic _ _ _ _ hc hz).mono ?_
          rintro e u' w'' ⟨rfl, rfl, rfl⟩
          rw [HV2.out]
          have h4 := ((HE.out.set (.int .i64 2)).alloc (.cells #[.int .i64 2] 95)).cell
          simp [Leaves, settle, results, Try.results25, go_sem, h4]
          exact (HU.out.setCell (by simp) _).alloc (by simpa using HU.out.size) _
        | true =>
          have hv2 := HV.out
          rw [h1, h2, h3, Bool.true_and, Bool.true_and, if_pos rfl] at hv2
          have HV2 := Lib.hid hv2
          clear hv2 h1 HV
          generalize s.toNat = sn at *
          subst hst
          have hla := land_u64 _ sn hat hs4
          have hlt := land_lt (atM x (east, north)) sn hat
          generalize atM x (east, north) = qq at *
          go_wp2_with (first
            | (go_at_call 35; refine HIS.out.mono ?_; rintro e w' ⟨rfl, rfl⟩)
            | (go_at_call 48; refine (within_calls _ _ _ _).mono ?_; rintro e w' ⟨rfl, rfl⟩)
            | (go_at_call 34; refine (must_true _ _).mono ?_; rintro e w' ⟨rfl, rfl⟩)
            | (go_at_call 37; refine (HSV.out _ hlt).mono ?_; rintro e w' ⟨rfl, hb⟩; obtain ⟨g, rfl⟩ := GW.of hb; clear hb))
          refine leaves_cons (f := 26) (args := #[.pointer (some ⟨w.heap.size + 1, 0, none⟩)]) (by simp) (by simp [go_sem]) ?_
          refine (told_idle _ _).mono ?_
          rintro e u' w'' ⟨rfl, rfl, rfl⟩
          rw [HV2.out]
          have h4 := ((boxed_below HE.out (Nat.le_refl _) g.h).set (.int .i64 0)).cell
          simp [Leaves, settle, results, Try.results25, go_sem, h4]
          exact (HU.out.trans (g.h.mono HU.out.size)).setCell (by simp) _
  · have hV : servedV x s east north = (false, 1) := by unfold servedV; rw [if_neg hv]
    have HO := Lib.hid (open_bad a cap x (topW w a cap x) (hs.below (Nat.le_refl _) (topW_up w a cap x)) (by simpa using hv))
    have HV := Lib.hid hV; clear hs hV
    unfold fldV at *
    go_enter_defers Try.func25, Try.ntmps25
    go_wp2_with fail
    rw [HT.out]
    generalize topW w a cap x = w0 at *
    refine HO.out.mono ?_
    rintro e w3 ⟨rfl, hb⟩
    have hbx3 := boxed_below HB0.out (Nat.le_refl _) hb
    have hup3 := HU0.out.trans (hb.mono HU0.out.size)
    have hc3 := hbx3.cell; have hf3 := hbx3.frozen; have hl3 := hbx3.lt
    have HU3 := Lib.hid hup3; have HB3 := Lib.hid hbx3
    clear hb hbx3 hup3
    go_wp2
    refine leaves_cons (f := 26) (args := #[.pointer (some ⟨w.heap.size + 1, 0, none⟩)]) (by simp) (by simp [go_sem]) ?_
    refine (told_panic _ _ _ _ hc3 hf3).mono ?_
    rintro e u' w'' ⟨rfl, rfl, rfl⟩
    rw [HV.out]
    have h4 := ((HB3.out.set (.int .i64 1)).alloc (.cells #[.int .i64 1] 95)).cell
    simp [Leaves, settle, results, Try.results25, go_sem, h4]
    exact (HU3.out.setCell (by simp) _).alloc (by simpa using HU3.out.size) _

end Go.Proofs.Ytlfemkelnllmnaa
