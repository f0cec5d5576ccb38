/- cover.Needed. -/
import Derived.Test.YtlfemkelnllmnaaBits2
import Derived.Deep.CutRange
set_option linter.all false
set_option linter.unusedVariables false
set_option linter.unusedSimpArgs false
namespace Go.Proofs.Ytlfemkelnllmnaa
open Go.RowKit

def needI (x : Fld) (i : Nat) : Bool := (usefulM x).testBit i && !listB x (withoutN (usefulM x) i)
def neededM (x : Fld) : Nat := maskN (needI x) x.ps.length
def neededV (x : Fld) : Int × Int := if validB x then (if listB x (usefulM x) then ((neededM x : Nat), 0) else (0, 4)) else (0, 1)

/-- An exit of a region that does not hang on the frame where it panics. -/
def regP (K : Act → World → Prop) (R : List PanicEntry → World → Prop) : Exit → Act → World → Prop
  | .normal, a, w => K a w
  | .panic c, _, w => R c w
  | _, _, _ => False

set_option maxHeartbeats 4000000 in
set_option maxRecDepth 10000 in
theorem needed_good (a : Option Addr) (cap : Nat) (x : Fld) (w : World) (hs : SlW 6 skyRow w (.slice a x.ps.length cap) x.ps) (hv : validB x = true) (r1 r2 : Int) (hr1 : listB x (usefulM x) = true → r1 = (neededM x : Nat) ∧ r2 = 0) (hr2 : listB x (usefulM x) = false → r1 = 0 ∧ r2 = 4) :
    Calls Try.prog 16 #[fldV a cap x] w fun e w' => e = .returned (.tuple #[.int .i64 r1, .int .i64 r2]) ∧ Below w.heap.size w w' := by
  have HR1 := Lib.hid hr1; have HR2 := Lib.hid hr2; clear hr1 hr2
  have HU0 := Lib.hid (topW_up w a cap x); have HB0 := Lib.hid (topW_box w a cap x); have HS0 := Lib.hid (topW_size w a cap x)
  have hcells : (topW w a cap x).cell? ⟨w.heap.size, 0, none⟩ = some (.slice a x.ps.length cap) := by
    unfold topW fldL; go_simp
  have htop : (w.alloc (.cells #[.slice a x.ps.length cap, .int .i64 x.e0, .int .i64 x.e1, .int .i64 x.n0, .int .i64 x.n1, .int .i64 x.d0, .int .i64 x.d1, .int .i64 x.depth, .int .i64 x.times, .int .i64 x.gap] 26)).alloc (.cells #[.int .i64 0] 30) = topW w a cap x := rfl
  have HT := Lib.hid htop; have HCE := Lib.hid hcells; clear htop hcells
  have hlen := (valid_bounds hv).2.2.2.2.2.2.1
  have hu := usefulM_lt hlen
  have HO := Lib.hid (openP_calls a cap x w _ hs hv (topW_up w a cap x))
  clear hs
  have HW := Lib.hid (fun i (hi : i < 12) => without_u64 (usefulM x) i hu hi)
  have HOR := Lib.hid (fun m k (hm : m < 4096) (hk : k < 12) => or_powi m k hm hk)
  unfold fldV at *
  go_enter_defers Try.func16, Try.ntmps16
  go_wp2_with fail
  rw [HT.out]
  generalize topW w a cap x = w0 at *
  refine HO.out.mono ?_
  rintro e w1 ⟨bf, rfl, hF, hb⟩
  have hE := boxed_below HB0.out (Nat.le_refl _) hb
  have hU := HU0.out.trans (hb.mono HU0.out.size)
  have hlt0 : w.heap.size < w0.heap.size := by have := HS0.out; omega
  have d0 := (hb.cell (p := ⟨w.heap.size, 0, none⟩) hlt0).trans HCE.out
  have hws : w.heap.size < w1.heap.size := Nat.lt_of_lt_of_le hlt0 hb.size
  have HF := Lib.hid hF; have HE := Lib.hid hE; have HU := Lib.hid hU; have HD := Lib.hid d0
  obtain ⟨⟨mb, m, hf, hm, hq⟩, hps⟩ := hF
  have c10 := hf.c10
  have hbf := hf.lt
  clear hf hm hq hps hE hU hb hlt0 HCE HS0 HB0 HU0 HT HO d0
  go_wp2_with fail
  go_cut [5, 6] from 10 (fun s5 s6 wc => ∃ bk bl mb, s5 = .func (.func 54) #[] #[.pointer (some ⟨bk, 0, none⟩), .pointer (some ⟨bl, 0, none⟩)] ∧ s6 = .func (.func 38) #[.int .u64 (usefulM x : Int)] #[] ∧ ListC wc bk bl bf a cap x (usefulM x) mb ∧ Below w1.heap.size w1 wc)
  case first =>
    rename_i J K' hJ hK'
    refine wp_mono (Q := regP K' (fun _ _ => False)) ?_ (fun e a w h => by cases e <;> first | exact h | exact h.elim)
    go_region_with (first
      | (go_at_call 30; refine (isList_calls bf a cap x _ hv (HF.out.below (Nat.le_refl _) (by repeat (first | exact Up.refl _ | refine Up.drew ?_)))).mono ?_; rintro e w' ⟨bk, bl, mb, rfl, hL, hb⟩; have HL := Lib.hid hL; clear hL; obtain ⟨g, rfl⟩ := GW.of ((show Below w1.heap.size w1 _ by repeat (first | exact Up.refl _ | refine Up.drew ?_)).trans hb); clear hb))
    all_goals change K' _ _
    all_goals refine hK' _ _ (Met.intro (hJ _ _ ?_))
    all_goals (repeat apply Exists.intro)
    all_goals refine ⟨?_, rfl⟩
    all_goals exact ⟨_, _, _, rfl, rfl, HL.out, g.h⟩
  case rest =>
    obtain ⟨bk, bl, mb, rfl, rfl, hL, hup⟩ := hcut
    have c11 := (hup.cell (p := ⟨bf, 10, none⟩) hbf).trans c10
    have hE := boxed_below HE.out (Nat.le_refl _) hup
    have hU := HU.out.trans (hup.mono HU.out.size)
    have hD := (hup.cell (p := ⟨w.heap.size, 0, none⟩) hws).trans HD.out
    have hcall := fun W (hW : ListC W bk bl bf a cap x (usefulM x) mb) s (hs : s < 4096) => list1_calls bk bl bf a cap x s W hv hs _ _ hW
    have HC := Lib.hid hcall; have HE2 := Lib.hid hE; have HU2 := Lib.hid hU; have HL := Lib.hid hL
    have hwc : w.heap.size < wc.heap.size := Nat.lt_of_lt_of_le hws hup.size
    clear hcall hE hU hL HE HU HF HD
    cases hlu : listB x (usefulM x) with
    | false =>
      have hc := HC.out wc HL.out _ hu
      rw [hlu] at hc
      have HC2 := Lib.hid hc; have HLU := Lib.hid hlu; clear hc hlu
      go_wp2_with (first
        | (go_at_call 54; refine HC2.out.mono ?_; rintro e w' ⟨rfl, hb⟩; obtain ⟨g, rfl⟩ := GW.of hb; clear hb)
        | (go_at_call 34; refine (must_false _ _).mono ?_; rintro e w' ⟨rfl, rfl⟩))
      refine leaves_cons (f := 26) (args := #[.pointer (some ⟨w.heap.size + 1, 0, none⟩)]) (by simp) (by simp [go_sem]) ?_
      have hE := boxed_below HE2.out (Nat.le_refl _) g.h
      have hU := HU2.out.trans (g.h.mono HU2.out.size)
      refine (told_panic _ _ _ _ hE.cell hE.frozen).mono ?_
      rintro e u' w'' ⟨rfl, rfl, rfl⟩
      have h4 := ((hE.set (.int .i64 4)).alloc (.cells #[.int .i64 4] 95)).cell
      obtain ⟨rfl, rfl⟩ := HR2.out HLU.out
      simp [Leaves, settle, results, Try.results16, go_sem, h4]
      exact (hU.setCell (p := ⟨w.heap.size + 1, 0, none⟩) (by simp) _).alloc (by simpa using hU.size) _
    | true =>
      have hc := HC.out wc HL.out _ hu
      rw [hlu] at hc
      have HC2 := Lib.hid hc; have HLU := Lib.hid hlu; clear hc hlu
      go_wp2_with (first
        | (go_at_call 54; refine HC2.out.mono ?_; rintro e w' ⟨rfl, hb⟩; obtain ⟨g, rfl⟩ := GW.of hb; clear hb)
        | (go_at_call 34; refine (must_true _ _).mono ?_; rintro e w' ⟨rfl, rfl⟩))
      have hL2 := HL.out.below (Nat.le_refl _) g.h
      have hE := boxed_below HE2.out (Nat.le_refl _) g.h
      have hU := HU2.out.trans (g.h.mono HU2.out.size)
      have HL2 := Lib.hid hL2; have HE3 := Lib.hid hE; have HU3 := Lib.hid hU
      clear hL2 hE hU HL HE2 HU2
      generalize g.w = wg at *
      go_loopw [2, 27] (fun s2 s27 wr => ∃ k : Nat, s27 = .int .i64 (k : Int) ∧ k ≤ x.ps.length ∧ s2 = .int .i64 ((maskN (needI x) k : Nat) : Int) ∧ ListC wr bk bl bf a cap x (usefulM x) mb ∧ Boxed wr (w.heap.size + 1) 30 (.int .i64 0) ∧ Below w.heap.size w wr) (fun _ s27 _ => (13 - intOf s27).toNat)
      case atStart => exact ⟨0, rfl, Nat.zero_le _, rfl, HL2.out, HE3.out, HU3.out⟩
      case round =>
        obtain ⟨k, rfl, hk, rfl, hLr, hEr, hUr⟩ := hrel
        have HLr := Lib.hid hLr; have HEr := Lib.hid hEr; have HUr := Lib.hid hUr
        have c12 := hLr.f.c10
        have hbr := hLr.f.lt
        clear hLr
        by_cases hin : k < x.ps.length
        · have hin2 : (k : Int) < (x.ps.length : Int) := by omega
          have hk12 : k < 12 := by omega
          have hm := Nat.lt_of_lt_of_le (maskN_lt (needI x) k) (two_pow_le k (by omega))
          have hw1 := HW.out k hk12
          have hor := HOR.out _ k hm hk12
          have hwlt := withoutN_lt (i := k) hu
          have hsuc : maskN (needI x) (k + 1) = maskN (needI x) k ||| if needI x k then 2 ^ k else 0 := rfl
          have HSUC := Lib.hid hsuc; clear hsuc
          generalize maskN (needI x) k = mk at *
          cases hb : (usefulM x).testBit k with
          | true =>
            have hni : needI x k = !listB x (withoutN (usefulM x) k) := by unfold needI; rw [hb]; rfl
            have hhas := fun W : World => has_calls (usefulM x) k W hu hk12
            rw [hb] at hhas
            have HH := Lib.hid hhas; have HNI := Lib.hid hni; clear hhas hni hb
            have hli := fun g : GW wr.heap.size wr => HC.out g.w (HLr.out.below (Nat.le_refl _) g.h) _ hwlt
            generalize listB x (withoutN (usefulM x) k) = lb at *
            have HLI := Lib.hid hli; clear hli
            go_wp2_with fail
            refine GW.region wr (by kernel_rfl) (by kernel_rfl) (Up.refl _) ?_
            repeat (go_big_quiet_step (first
              | (go_at_call 38; exact GW.callSame (HH.out _))
              | (go_at_call 54; exact GW.call (Nat.le_refl _) (HLI.out _))))
            refine wpQuiet_nil ?_
            rintro _ ⟨g, rfl⟩
            have hL2 := HLr.out.below (Nat.le_refl _) g.h
            have hE := boxed_below HEr.out (Nat.le_refl _) g.h
            have hU := HUr.out.trans (g.h.mono HUr.out.size)
            have HL3 := Lib.hid hL2; have HE4 := Lib.hid hE; have HU4 := Lib.hid hU
            clear hL2 hE hU
            cases lb with
            | true =>
              go_wp2
              go_roundw
              case rel => exact ⟨k + 1, by go_num, by omega, by rw [HSUC.out, HNI.out]; simp, HL3.out, HE4.out, HU4.out⟩
              case measure => simp [intOf]; omega
            | false =>
              have hori := or_powi64 mk k hm hk12
              have HORI := Lib.hid hori; clear hori
              go_wp2
              go_roundw
              case rel => exact ⟨k + 1, by go_num, by omega, by rw [HSUC.out, HNI.out, HORI.out]; rfl, HL3.out, HE4.out, HU4.out⟩
              case measure => simp [intOf]; omega
          | false =>
            have hni : needI x k = false := by unfold needI; rw [hb]; rfl
            have hhas := fun W : World => has_calls (usefulM x) k W hu hk12
            rw [hb] at hhas
            have HH := Lib.hid hhas; have HNI := Lib.hid hni; clear hhas hni hb
            go_wp2_with fail
            refine GW.region wr (by kernel_rfl) (by kernel_rfl) (Up.refl _) ?_
            repeat (go_big_quiet_step (first
              | (go_at_call 38; exact GW.callSame (HH.out _))))
            refine wpQuiet_nil ?_
            rintro _ ⟨g, rfl⟩
            have hL2 := HLr.out.below (Nat.le_refl _) g.h
            have hE := boxed_below HEr.out (Nat.le_refl _) g.h
            have hU := HUr.out.trans (g.h.mono HUr.out.size)
            have HL3 := Lib.hid hL2; have HE4 := Lib.hid hE; have HU4 := Lib.hid hU
            clear hL2 hE hU
            go_wp2
            go_roundw
            case rel => exact ⟨k + 1, by go_num, by omega, by rw [HSUC.out, HNI.out]; simp, HL3.out, HE4.out, HU4.out⟩
            case measure => simp [intOf]; omega
        · have hin2 : ¬ (k : Int) < (x.ps.length : Int) := by omega
          obtain rfl : k = x.ps.length := by omega
          have hbe := HEr.out.lt
          have cE := HEr.out.cell; have fE := HEr.out.frozen
          go_wp2
          refine leaves_cons (f := 26) (args := #[.pointer (some ⟨w.heap.size + 1, 0, none⟩)]) (by simp) (by simp [go_sem]) ?_
          refine (told_idle _ _).mono ?_
          rintro e u' w'' ⟨rfl, rfl, rfl⟩
          have h4 := (HEr.out.set (.int .i64 0)).cell
          obtain ⟨rfl, rfl⟩ := HR1.out HLU.out
          simp [Leaves, settle, results, Try.results16, go_sem, h4]
          exact ⟨rfl, HUr.out.setCell (p := ⟨w.heap.size + 1, 0, none⟩) (by simp) _⟩

theorem needed_calls (a : Option Addr) (cap : Nat) (x : Fld) (w : World) (hs : SlW 6 skyRow w (.slice a x.ps.length cap) x.ps) :
    Calls Try.prog 16 #[fldV a cap x] w fun e w' => e = .returned (.tuple #[.int .i64 (neededV x).1, .int .i64 (neededV x).2]) ∧ Below w.heap.size w w' := by
  by_cases hv : validB x = true
  · have h1 : neededV x = (if listB x (usefulM x) then (((neededM x : Nat) : Int), 0) else (0, 4)) := by unfold neededV; rw [if_pos hv]
    rw [h1]
    cases hl : listB x (usefulM x) with
    | true => exact needed_good a cap x w hs hv _ _ (fun _ => ⟨rfl, rfl⟩) (fun h => by rw [hl] at h; cases h)
    | false => exact needed_good a cap x w hs hv _ _ (fun h => by rw [hl] at h; cases h) (fun _ => ⟨rfl, rfl⟩)
  · have hV : neededV x = (0, 1) := by unfold neededV; rw [if_neg hv]
    have HU0 := Lib.hid (topW_up w a cap x); have HB0 := Lib.hid (topW_box w a cap x)
    have htop : (w.alloc (.cells #[.slice a x.ps.length cap, .int .i64 x.e0, .int .i64 x.e1, .int .i64 x.n0, .int .i64 x.n1, .int .i64 x.d0, .int .i64 x.d1, .int .i64 x.depth, .int .i64 x.times, .int .i64 x.gap] 26)).alloc (.cells #[.int .i64 0] 30) = topW w a cap x := rfl
    have HT := Lib.hid htop; clear htop
    have HO := Lib.hid (open_bad a cap x (topW w a cap x) (hs.below (Nat.le_refl _) (topW_up w a cap x)) (by simpa using hv))
    have HV := Lib.hid hV; clear hs hV
    unfold fldV at *
    go_enter_defers Try.func16, Try.ntmps16
    go_wp2_with fail
    rw [HT.out]
    generalize topW w a cap x = w0 at *
    refine HO.out.mono ?_
    rintro e w3 ⟨rfl, hb⟩
    have hbx3 := boxed_below HB0.out (Nat.le_refl _) hb
    have hup3 := HU0.out.trans (hb.mono HU0.out.size)
    have hc3 := hbx3.cell; have hf3 := hbx3.frozen; have hl3 := hbx3.lt
    have HU3 := Lib.hid hup3; have HB3 := Lib.hid hbx3
    clear hb hbx3 hup3
    go_wp2
    refine leaves_cons (f := 26) (args := #[.pointer (some ⟨w.heap.size + 1, 0, none⟩)]) (by simp) (by simp [go_sem]) ?_
    refine (told_panic _ _ _ _ hc3 hf3).mono ?_
    rintro e u' w'' ⟨rfl, rfl, rfl⟩
    rw [HV.out]
    have h4 := ((HB3.out.set (.int .i64 1)).alloc (.cells #[.int .i64 1] 95)).cell
    simp [Leaves, settle, results, Try.results16, go_sem, h4]
    exact (HU3.out.setCell (by simp) _).alloc (by simpa using HU3.out.size) _

end Go.Proofs.Ytlfemkelnllmnaa
