/- cover.Lists where there is none; where the field is not valid. -/
import Derived.Test.YtlfemkelnllmnaaLists
set_option linter.all false
set_option linter.unusedVariables false
set_option linter.unusedSimpArgs false
namespace Go.Proofs.Ytlfemkelnllmnaa
open Go.RowKit

theorem lists_end {w W : World} (tm : Array Value) (h2 : tm[2]?.getD undef = .pointer (some ⟨w.heap.size + 1, 0, none⟩)) (h3 : tm[3]?.getD undef = .pointer (some ⟨w.heap.size + 1 + 1, 0, none⟩))
    (hE : Boxed W (w.heap.size + 1 + 1) 30 (.int .i64 0)) (hN : Boxed W (w.heap.size + 1) 3 (.int .i64 0)) (hU : Below w.heap.size w W) :
    Leaves Try.prog Try.f11 tm (fun e w' => e = .returned (.tuple #[.int .i64 0, .int .i64 4]) ∧ Below w.heap.size w w') [{ target := .fn (.func 26) #[], args := #[.pointer (some ⟨w.heap.size + 1 + 1, 0, none⟩)] }] (.panicking [{ v := failure 4, recovered := false }]) W := by
  refine leaves_cons (f := 26) (args := #[.pointer (some ⟨w.heap.size + 1 + 1, 0, none⟩)]) (by simp) (by simp [go_sem]) ?_
  refine (told_panic _ _ _ _ hE.cell hE.frozen).mono ?_
  rintro e u' w'' ⟨rfl, rfl, rfl⟩
  have k1 := ((hN.other (B' := w.heap.size + 1 + 1) (by omega) (.int .i64 4)).alloc (.cells #[.int .i64 4] 95)).cell
  have k2 := ((hE.set (.int .i64 4)).alloc (.cells #[.int .i64 4] 95)).cell
  simp [Leaves, settle, results, Try.results11, go_sem, k1, k2, h2, h3]
  exact (hU.setCell (p := ⟨w.heap.size + 1 + 1, 0, none⟩) (show w.heap.size ≤ w.heap.size + 1 + 1 by omega) _).alloc (by simpa using hU.size) _

set_option maxHeartbeats 4000000 in
set_option maxRecDepth 10000 in
theorem lists_none (a : Option Addr) (cap : Nat) (x : Fld) (w : World) (hs : SlW 6 skyRow w (.slice a x.ps.length cap) x.ps) (hv : validB x = true) (hf : shortestL x = none) :
    Calls Try.prog 11 #[fldV a cap x] w fun e w' => e = .returned (.tuple #[.int .i64 0, .int .i64 4]) ∧ Below w.heap.size w w' := by
  have HO := Lib.hid (openP_calls a cap x w _ hs hv (top3_up w a cap x))
  clear hs
  have HU0 := Lib.hid (top3_up w a cap x); have HB0 := Lib.hid (top3_e w a cap x); have HN0 := Lib.hid (top3_n w a cap x)
  have htop : ((w.alloc (.cells #[.slice a x.ps.length cap, .int .i64 x.e0, .int .i64 x.e1, .int .i64 x.n0, .int .i64 x.n1, .int .i64 x.d0, .int .i64 x.d1, .int .i64 x.depth, .int .i64 x.times, .int .i64 x.gap] 26)).alloc (.cells #[.int .i64 0] 3)).alloc (.cells #[.int .i64 0] 30) = top3 w a cap x := rfl
  have HT := Lib.hid htop
  have hF1 : ∀ bx bk bl bf mb W, bx < W.heap.size → W.cell? ⟨bx, 0, none⟩ = some (.pointer (some ⟨bf, 0, none⟩)) → ListC W bk bl bf a cap x (usefulM x) mb → _ := fun bx bk bl bf mb W h1 h2 h3 => first_none bx bk bl bf a cap x mb W hf hv h1 h2 h3
  have HFI := Lib.hid hF1
  clear htop hF1 hf
  unfold fldV at *
  go_enter_defers Try.func11, Try.ntmps11
  go_wp2_with fail
  rw [HT.out]
  generalize top3 w a cap x = w0 at *
  refine HO.out.mono ?_
  rintro e w1 ⟨bf, rfl, hF, hb⟩
  have hbe1 := boxed_below HB0.out (Nat.le_refl _) hb
  have hbn1 := boxed_below HN0.out (Nat.le_refl _) hb
  have hup1 := HU0.out.trans (hb.mono HU0.out.size)
  have HF := Lib.hid hF; have HB := Lib.hid hbe1; have HN := Lib.hid hbn1; have HU := Lib.hid hup1
  clear hF hbe1 hbn1 hup1 hb HB0 HN0 HU0 HO HT
  go_wp2_with fail
  refine (isList_calls bf a cap x _ hv HF.out).mono ?_
  rintro e w2 ⟨bk, bl, mb, rfl, hL, hb⟩
  have hbe2 := (boxed_below HB.out (Nat.le_refl _) hb).alloc (.cells #[listF bk bl] 66)
  have hbn2 := (boxed_below HN.out (Nat.le_refl _) hb).alloc (.cells #[listF bk bl] 66)
  have hbi2 := Boxed.new w2 66 (listF bk bl)
  have hL2 := hL.below (Nat.le_refl _) (Up.alloc (.cells #[listF bk bl] 66) (Up.refl w2))
  have hup2 : Below w.heap.size w (w2.alloc (.cells #[listF bk bl] 66)) := (HU.out.trans (hb.mono HU.out.size)).alloc (HU.out.trans (hb.mono HU.out.size)).size _
  have HF2 := Lib.hid hL2; have HB2 := Lib.hid hbe2; have HN2 := Lib.hid hbn2; have HI2 := Lib.hid hbi2; have HU2 := Lib.hid hup2
  clear hL hL2 hbe2 hbn2 hbi2 hup2 hb HF HB HN HU
  go_wp2_with fail
  unfold listF at *
  generalize w2.alloc (.cells #[.func (.func 54) #[] #[.pointer (some ⟨bk, 0, none⟩), .pointer (some ⟨bl, 0, none⟩)]] 66) = w3 at *
  have ci := HI2.out.cell
  have hil := HI2.out.lt
  have hend : ∀ (W : World), Below w3.heap.size w3 W → ∀ (tm : Array Value), tm[2]?.getD undef = .pointer (some ⟨w.heap.size + 1, 0, none⟩) → tm[3]?.getD undef = .pointer (some ⟨w.heap.size + 1 + 1, 0, none⟩) → _ :=
    fun W hW tm h2 h3 => lists_end tm h2 h3 (boxed_below HB2.out (Nat.le_refl _) hW) (boxed_below HN2.out (Nat.le_refl _) hW) (HU2.out.trans (hW.mono HU2.out.size))
  refine wp_region_any (by kernel_rfl) ?_
  change wpAny _ _ _ _ _ _ _ (World.drew _)
  refine wpAny_ready (rs := [0, 2, 5]) (by kernel_rfl) (by simp) ?_
  refine AllReady.cons rfl (fun K0 hK0 => ?_) ?_
  · replace hK0 := Lib.hid hK0
    go_simp
    refine hK0.out _ _ ?_
    clear hK0
    refine wpAny_ready (rs := [1, 2, 5]) (by kernel_rfl) (by simp) ?_
    refine AllReady.cons rfl (fun K1 hK1 => ?_) ?_
    · replace hK1 := Lib.hid hK1
      go_simp
      go_at_call 29
      refine (sets_calls _ _).mono ?_
      rintro e w' ⟨rfl, rfl⟩
      refine hK1.out _ _ ?_
      clear hK1
      refine wpAny_ready (rs := [2, 5]) (by kernel_rfl) (by simp) ?_
      refine AllReady.cons rfl (fun K2 hK2 => ?_) ?_
      · replace hK2 := Lib.hid hK2
        go_simp
        refine hK2.out _ _ ?_
        clear hK2
        refine wpAny_ready (rs := [3, 5]) (by kernel_rfl) (by simp) ?_
        refine AllReady.cons rfl (fun K3 hK3 => ?_) ?_
        · replace hK3 := Lib.hid hK3
          go_simp
          go_at_call 28
          refine (HFI.out _ bk bl bf mb _ (by simp <;> omega) (by go_simp) (HF2.out.below (Nat.le_refl _) (by repeat (first | exact Up.refl _ | refine Up.alloc _ ?_ | refine Up.drew ?_)))).mono ?_
          rintro e w' ⟨rfl, hb⟩
          obtain ⟨g, rfl⟩ := GW.of hb
          clear hb
          exact hend _ (Up.gwB g (by repeat (first | exact Up.refl _ | refine Up.alloc _ ?_ | refine Up.drew ?_)) (by simp <;> omega)) _ rfl rfl
        refine AllReady.cons rfl (fun K3 hK3 => ?_) ?_
        · replace hK3 := Lib.hid hK3
          go_simp
          refine hK3.out _ _ ?_
          clear hK3
          refine wpAny_ready (rs := [3]) (by kernel_rfl) (by simp) ?_
          refine AllReady.cons rfl (fun K4 hK4 => ?_) ?_
          · replace hK4 := Lib.hid hK4
            go_simp
            go_at_call 28
            refine (HFI.out _ bk bl bf mb _ (by simp <;> omega) (by go_simp) (HF2.out.below (Nat.le_refl _) (by repeat (first | exact Up.refl _ | refine Up.alloc _ ?_ | refine Up.drew ?_)))).mono ?_
            rintro e w' ⟨rfl, hb⟩
            obtain ⟨g, rfl⟩ := GW.of hb
            clear hb
            exact hend _ (Up.gwB g (by repeat (first | exact Up.refl _ | refine Up.alloc _ ?_ | refine Up.drew ?_)) (by simp <;> omega)) _ rfl rfl
          exact AllReady.nil
        exact AllReady.nil
      refine AllReady.cons rfl (fun K2 hK2 => ?_) ?_
      · replace hK2 := Lib.hid hK2
        go_simp
        refine hK2.out _ _ ?_
        clear hK2
        refine wpAny_ready (rs := [2]) (by kernel_rfl) (by simp) ?_
        refine AllReady.cons rfl (fun K3 hK3 => ?_) ?_
        · replace hK3 := Lib.hid hK3
          go_simp
          refine hK3.out _ _ ?_
          clear hK3
          refine wpAny_ready (rs := [3]) (by kernel_rfl) (by simp) ?_
          refine AllReady.cons rfl (fun K4 hK4 => ?_) ?_
          · replace hK4 := Lib.hid hK4
            go_simp
            go_at_call 28
            refine (HFI.out _ bk bl bf mb _ (by simp <;> omega) (by go_simp) (HF2.out.below (Nat.le_refl _) (by repeat (first | exact Up.refl _ | refine Up.alloc _ ?_ | refine Up.drew ?_)))).mono ?_
            rintro e w' ⟨rfl, hb⟩
            obtain ⟨g, rfl⟩ := GW.of hb
            clear hb
            exact hend _ (Up.gwB g (by repeat (first | exact Up.refl _ | refine Up.alloc _ ?_ | refine Up.drew ?_)) (by simp <;> omega)) _ rfl rfl
          exact AllReady.nil
        exact AllReady.nil
      exact AllReady.nil
    refine AllReady.cons rfl (fun K1 hK1 => ?_) ?_
    · replace hK1 := Lib.hid hK1
      go_simp
      refine hK1.out _ _ ?_
      clear hK1
      refine wpAny_ready (rs := [1, 5]) (by kernel_rfl) (by simp) ?_
      refine AllReady.cons rfl (fun K2 hK2 => ?_) ?_
      · replace hK2 := Lib.hid hK2
        go_simp
        go_at_call 29
        refine (sets_calls _ _).mono ?_
        rintro e w' ⟨rfl, rfl⟩
        refine hK2.out _ _ ?_
        clear hK2
        refine wpAny_ready (rs := [3, 5]) (by kernel_rfl) (by simp) ?_
        refine AllReady.cons rfl (fun K3 hK3 => ?_) ?_
        · replace hK3 := Lib.hid hK3
          go_simp
          go_at_call 28
          refine (HFI.out _ bk bl bf mb _ (by simp <;> omega) (by go_simp) (HF2.out.below (Nat.le_refl _) (by repeat (first | exact Up.refl _ | refine Up.alloc _ ?_ | refine Up.drew ?_)))).mono ?_
          rintro e w' ⟨rfl, hb⟩
          obtain ⟨g, rfl⟩ := GW.of hb
          clear hb
          exact hend _ (Up.gwB g (by repeat (first | exact Up.refl _ | refine Up.alloc _ ?_ | refine Up.drew ?_)) (by simp <;> omega)) _ rfl rfl
        refine AllReady.cons rfl (fun K3 hK3 => ?_) ?_
        · replace hK3 := Lib.hid hK3
          go_simp
          refine hK3.out _ _ ?_
          clear hK3
          refine wpAny_ready (rs := [3]) (by kernel_rfl) (by simp) ?_
          refine AllReady.cons rfl (fun K4 hK4 => ?_) ?_
          · replace hK4 := Lib.hid hK4
            go_simp
            go_at_call 28
            refine (HFI.out _ bk bl bf mb _ (by simp <;> omega) (by go_simp) (HF2.out.below (Nat.le_refl _) (by repeat (first | exact Up.refl _ | refine Up.alloc _ ?_ | refine Up.drew ?_)))).mono ?_
            rintro e w' ⟨rfl, hb⟩
            obtain ⟨g, rfl⟩ := GW.of hb
            clear hb
            exact hend _ (Up.gwB g (by repeat (first | exact Up.refl _ | refine Up.alloc _ ?_ | refine Up.drew ?_)) (by simp <;> omega)) _ rfl rfl
          exact AllReady.nil
        exact AllReady.nil
      refine AllReady.cons rfl (fun K2 hK2 => ?_) ?_
      · replace hK2 := Lib.hid hK2
        go_simp
        refine hK2.out _ _ ?_
        clear hK2
        refine wpAny_ready (rs := [1]) (by kernel_rfl) (by simp) ?_
        refine AllReady.cons rfl (fun K3 hK3 => ?_) ?_
        · replace hK3 := Lib.hid hK3
          go_simp
          go_at_call 29
          refine (sets_calls _ _).mono ?_
          rintro e w' ⟨rfl, rfl⟩
          refine hK3.out _ _ ?_
          clear hK3
          refine wpAny_ready (rs := [3]) (by kernel_rfl) (by simp) ?_
          refine AllReady.cons rfl (fun K4 hK4 => ?_) ?_
          · replace hK4 := Lib.hid hK4
            go_simp
            go_at_call 28
            refine (HFI.out _ bk bl bf mb _ (by simp <;> omega) (by go_simp) (HF2.out.below (Nat.le_refl _) (by repeat (first | exact Up.refl _ | refine Up.alloc _ ?_ | refine Up.drew ?_)))).mono ?_
            rintro e w' ⟨rfl, hb⟩
            obtain ⟨g, rfl⟩ := GW.of hb
            clear hb
            exact hend _ (Up.gwB g (by repeat (first | exact Up.refl _ | refine Up.alloc _ ?_ | refine Up.drew ?_)) (by simp <;> omega)) _ rfl rfl
          exact AllReady.nil
        exact AllReady.nil
      exact AllReady.nil
    refine AllReady.cons rfl (fun K1 hK1 => ?_) ?_
    · replace hK1 := Lib.hid hK1
      go_simp
      refine hK1.out _ _ ?_
      clear hK1
      refine wpAny_ready (rs := [1, 2]) (by kernel_rfl) (by simp) ?_
      refine AllReady.cons rfl (fun K2 hK2 => ?_) ?_
      · replace hK2 := Lib.hid hK2
        go_simp
        go_at_call 29
        refine (sets_calls _ _).mono ?_
        rintro e w' ⟨rfl, rfl⟩
        refine hK2.out _ _ ?_
        clear hK2
        refine wpAny_ready (rs := [2]) (by kernel_rfl) (by simp) ?_
        refine AllReady.cons rfl (fun K3 hK3 => ?_) ?_
        · replace hK3 := Lib.hid hK3
          go_simp
          refine hK3.out _ _ ?_
          clear hK3
          refine wpAny_ready (rs := [3]) (by kernel_rfl) (by simp) ?_
          refine AllReady.cons rfl (fun K4 hK4 => ?_) ?_
          · replace hK4 := Lib.hid hK4
            go_simp
            go_at_call 28
            refine (HFI.out _ bk bl bf mb _ (by simp <;> omega) (by go_simp) (HF2.out.below (Nat.le_refl _) (by repeat (first | exact Up.refl _ | refine Up.alloc _ ?_ | refine Up.drew ?_)))).mono ?_
            rintro e w' ⟨rfl, hb⟩
            obtain ⟨g, rfl⟩ := GW.of hb
            clear hb
            exact hend _ (Up.gwB g (by repeat (first | exact Up.refl _ | refine Up.alloc _ ?_ | refine Up.drew ?_)) (by simp <;> omega)) _ rfl rfl
          exact AllReady.nil
        exact AllReady.nil
      refine AllReady.cons rfl (fun K2 hK2 => ?_) ?_
      · replace hK2 := Lib.hid hK2
        go_simp
        refine hK2.out _ _ ?_
        clear hK2
        refine wpAny_ready (rs := [1]) (by kernel_rfl) (by simp) ?_
        refine AllReady.cons rfl (fun K3 hK3 => ?_) ?_
        · replace hK3 := Lib.hid hK3
          go_simp
          go_at_call 29
          refine (sets_calls _ _).mono ?_
          rintro e w' ⟨rfl, rfl⟩
          refine hK3.out _ _ ?_
          clear hK3
          refine wpAny_ready (rs := [3]) (by kernel_rfl) (by simp) ?_
          refine AllReady.cons rfl (fun K4 hK4 => ?_) ?_
          · replace hK4 := Lib.hid hK4
            go_simp
            go_at_call 28
            refine (HFI.out _ bk bl bf mb _ (by simp <;> omega) (by go_simp) (HF2.out.below (Nat.le_refl _) (by repeat (first | exact Up.refl _ | refine Up.alloc _ ?_ | refine Up.drew ?_)))).mono ?_
            rintro e w' ⟨rfl, hb⟩
            obtain ⟨g, rfl⟩ := GW.of hb
            clear hb
            exact hend _ (Up.gwB g (by repeat (first | exact Up.refl _ | refine Up.alloc _ ?_ | refine Up.drew ?_)) (by simp <;> omega)) _ rfl rfl
          exact AllReady.nil
        exact AllReady.nil
      exact AllReady.nil
    exact AllReady.nil
  refine AllReady.cons rfl (fun K0 hK0 => ?_) ?_
  · replace hK0 := Lib.hid hK0
    go_simp
    refine hK0.out _ _ ?_
    clear hK0
    refine wpAny_ready (rs := [0, 5]) (by kernel_rfl) (by simp) ?_
    refine AllReady.cons rfl (fun K1 hK1 => ?_) ?_
    · replace hK1 := Lib.hid hK1
      go_simp
      refine hK1.out _ _ ?_
      clear hK1
      refine wpAny_ready (rs := [1, 5]) (by kernel_rfl) (by simp) ?_
      refine AllReady.cons rfl (fun K2 hK2 => ?_) ?_
      · replace hK2 := Lib.hid hK2
        go_simp
        go_at_call 29
        refine (sets_calls _ _).mono ?_
        rintro e w' ⟨rfl, rfl⟩
        refine hK2.out _ _ ?_
        clear hK2
        refine wpAny_ready (rs := [3, 5]) (by kernel_rfl) (by simp) ?_
        refine AllReady.cons rfl (fun K3 hK3 => ?_) ?_
        · replace hK3 := Lib.hid hK3
          go_simp
          go_at_call 28
          refine (HFI.out _ bk bl bf mb _ (by simp <;> omega) (by go_simp) (HF2.out.below (Nat.le_refl _) (by repeat (first | exact Up.refl _ | refine Up.alloc _ ?_ | refine Up.drew ?_)))).mono ?_
          rintro e w' ⟨rfl, hb⟩
          obtain ⟨g, rfl⟩ := GW.of hb
          clear hb
          exact hend _ (Up.gwB g (by repeat (first | exact Up.refl _ | refine Up.alloc _ ?_ | refine Up.drew ?_)) (by simp <;> omega)) _ rfl rfl
        refine AllReady.cons rfl (fun K3 hK3 => ?_) ?_
        · replace hK3 := Lib.hid hK3
          go_simp
          refine hK3.out _ _ ?_
          clear hK3
          refine wpAny_ready (rs := [3]) (by kernel_rfl) (by simp) ?_
          refine AllReady.cons rfl (fun K4 hK4 => ?_) ?_
          · replace hK4 := Lib.hid hK4
            go_simp
            go_at_call 28
            refine (HFI.out _ bk bl bf mb _ (by simp <;> omega) (by go_simp) (HF2.out.below (Nat.le_refl _) (by repeat (first | exact Up.refl _ | refine Up.alloc _ ?_ | refine Up.drew ?_)))).mono ?_
            rintro e w' ⟨rfl, hb⟩
            obtain ⟨g, rfl⟩ := GW.of hb
            clear hb
            exact hend _ (Up.gwB g (by repeat (first | exact Up.refl _ | refine Up.alloc _ ?_ | refine Up.drew ?_)) (by simp <;> omega)) _ rfl rfl
          exact AllReady.nil
        exact AllReady.nil
      refine AllReady.cons rfl (fun K2 hK2 => ?_) ?_
      · replace hK2 := Lib.hid hK2
        go_simp
        refine hK2.out _ _ ?_
        clear hK2
        refine wpAny_ready (rs := [1]) (by kernel_rfl) (by simp) ?_
        refine AllReady.cons rfl (fun K3 hK3 => ?_) ?_
        · replace hK3 := Lib.hid hK3
          go_simp
          go_at_call 29
          refine (sets_calls _ _).mono ?_
          rintro e w' ⟨rfl, rfl⟩
          refine hK3.out _ _ ?_
          clear hK3
          refine wpAny_ready (rs := [3]) (by kernel_rfl) (by simp) ?_
          refine AllReady.cons rfl (fun K4 hK4 => ?_) ?_
          · replace hK4 := Lib.hid hK4
            go_simp
            go_at_call 28
            refine (HFI.out _ bk bl bf mb _ (by simp <;> omega) (by go_simp) (HF2.out.below (Nat.le_refl _) (by repeat (first | exact Up.refl _ | refine Up.alloc _ ?_ | refine Up.drew ?_)))).mono ?_
            rintro e w' ⟨rfl, hb⟩
            obtain ⟨g, rfl⟩ := GW.of hb
            clear hb
            exact hend _ (Up.gwB g (by repeat (first | exact Up.refl _ | refine Up.alloc _ ?_ | refine Up.drew ?_)) (by simp <;> omega)) _ rfl rfl
          exact AllReady.nil
        exact AllReady.nil
      exact AllReady.nil
    refine AllReady.cons rfl (fun K1 hK1 => ?_) ?_
    · replace hK1 := Lib.hid hK1
      go_simp
      refine hK1.out _ _ ?_
      clear hK1
      refine wpAny_ready (rs := [0]) (by kernel_rfl) (by simp) ?_
      refine AllReady.cons rfl (fun K2 hK2 => ?_) ?_
      · replace hK2 := Lib.hid hK2
        go_simp
        refine hK2.out _ _ ?_
        clear hK2
        refine wpAny_ready (rs := [1]) (by kernel_rfl) (by simp) ?_
        refine AllReady.cons rfl (fun K3 hK3 => ?_) ?_
        · replace hK3 := Lib.hid hK3
          go_simp
          go_at_call 29
          refine (sets_calls _ _).mono ?_
          rintro e w' ⟨rfl, rfl⟩
          refine hK3.out _ _ ?_
          clear hK3
          refine wpAny_ready (rs := [3]) (by kernel_rfl) (by simp) ?_
          refine AllReady.cons rfl (fun K4 hK4 => ?_) ?_
          · replace hK4 := Lib.hid hK4
            go_simp
            go_at_call 28
            refine (HFI.out _ bk bl bf mb _ (by simp <;> omega) (by go_simp) (HF2.out.below (Nat.le_refl _) (by repeat (first | exact Up.refl _ | refine Up.alloc _ ?_ | refine Up.drew ?_)))).mono ?_
            rintro e w' ⟨rfl, hb⟩
            obtain ⟨g, rfl⟩ := GW.of hb
            clear hb
            exact hend _ (Up.gwB g (by repeat (first | exact Up.refl _ | refine Up.alloc _ ?_ | refine Up.drew ?_)) (by simp <;> omega)) _ rfl rfl
          exact AllReady.nil
        exact AllReady.nil
      exact AllReady.nil
    exact AllReady.nil
  refine AllReady.cons rfl (fun K0 hK0 => ?_) ?_
  · replace hK0 := Lib.hid hK0
    go_simp
    refine hK0.out _ _ ?_
    clear hK0
    refine wpAny_ready (rs := [0, 2]) (by kernel_rfl) (by simp) ?_
    refine AllReady.cons rfl (fun K1 hK1 => ?_) ?_
    · replace hK1 := Lib.hid hK1
      go_simp
      refine hK1.out _ _ ?_
      clear hK1
      refine wpAny_ready (rs := [1, 2]) (by kernel_rfl) (by simp) ?_
      refine AllReady.cons rfl (fun K2 hK2 => ?_) ?_
      · replace hK2 := Lib.hid hK2
        go_simp
        go_at_call 29
        refine (sets_calls _ _).mono ?_
        rintro e w' ⟨rfl, rfl⟩
        refine hK2.out _ _ ?_
        clear hK2
        refine wpAny_ready (rs := [2]) (by kernel_rfl) (by simp) ?_
        refine AllReady.cons rfl (fun K3 hK3 => ?_) ?_
        · replace hK3 := Lib.hid hK3
          go_simp
          refine hK3.out _ _ ?_
          clear hK3
          refine wpAny_ready (rs := [3]) (by kernel_rfl) (by simp) ?_
          refine AllReady.cons rfl (fun K4 hK4 => ?_) ?_
          · replace hK4 := Lib.hid hK4
            go_simp
            go_at_call 28
            refine (HFI.out _ bk bl bf mb _ (by simp <;> omega) (by go_simp) (HF2.out.below (Nat.le_refl _) (by repeat (first | exact Up.refl _ | refine Up.alloc _ ?_ | refine Up.drew ?_)))).mono ?_
            rintro e w' ⟨rfl, hb⟩
            obtain ⟨g, rfl⟩ := GW.of hb
            clear hb
            exact hend _ (Up.gwB g (by repeat (first | exact Up.refl _ | refine Up.alloc _ ?_ | refine Up.drew ?_)) (by simp <;> omega)) _ rfl rfl
          exact AllReady.nil
        exact AllReady.nil
      refine AllReady.cons rfl (fun K2 hK2 => ?_) ?_
      · replace hK2 := Lib.hid hK2
        go_simp
        refine hK2.out _ _ ?_
        clear hK2
        refine wpAny_ready (rs := [1]) (by kernel_rfl) (by simp) ?_
        refine AllReady.cons rfl (fun K3 hK3 => ?_) ?_
        · replace hK3 := Lib.hid hK3
          go_simp
          go_at_call 29
          refine (sets_calls _ _).mono ?_
          rintro e w' ⟨rfl, rfl⟩
          refine hK3.out _ _ ?_
          clear hK3
          refine wpAny_ready (rs := [3]) (by kernel_rfl) (by simp) ?_
          refine AllReady.cons rfl (fun K4 hK4 => ?_) ?_
          · replace hK4 := Lib.hid hK4
            go_simp
            go_at_call 28
            refine (HFI.out _ bk bl bf mb _ (by simp <;> omega) (by go_simp) (HF2.out.below (Nat.le_refl _) (by repeat (first | exact Up.refl _ | refine Up.alloc _ ?_ | refine Up.drew ?_)))).mono ?_
            rintro e w' ⟨rfl, hb⟩
            obtain ⟨g, rfl⟩ := GW.of hb
            clear hb
            exact hend _ (Up.gwB g (by repeat (first | exact Up.refl _ | refine Up.alloc _ ?_ | refine Up.drew ?_)) (by simp <;> omega)) _ rfl rfl
          exact AllReady.nil
        exact AllReady.nil
      exact AllReady.nil
    refine AllReady.cons rfl (fun K1 hK1 => ?_) ?_
    · replace hK1 := Lib.hid hK1
      go_simp
      refine hK1.out _ _ ?_
      clear hK1
      refine wpAny_ready (rs := [0]) (by kernel_rfl) (by simp) ?_
      refine AllReady.cons rfl (fun K2 hK2 => ?_) ?_
      · replace hK2 := Lib.hid hK2
        go_simp
        refine hK2.out _ _ ?_
        clear hK2
        refine wpAny_ready (rs := [1]) (by kernel_rfl) (by simp) ?_
        refine AllReady.cons rfl (fun K3 hK3 => ?_) ?_
        · replace hK3 := Lib.hid hK3
          go_simp
          go_at_call 29
          refine (sets_calls _ _).mono ?_
          rintro e w' ⟨rfl, rfl⟩
          refine hK3.out _ _ ?_
          clear hK3
          refine wpAny_ready (rs := [3]) (by kernel_rfl) (by simp) ?_
          refine AllReady.cons rfl (fun K4 hK4 => ?_) ?_
          · replace hK4 := Lib.hid hK4
            go_simp
            go_at_call 28
            refine (HFI.out _ bk bl bf mb _ (by simp <;> omega) (by go_simp) (HF2.out.below (Nat.le_refl _) (by repeat (first | exact Up.refl _ | refine Up.alloc _ ?_ | refine Up.drew ?_)))).mono ?_
            rintro e w' ⟨rfl, hb⟩
            obtain ⟨g, rfl⟩ := GW.of hb
            clear hb
            exact hend _ (Up.gwB g (by repeat (first | exact Up.refl _ | refine Up.alloc _ ?_ | refine Up.drew ?_)) (by simp <;> omega)) _ rfl rfl
          exact AllReady.nil
        exact AllReady.nil
      exact AllReady.nil
    exact AllReady.nil
  exact AllReady.nil

end Go.Proofs.Ytlfemkelnllmnaa
