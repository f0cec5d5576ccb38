/- cover.Apart where there is no list, or no field. -/
import Derived.Test.YtlfemkelnllmnaaApart1
set_option linter.all false
set_option linter.unusedVariables false
set_option linter.unusedSimpArgs false
namespace Go.Proofs.Ytlfemkelnllmnaa
open Go.RowKit

theorem apart_end {w W : World} {n : Int} (act : Act) (hd : act.defers = [{ target := .fn (.func 26) #[], args := #[.pointer (some ⟨w.heap.size + 1, 0, none⟩)] }]) (h2 : act.tmps[2]?.getD undef = .slice none 0 0) (h3 : act.tmps[3]?.getD undef = .pointer (some ⟨w.heap.size + 1, 0, none⟩))
    (hE : Boxed W (w.heap.size + 1) 30 (.int .i64 0)) (hU : Below w.heap.size w W) :
    Leaves Try.prog Try.f18 act.tmps (fun e w' => e = .returned (.tuple #[.slice none 0 0, .int .i64 n]) ∧ Below w.heap.size w w') act.defers (.panicking [{ v := failure n, recovered := false }]) W := by
  rw [hd]
  refine leaves_cons (f := 26) (args := #[.pointer (some ⟨w.heap.size + 1, 0, none⟩)]) (by simp) (by simp [go_sem]) ?_
  refine (told_panic _ _ _ _ hE.cell hE.frozen).mono ?_
  rintro e u' w'' ⟨rfl, rfl, rfl⟩
  have k2 := ((hE.set (.int .i64 n)).alloc (.cells #[.int .i64 n] 95)).cell
  simp [Leaves, settle, results, Try.results18, go_sem, k2, h2, h3]
  exact (hU.setCell (p := ⟨w.heap.size + 1, 0, none⟩) (show w.heap.size ≤ w.heap.size + 1 by omega) _).alloc (by simpa using hU.size) _

set_option maxHeartbeats 1000000 in
theorem apart_bad (a : Option Addr) (cap : Nat) (x : Fld) (w : World) (hs : SlW 6 skyRow w (.slice a x.ps.length cap) x.ps) (hv : ¬ validB x = true) :
    Calls Try.prog 18 #[fldV a cap x] w fun e w' => e = .returned (.tuple #[.slice none 0 0, .int .i64 1]) ∧ Below w.heap.size w w' := by
  have HU0 := Lib.hid (topW_up w a cap x); have HB0 := Lib.hid (topW_box w a cap x)
  have htop : (w.alloc (.cells #[.slice a x.ps.length cap, .int .i64 x.e0, .int .i64 x.e1, .int .i64 x.n0, .int .i64 x.n1, .int .i64 x.d0, .int .i64 x.d1, .int .i64 x.depth, .int .i64 x.times, .int .i64 x.gap] 26)).alloc (.cells #[.int .i64 0] 30) = topW w a cap x := rfl
  have HT := Lib.hid htop; clear htop
  have HO := Lib.hid (open_bad a cap x (topW w a cap x) (hs.below (Nat.le_refl _) (topW_up w a cap x)) (by simpa using hv))
  clear hs
  unfold fldV at *
  go_enter_defers Try.func18, Try.ntmps18
  go_wp2_with fail
  rw [HT.out]
  generalize topW w a cap x = w0 at *
  refine HO.out.mono ?_
  rintro e w3 ⟨rfl, hb⟩
  have hbx3 := boxed_below HB0.out (Nat.le_refl _) hb
  have hup3 := HU0.out.trans (hb.mono HU0.out.size)
  have HU3 := Lib.hid hup3; have HB3 := Lib.hid hbx3
  clear hb hbx3 hup3
  go_wp2
  exact apart_end ⟨_, _⟩ rfl rfl rfl HB3.out HU3.out

set_option maxHeartbeats 4000000 in
set_option maxRecDepth 10000 in
theorem apart_none (a : Option Addr) (cap : Nat) (x : Fld) (w : World) (hs : SlW 6 skyRow w (.slice a x.ps.length cap) x.ps) (hv : validB x = true) (hl : listB x (usefulM x) = false) :
    Calls Try.prog 18 #[fldV a cap x] w fun e w' => e = .returned (.tuple #[.slice none 0 0, .int .i64 4]) ∧ Below w.heap.size w w' := by
  have HU0 := Lib.hid (topW_up w a cap x); have HB0 := Lib.hid (topW_box w a cap x)
  have htop : (w.alloc (.cells #[.slice a x.ps.length cap, .int .i64 x.e0, .int .i64 x.e1, .int .i64 x.n0, .int .i64 x.n1, .int .i64 x.d0, .int .i64 x.d1, .int .i64 x.depth, .int .i64 x.times, .int .i64 x.gap] 26)).alloc (.cells #[.int .i64 0] 30) = topW w a cap x := rfl
  have HT := Lib.hid htop; clear htop
  have hlen := (valid_bounds hv).2.2.2.2.2.2.1
  have hu := usefulM_lt hlen
  have HO := Lib.hid (openP_calls a cap x w _ hs hv (topW_up w a cap x))
  clear hs
  unfold fldV at *
  go_enter_defers Try.func18, Try.ntmps18
  go_wp2_with fail
  rw [HT.out]
  generalize topW w a cap x = w0 at *
  refine HO.out.mono ?_
  rintro e w1 ⟨bf, rfl, hF, hb⟩
  have hE := (boxed_below HB0.out (Nat.le_refl _) hb).alloc (.cells #[.pointer (some ⟨bf, 0, none⟩)] 58)
  have hU : Below w.heap.size w (w1.alloc (.cells #[.pointer (some ⟨bf, 0, none⟩)] 58)) := (HU0.out.trans (hb.mono HU0.out.size)).alloc (HU0.out.trans (hb.mono HU0.out.size)).size _
  have hF2 := hF.below (Nat.le_refl _) (Up.alloc (.cells #[.pointer (some ⟨bf, 0, none⟩)] 58) (Up.refl w1))
  have hX := Boxed.new w1 58 (.pointer (some ⟨bf, 0, none⟩))
  clear hb hF
  go_wp2_with fail
  generalize w1.alloc (.cells #[.pointer (some ⟨bf, 0, none⟩)] 58) = w2 at *
  have c4 := hX.cell; have l4 := hX.lt
  have hIS := fun W (hW : Below w2.heap.size w2 W) => isList_calls bf a cap x W hv (hF2.below (Nat.le_refl _) hW)
  have hCL := fun bk bl mb W (hW : ListC W bk bl bf a cap x (usefulM x) mb) => list1_calls bk bl bf a cap x (usefulM x) W hv hu _ _ hW
  rw [hl] at hCL
  obtain ⟨⟨mb, m, hf, _, _⟩, _⟩ := hF2
  have c10 := hf.c10; have lf := hf.lt
  have hend : ∀ (W : World), Below w2.heap.size w2 W → ∀ (act : Act), act.defers = [{ target := .fn (.func 26) #[], args := #[.pointer (some ⟨w.heap.size + 1, 0, none⟩)] }] → act.tmps[2]?.getD undef = .slice none 0 0 → act.tmps[3]?.getD undef = .pointer (some ⟨w.heap.size + 1, 0, none⟩) → _ :=
    fun W hW act hd h2 h3 => apart_end (n := 4) act hd h2 h3 (boxed_below hE (Nat.le_refl _) hW) (hU.trans (hW.mono hU.size))
  have HIS := Lib.hid hIS; have HCL := Lib.hid hCL
  clear hf hX hE hU HU0 HB0 HT HO hIS hCL hl hlen
  refine wp_region_any (by kernel_rfl) ?_
  change wpAny _ _ _ _ _ _ _ (World.drew _)
  refine wpAny_ready (rs := [0, 2]) (by kernel_rfl) (by simp) ?_
  refine AllReady.cons rfl (fun K0 hK0 => ?_) ?_
  · replace hK0 := Lib.hid hK0
    go_simp
    refine hK0.out _ _ ?_
    clear hK0
    refine wpAny_ready (rs := [1, 2]) (by kernel_rfl) (by simp) ?_
    refine AllReady.cons rfl (fun K1 hK1 => ?_) ?_
    · replace hK1 := Lib.hid hK1
      go_simp
      go_at_call 30
      refine (HIS.out _ (by repeat (first | exact Up.refl _ | refine Up.alloc _ ?_ | refine Up.drew ?_ | refine Up.gw _ ?_))).mono ?_
      rintro e w' ⟨bk, bl, mb2, rfl, hL, hb⟩
      have HL := Lib.hid hL; clear hL
      obtain ⟨g, rfl⟩ := GW.of ((show Below w2.heap.size w2 _ by repeat (first | exact Up.refl _ | refine Up.alloc _ ?_ | refine Up.drew ?_ | refine Up.gw _ ?_)).trans hb)
      clear hb
      refine hK1.out _ _ ?_
      clear hK1
      refine wpAny_ready (rs := [2]) (by kernel_rfl) (by simp) ?_
      refine AllReady.cons rfl (fun K2 hK2 => ?_) ?_
      · replace hK2 := Lib.hid hK2
        go_simp
        refine hK2.out _ _ ?_
        clear hK2
        refine wpAny_ready (rs := [3]) (by kernel_rfl) (by simp) ?_
        refine AllReady.cons rfl (fun K3 hK3 => ?_) ?_
        · replace hK3 := Lib.hid hK3
          go_simp
          refine hK3.out _ _ ?_
          clear hK3
          refine wpAny_ready (rs := [4]) (by kernel_rfl) (by simp) ?_
          refine AllReady.cons rfl (fun K4 hK4 => ?_) ?_
          · replace hK4 := Lib.hid hK4
            go_simp
            refine hK4.out _ _ ?_
            clear hK4
            refine wpAny_ready (rs := [5]) (by kernel_rfl) (by simp) ?_
            refine AllReady.cons rfl (fun K5 hK5 => ?_) ?_
            · replace hK5 := Lib.hid hK5
              go_simp
              refine hK5.out _ _ ?_
              clear hK5
              refine wpAny_ready (rs := [6]) (by kernel_rfl) (by simp) ?_
              refine AllReady.cons rfl (fun K6 hK6 => ?_) ?_
              · replace hK6 := Lib.hid hK6
                go_simp
                go_at_call 54
                refine (HCL.out bk bl mb2 _ HL.out).mono ?_
                rintro e w' ⟨rfl, hb⟩
                obtain ⟨g2, rfl⟩ := GW.of (g.h.trans (hb.mono g.h.size))
                clear hb
                refine hK6.out _ _ ?_
                clear hK6
                refine wpAny_ready (rs := [7]) (by kernel_rfl) (by simp) ?_
                refine AllReady.cons rfl (fun K7 hK7 => ?_) ?_
                · replace hK7 := Lib.hid hK7
                  go_simp
                  go_at_call 34
                  refine (must_false _ _).mono ?_
                  rintro e w' ⟨rfl, rfl⟩
                  exact hend _ g2.h ⟨_, _⟩ rfl rfl rfl
                exact AllReady.nil
              exact AllReady.nil
            exact AllReady.nil
          exact AllReady.nil
        exact AllReady.nil
      exact AllReady.nil
    refine AllReady.cons rfl (fun K1 hK1 => ?_) ?_
    · replace hK1 := Lib.hid hK1
      go_simp
      refine hK1.out _ _ ?_
      clear hK1
      refine wpAny_ready (rs := [1, 3]) (by kernel_rfl) (by simp) ?_
      refine AllReady.cons rfl (fun K2 hK2 => ?_) ?_
      · replace hK2 := Lib.hid hK2
        go_simp
        go_at_call 30
        refine (HIS.out _ (by repeat (first | exact Up.refl _ | refine Up.alloc _ ?_ | refine Up.drew ?_ | refine Up.gw _ ?_))).mono ?_
        rintro e w' ⟨bk, bl, mb2, rfl, hL, hb⟩
        have HL := Lib.hid hL; clear hL
        obtain ⟨g, rfl⟩ := GW.of ((show Below w2.heap.size w2 _ by repeat (first | exact Up.refl _ | refine Up.alloc _ ?_ | refine Up.drew ?_ | refine Up.gw _ ?_)).trans hb)
        clear hb
        refine hK2.out _ _ ?_
        clear hK2
        refine wpAny_ready (rs := [3]) (by kernel_rfl) (by simp) ?_
        refine AllReady.cons rfl (fun K3 hK3 => ?_) ?_
        · replace hK3 := Lib.hid hK3
          go_simp
          refine hK3.out _ _ ?_
          clear hK3
          refine wpAny_ready (rs := [4]) (by kernel_rfl) (by simp) ?_
          refine AllReady.cons rfl (fun K4 hK4 => ?_) ?_
          · replace hK4 := Lib.hid hK4
            go_simp
            refine hK4.out _ _ ?_
            clear hK4
            refine wpAny_ready (rs := [5]) (by kernel_rfl) (by simp) ?_
            refine AllReady.cons rfl (fun K5 hK5 => ?_) ?_
            · replace hK5 := Lib.hid hK5
              go_simp
              refine hK5.out _ _ ?_
              clear hK5
              refine wpAny_ready (rs := [6]) (by kernel_rfl) (by simp) ?_
              refine AllReady.cons rfl (fun K6 hK6 => ?_) ?_
              · replace hK6 := Lib.hid hK6
                go_simp
                go_at_call 54
                refine (HCL.out bk bl mb2 _ HL.out).mono ?_
                rintro e w' ⟨rfl, hb⟩
                obtain ⟨g2, rfl⟩ := GW.of (g.h.trans (hb.mono g.h.size))
                clear hb
                refine hK6.out _ _ ?_
                clear hK6
                refine wpAny_ready (rs := [7]) (by kernel_rfl) (by simp) ?_
                refine AllReady.cons rfl (fun K7 hK7 => ?_) ?_
                · replace hK7 := Lib.hid hK7
                  go_simp
                  go_at_call 34
                  refine (must_false _ _).mono ?_
                  rintro e w' ⟨rfl, rfl⟩
                  exact hend _ g2.h ⟨_, _⟩ rfl rfl rfl
                exact AllReady.nil
              exact AllReady.nil
            exact AllReady.nil
          exact AllReady.nil
        exact AllReady.nil
      refine AllReady.cons rfl (fun K2 hK2 => ?_) ?_
      · replace hK2 := Lib.hid hK2
        go_simp
        refine hK2.out _ _ ?_
        clear hK2
        refine wpAny_ready (rs := [1, 4]) (by kernel_rfl) (by simp) ?_
        refine AllReady.cons rfl (fun K3 hK3 => ?_) ?_
        · replace hK3 := Lib.hid hK3
          go_simp
          go_at_call 30
          refine (HIS.out _ (by repeat (first | exact Up.refl _ | refine Up.alloc _ ?_ | refine Up.drew ?_ | refine Up.gw _ ?_))).mono ?_
          rintro e w' ⟨bk, bl, mb2, rfl, hL, hb⟩
          have HL := Lib.hid hL; clear hL
          obtain ⟨g, rfl⟩ := GW.of ((show Below w2.heap.size w2 _ by repeat (first | exact Up.refl _ | refine Up.alloc _ ?_ | refine Up.drew ?_ | refine Up.gw _ ?_)).trans hb)
          clear hb
          refine hK3.out _ _ ?_
          clear hK3
          refine wpAny_ready (rs := [4]) (by kernel_rfl) (by simp) ?_
          refine AllReady.cons rfl (fun K4 hK4 => ?_) ?_
          · replace hK4 := Lib.hid hK4
            go_simp
            refine hK4.out _ _ ?_
            clear hK4
            refine wpAny_ready (rs := [5]) (by kernel_rfl) (by simp) ?_
            refine AllReady.cons rfl (fun K5 hK5 => ?_) ?_
            · replace hK5 := Lib.hid hK5
              go_simp
              refine hK5.out _ _ ?_
              clear hK5
              refine wpAny_ready (rs := [6]) (by kernel_rfl) (by simp) ?_
              refine AllReady.cons rfl (fun K6 hK6 => ?_) ?_
              · replace hK6 := Lib.hid hK6
                go_simp
                go_at_call 54
                refine (HCL.out bk bl mb2 _ HL.out).mono ?_
                rintro e w' ⟨rfl, hb⟩
                obtain ⟨g2, rfl⟩ := GW.of (g.h.trans (hb.mono g.h.size))
                clear hb
                refine hK6.out _ _ ?_
                clear hK6
                refine wpAny_ready (rs := [7]) (by kernel_rfl) (by simp) ?_
                refine AllReady.cons rfl (fun K7 hK7 => ?_) ?_
                · replace hK7 := Lib.hid hK7
                  go_simp
                  go_at_call 34
                  refine (must_false _ _).mono ?_
                  rintro e w' ⟨rfl, rfl⟩
                  exact hend _ g2.h ⟨_, _⟩ rfl rfl rfl
                exact AllReady.nil
              exact AllReady.nil
            exact AllReady.nil
          exact AllReady.nil
        refine AllReady.cons rfl (fun K3 hK3 => ?_) ?_
        · replace hK3 := Lib.hid hK3
          go_simp
          refine hK3.out _ _ ?_
          clear hK3
          refine wpAny_ready (rs := [1, 5]) (by kernel_rfl) (by simp) ?_
          refine AllReady.cons rfl (fun K4 hK4 => ?_) ?_
          · replace hK4 := Lib.hid hK4
            go_simp
            go_at_call 30
            refine (HIS.out _ (by repeat (first | exact Up.refl _ | refine Up.alloc _ ?_ | refine Up.drew ?_ | refine Up.gw _ ?_))).mono ?_
            rintro e w' ⟨bk, bl, mb2, rfl, hL, hb⟩
            have HL := Lib.hid hL; clear hL
            obtain ⟨g, rfl⟩ := GW.of ((show Below w2.heap.size w2 _ by repeat (first | exact Up.refl _ | refine Up.alloc _ ?_ | refine Up.drew ?_ | refine Up.gw _ ?_)).trans hb)
            clear hb
            refine hK4.out _ _ ?_
            clear hK4
            refine wpAny_ready (rs := [5]) (by kernel_rfl) (by simp) ?_
            refine AllReady.cons rfl (fun K5 hK5 => ?_) ?_
            · replace hK5 := Lib.hid hK5
              go_simp
              refine hK5.out _ _ ?_
              clear hK5
              refine wpAny_ready (rs := [6]) (by kernel_rfl) (by simp) ?_
              refine AllReady.cons rfl (fun K6 hK6 => ?_) ?_
              · replace hK6 := Lib.hid hK6
                go_simp
                go_at_call 54
                refine (HCL.out bk bl mb2 _ HL.out).mono ?_
                rintro e w' ⟨rfl, hb⟩
                obtain ⟨g2, rfl⟩ := GW.of (g.h.trans (hb.mono g.h.size))
                clear hb
                refine hK6.out _ _ ?_
                clear hK6
                refine wpAny_ready (rs := [7]) (by kernel_rfl) (by simp) ?_
                refine AllReady.cons rfl (fun K7 hK7 => ?_) ?_
                · replace hK7 := Lib.hid hK7
                  go_simp
                  go_at_call 34
                  refine (must_false _ _).mono ?_
                  rintro e w' ⟨rfl, rfl⟩
                  exact hend _ g2.h ⟨_, _⟩ rfl rfl rfl
                exact AllReady.nil
              exact AllReady.nil
            exact AllReady.nil
          refine AllReady.cons rfl (fun K4 hK4 => ?_) ?_
          · replace hK4 := Lib.hid hK4
            go_simp
            refine hK4.out _ _ ?_
            clear hK4
            refine wpAny_ready (rs := [1]) (by kernel_rfl) (by simp) ?_
            refine AllReady.cons rfl (fun K5 hK5 => ?_) ?_
            · replace hK5 := Lib.hid hK5
              go_simp
              go_at_call 30
              refine (HIS.out _ (by repeat (first | exact Up.refl _ | refine Up.alloc _ ?_ | refine Up.drew ?_ | refine Up.gw _ ?_))).mono ?_
              rintro e w' ⟨bk, bl, mb2, rfl, hL, hb⟩
              have HL := Lib.hid hL; clear hL
              obtain ⟨g, rfl⟩ := GW.of ((show Below w2.heap.size w2 _ by repeat (first | exact Up.refl _ | refine Up.alloc _ ?_ | refine Up.drew ?_ | refine Up.gw _ ?_)).trans hb)
              clear hb
              refine hK5.out _ _ ?_
              clear hK5
              refine wpAny_ready (rs := [6]) (by kernel_rfl) (by simp) ?_
              refine AllReady.cons rfl (fun K6 hK6 => ?_) ?_
              · replace hK6 := Lib.hid hK6
                go_simp
                go_at_call 54
                refine (HCL.out bk bl mb2 _ HL.out).mono ?_
                rintro e w' ⟨rfl, hb⟩
                obtain ⟨g2, rfl⟩ := GW.of (g.h.trans (hb.mono g.h.size))
                clear hb
                refine hK6.out _ _ ?_
                clear hK6
                refine wpAny_ready (rs := [7]) (by kernel_rfl) (by simp) ?_
                refine AllReady.cons rfl (fun K7 hK7 => ?_) ?_
                · replace hK7 := Lib.hid hK7
                  go_simp
                  go_at_call 34
                  refine (must_false _ _).mono ?_
                  rintro e w' ⟨rfl, rfl⟩
                  exact hend _ g2.h ⟨_, _⟩ rfl rfl rfl
                exact AllReady.nil
              exact AllReady.nil
            exact AllReady.nil
          exact AllReady.nil
        exact AllReady.nil
      exact AllReady.nil
    exact AllReady.nil
  refine AllReady.cons rfl (fun K0 hK0 => ?_) ?_
  · replace hK0 := Lib.hid hK0
    go_simp
    refine hK0.out _ _ ?_
    clear hK0
    refine wpAny_ready (rs := [0, 3]) (by kernel_rfl) (by simp) ?_
    refine AllReady.cons rfl (fun K1 hK1 => ?_) ?_
    · replace hK1 := Lib.hid hK1
      go_simp
      refine hK1.out _ _ ?_
      clear hK1
      refine wpAny_ready (rs := [1, 3]) (by kernel_rfl) (by simp) ?_
      refine AllReady.cons rfl (fun K2 hK2 => ?_) ?_
      · replace hK2 := Lib.hid hK2
        go_simp
        go_at_call 30
        refine (HIS.out _ (by repeat (first | exact Up.refl _ | refine Up.alloc _ ?_ | refine Up.drew ?_ | refine Up.gw _ ?_))).mono ?_
        rintro e w' ⟨bk, bl, mb2, rfl, hL, hb⟩
        have HL := Lib.hid hL; clear hL
        obtain ⟨g, rfl⟩ := GW.of ((show Below w2.heap.size w2 _ by repeat (first | exact Up.refl _ | refine Up.alloc _ ?_ | refine Up.drew ?_ | refine Up.gw _ ?_)).trans hb)
        clear hb
        refine hK2.out _ _ ?_
        clear hK2
        refine wpAny_ready (rs := [3]) (by kernel_rfl) (by simp) ?_
        refine AllReady.cons rfl (fun K3 hK3 => ?_) ?_
        · replace hK3 := Lib.hid hK3
          go_simp
          refine hK3.out _ _ ?_
          clear hK3
          refine wpAny_ready (rs := [4]) (by kernel_rfl) (by simp) ?_
          refine AllReady.cons rfl (fun K4 hK4 => ?_) ?_
          · replace hK4 := Lib.hid hK4
            go_simp
            refine hK4.out _ _ ?_
            clear hK4
            refine wpAny_ready (rs := [5]) (by kernel_rfl) (by simp) ?_
            refine AllReady.cons rfl (fun K5 hK5 => ?_) ?_
            · replace hK5 := Lib.hid hK5
              go_simp
              refine hK5.out _ _ ?_
              clear hK5
              refine wpAny_ready (rs := [6]) (by kernel_rfl) (by simp) ?_
              refine AllReady.cons rfl (fun K6 hK6 => ?_) ?_
              · replace hK6 := Lib.hid hK6
                go_simp
                go_at_call 54
                refine (HCL.out bk bl mb2 _ HL.out).mono ?_
                rintro e w' ⟨rfl, hb⟩
                obtain ⟨g2, rfl⟩ := GW.of (g.h.trans (hb.mono g.h.size))
                clear hb
                refine hK6.out _ _ ?_
                clear hK6
                refine wpAny_ready (rs := [7]) (by kernel_rfl) (by simp) ?_
                refine AllReady.cons rfl (fun K7 hK7 => ?_) ?_
                · replace hK7 := Lib.hid hK7
                  go_simp
                  go_at_call 34
                  refine (must_false _ _).mono ?_
                  rintro e w' ⟨rfl, rfl⟩
                  exact hend _ g2.h ⟨_, _⟩ rfl rfl rfl
                exact AllReady.nil
              exact AllReady.nil
            exact AllReady.nil
          exact AllReady.nil
        exact AllReady.nil
      refine AllReady.cons rfl (fun K2 hK2 => ?_) ?_
      · replace hK2 := Lib.hid hK2
        go_simp
        refine hK2.out _ _ ?_
        clear hK2
        refine wpAny_ready (rs := [1, 4]) (by kernel_rfl) (by simp) ?_
        refine AllReady.cons rfl (fun K3 hK3 => ?_) ?_
        · replace hK3 := Lib.hid hK3
          go_simp
          go_at_call 30
          refine (HIS.out _ (by repeat (first | exact Up.refl _ | refine Up.alloc _ ?_ | refine Up.drew ?_ | refine Up.gw _ ?_))).mono ?_
          rintro e w' ⟨bk, bl, mb2, rfl, hL, hb⟩
          have HL := Lib.hid hL; clear hL
          obtain ⟨g, rfl⟩ := GW.of ((show Below w2.heap.size w2 _ by repeat (first | exact Up.refl _ | refine Up.alloc _ ?_ | refine Up.drew ?_ | refine Up.gw _ ?_)).trans hb)
          clear hb
          refine hK3.out _ _ ?_
          clear hK3
          refine wpAny_ready (rs := [4]) (by kernel_rfl) (by simp) ?_
          refine AllReady.cons rfl (fun K4 hK4 => ?_) ?_
          · replace hK4 := Lib.hid hK4
            go_simp
            refine hK4.out _ _ ?_
            clear hK4
            refine wpAny_ready (rs := [5]) (by kernel_rfl) (by simp) ?_
            refine AllReady.cons rfl (fun K5 hK5 => ?_) ?_
            · replace hK5 := Lib.hid hK5
              go_simp
              refine hK5.out _ _ ?_
              clear hK5
              refine wpAny_ready (rs := [6]) (by kernel_rfl) (by simp) ?_
              refine AllReady.cons rfl (fun K6 hK6 => ?_) ?_
              · replace hK6 := Lib.hid hK6
                go_simp
                go_at_call 54
                refine (HCL.out bk bl mb2 _ HL.out).mono ?_
                rintro e w' ⟨rfl, hb⟩
                obtain ⟨g2, rfl⟩ := GW.of (g.h.trans (hb.mono g.h.size))
                clear hb
                refine hK6.out _ _ ?_
                clear hK6
                refine wpAny_ready (rs := [7]) (by kernel_rfl) (by simp) ?_
                refine AllReady.cons rfl (fun K7 hK7 => ?_) ?_
                · replace hK7 := Lib.hid hK7
                  go_simp
                  go_at_call 34
                  refine (must_false _ _).mono ?_
                  rintro e w' ⟨rfl, rfl⟩
                  exact hend _ g2.h ⟨_, _⟩ rfl rfl rfl
                exact AllReady.nil
              exact AllReady.nil
            exact AllReady.nil
          exact AllReady.nil
        refine AllReady.cons rfl (fun K3 hK3 => ?_) ?_
        · replace hK3 := Lib.hid hK3
          go_simp
          refine hK3.out _ _ ?_
          clear hK3
          refine wpAny_ready (rs := [1, 5]) (by kernel_rfl) (by simp) ?_
          refine AllReady.cons rfl (fun K4 hK4 => ?_) ?_
          · replace hK4 := Lib.hid hK4
            go_simp
            go_at_call 30
            refine (HIS.out _ (by repeat (first | exact Up.refl _ | refine Up.alloc _ ?_ | refine Up.drew ?_ | refine Up.gw _ ?_))).mono ?_
            rintro e w' ⟨bk, bl, mb2, rfl, hL, hb⟩
            have HL := Lib.hid hL; clear hL
            obtain ⟨g, rfl⟩ := GW.of ((show Below w2.heap.size w2 _ by repeat (first | exact Up.refl _ | refine Up.alloc _ ?_ | refine Up.drew ?_ | refine Up.gw _ ?_)).trans hb)
            clear hb
            refine hK4.out _ _ ?_
            clear hK4
            refine wpAny_ready (rs := [5]) (by kernel_rfl) (by simp) ?_
            refine AllReady.cons rfl (fun K5 hK5 => ?_) ?_
            · replace hK5 := Lib.hid hK5
              go_simp
              refine hK5.out _ _ ?_
              clear hK5
              refine wpAny_ready (rs := [6]) (by kernel_rfl) (by simp) ?_
              refine AllReady.cons rfl (fun K6 hK6 => ?_) ?_
              · replace hK6 := Lib.hid hK6
                go_simp
                go_at_call 54
                refine (HCL.out bk bl mb2 _ HL.out).mono ?_
                rintro e w' ⟨rfl, hb⟩
                obtain ⟨g2, rfl⟩ := GW.of (g.h.trans (hb.mono g.h.size))
                clear hb
                refine hK6.out _ _ ?_
                clear hK6
                refine wpAny_ready (rs := [7]) (by kernel_rfl) (by simp) ?_
                refine AllReady.cons rfl (fun K7 hK7 => ?_) ?_
                · replace hK7 := Lib.hid hK7
                  go_simp
                  go_at_call 34
                  refine (must_false _ _).mono ?_
                  rintro e w' ⟨rfl, rfl⟩
                  exact hend _ g2.h ⟨_, _⟩ rfl rfl rfl
                exact AllReady.nil
              exact AllReady.nil
            exact AllReady.nil
          refine AllReady.cons rfl (fun K4 hK4 => ?_) ?_
          · replace hK4 := Lib.hid hK4
            go_simp
            refine hK4.out _ _ ?_
            clear hK4
            refine wpAny_ready (rs := [1]) (by kernel_rfl) (by simp) ?_
            refine AllReady.cons rfl (fun K5 hK5 => ?_) ?_
            · replace hK5 := Lib.hid hK5
              go_simp
              go_at_call 30
              refine (HIS.out _ (by repeat (first | exact Up.refl _ | refine Up.alloc _ ?_ | refine Up.drew ?_ | refine Up.gw _ ?_))).mono ?_
              rintro e w' ⟨bk, bl, mb2, rfl, hL, hb⟩
              have HL := Lib.hid hL; clear hL
              obtain ⟨g, rfl⟩ := GW.of ((show Below w2.heap.size w2 _ by repeat (first | exact Up.refl _ | refine Up.alloc _ ?_ | refine Up.drew ?_ | refine Up.gw _ ?_)).trans hb)
              clear hb
              refine hK5.out _ _ ?_
              clear hK5
              refine wpAny_ready (rs := [6]) (by kernel_rfl) (by simp) ?_
              refine AllReady.cons rfl (fun K6 hK6 => ?_) ?_
              · replace hK6 := Lib.hid hK6
                go_simp
                go_at_call 54
                refine (HCL.out bk bl mb2 _ HL.out).mono ?_
                rintro e w' ⟨rfl, hb⟩
                obtain ⟨g2, rfl⟩ := GW.of (g.h.trans (hb.mono g.h.size))
                clear hb
                refine hK6.out _ _ ?_
                clear hK6
                refine wpAny_ready (rs := [7]) (by kernel_rfl) (by simp) ?_
                refine AllReady.cons rfl (fun K7 hK7 => ?_) ?_
                · replace hK7 := Lib.hid hK7
                  go_simp
                  go_at_call 34
                  refine (must_false _ _).mono ?_
                  rintro e w' ⟨rfl, rfl⟩
                  exact hend _ g2.h ⟨_, _⟩ rfl rfl rfl
                exact AllReady.nil
              exact AllReady.nil
            exact AllReady.nil
          exact AllReady.nil
        exact AllReady.nil
      exact AllReady.nil
    refine AllReady.cons rfl (fun K1 hK1 => ?_) ?_
    · replace hK1 := Lib.hid hK1
      go_simp
      refine hK1.out _ _ ?_
      clear hK1
      refine wpAny_ready (rs := [0, 4]) (by kernel_rfl) (by simp) ?_
      refine AllReady.cons rfl (fun K2 hK2 => ?_) ?_
      · replace hK2 := Lib.hid hK2
        go_simp
        refine hK2.out _ _ ?_
        clear hK2
        refine wpAny_ready (rs := [1, 4]) (by kernel_rfl) (by simp) ?_
        refine AllReady.cons rfl (fun K3 hK3 => ?_) ?_
        · replace hK3 := Lib.hid hK3
          go_simp
          go_at_call 30
          refine (HIS.out _ (by repeat (first | exact Up.refl _ | refine Up.alloc _ ?_ | refine Up.drew ?_ | refine Up.gw _ ?_))).mono ?_
          rintro e w' ⟨bk, bl, mb2, rfl, hL, hb⟩
          have HL := Lib.hid hL; clear hL
          obtain ⟨g, rfl⟩ := GW.of ((show Below w2.heap.size w2 _ by repeat (first | exact Up.refl _ | refine Up.alloc _ ?_ | refine Up.drew ?_ | refine Up.gw _ ?_)).trans hb)
          clear hb
          refine hK3.out _ _ ?_
          clear hK3
          refine wpAny_ready (rs := [4]) (by kernel_rfl) (by simp) ?_
          refine AllReady.cons rfl (fun K4 hK4 => ?_) ?_
          · replace hK4 := Lib.hid hK4
            go_simp
            refine hK4.out _ _ ?_
            clear hK4
            refine wpAny_ready (rs := [5]) (by kernel_rfl) (by simp) ?_
            refine AllReady.cons rfl (fun K5 hK5 => ?_) ?_
            · replace hK5 := Lib.hid hK5
              go_simp
              refine hK5.out _ _ ?_
              clear hK5
              refine wpAny_ready (rs := [6]) (by kernel_rfl) (by simp) ?_
              refine AllReady.cons rfl (fun K6 hK6 => ?_) ?_
              · replace hK6 := Lib.hid hK6
                go_simp
                go_at_call 54
                refine (HCL.out bk bl mb2 _ HL.out).mono ?_
                rintro e w' ⟨rfl, hb⟩
                obtain ⟨g2, rfl⟩ := GW.of (g.h.trans (hb.mono g.h.size))
                clear hb
                refine hK6.out _ _ ?_
                clear hK6
                refine wpAny_ready (rs := [7]) (by kernel_rfl) (by simp) ?_
                refine AllReady.cons rfl (fun K7 hK7 => ?_) ?_
                · replace hK7 := Lib.hid hK7
                  go_simp
                  go_at_call 34
                  refine (must_false _ _).mono ?_
                  rintro e w' ⟨rfl, rfl⟩
                  exact hend _ g2.h ⟨_, _⟩ rfl rfl rfl
                exact AllReady.nil
              exact AllReady.nil
            exact AllReady.nil
          exact AllReady.nil
        refine AllReady.cons rfl (fun K3 hK3 => ?_) ?_
        · replace hK3 := Lib.hid hK3
          go_simp
          refine hK3.out _ _ ?_
          clear hK3
          refine wpAny_ready (rs := [1, 5]) (by kernel_rfl) (by simp) ?_
          refine AllReady.cons rfl (fun K4 hK4 => ?_) ?_
          · replace hK4 := Lib.hid hK4
            go_simp
            go_at_call 30
            refine (HIS.out _ (by repeat (first | exact Up.refl _ | refine Up.alloc _ ?_ | refine Up.drew ?_ | refine Up.gw _ ?_))).mono ?_
            rintro e w' ⟨bk, bl, mb2, rfl, hL, hb⟩
            have HL := Lib.hid hL; clear hL
            obtain ⟨g, rfl⟩ := GW.of ((show Below w2.heap.size w2 _ by repeat (first | exact Up.refl _ | refine Up.alloc _ ?_ | refine Up.drew ?_ | refine Up.gw _ ?_)).trans hb)
            clear hb
            refine hK4.out _ _ ?_
            clear hK4
            refine wpAny_ready (rs := [5]) (by kernel_rfl) (by simp) ?_
            refine AllReady.cons rfl (fun K5 hK5 => ?_) ?_
            · replace hK5 := Lib.hid hK5
              go_simp
              refine hK5.out _ _ ?_
              clear hK5
              refine wpAny_ready (rs := [6]) (by kernel_rfl) (by simp) ?_
              refine AllReady.cons rfl (fun K6 hK6 => ?_) ?_
              · replace hK6 := Lib.hid hK6
                go_simp
                go_at_call 54
                refine (HCL.out bk bl mb2 _ HL.out).mono ?_
                rintro e w' ⟨rfl, hb⟩
                obtain ⟨g2, rfl⟩ := GW.of (g.h.trans (hb.mono g.h.size))
                clear hb
                refine hK6.out _ _ ?_
                clear hK6
                refine wpAny_ready (rs := [7]) (by kernel_rfl) (by simp) ?_
                refine AllReady.cons rfl (fun K7 hK7 => ?_) ?_
                · replace hK7 := Lib.hid hK7
                  go_simp
                  go_at_call 34
                  refine (must_false _ _).mono ?_
                  rintro e w' ⟨rfl, rfl⟩
                  exact hend _ g2.h ⟨_, _⟩ rfl rfl rfl
                exact AllReady.nil
              exact AllReady.nil
            exact AllReady.nil
          refine AllReady.cons rfl (fun K4 hK4 => ?_) ?_
          · replace hK4 := Lib.hid hK4
            go_simp
            refine hK4.out _ _ ?_
            clear hK4
            refine wpAny_ready (rs := [1]) (by kernel_rfl) (by simp) ?_
            refine AllReady.cons rfl (fun K5 hK5 => ?_) ?_
            · replace hK5 := Lib.hid hK5
              go_simp
              go_at_call 30
              refine (HIS.out _ (by repeat (first | exact Up.refl _ | refine Up.alloc _ ?_ | refine Up.drew ?_ | refine Up.gw _ ?_))).mono ?_
              rintro e w' ⟨bk, bl, mb2, rfl, hL, hb⟩
              have HL := Lib.hid hL; clear hL
              obtain ⟨g, rfl⟩ := GW.of ((show Below w2.heap.size w2 _ by repeat (first | exact Up.refl _ | refine Up.alloc _ ?_ | refine Up.drew ?_ | refine Up.gw _ ?_)).trans hb)
              clear hb
              refine hK5.out _ _ ?_
              clear hK5
              refine wpAny_ready (rs := [6]) (by kernel_rfl) (by simp) ?_
              refine AllReady.cons rfl (fun K6 hK6 => ?_) ?_
              · replace hK6 := Lib.hid hK6
                go_simp
                go_at_call 54
                refine (HCL.out bk bl mb2 _ HL.out).mono ?_
                rintro e w' ⟨rfl, hb⟩
                obtain ⟨g2, rfl⟩ := GW.of (g.h.trans (hb.mono g.h.size))
                clear hb
                refine hK6.out _ _ ?_
                clear hK6
                refine wpAny_ready (rs := [7]) (by kernel_rfl) (by simp) ?_
                refine AllReady.cons rfl (fun K7 hK7 => ?_) ?_
                · replace hK7 := Lib.hid hK7
                  go_simp
                  go_at_call 34
                  refine (must_false _ _).mono ?_
                  rintro e w' ⟨rfl, rfl⟩
                  exact hend _ g2.h ⟨_, _⟩ rfl rfl rfl
                exact AllReady.nil
              exact AllReady.nil
            exact AllReady.nil
          exact AllReady.nil
        exact AllReady.nil
      refine AllReady.cons rfl (fun K2 hK2 => ?_) ?_
      · replace hK2 := Lib.hid hK2
        go_simp
        refine hK2.out _ _ ?_
        clear hK2
        refine wpAny_ready (rs := [0, 5]) (by kernel_rfl) (by simp) ?_
        refine AllReady.cons rfl (fun K3 hK3 => ?_) ?_
        · replace hK3 := Lib.hid hK3
          go_simp
          refine hK3.out _ _ ?_
          clear hK3
          refine wpAny_ready (rs := [1, 5]) (by kernel_rfl) (by simp) ?_
          refine AllReady.cons rfl (fun K4 hK4 => ?_) ?_
          · replace hK4 := Lib.hid hK4
            go_simp
            go_at_call 30
            refine (HIS.out _ (by repeat (first | exact Up.refl _ | refine Up.alloc _ ?_ | refine Up.drew ?_ | refine Up.gw _ ?_))).mono ?_
            rintro e w' ⟨bk, bl, mb2, rfl, hL, hb⟩
            have HL := Lib.hid hL; clear hL
            obtain ⟨g, rfl⟩ := GW.of ((show Below w2.heap.size w2 _ by repeat (first | exact Up.refl _ | refine Up.alloc _ ?_ | refine Up.drew ?_ | refine Up.gw _ ?_)).trans hb)
            clear hb
            refine hK4.out _ _ ?_
            clear hK4
            refine wpAny_ready (rs := [5]) (by kernel_rfl) (by simp) ?_
            refine AllReady.cons rfl (fun K5 hK5 => ?_) ?_
            · replace hK5 := Lib.hid hK5
              go_simp
              refine hK5.out _ _ ?_
              clear hK5
              refine wpAny_ready (rs := [6]) (by kernel_rfl) (by simp) ?_
              refine AllReady.cons rfl (fun K6 hK6 => ?_) ?_
              · replace hK6 := Lib.hid hK6
                go_simp
                go_at_call 54
                refine (HCL.out bk bl mb2 _ HL.out).mono ?_
                rintro e w' ⟨rfl, hb⟩
                obtain ⟨g2, rfl⟩ := GW.of (g.h.trans (hb.mono g.h.size))
                clear hb
                refine hK6.out _ _ ?_
                clear hK6
                refine wpAny_ready (rs := [7]) (by kernel_rfl) (by simp) ?_
                refine AllReady.cons rfl (fun K7 hK7 => ?_) ?_
                · replace hK7 := Lib.hid hK7
                  go_simp
                  go_at_call 34
                  refine (must_false _ _).mono ?_
                  rintro e w' ⟨rfl, rfl⟩
                  exact hend _ g2.h ⟨_, _⟩ rfl rfl rfl
                exact AllReady.nil
              exact AllReady.nil
            exact AllReady.nil
          refine AllReady.cons rfl (fun K4 hK4 => ?_) ?_
          · replace hK4 := Lib.hid hK4
            go_simp
            refine hK4.out _ _ ?_
            clear hK4
            refine wpAny_ready (rs := [1]) (by kernel_rfl) (by simp) ?_
            refine AllReady.cons rfl (fun K5 hK5 => ?_) ?_
            · replace hK5 := Lib.hid hK5
              go_simp
              go_at_call 30
              refine (HIS.out _ (by repeat (first | exact Up.refl _ | refine Up.alloc _ ?_ | refine Up.drew ?_ | refine Up.gw _ ?_))).mono ?_
              rintro e w' ⟨bk, bl, mb2, rfl, hL, hb⟩
              have HL := Lib.hid hL; clear hL
              obtain ⟨g, rfl⟩ := GW.of ((show Below w2.heap.size w2 _ by repeat (first | exact Up.refl _ | refine Up.alloc _ ?_ | refine Up.drew ?_ | refine Up.gw _ ?_)).trans hb)
              clear hb
              refine hK5.out _ _ ?_
              clear hK5
              refine wpAny_ready (rs := [6]) (by kernel_rfl) (by simp) ?_
              refine AllReady.cons rfl (fun K6 hK6 => ?_) ?_
              · replace hK6 := Lib.hid hK6
                go_simp
                go_at_call 54
                refine (HCL.out bk bl mb2 _ HL.out).mono ?_
                rintro e w' ⟨rfl, hb⟩
                obtain ⟨g2, rfl⟩ := GW.of (g.h.trans (hb.mono g.h.size))
                clear hb
                refine hK6.out _ _ ?_
                clear hK6
                refine wpAny_ready (rs := [7]) (by kernel_rfl) (by simp) ?_
                refine AllReady.cons rfl (fun K7 hK7 => ?_) ?_
                · replace hK7 := Lib.hid hK7
                  go_simp
                  go_at_call 34
                  refine (must_false _ _).mono ?_
                  rintro e w' ⟨rfl, rfl⟩
                  exact hend _ g2.h ⟨_, _⟩ rfl rfl rfl
                exact AllReady.nil
              exact AllReady.nil
            exact AllReady.nil
          exact AllReady.nil
        refine AllReady.cons rfl (fun K3 hK3 => ?_) ?_
        · replace hK3 := Lib.hid hK3
          go_simp
          refine hK3.out _ _ ?_
          clear hK3
          refine wpAny_ready (rs := [0]) (by kernel_rfl) (by simp) ?_
          refine AllReady.cons rfl (fun K4 hK4 => ?_) ?_
          · replace hK4 := Lib.hid hK4
            go_simp
            refine hK4.out _ _ ?_
            clear hK4
            refine wpAny_ready (rs := [1]) (by kernel_rfl) (by simp) ?_
            refine AllReady.cons rfl (fun K5 hK5 => ?_) ?_
            · replace hK5 := Lib.hid hK5
              go_simp
              go_at_call 30
              refine (HIS.out _ (by repeat (first | exact Up.refl _ | refine Up.alloc _ ?_ | refine Up.drew ?_ | refine Up.gw _ ?_))).mono ?_
              rintro e w' ⟨bk, bl, mb2, rfl, hL, hb⟩
              have HL := Lib.hid hL; clear hL
              obtain ⟨g, rfl⟩ := GW.of ((show Below w2.heap.size w2 _ by repeat (first | exact Up.refl _ | refine Up.alloc _ ?_ | refine Up.drew ?_ | refine Up.gw _ ?_)).trans hb)
              clear hb
              refine hK5.out _ _ ?_
              clear hK5
              refine wpAny_ready (rs := [6]) (by kernel_rfl) (by simp) ?_
              refine AllReady.cons rfl (fun K6 hK6 => ?_) ?_
              · replace hK6 := Lib.hid hK6
                go_simp
                go_at_call 54
                refine (HCL.out bk bl mb2 _ HL.out).mono ?_
                rintro e w' ⟨rfl, hb⟩
                obtain ⟨g2, rfl⟩ := GW.of (g.h.trans (hb.mono g.h.size))
                clear hb
                refine hK6.out _ _ ?_
                clear hK6
                refine wpAny_ready (rs := [7]) (by kernel_rfl) (by simp) ?_
                refine AllReady.cons rfl (fun K7 hK7 => ?_) ?_
                · replace hK7 := Lib.hid hK7
                  go_simp
                  go_at_call 34
                  refine (must_false _ _).mono ?_
                  rintro e w' ⟨rfl, rfl⟩
                  exact hend _ g2.h ⟨_, _⟩ rfl rfl rfl
                exact AllReady.nil
              exact AllReady.nil
            exact AllReady.nil
          exact AllReady.nil
        exact AllReady.nil
      exact AllReady.nil
    exact AllReady.nil
  exact AllReady.nil

end Go.Proofs.Ytlfemkelnllmnaa
