/- cover.Apart where there is a list. -/
import Derived.Test.YtlfemkelnllmnaaApart1
import Derived.Sort.CutIn
set_option linter.all false
set_option linter.unusedVariables false
set_option linter.unusedSimpArgs false
namespace Go.Proofs.Ytlfemkelnllmnaa
open Go.RowKit
attribute [local go_sem] Oper.semAt_some

theorem ownsRow_base {w : World} {base base' : Nat} {e : TypeId} {size : Nat} {v : Value} {n : Nat} {xs : List Value} (h : w.ownsRow base e size v n xs) (hb : base' ≤ base) : w.ownsRow base' e size v n xs :=
  ⟨h.1, h.2.imp id fun ⟨g, cap, cur, e, hB, r⟩ => ⟨g, cap, cur, e, Nat.le_trans hb hB, r⟩⟩
theorem apart_leave {w W : World} {D k : Nat} {v : Value} {xs : List Value} (tm : Array Value) (hU : Below w.heap.size w W) (hE : Boxed W (w.heap.size + 1) 30 (.int .i64 0)) (hown : W.ownsRow w.heap.size 43 2 v k xs) (hK : W.heap[D]? = some (.deferred (some []))) (hD : w.heap.size + 1 < D)
    (h2 : tm[2]?.getD undef = v) (h3 : tm[3]?.getD undef = .pointer (some ⟨w.heap.size + 1, 0, none⟩)) :
    LeavesInM Fence.wide 9 Try.prog Try.f18 tm (fun e' w' => ∃ v', e' = .returned (.tuple #[v', .int .i64 0]) ∧ w'.ownsRow w.heap.size 43 2 v' k xs ∧ Below w.heap.size w w') [{ target := .collected D, args := #[] }, { target := .fn (.func 26) #[], args := #[.pointer (some ⟨w.heap.size + 1, 0, none⟩)] }] .returning W := by
  have k4 : Boxed (W.putObj D (.deferred none)) (w.heap.size + 1) 30 _ := (World.putObj_heap_other (by omega)).trans hE
  have c4 := k4.cell
  refine leavesM_collected (by simp) hK (leavesM_told (v := .tuple #[v, .int .i64 0]) ?_ ⟨v, rfl, ownsRow_putObj hown (.deferred none) hK rfl, hU.trans (putObj_below (.deferred none) (show w.heap.size ≤ D by omega))⟩)
  simp [results, Try.results18, go_sem, c4, h2, h3]

set_option maxHeartbeats 1000000 in
set_option maxRecDepth 10000 in
theorem apart_good (a : Option Addr) (cap : Nat) (x : Fld) (w : World) (hs : SlW 6 skyRow w (.slice a x.ps.length cap) x.ps) (hv : validB x = true) (hl : listB x (usefulM x) = true) :
    Calls Try.prog 18 #[fldV a cap x] w fun e w' => ∃ v, e = .returned (.tuple #[v, .int .i64 0]) ∧ w'.ownsRow w.heap.size 43 2 v (apartL x (placesL x)).1.length (flat2 (apartL x (placesL x)).1) ∧ Below w.heap.size w w' := by
  have HU0 := Lib.hid (topW_up w a cap x); have HB0 := Lib.hid (topW_box w a cap x); have HS0 := Lib.hid (topW_size w a cap x)
  have htop : (w.alloc (.cells #[.slice a x.ps.length cap, .int .i64 x.e0, .int .i64 x.e1, .int .i64 x.n0, .int .i64 x.n1, .int .i64 x.d0, .int .i64 x.d1, .int .i64 x.depth, .int .i64 x.times, .int .i64 x.gap] 26)).alloc (.cells #[.int .i64 0] 30) = topW w a cap x := rfl
  have HT := Lib.hid htop; clear htop
  have hlen := (valid_bounds hv).2.2.2.2.2.2.1
  have hu := usefulM_lt hlen
  have HO := Lib.hid (openP_calls a cap x w _ hs hv (topW_up w a cap x))
  clear hs
  unfold fldV at *
  refine (callsIn_wide (n := 9)).1 ?_
  refine callsIn_of_wp_marks Try.func18 rfl trivial ?_ rfl
  simp only [Try.ntmps18, List.size_toArray, List.length_cons, List.length_nil, Nat.reduceAdd, Nat.reduceSub, Array.replicate_succ, Array.replicate_zero, List.push_toArray, List.append_toArray, List.nil_append, List.cons_append]
  gi_wp2
  rw [HT.out]
  generalize topW w a cap x = w0 at *
  refine ⟨trivial, (callsIn_wide.2 HO.out).mono ?_⟩
  rintro e w1 ⟨bf, rfl, hF, hb⟩
  have hE := (boxed_below HB0.out (Nat.le_refl _) hb).alloc (.cells #[.pointer (some ⟨bf, 0, none⟩)] 58)
  have hU : Below w.heap.size w (w1.alloc (.cells #[.pointer (some ⟨bf, 0, none⟩)] 58)) := (HU0.out.trans (hb.mono HU0.out.size)).alloc (HU0.out.trans (hb.mono HU0.out.size)).size _
  have hF2 := hF.below (Nat.le_refl _) (Up.alloc (.cells #[.pointer (some ⟨bf, 0, none⟩)] 58) (Up.refl w1))
  have hX := Boxed.new w1 58 (.pointer (some ⟨bf, 0, none⟩))
  have hw1 : w.heap.size + 1 < w1.heap.size := by have := hb.size; have := HS0.out; omega
  have hbf1 := hF.1
  have hbfl : bf < w1.heap.size := by obtain ⟨_, _, h, _, _⟩ := hF.1; exact h.lt
  clear hb hF hbf1 HU0 HB0 HS0 HT HO
  have HE := Lib.hid hE; have HU := Lib.hid hU; have HF2 := Lib.hid hF2; have HX := Lib.hid hX
  have c4 := hX.cell; have l4 := hX.lt
  obtain ⟨⟨mb, m, hf, hm, hq⟩, hps⟩ := hF2
  have c10 := hf.c10; have lf := hf.lt
  clear hE hU hX hps hf hm hq
  gi_wp2
  generalize hw2 : w1.alloc (.cells #[.pointer (some ⟨bf, 0, none⟩)] 58) = w2 at *
  have HW2 := Lib.hid hw2; clear hw2
  have HIS := Lib.hid (fun W (hW : Below w2.heap.size w2 W) => isList_calls bf a cap x W hv (HF2.out.below (Nat.le_refl _) hW))
  have hCL := fun bk bl mb W (hW : ListC W bk bl bf a cap x (usefulM x) mb) => list1_calls bk bl bf a cap x (usefulM x) W hv hu _ _ hW
  rw [hl] at hCL
  have HCL := Lib.hid hCL; have HLI := Lib.hid hl
  clear hCL hl
  gi_cut [20] from 14 (fun s20 wc => s20 = .bool true ∧ Below w2.heap.size w2 wc)
  case first =>
    rename_i J K' hJ hK'
    refine wpIn_mono (Q := regQ K' (fun _ _ => False)) ?_ (fun e a w h => by cases e <;> first | exact h | exact h.elim)
    gi_region_with (first
      | (refine ⟨trivial, ?_⟩; gi_at_call 30; refine (callsIn_wide.2 (HIS.out _ (by repeat (first | exact Up.refl _ | refine Up.alloc _ ?_ | refine Up.drew ?_)))).mono ?_; rintro e w' ⟨bk, bl, mb2, rfl, hL, hb⟩; have HL := Lib.hid hL; clear hL; obtain ⟨g, rfl⟩ := GW.of ((show Below w2.heap.size w2 _ by repeat (first | exact Up.refl _ | refine Up.alloc _ ?_ | refine Up.drew ?_)).trans hb); clear hb)
      | (refine ⟨trivial, ?_⟩; gi_at_call 54; refine (callsIn_wide.2 (HCL.out bk bl mb2 _ HL.out)).mono ?_; rintro e w' ⟨rfl, hb⟩; obtain ⟨g2, rfl⟩ := GW.of (g.h.trans (hb.mono g.h.size)); clear hb)
      | (refine ⟨trivial, ?_⟩; gi_at_call 34; refine (callsIn_wide.2 (must_true _ _)).mono ?_; rintro e w' ⟨rfl, rfl⟩))
    all_goals change K' _ _
    all_goals refine hK' _ _ (Met.intro (hJ _ _ ?_))
    all_goals (repeat apply Exists.intro)
    all_goals refine ⟨?_, rfl⟩
    all_goals exact ⟨rfl, g2.h⟩
  case rest =>
    obtain ⟨rfl, hup⟩ := hcut
    have hF3 := HF2.out.below (Nat.le_refl _) hup
    have hE3 := boxed_below HE.out (Nat.le_refl _) hup
    have hX3 := boxed_below HX.out (Nat.le_refl _) hup
    have hU3 := HU.out.trans (hup.mono HU.out.size)
    have c43 := hX3.cell; have l43 := hX3.lt
    have hbfc : bf < w1.heap.size := hbfl
    have HUP := Lib.hid hup; have HF3 := Lib.hid hF3; have HE3 := Lib.hid hE3; have HX3 := Lib.hid hX3; have HU3 := Lib.hid hU3
    clear hup hF3 hE3 hX3 hU3 HIS HCL c4 l4 c10 lf HF2 HE HX HU
    gi_wp2
    refine ⟨trivial, (callsIn_wide.2 (kinds_calls bf a cap x wc hv HF3.out.1)).mono ?_⟩
    rintro e w4 ⟨vk, rfl, hsl, hb⟩
    obtain ⟨ak, capk, rfl, hle, hx⟩ := hsl
    have hsl2 : SlW 1 setRow w4 (.slice ak (kindsOf x (placesL x)).length capk) (kindsOf x (placesL x)) := ⟨ak, capk, rfl, hle, hx⟩
    have hF4 := HF3.out.below (Nat.le_refl _) hb
    have hE4 := boxed_below HE3.out (Nat.le_refl _) hb
    have hX4 := boxed_below HX3.out (Nat.le_refl _) hb
    have hU4 := HU3.out.trans (hb.mono HU3.out.size)
    have c44 := hX4.cell; have l44 := hX4.lt
    have HSL := Lib.hid hsl2; have HF4 := Lib.hid hF4; have HE4 := Lib.hid hE4; have HX4 := Lib.hid hX4; have HU4 := Lib.hid hU4
    clear hsl2 hF4 hE4 hX4 hU4 hx hb c43 l43 HF3 HE3 HX3 HU3 HUP
    generalize hnk : (kindsOf x (placesL x)).length = nk at *
    have HNK := Lib.hid hnk; clear hnk
    have l1 : w1.heap.size < w4.heap.size + 1 := by omega
    have l2 : w1.heap.size < w4.heap.size + 1 + 1 := by omega
    have l3 : w1.heap.size < w4.heap.size + 1 + 1 + 1 := by omega
    have l5 : w1.heap.size < w4.heap.size + 1 + 1 + 1 + 1 := by omega
    have l6 : w1.heap.size < w4.heap.size + 1 + 1 + 1 + 1 + 1 := by omega
    have l7 : w1.heap.size < w4.heap.size + 1 + 1 + 1 + 1 + 1 + 1 := by omega
    gi_wp2
    refine ⟨trivial, ?_⟩
    obtain ⟨⟨mb, m, hf, hm, hq⟩, hps⟩ := HF4.out
    have hup5 : Below w4.heap.size w4 ((((w4.alloc (.map #[] 0)).alloc (.cells #[.slice ak nk capk] 80)).alloc (.cells #[.map (some w4.heap.size)] 82)).alloc (.cells #[.func (.func 40) #[] #[.pointer (some ⟨w4.heap.size + 1 + 1, 0, none⟩), .pointer (some ⟨w4.heap.size + 1, 0, none⟩), .pointer (some ⟨w4.heap.size + 1 + 1 + 1, 0, none⟩)]] 83)) := Up.alloc _ (Up.alloc _ (Up.alloc _ (Up.alloc _ (Up.refl _))))
    refine (callsIn_wide.2 (all_calls bf a cap x _ hlen _ _ (hf.below (Nat.le_refl _) hup5))).mono ?_
    rintro e w' ⟨rfl, rfl⟩
    have HQ := Lib.hid hq; have HFC := Lib.hid hf; have HM := Lib.hid hm
    clear hf hm hq hps hup5
    gi_wp2
    refine ⟨trivial, (callsIn_wide.2 (places_calls _ _)).mono ?_⟩
    rintro e w' ⟨rfl, rfl⟩
    gi_wp2
    have htop : ((((((w4.alloc (.map #[] 0)).alloc (.cells #[.slice ak nk capk] 80)).alloc (.cells #[.map (some w4.heap.size)] 82)).alloc (.cells #[.func (.func 40) #[] #[.pointer (some ⟨w4.heap.size + 1 + 1, 0, none⟩), .pointer (some ⟨w4.heap.size + 1, 0, none⟩), .pointer (some ⟨w4.heap.size + 1 + 1 + 1, 0, none⟩)]] 83)).alloc
      (.cells #[.int .u64 (allN x : Int)] 61)).alloc (.cells #[.slice none 0 0] 87)).alloc (.cells #[.pointer (some ⟨bf, 0, none⟩)] 58) = topA w4 ak nk capk (allN x) bf := rfl
    rw [htop]
    have hTA := topA_is w4 ak nk capk (allN x) bf
    generalize topA w4 ak nk capk (allN x) bf = w5 at *
    clear htop
    obtain rfl := HNK.out
    have hBL := ablk_top hTA HU4.out (by omega) HE4.out HFC.out HM.out HX4.out HSL.out
    have hsz5 := hTA.size
    have hbfl5 : bf < w4.heap.size := HFC.out.lt
    have HBL := Lib.hid hBL; have HTA := Lib.hid hTA
    have hwle : w.heap.size ≤ w5.heap.size := hBL.up.size
    have hxl : w4.heap.size + 1 + 1 + 1 + 1 + 1 + 1 < w5.heap.size := by omega
    have hx2 := hTA.bx.cell
    clear hBL hTA l1 l2 l3 l5 l6 l7 c44
    refine wpIn_rangeFunc_ownH (F := Fence.wide) (n := 9) rfl (by omega) (gf := 58) (lb := #[.pointer (some ⟨w4.heap.size + 1 + 1 + 1 + 1 + 1 + 1, 0, none⟩)]) rfl trivial (enters_of Try.func58 (by kernel_rfl) rfl)
      (places1_stopsG 8 (by omega) (w4.heap.size + 1 + 1 + 1 + 1 + 1 + 1) bf w.heap.size a cap x (usefulM x) mb _ hv HBL.out.f hxl hwle hx2) kpG_t (kpG_b hwle) (Below.refl _ _) (fun _ => rfl)
      (fun pre W => AInv w w5 w4.heap.size (w4.heap.size + 1 + 1 + 1 + 1) (w4.heap.size + 1 + 1 + 1 + 1 + 1) x pre W) (fun _ _ _ => False) (AInv.own hwle (by omega)) (fun _ _ _ _ _ hs _ _ => hs) ?start
      (PlaceAx w5.heap.size (fun q b => { tmps := #[.agg #[.slice a x.ps.length cap, .int .i64 x.e0, .int .i64 x.e1, .int .i64 x.n0, .int .i64 x.n1, .int .i64 x.d0, .int .i64 x.d1, .int .i64 x.depth, .int .i64 x.times, .int .i64 x.gap], .pointer (some ⟨w.heap.size, 0, none⟩), .slice none 0 0, .pointer (some ⟨w.heap.size + 1, 0, none⟩), .pointer (some ⟨w1.heap.size, 0, none⟩), .pointer (some ⟨w4.heap.size + 1, 0, none⟩), .pointer (some ⟨w4.heap.size + 1 + 1, 0, none⟩), .pointer (some ⟨w4.heap.size + 1 + 1 + 1, 0, none⟩), .pointer (some ⟨w4.heap.size + 1 + 1 + 1 + 1, 0, none⟩), .pointer (some ⟨w4.heap.size + 1 + 1 + 1 + 1 + 1, 0, none⟩), .pointer (some ⟨b, 0, none⟩), undef,
        .agg #[.slice a x.ps.length cap, .int .i64 x.e0, .int .i64 x.e1, .int .i64 x.n0, .int .i64 x.n1, .int .i64 x.d0, .int .i64 x.d1, .int .i64 x.depth, .int .i64 x.times, .int .i64 x.gap], .pointer (some ⟨bf, 0, none⟩), u14, u15, u16, u17, u18, u19, .bool true, u21, .pointer (some ⟨bf, 0, none⟩), .slice ak (kindsOf x (placesL x)).length capk, .map (some w4.heap.size), .func (.func 40) #[] #[.pointer (some ⟨w4.heap.size + 1 + 1, 0, none⟩), .pointer (some ⟨w4.heap.size + 1, 0, none⟩), .pointer (some ⟨w4.heap.size + 1 + 1 + 1, 0, none⟩)], .pointer (some ⟨bf, 0, none⟩), .int .u64 (allN x : Int), .pointer (some ⟨bf, 0, none⟩), .func (.func 58) #[] #[.pointer (some ⟨w4.heap.size + 1 + 1 + 1 + 1 + 1 + 1, 0, none⟩)], placeV q,
        u31, u32, u33, u34, u35, u36, u37, u38, u39, u40, u41, u42, u43, u44, u45, u46, u47, u48, u49, u50, u51, u52, u53, u54, u55, u56, u57, u58, u59, u60, u61, u62], defers := [] })) (placeAx_own _ _ _) ?assign ?body ?done ?stop
    case assign =>
      intro l pre q W K hI hK
      dsimp only [encPl, placeV]
      gi_wp2
      refine hK _ _ ((KeepsOthers.alloc _ _).from _) ⟨(Below.refl _ _).alloc hI.up.size _, fun _ _ _ v hv => cell_kept hv (World.grownBy_alloc _ _ none) (fun r e => by cases e)⟩ ?_ ⟨W.heap.size, hI.sm.size, by simp, by go_simp, by go_simp, rfl⟩
      exact AInv.own hwle (by omega) pre W _ none hI (World.grownBy_alloc _ _ _) (fun r e => by cases e)
    case start =>
      exact ⟨HBL.out.up, SameBut.refl _ _, ⟨_, HTA.out.m, fun s v e => by cases e⟩, HTA.out.b8, _, HTA.out.b9, World.ownsRow_nil _ _ _ _⟩
    case body =>
      rintro l pre q a' W hl ⟨r, hr⟩ hI ⟨b, hbB, hbl2, q1, q2, rfl⟩ hlen3
      have hlen2 : pre.length < 1090 := Nat.lt_of_lt_of_le hlen3 (Nat.le_succ_of_le (places_len hv))
      have hfree := apart_free hlen pre
      have hat : atM x q < 4096 := Nat.lt_of_lt_of_le (maskN_lt _ _) (two_pow_le _ hlen)
      have hns := notsub (atM x q) (apartL x pre).2 hat hfree
      have hmi := minus_u64 (apartL x pre).2 (atM x q) hfree hat
      have hml := minusN_lt (k := atM x q) hfree
      have hsn1 : (atM x q &&& (apartL x pre).2 = atM x q ∧ 1 + mostX x (minusN (apartL x pre).2 (atM x q)) = mostX x (apartL x pre).2) → apartL x (pre ++ [q]) = ((apartL x pre).1 ++ [q], minusN (apartL x pre).2 (atM x q)) := fun h => by rw [apart_snoc]; unfold apartStep; rw [if_pos h]
      have hsn2 : ¬ (atM x q &&& (apartL x pre).2 = atM x q ∧ 1 + mostX x (minusN (apartL x pre).2 (atM x q)) = mostX x (apartL x pre).2) → apartL x (pre ++ [q]) = apartL x pre := fun h => by rw [apart_snoc]; unfold apartStep; rw [if_neg h]
      have hple := apart_len x pre
      have hks := kinds_pos hv HLI.out
      have hMe := fun free (h : free < 4096) => mostF_eq hks free h
      have hMb : ∀ free, free < 4096 → mostX x free ≤ 12 := fun free h => Nat.le_trans (mostF_le hks 4096 free h) (sizeN_le _)
      have hcall := fun free (h : free < 4096) W' (hC : MostC W' (w4.heap.size + 1 + 1) (w4.heap.size + 1) (w4.heap.size + 1 + 1 + 1) w4.heap.size (kindsOf x (placesL x)) (mostX x)) => most_calls _ _ _ _ _ (mostX x) hks hMe hMb 4096 free h h W' hC
      have hX := hI.sm.boxed HBL.out.b (not3 HBL.out.k4)
      have hf := hI.sm.field HBL.out.f (not3 HBL.out.kf)
      have hm := hI.sm.map HBL.out.m (not3 HBL.out.km)
      have cX := hX.cell; have lX := hX.lt
      have c11 := hf.c11; have lbf := hf.lt
      have hz : ∀ w, (zeroValue 61).run Try.prog w = .ok (.int .u64 0) w := fun w => Try.zeroValue61 w
      have hlk : ∀ g : GW W.heap.size W, (Instr.lookup 77 (.map (some mb)) (.agg #[.int .i64 q.1, .int .i64 q.2]) false).run Try.prog g.w = .ok (.int .u64 (atM x q : Int)) g.w := fun g => by
        have h1 : MapIs g.w mb placeV m := hm.of_heap (g.h.block mb hm.lt)
        have h2 := h1.lookup placeKeys Try.underlying77 hz q
        rw [HQ.out q] at h2
        exact h2
      have HI := Lib.hid hI; have HCALL := Lib.hid hcall; have HS1 := Lib.hid hsn1; have HS2 := Lib.hid hsn2; have HMB := Lib.hid hMb
      clear hX hf hm hI hcall hsn1 hsn2 hMe hMb hks hr
      generalize atM x q = k at *
      gi_wp2
      refine GW.regionR W (by kernel_rfl) (by kernel_rfl) (by kernel_rfl) (Up.refl _) ?_
      repeat (go_big_quiet_step (fail))
      refine wpQuiet_nil ?_
      rintro _ ⟨g, rfl⟩
      have hI3 := AInv.own hwle (by omega) pre W g.w none HI.out g.grown (fun r e => by cases e)
      have r1 : g.w.cell? ⟨b, 0, none⟩ = some (.int .i64 q.1) := cell_kept q1 g.grown (fun r e => by cases e)
      have r2 : g.w.cell? ⟨b, 1, none⟩ = some (.int .i64 q.2) := cell_kept q2 g.grown (fun r e => by cases e)
      have hbl3 : b < g.w.heap.size := Nat.lt_of_lt_of_le hbl2 g.h.size
      have HKF := Lib.hid (g.keeps w5.heap.size); have HSZ := Lib.hid g.h.size
      clear q1 q2 hlk cX lX c11 lbf
      generalize g.w = W3 at *
      have hMC := HBL.out.mostC hI3
      have c8 := hI3.fr.cell; have l8 := hI3.fr.lt
      have c7 := hMC.c3; have l7 := hMC.l3
      have hbm : b ≠ w4.heap.size := by omega
      have h8m : w4.heap.size + 1 + 1 + 1 + 1 ≠ w4.heap.size := by omega
      have h7m : w4.heap.size + 1 + 1 + 1 ≠ w4.heap.size := by omega
      have HI3 := Lib.hid hI3; have HMC := Lib.hid hMC
      clear hI3 hMC
      have hend : ∀ (act : Act) (W' : World), AInv w w5 w4.heap.size (w4.heap.size + 1 + 1 + 1 + 1) (w4.heap.size + 1 + 1 + 1 + 1 + 1) x (pre ++ [q]) W' → KeepsFrom w5.heap.size W3 W' → ownPostG w5.heap.size (KpG w.heap.size (w4.heap.size + 1 + 1 + 1 + 1 + 1 + 1) bf) (fun pre W => AInv w w5 w4.heap.size (w4.heap.size + 1 + 1 + 1 + 1) (w4.heap.size + 1 + 1 + 1 + 1 + 1) x pre W) (fun _ _ _ => False) (pre ++ [q]) W .normal act W' := fun act W' hA hK =>
        ⟨HKF.out.trans hK, HI.out.kpG hA (Nat.le_trans HSZ.out hK.size) rfl hxl (by omega) HBL.out.f.lt HBL.out.kf, hA⟩
      have HEND := Lib.hid hend; clear hend
      have h1 := fun g : MW W3 (w4.heap.size + 1 + 1) (w4.heap.size + 1) (w4.heap.size + 1 + 1 + 1) w4.heap.size (kindsOf x (placesL x)) (mostX x) => MW.call g (HCALL.out _ hml g.w g.c)
      have h2 := fun g : MW W3 (w4.heap.size + 1 + 1) (w4.heap.size + 1) (w4.heap.size + 1 + 1 + 1) w4.heap.size (kindsOf x (placesL x)) (mostX x) => MW.call g (HCALL.out _ hfree g.w g.c)
      have hm1 := HMB.out _ hml
      have hm2 := HMB.out _ hfree
      have hs1 := HS1.out; have hs2 := HS2.out
      clear HS1 HS2 HCALL HMB
      generalize hfr : (apartL x pre).2 = fr at *
      generalize minusN fr k = fr2 at *
      generalize mostX x fr = m2 at *
      generalize mostX x fr2 = m1 at *
      have HFR := Lib.hid hfr
      clear hfr
      by_cases hsub : k &&& fr = k
      · rw [decide_eq_true hsub] at hns
        have k8 : ∀ g : MW W3 (w4.heap.size + 1 + 1) (w4.heap.size + 1) (w4.heap.size + 1 + 1 + 1) w4.heap.size (kindsOf x (placesL x)) (mostX x), g.w.cell? ⟨w4.heap.size + 1 + 1 + 1 + 1, 0, none⟩ = some (.int .u64 (fr : Int)) := fun g => (World.cell?_of_block (g.g.block _ l8 (fun e => h8m (Option.some.inj e)))).trans c8
        have k7 : ∀ g : MW W3 (w4.heap.size + 1 + 1) (w4.heap.size + 1) (w4.heap.size + 1 + 1 + 1) w4.heap.size (kindsOf x (placesL x)) (mostX x), g.w.cell? ⟨w4.heap.size + 1 + 1 + 1, 0, none⟩ = some (.func (.func 40) #[] #[.pointer (some ⟨w4.heap.size + 1 + 1, 0, none⟩), .pointer (some ⟨w4.heap.size + 1, 0, none⟩), .pointer (some ⟨w4.heap.size + 1 + 1 + 1, 0, none⟩)]) := fun g => (World.cell?_of_block (g.g.block _ l7 (fun e => h7m (Option.some.inj e)))).trans c7
        have hne : Nonempty (MW W3 (w4.heap.size + 1 + 1) (w4.heap.size + 1) (w4.heap.size + 1 + 1 + 1) w4.heap.size (kindsOf x (placesL x)) (mostX x)) := ⟨⟨W3, World.grownBy.refl _ _, HMC.out⟩⟩
        by_cases heq : 1 + m1 = m2
        · have hst := hs1 ⟨hsub, heq⟩
          have hbe : ((1 + (m1 : Int)) == (m2 : Int)) = true := by simp only [beq_iff_eq]; omega
          have H1 := Lib.hid h1; have H2 := Lib.hid h2; have HST := Lib.hid hst
          clear h1 h2 hsub heq hst hs1 hs2
          gi_wp2
          refine regionR_C (C := fun w' => ∃ g : MW W3 (w4.heap.size + 1 + 1) (w4.heap.size + 1) (w4.heap.size + 1 + 1 + 1) w4.heap.size (kindsOf x (placesL x)) (mostX x), w' = g.w) (by kernel_rfl) (by kernel_rfl) (by kernel_rfl) (MW.drew HMC.out) ?_
          repeat (go_big_quiet_step (first | (go_at_call_of 40 fr2; exact H1.out _) | (go_at_call_of 40 fr; exact H2.out _)))
          refine wpQuiet_nil ?_
          rintro _ ⟨g2, rfl⟩
          have hI4 := HI3.out.known HBL.out g2.g g2.c.m
          have hK4 : KeepsFrom w5.heap.size W3 g2.w := KeepsFrom.of_grownBy g2.g (fun j e => by cases e; omega)
          obtain ⟨v, hb9, hown⟩ := hI4.st
          have hpush := push_calls (w4.heap.size + 1 + 1 + 1 + 1 + 1) w5.heap.size v _ _ q g2.w hb9 hown hI4.sm.size (by omega)
          have HP := Lib.hid hpush; have HI4 := Lib.hid hI4; have HK4 := Lib.hid hK4; have HB9 := Lib.hid hb9; have HOWN := Lib.hid hown
          clear hpush hI4 hK4 hb9 hown
          gi_wp2
          refine ⟨trivial, (CallsIn.inRound l (callsIn_wide.2 HP.out)).mono ?_⟩
          rintro e W5 ⟨rfl, gb, gcap, w1', hg, rfl, hbx, hrow⟩
          obtain ⟨hb8, hA, hK⟩ := HI4.out.take HBL.out HOWN.out hg hbx hrow HST.out
          rw [HFR.out] at hb8
          have c85 := hb8.cell; have f85 := hb8.frozen; have l85 := hb8.lt
          have HA := Lib.hid hA; have HK := Lib.hid (HK4.out.trans hK)
          clear hb8 hA hK hg hbx hrow
          generalize w1'.setCell _ _ = W5 at *
          gi_wp2
          exact HEND.out _ _ HA.out HK.out
        · have hst := hs2 (fun h => heq h.2)
          have hbe : ((1 + (m1 : Int)) == (m2 : Int)) = false := by simp only [beq_eq_false_iff_ne, ne_eq]; omega
          have H1 := Lib.hid h1; have H2 := Lib.hid h2; have HST := Lib.hid hst
          clear h1 h2 hsub heq hst hs1 hs2
          gi_wp2
          refine regionR_C (C := fun w' => ∃ g : MW W3 (w4.heap.size + 1 + 1) (w4.heap.size + 1) (w4.heap.size + 1 + 1 + 1) w4.heap.size (kindsOf x (placesL x)) (mostX x), w' = g.w) (by kernel_rfl) (by kernel_rfl) (by kernel_rfl) (MW.drew HMC.out) ?_
          repeat (go_big_quiet_step (first | (go_at_call_of 40 fr2; exact H1.out _) | (go_at_call_of 40 fr; exact H2.out _)))
          refine wpQuiet_nil ?_
          rintro _ ⟨g2, rfl⟩
          have hI4 := HI3.out.known HBL.out g2.g g2.c.m
          have hK4 : KeepsFrom w5.heap.size W3 g2.w := KeepsFrom.of_grownBy g2.g (fun j e => by cases e; omega)
          have HA := Lib.hid (hI4.skip HST.out); have HK := Lib.hid hK4
          clear hI4 hK4
          gi_wp2
          exact HEND.out _ _ HA.out HK.out
      · rw [decide_eq_false hsub] at hns
        have hst := hs2 (fun h => hsub h.1)
        have HST := Lib.hid hst
        clear h1 h2 hsub hst hs1 hs2
        gi_wp2
        refine GW.regionR W3 (by kernel_rfl) (by kernel_rfl) (by kernel_rfl) (Up.refl _) ?_
        repeat (go_big_quiet_step (fail))
        refine wpQuiet_nil ?_
        rintro _ ⟨g2, rfl⟩
        have hI4 := AInv.own hwle (by omega) pre W3 g2.w none HI3.out g2.grown (fun r e => by cases e)
        have HA := Lib.hid (hI4.skip HST.out); have HK := Lib.hid (g2.keeps w5.heap.size)
        clear hI4
        gi_wp2
        exact HEND.out _ _ HA.out HK.out
    case done =>
      rintro D ys W hD rfl hI hK
      obtain ⟨v, hb9, hown⟩ := hI.st
      have hE6 := hI.sm.boxed HBL.out.er (not3 HBL.out.ke)
      have HI := Lib.hid hI; have HK := Lib.hid hK; have HE6 := Lib.hid hE6
      have hlp := apart_len x (placesL x)
      have hlp2 := places_len hv
      have hall := all_stack (w4.heap.size + 1 + 1 + 1 + 1 + 1) w5.heap.size v _ _ W hb9 hown (by omega) (flat2_cell _)
      have HALL := Lib.hid hall
      clear hI hK hE6 hall hb9 hown
      gi_wp2
      refine ⟨trivial, (callsIn_wide.2 HALL.out).mono ?_⟩
      rintro e w6 ⟨v', rfl, hv', hb⟩
      have hE7 := boxed_below HE6.out (Nat.le_refl _) hb
      have cE := hE7.cell; have fE := hE7.frozen; have lE := hE7.lt
      have hK7 : w6.heap[D]? = some (.deferred (some [])) := (hb.block D (Array.getElem?_eq_some_iff.1 HK.out).1).trans HK.out
      have hU7 : Below w.heap.size w w6 := HI.out.up.trans (hb.mono HI.out.up.size)
      have hrow := ownsRow_base hv' HI.out.up.size
      have HV := Lib.hid hrow; have HE7 := Lib.hid hE7; have HK7 := Lib.hid hK7; have HU7 := Lib.hid hU7
      clear hv' hb hE7 hK7 hU7 hrow
      have hne : some (w.heap.size + 1) ≠ v'.ownBlock := HE7.out.not_row (by decide) HV.out
      have hwD : w.heap.size + 1 < D := by omega
      have hK8 : (w6.setCell ⟨w.heap.size + 1, 0, none⟩ (.int .i64 0)).heap[D]? = some (.deferred (some [])) := (Below.heap_setCell _ _ _ _ (by simp; omega)).trans HK7.out
      have hfin := fun tm h2 h3 => apart_leave (D := D) (v := v') tm (HU7.out.setCell (p := ⟨w.heap.size + 1, 0, none⟩) (by simp) (.int .i64 0)) (HE7.out.set (.int .i64 0)) (World.ownsRow.kept HV.out (grownBy_setCell' w6 (w.heap.size + 1) (.int .i64 0)) (.inr hne.symm)) hK8 hwD h2 h3
      have HFIN := Lib.hid hfin; clear hfin hK8 hne
      gi_wp2
      exact HFIN.out _ rfl rfl
    case stop =>
      rintro D c pre W _ _ h _
      exact h.elim

end Go.Proofs.Ytlfemkelnllmnaa
